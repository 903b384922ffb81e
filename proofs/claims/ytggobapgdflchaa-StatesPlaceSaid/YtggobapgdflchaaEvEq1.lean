import Derived.Test.YtggobapgdflchaaEvTyEnv
import Derived.ChangeKeysEq
set_option linter.unusedVariables false
namespace Go.Ev
open Go.RowKit
variable {P : Program} {E : Env} {I : Im} {w : World} {μ : List Nat}

/-! Two values of a type that holds numbers, bools, strings alone, compared. -/

def tdep : Ty → Nat
  | .pr a b => Nat.max (tdep a) (tdep b)
  | .st t => tdep t + 1
  | _ => 0

def EqIH (P : Program) (E : Env) (d : Nat) : Prop := ∀ (t : Ty) (T : Nat), tdep t < d → E.ty T = some t → ∀ (I : Im) (w : World) (μ : List Nat) (x y : t.den) (u v : Value) (q : Bool),
  R I w μ t false x [u] → R I w μ t false y [v] → beqD t x y = some q → (Op.equalIn d T u v).run P w = .ok q w

theorem beqD_pr {a b : Ty} {x y : (Ty.pr a b).den} {q : Bool} (h : beqD (.pr a b) x y = some q) : ∃ p r, beqD a x.1 y.1 = some p ∧ beqD b x.2 y.2 = some r ∧ q = (p && r) := by
  unfold beqD at h
  cases h1 : beqD a x.1 y.1 with
  | none => rw [h1] at h; cases h
  | some p =>
    cases h2 : beqD b x.2 y.2 with
    | none => rw [h1, h2] at h; cases h
    | some r => rw [h1, h2] at h; simp at h; exact ⟨p, r, rfl, rfl, h.symm⟩

theorem eqFields_one (htys : ∀ T t, E.ty T = some t → TyOK P E T t) {d : Nat} (ih : EqIH P E d) (t : Ty) (x y : t.den) (fd : Field) (l : List Field) (xs ys cx cy px qx py qy : List Value) {q r : Bool}
    (hn : fd.name ≠ "_") (hT : E.ty fd.type = some t) (hd : tdep t < d) (ex : xs = px ++ cx ++ qx) (ey : ys = py ++ cy ++ qy) (lx : px.length = fd.offset) (ly : py.length = fd.offset)
    (rx : R I w μ t true x cx) (ry : R I w μ t true y cy) (hb : beqD t x y = some q) (hl : (Op.eqFields d xs.toArray ys.toArray l).run P w = .ok r w) :
    (Op.eqFields d xs.toArray ys.toArray (fd :: l)).run P w = .ok (q && r) w := by
  obtain ⟨u, hu, ru⟩ := run_part_at (htys _ _ hT) (cs := xs.toArray) (off := fd.offset) ex lx rx
  obtain ⟨v, hv, rv⟩ := run_part_at (htys _ _ hT) (cs := ys.toArray) (off := fd.offset) ey ly ry
  have hq := ih t fd.type hd hT I w μ x y u v q ru rv hb
  unfold Op.eqFields
  rw [if_pos hn]
  simp only [Sem.run_bind, hu, hv, hq, Result.andThen_ok]
  cases q with
  | false => rfl
  | true => simpa using hl

theorem eqFields_sound (htys : ∀ T t, E.ty T = some t → TyOK P E T t) {d : Nat} (ih : EqIH P E d) : ∀ (u : Ty) (x y : u.den) (l : List Field) (off : Nat) (xs ys cx cy px qx py qy : List Value) (q : Bool),
    l.length = chainLen u → (∀ f, f < chainLen u → ∃ fd tf, l[f]? = some fd ∧ fieldTy u f = some tf ∧ fd.offset = off + fieldOff u f ∧ fd.name ≠ "_" ∧ E.ty fd.type = some tf) → tdep u < d →
    xs = px ++ cx ++ qx → ys = py ++ cy ++ qy → px.length = off → py.length = off → R I w μ u true x cx → R I w μ u true y cy → beqD u x y = some q →
    (Op.eqFields d xs.toArray ys.toArray l).run P w = .ok q w := by
  have single : ∀ (u : Ty) (x y : u.den) (l : List Field) (off : Nat) (xs ys cx cy px qx py qy : List Value) (q : Bool), chainLen u = 1 → fieldTy u 0 = some u → fieldOff u 0 = 0 →
      l.length = chainLen u → (∀ f, f < chainLen u → ∃ fd tf, l[f]? = some fd ∧ fieldTy u f = some tf ∧ fd.offset = off + fieldOff u f ∧ fd.name ≠ "_" ∧ E.ty fd.type = some tf) → tdep u < d →
      xs = px ++ cx ++ qx → ys = py ++ cy ++ qy → px.length = off → py.length = off → R I w μ u true x cx → R I w μ u true y cy → beqD u x y = some q →
      (Op.eqFields d xs.toArray ys.toArray l).run P w = .ok q w := by
    intro u x y l off xs ys cx cy px qx py qy q h1 h2 h3 hl hf hd ex ey lx ly rx ry hb
    obtain ⟨fd, tf, g1, g2, g3, g4, g5⟩ := hf 0 (by omega)
    rw [h2] at g2; cases g2
    rw [h1] at hl
    match l, hl with
    | [fd'], _ =>
      have e : fd' = fd := by simpa using g1
      subst e
      have := eqFields_one htys ih u x y fd' [] xs ys cx cy px qx py qy g4 g5 hd ex ey (by omega) (by omega) rx ry hb (r := true) rfl
      simpa using this
  intro u
  induction u with
  | pr a b iha ihb =>
    rintro x y l off xs ys cx cy px qx py qy q hl hf hd ex ey lx ly ⟨c1, c2, rfl, rx1, rx2, _⟩ ⟨e1, e2, rfl, ry1, ry2, _⟩ hb
    obtain ⟨p, r, hp, hr, rfl⟩ := beqD_pr hb
    have hda : tdep a < d ∧ tdep b < d := by
      have hd : Nat.max (tdep a) (tdep b) < d := hd
      exact ⟨Nat.lt_of_le_of_lt (Nat.le_max_left _ _) hd, Nat.lt_of_le_of_lt (Nat.le_max_right _ _) hd⟩
    match l, hl with
    | fd :: l, hl =>
      obtain ⟨fd', tf, g1, g2, g3, g4, g5⟩ := hf 0 (by simp [chainLen])
      have e : fd = fd' := by simpa using g1
      subst e
      have g2 : some a = some tf := g2
      cases g2
      rw [fieldOff_zero] at g3
      refine eqFields_one htys ih a x.1 y.1 fd l xs ys c1 e1 px (c2 ++ qx) py (e2 ++ qy) g4 g5 hda.1 (by rw [ex]; simp) (by rw [ey]; simp) (by omega) (by omega) rx1 ry1 hp ?_
      have lc := R.size _ _ _ rx1
      have le := R.size _ _ _ ry1
      refine ihb x.2 y.2 l (off + a.csize) xs ys c2 e2 (px ++ c1) qx (py ++ e1) qy r (by simpa [chainLen] using hl) ?_ hda.2 (by rw [ex]; simp) (by rw [ey]; simp) (by simp; omega) (by simp; omega) rx2 ry2 hr
      intro f hlt
      obtain ⟨fd2, tf2, k1, k2, k3, k4, k5⟩ := hf (f + 1) (by simp only [chainLen]; omega)
      exact ⟨fd2, tf2, by simpa using k1, k2, by rw [k3, fieldOff_pr_succ]; omega, k4, k5⟩
  | unit =>
    intro x y l off xs ys cx cy px qx py qy q hl hf hd ex ey lx ly rx ry hb
    cases hb
  | _ =>
    intro x y l off xs ys cx cy px qx py qy q hl hf hd ex ey lx ly rx ry hb
    exact single _ x y l off xs ys cx cy px qx py qy q rfl rfl rfl hl hf hd ex ey lx ly rx ry hb

theorem eqItems_one (htys : ∀ T t, E.ty T = some t → TyOK P E T t) {d : Nat} (ih : EqIH P E d) (t : Ty) (e c j : Nat) (x y : t.den) (l : List Nat) (xs ys cx cy px qx py qy : List Value) {q r : Bool}
    (hT : E.ty e = some t) (hd : tdep t < d) (ex : xs = px ++ cx ++ qx) (ey : ys = py ++ cy ++ qy) (lx : px.length = j * c) (ly : py.length = j * c)
    (rx : R I w μ t true x cx) (ry : R I w μ t true y cy) (hb : beqD t x y = some q) (hl : (Op.eqItems d e c xs.toArray ys.toArray l).run P w = .ok r w) :
    (Op.eqItems d e c xs.toArray ys.toArray (j :: l)).run P w = .ok (q && r) w := by
  obtain ⟨u, hu, ru⟩ := run_part_at (htys _ _ hT) (cs := xs.toArray) (off := j * c) ex lx rx
  obtain ⟨v, hv, rv⟩ := run_part_at (htys _ _ hT) (cs := ys.toArray) (off := j * c) ey ly ry
  have hq := ih t e hd hT I w μ x y u v q ru rv hb
  unfold Op.eqItems
  simp only [Sem.run_bind, hu, hv, hq, Result.andThen_ok]
  cases q with
  | false => rfl
  | true => simpa using hl

theorem eqItems_sound (htys : ∀ T t, E.ty T = some t → TyOK P E T t) {d : Nat} (ih : EqIH P E d) (t : Ty) (e c : Nat) (hc : t.csize = c) (hT : E.ty e = some t) (hdt : tdep t < d) : ∀ (u : Ty) (x y : u.den) (j : Nat) (xs ys cx cy px qx py qy : List Value) (q : Bool),
    (∀ f, f < chainLen u → fieldTy u f = some t) →
    xs = px ++ cx ++ qx → ys = py ++ cy ++ qy → px.length = j * c → py.length = j * c → R I w μ u true x cx → R I w μ u true y cy → beqD u x y = some q →
    (Op.eqItems d e c xs.toArray ys.toArray (List.range' j (chainLen u))).run P w = .ok q w := by
  have single : ∀ (u : Ty) (x y : u.den) (j : Nat) (xs ys cx cy px qx py qy : List Value) (q : Bool), chainLen u = 1 → fieldTy u 0 = some u →
    (∀ f, f < chainLen u → fieldTy u f = some t) →
    xs = px ++ cx ++ qx → ys = py ++ cy ++ qy → px.length = j * c → py.length = j * c → R I w μ u true x cx → R I w μ u true y cy → beqD u x y = some q →
    (Op.eqItems d e c xs.toArray ys.toArray (List.range' j (chainLen u))).run P w = .ok q w := by
    intro u x y j xs ys cx cy px qx py qy q h1 h2 hf ex ey lx ly rx ry hb
    have := hf 0 (by omega)
    rw [h2] at this; cases this
    rw [h1]
    have := eqItems_one htys ih t e c j x y [] xs ys cx cy px qx py qy hT hdt ex ey lx ly rx ry hb (r := true) rfl
    simpa using this
  intro u
  induction u with
  | pr a b iha ihb =>
    rintro x y j xs ys cx cy px qx py qy q hf ex ey lx ly ⟨c1, c2, rfl, rx1, rx2, _⟩ ⟨e1, e2, rfl, ry1, ry2, _⟩ hb
    obtain ⟨p, r, hp, hr, rfl⟩ := beqD_pr hb
    have ha : a = t := by
      have : some a = some t := hf 0 (by simp [chainLen])
      injection this
    subst ha
    have lc := R.size _ _ _ rx1
    have le := R.size _ _ _ ry1
    rw [show chainLen (.pr a b) = chainLen b + 1 from rfl, List.range'_succ]
    refine eqItems_one htys ih a e c j x.1 y.1 _ xs ys c1 e1 px (c2 ++ qx) py (e2 ++ qy) hT hdt (by rw [ex]; simp) (by rw [ey]; simp) lx ly rx1 ry1 hp ?_
    exact ihb x.2 y.2 (j + 1) xs ys c2 e2 (px ++ c1) qx (py ++ e1) qy r (fun f hlt => hf (f + 1) (by simp only [chainLen]; omega)) (by rw [ex]; simp) (by rw [ey]; simp) (by simp only [List.length_append, Nat.succ_mul]; omega) (by simp only [List.length_append, Nat.succ_mul]; omega) rx2 ry2 hr
  | unit =>
    intro x y j xs ys cx cy px qx py qy q hf ex ey lx ly rx ry hb
    cases hb
  | _ =>
    intro x y j xs ys cx cy px qx py qy q hf ex ey lx ly rx ry hb
    exact single _ x y j xs ys cx cy px qx py qy q rfl rfl hf ex ey lx ly rx ry hb

theorem eqIn_sound (htys : ∀ T t, E.ty T = some t → TyOK P E T t) (hst : ∀ T t, E.ty T = some t → P.stoodInHeld T = false) : ∀ d, EqIH P E d
  | 0 => fun t T h => absurd h (Nat.not_lt_zero _)
  | d + 1 => by
    intro t T hd hT I w μ x y u v q hu hv hb
    have ht := htys T t hT
    cases t with
    | int k =>
      have e1 := int_of_R hu
      have e2 := int_of_R hv
      subst e1; subst e2
      have hb : some (eqI x y) = some q := hb
      injection hb with hb
      refine (run_equalIn_int w d T k k x y (ht.int k rfl)).trans ?_
      rw [← hb]
      rfl
    | bool =>
      have e1 := bool_of_R hu
      have e2 := bool_of_R hv
      subst e1; subst e2
      have hb : some (eqB x y) = some q := hb
      injection hb with hb
      refine (run_equalIn_bool' w d T x y (ht.bool rfl)).trans ?_
      rw [← hb]; rfl
    | str =>
      have e1 := str_of_R hu
      have e2 := str_of_R hv
      subst e1; subst e2
      have hb : some (eqS x y) = some q := hb
      injection hb with hb
      refine (run_equalIn_string w d T x y (ht.str rfl)).trans ?_
      rw [← hb]; rfl
    | st u0 =>
      obtain ⟨cx, rfl, rx⟩ : ∃ cx : List Value, u = .agg cx.toArray ∧ R I w μ u0 true x cx := by
        obtain ⟨arr, e, h⟩ := hu; exact ⟨arr, by injection e, h⟩
      obtain ⟨cy, rfl, ry⟩ : ∃ cy : List Value, v = .agg cy.toArray ∧ R I w μ u0 true y cy := by
        obtain ⟨arr, e, h⟩ := hv; exact ⟨arr, by injection e, h⟩
      have hd : tdep u0 < d := by have : tdep u0 + 1 < d + 1 := hd; omega
      have hb : beqD u0 x y = some q := hb
      rcases ht.st u0 rfl with ⟨fs, hu, hsz, hfs⟩ | ⟨n, e, hu, hn, hn0, he, hel⟩
      · have hfo : P.fieldsOf T = fs := by unfold Program.fieldsOf; rw [hu]
        rw [run_equalIn_struct w d T _ _ (by rw [hfo]; exact hu) (hst T _ hT), hfo]
        refine eqFields_sound htys (eqIn_sound htys hst d) u0 x y fs.toList 0 cx cy cx cy [] [] [] [] q (by simpa using hsz) ?_ hd (by simp) (by simp) rfl rfl rx ry hb
        intro f hf
        obtain ⟨fd, tf, g1, g2, g3, g4, g5, g6⟩ := hfs f hf
        exact ⟨fd, tf, by rw [Array.getElem?_toList]; exact g1, g2, by omega, g4, g5⟩
      · obtain ⟨i, z, hi, hisz, _⟩ := (htys e _ he).info
        have hce : P.cellsOf e = (chainHd u0).csize := by unfold Program.cellsOf; rw [hi]; exact hisz
        have hhd : tdep (chainHd u0) < d := by
          have : tdep (chainHd u0) ≤ tdep u0 := by
            cases u0 with
            | pr a b => exact Nat.le_max_left _ _
            | _ => exact Nat.le_refl _
          omega
        rw [run_equalIn_array w d _ _ hu hi, hn, List.range_eq_range']
        exact eqItems_sound htys (eqIn_sound htys hst d) (chainHd u0) e (P.cellsOf e) hce.symm he hhd u0 x y 0 cx cy cx cy [] [] [] [] q (fun f hf => (hel f (by omega)).1) (by simp) (by simp) (by simp) (by simp) rx ry hb
    | pr a b => have := ht.ok; simp [okTy, Ty.leaf, Ty.isTop, Ty.isSt] at this
    | _ => cases hb

def eqsB (P : Program) (tt : List (Nat × Ty)) (eqs : List Nat) : Bool := (tt.all fun p => !(P.stoodInHeld p.1) && Nat.blt (tdep p.2) 10000) && eqs.all fun S => !(P.eqGuardType P.depth S)

theorem eqs_of {tt : List (Nat × Ty)} {eqs : List Nat} (htys : (tt.all fun p => tyB P ⟨tt, [], [], [], [], [], [], [], 0⟩ p.1 p.2) = true) (h : eqsB P tt eqs = true) : ∀ S, S ∈ eqs → EqOK P ⟨tt, [], [], [], [], [], [], [], 0⟩ S := by
  intro S hS t ht
  unfold eqsB at h
  simp only [Bool.and_eq_true, List.all_eq_true, Bool.not_eq_true', Nat.blt_eq] at h
  have tys : ∀ T t, (⟨tt, [], [], [], [], [], [], [], 0⟩ : Env).ty T = some t → TyOK P ⟨tt, [], [], [], [], [], [], [], 0⟩ T t := fun T t hT => tyB_spec (List.all_eq_true.1 htys (T, t) (look_mem hT))
  refine ⟨h.2 S hS, fun I w μ x y u v q hu hv hb => ?_⟩
  exact eqIn_sound tys (fun T t hT => (h.1 (T, t) (look_mem hT)).1) 10000 (.st t) S (h.1 (S, .st t) (look_mem ht)).2 ht I w μ x y u v q hu hv hb
end Go.Ev
