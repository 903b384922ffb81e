import Derived.Test.YtggobapgdflchaaEvOp1
import Derived.Laws.CopyRow
import Derived.Laws.Cells
import Derived.Laws.Entries
import Derived.Laws.AppendOwn
set_option linter.unusedVariables false
namespace Go.Ev
open Go.RowKit

def isAggD : TypeDesc → Bool
  | .struct _ | .array _ _ => true
  | _ => false

def okTy (t : Ty) : Bool := t.leaf || t.isTop || t.isSt

structure TyOK (P : Program) (E : Env) (T : Nat) (t : Ty) : Prop where
  ok : okTy t = true
  und : ∃ d, P.underlying T = some d ∧ isAggD d = t.isSt
  info : ∃ i v, P.info? T = some i ∧ i.size = t.csize ∧ i.zero = some v ∧ (t.isTop = true → Value.one v = true) ∧ ∀ z, t.zero = some z → ∀ I w μ, R I w μ t false z [v]
  int : ∀ k, t = .int k → P.underlying T = some (.int k)
  str : t = .str → P.underlying T = some .string
  bool : t = .bool → P.underlying T = some .bool
  sl : ∀ u, t = .sl u → ∃ e, P.underlying T = some (.slice e) ∧ E.ty e = some u
  st : ∀ u, t = .st u → (∃ fs, P.underlying T = some (.struct fs) ∧ fs.size = chainLen u ∧ ∀ f, f < chainLen u → ∃ fd tf, fs[f]? = some fd ∧ fieldTy u f = some tf ∧ fd.offset = fieldOff u f ∧ fd.name ≠ "_" ∧ E.ty fd.type = some tf ∧ 0 < tf.csize) ∨
    (∃ n e, P.underlying T = some (.array n e) ∧ n = chainLen u ∧ 0 < n ∧ E.ty e = some (chainHd u) ∧ ∀ f, f < n → fieldTy u f = some (chainHd u) ∧ fieldOff u f = f * (chainHd u).csize)

structure CtrOK (P : Program) (c : Ctr) : Prop where
  calls : ∀ (I : Im) (w : World) (x : c.a.den) (us : List Value) (y : c.r.den), (∀ b o, I b o → b < w.heap.size) → R I w [] c.a false x us → c.G x = some y →
    Calls P c.f us.toArray w fun e w' => ∃ u, e = .returned u ∧ R (fun b o => I b o ∨ (w.heap.size ≤ b ∧ b < w'.heap.size)) w' [] c.r false y [u] ∧ Below w.heap.size w w'

structure EnvOK (P : Program) (E : Env) : Prop where
  tys : ∀ T t, E.ty T = some t → TyOK P E T t
  lims : ∀ T n e, look E.lim T = some n → P.underlying T = some (.slice e) → ∃ i, P.info? e = some i ∧ i.bytes = n ∧ 0 < n
  ctrs : ∀ c, c ∈ E.ctr → CtrOK P c
  fns : ∀ f fn, look E.fns f = some fn → P.funcs[f]? = some fn ∧ fn.name ≠ "runtime.NumGoroutine"
  strs : ∀ S, S ∈ E.strs → ∃ fs, P.underlying S = some (.struct fs)
  arrs : ∀ S, S ∈ E.arrs → ∃ n e, P.underlying S = some (.array n e)
  eqst : ∀ S t, S ∈ E.eqs → E.ty S = some (.st t) → P.eqGuardType P.depth S = false ∧ ∀ (I : Im) (w : World) (μ : List Nat) (x y : t.den) (u v : Value) (q : Bool), R I w μ (.st t) false x [u] → R I w μ (.st t) false y [v] → beqD t x y = some q → (Op.equalIn 10000 S u v).run P w = .ok q w
  cfns : ∀ c, c ∈ E.ctr → ∃ fn, P.funcs[c.f]? = some fn ∧ fn.name ≠ "runtime.NumGoroutine" ∧ fn.body.isSome = true

variable {P : Program} {E : Env} {I : Im} {w : World} {μ : List Nat}

theorem run_isAgg {T : Nat} {d : TypeDesc} (h : P.underlying T = some d) : (isAgg T).run P w = .ok (isAggD d) w := by
  unfold isAgg
  simp only [Sem.run_bind, run_underlying h, Result.andThen_ok]
  cases d <;> rfl

theorem run_typeInfo {T : Nat} {i : TypeInfo} (h : P.info? T = some i) : (typeInfo T).run P w = .ok i w := by
  unfold typeInfo
  simp [program, Sem.run, h]

theorem run_sizeOf {T : Nat} {i : TypeInfo} (h : P.info? T = some i) : (sizeOf T).run P w = .ok i.size w := by
  unfold sizeOf
  simp only [Sem.run_bind, run_typeInfo h, Result.andThen_ok]; rfl

theorem run_zeroValue {T : Nat} {i : TypeInfo} {v : Value} (h : P.info? T = some i) (hz : i.zero = some v) : (zeroValue T).run P w = .ok v w := by
  unfold zeroValue
  simp only [Sem.run_bind, run_typeInfo h, Result.andThen_ok, hz]; rfl

theorem run_load_some {a : Addr} {v : Value} (h : w.cell? a = some v) : (load a).run P w = .ok v w := by
  simp only [run_load, h]

/-- a load of a whole value -/
theorem run_loadVar_at {T : Nat} {t : Ty} (ht : TyOK P E T t) {u : Ty} (hu : t = u ∨ (t = .top ∧ u.leaf = true)) {ad : Addr} {cs : List Value} {x : u.den} (hr : R I w μ u true x cs)
    (hc : ∀ (j : Nat) v, cs[j]? = some v → w.cell? (ad.add j) = some v) : ∃ v, (loadVar T ad).run P w = .ok v w ∧ R I w μ u false x [v] := by
  obtain ⟨d, hd, hag⟩ := ht.und
  obtain ⟨i, z, hi, hsz, _⟩ := ht.info
  have hlen := R.size u x cs hr
  unfold loadVar
  simp only [Sem.run_bind, run_isAgg hd, Result.andThen_ok, hag]
  by_cases hst : t.isSt = true
  · -- an aggregate
    obtain rfl : t = u := by
      rcases hu with h | ⟨h, _⟩
      · exact h
      · rw [h] at hst; cases hst
    have hcs : (loadCells ad t.csize).run P w = .ok cs.toArray w := by
      have := run_loadCells_list (P := P) (w := w) ad cs hc
      rw [hlen] at this; exact this
    rw [hst]
    simp only [if_true, Sem.run_bind, run_sizeOf hi, Result.andThen_ok, hsz, hcs]
    refine ⟨_, rfl, ?_⟩
    cases t <;> simp [Ty.isSt] at hst
    exact ⟨cs, rfl, hr⟩
  · obtain ⟨v, rfl, h2⟩ : ∃ v, cs = [v] ∧ R I w μ u false x [v] := by
      by_cases hleaf : u.leaf = true
      · obtain ⟨v, e, h1, h2⟩ := R.leaf u hleaf x true cs hr
        subst e
        exact ⟨v, rfl, h2 false⟩
      · rcases hu with h | ⟨_, h⟩
        · subst h
          have := ht.ok
          unfold okTy at this
          simp only [Bool.or_eq_true] at this
          rcases this with (h | h) | h
          · exact absurd h hleaf
          · cases t <;> simp [Ty.isTop] at h
            obtain ⟨v, e⟩ := hr
            exact ⟨v, e, v, rfl⟩
          · exact absurd h hst
        · exact absurd h hleaf
    have : t.isSt = false := by simpa using hst
    rw [this]
    have hc0 := hc 0 v rfl
    rw [Addr.add_zero'] at hc0
    simp only [Bool.false_eq_true, if_false, run_load_some hc0]
    exact ⟨v, rfl, h2⟩

theorem proj_pr_zero (a b : Ty) (x : (Ty.pr a b).den) : proj (.pr a b) x 0 = some ⟨a, x.1⟩ := rfl
theorem proj_pr_succ (a b : Ty) (x : (Ty.pr a b).den) (n : Nat) : proj (.pr a b) x (n + 1) = proj b x.2 n := rfl
theorem fieldTy_pr_zero (a b : Ty) : fieldTy (.pr a b) 0 = some a := rfl
theorem fieldTy_pr_succ (a b : Ty) (n : Nat) : fieldTy (.pr a b) (n + 1) = fieldTy b n := rfl
theorem fieldOff_pr_succ (a b : Ty) (n : Nat) : fieldOff (.pr a b) (n + 1) = a.csize + fieldOff b n := rfl
theorem fieldOff_zero (a : Ty) : fieldOff a 0 = 0 := by cases a <;> rfl

def isPr : Ty → Bool
  | .pr _ _ => true
  | _ => false
theorem proj_other {t : Ty} (h : isPr t = false) (x : t.den) (n : Nat) (y : AV) (e : proj t x n = some y) : n = 0 ∧ y = ⟨t, x⟩ := by
  cases n with
  | zero => cases t <;> first | exact ⟨rfl, by injection e with e; exact e.symm⟩ | exact absurd h (by simp [isPr])
  | succ n => cases t <;> first | exact absurd e (by show ¬ (none = _); simp) | exact absurd h (by simp [isPr])

/-- a part of a value's cells -/
theorem proj_cells : ∀ (t : Ty) (x : t.den) (cs : List Value) (n : Nat) (y : AV), R I w μ t true x cs → proj t x n = some y →
    fieldTy t n = some y.ty ∧ ∃ c1 c2 c3, cs = c1 ++ c2 ++ c3 ∧ c1.length = fieldOff t n ∧ R I w μ y.ty true y.x c2 := by
  intro t
  induction t with
  | pr a b iha ihb =>
    rintro x cs n y ⟨d1, d2, rfl, h1, h2, _⟩ hp
    cases n with
    | zero =>
      rw [proj_pr_zero] at hp
      injection hp with hp; subst hp
      exact ⟨rfl, [], d1, d2, rfl, (fieldOff_zero _).symm, h1⟩
    | succ n =>
      rw [proj_pr_succ] at hp
      obtain ⟨e, c1, c2, c3, e1, e2, e3⟩ := ihb x.2 d2 n y h2 hp
      refine ⟨e, d1 ++ c1, c2, c3, by rw [e1]; simp, ?_, e3⟩
      rw [List.length_append, R.size _ _ _ h1, e2, fieldOff_pr_succ]
  | _ =>
    intro x cs n y hr hp
    obtain ⟨rfl, rfl⟩ := proj_other rfl x n y hp
    exact ⟨rfl, [], cs, [], by simp, (fieldOff_zero _).symm, hr⟩

/-- a component of a tuple -/
theorem proj_vals : ∀ (t : Ty) (x : t.den) (cs : List Value) (n : Nat) (y : AV), R I w μ t false x cs → proj t x n = some y → y.ty.single = true →
    ∃ v, cs[n]? = some v ∧ R I w μ y.ty false y.x [v] := by
  intro t
  induction t with
  | pr a b iha ihb =>
    rintro x cs n y ⟨d1, d2, rfl, h1, h2, h3⟩ hp hs
    have h3 := h3 rfl
    obtain ⟨v, rfl⟩ : ∃ v, d1 = [v] := by
      cases d1 with
      | nil => cases h3
      | cons v l => cases l with
        | nil => exact ⟨v, rfl⟩
        | cons _ _ => simp at h3
    cases n with
    | zero =>
      rw [proj_pr_zero] at hp
      injection hp with hp; subst hp
      exact ⟨v, rfl, h1⟩
    | succ n =>
      rw [proj_pr_succ] at hp
      obtain ⟨u, e1, e3⟩ := ihb x.2 d2 n y h2 hp hs
      exact ⟨u, by simpa using e1, e3⟩
  | _ =>
    intro x cs n y hr hp hs
    obtain ⟨rfl, rfl⟩ := proj_other rfl x n y hp
    obtain ⟨v, rfl⟩ := R.single _ hs _ _ hr
    exact ⟨v, rfl, hr⟩
end Go.Ev
