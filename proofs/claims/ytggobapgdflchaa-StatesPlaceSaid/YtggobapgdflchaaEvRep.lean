import Derived.Test.YtggobapgdflchaaEvEval
import Derived.Below
namespace Go.Ev
open Go.RowKit

abbrev Im := Nat → Nat → Prop

def cellsAt (I : Im) (w : World) (a : Addr) (cs : List Value) : Prop :=
  ∀ i v, cs[i]? = some v → w.cell? (a.add i) = some v ∧ I a.block (a.off + i)

def RAll {α : Type} (Q : α → List Value → Prop) : List α → List Value → Prop
  | [], cs => cs = []
  | x :: l, cs => ∃ c1 c2, cs = c1 ++ c2 ∧ Q x c1 ∧ RAll Q l c2

def offAt (offs : List Nat) (j : Nat) : Option Nat := offs[j]?

/-- what of a value's cells (true), or of a chain of values (false) -/
def R (I : Im) (w : World) (μ : List Nat) : (t : Ty) → Bool → t.den → List Value → Prop
  | .top, _, _, cs => ∃ v, cs = [v]
  | .undef, _, _, cs => cs = [undef]
  | .int k, _, x, cs => cs = [.int k x]
  | .bool, _, x, cs => cs = [.bool x]
  | .str, _, x, cs => cs = [.string x]
  | .unit, _, _, cs => cs = []
  | .pr a b, m, x, cs => ∃ c1 c2, cs = c1 ++ c2 ∧ R I w μ a m x.1 c1 ∧ R I w μ b m x.2 c2 ∧ (m = false → c1.length = 1)
  | .st t, true, x, cs => R I w μ t true x cs
  | .st t, false, x, cs => ∃ arr : List Value, cs = [.agg arr.toArray] ∧ R I w μ t true x arr
  | .sl t, _, x, cs => ∃ a n cap cells, cs = [.slice a n cap] ∧ n = List.length x ∧ n ≤ cap ∧ RAll (R I w μ t true) x cells ∧
      (a = none → cap = 0) ∧ ∀ ad, a = some ad → cellsAt I w ad cells
  | .tup t, _, x, cs => ∃ arr : List Value, cs = [.tuple arr.toArray] ∧ R I w μ t false x arr
  | .fn f a c, _, x, cs => ∃ va vc : List Value, cs = [.func (.func f) va.toArray vc.toArray] ∧ R I w μ a false x.1 va ∧ R I w μ c false x.2 vc
  | .box i off, _, _, cs => ∃ b, μ[i]? = some b ∧ cs = [.pointer (some ⟨b, off, none⟩)]
  | .boxv i offs, _, j, cs => ∃ b off, μ[i]? = some b ∧ offAt offs j = some off ∧ cs = [.pointer (some ⟨b, off, none⟩)]
  | .ref t, _, x, cs => ∃ ad cells, cs = [.pointer (some ad)] ∧ cellsAt I w ad cells ∧ R I w μ t true x cells

structure Grow (I : Im) (w : World) (μ : List Nat) (I' : Im) (w' : World) (μ' : List Nat) : Prop where
  sub : ∀ b o, I b o → I' b o
  cell : ∀ a : Addr, I a.block a.off → w'.cell? a = w.cell? a
  pre : ∀ (i b : Nat), μ[i]? = some b → μ'[i]? = some b

theorem Grow.refl (I : Im) (w : World) (μ : List Nat) : Grow I w μ I w μ := ⟨fun _ _ h => h, fun _ _ => rfl, fun _ _ h => h⟩
theorem Grow.trans {I I' I'' : Im} {w w' w'' : World} {μ μ' μ'' : List Nat} (h : Grow I w μ I' w' μ') (k : Grow I' w' μ' I'' w'' μ'') : Grow I w μ I'' w'' μ'' :=
  ⟨fun b o q => k.sub b o (h.sub b o q), fun a q => (k.cell a (h.sub _ _ q)).trans (h.cell a q), fun i b q => k.pre i b (h.pre i b q)⟩

theorem Grow.len {I I' : Im} {w w' : World} {μ μ' : List Nat} (h : Grow I w μ I' w' μ') : μ.length ≤ μ'.length := by
  cases hm : μ.length with
  | zero => exact Nat.zero_le _
  | succ j =>
    have h1 : j < μ.length := by omega
    have h2 := h.pre j _ (List.getElem?_eq_getElem h1)
    have := (List.getElem?_eq_some_iff.1 h2).1
    omega

theorem add_block (a : Addr) (n : Nat) : (a.add n).block = a.block := by unfold Addr.add; split <;> rfl
theorem add_off (a : Addr) (n : Nat) : (a.add n).off = a.off + n := by unfold Addr.add; split <;> simp_all

theorem cellsAt.grow {I I' : Im} {w w' : World} {μ μ' : List Nat} (g : Grow I w μ I' w' μ') {a : Addr} {cs : List Value} (h : cellsAt I w a cs) : cellsAt I' w' a cs := by
  intro i v hv
  obtain ⟨h1, h2⟩ := h i v hv
  refine ⟨?_, g.sub _ _ h2⟩
  rw [g.cell (a.add i) (by rw [add_block, add_off]; exact h2), h1]

theorem RAll.mono {α : Type} {Q Q' : α → List Value → Prop} (h : ∀ x cs, Q x cs → Q' x cs) : ∀ (l : List α) cs, RAll Q l cs → RAll Q' l cs
  | [], _, k => k
  | _ :: l, _, ⟨c1, c2, e, q, k⟩ => ⟨c1, c2, e, h _ _ q, RAll.mono h l c2 k⟩

theorem R.grow {I I' : Im} {w w' : World} {μ μ' : List Nat} (g : Grow I w μ I' w' μ') : ∀ (t : Ty) (m : Bool) (x : t.den) (cs : List Value), R I w μ t m x cs → R I' w' μ' t m x cs := by
  intro t
  induction t with
  | top => intro m x cs h; exact h
  | undef => intro m x cs h; exact h
  | int k => intro m x cs h; exact h
  | bool => intro m x cs h; exact h
  | str => intro m x cs h; exact h
  | unit => intro m x cs h; exact h
  | pr a b iha ihb => rintro m x cs ⟨c1, c2, e, h1, h2, h3⟩; exact ⟨c1, c2, e, iha m _ _ h1, ihb m _ _ h2, h3⟩
  | st t ih =>
    intro m x cs h
    cases m with
    | true => exact ih true x cs h
    | false => obtain ⟨arr, e, h⟩ := h; exact ⟨arr, e, ih true x _ h⟩
  | sl t ih =>
    rintro m x cs ⟨a, n, cap, cells, e, hn, hc, hA, h0, h⟩
    exact ⟨a, n, cap, cells, e, hn, hc, RAll.mono (fun x cs => ih true x cs) _ _ hA, h0, fun ad ha => (h ad ha).grow g⟩
  | tup t ih => rintro m x cs ⟨arr, e, h⟩; exact ⟨arr, e, ih false x _ h⟩
  | fn f a c iha ihc => rintro m x cs ⟨va, vc, e, h1, h2⟩; exact ⟨va, vc, e, iha false _ _ h1, ihc false _ _ h2⟩
  | box i off => rintro m x cs ⟨b, hb, e⟩; exact ⟨b, g.pre _ _ hb, e⟩
  | boxv i offs => rintro m x cs ⟨b, off, hb, ho, e⟩; exact ⟨b, off, g.pre _ _ hb, ho, e⟩
  | ref t ih => rintro m x cs ⟨ad, cells, e, hc, h⟩; exact ⟨ad, cells, e, hc.grow g, ih true _ _ h⟩

/-- cut the list of boxes: what names none of those that fall is as it was -/
theorem R.take {I : Im} {w : World} {μ : List Nat} (n : Nat) : ∀ (t : Ty) (m : Bool) (x : t.den) (cs : List Value), boxFree n t = true → R I w μ t m x cs → R I w (μ.take n) t m x cs := by
  intro t
  induction t with
  | top => intro m x cs _ h; exact h
  | undef => intro m x cs _ h; exact h
  | int k => intro m x cs _ h; exact h
  | bool => intro m x cs _ h; exact h
  | str => intro m x cs _ h; exact h
  | unit => intro m x cs _ h; exact h
  | pr a b iha ihb =>
    rintro m x cs hf ⟨c1, c2, e, h1, h2, h3⟩
    simp only [boxFree, Bool.and_eq_true] at hf
    exact ⟨c1, c2, e, iha m _ _ hf.1 h1, ihb m _ _ hf.2 h2, h3⟩
  | st t ih =>
    intro m x cs hf h
    cases m with
    | true => exact ih true x cs hf h
    | false => obtain ⟨arr, e, h⟩ := h; exact ⟨arr, e, ih true x _ hf h⟩
  | sl t ih =>
    rintro m x cs hf ⟨a, k, cap, cells, e, hn, hc, hA, h0, h⟩
    exact ⟨a, k, cap, cells, e, hn, hc, RAll.mono (fun x cs => ih true x cs hf) _ _ hA, h0, h⟩
  | tup t ih => rintro m x cs hf ⟨arr, e, h⟩; exact ⟨arr, e, ih false x _ hf h⟩
  | fn f a c iha ihc =>
    rintro m x cs hf ⟨va, vc, e, h1, h2⟩
    simp only [boxFree, Bool.and_eq_true] at hf
    exact ⟨va, vc, e, iha false _ _ hf.1 h1, ihc false _ _ hf.2 h2⟩
  | box i off =>
    rintro m x cs hf ⟨b, hb, e⟩
    have hf : i < n := by simpa [boxFree, Nat.blt_eq] using hf
    exact ⟨b, by rw [List.getElem?_take, if_pos hf]; exact hb, e⟩
  | boxv i offs =>
    rintro m x cs hf ⟨b, off, hb, ho, e⟩
    have hf : i < n := by simpa [boxFree, Nat.blt_eq] using hf
    exact ⟨b, off, by rw [List.getElem?_take, if_pos hf]; exact hb, ho, e⟩
  | ref t ih => rintro m x cs hf ⟨ad, cells, e, hc, h⟩; exact ⟨ad, cells, e, hc, ih true _ _ hf h⟩

/-- no boxes named -/
theorem R.size {I : Im} {w : World} {μ : List Nat} : ∀ (t : Ty) (x : t.den) (cs : List Value), R I w μ t true x cs → cs.length = t.csize := by
  intro t
  induction t with
  | pr a b iha ihb => rintro x cs ⟨c1, c2, rfl, h1, h2, _⟩; simp [Ty.csize, iha _ _ h1, ihb _ _ h2]
  | st t ih => intro x cs h; exact ih x cs h
  | unit => intro x cs h; cases h; rfl
  | top => rintro x cs ⟨v, rfl⟩; rfl
  | undef => intro x cs h; cases h; rfl
  | int k => intro x cs h; cases h; rfl
  | bool => intro x cs h; cases h; rfl
  | str => intro x cs h; cases h; rfl
  | sl t _ => rintro x cs ⟨a, k, cap, cells, rfl, _⟩; rfl
  | tup t _ => rintro x cs ⟨a, rfl, _⟩; rfl
  | fn f a c _ _ => rintro x cs ⟨a, c, rfl, _⟩; rfl
  | box i off => rintro x cs ⟨b, _, rfl⟩; rfl
  | boxv i off => rintro x cs ⟨b, _, _, _, rfl⟩; rfl
  | ref t _ => rintro x cs ⟨b, _, rfl, _⟩; rfl

def Value.one : Value → Bool
  | .agg _ | .tuple _ => false
  | _ => true

theorem R.leaf {I : Im} {w : World} {μ : List Nat} (t : Ty) (ht : t.leaf = true) (x : t.den) (m : Bool) (cs : List Value) (h : R I w μ t m x cs) :
    ∃ v, cs = [v] ∧ Value.one v = true ∧ ∀ m', R I w μ t m' x cs := by
  cases t with
  | top => cases ht
  | undef => cases ht
  | unit => cases ht
  | pr a b => cases ht
  | st t => cases ht
  | tup t => cases ht
  | int k => exact ⟨_, h, rfl, fun _ => h⟩
  | bool => exact ⟨_, h, rfl, fun _ => h⟩
  | str => exact ⟨_, h, rfl, fun _ => h⟩
  | sl t => have k := h; obtain ⟨a, n, cap, cells, e, _⟩ := h; exact ⟨_, e, rfl, fun _ => k⟩
  | fn f a c => have k := h; obtain ⟨va, vc, e, _⟩ := h; exact ⟨_, e, rfl, fun _ => k⟩
  | box i off => have k := h; obtain ⟨b, _, e⟩ := h; exact ⟨_, e, rfl, fun _ => k⟩
  | boxv i off => have k := h; obtain ⟨b, _, _, _, e⟩ := h; exact ⟨_, e, rfl, fun _ => k⟩
  | ref t => have k := h; obtain ⟨b, _, e, _⟩ := h; exact ⟨_, e, rfl, fun _ => k⟩

theorem R.single {I : Im} {w : World} {μ : List Nat} (t : Ty) (ht : t.single = true) (x : t.den) (cs : List Value) (h : R I w μ t false x cs) : ∃ v, cs = [v] := by
  cases t with
  | pr a b => cases ht
  | unit => cases ht
  | top => exact h
  | undef => exact ⟨_, h⟩
  | int k => exact ⟨_, h⟩
  | bool => exact ⟨_, h⟩
  | str => exact ⟨_, h⟩
  | st t => obtain ⟨a, e, _⟩ := h; exact ⟨_, e⟩
  | tup t => obtain ⟨a, e, _⟩ := h; exact ⟨_, e⟩
  | sl t => obtain ⟨a, n, cap, cells, e, _⟩ := h; exact ⟨_, e⟩
  | fn f a c => obtain ⟨va, vc, e, _⟩ := h; exact ⟨_, e⟩
  | box i off => obtain ⟨b, _, e⟩ := h; exact ⟨_, e⟩
  | boxv i off => obtain ⟨b, _, _, _, e⟩ := h; exact ⟨_, e⟩
  | ref t => obtain ⟨b, _, e, _⟩ := h; exact ⟨_, e⟩

theorem castTo_some {t : Ty} {v : AV} {y : t.den} (h : castTo t v = some y) : v = ⟨t, y⟩ := by
  unfold castTo at h
  split at h
  · rename_i e
    obtain ⟨u, x⟩ := v
    cases e
    cases h
    rfl
  · cases h
theorem castTo_self (t : Ty) (x : t.den) : castTo t ⟨t, x⟩ = some x := by unfold castTo; simp

end Go.Ev
