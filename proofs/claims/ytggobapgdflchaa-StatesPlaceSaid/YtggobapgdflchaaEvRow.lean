import Derived.Test.YtggobapgdflchaaEvKit
import Derived.ProofKit
import Derived.WalkKit
import Derived.OpenShut
import Derived.ShutString
import Derived.ChangeOld
import Derived.SizedLaws
import Derived.Carry
set_option linter.unusedVariables false
namespace Go.Ev
open Go.RowKit
variable {P : Program} {E : Env}

/-! What stands in the arguments: from a reading to values. -/

def rngI (k : IntKind) (x : Int) : Prop := (Lit.int k x).wf = true
def rngS (x : ByteArray) : Prop := x.size ≤ maxLen

def RngL {α : Type} (Q : α → Prop) (l : List α) : Prop := ∀ y, y ∈ l → Q y

def Rng : (t : Ty) → t.den → Prop
  | .int k, x => rngI k x
  | .str, x => rngS x
  | .sl t, l => List.length l ≤ maxLen ∧ RngL (Rng t) l
  | .pr a b, x => Rng a x.1 ∧ Rng b x.2
  | .st t, x => Rng t x
  | _, _ => True

def plainT : Ty → Bool
  | .int _ | .bool | .str | .unit => true
  | .sl t | .st t => plainT t
  | .pr a b => plainT a && plainT b
  | _ => false

/-- all that is there -/
def I0 (w : World) : Im := fun b _ => b < w.heap.size

theorem RAll.snoc {α : Type} {Q : α → List Value → Prop} : ∀ {l : List α} {cs : List Value} {x : α} {c : List Value}, RAll Q l cs → Q x c → RAll Q (l ++ [x]) (cs ++ c)
  | [], cs, x, c, h, k => by
    have h : cs = [] := h
    subst h
    exact ⟨c, [], by simp, k, rfl⟩
  | y :: l, cs, x, c, ⟨c1, c2, e, h1, h2⟩, k => by
    subst e
    exact ⟨c1, c2 ++ c, by simp, h1, RAll.snoc h2 k⟩

theorem cell_lt {w : World} {a : Addr} {v : Value} (h : w.cell? a = some v) : a.block < w.heap.size := by
  unfold World.cell? at h
  cases hb : w.heap[a.block]? with
  | none => rw [hb] at h; simp at h
  | some o => exact (Array.getElem?_eq_some_iff.1 hb).1

theorem chain_of {w : World} : ∀ (u : Ty) (cs : List Value), cs.length = u.csize →
    (∀ f tf, f < chainLen u → fieldTy u f = some tf → ∃ z, R (I0 w) w [] tf true z ((cs.drop (fieldOff u f)).take tf.csize) ∧ Rng tf z) → ∃ z, R (I0 w) w [] u true z cs ∧ Rng u z := by
  intro u
  induction u with
  | pr a b iha ihb =>
    intro cs hl h
    obtain ⟨x, hx, rx⟩ := h 0 a (by simp [chainLen]) rfl
    have hl : cs.length = a.csize + b.csize := hl
    obtain ⟨y, hy, ry⟩ := ihb (cs.drop a.csize) (by rw [List.length_drop]; omega) fun f tf hf ht => by
      obtain ⟨z, hz, rz⟩ := h (f + 1) tf (by simp only [chainLen]; omega) ht
      refine ⟨z, ?_, rz⟩
      rw [List.drop_drop]
      exact hz
    refine ⟨(x, y), ⟨cs.take a.csize, cs.drop a.csize, (List.take_append_drop _ _).symm, ?_, hy, fun e => by cases e⟩, rx, ry⟩
    simpa [fieldOff] using hx
  | unit =>
    intro cs hl h
    have hl : cs.length = 0 := hl
    exact ⟨(), List.length_eq_zero_iff.1 hl, trivial⟩
  | _ =>
    intro cs hl h
    obtain ⟨z, hz, rz⟩ := h 0 _ (by simp [chainLen]) rfl
    refine ⟨z, ?_, rz⟩
    rw [fieldOff_zero, List.drop_zero, ← hl, List.take_length] at hz
    exact hz

theorem plain_field : ∀ (u : Ty) (f : Nat) (tf : Ty), plainT u = true → fieldTy u f = some tf → plainT tf = true := by
  intro u
  induction u with
  | pr a b iha ihb =>
    intro f tf hp hf
    simp only [plainT, Bool.and_eq_true] at hp
    cases f with
    | zero => cases hf; exact hp.1
    | succ f => exact ihb f tf hp.2 hf
  | _ =>
    intro f tf hp hf
    cases f with
    | zero => cases hf; exact hp
    | succ f => cases hf

theorem cellsOf_eq {T : Nat} {t : Ty} (h : TyOK P E T t) : P.cellsOf T = t.csize := by
  obtain ⟨i, v, hi, hs, _⟩ := h.info
  unfold Program.cellsOf
  rw [hi]; exact hs

section
variable {H : Type} {enc : TypeId × Value → H} {w : World} {held : Bool} {sp : Nat → Bool} {fuel T : Nat} {cs : List Value} {x : DataW H × List MemPlace}
theorem trod_int {k : IntKind} (hu : P.underlying T = some (.int k)) (h : DataW.trod enc P w 0 sp held (fuel + 1) T cs = some x) : ∃ n, cs = [.int k n] ∧ (Lit.int k n).wf = true := by
  unfold DataW.trod at h
  rw [hu] at h
  split at h <;> simp_all
theorem trod_bool (hu : P.underlying T = some .bool) (h : DataW.trod enc P w 0 sp held (fuel + 1) T cs = some x) : ∃ b, cs = [.bool b] := by
  unfold DataW.trod at h
  rw [hu] at h
  split at h <;> simp_all
theorem trod_str (hu : P.underlying T = some .string) (h : DataW.trod enc P w 0 sp held (fuel + 1) T cs = some x) : ∃ s : ByteArray, cs = [.string s] ∧ s.size ≤ maxLen := by
  unfold DataW.trod at h
  rw [hu] at h
  split at h <;> simp_all
theorem trod_slice {e : Nat} (hu : P.underlying T = some (.slice e)) (h : DataW.trod enc P w 0 sp held (fuel + 1) T cs = some x) :
    cs = [.slice none 0 0] ∨ ∃ a len cap elems, cs = [.slice (some a) len cap] ∧ len ≤ cap ∧ cap ≤ maxLen ∧ (List.range len).mapM (fun i => (w.cells? 0 (a.add (i * P.cellsOf e)) (P.cellsOf e)).bind (DataW.trod enc P w 0 sp held fuel e)) = some elems := by
  unfold DataW.trod at h
  rw [hu] at h
  split at h <;> simp_all
  rename_i e' a len cap he
  obtain ⟨hl, h⟩ := h
  obtain ⟨els, h1, _⟩ := Option.bind_eq_some_iff.1 h
  subst he
  exact ⟨a, len, cap, ⟨rfl, rfl, rfl⟩, hl.1, hl.2, els, h1⟩
theorem trod_struct {fs : Array Field} (hu : P.underlying T = some (.struct fs)) (h : DataW.trod enc P w 0 sp held (fuel + 1) T cs = some x) :
    cs.length = P.cellsOf T ∧ ∃ xs, fs.toList.mapM (fun f => DataW.trod enc P w 0 sp held fuel f.type ((cs.drop f.offset).take (P.cellsOf f.type))) = some xs := by
  unfold DataW.trod at h
  rw [hu] at h
  split at h <;> simp_all
  obtain ⟨_, xs, h3, _⟩ := h
  exact ⟨xs, h3⟩
theorem trod_array {n e : Nat} (hu : P.underlying T = some (.array n e)) (h : DataW.trod enc P w 0 sp held (fuel + 1) T cs = some x) :
    cs.length = P.cellsOf T ∧ ∃ xs, (List.range n).mapM (fun i => DataW.trod enc P w 0 sp held fuel e ((cs.drop (i * P.cellsOf e)).take (P.cellsOf e))) = some xs := by
  unfold DataW.trod at h
  rw [hu] at h
  split at h <;> simp_all
  obtain ⟨_, xs, h3, _⟩ := h
  exact ⟨xs, h3⟩
end

theorem add0 (a : Addr) : a.add 0 = a := Addr.add_zero' a

theorem trod_R {H : Type} {enc : TypeId × Value → H} {w : World} {held : Bool} {sp : Nat → Bool} (hE : ∀ T t, E.ty T = some t → TyOK P E T t) :
    ∀ (fuel T : Nat) (t : Ty) (cs : List Value) (x : DataW H × List MemPlace), E.ty T = some t → plainT t = true → DataW.trod enc P w 0 sp held fuel T cs = some x → ∃ z, R (I0 w) w [] t true z cs ∧ Rng t z := by
  intro fuel
  induction fuel with
  | zero => intro T t cs x _ _ h; simp [DataW.trod] at h
  | succ fuel ih =>
    intro T t cs x hT hp h
    have ht := hE T t hT
    cases t with
    | int k =>
      obtain ⟨n, rfl, hw⟩ := trod_int (ht.int k rfl) h
      exact ⟨n, rfl, hw⟩
    | bool =>
      obtain ⟨b, rfl⟩ := trod_bool (ht.bool rfl) h
      exact ⟨b, rfl, trivial⟩
    | str =>
      obtain ⟨s, rfl, hs⟩ := trod_str (ht.str rfl) h
      exact ⟨s, rfl, hs⟩
    | sl u =>
      obtain ⟨e, hu, he⟩ := ht.sl u rfl
      have hec := cellsOf_eq (hE e u he)
      rcases trod_slice hu h with rfl | ⟨a, len, cap, elems, rfl, h1, h2, h3⟩
      · exact ⟨([] : List u.den), R_nilslice u true, by simp, fun y hy => by cases hy⟩
      · have key : ∀ n, n ≤ len → ∃ (zs : List u.den) (cells : List Value), zs.length = n ∧ cells.length = n * u.csize ∧ RAll (R (I0 w) w [] u true) zs cells ∧ cellsAt (I0 w) w a cells ∧ ∀ y, y ∈ zs → Rng u y := by
          intro n
          induction n with
          | zero => intro _; exact ⟨[], [], rfl, by simp, rfl, by intro i v hv; simp at hv, fun y hy => by cases hy⟩
          | succ n ihn =>
            intro hn
            obtain ⟨zs, cells, l1, l2, l3, l4, l5⟩ := ihn (by omega)
            have hg := mapM_some_get h3 n n (by rw [List.getElem?_range (by omega)])
            have hlen := mapM_some_length h3
            have hlt : n < elems.length := by rw [hlen, List.length_range]; omega
            rw [List.getElem?_eq_getElem hlt] at hg
            obtain ⟨row, hr, hy⟩ := Option.bind_eq_some_iff.1 hg
            obtain ⟨_, r1, r2⟩ := World.cells?_some hr
            obtain ⟨z, hz, rz⟩ := ih e u row _ he hp hy
            refine ⟨zs ++ [z], cells ++ row, by simp [l1], by rw [List.length_append, l2, r1, hec, Nat.succ_mul], RAll.snoc l3 hz, ?_, ?_⟩
            · intro i v hv
              rw [List.getElem?_append] at hv
              split at hv
              · exact l4 i v hv
              · rename_i hi
                rw [l2] at hv hi
                have hj : i - n * u.csize < P.cellsOf e := by
                  have := (List.getElem?_eq_some_iff.1 hv).1
                  omega
                have hc := r2 (i - n * u.csize) hj
                rw [Addr.add_add, hec, show n * u.csize + (i - n * u.csize) = i by omega, hv] at hc
                refine ⟨hc, ?_⟩
                have := cell_lt hc
                rw [add_block] at this
                exact this
            · intro y hy
              rcases List.mem_append.1 hy with hy | hy
              · exact l5 y hy
              · rw [List.mem_singleton.1 hy]; exact rz
        obtain ⟨zs, cells, l1, l2, l3, l4, l5⟩ := key len (Nat.le_refl _)
        refine ⟨zs, ⟨some a, len, cap, cells, rfl, l1.symm, h1, l3, (by intro e; cases e), fun ad ha => by cases ha; exact l4⟩, ?_, l5⟩
        show zs.length ≤ maxLen
        omega
    | st u =>
      have chain : cs.length = P.cellsOf T → (∀ f tf, f < chainLen u → fieldTy u f = some tf → ∃ e y, E.ty e = some tf ∧ DataW.trod enc P w 0 sp held fuel e ((cs.drop (fieldOff u f)).take (P.cellsOf e)) = some y) → ∃ z, R (I0 w) w [] (.st u) true z cs ∧ Rng (.st u) z := by
        rintro hl hall
        rw [cellsOf_eq ht] at hl
        refine chain_of u cs hl fun f tf hf htf => ?_
        obtain ⟨e, y, he, hy⟩ := hall f tf hf htf
        rw [cellsOf_eq (hE e tf he)] at hy
        exact ih e tf _ y he (plain_field u f tf hp htf) hy
      rcases ht.st u rfl with ⟨fs, hu, hsz, hfs⟩ | ⟨n, e, hu, hn, hn0, he, hel⟩
      · obtain ⟨hl, xs, hx⟩ := trod_struct hu h
        refine chain hl fun f tf hf htf => ?_
        obtain ⟨fd, tf', g1, g2, g3, g4, g5, g6⟩ := hfs f hf
        rw [g2] at htf; cases htf
        have := mapM_some_get hx f fd (by rw [Array.getElem?_toList]; exact g1)
        have hlen := mapM_some_length hx
        have hlt : f < xs.length := by rw [hlen, Array.length_toList, hsz]; exact hf
        rw [List.getElem?_eq_getElem hlt, g3] at this
        exact ⟨fd.type, _, g5, this⟩
      · obtain ⟨hl, xs, hx⟩ := trod_array hu h
        refine chain hl fun f tf hf htf => ?_
        obtain ⟨g1, g2⟩ := hel f (by omega)
        rw [g1] at htf; cases htf
        have := mapM_some_get hx f f (by rw [List.getElem?_range (by omega)])
        have hlen := mapM_some_length hx
        have hlt : f < xs.length := by rw [hlen, List.length_range]; omega
        have hec := cellsOf_eq (hE e _ he)
        rw [List.getElem?_eq_getElem hlt, hec, ← g2, ← hec] at this
        exact ⟨e, _, he, this⟩
    | _ => first | (simp [plainT] at hp; done) | (have := ht.ok; simp [okTy, Ty.leaf, Ty.isTop, Ty.isSt] at this)

open Go.ChangeShapes Go.WideShapes Go.ChangeAt
open Go.ChangeMaps (open_string shut_string)

/-- an argument -/
theorem arg_R {H : Type} {enc : TypeId × Value → H} {w : World} {base : Nat} {T : Nat} {t : Ty} {v : Value} {d : DataW H} {ps : List MemPlace} (hE : ∀ T t, E.ty T = some t → TyOK P E T t) (hT : E.ty T = some t) (hp : plainT t = true)
    (hok : Value.okWide P w .any base T v) (hd : DataW.Trod enc P w 0 (fun _ => true) true T v d ps) : ∃ z, R (I0 w) w [] t false z [v] ∧ Rng t z := by
  have ht := hE T t hT
  have hd0 := hd
  obtain ⟨fuel, hf⟩ := hd
  obtain ⟨z, hz, rz⟩ := trod_R hE fuel T t _ _ hT hp hf
  refine ⟨z, ?_, rz⟩
  cases t with
  | int k =>
    obtain ⟨n, rfl, _, _, _⟩ := open_int (ht.int k rfl) hok hd0
    exact hz
  | bool =>
    obtain ⟨b, rfl, _, _⟩ := open_bool (ht.bool rfl) hok hd0
    exact hz
  | str =>
    obtain ⟨b, rfl, _, _, _⟩ := open_string (ht.str rfl) hok hd0
    exact hz
  | sl u =>
    obtain ⟨e, hu, he⟩ := ht.sl u rfl
    obtain ⟨a0, len, cap, rfl⟩ := okWide_slice hu hok
    exact hz
  | st u =>
    have : ∃ cs, v = .agg cs := by
      unfold Value.okWide at hok
      rcases ht.st u rfl with ⟨fs, hu, _⟩ | ⟨n, e, hu, _⟩
      · rw [hu] at hok
        obtain ⟨cs, h, _⟩ := hok
        exact ⟨cs, h⟩
      · rw [hu] at hok
        obtain ⟨cs, h, _⟩ := hok
        exact ⟨cs, h⟩
    obtain ⟨cs, rfl⟩ := this
    exact ⟨cs.toList, by simp, hz⟩
  | _ => first | (simp [plainT] at hp; done) | (have := ht.ok; simp [okTy, Ty.leaf, Ty.isTop, Ty.isSt] at this)
end Go.Ev
