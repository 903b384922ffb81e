import Derived.Test.YtggobapgdflchaaEvMem2
import Derived.Great.FillDense
set_option linter.unusedVariables false
namespace Go.Ev
open Go.RowKit
variable {P : Program} {E : Env} {I I' : Im} {w w' : World} {μ μ' : List Nat} {c : Ctx} {ρ : Nat → Rm} {s : St} {a : Act} {o : Oper} {T : Type} {bs bs' : List AV}

theorem fold_splice {cells : Array Value} {v : Value} {off : Nat} {c1 c2 c3 : List Value} (e : cells.toList = c1 ++ c2 ++ c3) (h1 : c1.length = off) (h2 : c2.length = v.cells.size) :
    v.cells.zipIdx.foldl (fun cs (x : Value × Nat) => cs.setIfInBounds (off + x.2) x.1) cells = (c1 ++ v.cells.toList ++ c3).toArray := by
  rw [← Array.foldl_toList, Array.toList_zipIdx]
  obtain ⟨g1, g2⟩ := Go.Great.foldl_set off v.cells.toList 0 cells
  have hs : cells.size = c1.length + c2.length + c3.length := by rw [← Array.length_toList, e]; simp only [List.length_append]
  apply Array.ext_getElem?
  intro k
  rw [g2 k]
  simp only [Nat.add_zero, Array.length_toList, List.getElem?_toArray]
  by_cases hA : off ≤ k ∧ k < off + v.cells.size ∧ k < cells.size
  · rw [if_pos hA, List.append_assoc, List.getElem?_append_right (by omega), h1, List.getElem?_append_left (by rw [Array.length_toList]; omega)]
  · rw [if_neg hA, ← Array.getElem?_toList, e]
    by_cases hB : k < off
    · rw [List.append_assoc, List.getElem?_append_left (by omega), List.append_assoc, List.getElem?_append_left (by omega)]
    · rw [List.getElem?_append_right (by simp only [List.length_append]; omega), List.getElem?_append_right (by simp only [List.length_append, Array.length_toList]; omega)]
      simp only [List.length_append, Array.length_toList, h2]

theorem fill_cons {place : Nat → Option (Nat × Nat)} {cells : Array Value} {i : Nat} {v : Value} {rest : List (Nat × Value)} {off : Nat} {c1 c2 c3 : List Value} (hp : place i = some (off, v.cells.size))
    (e : cells.toList = c1 ++ c2 ++ c3) (h1 : c1.length = off) (h2 : c2.length = v.cells.size) : Instr.fill place cells ((i, v) :: rest) = Instr.fill place (c1 ++ v.cells.toList ++ c3).toArray rest := by
  have hs : cells.size = c1.length + c2.length + c3.length := by rw [← Array.length_toList, e]; simp only [List.length_append]
  conv => lhs; unfold Instr.fill
  rw [hp]
  simp only [ne_eq, not_true_eq_false, decide_eq_true_eq, decide_false, Bool.false_or]
  rw [if_neg (by simp; omega), fold_splice e h1 h2]

/-- one field set -/
theorem setField_sound {vs : List Value} {v : AV} (hv : R I w μ v.ty true v.x vs) : ∀ (t : Ty) (x y : t.den) (cs : List Value) (n : Nat), R I w μ t true x cs → setField t x n v = some y →
    fieldTy t n = some v.ty ∧ ∃ c1 c2 c3, cs = c1 ++ c2 ++ c3 ∧ c1.length = fieldOff t n ∧ c2.length = vs.length ∧ R I w μ t true y (c1 ++ vs ++ c3) := by
  intro t
  induction t with
  | pr a b iha ihb =>
    rintro x y cs n ⟨d1, d2, rfl, h1, h2, _⟩ h
    cases n with
    | zero =>
      have h' : (match castTo a v with | some y => some ((y, x.2) : (Ty.pr a b).den) | none => none) = some y := h
      cases hc : castTo a v with
      | none => rw [hc] at h'; cases h'
      | some z =>
        rw [hc] at h'
        have e : (z, x.2) = y := by injection h'
        subst e
        have := castTo_some hc
        subst this
        refine ⟨rfl, [], d1, d2, rfl, (fieldOff_zero _).symm, by rw [R.size _ _ _ h1, R.size _ _ _ hv], vs, d2, rfl, hv, h2, fun h => by cases h⟩
    | succ n =>
      have h' : (match setField b x.2 n v with | some y => some ((x.1, y) : (Ty.pr a b).den) | none => none) = some y := h
      cases hc : setField b x.2 n v with
      | none => rw [hc] at h'; cases h'
      | some z =>
        rw [hc] at h'
        have e : (x.1, z) = y := by injection h'
        subst e
        obtain ⟨g0, c1, c2, c3, g1, g2, g3, g4⟩ := ihb x.2 z d2 n h2 hc
        refine ⟨g0, d1 ++ c1, c2, c3, by rw [g1]; simp, by rw [List.length_append, R.size _ _ _ h1, g2, fieldOff_pr_succ], g3, d1, c1 ++ vs ++ c3, by simp, h1, g4, fun h => by cases h⟩
  | unit => intro x y cs n hr h; cases n <;> cases h
  | _ =>
    intro x y cs n hr h
    cases n with
    | succ n => cases h
    | zero =>
      have := castTo_some h
      subst this
      exact ⟨rfl, [], cs, [], by simp, (fieldOff_zero _).symm, by rw [R.size _ _ _ hr, R.size _ _ _ hv], by simpa using hv⟩

theorem R_okcells {t : Ty} {x : t.den} {u : Value} (h : R I w μ t false x [u]) (hk : okTy t = true) (hn : t.isTop = false) : R I w μ t true x u.cells.toList := by
  unfold okTy at hk
  simp only [Bool.or_eq_true] at hk
  rcases hk with (h1 | h1) | h1
  · exact R_cells h (.inl h1)
  · rw [h1] at hn; cases hn
  · exact R_cells h (.inr h1)

theorem fieldTy_of_set : ∀ (t : Ty) (x z : t.den) (i : Nat) (v : AV), setField t x i v = some z → fieldTy t i = some v.ty := by
  intro t
  induction t with
  | pr a b iha ihb =>
    intro x z i v h
    cases i with
    | zero =>
      have h' : (match castTo a v with | some y => some ((y, x.2) : (Ty.pr a b).den) | none => none) = some z := h
      cases hc : castTo a v with
      | none => rw [hc] at h'; cases h'
      | some y => have := castTo_some hc; subst this; rfl
    | succ n =>
      have h' : (match setField b x.2 n v with | some y => some ((x.1, y) : (Ty.pr a b).den) | none => none) = some z := h
      cases hc : setField b x.2 n v with
      | none => rw [hc] at h'; cases h'
      | some y => exact ihb x.2 y n v hc
  | unit => intro x z i v h; cases i <;> cases h
  | _ =>
    intro x z i v h
    cases i with
    | succ n => cases h
    | zero => have := castTo_some h; subst this; rfl

/-- the parts of a struct, one behind the other -/
theorem setParts_sound (hE : EnvOK P E) (H : RelI c I μ ρ s a w) {fs : Array Field} {t : Ty} (hfs : ∀ f, f < chainLen t → ∃ fd tf, fs[f]? = some fd ∧ fieldTy t f = some tf ∧ fd.offset = fieldOff t f ∧ fd.name ≠ "_" ∧ E.ty fd.type = some tf ∧ 0 < tf.csize)
    {places : List (Nat × Nat)} (hp : ∀ (f : Nat) (fd : Field) (tf : Ty), fs[f]? = some fd → E.ty fd.type = some tf → places[f]? = some (fd.offset, tf.csize)) : ∀ (l : List (Nat × Operand)) (x y : t.den) (cells : Array Value),
    setParts s t x l = some y → R I w μ t true x cells.toList → ∃ r, Instr.fill (fun i => places[i]?) cells (l.map fun p => (p.1, a.eval p.2)) = some r ∧ R I w μ t true y r.toList
  | [], x, y, cells, h, hr => by injection h with h; subst h; exact ⟨cells, rfl, hr⟩
  | (i, op) :: l, x, y, cells, h, hr => by
    unfold setParts at h
    cases hb : Nat.blt i (chainLen t) with
    | false => rw [hb] at h; cases h
    | true =>
      rw [hb] at h
      simp only [Bool.not_true, cond_false] at h
      have hlt : i < chainLen t := by simpa [Nat.blt_eq] using hb
      obtain ⟨fd, tf, h1, h2, h3, _, h4, h5⟩ := hfs i hlt
      cases ho : opd s (fieldTy t i) op with
      | none => rw [ho] at h; cases h
      | some v =>
        rw [ho] at h
        simp only at h
        cases hnt : v.ty.isTop with
        | true => rw [hnt] at h; cases h
        | false =>
        rw [hnt] at h
        simp only [cond_false] at h
        cases hs : setField t x i v with
        | none => rw [hs] at h; cases h
        | some z =>
          rw [hs] at h
          simp only at h
          have hv := opd_sound H ho
          have hvt : v.ty = tf := by
            have k2 : fieldTy t i = some v.ty := fieldTy_of_set t x z i v hs
            rw [h2] at k2; injection k2 with k2; exact k2.symm
          have hty := hE.tys _ _ h4
          have hvc := R_okcells hv (by rw [hvt]; exact hty.ok) hnt
          obtain ⟨_, c1, c2, c3, e1, e2, e3, e4⟩ := setField_sound hvc t x z _ i hr hs
          have hsz : (a.eval op).cells.size = tf.csize := by
            have := R.size _ _ _ hvc
            rw [Array.length_toList] at this
            rw [this, hvt]
          have hplace : places[i]? = some (fieldOff t i, (a.eval op).cells.size) := by rw [hp i fd tf h1 h4, h3, hsz]
          obtain ⟨r, hr1, hr2⟩ := setParts_sound hE H hfs hp l z y (c1 ++ (a.eval op).cells.toList ++ c3).toArray h (by simpa using e4)
          refine ⟨r, ?_, hr2⟩
          rw [List.map_cons, fill_cons (off := fieldOff t i) (c1 := c1) (c2 := c2) (c3 := c3) hplace e1 e2 (by rw [e3, Array.length_toList])]
          exact hr1

theorem struct_places (hE : EnvOK P E) {fs : Array Field} {n : Nat} (hn : fs.size = n) (hfs : ∀ f, f < n → ∃ fd tf, fs[f]? = some fd ∧ E.ty fd.type = some tf) :
    ∃ places, fs.toList.mapM (fun f => (P.info? f.type).map fun i => (f.offset, i.size)) = some places ∧ ∀ (f : Nat) (fd : Field) (tf : Ty), fs[f]? = some fd → E.ty fd.type = some tf → places[f]? = some (fd.offset, tf.csize) := by
  have key : ∀ l : List Field, (∀ fd, fd ∈ l → ∃ tf, E.ty fd.type = some tf) → ∃ places, l.mapM (fun f => (P.info? f.type).map fun i => (f.offset, i.size)) = some places ∧
      ∀ (f : Nat) (fd : Field) (tf : Ty), l[f]? = some fd → E.ty fd.type = some tf → places[f]? = some (fd.offset, tf.csize) := by
    intro l
    induction l with
    | nil => intro _; exact ⟨[], rfl, fun f fd tf h => by simp at h⟩
    | cons x l ih =>
      intro hl
      obtain ⟨tx, hx⟩ := hl x List.mem_cons_self
      obtain ⟨ix, _, hix, hsx, _⟩ := (hE.tys _ _ hx).info
      obtain ⟨pl, h1, h2⟩ := ih (fun fd h => hl fd (List.mem_cons_of_mem _ h))
      refine ⟨(x.offset, tx.csize) :: pl, ?_, ?_⟩
      · simp only [List.mapM_cons, hix, Option.map_some, h1, Option.bind_eq_bind, Option.bind_some, Option.pure_def, hsx]
      · intro f fd tf hf ht
        cases f with
        | zero => simp at hf; subst hf; rw [hx] at ht; cases ht; rfl
        | succ f => simp at hf; simpa using h2 f fd tf hf ht
  obtain ⟨pl, h1, h2⟩ := key fs.toList (fun fd h => by
    obtain ⟨i, hi⟩ := List.mem_iff_getElem?.1 h
    have hi' : fs[i]? = some fd := by rw [← Array.getElem?_toList]; exact hi
    obtain ⟨fd', tf, g1, g2⟩ := hfs i (by rw [← hn]; exact (Array.getElem?_eq_some_iff.1 hi').1)
    rw [hi'] at g1; cases g1
    exact ⟨tf, g2⟩)
  exact ⟨pl, h1, fun f fd tf hf ht => h2 f fd tf (by rw [Array.getElem?_toList]; exact hf) ht⟩

theorem build_sound (hE : EnvOK P E) {K : AV → Cap → St → Option T} {r : T} {U : Nat} {parts : Array (Nat × Operand)} (H : RelI c I μ ρ s a w) (ho : o.op = .build U parts)
    (h : (match E.ty U with
    | some (.st t) => bif !(E.strs.contains U) then none else match t.zero with
      | some z => match setParts s t z parts.toList with
        | some y => K ⟨.st t, y⟩ .no s
        | none => none
      | none => none
    | _ => none) = some r) : Yields P o a w (Out K r c a o.dst) := by
  cases hU : E.ty U with
  | none => rw [hU] at h; cases h
  | some st =>
    rw [hU] at h
    cases st with
    | st t =>
      simp only at h
      cases hc : E.strs.contains U with
      | false => rw [hc] at h; cases h
      | true =>
        rw [hc] at h
        simp only [Bool.not_true, cond_false] at h
        cases hz : t.zero with
        | none => rw [hz] at h; cases h
        | some z =>
          rw [hz] at h
          simp only at h
          cases hp : setParts s t z parts.toList with
          | none => rw [hp] at h; cases h
          | some y =>
            rw [hp] at h
            simp only at h
            have hty := hE.tys U _ hU
            obtain ⟨i, zv, hi, hs, hzv, _, hzero⟩ := hty.info
            obtain ⟨arr, e, hzr⟩ := hzero z hz I w μ
            have e : zv = .agg arr.toArray := by injection e
            rcases hty.st t rfl with ⟨fs, hfs, hn, hfd⟩ | ⟨n, e', harr, _⟩
            · obtain ⟨places, g1, g2⟩ := struct_places hE hn (fun f hf => by obtain ⟨fd, tf, k1, _, _, _, k2, _⟩ := hfd f hf; exact ⟨fd, tf, k1, k2⟩)
              obtain ⟨rr, k1, k2⟩ := setParts_sound hE H hfd g2 parts.toList z y zv.cells hp (by rw [e]; simpa [Value.cells] using hzr)
              have hbuilt : P.built U (parts.map fun (i, x) => (i, a.eval x)).toList = some rr := by
                unfold Program.built
                rw [hi, hfs]
                simp only [hzv, g1, Array.toList_map]
                have e3 : (fun (x : Nat) => places.toArray[x]?) = fun (i : Nat) => places[i]? := by funext x; simp
                rw [e3]; exact k1
              refine yields_value (u := .agg rr) (w' := w) ?_ (Out.no h H ⟨rr.toList, by simp, k2⟩)
              unfold execOp; rw [ho]
              simp only [Sem.run_bind, run_build w U _ rr hbuilt, Result.andThen_ok]; rfl
            · obtain ⟨fs, hfs⟩ := hE.strs U (by simpa using hc)
              rw [harr] at hfs; cases hfs
    | _ => simp only at h; cases h
end Go.Ev
