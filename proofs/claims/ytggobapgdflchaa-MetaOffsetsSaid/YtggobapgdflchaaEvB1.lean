import Derived.Test.YtggobapgdflchaaEvB0
import Derived.Great.FillDense
set_option linter.unusedVariables false
namespace Go.Ev
open Go.RowKit
variable {P : Program} {E : Env} {I I' : Im} {w w' : World} {μ μ' : List Nat} {c : Ctx} {ρ : Nat → Rm} {s : St} {a : Act} {o : Oper} {T : Type} {bs bs' : List AV}

theorem Grow.below (hb : Below w.heap.size w w') (hlt : ∀ b o, I b o → b < w.heap.size) (hI : ∀ b o, I b o → I' b o) : Grow I w μ I' w' μ :=
  ⟨hI, fun a h => hb.cell (hlt _ _ h), fun _ _ h => h⟩

theorem alloc_new (o : Obj) : (w.alloc o).heap[w.heap.size]? = some o := by show (w.heap.push o)[w.heap.size]? = _; simp

theorem lt_of_get {b : Nat} {x : Obj} (h : w.heap[b]? = some x) : b < w.heap.size := (Array.getElem?_eq_some_iff.1 h).1

/-- old blocks are as they were; what is newly fixed lies in new ones -/
theorem MemI.grown (H : MemI c I μ bs w) (hb : Below w.heap.size w w') (N : Im) (hN : ∀ b o, N b o → w.heap.size ≤ b ∧ b < w'.heap.size) (hC : ∀ b o, N b o → IsC w' b) : MemI c (fun b o => I b o ∨ N b o) μ bs w' := by
  have g : Grow I w μ (fun b o => I b o ∨ N b o) w' μ := Grow.below hb H.imlt (fun _ _ h => .inl h)
  refine ⟨H.below.trans (hb.mono (Nat.le_trans H.base H.sizeS)), H.base, H.grow.trans g, Nat.le_trans H.sizeS hb.size, H.blen, ?_, H.nodup, ?_, H.munew, ?_, ?_, H.root.trans g, H.rlen, ?_⟩
  · intro i v b hv hmb
    rcases H.boxes i v b hv hmb with h | ⟨cs, et, h1, h2, h3⟩
    · exact .inl (h.step fun hl => hb.block b hl)
    · refine .inr ⟨cs, et, ?_, h2.grow g, ?_⟩
      · rw [hb.block b (lt_of_get h1)]; exact h1
      · rintro o (h | h)
        · exact h3 o h
        · have := (hN b o h).1; have := lt_of_get h1; omega
  · intro b h; have := H.mu b h; exact ⟨this.1, Nat.lt_of_lt_of_le this.2 hb.size⟩
  · rintro b o (h | h)
    · exact Nat.lt_of_lt_of_le (H.imlt b o h) hb.size
    · exact (hN b o h).2
  · rintro b o (h | h)
    · obtain ⟨cs, et, z, k⟩ := H.imc b o h; exact ⟨cs, et, z, (hb.block b (H.imlt b o h)).trans k⟩
    · exact hC b o h
  · intro b h
    obtain ⟨h1, h2, h3, h4⟩ := H.fr b h
    refine ⟨h1, ?_, h3, ?_⟩
    · rw [hb.block b (Nat.lt_of_lt_of_le h1 H.sizeS)]; exact h2
    · rintro o (k | k)
      · exact h4 o k
      · have := (hN b o k).1; have := H.sizeS; omega

theorem MemI.push (H : MemI c I μ bs w) {b : Nat} {v : AV} {cs : Array Value} {et : Nat} (hb : w.heap[b]? = some (.cells cs et (0, 0))) (hr : R I w μ v.ty true v.x cs.toList) (hI : ∀ o, ¬ I b o)
    (hs : c.wS.heap.size ≤ b) (hn : b ∉ μ) : MemI c I (μ ++ [b]) (bs ++ [v]) w := by
  have g : Grow I w μ I w (μ ++ [b]) := ⟨fun _ _ h => h, fun _ _ => rfl, fun i x h => by rw [List.getElem?_append_left (List.getElem?_eq_some_iff.1 h).1]; exact h⟩
  refine ⟨H.below, H.base, H.grow.trans g, H.sizeS, by simp [H.blen], ?_, ?_, ?_, ?_, H.imlt, H.imc, H.root.trans g, H.rlen, ?_⟩
  · intro i v' b' hv hmb
    by_cases hi : i < bs.length
    · rw [List.getElem?_append_left hi] at hv
      rw [List.getElem?_append_left (by rw [← H.blen]; exact hi)] at hmb
      rcases H.boxes i v' b' hv hmb with h | ⟨cs', et', h1, h2, h3⟩
      · exact .inl h
      · exact .inr ⟨cs', et', h1, h2.grow g, h3⟩
    · rw [List.getElem?_append_right (by omega)] at hv
      rw [List.getElem?_append_right (by rw [← H.blen]; omega)] at hmb
      have hi0 : i - bs.length = 0 := by
        cases h : i - bs.length with
        | zero => rfl
        | succ n => rw [h] at hv; simp at hv
      rw [hi0] at hv
      rw [← H.blen, hi0] at hmb
      simp at hv hmb
      subst hv; subst hmb
      exact .inr ⟨cs, et, hb, hr.grow g, hI⟩
  · rw [List.nodup_append]
    refine ⟨H.nodup, by simp, ?_⟩
    intro x hx y hy e
    simp at hy; subst hy; subst e; exact hn hx
  · intro x hx
    rcases List.mem_append.1 hx with h | h
    · exact H.mu x h
    · simp at h; subst h; exact ⟨Nat.le_trans H.base hs, lt_of_get hb⟩
  · intro i x hx
    by_cases hi : i < μ.length
    · rw [List.getElem?_append_left hi] at hx; exact H.munew i x hx
    · rw [List.getElem?_append_right (by omega)] at hx
      cases h : i - μ.length with
      | zero => rw [h] at hx; simp at hx; subst hx; exact .inr hs
      | succ n => rw [h] at hx; simp at hx
  · intro x hx
    obtain ⟨h1, h2, h3, h4⟩ := H.fr x hx
    refine ⟨h1, h2, ?_, h4⟩
    intro i v' hi hv
    by_cases hlt : i < μ.length
    · rw [List.getElem?_append_left hlt] at hi
      rw [List.getElem?_append_left (by rw [H.blen]; exact hlt)] at hv
      exact h3 i v' hi hv
    · rw [List.getElem?_append_right (by omega)] at hi
      cases h : i - μ.length with
      | zero => rw [h] at hi; simp at hi; subst hi; omega
      | succ n => rw [h] at hi; simp at hi

theorem Room.grown {B : Nat} {F : Nat → Prop} {r : Rm} (hr : Room B F I μ w r) (hb : Below w.heap.size w w') (N : Im) (hN : ∀ b o, N b o → w.heap.size ≤ b) : Room B F (fun b o => I b o ∨ N b o) μ w' r := by
  rcases hr with h | ⟨ad, cs, et, h1, h2, h3, h4, h5, h6, h7, h8, h9⟩
  · exact .inl h
  · refine .inr ⟨ad, cs, et, h1, h2, h3, ?_, h5, h6, h7, h8, ?_⟩
    · rw [hb.block _ (lt_of_get h4)]; exact h4
    · rintro o ho (k | k)
      · exact h9 o ho k
      · have := hN _ _ k; have := lt_of_get h4; omega

theorem Room.push {B : Nat} {F : Nat → Prop} {r : Rm} {b : Nat} (hr : Room B F I μ w r) (hb : ∀ ad, r.a = some ad → r.n ≠ r.cap → ad.block ≠ b) : Room B F I (μ ++ [b]) w r := by
  by_cases hn : r.n = r.cap
  · exact .inl hn
  rcases hr with h | ⟨ad, cs, et, h1, h2, h3, h4, h5, h6, h7, h8, h9⟩
  · exact .inl h
  · refine .inr ⟨ad, cs, et, h1, h2, h3, h4, h5, h6, ?_, h8, h9⟩
    intro hm
    rcases List.mem_append.1 hm with h | h
    · exact h7 h
    · simp at h; exact hb ad h1 hn h

theorem Room.lt {B : Nat} {F : Nat → Prop} {r : Rm} (hr : Room B F I μ w r) (hn : r.n ≠ r.cap) : ∃ ad, r.a = some ad ∧ ad.block < w.heap.size := by
  rcases hr with h | ⟨ad, cs, et, h1, h2, h3, h4, _⟩
  · exact absurd h hn
  · exact ⟨ad, h1, lt_of_get h4⟩

/-- the slots are as they were; memory has moved on -/
theorem RelX.step {X : Nat → Prop} (H : RelI c I μ ρ s a w) (hm : MemI c I' μ' bs' w') (g : Grow I w μ I' w' μ') (hr : ∀ p, Live s p → X p → Room c.w0.heap.size c.F I' μ' w' (ρ p)) :
    RelX X c I' μ' ρ { s with boxes := bs' } a w' :=
  ⟨hm, H.len, H.cplen, fun i v hv => let ⟨u, h1, h2⟩ := H.slots i v hv; ⟨u, h1, h2.grow g⟩, H.caps, hr, fun p q hp hq e _ _ => H.apart p q hp hq e trivial trivial, H.defers⟩

theorem below_refl_alloc (x : Obj) : Below w.heap.size w (w.alloc x) := (Below.refl _ _).alloc (Nat.le_refl _) x
theorem below_drew_alloc (x : Obj) : Below w.heap.size w (w.drew.alloc x) := ((Below.refl _ _).drew).alloc (Nat.le_refl _) x

/-- a new box -/
theorem push_sound {X : Nat → Prop} (H : RelI c I μ ρ s a w) {v : AV} {cs : Array Value} {et : Nat} (hr : R I w μ v.ty true v.x cs.toList) :
    RelX X c I (μ ++ [w.heap.size]) ρ (pushBox s v) a (w.alloc (.cells cs et)) ∧ R I (w.alloc (.cells cs et)) (μ ++ [w.heap.size]) (.box s.boxes.length 0) false () [.pointer (some ⟨w.heap.size, 0, none⟩)] := by
  have hb := below_refl_alloc (w := w) (.cells cs et)
  have h1 := H.mem.grown hb (fun _ _ => False) (fun _ _ h => h.elim) (fun _ _ h => h.elim)
  have e : (fun b o => I b o ∨ False) = I := by funext b o; simp
  rw [e] at h1
  have g1 : Grow I w μ I (w.alloc (.cells cs et)) μ := Grow.below hb H.mem.imlt (fun _ _ h => h)
  have hn : w.heap.size ∉ μ := fun h => by have := (H.mem.mu _ h).2; omega
  have h2 := h1.push (v := v) (alloc_new _) (hr.grow g1) (fun o h => by have := H.mem.imlt _ _ h; omega) H.mem.sizeS hn
  have g2 : Grow I w μ I (w.alloc (.cells cs et)) (μ ++ [w.heap.size]) := ⟨g1.sub, g1.cell, fun i x h => by rw [List.getElem?_append_left (List.getElem?_eq_some_iff.1 h).1]; exact h⟩
  refine ⟨RelX.step H h2 g2 ?_, ⟨w.heap.size, ?_, rfl⟩⟩
  · intro p hp _
    have r0 := H.rooms p hp trivial
    have r1 := r0.grown hb (fun _ _ => False) (fun _ _ h => h.elim)
    rw [e] at r1
    refine r1.push ?_
    intro ad h1 hne e2
    obtain ⟨ad', h3, h4⟩ := r0.lt hne
    rw [h1] at h3; cases h3; omega
  · rw [H.mem.blen, List.getElem?_append_right (Nat.le_refl _), Nat.sub_self]; rfl

theorem run_newVar {T : Nat} {v : Value} : (newVar T v).run P w = .ok ⟨w.heap.size, 0, none⟩ (w.alloc (.cells v.cells T)) := by
  unfold newVar newRow
  simp only [Sem.run_bind]; rfl

theorem box_sound (hE : EnvOK P E) {K : AV → Cap → St → Option T} {r : T} {U : Nat} {x : Operand} (H : RelI c I μ ρ s a w) (ho : o.op = .box U x)
    (h : (match E.ty U, opd s (E.ty U) x with
    | some t, some ⟨u, y⟩ => bif (decide (t = u) && !u.isTop) || (decide (t = .top) && u.leaf) then K ⟨.box s.boxes.length 0, ()⟩ .no (pushBox s ⟨u, y⟩) else none
    | _, _ => none) = some r) : Yields P o a w (Out K r c a o.dst) := by
  cases hU : E.ty U with
  | none => rw [hU] at h; cases h
  | some t =>
  cases hx : opd s (E.ty U) x with
  | none => rw [hU] at hx; rw [hU, hx] at h; cases h
  | some p =>
    have hr := opd_sound H hx
    rw [hU] at hx
    rw [hU, hx] at h
    obtain ⟨u, y⟩ := p
    simp only at h
    cases hd : ((decide (t = u) && !u.isTop) || (decide (t = .top) && u.leaf)) with
    | false => rw [hd] at h; cases h
    | true =>
      rw [hd] at h
      simp only [cond_true] at h
      have hc : R I w μ u true y (a.eval x).cells.toList := by
        simp only [Bool.or_eq_true, decide_eq_true_eq, Bool.and_eq_true, Bool.not_eq_true'] at hd
        rcases hd with ⟨rfl, hnt⟩ | ⟨_, h⟩
        · have := (hE.tys U _ hU).ok
          unfold okTy at this
          simp only [Bool.or_eq_true] at this
          rcases this with (h | h) | h
          · exact R_cells hr (.inl h)
          · rw [h] at hnt; cases hnt
          · exact R_cells hr (.inr h)
        · exact R_cells hr (.inl h)
      obtain ⟨h1, h2⟩ := push_sound (X := noTake .no) H (v := ⟨u, y⟩) (et := U) hc
      have hrun : (execOp a.eval o).run P w = .ok (.value (.pointer (some ⟨w.heap.size, 0, none⟩))) (w.alloc (.cells (a.eval x).cells U)) := by
        unfold execOp; rw [ho]
        simp only [Instr.box, Sem.run_bind, run_newVar, Result.andThen_ok]; rfl
      exact yields_value hrun ⟨_, .no, _, I, _, ρ, h, h1, h2, trivial, fun p e => by cases e⟩

theorem alloc_sound (hE : EnvOK P E) {K : AV → Cap → St → Option T} {r : T} {U : Nat} (H : RelI c I μ ρ s a w) (ho : o.op = .alloc U)
    (h : (match E.ty U with
    | some .top => K ⟨.box s.boxes.length 0, ()⟩ .no (pushBox s .top)
    | some t => match t.zero with
      | some z => K ⟨.box s.boxes.length 0, ()⟩ .no (pushBox s ⟨t, z⟩)
      | none => none
    | none => none) = some r) : Yields P o a w (Out K r c a o.dst) := by
  have fin : ∀ (v : AV) (z : Value) (i : TypeInfo), P.info? U = some i → i.zero = some z → R I w μ v.ty true v.x z.cells.toList → K ⟨.box s.boxes.length 0, ()⟩ .no (pushBox s v) = some r → Yields P o a w (Out K r c a o.dst) := by
    intro v z i hi hz hr h
    obtain ⟨h1, h2⟩ := push_sound (X := noTake .no) H (v := v) (et := U) hr
    have hrun : (execOp a.eval o).run P w = .ok (.value (.pointer (some ⟨w.heap.size, 0, none⟩))) (w.alloc (.cells z.cells U)) := by
      unfold execOp; rw [ho]
      simp only [Instr.alloc, Sem.run_bind, run_zeroValue hi hz, run_newVar, Result.andThen_ok]; rfl
    exact yields_value hrun ⟨_, .no, _, I, _, ρ, h, h1, h2, trivial, fun p e => by cases e⟩
  cases hU : E.ty U with
  | none => rw [hU] at h; cases h
  | some t =>
    rw [hU] at h
    obtain ⟨i, z, hi, hs, hz, htop, hzero⟩ := (hE.tys U _ hU).info
    by_cases ht : t = .top
    · subst ht
      refine fin .top z i hi hz ?_ h
      have : z.cells.toList = [z] := by have := htop rfl; cases z <;> first | rfl | cases this
      rw [this]; exact ⟨_, rfl⟩
    · have h' : (match t.zero with
      | some z => K ⟨.box s.boxes.length 0, ()⟩ .no (pushBox s ⟨t, z⟩)
      | none => none) = some r := by
        cases t <;> first | exact absurd rfl ht | exact h
      cases hzz : t.zero with
      | none => rw [hzz] at h'; cases h'
      | some zz =>
        rw [hzz] at h'
        refine fin ⟨t, zz⟩ z i hi hz ?_ h'
        have hr := hzero zz hzz I w μ
        have := (hE.tys U _ hU).ok
        unfold okTy at this
        simp only [Bool.or_eq_true] at this
        rcases this with (h | h) | h
        · exact R_cells hr (.inl h)
        · cases t <;> simp [Ty.isTop] at h; exact absurd rfl ht
        · exact R_cells hr (.inr h)

end Go.Ev

set_option linter.unusedVariables false
namespace Go.Ev
open Go.RowKit
variable {P : Program} {E : Env} {I I' : Im} {w w' : World} {μ μ' : List Nat} {c : Ctx} {ρ : Nat → Rm} {s : St} {a : Act} {o : Oper} {T : Type} {bs bs' : List AV}

theorem below_setRow {B g : Nat} {w0 : World} {arr : Array Value} (h : Below B w0 w) (hg : B ≤ g) : Below B w0 (w.setRow g arr) :=
  h.trans ⟨rfl, rfl, rfl, by simp, fun k hk => setRow_other w g k arr (by omega)⟩

theorem grow_setRow {g : Nat} {cur arr : Array Value} {et : Nat} (hg : w.heap[g]? = some (.cells cur et (0, 0))) (hI : ∀ o, I g o → arr[o]? = cur[o]?) (N : Im) :
    Grow I w μ (fun b o => I b o ∨ N b o) (w.setRow g arr) μ := by
  refine ⟨fun _ _ h => .inl h, ?_, fun _ _ h => h⟩
  intro ad h
  by_cases e : ad.block = g
  · simp only [World.cell?, e, hg, setRow_heap w g cur arr et (0, 0) hg]
    rw [e] at h
    simp [hI _ h]
  · simp only [World.cell?, setRow_other w g ad.block arr e]

theorem IsC.setRow {b : Nat} (h : IsC w b) (g : Nat) (arr : Array Value) : IsC (w.setRow g arr) b := by
  obtain ⟨cs, et, z, k⟩ := h
  by_cases e : g = b
  · exact ⟨arr, et, z, by simp [World.setRow, Array.getElem?_modify, e, k]⟩
  · exact ⟨cs, et, z, by simp [World.setRow, Array.getElem?_modify, e, k]⟩

/-- a box is written -/
theorem MemI.store (H : MemI c I μ bs w) {i g : Nat} {cur arr : Array Value} {et : Nat} {v : AV} (hi : μ[i]? = some g) (hlive : ∃ v0, bs[i]? = some v0 ∧ v0.ty ≠ .undef) (hg : w.heap[g]? = some (.cells cur et (0, 0))) (hI : ∀ o, ¬ I g o)
    (hv : R I w μ v.ty true v.x arr.toList) : MemI c I μ (setN bs i v) (w.setRow g arr) ∧ Grow I w μ I (w.setRow g arr) μ := by
  have hm := List.mem_of_getElem? hi
  have gg := grow_setRow (I := I) (μ := μ) (arr := arr) hg (fun o h => absurd h (hI o)) (fun _ _ => False)
  have e : (fun b o => I b o ∨ False) = I := by funext b o; simp
  rw [e] at gg
  refine ⟨⟨below_setRow H.below (H.mu g hm).1, H.base, H.grow.trans gg, by simpa using H.sizeS, by rw [setN_length, H.blen], ?_, H.nodup, by simpa using H.mu, H.munew, by simpa using H.imlt, fun b o k => (H.imc b o k).setRow _ _, H.root.trans gg, H.rlen, ?_⟩, gg⟩
  · intro j v' b hv' hmb
    rw [setN_get] at hv'
    split at hv'
    · rename_i hj
      cases hv'
      obtain ⟨rfl, _⟩ := hj
      rw [hi] at hmb; cases hmb
      exact .inr ⟨arr, et, setRow_heap w g cur arr et (0, 0) hg, hv.grow gg, hI⟩
    · rename_i hj
      have hne : b ≠ g := by
        rintro rfl
        have : j = i := by
          exact (List.getElem?_inj (List.getElem?_eq_some_iff.1 hmb).1 H.nodup).1 (hmb.trans hi.symm)
        subst this
        refine hj ⟨rfl, ?_⟩
        rw [H.blen]; exact (List.getElem?_eq_some_iff.1 hi).1
      rcases H.boxes j v' b hv' hmb with h | ⟨cs, et', h1, h2, h3⟩
      · exact .inl (h.step fun _ => setRow_other _ _ _ _ hne)
      · exact .inr ⟨cs, et', by rw [setRow_other _ _ _ _ hne]; exact h1, h2.grow gg, h3⟩
  · intro b hb
    obtain ⟨h1, h2, h3, h4⟩ := H.fr b hb
    obtain ⟨v0, q1, q2⟩ := hlive
    have hne : b ≠ g := fun e => q2 (h3 i v0 (by rw [e]; exact hi) q1)
    refine ⟨h1, by rw [setRow_other _ _ _ _ hne]; exact h2, ?_, h4⟩
    intro j v' hj hv'
    rw [setN_get] at hv'
    split at hv'
    · rename_i hjj
      rw [hjj.1, hi] at hj
      cases hj
      exact absurd rfl hne
    · exact h3 j v' hj hv'

theorem Room.setRow {B : Nat} {F : Nat → Prop} {r : Rm} {g : Nat} {arr : Array Value} (hr : Room B F I μ w r) (N : Im) (hN : ∀ b o, N b o → b = g) (hne : ∀ ad, r.a = some ad → r.n ≠ r.cap → ad.block ≠ g) :
    Room B F (fun b o => I b o ∨ N b o) μ (w.setRow g arr) r := by
  by_cases hn : r.n = r.cap
  · exact .inl hn
  rcases hr with h | ⟨ad, cs, et, h1, h2, h3, h4, h5, h6, h7, h8, h9⟩
  · exact .inl h
  · have := hne ad h1 hn
    refine .inr ⟨ad, cs, et, h1, h2, h3, by rw [setRow_other _ _ _ _ this]; exact h4, h5, h6, h7, h8, ?_⟩
    rintro o ho (k | k)
    · exact h9 o ho k
    · exact this (hN _ _ k)

theorem run_storeVar {U : Nat} {i : TypeInfo} {g off : Nat} {cur : Array Value} {et : Nat} {u : Value} (hi : P.info? U = some i) (hs : u.cells.size = i.size) (hg : w.heap[g]? = some (.cells cur et (0, 0)))
    (hl : off + u.cells.size ≤ cur.size) (h1 : ∀ v, v ∈ u.cells.toList → v.oneCell' = true) :
    (storeVar U ⟨g, off, none⟩ u).run P w = .ok () (w.setRow g (cur.toList.take off ++ u.cells.toList ++ cur.toList.drop (off + u.cells.size)).toArray) := by
  unfold storeVar
  have := run_storeCells_at P g off et u.cells.toList 0 cur w hg (by simpa using hl) h1
  simp only [Nat.add_zero, Array.length_toList] at this
  simp only [Sem.run_bind, run_sizeOf hi, Result.andThen_ok, hs, ne_eq, not_true_eq_false, if_false, Sem.run_ite]
  rw [← hs]
  simpa using this

theorem split_eq {c1 c2 c3 d1 d2 d3 : List Value} (h : c1 ++ c2 ++ c3 = d1 ++ d2 ++ d3) (h1 : c1.length = d1.length) (h2 : c2.length = d2.length) : c1 = d1 ∧ c2 = d2 ∧ c3 = d3 := by
  rw [List.append_assoc, List.append_assoc] at h
  obtain ⟨e1, h⟩ := List.append_inj h h1
  obtain ⟨e2, h⟩ := List.append_inj h h2
  exact ⟨e1, e2, h⟩

theorem setOffs_spec {v : AV} {us : List Value} (hv : R I w μ v.ty true v.x us) (j : Nat) : ∀ (offs : List Nat) (x : AV) (n : Nat) (y : AV) (cs : List Value),
    setOffs v j x offs n = some y → R I w μ x.ty true x.x cs →
      ((j < n ∨ n + offs.length ≤ j) → R I w μ y.ty true y.x cs) ∧
      (∀ off, n ≤ j → offs[j - n]? = some off → ∃ c1 c2 c3, cs = c1 ++ c2 ++ c3 ∧ c1.length = off ∧ c2.length = us.length ∧ R I w μ y.ty true y.x (c1 ++ us ++ c3))
  | [], x, n, y, cs, h, hr => by
    injection h with h; subst h
    exact ⟨fun _ => hr, fun off _ ho => by simp at ho⟩
  | o1 :: ol, x, n, y, cs, h, hr => by
    unfold setOffs at h
    cases hg : getOff v.ty x.ty x.x o1 with
    | none => rw [hg] at h; cases h
    | some u1 =>
      rw [hg] at h
      simp only at h
      cases hc : castTo v.ty u1 with
      | none => rw [hc] at h; cases h
      | some y1 =>
        rw [hc] at h
        simp only at h
        cases hs : setOff ⟨v.ty, bif Nat.beq j n then v.x else y1⟩ x.ty x.x o1 with
        | none => rw [hs] at h; cases h
        | some z =>
          rw [hs] at h
          simp only at h
          have hu1 := castTo_some hc
          subst hu1
          obtain ⟨_, c1, c2, c3, e1, e2, e3⟩ := getOff_sound v.ty x.ty x.x cs o1 _ hr hg
          by_cases hj : j = n
          · subst hj
            rw [show Nat.beq j j = true from Nat.beq_refl j, cond_true] at hs
            obtain ⟨d1, d2, d3, f1, f2, f3, f4⟩ := setOff_sound ⟨v.ty, v.x⟩ us hv x.ty x.x z cs o1 hr hs
            have ih := setOffs_spec hv j ol ⟨x.ty, z⟩ (j + 1) y (d1 ++ us ++ d3) h f4
            refine ⟨fun hh => ?_, fun off _ ho => ?_⟩
            · rcases hh with hh | hh
              · omega
              · simp at hh; omega
            · simp at ho; subst ho
              exact ⟨d1, d2, d3, f1, f2, f3, ih.1 (.inl (by omega))⟩
          · rw [show Nat.beq j n = false from by rw [Bool.eq_false_iff]; exact fun h' => hj (Nat.eq_of_beq_eq_true h'), cond_false] at hs
            obtain ⟨d1, d2, d3, f1, f2, f3, f4⟩ := setOff_sound ⟨v.ty, y1⟩ c2 e3 x.ty x.x z cs o1 hr hs
            obtain ⟨k1, k2, k3⟩ := split_eq (e1.symm.trans f1) (by omega) (by omega)
            subst k1; subst k2; subst k3
            rw [← e1] at f4
            have ih := setOffs_spec hv j ol ⟨x.ty, z⟩ (n + 1) y cs h f4
            refine ⟨fun hh => ih.1 ?_, fun off hle ho => ih.2 off (by omega) ?_⟩
            · rcases hh with hh | hh
              · exact .inl (by omega)
              · simp at hh; exact .inr (by omega)
            · have : j - n = (j - (n + 1)) + 1 := by omega
              rw [this] at ho
              simpa using ho

theorem setOffs_undef {x : AV} (h : x.ty = .undef) (v : AV) (j : Nat) (o : Nat) (l : List Nat) (n : Nat) : setOffs v j x (o :: l) n = none := by
  unfold setOffs; rw [getOff_undef _ _ _ h]

theorem setBox_dead {t : Ty} (h : t = .undef ∨ t = .ob) (x : t.den) (v : AV) (off : Nat) : setBox v ⟨t, x⟩ off = none := by
  have e : setOff v t x off = none := by
    rcases h with rfl | rfl
    · show (if off = 0 ∧ Ty.undef.leaf = true then castTo .undef v else none) = none
      rw [if_neg (by simp [Ty.leaf])]
    · show (if off = 0 ∧ Ty.ob.leaf = true then castTo .ob v else none) = none
      rw [if_neg (by simp [Ty.leaf])]
  have e2 : (t.leaf || t.isTop) = false := by rcases h with rfl | rfl <;> rfl
  unfold setBox
  rw [if_neg (by simp only [e2]; simp), e]
  rfl

theorem setBox_idle {rt : Root} {cv : AV} {b : Nat} (h : Idle rt cv b w) (v : AV) (off : Nat) : setBox v cv off = none := by
  obtain ⟨t, x⟩ := cv
  rcases h with h | ⟨j, h, _⟩
  · exact setBox_dead (.inl h) x v off
  · exact setBox_dead (.inr (by injection h)) x v off

theorem setOffs_idle {rt : Root} {x : AV} {b : Nat} (h : Idle rt x b w) (v : AV) (j : Nat) (o : Nat) (l : List Nat) (n : Nat) : setOffs v j x (o :: l) n = none := by
  unfold setOffs; rw [getOff_idle h]

theorem not_top {t : Ty} (h : t.isTop = true) (hok : t.cellok = true) : False := by cases t <;> simp_all [Ty.isTop, Ty.cellok]
theorem leaf_size {t : Ty} (h : t.leaf = true) : t.csize = 1 := by cases t <;> simp_all [Ty.leaf, Ty.csize]

theorem storeK_sound (hE : EnvOK P E) (H : RelI c I μ ρ s a w) {U : Nat} {p v : AV} {up u : Value} {K : St → Option T} {r : T} (hp : R I w μ p.ty false p.x [up]) (hv : R I w μ v.ty false v.x [u])
    (h : storeK E U s p v K = some r) (X : Nat → Prop) : ∃ s' w', (Instr.storeAt U up u).run P w = .ok () w' ∧ RelX X c I μ ρ s' a w' ∧ K s' = some r := by
  unfold storeK at h
  cases hU : E.ty U with
  | none => rw [hU] at h; cases h
  | some want =>
    rw [hU] at h
    simp only at h
    cases hb : ((decide (want = v.ty) || (decide (want = .top) && v.ty.leaf)) && v.ty.cellok) with
    | false => rw [hb] at h; cases h
    | true =>
      rw [hb] at h
      simp only [Bool.not_true, cond_false] at h
      simp only [Bool.and_eq_true, Bool.or_eq_true, decide_eq_true_eq] at hb
      obtain ⟨hty, hok⟩ := hb
      obtain ⟨i, _, hi, hsz, _⟩ := (hE.tys U _ hU).info
      have hkind : v.ty.leaf = true ∨ v.ty.isSt = true := by
        rcases hty with e | ⟨_, e⟩
        · have := (hE.tys U _ hU).ok
          rw [e] at this
          unfold okTy at this
          simp only [Bool.or_eq_true] at this
          rcases this with (h | h) | h
          · exact .inl h
          · exact (not_top h hok).elim
          · exact .inr h
        · exact .inl e
      have hcell := R_cells hv hkind
      have hones := R_ones v.ty v.x _ hok hcell
      have hsize : u.cells.size = i.size := by
        have := R.size _ _ _ hcell
        rw [Array.length_toList] at this
        rw [this, hsz]
        rcases hty with e | ⟨e, e2⟩
        · rw [e]
        · rw [e]; exact leaf_size e2
      -- what becomes of the box
      have fin : ∀ (k g off : Nat) (cur : Array Value) (et : Nat) (c1 c2 c3 : List Value) (y : AV), μ[k]? = some g → (∃ v0, s.boxes[k]? = some v0 ∧ v0.ty ≠ .undef) → w.heap[g]? = some (.cells cur et (0, 0)) → (∀ o, ¬ I g o) → cur.toList = c1 ++ c2 ++ c3 → c1.length = off →
          c2.length = u.cells.toList.length → R I w μ y.ty true y.x (c1 ++ u.cells.toList ++ c3) → ∃ w', (Instr.storeAt U (.pointer (some ⟨g, off, none⟩)) u).run P w = .ok () w' ∧ RelX X c I μ ρ { s with boxes := setN s.boxes k y } a w' := by
        intro k g off cur et c1 c2 c3 y hk hlv hg hI e1 e2 e3 hy
        have hlen : cur.size = c1.length + c2.length + c3.length := by rw [← Array.length_toList, e1]; simp only [List.length_append]
        have hrun := run_storeVar (P := P) (w := w) (off := off) hi hsize hg (by have e3' : c2.length = u.cells.size := e3.trans Array.length_toList; omega) hones
        have earr : (cur.toList.take off ++ u.cells.toList ++ cur.toList.drop (off + u.cells.size)) = c1 ++ u.cells.toList ++ c3 := by
          rw [e1, ← e2]
          have t1 : (c1 ++ c2 ++ c3).take c1.length = c1 := by rw [List.append_assoc, List.take_left]
          have t2 : (c1 ++ c2 ++ c3).drop (c1.length + u.cells.size) = c3 := by
            rw [show u.cells.size = c2.length by rw [e3, Array.length_toList], ← List.length_append, List.drop_left]
          rw [t1, t2]
        rw [earr] at hrun
        obtain ⟨m1, g1⟩ := H.mem.store (v := y) (arr := (c1 ++ u.cells.toList ++ c3).toArray) hk hlv hg hI (by simpa using hy)
        refine ⟨_, ?_, RelX.step H m1 g1 ?_⟩
        · unfold Instr.storeAt
          simp only [Instr.sureAddr, Sem.run_bind, Sem.run_pure, Result.andThen_ok]
          exact hrun
        · intro p hp _
          have := (H.rooms p hp trivial).setRow (g := g) (arr := (c1 ++ u.cells.toList ++ c3).toArray) (fun _ _ => False) (fun _ _ h => h.elim) ?_
          · have e : (fun b o => I b o ∨ False) = I := by funext b o; simp
            rwa [e] at this
          · intro ad ha hn e
            rcases H.rooms p hp trivial with h | ⟨ad', cs', et', h1, _, _, _, _, _, h7, _⟩
            · exact hn h
            · rw [ha] at h1; cases h1
              exact h7 (by rw [e]; exact List.mem_of_getElem? hk)
      obtain ⟨pt, px⟩ := p
      cases pt with
      | box k off =>
        simp only at h
        obtain ⟨g, hg, rfl⟩ := ptr_box hp
        obtain ⟨cv, hcv, hn, hcont⟩ := box_content H.mem hg
        rw [hn] at h
        cases hs : setBox v cv off with
        | none => rw [hs] at h; cases h
        | some y =>
          rw [hs] at h
          simp only at h
          rcases box_live hcont with hund | ⟨hne, cur, et, hh, hr, hI⟩
          · exfalso
            exact absurd ((setBox_idle hund v off).symm.trans hs) (by simp)
          · unfold setBox at hs
            split at hs
            · rename_i hc
              injection hs with hs; subst hs
              obtain ⟨h0, hcl, hvl⟩ := hc
              have hone : ∃ v1, cur.toList = [v1] := by
                simp only [Bool.or_eq_true] at hcl
                rcases hcl with h | h
                · obtain ⟨v1, e, _⟩ := R.leaf _ h _ _ _ hr; exact ⟨v1, e⟩
                · cases hct : cv.ty <;> rw [hct] at h <;> simp [Ty.isTop] at h
                  have := R.size _ _ _ hr
                  rw [hct] at this
                  match hcl2 : cur.toList, this with
                  | [v1], _ => exact ⟨v1, rfl⟩
              obtain ⟨v1, hone⟩ := hone
              obtain ⟨u1, hu1, _⟩ := R.leaf _ hvl _ _ _ hcell
              obtain ⟨w', g1, g2⟩ := fin k g off cur et [] [v1] [] v hg ⟨cv, hcv, fun e => hne (.inl e)⟩ hh hI (by simpa using hone) (by simp [h0]) (by rw [hu1]; rfl) (by simpa using hcell)
              exact ⟨_, w', g1, g2, h⟩
            · cases hso : setOff v cv.ty cv.x off with
              | none => rw [hso] at hs; cases hs
              | some z =>
                rw [hso] at hs
                simp only [Option.map_some] at hs
                injection hs with hs; subst hs
                obtain ⟨c1, c2, c3, e1, e2, e3, e4⟩ := setOff_sound v _ hcell _ _ _ _ _ hr hso
                obtain ⟨w', g1, g2⟩ := fin k g off cur et c1 c2 c3 ⟨cv.ty, z⟩ hg ⟨cv, hcv, fun e => hne (.inl e)⟩ hh hI e1 e2 e3 e4
                exact ⟨_, w', g1, g2, h⟩
      | boxv k offs =>
        simp only at h
        obtain ⟨g, off, hg, hoff, rfl⟩ := ptr_boxv hp
        obtain ⟨cv, hcv, hn, hcont⟩ := box_content H.mem hg
        rw [hn] at h
        cases hs : setOffs v px cv offs 0 with
        | none => rw [hs] at h; cases h
        | some y =>
          rw [hs] at h
          simp only at h
          rcases box_live hcont with hund | ⟨hne, cur, et, hh, hr, hI⟩
          · exfalso
            cases offs with
            | nil =>
              have k0 : ∀ j : Nat, ([] : List Nat)[j]? = some off → False := fun j hj => by simp at hj
              exact k0 _ hoff
            | cons o1 ol =>
              exact absurd ((setOffs_idle hund v px o1 ol 0).symm.trans hs) (by simp)
          · obtain ⟨c1, c2, c3, e1, e2, e3, e4⟩ := (setOffs_spec hcell px offs cv 0 y cur.toList hs hr).2 off (Nat.zero_le _) hoff
            obtain ⟨w', g1, g2⟩ := fin k g off cur et c1 c2 c3 y hg ⟨cv, hcv, fun e => hne (.inl e)⟩ hh hI e1 e2 e3 e4
            exact ⟨_, w', g1, g2, h⟩
      | _ => cases h

theorem store_sound (hE : EnvOK P E) {K : AV → Cap → St → Option T} {r : T} {U : Nat} {x y : Operand} (H : RelI c I μ ρ s a w) (ho : o.op = .store U x y)
    (h : (match opd s none x, opd s (E.ty U) y with | some p, some v => storeK E U s p v fun s' => K .undef .no s' | _, _ => none) = some r) : Yields P o a w (Out K r c a o.dst) := by
  cases hx : opd s none x with
  | none => rw [hx] at h; cases h
  | some p =>
  cases hy : opd s (E.ty U) y with
  | none => rw [hx, hy] at h; cases h
  | some v =>
    rw [hx, hy] at h
    obtain ⟨s', w', g1, g2, g3⟩ := storeK_sound hE H (opd_sound H hx) (opd_sound H hy) h (noTake .no)
    have hrun : (execOp a.eval o).run P w = .ok .skip w' := by
      unfold execOp; rw [ho]
      simp only [Sem.run_bind, g1, Result.andThen_ok]; rfl
    unfold Yields
    rw [hrun]
    exact ⟨.undef, .no, s', I, μ, ρ, g3, g2, rfl, trivial, fun p e => by cases e⟩
end Go.Ev

set_option linter.unusedVariables false
namespace Go.Ev
open Go.RowKit
variable {P : Program} {E : Env} {I I' : Im} {w w' : World} {μ μ' : List Nat} {c : Ctx} {ρ : Nat → Rm} {s : St} {a : Act} {o : Oper} {T : Type} {bs bs' : List AV}

theorem fold_splice {cells : Array Value} {v : Value} {off : Nat} {c1 c2 c3 : List Value} (e : cells.toList = c1 ++ c2 ++ c3) (h1 : c1.length = off) (h2 : c2.length = v.cells.size) :
    v.cells.zipIdx.foldl (fun cs (x : Value × Nat) => cs.setIfInBounds (off + x.2) x.1) cells = (c1 ++ v.cells.toList ++ c3).toArray := by
  rw [← Array.foldl_toList, Array.toList_zipIdx]
  obtain ⟨g1, g2⟩ := Go.Great.foldl_set off v.cells.toList 0 cells
  have hs : cells.size = c1.length + c2.length + c3.length := by rw [← Array.length_toList, e]; simp only [List.length_append]
  apply Array.ext_getElem?
  intro k
  rw [g2 k]
  simp only [Nat.add_zero, Array.length_toList, List.getElem?_toArray]
  by_cases hA : off ≤ k ∧ k < off + v.cells.size ∧ k < cells.size
  · rw [if_pos hA, List.append_assoc, List.getElem?_append_right (by omega), h1, List.getElem?_append_left (by rw [Array.length_toList]; omega)]
  · rw [if_neg hA, ← Array.getElem?_toList, e]
    by_cases hB : k < off
    · rw [List.append_assoc, List.getElem?_append_left (by omega), List.append_assoc, List.getElem?_append_left (by omega)]
    · rw [List.getElem?_append_right (by simp only [List.length_append]; omega), List.getElem?_append_right (by simp only [List.length_append, Array.length_toList]; omega)]
      simp only [List.length_append, Array.length_toList, h2]

theorem fill_cons {place : Nat → Option (Nat × Nat)} {cells : Array Value} {i : Nat} {v : Value} {rest : List (Nat × Value)} {off : Nat} {c1 c2 c3 : List Value} (hp : place i = some (off, v.cells.size))
    (e : cells.toList = c1 ++ c2 ++ c3) (h1 : c1.length = off) (h2 : c2.length = v.cells.size) : Instr.fill place cells ((i, v) :: rest) = Instr.fill place (c1 ++ v.cells.toList ++ c3).toArray rest := by
  have hs : cells.size = c1.length + c2.length + c3.length := by rw [← Array.length_toList, e]; simp only [List.length_append]
  conv => lhs; unfold Instr.fill
  rw [hp]
  simp only [ne_eq, not_true_eq_false, decide_eq_true_eq, decide_false, Bool.false_or]
  rw [if_neg (by simp; omega), fold_splice e h1 h2]

/-- one field set -/
theorem setField_sound {vs : List Value} {v : AV} (hv : R I w μ v.ty true v.x vs) : ∀ (t : Ty) (x y : t.den) (cs : List Value) (n : Nat), R I w μ t true x cs → setField t x n v = some y →
    fieldTy t n = some v.ty ∧ ∃ c1 c2 c3, cs = c1 ++ c2 ++ c3 ∧ c1.length = fieldOff t n ∧ c2.length = vs.length ∧ R I w μ t true y (c1 ++ vs ++ c3) := by
  intro t
  induction t with
  | pr a b iha ihb =>
    rintro x y cs n ⟨d1, d2, rfl, h1, h2, _⟩ h
    cases n with
    | zero =>
      have h' : (match castTo a v with | some y => some ((y, x.2) : (Ty.pr a b).den) | none => none) = some y := h
      cases hc : castTo a v with
      | none => rw [hc] at h'; cases h'
      | some z =>
        rw [hc] at h'
        have e : (z, x.2) = y := by injection h'
        subst e
        have := castTo_some hc
        subst this
        refine ⟨rfl, [], d1, d2, rfl, (fieldOff_zero _).symm, by rw [R.size _ _ _ h1, R.size _ _ _ hv], vs, d2, rfl, hv, h2, fun h => by cases h⟩
    | succ n =>
      have h' : (match setField b x.2 n v with | some y => some ((x.1, y) : (Ty.pr a b).den) | none => none) = some y := h
      cases hc : setField b x.2 n v with
      | none => rw [hc] at h'; cases h'
      | some z =>
        rw [hc] at h'
        have e : (x.1, z) = y := by injection h'
        subst e
        obtain ⟨g0, c1, c2, c3, g1, g2, g3, g4⟩ := ihb x.2 z d2 n h2 hc
        refine ⟨g0, d1 ++ c1, c2, c3, by rw [g1]; simp, by rw [List.length_append, R.size _ _ _ h1, g2, fieldOff_pr_succ], g3, d1, c1 ++ vs ++ c3, by simp, h1, g4, fun h => by cases h⟩
  | unit => intro x y cs n hr h; cases n <;> cases h
  | _ =>
    intro x y cs n hr h
    cases n with
    | succ n => cases h
    | zero =>
      have := castTo_some h
      subst this
      exact ⟨rfl, [], cs, [], by simp, (fieldOff_zero _).symm, by rw [R.size _ _ _ hr, R.size _ _ _ hv], by simpa using hv⟩

theorem R_okcells {t : Ty} {x : t.den} {u : Value} (h : R I w μ t false x [u]) (hk : okTy t = true) (hn : t.isTop = false) : R I w μ t true x u.cells.toList := by
  unfold okTy at hk
  simp only [Bool.or_eq_true] at hk
  rcases hk with (h1 | h1) | h1
  · exact R_cells h (.inl h1)
  · rw [h1] at hn; cases hn
  · exact R_cells h (.inr h1)

theorem fieldTy_of_set : ∀ (t : Ty) (x z : t.den) (i : Nat) (v : AV), setField t x i v = some z → fieldTy t i = some v.ty := by
  intro t
  induction t with
  | pr a b iha ihb =>
    intro x z i v h
    cases i with
    | zero =>
      have h' : (match castTo a v with | some y => some ((y, x.2) : (Ty.pr a b).den) | none => none) = some z := h
      cases hc : castTo a v with
      | none => rw [hc] at h'; cases h'
      | some y => have := castTo_some hc; subst this; rfl
    | succ n =>
      have h' : (match setField b x.2 n v with | some y => some ((x.1, y) : (Ty.pr a b).den) | none => none) = some z := h
      cases hc : setField b x.2 n v with
      | none => rw [hc] at h'; cases h'
      | some y => exact ihb x.2 y n v hc
  | unit => intro x z i v h; cases i <;> cases h
  | _ =>
    intro x z i v h
    cases i with
    | succ n => cases h
    | zero => have := castTo_some h; subst this; rfl

/-- the parts of a struct, one behind the other -/
theorem setParts_sound (hE : EnvOK P E) (H : RelI c I μ ρ s a w) {fs : Array Field} {t : Ty} (hfs : ∀ f, f < chainLen t → ∃ fd tf, fs[f]? = some fd ∧ fieldTy t f = some tf ∧ fd.offset = fieldOff t f ∧ fd.name ≠ "_" ∧ E.ty fd.type = some tf ∧ 0 < tf.csize)
    {places : List (Nat × Nat)} (hp : ∀ (f : Nat) (fd : Field) (tf : Ty), fs[f]? = some fd → E.ty fd.type = some tf → places[f]? = some (fd.offset, tf.csize)) : ∀ (l : List (Nat × Operand)) (x y : t.den) (cells : Array Value),
    setParts s t x l = some y → R I w μ t true x cells.toList → ∃ r, Instr.fill (fun i => places[i]?) cells (l.map fun p => (p.1, a.eval p.2)) = some r ∧ R I w μ t true y r.toList
  | [], x, y, cells, h, hr => by injection h with h; subst h; exact ⟨cells, rfl, hr⟩
  | (i, op) :: l, x, y, cells, h, hr => by
    unfold setParts at h
    cases hb : Nat.blt i (chainLen t) with
    | false => rw [hb] at h; cases h
    | true =>
      rw [hb] at h
      simp only [Bool.not_true, cond_false] at h
      have hlt : i < chainLen t := by simpa [Nat.blt_eq] using hb
      obtain ⟨fd, tf, h1, h2, h3, _, h4, h5⟩ := hfs i hlt
      cases ho : opd s (fieldTy t i) op with
      | none => rw [ho] at h; cases h
      | some v =>
        rw [ho] at h
        simp only at h
        cases hnt : v.ty.isTop with
        | true => rw [hnt] at h; cases h
        | false =>
        rw [hnt] at h
        simp only [cond_false] at h
        cases hs : setField t x i v with
        | none => rw [hs] at h; cases h
        | some z =>
          rw [hs] at h
          simp only at h
          have hv := opd_sound H ho
          have hvt : v.ty = tf := by
            have k2 : fieldTy t i = some v.ty := fieldTy_of_set t x z i v hs
            rw [h2] at k2; injection k2 with k2; exact k2.symm
          have hty := hE.tys _ _ h4
          have hvc := R_okcells hv (by rw [hvt]; exact hty.ok) hnt
          obtain ⟨_, c1, c2, c3, e1, e2, e3, e4⟩ := setField_sound hvc t x z _ i hr hs
          have hsz : (a.eval op).cells.size = tf.csize := by
            have := R.size _ _ _ hvc
            rw [Array.length_toList] at this
            rw [this, hvt]
          have hplace : places[i]? = some (fieldOff t i, (a.eval op).cells.size) := by rw [hp i fd tf h1 h4, h3, hsz]
          obtain ⟨r, hr1, hr2⟩ := setParts_sound hE H hfs hp l z y (c1 ++ (a.eval op).cells.toList ++ c3).toArray h (by simpa using e4)
          refine ⟨r, ?_, hr2⟩
          rw [List.map_cons, fill_cons (off := fieldOff t i) (c1 := c1) (c2 := c2) (c3 := c3) hplace e1 e2 (by rw [e3, Array.length_toList])]
          exact hr1

theorem struct_places (hE : EnvOK P E) {fs : Array Field} {n : Nat} (hn : fs.size = n) (hfs : ∀ f, f < n → ∃ fd tf, fs[f]? = some fd ∧ E.ty fd.type = some tf) :
    ∃ places, fs.toList.mapM (fun f => (P.info? f.type).map fun i => (f.offset, i.size)) = some places ∧ ∀ (f : Nat) (fd : Field) (tf : Ty), fs[f]? = some fd → E.ty fd.type = some tf → places[f]? = some (fd.offset, tf.csize) := by
  have key : ∀ l : List Field, (∀ fd, fd ∈ l → ∃ tf, E.ty fd.type = some tf) → ∃ places, l.mapM (fun f => (P.info? f.type).map fun i => (f.offset, i.size)) = some places ∧
      ∀ (f : Nat) (fd : Field) (tf : Ty), l[f]? = some fd → E.ty fd.type = some tf → places[f]? = some (fd.offset, tf.csize) := by
    intro l
    induction l with
    | nil => intro _; exact ⟨[], rfl, fun f fd tf h => by simp at h⟩
    | cons x l ih =>
      intro hl
      obtain ⟨tx, hx⟩ := hl x List.mem_cons_self
      obtain ⟨ix, _, hix, hsx, _⟩ := (hE.tys _ _ hx).info
      obtain ⟨pl, h1, h2⟩ := ih (fun fd h => hl fd (List.mem_cons_of_mem _ h))
      refine ⟨(x.offset, tx.csize) :: pl, ?_, ?_⟩
      · simp only [List.mapM_cons, hix, Option.map_some, h1, Option.bind_eq_bind, Option.bind_some, Option.pure_def, hsx]
      · intro f fd tf hf ht
        cases f with
        | zero => simp at hf; subst hf; rw [hx] at ht; cases ht; rfl
        | succ f => simp at hf; simpa using h2 f fd tf hf ht
  obtain ⟨pl, h1, h2⟩ := key fs.toList (fun fd h => by
    obtain ⟨i, hi⟩ := List.mem_iff_getElem?.1 h
    have hi' : fs[i]? = some fd := by rw [← Array.getElem?_toList]; exact hi
    obtain ⟨fd', tf, g1, g2⟩ := hfs i (by rw [← hn]; exact (Array.getElem?_eq_some_iff.1 hi').1)
    rw [hi'] at g1; cases g1
    exact ⟨tf, g2⟩)
  exact ⟨pl, h1, fun f fd tf hf ht => h2 f fd tf (by rw [Array.getElem?_toList]; exact hf) ht⟩

theorem build_sound (hE : EnvOK P E) {K : AV → Cap → St → Option T} {r : T} {U : Nat} {parts : Array (Nat × Operand)} (H : RelI c I μ ρ s a w) (ho : o.op = .build U parts)
    (h : (match E.ty U with
    | some (.st t) => bif !(E.strs.contains U) then none else match t.zero with
      | some z => match setParts s t z parts.toList with
        | some y => K ⟨.st t, y⟩ .no s
        | none => none
      | none => none
    | _ => none) = some r) : Yields P o a w (Out K r c a o.dst) := by
  cases hU : E.ty U with
  | none => rw [hU] at h; cases h
  | some st =>
    rw [hU] at h
    cases st with
    | st t =>
      simp only at h
      cases hc : E.strs.contains U with
      | false => rw [hc] at h; cases h
      | true =>
        rw [hc] at h
        simp only [Bool.not_true, cond_false] at h
        cases hz : t.zero with
        | none => rw [hz] at h; cases h
        | some z =>
          rw [hz] at h
          simp only at h
          cases hp : setParts s t z parts.toList with
          | none => rw [hp] at h; cases h
          | some y =>
            rw [hp] at h
            simp only at h
            have hty := hE.tys U _ hU
            obtain ⟨i, zv, hi, hs, hzv, _, hzero⟩ := hty.info
            obtain ⟨arr, e, hzr⟩ := hzero z hz I w μ
            have e : zv = .agg arr.toArray := by injection e
            rcases hty.st t rfl with ⟨fs, hfs, hn, hfd⟩ | ⟨n, e', harr, _⟩
            · obtain ⟨places, g1, g2⟩ := struct_places hE hn (fun f hf => by obtain ⟨fd, tf, k1, _, _, _, k2, _⟩ := hfd f hf; exact ⟨fd, tf, k1, k2⟩)
              obtain ⟨rr, k1, k2⟩ := setParts_sound hE H hfd g2 parts.toList z y zv.cells hp (by rw [e]; simpa [Value.cells] using hzr)
              have hbuilt : P.built U (parts.map fun (i, x) => (i, a.eval x)).toList = some rr := by
                unfold Program.built
                rw [hi, hfs]
                simp only [hzv, g1, Array.toList_map]
                have e3 : (fun (x : Nat) => places.toArray[x]?) = fun (i : Nat) => places[i]? := by funext x; simp
                rw [e3]; exact k1
              refine yields_value (u := .agg rr) (w' := w) ?_ (Out.no h H ⟨rr.toList, by simp, k2⟩)
              unfold execOp; rw [ho]
              simp only [Sem.run_bind, run_build w U _ rr hbuilt, Result.andThen_ok]; rfl
            · obtain ⟨fs, hfs⟩ := hE.strs U (by simpa using hc)
              rw [harr] at hfs; cases hfs
    | _ => simp only at h; cases h
end Go.Ev

set_option linter.unusedVariables false
namespace Go.Ev
open Go.RowKit
variable {P : Program} {E : Env} {I I' : Im} {w w' : World} {μ μ' : List Nat} {c : Ctx} {ρ : Nat → Rm} {s : St} {a : Act} {o : Oper} {T : Type} {bs bs' : List AV}

/-- memory has grown behind what there was, and some of it is fixed -/
theorem grown_sound {X : Nat → Prop} (H : RelI c I μ ρ s a w) (hb : Below w.heap.size w w') (N : Im) (hN : ∀ b o, N b o → w.heap.size ≤ b ∧ b < w'.heap.size) (hC : ∀ b o, N b o → IsC w' b) :
    RelX X c (fun b o => I b o ∨ N b o) μ ρ s a w' ∧ Grow I w μ (fun b o => I b o ∨ N b o) w' μ := by
  have g : Grow I w μ (fun b o => I b o ∨ N b o) w' μ := Grow.below hb H.mem.imlt (fun _ _ h => .inl h)
  exact ⟨RelX.step H (H.mem.grown hb N hN hC) g (fun p hp _ => (H.rooms p hp trivial).grown hb N (fun b o h => (hN b o h).1)), g⟩

/-- a part of a row replaced -/
theorem RAll_set (t : Ty) {vs : List Value} {y : t.den} (hv : R I w μ t true y vs) : ∀ (l : List t.den) (cs : List Value) (i : Nat), RAll (R I w μ t true) l cs → i < l.length →
    ∃ c1 c2 c3, cs = c1 ++ c2 ++ c3 ∧ c1.length = i * t.csize ∧ c2.length = vs.length ∧ RAll (R I w μ t true) (setN l i y) (c1 ++ vs ++ c3)
  | [], _, _, _, h => by simp at h
  | x :: l, cs, 0, ⟨c1, c2, e, h1, h2⟩, _ => ⟨[], c1, c2, by rw [e]; rfl, by simp, by rw [R.size _ _ _ h1, R.size _ _ _ hv], vs, c2, by simp, hv, h2⟩
  | x :: l, cs, i + 1, ⟨c1, c2, e, h1, h2⟩, h => by
    obtain ⟨d1, d2, d3, g1, g2, g3, g4⟩ := RAll_set t hv l c2 i h2 (by simpa using h)
    refine ⟨c1 ++ d1, d2, d3, by rw [e, g1]; simp, by rw [List.length_append, R.size _ _ _ h1, g2, Nat.add_mul]; omega, g3, c1, d1 ++ vs ++ d3, by simp, h1, g4⟩

theorem setElems_sound (hE : EnvOK P E) (H : RelI c I μ ρ s a w) {t : Ty} (hk : okTy t = true) : ∀ (l : List (Nat × Operand)) (x y : List t.den) (cells : Array Value),
    setElems s t x l = some y → RAll (R I w μ t true) x cells.toList → ∃ r, Instr.fill (fun i => some (i * t.csize, t.csize)) cells (l.map fun p => (p.1, a.eval p.2)) = some r ∧ RAll (R I w μ t true) y r.toList ∧ y.length = x.length
  | [], x, y, cells, h, hr => by injection h with h; subst h; exact ⟨cells, rfl, hr, rfl⟩
  | (i, op) :: l, x, y, cells, h, hr => by
    unfold setElems at h
    cases ho : opd s (some t) op with
    | none => rw [ho] at h; cases h
    | some v =>
      rw [ho] at h
      simp only at h
      cases hc : castTo t v with
      | none => rw [hc] at h; cases h
      | some z =>
        rw [hc] at h
        simp only at h
        cases hb : (Nat.blt i x.length && !t.isTop) with
        | false => rw [hb] at h; cases h
        | true =>
          rw [hb] at h
          simp only [cond_true] at h
          simp only [Bool.and_eq_true, Nat.blt_eq, Bool.not_eq_true'] at hb
          have hv := opd_sound H ho
          have := castTo_some hc
          subst this
          have hvc := R_okcells hv hk hb.2
          obtain ⟨c1, c2, c3, e1, e2, e3, e4⟩ := RAll_set t hvc x _ i hr hb.1
          have hsz : (a.eval op).cells.size = t.csize := by
            have := R.size _ _ _ hvc
            rwa [Array.length_toList] at this
          obtain ⟨r, hr1, hr2, hr3⟩ := setElems_sound hE H hk l (setN x i z) y (c1 ++ (a.eval op).cells.toList ++ c3).toArray h (by simpa using e4)
          refine ⟨r, ?_, hr2, by rw [hr3, setN_length]⟩
          rw [List.map_cons, fill_cons (off := i * t.csize) (c1 := c1) (c2 := c2) (c3 := c3) (by rw [hsz]) e1 e2 (by rw [e3, Array.length_toList])]
          exact hr1

theorem zeros_RAll (t : Ty) (z : t.den) (zc : Array Value) (hz : R I w μ t true z zc.toList) (n : Nat) : RAll (R I w μ t true) (List.replicate n z) ((Array.range (n * t.csize)).map (zc[· % zc.size]!)).toList := by
  have hl : zc.size = t.csize := by have := R.size _ _ _ hz; rwa [Array.length_toList] at this
  have key : ∀ n, ((Array.range (n * t.csize)).map (zc[· % zc.size]!)).toList = (List.replicate n zc.toList).flatten := by
    intro n
    rw [Array.toList_map, Array.toList_range]
    induction n with
    | zero => simp
    | succ n ih =>
      rw [List.replicate_succ, List.flatten_cons, ← ih, Nat.add_mul, Nat.one_mul, Nat.add_comm, List.range_add, List.map_append]
      congr 1
      · apply List.ext_getElem
        · simp [hl]
        · intro k h1 h2
          simp at h1
          have hk : k < zc.size := by omega
          simp [Nat.mod_eq_of_lt hk, hk]
      · rw [List.map_map]
        apply List.map_congr_left
        intro k _
        simp [hl, Nat.add_mod_left]
  rw [key]
  induction n with
  | zero => rfl
  | succ n ih => exact ⟨zc.toList, (List.replicate n zc.toList).flatten, by rw [List.replicate_succ, List.flatten_cons], hz, ih⟩

theorem buildSlice_sound (hE : EnvOK P E) {K : AV → Cap → St → Option T} {r : T} {U len : Nat} {parts : Array (Nat × Operand)} (H : RelI c I μ ρ s a w) (ho : o.op = .buildSlice U len parts)
    (h : (match E.ty U with
    | some (.sl t) => match t.zero with
      | some z => match setElems s t (List.replicate len z) parts.toList with
        | some y => bif Nat.ble (len * t.csize) 1000 then K ⟨.sl t, y⟩ .fresh s else none
        | none => none
      | none => none
    | _ => none) = some r) : Yields P o a w (Out K r c a o.dst) := by
  cases hU : E.ty U with
  | none => rw [hU] at h; cases h
  | some st =>
    rw [hU] at h
    cases st with
    | sl t =>
      simp only at h
      cases hz : t.zero with
      | none => rw [hz] at h; cases h
      | some z =>
        rw [hz] at h
        simp only at h
        cases hp : setElems s t (List.replicate len z) parts.toList with
        | none => rw [hp] at h; cases h
        | some y =>
          rw [hp] at h
          simp only at h
          cases hle : Nat.ble (len * t.csize) 1000 with
          | false => rw [hle] at h; cases h
          | true =>
            rw [hle] at h
            simp only [cond_true] at h
            have hle : len * t.csize ≤ 1000 := Nat.le_of_ble_eq_true hle
            obtain ⟨e, hue, hte⟩ := (hE.tys _ _ hU).sl t rfl
            have hty := hE.tys e _ hte
            obtain ⟨ie, zv, hie, hse, hzv, _, hzero⟩ := hty.info
            have hzr := hzero z hz I w μ
            have hnt : t.isTop = false := by cases t <;> first | rfl | cases hz
            have hzc := R_okcells hzr hty.ok hnt
            obtain ⟨rr, k1, k2, k3⟩ := setElems_sound hE H hty.ok parts.toList _ y _ hp (zeros_RAll t z zv.cells hzc len)
            have hlen : y.length = len := by rw [k3, List.length_replicate]
            have hrr : rr.size = len * t.csize := by have := RAll_size t _ _ k2; rw [Array.length_toList, hlen] at this; exact this
            have hfill : Instr.fill (fun i => some (i * ie.size, ie.size)) ((Array.range (len * ie.size)).map (zv.cells[· % zv.cells.size]!)) (parts.map fun (i, x) => (i, a.eval x)).toList = some rr := by
              rw [hse, Array.toList_map]; exact k1
            have hrun : (execOp a.eval o).run P w = .ok (.value (.slice (some ⟨w.heap.size, 0, none⟩) len len)) (w.alloc (.cells rr e)) := by
              unfold execOp; rw [ho]
              simp only [Sem.run_bind, Instr.buildSlice, run_underlying hue, Result.andThen_ok, run_sizeOf hie, Sem.run_ite]
              rw [if_neg (by rw [hse]; omega)]
              by_cases h0 : len * ie.size = 0
              · rw [if_pos h0]
                have hf0 : Instr.fill (fun i => some (i * ie.size, ie.size)) ((Array.range (len * ie.size)).map ((#[] : Array Value)[· % (#[] : Array Value).size]!)) (parts.map fun (i, x) => (i, a.eval x)).toList = some rr := by
                  rw [h0] at hfill ⊢
                  have r0 : ∀ f : Nat → Value, (Array.range 0).map f = #[] := fun f => by simp
                  rw [r0] at hfill ⊢; exact hfill
                simp only [Sem.run_pure, Result.andThen_ok, hf0, newRow, Sem.run_bind]; rfl
              · rw [if_neg h0]
                simp only [Sem.run_bind, run_zeroValue hie hzv, Sem.run_pure, Result.andThen_ok, hfill, newRow]; rfl
            have hb := below_refl_alloc (w := w) (.cells rr e)
            obtain ⟨g1, g2⟩ := grown_sound (X := noTake .fresh) H hb (fun b _ => b = w.heap.size) (fun b o h => by subst h; simp) (fun b o h => by subst h; exact ⟨_, _, _, alloc_new _⟩)
            have hcells : cellsAt (fun b o => I b o ∨ b = w.heap.size) (w.alloc (.cells rr e)) ⟨w.heap.size, 0, none⟩ rr.toList := by
              intro j v hj
              rw [add_lit]
              refine ⟨?_, .inr rfl⟩
              simp only [World.cell?, alloc_new, Nat.zero_add]
              simpa using hj
            refine yields_value hrun ⟨⟨.sl t, y⟩, .fresh, s, _, μ, ρ, h, g1, ⟨some ⟨w.heap.size, 0, none⟩, len, len, rr.toList, rfl, hlen.symm, Nat.le_refl _, RAll.mono (fun (x : t.den) cs (hx : R I w μ t true x cs) => hx.grow g2) y rr.toList k2, (fun h => by cases h), (fun ad had => by cases had; exact hcells)⟩, ?_, fun p e => by cases e⟩
            intro t' ht'
            cases ht'
            exact ⟨⟨some ⟨w.heap.size, 0, none⟩, len, len, t.csize⟩, rfl, rfl, .inl rfl, fun q _ => .inl rfl⟩
    | _ => simp only at h; cases h
end Go.Ev

set_option linter.unusedVariables false
namespace Go.Ev
open Go.RowKit
variable {P : Program} {E : Env} {I I' : Im} {w w' : World} {μ μ' : List Nat} {c : Ctx} {ρ : Nat → Rm} {s : St} {a : Act} {o : Oper} {T : Type} {bs bs' : List AV}

theorem run_append_zero {U e ty : Nat} {i : TypeInfo} {base b2 : Option Addr} {n cap c2 : Nat} (hU : P.underlying U = some (.slice e)) (hi : P.info? e = some i) (hc : n ≤ cap) :
    (Builtin.append_ #[U, U] ty #[.slice base n cap, .slice b2 0 c2]).run P w = .ok (.slice base n cap) w := by
  have h0 : ∀ w : World, (Builtin.firstCells i.size 0 (.slice b2 0 c2)).run P w = .ok #[] w := by
    intro w
    cases b2 with
    | none => rfl
    | some b =>
      unfold Builtin.firstCells loadCells
      simp [loadCellsFrom]
  have hst : ∀ (ad : Addr) (w : World), (storeCells ad []).run P w = .ok () w := fun _ _ => rfl
  cases base with
  | none => simp [Builtin.append_, run_underlying hU, sizeOf, typeInfo, hi, Builtin.lenOf, hc, h0]
  | some b => simp [Builtin.append_, run_underlying hU, sizeOf, typeInfo, hi, Builtin.lenOf, hc, h0, hst]

theorem run_append_in {t ty e : Nat} {i : TypeInfo} (ht : P.underlying t = some (.slice e)) (hi : P.info? e = some i)
    {g sLen sCap et : Nat} {cur : Array Value} (hg : w.heap[g]? = some (.cells cur et (0, 0)))
    {a : Addr} {m c : Nat} {news : List Value} (hl : news.length = m * i.size) (hnews : ∀ (j : Nat) u, news[j]? = some u → w.cell? (a.add j) = some u) (h1 : ∀ u, u ∈ news → u.oneCell' = true)
    (hroom : sLen + m ≤ sCap) (hfit : sLen * i.size + news.length ≤ cur.size) :
    (Builtin.append_ #[t, t] ty #[.slice (some ⟨g, 0, none⟩) sLen sCap, .slice (some a) m c]).run P w =
      .ok (.slice (some ⟨g, 0, none⟩) (sLen + m) sCap) (w.setRow g (cur.toList.take (sLen * i.size) ++ news ++ cur.toList.drop (sLen * i.size + news.length)).toArray) := by
  have hf := run_firstCells_some (P := P) w i.size m a m c news hl hnews
  have hst := run_storeCells_at P g (sLen * i.size) et news 0 cur w hg (by simpa using hfit) h1
  simp only [Nat.add_zero] at hst
  simp [Builtin.append_, run_underlying ht, sizeOf, typeInfo, hi, Builtin.lenOf, hroom, hf, Addr.add_lit, hst]

/-- a block that is nobody's box is written -/
theorem MemI.fill (H : MemI c I μ bs w) {g : Nat} {cur arr : Array Value} {et : Nat} (hg : w.heap[g]? = some (.cells cur et (0, 0))) (hb : c.w0.heap.size ≤ g) (hm : g ∉ μ) (hF : ¬ c.F g)
    (hI : ∀ o, I g o → arr[o]? = cur[o]?) (N : Im) (hN : ∀ b o, N b o → b = g) :
    MemI c (fun b o => I b o ∨ N b o) μ bs (w.setRow g arr) ∧ Grow I w μ (fun b o => I b o ∨ N b o) (w.setRow g arr) μ := by
  have gg := grow_setRow (I := I) (μ := μ) (arr := arr) hg hI N
  refine ⟨⟨below_setRow H.below hb, H.base, H.grow.trans gg, by simpa using H.sizeS, H.blen, ?_, H.nodup, by simpa using H.mu, H.munew, ?_, ?_, H.root.trans gg, H.rlen, ?_⟩, gg⟩
  · intro i v b hv hmb
    have hne : b ≠ g := fun e => hm (by rw [← e]; exact List.mem_of_getElem? hmb)
    rcases H.boxes i v b hv hmb with h | ⟨cs, et', h1, h2, h3⟩
    · exact .inl (h.step fun _ => setRow_other _ _ _ _ hne)
    · refine .inr ⟨cs, et', by rw [setRow_other _ _ _ _ hne]; exact h1, h2.grow gg, ?_⟩
      rintro o (k | k)
      · exact h3 o k
      · exact hne (hN _ _ k)
  · rintro b o (k | k)
    · simpa using H.imlt b o k
    · rw [hN _ _ k]; simpa using lt_of_get hg
  · rintro b o (k | k)
    · exact (H.imc b o k).setRow _ _
    · rw [hN _ _ k]; exact IsC.setRow ⟨_, _, _, hg⟩ _ _
  · intro b hb'
    obtain ⟨h1, h2, h3, h4⟩ := H.fr b hb'
    have hne : b ≠ g := fun e => hF (by rw [← e]; exact hb')
    refine ⟨h1, by rw [setRow_other _ _ _ _ hne]; exact h2, h3, ?_⟩
    rintro o (k | k)
    · exact h4 o k
    · exact absurd (hN _ _ k) hne

/-- what an append comes to -/
theorem append_out (hE : EnvOK P E) (H : RelI c I μ ρ s a w) {U ty n : Nat} {t : Ty} (hU : E.ty U = some (.sl t)) (hlim : look E.lim U = some n) (hcs : 0 < t.csize) (hz : t.zero.isSome = true) (hck : t.cellok = true) {l m : List t.den} {u v : Value}
    (hl : R I w μ (.sl t) false l [u]) (hm : R I w μ (.sl t) false m [v]) (hfit : (l.length + m.length) * n ≤ 140737488355328)
    {r : Rm} (hu : u = .slice r.a r.n r.cap) (hrs : r.sz = t.csize) (hroom : Room c.w0.heap.size c.F I μ w r) (X : Nat → Prop) (hX : ∀ q, Live s q → X q → Apart r (ρ q)) :
    ∃ u' w' I' r', (Builtin.append_ #[U, U] ty #[u, v]).run P w = .ok u' w' ∧ RelX X c I' μ ρ s a w' ∧ R I' w' μ (.sl t) false (app l m) [u'] ∧ r'.sz = t.csize ∧ u' = .slice r'.a r'.n r'.cap ∧
      Room c.w0.heap.size c.F I' μ w' r' ∧ ∀ q, Live s q → X q → Apart r' (ρ q) := by
  obtain ⟨e, hue, hte⟩ := (hE.tys _ _ hU).sl t rfl
  have hty := hE.tys e _ hte
  obtain ⟨ie, zv, hie, hse, hzv, _, hzero⟩ := hty.info
  obtain ⟨ie', hie', hby, hpos⟩ := hE.lims _ _ _ hlim hue
  rw [hie] at hie'; cases hie'
  obtain ⟨z, hzz⟩ := Option.isSome_iff_exists.1 hz
  have hnt : t.isTop = false := by cases t <;> first | rfl | cases hzz
  have hzc := R_okcells (hzero z hzz I w μ) hty.ok hnt
  have hzs : zv.cells.size = t.csize := by have := R.size _ _ _ hzc; rwa [Array.length_toList] at this
  obtain ⟨ad, n1, cap, cl, e1, hn1, hcap, hal, hno, hcl⟩ := hl
  obtain ⟨bd, n2, cap2, cm, e2, hn2, hcap2, ham, hno2, hcm⟩ := hm
  have e1 : u = .slice ad n1 cap := by injection e1
  have e2 : v = .slice bd n2 cap2 := by injection e2
  rw [e1] at hu
  injection hu with a1 a2 a3
  have hlcl : cl.length = n1 * t.csize := by rw [hn1]; exact RAll_size t _ _ hal
  have hlcm : cm.length = n2 * t.csize := by rw [hn2]; exact RAll_size t _ _ ham
  have hones := RAll_ones t hck _ _ ham
  have hfit : (n1 + n2) * n ≤ 140737488355328 := by rw [hn1, hn2]; exact hfit
  have hsmall : n1 + n2 ≤ 140737488355328 := Nat.le_trans (Nat.le_mul_of_pos_right _ hpos) hfit
  have happ : (app l m).length = n1 + n2 := by unfold app; rw [List.length_append, hn1, hn2]
  by_cases h0 : n2 = 0
  · -- nothing comes
    subst h0
    have hm0 : m = [] := List.eq_nil_of_length_eq_zero hn2.symm
    refine ⟨u, w, I, r, ?_, H.toX X, ?_, hrs, by rw [e1, a1, a2, a3], hroom, hX⟩
    · rw [e1, e2]; exact run_append_zero hue hie hcap
    · have : app l m = l := by unfold app; rw [hm0, List.append_nil]
      rw [this]
      exact ⟨ad, n1, cap, cl, by rw [e1], hn1, hcap, hal, hno, hcl⟩
  · -- the source is there
    cases bd with
    | none => have := hno2 rfl; omega
    | some bd =>
    have hsrc : ∀ (j : Nat) x, cm[j]? = some x → w.cell? (bd.add j) = some x := fun j x hj => (hcm bd rfl j x hj).1
    by_cases hin : n1 + n2 ≤ cap
    · -- in place
      have hne : r.n ≠ r.cap := by rw [← a2, ← a3]; omega
      rcases hroom with h | ⟨ad', cur, et, k1, k2, k3, k4, k5, k6, k7, k8, k9⟩
      · exact absurd h hne
      rw [← a1] at k1
      obtain ⟨g, hgad⟩ : ∃ g, ad' = ⟨g, 0, none⟩ := by
        obtain ⟨x, y, z⟩ := ad'; simp only at k2 k3; subst k2; subst k3; exact ⟨x, rfl⟩
      subst hgad
      subst k1
      simp only [Nat.zero_add] at k4 k5 k6 k7 k8 k9
      rw [hrs, ← a3] at k5
      rw [hrs, ← a2] at k9
      have hsz1 : n1 * t.csize + cm.length ≤ cur.size := by
        rw [hlcm, ← Nat.add_mul]; exact Nat.le_trans (Nat.mul_le_mul_right _ hin) k5
      have hrun := run_append_in (ty := ty) hue hie k4 (a := bd) (c := cap2) (by rw [hse]; exact hlcm) hsrc hones hin (by rw [hse]; exact hsz1)
      rw [hse] at hrun
      have harr : ∀ o, o < n1 * t.csize → (cur.toList.take (n1 * t.csize) ++ cm ++ cur.toList.drop (n1 * t.csize + cm.length)).toArray[o]? = cur[o]? := by
        intro o ho
        rw [List.getElem?_toArray, List.append_assoc, List.getElem?_append_left (by rw [List.length_take, Array.length_toList]; omega), List.getElem?_take, if_pos ho, Array.getElem?_toList]
      have hclcur : ∀ (j : Nat) x, cl[j]? = some x → cur[j]? = some x := by
        intro j x hj
        have := (hcl _ rfl j x hj).1
        rw [add_lit] at this
        simp only [World.cell?, k4, Nat.zero_add] at this
        simpa using this
      have hIlt : ∀ o, I g o → o < n1 * t.csize := fun o ho => by
        rcases Nat.lt_or_ge o (n1 * t.csize) with h | h
        · exact h
        · exact absurd ho (k9 o h)
      obtain ⟨m1, m2⟩ := H.mem.fill (arr := (cur.toList.take (n1 * t.csize) ++ cm ++ cur.toList.drop (n1 * t.csize + cm.length)).toArray) k4 k6 k7 k8 (fun o ho => harr o (hIlt o ho))
        (fun b o => b = g ∧ o < (n1 + n2) * t.csize) (fun b o h => h.1)
      have hcs2 : cellsAt (fun b o => I b o ∨ (b = g ∧ o < (n1 + n2) * t.csize)) (w.setRow g (cur.toList.take (n1 * t.csize) ++ cm ++ cur.toList.drop (n1 * t.csize + cm.length)).toArray) ⟨g, 0, none⟩ (cl ++ cm) := by
        intro j x hj
        rw [add_lit]
        have hjlt : j < cl.length + cm.length := by have := (List.getElem?_eq_some_iff.1 hj).1; rwa [List.length_append] at this
        refine ⟨?_, .inr ⟨rfl, by show 0 + j < _; rw [Nat.add_mul]; omega⟩⟩
        simp only [World.cell?, setRow_heap _ _ _ _ _ _ k4, Nat.zero_add, Option.isSome_none, Bool.false_eq_true, if_false]
        by_cases hj1 : j < cl.length
        · rw [harr j (by omega)]
          rw [List.getElem?_append_left hj1] at hj
          exact hclcur j x hj
        · rw [List.getElem?_append_right (by omega)] at hj
          have htk : (cur.toList.take (n1 * t.csize)).length = cl.length := by rw [List.length_take, Array.length_toList]; omega
          rw [List.getElem?_toArray, List.append_assoc, List.getElem?_append_right (by omega), htk, List.getElem?_append_left (by omega)]
          exact hj
      refine ⟨_, _, _, ⟨some ⟨g, 0, none⟩, n1 + n2, cap, t.csize⟩, by rw [e1, e2]; exact hrun, RelX.step H m1 m2 ?_, ⟨some ⟨g, 0, none⟩, n1 + n2, cap, cl ++ cm, rfl, happ.symm, hin, ?_, (fun h => by cases h), (fun ad had => by cases had; exact hcs2)⟩, rfl, rfl, ?_, ?_⟩
      · intro q hq hXq
        refine (H.rooms q hq trivial).setRow _ (fun b o h => h.1) ?_
        intro x hx hnq e
        rcases hX q hq hXq with h | h | h
        · exact hne h
        · exact hnq h
        · exact h ⟨g, 0, none⟩ x a1.symm hx e.symm
      · unfold app
        exact RAll_append _ _ _ _ (RAll.mono (fun (x : t.den) cs hx => hx.grow m2) _ _ hal) (RAll.mono (fun (x : t.den) cs hx => hx.grow m2) _ _ ham)
      · refine .inr ⟨⟨g, 0, none⟩, _, et, rfl, rfl, rfl, setRow_heap _ _ _ _ _ _ k4, ?_, k6, k7, k8, ?_⟩
        · show 0 + cap * t.csize ≤ _
          have : (cur.toList.take (n1 * t.csize) ++ cm ++ cur.toList.drop (n1 * t.csize + cm.length)).toArray.size = cur.size := by
            rw [List.size_toArray, List.length_append, List.length_append, List.length_take, List.length_drop, Array.length_toList]; omega
          rw [this]; omega
        · show ∀ o, 0 + (n1 + n2) * t.csize ≤ o → _
          rintro o ho (k | k)
          · exact k9 o (by rw [Nat.add_mul] at ho; omega) k
          · omega
      · intro q hq hXq
        rcases hX q hq hXq with h | h | h
        · exact absurd h hne
        · exact .inr (.inl h)
        · exact .inr (.inr fun x y hx hy => by cases hx; exact h _ y a1.symm hy)
    · -- a new row
      have hnew : ∃ newcap, n1 + n2 ≤ newcap ∧ (Builtin.append_ #[U, U] ty #[u, v]).run P w = .ok (.slice (some ⟨w.heap.size, 0, none⟩) (n1 + n2) newcap)
          (w.drew.alloc (.cells (cl.toArray ++ cm.toArray ++ Builtin.zeroCells zv.cells (newcap - (n1 + n2))) e)) := by
        cases ad with
        | none =>
          have hc0 := hno rfl
          have hn0 : n1 = 0 := by omega
          have hcl0 : cl = [] := List.eq_nil_of_length_eq_zero (by rw [hlcl, hn0]; simp)
          refine ⟨grownCap w n2 0 e, by rw [hn0, Nat.zero_add]; exact grownCap_ge w n2 0 e, ?_⟩
          rw [e1, e2, hn0, hc0, hcl0]
          have := run_append_nil (P := P) w U ty e ie zv hue hie hzv bd n2 cap2 cm (by rw [hse]; exact hlcm) hsrc (by omega) (by omega) (by rw [hby]; rw [hn0, Nat.zero_add] at hfit; omega)
          simpa using this
        | some ad =>
          refine ⟨grownCap w (n1 + n2) cap e, grownCap_ge w _ _ e, ?_⟩
          rw [e1, e2]
          exact run_append_grow (P := P) w U ty e ie zv hue hie hzv ad n1 cap cl (by rw [hse]; exact hlcl) (fun j x hj => (hcl ad rfl j x hj).1) bd n2 cap2 cm (by rw [hse]; exact hlcm) hsrc (by omega) (by omega)
            (growslice_fits (by omega) (by rw [hby]; exact hfit))
      obtain ⟨newcap, hnc, hrun⟩ := hnew
      have hb := below_drew_alloc (w := w) (.cells (cl.toArray ++ cm.toArray ++ Builtin.zeroCells zv.cells (newcap - (n1 + n2))) e)
      have hnewblk : (w.drew.alloc (.cells (cl.toArray ++ cm.toArray ++ Builtin.zeroCells zv.cells (newcap - (n1 + n2))) e)).heap[w.heap.size]? = some (.cells (cl.toArray ++ cm.toArray ++ Builtin.zeroCells zv.cells (newcap - (n1 + n2))) e (0, 0)) := alloc_new (w := w.drew) _
      obtain ⟨g1, g2⟩ := grown_sound (X := X) H hb (fun b o => b = w.heap.size ∧ o < (n1 + n2) * t.csize) (fun b o h => by obtain ⟨rfl, _⟩ := h; exact ⟨Nat.le_refl _, lt_of_get hnewblk⟩) (fun b o h => by obtain ⟨rfl, _⟩ := h; exact ⟨_, _, _, hnewblk⟩)
      have hcs2 : cellsAt (fun b o => I b o ∨ (b = w.heap.size ∧ o < (n1 + n2) * t.csize)) (w.drew.alloc (.cells (cl.toArray ++ cm.toArray ++ Builtin.zeroCells zv.cells (newcap - (n1 + n2))) e)) ⟨w.heap.size, 0, none⟩ (cl ++ cm) := by
        intro j x hj
        rw [add_lit]
        have hjlt : j < cl.length + cm.length := by have := (List.getElem?_eq_some_iff.1 hj).1; rwa [List.length_append] at this
        refine ⟨?_, .inr ⟨rfl, by show 0 + j < _; rw [Nat.add_mul]; omega⟩⟩
        simp only [World.cell?, hnewblk, Nat.zero_add, Option.isSome_none, Bool.false_eq_true, if_false]
        rw [Array.getElem?_append_left (by simp only [Array.size_append, List.size_toArray]; exact hjlt), ← hj]
        simp
      have hasz : (cl.toArray ++ cm.toArray ++ Builtin.zeroCells zv.cells (newcap - (n1 + n2))).size = newcap * t.csize := by
        rw [Array.size_append, Array.size_append, List.size_toArray, List.size_toArray, size_zeroCells, hzs, hlcl, hlcm, ← Nat.add_mul, ← Nat.add_mul]
        congr 1; omega
      have hmu : w.heap.size ∉ μ := fun h => by have := (H.mem.mu _ h).2; omega
      have hF : ¬ c.F w.heap.size := fun h => by have := (H.mem.fr _ h).1; have := H.mem.sizeS; omega
      refine ⟨_, _, _, ⟨some ⟨w.heap.size, 0, none⟩, n1 + n2, newcap, t.csize⟩, hrun, g1, ⟨some ⟨w.heap.size, 0, none⟩, n1 + n2, newcap, cl ++ cm, rfl, happ.symm, hnc, ?_, (fun h => by cases h), (fun ad had => by cases had; exact hcs2)⟩, rfl, rfl, ?_, ?_⟩
      · unfold app
        exact RAll_append _ _ _ _ (RAll.mono (fun (x : t.den) cs hx => hx.grow g2) _ _ hal) (RAll.mono (fun (x : t.den) cs hx => hx.grow g2) _ _ ham)
      · refine .inr ⟨⟨w.heap.size, 0, none⟩, _, e, rfl, rfl, rfl, hnewblk, ?_, Nat.le_trans H.mem.base H.mem.sizeS, hmu, hF, ?_⟩
        · show 0 + newcap * t.csize ≤ _
          rw [hasz]; omega
        · show ∀ o, 0 + (n1 + n2) * t.csize ≤ o → _
          rintro o ho (k | k)
          · exact absurd (H.mem.imlt _ _ k) (Nat.lt_irrefl _)
          · exact absurd k.2 (by omega)
      · intro q hq hXq
        by_cases hnq : (ρ q).n = (ρ q).cap
        · exact .inr (.inl hnq)
        · refine .inr (.inr fun x y hx hy e => ?_)
          cases hx
          obtain ⟨ad', h3, h4⟩ := (H.rooms q hq trivial).lt hnq
          rw [hy] at h3; cases h3
          have : w.heap.size = y.block := e
          omega
end Go.Ev

set_option linter.unusedVariables false
namespace Go.Ev
open Go.RowKit
variable {P : Program} {E : Env} {I I' : Im} {w w' : World} {μ μ' : List Nat} {c : Ctx} {ρ : Nat → Rm} {s : St} {a : Act} {o : Oper} {T : Type} {bs bs' : List AV}

def Known (P : Program) (f : Nat) : Prop := ∃ fn, P.funcs[f]? = some fn ∧ fn.name ≠ "runtime.NumGoroutine" ∧ fn.body.isSome = true

theorem run_callFunc {f : Nat} (h : Known P f) (args : Array Value) : (callFunc f args).run P w = .ok (.enter f args) w := by
  obtain ⟨fn, h1, h2, h3⟩ := h
  have e2 : fn.body ≠ none := by intro e; rw [e] at h3; cases h3
  unfold callFunc
  simp [program, Sem.run, h1, h2, e2]

/-- a call of a function, or of a loop's yield -/
def CallTo (P : Program) (f : Nat) (us : List Value) (c : Ctx) (Q : Ending → World → Prop) : Prop := match unY f with
  | none => Known P f ∧ Calls P f us.toArray c.wS Q
  | some i => ∃ l, c.μ0[i]? = some l ∧ ∀ (ro : Option Nat) (m : Nat), YieldAt (FR ro) m P l us.toArray c.wS Q

def CallOKr (rt : Root) (P : Program) (C : CallSem T) : Prop := ∀ f vs bs K r, C f vs bs K = some r → ∀ (c : Ctx) (us : List Value), c.rt = rt → MemI c c.I0 c.μ0 bs c.wS → RL c.I0 c.wS c.μ0 vs us →
  CallTo P f us c fun e w' => ∃ u v bs' I' μ', e = .returned u ∧ K v bs' = some r ∧ MemI c I' μ' bs' w' ∧ R I' w' μ' v.ty false v.x [u]

def CallOK (P : Program) (C : CallSem T) : Prop := ∀ rt, CallOKr rt P C

theorem noCall_ok : CallOK P (noCall : CallSem T) := fun _ _ _ _ _ _ h => by cases h

theorem callTo_fn {f : Nat} {us : List Value} {c : Ctx} {Q : Ending → World → Prop} (hf : isY f = false) (h : CallTo P f us c Q) : Known P f ∧ Calls P f us.toArray c.wS Q := by
  unfold CallTo unY at h
  rw [hf] at h
  exact h

theorem callTo_yld {i : Nat} {us : List Value} {c : Ctx} {Q : Ending → World → Prop} (h : CallTo P (1000000 + i) us c Q) : ∃ l, c.μ0[i]? = some l ∧ ∀ (ro : Option Nat) (m : Nat), YieldAt (FR ro) m P l us.toArray c.wS Q := by
  unfold CallTo unY at h
  have e : isY (1000000 + i) = true := by simp [isY]
  rw [e] at h
  simp only [cond_true] at h
  rw [Nat.add_sub_cancel_left] at h
  exact h

theorem RL.append : ∀ {vs vs' : List AV} {us us' : List Value}, RL I w μ vs us → RL I w μ vs' us' → RL I w μ (vs ++ vs') (us ++ us')
  | _, _, _, _, .nil, k => k
  | _, _, _, _, .cons h k', k => .cons h (RL.append k' k)

theorem ctrK_sound {f : Nat} {v : AV} {K : AV → Option T} {no : Option T} {r : T} : ∀ (l : List Ctr), ctrK f v l K no = some r →
    (∃ c x y, c ∈ l ∧ c.f = f ∧ boxFree 0 c.a = true ∧ boxFree 0 c.r = true ∧ v = ⟨c.a, x⟩ ∧ c.G x = some y ∧ K ⟨c.r, y⟩ = some r) ∨ no = some r
  | [], h => .inr h
  | c :: l, h => by
    unfold ctrK at h
    cases hb : (Nat.beq c.f f && boxFree 0 c.a && boxFree 0 c.r) with
    | false =>
      rw [hb] at h
      rcases ctrK_sound l h with ⟨c', x, y, h1, h2⟩ | h
      · exact .inl ⟨c', x, y, List.mem_cons_of_mem _ h1, h2⟩
      · exact .inr h
    | true =>
      rw [hb] at h
      simp only [cond_true] at h
      simp only [Bool.and_eq_true] at hb
      cases hc : castTo c.a v with
      | none =>
        rw [hc] at h
        rcases ctrK_sound l h with ⟨c', x, y, h1, h2⟩ | h
        · exact .inl ⟨c', x, y, List.mem_cons_of_mem _ h1, h2⟩
        · exact .inr h
      | some x =>
        rw [hc] at h
        simp only at h
        cases hg : c.G x with
        | none => rw [hg] at h; cases h
        | some y =>
          rw [hg] at h
          exact .inl ⟨c, x, y, List.mem_cons_self, Nat.eq_of_beq_eq_true hb.1.1, hb.1.2, hb.2, castTo_some hc, hg, h⟩

def Reserved (s : St) (ρ : Nat → Rm) (b : Nat) : Prop := ∃ p ad, Live s p ∧ (ρ p).n ≠ (ρ p).cap ∧ (ρ p).a = some ad ∧ ad.block = b

theorem MemI.enter (H : RelI c I μ ρ s a w) : MemI ⟨c.w0, fun b => c.F b ∨ Reserved s ρ b, I, w, μ, c.ds, c.rt⟩ I μ s.boxes w := by
  have h := H.mem
  refine ⟨h.below, Nat.le_trans h.base h.sizeS, Grow.refl _ _ _, Nat.le_refl _, h.blen, h.boxes, h.nodup, h.mu, fun i b hb => .inl hb, h.imlt, h.imc, h.root, h.root.len, ?_⟩
  rintro b (hb | ⟨p, ad, hp, hn, ha, rfl⟩)
  · obtain ⟨h1, h2, h3, h4⟩ := h.fr b hb
    exact ⟨Nat.lt_of_lt_of_le h1 h.sizeS, rfl, h3, fun o k => k⟩
  · rcases H.rooms p hp trivial with k | ⟨ad', cs, et, k1, k2, k3, k4, k5, k6, k7, k8, k9⟩
    · exact absurd k hn
    · rw [ha] at k1; cases k1
      exact ⟨lt_of_get k4, rfl, .of_not k7, fun o k => k⟩

theorem MemI.leave {X : Nat → Prop} (H : RelI c I μ ρ s a w) (H' : MemI ⟨c.w0, fun b => c.F b ∨ Reserved s ρ b, I, w, μ, c.ds, c.rt⟩ I' μ' bs' w') : RelX X c I' μ' ρ { s with boxes := bs' } a w' := by
  have h := H.mem
  refine RelX.step H ⟨H'.below, h.base, h.grow.trans H'.grow, Nat.le_trans h.sizeS H'.sizeS, H'.blen, H'.boxes, H'.nodup, H'.mu, ?_, H'.imlt, H'.imc, H'.root, h.rlen, ?_⟩ H'.grow ?_
  · intro i b hb
    rcases H'.munew i b hb with k | k
    · exact h.munew i b k
    · exact .inr (Nat.le_trans h.sizeS k)
  · intro b hb
    obtain ⟨h1, h2, h3, h4⟩ := h.fr b hb
    obtain ⟨k1, k2, k3, k4⟩ := H'.fr b (.inl hb)
    exact ⟨h1, k2.trans h2, k3, fun o k => h4 o (k4 o k)⟩
  · intro p hp _
    by_cases hn : (ρ p).n = (ρ p).cap
    · exact .inl hn
    · rcases H.rooms p hp trivial with k | ⟨ad, cs, et, k1, k2, k3, k4, k5, k6, k7, k8, k9⟩
      · exact absurd k hn
      · obtain ⟨g1, g2, g3, g4⟩ := H'.fr ad.block (.inr ⟨p, ad, hp, hn, k1, rfl⟩)
        have g3 : ad.block ∉ μ' := by
          intro hm
          obtain ⟨i, hi⟩ := List.getElem?_of_mem hm
          rcases H'.munew i _ hi with q | q
          · exact k7 (List.mem_of_getElem? q)
          · have := lt_of_get k4
            have q : w.heap.size ≤ ad.block := q
            omega
        exact .inr ⟨ad, cs, et, k1, k2, k3, g2.trans k4, k5, k6, g3, k8, fun o ho k => k9 o ho (g4 o k)⟩

theorem callK_sound (hE : EnvOK P E) {C : CallSem T} (hC : CallOKr c.rt P C) (H : RelI c I μ ρ s a w) {f : Nat} {vs : List AV} {us : List Value} {K : AV → Cap → St → Option T} {r : T} (hvs : RL I w μ vs us)
    (h : callK E C f vs s K = some r) : Known P f ∧ Calls P f us.toArray w fun e w'' => ∃ u, e = .returned u ∧ Out K r c a o.dst u w'' := by
  unfold callK at h
  rcases ctrK_sound _ h with ⟨ct, x, y, h1, h2, h3, h4, h5, h6, h7⟩ | h
  · subst h2
    refine ⟨hE.cfns ct h1, ?_⟩
    have hr := chain_R vs us hvs
    rw [h5] at hr
    have hr0 := hr.take 0 ct.a false x us h3
    simp only [List.take_zero] at hr0
    refine ((hE.ctrs ct h1).calls I w x us y H.mem.imlt hr0 h6).mono ?_
    rintro e w' ⟨u, rfl, hu, hb⟩
    obtain ⟨g1, g2⟩ := grown_sound (X := noTake .no) H hb (fun b o => (w.heap.size ≤ b ∧ b < w'.heap.size) ∧ IsC w' b) (fun b o h => h.1) (fun b o h => h.2)
    refine ⟨u, rfl, ⟨ct.r, y⟩, .no, s, _, μ, ρ, h7, g1, ?_, trivial, fun p e => by cases e⟩
    exact (R.shrink _ _ _ _ hu).grow (⟨fun _ _ h => h.1.imp id (fun k => ⟨k, h.2⟩), fun _ _ => rfl, fun i b h => by simp at h⟩ : Grow _ w' [] _ w' μ)
  · cases hy : isY f with
    | true => rw [hy] at h; cases h
    | false =>
    rw [hy] at h
    obtain ⟨hk, hcalls⟩ := callTo_fn hy (hC f vs s.boxes _ r h ⟨c.w0, fun b => c.F b ∨ Reserved s ρ b, I, w, μ, c.ds, c.rt⟩ us rfl (MemI.enter H) hvs)
    refine ⟨hk, hcalls.mono ?_⟩
    rintro e w' ⟨u, v, bs', I', μ', rfl, hK, hm, hu⟩
    exact ⟨u, rfl, v, .no, _, I', μ', ρ, hK, MemI.leave H hm, hu, trivial, fun p e => by cases e⟩

theorem RL.len {vs : List AV} {us : List Value} (h : RL I w μ vs us) : vs.length = us.length := by induction h <;> simp_all

theorem run_len_sl {U e : Nat} {ad : Option Addr} {n cap ty : Nat} (hU : P.underlying U = some (.slice e)) : (Builtin.len_ #[U] ty #[.slice ad n cap]).run P w = .ok (.int .i64 n) w := by
  simp [Builtin.len_, run_underlying hU, goInt]
theorem run_len_str {U : Nat} {b : ByteArray} {ty : Nat} (hU : P.underlying U = some .string) : (Builtin.len_ #[U] ty #[.string b]).run P w = .ok (.int .i64 b.size) w := by
  simp [Builtin.len_, run_underlying hU, goInt]

theorem map_one {l : List Nat} {x : Option Ty} (h : l.map E.ty = [x]) : ∃ U, l = [U] ∧ E.ty U = x := by
  match l, h with
  | [U], h => exact ⟨U, rfl, by simpa using h⟩

theorem builtin_sound (hE : EnvOK P E) {K : AV → Cap → St → Option T} {r : T} {b : Builtin} {cl : Call} (H : RelI c I μ ρ s a w) (ho : o.op = .call cl) (hb : cl.callee = .builtin b) {vs : List AV}
    (hvs : opds s E cl.args.toList cl.argTypes.toList = some vs)
    (h : (bif !o.dst.isSome then none else builtinK E b cl.argTypes.toList vs (cl.args.toList.map (opdCap s)) fun v c => K v c s) = some r) : Yields P o a w (Out K r c a o.dst) := by
  cases hd : o.dst.isSome with
  | false => rw [hd] at h; cases h
  | true =>
  rw [hd] at h
  simp only [Bool.not_true, cond_false] at h
  have hrl := opds_sound H _ _ _ hvs
  have hargs : (cl.args.map a.eval).toList = cl.args.toList.map a.eval := Array.toList_map
  have run : ∀ v w', ((builtin b cl.argTypes o.type (cl.args.map fun | .const _ => true | _ => false) (cl.args.map a.eval)).run P w) = .ok (.value v) w' → (execOp a.eval o).run P w = .ok (.value v) w' := by
    intro v w' hv
    unfold execOp; rw [ho]
    simp only [Sem.run_bind, resolve, hb, Sem.run_pure, Result.andThen_ok, invoke]
    exact hv
  have arg1 : ∀ {x : AV} {u : Value}, vs = [x] → RL I w μ vs (cl.args.toList.map a.eval) → ∃ u, cl.args.map a.eval = #[u] ∧ R I w μ x.ty false x.x [u] := by
    intro x u e hh
    subst e
    cases hu : cl.args.toList.map a.eval with
    | nil => rw [hu] at hh; cases hh
    | cons u us =>
      rw [hu] at hh
      cases hh with
      | cons k1 k2 => cases k2; exact ⟨u, by apply Array.toList_inj.1; rw [hargs, hu], k1⟩
  have arg2 : ∀ {x y : AV}, vs = [x, y] → RL I w μ vs (cl.args.toList.map a.eval) → ∃ u v, cl.args.map a.eval = #[u, v] ∧ R I w μ x.ty false x.x [u] ∧ R I w μ y.ty false y.x [v] := by
    intro x y e hh
    subst e
    cases hu : cl.args.toList.map a.eval with
    | nil => rw [hu] at hh; cases hh
    | cons u us =>
      rw [hu] at hh
      cases hh with
      | cons k1 k2 =>
        cases us with
        | nil => cases k2
        | cons v us =>
          cases k2 with
          | cons k2 k3 => cases k3; exact ⟨u, v, by apply Array.toList_inj.1; rw [hargs, hu], k1, k2⟩
  have types1 : ∀ {U : Nat}, cl.argTypes.toList = [U] → cl.argTypes = #[U] := fun h => by apply Array.toList_inj.1; rw [h]
  unfold builtinK at h
  split at h
  · -- len of a slice
    rename_i t l
    cases hdd : decide (cl.argTypes.toList.map E.ty = [some (.sl t)]) with
    | false => rw [hdd] at h; cases h
    | true =>
      rw [hdd] at h
      obtain ⟨U, hU1, hU2⟩ := map_one (of_decide_eq_true hdd)
      obtain ⟨u, hu, hr⟩ := arg1 (u := undef) rfl hrl
      obtain ⟨ad, n, cap, cells, e, hn, _⟩ := hr
      have e : u = .slice ad n cap := by injection e
      obtain ⟨e', hue, _⟩ := (hE.tys _ _ hU2).sl t rfl
      refine yields_value (u := .int .i64 n) (w' := w) (run _ _ ?_) (Out.no h H (by show [_] = [_]; rw [hn]; rfl))
      rw [hu, e, types1 hU1]
      simp only [builtin, Sem.run_bind, run_len_sl hue, Result.andThen_ok]; rfl
  · rename_i bb
    cases hdd : decide (cl.argTypes.toList.map E.ty = [some .str]) with
    | false => rw [hdd] at h; cases h
    | true =>
      rw [hdd] at h
      obtain ⟨U, hU1, hU2⟩ := map_one (of_decide_eq_true hdd)
      obtain ⟨u, hu, hr⟩ := arg1 (u := undef) rfl hrl
      have e := str_of_R hr
      refine yields_value (u := .int .i64 (ByteArray.size bb)) (w' := w) (run _ _ ?_) (Out.no h H rfl)
      rw [hu, e, types1 hU1]
      have k := run_len_str (P := P) (w := w) (b := bb) (ty := o.type) ((hE.tys _ _ hU2).str rfl)
      simp only [builtin, Sem.run_bind]
      rw [k]; rfl
  · rename_i k x k' y
    by_cases hk : k = k'
    · subst hk
      rw [if_pos rfl] at h
      obtain ⟨u, v, hu, r1, r2⟩ := arg2 rfl hrl
      have e1 := int_of_R r1
      have e2 := int_of_R r2
      refine yields_value (u := .int k (minI x y)) (w' := w) (run _ _ ?_) (Out.no h H rfl)
      rw [hu, e1, e2]
      rfl
    · rw [if_neg hk] at h; cases h
  · rename_i k x k' y
    by_cases hk : k = k'
    · subst hk
      rw [if_pos rfl] at h
      obtain ⟨u, v, hu, r1, r2⟩ := arg2 rfl hrl
      have e1 := int_of_R r1
      have e2 := int_of_R r2
      refine yields_value (u := .int k (maxI x y)) (w' := w) (run _ _ ?_) (Out.no h H rfl)
      rw [hu, e1, e2]
      rfl
    · rw [if_neg hk] at h; cases h
  · -- append
    rename_i t l t' m
    have hcaps : ∀ x, cl.args.toList.map (opdCap s) = x → True := fun _ _ => trivial
    split at h
    · rename_i U U2 cp cps hTs hcs
      split at h
      · rename_i n cp' m' hlim hcp hcast
        cases hdd : (decide (E.ty U = some (.sl t)) && t.cellok && Nat.beq U U2 && Nat.blt 0 t.csize && (t.zero).isSome) with
        | false => rw [hdd] at h; cases h
        | true =>
          rw [hdd] at h
          simp only [cond_true] at h
          simp only [Bool.and_eq_true, decide_eq_true_eq, Nat.blt_eq] at hdd
          obtain ⟨⟨⟨⟨hU, hck⟩, hUU⟩, hcz⟩, hz⟩ := hdd
          have hUU : U = U2 := Nat.eq_of_beq_eq_true hUU
          subst hUU
          have hm := castTo_some hcast
          have hm2 : t' = t ∧ HEq m m' := by injection hm with q1 q2; injection q1 with q1; exact ⟨q1, q2⟩
          obtain ⟨rfl, hm2⟩ := hm2
          cases hm2
          rcases br_some h with ⟨hfits, h⟩ | ⟨_, h⟩
          · have hfit : (List.length l + List.length m) * n ≤ 140737488355328 := of_decide_eq_true hfits
            obtain ⟨u, v, hu, r1, r2⟩ := arg2 rfl hrl
            -- the first operand
            obtain ⟨x0, xs, hxs⟩ : ∃ x0 xs, cl.args.toList = x0 :: xs := by
              cases hh : cl.args.toList with
              | nil => rw [hh] at hcs; cases hcs
              | cons x0 xs => exact ⟨x0, xs, rfl⟩
            have hu0 : u = a.eval x0 := by
              have : (cl.args.map a.eval).toList = [u, v] := by rw [hu]
              rw [hargs, hxs] at this
              injection this with this _; exact this.symm
            have hcp0 : cp = opdCap s x0 := by rw [hxs] at hcs; injection hcs with hcs _; exact hcs.symm
            obtain ⟨T0, hx0⟩ : ∃ T0, opd s T0 x0 = some ⟨.sl t', l⟩ := by
              rw [hxs, hTs] at hvs
              unfold opds at hvs
              cases hq : opd s (E.ty U) x0 with
              | none => rw [hq] at hvs; cases hvs
              | some q =>
                cases hq2 : opds s E xs [U] with
                | none => rw [hq, hq2] at hvs; cases hvs
                | some qs =>
                  rw [hq, hq2] at hvs
                  simp only at hvs
                  injection hvs with hvs
                  injection hvs with hvs _
                  exact ⟨_, by rw [← hvs]; exact hq⟩
            have hcap := opdCap_sound H hx0
            rw [← hcp0, ← hu0] at hcap
            obtain ⟨r0, X, h1, h2, h3, h4, h5, h6⟩ : ∃ (r0 : Rm) (X : Nat → Prop), u = .slice r0.a r0.n r0.cap ∧ r0.sz = t'.csize ∧ Room c.w0.heap.size c.F I μ w r0 ∧ (∀ q, Live s q → X q → Apart r0 (ρ q)) ∧
                (X = noTake cp') ∧ (∀ p, cp' = .taken p ∨ cp' = .fresh ∨ True) := by
              cases cp with
              | no => cases hcp
              | taken p => cases hcp
              | fresh =>
                have : cp' = .fresh := by injection hcp with hcp; exact hcp.symm
                subst this
                obtain ⟨r0, g1, g2, g3, g4⟩ := hcap t' rfl
                exact ⟨r0, _, g2, g1, g3, fun q hq _ => g4 q hq, rfl, fun _ => .inr (.inr trivial)⟩
              | dup o =>
                cases o with
                | none => cases hcp
                | some p =>
                  have : cp' = .taken p := by injection hcp with hcp; exact hcp.symm
                  subst this
                  obtain ⟨g1, g2, g3⟩ := hcap t' rfl
                  exact ⟨ρ p, _, g3, g2, H.rooms p g1 trivial, fun q hq hne => H.apart p q g1 hq (fun e => hne e.symm) trivial trivial, rfl, fun _ => .inr (.inr trivial)⟩
            subst h5
            obtain ⟨u', w', I', r', k1, k2, k3, k4, k5, k6, k7⟩ := append_out hE H (ty := o.type) hU hlim hcz hz hck r1 r2 hfit h1 h2 h3 (noTake cp') h4
            refine yields_value (u := u') (w' := w') (run _ _ ?_) ⟨⟨.sl t', app l m⟩, cp', s, I', μ, ρ, h, k2, k3, ?_, fun p e => ⟨rfl, hd⟩⟩
            · have hty2 : cl.argTypes = #[U, U] := by apply Array.toList_inj.1; rw [hTs]
              rw [hu, hty2]
              simp only [builtin, Sem.run_bind]
              rw [k1]; rfl
            · cases cp' with
              | no => exact trivial
              | dup o => 
                exfalso
                cases cp with
                | dup o => cases o <;> cases hcp
                | _ => cases hcp
              | fresh => intro t2 ht2; cases ht2; exact ⟨r', k4, k5, k6, fun q hq => k7 q hq trivial⟩
              | taken p => intro t2 ht2; cases ht2; exact ⟨r', k4, k5, k6, fun q hq hne => k7 q hq hne⟩
          · cases h
      · cases h
    · cases h
  · cases h
end Go.Ev

set_option linter.unusedVariables false
namespace Go.Ev
open Go.RowKit
variable {P : Program} {E : Env} {I I' : Im} {w w' : World} {μ μ' : List Nat} {c : Ctx} {ρ : Nat → Rm} {s : St} {a : Act} {o : Oper} {T : Type} {bs bs' : List AV}

/-- a box is fixed for good -/
theorem freeze_sound {X : Nat → Prop} (H : RelI c I μ ρ s a w) {i b : Nat} (hi : μ[i]? = some b) (hlive : ∃ v0, s.boxes[i]? = some v0 ∧ v0.ty ≠ .undef ∧ v0.ty ≠ .ob) :
    RelX X c (fun x o => I x o ∨ x = b) μ ρ (deadBox s i) a w ∧ Grow I w μ (fun x o => I x o ∨ x = b) w μ := by
  have h := H.mem
  have hbm := List.mem_of_getElem? hi
  have g : Grow I w μ (fun x o => I x o ∨ x = b) w μ := ⟨fun _ _ k => .inl k, fun _ _ => rfl, fun _ _ k => k⟩
  refine ⟨RelX.step (bs' := setN s.boxes i .undef) H ⟨h.below, h.base, h.grow.trans g, h.sizeS, by rw [setN_length, h.blen], ?_, h.nodup, h.mu, h.munew, ?_, ?_, h.root.trans g, h.rlen, ?_⟩ g ?_, g⟩
  · intro j v b' hv hmb
    rw [setN_get] at hv
    split at hv
    · cases hv; exact .inl (.inl rfl)
    · rename_i hj
      have hne : b' ≠ b := by
        rintro rfl
        have : j = i := (List.getElem?_inj (List.getElem?_eq_some_iff.1 hmb).1 h.nodup).1 (hmb.trans hi.symm)
        subst this
        exact hj ⟨rfl, by rw [h.blen]; exact (List.getElem?_eq_some_iff.1 hi).1⟩
      rcases h.boxes j v b' hv hmb with k | ⟨cs, et, h1, h2, h3⟩
      · exact .inl k
      · refine .inr ⟨cs, et, h1, h2.grow g, ?_⟩
        rintro o (k | k)
        · exact h3 o k
        · exact hne k
  · rintro x o (k | k)
    · exact h.imlt x o k
    · subst k; exact (h.mu _ hbm).2
  · rintro x o (k | k)
    · exact h.imc x o k
    · subst k
      obtain ⟨v0, k1, k2, k2'⟩ := hlive
      rcases h.boxes i v0 _ k1 hi with (k3 | ⟨j, k3, _⟩) | ⟨cs, et, k3, _⟩
      · exact absurd k3 k2
      · exact absurd (by rw [k3]) k2'
      · exact ⟨cs, et, _, k3⟩
  · intro x hx
    obtain ⟨h1, h2, h3, h4⟩ := h.fr x hx
    refine ⟨h1, h2, ?_, ?_⟩
    · intro j v hj hv
      rw [setN_get] at hv
      split at hv
      · cases hv; rfl
      · exact h3 j v hj hv
    · rintro o (k | k)
      · exact h4 o k
      · subst k
        obtain ⟨v0, q1, q2, _⟩ := hlive
        exact absurd (h3 i v0 hi q1) q2
  · intro p hp _
    rcases H.rooms p hp trivial with k | ⟨ad, cs, et, k1, k2, k3, k4, k5, k6, k7, k8, k9⟩
    · exact .inl k
    · refine .inr ⟨ad, cs, et, k1, k2, k3, k4, k5, k6, k7, k8, ?_⟩
      rintro o ho (k | k)
      · exact k9 o ho k
      · exact k7 (by rw [k]; exact hbm)

theorem offSt_some {t : Ty} {c : AV} {off : Nat} {y : t.den} (h : offSt t c off = some y) : getOff (.st t) c.ty c.x off = some ⟨.st t, y⟩ := by
  unfold offSt at h
  cases hg : getOff (.st t) c.ty c.x off with
  | none => rw [hg] at h; cases h
  | some v =>
    rw [hg] at h
    have h : castTo (.st t) v = some y := h
    rw [castTo_some h]

theorem sliceBox_sound (hE : EnvOK P E) {K : AV → Cap → St → Option T} {r : T} {U i off : Nat} {x : Operand} {lo hi mx : Option Operand} (H : RelI c I μ ρ s a w) (ho : o.op = .slice U x lo hi mx) (y : Unit)
    (hx : opd s (E.ty U) x = some ⟨.box i off, y⟩) (h : slK E U s ⟨.box i off, y⟩ lo hi mx K = some r) : Yields P o a w (Out K r c a o.dst) := by
  have hr := opd_sound H hx
  obtain ⟨b, hb, ev⟩ := ptr_box hr
  have h' : slBoxK E U s i off lo hi mx K = some r := h
  unfold slBoxK at h'
  split at h'
  · rename_i t hU
    obtain ⟨cv, hcv, hn, hcont⟩ := box_content H.mem hb
    rw [hn] at h'
    cases hc : offSt t cv off with
    | none => rw [hc] at h'; cases h'
    | some z =>
      rw [hc] at h'
      simp only at h'
      have hg := offSt_some hc
      cases ha : E.arrs.contains U with
      | false => rw [ha] at h'; cases h'
      | true =>
        rw [ha] at h'
        simp only [Bool.not_true, cond_false] at h'
        cases hl : chainList (chainHd t) t z with
        | none => rw [hl] at h'; cases h'
        | some l =>
          rw [hl] at h'
          simp only at h'
          obtain ⟨e, hue, hte, hpos, _⟩ := arr_ty hE hU (by simpa using ha)
          obtain ⟨ie, _, hie, hse, _⟩ := (hE.tys e _ hte).info
          rcases hcont with hu | ⟨cs, et, hh, hrr, hI⟩
          · rw [getOff_idle hu] at hg; cases hg
          · have hty : cv.ty ≠ .undef ∧ cv.ty ≠ .ob := by
              constructor <;> (intro he; obtain ⟨ct, cx⟩ := cv; simp only at he; subst he; have hg : (if _ then _ else none) = _ := hg; rw [if_neg (by simp [Ty.leaf])] at hg; cases hg)
            obtain ⟨g1, g2⟩ := freeze_sound (X := noTake .no) H hb ⟨_, hcv, hty⟩
            obtain ⟨_, c1, c2, c3, e1, e2, e3⟩ := getOff_sound (.st t) cv.ty cv.x cs.toList off _ hrr hg
            obtain ⟨k1, k2⟩ := chainList_spec _ _ _ _ _ hl e3
            have hrun : (execOp a.eval o).run P w = .ok (.value (.slice (some ⟨b, off, none⟩) (chainLen t) (chainLen t))) w := by
              have run := slice_run (P := P) (a := a) (w := w) ho
              rw [run, ev]
              unfold Instr.sliceAt
              have hne : ¬ (chainLen t = 0) := by omega
              simp only [Sem.run_bind, run_underlying hue, Result.andThen_ok, Instr.sureAddr, Sem.run_pure, Option.map_none, Instr.sliceBounds, run_sizeOf hie, Nat.sub_zero, Nat.zero_mul, hne, if_false, Addr.add_zero']
            refine yields_value hrun ⟨⟨.sl (chainHd t), l⟩, .no, _, _, μ, ρ, h', g1, ⟨some ⟨b, off, none⟩, chainLen t, chainLen t, c2, rfl, k2.symm, Nat.le_refl _, RAll.mono (fun (x : (chainHd t).den) cs hx => hx.grow g2) _ _ k1, (fun h => by cases h), fun ad had => ?_⟩, trivial, fun p e => by cases e⟩
            cases had
            intro j v hj
            rw [add_lit]
            refine ⟨?_, .inr rfl⟩
            have hcj : cs.toList[off + j]? = some v := by
              rw [e1, List.append_assoc, List.getElem?_append_right (by omega), e2, Nat.add_sub_cancel_left, List.getElem?_append_left (List.getElem?_eq_some_iff.1 hj).1]
              exact hj
            simp only [World.cell?, hh, Option.isSome_none, Bool.false_eq_true, if_false]
            simpa using hcj
  · cases h'

theorem opK_nodefer {C : CallSem T} {K : AV → Cap → St → Option T} {r : T} (h : opK E C s o K = some r) : ∀ cl, o.op ≠ .defer cl := by
  intro cl hc
  unfold opK at h
  rw [hc] at h
  cases h

theorem opK_sound (hE : EnvOK P E) {C : CallSem T} (hC : CallOKr c.rt P C) {K : AV → Cap → St → Option T} {r : T} (H : RelI c I μ ρ s a w) (h : opK E C s o K = some r) : Yields P o a w (Out K r c a o.dst) := by
  unfold opK at h
  cases ho : o.op with
  | move x => rw [ho] at h; exact move_sound H (.inl ho) h
  | assign x => rw [ho] at h; exact move_sound H (.inr ho) h
  | pick x y z => rw [ho] at h; exact pick_sound H ho h
  | alloc U => rw [ho] at h; exact alloc_sound hE H ho h
  | box U x => rw [ho] at h; exact box_sound hE H ho h
  | build U parts => rw [ho] at h; exact build_sound hE H ho h
  | buildSlice U len parts => rw [ho] at h; exact buildSlice_sound hE H ho h
  | load U x => rw [ho] at h; exact load_sound hE H ho h
  | store U x y => rw [ho] at h; exact store_sound hE H ho h
  | nilCheck x => rw [ho] at h; exact nilCheck_sound H ho h
  | binOp op xT x y yT => rw [ho] at h; exact binOp_sound hE H ho h
  | unOp op t x =>
    rw [ho] at h
    cases op with
    | not =>
      simp only at h
      cases hx : asB (opd s none x) with
      | none => rw [hx] at h; cases h
      | some b => rw [hx] at h; exact not_sound H ho hx h
    | neg =>
      simp only at h
      cases hx : asN (opd s none x) with
      | none => rw [hx] at h; cases h
      | some kn => obtain ⟨k, n⟩ := kn; rw [hx] at h; exact neg_sound H ho hx h
    | _ => cases h
  | convert src dst x => rw [ho] at h; exact convert_sound hE H ho h
  | makeFunc fn first captured =>
    rw [ho] at h
    cases fn with
    | func f => exact makeFunc_sound H ho h
    | _ => cases h
  | slice U x lo hi mx =>
    rw [ho] at h
    exact slice_sound hE H ho h (fun i off y hx hk => sliceBox_sound hE H ho y hx hk)
  | fieldAddr S x f => rw [ho] at h; exact fieldAddr_sound hE H ho h
  | field U x f => rw [ho] at h; exact field_sound hE H ho h
  | indexAddr U x i => rw [ho] at h; exact indexAddr_sound hE H ho h
  | index U x i => rw [ho] at h; exact index_sound hE H ho h
  | extract x i => rw [ho] at h; exact extract_sound H ho h
  | call cl =>
    rw [ho] at h
    simp only at h
    cases hvs : opds s E cl.args.toList cl.argTypes.toList with
    | none => rw [hvs] at h; cases h
    | some vs =>
      rw [hvs] at h
      simp only at h
      cases hcl : cl.callee with
      | builtin b => rw [hcl] at h; exact builtin_sound hE H ho hcl hvs h
      | invoke x m => rw [hcl] at h; cases h
      | value g =>
        rw [hcl] at h
        simp only at h
        cases hg : opd s none g with
        | none => rw [hg] at h; cases h
        | some p =>
          rw [hg] at h
          have hr := opd_sound H hg
          obtain ⟨pt, px⟩ := p
          cases pt with
          | fn f ta tc =>
            simp only at h
            cases hs : ((unchain ta px.1).all (fun v => v.ty.single) && (unchain tc px.2).all (fun v => v.ty.single)) with
            | false => rw [hs] at h; cases h
            | true =>
              rw [hs] at h
              simp only [cond_true] at h
              simp only [Bool.and_eq_true, List.all_eq_true] at hs
              obtain ⟨va, vc, e, r1, r2⟩ := hr
              have e : a.eval g = .func (.func f) va.toArray vc.toArray := by injection e
              have ua := unchain_R ta px.1 va r1 (by cases ta <;> simp [Ty.single, isPr]) hs.1
              have uc := unchain_R tc px.2 vc r2 (by cases tc <;> simp [Ty.single, isPr]) hs.2
              have hargs := opds_sound H _ _ _ hvs
              have hrl := (ua.append hargs).append uc
              obtain ⟨hk, hcalls⟩ := callK_sound (o := o) hE hC H hrl h
              have hrun : (execOp a.eval o).run P w = .ok (.enter f (va ++ cl.args.toList.map a.eval ++ vc).toArray) w := by
                unfold execOp; rw [ho]
                simp only [Sem.run_bind, resolve, hcl, e, Deferred.ofValue, Sem.run_pure, Result.andThen_ok, invoke, run_callFunc hk]
                congr 2
                apply Array.toList_inj.1
                simp
              unfold Yields
              rw [hrun]
              exact hcalls
          | yld i =>
            simp only at h
            obtain ⟨l, hl, e⟩ := hr
            have e : a.eval g = .func (.yield l) #[] #[] := by injection e
            have hargs := opds_sound H _ _ _ hvs
            obtain ⟨l', hl', hy⟩ := callTo_yld (hC _ vs s.boxes _ r h ⟨c.w0, fun b => c.F b ∨ Reserved s ρ b, I, w, μ, c.ds, c.rt⟩ _ rfl (MemI.enter H) hargs)
            have : l' = l := by
              have hl' : μ[i]? = some l' := hl'
              rw [hl] at hl'; cases hl'; rfl
            subst this
            obtain ⟨fn, tmps, assign, body, hrun0, _⟩ := hy none 0
            have hrun : (execOp a.eval o).run P w = .ok (.round l' fn tmps assign body) w := by
              unfold execOp; rw [ho]
              simp only [Sem.run_bind, resolve, hcl, e, Deferred.ofValue, Sem.run_pure, Result.andThen_ok, invoke]
              have e2 : (#[] ++ cl.args.map a.eval : Array Value) = (cl.args.toList.map a.eval).toArray := by
                apply Array.toList_inj.1; simp
              rw [e2]
              exact hrun0
            unfold Yields
            rw [hrun]
            intro ro m
            obtain ⟨fn', tmps', assign', body', hrun', hround⟩ := hy ro m
            have hinj : Result.ok (Next.round l' fn' tmps' assign' body') w = Result.ok (Next.round l' fn tmps assign body) w := hrun'.symm.trans hrun0
            injection hinj with hinj _
            injection hinj with _ h1 h2 h3 h4
            subst h1; subst h2; subst h3; subst h4
            refine hround.mono ?_
            rintro e w' ⟨u, v, bs', I', μ', rfl, hK, hm, hu⟩
            exact ⟨u, rfl, v, .no, _, I', μ', ρ, hK, MemI.leave H hm, hu, trivial, fun p e => by cases e⟩
          | _ => cases h
  | _ => rw [ho] at h; cases h
end Go.Ev

set_option linter.unusedVariables false
namespace Go.Ev
open Go.RowKit
variable {P : Program} {E : Env} {I I' : Im} {w w' : World} {μ μ' : List Nat} {c : Ctx} {ρ : Nat → Rm} {s : St} {a : Act} {o : Oper} {T : Type} {bs bs' : List AV}

theorem forceA_eq {β : Type} : ∀ (l : List AV) (k : List AV → β), forceA l k = k l
  | [], _ => rfl
  | ⟨t, x⟩ :: l, k => by unfold forceA; rw [forceA_eq l]
theorem forceP_eq {β : Type} : ∀ (l : List (Option Nat)) (k : List (Option Nat) → β), forceP l k = k l
  | [], _ => rfl
  | none :: l, k => by unfold forceP; rw [forceP_eq l]
  | some i :: l, k => by unfold forceP; rw [forceP_eq l]
theorem forceSt_eq (s : St) (K : St → Option T) : forceSt s K = K s := by unfold forceSt; rw [forceA_eq, forceA_eq, forceP_eq]
theorem putK_eq (s : St) (d : Option Nat) (v : AV) (cp : Cap) (K : St → Option T) : putK s d v cp K = K (s.put d v cp) := by unfold putK; rw [forceSt_eq]

def Cont (K : St → Option T) (r : T) (c : Ctx) (a : Act) (w : World) : Prop := ∃ s I μ ρ, K s = some r ∧ RelI c I μ ρ s a w

theorem cont_of_out {K : St → Option T} {r : T} {dst : Option Nat} {u : Value} (h : Out (fun v cp s' => putK s' dst v cp K) r c a dst u w) : Cont K r c (a.put dst u) w := by
  obtain ⟨v, cap, s', I', μ', ρ', hK, hR, hu, hc, ht⟩ := h
  have hK : putK s' dst v cap K = some r := hK
  rw [putK_eq] at hK
  obtain ⟨ρ2, hR2⟩ := hR.put dst v u hu hc ht
  exact ⟨_, I', μ', ρ2, hK, hR2⟩

theorem setN_same {α : Type} : ∀ {l : List α} {d : Nat} {v : α}, l[d]? = some v → setN l d v = l
  | [], _, _, h => by simp at h
  | x :: l, 0, v, h => by simp at h; subst h; rfl
  | x :: l, d + 1, v, h => by simp at h; simp [setN, setN_same h]

theorem nth_of_ne {α : Type} {l : List α} {d : α} {i : Nat} {v : α} (h : nth d l i = v) (hne : v ≠ d) : l[i]? = some v := by
  cases hl : l[i]? with
  | none => rw [nth_none hl] at h; exact absurd h.symm hne
  | some x => rw [nth_get hl] at h; rw [h]

theorem evOper_sound (hE : EnvOK P E) {C : CallSem T} (hC : CallOKr c.rt P C) {ops : Array Oper} {K : St → Option T} {r : T} (H : RelI c I μ ρ s a w) (h : evOper E C ops o s K = some r) {Q : Exit → Act → World → Prop} (ro : Option Nat) (n : Nat) :
    (Region.wanted o (yielded ops a.tmps) = true ∧ ∀ next : Act → World → Prop, (∀ a' w', Cont K r c a' w' → next a' w') → o.wpIn (FR ro) n P a w next Q) ∨ (Region.wanted o (yielded ops a.tmps) = false ∧ Cont K r c (a.put o.dst undef) w) := by
  have run : ∀ {s : St}, RelI c I μ ρ s a w → opK E C s o (fun v cp s' => putK s' o.dst v cp K) = some r → ∀ next : Act → World → Prop, (∀ a' w', Cont K r c a' w' → next a' w') → o.wpIn (FR ro) n P a w next Q := by
    intro s H h next hn
    exact wpIn_of_yields (opK_nodefer h) (opK_sound hE hC H h) fun u w' hq => hn _ _ (cont_of_out hq)
  have skip : putK s o.dst .undef .no K = some r → Cont K r c (a.put o.dst undef) w := by
    intro h
    exact cont_of_out (dst := o.dst) ⟨.undef, .no, s, I, μ, ρ, h, H.toX _, rfl, trivial, fun p e => by cases e⟩
  unfold evOper at h
  cases hg : o.guard with
  | none =>
    rw [hg] at h
    refine .inl ⟨by unfold Region.wanted; rw [hg], run H h⟩
  | some jw =>
    obtain ⟨j, want⟩ := jw
    rw [hg] at h
    simp only at h
    have hw : Region.wanted o (yielded ops a.tmps) = (yielded ops a.tmps j == some want) := by unfold Region.wanted; rw [hg]
    cases hd : dstAt ops j with
    | none => rw [hd] at h; cases h
    | some d =>
      rw [hd] at h
      simp only at h
      have hops : (ops[j]?).bind (·.dst) = some d := by
        unfold dstAt at hd
        rw [← Array.getElem?_toList]
        cases ho : ops.toList[j]? with
        | none => rw [ho] at hd; cases hd
        | some x => rw [ho] at hd; exact hd
      have hy : ∀ u, a.tmps[d]? = some u → yielded ops a.tmps j = match u with | .bool b => some b | _ => none := by
        intro u hu
        unfold yielded
        rw [hops]
        simp only [Option.bind_some]
        rw [hu]
        cases u <;> rfl
      split at h
      · rename_i b hv
        have hs : s.tmps[d]? = some ⟨.bool, b⟩ := nth_of_ne hv (by intro e; injection e with e; cases e)
        obtain ⟨u, hu, hr⟩ := H.slots d _ hs
        have hu2 : u = .bool b := bool_of_R hr
        subst hu2
        have hyb := hy _ hu
        simp only at hyb
        have hst : b = true → { s with tmps := setN s.tmps d (.bool true) } = s := by
          intro hb; subst hb
          rw [show (AV.bool true) = ⟨.bool, true⟩ from rfl, setN_same hs]
        have hsf : b = false → { s with tmps := setN s.tmps d (.bool false) } = s := by
          intro hb; subst hb
          rw [show (AV.bool false) = ⟨.bool, false⟩ from rfl, setN_same hs]
        cases want with
        | true =>
          simp only [cond_true] at h
          rcases br_some h with ⟨hb, h⟩ | ⟨hb, h⟩
          · rw [hst hb] at h
            exact .inl ⟨by rw [hw, hyb, hb]; rfl, run H h⟩
          · rw [hsf hb] at h
            exact .inr ⟨by rw [hw, hyb, hb]; rfl, skip h⟩
        | false =>
          simp only [cond_false] at h
          rcases br_some h with ⟨hb, h⟩ | ⟨hb, h⟩
          · rw [hst hb] at h
            exact .inr ⟨by rw [hw, hyb, hb]; rfl, skip h⟩
          · rw [hsf hb] at h
            exact .inl ⟨by rw [hw, hyb, hb]; rfl, run H h⟩
      · rename_i x hv
        have hs : s.tmps[d]? = some ⟨.undef, x⟩ := nth_of_ne hv (by intro e; injection e with e; cases e)
        obtain ⟨u, hu, hr⟩ := H.slots d _ hs
        have hu2 : u = undef := by cases hr; rfl
        subst hu2
        exact .inr ⟨by rw [hw, hy _ hu]; rfl, skip h⟩
      · cases h

theorem both_some {a b : Option T} {r : T} (h : both a b = some r) : a = some r ∧ b = some r := by
  unfold both at h
  split at h
  · rename_i e; exact ⟨h, by rw [← e]; exact h⟩
  · cases h

theorem isNilC_eq {y : Operand} (h : isNilC y = true) : y = .const (.slice none 0 0) := by
  unfold isNilC at h
  split at h
  · rfl
  · cases h

theorem run_slice_nil {xT e : Nat} {x y : Operand} {ad : Option Addr} {n cap : Nat} (op : BinOp) (hop : op = .eql ∨ op = .neq) (hu : P.underlying xT = some (.slice e)) {yT : Nat} (ho : o.op = .binOp op xT x y yT) (hx : a.eval x = .slice ad n cap) (hy : a.eval y = .slice none 0 0) :
    (execOp a.eval o).run P w = .ok (.value (.bool (if op = .eql then ad.isNone else !ad.isNone))) w := by
  have hg : (eqGuard op xT x y (a.eval x) (a.eval y)).run P w = .ok () w := by
    rw [hx, hy]
    rcases hop with rfl | rfl <;> (cases x <;> cases y <;> rfl)
  have hq : (Op.equal xT (.slice ad n cap) (.slice none 0 0)).run P w = .ok ad.isNone w := by
    unfold Op.equal
    show (Op.equalIn (9999 + 1) xT _ _).run P w = _
    unfold Op.equalIn
    simp only [Sem.run_bind, run_underlying hu, Result.andThen_ok]
    cases ad <;> rfl
  rw [binOp_run ho, hg, hx, hy]
  rcases hop with rfl | rfl
  · simp only [Result.andThen_ok, binOp, Sem.run_bind, hq, Sem.run_pure, if_true]
  · simp only [Result.andThen_ok, binOp, Sem.run_bind, hq, Sem.run_pure]
    simp

theorem nilOp_nodefer {el : Bool × Int} (hn : nilOp E s o = some el) : ∀ cl, o.op ≠ .defer cl := by
  intro cl hc
  unfold nilOp at hn
  rw [hc] at hn
  cases hg : o.guard <;> rw [hg] at hn <;> cases hn

theorem nil_sound (hE : EnvOK P E) (H : RelI c I μ ρ s a w) {eq : Bool} {len : Int} (hn : nilOp E s o = some (eq, len)) {K : Bool → Option T} {r : T} (h : nilK eq len K = some r) :
    o.guard = none ∧ ∃ b, (execOp a.eval o).run P w = .ok (.value (.bool b)) w ∧ K b = some r := by
  unfold nilOp at hn
  split at hn
  · rename_i op xT x y yT hg ho
    refine ⟨hg, ?_⟩
    cases hy : isNilC y with
    | false => rw [hy] at hn; cases hn
    | true =>
      rw [hy] at hn
      simp only [cond_true] at hn
      have hy := isNilC_eq hy
      split at hn
      · rename_i t hT
        split at hn
        · rename_i v hx
          split at hn
          · rename_i l hl
            have hl := castTo_some hl
            subst hl
            obtain ⟨ad, n, cap, cells, e, hlen, hcap, _, h0, _⟩ := opd_sound H hx
            have ex : a.eval x = .slice ad n cap := by injection e
            have ey : a.eval y = .slice none 0 0 := by rw [hy]; rfl
            obtain ⟨e', hu, _⟩ := (hE.tys _ _ hT).sl t rfl
            have key : ∀ (op : BinOp) (eq : Bool), (op = .eql ∧ eq = true) ∨ (op = .neq ∧ eq = false) → o.op = .binOp op xT x y yT → nilK eq (lenI l) K = some r → ∃ b, (execOp a.eval o).run P w = .ok (.value (.bool b)) w ∧ K b = some r := by
              intro op eq hop ho h
              refine ⟨_, run_slice_nil op (by rcases hop with h | h <;> simp [h.1]) hu ho ex ey, ?_⟩
              unfold nilK at h
              have hval : (if op = BinOp.eql then ad.isNone else !ad.isNone) = if ad.isNone then eq else !eq := by
                rcases hop with ⟨rfl, rfl⟩ | ⟨rfl, rfl⟩ <;> cases ad <;> simp
              rw [hval]
              rcases br_some h with ⟨hpos, h⟩ | ⟨_, h⟩
              · have hpos : 0 < lenI l := of_decide_eq_true hpos
                cases ad with
                | none =>
                  have hlen : n = List.length l := hlen
                  have := h0 rfl
                  unfold lenI at hpos
                  omega
                | some ad => exact h
              · obtain ⟨h1, h2⟩ := both_some h
                cases ad with
                | none => exact h1
                | some ad => exact h2
            split at hn
            · injection hn with hn; injection hn with h1 h2
              subst h1; subst h2
              exact key _ _ (.inl ⟨rfl, rfl⟩) ho h
            · injection hn with hn; injection hn with h1 h2
              subst h1; subst h2
              exact key _ _ (.inr ⟨rfl, rfl⟩) ho h
            · cases hn
          · cases hn
        · cases hn
      · cases hn
  · cases hn

theorem imm_sound (hE : EnvOK P E) (H : RelI c I μ ρ s a w) {v : AV} (h : immOp E s o = some v) :
    o.guard = none ∧ (∀ cl, o.op ≠ .defer cl) ∧ ∃ u I' w', (execOp a.eval o).run P w = .ok (.value u) w' ∧ RelI c I' μ ρ s a w' ∧ R I' w' μ v.ty false v.x [u] ∧ v.ty.isSl = false := by
  unfold immOp at h
  split at h
  · rename_i U x hg ho
    refine ⟨hg, (fun cl k => by rw [ho] at k; cases k), ?_⟩
    cases hi : isImm E with
    | false => rw [hi] at h; cases h
    | true =>
    rw [hi] at h
    simp only [cond_true] at h
    cases hU : E.ty U with
    | none => rw [hU] at h; cases h
    | some t =>
    cases hx : opd s (E.ty U) x with
    | none => rw [hU] at hx; rw [hU, hx] at h; cases h
    | some p =>
      have hr := opd_sound H hx
      rw [hU] at hx
      rw [hU, hx] at h
      obtain ⟨u, y⟩ := p
      simp only at h
      cases hd : (decide (t = u) && !u.isTop) with
      | false => rw [hd] at h; cases h
      | true =>
        rw [hd] at h
        simp only [cond_true] at h
        injection h with h; subst h
        simp only [Bool.and_eq_true, decide_eq_true_eq, Bool.not_eq_true'] at hd
        obtain ⟨rfl, hnt⟩ := hd
        have hc : R I w μ t true y (a.eval x).cells.toList := by
          have := (hE.tys U _ hU).ok
          unfold okTy at this
          simp only [Bool.or_eq_true] at this
          rcases this with (h | h) | h
          · exact R_cells hr (.inl h)
          · rw [h] at hnt; cases hnt
          · exact R_cells hr (.inr h)
        have hrun : (execOp a.eval o).run P w = .ok (.value (.pointer (some ⟨w.heap.size, 0, none⟩))) (w.alloc (.cells (a.eval x).cells U)) := by
          unfold execOp; rw [ho]
          simp only [Instr.box, Sem.run_bind, run_newVar, Result.andThen_ok]; rfl
        have hb := below_refl_alloc (w := w) (.cells (a.eval x).cells U)
        have hz : (w.alloc (.cells (a.eval x).cells U)).heap.size = w.heap.size + 1 := by simp
        obtain ⟨g1, g2⟩ := grown_sound (X := fun _ => True) H hb (fun b _ => b = w.heap.size) (fun b o k => by rw [hz]; omega) (fun b o k => by subst k; exact ⟨_, _, _, alloc_new _⟩)
        refine ⟨_, _, _, hrun, g1, ⟨⟨w.heap.size, 0, none⟩, (a.eval x).cells.toList, rfl, ?_, hc.grow g2⟩, rfl⟩
        intro j v hj
        rw [add_lit]
        refine ⟨?_, .inr rfl⟩
        simp only [World.cell?, alloc_new, Nat.zero_add, Option.isSome_none, Bool.false_eq_true, if_false]
        simpa using hj
  · cases h

theorem evOps_sound (hE : EnvOK P E) {C : CallSem T} (hC : CallOKr c.rt P C) {ops : Array Oper} {K : St → Option T} {r : T} {Q : Exit → Act → World → Prop} {ro : Option Nat} {n : Nat} (hQ : ∀ a w, Cont K r c a w → Q .normal a w) :
    ∀ (l : List Oper) (k : Nat), ops.toList.drop k = l → ∀ {I μ ρ s a w}, RelI c I μ ρ s a w → evOps E C ops l s K = some r → wpOpsIn (FR ro) n P ops Q (List.range' k l.length) a w
  | [], k, hk, I, μ, ρ, s, a, w, H, h => hQ a w ⟨s, I, μ, ρ, h, H⟩
  | o :: l, k, hk, I, μ, ρ, s, a, w, H, h => by
    have hko : ops[k]? = some o := by
      rw [← Array.getElem?_toList]
      have : (ops.toList.drop k)[0]? = some o := by rw [hk]; rfl
      simpa using this
    have hk2 : ops.toList.drop (k + 1) = l := by
      have : (ops.toList.drop k).drop 1 = l := by rw [hk]; rfl
      rwa [List.drop_drop] at this
    rw [List.length_cons, List.range'_succ]
    simp only [wpOpsIn, hko]
    unfold evOps at h
    cases hnil : nilOp E s o with
    | some el =>
      obtain ⟨eq, len⟩ := el
      rw [hnil] at h
      simp only at h
      obtain ⟨g1, bb, g2, g3⟩ := nil_sound hE H hnil h
      rw [if_pos (by unfold Region.wanted; rw [g1])]
      refine wpIn_of_yields (nilOp_nodefer hnil) (Q := fun v w' => v = .bool bb ∧ w' = w) (yields_value g2 ⟨rfl, rfl⟩) ?_
      rintro v w' ⟨rfl, rfl⟩
      rw [putK_eq] at g3
      obtain ⟨ρ2, hR2⟩ := (H.toX (noTake .no)).put o.dst (.bool bb) (.bool bb) rfl trivial (fun p e => by cases e)
      exact evOps_sound hE hC hQ l (k + 1) hk2 hR2 g3
    | none =>
    rw [hnil] at h
    simp only at h
    cases himm : immOp E s o with
    | some v =>
      obtain ⟨vt, vx⟩ := v
      rw [himm] at h
      simp only at h
      obtain ⟨g1, g0, u, I', w', g2, g3, g4, g5⟩ := imm_sound hE H himm
      rw [if_pos (by unfold Region.wanted; rw [g1])]
      refine wpIn_of_yields g0 (Q := fun v w'' => v = u ∧ w'' = w') (yields_value g2 ⟨rfl, rfl⟩) ?_
      rintro v w'' ⟨rfl, rfl⟩
      rw [putK_eq] at h
      obtain ⟨ρ2, hR2⟩ := (g3.toX (noTake .no)).put o.dst ⟨vt, vx⟩ _ g4 trivial (fun p e => by cases e)
      exact evOps_sound hE hC hQ l (k + 1) hk2 hR2 h
    | none =>
    rw [himm] at h
    simp only at h
    rcases evOper_sound hE hC H h (Q := Q) ro n with ⟨h1, h2⟩ | ⟨h1, s', I', μ', ρ', h2, h3⟩
    · rw [if_pos h1]
      refine h2 _ ?_
      rintro a' w' ⟨s', I', μ', ρ', hK, hR⟩
      exact evOps_sound hE hC hQ l (k + 1) hk2 hR hK
    · rw [if_neg (by rw [h1]; simp)]
      refine ⟨fun _ _ => trivial, ?_⟩
      exact evOps_sound hE hC hQ l (k + 1) hk2 h3 h2

theorem region_sound {ro : Option Nat} {n : Nat} (hE : EnvOK P E) {C : CallSem T} (hC : CallOKr c.rt P C) {ops : Array Oper} {id : Nat} {K : St → Option T} {r : T} {Q : Exit → Act → World → Prop} (hQ : ∀ a w, Cont K r c a w → Q .normal a w)
    (H : RelI c I μ ρ s a w) (h : evOps E C ops ops.toList s K = some r) : (Code.region id ops false).wpIn (FR ro) n P Q a w := by
  refine wpIn_region ?_
  have := evOps_sound (ro := ro) (n := n) hE hC hQ ops.toList 0 rfl H h
  rw [List.range_eq_range']
  simpa using this
end Go.Ev

set_option linter.unusedVariables false
namespace Go.Ev
open Go.RowKit
variable {P : Program} {E : Env} {I I' : Im} {w w' : World} {μ μ' : List Nat} {c : Ctx} {ρ : Nat → Rm} {s : St} {a : Act} {o : Oper} {T : Type} {bs bs' : List AV}

theorem dropTmps_get (n : Nat) (drop : List Nat) : ∀ (l : List AV) (k i : Nat), (dropTmps n drop l k)[i]? = (l[i]?).map fun v => bif drop.contains (k + i) || !(boxFree n v.ty) then .top else v
  | [], k, i => by simp [dropTmps]
  | v :: l, k, 0 => by simp [dropTmps]
  | v :: l, k, i + 1 => by simp only [dropTmps, List.getElem?_cons_succ, dropTmps_get n drop l (k + 1) i]; rw [show k + 1 + i = k + (i + 1) by omega]
theorem dropTmps_len (n : Nat) (drop : List Nat) : ∀ (l : List AV) (k : Nat), (dropTmps n drop l k).length = l.length
  | [], k => rfl
  | v :: l, k => by simp [dropTmps, dropTmps_len n drop l (k + 1)]

theorem dropCp_get (n : Nat) (drop : List Nat) : ∀ (vs : List AV) (l : List (Option Nat)) (k i p : Nat), (dropCp n drop vs l k)[i]? = some (some p) → l[i]? = some (some p) ∧ ∃ v, vs[i]? = some v ∧ (drop.contains (k + i) || !(boxFree n v.ty)) = false
  | [], l, k, i, p, h => by simp [dropCp] at h
  | v :: vs, [], k, i, p, h => by simp [dropCp] at h
  | v :: vs, q :: l, k, 0, p, h => by
    simp only [dropCp, List.getElem?_cons_zero, Option.some.injEq] at h
    cases hd : (drop.contains k || !(boxFree n v.ty)) with
    | true => rw [hd] at h; cases h
    | false => rw [hd] at h; simp only [cond_false] at h; exact ⟨by simp [h], v, rfl, by simpa using hd⟩
  | v :: vs, q :: l, k, i + 1, p, h => by
    simp only [dropCp, List.getElem?_cons_succ] at h
    obtain ⟨h1, u, h2, h3⟩ := dropCp_get n drop vs l (k + 1) i p h
    exact ⟨by simpa using h1, u, by simpa using h2, by rw [show k + (i + 1) = k + 1 + i by omega]; exact h3⟩
theorem dropCp_len (n : Nat) (drop : List Nat) : ∀ (vs : List AV) (l : List (Option Nat)) (k : Nat), vs.length = l.length → (dropCp n drop vs l k).length = l.length
  | [], [], k, _ => rfl
  | v :: vs, q :: l, k, h => by simp only [dropCp, List.length_cons]; rw [dropCp_len n drop vs l (k + 1) (by simpa using h)]
  | [], q :: l, k, h => by simp at h
  | v :: vs, [], k, h => by simp at h

theorem isP_iff {p : Nat} {q : Option Nat} : isP p q = true ↔ q = some p := by
  cases q with
  | none => simp [isP]
  | some q => simp only [isP, Option.some.injEq]; exact ⟨fun h => Nat.eq_of_beq_eq_true h, fun h => by subst h; exact Nat.beq_refl _⟩

theorem firstAt_spec (p : Nat) : ∀ (l : List (Option Nat)) (k i : Nat), l[i]? = some (some p) → ∃ j, firstAt p l k = k + j ∧ l[j]? = some (some p)
  | [], k, i, h => by simp at h
  | q :: l, k, i, h => by
    unfold firstAt
    cases hq : isP p q with
    | true => exact ⟨0, rfl, by rw [isP_iff.1 hq]; rfl⟩
    | false =>
      cases i with
      | zero => simp at h; rw [isP_iff.2 h] at hq; cases hq
      | succ i =>
        simp at h
        obtain ⟨j, h1, h2⟩ := firstAt_spec p l (k + 1) i h
        exact ⟨j + 1, by simp only [cond_false]; rw [h1]; omega, by simpa using h2⟩

theorem canonCp_get {l : List (Option Nat)} {i p' : Nat} (h : (canonCp l)[i]? = some (some p')) : ∃ p, l[i]? = some (some p) ∧ p' = firstAt p l 0 ∧ l[p']? = some (some p) := by
  unfold canonCp at h
  rw [List.getElem?_map] at h
  cases hl : l[i]? with
  | none => rw [hl] at h; cases h
  | some q =>
    rw [hl] at h
    cases q with
    | none => cases h
    | some p =>
      simp only [Option.map_some, Option.some.injEq] at h
      obtain ⟨j, h1, h2⟩ := firstAt_spec p l 0 i hl
      rw [Nat.zero_add] at h1
      exact ⟨p, rfl, h.symm, by rw [← h, h1]; exact h2⟩

/-- what falls at a loop's head -/
theorem widen_sound (H : RelI c I μ ρ s a w) (n : Nat) (drop : List Nat) (hn : n ≤ μ.length) (h0 : c.μ0.length ≤ n) : ∃ ρ', RelI c I (μ.take n) ρ' (widen n drop s) a w := by
  have h := H.mem
  have hsub : ∀ b, b ∈ μ.take n → b ∈ μ := fun b hb => List.mem_of_mem_take hb
  have hget : ∀ (i b : Nat), (μ.take n)[i]? = some b → μ[i]? = some b := fun i b hb => by
    rw [List.getElem?_take] at hb
    split at hb
    · exact hb
    · cases hb
  refine ⟨fun p' => match (dropCp n drop s.tmps s.cp 0)[p']? with | some (some p) => ρ p | _ => ρ p', ⟨⟨h.below, h.base, ⟨h.grow.sub, h.grow.cell, ?_⟩, h.sizeS, ?_, ?_, ?_, fun b hb => h.mu b (hsub b hb), fun i b hb => h.munew i b (hget i b hb), h.imlt, h.imc, ⟨h.root.sub, h.root.cell, fun i b hb => by
    rw [List.getElem?_take, if_pos (by have := (List.getElem?_eq_some_iff.1 hb).1; have := h.rlen; omega)]
    exact h.root.pre i b hb⟩, h.rlen, ?_⟩, ?_, ?_, ?_, ?_, ?_, ?_, H.defers⟩⟩
  · intro i b hb
    rw [List.getElem?_take, if_pos (by have := (List.getElem?_eq_some_iff.1 hb).1; omega)]
    exact h.grow.pre i b hb
  · show (dropBoxes n s.boxes).length = _
    unfold dropBoxes
    rw [List.length_map, List.length_take, List.length_take, h.blen]
  · intro i v b hv hb
    have hv' : ((s.boxes.take n).map fun v => bif boxFree n v.ty then v else .undef)[i]? = some v := hv
    rw [List.getElem?_map, List.getElem?_take] at hv'
    split at hv'
    · cases hx : s.boxes[i]? with
      | none => rw [hx] at hv'; cases hv'
      | some x =>
        rw [hx] at hv'
        simp only [Option.map_some, Option.some.injEq] at hv'
        cases hf : boxFree n x.ty with
        | false => rw [hf] at hv'; simp only [cond_false] at hv'; subst hv'; exact .inl (.inl rfl)
        | true =>
          rw [hf] at hv'; simp only [cond_true] at hv'; subst hv'
          rcases h.boxes i x b hx (hget i b hb) with k | ⟨cs, et, h1, h2, h3⟩
          · exact .inl k
          · exact .inr ⟨cs, et, h1, h2.take n _ _ _ _ hf, h3⟩
    · cases hv'
  · exact h.nodup.sublist (List.take_sublist n μ)
  · intro b hb
    obtain ⟨h1, h2, h3, h4⟩ := h.fr b hb
    refine ⟨h1, h2, ?_, h4⟩
    intro i v hi hv
    have hv' : ((s.boxes.take n).map fun v => bif boxFree n v.ty then v else .undef)[i]? = some v := hv
    rw [List.getElem?_map, List.getElem?_take] at hv'
    split at hv'
    · cases hx : s.boxes[i]? with
      | none => rw [hx] at hv'; cases hv'
      | some x =>
        rw [hx] at hv'
        simp only [Option.map_some, Option.some.injEq] at hv'
        have hd := h3 i x (hget i b hi) hx
        rw [← hv', hd]
        simp only [boxFree, cond_true]
        exact hd
    · cases hv'
  · show a.tmps.size = (dropTmps n drop s.tmps 0).length
    rw [dropTmps_len]; exact H.len
  · show (canonCp _).length = (dropTmps n drop s.tmps 0).length
    unfold canonCp
    rw [List.length_map, dropTmps_len, dropCp_len _ _ _ _ _ H.cplen.symm]; exact H.cplen
  · intro i v hv
    have hv' : (dropTmps n drop s.tmps 0)[i]? = some v := hv
    rw [dropTmps_get] at hv'
    cases hx : s.tmps[i]? with
    | none => rw [hx] at hv'; cases hv'
    | some x =>
      rw [hx] at hv'
      simp only [Option.map_some, Option.some.injEq] at hv'
      obtain ⟨u, hu, hr⟩ := H.slots i x hx
      cases hf : (drop.contains (0 + i) || !(boxFree n x.ty)) with
      | true => rw [hf] at hv'; simp only [cond_true] at hv'; subst hv'; exact ⟨u, hu, u, rfl⟩
      | false =>
        rw [hf] at hv'; simp only [cond_false] at hv'; subst hv'
        simp only [Bool.or_eq_false_iff, Bool.not_eq_false'] at hf
        exact ⟨u, hu, hr.take n _ _ _ _ hf.2⟩
  · intro i p' hp
    obtain ⟨p, h1, h2, h3⟩ := canonCp_get hp
    obtain ⟨g1, v, g2, g3⟩ := dropCp_get _ _ _ _ _ _ _ h1
    obtain ⟨v', t, u, k1, k2, k3, k4, k5⟩ := H.caps i p g1
    rw [g2] at k1; cases k1
    refine ⟨v, t, u, ?_, k2, k3, ?_, ?_⟩
    · show (dropTmps n drop s.tmps 0)[i]? = _
      rw [dropTmps_get, g2]
      simp only [Option.map_some, g3, cond_false]
    · simp only [h3]; exact k4
    · simp only [h3]; exact k5
  · rintro p' ⟨i, hi⟩ _
    obtain ⟨p, h1, h2, h3⟩ := canonCp_get hi
    obtain ⟨g1, _⟩ := dropCp_get _ _ _ _ _ _ _ h1
    simp only [h3]
    rcases H.rooms p ⟨i, g1⟩ trivial with k | ⟨ad, cs, et, k1, k2, k3, k4, k5, k6, k7, k8, k9⟩
    · exact .inl k
    · exact .inr ⟨ad, cs, et, k1, k2, k3, k4, k5, k6, fun k => k7 (hsub _ k), k8, k9⟩
  · rintro p' q' ⟨i, hi⟩ ⟨j, hj⟩ hne _ _
    obtain ⟨p, h1, h2, h3⟩ := canonCp_get hi
    obtain ⟨q, g1, g2, g3⟩ := canonCp_get hj
    simp only [h3, g3]
    refine H.apart p q ⟨i, (dropCp_get _ _ _ _ _ _ _ h1).1⟩ ⟨j, (dropCp_get _ _ _ _ _ _ _ g1).1⟩ ?_ trivial trivial
    rintro rfl
    exact hne (h2.trans g2.symm)

/-- the same from here on -/
def Ctx.at (c : Ctx) (I : Im) (μ : List Nat) (w : World) : Ctx := ⟨c.w0, c.F, I, w, μ, c.ds, c.rt⟩

theorem RelI.rebase (H : RelI c I μ ρ s a w) : RelI (c.at I μ w) I μ ρ s a w := by
  have h := H.mem
  exact ⟨⟨h.below, Nat.le_trans h.base h.sizeS, Grow.refl _ _ _, Nat.le_refl _, h.blen, h.boxes, h.nodup, h.mu, fun i b hb => .inl hb, h.imlt, h.imc, h.root, h.root.len, fun b hb =>
    let ⟨h1, h2, h3, h4⟩ := h.fr b hb; ⟨Nat.lt_of_lt_of_le h1 h.sizeS, rfl, h3, fun o k => k⟩⟩, H.len, H.cplen, H.slots, H.caps, H.rooms, H.apart, H.defers⟩

theorem RelI.back {ρ' : Nat → Rm} {s' : St} {a' : Act} (H : RelI c I μ ρ s a w) (H' : RelI (c.at I μ w) I' μ' ρ' s' a' w') : RelI c I' μ' ρ' s' a' w' := by
  have h := H.mem
  have h' := H'.mem
  refine ⟨⟨h'.below, h.base, h.grow.trans h'.grow, Nat.le_trans h.sizeS h'.sizeS, h'.blen, h'.boxes, h'.nodup, h'.mu, ?_, h'.imlt, h'.imc, h'.root, h.rlen, ?_⟩, H'.len, H'.cplen, H'.slots, H'.caps, H'.rooms, H'.apart, H'.defers⟩
  · intro i b hb
    rcases h'.munew i b hb with k | k
    · exact h.munew i b k
    · exact .inr (Nat.le_trans h.sizeS k)
  · intro b hb
    obtain ⟨h1, h2, h3, h4⟩ := h.fr b hb
    obtain ⟨k1, k2, k3, k4⟩ := h'.fr b hb
    exact ⟨h1, k2.trans h2, k3, fun o k => h4 o (k4 o k)⟩

def exOf : Ex → Exit → Prop
  | .normal, .normal => True
  | .exit i, .exit j => i = j
  | .ret, .ret => True
  | _, _ => False

def Post (K : Ex → St → Option T) (r : T) (c : Ctx) (e : Exit) (a : Act) (w : World) : Prop := ∃ ex s I μ ρ, exOf ex e ∧ K ex s = some r ∧ RelI c I μ ρ s a w

theorem wp_loop_n {ro : Option Nat} {n : Nat} {Q : Exit → Act → World → Prop} {cd : Code} (J : Nat → Act → World → Prop) : ∀ (k : Nat) (a : Act) (w : World), J k a w →
    (∀ k a w, J k a w → cd.wpIn (FR ro) n P (Exit.then (fun a' w' => ∃ k', k' < k ∧ J k' a' w') Q) a w) → (Code.loop cd).wpIn (FR ro) n P Q a w := by
  intro k a w h0 round b kk cs hro hb hr
  have key : ∀ n a w, J n a w → ∃ e a' w', Q e a' w' ∧ ArrivesIn (Machine.fenced P (FR ro)) P (lone (b.atR a (.code cd :: .inLoop cd :: kk)) cs w) b kk cs e a' w' := by
    intro n
    induction n using Nat.strongRecOn with
    | _ n ih =>
      intro a w hI
      obtain ⟨e, a₁, w₁, hq, harr⟩ := round n a w hI b (.inLoop cd :: kk) cs hro hb hr
      cases e with
      | normal =>
        obtain ⟨k', hlt, hI₁⟩ := hq
        obtain ⟨e₂, a₂, w₂, hq₂, harr₂⟩ := ih k' hlt a₁ w₁ hI₁
        exact ⟨e₂, a₂, w₂, hq₂, .of_steps (StepsIn.trans harr (.one (fenced_calm hb hr rfl) stepR_inLoop)) harr₂⟩
      | exit id => exact ⟨_, a₁, w₁, hq, .pass (x := .inLoop cd) rfl (fun _ _ => .inl (by simp)) harr⟩
      | goto l => exact ⟨_, a₁, w₁, hq, .pass (x := .inLoop cd) rfl (fun _ _ => .inl (by simp)) harr⟩
      | ret => exact ⟨_, a₁, w₁, hq, .pass (x := .inLoop cd) rfl (fun _ _ => .inl (by simp)) harr⟩
      | panic ch => exact ⟨_, a₁, w₁, hq, .pass (x := .inLoop cd) rfl (fun _ _ => .inl (by simp)) harr⟩
      | outgrown => exact ⟨_, a₁, w₁, hq, .pass (x := .inLoop cd) rfl (fun _ _ => .inl (by simp)) harr⟩
  obtain ⟨e, a', w', hq, harr⟩ := key k a w h0
  exact ⟨e, a', w', hq, .of_steps (.one (fenced_calm hb hr rfl) stepR_loop) harr⟩

theorem loop_sound {ro : Option Nat} {nn : Nat} {cd : Code} {body : St → (Ex → St → Option T) → Option T} (hbody : ∀ {I μ ρ s a w K} {r : T}, RelI c I μ ρ s a w → body s K = some r → cd.wpIn (FR ro) nn P (Post K r c) a w)
    (n : Nat) (drop : List Nat) (k : Nat) {K : Ex → St → Option T} {r : T} (hn : c.μ0.length = n) (H : RelI c I μ ρ s a w) (h : evLoop body n drop k s K = some r) : (Code.loop cd).wpIn (FR ro) nn P (Post K r c) a w := by
  refine wp_loop_n (fun k a w => ∃ s I μ ρ, evLoop body n drop k s K = some r ∧ RelI c I μ ρ s a w) k a w ⟨s, I, μ, ρ, h, H⟩ ?_
  rintro k a w ⟨s, I, μ, ρ, h, H⟩
  cases k with
  | zero => cases h
  | succ k =>
    have h' : body s (fun e s' => match e with
      | .normal => forceSt (widen n drop s') fun s'' => evLoop body n drop k s'' K
      | e => K e s') = some r := h
    refine wpIn_mono (hbody H h') ?_
    rintro e a' w' ⟨ex, s', I', μ', ρ', hex, hK, hR⟩
    cases ex with
    | normal =>
      cases e <;> first | exact hex.elim | skip
      simp only at hK
      rw [forceSt_eq] at hK
      have hlen : n ≤ μ'.length := by
        rw [← hn]
        cases hm : c.μ0.length with
        | zero => exact Nat.zero_le _
        | succ j =>
          have h1 : j < c.μ0.length := by omega
          have h2 := hR.mem.grow.pre j _ (List.getElem?_eq_getElem h1)
          have := (List.getElem?_eq_some_iff.1 h2).1
          omega
      obtain ⟨ρ2, hw⟩ := widen_sound hR n drop hlen (by omega)
      exact ⟨k, Nat.lt_succ_self k, _, I', _, ρ2, hK, hw⟩
    | exit i =>
      cases e <;> first | exact hex.elim | skip
      exact ⟨.exit i, s', I', μ', ρ', hex, hK, hR⟩
    | ret =>
      cases e <;> first | exact hex.elim | skip
      exact ⟨.ret, s', I', μ', ρ', hex, hK, hR⟩

theorem Post.back {K : Ex → St → Option T} {r : T} {e : Exit} {a' : Act} (H : RelI c I μ ρ s a w) (h : Post K r (c.at I μ w) e a' w') : Post K r c e a' w' :=
  let ⟨ex, s', I', μ', ρ', h1, h2, h3⟩ := h; ⟨ex, s', I', μ', ρ', h1, h2, RelI.back H h3⟩
end Go.Ev

set_option linter.unusedVariables false
namespace Go.Ev
variable {T U : Type} {E : Env} {s : St} {G : U → Option T}

/-- the letters: each slot has its own -/
def tl (s : St) : St := { s with cp := (List.range s.cp.length).map some }

theorem opd_tl (s : St) (W : Option Ty) (x : Operand) : opd (tl s) W x = opd s W x := by cases x <;> rfl
theorem opds_tl (s : St) : ∀ (l : List Operand) (Ts : List Nat), opds (tl s) E l Ts = opds s E l Ts
  | [], _ => rfl
  | o :: l, [] => by unfold opds; rw [opd_tl, opds_tl s l []]
  | o :: l, W :: Ts => by unfold opds; rw [opd_tl, opds_tl s l Ts]
theorem setParts_tl (s : St) (t : Ty) : ∀ (l : List (Nat × Operand)) (x : t.den), setParts (tl s) t x l = setParts s t x l
  | [], _ => rfl
  | (i, o) :: l, x => by
    unfold setParts
    rw [opd_tl]
    congr 1
    split
    · congr 1
      split
      · exact setParts_tl s t l _
      · rfl
    · rfl
theorem setElems_tl (s : St) (t : Ty) : ∀ (l : List (Nat × Operand)) (x : List t.den), setElems (tl s) t x l = setElems s t x l
  | [], _ => rfl
  | (i, o) :: l, x => by
    unfold setElems
    rw [opd_tl]
    split
    · split
      · cases (Nat.blt i x.length && !t.isTop) with
        | false => rfl
        | true => exact setElems_tl s t l _
      · rfl
    · rfl
theorem optI_tl (s : St) (d : Int) (o : Option Operand) : optI (tl s) d o = optI s d o := by cases o <;> simp [optI, opd_tl]

def evC (s : St) : Cap → Option Cap
  | .no => some .no
  | .fresh => some .fresh
  | .dup none => some (.dup none)
  | .dup (some t) => some (.dup (s.cap t))
  | .taken t => (s.cap t).map .taken

theorem nth_map_range (n t : Nat) : nth none ((List.range n).map some) t = if t < n then some t else none := by
  by_cases h : t < n
  · rw [if_pos h, nth_get (v := some t)]
    simp [h]
  · rw [if_neg h, nth_none]
    simp; omega

theorem cap_tl (s : St) (t : Nat) : (tl s).cap t = if t < s.cp.length then some t else none := nth_map_range _ _

theorem cap_out {s : St} {t : Nat} (h : ¬ t < s.cp.length) : s.cap t = none := nth_none (List.getElem?_eq_none (by omega))

theorem evC_opdCap (s : St) (x : Operand) : evC s (opdCap (tl s) x) = some (opdCap s x) := by
  cases x with
  | tmp t =>
    show evC s (.dup ((tl s).cap t)) = some (.dup (s.cap t))
    rw [cap_tl]
    split
    · rfl
    · rename_i h; rw [cap_out h]; rfl
  | _ => rfl

theorem evC_capP (s : St) (x : Operand) : (capP (opdCap (tl s) x)).bind (evC s) = capP (opdCap s x) := by
  cases x with
  | tmp t =>
    show (capP (.dup ((tl s).cap t))).bind (evC s) = capP (.dup (s.cap t))
    rw [cap_tl]
    split
    · simp only [capP, Option.bind_some, evC]
      cases s.cap t <;> rfl
    · rename_i h; rw [cap_out h]; rfl
  | const v => rfl
  | func f => rfl
  | global g => rfl

theorem bind_nat {α : Type} (z : Option α) {f : α → Option T} {f' : α → Option U} (h : ∀ y, f y = (f' y).bind G) : z.bind f = (z.bind f').bind G := by
  cases z with
  | none => rfl
  | some y => exact h y
theorem br_bind (q : Bool) (x y : Option U) : (br q x y).bind G = br q (x.bind G) (y.bind G) := by cases q <;> rfl
theorem cond_bind (q : Bool) (x y : Option U) : (bif q then x else y).bind G = bif q then x.bind G else y.bind G := by cases q <;> rfl

section
variable {K : AV → Option T} {K' : AV → Option U}

theorem shiftK_nat (hK : ∀ v, K v = (K' v).bind G) (op : BinOp) (k : IntKind) (x y : Int) : shiftK op k x y K = (shiftK op k x y K').bind G := by
  unfold shiftK; split <;> simp only [br_bind, hK, Option.bind_none]
theorem intK_nat (hK : ∀ v, K v = (K' v).bind G) (op : BinOp) (k : IntKind) (x y : Int) : intK op k x y K = (intK op k x y K').bind G := by
  unfold intK; split <;> simp only [br_bind, hK, Option.bind_none]
theorem eqK_nat (hK : ∀ v, K v = (K' v).bind G) (op : BinOp) (b : Bool) : eqK op b K = (eqK op b K').bind G := by
  unfold eqK; split <;> simp only [hK, Option.bind_none]
theorem binK_nat (hK : ∀ v, K v = (K' v).bind G) (op : BinOp) (a b : AV) : binK op a b K = (binK op a b K').bind G := by
  unfold binK
  split
  · split
    · exact shiftK_nat hK _ _ _ _
    · split
      · exact intK_nat hK _ _ _ _
      · rfl
  · exact eqK_nat hK _ _
  · exact eqK_nat hK _ _
  · split
    · split
      · exact eqK_nat hK _ _
      · rfl
    · rfl
  · rfl
theorem idxAddrK_nat (hK : ∀ v, K v = (K' v).bind G) (W : Nat) (x : AV) (io : Operand) (i : Option AV) : idxAddrK E W x io i K = (idxAddrK E W x io i K').bind G := by
  unfold idxAddrK
  split
  · split
    · rw [cond_bind]
      congr 1
      exact bind_nat _ fun y => hK _
    · rw [cond_bind]
      congr 1
      split
      · rw [br_bind]
        congr 1
        split <;> exact hK _
      · rfl
    · rw [cond_bind]
      congr 1
      split
      · rw [br_bind]
        congr 1
        exact hK _
      · rfl
    · rw [cond_bind]
      congr 1
      split
      · rw [cond_bind]
        congr 1
        rw [br_bind]
        congr 1
        split
        · exact hK _
        · rfl
      · rfl
    · rfl
  · rfl
theorem idxK_nat (hK : ∀ v, K v = (K' v).bind G) (W : Nat) (x : AV) (i : Option AV) : idxK E W x i K = (idxK E W x i K').bind G := by
  unfold idxK
  split
  · split
    · rw [cond_bind]
      congr 1
      rw [br_bind]
      congr 1
      split
      · exact hK _
      · rfl
    · rfl
  · rfl
theorem fieldAddrK_nat (hK : ∀ v, K v = (K' v).bind G) (S : Nat) (x : AV) (f : Nat) : fieldAddrK E S x f K = (fieldAddrK E S x f K').bind G := by
  unfold fieldAddrK
  split
  · rw [cond_bind]
    congr 1
    split
    · exact hK _
    · exact hK _
    · rw [cond_bind]
      congr 1
      split
      · exact hK _
      · rfl
    · rfl
  · rfl
theorem convK_nat (hK : ∀ v, K v = (K' v).bind G) (a b : Option Ty) (v : AV) : convK a b v K = (convK a b v K').bind G := by
  unfold convK
  split
  · exact hK _
  · exact hK _
  · rw [cond_bind]
    congr 1
    exact hK _
  · rfl
theorem ctrK_nat (hK : ∀ v, K v = (K' v).bind G) (f : Nat) (a : AV) : ∀ l : List Ctr, ctrK f a l K none = (ctrK f a l K' none).bind G
  | [] => rfl
  | c :: l => by
    unfold ctrK
    rw [cond_bind]
    congr 1
    · split
      · exact bind_nat _ fun y => hK _
      · exact ctrK_nat hK f a l
    · exact ctrK_nat hK f a l
end

theorem loadK_nat {K : AV → Cap → Option T} {K' : AV → Cap → Option U} (hK : ∀ v, K v .no = (K' v .no).bind G) (W : Nat) (s : St) (p : AV) : loadK E W s p K = (loadK E W (tl s) p K').bind G := by
  unfold loadK
  split
  · rfl
  · split
    · rw [cond_bind]
      congr 1
      exact hK _
    · simp only [tl]
      split
      · exact hK _
      · rfl
    · simp only [tl]
      split
      · rfl
      · split
        · split
          · exact hK _
          · rfl
        · rfl
    · rfl

theorem storeK_nat {K : St → Option T} {K' : St → Option U} (hK : ∀ bs, K { s with boxes := bs } = (K' { tl s with boxes := bs }).bind G) (W : Nat) (p v : AV) : storeK E W s p v K = (storeK E W (tl s) p v K').bind G := by
  unfold storeK
  split
  · rfl
  · rw [cond_bind]
    congr 1
    split
    · simp only [tl]
      split
      · exact hK _
      · rfl
    · simp only [tl]
      split
      · exact hK _
      · rfl
    · rfl
end Go.Ev

set_option linter.unusedVariables false
namespace Go.Ev
variable {T U : Type} {E : Env} {s : St} {G : U → Option T}

abbrev Res := AV × Cap × List AV
def Kt : AV → Cap → St → Option Res := fun v c s => some (v, c, s.boxes)
def Gt (s : St) (K : AV → Cap → St → Option T) : Res → Option T := fun x => (evC s x.2.1).bind fun c => K x.1 c { s with boxes := x.2.2 }

variable {K : AV → Cap → St → Option T}

theorem kno (v : AV) (bs : List AV) : K v .no { s with boxes := bs } = (Kt v .no { tl s with boxes := bs }).bind (Gt s K) := rfl
theorem kno' (v : AV) : K v .no s = (Kt v .no (tl s)).bind (Gt s K) := rfl
theorem kc (v : AV) (c c' : Cap) (h : evC s c' = some c) : K v c s = (Kt v c' (tl s)).bind (Gt s K) := by
  show _ = (evC s c').bind _
  rw [h]; rfl

theorem sliceK_nat (l h m n : Int) {x : Option T} {y : Option U} (e : x = y.bind G) : sliceK l h m n x = (sliceK l h m n y).bind G := by
  unfold sliceK; rw [br_bind, e]; rfl

theorem slBoxK_nat (W i off : Nat) (lo hi mx : Option Operand) : slBoxK E W s i off lo hi mx K = (slBoxK E W (tl s) i off lo hi mx Kt).bind (Gt s K) := by
  unfold slBoxK
  split
  · simp only [tl]
    split
    · rw [cond_bind]
      congr 1
      split
      · rfl
      · rfl
    · rfl
  · rfl

theorem slK_nat (W : Nat) (x : AV) (lo hi mx : Option Operand) : slK E W s x lo hi mx K = (slK E W (tl s) x lo hi mx Kt).bind (Gt s K) := by
  unfold slK
  simp only [optI_tl, opd_tl]
  split
  · rw [cond_bind]
    congr 1
    split
    · split
      · exact sliceK_nat _ _ _ _ rfl
      · rw [cond_bind]
        congr 1
        split
        · exact sliceK_nat _ _ _ _ (by rw [br_bind]; rfl)
        · rfl
    · rfl
  · rw [cond_bind]
    congr 1
    split
    · exact sliceK_nat _ _ _ _ rfl
    · rfl
  · exact slBoxK_nat _ _ _ _ _ _
  · rfl

theorem callK_nat (f : Nat) (args : List AV) : callK E noCall f args s K = (callK E noCall f args (tl s) Kt).bind (Gt s K) := by
  unfold callK noCall
  simp only [Bool.cond_self]
  exact ctrK_nat (K := fun v => K v .no s) (K' := fun v => Kt v .no (tl s)) (G := Gt s K) (fun v => rfl) f (chain args) E.ctr

theorem builtinK_nat (b : Builtin) (Ts : List Nat) (args : List AV) (xs : List Operand) :
    builtinK E b Ts args (xs.map (opdCap s)) (fun v c => K v c s) = (builtinK E b Ts args (xs.map (opdCap (tl s))) (fun v c => Kt v c (tl s))).bind (Gt s K) := by
  unfold builtinK
  split
  · rw [cond_bind]; rfl
  · rw [cond_bind]; rfl
  · split <;> rfl
  · split <;> rfl
  · cases xs with
    | nil => simp only [List.map_nil]; cases Ts with
      | nil => rfl
      | cons a l => cases l with
        | nil => rfl
        | cons b l => cases l <;> rfl
    | cons x xs =>
      simp only [List.map_cons]
      have hc := evC_capP s x
      cases Ts with
      | nil => rfl
      | cons W l => cases l with
        | nil => rfl
        | cons W2 l => cases l with
          | cons _ _ => rfl
          | nil =>
            simp only
            cases hcp : capP (opdCap (tl s) x) with
            | none =>
              rw [hcp] at hc
              rw [← hc]
              cases look E.lim W <;> rfl
            | some cc =>
              rw [hcp] at hc
              simp only [Option.bind_some] at hc
              rw [← hc]
              generalize castTo _ _ = z
              cases look E.lim W with
              | none => rfl
              | some n =>
                cases z with
                | none => cases evC s cc <;> rfl
                | some m' =>
                  cases he : evC s cc with
                  | none =>
                    simp only [cond_bind, br_bind]
                    have key : ∀ v, (Kt v cc (tl s)).bind (Gt s K) = none := fun v => by
                      show (evC s cc).bind _ = none
                      rw [he]; rfl
                    rw [key]
                    simp [br]
                  | some c =>
                    simp only [cond_bind, br_bind]
                    congr 1
                    congr 1
                    exact kc _ _ _ he
  · rfl
end Go.Ev

set_option linter.unusedVariables false
namespace Go.Ev
variable {T U : Type} {E : Env} {s : St} {K : AV → Cap → St → Option T}

theorem opK_nat (s : St) (o : Oper) (K : AV → Cap → St → Option T) : opK E noCall s o K = (opK E noCall (tl s) o Kt).bind (Gt s K) := by
  unfold opK
  cases ho : o.op with
  | move x =>
    simp only [opd_tl]
    split
    · exact kc _ _ _ (evC_opdCap s x)
    · rfl
  | assign x =>
    simp only [opd_tl]
    split
    · exact kc _ _ _ (evC_opdCap s x)
    · rfl
  | pick c a b =>
    simp only [opd_tl]
    split
    · split
      · rfl
      · rw [br_bind]; rfl
    · rfl
  | alloc W =>
    simp only
    split
    · rfl
    · split <;> rfl
    · rfl
  | box W x =>
    simp only [opd_tl]
    split
    · rw [cond_bind]; rfl
    · rfl
  | build W parts =>
    simp only [setParts_tl]
    split
    · rw [cond_bind]
      congr 1
      split
      · split <;> rfl
      · rfl
    · rfl
  | buildSlice W len parts =>
    simp only [setElems_tl]
    split
    · split
      · split
        · rw [cond_bind]; rfl
        · rfl
      · rfl
    · rfl
  | load W a =>
    simp only [opd_tl]
    split
    · exact loadK_nat (K := fun v c => K v c s) (K' := fun v c => Kt v c (tl s)) (G := Gt s K) (fun v => rfl) W s _
    · rfl
  | store W a x =>
    simp only [opd_tl]
    split
    · exact storeK_nat (K := fun s' => K .undef .no s') (K' := fun s' => Kt .undef .no s') (G := Gt s K) (fun bs => rfl) W _ _
    · rfl
  | nilCheck x =>
    simp only [opd_tl]
    split
    · rw [cond_bind]; rfl
    · rfl
  | binOp op xT x y yT =>
    simp only [opd_tl]
    split
    · rw [cond_bind]
      congr 1
      exact binK_nat (K := fun v => K v .no s) (K' := fun v => Kt v .no (tl s)) (G := Gt s K) (fun v => rfl) _ _ _
    · rfl
  | unOp op t x =>
    cases op <;> simp only [opd_tl] <;> first | rfl | (split <;> rfl)
  | convert a b x =>
    simp only [opd_tl]
    split
    · exact convK_nat (K := fun v => K v .no s) (K' := fun v => Kt v .no (tl s)) (G := Gt s K) (fun v => rfl) _ _ _
    · rfl
  | makeFunc f first captured =>
    cases f <;> simp only [opds_tl] <;> first | rfl | (split <;> rfl)
  | slice W x lo hi mx =>
    simp only [opd_tl]
    split
    · exact slK_nat _ _ _ _ _
    · rfl
  | fieldAddr S x f =>
    simp only [opd_tl]
    split
    · exact fieldAddrK_nat (K := fun v => K v .no s) (K' := fun v => Kt v .no (tl s)) (G := Gt s K) (fun v => rfl) _ _ _
    · rfl
  | field W x f =>
    simp only [opd_tl]
    split
    · rw [cond_bind]
      congr 1
      split <;> rfl
    · rfl
  | indexAddr W x i =>
    simp only [opd_tl]
    split
    · exact idxAddrK_nat (K := fun v => K v .no s) (K' := fun v => Kt v .no (tl s)) (G := Gt s K) (fun v => rfl) _ _ _ _
    · rfl
  | index W x i =>
    simp only [opd_tl]
    split
    · exact idxK_nat (K := fun v => K v .no s) (K' := fun v => Kt v .no (tl s)) (G := Gt s K) (fun v => rfl) _ _ _
    · rfl
  | extract x i =>
    simp only [opd_tl]
    split
    · split
      · rw [cond_bind]; rfl
      · rfl
    · rfl
  | call c =>
    simp only [opds_tl]
    split
    · rename_i args _
      cases hc : c.callee with
      | builtin b =>
        simp only
        rw [cond_bind]
        congr 1
        exact builtinK_nat _ _ _ _
      | value g =>
        simp only [opd_tl]
        split
        · rw [cond_bind]
          congr 1
          exact callK_nat _ _
        · rfl
        · rfl
      | _ => rfl
    · rfl
  | _ => rfl

/-! What of a state an operation hangs on. -/

def Agree (l : List Nat) (s s' : St) : Prop := ∀ t, t ∈ l → s.get t = s'.get t ∧ s.cap t = s'.cap t

variable {s' : St} {l : List Nat}

theorem opd_agree {x : Operand} (h : Agree (opdNames x) s s') (W : Option Ty) : opd s W x = opd s' W x := by
  cases x with
  | tmp t => show some (s.get t) = some (s'.get t); rw [(h t (by simp [opdNames])).1]
  | _ => rfl
theorem opdCap_agree {x : Operand} (h : Agree (opdNames x) s s') : opdCap s x = opdCap s' x := by
  cases x with
  | tmp t => show Cap.dup (s.cap t) = Cap.dup (s'.cap t); rw [(h t (by simp [opdNames])).2]
  | _ => rfl
theorem Agree.sub {m : List Nat} (h : Agree l s s') (k : ∀ t, t ∈ m → t ∈ l) : Agree m s s' := fun t ht => h t (k t ht)
theorem opds_agree : ∀ (l : List Operand) (Ts : List Nat), Agree (l.flatMap opdNames) s s' → opds s E l Ts = opds s' E l Ts
  | [], _, _ => rfl
  | o :: l, [], h => by
    unfold opds
    rw [opd_agree (h.sub (by simp; exact fun t ht => .inl ht)), opds_agree l [] (h.sub (by simp; exact fun t o ho ht => .inr ⟨o, ho, ht⟩))]
  | o :: l, W :: Ts, h => by
    unfold opds
    rw [opd_agree (h.sub (by simp; exact fun t ht => .inl ht)), opds_agree l Ts (h.sub (by simp; exact fun t o ho ht => .inr ⟨o, ho, ht⟩))]
theorem caps_agree : ∀ (l : List Operand), Agree (l.flatMap opdNames) s s' → l.map (opdCap s) = l.map (opdCap s')
  | [], _ => rfl
  | o :: l, h => by
    simp only [List.map_cons]
    rw [opdCap_agree (h.sub (by simp; exact fun t ht => .inl ht)), caps_agree l (h.sub (by simp; exact fun t o ho ht => .inr ⟨o, ho, ht⟩))]
theorem setParts_agree (t : Ty) : ∀ (l : List (Nat × Operand)) (x : t.den), Agree (l.flatMap fun p => opdNames p.2) s s' → setParts s t x l = setParts s' t x l
  | [], _, _ => rfl
  | (i, o) :: l, x, h => by
    unfold setParts
    rw [opd_agree (h.sub (by simp; exact fun t ht => .inl ht))]
    congr 1
    split
    · congr 1
      split
      · exact setParts_agree t l _ (h.sub (by simp; exact fun t a b hb ht => .inr ⟨a, b, hb, ht⟩))
      · rfl
    · rfl
theorem setElems_agree (t : Ty) : ∀ (l : List (Nat × Operand)) (x : List t.den), Agree (l.flatMap fun p => opdNames p.2) s s' → setElems s t x l = setElems s' t x l
  | [], _, _ => rfl
  | (i, o) :: l, x, h => by
    unfold setElems
    rw [opd_agree (h.sub (by simp; exact fun t ht => .inl ht))]
    split
    · split
      · cases (Nat.blt i x.length && !t.isTop) with
        | false => rfl
        | true => exact setElems_agree t l _ (h.sub (by simp; exact fun t a b hb ht => .inr ⟨a, b, hb, ht⟩))
      · rfl
    · rfl
theorem optI_agree {o : Option Operand} (h : Agree (optNames o) s s') (d : Int) : optI s d o = optI s' d o := by
  cases o with
  | none => rfl
  | some o => show intOf (opd s none o) = intOf (opd s' none o); rw [opd_agree h]
end Go.Ev

set_option linter.unusedVariables false
namespace Go.Ev
variable {T U : Type} {E : Env} {s s' : St}

theorem Agree.left {l m : List Nat} (h : Agree (l ++ m) s s') : Agree l s s' := h.sub fun t ht => List.mem_append_left _ ht
theorem Agree.right {l m : List Nat} (h : Agree (l ++ m) s s') : Agree m s s' := h.sub fun t ht => List.mem_append_right _ ht

theorem loadK_agree {K K' : AV → Cap → Option T} (hb : s.boxes = s'.boxes) (hK : ∀ v c, K v c = K' v c) (W : Nat) (p : AV) : loadK E W s p K = loadK E W s' p K' := by
  have : K = K' := funext fun v => funext fun c => hK v c
  subst this
  unfold loadK
  rw [hb]

theorem storeK_agree {K K' : St → Option T} (hb : s.boxes = s'.boxes) (hK : ∀ bs, K { s with boxes := bs } = K' { s' with boxes := bs }) (W : Nat) (p v : AV) : storeK E W s p v K = storeK E W s' p v K' := by
  unfold storeK
  split
  · rfl
  · congr 1
    split
    · rw [← hb]
      split
      · exact hK _
      · rfl
    · rw [← hb]
      split
      · exact hK _
      · rfl
    · rfl

theorem slBoxK_agree {K K' : AV → Cap → St → Option T} (hb : s.boxes = s'.boxes) (hK : ∀ v c bs, K v c { s with boxes := bs } = K' v c { s' with boxes := bs }) (W i off : Nat) (lo hi mx : Option Operand) :
    slBoxK E W s i off lo hi mx K = slBoxK E W s' i off lo hi mx K' := by
  unfold slBoxK
  split
  · rw [← hb]
    split
    · congr 1
      split
      · have := hK ⟨.sl (chainHd ‹_›), ‹_›⟩ .no (setN s.boxes i .undef)
        unfold deadBox
        rw [← hb]
        exact hK _ _ _
      · rfl
    · rfl
  · rfl

theorem slK_agree {K K' : AV → Cap → St → Option T} (hb : s.boxes = s'.boxes) (hK : ∀ v c bs, K v c { s with boxes := bs } = K' v c { s' with boxes := bs }) (W : Nat) (x : AV) {lo hi mx : Option Operand}
    (h : Agree (optNames lo ++ (optNames hi ++ optNames mx)) s s') : slK E W s x lo hi mx K = slK E W s' x lo hi mx K' := by
  have e0 : ∀ v c, K v c s = K' v c s' := fun v c => by have := hK v c s.boxes; rw [show ({ s' with boxes := s.boxes } : St) = s' by rw [hb]] at this; exact this
  have h1 := fun d => optI_agree h.left d
  have h2 := fun d => optI_agree h.right.left d
  have h3 : ∀ m, mx = some m → opd s none m = opd s' none m := fun m e => opd_agree (by have := h.right.right; rw [e] at this; exact this) _
  unfold slK
  simp only [h1, h2, e0]
  split
  · congr 1
    split
    · split
      · rfl
      · rw [h3 _ rfl]
    · rfl
  · rfl
  · exact slBoxK_agree hb hK _ _ _ _ _ _
  · rfl

/-- an operation hangs on the slots that it names, and on the boxes -/
theorem opK_agree {o : Oper} (h : Agree (opNames o.op) s s') (hb : s.boxes = s'.boxes) {K K' : AV → Cap → St → Option T} (hK : ∀ v c bs, K v c { s with boxes := bs } = K' v c { s' with boxes := bs }) :
    opK E noCall s o K = opK E noCall s' o K' := by
  have e0 : ∀ v c, K v c s = K' v c s' := fun v c => by have := hK v c s.boxes; rw [show ({ s' with boxes := s.boxes } : St) = s' by rw [hb]] at this; exact this
  unfold opK
  cases ho : o.op with
  | move x =>
    rw [ho] at h
    simp only [opd_agree h, opdCap_agree h, e0]
  | assign x =>
    rw [ho] at h
    simp only [opd_agree h, opdCap_agree h, e0]
  | pick c a b =>
    rw [ho] at h
    simp only [opd_agree h.left, opd_agree h.right.left, opd_agree h.right.right, e0]
  | alloc W =>
    simp only [pushBox]
    split
    · rw [← hb]; exact hK _ _ _
    · split
      · rw [← hb]; exact hK _ _ _
      · rfl
    · rfl
  | box W x =>
    rw [ho] at h
    simp only [opd_agree h, pushBox]
    split
    · congr 1
      rw [← hb]; exact hK _ _ _
    · rfl
  | build W parts =>
    rw [ho] at h
    have e1 := fun (t : Ty) (z : t.den) => setParts_agree t parts.toList z h
    simp only [e1, e0]
  | buildSlice W len parts =>
    rw [ho] at h
    have e1 := fun (t : Ty) (z : List t.den) => setElems_agree t parts.toList z h
    simp only [e1, e0]
  | load W a =>
    rw [ho] at h
    simp only [opd_agree h]
    split
    · exact loadK_agree hb (fun v c => e0 v c) _ _
    · rfl
  | store W a x =>
    rw [ho] at h
    simp only [opd_agree h.left, opd_agree h.right]
    split
    · exact storeK_agree hb (fun bs => hK _ _ _) _ _ _
    · rfl
  | nilCheck x =>
    rw [ho] at h
    simp only [opd_agree h, e0]
  | binOp op xT x y yT =>
    rw [ho] at h
    simp only [opd_agree h.left, opd_agree h.right, e0]
  | unOp op t x =>
    rw [ho] at h
    cases op <;> simp only [opd_agree h, e0]
  | convert a b x =>
    rw [ho] at h
    simp only [opd_agree h, e0]
  | makeFunc f first captured =>
    rw [ho] at h
    have e1 := fun Ts => opds_agree (E := E) first.toList Ts h.left
    have e2 := fun Ts => opds_agree (E := E) captured.toList Ts h.right
    cases f <;> simp only [e1, e2, e0]
  | slice W x lo hi mx =>
    rw [ho] at h
    simp only [opd_agree h.left]
    split
    · exact slK_agree hb hK _ _ h.right
    · rfl
  | fieldAddr S x f =>
    rw [ho] at h
    simp only [opd_agree h, e0]
  | field W x f =>
    rw [ho] at h
    simp only [opd_agree h, e0]
  | indexAddr W x i =>
    rw [ho] at h
    simp only [opd_agree h.left, opd_agree h.right, e0]
  | index W x i =>
    rw [ho] at h
    simp only [opd_agree h.left, opd_agree h.right, e0]
  | extract x i =>
    rw [ho] at h
    simp only [opd_agree h, e0]
  | call c =>
    rw [ho] at h
    have e1 := fun Ts => opds_agree (E := E) c.args.toList Ts h.left
    have e2 := caps_agree c.args.toList h.left
    simp only [e1, e2]
    split
    · cases hc : c.callee with
      | builtin b => simp only [e0]
      | value g =>
        have e3 : ∀ W, opd s W g = opd s' W g := fun W => opd_agree (by have := h.right; rw [hc] at this; exact this) W
        simp only [e3]
        split
        · congr 1
          unfold callK noCall
          simp only [Bool.cond_self, e0]
        · rfl
        · rfl
      | _ => rfl
    · rfl
  | _ => rfl
end Go.Ev

set_option linter.unusedVariables false
namespace Go.Ev
variable {T U : Type} {E : Env} {s s' : St}

def onBx (s : St) (b : List AV) : St := { s with boxes := b }
theorem opd_bx (b : List AV) (W : Option Ty) (x : Operand) : opd (onBx s b) W x = opd s W x := by cases x <;> rfl
theorem opdCap_bx (b : List AV) (x : Operand) : opdCap (onBx s b) x = opdCap s x := by cases x <;> rfl
theorem bx_agree (b : List AV) (l : List Nat) : Agree l (onBx s b) s := fun _ _ => ⟨rfl, rfl⟩

def Gb (b : List AV) : Res → Option Res := fun x => some (x.1, x.2.1, b)

theorem gb (b : List AV) (v : AV) (c : Cap) : Kt v c (onBx s b) = (Kt v c s).bind (Gb b) := rfl

/-- the box is as it was -/
def SameAt (i : Nat) (s : St) (b : List AV) : Prop := nth .top b i = nth .top s.boxes i

theorem loadK_bx {b : List AV} {p : AV} (hp : ∀ i, (fpPtr true (some p) = .rd i) → SameAt i s b) (W : Nat) :
    loadK E W (onBx s b) p (fun v c => Kt v c (onBx s b)) = (loadK E W s p (fun v c => Kt v c s)).bind (Gb b) := by
  unfold loadK
  split
  · rfl
  · split
    · rw [cond_bind]; rfl
    · rename_i i off _
      have h : nth .top b i = nth .top s.boxes i := hp i rfl
      simp only [onBx]
      rw [h]
      split <;> rfl
    · rename_i i offs _
      have h : nth .top b i = nth .top s.boxes i := hp i rfl
      simp only [onBx]
      rw [h]
      split
      · rfl
      · split
        · split <;> rfl
        · rfl
    · rfl

def isMem : Op → Bool
  | .store _ _ _ | .alloc _ | .box _ _ => true
  | _ => false

/-- an operation that makes and writes no box: it hangs on the box alone that it reads -/
theorem opK_bx {o : Oper} {b : List AV} (hm : isMem o.op = false) (hf : fpOf E s o = .no ∨ ∃ i, fpOf E s o = .rd i ∧ SameAt i s b) :
    opK E noCall (onBx s b) o Kt = (opK E noCall s o Kt).bind (Gb b) := by
  unfold opK
  unfold fpOf at hf
  cases ho : o.op with
  | move x =>
    simp only [opd_bx, opdCap_bx]
    split <;> rfl
  | assign x =>
    simp only [opd_bx, opdCap_bx]
    split <;> rfl
  | pick c a b =>
    simp only [opd_bx]
    split
    · split
      · rfl
      · rw [br_bind]; rfl
    · rfl
  | alloc W => rw [ho] at hm; cases hm
  | box W x => rw [ho] at hm; cases hm
  | build W parts =>
    have e1 := fun (t : Ty) (z : t.den) => setParts_agree t parts.toList z (bx_agree (s := s) b _)
    simp only [e1]
    split
    · rw [cond_bind]
      congr 1
      split
      · split <;> rfl
      · rfl
    · rfl
  | buildSlice W len parts =>
    have e1 := fun (t : Ty) (z : List t.den) => setElems_agree t parts.toList z (bx_agree (s := s) b _)
    simp only [e1]
    split
    · split
      · split
        · rw [cond_bind]; rfl
        · rfl
      · rfl
    · rfl
  | load W a =>
    rw [ho] at hf
    simp only at hf
    simp only [opd_bx]
    split
    · rename_i p hp
      rw [hp] at hf
      refine loadK_bx ?_ W
      intro i hi
      rcases hf with hf | ⟨j, hf, hs⟩
      · rw [hf] at hi; cases hi
      · rw [hf] at hi; cases hi; exact hs
    · rfl
  | store W a x => rw [ho] at hm; cases hm
  | nilCheck x =>
    simp only [opd_bx]
    split
    · rw [cond_bind]; rfl
    · rfl
  | binOp op xT x y yT =>
    simp only [opd_bx]
    split
    · rw [cond_bind]
      congr 1
      exact binK_nat (K := fun v => Kt v .no (onBx s b)) (K' := fun v => Kt v .no s) (G := Gb b) (fun v => rfl) _ _ _
    · rfl
  | unOp op t x =>
    cases op <;> simp only [opd_bx] <;> first | rfl | (split <;> rfl)
  | convert a' b' x =>
    simp only [opd_bx]
    split
    · exact convK_nat (K := fun v => Kt v .no (onBx s b)) (K' := fun v => Kt v .no s) (G := Gb b) (fun v => rfl) _ _ _
    · rfl
  | makeFunc f first captured =>
    have e1 := fun Ts => opds_agree (E := E) first.toList Ts (bx_agree (s := s) b _)
    have e2 := fun Ts => opds_agree (E := E) captured.toList Ts (bx_agree (s := s) b _)
    cases f <;> simp only [e1, e2] <;> first | rfl | (split <;> rfl)
  | slice W x lo hi mx =>
    rw [ho] at hf
    simp only at hf
    simp only [opd_bx]
    split
    · rename_i v hv
      rw [hv] at hf
      have h1 := fun d => optI_agree (o := lo) (bx_agree (s := s) b _) d
      have h2 := fun d => optI_agree (o := hi) (bx_agree (s := s) b _) d
      unfold slK
      simp only [h1, h2, opd_bx]
      split
      · rw [cond_bind]
        congr 1
        split
        · split
          · exact sliceK_nat _ _ _ _ rfl
          · rw [cond_bind]
            congr 1
            split
            · exact sliceK_nat _ _ _ _ (by rw [br_bind]; rfl)
            · rfl
        · rfl
      · rw [cond_bind]
        congr 1
        split
        · exact sliceK_nat _ _ _ _ rfl
        · rfl
      · exfalso
        rcases hf with hf | ⟨j, hf, _⟩ <;> cases hf
      · rfl
    · rfl
  | fieldAddr S x f =>
    simp only [opd_bx]
    split
    · exact fieldAddrK_nat (K := fun v => Kt v .no (onBx s b)) (K' := fun v => Kt v .no s) (G := Gb b) (fun v => rfl) _ _ _
    · rfl
  | field W x f =>
    simp only [opd_bx]
    split
    · rw [cond_bind]
      congr 1
      split <;> rfl
    · rfl
  | indexAddr W x i =>
    simp only [opd_bx]
    split
    · exact idxAddrK_nat (K := fun v => Kt v .no (onBx s b)) (K' := fun v => Kt v .no s) (G := Gb b) (fun v => rfl) _ _ _ _
    · rfl
  | index W x i =>
    simp only [opd_bx]
    split
    · exact idxK_nat (K := fun v => Kt v .no (onBx s b)) (K' := fun v => Kt v .no s) (G := Gb b) (fun v => rfl) _ _ _
    · rfl
  | extract x i =>
    simp only [opd_bx]
    split
    · split
      · rw [cond_bind]; rfl
      · rfl
    · rfl
  | call c =>
    have e1 := fun Ts => opds_agree (E := E) c.args.toList Ts (bx_agree (s := s) b _)
    have e2 := caps_agree c.args.toList (bx_agree (s := s) b _)
    simp only [e1, e2]
    split
    · cases hc : c.callee with
      | builtin bi =>
        simp only
        rw [cond_bind]
        congr 1
        unfold builtinK
        split
        · rw [cond_bind]; rfl
        · rw [cond_bind]; rfl
        · split <;> rfl
        · split <;> rfl
        · split
          · split
            · rw [cond_bind, br_bind]; rfl
            · rfl
          · rfl
        · rfl
      | value g =>
        simp only [opd_bx]
        split
        · rw [cond_bind]
          congr 1
          unfold callK noCall
          simp only [Bool.cond_self]
          exact ctrK_nat (K := fun v => Kt v .no (onBx s b)) (K' := fun v => Kt v .no s) (G := Gb b) (fun v => rfl) _ _ _
        · rfl
        · rfl
      | _ => rfl
    · rfl
  | _ => rfl

theorem opK_al {o : Oper} {x : Res} (hm : (∃ W, o.op = .alloc W) ∨ ∃ W y, o.op = .box W y) (h : opK E noCall s o Kt = some x) : ∃ z, x.2.2 = s.boxes ++ [z] := by
  rcases hm with ⟨W, ho⟩ | ⟨W, y, ho⟩
  · unfold opK at h
    rw [ho] at h
    simp only at h
    split at h
    · cases h; exact ⟨_, rfl⟩
    · split at h
      · cases h; exact ⟨_, rfl⟩
      · cases h
    · cases h
  · unfold opK at h
    rw [ho] at h
    simp only at h
    split at h
    · rename_i t u z _ _
      cases hq : ((decide (t = u) && !u.isTop) || (decide (t = .top) && u.leaf)) with
      | false => rw [hq] at h; cases h
      | true => rw [hq] at h; cases h; exact ⟨_, rfl⟩
    · cases h

theorem opK_wr {o : Oper} {x : Res} {W : Nat} {a y : Operand} (ho : o.op = .store W a y) (h : opK E noCall s o Kt = some x) : ∃ i z, fpOf E s o = .wr i ∧ x.2.2 = setN s.boxes i z := by
  unfold opK at h
  unfold fpOf
  rw [ho] at h ⊢
  simp only at h ⊢
  split at h
  · rename_i p v hp hv
    rw [hp]
    unfold storeK at h
    split at h
    · cases h
    · revert h
      generalize (!((decide (_ = v.ty) || _) && _)) = q
      cases q with
      | true => intro h; cases h
      | false =>
        simp only [cond_false]
        intro h
        split at h
        · split at h
          · cases h; exact ⟨_, _, rfl, rfl⟩
          · cases h
        · split at h
          · cases h; exact ⟨_, _, rfl, rfl⟩
          · cases h
        · cases h
  · cases h
end Go.Ev

set_option linter.unusedVariables false
namespace Go.Ev
variable {T U : Type} {E : Env} {s s' : St}

/-! Letters: what one operation does to them, and two of them. -/

def clearO : Option Nat → List (Option Nat) → List (Option Nat)
  | some p, l => clearP p l
  | none, l => l

def clO : Option Nat → Option Nat → Option Nat
  | some p, o => bif isP p o then none else o
  | none, o => o

theorem clO_none (p : Option Nat) : clO p none = none := by cases p <;> rfl

theorem clearO_get (p : Option Nat) (l : List (Option Nat)) (i : Nat) : (clearO p l)[i]? = (l[i]?).map (clO p) := by
  cases p with
  | none => show l[i]? = _; cases l[i]? <;> rfl
  | some p => simp only [clearO, clearP, List.getElem?_map]; rfl

theorem clearO_length (p : Option Nat) (l : List (Option Nat)) : (clearO p l).length = l.length := by
  cases p with
  | none => rfl
  | some p => exact clearP_length p l

theorem clO_comm (p q o : Option Nat) : clO p (clO q o) = clO q (clO p o) := by
  cases p with
  | none => rfl
  | some p => cases q with
    | none => rfl
    | some q =>
      simp only [clO]
      cases h1 : isP q o <;> cases h2 : isP p o <;> simp [h1, h2] <;> rfl

theorem nth_clearO (p : Option Nat) (l : List (Option Nat)) (t : Nat) : nth none (clearO p l) t = clO p (nth none l t) := by
  cases h : l[t]? with
  | none => rw [nth_none h, nth_none (by rw [clearO_get, h]; rfl), clO_none]
  | some o => rw [nth_get h, nth_get (v := clO p o) (by rw [clearO_get, h]; rfl)]

theorem nth_setN_ne {α : Type} {d : α} (l : List α) {k t : Nat} (v : α) (h : t ≠ k) : nth d (setN l k v) t = nth d l t := by
  cases hl : l[t]? with
  | none => rw [nth_none hl, nth_none]; rw [setN_get, if_neg (fun e => h e.1)]; exact hl
  | some o => rw [nth_get hl, nth_get (v := o)]; rw [setN_get, if_neg (fun e => h e.1)]; exact hl

def NoLet (d : Option Nat) (l : List (Option Nat)) : Prop := ∀ p, d = some p → ∀ i : Nat, l[i]? ≠ some (some p)

theorem clearP_nolet {d : Nat} {l : List (Option Nat)} (h : NoLet (some d) l) : clearP d l = l := by
  apply List.ext_getElem?
  intro i
  unfold clearP
  rw [List.getElem?_map]
  cases hl : l[i]? with
  | none => rfl
  | some o =>
    simp only [Option.map_some]
    cases hp : isP d o with
    | false => rfl
    | true => rw [isP_iff.1 hp] at hl; exact absurd hl (h d rfl i)

def qOf (d : Nat) (l : List (Option Nat)) : Cap → Option Nat
  | .no => none
  | .fresh => some d
  | .dup none => none
  | .dup (some t) => nth none l t
  | .taken _ => some d
def pOf (l : List (Option Nat)) : Cap → Option Nat
  | .taken t => nth none l t
  | _ => none

def effP (d : Option Nat) (c : Cap) (l : List (Option Nat)) : List (Option Nat) := match d with
  | none => l
  | some d => setN (clearO (pOf l c) l) d (qOf d l c)

def mask (v : AV) (c : Cap) : Cap := bif v.ty.isSl then c else .no

def CapIn (l : List Nat) (d : Option Nat) (v : AV) : Cap → Prop
  | .dup (some t) => t ∈ l
  | .taken t => t ∈ l ∧ v.ty.isSl = true ∧ d.isSome = true
  | _ => True

theorem nth_some {l : List (Option Nat)} {t p : Nat} (h : nth none l t = some p) : l[t]? = some (some p) := by
  cases hl : l[t]? with
  | none => rw [nth_none hl] at h; cases h
  | some o => rw [nth_get hl] at h; rw [h]

theorem clO_some {p o : Option Nat} {q : Nat} (h : clO p o = some q) : o = some q ∧ p ≠ some q := by
  cases p with
  | none => exact ⟨h, by simp⟩
  | some p =>
    simp only [clO] at h
    cases hp : isP p o with
    | true => rw [hp] at h; cases h
    | false =>
      rw [hp] at h
      simp only [cond_false] at h
      refine ⟨h, ?_⟩
      intro e
      cases e
      rw [h, isP_iff.2 rfl] at hp
      cases hp

theorem clO_ne {p : Option Nat} {q : Nat} (h : p ≠ some q) : clO p (some q) = some q := by
  cases p with
  | none => rfl
  | some p =>
    simp only [clO]
    have : isP p (some q) = false := by
      cases hp : isP p (some q) with
      | false => rfl
      | true => have := isP_iff.1 hp; cases this; exact absurd rfl h
    rw [this]; rfl

def putT (d : Option Nat) (v : AV) (l : List AV) : List AV := match d with
  | some d => setN l d v
  | none => l

/-- what put does to the letters -/
theorem put_eff {v : AV} {c sc : Cap} {d : Option Nat} (h : evC s sc = some c) (hn : NoLet d s.cp) (b : List AV) :
    St.put { s with boxes := b } d v c = { tmps := putT d v s.tmps, boxes := b, cp := effP d (mask v sc) s.cp } := by
  cases d with
  | none => rfl
  | some d =>
    simp only [St.put, effP, mask, putT]
    cases hs : v.ty.isSl with
    | false => rfl
    | true =>
      simp only [cond_true]
      cases sc with
      | no => cases h; rfl
      | fresh => cases h; simp only [pOf, qOf, clearO]; rw [clearP_nolet hn]
      | dup p => cases p with
        | none => cases h; rfl
        | some t => cases h; rfl
      | taken t =>
        simp only [evC] at h
        cases ht : s.cap t with
        | none => rw [ht] at h; cases h
        | some p =>
          rw [ht] at h
          cases h
          have hp : nth none s.cp t = some p := ht
          simp only [pOf, qOf, hp, clearO]
          rw [clearP_nolet]
          intro q hq i hi
          cases hq
          have := (clearP_get p s.cp i d).1 hi
          exact hn d rfl i this.1

theorem effP_length (d : Option Nat) (c : Cap) (l : List (Option Nat)) : (effP d c l).length = l.length := by
  cases d with
  | none => rfl
  | some d => simp only [effP, setN_length, clearO_length]

/-- a letter stays out -/
theorem effP_nolet {d d' : Option Nat} {c : Cap} {l : List (Option Nat)} (h : NoLet d' l) (hne : neDst d d' = true) : NoLet d' (effP d c l) := by
  intro p hp i hi
  subst hp
  cases d with
  | none => exact h p rfl i hi
  | some d =>
    have hdp : d ≠ p := by
      intro e; subst e
      simp [neDst] at hne
    simp only [effP] at hi
    rw [setN_get] at hi
    split at hi
    · have hq : qOf d l c = some p := by simpa using hi
      cases c with
      | no => cases hq
      | fresh => injection hq with hq; exact hdp hq
      | dup o => cases o with
        | none => cases hq
        | some t => exact h p rfl t (nth_some hq)
      | taken t => injection hq with hq; exact hdp hq
    · rw [clearO_get] at hi
      cases hl : l[i]? with
      | none => rw [hl] at hi; cases hi
      | some o =>
        rw [hl] at hi
        simp only [Option.map_some, Option.some.injEq] at hi
        have := (clO_some hi).1
        subst this
        exact h p rfl i hl

/-- the slot that a right is had from -/
def capSlot : Cap → Option Nat
  | .dup (some t) => some t
  | .taken t => some t
  | _ => none

theorem eff_nth {d : Option Nat} {c : Cap} {l : List (Option Nat)} {t : Nat} (h : d ≠ some t) : nth none (effP d c l) t = match d with | some _ => clO (pOf l c) (nth none l t) | none => nth none l t := by
  cases d with
  | none => rfl
  | some d =>
    simp only [effP]
    rw [nth_setN_ne _ _ (by intro e; exact h (by rw [e])), nth_clearO]

/-- two operations change their places -/
theorem eff_comm {d d' : Nat} {c c' : Cap} {l : List (Option Nat)} (hdd : d ≠ d') (h1 : NoLet (some d) l) (h2 : NoLet (some d') l) (hs : ∀ t, capSlot c = some t → t ≠ d') (hs' : ∀ t, capSlot c' = some t → t ≠ d)
    (ho : ∀ t, c = .taken t → (nth none l t).isSome = true) (ho' : ∀ t, c' = .taken t → (nth none (effP (some d) c l) t).isSome = true) :
    effP (some d') c' (effP (some d) c l) = effP (some d) c (effP (some d') c' l) ∧ (∀ t, c' = .taken t → (nth none l t).isSome = true) ∧ (∀ t, c = .taken t → (nth none (effP (some d') c' l) t).isSome = true) := by
  -- the letters that are cleared
  have hp' : pOf (effP (some d) c l) c' = pOf l c' := by
    cases c' with
    | taken t' =>
      simp only [pOf]
      rw [eff_nth (by intro e; injection e with e; exact hs' t' rfl e.symm)]
      simp only
      have := ho' t' rfl
      rw [eff_nth (by intro e; injection e with e; exact hs' t' rfl e.symm)] at this
      simp only at this
      cases hq : clO (pOf l c) (nth none l t') with
      | none => rw [hq] at this; cases this
      | some q => exact ((clO_some hq).1).symm
    | _ => rfl
  have hpne : ∀ p q, pOf l c = some p → pOf l c' = some q → p ≠ q := by
    intro p q hp hq e
    subst e
    cases c' with
    | taken t' =>
      have := ho' t' rfl
      rw [eff_nth (by intro e; injection e with e; exact hs' t' rfl e.symm)] at this
      simp only [pOf] at hq
      simp only [hq, hp] at this
      have h3 : clO (some p) (some p) = none := by simp only [clO]; rw [isP_iff.2 rfl]; rfl
      rw [h3] at this
      cases this
    | _ => cases hq
  have hp : pOf (effP (some d') c' l) c = pOf l c := by
    cases c with
    | taken t =>
      simp only [pOf]
      rw [eff_nth (by intro e; injection e with e; exact hs t rfl e.symm)]
      simp only
      have := ho t rfl
      cases hq : nth none l t with
      | none => rw [hq] at this; cases this
      | some q =>
        refine clO_ne ?_
        intro e
        exact hpne q q (by simp only [pOf]; exact hq) e rfl
    | _ => rfl
  have hnd : ∀ (c : Cap) (q : Nat), pOf l c = some q → q ≠ d ∧ q ≠ d' := by
    intro c q hq
    cases c with
    | taken t =>
      simp only [pOf] at hq
      refine ⟨?_, ?_⟩ <;> rintro rfl
      · exact h1 q rfl t (nth_some hq)
      · exact h2 q rfl t (nth_some hq)
    | _ => cases hq
  -- what is set
  have hq1 : clO (pOf l c') (qOf d l c) = qOf d (effP (some d') c' l) c := by
    have hself : clO (pOf l c') (some d) = some d := clO_ne (fun e => (hnd c' d e).1 rfl)
    cases c with
    | no => exact clO_none _
    | fresh => exact hself
    | dup o => cases o with
      | none => exact clO_none _
      | some t =>
        simp only [qOf]
        rw [eff_nth (by intro e; injection e with e; exact hs t rfl e.symm)]
    | taken t => exact hself
  have hq2 : qOf d' (effP (some d) c l) c' = clO (pOf l c) (qOf d' l c') := by
    have hself : clO (pOf l c) (some d') = some d' := clO_ne (fun e => (hnd c d' e).2 rfl)
    cases c' with
    | no => exact (clO_none _).symm
    | fresh => exact hself.symm
    | dup o => cases o with
      | none => exact (clO_none _).symm
      | some t =>
        simp only [qOf]
        rw [eff_nth (by intro e; injection e with e; exact hs' t rfl e.symm)]
    | taken t => exact hself.symm
  refine ⟨?_, ?_, ?_⟩
  · apply List.ext_getElem?
    intro i
    show (setN (clearO (pOf (effP (some d) c l) c') (effP (some d) c l)) d' (qOf d' (effP (some d) c l) c'))[i]? = (setN (clearO (pOf (effP (some d') c' l) c) (effP (some d') c' l)) d (qOf d (effP (some d') c' l) c))[i]?
    rw [hp', hp, hq2, ← hq1]
    simp only [effP, setN_get, clearO_get, clearO_length, setN_length]
    by_cases hd : i = d
    · subst hd
      by_cases hl : i < l.length
      · simp [hl, hdd]
      · have h3 : l[i]? = none := List.getElem?_eq_none (by omega)
        simp [hl, hdd]
    · by_cases hd' : i = d'
      · subst hd'
        by_cases hl : i < l.length
        · simp [hl, hd]
        · have h3 : l[i]? = none := List.getElem?_eq_none (by omega)
          simp [hl, hd]
      · simp only [hd, hd', false_and, if_false, Option.map_map]
        cases l[i]? with
        | none => rfl
        | some o => simp [clO_comm]
  · intro t ht
    have := ho' t ht
    subst ht
    rw [eff_nth (by intro e; injection e with e; exact hs' t rfl e.symm)] at this
    simp only at this
    cases hq : clO (pOf l c) (nth none l t) with
    | none => rw [hq] at this; cases this
    | some q => rw [(clO_some hq).1]; rfl
  · intro t ht
    have := ho t ht
    subst ht
    have h3 := hp
    simp only [pOf] at h3
    rw [h3]; exact this
end Go.Ev
