import Derived.Test.YtggobapgdflchaaEvOp9
set_option linter.unusedVariables false
namespace Go.Ev
open Go.RowKit
variable {P : Program} {E : Env} {I I' : Im} {w w' : World} {μ μ' : List Nat} {c : Ctx} {ρ : Nat → Rm} {s : St} {a : Act} {o : Oper} {T : Type} {bs bs' : List AV}

theorem Grow.below (hb : Below w.heap.size w w') (hlt : ∀ b o, I b o → b < w.heap.size) (hI : ∀ b o, I b o → I' b o) : Grow I w μ I' w' μ :=
  ⟨hI, fun a h => hb.cell (hlt _ _ h), fun _ _ h => h⟩

theorem alloc_new (o : Obj) : (w.alloc o).heap[w.heap.size]? = some o := by show (w.heap.push o)[w.heap.size]? = _; simp

theorem lt_of_get {b : Nat} {x : Obj} (h : w.heap[b]? = some x) : b < w.heap.size := (Array.getElem?_eq_some_iff.1 h).1

/-- old blocks are as they were; what is newly fixed lies in new ones -/
theorem MemI.grown (H : MemI c I μ bs w) (hb : Below w.heap.size w w') (N : Im) (hN : ∀ b o, N b o → w.heap.size ≤ b ∧ b < w'.heap.size) : MemI c (fun b o => I b o ∨ N b o) μ bs w' := by
  have g : Grow I w μ (fun b o => I b o ∨ N b o) w' μ := Grow.below hb H.imlt (fun _ _ h => .inl h)
  refine ⟨H.below.trans (hb.mono (Nat.le_trans H.base H.sizeS)), H.base, H.grow.trans g, Nat.le_trans H.sizeS hb.size, H.blen, ?_, H.nodup, ?_, H.munew, ?_, ?_⟩
  · intro i v b hv hmb
    rcases H.boxes i v b hv hmb with h | ⟨cs, et, h1, h2, h3⟩
    · exact .inl h
    · refine .inr ⟨cs, et, ?_, h2.grow g, ?_⟩
      · rw [hb.block b (lt_of_get h1)]; exact h1
      · rintro o (h | h)
        · exact h3 o h
        · have := (hN b o h).1; have := lt_of_get h1; omega
  · intro b h; have := H.mu b h; exact ⟨this.1, Nat.lt_of_lt_of_le this.2 hb.size⟩
  · rintro b o (h | h)
    · exact Nat.lt_of_lt_of_le (H.imlt b o h) hb.size
    · exact (hN b o h).2
  · intro b h
    obtain ⟨h1, h2, h3, h4⟩ := H.fr b h
    refine ⟨h1, ?_, h3, ?_⟩
    · rw [hb.block b (Nat.lt_of_lt_of_le h1 H.sizeS)]; exact h2
    · rintro o (k | k)
      · exact h4 o k
      · have := (hN b o k).1; have := H.sizeS; omega

theorem MemI.push (H : MemI c I μ bs w) {b : Nat} {v : AV} {cs : Array Value} {et : Nat} (hb : w.heap[b]? = some (.cells cs et (0, 0))) (hr : R I w μ v.ty true v.x cs.toList) (hI : ∀ o, ¬ I b o)
    (hs : c.wS.heap.size ≤ b) (hn : b ∉ μ) : MemI c I (μ ++ [b]) (bs ++ [v]) w := by
  have g : Grow I w μ I w (μ ++ [b]) := ⟨fun _ _ h => h, fun _ _ => rfl, fun i x h => by rw [List.getElem?_append_left (List.getElem?_eq_some_iff.1 h).1]; exact h⟩
  refine ⟨H.below, H.base, H.grow.trans g, H.sizeS, by simp [H.blen], ?_, ?_, ?_, ?_, H.imlt, ?_⟩
  · intro i v' b' hv hmb
    by_cases hi : i < bs.length
    · rw [List.getElem?_append_left hi] at hv
      rw [List.getElem?_append_left (by rw [← H.blen]; exact hi)] at hmb
      rcases H.boxes i v' b' hv hmb with h | ⟨cs', et', h1, h2, h3⟩
      · exact .inl h
      · exact .inr ⟨cs', et', h1, h2.grow g, h3⟩
    · rw [List.getElem?_append_right (by omega)] at hv
      rw [List.getElem?_append_right (by rw [← H.blen]; omega)] at hmb
      have hi0 : i - bs.length = 0 := by
        cases h : i - bs.length with
        | zero => rfl
        | succ n => rw [h] at hv; simp at hv
      rw [hi0] at hv
      rw [← H.blen, hi0] at hmb
      simp at hv hmb
      subst hv; subst hmb
      exact .inr ⟨cs, et, hb, hr.grow g, hI⟩
  · rw [List.nodup_append]
    refine ⟨H.nodup, by simp, ?_⟩
    intro x hx y hy e
    simp at hy; subst hy; subst e; exact hn hx
  · intro x hx
    rcases List.mem_append.1 hx with h | h
    · exact H.mu x h
    · simp at h; subst h; exact ⟨Nat.le_trans H.base hs, lt_of_get hb⟩
  · intro i x hx
    by_cases hi : i < μ.length
    · rw [List.getElem?_append_left hi] at hx; exact H.munew i x hx
    · rw [List.getElem?_append_right (by omega)] at hx
      cases h : i - μ.length with
      | zero => rw [h] at hx; simp at hx; subst hx; exact .inr hs
      | succ n => rw [h] at hx; simp at hx
  · intro x hx
    obtain ⟨h1, h2, h3, h4⟩ := H.fr x hx
    refine ⟨h1, h2, ?_, h4⟩
    intro hm
    rcases List.mem_append.1 hm with h | h
    · exact h3 h
    · simp at h; subst h; omega

theorem Room.grown {B : Nat} {F : Nat → Prop} {r : Rm} (hr : Room B F I μ w r) (hb : Below w.heap.size w w') (N : Im) (hN : ∀ b o, N b o → w.heap.size ≤ b) : Room B F (fun b o => I b o ∨ N b o) μ w' r := by
  rcases hr with h | ⟨ad, cs, et, h1, h2, h3, h4, h5, h6, h7, h8, h9⟩
  · exact .inl h
  · refine .inr ⟨ad, cs, et, h1, h2, h3, ?_, h5, h6, h7, h8, ?_⟩
    · rw [hb.block _ (lt_of_get h4)]; exact h4
    · rintro o ho (k | k)
      · exact h9 o ho k
      · have := hN _ _ k; have := lt_of_get h4; omega

theorem Room.push {B : Nat} {F : Nat → Prop} {r : Rm} {b : Nat} (hr : Room B F I μ w r) (hb : ∀ ad, r.a = some ad → r.n ≠ r.cap → ad.block ≠ b) : Room B F I (μ ++ [b]) w r := by
  by_cases hn : r.n = r.cap
  · exact .inl hn
  rcases hr with h | ⟨ad, cs, et, h1, h2, h3, h4, h5, h6, h7, h8, h9⟩
  · exact .inl h
  · refine .inr ⟨ad, cs, et, h1, h2, h3, h4, h5, h6, ?_, h8, h9⟩
    intro hm
    rcases List.mem_append.1 hm with h | h
    · exact h7 h
    · simp at h; exact hb ad h1 hn h

theorem Room.lt {B : Nat} {F : Nat → Prop} {r : Rm} (hr : Room B F I μ w r) (hn : r.n ≠ r.cap) : ∃ ad, r.a = some ad ∧ ad.block < w.heap.size := by
  rcases hr with h | ⟨ad, cs, et, h1, h2, h3, h4, _⟩
  · exact absurd h hn
  · exact ⟨ad, h1, lt_of_get h4⟩

/-- the slots are as they were; memory has moved on -/
theorem RelX.step {X : Nat → Prop} (H : RelI c I μ ρ s a w) (hm : MemI c I' μ' bs' w') (g : Grow I w μ I' w' μ') (hr : ∀ p, Live s p → X p → Room c.w0.heap.size c.F I' μ' w' (ρ p)) :
    RelX X c I' μ' ρ { s with boxes := bs' } a w' :=
  ⟨hm, H.len, H.cplen, fun i v hv => let ⟨u, h1, h2⟩ := H.slots i v hv; ⟨u, h1, h2.grow g⟩, H.caps, hr, fun p q hp hq e _ _ => H.apart p q hp hq e trivial trivial, H.defers⟩

theorem below_refl_alloc (x : Obj) : Below w.heap.size w (w.alloc x) := (Below.refl _ _).alloc (Nat.le_refl _) x
theorem below_drew_alloc (x : Obj) : Below w.heap.size w (w.drew.alloc x) := ((Below.refl _ _).drew).alloc (Nat.le_refl _) x

/-- a new box -/
theorem push_sound {X : Nat → Prop} (H : RelI c I μ ρ s a w) {v : AV} {cs : Array Value} {et : Nat} (hr : R I w μ v.ty true v.x cs.toList) :
    RelX X c I (μ ++ [w.heap.size]) ρ (pushBox s v) a (w.alloc (.cells cs et)) ∧ R I (w.alloc (.cells cs et)) (μ ++ [w.heap.size]) (.box s.boxes.length 0) false () [.pointer (some ⟨w.heap.size, 0, none⟩)] := by
  have hb := below_refl_alloc (w := w) (.cells cs et)
  have h1 := H.mem.grown hb (fun _ _ => False) (fun _ _ h => h.elim)
  have e : (fun b o => I b o ∨ False) = I := by funext b o; simp
  rw [e] at h1
  have g1 : Grow I w μ I (w.alloc (.cells cs et)) μ := Grow.below hb H.mem.imlt (fun _ _ h => h)
  have hn : w.heap.size ∉ μ := fun h => by have := (H.mem.mu _ h).2; omega
  have h2 := h1.push (v := v) (alloc_new _) (hr.grow g1) (fun o h => by have := H.mem.imlt _ _ h; omega) H.mem.sizeS hn
  have g2 : Grow I w μ I (w.alloc (.cells cs et)) (μ ++ [w.heap.size]) := ⟨g1.sub, g1.cell, fun i x h => by rw [List.getElem?_append_left (List.getElem?_eq_some_iff.1 h).1]; exact h⟩
  refine ⟨RelX.step H h2 g2 ?_, ⟨w.heap.size, ?_, rfl⟩⟩
  · intro p hp _
    have r0 := H.rooms p hp trivial
    have r1 := r0.grown hb (fun _ _ => False) (fun _ _ h => h.elim)
    rw [e] at r1
    refine r1.push ?_
    intro ad h1 hne e2
    obtain ⟨ad', h3, h4⟩ := r0.lt hne
    rw [h1] at h3; cases h3; omega
  · rw [H.mem.blen, List.getElem?_append_right (Nat.le_refl _), Nat.sub_self]; rfl

theorem run_newVar {T : Nat} {v : Value} : (newVar T v).run P w = .ok ⟨w.heap.size, 0, none⟩ (w.alloc (.cells v.cells T)) := by
  unfold newVar newRow
  simp only [Sem.run_bind]; rfl

theorem box_sound (hE : EnvOK P E) {K : AV → Cap → St → Option T} {r : T} {U : Nat} {x : Operand} (H : RelI c I μ ρ s a w) (ho : o.op = .box U x)
    (h : (match E.ty U, opd s (E.ty U) x with
    | some t, some ⟨u, y⟩ => bif (decide (t = u) && !u.isTop) || (decide (t = .top) && u.leaf) then K ⟨.box s.boxes.length 0, ()⟩ .no (pushBox s ⟨u, y⟩) else none
    | _, _ => none) = some r) : Yields P o a w (Out K r c a o.dst) := by
  cases hU : E.ty U with
  | none => rw [hU] at h; cases h
  | some t =>
  cases hx : opd s (E.ty U) x with
  | none => rw [hU] at hx; rw [hU, hx] at h; cases h
  | some p =>
    have hr := opd_sound H hx
    rw [hU] at hx
    rw [hU, hx] at h
    obtain ⟨u, y⟩ := p
    simp only at h
    cases hd : ((decide (t = u) && !u.isTop) || (decide (t = .top) && u.leaf)) with
    | false => rw [hd] at h; cases h
    | true =>
      rw [hd] at h
      simp only [cond_true] at h
      have hc : R I w μ u true y (a.eval x).cells.toList := by
        simp only [Bool.or_eq_true, decide_eq_true_eq, Bool.and_eq_true, Bool.not_eq_true'] at hd
        rcases hd with ⟨rfl, hnt⟩ | ⟨_, h⟩
        · have := (hE.tys U _ hU).ok
          unfold okTy at this
          simp only [Bool.or_eq_true] at this
          rcases this with (h | h) | h
          · exact R_cells hr (.inl h)
          · rw [h] at hnt; cases hnt
          · exact R_cells hr (.inr h)
        · exact R_cells hr (.inl h)
      obtain ⟨h1, h2⟩ := push_sound (X := noTake .no) H (v := ⟨u, y⟩) (et := U) hc
      have hrun : (execOp a.eval o).run P w = .ok (.value (.pointer (some ⟨w.heap.size, 0, none⟩))) (w.alloc (.cells (a.eval x).cells U)) := by
        unfold execOp; rw [ho]
        simp only [Instr.box, Sem.run_bind, run_newVar, Result.andThen_ok]; rfl
      exact yields_value hrun ⟨_, .no, _, I, _, ρ, h, h1, h2, trivial, fun p e => by cases e⟩

theorem alloc_sound (hE : EnvOK P E) {K : AV → Cap → St → Option T} {r : T} {U : Nat} (H : RelI c I μ ρ s a w) (ho : o.op = .alloc U)
    (h : (match E.ty U with
    | some .top => K ⟨.box s.boxes.length 0, ()⟩ .no (pushBox s .top)
    | some t => match t.zero with
      | some z => K ⟨.box s.boxes.length 0, ()⟩ .no (pushBox s ⟨t, z⟩)
      | none => none
    | none => none) = some r) : Yields P o a w (Out K r c a o.dst) := by
  have fin : ∀ (v : AV) (z : Value) (i : TypeInfo), P.info? U = some i → i.zero = some z → R I w μ v.ty true v.x z.cells.toList → K ⟨.box s.boxes.length 0, ()⟩ .no (pushBox s v) = some r → Yields P o a w (Out K r c a o.dst) := by
    intro v z i hi hz hr h
    obtain ⟨h1, h2⟩ := push_sound (X := noTake .no) H (v := v) (et := U) hr
    have hrun : (execOp a.eval o).run P w = .ok (.value (.pointer (some ⟨w.heap.size, 0, none⟩))) (w.alloc (.cells z.cells U)) := by
      unfold execOp; rw [ho]
      simp only [Instr.alloc, Sem.run_bind, run_zeroValue hi hz, run_newVar, Result.andThen_ok]; rfl
    exact yields_value hrun ⟨_, .no, _, I, _, ρ, h, h1, h2, trivial, fun p e => by cases e⟩
  cases hU : E.ty U with
  | none => rw [hU] at h; cases h
  | some t =>
    rw [hU] at h
    obtain ⟨i, z, hi, hs, hz, htop, hzero⟩ := (hE.tys U _ hU).info
    by_cases ht : t = .top
    · subst ht
      refine fin .top z i hi hz ?_ h
      have : z.cells.toList = [z] := by have := htop rfl; cases z <;> first | rfl | cases this
      rw [this]; exact ⟨_, rfl⟩
    · have h' : (match t.zero with
      | some z => K ⟨.box s.boxes.length 0, ()⟩ .no (pushBox s ⟨t, z⟩)
      | none => none) = some r := by
        cases t <;> first | exact absurd rfl ht | exact h
      cases hzz : t.zero with
      | none => rw [hzz] at h'; cases h'
      | some zz =>
        rw [hzz] at h'
        refine fin ⟨t, zz⟩ z i hi hz ?_ h'
        have hr := hzero zz hzz I w μ
        have := (hE.tys U _ hU).ok
        unfold okTy at this
        simp only [Bool.or_eq_true] at this
        rcases this with (h | h) | h
        · exact R_cells hr (.inl h)
        · cases t <;> simp [Ty.isTop] at h; exact absurd rfl ht
        · exact R_cells hr (.inr h)

end Go.Ev
