import Derived.Test.YtggobapgdflchaaEvMem3
set_option linter.unusedVariables false
namespace Go.Ev
open Go.RowKit
variable {P : Program} {E : Env} {I I' : Im} {w w' : World} {μ μ' : List Nat} {c : Ctx} {ρ : Nat → Rm} {s : St} {a : Act} {o : Oper} {T : Type} {bs bs' : List AV}

/-- memory has grown behind what there was, and some of it is fixed -/
theorem grown_sound {X : Nat → Prop} (H : RelI c I μ ρ s a w) (hb : Below w.heap.size w w') (N : Im) (hN : ∀ b o, N b o → w.heap.size ≤ b ∧ b < w'.heap.size) :
    RelX X c (fun b o => I b o ∨ N b o) μ ρ s a w' ∧ Grow I w μ (fun b o => I b o ∨ N b o) w' μ := by
  have g : Grow I w μ (fun b o => I b o ∨ N b o) w' μ := Grow.below hb H.mem.imlt (fun _ _ h => .inl h)
  exact ⟨RelX.step H (H.mem.grown hb N hN) g (fun p hp _ => (H.rooms p hp trivial).grown hb N (fun b o h => (hN b o h).1)), g⟩

/-- a part of a row replaced -/
theorem RAll_set (t : Ty) {vs : List Value} {y : t.den} (hv : R I w μ t true y vs) : ∀ (l : List t.den) (cs : List Value) (i : Nat), RAll (R I w μ t true) l cs → i < l.length →
    ∃ c1 c2 c3, cs = c1 ++ c2 ++ c3 ∧ c1.length = i * t.csize ∧ c2.length = vs.length ∧ RAll (R I w μ t true) (setN l i y) (c1 ++ vs ++ c3)
  | [], _, _, _, h => by simp at h
  | x :: l, cs, 0, ⟨c1, c2, e, h1, h2⟩, _ => ⟨[], c1, c2, by rw [e]; rfl, by simp, by rw [R.size _ _ _ h1, R.size _ _ _ hv], vs, c2, by simp, hv, h2⟩
  | x :: l, cs, i + 1, ⟨c1, c2, e, h1, h2⟩, h => by
    obtain ⟨d1, d2, d3, g1, g2, g3, g4⟩ := RAll_set t hv l c2 i h2 (by simpa using h)
    refine ⟨c1 ++ d1, d2, d3, by rw [e, g1]; simp, by rw [List.length_append, R.size _ _ _ h1, g2, Nat.add_mul]; omega, g3, c1, d1 ++ vs ++ d3, by simp, h1, g4⟩

theorem setElems_sound (hE : EnvOK P E) (H : RelI c I μ ρ s a w) {t : Ty} (hk : okTy t = true) : ∀ (l : List (Nat × Operand)) (x y : List t.den) (cells : Array Value),
    setElems s t x l = some y → RAll (R I w μ t true) x cells.toList → ∃ r, Instr.fill (fun i => some (i * t.csize, t.csize)) cells (l.map fun p => (p.1, a.eval p.2)) = some r ∧ RAll (R I w μ t true) y r.toList ∧ y.length = x.length
  | [], x, y, cells, h, hr => by injection h with h; subst h; exact ⟨cells, rfl, hr, rfl⟩
  | (i, op) :: l, x, y, cells, h, hr => by
    unfold setElems at h
    cases ho : opd s (some t) op with
    | none => rw [ho] at h; cases h
    | some v =>
      rw [ho] at h
      simp only at h
      cases hc : castTo t v with
      | none => rw [hc] at h; cases h
      | some z =>
        rw [hc] at h
        simp only at h
        cases hb : (Nat.blt i x.length && !t.isTop) with
        | false => rw [hb] at h; cases h
        | true =>
          rw [hb] at h
          simp only [cond_true] at h
          simp only [Bool.and_eq_true, Nat.blt_eq, Bool.not_eq_true'] at hb
          have hv := opd_sound H ho
          have := castTo_some hc
          subst this
          have hvc := R_okcells hv hk hb.2
          obtain ⟨c1, c2, c3, e1, e2, e3, e4⟩ := RAll_set t hvc x _ i hr hb.1
          have hsz : (a.eval op).cells.size = t.csize := by
            have := R.size _ _ _ hvc
            rwa [Array.length_toList] at this
          obtain ⟨r, hr1, hr2, hr3⟩ := setElems_sound hE H hk l (setN x i z) y (c1 ++ (a.eval op).cells.toList ++ c3).toArray h (by simpa using e4)
          refine ⟨r, ?_, hr2, by rw [hr3, setN_length]⟩
          rw [List.map_cons, fill_cons (off := i * t.csize) (c1 := c1) (c2 := c2) (c3 := c3) (by rw [hsz]) e1 e2 (by rw [e3, Array.length_toList])]
          exact hr1

theorem zeros_RAll (t : Ty) (z : t.den) (zc : Array Value) (hz : R I w μ t true z zc.toList) (n : Nat) : RAll (R I w μ t true) (List.replicate n z) ((Array.range (n * t.csize)).map (zc[· % zc.size]!)).toList := by
  have hl : zc.size = t.csize := by have := R.size _ _ _ hz; rwa [Array.length_toList] at this
  have key : ∀ n, ((Array.range (n * t.csize)).map (zc[· % zc.size]!)).toList = (List.replicate n zc.toList).flatten := by
    intro n
    rw [Array.toList_map, Array.toList_range]
    induction n with
    | zero => simp
    | succ n ih =>
      rw [List.replicate_succ, List.flatten_cons, ← ih, Nat.add_mul, Nat.one_mul, Nat.add_comm, List.range_add, List.map_append]
      congr 1
      · apply List.ext_getElem
        · simp [hl]
        · intro k h1 h2
          simp at h1
          have hk : k < zc.size := by omega
          simp [Nat.mod_eq_of_lt hk, hk]
      · rw [List.map_map]
        apply List.map_congr_left
        intro k _
        simp [hl, Nat.add_mod_left]
  rw [key]
  induction n with
  | zero => rfl
  | succ n ih => exact ⟨zc.toList, (List.replicate n zc.toList).flatten, by rw [List.replicate_succ, List.flatten_cons], hz, ih⟩

theorem buildSlice_sound (hE : EnvOK P E) {K : AV → Cap → St → Option T} {r : T} {U len : Nat} {parts : Array (Nat × Operand)} (H : RelI c I μ ρ s a w) (ho : o.op = .buildSlice U len parts)
    (h : (match E.ty U with
    | some (.sl t) => match t.zero with
      | some z => match setElems s t (List.replicate len z) parts.toList with
        | some y => bif Nat.ble (len * t.csize) 1000 then K ⟨.sl t, y⟩ .fresh s else none
        | none => none
      | none => none
    | _ => none) = some r) : Yields P o a w (Out K r c a o.dst) := by
  cases hU : E.ty U with
  | none => rw [hU] at h; cases h
  | some st =>
    rw [hU] at h
    cases st with
    | sl t =>
      simp only at h
      cases hz : t.zero with
      | none => rw [hz] at h; cases h
      | some z =>
        rw [hz] at h
        simp only at h
        cases hp : setElems s t (List.replicate len z) parts.toList with
        | none => rw [hp] at h; cases h
        | some y =>
          rw [hp] at h
          simp only at h
          cases hle : Nat.ble (len * t.csize) 1000 with
          | false => rw [hle] at h; cases h
          | true =>
            rw [hle] at h
            simp only [cond_true] at h
            have hle : len * t.csize ≤ 1000 := Nat.le_of_ble_eq_true hle
            obtain ⟨e, hue, hte⟩ := (hE.tys _ _ hU).sl t rfl
            have hty := hE.tys e _ hte
            obtain ⟨ie, zv, hie, hse, hzv, _, hzero⟩ := hty.info
            have hzr := hzero z hz I w μ
            have hnt : t.isTop = false := by cases t <;> first | rfl | cases hz
            have hzc := R_okcells hzr hty.ok hnt
            obtain ⟨rr, k1, k2, k3⟩ := setElems_sound hE H hty.ok parts.toList _ y _ hp (zeros_RAll t z zv.cells hzc len)
            have hlen : y.length = len := by rw [k3, List.length_replicate]
            have hrr : rr.size = len * t.csize := by have := RAll_size t _ _ k2; rw [Array.length_toList, hlen] at this; exact this
            have hfill : Instr.fill (fun i => some (i * ie.size, ie.size)) ((Array.range (len * ie.size)).map (zv.cells[· % zv.cells.size]!)) (parts.map fun (i, x) => (i, a.eval x)).toList = some rr := by
              rw [hse, Array.toList_map]; exact k1
            have hrun : (execOp a.eval o).run P w = .ok (.value (.slice (some ⟨w.heap.size, 0, none⟩) len len)) (w.alloc (.cells rr e)) := by
              unfold execOp; rw [ho]
              simp only [Sem.run_bind, Instr.buildSlice, run_underlying hue, Result.andThen_ok, run_sizeOf hie, Sem.run_ite]
              rw [if_neg (by rw [hse]; omega)]
              by_cases h0 : len * ie.size = 0
              · rw [if_pos h0]
                have hf0 : Instr.fill (fun i => some (i * ie.size, ie.size)) ((Array.range (len * ie.size)).map ((#[] : Array Value)[· % (#[] : Array Value).size]!)) (parts.map fun (i, x) => (i, a.eval x)).toList = some rr := by
                  rw [h0] at hfill ⊢
                  have r0 : ∀ f : Nat → Value, (Array.range 0).map f = #[] := fun f => by simp
                  rw [r0] at hfill ⊢; exact hfill
                simp only [Sem.run_pure, Result.andThen_ok, hf0, newRow, Sem.run_bind]; rfl
              · rw [if_neg h0]
                simp only [Sem.run_bind, run_zeroValue hie hzv, Sem.run_pure, Result.andThen_ok, hfill, newRow]; rfl
            have hb := below_refl_alloc (w := w) (.cells rr e)
            obtain ⟨g1, g2⟩ := grown_sound (X := noTake .fresh) H hb (fun b _ => b = w.heap.size) (fun b o h => by subst h; simp)
            have hcells : cellsAt (fun b o => I b o ∨ b = w.heap.size) (w.alloc (.cells rr e)) ⟨w.heap.size, 0, none⟩ rr.toList := by
              intro j v hj
              rw [add_lit]
              refine ⟨?_, .inr rfl⟩
              simp only [World.cell?, alloc_new, Nat.zero_add]
              simpa using hj
            refine yields_value hrun ⟨⟨.sl t, y⟩, .fresh, s, _, μ, ρ, h, g1, ⟨some ⟨w.heap.size, 0, none⟩, len, len, rr.toList, rfl, hlen.symm, Nat.le_refl _, RAll.mono (fun (x : t.den) cs (hx : R I w μ t true x cs) => hx.grow g2) y rr.toList k2, (fun h => by cases h), (fun ad had => by cases had; exact hcells)⟩, ?_, fun p e => by cases e⟩
            intro t' ht'
            cases ht'
            exact ⟨⟨some ⟨w.heap.size, 0, none⟩, len, len, t.csize⟩, rfl, rfl, .inl rfl, fun q _ => .inl rfl⟩
    | _ => simp only at h; cases h
end Go.Ev
