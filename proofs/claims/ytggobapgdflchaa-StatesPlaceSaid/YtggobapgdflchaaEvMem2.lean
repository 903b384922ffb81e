import Derived.Test.YtggobapgdflchaaEvMem
set_option linter.unusedVariables false
namespace Go.Ev
open Go.RowKit
variable {P : Program} {E : Env} {I I' : Im} {w w' : World} {μ μ' : List Nat} {c : Ctx} {ρ : Nat → Rm} {s : St} {a : Act} {o : Oper} {T : Type} {bs bs' : List AV}

theorem below_setRow {B g : Nat} {w0 : World} {arr : Array Value} (h : Below B w0 w) (hg : B ≤ g) : Below B w0 (w.setRow g arr) :=
  h.trans ⟨rfl, rfl, rfl, by simp, fun k hk => setRow_other w g k arr (by omega)⟩

theorem grow_setRow {g : Nat} {cur arr : Array Value} {et : Nat} (hg : w.heap[g]? = some (.cells cur et (0, 0))) (hI : ∀ o, I g o → arr[o]? = cur[o]?) (N : Im) :
    Grow I w μ (fun b o => I b o ∨ N b o) (w.setRow g arr) μ := by
  refine ⟨fun _ _ h => .inl h, ?_, fun _ _ h => h⟩
  intro ad h
  by_cases e : ad.block = g
  · simp only [World.cell?, e, hg, setRow_heap w g cur arr et (0, 0) hg]
    rw [e] at h
    simp [hI _ h]
  · simp only [World.cell?, setRow_other w g ad.block arr e]

/-- a box is written -/
theorem MemI.store (H : MemI c I μ bs w) {i g : Nat} {cur arr : Array Value} {et : Nat} {v : AV} (hi : μ[i]? = some g) (hg : w.heap[g]? = some (.cells cur et (0, 0))) (hI : ∀ o, ¬ I g o)
    (hv : R I w μ v.ty true v.x arr.toList) : MemI c I μ (setN bs i v) (w.setRow g arr) ∧ Grow I w μ I (w.setRow g arr) μ := by
  have hm := List.mem_of_getElem? hi
  have gg := grow_setRow (I := I) (μ := μ) (arr := arr) hg (fun o h => absurd h (hI o)) (fun _ _ => False)
  have e : (fun b o => I b o ∨ False) = I := by funext b o; simp
  rw [e] at gg
  refine ⟨⟨below_setRow H.below (H.mu g hm).1, H.base, H.grow.trans gg, by simpa using H.sizeS, by rw [setN_length, H.blen], ?_, H.nodup, by simpa using H.mu, H.munew, by simpa using H.imlt, ?_⟩, gg⟩
  · intro j v' b hv' hmb
    rw [setN_get] at hv'
    split at hv'
    · rename_i hj
      cases hv'
      obtain ⟨rfl, _⟩ := hj
      rw [hi] at hmb; cases hmb
      exact .inr ⟨arr, et, setRow_heap w g cur arr et (0, 0) hg, hv.grow gg, hI⟩
    · rename_i hj
      have hne : b ≠ g := by
        rintro rfl
        have : j = i := by
          exact (List.getElem?_inj (List.getElem?_eq_some_iff.1 hmb).1 H.nodup).1 (hmb.trans hi.symm)
        subst this
        refine hj ⟨rfl, ?_⟩
        rw [H.blen]; exact (List.getElem?_eq_some_iff.1 hi).1
      rcases H.boxes j v' b hv' hmb with h | ⟨cs, et', h1, h2, h3⟩
      · exact .inl h
      · exact .inr ⟨cs, et', by rw [setRow_other _ _ _ _ hne]; exact h1, h2.grow gg, h3⟩
  · intro b hb
    obtain ⟨h1, h2, h3, h4⟩ := H.fr b hb
    exact ⟨h1, by rw [setRow_other _ _ _ _ (fun e => h3 (by rw [e]; exact hm))]; exact h2, h3, h4⟩

theorem Room.setRow {B : Nat} {F : Nat → Prop} {r : Rm} {g : Nat} {arr : Array Value} (hr : Room B F I μ w r) (N : Im) (hN : ∀ b o, N b o → b = g) (hne : ∀ ad, r.a = some ad → r.n ≠ r.cap → ad.block ≠ g) :
    Room B F (fun b o => I b o ∨ N b o) μ (w.setRow g arr) r := by
  by_cases hn : r.n = r.cap
  · exact .inl hn
  rcases hr with h | ⟨ad, cs, et, h1, h2, h3, h4, h5, h6, h7, h8, h9⟩
  · exact .inl h
  · have := hne ad h1 hn
    refine .inr ⟨ad, cs, et, h1, h2, h3, by rw [setRow_other _ _ _ _ this]; exact h4, h5, h6, h7, h8, ?_⟩
    rintro o ho (k | k)
    · exact h9 o ho k
    · exact this (hN _ _ k)

theorem run_storeVar {U : Nat} {i : TypeInfo} {g off : Nat} {cur : Array Value} {et : Nat} {u : Value} (hi : P.info? U = some i) (hs : u.cells.size = i.size) (hg : w.heap[g]? = some (.cells cur et (0, 0)))
    (hl : off + u.cells.size ≤ cur.size) (h1 : ∀ v, v ∈ u.cells.toList → v.oneCell' = true) :
    (storeVar U ⟨g, off, none⟩ u).run P w = .ok () (w.setRow g (cur.toList.take off ++ u.cells.toList ++ cur.toList.drop (off + u.cells.size)).toArray) := by
  unfold storeVar
  have := run_storeCells_at P g off et u.cells.toList 0 cur w hg (by simpa using hl) h1
  simp only [Nat.add_zero, Array.length_toList] at this
  simp only [Sem.run_bind, run_sizeOf hi, Result.andThen_ok, hs, ne_eq, not_true_eq_false, if_false, Sem.run_ite]
  rw [← hs]
  simpa using this

theorem split_eq {c1 c2 c3 d1 d2 d3 : List Value} (h : c1 ++ c2 ++ c3 = d1 ++ d2 ++ d3) (h1 : c1.length = d1.length) (h2 : c2.length = d2.length) : c1 = d1 ∧ c2 = d2 ∧ c3 = d3 := by
  rw [List.append_assoc, List.append_assoc] at h
  obtain ⟨e1, h⟩ := List.append_inj h h1
  obtain ⟨e2, h⟩ := List.append_inj h h2
  exact ⟨e1, e2, h⟩

theorem setOffs_spec {v : AV} {us : List Value} (hv : R I w μ v.ty true v.x us) (j : Nat) : ∀ (offs : List Nat) (x : AV) (n : Nat) (y : AV) (cs : List Value),
    setOffs v j x offs n = some y → R I w μ x.ty true x.x cs →
      ((j < n ∨ n + offs.length ≤ j) → R I w μ y.ty true y.x cs) ∧
      (∀ off, n ≤ j → offs[j - n]? = some off → ∃ c1 c2 c3, cs = c1 ++ c2 ++ c3 ∧ c1.length = off ∧ c2.length = us.length ∧ R I w μ y.ty true y.x (c1 ++ us ++ c3))
  | [], x, n, y, cs, h, hr => by
    injection h with h; subst h
    exact ⟨fun _ => hr, fun off _ ho => by simp at ho⟩
  | o1 :: ol, x, n, y, cs, h, hr => by
    unfold setOffs at h
    cases hg : getOff v.ty x.ty x.x o1 with
    | none => rw [hg] at h; cases h
    | some u1 =>
      rw [hg] at h
      simp only at h
      cases hc : castTo v.ty u1 with
      | none => rw [hc] at h; cases h
      | some y1 =>
        rw [hc] at h
        simp only at h
        cases hs : setOff ⟨v.ty, bif Nat.beq j n then v.x else y1⟩ x.ty x.x o1 with
        | none => rw [hs] at h; cases h
        | some z =>
          rw [hs] at h
          simp only at h
          have hu1 := castTo_some hc
          subst hu1
          obtain ⟨_, c1, c2, c3, e1, e2, e3⟩ := getOff_sound v.ty x.ty x.x cs o1 _ hr hg
          by_cases hj : j = n
          · subst hj
            rw [show Nat.beq j j = true from Nat.beq_refl j, cond_true] at hs
            obtain ⟨d1, d2, d3, f1, f2, f3, f4⟩ := setOff_sound ⟨v.ty, v.x⟩ us hv x.ty x.x z cs o1 hr hs
            have ih := setOffs_spec hv j ol ⟨x.ty, z⟩ (j + 1) y (d1 ++ us ++ d3) h f4
            refine ⟨fun hh => ?_, fun off _ ho => ?_⟩
            · rcases hh with hh | hh
              · omega
              · simp at hh; omega
            · simp at ho; subst ho
              exact ⟨d1, d2, d3, f1, f2, f3, ih.1 (.inl (by omega))⟩
          · rw [show Nat.beq j n = false from by rw [Bool.eq_false_iff]; exact fun h' => hj (Nat.eq_of_beq_eq_true h'), cond_false] at hs
            obtain ⟨d1, d2, d3, f1, f2, f3, f4⟩ := setOff_sound ⟨v.ty, y1⟩ c2 e3 x.ty x.x z cs o1 hr hs
            obtain ⟨k1, k2, k3⟩ := split_eq (e1.symm.trans f1) (by omega) (by omega)
            subst k1; subst k2; subst k3
            rw [← e1] at f4
            have ih := setOffs_spec hv j ol ⟨x.ty, z⟩ (n + 1) y cs h f4
            refine ⟨fun hh => ih.1 ?_, fun off hle ho => ih.2 off (by omega) ?_⟩
            · rcases hh with hh | hh
              · exact .inl (by omega)
              · simp at hh; exact .inr (by omega)
            · have : j - n = (j - (n + 1)) + 1 := by omega
              rw [this] at ho
              simpa using ho

theorem setOffs_undef {x : AV} (h : x.ty = .undef) (v : AV) (j : Nat) (o : Nat) (l : List Nat) (n : Nat) : setOffs v j x (o :: l) n = none := by
  unfold setOffs; rw [getOff_undef _ _ _ h]

theorem not_top {t : Ty} (h : t.isTop = true) (hok : t.cellok = true) : False := by cases t <;> simp_all [Ty.isTop, Ty.cellok]
theorem leaf_size {t : Ty} (h : t.leaf = true) : t.csize = 1 := by cases t <;> simp_all [Ty.leaf, Ty.csize]

theorem storeK_sound (hE : EnvOK P E) (H : RelI c I μ ρ s a w) {U : Nat} {p v : AV} {up u : Value} {K : St → Option T} {r : T} (hp : R I w μ p.ty false p.x [up]) (hv : R I w μ v.ty false v.x [u])
    (h : storeK E U s p v K = some r) (X : Nat → Prop) : ∃ s' w', (Instr.storeAt U up u).run P w = .ok () w' ∧ RelX X c I μ ρ s' a w' ∧ K s' = some r := by
  unfold storeK at h
  cases hU : E.ty U with
  | none => rw [hU] at h; cases h
  | some want =>
    rw [hU] at h
    simp only at h
    cases hb : ((decide (want = v.ty) || (decide (want = .top) && v.ty.leaf)) && v.ty.cellok) with
    | false => rw [hb] at h; cases h
    | true =>
      rw [hb] at h
      simp only [Bool.not_true, cond_false] at h
      simp only [Bool.and_eq_true, Bool.or_eq_true, decide_eq_true_eq] at hb
      obtain ⟨hty, hok⟩ := hb
      obtain ⟨i, _, hi, hsz, _⟩ := (hE.tys U _ hU).info
      have hkind : v.ty.leaf = true ∨ v.ty.isSt = true := by
        rcases hty with e | ⟨_, e⟩
        · have := (hE.tys U _ hU).ok
          rw [e] at this
          unfold okTy at this
          simp only [Bool.or_eq_true] at this
          rcases this with (h | h) | h
          · exact .inl h
          · exact (not_top h hok).elim
          · exact .inr h
        · exact .inl e
      have hcell := R_cells hv hkind
      have hones := R_ones v.ty v.x _ hok hcell
      have hsize : u.cells.size = i.size := by
        have := R.size _ _ _ hcell
        rw [Array.length_toList] at this
        rw [this, hsz]
        rcases hty with e | ⟨e, e2⟩
        · rw [e]
        · rw [e]; exact leaf_size e2
      -- what becomes of the box
      have fin : ∀ (k g off : Nat) (cur : Array Value) (et : Nat) (c1 c2 c3 : List Value) (y : AV), μ[k]? = some g → w.heap[g]? = some (.cells cur et (0, 0)) → (∀ o, ¬ I g o) → cur.toList = c1 ++ c2 ++ c3 → c1.length = off →
          c2.length = u.cells.toList.length → R I w μ y.ty true y.x (c1 ++ u.cells.toList ++ c3) → ∃ w', (Instr.storeAt U (.pointer (some ⟨g, off, none⟩)) u).run P w = .ok () w' ∧ RelX X c I μ ρ { s with boxes := setN s.boxes k y } a w' := by
        intro k g off cur et c1 c2 c3 y hk hg hI e1 e2 e3 hy
        have hlen : cur.size = c1.length + c2.length + c3.length := by rw [← Array.length_toList, e1]; simp only [List.length_append]
        have hrun := run_storeVar (P := P) (w := w) (off := off) hi hsize hg (by have e3' : c2.length = u.cells.size := e3.trans Array.length_toList; omega) hones
        have earr : (cur.toList.take off ++ u.cells.toList ++ cur.toList.drop (off + u.cells.size)) = c1 ++ u.cells.toList ++ c3 := by
          rw [e1, ← e2]
          have t1 : (c1 ++ c2 ++ c3).take c1.length = c1 := by rw [List.append_assoc, List.take_left]
          have t2 : (c1 ++ c2 ++ c3).drop (c1.length + u.cells.size) = c3 := by
            rw [show u.cells.size = c2.length by rw [e3, Array.length_toList], ← List.length_append, List.drop_left]
          rw [t1, t2]
        rw [earr] at hrun
        obtain ⟨m1, g1⟩ := H.mem.store (v := y) (arr := (c1 ++ u.cells.toList ++ c3).toArray) hk hg hI (by simpa using hy)
        refine ⟨_, ?_, RelX.step H m1 g1 ?_⟩
        · unfold Instr.storeAt
          simp only [Instr.sureAddr, Sem.run_bind, Sem.run_pure, Result.andThen_ok]
          exact hrun
        · intro p hp _
          have := (H.rooms p hp trivial).setRow (g := g) (arr := (c1 ++ u.cells.toList ++ c3).toArray) (fun _ _ => False) (fun _ _ h => h.elim) ?_
          · have e : (fun b o => I b o ∨ False) = I := by funext b o; simp
            rwa [e] at this
          · intro ad ha hn e
            rcases H.rooms p hp trivial with h | ⟨ad', cs', et', h1, _, _, _, _, _, h7, _⟩
            · exact hn h
            · rw [ha] at h1; cases h1
              exact h7 (by rw [e]; exact List.mem_of_getElem? hk)
      obtain ⟨pt, px⟩ := p
      cases pt with
      | box k off =>
        simp only at h
        obtain ⟨g, hg, rfl⟩ := ptr_box hp
        obtain ⟨cv, hcv, hn, hcont⟩ := box_content H.mem hg
        rw [hn] at h
        cases hs : setBox v cv off with
        | none => rw [hs] at h; cases h
        | some y =>
          rw [hs] at h
          simp only at h
          unfold setBox at hs
          rcases hcont with hund | ⟨cur, et, hh, hr, hI⟩
          · exfalso
            obtain ⟨ct, cx⟩ := cv
            simp only at hund; subst hund
            split at hs
            · rename_i hc; simp [Ty.leaf, Ty.isTop] at hc
            · cases hso : setOff v .undef cx off with
              | none => rw [hso] at hs; cases hs
              | some _ =>
                have : setOff v .undef cx off = (if off = 0 ∧ Ty.undef.leaf = true then castTo .undef v else none) := rfl
                rw [this, if_neg (by simp [Ty.leaf])] at hso; cases hso
          · split at hs
            · rename_i hc
              injection hs with hs; subst hs
              obtain ⟨h0, hcl, hvl⟩ := hc
              have hone : ∃ v1, cur.toList = [v1] := by
                simp only [Bool.or_eq_true] at hcl
                rcases hcl with h | h
                · obtain ⟨v1, e, _⟩ := R.leaf _ h _ _ _ hr; exact ⟨v1, e⟩
                · cases hct : cv.ty <;> rw [hct] at h <;> simp [Ty.isTop] at h
                  have := R.size _ _ _ hr
                  rw [hct] at this
                  match hcl2 : cur.toList, this with
                  | [v1], _ => exact ⟨v1, rfl⟩
              obtain ⟨v1, hone⟩ := hone
              obtain ⟨u1, hu1, _⟩ := R.leaf _ hvl _ _ _ hcell
              obtain ⟨w', g1, g2⟩ := fin k g off cur et [] [v1] [] v hg hh hI (by simpa using hone) (by simp [h0]) (by rw [hu1]; rfl) (by simpa using hcell)
              exact ⟨_, w', g1, g2, h⟩
            · cases hso : setOff v cv.ty cv.x off with
              | none => rw [hso] at hs; cases hs
              | some z =>
                rw [hso] at hs
                simp only [Option.map_some] at hs
                injection hs with hs; subst hs
                obtain ⟨c1, c2, c3, e1, e2, e3, e4⟩ := setOff_sound v _ hcell _ _ _ _ _ hr hso
                obtain ⟨w', g1, g2⟩ := fin k g off cur et c1 c2 c3 ⟨cv.ty, z⟩ hg hh hI e1 e2 e3 e4
                exact ⟨_, w', g1, g2, h⟩
      | boxv k offs =>
        simp only at h
        obtain ⟨g, off, hg, hoff, rfl⟩ := ptr_boxv hp
        obtain ⟨cv, hcv, hn, hcont⟩ := box_content H.mem hg
        rw [hn] at h
        cases hs : setOffs v px cv offs 0 with
        | none => rw [hs] at h; cases h
        | some y =>
          rw [hs] at h
          simp only at h
          rcases hcont with hund | ⟨cur, et, hh, hr, hI⟩
          · exfalso
            cases offs with
            | nil =>
              have k0 : ∀ j : Nat, ([] : List Nat)[j]? = some off → False := fun j hj => by simp at hj
              exact k0 _ hoff
            | cons o1 ol =>
              exact absurd ((setOffs_undef hund v px o1 ol 0).symm.trans hs) (by simp)
          · obtain ⟨c1, c2, c3, e1, e2, e3, e4⟩ := (setOffs_spec hcell px offs cv 0 y cur.toList hs hr).2 off (Nat.zero_le _) hoff
            obtain ⟨w', g1, g2⟩ := fin k g off cur et c1 c2 c3 y hg hh hI e1 e2 e3 e4
            exact ⟨_, w', g1, g2, h⟩
      | _ => cases h

theorem store_sound (hE : EnvOK P E) {K : AV → Cap → St → Option T} {r : T} {U : Nat} {x y : Operand} (H : RelI c I μ ρ s a w) (ho : o.op = .store U x y)
    (h : (match opd s none x, opd s (E.ty U) y with | some p, some v => storeK E U s p v fun s' => K .undef .no s' | _, _ => none) = some r) : Yields P o a w (Out K r c a o.dst) := by
  cases hx : opd s none x with
  | none => rw [hx] at h; cases h
  | some p =>
  cases hy : opd s (E.ty U) y with
  | none => rw [hx, hy] at h; cases h
  | some v =>
    rw [hx, hy] at h
    obtain ⟨s', w', g1, g2, g3⟩ := storeK_sound hE H (opd_sound H hx) (opd_sound H hy) h (noTake .no)
    have hrun : (execOp a.eval o).run P w = .ok .skip w' := by
      unfold execOp; rw [ho]
      simp only [Sem.run_bind, g1, Result.andThen_ok]; rfl
    unfold Yields
    rw [hrun]
    exact ⟨.undef, .no, s', I, μ, ρ, g3, g2, rfl, trivial, fun p e => by cases e⟩
end Go.Ev
