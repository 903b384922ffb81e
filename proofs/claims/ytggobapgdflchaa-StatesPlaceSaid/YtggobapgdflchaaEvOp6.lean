import Derived.Test.YtggobapgdflchaaEvOp5
set_option linter.unusedVariables false
namespace Go.Ev
open Go.RowKit
variable {P : Program} {E : Env} {I : Im} {w : World} {μ : List Nat} {c : Ctx} {ρ : Nat → Rm} {s : St} {a : Act} {o : Oper} {T : Type}

theorem run_indexAt_arr {U : Nat} {len e : Nat} {i : TypeInfo} {ad : Addr} {k : IntKind} {n : Int} (hU : P.underlying U = some (.array len e)) (hi : P.info? e = some i) (h0 : 0 ≤ n) (h1 : n < len) :
    (Instr.indexAt U (.pointer (some ad)) (.int k n)).run P w = .ok (.pointer (some (ad.add (n.toNat * i.size)))) w := by
  unfold Instr.indexAt
  simp only [asIntOf, Instr.sureAddr, Sem.run_bind, Sem.run_pure, Result.andThen_ok, run_underlying hU, run_sizeOf hi, Sem.run_ite, h0, h1, and_self, if_true]

theorem run_indexAt_sl {U : Nat} {len cap e : Nat} {i : TypeInfo} {ad : Addr} {k : IntKind} {n : Int} (hU : P.underlying U = some (.slice e)) (hi : P.info? e = some i) (h0 : 0 ≤ n) (h1 : n < len) :
    (Instr.indexAt U (.slice (some ad) len cap) (.int k n)).run P w = .ok (.pointer (some (ad.add (n.toNat * i.size)))) w := by
  unfold Instr.indexAt
  simp only [asIntOf, Instr.sureAddr, Sem.run_bind, Sem.run_pure, Result.andThen_ok, run_underlying hU, run_sizeOf hi, Sem.run_ite, h0, h1, and_self, if_true]

theorem idx_some {α : Type} {l : List α} {n : Int} {y : α} (h : idx l n = some y) : 0 ≤ n ∧ n < l.length ∧ l[n.toNat]? = some y := by
  unfold idx at h
  split at h
  · rename_i h0
    have := (List.getElem?_eq_some_iff.1 h).1
    exact ⟨h0, by omega, h⟩
  · cases h

theorem inB_true {n : Int} {l : Nat} (h : inB n l = true) : 0 ≤ n ∧ n < l := by
  unfold inB at h
  simpa using h

theorem range0_len : ∀ k, (range0 k).length = k := by intro k; induction k with | zero => rfl | succ k ih => unfold range0; simp [ih]
theorem range0_get (n m : Nat) (h : m < n) : (range0 n)[m]? = some m := by
  induction n with
  | zero => omega
  | succ n ih =>
    unfold range0
    by_cases e : m < n
    · rw [List.getElem?_append_left (by rw [range0_len]; exact e)]
      exact ih e
    · have hm : m = n := by omega
      subst hm
      rw [List.getElem?_append_right (by rw [range0_len]; omega), range0_len, Nat.sub_self]; rfl

theorem arr_ty (hE : EnvOK P E) {U : Nat} {t : Ty} (hU : E.ty U = some (.st t)) (ha : U ∈ E.arrs) :
    ∃ e, P.underlying U = some (.array (chainLen t) e) ∧ E.ty e = some (chainHd t) ∧ 0 < chainLen t ∧ ∀ f, f < chainLen t → fieldTy t f = some (chainHd t) ∧ fieldOff t f = f * (chainHd t).csize := by
  obtain ⟨n, e, hn⟩ := hE.arrs U ha
  rcases (hE.tys U _ hU).st t rfl with ⟨fs, hfs, _⟩ | ⟨n', e', h1, h2, h3, h4, h5⟩
  · rw [hfs] at hn; cases hn
  · subst h2; exact ⟨e', h1, h4, h3, h5⟩

theorem chainList_pr (e a b : Ty) (x : (Ty.pr a b).den) : chainList e (.pr a b) x = (match castTo e ⟨a, x.1⟩, chainList e b x.2 with
    | some y, some l => some (y :: l)
    | _, _ => none) := rfl
theorem chainList_other (e t : Ty) (h : isPr t = false) (hu : t ≠ .unit) (x : t.den) : chainList e t x = (match castTo e ⟨t, x⟩ with
    | some y => some [y]
    | none => none) := by
  cases t <;> first | exact absurd rfl hu | rfl | (exact absurd h (by simp [isPr]))

/-- a chain of one type as a list -/
theorem chainList_spec (e : Ty) : ∀ (t : Ty) (x : t.den) (l : List e.den) (cs : List Value), chainList e t x = some l → R I w μ t true x cs → RAll (R I w μ e true) l cs ∧ l.length = chainLen t := by
  intro t
  induction t with
  | pr a b iha ihb =>
    rintro x l cs h ⟨c1, c2, rfl, h1, h2, _⟩
    rw [chainList_pr] at h
    cases hc : castTo e ⟨a, x.1⟩ with
    | none => rw [hc] at h; cases h
    | some y =>
      cases hl : chainList e b x.2 with
      | none => rw [hc, hl] at h; cases h
      | some m =>
        rw [hc, hl] at h
        simp only at h
        injection h with h; subst h
        obtain ⟨g1, g2⟩ := ihb _ _ _ hl h2
        have k := castTo_some hc
        refine ⟨⟨c1, c2, rfl, ?_, g1⟩, by show _ = chainLen b + 1; rw [List.length_cons, g2]⟩
        obtain ⟨rfl, k⟩ : a = e ∧ HEq x.1 y := by injection k with k1 k2; exact ⟨k1, k2⟩
        cases k
        exact h1
  | unit =>
    intro x l cs h hr
    have : ([] : List e.den) = l := by injection h
    subst this
    exact ⟨hr, rfl⟩
  | _ =>
    intro x l cs h hr
    rw [chainList_other _ _ rfl (by simp)] at h
    split at h
    · rename_i y hc
      injection h with h; subst h
      have k := castTo_some hc
      obtain ⟨k1, k2⟩ : _ = e ∧ HEq x y := by injection k with k1 k2; exact ⟨k1, k2⟩
      subst k1
      cases k2
      exact ⟨⟨cs, [], by simp, hr, rfl⟩, rfl⟩
    · cases h

theorem idx_run (H : RelI c I μ ρ s a w) {U : Nat} {x i : Operand} (ho : o.op = .indexAddr U x i) : (execOp a.eval o).run P w = ((Instr.indexAt U (a.eval x) (a.eval i)).run P w).andThen fun v w' => .ok (.value v) w' := by
  unfold execOp; rw [ho]
  simp only [Sem.run_bind]; rfl

theorem indexAddr_sound (hE : EnvOK P E) {K : AV → Cap → St → Option T} {r : T} {U : Nat} {x i : Operand} (H : RelI c I μ ρ s a w) (ho : o.op = .indexAddr U x i)
    (h : (match opd s (E.ty U) x with | some v => idxAddrK E U v i (opd s none i) fun v => K v .no s | none => none) = some r) : Yields P o a w (Out K r c a o.dst) := by
  cases hx : opd s (E.ty U) x with
  | none => rw [hx] at h; cases h
  | some p =>
    rw [hx] at h
    have hr := opd_sound H hx
    simp only at h
    unfold idxAddrK at h
    cases hi : asN (opd s none i) with
    | none => rw [hi] at h; cases h
    | some kn =>
      obtain ⟨k, n⟩ := kn
      rw [hi] at h
      simp only at h
      have ei := opd_int H hi
      have run := idx_run (P := P) H ho
      obtain ⟨pt, px⟩ := p
      cases pt with
      | sl t =>
        simp only at h
        cases hd : (decide (E.ty U = some (.sl t)) && Nat.blt 0 t.csize) with
        | false => rw [hd] at h; cases h
        | true =>
          rw [hd] at h
          simp only [cond_true] at h
          simp only [Bool.and_eq_true, decide_eq_true_eq, Nat.blt_eq] at hd
          obtain ⟨hU, hz⟩ := hd
          obtain ⟨e, hue, hte⟩ := (hE.tys U _ hU).sl t rfl
          obtain ⟨ie, _, hie, hse, _⟩ := (hE.tys e _ hte).info
          cases hid : idx px n with
          | none => rw [hid] at h; cases h
          | some y =>
            rw [hid] at h
            simp only [Option.bind_some] at h
            obtain ⟨h0, h1, h2⟩ := idx_some hid
            obtain ⟨ad, m, cap, cells, ev, hm, hcap, hall, hnone, hcells⟩ := hr
            have ev : a.eval x = .slice ad m cap := by injection ev
            subst hm
            cases ad with
            | none =>
              have h4 : (List.length px : Int) ≤ (cap : Int) := Int.ofNat_le.2 hcap
              rw [hnone rfl] at h4
              exact absurd (Int.lt_of_lt_of_le h1 h4) (by omega)
            | some ad =>
              obtain ⟨c1, c2, c3, g1, g2, g3⟩ := RAll_get t px cells hall n.toNat y h2
              refine yields_value (u := .pointer (some (ad.add (n.toNat * t.csize)))) (w' := w) ?_ (Out.no h H ⟨_, c2, rfl, cellsAt_part (hcells ad rfl) g1 g2 (by rw [R.size _ _ _ g3]; exact hz), g3⟩)
              rw [run, ev, ei, run_indexAt_sl hue hie h0 h1, hse]
              rfl
      | box b off =>
        simp only at h
        cases ha : E.arrs.contains U with
        | false => rw [ha] at h; cases h
        | true =>
          rw [ha] at h
          simp only [Bool.not_true, cond_false] at h
          have ha : U ∈ E.arrs := by simpa using ha
          cases hU : E.ty U with
          | none => rw [hU] at h; cases h
          | some st =>
            rw [hU] at h
            cases st with
            | st t =>
              simp only at h
              obtain ⟨e, hue, hte, _, hf⟩ := arr_ty hE hU ha
              obtain ⟨ie, _, hie, hse, _⟩ := (hE.tys e _ hte).info
              rcases br_some h with ⟨hb, h⟩ | ⟨_, h⟩
              · obtain ⟨h0, h1⟩ := inB_true hb
                obtain ⟨bl, hbl, ev⟩ := ptr_box hr
                have hrun : (execOp a.eval o).run P w = .ok (.value (.pointer (some ⟨bl, off + n.toNat * (chainHd t).csize, none⟩))) w := by
                  rw [run, ev, ei, run_indexAt_arr hue hie h0 h1, hse, add_lit]; rfl
                cases hc : isConstInt i with
                | some m =>
                  rw [hc] at h
                  simp only at h
                  have hm : m = n := by
                    cases i with
                    | const v =>
                      cases v <;> simp [isConstInt] at hc
                      subst hc
                      have : asN (opd s none (.const (.int _ _))) = _ := hi
                      simp only [opd, constV, asN] at this
                      injection this with this; injection this
                    | _ => simp [isConstInt] at hc
                  rw [hm] at h
                  exact yields_value hrun (Out.no h H ⟨bl, hbl, rfl⟩)
                | none =>
                  rw [hc] at h
                  simp only at h
                  refine yields_value hrun (Out.no h H ⟨bl, _, hbl, ?_, rfl⟩)
                  show ((range0 (chainLen t)).map fun m => off + m * (chainHd t).csize)[n.toNat]? = _
                  rw [List.getElem?_map, range0_get _ _ (by omega)]; rfl
              · cases h
            | _ => simp only at h; cases h
      | boxv b offs =>
        simp only at h
        cases ha : E.arrs.contains U with
        | false => rw [ha] at h; cases h
        | true =>
          rw [ha] at h
          simp only [Bool.not_true, cond_false] at h
          have ha : U ∈ E.arrs := by simpa using ha
          cases hU : E.ty U with
          | none => rw [hU] at h; cases h
          | some st =>
            rw [hU] at h
            cases st with
            | st t =>
              simp only at h
              obtain ⟨e, hue, hte, _, hf⟩ := arr_ty hE hU ha
              obtain ⟨ie, _, hie, hse, _⟩ := (hE.tys e _ hte).info
              rcases br_some h with ⟨hb, h⟩ | ⟨_, h⟩
              · obtain ⟨h0, h1⟩ := inB_true hb
                obtain ⟨bl, off, hbl, hoff, ev⟩ := ptr_boxv hr
                have hrun : (execOp a.eval o).run P w = .ok (.value (.pointer (some ⟨bl, off + n.toNat * (chainHd t).csize, none⟩))) w := by
                  rw [run, ev, ei, run_indexAt_arr hue hie h0 h1, hse, add_lit]; rfl
                refine yields_value hrun (Out.no h H ⟨bl, _, hbl, ?_, rfl⟩)
                have k : ∀ (offs : List Nat) (j : Nat), offs[j]? = some off → (offs.flatMap fun off => (range0 (chainLen t)).map fun m => off + m * (chainHd t).csize)[mulAdd j (chainLen t) n]? = some (off + n.toNat * (chainHd t).csize) := by
                  intro offs
                  induction offs with
                  | nil => intro j hj; simp at hj
                  | cons o1 ol ih =>
                    intro j hj
                    rw [List.flatMap_cons]
                    have hl : ((range0 (chainLen t)).map fun m => o1 + m * (chainHd t).csize).length = chainLen t := by rw [List.length_map, range0_len]
                    cases j with
                    | zero =>
                      simp at hj; subst hj
                      unfold mulAdd
                      rw [List.getElem?_append_left (by rw [hl]; omega), List.getElem?_map, Nat.zero_mul, Nat.zero_add, range0_get _ _ (by omega)]; rfl
                    | succ j =>
                      simp at hj
                      rw [List.getElem?_append_right (by rw [hl]; unfold mulAdd; rw [Nat.add_mul]; omega), hl]
                      have e2 : mulAdd (j + 1) (chainLen t) n - chainLen t = mulAdd j (chainLen t) n := by unfold mulAdd; rw [Nat.add_mul]; omega
                      rw [e2]
                      exact ih j hj
                exact k offs px hoff
              · cases h
            | _ => simp only at h; cases h
      | ref t =>
        cases t with
        | st t =>
          simp only at h
          cases ha : E.arrs.contains U with
          | false => rw [ha] at h; cases h
          | true =>
            rw [ha] at h
            simp only [Bool.not_true, cond_false] at h
            have ha : U ∈ E.arrs := by simpa using ha
            cases hU : E.ty U with
            | none => rw [hU] at h; cases h
            | some st =>
              rw [hU] at h
              cases st with
              | st t' =>
                simp only at h
                cases hd : (decide (t' = t) && Nat.blt 0 (chainHd t).csize) with
                | false => rw [hd] at h; cases h
                | true =>
                  rw [hd] at h
                  simp only [cond_true] at h
                  simp only [Bool.and_eq_true, decide_eq_true_eq, Nat.blt_eq] at hd
                  obtain ⟨rfl, hz⟩ := hd
                  obtain ⟨e, hue, hte, _, hf⟩ := arr_ty hE hU ha
                  obtain ⟨ie, _, hie, hse, _⟩ := (hE.tys e _ hte).info
                  rcases br_some h with ⟨hb, h⟩ | ⟨_, h⟩
                  · obtain ⟨h0, h1⟩ := inB_true hb
                    cases hl : chainList (chainHd t') t' px with
                    | none => rw [hl] at h; cases h
                    | some l =>
                      rw [hl] at h
                      cases l with
                      | nil => cases h
                      | cons d l =>
                        simp only at h
                        obtain ⟨ad, cells, ev, hc, hrr⟩ := hr
                        have ev : a.eval x = .pointer (some ad) := by injection ev
                        obtain ⟨g1, g2⟩ := chainList_spec _ _ _ _ _ hl hrr
                        have hz2 : (d :: l)[n.toNat]? = some (sel d (d :: l) (Int.toNat n)) := by
                          have e1 : (d :: l)[n.toNat]? = some ((d :: l)[n.toNat]'(by rw [g2]; omega)) := List.getElem?_eq_getElem (by rw [g2]; omega)
                          rw [e1]; exact congrArg some (nth_get e1).symm
                        obtain ⟨c1, c2, c3, k1, k2, k3⟩ := RAll_get _ _ cells g1 n.toNat _ hz2
                        refine yields_value (u := .pointer (some (ad.add (n.toNat * (chainHd t').csize)))) (w' := w) ?_ (Out.no h H ⟨_, c2, rfl, cellsAt_part hc k1 k2 (by rw [R.size _ _ _ k3]; exact hz), k3⟩)
                        rw [run, ev, ei, run_indexAt_arr hue hie h0 h1, hse]; rfl
                  · cases h
              | _ => simp only at h; cases h
        | _ => simp only at h; cases h
      | _ => simp only at h; cases h
end Go.Ev
