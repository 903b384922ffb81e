import Derived.Test.YtggobapgdflchaaEvOp6
import Derived.Laws.StructEq
import Derived.Laws.BytesArg
import Derived.Laws.Slices
set_option linter.unusedVariables false
namespace Go.Ev
open Go.RowKit
variable {P : Program} {E : Env} {I : Im} {w : World} {μ : List Nat} {c : Ctx} {ρ : Nat → Rm} {s : St} {a : Act} {o : Oper} {T : Type}

theorem run_part_at {U : Nat} {t : Ty} (ht : TyOK P E U t) {cs : Array Value} {off : Nat} {x : t.den} {c1 c2 c3 : List Value} (e : cs.toList = c1 ++ c2 ++ c3) (hl : c1.length = off) (hr : R I w μ t true x c2) :
    ∃ v, (part U cs off).run P w = .ok v w ∧ R I w μ t false x [v] := by
  obtain ⟨d, hd, hag⟩ := ht.und
  obtain ⟨i, z, hi, hsz, _⟩ := ht.info
  have hlen := R.size t x c2 hr
  unfold part
  simp only [Sem.run_bind, run_isAgg hd, Result.andThen_ok, hag]
  by_cases hst : t.isSt = true
  · rw [hst]
    simp only [if_true, Sem.run_bind, run_sizeOf hi, Result.andThen_ok, hsz]
    refine ⟨_, rfl, ?_⟩
    have e2 : cs.extract off (off + t.csize) = c2.toArray := by
      apply Array.toList_inj.1
      rw [Array.toList_extract, e]
      simp only [List.extract_eq_take_drop, List.append_assoc]
      rw [List.drop_append_of_le_length (by omega), ← hl, List.drop_length, List.nil_append, ← hlen, Nat.add_sub_cancel_left, List.take_append_of_le_length (Nat.le_refl _), List.take_length]
    rw [e2]
    cases t <;> simp [Ty.isSt] at hst
    exact ⟨c2, rfl, hr⟩
  · have : t.isSt = false := by simpa using hst
    rw [this]
    obtain ⟨v, rfl, h2⟩ : ∃ v, c2 = [v] ∧ R I w μ t false x [v] := by
      by_cases hleaf : t.leaf = true
      · obtain ⟨v, e, h1, h2⟩ := R.leaf t hleaf x true c2 hr
        subst e; exact ⟨v, rfl, h2 false⟩
      · have := ht.ok
        unfold okTy at this
        simp only [Bool.or_eq_true] at this
        rcases this with (h | h) | h
        · exact absurd h hleaf
        · cases t <;> simp [Ty.isTop] at h
          obtain ⟨v, e⟩ := hr; exact ⟨v, e, v, rfl⟩
        · exact absurd h hst
    have e3 : cs[off]? = some v := by
      rw [← Array.getElem?_toList, e, List.append_assoc, List.getElem?_append_right (by omega), hl, Nat.sub_self]; rfl
    simp only [Bool.false_eq_true, if_false, e3]
    exact ⟨v, rfl, h2⟩

theorem field_sound (hE : EnvOK P E) {K : AV → Cap → St → Option T} {r : T} {U f : Nat} {x : Operand} (H : RelI c I μ ρ s a w) (ho : o.op = .field U x f)
    (h : (match opd s (E.ty U) x with
    | some ⟨.st t, y⟩ => bif !(E.strs.contains U && decide (E.ty U = some (.st t)) && Nat.blt f (chainLen t)) then none else match proj t y f with
      | some ⟨u, z⟩ => K ⟨u, z⟩ .no s
      | none => none
    | _ => none) = some r) : Yields P o a w (Out K r c a o.dst) := by
  cases hx : opd s (E.ty U) x with
  | none => rw [hx] at h; cases h
  | some p =>
    rw [hx] at h
    have hr := opd_sound H hx
    obtain ⟨pt, px⟩ := p
    cases pt with
    | st t =>
      simp only at h
      cases hd : (E.strs.contains U && decide (E.ty U = some (.st t)) && Nat.blt f (chainLen t)) with
      | false => rw [hd] at h; cases h
      | true =>
        rw [hd] at h
        simp only [Bool.not_true, cond_false] at h
        simp only [Bool.and_eq_true, List.contains_iff_mem, decide_eq_true_eq, Nat.blt_eq] at hd
        obtain ⟨⟨hst, hU⟩, hfl⟩ := hd
        cases hp : proj t px f with
        | none => rw [hp] at h; cases h
        | some y =>
          rw [hp] at h
          obtain ⟨u, z⟩ := y
          obtain ⟨arr, e, hrr⟩ := hr
          have e : a.eval x = .agg arr.toArray := by injection e
          obtain ⟨g1, c1, c2, c3, g2, g3, g4⟩ := proj_cells t px arr f ⟨u, z⟩ hrr hp
          rcases (hE.tys U _ hU).st t rfl with ⟨fs, hfs, _, hfd⟩ | ⟨n, e', harr, _⟩
          · obtain ⟨fd, tf, h1, h2, h3, _, h4, h5⟩ := hfd f hfl
            have hu : u = tf := by rw [h2] at g1; injection g1 with g1; exact g1.symm
            subst hu
            obtain ⟨v, hv, hr'⟩ := run_part_at (hE.tys _ _ h4) (cs := arr.toArray) (by simpa using g2) g3 g4
            refine yields_value (u := v) (w' := w) ?_ (Out.no h H hr')
            unfold execOp; rw [ho]
            simp only [Sem.run_bind, e, Instr.field, run_underlying hfs, Result.andThen_ok, h1, asAgg, Sem.run_pure, h3, hv]
          · obtain ⟨fs, hfs⟩ := hE.strs U hst
            rw [harr] at hfs; cases hfs
    | _ => simp only at h; cases h

theorem toList_data (b : ByteArray) : b.toList = b.data.toList := by rw [ByteArray.toList_eq]

theorem index_sound (hE : EnvOK P E) {K : AV → Cap → St → Option T} {r : T} {U : Nat} {x i : Operand} (H : RelI c I μ ρ s a w) (ho : o.op = .index U x i)
    (h : (match opd s (E.ty U) x with | some v => idxK E U v (opd s none i) fun v => K v .no s | none => none) = some r) : Yields P o a w (Out K r c a o.dst) := by
  cases hx : opd s (E.ty U) x with
  | none => rw [hx] at h; cases h
  | some p =>
    rw [hx] at h
    have hr := opd_sound H hx
    simp only at h
    unfold idxK at h
    cases hi : asN (opd s none i) with
    | none => rw [hi] at h; cases h
    | some kn =>
      obtain ⟨k, n⟩ := kn
      rw [hi] at h
      simp only at h
      have ei := opd_int H hi
      obtain ⟨pt, px⟩ := p
      cases pt with
      | st t =>
        simp only at h
        cases hd : (E.arrs.contains U && decide (E.ty U = some (.st t))) with
        | false => rw [hd] at h; cases h
        | true =>
          rw [hd] at h
          simp only [Bool.not_true, cond_false] at h
          simp only [Bool.and_eq_true, List.contains_iff_mem, decide_eq_true_eq] at hd
          obtain ⟨ha, hU⟩ := hd
          obtain ⟨e, hue, hte, _, hf⟩ := arr_ty hE hU ha
          obtain ⟨ie, _, hie, hse, _⟩ := (hE.tys e _ hte).info
          rcases br_some h with ⟨hb, h⟩ | ⟨_, h⟩
          · obtain ⟨h0, h1⟩ := inB_true hb
            cases hl : chainList (chainHd t) t px with
            | none => rw [hl] at h; cases h
            | some l =>
              rw [hl] at h
              cases l with
              | nil => cases h
              | cons d l =>
                simp only at h
                obtain ⟨arr, ev, hrr⟩ := hr
                have ev : a.eval x = .agg arr.toArray := by injection ev
                obtain ⟨g1, g2⟩ := chainList_spec _ _ _ _ _ hl hrr
                have hz2 : (d :: l)[n.toNat]? = some (sel d (d :: l) (Int.toNat n)) := by
                  have e1 : (d :: l)[n.toNat]? = some ((d :: l)[n.toNat]'(by rw [g2]; omega)) := List.getElem?_eq_getElem (by rw [g2]; omega)
                  rw [e1]; exact congrArg some (nth_get e1).symm
                obtain ⟨c1, c2, c3, k1, k2, k3⟩ := RAll_get _ _ arr g1 n.toNat _ hz2
                obtain ⟨v, hv, hr'⟩ := run_part_at (hE.tys _ _ hte) (cs := arr.toArray) (by simpa using k1) k2 k3
                refine yields_value (u := v) (w' := w) ?_ (Out.no h H hr')
                unfold execOp; rw [ho]
                simp only [Sem.run_bind, ev, ei, Instr.index, asIntOf, Sem.run_pure, run_underlying hue, Result.andThen_ok, h0, h1, and_self, if_true, run_sizeOf hie, hse, hv]
          · cases h
      | _ => simp only at h; cases h

theorem binOp_run {op : BinOp} {xT yT : Nat} {x y : Operand} (ho : o.op = .binOp op xT x y yT) : (execOp a.eval o).run P w =
    (((eqGuard op xT x y (a.eval x) (a.eval y)).run P w).andThen fun _ w' => (binOp op xT (a.eval x) (a.eval y)).run P w').andThen fun v w' => .ok (.value v) w' := by
  unfold execOp; rw [ho]
  simp only [Sem.run_bind]; rfl

theorem intK_sound {K : AV → Option T} {r : T} {op : BinOp} {k : IntKind} {x y : Int} (t : Nat) (hs : isShift op = false) (h : intK op k x y K = some r) :
    ∃ v z, (binOp op t (.int k x) (.int k y)).run P w = .ok v w ∧ R I w μ z.ty false z.x [v] ∧ K z = some r := by
  cases op with
  | add => exact ⟨_, .int k (k.wrap (x + y)), by rw [binOp_add]; rfl, rfl, h⟩
  | sub => exact ⟨_, .int k (k.wrap (x - y)), by rw [binOp_sub]; rfl, rfl, h⟩
  | mul => exact ⟨_, .int k (k.wrap (x * y)), by rw [binOp_mul]; rfl, rfl, h⟩
  | quo =>
    rcases br_some h with ⟨_, h⟩ | ⟨hy, h⟩
    · cases h
    · have : y ≠ 0 := by simpa [eqI] using hy
      exact ⟨_, .int k (k.wrap (x.tdiv y)), by rw [binOp_quo]; unfold Op.intDiv; rw [if_neg this]; rfl, rfl, h⟩
  | rem =>
    rcases br_some h with ⟨_, h⟩ | ⟨hy, h⟩
    · cases h
    · have : y ≠ 0 := by simpa [eqI] using hy
      exact ⟨_, .int k (x.tmod y), by rw [binOp_rem]; unfold Op.intDiv; rw [if_neg this]; rfl, rfl, h⟩
  | and => exact ⟨_, .int k (k.wrap (BitVec.ofInt k.bits x &&& BitVec.ofInt k.bits y).toNat), by rw [binOp_and]; rfl, rfl, h⟩
  | or => exact ⟨_, .int k (k.wrap (BitVec.ofInt k.bits x ||| BitVec.ofInt k.bits y).toNat), by rw [binOp_or]; rfl, rfl, h⟩
  | xor => exact ⟨_, .int k (k.wrap (BitVec.ofInt k.bits x ^^^ BitVec.ofInt k.bits y).toNat), by rw [binOp_xor]; rfl, rfl, h⟩
  | andNot => cases h
  | shl => cases hs
  | shr => cases hs
  | eql => exact ⟨_, .bool (eqI x y), by rw [binOp_eql]; rfl, rfl, h⟩
  | neq => exact ⟨_, .bool (!eqI x y), by rw [binOp_neq]; rfl, rfl, h⟩
  | lss => exact ⟨_, .bool (decide (x < y)), by rw [binOp_lss]; rfl, rfl, h⟩
  | leq => exact ⟨_, .bool (decide (x ≤ y)), by rw [binOp_leq]; rfl, rfl, h⟩
  | gtr => exact ⟨_, .bool (decide (x > y)), by rw [binOp_gtr]; rfl, rfl, h⟩
  | geq => exact ⟨_, .bool (decide (x ≥ y)), by rw [binOp_geq]; rfl, rfl, h⟩

theorem shiftK_sound {K : AV → Option T} {r : T} {op : BinOp} {k k' : IntKind} {x y : Int} (t : Nat) (h : shiftK op k x y K = some r) :
    ∃ v z, (binOp op t (.int k x) (.int k' y)).run P w = .ok v w ∧ R I w μ z.ty false z.x [v] ∧ K z = some r := by
  cases op with
  | shl =>
    rcases br_some h with ⟨_, h⟩ | ⟨hy, h⟩
    · cases h
    · have : ¬ y < 0 := by simpa using hy
      exact ⟨_, .int k (k.wrap (x * 2 ^ (min y.toNat k.bits))), by rw [binOp_shl]; unfold Op.shift; rw [if_neg this]; rfl, rfl, h⟩
  | shr =>
    rcases br_some h with ⟨_, h⟩ | ⟨hy, h⟩
    · cases h
    · have : ¬ y < 0 := by simpa using hy
      exact ⟨_, .int k (x.fdiv (2 ^ (min y.toNat k.bits))), by rw [binOp_shr]; unfold Op.shift; rw [if_neg this]; rfl, rfl, h⟩
  | _ => cases h

theorem eqK_sound {K : AV → Option T} {r : T} {op : BinOp} {b : Bool} (h : eqK op b K = some r) : (op = .eql ∧ K (.bool b) = some r) ∨ (op = .neq ∧ K (.bool !b) = some r) := by
  cases op <;> first | exact .inl ⟨rfl, h⟩ | exact .inr ⟨rfl, h⟩ | cases h

theorem run_eqGuard_not {op : BinOp} {t : Nat} {x y : Operand} {u v : Value} (h : eqGuard op t x y u v = pure ()) : (eqGuard op t x y u v).run P w = .ok () w := by rw [h]; rfl

theorem binOp_sound (hE : EnvOK P E) {K : AV → Cap → St → Option T} {r : T} {op : BinOp} {xT yT : Nat} {x y : Operand} (H : RelI c I μ ρ s a w) (ho : o.op = .binOp op xT x y yT)
    (h : (match opd s (E.ty xT) x, opd s (E.ty yT) y with
    | some a, some b => bif eqOK E xT a.ty then binK op a b fun v => K v .no s else none
    | _, _ => none) = some r) : Yields P o a w (Out K r c a o.dst) := by
  cases hx : opd s (E.ty xT) x with
  | none => rw [hx] at h; cases h
  | some p =>
  cases hy : opd s (E.ty yT) y with
  | none => rw [hx, hy] at h; cases h
  | some q =>
    rw [hx, hy] at h
    simp only at h
    have rx := opd_sound H hx
    have ry := opd_sound H hy
    cases hok : eqOK E xT p.ty with
    | false => rw [hok] at h; cases h
    | true =>
      rw [hok] at h
      simp only [cond_true] at h
      obtain ⟨pt, px⟩ := p
      obtain ⟨qt, qx⟩ := q
      have run := binOp_run (P := P) (a := a) (w := w) ho
      cases pt with
      | int k =>
        cases qt with
        | int k' =>
          have ex := int_of_R rx
          have ey := int_of_R ry
          have hg : (eqGuard op xT x y (a.eval x) (a.eval y)).run P w = .ok () w := by rw [ex]; exact run_eqGuard_not (eqGuard_at_int ..)
          have h' : (if isShift op = true then shiftK op k px qx (fun v => K v .no s) else if k = k' then intK op k px qx (fun v => K v .no s) else none) = some r := h
          by_cases hs : isShift op = true
          · rw [if_pos hs] at h'
            obtain ⟨v, z, g1, g2, g3⟩ := shiftK_sound (P := P) (I := I) (w := w) (μ := μ) (k' := k') xT h'
            refine yields_value (u := v) (w' := w) ?_ (Out.no g3 H g2)
            rw [run, hg, ex, ey]
            simp only [Result.andThen_ok, g1]
          · rw [if_neg hs] at h'
            by_cases hk : k = k'
            · subst hk
              rw [if_pos rfl] at h'
              obtain ⟨v, z, g1, g2, g3⟩ := intK_sound (P := P) (I := I) (w := w) (μ := μ) xT (by simpa using hs) h'
              refine yields_value (u := v) (w' := w) ?_ (Out.no g3 H g2)
              rw [run, hg, ex, ey]
              simp only [Result.andThen_ok, g1]
            · rw [if_neg hk] at h'; cases h'
        | _ => cases h
      | bool =>
        cases qt with
        | bool =>
          have ex := bool_of_R rx
          have ey := bool_of_R ry
          have hg : (eqGuard op xT x y (a.eval x) (a.eval y)).run P w = .ok () w := by rw [ex]; exact run_eqGuard_not (eqGuard_at_bool ..)
          have hU : E.ty xT = some .bool := by simpa [eqOK] using hok
          have hb := (hE.tys _ _ hU).bool rfl
          have hrun : ∀ bb : Bool, bb = eqB px qx → (Op.equal xT (.bool px) (.bool qx)).run P w = .ok bb w := by
            intro bb hbb; subst hbb
            exact run_equalIn_bool' w 9999 xT px qx hb
          have h : eqK op (eqB px qx) (fun v => K v .no s) = some r := h
          rcases eqK_sound h with ⟨rfl, h⟩ | ⟨rfl, h⟩
          · refine yields_value (u := .bool (eqB px qx)) (w' := w) ?_ (Out.no h H rfl)
            rw [run, hg, ex, ey]
            simp only [Result.andThen_ok, binOp, Sem.run_bind, hrun _ rfl, Sem.run_pure]
          · refine yields_value (u := .bool (!eqB px qx)) (w' := w) ?_ (Out.no h H rfl)
            rw [run, hg, ex, ey]
            simp only [Result.andThen_ok, binOp, Sem.run_bind, hrun _ rfl, Sem.run_pure]
        | _ => cases h
      | str =>
        cases qt with
        | str =>
          have ex := str_of_R rx
          have ey := str_of_R ry
          have hg : (eqGuard op xT x y (a.eval x) (a.eval y)).run P w = .ok () w := by rw [ex]; exact run_eqGuard_not (eqGuard_at_string ..)
          have h : eqK op (eqS px qx) (fun v => K v .no s) = some r := h
          rcases eqK_sound h with ⟨rfl, h⟩ | ⟨rfl, h⟩
          · refine yields_value (u := .bool (eqS px qx)) (w' := w) ?_ (Out.no h H rfl)
            rw [run, hg, ex, ey]; rfl
          · refine yields_value (u := .bool (!eqS px qx)) (w' := w) ?_ (Out.no h H rfl)
            rw [run, hg, ex, ey]; rfl
        | _ => cases h
      | st t =>
        have h' : (match castTo (.st t) ⟨qt, qx⟩ with
          | some y => match beqD t px y with
            | some q => eqK op q (fun v => K v .no s)
            | none => none
          | none => none) = some r := h
        cases hc : castTo (.st t) ⟨qt, qx⟩ with
        | none => rw [hc] at h'; cases h'
        | some z =>
          rw [hc] at h'
          simp only at h'
          have e := castTo_some hc
          cases hq : beqD t px z with
          | none => rw [hq] at h'; cases h'
          | some bq =>
            rw [hq] at h'
            simp only at h'
            have hok : E.ty xT = some (.st t) ∧ xT ∈ E.eqs := by simpa [eqOK] using hok
            obtain ⟨hgt, heq⟩ := hE.eqst xT t hok.2 hok.1
            have ry' : R I w μ (.st t) false z [a.eval y] := by
              have : (⟨qt, qx⟩ : AV).ty = .st t := by rw [e]
              cases e; exact ry
            have hrun := heq I w μ px z (a.eval x) (a.eval y) bq rx ry' hq
            obtain ⟨ax, ex, _⟩ := rx
            obtain ⟨ay, ey, _⟩ := ry'
            have ex : a.eval x = .agg ax.toArray := by injection ex
            have ey : a.eval y = .agg ay.toArray := by injection ey
            have hg : (eqGuard op xT x y (a.eval x) (a.eval y)).run P w = .ok () w := by rw [ex, ey]; exact run_eqGuard_agg w op xT x y _ _ hgt
            rw [ex, ey] at hrun
            rcases eqK_sound h' with ⟨e1, h2⟩ | ⟨e1, h2⟩
            · subst e1
              refine yields_value (u := .bool bq) (w' := w) ?_ (Out.no h2 H rfl)
              rw [run, hg, ex, ey]
              simp only [Result.andThen_ok, run_eql_struct, hrun]
            · subst e1
              refine yields_value (u := .bool (!bq)) (w' := w) ?_ (Out.no h2 H rfl)
              rw [run, hg, ex, ey]
              simp only [Result.andThen_ok, run_neq_struct, hrun]
      | _ => cases h
end Go.Ev
