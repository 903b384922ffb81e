import Derived.Test.YtggobapgdflchaaEvOp4
set_option linter.unusedVariables false
namespace Go.Ev
open Go.RowKit
variable {P : Program} {E : Env} {I : Im} {w : World} {μ : List Nat} {c : Ctx} {ρ : Nat → Rm} {s : St} {a : Act} {o : Oper} {T : Type}

theorem box_content {bs : List AV} (H : MemI c I μ bs w) {i b : Nat} (hb : μ[i]? = some b) : ∃ v, bs[i]? = some v ∧ nth .top bs i = v ∧
    (v.ty = .undef ∨ ∃ cs et, w.heap[b]? = some (.cells cs et (0, 0)) ∧ R I w μ v.ty true v.x cs.toList ∧ ∀ o, ¬ I b o) := by
  have hl : i < bs.length := by rw [H.blen]; exact (List.getElem?_eq_some_iff.1 hb).1
  refine ⟨bs[i], List.getElem?_eq_getElem hl, nth_get (List.getElem?_eq_getElem hl), H.boxes i _ b (List.getElem?_eq_getElem hl) hb⟩

theorem getOff_undef (want : Ty) (v : AV) (off : Nat) (h : v.ty = .undef) : getOff want v.ty v.x off = none := by
  obtain ⟨vt, vx⟩ := v
  simp only at h; subst h
  show (if _ then _ else none) = none
  rw [if_neg (by simp [Ty.leaf])]

theorem allSome_cons {α β : Type} (f : α → Option β) (a : α) (l : List α) : allSome f (a :: l) = (f a).bind fun b => (allSome f l).map fun m => b :: m := by
  show (match f a, allSome f l with | some b, some m => some (b :: m) | _, _ => none) = _
  cases f a <;> cases allSome f l <;> rfl

theorem getOffs_spec {want : Ty} {v : AV} {t : Ty} : ∀ (offs : List Nat) (l : List t.den), getOffs want v offs t = some l → ∀ (j : Nat) off, offs[j]? = some off → ∃ y, l[j]? = some y ∧ getOff want v.ty v.x off = some ⟨t, y⟩
  | [], l, h, j, off, hj => by simp at hj
  | o :: offs, l, h, j, off, hj => by
    unfold getOffs at h
    rw [allSome_cons] at h
    have h' := h
    cases hg : getOff want v.ty v.x o with
    | none => rw [hg] at h'; cases h'
    | some u =>
      rw [hg] at h'
      simp only at h'
      cases hc : castTo t u with
      | none => rw [hc] at h'; cases h'
      | some y =>
        rw [hc] at h'
        simp only [Option.bind_some] at h'
        cases hm : getOffs want v offs t with
        | none => unfold getOffs at hm; rw [hm] at h'; cases h'
        | some m =>
          have hm' := hm
          unfold getOffs at hm'; rw [hm'] at h'
          simp only [Option.map_some] at h'
          injection h' with h'; subst h'
          cases j with
          | zero =>
            simp at hj; subst hj
            exact ⟨y, rfl, by rw [hg, castTo_some hc]⟩
          | succ j => simp at hj; exact getOffs_spec offs _ hm j off hj

theorem run_loadAt_ptr {U : Nat} {ad : Addr} : (Instr.loadAt U (.pointer (some ad))).run P w = (loadVar U ad).run P w := by
  unfold Instr.loadAt
  simp only [Instr.sureAddr, Sem.run_bind, Sem.run_pure, Result.andThen_ok]

theorem loadK_sound (hE : EnvOK P E) (H : MemI c I μ s.boxes w) {U : Nat} {p : AV} {u : Value} {K : AV → Cap → Option T} {r : T} (hp : R I w μ p.ty false p.x [u]) (h : loadK E U s p K = some r) :
    ∃ v x, (Instr.loadAt U u).run P w = .ok v w ∧ R I w μ x.ty false x.x [v] ∧ K x .no = some r := by
  unfold loadK at h
  cases hU : E.ty U with
  | none => rw [hU] at h; cases h
  | some want =>
    rw [hU] at h
    simp only at h
    have ht := hE.tys U want hU
    obtain ⟨pt, px⟩ := p
    cases pt with
    | ref t =>
      simp only at h
      obtain ⟨ad, cells, e, hc, hr⟩ := hp
      cases e
      cases hb : (decide (want = t) || (decide (want = .top) && t.leaf)) with
      | false => rw [hb] at h; cases h
      | true =>
        rw [hb] at h
        have hu : want = t ∨ (want = .top ∧ t.leaf = true) := by simpa using hb
        obtain ⟨v, hv, hr'⟩ := run_loadVar_at ht hu hr (fun j v hj => (hc j v hj).1)
        exact ⟨v, ⟨t, px⟩, by rw [run_loadAt_ptr]; exact hv, hr', h⟩
    | box i off =>
      simp only at h
      obtain ⟨b, hb, rfl⟩ := ptr_box hp
      obtain ⟨v, _, hn, hv⟩ := box_content H hb
      rw [hn] at h
      cases hg : getOff want v.ty v.x off with
      | none => rw [hg] at h; cases h
      | some y =>
        rw [hg] at h
        rcases hv with hv | ⟨cs, et, hh, hr, _⟩
        · rw [getOff_undef _ _ _ hv] at hg; cases hg
        · obtain ⟨e, c1, c2, c3, e1, e2, e3⟩ := getOff_sound want v.ty v.x cs.toList off y hr hg
          obtain ⟨u, hu, hr'⟩ := run_loadVar_at ht e e3 (cell_at hh e1 e2)
          exact ⟨u, y, by rw [run_loadAt_ptr]; exact hu, hr', h⟩
    | boxv i offs =>
      simp only at h
      obtain ⟨b, off, hb, ho, rfl⟩ := ptr_boxv hp
      obtain ⟨v, _, hn, hv⟩ := box_content H hb
      rw [hn] at h
      cases offs with
      | nil => cases h
      | cons o1 ol =>
        simp only at h
        cases hg : getOff want v.ty v.x o1 with
        | none => rw [hg] at h; cases h
        | some y =>
          rw [hg] at h
          obtain ⟨t, y⟩ := y
          simp only at h
          cases hl : getOffs want v (o1 :: ol) t with
          | none => rw [hl] at h; cases h
          | some l =>
            rw [hl] at h
            simp only at h
            rcases hv with hv | ⟨cs, et, hh, hr, _⟩
            · rw [getOff_undef _ _ _ hv] at hg; cases hg
            · obtain ⟨z, hz, hgz⟩ := getOffs_spec _ _ hl _ _ ho
              obtain ⟨e, c1, c2, c3, e1, e2, e3⟩ := getOff_sound want v.ty v.x cs.toList off _ hr hgz
              obtain ⟨u, hu, hr'⟩ := run_loadVar_at ht e e3 (cell_at hh e1 e2)
              refine ⟨u, ⟨t, sel y l px⟩, by rw [run_loadAt_ptr]; exact hu, ?_, h⟩
              unfold sel
              rw [nth_get hz]
              exact hr'
    | _ => simp only at h; cases h

theorem load_sound (hE : EnvOK P E) {K : AV → Cap → St → Option T} {r : T} {U : Nat} {x : Operand} (H : RelI c I μ ρ s a w) (ho : o.op = .load U x)
    (h : (match opd s none x with | some p => loadK E U s p fun v c => K v c s | none => none) = some r) : Yields P o a w (Out K r c a o.dst) := by
  cases hx : opd s none x with
  | none => rw [hx] at h; cases h
  | some p =>
    rw [hx] at h
    obtain ⟨v, y, hv, hr, hK⟩ := loadK_sound hE H.mem (opd_sound H hx) h
    refine yields_value (u := v) (w' := w) ?_ (Out.no hK H hr)
    unfold execOp; rw [ho]
    simp only [Sem.run_bind, hv, Result.andThen_ok]; rfl

theorem extract_sound {K : AV → Cap → St → Option T} {r : T} {i : Nat} {x : Operand} (H : RelI c I μ ρ s a w) (ho : o.op = .extract x i)
    (h : (match opd s none x with
    | some ⟨.tup t, y⟩ => match proj t y i with
      | some ⟨u, z⟩ => bif u.single then K ⟨u, z⟩ .no s else none
      | none => none
    | _ => none) = some r) : Yields P o a w (Out K r c a o.dst) := by
  cases hx : opd s none x with
  | none => rw [hx] at h; cases h
  | some p =>
    rw [hx] at h
    have hr := opd_sound H hx
    obtain ⟨pt, px⟩ := p
    cases pt with
    | tup t =>
      simp only at h
      cases hp : proj t px i with
      | none => rw [hp] at h; cases h
      | some y =>
        rw [hp] at h
        obtain ⟨u, z⟩ := y
        simp only at h
        cases hs : u.single with
        | false => rw [hs] at h; cases h
        | true =>
          rw [hs] at h
          obtain ⟨arr, e, hr⟩ := hr
          obtain ⟨v, hv, hr'⟩ := proj_vals t px arr i ⟨u, z⟩ hr hp hs
          have e : a.eval x = .tuple arr.toArray := by injection e
          refine yields_value (u := v) (w' := w) ?_ (Out.no h H hr')
          unfold execOp; rw [ho]
          have : (arr.toArray)[i]? = some v := by simpa using hv
          simp only [Sem.run_bind, e, Instr.extract, this, Sem.run_pure, Result.andThen_ok]
    | _ => simp only at h; cases h

theorem fieldAt_run {S f : Nat} {fs : Array Field} {fd : Field} {t : Ty} {ad : Addr} (hS : P.underlying S = some (.struct fs)) (hf : fs[f]? = some fd) (ht : TyOK P E fd.type t) (hz : 0 < t.csize) :
    (Instr.fieldAt S (.pointer (some ad)) f).run P w = .ok (.pointer (some (ad.add fd.offset))) w := by
  unfold Instr.fieldAt
  simp only [Sem.run_bind, run_underlying hS, Result.andThen_ok, hf, Instr.sureAddr, Sem.run_pure, fieldPlace_run ad fd ht hz]

theorem add_lit (b o n : Nat) : Addr.add ⟨b, o, none⟩ n = ⟨b, o + n, none⟩ := by unfold Addr.add; split <;> simp_all

theorem cellsAt_part {ad : Addr} {cs c1 c2 c3 : List Value} {n : Nat} (h : cellsAt I w ad cs) (e : cs = c1 ++ c2 ++ c3) (hl : c1.length = n) (hne : 0 < c2.length) : cellsAt I w (ad.add n) c2 := by
  intro j v hv
  have hj : cs[n + j]? = some v := by
    rw [e, List.append_assoc, List.getElem?_append_right (by omega), hl, Nat.add_sub_cancel_left, List.getElem?_append_left (List.getElem?_eq_some_iff.1 hv).1]
    exact hv
  obtain ⟨h1, h2⟩ := h _ _ hj
  have e2 : (ad.add n).add j = ad.add (n + j) := by
    unfold Addr.add
    by_cases hn : n = 0
    · subst hn; simp
    · by_cases hj0 : j = 0
      · subst hj0; simp [hn]
      · simp [hn, hj0, Nat.add_assoc]
  rw [e2]
  refine ⟨h1, ?_⟩
  rw [add_block, add_off, Nat.add_assoc]
  exact h2

theorem fieldAddr_sound (hE : EnvOK P E) {K : AV → Cap → St → Option T} {r : T} {S f : Nat} {x : Operand} (H : RelI c I μ ρ s a w) (ho : o.op = .fieldAddr S x f)
    (h : (match opd s none x with | some v => fieldAddrK E S v f fun v => K v .no s | none => none) = some r) : Yields P o a w (Out K r c a o.dst) := by
  cases hx : opd s none x with
  | none => rw [hx] at h; cases h
  | some p =>
    rw [hx] at h
    have hr := opd_sound H hx
    simp only at h
    unfold fieldAddrK at h
    cases hS : E.ty S with
    | none => rw [hS] at h; cases h
    | some st =>
      rw [hS] at h
      cases st with
      | st t =>
        simp only at h
        have ht := hE.tys S _ hS
        cases hfl : (E.strs.contains S && Nat.blt f (chainLen t)) with
        | false => rw [hfl] at h; cases h
        | true =>
          rw [hfl] at h
          simp only [Bool.not_true, cond_false] at h
          simp only [Bool.and_eq_true, List.contains_iff_mem, Nat.blt_eq] at hfl
          obtain ⟨hst, hfl⟩ := hfl
          rcases ht.st t rfl with ⟨fs, hfs, _, hfd⟩ | ⟨n, e, harr, _⟩
          · obtain ⟨fd, tf, h1, h2, h3, _, h4, h5⟩ := hfd f hfl
            have htf := hE.tys _ _ h4
            have run : ∀ ad : Addr, (execOp a.eval o).run P w = (do pure (.value (← Instr.fieldAt S (a.eval x) f)) : Sem Next).run P w := by
              intro _; unfold execOp; rw [ho]
            obtain ⟨pt, px⟩ := p
            cases pt with
            | box i off =>
              obtain ⟨b, hb, e⟩ := ptr_box hr
              refine yields_value (u := .pointer (some ⟨b, off + fieldOff t f, none⟩)) (w' := w) ?_ (Out.no h H ⟨b, hb, rfl⟩)
              rw [run ⟨0, 0, none⟩, e]
              simp only [Sem.run_bind, fieldAt_run hfs h1 htf h5, Result.andThen_ok, Sem.run_pure, add_lit, h3]
            | boxv i offs =>
              obtain ⟨b, off, hb, ho', e⟩ := ptr_boxv hr
              refine yields_value (u := .pointer (some ⟨b, off + fieldOff t f, none⟩)) (w' := w) ?_ (Out.no h H ⟨b, off + fieldOff t f, hb, ?_, rfl⟩)
              · rw [run ⟨0, 0, none⟩, e]
                simp only [Sem.run_bind, fieldAt_run hfs h1 htf h5, Result.andThen_ok, Sem.run_pure, add_lit, h3]
              · have k : ∀ j : Nat, offs[j]? = some off → (offs.map fun o => o + fieldOff t f)[j]? = some (off + fieldOff t f) := fun j hj => by rw [List.getElem?_map, hj]; rfl
                exact k px ho'
            | ref t' =>
              cases t' with
              | st t' =>
                simp only at h
                cases hd : decide (t' = t) with
                | false => rw [hd] at h; cases h
                | true =>
                  have : t' = t := of_decide_eq_true hd
                  subst this
                  rw [hd] at h
                  simp only [cond_true] at h
                  cases hp : proj t' px f with
                  | none => rw [hp] at h; cases h
                  | some y =>
                    rw [hp] at h
                    obtain ⟨u, z⟩ := y
                    obtain ⟨ad, cells, e, hc, hrr⟩ := hr
                    have e : a.eval x = .pointer (some ad) := by injection e
                    obtain ⟨g1, c1, c2, c3, g2, g3, g4⟩ := proj_cells t' px cells f ⟨u, z⟩ hrr hp
                    have hu : u = tf := by rw [h2] at g1; injection g1 with g1; exact g1.symm
                    refine yields_value (u := .pointer (some (ad.add (fieldOff t' f)))) (w' := w) ?_ (Out.no h H ⟨ad.add (fieldOff t' f), c2, rfl, cellsAt_part hc g2 g3 ?_, g4⟩)
                    · rw [run ⟨0, 0, none⟩, e]
                      simp only [Sem.run_bind, fieldAt_run hfs h1 htf h5, Result.andThen_ok, Sem.run_pure, h3]
                    · rw [R.size _ _ _ g4]; show 0 < u.csize; rw [hu]; exact h5
              | _ => simp only at h; cases h
            | _ => simp only at h; cases h
          · -- an array has no fields
            obtain ⟨fs, hfs⟩ := hE.strs S hst
            rw [harr] at hfs; cases hfs
      | _ => simp only at h; cases h
end Go.Ev
