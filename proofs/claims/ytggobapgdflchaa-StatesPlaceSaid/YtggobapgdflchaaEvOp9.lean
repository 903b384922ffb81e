import Derived.Test.YtggobapgdflchaaEvOp8
set_option linter.unusedVariables false
namespace Go.Ev
open Go.RowKit
variable {P : Program} {E : Env} {I : Im} {w : World} {μ : List Nat} {c : Ctx} {ρ : Nat → Rm} {s : St} {a : Act} {o : Oper} {T : Type}

/-- a bound that may be left out -/
def BoundIs (v : Option Value) (d l : Int) : Prop := (v = none ∧ l = d) ∨ ∃ k, v = some (.int k l)

theorem intOf_some {v : Option AV} {n : Int} (h : intOf v = some n) : ∃ k, asN v = some (k, n) := by
  unfold intOf at h
  split at h
  · rename_i k n' e; injection h with h; subst h; exact ⟨k, e⟩
  · cases h

theorem optI_sound (H : RelI c I μ ρ s a w) {d l : Int} {x : Option Operand} (h : optI s d x = some l) : BoundIs (x.map a.eval) d l := by
  cases x with
  | none => injection h with h; subst h; exact .inl ⟨rfl, rfl⟩
  | some x =>
    obtain ⟨k, hk⟩ := intOf_some h
    exact .inr ⟨k, by simp [opd_int H hk]⟩

theorem run_bound {k : IntKind} {i : Int} {y : Nat} {code : BoundsCode} (h0 : 0 ≤ i) (h1 : i ≤ y) : (Instr.sliceBound (.int k i) y code).run P w = .ok i.toNat w := by
  unfold Instr.sliceBound
  simp only [asIntOf, Sem.run_bind, Sem.run_pure, Result.andThen_ok, Sem.run_ite, h0, h1, and_self, if_true]

theorem run_bounds2 {isSl : Bool} {len cap : Nat} {lo hi : Option Value} {l h : Int} (hl : BoundIs lo 0 l) (hh : BoundIs hi len h) (h0 : 0 ≤ l) (h1 : l ≤ h) (h2 : h ≤ len) (hc : len ≤ cap) :
    (Instr.sliceBounds isSl len cap lo hi none).run P w = .ok (l.toNat, h.toNat, cap) w := by
  have b1 : ∀ k code, (Instr.sliceBound (.int k h) cap code).run P w = .ok h.toNat w := fun k code => run_bound (by omega) (by omega)
  have b2 : ∀ k code, (Instr.sliceBound (.int k l) h.toNat code).run P w = .ok l.toNat w := fun k code => run_bound (by omega) (by omega)
  rcases hh with ⟨rfl, rfl⟩ | ⟨k, rfl⟩ <;> rcases hl with ⟨rfl, rfl⟩ | ⟨k', rfl⟩
  · unfold Instr.sliceBounds; simp [Sem.run_pure]
  · unfold Instr.sliceBounds
    have b3 : ∀ code, (Instr.sliceBound (.int k' l) len code).run P w = .ok l.toNat w := fun code => run_bound (by omega) (by omega)
    simp only [Sem.run_bind, Sem.run_pure, Result.andThen_ok, b3, Int.toNat_natCast]
  · unfold Instr.sliceBounds
    simp only [Sem.run_bind, Sem.run_pure, Result.andThen_ok, b1]; rfl
  · unfold Instr.sliceBounds
    simp only [Sem.run_bind, Sem.run_pure, Result.andThen_ok, b1, b2]

theorem run_bounds3 {len cap : Nat} {lo hi : Option Value} {k : IntKind} {l h m : Int} (hl : BoundIs lo 0 l) (hh : ∃ k, hi = some (.int k h)) (h0 : 0 ≤ l) (h1 : l ≤ h) (h2 : h ≤ m) (hc : m ≤ cap) :
    (Instr.sliceBounds true len cap lo hi (some (.int k m))).run P w = .ok (l.toNat, h.toNat, m.toNat) w := by
  unfold Instr.sliceBounds
  obtain ⟨k2, rfl⟩ := hh
  simp only [Sem.run_bind, run_bound (P := P) (w := w) (k := k) (code := _) (show 0 ≤ m by omega) (show m ≤ (cap : Int) by omega), Result.andThen_ok,
    run_bound (P := P) (w := w) (k := k2) (code := _) (show 0 ≤ h by omega) (show h ≤ (m.toNat : Int) by omega)]
  rcases hl with ⟨rfl, rfl⟩ | ⟨k, rfl⟩
  · simp [Sem.run_pure]
  · have b2 : ∀ code, (Instr.sliceBound (.int k l) h.toNat code).run P w = .ok l.toNat w := fun code => run_bound (by omega) (by omega)
    simp only [Sem.run_bind, b2, Result.andThen_ok, Sem.run_pure]

/-- a part of a row -/
theorem R_cut {t : Ty} {x : List t.den} {ad : Option Addr} {n cap m : Nat} {cells : List Value} {l h : Int} (hn : n = x.length) (hall : RAll (R I w μ t true) x cells) (hnone : ad = none → cap = 0)
    (hc : ∀ d, ad = some d → cellsAt I w d cells) (h0 : 0 ≤ l) (h1 : l ≤ h) (h2 : h ≤ x.length) (h3 : h ≤ m) (hm : m ≤ cap) :
    R I w μ (.sl t) false (cut x l h) [.slice (if m = l.toNat then ad else ad.map (·.add (l.toNat * t.csize))) (h.toNat - l.toNat) (m - l.toNat)] := by
  have e : x = x.take l.toNat ++ (cut x l h ++ x.drop h.toNat) := by
    unfold cut
    have e1 : x.take l.toNat = (x.take h.toNat).take l.toNat := by rw [List.take_take, Nat.min_eq_left (by omega)]
    rw [e1, ← List.append_assoc, List.take_append_drop, List.take_append_drop]
  have hall' := hall
  rw [e] at hall'
  obtain ⟨c1, c2, e1, g1, g2⟩ := RAll_split _ _ _ hall'
  obtain ⟨d1, d2, e2, g3, g4⟩ := RAll_split _ _ _ g2
  have hlen : (cut x l h).length = h.toNat - l.toNat := by unfold cut; rw [List.length_drop, List.length_take]; omega
  refine ⟨_, _, _, d1, rfl, hlen.symm, by omega, g3, ?_, ?_⟩
  · intro hn
    by_cases hml : m = l.toNat
    · omega
    · rw [if_neg hml] at hn
      have : ad = none := by cases ad <;> simp at hn; rfl
      have := hnone this; omega
  · intro d hd
    by_cases hml : m = l.toNat
    · have : d1 = [] := by
        have := RAll_size t _ _ g3
        have h4 : (cut x l h).length = 0 := by rw [hlen]; omega
        rw [h4] at this; exact List.eq_nil_of_length_eq_zero (by simpa using this)
      subst this
      intro i v hv; simp at hv
    · rw [if_neg hml] at hd
      cases ad with
      | none => cases hd
      | some ad =>
        simp only [Option.map_some] at hd
        injection hd with hd; subst hd
        by_cases hne : 0 < d1.length
        · refine cellsAt_part (hc ad rfl) (c1 := c1) (c3 := d2) (by rw [e1, e2, List.append_assoc]) ?_ hne
          rw [RAll_size t _ _ g1, List.length_take, Nat.min_eq_left (by omega)]
        · have : d1 = [] := List.eq_nil_of_length_eq_zero (by omega)
          subst this
          intro i v hv; simp at hv

theorem sliceK_some {l h m n : Int} {K : Option T} {r : T} (e : sliceK l h m n K = some r) : 0 ≤ l ∧ l ≤ h ∧ h ≤ m ∧ m ≤ n ∧ K = some r := by
  unfold sliceK at e
  rcases br_some e with ⟨hb, e⟩ | ⟨_, e⟩
  · simp only [Bool.and_eq_true, decide_eq_true_eq] at hb
    exact ⟨hb.1.1.1, hb.1.1.2, hb.1.2, hb.2, e⟩
  · cases e

theorem slice_run {U : Nat} {x : Operand} {lo hi mx : Option Operand} (ho : o.op = .slice U x lo hi mx) : (execOp a.eval o).run P w =
    ((Instr.sliceAt U (a.eval x) (lo.map a.eval) (hi.map a.eval) (mx.map a.eval)).run P w).andThen fun v w' => .ok (.value v) w' := by
  unfold execOp; rw [ho]; simp only [Sem.run_bind]; rfl

theorem run_sliceAt_sl {U e : Nat} {i : TypeInfo} {ad : Option Addr} {len cap : Nat} {lo hi mx : Option Value} {l h m : Nat} (hU : P.underlying U = some (.slice e)) (hi' : P.info? e = some i)
    (hb : (Instr.sliceBounds true len cap lo hi mx).run P w = .ok (l, h, m) w) :
    (Instr.sliceAt U (.slice ad len cap) lo hi mx).run P w = .ok (.slice (if m = l then ad else ad.map (·.add (l * i.size))) (h - l) (m - l)) w := by
  unfold Instr.sliceAt
  simp only [Sem.run_bind, run_underlying hU, Result.andThen_ok]
  unfold Instr.slice
  simp only [Sem.run_bind, run_underlying hU, Result.andThen_ok, hb, run_sizeOf hi', Sem.run_pure]

theorem run_sliceAt_str {U : Nat} {b : ByteArray} {lo hi : Option Value} {l h m : Nat} (hU : P.underlying U = some .string)
    (hb : (Instr.sliceBounds false b.size b.size lo hi none).run P w = .ok (l, h, m) w) :
    (Instr.sliceAt U (.string b) lo hi none).run P w = .ok (.string (b.extract l h)) w := by
  unfold Instr.sliceAt
  simp only [Sem.run_bind, run_underlying hU, Result.andThen_ok]
  unfold Instr.slice
  simp only [Sem.run_bind, run_underlying hU, Result.andThen_ok, hb, Sem.run_pure, Option.isSome_none, Bool.false_eq_true, if_false]

theorem slice_sound (hE : EnvOK P E) {K : AV → Cap → St → Option T} {r : T} {U : Nat} {x : Operand} {lo hi mx : Option Operand} (H : RelI c I μ ρ s a w) (ho : o.op = .slice U x lo hi mx)
    (h : (match opd s (E.ty U) x with | some v => slK E U s v lo hi mx K | none => none) = some r)
    (hbox : ∀ i y, opd s (E.ty U) x = some ⟨.box i 0, y⟩ → slK E U s ⟨.box i 0, y⟩ lo hi mx K = some r → Yields P o a w (Out K r c a o.dst)) : Yields P o a w (Out K r c a o.dst) := by
  cases hx : opd s (E.ty U) x with
  | none => rw [hx] at h; cases h
  | some p =>
    rw [hx] at h
    have hr := opd_sound H hx
    simp only at h
    have run := slice_run (P := P) (a := a) (w := w) ho
    obtain ⟨pt, px⟩ := p
    cases pt with
    | sl t =>
      have h' : (bif decide (E.ty U = some (.sl t)) then
        match optI s 0 lo, optI s (lenI px) hi with
        | some l, some h =>
          match mx with
          | none => sliceK l h h (lenI px) (K ⟨.sl t, cut px l h⟩ .no s)
          | some m => bif !hi.isSome then none else match intOf (opd s none m) with
            | some m => sliceK l h m (lenI px) (br (eqI h m) (K ⟨.sl t, cut px l h⟩ .fresh s) none)
            | none => none
        | _, _ => none else none) = some r := h
      cases hU : decide (E.ty U = some (.sl t)) with
      | false => rw [hU] at h'; cases h'
      | true =>
      rw [hU] at h'
      simp only [cond_true] at h'
      have hU : E.ty U = some (.sl t) := of_decide_eq_true hU
      obtain ⟨e, hue, hte⟩ := (hE.tys _ _ hU).sl t rfl
      obtain ⟨ie, _, hie, hse, _⟩ := (hE.tys e _ hte).info
      cases hl : optI s 0 lo with
      | none => rw [hl] at h'; cases h'
      | some l =>
      cases hh : optI s (lenI px) hi with
      | none => rw [hl, hh] at h'; cases h'
      | some hv =>
        rw [hl, hh] at h'
        simp only at h'
        have bl := optI_sound H hl
        have bh := optI_sound H hh
        obtain ⟨ad, n, cap, cells, ev, hn, hcap, hall, hnone, hcells⟩ := hr
        have ev : a.eval x = .slice ad n cap := by injection ev
        have hlen : lenI px = (n : Int) := by unfold lenI; rw [hn]
        cases mx with
        | none =>
          simp only at h'
          obtain ⟨g0, g1, g2, g3, hK⟩ := sliceK_some h'
          rw [hlen] at g3 bh
          have hb := run_bounds2 (P := P) (w := w) (isSl := true) bl bh g0 g1 g3 hcap
          have hR := R_cut (m := cap) (l := l) (h := hv) hn hall hnone hcells g0 g1 (by have : n = px.length := hn; omega) (by omega) (Nat.le_refl _)
          refine yields_value ?_ (Out.no hK H hR)
          rw [run, ev, Option.map_none, run_sliceAt_sl hue hie hb, hse]; rfl
        | some mo =>
          simp only at h'
          cases his : hi.isSome with
          | false => rw [his] at h'; cases h'
          | true =>
          rw [his] at h'
          simp only [Bool.not_true, cond_false] at h'
          cases hm : intOf (opd s none mo) with
          | none => rw [hm] at h'; cases h'
          | some m =>
            rw [hm] at h'
            obtain ⟨g0, g1, g2, g3, h2⟩ := sliceK_some h'
            rw [hlen] at g3 bh
            obtain ⟨km, hkm⟩ := intOf_some hm
            rcases br_some h2 with ⟨he, hK⟩ | ⟨_, h2⟩
            · have he : hv = m := by simpa [eqI] using he
              have hh' : ∃ k, hi.map a.eval = some (.int k hv) := by
                rcases bh with ⟨b1, b2⟩ | b1
                · -- no upper bound beside a third one: it is the length
                  cases hi with
                  | none => cases his
                  | some x => simp at b1
                · exact b1
              have hb := run_bounds3 (P := P) (w := w) (cap := cap) (len := n) (k := km) bl hh' g0 g1 g2 (by omega)
              have hR := R_cut (m := m.toNat) (l := l) (h := hv) hn hall hnone hcells g0 g1 (by have : n = px.length := hn; omega) (by omega) (by omega)
              have hrun : (execOp a.eval o).run P w = .ok (.value (.slice (if m.toNat = l.toNat then ad else ad.map (·.add (l.toNat * t.csize))) (hv.toNat - l.toNat) (m.toNat - l.toNat))) w := by
                rw [run, ev]
                simp only [Option.map_some, opd_int H hkm]
                rw [run_sliceAt_sl hue hie hb, hse]; rfl
              refine yields_value hrun ⟨_, .fresh, s, I, μ, ρ, hK, H.toX _, hR, ?_, fun p e => by cases e⟩
              intro t' ht'
              have ht' : t = t' := by injection ht'
              subst ht'
              exact ⟨⟨_, hv.toNat - l.toNat, m.toNat - l.toNat, t.csize⟩, rfl, rfl, .inl (by show hv.toNat - l.toNat = m.toNat - l.toNat; rw [he]), fun q _ => .inl (by show hv.toNat - l.toNat = m.toNat - l.toNat; rw [he])⟩
            · cases h2
    | str =>
      have h' : (bif decide (E.ty U = some .str) then
        match mx, optI s 0 lo, optI s (lenS px) hi with
        | none, some l, some h => sliceK l h h (lenS px) (K ⟨.str, ByteArray.extract px l.toNat h.toNat⟩ .no s)
        | _, _, _ => none else none) = some r := h
      cases hU : decide (E.ty U = some .str) with
      | false => rw [hU] at h'; cases h'
      | true =>
      rw [hU] at h'
      simp only [cond_true] at h'
      have hU : E.ty U = some .str := of_decide_eq_true hU
      have hus := (hE.tys _ _ hU).str rfl
      cases mx with
      | some _ => cases h'
      | none =>
      cases hl : optI s 0 lo with
      | none => rw [hl] at h'; cases h'
      | some l =>
      cases hh : optI s (lenS px) hi with
      | none => rw [hl, hh] at h'; cases h'
      | some hv =>
        rw [hl, hh] at h'
        simp only at h'
        obtain ⟨g0, g1, g2, g3, hK⟩ := sliceK_some h'
        have ex := str_of_R hr
        have hb := run_bounds2 (P := P) (w := w) (isSl := false) (cap := ByteArray.size px) (optI_sound H hl) (optI_sound H hh) g0 g1 g3 (Nat.le_refl _)
        refine yields_value (u := .string (ByteArray.extract px l.toNat hv.toNat)) ?_ (Out.no hK H rfl)
        rw [run, ex, Option.map_none, run_sliceAt_str hus hb]; rfl
    | box i off =>
      cases off with
      | zero => exact hbox i px hx h
      | succ _ => cases h
    | _ => cases h
end Go.Ev
