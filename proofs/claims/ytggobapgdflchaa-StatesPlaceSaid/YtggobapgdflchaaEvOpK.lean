import Derived.Test.YtggobapgdflchaaEvCall
set_option linter.unusedVariables false
namespace Go.Ev
open Go.RowKit
variable {P : Program} {E : Env} {I I' : Im} {w w' : World} {μ μ' : List Nat} {c : Ctx} {ρ : Nat → Rm} {s : St} {a : Act} {o : Oper} {T : Type} {bs bs' : List AV}

/-- a box is fixed for good -/
theorem freeze_sound {X : Nat → Prop} (H : RelI c I μ ρ s a w) {i b : Nat} (hi : μ[i]? = some b) :
    RelX X c (fun x o => I x o ∨ x = b) μ ρ (deadBox s i) a w ∧ Grow I w μ (fun x o => I x o ∨ x = b) w μ := by
  have h := H.mem
  have hbm := List.mem_of_getElem? hi
  have g : Grow I w μ (fun x o => I x o ∨ x = b) w μ := ⟨fun _ _ k => .inl k, fun _ _ => rfl, fun _ _ k => k⟩
  refine ⟨RelX.step (bs' := setN s.boxes i .undef) H ⟨h.below, h.base, h.grow.trans g, h.sizeS, by rw [setN_length, h.blen], ?_, h.nodup, h.mu, h.munew, ?_, ?_⟩ g ?_, g⟩
  · intro j v b' hv hmb
    rw [setN_get] at hv
    split at hv
    · cases hv; exact .inl rfl
    · rename_i hj
      have hne : b' ≠ b := by
        rintro rfl
        have : j = i := (List.getElem?_inj (List.getElem?_eq_some_iff.1 hmb).1 h.nodup).1 (hmb.trans hi.symm)
        subst this
        exact hj ⟨rfl, by rw [h.blen]; exact (List.getElem?_eq_some_iff.1 hi).1⟩
      rcases h.boxes j v b' hv hmb with k | ⟨cs, et, h1, h2, h3⟩
      · exact .inl k
      · refine .inr ⟨cs, et, h1, h2.grow g, ?_⟩
        rintro o (k | k)
        · exact h3 o k
        · exact hne k
  · rintro x o (k | k)
    · exact h.imlt x o k
    · subst k; exact (h.mu _ hbm).2
  · intro x hx
    obtain ⟨h1, h2, h3, h4⟩ := h.fr x hx
    refine ⟨h1, h2, h3, ?_⟩
    rintro o (k | k)
    · exact h4 o k
    · subst k; exact absurd hbm h3
  · intro p hp _
    rcases H.rooms p hp trivial with k | ⟨ad, cs, et, k1, k2, k3, k4, k5, k6, k7, k8, k9⟩
    · exact .inl k
    · refine .inr ⟨ad, cs, et, k1, k2, k3, k4, k5, k6, k7, k8, ?_⟩
      rintro o ho (k | k)
      · exact k9 o ho k
      · exact k7 (by rw [k]; exact hbm)

theorem sliceBox_sound (hE : EnvOK P E) {K : AV → Cap → St → Option T} {r : T} {U i : Nat} {x : Operand} {lo hi mx : Option Operand} (H : RelI c I μ ρ s a w) (ho : o.op = .slice U x lo hi mx) (y : Unit)
    (hx : opd s (E.ty U) x = some ⟨.box i 0, y⟩) (h : slK E U s ⟨.box i 0, y⟩ lo hi mx K = some r) : Yields P o a w (Out K r c a o.dst) := by
  have hr := opd_sound H hx
  obtain ⟨b, hb, ev⟩ := ptr_box hr
  have h' : slBoxK E U s i lo hi mx K = some r := h
  unfold slBoxK at h'
  split at h'
  · rename_i t hU
    obtain ⟨cv, hcv, hn, hcont⟩ := box_content H.mem hb
    rw [hn] at h'
    cases hc : castTo (.st t) cv with
    | none => rw [hc] at h'; cases h'
    | some z =>
      rw [hc] at h'
      simp only at h'
      have := castTo_some hc
      subst this
      cases ha : E.arrs.contains U with
      | false => rw [ha] at h'; cases h'
      | true =>
        rw [ha] at h'
        simp only [Bool.not_true, cond_false] at h'
        cases hl : chainList (chainHd t) t z with
        | none => rw [hl] at h'; cases h'
        | some l =>
          rw [hl] at h'
          simp only at h'
          obtain ⟨e, hue, hte, hpos, _⟩ := arr_ty hE hU (by simpa using ha)
          obtain ⟨ie, _, hie, hse, _⟩ := (hE.tys e _ hte).info
          rcases hcont with hu | ⟨cs, et, hh, hrr, hI⟩
          · cases hu
          · obtain ⟨g1, g2⟩ := freeze_sound (X := noTake .no) H hb
            obtain ⟨k1, k2⟩ := chainList_spec _ _ _ _ _ hl hrr
            have hrun : (execOp a.eval o).run P w = .ok (.value (.slice (some ⟨b, 0, none⟩) (chainLen t) (chainLen t))) w := by
              have run := slice_run (P := P) (a := a) (w := w) ho
              rw [run, ev]
              unfold Instr.sliceAt
              have hne : ¬ (chainLen t = 0) := by omega
              simp only [Sem.run_bind, run_underlying hue, Result.andThen_ok, Instr.sureAddr, Sem.run_pure, Option.map_none, Instr.sliceBounds, run_sizeOf hie, Nat.sub_zero, Nat.zero_mul, hne, if_false, Addr.add_zero']
            refine yields_value hrun ⟨⟨.sl (chainHd t), l⟩, .no, _, _, μ, ρ, h', g1, ⟨some ⟨b, 0, none⟩, chainLen t, chainLen t, cs.toList, rfl, k2.symm, Nat.le_refl _, RAll.mono (fun (x : (chainHd t).den) cs hx => hx.grow g2) _ _ k1, (fun h => by cases h), fun ad had => ?_⟩, trivial, fun p e => by cases e⟩
            cases had
            intro j v hj
            rw [add_lit]
            refine ⟨?_, .inr rfl⟩
            simp only [World.cell?, hh, Nat.zero_add, Option.isSome_none, Bool.false_eq_true, if_false]
            simpa using hj
  · cases h'

theorem opK_sound (hE : EnvOK P E) {C : CallSem T} (hC : CallOK P C) {K : AV → Cap → St → Option T} {r : T} (H : RelI c I μ ρ s a w) (h : opK E C s o K = some r) : Yields P o a w (Out K r c a o.dst) := by
  unfold opK at h
  cases ho : o.op with
  | move x => rw [ho] at h; exact move_sound H (.inl ho) h
  | assign x => rw [ho] at h; exact move_sound H (.inr ho) h
  | pick x y z => rw [ho] at h; exact pick_sound H ho h
  | alloc U => rw [ho] at h; exact alloc_sound hE H ho h
  | box U x => rw [ho] at h; exact box_sound hE H ho h
  | build U parts => rw [ho] at h; exact build_sound hE H ho h
  | buildSlice U len parts => rw [ho] at h; exact buildSlice_sound hE H ho h
  | load U x => rw [ho] at h; exact load_sound hE H ho h
  | store U x y => rw [ho] at h; exact store_sound hE H ho h
  | nilCheck x => rw [ho] at h; exact nilCheck_sound H ho h
  | binOp op xT x y yT => rw [ho] at h; exact binOp_sound hE H ho h
  | unOp op t x =>
    rw [ho] at h
    cases op with
    | not =>
      simp only at h
      cases hx : asB (opd s none x) with
      | none => rw [hx] at h; cases h
      | some b => rw [hx] at h; exact not_sound H ho hx h
    | neg =>
      simp only at h
      cases hx : asN (opd s none x) with
      | none => rw [hx] at h; cases h
      | some kn => obtain ⟨k, n⟩ := kn; rw [hx] at h; exact neg_sound H ho hx h
    | _ => cases h
  | convert src dst x => rw [ho] at h; exact convert_sound hE H ho h
  | makeFunc fn first captured =>
    rw [ho] at h
    cases fn with
    | func f => exact makeFunc_sound H ho h
    | _ => cases h
  | slice U x lo hi mx =>
    rw [ho] at h
    exact slice_sound hE H ho h (fun i y hx hk => sliceBox_sound hE H ho y hx hk)
  | fieldAddr S x f => rw [ho] at h; exact fieldAddr_sound hE H ho h
  | field U x f => rw [ho] at h; exact field_sound hE H ho h
  | indexAddr U x i => rw [ho] at h; exact indexAddr_sound hE H ho h
  | index U x i => rw [ho] at h; exact index_sound hE H ho h
  | extract x i => rw [ho] at h; exact extract_sound H ho h
  | call cl =>
    rw [ho] at h
    simp only at h
    cases hvs : opds s E cl.args.toList cl.argTypes.toList with
    | none => rw [hvs] at h; cases h
    | some vs =>
      rw [hvs] at h
      simp only at h
      cases hcl : cl.callee with
      | builtin b => rw [hcl] at h; exact builtin_sound hE H ho hcl hvs h
      | invoke x m => rw [hcl] at h; cases h
      | value g =>
        rw [hcl] at h
        simp only at h
        cases hg : opd s none g with
        | none => rw [hg] at h; cases h
        | some p =>
          rw [hg] at h
          have hr := opd_sound H hg
          obtain ⟨pt, px⟩ := p
          cases pt with
          | fn f ta tc =>
            simp only at h
            cases hs : ((unchain ta px.1).all (fun v => v.ty.single) && (unchain tc px.2).all (fun v => v.ty.single)) with
            | false => rw [hs] at h; cases h
            | true =>
              rw [hs] at h
              simp only [cond_true] at h
              simp only [Bool.and_eq_true, List.all_eq_true] at hs
              obtain ⟨va, vc, e, r1, r2⟩ := hr
              have e : a.eval g = .func (.func f) va.toArray vc.toArray := by injection e
              have ua := unchain_R ta px.1 va r1 (by cases ta <;> simp [Ty.single, isPr]) hs.1
              have uc := unchain_R tc px.2 vc r2 (by cases tc <;> simp [Ty.single, isPr]) hs.2
              have hargs := opds_sound H _ _ _ hvs
              have hrl := (ua.append hargs).append uc
              obtain ⟨hk, hcalls⟩ := callK_sound (o := o) hE hC H hrl h
              have hrun : (execOp a.eval o).run P w = .ok (.enter f (va ++ cl.args.toList.map a.eval ++ vc).toArray) w := by
                unfold execOp; rw [ho]
                simp only [Sem.run_bind, resolve, hcl, e, Deferred.ofValue, Sem.run_pure, Result.andThen_ok, invoke, run_callFunc hk]
                congr 2
                apply Array.toList_inj.1
                simp
              unfold Yields
              rw [hrun]
              exact hcalls
          | _ => cases h
  | _ => rw [ho] at h; cases h
end Go.Ev
