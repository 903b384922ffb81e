import Derived.Test.YtggobapgdflchaaEvDraw2
set_option linter.unusedVariables false
namespace Go.Ev
variable {T U : Type} {E : Env} {s s' : St} {ops : Array Oper} {o o' : Oper}

def TmAgree (l : List Nat) (s s' : St) : Prop := ∀ t, t ∈ l → s.get t = s'.get t

theorem TmAgree.tl {l : List Nat} (h : TmAgree l s s') (hc : s.cp.length = s'.cp.length) : Agree l (tl s) (tl s') := by
  intro t ht
  refine ⟨h t ht, ?_⟩
  rw [cap_tl, cap_tl, hc]
theorem TmAgree.left {l m : List Nat} (h : TmAgree (l ++ m) s s') : TmAgree l s s' := fun t ht => h t (List.mem_append_left _ ht)
theorem TmAgree.right {l m : List Nat} (h : TmAgree (l ++ m) s s') : TmAgree m s s' := fun t ht => h t (List.mem_append_right _ ht)

theorem run_agree (h : TmAgree (operNames ops o) s s') (hc : s.cp.length = s'.cp.length) (hb : s.boxes = s'.boxes) : run E ops o s = run E ops o s' := by
  have main : opK E noCall (tl s) o Kt = opK E noCall (tl s') o Kt := opK_agree (h.right.tl hc) hb fun v c bs => rfl
  have hg := h.left
  unfold run
  unfold guardNames at hg
  cases hgu : o.guard with
  | none => exact main
  | some jw =>
    obtain ⟨j, want⟩ := jw
    rw [hgu] at hg
    simp only at hg ⊢
    cases hd : dstAt ops j with
    | none => rfl
    | some d =>
      rw [hd] at hg
      have e := hg d (by simp)
      simp only [e, main, hb]

theorem fp_agree (h : TmAgree (opNames o.op) s s') (hb : s.boxes.length = s'.boxes.length) : fpOf E s o = fpOf E s' o := by
  have ho : ∀ (x : Operand) (W : Option Ty), (∀ t, t ∈ opdNames x → t ∈ opNames o.op) → opd s W x = opd s' W x := by
    intro x W hx
    cases x with
    | tmp t => show some (s.get t) = some (s'.get t); rw [h t (hx t (by simp [opdNames]))]
    | _ => rfl
  unfold fpOf
  cases hop : o.op with
  | load W a => simp only; rw [ho a none (by rw [hop]; exact fun t ht => ht)]
  | store W a y => simp only; rw [ho a none (by rw [hop]; exact fun t ht => List.mem_append_left _ ht)]
  | alloc W => simp only [hb]
  | box W x => simp only [hb]
  | slice W x lo hi mx => simp only; rw [ho x (E.ty W) (by rw [hop]; exact fun t ht => List.mem_append_left _ ht)]
  | _ => rfl

/-- it makes and writes no box -/
def Quiet (f : Fp) : Prop := f = .no ∨ ∃ i, f = .rd i

theorem fp_tl (s : St) (o : Oper) : fpOf E (tl s) o = fpOf E s o := by
  refine fp_agree (fun t _ => rfl) rfl

theorem run_bx {b : List AV} {x : Res} (hf : fpOf E s o = .no ∨ ∃ i, fpOf E s o = .rd i ∧ SameAt i s b) (h : run E ops o s = some x) : run E ops o (onBx s b) = some (x.1, x.2.1, b) := by
  have main : opK E noCall (tl s) o Kt = some x → opK E noCall (tl (onBx s b)) o Kt = some (x.1, x.2.1, b) := by
    intro h
    by_cases hm : isMem o.op = false
    · have := opK_bx (E := E) (s := tl s) (o := o) (b := b) hm (by rw [fp_tl]; exact hf)
      rw [h] at this
      exact this
    · exfalso
      have hf' : Quiet (fpOf E (tl s) o) := by
        rw [fp_tl]
        rcases hf with hf | ⟨i, hf, _⟩
        · exact .inl hf
        · exact .inr ⟨i, hf⟩
      cases ho : o.op with
      | store W a y =>
        obtain ⟨i, z, h1, _⟩ := opK_wr ho h
        rw [h1] at hf'
        rcases hf' with e | ⟨_, e⟩ <;> cases e
      | alloc W => unfold fpOf at hf'; rw [ho] at hf'; rcases hf' with e | ⟨_, e⟩ <;> cases e
      | box W x => unfold fpOf at hf'; rw [ho] at hf'; rcases hf' with e | ⟨_, e⟩ <;> cases e
      | _ => rw [ho] at hm; exact hm rfl
  unfold run at h ⊢
  cases hgu : o.guard with
  | none => rw [hgu] at h; exact main h
  | some jw =>
    obtain ⟨j, want⟩ := jw
    rw [hgu] at h
    simp only at h ⊢
    cases hd : dstAt ops j with
    | none => rw [hd] at h; cases h
    | some d =>
      rw [hd] at h
      simp only at h ⊢
      have e : (onBx s b).get d = s.get d := rfl
      rw [e]
      generalize s.get d = g at h
      obtain ⟨ty, q⟩ := g
      cases ty with
      | bool =>
        simp only at h ⊢
        split at h
        · rename_i hq; rw [if_pos hq]; exact main h
        · rename_i hq; rw [if_neg hq]; cases h; rfl
      | undef => cases h; rfl
      | _ => cases h

theorem run_quiet {x : Res} (hf : Quiet (fpOf E s o)) (h : run E ops o s = some x) : x.2.2 = s.boxes := by
  have h2 : run E ops o (onBx s s.boxes) = some (x.1, x.2.1, s.boxes) := run_bx (by
    rcases hf with hf | ⟨i, hf⟩
    · exact .inl hf
    · exact .inr ⟨i, hf, rfl⟩) h
  have : onBx s s.boxes = s := rfl
  rw [this, h] at h2
  exact congrArg (fun y : Option Res => (y.getD x).2.2) h2

theorem opK_slBox {x : Res} {W : Nat} {y : Operand} {lo hi mx : Option Operand} (ho : o.op = .slice W y lo hi mx) (hf : fpOf E s o ≠ .no) (h : opK E noCall s o Kt = some x) : ∃ i z, fpOf E s o = .wr i ∧ x.2.2 = setN s.boxes i z := by
  unfold opK at h
  unfold fpOf at hf ⊢
  rw [ho] at h hf ⊢
  simp only at h hf ⊢
  cases hv : opd s (E.ty W) y with
  | none => rw [hv] at h; cases h
  | some v =>
    rw [hv] at h hf
    simp only at h
    unfold slK at h
    split at h
    · exact absurd rfl hf
    · exact absurd rfl hf
    · rename_i i _
      refine ⟨i, .undef, rfl, ?_⟩
      unfold slBoxK at h
      split at h
      · split at h
        · rename_i W' _ _ _ _ _ _
          cases hc : E.arrs.contains W with
          | false => rw [hc] at h; cases h
          | true =>
            rw [hc] at h
            simp only [Bool.not_true, cond_false] at h
            split at h
            · cases h; rfl
            · cases h
        · cases h
      · cases h
    · cases h

/-- what it does to the boxes -/
theorem run_boxes {x : Res} (h : run E ops o s = some x) : x.2.2 = s.boxes ∨ (∃ i z, fpOf E s o = .wr i ∧ x.2.2 = setN s.boxes i z) ∨ ∃ z, fpOf E s o = .al s.boxes.length ∧ x.2.2 = s.boxes ++ [z] := by
  by_cases hq : Quiet (fpOf E s o)
  · exact .inl (run_quiet hq h)
  · have main : opK E noCall (tl s) o Kt = some x → x.2.2 = s.boxes ∨ (∃ i z, fpOf E s o = .wr i ∧ x.2.2 = setN s.boxes i z) ∨ ∃ z, fpOf E s o = .al s.boxes.length ∧ x.2.2 = s.boxes ++ [z] := by
      intro h
      cases ho : o.op with
      | store W a y =>
        obtain ⟨i, z, h1, h2⟩ := opK_wr ho h
        rw [fp_tl] at h1
        exact .inr (.inl ⟨i, z, h1, h2⟩)
      | alloc W =>
        obtain ⟨z, hz⟩ := opK_al (.inl ⟨W, ho⟩) h
        exact .inr (.inr ⟨z, by unfold fpOf; rw [ho], hz⟩)
      | box W y =>
        obtain ⟨z, hz⟩ := opK_al (.inr ⟨W, y, ho⟩) h
        exact .inr (.inr ⟨z, by unfold fpOf; rw [ho], hz⟩)
      | slice W y lo hi mx =>
        obtain ⟨i, z, h1, h2⟩ := opK_slBox ho (fun e => hq (.inl (by rw [← fp_tl]; exact e))) h
        rw [fp_tl] at h1
        exact .inr (.inl ⟨i, z, h1, h2⟩)
      | load W a =>
        exfalso
        apply hq
        unfold fpOf
        rw [ho]
        simp only
        generalize opd s none a = z
        cases z with
        | none => exact .inl rfl
        | some z => obtain ⟨t, q⟩ := z; cases t <;> first | exact .inl rfl | exact .inr ⟨_, rfl⟩
      | _ => exact absurd (.inl (by unfold fpOf; rw [ho])) hq
    unfold run at h
    cases hgu : o.guard with
    | none => rw [hgu] at h; exact main h
    | some jw =>
      obtain ⟨j, want⟩ := jw
      rw [hgu] at h
      simp only at h
      cases hd : dstAt ops j with
      | none => rw [hd] at h; cases h
      | some d =>
        rw [hd] at h
        simp only at h
        generalize s.get d = g at h
        obtain ⟨ty, q⟩ := g
        cases ty with
        | bool =>
          simp only at h
          split at h
          · exact main h
          · cases h; exact .inl rfl
        | undef => cases h; exact .inl rfl
        | _ => cases h
end Go.Ev
