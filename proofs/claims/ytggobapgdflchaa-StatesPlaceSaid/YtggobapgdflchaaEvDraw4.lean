import Derived.Test.YtggobapgdflchaaEvDraw3
set_option linter.unusedVariables false
namespace Go.Ev
variable {T U : Type} {E : Env} {s s' : St} {ops : Array Oper} {o o' : Oper}

theorem offDst_spec {d : Option Nat} {l : List Nat} (h : offDst d l = true) : ∀ t, t ∈ l → d ≠ some t := by
  intro t ht e
  subst e
  simp only [offDst, List.all_eq_true] at h
  have := h t ht
  simp at this

theorem neDst_spec {d d' : Option Nat} (h : neDst d d' = true) : ∀ p q, d = some p → d' = some q → p ≠ q := by
  rintro p q rfl rfl e
  subst e
  simp [neDst] at h

theorem neDst_comm {d d' : Option Nat} (h : neDst d d' = true) : neDst d' d = true := by
  cases d with
  | none => cases d' <;> rfl
  | some p => cases d' with
    | none => rfl
    | some q =>
      have := neDst_spec h p q rfl rfl
      simp only [neDst, Bool.not_eq_true']
      cases hb : Nat.beq q p with
      | false => rfl
      | true => exact absurd (Nat.eq_of_beq_eq_true hb).symm this

theorem eff_comm' {d d' : Option Nat} {c c' : Cap} {l : List (Option Nat)} (hdd : neDst d d' = true) (h1 : NoLet d l) (h2 : NoLet d' l) (hs : ∀ t, capSlot c = some t → d' ≠ some t) (hs' : ∀ t, capSlot c' = some t → d ≠ some t)
    (hd : ∀ t, c = .taken t → d.isSome = true) (hd' : ∀ t, c' = .taken t → d'.isSome = true)
    (ho : ∀ t, c = .taken t → (nth none l t).isSome = true) (ho' : ∀ t, c' = .taken t → (nth none (effP d c l) t).isSome = true) :
    effP d' c' (effP d c l) = effP d c (effP d' c' l) ∧ (∀ t, c' = .taken t → (nth none l t).isSome = true) ∧ (∀ t, c = .taken t → (nth none (effP d' c' l) t).isSome = true) := by
  cases d with
  | none =>
    refine ⟨rfl, fun t ht => ho' t ht, fun t ht => ?_⟩
    have := hd t ht
    cases this
  | some d =>
    cases d' with
    | none =>
      refine ⟨rfl, fun t ht => ?_, fun t ht => ho t ht⟩
      have := hd' t ht
      cases this
    | some d' =>
      exact eff_comm (neDst_spec hdd d d' rfl rfl) h1 h2 (fun t ht e => hs t ht (by rw [e])) (fun t ht e => hs' t ht (by rw [e])) ho ho'

theorem evC_iff (s : St) (c : Cap) : (∃ c', evC s c = some c') ↔ ∀ t, c = .taken t → (nth none s.cp t).isSome = true := by
  cases c with
  | no => exact ⟨fun _ t e => (by cases e), fun _ => ⟨_, rfl⟩⟩
  | fresh => exact ⟨fun _ t e => (by cases e), fun _ => ⟨_, rfl⟩⟩
  | dup o => cases o with
    | none => exact ⟨fun _ t e => (by cases e), fun _ => ⟨_, rfl⟩⟩
    | some t => exact ⟨fun _ t e => (by cases e), fun _ => ⟨_, rfl⟩⟩
  | taken t =>
    constructor
    · rintro ⟨c', h⟩ t' e
      cases e
      simp only [evC] at h
      cases hc : s.cap t with
      | none => rw [hc] at h; cases h
      | some p => show (s.cap t).isSome = true; rw [hc]; rfl
    · intro h
      have h := h t rfl
      have h : (s.cap t).isSome = true := h
      cases hc : s.cap t with
      | none => rw [hc] at h; cases h
      | some p => exact ⟨.taken p, by simp only [evC, hc]; rfl⟩

theorem run_capIn {x : Res} (h : run E ops o s = some x) : CapIn (opNames o.op) o.dst x.1 x.2.1 := by
  unfold run at h
  cases hgu : o.guard with
  | none => rw [hgu] at h; exact capIn_of h
  | some jw =>
    obtain ⟨j, want⟩ := jw
    rw [hgu] at h
    simp only at h
    cases hd : dstAt ops j with
    | none => rw [hd] at h; cases h
    | some d =>
      rw [hd] at h
      simp only at h
      generalize s.get d = g at h
      obtain ⟨ty, q⟩ := g
      cases ty with
      | bool =>
        simp only at h
        split at h
        · exact capIn_of h
        · cases h; trivial
      | undef => cases h; trivial
      | _ => cases h

theorem putT_comm {d d' : Option Nat} (h : neDst d d' = true) (v v' : AV) (l : List AV) : putT d' v' (putT d v l) = putT d v (putT d' v' l) := by
  cases d with
  | none => rfl
  | some d => cases d' with
    | none => rfl
    | some d' =>
      have hne := neDst_spec h d d' rfl rfl
      apply List.ext_getElem?
      intro i
      simp only [putT, setN_get, setN_length]
      by_cases h1 : i = d
      · subst h1; simp [hne]
      · by_cases h2 : i = d'
        · subst h2; simp [h1]
        · simp [h1, h2]

theorem putT_nth {d : Option Nat} {v : AV} {l : List AV} {t : Nat} (h : d ≠ some t) : nth .top (putT d v l) t = nth .top l t := by
  cases d with
  | none => rfl
  | some d => exact nth_setN_ne _ _ (by intro e; exact h (by rw [e]))

theorem step_iff (hn : NoLet o.dst s.cp) : Step E ops o s s' ↔ ∃ x, run E ops o s = some x ∧ (∃ c, evC s x.2.1 = some c) ∧ s' = { tmps := putT o.dst x.1 s.tmps, boxes := x.2.2, cp := effP o.dst (mask x.1 x.2.1) s.cp } := by
  constructor
  · rintro ⟨x, c, h1, h2, rfl⟩
    refine ⟨x, h1, ⟨c, h2⟩, ?_⟩
    rw [put_eff h2 hn]
  · rintro ⟨x, h1, ⟨c, h2⟩, rfl⟩
    refine ⟨x, c, h1, h2, ?_⟩
    rw [put_eff h2 hn]

theorem fp_agree2 (h : TmAgree (opNames o.op) s s') (hb : ∀ n, fpOf E s o ≠ .al n) : fpOf E s' o = fpOf E s o := by
  have ho : ∀ (x : Operand) (W : Option Ty), (∀ t, t ∈ opdNames x → t ∈ opNames o.op) → opd s W x = opd s' W x := by
    intro x W hx
    cases x with
    | tmp t => show some (s.get t) = some (s'.get t); rw [h t (hx t (by simp [opdNames]))]
    | _ => rfl
  unfold fpOf at hb ⊢
  cases hop : o.op with
  | load W a => simp only; rw [ho a none (by rw [hop]; exact fun t ht => ht)]
  | store W a y => simp only; rw [ho a none (by rw [hop]; exact fun t ht => List.mem_append_left _ ht)]
  | alloc W => rw [hop] at hb; exact absurd rfl (hb _)
  | box W x => rw [hop] at hb; exact absurd rfl (hb _)
  | slice W x lo hi mx => simp only; rw [ho x (E.ty W) (by rw [hop]; exact fun t ht => List.mem_append_left _ ht)]
  | _ => rfl

theorem capSlot_mask {l : List Nat} {d : Option Nat} {v : AV} {c : Cap} (h : CapIn l d v c) {t : Nat} (ht : capSlot (mask v c) = some t) : t ∈ l := by
  unfold mask at ht
  cases hs : v.ty.isSl with
  | false => rw [hs] at ht; cases ht
  | true =>
    rw [hs] at ht
    cases c with
    | no => cases ht
    | fresh => cases ht
    | dup o => cases o with
      | none => cases ht
      | some p => cases ht; exact h
    | taken p => cases ht; exact h.1

theorem mask_taken {l : List Nat} {d : Option Nat} {v : AV} {c : Cap} (h : CapIn l d v c) (t : Nat) : mask v c = .taken t ↔ c = .taken t := by
  constructor
  · intro e
    unfold mask at e
    cases hs : v.ty.isSl with
    | false => rw [hs] at e; cases e
    | true => rw [hs] at e; exact e
  · rintro rfl
    unfold mask
    rw [h.2.1]; rfl

/-- two that do not touch change their places -/
theorem swap {s s1 s2 : St} (hdd : neDst o.dst o'.dst = true) (hi : indep ops o o' = true) (n1 : NoLet o.dst s.cp) (n2 : NoLet o'.dst s.cp) (hco : compat (fpOf E s o) (fpOf E s1 o') = true)
    (h1 : Step E ops o s s1) (h2 : Step E ops o' s1 s2) : ∃ s1', Step E ops o' s s1' ∧ Step E ops o s1' s2 ∧ fpOf E s o' = fpOf E s1 o' ∧ fpOf E s1' o = fpOf E s o := by
  obtain ⟨x, hx, hxc, rfl⟩ := (step_iff n1).1 h1
  have n2' : NoLet o'.dst (effP o.dst (mask x.1 x.2.1) s.cp) := effP_nolet n2 hdd
  obtain ⟨y, hy, hyc, rfl⟩ := (step_iff n2').1 h2
  simp only [indep, Bool.and_eq_true] at hi
  have off1 := offDst_spec hi.1
  have off2 := offDst_spec hi.2
  have cx := run_capIn hx
  have cy := run_capIn hy
  -- the letters
  obtain ⟨e1, e2, e3⟩ := eff_comm' (d := o.dst) (d' := o'.dst) (c := mask x.1 x.2.1) (c' := mask y.1 y.2.1) (l := s.cp) hdd n1 n2 (fun t ht => off2 t (List.mem_append_right _ (capSlot_mask cx ht))) (fun t ht => off1 t (List.mem_append_right _ (capSlot_mask cy ht)))
    (fun t ht => by have := (mask_taken cx t).1 ht; rw [this] at cx; exact cx.2.2) (fun t ht => by have := (mask_taken cy t).1 ht; rw [this] at cy; exact cy.2.2)
    (fun t ht => (evC_iff s x.2.1).1 hxc t ((mask_taken cx t).1 ht)) (fun t ht => (evC_iff _ y.2.1).1 hyc t ((mask_taken cy t).1 ht))
  have hyc' : ∃ c, evC s y.2.1 = some c := (evC_iff s y.2.1).2 fun t ht => e2 t ((mask_taken cy t).2 ht)
  -- what the two read
  have ag : ∀ (b b' : List AV) (p : List (Option Nat)), TmAgree (operNames ops o') ⟨putT o.dst x.1 s.tmps, b, p⟩ ⟨s.tmps, b', s.cp⟩ := fun b b' p t ht => putT_nth (off1 t ht)
  have ag' : ∀ (b b' : List AV) (p : List (Option Nat)), TmAgree (operNames ops o) ⟨putT o'.dst y.1 s.tmps, b, p⟩ ⟨s.tmps, b', s.cp⟩ := fun b b' p t ht => putT_nth (off2 t ht)
  -- the boxes
  have hbx : ∃ bx, run E ops o' s = some (y.1, y.2.1, bx) ∧ run E ops o ⟨putT o'.dst y.1 s.tmps, bx, effP o'.dst (mask y.1 y.2.1) s.cp⟩ = some (x.1, x.2.1, y.2.2) ∧ fpOf E s o' = fpOf E ⟨putT o.dst x.1 s.tmps, x.2.2, effP o.dst (mask x.1 x.2.1) s.cp⟩ o' ∧
      fpOf E ⟨putT o'.dst y.1 s.tmps, bx, effP o'.dst (mask y.1 y.2.1) s.cp⟩ o = fpOf E s o := by
    by_cases hq : Quiet (fpOf E s o)
    · have hxb := run_quiet hq hx
      have hy' : run E ops o' s = some y := by
        rw [← hy]
        exact (run_agree (ag _ _ _) (effP_length _ _ _) hxb).symm
      refine ⟨y.2.2, hy', ?_, ?_, ?_⟩
      · have hsame : ∀ i, fpOf E s o = .rd i → SameAt i s y.2.2 := by
          intro i hi
          rw [hi] at hco
          rcases run_boxes hy with k | ⟨j, z, k1, k2⟩ | ⟨z, k1, k2⟩
          · show nth _ y.2.2 i = _
            rw [k]
            show nth _ x.2.2 i = _
            rw [hxb]
          · show nth _ y.2.2 i = _
            rw [k2]
            rw [k1] at hco
            show nth _ (setN x.2.2 j z) i = _
            rw [nth_setN_ne, hxb]
            rintro rfl
            simp [compat] at hco
          · show nth _ y.2.2 i = _
            rw [k2]
            rw [k1] at hco
            have hlt : i < x.2.2.length := by simpa [compat] using hco
            show nth _ (x.2.2 ++ [z]) i = _
            rw [hxb] at hlt ⊢
            have hg : s.boxes[i]? = some s.boxes[i] := List.getElem?_eq_getElem hlt
            rw [nth_get hg, nth_get (v := s.boxes[i])]
            rw [List.getElem?_append_left hlt]; exact hg
        have hr := run_bx (b := y.2.2) (by
          rcases hq with e | ⟨i, e⟩
          · exact .inl e
          · exact .inr ⟨i, e, hsame i e⟩) hx
        rw [← hr]
        exact run_agree (ag' _ _ _) (effP_length _ _ _) rfl
      · exact (fp_agree (ag x.2.2 s.boxes _).right (by show x.2.2.length = s.boxes.length; rw [hxb])).symm
      · exact fp_agree2 (s := s) (fun t ht => ((ag' y.2.2 s.boxes _).right t ht).symm) (by intro n e; rw [e] at hq; rcases hq with e | ⟨_, e⟩ <;> cases e)
    · -- the other one makes and writes nothing
      have hq' : Quiet (fpOf E ⟨putT o.dst x.1 s.tmps, x.2.2, effP o.dst (mask x.1 x.2.1) s.cp⟩ o') := by
        cases hf : fpOf E s o with
        | no => exact absurd (.inl hf) hq
        | rd i => exact absurd (.inr ⟨i, hf⟩) hq
        | wr i =>
          rw [hf] at hco
          revert hco
          generalize fpOf E ⟨putT o.dst x.1 s.tmps, x.2.2, effP o.dst (mask x.1 x.2.1) s.cp⟩ o' = g
          intro hco
          cases g with
          | no => exact .inl rfl
          | rd j => exact .inr ⟨j, rfl⟩
          | wr j => cases hco
          | al j => cases hco
        | al n =>
          rw [hf] at hco
          revert hco
          generalize fpOf E ⟨putT o.dst x.1 s.tmps, x.2.2, effP o.dst (mask x.1 x.2.1) s.cp⟩ o' = g
          intro hco
          cases g with
          | no => exact .inl rfl
          | rd j => exact .inr ⟨j, rfl⟩
          | wr j => cases hco
          | al j => cases hco
      have hyb : y.2.2 = x.2.2 := run_quiet hq' hy
      have hsame : ∀ i, fpOf E ⟨putT o.dst x.1 s.tmps, x.2.2, effP o.dst (mask x.1 x.2.1) s.cp⟩ o' = .rd i → nth .top s.boxes i = nth .top x.2.2 i := by
        intro i hi
        rw [hi] at hco
        rcases run_boxes hx with k | ⟨j, z, k1, k2⟩ | ⟨z, k1, k2⟩
        · rw [k]
        · rw [k2, nth_setN_ne]
          rintro rfl
          rw [k1] at hco
          simp [compat] at hco
        · rw [k1] at hco
          have hlt : i < s.boxes.length := by simpa [compat] using hco
          have hg : s.boxes[i]? = some s.boxes[i] := List.getElem?_eq_getElem hlt
          rw [k2, nth_get hg, nth_get (v := s.boxes[i])]
          rw [List.getElem?_append_left hlt]; exact hg
      have hr := run_bx (b := s.boxes) (by
          rcases hq' with e | ⟨i, e⟩
          · exact .inl e
          · exact .inr ⟨i, e, hsame i e⟩) hy
      have hy' : run E ops o' s = some (y.1, y.2.1, s.boxes) := by
        rw [← hr]
        exact (run_agree (s := onBx ⟨putT o.dst x.1 s.tmps, x.2.2, effP o.dst (mask x.1 x.2.1) s.cp⟩ s.boxes) (s' := s) (ag _ _ _) (effP_length _ _ _) rfl).symm
      refine ⟨s.boxes, hy', ?_, ?_, ?_⟩
      · rw [hyb]
        rw [show (x.1, x.2.1, x.2.2) = x from rfl, ← hx]
        exact run_agree (ag' _ _ _) (effP_length _ _ _) rfl
      · exact fp_agree2 (s' := s) (ag x.2.2 s.boxes _).right (by intro n e; rw [e] at hq'; rcases hq' with e | ⟨_, e⟩ <;> cases e)
      · exact fp_agree (ag' s.boxes s.boxes _).right rfl
  obtain ⟨bx, b1, b2, b3, b4⟩ := hbx
  refine ⟨⟨putT o'.dst y.1 s.tmps, bx, effP o'.dst (mask y.1 y.2.1) s.cp⟩, (step_iff n2).2 ⟨_, b1, hyc', rfl⟩, ?_, b3, b4⟩
  refine (step_iff (effP_nolet n1 (neDst_comm hdd))).2 ⟨_, b2, (evC_iff _ x.2.1).2 fun t ht => e3 t ((mask_taken cx t).2 ht), ?_⟩
  simp only
  rw [e1, putT_comm hdd]
end Go.Ev
