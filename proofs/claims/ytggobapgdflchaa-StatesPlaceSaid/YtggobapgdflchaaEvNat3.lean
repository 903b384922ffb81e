import Derived.Test.YtggobapgdflchaaEvNat2
set_option linter.unusedVariables false
namespace Go.Ev
variable {T U : Type} {E : Env} {s : St} {K : AV → Cap → St → Option T}

theorem opK_nat (s : St) (o : Oper) (K : AV → Cap → St → Option T) : opK E noCall s o K = (opK E noCall (tl s) o Kt).bind (Gt s K) := by
  unfold opK
  cases ho : o.op with
  | move x =>
    simp only [opd_tl]
    split
    · exact kc _ _ _ (evC_opdCap s x)
    · rfl
  | assign x =>
    simp only [opd_tl]
    split
    · exact kc _ _ _ (evC_opdCap s x)
    · rfl
  | pick c a b =>
    simp only [opd_tl]
    split
    · split
      · rfl
      · rw [br_bind]; rfl
    · rfl
  | alloc W =>
    simp only
    split
    · rfl
    · split <;> rfl
    · rfl
  | box W x =>
    simp only [opd_tl]
    split
    · rw [cond_bind]; rfl
    · rfl
  | build W parts =>
    simp only [setParts_tl]
    split
    · rw [cond_bind]
      congr 1
      split
      · split <;> rfl
      · rfl
    · rfl
  | buildSlice W len parts =>
    simp only [setElems_tl]
    split
    · split
      · split
        · rw [cond_bind]; rfl
        · rfl
      · rfl
    · rfl
  | load W a =>
    simp only [opd_tl]
    split
    · exact loadK_nat (K := fun v c => K v c s) (K' := fun v c => Kt v c (tl s)) (G := Gt s K) (fun v => rfl) W s _
    · rfl
  | store W a x =>
    simp only [opd_tl]
    split
    · exact storeK_nat (K := fun s' => K .undef .no s') (K' := fun s' => Kt .undef .no s') (G := Gt s K) (fun bs => rfl) W _ _
    · rfl
  | nilCheck x =>
    simp only [opd_tl]
    split
    · rw [cond_bind]; rfl
    · rfl
  | binOp op xT x y yT =>
    simp only [opd_tl]
    split
    · rw [cond_bind]
      congr 1
      exact binK_nat (K := fun v => K v .no s) (K' := fun v => Kt v .no (tl s)) (G := Gt s K) (fun v => rfl) _ _ _
    · rfl
  | unOp op t x =>
    cases op <;> simp only [opd_tl] <;> first | rfl | (split <;> rfl)
  | convert a b x =>
    simp only [opd_tl]
    split
    · exact convK_nat (K := fun v => K v .no s) (K' := fun v => Kt v .no (tl s)) (G := Gt s K) (fun v => rfl) _ _ _
    · rfl
  | makeFunc f first captured =>
    cases f <;> simp only [opds_tl] <;> first | rfl | (split <;> rfl)
  | slice W x lo hi mx =>
    simp only [opd_tl]
    split
    · exact slK_nat _ _ _ _ _
    · rfl
  | fieldAddr S x f =>
    simp only [opd_tl]
    split
    · exact fieldAddrK_nat (K := fun v => K v .no s) (K' := fun v => Kt v .no (tl s)) (G := Gt s K) (fun v => rfl) _ _ _
    · rfl
  | field W x f =>
    simp only [opd_tl]
    split
    · rw [cond_bind]
      congr 1
      split <;> rfl
    · rfl
  | indexAddr W x i =>
    simp only [opd_tl]
    split
    · exact idxAddrK_nat (K := fun v => K v .no s) (K' := fun v => Kt v .no (tl s)) (G := Gt s K) (fun v => rfl) _ _ _ _
    · rfl
  | index W x i =>
    simp only [opd_tl]
    split
    · exact idxK_nat (K := fun v => K v .no s) (K' := fun v => Kt v .no (tl s)) (G := Gt s K) (fun v => rfl) _ _ _
    · rfl
  | extract x i =>
    simp only [opd_tl]
    split
    · split
      · rw [cond_bind]; rfl
      · rfl
    · rfl
  | call c =>
    simp only [opds_tl]
    split
    · rename_i args _
      cases hc : c.callee with
      | builtin b =>
        simp only
        rw [cond_bind]
        congr 1
        exact builtinK_nat _ _ _ _
      | value g =>
        simp only [opd_tl]
        split
        · rw [cond_bind]
          congr 1
          exact callK_nat _ _
        · rfl
      | _ => rfl
    · rfl
  | _ => rfl

/-! What of a state an operation hangs on. -/

def Agree (l : List Nat) (s s' : St) : Prop := ∀ t, t ∈ l → s.get t = s'.get t ∧ s.cap t = s'.cap t

variable {s' : St} {l : List Nat}

theorem opd_agree {x : Operand} (h : Agree (opdNames x) s s') (W : Option Ty) : opd s W x = opd s' W x := by
  cases x with
  | tmp t => show some (s.get t) = some (s'.get t); rw [(h t (by simp [opdNames])).1]
  | _ => rfl
theorem opdCap_agree {x : Operand} (h : Agree (opdNames x) s s') : opdCap s x = opdCap s' x := by
  cases x with
  | tmp t => show Cap.dup (s.cap t) = Cap.dup (s'.cap t); rw [(h t (by simp [opdNames])).2]
  | _ => rfl
theorem Agree.sub {m : List Nat} (h : Agree l s s') (k : ∀ t, t ∈ m → t ∈ l) : Agree m s s' := fun t ht => h t (k t ht)
theorem opds_agree : ∀ (l : List Operand) (Ts : List Nat), Agree (l.flatMap opdNames) s s' → opds s E l Ts = opds s' E l Ts
  | [], _, _ => rfl
  | o :: l, [], h => by
    unfold opds
    rw [opd_agree (h.sub (by simp; exact fun t ht => .inl ht)), opds_agree l [] (h.sub (by simp; exact fun t o ho ht => .inr ⟨o, ho, ht⟩))]
  | o :: l, W :: Ts, h => by
    unfold opds
    rw [opd_agree (h.sub (by simp; exact fun t ht => .inl ht)), opds_agree l Ts (h.sub (by simp; exact fun t o ho ht => .inr ⟨o, ho, ht⟩))]
theorem caps_agree : ∀ (l : List Operand), Agree (l.flatMap opdNames) s s' → l.map (opdCap s) = l.map (opdCap s')
  | [], _ => rfl
  | o :: l, h => by
    simp only [List.map_cons]
    rw [opdCap_agree (h.sub (by simp; exact fun t ht => .inl ht)), caps_agree l (h.sub (by simp; exact fun t o ho ht => .inr ⟨o, ho, ht⟩))]
theorem setParts_agree (t : Ty) : ∀ (l : List (Nat × Operand)) (x : t.den), Agree (l.flatMap fun p => opdNames p.2) s s' → setParts s t x l = setParts s' t x l
  | [], _, _ => rfl
  | (i, o) :: l, x, h => by
    unfold setParts
    rw [opd_agree (h.sub (by simp; exact fun t ht => .inl ht))]
    congr 1
    split
    · congr 1
      split
      · exact setParts_agree t l _ (h.sub (by simp; exact fun t a b hb ht => .inr ⟨a, b, hb, ht⟩))
      · rfl
    · rfl
theorem setElems_agree (t : Ty) : ∀ (l : List (Nat × Operand)) (x : List t.den), Agree (l.flatMap fun p => opdNames p.2) s s' → setElems s t x l = setElems s' t x l
  | [], _, _ => rfl
  | (i, o) :: l, x, h => by
    unfold setElems
    rw [opd_agree (h.sub (by simp; exact fun t ht => .inl ht))]
    split
    · split
      · cases (Nat.blt i x.length && !t.isTop) with
        | false => rfl
        | true => exact setElems_agree t l _ (h.sub (by simp; exact fun t a b hb ht => .inr ⟨a, b, hb, ht⟩))
      · rfl
    · rfl
theorem optI_agree {o : Option Operand} (h : Agree (optNames o) s s') (d : Int) : optI s d o = optI s' d o := by
  cases o with
  | none => rfl
  | some o => show intOf (opd s none o) = intOf (opd s' none o); rw [opd_agree h]
end Go.Ev
