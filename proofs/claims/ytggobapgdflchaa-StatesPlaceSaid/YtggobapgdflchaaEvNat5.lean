import Derived.Test.YtggobapgdflchaaEvNat4
set_option linter.unusedVariables false
namespace Go.Ev
variable {T U : Type} {E : Env} {s s' : St}

def onBx (s : St) (b : List AV) : St := { s with boxes := b }
theorem opd_bx (b : List AV) (W : Option Ty) (x : Operand) : opd (onBx s b) W x = opd s W x := by cases x <;> rfl
theorem opdCap_bx (b : List AV) (x : Operand) : opdCap (onBx s b) x = opdCap s x := by cases x <;> rfl
theorem bx_agree (b : List AV) (l : List Nat) : Agree l (onBx s b) s := fun _ _ => ⟨rfl, rfl⟩

def Gb (b : List AV) : Res → Option Res := fun x => some (x.1, x.2.1, b)

theorem gb (b : List AV) (v : AV) (c : Cap) : Kt v c (onBx s b) = (Kt v c s).bind (Gb b) := rfl

/-- the box is as it was -/
def SameAt (i : Nat) (s : St) (b : List AV) : Prop := nth .top b i = nth .top s.boxes i

theorem loadK_bx {b : List AV} {p : AV} (hp : ∀ i, (fpPtr true (some p) = .rd i) → SameAt i s b) (W : Nat) :
    loadK E W (onBx s b) p (fun v c => Kt v c (onBx s b)) = (loadK E W s p (fun v c => Kt v c s)).bind (Gb b) := by
  unfold loadK
  split
  · rfl
  · split
    · rw [cond_bind]; rfl
    · rename_i i off _
      have h : nth .top b i = nth .top s.boxes i := hp i rfl
      simp only [onBx]
      rw [h]
      split <;> rfl
    · rename_i i offs _
      have h : nth .top b i = nth .top s.boxes i := hp i rfl
      simp only [onBx]
      rw [h]
      split
      · rfl
      · split
        · split <;> rfl
        · rfl
    · rfl

def isMem : Op → Bool
  | .store _ _ _ | .alloc _ | .box _ _ => true
  | _ => false

/-- an operation that makes and writes no box: it hangs on the box alone that it reads -/
theorem opK_bx {o : Oper} {b : List AV} (hm : isMem o.op = false) (hf : fpOf E s o = .no ∨ ∃ i, fpOf E s o = .rd i ∧ SameAt i s b) :
    opK E noCall (onBx s b) o Kt = (opK E noCall s o Kt).bind (Gb b) := by
  unfold opK
  unfold fpOf at hf
  cases ho : o.op with
  | move x =>
    simp only [opd_bx, opdCap_bx]
    split <;> rfl
  | assign x =>
    simp only [opd_bx, opdCap_bx]
    split <;> rfl
  | pick c a b =>
    simp only [opd_bx]
    split
    · split
      · rfl
      · rw [br_bind]; rfl
    · rfl
  | alloc W => rw [ho] at hm; cases hm
  | box W x => rw [ho] at hm; cases hm
  | build W parts =>
    have e1 := fun (t : Ty) (z : t.den) => setParts_agree t parts.toList z (bx_agree (s := s) b _)
    simp only [e1]
    split
    · rw [cond_bind]
      congr 1
      split
      · split <;> rfl
      · rfl
    · rfl
  | buildSlice W len parts =>
    have e1 := fun (t : Ty) (z : List t.den) => setElems_agree t parts.toList z (bx_agree (s := s) b _)
    simp only [e1]
    split
    · split
      · split
        · rw [cond_bind]; rfl
        · rfl
      · rfl
    · rfl
  | load W a =>
    rw [ho] at hf
    simp only at hf
    simp only [opd_bx]
    split
    · rename_i p hp
      rw [hp] at hf
      refine loadK_bx ?_ W
      intro i hi
      rcases hf with hf | ⟨j, hf, hs⟩
      · rw [hf] at hi; cases hi
      · rw [hf] at hi; cases hi; exact hs
    · rfl
  | store W a x => rw [ho] at hm; cases hm
  | nilCheck x =>
    simp only [opd_bx]
    split
    · rw [cond_bind]; rfl
    · rfl
  | binOp op xT x y yT =>
    simp only [opd_bx]
    split
    · rw [cond_bind]
      congr 1
      exact binK_nat (K := fun v => Kt v .no (onBx s b)) (K' := fun v => Kt v .no s) (G := Gb b) (fun v => rfl) _ _ _
    · rfl
  | unOp op t x =>
    cases op <;> simp only [opd_bx] <;> first | rfl | (split <;> rfl)
  | convert a' b' x =>
    simp only [opd_bx]
    split
    · exact convK_nat (K := fun v => Kt v .no (onBx s b)) (K' := fun v => Kt v .no s) (G := Gb b) (fun v => rfl) _ _ _
    · rfl
  | makeFunc f first captured =>
    have e1 := fun Ts => opds_agree (E := E) first.toList Ts (bx_agree (s := s) b _)
    have e2 := fun Ts => opds_agree (E := E) captured.toList Ts (bx_agree (s := s) b _)
    cases f <;> simp only [e1, e2] <;> first | rfl | (split <;> rfl)
  | slice W x lo hi mx =>
    rw [ho] at hf
    simp only at hf
    simp only [opd_bx]
    split
    · rename_i v hv
      rw [hv] at hf
      have h1 := fun d => optI_agree (o := lo) (bx_agree (s := s) b _) d
      have h2 := fun d => optI_agree (o := hi) (bx_agree (s := s) b _) d
      unfold slK
      simp only [h1, h2, opd_bx]
      split
      · rw [cond_bind]
        congr 1
        split
        · split
          · exact sliceK_nat _ _ _ _ rfl
          · rw [cond_bind]
            congr 1
            split
            · exact sliceK_nat _ _ _ _ (by rw [br_bind]; rfl)
            · rfl
        · rfl
      · rw [cond_bind]
        congr 1
        split
        · exact sliceK_nat _ _ _ _ rfl
        · rfl
      · exfalso
        rcases hf with hf | ⟨j, hf, _⟩ <;> cases hf
      · rfl
    · rfl
  | fieldAddr S x f =>
    simp only [opd_bx]
    split
    · exact fieldAddrK_nat (K := fun v => Kt v .no (onBx s b)) (K' := fun v => Kt v .no s) (G := Gb b) (fun v => rfl) _ _ _
    · rfl
  | field W x f =>
    simp only [opd_bx]
    split
    · rw [cond_bind]
      congr 1
      split <;> rfl
    · rfl
  | indexAddr W x i =>
    simp only [opd_bx]
    split
    · exact idxAddrK_nat (K := fun v => Kt v .no (onBx s b)) (K' := fun v => Kt v .no s) (G := Gb b) (fun v => rfl) _ _ _ _
    · rfl
  | index W x i =>
    simp only [opd_bx]
    split
    · exact idxK_nat (K := fun v => Kt v .no (onBx s b)) (K' := fun v => Kt v .no s) (G := Gb b) (fun v => rfl) _ _ _
    · rfl
  | extract x i =>
    simp only [opd_bx]
    split
    · split
      · rw [cond_bind]; rfl
      · rfl
    · rfl
  | call c =>
    have e1 := fun Ts => opds_agree (E := E) c.args.toList Ts (bx_agree (s := s) b _)
    have e2 := caps_agree c.args.toList (bx_agree (s := s) b _)
    simp only [e1, e2]
    split
    · cases hc : c.callee with
      | builtin bi =>
        simp only
        rw [cond_bind]
        congr 1
        unfold builtinK
        split
        · rw [cond_bind]; rfl
        · rw [cond_bind]; rfl
        · split <;> rfl
        · split <;> rfl
        · split
          · split
            · rw [cond_bind, br_bind]; rfl
            · rfl
          · rfl
        · rfl
      | value g =>
        simp only [opd_bx]
        split
        · rw [cond_bind]
          congr 1
          exact ctrK_nat (K := fun v => Kt v .no (onBx s b)) (K' := fun v => Kt v .no s) (G := Gb b) (fun v => rfl) _ _ _
        · rfl
      | _ => rfl
    · rfl
  | _ => rfl

theorem opK_al {o : Oper} {x : Res} (hm : (∃ W, o.op = .alloc W) ∨ ∃ W y, o.op = .box W y) (h : opK E noCall s o Kt = some x) : ∃ z, x.2.2 = s.boxes ++ [z] := by
  rcases hm with ⟨W, ho⟩ | ⟨W, y, ho⟩
  · unfold opK at h
    rw [ho] at h
    simp only at h
    split at h
    · cases h; exact ⟨_, rfl⟩
    · split at h
      · cases h; exact ⟨_, rfl⟩
      · cases h
    · cases h
  · unfold opK at h
    rw [ho] at h
    simp only at h
    split at h
    · rename_i t u z _ _
      cases hq : ((decide (t = u) && !u.isTop) || (decide (t = .top) && u.leaf)) with
      | false => rw [hq] at h; cases h
      | true => rw [hq] at h; cases h; exact ⟨_, rfl⟩
    · cases h

theorem opK_wr {o : Oper} {x : Res} {W : Nat} {a y : Operand} (ho : o.op = .store W a y) (h : opK E noCall s o Kt = some x) : ∃ i z, fpOf E s o = .wr i ∧ x.2.2 = setN s.boxes i z := by
  unfold opK at h
  unfold fpOf
  rw [ho] at h ⊢
  simp only at h ⊢
  split at h
  · rename_i p v hp hv
    rw [hp]
    unfold storeK at h
    split at h
    · cases h
    · revert h
      generalize (!((decide (_ = v.ty) || _) && _)) = q
      cases q with
      | true => intro h; cases h
      | false =>
        simp only [cond_false]
        intro h
        split at h
        · split at h
          · cases h; exact ⟨_, _, rfl, rfl⟩
          · cases h
        · split at h
          · cases h; exact ⟨_, _, rfl, rfl⟩
          · cases h
        · cases h
  · cases h
end Go.Ev
