import Derived.Test.YtggobapgdflchaaEvNat3
set_option linter.unusedVariables false
namespace Go.Ev
variable {T U : Type} {E : Env} {s s' : St}

theorem Agree.left {l m : List Nat} (h : Agree (l ++ m) s s') : Agree l s s' := h.sub fun t ht => List.mem_append_left _ ht
theorem Agree.right {l m : List Nat} (h : Agree (l ++ m) s s') : Agree m s s' := h.sub fun t ht => List.mem_append_right _ ht

theorem loadK_agree {K K' : AV → Cap → Option T} (hb : s.boxes = s'.boxes) (hK : ∀ v c, K v c = K' v c) (W : Nat) (p : AV) : loadK E W s p K = loadK E W s' p K' := by
  have : K = K' := funext fun v => funext fun c => hK v c
  subst this
  unfold loadK
  rw [hb]

theorem storeK_agree {K K' : St → Option T} (hb : s.boxes = s'.boxes) (hK : ∀ bs, K { s with boxes := bs } = K' { s' with boxes := bs }) (W : Nat) (p v : AV) : storeK E W s p v K = storeK E W s' p v K' := by
  unfold storeK
  split
  · rfl
  · congr 1
    split
    · rw [← hb]
      split
      · exact hK _
      · rfl
    · rw [← hb]
      split
      · exact hK _
      · rfl
    · rfl

theorem slBoxK_agree {K K' : AV → Cap → St → Option T} (hb : s.boxes = s'.boxes) (hK : ∀ v c bs, K v c { s with boxes := bs } = K' v c { s' with boxes := bs }) (W i : Nat) (lo hi mx : Option Operand) :
    slBoxK E W s i lo hi mx K = slBoxK E W s' i lo hi mx K' := by
  unfold slBoxK
  split
  · rw [← hb]
    split
    · congr 1
      split
      · have := hK ⟨.sl (chainHd ‹_›), ‹_›⟩ .no (setN s.boxes i .undef)
        unfold deadBox
        rw [← hb]
        exact hK _ _ _
      · rfl
    · rfl
  · rfl

theorem slK_agree {K K' : AV → Cap → St → Option T} (hb : s.boxes = s'.boxes) (hK : ∀ v c bs, K v c { s with boxes := bs } = K' v c { s' with boxes := bs }) (W : Nat) (x : AV) {lo hi mx : Option Operand}
    (h : Agree (optNames lo ++ (optNames hi ++ optNames mx)) s s') : slK E W s x lo hi mx K = slK E W s' x lo hi mx K' := by
  have e0 : ∀ v c, K v c s = K' v c s' := fun v c => by have := hK v c s.boxes; rw [show ({ s' with boxes := s.boxes } : St) = s' by rw [hb]] at this; exact this
  have h1 := fun d => optI_agree h.left d
  have h2 := fun d => optI_agree h.right.left d
  have h3 : ∀ m, mx = some m → opd s none m = opd s' none m := fun m e => opd_agree (by have := h.right.right; rw [e] at this; exact this) _
  unfold slK
  simp only [h1, h2, e0]
  split
  · congr 1
    split
    · split
      · rfl
      · rw [h3 _ rfl]
    · rfl
  · rfl
  · exact slBoxK_agree hb hK _ _ _ _ _
  · rfl

/-- an operation hangs on the slots that it names, and on the boxes -/
theorem opK_agree {o : Oper} (h : Agree (opNames o.op) s s') (hb : s.boxes = s'.boxes) {K K' : AV → Cap → St → Option T} (hK : ∀ v c bs, K v c { s with boxes := bs } = K' v c { s' with boxes := bs }) :
    opK E noCall s o K = opK E noCall s' o K' := by
  have e0 : ∀ v c, K v c s = K' v c s' := fun v c => by have := hK v c s.boxes; rw [show ({ s' with boxes := s.boxes } : St) = s' by rw [hb]] at this; exact this
  unfold opK
  cases ho : o.op with
  | move x =>
    rw [ho] at h
    simp only [opd_agree h, opdCap_agree h, e0]
  | assign x =>
    rw [ho] at h
    simp only [opd_agree h, opdCap_agree h, e0]
  | pick c a b =>
    rw [ho] at h
    simp only [opd_agree h.left, opd_agree h.right.left, opd_agree h.right.right, e0]
  | alloc W =>
    simp only [pushBox]
    split
    · rw [← hb]; exact hK _ _ _
    · split
      · rw [← hb]; exact hK _ _ _
      · rfl
    · rfl
  | box W x =>
    rw [ho] at h
    simp only [opd_agree h, pushBox]
    split
    · congr 1
      rw [← hb]; exact hK _ _ _
    · rfl
  | build W parts =>
    rw [ho] at h
    have e1 := fun (t : Ty) (z : t.den) => setParts_agree t parts.toList z h
    simp only [e1, e0]
  | buildSlice W len parts =>
    rw [ho] at h
    have e1 := fun (t : Ty) (z : List t.den) => setElems_agree t parts.toList z h
    simp only [e1, e0]
  | load W a =>
    rw [ho] at h
    simp only [opd_agree h]
    split
    · exact loadK_agree hb (fun v c => e0 v c) _ _
    · rfl
  | store W a x =>
    rw [ho] at h
    simp only [opd_agree h.left, opd_agree h.right]
    split
    · exact storeK_agree hb (fun bs => hK _ _ _) _ _ _
    · rfl
  | nilCheck x =>
    rw [ho] at h
    simp only [opd_agree h, e0]
  | binOp op xT x y yT =>
    rw [ho] at h
    simp only [opd_agree h.left, opd_agree h.right, e0]
  | unOp op t x =>
    rw [ho] at h
    cases op <;> simp only [opd_agree h, e0]
  | convert a b x =>
    rw [ho] at h
    simp only [opd_agree h, e0]
  | makeFunc f first captured =>
    rw [ho] at h
    have e1 := fun Ts => opds_agree (E := E) first.toList Ts h.left
    have e2 := fun Ts => opds_agree (E := E) captured.toList Ts h.right
    cases f <;> simp only [e1, e2, e0]
  | slice W x lo hi mx =>
    rw [ho] at h
    simp only [opd_agree h.left]
    split
    · exact slK_agree hb hK _ _ h.right
    · rfl
  | fieldAddr S x f =>
    rw [ho] at h
    simp only [opd_agree h, e0]
  | field W x f =>
    rw [ho] at h
    simp only [opd_agree h, e0]
  | indexAddr W x i =>
    rw [ho] at h
    simp only [opd_agree h.left, opd_agree h.right, e0]
  | index W x i =>
    rw [ho] at h
    simp only [opd_agree h.left, opd_agree h.right, e0]
  | extract x i =>
    rw [ho] at h
    simp only [opd_agree h, e0]
  | call c =>
    rw [ho] at h
    have e1 := fun Ts => opds_agree (E := E) c.args.toList Ts h.left
    have e2 := caps_agree c.args.toList h.left
    simp only [e1, e2]
    split
    · cases hc : c.callee with
      | builtin b => simp only [e0]
      | value g =>
        have e3 : ∀ W, opd s W g = opd s' W g := fun W => opd_agree (by have := h.right; rw [hc] at this; exact this) W
        simp only [e3]
        split
        · congr 1
          unfold callK noCall
          simp only [e0]
        · rfl
      | _ => rfl
    · rfl
  | _ => rfl
end Go.Ev
