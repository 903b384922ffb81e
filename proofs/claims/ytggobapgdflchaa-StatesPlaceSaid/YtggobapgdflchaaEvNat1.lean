import Derived.Test.YtggobapgdflchaaEvCode2
set_option linter.unusedVariables false
namespace Go.Ev
variable {T U : Type} {E : Env} {s : St} {G : U → Option T}

/-- the letters: each slot has its own -/
def tl (s : St) : St := { s with cp := (List.range s.cp.length).map some }

theorem opd_tl (s : St) (W : Option Ty) (x : Operand) : opd (tl s) W x = opd s W x := by cases x <;> rfl
theorem opds_tl (s : St) : ∀ (l : List Operand) (Ts : List Nat), opds (tl s) E l Ts = opds s E l Ts
  | [], _ => rfl
  | o :: l, [] => by unfold opds; rw [opd_tl, opds_tl s l []]
  | o :: l, W :: Ts => by unfold opds; rw [opd_tl, opds_tl s l Ts]
theorem setParts_tl (s : St) (t : Ty) : ∀ (l : List (Nat × Operand)) (x : t.den), setParts (tl s) t x l = setParts s t x l
  | [], _ => rfl
  | (i, o) :: l, x => by
    unfold setParts
    rw [opd_tl]
    congr 1
    split
    · congr 1
      split
      · exact setParts_tl s t l _
      · rfl
    · rfl
theorem setElems_tl (s : St) (t : Ty) : ∀ (l : List (Nat × Operand)) (x : List t.den), setElems (tl s) t x l = setElems s t x l
  | [], _ => rfl
  | (i, o) :: l, x => by
    unfold setElems
    rw [opd_tl]
    split
    · split
      · cases (Nat.blt i x.length && !t.isTop) with
        | false => rfl
        | true => exact setElems_tl s t l _
      · rfl
    · rfl
theorem optI_tl (s : St) (d : Int) (o : Option Operand) : optI (tl s) d o = optI s d o := by cases o <;> simp [optI, opd_tl]

def evC (s : St) : Cap → Option Cap
  | .no => some .no
  | .fresh => some .fresh
  | .dup none => some (.dup none)
  | .dup (some t) => some (.dup (s.cap t))
  | .taken t => (s.cap t).map .taken

theorem nth_map_range (n t : Nat) : nth none ((List.range n).map some) t = if t < n then some t else none := by
  by_cases h : t < n
  · rw [if_pos h, nth_get (v := some t)]
    simp [h]
  · rw [if_neg h, nth_none]
    simp; omega

theorem cap_tl (s : St) (t : Nat) : (tl s).cap t = if t < s.cp.length then some t else none := nth_map_range _ _

theorem cap_out {s : St} {t : Nat} (h : ¬ t < s.cp.length) : s.cap t = none := nth_none (List.getElem?_eq_none (by omega))

theorem evC_opdCap (s : St) (x : Operand) : evC s (opdCap (tl s) x) = some (opdCap s x) := by
  cases x with
  | tmp t =>
    show evC s (.dup ((tl s).cap t)) = some (.dup (s.cap t))
    rw [cap_tl]
    split
    · rfl
    · rename_i h; rw [cap_out h]; rfl
  | _ => rfl

theorem evC_capP (s : St) (x : Operand) : (capP (opdCap (tl s) x)).bind (evC s) = capP (opdCap s x) := by
  cases x with
  | tmp t =>
    show (capP (.dup ((tl s).cap t))).bind (evC s) = capP (.dup (s.cap t))
    rw [cap_tl]
    split
    · simp only [capP, Option.bind_some, evC]
      cases s.cap t <;> rfl
    · rename_i h; rw [cap_out h]; rfl
  | const v => rfl
  | func f => rfl
  | global g => rfl

theorem bind_nat {α : Type} (z : Option α) {f : α → Option T} {f' : α → Option U} (h : ∀ y, f y = (f' y).bind G) : z.bind f = (z.bind f').bind G := by
  cases z with
  | none => rfl
  | some y => exact h y
theorem br_bind (q : Bool) (x y : Option U) : (br q x y).bind G = br q (x.bind G) (y.bind G) := by cases q <;> rfl
theorem cond_bind (q : Bool) (x y : Option U) : (bif q then x else y).bind G = bif q then x.bind G else y.bind G := by cases q <;> rfl

section
variable {K : AV → Option T} {K' : AV → Option U}

theorem shiftK_nat (hK : ∀ v, K v = (K' v).bind G) (op : BinOp) (k : IntKind) (x y : Int) : shiftK op k x y K = (shiftK op k x y K').bind G := by
  unfold shiftK; split <;> simp only [br_bind, hK, Option.bind_none]
theorem intK_nat (hK : ∀ v, K v = (K' v).bind G) (op : BinOp) (k : IntKind) (x y : Int) : intK op k x y K = (intK op k x y K').bind G := by
  unfold intK; split <;> simp only [br_bind, hK, Option.bind_none]
theorem eqK_nat (hK : ∀ v, K v = (K' v).bind G) (op : BinOp) (b : Bool) : eqK op b K = (eqK op b K').bind G := by
  unfold eqK; split <;> simp only [hK, Option.bind_none]
theorem binK_nat (hK : ∀ v, K v = (K' v).bind G) (op : BinOp) (a b : AV) : binK op a b K = (binK op a b K').bind G := by
  unfold binK
  split
  · split
    · exact shiftK_nat hK _ _ _ _
    · split
      · exact intK_nat hK _ _ _ _
      · rfl
  · exact eqK_nat hK _ _
  · exact eqK_nat hK _ _
  · split
    · split
      · exact eqK_nat hK _ _
      · rfl
    · rfl
  · rfl
theorem idxAddrK_nat (hK : ∀ v, K v = (K' v).bind G) (W : Nat) (x : AV) (io : Operand) (i : Option AV) : idxAddrK E W x io i K = (idxAddrK E W x io i K').bind G := by
  unfold idxAddrK
  split
  · split
    · rw [cond_bind]
      congr 1
      exact bind_nat _ fun y => hK _
    · rw [cond_bind]
      congr 1
      split
      · rw [br_bind]
        congr 1
        split <;> exact hK _
      · rfl
    · rw [cond_bind]
      congr 1
      split
      · rw [br_bind]
        congr 1
        exact hK _
      · rfl
    · rw [cond_bind]
      congr 1
      split
      · rw [cond_bind]
        congr 1
        rw [br_bind]
        congr 1
        split
        · exact hK _
        · rfl
      · rfl
    · rfl
  · rfl
theorem idxK_nat (hK : ∀ v, K v = (K' v).bind G) (W : Nat) (x : AV) (i : Option AV) : idxK E W x i K = (idxK E W x i K').bind G := by
  unfold idxK
  split
  · split
    · rw [cond_bind]
      congr 1
      rw [br_bind]
      congr 1
      split
      · exact hK _
      · rfl
    · rfl
  · rfl
theorem fieldAddrK_nat (hK : ∀ v, K v = (K' v).bind G) (S : Nat) (x : AV) (f : Nat) : fieldAddrK E S x f K = (fieldAddrK E S x f K').bind G := by
  unfold fieldAddrK
  split
  · rw [cond_bind]
    congr 1
    split
    · exact hK _
    · exact hK _
    · rw [cond_bind]
      congr 1
      split
      · exact hK _
      · rfl
    · rfl
  · rfl
theorem convK_nat (hK : ∀ v, K v = (K' v).bind G) (a b : Option Ty) (v : AV) : convK a b v K = (convK a b v K').bind G := by
  unfold convK
  split
  · exact hK _
  · exact hK _
  · rw [cond_bind]
    congr 1
    exact hK _
  · rfl
theorem ctrK_nat (hK : ∀ v, K v = (K' v).bind G) (f : Nat) (a : AV) : ∀ l : List Ctr, ctrK f a l K none = (ctrK f a l K' none).bind G
  | [] => rfl
  | c :: l => by
    unfold ctrK
    rw [cond_bind]
    congr 1
    · split
      · exact bind_nat _ fun y => hK _
      · exact ctrK_nat hK f a l
    · exact ctrK_nat hK f a l
end

theorem loadK_nat {K : AV → Cap → Option T} {K' : AV → Cap → Option U} (hK : ∀ v, K v .no = (K' v .no).bind G) (W : Nat) (s : St) (p : AV) : loadK E W s p K = (loadK E W (tl s) p K').bind G := by
  unfold loadK
  split
  · rfl
  · split
    · rw [cond_bind]
      congr 1
      exact hK _
    · simp only [tl]
      split
      · exact hK _
      · rfl
    · simp only [tl]
      split
      · rfl
      · split
        · split
          · exact hK _
          · rfl
        · rfl
    · rfl

theorem storeK_nat {K : St → Option T} {K' : St → Option U} (hK : ∀ bs, K { s with boxes := bs } = (K' { tl s with boxes := bs }).bind G) (W : Nat) (p v : AV) : storeK E W s p v K = (storeK E W (tl s) p v K').bind G := by
  unfold storeK
  split
  · rfl
  · rw [cond_bind]
    congr 1
    split
    · simp only [tl]
      split
      · exact hK _
      · rfl
    · simp only [tl]
      split
      · exact hK _
      · rfl
    · rfl
end Go.Ev
