import Derived.Test.YtggobapgdflchaaEvNat1
set_option linter.unusedVariables false
namespace Go.Ev
variable {T U : Type} {E : Env} {s : St} {G : U → Option T}

abbrev Res := AV × Cap × List AV
def Kt : AV → Cap → St → Option Res := fun v c s => some (v, c, s.boxes)
def Gt (s : St) (K : AV → Cap → St → Option T) : Res → Option T := fun x => (evC s x.2.1).bind fun c => K x.1 c { s with boxes := x.2.2 }

variable {K : AV → Cap → St → Option T}

theorem kno (v : AV) (bs : List AV) : K v .no { s with boxes := bs } = (Kt v .no { tl s with boxes := bs }).bind (Gt s K) := rfl
theorem kno' (v : AV) : K v .no s = (Kt v .no (tl s)).bind (Gt s K) := rfl
theorem kc (v : AV) (c c' : Cap) (h : evC s c' = some c) : K v c s = (Kt v c' (tl s)).bind (Gt s K) := by
  show _ = (evC s c').bind _
  rw [h]; rfl

theorem sliceK_nat (l h m n : Int) {x : Option T} {y : Option U} (e : x = y.bind G) : sliceK l h m n x = (sliceK l h m n y).bind G := by
  unfold sliceK; rw [br_bind, e]; rfl

theorem slBoxK_nat (W i : Nat) (lo hi mx : Option Operand) : slBoxK E W s i lo hi mx K = (slBoxK E W (tl s) i lo hi mx Kt).bind (Gt s K) := by
  unfold slBoxK
  split
  · simp only [tl]
    split
    · rw [cond_bind]
      congr 1
      split
      · rfl
      · rfl
    · rfl
  · rfl

theorem slK_nat (W : Nat) (x : AV) (lo hi mx : Option Operand) : slK E W s x lo hi mx K = (slK E W (tl s) x lo hi mx Kt).bind (Gt s K) := by
  unfold slK
  simp only [optI_tl, opd_tl]
  split
  · rw [cond_bind]
    congr 1
    split
    · split
      · exact sliceK_nat _ _ _ _ rfl
      · rw [cond_bind]
        congr 1
        split
        · exact sliceK_nat _ _ _ _ (by rw [br_bind]; rfl)
        · rfl
    · rfl
  · rw [cond_bind]
    congr 1
    split
    · exact sliceK_nat _ _ _ _ rfl
    · rfl
  · exact slBoxK_nat _ _ _ _ _
  · rfl

theorem callK_nat (f : Nat) (args : List AV) : callK E noCall f args s K = (callK E noCall f args (tl s) Kt).bind (Gt s K) := by
  unfold callK
  exact ctrK_nat (K := fun v => K v .no s) (K' := fun v => Kt v .no (tl s)) (G := Gt s K) (fun v => rfl) f (chain args) E.ctr

theorem builtinK_nat (b : Builtin) (Ts : List Nat) (args : List AV) (xs : List Operand) :
    builtinK E b Ts args (xs.map (opdCap s)) (fun v c => K v c s) = (builtinK E b Ts args (xs.map (opdCap (tl s))) (fun v c => Kt v c (tl s))).bind (Gt s K) := by
  unfold builtinK
  split
  · rw [cond_bind]; rfl
  · rw [cond_bind]; rfl
  · split <;> rfl
  · split <;> rfl
  · cases xs with
    | nil => simp only [List.map_nil]; cases Ts with
      | nil => rfl
      | cons a l => cases l with
        | nil => rfl
        | cons b l => cases l <;> rfl
    | cons x xs =>
      simp only [List.map_cons]
      have hc := evC_capP s x
      cases Ts with
      | nil => rfl
      | cons W l => cases l with
        | nil => rfl
        | cons W2 l => cases l with
          | cons _ _ => rfl
          | nil =>
            simp only
            cases hcp : capP (opdCap (tl s) x) with
            | none =>
              rw [hcp] at hc
              rw [← hc]
              cases look E.lim W <;> rfl
            | some cc =>
              rw [hcp] at hc
              simp only [Option.bind_some] at hc
              rw [← hc]
              generalize castTo _ _ = z
              cases look E.lim W with
              | none => rfl
              | some n =>
                cases z with
                | none => cases evC s cc <;> rfl
                | some m' =>
                  cases he : evC s cc with
                  | none =>
                    simp only [cond_bind, br_bind]
                    have key : ∀ v, (Kt v cc (tl s)).bind (Gt s K) = none := fun v => by
                      show (evC s cc).bind _ = none
                      rw [he]; rfl
                    rw [key]
                    simp [br]
                  | some c =>
                    simp only [cond_bind, br_bind]
                    congr 1
                    congr 1
                    exact kc _ _ _ he
  · rfl
end Go.Ev
