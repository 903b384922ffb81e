import Derived.Test.YtggobapgdflchaaEvDraw1
set_option linter.unusedVariables false
namespace Go.Ev
variable {T U : Type} {E : Env} {s s' : St}

open Classical in
/-- the rights that come out are had from slots that the operation names -/
noncomputable def Kn (l : List Nat) (d : Option Nat) : AV → Cap → St → Option Res := fun v c s => if CapIn l d v c then Kt v c s else none

theorem kn_no (l : List Nat) (d : Option Nat) (v : AV) (s : St) : Kn l d v .no s = Kt v .no s := if_pos trivial
theorem kn_fresh (l : List Nat) (d : Option Nat) (v : AV) (s : St) : Kn l d v .fresh s = Kt v .fresh s := if_pos trivial
theorem kn_opd (l : List Nat) (d : Option Nat) (v : AV) (x : Operand) (h : ∀ t, t ∈ opdNames x → t ∈ l) : Kn l d v (opdCap (tl s) x) (tl s) = Kt v (opdCap (tl s) x) (tl s) := by
  refine if_pos ?_
  cases x with
  | tmp t =>
    show CapIn l d v (.dup ((tl s).cap t))
    rw [cap_tl]
    split
    · exact h t (by simp [opdNames])
    · trivial
  | _ => trivial

theorem capIn_capP {l : List Nat} {d : Option Nat} {v : AV} {x : Operand} {c : Cap} (h : ∀ t, t ∈ opdNames x → t ∈ l) (hv : v.ty.isSl = true) (hd : d.isSome = true) (hc : capP (opdCap (tl s) x) = some c) : CapIn l d v c := by
  cases x with
  | tmp t =>
    have hc : capP (.dup ((tl s).cap t)) = some c := hc
    rw [cap_tl] at hc
    split at hc
    · cases hc; exact ⟨h t (by simp [opdNames]), hv, hd⟩
    · cases hc
  | const v => cases hc; trivial
  | func f => cases hc
  | global g => cases hc

theorem loadK_kn (l : List Nat) (d : Option Nat) (W : Nat) (p : AV) : loadK E W s p (fun v c => Kn l d v c s) = loadK E W s p (fun v c => Kt v c s) := by
  unfold loadK
  simp only [kn_no]

theorem builtinK_kn {l : List Nat} {d : Option Nat} (b : Builtin) (Ts : List Nat) (args : List AV) (xs : List Operand) (h : ∀ t, t ∈ xs.flatMap opdNames → t ∈ l) (hd : d.isSome = true) :
    builtinK E b Ts args (xs.map (opdCap (tl s))) (fun v c => Kn l d v c (tl s)) = builtinK E b Ts args (xs.map (opdCap (tl s))) (fun v c => Kt v c (tl s)) := by
  unfold builtinK
  simp only [kn_no]
  split
  · rfl
  · rfl
  · rfl
  · rfl
  · cases xs with
    | nil =>
      split
      · rename_i hcs; cases hcs
      · rfl
    | cons x xs =>
      simp only [List.map_cons]
      split
      · rename_i T0 T2 c cs hcs
        injection hcs with hcs _
        split
        · rename_i n c' m' _ hcp _
          have : ∀ (t : Ty) (y : List t.den), Kn l d ⟨.sl t, y⟩ c' (tl s) = Kt ⟨.sl t, y⟩ c' (tl s) := fun t' y => if_pos (capIn_capP (x := x) (fun t ht => h t (by simp [ht])) rfl hd (by rw [hcs]; exact hcp))
          rw [this]
        · rfl
      · rfl
  · rfl

theorem slK_kn (l : List Nat) (d : Option Nat) (W : Nat) (x : AV) (lo hi mx : Option Operand) : slK E W s x lo hi mx (Kn l d) = slK E W s x lo hi mx Kt := by
  unfold slK slBoxK
  simp only [kn_no, kn_fresh]

theorem opK_kn (s : St) (o : Oper) : opK E noCall (tl s) o (Kn (opNames o.op) o.dst) = opK E noCall (tl s) o Kt := by
  unfold opK
  cases ho : o.op with
  | move x =>
    simp only
    split
    · exact kn_opd _ _ _ _ fun t ht => ht
    · rfl
  | assign x =>
    simp only
    split
    · exact kn_opd _ _ _ _ fun t ht => ht
    · rfl
  | load W a =>
    simp only [loadK_kn]
  | slice W x lo hi mx => simp only [slK_kn]
  | call c =>
    simp only
    split
    · rename_i args _
      cases hc : c.callee with
      | builtin b =>
        simp only
        cases hd : o.dst.isSome with
        | false => rfl
        | true =>
          simp only [Bool.not_true, cond_false]
          exact builtinK_kn b _ args c.args.toList (fun t ht => by simp only [opNames]; exact List.mem_append_left _ ht) hd
      | value g =>
        simp only [callK, kn_no]
      | _ => rfl
    · rfl
  | unOp op t x => cases op <;> simp only [kn_no]
  | makeFunc f first captured => cases f <;> simp only [kn_no]
  | _ => simp only [kn_no, kn_fresh]

theorem capIn_of {o : Oper} {x : Res} (h : opK E noCall (tl s) o Kt = some x) : CapIn (opNames o.op) o.dst x.1 x.2.1 := by
  rw [← opK_kn] at h
  -- the same, once more: what comes out has passed the look
  have := opK_agree (E := E) (s := tl s) (s' := tl s) (o := o) (fun _ _ => ⟨rfl, rfl⟩) rfl (K := Kn (opNames o.op) o.dst) (K' := Kn (opNames o.op) o.dst) (fun _ _ _ => rfl)
  have key := opK_nat (E := E) (tl s) o (Kn (opNames o.op) o.dst)
  rw [h] at key
  cases hx : opK E noCall (tl (tl s)) o Kt with
  | none => rw [hx] at key; cases key
  | some y =>
    rw [hx] at key
    have key : some x = (evC (tl s) y.2.1).bind fun c => Kn (opNames o.op) o.dst y.1 c { tl s with boxes := y.2.2 } := key
    cases hc : evC (tl s) y.2.1 with
    | none => rw [hc] at key; cases key
    | some c =>
      rw [hc] at key
      simp only [Option.bind_some] at key
      unfold Kn at key
      split at key
      · rename_i hin
        cases key
        exact hin
      · cases key

/-! One operation, with its guard. -/

def samB (b want : Bool) : Bool := decide (b = want)
theorem samB_pos {b w : Bool} (h : b = w) : samB b w = true := by subst h; simp [samB]
theorem samB_neg {b w : Bool} (h : ¬ b = w) : ¬ samB b w = true := by simpa [samB] using h
theorem notT {b : Bool} (h : ¬ b = true) : b = false := by simpa using h
theorem notF {b : Bool} (h : ¬ b = false) : b = true := by simpa using h

/-- what an operation comes to -/
def run (E : Env) (ops : Array Oper) (o : Oper) (s : St) : Option Res :=
  match o.guard with
  | none => opK E noCall (tl s) o Kt
  | some (j, want) =>
    match dstAt ops j with
    | none => none
    | some d =>
      match s.get d with
      | ⟨.bool, b⟩ => if samB b want = true then opK E noCall (tl s) o Kt else some (.undef, .no, s.boxes)
      | ⟨.undef, _⟩ => some (.undef, .no, s.boxes)
      | _ => none

def Step (E : Env) (ops : Array Oper) (o : Oper) (s s' : St) : Prop :=
  ∃ x c, run E ops o s = some x ∧ evC s x.2.1 = some c ∧ s' = St.put { s with boxes := x.2.2 } o.dst x.1 c

theorem opK_put {o : Oper} {K : St → Option T} {r : T} (s : St) : opK E noCall s o (fun v c s' => putK s' o.dst v c K) = some r ↔
    ∃ x c, opK E noCall (tl s) o Kt = some x ∧ evC s x.2.1 = some c ∧ K (St.put { s with boxes := x.2.2 } o.dst x.1 c) = some r := by
  rw [opK_nat]
  constructor
  · intro h
    cases hx : opK E noCall (tl s) o Kt with
    | none => rw [hx] at h; cases h
    | some x =>
      rw [hx] at h
      have h : ((evC s x.2.1).bind fun c => putK { s with boxes := x.2.2 } o.dst x.1 c K) = some r := h
      cases hc : evC s x.2.1 with
      | none => rw [hc] at h; cases h
      | some c =>
        rw [hc] at h
        simp only [Option.bind_some, putK_eq] at h
        exact ⟨x, c, rfl, hc, h⟩
  · rintro ⟨x, c, h1, h2, h3⟩
    rw [h1]
    show ((evC s x.2.1).bind fun c => putK { s with boxes := x.2.2 } o.dst x.1 c K) = some r
    rw [h2]
    simp only [Option.bind_some, putK_eq]
    exact h3

theorem evOper_step {ops : Array Oper} {o : Oper} {K : St → Option T} {r : T} (s : St) : evOper E noCall ops o s K = some r ↔ ∃ s', Step E ops o s s' ∧ K s' = some r := by
  have main : opK E noCall s o (fun v c s' => putK s' o.dst v c K) = some r ↔ ∃ s', (∃ x c, opK E noCall (tl s) o Kt = some x ∧ evC s x.2.1 = some c ∧ s' = St.put { s with boxes := x.2.2 } o.dst x.1 c) ∧ K s' = some r := by
    rw [opK_put]
    constructor
    · rintro ⟨x, c, h1, h2, h3⟩; exact ⟨_, ⟨x, c, h1, h2, rfl⟩, h3⟩
    · rintro ⟨_, ⟨x, c, h1, h2, rfl⟩, h3⟩; exact ⟨x, c, h1, h2, h3⟩
  have skip : putK s o.dst .undef .no K = some r ↔ ∃ s', (∃ (x : Res) (c : Cap), some (AV.undef, Cap.no, s.boxes) = some x ∧ evC s x.2.1 = some c ∧ s' = St.put { s with boxes := x.2.2 } o.dst x.1 c) ∧ K s' = some r := by
    rw [putK_eq]
    constructor
    · intro h; exact ⟨_, ⟨_, .no, rfl, rfl, rfl⟩, h⟩
    · rintro ⟨_, ⟨x, c, h1, h2, rfl⟩, h3⟩
      cases h1
      cases h2
      exact h3
  unfold evOper Step run
  cases o.guard with
  | none => exact main
  | some jw =>
    obtain ⟨j, want⟩ := jw
    simp only
    cases dstAt ops j with
    | none =>
      simp only
      constructor
      · intro h; cases h
      · rintro ⟨_, ⟨_, _, h, _⟩, _⟩; cases h
    | some d =>
      simp only
      have hnone : (none = some r) ↔ ∃ s', (∃ (x : Res) (c : Cap), none = some x ∧ evC s x.2.1 = some c ∧ s' = St.put { s with boxes := x.2.2 } o.dst x.1 c) ∧ K s' = some r := by
        constructor
        · intro h; cases h
        · rintro ⟨_, ⟨_, _, h, _⟩, _⟩; cases h
      generalize hb : s.get d = g
      obtain ⟨ty, b⟩ := g
      cases ty with
      | bool =>
        have hs : s.tmps[d]? = some ⟨.bool, b⟩ := nth_of_ne hb (by intro e; injection e with e; cases e)
        have hst : ∀ q : Bool, (b : Bool) = q → ({ s with tmps := setN s.tmps d (.bool q) } : St) = s := by
          intro q hq
          subst hq
          rw [setN_same (show s.tmps[d]? = some (.bool b) from hs)]
        cases want with
        | true =>
          simp only [cond_true]
          by_cases hbt : (b : Bool) = true
          · rw [hst true hbt]
            rw [show br (b : Bool) (opK E noCall s o fun v c s' => putK s' o.dst v c K) (putK { s with tmps := setN s.tmps d (.bool false) } o.dst .undef .no K) = opK E noCall s o fun v c s' => putK s' o.dst v c K from by rw [hbt]; rfl, if_pos (samB_pos hbt)]
            exact main
          · have hbf : (b : Bool) = false := notT hbt
            rw [hst false hbf]
            rw [show br (b : Bool) (opK E noCall { s with tmps := setN s.tmps d (.bool true) } o fun v c s' => putK s' o.dst v c K) (putK s o.dst .undef .no K) = putK s o.dst .undef .no K from by rw [hbf]; rfl, if_neg (samB_neg hbt)]
            exact skip
        | false =>
          simp only [cond_false]
          by_cases hbt : (b : Bool) = false
          · rw [hst false hbt]
            rw [show br (b : Bool) (putK { s with tmps := setN s.tmps d (.bool true) } o.dst .undef .no K) (opK E noCall s o fun v c s' => putK s' o.dst v c K) = opK E noCall s o fun v c s' => putK s' o.dst v c K from by rw [hbt]; rfl, if_pos (samB_pos hbt)]
            exact main
          · have hbf : (b : Bool) = true := notF hbt
            rw [hst true hbf]
            rw [show br (b : Bool) (putK s o.dst .undef .no K) (opK E noCall { s with tmps := setN s.tmps d (.bool false) } o fun v c s' => putK s' o.dst v c K) = putK s o.dst .undef .no K from by rw [hbf]; rfl, if_neg (samB_neg hbt)]
            exact skip
      | undef => exact skip
      | _ => exact hnone
end Go.Ev
