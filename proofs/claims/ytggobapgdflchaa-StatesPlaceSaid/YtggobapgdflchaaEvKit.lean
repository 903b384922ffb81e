import Derived.Test.YtggobapgdflchaaEvTyEnv
set_option linter.unusedVariables false
namespace Go.Ev
variable {R : Type}

/-! Names for what stands behind a loop. -/

def bodyOf (f : Func) : Code := match f.body with
  | some c => c
  | none => .skip

/-- a part of a code: 0 the first, 1 the second -/
def sub : List Nat → Code → Code
  | [], c => c
  | 0 :: l, .seq a _ => sub l a
  | _ :: l, .seq _ b => sub l b
  | 0 :: l, .cond _ a _ => sub l a
  | _ :: l, .cond _ _ b => sub l b
  | _ :: l, .block _ b => sub l b
  | _ :: l, .loop b => sub l b
  | _, c => c

noncomputable def retK (E : Env) (nb : Nat) (rs : List ResultVar) (K : AV → List AV → Option R) : Ex → St → Option R := fun e s =>
  match e with
  | .exit _ => none
  | _ => match resultAVs E s rs with
    | some vs => K (resultAV vs) (leaveB nb (resultAV vs).ty s.boxes)
    | none => none

noncomputable def seqK (E : Env) (C : CallSem R) (A : List (Nat × List Nat)) (b : Code) (K : Ex → St → Option R) : Ex → St → Option R := fun e s' =>
  match e with
  | .normal => match look A (joinAt b) with
    | some drop => forceSt (widen s'.boxes.length drop s') fun s'' => stall E.k fun _ => evCode E C A b s'' K
    | none => evCode E C A b s' K
  | e => K e s'

noncomputable def blockK (id : Nat) (K : Ex → St → Option R) : Ex → St → Option R := fun e s' =>
  match e with
  | .exit i => bif Nat.beq i id then K .normal s' else K (.exit i) s'
  | e => K e s'

/-- a loop -/
noncomputable def lp (E : Env) (C : CallSem R) (A : List (Nat × List Nat)) (b : Code) (n k : Nat) (s : St) (K : Ex → St → Option R) : Option R :=
  evLoop (fun s K => evCode E C A b s K) n ((look A (firstRegion b)).getD []) k s K

/-- what stands behind where ways meet -/
noncomputable def jn (E : Env) (C : CallSem R) (A : List (Nat × List Nat)) (b : Code) (k : Nat) (s : St) (K : Ex → St → Option R) : Option R := stall k fun _ => evCode E C A b s K

/-- the end of a round -/
noncomputable def loopK (E : Env) (C : CallSem R) (A : List (Nat × List Nat)) (b : Code) (n k : Nat) (K : Ex → St → Option R) : Ex → St → Option R := fun e s' =>
  match e with
  | .normal => forceSt (widen n ((look A (firstRegion b)).getD []) s') fun s'' => lp E C A b n k s'' K
  | e => K e s'

abbrev tI (k : IntKind) (x : Int) : AV := ⟨.int k, x⟩
abbrev tB (b : Bool) : AV := ⟨.bool, b⟩
abbrev t0 : AV := ⟨.top, ()⟩

/-- a contract of a function that is called with one box beside -/
structure PCtr where
  f : Nat
  a : Ty
  bt : Ty
  r : Ty
  G : a.den × bt.den → Option (r.den × bt.den)

def pC (c : PCtr) : CallSem R := fun f args boxes K =>
  bif Nat.beq f c.f then match boxes with
    | [bx] => match castTo c.a (chain args), castTo c.bt bx with
      | some x, some y => (c.G (x, y)).bind fun z => K ⟨c.r, z.1⟩ [⟨c.bt, z.2⟩]
      | _, _ => none
    | _ => none
  else none

theorem pC_ok {P : Program} {c : PCtr} {E : Env} {d : Nat} (hE : EnvOK P E) (hM : P.follows .mixedOrders = true) (ha : chainOK c.a = true)
    (h : ∀ x y z, c.G (x, y) = some z → ∀ (K : AV → List AV → Option R), evCall E d c.f (unchain c.a x) [⟨c.bt, y⟩] K = K ⟨c.r, z.1⟩ [⟨c.bt, z.2⟩]) : CallOK P (pC c : CallSem R) := by
  intro f vs bs K r hr ctx us hmem hargs
  unfold pC at hr
  cases hf : Nat.beq f c.f with
  | false => rw [hf] at hr; cases hr
  | true =>
    rw [hf] at hr
    have hf := Nat.eq_of_beq_eq_true hf
    subst hf
    simp only [cond_true] at hr
    split at hr
    · rename_i bx
      split at hr
      · rename_i x y hx hy
        have hx := castTo_some hx
        have hy := castTo_some hy
        subst hy
        cases hG : c.G (x, y) with
        | none => rw [hG] at hr; cases hr
        | some z =>
          rw [hG] at hr
          have hr : K ⟨c.r, z.1⟩ [⟨c.bt, z.2⟩] = some r := hr
          have hc := chain_R vs us hargs
          rw [hx] at hc
          have hrl := unchain_R c.a x us hc (chainOK_shape c.a ha) (chainOK_mem c.a x ha)
          exact evCall_ok hE hM d c.f (unchain c.a x) _ K r ((h x y z hG K).trans hr) ctx us hmem hrl
      · cases hr
    · cases hr

/-- a contract of a function that is called with boxes beside -/
structure BCtr where
  f : Nat
  a : Ty
  bt : Ty
  r : Ty
  G : a.den × bt.den → Option (r.den × bt.den)

def bC (c : BCtr) : CallSem R := fun f args boxes K =>
  bif Nat.beq f c.f && (boxes.all fun v => v.ty.single) then match castTo c.a (chain args), castTo c.bt (chain boxes) with
      | some x, some y => (c.G (x, y)).bind fun z => K ⟨c.r, z.1⟩ (unchain c.bt z.2)
      | _, _ => none
  else none

/-- one or the other -/
def orC (f : Nat) (C C' : CallSem R) : CallSem R := fun g args boxes K => bif Nat.beq g f then C g args boxes K else C' g args boxes K

theorem orC_ok {P : Program} {f : Nat} {C C' : CallSem R} (h : CallOK P C) (h' : CallOK P C') : CallOK P (orC f C C') := by
  intro g vs bs K r hr
  unfold orC at hr
  cases hg : Nat.beq g f with
  | true => rw [hg] at hr; exact h g vs bs K r hr
  | false => rw [hg] at hr; exact h' g vs bs K r hr

theorem unchain_chain : ∀ (l : List AV), (∀ v, v ∈ l → v.ty.single = true) → unchain (chain l).ty (chain l).x = l
  | [], _ => rfl
  | [⟨t, x⟩], h => by
    have := h ⟨t, x⟩ (by simp)
    cases t <;> first | rfl | cases this
  | v :: u :: l, h => by
    have ih := unchain_chain (u :: l) (fun v hv => h v (List.mem_cons_of_mem _ hv))
    show ⟨v.ty, v.x⟩ :: unchain (chain (u :: l)).ty (chain (u :: l)).x = _
    rw [ih]

theorem bC_ok {P : Program} {c : BCtr} {E : Env} {d : Nat} (hE : EnvOK P E) (hM : P.follows .mixedOrders = true) (ha : chainOK c.a = true)
    (h : ∀ x y z, c.G (x, y) = some z → ∀ (K : AV → List AV → Option R), evCall E d c.f (unchain c.a x) (unchain c.bt y) K = K ⟨c.r, z.1⟩ (unchain c.bt z.2)) : CallOK P (bC c : CallSem R) := by
  intro f vs bs K r hr ctx us hmem hargs
  unfold bC at hr
  cases hf : (Nat.beq f c.f && (bs.all fun v => v.ty.single)) with
  | false => rw [hf] at hr; cases hr
  | true =>
    rw [hf] at hr
    simp only [Bool.and_eq_true, List.all_eq_true] at hf
    have hs := hf.2
    have hf := Nat.eq_of_beq_eq_true hf.1
    subst hf
    simp only [cond_true] at hr
    split at hr
    · rename_i x y hx hy
      have hx := castTo_some hx
      have hy := castTo_some hy
      have hbs : bs = unchain c.bt y := by
        have := unchain_chain bs hs
        rw [hy] at this
        exact this.symm
      cases hG : c.G (x, y) with
      | none => rw [hG] at hr; cases hr
      | some z =>
        rw [hG] at hr
        have hr : K ⟨c.r, z.1⟩ (unchain c.bt z.2) = some r := hr
        have hc := chain_R vs us hargs
        rw [hx] at hc
        have hrl := unchain_R c.a x us hc (chainOK_shape c.a ha) (chainOK_mem c.a x ha)
        rw [hbs] at hmem
        exact evCall_ok hE hM d c.f (unchain c.a x) _ K r ((h x y z hG K).trans hr) ctx us hmem hrl
    · cases hr

/-- what a function comes to, with what it calls given -/
noncomputable def semC (E : Env) {a r : Ty} (C : CallSem r.den) (f : Nat) (x : a.den) : Option r.den := evFn E C f (unchain a x) [] fun v _ => castTo r v

theorem semC_calls {P : Program} {E : Env} (hE : EnvOK P E) (hM : P.follows .mixedOrders = true) {f : Nat} {a r : Ty} {C : CallSem r.den} (hC : CallOK P C) {x : a.den} {y : r.den} (h : semC E C f x = some y) (ha : chainOK a = true) (hr : boxFree 0 r = true)
    {I : Im} {w : World} {us : List Value} (hI : ∀ b o, I b o → b < w.heap.size) (hx : Ev.R I w [] a false x us) :
    Known P f ∧ Calls P f us.toArray w fun e w' => ∃ u, e = .returned u ∧ Ev.R (fun b o => I b o ∨ (w.heap.size ≤ b ∧ b < w'.heap.size)) w' [] r false y [u] ∧ RowKit.Below w.heap.size w w' := by
  unfold semC at h
  have hrl := unchain_R a x us hx (chainOK_shape a ha) (chainOK_mem a x ha)
  obtain ⟨k1, k2⟩ := evFn_sound hE hM hC f (unchain a x) [] _ y h ⟨w, fun b => b < w.heap.size, I, w, []⟩ us
    ⟨RowKit.Below.refl _ _, Nat.le_refl _, Grow.refl _ _ _, Nat.le_refl _, rfl, (by intro i v b hv; simp at hv), List.nodup_nil, (by intro b hb; cases hb), (by intro i b hb; simp at hb), hI, fun b hb => ⟨hb, rfl, by simp, fun o h => h⟩⟩ hrl
  refine ⟨k1, k2.mono ?_⟩
  rintro e w' ⟨u, v, bs', I', μ', rfl, hK, hmem, hR⟩
  obtain ⟨t, z⟩ := v
  have hz := castTo_some hK
  cases hz
  refine ⟨u, rfl, ?_, hmem.below⟩
  have g : Grow I' w' μ' (fun b o => I b o ∨ (w.heap.size ≤ b ∧ b < w'.heap.size)) w' μ' := by
    refine ⟨fun b o hb => ?_, fun _ _ => rfl, fun _ _ h => h⟩
    by_cases hlt : b < w.heap.size
    · exact .inl ((hmem.fr b hlt).2.2.2 o hb)
    · exact .inr ⟨by omega, hmem.imlt b o hb⟩
  exact (hR.grow g).take 0 _ _ _ _ hr

theorem ctrC_of {P : Program} {f : Nat} {a r : Ty} {G : a.den → Option r.den} (hM : P.follows .mixedOrders = true) (hk : Known P f) (ha : chainOK a = true) (hr : boxFree 0 r = true)
    (h : ∀ x y, G x = some y → ∃ (E : Env) (C : CallSem r.den), EnvOK P E ∧ CallOK P C ∧ semC E (a := a) C f x = some y) : CtrAll P ⟨f, a, r, G⟩ := by
  refine ⟨⟨fun I w x us y hI hx hG => ?_⟩, hk⟩
  obtain ⟨E, C, hE, hC, hs⟩ := h x y hG
  exact (semC_calls hE hM hC hs ha hr hI hx).2
end Go.Ev
