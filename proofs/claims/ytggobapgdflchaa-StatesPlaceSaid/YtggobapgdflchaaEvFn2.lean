import Derived.Test.YtggobapgdflchaaEvFn
set_option linter.unusedVariables false
namespace Go.Ev
open Go.RowKit
variable {P : Program} {E : Env} {I I' : Im} {w w' : World} {μ μ' : List Nat} {c : Ctx} {ρ : Nat → Rm} {s s' : St} {a : Act} {o o' : Oper} {T : Type} {ops : Array Oper}

def resV (tmps : Array Value) : ResultVar → Sem Value
  | .tmp t => pure (tmps.getD t undef)
  | .cell a t => do loadVar t (← asAddr (tmps.getD a undef))

theorem results_eq (fn : Func) (tmps : Array Value) : results fn tmps = (fn.results.mapM (resV tmps) >>= fun vs => pure (if h : vs.size = 1 then vs[0] else .tuple vs)) := rfl

theorem loadAt_var {U : Nat} {u v : Value} (h : (Instr.loadAt U u).run P w = .ok v w) : (do loadVar U (← asAddr u)).run P w = .ok v w := by
  cases u with
  | pointer p =>
    cases p with
    | none => simp [Instr.loadAt, Instr.sureAddr] at h
    | some ad =>
      rw [run_loadAt_ptr] at h
      simp only [asAddr, Sem.run_bind, Sem.run_pure, Result.andThen_ok]
      exact h
  | _ => simp [Instr.loadAt, Instr.sureAddr] at h

theorem eval_tmp (a : Act) (t : Nat) : a.eval (.tmp t) = a.tmps.getD t undef := rfl

theorem resultAVs_sound (hE : EnvOK P E) (H : RelI c I μ ρ s a w) : ∀ (l : List ResultVar) (vs : List AV), resultAVs E s l = some vs → ∃ us, (l.mapM (resV a.tmps)).run P w = .ok us w ∧ RL I w μ vs us
  | [], vs, h => by
    cases h
    exact ⟨[], rfl, .nil⟩
  | .tmp t :: l, vs, h => by
    unfold resultAVs at h
    cases hl : resultAVs E s l with
    | none => rw [hl] at h; cases h
    | some m =>
      rw [hl] at h
      cases h
      obtain ⟨us, h1, h2⟩ := resultAVs_sound hE H l m hl
      refine ⟨a.tmps.getD t undef :: us, ?_, .cons (get_sound H t) h2⟩
      simp only [List.mapM_cons, Sem.run_bind, resV, Sem.run_pure, Result.andThen_ok, h1]
  | .cell p t :: l, vs, h => by
    unfold resultAVs at h
    cases hv : loadK E t s (s.get p) (fun v _ => some v) with
    | none => rw [hv] at h; cases h
    | some v =>
      cases hl : resultAVs E s l with
      | none => rw [hv, hl] at h; cases h
      | some m =>
        rw [hv, hl] at h
        cases h
        obtain ⟨us, h1, h2⟩ := resultAVs_sound hE H l m hl
        obtain ⟨u, x, k1, k2, k3⟩ := loadK_sound hE H.mem (get_sound H p) hv
        cases k3
        refine ⟨u :: us, ?_, .cons k2 h2⟩
        have k1 : (resV a.tmps (.cell p t)).run P w = .ok u w := loadAt_var k1
        simp only [List.mapM_cons]
        rw [Sem.run_bind, k1]
        simp only [Sem.run_bind, Result.andThen_ok, h1, Sem.run_pure]

theorem resultAV_R : ∀ (vs : List AV) (us : List Value), RL I w μ vs us → R I w μ (resultAV vs).ty false (resultAV vs).x [if h : us.toArray.size = 1 then us.toArray[0] else .tuple us.toArray]
  | [], _, .nil => ⟨[], rfl, rfl⟩
  | [v], _, .cons h .nil => h
  | v :: v' :: vs, _, .cons (us := us1) h k => by
    cases k with
    | @cons _ u' _ us' h' k' =>
      have := chain_R (v :: v' :: vs) _ (.cons h (.cons h' k'))
      exact ⟨_, by simp, this⟩

theorem evFn_sound (hE : EnvOK P E) (hM : P.follows .mixedOrders = true) {C : CallSem T} (hC : CallOK P C) : CallOK P (evFn E C) := by
  intro f vs bs K r h c us hmem hargs
  unfold evFn at h
  cases hf : look E.fns f with
  | none => rw [hf] at h; cases h
  | some fn =>
    rw [hf] at h
    simp only at h
    obtain ⟨g1, g2⟩ := hE.fns f fn hf
    cases hb : fn.body with
    | none => rw [hb] at h; cases h
    | some cd =>
      rw [hb] at h
      simp only at h
      rw [forceSt_eq] at h
      refine ⟨⟨fn, g1, g2, by rw [hb]; rfl⟩, ?_⟩
      have hlen : us.length = vs.length := by
        clear h
        induction hargs with
        | nil => rfl
        | cons _ _ ih => simp [ih]
      have hslot : ∀ (vs : List AV) (us : List Value), RL c.I0 c.wS c.μ0 vs us → ∀ (i : Nat) v, vs[i]? = some v → ∃ u, us[i]? = some u ∧ R c.I0 c.wS c.μ0 v.ty false v.x [u] := by
        intro vs us hr
        induction hr with
        | nil => intro i v hv; simp at hv
        | cons h1 _ ih =>
          intro i v hv
          cases i with
          | zero => simp at hv; subst hv; exact ⟨_, by simp, h1⟩
          | succ i => obtain ⟨u, k1, k2⟩ := ih i v (by simpa using hv); exact ⟨u, by simpa using k1, k2⟩
      have H : RelI c c.I0 c.μ0 (fun _ => ⟨none, 0, 0, 0⟩) { tmps := vs ++ List.replicate (fn.ntmps - vs.length) .undef, boxes := bs, cp := List.replicate (vs.length + (fn.ntmps - vs.length)) none }
          { tmps := us.toArray ++ Array.replicate (fn.ntmps - us.toArray.size) undef, defers := [] } c.wS := by
        refine ⟨hmem, by simp [hlen], by simp, ?_, ?_, ?_, ?_, rfl⟩
        · intro i v hv
          simp only at hv ⊢
          rw [List.getElem?_append] at hv
          split at hv
          · obtain ⟨u, k1, k2⟩ := hslot vs us hargs i v hv
            refine ⟨u, ?_, k2⟩
            rw [Array.getElem?_append_left (by simp; omega)]
            simpa using k1
          · rename_i hi
            rw [List.getElem?_replicate] at hv
            split at hv
            · cases hv
              rename_i hi2
              refine ⟨undef, ?_, rfl⟩
              rw [Array.getElem?_append_right (by simp; omega)]
              simp [Array.getElem?_replicate, hlen]
              omega
            · cases hv
        · intro i p hp
          simp [List.getElem?_replicate] at hp
        · rintro p ⟨i, hi⟩
          simp [List.getElem?_replicate] at hi
        · rintro p q ⟨i, hi⟩
          simp [List.getElem?_replicate] at hi
      refine calls_of_wp g1 hb (wp_mono (evCode_sound hE hM hC _ cd H h) ?_)
      rintro e a' w' ⟨ex, s', I', μ', ρ', hex, hK, hR⟩
      have fin : (match resultAVs E s' fn.results.toList with
          | some vs => K (resultAV vs) (leaveB bs.length (resultAV vs).ty s'.boxes)
          | none => none) = some r → a'.defers = [] ∧ ∃ v, (results fn a'.tmps).run P w' = .ok v w' ∧ ∃ u v' bs' I' μ', Ending.returned v = Ending.returned u ∧ K v' bs' = some r ∧ MemI c I' μ' bs' w' ∧ R I' w' μ' v'.ty false v'.x [u] := by
        intro hK
        cases hv : resultAVs E s' fn.results.toList with
        | none => rw [hv] at hK; cases hK
        | some vs' =>
          rw [hv] at hK
          obtain ⟨us', h1, h2⟩ := resultAVs_sound hE hR _ _ hv
          have hrun : (results fn a'.tmps).run P w' = .ok (if h : us'.toArray.size = 1 then us'.toArray[0] else .tuple us'.toArray) w' := by
            rw [results_eq, Array.mapM_eq_mapM_toList]
            simp only [Sem.run_bind, Sem.run_map, h1, Result.andThen_ok, Sem.run_pure]
          have hK : K (resultAV vs') (leaveB bs.length (resultAV vs').ty s'.boxes) = some r := hK
          have hres := resultAV_R _ _ h2
          cases hf : boxFree bs.length (resultAV vs').ty with
          | false =>
            have hK : K (resultAV vs') (bif boxFree bs.length (resultAV vs').ty then dropBoxes bs.length s'.boxes else s'.boxes) = some r := hK
            rw [hf] at hK
            exact ⟨hR.defers, _, hrun, _, _, _, I', μ', rfl, hK, hR.mem, hres⟩
          | true =>
            have hK : K (resultAV vs') (bif boxFree bs.length (resultAV vs').ty then dropBoxes bs.length s'.boxes else s'.boxes) = some r := hK
            rw [hf] at hK
            have hlen0 : c.μ0.length = bs.length := hmem.blen.symm
            obtain ⟨ρ2, hw⟩ := widen_sound hR bs.length [] (by rw [← hlen0]; exact hR.mem.grow.len) (by rw [hlen0]; exact Nat.le_refl _)
            exact ⟨hR.defers, _, hrun, _, _, _, I', μ'.take bs.length, rfl, hK, hw.mem, hres.take _ _ _ _ _ hf⟩
      cases ex with
      | normal =>
        cases e <;> first | exact hex.elim | skip
        exact fin hK
      | exit i => cases hK
      | ret =>
        cases e <;> first | exact hex.elim | skip
        exact fin hK

theorem evCall_ok (hE : EnvOK P E) (hM : P.follows .mixedOrders = true) : ∀ d, CallOK P (evCall E d : CallSem T)
  | 0 => noCall_ok
  | d + 1 => evFn_sound hE hM (evCall_ok hE hM d)

def chainOK : Ty → Bool
  | .pr a b => a.single && chainOK b
  | .unit => true
  | t => t.single

theorem chainOK_shape : ∀ (t : Ty), chainOK t = true → t.single = true ∨ isPr t = true ∨ t = .unit
  | .pr a b, _ => .inr (.inl rfl)
  | .unit, _ => .inr (.inr rfl)
  | .int _, h | .bool, h | .str, h | .st _, h | .sl _, h | .tup _, h | .fn _ _ _, h | .box _ _, h | .boxv _ _, h | .ref _, h | .top, h | .undef, h => .inl h

theorem chainOK_mem : ∀ (t : Ty) (x : t.den), chainOK t = true → ∀ v, v ∈ unchain t x → v.ty.single = true
  | .pr a b, x, h, v, hv => by
    simp only [chainOK, Bool.and_eq_true] at h
    simp only [unchain, List.mem_cons] at hv
    rcases hv with rfl | hv
    · exact h.1
    · exact chainOK_mem b x.2 h.2 v hv
  | .unit, x, h, v, hv => by simp [unchain] at hv
  | .int _, _, h, v, hv | .bool, _, h, v, hv | .str, _, h, v, hv | .st _, _, h, v, hv | .sl _, _, h, v, hv | .tup _, _, h, v, hv | .fn _ _ _, _, h, v, hv | .box _ _, _, h, v, hv | .boxv _ _, _, h, v, hv | .ref _, _, h, v, hv | .top, _, h, v, hv | .undef, _, h, v, hv => by
    simp only [unchain, List.mem_singleton] at hv
    subst hv
    exact h

/-- what a function comes to is what the program's call of it comes to -/
theorem sem_calls (hE : EnvOK P E) (hM : P.follows .mixedOrders = true) {d f : Nat} {a r : Ty} {x : a.den} {y : r.den} (h : sem E d f a r x = some y) (ha : chainOK a = true) (hr : boxFree 0 r = true)
    {I : Im} {w : World} {us : List Value} (hI : ∀ b o, I b o → b < w.heap.size) (hx : R I w [] a false x us) :
    Known P f ∧ Calls P f us.toArray w fun e w' => ∃ u, e = .returned u ∧ R (fun b o => I b o ∨ (w.heap.size ≤ b ∧ b < w'.heap.size)) w' [] r false y [u] ∧ Below w.heap.size w w' := by
  unfold sem at h
  have hrl := unchain_R a x us hx (chainOK_shape a ha) (chainOK_mem a x ha)
  obtain ⟨k1, k2⟩ := evCall_ok (T := r.den) hE hM d f (unchain a x) [] _ y h ⟨w, fun b => b < w.heap.size, I, w, []⟩ us
    ⟨Below.refl _ _, Nat.le_refl _, Grow.refl _ _ _, Nat.le_refl _, rfl, (by intro i v b hv; simp at hv), List.nodup_nil, (by intro b hb; cases hb), (by intro i b hb; simp at hb), hI, fun b hb => ⟨hb, rfl, by simp, fun o h => h⟩⟩ hrl
  refine ⟨k1, k2.mono ?_⟩
  rintro e w' ⟨u, v, bs', I', μ', rfl, hK, hmem, hR⟩
  obtain ⟨t, z⟩ := v
  have hz := castTo_some hK
  cases hz
  refine ⟨u, rfl, ?_, hmem.below⟩
  have g : Grow I' w' μ' (fun b o => I b o ∨ (w.heap.size ≤ b ∧ b < w'.heap.size)) w' μ' := by
    refine ⟨fun b o hb => ?_, fun _ _ => rfl, fun _ _ h => h⟩
    by_cases hlt : b < w.heap.size
    · exact .inl ((hmem.fr b hlt).2.2.2 o hb)
    · exact .inr ⟨by omega, hmem.imlt b o hb⟩
  exact (hR.grow g).take 0 _ _ _ _ hr
end Go.Ev
