import Derived.Test.YtggobapgdflchaaEvMem5
set_option linter.unusedVariables false
namespace Go.Ev
open Go.RowKit
variable {P : Program} {E : Env} {I I' : Im} {w w' : World} {μ μ' : List Nat} {c : Ctx} {ρ : Nat → Rm} {s : St} {a : Act} {o : Oper} {T : Type} {bs bs' : List AV}

def Known (P : Program) (f : Nat) : Prop := ∃ fn, P.funcs[f]? = some fn ∧ fn.name ≠ "runtime.NumGoroutine" ∧ fn.body.isSome = true

theorem run_callFunc {f : Nat} (h : Known P f) (args : Array Value) : (callFunc f args).run P w = .ok (.enter f args) w := by
  obtain ⟨fn, h1, h2, h3⟩ := h
  have e2 : fn.body ≠ none := by intro e; rw [e] at h3; cases h3
  unfold callFunc
  simp [program, Sem.run, h1, h2, e2]

def CallOK (P : Program) (C : CallSem T) : Prop := ∀ f vs bs K r, C f vs bs K = some r → ∀ (c : Ctx) (us : List Value), MemI c c.I0 c.μ0 bs c.wS → RL c.I0 c.wS c.μ0 vs us →
  Known P f ∧ Calls P f us.toArray c.wS fun e w' => ∃ u v bs' I' μ', e = .returned u ∧ K v bs' = some r ∧ MemI c I' μ' bs' w' ∧ R I' w' μ' v.ty false v.x [u]

theorem noCall_ok : CallOK P (noCall : CallSem T) := fun _ _ _ _ _ h => by cases h

theorem RL.append : ∀ {vs vs' : List AV} {us us' : List Value}, RL I w μ vs us → RL I w μ vs' us' → RL I w μ (vs ++ vs') (us ++ us')
  | _, _, _, _, .nil, k => k
  | _, _, _, _, .cons h k', k => .cons h (RL.append k' k)

theorem ctrK_sound {f : Nat} {v : AV} {K : AV → Option T} {no : Option T} {r : T} : ∀ (l : List Ctr), ctrK f v l K no = some r →
    (∃ c x y, c ∈ l ∧ c.f = f ∧ boxFree 0 c.a = true ∧ boxFree 0 c.r = true ∧ v = ⟨c.a, x⟩ ∧ c.G x = some y ∧ K ⟨c.r, y⟩ = some r) ∨ no = some r
  | [], h => .inr h
  | c :: l, h => by
    unfold ctrK at h
    cases hb : (Nat.beq c.f f && boxFree 0 c.a && boxFree 0 c.r) with
    | false =>
      rw [hb] at h
      rcases ctrK_sound l h with ⟨c', x, y, h1, h2⟩ | h
      · exact .inl ⟨c', x, y, List.mem_cons_of_mem _ h1, h2⟩
      · exact .inr h
    | true =>
      rw [hb] at h
      simp only [cond_true] at h
      simp only [Bool.and_eq_true] at hb
      cases hc : castTo c.a v with
      | none =>
        rw [hc] at h
        rcases ctrK_sound l h with ⟨c', x, y, h1, h2⟩ | h
        · exact .inl ⟨c', x, y, List.mem_cons_of_mem _ h1, h2⟩
        · exact .inr h
      | some x =>
        rw [hc] at h
        simp only at h
        cases hg : c.G x with
        | none => rw [hg] at h; cases h
        | some y =>
          rw [hg] at h
          exact .inl ⟨c, x, y, List.mem_cons_self, Nat.eq_of_beq_eq_true hb.1.1, hb.1.2, hb.2, castTo_some hc, hg, h⟩

def Reserved (s : St) (ρ : Nat → Rm) (b : Nat) : Prop := ∃ p ad, Live s p ∧ (ρ p).n ≠ (ρ p).cap ∧ (ρ p).a = some ad ∧ ad.block = b

theorem MemI.enter (H : RelI c I μ ρ s a w) : MemI ⟨c.w0, fun b => c.F b ∨ Reserved s ρ b, I, w, μ⟩ I μ s.boxes w := by
  have h := H.mem
  refine ⟨h.below, Nat.le_trans h.base h.sizeS, Grow.refl _ _ _, Nat.le_refl _, h.blen, h.boxes, h.nodup, h.mu, fun i b hb => .inl hb, h.imlt, ?_⟩
  rintro b (hb | ⟨p, ad, hp, hn, ha, rfl⟩)
  · obtain ⟨h1, h2, h3, h4⟩ := h.fr b hb
    exact ⟨Nat.lt_of_lt_of_le h1 h.sizeS, rfl, h3, fun o k => k⟩
  · rcases H.rooms p hp trivial with k | ⟨ad', cs, et, k1, k2, k3, k4, k5, k6, k7, k8, k9⟩
    · exact absurd k hn
    · rw [ha] at k1; cases k1
      exact ⟨lt_of_get k4, rfl, k7, fun o k => k⟩

theorem MemI.leave {X : Nat → Prop} (H : RelI c I μ ρ s a w) (H' : MemI ⟨c.w0, fun b => c.F b ∨ Reserved s ρ b, I, w, μ⟩ I' μ' bs' w') : RelX X c I' μ' ρ { s with boxes := bs' } a w' := by
  have h := H.mem
  refine RelX.step H ⟨H'.below, h.base, h.grow.trans H'.grow, Nat.le_trans h.sizeS H'.sizeS, H'.blen, H'.boxes, H'.nodup, H'.mu, ?_, H'.imlt, ?_⟩ H'.grow ?_
  · intro i b hb
    rcases H'.munew i b hb with k | k
    · exact h.munew i b k
    · exact .inr (Nat.le_trans h.sizeS k)
  · intro b hb
    obtain ⟨h1, h2, h3, h4⟩ := h.fr b hb
    obtain ⟨k1, k2, k3, k4⟩ := H'.fr b (.inl hb)
    exact ⟨h1, k2.trans h2, k3, fun o k => h4 o (k4 o k)⟩
  · intro p hp _
    by_cases hn : (ρ p).n = (ρ p).cap
    · exact .inl hn
    · rcases H.rooms p hp trivial with k | ⟨ad, cs, et, k1, k2, k3, k4, k5, k6, k7, k8, k9⟩
      · exact absurd k hn
      · obtain ⟨g1, g2, g3, g4⟩ := H'.fr ad.block (.inr ⟨p, ad, hp, hn, k1, rfl⟩)
        exact .inr ⟨ad, cs, et, k1, k2, k3, g2.trans k4, k5, k6, g3, k8, fun o ho k => k9 o ho (g4 o k)⟩

theorem callK_sound (hE : EnvOK P E) {C : CallSem T} (hC : CallOK P C) (H : RelI c I μ ρ s a w) {f : Nat} {vs : List AV} {us : List Value} {K : AV → Cap → St → Option T} {r : T} (hvs : RL I w μ vs us)
    (h : callK E C f vs s K = some r) : Known P f ∧ Calls P f us.toArray w fun e w'' => ∃ u, e = .returned u ∧ Out K r c a o.dst u w'' := by
  unfold callK at h
  rcases ctrK_sound _ h with ⟨ct, x, y, h1, h2, h3, h4, h5, h6, h7⟩ | h
  · subst h2
    refine ⟨hE.cfns ct h1, ?_⟩
    have hr := chain_R vs us hvs
    rw [h5] at hr
    have hr0 := hr.take 0 ct.a false x us h3
    simp only [List.take_zero] at hr0
    refine ((hE.ctrs ct h1).calls I w x us y H.mem.imlt hr0 h6).mono ?_
    rintro e w' ⟨u, rfl, hu, hb⟩
    obtain ⟨g1, g2⟩ := grown_sound (X := noTake .no) H hb (fun b o => w.heap.size ≤ b ∧ b < w'.heap.size) (fun b o h => h)
    refine ⟨u, rfl, ⟨ct.r, y⟩, .no, s, _, μ, ρ, h7, g1, ?_, trivial, fun p e => by cases e⟩
    exact hu.grow (⟨fun _ _ h => h, fun _ _ => rfl, fun i b h => by simp at h⟩ : Grow _ w' [] _ w' μ)
  · obtain ⟨hk, hcalls⟩ := hC f vs s.boxes _ r h ⟨c.w0, fun b => c.F b ∨ Reserved s ρ b, I, w, μ⟩ us (MemI.enter H) hvs
    refine ⟨hk, hcalls.mono ?_⟩
    rintro e w' ⟨u, v, bs', I', μ', rfl, hK, hm, hu⟩
    exact ⟨u, rfl, v, .no, _, I', μ', ρ, hK, MemI.leave H hm, hu, trivial, fun p e => by cases e⟩

theorem RL.len {vs : List AV} {us : List Value} (h : RL I w μ vs us) : vs.length = us.length := by induction h <;> simp_all

theorem run_len_sl {U e : Nat} {ad : Option Addr} {n cap ty : Nat} (hU : P.underlying U = some (.slice e)) : (Builtin.len_ #[U] ty #[.slice ad n cap]).run P w = .ok (.int .i64 n) w := by
  simp [Builtin.len_, run_underlying hU, goInt]
theorem run_len_str {U : Nat} {b : ByteArray} {ty : Nat} (hU : P.underlying U = some .string) : (Builtin.len_ #[U] ty #[.string b]).run P w = .ok (.int .i64 b.size) w := by
  simp [Builtin.len_, run_underlying hU, goInt]

theorem map_one {l : List Nat} {x : Option Ty} (h : l.map E.ty = [x]) : ∃ U, l = [U] ∧ E.ty U = x := by
  match l, h with
  | [U], h => exact ⟨U, rfl, by simpa using h⟩

theorem builtin_sound (hE : EnvOK P E) {K : AV → Cap → St → Option T} {r : T} {b : Builtin} {cl : Call} (H : RelI c I μ ρ s a w) (ho : o.op = .call cl) (hb : cl.callee = .builtin b) {vs : List AV}
    (hvs : opds s E cl.args.toList cl.argTypes.toList = some vs)
    (h : (bif !o.dst.isSome then none else builtinK E b cl.argTypes.toList vs (cl.args.toList.map (opdCap s)) fun v c => K v c s) = some r) : Yields P o a w (Out K r c a o.dst) := by
  cases hd : o.dst.isSome with
  | false => rw [hd] at h; cases h
  | true =>
  rw [hd] at h
  simp only [Bool.not_true, cond_false] at h
  have hrl := opds_sound H _ _ _ hvs
  have hargs : (cl.args.map a.eval).toList = cl.args.toList.map a.eval := Array.toList_map
  have run : ∀ v w', ((builtin b cl.argTypes o.type (cl.args.map fun | .const _ => true | _ => false) (cl.args.map a.eval)).run P w) = .ok (.value v) w' → (execOp a.eval o).run P w = .ok (.value v) w' := by
    intro v w' hv
    unfold execOp; rw [ho]
    simp only [Sem.run_bind, resolve, hb, Sem.run_pure, Result.andThen_ok, invoke]
    exact hv
  have arg1 : ∀ {x : AV} {u : Value}, vs = [x] → RL I w μ vs (cl.args.toList.map a.eval) → ∃ u, cl.args.map a.eval = #[u] ∧ R I w μ x.ty false x.x [u] := by
    intro x u e hh
    subst e
    cases hu : cl.args.toList.map a.eval with
    | nil => rw [hu] at hh; cases hh
    | cons u us =>
      rw [hu] at hh
      cases hh with
      | cons k1 k2 => cases k2; exact ⟨u, by apply Array.toList_inj.1; rw [hargs, hu], k1⟩
  have arg2 : ∀ {x y : AV}, vs = [x, y] → RL I w μ vs (cl.args.toList.map a.eval) → ∃ u v, cl.args.map a.eval = #[u, v] ∧ R I w μ x.ty false x.x [u] ∧ R I w μ y.ty false y.x [v] := by
    intro x y e hh
    subst e
    cases hu : cl.args.toList.map a.eval with
    | nil => rw [hu] at hh; cases hh
    | cons u us =>
      rw [hu] at hh
      cases hh with
      | cons k1 k2 =>
        cases us with
        | nil => cases k2
        | cons v us =>
          cases k2 with
          | cons k2 k3 => cases k3; exact ⟨u, v, by apply Array.toList_inj.1; rw [hargs, hu], k1, k2⟩
  have types1 : ∀ {U : Nat}, cl.argTypes.toList = [U] → cl.argTypes = #[U] := fun h => by apply Array.toList_inj.1; rw [h]
  unfold builtinK at h
  split at h
  · -- len of a slice
    rename_i t l
    cases hdd : decide (cl.argTypes.toList.map E.ty = [some (.sl t)]) with
    | false => rw [hdd] at h; cases h
    | true =>
      rw [hdd] at h
      obtain ⟨U, hU1, hU2⟩ := map_one (of_decide_eq_true hdd)
      obtain ⟨u, hu, hr⟩ := arg1 (u := undef) rfl hrl
      obtain ⟨ad, n, cap, cells, e, hn, _⟩ := hr
      have e : u = .slice ad n cap := by injection e
      obtain ⟨e', hue, _⟩ := (hE.tys _ _ hU2).sl t rfl
      refine yields_value (u := .int .i64 n) (w' := w) (run _ _ ?_) (Out.no h H (by show [_] = [_]; rw [hn]; rfl))
      rw [hu, e, types1 hU1]
      simp only [builtin, Sem.run_bind, run_len_sl hue, Result.andThen_ok]; rfl
  · rename_i bb
    cases hdd : decide (cl.argTypes.toList.map E.ty = [some .str]) with
    | false => rw [hdd] at h; cases h
    | true =>
      rw [hdd] at h
      obtain ⟨U, hU1, hU2⟩ := map_one (of_decide_eq_true hdd)
      obtain ⟨u, hu, hr⟩ := arg1 (u := undef) rfl hrl
      have e := str_of_R hr
      refine yields_value (u := .int .i64 (ByteArray.size bb)) (w' := w) (run _ _ ?_) (Out.no h H rfl)
      rw [hu, e, types1 hU1]
      have k := run_len_str (P := P) (w := w) (b := bb) (ty := o.type) ((hE.tys _ _ hU2).str rfl)
      simp only [builtin, Sem.run_bind]
      rw [k]; rfl
  · rename_i k x k' y
    by_cases hk : k = k'
    · subst hk
      rw [if_pos rfl] at h
      obtain ⟨u, v, hu, r1, r2⟩ := arg2 rfl hrl
      have e1 := int_of_R r1
      have e2 := int_of_R r2
      refine yields_value (u := .int k (minI x y)) (w' := w) (run _ _ ?_) (Out.no h H rfl)
      rw [hu, e1, e2]
      rfl
    · rw [if_neg hk] at h; cases h
  · rename_i k x k' y
    by_cases hk : k = k'
    · subst hk
      rw [if_pos rfl] at h
      obtain ⟨u, v, hu, r1, r2⟩ := arg2 rfl hrl
      have e1 := int_of_R r1
      have e2 := int_of_R r2
      refine yields_value (u := .int k (maxI x y)) (w' := w) (run _ _ ?_) (Out.no h H rfl)
      rw [hu, e1, e2]
      rfl
    · rw [if_neg hk] at h; cases h
  · -- append
    rename_i t l t' m
    have hcaps : ∀ x, cl.args.toList.map (opdCap s) = x → True := fun _ _ => trivial
    split at h
    · rename_i U U2 cp cps hTs hcs
      split at h
      · rename_i n cp' m' hlim hcp hcast
        cases hdd : (decide (E.ty U = some (.sl t)) && t.cellok && Nat.beq U U2 && Nat.blt 0 t.csize && (t.zero).isSome) with
        | false => rw [hdd] at h; cases h
        | true =>
          rw [hdd] at h
          simp only [cond_true] at h
          simp only [Bool.and_eq_true, decide_eq_true_eq, Nat.blt_eq] at hdd
          obtain ⟨⟨⟨⟨hU, hck⟩, hUU⟩, hcz⟩, hz⟩ := hdd
          have hUU : U = U2 := Nat.eq_of_beq_eq_true hUU
          subst hUU
          have hm := castTo_some hcast
          have hm2 : t' = t ∧ HEq m m' := by injection hm with q1 q2; injection q1 with q1; exact ⟨q1, q2⟩
          obtain ⟨rfl, hm2⟩ := hm2
          cases hm2
          rcases br_some h with ⟨hfits, h⟩ | ⟨_, h⟩
          · have hfit : (List.length l + List.length m) * n ≤ 140737488355328 := of_decide_eq_true hfits
            obtain ⟨u, v, hu, r1, r2⟩ := arg2 rfl hrl
            -- the first operand
            obtain ⟨x0, xs, hxs⟩ : ∃ x0 xs, cl.args.toList = x0 :: xs := by
              cases hh : cl.args.toList with
              | nil => rw [hh] at hcs; cases hcs
              | cons x0 xs => exact ⟨x0, xs, rfl⟩
            have hu0 : u = a.eval x0 := by
              have : (cl.args.map a.eval).toList = [u, v] := by rw [hu]
              rw [hargs, hxs] at this
              injection this with this _; exact this.symm
            have hcp0 : cp = opdCap s x0 := by rw [hxs] at hcs; injection hcs with hcs _; exact hcs.symm
            obtain ⟨T0, hx0⟩ : ∃ T0, opd s T0 x0 = some ⟨.sl t', l⟩ := by
              rw [hxs, hTs] at hvs
              unfold opds at hvs
              cases hq : opd s (E.ty U) x0 with
              | none => rw [hq] at hvs; cases hvs
              | some q =>
                cases hq2 : opds s E xs [U] with
                | none => rw [hq, hq2] at hvs; cases hvs
                | some qs =>
                  rw [hq, hq2] at hvs
                  simp only at hvs
                  injection hvs with hvs
                  injection hvs with hvs _
                  exact ⟨_, by rw [← hvs]; exact hq⟩
            have hcap := opdCap_sound H hx0
            rw [← hcp0, ← hu0] at hcap
            obtain ⟨r0, X, h1, h2, h3, h4, h5, h6⟩ : ∃ (r0 : Rm) (X : Nat → Prop), u = .slice r0.a r0.n r0.cap ∧ r0.sz = t'.csize ∧ Room c.w0.heap.size c.F I μ w r0 ∧ (∀ q, Live s q → X q → Apart r0 (ρ q)) ∧
                (X = noTake cp') ∧ (∀ p, cp' = .taken p ∨ cp' = .fresh ∨ True) := by
              cases cp with
              | no => cases hcp
              | taken p => cases hcp
              | fresh =>
                have : cp' = .fresh := by injection hcp with hcp; exact hcp.symm
                subst this
                obtain ⟨r0, g1, g2, g3, g4⟩ := hcap t' rfl
                exact ⟨r0, _, g2, g1, g3, fun q hq _ => g4 q hq, rfl, fun _ => .inr (.inr trivial)⟩
              | dup o =>
                cases o with
                | none => cases hcp
                | some p =>
                  have : cp' = .taken p := by injection hcp with hcp; exact hcp.symm
                  subst this
                  obtain ⟨g1, g2, g3⟩ := hcap t' rfl
                  exact ⟨ρ p, _, g3, g2, H.rooms p g1 trivial, fun q hq hne => H.apart p q g1 hq (fun e => hne e.symm) trivial trivial, rfl, fun _ => .inr (.inr trivial)⟩
            subst h5
            obtain ⟨u', w', I', r', k1, k2, k3, k4, k5, k6, k7⟩ := append_out hE H (ty := o.type) hU hlim hcz hz hck r1 r2 hfit h1 h2 h3 (noTake cp') h4
            refine yields_value (u := u') (w' := w') (run _ _ ?_) ⟨⟨.sl t', app l m⟩, cp', s, I', μ, ρ, h, k2, k3, ?_, fun p e => ⟨rfl, hd⟩⟩
            · have hty2 : cl.argTypes = #[U, U] := by apply Array.toList_inj.1; rw [hTs]
              rw [hu, hty2]
              simp only [builtin, Sem.run_bind]
              rw [k1]; rfl
            · cases cp' with
              | no => exact trivial
              | dup o => 
                exfalso
                cases cp with
                | dup o => cases o <;> cases hcp
                | _ => cases hcp
              | fresh => intro t2 ht2; cases ht2; exact ⟨r', k4, k5, k6, fun q hq => k7 q hq trivial⟩
              | taken p => intro t2 ht2; cases ht2; exact ⟨r', k4, k5, k6, fun q hq hne => k7 q hq hne⟩
          · cases h
      · cases h
    · cases h
  · cases h
end Go.Ev
