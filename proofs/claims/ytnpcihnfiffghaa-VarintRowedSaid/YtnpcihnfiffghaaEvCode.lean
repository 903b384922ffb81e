import Derived.Test.YtnpcihnfiffghaaEvOpK
set_option linter.unusedVariables false
namespace Go.Ev
open Go.RowKit
variable {P : Program} {E : Env} {I I' : Im} {w w' : World} {μ μ' : List Nat} {c : Ctx} {ρ : Nat → Rm} {s : St} {a : Act} {o : Oper} {T : Type} {bs bs' : List AV}

theorem forceA_eq {β : Type} : ∀ (l : List AV) (k : List AV → β), forceA l k = k l
  | [], _ => rfl
  | ⟨t, x⟩ :: l, k => by unfold forceA; rw [forceA_eq l]
theorem forceP_eq {β : Type} : ∀ (l : List (Option Nat)) (k : List (Option Nat) → β), forceP l k = k l
  | [], _ => rfl
  | none :: l, k => by unfold forceP; rw [forceP_eq l]
  | some i :: l, k => by unfold forceP; rw [forceP_eq l]
theorem forceSt_eq (s : St) (K : St → Option T) : forceSt s K = K s := by unfold forceSt; rw [forceA_eq, forceA_eq, forceP_eq]
theorem putK_eq (s : St) (d : Option Nat) (v : AV) (cp : Cap) (K : St → Option T) : putK s d v cp K = K (s.put d v cp) := by unfold putK; rw [forceSt_eq]

def Cont (K : St → Option T) (r : T) (c : Ctx) (a : Act) (w : World) : Prop := ∃ s I μ ρ, K s = some r ∧ RelI c I μ ρ s a w

theorem cont_of_out {K : St → Option T} {r : T} {dst : Option Nat} {u : Value} (h : Out (fun v cp s' => putK s' dst v cp K) r c a dst u w) : Cont K r c (a.put dst u) w := by
  obtain ⟨v, cap, s', I', μ', ρ', hK, hR, hu, hc, ht⟩ := h
  have hK : putK s' dst v cap K = some r := hK
  rw [putK_eq] at hK
  obtain ⟨ρ2, hR2⟩ := hR.put dst v u hu hc ht
  exact ⟨_, I', μ', ρ2, hK, hR2⟩

theorem setN_same {α : Type} : ∀ {l : List α} {d : Nat} {v : α}, l[d]? = some v → setN l d v = l
  | [], _, _, h => by simp at h
  | x :: l, 0, v, h => by simp at h; subst h; rfl
  | x :: l, d + 1, v, h => by simp at h; simp [setN, setN_same h]

theorem nth_of_ne {α : Type} {l : List α} {d : α} {i : Nat} {v : α} (h : nth d l i = v) (hne : v ≠ d) : l[i]? = some v := by
  cases hl : l[i]? with
  | none => rw [nth_none hl] at h; exact absurd h.symm hne
  | some x => rw [nth_get hl] at h; rw [h]

theorem evOper_sound (hE : EnvOK P E) {C : CallSem T} (hC : CallOK P C) {ops : Array Oper} {K : St → Option T} {r : T} (H : RelI c I μ ρ s a w) (h : evOper E C ops o s K = some r) {Q : Exit → Act → World → Prop} :
    (Region.wanted o (yielded ops a.tmps) = true ∧ ∀ next : Act → World → Prop, (∀ a' w', Cont K r c a' w' → next a' w') → o.wp P a w next Q) ∨ (Region.wanted o (yielded ops a.tmps) = false ∧ Cont K r c (a.put o.dst undef) w) := by
  have run : ∀ {s : St}, RelI c I μ ρ s a w → opK E C s o (fun v cp s' => putK s' o.dst v cp K) = some r → ∀ next : Act → World → Prop, (∀ a' w', Cont K r c a' w' → next a' w') → o.wp P a w next Q := by
    intro s H h next hn
    exact wp_of_yields (opK_sound hE hC H h) fun u w' hq => hn _ _ (cont_of_out hq)
  have skip : putK s o.dst .undef .no K = some r → Cont K r c (a.put o.dst undef) w := by
    intro h
    exact cont_of_out (dst := o.dst) ⟨.undef, .no, s, I, μ, ρ, h, H.toX _, rfl, trivial, fun p e => by cases e⟩
  unfold evOper at h
  cases hg : o.guard with
  | none =>
    rw [hg] at h
    refine .inl ⟨by unfold Region.wanted; rw [hg], run H h⟩
  | some jw =>
    obtain ⟨j, want⟩ := jw
    rw [hg] at h
    simp only at h
    have hw : Region.wanted o (yielded ops a.tmps) = (yielded ops a.tmps j == some want) := by unfold Region.wanted; rw [hg]
    cases hd : dstAt ops j with
    | none => rw [hd] at h; cases h
    | some d =>
      rw [hd] at h
      simp only at h
      have hops : (ops[j]?).bind (·.dst) = some d := by
        unfold dstAt at hd
        rw [← Array.getElem?_toList]
        cases ho : ops.toList[j]? with
        | none => rw [ho] at hd; cases hd
        | some x => rw [ho] at hd; exact hd
      have hy : ∀ u, a.tmps[d]? = some u → yielded ops a.tmps j = match u with | .bool b => some b | _ => none := by
        intro u hu
        unfold yielded
        rw [hops]
        simp only [Option.bind_some]
        rw [hu]
        cases u <;> rfl
      split at h
      · rename_i b hv
        have hs : s.tmps[d]? = some ⟨.bool, b⟩ := nth_of_ne hv (by intro e; injection e with e; cases e)
        obtain ⟨u, hu, hr⟩ := H.slots d _ hs
        have hu2 : u = .bool b := bool_of_R hr
        subst hu2
        have hyb := hy _ hu
        simp only at hyb
        have hst : b = true → { s with tmps := setN s.tmps d (.bool true) } = s := by
          intro hb; subst hb
          rw [show (AV.bool true) = ⟨.bool, true⟩ from rfl, setN_same hs]
        have hsf : b = false → { s with tmps := setN s.tmps d (.bool false) } = s := by
          intro hb; subst hb
          rw [show (AV.bool false) = ⟨.bool, false⟩ from rfl, setN_same hs]
        cases want with
        | true =>
          simp only [cond_true] at h
          rcases br_some h with ⟨hb, h⟩ | ⟨hb, h⟩
          · rw [hst hb] at h
            exact .inl ⟨by rw [hw, hyb, hb]; rfl, run H h⟩
          · rw [hsf hb] at h
            exact .inr ⟨by rw [hw, hyb, hb]; rfl, skip h⟩
        | false =>
          simp only [cond_false] at h
          rcases br_some h with ⟨hb, h⟩ | ⟨hb, h⟩
          · rw [hst hb] at h
            exact .inr ⟨by rw [hw, hyb, hb]; rfl, skip h⟩
          · rw [hsf hb] at h
            exact .inl ⟨by rw [hw, hyb, hb]; rfl, run H h⟩
      · rename_i x hv
        have hs : s.tmps[d]? = some ⟨.undef, x⟩ := nth_of_ne hv (by intro e; injection e with e; cases e)
        obtain ⟨u, hu, hr⟩ := H.slots d _ hs
        have hu2 : u = undef := by cases hr; rfl
        subst hu2
        exact .inr ⟨by rw [hw, hy _ hu]; rfl, skip h⟩
      · cases h

theorem evOps_sound (hE : EnvOK P E) {C : CallSem T} (hC : CallOK P C) {ops : Array Oper} {K : St → Option T} {r : T} {Q : Exit → Act → World → Prop} (hQ : ∀ a w, Cont K r c a w → Q .normal a w) :
    ∀ (l : List Oper) (k : Nat), ops.toList.drop k = l → ∀ {I μ ρ s a w}, RelI c I μ ρ s a w → evOps E C ops l s K = some r → wpOps P ops Q (List.range' k l.length) a w
  | [], k, hk, I, μ, ρ, s, a, w, H, h => hQ a w ⟨s, I, μ, ρ, h, H⟩
  | o :: l, k, hk, I, μ, ρ, s, a, w, H, h => by
    have hko : ops[k]? = some o := by
      rw [← Array.getElem?_toList]
      have : (ops.toList.drop k)[0]? = some o := by rw [hk]; rfl
      simpa using this
    have hk2 : ops.toList.drop (k + 1) = l := by
      have : (ops.toList.drop k).drop 1 = l := by rw [hk]; rfl
      rwa [List.drop_drop] at this
    rw [List.length_cons, List.range'_succ]
    simp only [wpOps, hko]
    unfold evOps at h
    rcases evOper_sound hE hC H h (Q := Q) with ⟨h1, h2⟩ | ⟨h1, s', I', μ', ρ', h2, h3⟩
    · rw [if_pos h1]
      refine .inl (h2 _ ?_)
      rintro a' w' ⟨s', I', μ', ρ', hK, hR⟩
      exact evOps_sound hE hC hQ l (k + 1) hk2 hR hK
    · rw [if_neg (by rw [h1]; simp)]
      exact evOps_sound hE hC hQ l (k + 1) hk2 h3 h2

theorem region_sound (hE : EnvOK P E) {C : CallSem T} (hC : CallOK P C) {ops : Array Oper} {id : Nat} {K : St → Option T} {r : T} {Q : Exit → Act → World → Prop} (hQ : ∀ a w, Cont K r c a w → Q .normal a w)
    (H : RelI c I μ ρ s a w) (h : evOps E C ops ops.toList s K = some r) : (Code.region id ops false).wp P Q a w := by
  refine wp_region ?_
  have := evOps_sound hE hC hQ ops.toList 0 rfl H h
  rw [List.range_eq_range']
  simpa using this
end Go.Ev
