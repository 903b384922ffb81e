import Derived.Test.YtggobapgdflchaaEvDraw5
set_option linter.unusedVariables false
namespace Go.Ev
open Go.RowKit
variable {P : Program} {E : Env} {I I' : Im} {w w' : World} {μ μ' : List Nat} {c : Ctx} {ρ : Nat → Rm} {s s' : St} {a : Act} {o o' : Oper} {T : Type} {ops : Array Oper}

theorem pairOK_spec : ∀ (l : List Oper) (i j : Nat), pairOK ops o l i j = true → ∀ (k : Nat) (o' : Oper), l[k]? = some o' → neDst o.dst o'.dst = true ∧ (bindsOn o' i = true ∨ indep ops o o' = true)
  | [], i, j, h, k, o', hk => by simp at hk
  | x :: l, i, j, h, k, o', hk => by
    simp only [pairOK, Bool.and_eq_true, Bool.or_eq_true] at h
    cases k with
    | zero => simp at hk; subst hk; exact h.1
    | succ k => exact pairOK_spec l i (j + 1) h.2 k o' (by simpa using hk)

theorem drawOK_spec : ∀ (l : List Oper) (i : Nat), drawOK ops l i = true → (∀ (k : Nat) o, l[k]? = some o → ∀ e, e ∈ o.after → Region.binds .any e = true → e.on < i + k) ∧
    ∀ (k k' : Nat) o o', k < k' → l[k]? = some o → l[k']? = some o' → neDst o.dst o'.dst = true ∧ (bindsOn o' (i + k) = true ∨ indep ops o o' = true)
  | [], i, h => ⟨fun k o hk => by simp at hk, fun k k' o o' _ hk => by simp at hk⟩
  | x :: l, i, h => by
    simp only [drawOK, Bool.and_eq_true] at h
    obtain ⟨⟨h1, h2⟩, h3⟩ := h
    obtain ⟨r1, r2⟩ := drawOK_spec l (i + 1) h3
    refine ⟨?_, ?_⟩
    · intro k o hk e he hb
      cases k with
      | zero =>
        simp at hk
        subst hk
        have := List.all_eq_true.1 h1 e (by simpa using he)
        rw [hb] at this
        simpa using this
      | succ k =>
        have := r1 k o (by simpa using hk) e he hb
        omega
    · intro k k' o o' hlt hk hk'
      cases k with
      | zero =>
        simp at hk
        subst hk
        cases k' with
        | zero => omega
        | succ k' => exact pairOK_spec l i (i + 1) h2 k' o' (by simpa using hk')
      | succ k =>
        cases k' with
        | zero => omega
        | succ k' =>
          have := r2 k k' o o' (by omega) (by simpa using hk) (by simpa using hk')
          rw [show i + 1 + k = i + (k + 1) by omega] at this
          exact this

theorem fit_of (h : drawOK ops ops.toList 0 = true) : Fit ops := by
  obtain ⟨h1, h2⟩ := drawOK_spec ops.toList 0 h
  refine ⟨fun i o ho e he hb => ?_, fun i j o o' hij ho ho' => ?_⟩
  · have := h1 i o (by simpa using ho) e he hb
    omega
  · have := h2 i j o o' hij (by simpa using ho) (by simpa using ho')
    rwa [Nat.zero_add] at this

theorem RelI.strip (H : RelI c I μ ρ s a w) {cp : List (Option Nat)} (hl : cp.length = s.cp.length) (hs : ∀ (i p : Nat), cp[i]? = some (some p) → s.cp[i]? = some (some p)) : RelI c I μ ρ { s with cp := cp } a w :=
  ⟨H.mem, H.len, hl.trans H.cplen, H.slots, fun i p h => H.caps i p (hs i p h), fun p ⟨i, hi⟩ _ => H.rooms p ⟨i, hs i p hi⟩ trivial,
    fun p q ⟨i, hi⟩ ⟨j, hj⟩ hne _ _ => H.apart p q ⟨i, hs i p hi⟩ ⟨j, hs j q hj⟩ hne trivial trivial, H.defers⟩

theorem stripP_get {l : List Oper} {cp : List (Option Nat)} {i p : Nat} (h : (stripP l cp)[i]? = some (some p)) : cp[i]? = some (some p) ∧ ∀ o, o ∈ l → neDst (some p) o.dst = true := by
  unfold stripP at h
  rw [List.getElem?_map] at h
  cases hl : cp[i]? with
  | none => rw [hl] at h; cases h
  | some q =>
    rw [hl] at h
    cases q with
    | none => cases h
    | some q =>
      simp only [Option.map_some, Option.some.injEq] at h
      cases hq : (l.all fun o => neDst (some q) o.dst) with
      | false => rw [hq] at h; cases h
      | true =>
        rw [hq] at h
        simp only [cond_true, Option.some.injEq] at h
        subst h
        exact ⟨rfl, fun o ho => List.all_eq_true.1 hq o ho⟩

theorem RelI.drew (H : RelI c I μ ρ s a w) : RelI c I μ ρ s a { w with drawn := w.drawn + 1 } := by
  have g : Grow I w μ I { w with drawn := w.drawn + 1 } μ := ⟨fun _ _ h => h, fun _ _ => rfl, fun _ _ h => h⟩
  have h := H.mem
  exact ⟨⟨⟨h.below.os, h.below.tape, h.below.output, h.below.size, h.below.block⟩, h.base, ⟨h.grow.sub, fun a ha => h.grow.cell a ha, h.grow.pre⟩, h.sizeS, h.blen, fun i v b hv hb => by
      rcases h.boxes i v b hv hb with k | ⟨cs, et, k1, k2, k3⟩
      · exact .inl k
      · exact .inr ⟨cs, et, k1, k2.grow g, k3⟩, h.nodup, h.mu, h.munew, h.imlt, h.fr⟩, H.len, H.cplen, fun i v hv => let ⟨u, hu, hr⟩ := H.slots i v hv; ⟨u, hu, hr.grow g⟩, H.caps,
    fun p hp hx => by
      rcases H.rooms p hp hx with k | ⟨ad, cs, et, k1, k2, k3, k4, k5⟩
      · exact .inl k
      · exact .inr ⟨ad, cs, et, k1, k2, k3, k4, k5⟩, H.apart, H.defers⟩

theorem region_draw_sound (hE : EnvOK P E) (hM : P.follows .mixedOrders = true) {id : Nat} {K : St → Option T} {r : T} {Q : Exit → Act → World → Prop} (hQ : ∀ a w, Cont K r c a w → Q .normal a w)
    (H : RelI c I μ ρ s a w) (hd : drawOK ops ops.toList 0 = true) (h : evDraw E ops ops.toList 0 [] { s with cp := stripP ops.toList s.cp } K = some r) : (Code.region id ops true).wp P Q a w := by
  refine wp_region_any hM ?_
  have hF := fit_of hd
  have H2 := (H.strip (cp := stripP ops.toList s.cp) (by simp [stripP]) fun i p hi => (stripP_get hi).1).drew
  have hr := run_of_ev ops.toList 0 rfl h
  refine draw_sound hE hF (Z := fun s => K s = some r) (fun s I μ ρ a w hz H => hQ a w ⟨s, I, μ, ρ, hz, H⟩) ops.size (List.range' 0 ops.toList.length) _ [] _ I μ ρ a _ (by simp) List.pairwise_lt_range' ?_ (by simp) ?_ hr H2
  · intro i
    rw [List.mem_range'_1]
    simp only [Nat.zero_le, true_and, Array.length_toList, Nat.zero_add]
    constructor
    · intro hi; exact ⟨hi, by simp [Array.getD, hi]⟩
    · intro hi; exact hi.1
  · intro j hj o ho p hp i hi
    have := (stripP_get hi).2 o (by simpa using Array.mem_of_getElem? ho)
    rw [hp] at this
    simp [neDst] at this

theorem stall_some {n : Nat} {f : Unit → Option T} {r : T} (h : stall n f = some r) : f () = some r := by
  cases n with
  | zero => cases h
  | succ n => exact h

theorem evCode_sound (hE : EnvOK P E) (hM : P.follows .mixedOrders = true) {C : CallSem T} (hC : CallOK P C) (A : List (Nat × List Nat)) : ∀ (code : Code) {c : Ctx} {I : Im} {μ : List Nat} {ρ : Nat → Rm} {s : St} {a : Act} {w : World}
    {K : Ex → St → Option T} {r : T}, RelI c I μ ρ s a w → evCode E C A code s K = some r → code.wp P (Post K r c) a w
  | .skip, c, I, μ, ρ, s, a, w, K, r, H, h => wp_skip ⟨.normal, s, I, μ, ρ, trivial, h, H⟩
  | .region id ops draw, c, I, μ, ρ, s, a, w, K, r, H, h => by
    have hQ : ∀ a w, Cont (fun s' => K .normal s') r c a w → Post K r c .normal a w := fun a w ⟨s', I', μ', ρ', hk, hr⟩ => ⟨.normal, s', I', μ', ρ', trivial, hk, hr⟩
    cases draw with
    | false => exact region_sound hE hC hQ H h
    | true =>
      have h : (bif drawOK ops ops.toList 0 then evDraw E ops ops.toList 0 [] { s with cp := stripP ops.toList s.cp } fun s' => K .normal s' else none) = some r := h
      cases hd : drawOK ops ops.toList 0 with
      | false => rw [hd] at h; cases h
      | true => rw [hd] at h; exact region_draw_sound hE hM hQ H hd h
  | .seq x y, c, I, μ, ρ, s, a, w, K, r, H, h => by
    refine wp_seq (wp_mono (evCode_sound hE hM hC A x H h) ?_)
    rintro e a' w' ⟨ex, s', I', μ', ρ', hex, hK, hR⟩
    cases ex with
    | normal =>
      cases e <;> first | exact hex.elim | skip
      have hK : (match look A (joinAt y) with
        | some drop => forceSt (widen s'.boxes.length drop s') fun s'' => stall E.k fun _ => evCode E C A y s'' K
        | none => evCode E C A y s' K) = some r := hK
      cases hj : look A (joinAt y) with
      | none => rw [hj] at hK; exact evCode_sound hE hM hC A y hR hK
      | some drop =>
        rw [hj] at hK
        simp only at hK
        rw [forceSt_eq] at hK
        have hK := stall_some hK
        obtain ⟨ρ2, hw⟩ := widen_sound hR s'.boxes.length drop (by rw [hR.mem.blen]; exact Nat.le_refl _) (by rw [hR.mem.blen]; exact hR.mem.grow.len)
        exact evCode_sound hE hM hC A y hw hK
    | exit i =>
      cases e <;> first | exact hex.elim | skip
      exact ⟨.exit i, s', I', μ', ρ', hex, hK, hR⟩
    | ret =>
      cases e <;> first | exact hex.elim | skip
      exact ⟨.ret, s', I', μ', ρ', hex, hK, hR⟩
  | .cond x y z, c, I, μ, ρ, s, a, w, K, r, H, h => by
    have h : (match asB (opd s none x) with
      | some q => br q (evCode E C A y s K) (evCode E C A z s K)
      | none => none) = some r := h
    cases hx : opd s none x with
    | none => rw [hx] at h; cases h
    | some v =>
      obtain ⟨t, q⟩ := v
      cases t with
      | bool =>
        rw [hx] at h
        have h : br q (evCode E C A y s K) (evCode E C A z s K) = some r := h
        have hv := bool_of_R (opd_sound H hx)
        rcases br_some h with ⟨hq, h⟩ | ⟨hq, h⟩
        · exact wp_cond_true (by rw [hv, hq]) (evCode_sound hE hM hC A y H h)
        · exact wp_cond_false (by rw [hv, hq]) (evCode_sound hE hM hC A z H h)
      | _ => rw [hx] at h; cases h
  | .block id b, c, I, μ, ρ, s, a, w, K, r, H, h => by
    refine wp_block (wp_mono (evCode_sound hE hM hC A b H h) ?_)
    rintro e a' w' ⟨ex, s', I', μ', ρ', hex, hK, hR⟩
    cases ex with
    | normal =>
      cases e <;> first | exact hex.elim | skip
      exact ⟨.normal, s', I', μ', ρ', trivial, hK, hR⟩
    | exit i =>
      cases e <;> first | exact hex.elim | skip
      rename_i j
      have hex : i = j := hex
      subst hex
      have hK : (bif Nat.beq i id then K .normal s' else K (.exit i) s') = some r := hK
      show if i = id then Post K r c .normal a' w' else Post K r c (.exit i) a' w'
      by_cases hi : i = id
      · rw [if_pos hi]
        rw [hi, Nat.beq_refl] at hK
        exact ⟨.normal, s', I', μ', ρ', trivial, hK, hR⟩
      · rw [if_neg hi]
        rw [show Nat.beq i id = false from by cases hb : Nat.beq i id with | false => rfl | true => exact absurd (Nat.eq_of_beq_eq_true hb) hi] at hK
        exact ⟨.exit i, s', I', μ', ρ', rfl, hK, hR⟩
    | ret =>
      cases e <;> first | exact hex.elim | skip
      exact ⟨.ret, s', I', μ', ρ', hex, hK, hR⟩
  | .loop b, c, I, μ, ρ, s, a, w, K, r, H, h => by
    have h : (forceSt (widen s.boxes.length ((look A (firstRegion b)).getD []) s) fun s' => evLoop (fun s K => evCode E C A b s K) s.boxes.length ((look A (firstRegion b)).getD []) E.k s' K) = some r := h
    rw [forceSt_eq] at h
    have hbl := H.mem.blen
    obtain ⟨ρ2, hw⟩ := widen_sound H.rebase s.boxes.length ((look A (firstRegion b)).getD []) (by rw [hbl]; exact Nat.le_refl _) (by show μ.length ≤ _; rw [hbl]; exact Nat.le_refl _)
    rw [show μ.take s.boxes.length = μ from by rw [hbl]; exact List.take_length] at hw
    refine wp_mono (loop_sound (body := fun s K => evCode E C A b s K) (fun {c I μ ρ s a w K r} HH hh => evCode_sound hE hM hC A b HH hh) s.boxes.length _ E.k (by show μ.length = _; rw [hbl]) hw h) ?_
    intro e a' w' hp
    exact Post.back H hp
  | .exit id, c, I, μ, ρ, s, a, w, K, r, H, h => wp_exit ⟨.exit id, s, I, μ, ρ, rfl, h, H⟩
  | .ret, c, I, μ, ρ, s, a, w, K, r, H, h => wp_ret ⟨.ret, s, I, μ, ρ, trivial, h, H⟩
  | .scope _, _, _, _, _, _, _, _, _, _, _, h => by cases h
  | .rangeFunc _ _ _ _, _, _, _, _, _, _, _, _, _, _, h => by cases h
  | .goto _, _, _, _, _, _, _, _, _, _, _, h => by cases h
  | .label _, _, _, _, _, _, _, _, _, _, _, h => by cases h
end Go.Ev
