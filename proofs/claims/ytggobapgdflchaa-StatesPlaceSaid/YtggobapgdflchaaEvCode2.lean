import Derived.Test.YtggobapgdflchaaEvCode
set_option linter.unusedVariables false
namespace Go.Ev
open Go.RowKit
variable {P : Program} {E : Env} {I I' : Im} {w w' : World} {μ μ' : List Nat} {c : Ctx} {ρ : Nat → Rm} {s : St} {a : Act} {o : Oper} {T : Type} {bs bs' : List AV}

theorem dropTmps_get (n : Nat) (drop : List Nat) : ∀ (l : List AV) (k i : Nat), (dropTmps n drop l k)[i]? = (l[i]?).map fun v => bif drop.contains (k + i) || !(boxFree n v.ty) then .top else v
  | [], k, i => by simp [dropTmps]
  | v :: l, k, 0 => by simp [dropTmps]
  | v :: l, k, i + 1 => by simp only [dropTmps, List.getElem?_cons_succ, dropTmps_get n drop l (k + 1) i]; rw [show k + 1 + i = k + (i + 1) by omega]
theorem dropTmps_len (n : Nat) (drop : List Nat) : ∀ (l : List AV) (k : Nat), (dropTmps n drop l k).length = l.length
  | [], k => rfl
  | v :: l, k => by simp [dropTmps, dropTmps_len n drop l (k + 1)]

theorem dropCp_get (n : Nat) (drop : List Nat) : ∀ (vs : List AV) (l : List (Option Nat)) (k i p : Nat), (dropCp n drop vs l k)[i]? = some (some p) → l[i]? = some (some p) ∧ ∃ v, vs[i]? = some v ∧ (drop.contains (k + i) || !(boxFree n v.ty)) = false
  | [], l, k, i, p, h => by simp [dropCp] at h
  | v :: vs, [], k, i, p, h => by simp [dropCp] at h
  | v :: vs, q :: l, k, 0, p, h => by
    simp only [dropCp, List.getElem?_cons_zero, Option.some.injEq] at h
    cases hd : (drop.contains k || !(boxFree n v.ty)) with
    | true => rw [hd] at h; cases h
    | false => rw [hd] at h; simp only [cond_false] at h; exact ⟨by simp [h], v, rfl, by simpa using hd⟩
  | v :: vs, q :: l, k, i + 1, p, h => by
    simp only [dropCp, List.getElem?_cons_succ] at h
    obtain ⟨h1, u, h2, h3⟩ := dropCp_get n drop vs l (k + 1) i p h
    exact ⟨by simpa using h1, u, by simpa using h2, by rw [show k + (i + 1) = k + 1 + i by omega]; exact h3⟩
theorem dropCp_len (n : Nat) (drop : List Nat) : ∀ (vs : List AV) (l : List (Option Nat)) (k : Nat), vs.length = l.length → (dropCp n drop vs l k).length = l.length
  | [], [], k, _ => rfl
  | v :: vs, q :: l, k, h => by simp only [dropCp, List.length_cons]; rw [dropCp_len n drop vs l (k + 1) (by simpa using h)]
  | [], q :: l, k, h => by simp at h
  | v :: vs, [], k, h => by simp at h

theorem isP_iff {p : Nat} {q : Option Nat} : isP p q = true ↔ q = some p := by
  cases q with
  | none => simp [isP]
  | some q => simp only [isP, Option.some.injEq]; exact ⟨fun h => Nat.eq_of_beq_eq_true h, fun h => by subst h; exact Nat.beq_refl _⟩

theorem firstAt_spec (p : Nat) : ∀ (l : List (Option Nat)) (k i : Nat), l[i]? = some (some p) → ∃ j, firstAt p l k = k + j ∧ l[j]? = some (some p)
  | [], k, i, h => by simp at h
  | q :: l, k, i, h => by
    unfold firstAt
    cases hq : isP p q with
    | true => exact ⟨0, rfl, by rw [isP_iff.1 hq]; rfl⟩
    | false =>
      cases i with
      | zero => simp at h; rw [isP_iff.2 h] at hq; cases hq
      | succ i =>
        simp at h
        obtain ⟨j, h1, h2⟩ := firstAt_spec p l (k + 1) i h
        exact ⟨j + 1, by simp only [cond_false]; rw [h1]; omega, by simpa using h2⟩

theorem canonCp_get {l : List (Option Nat)} {i p' : Nat} (h : (canonCp l)[i]? = some (some p')) : ∃ p, l[i]? = some (some p) ∧ p' = firstAt p l 0 ∧ l[p']? = some (some p) := by
  unfold canonCp at h
  rw [List.getElem?_map] at h
  cases hl : l[i]? with
  | none => rw [hl] at h; cases h
  | some q =>
    rw [hl] at h
    cases q with
    | none => cases h
    | some p =>
      simp only [Option.map_some, Option.some.injEq] at h
      obtain ⟨j, h1, h2⟩ := firstAt_spec p l 0 i hl
      rw [Nat.zero_add] at h1
      exact ⟨p, rfl, h.symm, by rw [← h, h1]; exact h2⟩

/-- what falls at a loop's head -/
theorem widen_sound (H : RelI c I μ ρ s a w) (n : Nat) (drop : List Nat) (hn : n ≤ μ.length) (h0 : c.μ0.length ≤ n) : ∃ ρ', RelI c I (μ.take n) ρ' (widen n drop s) a w := by
  have h := H.mem
  have hsub : ∀ b, b ∈ μ.take n → b ∈ μ := fun b hb => List.mem_of_mem_take hb
  have hget : ∀ (i b : Nat), (μ.take n)[i]? = some b → μ[i]? = some b := fun i b hb => by
    rw [List.getElem?_take] at hb
    split at hb
    · exact hb
    · cases hb
  refine ⟨fun p' => match (dropCp n drop s.tmps s.cp 0)[p']? with | some (some p) => ρ p | _ => ρ p', ⟨⟨h.below, h.base, ⟨h.grow.sub, h.grow.cell, ?_⟩, h.sizeS, ?_, ?_, ?_, fun b hb => h.mu b (hsub b hb), fun i b hb => h.munew i b (hget i b hb), h.imlt, ?_⟩, ?_, ?_, ?_, ?_, ?_, ?_, H.defers⟩⟩
  · intro i b hb
    rw [List.getElem?_take, if_pos (by have := (List.getElem?_eq_some_iff.1 hb).1; omega)]
    exact h.grow.pre i b hb
  · show (dropBoxes n s.boxes).length = _
    unfold dropBoxes
    rw [List.length_map, List.length_take, List.length_take, h.blen]
  · intro i v b hv hb
    have hv' : ((s.boxes.take n).map fun v => bif boxFree n v.ty then v else .undef)[i]? = some v := hv
    rw [List.getElem?_map, List.getElem?_take] at hv'
    split at hv'
    · cases hx : s.boxes[i]? with
      | none => rw [hx] at hv'; cases hv'
      | some x =>
        rw [hx] at hv'
        simp only [Option.map_some, Option.some.injEq] at hv'
        cases hf : boxFree n x.ty with
        | false => rw [hf] at hv'; simp only [cond_false] at hv'; subst hv'; exact .inl rfl
        | true =>
          rw [hf] at hv'; simp only [cond_true] at hv'; subst hv'
          rcases h.boxes i x b hx (hget i b hb) with k | ⟨cs, et, h1, h2, h3⟩
          · exact .inl k
          · exact .inr ⟨cs, et, h1, h2.take n _ _ _ _ hf, h3⟩
    · cases hv'
  · exact h.nodup.sublist (List.take_sublist n μ)
  · intro b hb
    obtain ⟨h1, h2, h3, h4⟩ := h.fr b hb
    exact ⟨h1, h2, fun k => h3 (hsub b k), h4⟩
  · show a.tmps.size = (dropTmps n drop s.tmps 0).length
    rw [dropTmps_len]; exact H.len
  · show (canonCp _).length = (dropTmps n drop s.tmps 0).length
    unfold canonCp
    rw [List.length_map, dropTmps_len, dropCp_len _ _ _ _ _ H.cplen.symm]; exact H.cplen
  · intro i v hv
    have hv' : (dropTmps n drop s.tmps 0)[i]? = some v := hv
    rw [dropTmps_get] at hv'
    cases hx : s.tmps[i]? with
    | none => rw [hx] at hv'; cases hv'
    | some x =>
      rw [hx] at hv'
      simp only [Option.map_some, Option.some.injEq] at hv'
      obtain ⟨u, hu, hr⟩ := H.slots i x hx
      cases hf : (drop.contains (0 + i) || !(boxFree n x.ty)) with
      | true => rw [hf] at hv'; simp only [cond_true] at hv'; subst hv'; exact ⟨u, hu, u, rfl⟩
      | false =>
        rw [hf] at hv'; simp only [cond_false] at hv'; subst hv'
        simp only [Bool.or_eq_false_iff, Bool.not_eq_false'] at hf
        exact ⟨u, hu, hr.take n _ _ _ _ hf.2⟩
  · intro i p' hp
    obtain ⟨p, h1, h2, h3⟩ := canonCp_get hp
    obtain ⟨g1, v, g2, g3⟩ := dropCp_get _ _ _ _ _ _ _ h1
    obtain ⟨v', t, u, k1, k2, k3, k4, k5⟩ := H.caps i p g1
    rw [g2] at k1; cases k1
    refine ⟨v, t, u, ?_, k2, k3, ?_, ?_⟩
    · show (dropTmps n drop s.tmps 0)[i]? = _
      rw [dropTmps_get, g2]
      simp only [Option.map_some, g3, cond_false]
    · simp only [h3]; exact k4
    · simp only [h3]; exact k5
  · rintro p' ⟨i, hi⟩ _
    obtain ⟨p, h1, h2, h3⟩ := canonCp_get hi
    obtain ⟨g1, _⟩ := dropCp_get _ _ _ _ _ _ _ h1
    simp only [h3]
    rcases H.rooms p ⟨i, g1⟩ trivial with k | ⟨ad, cs, et, k1, k2, k3, k4, k5, k6, k7, k8, k9⟩
    · exact .inl k
    · exact .inr ⟨ad, cs, et, k1, k2, k3, k4, k5, k6, fun k => k7 (hsub _ k), k8, k9⟩
  · rintro p' q' ⟨i, hi⟩ ⟨j, hj⟩ hne _ _
    obtain ⟨p, h1, h2, h3⟩ := canonCp_get hi
    obtain ⟨q, g1, g2, g3⟩ := canonCp_get hj
    simp only [h3, g3]
    refine H.apart p q ⟨i, (dropCp_get _ _ _ _ _ _ _ h1).1⟩ ⟨j, (dropCp_get _ _ _ _ _ _ _ g1).1⟩ ?_ trivial trivial
    rintro rfl
    exact hne (h2.trans g2.symm)

/-- the same from here on -/
def Ctx.at (c : Ctx) (I : Im) (μ : List Nat) (w : World) : Ctx := ⟨c.w0, c.F, I, w, μ⟩

theorem RelI.rebase (H : RelI c I μ ρ s a w) : RelI (c.at I μ w) I μ ρ s a w := by
  have h := H.mem
  exact ⟨⟨h.below, Nat.le_trans h.base h.sizeS, Grow.refl _ _ _, Nat.le_refl _, h.blen, h.boxes, h.nodup, h.mu, fun i b hb => .inl hb, h.imlt, fun b hb =>
    let ⟨h1, h2, h3, h4⟩ := h.fr b hb; ⟨Nat.lt_of_lt_of_le h1 h.sizeS, rfl, h3, fun o k => k⟩⟩, H.len, H.cplen, H.slots, H.caps, H.rooms, H.apart, H.defers⟩

theorem RelI.back {ρ' : Nat → Rm} {s' : St} {a' : Act} (H : RelI c I μ ρ s a w) (H' : RelI (c.at I μ w) I' μ' ρ' s' a' w') : RelI c I' μ' ρ' s' a' w' := by
  have h := H.mem
  have h' := H'.mem
  refine ⟨⟨h'.below, h.base, h.grow.trans h'.grow, Nat.le_trans h.sizeS h'.sizeS, h'.blen, h'.boxes, h'.nodup, h'.mu, ?_, h'.imlt, ?_⟩, H'.len, H'.cplen, H'.slots, H'.caps, H'.rooms, H'.apart, H'.defers⟩
  · intro i b hb
    rcases h'.munew i b hb with k | k
    · exact h.munew i b k
    · exact .inr (Nat.le_trans h.sizeS k)
  · intro b hb
    obtain ⟨h1, h2, h3, h4⟩ := h.fr b hb
    obtain ⟨k1, k2, k3, k4⟩ := h'.fr b hb
    exact ⟨h1, k2.trans h2, k3, fun o k => h4 o (k4 o k)⟩

def exOf : Ex → Exit → Prop
  | .normal, .normal => True
  | .exit i, .exit j => i = j
  | .ret, .ret => True
  | _, _ => False

def Post (K : Ex → St → Option T) (r : T) (c : Ctx) (e : Exit) (a : Act) (w : World) : Prop := ∃ ex s I μ ρ, exOf ex e ∧ K ex s = some r ∧ RelI c I μ ρ s a w

theorem wp_loop_n {Q : Exit → Act → World → Prop} {cd : Code} (J : Nat → Act → World → Prop) : ∀ (k : Nat) (a : Act) (w : World), J k a w →
    (∀ k a w, J k a w → cd.wp P (Exit.then (fun a' w' => ∃ k', k' < k ∧ J k' a' w') Q) a w) → (Code.loop cd).wp P Q a w := by
  intro k a w h0 round b kk cs
  have key : ∀ n a w, J n a w → ∃ e a' w', Q e a' w' ∧ Arrives P (lone (b.at a (.code cd :: .inLoop cd :: kk)) cs w) b kk cs e a' w' := by
    intro n
    induction n using Nat.strongRecOn with
    | _ n ih =>
      intro a w hI
      obtain ⟨e, a₁, w₁, hq, harr⟩ := round n a w hI b (.inLoop cd :: kk) cs
      cases e with
      | normal =>
        obtain ⟨k', hlt, hI₁⟩ := hq
        obtain ⟨e₂, a₂, w₂, hq₂, harr₂⟩ := ih k' hlt a₁ w₁ hI₁
        exact ⟨e₂, a₂, w₂, hq₂, .of_steps (Steps.trans harr (.one step_inLoop)) harr₂⟩
      | exit id => exact ⟨_, a₁, w₁, hq, .pass (x := .inLoop cd) rfl (fun _ _ => .inl (by simp)) harr⟩
      | goto l => exact ⟨_, a₁, w₁, hq, .pass (x := .inLoop cd) rfl (fun _ _ => .inl (by simp)) harr⟩
      | ret => exact ⟨_, a₁, w₁, hq, .pass (x := .inLoop cd) rfl (fun _ _ => .inl (by simp)) harr⟩
      | panic ch => exact ⟨_, a₁, w₁, hq, .pass (x := .inLoop cd) rfl (fun _ _ => .inl (by simp)) harr⟩
      | outgrown => exact ⟨_, a₁, w₁, hq, .pass (x := .inLoop cd) rfl (fun _ _ => .inl (by simp)) harr⟩
  obtain ⟨e, a', w', hq, harr⟩ := key k a w h0
  exact ⟨e, a', w', hq, .of_steps (.one step_loop) harr⟩

theorem loop_sound {cd : Code} {body : St → (Ex → St → Option T) → Option T} (hbody : ∀ {c I μ ρ s a w K} {r : T}, RelI c I μ ρ s a w → body s K = some r → cd.wp P (Post K r c) a w)
    (n : Nat) (drop : List Nat) (k : Nat) {K : Ex → St → Option T} {r : T} (hn : c.μ0.length = n) (H : RelI c I μ ρ s a w) (h : evLoop body n drop k s K = some r) : (Code.loop cd).wp P (Post K r c) a w := by
  refine wp_loop_n (fun k a w => ∃ s I μ ρ, evLoop body n drop k s K = some r ∧ RelI c I μ ρ s a w) k a w ⟨s, I, μ, ρ, h, H⟩ ?_
  rintro k a w ⟨s, I, μ, ρ, h, H⟩
  cases k with
  | zero => cases h
  | succ k =>
    have h' : body s (fun e s' => match e with
      | .normal => forceSt (widen n drop s') fun s'' => evLoop body n drop k s'' K
      | e => K e s') = some r := h
    refine wp_mono (hbody H h') ?_
    rintro e a' w' ⟨ex, s', I', μ', ρ', hex, hK, hR⟩
    cases ex with
    | normal =>
      cases e <;> first | exact hex.elim | skip
      simp only at hK
      rw [forceSt_eq] at hK
      have hlen : n ≤ μ'.length := by
        rw [← hn]
        cases hm : c.μ0.length with
        | zero => exact Nat.zero_le _
        | succ j =>
          have h1 : j < c.μ0.length := by omega
          have h2 := hR.mem.grow.pre j _ (List.getElem?_eq_getElem h1)
          have := (List.getElem?_eq_some_iff.1 h2).1
          omega
      obtain ⟨ρ2, hw⟩ := widen_sound hR n drop hlen (by omega)
      exact ⟨k, Nat.lt_succ_self k, _, I', _, ρ2, hK, hw⟩
    | exit i =>
      cases e <;> first | exact hex.elim | skip
      exact ⟨.exit i, s', I', μ', ρ', hex, hK, hR⟩
    | ret =>
      cases e <;> first | exact hex.elim | skip
      exact ⟨.ret, s', I', μ', ρ', hex, hK, hR⟩

theorem Post.back {K : Ex → St → Option T} {r : T} {e : Exit} {a' : Act} (H : RelI c I μ ρ s a w) (h : Post K r (c.at I μ w) e a' w') : Post K r c e a' w' :=
  let ⟨ex, s', I', μ', ρ', h1, h2, h3⟩ := h; ⟨ex, s', I', μ', ρ', h1, h2, RelI.back H h3⟩
end Go.Ev
