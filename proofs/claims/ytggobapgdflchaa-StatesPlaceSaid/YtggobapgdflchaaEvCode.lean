import Derived.Test.YtggobapgdflchaaEvOpK
set_option linter.unusedVariables false
namespace Go.Ev
open Go.RowKit
variable {P : Program} {E : Env} {I I' : Im} {w w' : World} {μ μ' : List Nat} {c : Ctx} {ρ : Nat → Rm} {s : St} {a : Act} {o : Oper} {T : Type} {bs bs' : List AV}

theorem forceA_eq {β : Type} : ∀ (l : List AV) (k : List AV → β), forceA l k = k l
  | [], _ => rfl
  | ⟨t, x⟩ :: l, k => by unfold forceA; rw [forceA_eq l]
theorem forceP_eq {β : Type} : ∀ (l : List (Option Nat)) (k : List (Option Nat) → β), forceP l k = k l
  | [], _ => rfl
  | none :: l, k => by unfold forceP; rw [forceP_eq l]
  | some i :: l, k => by unfold forceP; rw [forceP_eq l]
theorem forceSt_eq (s : St) (K : St → Option T) : forceSt s K = K s := by unfold forceSt; rw [forceA_eq, forceA_eq, forceP_eq]
theorem putK_eq (s : St) (d : Option Nat) (v : AV) (cp : Cap) (K : St → Option T) : putK s d v cp K = K (s.put d v cp) := by unfold putK; rw [forceSt_eq]

def Cont (K : St → Option T) (r : T) (c : Ctx) (a : Act) (w : World) : Prop := ∃ s I μ ρ, K s = some r ∧ RelI c I μ ρ s a w

theorem cont_of_out {K : St → Option T} {r : T} {dst : Option Nat} {u : Value} (h : Out (fun v cp s' => putK s' dst v cp K) r c a dst u w) : Cont K r c (a.put dst u) w := by
  obtain ⟨v, cap, s', I', μ', ρ', hK, hR, hu, hc, ht⟩ := h
  have hK : putK s' dst v cap K = some r := hK
  rw [putK_eq] at hK
  obtain ⟨ρ2, hR2⟩ := hR.put dst v u hu hc ht
  exact ⟨_, I', μ', ρ2, hK, hR2⟩

theorem setN_same {α : Type} : ∀ {l : List α} {d : Nat} {v : α}, l[d]? = some v → setN l d v = l
  | [], _, _, h => by simp at h
  | x :: l, 0, v, h => by simp at h; subst h; rfl
  | x :: l, d + 1, v, h => by simp at h; simp [setN, setN_same h]

theorem nth_of_ne {α : Type} {l : List α} {d : α} {i : Nat} {v : α} (h : nth d l i = v) (hne : v ≠ d) : l[i]? = some v := by
  cases hl : l[i]? with
  | none => rw [nth_none hl] at h; exact absurd h.symm hne
  | some x => rw [nth_get hl] at h; rw [h]

theorem evOper_sound (hE : EnvOK P E) {C : CallSem T} (hC : CallOK P C) {ops : Array Oper} {K : St → Option T} {r : T} (H : RelI c I μ ρ s a w) (h : evOper E C ops o s K = some r) {Q : Exit → Act → World → Prop} :
    (Region.wanted o (yielded ops a.tmps) = true ∧ ∀ next : Act → World → Prop, (∀ a' w', Cont K r c a' w' → next a' w') → o.wp P a w next Q) ∨ (Region.wanted o (yielded ops a.tmps) = false ∧ Cont K r c (a.put o.dst undef) w) := by
  have run : ∀ {s : St}, RelI c I μ ρ s a w → opK E C s o (fun v cp s' => putK s' o.dst v cp K) = some r → ∀ next : Act → World → Prop, (∀ a' w', Cont K r c a' w' → next a' w') → o.wp P a w next Q := by
    intro s H h next hn
    exact wp_of_yields (opK_sound hE hC H h) fun u w' hq => hn _ _ (cont_of_out hq)
  have skip : putK s o.dst .undef .no K = some r → Cont K r c (a.put o.dst undef) w := by
    intro h
    exact cont_of_out (dst := o.dst) ⟨.undef, .no, s, I, μ, ρ, h, H.toX _, rfl, trivial, fun p e => by cases e⟩
  unfold evOper at h
  cases hg : o.guard with
  | none =>
    rw [hg] at h
    refine .inl ⟨by unfold Region.wanted; rw [hg], run H h⟩
  | some jw =>
    obtain ⟨j, want⟩ := jw
    rw [hg] at h
    simp only at h
    have hw : Region.wanted o (yielded ops a.tmps) = (yielded ops a.tmps j == some want) := by unfold Region.wanted; rw [hg]
    cases hd : dstAt ops j with
    | none => rw [hd] at h; cases h
    | some d =>
      rw [hd] at h
      simp only at h
      have hops : (ops[j]?).bind (·.dst) = some d := by
        unfold dstAt at hd
        rw [← Array.getElem?_toList]
        cases ho : ops.toList[j]? with
        | none => rw [ho] at hd; cases hd
        | some x => rw [ho] at hd; exact hd
      have hy : ∀ u, a.tmps[d]? = some u → yielded ops a.tmps j = match u with | .bool b => some b | _ => none := by
        intro u hu
        unfold yielded
        rw [hops]
        simp only [Option.bind_some]
        rw [hu]
        cases u <;> rfl
      split at h
      · rename_i b hv
        have hs : s.tmps[d]? = some ⟨.bool, b⟩ := nth_of_ne hv (by intro e; injection e with e; cases e)
        obtain ⟨u, hu, hr⟩ := H.slots d _ hs
        have hu2 : u = .bool b := bool_of_R hr
        subst hu2
        have hyb := hy _ hu
        simp only at hyb
        have hst : b = true → { s with tmps := setN s.tmps d (.bool true) } = s := by
          intro hb; subst hb
          rw [show (AV.bool true) = ⟨.bool, true⟩ from rfl, setN_same hs]
        have hsf : b = false → { s with tmps := setN s.tmps d (.bool false) } = s := by
          intro hb; subst hb
          rw [show (AV.bool false) = ⟨.bool, false⟩ from rfl, setN_same hs]
        cases want with
        | true =>
          simp only [cond_true] at h
          rcases br_some h with ⟨hb, h⟩ | ⟨hb, h⟩
          · rw [hst hb] at h
            exact .inl ⟨by rw [hw, hyb, hb]; rfl, run H h⟩
          · rw [hsf hb] at h
            exact .inr ⟨by rw [hw, hyb, hb]; rfl, skip h⟩
        | false =>
          simp only [cond_false] at h
          rcases br_some h with ⟨hb, h⟩ | ⟨hb, h⟩
          · rw [hst hb] at h
            exact .inr ⟨by rw [hw, hyb, hb]; rfl, skip h⟩
          · rw [hsf hb] at h
            exact .inl ⟨by rw [hw, hyb, hb]; rfl, run H h⟩
      · rename_i x hv
        have hs : s.tmps[d]? = some ⟨.undef, x⟩ := nth_of_ne hv (by intro e; injection e with e; cases e)
        obtain ⟨u, hu, hr⟩ := H.slots d _ hs
        have hu2 : u = undef := by cases hr; rfl
        subst hu2
        exact .inr ⟨by rw [hw, hy _ hu]; rfl, skip h⟩
      · cases h

theorem both_some {a b : Option T} {r : T} (h : both a b = some r) : a = some r ∧ b = some r := by
  unfold both at h
  split at h
  · rename_i e; exact ⟨h, by rw [← e]; exact h⟩
  · cases h

theorem isNilC_eq {y : Operand} (h : isNilC y = true) : y = .const (.slice none 0 0) := by
  unfold isNilC at h
  split at h
  · rfl
  · cases h

theorem run_slice_nil {xT e : Nat} {x y : Operand} {ad : Option Addr} {n cap : Nat} (op : BinOp) (hop : op = .eql ∨ op = .neq) (hu : P.underlying xT = some (.slice e)) {yT : Nat} (ho : o.op = .binOp op xT x y yT) (hx : a.eval x = .slice ad n cap) (hy : a.eval y = .slice none 0 0) :
    (execOp a.eval o).run P w = .ok (.value (.bool (if op = .eql then ad.isNone else !ad.isNone))) w := by
  have hg : (eqGuard op xT x y (a.eval x) (a.eval y)).run P w = .ok () w := by
    rw [hx, hy]
    rcases hop with rfl | rfl <;> (cases x <;> cases y <;> rfl)
  have hq : (Op.equal xT (.slice ad n cap) (.slice none 0 0)).run P w = .ok ad.isNone w := by
    unfold Op.equal
    show (Op.equalIn (9999 + 1) xT _ _).run P w = _
    unfold Op.equalIn
    simp only [Sem.run_bind, run_underlying hu, Result.andThen_ok]
    cases ad <;> rfl
  rw [binOp_run ho, hg, hx, hy]
  rcases hop with rfl | rfl
  · simp only [Result.andThen_ok, binOp, Sem.run_bind, hq, Sem.run_pure, if_true]
  · simp only [Result.andThen_ok, binOp, Sem.run_bind, hq, Sem.run_pure]
    simp

theorem nil_sound (hE : EnvOK P E) (H : RelI c I μ ρ s a w) {eq : Bool} {len : Int} (hn : nilOp E s o = some (eq, len)) {K : Bool → Option T} {r : T} (h : nilK eq len K = some r) :
    o.guard = none ∧ ∃ b, (execOp a.eval o).run P w = .ok (.value (.bool b)) w ∧ K b = some r := by
  unfold nilOp at hn
  split at hn
  · rename_i op xT x y yT hg ho
    refine ⟨hg, ?_⟩
    cases hy : isNilC y with
    | false => rw [hy] at hn; cases hn
    | true =>
      rw [hy] at hn
      simp only [cond_true] at hn
      have hy := isNilC_eq hy
      split at hn
      · rename_i t hT
        split at hn
        · rename_i v hx
          split at hn
          · rename_i l hl
            have hl := castTo_some hl
            subst hl
            obtain ⟨ad, n, cap, cells, e, hlen, hcap, _, h0, _⟩ := opd_sound H hx
            have ex : a.eval x = .slice ad n cap := by injection e
            have ey : a.eval y = .slice none 0 0 := by rw [hy]; rfl
            obtain ⟨e', hu, _⟩ := (hE.tys _ _ hT).sl t rfl
            have key : ∀ (op : BinOp) (eq : Bool), (op = .eql ∧ eq = true) ∨ (op = .neq ∧ eq = false) → o.op = .binOp op xT x y yT → nilK eq (lenI l) K = some r → ∃ b, (execOp a.eval o).run P w = .ok (.value (.bool b)) w ∧ K b = some r := by
              intro op eq hop ho h
              refine ⟨_, run_slice_nil op (by rcases hop with h | h <;> simp [h.1]) hu ho ex ey, ?_⟩
              unfold nilK at h
              have hval : (if op = BinOp.eql then ad.isNone else !ad.isNone) = if ad.isNone then eq else !eq := by
                rcases hop with ⟨rfl, rfl⟩ | ⟨rfl, rfl⟩ <;> cases ad <;> simp
              rw [hval]
              rcases br_some h with ⟨hpos, h⟩ | ⟨_, h⟩
              · have hpos : 0 < lenI l := of_decide_eq_true hpos
                cases ad with
                | none =>
                  have hlen : n = List.length l := hlen
                  have := h0 rfl
                  unfold lenI at hpos
                  omega
                | some ad => exact h
              · obtain ⟨h1, h2⟩ := both_some h
                cases ad with
                | none => exact h1
                | some ad => exact h2
            split at hn
            · injection hn with hn; injection hn with h1 h2
              subst h1; subst h2
              exact key _ _ (.inl ⟨rfl, rfl⟩) ho h
            · injection hn with hn; injection hn with h1 h2
              subst h1; subst h2
              exact key _ _ (.inr ⟨rfl, rfl⟩) ho h
            · cases hn
          · cases hn
        · cases hn
      · cases hn
  · cases hn

theorem evOps_sound (hE : EnvOK P E) {C : CallSem T} (hC : CallOK P C) {ops : Array Oper} {K : St → Option T} {r : T} {Q : Exit → Act → World → Prop} (hQ : ∀ a w, Cont K r c a w → Q .normal a w) :
    ∀ (l : List Oper) (k : Nat), ops.toList.drop k = l → ∀ {I μ ρ s a w}, RelI c I μ ρ s a w → evOps E C ops l s K = some r → wpOps P ops Q (List.range' k l.length) a w
  | [], k, hk, I, μ, ρ, s, a, w, H, h => hQ a w ⟨s, I, μ, ρ, h, H⟩
  | o :: l, k, hk, I, μ, ρ, s, a, w, H, h => by
    have hko : ops[k]? = some o := by
      rw [← Array.getElem?_toList]
      have : (ops.toList.drop k)[0]? = some o := by rw [hk]; rfl
      simpa using this
    have hk2 : ops.toList.drop (k + 1) = l := by
      have : (ops.toList.drop k).drop 1 = l := by rw [hk]; rfl
      rwa [List.drop_drop] at this
    rw [List.length_cons, List.range'_succ]
    simp only [wpOps, hko]
    unfold evOps at h
    cases hnil : nilOp E s o with
    | some el =>
      obtain ⟨eq, len⟩ := el
      rw [hnil] at h
      simp only at h
      obtain ⟨g1, bb, g2, g3⟩ := nil_sound hE H hnil h
      rw [if_pos (by unfold Region.wanted; rw [g1])]
      refine .inl (wp_of_yields (Q := fun v w' => v = .bool bb ∧ w' = w) (yields_value g2 ⟨rfl, rfl⟩) ?_)
      rintro v w' ⟨rfl, rfl⟩
      rw [putK_eq] at g3
      obtain ⟨ρ2, hR2⟩ := (H.toX (noTake .no)).put o.dst (.bool bb) (.bool bb) rfl trivial (fun p e => by cases e)
      exact evOps_sound hE hC hQ l (k + 1) hk2 hR2 g3
    | none =>
    rw [hnil] at h
    simp only at h
    rcases evOper_sound hE hC H h (Q := Q) with ⟨h1, h2⟩ | ⟨h1, s', I', μ', ρ', h2, h3⟩
    · rw [if_pos h1]
      refine .inl (h2 _ ?_)
      rintro a' w' ⟨s', I', μ', ρ', hK, hR⟩
      exact evOps_sound hE hC hQ l (k + 1) hk2 hR hK
    · rw [if_neg (by rw [h1]; simp)]
      exact evOps_sound hE hC hQ l (k + 1) hk2 h3 h2

theorem region_sound (hE : EnvOK P E) {C : CallSem T} (hC : CallOK P C) {ops : Array Oper} {id : Nat} {K : St → Option T} {r : T} {Q : Exit → Act → World → Prop} (hQ : ∀ a w, Cont K r c a w → Q .normal a w)
    (H : RelI c I μ ρ s a w) (h : evOps E C ops ops.toList s K = some r) : (Code.region id ops false).wp P Q a w := by
  refine wp_region ?_
  have := evOps_sound hE hC hQ ops.toList 0 rfl H h
  rw [List.range_eq_range']
  simpa using this
end Go.Ev
