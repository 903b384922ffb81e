import Derived.Test.YtggobapgdflchaaEvDraw4
import Derived.Orders
set_option linter.unusedVariables false
namespace Go.Ev
open Go.RowKit
variable {P : Program} {E : Env} {I I' : Im} {w w' : World} {μ μ' : List Nat} {c : Ctx} {ρ : Nat → Rm} {s s' : St} {a : Act} {o o' : Oper} {T : Type} {ops : Array Oper}

def Run (E : Env) (ops : Array Oper) (Z : St → Prop) : List Nat → List (Nat × Fp) → St → Prop
  | [], _, s => Z s
  | i :: M, log, s => ∃ o, ops[i]? = some o ∧ chk o (fpOf E s o) log = true ∧ ∃ s', Step E ops o s s' ∧ Run E ops Z M ((i, fpOf E s o) :: log) s'

theorem chk_iff {f : Fp} : ∀ {l : List (Nat × Fp)}, chk o f l = true ↔ ∀ p, p ∈ l → (bindsOn o p.1 || compat p.2 f) = true
  | [] => by simp [chk]
  | (k, g) :: l => by
    simp only [chk, Bool.and_eq_true, chk_iff (l := l), List.mem_cons]
    constructor
    · rintro ⟨h1, h2⟩ p (rfl | hp)
      · exact h1
      · exact h2 p hp
    · intro h
      exact ⟨h (k, g) (.inl rfl), fun p hp => h p (.inr hp)⟩

theorem compat_comm : ∀ (f g : Fp), compat f g = compat g f := by
  intro f g
  cases f <;> cases g <;> first | rfl | (simp only [compat]; rename_i i j; congr 1; rw [Bool.eq_iff_iff]; simp; exact eq_comm)

theorem run_of_ev {K : St → Option T} {r : T} : ∀ (l : List Oper) (k : Nat), ops.toList.drop k = l → ∀ {log : List (Nat × Fp)} {s : St}, evDraw E ops l k log s K = some r → Run E ops (fun s => K s = some r) (List.range' k l.length) log s
  | [], k, _, log, s, h => h
  | o :: l, k, hk, log, s, h => by
    have hko : ops[k]? = some o := by
      rw [← Array.getElem?_toList]
      have : (ops.toList.drop k)[0]? = some o := by rw [hk]; rfl
      simpa using this
    have hk2 : ops.toList.drop (k + 1) = l := by
      have : (ops.toList.drop k).drop 1 = l := by rw [hk]; rfl
      rwa [List.drop_drop] at this
    rw [List.length_cons, List.range'_succ]
    unfold evDraw at h
    cases hc : chk o (fpOf E s o) log with
    | false => rw [hc] at h; cases h
    | true =>
      rw [hc] at h
      simp only [cond_true] at h
      obtain ⟨s', h1, h2⟩ := (evOper_step s).1 h
      exact ⟨o, hko, hc, s', h1, run_of_ev l (k + 1) hk2 h2⟩

theorem Run.log {Z : St → Prop} : ∀ {M : List Nat} {log log' : List (Nat × Fp)} {s : St}, (∀ p, p ∈ log' → p ∈ log) → Run E ops Z M log s → Run E ops Z M log' s
  | [], _, _, _, _, h => h
  | i :: M, log, log', s, hl, ⟨o, h1, h2, s', h3, h4⟩ => by
    refine ⟨o, h1, chk_iff.2 fun p hp => chk_iff.1 h2 p (hl p hp), s', h3, Run.log ?_ h4⟩
    intro p hp
    rcases List.mem_cons.1 hp with rfl | hp
    · exact List.mem_cons_self
    · exact List.mem_cons_of_mem _ (hl p hp)

def Free (ops : Array Oper) (M : List Nat) (s : St) : Prop := ∀ j, j ∈ M → ∀ o, ops[j]? = some o → NoLet o.dst s.cp

/-- what the text's look has told -/
structure Fit (ops : Array Oper) : Prop where
  back : ∀ (i : Nat) o, ops[i]? = some o → ∀ e, e ∈ o.after → Region.binds .any e = true → e.on < i
  pair : ∀ (i j : Nat) o o', i < j → ops[i]? = some o → ops[j]? = some o' → neDst o.dst o'.dst = true ∧ (bindsOn o' i = true ∨ indep ops o o' = true)

theorem Fit.ne (h : Fit ops) {i j : Nat} (hij : i ≠ j) (ho : ops[i]? = some o) (ho' : ops[j]? = some o') : neDst o.dst o'.dst = true := by
  rcases Nat.lt_or_gt_of_ne hij with hlt | hlt
  · exact (h.pair i j o o' hlt ho ho').1
  · exact neDst_comm (h.pair j i o' o hlt ho' ho).1

theorem Step.nolet {d : Option Nat} (h : Step E ops o s s') (h1 : NoLet o.dst s.cp) (h2 : NoLet d s.cp) (hne : neDst o.dst d = true) : NoLet d s'.cp := by
  obtain ⟨x, _, _, rfl⟩ := (step_iff h1).1 h
  exact effP_nolet h2 hne

theorem Run.swap {Z : St → Prop} (hF : Fit ops) {i j : Nat} {M : List Nat} {log : List (Nat × Fp)} {s : St} (hij : i < j) (hb : ∀ o, ops[j]? = some o → bindsOn o i = false) (hf : Free ops (i :: j :: M) s)
    (h : Run E ops Z (i :: j :: M) log s) : Run E ops Z (j :: i :: M) log s := by
  obtain ⟨o, h1, h2, s1, h3, o', k1, k2, s2, k3, k4⟩ := h
  obtain ⟨hdd, hin⟩ := hF.pair i j o o' hij h1 k1
  have hbf := hb o' k1
  have hin : indep ops o o' = true := by rcases hin with h | h; (rw [hbf] at h; cases h); exact h
  have hco : compat (fpOf E s o) (fpOf E s1 o') = true := by
    have := chk_iff.1 k2 (i, fpOf E s o) List.mem_cons_self
    rw [hbf] at this
    simpa using this
  obtain ⟨s1', e1, e2, e3, e4⟩ := Ev.swap hdd hin (hf i (by simp) o h1) (hf j (by simp) o' k1) hco h3 k3
  refine ⟨o', k1, ?_, s1', e1, o, h1, ?_, s2, e2, ?_⟩
  · rw [e3]
    exact chk_iff.2 fun p hp => chk_iff.1 k2 p (List.mem_cons_of_mem _ hp)
  · rw [e4, e3]
    refine chk_iff.2 fun p hp => ?_
    rcases List.mem_cons.1 hp with rfl | hp
    · rw [compat_comm, hco]; simp
    · exact chk_iff.1 h2 p hp
  · rw [e4, e3]
    refine Run.log ?_ k4
    intro p hp
    simp only [List.mem_cons] at hp ⊢
    rcases hp with h | h | h
    · exact .inr (.inl h)
    · exact .inl h
    · exact .inr (.inr h)

theorem Run.bubble {Z : St → Prop} (hF : Fit ops) {j : Nat} {M2 : List Nat} : ∀ (M1 : List Nat) {log : List (Nat × Fp)} {s : St}, (∀ i, i ∈ M1 → i < j) → (∀ i, i ∈ M1 → ∀ o, ops[j]? = some o → bindsOn o i = false) → (M1 ++ j :: M2).Pairwise (· < ·) →
    Free ops (M1 ++ j :: M2) s → Run E ops Z (M1 ++ j :: M2) log s → Run E ops Z (j :: (M1 ++ M2)) log s
  | [], log, s, _, _, _, _, h => h
  | i :: M1, log, s, hlt, hb, hp, hf, h => by
    obtain ⟨o, h1, h2, s', h3, h4⟩ := h
    have hp' : (∀ k, k ∈ M1 ++ j :: M2 → i < k) ∧ (M1 ++ j :: M2).Pairwise (· < ·) := by simpa using List.pairwise_cons.1 hp
    have hf' : Free ops (M1 ++ j :: M2) s' := by
      intro k hk o' ho'
      exact h3.nolet (hf i (by simp) o h1) (hf k (List.mem_cons_of_mem _ hk) o' ho') (hF.ne (Nat.ne_of_lt (hp'.1 k hk)) h1 ho')
    have ih := Run.bubble hF M1 (fun k hk => hlt k (List.mem_cons_of_mem _ hk)) (fun k hk => hb k (List.mem_cons_of_mem _ hk)) hp'.2 hf' h4
    refine Run.swap (M := M1 ++ M2) hF (hlt i (by simp)) (hb i (by simp)) ?_ ⟨o, h1, h2, s', h3, ih⟩
    intro k hk
    apply hf k
    simp only [List.mem_cons, List.mem_append, List.cons_append] at hk ⊢
    rcases hk with h | h | h | h
    · exact .inl h
    · exact .inr (.inr (.inl h))
    · exact .inr (.inl h)
    · exact .inr (.inr (.inr h))

theorem getD_both {listed : Array Bool} {k : Nat} (h : k < listed.size) (d d' : Bool) : listed.getD k d = listed.getD k d' := by
  simp [Array.getD, h]

theorem draw_sound (hE : EnvOK P E) (hF : Fit ops) {Z : St → Prop} {Q : Exit → Act → World → Prop} (hQ : ∀ s I μ ρ a w, Z s → RelI c I μ ρ s a w → Q .normal a w) :
    ∀ (n : Nat) (M : List Nat) (listed : Array Bool) (log : List (Nat × Fp)) (s : St) (I : Im) (μ : List Nat) (ρ : Nat → Rm) (a : Act) (w : World), M.length = n → M.Pairwise (· < ·) →
      (∀ i, i ∈ M ↔ i < ops.size ∧ listed.getD i true = false) → listed.size = ops.size → Free ops M s → Run E ops Z M log s → RelI c I μ ρ s a w → wpAny P .any ops Q n listed a w := by
  intro n
  induction n with
  | zero =>
    intro M listed log s I μ ρ a w hn hp hm hs hf h H
    cases M with
    | cons m M => simp at hn
    | nil =>
      refine ⟨?_, hQ s I μ ρ a w h H⟩
      rw [List.eq_nil_iff_forall_not_mem]
      intro i hi
      obtain ⟨h0, o, ho, _⟩ := mem_ready.1 hi
      have := (hm i).2 ⟨(Array.getElem?_eq_some_iff.1 ho).1, h0⟩
      cases this
  | succ n ih =>
    intro M listed log s I μ ρ a w hn hp hm hs hf h H
    refine ⟨?_, ?_⟩
    · intro hr
      exfalso
      cases M with
      | nil => simp at hn
      | cons m M =>
        obtain ⟨hmlt, hml⟩ := (hm m).1 (by simp)
        have : m ∈ Region.ready .any ops listed := by
          refine mem_ready.2 ⟨hml, ops[m], Array.getElem?_eq_getElem hmlt, ?_⟩
          intro e he hb
          have hlt := hF.back m _ (Array.getElem?_eq_getElem hmlt) e he hb
          have hnot : e.on ∉ m :: M := by
            intro hin
            rcases List.mem_cons.1 hin with hin | hin
            · omega
            · have := (List.pairwise_cons.1 hp).1 _ hin
              omega
          have hsz : e.on < ops.size := by omega
          cases hg : listed.getD e.on true with
          | false => exact absurd ((hm e.on).2 ⟨hsz, hg⟩) hnot
          | true => rw [getD_both (by omega) false true]; exact hg
        rw [hr] at this
        cases this
    · intro i hi
      obtain ⟨hil, oi, hoi, hall⟩ := mem_ready.1 hi
      have hiM := (hm i).2 ⟨(Array.getElem?_eq_some_iff.1 hoi).1, hil⟩
      obtain ⟨M1, M2, rfl⟩ := List.append_of_mem hiM
      have hpa := List.pairwise_append.1 hp
      have hlt1 : ∀ k, k ∈ M1 → k < i := fun k hk => hpa.2.2 k hk i (by simp)
      have hb := Run.bubble hF M1 hlt1 (fun k hk o ho => by
        rw [hoi] at ho
        cases ho
        cases hbi : bindsOn oi k with
        | false => rfl
        | true =>
          exfalso
          simp only [bindsOn, List.any_eq_true, Bool.and_eq_true] at hbi
          obtain ⟨e, he, hb, hek⟩ := hbi
          have hek := Nat.eq_of_beq_eq_true hek
          have hl := hall e (by simpa using he) hb
          have hk2 := (hm k).1 (List.mem_append_left _ hk)
          rw [hek, getD_both (by omega) false true, hk2.2] at hl
          cases hl) hp hf h
      obtain ⟨o, ho, hck, s', hst, hrest⟩ := hb
      rw [hoi] at ho
      cases ho
      have hev : evOper E noCall ops oi s some = some s' := (evOper_step s).2 ⟨s', hst, rfl⟩
      have hmem : ∀ k, k ∈ M1 ++ M2 ↔ k < ops.size ∧ (listed.setIfInBounds i true).getD k true = false := by
        intro k
        have hne : k ∈ M1 ++ M2 → k ≠ i := by
          intro hk e
          subst e
          rcases List.mem_append.1 hk with hk | hk
          · exact Nat.lt_irrefl _ (hlt1 k hk)
          · exact Nat.lt_irrefl _ ((List.pairwise_cons.1 hpa.2.1).1 k hk)
        constructor
        · intro hk
          have hk' : k ∈ M1 ++ i :: M2 := by
            simp only [List.mem_append, List.mem_cons] at hk ⊢
            rcases hk with h | h
            · exact .inl h
            · exact .inr (.inr h)
          obtain ⟨q1, q2⟩ := (hm k).1 hk'
          exact ⟨q1, by rw [getD_set_ne true (Ne.symm (hne hk))]; exact q2⟩
        · rintro ⟨q1, q2⟩
          have hki : k ≠ i := by
            rintro rfl
            have : (listed.setIfInBounds k true).getD k true = true := by
              simp [Array.getD, hs, q1]
            rw [this] at q2; cases q2
          rw [getD_set_ne true (Ne.symm hki)] at q2
          have := (hm k).2 ⟨q1, q2⟩
          simp only [List.mem_append, List.mem_cons] at this ⊢
          rcases this with h | h | h
          · exact .inl h
          · exact absurd h hki
          · exact .inr h
      have hsub : (M1 ++ M2).Sublist (M1 ++ i :: M2) := List.Sublist.append (List.Sublist.refl _) (List.sublist_cons_self _ _)
      have hfree : Free ops (M1 ++ M2) s' := by
        intro k hk o' ho'
        have hki : i ≠ k := by
          rintro rfl
          have := (hmem i).1 hk
          have h2 : (listed.setIfInBounds i true).getD i true = true := by simp [Array.getD, hs, this.1]
          rw [h2] at this; cases this.2
        exact hst.nolet (hf i (by simp) oi hoi) (hf k (hsub.subset hk) o' ho') (hF.ne hki hoi ho')
      have hlen : (M1 ++ M2).length = n := by
        simp only [List.length_append, List.length_cons] at hn ⊢
        omega
      have next : ∀ a' w', Cont (some : St → Option St) s' c a' w' → wpAny P .any ops Q n (listed.setIfInBounds i true) a' w' := by
        rintro a' w' ⟨s2, I2, μ2, ρ2, e, H2⟩
        cases e
        exact ih (M1 ++ M2) _ _ s' I2 μ2 ρ2 a' w' hlen (hp.sublist hsub) hmem (by simpa using hs) hfree hrest H2
      unfold wpOp
      rw [hoi]
      simp only
      rcases evOper_sound hE noCall_ok H hev (Q := Q) with ⟨g1, g2⟩ | ⟨g1, g2⟩
      · rw [if_pos g1]; exact .inl (g2 _ next)
      · rw [if_neg (by rw [g1]; simp)]; exact next _ _ g2
end Go.Ev
