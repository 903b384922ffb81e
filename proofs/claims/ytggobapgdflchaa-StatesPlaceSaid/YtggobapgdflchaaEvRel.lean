import Derived.Test.YtggobapgdflchaaEvRep
set_option linter.unusedVariables false
namespace Go.Ev
open Go.RowKit

structure Ctx where
  w0 : World
  F : Nat → Prop
  I0 : Im
  wS : World
  μ0 : List Nat

structure Rm where
  a : Option Addr
  n : Nat
  cap : Nat
  sz : Nat

def Room (B : Nat) (F : Nat → Prop) (I : Im) (μ : List Nat) (w : World) (r : Rm) : Prop :=
  r.n = r.cap ∨ ∃ ad cs et, r.a = some ad ∧ ad.spot = none ∧ ad.off = 0 ∧ w.heap[ad.block]? = some (.cells cs et (0, 0)) ∧ ad.off + r.cap * r.sz ≤ cs.size ∧
    B ≤ ad.block ∧ ad.block ∉ μ ∧ ¬ F ad.block ∧ ∀ o, ad.off + r.n * r.sz ≤ o → ¬ I ad.block o

def Apart (r q : Rm) : Prop := r.n = r.cap ∨ q.n = q.cap ∨ ∀ x y, r.a = some x → q.a = some y → x.block ≠ y.block

def Live (s : St) (p : Nat) : Prop := ∃ i : Nat, s.cp[i]? = some (some p)

/-- memory alone -/
structure MemI (c : Ctx) (I : Im) (μ : List Nat) (bs : List AV) (w : World) : Prop where
  below : Below c.w0.heap.size c.w0 w
  base : c.w0.heap.size ≤ c.wS.heap.size
  grow : Grow c.I0 c.wS c.μ0 I w μ
  sizeS : c.wS.heap.size ≤ w.heap.size
  blen : bs.length = μ.length
  boxes : ∀ (i : Nat) v b, bs[i]? = some v → μ[i]? = some b → v.ty = .undef ∨ ∃ cs et, w.heap[b]? = some (.cells cs et (0, 0)) ∧ R I w μ v.ty true v.x cs.toList ∧ ∀ o, ¬ I b o
  nodup : μ.Nodup
  mu : ∀ b, b ∈ μ → c.w0.heap.size ≤ b ∧ b < w.heap.size
  munew : ∀ (i b : Nat), μ[i]? = some b → c.μ0[i]? = some b ∨ c.wS.heap.size ≤ b
  imlt : ∀ b o, I b o → b < w.heap.size
  fr : ∀ b, c.F b → b < c.wS.heap.size ∧ w.heap[b]? = c.wS.heap[b]? ∧ b ∉ μ ∧ ∀ o, I b o → c.I0 b o

theorem nth_get {α : Type} {d : α} : ∀ {l : List α} {i : Nat} {v : α}, l[i]? = some v → nth d l i = v
  | [], _, _, h => by simp at h
  | x :: l, 0, v, h => by simpa [nth] using h
  | x :: l, n + 1, v, h => by simp only [List.getElem?_cons_succ] at h; exact nth_get (l := l) h

theorem nth_none {α : Type} {d : α} : ∀ {l : List α} {i : Nat}, l[i]? = none → nth d l i = d
  | [], _, _ => by simp [nth]
  | x :: l, 0, h => by simp at h
  | x :: l, n + 1, h => by simp only [List.getElem?_cons_succ] at h; exact nth_none (l := l) h

theorem setN_get {α : Type} : ∀ (l : List α) (d : Nat) (v : α) (i : Nat), (setN l d v)[i]? = if i = d ∧ d < l.length then some v else l[i]?
  | [], d, v, i => by simp [setN]
  | x :: l, 0, v, 0 => by simp [setN]
  | x :: l, 0, v, i + 1 => by simp [setN]
  | x :: l, d + 1, v, 0 => by simp [setN]
  | x :: l, d + 1, v, i + 1 => by simp only [setN, List.getElem?_cons_succ, setN_get l d v i, List.length_cons, Nat.add_right_cancel_iff, Nat.add_lt_add_iff_right]

theorem setN_length {α : Type} : ∀ (l : List α) (d : Nat) (v : α), (setN l d v).length = l.length
  | [], _, _ => rfl
  | _ :: _, 0, _ => rfl
  | _ :: l, d + 1, v => by simp [setN, setN_length l d v]

theorem clearP_length (p : Nat) (l : List (Option Nat)) : (clearP p l).length = l.length := by simp [clearP]
theorem clearP_get (p : Nat) (l : List (Option Nat)) (i q : Nat) : (clearP p l)[i]? = some (some q) ↔ l[i]? = some (some q) ∧ q ≠ p := by
  unfold clearP
  rw [List.getElem?_map]
  constructor
  · intro h
    cases hl : l[i]? with
    | none => rw [hl] at h; cases h
    | some o =>
      rw [hl] at h
      cases o with
      | none => simp [isP] at h
      | some q' =>
        simp only [Option.map_some, isP, Option.some.injEq] at h
        by_cases e : q' = p
        · subst e; simp at h
        · have : Nat.beq q' p = false := by rw [Bool.eq_false_iff]; intro h'; exact e (Nat.eq_of_beq_eq_true h')
          rw [this] at h; simp at h; subst h; exact ⟨rfl, e⟩
  · rintro ⟨h, e⟩
    rw [h]
    have : Nat.beq q p = false := by rw [Bool.eq_false_iff]; intro h'; exact e (Nat.eq_of_beq_eq_true h')
    simp [isP, this]

/-- what stands of a value's right to grow -/
def CapAt (c : Ctx) (I : Im) (μ : List Nat) (ρ : Nat → Rm) (s : St) (w : World) (v : AV) (u : Value) : Cap → Prop
  | .no => True
  | .dup none => True
  | .dup (some p) => ∀ t, v.ty = .sl t → Live s p ∧ (ρ p).sz = t.csize ∧ u = .slice (ρ p).a (ρ p).n (ρ p).cap
  | .fresh => ∀ t, v.ty = .sl t → ∃ r : Rm, r.sz = t.csize ∧ u = .slice r.a r.n r.cap ∧ Room c.w0.heap.size c.F I μ w r ∧ ∀ q, Live s q → Apart r (ρ q)
  | .taken p => ∀ t, v.ty = .sl t → ∃ r : Rm, r.sz = t.csize ∧ u = .slice r.a r.n r.cap ∧ Room c.w0.heap.size c.F I μ w r ∧ ∀ q, Live s q → q ≠ p → Apart r (ρ q)

/-- the relation; the rooms are asked of some letters alone -/
structure RelX (X : Nat → Prop) (c : Ctx) (I : Im) (μ : List Nat) (ρ : Nat → Rm) (s : St) (a : Act) (w : World) : Prop where
  mem : MemI c I μ s.boxes w
  len : a.tmps.size = s.tmps.length
  cplen : s.cp.length = s.tmps.length
  slots : ∀ (i : Nat) v, s.tmps[i]? = some v → ∃ u, a.tmps[i]? = some u ∧ R I w μ v.ty false v.x [u]
  caps : ∀ (i p : Nat), s.cp[i]? = some (some p) → ∃ v t u, s.tmps[i]? = some v ∧ v.ty = .sl t ∧ a.tmps[i]? = some u ∧ (ρ p).sz = t.csize ∧ u = .slice (ρ p).a (ρ p).n (ρ p).cap
  rooms : ∀ p, Live s p → X p → Room c.w0.heap.size c.F I μ w (ρ p)
  apart : ∀ p q, Live s p → Live s q → p ≠ q → X p → X q → Apart (ρ p) (ρ q)
  defers : a.defers = []

abbrev RelI (c : Ctx) (I : Im) (μ : List Nat) (ρ : Nat → Rm) (s : St) (a : Act) (w : World) : Prop := RelX (fun _ => True) c I μ ρ s a w

theorem RelI.toX {c : Ctx} {I : Im} {μ : List Nat} {ρ : Nat → Rm} {s : St} {a : Act} {w : World} (h : RelI c I μ ρ s a w) (X : Nat → Prop) : RelX X c I μ ρ s a w :=
  ⟨h.mem, h.len, h.cplen, h.slots, h.caps, fun p hp _ => h.rooms p hp trivial, fun p q hp hq e _ _ => h.apart p q hp hq e trivial trivial, h.defers⟩

def noTake : Cap → Nat → Prop
  | .taken p, q => q ≠ p
  | _, _ => True

theorem put_none (a : Act) (u : Value) : a.put none u = a := rfl

theorem put_get (a : Act) (d : Nat) (u : Value) (i : Nat) : (a.put (some d) u).tmps[i]? = if i = d ∧ d < a.tmps.size then some u else a.tmps[i]? := by
  simp only [Act.put, Array.getElem?_setIfInBounds]
  by_cases h : d = i
  · subst h
    by_cases h2 : d < a.tmps.size
    · simp [h2]
    · simp [h2]
  · have : ¬ i = d := fun e => h e.symm
    simp [h, this]

theorem live_of_set {d : Nat} {o : Option Nat} {l : List (Option Nat)} {p : Nat} (h : ∃ i : Nat, (setN l d o)[i]? = some (some p)) : o = some p ∨ ∃ i : Nat, i ≠ d ∧ l[i]? = some (some p) := by
  obtain ⟨i, hi⟩ := h
  rw [setN_get] at hi
  split at hi
  · left; simpa using hi
  · rename_i hne
    by_cases e : i = d
    · subst e
      have : ¬ i < l.length := fun h => hne ⟨rfl, h⟩
      rw [List.getElem?_eq_none (by omega)] at hi; cases hi
    · exact .inr ⟨i, e, hi⟩

/-- a value is put in its slot -/
theorem RelX.put {c : Ctx} {I : Im} {μ : List Nat} {ρ : Nat → Rm} {s : St} {a : Act} {w : World} {cap : Cap} (h : RelX (noTake cap) c I μ ρ s a w) (d : Option Nat) (v : AV) (u : Value)
    (hu : R I w μ v.ty false v.x [u]) (hc : CapAt c I μ ρ s w v u cap) (hcap : ∀ p, cap = .taken p → v.ty.isSl = true ∧ d.isSome = true) : ∃ ρ', RelI c I μ ρ' (s.put d v cap) (a.put d u) w := by
  cases d with
  | none =>
    have hn : ∀ p, noTake cap p := by
      intro p; cases cap with
      | taken q => exact absurd (hcap q rfl).2 (by simp)
      | _ => trivial
    exact ⟨ρ, ⟨h.mem, h.len, h.cplen, h.slots, h.caps, fun p hp _ => h.rooms p hp (hn p), fun p q hp hq e _ _ => h.apart p q hp hq e (hn p) (hn q), h.defers⟩⟩
  | some d =>
    -- what stands in the slots
    have hslots : ∀ (i : Nat) v', (setN s.tmps d v)[i]? = some v' → ∃ u', (a.put (some d) u).tmps[i]? = some u' ∧ R I w μ v'.ty false v'.x [u'] := by
      intro i v' hv'
      rw [setN_get] at hv'
      rw [put_get]
      split at hv'
      · rename_i hd
        cases hv'
        rw [if_pos ⟨hd.1, by rw [h.len]; exact hd.2⟩]
        exact ⟨u, rfl, hu⟩
      · rename_i hd
        rw [if_neg (by rw [h.len]; exact hd)]
        exact h.slots i v' hv'
    have hlen : (a.put (some d) u).tmps.size = (setN s.tmps d v).length := by simp [Act.put, setN_length, h.len]
    have hdef : (a.put (some d) u).defers = [] := h.defers
    -- the letters that stay
    have key : ∀ (cp' : List (Option Nat)) (ρ' : Nat → Rm), cp'.length = s.cp.length →
        (∀ (i p : Nat), cp'[i]? = some (some p) → (i ≠ d ∧ s.cp[i]? = some (some p) ∧ ρ' p = ρ p ∧ noTake cap p) ∨
          (i = d ∧ d < s.tmps.length ∧ (∃ t, v.ty = .sl t ∧ (ρ' p).sz = t.csize ∧ u = .slice (ρ' p).a (ρ' p).n (ρ' p).cap) ∧ Room c.w0.heap.size c.F I μ w (ρ' p) ∧
            ∀ (j q : Nat), j ≠ d → cp'[j]? = some (some q) → q ≠ p → Apart (ρ' p) (ρ q))) →
        RelI c I μ ρ' { s with tmps := setN s.tmps d v, cp := cp' } (a.put (some d) u) w := by
      intro cp' ρ' hl hk
      have hlive : ∀ p, Live { s with tmps := setN s.tmps d v, cp := cp' } p → (Live s p ∧ ρ' p = ρ p ∧ noTake cap p) ∨ (cp'[d]? = some (some p)) := by
        rintro p ⟨i, hi⟩
        rcases hk i p hi with ⟨_, h1, h2, h3⟩ | ⟨rfl, _⟩
        · exact .inl ⟨⟨i, h1⟩, h2, h3⟩
        · exact .inr hi
      refine ⟨h.mem, hlen, by simp [setN_length, hl, h.cplen], hslots, ?_, ?_, ?_, hdef⟩
      · intro i p hi
        rcases hk i p hi with ⟨hne, h1, h2, _⟩ | ⟨rfl, hlt, ⟨t, ht, hsz, hval⟩, _⟩
        · obtain ⟨v', t, u', g1, g2, g3, g4, g5⟩ := h.caps i p h1
          refine ⟨v', t, u', ?_, g2, ?_, by rw [h2]; exact g4, by rw [h2]; exact g5⟩
          · show (setN s.tmps d v)[i]? = _
            rw [setN_get, if_neg (fun e => hne e.1)]; exact g1
          · rw [put_get, if_neg (fun e => hne e.1)]; exact g3
        · refine ⟨v, t, u, ?_, ht, ?_, hsz, hval⟩
          · show (setN s.tmps i v)[i]? = _
            rw [setN_get, if_pos ⟨rfl, hlt⟩]
          · rw [put_get, if_pos ⟨rfl, by rw [h.len]; exact hlt⟩]
      · intro p hp _
        rcases hlive p hp with ⟨h1, h2, h3⟩ | h1
        · rw [h2]; exact h.rooms p h1 h3
        · rcases hk d p h1 with ⟨hne, _⟩ | ⟨_, _, _, hr, _⟩
          · exact absurd rfl hne
          · exact hr
      · intro p q hp hq hpq _ _
        by_cases hpd : cp'[d]? = some (some p)
        · rcases hk d p hpd with ⟨hne, _⟩ | ⟨_, _, _, _, hap⟩
          · exact absurd rfl hne
          obtain ⟨j, hj⟩ := hq
          have hjd : j ≠ d := by rintro rfl; rw [show cp'[j]? = _ from hpd] at hj; simp at hj; exact hpq hj
          rcases hk j q hj with ⟨_, _, h2, _⟩ | ⟨h', _⟩
          · rw [h2]; exact hap j q hjd hj (fun e => hpq e.symm)
          · exact absurd h' hjd
        · by_cases hqd : cp'[d]? = some (some q)
          · rcases hk d q hqd with ⟨hne, _⟩ | ⟨_, _, _, _, hap⟩
            · exact absurd rfl hne
            obtain ⟨j, hj⟩ := hp
            have hjd : j ≠ d := by rintro rfl; exact hpd hj
            rcases hk j p hj with ⟨_, _, h2, _⟩ | ⟨h', _⟩
            · rw [h2]
              rcases hap j p hjd hj hpq with h' | h' | h'
              · exact .inr (.inl h')
              · exact .inl h'
              · exact .inr (.inr fun x y hx hy e => h' y x hy hx e.symm)
            · exact absurd h' hjd
          · rcases hlive p hp with ⟨p1, p2, p3⟩ | p1
            · rcases hlive q hq with ⟨q1, q2, q3⟩ | q1
              · rw [p2, q2]; exact h.apart p q p1 q1 hpq p3 q3
              · exact absurd q1 hqd
            · exact absurd p1 hpd
    -- by the kind of right
    have hset : ∀ (l : List (Option Nat)) (o : Option Nat) (i p : Nat), (setN l d o)[i]? = some (some p) → (i ≠ d ∧ l[i]? = some (some p)) ∨ (i = d ∧ d < l.length ∧ o = some p) := by
      intro l o i p hi
      rw [setN_get] at hi
      split at hi
      · rename_i e; exact .inr ⟨e.1, e.2, by simpa using hi⟩
      · rename_i e
        by_cases e2 : i = d
        · subst e2
          rw [List.getElem?_eq_none (by have : ¬ i < l.length := fun h => e ⟨rfl, h⟩; omega)] at hi; cases hi
        · exact .inl ⟨e2, hi⟩
    by_cases hsl : v.ty.isSl = true
    · obtain ⟨t, ht⟩ : ∃ t, v.ty = .sl t := by cases hv : v.ty <;> simp [hv, Ty.isSl] at hsl; exact ⟨_, rfl⟩
      cases cap with
      | no =>
        refine ⟨ρ, ?_⟩
        have : s.put (some d) v .no = { s with tmps := setN s.tmps d v, cp := setN s.cp d none } := by simp [St.put, hsl]
        rw [this]
        refine key _ _ (by simp [setN_length]) fun i p hi => ?_
        rcases hset _ _ _ _ hi with ⟨h1, h2⟩ | ⟨_, _, h3⟩
        · exact .inl ⟨h1, h2, rfl, trivial⟩
        · cases h3
      | dup p0 =>
        refine ⟨ρ, ?_⟩
        have : s.put (some d) v (.dup p0) = { s with tmps := setN s.tmps d v, cp := setN s.cp d p0 } := by simp [St.put, hsl]
        rw [this]
        refine key _ _ (by simp [setN_length]) fun i p hi => ?_
        rcases hset _ _ _ _ hi with ⟨h1, h2⟩ | ⟨h1, h2, h3⟩
        · exact .inl ⟨h1, h2, rfl, trivial⟩
        · subst h3
          obtain ⟨hl, hsz, hval⟩ := hc t ht
          refine .inr ⟨h1, by rw [← h.cplen]; exact h2, ⟨t, ht, hsz, hval⟩, h.rooms p hl trivial, ?_⟩
          intro j q hj hjq hqp
          rcases hset _ _ _ _ hjq with ⟨_, h5⟩ | ⟨h5, _⟩
          · exact h.apart p q hl ⟨j, h5⟩ (fun e => hqp e.symm) trivial trivial
          · exact absurd h5 hj
      | fresh =>
        obtain ⟨r, hsz, hval, hroom, hap⟩ := hc t ht
        refine ⟨fun p => if p = d then r else ρ p, ?_⟩
        have : s.put (some d) v .fresh = { s with tmps := setN s.tmps d v, cp := setN (clearP d s.cp) d (some d) } := by simp [St.put, hsl]
        rw [this]
        refine key _ _ (by simp [setN_length, clearP_length]) fun i p hi => ?_
        rcases hset _ _ _ _ hi with ⟨h1, h2⟩ | ⟨h1, h2, h3⟩
        · rw [clearP_get] at h2
          exact .inl ⟨h1, h2.1, by simp [h2.2], trivial⟩
        · cases h3
          rw [clearP_length] at h2
          refine .inr ⟨h1, by rw [← h.cplen]; exact h2, ⟨t, ht, by simp [hsz], by simp [hval]⟩, by simpa using hroom, ?_⟩
          intro j q hj hjq hqp
          rcases hset _ _ _ _ hjq with ⟨_, h5⟩ | ⟨h5, _⟩
          · rw [clearP_get] at h5
            simp only [if_true]
            exact hap q ⟨j, h5.1⟩
          · exact absurd h5 hj
      | taken p0 =>
        obtain ⟨r, hsz, hval, hroom, hap⟩ := hc t ht
        refine ⟨fun p => if p = d then r else ρ p, ?_⟩
        have : s.put (some d) v (.taken p0) = { s with tmps := setN s.tmps d v, cp := setN (clearP d (clearP p0 s.cp)) d (some d) } := by simp [St.put, hsl]
        rw [this]
        refine key _ _ (by simp [setN_length, clearP_length]) fun i p hi => ?_
        rcases hset _ _ _ _ hi with ⟨h1, h2⟩ | ⟨h1, h2, h3⟩
        · rw [clearP_get, clearP_get] at h2
          exact .inl ⟨h1, h2.1.1, by simp [h2.2], h2.1.2⟩
        · cases h3
          rw [clearP_length, clearP_length] at h2
          refine .inr ⟨h1, by rw [← h.cplen]; exact h2, ⟨t, ht, by simp [hsz], by simp [hval]⟩, by simpa using hroom, ?_⟩
          intro j q hj hjq hqp
          rcases hset _ _ _ _ hjq with ⟨_, h5⟩ | ⟨h5, _⟩
          · rw [clearP_get, clearP_get] at h5
            simp only [if_true]
            exact hap q ⟨j, h5.1.1⟩ h5.1.2
          · exact absurd h5 hj
    · have hn : ∀ p, noTake cap p := by
        intro p; cases cap with
        | taken q => exact absurd (hcap q rfl).1 hsl
        | _ => trivial
      refine ⟨ρ, ?_⟩
      have : s.put (some d) v cap = { s with tmps := setN s.tmps d v, cp := setN s.cp d none } := by
        have : v.ty.isSl = false := by simpa using hsl
        simp [St.put, this]
      rw [this]
      refine key _ _ (by simp [setN_length]) fun i p hi => ?_
      rcases hset _ _ _ _ hi with ⟨h1, h2⟩ | ⟨_, _, h3⟩
      · exact .inl ⟨h1, h2, rfl, hn p⟩
      · cases h3
end Go.Ev
