import Derived.Test.YtggobapgdflchaaEvOp3
set_option linter.unusedVariables false
namespace Go.Ev
open Go.RowKit
variable {P : Program} {E : Env} {I : Im} {w : World} {μ : List Nat} {c : Ctx} {ρ : Nat → Rm} {s : St} {a : Act} {o : Oper} {T : Type}

def Yields (P : Program) (o : Oper) (a : Act) (w : World) (Q : Value → World → Prop) : Prop :=
  match (execOp a.eval o).run P w with
  | .ok (.value u) w' => Q u w'
  | .ok .skip w' => Q undef w'
  | .ok (.enter f args) w' => Calls P f args w' fun e w'' => ∃ u, e = .returned u ∧ Q u w''
  | _ => False

theorem wp_of_yields {Q : Value → World → Prop} {next : Act → World → Prop} {Qx : Exit → Act → World → Prop} (h : Yields P o a w Q) (hn : ∀ u w', Q u w' → next (a.put o.dst u) w') : o.wp P a w next Qx := by
  unfold Oper.wp Oper.upon
  unfold Yields at h
  split at h
  · rename_i h1; rw [h1]; exact hn _ _ h
  · rename_i h1; rw [h1]; exact hn _ _ h
  · rename_i h1
    rw [h1]
    refine h.mono ?_
    rintro e w'' ⟨u, rfl, hq⟩
    exact hn _ _ hq
  · exact h.elim

def Out (K : AV → Cap → St → Option T) (r : T) (c : Ctx) (a : Act) (dst : Option Nat) (u : Value) (w' : World) : Prop :=
  ∃ v cap s' I' μ' ρ', K v cap s' = some r ∧ RelX (noTake cap) c I' μ' ρ' s' a w' ∧ R I' w' μ' v.ty false v.x [u] ∧ CapAt c I' μ' ρ' s' w' v u cap ∧
    (∀ p, cap = .taken p → v.ty.isSl = true ∧ dst.isSome = true)

theorem yields_value {Q : Value → World → Prop} {u : Value} {w' : World} (h : (execOp a.eval o).run P w = .ok (.value u) w') (hq : Q u w') : Yields P o a w Q := by
  unfold Yields; rw [h]; exact hq

theorem Out.no {K : AV → Cap → St → Option T} {r : T} {dst : Option Nat} {u : Value} {v : AV} (h : K v .no s = some r) (H : RelI c I μ ρ s a w) (hr : R I w μ v.ty false v.x [u]) : Out K r c a dst u w :=
  ⟨v, .no, s, I, μ, ρ, h, H.toX _, hr, trivial, fun p e => by cases e⟩

theorem opdCap_not_taken {x : Operand} (p : Nat) : opdCap s x ≠ .taken p := by cases x <;> simp [opdCap]

theorem move_sound {K : AV → Cap → St → Option T} {r : T} {x : Operand} (H : RelI c I μ ρ s a w) (ho : o.op = .move x ∨ o.op = .assign x)
    (h : (match opd s (E.ty o.type) x with | some ⟨t, y⟩ => K ⟨t, y⟩ (opdCap s x) s | none => none) = some r) : Yields P o a w (Out K r c a o.dst) := by
  cases hx : opd s (E.ty o.type) x with
  | none => rw [hx] at h; cases h
  | some v =>
    rw [hx] at h
    have hrun : (execOp a.eval o).run P w = .ok (.value (a.eval x)) w := by
      rcases ho with ho | ho <;> (unfold execOp; rw [ho]; rfl)
    refine yields_value hrun ⟨v, opdCap s x, s, I, μ, ρ, h, H.toX _, opd_sound H hx, opdCap_sound H hx, fun p e => absurd e (opdCap_not_taken p)⟩

theorem bool_of_R {x : Bool} {u : Value} (h : R I w μ .bool false x [u]) : u = .bool x := by cases h; rfl
theorem int_of_R {k : IntKind} {x : Int} {u : Value} (h : R I w μ (.int k) false x [u]) : u = .int k x := by cases h; rfl
theorem str_of_R {x : ByteArray} {u : Value} (h : R I w μ .str false x [u]) : u = .string x := by cases h; rfl

theorem br_some {α : Type} {c : Bool} {x y : Option α} {r : α} (h : br c x y = some r) : (c = true ∧ x = some r) ∨ (c = false ∧ y = some r) := by
  cases c
  · exact .inr ⟨rfl, h⟩
  · exact .inl ⟨rfl, h⟩

theorem R_br {t : Ty} {q : Bool} {x y : t.den} {u v : Value} (h1 : R I w μ t false x [u]) (h2 : R I w μ t false y [v]) : R I w μ t false (br q x y) [br q u v] := by
  cases q
  · exact h2
  · exact h1

theorem asB_some {v : Option AV} {q : Bool} (h : asB v = some q) : v = some (.bool q) := by
  unfold asB at h
  split at h
  · injection h with h; subst h; rfl
  · cases h
theorem asN_some {v : Option AV} {k : IntKind} {n : Int} (h : asN v = some (k, n)) : v = some (.int k n) := by
  unfold asN at h
  split at h
  · injection h with h; injection h with h1 h2; subst h1; subst h2; rfl
  · cases h

theorem opd_bool (H : RelI c I μ ρ s a w) {T : Option Ty} {x : Operand} {q : Bool} (h : asB (opd s T x) = some q) : a.eval x = .bool q :=
  bool_of_R (opd_sound H (asB_some h))
theorem opd_int (H : RelI c I μ ρ s a w) {T : Option Ty} {x : Operand} {k : IntKind} {q : Int} (h : asN (opd s T x) = some (k, q)) : a.eval x = .int k q :=
  int_of_R (opd_sound H (asN_some h))

theorem pick_sound {K : AV → Cap → St → Option T} {r : T} {x y z : Operand} (H : RelI c I μ ρ s a w) (ho : o.op = .pick x y z)
    (h : (match asB (opd s none x), opd s (E.ty o.type) y, opd s (E.ty o.type) z with
    | some q, some va, some vb =>
      match castTo va.ty vb with
      | some y => K ⟨va.ty, br q va.x y⟩ .no s
      | none => br q (K va .no s) (K vb .no s)
    | _, _, _ => none) = some r) : Yields P o a w (Out K r c a o.dst) := by
  cases hx : asB (opd s none x) with
  | none => rw [hx] at h; cases h
  | some q =>
  cases hy : opd s (E.ty o.type) y with
  | none => rw [hx, hy] at h; cases h
  | some va =>
  cases hz : opd s (E.ty o.type) z with
  | none => rw [hx, hy, hz] at h; cases h
  | some vb =>
    rw [hx, hy, hz] at h
    simp only at h
    have ry := opd_sound H hy
    have rz := opd_sound H hz
    have hrun : (execOp a.eval o).run P w = .ok (.value (br q (a.eval y) (a.eval z))) w := by
      unfold execOp; rw [ho]
      simp only [Sem.run_bind, opd_bool H hx, asBool, Sem.run_pure, Result.andThen_ok]
      cases q <;> rfl
    refine yields_value hrun ?_
    cases hc : castTo va.ty vb with
    | some y' =>
      rw [hc] at h
      have := castTo_some hc
      subst this
      exact Out.no h H (R_br ry rz)
    | none =>
      rw [hc] at h
      rcases br_some h with ⟨hq, h⟩ | ⟨hq, h⟩
      · subst hq; exact Out.no h H ry
      · subst hq; exact Out.no h H rz

theorem not_sound {K : AV → Cap → St → Option T} {r : T} {t : Nat} {x : Operand} {b : Bool} (H : RelI c I μ ρ s a w) (ho : o.op = .unOp .not t x)
    (hx : asB (opd s none x) = some b) (h : K (.bool !b) .no s = some r) : Yields P o a w (Out K r c a o.dst) := by
  refine yields_value (u := .bool !b) (w' := w) ?_ (Out.no h H rfl)
  unfold execOp; rw [ho]
  simp only [Sem.run_bind, opd_bool H hx, Op.unary, Sem.run_pure, Result.andThen_ok]

theorem neg_sound {K : AV → Cap → St → Option T} {r : T} {t : Nat} {x : Operand} {k : IntKind} {n : Int} (H : RelI c I μ ρ s a w) (ho : o.op = .unOp .neg t x)
    (hx : asN (opd s none x) = some (k, n)) (h : K (.int k (negI k n)) .no s = some r) : Yields P o a w (Out K r c a o.dst) := by
  refine yields_value (u := .int k (negI k n)) (w' := w) ?_ (Out.no h H rfl)
  unfold execOp; rw [ho]
  simp only [Sem.run_bind, opd_int H hx, Op.unary, Op.intArith, Sem.run_pure, Result.andThen_ok, negI]

theorem isFn_sound {t : Ty} (ht : isFn t = true) {x : t.den} {u : Value} (h : R I w μ t false x [u]) :
    (∃ f va vc, u = .func (.func f) va vc) ∨ ∃ ad, u = .pointer (some ad) := by
  cases t with
  | fn f a b => obtain ⟨va, vc, e, _⟩ := h; cases e; exact .inl ⟨_, _, _, rfl⟩
  | box i off => obtain ⟨b, _, e⟩ := h; cases e; exact .inr ⟨_, rfl⟩
  | boxv i off => obtain ⟨b, _, _, _, e⟩ := h; cases e; exact .inr ⟨_, rfl⟩
  | ref t => obtain ⟨b, _, e, _⟩ := h; cases e; exact .inr ⟨_, rfl⟩
  | _ => cases ht

theorem nilCheck_sound {K : AV → Cap → St → Option T} {r : T} {x : Operand} (H : RelI c I μ ρ s a w) (ho : o.op = .nilCheck x)
    (h : (match opd s none x with | some ⟨t, y⟩ => bif isFn t then K ⟨t, y⟩ .no s else none | none => none) = some r) : Yields P o a w (Out K r c a o.dst) := by
  cases hx : opd s none x with
  | none => rw [hx] at h; cases h
  | some v =>
    rw [hx] at h
    obtain ⟨t, y⟩ := v
    simp only at h
    cases ht : isFn t with
    | false => rw [ht] at h; cases h
    | true =>
      rw [ht] at h
      have hr := opd_sound H hx
      refine yields_value (u := a.eval x) (w' := w) ?_ (Out.no h H hr)
      unfold execOp; rw [ho]
      rcases isFn_sound ht hr with ⟨f, va, vc, e⟩ | ⟨ad, e⟩ <;> (simp only [e]; rfl)

/-- a pointer's place: the block and the offset, and what is read there -/
theorem ptr_box {i off : Nat} {u : Value} (h : R I w μ (.box i off) false () [u]) : ∃ b, μ[i]? = some b ∧ u = .pointer (some ⟨b, off, none⟩) := by
  obtain ⟨b, hb, e⟩ := h; cases e; exact ⟨b, hb, rfl⟩
theorem ptr_boxv {i : Nat} {offs : List Nat} {j : Nat} {u : Value} (h : R I w μ (.boxv i offs) false j [u]) : ∃ b off, μ[i]? = some b ∧ offs[j]? = some off ∧ u = .pointer (some ⟨b, off, none⟩) := by
  obtain ⟨b, off, hb, ho, e⟩ := h; cases e; exact ⟨b, off, hb, ho, rfl⟩

theorem cell_at {b off : Nat} {cs : Array Value} {et : Nat} {fr : Nat × Nat} (h : w.heap[b]? = some (.cells cs et fr)) {c1 c2 c3 : List Value} (e : cs.toList = c1 ++ c2 ++ c3) (hl : c1.length = off) :
    ∀ (j : Nat) v, c2[j]? = some v → w.cell? ((⟨b, off, none⟩ : Addr).add j) = some v := by
  intro j v hv
  have : ((⟨b, off, none⟩ : Addr).add j) = ⟨b, off + j, none⟩ := by unfold Addr.add; split <;> simp_all
  rw [this]
  simp only [World.cell?, h]
  have : cs[off + j]? = some v := by
    rw [← Array.getElem?_toList, e, List.append_assoc, List.getElem?_append_right (by omega), hl, Nat.add_sub_cancel_left,
      List.getElem?_append_left (List.getElem?_eq_some_iff.1 hv).1]
    exact hv
  simpa using this

theorem fieldPlace_run {E : Env} (ad : Addr) (f : Field) {t : Ty} (ht : TyOK P E f.type t) (h : 0 < t.csize) : (fieldPlace ad f).run P w = .ok (ad.add f.offset) w := by
  obtain ⟨i, v, hi, hs, _⟩ := ht.info
  unfold fieldPlace
  simp only [Sem.run_bind, run_sizeOf hi, Result.andThen_ok, hs]
  rw [if_neg (by omega)]
  rfl
end Go.Ev
