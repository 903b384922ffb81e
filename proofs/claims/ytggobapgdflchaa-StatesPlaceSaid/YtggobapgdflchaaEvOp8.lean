import Derived.Test.YtggobapgdflchaaEvOp7
set_option linter.unusedVariables false
namespace Go.Ev
open Go.RowKit
variable {P : Program} {E : Env} {I : Im} {w : World} {μ : List Nat} {c : Ctx} {ρ : Nat → Rm} {s : St} {a : Act} {o : Oper} {T : Type}

theorem run_convert_to_int (src dst : Nat) (k k' : IntKind) (n : Int) {d : TypeDesc} (hs : P.underlying src = some d) (hd : P.underlying dst = some (.int k)) : (convert src dst (.int k' n)).run P w = .ok (.int k (k.wrap n)) w := by
  unfold convert
  simp only [Sem.run_bind, run_underlying hs, run_underlying hd, Result.andThen_ok]
  rfl

theorem run_convert_to_str (src dst : Nat) (b : ByteArray) {d : TypeDesc} (hs : P.underlying src = some d) (hd : P.underlying dst = some .string) : (convert src dst (.string b)).run P w = .ok (.string b) w := by
  unfold convert
  simp only [Sem.run_bind, run_underlying hs, run_underlying hd, Result.andThen_ok]
  rfl

theorem RAll_bytes : ∀ (l : List Int) (cs : List Value), RAll (R I w μ (.int .u8) true) l cs → cs = l.map (Value.int .u8)
  | [], cs, h => h
  | x :: l, cs, ⟨c1, c2, e, h1, h2⟩ => by
    have h1 : c1 = [.int .u8 x] := h1
    rw [e, h1, RAll_bytes l c2 h2]; rfl

theorem run_convert_bytes (src dst : Nat) (e : Nat) (hs : P.underlying src = some (.slice e)) (he : P.underlying e = some (.int .u8)) (hd : P.underlying dst = some .string) {l : List Int} {u : Value}
    (hr : R I w μ (.sl (.int .u8)) false l [u]) : (convert src dst u).run P w = .ok (.string (bytesOf l)) w := by
  obtain ⟨ad, n, cap, cells, ev, hn, hcap, hall, hnone, hcells⟩ := hr
  have ev : u = .slice ad n cap := by injection ev
  subst ev
  have hcs := RAll_bytes l cells hall
  have hn : n = l.length := hn
  rw [run_convert_bytes_string w src dst e _ n cap hs he hd]
  cases ad with
  | none =>
    have h0 := hnone rfl
    subst h0
    have : l = [] := List.eq_nil_of_length_eq_zero (by omega)
    subst this
    rfl
  | some ad =>
    have hl : (loadCells ad n).run P w = .ok (l.map (Value.int .u8)).toArray w := by
      have := run_loadCells_list (P := P) (w := w) ad cells (fun j v hj => (hcells ad rfl j v hj).1)
      rw [hcs] at this
      simpa [hn] using this
    rw [run_bytesToString w ad n cap l hl, foldl_push_bytes]
    simp [bytesOf, ByteArray.empty, ByteArray.emptyWithCapacity]
    rfl

theorem convert_sound (hE : EnvOK P E) {K : AV → Cap → St → Option T} {r : T} {src dst : Nat} {x : Operand} (H : RelI c I μ ρ s a w) (ho : o.op = .convert src dst x)
    (h : (match E.ty src, opd s (E.ty src) x with | some ts, some v => convK (some ts) (E.ty dst) v fun v => K v .no s | _, _ => none) = some r) : Yields P o a w (Out K r c a o.dst) := by
  cases hs : E.ty src with
  | none => rw [hs] at h; cases h
  | some ts =>
  cases hx : opd s (E.ty src) x with
  | none => rw [hs] at hx; rw [hs, hx] at h; cases h
  | some p =>
    have hr := opd_sound H hx
    rw [hs] at hx
    rw [hs, hx] at h
    simp only at h
    have run : (execOp a.eval o).run P w = ((convert src dst (a.eval x)).run P w).andThen fun v w' => .ok (.value v) w' := by
      unfold execOp; rw [ho]; simp only [Sem.run_bind]; rfl
    obtain ⟨ds, hds, _⟩ := (hE.tys _ _ hs).und
    cases hd : E.ty dst with
    | none => rw [hd] at h; cases h
    | some td =>
      rw [hd] at h
      obtain ⟨pt, px⟩ := p
      cases td with
      | int k =>
        cases pt with
        | int k' =>
          have ex := int_of_R hr
          refine yields_value (u := .int k (k.wrap px)) (w' := w) ?_ (Out.no h H rfl)
          rw [run, ex, run_convert_to_int src dst k k' px hds ((hE.tys _ _ hd).int k rfl)]; rfl
        | _ => cases h
      | str =>
        cases pt with
        | str =>
          have ex := str_of_R hr
          refine yields_value (u := .string px) (w' := w) ?_ (Out.no h H rfl)
          rw [run, ex, run_convert_to_str src dst px hds ((hE.tys _ _ hd).str rfl)]; rfl
        | sl t =>
          cases t with
          | int k =>
            cases k with
            | u8 =>
              have h' : (bif decide (some ts = some (Ty.sl (.int .u8))) then K ⟨.str, bytesOf px⟩ .no s else none) = some r := h
              cases hdd : decide (some ts = some (Ty.sl (.int .u8))) with
              | false => rw [hdd] at h'; cases h'
              | true =>
                rw [hdd] at h'
                have e : ts = .sl (.int .u8) := by simpa using hdd
                subst e
                obtain ⟨e, h1, h2⟩ := (hE.tys _ _ hs).sl _ rfl
                refine yields_value (u := .string (bytesOf px)) (w' := w) ?_ (Out.no h' H rfl)
                rw [run, run_convert_bytes src dst e h1 ((hE.tys _ _ h2).int _ rfl) ((hE.tys _ _ hd).str rfl) hr]; rfl
            | _ => cases h
          | _ => cases h
        | _ => cases h
      | _ => cases h

/-- several operands -/
inductive RL (I : Im) (w : World) (μ : List Nat) : List AV → List Value → Prop
  | nil : RL I w μ [] []
  | cons {v : AV} {u : Value} {vs : List AV} {us : List Value} (h : R I w μ v.ty false v.x [u]) (k : RL I w μ vs us) : RL I w μ (v :: vs) (u :: us)

theorem opds_sound (H : RelI c I μ ρ s a w) : ∀ (l : List Operand) (Ts : List Nat) (vs : List AV), opds s E l Ts = some vs → RL I w μ vs (l.map a.eval)
  | [], Ts, vs, h => by unfold opds at h; injection h with h; subst h; exact .nil
  | x :: l, U :: Ts, vs, h => by
    unfold opds at h
    cases hx : opd s (E.ty U) x with
    | none => rw [hx] at h; cases h
    | some v =>
      cases hl : opds s E l Ts with
      | none => rw [hx, hl] at h; cases h
      | some m =>
        rw [hx, hl] at h
        simp only at h
        injection h with h; subst h
        exact .cons (opd_sound H hx) (opds_sound H l Ts m hl)
  | x :: l, [], vs, h => by
    unfold opds at h
    cases hx : opd s none x with
    | none => rw [hx] at h; cases h
    | some v =>
      cases hl : opds s E l [] with
      | none => rw [hx, hl] at h; cases h
      | some m =>
        rw [hx, hl] at h
        simp only at h
        injection h with h; subst h
        exact .cons (opd_sound H hx) (opds_sound H l [] m hl)

theorem chain_R : ∀ (vs : List AV) (us : List Value), RL I w μ vs us → R I w μ (chain vs).ty false (chain vs).x us
  | [], _, .nil => rfl
  | [v], _, .cons h .nil => h
  | v :: v2 :: l, _, .cons (u := u) h k => ⟨[u], _, rfl, h, chain_R (v2 :: l) _ k, fun _ => rfl⟩

theorem unchain_R : ∀ (t : Ty) (x : t.den) (us : List Value), R I w μ t false x us → t.single = true ∨ isPr t = true ∨ t = .unit → (∀ v, v ∈ unchain t x → v.ty.single = true) → RL I w μ (unchain t x) us := by
  intro t
  induction t with
  | pr a b iha ihb =>
    rintro x us ⟨c1, c2, rfl, h1, h2, h3⟩ _ hs
    have h3 := h3 rfl
    obtain ⟨v, rfl⟩ : ∃ v, c1 = [v] := by
      cases c1 with
      | nil => cases h3
      | cons v l => cases l with
        | nil => exact ⟨v, rfl⟩
        | cons _ _ => simp at h3
    have hs' : ∀ v, v ∈ unchain b x.2 → v.ty.single = true := fun v hv => hs v (List.mem_cons_of_mem _ hv)
    refine .cons h1 (ihb x.2 c2 h2 ?_ hs')
    cases b <;> simp [Ty.single, isPr]
  | unit => intro x us h _ _; cases h; exact .nil
  | _ =>
    intro x us h _ hs
    obtain ⟨v, rfl⟩ := R.single _ rfl _ _ h
    exact .cons h .nil

theorem makeFunc_sound {K : AV → Cap → St → Option T} {r : T} {f : Nat} {first captured : Array Operand} (H : RelI c I μ ρ s a w) (ho : o.op = .makeFunc (.func f) first captured)
    (h : (match opds s E first.toList [], opds s E captured.toList [] with
    | some a, some c => K ⟨.fn f (chain a).ty (chain c).ty, ((chain a).x, (chain c).x)⟩ .no s
    | _, _ => none) = some r) : Yields P o a w (Out K r c a o.dst) := by
  cases h1 : opds s E first.toList [] with
  | none => rw [h1] at h; cases h
  | some va =>
  cases h2 : opds s E captured.toList [] with
  | none => rw [h1, h2] at h; cases h
  | some vc =>
    rw [h1, h2] at h
    simp only at h
    have r1 := chain_R _ _ (opds_sound H _ _ _ h1)
    have r2 := chain_R _ _ (opds_sound H _ _ _ h2)
    refine yields_value (u := .func (.func f) (first.map a.eval) (captured.map a.eval)) (w' := w) ?_ (Out.no h H ⟨_, _, ?_, r1, r2⟩)
    · unfold execOp; rw [ho]; rfl
    · have e1 : ∀ l : Array Operand, (l.toList.map a.eval).toArray = l.map a.eval := fun l => by rw [← Array.toList_map, Array.toArray_toList]
      rw [e1, e1]

end Go.Ev
