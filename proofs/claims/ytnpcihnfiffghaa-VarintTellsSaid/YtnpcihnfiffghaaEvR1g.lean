/- 'rovinglaw01.VarintTells' is true for every input: no condition. -/
import Derived.Test.YtnpcihnfiffghaaEvR1f
import Derived.Test.YtnpcihnfiffghaaEvRow
import Derived.Test.YtnpcihnfiffghaaRows
set_option linter.unusedVariables false
namespace Go.Proofs.Ytnpcihnfiffghaa.varintTells
open Go.ChangeShapes Go.WideShapes Go.ChangeAt Go.RowKit
open Go.ChangeMaps (open_string shut_string)
open Go.Ev Go.Ev.R1

theorem own : ownKnob Try.prog.godebug = none := by kernel_rfl
theorem laidOut : laidOutB Try.prog = true := by kernel_rfl
theorem tyOK : ∀ T t, (mk [] [] 0).ty T = some t → TyOK Try.prog (mk [] [] 0) T t := (base.env (ctr := []) (fns := []) (ann := ann) (k := 0) trivial trivial).tys

theorem walk (b : List Int) (n at_ : Int) (hb : Bytes b) (W : World) (v0 v1 v2 : Value) (h0 : Ev.R (I0 W) W [] bytesT false b [v0]) (h1 : Ev.R (I0 W) W [] (.int .i64) false n [v1]) (h2 : Ev.R (I0 W) W [] (.int .i64) false at_ [v2]) :
    Calls Try.prog 3 #[v0, v1, v2] W fun e W' => e = .returned (.bool true) ∧ Below W.heap.size W W' := by
  have hc := (tellsC_ok.1.calls (I0 W) W ((b, n, at_) : List Int × Int × Int) [v0, v1, v2] true (fun _ _ h => h)
    ⟨[v0], [v1, v2], rfl, h0, ⟨[v1], [v2], rfl, h1, h2, fun _ => rfl⟩, fun _ => rfl⟩ (if_pos hb))
  refine hc.mono ?_
  rintro e W' ⟨u, rfl, hu, hbel⟩
  have hu : u = .bool true := bool_of_R hu
  subst hu
  exact ⟨rfl, hbel⟩

theorem bytes_of {l : List Int} (h : Rng bytesT l) : Bytes l := by
  intro y hy
  have h2 : (Lit.int .u8 y).wf = true := h.2 y hy
  have e1 : IntKind.u8.min = 0 := rfl
  have e2 : IntKind.u8.max = 255 := rfl
  simp [Lit.wf, e1, e2] at h2
  omega

set_option maxRecDepth 100000 in
theorem lifted (os : Os) (started : os.Started) (H : Type) (enc : TypeId × Value → H) :
    ReturnsInHanded {} Try.checked os 3 .any (Rows.varintTellsSpec.pre6 enc Try.prog Try.f3 Rows.varintTellsRow.domain false) (Rows.varintTellsSpec.post enc Try.prog Try.f3 false true false false) := by
  refine returnsInHanded_of_change_sized (C := Try.checked) own started (by kernel_rfl) Try.func3
    (ChangeSpec.witness6 (enc := enc) (C := Try.checked) false ⟨#[], #[.slice none 0 0, .int .i64 0, .int .i64 0], []⟩ 8 (by kernel_rfl) (by kernel_rfl) (by kernel_rfl) (by kernel_rfl)) ?_
  intro W base args ds gs before hval0 hW hcnd hsz0 _
  have hval : ∀ (j : Nat) t v, Try.f3.params[j]? = some t → args[j]? = some v → Value.okWide Try.prog W .any base t v := hval0
  have hW' := hW
  obtain ⟨p, q, hA0, hV, rfl, hfz, hnd⟩ := hW
  have hA : DataW.TrodAll enc Try.prog W 0 (fun _ => true) true Try.f3.params.toList args.toList ds p := hA0
  rw [Try.params3] at hA hval
  obtain ⟨v0, vs0, d0, ds0, p0, q0, hargs, rfl, rfl, h0, r0⟩ := trodAll_cons hA
  obtain ⟨v1, vs1, d1, ds1, p1, q1, rfl, rfl, rfl, h1, r1⟩ := trodAll_cons r0
  obtain ⟨v2, vs2, d2, ds2, p2, q2, rfl, rfl, rfl, h2, r2⟩ := trodAll_cons r1
  obtain ⟨rfl, rfl, rfl⟩ := trodAll_nil r2
  obtain rfl : args = #[v0, v1, v2] := by cases args; simp_all
  obtain ⟨rfl, rfl⟩ := trodVars_none hV
  have lt0 : ∀ x ∈ p0, x.block < W.heap.size := by obtain ⟨m, hm⟩ := h0; exact DataW.trod_lt m _ _ _ hm
  have lt1 : ∀ x ∈ p1, x.block < W.heap.size := by obtain ⟨m, hm⟩ := h1; exact DataW.trod_lt m _ _ _ hm
  have lt2 : ∀ x ∈ p2, x.block < W.heap.size := by obtain ⟨m, hm⟩ := h2; exact DataW.trod_lt m _ _ _ hm
  obtain ⟨z0, y0, g0⟩ := arg_R tyOK (T := 22) (t := bytesT) rfl rfl (hval 0 22 v0 rfl rfl) h0
  obtain ⟨z1, y1, g1⟩ := arg_R tyOK (T := 3) (t := .int .i64) rfl rfl (hval 1 3 v1 rfl rfl) h1
  obtain ⟨z2, y2, g2⟩ := arg_R tyOK (T := 3) (t := .int .i64) rfl rfl (hval 2 3 v2 rfl rfl) h2
  clear hA0 hval0 hsz0
  refine (walk z0 z1 z2 (bytes_of g0) W v0 v1 v2 y0 y1 y2).mono fun e W' ⟨he, bel⟩ => ?_
  subst he
  exact ⟨_, rfl, _, _, _, [], _, [], hW', trodAll_mk1 (shut_bool Try.underlying4 _), (trodAll_cons_mk (Below.trod laidOut (by kernel_rfl) (of_decide_eq_true (by kernel_rfl)) h0 bel lt0) (trodAll_cons_mk (Below.trod laidOut (by kernel_rfl) (of_decide_eq_true (by kernel_rfl)) h1 bel lt1) (trodAll_cons_mk (Below.trod laidOut (by kernel_rfl) (of_decide_eq_true (by kernel_rfl)) h2 bel lt2) trodAll_mk0))), rfl, bel.frame _, fun h => by cases h⟩

theorem over : Rows.varintTellsRow.holds Try.pinned (OpenSpec.ofChange Rows.varintTellsSpec) :=
  OpenClaim.holds_of_wide 3 Try.f3 rfl rfl rfl rfl rfl rfl rfl ⟨rfl, rfl, rfl, rfl, rfl⟩ rfl rfl rfl rfl rfl (by kernel_rfl) Try.func3 (by kernel_rfl)
    (of_decide_eq_true (by kernel_rfl)) (by unfold Func.isWrapper; first | (rw [if_pos (by decide +kernel)]; kernel_rfl) | (rw [if_neg (by decide +kernel)]; exact ⟨rfl, rfl⟩))
    (fun os started H enc _ => lifted os started H enc)
theorem proved : Rows.VarintTellsSaid := over
#print axioms proved
end Go.Proofs.Ytnpcihnfiffghaa.varintTells
namespace Go.Proofs.Ytnpcihnfiffghaa
/-- The row, under a short name, for the claim. -/
theorem varintTells_holds : Rows.VarintTellsSaid := varintTells.proved
end Go.Proofs.Ytnpcihnfiffghaa
