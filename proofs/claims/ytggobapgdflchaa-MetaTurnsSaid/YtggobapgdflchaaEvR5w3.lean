/- 'rovinglaw20.MetaTurns' is true for every input: no condition. -/
import Derived.Test.YtggobapgdflchaaEvS18
import Derived.Test.YtggobapgdflchaaEvB2
import Derived.Test.YtggobapgdflchaaRows

set_option linter.unusedVariables false
namespace Go.Proofs.Ytggobapgdflchaa.metaTurns
open Go.ChangeShapes Go.WideShapes Go.ChangeAt Go.RowKit
open Go.ChangeMaps (open_string shut_string)
open Go.Ev Go.Ev.R3

theorem own : ownKnob Try.prog.godebug = none := by kernel_rfl
theorem laidOut : laidOutB Try.prog = true := by kernel_rfl
theorem tyOK : ∀ T t, (mk [] [] 0).ty T = some t → TyOK Try.prog (mk [] [] 0) T t := (base.env (ctr := []) (fns := []) (ann := ann) (k := 0) trivial trivial).tys

theorem walk (x0 : Go.Ev.R3.State) (x1 : Go.Ev.R3.MetaE) (x2 : Go.Ev.R3.MetaE) (W : World) (v0 v1 v2 : Value) (h0 : Ev.R (I0 W) W [] (stateT) false x0 [v0]) (h1 : Ev.R (I0 W) W [] (metaT) false x1 [v1]) (h2 : Ev.R (I0 W) W [] (metaT) false x2 [v2]) (g0 : Rng (stateT) x0) (g1 : Rng (metaT) x1) (g2 : Rng (metaT) x2) :
    Calls Try.prog 14 #[v0, v1, v2] W fun e W' => e = .returned (.bool true) ∧ Below W.heap.size W W' := by
  have hc := (metaTurnsC_ok.1.calls (I0 W) W ((x0, x1, x2) : Go.Ev.R3.State × Go.Ev.R3.MetaE × Go.Ev.R3.MetaE) [v0, v1, v2] true (fun _ _ h => h)
    ⟨[v0], [v1, v2], rfl, h0, ⟨[v1], [v2], rfl, h1, h2, fun _ => rfl⟩, fun _ => rfl⟩ (if_pos ⟨i8S_of' g0, i8E_of g1, i8E_of g2⟩))
  refine hc.mono ?_
  rintro e W' ⟨u, rfl, hu, hbel⟩
  have hu : u = .bool true := bool_of_R hu
  subst hu
  exact ⟨rfl, hbel⟩

set_option maxRecDepth 100000 in
theorem lifted (os : Os) (started : os.Started) (H : Type) (enc : TypeId × Value → H) :
    ReturnsInHanded {} Try.checked os 14 .any (Rows.metaTurnsSpec.pre6 enc Try.prog Try.f14 Rows.metaTurnsRow.domain false) (Rows.metaTurnsSpec.post enc Try.prog Try.f14 false true false false) := by
  refine returnsInHanded_of_change_sized (C := Try.checked) own started (by kernel_rfl) Try.func14
    (ChangeSpec.witness6 (enc := enc) (C := Try.checked) false ⟨#[], #[.agg #[.int .i64 0, .int .i8 0, .int .i64 0, .int .i64 0, .int .i64 0, .int .i64 0, .slice none 0 0, .slice none 0 0, .int .i64 0, .int .i8 0, .int .i64 0, .int .i64 0, .int .i64 0, .int .i64 0, .slice none 0 0, .slice none 0 0, .int .i64 0, .int .i8 0, .int .i64 0, .int .i64 0, .int .i64 0, .int .i64 0, .slice none 0 0, .slice none 0 0, .int .i64 0, .int .i64 0, .int .i64 0, .int .i64 0, .int .i64 0, .int .i64 0, .int .i64 0], .agg #[.int .i8 0, .int .i64 0, .int .i64 0, .int .i64 0, .int .i64 0, .int .i64 0, .bool false, .int .i64 0, .int .i8 0, .int .i64 0, .int .i64 0, .int .i64 0, .int .i64 0, .slice none 0 0, .slice none 0 0, .int .i64 0, .int .i64 0], .agg #[.int .i8 0, .int .i64 0, .int .i64 0, .int .i64 0, .int .i64 0, .int .i64 0, .bool false, .int .i64 0, .int .i8 0, .int .i64 0, .int .i64 0, .int .i64 0, .int .i64 0, .slice none 0 0, .slice none 0 0, .int .i64 0, .int .i64 0]], []⟩ 8 (by kernel_rfl) (by kernel_rfl) (by kernel_rfl) (by kernel_rfl)) ?_
  intro W base args ds gs before hval0 hW hcnd hsz0 _
  have hval : ∀ (j : Nat) t v, Try.f14.params[j]? = some t → args[j]? = some v → Value.okWide Try.prog W .any base t v := hval0
  have hW' := hW
  obtain ⟨p, q, hA0, hV, rfl, hfz, hnd⟩ := hW
  have hA : DataW.TrodAll enc Try.prog W 0 (fun _ => true) true Try.f14.params.toList args.toList ds p := hA0
  rw [Try.params14] at hA hval
  obtain ⟨v0, vs0, d0, ds0, p0, q0, hargs, rfl, rfl, h0, r0⟩ := trodAll_cons hA
  obtain ⟨v1, vs1, d1, ds1, p1, q1, rfl, rfl, rfl, h1, r1⟩ := trodAll_cons r0
  obtain ⟨v2, vs2, d2, ds2, p2, q2, rfl, rfl, rfl, h2, r2⟩ := trodAll_cons r1
  obtain ⟨rfl, rfl, rfl⟩ := trodAll_nil r2
  obtain rfl : args = #[v0, v1, v2] := by cases args; simp_all
  obtain ⟨rfl, rfl⟩ := trodVars_none hV
  have lt0 : ∀ x ∈ p0, x.block < W.heap.size := by obtain ⟨m, hm⟩ := h0; exact DataW.trod_lt m _ _ _ hm
  obtain ⟨x0, y0, g0⟩ := arg_R tyOK (T := 39) (t := stateT) rfl rfl (hval 0 39 v0 rfl rfl) h0
  have lt1 : ∀ x ∈ p1, x.block < W.heap.size := by obtain ⟨m, hm⟩ := h1; exact DataW.trod_lt m _ _ _ hm
  obtain ⟨x1, y1, g1⟩ := arg_R tyOK (T := 62) (t := metaT) rfl rfl (hval 1 62 v1 rfl rfl) h1
  have lt2 : ∀ x ∈ p2, x.block < W.heap.size := by obtain ⟨m, hm⟩ := h2; exact DataW.trod_lt m _ _ _ hm
  obtain ⟨x2, y2, g2⟩ := arg_R tyOK (T := 62) (t := metaT) rfl rfl (hval 2 62 v2 rfl rfl) h2
  clear hA0 hval0 hsz0
  refine (walk x0 x1 x2 W v0 v1 v2 y0 y1 y2 g0 g1 g2).mono fun e W' ⟨he, bel⟩ => ?_
  subst he
  exact ⟨_, rfl, _, _, _, [], _, [], hW', trodAll_mk1 (shut_bool Try.underlying4 _), (trodAll_cons_mk (Below.trod laidOut (by kernel_rfl) (of_decide_eq_true (by kernel_rfl)) h0 bel lt0) (trodAll_cons_mk (Below.trod laidOut (by kernel_rfl) (of_decide_eq_true (by kernel_rfl)) h1 bel lt1) (trodAll_cons_mk (Below.trod laidOut (by kernel_rfl) (of_decide_eq_true (by kernel_rfl)) h2 bel lt2) trodAll_mk0))), rfl, bel.frame _, fun h => by cases h⟩

theorem over : Rows.metaTurnsRow.holds Try.pinned (OpenSpec.ofChange Rows.metaTurnsSpec) :=
  OpenClaim.holds_of_wide 14 Try.f14 rfl rfl rfl rfl rfl rfl rfl ⟨rfl, rfl, rfl, rfl, rfl⟩ rfl rfl rfl rfl rfl (by kernel_rfl) Try.func14 (by kernel_rfl)
    (of_decide_eq_true (by kernel_rfl)) (by unfold Func.isWrapper; first | (rw [if_pos (by decide +kernel)]; kernel_rfl) | (rw [if_neg (by decide +kernel)]; exact ⟨rfl, rfl⟩))
    (fun os started H enc _ => lifted os started H enc)
theorem proved : Rows.MetaTurnsSaid := over
#print axioms proved
end Go.Proofs.Ytggobapgdflchaa.metaTurns
namespace Go.Proofs.Ytggobapgdflchaa
/-- The row, under a short name, for the claim. -/
theorem metaTurns_holds : Rows.MetaTurnsSaid := metaTurns.proved
end Go.Proofs.Ytggobapgdflchaa

