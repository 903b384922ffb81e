/- 'rovinglaw20.MetaOffsets' is true for every input: no condition. -/
import Derived.Test.YtggobapgdflchaaEvS20
import Derived.Test.YtggobapgdflchaaEvB2
import Derived.Test.YtggobapgdflchaaRows

set_option linter.unusedVariables false
namespace Go.Proofs.Ytggobapgdflchaa.metaOffsets
open Go.ChangeShapes Go.WideShapes Go.ChangeAt Go.RowKit
open Go.ChangeMaps (open_string shut_string)
open Go.Ev Go.Ev.R3

theorem own : ownKnob Try.prog.godebug = none := by kernel_rfl
theorem laidOut : laidOutB Try.prog = true := by kernel_rfl
theorem tyOK : ∀ T t, (mk [] [] 0).ty T = some t → TyOK Try.prog (mk [] [] 0) T t := (base.env (ctr := []) (fns := []) (ann := ann) (k := 0) trivial trivial).tys

theorem walk (x0 : Go.Ev.R3.Metas) (W : World) (v0 : Value) (h0 : Ev.R (I0 W) W [] (metasT) false x0 [v0]) (g0 : Rng (metasT) x0) :
    Calls Try.prog 13 #[v0] W fun e W' => e = .returned (.bool true) ∧ Below W.heap.size W W' := by
  have hc := (metaOffsetsC_ok.1.calls (I0 W) W (x0 : Go.Ev.R3.Metas) [v0] true (fun _ _ h => h)
    h0 (if_pos (i8L_of g0)))
  refine hc.mono ?_
  rintro e W' ⟨u, rfl, hu, hbel⟩
  have hu : u = .bool true := bool_of_R hu
  subst hu
  exact ⟨rfl, hbel⟩

set_option maxRecDepth 100000 in
theorem lifted (os : Os) (started : os.Started) (H : Type) (enc : TypeId × Value → H) :
    ReturnsInHanded {} Try.checked os 13 .any (Rows.metaOffsetsSpec.pre6 enc Try.prog Try.f13 Rows.metaOffsetsRow.domain false) (Rows.metaOffsetsSpec.post enc Try.prog Try.f13 false true false false) := by
  refine returnsInHanded_of_change_sized (C := Try.checked) own started (by kernel_rfl) Try.func13
    (ChangeSpec.witness6 (enc := enc) (C := Try.checked) false ⟨#[], #[.slice none 0 0], []⟩ 8 (by kernel_rfl) (by kernel_rfl) (by kernel_rfl) (by kernel_rfl)) ?_
  intro W base args ds gs before hval0 hW hcnd hsz0 _
  have hval : ∀ (j : Nat) t v, Try.f13.params[j]? = some t → args[j]? = some v → Value.okWide Try.prog W .any base t v := hval0
  have hW' := hW
  obtain ⟨p, q, hA0, hV, rfl, hfz, hnd⟩ := hW
  have hA : DataW.TrodAll enc Try.prog W 0 (fun _ => true) true Try.f13.params.toList args.toList ds p := hA0
  rw [Try.params13] at hA hval
  obtain ⟨v0, vs0, d0, ds0, p0, q0, hargs, rfl, rfl, h0, r0⟩ := trodAll_cons hA
  obtain ⟨rfl, rfl, rfl⟩ := trodAll_nil r0
  obtain rfl : args = #[v0] := by cases args; simp_all
  obtain ⟨rfl, rfl⟩ := trodVars_none hV
  have lt0 : ∀ x ∈ p0, x.block < W.heap.size := by obtain ⟨m, hm⟩ := h0; exact DataW.trod_lt m _ _ _ hm
  obtain ⟨x0, y0, g0⟩ := arg_R tyOK (T := 67) (t := metasT) rfl rfl (hval 0 67 v0 rfl rfl) h0
  clear hA0 hval0 hsz0
  refine (walk x0 W v0 y0 g0).mono fun e W' ⟨he, bel⟩ => ?_
  subst he
  exact ⟨_, rfl, _, _, _, [], _, [], hW', trodAll_mk1 (shut_bool Try.underlying4 _), (trodAll_cons_mk (Below.trod laidOut (by kernel_rfl) (of_decide_eq_true (by kernel_rfl)) h0 bel lt0) trodAll_mk0), rfl, bel.frame _, fun h => by cases h⟩

theorem over : Rows.metaOffsetsRow.holds Try.pinned (OpenSpec.ofChange Rows.metaOffsetsSpec) :=
  OpenClaim.holds_of_wide 13 Try.f13 rfl rfl rfl rfl rfl rfl rfl ⟨rfl, rfl, rfl, rfl, rfl⟩ rfl rfl rfl rfl rfl (by kernel_rfl) Try.func13 (by kernel_rfl)
    (of_decide_eq_true (by kernel_rfl)) (by unfold Func.isWrapper; first | (rw [if_pos (by decide +kernel)]; kernel_rfl) | (rw [if_neg (by decide +kernel)]; exact ⟨rfl, rfl⟩))
    (fun os started H enc _ => lifted os started H enc)
theorem proved : Rows.MetaOffsetsSaid := over
#print axioms proved
end Go.Proofs.Ytggobapgdflchaa.metaOffsets
namespace Go.Proofs.Ytggobapgdflchaa
/-- The row, under a short name, for the claim. -/
theorem metaOffsets_holds : Rows.MetaOffsetsSaid := metaOffsets.proved
end Go.Proofs.Ytggobapgdflchaa

