import Derived.Test.YtggobapgdflchaaEvRow
import Derived.Test.YtggobapgdflchaaEvR3q
set_option linter.unusedVariables false
namespace Go.Ev.R3
open Go.Proofs
theorem i8_of {c : Coord} (h : Rng coordT c) : -128 ≤ c.1 ∧ c.1 ≤ 127 := by
  have h2 : (Lit.int .i8 c.1).wf = true := h.1
  have e1 : IntKind.i8.min = -128 := rfl
  have e2 : IntKind.i8.max = 127 := rfl
  simp [Lit.wf, e1, e2] at h2
  omega
end Go.Ev.R3
