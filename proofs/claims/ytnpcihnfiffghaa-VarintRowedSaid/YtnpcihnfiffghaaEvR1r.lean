import Derived.Test.YtnpcihnfiffghaaEvR1i
import Derived.Test.YtnpcihnfiffghaaEvRow
set_option linter.unusedVariables false
namespace Go.Ev.R1
theorem bytes_of {l : List Int} (h : Rng bytesT l) : Bytes l := by
  intro y hy
  have h2 : (Lit.int .u8 y).wf = true := h.2 y hy
  have e1 : IntKind.u8.min = 0 := rfl
  have e2 : IntKind.u8.max = 255 := rfl
  simp [Lit.wf, e1, e2] at h2
  omega
end Go.Ev.R1
