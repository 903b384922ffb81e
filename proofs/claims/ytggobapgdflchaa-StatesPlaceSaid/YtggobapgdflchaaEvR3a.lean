import Derived.Test.YtggobapgdflchaaEvR3Env
set_option linter.unusedVariables false
namespace Go.Ev.R3
open Go.Proofs
abbrev intsT : Ty := .sl (.int .i64)
abbrev pendT : Ty := .st (.pr (.int .i64) (.pr (.int .i64) (.int .i64)))
abbrev pendsT : Ty := .sl pendT
abbrev coordT : Ty := .st (.pr (.int .i8) (.pr (.int .i64) (.pr (.int .i64) (.pr (.int .i64) (.pr (.int .i64) (.pr intsT (.pr pendsT (.int .i64))))))))
abbrev Ints : Type := List Int
abbrev Pend : Type := Int × Int × Int
abbrev Pends : Type := List Pend
abbrev Coord : Type := Int × Int × Int × Int × Int × Ints × Pends × Int
def tops (n : Nat) : List AV := List.replicate n t0
end Go.Ev.R3
