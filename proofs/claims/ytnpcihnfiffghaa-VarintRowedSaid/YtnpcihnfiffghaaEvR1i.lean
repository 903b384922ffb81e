import Derived.Test.YtnpcihnfiffghaaEvR1h
set_option linter.unusedVariables false
set_option maxRecDepth 100000
namespace Go.Ev.R1
open Go.Proofs

open Classical in
noncomputable def backG (x : List Int × List Int × Int) : Option Bool := if Bytes x.1 ∧ Bytes x.2.1 then some true else none
noncomputable def backC : Ctr := ⟨4, .pr bytesT (.pr bytesT (.int .i64)), .bool, backG⟩
theorem fn4 : FnsOK Try.prog [(4, Try.f4)] := ⟨⟨Try.func4, by decide⟩, trivial⟩
theorem env4 {f : Nat} {fn : Func} (h : FnsOK Try.prog [(f, fn)]) : EnvOK Try.prog (mk [cPut 10 putG, cGet 12 getG, cLen 14 gl, cWk gw] [(f, fn)] 0) :=
  base.env (⟨putC_ok, getC_ok, lenC_ok, wakesC_ok, trivial⟩ : CtrsOK Try.prog [putC, getC, lenC, wakesC]) h
theorem backC_ok : CtrAll Try.prog backC := by
  refine ctr_of mixed ⟨Try.f4, Try.func4, by decide, rfl⟩ rfl rfl ?_
  rintro ⟨b, c, n⟩ y h
  refine ⟨_, 1, env4 fn4, ?_⟩
  have h : backG (b, c, n) = some y := h
  unfold backG at h
  split at h
  · rename_i hb
    exact (back_spec b c n hb.1 hb.2).trans h
  · cases h

open Classical in
noncomputable def onlyG (x : List Int × Int) : Option Bool := if Bytes x.1 then some true else none
noncomputable def onlyC : Ctr := ⟨5, .pr bytesT (.int .i64), .bool, onlyG⟩
theorem fn5 : FnsOK Try.prog [(5, Try.f5)] := ⟨⟨Try.func5, by decide⟩, trivial⟩
theorem onlyC_ok : CtrAll Try.prog onlyC := by
  refine ctr_of mixed ⟨Try.f5, Try.func5, by decide, rfl⟩ rfl rfl ?_
  rintro ⟨b, n⟩ y h
  refine ⟨_, 1, env4 fn5, ?_⟩
  have h : onlyG (b, n) = some y := h
  unfold onlyG at h
  split at h
  · rename_i hb
    exact (only_spec b n hb).trans h
  · cases h

def shortC : Ctr := ⟨6, .pr (.int .i64) (.int .i64), .bool, fun _ => some true⟩
theorem fn6 : FnsOK Try.prog [(6, Try.f6)] := ⟨⟨Try.func6, by decide⟩, trivial⟩
theorem shortC_ok : CtrAll Try.prog shortC := by
  refine ctr_of mixed ⟨Try.f6, Try.func6, by decide, rfl⟩ rfl rfl ?_
  rintro ⟨n, m⟩ y h
  refine ⟨_, 1, env4 fn6, ?_⟩
  exact (short_spec n m).trans h
end Go.Ev.R1
