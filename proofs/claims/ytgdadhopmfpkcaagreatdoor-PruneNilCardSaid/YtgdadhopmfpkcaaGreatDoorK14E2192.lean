/- One call of the run: (*jigsaw/prune.Engine).one. -/
import Derived.Test.YtgdadhopmfpkcaaGreatDoorK14Tell
import Derived.Test.YtgdadhopmfpkcaaGreatDoorK14Heap0
import Derived.KernelRfl
import Derived.Test.YtgdadhopmfpkcaaGreatDoorProg
set_option linter.unusedVariables false
set_option linter.unusedSimpArgs false
namespace Go.Ev.K14
noncomputable def e2192 : Ent := ⟨13, [(vP 52 0), (vI 0)], [], h15, 1503, (vT [(vI 0), (vI 0)]), h15, 1721, []⟩
noncomputable def t2192 : Tab := ⟨Go.Proofs.Tryz.prog, sumOf told, memoOf [], maxLen⟩
theorem c2192 : e2192.check t2192 1000000 = true := by kernel_rfl
theorem s2192 : e2192.Sound t2192 := by
  refine Ent.sound_check (T := t2192) (e := e2192) (fuel := 1000000) enters mixed ⟨sums_ok (l := told) rfl told_ok, memo_ok (l := []) rfl fun e he => (by cases he)⟩ c2192
end Go.Ev.K14
