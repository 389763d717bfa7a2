/- One call of the run: (*jigsaw/prune.Engine).one. -/
import Derived.Test.YtgdadhopmfpkcaaGreatDoorK14Tell
import Derived.Test.YtgdadhopmfpkcaaGreatDoorK14Heap0
import Derived.KernelRfl
import Derived.Test.YtgdadhopmfpkcaaGreatDoorProg
set_option linter.unusedVariables false
set_option linter.unusedSimpArgs false
namespace Go.Ev.K14
noncomputable def e1901 : Ent := ⟨13, [(vP 52 0), (vI 1)], [], h14, 1285, (vT [(vI 0), (vI 0)]), h14, 1503, []⟩
noncomputable def t1901 : Tab := ⟨Go.Proofs.Tryz.prog, sumOf told, memoOf [], maxLen⟩
theorem c1901 : e1901.check t1901 1000000 = true := by kernel_rfl
theorem s1901 : e1901.Sound t1901 := by
  refine Ent.sound_check (T := t1901) (e := e1901) (fuel := 1000000) enters mixed ⟨sums_ok (l := told) rfl told_ok, memo_ok (l := []) rfl fun e he => (by cases he)⟩ c1901
end Go.Ev.K14
