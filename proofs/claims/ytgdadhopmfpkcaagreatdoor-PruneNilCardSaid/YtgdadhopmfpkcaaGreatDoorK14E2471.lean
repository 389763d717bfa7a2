/- One call of the run: jigsaw/prune.Fix. -/
import Derived.Test.YtgdadhopmfpkcaaGreatDoorK14Tell
import Derived.Test.YtgdadhopmfpkcaaGreatDoorK14Heap0
import Derived.KernelRfl
import Derived.Test.YtgdadhopmfpkcaaGreatDoorProg
set_option linter.unusedVariables false
set_option linter.unusedSimpArgs false
namespace Go.Ev.K14
noncomputable def e2471 : Ent := ⟨18, [(vL 1747 0 2 2), (vM 1753 0 6 2 2)], [], h17, 1754, (vT [vZ, (vI 2), (vI 0)]), h17, 2060, []⟩
noncomputable def t2471 : Tab := ⟨Go.Proofs.Tryz.prog, sumOf told, memoOf [], maxLen⟩
theorem c2471 : e2471.check t2471 1000000 = true := by kernel_rfl
theorem s2471 : e2471.Sound t2471 := by
  refine Ent.sound_check (T := t2471) (e := e2471) (fuel := 1000000) enters mixed ⟨sums_ok (l := told) rfl told_ok, memo_ok (l := []) rfl fun e he => (by cases he)⟩ c2471
end Go.Ev.K14
