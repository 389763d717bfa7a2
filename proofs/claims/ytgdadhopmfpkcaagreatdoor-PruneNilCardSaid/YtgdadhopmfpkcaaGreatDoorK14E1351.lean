/- One call of the run: jigsaw/linear.tighten. -/
import Derived.Test.YtgdadhopmfpkcaaGreatDoorK14Tell
import Derived.Test.YtgdadhopmfpkcaaGreatDoorK14Heap0
import Derived.KernelRfl
import Derived.Test.YtgdadhopmfpkcaaGreatDoorProg
set_option linter.unusedVariables false
set_option linter.unusedSimpArgs false
namespace Go.Ev.K14
noncomputable def e1351 : Ent := ⟨132, [(vP 990 0)], [], h11, 1012, (vT []), h12, 1108, [990, 1004]⟩
noncomputable def t1351 : Tab := ⟨Go.Proofs.Tryz.prog, sumOf told, memoOf [], maxLen⟩
theorem c1351 : e1351.check t1351 1000000 = true := by kernel_rfl
theorem s1351 : e1351.Sound t1351 := by
  refine Ent.sound_check (T := t1351) (e := e1351) (fuel := 1000000) enters mixed ⟨sums_ok (l := told) rfl told_ok, memo_ok (l := []) rfl fun e he => (by cases he)⟩ c1351
end Go.Ev.K14
