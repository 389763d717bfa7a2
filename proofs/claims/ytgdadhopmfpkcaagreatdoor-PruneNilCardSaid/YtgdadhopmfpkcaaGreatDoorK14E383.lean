/- One call of the run: jigsaw/linear.tighten. -/
import Derived.Test.YtgdadhopmfpkcaaGreatDoorK14Tell
import Derived.Test.YtgdadhopmfpkcaaGreatDoorK14Heap0
import Derived.KernelRfl
import Derived.Test.YtgdadhopmfpkcaaGreatDoorProg
set_option linter.unusedVariables false
set_option linter.unusedSimpArgs false
namespace Go.Ev.K14
noncomputable def e383 : Ent := ⟨132, [(vP 291 0)], [], h3, 313, (vT []), h4, 409, [291, 305]⟩
noncomputable def t383 : Tab := ⟨Go.Proofs.Tryz.prog, sumOf told, memoOf [], maxLen⟩
theorem c383 : e383.check t383 1000000 = true := by kernel_rfl
theorem s383 : e383.Sound t383 := by
  refine Ent.sound_check (T := t383) (e := e383) (fuel := 1000000) enters mixed ⟨sums_ok (l := told) rfl told_ok, memo_ok (l := []) rfl fun e he => (by cases he)⟩ c383
end Go.Ev.K14
