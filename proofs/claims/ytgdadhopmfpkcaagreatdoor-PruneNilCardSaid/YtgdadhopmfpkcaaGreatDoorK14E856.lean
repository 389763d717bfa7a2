/- One call of the run: jigsaw/linear.tighten. -/
import Derived.Test.YtgdadhopmfpkcaaGreatDoorK14Tell
import Derived.Test.YtgdadhopmfpkcaaGreatDoorK14Heap0
import Derived.KernelRfl
import Derived.Test.YtgdadhopmfpkcaaGreatDoorProg
set_option linter.unusedVariables false
set_option linter.unusedSimpArgs false
namespace Go.Ev.K14
noncomputable def e856 : Ent := ⟨132, [(vP 632 0)], [], h7, 654, (vT []), h8, 750, [632, 646]⟩
noncomputable def t856 : Tab := ⟨Go.Proofs.Tryz.prog, sumOf told, memoOf [], maxLen⟩
theorem c856 : e856.check t856 1000000 = true := by kernel_rfl
theorem s856 : e856.Sound t856 := by
  refine Ent.sound_check (T := t856) (e := e856) (fuel := 1000000) enters mixed ⟨sums_ok (l := told) rfl told_ok, memo_ok (l := []) rfl fun e he => (by cases he)⟩ c856
end Go.Ev.K14
