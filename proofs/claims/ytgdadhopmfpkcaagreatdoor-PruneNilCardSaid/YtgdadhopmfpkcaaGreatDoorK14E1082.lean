/- One call of the run: jigsaw/prune.Prune. -/
import Derived.Test.YtgdadhopmfpkcaaGreatDoorK14Tell
import Derived.Test.YtgdadhopmfpkcaaGreatDoorK14Heap0
import Derived.KernelRfl
import Derived.Test.YtgdadhopmfpkcaaGreatDoorProg
import Derived.Test.YtgdadhopmfpkcaaGreatDoorK14E856
set_option linter.unusedVariables false
set_option linter.unusedSimpArgs false
namespace Go.Ev.K14
noncomputable def e1082 : Ent := ⟨25, [(vA [(vS [105, 110, 116, 95, 108, 116]), (vM 221 0 2 2 2)]), (vM 591 0 6 2 2)], [], h6, 592, (vT [(vM 646 0 6 2 2), (vI 1), (vI 0)]), h9, 890, []⟩
noncomputable def t1082 : Tab := ⟨Go.Proofs.Tryz.prog, sumOf told, memoOf [e856], maxLen⟩
theorem c1082 : e1082.check t1082 1000000 = true := by kernel_rfl
theorem s1082 : e1082.Sound t1082 := by
  refine Ent.sound_check (T := t1082) (e := e1082) (fuel := 1000000) enters mixed ⟨sums_ok (l := told) rfl told_ok, memo_ok (l := [e856]) rfl fun e he => ?_⟩ c1082
  simp only [List.mem_cons, List.not_mem_nil, or_false] at he
  rcases he with rfl
  · exact s856.of rfl rfl
end Go.Ev.K14
