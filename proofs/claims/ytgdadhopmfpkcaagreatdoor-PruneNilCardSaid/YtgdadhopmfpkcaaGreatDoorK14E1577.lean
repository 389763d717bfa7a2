/- One call of the run: jigsaw/prune.Prune. -/
import Derived.Test.YtgdadhopmfpkcaaGreatDoorK14Tell
import Derived.Test.YtgdadhopmfpkcaaGreatDoorK14Heap0
import Derived.KernelRfl
import Derived.Test.YtgdadhopmfpkcaaGreatDoorProg
import Derived.Test.YtgdadhopmfpkcaaGreatDoorK14E1351
set_option linter.unusedVariables false
set_option linter.unusedSimpArgs false
namespace Go.Ev.K14
noncomputable def e1577 : Ent := ⟨25, [(vA [(vS [105, 110, 116, 95, 108, 116]), (vM 130 0 2 2 2)]), (vM 949 0 6 2 2)], [], h10, 950, (vT [(vM 1004 0 6 2 2), (vI 1), (vI 0)]), h13, 1248, []⟩
noncomputable def t1577 : Tab := ⟨Go.Proofs.Tryz.prog, sumOf told, memoOf [e1351], maxLen⟩
theorem c1577 : e1577.check t1577 1000000 = true := by kernel_rfl
theorem s1577 : e1577.Sound t1577 := by
  refine Ent.sound_check (T := t1577) (e := e1577) (fuel := 1000000) enters mixed ⟨sums_ok (l := told) rfl told_ok, memo_ok (l := [e1351]) rfl fun e he => ?_⟩ c1577
  simp only [List.mem_cons, List.not_mem_nil, or_false] at he
  rcases he with rfl
  · exact s1351.of rfl rfl
end Go.Ev.K14
