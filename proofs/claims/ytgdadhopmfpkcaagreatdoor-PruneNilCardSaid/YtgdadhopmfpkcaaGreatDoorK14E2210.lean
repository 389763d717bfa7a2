/- One call of the run: jigsaw/prune.Fix. -/
import Derived.Test.YtgdadhopmfpkcaaGreatDoorK14Tell
import Derived.Test.YtgdadhopmfpkcaaGreatDoorK14Heap0
import Derived.KernelRfl
import Derived.Test.YtgdadhopmfpkcaaGreatDoorProg
import Derived.Test.YtgdadhopmfpkcaaGreatDoorK14E1901
import Derived.Test.YtgdadhopmfpkcaaGreatDoorK14E2192
import Derived.Test.YtgdadhopmfpkcaaGreatDoorK14E625
import Derived.Test.YtgdadhopmfpkcaaGreatDoorK14E1082
import Derived.Test.YtgdadhopmfpkcaaGreatDoorK14E1577
set_option linter.unusedVariables false
set_option linter.unusedSimpArgs false
namespace Go.Ev.K14
noncomputable def e2210 : Ent := ⟨18, [(vL 8 0 2 2), (vM 17 0 6 3 3)], [], h1, 18, (vT [(vL 1738 0 3 3), (vI 1), (vI 0)]), h16, 1739, []⟩
noncomputable def t2210 : Tab := ⟨Go.Proofs.Tryz.prog, sumOf told, memoOf [e1901, e2192, e625, e1082, e1577], maxLen⟩
theorem c2210 : e2210.check t2210 1000000 = true := by kernel_rfl
theorem s2210 : e2210.Sound t2210 := by
  refine Ent.sound_check (T := t2210) (e := e2210) (fuel := 1000000) enters mixed ⟨sums_ok (l := told) rfl told_ok, memo_ok (l := [e1901, e2192, e625, e1082, e1577]) rfl fun e he => ?_⟩ c2210
  simp only [List.mem_cons, List.not_mem_nil, or_false] at he
  rcases he with rfl | rfl | rfl | rfl | rfl
  · exact s1901.of rfl rfl
  · exact s2192.of rfl rfl
  · exact s625.of rfl rfl
  · exact s1082.of rfl rfl
  · exact s1577.of rfl rfl
end Go.Ev.K14
