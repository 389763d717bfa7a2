/- One call of the run: (*jigsaw/prune.Engine).one. -/
import Derived.Test.YtgdadhopmfpkcaaGreatDoorK14Tell
import Derived.Test.YtgdadhopmfpkcaaGreatDoorK14Heap0
import Derived.KernelRfl
import Derived.Test.YtgdadhopmfpkcaaGreatDoorProg
import Derived.Test.YtgdadhopmfpkcaaGreatDoorK14E383
set_option linter.unusedVariables false
set_option linter.unusedSimpArgs false
namespace Go.Ev.K14
noncomputable def e625 : Ent := ⟨13, [(vP 52 0), (vI 0)], [], h2, 235, (vT [(vI 1), (vI 0)]), h5, 576, [18, 49, 52, 234, 51]⟩
noncomputable def t625 : Tab := ⟨Go.Proofs.Tryz.prog, sumOf told, memoOf [e383], maxLen⟩
theorem c625 : e625.check t625 1000000 = true := by kernel_rfl
theorem s625 : e625.Sound t625 := by
  refine Ent.sound_check (T := t625) (e := e625) (fuel := 1000000) enters mixed ⟨sums_ok (l := told) rfl told_ok, memo_ok (l := [e383]) rfl fun e he => ?_⟩ c625
  simp only [List.mem_cons, List.not_mem_nil, or_false] at he
  rcases he with rfl
  · exact s383.of rfl rfl
end Go.Ev.K14
