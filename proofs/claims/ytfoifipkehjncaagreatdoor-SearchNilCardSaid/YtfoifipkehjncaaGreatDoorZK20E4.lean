/- Calls of the fixed run, each carried out once: the kernel reckons what comes back. -/
import Derived.Test.YtfoifipkehjncaaGreatDoorZK20Tell
import Derived.Test.YtfoifipkehjncaaGreatDoorZK20Heap1
import Derived.KernelRfl
import Derived.Test.YtfoifipkehjncaaGreatDoorProg
import Derived.Test.YtfoifipkehjncaaGreatDoorZK20Heap0
set_option linter.unusedVariables false
set_option linter.unusedSimpArgs false
namespace Go.Ev.K20
noncomputable def e4231 : Ent := ⟨189, [(vA [(vS [105, 110, 116, 95, 108, 116]), (vM 2602 0 2 2 2)]), (vM 3283 0 6 2 2)], [], m28, 3284, (vT [(vM 3338 0 6 2 2), (vI 0), (vI 0)]), m28, 3556, []⟩
noncomputable def t4231 : Tab := ⟨Go.Proofs.Tryz.prog, sumOf told, memoOf [], maxLen⟩
theorem c4231 : e4231.check t4231 1000000 = true := by kernel_rfl
theorem s4231 : e4231.Sound t4231 := by
  refine Ent.sound_check (T := t4231) (e := e4231) (fuel := 1000000) enters mixed ⟨sums_ok (l := told) rfl told_ok, memo_ok (l := []) rfl fun e he => (by cases he)⟩ c4231
end Go.Ev.K20

set_option linter.unusedVariables false
set_option linter.unusedSimpArgs false
namespace Go.Ev.K20
noncomputable def e4238 : Ent := ⟨96, [(vP 2508 0), (vB false)], [], m27, 3164, (vI 0), m29, 3556, [2532, 2533, 2939, 2508, 2509, 2530, 2510, 2956, 2617]⟩
noncomputable def t4238 : Tab := ⟨Go.Proofs.Tryz.prog, sumOf told, memoOf [e4231], maxLen⟩
theorem c4238 : e4238.check t4238 1000000 = true := by kernel_rfl
theorem s4238 : e4238.Sound t4238 := by
  refine Ent.sound_check (T := t4238) (e := e4238) (fuel := 1000000) enters mixed ⟨sums_ok (l := told) rfl told_ok, memo_ok (l := [e4231]) rfl fun e he => ?_⟩ c4238
  simp only [List.mem_cons, List.not_mem_nil, or_false] at he
  rcases he with rfl
  · exact s4231.of rfl rfl
end Go.Ev.K20

set_option linter.unusedVariables false
set_option linter.unusedSimpArgs false
namespace Go.Ev.K20
noncomputable def e3282 : Ent := ⟨271, [(vP 2674 0)], [], h24, 2696, (vT []), h25, 2792, [2674, 2688]⟩
noncomputable def t3282 : Tab := ⟨Go.Proofs.Tryz.prog, sumOf told, memoOf [], maxLen⟩
theorem c3282 : e3282.check t3282 1000000 = true := by kernel_rfl
theorem s3282 : e3282.Sound t3282 := by
  refine Ent.sound_check (T := t3282) (e := e3282) (fuel := 1000000) enters mixed ⟨sums_ok (l := told) rfl told_ok, memo_ok (l := []) rfl fun e he => (by cases he)⟩ c3282
end Go.Ev.K20

set_option linter.unusedVariables false
set_option linter.unusedSimpArgs false
namespace Go.Ev.K20
noncomputable def e3523 : Ent := ⟨150, [(vP 2533 0), (vI 0)], [], h23, 2618, (vT [(vI 1), (vI 0)]), h26, 2963, [2509, 2530, 2510, 2533, 2615, 2532]⟩
noncomputable def t3523 : Tab := ⟨Go.Proofs.Tryz.prog, sumOf told, memoOf [e3282], maxLen⟩
theorem c3523 : e3523.check t3523 1000000 = true := by kernel_rfl
theorem s3523 : e3523.Sound t3523 := by
  refine Ent.sound_check (T := t3523) (e := e3523) (fuel := 1000000) enters mixed ⟨sums_ok (l := told) rfl told_ok, memo_ok (l := [e3282]) rfl fun e he => ?_⟩ c3523
  simp only [List.mem_cons, List.not_mem_nil, or_false] at he
  rcases he with rfl
  · exact s3282.of rfl rfl
end Go.Ev.K20
