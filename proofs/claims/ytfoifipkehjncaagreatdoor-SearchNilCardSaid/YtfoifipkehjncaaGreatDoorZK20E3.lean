/- Calls of the fixed run, each carried out once: the kernel reckons what comes back. -/
import Derived.Test.YtfoifipkehjncaaGreatDoorZK20Tell
import Derived.Test.YtfoifipkehjncaaGreatDoorZK20Heap1
import Derived.KernelRfl
import Derived.Test.YtfoifipkehjncaaGreatDoorProg
set_option linter.unusedVariables false
set_option linter.unusedSimpArgs false
namespace Go.Ev.K20
noncomputable def e5536 : Ent := ⟨150, [(vP 2533 0), (vI 0)], [], m37, 4411, (vT [(vI 0), (vI 0)]), m37, 4629, []⟩
noncomputable def t5536 : Tab := ⟨Go.Proofs.Tryz.prog, sumOf told, memoOf [], maxLen⟩
theorem c5536 : e5536.check t5536 1000000 = true := by kernel_rfl
theorem s5536 : e5536.Sound t5536 := by
  refine Ent.sound_check (T := t5536) (e := e5536) (fuel := 1000000) enters mixed ⟨sums_ok (l := told) rfl told_ok, memo_ok (l := []) rfl fun e he => (by cases he)⟩ c5536
end Go.Ev.K20

set_option linter.unusedVariables false
set_option linter.unusedSimpArgs false
namespace Go.Ev.K20
noncomputable def e4986 : Ent := ⟨271, [(vP 4114 0)], [], m34, 4136, (vT []), m35, 4232, [4114, 4128]⟩
noncomputable def t4986 : Tab := ⟨Go.Proofs.Tryz.prog, sumOf told, memoOf [], maxLen⟩
theorem c4986 : e4986.check t4986 1000000 = true := by kernel_rfl
theorem s4986 : e4986.Sound t4986 := by
  refine Ent.sound_check (T := t4986) (e := e4986) (fuel := 1000000) enters mixed ⟨sums_ok (l := told) rfl told_ok, memo_ok (l := []) rfl fun e he => (by cases he)⟩ c4986
end Go.Ev.K20

set_option linter.unusedVariables false
set_option linter.unusedSimpArgs false
namespace Go.Ev.K20
noncomputable def e5212 : Ent := ⟨189, [(vA [(vS [105, 110, 116, 95, 108, 116]), (vM 2602 0 2 2 2)]), (vM 4073 0 6 2 2)], [], m33, 4074, (vT [(vM 4128 0 6 2 2), (vI 1), (vI 0)]), m36, 4372, []⟩
noncomputable def t5212 : Tab := ⟨Go.Proofs.Tryz.prog, sumOf told, memoOf [e4986], maxLen⟩
theorem c5212 : e5212.check t5212 1000000 = true := by kernel_rfl
theorem s5212 : e5212.Sound t5212 := by
  refine Ent.sound_check (T := t5212) (e := e5212) (fuel := 1000000) enters mixed ⟨sums_ok (l := told) rfl told_ok, memo_ok (l := [e4986]) rfl fun e he => ?_⟩ c5212
  simp only [List.mem_cons, List.not_mem_nil, or_false] at he
  rcases he with rfl
  · exact s4986.of rfl rfl
end Go.Ev.K20

set_option linter.unusedVariables false
set_option linter.unusedSimpArgs false
namespace Go.Ev.K20
noncomputable def e5541 : Ent := ⟨95, [(vP 2508 0)], [], m32, 4039, (vI 0), m38, 4629, [2532, 2533, 3983, 2530, 2510, 4032, 3658, 2508]⟩
noncomputable def t5541 : Tab := ⟨Go.Proofs.Tryz.prog, sumOf told, memoOf [e5536, e5212], maxLen⟩
theorem c5541 : e5541.check t5541 1000000 = true := by kernel_rfl
theorem s5541 : e5541.Sound t5541 := by
  refine Ent.sound_check (T := t5541) (e := e5541) (fuel := 1000000) enters mixed ⟨sums_ok (l := told) rfl told_ok, memo_ok (l := [e5536, e5212]) rfl fun e he => ?_⟩ c5541
  simp only [List.mem_cons, List.not_mem_nil, or_false] at he
  rcases he with rfl | rfl
  · exact s5536.of rfl rfl
  · exact s5212.of rfl rfl
end Go.Ev.K20
