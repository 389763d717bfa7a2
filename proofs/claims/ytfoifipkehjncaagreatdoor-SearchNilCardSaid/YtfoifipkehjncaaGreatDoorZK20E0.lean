/- Calls of the fixed run, each carried out once: the kernel reckons what comes back. -/
import Derived.Test.YtfoifipkehjncaaGreatDoorZK20Tell
import Derived.Test.YtfoifipkehjncaaGreatDoorZK20Heap0
import Derived.KernelRfl
import Derived.Test.YtfoifipkehjncaaGreatDoorProg
set_option linter.unusedVariables false
set_option linter.unusedSimpArgs false
namespace Go.Ev.K20
noncomputable def e1693 : Ent := ⟨95, [(vP 79 0)], [], h10, 1228, (vI 0), h11, 1448, [103, 104, 838, 79]⟩
noncomputable def t1693 : Tab := ⟨Go.Proofs.Tryz.prog, sumOf told, memoOf [], maxLen⟩
theorem c1693 : e1693.check t1693 1000000 = true := by kernel_rfl
theorem s1693 : e1693.Sound t1693 := by
  refine Ent.sound_check (T := t1693) (e := e1693) (fuel := 1000000) enters mixed ⟨sums_ok (l := told) rfl told_ok, memo_ok (l := []) rfl fun e he => (by cases he)⟩ c1693
end Go.Ev.K20

set_option linter.unusedVariables false
set_option linter.unusedSimpArgs false
namespace Go.Ev.K20
noncomputable def e1694 : Ent := ⟨96, [(vP 79 0), (vB false)], [], h9, 1127, (vI 0), h12, 1448, [103, 104, 838, 79, 80, 101, 81, 830, 795, 792]⟩
noncomputable def t1694 : Tab := ⟨Go.Proofs.Tryz.prog, sumOf told, memoOf [e1693], maxLen⟩
theorem c1694 : e1694.check t1694 1000000 = true := by kernel_rfl
theorem s1694 : e1694.Sound t1694 := by
  refine Ent.sound_check (T := t1694) (e := e1694) (fuel := 1000000) enters mixed ⟨sums_ok (l := told) rfl told_ok, memo_ok (l := [e1693]) rfl fun e he => ?_⟩ c1694
  simp only [List.mem_cons, List.not_mem_nil, or_false] at he
  rcases he with rfl
  · exact s1693.of rfl rfl
end Go.Ev.K20

set_option linter.unusedVariables false
set_option linter.unusedSimpArgs false
namespace Go.Ev.K20
noncomputable def e1306 : Ent := ⟨189, [(vA [(vS [105, 110, 116, 95, 108, 116]), (vM 173 0 2 2 2)]), (vM 854 0 6 2 2)], [], h8, 855, (vT [(vM 909 0 6 2 2), (vI 0), (vI 0)]), h8, 1127, []⟩
noncomputable def t1306 : Tab := ⟨Go.Proofs.Tryz.prog, sumOf told, memoOf [], maxLen⟩
theorem c1306 : e1306.check t1306 1000000 = true := by kernel_rfl
theorem s1306 : e1306.Sound t1306 := by
  refine Ent.sound_check (T := t1306) (e := e1306) (fuel := 1000000) enters mixed ⟨sums_ok (l := told) rfl told_ok, memo_ok (l := []) rfl fun e he => (by cases he)⟩ c1306
end Go.Ev.K20

set_option linter.unusedVariables false
set_option linter.unusedSimpArgs false
namespace Go.Ev.K20
noncomputable def e1313 : Ent := ⟨96, [(vP 79 0), (vB false)], [], h7, 735, (vI 0), h9, 1127, [103, 104, 510, 79, 80, 101, 81, 527, 188]⟩
noncomputable def t1313 : Tab := ⟨Go.Proofs.Tryz.prog, sumOf told, memoOf [e1306], maxLen⟩
theorem c1313 : e1313.check t1313 1000000 = true := by kernel_rfl
theorem s1313 : e1313.Sound t1313 := by
  refine Ent.sound_check (T := t1313) (e := e1313) (fuel := 1000000) enters mixed ⟨sums_ok (l := told) rfl told_ok, memo_ok (l := [e1306]) rfl fun e he => ?_⟩ c1313
  simp only [List.mem_cons, List.not_mem_nil, or_false] at he
  rcases he with rfl
  · exact s1306.of rfl rfl
end Go.Ev.K20
