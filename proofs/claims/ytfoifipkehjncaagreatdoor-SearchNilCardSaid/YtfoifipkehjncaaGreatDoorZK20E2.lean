/- Calls of the fixed run, each carried out once: the kernel reckons what comes back. -/
import Derived.Test.YtfoifipkehjncaaGreatDoorZK20Tell
import Derived.Test.YtfoifipkehjncaaGreatDoorZK20Heap0
import Derived.KernelRfl
import Derived.Test.YtfoifipkehjncaaGreatDoorProg
import Derived.Test.YtfoifipkehjncaaGreatDoorZK20E0
import Derived.Test.YtfoifipkehjncaaGreatDoorZK20E1
set_option linter.unusedVariables false
set_option linter.unusedSimpArgs false
namespace Go.Ev.K20
noncomputable def e2892 : Ent := ⟨150, [(vP 104 0), (vI 0)], [], h19, 2187, (vT [(vI 0), (vI 0)]), h19, 2405, []⟩
noncomputable def t2892 : Tab := ⟨Go.Proofs.Tryz.prog, sumOf told, memoOf [], maxLen⟩
theorem c2892 : e2892.check t2892 1000000 = true := by kernel_rfl
theorem s2892 : e2892.Sound t2892 := by
  refine Ent.sound_check (T := t2892) (e := e2892) (fuel := 1000000) enters mixed ⟨sums_ok (l := told) rfl told_ok, memo_ok (l := []) rfl fun e he => (by cases he)⟩ c2892
end Go.Ev.K20

set_option linter.unusedVariables false
set_option linter.unusedSimpArgs false
namespace Go.Ev.K20
noncomputable def e2342 : Ent := ⟨271, [(vP 1890 0)], [], h16, 1912, (vT []), h17, 2008, [1890, 1904]⟩
noncomputable def t2342 : Tab := ⟨Go.Proofs.Tryz.prog, sumOf told, memoOf [], maxLen⟩
theorem c2342 : e2342.check t2342 1000000 = true := by kernel_rfl
theorem s2342 : e2342.Sound t2342 := by
  refine Ent.sound_check (T := t2342) (e := e2342) (fuel := 1000000) enters mixed ⟨sums_ok (l := told) rfl told_ok, memo_ok (l := []) rfl fun e he => (by cases he)⟩ c2342
end Go.Ev.K20

set_option linter.unusedVariables false
set_option linter.unusedSimpArgs false
namespace Go.Ev.K20
noncomputable def e2568 : Ent := ⟨189, [(vA [(vS [105, 110, 116, 95, 108, 116]), (vM 173 0 2 2 2)]), (vM 1849 0 6 2 2)], [], h15, 1850, (vT [(vM 1904 0 6 2 2), (vI 1), (vI 0)]), h18, 2148, []⟩
noncomputable def t2568 : Tab := ⟨Go.Proofs.Tryz.prog, sumOf told, memoOf [e2342], maxLen⟩
theorem c2568 : e2568.check t2568 1000000 = true := by kernel_rfl
theorem s2568 : e2568.Sound t2568 := by
  refine Ent.sound_check (T := t2568) (e := e2568) (fuel := 1000000) enters mixed ⟨sums_ok (l := told) rfl told_ok, memo_ok (l := [e2342]) rfl fun e he => ?_⟩ c2568
  simp only [List.mem_cons, List.not_mem_nil, or_false] at he
  rcases he with rfl
  · exact s2342.of rfl rfl
end Go.Ev.K20

set_option linter.unusedVariables false
set_option linter.unusedSimpArgs false
namespace Go.Ev.K20
noncomputable def e2922 : Ent := ⟨61, [(vP 79 0), (vI 1000000000000), (vB false)], [], h1, 187, (vI 5), h20, 2437, [81, 101, 79, 78, 103, 104, 80, 186]⟩
noncomputable def t2922 : Tab := ⟨Go.Proofs.Tryz.prog, sumOf told, memoOf [e1694, e1313, e872, e2049, e2892, e2568], maxLen⟩
theorem c2922 : e2922.check t2922 1000000 = true := by kernel_rfl
theorem s2922 : e2922.Sound t2922 := by
  refine Ent.sound_check (T := t2922) (e := e2922) (fuel := 1000000) enters mixed ⟨sums_ok (l := told) rfl told_ok, memo_ok (l := [e1694, e1313, e872, e2049, e2892, e2568]) rfl fun e he => ?_⟩ c2922
  simp only [List.mem_cons, List.not_mem_nil, or_false] at he
  rcases he with rfl | rfl | rfl | rfl | rfl | rfl
  · exact s1694.of rfl rfl
  · exact s1313.of rfl rfl
  · exact s872.of rfl rfl
  · exact s2049.of rfl rfl
  · exact s2892.of rfl rfl
  · exact s2568.of rfl rfl
end Go.Ev.K20
