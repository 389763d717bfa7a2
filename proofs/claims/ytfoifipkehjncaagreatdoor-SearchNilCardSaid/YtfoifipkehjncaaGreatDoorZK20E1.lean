/- Calls of the fixed run, each carried out once: the kernel reckons what comes back. -/
import Derived.Test.YtfoifipkehjncaaGreatDoorZK20Tell
import Derived.Test.YtfoifipkehjncaaGreatDoorZK20Heap0
import Derived.KernelRfl
import Derived.Test.YtfoifipkehjncaaGreatDoorProg
set_option linter.unusedVariables false
set_option linter.unusedSimpArgs false
namespace Go.Ev.K20
noncomputable def e357 : Ent := ⟨271, [(vP 245 0)], [], h4, 267, (vT []), h5, 363, [245, 259]⟩
noncomputable def t357 : Tab := ⟨Go.Proofs.Tryz.prog, sumOf told, memoOf [], maxLen⟩
theorem c357 : e357.check t357 1000000 = true := by kernel_rfl
theorem s357 : e357.Sound t357 := by
  refine Ent.sound_check (T := t357) (e := e357) (fuel := 1000000) enters mixed ⟨sums_ok (l := told) rfl told_ok, memo_ok (l := []) rfl fun e he => (by cases he)⟩ c357
end Go.Ev.K20

set_option linter.unusedVariables false
set_option linter.unusedSimpArgs false
namespace Go.Ev.K20
noncomputable def e598 : Ent := ⟨150, [(vP 104 0), (vI 0)], [], h3, 189, (vT [(vI 1), (vI 0)]), h6, 534, [80, 101, 81, 104, 186, 103]⟩
noncomputable def t598 : Tab := ⟨Go.Proofs.Tryz.prog, sumOf told, memoOf [e357], maxLen⟩
theorem c598 : e598.check t598 1000000 = true := by kernel_rfl
theorem s598 : e598.Sound t598 := by
  refine Ent.sound_check (T := t598) (e := e598) (fuel := 1000000) enters mixed ⟨sums_ok (l := told) rfl told_ok, memo_ok (l := [e357]) rfl fun e he => ?_⟩ c598
  simp only [List.mem_cons, List.not_mem_nil, or_false] at he
  rcases he with rfl
  · exact s357.of rfl rfl
end Go.Ev.K20

set_option linter.unusedVariables false
set_option linter.unusedSimpArgs false
namespace Go.Ev.K20
noncomputable def e872 : Ent := ⟨95, [(vP 79 0)], [], h2, 189, (vI 0), h7, 735, [103, 104, 80, 101, 81, 186, 79]⟩
noncomputable def t872 : Tab := ⟨Go.Proofs.Tryz.prog, sumOf told, memoOf [e598], maxLen⟩
theorem c872 : e872.check t872 1000000 = true := by kernel_rfl
theorem s872 : e872.Sound t872 := by
  refine Ent.sound_check (T := t872) (e := e872) (fuel := 1000000) enters mixed ⟨sums_ok (l := told) rfl told_ok, memo_ok (l := [e598]) rfl fun e he => ?_⟩ c872
  simp only [List.mem_cons, List.not_mem_nil, or_false] at he
  rcases he with rfl
  · exact s598.of rfl rfl
end Go.Ev.K20

set_option linter.unusedVariables false
set_option linter.unusedSimpArgs false
namespace Go.Ev.K20
noncomputable def e2049 : Ent := ⟨95, [(vP 79 0)], [], h13, 1529, (vI 0), h14, 1749, [103, 104, 1229, 79]⟩
noncomputable def t2049 : Tab := ⟨Go.Proofs.Tryz.prog, sumOf told, memoOf [], maxLen⟩
theorem c2049 : e2049.check t2049 1000000 = true := by kernel_rfl
theorem s2049 : e2049.Sound t2049 := by
  refine Ent.sound_check (T := t2049) (e := e2049) (fuel := 1000000) enters mixed ⟨sums_ok (l := told) rfl told_ok, memo_ok (l := []) rfl fun e he => (by cases he)⟩ c2049
end Go.Ev.K20
