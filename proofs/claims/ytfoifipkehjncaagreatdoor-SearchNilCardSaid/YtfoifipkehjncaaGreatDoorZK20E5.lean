/- Calls of the fixed run, each carried out once: the kernel reckons what comes back. -/
import Derived.Test.YtfoifipkehjncaaGreatDoorZK20Tell
import Derived.Test.YtfoifipkehjncaaGreatDoorZK20Heap0
import Derived.KernelRfl
import Derived.Test.YtfoifipkehjncaaGreatDoorProg
import Derived.Test.YtfoifipkehjncaaGreatDoorZK20E4
import Derived.Test.YtfoifipkehjncaaGreatDoorZK20Heap1
import Derived.Test.YtfoifipkehjncaaGreatDoorZK20E3
set_option linter.unusedVariables false
set_option linter.unusedSimpArgs false
namespace Go.Ev.K20
noncomputable def e3797 : Ent := ⟨95, [(vP 2508 0)], [], h22, 2618, (vI 0), h27, 3164, [2532, 2533, 2509, 2530, 2510, 2615, 2508]⟩
noncomputable def t3797 : Tab := ⟨Go.Proofs.Tryz.prog, sumOf told, memoOf [e3523], maxLen⟩
theorem c3797 : e3797.check t3797 1000000 = true := by kernel_rfl
theorem s3797 : e3797.Sound t3797 := by
  refine Ent.sound_check (T := t3797) (e := e3797) (fuel := 1000000) enters mixed ⟨sums_ok (l := told) rfl told_ok, memo_ok (l := [e3523]) rfl fun e he => ?_⟩ c3797
  simp only [List.mem_cons, List.not_mem_nil, or_false] at he
  rcases he with rfl
  · exact s3523.of rfl rfl
end Go.Ev.K20

set_option linter.unusedVariables false
set_option linter.unusedSimpArgs false
namespace Go.Ev.K20
noncomputable def e4618 : Ent := ⟨95, [(vP 2508 0)], [], m30, 3657, (vI 0), m31, 3877, [2532, 2533, 3267, 2508]⟩
noncomputable def t4618 : Tab := ⟨Go.Proofs.Tryz.prog, sumOf told, memoOf [], maxLen⟩
theorem c4618 : e4618.check t4618 1000000 = true := by kernel_rfl
theorem s4618 : e4618.Sound t4618 := by
  refine Ent.sound_check (T := t4618) (e := e4618) (fuel := 1000000) enters mixed ⟨sums_ok (l := told) rfl told_ok, memo_ok (l := []) rfl fun e he => (by cases he)⟩ c4618
end Go.Ev.K20

set_option linter.unusedVariables false
set_option linter.unusedSimpArgs false
namespace Go.Ev.K20
noncomputable def e5566 : Ent := ⟨61, [(vP 2508 0), (vI 1000000000000), (vB false)], [], m21, 2616, (vI 5), m39, 4661, [2510, 2530, 2508, 2507, 2532, 2533, 2509, 2615]⟩
noncomputable def t5566 : Tab := ⟨Go.Proofs.Tryz.prog, sumOf told, memoOf [e5541, e4238, e3797, e4618], maxLen⟩
theorem c5566 : e5566.check t5566 1000000 = true := by kernel_rfl
theorem s5566 : e5566.Sound t5566 := by
  refine Ent.sound_check (T := t5566) (e := e5566) (fuel := 1000000) enters mixed ⟨sums_ok (l := told) rfl told_ok, memo_ok (l := [e5541, e4238, e3797, e4618]) rfl fun e he => ?_⟩ c5566
  simp only [List.mem_cons, List.not_mem_nil, or_false] at he
  rcases he with rfl | rfl | rfl | rfl
  · exact s5541.of rfl rfl
  · exact s4238.of rfl rfl
  · exact s3797.of rfl rfl
  · exact s4618.of rfl rfl
end Go.Ev.K20
