/- The fixed calls answer true. -/
import Derived.Test.YtgdadhopmfpkcaaGreatDoorK14Tell
import Derived.Test.YtgdadhopmfpkcaaGreatDoorK14Heap0
import Derived.KernelRfl
import Derived.Test.YtgdadhopmfpkcaaGreatDoorProg
import Derived.Test.YtgdadhopmfpkcaaGreatDoorK14E2210
import Derived.Test.YtgdadhopmfpkcaaGreatDoorK14E2471
set_option linter.unusedVariables false
set_option linter.unusedSimpArgs false
namespace Go.Ev.K14
open Go.RowKit Go.Proofs
noncomputable def tk : Tab := ⟨Go.Proofs.Tryz.prog, sumOf told, memoOf [e2210, e2471], maxLen⟩
def kn : Told := ⟨9, [], .bool true⟩
theorem tk_ok : SumOk tk := by
  refine ⟨sums_ok (l := told) rfl told_ok, memo_ok (l := [e2210, e2471]) rfl fun e he => ?_⟩
  simp only [List.mem_cons, List.not_mem_nil, or_false] at he
  rcases he with rfl | rfl
  · exact s2210.of rfl rfl
  · exact s2471.of rfl rfl
theorem kn_run : tells tk 1000000 kn = true := by kernel_rfl
theorem known_calls (w : World) (h : maxLen w) : Calls Go.Proofs.Tryz.prog 9 #[] w fun e w' => e = .returned (.bool true) ∧ Below w.heap.size w w' :=
  Told.run (T := tk) (t := kn) enters mixed tk_ok maxLen_stays kn_run (by kernel_rfl) (by kernel_rfl) w h
end Go.Ev.K14
