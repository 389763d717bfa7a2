/- The fixed calls answer true. -/
import Derived.Test.YtfoifipkehjncaaGreatDoorZK20Tell
import Derived.Test.YtfoifipkehjncaaGreatDoorZK20Heap0
import Derived.KernelRfl
import Derived.Test.YtfoifipkehjncaaGreatDoorProg
import Derived.Test.YtfoifipkehjncaaGreatDoorZK20E2
import Derived.Test.YtfoifipkehjncaaGreatDoorZK20E5
set_option linter.unusedVariables false
set_option linter.unusedSimpArgs false
namespace Go.Ev.K20
open Go.RowKit Go.Proofs
noncomputable def tk : Tab := ⟨Go.Proofs.Tryz.prog, sumOf told, memoOf [e2922, e5566], maxLen⟩
def kn : Told := ⟨11, [], .bool true⟩
theorem tk_ok : SumOk tk := by
  refine ⟨sums_ok (l := told) rfl told_ok, memo_ok (l := [e2922, e5566]) rfl fun e he => ?_⟩
  simp only [List.mem_cons, List.not_mem_nil, or_false] at he
  rcases he with rfl | rfl
  · exact s2922.of rfl rfl
  · exact s5566.of rfl rfl
theorem kn_run : tells tk 1000000 kn = true := by kernel_rfl
theorem known_calls (w : World) (h : maxLen w) : Calls Go.Proofs.Tryz.prog 11 #[] w fun e w' => e = .returned (.bool true) ∧ Below w.heap.size w w' :=
  Told.run (T := tk) (t := kn) enters mixed tk_ok maxLen_stays kn_run (by kernel_rfl) (by kernel_rfl) w h
end Go.Ev.K20
