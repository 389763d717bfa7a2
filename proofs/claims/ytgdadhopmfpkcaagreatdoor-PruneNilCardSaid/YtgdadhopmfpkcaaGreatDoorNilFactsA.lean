/- Closed facts of the row of PruneNil: each reckoned by the kernel. -/
import Derived.Test.YtgdadhopmfpkcaaGreatDoorRows
import Derived.JoinedOf
import Derived.Lay
import Derived.KernelRfl
set_option linter.unusedVariables false
set_option linter.unusedSimpArgs false
namespace Go.Proofs.YtgdadhopmfpkcaaGreatDoor
theorem nil_k10 : (Rows.pruneNilRow.inPlace == Tryz.prog.inPlace 3) = true := by kernel_rfl
theorem nil_k11 : (Rows.pruneNilRow.unfollowed == Tryz.prog.unfollowed 3) = true := by kernel_rfl
theorem nil_k12 : (Rows.pruneNilRow.recurses == Tryz.prog.recurses 3) = true := by kernel_rfl
theorem nil_k13 : (Rows.pruneNilRow.named == Tryz.prog.varsNamed 3) = true := by kernel_rfl
end Go.Proofs.YtgdadhopmfpkcaaGreatDoor
