/- Closed facts of the row of SearchNil: each reckoned by the kernel. -/
import Derived.Test.YtfoifipkehjncaaGreatDoorRows
import Derived.JoinedOf
import Derived.Lay
import Derived.KernelRfl
set_option linter.unusedVariables false
set_option linter.unusedSimpArgs false
set_option linter.unusedVariables false
set_option linter.unusedSimpArgs false
namespace Go.Proofs.YtfoifipkehjncaaGreatDoor
theorem nil_k10 : (Rows.searchNilRow.inPlace == Tryz.prog.inPlace 3) = true := by kernel_rfl
theorem nil_k11 : (Rows.searchNilRow.unfollowed == Tryz.prog.unfollowed 3) = true := by kernel_rfl
theorem nil_k12 : (Rows.searchNilRow.recurses == Tryz.prog.recurses 3) = true := by kernel_rfl
theorem nil_k13 : (Rows.searchNilRow.named == Tryz.prog.varsNamed 3) = true := by kernel_rfl
end Go.Proofs.YtfoifipkehjncaaGreatDoor
