/- Closed facts of the card of PruneNil: each reckoned by the kernel. -/
import Derived.Test.YtgdadhopmfpkcaaGreatDoorRows
import Derived.SevenTiedAt
import Derived.KernelRfl
set_option linter.unusedVariables false
set_option linter.unusedSimpArgs false
namespace Go.Proofs.YtgdadhopmfpkcaaGreatDoor
theorem nil_wfText : Rows.pruneNilRow.wfByText (OpenSpec.ofChange Rows.pruneNilSpec) = true := by kernel_rfl
theorem nil_goes : false = Rows.pruneNilRow.goesBy Tryz.prog := by kernel_rfl
theorem nil_looks : true = Tryz.prog.looks [] := by kernel_rfl
theorem nil_stand : ([24].all fun u => !Tryz.prog.wantsStandIn u) = true := by kernel_rfl
theorem nil_main : Tryz.prog.mainIs = some (true, "ce977510009abf3f55f89d47f09a97d2410e8f248c9aa0fb7c563fc11d40abb0".toList) := by kernel_rfl
end Go.Proofs.YtgdadhopmfpkcaaGreatDoor
