/- Closed facts of the row of PruneNil: each reckoned by the kernel. -/
import Derived.Test.YtgdadhopmfpkcaaGreatDoorRows
import Derived.JoinedOf
import Derived.Lay
import Derived.KernelRfl
set_option linter.unusedVariables false
set_option linter.unusedSimpArgs false
namespace Go.Proofs.YtgdadhopmfpkcaaGreatDoor
theorem nil_k0 : Tryz.prog.funcNamed Rows.pruneNilRow.func = some 3 := by kernel_rfl
theorem nil_k1 : Rows.pruneNilRow.wf (OpenSpec.ofChange Rows.pruneNilSpec) = true := by kernel_rfl
theorem nil_k2 : laidOutB Tryz.prog = true := by kernel_rfl
theorem nil_k3 : mapsRowed Tryz.prog = true := by kernel_rfl
theorem nil_k4 : Tryz.f3.params.all (Tryz.prog.readableRec ·) = true := by kernel_rfl
theorem nil_k5 : namedTie Tryz.prog Rows.pruneNilRow.named Rows.pruneNilSpec.vars = true := by kernel_rfl
theorem nil_k6 : (Rows.pruneNilRow.stops == []) = true := by kernel_rfl
theorem nil_k7 : (Tryz.prog.stops == []) = true := by kernel_rfl
theorem nil_k8 : (Rows.pruneNilRow.knobs == []) = true := by kernel_rfl
theorem nil_k9 : (Tryz.prog.stopKnobs == []) = true := by kernel_rfl
theorem nil_k14 : (Rows.pruneNilRow.maps == (Tryz.f3.params.toList ++ Rows.pruneNilSpec.plain.varTypes Tryz.prog).any (Tryz.prog.mapsRec ·)) = true := by kernel_rfl
theorem nil_k15 : (Rows.pruneNilRow.ifaces == (Tryz.f3.params.toList ++ Rows.pruneNilSpec.plain.varTypes Tryz.prog).any (Tryz.prog.ifacesRec ·)) = true := by kernel_rfl
theorem nil_k16 : (Rows.pruneNilRow.mapsOut == Tryz.prog.mapsAmong Tryz.f3.resultTypes.toList) = true := by kernel_rfl
theorem nil_k17 : (Rows.pruneNilRow.loops == (Tryz.f3.params.toList ++ Rows.pruneNilSpec.plain.varTypes Tryz.prog).any (Tryz.prog.loopsFrom ·)) = true := by kernel_rfl
theorem nil_k18 : (Rows.pruneNilRow.wideKeys == (Tryz.f3.params.toList ++ Rows.pruneNilSpec.plain.varTypes Tryz.prog ++ Tryz.f3.resultTypes.toList).any (Tryz.prog.wideKeysFrom ·)) = true := by kernel_rfl
theorem nil_k19 : Rows.pruneNilSpec.vars.all (Tryz.prog.varReadable ·) = true := by kernel_rfl
theorem nil_k20 : Tryz.f3.resultTypes.all (fun t => Tryz.prog.readableRec t && decide (t < Tryz.prog.types.size)) = true := by kernel_rfl
theorem nil_k21 : (Rows.pruneNilRow.ifacesOut == Tryz.f3.resultTypes.toList.any (Tryz.prog.ifacesRec ·)) = true := by kernel_rfl
theorem nil_k22 : (Rows.pruneNilRow.loopsOut == Tryz.f3.resultTypes.toList.any (Tryz.prog.loopsFrom ·)) = true := by kernel_rfl
theorem nil_k23 : (Rows.pruneNilRow.plainKeys == Tryz.prog.plainKeys) = true := by kernel_rfl
theorem nil_k24 : Rows.pruneNilRow.shortTexts.isNone = true := by kernel_rfl
theorem nil_k25 : Tryz.prog.stopsHeard = true := by kernel_rfl
theorem nil_k26 : Tryz.prog.mayEnter = true := by kernel_rfl
theorem nil_k27 : (Rows.pruneNilRow.lifted == Tryz.prog.liftsFinal) = true := by kernel_rfl
theorem nil_k28 : (Tryz.prog.make == some Rows.pruneNilRow.make) = true := by kernel_rfl
theorem nil_k29 : (Rows.pruneNilRow.kinds == (if Rows.pruneNilRow.domain.isEmpty then [] else Tryz.f3.params.toList.map fun t => match Tryz.prog.underlying t with | some (.int k) => some k | _ => none)) = true := by kernel_rfl
theorem nil_k30 : (Rows.pruneNilRow.pinned == Rows.pruneNilRow.pinnedBy) = true := by kernel_rfl
theorem nil_k31 : (Rows.pruneNilRow.veiled == (Tryz.f3.params.toList ++ Rows.pruneNilSpec.plain.varTypes Tryz.prog ++ Tryz.f3.resultTypes.toList).any (Tryz.prog.veiledRec ·)) = true := by kernel_rfl
theorem nil_k32 : Rows.pruneNilRow.veiledFits Tryz.prog Tryz.f3.params.toList (Tryz.f3.params.toList ++ Rows.pruneNilSpec.plain.varTypes Tryz.prog ++ Tryz.f3.resultTypes.toList) = true := by kernel_rfl
end Go.Proofs.YtgdadhopmfpkcaaGreatDoor
