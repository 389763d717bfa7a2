/- Closed facts of the row and of the card of SearchNil: each reckoned by the kernel. -/
import Derived.Test.YtfoifipkehjncaaGreatDoorRows
import Derived.JoinedOf
import Derived.Lay
import Derived.KernelRfl
import Derived.SevenTiedAt
set_option linter.unusedVariables false
set_option linter.unusedSimpArgs false
set_option linter.unusedVariables false
set_option linter.unusedSimpArgs false
namespace Go.Proofs.YtfoifipkehjncaaGreatDoor
theorem nil_k0 : Tryz.prog.funcNamed Rows.searchNilRow.func = some 3 := by kernel_rfl
theorem nil_k1 : Rows.searchNilRow.wf (OpenSpec.ofChange Rows.searchNilSpec) = true := by kernel_rfl
theorem nil_k2 : laidOutB Tryz.prog = true := by kernel_rfl
theorem nil_k3 : mapsRowed Tryz.prog = true := by kernel_rfl
theorem nil_k4 : Tryz.f3.params.all (Tryz.prog.readableRec ·) = true := by kernel_rfl
theorem nil_k5 : namedTie Tryz.prog Rows.searchNilRow.named Rows.searchNilSpec.vars = true := by kernel_rfl
theorem nil_k6 : (Rows.searchNilRow.stops == []) = true := by kernel_rfl
theorem nil_k7 : (Tryz.prog.stops == []) = true := by kernel_rfl
theorem nil_k8 : (Rows.searchNilRow.knobs == []) = true := by kernel_rfl
theorem nil_k9 : (Tryz.prog.stopKnobs == []) = true := by kernel_rfl
theorem nil_k14 : (Rows.searchNilRow.maps == (Tryz.f3.params.toList ++ Rows.searchNilSpec.plain.varTypes Tryz.prog).any (Tryz.prog.mapsRec ·)) = true := by kernel_rfl
theorem nil_k15 : (Rows.searchNilRow.ifaces == (Tryz.f3.params.toList ++ Rows.searchNilSpec.plain.varTypes Tryz.prog).any (Tryz.prog.ifacesRec ·)) = true := by kernel_rfl
theorem nil_k16 : (Rows.searchNilRow.mapsOut == Tryz.prog.mapsAmong Tryz.f3.resultTypes.toList) = true := by kernel_rfl
theorem nil_k17 : (Rows.searchNilRow.loops == (Tryz.f3.params.toList ++ Rows.searchNilSpec.plain.varTypes Tryz.prog).any (Tryz.prog.loopsFrom ·)) = true := by kernel_rfl
theorem nil_k18 : (Rows.searchNilRow.wideKeys == (Tryz.f3.params.toList ++ Rows.searchNilSpec.plain.varTypes Tryz.prog ++ Tryz.f3.resultTypes.toList).any (Tryz.prog.wideKeysFrom ·)) = true := by kernel_rfl
theorem nil_k19 : Rows.searchNilSpec.vars.all (Tryz.prog.varReadable ·) = true := by kernel_rfl
theorem nil_k20 : Tryz.f3.resultTypes.all (fun t => Tryz.prog.readableRec t && decide (t < Tryz.prog.types.size)) = true := by kernel_rfl
theorem nil_k21 : (Rows.searchNilRow.ifacesOut == Tryz.f3.resultTypes.toList.any (Tryz.prog.ifacesRec ·)) = true := by kernel_rfl
theorem nil_k22 : (Rows.searchNilRow.loopsOut == Tryz.f3.resultTypes.toList.any (Tryz.prog.loopsFrom ·)) = true := by kernel_rfl
theorem nil_k23 : (Rows.searchNilRow.plainKeys == Tryz.prog.plainKeys) = true := by kernel_rfl
theorem nil_k24 : Rows.searchNilRow.shortTexts.isNone = true := by kernel_rfl
theorem nil_k25 : Tryz.prog.stopsHeard = true := by kernel_rfl
theorem nil_k26 : Tryz.prog.mayEnter = true := by kernel_rfl
theorem nil_k27 : (Rows.searchNilRow.lifted == Tryz.prog.liftsFinal) = true := by kernel_rfl
theorem nil_k28 : (Tryz.prog.make == some Rows.searchNilRow.make) = true := by kernel_rfl
theorem nil_k29 : (Rows.searchNilRow.kinds == (if Rows.searchNilRow.domain.isEmpty then [] else Tryz.f3.params.toList.map fun t => match Tryz.prog.underlying t with | some (.int k) => some k | _ => none)) = true := by kernel_rfl
theorem nil_k30 : (Rows.searchNilRow.pinned == Rows.searchNilRow.pinnedBy) = true := by kernel_rfl
theorem nil_k31 : (Rows.searchNilRow.veiled == (Tryz.f3.params.toList ++ Rows.searchNilSpec.plain.varTypes Tryz.prog ++ Tryz.f3.resultTypes.toList).any (Tryz.prog.veiledRec ·)) = true := by kernel_rfl
theorem nil_k32 : Rows.searchNilRow.veiledFits Tryz.prog Tryz.f3.params.toList (Tryz.f3.params.toList ++ Rows.searchNilSpec.plain.varTypes Tryz.prog ++ Tryz.f3.resultTypes.toList) = true := by kernel_rfl
end Go.Proofs.YtfoifipkehjncaaGreatDoor

set_option linter.unusedVariables false
set_option linter.unusedSimpArgs false
set_option linter.unusedVariables false
set_option linter.unusedSimpArgs false
namespace Go.Proofs.YtfoifipkehjncaaGreatDoor
theorem nil_wfText : Rows.searchNilRow.wfByText (OpenSpec.ofChange Rows.searchNilSpec) = true := by kernel_rfl
theorem nil_noneGoes : Tryz.prog.funcs.toList.any Func.goes = false := by kernel_rfl
theorem goes_none {P : Program} (h : P.funcs.toList.any Func.goes = false) (f : FuncId) : P.goes f = false := by
  have hf : ∀ g : FuncId, (P.funcs[g]?).any Func.goes = false := fun g => by
    cases hg : P.funcs[g]? with
    | none => rfl
    | some fn =>
      have hm : fn ∈ P.funcs.toList := by
        rw [Array.mem_toList_iff]
        exact Array.mem_of_getElem? hg
      have := List.any_eq_false.1 h fn hm
      simpa using this
  unfold Program.goes
  have h1 : ((P.closure f).any fun g => (P.funcs[g]?).any Func.goes) = false := by
    rw [List.any_eq_false]
    intro g _
    rw [hf g]
    simp
  have h2 : P.funcs.any Func.goes = false := by
    rw [← Array.any_toList]
    exact h
  rw [h1, h2]
  simp
theorem goesAt_none {P : Program} (h : P.funcs.toList.any Func.goes = false) (start : Start) (func : String) : P.goesAt start func = false := by
  unfold Program.goesAt Program.goesFrom
  have h1 : ∀ o : Option FuncId, o.any P.goes = false := fun o => by
    cases o with
    | none => rfl
    | some f => exact goes_none h f
  have h2 : P.inits.toList.any P.goes = false := by
    rw [List.any_eq_false]
    intro f _
    rw [goes_none h f]
    simp
  rw [h1]
  split
  · rfl
  · rw [h2]; rfl
theorem nil_goes : false = Rows.searchNilRow.goesBy Tryz.prog := (goesAt_none nil_noneGoes _ _).symm
theorem nil_looks : true = Tryz.prog.looks [] := by kernel_rfl
theorem nil_stand : ([22, 23].all fun u => !Tryz.prog.wantsStandIn u) = true := by kernel_rfl
theorem nil_main : Tryz.prog.mainIs = some (true, "d28217ff8a66508646e93f7f0b4bcac9bccdbe98bec3da05597a7c8babf40a4a".toList) := by kernel_rfl
end Go.Proofs.YtfoifipkehjncaaGreatDoor
