/- A program's functions with a body are entered. -/
import Derived.Test.YtgdadhopmfpkcaaGreatDoorEvMemo
set_option linter.unusedVariables false
set_option linter.unusedSimpArgs false
namespace Go.Ev

theorem enters_of {P : Program} (h : P.funcs.toList.all (fun fn => !(fn.name == "runtime.NumGoroutine")) = true) : Enters P := by
  intro f fi hf args w
  obtain ⟨fn, h1, h2, _⟩ := fiOf_spec hf
  have hm : fn ∈ P.funcs.toList := List.mem_of_getElem? (by rw [Array.getElem?_toList]; exact h1)
  have hn := List.all_eq_true.1 h fn hm
  have hn : (fn.name == "runtime.NumGoroutine") = false := by simpa using hn
  have hn' : ¬ fn.name = "runtime.NumGoroutine" := by simpa using hn
  have hb : fn.body.isNone = false := by rw [h2]; rfl
  unfold callFunc
  simp [h1, hn', h2]

end Go.Ev
