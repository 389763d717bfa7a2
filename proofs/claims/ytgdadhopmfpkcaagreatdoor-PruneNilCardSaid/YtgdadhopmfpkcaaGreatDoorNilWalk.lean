/- The law PruneNil answers true on every tape, whatever its constraint: a walk through its code over the proved run of the fixed calls. Its condition: the library's cell of the greatest length holds an integer. -/
import Derived.Test.YtgdadhopmfpkcaaGreatDoorK14Known
import Derived.ProofKit
set_option linter.unusedVariables false
set_option linter.unusedSimpArgs false
set_option linter.unusedVariables false
set_option linter.unusedSimpArgs false
namespace Go.Proofs.YtgdadhopmfpkcaaGreatDoor
open Go.RowKit Go.Ev Go.Ev.K14
theorem below_push {n : Nat} {w w' : World} (h : Below n w w') (hn : n ≤ w.heap.size) (o : Obj) : Below n w { w' with heap := w'.heap.push o } :=
  ⟨h.os, h.tape, h.output, by have := h.size; simp; omega, fun k hk => by
    rw [← h.block k hk]
    show (w'.heap.push o)[k]? = _
    rw [Array.getElem?_push, if_neg (by have := h.size; omega)]⟩

set_option maxRecDepth 100000 in
theorem nil_walk (x y : Value) (w : World) (hm : Go.Ev.K14.maxLen w) :
    Calls Tryz.prog 3 #[.agg #[x, y]] w fun e w' => e = .returned (.bool true) ∧ Below w.heap.size w w' := by
  go_enter Tryz.func3, Tryz.ntmps3
  go_wp2_with (first
    | (go_at_call 9; refine (known_calls _ ?_).mono ?_)
    | go_in)
  · refine Go.Ev.K14.maxLen_stays w _ hm ?_
    exact below_push (below_push (below_push (.refl _ _) (Nat.le_refl _) _) (Nat.le_refl _) _) (Nat.le_refl _) _
  · rintro e w' ⟨rfl, hb⟩
    go_wp2
    go_ret
    refine ⟨rfl, Below.trans ?_ (Below.mono hb ?_)⟩
    · exact below_push (below_push (below_push (.refl _ _) (Nat.le_refl _) _) (Nat.le_refl _) _) (Nat.le_refl _) _
    · first | omega | (simp; done) | (simp; omega)
end Go.Proofs.YtgdadhopmfpkcaaGreatDoor
