/- Functions whose closed runs answer with a value without addresses. -/
import Derived.Test.YtgdadhopmfpkcaaGreatDoorEvEnter
set_option linter.unusedVariables false
set_option linter.unusedSimpArgs false
namespace Go.Ev
open Go.RowKit

noncomputable def tells (T : Tab) (fuel : Nat) (t : Told) : Bool := match callA T fuel t.fn t.args st0 with
  | .ok v _ => eqV 12 v t.val
  | .bad _ => false

theorem vrs_ground {ρ : Ren} : ∀ {l l' : List Value}, (∀ x ∈ l, ground x = true) → VRs ρ l l' → l' = l
  | _, _, _, .nil => rfl
  | _, _, h, .cons a t => by rw [ground_eq (h _ (by simp)) a, vrs_ground (fun x hx => h x (by simp [hx])) t]

theorem Told.sound_calls {P : Program} {inv : World → Prop} {t : Told} (ha : t.args.all ground = true) (hv : ground t.val = true)
    (h : ∀ w, inv w → Calls P t.fn ⟨t.args⟩ w fun e w' => e = .returned t.val ∧ Below w.heap.size w w') : t.Sound P inv := by
  refine ⟨hv, fun ρ args' w hi hr => ?_⟩
  have := vrs_ground (fun x hx => List.all_eq_true.1 ha x hx) hr
  have h2 : args' = ⟨t.args⟩ := Array.toList_inj.1 this
  rw [h2]
  exact h w hi

theorem Told.run {T : Tab} (hE : Enters T.prog) (hmix : T.prog.follows .mixedOrders = true) (hSum : SumOk T) (hst : ∀ w w', T.inv w → Below w.heap.size w w' → T.inv w') {fuel : Nat} {t : Told}
    (h : tells T fuel t = true) (ha : t.args.all ground = true) (hv : ground t.val = true) (w : World) (hi : T.inv w) :
    Calls T.prog t.fn ⟨t.args⟩ w fun e w' => e = .returned t.val ∧ Below w.heap.size w w' := by
  unfold tells at h
  split at h
  · rename_i v s hr
    have hvv := eqV_eq _ _ _ h
    subst hvv
    refine (callA_sound hE hmix hSum hr (fun x hx => List.all_eq_true.1 ha x hx) w (fun w' hb => hst w w' hi hb)).mono ?_
    rintro e w' ⟨ρ, v', rfl, h1, h2⟩
    exact ⟨by rw [ground_eq hv h1], h2⟩
  · cases h

theorem Told.sound_run {T : Tab} (hE : Enters T.prog) (hmix : T.prog.follows .mixedOrders = true) (hSum : SumOk T) (hst : ∀ w w', T.inv w → Below w.heap.size w w' → T.inv w') {fuel : Nat} {t : Told}
    (h : tells T fuel t = true) (ha : t.args.all ground = true) (hv : ground t.val = true) : t.Sound T.prog T.inv :=
  Told.sound_calls ha hv fun w hi => Told.run hE hmix hSum hst h ha hv w hi

/-- a cell of the world below -/
theorem cell_stays {a : Addr} {v : Value} {w w' : World} (h : w.cell? a = some v) (hb : Below w.heap.size w w') : w'.cell? a = some v := by
  have hlt : a.block < w.heap.size := by
    apply Nat.lt_of_not_le
    intro hle
    unfold World.cell? at h
    rw [Array.getElem?_eq_none hle] at h
    simp at h
  unfold World.cell? at h ⊢
  rw [hb.block _ hlt]
  exact h

end Go.Ev
