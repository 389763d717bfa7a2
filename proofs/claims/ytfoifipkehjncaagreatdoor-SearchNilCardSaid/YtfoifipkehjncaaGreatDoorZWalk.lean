/- The law SearchNil answers true on every tape: a walk through its code over the proved calls. Its conditions: the library cell of the greatest length holds an integer, the domains lie in the world and are as many and as long as a machine holds. -/
import Derived.Test.YtfoifipkehjncaaGreatDoorZK20Tell
import Derived.KernelRfl
import Derived.Test.YtfoifipkehjncaaGreatDoorZPrune
import Derived.Test.YtfoifipkehjncaaGreatDoorZSame
import Derived.Test.YtfoifipkehjncaaGreatDoorZK20Known
set_option linter.unusedVariables false
set_option linter.unusedSimpArgs false
set_option linter.unusedVariables false
set_option linter.unusedSimpArgs false
namespace Go.Ev.K20
open Go.RowKit Go.Proofs

theorem names_run : (match callA s0 1000000 10 [] st0 with | .ok v _ => (match v with | .slice (some _) n _ => Nat.blt 0 n | _ => false) | .bad _ => false) = true := by kernel_rfl

theorem names_calls (w : World) (h : maxLen w) : Calls Tryz.prog 10 #[] w fun e w' => ∃ A n c, e = .returned (.slice A n c) ∧ 0 < n ∧ Below w.heap.size w w' := by
  have hr := names_run
  split at hr
  · rename_i v s hc
    split at hr
    · rename_i ad n c
      refine (callA_sound (T := s0) enters mixed s0_ok hc (fun x hx => by cases hx) w (fun w' hb => maxLen_stays w w' h hb)).mono ?_
      rintro e w' ⟨ρ, v', rfl, hv, hb⟩
      have hn : 0 < n := by rw [Nat.blt_eq] at hr; exact hr
      cases hv with
      | slice _ _ _ => exact ⟨_, _, _, rfl, hn, hb⟩
      | sliceG _ _ _ _ => exact ⟨_, _, _, rfl, hn, hb⟩
    · cases hr
  · cases hr
end Go.Ev.K20

set_option linter.unusedVariables false
set_option linter.unusedSimpArgs false
set_option linter.unusedVariables false
set_option linter.unusedSimpArgs false
namespace Go.Proofs.YtfoifipkehjncaaGreatDoor.PSearchNil
open Go.RowKit Go.Proofs.YtfoifipkehjncaaGreatDoorW.PrintWords Go.Proofs.YtfoifipkehjncaaGreatDoorW.PrintLast Go.Proofs.YtfoifipkehjncaaGreatDoorW.PrintMore

set_option maxRecDepth 100000 in
theorem add_nil (w : World) : Calls Tryz.prog 6 #[.pointer none, .slice none 0 0] w fun e w' => e = .returned (.int .i64 2) ∧ Below w.heap.size w w' := by
  go_enter Tryz.func6, Tryz.ntmps6
  go_wp2
  go_ret
  exact ⟨rfl, Below.refl _ _⟩

set_option maxRecDepth 100000 in
theorem len_nil (w : World) : Calls Tryz.prog 7 #[.pointer none] w fun e w' => e = .returned (.int .i64 0) ∧ Below w.heap.size w w' := by
  go_enter Tryz.func7, Tryz.ntmps7
  go_wp2
  go_ret
  exact ⟨rfl, Below.refl _ _⟩

set_option maxRecDepth 100000 in
theorem holds_nil (A : Option Addr) (n c : Nat) (w : World) : Calls Tryz.prog 8 #[.pointer none, .slice A n c] w fun e w' => e = .returned (.bool true) ∧ Below w.heap.size w w' := by
  go_enter Tryz.func8, Tryz.ntmps8
  go_wp2
  go_ret
  exact ⟨rfl, below_alloc (Below.refl _ _) _⟩

set_option maxHeartbeats 8000000 in
set_option maxRecDepth 100000 in
theorem search_nil (A0 : Option Addr) (c0 : Nat) (l0 : List S40) (Ay : Option Addr) (ny cy : Nat) (w : World) (hm : Go.Ev.K20.maxLen w) (hr0 : Kd.C k40 w A0 l0.length l0) (hc0 : l0.length ≤ c0) (hs : Small l0) :
    Calls Tryz.prog 3 #[.slice A0 l0.length c0, .slice Ay ny cy] w fun e w' => e = .returned (.bool true) ∧ Below w.heap.size w w' := by
  go_enter Tryz.func3, Tryz.ntmps3
  go_wp2_with (first | (go_at_call 5; refine (jigsawref06_Lent.calls (l0.length + 1) A0 c0 l0 l0 _ hr0 hc0 (lent_ok l0 hs)).mono ?_))
  rintro e w1 ⟨v1, rfl, hS, hb1⟩
  obtain ⟨A1, c1, rfl, hc1, hr1⟩ := Kd.R_reads (Kd.S_R hS)
  go_wp2_with (first | (go_at_call 4; refine (prune_nil A1 c1 l0 w1 hr1 hc1 hs.1 hs.2).mono ?_))
  rintro e w2 ⟨A2, c2, rfl, hc2, hr2, hb2⟩
  have hB2 : Below w.heap.size w w2 := Below.trans hb1 (Below.mono hb2 hb1.size)
  go_wp2_with (first | (go_at_call 6; refine (add_nil w2).mono ?_))
  rintro e w3 ⟨rfl, hb3⟩
  have hB3 : Below w.heap.size w w3 := Below.trans hB2 (Below.mono hb3 hB2.size)
  go_wp2_with (first | (go_at_call 7; refine (len_nil w3).mono ?_))
  rintro e w4 ⟨rfl, hb4⟩
  have hB4 : Below w.heap.size w w4 := Below.trans hB3 (Below.mono hb4 hB3.size)
  go_wp2_with (first | (go_at_call 8; refine (holds_nil Ay ny cy w4).mono ?_))
  rintro e w5 ⟨rfl, hb5⟩
  have hB5 : Below w.heap.size w w5 := Below.trans hB4 (Below.mono hb5 hB4.size)
  go_wp2_with (first | (go_at_call 9; refine (jigsawref06_SameDoms.calls (l0.length + 17592186044417 + 1) A2 c2 l0 A0 c0 l0 true w5 (Kd.C_below (Kd.C_below (Kd.C_below hr2 hb3) hb4) hb5) hc2 (Kd.C_below hr0 hB5) hc0 (doms_ok l0 hs)).mono ?_))
  rintro e w6 ⟨rfl, hb6⟩
  have hB6 : Below w.heap.size w w6 := Below.trans hB5 (Below.mono hb6 hB5.size)
  go_wp2_with (first | (go_at_call 10; refine (Go.Ev.K20.names_calls w6 (Go.Ev.K20.maxLen_stays w w6 hm hB6)).mono ?_))
  rintro e w7 ⟨A7, n7, c7, rfl, hn7, hb7⟩
  have hB7 : Below w.heap.size w w7 := Below.trans hB6 (Below.mono hb7 hB6.size)
  go_wp2_with (first | (go_at_call 11; refine (Go.Ev.K20.known_calls _ ?_).mono ?_))
  · exact Go.Ev.K20.maxLen_stays w w7 hm hB7
  · rintro e w8 ⟨rfl, hb8⟩
    go_wp2
    go_ret
    exact ⟨rfl, Below.trans hB7 (Below.mono hb8 hB7.size)⟩
end Go.Proofs.YtfoifipkehjncaaGreatDoor.PSearchNil
