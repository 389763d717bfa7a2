/- A list of domains is like itself and its own copy, where it is as long as a machine holds. -/
import Derived.Test.YtfoifipkehjncaaGreatDoorZTypes
import Derived.Test.YtfoifipkehjncaaGreatDoorZOne
import Derived.Test.YtfoifipkehjncaaGreatDoorZLent
set_option linter.unusedVariables false
set_option linter.unusedSimpArgs false
namespace Go.Proofs.YtfoifipkehjncaaGreatDoor.PSearchNil
open Go.RowKit Go.Proofs.YtfoifipkehjncaaGreatDoorW.PrintWords Go.Proofs.YtfoifipkehjncaaGreatDoorW.PrintLast Go.Proofs.YtfoifipkehjncaaGreatDoorW.PrintMore
attribute [local go_sem] max2_int min2_int max_two min_two max_three min_three max_four min_four   -- for this text's walks alone
set_option linter.unusedVariables false
set_option linter.unusedSimpArgs false

/-! ### jigsawref06_SameDoms: function 9 -/
def jigsawref06_SameDoms.l0 : Nat → List (S40) → List (S40) → Int → Option (Bool)
  | 0, _, _, _ => none
  | k + 1, x0, x1, x5 => if x5 < (x0.length : Int) then (if 0 ≤ x5 then (if x5 < (x1.length : Int) then ((jigsawref04_One.f k ((rd_T40 x0 x5).f0) ((rd_T40 x0 x5).f1) ((rd_T40 x0 x5).f2) ((rd_T40 x0 x5).f3) ((rd_T40 x0 x5).f4) ((rd_T40 x0 x5).f5) ((rd_T40 x1 x5).f0) ((rd_T40 x1 x5).f1) ((rd_T40 x1 x5).f2) ((rd_T40 x1 x5).f3) ((rd_T40 x1 x5).f4) ((rd_T40 x1 x5).f5)).bind fun t387 => (if t387 = true then (jigsawref06_SameDoms.l0 k x0 x1 (wrap64 (x5 + 1))) else (some false))) else (none)) else (none)) else (some true)
def jigsawref06_SameDoms.f (k : Nat) (l0 : List (S40)) (l1 : List (S40)) : Option (Bool) := if (l0.length : Int) = (l1.length : Int) then (jigsawref06_SameDoms.l0 k l0 l1 0) else (some false)
theorem jigsawref06_SameDoms.mono_l : ∀ k, (∀ y0 y1 y2, LeO (jigsawref06_SameDoms.l0 k y0 y1 y2) (jigsawref06_SameDoms.l0 (k + 1) y0 y1 y2))
  | 0 => fun _ _ _ r h => by simp [jigsawref06_SameDoms.l0] at h
  | k + 1 => by
    have ih0 := jigsawref06_SameDoms.mono_l k
    · intro y0 y1 y2
      unfold jigsawref06_SameDoms.l0
      repeat' first
      | (with_reducible exact ih0 _ _ _)
      | (with_reducible exact jigsawref04_One.mono _ _ _ _ _ _ _ _ _ _ _ _ _)
      | (with_reducible exact LeO.refl _)
      | (with_reducible exact LeO.none _)
      | (with_reducible refine LeO.ite ?_ ?_)
      | (with_reducible refine LeO.bind ?_ (fun _ => ?_))
      | exact ih0 _ _ _
      | exact jigsawref04_One.mono _ _ _ _ _ _ _ _ _ _ _ _ _
      | exact LeO.none _
      | refine LeO.ite ?_ ?_
      | refine LeO.bind ?_ (fun _ => ?_)
theorem jigsawref06_SameDoms.mono : ∀ a0 a1 k, LeO (jigsawref06_SameDoms.f k a0 a1) (jigsawref06_SameDoms.f (k + 1) a0 a1) := by
  intro a0 a1 k
  have ih0 := jigsawref06_SameDoms.mono_l k
  unfold jigsawref06_SameDoms.f
  repeat' first
      | (with_reducible exact ih0 _ _ _)
      | (with_reducible exact jigsawref04_One.mono _ _ _ _ _ _ _ _ _ _ _ _ _)
      | (with_reducible exact LeO.refl _)
      | (with_reducible exact LeO.none _)
      | (with_reducible refine LeO.ite ?_ ?_)
      | (with_reducible refine LeO.bind ?_ (fun _ => ?_))
      | exact ih0 _ _ _
      | exact jigsawref04_One.mono _ _ _ _ _ _ _ _ _ _ _ _ _
      | exact LeO.none _
      | refine LeO.ite ?_ ?_
      | refine LeO.bind ?_ (fun _ => ?_)
def jigsawref06_SameDoms.T6 : Bool × List (List Nat × List Nat) := (true, [([], []), ([], []), ([0, 1], [0, 1]), ([2], [2]), ([], []), ([], []), ([4, 5], [4, 5]), ([6], [6]), ([3, 7], [3, 7]), ([8], [8])])
def jigsawref06_SameDoms.B6 : List Nat := [0, 0, 3, 7, 0, 0, 48, 112, 255, 511]
theorem jigsawref06_SameDoms.tab6 : rtab .any (opsOf Tryz.f9 6) = jigsawref06_SameDoms.T6 := by kernel_rfl
theorem jigsawref06_SameDoms.bits6 : waitsOk jigsawref06_SameDoms.T6.2 jigsawref06_SameDoms.B6 = true := by kernel_rfl
set_option maxHeartbeats 8000000 in
set_option maxRecDepth 100000 in
theorem jigsawref06_SameDoms.calls (k : Nat) (A0 : Option Addr) (c0 : Nat) (l0 : List (S40)) (A1 : Option Addr) (c1 : Nat) (l1 : List (S40)) (r : Bool) (w : World) (hr0 : Kd.C k40 w A0 l0.length l0) (hc0 : l0.length ≤ c0) (hr1 : Kd.C k40 w A1 l1.length l1) (hc1 : l1.length ≤ c1) (h : jigsawref06_SameDoms.f k l0 l1 = some r) :
    Calls Tryz.prog 9 #[.slice A0 l0.length c0, .slice A1 l1.length c1] w fun e w' => e = .returned (.bool r) ∧ Below w.heap.size w w' := by
  have hu40 := Tryz.underlying40
  have HR0 := Aside0.mk hr0
  have HC0 := Aside0.mk hc0
  clear hr0 hc0
  have HR1 := Aside0.mk hr1
  have HC1 := Aside0.mk hc1
  clear hr1 hc1
  have HB := Aside0.mk (Below.refl w.heap.size w)
  have H : (if (l0.length : Int) = (l1.length : Int) then (jigsawref06_SameDoms.l0 k l0 l1 0) else (some false)) = some r := h
  clear h
  by_cases c3 : (l0.length : Int) = (l1.length : Int)
  · rw [if_pos c3] at H
    have c3b0 : ((l0.length : Int) == (l1.length : Int)) = true := beq_iff_eq.mpr c3
    have c3b1 : ((l0.length : Int) != (l1.length : Int)) = false := bne_eq_false_iff_eq.mpr c3
    have c3b2 : (l0.length == l1.length) = true := by first | simpa using c3 | (simp at c3 ⊢; omega)
    clear c3
    have H' := Aside0.mk H
    clear H
    go_enter Tryz.func9, Tryz.ntmps9
    go_wp2
    go_loopg [5] k (fun kq v5 w' => ∃ (x5_1 : Int), v5 = .int .i64 x5_1 ∧ Aside0 (jigsawref06_SameDoms.l0 kq l0 l1 x5_1 = some r) ∧ Aside0 (kq ≤ k) ∧ Aside0 (Below w.heap.size w w'))
    case atStart => exact ⟨(0), (by first | rfl | (simp; done) | (simp [*]; done)), H', ⟨Nat.le_refl _⟩, ⟨by repeat (first | (with_reducible first | exact HB.out | apply below_alloc | apply pw_below_drewN | apply below_drew1) | exact HB.out)⟩⟩
    case round =>
      clear H'
      try clear c1
      try clear p2
      try clear c3
      try clear c3b0
      try clear c3b1
      try clear c3b2
      obtain ⟨x5_1, rfl, HA, HK1, HB⟩ := hrel
      cases gk with
      | zero => exact absurd HA.out (by simp [jigsawref06_SameDoms.l0])
      | succ k1 =>
        have H := HA.out
        clear HA
        simp only [jigsawref06_SameDoms.l0] at H
        by_cases c4 : x5_1 < (l0.length : Int)
        · rw [if_pos c4] at H
          have c4b0 : decide (x5_1 < (l0.length : Int)) = true := decide_eq_true c4
          clear c4
          by_cases c5 : 0 ≤ x5_1
          · rw [if_pos c5] at H
            have c5b0 : decide (0 ≤ x5_1) = true := decide_eq_true c5
            clear c5
            by_cases c6 : x5_1 < (l1.length : Int)
            · rw [if_pos c6] at H
              have c6b0 : decide (x5_1 < (l1.length : Int)) = true := decide_eq_true c6
              clear c6
              replace H := Option.bind_eq_some_iff.mp H
              obtain ⟨t387, A70, H⟩ := H
              replace H : (if t387 = true then (jigsawref06_SameDoms.l0 k1 l0 l1 (wrap64 (x5_1 + 1))) else (some false)) = some r := H
              have A7 := Aside0.mk A70
              clear A70
              by_cases c8 : t387 = true
              · subst c8
                have H1 : (jigsawref06_SameDoms.l0 k1 l0 l1 (wrap64 (x5_1 + 1))) = some r := by rw [if_pos rfl] at H; exact H
                clear H
                have H := H1
                clear H1
                have H' := Aside0.mk H
                clear H
                try go_wp2
                have n0_ := Aside0.mk (below_drew1 HB.out)
                clear HB
                have HB := n0_
                clear n0_
                have p385 : 0 ≤ (x5_1 : Int) := of_decide_eq_true (by first | (with_reducible assumption) | assumption)
                have q385 : x5_1 < (l0.length : Int) := of_decide_eq_true (by first | (with_reducible assumption) | assumption)
                obtain ⟨ad385, A385_1, c385_1, A385_2, c385_2, A385_3, c385_3, e385, hx385_0, hx385_1, hx385_2, hx385_3, hx385_4, hx385_5, hl385_1, hi385_1, hl385_2, hi385_2, hl385_3, hi385_3⟩ := at_T40 HR0.out x5_1 p385 q385
                have hw385_5 := hx385_5
                have hw385_4 := hx385_4
                have hw385_3 := hx385_3
                have hw385_2 := hx385_2
                have hw385_1 := hx385_1
                have hw385_0 := hx385_0
                cases e385
                replace hx385_0 := (HB.out.cell (World.block_lt_of_cell? w _ hx385_0)).trans hx385_0
                replace hx385_1 := (HB.out.cell (World.block_lt_of_cell? w _ hx385_1)).trans hx385_1
                replace hx385_2 := (HB.out.cell (World.block_lt_of_cell? w _ hx385_2)).trans hx385_2
                replace hx385_3 := (HB.out.cell (World.block_lt_of_cell? w _ hx385_3)).trans hx385_3
                replace hx385_4 := (HB.out.cell (World.block_lt_of_cell? w _ hx385_4)).trans hx385_4
                replace hx385_5 := (HB.out.cell (World.block_lt_of_cell? w _ hx385_5)).trans hx385_5
                have HR385_1 := Aside0.mk hi385_1
                have HC385_1 := Aside0.mk hl385_1
                clear hi385_1 hl385_1
                have HR385_2 := Aside0.mk hi385_2
                have HC385_2 := Aside0.mk hl385_2
                clear hi385_2 hl385_2
                have HR385_3 := Aside0.mk hi385_3
                have HC385_3 := Aside0.mk hl385_3
                clear hi385_3 hl385_3
                replace p385 := eq_true p385
                replace q385 := eq_true q385
                have p386 : 0 ≤ (x5_1 : Int) := of_decide_eq_true (by first | (with_reducible assumption) | assumption)
                have q386 : x5_1 < (l1.length : Int) := of_decide_eq_true (by first | (with_reducible assumption) | assumption)
                obtain ⟨ad386, A386_1, c386_1, A386_2, c386_2, A386_3, c386_3, e386, hx386_0, hx386_1, hx386_2, hx386_3, hx386_4, hx386_5, hl386_1, hi386_1, hl386_2, hi386_2, hl386_3, hi386_3⟩ := at_T40 HR1.out x5_1 p386 q386
                have hw386_5 := hx386_5
                have hw386_4 := hx386_4
                have hw386_3 := hx386_3
                have hw386_2 := hx386_2
                have hw386_1 := hx386_1
                have hw386_0 := hx386_0
                cases e386
                replace hx386_0 := (HB.out.cell (World.block_lt_of_cell? w _ hx386_0)).trans hx386_0
                replace hx386_1 := (HB.out.cell (World.block_lt_of_cell? w _ hx386_1)).trans hx386_1
                replace hx386_2 := (HB.out.cell (World.block_lt_of_cell? w _ hx386_2)).trans hx386_2
                replace hx386_3 := (HB.out.cell (World.block_lt_of_cell? w _ hx386_3)).trans hx386_3
                replace hx386_4 := (HB.out.cell (World.block_lt_of_cell? w _ hx386_4)).trans hx386_4
                replace hx386_5 := (HB.out.cell (World.block_lt_of_cell? w _ hx386_5)).trans hx386_5
                have HR386_1 := Aside0.mk hi386_1
                have HC386_1 := Aside0.mk hl386_1
                clear hi386_1 hl386_1
                have HR386_2 := Aside0.mk hi386_2
                have HC386_2 := Aside0.mk hl386_2
                clear hi386_2 hl386_2
                have HR386_3 := Aside0.mk hi386_3
                have HC386_3 := Aside0.mk hl386_3
                clear hi386_3 hl386_3
                replace p386 := eq_true p386
                replace q386 := eq_true q386
                refine start_ (n := 10) (S := fun w' => w'.cell? (ad385.add ((x5_1).toNat * 6)) = some (.bool ((rd_T40 l0 x5_1).f0)) ∧ w'.cell? ⟨(ad385.add ((x5_1).toNat * 6)).block, (ad385.add ((x5_1).toNat * 6)).off + 1, none⟩ = some (.slice A385_1 ((rd_T40 l0 x5_1).f1).length c385_1) ∧ w'.cell? ⟨(ad385.add ((x5_1).toNat * 6)).block, (ad385.add ((x5_1).toNat * 6)).off + 2, none⟩ = some (.slice A385_2 ((rd_T40 l0 x5_1).f2).length c385_2) ∧ w'.cell? ⟨(ad385.add ((x5_1).toNat * 6)).block, (ad385.add ((x5_1).toNat * 6)).off + 3, none⟩ = some (.slice A385_3 ((rd_T40 l0 x5_1).f3).length c385_3) ∧ w'.cell? ⟨(ad385.add ((x5_1).toNat * 6)).block, (ad385.add ((x5_1).toNat * 6)).off + 4, none⟩ = some (.int .i64 ((rd_T40 l0 x5_1).f4)) ∧ w'.cell? ⟨(ad385.add ((x5_1).toNat * 6)).block, (ad385.add ((x5_1).toNat * 6)).off + 5, none⟩ = some (.int .i64 ((rd_T40 l0 x5_1).f5)) ∧ w'.cell? (ad386.add ((x5_1).toNat * 6)) = some (.bool ((rd_T40 l1 x5_1).f0)) ∧ w'.cell? ⟨(ad386.add ((x5_1).toNat * 6)).block, (ad386.add ((x5_1).toNat * 6)).off + 1, none⟩ = some (.slice A386_1 ((rd_T40 l1 x5_1).f1).length c386_1) ∧ w'.cell? ⟨(ad386.add ((x5_1).toNat * 6)).block, (ad386.add ((x5_1).toNat * 6)).off + 2, none⟩ = some (.slice A386_2 ((rd_T40 l1 x5_1).f2).length c386_2) ∧ w'.cell? ⟨(ad386.add ((x5_1).toNat * 6)).block, (ad386.add ((x5_1).toNat * 6)).off + 3, none⟩ = some (.slice A386_3 ((rd_T40 l1 x5_1).f3).length c386_3) ∧ w'.cell? ⟨(ad386.add ((x5_1).toNat * 6)).block, (ad386.add ((x5_1).toNat * 6)).off + 4, none⟩ = some (.int .i64 ((rd_T40 l1 x5_1).f4)) ∧ w'.cell? ⟨(ad386.add ((x5_1).toNat * 6)).block, (ad386.add ((x5_1).toNat * 6)).off + 5, none⟩ = some (.int .i64 ((rd_T40 l1 x5_1).f5))) (ds := []) #[false, false, false, false, false, false, false, false, false, false] (by kernel_rfl) rfl rfl ⟨((HB.out.cell (World.block_lt_of_cell? w _ hw385_0)).trans hw385_0), ((HB.out.cell (World.block_lt_of_cell? w _ hw385_1)).trans hw385_1), ((HB.out.cell (World.block_lt_of_cell? w _ hw385_2)).trans hw385_2), ((HB.out.cell (World.block_lt_of_cell? w _ hw385_3)).trans hw385_3), ((HB.out.cell (World.block_lt_of_cell? w _ hw385_4)).trans hw385_4), ((HB.out.cell (World.block_lt_of_cell? w _ hw385_5)).trans hw385_5), ((HB.out.cell (World.block_lt_of_cell? w _ hw386_0)).trans hw386_0), ((HB.out.cell (World.block_lt_of_cell? w _ hw386_1)).trans hw386_1), ((HB.out.cell (World.block_lt_of_cell? w _ hw386_2)).trans hw386_2), ((HB.out.cell (World.block_lt_of_cell? w _ hw386_3)).trans hw386_3), ((HB.out.cell (World.block_lt_of_cell? w _ hw386_4)).trans hw386_4), ((HB.out.cell (World.block_lt_of_cell? w _ hw386_5)).trans hw386_5)⟩ (fun hHeld => ?_); refine with_tabW jigsawref06_SameDoms.tab6 jigsawref06_SameDoms.bits6 (fun HT_ HW_ => ?_)
                generalize wr.drew = w9 at HB HR385_1 HR385_2 HR385_3 HR386_1 HR386_2 HR386_3 hx385_0 hx385_1 hx385_2 hx385_3 hx385_4 hx385_5 hx386_0 hx386_1 hx386_2 hx386_3 hx386_4 hx386_5 hHeld ⊢
                refine pure_ (i := 0) (N := some 17) (v := ?_) (a' := ?_) #[true, false, false, false, false, false, false, false, false, false] rfl rfl (any_of HT_.out (by kernel_rfl)) (fun _ _ _ h => h) (Or.inl ⟨by rfl, ?_⟩) ?_ ?_
                rotate_left
                · intro w'
                  go_simp
                  with_reducible rfl
                rotate_left
                · simp only [Act.put, List.setIfInBounds_toArray, List.set_cons_zero, List.set_cons_succ, i64_w, i32_w]
                  rfl
                refine pure_ (i := 1) (N := some 18) (v := ?_) (a' := ?_) #[true, true, false, false, false, false, false, false, false, false] rfl rfl (any_of HT_.out (by kernel_rfl)) (fun _ _ _ h => h) (Or.inl ⟨by rfl, ?_⟩) ?_ ?_
                rotate_left
                · intro w'
                  go_simp
                  with_reducible rfl
                rotate_left
                · simp only [Act.put, List.setIfInBounds_toArray, List.set_cons_zero, List.set_cons_succ, i64_w, i32_w]
                  rfl
                refine pure_ (i := 2) (N := some 19) (v := ?_) (a' := ?_) #[true, true, true, false, false, false, false, false, false, false] rfl rfl (any_of HT_.out (by kernel_rfl)) (fun _ _ _ h => h) (Or.inl ⟨by rfl, ?_⟩) ?_ ?_
                rotate_left
                · intro w'
                  go_simp
                  with_reducible rfl
                rotate_left
                · simp only [Act.put, List.setIfInBounds_toArray, List.set_cons_zero, List.set_cons_succ, i64_w, i32_w]
                  rfl
                refine pure_ (i := 4) (N := some 21) (v := ?_) (a' := ?_) #[true, true, true, false, true, false, false, false, false, false] rfl rfl (any_of HT_.out (by kernel_rfl)) (fun _ _ _ h => h) (Or.inl ⟨by rfl, ?_⟩) ?_ ?_
                rotate_left
                · intro w'
                  go_simp
                  with_reducible rfl
                rotate_left
                · simp only [Act.put, List.setIfInBounds_toArray, List.set_cons_zero, List.set_cons_succ, i64_w, i32_w]
                  rfl
                refine pure_ (i := 5) (N := some 22) (v := ?_) (a' := ?_) #[true, true, true, false, true, true, false, false, false, false] rfl rfl (any_of HT_.out (by kernel_rfl)) (fun _ _ _ h => h) (Or.inl ⟨by rfl, ?_⟩) ?_ ?_
                rotate_left
                · intro w'
                  go_simp
                  with_reducible rfl
                rotate_left
                · simp only [Act.put, List.setIfInBounds_toArray, List.set_cons_zero, List.set_cons_succ, i64_w, i32_w]
                  rfl
                refine pure_ (i := 6) (N := some 23) (v := ?_) (a' := ?_) #[true, true, true, false, true, true, true, false, false, false] rfl rfl (any_of HT_.out (by kernel_rfl)) (fun _ _ _ h => h) (Or.inl ⟨by rfl, ?_⟩) ?_ ?_
                rotate_left
                · intro w'
                  go_simp
                  with_reducible rfl
                rotate_left
                · simp only [Act.put, List.setIfInBounds_toArray, List.set_cons_zero, List.set_cons_succ, i64_w, i32_w]
                  rfl
                refine take_ (i := 3) (N := some 20) (v := ?_) (a' := ?_) #[true, true, true, true, true, true, true, false, false, false] rfl rfl (take_ofW HT_.out HW_.out (by kernel_rfl)) (fun _ _ _ h => h) (Or.inl ⟨by rfl, ?_⟩) hHeld ?_ ?_
                rotate_left
                · rintro w' ⟨s0, s1, s2, s3, s4, s5, s6, s7, s8, s9, s10, s11⟩
                  go_simp
                  with_reducible rfl
                rotate_left
                · simp only [Act.put, List.setIfInBounds_toArray, List.set_cons_zero, List.set_cons_succ, i64_w, i32_w]
                  rfl
                refine take_ (i := 7) (N := some 24) (v := ?_) (a' := ?_) #[true, true, true, true, true, true, true, true, false, false] rfl rfl (take_ofW HT_.out HW_.out (by kernel_rfl)) (fun _ _ _ h => h) (Or.inl ⟨by rfl, ?_⟩) hHeld ?_ ?_
                rotate_left
                · rintro w' ⟨s0, s1, s2, s3, s4, s5, s6, s7, s8, s9, s10, s11⟩
                  go_simp
                  with_reducible rfl
                rotate_left
                · simp only [Act.put, List.setIfInBounds_toArray, List.set_cons_zero, List.set_cons_succ, i64_w, i32_w]
                  rfl
                refine one_ (i := 8) (N := some 25) #[true, true, true, true, true, true, true, true, true, false] rfl rfl (one_of HT_.out (by kernel_rfl)) (by decide) (fun K hK => ?_)
                refine goes_ Tryz.func28 (by kernel_rfl) rfl #[.agg #[.bool ((rd_T40 l0 x5_1).f0), .slice A385_1 ((rd_T40 l0 x5_1).f1).length c385_1, .slice A385_2 ((rd_T40 l0 x5_1).f2).length c385_2, .slice A385_3 ((rd_T40 l0 x5_1).f3).length c385_3, .int .i64 ((rd_T40 l0 x5_1).f4), .int .i64 ((rd_T40 l0 x5_1).f5)], .agg #[.bool ((rd_T40 l1 x5_1).f0), .slice A386_1 ((rd_T40 l1 x5_1).f1).length c386_1, .slice A386_2 ((rd_T40 l1 x5_1).f2).length c386_2, .slice A386_3 ((rd_T40 l1 x5_1).f3).length c386_3, .int .i64 ((rd_T40 l1 x5_1).f4), .int .i64 ((rd_T40 l1 x5_1).f5)]] (by rfl) rfl rfl (by (try simp only [List.map_toArray, List.map_cons, List.map_nil]); first | done | rfl | (simp only [List.length_drop, List.length_take]; rfl)) ?_
                with_reducible refine (jigsawref04_One.calls k1 ((rd_T40 l0 x5_1).f0) _ _ ((rd_T40 l0 x5_1).f1) _ _ ((rd_T40 l0 x5_1).f2) _ _ ((rd_T40 l0 x5_1).f3) ((rd_T40 l0 x5_1).f4) ((rd_T40 l0 x5_1).f5) ((rd_T40 l1 x5_1).f0) _ _ ((rd_T40 l1 x5_1).f1) _ _ ((rd_T40 l1 x5_1).f2) _ _ ((rd_T40 l1 x5_1).f3) ((rd_T40 l1 x5_1).f4) ((rd_T40 l1 x5_1).f5) true _ ?side1 ?side2 ?side3 ?side4 ?side5 ?side6 ?side7 ?side8 ?side9 ?side10 ?side11 ?side12 A7.out).mono ?_
                (case side1 => repeat (first | exact (Kd.C_below HR385_1.out HB.out) | (with_reducible refine Kd.C_alloc ?_ _) | (with_reducible refine Kd.C_drewN ?_ _) | (with_reducible refine Kd.C_drew ?_)))
                (case side2 => exact HC385_1.out)
                (case side3 => repeat (first | exact (Kd.C_below HR385_2.out HB.out) | (with_reducible refine Kd.C_alloc ?_ _) | (with_reducible refine Kd.C_drewN ?_ _) | (with_reducible refine Kd.C_drew ?_)))
                (case side4 => exact HC385_2.out)
                (case side5 => repeat (first | exact (Kd.C_below HR385_3.out HB.out) | (with_reducible refine Kd.C_alloc ?_ _) | (with_reducible refine Kd.C_drewN ?_ _) | (with_reducible refine Kd.C_drew ?_)))
                (case side6 => exact HC385_3.out)
                (case side7 => repeat (first | exact (Kd.C_below HR386_1.out HB.out) | (with_reducible refine Kd.C_alloc ?_ _) | (with_reducible refine Kd.C_drewN ?_ _) | (with_reducible refine Kd.C_drew ?_)))
                (case side8 => exact HC386_1.out)
                (case side9 => repeat (first | exact (Kd.C_below HR386_2.out HB.out) | (with_reducible refine Kd.C_alloc ?_ _) | (with_reducible refine Kd.C_drewN ?_ _) | (with_reducible refine Kd.C_drew ?_)))
                (case side10 => exact HC386_2.out)
                (case side11 => repeat (first | exact (Kd.C_below HR386_3.out HB.out) | (with_reducible refine Kd.C_alloc ?_ _) | (with_reducible refine Kd.C_drewN ?_ _) | (with_reducible refine Kd.C_drew ?_)))
                (case side12 => exact HC386_3.out)
                rintro e w10 ⟨rfl, hb⟩
                refine ⟨_, rfl, ?_⟩
                have n0_ := Aside0.mk (below_step (by repeat (first | (with_reducible first | exact HB.out | apply below_alloc | apply pw_below_drewN | apply below_drew1) | exact HB.out)) hb)
                clear HB
                have HB := n0_
                clear n0_
                (try clear hb)
                (try clear hb2)
                (try clear hk)
                (try clear hi)
                refine hK.out _ _ ⟨((HB.out.cell (World.block_lt_of_cell? w _ hw385_0)).trans hw385_0), ((HB.out.cell (World.block_lt_of_cell? w _ hw385_1)).trans hw385_1), ((HB.out.cell (World.block_lt_of_cell? w _ hw385_2)).trans hw385_2), ((HB.out.cell (World.block_lt_of_cell? w _ hw385_3)).trans hw385_3), ((HB.out.cell (World.block_lt_of_cell? w _ hw385_4)).trans hw385_4), ((HB.out.cell (World.block_lt_of_cell? w _ hw385_5)).trans hw385_5), ((HB.out.cell (World.block_lt_of_cell? w _ hw386_0)).trans hw386_0), ((HB.out.cell (World.block_lt_of_cell? w _ hw386_1)).trans hw386_1), ((HB.out.cell (World.block_lt_of_cell? w _ hw386_2)).trans hw386_2), ((HB.out.cell (World.block_lt_of_cell? w _ hw386_3)).trans hw386_3), ((HB.out.cell (World.block_lt_of_cell? w _ hw386_4)).trans hw386_4), ((HB.out.cell (World.block_lt_of_cell? w _ hw386_5)).trans hw386_5)⟩ (fun hHeld => ?_)
                clear hK K
                refine norm_ (a' := ?_) ?_ ?_
                rotate_left
                · show Act.put _ (some 25) _ = _
                  simp only [Act.put, List.setIfInBounds_toArray, List.set_cons_zero, List.set_cons_succ, i64_w, i32_w]
                  rfl
                refine pure_ (i := 9) (N := some 26) (v := ?_) (a' := ?_) #[true, true, true, true, true, true, true, true, true, true] rfl rfl (any_of HT_.out (by kernel_rfl)) (fun _ _ _ h => h) (Or.inl ⟨by rfl, ?_⟩) ?_ ?_
                rotate_left
                · intro w'
                  go_simp
                  with_reducible rfl
                rotate_left
                · simp only [Act.put, List.setIfInBounds_toArray, List.set_cons_zero, List.set_cons_succ, i64_w, i32_w]
                  rfl
                refine done_ (done_of HT_.out (by kernel_rfl)) ?_
                try go_wp2
                go_roundg k1
                case measure => have := HK1.out; omega
                case rel => exact ⟨(wrap64 (x5_1 + 1)), (by first | rfl | (simp; done) | (simp [*]; done)), H', ⟨by have := HK1.out; omega⟩, ⟨by repeat (first | (with_reducible first | exact HB.out | apply below_alloc | apply pw_below_drewN | apply below_drew1) | exact HB.out)⟩⟩
              · replace c8 := Bool.eq_false_iff.mpr c8
                subst c8
                have H1 : (some false) = some r := by rw [if_neg (show ¬ (false = true) by decide)] at H; exact H
                clear H
                have H := H1
                clear H1
                obtain rfl := Option.some.inj H
                try go_wp2
                have n0_ := Aside0.mk (below_drew1 HB.out)
                clear HB
                have HB := n0_
                clear n0_
                have p385 : 0 ≤ (x5_1 : Int) := of_decide_eq_true (by first | (with_reducible assumption) | assumption)
                have q385 : x5_1 < (l0.length : Int) := of_decide_eq_true (by first | (with_reducible assumption) | assumption)
                obtain ⟨ad385, A385_1, c385_1, A385_2, c385_2, A385_3, c385_3, e385, hx385_0, hx385_1, hx385_2, hx385_3, hx385_4, hx385_5, hl385_1, hi385_1, hl385_2, hi385_2, hl385_3, hi385_3⟩ := at_T40 HR0.out x5_1 p385 q385
                have hw385_5 := hx385_5
                have hw385_4 := hx385_4
                have hw385_3 := hx385_3
                have hw385_2 := hx385_2
                have hw385_1 := hx385_1
                have hw385_0 := hx385_0
                cases e385
                replace hx385_0 := (HB.out.cell (World.block_lt_of_cell? w _ hx385_0)).trans hx385_0
                replace hx385_1 := (HB.out.cell (World.block_lt_of_cell? w _ hx385_1)).trans hx385_1
                replace hx385_2 := (HB.out.cell (World.block_lt_of_cell? w _ hx385_2)).trans hx385_2
                replace hx385_3 := (HB.out.cell (World.block_lt_of_cell? w _ hx385_3)).trans hx385_3
                replace hx385_4 := (HB.out.cell (World.block_lt_of_cell? w _ hx385_4)).trans hx385_4
                replace hx385_5 := (HB.out.cell (World.block_lt_of_cell? w _ hx385_5)).trans hx385_5
                have HR385_1 := Aside0.mk hi385_1
                have HC385_1 := Aside0.mk hl385_1
                clear hi385_1 hl385_1
                have HR385_2 := Aside0.mk hi385_2
                have HC385_2 := Aside0.mk hl385_2
                clear hi385_2 hl385_2
                have HR385_3 := Aside0.mk hi385_3
                have HC385_3 := Aside0.mk hl385_3
                clear hi385_3 hl385_3
                replace p385 := eq_true p385
                replace q385 := eq_true q385
                have p386 : 0 ≤ (x5_1 : Int) := of_decide_eq_true (by first | (with_reducible assumption) | assumption)
                have q386 : x5_1 < (l1.length : Int) := of_decide_eq_true (by first | (with_reducible assumption) | assumption)
                obtain ⟨ad386, A386_1, c386_1, A386_2, c386_2, A386_3, c386_3, e386, hx386_0, hx386_1, hx386_2, hx386_3, hx386_4, hx386_5, hl386_1, hi386_1, hl386_2, hi386_2, hl386_3, hi386_3⟩ := at_T40 HR1.out x5_1 p386 q386
                have hw386_5 := hx386_5
                have hw386_4 := hx386_4
                have hw386_3 := hx386_3
                have hw386_2 := hx386_2
                have hw386_1 := hx386_1
                have hw386_0 := hx386_0
                cases e386
                replace hx386_0 := (HB.out.cell (World.block_lt_of_cell? w _ hx386_0)).trans hx386_0
                replace hx386_1 := (HB.out.cell (World.block_lt_of_cell? w _ hx386_1)).trans hx386_1
                replace hx386_2 := (HB.out.cell (World.block_lt_of_cell? w _ hx386_2)).trans hx386_2
                replace hx386_3 := (HB.out.cell (World.block_lt_of_cell? w _ hx386_3)).trans hx386_3
                replace hx386_4 := (HB.out.cell (World.block_lt_of_cell? w _ hx386_4)).trans hx386_4
                replace hx386_5 := (HB.out.cell (World.block_lt_of_cell? w _ hx386_5)).trans hx386_5
                have HR386_1 := Aside0.mk hi386_1
                have HC386_1 := Aside0.mk hl386_1
                clear hi386_1 hl386_1
                have HR386_2 := Aside0.mk hi386_2
                have HC386_2 := Aside0.mk hl386_2
                clear hi386_2 hl386_2
                have HR386_3 := Aside0.mk hi386_3
                have HC386_3 := Aside0.mk hl386_3
                clear hi386_3 hl386_3
                replace p386 := eq_true p386
                replace q386 := eq_true q386
                refine start_ (n := 10) (S := fun w' => w'.cell? (ad385.add ((x5_1).toNat * 6)) = some (.bool ((rd_T40 l0 x5_1).f0)) ∧ w'.cell? ⟨(ad385.add ((x5_1).toNat * 6)).block, (ad385.add ((x5_1).toNat * 6)).off + 1, none⟩ = some (.slice A385_1 ((rd_T40 l0 x5_1).f1).length c385_1) ∧ w'.cell? ⟨(ad385.add ((x5_1).toNat * 6)).block, (ad385.add ((x5_1).toNat * 6)).off + 2, none⟩ = some (.slice A385_2 ((rd_T40 l0 x5_1).f2).length c385_2) ∧ w'.cell? ⟨(ad385.add ((x5_1).toNat * 6)).block, (ad385.add ((x5_1).toNat * 6)).off + 3, none⟩ = some (.slice A385_3 ((rd_T40 l0 x5_1).f3).length c385_3) ∧ w'.cell? ⟨(ad385.add ((x5_1).toNat * 6)).block, (ad385.add ((x5_1).toNat * 6)).off + 4, none⟩ = some (.int .i64 ((rd_T40 l0 x5_1).f4)) ∧ w'.cell? ⟨(ad385.add ((x5_1).toNat * 6)).block, (ad385.add ((x5_1).toNat * 6)).off + 5, none⟩ = some (.int .i64 ((rd_T40 l0 x5_1).f5)) ∧ w'.cell? (ad386.add ((x5_1).toNat * 6)) = some (.bool ((rd_T40 l1 x5_1).f0)) ∧ w'.cell? ⟨(ad386.add ((x5_1).toNat * 6)).block, (ad386.add ((x5_1).toNat * 6)).off + 1, none⟩ = some (.slice A386_1 ((rd_T40 l1 x5_1).f1).length c386_1) ∧ w'.cell? ⟨(ad386.add ((x5_1).toNat * 6)).block, (ad386.add ((x5_1).toNat * 6)).off + 2, none⟩ = some (.slice A386_2 ((rd_T40 l1 x5_1).f2).length c386_2) ∧ w'.cell? ⟨(ad386.add ((x5_1).toNat * 6)).block, (ad386.add ((x5_1).toNat * 6)).off + 3, none⟩ = some (.slice A386_3 ((rd_T40 l1 x5_1).f3).length c386_3) ∧ w'.cell? ⟨(ad386.add ((x5_1).toNat * 6)).block, (ad386.add ((x5_1).toNat * 6)).off + 4, none⟩ = some (.int .i64 ((rd_T40 l1 x5_1).f4)) ∧ w'.cell? ⟨(ad386.add ((x5_1).toNat * 6)).block, (ad386.add ((x5_1).toNat * 6)).off + 5, none⟩ = some (.int .i64 ((rd_T40 l1 x5_1).f5))) (ds := []) #[false, false, false, false, false, false, false, false, false, false] (by kernel_rfl) rfl rfl ⟨((HB.out.cell (World.block_lt_of_cell? w _ hw385_0)).trans hw385_0), ((HB.out.cell (World.block_lt_of_cell? w _ hw385_1)).trans hw385_1), ((HB.out.cell (World.block_lt_of_cell? w _ hw385_2)).trans hw385_2), ((HB.out.cell (World.block_lt_of_cell? w _ hw385_3)).trans hw385_3), ((HB.out.cell (World.block_lt_of_cell? w _ hw385_4)).trans hw385_4), ((HB.out.cell (World.block_lt_of_cell? w _ hw385_5)).trans hw385_5), ((HB.out.cell (World.block_lt_of_cell? w _ hw386_0)).trans hw386_0), ((HB.out.cell (World.block_lt_of_cell? w _ hw386_1)).trans hw386_1), ((HB.out.cell (World.block_lt_of_cell? w _ hw386_2)).trans hw386_2), ((HB.out.cell (World.block_lt_of_cell? w _ hw386_3)).trans hw386_3), ((HB.out.cell (World.block_lt_of_cell? w _ hw386_4)).trans hw386_4), ((HB.out.cell (World.block_lt_of_cell? w _ hw386_5)).trans hw386_5)⟩ (fun hHeld => ?_); refine with_tabW jigsawref06_SameDoms.tab6 jigsawref06_SameDoms.bits6 (fun HT_ HW_ => ?_)
                generalize wr.drew = w11 at HB HR385_1 HR385_2 HR385_3 HR386_1 HR386_2 HR386_3 hx385_0 hx385_1 hx385_2 hx385_3 hx385_4 hx385_5 hx386_0 hx386_1 hx386_2 hx386_3 hx386_4 hx386_5 hHeld ⊢
                refine pure_ (i := 0) (N := some 17) (v := ?_) (a' := ?_) #[true, false, false, false, false, false, false, false, false, false] rfl rfl (any_of HT_.out (by kernel_rfl)) (fun _ _ _ h => h) (Or.inl ⟨by rfl, ?_⟩) ?_ ?_
                rotate_left
                · intro w'
                  go_simp
                  with_reducible rfl
                rotate_left
                · simp only [Act.put, List.setIfInBounds_toArray, List.set_cons_zero, List.set_cons_succ, i64_w, i32_w]
                  rfl
                refine pure_ (i := 1) (N := some 18) (v := ?_) (a' := ?_) #[true, true, false, false, false, false, false, false, false, false] rfl rfl (any_of HT_.out (by kernel_rfl)) (fun _ _ _ h => h) (Or.inl ⟨by rfl, ?_⟩) ?_ ?_
                rotate_left
                · intro w'
                  go_simp
                  with_reducible rfl
                rotate_left
                · simp only [Act.put, List.setIfInBounds_toArray, List.set_cons_zero, List.set_cons_succ, i64_w, i32_w]
                  rfl
                refine pure_ (i := 2) (N := some 19) (v := ?_) (a' := ?_) #[true, true, true, false, false, false, false, false, false, false] rfl rfl (any_of HT_.out (by kernel_rfl)) (fun _ _ _ h => h) (Or.inl ⟨by rfl, ?_⟩) ?_ ?_
                rotate_left
                · intro w'
                  go_simp
                  with_reducible rfl
                rotate_left
                · simp only [Act.put, List.setIfInBounds_toArray, List.set_cons_zero, List.set_cons_succ, i64_w, i32_w]
                  rfl
                refine pure_ (i := 4) (N := some 21) (v := ?_) (a' := ?_) #[true, true, true, false, true, false, false, false, false, false] rfl rfl (any_of HT_.out (by kernel_rfl)) (fun _ _ _ h => h) (Or.inl ⟨by rfl, ?_⟩) ?_ ?_
                rotate_left
                · intro w'
                  go_simp
                  with_reducible rfl
                rotate_left
                · simp only [Act.put, List.setIfInBounds_toArray, List.set_cons_zero, List.set_cons_succ, i64_w, i32_w]
                  rfl
                refine pure_ (i := 5) (N := some 22) (v := ?_) (a' := ?_) #[true, true, true, false, true, true, false, false, false, false] rfl rfl (any_of HT_.out (by kernel_rfl)) (fun _ _ _ h => h) (Or.inl ⟨by rfl, ?_⟩) ?_ ?_
                rotate_left
                · intro w'
                  go_simp
                  with_reducible rfl
                rotate_left
                · simp only [Act.put, List.setIfInBounds_toArray, List.set_cons_zero, List.set_cons_succ, i64_w, i32_w]
                  rfl
                refine pure_ (i := 6) (N := some 23) (v := ?_) (a' := ?_) #[true, true, true, false, true, true, true, false, false, false] rfl rfl (any_of HT_.out (by kernel_rfl)) (fun _ _ _ h => h) (Or.inl ⟨by rfl, ?_⟩) ?_ ?_
                rotate_left
                · intro w'
                  go_simp
                  with_reducible rfl
                rotate_left
                · simp only [Act.put, List.setIfInBounds_toArray, List.set_cons_zero, List.set_cons_succ, i64_w, i32_w]
                  rfl
                refine take_ (i := 3) (N := some 20) (v := ?_) (a' := ?_) #[true, true, true, true, true, true, true, false, false, false] rfl rfl (take_ofW HT_.out HW_.out (by kernel_rfl)) (fun _ _ _ h => h) (Or.inl ⟨by rfl, ?_⟩) hHeld ?_ ?_
                rotate_left
                · rintro w' ⟨s0, s1, s2, s3, s4, s5, s6, s7, s8, s9, s10, s11⟩
                  go_simp
                  with_reducible rfl
                rotate_left
                · simp only [Act.put, List.setIfInBounds_toArray, List.set_cons_zero, List.set_cons_succ, i64_w, i32_w]
                  rfl
                refine take_ (i := 7) (N := some 24) (v := ?_) (a' := ?_) #[true, true, true, true, true, true, true, true, false, false] rfl rfl (take_ofW HT_.out HW_.out (by kernel_rfl)) (fun _ _ _ h => h) (Or.inl ⟨by rfl, ?_⟩) hHeld ?_ ?_
                rotate_left
                · rintro w' ⟨s0, s1, s2, s3, s4, s5, s6, s7, s8, s9, s10, s11⟩
                  go_simp
                  with_reducible rfl
                rotate_left
                · simp only [Act.put, List.setIfInBounds_toArray, List.set_cons_zero, List.set_cons_succ, i64_w, i32_w]
                  rfl
                refine one_ (i := 8) (N := some 25) #[true, true, true, true, true, true, true, true, true, false] rfl rfl (one_of HT_.out (by kernel_rfl)) (by decide) (fun K hK => ?_)
                refine goes_ Tryz.func28 (by kernel_rfl) rfl #[.agg #[.bool ((rd_T40 l0 x5_1).f0), .slice A385_1 ((rd_T40 l0 x5_1).f1).length c385_1, .slice A385_2 ((rd_T40 l0 x5_1).f2).length c385_2, .slice A385_3 ((rd_T40 l0 x5_1).f3).length c385_3, .int .i64 ((rd_T40 l0 x5_1).f4), .int .i64 ((rd_T40 l0 x5_1).f5)], .agg #[.bool ((rd_T40 l1 x5_1).f0), .slice A386_1 ((rd_T40 l1 x5_1).f1).length c386_1, .slice A386_2 ((rd_T40 l1 x5_1).f2).length c386_2, .slice A386_3 ((rd_T40 l1 x5_1).f3).length c386_3, .int .i64 ((rd_T40 l1 x5_1).f4), .int .i64 ((rd_T40 l1 x5_1).f5)]] (by rfl) rfl rfl (by (try simp only [List.map_toArray, List.map_cons, List.map_nil]); first | done | rfl | (simp only [List.length_drop, List.length_take]; rfl)) ?_
                with_reducible refine (jigsawref04_One.calls k1 ((rd_T40 l0 x5_1).f0) _ _ ((rd_T40 l0 x5_1).f1) _ _ ((rd_T40 l0 x5_1).f2) _ _ ((rd_T40 l0 x5_1).f3) ((rd_T40 l0 x5_1).f4) ((rd_T40 l0 x5_1).f5) ((rd_T40 l1 x5_1).f0) _ _ ((rd_T40 l1 x5_1).f1) _ _ ((rd_T40 l1 x5_1).f2) _ _ ((rd_T40 l1 x5_1).f3) ((rd_T40 l1 x5_1).f4) ((rd_T40 l1 x5_1).f5) false _ ?side1 ?side2 ?side3 ?side4 ?side5 ?side6 ?side7 ?side8 ?side9 ?side10 ?side11 ?side12 A7.out).mono ?_
                (case side1 => repeat (first | exact (Kd.C_below HR385_1.out HB.out) | (with_reducible refine Kd.C_alloc ?_ _) | (with_reducible refine Kd.C_drewN ?_ _) | (with_reducible refine Kd.C_drew ?_)))
                (case side2 => exact HC385_1.out)
                (case side3 => repeat (first | exact (Kd.C_below HR385_2.out HB.out) | (with_reducible refine Kd.C_alloc ?_ _) | (with_reducible refine Kd.C_drewN ?_ _) | (with_reducible refine Kd.C_drew ?_)))
                (case side4 => exact HC385_2.out)
                (case side5 => repeat (first | exact (Kd.C_below HR385_3.out HB.out) | (with_reducible refine Kd.C_alloc ?_ _) | (with_reducible refine Kd.C_drewN ?_ _) | (with_reducible refine Kd.C_drew ?_)))
                (case side6 => exact HC385_3.out)
                (case side7 => repeat (first | exact (Kd.C_below HR386_1.out HB.out) | (with_reducible refine Kd.C_alloc ?_ _) | (with_reducible refine Kd.C_drewN ?_ _) | (with_reducible refine Kd.C_drew ?_)))
                (case side8 => exact HC386_1.out)
                (case side9 => repeat (first | exact (Kd.C_below HR386_2.out HB.out) | (with_reducible refine Kd.C_alloc ?_ _) | (with_reducible refine Kd.C_drewN ?_ _) | (with_reducible refine Kd.C_drew ?_)))
                (case side10 => exact HC386_2.out)
                (case side11 => repeat (first | exact (Kd.C_below HR386_3.out HB.out) | (with_reducible refine Kd.C_alloc ?_ _) | (with_reducible refine Kd.C_drewN ?_ _) | (with_reducible refine Kd.C_drew ?_)))
                (case side12 => exact HC386_3.out)
                rintro e w12 ⟨rfl, hb⟩
                refine ⟨_, rfl, ?_⟩
                have n0_ := Aside0.mk (below_step (by repeat (first | (with_reducible first | exact HB.out | apply below_alloc | apply pw_below_drewN | apply below_drew1) | exact HB.out)) hb)
                clear HB
                have HB := n0_
                clear n0_
                (try clear hb)
                (try clear hb2)
                (try clear hk)
                (try clear hi)
                refine hK.out _ _ ⟨((HB.out.cell (World.block_lt_of_cell? w _ hw385_0)).trans hw385_0), ((HB.out.cell (World.block_lt_of_cell? w _ hw385_1)).trans hw385_1), ((HB.out.cell (World.block_lt_of_cell? w _ hw385_2)).trans hw385_2), ((HB.out.cell (World.block_lt_of_cell? w _ hw385_3)).trans hw385_3), ((HB.out.cell (World.block_lt_of_cell? w _ hw385_4)).trans hw385_4), ((HB.out.cell (World.block_lt_of_cell? w _ hw385_5)).trans hw385_5), ((HB.out.cell (World.block_lt_of_cell? w _ hw386_0)).trans hw386_0), ((HB.out.cell (World.block_lt_of_cell? w _ hw386_1)).trans hw386_1), ((HB.out.cell (World.block_lt_of_cell? w _ hw386_2)).trans hw386_2), ((HB.out.cell (World.block_lt_of_cell? w _ hw386_3)).trans hw386_3), ((HB.out.cell (World.block_lt_of_cell? w _ hw386_4)).trans hw386_4), ((HB.out.cell (World.block_lt_of_cell? w _ hw386_5)).trans hw386_5)⟩ (fun hHeld => ?_)
                clear hK K
                refine norm_ (a' := ?_) ?_ ?_
                rotate_left
                · show Act.put _ (some 25) _ = _
                  simp only [Act.put, List.setIfInBounds_toArray, List.set_cons_zero, List.set_cons_succ, i64_w, i32_w]
                  rfl
                refine pure_ (i := 9) (N := some 26) (v := ?_) (a' := ?_) #[true, true, true, true, true, true, true, true, true, true] rfl rfl (any_of HT_.out (by kernel_rfl)) (fun _ _ _ h => h) (Or.inl ⟨by rfl, ?_⟩) ?_ ?_
                rotate_left
                · intro w'
                  go_simp
                  with_reducible rfl
                rotate_left
                · simp only [Act.put, List.setIfInBounds_toArray, List.set_cons_zero, List.set_cons_succ, i64_w, i32_w]
                  rfl
                refine done_ (done_of HT_.out (by kernel_rfl)) ?_
                try go_wp2
                go_ret
                exact ⟨by first | rfl | (simp [errW_none, errW_some] <;> rfl) | (simp [*, errW_none, errW_some] <;> rfl), by repeat (first | (with_reducible first | exact HB.out | apply below_alloc | apply pw_below_drewN | apply below_drew1) | exact HB.out)⟩
            · rw [if_neg c6] at H
              exact absurd H (by simp)
          · rw [if_neg c5] at H
            exact absurd H (by simp)
        · rw [if_neg c4] at H
          have c4b0 : decide (x5_1 < (l0.length : Int)) = false := decide_eq_false c4
          clear c4
          obtain rfl := Option.some.inj H
          go_wp2
          go_ret
          exact ⟨by first | rfl | (simp [errW_none, errW_some] <;> rfl) | (simp [*, errW_none, errW_some] <;> rfl), by repeat (first | (with_reducible first | exact HB.out | apply below_alloc | apply pw_below_drewN | apply below_drew1) | exact HB.out)⟩
  · rw [if_neg c3] at H
    have c3b0 : ((l0.length : Int) == (l1.length : Int)) = false := beq_eq_false_iff_ne.mpr c3
    have c3b1 : ((l0.length : Int) != (l1.length : Int)) = true := bne_iff_ne.mpr c3
    have c3b2 : (l0.length == l1.length) = false := by first | simpa using c3 | (simp at c3 ⊢; omega)
    obtain rfl := Option.some.inj H
    go_enter Tryz.func9, Tryz.ntmps9
    go_wp2
    go_ret
    exact ⟨by first | rfl | (simp [errW_none, errW_some] <;> rfl) | (simp [*, errW_none, errW_some] <;> rfl), by repeat (first | (with_reducible first | exact HB.out | apply below_alloc | apply pw_below_drewN | apply below_drew1) | exact HB.out)⟩

end Go.Proofs.YtfoifipkehjncaaGreatDoor.PSearchNil

set_option linter.unusedVariables false
set_option linter.unusedSimpArgs false
set_option linter.unusedVariables false
set_option linter.unusedSimpArgs false
namespace Go.Proofs.YtfoifipkehjncaaGreatDoor.PSearchNil
open Go.RowKit Go.Proofs.YtfoifipkehjncaaGreatDoorW.PrintWords Go.Proofs.YtfoifipkehjncaaGreatDoorW.PrintLast Go.Proofs.YtfoifipkehjncaaGreatDoorW.PrintMore

def Small (l : List S40) : Prop := l.length < 1466015503701 ∧ ∀ i, i < l.length → (l.getD i z40).f1.length < 8796093022208 ∧ (l.getD i z40).f2.length < 17592186044416 ∧ (l.getD i z40).f3.length < 17592186044416

theorem wrap_succ {i : Nat} (h : i < 9223372036854775807) : wrap64 ((i : Int) + 1) = ((i + 1 : Nat) : Int) := by unfold wrap64; omega

theorem lent4_ok (p : S40) (h1 : p.f1.length < 8796093022208) (h2 : p.f2.length < 17592186044416) (h3 : p.f3.length < 17592186044416) :
    jigsawref04_Lent.f p.f0 p.f1 p.f2 p.f3 p.f4 p.f5 = some (p.f0, p.f1, p.f2, p.f3, p.f4, p.f5) := by
  unfold jigsawref04_Lent.f
  rw [if_pos (by simpa using h1), if_pos (by simpa using h2), if_pos (by simpa using h3)]
  simp

theorem lent_loop (l : List S40) (hs : Small l) : ∀ d i k, i + d = l.length → d < k → jigsawref06_lent.l0 k l (l.take i) (i : Int) = some l
  | d, i, 0, _, hk => by omega
  | 0, i, k + 1, hi, _ => by
    unfold jigsawref06_lent.l0
    rw [if_neg (by omega), List.take_of_length_le (by omega)]
  | d + 1, i, k + 1, hi, hk => by
    have hil : i < l.length := by omega
    have hb := hs.2 i hil
    unfold jigsawref06_lent.l0
    rw [if_pos (by omega), if_pos (by omega)]
    have hrd : rd_T40 l (i : Int) = l.getD i z40 := rfl
    rw [hrd, lent4_ok _ hb.1 hb.2.1 hb.2.2]
    simp only [Option.bind_some]
    rw [if_pos (by rw [List.length_take]; have := hs.1; omega), wrap_succ (by have := hs.1; omega)]
    have ht : l.take i ++ [(⟨(l.getD i z40).f0, (l.getD i z40).f1, (l.getD i z40).f2, (l.getD i z40).f3, (l.getD i z40).f4, (l.getD i z40).f5⟩ : S40)] = l.take (i + 1) := by
      rw [List.take_succ_eq_append_getElem hil]
      congr 1
      rw [List.getD_eq_getElem?_getD, List.getElem?_eq_getElem hil]
      rfl
    rw [ht]
    exact lent_loop l hs d (i + 1) k (by omega) (by omega)

theorem lent_ok (l : List S40) (hs : Small l) : jigsawref06_Lent.f (l.length + 1) l = some l := by
  unfold jigsawref06_Lent.f jigsawref06_lent.f
  rw [show ([] : List S40) = l.take 0 from rfl, show (0 : Int) = ((0 : Nat) : Int) from rfl, lent_loop l hs l.length 0 _ (by omega) (by omega)]
  rfl

theorem same_loop (l : List Int) (hl : l.length < 9223372036854775807) : ∀ d i k, i + d = l.length → d < k → jigsawref01_Same.l0 k l l (i : Int) = some true
  | d, i, 0, _, hk => by omega
  | 0, i, k + 1, hi, _ => by unfold jigsawref01_Same.l0; rw [if_neg (by omega)]
  | d + 1, i, k + 1, hi, hk => by
    unfold jigsawref01_Same.l0
    rw [if_pos (by omega), if_pos (by omega), if_pos (by omega), if_pos rfl, wrap_succ (by omega)]
    exact same_loop l hl d (i + 1) k (by omega) (by omega)

theorem same_ok (l : List Int) (hl : l.length < 9223372036854775807) {k : Nat} (hk : l.length < k) : jigsawref01_Same.f k l l = some true := by
  unfold jigsawref01_Same.f
  rw [if_pos rfl]
  exact same_loop l hl l.length 0 k (by omega) hk

theorem one_loop (p : S40) (hl : p.f1.length < 9223372036854775807) : ∀ d i k, i + d = p.f1.length → d < k → jigsawref04_One.l0 k (i : Int) p.f0 p.f1 p.f2 p.f3 p.f4 p.f5 p.f0 p.f1 p.f2 p.f3 p.f4 p.f5 = some true
  | d, i, 0, _, hk => by omega
  | 0, i, k + 1, hi, _ => by unfold jigsawref04_One.l0; rw [if_neg (by omega)]
  | d + 1, i, k + 1, hi, hk => by
    unfold jigsawref04_One.l0
    rw [if_pos (by omega), if_pos (by omega), if_pos (by omega), if_neg (by simp), wrap_succ (by omega)]
    exact one_loop p hl d (i + 1) k (by omega) (by omega)

theorem one_ok (p : S40) {k : Nat} (h1 : p.f1.length + 1 < k) (h2 : p.f2.length < k) (h3 : p.f3.length < k) (hk : k < 9223372036854775807) :
    jigsawref04_One.f k p.f0 p.f1 p.f2 p.f3 p.f4 p.f5 p.f0 p.f1 p.f2 p.f3 p.f4 p.f5 = some true := by
  unfold jigsawref04_One.f
  rw [if_neg (by simp), same_ok _ (by omega) h2]
  simp only [Option.bind_some, if_true, same_ok _ (show p.f3.length < 9223372036854775807 by omega) h3]
  obtain ⟨m, rfl⟩ : ∃ m, k = m + 1 := ⟨k - 1, by omega⟩
  have hf : ((p.f1.length : Int) != (p.f1.length : Int)) = false := by simp
  rw [hf]
  unfold jigsawref04_One.j0
  show (if (false = true) then some false else jigsawref04_One.l0 m 0 p.f0 p.f1 p.f2 p.f3 p.f4 p.f5 p.f0 p.f1 p.f2 p.f3 p.f4 p.f5) = some true
  rw [if_neg (by simp)]
  exact one_loop p (by omega) p.f1.length 0 m (by omega) (by omega)

theorem doms_loop (l : List S40) (hl : l.length < 9223372036854775807) (K : Nat) (hK : ∀ i, i < l.length → (l.getD i z40).f1.length + 1 < K ∧ (l.getD i z40).f2.length < K ∧ (l.getD i z40).f3.length < K) : ∀ d i k, i + d = l.length → d + K < k → k < 9223372036854775807 → jigsawref06_SameDoms.l0 k l l (i : Int) = some true
  | d, i, 0, _, hk, _ => by omega
  | 0, i, k + 1, hi, _, _ => by unfold jigsawref06_SameDoms.l0; rw [if_neg (by omega)]
  | d + 1, i, k + 1, hi, hk, hm => by
    have hil : i < l.length := by omega
    have hb := hK i hil
    unfold jigsawref06_SameDoms.l0
    rw [if_pos (by omega), if_pos (by omega), if_pos (by omega)]
    have hrd : rd_T40 l (i : Int) = l.getD i z40 := rfl
    rw [hrd, one_ok (l.getD i z40) (k := k) (by omega) (by omega) (by omega) (by omega)]
    simp only [Option.bind_some]
    rw [if_pos trivial, wrap_succ (by omega)]
    exact doms_loop l hl K hK d (i + 1) k (by omega) (by omega) (by omega)

theorem doms_ok (l : List S40) (hs : Small l) : jigsawref06_SameDoms.f (l.length + 17592186044417 + 1) l l = some true := by
  unfold jigsawref06_SameDoms.f
  rw [if_pos rfl]
  exact doms_loop l (by have := hs.1; omega) 17592186044417 (fun i hi => by have := hs.2 i hi; omega) l.length 0 _ (by omega) (by omega) (by have := hs.1; omega)

end Go.Proofs.YtfoifipkehjncaaGreatDoor.PSearchNil
