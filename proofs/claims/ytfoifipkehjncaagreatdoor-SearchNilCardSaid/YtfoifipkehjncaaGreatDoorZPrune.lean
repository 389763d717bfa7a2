/- Nogoods.Prune at a receiver that is nil answers a copy, nothing pruned and no error, where the domains lie in the world and are as long as a machine holds. -/
import Derived.Test.YtfoifipkehjncaaGreatDoorZTypes
import Derived.Shelf.SlicesE.Clone
set_option linter.unusedVariables false
set_option linter.unusedSimpArgs false
set_option linter.unusedVariables false
set_option linter.unusedSimpArgs false
namespace Go.Proofs.YtfoifipkehjncaaGreatDoor.PSearchNil
open Go.RowKit Go.Proofs.YtfoifipkehjncaaGreatDoorW.PrintWords Go.Proofs.YtfoifipkehjncaaGreatDoorW.PrintLast Go.Proofs.YtfoifipkehjncaaGreatDoorW.PrintMore

theorem nil_of_none {α : Type} {d : Kd α} {w : World} {l : List α} (hr : Kd.C d w none l.length l) : l = [] := by
  rcases Nat.eq_zero_or_pos l.length with h | h
  · exact List.length_eq_zero_iff.1 h
  · obtain ⟨ad, e, _⟩ := hr.2.2 h
    cases e

set_option maxHeartbeats 8000000 in
set_option maxRecDepth 100000 in
theorem clone12 (A : Option Addr) (c : Nat) (l : List S43) (w : World) (hr0 : Kd.C k43 w A l.length l) (hb : l.length < 8796093022208) :
    Calls Tryz.prog 12 #[.slice A l.length c] w fun e w' => ∃ v', e = .returned v' ∧ Kd.R k43 43 w' w.heap.size (fun _ => True) v' l ∧ Below w.heap.size w w' := by
  have q37 : ∀ (w : World) (a : Option Addr) (n c n' c' : Nat), (binOp .eql 37 (.slice a n c) (.slice none n' c')).run Tryz.prog w = .ok (.bool a.isNone) w := fun w a n c n' c' => Lib.run_eql_slice_nil w _ _ a n c n' c' Tryz.underlying37
  have HR := Aside0.mk hr0
  clear hr0
  cases A with
  | none =>
    have h0 := nil_of_none HR.out
    subst h0
    go_enter Tryz.func12, Tryz.ntmps12
    go_wp2
    go_ret
    exact ⟨_, rfl, Kd.R_nil _ _ _ _ _, by repeat (first | exact Below.refl _ _ | apply below_drew1)⟩
  | some ad =>
    go_enter Tryz.func12, Tryz.ntmps12
    go_wp2_with (first | (at_builtin; refine Kd.R_append_rows k43 (w0 := w) w.heap.size rfl (.tmp 5) (.tmp 6) 37 43 (.agg #[(.int .i64 0), (.int .i64 0)]) 16 rfl Tryz.underlying37 info43 rfl (by decide) (by omega) (.slice (some ⟨w.heap.size, 0, none⟩) 0 0) ([] : List S43) l _ _ _ (fun _ => True) (fun _ => False) rfl rfl ?aO ?aR (fun _ _ h => h) (fun _ h => h.elim) ?aF ?aB ?aS ?aL ?_))
    case aO => exact ⟨fun _ _ => trivial, OwnRow.lit w w.heap.size (inner := []) (Reps.none _ _) (Nat.le_refl _) (by decide)⟩
    case aR => exact Kd.C_below HR.out (below_alloc (Below.refl _ _) _)
    case aF => exact fun _ _ => trivial
    case aB => exact below_alloc (Below.refl _ _) _
    case aS => simp
    case aL => simp only [List.length_nil]; omega
    intro v1 w1 hR hB hg _
    go_wp2
    go_ret
    exact ⟨_, rfl, hR, hB⟩
set_option maxHeartbeats 8000000 in
set_option maxRecDepth 100000 in
theorem clone13 (A : Option Addr) (c : Nat) (l : List Int) (w : World) (hr0 : Kd.C (Kd.int .i64) w A l.length l) (hb : l.length < 17592186044416) :
    Calls Tryz.prog 13 #[.slice A l.length c] w fun e w' => ∃ v', e = .returned v' ∧ Kd.R (Kd.int .i64) 2 w' w.heap.size (fun _ => True) v' l ∧ Below w.heap.size w w' := by
  have q38 : ∀ (w : World) (a : Option Addr) (n c n' c' : Nat), (binOp .eql 38 (.slice a n c) (.slice none n' c')).run Tryz.prog w = .ok (.bool a.isNone) w := fun w a n c n' c' => Lib.run_eql_slice_nil w _ _ a n c n' c' Tryz.underlying38
  have HR := Aside0.mk hr0
  clear hr0
  cases A with
  | none =>
    have h0 := nil_of_none HR.out
    subst h0
    go_enter Tryz.func13, Tryz.ntmps13
    go_wp2
    go_ret
    exact ⟨_, rfl, Kd.R_nil _ _ _ _ _, by repeat (first | exact Below.refl _ _ | apply below_drew1)⟩
  | some ad =>
    go_enter Tryz.func13, Tryz.ntmps13
    go_wp2_with (first | (at_builtin; refine Kd.R_append_rows (Kd.int .i64) (w0 := w) w.heap.size rfl (.tmp 5) (.tmp 6) 38 2 (.int .i64 0) 8 rfl Tryz.underlying38 info2 rfl (by decide) (by omega) (.slice (some ⟨w.heap.size, 0, none⟩) 0 0) ([] : List Int) l _ _ _ (fun _ => True) (fun _ => False) rfl rfl ?aO ?aR (fun _ _ h => h) (fun _ h => h.elim) ?aF ?aB ?aS ?aL ?_))
    case aO => exact ⟨fun _ _ => trivial, OwnRow.lit w w.heap.size (inner := []) (Reps.none _ _) (Nat.le_refl _) (by decide)⟩
    case aR => exact Kd.C_below HR.out (below_alloc (Below.refl _ _) _)
    case aF => exact fun _ _ => trivial
    case aB => exact below_alloc (Below.refl _ _) _
    case aS => simp
    case aL => simp only [List.length_nil]; omega
    intro v1 w1 hR hB hg _
    go_wp2
    go_ret
    exact ⟨_, rfl, hR, hB⟩
end Go.Proofs.YtfoifipkehjncaaGreatDoor.PSearchNil

set_option linter.unusedVariables false
set_option linter.unusedSimpArgs false
set_option linter.unusedVariables false
set_option linter.unusedSimpArgs false
namespace Go.Proofs.YtfoifipkehjncaaGreatDoor.PSearchNil
open Go.RowKit Go.Proofs.YtfoifipkehjncaaGreatDoorW.PrintWords Go.Proofs.YtfoifipkehjncaaGreatDoorW.PrintLast Go.Proofs.YtfoifipkehjncaaGreatDoorW.PrintMore

/-- what of the copies is made -/
def Made (l0 : List S40) (g : Nat) (i : Nat) (W : World) : Prop :=
  ∃ cur : Array Value, W.heap[g]? = some (.cells cur 40 (0, 0)) ∧ cur.size = l0.length * 6 ∧
    ∀ j p, j < i → l0[j]? = some p → ∃ c, c.length = 6 ∧ k40.M W (g + 1) (fun k => k ≠ g) p c ∧ ∀ t u, c[t]? = some u → cur[j * 6 + t]? = some u

theorem made_step {l0 : List S40} {gM X : Nat} {wr W : World} {cur c' : Array Value} (hX : X < l0.length)
    (hdone : ∀ j p, j < X → l0[j]? = some p → ∃ c, c.length = 6 ∧ k40.M wr (gM + 1) (fun k => k ≠ gM) p c ∧ ∀ t u, c[t]? = some u → cur[j * 6 + t]? = some u)
    (hW : W.heap[gM]? = some (.cells c' 40 (0, 0))) (hs : c'.size = l0.length * 6) (hk : ∀ k, k ≠ gM → k < wr.heap.size → W.heap[k]? = wr.heap[k]?)
    (hlow : ∀ q, q < X * 6 → c'[q]? = cur[q]?) (c : List Value) (hc : c.length = 6) (hM : k40.M W (gM + 1) (fun k => k ≠ gM) (l0.getD X z40) c) (hnew : ∀ t u, c[t]? = some u → c'[X * 6 + t]? = some u) : Made l0 gM (X + 1) W := by
  refine ⟨c', hW, hs, fun j p hj hp => ?_⟩
  rcases Nat.lt_succ_iff_lt_or_eq.1 hj with h | rfl
  · obtain ⟨cc, e1, e2, e3⟩ := hdone j p h hp
    refine ⟨cc, e1, Kd.M_step e2 (fun k hk1 hk2 => hk k hk1 hk2), fun t u ht => ?_⟩
    have ht6 : t < 6 := by have := (List.getElem?_eq_some_iff.1 ht).1; omega
    rw [hlow _ (by omega)]
    exact e3 t u ht
  · have : p = l0.getD j z40 := by rw [List.getD_eq_getElem?_getD, hp]; rfl
    subst this
    exact ⟨c, hc, hM, hnew⟩

def six (cur : Array Value) (X : Nat) (a0 a1 a2 a3 a4 a5 : Value) : Array Value :=
  (((((cur.setIfInBounds (X * 6) a0).setIfInBounds (X * 6 + 1) a1).setIfInBounds (X * 6 + 2) a2).setIfInBounds (X * 6 + 3) a3).setIfInBounds (X * 6 + 4) a4).setIfInBounds (X * 6 + 5) a5
def nine (cur : Array Value) (X : Nat) (a0 a1 a2 a3 a4 a5 v1 v2 v3 : Value) : Array Value :=
  (((six cur X a0 a1 a2 a3 a4 a5).setIfInBounds (X * 6 + 1) v1).setIfInBounds (X * 6 + 2) v2).setIfInBounds (X * 6 + 3) v3

theorem nine_low (cur : Array Value) (X : Nat) (a0 a1 a2 a3 a4 a5 v1 v2 v3 : Value) (q : Nat) (hq : q < X * 6) : (nine cur X a0 a1 a2 a3 a4 a5 v1 v2 v3)[q]? = cur[q]? := by
  unfold nine six
  simp only [Array.getElem?_setIfInBounds]
  repeat rw [if_neg (by omega)]

theorem nine_size (cur : Array Value) (X : Nat) (a0 a1 a2 a3 a4 a5 v1 v2 v3 : Value) : (nine cur X a0 a1 a2 a3 a4 a5 v1 v2 v3).size = cur.size := by
  unfold nine six
  simp only [Array.size_setIfInBounds]

theorem nine_new (cur : Array Value) (X : Nat) (a0 a1 a2 a3 a4 a5 v1 v2 v3 : Value) (hs : X * 6 + 6 ≤ cur.size) : ∀ t u, [a0, v1, v2, v3, a4, a5][t]? = some u → (nine cur X a0 a1 a2 a3 a4 a5 v1 v2 v3)[X * 6 + t]? = some u := by
  intro t u ht
  have h0 : X * 6 < cur.size := by omega
  have h1 : X * 6 + 1 < cur.size := by omega
  have h2 : X * 6 + 2 < cur.size := by omega
  have h3 : X * 6 + 3 < cur.size := by omega
  have h4 : X * 6 + 4 < cur.size := by omega
  have h5 : X * 6 + 5 < cur.size := by omega
  unfold nine six
  rcases t with _ | _ | _ | _ | _ | _ | t
  all_goals (simp at ht; try subst ht)
  all_goals simp [Array.getElem?_setIfInBounds, h0, h1, h2, h3, h4, h5]
end Go.Proofs.YtfoifipkehjncaaGreatDoor.PSearchNil

set_option linter.unusedVariables false
set_option linter.unusedSimpArgs false
set_option linter.unusedVariables false
set_option linter.unusedSimpArgs false
namespace Go.Proofs.YtfoifipkehjncaaGreatDoor.PSearchNil
open Go.RowKit Go.Proofs.YtfoifipkehjncaaGreatDoorW.PrintWords Go.Proofs.YtfoifipkehjncaaGreatDoorW.PrintLast Go.Proofs.YtfoifipkehjncaaGreatDoorW.PrintMore

theorem make40 (n : Nat) (hn : n < 1466015503701) (W : World) : (Instr.makeSlice 22 (.int .i64 (n : Int)) (.int .i64 (n : Int))).run Tryz.prog W =
    .ok (.slice (some ⟨W.heap.size, 0, none⟩) n n) (W.alloc (.cells (madeCells #[.bool false, .slice none 0 0, .slice none 0 0, .slice none 0 0, .int .i64 0, .int .i64 0] (n * 6)) 40)) := by
  obtain ⟨i0, hi, hzz⟩ := Option.map_eq_some_iff.1 info40
  simp only [Prod.mk.injEq] at hzz
  obtain ⟨hz0, hz1, hz2⟩ := hzz
  have h := run_make (P := Tryz.prog) W 22 40 i0 _ Tryz.underlying22 hi hz0 .i64 .i64 (n : Int) (n : Int) (by omega) (Int.le_refl _) (by rw [hz2]; omega) (by omega)
  rw [hz1] at h
  simpa [Value.cells] using h

theorem mk_event {P : Program} {ops : Array Oper} {rest : List Oper} {o : Oper} {a : Act} {Q : Exit → Act → World → Prop} {W : World} (hgd : o.guard = none) {N : Tmp} (_hd : o.dst = some N) {cs : Array Value} {t : TypeId} {n : Nat}
    (hrun : (execOp a.eval o).run P W = .ok (.value (.slice (some ⟨W.heap.size, 0, none⟩) n n)) (W.alloc (.cells cs t (0, 0))))
    (h : ∀ g, g = W.heap.size → ∀ w1, w1.heap[g]? = some (.cells cs t (0, 0)) → Below W.heap.size W w1 → wpList P ops Q rest (a.put o.dst (.slice (some ⟨g, 0, none⟩) n n)) w1) : wpList P ops Q (o :: rest) a W :=
  Kd.event_run hgd hrun (h _ rfl _ (blk_new W _) (below_alloc (Below.refl _ _) _))

def prune6T : Bool × List (List Nat × List Nat) := (true, [([], []), ([], []), ([], []), ([], []), ([], []), ([], []), ([], []), ([6], [6]), ([7], [7]), ([], []), ([9], [9]), ([10, 8], [10]), ([], []), ([12], [12]), ([13, 11], [13]), ([0, 1, 0, 1, 6, 7, 8, 11, 14], [0, 1]), ([15, 0, 1, 6, 7, 8, 11, 14], [15]), ([16, 8, 14, 0, 1, 6, 7, 8, 11, 14], [8, 16]), ([2, 3, 0, 1, 2, 3, 6, 7, 8, 9, 10, 11, 14, 15, 16, 17], [2, 3]), ([18, 0, 1, 2, 3, 6, 7, 8, 9, 10, 11, 14, 15, 16, 17], [18]), ([19, 11, 17, 0, 1, 2, 3, 6, 7, 8, 9, 10, 11, 14, 15, 16, 17], [11, 19]), ([4, 5, 0, 1, 2, 3, 4, 5, 6, 7, 8, 9, 10, 11, 12, 13, 14, 15, 16, 17, 18, 19, 20], [4, 5]), ([21, 0, 1, 2, 3, 4, 5, 6, 7, 8, 9, 10, 11, 12, 13, 14, 15, 16, 17, 18, 19, 20], [21]), ([22, 14, 20, 0, 1, 2, 3, 4, 5, 6, 7, 8, 9, 10, 11, 12, 13, 14, 15, 16, 17, 18, 19, 20], [14, 22])])
def prune6B : List Nat := [0, 0, 0, 0, 0, 0, 0, 64, 192, 0, 512, 1984, 0, 4096, 16320, 32707, 65475, 131011, 262095, 524239, 1048527, 2097151, 4194303, 8388607]
theorem prune6tab : rtab .any (opsOf Tryz.f4 6) = prune6T := by kernel_rfl
theorem prune6bits : waitsOk prune6T.2 prune6B = true := by kernel_rfl

theorem Made.below {l0 : List S40} {g i : Nat} {W W1 : World} (h : Made l0 g i W) (hb : Below W.heap.size W W1) : Made l0 g i W1 := by
  obtain ⟨cur, h1, h2, h3⟩ := h
  refine ⟨cur, (hb.block g (blk_lt h1)).trans h1, h2, fun j p hj hp => ?_⟩
  obtain ⟨c, e1, e2, e3⟩ := h3 j p hj hp
  exact ⟨c, e1, Kd.M_below e2 hb, e3⟩

set_option maxHeartbeats 8000000 in
set_option maxRecDepth 100000 in
theorem prune_nil (A0 : Option Addr) (c0 : Nat) (l0 : List S40) (w : World) (hr0 : Kd.C k40 w A0 l0.length l0) (hc0 : l0.length ≤ c0) (hb : l0.length < 1466015503701) (hbs : ∀ i, i < l0.length → (l0.getD i z40).f1.length < 8796093022208 ∧ (l0.getD i z40).f2.length < 17592186044416 ∧ (l0.getD i z40).f3.length < 17592186044416) :
    Calls Tryz.prog 4 #[.pointer none, .slice A0 l0.length c0] w fun e w' => ∃ A' c', e = .returned (.tuple #[.slice A' l0.length c', .int .i64 0, .int .i64 0]) ∧ l0.length ≤ c' ∧ Kd.C k40 w' A' l0.length l0 ∧ Below w.heap.size w w' := by
  have hmk := make40 l0.length hb
  have hu40 := Tryz.underlying40
  have HR0 := Aside0.mk hr0
  have HC0 := Aside0.mk hc0
  have HL := Aside0.mk hb
  have BLS := Aside0.mk hbs
  have HB := Aside0.mk (Below.refl w.heap.size w)
  clear hr0 hc0 hb hbs
  go_enter Tryz.func4, Tryz.ntmps4
  go_wp2
  go_step3
  go_wp2_with (first | ((with_reducible refine gate_dst (N := 21) rfl ?_); refine mk_event (n := l0.length) ?hg (N := 21) ?hd (cs := madeCells #[.bool false, .slice none 0 0, .slice none 0 0, .slice none 0 0, .int .i64 0, .int .i64 0] (l0.length * 6)) (t := 40) ?hr ?_; (case hd => rfl); (case hg => rfl); (case hr => first | (go_simp; done) | (go_simp; rfl) | (simp [execOp, Act.eval, hmk]; done)); intro gM hgM w1 hbox hb; have HM0 : Aside0 (Made l0 gM 0 w1) := ⟨⟨_, hbox, size_madeCells _ _, fun j p hj => absurd hj (Nat.not_lt_zero _)⟩⟩; have GM : Aside0 (w.heap.size ≤ gM) := ⟨by rw [hgM]; exact below_size (by repeat (first | exact HB.out | apply below_drew1 | apply below_alloc))⟩; have HB1 := Aside0.mk (below_step (by repeat (first | exact HB.out | apply below_drew1 | apply below_alloc)) hb); clear HB; have HB := HB1; clear HB1 hb hbox hgM))
  go_loopg [24] (l0.length + 1) (fun kq v24 w' => ∃ x : Int, v24 = .int .i64 x ∧ Aside0 (0 ≤ x) ∧ Aside0 (x ≤ (l0.length : Int)) ∧ Aside0 (x.toNat + kq = l0.length + 1) ∧ Aside0 (Made l0 gM x.toNat w') ∧ Aside0 (Below w.heap.size w w'))
  case atStart =>
    exact ⟨0, rfl, ⟨by omega⟩, ⟨by omega⟩, ⟨by simp⟩, HM0, HB⟩
  case round =>
    obtain ⟨x, rfl, H0, H1, HI, HM, HB⟩ := hrel
    cases gk with
    | zero => exact absurd HI.out (by have := H0.out; have := H1.out; omega)
    | succ k1 =>
      by_cases c2 : x < (l0.length : Int)
      · have c2b0 : decide (x < (l0.length : Int)) = true := decide_eq_true c2
        have p358 : 0 ≤ x := H0.out
        have q358 : x < l0.length := c2
        obtain ⟨ad, A1, n1, A2, n2, A3, n3, e, hx0, hx1, hx2, hx3, hx4, hx5, hl1, hi1, hl2, hi2, hl3, hi3⟩ := at_T40 HR0.out x p358 q358
        cases e
        replace hx0 := (HB.out.cell (World.block_lt_of_cell? w _ hx0)).trans hx0
        replace hx1 := (HB.out.cell (World.block_lt_of_cell? w _ hx1)).trans hx1
        replace hx2 := (HB.out.cell (World.block_lt_of_cell? w _ hx2)).trans hx2
        replace hx3 := (HB.out.cell (World.block_lt_of_cell? w _ hx3)).trans hx3
        replace hx4 := (HB.out.cell (World.block_lt_of_cell? w _ hx4)).trans hx4
        replace hx5 := (HB.out.cell (World.block_lt_of_cell? w _ hx5)).trans hx5
        have C1 := Aside0.mk hi1
        have C2 := Aside0.mk hi2
        have C3 := Aside0.mk hi3
        have L1 := Aside0.mk hl1
        have L2 := Aside0.mk hl2
        have L3 := Aside0.mk hl3
        clear hi1 hi2 hi3 hl1 hl2 hl3
        have LX := Aside0.mk (show x.toNat < l0.length by omega)
        obtain ⟨cur, hcur, hsz, hdone⟩ := HM.out
        have HCU := Aside0.mk hcur
        have HSZ := Aside0.mk hsz
        have HDO := Aside0.mk hdone
        have hrr := Aside0.mk (Below.refl wr.heap.size wr)
        clear hcur hsz hdone
        clear c2
        replace p358 := eq_true p358
        replace q358 := eq_true q358
        go_wp2_with (first | ((with_reducible refine gate_dst (N := 9) rfl ?_); refine box_event ?hg (N := 9) ?hd (cs := #[.bool false, .slice none 0 0, .slice none 0 0, .slice none 0 0, .int .i64 0, .int .i64 0]) (t := 40) ?hr ?_; (case hd => rfl); (case hg => rfl); (case hr => first | (go_simp; done) | (go_simp; rfl)); intro gb hg w6 hbox hb; have GB : Aside0 (wr.heap.size ≤ gb) := ⟨by rw [hg]; exact Nat.le_refl _⟩; have HBK : Aside0 (w6.heap[gb]? = some (.cells #[.bool false, .slice none 0 0, .slice none 0 0, .slice none 0 0, .int .i64 0, .int .i64 0] 40 (0, 0))) := ⟨hbox⟩; have HW6 : Aside0 (Below wr.heap.size wr w6) := ⟨hb⟩; clear hb hg; have hcz0 : w6.cell? ⟨gb, 0, none⟩ = some (.bool false) := (blk_cell hbox 0).trans rfl; have hcz1 : w6.cell? ⟨gb, 1, none⟩ = some (.slice none 0 0) := (blk_cell hbox 1).trans rfl; have hcz2 : w6.cell? ⟨gb, 2, none⟩ = some (.slice none 0 0) := (blk_cell hbox 2).trans rfl; have hcz3 : w6.cell? ⟨gb, 3, none⟩ = some (.slice none 0 0) := (blk_cell hbox 3).trans rfl; have hcz4 : w6.cell? ⟨gb, 4, none⟩ = some (.int .i64 0) := (blk_cell hbox 4).trans rfl; have hcz5 : w6.cell? ⟨gb, 5, none⟩ = some (.int .i64 0) := (blk_cell hbox 5).trans rfl; have hfz0 := blk_frozen hbox 0; have hfz1 := blk_frozen hbox 1; have hfz2 := blk_frozen hbox 2; have hfz3 := blk_frozen hbox 3; have hfz4 := blk_frozen hbox 4; have hfz5 := blk_frozen hbox 5; clear hbox) | ((with_reducible refine gate_store (t := 40) (p := 9) rfl ?_); refine store_event (t := 40) (p := 9) (v := ?vo) (w1 := ((((((w6.setCell ⟨gb, 0, none⟩ (.bool (rd_T40 l0 x).f0)).setCell ⟨gb, 1, none⟩ (.slice A1 (rd_T40 l0 x).f1.length n1)).setCell ⟨gb, 2, none⟩ (.slice A2 (rd_T40 l0 x).f2.length n2)).setCell ⟨gb, 3, none⟩ (.slice A3 (rd_T40 l0 x).f3.length n3)).setCell ⟨gb, 4, none⟩ (.int .i64 (rd_T40 l0 x).f4)).setCell ⟨gb, 5, none⟩ (.int .i64 (rd_T40 l0 x).f5))) ?hg ?ho ?hn ?hr ?_; (case ho => rfl); (case hg => rfl); (case hn => rfl); (case hr => first | (go_simp; done) | (go_simp; rfl)); intro w8 hw8; have HBK8 : Aside0 (w8.heap[gb]? = some (.cells #[.bool (rd_T40 l0 x).f0, .slice A1 (rd_T40 l0 x).f1.length n1, .slice A2 (rd_T40 l0 x).f2.length n2, .slice A3 (rd_T40 l0 x).f3.length n3, .int .i64 (rd_T40 l0 x).f4, .int .i64 (rd_T40 l0 x).f5] 40 (0, 0))) := ⟨by rw [hw8]; exact (blk_set (blk_set (blk_set (blk_set (blk_set (blk_set HBK.out 0 _) 1 _) 2 _) 3 _) 4 _) 5 _)⟩; have HW8 : Aside0 (Below wr.heap.size wr w8) := ⟨by rw [hw8]; exact (Below.setCell (Below.setCell (Below.setCell (Below.setCell (Below.setCell (Below.setCell HW6.out GB.out _) GB.out _) GB.out _) GB.out _) GB.out _) GB.out _)⟩; have HC8 : Aside0 (w8.heap[gM]? = some (.cells cur 40 (0, 0))) := ⟨(HW8.out.block gM (blk_lt HCU.out)).trans HCU.out⟩; clear hcz0 hcz1 hcz2 hcz3 hcz4 hcz5 hfz0 hfz1 hfz2 hfz3 hfz4 hfz5 hw8; have hcb0 : w8.cell? ⟨gb, 0, none⟩ = some (.bool (rd_T40 l0 x).f0) := (blk_cell HBK8.out 0).trans rfl; have hcb1 : w8.cell? ⟨gb, 1, none⟩ = some (.slice A1 (rd_T40 l0 x).f1.length n1) := (blk_cell HBK8.out 1).trans rfl; have hcb2 : w8.cell? ⟨gb, 2, none⟩ = some (.slice A2 (rd_T40 l0 x).f2.length n2) := (blk_cell HBK8.out 2).trans rfl; have hcb3 : w8.cell? ⟨gb, 3, none⟩ = some (.slice A3 (rd_T40 l0 x).f3.length n3) := (blk_cell HBK8.out 3).trans rfl; have hcb4 : w8.cell? ⟨gb, 4, none⟩ = some (.int .i64 (rd_T40 l0 x).f4) := (blk_cell HBK8.out 4).trans rfl; have hcb5 : w8.cell? ⟨gb, 5, none⟩ = some (.int .i64 (rd_T40 l0 x).f5) := (blk_cell HBK8.out 5).trans rfl; have hco0 : w8.cell? ⟨gM, x.toNat * 6, none⟩ = some (cur[x.toNat * 6]'(by have := HSZ.out; have := LX.out; omega)) := (blk_cell HC8.out _).trans (Array.getElem?_eq_getElem _); have hco1 : w8.cell? ⟨gM, x.toNat * 6 + 1, none⟩ = some (cur[x.toNat * 6 + 1]'(by have := HSZ.out; have := LX.out; omega)) := (blk_cell HC8.out _).trans (Array.getElem?_eq_getElem _); have hco2 : w8.cell? ⟨gM, x.toNat * 6 + 2, none⟩ = some (cur[x.toNat * 6 + 2]'(by have := HSZ.out; have := LX.out; omega)) := (blk_cell HC8.out _).trans (Array.getElem?_eq_getElem _); have hco3 : w8.cell? ⟨gM, x.toNat * 6 + 3, none⟩ = some (cur[x.toNat * 6 + 3]'(by have := HSZ.out; have := LX.out; omega)) := (blk_cell HC8.out _).trans (Array.getElem?_eq_getElem _); have hco4 : w8.cell? ⟨gM, x.toNat * 6 + 4, none⟩ = some (cur[x.toNat * 6 + 4]'(by have := HSZ.out; have := LX.out; omega)) := (blk_cell HC8.out _).trans (Array.getElem?_eq_getElem _); have hco5 : w8.cell? ⟨gM, x.toNat * 6 + 5, none⟩ = some (cur[x.toNat * 6 + 5]'(by have := HSZ.out; have := LX.out; omega)) := (blk_cell HC8.out _).trans (Array.getElem?_eq_getElem _); have hfo0 := blk_frozen HC8.out (x.toNat * 6); have hfo1 := blk_frozen HC8.out (x.toNat * 6 + 1); have hfo2 := blk_frozen HC8.out (x.toNat * 6 + 2); have hfo3 := blk_frozen HC8.out (x.toNat * 6 + 3); have hfo4 := blk_frozen HC8.out (x.toNat * 6 + 4); have hfo5 := blk_frozen HC8.out (x.toNat * 6 + 5)) | ((with_reducible refine gate_store (t := 40) (p := 32) rfl ?_); refine store_event (t := 40) (p := 32) (v := ?vo) (w1 := ((((((w8.setCell ⟨gM, x.toNat * 6, none⟩ (.bool (rd_T40 l0 x).f0)).setCell ⟨gM, x.toNat * 6 + 1, none⟩ (.slice A1 (rd_T40 l0 x).f1.length n1)).setCell ⟨gM, x.toNat * 6 + 2, none⟩ (.slice A2 (rd_T40 l0 x).f2.length n2)).setCell ⟨gM, x.toNat * 6 + 3, none⟩ (.slice A3 (rd_T40 l0 x).f3.length n3)).setCell ⟨gM, x.toNat * 6 + 4, none⟩ (.int .i64 (rd_T40 l0 x).f4)).setCell ⟨gM, x.toNat * 6 + 5, none⟩ (.int .i64 (rd_T40 l0 x).f5))) ?hg ?ho ?hn ?hr ?_; (case ho => rfl); (case hg => rfl); (case hn => rfl); (case hr => first | (go_simp; done) | (go_simp; rfl)); fail))
        have GNE : Aside0 (gb ≠ gM) := ⟨fun e => by have h1 := GB.out; have h2 := blk_lt HCU.out; omega⟩
        have HBw8 : Aside0 (Below w.heap.size w w8) := ⟨below_step HB.out HW8.out⟩
        obtain ⟨w9, hw9⟩ : ∃ w9, ((((((w8.setCell ⟨gM, x.toNat * 6, none⟩ (.bool (rd_T40 l0 x).f0)).setCell ⟨gM, x.toNat * 6 + 1, none⟩ (.slice A1 (rd_T40 l0 x).f1.length n1)).setCell ⟨gM, x.toNat * 6 + 2, none⟩ (.slice A2 (rd_T40 l0 x).f2.length n2)).setCell ⟨gM, x.toNat * 6 + 3, none⟩ (.slice A3 (rd_T40 l0 x).f3.length n3)).setCell ⟨gM, x.toNat * 6 + 4, none⟩ (.int .i64 (rd_T40 l0 x).f4)).setCell ⟨gM, x.toNat * 6 + 5, none⟩ (.int .i64 (rd_T40 l0 x).f5)) = w9 := ⟨_, rfl⟩
        obtain ⟨c9, hc9⟩ : ∃ c9, ((((((cur.setIfInBounds (x.toNat * 6) (.bool (rd_T40 l0 x).f0)).setIfInBounds (x.toNat * 6 + 1) (.slice A1 (rd_T40 l0 x).f1.length n1)).setIfInBounds (x.toNat * 6 + 2) (.slice A2 (rd_T40 l0 x).f2.length n2)).setIfInBounds (x.toNat * 6 + 3) (.slice A3 (rd_T40 l0 x).f3.length n3)).setIfInBounds (x.toNat * 6 + 4) (.int .i64 (rd_T40 l0 x).f4)).setIfInBounds (x.toNat * 6 + 5) (.int .i64 (rd_T40 l0 x).f5)) = c9 := ⟨_, rfl⟩
        obtain ⟨bx, hbx⟩ : ∃ bx : Array Value, #[.bool (rd_T40 l0 x).f0, .slice A1 (rd_T40 l0 x).f1.length n1, .slice A2 (rd_T40 l0 x).f2.length n2, .slice A3 (rd_T40 l0 x).f3.length n3, .int .i64 (rd_T40 l0 x).f4, .int .i64 (rd_T40 l0 x).f5] = bx := ⟨_, rfl⟩
        have hbx1 : Aside0 (bx[1]? = some (.slice A1 (rd_T40 l0 x).f1.length n1)) := ⟨by rw [← hbx]; rfl⟩
        have hbx2 : Aside0 (bx[2]? = some (.slice A2 (rd_T40 l0 x).f2.length n2)) := ⟨by rw [← hbx]; rfl⟩
        have hbx3 : Aside0 (bx[3]? = some (.slice A3 (rd_T40 l0 x).f3.length n3)) := ⟨by rw [← hbx]; rfl⟩
        have S9 : Aside0 (c9.size = l0.length * 6) := ⟨by rw [← hc9]; simp only [Array.size_setIfInBounds]; exact HSZ.out⟩
        have HOX0 : Aside0 (w9.heap[gM]? = some (.cells c9 40 (0, 0))) := ⟨by rw [← hw9, ← hc9]; exact (blk_set (blk_set (blk_set (blk_set (blk_set (blk_set HC8.out (x.toNat * 6) _) (x.toNat * 6 + 1) _) (x.toNat * 6 + 2) _) (x.toNat * 6 + 3) _) (x.toNat * 6 + 4) _) (x.toNat * 6 + 5) _)⟩
        have HBX0 : Aside0 (w9.heap[gb]? = some (.cells bx 40 (0, 0))) := ⟨by rw [← hw9, ← hbx]; exact (blk_far (blk_far (blk_far (blk_far (blk_far (blk_far HBK8.out (p := ⟨gM, x.toNat * 6, none⟩) GNE.out _) (p := ⟨gM, x.toNat * 6 + 1, none⟩) GNE.out _) (p := ⟨gM, x.toNat * 6 + 2, none⟩) GNE.out _) (p := ⟨gM, x.toNat * 6 + 3, none⟩) GNE.out _) (p := ⟨gM, x.toNat * 6 + 4, none⟩) GNE.out _) (p := ⟨gM, x.toNat * 6 + 5, none⟩) GNE.out _)⟩
        have HB9 : Aside0 (Below w.heap.size w w9) := ⟨by rw [← hw9]; exact (Below.setCell (Below.setCell (Below.setCell (Below.setCell (Below.setCell (Below.setCell HBw8.out GM.out _) GM.out _) GM.out _) GM.out _) GM.out _) GM.out _)⟩
        have HK9 : Aside0 (∀ k, k ≠ gM → k < wr.heap.size → w9.heap[k]? = wr.heap[k]?) := ⟨fun k hk hlt => by
          rw [← hw9]
          exact ((Below.heap_setCell _ (⟨gM, x.toNat * 6 + 5, none⟩ : Addr) _ k hk).trans ((Below.heap_setCell _ (⟨gM, x.toNat * 6 + 4, none⟩ : Addr) _ k hk).trans ((Below.heap_setCell _ (⟨gM, x.toNat * 6 + 3, none⟩ : Addr) _ k hk).trans ((Below.heap_setCell _ (⟨gM, x.toNat * 6 + 2, none⟩ : Addr) _ k hk).trans ((Below.heap_setCell _ (⟨gM, x.toNat * 6 + 1, none⟩ : Addr) _ k hk).trans ((Below.heap_setCell _ (⟨gM, x.toNat * 6, none⟩ : Addr) _ k hk).trans (HW8.out.block k hlt)))))))⟩
        have HS9 : Aside0 (gM < w9.heap.size) := ⟨blk_lt HOX0.out⟩
        have HC9 := Aside0.mk hc9
        rw [hw9]
        clear hw9 hc9 hbx hcb0 hcb1 hcb2 hcb3 hcb4 hcb5 hco0 hco1 hco2 hco3 hco4 hco5 hfo0 hfo1 hfo2 hfo3 hfo4 hfo5 hx0 hx1 hx2 hx3 hx4 hx5
        refine start_ (n := 24) (S := fun w' => w'.cell? ⟨gb, 1, none⟩ = some (.slice A1 (rd_T40 l0 x).f1.length n1) ∧ w'.cell? ⟨gb, 2, none⟩ = some (.slice A2 (rd_T40 l0 x).f2.length n2) ∧ w'.cell? ⟨gb, 3, none⟩ = some (.slice A3 (rd_T40 l0 x).f3.length n3)) (ds := [17, 20, 23]) #[false, false, false, false, false, false, false, false, false, false, false, false, false, false, false, false, false, false, false, false, false, false, false, false] (by kernel_rfl) rfl rfl ⟨(blk_cell HBX0.out 1).trans hbx1.out, (blk_cell HBX0.out 2).trans hbx2.out, (blk_cell HBX0.out 3).trans hbx3.out⟩ (fun hHeld => ?_)
        refine with_tabW prune6tab prune6bits (fun HT_ HW_ => ?_)
        have HOX1 : Aside0 (w9.drew.heap[gM]? = some (.cells c9 40 (0, 0))) := ⟨HOX0.out⟩
        have HBX1 : Aside0 (w9.drew.heap[gb]? = some (.cells bx 40 (0, 0))) := ⟨HBX0.out⟩
        have HB10 : Aside0 (Below w.heap.size w w9.drew) := ⟨HB9.out.drew⟩
        have HK10 : Aside0 (∀ k, k ≠ gM → k < wr.heap.size → w9.drew.heap[k]? = wr.heap[k]?) := ⟨HK9.out⟩
        have HS10 : Aside0 (gM < w9.drew.heap.size) := ⟨HS9.out⟩
        have HSW : Aside0 (wr.heap.size ≤ w9.drew.heap.size) := ⟨Nat.le_of_lt (Nat.lt_of_le_of_lt GB.out (blk_lt HBX1.out))⟩
        have BL1 : Aside0 ((rd_T40 l0 x).f1.length < 8796093022208) := ⟨(BLS.out x.toNat LX.out).1⟩
        have BL2 : Aside0 ((rd_T40 l0 x).f2.length < 17592186044416) := ⟨(BLS.out x.toNat LX.out).2.1⟩
        have BL3 : Aside0 ((rd_T40 l0 x).f3.length < 17592186044416) := ⟨(BLS.out x.toNat LX.out).2.2⟩
        have HZ1 : Aside0 (Below w.heap.size w w9.drew) := ⟨HB10.out⟩
        generalize w9.drew = w10 at HOX1 HBX1 HB10 HK10 HS10 HSW HZ1 hHeld ⊢
        clear HOX0 HBX0 HB9 HK9 HS9
        refine pure_ (i := 0) (N := some 33) (v := ?_) (a' := ?_) #[true, false, false, false, false, false, false, false, false, false, false, false, false, false, false, false, false, false, false, false, false, false, false, false] rfl rfl (any_of HT_.out (by kernel_rfl)) (fun _ _ _ h => h) (Or.inl ⟨by rfl, ?_⟩) ?_ ?_
        rotate_left
        · intro w'
          go_simp
          with_reducible rfl
        rotate_left
        · simp only [Act.put, List.setIfInBounds_toArray, List.set_cons_zero, List.set_cons_succ, i64_w, i32_w]
          rfl
        refine pure_ (i := 1) (N := some 34) (v := ?_) (a' := ?_) #[true, true, false, false, false, false, false, false, false, false, false, false, false, false, false, false, false, false, false, false, false, false, false, false] rfl rfl (any_of HT_.out (by kernel_rfl)) (fun _ _ _ h => h) (Or.inl ⟨by rfl, ?_⟩) ?_ ?_
        rotate_left
        · intro w'
          go_simp
          with_reducible rfl
        rotate_left
        · simp only [Act.put, List.setIfInBounds_toArray, List.set_cons_zero, List.set_cons_succ, i64_w, i32_w]
          rfl
        refine pure_ (i := 2) (N := some 35) (v := ?_) (a' := ?_) #[true, true, true, false, false, false, false, false, false, false, false, false, false, false, false, false, false, false, false, false, false, false, false, false] rfl rfl (any_of HT_.out (by kernel_rfl)) (fun _ _ _ h => h) (Or.inl ⟨by rfl, ?_⟩) ?_ ?_
        rotate_left
        · intro w'
          go_simp
          with_reducible rfl
        rotate_left
        · simp only [Act.put, List.setIfInBounds_toArray, List.set_cons_zero, List.set_cons_succ, i64_w, i32_w]
          rfl
        refine pure_ (i := 3) (N := some 36) (v := ?_) (a' := ?_) #[true, true, true, true, false, false, false, false, false, false, false, false, false, false, false, false, false, false, false, false, false, false, false, false] rfl rfl (any_of HT_.out (by kernel_rfl)) (fun _ _ _ h => h) (Or.inl ⟨by rfl, ?_⟩) ?_ ?_
        rotate_left
        · intro w'
          go_simp
          with_reducible rfl
        rotate_left
        · simp only [Act.put, List.setIfInBounds_toArray, List.set_cons_zero, List.set_cons_succ, i64_w, i32_w]
          rfl
        refine pure_ (i := 4) (N := some 37) (v := ?_) (a' := ?_) #[true, true, true, true, true, false, false, false, false, false, false, false, false, false, false, false, false, false, false, false, false, false, false, false] rfl rfl (any_of HT_.out (by kernel_rfl)) (fun _ _ _ h => h) (Or.inl ⟨by rfl, ?_⟩) ?_ ?_
        rotate_left
        · intro w'
          go_simp
          with_reducible rfl
        rotate_left
        · simp only [Act.put, List.setIfInBounds_toArray, List.set_cons_zero, List.set_cons_succ, i64_w, i32_w]
          rfl
        refine pure_ (i := 5) (N := some 38) (v := ?_) (a' := ?_) #[true, true, true, true, true, true, false, false, false, false, false, false, false, false, false, false, false, false, false, false, false, false, false, false] rfl rfl (any_of HT_.out (by kernel_rfl)) (fun _ _ _ h => h) (Or.inl ⟨by rfl, ?_⟩) ?_ ?_
        rotate_left
        · intro w'
          go_simp
          with_reducible rfl
        rotate_left
        · simp only [Act.put, List.setIfInBounds_toArray, List.set_cons_zero, List.set_cons_succ, i64_w, i32_w]
          rfl
        refine pure_ (i := 6) (N := some 39) (v := ?_) (a' := ?_) #[true, true, true, true, true, true, true, false, false, false, false, false, false, false, false, false, false, false, false, false, false, false, false, false] rfl rfl (any_of HT_.out (by kernel_rfl)) (fun _ _ _ h => h) (Or.inl ⟨by rfl, ?_⟩) ?_ ?_
        rotate_left
        · intro w'
          go_simp
          with_reducible rfl
        rotate_left
        · simp only [Act.put, List.setIfInBounds_toArray, List.set_cons_zero, List.set_cons_succ, i64_w, i32_w]
          rfl
        refine pure_ (i := 9) (N := some 42) (v := ?_) (a' := ?_) #[true, true, true, true, true, true, true, false, false, true, false, false, false, false, false, false, false, false, false, false, false, false, false, false] rfl rfl (any_of HT_.out (by kernel_rfl)) (fun _ _ _ h => h) (Or.inl ⟨by rfl, ?_⟩) ?_ ?_
        rotate_left
        · intro w'
          go_simp
          with_reducible rfl
        rotate_left
        · simp only [Act.put, List.setIfInBounds_toArray, List.set_cons_zero, List.set_cons_succ, i64_w, i32_w]
          rfl
        refine pure_ (i := 12) (N := some 45) (v := ?_) (a' := ?_) #[true, true, true, true, true, true, true, false, false, true, false, false, true, false, false, false, false, false, false, false, false, false, false, false] rfl rfl (any_of HT_.out (by kernel_rfl)) (fun _ _ _ h => h) (Or.inl ⟨by rfl, ?_⟩) ?_ ?_
        rotate_left
        · intro w'
          go_simp
          with_reducible rfl
        rotate_left
        · simp only [Act.put, List.setIfInBounds_toArray, List.set_cons_zero, List.set_cons_succ, i64_w, i32_w]
          rfl
        refine take_ (i := 7) (N := some 40) (v := ?_) (a' := ?_) #[true, true, true, true, true, true, true, true, false, true, false, false, true, false, false, false, false, false, false, false, false, false, false, false] rfl rfl (take_ofW HT_.out HW_.out (by kernel_rfl)) (fun _ _ _ h => h) (Or.inl ⟨by rfl, ?_⟩) hHeld ?_ ?_
        rotate_left
        · rintro w' ⟨s1, s2, s3⟩
          go_simp
          with_reducible rfl
        rotate_left
        · simp only [Act.put, List.setIfInBounds_toArray, List.set_cons_zero, List.set_cons_succ, i64_w, i32_w]
          rfl
        refine take_ (i := 10) (N := some 43) (v := ?_) (a' := ?_) #[true, true, true, true, true, true, true, true, false, true, true, false, true, false, false, false, false, false, false, false, false, false, false, false] rfl rfl (take_ofW HT_.out HW_.out (by kernel_rfl)) (fun _ _ _ h => h) (Or.inl ⟨by rfl, ?_⟩) hHeld ?_ ?_
        rotate_left
        · rintro w' ⟨s1, s2, s3⟩
          go_simp
          with_reducible rfl
        rotate_left
        · simp only [Act.put, List.setIfInBounds_toArray, List.set_cons_zero, List.set_cons_succ, i64_w, i32_w]
          rfl
        refine take_ (i := 13) (N := some 46) (v := ?_) (a' := ?_) #[true, true, true, true, true, true, true, true, false, true, true, false, true, true, false, false, false, false, false, false, false, false, false, false] rfl rfl (take_ofW HT_.out HW_.out (by kernel_rfl)) (fun _ _ _ h => h) (Or.inl ⟨by rfl, ?_⟩) hHeld ?_ ?_
        rotate_left
        · rintro w' ⟨s1, s2, s3⟩
          go_simp
          with_reducible rfl
        rotate_left
        · simp only [Act.put, List.setIfInBounds_toArray, List.set_cons_zero, List.set_cons_succ, i64_w, i32_w]
          rfl
        refine one_ (i := 8) (N := some 41) #[true, true, true, true, true, true, true, true, true, true, true, false, true, true, false, false, false, false, false, false, false, false, false, false] rfl rfl (one_of HT_.out (by kernel_rfl)) (by decide) (fun K hK => ?_)
        refine goes_ Tryz.func12 (by kernel_rfl) rfl #[.slice A1 (rd_T40 l0 x).f1.length n1] (by rfl) rfl rfl (by (try simp only [List.map_toArray, List.map_cons, List.map_nil]); first | done | rfl) ?_
        refine (clone12 A1 n1 (rd_T40 l0 x).f1 w10 (Kd.C_below C1.out HZ1.out) BL1.out).mono ?_
        rintro e w11 ⟨v1, rfl, hR1, hb1⟩
        obtain ⟨Ao1, co1, eo1⟩ := Kd.R_slice hR1
        subst eo1
        refine ⟨_, rfl, ?_⟩
        have HQ1 := Aside0.mk hR1
        have HBb1 := Aside0.mk hb1
        have HZ2 : Aside0 (Below w.heap.size w w11) := ⟨below_step HZ1.out hb1⟩
        have HBX2 : Aside0 (w11.heap[gb]? = some (.cells bx 40 (0, 0))) := ⟨(hb1.block gb (blk_lt HBX1.out)).trans HBX1.out⟩
        have HOX2 : Aside0 (w11.heap[gM]? = some (.cells c9 40 (0, 0))) := ⟨(hb1.block gM (blk_lt HOX1.out)).trans HOX1.out⟩
        clear hR1 hb1
        refine hK.out _ _ ⟨(blk_cell HBX2.out 1).trans hbx1.out, (blk_cell HBX2.out 2).trans hbx2.out, (blk_cell HBX2.out 3).trans hbx3.out⟩ (fun hHeld => ?_)
        clear hK K
        refine norm_ (a' := ?_) ?_ ?_
        rotate_left
        · show Act.put _ (some 41) _ = _
          simp only [Act.put, List.setIfInBounds_toArray, List.set_cons_zero, List.set_cons_succ, i64_w, i32_w]
          rfl
        refine one_ (i := 11) (N := some 44) #[true, true, true, true, true, true, true, true, true, true, true, true, true, true, false, false, false, false, false, false, false, false, false, false] rfl rfl (one_of HT_.out (by kernel_rfl)) (by decide) (fun K hK => ?_)
        refine goes_ Tryz.func13 (by kernel_rfl) rfl #[.slice A2 (rd_T40 l0 x).f2.length n2] (by rfl) rfl rfl (by (try simp only [List.map_toArray, List.map_cons, List.map_nil]); first | done | rfl) ?_
        refine (clone13 A2 n2 (rd_T40 l0 x).f2 w11 (Kd.C_below C2.out HZ2.out) BL2.out).mono ?_
        rintro e w12 ⟨v2, rfl, hR2, hb2⟩
        obtain ⟨Ao2, co2, eo2⟩ := Kd.R_slice hR2
        subst eo2
        refine ⟨_, rfl, ?_⟩
        have HQ2 := Aside0.mk hR2
        have HBb2 := Aside0.mk hb2
        have HZ3 : Aside0 (Below w.heap.size w w12) := ⟨below_step HZ2.out hb2⟩
        have HBX3 : Aside0 (w12.heap[gb]? = some (.cells bx 40 (0, 0))) := ⟨(hb2.block gb (blk_lt HBX2.out)).trans HBX2.out⟩
        have HOX3 : Aside0 (w12.heap[gM]? = some (.cells c9 40 (0, 0))) := ⟨(hb2.block gM (blk_lt HOX2.out)).trans HOX2.out⟩
        clear hR2 hb2
        refine hK.out _ _ ⟨(blk_cell HBX3.out 1).trans hbx1.out, (blk_cell HBX3.out 2).trans hbx2.out, (blk_cell HBX3.out 3).trans hbx3.out⟩ (fun hHeld => ?_)
        clear hK K
        refine norm_ (a' := ?_) ?_ ?_
        rotate_left
        · show Act.put _ (some 44) _ = _
          simp only [Act.put, List.setIfInBounds_toArray, List.set_cons_zero, List.set_cons_succ, i64_w, i32_w]
          rfl
        refine one_ (i := 14) (N := some 47) #[true, true, true, true, true, true, true, true, true, true, true, true, true, true, true, false, false, false, false, false, false, false, false, false] rfl rfl (one_of HT_.out (by kernel_rfl)) (by decide) (fun K hK => ?_)
        refine goes_ Tryz.func13 (by kernel_rfl) rfl #[.slice A3 (rd_T40 l0 x).f3.length n3] (by rfl) rfl rfl (by (try simp only [List.map_toArray, List.map_cons, List.map_nil]); first | done | rfl) ?_
        refine (clone13 A3 n3 (rd_T40 l0 x).f3 w12 (Kd.C_below C3.out HZ3.out) BL3.out).mono ?_
        rintro e w13 ⟨v3, rfl, hR3, hb3⟩
        obtain ⟨Ao3, co3, eo3⟩ := Kd.R_slice hR3
        subst eo3
        refine ⟨_, rfl, ?_⟩
        have HQ3 := Aside0.mk hR3
        have HBb3 := Aside0.mk hb3
        have HZ4 : Aside0 (Below w.heap.size w w13) := ⟨below_step HZ3.out hb3⟩
        have HBX4 : Aside0 (w13.heap[gb]? = some (.cells bx 40 (0, 0))) := ⟨(hb3.block gb (blk_lt HBX3.out)).trans HBX3.out⟩
        have HOX4 : Aside0 (w13.heap[gM]? = some (.cells c9 40 (0, 0))) := ⟨(hb3.block gM (blk_lt HOX3.out)).trans HOX3.out⟩
        clear hR3 hb3
        refine hK.out _ _ ⟨(blk_cell HBX4.out 1).trans hbx1.out, (blk_cell HBX4.out 2).trans hbx2.out, (blk_cell HBX4.out 3).trans hbx3.out⟩ (fun hHeld => ?_)
        clear hK K
        refine norm_ (a' := ?_) ?_ ?_
        rotate_left
        · show Act.put _ (some 47) _ = _
          simp only [Act.put, List.setIfInBounds_toArray, List.set_cons_zero, List.set_cons_succ, i64_w, i32_w]
          rfl
        have hd1 : w13.cell? ⟨gM, x.toNat * 6 + 1, none⟩ = some (c9[x.toNat * 6 + 1]'(by have := S9.out; have := LX.out; omega)) := (blk_cell HOX4.out _).trans (Array.getElem?_eq_getElem _)
        have hg1 := blk_frozen HOX4.out (x.toNat * 6 + 1)
        have hd2 : w13.cell? ⟨gM, x.toNat * 6 + 2, none⟩ = some (c9[x.toNat * 6 + 2]'(by have := S9.out; have := LX.out; omega)) := (blk_cell HOX4.out _).trans (Array.getElem?_eq_getElem _)
        have hg2 := blk_frozen HOX4.out (x.toNat * 6 + 2)
        have hd3 : w13.cell? ⟨gM, x.toNat * 6 + 3, none⟩ = some (c9[x.toNat * 6 + 3]'(by have := S9.out; have := LX.out; omega)) := (blk_cell HOX4.out _).trans (Array.getElem?_eq_getElem _)
        have hg3 := blk_frozen HOX4.out (x.toNat * 6 + 3)
        refine pure_ (i := 15) (N := some 48) (v := ?_) (a' := ?_) #[true, true, true, true, true, true, true, true, true, true, true, true, true, true, true, true, false, false, false, false, false, false, false, false] rfl rfl (any_of HT_.out (by kernel_rfl)) (fun _ _ _ h => h) (Or.inl ⟨by rfl, ?_⟩) ?_ ?_
        rotate_left
        · intro w'
          go_simp
          with_reducible rfl
        rotate_left
        · simp only [Act.put, List.setIfInBounds_toArray, List.set_cons_zero, List.set_cons_succ, i64_w, i32_w]
          rfl
        refine pure_ (i := 16) (N := some 49) (v := ?_) (a' := ?_) #[true, true, true, true, true, true, true, true, true, true, true, true, true, true, true, true, true, false, false, false, false, false, false, false] rfl rfl (any_of HT_.out (by kernel_rfl)) (fun _ _ _ h => h) (Or.inl ⟨by rfl, ?_⟩) ?_ ?_
        rotate_left
        · intro w'
          go_simp
          with_reducible rfl
        rotate_left
        · simp only [Act.put, List.setIfInBounds_toArray, List.set_cons_zero, List.set_cons_succ, i64_w, i32_w]
          rfl
        refine last_ (i := 17) (N := none) #[true, true, true, true, true, true, true, true, true, true, true, true, true, true, true, true, true, true, false, false, false, false, false, false] rfl rfl (one_of HT_.out (by kernel_rfl)) (by decide) (fun K hK => ?_)
        refine skip_ (w1 := ?_) (by rfl) rfl ?_ ?_
        rotate_left
        · go_simp
          rfl
        refine hK.out _ _ ?_
        clear hK K
        refine pure_ (i := 18) (N := some 50) (v := ?_) (a' := ?_) #[true, true, true, true, true, true, true, true, true, true, true, true, true, true, true, true, true, true, true, false, false, false, false, false] rfl rfl (any_of HT_.out (by kernel_rfl)) (fun _ _ _ h => h) (Or.inl ⟨by rfl, ?_⟩) ?_ ?_
        rotate_left
        · intro w'
          go_simp
          with_reducible rfl
        rotate_left
        · simp only [Act.put, List.setIfInBounds_toArray, List.set_cons_zero, List.set_cons_succ, i64_w, i32_w]
          rfl
        refine pure_ (i := 19) (N := some 51) (v := ?_) (a' := ?_) #[true, true, true, true, true, true, true, true, true, true, true, true, true, true, true, true, true, true, true, true, false, false, false, false] rfl rfl (any_of HT_.out (by kernel_rfl)) (fun _ _ _ h => h) (Or.inl ⟨by rfl, ?_⟩) ?_ ?_
        rotate_left
        · intro w'
          go_simp
          with_reducible rfl
        rotate_left
        · simp only [Act.put, List.setIfInBounds_toArray, List.set_cons_zero, List.set_cons_succ, i64_w, i32_w]
          rfl
        refine last_ (i := 20) (N := none) #[true, true, true, true, true, true, true, true, true, true, true, true, true, true, true, true, true, true, true, true, true, false, false, false] rfl rfl (one_of HT_.out (by kernel_rfl)) (by decide) (fun K hK => ?_)
        refine skip_ (w1 := ?_) (by rfl) rfl ?_ ?_
        rotate_left
        · go_simp
          rfl
        refine hK.out _ _ ?_
        clear hK K
        refine pure_ (i := 21) (N := some 52) (v := ?_) (a' := ?_) #[true, true, true, true, true, true, true, true, true, true, true, true, true, true, true, true, true, true, true, true, true, true, false, false] rfl rfl (any_of HT_.out (by kernel_rfl)) (fun _ _ _ h => h) (Or.inl ⟨by rfl, ?_⟩) ?_ ?_
        rotate_left
        · intro w'
          go_simp
          with_reducible rfl
        rotate_left
        · simp only [Act.put, List.setIfInBounds_toArray, List.set_cons_zero, List.set_cons_succ, i64_w, i32_w]
          rfl
        refine pure_ (i := 22) (N := some 53) (v := ?_) (a' := ?_) #[true, true, true, true, true, true, true, true, true, true, true, true, true, true, true, true, true, true, true, true, true, true, true, false] rfl rfl (any_of HT_.out (by kernel_rfl)) (fun _ _ _ h => h) (Or.inl ⟨by rfl, ?_⟩) ?_ ?_
        rotate_left
        · intro w'
          go_simp
          with_reducible rfl
        rotate_left
        · simp only [Act.put, List.setIfInBounds_toArray, List.set_cons_zero, List.set_cons_succ, i64_w, i32_w]
          rfl
        refine last_ (i := 23) (N := none) #[true, true, true, true, true, true, true, true, true, true, true, true, true, true, true, true, true, true, true, true, true, true, true, true] rfl rfl (one_of HT_.out (by kernel_rfl)) (by decide) (fun K hK => ?_)
        refine skip_ (w1 := ?_) (by rfl) rfl ?_ ?_
        rotate_left
        · go_simp
          rfl
        refine hK.out _ _ ?_
        clear hK K
        refine done_ (done_of HT_.out (by kernel_rfl)) ?_
        try go_wp2
        have hwr : wrap64 (x + 1) = x + 1 := by have := HL.out; have := LX.out; have := H0.out; unfold wrap64; omega
        have hx1 : (x + 1).toNat = x.toNat + 1 := by have := H0.out; omega
        have hz1 : w10.heap.size ≤ w11.heap.size := HBb1.out.size
        have hz2 : w11.heap.size ≤ w12.heap.size := HBb2.out.size
        have hz3 : w12.heap.size ≤ w13.heap.size := HBb3.out.size
        have hgM := HS10.out
        have hMade : Made l0 gM (x + 1).toNat (((w13.setCell ⟨gM, x.toNat * 6 + 1, none⟩ (.slice Ao1 (rd_T40 l0 x).f1.length co1)).setCell ⟨gM, x.toNat * 6 + 2, none⟩ (.slice Ao2 (rd_T40 l0 x).f2.length co2)).setCell ⟨gM, x.toNat * 6 + 3, none⟩ (.slice Ao3 (rd_T40 l0 x).f3.length co3)) := by
          rw [hx1]
          have e9 : six cur x.toNat (.bool (rd_T40 l0 x).f0) (.slice A1 (rd_T40 l0 x).f1.length n1) (.slice A2 (rd_T40 l0 x).f2.length n2) (.slice A3 (rd_T40 l0 x).f3.length n3) (.int .i64 (rd_T40 l0 x).f4) (.int .i64 (rd_T40 l0 x).f5) = c9 := HC9.out
          refine made_step (wr := wr) (cur := cur) (c' := nine cur x.toNat (.bool (rd_T40 l0 x).f0) (.slice A1 (rd_T40 l0 x).f1.length n1) (.slice A2 (rd_T40 l0 x).f2.length n2) (.slice A3 (rd_T40 l0 x).f3.length n3) (.int .i64 (rd_T40 l0 x).f4) (.int .i64 (rd_T40 l0 x).f5) (.slice Ao1 (rd_T40 l0 x).f1.length co1) (.slice Ao2 (rd_T40 l0 x).f2.length co2) (.slice Ao3 (rd_T40 l0 x).f3.length co3)) LX.out HDO.out ?_ ?_ ?_ ?_ [.bool (rd_T40 l0 x).f0, .slice Ao1 (rd_T40 l0 x).f1.length co1, .slice Ao2 (rd_T40 l0 x).f2.length co2, .slice Ao3 (rd_T40 l0 x).f3.length co3, .int .i64 (rd_T40 l0 x).f4, .int .i64 (rd_T40 l0 x).f5] rfl ?_ ?_
          · unfold nine
            rw [e9]
            exact blk_set (blk_set (blk_set HOX4.out _ _) _ _) _ _
          · rw [nine_size]; exact HSZ.out
          · intro k hne hlt
            have hl10 : k < w10.heap.size := Nat.lt_of_lt_of_le hlt HSW.out
            exact ((Below.heap_setCell _ (⟨gM, x.toNat * 6 + 3, none⟩ : Addr) _ k hne).trans ((Below.heap_setCell _ (⟨gM, x.toNat * 6 + 2, none⟩ : Addr) _ k hne).trans ((Below.heap_setCell _ (⟨gM, x.toNat * 6 + 1, none⟩ : Addr) _ k hne).trans ((HBb3.out.block k (by omega)).trans ((HBb2.out.block k (by omega)).trans ((HBb1.out.block k hl10).trans (HK10.out k hne hlt)))))))
          · exact fun q hq => nine_low _ _ _ _ _ _ _ _ _ _ _ q hq
          · refine k40_mkM _ (gM + 1) _ (rd_T40 l0 x) ?_ ?_ ?_
            · exact Kd.R_step (Kd.R_mono (Kd.R_bound (Kd.R_lower HQ1.out (show gM + 1 ≤ w10.heap.size by omega))) (fun k hk => show k ≠ gM by have := hk.2.1; omega)) (fun k hne hlt => ((Below.heap_setCell _ (⟨gM, x.toNat * 6 + 3, none⟩ : Addr) _ k hne).trans ((Below.heap_setCell _ (⟨gM, x.toNat * 6 + 2, none⟩ : Addr) _ k hne).trans ((Below.heap_setCell _ (⟨gM, x.toNat * 6 + 1, none⟩ : Addr) _ k hne).trans ((HBb3.out.block k (by omega)).trans (HBb2.out.block k hlt))))))
            · exact Kd.R_step (Kd.R_mono (Kd.R_bound (Kd.R_lower HQ2.out (show gM + 1 ≤ w11.heap.size by omega))) (fun k hk => show k ≠ gM by have := hk.2.1; omega)) (fun k hne hlt => ((Below.heap_setCell _ (⟨gM, x.toNat * 6 + 3, none⟩ : Addr) _ k hne).trans ((Below.heap_setCell _ (⟨gM, x.toNat * 6 + 2, none⟩ : Addr) _ k hne).trans ((Below.heap_setCell _ (⟨gM, x.toNat * 6 + 1, none⟩ : Addr) _ k hne).trans (HBb3.out.block k hlt)))))
            · exact Kd.R_step (Kd.R_mono (Kd.R_bound (Kd.R_lower HQ3.out (show gM + 1 ≤ w12.heap.size by omega))) (fun k hk => show k ≠ gM by have := hk.2.1; omega)) (fun k hne hlt => ((Below.heap_setCell _ (⟨gM, x.toNat * 6 + 3, none⟩ : Addr) _ k hne).trans ((Below.heap_setCell _ (⟨gM, x.toNat * 6 + 2, none⟩ : Addr) _ k hne).trans ((Below.heap_setCell _ (⟨gM, x.toNat * 6 + 1, none⟩ : Addr) _ k hne).trans (Eq.refl (w13.heap[k]?))))))
          · exact nine_new _ _ _ _ _ _ _ _ _ _ _ (by have := HSZ.out; have := LX.out; omega)
        have hBel : Below w.heap.size w (((w13.setCell ⟨gM, x.toNat * 6 + 1, none⟩ (.slice Ao1 (rd_T40 l0 x).f1.length co1)).setCell ⟨gM, x.toNat * 6 + 2, none⟩ (.slice Ao2 (rd_T40 l0 x).f2.length co2)).setCell ⟨gM, x.toNat * 6 + 3, none⟩ (.slice Ao3 (rd_T40 l0 x).f3.length co3)) := Below.setCell (Below.setCell (Below.setCell HZ4.out GM.out _) GM.out _) GM.out _
        have HMade := Aside0.mk hMade
        have HBel := Aside0.mk hBel
        clear hMade hBel hd1 hd2 hd3 hg1 hg2 hg3
        go_roundg k1
        case measure => omega
        case rel => exact ⟨x + 1, by rw [hwr], ⟨by have := H0.out; omega⟩, ⟨by have := LX.out; omega⟩, ⟨by have := HI.out; omega⟩, HMade, HBel⟩
      · have c2b0 : decide (x < (l0.length : Int)) = false := decide_eq_false c2
        have hxe : x.toNat = l0.length := by have := H0.out; have := H1.out; omega
        go_wp2
        refine bodyPost_ret (results_tmp3 rfl _ _ _) rfl ?_
        obtain ⟨cur, hcur, hsz, hdone⟩ := HM.out
        refine ⟨some ⟨gM, 0, none⟩, l0.length, rfl, Nat.le_refl _, ⟨rfl, ?_, fun hn => ⟨_, rfl, fun j p hp => ?_⟩⟩, ?_⟩
        · have := HL.out; omega
        · obtain ⟨c, e1, e2, e3⟩ := hdone j p (by rw [hxe]; exact (List.getElem?_eq_some_iff.1 hp).1) hp
          refine ⟨c, e1, k40.K_of_M e2, fun i u hu => ?_⟩
          have := (blk_cell hcur (j * 6 + i)).trans (e3 i u hu)
          show wr.cell? ((⟨gM, 0, none⟩ : Addr).add (j * 6 + i)) = some u
          rw [add_plain]
          exact this
        · exact HB.out
end Go.Proofs.YtfoifipkehjncaaGreatDoor.PSearchNil
