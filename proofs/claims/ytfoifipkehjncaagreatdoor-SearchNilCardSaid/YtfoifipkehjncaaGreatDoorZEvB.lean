/- The evaluator's runs and what they mean. -/
import Derived.Test.YtfoifipkehjncaaGreatDoorZEvA
import Derived.Laws.Append
import Derived.Laws.BytesArg
import Derived.RangeFuncLeaves
import Derived.CheckFast
set_option linter.unusedVariables false
set_option linter.unusedSimpArgs false
namespace Go.Ev
open Go.RowKit

variable {P : Program} {B0 : Base} {H : Hid} {s s' : St} {ρ : Ren} {G : Hp} {w : World} {nx : Nx}

theorem fold_over (off : Nat) : ∀ (l : List Value) (k : Nat) (C : Array Value), (l.zipIdx k).foldl (fun cs (c, j) => cs.setIfInBounds (off + j) c) C = over C (off + k) l
  | [], k, C => by simp [over]
  | v :: l, k, C => by
    simp only [List.zipIdx_cons, List.foldl_cons, over]
    rw [fold_over off l (k + 1)]
    rfl

theorem arr_fold_over (off : Nat) (vs C : Array Value) : vs.zipIdx.foldl (fun cs (c, j) => cs.setIfInBounds (off + j) c) C = over C off vs.toList := by
  rw [← Array.foldl_toList, Array.toList_zipIdx]
  have := fold_over off vs.toList 0 C
  simpa using this

theorem VRs.over {C C' : Array Value} {l l' : List Value} {o : Nat} (hC : VRs ρ C.toList C'.toList) (hl : VRs ρ l l') (ho : o + l.length ≤ C.size) : VRs ρ (Ev.over C o l).toList (Ev.over C' o l').toList := by
  have h1 := hC.length
  have h2 := hl.length
  simp only [Array.length_toList] at h1
  refine VRs.of_get ?_ fun k v v' a b => ?_
  · simp [over_size, h1]
  · rw [Array.getElem?_toList, over_get _ _ _ _ ho] at a
    rw [Array.getElem?_toList, over_get _ _ _ _ (by omega)] at b
    by_cases e : o ≤ k ∧ k < o + l.length
    · rw [if_pos e] at a
      rw [if_pos (by omega)] at b
      obtain ⟨u, hu, hr⟩ := hl.get a
      rw [hu] at b; cases b; exact hr
    · rw [if_neg e] at a
      rw [if_neg (by omega)] at b
      rw [← Array.getElem?_toList] at a b
      obtain ⟨u, hu, hr⟩ := hC.get a
      rw [hu] at b; cases b; exact hr

inductive PsR (ρ : Ren) : List (Nat × Value) → List (Nat × Value) → Prop
  | nil : PsR ρ [] []
  | cons {i : Nat} {v v' : Value} {l l' : List (Nat × Value)} (h : VR ρ v v') (t : PsR ρ l l') : PsR ρ ((i, v) :: l) ((i, v') :: l')

theorem cells_size {v v' : Value} (h : VR ρ v v') : v.cells.size = v'.cells.size := by
  have := (Value.cells_toList h).length
  rw [vcells_cells] at this
  simpa using this

theorem fill_rel {place : Nat → Option (Nat × Nat)} : ∀ {ps ps' : List (Nat × Value)}, PsR ρ ps ps' → ∀ {C C' r : Array Value}, VRs ρ C.toList C'.toList → Instr.fill place C ps = some r →
    ∃ r', Instr.fill place C' ps' = some r' ∧ VRs ρ r.toList r'.toList ∧ r.size = C.size
  | _, _, .nil, C, C', r, hC, h => by
    simp only [Instr.fill, Option.some.injEq] at h
    subst h
    exact ⟨C', rfl, hC, rfl⟩
  | _, _, .cons (i := i) (v := v) (v' := v') hv t, C, C', r, hC, h => by
    simp only [Instr.fill] at h ⊢
    cases hp : place i with
    | none => rw [hp] at h; cases h
    | some os =>
      obtain ⟨off, sz⟩ := os
      rw [hp] at h
      simp only at h ⊢
      have hc := cells_size hv
      have hCs := hC.length
      simp only [Array.length_toList] at hCs
      split at h
      · cases h
      · rename_i hn
        rw [if_neg (by rw [← hc, ← hCs]; exact hn)]
        simp only [Bool.or_eq_true, decide_eq_true_eq, not_or, Nat.not_lt, ne_eq, Decidable.not_not] at hn
        rw [arr_fold_over] at h ⊢
        have hvs : VRs ρ v.cells.toList v'.cells.toList := by
          have := Value.cells_toList hv
          rw [vcells_cells] at this; exact this
        obtain ⟨r', h1, h2, h3⟩ := fill_rel t (VRs.over hC hvs (by simp; omega)) h
        exact ⟨r', h1, h2, by rw [h3, over_size]⟩

theorem run_places : ∀ (fs : List Field) (pl : List (Nat × Nat)), structPlaces P fs = some pl →
    (fs.mapM (fun f => (do pure (f.offset, ← sizeOf f.type) : Sem (Nat × Nat)))).run P w = .ok pl w
  | [], pl, h => by simp only [structPlaces, Option.some.injEq] at h; subst h; simp
  | f :: fs, pl, h => by
    simp only [structPlaces] at h
    split at h
    · rename_i ti ht
      split at h
      · rename_i l hl
        cases h
        rw [List.mapM_cons]
        simp only [Sem.run_bind, run_sizeOf ht, Result.andThen_ok, Sem.run_pure, run_places fs l hl]
      · cases h
    · cases h

theorem ground_cells {z : Value} (hg : ground z = true) : VRs ρ (vcells z) z.cells.toList := Value.cells_toList (ground_self hg)

theorem s_buildStruct {t : TypeId} {ti : TI} {fs : Array Field} {z : Value} {pl : List (Nat × Nat)} {ps : List (Nat × Value)} {ps' : Array (Nat × Value)} (h : doBuild (vcells z) (fun i => pl[i]?) ps s = .ok nx s') (hps : PsR ρ ps ps'.toList) (p : Pre B0 H s s' ρ G w)
    (ht : tiOf P t = some ti) (hu : ti.und = .struct fs) (hz : ti.zero = some z) (hg : ground z = true) (hpl : structPlaces P fs.toList = some pl) :
    Done P B0 H s s' ρ G w nx (semV (Instr.build t ps')) := by
  obtain ⟨i, hi, hund, _, _, _⟩ := tiOf_spec ht
  rw [hu] at hund
  unfold doBuild at h
  split at h
  · rename_i r hr
    obtain ⟨rfl, rfl⟩ := ok_inj h
    obtain ⟨r', h1, h2, _⟩ := fill_rel (C' := z.cells) hps (ground_cells hg) hr
    refine done_same (v' := .agg r') p ?_ (.agg h2)
    have hp : (fs.mapM (fun f => (do pure (f.offset, ← sizeOf f.type) : Sem (Nat × Nat)))).run P w = .ok pl.toArray w := by
      have := run_places (w := w) fs.toList pl hpl
      rw [← Array.toArray_toList (xs := fs), List.mapM_toArray]
      simp only [Sem.run_map, this, Result.andThen_ok]
    simp only [Instr.build, Sem.run_bind, run_zeroValue ht hz, run_underlying hund, Result.andThen_ok]
    rw [hp]
    simp only [Result.andThen_ok]
    have : (fun i : Nat => pl.toArray[i]?) = (fun i : Nat => pl[i]?) := by funext i; simp
    rw [this, h1]
    simp
  · cases h

theorem s_buildArray {t e : TypeId} {n : Nat} {ti te : TI} {z : Value} {ps : List (Nat × Value)} {ps' : Array (Nat × Value)} (h : doBuild (vcells z) (fun i => some (i * te.size, te.size)) ps s = .ok nx s') (hps : PsR ρ ps ps'.toList) (p : Pre B0 H s s' ρ G w)
    (ht : tiOf P t = some ti) (hu : ti.und = .array n e) (hz : ti.zero = some z) (hg : ground z = true) (he : tiOf P e = some te) :
    Done P B0 H s s' ρ G w nx (semV (Instr.build t ps')) := by
  obtain ⟨i, hi, hund, _, _, _⟩ := tiOf_spec ht
  rw [hu] at hund
  unfold doBuild at h
  split at h
  · rename_i r hr
    obtain ⟨rfl, rfl⟩ := ok_inj h
    obtain ⟨r', h1, h2, _⟩ := fill_rel (C' := z.cells) hps (ground_cells hg) hr
    refine done_same (v' := .agg r') p ?_ (.agg h2)
    simp only [Instr.build, Sem.run_bind, run_zeroValue ht hz, run_underlying hund, Result.andThen_ok, run_sizeOf he]
    rw [h1]
    simp
  · cases h

theorem s_buildSlice {t e : TypeId} {n : Nat} {te : TI} {z : Value} {ps : List (Nat × Value)} {ps' : Array (Nat × Value)} (h : doBuildSlice e n te.size (vcells z) ps s = .ok nx s') (hps : PsR ρ ps ps'.toList) (p : Pre B0 H s s' ρ G w)
    (hu : P.underlying t = some (.slice e)) (ht : tiOf P e = some te) (hz : te.zero = some z) (hg : ground z = true) (hsz : (vcells z).length = te.size) (hn : n * te.size ≤ 65536) :
    Done P B0 H s s' ρ G w nx (semV (Instr.buildSlice t n ps')) := by
  unfold doBuildSlice at h
  split at h
  · rename_i r hr
    obtain ⟨rfl, rfl⟩ := ok_inj h
    have hcells : z.cells.size = te.size := by rw [← Array.length_toList, ← vcells_cells]; exact hsz
    -- the machine's row of zeros
    have hrow : ∃ C : Array Value, C.toList = repl z.cells.toList n ∧ ∀ r', Instr.fill (fun i => some (i * te.size, te.size)) C ps'.toList = some r' →
        (Instr.buildSlice t n ps').run P w = .ok (.slice (some ⟨w.heap.size, 0, none⟩) n n) { w with heap := w.heap.push (.cells r' e) } := by
      have hbig : ¬ n * te.size > 2 ^ 24 := by omega
      by_cases hzero : n * te.size = 0
      · refine ⟨#[], ?_, fun r' hr' => ?_⟩
        · symm
          apply List.eq_nil_of_length_eq_zero
          rw [repl_length, Array.length_toList, hcells]; exact hzero
        · have hbig2 : ¬ 0 > 2 ^ 24 := by omega
          simp only [Instr.buildSlice, Sem.run_bind, run_underlying hu, Result.andThen_ok, run_sizeOf ht, hzero, hbig2, if_false, Sem.run_pure, if_true]
          rw [show ∀ f : Nat → Value, (Array.range 0).map f = #[] from fun f => by simp, hr']
          simp only [Sem.run_bind, run_newRow, Result.andThen_ok, Sem.run_pure]
      · refine ⟨((Array.range (n * te.size)).map (z.cells[· % z.cells.size]!)), zeros_eq z.cells n te.size hcells, fun r' hr' => ?_⟩
        simp only [Instr.buildSlice, Sem.run_bind, run_underlying hu, Result.andThen_ok, run_sizeOf ht, hbig, if_false, Sem.run_pure, hzero, run_zeroValue ht hz]
        rw [hr']
        simp only [Sem.run_bind, run_newRow, Result.andThen_ok, Sem.run_pure]
    obtain ⟨C, hC1, hC2⟩ := hrow
    obtain ⟨r', h1, h2, h3⟩ := fill_rel (C' := C) hps (by rw [hC1]; exact VRs.repl (ground_cells hg) n) hr
    have hlen : r.toList.length = n * te.size := by
      rw [Array.length_toList, h3]; show (repl (vcells z) n).length = _; rw [repl_length, hsz]
    have hle : RenLe ρ (ρ.put s.next ⟨w.heap.size, 0, r'.size⟩) := Ren.le_put (p.fresh s.next (Nat.le_refl _) (Nat.lt_succ_self _))
    refine done_post (hC2 r' h1) (.slice (l := ⟨w.heap.size, 0, r'.size⟩) Ren.put_same (.inl rfl) (Nat.le_refl _)) (Post.new' (obj := .cells r' e) r'.size p ?_)
    exact objR_trOf (h2.mono hle) hlen ⟨[], by simp⟩ rfl rfl
  · cases h

end Go.Ev

set_option linter.unusedVariables false
set_option linter.unusedSimpArgs false
namespace Go.Ev
open Go.RowKit

variable {P : Program} {B0 : Base} {H : Hid} {s s' : St} {ρ : Ren} {G : Hp} {w : World} {nx : Nx}

/-- the source of an append: its length, and its cells -/
theorem src_run {y y' : Value} {sz m : Nat} {vs : List Value} {s2 : St} (h : srcOf H sz y s = some (m, vs)) (hy : VR ρ y y') (p : Pre B0 H s s2 ρ G w) :
    (Builtin.lenOf y').run P w = .ok m w ∧ vs.length = m * sz ∧
    ∃ C : Array Value, VRs ρ vs C.toList ∧ ∀ w1 : World, w1.heap = w.heap → (Builtin.firstCells sz m y').run P w1 = .ok C w1 := by
  unfold srcOf at h
  split at h
  · cases h
    cases hy
    refine ⟨by simp [Builtin.lenOf], by simp, #[], .nil, fun w1 _ => by simp [Builtin.firstCells]⟩
  · rename_i b o sp n cap
    split at h
    · rename_i c k e hv
      split at h
      · rename_i l hl
        obtain ⟨rfl, rfl⟩ : n = m ∧ l = vs := by simpa using h
        obtain ⟨m', hm1, hm2, hm3⟩ := ldN_spec _ _ _ _ _ hl
        rw [List.append_nil] at hm1
        subst hm1
        have main : ∀ (lc : Loc) (o' c' : Nat), ρ b = some lc → (o' = lc.sh + o ∨ n = 0) → y' = .slice (some ⟨lc.blk, o', none⟩) n c' →
            (Builtin.lenOf y').run P w = .ok n w ∧ l.length = n * sz ∧ ∃ C : Array Value, VRs ρ l C.toList ∧ ∀ w1 : World, w1.heap = w.heap → (Builtin.firstCells sz n y').run P w1 = .ok C w1 := by
          intro lc o' c' hloc ho hy'
          subst hy'
          refine ⟨by simp [Builtin.lenOf], hm2, ?_⟩
          by_cases h0 : n * sz = 0
          · have : l = [] := List.eq_nil_of_length_eq_zero (by omega)
            subst this
            exact ⟨#[], .nil, fun w1 _ => by simp [Builtin.firstCells, h0, loadCells, loadCellsFrom]⟩
          · have ho : o' = lc.sh + o := by
              rcases ho with ho | ho
              · exact ho
              · subst ho; simp at h0
            obtain ⟨C, e', fz, h1, h2, h3, h4, h5⟩ := cells_of_vis p hv hloc
            have hb := bound_of_get h5 hm2 hm3 (by omega)
            refine ⟨_, vrs_of_cells h5 hm2 hm3 hb, fun w1 hw1 => ?_⟩
            simp only [Builtin.firstCells]
            rw [ho]
            exact run_loadCells (by rw [hw1]; exact h1) hb
        cases hy with
        | slice hloc ho hn =>
          rename_i o' lc
          refine main lc o' cap hloc ?_ rfl
          rcases ho with ho | ho
          · exact .inl ho
          · exact .inr (by omega)
        | sliceG hloc ho hn ht =>
          rename_i o' c' sz' lc
          exact main lc o' c' hloc ho rfl
      · cases h
    · cases h
  · rename_i b
    cases hb : Nat.beq sz 1 with
    | false => rw [hb] at h; cases h
    | true =>
      rw [hb] at h
      have h : some (b.data.toList.length, b.data.toList.map fun x => Value.int .u8 x.toNat) = some (m, vs) := h
      cases h
      cases hy
      have hsz : sz = 1 := by simpa [Nat.beq_eq] using hb
      subst hsz
      refine ⟨by simp [Builtin.lenOf], by simp, b.data.map fun x => .int .u8 x.toNat, ?_, fun w1 _ => by simp [Builtin.firstCells]⟩
      · have : ∀ l : List UInt8, VRs ρ (l.map fun x => Value.int .u8 x.toNat) (l.map fun x => Value.int .u8 x.toNat) := by
          intro l
          induction l with
          | nil => exact .nil
          | cons a l ih => exact .cons (.int _ _) ih
        simpa using this b.data.toList
  · cases h


/-- values that are each one cell -/
def ones (l : List Value) : Bool := l.all oneC

theorem ones_of {l l' : List Value} (h : VRs ρ l l') (ho : ones l = true) : ∀ v ∈ l', oneC v = true := by
  intro u hu
  obtain ⟨k, hk1, hk2⟩ := List.getElem_of_mem hu
  have hlen := h.length
  have hk3 : k < l.length := by omega
  have hg : l[k]? = some (l[k]) := List.getElem?_eq_getElem hk3
  obtain ⟨u', hu1, hu2⟩ := h.get hg
  rw [List.getElem?_eq_getElem hk1, hk2] at hu1
  cases hu1
  exact oneC_of hu2 (List.all_eq_true.1 ho _ (List.getElem_mem hk3))

structure AppendOk (P : Program) (t t2 e : TypeId) (te : TI) (i : TypeInfo) : Prop where
  ut : P.underlying t = some (.slice e)
  u2 : ∃ d, P.underlying t2 = some d ∧ ∀ k, d ≠ .int k
  he : tiOf P e = some te
  hi : P.info? e = some i

/-- within the capacity -/
theorem run_append_in {t t2 ty e : TypeId} {te : TI} {i : TypeInfo} {base : Option Addr} {n cap m : Nat} {y' : Value} {C : Array Value} (k : AppendOk P t t2 e te i)
    (hlen : (Builtin.lenOf y').run P w = .ok m w) (hle : n + m ≤ cap) (hsrc : (Builtin.firstCells te.size m y').run P w = .ok C w) :
    (Builtin.append_ ⟨[t, t2]⟩ ty ⟨[.slice base n cap, y']⟩).run P w = ((match base with | some a => storeCells (a.add (n * te.size)) C.toList | none => pure ()) >>= fun _ => pure (.slice base (n + m) cap) : Sem Value).run P w := by
  obtain ⟨d, hd, hnd⟩ := k.u2
  have hd2 : (∃ k, d = .int k) → False := fun ⟨k, h⟩ => hnd k h
  cases d <;> first | exact (hd2 ⟨_, rfl⟩).elim | skip
  all_goals
    simp only [Builtin.append_, List.getElem?_toArray, List.getElem?_cons_zero, List.getElem?_cons_succ, Sem.run_bind, run_underlying k.ut, run_underlying hd, Result.andThen_ok, run_sizeOf k.he, Sem.run_pure, Bool.false_eq_true, if_false, hlen, hle, if_true, Bool.not_false, hsrc]
    cases base <;> simp

variable {old new : List Value}
/-- beyond the capacity: a new block -/
theorem run_append_new {t t2 ty e : TypeId} {te : TI} {i : TypeInfo} {base : Option Addr} {n cap m : Nat} {y' : Value} (k : AppendOk P t t2 e te i)
    (hlen : (Builtin.lenOf y').run P w = .ok m w) (hgt : cap < n + m) (hbig : (n + m) * (i.bytes + 1) ≤ 4294967296)
    (hz : ∃ z, te.zero = some z)
    (hold : ∀ w1 : World, w1.heap = w.heap → ∃ C, (Builtin.firstCells te.size n (.slice base n cap)).run P w1 = .ok C w1 ∧ C.toList = old)
    (hsrc : ∀ w1 : World, w1.heap = w.heap → ∃ C, (Builtin.firstCells te.size m y').run P w1 = .ok C w1 ∧ C.toList = new) :
    ∃ (C : Array Value) (cap' : Nat) (w' : World), (Builtin.append_ ⟨[t, t2]⟩ ty ⟨[.slice base n cap, y']⟩).run P w = .ok (.slice (some ⟨w.heap.size, 0, none⟩) (n + m) cap') w' ∧
      w' = { w with heap := w.heap.push (.cells C e), drawn := w.drawn + 1 } ∧ n + m ≤ cap' ∧ ∃ rest, C.toList = old ++ new ++ rest ∧ rest.length = (cap' - (n + m)) * (match te.zero with | some z => z.cells.size | none => 0) := by
  obtain ⟨d, hd, hnd⟩ := k.u2
  obtain ⟨z, hz⟩ := hz
  have hd2 : (∃ k, d = .int k) → False := fun ⟨k, h⟩ => hnd k h
  have hle : ¬ n + m ≤ cap := by omega
  have hb1 : n + m ≤ 4294967296 := by
    have : (n + m) * 1 ≤ (n + m) * (i.bytes + 1) := Nat.mul_le_mul_left _ (by omega)
    omega
  have hfit : ¬ Builtin.nextslicecap (n + m) cap * i.bytes > 2 ^ 48 := by
    have h1 := nextslicecap_le (need := n + m) (old := cap) hgt
    have h2 : Builtin.nextslicecap (n + m) cap * i.bytes ≤ 2 * (n + m) * (i.bytes + 1) := Nat.mul_le_mul h1 (by omega)
    have h3 : 2 * (n + m) * (i.bytes + 1) = 2 * ((n + m) * (i.bytes + 1)) := by rw [Nat.mul_assoc]
    omega
  have hmax : ¬ (((n + m : Nat) : Int) > IntKind.i64.max ∧ (False ∨ i.bytes = 0)) := by
    have : IntKind.i64.max = 9223372036854775807 := by decide
    rw [this]; omega
  generalize hw1 : ({ w with drawn := w.drawn + 1 } : World) = w1
  have hheap : w1.heap = w.heap := by rw [← hw1]
  obtain ⟨C1, hC1, hC1'⟩ := hold w1 hheap
  obtain ⟨C2, hC2, hC2'⟩ := hsrc w1 hheap
  obtain ⟨newCap, hcap, hcap2⟩ : ∃ newCap, (choose (.appendCap (n + m) cap e)).run P w = .ok newCap w1 ∧ n + m ≤ newCap := by
    refine ⟨_, by rw [run_choose]; simp only [Question.forced, Bool.false_eq_true, if_false]; rw [hw1], ?_⟩
    simp [Question.cut]
  refine ⟨C1 ++ C2 ++ Builtin.zeroCells z.cells (newCap - (n + m)), newCap, _, ?_, rfl, hcap2, (Builtin.zeroCells z.cells (newCap - (n + m))).toList, ?_, ?_⟩
  · cases d <;> first | exact (hd2 ⟨_, rfl⟩).elim | skip
    all_goals
      simp only [Builtin.append_, List.getElem?_toArray, List.getElem?_cons_zero, List.getElem?_cons_succ, Sem.run_bind, run_underlying k.ut, run_underlying hd, Result.andThen_ok, run_sizeOf k.he, Sem.run_pure, Bool.false_eq_true, if_false, hlen, hle, run_typeInfo k.hi, hfit, hmax, hcap, run_askRoom, hC1, hC2, Bool.not_false, if_true, run_zeroValue k.he hz, run_newRow]
      rw [← hw1]
  · simp [hC1', hC2']
  · simp [Builtin.zeroCells, hz]

theorem objR_joined {l' : Loc} {t c : Tr Value} {o nsz n' : Nat} {vs : List Value} {e e' : TypeId} {C' : Array Value} {fz : Nat × Nat}
    (hcont : ∀ k v, t.get k = some v → (k < nsz ∧ c.get (o + k) = some v) ∨ (nsz ≤ k ∧ vs[k - nsz]? = some v))
    (hold : ∀ k v, k < nsz → c.get (o + k) = some v → ∃ v', C'[l'.sh + k]? = some v' ∧ VR ρ v v')
    (hnew : ∀ k v, vs[k]? = some v → ∃ v', C'[l'.sh + nsz + k]? = some v' ∧ VR ρ v v')
    (hn : n' = nsz + vs.length) (hsz : C'.size = l'.tot) (hb : l'.sh + n' ≤ l'.tot) (hf : ∀ k, k < l'.tot → ¬ (fz.1 ≤ k ∧ k < fz.2)) :
    ObjR ρ l' (.cells t n' e) (.cells C' e' fz) := by
  refine ⟨C', e', fz, rfl, hsz, hb, hf, fun k v hk => ?_⟩
  rcases hcont k v hk with ⟨h1, h2⟩ | ⟨h1, h2⟩
  · exact ⟨by omega, hold k v h1 h2⟩
  · have hlt := (List.getElem?_eq_some_iff.1 h2).1
    obtain ⟨v', h3, h4⟩ := hnew _ v h2
    refine ⟨by omega, v', ?_, h4⟩
    rw [← h3]
    congr 1
    omega

theorem Pre.drawn {s2 : St} (p : Pre B0 H s s2 ρ G w) (n : Nat) : Pre B0 H s s2 ρ G { w with drawn := n } := ⟨p.sub, p.wf, p.fresh, p.sim.drawn n⟩

theorem Post.drawn {s2 : St} {ρ' : Ren} {w' : World} {n : Nat} (q : Post B0 H s s2 ρ ρ' G { w with drawn := n } w') : Post B0 H s s2 ρ ρ' G w w' :=
  ⟨q.ext, q.new, q.sim, ⟨q.below.os, q.below.tape, q.below.output, q.below.size, q.below.block⟩, q.fr⟩

/-- the source's cells, as they come to lie in the new row -/
theorem new_get {vs : List Value} {l : List Value} (h : VRs ρ vs l) {C' : Array Value} {at_ : Nat} (hC : ∀ k, k < l.length → C'[at_ + k]? = l[k]?) :
    ∀ k v, vs[k]? = some v → ∃ v', C'[at_ + k]? = some v' ∧ VR ρ v v' := by
  intro k v hk
  obtain ⟨v', h1, h2⟩ := h.get hk
  exact ⟨v', by rw [hC k (List.getElem?_eq_some_iff.1 h1).1]; exact h1, h2⟩

/-- beyond the capacity, the state not yet told -/
theorem append_beyond {s1 : St} {t t2 ty e : TypeId} {te : TI} {i : TypeInfo} {z : Value} {base' : Option Addr} {n cap' m : Nat} {y' : Value} {vs l' : List Value} {tr c : Tr Value} {o : Nat}
    (k : AppendOk P t t2 e te i) (hz : te.zero = some z) (hzs : (vcells z).length = te.size) {ρ1 : Ren} {G1 : Hp}
    (p : Pre B0 H s1 (newObj s1 (.cells tr ((n + m) * te.size) e)) ρ1 G1 w)
    (hlen : (Builtin.lenOf y').run P w = .ok m w) (hgt : cap' < n + m) (hbig : (n + m) * (i.bytes + 1) ≤ 4294967296)
    (hsrc : ∀ w1 : World, w1.heap = w.heap → ∃ C, (Builtin.firstCells te.size m y').run P w1 = .ok C w1 ∧ C.toList = l')
    (hvs : VRs ρ1 vs l') (hvl : vs.length = m * te.size)
    {old : List Value} (hold : ∀ w1 : World, w1.heap = w.heap → ∃ C, (Builtin.firstCells te.size n (.slice base' n cap')).run P w1 = .ok C w1 ∧ C.toList = old) (hol : old.length = n * te.size)
    (hcont : ∀ k v, tr.get k = some v → (k < n * te.size ∧ c.get (o + k) = some v) ∨ (n * te.size ≤ k ∧ vs[k - n * te.size]? = some v))
    (hog : ∀ k v, k < n * te.size → c.get (o + k) = some v → ∃ v', old[k]? = some v' ∧ VR ρ1 v v') :
    ∃ ρ' w' v', (Builtin.append_ ⟨[t, t2]⟩ ty ⟨[.slice base' n cap', y']⟩).run P w = .ok v' w' ∧ VR ρ' (.slice (some ⟨s1.next, 0, some te.size⟩) (n + m) (n + m)) v' ∧
      Post B0 H s1 (newObj s1 (.cells tr ((n + m) * te.size) e)) ρ1 ρ' G1 w w' := by
  obtain ⟨C, newCap, w', h1, h2, h3, rest, h4, h5⟩ := run_append_new (ty := ty) k hlen hgt hbig ⟨z, hz⟩ hold hsrc
  have hll := hvs.length
  have hrest : rest.length = (newCap - (n + m)) * te.size := by
    rw [h5, hz]
    show _ * z.cells.size = _
    rw [← hzs, vcells_cells, Array.length_toList]
  have hsize : C.size = newCap * te.size := by
    have e1 : C.size = n * te.size + m * te.size + (newCap - (n + m)) * te.size := by
      rw [← Array.length_toList, h4]
      simp only [List.length_append, hol, hrest, ← hll, hvl]
    rw [e1, ← Nat.add_mul, ← Nat.add_mul]
    congr 1; omega
  have hle : RenLe ρ1 (ρ1.put s1.next ⟨w.heap.size, 0, C.size⟩) := Ren.le_put (p.fresh s1.next (Nat.le_refl _) (Nat.lt_succ_self _))
  refine ⟨ρ1.put s1.next ⟨w.heap.size, 0, C.size⟩, w', _, h1, .sliceG (l := ⟨w.heap.size, 0, C.size⟩) Ren.put_same (.inl rfl) h3 (by show 0 + newCap * te.size ≤ C.size; omega), ?_⟩
  subst h2
  refine Post.drawn (n := w.drawn + 1) (Post.new' (w := { w with drawn := w.drawn + 1 }) (obj := .cells C e) C.size (p.drawn (w.drawn + 1)) ?_)
  have hold2 : ∀ k, k < n * te.size → C[k]? = old[k]? := by
    intro k hk
    rw [← Array.getElem?_toList, h4, List.append_assoc, List.getElem?_append_left (by omega)]
  have hnew2 : ∀ k, k < l'.length → C[n * te.size + k]? = l'[k]? := by
    intro k hk
    rw [← Array.getElem?_toList, h4, List.append_assoc, List.getElem?_append_right (by omega), List.getElem?_append_left (by omega)]
    congr 1; omega
  refine objR_joined hcont ?_ ?_ ?_ rfl ?_ ?_
  · intro k v hk hg
    obtain ⟨v', a, b⟩ := hog k v hk hg
    exact ⟨v', by show C[0 + k]? = _; rw [Nat.zero_add, hold2 k hk]; exact a, b.mono hle⟩
  · refine new_get (hvs.mono hle) fun k hk => ?_
    show C[0 + n * te.size + k]? = _
    rw [Nat.zero_add]; exact hnew2 k hk
  · rw [hvl, Nat.add_mul]
  · show 0 + (n + m) * te.size ≤ C.size
    have : (n + m) * te.size ≤ newCap * te.size := Nat.mul_le_mul_right _ h3
    omega
  · intro k _; simp

theorem cont_ld {c : Tr Value} {o nsz : Nat} {vs l : List Value} (h : ldN c o nsz vs = some l) :
    l.length = nsz + vs.length ∧ ∀ k v, (trOf l 0 .lf).get k = some v → (k < nsz ∧ c.get (o + k) = some v) ∨ (nsz ≤ k ∧ vs[k - nsz]? = some v) := by
  obtain ⟨m', h1, h2, h3⟩ := ldN_spec _ _ _ _ _ h
  subst h1
  refine ⟨by simp [h2], fun k v hk => ?_⟩
  rw [get_trOf] at hk
  by_cases e : 0 ≤ k ∧ k < 0 + (m' ++ vs).length
  · rw [if_pos e, Nat.sub_zero] at hk
    by_cases e2 : k < nsz
    · rw [List.getElem?_append_left (by omega)] at hk
      exact .inl ⟨e2, by rw [h3 k e2]; exact hk⟩
    · rw [List.getElem?_append_right (by omega), h2] at hk
      exact .inr ⟨by omega, hk⟩
  · rw [if_neg e] at hk; simp at hk

theorem cont_st {c : Tr Value} {nsz : Nat} {vs : List Value} (hb : ∀ k v, c.get k = some v → k < nsz) :
    ∀ k v, (stN nsz vs 0 c).get k = some v → (k < nsz ∧ c.get (0 + k) = some v) ∨ (nsz ≤ k ∧ vs[k - nsz]? = some v) := by
  intro k v hk
  rw [get_stN] at hk
  by_cases e : nsz + 0 ≤ k ∧ k < nsz + 0 + vs.length
  · rw [if_pos e, Nat.add_zero] at hk
    exact .inr ⟨by omega, hk⟩
  · rw [if_neg e] at hk
    exact .inl ⟨hb k v hk, by rw [Nat.zero_add]; exact hk⟩

theorem s_append {t t2 ty e : TypeId} {te : TI} {i : TypeInfo} {z : Value} {x x' y y' : Value} (h : doAppend H e te.size (P.bytesOf e) x y s = .ok nx s') (hx : VR ρ x x') (hy : VR ρ y y') (p : Pre B0 H s s' ρ G w)
    (k : AppendOk P t t2 e te i) (hz : te.zero = some z) (hzs : (vcells z).length = te.size) : Done P B0 H s s' ρ G w nx (semV (Builtin.append_ ⟨[t, t2]⟩ ty ⟨[x', y']⟩)) := by
  unfold doAppend at h
  split at h
  · rename_i base n cap
    split at h
    · rename_i m vs hs
      obtain ⟨hlen, hvl, C0, hvs, hsrc⟩ := src_run hs hy p
      have hC0 := hsrc w rfl
      have hsrc2 : ∀ w1 : World, w1.heap = w.heap → ∃ C, (Builtin.firstCells te.size m y').run P w1 = .ok C w1 ∧ C.toList = C0.toList := fun w1 hw1 => ⟨C0, hsrc w1 hw1, rfl⟩
      obtain ⟨hg, h⟩ := brec_ok h
      simp only [Bool.and_eq_true, growOk, Nat.ble_eq] at hg
      obtain ⟨hbig, hones⟩ := hg
      rw [bytesOf_eq k.hi] at hbig
      have hmone := ones_of hvs hones
      have hlen0 := hvs.length
      cases hm : Nat.beq m 0 with
      | true =>
        rw [hm] at h
        have hm0 : m = 0 := by simpa [Nat.beq_eq] using hm
        subst hm0
        have hx2 : nx = .val (.slice base n cap) ∧ s' = s := by
          cases base with
          | none => obtain ⟨_, h⟩ := brec_ok h; obtain ⟨rfl, rfl⟩ := ok_inj h; exact ⟨rfl, rfl⟩
          | some a => obtain ⟨rfl, rfl⟩ := ok_inj h; exact ⟨rfl, rfl⟩
        obtain ⟨rfl, rfl⟩ := hx2
        have hnil : C0.toList = [] := List.eq_nil_of_length_eq_zero (by omega)
        obtain ⟨b', c', rfl, hnc⟩ : ∃ b' c', x' = .slice b' n c' ∧ n ≤ c' := by
          cases hx with
          | sliceNil => exact ⟨_, _, rfl, by
              obtain ⟨hb, _⟩ := brec_ok h
              simp only [Bool.and_eq_true, Nat.beq_eq] at hb
              omega⟩
          | slice _ _ hn => exact ⟨_, _, rfl, hn⟩
          | sliceG _ _ hn _ => exact ⟨_, _, rfl, hn⟩
        refine done_same p ?_ hx
        rw [run_append_in k hlen (by omega) hC0, hnil]
        cases b' <;> simp [storeCells]
      | false =>
        rw [hm] at h
        have hm0 : m ≠ 0 := by intro e0; rw [e0] at hm; cases hm
        split at h
        · -- nil
          obtain ⟨hb, h9⟩ := brec_ok h
          clear h
          simp only [Bool.and_eq_true, Nat.beq_eq] at hb
          obtain ⟨hn0, hc0⟩ := hb
          obtain ⟨hnx, hs'⟩ := ok_inj h9
          subst hnx hs' hn0 hc0
          cases hx
          have p' : Pre B0 H s (newObj s (.cells (trOf vs 0 .lf) ((0 + m) * te.size) e)) ρ G w := by rw [Nat.zero_add]; exact p
          have hcont : ∀ k' v, (trOf vs 0 .lf).get k' = some v → (k' < 0 * te.size ∧ (Tr.lf : Tr Value).get (0 + k') = some v) ∨ (0 * te.size ≤ k' ∧ vs[k' - 0 * te.size]? = some v) := by
            intro k' v hk
            rw [get_trOf] at hk
            by_cases e0 : 0 ≤ k' ∧ k' < 0 + vs.length
            · rw [if_pos e0] at hk; exact .inr ⟨by omega, by simpa using hk⟩
            · rw [if_neg e0] at hk; simp at hk
          obtain ⟨ρ', w', v', h1, h2, h3⟩ := append_beyond (ty := ty) (c := .lf) (o := 0) (l' := C0.toList) (vs := vs) (old := []) (n := 0) (cap' := 0) (base' := none) k hz hzs p' hlen (by omega) hbig hsrc2
            hvs hvl (fun w1 _ => ⟨#[], by simp [Builtin.firstCells], rfl⟩) (by simp) hcont (fun k' v hk _ => by simp at hk)
          rw [Nat.zero_add] at h2 h3
          exact done_post h1 h2 h3
        · -- a known capacity
          rename_i b o _h0
          cases hx with
          | slice hloc ho hn =>
            rename_i o' lc
            split at h
            · rename_i c kk e' hvis
              obtain ⟨C, e2, fz, h1, h2, h3, h4, h5⟩ := cells_of_vis p hvis hloc
              cases hcap : Nat.ble (n + m) cap with
              | true =>
                rw [hcap] at h
                have hle : n + m ≤ cap := by simpa [Nat.ble_eq] using hcap
                obtain ⟨hroom, h9⟩ := brec_ok h
                clear h
                obtain ⟨hnx, hs'⟩ := ok_inj h9
                subst hnx hs'
                have hroom : o + cap * te.size ≤ kk := by simpa [Nat.ble_eq] using hroom
                have ho : o' = lc.sh + o := by
                  rcases ho with ho | ho
                  · exact ho
                  · omega
                subst ho
                have hfit : n * te.size + m * te.size ≤ cap * te.size := by rw [← Nat.add_mul]; exact Nat.mul_le_mul_right _ hle
                obtain ⟨w', h6, h7, h8⟩ := run_storeCells (P := P) (o := lc.sh + o + n * te.size) C0.toList 0 w C h1 (by omega) (by rw [h2]; exact h4) hmone
                refine done_post (w' := w') (ρ' := ρ) ?_ (.slice hloc (.inl rfl) hle) (Post.set' p hvis hloc h7 h8 ?_)
                · rw [run_append_in k hlen hle hC0]
                  simp only [add_eq, Sem.run_bind, h6, Result.andThen_ok, Sem.run_pure]
                · have := ObjR.store (e := e') (e' := e2) (o := o + n * te.size) h2 h3 h4 h5 hvs (by omega)
                  rw [show lc.sh + (o + n * te.size) = lc.sh + o + n * te.size + 0 by omega] at this
                  exact this
              | false =>
                rw [hcap] at h
                have hgt : cap < n + m := by
                  rcases Nat.lt_or_ge cap (n + m) with e0 | e0
                  · exact e0
                  · have e1 : Nat.ble (n + m) cap = true := by rw [Nat.ble_eq]; exact e0
                    rw [hcap] at e1; cases e1
                split at h
                · rename_i l hl
                  obtain ⟨hnx, hs'⟩ := ok_inj h
                  subst hnx hs'
                  obtain ⟨hll, hcont⟩ := cont_ld hl
                  obtain ⟨m', hm1, hm2, hm3⟩ := ldN_spec _ _ _ _ _ hl
                  have hold : ∃ Co : Array Value, Co.size = n * te.size ∧ (∀ w1 : World, w1.heap = w.heap → (Builtin.firstCells te.size n (.slice (some ⟨lc.blk, o', none⟩) n cap)).run P w1 = .ok Co w1) ∧
                      ∀ k' v, k' < n * te.size → c.get (o + k') = some v → ∃ v', Co.toList[k']? = some v' ∧ VR ρ v v' := by
                    by_cases h0 : n * te.size = 0
                    · exact ⟨#[], by simp [h0], fun w1 _ => by simp [Builtin.firstCells, h0, loadCells, loadCellsFrom], fun k' v hk => by omega⟩
                    · have ho : o' = lc.sh + o := by
                        rcases ho with ho | ho
                        · exact ho
                        · have : n = 0 := by omega
                          subst this; simp at h0
                      subst ho
                      have hb := bound_of_get h5 hm2 hm3 (by omega)
                      refine ⟨C.extract (lc.sh + o) (lc.sh + o + n * te.size), by simp; omega, fun w1 hw1 => ?_, fun k' v hk hget => ?_⟩
                      · simp only [Builtin.firstCells]
                        exact run_loadCells (by rw [hw1]; exact h1) hb
                      · obtain ⟨_, v', a, r⟩ := h5 _ _ hget
                        refine ⟨v', ?_, r⟩
                        rw [extract_list, List.getElem?_take, if_pos hk, List.getElem?_drop, Array.getElem?_toList, ← a]
                        congr 1; omega
                  obtain ⟨Co, hCo1, hCo2, hCo3⟩ := hold
                  obtain ⟨ρ', w', v', q1, q2, q3⟩ := append_beyond (ty := ty) (c := c) (o := o) (l' := C0.toList) (vs := vs) (old := Co.toList) (n := n) (cap' := cap) k hz hzs p hlen hgt hbig hsrc2
                    hvs hvl (fun w1 hw1 => ⟨Co, hCo2 w1 hw1, rfl⟩) (by simp [hCo1]) hcont hCo3
                  exact done_post q1 q2 q3
                · cases h
            · cases h
        · -- an unknown capacity
          rename_i b o zz _h0
          cases hx with
          | sliceG hloc ho hn htot =>
            rename_i o' c' lc
            split at h
            · rename_i c kk e' hvis
              obtain ⟨C, e2, fz, h1, h2, h3, h4, h5⟩ := cells_of_vis p hvis hloc
              obtain ⟨hzz, h9⟩ := brec_ok h
              clear h _h0
              have hzz : zz = te.size := by simpa [Nat.beq_eq] using hzz
              subst hzz
              -- the new tree
              have hnew : ∃ tr : Tr Value, nx = .val (.slice (some ⟨s.next, 0, some te.size⟩) (n + m) (n + m)) ∧ s' = newObj (setObj s b none) (.cells tr ((n + m) * te.size) e) ∧
                  (∀ k' v, tr.get k' = some v → (k' < n * te.size ∧ c.get (o + k') = some v) ∨ (n * te.size ≤ k' ∧ vs[k' - n * te.size]? = some v)) ∧
                  (0 < n * te.size → lc.sh + o + n * te.size ≤ C.size) := by
                cases hfast : (Nat.beq o 0 && Nat.beq (n * te.size) kk) with
                | true =>
                  rw [hfast] at h9
                  simp only [Bool.and_eq_true, Nat.beq_eq] at hfast
                  obtain ⟨ho0, hk0⟩ := hfast
                  obtain ⟨hnx, hs'⟩ := ok_inj h9
                  refine ⟨_, hnx.symm, hs'.symm, ?_, fun _ => by omega⟩
                  subst ho0
                  rw [hk0]
                  exact cont_st fun k' v hk => (h5 k' v hk).1
                | false =>
                  rw [hfast] at h9
                  split at h9
                  · rename_i l hl
                    obtain ⟨hnx, hs'⟩ := ok_inj h9
                    obtain ⟨m', hm1, hm2, hm3⟩ := ldN_spec _ _ _ _ _ hl
                    exact ⟨_, hnx.symm, hs'.symm, (cont_ld hl).2, fun h0 => bound_of_get h5 hm2 hm3 h0⟩
                  · cases h9
              obtain ⟨tr, hnx, hs', hcont, hbound⟩ := hnew
              subst hnx hs'
              have hoff : 0 < n * te.size → o' = lc.sh + o := by
                intro h0
                rcases ho with ho | ho
                · exact ho
                · subst ho; simp at h0
              by_cases hle : n + m ≤ c'
              · -- in place
                have hfit : n * te.size + m * te.size ≤ c' * te.size := by rw [← Nat.add_mul]; exact Nat.mul_le_mul_right _ hle
                obtain ⟨w', h6, h7, h8⟩ := run_storeCells (P := P) (o := o' + n * te.size) C0.toList 0 w C h1 (by omega) (by rw [h2]; exact h4) hmone
                have hle' : RenLe ρ (ρ.put s.next ⟨lc.blk, o', lc.tot⟩) := Ren.le_put (p.fresh s.next (Nat.le_refl _) (Nat.lt_succ_self _))
                refine done_post (w' := w') (ρ' := ρ.put s.next ⟨lc.blk, o', lc.tot⟩) ?_ (.sliceG (o' := o') (c' := c') (l := ⟨lc.blk, o', lc.tot⟩) Ren.put_same (.inl (by simp)) hle htot) (Post.move p hvis hloc rfl h7 h8 ?_)
                · rw [run_append_in k hlen hle hC0]
                  simp only [add_eq, Sem.run_bind, h6, Result.andThen_ok, Sem.run_pure]
                · refine objR_joined hcont ?_ ?_ (by rw [hvl, Nat.add_mul]) (by rw [over_size]; exact h2) ?_ h4
                  · intro k' v hk hget
                    obtain ⟨_, v', a, r⟩ := h5 _ _ hget
                    refine ⟨v', ?_, r.mono hle'⟩
                    show (over C (o' + n * te.size + 0) C0.toList)[o' + k']? = _
                    rw [over_get _ _ _ _ (by omega), if_neg (by omega), hoff (by omega), ← a]
                    congr 1; omega
                  · refine new_get (hvs.mono hle') fun k' hk => ?_
                    show (over C (o' + n * te.size + 0) C0.toList)[o' + n * te.size + k']? = _
                    rw [over_get _ _ _ _ (by omega), if_pos (by omega)]
                    congr 1; omega
                  · show o' + (n + m) * te.size ≤ lc.tot
                    rw [Nat.add_mul]; omega
              · -- a new block
                have q0 : Post B0 H s (setObj s b none) ρ ρ G w w := Post.kill p.sub p.sim hvis
                have p1 : Pre B0 H (setObj s b none) (newObj (setObj s b none) (.cells tr ((n + m) * te.size) e)) ρ (upd G H s (setObj s b none)) w := p.next q0
                have hold : ∃ Co : Array Value, Co.size = n * te.size ∧ (∀ w1 : World, w1.heap = w.heap → (Builtin.firstCells te.size n (.slice (some ⟨lc.blk, o', none⟩) n c')).run P w1 = .ok Co w1) ∧
                    ∀ k' v, k' < n * te.size → c.get (o + k') = some v → ∃ v', Co.toList[k']? = some v' ∧ VR ρ v v' := by
                  by_cases h0 : n * te.size = 0
                  · exact ⟨#[], by simp [h0], fun w1 _ => by simp [Builtin.firstCells, h0, loadCells, loadCellsFrom], fun k' v hk => by omega⟩
                  · have ho := hoff (by omega)
                    subst ho
                    have hb := hbound (by omega)
                    refine ⟨C.extract (lc.sh + o) (lc.sh + o + n * te.size), by simp; omega, fun w1 hw1 => ?_, fun k' v hk hget => ?_⟩
                    · simp only [Builtin.firstCells]
                      exact run_loadCells (by rw [hw1]; exact h1) hb
                    · obtain ⟨_, v', a, r⟩ := h5 _ _ hget
                      refine ⟨v', ?_, r⟩
                      rw [extract_list, List.getElem?_take, if_pos hk, List.getElem?_drop, Array.getElem?_toList, ← a]
                      congr 1; omega
                obtain ⟨Co, hCo1, hCo2, hCo3⟩ := hold
                obtain ⟨ρ', w', v', q1, q2, q3⟩ := append_beyond (ty := ty) (c := c) (o := o) (l' := C0.toList) (vs := vs) (old := Co.toList) (n := n) (cap' := c') k hz hzs p1 hlen (by omega) hbig hsrc2
                  hvs hvl (fun w1 hw1 => ⟨Co, hCo2 w1 hw1, rfl⟩) (by simp [hCo1]) hcont hCo3
                exact done_post q1 q2 (q0.trans q3)
            · cases h
    · cases h
  · cases h

end Go.Ev

set_option linter.unusedVariables false
set_option linter.unusedSimpArgs false
namespace Go.Ev
open Go.RowKit

variable {B0 : Base} {H : Hid} {s s' : St} {ρ : Ren} {G : Hp} {w : World} {nx : Nx}

/-- the program's functions with a body are entered -/
def Enters (P : Program) : Prop := ∀ f fi, fiOf P f = some fi → ∀ args w, (callFunc f args).run P w = .ok (.enter f args) w

theorem box_inj {α : Type} {a b : α} (h : Box.mk a = Box.mk b) : a = b := by cases h; rfl

theorem op_call_value {P : Program} (hE : Enters P) {a : Act} {dst : Option Tmp} {x : Operand} {args : Array Operand} {ats : Array TypeId} {ty : TypeId} {pos : String} {after : Array Edge} {g : Option (Nat × Bool)}
    {f : FuncId} {first captured : Array Value} {fi : FI} (hx : a.eval x = .func (.func f) first captured) (hf : fiOf P f = some fi) :
    (execOp a.eval ⟨dst, .call ⟨.value x, args, ats⟩, ty, pos, after, g⟩).run P w = .ok (.enter f (first ++ args.map a.eval ++ captured)) w := by
  simp only [execOp, resolve, hx, Deferred.ofValue, invoke, Sem.run_bind, Sem.run_pure, Result.andThen_ok]
  exact hE f fi hf _ _

theorem run_getLoop {P : Program} {w : World} {l : Nat} {r : Loop} (h : w.heap[l]? = some (.loop r)) : (Instr.getLoop l).run P w = .ok r w := by
  simp only [Instr.getLoop, Sem.run_bind]
  have : (getObj l).run P w = .ok (.loop r) w := by
    show (Sem.getObj l .pure).run P w = _
    simp [Sem.run, h]
  rw [this]; rfl

theorem yieldT_cons (p : Tmp) (ps : List Tmp) (v : Value) (l : List Value) (t : Tr Value) : yieldT (p :: ps) (v :: l) t = yieldT ps l (t.set p (some v)) := rfl
theorem yieldT_nil (l : List Value) (t : Tr Value) : yieldT [] l t = t := rfl

theorem yieldT_rel {nt : Nat} : ∀ (ps : List Tmp) (vs vs' : List Value) (tm : Tr Value) (tmps : Array Value), VRs ρ vs vs' → vs.length = ps.length → (∀ p ∈ ps, p < nt) → nt ≤ tmps.size → (∀ t, VR ρ (envT (tm.get t)) (tmps.getD t undef)) →
    nt ≤ ((ps.zip vs').foldl (fun tmps p => tmps.setIfInBounds p.1 p.2) tmps).size ∧
    ∀ t, VR ρ (envT ((yieldT ps vs tm).get t)) (((ps.zip vs').foldl (fun tmps p => tmps.setIfInBounds p.1 p.2) tmps).getD t undef)
  | [], vs, vs', tm, tmps, _, _, _, hn, he => ⟨by simpa using hn, fun t => by simpa [yieldT_nil] using he t⟩
  | p :: ps, [], vs', tm, tmps, _, hl, _, _, _ => by cases hl
  | p :: ps, v :: vs, _, tm, tmps, .cons (v' := v') (l' := vs') hv hvs, hl, hp, hn, he => by
    rw [yieldT_cons]
    simp only [List.zip_cons_cons, List.foldl_cons]
    refine yieldT_rel ps vs vs' (tm.set p (some v)) (tmps.setIfInBounds p v') hvs (by simpa using hl) (fun q hq => hp q (by simp [hq])) (by simpa using hn) fun t => ?_
    have hpt : p < tmps.size := Nat.lt_of_lt_of_le (hp p (by simp)) hn
    rw [Tr.get_set, Array.getD_eq_getD_getElem?, Array.getElem?_setIfInBounds]
    by_cases h : t = p
    · subst h
      rw [if_pos rfl, if_pos rfl, if_pos hpt]
      exact hv
    · rw [if_neg h, if_neg (fun k => h k.symm)]
      have := he t
      rw [Array.getD_eq_getD_getElem?] at this
      exact this

theorem s_callV {P : Program} (hE : Enters P) {a : Act} {dst : Option Tmp} {x : Operand} {args : Array Operand} {ats : Array TypeId} {ty : TypeId} {pos : String} {after : Array Edge} {g : Option (Nat × Bool)}
    {fv : Value} {vs : List Value} (h : doCallV P H fv vs s = .ok nx s') (hf : VR ρ fv (a.eval x)) (hvs : VRs ρ vs (args.map a.eval).toList) (p : Pre B0 H s s' ρ G w) :
    Done P B0 H s s' ρ G w nx (execOp a.eval ⟨dst, .call ⟨.value x, args, ats⟩, ty, pos, after, g⟩) := by
  unfold doCallV at h
  split at h
  · rename_i b first captured
    split at h
    · rename_i r hv
      obtain ⟨hb, h⟩ := brec_ok h
      obtain ⟨rfl, rfl⟩ := ok_inj h
      simp only [Bool.and_eq_true, Nat.beq_eq, List.all_eq_true, Nat.blt_eq] at hb
      generalize hq : a.eval x = q at hf
      cases hf with
      | func hy _ _ => exact absurd rfl (hy _)
      | yld hl =>
        rename_i l
        obtain ⟨l2, hl2, o, ho, hr⟩ := p.sim.obj _ _ (p.sub _ _ hv)
        rw [hl] at hl2
        cases hl2
        obtain ⟨r', rfl, h1, h2, h3, h4, h5, h6, h7, h8, _⟩ := hr
        have hlen := hvs.length
        have hsz : (args.map a.eval).size = r'.params.size := by
          rw [← Array.length_toList, ← Array.length_toList, h4, ← hlen, hb.1.1.1]
        have hrel := yieldT_rel (nt := r.nt) r.params vs _ r.tmps r'.tmps hvs hb.1.1.1 hb.2 h7 h8
        refine ⟨ρ, w, _, ?_, .round (nt := r.nt) (tm := yieldT r.params vs r.tmps) hl hrel.1 hrel.2, .refl p.sub p.sim⟩
        simp only [execOp, resolve, hq, Deferred.ofValue, invoke, Sem.run_bind, Sem.run_pure, Result.andThen_ok]
        simp only [Instr.yield, Sem.run_bind, run_getLoop ho, Result.andThen_ok]
        rw [if_neg (by simpa using hsz)]
        simp only [Sem.run_pure]
        rw [h3, h5, h6, ← h4]
        congr 2
        rw [← Array.foldl_toList, Array.toList_zip]
        simp
    · cases h
  · rename_i f first captured
    split at h
    · rename_i fi hfi
      obtain ⟨rfl, rfl⟩ := ok_inj h
      generalize hq : a.eval x = q at hf
      cases hf with
      | func _ ha hc =>
        refine ⟨ρ, w, _, op_call_value hE hq hfi, .enter ?_, .refl p.sub p.sim⟩
        rw [Array.toList_append, Array.toList_append]
        exact (ha.append hvs).append hc
    · cases h
  · cases h

theorem bytesOf_spec : ∀ (m : List Value) (bs : List UInt8), bytesOf m = some bs → ∃ xs : List Int, m = xs.map (Value.int .u8) ∧ bs = xs.map fun n => UInt8.ofNat n.toNat
  | [], bs, h => by cases h; exact ⟨[], rfl, rfl⟩
  | v :: m, bs, h => by
    unfold bytesOf at h
    split at h
    · rename_i heq; cases heq
    · rename_i n l heq
      cases heq
      split at h
      · rename_i bs' hb
        cases h
        obtain ⟨xs, rfl, rfl⟩ := bytesOf_spec _ _ hb
        exact ⟨n :: xs, rfl, rfl⟩
      · cases h
    · cases h

theorem s_bytesStr {P : Program} {x x' : Value} {src dst e : TypeId} (h : doBytesStr H x s = .ok nx s') (hx : VR ρ x x') (p : Pre B0 H s s' ρ G w)
    (hs : P.underlying src = some (.slice e)) (he : P.underlying e = some (.int .u8)) (hd : P.underlying dst = some .string) : Done P B0 H s s' ρ G w nx (semV (convert src dst x')) := by
  unfold doBytesStr at h
  split at h
  · obtain ⟨rfl, rfl⟩ := ok_inj h
    cases hx with
    | sliceNil _ _ => exact done_same p (run_convert_bytes_nil w src e hs he _ _ dst hd) (.string _)
  · rename_i b o z n c
    split at h
    · rename_i cs cn ce hv
      split at h
      · rename_i m hg
        split at h
        · rename_i bs hb
          obtain ⟨rfl, rfl⟩ := ok_inj h
          obtain ⟨xs, hm, rfl⟩ := bytesOf_spec _ _ hb
          obtain ⟨m', hm1, hm2, hm3⟩ := ldN_spec _ _ _ _ _ hg
          rw [List.append_nil] at hm1
          subst hm1
          have hlen : xs.length = n := by rw [← hm2, hm]; simp
          have main : ∀ (l : Loc) (o' c' : Nat), ρ b = some l → (o' = l.sh + o ∨ n = 0) → Done P B0 H s s ρ G w (.val (.string ⟨⟨xs.map fun n => UInt8.ofNat n.toNat⟩⟩)) (semV (convert src dst (.slice (some ⟨l.blk, o', none⟩) n c'))) := by
            intro l o' c' hl ho
            refine done_same p (run_convert_bytes_arg w src e hs he l.blk o' n c' xs hlen (fun i hi => ?_) dst hd) (.string _)
            rcases ho with rfl | rfl
            · obtain ⟨x, hx, C, e', fz, rfl, h2, h3, h4, h5⟩ := p.sim.loc (p.sub b _ hv) hl
              have h6 := hm3 i hi
              rw [hm, List.getElem?_map, List.getElem?_eq_getElem (by omega)] at h6
              obtain ⟨_, v', h7, h8⟩ := h5 _ _ h6
              cases h8
              rw [cell_of hx, Nat.add_assoc, h7]
              simp [List.getD, List.getElem?_eq_getElem (show i < xs.length by omega)]
            · omega
          cases hx with
          | slice hl ho hn => exact main _ _ _ hl (by rcases ho with h | h; exact .inl h; exact .inr (by omega))
          | sliceG hl ho hn ht => exact main _ _ _ hl ho
        · cases h
      · cases h
    · cases h
  · cases h

theorem run_method {P : Program} {t : TypeId} {name : String} {f : FuncId} {v : Value} {n : Nat} (h : methOf P t name = some f) : (method (n + 1) t v name).run P w = .ok (f, v) w := by
  unfold methOf at h
  split at h
  · rename_i i hi
    split at h
    · rename_i m hm
      split at h
      · rename_i f' e hf hp hu
        cases h
        simp only [method, Sem.run_bind, run_typeInfo hi, Result.andThen_ok, hm, hp, follow, Sem.run_pure, hf, receiverAt, run_underlying hu, Place.get]
      · rename_i f' fs hf hp hu
        cases h
        simp only [method, Sem.run_bind, run_typeInfo hi, Result.andThen_ok, hm, hp, follow, Sem.run_pure, hf, receiverAt, run_underlying hu, Place.get]
      · cases h
    · cases h
  · cases h

theorem s_invoke {P : Program} (hE : Enters P) {a : Act} {dst : Option Tmp} {r : Operand} {name : String} {args : Array Operand} {ats : Array TypeId} {ty : TypeId} {pos : String} {after : Array Edge} {g : Option (Nat × Bool)}
    {x : Value} {vs : List Value} (h : doInvoke P name x vs s = .ok nx s') (hx : VR ρ x (a.eval r)) (hvs : VRs ρ vs (args.map a.eval).toList) (p : Pre B0 H s s' ρ G w) :
    Done P B0 H s s' ρ G w nx (execOp a.eval ⟨dst, .call ⟨.invoke r name, args, ats⟩, ty, pos, after, g⟩) := by
  unfold doInvoke at h
  split at h
  · rename_i t v
    split at h
    · rename_i f hm
      split at h
      · rename_i fi hfi
        obtain ⟨rfl, rfl⟩ := ok_inj h
        generalize hq : a.eval r = q at hx
        cases hx with
        | iface hv =>
          rename_i v'
          refine ⟨ρ, w, .enter f (#[v'] ++ args.map a.eval), ?_, .enter ?_, .refl p.sub p.sim⟩
          · have h0 : (#[Value.iface t v'] ++ Array.map a.eval args)[0]? = some (.iface t v') := by rw [← Array.getElem?_toList, Array.toList_append]; rfl
            have h1 : (#[Value.iface t v'] ++ Array.map a.eval args).extract 1 (#[Value.iface t v'] ++ Array.map a.eval args).size = Array.map a.eval args := by
              apply Array.toList_inj.1
              simp
              exact List.take_of_length_le (by simp)
            have hd : P.types.size + Made.depth = (P.types.size + (Made.depth - 1)) + 1 := by
              have : 0 < Made.depth := by decide
              omega
            have hr : (callMethod (.iface t v') name (Array.map a.eval args)).run P w = .ok (.enter f (#[v'] ++ args.map a.eval)) w := by
              simp only [callMethod, Sem.run_bind, run_program, Result.andThen_ok]
              rw [hd, run_method hm]
              simp only [Result.andThen_ok]
              exact hE f fi hfi _ _
            simp only [execOp, resolve, Sem.run_bind, Sem.run_pure, Result.andThen_ok, hq, invoke]
            split
            · rename_i hx1
              rw [h0] at hx1
              cases hx1
              rw [h1]
              exact hr
            · rename_i hx1
              exact absurd h0 (hx1 _)
          · rw [Array.toList_append]; exact .cons hv hvs
      · cases h
    · cases h
  · cases h

theorem tiOf_und {P : Program} {t : TypeId} {ti : TI} (h : tiOf P t = some ti) : P.underlying t = some ti.und := by
  obtain ⟨_, _, hu, _⟩ := tiOf_spec h
  exact hu

theorem ovr_map {tm : Tr Value} {a : Act} (e : EnvR ρ tm a) (x : Option Operand) (h : ∀ y, x = some y → opndOk y = true) : OVR ρ (x.map (evO tm)) (x.map a.eval) := by
  cases x with
  | none => exact .none
  | some y => exact .some (e.eval (h y rfl))

theorem psr_map {tm : Tr Value} {a : Act} (e : EnvR ρ tm a) : ∀ (ps : List (Nat × Operand)), (∀ p ∈ ps, opndOk p.2 = true) → PsR ρ (ps.map fun p => (p.1, evO tm p.2)) (ps.map fun p => (p.1, a.eval p.2))
  | [], _ => .nil
  | p :: ps, h => .cons (e.eval (h p (by simp))) (psr_map e ps fun q hq => h q (by simp [hq]))

theorem op_sound {T : Tab} (hE : Enters T.prog) {tm : Tr Value} {a : Act} {o : Oper} {f : OpF} (hc : cOp T o = .mk f) (h : f H tm s = .ok nx s') (e : EnvR ρ tm a) (ho : Opnds o) (p : Pre B0 H s s' ρ G w) :
    Done T.prog B0 H s s' ρ G w nx (execOp a.eval o) := by
  obtain ⟨dst, op, ty, pos, after, g⟩ := o
  cases op with
  | move x =>
    cases hc; obtain ⟨rfl, rfl⟩ := ok_inj h
    exact ⟨ρ, w, .value (a.eval x), rfl, .val (e.eval (ho x (by simp [Op.operands]))), .refl p.sub p.sim⟩
  | assign x =>
    cases hc; obtain ⟨rfl, rfl⟩ := ok_inj h
    exact ⟨ρ, w, .value (a.eval x), rfl, .val (e.eval (ho x (by simp [Op.operands]))), .refl p.sub p.sim⟩
  | pick c x y =>
    cases hc
    exact s_pick h (e.eval (ho c (by simp [Op.operands]))) (e.eval (ho x (by simp [Op.operands]))) (e.eval (ho y (by simp [Op.operands]))) p
  | alloc t =>
    simp only [cOp] at hc
    split at hc
    · rename_i z ht
      cases hg : ground z with
      | false => rw [hg] at hc; cases hc; cases h
      | true =>
        rw [hg] at hc; cases hc
        obtain ⟨ρ', w', nx', h1, h2, h3⟩ := s_box (P := T.prog) h (ground_self hg) p
        refine ⟨ρ', w', nx', ?_, h2, h3⟩
        rw [← h1]
        simp [execOp, Instr.alloc, run_zeroValue ht rfl, semV]
    · cases hc; cases h
  | box t x =>
    cases hc
    exact s_box h (e.eval (ho x (by simp [Op.operands]))) p
  | load t x =>
    simp only [cOp] at hc
    split at hc
    · rename_i ti ht
      cases hagg : ti.agg with
      | false => rw [hagg] at hc; cases hc; exact s_load1 h (e.eval (ho x (by simp [Op.operands]))) p ht hagg
      | true => rw [hagg] at hc; cases hc; exact s_loadN h (e.eval (ho x (by simp [Op.operands]))) p ht hagg
    · cases hc; cases h
  | store t x y =>
    simp only [cOp] at hc
    split at hc
    · rename_i ti ht
      cases hagg : ti.agg with
      | false =>
        rw [hagg] at hc
        cases hb : Nat.beq ti.size 1 with
        | false => rw [hb] at hc; cases hc; cases h
        | true =>
          rw [hb] at hc; cases hc
          exact s_store1 h (e.eval (ho x (by simp [Op.operands]))) (e.eval (ho y (by simp [Op.operands]))) p ht (by simpa [Nat.beq_eq] using hb)
      | true => rw [hagg] at hc; cases hc; exact s_storeN h (e.eval (ho x (by simp [Op.operands]))) (e.eval (ho y (by simp [Op.operands]))) p ht
    · cases hc; cases h
  | fieldAddr st x i =>
    simp only [cOp] at hc
    split at hc
    · rename_i fs _ _ _ ht
      split at hc
      · rename_i fl hfl
        split at hc
        · rename_i ti hti
          cases hb : Nat.beq ti.size 0 with
          | true => rw [hb] at hc; cases hc; cases h
          | false =>
            rw [hb] at hc; cases hc
            exact s_field h (e.eval (ho x (by simp [Op.operands]))) p (tiOf_und ht) hfl hti rfl (fun e0 => by rw [← Nat.beq_eq] at e0; rw [e0] at hb; cases hb)
        · cases hc; cases h
      · cases hc; cases h
    · cases hc; cases h
  | field st x i =>
    simp only [cOp] at hc
    split at hc
    · rename_i fs _ _ _ ht
      split at hc
      · rename_i fl hfl
        split at hc
        · rename_i ti hti
          cases hc
          exact s_fieldV h (e.eval (ho x (by simp [Op.operands]))) p (tiOf_und ht) hfl hti rfl rfl rfl
        · cases hc; cases h
      · cases hc; cases h
    · cases hc; cases h
  | indexAddr t x ix =>
    simp only [cOp] at hc
    split at hc
    · rename_i el _ _ _ ht
      split at hc
      · rename_i ti hti
        cases hc
        exact s_indexS h (e.eval (ho x (by simp [Op.operands]))) (e.eval (ho ix (by simp [Op.operands]))) p (tiOf_und ht) hti
      · cases hc; cases h
    · rename_i n el _ _ _ ht
      split at hc
      · rename_i ti hti
        cases hc
        exact s_indexA h (e.eval (ho x (by simp [Op.operands]))) (e.eval (ho ix (by simp [Op.operands]))) p (tiOf_und ht) hti
      · cases hc; cases h
    · cases hc; cases h
  | index t x ix =>
    simp only [cOp] at hc
    split at hc
    · rename_i ht
      cases hc
      exact s_indexStr h (e.eval (ho x (by simp [Op.operands]))) (e.eval (ho ix (by simp [Op.operands]))) p (tiOf_und ht)
    · rename_i n el _ _ _ ht
      split at hc
      · rename_i ti hti
        cases hc
        exact s_indexAgg h (e.eval (ho x (by simp [Op.operands]))) (e.eval (ho ix (by simp [Op.operands]))) p (tiOf_und ht) hti rfl rfl
      · cases hc; cases h
    · cases hc; cases h
  | binOp op t x y t2 =>
    cases hc
    exact s_bin rfl h e ho p
  | unOp op t x =>
    cases hc
    exact s_gen h e ho (by simp) p
  | extract x i =>
    cases hc
    exact s_extract h (e.eval (ho x (by simp [Op.operands]))) p
  | makeInterface t x =>
    simp only [cOp] at hc
    split at hc
    · cases hc; cases h
    · rename_i ti hn ht
      cases hc
      exact s_makeIface h (e.eval (ho x (by simp [Op.operands]))) p (tiOf_und ht) (fun ms e0 => hn ms ti.size ti.agg ti.zero (by cases ti; simp_all))
    · cases hc; cases h
  | nilCheck x =>
    cases hc
    exact s_nilCheck rfl rfl h (e.eval (ho x (by simp [Op.operands]))) p
  | slice t x lo hi mx =>
    have hlo := ovr_map e lo fun y hy => ho y (by simp [Op.operands, hy])
    have hhi := ovr_map e hi fun y hy => ho y (by simp [Op.operands, hy])
    have hmx := ovr_map e mx fun y hy => ho y (by simp [Op.operands, hy])
    simp only [cOp] at hc
    split at hc
    · rename_i el _ _ _ ht
      split at hc
      · rename_i ti hti
        cases hb : (mx.isNone || hi.isSome) with
        | false => rw [hb] at hc; cases hc; cases h
        | true =>
          rw [hb] at hc; cases hc
          exact s_slice h (e.eval (ho x (by simp [Op.operands]))) hlo hhi hmx p (fun hm => by cases mx <;> cases hi <;> simp_all) (tiOf_und ht) hti
      · cases hc; cases h
    · rename_i ht
      split at hc
      · cases hc
        exact s_sliceStr h (e.eval (ho x (by simp [Op.operands]))) hlo hhi p (tiOf_und ht)
      · cases hc; cases h
    · cases hc; cases h
  | convert src dst' x =>
    simp only [cOp] at hc
    split at hc
    · rename_i tsrc hsrc
      split at hc
      · rename_i k _ _ _ ht
        cases hc
        exact s_convert rfl h e ho p (tiOf_und hsrc) (tiOf_und ht)
      · rename_i ht
        split at hc
        · rename_i el hel
          split at hc
          · rename_i hu8
            cases hc
            exact s_bytesStr h (e.eval (ho x (by simp [Op.operands]))) p hel hu8 (tiOf_und ht)
          · cases hc
            exact s_gen h e ho (by simp) p
        · cases hc
          exact s_gen h e ho (by simp) p
      · cases hc
        exact s_gen h e ho (by simp) p
    · cases hc; cases h
  | typeAssert x xt asserted ok =>
    simp only [cOp] at hc
    split at hc
    · cases hc; cases h
    · rename_i und sz ag z hn ht
      cases hc
      refine s_assert h (e.eval (ho x (by simp [Op.operands]))) p ht (fun ms e0 => hn ms e0) (fun v hv => ?_)
      cases z with
      | none => cases hv
      | some z =>
        simp only at hv
        split at hv
        · cases hv; exact ⟨rfl, by assumption⟩
        · cases hv
    · cases hc; cases h
  | makeFunc fn first captured =>
    simp only [cOp] at hc
    split at hc
    · rename_i f0
      cases hc
      have h1 := e.evals first.toList fun y hy => ho y (by simp [Op.operands, Array.mem_def.2 hy])
      have h2 := e.evals captured.toList fun y hy => ho y (by simp [Op.operands, Array.mem_def.2 hy])
      have := s_makeFunc (P := T.prog) h h1 h2 (by simp) p
      have e1 : (⟨first.toList.map a.eval⟩ : Array Value) = first.map a.eval := by apply Array.toList_inj.1; simp
      have e2 : (⟨captured.toList.map a.eval⟩ : Array Value) = captured.map a.eval := by apply Array.toList_inj.1; simp
      rw [e1, e2] at this
      exact this
    · cases hc; cases h
  | makeMap t r =>
    simp only [cOp] at hc
    split at hc
    · cases hc
      exact s_makeMap h p
    · cases hc; cases h
  | lookup t x ix ok =>
    simp only [cOp] at hc
    split at hc
    · rename_i kt et _ _ _ ht
      split at hc
      · rename_i ki hki
        split at hc
        · rename_i z hz
          cases hg : ground z with
          | false => rw [hg] at hc; cases hc; cases h
          | true =>
            rw [hg] at hc; cases hc
            exact s_lookup h (e.eval (ho x (by simp [Op.operands]))) (e.eval (ho ix (by simp [Op.operands]))) p (tiOf_und ht) (tiOf_und hki) hz rfl hg
        · cases hc; cases h
      · cases hc; cases h
    · cases hc; cases h
  | mapUpdate t m k v =>
    simp only [cOp] at hc
    split at hc
    · rename_i kt et _ _ _ ht
      split at hc
      · rename_i ki hki
        cases hc
        exact s_update h (e.eval (ho m (by simp [Op.operands]))) (e.eval (ho k (by simp [Op.operands]))) (e.eval (ho v (by simp [Op.operands]))) p (tiOf_und ht) (tiOf_und hki)
      · cases hc; cases h
    · cases hc; cases h
  | insert t m k v =>
    simp only [cOp] at hc
    split at hc
    · rename_i kt et _ _ _ ht
      split at hc
      · rename_i ki hki
        cases hc
        exact s_update h (e.eval (ho m (by simp [Op.operands]))) (e.eval (ho k (by simp [Op.operands]))) (e.eval (ho v (by simp [Op.operands]))) p (tiOf_und ht) (tiOf_und hki)
      · cases hc; cases h
    · cases hc; cases h
  | makeSlice t l c =>
    simp only [cOp] at hc
    split at hc
    · rename_i el _ _ _ ht
      split at hc
      · rename_i sz _ z hz
        cases hg : (ground z && Nat.beq (vcells z).length sz) with
        | false => rw [hg] at hc; cases hc; cases h
        | true =>
          rw [hg] at hc; cases hc
          simp only [Bool.and_eq_true, Nat.beq_eq] at hg
          exact s_makeSlice h (e.eval (ho l (by simp [Op.operands]))) (e.eval (ho c (by simp [Op.operands]))) p (tiOf_und ht) hz rfl hg.1 hg.2
      · cases hc; cases h
    · cases hc; cases h
  | build t parts =>
    have hps := psr_map e parts.toList fun q hq => ho q.2 (by simp [Op.operands]; exact ⟨q.1, Array.mem_def.2 hq⟩)
    have hps' : ∀ {L : List (Nat × Value)}, L = parts.toList.map (fun p => (p.1, evO tm p.2)) → PsR ρ L (parts.map fun (i, x) => (i, a.eval x)).toList := by
      intro L hL
      rw [hL, Array.toList_map]
      exact hps
    simp only [cOp] at hc
    split at hc
    · rename_i fs _ _ z ht
      split at hc
      · rename_i pl hpl
        cases hg : ground z with
        | false => rw [hg] at hc; cases hc; cases h
        | true =>
          rw [hg] at hc; cases hc
          exact s_buildStruct h (hps' rfl) p ht rfl rfl hg hpl
      · cases hc; cases h
    · rename_i n el _ _ z ht
      split at hc
      · rename_i te hte
        cases hg : ground z with
        | false => rw [hg] at hc; cases hc; cases h
        | true =>
          rw [hg] at hc; cases hc
          exact s_buildArray h (hps' rfl) p ht rfl rfl hg hte
      · cases hc; cases h
    · cases hc; cases h
  | buildSlice t n parts =>
    have hps := psr_map e parts.toList fun q hq => ho q.2 (by simp [Op.operands]; exact ⟨q.1, Array.mem_def.2 hq⟩)
    have hps' : ∀ {L : List (Nat × Value)}, L = parts.toList.map (fun p => (p.1, evO tm p.2)) → PsR ρ L (parts.map fun (i, x) => (i, a.eval x)).toList := by
      intro L hL
      rw [hL, Array.toList_map]
      exact hps
    simp only [cOp] at hc
    split at hc
    · rename_i el _ _ _ ht
      split at hc
      · rename_i sz _ z hz
        cases hg : (ground z && Nat.beq (vcells z).length sz && Nat.ble (n * sz) 65536) with
        | false => rw [hg] at hc; cases hc; cases h
        | true =>
          rw [hg] at hc; cases hc
          simp only [Bool.and_eq_true, Nat.beq_eq, Nat.ble_eq] at hg
          exact s_buildSlice h (hps' rfl) p (tiOf_und ht) hz rfl hg.1.1 hg.1.2 hg.2
      · cases hc; cases h
    · cases hc; cases h
  | call c =>
    obtain ⟨callee, args, ats⟩ := c
    have hargs := e.evals args.toList fun y hy => ho y (by simp [Op.operands, Call.operands]; exact .inr (Array.mem_def.2 hy))
    have hargs2 : VRs ρ (args.toList.map (evO tm)) (args.map a.eval).toList := by rw [Array.toList_map]; exact hargs
    cases callee with
    | invoke r name =>
      cases hc
      exact s_invoke hE h (e.eval (ho r (by simp [Op.operands, Call.operands]))) hargs2 p
    | value x =>
      have hx := e.eval (ho x (by simp [Op.operands, Call.operands]))
      have direct : ∀ g0, x = .func g0 → Done T.prog B0 H s s' ρ G w nx (execOp a.eval ⟨dst, .call ⟨.value x, args, ats⟩, ty, pos, after, g⟩) := by
        intro g0 hx0
        subst hx0
        simp only [cOp] at hc
        split at hc
        · rename_i fi hfi
          cases hc
          obtain ⟨rfl, rfl⟩ := ok_inj h
          refine ⟨ρ, w, _, op_call_value hE (f := g0) (first := #[]) (captured := #[]) rfl hfi, .enter ?_, .refl p.sub p.sim⟩
          simpa using hargs
        · cases hc; cases h
      cases x with
      | func g0 => exact direct g0 rfl
      | tmp t => cases hc; exact s_callV hE h hx hargs2 p
      | const v => cases hc; exact s_callV hE h hx hargs2 p
      | global q => cases hc; exact s_callV hE h hx hargs2 p
    | builtin b =>
      have hex : ∀ m : Sem Value, builtin b ats ty (args.map fun | .const _ => true | _ => false) (args.map a.eval) = semV m → execOp a.eval ⟨dst, .call ⟨.builtin b, args, ats⟩, ty, pos, after, g⟩ = semV m := fun m hm => hm
      obtain ⟨args⟩ := args
      obtain ⟨ats⟩ := ats
      cases b with
      | append =>
        simp only [cOp] at hc
        split at hc
        · rename_i x y
          split at hc
          · rename_i t t2
            split at hc
            · rename_i el _ _ _ ht
              split at hc
              · rename_i te hte
                split at hc
                · cases hc; cases h
                · cases hc; cases h
                · rename_i ti2 hn ht2
                  split at hc
                  · rename_i z hz
                    cases hb : Nat.beq (vcells z).length te.size with
                    | false => rw [hb] at hc; cases hc; cases h
                    | true =>
                      rw [hb] at hc; cases hc
                      rw [hex _ rfl]
                      obtain ⟨i, hi, _⟩ := tiOf_spec hte
                      have hm : (Array.map a.eval ⟨[x, y]⟩) = ⟨[a.eval x, a.eval y]⟩ := by simp
                      rw [hm]
                      exact s_append h (e.eval (ho x (by simp [Op.operands, Call.operands]))) (e.eval (ho y (by simp [Op.operands, Call.operands]))) p
                        ⟨tiOf_und ht, ⟨_, tiOf_und ht2, fun k e0 => hn k ti2.size ti2.agg ti2.zero (by cases ti2; simp_all)⟩, hte, hi⟩ hz (by simpa [Nat.beq_eq] using hb)
                  · cases hc; cases h
              · cases hc; cases h
            · cases hc; cases h
          · cases hc; cases h
        · cases hc; cases h
      | len =>
        simp only [cOp] at hc
        split at hc
        · rename_i x
          split at hc
          · rename_i t
            split at hc
            · cases hc; exact s_gen h e ho (by simp) p
            · cases hc
              rw [hex _ rfl]
              have hm : (Array.map a.eval ⟨[x]⟩) = ⟨[a.eval x]⟩ := by simp
              rw [hm]
              exact s_len h (e.eval (ho x (by simp [Op.operands, Call.operands]))) p
          · cases hc; cases h
        · cases hc; cases h
      | delete =>
        simp only [cOp] at hc
        split at hc
        · rename_i m k
          split at hc
          · rename_i t ts
            split at hc
            · rename_i kt et _ _ _ ht
              split at hc
              · rename_i ki hki
                cases hc
                rw [hex _ rfl]
                have hm : (Array.map a.eval ⟨[m, k]⟩) = ⟨[a.eval m, a.eval k]⟩ := by simp
                rw [hm]
                exact s_delete h (e.eval (ho m (by simp [Op.operands, Call.operands]))) (e.eval (ho k (by simp [Op.operands, Call.operands]))) p (tiOf_und ht) (tiOf_und hki)
              · cases hc; cases h
            · cases hc; cases h
          · cases hc; cases h
        · cases hc; cases h
      | min => cases hc; exact s_gen h e ho (by simp) p
      | max => cases hc; exact s_gen h e ho (by simp) p
      | _ => cases hc; cases h
  | _ => cases hc; cases h

end Go.Ev

set_option linter.unusedVariables false
set_option linter.unusedSimpArgs false
namespace Go.Ev

variable {H : Hid} {s s' : St} {nx : Nx}

/-- the state that an answer bears -/
def leR (H : Hid) (s : St) (r : R Nx) : Prop := ∀ nx s', r = .ok nx s' → Fr H s s'

theorem le_bad {w : String} : leR H s (.bad w) := fun _ _ h => by cases h
theorem le_same {n : Nx} : leR H s (.ok n s) := fun _ _ h => by cases h; exact Fr.refl H s
theorem le_new {n : Nx} {o : AObj} : leR H s (.ok n (newObj s o)) := fun _ _ h => by cases h; exact Fr.new H s o
theorem le_set {n : Nx} {b : Nat} {o' : AObj} {o : Option AObj} (hb : St.vis H s b = some o') : leR H s (.ok n (setObj s b o)) := fun _ _ h => by cases h; exact Fr.set hb o
theorem le_new_set {n : Nx} {b : Nat} {o' : AObj} {o : Option AObj} {o2 : AObj} (hb : St.vis H s b = some o') : leR H s (.ok n (newObj (setObj s b o) o2)) := fun _ _ h => by cases h; exact (Fr.set hb o).trans (Fr.new H _ o2)
theorem le_brec {a b : R Nx} {c : Bool} (h1 : leR H s a) (h2 : leR H s b) : leR H s (Bool.rec a b c) := by cases c <;> assumption
theorem le_okO {o : Option Value} : leR H s (okO s o) := by cases o with | none => exact le_bad | some v => exact le_same

theorem le_doPick (c a b : Value) : leR H s (doPick s c a b) := by
  unfold doPick
  repeat' (first | exact le_bad | exact le_same | exact le_new | exact le_set (by assumption) | exact le_new_set (by assumption) | exact le_okO | (refine le_brec ?_ ?_) | split)

theorem le_doLoad1 (a : Value) : leR H s (doLoad1 H a s) := by
  unfold doLoad1
  repeat' (first | exact le_bad | exact le_same | exact le_new | exact le_set (by assumption) | exact le_new_set (by assumption) | exact le_okO | (refine le_brec ?_ ?_) | split)

theorem le_doLoadN (n : Nat) (a : Value) : leR H s (doLoadN H n a s) := by
  unfold doLoadN
  repeat' (first | exact le_bad | exact le_same | exact le_new | exact le_set (by assumption) | exact le_new_set (by assumption) | exact le_okO | (refine le_brec ?_ ?_) | split)

theorem le_doStore1 (a v : Value) : leR H s (doStore1 H a v s) := by
  unfold doStore1
  repeat' (first | exact le_bad | exact le_same | exact le_new | exact le_set (by assumption) | exact le_new_set (by assumption) | exact le_okO | (refine le_brec ?_ ?_) | split)

theorem le_doStoreN (n : Nat) (a v : Value) : leR H s (doStoreN H n a v s) := by
  unfold doStoreN
  repeat' (first | exact le_bad | exact le_same | exact le_new | exact le_set (by assumption) | exact le_new_set (by assumption) | exact le_okO | (refine le_brec ?_ ?_) | split)

theorem le_doBox (e : TypeId) (v : Value) : leR H s (doBox e v s) := by
  unfold doBox
  repeat' (first | exact le_bad | exact le_same | exact le_new | exact le_set (by assumption) | exact le_new_set (by assumption) | exact le_okO | (refine le_brec ?_ ?_) | split)

theorem le_doField (o : Nat) (a : Value) : leR H s (doField o a s) := by
  unfold doField
  repeat' (first | exact le_bad | exact le_same | exact le_new | exact le_set (by assumption) | exact le_new_set (by assumption) | exact le_okO | (refine le_brec ?_ ?_) | split)

theorem le_doIndexS (z : Nat) (x i : Value) : leR H s (doIndexS z x i s) := by
  unfold doIndexS
  repeat' (first | exact le_bad | exact le_same | exact le_new | exact le_set (by assumption) | exact le_new_set (by assumption) | exact le_okO | (refine le_brec ?_ ?_) | split)

theorem le_doIndexA (n z : Nat) (x i : Value) : leR H s (doIndexA n z x i s) := by
  unfold doIndexA
  repeat' (first | exact le_bad | exact le_same | exact le_new | exact le_set (by assumption) | exact le_new_set (by assumption) | exact le_okO | (refine le_brec ?_ ?_) | split)

theorem le_doSlice (z : Nat) (x : Value) (a b c : Option Value) : leR H s (doSlice z x a b c s) := by
  unfold doSlice
  repeat' (first | exact le_bad | exact le_same | exact le_new | exact le_set (by assumption) | exact le_new_set (by assumption) | exact le_okO | (refine le_brec ?_ ?_) | split)

theorem le_doSliceStr (x : Value) (a b : Option Value) : leR H s (doSliceStr x a b s) := by
  unfold doSliceStr
  repeat' (first | exact le_bad | exact le_same | exact le_new | exact le_set (by assumption) | exact le_new_set (by assumption) | exact le_okO | (refine le_brec ?_ ?_) | split)

theorem le_doGen (T : Tab) (o : Oper) (tm : Tr Value) : leR H s (doGen T o tm s) := by
  unfold doGen
  repeat' (first | exact le_bad | exact le_same | exact le_new | exact le_set (by assumption) | exact le_new_set (by assumption) | exact le_okO | (refine le_brec ?_ ?_) | split)

theorem le_doBuild (z : List Value) (pl : Nat → Option (Nat × Nat)) (v : List (Nat × Value)) : leR H s (doBuild z pl v s) := by
  unfold doBuild
  repeat' (first | exact le_bad | exact le_same | exact le_new | exact le_set (by assumption) | exact le_new_set (by assumption) | exact le_okO | (refine le_brec ?_ ?_) | split | exact le_doGen _ _ _)

theorem le_doBuildSlice (e n z : Nat) (zs : List Value) (v : List (Nat × Value)) : leR H s (doBuildSlice e n z zs v s) := by
  unfold doBuildSlice
  repeat' (first | exact le_bad | exact le_same | exact le_new | exact le_set (by assumption) | exact le_new_set (by assumption) | exact le_okO | (refine le_brec ?_ ?_) | split | exact le_doGen _ _ _)

theorem le_doMakeSlice (e : Nat) (z : List Value) (y : Nat) (l c : Value) : leR H s (doMakeSlice e z y l c s) := by
  unfold doMakeSlice
  repeat' (first | exact le_bad | exact le_same | exact le_new | exact le_set (by assumption) | exact le_new_set (by assumption) | exact le_okO | (refine le_brec ?_ ?_) | split | exact le_doGen _ _ _)

theorem le_doExtract (x : Value) (i : Nat) : leR H s (doExtract x i s) := by
  unfold doExtract
  repeat' (first | exact le_bad | exact le_same | exact le_new | exact le_set (by assumption) | exact le_new_set (by assumption) | exact le_okO | (refine le_brec ?_ ?_) | split | exact le_doGen _ _ _)

theorem le_doFieldV (g : Bool) (o z : Nat) (x : Value) : leR H s (doFieldV g o z x s) := by
  unfold doFieldV
  repeat' (first | exact le_bad | exact le_same | exact le_new | exact le_set (by assumption) | exact le_new_set (by assumption) | exact le_okO | (refine le_brec ?_ ?_) | split | exact le_doGen _ _ _)

theorem le_doIndexStr (x i : Value) : leR H s (doIndexStr x i s) := by
  unfold doIndexStr
  repeat' (first | exact le_bad | exact le_same | exact le_new | exact le_set (by assumption) | exact le_new_set (by assumption) | exact le_okO | (refine le_brec ?_ ?_) | split | exact le_doGen _ _ _ | exact le_doFieldV _ _ _ _)

theorem le_doIndexAgg (n : Nat) (g : Bool) (z : Nat) (x i : Value) : leR H s (doIndexAgg n g z x i s) := by
  unfold doIndexAgg
  repeat' (first | exact le_bad | exact le_same | exact le_new | exact le_set (by assumption) | exact le_new_set (by assumption) | exact le_okO | (refine le_brec ?_ ?_) | split | exact le_doGen _ _ _ | exact le_doFieldV _ _ _ _)

theorem le_doMakeIface (t : TypeId) (x : Value) : leR H s (doMakeIface t x s) := by
  unfold doMakeIface
  repeat' (first | exact le_bad | exact le_same | exact le_new | exact le_set (by assumption) | exact le_new_set (by assumption) | exact le_okO | (refine le_brec ?_ ?_) | split | exact le_doGen _ _ _ | exact le_doFieldV _ _ _ _)

theorem le_doAssert (t : TypeId) (z : Option Value) (ok : Bool) (x : Value) : leR H s (doAssert t z ok x s) := by
  unfold doAssert
  repeat' (first | exact le_bad | exact le_same | exact le_new | exact le_set (by assumption) | exact le_new_set (by assumption) | exact le_okO | (refine le_brec ?_ ?_) | split | exact le_doGen _ _ _ | exact le_doFieldV _ _ _ _)

theorem le_doNilCheck (x : Value) : leR H s (doNilCheck x s) := by
  unfold doNilCheck
  repeat' (first | exact le_bad | exact le_same | exact le_new | exact le_set (by assumption) | exact le_new_set (by assumption) | exact le_okO | (refine le_brec ?_ ?_) | split | exact le_doGen _ _ _ | exact le_doFieldV _ _ _ _)

theorem le_doLookup (d : TypeDesc) (z : Value) (ok : Bool) (m k : Value) : leR H s (doLookup H d z ok m k s) := by
  unfold doLookup
  repeat' (first | exact le_bad | exact le_same | exact le_new | exact le_set (by assumption) | exact le_new_set (by assumption) | exact le_okO | (refine le_brec ?_ ?_) | split | exact le_doGen _ _ _ | exact le_doFieldV _ _ _ _)

theorem le_doUpdate (d : TypeDesc) (m k v : Value) : leR H s (doUpdate H d m k v s) := by
  unfold doUpdate
  repeat' (first | exact le_bad | exact le_same | exact le_new | exact le_set (by assumption) | exact le_new_set (by assumption) | exact le_okO | (refine le_brec ?_ ?_) | split | exact le_doGen _ _ _ | exact le_doFieldV _ _ _ _)

theorem le_doDelete (d : TypeDesc) (m k : Value) : leR H s (doDelete H d m k s) := by
  unfold doDelete
  repeat' (first | exact le_bad | exact le_same | exact le_new | exact le_set (by assumption) | exact le_new_set (by assumption) | exact le_okO | (refine le_brec ?_ ?_) | split | exact le_doGen _ _ _ | exact le_doFieldV _ _ _ _)

theorem le_doLen (t : Option TI) (x : Value) : leR H s (doLen H t x s) := by
  unfold doLen
  repeat' (first | exact le_bad | exact le_same | exact le_new | exact le_set (by assumption) | exact le_new_set (by assumption) | exact le_okO | (refine le_brec ?_ ?_) | split | exact le_doGen _ _ _ | exact le_doFieldV _ _ _ _)

theorem le_doAppend (e z y : Nat) (x v : Value) : leR H s (doAppend H e z y x v s) := by
  unfold doAppend
  repeat' (first | exact le_bad | exact le_same | exact le_new | exact le_set (by assumption) | exact le_new_set (by assumption) | exact le_okO | (refine le_brec ?_ ?_) | split | exact le_doGen _ _ _ | exact le_doFieldV _ _ _ _)

theorem le_doConvert (T : Tab) (o : Oper) (k : IntKind) (x : Value) (tm : Tr Value) : leR H s (doConvert T o k x tm s) := by
  unfold doConvert
  repeat' (first | exact le_bad | exact le_same | exact le_new | exact le_set (by assumption) | exact le_new_set (by assumption) | exact le_okO | (refine le_brec ?_ ?_) | split | exact le_doGen _ _ _ | exact le_doFieldV _ _ _ _)

theorem le_doBytesStr (x : Value) : leR H s (doBytesStr H x s) := by
  unfold doBytesStr
  repeat' (first | exact le_bad | exact le_same | split)

theorem le_doCallV (P : Program) (f : Value) (l : List Value) : leR H s (doCallV P H f l s) := by
  unfold doCallV
  repeat' (first | exact le_bad | exact le_same | exact le_new | exact le_set (by assumption) | exact le_new_set (by assumption) | exact le_okO | (refine le_brec ?_ ?_) | split | exact le_doGen _ _ _ | exact le_doFieldV _ _ _ _)

theorem le_doInvoke (P : Program) (n : String) (x : Value) (l : List Value) : leR H s (doInvoke P n x l s) := by
  unfold doInvoke
  repeat' (first | exact le_bad | exact le_same | exact le_new | exact le_set (by assumption) | exact le_new_set (by assumption) | exact le_okO | (refine le_brec ?_ ?_) | split | exact le_doGen _ _ _ | exact le_doFieldV _ _ _ _)

theorem le_doMakeFunc (fn : Fn) (a b : List Value) : leR H s (doMakeFunc fn a b s) := by
  unfold doMakeFunc
  repeat' (first | exact le_bad | exact le_same | exact le_new | exact le_set (by assumption) | exact le_new_set (by assumption) | exact le_okO | (refine le_brec ?_ ?_) | split | exact le_doGen _ _ _ | exact le_doFieldV _ _ _ _)

theorem le_nilF (op : BinOp) (a b : Bool) : leR H s (nilF op a b s) := by
  unfold nilF
  repeat' (first | exact le_bad | exact le_same | exact le_new | exact le_set (by assumption) | exact le_new_set (by assumption) | exact le_okO | (refine le_brec ?_ ?_) | split | exact le_doGen _ _ _ | exact le_doFieldV _ _ _ _)

theorem le_doBin (T : Tab) (o : Oper) (ty : Option TI) (op : BinOp) (x y : Value) (tm : Tr Value) : leR H s (doBin T o ty op x y tm s) := by
  unfold doBin
  repeat' (first | exact le_bad | exact le_same | exact le_new | exact le_set (by assumption) | exact le_new_set (by assumption) | exact le_okO | (refine le_brec ?_ ?_) | split | exact le_doGen _ _ _ | exact le_doFieldV _ _ _ _ | exact le_nilF _ _ _)

theorem brec_or {α : Type _} {a b x : α} {c : Bool} (h : (Bool.rec a b c : α) = x) : a = x ∨ b = x := by cases c <;> simp_all

theorem le_cOp {T : Tab} {o : Oper} {f : OpF} (hc : cOp T o = .mk f) (H : Hid) (tm : Tr Value) (s : St) : leR H s (f H tm s) := by
  obtain ⟨dst, op, ty, pos, after, g⟩ := o
  have fin : ∀ {f : OpF}, (leR H s (f H tm s)) → leR H s (f H tm s) := fun h => h
  cases op
  case call c =>
    obtain ⟨callee, args, ats⟩ := c
    cases callee
    case value x =>
      cases x <;> simp only [cOp] at hc <;> repeat' (first
        | (cases hc; first | exact le_bad | exact le_same | exact le_doPick _ _ _ | exact le_doLoad1 _ | exact le_doLoadN _ _ | exact le_doStore1 _ _ | exact le_doStoreN _ _ _ | exact le_doBox _ _ | exact le_doField _ _ | exact le_doIndexS _ _ _ | exact le_doIndexA _ _ _ _ | exact le_doSlice _ _ _ _ _ | exact le_doSliceStr _ _ _ | exact le_doGen _ _ _ | exact le_doBuild _ _ _ | exact le_doBuildSlice _ _ _ _ _ | exact le_doMakeSlice _ _ _ _ _ | exact le_doExtract _ _ | exact le_doFieldV _ _ _ _ | exact le_doIndexStr _ _ | exact le_doIndexAgg _ _ _ _ _ | exact le_doMakeIface _ _ | exact le_doAssert _ _ _ _ | exact le_doNilCheck _ | exact le_doLookup _ _ _ _ _ | exact le_doUpdate _ _ _ _ | exact le_doDelete _ _ _ | exact le_doLen _ _ | exact le_doAppend _ _ _ _ _ | exact le_doConvert _ _ _ _ _ | exact le_doBytesStr _ | exact le_doCallV _ _ _ | exact le_doInvoke _ _ _ _ | exact le_doMakeFunc _ _ _ | exact le_nilF _ _ _ | exact le_doBin _ _ _ _ _ _ _)
        | (rcases brec_or hc with hc | hc)
        | split at hc)
    case invoke r n => cases hc; exact le_doInvoke _ _ _ _
    case builtin b =>
      cases b <;> simp only [cOp] at hc <;> repeat' (first
        | (cases hc; first | exact le_bad | exact le_same | exact le_doPick _ _ _ | exact le_doLoad1 _ | exact le_doLoadN _ _ | exact le_doStore1 _ _ | exact le_doStoreN _ _ _ | exact le_doBox _ _ | exact le_doField _ _ | exact le_doIndexS _ _ _ | exact le_doIndexA _ _ _ _ | exact le_doSlice _ _ _ _ _ | exact le_doSliceStr _ _ _ | exact le_doGen _ _ _ | exact le_doBuild _ _ _ | exact le_doBuildSlice _ _ _ _ _ | exact le_doMakeSlice _ _ _ _ _ | exact le_doExtract _ _ | exact le_doFieldV _ _ _ _ | exact le_doIndexStr _ _ | exact le_doIndexAgg _ _ _ _ _ | exact le_doMakeIface _ _ | exact le_doAssert _ _ _ _ | exact le_doNilCheck _ | exact le_doLookup _ _ _ _ _ | exact le_doUpdate _ _ _ _ | exact le_doDelete _ _ _ | exact le_doLen _ _ | exact le_doAppend _ _ _ _ _ | exact le_doConvert _ _ _ _ _ | exact le_doBytesStr _ | exact le_doCallV _ _ _ | exact le_doInvoke _ _ _ _ | exact le_doMakeFunc _ _ _ | exact le_nilF _ _ _ | exact le_doBin _ _ _ _ _ _ _)
        | (rcases brec_or hc with hc | hc)
        | split at hc)
  all_goals
    simp only [cOp] at hc
    repeat' (first
        | (cases hc; first | exact le_bad | exact le_same | exact le_new | exact le_doPick _ _ _ | exact le_doLoad1 _ | exact le_doLoadN _ _ | exact le_doStore1 _ _ | exact le_doStoreN _ _ _ | exact le_doBox _ _ | exact le_doField _ _ | exact le_doIndexS _ _ _ | exact le_doIndexA _ _ _ _ | exact le_doSlice _ _ _ _ _ | exact le_doSliceStr _ _ _ | exact le_doGen _ _ _ | exact le_doBuild _ _ _ | exact le_doBuildSlice _ _ _ _ _ | exact le_doMakeSlice _ _ _ _ _ | exact le_doExtract _ _ | exact le_doFieldV _ _ _ _ | exact le_doIndexStr _ _ | exact le_doIndexAgg _ _ _ _ _ | exact le_doMakeIface _ _ | exact le_doAssert _ _ _ _ | exact le_doNilCheck _ | exact le_doLookup _ _ _ _ _ | exact le_doUpdate _ _ _ _ | exact le_doDelete _ _ _ | exact le_doLen _ _ | exact le_doAppend _ _ _ _ _ | exact le_doConvert _ _ _ _ _ | exact le_doBytesStr _ | exact le_doCallV _ _ _ | exact le_doInvoke _ _ _ _ | exact le_doMakeFunc _ _ _ | exact le_nilF _ _ _ | exact le_doBin _ _ _ _ _ _ _)
        | (rcases brec_or hc with hc | hc)
        | split at hc)

end Go.Ev

set_option linter.unusedVariables false
set_option linter.unusedSimpArgs false
namespace Go.Ev
open Go.RowKit

variable {B0 : Base} {H : Hid} {s s' : St} {ρ : Ren} {G : Hp} {w : World} {nx : Nx}

theorem fiOf_spec {P : Program} {f : FuncId} {fi : FI} (h : fiOf P f = some fi) : ∃ fn, P.funcs[f]? = some fn ∧ fn.body = some fi.body ∧ fn.ntmps = fi.ntmps ∧ fn.results.toList = fi.results := by
  unfold fiOf at h
  split at h
  · rename_i fn hfn
    split at h
    · rename_i c hc
      cases h
      exact ⟨fn, hfn, hc, rfl, rfl⟩
    · cases h
  · cases h

/-- the marks of loops over functions among the deferred calls -/
inductive DefR (ρ : Ren) : List Nat → List Deferred → Prop
  | nil : DefR ρ [] []
  | cons {r : Nat} {l : Loc} {ds : List Nat} {ds' : List Deferred} (h : ρ r = some l) (t : DefR ρ ds ds') : DefR ρ (r :: ds) ({ target := .collected l.blk, args := #[] } :: ds')

theorem DefR.mono {ρ ρ' : Ren} (hρ : RenLe ρ ρ') : ∀ {l l'}, DefR ρ l l' → DefR ρ' l l'
  | _, _, .nil => .nil
  | _, _, .cons h t => .cons (hρ _ _ h) (DefR.mono hρ t)

/-- the round's record -/
def RofR (ρ : Ren) : Option Nat → Option Nat → Prop
  | none, none => True
  | some x, some y => ∃ l, ρ x = some l ∧ y = l.blk
  | _, _ => False

theorem RofR.mono {ρ ρ' : Ren} (hρ : RenLe ρ ρ') : ∀ {x y}, RofR ρ x y → RofR ρ' x y
  | none, none, _ => trivial
  | some _, some _, ⟨l, h, e⟩ => ⟨l, hρ _ _ h, e⟩
  | none, some _, h => h.elim
  | some _, none, h => h.elim

structure FrOk (ρ : Ren) (fr : AF) (b : Frame) (a : Act) : Prop where
  fn : b.fn = fr.fn
  kind : b.kind = .normal
  defs : DefR ρ fr.defers a.defers
  env : EnvR ρ fr.tmps a
  nt : fr.nt ≤ a.tmps.size
  rof : RofR ρ fr.rof b.roundOf

/-- how a frame's run ends: a function's frame stands ready to leave; a round's has left -/
def Ends (P : Program) (ro : Option Nat) (m : List Frame → Machine) (fn : FuncId) (cs : List Frame) (w' : World) (v' : Value) : Prop :=
  match ro with
  | none => ∃ fr', Steps P (m cs) (lone fr' cs w') ∧ fr'.fn = fn ∧ fr'.leaving P w' (.returned v')
  | some _ => ∀ c cs', cs = c :: cs' → Steps P (m cs) (lone (c.finish v') cs' w')

theorem Ends.of_steps {P : Program} {ro : Option Nat} {m m' : List Frame → Machine} {fn : FuncId} {cs : List Frame} {w' : World} {v' : Value} (h : Steps P (m cs) (m' cs)) (e : Ends P ro m' fn cs w' v') : Ends P ro m fn cs w' v' := by
  cases ro with
  | none => obtain ⟨fr', h1, h2⟩ := e; exact ⟨fr', h.trans h1, h2⟩
  | some x => exact fun c cs' hc => h.trans (e c cs' hc)

/-- the fence that bars nothing, in a round's frame or none -/
def fenceOf (ro : Option Nat) : Fence := { Fence.wide with round := ro }

theorem callsIn_fence {ro : Option Nat} {n : Nat} {P : Program} {f : FuncId} {args : Array Value} {w : World} {R : Ending → World → Prop} (h : Calls P f args w R) : CallsIn (fenceOf ro) n P f args w R := by
  cases ro with
  | none => exact callsIn_wide.2 h
  | some l => exact callsIn_wide.2 h

theorem stepsIn_fence {ro : Option Nat} {P : Program} {m m' : Machine} (h : Steps P m m') : StepsIn (Machine.fenced P (fenceOf ro)) P m m' := by
  cases ro with
  | none => exact stepsIn_wide.2 h
  | some l => exact stepsIn_wide.2 h

def MonoRec (rec : Rec) : Prop := ∀ H fr s v s', rec H fr s = .ok v s' → Fr H s s'

/-- a run's ground has what the summaries ask for -/
def Base.Fits (B0 : Base) (T : Tab) : Prop := ∀ w, B0.inv w → T.inv w

def SoundRec (T : Tab) (rec : Rec) : Prop := ∀ H fr s v s', rec H fr s = .ok v s' → ∀ (B0 : Base) ρ G w b a, B0.Fits T → FrOk ρ fr b a → Pre B0 H s s' ρ G w → ∀ cs,
  ∃ ρ' w' v', Ends T.prog fr.rof (fun cs => lone (b.atR a fr.todo) cs w) b.fn cs w' v' ∧ VR ρ' v v' ∧ Post B0 H s s' ρ ρ' G w w'

/-- what is told of functions without a run -/
def SumsOk (T : Tab) : Prop := ∀ f args v, T.sum f args = some v → ground v = true ∧ ∀ (ρ : Ren) (args' : Array Value) w, T.inv w → VRs ρ args args'.toList →
  Calls T.prog f args' w fun e w' => e = .returned v ∧ Below w.heap.size w w'

/-- a call, as it was carried out elsewhere -/
def CallOk (T : Tab) (H : Hid) (f : FuncId) (args : List Value) (s : St) (v : Value) (s' : St) : Prop := ∀ (B0 : Base) ρ G w (args' : Array Value), B0.Fits T → VRs ρ args args'.toList → Pre B0 H s s' ρ G w →
  Calls T.prog f args' w fun e w' => ∃ ρ' v', e = .returned v' ∧ VR ρ' v v' ∧ Post B0 H s s' ρ ρ' G w w'

def MemoOk (T : Tab) : Prop := ∀ f args H s v s', T.memo f args H s = some (v, s') → Fr H s s' ∧ CallOk T H f args s v s'

structure SumOk (T : Tab) : Prop where
  sum : SumsOk T
  memo : MemoOk T

theorem Sim.below {w' : World} (h : Sim B0 ρ G w) (hb : Below w.heap.size w w') : Sim B0 ρ G w' := by
  have hk2 := B0.keep _ _ h.inv (hb.mono h.base)
  have hk : ∀ k, k < w.heap.size → w'.heap[k]? = w.heap[k]? := hb.block
  refine ⟨fun b o hbo => ?_, h.inj, fun b l hl => ?_, Nat.le_trans h.base hb.size, hk2⟩
  · obtain ⟨l, h1, x, h2, h3⟩ := h.obj b o hbo
    exact ⟨l, h1, x, by rw [hk _ (h.own b l h1).2]; exact h2, h3⟩
  · have := h.own b l hl; have := hb.size; omega

theorem Post.calm {w' : World} (hsub : Sub H s G) (hs : Sim B0 ρ G w) (hb : Below w.heap.size w w') : Post B0 H s s ρ ρ G w w' :=
  ⟨.refl _, fun x a c => absurd a c, by rw [upd_refl G H s hsub]; exact hs.below hb, hb.mono hs.base, .refl _ _⟩

theorem calls_of {T : Tab} {rec : Rec} (hS : SoundRec T rec) (hB : B0.Fits T) {f : FuncId} {args : List Value} {args' : Array Value} {fr : AF} {v : Value} (hfr : enterA T f args = some fr) (h : rec H fr s = .ok v s')
    (hargs : VRs ρ args args'.toList) (p : Pre B0 H s s' ρ G w) :
    Calls T.prog f args' w fun e w' => ∃ ρ' v', e = .returned v' ∧ VR ρ' v v' ∧ Post B0 H s s' ρ ρ' G w w' := by
  unfold enterA at hfr
  split at hfr
  · rename_i fi hfi
    cases hfr
    obtain ⟨fn, hf, hb, hn, _⟩ := fiOf_spec hfi
    intro cs
    have hlen := hargs.length
    have henter : Frame.enter T.prog f args' .normal =
        ({ (default : Frame) with fn := f, kind := .normal, roundOf := none } : Frame).atR { tmps := args' ++ Array.replicate (fn.ntmps - args'.size) undef, defers := [] } [.code fi.body] := by
      simp [Frame.enter, Frame.atR, hf, hb]
    have henv : EnvR ρ (trOf args 0 .lf) { tmps := args' ++ Array.replicate (fn.ntmps - args'.size) undef, defers := [] } := by
      intro t
      show VR ρ (envT ((trOf args 0 .lf).get t)) _
      rw [get_trOf]
      by_cases e : 0 ≤ t ∧ t < 0 + args.length
      · rw [if_pos e, Nat.sub_zero]
        have h1 : args[t]? = some (args[t]'(by omega)) := List.getElem?_eq_getElem (by omega)
        obtain ⟨u, hu, hr⟩ := hargs.get h1
        rw [h1]
        have : (args' ++ Array.replicate (fn.ntmps - args'.size) undef).getD t undef = u := by
          rw [Array.getD_eq_getD_getElem?, ← Array.getElem?_toList, Array.toList_append, List.getElem?_append_left (by omega), hu]
          rfl
        rw [this]
        exact hr
      · rw [if_neg e]
        have : (args' ++ Array.replicate (fn.ntmps - args'.size) undef).getD t undef = undef := by
          rw [Array.getD_eq_getD_getElem?, ← Array.getElem?_toList, Array.toList_append, List.getElem?_append_right (by omega)]
          simp only [Array.toList_replicate, List.getElem?_replicate]
          split <;> rfl
        rw [this]
        exact VR.undef ρ
    have hsz : fi.ntmps ≤ (args' ++ Array.replicate (fn.ntmps - args'.size) undef).size := by
      simp only [Array.size_append, Array.size_replicate]; omega
    obtain ⟨ρ', w', v', ⟨fr', h1, h2, h3⟩, h4, h5⟩ := hS _ _ _ _ _ h B0 ρ G w ({ (default : Frame) with fn := f, kind := .normal, roundOf := none } : Frame) { tmps := args' ++ Array.replicate (fn.ntmps - args'.size) undef, defers := [] }
      hB ⟨rfl, rfl, .nil, henv, hsz, trivial⟩ p cs
    rw [henter]
    exact ⟨.returned v', w', fr', ⟨ρ', v', rfl, h4, h5⟩, h1, h2, h3⟩
  · cases hfr

theorem mono_fin {T : Tab} {rec : Rec} (hSum : SumOk T) (hM : MonoRec rec) {r : R Nx} {v : Value} (hr : leR H s r) (h : fin T H (rec H) r = .ok v s') : Fr H s s' ∧ ∀ nx s1, r = .ok nx s1 → Fr H s1 s' := by
  cases r with
  | bad w => cases h
  | ok nx s1 =>
    have h1 := hr nx s1 rfl
    have key : Fr H s1 s' := by
      cases nx with
      | val v' => cases h; exact Fr.refl _ _
      | enter f args =>
        have h : (match T.sum f args with | some v => .ok v s1 | none => match T.memo f args H s1 with | some (v, s2) => .ok v s2 | none => match enterA T f args with | some fr => rec H fr s1 | none => .bad "enter" : R Value) = .ok v s' := h
        split at h
        · cases h; exact Fr.refl _ _
        · split at h
          · rename_i hm
            cases h
            exact (hSum.memo _ _ _ _ _ _ hm).1
          · split at h
            · exact hM _ _ _ _ _ h
            · cases h
      | round l f nt tm as bd => exact hM _ _ _ _ _ h
    refine ⟨h1.trans key, fun nx' s1' e => ?_⟩
    cases e
    exact key

theorem le_noR {r : R Nx} (h : leR H s r) : leR H s (noR r) := by
  intro n s1 e
  cases r with
  | bad w => cases e
  | ok n0 s0 =>
    cases n0 with
    | val v => exact h _ _ e
    | enter f l => exact h _ _ e
    | round _ _ _ _ _ _ => cases e

/-- a round of a loop over a function, carried out -/
theorem round_of {T : Tab} {rec : Rec} (hS : SoundRec T rec) (hB : B0.Fits T) {ro : Option Nat} {n : Nat} {b : Nat} {l : Loc} {f : FuncId} {nt : Nat} {tm : Tr Value} {tmps' : Array Value} {as bd : Code} {v : Value}
    (hl : ρ b = some l) (hn : nt ≤ tmps'.size) (ht : ∀ t, VR ρ (envT (tm.get t)) (tmps'.getD t undef))
    (h : rec H { fn := f, nt := nt, tmps := tm, todo := [.code as, .beginRound, .code bd], defers := [], rof := some b } s = .ok v s') (p : Pre B0 H s s' ρ G w) {R : Ending → World → Prop}
    (hR : ∀ ρ' v' w', VR ρ' v v' → Post B0 H s s' ρ ρ' G w w' → R (.returned v') w') : RoundIn (fenceOf ro) n T.prog l.blk f tmps' as bd w R := by
  refine ⟨trivial, fun c cs _ => ?_⟩
  obtain ⟨ρ', w', v', h1, h2, h3⟩ := hS _ _ _ _ _ h B0 ρ G w ({ (default : Frame) with fn := f, kind := .normal, roundOf := some l.blk } : Frame) { tmps := tmps', defers := [] }
    hB ⟨rfl, rfl, .nil, ht, hn, ⟨l, hl, rfl⟩⟩ p (c :: cs)
  have hb0 : Frame.round l.blk f tmps' as bd .normal = ({ (default : Frame) with fn := f, kind := .normal, roundOf := some l.blk } : Frame).atR { tmps := tmps', defers := [] } [.code as, .beginRound, .code bd] := by
    simp [Frame.round, Frame.atR]
  refine ⟨.returned v', w', hR _ _ _ h2 h3, ?_⟩
  rw [hb0]
  exact stepsIn_fence (h1 c cs rfl)

/-- an operation, a call carried out: the machine's -/
theorem fin_sound {T : Tab} {rec : Rec} (hE : Enters T.prog) (hS : SoundRec T rec) (hM : MonoRec rec) (hSum : SumOk T) (hB : B0.Fits T) {o : Oper} {f : OpF} {tm : Tr Value} {a : Act} {v : Value} {ro : Option Nat} {n : Nat}
    (hc : cOp T o = .mk f) (ho : Opnds o) (h : fin T H (rec H) (f H tm s) = .ok v s') (e : EnvR ρ tm a) (p : Pre B0 H s s' ρ G w)
    {next : Act → World → Prop} {Q : Exit → Act → World → Prop} (hn : ∀ ρ' v' w', VR ρ' v v' → Post B0 H s s' ρ ρ' G w w' → next (a.put o.dst v') w') : o.wpIn (fenceOf ro) n T.prog a w next Q := by
  have hle := le_cOp hc H tm s
  cases hf : f H tm s with
  | bad w => rw [hf] at h; cases h
  | ok nx s1 =>
    have hnd : ∀ c, o.op ≠ .defer c := by
      intro c hd
      obtain ⟨dst, op, ty, pos, after, g⟩ := o
      simp only at hd
      subst hd
      simp only [cOp] at hc
      cases hc
      cases hf
    rw [hf] at h hle
    have hm := ((mono_fin hSum hM hle h).2 nx s1 rfl).next
    obtain ⟨ρ1, w1, nx', h1, h2, h3⟩ := op_sound hE hc hf e ho (p.first hm)
    refine ⟨fun _ _ => trivial, ?_⟩
    have hsem : o.semAt (fenceOf ro).round a.eval = execOp a.eval o := Oper.semAt_eq _ _ _ hnd
    rw [hsem, h1]
    cases h2 with
    | val hv =>
      have h : (R.ok _ s1 : R Value) = .ok v s' := h
      obtain ⟨rfl, rfl⟩ := ok_inj h
      exact hn _ _ _ hv h3
    | skip =>
      have h : (R.ok _ s1 : R Value) = .ok v s' := h
      obtain ⟨rfl, rfl⟩ := ok_inj h
      exact hn _ _ _ (VR.undef _) h3
    | round hl hnt ht =>
      rename_i b l g nt tm0 tmps' as bd
      have h : rec H { fn := g, nt := nt, tmps := tm0, todo := [.code as, .beginRound, .code bd], defers := [], rof := some b } s1 = .ok v s' := h
      have p1 := p.next h3
      rw [Oper.uponIn_round]
      refine ⟨fun k => (by cases k), round_of hS hB hl hnt ht h p1 fun ρ2 v' w2 hv hq => ?_⟩
      exact hn ρ2 v' w2 hv (h3.trans hq)
    | enter hargs =>
      rename_i g args args'
      have h : (match T.sum g args with | some v => .ok v s1 | none => match T.memo g args H s1 with | some (v, s2) => .ok v s2 | none => match enterA T g args with | some fr => rec H fr s1 | none => .bad "enter" : R Value) = .ok v s' := h
      have p1 := p.next h3
      rw [Oper.uponIn_enter]
      refine ⟨fun k => (by cases k), callsIn_fence ?_⟩
      split at h
      · rename_i u hu
        obtain ⟨rfl, rfl⟩ := ok_inj h
        obtain ⟨hg, hcalls⟩ := hSum.sum _ _ _ hu
        refine (hcalls ρ1 args' w1 (hB _ p1.sim.inv) hargs).mono ?_
        rintro e' w2 ⟨rfl, hb⟩
        exact hn ρ1 u w2 (ground_self hg) (h3.trans (Post.calm p1.sub p1.sim hb))
      · split at h
        · rename_i hmm
          cases h
          refine ((hSum.memo _ _ _ _ _ _ hmm).2 _ _ _ _ _ hB hargs p1).mono ?_
          rintro e' w2 ⟨ρ2, v', rfl, hv, hq⟩
          exact hn ρ2 v' w2 hv (h3.trans hq)
        · split at h
          · rename_i fr hfr
            refine (calls_of hS hB hfr h hargs p1).mono ?_
            rintro e' w2 ⟨ρ2, v', rfl, hv, hq⟩
            exact hn ρ2 v' w2 hv (h3.trans hq)
          · cases h


/-- an operation of a region that draws its order: no round begins in it -/
theorem fin_soundD {T : Tab} {rec : Rec} (hE : Enters T.prog) (hS : SoundRec T rec) (hM : MonoRec rec) (hSum : SumOk T) (hB : B0.Fits T) {o : Oper} {f : OpF} {tm : Tr Value} {a : Act} {v : Value}
    (hc : cOp T o = .mk f) (ho : Opnds o) (h : fin T H (rec H) (noR (f H tm s)) = .ok v s') (e : EnvR ρ tm a) (p : Pre B0 H s s' ρ G w)
    {next : Act → World → Prop} {Q : Exit → Act → World → Prop} (hn : ∀ ρ' v' w', VR ρ' v v' → Post B0 H s s' ρ ρ' G w w' → next (a.put o.dst v') w') : o.wp T.prog a w next Q := by
  have hle := le_cOp hc H tm s
  cases hf : f H tm s with
  | bad w => rw [hf] at h; cases h
  | ok nx s1 =>
    rw [hf] at h
    have hle' := le_noR hle
    rw [hf] at hle'
    have hm : s1.next ≤ s'.next := by
      cases nx with
      | val _ => exact ((mono_fin hSum hM hle' h).2 _ s1 rfl).next
      | enter _ _ => exact ((mono_fin hSum hM hle' h).2 _ s1 rfl).next
      | round _ _ _ _ _ _ => cases h
    obtain ⟨ρ1, w1, nx', h1, h2, h3⟩ := op_sound hE hc hf e ho (p.first hm)
    unfold Oper.wp
    rw [h1]
    cases h2 with
    | val hv =>
      have h : (R.ok _ s1 : R Value) = .ok v s' := h
      obtain ⟨rfl, rfl⟩ := ok_inj h
      exact hn _ _ _ hv h3
    | skip =>
      have h : (R.ok _ s1 : R Value) = .ok v s' := h
      obtain ⟨rfl, rfl⟩ := ok_inj h
      exact hn _ _ _ (VR.undef _) h3
    | round _ _ _ => cases h
    | enter hargs =>
      rename_i g args args'
      have h : (match T.sum g args with | some v => .ok v s1 | none => match T.memo g args H s1 with | some (v, s2) => .ok v s2 | none => match enterA T g args with | some fr => rec H fr s1 | none => .bad "enter" : R Value) = .ok v s' := h
      have p1 := p.next h3
      rw [Oper.upon_enter]
      split at h
      · rename_i u hu
        obtain ⟨rfl, rfl⟩ := ok_inj h
        obtain ⟨hg, hcalls⟩ := hSum.sum _ _ _ hu
        refine (hcalls ρ1 args' w1 (hB _ p1.sim.inv) hargs).mono ?_
        rintro e' w2 ⟨rfl, hb⟩
        exact hn ρ1 u w2 (ground_self hg) (h3.trans (Post.calm p1.sub p1.sim hb))
      · split at h
        · rename_i hmm
          cases h
          refine ((hSum.memo _ _ _ _ _ _ hmm).2 _ _ _ _ _ hB hargs p1).mono ?_
          rintro e' w2 ⟨ρ2, v', rfl, hv, hq⟩
          exact hn ρ2 v' w2 hv (h3.trans hq)
        · split at h
          · rename_i fr hfr
            refine (calls_of hS hB hfr h hargs p1).mono ?_
            rintro e' w2 ⟨ρ2, v', rfl, hv, hq⟩
            exact hn ρ2 v' w2 hv (h3.trans hq)
          · cases h

end Go.Ev

set_option linter.unusedVariables false
set_option linter.unusedSimpArgs false
namespace Go.Ev
open Go.RowKit

variable {B0 : Base} {H : Hid} {s s' : St} {ρ : Ren} {G : Hp} {w : World} {nx : Nx}

theorem put_size (a : Act) (d : Option Tmp) (v : Value) : (a.put d v).tmps.size = a.tmps.size := by
  cases d <;> simp [Act.put]

theorem put_defers' (a : Act) (d : Option Tmp) (v : Value) : (a.put d v).defers = a.defers := by
  cases d <;> rfl

theorem EnvR.put {tm : Tr Value} {a : Act} (e : EnvR ρ tm a) {d : Option Tmp} {v v' : Value} (hv : VR ρ v v') (hd : ∀ t, d = some t → t < a.tmps.size) : EnvR ρ (putT tm d v) (a.put d v') := by
  cases d with
  | none => exact e
  | some t =>
    have ht := hd t rfl
    intro u
    show VR ρ (envT ((tm.set t (some v)).get u)) ((a.tmps.setIfInBounds t v').getD u undef)
    rw [Tr.get_set, Array.getD_eq_getD_getElem?, Array.getElem?_setIfInBounds]
    by_cases h : u = t
    · subst h
      rw [if_pos rfl, if_pos rfl, if_pos ht]
      exact hv
    · rw [if_neg h, if_neg (fun k => h k.symm)]
      have := e u
      rw [Array.getD_eq_getD_getElem?] at this
      exact this

theorem cOps_cons (T : Tab) (ops : Array Oper) (o : Oper) (l : List Oper) (bs : List Nat) : ∃ b bs', cOps T ops (o :: l) bs = cOne T ops o b :: cOps T ops l bs' := by
  cases bs with
  | nil => exact ⟨0, [], rfl⟩
  | cons b bs => exact ⟨b, bs, rfl⟩

theorem regA_cons (T : Tab) (rec : Rec) (H : Hid) (g : Option (Option Tmp × Bool)) (d : Option Tmp) (f : OpF) (b : Nat) (q : Bool) (sf : Box (Tr Value → Nat → Hid)) (l : List COp) (tm : Tr Value) (s : St) :
    regA T rec H (⟨g, d, .mk f, b, q, sf⟩ :: l) tm s = if wantC g tm = true then (fin T H (rec H) (f H tm s)).bind (fun v s => regA T rec H l (putT tm d v) s) else regA T rec H l (putT tm d undef) s := by
  show (Bool.rec (regA T rec H l (putT tm d undef) s) ((fin T H (rec H) (f H tm s)).bind fun v s => regA T rec H l (putT tm d v) s) (wantC g tm) : R (Tr Value)) = _
  rw [brec_ite]

theorem bind_ok {α β : Type} {r : R α} {f : α → St → R β} {b : β} {t : St} (h : r.bind f = .ok b t) : ∃ a u, r = .ok a u ∧ f a u = .ok b t := by
  cases r with
  | ok a u => exact ⟨a, u, rfl, h⟩
  | bad w => cases h

/-- a guard is asked alike -/
theorem want_eq {ops : Array Oper} {o : Oper} {tm : Tr Value} {a : Act} (e : EnvR ρ tm a) (b : Nat) (T : Tab) : wantC (cOne T ops o b).guard tm = Region.wanted o (yielded ops a.tmps) := by
  unfold cOne Region.wanted
  cases hg : o.guard with
  | none => rfl
  | some jw =>
    obtain ⟨j, w⟩ := jw
    simp only [yielded]
    cases hd : (ops[j]?).bind (·.dst) with
    | none => simp [wantC]
    | some d =>
      simp only [wantC, Option.bind_some]
      have hr := e d
      rw [Array.getD_eq_getD_getElem?] at hr
      cases hget : tm.get d with
      | none =>
        rw [hget] at hr
        cases ha : a.tmps[d]? with
        | none => rfl
        | some u =>
          rw [ha] at hr
          have hr : VR ρ undef u := hr
          unfold Go.undef at hr
          cases hr
          rfl
      | some v =>
        rw [hget] at hr
        have hr : VR ρ v (a.tmps[d]?.getD undef) := hr
        cases ha : a.tmps[d]? with
        | none =>
          rw [ha] at hr
          have hr : VR ρ v undef := hr
          unfold Go.undef at hr
          cases hr
          rfl
        | some u =>
          rw [ha] at hr
          have hr2 : VR ρ v u := hr
          clear hr
          cases hr2 with
          | bool b' => cases b' <;> cases w <;> rfl
          | _ => rfl

theorem mono_regA {T : Tab} {rec : Rec} (hSum : SumOk T) (hM : MonoRec rec) {ops : Array Oper} : ∀ (l : List Oper) (bs : List Nat) (tm : Tr Value) (s : St) (tm' : Tr Value) (s' : St),
    regA T rec H (cOps T ops l bs) tm s = .ok tm' s' → Fr H s s'
  | [], bs, tm, s, tm', s', h => by
    cases bs <;> (cases h; exact Fr.refl _ _)
  | o :: l, bs, tm, s, tm', s', h => by
    obtain ⟨b, bs', hb⟩ := cOps_cons T ops o l bs
    rw [hb] at h
    cases hrun : (cOne T ops o b).run with
    | mk f =>
      have hcone : cOne T ops o b = ⟨(cOne T ops o b).guard, o.dst, .mk f, b, pureOp o.op, .mk (seeOf o.op)⟩ := by rw [← hrun]; rfl
      rw [hcone, regA_cons] at h
      split at h
      · obtain ⟨v, u, h1, h2⟩ := bind_ok h
        have hle : leR H s (f H tm s) := by
          unfold cOne at hrun
          simp only at hrun
          rcases brec_or hrun with h3 | h3
          · cases h3; exact le_bad
          · exact le_cOp h3 H tm s
        exact (mono_fin hSum hM hle h1).1.trans (mono_regA hSum hM l bs' _ _ _ _ h2)
      · exact mono_regA hSum hM l bs' _ _ _ _ h

theorem opnds_of {o : Oper} (h : o.op.operands.toList.all opndOk = true) : Opnds o := fun x hx => List.all_eq_true.1 h x (by simpa using hx)

theorem run_of_cOne {T : Tab} {ops : Array Oper} {o : Oper} {b : Nat} {f : OpF} (h : (cOne T ops o b).run = .mk f) : (∀ H tm s, f H tm s = .bad "operand") ∨ (cOp T o = .mk f ∧ Opnds o) := by
  unfold cOne at h
  simp only at h
  cases hall : o.op.operands.toList.all opndOk with
  | false => rw [hall] at h; cases h; exact .inl fun _ _ _ => rfl
  | true => rw [hall] at h; exact .inr ⟨h, opnds_of hall⟩

/-- a region in the order of its text -/
theorem regA_sound {T : Tab} {rec : Rec} (hE : Enters T.prog) (hS : SoundRec T rec) (hM : MonoRec rec) (hSum : SumOk T) (hB : B0.Fits T) {ops : Array Oper} {nt : Nat} {D : List Deferred} {ro : Option Nat} {n : Nat} (hd : dstsOk nt ops = true) :
    ∀ (l : List Oper) (k : Nat) (bs : List Nat) (tm : Tr Value) (s : St) (tm' : Tr Value) (s' : St) (ρ : Ren) (G : Hp) (w : World) (a : Act), ops.toList.drop k = l →
    regA T rec H (cOps T ops l bs) tm s = .ok tm' s' → EnvR ρ tm a → nt ≤ a.tmps.size → a.defers = D → Pre B0 H s s' ρ G w →
    ∀ {Q : Exit → Act → World → Prop}, (∀ ρ' a' w', EnvR ρ' tm' a' → nt ≤ a'.tmps.size → a'.defers = D → Post B0 H s s' ρ ρ' G w w' → Q .normal a' w') →
    wpOpsIn (fenceOf ro) n T.prog ops Q (List.range' k l.length) a w
  | [], k, bs, tm, s, tm', s', ρ, G, w, a, hl, h, e, hnt, hdef, p, Q, hQ => by
    have : (R.ok tm s : R (Tr Value)) = .ok tm' s' := by cases bs <;> exact h
    obtain ⟨rfl, rfl⟩ := ok_inj this
    exact hQ ρ a w e hnt hdef (.refl p.sub p.sim)
  | o :: l, k, bs, tm, s, tm', s', ρ, G, w, a, hl, h, e, hnt, hdef, p, Q, hQ => by
    have hget : ops[k]? = some o := by
      rw [← Array.getElem?_toList]
      have : (ops.toList.drop k)[0]? = some o := by rw [hl]; rfl
      rwa [List.getElem?_drop, Nat.add_zero] at this
    have hl' : ops.toList.drop (k + 1) = l := by
      have : (ops.toList.drop k).drop 1 = l := by rw [hl]; rfl
      rwa [List.drop_drop] at this
    have hdst : ∀ t, o.dst = some t → t < a.tmps.size := by
      intro t ht
      have hmem : o ∈ ops.toList := List.mem_of_getElem? (by rw [Array.getElem?_toList]; exact hget)
      have := List.all_eq_true.1 hd o hmem
      rw [ht] at this
      have : t < nt := by simpa [Nat.blt_eq] using this
      exact Nat.lt_of_lt_of_le this hnt
    obtain ⟨b, bs', hb⟩ := cOps_cons T ops o l bs
    rw [hb] at h
    cases hrun : (cOne T ops o b).run with
    | mk f =>
      have hcone : cOne T ops o b = ⟨(cOne T ops o b).guard, o.dst, .mk f, b, pureOp o.op, .mk (seeOf o.op)⟩ := by rw [← hrun]; rfl
      rw [hcone, regA_cons, want_eq e] at h
      rw [List.length_cons, List.range'_succ]
      simp only [wpOpsIn, hget]
      split at h
      · rename_i hw
        rw [if_pos hw]
        obtain ⟨v, u, h1, h2⟩ := bind_ok h
        rcases run_of_cOne hrun with hbad | ⟨hc, ho⟩
        · rw [hbad] at h1; cases h1
        · have hm2 := (mono_regA hSum hM l bs' _ _ _ _ h2).next
          refine fin_sound hE hS hM hSum hB hc ho h1 e (p.first hm2) fun ρ1 v1 w1 hv1 hq1 => ?_
          exact regA_sound hE hS hM hSum hB hd l (k + 1) bs' _ _ _ _ ρ1 _ w1 (a.put o.dst v1) hl' h2 ((e.mono hq1.ext).put hv1 hdst) (by rw [put_size]; exact hnt) (by rw [put_defers']; exact hdef) (p.next hq1)
            fun ρ2 a' w' h3 h4 h5 h6 => hQ ρ2 a' w' h3 h4 h5 (hq1.trans h6)
      · rename_i hw
        rw [if_neg hw]
        refine ⟨fun _ _ => trivial, ?_⟩
        exact regA_sound hE hS hM hSum hB hd l (k + 1) bs' _ _ _ _ ρ _ w (a.put o.dst undef) hl' h (e.put (VR.undef ρ) hdst) (by rw [put_size]; exact hnt) (by rw [put_defers']; exact hdef) p hQ

/- the steps of a frame -/
section
variable {P : Program} {b : Frame} {a : Act} {k : List Item} {cs : List Frame}
theorem step_scope' {c : Code} : step P (lone (b.atR a (.code (.scope c) :: k)) cs w) = .next (lone (b.atR a (.code c :: .inScope c :: k)) cs w) :=
  step_lone_go (by simp [stepG, stepG.exec, Frame.atR])
theorem step_inScope' {c : Code} : step P (lone (b.atR a (.inScope c :: k)) cs w) = .next (lone (b.atR a k) cs w) :=
  step_lone_go (by simp [stepG, stepG.exec, Frame.atR])
end

theorem res_run {T : Tab} {fr : AF} {a : Act} (e : EnvR ρ fr.tmps a) (hsub : Sub H s G) (hs : Sim B0 ρ G w) : ∀ (l : List ResultVar) (vs : List Value), resA H T fr.tmps s l = some vs →
    ∃ vs', (l.mapM (fun x => (match x with | .tmp t => pure (a.tmps.getD t undef) | .cell ad t => do loadVar t (← asAddr (a.tmps.getD ad undef)) : Sem Value))).run T.prog w = .ok vs' w ∧ VRs ρ vs vs'
  | [], vs, h => by cases h; exact ⟨[], by simp, .nil⟩
  | .tmp t :: l, vs, h => by
    simp only [resA] at h
    split at h
    · rename_i us hu
      cases h
      obtain ⟨us', h1, h2⟩ := res_run e hsub hs l us hu
      refine ⟨a.tmps.getD t undef :: us', ?_, .cons (e t) h2⟩
      rw [List.mapM_cons]
      simp only [Sem.run_bind, Sem.run_pure, Result.andThen_ok, h1]
    · cases h
  | .cell ad t :: l, vs, h => by
    simp only [resA] at h
    split at h
    · rename_i ti hti
      have hx : VR ρ (evO fr.tmps (.tmp ad)) (a.tmps.getD ad undef) := e ad
      have main : ∀ (v : Value) (s2 : St), (∃ v' ad', VR ρ v v' ∧ a.tmps.getD ad undef = .pointer (some ad') ∧ (loadVar t ad').run T.prog w = .ok v' w) →
          (match resA H T fr.tmps s l with | some vs => some (v :: vs) | none => none) = some vs →
          ∃ vs', ((ResultVar.cell ad t :: l).mapM (fun x => (match x with | .tmp t => pure (a.tmps.getD t undef) | .cell ad t => do loadVar t (← asAddr (a.tmps.getD ad undef)) : Sem Value))).run T.prog w = .ok vs' w ∧ VRs ρ vs vs' := by
        intro v s2 hv hq
        obtain ⟨v', ad', h1, h2, h3⟩ := hv
        split at hq
        · rename_i us hu
          cases hq
          obtain ⟨us', h4, h5⟩ := res_run e hsub hs l us hu
          refine ⟨v' :: us', ?_, .cons h1 h5⟩
          have h6 : (asAddr (a.tmps.getD ad undef)).run T.prog w = .ok ad' w := by rw [h2]; rfl
          rw [List.mapM_cons]
          simp only [Sem.run_bind, h6, Sem.run_pure, Result.andThen_ok, h3, h4]
        · cases hq
      cases hagg : ti.agg with
      | false =>
        rw [hagg] at h
        split at h
        · rename_i v s2 hl
          obtain ⟨_, v1, v', ad', h1, h2, h3, h4⟩ := r_load1 hl hx hsub hs hti hagg
          cases h1
          exact main v s2 ⟨v', ad', h2, h3, h4⟩ h
        · cases h
      | true =>
        rw [hagg] at h
        split at h
        · rename_i v s2 hl
          obtain ⟨_, v1, v', ad', h1, h2, h3, h4⟩ := r_loadN hl hx hsub hs hti hagg
          cases h1
          exact main v s2 ⟨v', ad', h2, h3, h4⟩ h
        · cases h
    · cases h

theorem oneOf_run {l l' : List Value} (h : VRs ρ l l') : VR ρ (oneOf l) (if h : l'.toArray.size = 1 then l'.toArray[0] else .tuple l'.toArray) := by
  cases h with
  | nil => exact .tuple .nil
  | cons hv t =>
    cases t with
    | nil => exact hv
    | cons hv2 t2 =>
      rw [dif_neg (by simp)]
      exact .tuple (.cons hv (.cons hv2 t2))

theorem results_run {T : Tab} {fr : AF} {b : Frame} {a : Act} {fi : FI} {vs : List Value} (hok : FrOk ρ fr b a) (hsub : Sub H s G) (hs : Sim B0 ρ G w) (hfi : fiOf T.prog fr.fn = some fi) (h : resA H T fr.tmps s fi.results = some vs) :
    ∃ fn v', T.prog.funcs[b.fn]? = some fn ∧ (results fn a.tmps).run T.prog w = .ok v' w ∧ VR ρ (oneOf vs) v' := by
  obtain ⟨fn, hf, _, _, hr⟩ := fiOf_spec hfi
  obtain ⟨vs', h1, h2⟩ := res_run (T := T) hok.env hsub hs fi.results vs h
  refine ⟨fn, _, by rw [hok.fn]; exact hf, ?_, oneOf_run h2⟩
  unfold results
  have : (fn.results.mapM (fun x => (match x with | .tmp t => pure (a.tmps.getD t undef) | .cell ad t => do loadVar t (← asAddr (a.tmps.getD ad undef)) : Sem Value))).run T.prog w = .ok vs'.toArray w := by
    rw [← Array.toArray_toList (xs := fn.results), hr, List.mapM_toArray]
    simp only [Sem.run_map, h1, Result.andThen_ok]
  have key : ∀ f : ResultVar → Sem Value, (∀ x, f x = (match x with | .tmp t => pure (a.tmps.getD t undef) | .cell ad t => do loadVar t (← asAddr (a.tmps.getD ad undef)) : Sem Value)) →
      (fn.results.mapM f).run T.prog w = .ok vs'.toArray w := by
    intro f hfx
    rw [show f = _ from funext hfx]
    exact this
  simp only [Sem.run_bind]
  rw [key _ (fun x => by cases x <;> rfl)]
  simp only [Result.andThen_ok, Sem.run_pure]

end Go.Ev

set_option linter.unusedVariables false
set_option linter.unusedSimpArgs false
namespace Go.Ev

variable {H : Hid} {n : Nat} {bef : Nat → Nat} {ran tch : Nat → Bool} {S : Nat → St} {LG : Nat → List Nat} {Hk : Nat → Hid} {G0 : Hp}

structure Led (H : Hid) (n : Nat) (bef : Nat → Nat) (ran tch : Nat → Bool) (S : Nat → St) (LG : Nat → List Nat) (Hk : Nat → Hid) : Prop where
  fr : ∀ k, k < n → ran k = true → Fr (Hk k) ⟨(S k).heap, (S k).next, []⟩ ⟨(S (k + 1)).heap, (S (k + 1)).next, LG k⟩
  log : ∀ k, k < n → ran k = true → (S (k + 1)).log = LG k ++ (S k).log
  idle : ∀ k, k < n → ran k = false → S (k + 1) = S k
  hid : ∀ k, k < n → ran k = true → ∀ x, (hidden H x = true ∨ ∃ m, m < k ∧ ran m = true ∧ (S m).next ≤ x ∧ x < (S (m + 1)).next ∧ (bef k).testBit m = false) → hidden (Hk k) x = true
  apart : ∀ i k, i < n → k < n → ran i = true → ran k = true → tch k = true → i ≠ k → ∀ x ∈ LG i, x < (S i).next → (bef i).testBit k = true ∨ (bef k).testBit i = true ∨
    (S k).next ≤ x ∨ hidden (Hk k) x = true
  still : ∀ k, k < n → ran k = true → tch k = false → (S (k + 1)).heap = (S k).heap ∧ (S (k + 1)).next = (S k).next
  small : ∀ k m, k < n → (bef k).testBit m = true → m < k
  wf : ∀ x, (S 0).next ≤ x → (S 0).heap.get x = none

theorem Led.frH (L : Led H n bef ran tch S LG Hk) (k : Nat) (hk : k < n) : Fr H (S k) (S (k + 1)) := by
  cases hr : ran k with
  | false => rw [L.idle k hk hr]; exact .refl _ _
  | true =>
    have f := L.fr k hk hr
    have hvis : ∀ x, St.vis H (S k) x = none → St.vis (Hk k) ⟨(S k).heap, (S k).next, []⟩ x = none := by
      intro x hx
      rw [vis_none_iff] at hx ⊢
      rcases hx with hx | hx
      · exact .inl (L.hid k hk hr x (.inl hx))
      · exact .inr hx
    refine ⟨f.next, fun x hx hn => f.out x (hvis x hx) hn, fun x hx hne => ?_, fun x hx => ?_, f.dom⟩
    · rw [L.log k hk hr]; exact List.mem_append_left _ (f.log x hx hne)
    · rw [L.log k hk hr]; exact List.mem_append_right _ hx

theorem Led.frTo (L : Led H n bef ran tch S LG Hk) : ∀ k, k ≤ n → Fr H (S 0) (S k)
  | 0, _ => .refl _ _
  | k + 1, h => (L.frTo k (by omega)).trans (L.frH k (by omega))

theorem Led.frBetween (L : Led H n bef ran tch S LG Hk) (j : Nat) : ∀ k, j ≤ k → k ≤ n → Fr H (S j) (S k)
  | 0, h, _ => by have : j = 0 := by omega
                  subst this; exact .refl _ _
  | k + 1, h, hn => by
    by_cases e : j = k + 1
    · subst e; exact .refl _ _
    · exact (L.frBetween j k (by omega) (by omega)).trans (L.frH k (by omega))

theorem Led.le (L : Led H n bef ran tch S LG Hk) {j k : Nat} (h : j ≤ k) (hn : k ≤ n) : (S j).next ≤ (S k).next := (L.frBetween j k h hn).next

theorem Led.wfk (L : Led H n bef ran tch S LG Hk) (k : Nat) (h : k ≤ n) : ∀ x, (S k).next ≤ x → (S k).heap.get x = none := (L.frTo k h).dom L.wf

def Own (S : Nat → St) (k x : Nat) : Prop := (S k).next ≤ x ∧ x < (S (k + 1)).next

/-- operation k turned block x -/
def Chg (ran : Nat → Bool) (S : Nat → St) (k x : Nat) : Prop := ran k = true ∧ (Own S k x ∨ (S (k + 1)).heap.get x ≠ (S k).heap.get x)

theorem Led.keep (L : Led H n bef ran tch S LG Hk) {k x : Nat} (hk : k < n) (h : ¬ Chg ran S k x) : (S (k + 1)).heap.get x = (S k).heap.get x := by
  cases hr : ran k with
  | false => rw [L.idle k hk hr]
  | true =>
    by_cases e : (S (k + 1)).heap.get x = (S k).heap.get x
    · exact e
    · exact absurd ⟨hr, .inr e⟩ h

theorem Led.tch_of (L : Led H n bef ran tch S LG Hk) {k x : Nat} (hk : k < n) (h : Chg ran S k x) : tch k = true := by
  cases ht : tch k with
  | true => rfl
  | false =>
    obtain ⟨h1, h2⟩ := L.still k hk h.1 ht
    rcases h.2 with h3 | h3
    · unfold Own at h3; omega
    · exact absurd (by rw [h1]) h3

/-- a turned block that is not the operation's own: it could see it, and told of it -/
theorem Led.told (L : Led H n bef ran tch S LG Hk) {k x : Nat} (hk : k < n) (h : Chg ran S k x) (ho : ¬ Own S k x) :
    hidden (Hk k) x = false ∧ x < (S k).next ∧ x ∈ LG k := by
  have hne : (S (k + 1)).heap.get x ≠ (S k).heap.get x := h.2.resolve_left ho
  have f := L.fr k hk h.1
  have hv : ¬ St.vis (Hk k) ⟨(S k).heap, (S k).next, []⟩ x = none := fun e => hne (f.out x e ho)
  rw [vis_none_iff, not_or] at hv
  have hlt : x < (S k).next := by
    apply Nat.lt_of_not_le
    intro hle
    exact hv.2 (L.wfk k (by omega) x hle)
  exact ⟨by simpa using hv.1, hlt, f.log x hlt hne⟩

/-- nothing that operation i made, or could have turned, is turned by a later one that ran ahead of it -/
theorem Led.later (L : Led H n bef ran tch S LG Hk) {E : Nat → Bool} (hE : ∀ k m, k < n → E k = true → (bef k).testBit m = true → E m = true)
    {i k x : Nat} (hi : i < n) (hk : k < n) (hik : i < k) (hEi : E i = false) (hEk : E k = true) (hci : Chg ran S i x) : ¬ Chg ran S k x := by
  intro hck
  have hnot : (bef k).testBit i = false := by
    cases hb : (bef k).testBit i with
    | false => rfl
    | true => have := hE k i hk hEk hb; rw [hEi] at this; cases this
  have hnot2 : (bef i).testBit k = false := by
    cases hb : (bef i).testBit k with
    | false => rfl
    | true => have := L.small i k hi hb; omega
  have h1 := L.le (show i + 1 ≤ k by omega) (by omega)
  by_cases hok : Own S k x
  · unfold Own at hok
    by_cases hoi : Own S i x
    · unfold Own at hoi; omega
    · have := (L.told hi hci hoi).2.1
      have := L.le (show i ≤ k by omega) (by omega)
      omega
  · obtain ⟨a1, a2, a3⟩ := L.told hk hck hok
    have hh : ∀ m, m < k → ran m = true → Own S m x → (bef k).testBit m = false → False := by
      intro m hm hr ho hb
      have := L.hid k hk hck.1 x (.inr ⟨m, hm, hr, ho.1, ho.2, hb⟩)
      rw [a1] at this; cases this
    by_cases hoi : Own S i x
    · exact hh i hik hci.1 hoi hnot
    · obtain ⟨b1, b2, b3⟩ := L.told hi hci hoi
      rcases L.apart i k hi hk hci.1 hck.1 (L.tch_of hk hck) (by omega) x b3 b2 with h | h | h | h
      · rw [hnot2] at h; cases h
      · rw [hnot] at h; cases h
      · omega
      · rw [a1] at h; cases h

open Classical in
/-- the heap behind the operations of E -/
noncomputable def GE (ran : Nat → Bool) (S : Nat → St) (G0 : Hp) (E : Nat → Bool) : Nat → Hp
  | 0 => G0
  | k + 1 => fun x => if E k = true ∧ Chg ran S k x then (S (k + 1)).heap.get x else GE ran S G0 E k x

theorem GE_pos {E : Nat → Bool} {k x : Nat} (h : E k = true ∧ Chg ran S k x) : GE ran S G0 E (k + 1) x = (S (k + 1)).heap.get x := by
  simp only [GE, h, and_self, if_true]

theorem GE_neg {E : Nat → Bool} {k x : Nat} (h : ¬ (E k = true ∧ Chg ran S k x)) : GE ran S G0 E (k + 1) x = GE ran S G0 E k x := by
  simp only [GE, h, if_false]

theorem GE_stay {E : Nat → Bool} {x i : Nat} : ∀ m, i ≤ m → (∀ k, i ≤ k → k < m → E k = true → ¬ Chg ran S k x) → GE ran S G0 E m x = GE ran S G0 E i x
  | 0, h, _ => by have : i = 0 := by omega
                  rw [this]
  | m + 1, h, hk => by
    by_cases e : i = m + 1
    · rw [e]
    · have : ¬ (E m = true ∧ Chg ran S m x) := fun c => hk m (by omega) (by omega) c.1 c.2
      rw [GE_neg this]
      exact GE_stay m (by omega) fun k h1 h2 => hk k h1 (by omega)

theorem Led.GE_val (L : Led H n bef ran tch S LG Hk) {E : Nat → Bool} {x : Nat} : ∀ i, i ≤ n → (∀ k, k < i → Chg ran S k x → E k = true) →
    GE ran S G0 E i x = (S i).heap.get x ∨ (GE ran S G0 E i x = G0 x ∧ (S i).heap.get x = (S 0).heap.get x ∧ ∀ k, k < i → ¬ Chg ran S k x)
  | 0, _, _ => .inr ⟨rfl, rfl, fun k h => by omega⟩
  | i + 1, hi, h => by
    by_cases c : E i = true ∧ Chg ran S i x
    · left
      exact GE_pos c
    · have hn : ¬ Chg ran S i x := fun hc => c ⟨h i (by omega) hc, hc⟩
      have e1 : GE ran S G0 E (i + 1) x = GE ran S G0 E i x := GE_neg c
      rw [e1, L.keep (by omega) hn]
      rcases L.GE_val i (by omega) (fun k hk => h k (by omega)) with h1 | ⟨h1, h2, h3⟩
      · exact .inl h1
      · refine .inr ⟨h1, h2, fun k hk => ?_⟩
        by_cases e : k = i
        · subst e; exact hn
        · exact h3 k (by omega)

/-- what operation i sees lies in the heap behind any operations among which are those that must lie ahead of it -/
theorem Led.sees (L : Led H n bef ran tch S LG Hk) (hG : Sub H (S 0) G0) {E : Nat → Bool} (hE : ∀ k m, k < n → E k = true → (bef k).testBit m = true → E m = true)
    {i : Nat} (hi : i < n) (hEi : E i = false) (hb : ∀ m, (bef i).testBit m = true → E m = true) (hr : ran i = true) (ht : tch i = true) :
    Sub (Hk i) ⟨(S i).heap, (S i).next, []⟩ (GE ran S G0 E n) := by
  intro x o hx
  obtain ⟨h1, h2⟩ := vis_some_iff.1 hx
  have h2 : (S i).heap.get x = some o := h2
  have hlt : x < (S i).next := by
    apply Nat.lt_of_not_le
    intro hle
    rw [L.wfk i (by omega) x hle] at h2; cases h2
  have hH : hidden H x = false := by
    cases hh : hidden H x with
    | false => rfl
    | true => rw [L.hid i hi hr x (.inl hh)] at h1; cases h1
  have hseen : ∀ m, m < n → ran m = true → Own S m x → (bef i).testBit m = true := by
    intro m hm hrm ho
    have hmi : m < i := by
      apply Nat.lt_of_not_le
      intro hle
      have := L.le hle (by omega)
      unfold Own at ho; omega
    cases hbm : (bef i).testBit m with
    | true => rfl
    | false => rw [L.hid i hi hr x (.inr ⟨m, hmi, hrm, ho.1, ho.2, hbm⟩)] at h1; cases h1
  have early : ∀ k, k < i → Chg ran S k x → E k = true := by
    intro k hk hc
    by_cases ho : Own S k x
    · exact hb k (hseen k (by omega) hc.1 ho)
    · obtain ⟨a1, a2, a3⟩ := L.told (by omega) hc ho
      rcases L.apart k i (by omega) hi hc.1 hr ht (by omega) x a3 a2 with h | h | h | h
      · have := L.small k i (by omega) h; omega
      · exact hb k h
      · omega
      · rw [h1] at h; cases h
  have late : ∀ k, i ≤ k → k < n → E k = true → ¬ Chg ran S k x := by
    intro k hk hkn hEk hc
    by_cases e : k = i
    · rw [e, hEi] at hEk; cases hEk
    · by_cases ho : Own S k x
      · have := L.le hk (by omega)
        unfold Own at ho; omega
      · obtain ⟨a1, a2, a3⟩ := L.told hkn hc ho
        rcases L.apart k i hkn hi hc.1 hr ht (by omega) x a3 a2 with h | h | h | h
        · have := hE k i hkn hEk h; rw [hEi] at this; cases this
        · have := L.small i k hi h; omega
        · omega
        · rw [h1] at h; cases h
  rw [GE_stay n (by omega) late]
  rcases L.GE_val i (by omega) early with h | ⟨h, h3, _⟩
  · rw [h]; exact h2
  · rw [h]
    exact hG x o (vis_some_iff.2 ⟨hH, by rw [← h3]; exact h2⟩)

theorem GE_skip {E E' : Nat → Bool} {i x : Nat} (hE' : ∀ k, E' k = if k = i then true else E k) (hc : ¬ Chg ran S i x) : ∀ m, GE ran S G0 E' m x = GE ran S G0 E m x
  | 0 => rfl
  | m + 1 => by
    have e : (E' m = true ∧ Chg ran S m x) ↔ (E m = true ∧ Chg ran S m x) := by
      rw [hE']
      by_cases e : m = i
      · subst e; simp [hc]
      · rw [if_neg e]
    by_cases c : E m = true ∧ Chg ran S m x
    · rw [GE_pos c, GE_pos (e.2 c)]
    · rw [GE_neg c, GE_neg (fun k => c (e.1 k)), GE_skip hE' hc m]

/-- the heap behind one operation more -/
theorem Led.more (L : Led H n bef ran tch S LG Hk) {E E' : Nat → Bool} (hE : ∀ k m, k < n → E k = true → (bef k).testBit m = true → E m = true)
    {i : Nat} (hi : i < n) (hEi : E i = false) (hr : ran i = true) (hE' : ∀ k, E' k = if k = i then true else E k)
    (hs : Sub (Hk i) ⟨(S i).heap, (S i).next, []⟩ (GE ran S G0 E n)) :
    upd (GE ran S G0 E n) (Hk i) ⟨(S i).heap, (S i).next, []⟩ ⟨(S (i + 1)).heap, (S (i + 1)).next, LG i⟩ = GE ran S G0 E' n := by
  funext x
  have f := L.fr i hi hr
  unfold upd
  by_cases hc : Chg ran S i x
  · have e1 : GE ran S G0 E' n x = (S (i + 1)).heap.get x := by
      rw [GE_stay (i := i + 1) n (by omega)]
      · exact GE_pos ⟨by rw [hE']; simp, hc⟩
      · intro k h1 h2 h3
        rw [hE', if_neg (by omega)] at h3
        exact L.later hE hi h2 (by omega) hEi h3 hc
    rw [e1]
    by_cases ho : Own S i x
    · exact if_pos ho
    · refine (if_neg ho).trans ?_
      split
      · rename_i hv
        exact absurd (f.out x hv ho) (hc.2.resolve_left ho)
      · rfl
  · rw [GE_skip hE' hc]
    have ho : ¬ Own S i x := fun h => hc ⟨hr, .inl h⟩
    refine (if_neg ho).trans ?_
    split
    · rfl
    · rename_i hv
      cases hh : St.vis (Hk i) ⟨(S i).heap, (S i).next, []⟩ x with
      | none => exact absurd hh hv
      | some o =>
        rw [hs x o hh]
        show (S (i + 1)).heap.get x = some o
        rw [L.keep hi hc]
        exact (vis_some_iff.1 hh).2

theorem GE_quiet (L : Led H n bef ran tch S LG Hk) {E E' : Nat → Bool} {i : Nat} (hi : i < n) (hE' : ∀ k, E' k = if k = i then true else E k) (h : ran i = false ∨ tch i = false) :
    GE ran S G0 E' n = GE ran S G0 E n := by
  funext x
  refine GE_skip hE' (fun hc => ?_) n
  rcases h with h | h
  · rw [hc.1] at h; cases h
  · rw [L.tch_of hi hc] at h; cases h

theorem Led.owner (L : Led H n bef ran tch S LG Hk) {x : Nat} (h0 : (S 0).next ≤ x) : ∀ m, m ≤ n → x < (S m).next → ∃ k, k < m ∧ Own S k x
  | 0, _, h => by omega
  | m + 1, hm, h => by
    by_cases e : x < (S m).next
    · obtain ⟨k, h1, h2⟩ := L.owner h0 m (by omega) e
      exact ⟨k, by omega, h2⟩
    · exact ⟨m, by omega, by omega, h⟩

theorem Led.own_ran (L : Led H n bef ran tch S LG Hk) {k x : Nat} (hk : k < n) (h : Own S k x) : ran k = true := by
  cases hr : ran k with
  | true => rfl
  | false => unfold Own at h; rw [L.idle k hk hr] at h; omega

/-- the heap behind all -/
theorem Led.whole (L : Led H n bef ran tch S LG Hk) (hG : Sub H (S 0) G0) {E : Nat → Bool} (hE : ∀ k, k < n → E k = true) : GE ran S G0 E n = upd G0 H (S 0) (S n) := by
  funext x
  unfold upd
  have hall : ∀ k, k < n → Chg ran S k x → E k = true := fun k hk _ => hE k hk
  by_cases hin : (S 0).next ≤ x ∧ x < (S n).next
  · rw [if_pos hin]
    rcases L.GE_val n (Nat.le_refl _) hall with h | ⟨h, h2, h3⟩
    · exact h
    · obtain ⟨k, hk, ho⟩ := L.owner hin.1 n (Nat.le_refl _) hin.2
      exact absurd ⟨L.own_ran hk ho, .inl ho⟩ (h3 k hk)
  · rw [if_neg hin]
    by_cases hv : St.vis H (S 0) x = none
    · rw [if_pos hv]
      have hno : ∀ k, 0 ≤ k → k < n → E k = true → ¬ Chg ran S k x := by
        intro k _ hk _ hc
        have f := L.frTo k (by omega)
        have hlek := L.le (show k ≤ n by omega) (Nat.le_refl _)
        have hlek1 := L.le (show k + 1 ≤ n by omega) (Nat.le_refl _)
        have hno : ¬ Own S k x := fun ho => hin ⟨Nat.le_trans f.next ho.1, Nat.lt_of_lt_of_le ho.2 hlek1⟩
        obtain ⟨a1, a2, a3⟩ := L.told hk hc hno
        have hvk := f.vis_none hv (fun e => hin ⟨e.1, by omega⟩)
        rw [vis_none_iff] at hvk
        have hne := hc.2.resolve_left hno
        rcases hvk with hh | hh
        · rw [L.hid k hk hc.1 x (.inl hh)] at a1; cases a1
        · exact hne ((L.fr k hk hc.1).out x (vis_none_iff.2 (.inr hh)) hno)
      exact GE_stay n (Nat.zero_le _) hno
    · rw [if_neg hv]
      rcases L.GE_val n (Nat.le_refl _) hall with h | ⟨h, h2, h3⟩
      · exact h
      · rw [h]
        cases hh : St.vis H (S 0) x with
        | none => exact absurd hh hv
        | some o => rw [hG x o hh, h2]; exact (vis_some_iff.1 hh).2.symm

end Go.Ev

set_option linter.unusedVariables false
set_option linter.unusedSimpArgs false
namespace Go.Ev
open Go.CheckFast

theorem foldl_bits {b : Go.Edge → Bool} {look : Nat → Nat} : ∀ (l : List Go.Edge) (s m : Nat),
    (l.foldl (fun s e => if b e then s ||| 2 ^ e.on ||| look e.on else s) s).testBit m = true ↔
      s.testBit m = true ∨ ∃ e ∈ l, b e = true ∧ (e.on = m ∨ (look e.on).testBit m = true)
  | [], s, m => by simp
  | e :: l, s, m => by
    rw [List.foldl_cons, foldl_bits l]
    by_cases hb : b e = true
    · rw [if_pos hb, Nat.testBit_or, Nat.testBit_or, Nat.testBit_two_pow]
      constructor
      · rintro (h | ⟨e', h1, h2, h3⟩)
        · simp only [Bool.or_eq_true, decide_eq_true_eq] at h
          rcases h with (h | h) | h
          · exact .inl h
          · exact .inr ⟨e, by simp, hb, .inl h⟩
          · exact .inr ⟨e, by simp, hb, .inr h⟩
        · exact .inr ⟨e', by simp [h1], h2, h3⟩
      · rintro (h | ⟨e', h1, h2, h3⟩)
        · exact .inl (by simp [h])
        · rcases List.mem_cons.1 h1 with rfl | h1
          · rcases h3 with h3 | h3
            · exact .inl (by simp [h3])
            · exact .inl (by simp [h3])
          · exact .inr ⟨e', h1, h2, h3⟩
    · rw [if_neg hb]
      constructor
      · rintro (h | ⟨e', h1, h2, h3⟩)
        · exact .inl h
        · exact .inr ⟨e', by simp [h1], h2, h3⟩
      · rintro (h | ⟨e', h1, h2, h3⟩)
        · exact .inl h
        · rcases List.mem_cons.1 h1 with rfl | h1
          · exact absurd h2 hb
          · exact .inr ⟨e', h1, h2, h3⟩

theorem one_bits (look : Nat → Nat) (o : Oper) (m : Nat) : (one look o).testBit m = true ↔ ∃ e ∈ o.after, Region.binds .any e = true ∧ (e.on = m ∨ (look e.on).testBit m = true) := by
  unfold one
  rw [← Array.foldl_toList, foldl_bits]
  simp

/-- the numbers, laid one by one -/
theorem before_get : ∀ (l : List Oper) (A : Array Nat) (k : Nat) (o : Oper), l[k]? = some o →
    ∃ A' : Array Nat, A'.size = A.size + k ∧ (∀ i, i < A'.size → (l.foldl (fun acc o => acc.push (one (fun i => acc.getD i 0) o)) A)[i]? = A'[i]?) ∧
      (l.foldl (fun acc o => acc.push (one (fun i => acc.getD i 0) o)) A)[A.size + k]? = some (one (fun i => A'.getD i 0) o)
  | [], A, k, o, h => by simp at h
  | p :: l, A, k, o, h => by
    have old : ∀ (l : List Oper) (A : Array Nat) (i : Nat), i < A.size → (l.foldl (fun acc o => acc.push (one (fun i => acc.getD i 0) o)) A)[i]? = A[i]? := by
      intro l
      induction l with
      | nil => intro A i _; rfl
      | cons p l ih =>
        intro A i hi
        rw [List.foldl_cons, ih _ i (by simp; omega), Array.getElem?_push, if_neg (by omega)]
    rw [List.foldl_cons]
    cases k with
    | zero =>
      simp only [List.getElem?_cons_zero, Option.some.injEq] at h
      subst h
      refine ⟨A, rfl, fun i hi => ?_, ?_⟩
      · rw [old l _ i (by simp; omega), Array.getElem?_push, if_neg (by omega)]
      · rw [Nat.add_zero, old l _ A.size (by simp)]
        simp
    | succ k =>
      simp only [List.getElem?_cons_succ] at h
      obtain ⟨A', h1, h2, h3⟩ := before_get l (A.push (one (fun i => A.getD i 0) p)) k o h
      refine ⟨A', ?_, h2, ?_⟩
      · rw [h1, Array.size_push]; omega
      · rw [Array.size_push] at h3
        rw [← h3]
        congr 1
        omega

noncomputable def befOf (ops : Array Oper) (i : Nat) : Nat := (Region.before ops).getD i 0

theorem before_bits {ops : Array Oper} {k : Nat} {o : Oper} (h : ops[k]? = some o) (m : Nat) :
    (befOf ops k).testBit m = true ↔ ∃ e ∈ o.after, Region.binds .any e = true ∧ (e.on = m ∨ (e.on < k ∧ (befOf ops e.on).testBit m = true)) := by
  have hb : Region.before ops = ops.toList.foldl (fun acc o => acc.push (one (fun i => acc.getD i 0) o)) #[] := by
    unfold Region.before
    rw [← Array.foldl_toList]
    rfl
  obtain ⟨A', h1, h2, h3⟩ := before_get ops.toList #[] k o (by rw [Array.getElem?_toList]; exact h)
  rw [← hb] at h2 h3
  have hk : befOf ops k = one (fun i => A'.getD i 0) o := by
    unfold befOf
    rw [Array.getD_eq_getD_getElem?]
    have : (#[] : Array Nat).size + k = k := by simp
    rw [this] at h3
    rw [h3]; rfl
  have hs : A'.size = k := by rw [h1]; simp
  have hA : ∀ i, A'.getD i 0 = if i < k then befOf ops i else 0 := by
    intro i
    by_cases hi : i < k
    · rw [if_pos hi]
      unfold befOf
      rw [Array.getD_eq_getD_getElem?, Array.getD_eq_getD_getElem?, h2 i (by omega)]
    · rw [if_neg hi, Array.getD_eq_getD_getElem?, Array.getElem?_eq_none (by omega)]
      rfl
  rw [hk, one_bits]
  constructor
  · rintro ⟨e, h4, h5, h6⟩
    refine ⟨e, h4, h5, ?_⟩
    rcases h6 with h6 | h6
    · exact .inl h6
    · rw [hA] at h6
      by_cases hi : e.on < k
      · rw [if_pos hi] at h6; exact .inr ⟨hi, h6⟩
      · rw [if_neg hi] at h6; simp at h6
  · rintro ⟨e, h4, h5, h6⟩
    refine ⟨e, h4, h5, ?_⟩
    rcases h6 with h6 | ⟨h6, h7⟩
    · exact .inl h6
    · right; rw [hA, if_pos h6]; exact h7

/-- the names that an operation bears, and the order of their writers -/
structure RegFacts (ops : Array Oper) : Prop where
  small : ∀ k m, k < ops.size → (befOf ops k).testBit m = true → m < k
  names : ∀ i k o p d, ops[i]? = some o → ops[k]? = some p → i ≠ k → p.dst = some d → d ∈ namesOf ops o → (befOf ops i).testBit k = true ∨ (befOf ops k).testBit i = true

theorem regOk_spec {ops : Array Oper} (h : regOk ops = true) : RegFacts ops := by
  unfold regOk at h
  simp only [List.all_eq_true, Bool.and_eq_true] at h
  have mem : ∀ i o, ops[i]? = some o → (o, i) ∈ ops.toList.zipIdx := by
    intro i o hi
    rw [List.mem_iff_getElem?]
    exact ⟨i, by rw [List.getElem?_zipIdx, Array.getElem?_toList, hi]; simp⟩
  refine ⟨fun k m hk hb => ?_, fun i k o p d hi hk hne hd hm => ?_⟩
  · have h1 := (h (ops[k], k) (mem k _ (by simp [hk]))).1
    have h1 : befOf ops k < 2 ^ k := by rw [← Nat.blt_eq]; exact h1
    apply Nat.lt_of_not_le
    intro hle
    have := Nat.testBit_lt_two_pow (Nat.lt_of_lt_of_le h1 (Nat.pow_le_pow_right (by omega) hle))
    rw [hb] at this; cases this
  · have h1 := (h (o, i) (mem i o hi)).2 (p, k) (mem k p hk)
    have hc : (namesOf ops o).contains d = true := by simpa using hm
    simp only [hd, hc, Bool.not_true, Bool.or_false, Bool.or_eq_true] at h1
    rcases h1 with (h1 | h1) | h1
    · exact absurd (by simpa using h1) hne
    · exact .inl h1
    · exact .inr h1

end Go.Ev

set_option linter.unusedVariables false
set_option linter.unusedSimpArgs false
namespace Go.Ev

variable {H : Hid} {s s' : St} {nx : Nx}

/-- an answer, borne by another state -/
def mapSt (s : St) : R Nx → R Nx
  | .ok (.val v) _ => .ok (.val v) s
  | .ok _ _ => .bad "pure"
  | .bad w => .bad w

theorem map_brec {a b a' b' : R Nx} {c : Bool} (h1 : a = mapSt s a') (h2 : b = mapSt s b') : (Bool.rec a b c : R Nx) = mapSt s (Bool.rec a' b' c) := by cases c <;> assumption
theorem map_okO (o : Option Value) : okO s o = mapSt s (okO st0 o) := by cases o <;> rfl

theorem pu_doPick (c a b : Value) : doPick s c a b = mapSt s (doPick st0 c a b) := by
  unfold doPick
  repeat' (first | rfl | exact map_okO _ | (refine map_brec ?_ ?_) | split)
theorem pu_doField (o : Nat) (a : Value) : doField o a s = mapSt s (doField o a st0) := by
  unfold doField
  repeat' (first | rfl | exact map_okO _ | (refine map_brec ?_ ?_) | split)
theorem pu_doIndexS (z : Nat) (x i : Value) : doIndexS z x i s = mapSt s (doIndexS z x i st0) := by
  unfold doIndexS
  repeat' (first | rfl | exact map_okO _ | (refine map_brec ?_ ?_) | split)
theorem pu_doIndexA (n z : Nat) (x i : Value) : doIndexA n z x i s = mapSt s (doIndexA n z x i st0) := by
  unfold doIndexA
  repeat' (first | rfl | exact map_okO _ | (refine map_brec ?_ ?_) | split)
theorem pu_doSlice (z : Nat) (x : Value) (a b c : Option Value) : doSlice z x a b c s = mapSt s (doSlice z x a b c st0) := by
  unfold doSlice
  repeat' (first | rfl | exact map_okO _ | (refine map_brec ?_ ?_) | split)
theorem pu_doSliceStr (x : Value) (a b : Option Value) : doSliceStr x a b s = mapSt s (doSliceStr x a b st0) := by
  unfold doSliceStr
  repeat' (first | rfl | exact map_okO _ | (refine map_brec ?_ ?_) | split)
theorem pu_doGen (T : Tab) (o : Oper) (tm : Tr Value) : doGen T o tm s = mapSt s (doGen T o tm st0) := map_okO _
theorem pu_nilF (op : BinOp) (a b : Bool) : nilF op a b s = mapSt s (nilF op a b st0) := by
  unfold nilF
  repeat' (first | rfl | exact map_okO _ | (refine map_brec ?_ ?_) | split)
theorem pu_doBin (T : Tab) (o : Oper) (ty : Option TI) (op : BinOp) (x y : Value) (tm : Tr Value) : doBin T o ty op x y tm s = mapSt s (doBin T o ty op x y tm st0) := by
  unfold doBin
  repeat' (first | rfl | exact map_okO _ | exact pu_doGen _ _ _ | exact pu_nilF _ _ _ | (refine map_brec ?_ ?_) | split)
theorem pu_doConvert (T : Tab) (o : Oper) (k : IntKind) (x : Value) (tm : Tr Value) : doConvert T o k x tm s = mapSt s (doConvert T o k x tm st0) := by
  unfold doConvert
  repeat' (first | rfl | exact map_okO _ | exact pu_doGen _ _ _ | (refine map_brec ?_ ?_) | split)
theorem pu_doExtract (x : Value) (i : Nat) : doExtract x i s = mapSt s (doExtract x i st0) := by
  unfold doExtract
  repeat' (first | rfl | exact map_okO _ | (refine map_brec ?_ ?_) | split)
theorem pu_doFieldV (g : Bool) (o z : Nat) (x : Value) : doFieldV g o z x s = mapSt s (doFieldV g o z x st0) := by
  unfold doFieldV
  repeat' (first | rfl | exact map_okO _ | (refine map_brec ?_ ?_) | split)
theorem pu_doIndexStr (x i : Value) : doIndexStr x i s = mapSt s (doIndexStr x i st0) := by
  unfold doIndexStr
  repeat' (first | rfl | exact map_okO _ | (refine map_brec ?_ ?_) | split)
theorem pu_doIndexAgg (n : Nat) (g : Bool) (z : Nat) (x i : Value) : doIndexAgg n g z x i s = mapSt s (doIndexAgg n g z x i st0) := by
  unfold doIndexAgg
  repeat' (first | rfl | exact map_okO _ | exact pu_doFieldV _ _ _ _ | (refine map_brec ?_ ?_) | split)
theorem pu_doMakeIface (t : TypeId) (x : Value) : doMakeIface t x s = mapSt s (doMakeIface t x st0) := rfl
theorem pu_doAssert (a : TypeId) (z : Option Value) (ok : Bool) (x : Value) : doAssert a z ok x s = mapSt s (doAssert a z ok x st0) := by
  unfold doAssert
  repeat' (first | rfl | exact map_okO _ | (refine map_brec ?_ ?_) | split)
theorem pu_doNilCheck (x : Value) : doNilCheck x s = mapSt s (doNilCheck x st0) := by
  unfold doNilCheck
  repeat' (first | rfl | exact map_okO _ | (refine map_brec ?_ ?_) | split)
theorem pu_doMakeFunc (fn : Fn) (a b : List Value) : doMakeFunc fn a b s = mapSt s (doMakeFunc fn a b st0) := rfl

theorem pure_cOp {T : Tab} {o : Oper} {f : OpF} (hp : pureOp o.op = true) (hc : cOp T o = .mk f) (tm : Tr Value) : ∃ r, ∀ (H : Hid) (s : St), f H tm s = mapSt s r := by
  obtain ⟨dst, op, ty, pos, after, g⟩ := o
  cases op
  all_goals first | (cases hp; done) | skip
  all_goals
    simp only [cOp] at hc
    repeat' (first
        | (cases hc; first | exact ⟨.bad _, fun _ _ => rfl⟩ | exact ⟨.ok (.val _) st0, fun _ _ => rfl⟩ | exact ⟨_, fun _ _ => pu_doPick _ _ _⟩ | exact ⟨_, fun _ _ => pu_doField _ _⟩ | exact ⟨_, fun _ _ => pu_doIndexS _ _ _⟩ | exact ⟨_, fun _ _ => pu_doIndexA _ _ _ _⟩ | exact ⟨_, fun _ _ => pu_doSlice _ _ _ _ _⟩ | exact ⟨_, fun _ _ => pu_doSliceStr _ _ _⟩ | exact ⟨_, fun _ _ => pu_doGen _ _ _⟩ | exact ⟨_, fun _ _ => pu_doBin _ _ _ _ _ _ _⟩ | exact ⟨_, fun _ _ => pu_doConvert _ _ _ _ _⟩ | exact ⟨_, fun _ _ => pu_doExtract _ _⟩ | exact ⟨_, fun _ _ => pu_doFieldV _ _ _ _⟩ | exact ⟨_, fun _ _ => pu_doIndexStr _ _⟩ | exact ⟨_, fun _ _ => pu_doIndexAgg _ _ _ _ _⟩ | exact ⟨_, fun _ _ => pu_doMakeIface _ _⟩ | exact ⟨_, fun _ _ => pu_doAssert _ _ _ _⟩ | exact ⟨_, fun _ _ => pu_doNilCheck _⟩ | exact ⟨_, fun _ _ => pu_doMakeFunc _ _ _⟩)
        | (rcases brec_or hc with hc | hc)
        | split at hc)

theorem gen_congr {P : Program} {e1 e2 : Operand → Value} {o : Oper} (hs : ∀ cs b, o.op ≠ .select cs b) (h : ∀ x ∈ o.op.operands, e1 x = e2 x) : gen P e1 o = gen P e2 o := by
  unfold gen
  have h1 : o.op.operands.toList.all (fun x => ground (e1 x)) = o.op.operands.toList.all (fun x => ground (e2 x)) := by
    rw [Bool.eq_iff_iff]
    simp only [List.all_eq_true]
    exact ⟨fun k x hx => by rw [← h x (by simpa using hx)]; exact k x hx, fun k x hx => by rw [h x (by simpa using hx)]; exact k x hx⟩
  rw [h1, execOp_congr o hs h]

theorem doGen_congr {T : Tab} {o : Oper} {tm tm2 : Tr Value} (h : gen T.prog (evO tm) o = gen T.prog (evO tm2) o) : doGen T o tm s = doGen T o tm2 s := by
  unfold doGen; rw [h]

theorem doBin_congr {T : Tab} {o : Oper} {tm tm2 : Tr Value} (h : gen T.prog (evO tm) o = gen T.prog (evO tm2) o) (ty : Option TI) (op : BinOp) (x y : Value) : doBin T o ty op x y tm s = doBin T o ty op x y tm2 s := by
  unfold doBin
  simp only [doGen, h]

theorem doConvert_congr {T : Tab} {o : Oper} {tm tm2 : Tr Value} (h : gen T.prog (evO tm) o = gen T.prog (evO tm2) o) (k : IntKind) (x : Value) : doConvert T o k x tm s = doConvert T o k x tm2 s := by
  unfold doConvert
  simp only [doGen, h]

theorem omap_congr {e1 e2 : Operand → Value} {x : Option Operand} (h : ∀ y, x = some y → e1 y = e2 y) : x.map e1 = x.map e2 := by
  cases x with
  | none => rfl
  | some y => simp [h y rfl]

theorem pmap_congr {e1 e2 : Operand → Value} {ps : List (Nat × Operand)} (h : ∀ p ∈ ps, e1 p.2 = e2 p.2) : (ps.map fun p => (p.1, e1 p.2)) = ps.map fun p => (p.1, e2 p.2) :=
  List.map_congr_left fun p hp => by rw [h p hp]

theorem cOp_congr {T : Tab} {o : Oper} {f : OpF} (hc : cOp T o = .mk f) {tm tm2 : Tr Value} (h : ∀ x ∈ o.op.operands, evO tm x = evO tm2 x) (H : Hid) (s : St) : f H tm s = f H tm2 s := by
  by_cases hs : ∃ cs b, o.op = .select cs b
  · obtain ⟨cs, b, hs⟩ := hs
    obtain ⟨dst, op, ty, pos, after, g⟩ := o
    simp only at hs
    subst hs
    simp only [cOp] at hc
    cases hc; rfl
  have hg : gen T.prog (evO tm) o = gen T.prog (evO tm2) o := gen_congr (fun cs b e => hs ⟨cs, b, e⟩) h
  clear hs
  obtain ⟨dst, op, ty, pos, after, g⟩ := o
  cases op
  case call c =>
    obtain ⟨callee, args, ats⟩ := c
    have ha : ∀ x ∈ args, evO tm x = evO tm2 x := fun x hx => h x (by simp [Op.operands, Call.operands, hx])
    have hm : args.toList.map (evO tm) = args.toList.map (evO tm2) := List.map_congr_left fun x hx => ha x (by simpa using hx)
    cases callee
    case value x =>
      have hx : evO tm x = evO tm2 x := h x (by simp [Op.operands, Call.operands])
      cases x <;> simp only [cOp] at hc <;> repeat' (first | (cases hc; first | rfl | (simp only [hm, hx]; done) | (simp only [hm]; done)) | (rcases brec_or hc with hc | hc) | split at hc)
    case invoke r n =>
      have hx : evO tm r = evO tm2 r := h r (by simp [Op.operands, Call.operands])
      cases hc; simp only [hm, hx]
    case builtin b =>
      have hl : ∀ x, x ∈ args.toList → evO tm x = evO tm2 x := fun x hx => ha x (by simpa using hx)
      cases b <;> simp only [cOp] at hc <;> repeat' (first
        | (cases hc; first | rfl | exact doGen_congr hg | (rename_i hal _ _; simp only [hl _ (by rw [hal]; simp)]; done) | (simp_all; done))
        | (rcases brec_or hc with hc | hc) | split at hc)
  case build t ps =>
    have hm : (ps.toList.map fun p => (p.1, evO tm p.2)) = ps.toList.map fun p => (p.1, evO tm2 p.2) := pmap_congr fun p hp => h p.2 (by simp only [Op.operands, List.mem_toArray, List.mem_map]; exact ⟨p, hp, rfl⟩)
    simp only [cOp] at hc
    repeat' (first | (cases hc; first | rfl | (simp only [hm]; done)) | (rcases brec_or hc with hc | hc) | split at hc)
  case buildSlice t n ps =>
    have hm : (ps.toList.map fun p => (p.1, evO tm p.2)) = ps.toList.map fun p => (p.1, evO tm2 p.2) := pmap_congr fun p hp => h p.2 (by simp only [Op.operands, List.mem_toArray, List.mem_map]; exact ⟨p, hp, rfl⟩)
    simp only [cOp] at hc
    repeat' (first | (cases hc; first | rfl | (simp only [hm]; done)) | (rcases brec_or hc with hc | hc) | split at hc)
  case makeFunc fn fi ca =>
    have h1 : fi.toList.map (evO tm) = fi.toList.map (evO tm2) := List.map_congr_left fun x hx => h x (by simp only [Op.operands, Array.mem_append]; exact .inl (by simpa using hx))
    have h2 : ca.toList.map (evO tm) = ca.toList.map (evO tm2) := List.map_congr_left fun x hx => h x (by simp only [Op.operands, Array.mem_append]; exact .inr (by simpa using hx))
    simp only [cOp] at hc
    repeat' (first | (cases hc; first | rfl | (simp only [h1, h2]; done)) | (rcases brec_or hc with hc | hc) | split at hc)
  case slice t x lo hi mx =>
    have h0 : evO tm x = evO tm2 x := h x (by simp [Op.operands])
    have h1 : lo.map (evO tm) = lo.map (evO tm2) := omap_congr fun y hy => h y (by simp [Op.operands, hy])
    have h2 : hi.map (evO tm) = hi.map (evO tm2) := omap_congr fun y hy => h y (by simp [Op.operands, hy])
    have h3 : mx.map (evO tm) = mx.map (evO tm2) := omap_congr fun y hy => h y (by simp [Op.operands, hy])
    simp only [cOp] at hc
    repeat' (first | (cases hc; first | rfl | (simp only [h0, h1, h2, h3]; done) | (simp only [h0, h1, h2]; done)) | (rcases brec_or hc with hc | hc) | split at hc)
  all_goals
    simp only [cOp] at hc
    simp only [Op.operands] at h
    try simp only [List.mem_toArray, List.mem_cons, List.mem_map, Array.mem_append, List.not_mem_nil, or_false, forall_eq_or_imp, forall_eq] at h
    repeat' (first
        | (cases hc; first | rfl | exact doGen_congr hg | (simp only [h]; done) | (simp only [h]; exact doBin_congr hg _ _ _ _) | (simp only [h]; exact doConvert_congr hg _ _))
        | (rcases brec_or hc with hc | hc)
        | split at hc)

end Go.Ev

set_option linter.unusedVariables false
set_option linter.unusedSimpArgs false
namespace Go.Ev
open Go.RowKit

variable {B0 : Base} {H : Hid} {s s' : St} {ρ : Ren} {G : Hp} {w : World} {nx : Nx}

/-- one operation's page in the book -/
def StepAt (T : Tab) (rec : Rec) (H : Hid) (ops : Array Oper) (b : Nat) (o : Oper) (k : Nat) (s s' : St) (tm tm' : Tr Value) (v : Value) (lg : List Nat) (hk : Hid) (rs rs' : List DRec) : Prop :=
  tm' = putT tm o.dst v ∧
  ((wantC (cOne T ops o b).guard tm = true ∧ ∃ f, (cOne T ops o b).run = .mk f ∧
      hk = seeOf o.op tm s.next ++ hideFor b rs H ∧ fin T hk (rec hk) (noR (f hk tm ⟨s.heap, s.next, []⟩)) = .ok v ⟨s'.heap, s'.next, lg⟩ ∧ s'.log = lg ++ s.log ∧
      rs' = ⟨k, b, s.next, s'.next, !pureOp o.op, hk, lg.filter (fun x => Nat.blt x s.next)⟩ :: rs) ∨
   (wantC (cOne T ops o b).guard tm = false ∧ v = undef ∧ s' = s ∧ rs' = rs))

theorem regD_trace {T : Tab} {rec : Rec} {ops : Array Oper} : ∀ (l : List Oper) (bs : List Nat) (i : Nat) (tm : Tr Value) (s : St) (rs : List DRec) (tm' : Tr Value) (s' : St),
    regD T rec H (cOps T ops l bs) i tm s rs = .ok tm' s' →
    ∃ (S : Nat → St) (TM : Nat → Tr Value) (V : Nat → Value) (RS : Nat → List DRec) (LG : Nat → List Nat) (HK : Nat → Hid), S 0 = s ∧ TM 0 = tm ∧ RS 0 = rs ∧ S l.length = s' ∧ TM l.length = tm' ∧ apartD (RS l.length) = true ∧
      ∀ k o, l[k]? = some o → StepAt T rec H ops (bs.getD k 0) o (i + k) (S k) (S (k + 1)) (TM k) (TM (k + 1)) (V k) (LG k) (HK k) (RS k) (RS (k + 1))
  | [], bs, i, tm, s, rs, tm', s', h => by
    have h : (if apartD rs = true then R.ok tm s else R.bad "order" : R (Tr Value)) = .ok tm' s' := by cases bs <;> exact h
    split at h
    · rename_i ha
      obtain ⟨rfl, rfl⟩ := ok_inj h
      exact ⟨fun _ => s, fun _ => tm, fun _ => undef, fun _ => rs, fun _ => [], fun _ => [], rfl, rfl, rfl, rfl, rfl, ha, fun k o hk => by simp at hk⟩
    · cases h
  | o :: l, bs, i, tm, s, rs, tm', s', h => by
    have hb : cOps T ops (o :: l) bs = cOne T ops o (bs.getD 0 0) :: cOps T ops l bs.tail := by cases bs <;> rfl
    rw [hb] at h
    have hget : ∀ k, bs.getD (k + 1) 0 = bs.tail.getD k 0 := by intro k; cases bs <;> rfl
    have glue : ∀ {tm1 : Tr Value} {s1 : St} {rs1 : List DRec} (v : Value) (lg : List Nat) (hk : Hid), regD T rec H (cOps T ops l bs.tail) (i + 1) tm1 s1 rs1 = .ok tm' s' →
        StepAt T rec H ops (bs.getD 0 0) o i s s1 tm tm1 v lg hk rs rs1 →
        ∃ (S : Nat → St) (TM : Nat → Tr Value) (V : Nat → Value) (RS : Nat → List DRec) (LG : Nat → List Nat) (HK : Nat → Hid), S 0 = s ∧ TM 0 = tm ∧ RS 0 = rs ∧ S (o :: l).length = s' ∧ TM (o :: l).length = tm' ∧ apartD (RS (o :: l).length) = true ∧
        ∀ k p, (o :: l)[k]? = some p → StepAt T rec H ops (bs.getD k 0) p (i + k) (S k) (S (k + 1)) (TM k) (TM (k + 1)) (V k) (LG k) (HK k) (RS k) (RS (k + 1)) := by
      intro tm1 s1 rs1 v lg hk h1 h2
      obtain ⟨S, TM, V, RS, LG, HK, a1, a2, a3, a4, a5, a6, a7⟩ := regD_trace l bs.tail (i + 1) tm1 s1 rs1 tm' s' h1
      refine ⟨fun k => Nat.casesOn k s S, fun k => Nat.casesOn k tm TM, fun k => Nat.casesOn k v V, fun k => Nat.casesOn k rs RS, fun k => Nat.casesOn k lg LG, fun k => Nat.casesOn k hk HK, rfl, rfl, rfl, a4, a5, a6, ?_⟩
      intro k p hk
      cases k with
      | zero =>
        simp only [List.getElem?_cons_zero, Option.some.injEq] at hk
        subst hk
        show StepAt T rec H ops (bs.getD 0 0) o (i + 0) s (S 0) tm (TM 0) v lg hk rs (RS 0)
        rw [a1, a2, a3, Nat.add_zero]
        exact h2
      | succ k =>
        simp only [List.getElem?_cons_succ] at hk
        have := a7 k p hk
        rw [← hget] at this
        rw [show i + (k + 1) = i + 1 + k by omega]
        exact this
    cases hrun : (cOne T ops o (bs.getD 0 0)).run with
    | mk f =>
      have hcone : cOne T ops o (bs.getD 0 0) = ⟨(cOne T ops o (bs.getD 0 0)).guard, o.dst, .mk f, bs.getD 0 0, pureOp o.op, .mk (seeOf o.op)⟩ := by rw [← hrun]; rfl
      rw [hcone] at h
      simp only [regD] at h
      split at h
      · rename_i hw
        split at h
        · rename_i v s1 h1
          exact glue v s1.log _ h ⟨rfl, .inl ⟨hw, f, hrun, rfl, h1, rfl, rfl⟩⟩
        · cases h
      · rename_i hw
        exact glue undef [] [] h ⟨rfl, .inr ⟨by simpa using hw, rfl, rfl, rfl⟩⟩

theorem hidden_for {bef : Nat} {x : Nat} : ∀ (rs : List DRec), hidden (hideFor bef rs H) x = true ↔ hidden H x = true ∨ ∃ r ∈ rs, r.lo ≤ x ∧ x < r.hi ∧ bef.testBit r.idx = false
  | [] => by simp [hideFor]
  | r :: rs => by
    simp only [hideFor]
    split
    · rename_i hc
      simp only [Bool.and_eq_true, Nat.blt_eq, Bool.not_eq_true'] at hc
      rw [hidden_cons, Bool.or_eq_true, hidden_for rs]
      simp only [decide_eq_true_eq, List.mem_cons, exists_eq_or_imp]
      constructor
      · rintro (h | h | h)
        · exact .inr (.inl ⟨h.1, h.2, hc.2⟩)
        · exact .inl h
        · exact .inr (.inr h)
      · rintro (h | h | h)
        · exact .inr (.inl h)
        · exact .inl ⟨h.1, h.2.1⟩
        · exact .inr (.inr h)
    · rename_i hc
      rw [hidden_for rs]
      simp only [List.mem_cons, exists_eq_or_imp]
      constructor
      · rintro (h | h)
        · exact .inl h
        · exact .inr (.inr h)
      · rintro (h | h | h)
        · exact .inl h
        · refine absurd ?_ hc
          simp only [Bool.and_eq_true, Nat.blt_eq, Bool.not_eq_true']
          exact ⟨by omega, h.2.2⟩
        · exact .inr h

theorem hidden_append (x : Nat) : ∀ (a b : Hid), hidden (a ++ b) x = (hidden a x || hidden b x)
  | [], b => by rw [hidden_nil]; rfl
  | p :: a, b => by rw [List.cons_append, hidden_cons, hidden_cons, hidden_append x a b, Bool.or_assoc]

theorem leR_of {T : Tab} {ops : Array Oper} {o : Oper} {b : Nat} {f : OpF} (hrun : (cOne T ops o b).run = .mk f) (H : Hid) (tm : Tr Value) (s : St) : leR H s (f H tm s) := by
  rcases run_of_cOne hrun with h3 | ⟨h3, _⟩
  · rw [h3]; exact le_bad
  · exact le_cOp h3 H tm s

/-- the book of a region's run -/
theorem led_of {T : Tab} {rec : Rec} (hSum : SumOk T) (hM : MonoRec rec) {ops : Array Oper} (hf : RegFacts ops) {S : Nat → St} {TM : Nat → Tr Value} {V : Nat → Value} {RS : Nat → List DRec} {LG : Nat → List Nat} {HK : Nat → Hid}
    (hRS : RS 0 = []) (hap : apartD (RS ops.size) = true) (hwf : ∀ x, (S 0).next ≤ x → (S 0).heap.get x = none)
    (hst : ∀ k o, ops[k]? = some o → StepAt T rec H ops (befOf ops k) o k (S k) (S (k + 1)) (TM k) (TM (k + 1)) (V k) (LG k) (HK k) (RS k) (RS (k + 1)))
    {ran tch : Nat → Bool} (hran : ∀ k o, ops[k]? = some o → ran k = wantC (cOne T ops o (befOf ops k)).guard (TM k)) (htch : ∀ k o, ops[k]? = some o → tch k = !pureOp o.op) :
    Led H ops.size (befOf ops) ran tch S LG HK := by
  have hop : ∀ k, k < ops.size → ∃ o, ops[k]? = some o := fun k hk => ⟨ops[k], by simp [hk]⟩
  have hmem : ∀ k, k ≤ ops.size → ∀ r, r ∈ RS k ↔ ∃ m, m < k ∧ ran m = true ∧ r = ⟨m, befOf ops m, (S m).next, (S (m + 1)).next, tch m, HK m, (LG m).filter (fun x => Nat.blt x (S m).next)⟩ := by
    intro k
    induction k with
    | zero => intro _ r; rw [hRS]; simp
    | succ k ih =>
      intro hk r
      obtain ⟨o, ho⟩ := hop k (by omega)
      obtain ⟨_, h | h⟩ := hst k o ho
      · obtain ⟨h1, f, _, _, _, _, h2⟩ := h
        rw [h2, List.mem_cons, ih (by omega)]
        constructor
        · rintro (rfl | ⟨m, h3, h4⟩)
          · exact ⟨k, by omega, by rw [hran k o ho]; exact h1, by rw [htch k o ho]⟩
          · exact ⟨m, by omega, h4⟩
        · rintro ⟨m, h3, h4, h5⟩
          by_cases e : m = k
          · subst e; left; rw [h5, htch m o ho]
          · exact .inr ⟨m, by omega, h4, h5⟩
      · obtain ⟨h1, _, _, h2⟩ := h
        rw [h2, ih (by omega)]
        constructor
        · rintro ⟨m, h3, h4⟩
          exact ⟨m, by omega, h4⟩
        · rintro ⟨m, h3, h4, h5⟩
          by_cases e : m = k
          · subst e; rw [hran m o ho, h1] at h4; cases h4
          · exact ⟨m, by omega, h4, h5⟩
  refine ⟨fun k hk hr => ?_, fun k hk hr => ?_, fun k hk hr => ?_, fun k hk hr x hx => ?_, ?_, fun k hk hr ht => ?_, hf.small, hwf⟩
  · obtain ⟨o, ho⟩ := hop k hk
    obtain ⟨_, h | h⟩ := hst k o ho
    · obtain ⟨h1, f, h2, _, h3, _⟩ := h
      exact (mono_fin hSum hM (le_noR (leR_of h2 _ _ _)) h3).1
    · rw [hran k o ho, h.1] at hr; cases hr
  · obtain ⟨o, ho⟩ := hop k hk
    obtain ⟨_, h | h⟩ := hst k o ho
    · obtain ⟨_, _, _, _, _, h4, _⟩ := h; exact h4
    · rw [hran k o ho, h.1] at hr; cases hr
  · obtain ⟨o, ho⟩ := hop k hk
    obtain ⟨_, h | h⟩ := hst k o ho
    · rw [hran k o ho, h.1] at hr; cases hr
    · exact h.2.2.1
  · obtain ⟨o, ho⟩ := hop k hk
    obtain ⟨_, h | h⟩ := hst k o ho
    · obtain ⟨_, _, _, h2, _⟩ := h
      rw [h2, hidden_append, Bool.or_eq_true]
      right
      rw [hidden_for]
      rcases hx with h | ⟨m, h1, h2, h3, h4, h5⟩
      · exact .inl h
      · exact .inr ⟨_, (hmem k (by omega) _).2 ⟨m, h1, h2, rfl⟩, h3, h4, h5⟩
    · rw [hran k o ho, h.1] at hr; cases hr
  · intro i k hi hk hri hrk htk hne x hx hlt
    unfold apartD at hap
    rw [List.all_eq_true] at hap
    have h1 := hap _ ((hmem ops.size (Nat.le_refl _) _).2 ⟨i, hi, hri, rfl⟩)
    have hin : x ∈ (LG i).filter (fun x => Nat.blt x (S i).next) := by rw [List.mem_filter]; exact ⟨hx, by rw [Nat.blt_eq]; exact hlt⟩
    rw [Bool.or_eq_true] at h1
    rcases h1 with h1 | h1
    · simp only [List.isEmpty_iff] at h1
      rw [h1] at hin; cases hin
    · rw [List.all_eq_true] at h1
      have h2 := h1 _ ((hmem ops.size (Nat.le_refl _) _).2 ⟨k, hk, hrk, rfl⟩)
      simp only [htk, Bool.not_true, Bool.false_or, Bool.or_eq_true] at h2
      rcases h2 with ((h2 | h2) | h2) | h2
      · rw [Nat.beq_eq] at h2; exact absurd h2 hne
      · exact .inl h2
      · exact .inr (.inl h2)
      · rw [List.all_eq_true] at h2
        have h3 := h2 x hin
        unfold unseen at h3
        simp only [Bool.or_eq_true, Nat.ble_eq] at h3
        exact .inr (.inr h3)
  · obtain ⟨o, ho⟩ := hop k hk
    obtain ⟨_, h | h⟩ := hst k o ho
    · obtain ⟨h1, f, h2, _, h3, _⟩ := h
      rw [htch k o ho] at ht
      have hp : pureOp o.op = true := by simpa using ht
      rcases run_of_cOne h2 with h4 | ⟨h4, _⟩
      · rw [h4] at h3; cases h3
      · obtain ⟨r, hr'⟩ := pure_cOp hp h4 (TM k)
        rw [hr'] at h3
        cases r with
        | bad w => cases h3
        | ok n u =>
          cases n with
          | val v =>
            have h3 : (R.ok v (⟨(S k).heap, (S k).next, []⟩ : St) : R Value) = _ := h3
            obtain ⟨_, h5⟩ := ok_inj h3
            have h6 := congrArg St.heap h5
            have h7 := congrArg St.next h5
            exact ⟨h6.symm, h7.symm⟩
          | enter f args => cases h3
          | round l f nt tm as bd => cases h3
    · rw [hran k o ho, h.1] at hr; cases hr

end Go.Ev

set_option linter.unusedVariables false
set_option linter.unusedSimpArgs false
namespace Go.Ev
open Go.RowKit

variable {B0 : Base} {H : Hid} {s s' : St} {ρ : Ren} {G : Hp} {w : World} {nx : Nx}

theorem mono_regD {T : Tab} {rec : Rec} (hSum : SumOk T) (hM : MonoRec rec) {ops : Array Oper} {tm : Tr Value} {tm' : Tr Value}
    (h : regD T rec H (cOps T ops ops.toList (Region.before ops).toList) 0 tm s [] = .ok tm' s') : Fr H s s' := by
  obtain ⟨S, TM, V, RS, LG, HK, a1, a2, a3, a4, a5, a6, a7⟩ := regD_trace _ _ _ _ _ _ _ _ h
  have step : ∀ k, k < ops.toList.length → Fr H (S k) (S (k + 1)) := by
    intro k hk
    have ho : ops.toList[k]? = some ops.toList[k] := List.getElem?_eq_getElem hk
    obtain ⟨_, h | h⟩ := a7 k _ ho
    · obtain ⟨h1, f, h2, hk2, h3, h4, _⟩ := h
      have fr := (mono_fin hSum hM (le_noR (leR_of h2 _ _ _)) h3).1
      refine ⟨fr.next, fun x hx hn => fr.out x ?_ hn, fun x hx hne => ?_, fun x hx => ?_, fr.dom⟩
      · rw [vis_none_iff] at hx ⊢
        rcases hx with hx | hx
        · exact .inl (by rw [hk2, hidden_append, Bool.or_eq_true]; exact .inr ((hidden_for _).2 (.inl hx)))
        · exact .inr hx
      · rw [h4]; exact List.mem_append_left _ (fr.log x hx hne)
      · rw [h4]; exact List.mem_append_right _ hx
    · rw [h.2.2.1]; exact .refl _ _
  have all : ∀ k, k ≤ ops.toList.length → Fr H (S 0) (S k) := by
    intro k
    induction k with
    | zero => intro _; exact .refl _ _
    | succ k ih => intro hk; exact (ih (by omega)).trans (step k (by omega))
  have := all _ (Nat.le_refl _)
  rw [a1, a4] at this
  exact this

/-- the names behind the operations of E -/
noncomputable def tmE (ops : Array Oper) (V : Nat → Value) (tm : Tr Value) (E : Nat → Bool) : Nat → Tr Value
  | 0 => tm
  | k + 1 => match ops[k]? with
    | some o => if E k = true then putT (tmE ops V tm E k) o.dst (V k) else tmE ops V tm E k
    | none => tmE ops V tm E k

section
variable {ops : Array Oper} {V : Nat → Value} {tm : Tr Value} {E E' : Nat → Bool}

theorem putT_get (t : Tr Value) (d : Option Tmp) (v : Value) (u : Tmp) : (putT t d v).get u = if d = some u then some v else t.get u := by
  cases d with
  | none => simp [putT]
  | some d =>
    show (t.set d (some v)).get u = _
    rw [Tr.get_set]
    by_cases e : u = d
    · simp [e]
    · rw [if_neg e, if_neg (by intro h; cases h; exact e rfl)]

theorem tmE_stay {u : Tmp} {i : Nat} : ∀ m, i ≤ m → (∀ k o, i ≤ k → k < m → ops[k]? = some o → E k = true → o.dst ≠ some u) → (tmE ops V tm E m).get u = (tmE ops V tm E i).get u
  | 0, h, _ => by have : i = 0 := by omega
                  rw [this]
  | m + 1, h, hk => by
    by_cases e : i = m + 1
    · rw [e]
    · have ih := tmE_stay (u := u) (i := i) m (by omega) fun k o h1 h2 => hk k o h1 (by omega)
      simp only [tmE]
      split
      · rename_i o ho
        split
        · rename_i hE
          rw [putT_get, if_neg (hk m o (by omega) (by omega) ho hE)]
          exact ih
        · exact ih
      · exact ih

/-- as the run in textual order had it -/
theorem tmE_text {TM : Nat → Tr Value} (h0 : TM 0 = tm) (hTM : ∀ k o, ops[k]? = some o → TM (k + 1) = putT (TM k) o.dst (V k)) {u : Tmp} :
    ∀ i, i ≤ ops.size → (∀ k o, k < i → ops[k]? = some o → o.dst = some u → E k = true) → (tmE ops V tm E i).get u = (TM i).get u
  | 0, _, _ => by rw [h0]; rfl
  | i + 1, hi, h => by
    have ih := tmE_text h0 hTM i (by omega) fun k o h1 => h k o (by omega)
    have ho : ops[i]? = some ops[i] := by simp
    simp only [tmE, ho]
    rw [hTM i _ ho, putT_get]
    by_cases e : ops[i].dst = some u
    · rw [if_pos e, if_pos (h i _ (by omega) ho e), putT_get, if_pos e]
    · rw [if_neg e]
      split
      · rw [putT_get, if_neg e]; exact ih
      · exact ih

theorem tmE_more {i : Nat} {o : Oper} (ho : ops[i]? = some o) (hE' : ∀ k, E' k = if k = i then true else E k) {u : Tmp} (hu : o.dst ≠ some u) : ∀ m, (tmE ops V tm E' m).get u = (tmE ops V tm E m).get u
  | 0 => rfl
  | m + 1 => by
    have ih := tmE_more ho hE' hu m
    simp only [tmE]
    split
    · rename_i p hp
      by_cases e : m = i
      · subst e
        rw [ho] at hp; cases hp
        have : E' m = true := by rw [hE']; simp
        rw [if_pos this, putT_get, if_neg hu, ih]
        split
        · rw [putT_get, if_neg hu]
        · rfl
      · rw [hE', if_neg e]
        split
        · rw [putT_get, putT_get, ih]
        · exact ih
    · exact ih
end

theorem EnvR.of_get {tm tm2 : Tr Value} {a : Act} (e : EnvR ρ tm a) (h : ∀ u, tm2.get u = tm.get u) : EnvR ρ tm2 a := by
  intro u
  rw [h u]
  exact e u

theorem evO_get {tm tm2 : Tr Value} {x : Operand} (h : ∀ t, x = .tmp t → tm.get t = tm2.get t) : evO tm x = evO tm2 x := by
  cases x with
  | tmp t =>
    show envT (tm.get t) = envT (tm2.get t)
    rw [h t rfl]
  | _ => rfl

theorem wantC_get {T : Tab} {ops : Array Oper} {o : Oper} {b : Nat} {tm tm2 : Tr Value} (h : ∀ u, u ∈ namesOf ops o → tm.get u = tm2.get u) : wantC (cOne T ops o b).guard tm = wantC (cOne T ops o b).guard tm2 := by
  unfold cOne
  cases hg : o.guard with
  | none => rfl
  | some jw =>
    obtain ⟨j, w⟩ := jw
    simp only
    cases hd : (ops[j]?).bind (·.dst) with
    | none => rfl
    | some d =>
      have : tm.get d = tm2.get d := h d (by unfold namesOf; simp [hg, hd])
      simp only [wantC, this]

theorem names_operand {ops : Array Oper} {o : Oper} {t : Tmp} (h : Operand.tmp t ∈ o.op.operands) : t ∈ namesOf ops o := by
  unfold namesOf
  rw [List.mem_append]
  right
  rw [List.mem_filterMap]
  exact ⟨.tmp t, by simpa using h, rfl⟩

theorem names_dst {ops : Array Oper} {o : Oper} {t : Tmp} (h : o.dst = some t) : t ∈ namesOf ops o := by
  unfold namesOf
  simp [h]

theorem regD_sound {T : Tab} {rec : Rec} (hE : Enters T.prog) (hS : SoundRec T rec) (hM : MonoRec rec) (hSum : SumOk T) (hB : B0.Fits T) {ops : Array Oper} {nt : Nat} (hd : dstsOk nt ops = true) (hr : regOk ops = true)
    {tm tm' : Tr Value} {a : Act} {D : List Deferred} (h : regD T rec H (cOps T ops ops.toList (Region.before ops).toList) 0 tm s [] = .ok tm' s') (e : EnvR ρ tm a) (hnt : nt ≤ a.tmps.size) (hdef : a.defers = D) (p : Pre B0 H s s' ρ G w)
    {Q : Exit → Act → World → Prop} (hQ : ∀ ρ' a' w', EnvR ρ' tm' a' → nt ≤ a'.tmps.size → a'.defers = D → Post B0 H s s' ρ ρ' G w w' → Q .normal a' w') :
    wpAny T.prog .any ops Q ops.size (Array.replicate ops.size false) a w := by
  have hfr := mono_regD hSum hM h
  have hf := regOk_spec hr
  obtain ⟨S, TM, V, RS, LG, HK, a1, a2, a3, a4, a5, a6, a7⟩ := regD_trace _ _ _ _ _ _ _ _ h
  rw [Array.length_toList] at a4 a5 a6
  have hst : ∀ k o, ops[k]? = some o → StepAt T rec H ops (befOf ops k) o k (S k) (S (k + 1)) (TM k) (TM (k + 1)) (V k) (LG k) (HK k) (RS k) (RS (k + 1)) := by
    intro k o ho
    have := a7 k o (by rw [Array.getElem?_toList]; exact ho)
    rw [Nat.zero_add] at this
    have hb : (Region.before ops).toList.getD k 0 = befOf ops k := by
      unfold befOf
      rw [List.getD_eq_getElem?_getD, Array.getElem?_toList, Array.getD_eq_getD_getElem?]
    rw [hb] at this
    exact this
  have hTM : ∀ k o, ops[k]? = some o → TM (k + 1) = putT (TM k) o.dst (V k) := fun k o ho => (hst k o ho).1
  let ran : Nat → Bool := fun k => match ops[k]? with | some o => wantC (cOne T ops o (befOf ops k)).guard (TM k) | none => false
  let tch : Nat → Bool := fun k => match ops[k]? with | some o => !pureOp o.op | none => false
  have hran : ∀ k o, ops[k]? = some o → ran k = wantC (cOne T ops o (befOf ops k)).guard (TM k) := fun k o ho => by simp only [ran, ho]
  have htch : ∀ k o, ops[k]? = some o → tch k = !pureOp o.op := fun k o ho => by simp only [tch, ho]
  have L := led_of hSum hM hf a3 a6 (by rw [a1]; exact p.wf) hst hran htch
  have hG : Sub H (S 0) G := by rw [a1]; exact p.sub
  have hdst : ∀ (k : Nat) (o : Oper), ops[k]? = some o → ∀ t, o.dst = some t → t < nt := by
    intro k o ho t ht
    have hmem : o ∈ ops.toList := List.mem_of_getElem? (by rw [Array.getElem?_toList]; exact ho)
    have := List.all_eq_true.1 hd o hmem
    rw [ht] at this
    simpa [Nat.blt_eq] using this
  have hn1 : (S ops.size).next = s'.next := by rw [a4]
  have hn0 : (S 0).next = s.next := by rw [a1]
  -- all orders
  have main : ∀ fuel (listed : Array Bool) (a : Act) (w1 : World) (ρ1 : Ren), listed.size = ops.size →
      (∃ todo : List Nat, todo.length = fuel ∧ ∀ k, k < ops.size → listed.getD k false = false → k ∈ todo) →
      (∀ k m, k < ops.size → listed.getD k false = true → (befOf ops k).testBit m = true → listed.getD m false = true) →
      EnvR ρ1 (tmE ops V tm (fun k => listed.getD k false) ops.size) a → nt ≤ a.tmps.size → a.defers = D → RenLe ρ ρ1 →
      (∀ x, ρ x = none → ρ1 x ≠ none → ∃ k, k < ops.size ∧ listed.getD k false = true ∧ Own S k x) →
      Sim B0 ρ1 (GE ran S G (fun k => listed.getD k false) ops.size) w1 → Below B0 w w1 → wpAny T.prog .any ops Q fuel listed a w1 := by
    intro fuel
    induction fuel with
    | zero =>
      intro listed a w1 ρ1 hsz ⟨todo, ht1, ht2⟩ hcl he hnt hdef hext hnew hsim hbel
      have hall : ∀ k, k < ops.size → listed.getD k false = true := by
        intro k hk
        cases hl : listed.getD k false with
        | true => rfl
        | false => have := ht2 k hk hl; rw [List.length_eq_zero_iff.1 ht1] at this; cases this
      refine ⟨?_, ?_⟩
      · cases hrd : Region.ready .any ops listed with
        | nil => rfl
        | cons j js =>
          have hj : j ∈ Region.ready .any ops listed := by rw [hrd]; simp
          obtain ⟨h1, o, h2, _⟩ := mem_ready.1 hj
          have hlt : j < ops.size := (Array.getElem?_eq_some_iff.1 h2).1
          have := hall j hlt
          simp only [Array.getD_eq_getD_getElem?] at h1 this
          rw [Array.getElem?_eq_getElem (by omega)] at h1 this
          simp only [Option.getD_some] at h1 this
          rw [h1] at this; cases this
      · refine hQ ρ1 a w1 (he.of_get fun u => ?_) hnt hdef ⟨hext, fun x h1 h2 => ?_, ?_, hbel, hfr⟩
        · rw [← a5]
          exact (tmE_text a2 hTM ops.size (Nat.le_refl _) fun k o h1 _ _ => hall k h1).symm
        · obtain ⟨k, h3, _, h4⟩ := hnew x h1 h2
          have := L.le (show 0 ≤ k by omega) (by omega)
          have := L.le (show k + 1 ≤ ops.size by omega) (Nat.le_refl _)
          unfold Own at h4
          omega
        · rw [← a1, ← a4, ← L.whole hG hall]
          exact hsim
    | succ fuel ih =>
      intro listed a w1 ρ1 hsz ⟨todo, ht1, ht2⟩ hcl he hnt hdef hext hnew hsim hbel
      refine ⟨fun hrd => ?_, fun i hi => ?_⟩
      · -- nothing is ready: all ran
        have hall : ∀ k, k < ops.size → listed.getD k false = true := by
          intro k
          induction k using Nat.strongRecOn with
          | _ k ihk =>
            intro hk
            cases hl : listed.getD k false with
            | true => rfl
            | false =>
              have ho : ops[k]? = some ops[k] := by simp [hk]
              have : k ∈ Region.ready .any ops listed := by
                rw [mem_ready]
                refine ⟨?_, ops[k], ho, fun ed h1 h2 => ?_⟩
                · simp only [Array.getD_eq_getD_getElem?] at hl ⊢
                  rw [Array.getElem?_eq_getElem (by omega)] at hl ⊢
                  exact hl
                · have hb : (befOf ops k).testBit ed.on = true := (before_bits ho ed.on).2 ⟨ed, h1, h2, .inl rfl⟩
                  have hlt := hf.small k ed.on hk hb
                  exact ihk ed.on hlt (by omega)
              rw [hrd] at this; cases this
        refine hQ ρ1 a w1 (he.of_get fun u => ?_) hnt hdef ⟨hext, fun x h1 h2 => ?_, ?_, hbel, hfr⟩
        · rw [← a5]
          exact (tmE_text a2 hTM ops.size (Nat.le_refl _) fun k o h1 _ _ => hall k h1).symm
        · obtain ⟨k, h3, _, h4⟩ := hnew x h1 h2
          have := L.le (show 0 ≤ k by omega) (by omega)
          have := L.le (show k + 1 ≤ ops.size by omega) (Nat.le_refl _)
          unfold Own at h4
          omega
        · rw [← a1, ← a4, ← L.whole hG hall]
          exact hsim
      · obtain ⟨h1, o, ho, h3⟩ := mem_ready.1 hi
        have hlt : i < ops.size := (Array.getElem?_eq_some_iff.1 ho).1
        have hEi : listed.getD i false = false := by
          simp only [Array.getD_eq_getD_getElem?] at h1 ⊢
          rw [Array.getElem?_eq_getElem (by omega)] at h1 ⊢
          exact h1
        have hbi : ∀ m, (befOf ops i).testBit m = true → listed.getD m false = true := by
          intro m hm
          obtain ⟨ed, h4, h5, h6⟩ := (before_bits ho m).1 hm
          have h7 := h3 ed h4 h5
          rcases h6 with h6 | ⟨h6, h8⟩
          · rw [← h6]; exact h7
          · exact hcl ed.on m (by omega) h7 h8
        have hE' : ∀ k, (listed.setIfInBounds i true).getD k false = if k = i then true else listed.getD k false := by
          intro k
          rw [Array.getD_eq_getD_getElem?, Array.getD_eq_getD_getElem?, Array.getElem?_setIfInBounds]
          by_cases e1 : i = k
          · subst e1; rw [if_pos rfl, if_pos (by omega), if_pos rfl]; rfl
          · rw [if_neg e1, if_neg (fun h => e1 h.symm)]
        -- names
        have hget : ∀ u, u ∈ namesOf ops o → (tmE ops V tm (fun k => listed.getD k false) ops.size).get u = (TM i).get u := by
          intro u hu
          rw [tmE_stay (i := i) ops.size (by omega)]
          · refine tmE_text a2 hTM i (by omega) fun k q h4 h5 h6 => ?_
            rcases hf.names i k o q u ho h5 (by omega) h6 hu with h7 | h7
            · exact hbi k h7
            · have := hf.small k i (by omega) h7; omega
          · intro k q h4 h5 h6 h7 h8
            by_cases e1 : k = i
            · subst e1; rw [hEi] at h7; cases h7
            · rcases hf.names i k o q u ho h6 (fun e => e1 e.symm) h8 hu with h9 | h9
              · have := hf.small i k hlt h9; omega
              · have := hcl k i h5 h7 h9; rw [hEi] at this; cases this
        have hget2 : ∀ u, (tmE ops V tm (fun k => (listed.setIfInBounds i true).getD k false) ops.size).get u = (putT (tmE ops V tm (fun k => listed.getD k false) ops.size) o.dst (V i)).get u := by
          intro u
          rw [putT_get]
          by_cases hu : o.dst = some u
          · rw [if_pos hu, tmE_stay (i := i + 1) ops.size (by omega)]
            · simp only [tmE, ho]
              rw [if_pos (by rw [hE']; simp), putT_get, if_pos hu]
            · intro k q h4 h5 h6 h7 h8
              rw [hE', if_neg (by omega)] at h7
              rcases hf.names i k o q u ho h6 (by omega) h8 (names_dst hu) with h9 | h9
              · have := hf.small i k hlt h9; omega
              · have := hcl k i h5 h7 h9; rw [hEi] at this; cases this
          · rw [if_neg hu]
            exact tmE_more ho hE' hu _
        have hdst' : ∀ t, o.dst = some t → t < a.tmps.size := fun t ht => Nat.lt_of_lt_of_le (hdst i o ho t ht) hnt
        have next : ∀ {ρ2 : Ren} {v' : Value} {w2 : World}, VR ρ2 (V i) v' → RenLe ρ1 ρ2 → (∀ x, ρ1 x = none → ρ2 x ≠ none → Own S i x) →
            Sim B0 ρ2 (GE ran S G (fun k => (listed.setIfInBounds i true).getD k false) ops.size) w2 → Below B0 w1 w2 →
            wpAny T.prog .any ops Q fuel (listed.setIfInBounds i true) (a.put o.dst v') w2 := by
          intro ρ2 v' w2 g1 g2 g3 g4 g5
          refine ih _ _ _ ρ2 (by simp [hsz]) ⟨todo.erase i, ?_, fun k hk hl => ?_⟩ (fun k m hk hl hb => ?_) (((he.mono g2).put g1 hdst').of_get hget2) (by rw [put_size]; exact hnt) (by rw [put_defers']; exact hdef)
            (hext.trans g2) (fun x h4 h5 => ?_) g4 (hbel.trans g5)
          · rw [List.length_erase_of_mem (ht2 i hlt hEi), ht1]; rfl
          · rw [hE'] at hl
            by_cases e1 : k = i
            · rw [if_pos e1] at hl; cases hl
            · rw [if_neg e1] at hl
              exact (List.mem_erase_of_ne e1).2 (ht2 k hk hl)
          · rw [hE'] at hl ⊢
            by_cases e2 : m = i
            · rw [if_pos e2]
            · rw [if_neg e2]
              by_cases e1 : k = i
              · subst e1; exact hbi m hb
              · rw [if_neg e1] at hl; exact hcl k m hk hl hb
          · cases h6 : ρ1 x with
            | none => exact ⟨i, hlt, by rw [hE']; simp, g3 x h6 h5⟩
            | some l =>
              obtain ⟨k, h7, h8, h9⟩ := hnew x h4 (by rw [h6]; simp)
              refine ⟨k, h7, ?_, h9⟩
              rw [hE', h8]; simp
        have hw : wantC (cOne T ops o (befOf ops i)).guard (TM i) = Region.wanted o (yielded ops a.tmps) := by
          rw [← want_eq he (befOf ops i) T]
          exact (wantC_get hget).symm
        unfold wpOp
        simp only [ho]
        obtain ⟨_, hstep | hstep⟩ := hst i o ho
        · obtain ⟨s1, f, s2, _, s3, s4, _⟩ := hstep
          rw [if_pos (by rw [← hw]; exact s1)]
          left
          have hri : ran i = true := by rw [hran i o ho]; exact s1
          rcases run_of_cOne s2 with hbad | ⟨hc, hopn⟩
          · rw [hbad] at s3; cases s3
          · have hcong : ∀ H' s0, f H' (tmE ops V tm (fun k => listed.getD k false) ops.size) s0 = f H' (TM i) s0 := fun H' s0 =>
              cOp_congr hc (fun x hx => evO_get fun t ht => hget t (names_operand (by rw [← ht]; exact hx))) H' s0
            cases hp : pureOp o.op with
            | true =>
              obtain ⟨r, hr'⟩ := pure_cOp hp hc (TM i)
              have hval : f [] (tmE ops V tm (fun k => listed.getD k false) ops.size) ⟨.lf, 0, []⟩ = .ok (.val (V i)) ⟨.lf, 0, []⟩ := by
                rw [hcong, hr']
                rw [hr'] at s3
                cases r with
                | bad w => cases s3
                | ok n u =>
                  cases n with
                  | val v =>
                    have s3 : (R.ok v (⟨(S i).heap, (S i).next, []⟩ : St) : R Value) = _ := s3
                    obtain ⟨h5, _⟩ := ok_inj s3
                    rw [← h5]; rfl
                  | enter f args => cases s3
                  | round l f nt tm as bd => cases s3
              have hfin : fin T [] (rec []) (noR (f [] (tmE ops V tm (fun k => listed.getD k false) ops.size) ⟨.lf, 0, []⟩)) = .ok (V i) ⟨.lf, 0, []⟩ := by rw [hval]; rfl
              have hsub : Sub [] ⟨.lf, 0, []⟩ (GE ran S G (fun k => listed.getD k false) ops.size) := by
                intro x o' hx
                rw [vis_eq] at hx
                simp [hidden_nil] at hx
              have hp0 : Pre B0 [] ⟨.lf, 0, []⟩ ⟨.lf, 0, []⟩ ρ1 (GE ran S G (fun k => listed.getD k false) ops.size) w1 := ⟨hsub, fun x _ => by simp, fun x _ h5 => absurd h5 (by simp), hsim⟩
              refine fin_soundD hE hS hM hSum hB hc hopn hfin he hp0 fun ρ2 v' w2 g1 g2 => ?_
              have g3 := g2.sim
              rw [upd_refl _ _ _ hsub, ← GE_quiet L hlt hE' (.inr (by rw [htch i o ho, hp]; rfl))] at g3
              exact next g1 g2.ext (fun x h5 h6 => absurd (g2.new x h5 h6) (by simp)) g3 g2.below
            | false =>
              have htc : tch i = true := by rw [htch i o ho, hp]; rfl
              have hsub := L.sees hG hcl hlt hEi hbi hri htc
              have hp0 : Pre B0 (HK i) ⟨(S i).heap, (S i).next, []⟩ ⟨(S (i + 1)).heap, (S (i + 1)).next, LG i⟩ ρ1 (GE ran S G (fun k => listed.getD k false) ops.size) w1 := by
                refine ⟨hsub, L.wfk i (by omega), fun x h5 h6 => ?_, hsim⟩
                cases h7 : ρ1 x with
                | none => rfl
                | some l =>
                  exfalso
                  have q1 := L.le (show 0 ≤ i by omega) (by omega)
                  have q2 := L.le (show i + 1 ≤ ops.size by omega) (Nat.le_refl _)
                  have h5 : (S i).next ≤ x := h5
                  have h6 : x < (S (i + 1)).next := h6
                  obtain ⟨k, h8, h9, h10⟩ := hnew x (p.fresh x (by omega) (by omega)) (by rw [h7]; simp)
                  unfold Own at h10
                  rcases Nat.lt_trichotomy k i with h11 | h11 | h11
                  · have := L.le (show k + 1 ≤ i by omega) (by omega); omega
                  · subst h11; rw [hEi] at h9; cases h9
                  · have := L.le (show i + 1 ≤ k by omega) (by omega); omega
              have hfin : fin T (HK i) (rec (HK i)) (noR (f (HK i) (tmE ops V tm (fun k => listed.getD k false) ops.size) ⟨(S i).heap, (S i).next, []⟩)) = .ok (V i) ⟨(S (i + 1)).heap, (S (i + 1)).next, LG i⟩ := by
                rw [hcong]; exact s3
              refine fin_soundD hE hS hM hSum hB hc hopn hfin he hp0 fun ρ2 v' w2 g1 g2 => ?_
              have g3 := g2.sim
              rw [L.more hcl hlt hEi hri hE' hsub] at g3
              exact next g1 g2.ext (fun x h5 h6 => g2.new x h5 h6) g3 g2.below
        · obtain ⟨s1, s2, s3, s4⟩ := hstep
          rw [if_neg (by rw [← hw, s1]; simp)]
          have hri : ran i = false := by rw [hran i o ho]; exact s1
          refine next (ρ2 := ρ1) (by rw [s2]; exact VR.undef _) (.refl _) (fun x h5 h6 => absurd h5 h6) ?_ (.refl _ _)
          rw [GE_quiet L hlt hE' (.inl hri)]
          exact hsim
  have hE0 : ∀ k, (Array.replicate ops.size false).getD k false = false := by
    intro k
    rw [Array.getD_eq_getD_getElem?, Array.getElem?_replicate]
    split <;> rfl
  have htm0 : ∀ m, tmE ops V tm (fun k => (Array.replicate ops.size false).getD k false) m = tm := by
    intro m
    induction m with
    | zero => rfl
    | succ m ih =>
      simp only [tmE]
      split
      · rw [if_neg (by rw [hE0]; simp)]; exact ih
      · exact ih
  have hG0 : ∀ m, GE ran S G (fun k => (Array.replicate ops.size false).getD k false) m = G := by
    intro m
    induction m with
    | zero => rfl
    | succ m ih => funext x; rw [GE_neg (by rw [hE0]; simp), ih]
  refine main ops.size _ a w ρ (by simp) ⟨List.range ops.size, by simp, fun k hk _ => by simpa using hk⟩ (fun k m hk hl _ => ?_) (by rw [htm0]; exact e) hnt hdef (.refl _) (fun x h1 h2 => absurd h1 h2) (by rw [hG0]; exact p.sim) (.refl _ _)
  rw [hE0] at hl; cases hl

end Go.Ev
