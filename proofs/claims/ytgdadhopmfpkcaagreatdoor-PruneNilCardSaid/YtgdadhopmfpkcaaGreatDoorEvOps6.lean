/- Composite values, append, calls. -/
import Derived.Test.YtgdadhopmfpkcaaGreatDoorEvOps5
set_option linter.unusedVariables false
set_option linter.unusedSimpArgs false
namespace Go.Ev
open Go.RowKit

variable {P : Program} {B0 : Base} {H : Hid} {s s' : St} {ρ : Ren} {G : Hp} {w : World} {nx : Nx}

theorem fold_over (off : Nat) : ∀ (l : List Value) (k : Nat) (C : Array Value), (l.zipIdx k).foldl (fun cs (c, j) => cs.setIfInBounds (off + j) c) C = over C (off + k) l
  | [], k, C => by simp [over]
  | v :: l, k, C => by
    simp only [List.zipIdx_cons, List.foldl_cons, over]
    rw [fold_over off l (k + 1)]
    rfl

theorem arr_fold_over (off : Nat) (vs C : Array Value) : vs.zipIdx.foldl (fun cs (c, j) => cs.setIfInBounds (off + j) c) C = over C off vs.toList := by
  rw [← Array.foldl_toList, Array.toList_zipIdx]
  have := fold_over off vs.toList 0 C
  simpa using this

theorem VRs.over {C C' : Array Value} {l l' : List Value} {o : Nat} (hC : VRs ρ C.toList C'.toList) (hl : VRs ρ l l') (ho : o + l.length ≤ C.size) : VRs ρ (Ev.over C o l).toList (Ev.over C' o l').toList := by
  have h1 := hC.length
  have h2 := hl.length
  simp only [Array.length_toList] at h1
  refine VRs.of_get ?_ fun k v v' a b => ?_
  · simp [over_size, h1]
  · rw [Array.getElem?_toList, over_get _ _ _ _ ho] at a
    rw [Array.getElem?_toList, over_get _ _ _ _ (by omega)] at b
    by_cases e : o ≤ k ∧ k < o + l.length
    · rw [if_pos e] at a
      rw [if_pos (by omega)] at b
      obtain ⟨u, hu, hr⟩ := hl.get a
      rw [hu] at b; cases b; exact hr
    · rw [if_neg e] at a
      rw [if_neg (by omega)] at b
      rw [← Array.getElem?_toList] at a b
      obtain ⟨u, hu, hr⟩ := hC.get a
      rw [hu] at b; cases b; exact hr

inductive PsR (ρ : Ren) : List (Nat × Value) → List (Nat × Value) → Prop
  | nil : PsR ρ [] []
  | cons {i : Nat} {v v' : Value} {l l' : List (Nat × Value)} (h : VR ρ v v') (t : PsR ρ l l') : PsR ρ ((i, v) :: l) ((i, v') :: l')

theorem cells_size {v v' : Value} (h : VR ρ v v') : v.cells.size = v'.cells.size := by
  have := (Value.cells_toList h).length
  rw [vcells_cells] at this
  simpa using this

theorem fill_rel {place : Nat → Option (Nat × Nat)} : ∀ {ps ps' : List (Nat × Value)}, PsR ρ ps ps' → ∀ {C C' r : Array Value}, VRs ρ C.toList C'.toList → Instr.fill place C ps = some r →
    ∃ r', Instr.fill place C' ps' = some r' ∧ VRs ρ r.toList r'.toList ∧ r.size = C.size
  | _, _, .nil, C, C', r, hC, h => by
    simp only [Instr.fill, Option.some.injEq] at h
    subst h
    exact ⟨C', rfl, hC, rfl⟩
  | _, _, .cons (i := i) (v := v) (v' := v') hv t, C, C', r, hC, h => by
    simp only [Instr.fill] at h ⊢
    cases hp : place i with
    | none => rw [hp] at h; cases h
    | some os =>
      obtain ⟨off, sz⟩ := os
      rw [hp] at h
      simp only at h ⊢
      have hc := cells_size hv
      have hCs := hC.length
      simp only [Array.length_toList] at hCs
      split at h
      · cases h
      · rename_i hn
        rw [if_neg (by rw [← hc, ← hCs]; exact hn)]
        simp only [Bool.or_eq_true, decide_eq_true_eq, not_or, Nat.not_lt, ne_eq, Decidable.not_not] at hn
        rw [arr_fold_over] at h ⊢
        have hvs : VRs ρ v.cells.toList v'.cells.toList := by
          have := Value.cells_toList hv
          rw [vcells_cells] at this; exact this
        obtain ⟨r', h1, h2, h3⟩ := fill_rel t (VRs.over hC hvs (by simp; omega)) h
        exact ⟨r', h1, h2, by rw [h3, over_size]⟩

theorem run_places : ∀ (fs : List Field) (pl : List (Nat × Nat)), structPlaces P fs = some pl →
    (fs.mapM (fun f => (do pure (f.offset, ← sizeOf f.type) : Sem (Nat × Nat)))).run P w = .ok pl w
  | [], pl, h => by simp only [structPlaces, Option.some.injEq] at h; subst h; simp
  | f :: fs, pl, h => by
    simp only [structPlaces] at h
    split at h
    · rename_i ti ht
      split at h
      · rename_i l hl
        cases h
        rw [List.mapM_cons]
        simp only [Sem.run_bind, run_sizeOf ht, Result.andThen_ok, Sem.run_pure, run_places fs l hl]
      · cases h
    · cases h

theorem ground_cells {z : Value} (hg : ground z = true) : VRs ρ (vcells z) z.cells.toList := Value.cells_toList (ground_self hg)

theorem s_buildStruct {t : TypeId} {ti : TI} {fs : Array Field} {z : Value} {pl : List (Nat × Nat)} {ps : List (Nat × Value)} {ps' : Array (Nat × Value)} (h : doBuild (vcells z) (fun i => pl[i]?) ps s = .ok nx s') (hps : PsR ρ ps ps'.toList) (p : Pre B0 H s s' ρ G w)
    (ht : tiOf P t = some ti) (hu : ti.und = .struct fs) (hz : ti.zero = some z) (hg : ground z = true) (hpl : structPlaces P fs.toList = some pl) :
    Done P B0 H s s' ρ G w nx (semV (Instr.build t ps')) := by
  obtain ⟨i, hi, hund, _, _, _⟩ := tiOf_spec ht
  rw [hu] at hund
  unfold doBuild at h
  split at h
  · rename_i r hr
    obtain ⟨rfl, rfl⟩ := ok_inj h
    obtain ⟨r', h1, h2, _⟩ := fill_rel (C' := z.cells) hps (ground_cells hg) hr
    refine done_same (v' := .agg r') p ?_ (.agg h2)
    have hp : (fs.mapM (fun f => (do pure (f.offset, ← sizeOf f.type) : Sem (Nat × Nat)))).run P w = .ok pl.toArray w := by
      have := run_places (w := w) fs.toList pl hpl
      rw [← Array.toArray_toList (xs := fs), List.mapM_toArray]
      simp only [Sem.run_map, this, Result.andThen_ok]
    simp only [Instr.build, Sem.run_bind, run_zeroValue ht hz, run_underlying hund, Result.andThen_ok]
    rw [hp]
    simp only [Result.andThen_ok]
    have : (fun i : Nat => pl.toArray[i]?) = (fun i : Nat => pl[i]?) := by funext i; simp
    rw [this, h1]
    simp
  · cases h

theorem s_buildArray {t e : TypeId} {n : Nat} {ti te : TI} {z : Value} {ps : List (Nat × Value)} {ps' : Array (Nat × Value)} (h : doBuild (vcells z) (fun i => some (i * te.size, te.size)) ps s = .ok nx s') (hps : PsR ρ ps ps'.toList) (p : Pre B0 H s s' ρ G w)
    (ht : tiOf P t = some ti) (hu : ti.und = .array n e) (hz : ti.zero = some z) (hg : ground z = true) (he : tiOf P e = some te) :
    Done P B0 H s s' ρ G w nx (semV (Instr.build t ps')) := by
  obtain ⟨i, hi, hund, _, _, _⟩ := tiOf_spec ht
  rw [hu] at hund
  unfold doBuild at h
  split at h
  · rename_i r hr
    obtain ⟨rfl, rfl⟩ := ok_inj h
    obtain ⟨r', h1, h2, _⟩ := fill_rel (C' := z.cells) hps (ground_cells hg) hr
    refine done_same (v' := .agg r') p ?_ (.agg h2)
    simp only [Instr.build, Sem.run_bind, run_zeroValue ht hz, run_underlying hund, Result.andThen_ok, run_sizeOf he]
    rw [h1]
    simp
  · cases h

theorem s_buildSlice {t e : TypeId} {n : Nat} {te : TI} {z : Value} {ps : List (Nat × Value)} {ps' : Array (Nat × Value)} (h : doBuildSlice e n te.size (vcells z) ps s = .ok nx s') (hps : PsR ρ ps ps'.toList) (p : Pre B0 H s s' ρ G w)
    (hu : P.underlying t = some (.slice e)) (ht : tiOf P e = some te) (hz : te.zero = some z) (hg : ground z = true) (hsz : (vcells z).length = te.size) (hn : n * te.size ≤ 65536) :
    Done P B0 H s s' ρ G w nx (semV (Instr.buildSlice t n ps')) := by
  unfold doBuildSlice at h
  split at h
  · rename_i r hr
    obtain ⟨rfl, rfl⟩ := ok_inj h
    have hcells : z.cells.size = te.size := by rw [← Array.length_toList, ← vcells_cells]; exact hsz
    -- the machine's row of zeros
    have hrow : ∃ C : Array Value, C.toList = repl z.cells.toList n ∧ ∀ r', Instr.fill (fun i => some (i * te.size, te.size)) C ps'.toList = some r' →
        (Instr.buildSlice t n ps').run P w = .ok (.slice (some ⟨w.heap.size, 0, none⟩) n n) { w with heap := w.heap.push (.cells r' e) } := by
      have hbig : ¬ n * te.size > 2 ^ 24 := by omega
      by_cases hzero : n * te.size = 0
      · refine ⟨#[], ?_, fun r' hr' => ?_⟩
        · symm
          apply List.eq_nil_of_length_eq_zero
          rw [repl_length, Array.length_toList, hcells]; exact hzero
        · have hbig2 : ¬ 0 > 2 ^ 24 := by omega
          simp only [Instr.buildSlice, Sem.run_bind, run_underlying hu, Result.andThen_ok, run_sizeOf ht, hzero, hbig2, if_false, Sem.run_pure, if_true]
          rw [show ∀ f : Nat → Value, (Array.range 0).map f = #[] from fun f => by simp, hr']
          simp only [Sem.run_bind, run_newRow, Result.andThen_ok, Sem.run_pure]
      · refine ⟨((Array.range (n * te.size)).map (z.cells[· % z.cells.size]!)), zeros_eq z.cells n te.size hcells, fun r' hr' => ?_⟩
        simp only [Instr.buildSlice, Sem.run_bind, run_underlying hu, Result.andThen_ok, run_sizeOf ht, hbig, if_false, Sem.run_pure, hzero, run_zeroValue ht hz]
        rw [hr']
        simp only [Sem.run_bind, run_newRow, Result.andThen_ok, Sem.run_pure]
    obtain ⟨C, hC1, hC2⟩ := hrow
    obtain ⟨r', h1, h2, h3⟩ := fill_rel (C' := C) hps (by rw [hC1]; exact VRs.repl (ground_cells hg) n) hr
    have hlen : r.toList.length = n * te.size := by
      rw [Array.length_toList, h3]; show (repl (vcells z) n).length = _; rw [repl_length, hsz]
    have hle : RenLe ρ (ρ.put s.next ⟨w.heap.size, 0, r'.size⟩) := Ren.le_put (p.fresh s.next (Nat.le_refl _) (Nat.lt_succ_self _))
    refine done_post (hC2 r' h1) (.slice (l := ⟨w.heap.size, 0, r'.size⟩) Ren.put_same (.inl rfl) (Nat.le_refl _)) (Post.new' (obj := .cells r' e) r'.size p ?_)
    exact objR_trOf (h2.mono hle) hlen ⟨[], by simp⟩ rfl rfl
  · cases h

end Go.Ev
