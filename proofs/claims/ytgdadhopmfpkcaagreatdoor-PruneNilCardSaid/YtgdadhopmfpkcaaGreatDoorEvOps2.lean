/- More operations: values taken apart and put together, tests, numbers. -/
import Derived.Test.YtgdadhopmfpkcaaGreatDoorEvOps
set_option linter.unusedVariables false
set_option linter.unusedSimpArgs false
namespace Go.Ev
open Go.RowKit

variable {P : Program} {B0 : Base} {H : Hid} {s s' : St} {ρ : Ren} {G : Hp} {w : World} {nx : Nx}

theorem okO_spec {o : Option Value} (h : okO s o = .ok nx s') : s' = s ∧ ∃ v, o = some v ∧ nx = .val v := by
  cases o with
  | none => cases h
  | some v => obtain ⟨rfl, rfl⟩ := ok_inj h; exact ⟨rfl, v, rfl, rfl⟩

theorem s_extract {x x' : Value} {i : Nat} (h : doExtract x i s = .ok nx s') (hx : VR ρ x x') (p : Pre B0 H s s' ρ G w) :
    Done P B0 H s s' ρ G w nx (semV (Instr.extract x' i)) := by
  unfold doExtract at h
  split at h
  · rename_i vs
    obtain ⟨rfl, v, hv, rfl⟩ := okO_spec h
    cases hx with
    | tuple hvs =>
      rename_i vs'
      obtain ⟨v', h1, h2⟩ := hvs.get hv
      refine done_same p ?_ h2
      rw [Array.getElem?_toList] at h1
      simp [Instr.extract, h1]
  · cases h

theorem run_part {t : TypeId} {ti : TI} {cs : Array Value} {off : Nat} (ht : tiOf P t = some ti) :
    (ti.agg = true → (part t cs off).run P w = .ok (.agg (cs.extract off (off + ti.size))) w) ∧ ∀ v, ti.agg = false → cs[off]? = some v → (part t cs off).run P w = .ok v w := by
  simp only [part, Sem.run_bind, run_isAgg ht, Result.andThen_ok]
  constructor
  · intro h; rw [h]; simp [run_sizeOf ht]
  · intro v h hv
    rw [h]
    simp only [Bool.false_eq_true, if_false, hv, Sem.run_pure]

theorem s_part {agg : Bool} {off sz : Nat} {x : Value} {cs' : Array Value} {t : TypeId} {ti : TI} (h : doFieldV agg off sz x s = .ok nx s') (hx : VR ρ x (.agg cs'))
    (ht : tiOf P t = some ti) (ha : ti.agg = agg) (hz : ti.size = sz) : s' = s ∧ ∃ v v', nx = .val v ∧ VR ρ v v' ∧ ∀ w, (part t cs' off).run P w = .ok v' w := by
  unfold doFieldV at h
  split at h
  · rename_i cs
    cases hx with
    | agg hcs =>
      cases agg with
      | false =>
        obtain ⟨rfl, v, hv, rfl⟩ := okO_spec h
        obtain ⟨v', h1, h2⟩ := hcs.get hv
        rw [Array.getElem?_toList] at h1
        refine ⟨rfl, v, v', rfl, h2, fun w => ?_⟩
        exact (run_part ht).2 v' ha h1
      | true =>
        obtain ⟨hb, h⟩ := brec_ok h
        obtain ⟨rfl, rfl⟩ := ok_inj h
        refine ⟨rfl, _, .agg (cs'.extract off (off + sz)), rfl, .agg ?_, fun w => ?_⟩
        · rw [extract_list]; exact (hcs.drop off).take sz
        · rw [(run_part ht).1 ha, hz]
  · cases h

theorem s_fieldV {agg : Bool} {off sz : Nat} {x x' : Value} {st : TypeId} {fs : Array Field} {f : Nat} {fl : Field} {ti : TI} (h : doFieldV agg off sz x s = .ok nx s') (hx : VR ρ x x') (p : Pre B0 H s s' ρ G w)
    (hu : P.underlying st = some (.struct fs)) (hf : fs[f]? = some fl) (ht : tiOf P fl.type = some ti) (hoff : fl.offset = off) (ha : ti.agg = agg) (hz : ti.size = sz) :
    Done P B0 H s s' ρ G w nx (semV (Instr.field st x' f)) := by
  have hx2 : ∃ cs', x' = .agg cs' := by
    unfold doFieldV at h
    split at h
    · cases hx with | agg _ => exact ⟨_, rfl⟩
    · cases h
  obtain ⟨cs', rfl⟩ := hx2
  obtain ⟨rfl, v, v', rfl, hr, hrun⟩ := s_part h hx ht ha hz
  refine done_same p ?_ hr
  simp only [Instr.field, Sem.run_bind, run_underlying hu, Result.andThen_ok, hf, asAgg, Sem.run_pure, hoff]
  exact hrun w

theorem s_indexAgg {agg : Bool} {n sz : Nat} {x x' i i' : Value} {t e : TypeId} {ti : TI} (h : doIndexAgg n agg sz x i s = .ok nx s') (hx : VR ρ x x') (hi : VR ρ i i') (p : Pre B0 H s s' ρ G w)
    (hu : P.underlying t = some (.array n e)) (ht : tiOf P e = some ti) (ha : ti.agg = agg) (hz : ti.size = sz) : Done P B0 H s s' ρ G w nx (semV (Instr.index t x' i')) := by
  unfold doIndexAgg at h
  split at h
  · rename_i k m
    have := int_of hi
    subst this
    obtain ⟨hlt, h⟩ := brec_ok h
    have hlt : m < n := by simpa [Nat.blt_eq] using hlt
    have hx2 : ∃ cs', x' = .agg cs' := by
      unfold doFieldV at h
      split at h
      · cases hx with | agg _ => exact ⟨_, rfl⟩
      · cases h
    obtain ⟨cs', rfl⟩ := hx2
    obtain ⟨rfl, v, v', rfl, hr, hrun⟩ := s_part h hx ht ha hz
    refine done_same p ?_ hr
    simp only [Instr.index, asIntOf, Sem.run_bind, Sem.run_pure, Result.andThen_ok, run_underlying hu]
    have hc : (0 : Int) ≤ Int.ofNat m ∧ Int.ofNat m < (n : Int) := ⟨Int.natCast_nonneg m, Int.ofNat_lt.2 hlt⟩
    rw [if_pos hc]
    simp only [Sem.run_bind, run_sizeOf ht, Result.andThen_ok, hz]
    exact hrun w
  · cases h

theorem s_indexStr {x x' i i' : Value} {t : TypeId} (h : doIndexStr x i s = .ok nx s') (hx : VR ρ x x') (hi : VR ρ i i') (p : Pre B0 H s s' ρ G w)
    (hu : P.underlying t = some .string) : Done P B0 H s s' ρ G w nx (semV (Instr.index t x' i')) := by
  unfold doIndexStr at h
  split at h
  · rename_i b
    split at h
    · rename_i k m
      have := int_of hi
      subst this
      split at h
      · rename_i c hc
        obtain ⟨rfl, rfl⟩ := ok_inj h
        cases hx
        refine done_same p ?_ (.int _ _)
        have hlt : m < b.size := by
          have := (List.getElem?_eq_some_iff.1 hc).1
          simpa using this
        have hb : b[m]? = some c := by
          rw [Array.getElem?_toList] at hc
          obtain ⟨h1, h2⟩ := Array.getElem?_eq_some_iff.1 hc
          rw [getElem?_pos b m hlt]
          congr 1
        simp only [Instr.index, asIntOf, Sem.run_bind, Sem.run_pure, Result.andThen_ok, run_underlying hu]
        rw [if_pos (show (0 : Int) ≤ Int.ofNat m from Int.natCast_nonneg m)]
        simp [hb]
      · cases h
    · cases h
  · cases h

theorem s_pick {c c' a a' b b' : Value} (h : doPick s c a b = .ok nx s') (hc : VR ρ c c') (ha : VR ρ a a') (hb : VR ρ b b') (p : Pre B0 H s s' ρ G w) :
    Done P B0 H s s' ρ G w nx (do pure (.value (if ← asBool c' then a' else b'))) := by
  unfold doPick at h
  split at h
  · rename_i t
    obtain ⟨rfl, rfl⟩ := ok_inj h
    cases hc
    refine ⟨ρ, w, .value (if t = true then a' else b'), by simp [asBool], ?_, .refl p.sub p.sim⟩
    cases t
    · exact .val hb
    · exact .val ha
  · cases h

/- bounds of slices -/
inductive OVR (ρ : Ren) : Option Value → Option Value → Prop
  | none : OVR ρ none none
  | some {v v' : Value} (h : VR ρ v v') : OVR ρ (some v) (some v')

theorem sb_spec {x x' : Option Value} {d n : Nat} (h : sb x d = some n) (hx : OVR ρ x x') : (x' = none ∧ n = d) ∨ ∃ k, x' = some (.int k (Int.ofNat n)) := by
  cases hx with
  | none => simp only [sb, Option.some.injEq] at h; exact .inl ⟨rfl, h.symm⟩
  | some hv =>
    unfold sb at h
    split at h
    · rename_i he; cases he
    · rename_i k i he
      cases he
      split at h
      · cases h
        rename_i m
        have := int_of hv
        subst this
        exact .inr ⟨k, rfl⟩
      · cases h
    · cases h

theorem run_sliceBound {k : IntKind} {n y : Nat} {code : BoundsCode} (h : n ≤ y) : (Instr.sliceBound (.int k (Int.ofNat n)) y code).run P w = .ok n w := by
  simp only [Instr.sliceBound, asIntOf, Sem.run_bind, Sem.run_pure, Result.andThen_ok]
  rw [if_pos ⟨Int.natCast_nonneg n, Int.ofNat_le.2 h⟩]
  simp

theorem run_sliceBound' {k : IntKind} {n y : Nat} {code : BoundsCode} (h : n ≤ y) : (Instr.sliceBound (.int k (n : Int)) y code).run P w = .ok n w := run_sliceBound h

theorem run_bounds2 {b : Bool} {len cap l h : Nat} {lo hi : Option Value} (h1 : l ≤ h) (h2 : h ≤ cap) (hl : (lo = none ∧ l = 0) ∨ ∃ k, lo = some (.int k (Int.ofNat l)))
    (hh : (hi = none ∧ h = len) ∨ ∃ k, hi = some (.int k (Int.ofNat h))) : (Instr.sliceBounds b len cap lo hi none).run P w = .ok (l, h, cap) w := by
  rcases hl with ⟨rfl, rfl⟩ | ⟨k, rfl⟩ <;> rcases hh with ⟨rfl, rfl⟩ | ⟨k', rfl⟩ <;>
    simp [Instr.sliceBounds, run_sliceBound' h1, run_sliceBound' h2]

theorem run_bounds3 {len cap l h m : Nat} {k0 : IntKind} {lo hi : Option Value} (h1 : l ≤ h) (h2 : h ≤ m) (h3 : m ≤ cap) (hl : (lo = none ∧ l = 0) ∨ ∃ k, lo = some (.int k (Int.ofNat l)))
    (hh : ∃ k, hi = some (.int k (Int.ofNat h))) : (Instr.sliceBounds true len cap lo hi (some (.int k0 (Int.ofNat m)))).run P w = .ok (l, h, m) w := by
  obtain ⟨k', rfl⟩ := hh
  rcases hl with ⟨rfl, rfl⟩ | ⟨k, rfl⟩ <;>
    simp [Instr.sliceBounds, run_sliceBound' h1, run_sliceBound' h2, run_sliceBound' h3]

theorem s_sliceStr {x x' : Value} {t : TypeId} {lo lo' hi hi' : Option Value} (h : doSliceStr x lo hi s = .ok nx s') (hx : VR ρ x x') (hlo : OVR ρ lo lo') (hhi : OVR ρ hi hi') (p : Pre B0 H s s' ρ G w)
    (hu : P.underlying t = some .string) : Done P B0 H s s' ρ G w nx (semV (Instr.sliceAt t x' lo' hi' none)) := by
  unfold doSliceStr at h
  split at h
  · rename_i str
    split at h
    · rename_i l hl
      split at h
      · rename_i hh hh1
        obtain ⟨hb, h⟩ := brec_ok h
        obtain ⟨rfl, rfl⟩ := ok_inj h
        cases hx
        simp only [Bool.and_eq_true, Nat.ble_eq] at hb
        refine done_same p ?_ (.string _)
        have := run_bounds2 (P := P) (w := w) (b := false) (len := str.size) (cap := str.size) hb.1 hb.2 (sb_spec hl hlo) (sb_spec hh1 hhi)
        simp only [Instr.sliceAt, Instr.slice, Sem.run_bind, run_underlying hu, Result.andThen_ok, Option.isSome_none, Bool.false_eq_true, if_false]
        simp only [Sem.run_pure, Result.andThen_ok, this]
      · cases h
    · cases h
  · cases h

theorem s_slice {x x' : Value} {t e : TypeId} {ti : TI} {lo lo' hi hi' mx mx' : Option Value} (h : doSlice ti.size x lo hi mx s = .ok nx s') (hx : VR ρ x x') (hlo : OVR ρ lo lo') (hhi : OVR ρ hi hi') (hmx : OVR ρ mx mx') (p : Pre B0 H s s' ρ G w)
    (hmh : mx.isSome = true → hi.isSome = true)
    (hu : P.underlying t = some (.slice e)) (ht : tiOf P e = some ti) : Done P B0 H s s' ρ G w nx (semV (Instr.sliceAt t x' lo' hi' mx')) := by
  have hi_some : ∀ {hh n : Nat}, sb hi n = some hh → mx.isSome = true → ∃ k, hi' = some (.int k (Int.ofNat hh)) := by
    intro hh n h1 h2
    rcases sb_spec h1 hhi with ⟨h3, _⟩ | h3
    · have := hmh h2
      subst h3
      cases hhi
      cases this
    · exact h3
  unfold doSlice at h
  split at h
  · rename_i base n cap
    split at h
    · rename_i l hl
      have hl2 := sb_spec hl hlo
      split at h
      · rename_i hh hh1
        have hh2 := sb_spec hh1 hhi
        split at h
        · -- nil
          obtain ⟨hb, h⟩ := brec_ok h
          obtain ⟨rfl, rfl⟩ := ok_inj h
          simp only [Bool.and_eq_true, Nat.beq_eq] at hb
          obtain ⟨⟨⟨⟨rfl, rfl⟩, hm⟩, rfl⟩, rfl⟩ := hb
          cases hx
          have : mx' = none := by cases hmx with | none => rfl | some _ => cases hm
          subst this
          refine done_same p ?_ (.sliceNil 0 0)
          have := run_bounds2 (P := P) (w := w) (b := true) (len := 0) (cap := 0) (Nat.le_refl 0) (Nat.le_refl 0) hl2 hh2
          simp only [Instr.sliceAt, Instr.slice, Sem.run_bind, run_underlying hu, Result.andThen_ok, this, run_sizeOf ht, Sem.run_pure]
          simp
        · -- a known capacity
          rename_i b o
          cases hx with
          | slice hloc ho hn =>
            rename_i o' lc
            split at h
            · rename_i hmn
              obtain ⟨hb, h⟩ := brec_ok h
              obtain ⟨rfl, rfl⟩ := ok_inj h
              simp only [Bool.and_eq_true, Nat.ble_eq] at hb
              have : mx' = none := by cases hmx with | none => rfl
              subst this
              have hbd := run_bounds2 (P := P) (w := w) (b := true) (len := n) (cap := cap) hb.1 hb.2 hl2 hh2
              by_cases hc : cap = l
              · refine done_same (v' := .slice (some ⟨lc.blk, o', none⟩) (hh - l) (cap - l)) p ?_ (.slice hloc (.inr (by show cap - l = 0; omega)) (by show hh - l ≤ cap - l; omega))
                simp only [Instr.sliceAt, Instr.slice, Sem.run_bind, run_underlying hu, Result.andThen_ok, hbd, run_sizeOf ht, Sem.run_pure]
                rw [if_pos hc]
              · refine done_same (v' := .slice (some ⟨lc.blk, o' + l * ti.size, none⟩) (hh - l) (cap - l)) p ?_ (.slice hloc (.inl ?_) (by show hh - l ≤ cap - l; omega))
                · simp only [Instr.sliceAt, Instr.slice, Sem.run_bind, run_underlying hu, Result.andThen_ok, hbd, run_sizeOf ht, Sem.run_pure]
                  rw [if_neg hc]
                  simp [add_eq]
                · show o' + l * ti.size = lc.sh + (o + l * ti.size)
                  rcases ho with rfl | rfl
                  · omega
                  · omega
            · rename_i k0 m
              obtain ⟨hb, h⟩ := brec_ok h
              obtain ⟨rfl, rfl⟩ := ok_inj h
              simp only [Bool.and_eq_true, Nat.ble_eq] at hb
              have : mx' = some (.int k0 (Int.ofNat m)) := by cases hmx with | some hv => rw [int_of hv]
              subst this
              have hbd := run_bounds3 (P := P) (w := w) (len := n) (k0 := k0) hb.1.1 hb.1.2 hb.2 hl2 (hi_some hh1 rfl)
              by_cases hc : m = l
              · refine done_same (v' := .slice (some ⟨lc.blk, o', none⟩) (hh - l) (m - l)) p ?_ (.slice hloc (.inr (by show m - l = 0; omega)) (by show hh - l ≤ m - l; omega))
                simp only [Instr.sliceAt, Instr.slice, Sem.run_bind, run_underlying hu, Result.andThen_ok, hbd, run_sizeOf ht, Sem.run_pure]
                rw [if_pos hc]
              · refine done_same (v' := .slice (some ⟨lc.blk, o' + l * ti.size, none⟩) (hh - l) (m - l)) p ?_ (.slice hloc (.inl ?_) (by show hh - l ≤ m - l; omega))
                · simp only [Instr.sliceAt, Instr.slice, Sem.run_bind, run_underlying hu, Result.andThen_ok, hbd, run_sizeOf ht, Sem.run_pure]
                  rw [if_neg hc]
                  simp [add_eq]
                · show o' + l * ti.size = lc.sh + (o + l * ti.size)
                  rcases ho with rfl | rfl
                  · omega
                  · omega
            · cases h
        · -- an unknown capacity
          rename_i b o z
          cases hx with
          | sliceG hloc ho hn htot =>
            rename_i o' c' lc
            split at h
            · obtain ⟨hb, h⟩ := brec_ok h
              obtain ⟨rfl, rfl⟩ := ok_inj h
              simp only [Bool.and_eq_true, Nat.ble_eq, Nat.beq_eq] at hb
              obtain ⟨⟨hb1, hb2⟩, rfl⟩ := hb
              have : mx' = none := by cases hmx with | none => rfl
              subst this
              have hbd := run_bounds2 (P := P) (w := w) (b := true) (len := n) (cap := c') hb1 (by omega) hl2 hh2
              by_cases hc : c' = l
              · refine done_same (v' := .slice (some ⟨lc.blk, o', none⟩) (hh - l) (c' - l)) p ?_ (.sliceG hloc (.inr (by show hh - l = 0; omega)) (by show hh - l ≤ c' - l; omega) ?_)
                · simp only [Instr.sliceAt, Instr.slice, Sem.run_bind, run_underlying hu, Result.andThen_ok, hbd, run_sizeOf ht, Sem.run_pure]
                  rw [if_pos hc]
                · have : c' - l = 0 := by omega
                  rw [this]; omega
              · refine done_same (v' := .slice (some ⟨lc.blk, o' + l * ti.size, none⟩) (hh - l) (c' - l)) p ?_ (.sliceG hloc ?_ (by show hh - l ≤ c' - l; omega) ?_)
                · simp only [Instr.sliceAt, Instr.slice, Sem.run_bind, run_underlying hu, Result.andThen_ok, hbd, run_sizeOf ht, Sem.run_pure]
                  rw [if_neg hc]
                  simp [add_eq]
                · rcases ho with rfl | rfl
                  · left; show lc.sh + o + l * ti.size = lc.sh + (o + l * ti.size); omega
                  · right; show hh - l = 0; omega
                · have h1 : l * ti.size + (c' - l) * ti.size = c' * ti.size := by rw [← Nat.add_mul]; congr 1; omega
                  omega
            · rename_i k0 m
              obtain ⟨hb, h⟩ := brec_ok h
              obtain ⟨rfl, rfl⟩ := ok_inj h
              simp only [Bool.and_eq_true, Nat.ble_eq] at hb
              have : mx' = some (.int k0 (Int.ofNat m)) := by cases hmx with | some hv => rw [int_of hv]
              subst this
              have hbd := run_bounds3 (P := P) (w := w) (len := n) (cap := c') (k0 := k0) hb.1.1 hb.1.2 (by omega) hl2 (hi_some hh1 rfl)
              by_cases hc : m = l
              · refine done_same (v' := .slice (some ⟨lc.blk, o', none⟩) (hh - l) (m - l)) p ?_ (.slice hloc (.inr (by show m - l = 0; omega)) (by show hh - l ≤ m - l; omega))
                simp only [Instr.sliceAt, Instr.slice, Sem.run_bind, run_underlying hu, Result.andThen_ok, hbd, run_sizeOf ht, Sem.run_pure]
                rw [if_pos hc]
              · refine done_same (v' := .slice (some ⟨lc.blk, o' + l * ti.size, none⟩) (hh - l) (m - l)) p ?_ (.slice hloc (.inl ?_) (by show hh - l ≤ m - l; omega))
                · simp only [Instr.sliceAt, Instr.slice, Sem.run_bind, run_underlying hu, Result.andThen_ok, hbd, run_sizeOf ht, Sem.run_pure]
                  rw [if_neg hc]
                  simp [add_eq]
                · show o' + l * ti.size = lc.sh + (o + l * ti.size)
                  rcases ho with rfl | rfl
                  · omega
                  · omega
            · cases h
      · cases h
    · cases h
  · cases h

end Go.Ev
