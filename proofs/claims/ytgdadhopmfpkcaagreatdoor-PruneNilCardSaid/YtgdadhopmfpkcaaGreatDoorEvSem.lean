/- The machine's small steps, run. -/
import Derived.Test.YtgdadhopmfpkcaaGreatDoorEvRel
import Derived.Laws.Sem
import Derived.Laws.World
set_option linter.unusedVariables false
set_option linter.unusedSimpArgs false
namespace Go.Ev
open Go.RowKit

theorem tiOf_spec {P : Program} {t : TypeId} {ti : TI} (h : tiOf P t = some ti) :
    ∃ i, P.info? t = some i ∧ P.underlying t = some ti.und ∧ ti.size = i.size ∧ ti.agg = (match ti.und with | .struct _ | .array _ _ => true | _ => false) ∧ ti.zero = i.zero := by
  unfold tiOf at h
  cases hi : P.info? t with
  | none => simp [hi] at h
  | some i =>
    cases hu : P.underlying t with
    | none => simp [hi, hu] at h
    | some d =>
      simp only [hi, hu, Option.some.injEq] at h
      subst h
      exact ⟨i, rfl, rfl, rfl, rfl, rfl⟩

variable {P : Program} {w : World}

theorem run_typeInfo {t : TypeId} {i : TypeInfo} (h : P.info? t = some i) : (typeInfo t).run P w = .ok i w := by
  simp [typeInfo, h]
theorem run_underlying {t : TypeId} {d : TypeDesc} (h : P.underlying t = some d) : (underlying t).run P w = .ok d w := by
  simp [underlying, h]
theorem run_sizeOf {t : TypeId} {ti : TI} (h : tiOf P t = some ti) : (sizeOf t).run P w = .ok ti.size w := by
  obtain ⟨i, hi, _, hs, _⟩ := tiOf_spec h
  simp [sizeOf, run_typeInfo hi, hs]
theorem run_isAgg {t : TypeId} {ti : TI} (h : tiOf P t = some ti) : (isAgg t).run P w = .ok ti.agg w := by
  obtain ⟨i, _, hu, _, ha, _⟩ := tiOf_spec h
  rw [ha]
  simp only [isAgg, Sem.run_bind, run_underlying hu, Result.andThen_ok]
  cases ti.und <;> rfl
theorem run_zeroValue {t : TypeId} {ti : TI} {z : Value} (h : tiOf P t = some ti) (hz : ti.zero = some z) : (zeroValue t).run P w = .ok z w := by
  obtain ⟨i, hi, _, _, _, h2⟩ := tiOf_spec h
  have : i.zero = some z := by rw [← h2]; exact hz
  simp [zeroValue, run_typeInfo hi, this]

theorem run_load {a : Addr} {v : Value} (h : w.cell? a = some v) : (load a).run P w = .ok v w := by
  show (Sem.load .plain a .pure).run P w = _
  simp [Sem.run, h]

theorem add_block (a : Addr) (n : Nat) : (a.add n).block = a.block := by unfold Addr.add; split <;> rfl
theorem add_off (a : Addr) (n : Nat) : (a.add n).off = a.off + n := by unfold Addr.add; split <;> simp_all
theorem add_eq (b o n : Nat) : (Addr.mk b o none).add n = ⟨b, o + n, none⟩ := by unfold Addr.add; split <;> simp_all

theorem cell_of {b k : Nat} {C : Array Value} {e : TypeId} {fz : Nat × Nat} (h : w.heap[b]? = some (.cells C e fz)) : w.cell? ⟨b, k, none⟩ = C[k]? := by
  simp [World.cell?, h]

theorem run_loadCellsFrom {b o : Nat} {C : Array Value} {e : TypeId} {fz : Nat × Nat} (h : w.heap[b]? = some (.cells C e fz)) :
    ∀ (n i : Nat) (acc : Array Value), o + i + n ≤ C.size → (loadCellsFrom ⟨b, o, none⟩ i n acc).run P w = .ok (acc ++ C.extract (o + i) (o + i + n)) w := by
  intro n
  induction n with
  | zero =>
    intro i acc hs
    simp only [loadCellsFrom, Sem.run_pure]
    rw [show C.extract (o + i) (o + i + 0) = #[] by simp; omega]
    simp
  | succ n ih =>
    intro i acc hs
    have hc : w.cell? ((Addr.mk b o none).add i) = some (C[o + i]'(by omega)) := by
      rw [add_eq, cell_of h]; exact Array.getElem?_eq_getElem (by omega)
    simp only [loadCellsFrom, Sem.run_bind, run_load hc, Result.andThen_ok]
    rw [ih (i + 1) _ (by omega)]
    congr 1
    rw [Array.push_eq_append, Array.append_assoc]
    congr 1
    apply Array.ext
    · simp; omega
    · intro k h1 h2
      simp only [Array.getElem_append, Array.getElem_extract]
      split
      · rename_i hk
        have : k = 0 := by simp at hk; exact hk
        subst this; simp
      · rename_i hk
        simp at hk
        congr 1
        simp; omega

theorem run_loadCells {b o n : Nat} {C : Array Value} {e : TypeId} {fz : Nat × Nat} (h : w.heap[b]? = some (.cells C e fz)) (hs : o + n ≤ C.size) :
    (loadCells ⟨b, o, none⟩ n).run P w = .ok (C.extract o (o + n)) w := by
  unfold loadCells
  rw [run_loadCellsFrom h n 0 #[] (by omega)]
  simp

theorem run_store1 {b o : Nat} {v : Value} {C : Array Value} {e : TypeId} {fz : Nat × Nat} (h : w.heap[b]? = some (.cells C e fz)) (hs : o < C.size)
    (hf : ¬ (fz.1 ≤ o ∧ o < fz.2)) (hv : oneC v = true) : (store ⟨b, o, none⟩ v).run P w = .ok () (w.setCell ⟨b, o, none⟩ v) := by
  have hc : w.cell? ⟨b, o, none⟩ = some (C[o]) := by rw [cell_of h]; exact Array.getElem?_eq_getElem hs
  have hz : w.frozen? ⟨b, o, none⟩ = false := by
    simp only [World.frozen?, h]
    simpa using hf
  show (Sem.store .plain ⟨b, o, none⟩ v (.pure ())).run P w = _
  cases v <;> simp_all [Sem.run, oneC]

theorem setCell_one {b o : Nat} {v : Value} {C : Array Value} {e : TypeId} {fz : Nat × Nat} (h : w.heap[b]? = some (.cells C e fz)) :
    One b w (w.setCell ⟨b, o, none⟩ v) ∧ (w.setCell ⟨b, o, none⟩ v).heap[b]? = some (.cells (C.setIfInBounds o v) e fz) := by
  have hb : b < w.heap.size := (Array.getElem?_eq_some_iff.1 h).1
  refine ⟨⟨rfl, rfl, rfl, by simp [World.setCell], fun j hj => ?_⟩, ?_⟩
  · simp only [World.setCell, Array.getElem?_modify]; rw [if_neg (by omega)]
  · simp only [World.setCell, Array.getElem?_modify]
    rw [if_pos trivial, h]; simp

theorem One.refl (k : Nat) (w : World) : One k w w := ⟨rfl, rfl, rfl, rfl, fun _ _ => rfl⟩
theorem One.trans {k : Nat} {a b c : World} (h : One k a b) (g : One k b c) : One k a c :=
  ⟨g.os.trans h.os, g.tape.trans h.tape, g.output.trans h.output, g.size.trans h.size, fun j hj => (g.other j hj).trans (h.other j hj)⟩

/-- a row of cells laid over a block's -/
def over (C : Array Value) (o : Nat) : List Value → Array Value
  | [] => C
  | v :: l => over (C.setIfInBounds o v) (o + 1) l

theorem over_size : ∀ (l : List Value) (C : Array Value) (o : Nat), (over C o l).size = C.size
  | [], C, o => rfl
  | v :: l, C, o => by rw [over, over_size l]; simp

theorem over_get : ∀ (l : List Value) (C : Array Value) (o k : Nat), o + l.length ≤ C.size →
    (over C o l)[k]? = if o ≤ k ∧ k < o + l.length then l[k - o]? else C[k]?
  | [], C, o, k, _ => by rw [over, if_neg (by simp)]
  | v :: l, C, o, k, h => by
    simp only [List.length_cons] at h ⊢
    rw [over, over_get l _ _ _ (by simp; omega)]
    by_cases e : k = o
    · subst e
      rw [if_neg (by omega), if_pos (by omega)]
      simp [show k < C.size by omega]
    · by_cases e2 : o + 1 ≤ k ∧ k < o + 1 + l.length
      · rw [if_pos e2, if_pos (by omega)]
        obtain ⟨d, hd⟩ : ∃ d, k - o = d + 1 := ⟨k - o - 1, by omega⟩
        rw [hd, List.getElem?_cons_succ]
        congr 1; omega
      · rw [if_neg e2, if_neg (by omega), Array.getElem?_setIfInBounds, if_neg (by omega)]

theorem run_storeCells {b o : Nat} {e : TypeId} {fz : Nat × Nat} : ∀ (l : List Value) (i : Nat) (w : World) (C : Array Value),
    w.heap[b]? = some (.cells C e fz) → o + i + l.length ≤ C.size → (∀ k, k < C.size → ¬ (fz.1 ≤ k ∧ k < fz.2)) → (∀ v ∈ l, oneC v = true) →
    ∃ w', (storeCells ⟨b, o, none⟩ l i).run P w = .ok () w' ∧ One b w w' ∧ w'.heap[b]? = some (.cells (over C (o + i) l) e fz)
  | [], i, w, C, h, hs, hf, hv => ⟨w, by simp [storeCells], .refl _ _, by rw [over]; exact h⟩
  | v :: l, i, w, C, h, hs, hf, hv => by
    simp only [List.length_cons] at hs
    have h1 := run_store1 (P := P) (v := v) h (by omega : o + i < C.size) (hf _ (by omega)) (hv v (by simp))
    obtain ⟨h2, h3⟩ := setCell_one (o := o + i) (v := v) h
    obtain ⟨w', h4, h5, h6⟩ := run_storeCells (o := o) (e := e) (fz := fz) l (i + 1) _ (C.setIfInBounds (o + i) v) h3 (by rw [Array.size_setIfInBounds]; omega) (by simpa using hf) (fun x hx => hv x (by simp [hx]))
    refine ⟨w', ?_, h2.trans h5, ?_⟩
    · simp only [storeCells, Sem.run_bind, add_eq]
      rw [h1]; simpa using h4
    · rw [h6, over]; rfl

end Go.Ev
