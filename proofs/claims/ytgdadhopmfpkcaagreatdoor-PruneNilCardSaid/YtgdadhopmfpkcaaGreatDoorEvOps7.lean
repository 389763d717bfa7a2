/- append. -/
import Derived.Test.YtgdadhopmfpkcaaGreatDoorEvOps6
import Derived.Laws.Append
set_option linter.unusedVariables false
set_option linter.unusedSimpArgs false
namespace Go.Ev
open Go.RowKit

variable {P : Program} {B0 : Base} {H : Hid} {s s' : St} {ρ : Ren} {G : Hp} {w : World} {nx : Nx}

/-- the source of an append: its length, and its cells -/
theorem src_run {y y' : Value} {sz m : Nat} {vs : List Value} {s2 : St} (h : srcOf H sz y s = some (m, vs)) (hy : VR ρ y y') (p : Pre B0 H s s2 ρ G w) :
    (Builtin.lenOf y').run P w = .ok m w ∧ vs.length = m * sz ∧
    ∃ C : Array Value, VRs ρ vs C.toList ∧ ∀ w1 : World, w1.heap = w.heap → (Builtin.firstCells sz m y').run P w1 = .ok C w1 := by
  unfold srcOf at h
  split at h
  · cases h
    cases hy
    refine ⟨by simp [Builtin.lenOf], by simp, #[], .nil, fun w1 _ => by simp [Builtin.firstCells]⟩
  · rename_i b o sp n cap
    split at h
    · rename_i c k e hv
      split at h
      · rename_i l hl
        obtain ⟨rfl, rfl⟩ : n = m ∧ l = vs := by simpa using h
        obtain ⟨m', hm1, hm2, hm3⟩ := ldN_spec _ _ _ _ _ hl
        rw [List.append_nil] at hm1
        subst hm1
        have main : ∀ (lc : Loc) (o' c' : Nat), ρ b = some lc → (o' = lc.sh + o ∨ n = 0) → y' = .slice (some ⟨lc.blk, o', none⟩) n c' →
            (Builtin.lenOf y').run P w = .ok n w ∧ l.length = n * sz ∧ ∃ C : Array Value, VRs ρ l C.toList ∧ ∀ w1 : World, w1.heap = w.heap → (Builtin.firstCells sz n y').run P w1 = .ok C w1 := by
          intro lc o' c' hloc ho hy'
          subst hy'
          refine ⟨by simp [Builtin.lenOf], hm2, ?_⟩
          by_cases h0 : n * sz = 0
          · have : l = [] := List.eq_nil_of_length_eq_zero (by omega)
            subst this
            exact ⟨#[], .nil, fun w1 _ => by simp [Builtin.firstCells, h0, loadCells, loadCellsFrom]⟩
          · have ho : o' = lc.sh + o := by
              rcases ho with ho | ho
              · exact ho
              · subst ho; simp at h0
            obtain ⟨C, e', fz, h1, h2, h3, h4, h5⟩ := cells_of_vis p hv hloc
            have hb := bound_of_get h5 hm2 hm3 (by omega)
            refine ⟨_, vrs_of_cells h5 hm2 hm3 hb, fun w1 hw1 => ?_⟩
            simp only [Builtin.firstCells]
            rw [ho]
            exact run_loadCells (by rw [hw1]; exact h1) hb
        cases hy with
        | slice hloc ho hn =>
          rename_i o' lc
          refine main lc o' cap hloc ?_ rfl
          rcases ho with ho | ho
          · exact .inl ho
          · exact .inr (by omega)
        | sliceG hloc ho hn ht =>
          rename_i o' c' sz' lc
          exact main lc o' c' hloc ho rfl
      · cases h
    · cases h
  · rename_i b
    cases hb : Nat.beq sz 1 with
    | false => rw [hb] at h; cases h
    | true =>
      rw [hb] at h
      have h : some (b.data.toList.length, b.data.toList.map fun x => Value.int .u8 x.toNat) = some (m, vs) := h
      cases h
      cases hy
      have hsz : sz = 1 := by simpa [Nat.beq_eq] using hb
      subst hsz
      refine ⟨by simp [Builtin.lenOf], by simp, b.data.map fun x => .int .u8 x.toNat, ?_, fun w1 _ => by simp [Builtin.firstCells]⟩
      · have : ∀ l : List UInt8, VRs ρ (l.map fun x => Value.int .u8 x.toNat) (l.map fun x => Value.int .u8 x.toNat) := by
          intro l
          induction l with
          | nil => exact .nil
          | cons a l ih => exact .cons (.int _ _) ih
        simpa using this b.data.toList
  · cases h


/-- values that are each one cell -/
def ones (l : List Value) : Bool := l.all oneC

theorem ones_of {l l' : List Value} (h : VRs ρ l l') (ho : ones l = true) : ∀ v ∈ l', oneC v = true := by
  intro u hu
  obtain ⟨k, hk1, hk2⟩ := List.getElem_of_mem hu
  have hlen := h.length
  have hk3 : k < l.length := by omega
  have hg : l[k]? = some (l[k]) := List.getElem?_eq_getElem hk3
  obtain ⟨u', hu1, hu2⟩ := h.get hg
  rw [List.getElem?_eq_getElem hk1, hk2] at hu1
  cases hu1
  exact oneC_of hu2 (List.all_eq_true.1 ho _ (List.getElem_mem hk3))

structure AppendOk (P : Program) (t t2 e : TypeId) (te : TI) (i : TypeInfo) : Prop where
  ut : P.underlying t = some (.slice e)
  u2 : ∃ d, P.underlying t2 = some d ∧ ∀ k, d ≠ .int k
  he : tiOf P e = some te
  hi : P.info? e = some i

/-- within the capacity -/
theorem run_append_in {t t2 ty e : TypeId} {te : TI} {i : TypeInfo} {base : Option Addr} {n cap m : Nat} {y' : Value} {C : Array Value} (k : AppendOk P t t2 e te i)
    (hlen : (Builtin.lenOf y').run P w = .ok m w) (hle : n + m ≤ cap) (hsrc : (Builtin.firstCells te.size m y').run P w = .ok C w) :
    (Builtin.append_ ⟨[t, t2]⟩ ty ⟨[.slice base n cap, y']⟩).run P w = ((match base with | some a => storeCells (a.add (n * te.size)) C.toList | none => pure ()) >>= fun _ => pure (.slice base (n + m) cap) : Sem Value).run P w := by
  obtain ⟨d, hd, hnd⟩ := k.u2
  have hd2 : (∃ k, d = .int k) → False := fun ⟨k, h⟩ => hnd k h
  cases d <;> first | exact (hd2 ⟨_, rfl⟩).elim | skip
  all_goals
    simp only [Builtin.append_, List.getElem?_toArray, List.getElem?_cons_zero, List.getElem?_cons_succ, Sem.run_bind, run_underlying k.ut, run_underlying hd, Result.andThen_ok, run_sizeOf k.he, Sem.run_pure, Bool.false_eq_true, if_false, hlen, hle, if_true, Bool.not_false, hsrc]
    cases base <;> simp

variable {old new : List Value}
/-- beyond the capacity: a new block -/
theorem run_append_new {t t2 ty e : TypeId} {te : TI} {i : TypeInfo} {base : Option Addr} {n cap m : Nat} {y' : Value} (k : AppendOk P t t2 e te i)
    (hlen : (Builtin.lenOf y').run P w = .ok m w) (hgt : cap < n + m) (hbig : (n + m) * (i.bytes + 1) ≤ 4294967296)
    (hz : ∃ z, te.zero = some z)
    (hold : ∀ w1 : World, w1.heap = w.heap → ∃ C, (Builtin.firstCells te.size n (.slice base n cap)).run P w1 = .ok C w1 ∧ C.toList = old)
    (hsrc : ∀ w1 : World, w1.heap = w.heap → ∃ C, (Builtin.firstCells te.size m y').run P w1 = .ok C w1 ∧ C.toList = new) :
    ∃ (C : Array Value) (cap' : Nat) (w' : World), (Builtin.append_ ⟨[t, t2]⟩ ty ⟨[.slice base n cap, y']⟩).run P w = .ok (.slice (some ⟨w.heap.size, 0, none⟩) (n + m) cap') w' ∧
      w' = { w with heap := w.heap.push (.cells C e), drawn := w.drawn + 1 } ∧ n + m ≤ cap' ∧ ∃ rest, C.toList = old ++ new ++ rest ∧ rest.length = (cap' - (n + m)) * (match te.zero with | some z => z.cells.size | none => 0) := by
  obtain ⟨d, hd, hnd⟩ := k.u2
  obtain ⟨z, hz⟩ := hz
  have hd2 : (∃ k, d = .int k) → False := fun ⟨k, h⟩ => hnd k h
  have hle : ¬ n + m ≤ cap := by omega
  have hb1 : n + m ≤ 4294967296 := by
    have : (n + m) * 1 ≤ (n + m) * (i.bytes + 1) := Nat.mul_le_mul_left _ (by omega)
    omega
  have hfit : ¬ Builtin.nextslicecap (n + m) cap * i.bytes > 2 ^ 48 := by
    have h1 := nextslicecap_le (need := n + m) (old := cap) hgt
    have h2 : Builtin.nextslicecap (n + m) cap * i.bytes ≤ 2 * (n + m) * (i.bytes + 1) := Nat.mul_le_mul h1 (by omega)
    have h3 : 2 * (n + m) * (i.bytes + 1) = 2 * ((n + m) * (i.bytes + 1)) := by rw [Nat.mul_assoc]
    omega
  have hmax : ¬ (((n + m : Nat) : Int) > IntKind.i64.max ∧ (False ∨ i.bytes = 0)) := by
    have : IntKind.i64.max = 9223372036854775807 := by decide
    rw [this]; omega
  generalize hw1 : ({ w with drawn := w.drawn + 1 } : World) = w1
  have hheap : w1.heap = w.heap := by rw [← hw1]
  obtain ⟨C1, hC1, hC1'⟩ := hold w1 hheap
  obtain ⟨C2, hC2, hC2'⟩ := hsrc w1 hheap
  obtain ⟨newCap, hcap, hcap2⟩ : ∃ newCap, (choose (.appendCap (n + m) cap e)).run P w = .ok newCap w1 ∧ n + m ≤ newCap := by
    refine ⟨_, by rw [run_choose]; simp only [Question.forced, Bool.false_eq_true, if_false]; rw [hw1], ?_⟩
    simp [Question.cut]
  refine ⟨C1 ++ C2 ++ Builtin.zeroCells z.cells (newCap - (n + m)), newCap, _, ?_, rfl, hcap2, (Builtin.zeroCells z.cells (newCap - (n + m))).toList, ?_, ?_⟩
  · cases d <;> first | exact (hd2 ⟨_, rfl⟩).elim | skip
    all_goals
      simp only [Builtin.append_, List.getElem?_toArray, List.getElem?_cons_zero, List.getElem?_cons_succ, Sem.run_bind, run_underlying k.ut, run_underlying hd, Result.andThen_ok, run_sizeOf k.he, Sem.run_pure, Bool.false_eq_true, if_false, hlen, hle, run_typeInfo k.hi, hfit, hmax, hcap, run_askRoom, hC1, hC2, Bool.not_false, if_true, run_zeroValue k.he hz, run_newRow]
      rw [← hw1]
  · simp [hC1', hC2']
  · simp [Builtin.zeroCells, hz]

theorem objR_joined {l' : Loc} {t c : Tr Value} {o nsz n' : Nat} {vs : List Value} {e e' : TypeId} {C' : Array Value} {fz : Nat × Nat}
    (hcont : ∀ k v, t.get k = some v → (k < nsz ∧ c.get (o + k) = some v) ∨ (nsz ≤ k ∧ vs[k - nsz]? = some v))
    (hold : ∀ k v, k < nsz → c.get (o + k) = some v → ∃ v', C'[l'.sh + k]? = some v' ∧ VR ρ v v')
    (hnew : ∀ k v, vs[k]? = some v → ∃ v', C'[l'.sh + nsz + k]? = some v' ∧ VR ρ v v')
    (hn : n' = nsz + vs.length) (hsz : C'.size = l'.tot) (hb : l'.sh + n' ≤ l'.tot) (hf : ∀ k, k < l'.tot → ¬ (fz.1 ≤ k ∧ k < fz.2)) :
    ObjR ρ l' (.cells t n' e) (.cells C' e' fz) := by
  refine ⟨C', e', fz, rfl, hsz, hb, hf, fun k v hk => ?_⟩
  rcases hcont k v hk with ⟨h1, h2⟩ | ⟨h1, h2⟩
  · exact ⟨by omega, hold k v h1 h2⟩
  · have hlt := (List.getElem?_eq_some_iff.1 h2).1
    obtain ⟨v', h3, h4⟩ := hnew _ v h2
    refine ⟨by omega, v', ?_, h4⟩
    rw [← h3]
    congr 1
    omega

theorem Pre.drawn {s2 : St} (p : Pre B0 H s s2 ρ G w) (n : Nat) : Pre B0 H s s2 ρ G { w with drawn := n } := ⟨p.sub, p.wf, p.fresh, p.sim.drawn n⟩

theorem Post.drawn {s2 : St} {ρ' : Ren} {w' : World} {n : Nat} (q : Post B0 H s s2 ρ ρ' G { w with drawn := n } w') : Post B0 H s s2 ρ ρ' G w w' :=
  ⟨q.ext, q.new, q.sim, ⟨q.below.os, q.below.tape, q.below.output, q.below.size, q.below.block⟩, q.fr⟩

/-- the source's cells, as they come to lie in the new row -/
theorem new_get {vs : List Value} {l : List Value} (h : VRs ρ vs l) {C' : Array Value} {at_ : Nat} (hC : ∀ k, k < l.length → C'[at_ + k]? = l[k]?) :
    ∀ k v, vs[k]? = some v → ∃ v', C'[at_ + k]? = some v' ∧ VR ρ v v' := by
  intro k v hk
  obtain ⟨v', h1, h2⟩ := h.get hk
  exact ⟨v', by rw [hC k (List.getElem?_eq_some_iff.1 h1).1]; exact h1, h2⟩

/-- beyond the capacity, the state not yet told -/
theorem append_beyond {s1 : St} {t t2 ty e : TypeId} {te : TI} {i : TypeInfo} {z : Value} {base' : Option Addr} {n cap' m : Nat} {y' : Value} {vs l' : List Value} {tr c : Tr Value} {o : Nat}
    (k : AppendOk P t t2 e te i) (hz : te.zero = some z) (hzs : (vcells z).length = te.size) {ρ1 : Ren} {G1 : Hp}
    (p : Pre B0 H s1 (newObj s1 (.cells tr ((n + m) * te.size) e)) ρ1 G1 w)
    (hlen : (Builtin.lenOf y').run P w = .ok m w) (hgt : cap' < n + m) (hbig : (n + m) * (i.bytes + 1) ≤ 4294967296)
    (hsrc : ∀ w1 : World, w1.heap = w.heap → ∃ C, (Builtin.firstCells te.size m y').run P w1 = .ok C w1 ∧ C.toList = l')
    (hvs : VRs ρ1 vs l') (hvl : vs.length = m * te.size)
    {old : List Value} (hold : ∀ w1 : World, w1.heap = w.heap → ∃ C, (Builtin.firstCells te.size n (.slice base' n cap')).run P w1 = .ok C w1 ∧ C.toList = old) (hol : old.length = n * te.size)
    (hcont : ∀ k v, tr.get k = some v → (k < n * te.size ∧ c.get (o + k) = some v) ∨ (n * te.size ≤ k ∧ vs[k - n * te.size]? = some v))
    (hog : ∀ k v, k < n * te.size → c.get (o + k) = some v → ∃ v', old[k]? = some v' ∧ VR ρ1 v v') :
    ∃ ρ' w' v', (Builtin.append_ ⟨[t, t2]⟩ ty ⟨[.slice base' n cap', y']⟩).run P w = .ok v' w' ∧ VR ρ' (.slice (some ⟨s1.next, 0, some te.size⟩) (n + m) (n + m)) v' ∧
      Post B0 H s1 (newObj s1 (.cells tr ((n + m) * te.size) e)) ρ1 ρ' G1 w w' := by
  obtain ⟨C, newCap, w', h1, h2, h3, rest, h4, h5⟩ := run_append_new (ty := ty) k hlen hgt hbig ⟨z, hz⟩ hold hsrc
  have hll := hvs.length
  have hrest : rest.length = (newCap - (n + m)) * te.size := by
    rw [h5, hz]
    show _ * z.cells.size = _
    rw [← hzs, vcells_cells, Array.length_toList]
  have hsize : C.size = newCap * te.size := by
    have e1 : C.size = n * te.size + m * te.size + (newCap - (n + m)) * te.size := by
      rw [← Array.length_toList, h4]
      simp only [List.length_append, hol, hrest, ← hll, hvl]
    rw [e1, ← Nat.add_mul, ← Nat.add_mul]
    congr 1; omega
  have hle : RenLe ρ1 (ρ1.put s1.next ⟨w.heap.size, 0, C.size⟩) := Ren.le_put (p.fresh s1.next (Nat.le_refl _) (Nat.lt_succ_self _))
  refine ⟨ρ1.put s1.next ⟨w.heap.size, 0, C.size⟩, w', _, h1, .sliceG (l := ⟨w.heap.size, 0, C.size⟩) Ren.put_same (.inl rfl) h3 (by show 0 + newCap * te.size ≤ C.size; omega), ?_⟩
  subst h2
  refine Post.drawn (n := w.drawn + 1) (Post.new' (w := { w with drawn := w.drawn + 1 }) (obj := .cells C e) C.size (p.drawn (w.drawn + 1)) ?_)
  have hold2 : ∀ k, k < n * te.size → C[k]? = old[k]? := by
    intro k hk
    rw [← Array.getElem?_toList, h4, List.append_assoc, List.getElem?_append_left (by omega)]
  have hnew2 : ∀ k, k < l'.length → C[n * te.size + k]? = l'[k]? := by
    intro k hk
    rw [← Array.getElem?_toList, h4, List.append_assoc, List.getElem?_append_right (by omega), List.getElem?_append_left (by omega)]
    congr 1; omega
  refine objR_joined hcont ?_ ?_ ?_ rfl ?_ ?_
  · intro k v hk hg
    obtain ⟨v', a, b⟩ := hog k v hk hg
    exact ⟨v', by show C[0 + k]? = _; rw [Nat.zero_add, hold2 k hk]; exact a, b.mono hle⟩
  · refine new_get (hvs.mono hle) fun k hk => ?_
    show C[0 + n * te.size + k]? = _
    rw [Nat.zero_add]; exact hnew2 k hk
  · rw [hvl, Nat.add_mul]
  · show 0 + (n + m) * te.size ≤ C.size
    have : (n + m) * te.size ≤ newCap * te.size := Nat.mul_le_mul_right _ h3
    omega
  · intro k _; simp

theorem cont_ld {c : Tr Value} {o nsz : Nat} {vs l : List Value} (h : ldN c o nsz vs = some l) :
    l.length = nsz + vs.length ∧ ∀ k v, (trOf l 0 .lf).get k = some v → (k < nsz ∧ c.get (o + k) = some v) ∨ (nsz ≤ k ∧ vs[k - nsz]? = some v) := by
  obtain ⟨m', h1, h2, h3⟩ := ldN_spec _ _ _ _ _ h
  subst h1
  refine ⟨by simp [h2], fun k v hk => ?_⟩
  rw [get_trOf] at hk
  by_cases e : 0 ≤ k ∧ k < 0 + (m' ++ vs).length
  · rw [if_pos e, Nat.sub_zero] at hk
    by_cases e2 : k < nsz
    · rw [List.getElem?_append_left (by omega)] at hk
      exact .inl ⟨e2, by rw [h3 k e2]; exact hk⟩
    · rw [List.getElem?_append_right (by omega), h2] at hk
      exact .inr ⟨by omega, hk⟩
  · rw [if_neg e] at hk; simp at hk

theorem cont_st {c : Tr Value} {nsz : Nat} {vs : List Value} (hb : ∀ k v, c.get k = some v → k < nsz) :
    ∀ k v, (stN nsz vs 0 c).get k = some v → (k < nsz ∧ c.get (0 + k) = some v) ∨ (nsz ≤ k ∧ vs[k - nsz]? = some v) := by
  intro k v hk
  rw [get_stN] at hk
  by_cases e : nsz + 0 ≤ k ∧ k < nsz + 0 + vs.length
  · rw [if_pos e, Nat.add_zero] at hk
    exact .inr ⟨by omega, hk⟩
  · rw [if_neg e] at hk
    exact .inl ⟨hb k v hk, by rw [Nat.zero_add]; exact hk⟩

theorem s_append {t t2 ty e : TypeId} {te : TI} {i : TypeInfo} {z : Value} {x x' y y' : Value} (h : doAppend H e te.size (P.bytesOf e) x y s = .ok nx s') (hx : VR ρ x x') (hy : VR ρ y y') (p : Pre B0 H s s' ρ G w)
    (k : AppendOk P t t2 e te i) (hz : te.zero = some z) (hzs : (vcells z).length = te.size) : Done P B0 H s s' ρ G w nx (semV (Builtin.append_ ⟨[t, t2]⟩ ty ⟨[x', y']⟩)) := by
  unfold doAppend at h
  split at h
  · rename_i base n cap
    split at h
    · rename_i m vs hs
      obtain ⟨hlen, hvl, C0, hvs, hsrc⟩ := src_run hs hy p
      have hC0 := hsrc w rfl
      have hsrc2 : ∀ w1 : World, w1.heap = w.heap → ∃ C, (Builtin.firstCells te.size m y').run P w1 = .ok C w1 ∧ C.toList = C0.toList := fun w1 hw1 => ⟨C0, hsrc w1 hw1, rfl⟩
      obtain ⟨hg, h⟩ := brec_ok h
      simp only [Bool.and_eq_true, growOk, Nat.ble_eq] at hg
      obtain ⟨hbig, hones⟩ := hg
      rw [bytesOf_eq k.hi] at hbig
      have hmone := ones_of hvs hones
      have hlen0 := hvs.length
      cases hm : Nat.beq m 0 with
      | true =>
        rw [hm] at h
        have hm0 : m = 0 := by simpa [Nat.beq_eq] using hm
        subst hm0
        have hx2 : nx = .val (.slice base n cap) ∧ s' = s := by
          cases base with
          | none => obtain ⟨_, h⟩ := brec_ok h; obtain ⟨rfl, rfl⟩ := ok_inj h; exact ⟨rfl, rfl⟩
          | some a => obtain ⟨rfl, rfl⟩ := ok_inj h; exact ⟨rfl, rfl⟩
        obtain ⟨rfl, rfl⟩ := hx2
        have hnil : C0.toList = [] := List.eq_nil_of_length_eq_zero (by omega)
        obtain ⟨b', c', rfl, hnc⟩ : ∃ b' c', x' = .slice b' n c' ∧ n ≤ c' := by
          cases hx with
          | sliceNil => exact ⟨_, _, rfl, by
              obtain ⟨hb, _⟩ := brec_ok h
              simp only [Bool.and_eq_true, Nat.beq_eq] at hb
              omega⟩
          | slice _ _ hn => exact ⟨_, _, rfl, hn⟩
          | sliceG _ _ hn _ => exact ⟨_, _, rfl, hn⟩
        refine done_same p ?_ hx
        rw [run_append_in k hlen (by omega) hC0, hnil]
        cases b' <;> simp [storeCells]
      | false =>
        rw [hm] at h
        have hm0 : m ≠ 0 := by intro e0; rw [e0] at hm; cases hm
        split at h
        · -- nil
          obtain ⟨hb, h9⟩ := brec_ok h
          clear h
          simp only [Bool.and_eq_true, Nat.beq_eq] at hb
          obtain ⟨hn0, hc0⟩ := hb
          obtain ⟨hnx, hs'⟩ := ok_inj h9
          subst hnx hs' hn0 hc0
          cases hx
          have p' : Pre B0 H s (newObj s (.cells (trOf vs 0 .lf) ((0 + m) * te.size) e)) ρ G w := by rw [Nat.zero_add]; exact p
          have hcont : ∀ k' v, (trOf vs 0 .lf).get k' = some v → (k' < 0 * te.size ∧ (Tr.lf : Tr Value).get (0 + k') = some v) ∨ (0 * te.size ≤ k' ∧ vs[k' - 0 * te.size]? = some v) := by
            intro k' v hk
            rw [get_trOf] at hk
            by_cases e0 : 0 ≤ k' ∧ k' < 0 + vs.length
            · rw [if_pos e0] at hk; exact .inr ⟨by omega, by simpa using hk⟩
            · rw [if_neg e0] at hk; simp at hk
          obtain ⟨ρ', w', v', h1, h2, h3⟩ := append_beyond (ty := ty) (c := .lf) (o := 0) (l' := C0.toList) (vs := vs) (old := []) (n := 0) (cap' := 0) (base' := none) k hz hzs p' hlen (by omega) hbig hsrc2
            hvs hvl (fun w1 _ => ⟨#[], by simp [Builtin.firstCells], rfl⟩) (by simp) hcont (fun k' v hk _ => by simp at hk)
          rw [Nat.zero_add] at h2 h3
          exact done_post h1 h2 h3
        · -- a known capacity
          rename_i b o _h0
          cases hx with
          | slice hloc ho hn =>
            rename_i o' lc
            split at h
            · rename_i c kk e' hvis
              obtain ⟨C, e2, fz, h1, h2, h3, h4, h5⟩ := cells_of_vis p hvis hloc
              cases hcap : Nat.ble (n + m) cap with
              | true =>
                rw [hcap] at h
                have hle : n + m ≤ cap := by simpa [Nat.ble_eq] using hcap
                obtain ⟨hroom, h9⟩ := brec_ok h
                clear h
                obtain ⟨hnx, hs'⟩ := ok_inj h9
                subst hnx hs'
                have hroom : o + cap * te.size ≤ kk := by simpa [Nat.ble_eq] using hroom
                have ho : o' = lc.sh + o := by
                  rcases ho with ho | ho
                  · exact ho
                  · omega
                subst ho
                have hfit : n * te.size + m * te.size ≤ cap * te.size := by rw [← Nat.add_mul]; exact Nat.mul_le_mul_right _ hle
                obtain ⟨w', h6, h7, h8⟩ := run_storeCells (P := P) (o := lc.sh + o + n * te.size) C0.toList 0 w C h1 (by omega) (by rw [h2]; exact h4) hmone
                refine done_post (w' := w') (ρ' := ρ) ?_ (.slice hloc (.inl rfl) hle) (Post.set' p hvis hloc h7 h8 ?_)
                · rw [run_append_in k hlen hle hC0]
                  simp only [add_eq, Sem.run_bind, h6, Result.andThen_ok, Sem.run_pure]
                · have := ObjR.store (e := e') (e' := e2) (o := o + n * te.size) h2 h3 h4 h5 hvs (by omega)
                  rw [show lc.sh + (o + n * te.size) = lc.sh + o + n * te.size + 0 by omega] at this
                  exact this
              | false =>
                rw [hcap] at h
                have hgt : cap < n + m := by
                  rcases Nat.lt_or_ge cap (n + m) with e0 | e0
                  · exact e0
                  · have e1 : Nat.ble (n + m) cap = true := by rw [Nat.ble_eq]; exact e0
                    rw [hcap] at e1; cases e1
                split at h
                · rename_i l hl
                  obtain ⟨hnx, hs'⟩ := ok_inj h
                  subst hnx hs'
                  obtain ⟨hll, hcont⟩ := cont_ld hl
                  obtain ⟨m', hm1, hm2, hm3⟩ := ldN_spec _ _ _ _ _ hl
                  have hold : ∃ Co : Array Value, Co.size = n * te.size ∧ (∀ w1 : World, w1.heap = w.heap → (Builtin.firstCells te.size n (.slice (some ⟨lc.blk, o', none⟩) n cap)).run P w1 = .ok Co w1) ∧
                      ∀ k' v, k' < n * te.size → c.get (o + k') = some v → ∃ v', Co.toList[k']? = some v' ∧ VR ρ v v' := by
                    by_cases h0 : n * te.size = 0
                    · exact ⟨#[], by simp [h0], fun w1 _ => by simp [Builtin.firstCells, h0, loadCells, loadCellsFrom], fun k' v hk => by omega⟩
                    · have ho : o' = lc.sh + o := by
                        rcases ho with ho | ho
                        · exact ho
                        · have : n = 0 := by omega
                          subst this; simp at h0
                      subst ho
                      have hb := bound_of_get h5 hm2 hm3 (by omega)
                      refine ⟨C.extract (lc.sh + o) (lc.sh + o + n * te.size), by simp; omega, fun w1 hw1 => ?_, fun k' v hk hget => ?_⟩
                      · simp only [Builtin.firstCells]
                        exact run_loadCells (by rw [hw1]; exact h1) hb
                      · obtain ⟨_, v', a, r⟩ := h5 _ _ hget
                        refine ⟨v', ?_, r⟩
                        rw [extract_list, List.getElem?_take, if_pos hk, List.getElem?_drop, Array.getElem?_toList, ← a]
                        congr 1; omega
                  obtain ⟨Co, hCo1, hCo2, hCo3⟩ := hold
                  obtain ⟨ρ', w', v', q1, q2, q3⟩ := append_beyond (ty := ty) (c := c) (o := o) (l' := C0.toList) (vs := vs) (old := Co.toList) (n := n) (cap' := cap) k hz hzs p hlen hgt hbig hsrc2
                    hvs hvl (fun w1 hw1 => ⟨Co, hCo2 w1 hw1, rfl⟩) (by simp [hCo1]) hcont hCo3
                  exact done_post q1 q2 q3
                · cases h
            · cases h
        · -- an unknown capacity
          rename_i b o zz _h0
          cases hx with
          | sliceG hloc ho hn htot =>
            rename_i o' c' lc
            split at h
            · rename_i c kk e' hvis
              obtain ⟨C, e2, fz, h1, h2, h3, h4, h5⟩ := cells_of_vis p hvis hloc
              obtain ⟨hzz, h9⟩ := brec_ok h
              clear h _h0
              have hzz : zz = te.size := by simpa [Nat.beq_eq] using hzz
              subst hzz
              -- the new tree
              have hnew : ∃ tr : Tr Value, nx = .val (.slice (some ⟨s.next, 0, some te.size⟩) (n + m) (n + m)) ∧ s' = newObj (setObj s b none) (.cells tr ((n + m) * te.size) e) ∧
                  (∀ k' v, tr.get k' = some v → (k' < n * te.size ∧ c.get (o + k') = some v) ∨ (n * te.size ≤ k' ∧ vs[k' - n * te.size]? = some v)) ∧
                  (0 < n * te.size → lc.sh + o + n * te.size ≤ C.size) := by
                cases hfast : (Nat.beq o 0 && Nat.beq (n * te.size) kk) with
                | true =>
                  rw [hfast] at h9
                  simp only [Bool.and_eq_true, Nat.beq_eq] at hfast
                  obtain ⟨ho0, hk0⟩ := hfast
                  obtain ⟨hnx, hs'⟩ := ok_inj h9
                  refine ⟨_, hnx.symm, hs'.symm, ?_, fun _ => by omega⟩
                  subst ho0
                  rw [hk0]
                  exact cont_st fun k' v hk => (h5 k' v hk).1
                | false =>
                  rw [hfast] at h9
                  split at h9
                  · rename_i l hl
                    obtain ⟨hnx, hs'⟩ := ok_inj h9
                    obtain ⟨m', hm1, hm2, hm3⟩ := ldN_spec _ _ _ _ _ hl
                    exact ⟨_, hnx.symm, hs'.symm, (cont_ld hl).2, fun h0 => bound_of_get h5 hm2 hm3 h0⟩
                  · cases h9
              obtain ⟨tr, hnx, hs', hcont, hbound⟩ := hnew
              subst hnx hs'
              have hoff : 0 < n * te.size → o' = lc.sh + o := by
                intro h0
                rcases ho with ho | ho
                · exact ho
                · subst ho; simp at h0
              by_cases hle : n + m ≤ c'
              · -- in place
                have hfit : n * te.size + m * te.size ≤ c' * te.size := by rw [← Nat.add_mul]; exact Nat.mul_le_mul_right _ hle
                obtain ⟨w', h6, h7, h8⟩ := run_storeCells (P := P) (o := o' + n * te.size) C0.toList 0 w C h1 (by omega) (by rw [h2]; exact h4) hmone
                have hle' : RenLe ρ (ρ.put s.next ⟨lc.blk, o', lc.tot⟩) := Ren.le_put (p.fresh s.next (Nat.le_refl _) (Nat.lt_succ_self _))
                refine done_post (w' := w') (ρ' := ρ.put s.next ⟨lc.blk, o', lc.tot⟩) ?_ (.sliceG (o' := o') (c' := c') (l := ⟨lc.blk, o', lc.tot⟩) Ren.put_same (.inl (by simp)) hle htot) (Post.move p hvis hloc rfl h7 h8 ?_)
                · rw [run_append_in k hlen hle hC0]
                  simp only [add_eq, Sem.run_bind, h6, Result.andThen_ok, Sem.run_pure]
                · refine objR_joined hcont ?_ ?_ (by rw [hvl, Nat.add_mul]) (by rw [over_size]; exact h2) ?_ h4
                  · intro k' v hk hget
                    obtain ⟨_, v', a, r⟩ := h5 _ _ hget
                    refine ⟨v', ?_, r.mono hle'⟩
                    show (over C (o' + n * te.size + 0) C0.toList)[o' + k']? = _
                    rw [over_get _ _ _ _ (by omega), if_neg (by omega), hoff (by omega), ← a]
                    congr 1; omega
                  · refine new_get (hvs.mono hle') fun k' hk => ?_
                    show (over C (o' + n * te.size + 0) C0.toList)[o' + n * te.size + k']? = _
                    rw [over_get _ _ _ _ (by omega), if_pos (by omega)]
                    congr 1; omega
                  · show o' + (n + m) * te.size ≤ lc.tot
                    rw [Nat.add_mul]; omega
              · -- a new block
                have q0 : Post B0 H s (setObj s b none) ρ ρ G w w := Post.kill p.sub p.sim hvis
                have p1 : Pre B0 H (setObj s b none) (newObj (setObj s b none) (.cells tr ((n + m) * te.size) e)) ρ (upd G H s (setObj s b none)) w := p.next q0
                have hold : ∃ Co : Array Value, Co.size = n * te.size ∧ (∀ w1 : World, w1.heap = w.heap → (Builtin.firstCells te.size n (.slice (some ⟨lc.blk, o', none⟩) n c')).run P w1 = .ok Co w1) ∧
                    ∀ k' v, k' < n * te.size → c.get (o + k') = some v → ∃ v', Co.toList[k']? = some v' ∧ VR ρ v v' := by
                  by_cases h0 : n * te.size = 0
                  · exact ⟨#[], by simp [h0], fun w1 _ => by simp [Builtin.firstCells, h0, loadCells, loadCellsFrom], fun k' v hk => by omega⟩
                  · have ho := hoff (by omega)
                    subst ho
                    have hb := hbound (by omega)
                    refine ⟨C.extract (lc.sh + o) (lc.sh + o + n * te.size), by simp; omega, fun w1 hw1 => ?_, fun k' v hk hget => ?_⟩
                    · simp only [Builtin.firstCells]
                      exact run_loadCells (by rw [hw1]; exact h1) hb
                    · obtain ⟨_, v', a, r⟩ := h5 _ _ hget
                      refine ⟨v', ?_, r⟩
                      rw [extract_list, List.getElem?_take, if_pos hk, List.getElem?_drop, Array.getElem?_toList, ← a]
                      congr 1; omega
                obtain ⟨Co, hCo1, hCo2, hCo3⟩ := hold
                obtain ⟨ρ', w', v', q1, q2, q3⟩ := append_beyond (ty := ty) (c := c) (o := o) (l' := C0.toList) (vs := vs) (old := Co.toList) (n := n) (cap' := c') k hz hzs p1 hlen (by omega) hbig hsrc2
                  hvs hvl (fun w1 hw1 => ⟨Co, hCo2 w1 hw1, rfl⟩) (by simp [hCo1]) hcont hCo3
                exact done_post q1 q2 (q0.trans q3)
            · cases h
    · cases h
  · cases h

end Go.Ev
