/- Maps written, new values. -/
import Derived.Test.YtgdadhopmfpkcaaGreatDoorEvOps4
set_option linter.unusedVariables false
set_option linter.unusedSimpArgs false
namespace Go.Ev
open Go.RowKit

variable {P : Program} {B0 : Base} {H : Hid} {s s' : St} {ρ : Ren} {G : Hp} {w : World} {nx : Nx}

theorem run_setMap {r : Nat} {es : Array MapEntry} {c : Nat} {o : Obj} (h : w.heap[r]? = some (.map es c)) : (Go.setObj r o).run P w = .ok () { w with heap := w.heap.setIfInBounds r o } := by
  show (Sem.setObj r o (.pure ())).run P w = _
  simp [Sem.run, h]

theorem one_setObj {r : Nat} {o x : Obj} (h : w.heap[r]? = some x) : One r w { w with heap := w.heap.setIfInBounds r o } ∧ ({ w with heap := w.heap.setIfInBounds r o } : World).heap[r]? = some o := by
  have hr : r < w.heap.size := (Array.getElem?_eq_some_iff.1 h).1
  refine ⟨⟨rfl, rfl, rfl, by simp, fun j hj => ?_⟩, ?_⟩
  · simp only [Array.getElem?_setIfInBounds]; rw [if_neg (by omega)]
  · simp only [Array.getElem?_setIfInBounds]; rw [if_pos trivial, if_pos hr]

theorem run_stays {d : TypeDesc} {k : Value} (hf : keyFits d k = true) : (Instr.keyThatStays k k).run P w = .ok k w := by
  have : Instr.sameBits 10000 k k = true := by
    unfold keyFits at hf
    split at hf <;> first | exact absurd hf (by decide) | simp [Instr.sameBits, bytes_eq]
  simp [Instr.keyThatStays, this]

theorem EsR.mod {k v v' : Value} (hk : VR ρ k k) (hv : VR ρ v v') : ∀ {l l' : List MapEntry}, EsR ρ l l' → ∀ i, EsR ρ (modE i (fun e => { e with key := k, val := v }) l) (l'.modify i (fun e => { e with key := k, val := v' }))
  | _, _, .nil, i => by simp [modE]; exact .nil
  | _, _, .cons a b c t, 0 => by simp [modE]; exact .cons hk hv c t
  | _, _, .cons a b c t, i + 1 => by simp [modE]; exact .cons a b c (EsR.mod hk hv t i)

theorem EsR.del : ∀ {l l' : List MapEntry}, EsR ρ l l' → ∀ i, EsR ρ (delE i l) (l'.eraseIdx i)
  | _, _, .nil, i => by simp [delE]; exact .nil
  | _, _, .cons a b c t, 0 => by simp [delE]; exact t
  | _, _, .cons a b c t, i + 1 => by simp [delE]; exact .cons a b c (EsR.del t i)

theorem s_update {mt kt et : TypeId} {kd : TypeDesc} {m m' k k' v v' : Value} (h : doUpdate H kd m k v s = .ok nx s') (hm : VR ρ m m') (hk : VR ρ k k') (hv : VR ρ v v') (p : Pre B0 H s s' ρ G w)
    (hu : P.underlying mt = some (.map kt et)) (hku : P.underlying kt = some kd) : Done P B0 H s s' ρ G w nx (semU (Instr.mapUpdate mt m' k' v')) := by
  unfold doUpdate at h
  obtain ⟨hf, h⟩ := brec_ok h
  have := keyFits_ground hf hk
  subst this
  split at h
  · rename_i r
    cases hm with
    | map hl =>
      rename_i l
      split at h
      · rename_i es c hvis
        obtain ⟨es', h1, h2⟩ := map_of_vis p hvis hl
        split at h
        · rename_i j u hfk
          obtain ⟨rfl, rfl⟩ := ok_inj h
          obtain ⟨r', h3, h4⟩ := findNow_eq hf h2 0 hfk
          cases h4 with
          | some hv' hi hlt =>
            rename_i u'
            obtain ⟨e', he1, he2⟩ := hi
            rw [Nat.sub_zero, Array.getElem?_toList] at he1
            obtain ⟨ho1, ho2⟩ := one_setObj (o := .map (es'.modify j fun e => { e with key := k', val := v' }) c) h1
            refine done_skip (ρ' := ρ) (w' := { w with heap := w.heap.setIfInBounds l.blk (.map (es'.modify j fun e => { e with key := k', val := v' }) c) }) ?_ (Post.set' p hvis hl ho1 ho2 ?_)
            · simp only [Instr.mapUpdate, Sem.run_bind, run_underlying hu, Result.andThen_ok, run_getMap h1, run_checkKey hku hf, run_findKey hku h3, he1, Option.map_some, Option.getD_some, he2, run_stays hf]
              exact run_setMap h1
            · refine ⟨_, rfl, ?_⟩
              rw [Array.toList_modify]
              exact EsR.mod hk hv h2 j
        · rename_i hfk
          obtain ⟨rfl, rfl⟩ := ok_inj h
          obtain ⟨r', h3, h4⟩ := findNow_eq hf h2 0 hfk
          cases h4
          obtain ⟨ho1, ho2⟩ := one_setObj (o := .map (es'.push { key := k', val := v', born := c }) (c + 1)) h1
          refine done_skip (ρ' := ρ) (w' := { w with heap := w.heap.setIfInBounds l.blk (.map (es'.push { key := k', val := v', born := c }) (c + 1)) }) ?_ (Post.set' p hvis hl ho1 ho2 ?_)
          · simp only [Instr.mapUpdate, Sem.run_bind, run_underlying hu, Result.andThen_ok, run_getMap h1, run_checkKey hku hf, run_findKey hku h3]
            exact run_setMap h1
          · refine ⟨_, rfl, ?_⟩
            rw [Array.toList_push]
            exact h2.append (.cons hk hv rfl .nil)
        · cases h
      · cases h
  · cases h

theorem s_delete {mt kt et t : TypeId} {ts : List TypeId} {kd : TypeDesc} {m m' k k' : Value} (h : doDelete H kd m k s = .ok nx s') (hm : VR ρ m m') (hk : VR ρ k k') (p : Pre B0 H s s' ρ G w)
    (hu : P.underlying mt = some (.map kt et)) (hku : P.underlying kt = some kd) : Done P B0 H s s' ρ G w nx (semV (Builtin.delete_ ⟨mt :: ts⟩ t ⟨[m', k']⟩)) := by
  unfold doDelete at h
  obtain ⟨hf, h⟩ := brec_ok h
  have := keyFits_ground hf hk
  subst this
  split at h
  · cases hm
    obtain ⟨rfl, rfl⟩ := ok_inj h
    refine done_same p ?_ (.tuple .nil)
    simp [Builtin.delete_, run_underlying hu, run_checkKey hku hf]
  · rename_i r
    cases hm with
    | map hl =>
      rename_i l
      split at h
      · rename_i es c hvis
        obtain ⟨es', h1, h2⟩ := map_of_vis p hvis hl
        split at h
        · rename_i j u hfk
          obtain ⟨rfl, rfl⟩ := ok_inj h
          obtain ⟨r', h3, h4⟩ := findNow_eq hf h2 0 hfk
          cases h4 with
          | some hv' hi hlt =>
            rename_i u'
            obtain ⟨ho1, ho2⟩ := one_setObj (o := .map (es'.eraseIdxIfInBounds j) c) h1
            refine done_post (ρ' := ρ) (w' := { w with heap := w.heap.setIfInBounds l.blk (.map (es'.eraseIdxIfInBounds j) c) }) (v' := .tuple #[]) ?_ (.tuple .nil) (Post.set' p hvis hl ho1 ho2 ?_)
            · simp [Builtin.delete_, run_underlying hu, run_checkKey hku hf, run_getMap h1, run_findKey hku h3, run_setMap h1]
            · refine ⟨_, rfl, ?_⟩
              rw [Array.toList_eraseIdxIfInBounds]
              exact EsR.del h2 j
        · rename_i hfk
          obtain ⟨rfl, rfl⟩ := ok_inj h
          obtain ⟨r', h3, h4⟩ := findNow_eq hf h2 0 hfk
          cases h4
          obtain ⟨ho1, ho2⟩ := one_setObj (o := .map es' c) h1
          refine done_post (ρ' := ρ) (w' := { w with heap := w.heap.setIfInBounds l.blk (.map es' c) }) (v' := .tuple #[]) ?_ (.tuple .nil) (Post.set' p hvis hl ho1 ho2 ?_)
          · simp [Builtin.delete_, run_underlying hu, run_checkKey hku hf, run_getMap h1, run_findKey hku h3, run_setMap h1]
          · exact ⟨_, rfl, h2⟩
        · cases h
      · cases h
  · cases h

theorem s_makeMap {t : TypeId} (h : (R.ok (.val (.map (some s.next))) (newObj s (.map [] 0)) : R Nx) = .ok nx s') (p : Pre B0 H s s' ρ G w) :
    Done P B0 H s s' ρ G w nx (semV (Instr.makeMap t none)) := by
  obtain ⟨rfl, rfl⟩ := ok_inj h
  refine done_post (v' := .map (some w.heap.size)) ?_ (.map (l := ⟨w.heap.size, 0, 0⟩) Ren.put_same) (Post.new' (obj := .map #[] 0) 0 p ⟨_, rfl, .nil⟩)
  simp [Instr.makeMap]

theorem s_len {t t2 : TypeId} {x x' : Value} (h : doLen H (tiOf P t) x s = .ok nx s') (hx : VR ρ x x') (p : Pre B0 H s s' ρ G w) :
    Done P B0 H s s' ρ G w nx (semV (Builtin.len_ ⟨[t]⟩ t2 ⟨[x']⟩)) := by
  unfold doLen at h
  split at h
  · obtain ⟨hf, h⟩ := brec_ok h
    obtain ⟨rfl, rfl⟩ := ok_inj h
    obtain ⟨e, hu⟩ := isSliceT_spec hf
    cases hx <;> (refine done_same p ?_ (.int _ _); simp [Builtin.len_, run_underlying hu, goInt])
  · rename_i b
    split at h
    · rename_i ht
      obtain ⟨_, _, hu, _⟩ := tiOf_spec ht
      obtain ⟨rfl, rfl⟩ := ok_inj h
      cases hx
      refine done_same p ?_ (.int _ _)
      simp [Builtin.len_, run_underlying hu, goInt]
    · cases h
  · obtain ⟨hf, h⟩ := brec_ok h
    obtain ⟨rfl, rfl⟩ := ok_inj h
    obtain ⟨k, e, hu⟩ := isMapT_spec hf
    cases hx
    refine done_same p ?_ (.int _ _)
    simp [Builtin.len_, run_underlying hu, goInt]
  · rename_i r
    split at h
    · rename_i es c hvis
      obtain ⟨hf, h⟩ := brec_ok h
      obtain ⟨rfl, rfl⟩ := ok_inj h
      obtain ⟨k, e, hu⟩ := isMapT_spec hf
      cases hx with
      | map hl =>
        rename_i l
        obtain ⟨es', h1, h2⟩ := map_of_vis p hvis hl
        refine done_same p ?_ (.int _ _)
        have := h2.length
        simp [Builtin.len_, run_underlying hu, goInt, run_getMap h1, this]
    · cases h
  · cases h

/- rows of zeros -/
theorem repl_length (z : List Value) : ∀ n, (repl z n).length = n * z.length
  | 0 => by simp [repl]
  | n + 1 => by simp [repl, repl_length z n, Nat.add_mul]; omega

theorem repl_get (z : List Value) : ∀ (n i : Nat), i < n * z.length → (repl z n)[i]? = z[i % z.length]?
  | 0, i, h => by simp at h
  | n + 1, i, h => by
    rw [Nat.add_mul] at h
    simp only [repl]
    by_cases e : i < z.length
    · rw [List.getElem?_append_left e, Nat.mod_eq_of_lt e]
    · rw [List.getElem?_append_right (by omega), repl_get z n (i - z.length) (by omega)]
      rw [← Nat.mod_eq_sub_mod (by omega)]

theorem zeros_eq (z : Array Value) (n sz : Nat) (hz : z.size = sz) : ((Array.range (n * sz)).map (z[· % z.size]!)).toList = repl z.toList n := by
  apply List.ext_getElem?
  intro i
  by_cases h : i < n * sz
  · rw [repl_get _ _ _ (by rw [Array.length_toList, hz]; exact h)]
    have hpos : 0 < sz := by
      rcases Nat.eq_zero_or_pos sz with e | e
      · subst e; simp at h
      · exact e
    have hm : i % z.size < z.size := Nat.mod_lt _ (by omega)
    rw [Array.getElem?_toList, Array.length_toList, Array.getElem?_toList, Array.getElem?_map, Array.getElem?_range, if_pos h]
    simp [hm]
  · rw [List.getElem?_eq_none (by simp; omega), List.getElem?_eq_none (by rw [repl_length, Array.length_toList, hz]; omega)]

theorem zeros_nil (n sz : Nat) (h : n * sz = 0) : ((Array.range (n * sz)).map ((#[] : Array Value)[· % 0]!)).toList = [] := by
  rw [h]; simp

theorem vcells_cells (v : Value) : vcells v = v.cells.toList := by cases v <;> rfl

theorem VRs.repl {z z' : List Value} (h : VRs ρ z z') : ∀ n, VRs ρ (repl z n) (repl z' n)
  | 0 => .nil
  | n + 1 => h.append (VRs.repl h n)

theorem bytesOf_eq {t : TypeId} {i : TypeInfo} (h : P.info? t = some i) : P.bytesOf t = i.bytes := by
  simp [Program.bytesOf, h]

theorem s_makeSlice {t e : TypeId} {ti : TI} {z : Value} {l l' c c' : Value} (h : doMakeSlice e (vcells z) (P.bytesOf e) l c s = .ok nx s') (hl : VR ρ l l') (hc : VR ρ c c') (p : Pre B0 H s s' ρ G w)
    (hu : P.underlying t = some (.slice e)) (ht : tiOf P e = some ti) (hz : ti.zero = some z) (hg : ground z = true) (hsz : (vcells z).length = ti.size) :
    Done P B0 H s s' ρ G w nx (semV (Instr.makeSlice t l' c')) := by
  unfold doMakeSlice at h
  split at h
  · rename_i k n
    split at h
    · rename_i k2 m
      obtain ⟨hb, h⟩ := brec_ok h
      obtain ⟨rfl, rfl⟩ := ok_inj h
      simp only [Bool.and_eq_true, Nat.ble_eq] at hb
      obtain ⟨hnm, hbig⟩ := hb
      have := int_of hl; subst this
      have := int_of hc; subst this
      obtain ⟨i, hi, _, hs1, _, _⟩ := tiOf_spec ht
      have hby := bytesOf_eq hi
      rw [hby] at hbig
      have hm : m ≤ 4294967296 := by
        have : m * 1 ≤ m * (i.bytes + 1) := Nat.mul_le_mul_left _ (by omega)
        omega
      have hmb : i.bytes * m ≤ 4294967296 := by
        have : m * i.bytes ≤ m * (i.bytes + 1) := Nat.mul_le_mul_left _ (by omega)
        rw [Nat.mul_comm]; omega
      have w1 : IntKind.i64.wrap (Int.ofNat m) = (m : Int) := by rw [IntKind.wrap_i64, Int.ofNat_eq_natCast]; omega
      have w2 : IntKind.i64.wrap (Int.ofNat n) = (n : Int) := by rw [IntKind.wrap_i64, Int.ofNat_eq_natCast]; omega
      have hcells : z.cells.size = ti.size := by rw [← Array.length_toList, ← vcells_cells]; exact hsz
      -- the cells
      have hrow : ∀ C : Array Value, C.toList = repl z.cells.toList m → (newRow e C).run P w = .ok ⟨w.heap.size, 0, none⟩ { w with heap := w.heap.push (.cells C e) } := fun C _ => run_newRow
      have hC : ∃ C : Array Value, C.toList = repl (vcells z) m ∧ (Instr.makeSlice t (.int k (Int.ofNat n)) (.int k2 (Int.ofNat m))).run P w = .ok (.slice (some ⟨w.heap.size, 0, none⟩) n m) { w with heap := w.heap.push (.cells C e) } := by
        have hfalse : ¬ ((decide ((m : Int) < 0) || decide ((i.bytes : Int) * (m : Int) > 2 ^ 48) || decide ((n : Int) < 0) || decide ((n : Int) > (m : Int))) = true) := by
          have h2 : (i.bytes : Int) * (m : Int) = ((i.bytes * m : Nat) : Int) := by simp
          simp only [h2, Bool.or_eq_true, decide_eq_true_eq]
          have : (2 : Int) ^ 48 = 281474976710656 := by decide
          rw [this]
          omega
        by_cases hzero : m * ti.size = 0
        · refine ⟨((Array.range (m * ti.size)).map ((#[] : Array Value)[· % 0]!)), ?_, ?_⟩
          · rw [zeros_nil _ _ hzero]
            symm
            apply List.eq_nil_of_length_eq_zero
            rw [repl_length, hsz]; exact hzero
          · simp only [Instr.makeSlice, Sem.run_bind, run_underlying hu, Result.andThen_ok, asInt, asIntOf, Sem.run_pure, run_typeInfo hi, w1, w2]
            rw [if_neg hfalse]
            simp only [Sem.run_pure, Sem.run_bind, Result.andThen_ok, run_askRoom, run_sizeOf ht, Int.toNat_natCast, hzero, if_true, run_newRow]
            rfl
        · refine ⟨((Array.range (m * ti.size)).map (z.cells[· % z.cells.size]!)), ?_, ?_⟩
          · rw [zeros_eq z.cells m ti.size hcells, vcells_cells]
          · simp only [Instr.makeSlice, Sem.run_bind, run_underlying hu, Result.andThen_ok, asInt, asIntOf, Sem.run_pure, run_typeInfo hi, w1, w2]
            rw [if_neg hfalse]
            simp only [Sem.run_pure, Sem.run_bind, Result.andThen_ok, run_askRoom, run_sizeOf ht, Int.toNat_natCast, hzero, if_false, run_zeroValue ht hz, run_newRow]
      obtain ⟨C, hC1, hC2⟩ := hC
      have hsize : C.size = m * ti.size := by rw [← Array.length_toList, hC1, repl_length, hsz]
      refine done_post hC2 (.slice (l := ⟨w.heap.size, 0, C.size⟩) Ren.put_same (.inl rfl) hnm) (Post.new' (obj := .cells C e) C.size p ?_)
      have hgz : ∀ {ρ : Ren}, VRs ρ (vcells z) (vcells z) := by
        intro ρ
        have := Value.cells_toList (ground_self (ρ := ρ) hg)
        rw [← vcells_cells] at this
        exact this
      exact objR_trOf (VRs.repl hgz m) (by rw [repl_length]) ⟨[], by rw [hC1]; simp⟩ rfl rfl
    · cases h
  · cases h

end Go.Ev
