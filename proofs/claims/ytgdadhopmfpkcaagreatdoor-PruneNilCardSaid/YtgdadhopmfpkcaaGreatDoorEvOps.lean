/- Each operation of the evaluator is the machine's. -/
import Derived.Test.YtgdadhopmfpkcaaGreatDoorEvSem
import Derived.Room.Entries
set_option linter.unusedVariables false
set_option linter.unusedSimpArgs false
namespace Go.Ev
open Go.RowKit

theorem VR.undef (ρ : Ren) : VR ρ undef undef := .tuple .nil

def EnvR (ρ : Ren) (tm : Tr Value) (a : Act) : Prop := ∀ t, VR ρ (envT (tm.get t)) (a.tmps.getD t undef)

theorem EnvR.mono {ρ ρ' : Ren} (h : RenLe ρ ρ') {tm : Tr Value} {a : Act} (e : EnvR ρ tm a) : EnvR ρ' tm a := fun t => (e t).mono h

theorem EnvR.eval {ρ : Ren} {tm : Tr Value} {a : Act} (e : EnvR ρ tm a) {x : Operand} (h : opndOk x = true) : VR ρ (evO tm x) (a.eval x) := by
  cases x with
  | tmp t => exact e t
  | const v => exact ground_self h
  | global g => cases h
  | func f => exact .func (fun l h => by cases h) .nil .nil

theorem EnvR.evals {ρ : Ren} {tm : Tr Value} {a : Act} (e : EnvR ρ tm a) : ∀ (l : List Operand), (∀ x ∈ l, opndOk x = true) → VRs ρ (l.map (evO tm)) (l.map a.eval)
  | [], _ => .nil
  | x :: l, h => .cons (e.eval (h x (by simp))) (e.evals l fun y hy => h y (by simp [hy]))

inductive NxR (ρ : Ren) : Nx → Next → Prop
  | val {v v' : Value} (h : VR ρ v v') : NxR ρ (.val v) (.value v')
  | skip : NxR ρ (.val undef) .skip
  | enter {f : FuncId} {l : List Value} {l' : Array Value} (h : VRs ρ l l'.toList) : NxR ρ (.enter f l) (.enter f l')

/-- the machine's run of a statement comes to what the evaluator said -/
def Done (P : Program) (B0 : Base) (H : Hid) (s s' : St) (ρ : Ren) (G : Hp) (w : World) (nx : Nx) (sem : Sem Next) : Prop :=
  ∃ ρ' w' nx', sem.run P w = .ok nx' w' ∧ NxR ρ' nx nx' ∧ Post B0 H s s' ρ ρ' G w w'

variable {P : Program} {B0 : Base} {H : Hid} {s s' : St} {ρ : Ren} {G : Hp} {w : World} {nx : Nx}

/-- the value of a statement -/
abbrev semV (m : Sem Value) : Sem Next := do pure (.value (← m))
abbrev semU (m : Sem Unit) : Sem Next := do m; pure .skip

theorem done_same {m : Sem Value} {v v' : Value} (p : Pre B0 H s s ρ G w) (h : m.run P w = .ok v' w) (hv : VR ρ v v') : Done P B0 H s s ρ G w (.val v) (semV m) :=
  ⟨ρ, w, .value v', by simp [semV, h], .val hv, .refl p.sub p.sim⟩

theorem done_post {m : Sem Value} {v v' : Value} {w' : World} {ρ' : Ren} (h : m.run P w = .ok v' w') (hv : VR ρ' v v') (q : Post B0 H s s' ρ ρ' G w w') : Done P B0 H s s' ρ G w (.val v) (semV m) :=
  ⟨ρ', w', .value v', by simp [semV, h], .val hv, q⟩

theorem done_skip {m : Sem Unit} {w' : World} {ρ' : Ren} (h : m.run P w = .ok () w') (q : Post B0 H s s' ρ ρ' G w w') : Done P B0 H s s' ρ G w (.val undef) (semU m) :=
  ⟨ρ', w', .skip, by simp [semU, h], .skip, q⟩

theorem ok_inj {α : Type} {a b : α} {s t : St} (h : (R.ok a s) = .ok b t) : a = b ∧ s = t := by cases h; exact ⟨rfl, rfl⟩

theorem brec_ok {α : Type} {c : Bool} {x : R α} {w : String} {a : α} {t : St} (h : (Bool.rec (.bad w) x c : R α) = .ok a t) : c = true ∧ x = .ok a t := by
  cases c
  · cases h
  · exact ⟨rfl, h⟩

theorem cells_of_vis {b : Nat} {c : Tr Value} {n : Nat} {e : TypeId} (p : Pre B0 H s s' ρ G w) (hv : St.vis H s b = some (.cells c n e)) {l : Loc} (hl : ρ b = some l) :
    ∃ (C : Array Value) (e' : TypeId) (fz : Nat × Nat), w.heap[l.blk]? = some (.cells C e' fz) ∧ C.size = l.tot ∧ l.sh + n ≤ l.tot ∧
      (∀ k, k < l.tot → ¬ (fz.1 ≤ k ∧ k < fz.2)) ∧ ∀ k v, c.get k = some v → k < n ∧ ∃ v', C[l.sh + k]? = some v' ∧ VR ρ v v' := by
  obtain ⟨x, hx, C, e', fz, rfl, h⟩ := p.sim.loc (p.sub b _ hv) hl
  exact ⟨C, e', fz, hx, h⟩

theorem r_load1 {x x' : Value} {t : TypeId} {ti : TI} (h : doLoad1 H x s = .ok nx s') (hx : VR ρ x x') (hsub : Sub H s G) (hsim : Sim B0 ρ G w)
    (ht : tiOf P t = some ti) (ha : ti.agg = false) : s' = s ∧ ∃ v v' ad, nx = .val v ∧ VR ρ v v' ∧ x' = .pointer (some ad) ∧ (loadVar t ad).run P w = .ok v' w := by
  unfold doLoad1 at h
  split at h
  · rename_i b o
    cases hx with
    | ptr hl =>
      rename_i l
      split at h
      · rename_i c n e hv
        split at h
        · rename_i v hg
          obtain ⟨rfl, rfl⟩ := ok_inj h
          obtain ⟨x, hx, C, e', fz, rfl, h2, h3, h4, h5⟩ := hsim.loc (hsub b _ hv) hl
          obtain ⟨_, v', h6, h7⟩ := h5 o v hg
          refine ⟨rfl, v, v', _, rfl, h7, rfl, ?_⟩
          simp only [loadVar, Sem.run_bind, Result.andThen_ok, run_isAgg ht, ha, Bool.false_eq_true, if_false]
          exact run_load (by rw [cell_of hx]; exact h6)
        · cases h
      · cases h
  · cases h

theorem s_load1 {x x' : Value} {t : TypeId} {ti : TI} (h : doLoad1 H x s = .ok nx s') (hx : VR ρ x x') (p : Pre B0 H s s' ρ G w)
    (ht : tiOf P t = some ti) (ha : ti.agg = false) : Done P B0 H s s' ρ G w nx (semV (Instr.loadAt t x')) := by
  obtain ⟨rfl, v, v', ad, rfl, h1, rfl, h2⟩ := r_load1 h hx p.sub p.sim ht ha
  refine done_same p ?_ h1
  simpa [Instr.loadAt, Instr.sureAddr] using h2

theorem extract_list (C : Array Value) (o n : Nat) : (C.extract o (o + n)).toList = (C.toList.drop o).take n := by
  simp [Array.toList_extract]

theorem vrs_of_cells {c : Tr Value} {n o k : Nat} {l : Loc} {C : Array Value} {m : List Value}
    (h5 : ∀ k v, c.get k = some v → k < n ∧ ∃ v', C[l.sh + k]? = some v' ∧ VR ρ v v') (hm : m.length = k) (hk : ∀ i, i < k → c.get (o + i) = m[i]?)
    (hs : l.sh + o + k ≤ C.size) : VRs ρ m (C.extract (l.sh + o) (l.sh + o + k)).toList := by
  rw [extract_list]
  refine VRs.of_get ?_ fun i v v' h1 h2 => ?_
  · simp; omega
  · have hi : i < k := by rw [← hm]; exact (List.getElem?_eq_some_iff.1 h1).1
    have := hk i hi
    rw [h1] at this
    obtain ⟨_, u, hu, hr⟩ := h5 _ _ this
    rw [List.getElem?_take, if_pos hi, List.getElem?_drop] at h2
    rw [show l.sh + (o + i) = l.sh + o + i by omega] at hu
    rw [Array.getElem?_toList, hu] at h2
    cases h2
    exact hr

theorem bound_of_get {c : Tr Value} {n o k : Nat} {l : Loc} {C : Array Value} {m : List Value}
    (h5 : ∀ k v, c.get k = some v → k < n ∧ ∃ v', C[l.sh + k]? = some v' ∧ VR ρ v v') (hm : m.length = k) (hk : ∀ i, i < k → c.get (o + i) = m[i]?) (h0 : 0 < k) :
    l.sh + o + k ≤ C.size := by
  have h1 : m[k - 1]? = some (m[k - 1]'(by omega)) := List.getElem?_eq_getElem (by omega)
  have h2 := hk (k - 1) (by omega)
  rw [h1] at h2
  obtain ⟨_, u, hu, _⟩ := h5 _ _ h2
  have := (Array.getElem?_eq_some_iff.1 hu).1
  omega

theorem r_loadN {x x' : Value} {t : TypeId} {ti : TI} (h : doLoadN H ti.size x s = .ok nx s') (hx : VR ρ x x') (hsub : Sub H s G) (hsim : Sim B0 ρ G w)
    (ht : tiOf P t = some ti) (ha : ti.agg = true) : s' = s ∧ ∃ v v' ad, nx = .val v ∧ VR ρ v v' ∧ x' = .pointer (some ad) ∧ (loadVar t ad).run P w = .ok v' w := by
  unfold doLoadN at h
  split at h
  · rename_i b o
    cases hx with
    | ptr hl =>
      rename_i l
      split at h
      · rename_i c n e hv
        split at h
        · rename_i m hg
          obtain ⟨rfl, rfl⟩ := ok_inj h
          obtain ⟨x, hx, C, e', fz, rfl, h2, h3, h4, h5⟩ := hsim.loc (hsub b _ hv) hl
          obtain ⟨m', hm1, hm2, hm3⟩ := ldN_spec _ _ _ _ _ hg
          rw [List.append_nil] at hm1
          subst hm1
          by_cases h0 : ti.size = 0
          · have hnil : m = [] := List.eq_nil_of_length_eq_zero (by omega)
            subst hnil
            refine ⟨rfl, _, .agg #[], _, rfl, .agg .nil, rfl, ?_⟩
            simp only [loadVar, Sem.run_bind, Sem.run_pure, Result.andThen_ok, run_isAgg ht, ha, if_true, run_sizeOf ht, h0]
            simp [loadCells, loadCellsFrom]
          · have hb := bound_of_get h5 hm2 hm3 (by omega)
            refine ⟨rfl, _, _, _, rfl, .agg (vrs_of_cells h5 hm2 hm3 hb), rfl, ?_⟩
            simp only [loadVar, Sem.run_bind, Sem.run_pure, Result.andThen_ok, run_isAgg ht, ha, if_true, run_sizeOf ht]
            rw [run_loadCells hx hb]
            simp
        · cases h
      · cases h
  · cases h

theorem s_loadN {x x' : Value} {t : TypeId} {ti : TI} (h : doLoadN H ti.size x s = .ok nx s') (hx : VR ρ x x') (p : Pre B0 H s s' ρ G w)
    (ht : tiOf P t = some ti) (ha : ti.agg = true) : Done P B0 H s s' ρ G w nx (semV (Instr.loadAt t x')) := by
  obtain ⟨rfl, v, v', ad, rfl, h1, rfl, h2⟩ := r_loadN h hx p.sub p.sim ht ha
  refine done_same p ?_ h1
  simpa [Instr.loadAt, Instr.sureAddr] using h2

theorem oneC_of {v v' : Value} (h : VR ρ v v') (ho : oneC v = true) : oneC v' = true := by cases h <;> first | rfl | cases ho

theorem cells_one {v : Value} (h : oneC v = true) : v.cells = #[v] := by cases v <;> first | rfl | cases h

theorem ObjR.store {l : Loc} {c : Tr Value} {n : Nat} {e e' : TypeId} {C : Array Value} {fz : Nat × Nat} {o : Nat} {m m' : List Value}
    (h2 : C.size = l.tot) (h3 : l.sh + n ≤ l.tot) (h4 : ∀ k, k < l.tot → ¬ (fz.1 ≤ k ∧ k < fz.2))
    (h5 : ∀ k v, c.get k = some v → k < n ∧ ∃ v', C[l.sh + k]? = some v' ∧ VR ρ v v') (hm : VRs ρ m m') (ho : o + m.length ≤ n) :
    ObjR ρ l (.cells (stN o m 0 c) n e) (.cells (over C (l.sh + o) m') e' fz) := by
  have hlen := hm.length
  refine ⟨_, _, _, rfl, by rw [over_size, h2], h3, h4, fun k v hk => ?_⟩
  rw [get_stN] at hk
  rw [over_get _ _ _ _ (by omega)]
  by_cases e1 : o + 0 ≤ k ∧ k < o + 0 + m.length
  · rw [if_pos e1] at hk
    obtain ⟨v', hv', hr⟩ := hm.get hk
    refine ⟨by omega, v', ?_, hr⟩
    rw [if_pos (by omega), show l.sh + k - (l.sh + o) = k - (o + 0) by omega]
    exact hv'
  · rw [if_neg e1] at hk
    obtain ⟨a, v', hv', hr⟩ := h5 k v hk
    refine ⟨a, v', ?_, hr⟩
    rw [if_neg (by omega)]
    exact hv'

theorem s_store1 {x x' v v' : Value} {t : TypeId} {ti : TI} (h : doStore1 H x v s = .ok nx s') (hx : VR ρ x x') (hv : VR ρ v v') (p : Pre B0 H s s' ρ G w)
    (ht : tiOf P t = some ti) (hs1 : ti.size = 1) : Done P B0 H s s' ρ G w nx (semU (Instr.storeAt t x' v')) := by
  unfold doStore1 at h
  split at h
  · rename_i b o
    cases hx with
    | ptr hl =>
      rename_i l
      split at h
      · rename_i c n e hvis
        obtain ⟨ho, h⟩ := brec_ok h
        obtain ⟨hon, h⟩ := brec_ok h
        obtain ⟨rfl, rfl⟩ := ok_inj h
        have hon : o < n := by simpa [Nat.blt_eq] using hon
        have hp := cells_of_vis p hvis hl
        obtain ⟨C, e', fz, h1, h2, h3, h4, h5⟩ := hp
        have hov := oneC_of hv ho
        have hst := run_store1 (P := P) (v := v') h1 (by omega : l.sh + o < C.size) (h4 _ (by omega)) hov
        obtain ⟨h6, h7⟩ := setCell_one (o := l.sh + o) (v := v') h1
        refine done_skip (w' := w.setCell ⟨l.blk, l.sh + o, none⟩ v') ?_ (Post.set' p hvis hl h6 h7 ?_)
        · simp only [Instr.storeAt, Instr.sureAddr, storeVar, Sem.run_bind, Sem.run_pure, Result.andThen_ok, run_sizeOf ht, hs1]
          rw [cells_one hov]
          simp [storeCells, hst, Addr.add]
        · have := ObjR.store (e := e) (e' := e') (o := o) h2 h3 h4 h5 (VRs.cons hv .nil) (by simp; omega)
          exact this
      · cases h
  · cases h

theorem s_storeN {x x' v v' : Value} {t : TypeId} {ti : TI} (h : doStoreN H ti.size x v s = .ok nx s') (hx : VR ρ x x') (hv : VR ρ v v') (p : Pre B0 H s s' ρ G w)
    (ht : tiOf P t = some ti) : Done P B0 H s s' ρ G w nx (semU (Instr.storeAt t x' v')) := by
  unfold doStoreN at h
  split at h
  · rename_i b o
    cases hx with
    | ptr hl =>
      rename_i l
      split at h
      · rename_i c n e hvis
        split at h
        · rename_i cs
          obtain ⟨ho, h⟩ := brec_ok h
          obtain ⟨hsz, h⟩ := brec_ok h
          obtain ⟨hon, h⟩ := brec_ok h
          obtain ⟨rfl, rfl⟩ := ok_inj h
          have hsz : cs.toList.length = ti.size := by simpa [Nat.beq_eq] using hsz
          have hon : o + ti.size ≤ n := by simpa [Nat.ble_eq] using hon
          cases hv with
          | agg hcs =>
            rename_i cs'
            obtain ⟨C, e', fz, h1, h2, h3, h4, h5⟩ := cells_of_vis p hvis hl
            have hlen := hcs.length
            have hone : ∀ u ∈ cs'.toList, oneC u = true := by
              intro u hu
              obtain ⟨k, hk1, hk2⟩ := List.getElem_of_mem hu
              have hk3 : k < cs.toList.length := by omega
              have hg : cs.toList[k]? = some (cs.toList[k]) := List.getElem?_eq_getElem hk3
              obtain ⟨u', hu1, hu2⟩ := hcs.get hg
              rw [List.getElem?_eq_getElem hk1, hk2] at hu1
              cases hu1
              exact oneC_of hu2 (List.all_eq_true.1 ho _ (List.getElem_mem hk3))
            obtain ⟨w', h6, h7, h8⟩ := run_storeCells (P := P) (o := l.sh + o) cs'.toList 0 w C h1 (by omega) (by rw [h2]; exact h4) hone
            refine done_skip (w' := w') ?_ (Post.set' p hvis hl h7 h8 ?_)
            · simp only [Instr.storeAt, Instr.sureAddr, storeVar, Sem.run_bind, Sem.run_pure, Result.andThen_ok, run_sizeOf ht]
              have : (Value.agg cs').cells.size = ti.size := by
                show cs'.size = _
                rw [← Array.length_toList]; omega
              simp only [this, ne_eq, not_true_eq_false, if_false]
              exact h6
            · have := ObjR.store (e := e) (e' := e') (o := o) h2 h3 h4 h5 hcs (by omega)
              simpa using this
        · cases h
      · cases h
  · cases h

/- new blocks -/
theorem objR_trOf {l : Loc} {m m' : List Value} {n : Nat} {e e' : TypeId} {C : Array Value} (hm : VRs ρ m m') (hn : m.length = n) (hC : ∃ rest, C.toList = m' ++ rest) (hl : C.size = l.tot) (h0 : l.sh = 0) :
    ObjR ρ l (.cells (trOf m 0 .lf) n e) (.cells C e' (0, 0)) := by
  obtain ⟨rest, hC⟩ := hC
  have hlen := hm.length
  have hsz : C.size = m'.length + rest.length := by rw [← Array.length_toList, hC]; simp
  refine ⟨C, e', (0, 0), rfl, hl, by omega, fun k _ => by simp, fun k v hk => ?_⟩
  rw [get_trOf] at hk
  by_cases e1 : 0 ≤ k ∧ k < 0 + m.length
  · rw [if_pos e1] at hk
    obtain ⟨v', hv', hr⟩ := hm.get hk
    refine ⟨by omega, v', ?_, hr⟩
    have hk' : k < m'.length := by omega
    rw [h0, ← Array.getElem?_toList, hC, List.getElem?_append_left (by omega)]
    simpa using hv'
  · rw [if_neg e1] at hk; simp at hk

theorem run_newRow {e : TypeId} {C : Array Value} : (newRow e C).run P w = .ok ⟨w.heap.size, 0, none⟩ { w with heap := w.heap.push (.cells C e) } := by
  simp [newRow]

theorem Value.cells_toList {v v' : Value} (h : VR ρ v v') : VRs ρ (vcells v) v'.cells.toList := by
  cases h <;> first | exact .cons (by constructor <;> assumption) .nil | skip
  case agg h => exact h

theorem s_box {v v' : Value} {e : TypeId} (h : doBox e v s = .ok nx s') (hv : VR ρ v v') (p : Pre B0 H s s' ρ G w) :
    Done P B0 H s s' ρ G w nx (semV (do pure (.pointer (some (← newVar e v'))))) := by
  have key : ∀ (m : List Value) (c : Tr Value), (∀ ρ', RenLe ρ ρ' → ObjR ρ' ⟨w.heap.size, 0, v'.cells.size⟩ (.cells c m.length e) (.cells v'.cells e (0, 0))) →
      nx = .val (ptr s.next 0) → s' = newObj s (.cells c m.length e) → Done P B0 H s s' ρ G w nx (semV (do pure (.pointer (some (← newVar e v'))))) := by
    intro m c ho h1 h2
    subst h1 h2
    have hle : RenLe ρ (ρ.put s.next ⟨w.heap.size, 0, v'.cells.size⟩) := Ren.le_put (p.fresh s.next (Nat.le_refl _) (Nat.lt_succ_self _))
    have q := Post.new' (obj := .cells v'.cells e (0, 0)) v'.cells.size p (ho _ hle)
    refine done_post (v' := .pointer (some ⟨w.heap.size, 0, none⟩)) ?_ ?_ q
    · simp [newVar, run_newRow]
    · exact .ptr (l := ⟨w.heap.size, 0, v'.cells.size⟩) Ren.put_same
  unfold doBox at h
  split at h
  · rename_i cs
    obtain ⟨rfl, rfl⟩ := ok_inj h
    refine key cs.toList _ (fun ρ' hle => ?_) rfl rfl
    cases hv with
    | agg hcs => exact objR_trOf (hcs.mono hle) rfl ⟨[], by simp [Value.cells]⟩ rfl rfl
  · rename_i hne
    obtain ⟨rfl, rfl⟩ := ok_inj h
    refine key [v] _ (fun ρ' hle => ?_) rfl rfl
    have hc : v'.cells = #[v'] := by
      cases hv <;> first | rfl | exact absurd rfl (hne _)
    rw [hc]
    refine ⟨_, _, _, rfl, rfl, by simp, fun k _ => by simp, fun k u hk => ?_⟩
    rw [Tr.get_nd] at hk
    by_cases e1 : k = 0
    · subst e1
      simp only [if_true, Option.some.injEq] at hk
      subst hk
      exact ⟨by simp, v', by simp, hv.mono hle⟩
    · rw [if_neg e1] at hk; simp at hk

theorem s_field {x x' : Value} {off : Nat} {st : TypeId} {fs : Array Field} {f : Nat} {fl : Field} {ti : TI} (h : doField off x s = .ok nx s') (hx : VR ρ x x') (p : Pre B0 H s s' ρ G w)
    (hu : P.underlying st = some (.struct fs)) (hf : fs[f]? = some fl) (ht : tiOf P fl.type = some ti) (hoff : fl.offset = off) (h0 : ti.size ≠ 0) :
    Done P B0 H s s' ρ G w nx (semV (Instr.fieldAt st x' f)) := by
  unfold doField at h
  split at h
  · rename_i b o
    obtain ⟨rfl, rfl⟩ := ok_inj h
    cases hx with
    | ptr hl =>
      rename_i l
      refine done_same (v' := .pointer (some ⟨l.blk, l.sh + (o + off), none⟩)) p ?_ (.ptr hl)
      simp only [Instr.fieldAt, Sem.run_bind, run_underlying hu, Result.andThen_ok, hf, Instr.sureAddr, Sem.run_pure, fieldPlace, run_sizeOf ht, h0, if_false]
      rw [hoff, add_eq]
      simp [Nat.add_assoc]
  · cases h

theorem int_of {k : IntKind} {n : Int} {v : Value} (h : VR ρ (.int k n) v) : v = .int k n := by cases h; rfl

theorem s_indexS {x x' i i' : Value} {t e : TypeId} {ti : TI} (h : doIndexS ti.size x i s = .ok nx s') (hx : VR ρ x x') (hi : VR ρ i i') (p : Pre B0 H s s' ρ G w)
    (hu : P.underlying t = some (.slice e)) (ht : tiOf P e = some ti) : Done P B0 H s s' ρ G w nx (semV (Instr.indexAt t x' i')) := by
  unfold doIndexS at h
  split at h
  · rename_i b o sp n cap
    split at h
    · rename_i k m
      obtain ⟨hlt, h⟩ := brec_ok h
      obtain ⟨rfl, rfl⟩ := ok_inj h
      have hlt : m < n := by simpa [Nat.blt_eq] using hlt
      have := int_of hi
      subst this
      have main : ∀ (l : Loc) (c' : Nat), ρ b = some l → x' = .slice (some ⟨l.blk, l.sh + o, none⟩) n c' → Done P B0 H s s ρ G w (.val (ptr b (o + m * ti.size))) (semV (Instr.indexAt t x' (.int k (Int.ofNat m)))) := by
        intro l c' hl hx'
        subst hx'
        refine done_same (v' := .pointer (some ⟨l.blk, l.sh + (o + m * ti.size), none⟩)) p ?_ (.ptr hl)
        simp only [Instr.indexAt, asIntOf, Sem.run_bind, Sem.run_pure, Result.andThen_ok, run_underlying hu]
        have hc : (0 : Int) ≤ Int.ofNat m ∧ Int.ofNat m < (n : Int) := ⟨Int.natCast_nonneg m, Int.ofNat_lt.2 hlt⟩
        rw [if_pos hc]
        simp only [Sem.run_bind, run_sizeOf ht, Result.andThen_ok, Sem.run_pure]
        rw [add_eq]
        simp [Nat.add_assoc]
      cases hx with
      | slice hl ho hn =>
        rename_i o' l
        refine main l cap hl ?_
        rcases ho with rfl | rfl
        · rfl
        · omega
      | sliceG hl ho hn hh =>
        rename_i o' c' sz l
        refine main l c' hl ?_
        rcases ho with rfl | rfl
        · rfl
        · omega
    · cases h
  · cases h

theorem s_indexA {x x' i i' : Value} {t e : TypeId} {n : Nat} {ti : TI} (h : doIndexA n ti.size x i s = .ok nx s') (hx : VR ρ x x') (hi : VR ρ i i') (p : Pre B0 H s s' ρ G w)
    (hu : P.underlying t = some (.array n e)) (ht : tiOf P e = some ti) : Done P B0 H s s' ρ G w nx (semV (Instr.indexAt t x' i')) := by
  unfold doIndexA at h
  split at h
  · rename_i b o
    split at h
    · rename_i k m
      obtain ⟨hlt, h⟩ := brec_ok h
      obtain ⟨rfl, rfl⟩ := ok_inj h
      have hlt : m < n := by simpa [Nat.blt_eq] using hlt
      have := int_of hi
      subst this
      cases hx with
      | ptr hl =>
        rename_i l
        refine done_same (v' := .pointer (some ⟨l.blk, l.sh + (o + m * ti.size), none⟩)) p ?_ (.ptr hl)
        simp only [Instr.indexAt, asIntOf, Instr.sureAddr, Sem.run_bind, Sem.run_pure, Result.andThen_ok, run_underlying hu]
        have hc : (0 : Int) ≤ Int.ofNat m ∧ Int.ofNat m < (n : Int) := ⟨Int.natCast_nonneg m, Int.ofNat_lt.2 hlt⟩
        rw [if_pos hc]
        simp only [Sem.run_bind, run_sizeOf ht, Result.andThen_ok, Sem.run_pure]
        rw [add_eq]
        simp [Nat.add_assoc]
    · cases h
  · cases h

end Go.Ev
