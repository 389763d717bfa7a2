/- Numbers, strings, comparisons, conversions, interface values. -/
import Derived.Test.YtgdadhopmfpkcaaGreatDoorEvOps2
import Derived.IntWalk
import Derived.Laws.Strings
import Derived.Laws.Cover1
set_option linter.unusedVariables false
set_option linter.unusedSimpArgs false
namespace Go.Ev
open Go.RowKit

variable {P : Program} {B0 : Base} {H : Hid} {s s' : St} {ρ : Ren} {G : Hp} {w : World} {nx : Nx}

theorem wrapF_eq (k : IntKind) (n : Int) : wrapF k n = k.wrap n := by
  cases k <;> try rfl
  cases n with
  | ofNat m =>
    show (Bool.rec (IntKind.i64.wrap (.ofNat m)) (.ofNat m) (Nat.blt m 9223372036854775808) : Int) = _
    rw [brec_ite]
    split
    · rename_i h
      have h : m < 9223372036854775808 := by simpa [Nat.blt_eq] using h
      rw [IntKind.wrap_i64, Int.ofNat_eq_natCast]
      omega
    · rfl
  | negSucc m =>
    show (Bool.rec (IntKind.i64.wrap (.negSucc m)) (.negSucc m) (Nat.blt m 9223372036854775808) : Int) = _
    rw [brec_ite]
    split
    · rename_i h
      have h : m < 9223372036854775808 := by simpa [Nat.blt_eq] using h
      rw [IntKind.wrap_i64, Int.negSucc_eq]
      omega
    · rfl

theorem eqI_eq (a b : Int) : eqI a b = (a == b) := by
  rw [Bool.eq_iff_iff]
  cases a <;> cases b <;> simp [eqI, Nat.beq_eq]
  omega

theorem ltI_eq (a b : Int) : ltI a b = decide (a < b) := by
  rw [Bool.eq_iff_iff]
  cases a <;> cases b <;> simp only [ltI, Nat.blt_eq, decide_eq_true_eq, Bool.false_eq_true, Int.ofNat_eq_natCast, Int.negSucc_eq, true_iff, false_iff] <;> omega

theorem eqL_eq : ∀ (a b : List UInt8), eqL a b = (a == b)
  | [], [] => rfl
  | [], _ :: _ => rfl
  | _ :: _, [] => rfl
  | x :: a, y :: b => by
    rw [eqL, eqL_eq a b, List.cons_beq_cons]
    congr 1
    rw [Bool.eq_iff_iff]
    simp [Nat.beq_eq, UInt8.toNat_inj]

theorem ltL_eq : ∀ (a b : List UInt8), ltL a b = Op.bytesLess a b
  | [], [] => rfl
  | [], _ :: _ => rfl
  | _ :: _, [] => rfl
  | x :: a, y :: b => by
    rw [ltL, Op.bytesLess, ltL_eq a b]
    congr 1
    · rw [Bool.eq_iff_iff]; simp [Nat.blt_eq, UInt8.lt_iff_toNat_lt]
    · congr 1
      rw [Bool.eq_iff_iff]; simp [Nat.beq_eq, UInt8.toNat_inj]

theorem run_pureRun {α : Type} {m : Sem α} {a : α} : pureRun P m = some a → ∀ w, m.run P w = .ok a w := by
  induction m with
  | pure b => intro h w; simp only [pureRun, Option.some.injEq] at h; subst h; rfl
  | program k ih => intro h w; simp only [pureRun] at h; simpa [Sem.run] using ih P h w
  | load m a k ih => intro h; simp [pureRun] at h
  | store m a v k ih => intro h; simp [pureRun] at h
  | new o k ih => intro h; simp [pureRun] at h
  | shape r k ih => intro h; simp [pureRun] at h
  | freeze a n k ih => intro h; simp [pureRun] at h
  | frozen a k ih => intro h; simp [pureRun] at h
  | getObj r k ih => intro h; simp [pureRun] at h
  | setObj r o k ih => intro h; simp [pureRun] at h
  | choose q k ih => intro h; simp [pureRun] at h
  | sys c k ih => intro h; simp [pureRun] at h
  | mark m k ih => intro h; simp [pureRun] at h
  | halt h => intro h; simp [pureRun] at h

/-- the operands can be looked at -/
def Opnds (o : Oper) : Prop := ∀ x ∈ o.op.operands, opndOk x = true

theorem gen_run {tm : Tr Value} {a : Act} {o : Oper} {v : Value} (h : gen P (evO tm) o = some v) (e : EnvR ρ tm a) (ho : Opnds o) (hs : ∀ cs b, o.op ≠ .select cs b) :
    (VR ρ v v ∧ ∀ w, (execOp a.eval o).run P w = .ok (.value v) w) ∨ (v = undef ∧ ∀ w, (execOp a.eval o).run P w = .ok .skip w) := by
  unfold gen at h
  split at h
  · rename_i hg
    have he : execOp (evO tm) o = execOp a.eval o := execOp_congr o hs fun x hx => by
      have h1 := List.all_eq_true.1 hg x (by simpa using hx)
      exact (ground_eq h1 (e.eval (ho x hx))).symm
    rw [he] at h
    split at h
    · rename_i v' hv'
      split at h
      · rename_i hgv
        cases h
        exact .inl ⟨ground_self hgv, run_pureRun hv'⟩
      · cases h
    · rename_i hv'
      cases h
      exact .inr ⟨rfl, run_pureRun hv'⟩
    · cases h
  · cases h

theorem s_gen {T : Tab} {tm : Tr Value} {a : Act} {o : Oper} (h : doGen T o tm s = .ok nx s') (e : EnvR ρ tm a) (ho : Opnds o) (hs : ∀ cs b, o.op ≠ .select cs b) (p : Pre B0 H s s' ρ G w) :
    Done T.prog B0 H s s' ρ G w nx (execOp a.eval o) := by
  obtain ⟨rfl, v, hv, rfl⟩ := okO_spec h
  rcases gen_run hv e ho hs with ⟨h1, h2⟩ | ⟨rfl, h2⟩
  · exact ⟨ρ, w, .value v, h2 w, .val h1, .refl p.sub p.sim⟩
  · exact ⟨ρ, w, .skip, h2 w, .skip, .refl p.sub p.sim⟩

theorem guard_int (op : BinOp) (t : TypeId) (x y : Operand) (k k' : IntKind) (a b : Int) : (eqGuard op t x y (.int k a) (.int k' b)).run P w = .ok () w := by
  unfold eqGuard; split <;> simp

set_option linter.unusedSimpArgs false in
theorem intF_run {op : BinOp} {k : IntKind} {a b : Int} {t : TypeId} {slow : Option Value} {v : Value} (h : intF op k a b slow = some v) :
    slow = some v ∨ (VR ρ v v ∧ ∀ w, (binOp op t (.int k a) (.int k b)).run P w = .ok v w) := by
  have hadd : ∀ a b : Int, Int.add a b = a + b := fun _ _ => rfl
  have hsub : ∀ a b : Int, Int.sub a b = a - b := fun _ _ => rfl
  have hmul : ∀ a b : Int, Int.mul a b = a * b := fun _ _ => rfl
  unfold intF at h
  split at h <;> first | (exact .inl h) | skip
  all_goals
    right
    cases h
    refine ⟨by constructor, fun w => ?_⟩
    simp [binOp, Op.intArith, Op.intCmp, wrapF_eq, eqI_eq, ltI_eq, hadd, hsub, hmul]
    try first | rfl | (rw [Bool.eq_iff_iff]; simp; done) | (rw [Bool.eq_iff_iff]; simp; omega)

theorem guard_else (op : BinOp) (t : TypeId) (x y : Operand) {a b : Value} (h : ∀ c, a ≠ .agg c) (h2 : a ≠ .nilIface) : (eqGuard op t x y a b).run P w = .ok () w := by
  cases a <;> first | exact absurd rfl h2 | exact absurd rfl (h _) | (unfold eqGuard; split <;> simp)

theorem strF_run {op : BinOp} {a b : ByteArray} {t : TypeId} {v : Value} (h : strF op a.data.toList b.data.toList = some v) :
    VR ρ v v ∧ ∀ w, (binOp op t (.string a) (.string b)).run P w = .ok v w := by
  unfold strF at h
  split at h
  · split at h
    · rename_i hle
      cases h
      refine ⟨.string _, fun w => ?_⟩
      simp only [Nat.ble_eq] at hle
      have hsz : a.size + b.size ≤ 4611686018427387904 := by simpa using hle
      simp only [binOp, Op.stringOp]
      rw [if_neg (by show ¬ ((a.size + b.size : Nat) : Int) > IntKind.i64.max; have : IntKind.i64.max = 9223372036854775807 := by decide
                     rw [this]; omega)]
      simp only [Sem.run_pure]
      congr 2
    · cases h
  all_goals first
    | (cases h; done)
    | (cases h
       refine ⟨.bool _, fun w => ?_⟩
       simp [binOp, Op.stringOp, eqL_eq, ltL_eq, ByteArray.toList_eq])

theorem maxDepth_succ : Op.maxDepth = 9999 + 1 := rfl

theorem isSliceT_spec {t : TypeId} (h : isSliceT (tiOf P t) = true) : ∃ e, P.underlying t = some (.slice e) := by
  unfold isSliceT at h
  split at h
  · rename_i e _ _ _ ht
    obtain ⟨_, _, hu, _⟩ := tiOf_spec ht
    exact ⟨e, hu⟩
  · cases h

theorem isPtrT_spec {t : TypeId} (h : isPtrT (tiOf P t) = true) : ∃ e, P.underlying t = some (.pointer e) := by
  unfold isPtrT at h
  split at h
  · rename_i e _ _ _ ht
    obtain ⟨_, _, hu, _⟩ := tiOf_spec ht
    exact ⟨e, hu⟩
  · cases h

theorem isMapT_spec {t : TypeId} (h : isMapT (tiOf P t) = true) : ∃ k e, P.underlying t = some (.map k e) := by
  unfold isMapT at h
  split at h
  · rename_i k e _ _ _ ht
    obtain ⟨_, _, hu, _⟩ := tiOf_spec ht
    exact ⟨k, e, hu⟩
  · cases h

theorem str_of {b : ByteArray} {v : Value} (h : VR ρ (.string b) v) : v = .string b := by cases h; rfl
theorem sliceNil_of {n c : Nat} {v : Value} (h : VR ρ (.slice none n c) v) : v = .slice none n c := by cases h; rfl
theorem ptrNil_of {v : Value} (h : VR ρ (.pointer none) v) : v = .pointer none := by cases h; rfl
theorem mapNil_of {v : Value} (h : VR ρ (.map none) v) : v = .map none := by cases h; rfl
theorem slice_of {q : Option Addr} {n c : Nat} {v : Value} (h : VR ρ (.slice q n c) v) : ∃ q' c', v = .slice q' n c' ∧ q'.isNone = q.isNone := by cases h <;> exact ⟨_, _, rfl, rfl⟩
theorem ptr_of {q : Option Addr} {v : Value} (h : VR ρ (.pointer q) v) : ∃ q', v = .pointer q' ∧ q'.isNone = q.isNone := by cases h <;> exact ⟨_, rfl, rfl⟩
theorem map_of {q : Option Nat} {v : Value} (h : VR ρ (.map q) v) : ∃ q', v = .map q' ∧ q'.isNone = q.isNone := by cases h <;> exact ⟨_, rfl, rfl⟩

theorem run_equal_slice {t e : TypeId} {q : Option Addr} {n c n2 c2 : Nat} (hu : P.underlying t = some (.slice e)) : (Op.equal t (.slice q n c) (.slice none n2 c2)).run P w = .ok q.isNone w := by
  have key : ∀ d, (Op.equalIn (d + 1) t (.slice q n c) (.slice none n2 c2)).run P w = .ok q.isNone w := by
    intro d
    simp only [Op.equalIn, Sem.run_bind, run_underlying hu, Result.andThen_ok]
    cases q <;> simp
  exact key 9999

theorem run_equal_ptr {t e : TypeId} {q : Option Addr} (hu : P.underlying t = some (.pointer e)) : (Op.equal t (.pointer q) (.pointer none)).run P w = .ok q.isNone w := by
  have key : ∀ d, (Op.equalIn (d + 1) t (.pointer q) (.pointer none)).run P w = .ok q.isNone w := by
    intro d
    simp only [Op.equalIn, Sem.run_bind, run_underlying hu, Result.andThen_ok]
    cases q <;> simp
  exact key 9999

theorem run_equal_map {t k e : TypeId} {q : Option Nat} (hu : P.underlying t = some (.map k e)) : (Op.equal t (.map q) (.map none)).run P w = .ok q.isNone w := by
  have key : ∀ d, (Op.equalIn (d + 1) t (.map q) (.map none)).run P w = .ok q.isNone w := by
    intro d
    simp only [Op.equalIn, Sem.run_bind, run_underlying hu, Result.andThen_ok]
    cases q <;> simp
  exact key 9999

theorem s_nilF {op : BinOp} {fits isNil : Bool} {t : TypeId} {x y : Operand} {x' y' : Value} (h : nilF op fits isNil s = .ok nx s') (p : Pre B0 H s s' ρ G w)
    (h2 : fits = true → ∀ w, (Op.equal t x' y').run P w = .ok isNil w) (h3 : ∀ c, x' ≠ .agg c) (h4 : x' ≠ .nilIface)
    (h5 : ∀ w, (binOp .eql t x' y').run P w = (do pure (.bool (← Op.equal t x' y')) : Sem Value).run P w) (h6 : ∀ w, (binOp .neq t x' y').run P w = (do pure (.bool (!(← Op.equal t x' y'))) : Sem Value).run P w) :
    Done P B0 H s s' ρ G w nx (semV (do eqGuard op t x y x' y'; binOp op t x' y')) := by
  obtain ⟨hf, h⟩ := brec_ok h
  have h2 := h2 hf
  split at h
  · obtain ⟨rfl, rfl⟩ := ok_inj h
    refine done_same p ?_ (.bool isNil)
    simp [guard_else _ _ _ _ h3 h4, h5, h2]
  · obtain ⟨rfl, rfl⟩ := ok_inj h
    refine done_same p ?_ (.bool _)
    simp [guard_else _ _ _ _ h3 h4, h6, h2]
  · cases h

theorem s_bin {T : Tab} {tm : Tr Value} {a : Act} {o : Oper} {op : BinOp} {t t2 : TypeId} {x y : Operand} (hop : o.op = .binOp op t x y t2) (h : doBin T o (tiOf T.prog t) op (evO tm x) (evO tm y) tm s = .ok nx s')
    (e : EnvR ρ tm a) (ho : Opnds o) (p : Pre B0 H s s' ρ G w) : Done T.prog B0 H s s' ρ G w nx (execOp a.eval o) := by
  have hs : ∀ cs b, o.op ≠ .select cs b := fun cs b => by rw [hop]; simp
  have hex : execOp a.eval o = semV (do eqGuard op t x y (a.eval x) (a.eval y); binOp op t (a.eval x) (a.eval y)) := by
    unfold execOp; rw [hop]
  have hx := e.eval (ho x (by rw [hop]; simp [Op.operands]))
  have hy := e.eval (ho y (by rw [hop]; simp [Op.operands]))
  unfold doBin at h
  split at h
  · rename_i k i hxe
    rw [hxe] at hx
    have hx' := int_of hx
    split at h
    · rename_i k' j hye
      rw [hye] at hy
      have hy' := int_of hy
      split at h
      · exact s_gen h e ho hs p
      · exact s_gen h e ho hs p
      · obtain ⟨hk, h9⟩ := brec_ok h
        clear h
        have hk : k = k' := by simpa [kindEq] using hk
        subst hk
        obtain ⟨rfl, v, hv, rfl⟩ := okO_spec h9
        rcases intF_run (P := T.prog) (ρ := ρ) (t := t) hv with hg | ⟨h1, h2⟩
        · rcases gen_run hg e ho hs with ⟨h1, h2⟩ | ⟨rfl, h2⟩
          · exact ⟨ρ, w, .value v, h2 w, .val h1, .refl p.sub p.sim⟩
          · exact ⟨ρ, w, .skip, h2 w, .skip, .refl p.sub p.sim⟩
        · rw [hex]
          refine done_same p ?_ h1
          rw [hx', hy']
          simp [guard_int, h2]
    · cases h
  · rename_i b hxe
    rw [hxe] at hx
    split at h
    · rename_i c hye
      rw [hye] at hy
      have hx' := str_of hx
      have hy' := str_of hy
      obtain ⟨rfl, v, hv, rfl⟩ := okO_spec h
      obtain ⟨h1, h2⟩ := strF_run (P := T.prog) (ρ := ρ) (t := t) hv
      rw [hex]
      refine done_same p ?_ h1
      rw [hx', hy']
      simp [guard_else, h2]
    · cases h
  · rename_i q n c hxe
    rw [hxe] at hx
    split at h
    · rename_i n2 c2 hye
      rw [hye] at hy
      have hy' := sliceNil_of hy
      obtain ⟨q', c', hx', hq⟩ := slice_of hx
      rw [hex, hy', hx']
      refine s_nilF h p (fun hf w => ?_) (by simp) (by simp) (fun w => by simp [binOp]) (fun w => by simp [binOp])
      obtain ⟨e', hu⟩ := isSliceT_spec hf
      rw [← hq]
      exact run_equal_slice hu
    · cases h
  · rename_i q hxe
    rw [hxe] at hx
    split at h
    · rename_i hye
      rw [hye] at hy
      have hy' := ptrNil_of hy
      obtain ⟨q', hx', hq⟩ := ptr_of hx
      rw [hex, hy', hx']
      refine s_nilF h p (fun hf w => ?_) (by simp) (by simp) (fun w => by simp [binOp]) (fun w => by simp [binOp])
      obtain ⟨e', hu⟩ := isPtrT_spec hf
      rw [← hq]
      exact run_equal_ptr hu
    · cases h
  · rename_i q hxe
    rw [hxe] at hx
    split at h
    · rename_i hye
      rw [hye] at hy
      have hy' := mapNil_of hy
      obtain ⟨q', hx', hq⟩ := map_of hx
      rw [hex, hy', hx']
      refine s_nilF h p (fun hf w => ?_) (by simp) (by simp) (fun w => by simp [binOp]) (fun w => by simp [binOp])
      obtain ⟨k', e', hu⟩ := isMapT_spec hf
      rw [← hq]
      exact run_equal_map hu
    · cases h
  · exact s_gen h e ho hs p

theorem s_convert {T : Tab} {tm : Tr Value} {a : Act} {o : Oper} {src dst : TypeId} {x : Operand} {k : IntKind} {sd : TypeDesc} (hop : o.op = .convert src dst x)
    (h : doConvert T o k (evO tm x) tm s = .ok nx s') (e : EnvR ρ tm a) (ho : Opnds o) (p : Pre B0 H s s' ρ G w)
    (hsd : T.prog.underlying src = some sd) (hdk : T.prog.underlying dst = some (.int k)) : Done T.prog B0 H s s' ρ G w nx (execOp a.eval o) := by
  have hs : ∀ cs b, o.op ≠ .select cs b := fun cs b => by rw [hop]; simp
  have hx := e.eval (ho x (by rw [hop]; simp [Op.operands]))
  have hex : execOp a.eval o = semV (convert src dst (a.eval x)) := by unfold execOp; rw [hop]
  unfold doConvert at h
  split at h
  · rename_i k0 n hxe
    rw [hxe] at hx
    obtain ⟨rfl, rfl⟩ := ok_inj h
    rw [hex, int_of hx]
    refine done_same p ?_ (.int _ _)
    simp only [convert, Sem.run_bind, run_underlying hsd, run_underlying hdk, Result.andThen_ok, wrapF_eq]
    cases sd <;> simp [Conv.intToInt]
  · exact s_gen h e ho hs p

end Go.Ev
