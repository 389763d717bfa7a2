/- An operation reads its operands alone; some look at no block. -/
import Derived.Test.YtgdadhopmfpkcaaGreatDoorEvBef
set_option linter.unusedVariables false
set_option linter.unusedSimpArgs false
namespace Go.Ev

variable {H : Hid} {s s' : St} {nx : Nx}

/-- an answer, borne by another state -/
def mapSt (s : St) : R Nx → R Nx
  | .ok (.val v) _ => .ok (.val v) s
  | .ok _ _ => .bad "pure"
  | .bad w => .bad w

theorem map_brec {a b a' b' : R Nx} {c : Bool} (h1 : a = mapSt s a') (h2 : b = mapSt s b') : (Bool.rec a b c : R Nx) = mapSt s (Bool.rec a' b' c) := by cases c <;> assumption
theorem map_okO (o : Option Value) : okO s o = mapSt s (okO st0 o) := by cases o <;> rfl

theorem pu_doPick (c a b : Value) : doPick s c a b = mapSt s (doPick st0 c a b) := by
  unfold doPick
  repeat' (first | rfl | exact map_okO _ | (refine map_brec ?_ ?_) | split)
theorem pu_doField (o : Nat) (a : Value) : doField o a s = mapSt s (doField o a st0) := by
  unfold doField
  repeat' (first | rfl | exact map_okO _ | (refine map_brec ?_ ?_) | split)
theorem pu_doIndexS (z : Nat) (x i : Value) : doIndexS z x i s = mapSt s (doIndexS z x i st0) := by
  unfold doIndexS
  repeat' (first | rfl | exact map_okO _ | (refine map_brec ?_ ?_) | split)
theorem pu_doIndexA (n z : Nat) (x i : Value) : doIndexA n z x i s = mapSt s (doIndexA n z x i st0) := by
  unfold doIndexA
  repeat' (first | rfl | exact map_okO _ | (refine map_brec ?_ ?_) | split)
theorem pu_doSlice (z : Nat) (x : Value) (a b c : Option Value) : doSlice z x a b c s = mapSt s (doSlice z x a b c st0) := by
  unfold doSlice
  repeat' (first | rfl | exact map_okO _ | (refine map_brec ?_ ?_) | split)
theorem pu_doSliceStr (x : Value) (a b : Option Value) : doSliceStr x a b s = mapSt s (doSliceStr x a b st0) := by
  unfold doSliceStr
  repeat' (first | rfl | exact map_okO _ | (refine map_brec ?_ ?_) | split)
theorem pu_doGen (T : Tab) (o : Oper) (tm : Tr Value) : doGen T o tm s = mapSt s (doGen T o tm st0) := map_okO _
theorem pu_nilF (op : BinOp) (a b : Bool) : nilF op a b s = mapSt s (nilF op a b st0) := by
  unfold nilF
  repeat' (first | rfl | exact map_okO _ | (refine map_brec ?_ ?_) | split)
theorem pu_doBin (T : Tab) (o : Oper) (ty : Option TI) (op : BinOp) (x y : Value) (tm : Tr Value) : doBin T o ty op x y tm s = mapSt s (doBin T o ty op x y tm st0) := by
  unfold doBin
  repeat' (first | rfl | exact map_okO _ | exact pu_doGen _ _ _ | exact pu_nilF _ _ _ | (refine map_brec ?_ ?_) | split)
theorem pu_doConvert (T : Tab) (o : Oper) (k : IntKind) (x : Value) (tm : Tr Value) : doConvert T o k x tm s = mapSt s (doConvert T o k x tm st0) := by
  unfold doConvert
  repeat' (first | rfl | exact map_okO _ | exact pu_doGen _ _ _ | (refine map_brec ?_ ?_) | split)
theorem pu_doExtract (x : Value) (i : Nat) : doExtract x i s = mapSt s (doExtract x i st0) := by
  unfold doExtract
  repeat' (first | rfl | exact map_okO _ | (refine map_brec ?_ ?_) | split)
theorem pu_doFieldV (g : Bool) (o z : Nat) (x : Value) : doFieldV g o z x s = mapSt s (doFieldV g o z x st0) := by
  unfold doFieldV
  repeat' (first | rfl | exact map_okO _ | (refine map_brec ?_ ?_) | split)
theorem pu_doIndexStr (x i : Value) : doIndexStr x i s = mapSt s (doIndexStr x i st0) := by
  unfold doIndexStr
  repeat' (first | rfl | exact map_okO _ | (refine map_brec ?_ ?_) | split)
theorem pu_doIndexAgg (n : Nat) (g : Bool) (z : Nat) (x i : Value) : doIndexAgg n g z x i s = mapSt s (doIndexAgg n g z x i st0) := by
  unfold doIndexAgg
  repeat' (first | rfl | exact map_okO _ | exact pu_doFieldV _ _ _ _ | (refine map_brec ?_ ?_) | split)
theorem pu_doMakeIface (t : TypeId) (x : Value) : doMakeIface t x s = mapSt s (doMakeIface t x st0) := rfl
theorem pu_doAssert (a : TypeId) (z : Option Value) (ok : Bool) (x : Value) : doAssert a z ok x s = mapSt s (doAssert a z ok x st0) := by
  unfold doAssert
  repeat' (first | rfl | exact map_okO _ | (refine map_brec ?_ ?_) | split)
theorem pu_doNilCheck (x : Value) : doNilCheck x s = mapSt s (doNilCheck x st0) := by
  unfold doNilCheck
  repeat' (first | rfl | exact map_okO _ | (refine map_brec ?_ ?_) | split)
theorem pu_doMakeFunc (fn : Fn) (a b : List Value) : doMakeFunc fn a b s = mapSt s (doMakeFunc fn a b st0) := rfl

theorem pure_cOp {T : Tab} {o : Oper} {f : OpF} (hp : pureOp o.op = true) (hc : cOp T o = .mk f) (tm : Tr Value) : ∃ r, ∀ (H : Hid) (s : St), f H tm s = mapSt s r := by
  obtain ⟨dst, op, ty, pos, after, g⟩ := o
  cases op
  all_goals first | (cases hp; done) | skip
  all_goals
    simp only [cOp] at hc
    repeat' (first
        | (cases hc; first | exact ⟨.bad _, fun _ _ => rfl⟩ | exact ⟨.ok (.val _) st0, fun _ _ => rfl⟩ | exact ⟨_, fun _ _ => pu_doPick _ _ _⟩ | exact ⟨_, fun _ _ => pu_doField _ _⟩ | exact ⟨_, fun _ _ => pu_doIndexS _ _ _⟩ | exact ⟨_, fun _ _ => pu_doIndexA _ _ _ _⟩ | exact ⟨_, fun _ _ => pu_doSlice _ _ _ _ _⟩ | exact ⟨_, fun _ _ => pu_doSliceStr _ _ _⟩ | exact ⟨_, fun _ _ => pu_doGen _ _ _⟩ | exact ⟨_, fun _ _ => pu_doBin _ _ _ _ _ _ _⟩ | exact ⟨_, fun _ _ => pu_doConvert _ _ _ _ _⟩ | exact ⟨_, fun _ _ => pu_doExtract _ _⟩ | exact ⟨_, fun _ _ => pu_doFieldV _ _ _ _⟩ | exact ⟨_, fun _ _ => pu_doIndexStr _ _⟩ | exact ⟨_, fun _ _ => pu_doIndexAgg _ _ _ _ _⟩ | exact ⟨_, fun _ _ => pu_doMakeIface _ _⟩ | exact ⟨_, fun _ _ => pu_doAssert _ _ _ _⟩ | exact ⟨_, fun _ _ => pu_doNilCheck _⟩ | exact ⟨_, fun _ _ => pu_doMakeFunc _ _ _⟩)
        | (rcases brec_or hc with hc | hc)
        | split at hc)

theorem gen_congr {P : Program} {e1 e2 : Operand → Value} {o : Oper} (hs : ∀ cs b, o.op ≠ .select cs b) (h : ∀ x ∈ o.op.operands, e1 x = e2 x) : gen P e1 o = gen P e2 o := by
  unfold gen
  have h1 : o.op.operands.toList.all (fun x => ground (e1 x)) = o.op.operands.toList.all (fun x => ground (e2 x)) := by
    rw [Bool.eq_iff_iff]
    simp only [List.all_eq_true]
    exact ⟨fun k x hx => by rw [← h x (by simpa using hx)]; exact k x hx, fun k x hx => by rw [h x (by simpa using hx)]; exact k x hx⟩
  rw [h1, execOp_congr o hs h]

theorem doGen_congr {T : Tab} {o : Oper} {tm tm2 : Tr Value} (h : gen T.prog (evO tm) o = gen T.prog (evO tm2) o) : doGen T o tm s = doGen T o tm2 s := by
  unfold doGen; rw [h]

theorem doBin_congr {T : Tab} {o : Oper} {tm tm2 : Tr Value} (h : gen T.prog (evO tm) o = gen T.prog (evO tm2) o) (ty : Option TI) (op : BinOp) (x y : Value) : doBin T o ty op x y tm s = doBin T o ty op x y tm2 s := by
  unfold doBin
  simp only [doGen, h]

theorem doConvert_congr {T : Tab} {o : Oper} {tm tm2 : Tr Value} (h : gen T.prog (evO tm) o = gen T.prog (evO tm2) o) (k : IntKind) (x : Value) : doConvert T o k x tm s = doConvert T o k x tm2 s := by
  unfold doConvert
  simp only [doGen, h]

theorem omap_congr {e1 e2 : Operand → Value} {x : Option Operand} (h : ∀ y, x = some y → e1 y = e2 y) : x.map e1 = x.map e2 := by
  cases x with
  | none => rfl
  | some y => simp [h y rfl]

theorem pmap_congr {e1 e2 : Operand → Value} {ps : List (Nat × Operand)} (h : ∀ p ∈ ps, e1 p.2 = e2 p.2) : (ps.map fun p => (p.1, e1 p.2)) = ps.map fun p => (p.1, e2 p.2) :=
  List.map_congr_left fun p hp => by rw [h p hp]

theorem cOp_congr {T : Tab} {o : Oper} {f : OpF} (hc : cOp T o = .mk f) {tm tm2 : Tr Value} (h : ∀ x ∈ o.op.operands, evO tm x = evO tm2 x) (H : Hid) (s : St) : f H tm s = f H tm2 s := by
  by_cases hs : ∃ cs b, o.op = .select cs b
  · obtain ⟨cs, b, hs⟩ := hs
    obtain ⟨dst, op, ty, pos, after, g⟩ := o
    simp only at hs
    subst hs
    simp only [cOp] at hc
    cases hc; rfl
  have hg : gen T.prog (evO tm) o = gen T.prog (evO tm2) o := gen_congr (fun cs b e => hs ⟨cs, b, e⟩) h
  clear hs
  obtain ⟨dst, op, ty, pos, after, g⟩ := o
  cases op
  case call c =>
    obtain ⟨callee, args, ats⟩ := c
    have ha : ∀ x ∈ args, evO tm x = evO tm2 x := fun x hx => h x (by simp [Op.operands, Call.operands, hx])
    have hm : args.toList.map (evO tm) = args.toList.map (evO tm2) := List.map_congr_left fun x hx => ha x (by simpa using hx)
    cases callee
    case value x =>
      have hx : evO tm x = evO tm2 x := h x (by simp [Op.operands, Call.operands])
      cases x <;> simp only [cOp] at hc <;> repeat' (first | (cases hc; first | rfl | (simp only [hm, hx]; done) | (simp only [hm]; done)) | (rcases brec_or hc with hc | hc) | split at hc)
    case invoke r n =>
      have hx : evO tm r = evO tm2 r := h r (by simp [Op.operands, Call.operands])
      cases hc; simp only [hm, hx]
    case builtin b =>
      have hl : ∀ x, x ∈ args.toList → evO tm x = evO tm2 x := fun x hx => ha x (by simpa using hx)
      cases b <;> simp only [cOp] at hc <;> repeat' (first
        | (cases hc; first | rfl | exact doGen_congr hg | (rename_i hal _ _; simp only [hl _ (by rw [hal]; simp)]; done) | (simp_all; done))
        | (rcases brec_or hc with hc | hc) | split at hc)
  case build t ps =>
    have hm : (ps.toList.map fun p => (p.1, evO tm p.2)) = ps.toList.map fun p => (p.1, evO tm2 p.2) := pmap_congr fun p hp => h p.2 (by simp only [Op.operands, List.mem_toArray, List.mem_map]; exact ⟨p, hp, rfl⟩)
    simp only [cOp] at hc
    repeat' (first | (cases hc; first | rfl | (simp only [hm]; done)) | (rcases brec_or hc with hc | hc) | split at hc)
  case buildSlice t n ps =>
    have hm : (ps.toList.map fun p => (p.1, evO tm p.2)) = ps.toList.map fun p => (p.1, evO tm2 p.2) := pmap_congr fun p hp => h p.2 (by simp only [Op.operands, List.mem_toArray, List.mem_map]; exact ⟨p, hp, rfl⟩)
    simp only [cOp] at hc
    repeat' (first | (cases hc; first | rfl | (simp only [hm]; done)) | (rcases brec_or hc with hc | hc) | split at hc)
  case makeFunc fn fi ca =>
    have h1 : fi.toList.map (evO tm) = fi.toList.map (evO tm2) := List.map_congr_left fun x hx => h x (by simp only [Op.operands, Array.mem_append]; exact .inl (by simpa using hx))
    have h2 : ca.toList.map (evO tm) = ca.toList.map (evO tm2) := List.map_congr_left fun x hx => h x (by simp only [Op.operands, Array.mem_append]; exact .inr (by simpa using hx))
    simp only [cOp] at hc
    repeat' (first | (cases hc; first | rfl | (simp only [h1, h2]; done)) | (rcases brec_or hc with hc | hc) | split at hc)
  case slice t x lo hi mx =>
    have h0 : evO tm x = evO tm2 x := h x (by simp [Op.operands])
    have h1 : lo.map (evO tm) = lo.map (evO tm2) := omap_congr fun y hy => h y (by simp [Op.operands, hy])
    have h2 : hi.map (evO tm) = hi.map (evO tm2) := omap_congr fun y hy => h y (by simp [Op.operands, hy])
    have h3 : mx.map (evO tm) = mx.map (evO tm2) := omap_congr fun y hy => h y (by simp [Op.operands, hy])
    simp only [cOp] at hc
    repeat' (first | (cases hc; first | rfl | (simp only [h0, h1, h2, h3]; done) | (simp only [h0, h1, h2]; done)) | (rcases brec_or hc with hc | hc) | split at hc)
  all_goals
    simp only [cOp] at hc
    simp only [Op.operands] at h
    try simp only [List.mem_toArray, List.mem_cons, List.mem_map, Array.mem_append, List.not_mem_nil, or_false, forall_eq_or_imp, forall_eq] at h
    repeat' (first
        | (cases hc; first | rfl | exact doGen_congr hg | (simp only [h]; done) | (simp only [h]; exact doBin_congr hg _ _ _ _) | (simp only [h]; exact doConvert_congr hg _ _))
        | (rcases brec_or hc with hc | hc)
        | split at hc)

end Go.Ev
