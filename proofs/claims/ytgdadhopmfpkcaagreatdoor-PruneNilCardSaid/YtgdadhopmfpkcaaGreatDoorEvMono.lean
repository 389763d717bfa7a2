/- The counter of blocks never falls. -/
import Derived.Test.YtgdadhopmfpkcaaGreatDoorEvOps8
set_option linter.unusedVariables false
set_option linter.unusedSimpArgs false
namespace Go.Ev

variable {H : Hid} {s s' : St} {nx : Nx}

/-- the state that an answer bears -/
def leR (H : Hid) (s : St) (r : R Nx) : Prop := ∀ nx s', r = .ok nx s' → Fr H s s'

theorem le_bad {w : String} : leR H s (.bad w) := fun _ _ h => by cases h
theorem le_same {n : Nx} : leR H s (.ok n s) := fun _ _ h => by cases h; exact Fr.refl H s
theorem le_new {n : Nx} {o : AObj} : leR H s (.ok n (newObj s o)) := fun _ _ h => by cases h; exact Fr.new H s o
theorem le_set {n : Nx} {b : Nat} {o' : AObj} {o : Option AObj} (hb : St.vis H s b = some o') : leR H s (.ok n (setObj s b o)) := fun _ _ h => by cases h; exact Fr.set hb o
theorem le_new_set {n : Nx} {b : Nat} {o' : AObj} {o : Option AObj} {o2 : AObj} (hb : St.vis H s b = some o') : leR H s (.ok n (newObj (setObj s b o) o2)) := fun _ _ h => by cases h; exact (Fr.set hb o).trans (Fr.new H _ o2)
theorem le_brec {a b : R Nx} {c : Bool} (h1 : leR H s a) (h2 : leR H s b) : leR H s (Bool.rec a b c) := by cases c <;> assumption
theorem le_okO {o : Option Value} : leR H s (okO s o) := by cases o with | none => exact le_bad | some v => exact le_same

theorem le_doPick (c a b : Value) : leR H s (doPick s c a b) := by
  unfold doPick
  repeat' (first | exact le_bad | exact le_same | exact le_new | exact le_set (by assumption) | exact le_new_set (by assumption) | exact le_okO | (refine le_brec ?_ ?_) | split)

theorem le_doLoad1 (a : Value) : leR H s (doLoad1 H a s) := by
  unfold doLoad1
  repeat' (first | exact le_bad | exact le_same | exact le_new | exact le_set (by assumption) | exact le_new_set (by assumption) | exact le_okO | (refine le_brec ?_ ?_) | split)

theorem le_doLoadN (n : Nat) (a : Value) : leR H s (doLoadN H n a s) := by
  unfold doLoadN
  repeat' (first | exact le_bad | exact le_same | exact le_new | exact le_set (by assumption) | exact le_new_set (by assumption) | exact le_okO | (refine le_brec ?_ ?_) | split)

theorem le_doStore1 (a v : Value) : leR H s (doStore1 H a v s) := by
  unfold doStore1
  repeat' (first | exact le_bad | exact le_same | exact le_new | exact le_set (by assumption) | exact le_new_set (by assumption) | exact le_okO | (refine le_brec ?_ ?_) | split)

theorem le_doStoreN (n : Nat) (a v : Value) : leR H s (doStoreN H n a v s) := by
  unfold doStoreN
  repeat' (first | exact le_bad | exact le_same | exact le_new | exact le_set (by assumption) | exact le_new_set (by assumption) | exact le_okO | (refine le_brec ?_ ?_) | split)

theorem le_doBox (e : TypeId) (v : Value) : leR H s (doBox e v s) := by
  unfold doBox
  repeat' (first | exact le_bad | exact le_same | exact le_new | exact le_set (by assumption) | exact le_new_set (by assumption) | exact le_okO | (refine le_brec ?_ ?_) | split)

theorem le_doField (o : Nat) (a : Value) : leR H s (doField o a s) := by
  unfold doField
  repeat' (first | exact le_bad | exact le_same | exact le_new | exact le_set (by assumption) | exact le_new_set (by assumption) | exact le_okO | (refine le_brec ?_ ?_) | split)

theorem le_doIndexS (z : Nat) (x i : Value) : leR H s (doIndexS z x i s) := by
  unfold doIndexS
  repeat' (first | exact le_bad | exact le_same | exact le_new | exact le_set (by assumption) | exact le_new_set (by assumption) | exact le_okO | (refine le_brec ?_ ?_) | split)

theorem le_doIndexA (n z : Nat) (x i : Value) : leR H s (doIndexA n z x i s) := by
  unfold doIndexA
  repeat' (first | exact le_bad | exact le_same | exact le_new | exact le_set (by assumption) | exact le_new_set (by assumption) | exact le_okO | (refine le_brec ?_ ?_) | split)

theorem le_doSlice (z : Nat) (x : Value) (a b c : Option Value) : leR H s (doSlice z x a b c s) := by
  unfold doSlice
  repeat' (first | exact le_bad | exact le_same | exact le_new | exact le_set (by assumption) | exact le_new_set (by assumption) | exact le_okO | (refine le_brec ?_ ?_) | split)

theorem le_doSliceStr (x : Value) (a b : Option Value) : leR H s (doSliceStr x a b s) := by
  unfold doSliceStr
  repeat' (first | exact le_bad | exact le_same | exact le_new | exact le_set (by assumption) | exact le_new_set (by assumption) | exact le_okO | (refine le_brec ?_ ?_) | split)

theorem le_doGen (T : Tab) (o : Oper) (tm : Tr Value) : leR H s (doGen T o tm s) := by
  unfold doGen
  repeat' (first | exact le_bad | exact le_same | exact le_new | exact le_set (by assumption) | exact le_new_set (by assumption) | exact le_okO | (refine le_brec ?_ ?_) | split)

theorem le_doBuild (z : List Value) (pl : Nat → Option (Nat × Nat)) (v : List (Nat × Value)) : leR H s (doBuild z pl v s) := by
  unfold doBuild
  repeat' (first | exact le_bad | exact le_same | exact le_new | exact le_set (by assumption) | exact le_new_set (by assumption) | exact le_okO | (refine le_brec ?_ ?_) | split | exact le_doGen _ _ _)

theorem le_doBuildSlice (e n z : Nat) (zs : List Value) (v : List (Nat × Value)) : leR H s (doBuildSlice e n z zs v s) := by
  unfold doBuildSlice
  repeat' (first | exact le_bad | exact le_same | exact le_new | exact le_set (by assumption) | exact le_new_set (by assumption) | exact le_okO | (refine le_brec ?_ ?_) | split | exact le_doGen _ _ _)

theorem le_doMakeSlice (e : Nat) (z : List Value) (y : Nat) (l c : Value) : leR H s (doMakeSlice e z y l c s) := by
  unfold doMakeSlice
  repeat' (first | exact le_bad | exact le_same | exact le_new | exact le_set (by assumption) | exact le_new_set (by assumption) | exact le_okO | (refine le_brec ?_ ?_) | split | exact le_doGen _ _ _)

theorem le_doExtract (x : Value) (i : Nat) : leR H s (doExtract x i s) := by
  unfold doExtract
  repeat' (first | exact le_bad | exact le_same | exact le_new | exact le_set (by assumption) | exact le_new_set (by assumption) | exact le_okO | (refine le_brec ?_ ?_) | split | exact le_doGen _ _ _)

theorem le_doFieldV (g : Bool) (o z : Nat) (x : Value) : leR H s (doFieldV g o z x s) := by
  unfold doFieldV
  repeat' (first | exact le_bad | exact le_same | exact le_new | exact le_set (by assumption) | exact le_new_set (by assumption) | exact le_okO | (refine le_brec ?_ ?_) | split | exact le_doGen _ _ _)

theorem le_doIndexStr (x i : Value) : leR H s (doIndexStr x i s) := by
  unfold doIndexStr
  repeat' (first | exact le_bad | exact le_same | exact le_new | exact le_set (by assumption) | exact le_new_set (by assumption) | exact le_okO | (refine le_brec ?_ ?_) | split | exact le_doGen _ _ _ | exact le_doFieldV _ _ _ _)

theorem le_doIndexAgg (n : Nat) (g : Bool) (z : Nat) (x i : Value) : leR H s (doIndexAgg n g z x i s) := by
  unfold doIndexAgg
  repeat' (first | exact le_bad | exact le_same | exact le_new | exact le_set (by assumption) | exact le_new_set (by assumption) | exact le_okO | (refine le_brec ?_ ?_) | split | exact le_doGen _ _ _ | exact le_doFieldV _ _ _ _)

theorem le_doMakeIface (t : TypeId) (x : Value) : leR H s (doMakeIface t x s) := by
  unfold doMakeIface
  repeat' (first | exact le_bad | exact le_same | exact le_new | exact le_set (by assumption) | exact le_new_set (by assumption) | exact le_okO | (refine le_brec ?_ ?_) | split | exact le_doGen _ _ _ | exact le_doFieldV _ _ _ _)

theorem le_doAssert (t : TypeId) (z : Option Value) (ok : Bool) (x : Value) : leR H s (doAssert t z ok x s) := by
  unfold doAssert
  repeat' (first | exact le_bad | exact le_same | exact le_new | exact le_set (by assumption) | exact le_new_set (by assumption) | exact le_okO | (refine le_brec ?_ ?_) | split | exact le_doGen _ _ _ | exact le_doFieldV _ _ _ _)

theorem le_doNilCheck (x : Value) : leR H s (doNilCheck x s) := by
  unfold doNilCheck
  repeat' (first | exact le_bad | exact le_same | exact le_new | exact le_set (by assumption) | exact le_new_set (by assumption) | exact le_okO | (refine le_brec ?_ ?_) | split | exact le_doGen _ _ _ | exact le_doFieldV _ _ _ _)

theorem le_doLookup (d : TypeDesc) (z : Value) (ok : Bool) (m k : Value) : leR H s (doLookup H d z ok m k s) := by
  unfold doLookup
  repeat' (first | exact le_bad | exact le_same | exact le_new | exact le_set (by assumption) | exact le_new_set (by assumption) | exact le_okO | (refine le_brec ?_ ?_) | split | exact le_doGen _ _ _ | exact le_doFieldV _ _ _ _)

theorem le_doUpdate (d : TypeDesc) (m k v : Value) : leR H s (doUpdate H d m k v s) := by
  unfold doUpdate
  repeat' (first | exact le_bad | exact le_same | exact le_new | exact le_set (by assumption) | exact le_new_set (by assumption) | exact le_okO | (refine le_brec ?_ ?_) | split | exact le_doGen _ _ _ | exact le_doFieldV _ _ _ _)

theorem le_doDelete (d : TypeDesc) (m k : Value) : leR H s (doDelete H d m k s) := by
  unfold doDelete
  repeat' (first | exact le_bad | exact le_same | exact le_new | exact le_set (by assumption) | exact le_new_set (by assumption) | exact le_okO | (refine le_brec ?_ ?_) | split | exact le_doGen _ _ _ | exact le_doFieldV _ _ _ _)

theorem le_doLen (t : Option TI) (x : Value) : leR H s (doLen H t x s) := by
  unfold doLen
  repeat' (first | exact le_bad | exact le_same | exact le_new | exact le_set (by assumption) | exact le_new_set (by assumption) | exact le_okO | (refine le_brec ?_ ?_) | split | exact le_doGen _ _ _ | exact le_doFieldV _ _ _ _)

theorem le_doAppend (e z y : Nat) (x v : Value) : leR H s (doAppend H e z y x v s) := by
  unfold doAppend
  repeat' (first | exact le_bad | exact le_same | exact le_new | exact le_set (by assumption) | exact le_new_set (by assumption) | exact le_okO | (refine le_brec ?_ ?_) | split | exact le_doGen _ _ _ | exact le_doFieldV _ _ _ _)

theorem le_doConvert (T : Tab) (o : Oper) (k : IntKind) (x : Value) (tm : Tr Value) : leR H s (doConvert T o k x tm s) := by
  unfold doConvert
  repeat' (first | exact le_bad | exact le_same | exact le_new | exact le_set (by assumption) | exact le_new_set (by assumption) | exact le_okO | (refine le_brec ?_ ?_) | split | exact le_doGen _ _ _ | exact le_doFieldV _ _ _ _)

theorem le_doCallV (P : Program) (f : Value) (l : List Value) : leR H s (doCallV P f l s) := by
  unfold doCallV
  repeat' (first | exact le_bad | exact le_same | exact le_new | exact le_set (by assumption) | exact le_new_set (by assumption) | exact le_okO | (refine le_brec ?_ ?_) | split | exact le_doGen _ _ _ | exact le_doFieldV _ _ _ _)

theorem le_doInvoke (P : Program) (n : String) (x : Value) (l : List Value) : leR H s (doInvoke P n x l s) := by
  unfold doInvoke
  repeat' (first | exact le_bad | exact le_same | exact le_new | exact le_set (by assumption) | exact le_new_set (by assumption) | exact le_okO | (refine le_brec ?_ ?_) | split | exact le_doGen _ _ _ | exact le_doFieldV _ _ _ _)

theorem le_doMakeFunc (fn : Fn) (a b : List Value) : leR H s (doMakeFunc fn a b s) := by
  unfold doMakeFunc
  repeat' (first | exact le_bad | exact le_same | exact le_new | exact le_set (by assumption) | exact le_new_set (by assumption) | exact le_okO | (refine le_brec ?_ ?_) | split | exact le_doGen _ _ _ | exact le_doFieldV _ _ _ _)

theorem le_nilF (op : BinOp) (a b : Bool) : leR H s (nilF op a b s) := by
  unfold nilF
  repeat' (first | exact le_bad | exact le_same | exact le_new | exact le_set (by assumption) | exact le_new_set (by assumption) | exact le_okO | (refine le_brec ?_ ?_) | split | exact le_doGen _ _ _ | exact le_doFieldV _ _ _ _)

theorem le_doBin (T : Tab) (o : Oper) (ty : Option TI) (op : BinOp) (x y : Value) (tm : Tr Value) : leR H s (doBin T o ty op x y tm s) := by
  unfold doBin
  repeat' (first | exact le_bad | exact le_same | exact le_new | exact le_set (by assumption) | exact le_new_set (by assumption) | exact le_okO | (refine le_brec ?_ ?_) | split | exact le_doGen _ _ _ | exact le_doFieldV _ _ _ _ | exact le_nilF _ _ _)

theorem brec_or {α : Type _} {a b x : α} {c : Bool} (h : (Bool.rec a b c : α) = x) : a = x ∨ b = x := by cases c <;> simp_all

theorem le_cOp {T : Tab} {o : Oper} {f : OpF} (hc : cOp T o = .mk f) (H : Hid) (tm : Tr Value) (s : St) : leR H s (f H tm s) := by
  obtain ⟨dst, op, ty, pos, after, g⟩ := o
  have fin : ∀ {f : OpF}, (leR H s (f H tm s)) → leR H s (f H tm s) := fun h => h
  cases op
  case call c =>
    obtain ⟨callee, args, ats⟩ := c
    cases callee
    case value x =>
      cases x <;> simp only [cOp] at hc <;> repeat' (first
        | (cases hc; first | exact le_bad | exact le_same | exact le_doPick _ _ _ | exact le_doLoad1 _ | exact le_doLoadN _ _ | exact le_doStore1 _ _ | exact le_doStoreN _ _ _ | exact le_doBox _ _ | exact le_doField _ _ | exact le_doIndexS _ _ _ | exact le_doIndexA _ _ _ _ | exact le_doSlice _ _ _ _ _ | exact le_doSliceStr _ _ _ | exact le_doGen _ _ _ | exact le_doBuild _ _ _ | exact le_doBuildSlice _ _ _ _ _ | exact le_doMakeSlice _ _ _ _ _ | exact le_doExtract _ _ | exact le_doFieldV _ _ _ _ | exact le_doIndexStr _ _ | exact le_doIndexAgg _ _ _ _ _ | exact le_doMakeIface _ _ | exact le_doAssert _ _ _ _ | exact le_doNilCheck _ | exact le_doLookup _ _ _ _ _ | exact le_doUpdate _ _ _ _ | exact le_doDelete _ _ _ | exact le_doLen _ _ | exact le_doAppend _ _ _ _ _ | exact le_doConvert _ _ _ _ _ | exact le_doCallV _ _ _ | exact le_doInvoke _ _ _ _ | exact le_doMakeFunc _ _ _ | exact le_nilF _ _ _ | exact le_doBin _ _ _ _ _ _ _)
        | (rcases brec_or hc with hc | hc)
        | split at hc)
    case invoke r n => cases hc; exact le_doInvoke _ _ _ _
    case builtin b =>
      cases b <;> simp only [cOp] at hc <;> repeat' (first
        | (cases hc; first | exact le_bad | exact le_same | exact le_doPick _ _ _ | exact le_doLoad1 _ | exact le_doLoadN _ _ | exact le_doStore1 _ _ | exact le_doStoreN _ _ _ | exact le_doBox _ _ | exact le_doField _ _ | exact le_doIndexS _ _ _ | exact le_doIndexA _ _ _ _ | exact le_doSlice _ _ _ _ _ | exact le_doSliceStr _ _ _ | exact le_doGen _ _ _ | exact le_doBuild _ _ _ | exact le_doBuildSlice _ _ _ _ _ | exact le_doMakeSlice _ _ _ _ _ | exact le_doExtract _ _ | exact le_doFieldV _ _ _ _ | exact le_doIndexStr _ _ | exact le_doIndexAgg _ _ _ _ _ | exact le_doMakeIface _ _ | exact le_doAssert _ _ _ _ | exact le_doNilCheck _ | exact le_doLookup _ _ _ _ _ | exact le_doUpdate _ _ _ _ | exact le_doDelete _ _ _ | exact le_doLen _ _ | exact le_doAppend _ _ _ _ _ | exact le_doConvert _ _ _ _ _ | exact le_doCallV _ _ _ | exact le_doInvoke _ _ _ _ | exact le_doMakeFunc _ _ _ | exact le_nilF _ _ _ | exact le_doBin _ _ _ _ _ _ _)
        | (rcases brec_or hc with hc | hc)
        | split at hc)
  all_goals
    simp only [cOp] at hc
    repeat' (first
        | (cases hc; first | exact le_bad | exact le_same | exact le_new | exact le_doPick _ _ _ | exact le_doLoad1 _ | exact le_doLoadN _ _ | exact le_doStore1 _ _ | exact le_doStoreN _ _ _ | exact le_doBox _ _ | exact le_doField _ _ | exact le_doIndexS _ _ _ | exact le_doIndexA _ _ _ _ | exact le_doSlice _ _ _ _ _ | exact le_doSliceStr _ _ _ | exact le_doGen _ _ _ | exact le_doBuild _ _ _ | exact le_doBuildSlice _ _ _ _ _ | exact le_doMakeSlice _ _ _ _ _ | exact le_doExtract _ _ | exact le_doFieldV _ _ _ _ | exact le_doIndexStr _ _ | exact le_doIndexAgg _ _ _ _ _ | exact le_doMakeIface _ _ | exact le_doAssert _ _ _ _ | exact le_doNilCheck _ | exact le_doLookup _ _ _ _ _ | exact le_doUpdate _ _ _ _ | exact le_doDelete _ _ _ | exact le_doLen _ _ | exact le_doAppend _ _ _ _ _ | exact le_doConvert _ _ _ _ _ | exact le_doCallV _ _ _ | exact le_doInvoke _ _ _ _ | exact le_doMakeFunc _ _ _ | exact le_nilF _ _ _ | exact le_doBin _ _ _ _ _ _ _)
        | (rcases brec_or hc with hc | hc)
        | split at hc)

end Go.Ev
