/-
  An executable, deterministic semantics of the model's code over an abstract heap ("evaluator"): definitions.
  Blocks of the abstract heap are numbered by a counter of their own; a slice that grew by append has an unknown capacity
  (its address bears the mark 'some 1' as its spot), and an append to it leaves its old block dead.
-/
import Derived.Calls
import Derived.Orders
set_option linter.unusedVariables false
set_option linter.unusedSimpArgs false
namespace Go.Ev

inductive Tr (α : Type) where
  | lf
  | nd (l : Tr α) (v : Option α) (r : Tr α)

noncomputable def Tr.get {α : Type} (t : Tr α) : Nat → Option α :=
  Tr.rec (motive := fun _ => Nat → Option α) (fun _ => none)
    (fun _ v _ gl gr n => Bool.rec (Bool.rec (gr (Nat.sub (Nat.div n (nat_lit 2)) (nat_lit 1))) (gl (Nat.div n (nat_lit 2))) (Nat.beq (Nat.mod n (nat_lit 2)) (nat_lit 1))) v (Nat.beq n (nat_lit 0))) t

noncomputable def Tr.setF {α : Type} (x : Option α) (f : Nat) : Tr α → Nat → Tr α :=
  Nat.rec (motive := fun _ => Tr α → Nat → Tr α) (fun t _ => t)
    (fun _ ih t n => Tr.rec (motive := fun _ => Tr α)
      (Bool.rec (Bool.rec (.nd .lf none (ih .lf (Nat.sub (Nat.div n (nat_lit 2)) (nat_lit 1)))) (.nd (ih .lf (Nat.div n (nat_lit 2))) none .lf) (Nat.beq (Nat.mod n (nat_lit 2)) (nat_lit 1))) (.nd .lf x .lf) (Nat.beq n (nat_lit 0)))
      (fun l v r _ _ => Bool.rec (Bool.rec (.nd l v (ih r (Nat.sub (Nat.div n (nat_lit 2)) (nat_lit 1)))) (.nd (ih l (Nat.div n (nat_lit 2))) v r) (Nat.beq (Nat.mod n (nat_lit 2)) (nat_lit 1))) (.nd l x r) (Nat.beq n (nat_lit 0))) t) f

noncomputable def Tr.set {α : Type} (t : Tr α) (n : Nat) (x : Option α) : Tr α := setF x (Nat.succ n) t n

/-- objects of the abstract heap -/
inductive AObj where
  | cells (c : Tr Value) (n : Nat) (elem : TypeId)
  | map (es : List MapEntry) (clock : Nat)
  | loop (l : Loop)
  | marks (taken : Bool)

structure St where
  heap : Tr AObj
  next : Nat
  log : List Nat

/-- ranges of blocks that are not to be looked at -/
abbrev Hid := List (Nat × Nat)

inductive R (α : Type) where
  | ok (a : α) (s : St)
  | bad (why : String)

noncomputable def R.bind {α β : Type} (r : R α) (f : α → St → R β) : R β :=
  R.rec (motive := fun _ => R β) (fun a s => f a s) (fun w => .bad w) r

noncomputable def hidden (l : Hid) (i : Nat) : Bool :=
  List.rec (motive := fun _ => Bool) false (fun p _ ih => Bool.rec ih (Bool.rec true ih (Nat.ble p.2 i)) (Nat.ble p.1 i)) l

noncomputable def St.vis (H : Hid) (s : St) (i : Nat) : Option AObj := Bool.rec (s.heap.get i) none (hidden H i)

noncomputable def trOf (l : List Value) : Nat → Tr Value → Tr Value :=
  List.rec (motive := fun _ => Nat → Tr Value → Tr Value) (fun _ t => t) (fun v _ ih i t => ih (Nat.succ i) (t.set i (some v))) l

structure TI where
  und : TypeDesc
  size : Nat
  agg : Bool
  zero : Option Value

structure FI where
  body : Code
  ntmps : Nat
  results : List ResultVar

def tiOf (P : Program) (t : TypeId) : Option TI :=
  match P.info? t with
  | some i => match P.underlying t with
    | some d => some { und := d, size := i.size, agg := (match d with | .struct _ | .array _ _ => true | _ => false), zero := i.zero }
    | none => none
  | none => none

def fiOf (P : Program) (f : FuncId) : Option FI :=
  match P.funcs[f]? with
  | some fn => match fn.body with
    | some c => some { body := c, ntmps := fn.ntmps, results := fn.results.toList }
    | none => none
  | none => none

structure Tab where
  prog : Program
  sum : FuncId → List Value → Option Value
  memo : FuncId → List Value → Hid → St → Option (Value × St)
  inv : World → Prop := fun _ => True

/-- no address in it, down to a depth -/
def groundF : Nat → Value → Bool
  | 0, _ => false
  | n + 1, v => match v with
    | .bool _ | .int _ _ | .float _ _ | .complex _ _ _ | .string _ | .nilFunc | .nilIface => true
    | .pointer a => a.isNone
    | .slice a n c => a.isNone && Nat.beq n 0 && Nat.beq c 0
    | .map r => r.isNone
    | .chan r => r.isNone
    | .func fn first captured => (match fn with | .yield _ => false | _ => true) && first.toList.all (groundF n) && captured.toList.all (groundF n)
    | .iface _ v => groundF n v
    | .agg cs => cs.toList.all (groundF n)
    | .tuple vs => vs.toList.all (groundF n)

def ground (v : Value) : Bool := groundF 8 v

noncomputable def ldN (c : Tr Value) (o : Nat) (n : Nat) : List Value → Option (List Value) :=
  Nat.rec (motive := fun _ => List Value → Option (List Value)) (fun acc => some acc)
    (fun n ih acc => Option.rec none (fun v => ih (v :: acc)) (c.get (Nat.add o n))) n

noncomputable def stN (o : Nat) (l : List Value) : Nat → Tr Value → Tr Value :=
  List.rec (motive := fun _ => Nat → Tr Value → Tr Value) (fun _ c => c) (fun v _ ih k c => ih (Nat.succ k) (c.set (Nat.add o k) (some v))) l

noncomputable def newObj (s : St) (o : AObj) : St := { heap := s.heap.set s.next (some o), next := Nat.succ s.next, log := s.log }

noncomputable def setObj (s : St) (b : Nat) (o : Option AObj) : St := { heap := s.heap.set b o, next := s.next, log := b :: s.log }

def oneC : Value → Bool
  | .agg _ | .tuple _ => false
  | _ => true

/-- what an operation comes to -/
inductive Nx where
  | val (v : Value)
  | enter (f : FuncId) (args : List Value)
  | round (l : Nat) (f : FuncId) (tmps : Array Value) (assign body : Code)

def envT (o : Option Value) : Value := match o with | some v => v | none => undef

noncomputable def evO (tmps : Tr Value) : Operand → Value
  | .tmp t => envT (tmps.get t)
  | .const v => v
  | .global g => .pointer (some ⟨g, 0, none⟩)
  | .func f => .func (.func f) #[] #[]

def opndOk : Operand → Bool
  | .tmp _ | .func _ => true
  | .const v => ground v
  | .global _ => false

inductive Box (α : Type) where
  | mk (a : α)

abbrev OpF := Hid → Tr Value → St → R Nx

def pureRun {α : Type} (P : Program) : Sem α → Option α
  | .pure a => some a
  | .program k => pureRun P (k P)
  | _ => none

def ptr (b o : Nat) : Value := .pointer (some ⟨b, o, none⟩)
def goIntV (n : Nat) : Value := .int .i64 n

noncomputable def doPick (s : St) (c a b : Value) : R Nx := match c with
  | .bool t => .ok (.val (Bool.rec b a t)) s
  | _ => .bad "pick"

noncomputable def doLoad1 (H : Hid) (a : Value) (s : St) : R Nx :=
  match a with
  | .pointer (some ⟨b, o, none⟩) =>
    match St.vis H s b with
    | some (.cells c _ _) => match c.get o with
      | some v => .ok (.val v) s
      | none => .bad "load cell"
    | _ => .bad "load block"
  | _ => .bad "load address"

noncomputable def doLoadN (H : Hid) (n : Nat) (a : Value) (s : St) : R Nx :=
  match a with
  | .pointer (some ⟨b, o, none⟩) =>
    match St.vis H s b with
    | some (.cells c _ _) => match ldN c o n [] with
      | some l => .ok (.val (.agg ⟨l⟩)) s
      | none => .bad "load cell"
    | _ => .bad "load block"
  | _ => .bad "load address"

noncomputable def doStore1 (H : Hid) (a v : Value) (s : St) : R Nx :=
  match a with
  | .pointer (some ⟨b, o, none⟩) =>
    match St.vis H s b with
    | some (.cells c n e) => Bool.rec (.bad "store value") (Bool.rec (.bad "store off") (.ok (.val undef) (setObj s b (some (.cells (c.set o (some v)) n e)))) (Nat.blt o n)) (oneC v)
    | _ => .bad "store block"
  | _ => .bad "store address"

noncomputable def doStoreN (H : Hid) (k : Nat) (a v : Value) (s : St) : R Nx :=
  match a with
  | .pointer (some ⟨b, o, none⟩) =>
    match St.vis H s b with
    | some (.cells c n e) => match v with
      | .agg cs => Bool.rec (.bad "store value") (Bool.rec (.bad "store size") (Bool.rec (.bad "store off") (.ok (.val undef) (setObj s b (some (.cells (stN o cs.toList 0 c) n e)))) (Nat.ble (o + k) n)) (Nat.beq cs.toList.length k)) (cs.toList.all oneC)
      | _ => .bad "store value"
    | _ => .bad "store block"
  | _ => .bad "store address"

noncomputable def doBox (e : TypeId) (v : Value) (s : St) : R Nx :=
  match v with
  | .agg cs => .ok (.val (ptr s.next 0)) (newObj s (.cells (trOf cs.toList 0 .lf) cs.toList.length e))
  | v => .ok (.val (ptr s.next 0)) (newObj s (.cells (.nd .lf (some v) .lf) 1 e))

def doField (off : Nat) (a : Value) (s : St) : R Nx := match a with
  | .pointer (some ⟨b, o, none⟩) => .ok (.val (ptr b (Nat.add o off))) s
  | _ => .bad "field address"

noncomputable def doIndexS (sz : Nat) (x i : Value) (s : St) : R Nx := match x with
  | .slice (some ⟨b, o, _⟩) n _ => match i with
    | .int _ (.ofNat i) => Bool.rec (.bad "index range") (.ok (.val (ptr b (Nat.add o (Nat.mul i sz)))) s) (Nat.blt i n)
    | _ => .bad "index int"
  | _ => .bad "index slice"

noncomputable def doIndexA (n sz : Nat) (x i : Value) (s : St) : R Nx := match x with
  | .pointer (some ⟨b, o, none⟩) => match i with
    | .int _ (.ofNat i) => Bool.rec (.bad "index range") (.ok (.val (ptr b (Nat.add o (Nat.mul i sz)))) s) (Nat.blt i n)
    | _ => .bad "index int"
  | _ => .bad "index array"

def sb (x : Option Value) (d : Nat) : Option Nat := match x with
  | none => some d
  | some (.int _ i) => match i with | .ofNat n => some n | .negSucc _ => none
  | _ => none

noncomputable def doSlice (sz : Nat) (x : Value) (lo hi mx : Option Value) (s : St) : R Nx := match x with
  | .slice base n cap => match sb lo 0 with
    | some l => match sb hi n with
      | some h => match base with
        | none => Bool.rec (.bad "slice nil range") (.ok (.val (.slice none 0 0)) s) (Nat.beq h 0 && Nat.beq l 0 && mx.isNone && Nat.beq n 0 && Nat.beq cap 0)
        | some ⟨b, o, none⟩ => match mx with
          | none => Bool.rec (.bad "slice range") (.ok (.val (.slice (some ⟨b, Nat.add o (Nat.mul l sz), none⟩) (Nat.sub h l) (Nat.sub cap l))) s) (Nat.ble l h && Nat.ble h cap)
          | some (.int _ (.ofNat m)) => Bool.rec (.bad "slice3 range") (.ok (.val (.slice (some ⟨b, Nat.add o (Nat.mul l sz), none⟩) (Nat.sub h l) (Nat.sub m l))) s) (Nat.ble l h && Nat.ble h m && Nat.ble m cap)
          | _ => .bad "slice3"
        | some ⟨b, o, some z⟩ => match mx with
          | none => Bool.rec (.bad "slice range") (.ok (.val (.slice (some ⟨b, Nat.add o (Nat.mul l sz), some z⟩) (Nat.sub h l) (Nat.sub h l))) s) (Nat.ble l h && Nat.ble h n && Nat.beq z sz)
          | some (.int _ (.ofNat m)) => Bool.rec (.bad "slice3 range") (.ok (.val (.slice (some ⟨b, Nat.add o (Nat.mul l sz), none⟩) (Nat.sub h l) (Nat.sub m l))) s) (Nat.ble l h && Nat.ble h m && Nat.ble m n)
          | _ => .bad "slice3"
      | none => .bad "slice bounds"
    | none => .bad "slice bounds"
  | _ => .bad "slice what"

noncomputable def doSliceStr (x : Value) (lo hi : Option Value) (s : St) : R Nx := match x with
  | .string str => match sb lo 0 with
    | some l => match sb hi str.size with
      | some h => Bool.rec (.bad "slice string range") (.ok (.val (.string (str.extract l h))) s) (Nat.ble l h && Nat.ble h str.size)
      | none => .bad "slice string bounds"
    | none => .bad "slice string bounds"
  | _ => .bad "slice string"

/- integers -/
noncomputable def wrapF (k : IntKind) (n : Int) : Int :=
  match k with
  | .i64 => Int.rec (motive := fun _ => Int) (fun m => Bool.rec (IntKind.i64.wrap (.ofNat m)) (.ofNat m) (Nat.blt m 9223372036854775808)) (fun m => Bool.rec (IntKind.i64.wrap (.negSucc m)) (.negSucc m) (Nat.blt m 9223372036854775808)) n
  | k => k.wrap n

def ltI : Int → Int → Bool
  | .ofNat a, .ofNat b => Nat.blt a b
  | .negSucc _, .ofNat _ => true
  | .ofNat _, .negSucc _ => false
  | .negSucc a, .negSucc b => Nat.blt b a

def eqI : Int → Int → Bool
  | .ofNat a, .ofNat b => Nat.beq a b
  | .negSucc a, .negSucc b => Nat.beq a b
  | _, _ => false

noncomputable def intF (op : BinOp) (k : IntKind) (a b : Int) (slow : Option Value) : Option Value :=
  match op with
  | .add => some (.int k (wrapF k (Int.add a b)))
  | .sub => some (.int k (wrapF k (Int.sub a b)))
  | .mul => some (.int k (wrapF k (Int.mul a b)))
  | .eql => some (.bool (eqI a b))
  | .neq => some (.bool (!(eqI a b)))
  | .lss => some (.bool (ltI a b))
  | .leq => some (.bool (!(ltI b a)))
  | .gtr => some (.bool (ltI b a))
  | .geq => some (.bool (!(ltI a b)))
  | _ => slow

def eqL : List UInt8 → List UInt8 → Bool
  | [], [] => true
  | a :: l, b :: m => Nat.beq a.toNat b.toNat && eqL l m
  | _, _ => false

def ltL : List UInt8 → List UInt8 → Bool
  | _, [] => false
  | [], _ :: _ => true
  | a :: l, b :: m => Nat.blt a.toNat b.toNat || (Nat.beq a.toNat b.toNat && ltL l m)

def strF (op : BinOp) (x y : List UInt8) : Option Value :=
  match op with
  | .add => if Nat.ble (x.length + y.length) 4611686018427387904 then some (.string ⟨⟨x ++ y⟩⟩) else none
  | .eql => some (.bool (eqL x y))
  | .neq => some (.bool (!(eqL x y)))
  | .lss => some (.bool (ltL x y))
  | .leq => some (.bool (ltL x y || eqL x y))
  | .gtr => some (.bool (!(ltL x y || eqL x y)))
  | .geq => some (.bool (!(ltL x y)))
  | _ => none

def okO (s : St) : Option Value → R Nx
  | some v => .ok (.val v) s
  | none => .bad "op"

def kindEq : IntKind → IntKind → Bool := fun a b => decide (a = b)

/-- an operation on values without addresses, carried out by the model's own text -/
def gen (P : Program) (env : Operand → Value) (o : Oper) : Option Value :=
  if o.op.operands.toList.all (fun x => ground (env x)) then
    match pureRun P (execOp env o) with
    | some (.value v) => if ground v then some v else none
    | some .skip => some undef
    | _ => none
  else none

noncomputable def doGen (T : Tab) (o : Oper) (tm : Tr Value) (s : St) : R Nx := okO s (gen T.prog (evO tm) o)

/-- a comparison with nil -/
noncomputable def nilF (op : BinOp) (fits isNil : Bool) (s : St) : R Nx :=
  Bool.rec (.bad "binop nil") (match op with
      | .eql => .ok (.val (.bool isNil)) s
      | .neq => .ok (.val (.bool (!isNil))) s
      | _ => .bad "binop nil") fits

def isSliceT : Option TI → Bool | some { und := .slice _, .. } => true | _ => false
def isPtrT : Option TI → Bool | some { und := .pointer _, .. } => true | _ => false
def isMapT : Option TI → Bool | some { und := .map _ _, .. } => true | _ => false

noncomputable def doBin (T : Tab) (o : Oper) (ty : Option TI) (op : BinOp) (x y : Value) (tm : Tr Value) (s : St) : R Nx :=
  match x with
  | .int k a => match y with
    | .int k' b => match op with
      | .shl | .shr => doGen T o tm s
      | _ => Bool.rec (.bad "binop kinds") (okO s (intF op k a b (gen T.prog (evO tm) o))) (kindEq k k')
    | _ => .bad "binop int"
  | .string a => match y with
    | .string b => okO s (strF op a.data.toList b.data.toList)
    | _ => .bad "binop string"
  | .slice p _ _ => match y with
    | .slice none _ _ => nilF op (isSliceT ty) p.isNone s
    | _ => .bad "binop slice"
  | .pointer p => match y with
    | .pointer none => nilF op (isPtrT ty) p.isNone s
    | _ => .bad "binop pointers"
  | .map p => match y with
    | .map none => nilF op (isMapT ty) p.isNone s
    | _ => .bad "binop maps"
  | _ => doGen T o tm s

/- making values -/
def vcells : Value → List Value
  | .agg cs => cs.toList
  | v => [v]

/-- the places of all fields of a struct -/
def structPlaces (P : Program) : List Field → Option (List (Nat × Nat))
  | [] => some []
  | f :: fs => match tiOf P f.type with
    | some ti => match structPlaces P fs with
      | some l => some ((f.offset, ti.size) :: l)
      | none => none
    | none => none

noncomputable def doBuild (zs : List Value) (place : Nat → Option (Nat × Nat)) (vs : List (Nat × Value)) (s : St) : R Nx :=
  match Instr.fill place ⟨zs⟩ vs with
  | some l => .ok (.val (.agg l)) s
  | none => .bad "build"

def repl (z : List Value) : Nat → List Value
  | 0 => []
  | n + 1 => z ++ repl z n

noncomputable def doBuildSlice (e : TypeId) (n sz : Nat) (z : List Value) (vs : List (Nat × Value)) (s : St) : R Nx :=
  match Instr.fill (fun i => some (i * sz, sz)) ⟨repl z n⟩ vs with
  | some l => .ok (.val (.slice (some ⟨s.next, 0, none⟩) n n)) (newObj s (.cells (trOf l.toList 0 .lf) (n * sz) e))
  | none => .bad "buildSlice"

noncomputable def doMakeSlice (e : TypeId) (z : List Value) (by_ : Nat) (l c : Value) (s : St) : R Nx :=
  match l with
  | .int _ (.ofNat n) => match c with
    | .int _ (.ofNat m) => Bool.rec (.bad "makeSlice") (.ok (.val (.slice (some ⟨s.next, 0, none⟩) n m)) (newObj s (.cells (trOf (repl z m) 0 .lf) (m * z.length) e))) (Nat.ble n m && Nat.ble (m * (by_ + 1)) 4294967296)
    | _ => .bad "makeSlice"
  | _ => .bad "makeSlice"

noncomputable def doExtract (x : Value) (i : Nat) (s : St) : R Nx :=
  match x with
  | .tuple vs => okO s vs.toList[i]?
  | _ => .bad "extract"

noncomputable def doFieldV (agg : Bool) (off sz : Nat) (x : Value) (s : St) : R Nx :=
  match x with
  | .agg cs => Bool.rec (okO s cs.toList[off]?) (Bool.rec (.bad "field") (.ok (.val (.agg ⟨(cs.toList.drop off).take sz⟩)) s) (Nat.ble (off + sz) cs.toList.length)) agg
  | _ => .bad "field value"

noncomputable def doIndexStr (x i : Value) (s : St) : R Nx :=
  match x with
  | .string b => match i with
    | .int _ (.ofNat i) => match b.data.toList[i]? with
      | some c => .ok (.val (.int .u8 c.toNat)) s
      | none => .bad "index string"
    | _ => .bad "index int"
  | _ => .bad "index string"

noncomputable def doIndexAgg (n : Nat) (agg : Bool) (sz : Nat) (x i : Value) (s : St) : R Nx :=
  match i with
  | .int _ (.ofNat i) => Bool.rec (.bad "index range") (doFieldV agg (i * sz) sz x s) (Nat.blt i n)
  | _ => .bad "index int"

def doMakeIface (t : TypeId) (x : Value) (s : St) : R Nx := .ok (.val (.iface t x)) s

noncomputable def doAssert (asserted : TypeId) (z : Option Value) (ok : Bool) (x : Value) (s : St) : R Nx :=
  match x with
  | .iface t v => Bool.rec (Bool.rec (.bad "assert") (match z with | some z => .ok (.val (.tuple #[z, .bool false])) s | none => .bad "assert zero") ok) (.ok (.val (Bool.rec v (.tuple #[v, .bool true]) ok)) s) (Nat.beq t asserted)
  | .nilIface => Bool.rec (.bad "assert") (match z with | some z => .ok (.val (.tuple #[z, .bool false])) s | none => .bad "assert zero") ok
  | _ => .bad "assert iface"

def doNilCheck (x : Value) (s : St) : R Nx := match x with
  | .pointer none | .nilIface | .nilFunc => .bad "nil"
  | .func (.method _) _ _ => .bad "nilCheck method"
  | x => .ok (.val x) s

/- maps: keys are integers, strings, bools -/
def keyFits (d : TypeDesc) (k : Value) : Bool := match d, k with
  | .int _, .int _ _ | .string, .string _ | .bool, .bool _ => true
  | _, _ => false

def sameKey : Value → Value → Option Bool
  | .int k a, .int k' b => if kindEq k k' then some (eqI a b) else none
  | .string a, .string b => some (eqL a.data.toList b.data.toList)
  | .bool a, .bool b => some (a == b)
  | _, _ => none

def findK (k : Value) : List MapEntry → Nat → Option (Option (Nat × Value))
  | [], _ => some none
  | e :: es, i => match sameKey k e.key with
    | some true => some (some (i, e.val))
    | some false => findK k es (i + 1)
    | none => none

noncomputable def doLookup (H : Hid) (kd : TypeDesc) (z : Value) (ok : Bool) (m k : Value) (s : St) : R Nx :=
  let back (v : Value) (b : Bool) : R Nx := .ok (.val (Bool.rec v (.tuple #[v, .bool b]) ok)) s
  Bool.rec (.bad "lookup key") (match m with
    | .map none => back z false
    | .map (some r) => match St.vis H s r with
      | some (.map es _) => match findK k es 0 with
        | some (some (_, v)) => back v true
        | some none => back z false
        | none => .bad "lookup keys"
      | _ => .bad "lookup map"
    | _ => .bad "lookup value") (keyFits kd k)

def modE (i : Nat) (f : MapEntry → MapEntry) : List MapEntry → List MapEntry
  | [] => []
  | e :: es => match i with
    | 0 => f e :: es
    | i + 1 => e :: modE i f es

def delE (i : Nat) : List MapEntry → List MapEntry
  | [] => []
  | e :: es => match i with
    | 0 => es
    | i + 1 => e :: delE i es

noncomputable def doUpdate (H : Hid) (kd : TypeDesc) (m k v : Value) (s : St) : R Nx :=
  Bool.rec (.bad "update key") (match m with
    | .map (some r) => match St.vis H s r with
      | some (.map es c) => match findK k es 0 with
        | some (some (i, _)) => .ok (.val undef) (setObj s r (some (.map (modE i (fun e => { e with key := k, val := v }) es) c)))
        | some none => .ok (.val undef) (setObj s r (some (.map (es ++ [{ key := k, val := v, born := c }]) (c + 1))))
        | none => .bad "update keys"
      | _ => .bad "update map"
    | _ => .bad "update value") (keyFits kd k)

noncomputable def doDelete (H : Hid) (kd : TypeDesc) (m k : Value) (s : St) : R Nx :=
  Bool.rec (.bad "delete key") (match m with
    | .map none => .ok (.val (.tuple #[])) s
    | .map (some r) => match St.vis H s r with
      | some (.map es c) => match findK k es 0 with
        | some (some (i, _)) => .ok (.val (.tuple #[])) (setObj s r (some (.map (delE i es) c)))
        | some none => .ok (.val (.tuple #[])) (setObj s r (some (.map es c)))
        | none => .bad "delete keys"
      | _ => .bad "delete map"
    | _ => .bad "delete value") (keyFits kd k)

noncomputable def doLen (H : Hid) (ty : Option TI) (x : Value) (s : St) : R Nx := match x with
  | .slice _ n _ => Bool.rec (.bad "len slice") (.ok (.val (goIntV n)) s) (isSliceT ty)
  | .string b => match ty with
    | some { und := .string, .. } => .ok (.val (goIntV b.data.toList.length)) s
    | _ => .bad "len string"
  | .map none => Bool.rec (.bad "len map") (.ok (.val (goIntV 0)) s) (isMapT ty)
  | .map (some r) => match St.vis H s r with
    | some (.map es _) => Bool.rec (.bad "len map") (.ok (.val (goIntV es.length)) s) (isMapT ty)
    | _ => .bad "len map"
  | _ => .bad "len"

noncomputable def srcOf (H : Hid) (sz : Nat) (y : Value) (s : St) : Option (Nat × List Value) := match y with
  | .slice none 0 0 => some (0, [])
  | .slice (some ⟨b, o, _⟩) m _ => match St.vis H s b with
    | some (.cells c _ _) => match ldN c o (m * sz) [] with
      | some l => some (m, l)
      | none => none
    | _ => none
  | .string b => Bool.rec none (some (b.data.toList.length, b.data.toList.map fun x => .int .u8 x.toNat)) (Nat.beq sz 1)
  | _ => none

def growOk (by_ n : Nat) : Bool := Nat.ble (n * (by_ + 1)) 4294967296

/-- append: within a known capacity in place; else a new block; of a slice of unknown capacity the old block is dead -/
noncomputable def doAppend (H : Hid) (e : TypeId) (sz by_ : Nat) (x y : Value) (s : St) : R Nx :=
  match x with
  | .slice base n cap => match srcOf H sz y s with
    | some (m, vs) => Bool.rec (.bad "append size") (Bool.rec (match base with
      | none => Bool.rec (.bad "append nil") (.ok (.val (.slice (some ⟨s.next, 0, some sz⟩) m m)) (newObj s (.cells (trOf vs 0 .lf) (m * sz) e))) (Nat.beq n 0 && Nat.beq cap 0)
      | some ⟨b, o, none⟩ => match St.vis H s b with
        | some (.cells c k e') => Bool.rec
              (match ldN c o (n * sz) vs with
                | some l => .ok (.val (.slice (some ⟨s.next, 0, some sz⟩) (n + m) (n + m))) (newObj s (.cells (trOf l 0 .lf) ((n + m) * sz) e))
                | none => .bad "append cells")
              (Bool.rec (.bad "append room") (.ok (.val (.slice base (n + m) cap)) (setObj s b (some (.cells (stN (o + n * sz) vs 0 c) k e')))) (Nat.ble (o + cap * sz) k))
              (Nat.ble (n + m) cap)
        | _ => .bad "append dead"
      | some ⟨b, o, some z⟩ => match St.vis H s b with
        | some (.cells c k _) => Bool.rec (.bad "append element") (Bool.rec
                (match ldN c o (n * sz) vs with
                  | some l => .ok (.val (.slice (some ⟨s.next, 0, some sz⟩) (n + m) (n + m))) (newObj (setObj s b none) (.cells (trOf l 0 .lf) ((n + m) * sz) e))
                  | none => .bad "append cells")
                (.ok (.val (.slice (some ⟨s.next, 0, some sz⟩) (n + m) (n + m))) (newObj (setObj s b none) (.cells (stN k vs 0 c) ((n + m) * sz) e)))
                (Nat.beq o 0 && Nat.beq (n * sz) k)) (Nat.beq z sz)
        | _ => .bad "append dead")
      (match base with
        | none => Bool.rec (.bad "append nil") (.ok (.val x) s) (Nat.beq n 0 && Nat.beq cap 0)
        | some _ => .ok (.val x) s) (Nat.beq m 0)) (growOk by_ (n + m) && vs.all oneC)
    | none => .bad "append source"
  | _ => .bad "append slice"

noncomputable def doConvert (T : Tab) (o : Oper) (k : IntKind) (x : Value) (tm : Tr Value) (s : St) : R Nx := match x with
  | .int _ n => .ok (.val (.int k (wrapF k n))) s
  | _ => doGen T o tm s

def doCallV (P : Program) (f : Value) (args : List Value) (s : St) : R Nx := match f with
  | .func (.func g) first captured => match fiOf P g with
    | some _ => .ok (.enter g (first.toList ++ args ++ captured.toList)) s
    | none => .bad "call no body"
  | _ => .bad "call value"

/-- a method of a dynamic type that is a plain function -/
def methOf (P : Program) (t : TypeId) (name : String) : Option FuncId :=
  match P.info? t with
  | some i => match i.methods.find? (·.name == name) with
    | some m => match m.func, m.path.toList, P.underlying t with
      | some (f, true), [], some (.pointer _) => some f
      | some (f, false), [], some (.struct _) => some f
      | _, _, _ => none
    | none => none
  | none => none

def doInvoke (P : Program) (name : String) (x : Value) (args : List Value) (s : St) : R Nx := match x with
  | .iface t v => match methOf P t name with
    | some f => match fiOf P f with
      | some _ => .ok (.enter f (v :: args)) s
      | none => .bad "invoke no body"
    | none => .bad "invoke method"
  | _ => .bad "invoke"

def doMakeFunc (fn : Fn) (first captured : List Value) (s : St) : R Nx := .ok (.val (.func fn ⟨first⟩ ⟨captured⟩)) s

noncomputable def cOp (T : Tab) (o : Oper) : Box OpF :=
  match o.op with
  | .move x | .assign x => .mk fun H tm s => .ok (.val (evO tm x)) s
  | .pick c a b => .mk fun H tm s => doPick s (evO tm c) (evO tm a) (evO tm b)
  | .load t a => match tiOf T.prog t with
    | some ti => Bool.rec (.mk fun H tm s => doLoad1 H (evO tm a) s) (.mk fun H tm s => doLoadN H ti.size (evO tm a) s) ti.agg
    | none => .mk fun _ _ _ => .bad "load type"
  | .store t a x => match tiOf T.prog t with
    | some ti => Bool.rec (Bool.rec (.mk fun _ _ _ => .bad "store size") (.mk fun H tm s => doStore1 H (evO tm a) (evO tm x) s) (Nat.beq ti.size 1)) (.mk fun H tm s => doStoreN H ti.size (evO tm a) (evO tm x) s) ti.agg
    | none => .mk fun _ _ _ => .bad "store type"
  | .box e x => .mk fun H tm s => doBox e (evO tm x) s
  | .alloc e => match tiOf T.prog e with
    | some { zero := some z, .. } => Bool.rec (.mk fun _ _ _ => .bad "alloc zero") (.mk fun _ _ s => doBox e z s) (ground z)
    | _ => .mk fun _ _ _ => .bad "alloc"
  | .fieldAddr st x f => match tiOf T.prog st with
    | some { und := .struct fs, .. } => match fs[f]? with
      | some fl => match tiOf T.prog fl.type with
        | some ti => Bool.rec (.mk fun H tm s => doField fl.offset (evO tm x) s) (.mk fun _ _ _ => .bad "field size 0") (Nat.beq ti.size 0)
        | none => .mk fun _ _ _ => .bad "field type"
      | none => .mk fun _ _ _ => .bad "field"
    | _ => .mk fun _ _ _ => .bad "field struct"
  | .field st x f => match tiOf T.prog st with
    | some { und := .struct fs, .. } => match fs[f]? with
      | some fl => match tiOf T.prog fl.type with
        | some ti => .mk fun H tm s => doFieldV ti.agg fl.offset ti.size (evO tm x) s
        | none => .mk fun _ _ _ => .bad "field type"
      | none => .mk fun _ _ _ => .bad "field"
    | _ => .mk fun _ _ _ => .bad "field struct"
  | .indexAddr t x ix => match tiOf T.prog t with
    | some { und := .slice e, .. } => match tiOf T.prog e with
      | some ti => .mk fun H tm s => doIndexS ti.size (evO tm x) (evO tm ix) s
      | none => .mk fun _ _ _ => .bad "index type"
    | some { und := .array n e, .. } => match tiOf T.prog e with
      | some ti => .mk fun H tm s => doIndexA n ti.size (evO tm x) (evO tm ix) s
      | none => .mk fun _ _ _ => .bad "index type"
    | _ => .mk fun _ _ _ => .bad "index type"
  | .index t x ix => match tiOf T.prog t with
    | some { und := .string, .. } => .mk fun H tm s => doIndexStr (evO tm x) (evO tm ix) s
    | some { und := .array n e, .. } => match tiOf T.prog e with
      | some ti => .mk fun H tm s => doIndexAgg n ti.agg ti.size (evO tm x) (evO tm ix) s
      | none => .mk fun _ _ _ => .bad "index type"
    | _ => .mk fun _ _ _ => .bad "index type"
  | .slice t x lo hi mx => match tiOf T.prog t with
    | some { und := .slice e, .. } => match tiOf T.prog e with
      | some ti => Bool.rec (.mk fun _ _ _ => .bad "slice form") (.mk fun _ tm s => doSlice ti.size (evO tm x) (lo.map (evO tm)) (hi.map (evO tm)) (mx.map (evO tm)) s) (mx.isNone || hi.isSome)
      | none => .mk fun _ _ _ => .bad "slice type"
    | some { und := .string, .. } => match mx with
      | none => .mk fun H tm s => doSliceStr (evO tm x) (lo.map (evO tm)) (hi.map (evO tm)) s
      | some _ => .mk fun _ _ _ => .bad "slice string"
    | _ => .mk fun _ _ _ => .bad "slice type"
  | .binOp op t x y _ => .mk fun _ tm s => doBin T o (tiOf T.prog t) op (evO tm x) (evO tm y) tm s
  | .convert src dst x => match tiOf T.prog src with
    | some _ => match tiOf T.prog dst with
      | some { und := .int k, .. } => .mk fun _ tm s => doConvert T o k (evO tm x) tm s
      | _ => .mk fun _ tm s => doGen T o tm s
    | none => .mk fun _ _ _ => .bad "convert type"
  | .extract x i => .mk fun H tm s => doExtract (evO tm x) i s
  | .makeInterface t x => match tiOf T.prog t with
    | some { und := .interface _, .. } => .mk fun _ _ _ => .bad "makeInterface"
    | some _ => .mk fun H tm s => doMakeIface t (evO tm x) s
    | none => .mk fun _ _ _ => .bad "makeInterface"
  | .typeAssert x _ asserted ok => match tiOf T.prog asserted with
    | some { und := .interface _, .. } => .mk fun _ _ _ => .bad "assert interface"
    | some { zero := z, .. } => .mk fun H tm s => doAssert asserted (match z with | some z => if ground z then some z else none | none => none) ok (evO tm x) s
    | none => .mk fun _ _ _ => .bad "assert type"
  | .makeFunc fn first captured => match fn with
    | .func _ => .mk fun H tm s => doMakeFunc fn (first.toList.map (evO tm)) (captured.toList.map (evO tm)) s
    | _ => .mk fun _ _ _ => .bad "makeFunc"
  | .makeMap _ r => match r with
    | none => .mk fun _ _ s => .ok (.val (.map (some s.next))) (newObj s (.map [] 0))
    | some _ => .mk fun _ _ _ => .bad "makeMap"
  | .lookup t x ix ok => match tiOf T.prog t with
    | some { und := .map kt e, .. } => match tiOf T.prog kt with
      | some ki => match tiOf T.prog e with
        | some { zero := some z, .. } => Bool.rec (.mk fun _ _ _ => .bad "lookup zero") (.mk fun H tm s => doLookup H ki.und z ok (evO tm x) (evO tm ix) s) (ground z)
        | _ => .mk fun _ _ _ => .bad "lookup type"
      | none => .mk fun _ _ _ => .bad "lookup type"
    | _ => .mk fun _ _ _ => .bad "lookup type"
  | .mapUpdate t m k v | .insert t m k v => match tiOf T.prog t with
    | some { und := .map kt _, .. } => match tiOf T.prog kt with
      | some ki => .mk fun H tm s => doUpdate H ki.und (evO tm m) (evO tm k) (evO tm v) s
      | none => .mk fun _ _ _ => .bad "update type"
    | _ => .mk fun _ _ _ => .bad "update type"
  | .makeSlice t l c => match tiOf T.prog t with
    | some { und := .slice e, .. } => match tiOf T.prog e with
      | some { zero := some z, size := sz, .. } => Bool.rec (.mk fun _ _ _ => .bad "makeSlice zero") (.mk fun _ tm s => doMakeSlice e (vcells z) (T.prog.bytesOf e) (evO tm l) (evO tm c) s) (ground z && Nat.beq (vcells z).length sz)
      | _ => .mk fun _ _ _ => .bad "makeSlice zero"
    | _ => .mk fun _ _ _ => .bad "makeSlice type"
  | .build t parts => match tiOf T.prog t with
    | some { und := .struct fs, zero := some z, .. } => match structPlaces T.prog fs.toList with
      | some pl => Bool.rec (.mk fun _ _ _ => .bad "build zero") (.mk fun _ tm s => doBuild (vcells z) (fun i => pl[i]?) (parts.toList.map fun p => (p.1, evO tm p.2)) s) (ground z)
      | none => .mk fun _ _ _ => .bad "build fields"
    | some { und := .array _ e, zero := some z, .. } => match tiOf T.prog e with
      | some ti => Bool.rec (.mk fun _ _ _ => .bad "build zero") (.mk fun _ tm s => doBuild (vcells z) (fun i => some (i * ti.size, ti.size)) (parts.toList.map fun p => (p.1, evO tm p.2)) s) (ground z)
      | none => .mk fun _ _ _ => .bad "build element"
    | _ => .mk fun _ _ _ => .bad "build type"
  | .buildSlice t n parts => match tiOf T.prog t with
    | some { und := .slice e, .. } => match tiOf T.prog e with
      | some { zero := some z, size := sz, .. } => Bool.rec (.mk fun _ _ _ => .bad "buildSlice zero") (.mk fun _ tm s => doBuildSlice e n sz (vcells z) (parts.toList.map fun p => (p.1, evO tm p.2)) s) (ground z && Nat.beq (vcells z).length sz && Nat.ble (n * sz) 65536)
      | _ => .mk fun _ _ _ => .bad "buildSlice element"
    | _ => .mk fun _ _ _ => .bad "buildSlice type"
  | .nilCheck x => .mk fun H tm s => doNilCheck (evO tm x) s
  | .call { callee := .builtin .append, args, argTypes } => match args.toList with
    | [x, y] => match argTypes.toList with
      | [t, t2] => match tiOf T.prog t with
        | some { und := .slice e, .. } => match tiOf T.prog e with
          | some ti => match tiOf T.prog t2 with
            | some { und := .int _, .. } | none => .mk fun _ _ _ => .bad "append type"
            | some _ => match ti.zero with
              | some z => Bool.rec (.mk fun _ _ _ => .bad "append zero") (.mk fun H tm s => doAppend H e ti.size (T.prog.bytesOf e) (evO tm x) (evO tm y) s) (Nat.beq (vcells z).length ti.size)
              | none => .mk fun _ _ _ => .bad "append zero"
          | none => .mk fun _ _ _ => .bad "append type"
        | _ => .mk fun _ _ _ => .bad "append type"
      | _ => .mk fun _ _ _ => .bad "append types"
    | _ => .mk fun _ _ _ => .bad "append args"
  | .call { callee := .builtin .len, args, argTypes } => match args.toList with
    | [x] => match argTypes.toList with
      | [t] => match tiOf T.prog t with
        | some { und := .array _ _, .. } => .mk fun _ tm s => doGen T o tm s
        | ty => .mk fun H tm s => doLen H ty (evO tm x) s
      | _ => .mk fun _ _ _ => .bad "len types"
    | _ => .mk fun _ _ _ => .bad "len args"
  | .call { callee := .builtin .delete, args, argTypes } => match args.toList with
    | [m, k] => match argTypes.toList with
      | t :: _ => match tiOf T.prog t with
        | some { und := .map kt _, .. } => match tiOf T.prog kt with
          | some ki => .mk fun H tm s => doDelete H ki.und (evO tm m) (evO tm k) s
          | none => .mk fun _ _ _ => .bad "delete type"
        | _ => .mk fun _ _ _ => .bad "delete type"
      | _ => .mk fun _ _ _ => .bad "delete types"
    | _ => .mk fun _ _ _ => .bad "delete args"
  | .call { callee := .builtin b, .. } => match b with
    | .min | .max => .mk fun H tm s => doGen T o tm s
    | _ => .mk fun _ _ _ => .bad "builtin"
  | .call { callee := .value (.func g), args, .. } => match fiOf T.prog g with
    | some _ => .mk fun H tm s => .ok (.enter g (args.toList.map (evO tm))) s
    | none => .mk fun _ _ _ => .bad "call no body"
  | .call { callee := .value f, args, .. } => .mk fun H tm s => doCallV T.prog (evO tm f) (args.toList.map (evO tm)) s
  | .call { callee := .invoke r name, args, .. } => .mk fun H tm s => doInvoke T.prog name (evO tm r) (args.toList.map (evO tm)) s
  | .unOp .. => .mk fun H tm s => doGen T o tm s
  | _ => .mk fun _ _ _ => .bad "op"

/- frames -/
structure AF where
  fn : FuncId
  nt : Nat
  tmps : Tr Value
  todo : List Item
  defers : List Nat
  rof : Option Nat

noncomputable def putT (tmps : Tr Value) (d : Option Tmp) (v : Value) : Tr Value :=
  Option.rec tmps (fun d => tmps.set d (some v)) d

noncomputable def resA (H : Hid) (T : Tab) (tmps : Tr Value) (s : St) : List ResultVar → Option (List Value)
  | [] => some []
  | .tmp t :: l => match resA H T tmps s l with
    | some vs => some (evO tmps (.tmp t) :: vs)
    | none => none
  | .cell a t :: l => match tiOf T.prog t with
    | some ti => match (Bool.rec (doLoad1 H (evO tmps (.tmp a)) s) (doLoadN H ti.size (evO tmps (.tmp a)) s) ti.agg : R Nx) with
      | .ok (.val v) _ => match resA H T tmps s l with
        | some vs => some (v :: vs)
        | none => none
      | _ => none
    | none => none

def oneOf : List Value → Value
  | [v] => v
  | l => .tuple ⟨l⟩

/-- the marks of loops over functions among the deferred calls are taken -/
noncomputable def takeMarks (H : Hid) : List Nat → St → Option St
  | [], s => some s
  | r :: l, s => match St.vis H s r with
    | some (.marks false) => takeMarks H l (setObj s r (some (.marks true)))
    | _ => none

noncomputable def leaveA (H : Hid) (T : Tab) (fr : AF) (jump : Option Code) (s : St) : R Value :=
  match fr.rof with
  | none => match fiOf T.prog fr.fn with
    | some fi => match jump with
      | none | some .ret => match takeMarks H fr.defers s with
        | some s => match resA H T fr.tmps s fi.results with
          | some vs => .ok (oneOf vs) s
          | none => .bad "results"
        | none => .bad "marks"
      | _ => .bad "leave jump"
    | none => .bad "leave no function"
  | some l => match St.vis H s l with
    | some (.loop r) => .ok (.bool jump.isNone) (setObj s l (some (.loop { r with state := (match jump with | none => .ready | some _ => .done), pending := jump })))
    | _ => .bad "leave loop"

abbrev Rec := Hid → AF → St → R Value

noncomputable def enterA (T : Tab) (f : FuncId) (args : List Value) : Option AF :=
  match fiOf T.prog f with
  | some fi => some { fn := f, nt := fi.ntmps, tmps := trOf args 0 .lf, todo := [.code fi.body], defers := [], rof := none }
  | none => none

structure COp where
  guard : Option (Option Tmp × Bool)
  dst : Option Tmp
  run : Box OpF
  bef : Nat
  pur : Bool
  see : Box (Tr Value → Nat → Hid)

/-- all blocks but these are hidden -/
noncomputable def butAddr (n : Nat) : Value → Hid
  | .pointer (some ⟨b, _, _⟩) => [(0, b), (Nat.succ b, n)]
  | .map (some b) => [(0, b), (Nat.succ b, n)]
  | _ => []

noncomputable def butTwo (n b c : Nat) : Hid := Bool.rec [(0, c), (Nat.succ c, b), (Nat.succ b, n)] [(0, b), (Nat.succ b, c), (Nat.succ c, n)] (Nat.ble b c)

noncomputable def butApp (n : Nat) : Value → Value → Hid
  | .slice none _ _, .slice none _ _ => [(0, n)]
  | .slice (some ⟨b, _, _⟩) _ _, .slice none _ _ | .slice none _ _, .slice (some ⟨b, _, _⟩) _ _ => [(0, b), (Nat.succ b, n)]
  | .slice (some ⟨b, _, _⟩) _ _, .slice (some ⟨c, _, _⟩) _ _ => butTwo n b c
  | _, _ => []

/-- what a simple operation has no need to look at -/
noncomputable def seeOf (op : Op) (tm : Tr Value) (n : Nat) : Hid := match op with
  | .load _ a | .store _ a _ | .lookup _ a _ _ | .mapUpdate _ a _ _ | .insert _ a _ _ => butAddr n (evO tm a)
  | .call { callee := .builtin .append, args, .. } => match args.toList with
    | [x, y] => butApp n (evO tm x) (evO tm y)
    | _ => []
  | .box .. | .alloc .. | .makeMap .. | .makeSlice .. | .build .. | .buildSlice .. => [(0, n)]
  | _ => []

/-- operations that look at no block, and make none -/
def pureOp : Op → Bool
  | .move _ | .assign _ | .pick .. | .fieldAddr .. | .field .. | .indexAddr .. | .index .. | .slice .. | .binOp .. | .unOp .. | .extract .. | .makeInterface .. | .makeFunc .. | .typeAssert .. | .nilCheck _ => true
  | _ => false

noncomputable def cOne (T : Tab) (ops : Array Oper) (o : Oper) (bef : Nat) : COp :=
  { guard := match o.guard with
      | none => none
      | some (j, w) => some ((ops[j]?).bind (·.dst), w),
    dst := o.dst, run := Bool.rec (.mk fun _ _ _ => .bad "operand") (cOp T o) (o.op.operands.toList.all opndOk), bef, pur := pureOp o.op, see := .mk (seeOf o.op) }

noncomputable def cOps (T : Tab) (ops : Array Oper) : List Oper → List Nat → List COp
  | [], _ => []
  | o :: l, b :: bs => cOne T ops o b :: cOps T ops l bs
  | o :: l, [] => cOne T ops o 0 :: cOps T ops l []

noncomputable def wantC (g : Option (Option Tmp × Bool)) (tmps : Tr Value) : Bool :=
  match g with
  | none => true
  | some (some d, w) => match tmps.get d with
    | some (.bool b) => Bool.rec (Bool.rec true false w) w b
    | _ => false
  | some (none, _) => false

/-- what an operation comes to, a call carried out to its end -/
noncomputable def fin (T : Tab) (H : Hid) (rec : AF → St → R Value) (r : R Nx) : R Value :=
  R.rec (motive := fun _ => R Value) (fun n s => Nx.rec (motive := fun _ => R Value) (fun v => .ok v s)
    (fun f args => match T.sum f args with
      | some v => .ok v s
      | none => match T.memo f args H s with
        | some (v, s') => .ok v s'
        | none => match enterA T f args with
          | some fr => rec fr s
          | none => .bad "enter")
    (fun l f tmps assign body => rec { fn := f, nt := tmps.toList.length, tmps := trOf tmps.toList 0 .lf, todo := [.code assign, .beginRound, .code body], defers := [], rof := some l } s) n)
    (fun w => .bad w) r

/-- a region in the order of its text -/
noncomputable def regA (T : Tab) (rec : Rec) (H : Hid) (l : List COp) : Tr Value → St → R (Tr Value) :=
  List.rec (motive := fun _ => Tr Value → St → R (Tr Value)) (fun tmps s => .ok tmps s)
    (fun o _ ih tmps s => COp.rec (motive := fun _ => R (Tr Value)) (fun g d bx _ _ _ => Box.rec (motive := fun _ => R (Tr Value)) (fun f =>
      Bool.rec (ih (putT tmps d undef) s) ((fin T H (rec H) (f H tmps s)).bind fun v s => ih (putT tmps d v) s) (wantC g tmps)) bx) o) l

/-- what became of an operation of a region that draws its order -/
structure DRec where
  idx : Nat
  bef : Nat
  lo : Nat
  hi : Nat
  touch : Bool
  hid : Hid
  wr : List Nat

/-- the blocks made by operations that need not lie ahead are hidden -/
def hideFor (bef : Nat) : List DRec → Hid → Hid
  | [], H => H
  | r :: rs, H => if Nat.blt r.lo r.hi && !(bef.testBit r.idx) then (r.lo, r.hi) :: hideFor bef rs H else hideFor bef rs H

noncomputable def unseen (j : DRec) (x : Nat) : Bool := Nat.ble j.lo x || hidden j.hid x

/-- whoever writes a block lies ahead of, or behind, all that could look at it -/
noncomputable def apartD (rs : List DRec) : Bool :=
  rs.all fun i => i.wr.isEmpty || rs.all fun j => !j.touch || Nat.beq i.idx j.idx || i.bef.testBit j.idx || j.bef.testBit i.idx || i.wr.all (unseen j)

noncomputable def regD (T : Tab) (rec : Rec) (H : Hid) : List COp → Nat → Tr Value → St → List DRec → R (Tr Value)
  | [], _, tmps, s, rs => if apartD rs then .ok tmps s else .bad "order"
  | ⟨g, d, .mk f, bef, pur, .mk see⟩ :: l, i, tmps, s, rs =>
    if wantC g tmps then
      match fin T (see tmps s.next ++ hideFor bef rs H) (rec (see tmps s.next ++ hideFor bef rs H)) (f (see tmps s.next ++ hideFor bef rs H) tmps { heap := s.heap, next := s.next, log := [] }) with
      | .ok v s' => regD T rec H l (i + 1) (putT tmps d v) { heap := s'.heap, next := s'.next, log := s'.log ++ s.log }
          ({ idx := i, bef, lo := s.next, hi := s'.next, touch := !pur, hid := see tmps s.next ++ hideFor bef rs H, wr := s'.log.filter (fun x => Nat.blt x s.next) } :: rs)
      | .bad w => .bad w
    else regD T rec H l (i + 1) (putT tmps d undef) s rs

/-- the names that an operation reads or writes -/
def namesOf (ops : Array Oper) (o : Oper) : List Tmp :=
  o.dst.toList ++ (match o.guard with | some (j, _) => ((ops[j]?).bind (·.dst)).toList | none => []) ++ o.op.operands.toList.filterMap fun | .tmp t => some t | _ => none

/-- whoever writes a name lies ahead of, or behind, all who name it -/
def dstsOk (nt : Nat) (ops : Array Oper) : Bool := ops.toList.all fun o => match o.dst with | some d => Nat.blt d nt | none => true

def regOk (ops : Array Oper) : Bool :=
  let b := Region.before ops
  ops.toList.zipIdx.all fun (o, i) => Nat.blt (b.getD i 0) (2 ^ i) &&
    ops.toList.zipIdx.all fun (p, k) => Nat.beq i k || (match p.dst with
      | none => true
      | some d => !(namesOf ops o).contains d) || (b.getD i 0).testBit k || (b.getD k 0).testBit i

def AF.to (fr : AF) (todo : List Item) : AF := { fn := fr.fn, nt := fr.nt, tmps := fr.tmps, todo, defers := fr.defers, rof := fr.rof }

noncomputable def stepA (T : Tab) (rec : Rec) (H : Hid) (fr : AF) (s : St) : R Value :=
  match fr.todo with
  | [] => leaveA H T fr none s
  | .inBlock _ :: k | .inScope _ :: k => rec H (fr.to k) s
  | .inLoop body :: k => rec H (fr.to (.code body :: .inLoop body :: k)) s
  | .code c :: k => match c with
    | .ret => leaveA H T fr (some .ret) s
    | .skip | .label _ => rec H (fr.to k) s
    | .seq a b => rec H (fr.to (.code a :: .code b :: k)) s
    | .cond c t e => match evO fr.tmps c with
      | .bool b => rec H (fr.to (.code (Bool.rec e t b) :: k)) s
      | _ => .bad "cond"
    | .block id body => rec H (fr.to (.code body :: .inBlock id :: k)) s
    | .loop body => rec H (fr.to (.code body :: .inLoop body :: k)) s
    | .scope body => rec H (fr.to (.code body :: .inScope body :: k)) s
    | .exit id => match exitTo id k with
      | some k' => rec H (fr.to k') s
      | none => leaveA H T fr (some (.exit id)) s
    | .goto l => match gotoIn l k with
      | some k' => rec H (fr.to k') s
      | none => leaveA H T fr (some (.goto l)) s
    | .region _ ops false => Bool.rec (.bad "region slots") (match regA T rec H (cOps T ops ops.toList []) fr.tmps s with
      | .ok tmps s => rec H { fn := fr.fn, nt := fr.nt, tmps, todo := k, defers := fr.defers, rof := fr.rof } s
      | .bad w => .bad w) (dstsOk fr.nt ops)
    | .region _ ops true => Bool.rec (.bad "region names") (match regD T rec H (cOps T ops ops.toList (Region.before ops).toList) 0 fr.tmps s [] with
      | .ok tmps s => rec H { fn := fr.fn, nt := fr.nt, tmps, todo := k, defers := fr.defers, rof := fr.rof } s
      | .bad w => .bad w) (dstsOk fr.nt ops && regOk ops)
    | _ => .bad "code"
  | _ => .bad "item"

noncomputable def runA (T : Tab) (fuel : Nat) : Hid → AF → St → R Value :=
  Nat.rec (motive := fun _ => Hid → AF → St → R Value) (fun _ _ _ => .bad "fuel") (fun _ ih H fr s => stepA T ih H fr s) fuel

noncomputable def callA (T : Tab) (fuel : Nat) (f : FuncId) (args : List Value) (s : St) : R Value :=
  match enterA T f args with
  | some fr => runA T fuel [] fr s
  | none => .bad "enter"

def st0 : St := { heap := .lf, next := 0, log := [] }

end Go.Ev
