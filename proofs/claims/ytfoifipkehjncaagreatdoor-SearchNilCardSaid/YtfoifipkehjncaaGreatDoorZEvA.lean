/- The evaluator's ways and what each operation does there. -/
import Derived.Calls
import Derived.Orders
import Derived.Below
import Derived.Laws.Sem
import Derived.Laws.World
import Derived.Room.Entries
import Derived.IntWalk
import Derived.Laws.Strings
import Derived.Laws.Cover1
set_option linter.unusedVariables false
set_option linter.unusedSimpArgs false
namespace Go.Ev

inductive Tr (α : Type) where
  | lf
  | nd (l : Tr α) (v : Option α) (r : Tr α)

noncomputable def Tr.get {α : Type} (t : Tr α) : Nat → Option α :=
  Tr.rec (motive := fun _ => Nat → Option α) (fun _ => none)
    (fun _ v _ gl gr n => Bool.rec (Bool.rec (gr (Nat.sub (Nat.div n (nat_lit 2)) (nat_lit 1))) (gl (Nat.div n (nat_lit 2))) (Nat.beq (Nat.mod n (nat_lit 2)) (nat_lit 1))) v (Nat.beq n (nat_lit 0))) t

noncomputable def Tr.setF {α : Type} (x : Option α) (f : Nat) : Tr α → Nat → Tr α :=
  Nat.rec (motive := fun _ => Tr α → Nat → Tr α) (fun t _ => t)
    (fun _ ih t n => Tr.rec (motive := fun _ => Tr α)
      (Bool.rec (Bool.rec (.nd .lf none (ih .lf (Nat.sub (Nat.div n (nat_lit 2)) (nat_lit 1)))) (.nd (ih .lf (Nat.div n (nat_lit 2))) none .lf) (Nat.beq (Nat.mod n (nat_lit 2)) (nat_lit 1))) (.nd .lf x .lf) (Nat.beq n (nat_lit 0)))
      (fun l v r _ _ => Bool.rec (Bool.rec (.nd l v (ih r (Nat.sub (Nat.div n (nat_lit 2)) (nat_lit 1)))) (.nd (ih l (Nat.div n (nat_lit 2))) v r) (Nat.beq (Nat.mod n (nat_lit 2)) (nat_lit 1))) (.nd l x r) (Nat.beq n (nat_lit 0))) t) f

noncomputable def Tr.set {α : Type} (t : Tr α) (n : Nat) (x : Option α) : Tr α := setF x (Nat.succ n) t n

/-- a loop over a function: its record -/
structure ALoop where
  state : LoopState
  pending : Option Code
  fn : FuncId
  nt : Nat
  tmps : Tr Value
  params : List Tmp
  assign : Code
  body : Code
  defers : Nat

/-- objects of the abstract heap -/
inductive AObj where
  | cells (c : Tr Value) (n : Nat) (elem : TypeId)
  | map (es : List MapEntry) (clock : Nat)
  | loop (l : ALoop)
  | marks (taken : Bool)

structure St where
  heap : Tr AObj
  next : Nat
  log : List Nat

/-- ranges of blocks that are not to be looked at -/
abbrev Hid := List (Nat × Nat)

inductive R (α : Type) where
  | ok (a : α) (s : St)
  | bad (why : String)

noncomputable def R.bind {α β : Type} (r : R α) (f : α → St → R β) : R β :=
  R.rec (motive := fun _ => R β) (fun a s => f a s) (fun w => .bad w) r

noncomputable def hidden (l : Hid) (i : Nat) : Bool :=
  List.rec (motive := fun _ => Bool) false (fun p _ ih => Bool.rec ih (Bool.rec true ih (Nat.ble p.2 i)) (Nat.ble p.1 i)) l

noncomputable def St.vis (H : Hid) (s : St) (i : Nat) : Option AObj := Bool.rec (s.heap.get i) none (hidden H i)

noncomputable def trOf (l : List Value) : Nat → Tr Value → Tr Value :=
  List.rec (motive := fun _ => Nat → Tr Value → Tr Value) (fun _ t => t) (fun v _ ih i t => ih (Nat.succ i) (t.set i (some v))) l

structure TI where
  und : TypeDesc
  size : Nat
  agg : Bool
  zero : Option Value

structure FI where
  body : Code
  ntmps : Nat
  results : List ResultVar

def tiOf (P : Program) (t : TypeId) : Option TI :=
  match P.info? t with
  | some i => match P.underlying t with
    | some d => some { und := d, size := i.size, agg := (match d with | .struct _ | .array _ _ => true | _ => false), zero := i.zero }
    | none => none
  | none => none

def fiOf (P : Program) (f : FuncId) : Option FI :=
  match P.funcs[f]? with
  | some fn => match fn.body with
    | some c => some { body := c, ntmps := fn.ntmps, results := fn.results.toList }
    | none => none
  | none => none

structure Tab where
  prog : Program
  sum : FuncId → List Value → Option Value
  memo : FuncId → List Value → Hid → St → Option (Value × St)
  inv : World → Prop := fun _ => True

/-- no address in it, down to a depth -/
def groundF : Nat → Value → Bool
  | 0, _ => false
  | n + 1, v => match v with
    | .bool _ | .int _ _ | .float _ _ | .complex _ _ _ | .string _ | .nilFunc | .nilIface => true
    | .pointer a => a.isNone
    | .slice a n c => a.isNone && Nat.beq n 0 && Nat.beq c 0
    | .map r => r.isNone
    | .chan r => r.isNone
    | .func fn first captured => (match fn with | .yield _ => false | _ => true) && first.toList.all (groundF n) && captured.toList.all (groundF n)
    | .iface _ v => groundF n v
    | .agg cs => cs.toList.all (groundF n)
    | .tuple vs => vs.toList.all (groundF n)

def ground (v : Value) : Bool := groundF 8 v

noncomputable def ldN (c : Tr Value) (o : Nat) (n : Nat) : List Value → Option (List Value) :=
  Nat.rec (motive := fun _ => List Value → Option (List Value)) (fun acc => some acc)
    (fun n ih acc => Option.rec none (fun v => ih (v :: acc)) (c.get (Nat.add o n))) n

noncomputable def stN (o : Nat) (l : List Value) : Nat → Tr Value → Tr Value :=
  List.rec (motive := fun _ => Nat → Tr Value → Tr Value) (fun _ c => c) (fun v _ ih k c => ih (Nat.succ k) (c.set (Nat.add o k) (some v))) l

noncomputable def newObj (s : St) (o : AObj) : St := { heap := s.heap.set s.next (some o), next := Nat.succ s.next, log := s.log }

noncomputable def setObj (s : St) (b : Nat) (o : Option AObj) : St := { heap := s.heap.set b o, next := s.next, log := b :: s.log }

def oneC : Value → Bool
  | .agg _ | .tuple _ => false
  | _ => true

/-- what an operation comes to -/
inductive Nx where
  | val (v : Value)
  | enter (f : FuncId) (args : List Value)
  | round (l : Nat) (f : FuncId) (nt : Nat) (tmps : Tr Value) (assign body : Code)

def envT (o : Option Value) : Value := match o with | some v => v | none => undef

noncomputable def evO (tmps : Tr Value) : Operand → Value
  | .tmp t => envT (tmps.get t)
  | .const v => v
  | .global g => .pointer (some ⟨g, 0, none⟩)
  | .func f => .func (.func f) #[] #[]

def opndOk : Operand → Bool
  | .tmp _ | .func _ => true
  | .const v => ground v
  | .global _ => false

inductive Box (α : Type) where
  | mk (a : α)

abbrev OpF := Hid → Tr Value → St → R Nx

def pureRun {α : Type} (P : Program) : Sem α → Option α
  | .pure a => some a
  | .program k => pureRun P (k P)
  | _ => none

def ptr (b o : Nat) : Value := .pointer (some ⟨b, o, none⟩)
def goIntV (n : Nat) : Value := .int .i64 n

noncomputable def doPick (s : St) (c a b : Value) : R Nx := match c with
  | .bool t => .ok (.val (Bool.rec b a t)) s
  | _ => .bad "pick"

noncomputable def doLoad1 (H : Hid) (a : Value) (s : St) : R Nx :=
  match a with
  | .pointer (some ⟨b, o, none⟩) =>
    match St.vis H s b with
    | some (.cells c _ _) => match c.get o with
      | some v => .ok (.val v) s
      | none => .bad "load cell"
    | _ => .bad "load block"
  | _ => .bad "load address"

noncomputable def doLoadN (H : Hid) (n : Nat) (a : Value) (s : St) : R Nx :=
  match a with
  | .pointer (some ⟨b, o, none⟩) =>
    match St.vis H s b with
    | some (.cells c _ _) => match ldN c o n [] with
      | some l => .ok (.val (.agg ⟨l⟩)) s
      | none => .bad "load cell"
    | _ => .bad "load block"
  | _ => .bad "load address"

noncomputable def doStore1 (H : Hid) (a v : Value) (s : St) : R Nx :=
  match a with
  | .pointer (some ⟨b, o, none⟩) =>
    match St.vis H s b with
    | some (.cells c n e) => Bool.rec (.bad "store value") (Bool.rec (.bad "store off") (.ok (.val undef) (setObj s b (some (.cells (c.set o (some v)) n e)))) (Nat.blt o n)) (oneC v)
    | _ => .bad "store block"
  | _ => .bad "store address"

noncomputable def doStoreN (H : Hid) (k : Nat) (a v : Value) (s : St) : R Nx :=
  match a with
  | .pointer (some ⟨b, o, none⟩) =>
    match St.vis H s b with
    | some (.cells c n e) => match v with
      | .agg cs => Bool.rec (.bad "store value") (Bool.rec (.bad "store size") (Bool.rec (.bad "store off") (.ok (.val undef) (setObj s b (some (.cells (stN o cs.toList 0 c) n e)))) (Nat.ble (o + k) n)) (Nat.beq cs.toList.length k)) (cs.toList.all oneC)
      | _ => .bad "store value"
    | _ => .bad "store block"
  | _ => .bad "store address"

noncomputable def doBox (e : TypeId) (v : Value) (s : St) : R Nx :=
  match v with
  | .agg cs => .ok (.val (ptr s.next 0)) (newObj s (.cells (trOf cs.toList 0 .lf) cs.toList.length e))
  | v => .ok (.val (ptr s.next 0)) (newObj s (.cells (.nd .lf (some v) .lf) 1 e))

def doField (off : Nat) (a : Value) (s : St) : R Nx := match a with
  | .pointer (some ⟨b, o, none⟩) => .ok (.val (ptr b (Nat.add o off))) s
  | _ => .bad "field address"

noncomputable def doIndexS (sz : Nat) (x i : Value) (s : St) : R Nx := match x with
  | .slice (some ⟨b, o, _⟩) n _ => match i with
    | .int _ (.ofNat i) => Bool.rec (.bad "index range") (.ok (.val (ptr b (Nat.add o (Nat.mul i sz)))) s) (Nat.blt i n)
    | _ => .bad "index int"
  | _ => .bad "index slice"

noncomputable def doIndexA (n sz : Nat) (x i : Value) (s : St) : R Nx := match x with
  | .pointer (some ⟨b, o, none⟩) => match i with
    | .int _ (.ofNat i) => Bool.rec (.bad "index range") (.ok (.val (ptr b (Nat.add o (Nat.mul i sz)))) s) (Nat.blt i n)
    | _ => .bad "index int"
  | _ => .bad "index array"

def sb (x : Option Value) (d : Nat) : Option Nat := match x with
  | none => some d
  | some (.int _ i) => match i with | .ofNat n => some n | .negSucc _ => none
  | _ => none

noncomputable def doSlice (sz : Nat) (x : Value) (lo hi mx : Option Value) (s : St) : R Nx := match x with
  | .slice base n cap => match sb lo 0 with
    | some l => match sb hi n with
      | some h => match base with
        | none => Bool.rec (.bad "slice nil range") (.ok (.val (.slice none 0 0)) s) (Nat.beq h 0 && Nat.beq l 0 && mx.isNone && Nat.beq n 0 && Nat.beq cap 0)
        | some ⟨b, o, none⟩ => match mx with
          | none => Bool.rec (.bad "slice range") (.ok (.val (.slice (some ⟨b, Nat.add o (Nat.mul l sz), none⟩) (Nat.sub h l) (Nat.sub cap l))) s) (Nat.ble l h && Nat.ble h cap)
          | some (.int _ (.ofNat m)) => Bool.rec (.bad "slice3 range") (.ok (.val (.slice (some ⟨b, Nat.add o (Nat.mul l sz), none⟩) (Nat.sub h l) (Nat.sub m l))) s) (Nat.ble l h && Nat.ble h m && Nat.ble m cap)
          | _ => .bad "slice3"
        | some ⟨b, o, some z⟩ => match mx with
          | none => Bool.rec (.bad "slice range") (.ok (.val (.slice (some ⟨b, Nat.add o (Nat.mul l sz), some z⟩) (Nat.sub h l) (Nat.sub h l))) s) (Nat.ble l h && Nat.ble h n && Nat.beq z sz)
          | some (.int _ (.ofNat m)) => Bool.rec (.bad "slice3 range") (.ok (.val (.slice (some ⟨b, Nat.add o (Nat.mul l sz), none⟩) (Nat.sub h l) (Nat.sub m l))) s) (Nat.ble l h && Nat.ble h m && Nat.ble m n)
          | _ => .bad "slice3"
      | none => .bad "slice bounds"
    | none => .bad "slice bounds"
  | _ => .bad "slice what"

noncomputable def doSliceStr (x : Value) (lo hi : Option Value) (s : St) : R Nx := match x with
  | .string str => match sb lo 0 with
    | some l => match sb hi str.size with
      | some h => Bool.rec (.bad "slice string range") (.ok (.val (.string (str.extract l h))) s) (Nat.ble l h && Nat.ble h str.size)
      | none => .bad "slice string bounds"
    | none => .bad "slice string bounds"
  | _ => .bad "slice string"

/- integers -/
noncomputable def wrapF (k : IntKind) (n : Int) : Int :=
  match k with
  | .i64 => Int.rec (motive := fun _ => Int) (fun m => Bool.rec (IntKind.i64.wrap (.ofNat m)) (.ofNat m) (Nat.blt m 9223372036854775808)) (fun m => Bool.rec (IntKind.i64.wrap (.negSucc m)) (.negSucc m) (Nat.blt m 9223372036854775808)) n
  | k => k.wrap n

def ltI : Int → Int → Bool
  | .ofNat a, .ofNat b => Nat.blt a b
  | .negSucc _, .ofNat _ => true
  | .ofNat _, .negSucc _ => false
  | .negSucc a, .negSucc b => Nat.blt b a

def eqI : Int → Int → Bool
  | .ofNat a, .ofNat b => Nat.beq a b
  | .negSucc a, .negSucc b => Nat.beq a b
  | _, _ => false

noncomputable def intF (op : BinOp) (k : IntKind) (a b : Int) (slow : Option Value) : Option Value :=
  match op with
  | .add => some (.int k (wrapF k (Int.add a b)))
  | .sub => some (.int k (wrapF k (Int.sub a b)))
  | .mul => some (.int k (wrapF k (Int.mul a b)))
  | .eql => some (.bool (eqI a b))
  | .neq => some (.bool (!(eqI a b)))
  | .lss => some (.bool (ltI a b))
  | .leq => some (.bool (!(ltI b a)))
  | .gtr => some (.bool (ltI b a))
  | .geq => some (.bool (!(ltI a b)))
  | _ => slow

def eqL : List UInt8 → List UInt8 → Bool
  | [], [] => true
  | a :: l, b :: m => Nat.beq a.toNat b.toNat && eqL l m
  | _, _ => false

def ltL : List UInt8 → List UInt8 → Bool
  | _, [] => false
  | [], _ :: _ => true
  | a :: l, b :: m => Nat.blt a.toNat b.toNat || (Nat.beq a.toNat b.toNat && ltL l m)

def strF (op : BinOp) (x y : List UInt8) : Option Value :=
  match op with
  | .add => if Nat.ble (x.length + y.length) 4611686018427387904 then some (.string ⟨⟨x ++ y⟩⟩) else none
  | .eql => some (.bool (eqL x y))
  | .neq => some (.bool (!(eqL x y)))
  | .lss => some (.bool (ltL x y))
  | .leq => some (.bool (ltL x y || eqL x y))
  | .gtr => some (.bool (!(ltL x y || eqL x y)))
  | .geq => some (.bool (!(ltL x y)))
  | _ => none

def okO (s : St) : Option Value → R Nx
  | some v => .ok (.val v) s
  | none => .bad "op"

def kindEq : IntKind → IntKind → Bool := fun a b => decide (a = b)

/-- an operation on values without addresses, carried out by the model's own text -/
def gen (P : Program) (env : Operand → Value) (o : Oper) : Option Value :=
  if o.op.operands.toList.all (fun x => ground (env x)) then
    match pureRun P (execOp env o) with
    | some (.value v) => if ground v then some v else none
    | some .skip => some undef
    | _ => none
  else none

noncomputable def doGen (T : Tab) (o : Oper) (tm : Tr Value) (s : St) : R Nx := okO s (gen T.prog (evO tm) o)

/-- a comparison with nil -/
noncomputable def nilF (op : BinOp) (fits isNil : Bool) (s : St) : R Nx :=
  Bool.rec (.bad "binop nil") (match op with
      | .eql => .ok (.val (.bool isNil)) s
      | .neq => .ok (.val (.bool (!isNil))) s
      | _ => .bad "binop nil") fits

def isSliceT : Option TI → Bool | some { und := .slice _, .. } => true | _ => false
def isPtrT : Option TI → Bool | some { und := .pointer _, .. } => true | _ => false
def isMapT : Option TI → Bool | some { und := .map _ _, .. } => true | _ => false

noncomputable def doBin (T : Tab) (o : Oper) (ty : Option TI) (op : BinOp) (x y : Value) (tm : Tr Value) (s : St) : R Nx :=
  match x with
  | .int k a => match y with
    | .int k' b => match op with
      | .shl | .shr => doGen T o tm s
      | _ => Bool.rec (.bad "binop kinds") (okO s (intF op k a b (gen T.prog (evO tm) o))) (kindEq k k')
    | _ => .bad "binop int"
  | .string a => match y with
    | .string b => okO s (strF op a.data.toList b.data.toList)
    | _ => .bad "binop string"
  | .slice p _ _ => match y with
    | .slice none _ _ => nilF op (isSliceT ty) p.isNone s
    | _ => .bad "binop slice"
  | .pointer p => match y with
    | .pointer none => nilF op (isPtrT ty) p.isNone s
    | _ => .bad "binop pointers"
  | .map p => match y with
    | .map none => nilF op (isMapT ty) p.isNone s
    | _ => .bad "binop maps"
  | _ => doGen T o tm s

/- making values -/
def vcells : Value → List Value
  | .agg cs => cs.toList
  | v => [v]

/-- the places of all fields of a struct -/
def structPlaces (P : Program) : List Field → Option (List (Nat × Nat))
  | [] => some []
  | f :: fs => match tiOf P f.type with
    | some ti => match structPlaces P fs with
      | some l => some ((f.offset, ti.size) :: l)
      | none => none
    | none => none

noncomputable def doBuild (zs : List Value) (place : Nat → Option (Nat × Nat)) (vs : List (Nat × Value)) (s : St) : R Nx :=
  match Instr.fill place ⟨zs⟩ vs with
  | some l => .ok (.val (.agg l)) s
  | none => .bad "build"

def repl (z : List Value) : Nat → List Value
  | 0 => []
  | n + 1 => z ++ repl z n

noncomputable def doBuildSlice (e : TypeId) (n sz : Nat) (z : List Value) (vs : List (Nat × Value)) (s : St) : R Nx :=
  match Instr.fill (fun i => some (i * sz, sz)) ⟨repl z n⟩ vs with
  | some l => .ok (.val (.slice (some ⟨s.next, 0, none⟩) n n)) (newObj s (.cells (trOf l.toList 0 .lf) (n * sz) e))
  | none => .bad "buildSlice"

noncomputable def doMakeSlice (e : TypeId) (z : List Value) (by_ : Nat) (l c : Value) (s : St) : R Nx :=
  match l with
  | .int _ (.ofNat n) => match c with
    | .int _ (.ofNat m) => Bool.rec (.bad "makeSlice") (.ok (.val (.slice (some ⟨s.next, 0, none⟩) n m)) (newObj s (.cells (trOf (repl z m) 0 .lf) (m * z.length) e))) (Nat.ble n m && Nat.ble (m * (by_ + 1)) 4294967296)
    | _ => .bad "makeSlice"
  | _ => .bad "makeSlice"

noncomputable def doExtract (x : Value) (i : Nat) (s : St) : R Nx :=
  match x with
  | .tuple vs => okO s vs.toList[i]?
  | _ => .bad "extract"

noncomputable def doFieldV (agg : Bool) (off sz : Nat) (x : Value) (s : St) : R Nx :=
  match x with
  | .agg cs => Bool.rec (okO s cs.toList[off]?) (Bool.rec (.bad "field") (.ok (.val (.agg ⟨(cs.toList.drop off).take sz⟩)) s) (Nat.ble (off + sz) cs.toList.length)) agg
  | _ => .bad "field value"

noncomputable def doIndexStr (x i : Value) (s : St) : R Nx :=
  match x with
  | .string b => match i with
    | .int _ (.ofNat i) => match b.data.toList[i]? with
      | some c => .ok (.val (.int .u8 c.toNat)) s
      | none => .bad "index string"
    | _ => .bad "index int"
  | _ => .bad "index string"

noncomputable def doIndexAgg (n : Nat) (agg : Bool) (sz : Nat) (x i : Value) (s : St) : R Nx :=
  match i with
  | .int _ (.ofNat i) => Bool.rec (.bad "index range") (doFieldV agg (i * sz) sz x s) (Nat.blt i n)
  | _ => .bad "index int"

def doMakeIface (t : TypeId) (x : Value) (s : St) : R Nx := .ok (.val (.iface t x)) s

noncomputable def doAssert (asserted : TypeId) (z : Option Value) (ok : Bool) (x : Value) (s : St) : R Nx :=
  match x with
  | .iface t v => Bool.rec (Bool.rec (.bad "assert") (match z with | some z => .ok (.val (.tuple #[z, .bool false])) s | none => .bad "assert zero") ok) (.ok (.val (Bool.rec v (.tuple #[v, .bool true]) ok)) s) (Nat.beq t asserted)
  | .nilIface => Bool.rec (.bad "assert") (match z with | some z => .ok (.val (.tuple #[z, .bool false])) s | none => .bad "assert zero") ok
  | _ => .bad "assert iface"

def doNilCheck (x : Value) (s : St) : R Nx := match x with
  | .pointer none | .nilIface | .nilFunc => .bad "nil"
  | .func (.method _) _ _ => .bad "nilCheck method"
  | x => .ok (.val x) s

/- maps: keys are integers, strings, bools -/
def keyFits (d : TypeDesc) (k : Value) : Bool := match d, k with
  | .int _, .int _ _ | .string, .string _ | .bool, .bool _ => true
  | _, _ => false

def sameKey : Value → Value → Option Bool
  | .int k a, .int k' b => if kindEq k k' then some (eqI a b) else none
  | .string a, .string b => some (eqL a.data.toList b.data.toList)
  | .bool a, .bool b => some (a == b)
  | _, _ => none

def findK (k : Value) : List MapEntry → Nat → Option (Option (Nat × Value))
  | [], _ => some none
  | e :: es, i => match sameKey k e.key with
    | some true => some (some (i, e.val))
    | some false => findK k es (i + 1)
    | none => none

noncomputable def doLookup (H : Hid) (kd : TypeDesc) (z : Value) (ok : Bool) (m k : Value) (s : St) : R Nx :=
  let back (v : Value) (b : Bool) : R Nx := .ok (.val (Bool.rec v (.tuple #[v, .bool b]) ok)) s
  Bool.rec (.bad "lookup key") (match m with
    | .map none => back z false
    | .map (some r) => match St.vis H s r with
      | some (.map es _) => match findK k es 0 with
        | some (some (_, v)) => back v true
        | some none => back z false
        | none => .bad "lookup keys"
      | _ => .bad "lookup map"
    | _ => .bad "lookup value") (keyFits kd k)

def modE (i : Nat) (f : MapEntry → MapEntry) : List MapEntry → List MapEntry
  | [] => []
  | e :: es => match i with
    | 0 => f e :: es
    | i + 1 => e :: modE i f es

def delE (i : Nat) : List MapEntry → List MapEntry
  | [] => []
  | e :: es => match i with
    | 0 => es
    | i + 1 => e :: delE i es

noncomputable def doUpdate (H : Hid) (kd : TypeDesc) (m k v : Value) (s : St) : R Nx :=
  Bool.rec (.bad "update key") (match m with
    | .map (some r) => match St.vis H s r with
      | some (.map es c) => match findK k es 0 with
        | some (some (i, _)) => .ok (.val undef) (setObj s r (some (.map (modE i (fun e => { e with key := k, val := v }) es) c)))
        | some none => .ok (.val undef) (setObj s r (some (.map (es ++ [{ key := k, val := v, born := c }]) (c + 1))))
        | none => .bad "update keys"
      | _ => .bad "update map"
    | _ => .bad "update value") (keyFits kd k)

noncomputable def doDelete (H : Hid) (kd : TypeDesc) (m k : Value) (s : St) : R Nx :=
  Bool.rec (.bad "delete key") (match m with
    | .map none => .ok (.val (.tuple #[])) s
    | .map (some r) => match St.vis H s r with
      | some (.map es c) => match findK k es 0 with
        | some (some (i, _)) => .ok (.val (.tuple #[])) (setObj s r (some (.map (delE i es) c)))
        | some none => .ok (.val (.tuple #[])) (setObj s r (some (.map es c)))
        | none => .bad "delete keys"
      | _ => .bad "delete map"
    | _ => .bad "delete value") (keyFits kd k)

noncomputable def doLen (H : Hid) (ty : Option TI) (x : Value) (s : St) : R Nx := match x with
  | .slice _ n _ => Bool.rec (.bad "len slice") (.ok (.val (goIntV n)) s) (isSliceT ty)
  | .string b => match ty with
    | some { und := .string, .. } => .ok (.val (goIntV b.data.toList.length)) s
    | _ => .bad "len string"
  | .map none => Bool.rec (.bad "len map") (.ok (.val (goIntV 0)) s) (isMapT ty)
  | .map (some r) => match St.vis H s r with
    | some (.map es _) => Bool.rec (.bad "len map") (.ok (.val (goIntV es.length)) s) (isMapT ty)
    | _ => .bad "len map"
  | _ => .bad "len"

noncomputable def srcOf (H : Hid) (sz : Nat) (y : Value) (s : St) : Option (Nat × List Value) := match y with
  | .slice none 0 0 => some (0, [])
  | .slice (some ⟨b, o, _⟩) m _ => match St.vis H s b with
    | some (.cells c _ _) => match ldN c o (m * sz) [] with
      | some l => some (m, l)
      | none => none
    | _ => none
  | .string b => Bool.rec none (some (b.data.toList.length, b.data.toList.map fun x => .int .u8 x.toNat)) (Nat.beq sz 1)
  | _ => none

def growOk (by_ n : Nat) : Bool := Nat.ble (n * (by_ + 1)) 4294967296

/-- append: within a known capacity in place; else a new block; of a slice of unknown capacity the old block is dead -/
noncomputable def doAppend (H : Hid) (e : TypeId) (sz by_ : Nat) (x y : Value) (s : St) : R Nx :=
  match x with
  | .slice base n cap => match srcOf H sz y s with
    | some (m, vs) => Bool.rec (.bad "append size") (Bool.rec (match base with
      | none => Bool.rec (.bad "append nil") (.ok (.val (.slice (some ⟨s.next, 0, some sz⟩) m m)) (newObj s (.cells (trOf vs 0 .lf) (m * sz) e))) (Nat.beq n 0 && Nat.beq cap 0)
      | some ⟨b, o, none⟩ => match St.vis H s b with
        | some (.cells c k e') => Bool.rec
              (match ldN c o (n * sz) vs with
                | some l => .ok (.val (.slice (some ⟨s.next, 0, some sz⟩) (n + m) (n + m))) (newObj s (.cells (trOf l 0 .lf) ((n + m) * sz) e))
                | none => .bad "append cells")
              (Bool.rec (.bad "append room") (.ok (.val (.slice base (n + m) cap)) (setObj s b (some (.cells (stN (o + n * sz) vs 0 c) k e')))) (Nat.ble (o + cap * sz) k))
              (Nat.ble (n + m) cap)
        | _ => .bad "append dead"
      | some ⟨b, o, some z⟩ => match St.vis H s b with
        | some (.cells c k _) => Bool.rec (.bad "append element") (Bool.rec
                (match ldN c o (n * sz) vs with
                  | some l => .ok (.val (.slice (some ⟨s.next, 0, some sz⟩) (n + m) (n + m))) (newObj (setObj s b none) (.cells (trOf l 0 .lf) ((n + m) * sz) e))
                  | none => .bad "append cells")
                (.ok (.val (.slice (some ⟨s.next, 0, some sz⟩) (n + m) (n + m))) (newObj (setObj s b none) (.cells (stN k vs 0 c) ((n + m) * sz) e)))
                (Nat.beq o 0 && Nat.beq (n * sz) k)) (Nat.beq z sz)
        | _ => .bad "append dead")
      (match base with
        | none => Bool.rec (.bad "append nil") (.ok (.val x) s) (Nat.beq n 0 && Nat.beq cap 0)
        | some _ => .ok (.val x) s) (Nat.beq m 0)) (growOk by_ (n + m) && vs.all oneC)
    | none => .bad "append source"
  | _ => .bad "append slice"

noncomputable def doConvert (T : Tab) (o : Oper) (k : IntKind) (x : Value) (tm : Tr Value) (s : St) : R Nx := match x with
  | .int _ n => .ok (.val (.int k (wrapF k n))) s
  | _ => doGen T o tm s

def bytesOf : List Value → Option (List UInt8)
  | [] => some []
  | .int .u8 n :: l => match bytesOf l with
    | some bs => some (UInt8.ofNat n.toNat :: bs)
    | none => none
  | _ :: _ => none

/-- bytes, as a string -/
noncomputable def doBytesStr (H : Hid) (x : Value) (s : St) : R Nx := match x with
  | .slice none _ _ => .ok (.val (.string ⟨⟨[]⟩⟩)) s
  | .slice (some ⟨b, o, _⟩) n _ => match St.vis H s b with
    | some (.cells c _ _) => match ldN c o n [] with
      | some l => match bytesOf l with
        | some bs => .ok (.val (.string ⟨⟨bs⟩⟩)) s
        | none => .bad "bytes"
      | none => .bad "bytes cells"
    | _ => .bad "bytes block"
  | _ => .bad "bytes slice"

noncomputable def yieldT (ps : List Tmp) : List Value → Tr Value → Tr Value :=
  List.rec (motive := fun _ => List Value → Tr Value → Tr Value) (fun _ t => t) (fun p _ ih l t => match l with | v :: l => ih l (t.set p (some v)) | [] => t) ps

noncomputable def doCallV (P : Program) (H : Hid) (f : Value) (args : List Value) (s : St) : R Nx := match f with
  | .func (.yield l) first captured => match St.vis H s l with
    | some (.loop r) => Bool.rec (.bad "yield") (.ok (.round l r.fn r.nt (yieldT r.params args r.tmps) r.assign r.body) s)
        (Nat.beq args.length r.params.length && first.isEmpty && captured.isEmpty && r.params.all fun p => Nat.blt p r.nt)
    | _ => .bad "yield loop"
  | .func (.func g) first captured => match fiOf P g with
    | some _ => .ok (.enter g (first.toList ++ args ++ captured.toList)) s
    | none => .bad "call no body"
  | _ => .bad "call value"

/-- a method of a dynamic type that is a plain function -/
def methOf (P : Program) (t : TypeId) (name : String) : Option FuncId :=
  match P.info? t with
  | some i => match i.methods.find? (·.name == name) with
    | some m => match m.func, m.path.toList, P.underlying t with
      | some (f, true), [], some (.pointer _) => some f
      | some (f, false), [], some (.struct _) => some f
      | _, _, _ => none
    | none => none
  | none => none

def doInvoke (P : Program) (name : String) (x : Value) (args : List Value) (s : St) : R Nx := match x with
  | .iface t v => match methOf P t name with
    | some f => match fiOf P f with
      | some _ => .ok (.enter f (v :: args)) s
      | none => .bad "invoke no body"
    | none => .bad "invoke method"
  | _ => .bad "invoke"

def doMakeFunc (fn : Fn) (first captured : List Value) (s : St) : R Nx := .ok (.val (.func fn ⟨first⟩ ⟨captured⟩)) s

noncomputable def cOp (T : Tab) (o : Oper) : Box OpF :=
  match o.op with
  | .move x | .assign x => .mk fun H tm s => .ok (.val (evO tm x)) s
  | .pick c a b => .mk fun H tm s => doPick s (evO tm c) (evO tm a) (evO tm b)
  | .load t a => match tiOf T.prog t with
    | some ti => Bool.rec (.mk fun H tm s => doLoad1 H (evO tm a) s) (.mk fun H tm s => doLoadN H ti.size (evO tm a) s) ti.agg
    | none => .mk fun _ _ _ => .bad "load type"
  | .store t a x => match tiOf T.prog t with
    | some ti => Bool.rec (Bool.rec (.mk fun _ _ _ => .bad "store size") (.mk fun H tm s => doStore1 H (evO tm a) (evO tm x) s) (Nat.beq ti.size 1)) (.mk fun H tm s => doStoreN H ti.size (evO tm a) (evO tm x) s) ti.agg
    | none => .mk fun _ _ _ => .bad "store type"
  | .box e x => .mk fun H tm s => doBox e (evO tm x) s
  | .alloc e => match tiOf T.prog e with
    | some { zero := some z, .. } => Bool.rec (.mk fun _ _ _ => .bad "alloc zero") (.mk fun _ _ s => doBox e z s) (ground z)
    | _ => .mk fun _ _ _ => .bad "alloc"
  | .fieldAddr st x f => match tiOf T.prog st with
    | some { und := .struct fs, .. } => match fs[f]? with
      | some fl => match tiOf T.prog fl.type with
        | some ti => Bool.rec (.mk fun H tm s => doField fl.offset (evO tm x) s) (.mk fun _ _ _ => .bad "field size 0") (Nat.beq ti.size 0)
        | none => .mk fun _ _ _ => .bad "field type"
      | none => .mk fun _ _ _ => .bad "field"
    | _ => .mk fun _ _ _ => .bad "field struct"
  | .field st x f => match tiOf T.prog st with
    | some { und := .struct fs, .. } => match fs[f]? with
      | some fl => match tiOf T.prog fl.type with
        | some ti => .mk fun H tm s => doFieldV ti.agg fl.offset ti.size (evO tm x) s
        | none => .mk fun _ _ _ => .bad "field type"
      | none => .mk fun _ _ _ => .bad "field"
    | _ => .mk fun _ _ _ => .bad "field struct"
  | .indexAddr t x ix => match tiOf T.prog t with
    | some { und := .slice e, .. } => match tiOf T.prog e with
      | some ti => .mk fun H tm s => doIndexS ti.size (evO tm x) (evO tm ix) s
      | none => .mk fun _ _ _ => .bad "index type"
    | some { und := .array n e, .. } => match tiOf T.prog e with
      | some ti => .mk fun H tm s => doIndexA n ti.size (evO tm x) (evO tm ix) s
      | none => .mk fun _ _ _ => .bad "index type"
    | _ => .mk fun _ _ _ => .bad "index type"
  | .index t x ix => match tiOf T.prog t with
    | some { und := .string, .. } => .mk fun H tm s => doIndexStr (evO tm x) (evO tm ix) s
    | some { und := .array n e, .. } => match tiOf T.prog e with
      | some ti => .mk fun H tm s => doIndexAgg n ti.agg ti.size (evO tm x) (evO tm ix) s
      | none => .mk fun _ _ _ => .bad "index type"
    | _ => .mk fun _ _ _ => .bad "index type"
  | .slice t x lo hi mx => match tiOf T.prog t with
    | some { und := .slice e, .. } => match tiOf T.prog e with
      | some ti => Bool.rec (.mk fun _ _ _ => .bad "slice form") (.mk fun _ tm s => doSlice ti.size (evO tm x) (lo.map (evO tm)) (hi.map (evO tm)) (mx.map (evO tm)) s) (mx.isNone || hi.isSome)
      | none => .mk fun _ _ _ => .bad "slice type"
    | some { und := .string, .. } => match mx with
      | none => .mk fun H tm s => doSliceStr (evO tm x) (lo.map (evO tm)) (hi.map (evO tm)) s
      | some _ => .mk fun _ _ _ => .bad "slice string"
    | _ => .mk fun _ _ _ => .bad "slice type"
  | .binOp op t x y _ => .mk fun _ tm s => doBin T o (tiOf T.prog t) op (evO tm x) (evO tm y) tm s
  | .convert src dst x => match tiOf T.prog src with
    | some _ => match tiOf T.prog dst with
      | some { und := .int k, .. } => .mk fun _ tm s => doConvert T o k (evO tm x) tm s
      | some { und := .string, .. } => (match T.prog.underlying src with
        | some (.slice e) => (match T.prog.underlying e with
          | some (.int .u8) => .mk fun H tm s => doBytesStr H (evO tm x) s
          | _ => .mk fun _ tm s => doGen T o tm s)
        | _ => .mk fun _ tm s => doGen T o tm s)
      | _ => .mk fun _ tm s => doGen T o tm s
    | none => .mk fun _ _ _ => .bad "convert type"
  | .extract x i => .mk fun H tm s => doExtract (evO tm x) i s
  | .makeInterface t x => match tiOf T.prog t with
    | some { und := .interface _, .. } => .mk fun _ _ _ => .bad "makeInterface"
    | some _ => .mk fun H tm s => doMakeIface t (evO tm x) s
    | none => .mk fun _ _ _ => .bad "makeInterface"
  | .typeAssert x _ asserted ok => match tiOf T.prog asserted with
    | some { und := .interface _, .. } => .mk fun _ _ _ => .bad "assert interface"
    | some { zero := z, .. } => .mk fun H tm s => doAssert asserted (match z with | some z => if ground z then some z else none | none => none) ok (evO tm x) s
    | none => .mk fun _ _ _ => .bad "assert type"
  | .makeFunc fn first captured => match fn with
    | .func _ => .mk fun H tm s => doMakeFunc fn (first.toList.map (evO tm)) (captured.toList.map (evO tm)) s
    | _ => .mk fun _ _ _ => .bad "makeFunc"
  | .makeMap _ r => match r with
    | none => .mk fun _ _ s => .ok (.val (.map (some s.next))) (newObj s (.map [] 0))
    | some _ => .mk fun _ _ _ => .bad "makeMap"
  | .lookup t x ix ok => match tiOf T.prog t with
    | some { und := .map kt e, .. } => match tiOf T.prog kt with
      | some ki => match tiOf T.prog e with
        | some { zero := some z, .. } => Bool.rec (.mk fun _ _ _ => .bad "lookup zero") (.mk fun H tm s => doLookup H ki.und z ok (evO tm x) (evO tm ix) s) (ground z)
        | _ => .mk fun _ _ _ => .bad "lookup type"
      | none => .mk fun _ _ _ => .bad "lookup type"
    | _ => .mk fun _ _ _ => .bad "lookup type"
  | .mapUpdate t m k v | .insert t m k v => match tiOf T.prog t with
    | some { und := .map kt _, .. } => match tiOf T.prog kt with
      | some ki => .mk fun H tm s => doUpdate H ki.und (evO tm m) (evO tm k) (evO tm v) s
      | none => .mk fun _ _ _ => .bad "update type"
    | _ => .mk fun _ _ _ => .bad "update type"
  | .makeSlice t l c => match tiOf T.prog t with
    | some { und := .slice e, .. } => match tiOf T.prog e with
      | some { zero := some z, size := sz, .. } => Bool.rec (.mk fun _ _ _ => .bad "makeSlice zero") (.mk fun _ tm s => doMakeSlice e (vcells z) (T.prog.bytesOf e) (evO tm l) (evO tm c) s) (ground z && Nat.beq (vcells z).length sz)
      | _ => .mk fun _ _ _ => .bad "makeSlice zero"
    | _ => .mk fun _ _ _ => .bad "makeSlice type"
  | .build t parts => match tiOf T.prog t with
    | some { und := .struct fs, zero := some z, .. } => match structPlaces T.prog fs.toList with
      | some pl => Bool.rec (.mk fun _ _ _ => .bad "build zero") (.mk fun _ tm s => doBuild (vcells z) (fun i => pl[i]?) (parts.toList.map fun p => (p.1, evO tm p.2)) s) (ground z)
      | none => .mk fun _ _ _ => .bad "build fields"
    | some { und := .array _ e, zero := some z, .. } => match tiOf T.prog e with
      | some ti => Bool.rec (.mk fun _ _ _ => .bad "build zero") (.mk fun _ tm s => doBuild (vcells z) (fun i => some (i * ti.size, ti.size)) (parts.toList.map fun p => (p.1, evO tm p.2)) s) (ground z)
      | none => .mk fun _ _ _ => .bad "build element"
    | _ => .mk fun _ _ _ => .bad "build type"
  | .buildSlice t n parts => match tiOf T.prog t with
    | some { und := .slice e, .. } => match tiOf T.prog e with
      | some { zero := some z, size := sz, .. } => Bool.rec (.mk fun _ _ _ => .bad "buildSlice zero") (.mk fun _ tm s => doBuildSlice e n sz (vcells z) (parts.toList.map fun p => (p.1, evO tm p.2)) s) (ground z && Nat.beq (vcells z).length sz && Nat.ble (n * sz) 65536)
      | _ => .mk fun _ _ _ => .bad "buildSlice element"
    | _ => .mk fun _ _ _ => .bad "buildSlice type"
  | .nilCheck x => .mk fun H tm s => doNilCheck (evO tm x) s
  | .call { callee := .builtin .append, args, argTypes } => match args.toList with
    | [x, y] => match argTypes.toList with
      | [t, t2] => match tiOf T.prog t with
        | some { und := .slice e, .. } => match tiOf T.prog e with
          | some ti => match tiOf T.prog t2 with
            | some { und := .int _, .. } | none => .mk fun _ _ _ => .bad "append type"
            | some _ => match ti.zero with
              | some z => Bool.rec (.mk fun _ _ _ => .bad "append zero") (.mk fun H tm s => doAppend H e ti.size (T.prog.bytesOf e) (evO tm x) (evO tm y) s) (Nat.beq (vcells z).length ti.size)
              | none => .mk fun _ _ _ => .bad "append zero"
          | none => .mk fun _ _ _ => .bad "append type"
        | _ => .mk fun _ _ _ => .bad "append type"
      | _ => .mk fun _ _ _ => .bad "append types"
    | _ => .mk fun _ _ _ => .bad "append args"
  | .call { callee := .builtin .len, args, argTypes } => match args.toList with
    | [x] => match argTypes.toList with
      | [t] => match tiOf T.prog t with
        | some { und := .array _ _, .. } => .mk fun _ tm s => doGen T o tm s
        | ty => .mk fun H tm s => doLen H ty (evO tm x) s
      | _ => .mk fun _ _ _ => .bad "len types"
    | _ => .mk fun _ _ _ => .bad "len args"
  | .call { callee := .builtin .delete, args, argTypes } => match args.toList with
    | [m, k] => match argTypes.toList with
      | t :: _ => match tiOf T.prog t with
        | some { und := .map kt _, .. } => match tiOf T.prog kt with
          | some ki => .mk fun H tm s => doDelete H ki.und (evO tm m) (evO tm k) s
          | none => .mk fun _ _ _ => .bad "delete type"
        | _ => .mk fun _ _ _ => .bad "delete type"
      | _ => .mk fun _ _ _ => .bad "delete types"
    | _ => .mk fun _ _ _ => .bad "delete args"
  | .call { callee := .builtin b, .. } => match b with
    | .min | .max => .mk fun H tm s => doGen T o tm s
    | _ => .mk fun _ _ _ => .bad "builtin"
  | .call { callee := .value (.func g), args, .. } => match fiOf T.prog g with
    | some _ => .mk fun H tm s => .ok (.enter g (args.toList.map (evO tm))) s
    | none => .mk fun _ _ _ => .bad "call no body"
  | .call { callee := .value f, args, .. } => .mk fun H tm s => doCallV T.prog H (evO tm f) (args.toList.map (evO tm)) s
  | .call { callee := .invoke r name, args, .. } => .mk fun H tm s => doInvoke T.prog name (evO tm r) (args.toList.map (evO tm)) s
  | .unOp .. => .mk fun H tm s => doGen T o tm s
  | _ => .mk fun _ _ _ => .bad "op"

/- frames -/
structure AF where
  fn : FuncId
  nt : Nat
  tmps : Tr Value
  todo : List Item
  defers : List Nat
  rof : Option Nat

noncomputable def putT (tmps : Tr Value) (d : Option Tmp) (v : Value) : Tr Value :=
  Option.rec tmps (fun d => tmps.set d (some v)) d

noncomputable def resA (H : Hid) (T : Tab) (tmps : Tr Value) (s : St) : List ResultVar → Option (List Value)
  | [] => some []
  | .tmp t :: l => match resA H T tmps s l with
    | some vs => some (evO tmps (.tmp t) :: vs)
    | none => none
  | .cell a t :: l => match tiOf T.prog t with
    | some ti => match (Bool.rec (doLoad1 H (evO tmps (.tmp a)) s) (doLoadN H ti.size (evO tmps (.tmp a)) s) ti.agg : R Nx) with
      | .ok (.val v) _ => match resA H T tmps s l with
        | some vs => some (v :: vs)
        | none => none
      | _ => none
    | none => none

def oneOf : List Value → Value
  | [v] => v
  | l => .tuple ⟨l⟩

/-- the marks of loops over functions among the deferred calls are taken -/
noncomputable def takeMarks (H : Hid) : List Nat → St → Option St
  | [], s => some s
  | r :: l, s => match St.vis H s r with
    | some (.marks false) => takeMarks H l (setObj s r (some (.marks true)))
    | _ => none

noncomputable def leaveA (H : Hid) (T : Tab) (fr : AF) (jump : Option Code) (s : St) : R Value :=
  match fr.rof with
  | none => match fiOf T.prog fr.fn with
    | some fi => match jump with
      | none | some .ret => match takeMarks H fr.defers s with
        | some s => match resA H T fr.tmps s fi.results with
          | some vs => .ok (oneOf vs) s
          | none => .bad "results"
        | none => .bad "marks"
      | _ => .bad "leave jump"
    | none => .bad "leave no function"
  | some l => match St.vis H s l with
    | some (.loop r) => .ok (.bool jump.isNone) (setObj s l (some (.loop { r with state := (match jump with | none => .ready | some _ => .done), pending := jump })))
    | _ => .bad "leave loop"

abbrev Rec := Hid → AF → St → R Value

noncomputable def enterA (T : Tab) (f : FuncId) (args : List Value) : Option AF :=
  match fiOf T.prog f with
  | some fi => some { fn := f, nt := fi.ntmps, tmps := trOf args 0 .lf, todo := [.code fi.body], defers := [], rof := none }
  | none => none

structure COp where
  guard : Option (Option Tmp × Bool)
  dst : Option Tmp
  run : Box OpF
  bef : Nat
  pur : Bool
  see : Box (Tr Value → Nat → Hid)

/-- all blocks but these are hidden -/
noncomputable def butAddr (n : Nat) : Value → Hid
  | .pointer (some ⟨b, _, _⟩) => [(0, b), (Nat.succ b, n)]
  | .map (some b) => [(0, b), (Nat.succ b, n)]
  | _ => []

noncomputable def butTwo (n b c : Nat) : Hid := Bool.rec [(0, c), (Nat.succ c, b), (Nat.succ b, n)] [(0, b), (Nat.succ b, c), (Nat.succ c, n)] (Nat.ble b c)

noncomputable def butApp (n : Nat) : Value → Value → Hid
  | .slice none _ _, .slice none _ _ => [(0, n)]
  | .slice (some ⟨b, _, _⟩) _ _, .slice none _ _ | .slice none _ _, .slice (some ⟨b, _, _⟩) _ _ => [(0, b), (Nat.succ b, n)]
  | .slice (some ⟨b, _, _⟩) _ _, .slice (some ⟨c, _, _⟩) _ _ => butTwo n b c
  | _, _ => []

/-- what a simple operation has no need to look at -/
noncomputable def seeOf (op : Op) (tm : Tr Value) (n : Nat) : Hid := match op with
  | .load _ a | .store _ a _ | .lookup _ a _ _ | .mapUpdate _ a _ _ | .insert _ a _ _ => butAddr n (evO tm a)
  | .call { callee := .builtin .append, args, .. } => match args.toList with
    | [x, y] => butApp n (evO tm x) (evO tm y)
    | _ => []
  | .box .. | .alloc .. | .makeMap .. | .makeSlice .. | .build .. | .buildSlice .. => [(0, n)]
  | _ => []

/-- operations that look at no block, and make none -/
def pureOp : Op → Bool
  | .move _ | .assign _ | .pick .. | .fieldAddr .. | .field .. | .indexAddr .. | .index .. | .slice .. | .binOp .. | .unOp .. | .extract .. | .makeInterface .. | .makeFunc .. | .typeAssert .. | .nilCheck _ => true
  | _ => false

noncomputable def cOne (T : Tab) (ops : Array Oper) (o : Oper) (bef : Nat) : COp :=
  { guard := match o.guard with
      | none => none
      | some (j, w) => some ((ops[j]?).bind (·.dst), w),
    dst := o.dst, run := Bool.rec (.mk fun _ _ _ => .bad "operand") (cOp T o) (o.op.operands.toList.all opndOk), bef, pur := pureOp o.op, see := .mk (seeOf o.op) }

noncomputable def cOps (T : Tab) (ops : Array Oper) : List Oper → List Nat → List COp
  | [], _ => []
  | o :: l, b :: bs => cOne T ops o b :: cOps T ops l bs
  | o :: l, [] => cOne T ops o 0 :: cOps T ops l []

noncomputable def wantC (g : Option (Option Tmp × Bool)) (tmps : Tr Value) : Bool :=
  match g with
  | none => true
  | some (some d, w) => match tmps.get d with
    | some (.bool b) => Bool.rec (Bool.rec true false w) w b
    | _ => false
  | some (none, _) => false

/-- what an operation comes to, a call carried out to its end -/
noncomputable def fin (T : Tab) (H : Hid) (rec : AF → St → R Value) (r : R Nx) : R Value :=
  R.rec (motive := fun _ => R Value) (fun n s => Nx.rec (motive := fun _ => R Value) (fun v => .ok v s)
    (fun f args => match T.sum f args with
      | some v => .ok v s
      | none => match T.memo f args H s with
        | some (v, s') => .ok v s'
        | none => match enterA T f args with
          | some fr => rec fr s
          | none => .bad "enter")
    (fun l f nt tmps assign body => rec { fn := f, nt := nt, tmps := tmps, todo := [.code assign, .beginRound, .code body], defers := [], rof := some l } s) n)
    (fun w => .bad w) r

/-- a region in the order of its text -/
noncomputable def regA (T : Tab) (rec : Rec) (H : Hid) (l : List COp) : Tr Value → St → R (Tr Value) :=
  List.rec (motive := fun _ => Tr Value → St → R (Tr Value)) (fun tmps s => .ok tmps s)
    (fun o _ ih tmps s => COp.rec (motive := fun _ => R (Tr Value)) (fun g d bx _ _ _ => Box.rec (motive := fun _ => R (Tr Value)) (fun f =>
      Bool.rec (ih (putT tmps d undef) s) ((fin T H (rec H) (f H tmps s)).bind fun v s => ih (putT tmps d v) s) (wantC g tmps)) bx) o) l

/-- what became of an operation of a region that draws its order -/
structure DRec where
  idx : Nat
  bef : Nat
  lo : Nat
  hi : Nat
  touch : Bool
  hid : Hid
  wr : List Nat

/-- the blocks made by operations that need not lie ahead are hidden -/
def hideFor (bef : Nat) : List DRec → Hid → Hid
  | [], H => H
  | r :: rs, H => if Nat.blt r.lo r.hi && !(bef.testBit r.idx) then (r.lo, r.hi) :: hideFor bef rs H else hideFor bef rs H

noncomputable def unseen (j : DRec) (x : Nat) : Bool := Nat.ble j.lo x || hidden j.hid x

/-- whoever writes a block lies ahead of, or behind, all that could look at it -/
noncomputable def apartD (rs : List DRec) : Bool :=
  rs.all fun i => i.wr.isEmpty || rs.all fun j => !j.touch || Nat.beq i.idx j.idx || i.bef.testBit j.idx || j.bef.testBit i.idx || i.wr.all (unseen j)

/-- no round of a loop over a function -/
noncomputable def noR (r : R Nx) : R Nx :=
  R.rec (motive := fun _ => R Nx) (fun n s => Nx.rec (motive := fun _ => R Nx) (fun v => .ok (.val v) s) (fun f args => .ok (.enter f args) s) (fun _ _ _ _ _ _ => .bad "round in a draw") n) (fun w => .bad w) r

noncomputable def regD (T : Tab) (rec : Rec) (H : Hid) : List COp → Nat → Tr Value → St → List DRec → R (Tr Value)
  | [], _, tmps, s, rs => if apartD rs then .ok tmps s else .bad "order"
  | ⟨g, d, .mk f, bef, pur, .mk see⟩ :: l, i, tmps, s, rs =>
    if wantC g tmps then
      match fin T (see tmps s.next ++ hideFor bef rs H) (rec (see tmps s.next ++ hideFor bef rs H)) (noR (f (see tmps s.next ++ hideFor bef rs H) tmps { heap := s.heap, next := s.next, log := [] })) with
      | .ok v s' => regD T rec H l (i + 1) (putT tmps d v) { heap := s'.heap, next := s'.next, log := s'.log ++ s.log }
          ({ idx := i, bef, lo := s.next, hi := s'.next, touch := !pur, hid := see tmps s.next ++ hideFor bef rs H, wr := s'.log.filter (fun x => Nat.blt x s.next) } :: rs)
      | .bad w => .bad w
    else regD T rec H l (i + 1) (putT tmps d undef) s rs

/-- the names that an operation reads or writes -/
def namesOf (ops : Array Oper) (o : Oper) : List Tmp :=
  o.dst.toList ++ (match o.guard with | some (j, _) => ((ops[j]?).bind (·.dst)).toList | none => []) ++ o.op.operands.toList.filterMap fun | .tmp t => some t | _ => none

/-- whoever writes a name lies ahead of, or behind, all who name it -/
def dstsOk (nt : Nat) (ops : Array Oper) : Bool := ops.toList.all fun o => match o.dst with | some d => Nat.blt d nt | none => true

def regOk (ops : Array Oper) : Bool :=
  let b := Region.before ops
  ops.toList.zipIdx.all fun (o, i) => Nat.blt (b.getD i 0) (2 ^ i) &&
    ops.toList.zipIdx.all fun (p, k) => Nat.beq i k || (match p.dst with
      | none => true
      | some d => !(namesOf ops o).contains d) || (b.getD i 0).testBit k || (b.getD k 0).testBit i

def AF.to (fr : AF) (todo : List Item) : AF := { fn := fr.fn, nt := fr.nt, tmps := fr.tmps, todo, defers := fr.defers, rof := fr.rof }

noncomputable def stepA (T : Tab) (rec : Rec) (H : Hid) (fr : AF) (s : St) : R Value :=
  match fr.todo with
  | [] => leaveA H T fr none s
  | .inBlock _ :: k | .inScope _ :: k => rec H (fr.to k) s
  | .inLoop body :: k => rec H (fr.to (.code body :: .inLoop body :: k)) s
  | .code c :: k => match c with
    | .ret => leaveA H T fr (some .ret) s
    | .skip | .label _ => rec H (fr.to k) s
    | .seq a b => rec H (fr.to (.code a :: .code b :: k)) s
    | .cond c t e => match evO fr.tmps c with
      | .bool b => rec H (fr.to (.code (Bool.rec e t b) :: k)) s
      | _ => .bad "cond"
    | .block id body => rec H (fr.to (.code body :: .inBlock id :: k)) s
    | .loop body => rec H (fr.to (.code body :: .inLoop body :: k)) s
    | .scope body => rec H (fr.to (.code body :: .inScope body :: k)) s
    | .exit id => match exitTo id k with
      | some k' => rec H (fr.to k') s
      | none => leaveA H T fr (some (.exit id)) s
    | .goto l => match gotoIn l k with
      | some k' => rec H (fr.to k') s
      | none => leaveA H T fr (some (.goto l)) s
    | .region _ ops false => Bool.rec (.bad "region slots") (match regA T rec H (cOps T ops ops.toList []) fr.tmps s with
      | .ok tmps s => rec H { fn := fr.fn, nt := fr.nt, tmps, todo := k, defers := fr.defers, rof := fr.rof } s
      | .bad w => .bad w) (dstsOk fr.nt ops)
    | .rangeFunc g ps assign body => match fr.rof with
      | none => Bool.rec (.bad "range operand") (match doCallV T.prog H (evO fr.tmps g) [.func (.yield (Nat.succ s.next)) #[] #[]]
          (newObj (newObj s (.marks false)) (.loop { state := .ready, pending := none, fn := fr.fn, nt := fr.nt, tmps := fr.tmps, params := ps.toList, assign, body, defers := s.next })) with
        | .ok (.enter f args) s1 => match fin T H (rec H) (.ok (.enter f args) s1) with
          | .ok _ s2 => (match St.vis H s2 (Nat.succ s.next) with
            | some (.loop r) => (match r.state with
              | .busy => .bad "range busy"
              | _ => rec H { fn := fr.fn, nt := fr.nt, tmps := fr.tmps, todo := (r.pending.map Item.code).toList ++ k, defers := s.next :: fr.defers, rof := none } (setObj s2 (Nat.succ s.next) none))
            | _ => .bad "range loop")
          | .bad w => .bad w
        | _ => .bad "range call") (opndOk g)
      | some _ => .bad "range in a round"
    | .region _ ops true => Bool.rec (.bad "region names") (match regD T rec H (cOps T ops ops.toList (Region.before ops).toList) 0 fr.tmps s [] with
      | .ok tmps s => rec H { fn := fr.fn, nt := fr.nt, tmps, todo := k, defers := fr.defers, rof := fr.rof } s
      | .bad w => .bad w) (dstsOk fr.nt ops && regOk ops && fr.rof.isNone)
    | _ => .bad "code"
  | .beginRound :: k => match fr.rof with
    | some l => match St.vis H s l with
      | some (.loop r) => (match r.state with
        | .ready => rec H (fr.to k) (setObj s l (some (.loop { r with state := .busy })))
        | _ => .bad "round not ready")
      | _ => .bad "round loop"
    | none => .bad "no round"
  | _ => .bad "item"

noncomputable def runA (T : Tab) (fuel : Nat) : Hid → AF → St → R Value :=
  Nat.rec (motive := fun _ => Hid → AF → St → R Value) (fun _ _ _ => .bad "fuel") (fun _ ih H fr s => stepA T ih H fr s) fuel

noncomputable def callA (T : Tab) (fuel : Nat) (f : FuncId) (args : List Value) (s : St) : R Value :=
  match enterA T f args with
  | some fr => runA T fuel [] fr s
  | none => .bad "enter"

def st0 : St := { heap := .lf, next := 0, log := [] }

end Go.Ev

set_option linter.unusedVariables false
set_option linter.unusedSimpArgs false
namespace Go.Ev

theorem brec_true {α : Sort _} (a b : α) : (Bool.rec a b true : α) = b := rfl
theorem brec_false {α : Sort _} (a b : α) : (Bool.rec a b false : α) = a := rfl
theorem brec_ite {α : Type _} (a b : α) (c : Bool) : (Bool.rec a b c : α) = if c = true then b else a := by cases c <;> rfl

@[simp] theorem Tr.get_lf {α : Type} (n : Nat) : (Tr.lf : Tr α).get n = none := rfl

theorem Tr.get_nd {α : Type} (l : Tr α) (v : Option α) (r : Tr α) (n : Nat) :
    (Tr.nd l v r).get n = if n = 0 then v else if n % 2 = 1 then l.get (n / 2) else r.get (n / 2 - 1) := by
  show (Bool.rec (Bool.rec (r.get (n / 2 - 1)) (l.get (n / 2)) (Nat.beq (n % 2) 1)) v (Nat.beq n 0) : Option α) = _
  rw [brec_ite, brec_ite]
  simp only [Nat.beq_eq]

theorem Tr.setF_lf {α : Type} (x : Option α) (f n : Nat) :
    Tr.setF x (f + 1) .lf n = if n = 0 then .nd .lf x .lf else if n % 2 = 1 then .nd (setF x f .lf (n / 2)) none .lf else .nd .lf none (setF x f .lf (n / 2 - 1)) := by
  show (Bool.rec (Bool.rec (.nd .lf none (setF x f .lf (n / 2 - 1))) (.nd (setF x f .lf (n / 2)) none .lf) (Nat.beq (n % 2) 1)) (.nd .lf x .lf) (Nat.beq n 0) : Tr α) = _
  rw [brec_ite, brec_ite]
  simp only [Nat.beq_eq]

theorem Tr.setF_nd {α : Type} (x : Option α) (f n : Nat) (l : Tr α) (v : Option α) (r : Tr α) :
    Tr.setF x (f + 1) (.nd l v r) n = if n = 0 then .nd l x r else if n % 2 = 1 then .nd (setF x f l (n / 2)) v r else .nd l v (setF x f r (n / 2 - 1)) := by
  show (Bool.rec (Bool.rec (.nd l v (setF x f r (n / 2 - 1))) (.nd (setF x f l (n / 2)) v r) (Nat.beq (n % 2) 1)) (.nd l x r) (Nat.beq n 0) : Tr α) = _
  rw [brec_ite, brec_ite]
  simp only [Nat.beq_eq]

theorem Tr.get_setF {α : Type} (x : Option α) : ∀ (f : Nat) (t : Tr α) (n m : Nat), n < f → (Tr.setF x f t n).get m = if m = n then x else t.get m := by
  intro f
  induction f with
  | zero => intro t n m h; omega
  | succ f ih =>
    intro t n m h
    cases t with
    | lf =>
      rw [Tr.setF_lf]
      by_cases h0 : n = 0
      · subst h0
        rw [if_pos rfl, Tr.get_nd]
        by_cases hm : m = 0
        · simp [hm]
        · simp [hm]
      · rw [if_neg h0]
        by_cases h1 : n % 2 = 1
        · rw [if_pos h1, Tr.get_nd]
          by_cases hm : m = 0
          · subst hm; simp; omega
          · rw [if_neg hm]
            by_cases hm1 : m % 2 = 1
            · rw [if_pos hm1, ih _ _ _ (by omega)]
              by_cases e : m = n
              · subst e; simp
              · rw [if_neg (by omega), if_neg e]; simp
            · rw [if_neg hm1, if_neg (by omega)]; simp
        · rw [if_neg h1, Tr.get_nd]
          by_cases hm : m = 0
          · subst hm; simp; omega
          · rw [if_neg hm]
            by_cases hm1 : m % 2 = 1
            · rw [if_pos hm1, if_neg (by omega)]; simp
            · rw [if_neg hm1, ih _ _ _ (by omega)]
              by_cases e : m = n
              · subst e; simp
              · rw [if_neg (by omega), if_neg e]; simp
    | nd l v r =>
      rw [Tr.setF_nd]
      by_cases h0 : n = 0
      · subst h0
        rw [if_pos rfl, Tr.get_nd, Tr.get_nd]
        by_cases hm : m = 0
        · simp [hm]
        · simp [hm]
      · rw [if_neg h0]
        by_cases h1 : n % 2 = 1
        · rw [if_pos h1, Tr.get_nd, Tr.get_nd]
          by_cases hm : m = 0
          · subst hm; rw [if_pos rfl, if_neg (by omega), if_pos rfl]
          · rw [if_neg hm, if_neg hm]
            by_cases hm1 : m % 2 = 1
            · rw [if_pos hm1, if_pos hm1, ih _ _ _ (by omega)]
              by_cases e : m = n
              · subst e; simp
              · rw [if_neg (by omega), if_neg e]
            · rw [if_neg hm1, if_neg hm1, if_neg (by omega)]
        · rw [if_neg h1, Tr.get_nd, Tr.get_nd]
          by_cases hm : m = 0
          · subst hm; rw [if_pos rfl, if_neg (by omega), if_pos rfl]
          · rw [if_neg hm, if_neg hm]
            by_cases hm1 : m % 2 = 1
            · rw [if_pos hm1, if_pos hm1, if_neg (by omega)]
            · rw [if_neg hm1, if_neg hm1, ih _ _ _ (by omega)]
              by_cases e : m = n
              · subst e; simp
              · rw [if_neg (by omega), if_neg e]

theorem Tr.get_set {α : Type} (t : Tr α) (n m : Nat) (x : Option α) : (t.set n x).get m = if m = n then x else t.get m :=
  Tr.get_setF x (n + 1) t n m (Nat.lt_succ_self n)

theorem hidden_nil (i : Nat) : hidden [] i = false := rfl

theorem hidden_cons (p : Nat × Nat) (l : Hid) (i : Nat) : hidden (p :: l) i = ((p.1 ≤ i ∧ i < p.2 : Bool) || hidden l i) := by
  show (Bool.rec (hidden l i) (Bool.rec true (hidden l i) (Nat.ble p.2 i)) (Nat.ble p.1 i) : Bool) = _
  rw [brec_ite, brec_ite]
  simp only [Nat.ble_eq]
  by_cases h1 : p.1 ≤ i
  · by_cases h2 : p.2 ≤ i
    · rw [if_pos h1, if_pos h2]; simp [h1, Nat.not_lt.2 h2]
    · rw [if_pos h1, if_neg h2]; simp [h1, Nat.lt_of_not_le h2]
  · rw [if_neg h1]; simp [h1]

theorem vis_eq (H : Hid) (s : St) (i : Nat) : St.vis H s i = if hidden H i = true then none else s.heap.get i := by
  show (Bool.rec (s.heap.get i) none (hidden H i) : Option AObj) = _
  rw [brec_ite]

/- lists in trees -/
theorem trOf_nil (i : Nat) (t : Tr Value) : trOf [] i t = t := rfl
theorem trOf_cons (v : Value) (l : List Value) (i : Nat) (t : Tr Value) : trOf (v :: l) i t = trOf l (i + 1) (t.set i (some v)) := rfl

theorem get_trOf : ∀ (l : List Value) (i : Nat) (t : Tr Value) (k : Nat),
    (trOf l i t).get k = if i ≤ k ∧ k < i + l.length then l[k - i]? else t.get k := by
  intro l
  induction l with
  | nil => intro i t k; rw [trOf_nil, if_neg (by simp)]
  | cons v l ih =>
    intro i t k
    rw [trOf_cons, ih, Tr.get_set]
    simp only [List.length_cons]
    by_cases h : k = i
    · subst h
      rw [if_neg (by omega), if_pos rfl, if_pos (by omega)]; simp
    · rw [if_neg h]
      by_cases h2 : i + 1 ≤ k ∧ k < i + 1 + l.length
      · rw [if_pos h2, if_pos (by omega)]
        obtain ⟨d, hd⟩ : ∃ d, k - i = d + 1 := ⟨k - i - 1, by omega⟩
        rw [hd, List.getElem?_cons_succ]
        congr 1; omega
      · rw [if_neg h2, if_neg (by omega)]

theorem ldN_zero (c : Tr Value) (o : Nat) (acc : List Value) : ldN c o 0 acc = some acc := rfl
theorem ldN_succ (c : Tr Value) (o n : Nat) (acc : List Value) : ldN c o (n + 1) acc = match c.get (o + n) with | some v => ldN c o n (v :: acc) | none => none := by
  show (Option.rec none (fun v => ldN c o n (v :: acc)) (c.get (o + n)) : Option (List Value)) = _
  cases c.get (o + n) <;> rfl

theorem ldN_spec : ∀ (n : Nat) (c : Tr Value) (o : Nat) (acc l : List Value), ldN c o n acc = some l →
    ∃ m, l = m ++ acc ∧ m.length = n ∧ ∀ k, k < n → c.get (o + k) = m[k]? := by
  intro n
  induction n with
  | zero => intro c o acc l h; rw [ldN_zero] at h; cases h; exact ⟨[], by simp, rfl, fun k hk => by omega⟩
  | succ n ih =>
    intro c o acc l h
    rw [ldN_succ] at h
    cases hg : c.get (o + n) with
    | none => rw [hg] at h; cases h
    | some v =>
      rw [hg] at h
      obtain ⟨m, hl, hm, hk⟩ := ih c o (v :: acc) l h
      refine ⟨m ++ [v], by simp [hl], by simp [hm], fun k hk' => ?_⟩
      by_cases e : k = n
      · subst e; rw [hg]; simp [← hm]
      · rw [hk k (by omega), List.getElem?_append_left (by omega)]

theorem stN_nil (o k : Nat) (c : Tr Value) : stN o [] k c = c := rfl
theorem stN_cons (o : Nat) (v : Value) (l : List Value) (k : Nat) (c : Tr Value) : stN o (v :: l) k c = stN o l (k + 1) (c.set (o + k) (some v)) := rfl

theorem get_stN (o : Nat) : ∀ (l : List Value) (k : Nat) (c : Tr Value) (i : Nat),
    (stN o l k c).get i = if o + k ≤ i ∧ i < o + k + l.length then l[i - (o + k)]? else c.get i := by
  intro l
  induction l with
  | nil => intro k c i; rw [stN_nil, if_neg (by simp)]
  | cons v l ih =>
    intro k c i
    rw [stN_cons, ih, Tr.get_set]
    simp only [List.length_cons]
    by_cases h : i = o + k
    · subst h
      rw [if_neg (by omega), if_pos rfl, if_pos (by omega)]; simp
    · rw [if_neg h]
      by_cases h2 : o + (k + 1) ≤ i ∧ i < o + (k + 1) + l.length
      · rw [if_pos h2, if_pos (by omega)]
        obtain ⟨d, hd⟩ : ∃ d, i - (o + k) = d + 1 := ⟨i - (o + k) - 1, by omega⟩
        rw [hd, List.getElem?_cons_succ]
        congr 1; omega
      · rw [if_neg h2, if_neg (by omega)]

end Go.Ev

set_option linter.unusedVariables false
set_option linter.unusedSimpArgs false
namespace Go.Ev
open Go.RowKit

/-- where a block of the abstract heap lies: its block, the cell where it begins, and how many cells that block has -/
structure Loc where
  blk : Nat
  sh : Nat
  tot : Nat

abbrev Ren := Nat → Option Loc

mutual
inductive VR (ρ : Ren) : Value → Value → Prop
  | bool (b : Bool) : VR ρ (.bool b) (.bool b)
  | int (k : IntKind) (n : Int) : VR ρ (.int k n) (.int k n)
  | float (k : FloatKind) (n : Nat) : VR ρ (.float k n) (.float k n)
  | complex (k : FloatKind) (a b : Nat) : VR ρ (.complex k a b) (.complex k a b)
  | string (s : ByteArray) : VR ρ (.string s) (.string s)
  | ptrNil : VR ρ (.pointer none) (.pointer none)
  | ptr {b o : Nat} {l : Loc} (h : ρ b = some l) : VR ρ (.pointer (some ⟨b, o, none⟩)) (.pointer (some ⟨l.blk, l.sh + o, none⟩))
  | sliceNil (n c : Nat) : VR ρ (.slice none n c) (.slice none n c)
  | slice {b o o' n c : Nat} {l : Loc} (h : ρ b = some l) (ho : o' = l.sh + o ∨ c = 0) (hn : n ≤ c) : VR ρ (.slice (some ⟨b, o, none⟩) n c) (.slice (some ⟨l.blk, o', none⟩) n c)
  | sliceG {b o o' n c c' sz : Nat} {l : Loc} (h : ρ b = some l) (ho : o' = l.sh + o ∨ n = 0) (hn : n ≤ c') (ht : o' + c' * sz ≤ l.tot) :
      VR ρ (.slice (some ⟨b, o, some sz⟩) n c) (.slice (some ⟨l.blk, o', none⟩) n c')
  | mapNil : VR ρ (.map none) (.map none)
  | map {b : Nat} {l : Loc} (h : ρ b = some l) : VR ρ (.map (some b)) (.map (some l.blk))
  | chanNil : VR ρ (.chan none) (.chan none)
  | func {fn : Fn} {a a' c c' : Array Value} (hf : ∀ l, fn ≠ .yield l) (ha : VRs ρ a.toList a'.toList) (hc : VRs ρ c.toList c'.toList) : VR ρ (.func fn a c) (.func fn a' c')
  | yld {b : Nat} {l : Loc} (h : ρ b = some l) : VR ρ (.func (.yield b) #[] #[]) (.func (.yield l.blk) #[] #[])
  | nilFunc : VR ρ .nilFunc .nilFunc
  | iface {t : TypeId} {v v' : Value} (h : VR ρ v v') : VR ρ (.iface t v) (.iface t v')
  | nilIface : VR ρ .nilIface .nilIface
  | agg {a a' : Array Value} (h : VRs ρ a.toList a'.toList) : VR ρ (.agg a) (.agg a')
  | tuple {a a' : Array Value} (h : VRs ρ a.toList a'.toList) : VR ρ (.tuple a) (.tuple a')
inductive VRs (ρ : Ren) : List Value → List Value → Prop
  | nil : VRs ρ [] []
  | cons {v v' : Value} {l l' : List Value} (h : VR ρ v v') (t : VRs ρ l l') : VRs ρ (v :: l) (v' :: l')
end

def RenLe (ρ ρ' : Ren) : Prop := ∀ b l, ρ b = some l → ρ' b = some l

theorem RenLe.refl (ρ : Ren) : RenLe ρ ρ := fun _ _ h => h
theorem RenLe.trans {a b c : Ren} (h : RenLe a b) (k : RenLe b c) : RenLe a c := fun x l hx => k x l (h x l hx)

mutual
theorem VR.mono {ρ ρ' : Ren} (hρ : RenLe ρ ρ') : ∀ {v v' : Value}, VR ρ v v' → VR ρ' v v'
  | _, _, .bool b => .bool b
  | _, _, .int k n => .int k n
  | _, _, .float k n => .float k n
  | _, _, .complex k a b => .complex k a b
  | _, _, .string s => .string s
  | _, _, .ptrNil => .ptrNil
  | _, _, .ptr h => .ptr (hρ _ _ h)
  | _, _, .sliceNil n c => .sliceNil n c
  | _, _, .slice h ho hn => .slice (hρ _ _ h) ho hn
  | _, _, .sliceG h ho hn ht => .sliceG (hρ _ _ h) ho hn ht
  | _, _, .mapNil => .mapNil
  | _, _, .map h => .map (hρ _ _ h)
  | _, _, .yld h => .yld (hρ _ _ h)
  | _, _, .chanNil => .chanNil
  | _, _, .func hf ha hc => .func hf (VRs.mono hρ ha) (VRs.mono hρ hc)
  | _, _, .nilFunc => .nilFunc
  | _, _, .iface h => .iface (VR.mono hρ h)
  | _, _, .nilIface => .nilIface
  | _, _, .agg h => .agg (VRs.mono hρ h)
  | _, _, .tuple h => .tuple (VRs.mono hρ h)
theorem VRs.mono {ρ ρ' : Ren} (hρ : RenLe ρ ρ') : ∀ {l l' : List Value}, VRs ρ l l' → VRs ρ' l l'
  | _, _, .nil => .nil
  | _, _, .cons h t => .cons (VR.mono hρ h) (VRs.mono hρ t)
end

theorem VRs.length {ρ : Ren} : ∀ {l l' : List Value}, VRs ρ l l' → l.length = l'.length
  | _, _, .nil => rfl
  | _, _, .cons _ t => by simp [VRs.length t]

theorem VRs.append {ρ : Ren} : ∀ {a a' : List Value}, VRs ρ a a' → ∀ {b b' : List Value}, VRs ρ b b' → VRs ρ (a ++ b) (a' ++ b')
  | _, _, .nil, _, _, h => h
  | _, _, .cons h t, _, _, k => .cons h (VRs.append t k)

theorem VRs.get {ρ : Ren} : ∀ {l l' : List Value}, VRs ρ l l' → ∀ {k : Nat} {v : Value}, l[k]? = some v → ∃ v', l'[k]? = some v' ∧ VR ρ v v'
  | _, _, .nil, k, v, h => by simp at h
  | _, _, .cons (v' := v') h t, 0, v, e => by simp at e; subst e; exact ⟨v', by simp, h⟩
  | _, _, .cons h t, k + 1, v, e => by
    simp only [List.getElem?_cons_succ] at e
    obtain ⟨w, hw, hr⟩ := VRs.get t e
    exact ⟨w, by simpa using hw, hr⟩

theorem VRs.of_get {ρ : Ren} : ∀ {l l' : List Value}, l.length = l'.length → (∀ (k : Nat) (v v' : Value), l[k]? = some v → l'[k]? = some v' → VR ρ v v') → VRs ρ l l'
  | [], [], _, _ => .nil
  | [], _ :: _, h, _ => by simp at h
  | _ :: _, [], h, _ => by simp at h
  | v :: l, v' :: l', h, k => .cons (k 0 v v' (by simp) (by simp)) (VRs.of_get (by simpa using h) fun i a b ha hb => k (i + 1) a b (by simpa using ha) (by simpa using hb))

theorem VRs.take {ρ : Ren} : ∀ {l l' : List Value}, VRs ρ l l' → ∀ n, VRs ρ (l.take n) (l'.take n)
  | _, _, .nil, n => by simp; exact .nil
  | _, _, .cons h t, 0 => by simp; exact .nil
  | _, _, .cons h t, n + 1 => by simp; exact .cons h (VRs.take t n)

theorem VRs.drop {ρ : Ren} : ∀ {l l' : List Value}, VRs ρ l l' → ∀ n, VRs ρ (l.drop n) (l'.drop n)
  | _, _, .nil, n => by simp; exact .nil
  | _, _, .cons h t, 0 => by simp; exact .cons h t
  | _, _, .cons h t, n + 1 => by simp; exact VRs.drop t n

/- values without addresses -/
theorem all_ground {ρ : Ren} {n : Nat} (ih : ∀ v, groundF n v = true → (∀ v', VR ρ v v' → v' = v) ∧ VR ρ v v) :
    ∀ l : List Value, l.all (groundF n) = true → (∀ l', VRs ρ l l' → l' = l) ∧ VRs ρ l l
  | [], _ => ⟨fun l' h => by cases h; rfl, .nil⟩
  | v :: l, h => by
    simp only [List.all_cons, Bool.and_eq_true] at h
    obtain ⟨h1, h2⟩ := ih v h.1
    obtain ⟨h3, h4⟩ := all_ground ih l h.2
    exact ⟨fun l' hl => by cases hl with | cons a t => rw [h1 _ a, h3 _ t], .cons h2 h4⟩

theorem arr_eq {α : Type} {a b : Array α} (h : a.toList = b.toList) : a = b := Array.toList_inj.1 h

theorem groundF_spec {ρ : Ren} : ∀ (n : Nat) (v : Value), groundF n v = true → (∀ v', VR ρ v v' → v' = v) ∧ VR ρ v v := by
  intro n
  induction n with
  | zero => intro v h; simp [groundF] at h
  | succ n ih =>
    intro v h
    cases v with
    | bool b => exact ⟨fun v' h => by cases h; rfl, .bool b⟩
    | int k m => exact ⟨fun v' h => by cases h; rfl, .int k m⟩
    | float k m => exact ⟨fun v' h => by cases h; rfl, .float k m⟩
    | complex k a b => exact ⟨fun v' h => by cases h; rfl, .complex k a b⟩
    | string s => exact ⟨fun v' h => by cases h; rfl, .string s⟩
    | nilFunc => exact ⟨fun v' h => by cases h; rfl, .nilFunc⟩
    | nilIface => exact ⟨fun v' h => by cases h; rfl, .nilIface⟩
    | pointer a => cases a with
      | none => exact ⟨fun v' h => by cases h; rfl, .ptrNil⟩
      | some a => simp [groundF] at h
    | slice a m c => cases a with
      | none => exact ⟨fun v' h => by cases h; rfl, .sliceNil m c⟩
      | some a => simp [groundF] at h
    | map r => cases r with
      | none => exact ⟨fun v' h => by cases h; rfl, .mapNil⟩
      | some a => simp [groundF] at h
    | chan r => cases r with
      | none => exact ⟨fun v' h => by cases h; rfl, .chanNil⟩
      | some a => simp [groundF] at h
    | iface t v =>
      obtain ⟨h1, h2⟩ := ih v (by simpa [groundF] using h)
      exact ⟨fun v' h => by cases h with | iface a => rw [h1 _ a], .iface h2⟩
    | agg cs =>
      obtain ⟨h1, h2⟩ := all_ground ih cs.toList (by simpa [groundF] using h)
      exact ⟨fun v' h => by cases h with | agg a => rw [arr_eq (h1 _ a)], .agg h2⟩
    | tuple cs =>
      obtain ⟨h1, h2⟩ := all_ground ih cs.toList (by simpa [groundF] using h)
      exact ⟨fun v' h => by cases h with | tuple a => rw [arr_eq (h1 _ a)], .tuple h2⟩
    | func fn a c =>
      unfold groundF at h
      simp only [Bool.and_eq_true] at h
      obtain ⟨⟨hf, ha⟩, hc⟩ := h
      obtain ⟨h1, h2⟩ := all_ground ih a.toList ha
      obtain ⟨h3, h4⟩ := all_ground ih c.toList hc
      have hy : ∀ l, fn ≠ .yield l := fun l e => by rw [e] at hf; cases hf
      exact ⟨fun v' h => by cases h with | func _ x y => rw [arr_eq (h1 _ x), arr_eq (h3 _ y)] | yld _ => exact absurd rfl (hy _), .func hy h2 h4⟩

theorem ground_eq {ρ : Ren} {v v' : Value} (h : ground v = true) (r : VR ρ v v') : v' = v := (groundF_spec 8 v h).1 v' r
theorem ground_self {ρ : Ren} {v : Value} (h : ground v = true) : VR ρ v v := (groundF_spec 8 v h).2

/- objects -/
inductive EsR (ρ : Ren) : List MapEntry → List MapEntry → Prop
  | nil : EsR ρ [] []
  | cons {e e' : MapEntry} {l l' : List MapEntry} (hk : VR ρ e.key e'.key) (hv : VR ρ e.val e'.val) (hb : e.born = e'.born) (t : EsR ρ l l') : EsR ρ (e :: l) (e' :: l')

def ObjR (ρ : Ren) (l : Loc) : AObj → Obj → Prop
  | .cells c n _, o => ∃ (C : Array Value) (e' : TypeId) (fz : Nat × Nat), o = .cells C e' fz ∧ C.size = l.tot ∧ l.sh + n ≤ l.tot ∧
      (∀ k, k < l.tot → ¬ (fz.1 ≤ k ∧ k < fz.2)) ∧ ∀ k v, c.get k = some v → k < n ∧ ∃ v', C[l.sh + k]? = some v' ∧ VR ρ v v'
  | .map es ck, o => ∃ es' : Array MapEntry, o = .map es' ck ∧ EsR ρ es es'.toList
  | .loop r, o => ∃ r' : Loop, o = .loop r' ∧ r'.state = r.state ∧ r'.pending = r.pending ∧ r'.fn = r.fn ∧ r'.params.toList = r.params ∧ r'.assign = r.assign ∧ r'.body = r.body ∧
      r.nt ≤ r'.tmps.size ∧ (∀ t, VR ρ (envT (r.tmps.get t)) (r'.tmps.getD t undef)) ∧ ∃ l, ρ r.defers = some l ∧ r'.defers = l.blk
  | .marks t, o => o = .deferred (if t then none else some [])

theorem EsR.mono {ρ ρ' : Ren} (hρ : RenLe ρ ρ') : ∀ {l l' : List MapEntry}, EsR ρ l l' → EsR ρ' l l'
  | _, _, .nil => .nil
  | _, _, .cons hk hv hb t => .cons (hk.mono hρ) (hv.mono hρ) hb (EsR.mono hρ t)

theorem ObjR.mono {ρ ρ' : Ren} (hρ : RenLe ρ ρ') {l : Loc} {a : AObj} {o : Obj} (h : ObjR ρ l a o) : ObjR ρ' l a o := by
  cases a with
  | cells c n e =>
    obtain ⟨C, e', fz, h1, h2, h3, h4, h5⟩ := h
    exact ⟨C, e', fz, h1, h2, h3, h4, fun k v hk => let ⟨a, v', b, r⟩ := h5 k v hk; ⟨a, v', b, r.mono hρ⟩⟩
  | map es ck => obtain ⟨es', h1, h2⟩ := h; exact ⟨es', h1, h2.mono hρ⟩
  | loop r =>
    obtain ⟨r', h1, h2, h3, h4, h5, h6, h7, h8, h8b, l, h9, h10⟩ := h
    exact ⟨r', h1, h2, h3, h4, h5, h6, h7, h8, fun t => (h8b t).mono hρ, l, hρ _ _ h9, h10⟩
  | marks t => exact h

/-- an abstract heap, as a function -/
abbrev Hp := Nat → Option AObj

/-- where a run begins: its blocks are from here on; and what holds of every world between, for it rests on what lies below -/
structure Base where
  n : Nat
  inv : World → Prop
  keep : ∀ w w', inv w → Below n w w' → inv w'

instance : Coe Base Nat := ⟨Base.n⟩

structure Sim (B0 : Base) (ρ : Ren) (G : Hp) (w : World) : Prop where
  obj : ∀ b o, G b = some o → ∃ l, ρ b = some l ∧ ∃ x, w.heap[l.blk]? = some x ∧ ObjR ρ l o x
  inj : ∀ b b' l l', G b ≠ none → G b' ≠ none → ρ b = some l → ρ b' = some l' → l.blk = l'.blk → b = b'
  own : ∀ b l, ρ b = some l → B0 ≤ l.blk ∧ l.blk < w.heap.size
  base : B0 ≤ w.heap.size
  inv : B0.inv w

/-- what is seen of a state lies in a heap -/
def Sub (H : Hid) (s : St) (G : Hp) : Prop := ∀ x o, St.vis H s x = some o → G x = some o

/-- a heap behind a run from s to s' -/
noncomputable def upd (G : Hp) (H : Hid) (s s' : St) : Hp := fun x =>
  if s.next ≤ x ∧ x < s'.next then s'.heap.get x else if St.vis H s x = none then G x else s'.heap.get x

/-- what a run from s to s' leaves alone, and tells -/
structure Fr (H : Hid) (s s' : St) : Prop where
  next : s.next ≤ s'.next
  out : ∀ x, St.vis H s x = none → ¬ (s.next ≤ x ∧ x < s'.next) → s'.heap.get x = s.heap.get x
  log : ∀ x, x < s.next → s'.heap.get x ≠ s.heap.get x → x ∈ s'.log
  sub : ∀ x, x ∈ s.log → x ∈ s'.log
  dom : (∀ x, s.next ≤ x → s.heap.get x = none) → ∀ x, s'.next ≤ x → s'.heap.get x = none

theorem Fr.refl (H : Hid) (s : St) : Fr H s s := ⟨Nat.le_refl _, fun _ _ _ => rfl, fun _ _ h => absurd rfl h, fun _ h => h, fun h => h⟩

theorem vis_none_iff {H : Hid} {s : St} {x : Nat} : St.vis H s x = none ↔ hidden H x = true ∨ s.heap.get x = none := by
  rw [vis_eq]; by_cases h : hidden H x = true <;> simp [h]

theorem vis_some_iff {H : Hid} {s : St} {x : Nat} {o : AObj} : St.vis H s x = some o ↔ hidden H x = false ∧ s.heap.get x = some o := by
  rw [vis_eq]; by_cases h : hidden H x = true <;> simp [h]

theorem Fr.vis_none {H : Hid} {s s' : St} (f : Fr H s s') {x : Nat} (h : St.vis H s x = none) (hx : ¬ (s.next ≤ x ∧ x < s'.next)) : St.vis H s' x = none := by
  have := f.out x h hx
  rw [vis_eq] at h ⊢
  by_cases e : hidden H x = true
  · simp [e]
  · simp only [e] at h ⊢; rw [this]; exact h

theorem Fr.trans {H : Hid} {s s1 s2 : St} (f : Fr H s s1) (g : Fr H s1 s2) : Fr H s s2 := {
  next := Nat.le_trans f.next g.next
  out x h hx := by
    have h1 : ¬ (s.next ≤ x ∧ x < s1.next) := fun e => hx ⟨e.1, Nat.lt_of_lt_of_le e.2 g.next⟩
    have h2 : ¬ (s1.next ≤ x ∧ x < s2.next) := fun e => hx ⟨Nat.le_trans f.next e.1, e.2⟩
    rw [g.out x (f.vis_none h h1) h2, f.out x h h1]
  log x hx h := by
    by_cases e : s1.heap.get x = s.heap.get x
    · exact g.log x (Nat.lt_of_lt_of_le hx f.next) (by rw [e]; exact h)
    · exact g.sub x (f.log x hx e)
  sub x h := g.sub x (f.sub x h)
  dom h := g.dom (f.dom h) }

theorem upd_refl (G : Hp) (H : Hid) (s : St) (h : Sub H s G) : upd G H s s = G := by
  funext x
  unfold upd
  rw [if_neg (by omega)]
  split
  · rfl
  · rename_i hv
    cases hh : St.vis H s x with
    | none => exact absurd hh hv
    | some o => rw [h x o hh]; exact (vis_some_iff.1 hh).2

theorem upd_upd (G : Hp) {H : Hid} {s s1 s2 : St} (f : Fr H s s1) (g : Fr H s1 s2) : upd (upd G H s s1) H s1 s2 = upd G H s s2 := by
  funext x
  have n1 := f.next
  have n2 := g.next
  unfold upd
  by_cases a : s.next ≤ x ∧ x < s1.next
  · rw [if_neg (show ¬ (s1.next ≤ x ∧ x < s2.next) by omega), if_pos a, if_pos (show s.next ≤ x ∧ x < s2.next by omega)]
    by_cases hv : St.vis H s1 x = none
    · rw [if_pos hv, g.out x hv (by omega)]
    · rw [if_neg hv]
  · by_cases b : s1.next ≤ x ∧ x < s2.next
    · rw [if_pos b, if_pos (show s.next ≤ x ∧ x < s2.next by omega)]
    · rw [if_neg b, if_neg (show ¬ (s.next ≤ x ∧ x < s2.next) by omega), if_neg a]
      by_cases hv : St.vis H s x = none
      · simp only [hv, f.vis_none hv a, if_true]
      · simp only [hv, if_false]
        by_cases hv1 : St.vis H s1 x = none
        · rw [if_pos hv1, g.out x hv1 b]
        · rw [if_neg hv1]

theorem sub_upd {G : Hp} {H : Hid} {s s' : St} (f : Fr H s s') : Sub H s' (upd G H s s') := by
  intro x o hx
  obtain ⟨h1, h2⟩ := vis_some_iff.1 hx
  unfold upd
  by_cases a : s.next ≤ x ∧ x < s'.next
  · rw [if_pos a]; exact h2
  · rw [if_neg a]
    by_cases hv : St.vis H s x = none
    · rw [f.vis_none hv a] at hx; cases hx
    · rw [if_neg hv]; exact h2

/-- what is asked ahead of a run from s to s' -/
structure Pre (B0 : Base) (H : Hid) (s s' : St) (ρ : Ren) (G : Hp) (w : World) : Prop where
  sub : Sub H s G
  wf : ∀ x, s.next ≤ x → s.heap.get x = none
  fresh : ∀ x, s.next ≤ x → x < s'.next → ρ x = none
  sim : Sim B0 ρ G w

/-- what is known behind it -/
structure Post (B0 : Base) (H : Hid) (s s' : St) (ρ ρ' : Ren) (G : Hp) (w w' : World) : Prop where
  ext : RenLe ρ ρ'
  new : ∀ x, ρ x = none → ρ' x ≠ none → s.next ≤ x ∧ x < s'.next
  sim : Sim B0 ρ' (upd G H s s') w'
  below : Below B0 w w'
  fr : Fr H s s'

theorem Post.refl {B0 : Base} {H : Hid} {s : St} {ρ : Ren} {G : Hp} {w : World} (h : Sub H s G) (hs : Sim B0 ρ G w) : Post B0 H s s ρ ρ G w w :=
  ⟨.refl _, fun x a b => absurd a b, by rw [upd_refl G H s h]; exact hs, .refl _ _, .refl _ _⟩

theorem Post.trans {B0 : Base} {H : Hid} {s s1 s2 : St} {ρ ρ1 ρ2 : Ren} {G : Hp} {w w1 w2 : World} (a : Post B0 H s s1 ρ ρ1 G w w1) (b : Post B0 H s1 s2 ρ1 ρ2 (upd G H s s1) w1 w2) :
    Post B0 H s s2 ρ ρ2 G w w2 := {
  ext := a.ext.trans b.ext
  new x h h2 := by
    have n1 := a.fr.next
    have n2 := b.fr.next
    cases h1 : ρ1 x with
    | none => have := b.new x h1 h2; omega
    | some l => have := a.new x h (by rw [h1]; simp); omega
  sim := by rw [← upd_upd G a.fr b.fr]; exact b.sim
  below := a.below.trans b.below
  fr := a.fr.trans b.fr }

theorem Pre.first {B0 : Base} {H : Hid} {s s1 s2 : St} {ρ : Ren} {G : Hp} {w : World} (p : Pre B0 H s s2 ρ G w) (h : s1.next ≤ s2.next) : Pre B0 H s s1 ρ G w :=
  ⟨p.sub, p.wf, fun x a b => p.fresh x a (Nat.lt_of_lt_of_le b h), p.sim⟩

theorem Pre.next {B0 : Base} {H : Hid} {s s1 s2 : St} {ρ ρ1 : Ren} {G : Hp} {w w1 : World} (p : Pre B0 H s s2 ρ G w) (a : Post B0 H s s1 ρ ρ1 G w w1) : Pre B0 H s1 s2 ρ1 (upd G H s s1) w1 := {
  sub := sub_upd a.fr
  wf := a.fr.dom p.wf
  fresh x h1 h2 := by
    have n1 := a.fr.next
    cases h : ρ1 x with
    | none => rfl
    | some l => have := a.new x (p.fresh x (by omega) h2) (by rw [h]; simp); omega
  sim := a.sim }

/- the three ways in which an operation turns a heap -/
theorem Fr.new (H : Hid) (s : St) (o : AObj) : Fr H s (newObj s o) := {
  next := Nat.le_succ _
  out x _ hx := by
    show (s.heap.set s.next (some o)).get x = _
    have : ¬ x = s.next := fun e => hx ⟨by omega, by show x < s.next + 1; omega⟩
    rw [Tr.get_set, if_neg this]
  log x hx h := by
    refine absurd ?_ h
    show (s.heap.set s.next (some o)).get x = _
    rw [Tr.get_set, if_neg (by omega)]
  sub x h := h
  dom h x hx := by
    have hx : s.next + 1 ≤ x := hx
    show (s.heap.set s.next (some o)).get x = _
    rw [Tr.get_set, if_neg (by omega)]
    exact h x (by omega) }

theorem Fr.set {H : Hid} {s : St} {b : Nat} {o : AObj} (hb : St.vis H s b = some o) (o' : Option AObj) : Fr H s (setObj s b o') := {
  next := Nat.le_refl _
  out x hx _ := by
    show (s.heap.set b o').get x = _
    have : ¬ x = b := fun e => by rw [e, hb] at hx; cases hx
    rw [Tr.get_set, if_neg this]
  log x hx h := by
    by_cases e : x = b
    · subst e; exact List.mem_cons_self ..
    · refine absurd ?_ h
      show (s.heap.set b o').get x = _
      rw [Tr.get_set, if_neg e]
  sub x h := List.mem_cons_of_mem _ h
  dom h x hx := by
    have hx : s.next ≤ x := hx
    show (s.heap.set b o').get x = _
    have : ¬ x = b := fun e => by have h1 := (vis_some_iff.1 hb).2; rw [← e, h x hx] at h1; cases h1
    rw [Tr.get_set, if_neg this]
    exact h x hx }

theorem upd_new (G : Hp) (H : Hid) (s : St) (o : AObj) (h : Sub H s G) : upd G H s (newObj s o) = fun x => if x = s.next then some o else G x := by
  funext x
  unfold upd
  have hn : (newObj s o).next = s.next + 1 := rfl
  have hg : ∀ y, (newObj s o).heap.get y = if y = s.next then some o else s.heap.get y := fun y => Tr.get_set _ _ _ _
  rw [hn, hg]
  by_cases e : x = s.next
  · rw [if_pos (by omega), if_pos e, if_pos e]
  · rw [if_neg (by omega), if_neg e, if_neg e]
    split
    · rfl
    · rename_i hv
      cases hh : St.vis H s x with
      | none => exact absurd hh hv
      | some o' => rw [h x o' hh]; exact (vis_some_iff.1 hh).2

theorem upd_set (G : Hp) {H : Hid} {s : St} {b : Nat} {o : AObj} (hb : St.vis H s b = some o) (o' : Option AObj) (h : Sub H s G) :
    upd G H s (setObj s b o') = fun x => if x = b then o' else G x := by
  funext x
  unfold upd
  have hn : (setObj s b o').next = s.next := rfl
  have hg : ∀ y, (setObj s b o').heap.get y = if y = b then o' else s.heap.get y := fun y => Tr.get_set _ _ _ _
  rw [hn, hg, if_neg (by omega)]
  by_cases e : x = b
  · subst e; rw [hb]; simp
  · rw [if_neg e, if_neg e]
    split
    · rfl
    · rename_i hv
      cases hh : St.vis H s x with
      | none => exact absurd hh hv
      | some o' => rw [h x o' hh]; exact (vis_some_iff.1 hh).2

noncomputable def Ren.put (ρ : Ren) (b : Nat) (l : Loc) : Ren := fun x => if x = b then some l else ρ x

theorem Ren.le_put {ρ : Ren} {b : Nat} {l : Loc} (h : ρ b = none) : RenLe ρ (ρ.put b l) := by
  intro x k hx
  unfold Ren.put
  by_cases e : x = b
  · subst e; rw [h] at hx; cases hx
  · rw [if_neg e]; exact hx

theorem Ren.put_same {ρ : Ren} {b : Nat} {l : Loc} : (ρ.put b l) b = some l := by simp [Ren.put]

theorem Ren.put_new {ρ : Ren} {b x : Nat} {l : Loc} (h : ρ x = none) (h2 : (ρ.put b l) x ≠ none) : x = b := by
  by_cases e : x = b
  · exact e
  · exfalso; apply h2; simp [Ren.put, e, h]

/-- a world that is as it was, but for one block -/
structure One (k : Nat) (w w' : World) : Prop where
  os : w'.os = w.os
  tape : w'.tape = w.tape
  output : w'.output = w.output
  size : w'.heap.size = w.heap.size
  other : ∀ j, j ≠ k → w'.heap[j]? = w.heap[j]?

theorem One.below {k : Nat} {B0 : Base} {w w' : World} (h : One k w w') (hB : B0 ≤ k) : Below B0 w w' :=
  ⟨h.os, h.tape, h.output, by rw [h.size]; exact Nat.le_refl _, fun j hj => h.other j (by omega)⟩

theorem Sim.loc {B0 : Base} {ρ : Ren} {G : Hp} {w : World} (h : Sim B0 ρ G w) {b : Nat} {o : AObj} {l : Loc} (hb : G b = some o) (hl : ρ b = some l) :
    ∃ x, w.heap[l.blk]? = some x ∧ ObjR ρ l o x := by
  obtain ⟨l', h1, x, h2, h3⟩ := h.obj b o hb
  rw [hl] at h1; cases h1
  exact ⟨x, h2, h3⟩

theorem Post.new' {B0 : Base} {H : Hid} {s : St} {ρ : Ren} {G : Hp} {w : World} {o : AObj} {obj : Obj} (tot : Nat) (p : Pre B0 H s (newObj s o) ρ G w)
    (ho : ObjR (ρ.put s.next ⟨w.heap.size, 0, tot⟩) ⟨w.heap.size, 0, tot⟩ o obj) :
    Post B0 H s (newObj s o) ρ (ρ.put s.next ⟨w.heap.size, 0, tot⟩) G w { w with heap := w.heap.push obj } := by
  have hn : ρ s.next = none := p.fresh s.next (Nat.le_refl _) (Nat.lt_succ_self _)
  have hle := Ren.le_put (l := ⟨w.heap.size, 0, tot⟩) hn
  have hold : ∀ k, k < w.heap.size → (w.heap.push obj)[k]? = w.heap[k]? := fun k hk => by rw [Array.getElem?_push, if_neg (by omega)]
  have hbel : Below B0 w { w with heap := w.heap.push obj } := ⟨rfl, rfl, rfl, by simp, fun k hk => hold k (Nat.lt_of_lt_of_le hk p.sim.base)⟩
  refine ⟨hle, fun x a b => ?_, ⟨?_, ?_, ?_, ?_, B0.keep _ _ p.sim.inv hbel⟩, hbel, Fr.new H s o⟩
  · have := Ren.put_new a b; subst this; exact ⟨Nat.le_refl _, Nat.lt_succ_self _⟩
  · intro b o' hb
    rw [upd_new G H s o p.sub] at hb
    by_cases e : b = s.next
    · subst e
      simp only [if_true] at hb
      cases hb
      exact ⟨_, Ren.put_same, obj, by simp, ho⟩
    · simp only [e, if_false] at hb
      obtain ⟨l, h1, x, h2, h3⟩ := p.sim.obj b o' hb
      exact ⟨l, hle _ _ h1, x, by rw [hold _ (p.sim.own b l h1).2]; exact h2, h3.mono hle⟩
  · intro b b' l l' hb hb' hl hl' e
    rw [upd_new G H s o p.sub] at hb hb'
    by_cases e1 : b = s.next
    · by_cases e2 : b' = s.next
      · rw [e1, e2]
      · exfalso
        subst e1
        rw [Ren.put_same] at hl; cases hl
        have : ρ b' = some l' := by simpa [Ren.put, e2] using hl'
        have := (p.sim.own b' l' this).2
        simp only at e; omega
    · by_cases e2 : b' = s.next
      · exfalso
        subst e2
        rw [Ren.put_same] at hl'; cases hl'
        have : ρ b = some l := by simpa [Ren.put, e1] using hl
        have := (p.sim.own b l this).2
        simp only at e; omega
      · simp only [e1, e2, if_false] at hb hb'
        exact p.sim.inj b b' l l' hb hb' (by simpa [Ren.put, e1] using hl) (by simpa [Ren.put, e2] using hl') e
  · intro b l hl
    by_cases e1 : b = s.next
    · subst e1; rw [Ren.put_same] at hl; cases hl; exact ⟨p.sim.base, by simp⟩
    · have := p.sim.own b l (by simpa [Ren.put, e1] using hl); exact ⟨this.1, by simp; omega⟩
  · have := p.sim.base; simp; omega

theorem Post.set' {B0 : Base} {H : Hid} {s : St} {ρ : Ren} {G : Hp} {w w' : World} {b : Nat} {l : Loc} {o o' : AObj} {x : Obj}
    (p : Pre B0 H s (setObj s b (some o')) ρ G w) (hb : St.vis H s b = some o) (hl : ρ b = some l)
    (hw : One l.blk w w') (hx : w'.heap[l.blk]? = some x) (ho : ObjR ρ l o' x) : Post B0 H s (setObj s b (some o')) ρ ρ G w w' := by
  have hu := upd_set G hb (some o') p.sub
  have hG := p.sub b o hb
  refine ⟨.refl _, fun x a c => absurd a c, ⟨?_, ?_, ?_, ?_, B0.keep _ _ p.sim.inv (hw.below (p.sim.own b l hl).1)⟩, hw.below (p.sim.own b l hl).1, Fr.set hb _⟩
  · intro c oc hc
    rw [hu] at hc
    by_cases e : c = b
    · subst e; simp only [if_true] at hc; cases hc; exact ⟨l, hl, x, hx, ho⟩
    · simp only [e, if_false] at hc
      obtain ⟨lc, h1, y, h2, h3⟩ := p.sim.obj c oc hc
      refine ⟨lc, h1, y, ?_, h3⟩
      rw [hw.other _ (fun k => e (p.sim.inj c b lc l (by rw [hc]; simp) (by rw [hG]; simp) h1 hl k))]
      exact h2
  · intro c c' lc lc' hc hc' h1 h2 e
    rw [hu] at hc hc'
    refine p.sim.inj c c' lc lc' ?_ ?_ h1 h2 e
    · by_cases k : c = b
      · subst k; rw [hG]; simp
      · simpa only [k, if_false] using hc
    · by_cases k : c' = b
      · subst k; rw [hG]; simp
      · simpa only [k, if_false] using hc'
  · intro c lc h; rw [hw.size]; exact p.sim.own c lc h
  · rw [hw.size]; exact p.sim.base

/-- an append to a slice of unknown capacity: the old block is dead; where it was in place, the new one lies where it lay -/
theorem Post.move {B0 : Base} {H : Hid} {s : St} {ρ : Ren} {G : Hp} {w w' : World} {b : Nat} {l l' : Loc} {o o' : AObj} {x : Obj}
    (p : Pre B0 H s (newObj (setObj s b none) o') ρ G w) (hb : St.vis H s b = some o) (hl : ρ b = some l) (hl' : l'.blk = l.blk)
    (hw : One l.blk w w') (hx : w'.heap[l.blk]? = some x) (ho : ObjR (ρ.put s.next l') l' o' x) :
    Post B0 H s (newObj (setObj s b none) o') ρ (ρ.put s.next l') G w w' := by
  have hn : ρ s.next = none := p.fresh s.next (Nat.le_refl _) (Nat.lt_succ_self _)
  have hle := Ren.le_put (l := l') hn
  have f1 : Fr H s (setObj s b none) := Fr.set hb none
  have hu : upd G H s (newObj (setObj s b none) o') = fun x => if x = s.next then some o' else if x = b then none else G x := by
    rw [← upd_upd G f1 (Fr.new H (setObj s b none) o'), upd_new _ H (setObj s b none) o' (sub_upd f1), upd_set G hb none p.sub]
    rfl
  have hG := p.sub b o hb
  refine ⟨hle, fun x a c => ?_, ⟨?_, ?_, ?_, ?_, B0.keep _ _ p.sim.inv (hw.below (p.sim.own b l hl).1)⟩, hw.below (p.sim.own b l hl).1, f1.trans (Fr.new H _ o')⟩
  · have := Ren.put_new a c; subst this; exact ⟨Nat.le_refl _, Nat.lt_succ_self _⟩
  · intro c oc hc
    rw [hu] at hc
    by_cases e : c = s.next
    · subst e; simp only [if_true] at hc; cases hc; exact ⟨l', Ren.put_same, x, by rw [hl']; exact hx, ho⟩
    · simp only [e, if_false] at hc
      by_cases e2 : c = b
      · simp only [e2, if_true] at hc; cases hc
      · simp only [e2, if_false] at hc
        obtain ⟨lc, h1, y, h2, h3⟩ := p.sim.obj c oc hc
        refine ⟨lc, hle _ _ h1, y, ?_, h3.mono hle⟩
        rw [hw.other _ (fun k => e2 (p.sim.inj c b lc l (by rw [hc]; simp) (by rw [hG]; simp) h1 hl k))]
        exact h2
  · intro c c' lc lc' hc hc' h1 h2 e
    rw [hu] at hc hc'
    have key : ∀ d ld, (if d = s.next then some o' else if d = b then none else G d) ≠ none → (ρ.put s.next l') d = some ld → d ≠ s.next → ρ d = some ld ∧ G d ≠ none ∧ ld.blk ≠ l.blk := by
      intro d ld hd hld hne
      simp only [hne, if_false] at hd
      have hρ : ρ d = some ld := by simpa [Ren.put, hne] using hld
      by_cases e2 : d = b
      · simp only [e2, if_true] at hd; exact absurd rfl hd
      · simp only [e2, if_false] at hd
        exact ⟨hρ, hd, fun k => e2 (p.sim.inj d b ld l hd (by rw [hG]; simp) hρ hl k)⟩
    by_cases e1 : c = s.next
    · by_cases e2 : c' = s.next
      · rw [e1, e2]
      · exfalso
        have := (key c' lc' hc' h2 e2).2.2
        subst e1; rw [Ren.put_same] at h1; cases h1
        rw [hl'] at e; exact this e.symm
    · by_cases e2 : c' = s.next
      · exfalso
        have := (key c lc hc h1 e1).2.2
        subst e2; rw [Ren.put_same] at h2; cases h2
        rw [hl'] at e; exact this e
      · obtain ⟨a1, a2, _⟩ := key c lc hc h1 e1
        obtain ⟨b1, b2, _⟩ := key c' lc' hc' h2 e2
        exact p.sim.inj c c' lc lc' a2 b2 a1 b1 e
  · intro c lc h
    rw [hw.size]
    by_cases e1 : c = s.next
    · subst e1; rw [Ren.put_same] at h; cases h; rw [hl']; exact p.sim.own b l hl
    · exact p.sim.own c lc (by simpa [Ren.put, e1] using h)
  · rw [hw.size]; exact p.sim.base

/-- a draw turns nothing -/
theorem Sim.drawn {B0 : Base} {ρ : Ren} {G : Hp} {w : World} (h : Sim B0 ρ G w) (n : Nat) : Sim B0 ρ G { w with drawn := n } :=
  ⟨h.obj, h.inj, h.own, h.base, B0.keep _ _ h.inv ⟨rfl, rfl, rfl, Nat.le_refl _, fun _ _ => rfl⟩⟩

/-- a block is dropped -/
theorem Post.kill {B0 : Base} {H : Hid} {s : St} {ρ : Ren} {G : Hp} {w : World} {b : Nat} {o : AObj}
    (p : Sub H s G) (hs : Sim B0 ρ G w) (hb : St.vis H s b = some o) : Post B0 H s (setObj s b none) ρ ρ G w w := by
  have hu := upd_set G hb none p
  refine ⟨.refl _, fun x a c => absurd a c, ⟨?_, ?_, hs.own, hs.base, hs.inv⟩, .refl _ _, Fr.set hb _⟩
  · intro c oc hc
    rw [hu] at hc
    by_cases e : c = b
    · simp only [e, if_true] at hc; cases hc
    · simp only [e, if_false] at hc; exact hs.obj c oc hc
  · intro c c' lc lc' hc hc' h1 h2 e
    rw [hu] at hc hc'
    refine hs.inj c c' lc lc' ?_ ?_ h1 h2 e
    · by_cases k : c = b
      · simp only [k, if_true] at hc; exact absurd rfl hc
      · simpa only [k, if_false] using hc
    · by_cases k : c' = b
      · simp only [k, if_true] at hc'; exact absurd rfl hc'
      · simpa only [k, if_false] using hc'

end Go.Ev

set_option linter.unusedVariables false
set_option linter.unusedSimpArgs false
namespace Go.Ev
open Go.RowKit

theorem tiOf_spec {P : Program} {t : TypeId} {ti : TI} (h : tiOf P t = some ti) :
    ∃ i, P.info? t = some i ∧ P.underlying t = some ti.und ∧ ti.size = i.size ∧ ti.agg = (match ti.und with | .struct _ | .array _ _ => true | _ => false) ∧ ti.zero = i.zero := by
  unfold tiOf at h
  cases hi : P.info? t with
  | none => simp [hi] at h
  | some i =>
    cases hu : P.underlying t with
    | none => simp [hi, hu] at h
    | some d =>
      simp only [hi, hu, Option.some.injEq] at h
      subst h
      exact ⟨i, rfl, rfl, rfl, rfl, rfl⟩

variable {P : Program} {w : World}

theorem run_typeInfo {t : TypeId} {i : TypeInfo} (h : P.info? t = some i) : (typeInfo t).run P w = .ok i w := by
  simp [typeInfo, h]
theorem run_underlying {t : TypeId} {d : TypeDesc} (h : P.underlying t = some d) : (underlying t).run P w = .ok d w := by
  simp [underlying, h]
theorem run_sizeOf {t : TypeId} {ti : TI} (h : tiOf P t = some ti) : (sizeOf t).run P w = .ok ti.size w := by
  obtain ⟨i, hi, _, hs, _⟩ := tiOf_spec h
  simp [sizeOf, run_typeInfo hi, hs]
theorem run_isAgg {t : TypeId} {ti : TI} (h : tiOf P t = some ti) : (isAgg t).run P w = .ok ti.agg w := by
  obtain ⟨i, _, hu, _, ha, _⟩ := tiOf_spec h
  rw [ha]
  simp only [isAgg, Sem.run_bind, run_underlying hu, Result.andThen_ok]
  cases ti.und <;> rfl
theorem run_zeroValue {t : TypeId} {ti : TI} {z : Value} (h : tiOf P t = some ti) (hz : ti.zero = some z) : (zeroValue t).run P w = .ok z w := by
  obtain ⟨i, hi, _, _, _, h2⟩ := tiOf_spec h
  have : i.zero = some z := by rw [← h2]; exact hz
  simp [zeroValue, run_typeInfo hi, this]

theorem run_load {a : Addr} {v : Value} (h : w.cell? a = some v) : (load a).run P w = .ok v w := by
  show (Sem.load .plain a .pure).run P w = _
  simp [Sem.run, h]

theorem add_block (a : Addr) (n : Nat) : (a.add n).block = a.block := by unfold Addr.add; split <;> rfl
theorem add_off (a : Addr) (n : Nat) : (a.add n).off = a.off + n := by unfold Addr.add; split <;> simp_all
theorem add_eq (b o n : Nat) : (Addr.mk b o none).add n = ⟨b, o + n, none⟩ := by unfold Addr.add; split <;> simp_all

theorem cell_of {b k : Nat} {C : Array Value} {e : TypeId} {fz : Nat × Nat} (h : w.heap[b]? = some (.cells C e fz)) : w.cell? ⟨b, k, none⟩ = C[k]? := by
  simp [World.cell?, h]

theorem run_loadCellsFrom {b o : Nat} {C : Array Value} {e : TypeId} {fz : Nat × Nat} (h : w.heap[b]? = some (.cells C e fz)) :
    ∀ (n i : Nat) (acc : Array Value), o + i + n ≤ C.size → (loadCellsFrom ⟨b, o, none⟩ i n acc).run P w = .ok (acc ++ C.extract (o + i) (o + i + n)) w := by
  intro n
  induction n with
  | zero =>
    intro i acc hs
    simp only [loadCellsFrom, Sem.run_pure]
    rw [show C.extract (o + i) (o + i + 0) = #[] by simp; omega]
    simp
  | succ n ih =>
    intro i acc hs
    have hc : w.cell? ((Addr.mk b o none).add i) = some (C[o + i]'(by omega)) := by
      rw [add_eq, cell_of h]; exact Array.getElem?_eq_getElem (by omega)
    simp only [loadCellsFrom, Sem.run_bind, run_load hc, Result.andThen_ok]
    rw [ih (i + 1) _ (by omega)]
    congr 1
    rw [Array.push_eq_append, Array.append_assoc]
    congr 1
    apply Array.ext
    · simp; omega
    · intro k h1 h2
      simp only [Array.getElem_append, Array.getElem_extract]
      split
      · rename_i hk
        have : k = 0 := by simp at hk; exact hk
        subst this; simp
      · rename_i hk
        simp at hk
        congr 1
        simp; omega

theorem run_loadCells {b o n : Nat} {C : Array Value} {e : TypeId} {fz : Nat × Nat} (h : w.heap[b]? = some (.cells C e fz)) (hs : o + n ≤ C.size) :
    (loadCells ⟨b, o, none⟩ n).run P w = .ok (C.extract o (o + n)) w := by
  unfold loadCells
  rw [run_loadCellsFrom h n 0 #[] (by omega)]
  simp

theorem run_store1 {b o : Nat} {v : Value} {C : Array Value} {e : TypeId} {fz : Nat × Nat} (h : w.heap[b]? = some (.cells C e fz)) (hs : o < C.size)
    (hf : ¬ (fz.1 ≤ o ∧ o < fz.2)) (hv : oneC v = true) : (store ⟨b, o, none⟩ v).run P w = .ok () (w.setCell ⟨b, o, none⟩ v) := by
  have hc : w.cell? ⟨b, o, none⟩ = some (C[o]) := by rw [cell_of h]; exact Array.getElem?_eq_getElem hs
  have hz : w.frozen? ⟨b, o, none⟩ = false := by
    simp only [World.frozen?, h]
    simpa using hf
  show (Sem.store .plain ⟨b, o, none⟩ v (.pure ())).run P w = _
  cases v <;> simp_all [Sem.run, oneC]

theorem setCell_one {b o : Nat} {v : Value} {C : Array Value} {e : TypeId} {fz : Nat × Nat} (h : w.heap[b]? = some (.cells C e fz)) :
    One b w (w.setCell ⟨b, o, none⟩ v) ∧ (w.setCell ⟨b, o, none⟩ v).heap[b]? = some (.cells (C.setIfInBounds o v) e fz) := by
  have hb : b < w.heap.size := (Array.getElem?_eq_some_iff.1 h).1
  refine ⟨⟨rfl, rfl, rfl, by simp [World.setCell], fun j hj => ?_⟩, ?_⟩
  · simp only [World.setCell, Array.getElem?_modify]; rw [if_neg (by omega)]
  · simp only [World.setCell, Array.getElem?_modify]
    rw [if_pos trivial, h]; simp

theorem One.refl (k : Nat) (w : World) : One k w w := ⟨rfl, rfl, rfl, rfl, fun _ _ => rfl⟩
theorem One.trans {k : Nat} {a b c : World} (h : One k a b) (g : One k b c) : One k a c :=
  ⟨g.os.trans h.os, g.tape.trans h.tape, g.output.trans h.output, g.size.trans h.size, fun j hj => (g.other j hj).trans (h.other j hj)⟩

/-- a row of cells laid over a block's -/
def over (C : Array Value) (o : Nat) : List Value → Array Value
  | [] => C
  | v :: l => over (C.setIfInBounds o v) (o + 1) l

theorem over_size : ∀ (l : List Value) (C : Array Value) (o : Nat), (over C o l).size = C.size
  | [], C, o => rfl
  | v :: l, C, o => by rw [over, over_size l]; simp

theorem over_get : ∀ (l : List Value) (C : Array Value) (o k : Nat), o + l.length ≤ C.size →
    (over C o l)[k]? = if o ≤ k ∧ k < o + l.length then l[k - o]? else C[k]?
  | [], C, o, k, _ => by rw [over, if_neg (by simp)]
  | v :: l, C, o, k, h => by
    simp only [List.length_cons] at h ⊢
    rw [over, over_get l _ _ _ (by simp; omega)]
    by_cases e : k = o
    · subst e
      rw [if_neg (by omega), if_pos (by omega)]
      simp [show k < C.size by omega]
    · by_cases e2 : o + 1 ≤ k ∧ k < o + 1 + l.length
      · rw [if_pos e2, if_pos (by omega)]
        obtain ⟨d, hd⟩ : ∃ d, k - o = d + 1 := ⟨k - o - 1, by omega⟩
        rw [hd, List.getElem?_cons_succ]
        congr 1; omega
      · rw [if_neg e2, if_neg (by omega), Array.getElem?_setIfInBounds, if_neg (by omega)]

theorem run_storeCells {b o : Nat} {e : TypeId} {fz : Nat × Nat} : ∀ (l : List Value) (i : Nat) (w : World) (C : Array Value),
    w.heap[b]? = some (.cells C e fz) → o + i + l.length ≤ C.size → (∀ k, k < C.size → ¬ (fz.1 ≤ k ∧ k < fz.2)) → (∀ v ∈ l, oneC v = true) →
    ∃ w', (storeCells ⟨b, o, none⟩ l i).run P w = .ok () w' ∧ One b w w' ∧ w'.heap[b]? = some (.cells (over C (o + i) l) e fz)
  | [], i, w, C, h, hs, hf, hv => ⟨w, by simp [storeCells], .refl _ _, by rw [over]; exact h⟩
  | v :: l, i, w, C, h, hs, hf, hv => by
    simp only [List.length_cons] at hs
    have h1 := run_store1 (P := P) (v := v) h (by omega : o + i < C.size) (hf _ (by omega)) (hv v (by simp))
    obtain ⟨h2, h3⟩ := setCell_one (o := o + i) (v := v) h
    obtain ⟨w', h4, h5, h6⟩ := run_storeCells (o := o) (e := e) (fz := fz) l (i + 1) _ (C.setIfInBounds (o + i) v) h3 (by rw [Array.size_setIfInBounds]; omega) (by simpa using hf) (fun x hx => hv x (by simp [hx]))
    refine ⟨w', ?_, h2.trans h5, ?_⟩
    · simp only [storeCells, Sem.run_bind, add_eq]
      rw [h1]; simpa using h4
    · rw [h6, over]; rfl

end Go.Ev

set_option linter.unusedVariables false
set_option linter.unusedSimpArgs false
namespace Go.Ev
open Go.RowKit

theorem VR.undef (ρ : Ren) : VR ρ undef undef := .tuple .nil

def EnvR (ρ : Ren) (tm : Tr Value) (a : Act) : Prop := ∀ t, VR ρ (envT (tm.get t)) (a.tmps.getD t undef)

theorem EnvR.mono {ρ ρ' : Ren} (h : RenLe ρ ρ') {tm : Tr Value} {a : Act} (e : EnvR ρ tm a) : EnvR ρ' tm a := fun t => (e t).mono h

theorem EnvR.eval {ρ : Ren} {tm : Tr Value} {a : Act} (e : EnvR ρ tm a) {x : Operand} (h : opndOk x = true) : VR ρ (evO tm x) (a.eval x) := by
  cases x with
  | tmp t => exact e t
  | const v => exact ground_self h
  | global g => cases h
  | func f => exact .func (fun l h => by cases h) .nil .nil

theorem EnvR.evals {ρ : Ren} {tm : Tr Value} {a : Act} (e : EnvR ρ tm a) : ∀ (l : List Operand), (∀ x ∈ l, opndOk x = true) → VRs ρ (l.map (evO tm)) (l.map a.eval)
  | [], _ => .nil
  | x :: l, h => .cons (e.eval (h x (by simp))) (e.evals l fun y hy => h y (by simp [hy]))

inductive NxR (ρ : Ren) : Nx → Next → Prop
  | val {v v' : Value} (h : VR ρ v v') : NxR ρ (.val v) (.value v')
  | skip : NxR ρ (.val undef) .skip
  | enter {f : FuncId} {l : List Value} {l' : Array Value} (h : VRs ρ l l'.toList) : NxR ρ (.enter f l) (.enter f l')
  | round {b : Nat} {l : Loc} {f : FuncId} {nt : Nat} {tm : Tr Value} {tmps' : Array Value} {as bd : Code} (h : ρ b = some l) (hn : nt ≤ tmps'.size) (ht : ∀ t, VR ρ (envT (tm.get t)) (tmps'.getD t undef)) : NxR ρ (.round b f nt tm as bd) (.round l.blk f tmps' as bd)

/-- the machine's run of a statement comes to what the evaluator said -/
def Done (P : Program) (B0 : Base) (H : Hid) (s s' : St) (ρ : Ren) (G : Hp) (w : World) (nx : Nx) (sem : Sem Next) : Prop :=
  ∃ ρ' w' nx', sem.run P w = .ok nx' w' ∧ NxR ρ' nx nx' ∧ Post B0 H s s' ρ ρ' G w w'

variable {P : Program} {B0 : Base} {H : Hid} {s s' : St} {ρ : Ren} {G : Hp} {w : World} {nx : Nx}

/-- the value of a statement -/
abbrev semV (m : Sem Value) : Sem Next := do pure (.value (← m))
abbrev semU (m : Sem Unit) : Sem Next := do m; pure .skip

theorem done_same {m : Sem Value} {v v' : Value} (p : Pre B0 H s s ρ G w) (h : m.run P w = .ok v' w) (hv : VR ρ v v') : Done P B0 H s s ρ G w (.val v) (semV m) :=
  ⟨ρ, w, .value v', by simp [semV, h], .val hv, .refl p.sub p.sim⟩

theorem done_post {m : Sem Value} {v v' : Value} {w' : World} {ρ' : Ren} (h : m.run P w = .ok v' w') (hv : VR ρ' v v') (q : Post B0 H s s' ρ ρ' G w w') : Done P B0 H s s' ρ G w (.val v) (semV m) :=
  ⟨ρ', w', .value v', by simp [semV, h], .val hv, q⟩

theorem done_skip {m : Sem Unit} {w' : World} {ρ' : Ren} (h : m.run P w = .ok () w') (q : Post B0 H s s' ρ ρ' G w w') : Done P B0 H s s' ρ G w (.val undef) (semU m) :=
  ⟨ρ', w', .skip, by simp [semU, h], .skip, q⟩

theorem ok_inj {α : Type} {a b : α} {s t : St} (h : (R.ok a s) = .ok b t) : a = b ∧ s = t := by cases h; exact ⟨rfl, rfl⟩

theorem brec_ok {α : Type} {c : Bool} {x : R α} {w : String} {a : α} {t : St} (h : (Bool.rec (.bad w) x c : R α) = .ok a t) : c = true ∧ x = .ok a t := by
  cases c
  · cases h
  · exact ⟨rfl, h⟩

theorem cells_of_vis {b : Nat} {c : Tr Value} {n : Nat} {e : TypeId} (p : Pre B0 H s s' ρ G w) (hv : St.vis H s b = some (.cells c n e)) {l : Loc} (hl : ρ b = some l) :
    ∃ (C : Array Value) (e' : TypeId) (fz : Nat × Nat), w.heap[l.blk]? = some (.cells C e' fz) ∧ C.size = l.tot ∧ l.sh + n ≤ l.tot ∧
      (∀ k, k < l.tot → ¬ (fz.1 ≤ k ∧ k < fz.2)) ∧ ∀ k v, c.get k = some v → k < n ∧ ∃ v', C[l.sh + k]? = some v' ∧ VR ρ v v' := by
  obtain ⟨x, hx, C, e', fz, rfl, h⟩ := p.sim.loc (p.sub b _ hv) hl
  exact ⟨C, e', fz, hx, h⟩

theorem r_load1 {x x' : Value} {t : TypeId} {ti : TI} (h : doLoad1 H x s = .ok nx s') (hx : VR ρ x x') (hsub : Sub H s G) (hsim : Sim B0 ρ G w)
    (ht : tiOf P t = some ti) (ha : ti.agg = false) : s' = s ∧ ∃ v v' ad, nx = .val v ∧ VR ρ v v' ∧ x' = .pointer (some ad) ∧ (loadVar t ad).run P w = .ok v' w := by
  unfold doLoad1 at h
  split at h
  · rename_i b o
    cases hx with
    | ptr hl =>
      rename_i l
      split at h
      · rename_i c n e hv
        split at h
        · rename_i v hg
          obtain ⟨rfl, rfl⟩ := ok_inj h
          obtain ⟨x, hx, C, e', fz, rfl, h2, h3, h4, h5⟩ := hsim.loc (hsub b _ hv) hl
          obtain ⟨_, v', h6, h7⟩ := h5 o v hg
          refine ⟨rfl, v, v', _, rfl, h7, rfl, ?_⟩
          simp only [loadVar, Sem.run_bind, Result.andThen_ok, run_isAgg ht, ha, Bool.false_eq_true, if_false]
          exact run_load (by rw [cell_of hx]; exact h6)
        · cases h
      · cases h
  · cases h

theorem s_load1 {x x' : Value} {t : TypeId} {ti : TI} (h : doLoad1 H x s = .ok nx s') (hx : VR ρ x x') (p : Pre B0 H s s' ρ G w)
    (ht : tiOf P t = some ti) (ha : ti.agg = false) : Done P B0 H s s' ρ G w nx (semV (Instr.loadAt t x')) := by
  obtain ⟨rfl, v, v', ad, rfl, h1, rfl, h2⟩ := r_load1 h hx p.sub p.sim ht ha
  refine done_same p ?_ h1
  simpa [Instr.loadAt, Instr.sureAddr] using h2

theorem extract_list (C : Array Value) (o n : Nat) : (C.extract o (o + n)).toList = (C.toList.drop o).take n := by
  simp [Array.toList_extract]

theorem vrs_of_cells {c : Tr Value} {n o k : Nat} {l : Loc} {C : Array Value} {m : List Value}
    (h5 : ∀ k v, c.get k = some v → k < n ∧ ∃ v', C[l.sh + k]? = some v' ∧ VR ρ v v') (hm : m.length = k) (hk : ∀ i, i < k → c.get (o + i) = m[i]?)
    (hs : l.sh + o + k ≤ C.size) : VRs ρ m (C.extract (l.sh + o) (l.sh + o + k)).toList := by
  rw [extract_list]
  refine VRs.of_get ?_ fun i v v' h1 h2 => ?_
  · simp; omega
  · have hi : i < k := by rw [← hm]; exact (List.getElem?_eq_some_iff.1 h1).1
    have := hk i hi
    rw [h1] at this
    obtain ⟨_, u, hu, hr⟩ := h5 _ _ this
    rw [List.getElem?_take, if_pos hi, List.getElem?_drop] at h2
    rw [show l.sh + (o + i) = l.sh + o + i by omega] at hu
    rw [Array.getElem?_toList, hu] at h2
    cases h2
    exact hr

theorem bound_of_get {c : Tr Value} {n o k : Nat} {l : Loc} {C : Array Value} {m : List Value}
    (h5 : ∀ k v, c.get k = some v → k < n ∧ ∃ v', C[l.sh + k]? = some v' ∧ VR ρ v v') (hm : m.length = k) (hk : ∀ i, i < k → c.get (o + i) = m[i]?) (h0 : 0 < k) :
    l.sh + o + k ≤ C.size := by
  have h1 : m[k - 1]? = some (m[k - 1]'(by omega)) := List.getElem?_eq_getElem (by omega)
  have h2 := hk (k - 1) (by omega)
  rw [h1] at h2
  obtain ⟨_, u, hu, _⟩ := h5 _ _ h2
  have := (Array.getElem?_eq_some_iff.1 hu).1
  omega

theorem r_loadN {x x' : Value} {t : TypeId} {ti : TI} (h : doLoadN H ti.size x s = .ok nx s') (hx : VR ρ x x') (hsub : Sub H s G) (hsim : Sim B0 ρ G w)
    (ht : tiOf P t = some ti) (ha : ti.agg = true) : s' = s ∧ ∃ v v' ad, nx = .val v ∧ VR ρ v v' ∧ x' = .pointer (some ad) ∧ (loadVar t ad).run P w = .ok v' w := by
  unfold doLoadN at h
  split at h
  · rename_i b o
    cases hx with
    | ptr hl =>
      rename_i l
      split at h
      · rename_i c n e hv
        split at h
        · rename_i m hg
          obtain ⟨rfl, rfl⟩ := ok_inj h
          obtain ⟨x, hx, C, e', fz, rfl, h2, h3, h4, h5⟩ := hsim.loc (hsub b _ hv) hl
          obtain ⟨m', hm1, hm2, hm3⟩ := ldN_spec _ _ _ _ _ hg
          rw [List.append_nil] at hm1
          subst hm1
          by_cases h0 : ti.size = 0
          · have hnil : m = [] := List.eq_nil_of_length_eq_zero (by omega)
            subst hnil
            refine ⟨rfl, _, .agg #[], _, rfl, .agg .nil, rfl, ?_⟩
            simp only [loadVar, Sem.run_bind, Sem.run_pure, Result.andThen_ok, run_isAgg ht, ha, if_true, run_sizeOf ht, h0]
            simp [loadCells, loadCellsFrom]
          · have hb := bound_of_get h5 hm2 hm3 (by omega)
            refine ⟨rfl, _, _, _, rfl, .agg (vrs_of_cells h5 hm2 hm3 hb), rfl, ?_⟩
            simp only [loadVar, Sem.run_bind, Sem.run_pure, Result.andThen_ok, run_isAgg ht, ha, if_true, run_sizeOf ht]
            rw [run_loadCells hx hb]
            simp
        · cases h
      · cases h
  · cases h

theorem s_loadN {x x' : Value} {t : TypeId} {ti : TI} (h : doLoadN H ti.size x s = .ok nx s') (hx : VR ρ x x') (p : Pre B0 H s s' ρ G w)
    (ht : tiOf P t = some ti) (ha : ti.agg = true) : Done P B0 H s s' ρ G w nx (semV (Instr.loadAt t x')) := by
  obtain ⟨rfl, v, v', ad, rfl, h1, rfl, h2⟩ := r_loadN h hx p.sub p.sim ht ha
  refine done_same p ?_ h1
  simpa [Instr.loadAt, Instr.sureAddr] using h2

theorem oneC_of {v v' : Value} (h : VR ρ v v') (ho : oneC v = true) : oneC v' = true := by cases h <;> first | rfl | cases ho

theorem cells_one {v : Value} (h : oneC v = true) : v.cells = #[v] := by cases v <;> first | rfl | cases h

theorem ObjR.store {l : Loc} {c : Tr Value} {n : Nat} {e e' : TypeId} {C : Array Value} {fz : Nat × Nat} {o : Nat} {m m' : List Value}
    (h2 : C.size = l.tot) (h3 : l.sh + n ≤ l.tot) (h4 : ∀ k, k < l.tot → ¬ (fz.1 ≤ k ∧ k < fz.2))
    (h5 : ∀ k v, c.get k = some v → k < n ∧ ∃ v', C[l.sh + k]? = some v' ∧ VR ρ v v') (hm : VRs ρ m m') (ho : o + m.length ≤ n) :
    ObjR ρ l (.cells (stN o m 0 c) n e) (.cells (over C (l.sh + o) m') e' fz) := by
  have hlen := hm.length
  refine ⟨_, _, _, rfl, by rw [over_size, h2], h3, h4, fun k v hk => ?_⟩
  rw [get_stN] at hk
  rw [over_get _ _ _ _ (by omega)]
  by_cases e1 : o + 0 ≤ k ∧ k < o + 0 + m.length
  · rw [if_pos e1] at hk
    obtain ⟨v', hv', hr⟩ := hm.get hk
    refine ⟨by omega, v', ?_, hr⟩
    rw [if_pos (by omega), show l.sh + k - (l.sh + o) = k - (o + 0) by omega]
    exact hv'
  · rw [if_neg e1] at hk
    obtain ⟨a, v', hv', hr⟩ := h5 k v hk
    refine ⟨a, v', ?_, hr⟩
    rw [if_neg (by omega)]
    exact hv'

theorem s_store1 {x x' v v' : Value} {t : TypeId} {ti : TI} (h : doStore1 H x v s = .ok nx s') (hx : VR ρ x x') (hv : VR ρ v v') (p : Pre B0 H s s' ρ G w)
    (ht : tiOf P t = some ti) (hs1 : ti.size = 1) : Done P B0 H s s' ρ G w nx (semU (Instr.storeAt t x' v')) := by
  unfold doStore1 at h
  split at h
  · rename_i b o
    cases hx with
    | ptr hl =>
      rename_i l
      split at h
      · rename_i c n e hvis
        obtain ⟨ho, h⟩ := brec_ok h
        obtain ⟨hon, h⟩ := brec_ok h
        obtain ⟨rfl, rfl⟩ := ok_inj h
        have hon : o < n := by simpa [Nat.blt_eq] using hon
        have hp := cells_of_vis p hvis hl
        obtain ⟨C, e', fz, h1, h2, h3, h4, h5⟩ := hp
        have hov := oneC_of hv ho
        have hst := run_store1 (P := P) (v := v') h1 (by omega : l.sh + o < C.size) (h4 _ (by omega)) hov
        obtain ⟨h6, h7⟩ := setCell_one (o := l.sh + o) (v := v') h1
        refine done_skip (w' := w.setCell ⟨l.blk, l.sh + o, none⟩ v') ?_ (Post.set' p hvis hl h6 h7 ?_)
        · simp only [Instr.storeAt, Instr.sureAddr, storeVar, Sem.run_bind, Sem.run_pure, Result.andThen_ok, run_sizeOf ht, hs1]
          rw [cells_one hov]
          simp [storeCells, hst, Addr.add]
        · have := ObjR.store (e := e) (e' := e') (o := o) h2 h3 h4 h5 (VRs.cons hv .nil) (by simp; omega)
          exact this
      · cases h
  · cases h

theorem s_storeN {x x' v v' : Value} {t : TypeId} {ti : TI} (h : doStoreN H ti.size x v s = .ok nx s') (hx : VR ρ x x') (hv : VR ρ v v') (p : Pre B0 H s s' ρ G w)
    (ht : tiOf P t = some ti) : Done P B0 H s s' ρ G w nx (semU (Instr.storeAt t x' v')) := by
  unfold doStoreN at h
  split at h
  · rename_i b o
    cases hx with
    | ptr hl =>
      rename_i l
      split at h
      · rename_i c n e hvis
        split at h
        · rename_i cs
          obtain ⟨ho, h⟩ := brec_ok h
          obtain ⟨hsz, h⟩ := brec_ok h
          obtain ⟨hon, h⟩ := brec_ok h
          obtain ⟨rfl, rfl⟩ := ok_inj h
          have hsz : cs.toList.length = ti.size := by simpa [Nat.beq_eq] using hsz
          have hon : o + ti.size ≤ n := by simpa [Nat.ble_eq] using hon
          cases hv with
          | agg hcs =>
            rename_i cs'
            obtain ⟨C, e', fz, h1, h2, h3, h4, h5⟩ := cells_of_vis p hvis hl
            have hlen := hcs.length
            have hone : ∀ u ∈ cs'.toList, oneC u = true := by
              intro u hu
              obtain ⟨k, hk1, hk2⟩ := List.getElem_of_mem hu
              have hk3 : k < cs.toList.length := by omega
              have hg : cs.toList[k]? = some (cs.toList[k]) := List.getElem?_eq_getElem hk3
              obtain ⟨u', hu1, hu2⟩ := hcs.get hg
              rw [List.getElem?_eq_getElem hk1, hk2] at hu1
              cases hu1
              exact oneC_of hu2 (List.all_eq_true.1 ho _ (List.getElem_mem hk3))
            obtain ⟨w', h6, h7, h8⟩ := run_storeCells (P := P) (o := l.sh + o) cs'.toList 0 w C h1 (by omega) (by rw [h2]; exact h4) hone
            refine done_skip (w' := w') ?_ (Post.set' p hvis hl h7 h8 ?_)
            · simp only [Instr.storeAt, Instr.sureAddr, storeVar, Sem.run_bind, Sem.run_pure, Result.andThen_ok, run_sizeOf ht]
              have : (Value.agg cs').cells.size = ti.size := by
                show cs'.size = _
                rw [← Array.length_toList]; omega
              simp only [this, ne_eq, not_true_eq_false, if_false]
              exact h6
            · have := ObjR.store (e := e) (e' := e') (o := o) h2 h3 h4 h5 hcs (by omega)
              simpa using this
        · cases h
      · cases h
  · cases h

/- new blocks -/
theorem objR_trOf {l : Loc} {m m' : List Value} {n : Nat} {e e' : TypeId} {C : Array Value} (hm : VRs ρ m m') (hn : m.length = n) (hC : ∃ rest, C.toList = m' ++ rest) (hl : C.size = l.tot) (h0 : l.sh = 0) :
    ObjR ρ l (.cells (trOf m 0 .lf) n e) (.cells C e' (0, 0)) := by
  obtain ⟨rest, hC⟩ := hC
  have hlen := hm.length
  have hsz : C.size = m'.length + rest.length := by rw [← Array.length_toList, hC]; simp
  refine ⟨C, e', (0, 0), rfl, hl, by omega, fun k _ => by simp, fun k v hk => ?_⟩
  rw [get_trOf] at hk
  by_cases e1 : 0 ≤ k ∧ k < 0 + m.length
  · rw [if_pos e1] at hk
    obtain ⟨v', hv', hr⟩ := hm.get hk
    refine ⟨by omega, v', ?_, hr⟩
    have hk' : k < m'.length := by omega
    rw [h0, ← Array.getElem?_toList, hC, List.getElem?_append_left (by omega)]
    simpa using hv'
  · rw [if_neg e1] at hk; simp at hk

theorem run_newRow {e : TypeId} {C : Array Value} : (newRow e C).run P w = .ok ⟨w.heap.size, 0, none⟩ { w with heap := w.heap.push (.cells C e) } := by
  simp [newRow]

theorem Value.cells_toList {v v' : Value} (h : VR ρ v v') : VRs ρ (vcells v) v'.cells.toList := by
  cases h <;> first | exact .cons (by constructor <;> assumption) .nil | skip
  case agg h => exact h

theorem s_box {v v' : Value} {e : TypeId} (h : doBox e v s = .ok nx s') (hv : VR ρ v v') (p : Pre B0 H s s' ρ G w) :
    Done P B0 H s s' ρ G w nx (semV (do pure (.pointer (some (← newVar e v'))))) := by
  have key : ∀ (m : List Value) (c : Tr Value), (∀ ρ', RenLe ρ ρ' → ObjR ρ' ⟨w.heap.size, 0, v'.cells.size⟩ (.cells c m.length e) (.cells v'.cells e (0, 0))) →
      nx = .val (ptr s.next 0) → s' = newObj s (.cells c m.length e) → Done P B0 H s s' ρ G w nx (semV (do pure (.pointer (some (← newVar e v'))))) := by
    intro m c ho h1 h2
    subst h1 h2
    have hle : RenLe ρ (ρ.put s.next ⟨w.heap.size, 0, v'.cells.size⟩) := Ren.le_put (p.fresh s.next (Nat.le_refl _) (Nat.lt_succ_self _))
    have q := Post.new' (obj := .cells v'.cells e (0, 0)) v'.cells.size p (ho _ hle)
    refine done_post (v' := .pointer (some ⟨w.heap.size, 0, none⟩)) ?_ ?_ q
    · simp [newVar, run_newRow]
    · exact .ptr (l := ⟨w.heap.size, 0, v'.cells.size⟩) Ren.put_same
  unfold doBox at h
  split at h
  · rename_i cs
    obtain ⟨rfl, rfl⟩ := ok_inj h
    refine key cs.toList _ (fun ρ' hle => ?_) rfl rfl
    cases hv with
    | agg hcs => exact objR_trOf (hcs.mono hle) rfl ⟨[], by simp [Value.cells]⟩ rfl rfl
  · rename_i hne
    obtain ⟨rfl, rfl⟩ := ok_inj h
    refine key [v] _ (fun ρ' hle => ?_) rfl rfl
    have hc : v'.cells = #[v'] := by
      cases hv <;> first | rfl | exact absurd rfl (hne _)
    rw [hc]
    refine ⟨_, _, _, rfl, rfl, by simp, fun k _ => by simp, fun k u hk => ?_⟩
    rw [Tr.get_nd] at hk
    by_cases e1 : k = 0
    · subst e1
      simp only [if_true, Option.some.injEq] at hk
      subst hk
      exact ⟨by simp, v', by simp, hv.mono hle⟩
    · rw [if_neg e1] at hk; simp at hk

theorem s_field {x x' : Value} {off : Nat} {st : TypeId} {fs : Array Field} {f : Nat} {fl : Field} {ti : TI} (h : doField off x s = .ok nx s') (hx : VR ρ x x') (p : Pre B0 H s s' ρ G w)
    (hu : P.underlying st = some (.struct fs)) (hf : fs[f]? = some fl) (ht : tiOf P fl.type = some ti) (hoff : fl.offset = off) (h0 : ti.size ≠ 0) :
    Done P B0 H s s' ρ G w nx (semV (Instr.fieldAt st x' f)) := by
  unfold doField at h
  split at h
  · rename_i b o
    obtain ⟨rfl, rfl⟩ := ok_inj h
    cases hx with
    | ptr hl =>
      rename_i l
      refine done_same (v' := .pointer (some ⟨l.blk, l.sh + (o + off), none⟩)) p ?_ (.ptr hl)
      simp only [Instr.fieldAt, Sem.run_bind, run_underlying hu, Result.andThen_ok, hf, Instr.sureAddr, Sem.run_pure, fieldPlace, run_sizeOf ht, h0, if_false]
      rw [hoff, add_eq]
      simp [Nat.add_assoc]
  · cases h

theorem int_of {k : IntKind} {n : Int} {v : Value} (h : VR ρ (.int k n) v) : v = .int k n := by cases h; rfl

theorem s_indexS {x x' i i' : Value} {t e : TypeId} {ti : TI} (h : doIndexS ti.size x i s = .ok nx s') (hx : VR ρ x x') (hi : VR ρ i i') (p : Pre B0 H s s' ρ G w)
    (hu : P.underlying t = some (.slice e)) (ht : tiOf P e = some ti) : Done P B0 H s s' ρ G w nx (semV (Instr.indexAt t x' i')) := by
  unfold doIndexS at h
  split at h
  · rename_i b o sp n cap
    split at h
    · rename_i k m
      obtain ⟨hlt, h⟩ := brec_ok h
      obtain ⟨rfl, rfl⟩ := ok_inj h
      have hlt : m < n := by simpa [Nat.blt_eq] using hlt
      have := int_of hi
      subst this
      have main : ∀ (l : Loc) (c' : Nat), ρ b = some l → x' = .slice (some ⟨l.blk, l.sh + o, none⟩) n c' → Done P B0 H s s ρ G w (.val (ptr b (o + m * ti.size))) (semV (Instr.indexAt t x' (.int k (Int.ofNat m)))) := by
        intro l c' hl hx'
        subst hx'
        refine done_same (v' := .pointer (some ⟨l.blk, l.sh + (o + m * ti.size), none⟩)) p ?_ (.ptr hl)
        simp only [Instr.indexAt, asIntOf, Sem.run_bind, Sem.run_pure, Result.andThen_ok, run_underlying hu]
        have hc : (0 : Int) ≤ Int.ofNat m ∧ Int.ofNat m < (n : Int) := ⟨Int.natCast_nonneg m, Int.ofNat_lt.2 hlt⟩
        rw [if_pos hc]
        simp only [Sem.run_bind, run_sizeOf ht, Result.andThen_ok, Sem.run_pure]
        rw [add_eq]
        simp [Nat.add_assoc]
      cases hx with
      | slice hl ho hn =>
        rename_i o' l
        refine main l cap hl ?_
        rcases ho with rfl | rfl
        · rfl
        · omega
      | sliceG hl ho hn hh =>
        rename_i o' c' sz l
        refine main l c' hl ?_
        rcases ho with rfl | rfl
        · rfl
        · omega
    · cases h
  · cases h

theorem s_indexA {x x' i i' : Value} {t e : TypeId} {n : Nat} {ti : TI} (h : doIndexA n ti.size x i s = .ok nx s') (hx : VR ρ x x') (hi : VR ρ i i') (p : Pre B0 H s s' ρ G w)
    (hu : P.underlying t = some (.array n e)) (ht : tiOf P e = some ti) : Done P B0 H s s' ρ G w nx (semV (Instr.indexAt t x' i')) := by
  unfold doIndexA at h
  split at h
  · rename_i b o
    split at h
    · rename_i k m
      obtain ⟨hlt, h⟩ := brec_ok h
      obtain ⟨rfl, rfl⟩ := ok_inj h
      have hlt : m < n := by simpa [Nat.blt_eq] using hlt
      have := int_of hi
      subst this
      cases hx with
      | ptr hl =>
        rename_i l
        refine done_same (v' := .pointer (some ⟨l.blk, l.sh + (o + m * ti.size), none⟩)) p ?_ (.ptr hl)
        simp only [Instr.indexAt, asIntOf, Instr.sureAddr, Sem.run_bind, Sem.run_pure, Result.andThen_ok, run_underlying hu]
        have hc : (0 : Int) ≤ Int.ofNat m ∧ Int.ofNat m < (n : Int) := ⟨Int.natCast_nonneg m, Int.ofNat_lt.2 hlt⟩
        rw [if_pos hc]
        simp only [Sem.run_bind, run_sizeOf ht, Result.andThen_ok, Sem.run_pure]
        rw [add_eq]
        simp [Nat.add_assoc]
    · cases h
  · cases h

end Go.Ev

set_option linter.unusedVariables false
set_option linter.unusedSimpArgs false
namespace Go.Ev
open Go.RowKit

variable {P : Program} {B0 : Base} {H : Hid} {s s' : St} {ρ : Ren} {G : Hp} {w : World} {nx : Nx}

theorem okO_spec {o : Option Value} (h : okO s o = .ok nx s') : s' = s ∧ ∃ v, o = some v ∧ nx = .val v := by
  cases o with
  | none => cases h
  | some v => obtain ⟨rfl, rfl⟩ := ok_inj h; exact ⟨rfl, v, rfl, rfl⟩

theorem s_extract {x x' : Value} {i : Nat} (h : doExtract x i s = .ok nx s') (hx : VR ρ x x') (p : Pre B0 H s s' ρ G w) :
    Done P B0 H s s' ρ G w nx (semV (Instr.extract x' i)) := by
  unfold doExtract at h
  split at h
  · rename_i vs
    obtain ⟨rfl, v, hv, rfl⟩ := okO_spec h
    cases hx with
    | tuple hvs =>
      rename_i vs'
      obtain ⟨v', h1, h2⟩ := hvs.get hv
      refine done_same p ?_ h2
      rw [Array.getElem?_toList] at h1
      simp [Instr.extract, h1]
  · cases h

theorem run_part {t : TypeId} {ti : TI} {cs : Array Value} {off : Nat} (ht : tiOf P t = some ti) :
    (ti.agg = true → (part t cs off).run P w = .ok (.agg (cs.extract off (off + ti.size))) w) ∧ ∀ v, ti.agg = false → cs[off]? = some v → (part t cs off).run P w = .ok v w := by
  simp only [part, Sem.run_bind, run_isAgg ht, Result.andThen_ok]
  constructor
  · intro h; rw [h]; simp [run_sizeOf ht]
  · intro v h hv
    rw [h]
    simp only [Bool.false_eq_true, if_false, hv, Sem.run_pure]

theorem s_part {agg : Bool} {off sz : Nat} {x : Value} {cs' : Array Value} {t : TypeId} {ti : TI} (h : doFieldV agg off sz x s = .ok nx s') (hx : VR ρ x (.agg cs'))
    (ht : tiOf P t = some ti) (ha : ti.agg = agg) (hz : ti.size = sz) : s' = s ∧ ∃ v v', nx = .val v ∧ VR ρ v v' ∧ ∀ w, (part t cs' off).run P w = .ok v' w := by
  unfold doFieldV at h
  split at h
  · rename_i cs
    cases hx with
    | agg hcs =>
      cases agg with
      | false =>
        obtain ⟨rfl, v, hv, rfl⟩ := okO_spec h
        obtain ⟨v', h1, h2⟩ := hcs.get hv
        rw [Array.getElem?_toList] at h1
        refine ⟨rfl, v, v', rfl, h2, fun w => ?_⟩
        exact (run_part ht).2 v' ha h1
      | true =>
        obtain ⟨hb, h⟩ := brec_ok h
        obtain ⟨rfl, rfl⟩ := ok_inj h
        refine ⟨rfl, _, .agg (cs'.extract off (off + sz)), rfl, .agg ?_, fun w => ?_⟩
        · rw [extract_list]; exact (hcs.drop off).take sz
        · rw [(run_part ht).1 ha, hz]
  · cases h

theorem s_fieldV {agg : Bool} {off sz : Nat} {x x' : Value} {st : TypeId} {fs : Array Field} {f : Nat} {fl : Field} {ti : TI} (h : doFieldV agg off sz x s = .ok nx s') (hx : VR ρ x x') (p : Pre B0 H s s' ρ G w)
    (hu : P.underlying st = some (.struct fs)) (hf : fs[f]? = some fl) (ht : tiOf P fl.type = some ti) (hoff : fl.offset = off) (ha : ti.agg = agg) (hz : ti.size = sz) :
    Done P B0 H s s' ρ G w nx (semV (Instr.field st x' f)) := by
  have hx2 : ∃ cs', x' = .agg cs' := by
    unfold doFieldV at h
    split at h
    · cases hx with | agg _ => exact ⟨_, rfl⟩
    · cases h
  obtain ⟨cs', rfl⟩ := hx2
  obtain ⟨rfl, v, v', rfl, hr, hrun⟩ := s_part h hx ht ha hz
  refine done_same p ?_ hr
  simp only [Instr.field, Sem.run_bind, run_underlying hu, Result.andThen_ok, hf, asAgg, Sem.run_pure, hoff]
  exact hrun w

theorem s_indexAgg {agg : Bool} {n sz : Nat} {x x' i i' : Value} {t e : TypeId} {ti : TI} (h : doIndexAgg n agg sz x i s = .ok nx s') (hx : VR ρ x x') (hi : VR ρ i i') (p : Pre B0 H s s' ρ G w)
    (hu : P.underlying t = some (.array n e)) (ht : tiOf P e = some ti) (ha : ti.agg = agg) (hz : ti.size = sz) : Done P B0 H s s' ρ G w nx (semV (Instr.index t x' i')) := by
  unfold doIndexAgg at h
  split at h
  · rename_i k m
    have := int_of hi
    subst this
    obtain ⟨hlt, h⟩ := brec_ok h
    have hlt : m < n := by simpa [Nat.blt_eq] using hlt
    have hx2 : ∃ cs', x' = .agg cs' := by
      unfold doFieldV at h
      split at h
      · cases hx with | agg _ => exact ⟨_, rfl⟩
      · cases h
    obtain ⟨cs', rfl⟩ := hx2
    obtain ⟨rfl, v, v', rfl, hr, hrun⟩ := s_part h hx ht ha hz
    refine done_same p ?_ hr
    simp only [Instr.index, asIntOf, Sem.run_bind, Sem.run_pure, Result.andThen_ok, run_underlying hu]
    have hc : (0 : Int) ≤ Int.ofNat m ∧ Int.ofNat m < (n : Int) := ⟨Int.natCast_nonneg m, Int.ofNat_lt.2 hlt⟩
    rw [if_pos hc]
    simp only [Sem.run_bind, run_sizeOf ht, Result.andThen_ok, hz]
    exact hrun w
  · cases h

theorem s_indexStr {x x' i i' : Value} {t : TypeId} (h : doIndexStr x i s = .ok nx s') (hx : VR ρ x x') (hi : VR ρ i i') (p : Pre B0 H s s' ρ G w)
    (hu : P.underlying t = some .string) : Done P B0 H s s' ρ G w nx (semV (Instr.index t x' i')) := by
  unfold doIndexStr at h
  split at h
  · rename_i b
    split at h
    · rename_i k m
      have := int_of hi
      subst this
      split at h
      · rename_i c hc
        obtain ⟨rfl, rfl⟩ := ok_inj h
        cases hx
        refine done_same p ?_ (.int _ _)
        have hlt : m < b.size := by
          have := (List.getElem?_eq_some_iff.1 hc).1
          simpa using this
        have hb : b[m]? = some c := by
          rw [Array.getElem?_toList] at hc
          obtain ⟨h1, h2⟩ := Array.getElem?_eq_some_iff.1 hc
          rw [getElem?_pos b m hlt]
          congr 1
        simp only [Instr.index, asIntOf, Sem.run_bind, Sem.run_pure, Result.andThen_ok, run_underlying hu]
        rw [if_pos (show (0 : Int) ≤ Int.ofNat m from Int.natCast_nonneg m)]
        simp [hb]
      · cases h
    · cases h
  · cases h

theorem s_pick {c c' a a' b b' : Value} (h : doPick s c a b = .ok nx s') (hc : VR ρ c c') (ha : VR ρ a a') (hb : VR ρ b b') (p : Pre B0 H s s' ρ G w) :
    Done P B0 H s s' ρ G w nx (do pure (.value (if ← asBool c' then a' else b'))) := by
  unfold doPick at h
  split at h
  · rename_i t
    obtain ⟨rfl, rfl⟩ := ok_inj h
    cases hc
    refine ⟨ρ, w, .value (if t = true then a' else b'), by simp [asBool], ?_, .refl p.sub p.sim⟩
    cases t
    · exact .val hb
    · exact .val ha
  · cases h

/- bounds of slices -/
inductive OVR (ρ : Ren) : Option Value → Option Value → Prop
  | none : OVR ρ none none
  | some {v v' : Value} (h : VR ρ v v') : OVR ρ (some v) (some v')

theorem sb_spec {x x' : Option Value} {d n : Nat} (h : sb x d = some n) (hx : OVR ρ x x') : (x' = none ∧ n = d) ∨ ∃ k, x' = some (.int k (Int.ofNat n)) := by
  cases hx with
  | none => simp only [sb, Option.some.injEq] at h; exact .inl ⟨rfl, h.symm⟩
  | some hv =>
    unfold sb at h
    split at h
    · rename_i he; cases he
    · rename_i k i he
      cases he
      split at h
      · cases h
        rename_i m
        have := int_of hv
        subst this
        exact .inr ⟨k, rfl⟩
      · cases h
    · cases h

theorem run_sliceBound {k : IntKind} {n y : Nat} {code : BoundsCode} (h : n ≤ y) : (Instr.sliceBound (.int k (Int.ofNat n)) y code).run P w = .ok n w := by
  simp only [Instr.sliceBound, asIntOf, Sem.run_bind, Sem.run_pure, Result.andThen_ok]
  rw [if_pos ⟨Int.natCast_nonneg n, Int.ofNat_le.2 h⟩]
  simp

theorem run_sliceBound' {k : IntKind} {n y : Nat} {code : BoundsCode} (h : n ≤ y) : (Instr.sliceBound (.int k (n : Int)) y code).run P w = .ok n w := run_sliceBound h

theorem run_bounds2 {b : Bool} {len cap l h : Nat} {lo hi : Option Value} (h1 : l ≤ h) (h2 : h ≤ cap) (hl : (lo = none ∧ l = 0) ∨ ∃ k, lo = some (.int k (Int.ofNat l)))
    (hh : (hi = none ∧ h = len) ∨ ∃ k, hi = some (.int k (Int.ofNat h))) : (Instr.sliceBounds b len cap lo hi none).run P w = .ok (l, h, cap) w := by
  rcases hl with ⟨rfl, rfl⟩ | ⟨k, rfl⟩ <;> rcases hh with ⟨rfl, rfl⟩ | ⟨k', rfl⟩ <;>
    simp [Instr.sliceBounds, run_sliceBound' h1, run_sliceBound' h2]

theorem run_bounds3 {len cap l h m : Nat} {k0 : IntKind} {lo hi : Option Value} (h1 : l ≤ h) (h2 : h ≤ m) (h3 : m ≤ cap) (hl : (lo = none ∧ l = 0) ∨ ∃ k, lo = some (.int k (Int.ofNat l)))
    (hh : ∃ k, hi = some (.int k (Int.ofNat h))) : (Instr.sliceBounds true len cap lo hi (some (.int k0 (Int.ofNat m)))).run P w = .ok (l, h, m) w := by
  obtain ⟨k', rfl⟩ := hh
  rcases hl with ⟨rfl, rfl⟩ | ⟨k, rfl⟩ <;>
    simp [Instr.sliceBounds, run_sliceBound' h1, run_sliceBound' h2, run_sliceBound' h3]

theorem s_sliceStr {x x' : Value} {t : TypeId} {lo lo' hi hi' : Option Value} (h : doSliceStr x lo hi s = .ok nx s') (hx : VR ρ x x') (hlo : OVR ρ lo lo') (hhi : OVR ρ hi hi') (p : Pre B0 H s s' ρ G w)
    (hu : P.underlying t = some .string) : Done P B0 H s s' ρ G w nx (semV (Instr.sliceAt t x' lo' hi' none)) := by
  unfold doSliceStr at h
  split at h
  · rename_i str
    split at h
    · rename_i l hl
      split at h
      · rename_i hh hh1
        obtain ⟨hb, h⟩ := brec_ok h
        obtain ⟨rfl, rfl⟩ := ok_inj h
        cases hx
        simp only [Bool.and_eq_true, Nat.ble_eq] at hb
        refine done_same p ?_ (.string _)
        have := run_bounds2 (P := P) (w := w) (b := false) (len := str.size) (cap := str.size) hb.1 hb.2 (sb_spec hl hlo) (sb_spec hh1 hhi)
        simp only [Instr.sliceAt, Instr.slice, Sem.run_bind, run_underlying hu, Result.andThen_ok, Option.isSome_none, Bool.false_eq_true, if_false]
        simp only [Sem.run_pure, Result.andThen_ok, this]
      · cases h
    · cases h
  · cases h

theorem s_slice {x x' : Value} {t e : TypeId} {ti : TI} {lo lo' hi hi' mx mx' : Option Value} (h : doSlice ti.size x lo hi mx s = .ok nx s') (hx : VR ρ x x') (hlo : OVR ρ lo lo') (hhi : OVR ρ hi hi') (hmx : OVR ρ mx mx') (p : Pre B0 H s s' ρ G w)
    (hmh : mx.isSome = true → hi.isSome = true)
    (hu : P.underlying t = some (.slice e)) (ht : tiOf P e = some ti) : Done P B0 H s s' ρ G w nx (semV (Instr.sliceAt t x' lo' hi' mx')) := by
  have hi_some : ∀ {hh n : Nat}, sb hi n = some hh → mx.isSome = true → ∃ k, hi' = some (.int k (Int.ofNat hh)) := by
    intro hh n h1 h2
    rcases sb_spec h1 hhi with ⟨h3, _⟩ | h3
    · have := hmh h2
      subst h3
      cases hhi
      cases this
    · exact h3
  unfold doSlice at h
  split at h
  · rename_i base n cap
    split at h
    · rename_i l hl
      have hl2 := sb_spec hl hlo
      split at h
      · rename_i hh hh1
        have hh2 := sb_spec hh1 hhi
        split at h
        · -- nil
          obtain ⟨hb, h⟩ := brec_ok h
          obtain ⟨rfl, rfl⟩ := ok_inj h
          simp only [Bool.and_eq_true, Nat.beq_eq] at hb
          obtain ⟨⟨⟨⟨rfl, rfl⟩, hm⟩, rfl⟩, rfl⟩ := hb
          cases hx
          have : mx' = none := by cases hmx with | none => rfl | some _ => cases hm
          subst this
          refine done_same p ?_ (.sliceNil 0 0)
          have := run_bounds2 (P := P) (w := w) (b := true) (len := 0) (cap := 0) (Nat.le_refl 0) (Nat.le_refl 0) hl2 hh2
          simp only [Instr.sliceAt, Instr.slice, Sem.run_bind, run_underlying hu, Result.andThen_ok, this, run_sizeOf ht, Sem.run_pure]
          simp
        · -- a known capacity
          rename_i b o
          cases hx with
          | slice hloc ho hn =>
            rename_i o' lc
            split at h
            · rename_i hmn
              obtain ⟨hb, h⟩ := brec_ok h
              obtain ⟨rfl, rfl⟩ := ok_inj h
              simp only [Bool.and_eq_true, Nat.ble_eq] at hb
              have : mx' = none := by cases hmx with | none => rfl
              subst this
              have hbd := run_bounds2 (P := P) (w := w) (b := true) (len := n) (cap := cap) hb.1 hb.2 hl2 hh2
              by_cases hc : cap = l
              · refine done_same (v' := .slice (some ⟨lc.blk, o', none⟩) (hh - l) (cap - l)) p ?_ (.slice hloc (.inr (by show cap - l = 0; omega)) (by show hh - l ≤ cap - l; omega))
                simp only [Instr.sliceAt, Instr.slice, Sem.run_bind, run_underlying hu, Result.andThen_ok, hbd, run_sizeOf ht, Sem.run_pure]
                rw [if_pos hc]
              · refine done_same (v' := .slice (some ⟨lc.blk, o' + l * ti.size, none⟩) (hh - l) (cap - l)) p ?_ (.slice hloc (.inl ?_) (by show hh - l ≤ cap - l; omega))
                · simp only [Instr.sliceAt, Instr.slice, Sem.run_bind, run_underlying hu, Result.andThen_ok, hbd, run_sizeOf ht, Sem.run_pure]
                  rw [if_neg hc]
                  simp [add_eq]
                · show o' + l * ti.size = lc.sh + (o + l * ti.size)
                  rcases ho with rfl | rfl
                  · omega
                  · omega
            · rename_i k0 m
              obtain ⟨hb, h⟩ := brec_ok h
              obtain ⟨rfl, rfl⟩ := ok_inj h
              simp only [Bool.and_eq_true, Nat.ble_eq] at hb
              have : mx' = some (.int k0 (Int.ofNat m)) := by cases hmx with | some hv => rw [int_of hv]
              subst this
              have hbd := run_bounds3 (P := P) (w := w) (len := n) (k0 := k0) hb.1.1 hb.1.2 hb.2 hl2 (hi_some hh1 rfl)
              by_cases hc : m = l
              · refine done_same (v' := .slice (some ⟨lc.blk, o', none⟩) (hh - l) (m - l)) p ?_ (.slice hloc (.inr (by show m - l = 0; omega)) (by show hh - l ≤ m - l; omega))
                simp only [Instr.sliceAt, Instr.slice, Sem.run_bind, run_underlying hu, Result.andThen_ok, hbd, run_sizeOf ht, Sem.run_pure]
                rw [if_pos hc]
              · refine done_same (v' := .slice (some ⟨lc.blk, o' + l * ti.size, none⟩) (hh - l) (m - l)) p ?_ (.slice hloc (.inl ?_) (by show hh - l ≤ m - l; omega))
                · simp only [Instr.sliceAt, Instr.slice, Sem.run_bind, run_underlying hu, Result.andThen_ok, hbd, run_sizeOf ht, Sem.run_pure]
                  rw [if_neg hc]
                  simp [add_eq]
                · show o' + l * ti.size = lc.sh + (o + l * ti.size)
                  rcases ho with rfl | rfl
                  · omega
                  · omega
            · cases h
        · -- an unknown capacity
          rename_i b o z
          cases hx with
          | sliceG hloc ho hn htot =>
            rename_i o' c' lc
            split at h
            · obtain ⟨hb, h⟩ := brec_ok h
              obtain ⟨rfl, rfl⟩ := ok_inj h
              simp only [Bool.and_eq_true, Nat.ble_eq, Nat.beq_eq] at hb
              obtain ⟨⟨hb1, hb2⟩, rfl⟩ := hb
              have : mx' = none := by cases hmx with | none => rfl
              subst this
              have hbd := run_bounds2 (P := P) (w := w) (b := true) (len := n) (cap := c') hb1 (by omega) hl2 hh2
              by_cases hc : c' = l
              · refine done_same (v' := .slice (some ⟨lc.blk, o', none⟩) (hh - l) (c' - l)) p ?_ (.sliceG hloc (.inr (by show hh - l = 0; omega)) (by show hh - l ≤ c' - l; omega) ?_)
                · simp only [Instr.sliceAt, Instr.slice, Sem.run_bind, run_underlying hu, Result.andThen_ok, hbd, run_sizeOf ht, Sem.run_pure]
                  rw [if_pos hc]
                · have : c' - l = 0 := by omega
                  rw [this]; omega
              · refine done_same (v' := .slice (some ⟨lc.blk, o' + l * ti.size, none⟩) (hh - l) (c' - l)) p ?_ (.sliceG hloc ?_ (by show hh - l ≤ c' - l; omega) ?_)
                · simp only [Instr.sliceAt, Instr.slice, Sem.run_bind, run_underlying hu, Result.andThen_ok, hbd, run_sizeOf ht, Sem.run_pure]
                  rw [if_neg hc]
                  simp [add_eq]
                · rcases ho with rfl | rfl
                  · left; show lc.sh + o + l * ti.size = lc.sh + (o + l * ti.size); omega
                  · right; show hh - l = 0; omega
                · have h1 : l * ti.size + (c' - l) * ti.size = c' * ti.size := by rw [← Nat.add_mul]; congr 1; omega
                  omega
            · rename_i k0 m
              obtain ⟨hb, h⟩ := brec_ok h
              obtain ⟨rfl, rfl⟩ := ok_inj h
              simp only [Bool.and_eq_true, Nat.ble_eq] at hb
              have : mx' = some (.int k0 (Int.ofNat m)) := by cases hmx with | some hv => rw [int_of hv]
              subst this
              have hbd := run_bounds3 (P := P) (w := w) (len := n) (cap := c') (k0 := k0) hb.1.1 hb.1.2 (by omega) hl2 (hi_some hh1 rfl)
              by_cases hc : m = l
              · refine done_same (v' := .slice (some ⟨lc.blk, o', none⟩) (hh - l) (m - l)) p ?_ (.slice hloc (.inr (by show m - l = 0; omega)) (by show hh - l ≤ m - l; omega))
                simp only [Instr.sliceAt, Instr.slice, Sem.run_bind, run_underlying hu, Result.andThen_ok, hbd, run_sizeOf ht, Sem.run_pure]
                rw [if_pos hc]
              · refine done_same (v' := .slice (some ⟨lc.blk, o' + l * ti.size, none⟩) (hh - l) (m - l)) p ?_ (.slice hloc (.inl ?_) (by show hh - l ≤ m - l; omega))
                · simp only [Instr.sliceAt, Instr.slice, Sem.run_bind, run_underlying hu, Result.andThen_ok, hbd, run_sizeOf ht, Sem.run_pure]
                  rw [if_neg hc]
                  simp [add_eq]
                · show o' + l * ti.size = lc.sh + (o + l * ti.size)
                  rcases ho with rfl | rfl
                  · omega
                  · omega
            · cases h
      · cases h
    · cases h
  · cases h

end Go.Ev

set_option linter.unusedVariables false
set_option linter.unusedSimpArgs false
namespace Go.Ev
open Go.RowKit

variable {P : Program} {B0 : Base} {H : Hid} {s s' : St} {ρ : Ren} {G : Hp} {w : World} {nx : Nx}

theorem wrapF_eq (k : IntKind) (n : Int) : wrapF k n = k.wrap n := by
  cases k <;> try rfl
  cases n with
  | ofNat m =>
    show (Bool.rec (IntKind.i64.wrap (.ofNat m)) (.ofNat m) (Nat.blt m 9223372036854775808) : Int) = _
    rw [brec_ite]
    split
    · rename_i h
      have h : m < 9223372036854775808 := by simpa [Nat.blt_eq] using h
      rw [IntKind.wrap_i64, Int.ofNat_eq_natCast]
      omega
    · rfl
  | negSucc m =>
    show (Bool.rec (IntKind.i64.wrap (.negSucc m)) (.negSucc m) (Nat.blt m 9223372036854775808) : Int) = _
    rw [brec_ite]
    split
    · rename_i h
      have h : m < 9223372036854775808 := by simpa [Nat.blt_eq] using h
      rw [IntKind.wrap_i64, Int.negSucc_eq]
      omega
    · rfl

theorem eqI_eq (a b : Int) : eqI a b = (a == b) := by
  rw [Bool.eq_iff_iff]
  cases a <;> cases b <;> simp [eqI, Nat.beq_eq]
  omega

theorem ltI_eq (a b : Int) : ltI a b = decide (a < b) := by
  rw [Bool.eq_iff_iff]
  cases a <;> cases b <;> simp only [ltI, Nat.blt_eq, decide_eq_true_eq, Bool.false_eq_true, Int.ofNat_eq_natCast, Int.negSucc_eq, true_iff, false_iff] <;> omega

theorem eqL_eq : ∀ (a b : List UInt8), eqL a b = (a == b)
  | [], [] => rfl
  | [], _ :: _ => rfl
  | _ :: _, [] => rfl
  | x :: a, y :: b => by
    rw [eqL, eqL_eq a b, List.cons_beq_cons]
    congr 1
    rw [Bool.eq_iff_iff]
    simp [Nat.beq_eq, UInt8.toNat_inj]

theorem ltL_eq : ∀ (a b : List UInt8), ltL a b = Op.bytesLess a b
  | [], [] => rfl
  | [], _ :: _ => rfl
  | _ :: _, [] => rfl
  | x :: a, y :: b => by
    rw [ltL, Op.bytesLess, ltL_eq a b]
    congr 1
    · rw [Bool.eq_iff_iff]; simp [Nat.blt_eq, UInt8.lt_iff_toNat_lt]
    · congr 1
      rw [Bool.eq_iff_iff]; simp [Nat.beq_eq, UInt8.toNat_inj]

theorem run_pureRun {α : Type} {m : Sem α} {a : α} : pureRun P m = some a → ∀ w, m.run P w = .ok a w := by
  induction m with
  | pure b => intro h w; simp only [pureRun, Option.some.injEq] at h; subst h; rfl
  | program k ih => intro h w; simp only [pureRun] at h; simpa [Sem.run] using ih P h w
  | load m a k ih => intro h; simp [pureRun] at h
  | store m a v k ih => intro h; simp [pureRun] at h
  | new o k ih => intro h; simp [pureRun] at h
  | shape r k ih => intro h; simp [pureRun] at h
  | freeze a n k ih => intro h; simp [pureRun] at h
  | frozen a k ih => intro h; simp [pureRun] at h
  | getObj r k ih => intro h; simp [pureRun] at h
  | setObj r o k ih => intro h; simp [pureRun] at h
  | choose q k ih => intro h; simp [pureRun] at h
  | sys c k ih => intro h; simp [pureRun] at h
  | mark m k ih => intro h; simp [pureRun] at h
  | halt h => intro h; simp [pureRun] at h

/-- the operands can be looked at -/
def Opnds (o : Oper) : Prop := ∀ x ∈ o.op.operands, opndOk x = true

theorem gen_run {tm : Tr Value} {a : Act} {o : Oper} {v : Value} (h : gen P (evO tm) o = some v) (e : EnvR ρ tm a) (ho : Opnds o) (hs : ∀ cs b, o.op ≠ .select cs b) :
    (VR ρ v v ∧ ∀ w, (execOp a.eval o).run P w = .ok (.value v) w) ∨ (v = undef ∧ ∀ w, (execOp a.eval o).run P w = .ok .skip w) := by
  unfold gen at h
  split at h
  · rename_i hg
    have he : execOp (evO tm) o = execOp a.eval o := execOp_congr o hs fun x hx => by
      have h1 := List.all_eq_true.1 hg x (by simpa using hx)
      exact (ground_eq h1 (e.eval (ho x hx))).symm
    rw [he] at h
    split at h
    · rename_i v' hv'
      split at h
      · rename_i hgv
        cases h
        exact .inl ⟨ground_self hgv, run_pureRun hv'⟩
      · cases h
    · rename_i hv'
      cases h
      exact .inr ⟨rfl, run_pureRun hv'⟩
    · cases h
  · cases h

theorem s_gen {T : Tab} {tm : Tr Value} {a : Act} {o : Oper} (h : doGen T o tm s = .ok nx s') (e : EnvR ρ tm a) (ho : Opnds o) (hs : ∀ cs b, o.op ≠ .select cs b) (p : Pre B0 H s s' ρ G w) :
    Done T.prog B0 H s s' ρ G w nx (execOp a.eval o) := by
  obtain ⟨rfl, v, hv, rfl⟩ := okO_spec h
  rcases gen_run hv e ho hs with ⟨h1, h2⟩ | ⟨rfl, h2⟩
  · exact ⟨ρ, w, .value v, h2 w, .val h1, .refl p.sub p.sim⟩
  · exact ⟨ρ, w, .skip, h2 w, .skip, .refl p.sub p.sim⟩

theorem guard_int (op : BinOp) (t : TypeId) (x y : Operand) (k k' : IntKind) (a b : Int) : (eqGuard op t x y (.int k a) (.int k' b)).run P w = .ok () w := by
  unfold eqGuard; split <;> simp

set_option linter.unusedSimpArgs false in
theorem intF_run {op : BinOp} {k : IntKind} {a b : Int} {t : TypeId} {slow : Option Value} {v : Value} (h : intF op k a b slow = some v) :
    slow = some v ∨ (VR ρ v v ∧ ∀ w, (binOp op t (.int k a) (.int k b)).run P w = .ok v w) := by
  have hadd : ∀ a b : Int, Int.add a b = a + b := fun _ _ => rfl
  have hsub : ∀ a b : Int, Int.sub a b = a - b := fun _ _ => rfl
  have hmul : ∀ a b : Int, Int.mul a b = a * b := fun _ _ => rfl
  unfold intF at h
  split at h <;> first | (exact .inl h) | skip
  all_goals
    right
    cases h
    refine ⟨by constructor, fun w => ?_⟩
    simp [binOp, Op.intArith, Op.intCmp, wrapF_eq, eqI_eq, ltI_eq, hadd, hsub, hmul]
    try first | rfl | (rw [Bool.eq_iff_iff]; simp; done) | (rw [Bool.eq_iff_iff]; simp; omega)

theorem guard_else (op : BinOp) (t : TypeId) (x y : Operand) {a b : Value} (h : ∀ c, a ≠ .agg c) (h2 : a ≠ .nilIface) : (eqGuard op t x y a b).run P w = .ok () w := by
  cases a <;> first | exact absurd rfl h2 | exact absurd rfl (h _) | (unfold eqGuard; split <;> simp)

theorem strF_run {op : BinOp} {a b : ByteArray} {t : TypeId} {v : Value} (h : strF op a.data.toList b.data.toList = some v) :
    VR ρ v v ∧ ∀ w, (binOp op t (.string a) (.string b)).run P w = .ok v w := by
  unfold strF at h
  split at h
  · split at h
    · rename_i hle
      cases h
      refine ⟨.string _, fun w => ?_⟩
      simp only [Nat.ble_eq] at hle
      have hsz : a.size + b.size ≤ 4611686018427387904 := by simpa using hle
      simp only [binOp, Op.stringOp]
      rw [if_neg (by show ¬ ((a.size + b.size : Nat) : Int) > IntKind.i64.max; have : IntKind.i64.max = 9223372036854775807 := by decide
                     rw [this]; omega)]
      simp only [Sem.run_pure]
      congr 2
    · cases h
  all_goals first
    | (cases h; done)
    | (cases h
       refine ⟨.bool _, fun w => ?_⟩
       simp [binOp, Op.stringOp, eqL_eq, ltL_eq, ByteArray.toList_eq])

theorem maxDepth_succ : Op.maxDepth = 9999 + 1 := rfl

theorem isSliceT_spec {t : TypeId} (h : isSliceT (tiOf P t) = true) : ∃ e, P.underlying t = some (.slice e) := by
  unfold isSliceT at h
  split at h
  · rename_i e _ _ _ ht
    obtain ⟨_, _, hu, _⟩ := tiOf_spec ht
    exact ⟨e, hu⟩
  · cases h

theorem isPtrT_spec {t : TypeId} (h : isPtrT (tiOf P t) = true) : ∃ e, P.underlying t = some (.pointer e) := by
  unfold isPtrT at h
  split at h
  · rename_i e _ _ _ ht
    obtain ⟨_, _, hu, _⟩ := tiOf_spec ht
    exact ⟨e, hu⟩
  · cases h

theorem isMapT_spec {t : TypeId} (h : isMapT (tiOf P t) = true) : ∃ k e, P.underlying t = some (.map k e) := by
  unfold isMapT at h
  split at h
  · rename_i k e _ _ _ ht
    obtain ⟨_, _, hu, _⟩ := tiOf_spec ht
    exact ⟨k, e, hu⟩
  · cases h

theorem str_of {b : ByteArray} {v : Value} (h : VR ρ (.string b) v) : v = .string b := by cases h; rfl
theorem sliceNil_of {n c : Nat} {v : Value} (h : VR ρ (.slice none n c) v) : v = .slice none n c := by cases h; rfl
theorem ptrNil_of {v : Value} (h : VR ρ (.pointer none) v) : v = .pointer none := by cases h; rfl
theorem mapNil_of {v : Value} (h : VR ρ (.map none) v) : v = .map none := by cases h; rfl
theorem slice_of {q : Option Addr} {n c : Nat} {v : Value} (h : VR ρ (.slice q n c) v) : ∃ q' c', v = .slice q' n c' ∧ q'.isNone = q.isNone := by cases h <;> exact ⟨_, _, rfl, rfl⟩
theorem ptr_of {q : Option Addr} {v : Value} (h : VR ρ (.pointer q) v) : ∃ q', v = .pointer q' ∧ q'.isNone = q.isNone := by cases h <;> exact ⟨_, rfl, rfl⟩
theorem map_of {q : Option Nat} {v : Value} (h : VR ρ (.map q) v) : ∃ q', v = .map q' ∧ q'.isNone = q.isNone := by cases h <;> exact ⟨_, rfl, rfl⟩

theorem run_equal_slice {t e : TypeId} {q : Option Addr} {n c n2 c2 : Nat} (hu : P.underlying t = some (.slice e)) : (Op.equal t (.slice q n c) (.slice none n2 c2)).run P w = .ok q.isNone w := by
  have key : ∀ d, (Op.equalIn (d + 1) t (.slice q n c) (.slice none n2 c2)).run P w = .ok q.isNone w := by
    intro d
    simp only [Op.equalIn, Sem.run_bind, run_underlying hu, Result.andThen_ok]
    cases q <;> simp
  exact key 9999

theorem run_equal_ptr {t e : TypeId} {q : Option Addr} (hu : P.underlying t = some (.pointer e)) : (Op.equal t (.pointer q) (.pointer none)).run P w = .ok q.isNone w := by
  have key : ∀ d, (Op.equalIn (d + 1) t (.pointer q) (.pointer none)).run P w = .ok q.isNone w := by
    intro d
    simp only [Op.equalIn, Sem.run_bind, run_underlying hu, Result.andThen_ok]
    cases q <;> simp
  exact key 9999

theorem run_equal_map {t k e : TypeId} {q : Option Nat} (hu : P.underlying t = some (.map k e)) : (Op.equal t (.map q) (.map none)).run P w = .ok q.isNone w := by
  have key : ∀ d, (Op.equalIn (d + 1) t (.map q) (.map none)).run P w = .ok q.isNone w := by
    intro d
    simp only [Op.equalIn, Sem.run_bind, run_underlying hu, Result.andThen_ok]
    cases q <;> simp
  exact key 9999

theorem s_nilF {op : BinOp} {fits isNil : Bool} {t : TypeId} {x y : Operand} {x' y' : Value} (h : nilF op fits isNil s = .ok nx s') (p : Pre B0 H s s' ρ G w)
    (h2 : fits = true → ∀ w, (Op.equal t x' y').run P w = .ok isNil w) (h3 : ∀ c, x' ≠ .agg c) (h4 : x' ≠ .nilIface)
    (h5 : ∀ w, (binOp .eql t x' y').run P w = (do pure (.bool (← Op.equal t x' y')) : Sem Value).run P w) (h6 : ∀ w, (binOp .neq t x' y').run P w = (do pure (.bool (!(← Op.equal t x' y'))) : Sem Value).run P w) :
    Done P B0 H s s' ρ G w nx (semV (do eqGuard op t x y x' y'; binOp op t x' y')) := by
  obtain ⟨hf, h⟩ := brec_ok h
  have h2 := h2 hf
  split at h
  · obtain ⟨rfl, rfl⟩ := ok_inj h
    refine done_same p ?_ (.bool isNil)
    simp [guard_else _ _ _ _ h3 h4, h5, h2]
  · obtain ⟨rfl, rfl⟩ := ok_inj h
    refine done_same p ?_ (.bool _)
    simp [guard_else _ _ _ _ h3 h4, h6, h2]
  · cases h

theorem s_bin {T : Tab} {tm : Tr Value} {a : Act} {o : Oper} {op : BinOp} {t t2 : TypeId} {x y : Operand} (hop : o.op = .binOp op t x y t2) (h : doBin T o (tiOf T.prog t) op (evO tm x) (evO tm y) tm s = .ok nx s')
    (e : EnvR ρ tm a) (ho : Opnds o) (p : Pre B0 H s s' ρ G w) : Done T.prog B0 H s s' ρ G w nx (execOp a.eval o) := by
  have hs : ∀ cs b, o.op ≠ .select cs b := fun cs b => by rw [hop]; simp
  have hex : execOp a.eval o = semV (do eqGuard op t x y (a.eval x) (a.eval y); binOp op t (a.eval x) (a.eval y)) := by
    unfold execOp; rw [hop]
  have hx := e.eval (ho x (by rw [hop]; simp [Op.operands]))
  have hy := e.eval (ho y (by rw [hop]; simp [Op.operands]))
  unfold doBin at h
  split at h
  · rename_i k i hxe
    rw [hxe] at hx
    have hx' := int_of hx
    split at h
    · rename_i k' j hye
      rw [hye] at hy
      have hy' := int_of hy
      split at h
      · exact s_gen h e ho hs p
      · exact s_gen h e ho hs p
      · obtain ⟨hk, h9⟩ := brec_ok h
        clear h
        have hk : k = k' := by simpa [kindEq] using hk
        subst hk
        obtain ⟨rfl, v, hv, rfl⟩ := okO_spec h9
        rcases intF_run (P := T.prog) (ρ := ρ) (t := t) hv with hg | ⟨h1, h2⟩
        · rcases gen_run hg e ho hs with ⟨h1, h2⟩ | ⟨rfl, h2⟩
          · exact ⟨ρ, w, .value v, h2 w, .val h1, .refl p.sub p.sim⟩
          · exact ⟨ρ, w, .skip, h2 w, .skip, .refl p.sub p.sim⟩
        · rw [hex]
          refine done_same p ?_ h1
          rw [hx', hy']
          simp [guard_int, h2]
    · cases h
  · rename_i b hxe
    rw [hxe] at hx
    split at h
    · rename_i c hye
      rw [hye] at hy
      have hx' := str_of hx
      have hy' := str_of hy
      obtain ⟨rfl, v, hv, rfl⟩ := okO_spec h
      obtain ⟨h1, h2⟩ := strF_run (P := T.prog) (ρ := ρ) (t := t) hv
      rw [hex]
      refine done_same p ?_ h1
      rw [hx', hy']
      simp [guard_else, h2]
    · cases h
  · rename_i q n c hxe
    rw [hxe] at hx
    split at h
    · rename_i n2 c2 hye
      rw [hye] at hy
      have hy' := sliceNil_of hy
      obtain ⟨q', c', hx', hq⟩ := slice_of hx
      rw [hex, hy', hx']
      refine s_nilF h p (fun hf w => ?_) (by simp) (by simp) (fun w => by simp [binOp]) (fun w => by simp [binOp])
      obtain ⟨e', hu⟩ := isSliceT_spec hf
      rw [← hq]
      exact run_equal_slice hu
    · cases h
  · rename_i q hxe
    rw [hxe] at hx
    split at h
    · rename_i hye
      rw [hye] at hy
      have hy' := ptrNil_of hy
      obtain ⟨q', hx', hq⟩ := ptr_of hx
      rw [hex, hy', hx']
      refine s_nilF h p (fun hf w => ?_) (by simp) (by simp) (fun w => by simp [binOp]) (fun w => by simp [binOp])
      obtain ⟨e', hu⟩ := isPtrT_spec hf
      rw [← hq]
      exact run_equal_ptr hu
    · cases h
  · rename_i q hxe
    rw [hxe] at hx
    split at h
    · rename_i hye
      rw [hye] at hy
      have hy' := mapNil_of hy
      obtain ⟨q', hx', hq⟩ := map_of hx
      rw [hex, hy', hx']
      refine s_nilF h p (fun hf w => ?_) (by simp) (by simp) (fun w => by simp [binOp]) (fun w => by simp [binOp])
      obtain ⟨k', e', hu⟩ := isMapT_spec hf
      rw [← hq]
      exact run_equal_map hu
    · cases h
  · exact s_gen h e ho hs p

theorem s_convert {T : Tab} {tm : Tr Value} {a : Act} {o : Oper} {src dst : TypeId} {x : Operand} {k : IntKind} {sd : TypeDesc} (hop : o.op = .convert src dst x)
    (h : doConvert T o k (evO tm x) tm s = .ok nx s') (e : EnvR ρ tm a) (ho : Opnds o) (p : Pre B0 H s s' ρ G w)
    (hsd : T.prog.underlying src = some sd) (hdk : T.prog.underlying dst = some (.int k)) : Done T.prog B0 H s s' ρ G w nx (execOp a.eval o) := by
  have hs : ∀ cs b, o.op ≠ .select cs b := fun cs b => by rw [hop]; simp
  have hx := e.eval (ho x (by rw [hop]; simp [Op.operands]))
  have hex : execOp a.eval o = semV (convert src dst (a.eval x)) := by unfold execOp; rw [hop]
  unfold doConvert at h
  split at h
  · rename_i k0 n hxe
    rw [hxe] at hx
    obtain ⟨rfl, rfl⟩ := ok_inj h
    rw [hex, int_of hx]
    refine done_same p ?_ (.int _ _)
    simp only [convert, Sem.run_bind, run_underlying hsd, run_underlying hdk, Result.andThen_ok, wrapF_eq]
    cases sd <;> simp [Conv.intToInt]
  · exact s_gen h e ho hs p

end Go.Ev

set_option linter.unusedVariables false
set_option linter.unusedSimpArgs false
namespace Go.Ev
open Go.RowKit

variable {P : Program} {B0 : Base} {H : Hid} {s s' : St} {ρ : Ren} {G : Hp} {w : World} {nx : Nx}

theorem s_makeIface {t : TypeId} {x x' : Value} {d : TypeDesc} (h : doMakeIface t x s = .ok nx s') (hx : VR ρ x x') (p : Pre B0 H s s' ρ G w)
    (hu : P.underlying t = some d) (hd : ∀ ms, d ≠ .interface ms) : Done P B0 H s s' ρ G w nx (semV (Instr.makeInterface t x')) := by
  obtain ⟨rfl, rfl⟩ := ok_inj h
  refine done_same p ?_ (.iface hx)
  simp only [Instr.makeInterface, Sem.run_bind, run_underlying hu, Result.andThen_ok]
  cases d <;> first | exact absurd rfl (hd _) | rfl

theorem s_assert {asserted xt : TypeId} {z : Option Value} {ok : Bool} {x x' : Value} {ti : TI} (h : doAssert asserted z ok x s = .ok nx s') (hx : VR ρ x x') (p : Pre B0 H s s' ρ G w)
    (ht : tiOf P asserted = some ti) (hd : ∀ ms, ti.und ≠ .interface ms) (hz : ∀ v, z = some v → ti.zero = some v ∧ ground v = true) : Done P B0 H s s' ρ G w nx (semV (Instr.typeAssert x' xt asserted ok)) := by
  obtain ⟨i, _, hu, _⟩ := tiOf_spec ht
  have fails : ∀ (st dy : Option TypeId) (v : Value), z = some v → ok = true → nx = .val (.tuple #[v, .bool false]) → s' = s → 
      (Instr.typeAssert x' xt asserted ok).run P w = .ok (.tuple #[v, .bool false]) w → Done P B0 H s s' ρ G w nx (semV (Instr.typeAssert x' xt asserted ok)) := by
    intro _ _ v h1 h2 h3 h4 h5
    subst h3 h4
    exact done_same p h5 (.tuple (.cons (ground_self (hz v h1).2) (.cons (.bool false) .nil)))
  unfold doAssert at h
  split at h
  · rename_i t v
    cases hx with
    | iface hv =>
      rename_i v'
      cases hb : Nat.beq t asserted with
      | true =>
        rw [hb] at h
        obtain ⟨rfl, rfl⟩ := ok_inj h
        have hb : t = asserted := by simpa [Nat.beq_eq] using hb
        cases ok with
        | false =>
          refine done_same (v' := v') p ?_ hv
          simp only [Instr.typeAssert, Sem.run_bind, run_underlying hu, Result.andThen_ok]
          have := hd
          cases hq : ti.und <;> first | exact absurd hq (hd _) | simp [hb]
        | true =>
          refine done_same (v' := .tuple #[v', .bool true]) p ?_ (.tuple (.cons hv (.cons (.bool true) .nil)))
          simp only [Instr.typeAssert, Sem.run_bind, run_underlying hu, Result.andThen_ok]
          cases hq : ti.und <;> first | exact absurd hq (hd _) | simp [hb]
      | false =>
        rw [hb] at h
        obtain ⟨hok, h⟩ := brec_ok h
        have hb : t ≠ asserted := by intro e; rw [← Nat.beq_eq] at e; rw [e] at hb; cases hb
        cases z with
        | none => cases h
        | some zv =>
          obtain ⟨rfl, rfl⟩ := ok_inj h
          refine fails none none zv rfl hok rfl rfl ?_
          simp only [Instr.typeAssert, Sem.run_bind, run_underlying hu, Result.andThen_ok]
          cases hq : ti.und <;> first | exact absurd hq (hd _) | simp [hb, hok, run_zeroValue ht (hz zv rfl).1]
  · cases hx
    obtain ⟨hok, h⟩ := brec_ok h
    cases z with
    | none => cases h
    | some zv =>
      obtain ⟨rfl, rfl⟩ := ok_inj h
      refine fails none none zv rfl hok rfl rfl ?_
      simp only [Instr.typeAssert, Sem.run_bind, run_underlying hu, Result.andThen_ok]
      cases hq : ti.und <;> first | exact absurd hq (hd _) | simp [hok, run_zeroValue ht (hz zv rfl).1]
  · cases h

theorem s_makeFunc {fn : Fn} {l l' c c' : List Value} (h : doMakeFunc fn l c s = .ok nx s') (hl : VRs ρ l l') (hc : VRs ρ c c') (hf : ∀ k, fn ≠ .yield k) (p : Pre B0 H s s' ρ G w) :
    Done P B0 H s s' ρ G w nx (semV (Instr.makeFunc fn ⟨l'⟩ ⟨c'⟩)) := by
  obtain ⟨rfl, rfl⟩ := ok_inj h
  exact done_same p rfl (.func hf hl hc)

theorem s_nilCheck {x x' : Value} {o : Oper} {a : Act} {y : Operand} (hop : o.op = .nilCheck y) (hy : a.eval y = x') (h : doNilCheck x s = .ok nx s') (hx : VR ρ x x') (p : Pre B0 H s s' ρ G w) :
    Done P B0 H s s' ρ G w nx (execOp a.eval o) := by
  unfold doNilCheck at h
  split at h
  · cases h
  · cases h
  · cases h
  · cases h
  · rename_i h1 h2 h3 h4
    obtain ⟨rfl, rfl⟩ := ok_inj h
    refine ⟨ρ, w, .value x', ?_, .val hx, .refl p.sub p.sim⟩
    unfold execOp
    rw [hop]
    simp only [hy]
    cases hx <;> first | (exact absurd rfl h1) | (exact absurd rfl h2) | (exact absurd rfl h3) | rfl | skip
    rename_i fn a1 a2 c1 c2 hf _ _
    cases fn <;> first | rfl | exact absurd rfl (h4 _ _ _)

/- maps -/
theorem EsR.length : ∀ {l l' : List MapEntry}, EsR ρ l l' → l.length = l'.length
  | _, _, .nil => rfl
  | _, _, .cons _ _ _ t => by simp [EsR.length t]

theorem EsR.append : ∀ {a a' : List MapEntry}, EsR ρ a a' → ∀ {b b' : List MapEntry}, EsR ρ b b' → EsR ρ (a ++ b) (a' ++ b')
  | _, _, .nil, _, _, h => h
  | _, _, .cons hk hv hb t, _, _, k => .cons hk hv hb (EsR.append t k)

theorem keyFits_ground {d : TypeDesc} {k k' : Value} (h : keyFits d k = true) (r : VR ρ k k') : k' = k := by
  unfold keyFits at h
  split at h <;> first | exact absurd h (by decide) | (cases r; rfl)

theorem bytes_eq (a c : ByteArray) : (a == c) = (a.data.toList == c.data.toList) := by
  cases a with | mk x =>
  cases c with | mk y =>
  show (x == y) = _
  rw [Bool.eq_iff_iff]
  simp only [beq_iff_eq]
  exact ⟨fun e => by rw [e], fun e => Array.toList_inj.1 e⟩

theorem sameNow_eq {d : TypeDesc} {k e : Value} {b : Bool} (hf : keyFits d k = true) (h : sameKey k e = some b) {e' : Value} (r : VR ρ e e') :
    Instr.sameNow d k e' = some b ∧ (b = true → e' = k) := by
  unfold sameKey at h
  split at h
  · rename_i k1 a k2 c
    split at h
    · rename_i hk
      have hk : k1 = k2 := by simpa [kindEq] using hk
      subst hk
      simp only [Option.some.injEq] at h
      cases r
      cases d <;> simp [keyFits] at hf
      simp [Instr.sameNow, ← h, eqI_eq]
      exact fun e => e.symm
    · cases h
  · rename_i a c
    simp only [Option.some.injEq] at h
    cases r
    cases d <;> simp [keyFits] at hf
    have h1 : (a == c) = (a.data.toList == c.data.toList) := bytes_eq a c
    simp only [Instr.sameNow, h1, ← eqL_eq, h]
    refine ⟨trivial, fun hb => ?_⟩
    rw [hb, eqL_eq] at h
    congr 1
    exact (ByteArray.ext (Array.toList_inj.1 (beq_iff_eq.1 h))).symm
  · rename_i a c
    simp only [Option.some.injEq] at h
    cases r
    cases d <;> simp [keyFits] at hf
    simp [Instr.sameNow, ← h]
    exact fun e => e.symm
  · cases h

/-- what is found -/
inductive FoundR (ρ : Ren) (k : Value) (es es' : List MapEntry) (i0 : Nat) : Option (Nat × Value) → Option (Nat × Value) → Prop
  | none : FoundR ρ k es es' i0 none none
  | some {i : Nat} {v v' : Value} (hv : VR ρ v v') (hi : ∃ e', es'[i - i0]? = some e' ∧ e'.key = k) (hlt : i0 ≤ i ∧ i < i0 + es.length) : FoundR ρ k es es' i0 (some (i, v)) (some (i, v'))

theorem findNow_eq {d : TypeDesc} {k : Value} (hf : keyFits d k = true) : ∀ {es es' : List MapEntry}, EsR ρ es es' → ∀ (i : Nat) {r : Option (Nat × Value)}, findK k es i = some r →
    ∃ r', Instr.findNow d k es' i = some r' ∧ FoundR ρ k es es' i r r'
  | _, _, .nil, i, r, h => by simp only [findK, Option.some.injEq] at h; subst h; exact ⟨none, rfl, .none⟩
  | _, _, .cons (e := e) (e' := e') (l := l) (l' := l') hk hv hb t, i, r, h => by
    simp only [findK] at h
    split at h
    · rename_i hs
      obtain ⟨h1, h2⟩ := sameNow_eq hf hs hk
      cases h
      refine ⟨some (i, e'.val), by simp [Instr.findNow, h1], .some hv ⟨e', by simp, h2 rfl⟩ (by simp)⟩
    · rename_i hs
      obtain ⟨h1, _⟩ := sameNow_eq hf hs hk
      obtain ⟨r', h3, h4⟩ := findNow_eq hf t (i + 1) h
      refine ⟨r', by simp [Instr.findNow, h1, h3], ?_⟩
      cases h4 with
      | none => exact .none
      | some hv' hi hlt =>
        rename_i j v v'
        obtain ⟨x, hx, hkx⟩ := hi
        refine .some hv' ⟨x, ?_, hkx⟩ (by simp; omega)
        rw [show j - i = (j - (i + 1)) + 1 by omega]
        simpa using hx
    · cases h

theorem run_findKey {kt : TypeId} {d : TypeDesc} {k : Value} {es : List MapEntry} {r : Option (Nat × Value)} (hu : P.underlying kt = some d) (h : Instr.findNow d k es 0 = some r) :
    (Instr.findKey kt k es).run P w = .ok r w := by
  simp [Instr.findKey, run_underlying hu, h]

theorem run_checkKey {b : Bool} {kt : TypeId} {d : TypeDesc} {k : Value} (hu : P.underlying kt = some d) (hf : keyFits d k = true) : (Instr.checkKey b 10000 kt k).run P w = .ok () w := by
  have key : ∀ n, (Instr.checkKey b (n + 1) kt k).run P w = .ok () w := by
    intro n
    simp only [Instr.checkKey, Sem.run_bind, run_underlying hu, Result.andThen_ok]
    unfold keyFits at hf
    split at hf <;> first | rfl | cases hf
  exact key 9999

theorem map_of_vis {r : Nat} {es : List MapEntry} {c : Nat} (p : Pre B0 H s s' ρ G w) (hv : St.vis H s r = some (.map es c)) {l : Loc} (hl : ρ r = some l) :
    ∃ es' : Array MapEntry, w.heap[l.blk]? = some (.map es' c) ∧ EsR ρ es es'.toList := by
  obtain ⟨x, hx, es', rfl, h⟩ := p.sim.loc (p.sub r _ hv) hl
  exact ⟨es', hx, h⟩

theorem run_getMap {r : Nat} {es : Array MapEntry} {c : Nat} (h : w.heap[r]? = some (.map es c)) : (getObj r).run P w = .ok (.map es c) w := by
  show (Sem.getObj r .pure).run P w = _
  simp [Sem.run, h]

theorem s_lookup {xt kt et : TypeId} {kd : TypeDesc} {te : TI} {z : Value} {ok : Bool} {m m' k k' : Value} (h : doLookup H kd z ok m k s = .ok nx s') (hm : VR ρ m m') (hk : VR ρ k k') (p : Pre B0 H s s' ρ G w)
    (hu : P.underlying xt = some (.map kt et)) (hku : P.underlying kt = some kd) (he : tiOf P et = some te) (hz : te.zero = some z) (hg : ground z = true) :
    Done P B0 H s s' ρ G w nx (semV (Instr.lookup xt m' k' ok)) := by
  unfold doLookup at h
  obtain ⟨hf, h⟩ := brec_ok h
  have := keyFits_ground hf hk
  subst this
  split at h
  · -- nil
    cases hm
    have := ok_inj h
    obtain ⟨rfl, rfl⟩ := this
    have hrun : (Instr.lookup xt (.map none) k' ok).run P w = .ok (if ok = true then .tuple #[z, .bool false] else z) w := by
      simp only [Instr.lookup, Sem.run_bind, run_underlying hu, Result.andThen_ok, Sem.run_pure, run_checkKey hku hf]
      rw [run_findKey hku (by rfl : Instr.findNow kd k' [] 0 = some none)]
      simp only [Result.andThen_ok, Sem.run_bind, run_zeroValue he hz, Sem.run_pure]
    cases ok
    · exact done_same p hrun (ground_self hg)
    · exact done_same p hrun (.tuple (.cons (ground_self hg) (.cons (.bool false) .nil)))
  · rename_i r
    cases hm with
    | map hl =>
      rename_i l
      split at h
      · rename_i es c hv
        obtain ⟨es', h1, h2⟩ := map_of_vis p hv hl
        split at h
        · rename_i j v hfk
          have := ok_inj h
          obtain ⟨rfl, rfl⟩ := this
          obtain ⟨r', h3, h4⟩ := findNow_eq hf h2 0 hfk
          cases h4 with
          | some hv' hi hlt =>
            rename_i v'
            have hrun : (Instr.lookup xt (.map (some l.blk)) k' ok).run P w = .ok (if ok = true then .tuple #[v', .bool true] else v') w := by
              simp only [Instr.lookup, Sem.run_bind, run_underlying hu, Result.andThen_ok, Sem.run_pure, run_checkKey hku hf, run_getMap h1]
              rw [run_findKey hku h3]
              cases ok <;> simp
            cases ok
            · exact done_same p hrun hv'
            · exact done_same p hrun (.tuple (.cons hv' (.cons (.bool true) .nil)))
        · rename_i hfk
          have := ok_inj h
          obtain ⟨rfl, rfl⟩ := this
          obtain ⟨r', h3, h4⟩ := findNow_eq hf h2 0 hfk
          cases h4
          have hrun : (Instr.lookup xt (.map (some l.blk)) k' ok).run P w = .ok (if ok = true then .tuple #[z, .bool false] else z) w := by
            simp only [Instr.lookup, Sem.run_bind, run_underlying hu, Result.andThen_ok, Sem.run_pure, run_checkKey hku hf, run_getMap h1]
            rw [run_findKey hku h3]
            simp only [Result.andThen_ok, Sem.run_bind, run_zeroValue he hz, Sem.run_pure]
          cases ok
          · exact done_same p hrun (ground_self hg)
          · exact done_same p hrun (.tuple (.cons (ground_self hg) (.cons (.bool false) .nil)))
        · cases h
      · cases h
  · cases h

end Go.Ev

set_option linter.unusedVariables false
set_option linter.unusedSimpArgs false
namespace Go.Ev
open Go.RowKit

variable {P : Program} {B0 : Base} {H : Hid} {s s' : St} {ρ : Ren} {G : Hp} {w : World} {nx : Nx}

theorem run_setMap {r : Nat} {es : Array MapEntry} {c : Nat} {o : Obj} (h : w.heap[r]? = some (.map es c)) : (Go.setObj r o).run P w = .ok () { w with heap := w.heap.setIfInBounds r o } := by
  show (Sem.setObj r o (.pure ())).run P w = _
  simp [Sem.run, h]

theorem one_setObj {r : Nat} {o x : Obj} (h : w.heap[r]? = some x) : One r w { w with heap := w.heap.setIfInBounds r o } ∧ ({ w with heap := w.heap.setIfInBounds r o } : World).heap[r]? = some o := by
  have hr : r < w.heap.size := (Array.getElem?_eq_some_iff.1 h).1
  refine ⟨⟨rfl, rfl, rfl, by simp, fun j hj => ?_⟩, ?_⟩
  · simp only [Array.getElem?_setIfInBounds]; rw [if_neg (by omega)]
  · simp only [Array.getElem?_setIfInBounds]; rw [if_pos trivial, if_pos hr]

theorem run_stays {d : TypeDesc} {k : Value} (hf : keyFits d k = true) : (Instr.keyThatStays k k).run P w = .ok k w := by
  have : Instr.sameBits 10000 k k = true := by
    unfold keyFits at hf
    split at hf <;> first | exact absurd hf (by decide) | simp [Instr.sameBits, bytes_eq]
  simp [Instr.keyThatStays, this]

theorem EsR.mod {k v v' : Value} (hk : VR ρ k k) (hv : VR ρ v v') : ∀ {l l' : List MapEntry}, EsR ρ l l' → ∀ i, EsR ρ (modE i (fun e => { e with key := k, val := v }) l) (l'.modify i (fun e => { e with key := k, val := v' }))
  | _, _, .nil, i => by simp [modE]; exact .nil
  | _, _, .cons a b c t, 0 => by simp [modE]; exact .cons hk hv c t
  | _, _, .cons a b c t, i + 1 => by simp [modE]; exact .cons a b c (EsR.mod hk hv t i)

theorem EsR.del : ∀ {l l' : List MapEntry}, EsR ρ l l' → ∀ i, EsR ρ (delE i l) (l'.eraseIdx i)
  | _, _, .nil, i => by simp [delE]; exact .nil
  | _, _, .cons a b c t, 0 => by simp [delE]; exact t
  | _, _, .cons a b c t, i + 1 => by simp [delE]; exact .cons a b c (EsR.del t i)

theorem s_update {mt kt et : TypeId} {kd : TypeDesc} {m m' k k' v v' : Value} (h : doUpdate H kd m k v s = .ok nx s') (hm : VR ρ m m') (hk : VR ρ k k') (hv : VR ρ v v') (p : Pre B0 H s s' ρ G w)
    (hu : P.underlying mt = some (.map kt et)) (hku : P.underlying kt = some kd) : Done P B0 H s s' ρ G w nx (semU (Instr.mapUpdate mt m' k' v')) := by
  unfold doUpdate at h
  obtain ⟨hf, h⟩ := brec_ok h
  have := keyFits_ground hf hk
  subst this
  split at h
  · rename_i r
    cases hm with
    | map hl =>
      rename_i l
      split at h
      · rename_i es c hvis
        obtain ⟨es', h1, h2⟩ := map_of_vis p hvis hl
        split at h
        · rename_i j u hfk
          obtain ⟨rfl, rfl⟩ := ok_inj h
          obtain ⟨r', h3, h4⟩ := findNow_eq hf h2 0 hfk
          cases h4 with
          | some hv' hi hlt =>
            rename_i u'
            obtain ⟨e', he1, he2⟩ := hi
            rw [Nat.sub_zero, Array.getElem?_toList] at he1
            obtain ⟨ho1, ho2⟩ := one_setObj (o := .map (es'.modify j fun e => { e with key := k', val := v' }) c) h1
            refine done_skip (ρ' := ρ) (w' := { w with heap := w.heap.setIfInBounds l.blk (.map (es'.modify j fun e => { e with key := k', val := v' }) c) }) ?_ (Post.set' p hvis hl ho1 ho2 ?_)
            · simp only [Instr.mapUpdate, Sem.run_bind, run_underlying hu, Result.andThen_ok, run_getMap h1, run_checkKey hku hf, run_findKey hku h3, he1, Option.map_some, Option.getD_some, he2, run_stays hf]
              exact run_setMap h1
            · refine ⟨_, rfl, ?_⟩
              rw [Array.toList_modify]
              exact EsR.mod hk hv h2 j
        · rename_i hfk
          obtain ⟨rfl, rfl⟩ := ok_inj h
          obtain ⟨r', h3, h4⟩ := findNow_eq hf h2 0 hfk
          cases h4
          obtain ⟨ho1, ho2⟩ := one_setObj (o := .map (es'.push { key := k', val := v', born := c }) (c + 1)) h1
          refine done_skip (ρ' := ρ) (w' := { w with heap := w.heap.setIfInBounds l.blk (.map (es'.push { key := k', val := v', born := c }) (c + 1)) }) ?_ (Post.set' p hvis hl ho1 ho2 ?_)
          · simp only [Instr.mapUpdate, Sem.run_bind, run_underlying hu, Result.andThen_ok, run_getMap h1, run_checkKey hku hf, run_findKey hku h3]
            exact run_setMap h1
          · refine ⟨_, rfl, ?_⟩
            rw [Array.toList_push]
            exact h2.append (.cons hk hv rfl .nil)
        · cases h
      · cases h
  · cases h

theorem s_delete {mt kt et t : TypeId} {ts : List TypeId} {kd : TypeDesc} {m m' k k' : Value} (h : doDelete H kd m k s = .ok nx s') (hm : VR ρ m m') (hk : VR ρ k k') (p : Pre B0 H s s' ρ G w)
    (hu : P.underlying mt = some (.map kt et)) (hku : P.underlying kt = some kd) : Done P B0 H s s' ρ G w nx (semV (Builtin.delete_ ⟨mt :: ts⟩ t ⟨[m', k']⟩)) := by
  unfold doDelete at h
  obtain ⟨hf, h⟩ := brec_ok h
  have := keyFits_ground hf hk
  subst this
  split at h
  · cases hm
    obtain ⟨rfl, rfl⟩ := ok_inj h
    refine done_same p ?_ (.tuple .nil)
    simp [Builtin.delete_, run_underlying hu, run_checkKey hku hf]
  · rename_i r
    cases hm with
    | map hl =>
      rename_i l
      split at h
      · rename_i es c hvis
        obtain ⟨es', h1, h2⟩ := map_of_vis p hvis hl
        split at h
        · rename_i j u hfk
          obtain ⟨rfl, rfl⟩ := ok_inj h
          obtain ⟨r', h3, h4⟩ := findNow_eq hf h2 0 hfk
          cases h4 with
          | some hv' hi hlt =>
            rename_i u'
            obtain ⟨ho1, ho2⟩ := one_setObj (o := .map (es'.eraseIdxIfInBounds j) c) h1
            refine done_post (ρ' := ρ) (w' := { w with heap := w.heap.setIfInBounds l.blk (.map (es'.eraseIdxIfInBounds j) c) }) (v' := .tuple #[]) ?_ (.tuple .nil) (Post.set' p hvis hl ho1 ho2 ?_)
            · simp [Builtin.delete_, run_underlying hu, run_checkKey hku hf, run_getMap h1, run_findKey hku h3, run_setMap h1]
            · refine ⟨_, rfl, ?_⟩
              rw [Array.toList_eraseIdxIfInBounds]
              exact EsR.del h2 j
        · rename_i hfk
          obtain ⟨rfl, rfl⟩ := ok_inj h
          obtain ⟨r', h3, h4⟩ := findNow_eq hf h2 0 hfk
          cases h4
          obtain ⟨ho1, ho2⟩ := one_setObj (o := .map es' c) h1
          refine done_post (ρ' := ρ) (w' := { w with heap := w.heap.setIfInBounds l.blk (.map es' c) }) (v' := .tuple #[]) ?_ (.tuple .nil) (Post.set' p hvis hl ho1 ho2 ?_)
          · simp [Builtin.delete_, run_underlying hu, run_checkKey hku hf, run_getMap h1, run_findKey hku h3, run_setMap h1]
          · exact ⟨_, rfl, h2⟩
        · cases h
      · cases h
  · cases h

theorem s_makeMap {t : TypeId} (h : (R.ok (.val (.map (some s.next))) (newObj s (.map [] 0)) : R Nx) = .ok nx s') (p : Pre B0 H s s' ρ G w) :
    Done P B0 H s s' ρ G w nx (semV (Instr.makeMap t none)) := by
  obtain ⟨rfl, rfl⟩ := ok_inj h
  refine done_post (v' := .map (some w.heap.size)) ?_ (.map (l := ⟨w.heap.size, 0, 0⟩) Ren.put_same) (Post.new' (obj := .map #[] 0) 0 p ⟨_, rfl, .nil⟩)
  simp [Instr.makeMap]

theorem s_len {t t2 : TypeId} {x x' : Value} (h : doLen H (tiOf P t) x s = .ok nx s') (hx : VR ρ x x') (p : Pre B0 H s s' ρ G w) :
    Done P B0 H s s' ρ G w nx (semV (Builtin.len_ ⟨[t]⟩ t2 ⟨[x']⟩)) := by
  unfold doLen at h
  split at h
  · obtain ⟨hf, h⟩ := brec_ok h
    obtain ⟨rfl, rfl⟩ := ok_inj h
    obtain ⟨e, hu⟩ := isSliceT_spec hf
    cases hx <;> (refine done_same p ?_ (.int _ _); simp [Builtin.len_, run_underlying hu, goInt])
  · rename_i b
    split at h
    · rename_i ht
      obtain ⟨_, _, hu, _⟩ := tiOf_spec ht
      obtain ⟨rfl, rfl⟩ := ok_inj h
      cases hx
      refine done_same p ?_ (.int _ _)
      simp [Builtin.len_, run_underlying hu, goInt]
    · cases h
  · obtain ⟨hf, h⟩ := brec_ok h
    obtain ⟨rfl, rfl⟩ := ok_inj h
    obtain ⟨k, e, hu⟩ := isMapT_spec hf
    cases hx
    refine done_same p ?_ (.int _ _)
    simp [Builtin.len_, run_underlying hu, goInt]
  · rename_i r
    split at h
    · rename_i es c hvis
      obtain ⟨hf, h⟩ := brec_ok h
      obtain ⟨rfl, rfl⟩ := ok_inj h
      obtain ⟨k, e, hu⟩ := isMapT_spec hf
      cases hx with
      | map hl =>
        rename_i l
        obtain ⟨es', h1, h2⟩ := map_of_vis p hvis hl
        refine done_same p ?_ (.int _ _)
        have := h2.length
        simp [Builtin.len_, run_underlying hu, goInt, run_getMap h1, this]
    · cases h
  · cases h

/- rows of zeros -/
theorem repl_length (z : List Value) : ∀ n, (repl z n).length = n * z.length
  | 0 => by simp [repl]
  | n + 1 => by simp [repl, repl_length z n, Nat.add_mul]; omega

theorem repl_get (z : List Value) : ∀ (n i : Nat), i < n * z.length → (repl z n)[i]? = z[i % z.length]?
  | 0, i, h => by simp at h
  | n + 1, i, h => by
    rw [Nat.add_mul] at h
    simp only [repl]
    by_cases e : i < z.length
    · rw [List.getElem?_append_left e, Nat.mod_eq_of_lt e]
    · rw [List.getElem?_append_right (by omega), repl_get z n (i - z.length) (by omega)]
      rw [← Nat.mod_eq_sub_mod (by omega)]

theorem zeros_eq (z : Array Value) (n sz : Nat) (hz : z.size = sz) : ((Array.range (n * sz)).map (z[· % z.size]!)).toList = repl z.toList n := by
  apply List.ext_getElem?
  intro i
  by_cases h : i < n * sz
  · rw [repl_get _ _ _ (by rw [Array.length_toList, hz]; exact h)]
    have hpos : 0 < sz := by
      rcases Nat.eq_zero_or_pos sz with e | e
      · subst e; simp at h
      · exact e
    have hm : i % z.size < z.size := Nat.mod_lt _ (by omega)
    rw [Array.getElem?_toList, Array.length_toList, Array.getElem?_toList, Array.getElem?_map, Array.getElem?_range, if_pos h]
    simp [hm]
  · rw [List.getElem?_eq_none (by simp; omega), List.getElem?_eq_none (by rw [repl_length, Array.length_toList, hz]; omega)]

theorem zeros_nil (n sz : Nat) (h : n * sz = 0) : ((Array.range (n * sz)).map ((#[] : Array Value)[· % 0]!)).toList = [] := by
  rw [h]; simp

theorem vcells_cells (v : Value) : vcells v = v.cells.toList := by cases v <;> rfl

theorem VRs.repl {z z' : List Value} (h : VRs ρ z z') : ∀ n, VRs ρ (repl z n) (repl z' n)
  | 0 => .nil
  | n + 1 => h.append (VRs.repl h n)

theorem bytesOf_eq {t : TypeId} {i : TypeInfo} (h : P.info? t = some i) : P.bytesOf t = i.bytes := by
  simp [Program.bytesOf, h]

theorem s_makeSlice {t e : TypeId} {ti : TI} {z : Value} {l l' c c' : Value} (h : doMakeSlice e (vcells z) (P.bytesOf e) l c s = .ok nx s') (hl : VR ρ l l') (hc : VR ρ c c') (p : Pre B0 H s s' ρ G w)
    (hu : P.underlying t = some (.slice e)) (ht : tiOf P e = some ti) (hz : ti.zero = some z) (hg : ground z = true) (hsz : (vcells z).length = ti.size) :
    Done P B0 H s s' ρ G w nx (semV (Instr.makeSlice t l' c')) := by
  unfold doMakeSlice at h
  split at h
  · rename_i k n
    split at h
    · rename_i k2 m
      obtain ⟨hb, h⟩ := brec_ok h
      obtain ⟨rfl, rfl⟩ := ok_inj h
      simp only [Bool.and_eq_true, Nat.ble_eq] at hb
      obtain ⟨hnm, hbig⟩ := hb
      have := int_of hl; subst this
      have := int_of hc; subst this
      obtain ⟨i, hi, _, hs1, _, _⟩ := tiOf_spec ht
      have hby := bytesOf_eq hi
      rw [hby] at hbig
      have hm : m ≤ 4294967296 := by
        have : m * 1 ≤ m * (i.bytes + 1) := Nat.mul_le_mul_left _ (by omega)
        omega
      have hmb : i.bytes * m ≤ 4294967296 := by
        have : m * i.bytes ≤ m * (i.bytes + 1) := Nat.mul_le_mul_left _ (by omega)
        rw [Nat.mul_comm]; omega
      have w1 : IntKind.i64.wrap (Int.ofNat m) = (m : Int) := by rw [IntKind.wrap_i64, Int.ofNat_eq_natCast]; omega
      have w2 : IntKind.i64.wrap (Int.ofNat n) = (n : Int) := by rw [IntKind.wrap_i64, Int.ofNat_eq_natCast]; omega
      have hcells : z.cells.size = ti.size := by rw [← Array.length_toList, ← vcells_cells]; exact hsz
      -- the cells
      have hrow : ∀ C : Array Value, C.toList = repl z.cells.toList m → (newRow e C).run P w = .ok ⟨w.heap.size, 0, none⟩ { w with heap := w.heap.push (.cells C e) } := fun C _ => run_newRow
      have hC : ∃ C : Array Value, C.toList = repl (vcells z) m ∧ (Instr.makeSlice t (.int k (Int.ofNat n)) (.int k2 (Int.ofNat m))).run P w = .ok (.slice (some ⟨w.heap.size, 0, none⟩) n m) { w with heap := w.heap.push (.cells C e) } := by
        have hfalse : ¬ ((decide ((m : Int) < 0) || decide ((i.bytes : Int) * (m : Int) > 2 ^ 48) || decide ((n : Int) < 0) || decide ((n : Int) > (m : Int))) = true) := by
          have h2 : (i.bytes : Int) * (m : Int) = ((i.bytes * m : Nat) : Int) := by simp
          simp only [h2, Bool.or_eq_true, decide_eq_true_eq]
          have : (2 : Int) ^ 48 = 281474976710656 := by decide
          rw [this]
          omega
        by_cases hzero : m * ti.size = 0
        · refine ⟨((Array.range (m * ti.size)).map ((#[] : Array Value)[· % 0]!)), ?_, ?_⟩
          · rw [zeros_nil _ _ hzero]
            symm
            apply List.eq_nil_of_length_eq_zero
            rw [repl_length, hsz]; exact hzero
          · simp only [Instr.makeSlice, Sem.run_bind, run_underlying hu, Result.andThen_ok, asInt, asIntOf, Sem.run_pure, run_typeInfo hi, w1, w2]
            rw [if_neg hfalse]
            simp only [Sem.run_pure, Sem.run_bind, Result.andThen_ok, run_askRoom, run_sizeOf ht, Int.toNat_natCast, hzero, if_true, run_newRow]
            rfl
        · refine ⟨((Array.range (m * ti.size)).map (z.cells[· % z.cells.size]!)), ?_, ?_⟩
          · rw [zeros_eq z.cells m ti.size hcells, vcells_cells]
          · simp only [Instr.makeSlice, Sem.run_bind, run_underlying hu, Result.andThen_ok, asInt, asIntOf, Sem.run_pure, run_typeInfo hi, w1, w2]
            rw [if_neg hfalse]
            simp only [Sem.run_pure, Sem.run_bind, Result.andThen_ok, run_askRoom, run_sizeOf ht, Int.toNat_natCast, hzero, if_false, run_zeroValue ht hz, run_newRow]
      obtain ⟨C, hC1, hC2⟩ := hC
      have hsize : C.size = m * ti.size := by rw [← Array.length_toList, hC1, repl_length, hsz]
      refine done_post hC2 (.slice (l := ⟨w.heap.size, 0, C.size⟩) Ren.put_same (.inl rfl) hnm) (Post.new' (obj := .cells C e) C.size p ?_)
      have hgz : ∀ {ρ : Ren}, VRs ρ (vcells z) (vcells z) := by
        intro ρ
        have := Value.cells_toList (ground_self (ρ := ρ) hg)
        rw [← vcells_cells] at this
        exact this
      exact objR_trOf (VRs.repl hgz m) (by rw [repl_length]) ⟨[], by rw [hC1]; simp⟩ rfl rfl
    · cases h
  · cases h

end Go.Ev
