/-
  THE ABSTRACT WALK, definitions: data trees, slot values, and an abstract weakest precondition over the model's code.
-/
import Derived.Orders
import Derived.Still
import Derived.Below
import Derived.KernelRfl
set_option linter.unusedVariables false
set_option linter.unusedSimpArgs false
namespace Go.Proofs.Ytfeepndphaboeaa.Ab
open Go

/-- nil, or a slice that is only read -/
inductive SK where
  | nil | ro
  deriving DecidableEq

/-- data: what is never written again -/
inductive D where
  | bool (b : Bool)
  | int (k : IntKind) (n : Int)
  | str (s : List UInt8)
  | agg (cs : List D)
  | sl (k : SK) (sz : Nat) (L : List D)
  | fn (f : Fn)
  | nilfn
  | iface (t : TypeId) (x : D)
  | nilif
  | nilptr

/-- a number fits its kind -/
def wfI (k : IntKind) (n : Int) : Bool := decide (k.min ≤ n) && decide (n ≤ k.max)

def D.cells : D → List D
  | .agg cs => cs
  | x => [x]

mutual
def D.Wf : D → Prop
  | .int k n => wfI k n = true
  | .str s => s.length ≤ maxLen
  | .agg cs => D.WfL cs
  | .sl k sz L => L.length ≤ maxLen ∧ (k = .nil → L = []) ∧ (∀ x ∈ L, x.cells.length = sz) ∧ D.WfL L
  | .iface _ x => x.Wf
  | _ => True
def D.WfL : List D → Prop
  | [] => True
  | x :: l => x.Wf ∧ D.WfL l
end

/-- what a slot, or a cell of a variable in memory, holds -/
inductive SV where
  | d (x : D)
  | own (sz : Nat) (L : List D)
  | full (sz : Nat) (L : List D)
  | ref (cs : List SV) (off : Nat)
  | dptr (x : D) (off : Nat)
  | clo (f : Fn) (first cap : List SV)
  | tup (vs : List SV)
  | undef

def demote : SV → SV
  | .own sz L => .d (.sl .ro sz L)
  | x => x

/-- a slot: a value, or (known from the text) a pointer to a variable of this call, a closure, several results -/
inductive Slot where
  | v (x : SV)
  | p (b off : Nat)
  | c (f : Fn) (first cap : List Slot)
  | t (vs : List SV)

def Slot.demote : Slot → Slot
  | .v x => .v (Ab.demote x)
  | .t vs => .t (vs.map Ab.demote)
  | s => s

inductive Box where
  | none
  | cells (cs : List SV)
  | one (s : Slot)

structure Env where
  slots : List Slot
  boxes : List Box

def ofScal : Value → Option D
  | .bool b => some (.bool b)
  | .int k n => bif wfI k n then some (.int k n) else none
  | .string s => bif Nat.ble s.size maxLen then some (.str s.data.toList) else none
  | .slice none 0 0 => some (.sl .nil 0 [])
  | .pointer none => some .nilptr
  | .nilFunc => some .nilfn
  | .nilIface => some .nilif
  | .func f first captured => bif first.isEmpty && captured.isEmpty then some (.fn f) else none
  | _ => none

def ofScals : List Value → Option (List D)
  | [] => some []
  | v :: l => match ofScal v with
    | some x => (match ofScals l with | some r => some (x :: r) | none => none)
    | none => none

def ofVal : Value → Option D
  | .agg cs => match ofScals cs.toList with
    | some l => some (.agg l)
    | none => none
  | v => ofScal v

def bindO {α : Type} (o : Option α) (k : α → Prop) : Prop := match o with | some x => k x | none => False

/-- a test -/
def ifP (x : SV) (A B : Prop) : Prop := match x with
  | .d (.bool c) => cond c A B
  | _ => False

section
variable (P : Program) (gl : Nat → Option D)

/-- everything that the walk asks the tables -/
def aggOf? (t : TypeId) : Option Bool := match P.underlying t with
  | some (.struct _) | some (.array _ _) => some true
  | some _ => some false
  | none => none
/-- is a type's value an aggregate, and of how many cells -/
def lay? (t : TypeId) : Option (Bool × Nat) := match aggOf? P t with
  | some b => (match P.info? t with | some i => bif b || Nat.beq i.size 1 then some (b, i.size) else none | none => none)
  | none => none
def sizeOf? (t : TypeId) : Option Nat := match P.info? t with
  | some i => some i.size
  | none => none
def zeroCells? (t : TypeId) : Option (List D) := match P.info? t with
  | some i => (match i.zero with | some z => ofScals z.cells.toList | none => none)
  | none => none

def opnd (e : Env) : Operand → Slot
  | .tmp t => e.slots.getD t (.v .undef)
  | .const v => (match ofVal v with | some x => .v (.d x) | none => .v .undef)
  | .func f => .v (.d (.fn (.func f)))
  | .global g => (match gl g with | some x => .v (.dptr x 0) | none => .v .undef)

/-- ## data operations -/
def intBop (op : BinOp) (k : IntKind) (x y : Int) : Option D :=
  match op with
  | .add => some (.int k (k.wrap (x + y)))
  | .sub => some (.int k (k.wrap (x - y)))
  | .mul => some (.int k (k.wrap (x * y)))
  | .quo => if y = 0 then none else some (.int k (k.wrap (x.tdiv y)))
  | .rem => if y = 0 then none else some (.int k (x.tmod y))
  | .and => some (.int k (k.wrap (BitVec.ofInt k.bits x &&& BitVec.ofInt k.bits y).toNat))
  | .or => some (.int k (k.wrap (BitVec.ofInt k.bits x ||| BitVec.ofInt k.bits y).toNat))
  | .xor => some (.int k (k.wrap (BitVec.ofInt k.bits x ^^^ BitVec.ofInt k.bits y).toNat))
  | .andNot => some (.int k (k.wrap (BitVec.ofInt k.bits x &&& ~~~ BitVec.ofInt k.bits y).toNat))
  | .eql => some (.bool (x == y))
  | .neq => some (.bool (x != y))
  | .lss => some (.bool (decide (x < y)))
  | .leq => some (.bool (decide (x ≤ y)))
  | .gtr => some (.bool (decide (x > y)))
  | .geq => some (.bool (decide (x ≥ y)))
  | _ => none

def shiftOp (op : BinOp) (k : IntKind) (x y : Int) : Option D :=
  if y < 0 then none else
  match op with
  | .shl => some (.int k (k.wrap (x * 2 ^ (min y.toNat k.bits))))
  | .shr => some (.int k (x.fdiv (2 ^ (min y.toNat k.bits))))
  | _ => none

def strLess : List UInt8 → List UInt8 → Bool
  | _, [] => false
  | [], _ :: _ => true
  | a :: x, b :: y => a < b || (a == b && strLess x y)

def strBop (op : BinOp) (x y : List UInt8) : Option D :=
  match op with
  | .add => if x.length + y.length ≤ maxLen then some (.str (x ++ y)) else none
  | .eql => some (.bool (x == y))
  | .neq => some (.bool (!(x == y)))
  | .lss => some (.bool (strLess x y))
  | .leq => some (.bool (strLess x y || x == y))
  | .gtr => some (.bool (!(strLess x y || x == y)))
  | .geq => some (.bool (!strLess x y))
  | _ => none

/-- cells that are numbers, bools, strings: equal one by one -/
def eqScal : D → D → Option Bool
  | .bool a, .bool b => some (a == b)
  | .int k a, .int k' b => if k = k' then some (a == b) else none
  | .str a, .str b => some (a == b)
  | _, _ => none
def eqCells : List D → List D → Option Bool
  | [], [] => some true
  | x :: l, y :: m => match eqScal x y with
    | some b => (match eqCells l m with | some c => some (b && c) | none => none)
    | none => none
  | _, _ => none

/-- the kinds of cells that are compared -/
inductive CK where
  | bool | int | str
def ckOk : List CK → List D → Bool
  | [], [] => true
  | .bool :: l, .bool _ :: m => ckOk l m
  | .int :: l, .int _ _ :: m => ckOk l m
  | .str :: l, .str _ :: m => ckOk l m
  | _, _ => false
def repeatL {α : Type} (l : List α) : Nat → List α
  | 0 => []
  | n + 1 => l ++ repeatL l n
/-- is a type's equality that of its cells? which are numbers, bools or strings; else none -/
def shapeFields (go : TypeId → Option (List CK)) : List Field → Nat → Option (List CK)
  | [], _ => some []
  | f :: l, off => match go f.type with
    | some ks => bif f.name != "_" && Nat.beq f.offset off then (match shapeFields go l (off + ks.length) with | some r => some (ks ++ r) | none => none) else none
    | none => none
def shapeOf : (fuel : Nat) → TypeId → Option (List CK)
  | 0, _ => none
  | f + 1, t => match P.underlying t with
    | some .bool => (match sizeOf? P t with | some 1 => some [.bool] | _ => none)
    | some (.int _) => (match sizeOf? P t with | some 1 => some [.int] | _ => none)
    | some .string => (match sizeOf? P t with | some 1 => some [.str] | _ => none)
    | some (.array n e) => (match shapeOf f e with
      | some ks => (match sizeOf? P t with | some s => bif Nat.beq s (n * ks.length) then some (repeatL ks n) else none | none => none)
      | none => none)
    | some (.struct fs) => bif P.stoodInHeld t then none else (match shapeFields (shapeOf f) fs.toList 0 with
      | some ks => (match sizeOf? P t with | some s => bif Nat.beq s ks.length then some ks else none | none => none)
      | none => none)
    | _ => none
def eqShape (op : BinOp) (t : TypeId) : Option (Bool × List CK) := match op with
  | .eql | .neq => bif P.eqGuardType P.depth t then none else (match shapeOf P 20 t with
    | some ks => (match aggOf? P t with | some b => some (b, ks) | none => none)
    | none => none)
  | _ => none

end
section
def binD (sh : Option (Bool × List CK)) (op : BinOp) (x y : D) : Option D :=
  match x, y with
  | .int k a, .int k' b =>
    (match op with
     | .shl | .shr => shiftOp op k a b
     | _ => if k = k' then intBop op k a b else none)
  | .str a, .str b => strBop op a b
  | .bool a, .bool b => (match sh with
    | some (false, [.bool]) => (match op with
      | .eql => some (.bool (a == b)) | .neq => some (.bool (!(a == b))) | _ => none)
    | _ => none)
  | .agg a, .agg b => (match sh with
    | some (true, ks) => bif ckOk ks a && ckOk ks b then (match op with
      | .eql => (match eqCells a b with | some c => some (.bool c) | none => none)
      | .neq => (match eqCells a b with | some c => some (.bool (!c)) | none => none)
      | _ => none) else none
    | _ => none)
  | _, _ => none

def binV (sh : Option (Bool × List CK)) (op : BinOp) : SV → SV → Option SV
  | .d x, .d y => (match binD sh op x y with | some r => some (.d r) | none => none)
  | _, _ => none

def unV (op : UnOp) : SV → Option SV
  | .d (.bool b) => (match op with | .not => some (.d (.bool (!b))) | _ => none)
  | .d (.int k n) => (match op with
    | .neg => some (.d (.int k (k.wrap (0 - n))))
    | .xor => some (.d (.int k (k.wrap (BitVec.ofInt k.bits (if k.signed then -1 else k.max) ^^^ BitVec.ofInt k.bits n).toNat)))
    | _ => none)
  | _ => none

end
section
variable (P : Program) (gl : Nat → Option D)
/-- a conversion: to an integer kind, or from a string to a string type -/
def convV (dst : TypeId) : SV → Option SV
  | .d (.int _ n) => (match P.underlying dst with | some (.int k) => some (.d (.int k (k.wrap n))) | _ => none)
  | .d (.str s) => (match P.underlying dst with | some .string => some (.d (.str s)) | _ => none)
  | _ => none

/-- the data of a value (what was owned is read from now on) -/
def toD : SV → Option D
  | .d x => some x
  | .own sz L => some (.sl .ro sz L)
  | .full sz L => some (.sl .ro sz L)
  | _ => none
def toDs : List SV → Option (List D)
  | [] => some []
  | v :: l => match toD v with
    | some x => (match toDs l with | some r => some (x :: r) | none => none)
    | none => none
/-- the elements of a slice, if its elements have sz cells -/
def elems (sz : Nat) : SV → Option (List D)
  | .d (.sl k s L) => (match k with | .nil => some [] | .ro => if s = sz then some L else none)
  | .own s L => if s = sz then some L else none
  | .full s L => if s = sz then some L else none
  | _ => none
def elemsAny : SV → Option (List D)
  | .d (.sl _ _ L) => some L
  | .own _ L => some L
  | .full _ L => some L
  | _ => none

/-- a part of cells: a cell, or an aggregate -/
def partD (agg : Bool) (sz off : Nat) (cs : List D) : Option D :=
  bif agg then (if off + sz ≤ cs.length then some (.agg ((cs.drop off).take sz)) else none) else cs[off]?
def partV (agg : Bool) (sz off : Nat) (cs : List SV) : Option SV :=
  bif agg then (if off + sz ≤ cs.length then (match toDs ((cs.drop off).take sz) with | some l => some (.d (.agg l)) | none => none) else none) else cs[off]?

def indexOk (x : SV) (n : Nat) : Option Nat := match x with
  | .d (.int _ i) => if 0 ≤ i ∧ i < n then some i.toNat else none
  | _ => none

/-- the length of what len takes -/
def lenV (t : TypeId) (x : SV) : Option SV := match P.underlying t with
  | some .string => (match x with | .d (.str s) => some (.d (.int .i64 s.length)) | _ => none)
  | some (.array n _) => bif Nat.ble n maxLen then some (.d (.int .i64 n)) else none
  | some (.slice _) => (match elemsAny x with | some L => some (.d (.int .i64 L.length)) | none => none)
  | _ => none

def setAt (cs : List SV) (off : Nat) : List SV → List SV
  | [] => cs
  | v :: l => setAt (cs.set off v) (off + 1) l

/-- the cells that a value fills -/
def cellsV (x : SV) : Option (List SV) := match x with
  | .d y => some (y.cells.map .d)
  | .tup _ => none
  | .undef => none
  | v => some [v]

def fillD (place : Nat → Option (Nat × Nat)) (cells : List D) : List (Nat × D) → Option (List D)
  | [] => some cells
  | (i, v) :: rest => match place i with
    | none => none
    | some (off, sz) => if v.cells.length = sz ∧ off + sz ≤ cells.length then fillD place (cells.take off ++ v.cells ++ cells.drop (off + sz)) rest else none

def partsD (ρ : Operand → Slot) : List (Nat × Operand) → Option (List (Nat × D))
  | [] => some []
  | (i, x) :: l => match ρ x with
    | .v y => (match toD y with
      | some z => (match partsD ρ l with | some r => some ((i, z) :: r) | none => none)
      | none => none)
    | _ => none

def placesL : List Field → Option (List (Nat × Nat))
  | [] => some []
  | f :: l => match sizeOf? P f.type with
    | some s => (match placesL l with | some r => some ((f.offset, s) :: r) | none => none)
    | none => none
def fieldPlaces (t : TypeId) : Option (Nat → Option (Nat × Nat)) := match P.underlying t with
  | some (.struct fs) => (match placesL P fs.toList with | some l => some fun i => l[i]? | none => none)
  | some (.array _ e) => (match sizeOf? P e with | some s => some fun i => some (i * s, s) | none => none)
  | _ => none

def buildD (t : TypeId) (ps : List (Nat × D)) : Option D := match zeroCells? P t with
  | some z => (match fieldPlaces P t with
    | some pl => (match fillD pl z ps with | some cs => some (.agg cs) | none => none)
    | none => none)
  | none => none

/-- one element -/
def mkElem (agg : Bool) (cs : List D) : D := bif agg then .agg cs else (match cs with | [x] => x | _ => .agg cs)
def findPart (i : Nat) : List (Nat × D) → Option D
  | [] => none
  | (j, x) :: l => match findPart i l with | some y => some y | none => bif i == j then some x else none
def buildElems (zero : D) (ps : List (Nat × D)) : Nat → Nat → List D
  | 0, _ => []
  | n + 1, i => (match findPart i ps with | some x => x | none => zero) :: buildElems zero ps n (i + 1)
def partsFit (sz n : Nat) : List (Nat × D) → Bool
  | [] => true
  | (i, x) :: l => Nat.blt i n && Nat.beq x.cells.length sz && partsFit sz n l


/-- ## snapshots: what a callee is handed -/
def snapList (f : Slot → SV) : List Slot → List SV
  | [] => []
  | s :: l => f s :: snapList f l
def snap (bxs : List Box) : (fuel : Nat) → Slot → SV
  | 0, _ => .undef
  | n + 1, s => match s with
    | .v x => Ab.demote x
    | .p b off => (match bxs[b]? with
      | some (.cells cs) => .ref (cs.map Ab.demote) off
      | some (.one s') => .ref [snap bxs n s'] off
      | _ => .undef)
    | .c f first cap => .clo f (snapList (snap bxs n) first) (snapList (snap bxs n) cap)
    | .t _ => .undef

/-- the value that a result's slot, or a part, holds -/
def Slot.toSV : Slot → SV
  | .v x => x
  | _ => .undef

end

/-- a contract: called with these values a function returns this one -/
abbrev Con := FuncId → List SV → SV → Prop

section
variable (P : Program) (gl : Nat → Option D) (C : Con)

def isTup : SV → Bool | .tup _ => true | _ => false
def callP (f : FuncId) (args : List SV) (k : SV → Prop) : Prop := ∃ r, C f args r ∧ isTup r = false ∧ k r
/-- n values -/
def exN : Nat → (List SV → Prop) → Prop
  | 0, k => k []
  | n + 1, k => ∃ r, exN n fun l => k (r :: l)
/-- several results (or none) -/
def callT (f : FuncId) (n : Nat) (args : List SV) (k : List SV → Prop) : Prop := exN n fun rs => C f args (.tup rs) ∧ k rs

/-- a value that is called -/
def withFn (x : SV) (args : List SV) (k : FuncId → List SV → Prop) : Prop := match x with
  | .d (.fn (.func f)) => k f args
  | .clo (.func f) first cap => k f (first ++ args ++ cap)
  | _ => False

def nresOf (f : FuncId) : Nat := match P.funcs[f]? with
  | some fn => fn.resultTypes.size
  | none => 0

/-- how many results a function type has -/
def arity (t : TypeId) : Nat := match P.underlying t with
  | some (.tuple ts) => ts.size
  | _ => 1

def callK (n : Nat) (bxs : List Box) (k : Slot → List Box → Prop) (f : FuncId) (args : List SV) : Prop :=
  match n with
  | 1 => callP C f args fun r => k (.v r) bxs
  | n => callT C f n args fun rs => k (.t rs) bxs

def argsOf (bxs : List Box) (ρ : Operand → Slot) : List Operand → List SV
  | [] => []
  | x :: l => snap bxs 6 (ρ x) :: argsOf bxs ρ l

/-- append: the elements' size in cells and in bytes, whether an element is an aggregate -/
def appV (sz : Nat) (x y : SV) : Option (SV × Nat) :=
  match elems sz y with
  | none => none
  | some M => match x with
    | .own s L => if s = sz then some (.own sz (L ++ M), L.length + M.length) else none
    | .full s L => if s = sz then (if M = [] then some (.full sz L, L.length) else some (.own sz (L ++ M), L.length + M.length)) else none
    | .d (.sl .nil _ _) => if M = [] then some (x, 0) else some (.own sz M, M.length)
    | _ => none
def appP (sz bytes : Nat) (x y : SV) (k : SV → Prop) : Prop :=
  bindO (appV sz x y) fun r => r.2 * bytes ≤ 140737488355328 ∧ k r.1

def loadBox (agg : Bool) (sz b off : Nat) (bxs : List Box) (k : Slot → List Box → Prop) : Prop :=
  match bxs[b]? with
  | some (.cells cs) => bindO (partV agg sz off cs) fun x => k (.v (Ab.demote x)) bxs
  | some (.one s) => bif agg then False else (match off with | 0 => k s.demote bxs | _ => False)
  | _ => False

def loadV (agg : Bool) (sz : Nat) (x : SV) : Option SV := match x with
  | .dptr y off => (match partD agg sz off y.cells with | some z => some (.d z) | none => none)
  | .ref cs off => (match partV agg sz off cs with | some z => some (Ab.demote z) | none => none)
  | _ => none

def storeBox (sz b off : Nat) (x : Slot) (bxs : List Box) (k : List Box → Prop) : Prop :=
  match bxs[b]? with
  | some (.cells cs) => (match x with
    | .v y => bindO (cellsV y) fun l => l.length = sz ∧ off + sz ≤ cs.length ∧ k (bxs.set b (.cells (setAt cs off l)))
    | .t _ => False
    | s => (match sz, off, cs with | 1, 0, [_] => k (bxs.set b (.one s)) | _, _, _ => False))
  | some (.one _) => (match sz, off with
    | 1, 0 => (match x with
      | .v y => bindO (cellsV y) fun l => l.length = 1 ∧ k (bxs.set b (.cells l))
      | .t _ => False
      | s => k (bxs.set b (.one s)))
    | _, _ => False)
  | _ => False

def addOff (x : Slot) (n : Nat) (k : Slot → Prop) : Prop := match x with
  | .p b off => k (.p b (off + n))
  | .v (.dptr y off) => k (.v (.dptr y (off + n)))
  | .v (.ref cs off) => k (.v (.ref cs (off + n)))
  | _ => False
/-- the same where the text does not know what x is -/
def addOffV (x : SV) (n : Nat) : Option SV := match x with
  | .dptr y off => some (.dptr y (off + n))
  | .ref cs off => some (.ref cs (off + n))
  | _ => none

/-- an element's address -/
def elemPtr (sz : Nat) (x i : SV) : Option SV := match elems sz x with
  | some L => (match indexOk i L.length with
    | some n => (match L[n]? with | some y => some (.dptr y 0) | none => none)
    | none => none)
  | none => none

def hiOf (n : Nat) : Option SV → Option Nat
  | some h => indexOk h (n + 1)
  | none => some n
def loOf (h : Nat) : Option SV → Option Nat
  | some l => indexOk l (h + 1)
  | none => some 0
def subOf (L : List D) (lo hi : Option SV) : Option (List D) :=
  match hiOf L.length hi with
  | some h => (match loOf h lo with
    | some l => some ((L.take h).drop l)
    | none => none)
  | none => none
def subStr (L : List UInt8) (lo hi : Option SV) : Option (List UInt8) :=
  match hiOf L.length hi with
  | some h => (match loOf h lo with
    | some l => some ((L.take h).drop l)
    | none => none)
  | none => none

/-- a part of a slice or a string -/
def sliceV (t : TypeId) (x : SV) (lo hi mx : Option SV) : Option SV :=
  match P.underlying t with
  | some .string => (match x, mx with
    | .d (.str s), none => (match subStr s lo hi with | some r => some (.d (.str r)) | none => none)
    | _, _ => none)
  | some (.slice e) => (match toD x, sizeOf? P e with
    | some (.sl k sz L), some s => (match subOf L lo hi, mx with
      | some r, none => (match k with | .nil => some (.d (.sl .nil s [])) | .ro => if sz = s then some (.d (.sl .ro sz r)) else none)
      | some r, some m => (match hi, indexOk m (L.length + 1) with
        | some h, some _ => (match h, m with
          | .d (.int _ a), .d (.int _ b) => if a = b then (match k with | .nil => some (.d (.sl .nil s [])) | .ro => if sz = s then some (.full sz r) else none) else none
          | _, _ => none)
        | _, _ => none)
      | none, _ => none)
    | _, _ => none)
  | _ => none

def optV (ρ : Operand → Slot) : Option Operand → Option SV
  | some x => some (ρ x).toSV
  | none => none

def minD (a b : Int) : Int := if b < a then b else a
def maxD (a b : Int) : Int := if b > a then b else a
def foldIntV (f : Int → Int → Int) : SV → List SV → Option SV
  | .d (.int k a), [] => some (.d (.int k a))
  | .d (.int k a), .d (.int k' b) :: l => if k = k' then foldIntV f (.d (.int k (f a b))) l else none
  | _, _ => none

def nonNilV (x : SV) : Option SV := match x with
  | .dptr y o => some (.dptr y o)
  | .ref cs o => some (.ref cs o)
  | .clo f a b => (match f with | .func n => some (.clo (.func n) a b) | _ => none)
  | .d (.fn f) => (match f with | .func n => some (.d (.fn (.func n))) | _ => none)
  | _ => none

def indexV (agg : Bool) (sz n : Nat) (x i : SV) : Option SV := match x with
  | .d (.agg cs) => (match indexOk i n with
    | some j => (match partD agg sz (j * sz) cs with | some r => some (.d r) | none => none)
    | none => none)
  | _ => none
def strAt (x i : SV) : Option SV := match x with
  | .d (.str s) => (match indexOk i s.length with
    | some j => (match s[j]? with | some b => some (.d (.int .u8 b.toNat)) | none => none)
    | none => none)
  | _ => none
def fieldV (agg : Bool) (sz off : Nat) (x : SV) : Option SV := match x with
  | .d (.agg cs) => (match partD agg sz off cs with | some r => some (.d r) | none => none)
  | _ => none
def ifaceV (t : TypeId) (x : SV) : Option SV := match toD x with
  | some y => some (.d (.iface t y))
  | none => none

def bytesOf? (t : TypeId) : Option Nat := match P.info? t with
  | some i => some i.bytes
  | none => none
def elemOf? (t : TypeId) : Option TypeId := match P.underlying t with
  | some (.slice e) => some e
  | _ => none
def fieldOf? (t : TypeId) (i : Nat) : Option Field := match P.underlying t with
  | some (.struct fs) => fs.toList[i]?
  | _ => none
def isSlice (t : TypeId) : Bool := match P.underlying t with
  | some (.slice _) => true
  | _ => false
def isIface (t : TypeId) : Bool := match P.underlying t with
  | some (.interface _) => true
  | none => true
  | _ => false

/-- what one operation does, of operands ρ and variables bxs -/
def eff (id : Nat) (o : Oper) (ρ : Operand → Slot) (bxs : List Box) (k : Slot → List Box → Prop) : Prop :=
  match o.op with
  | .move x | .assign x => k (ρ x) bxs
  | .pick c a b => (match ρ c with
    | .v x => ifP x (k (ρ a) bxs) (k (ρ b) bxs)
    | _ => False)
  | .alloc t => (match bxs[id]? with
    | some .none => bindO (zeroCells? P t) fun z => k (.p id 0) (bxs.set id (.cells (z.map .d)))
    | _ => False)
  | .box t x => (match bxs[id]? with
    | some .none => bindO (sizeOf? P t) fun sz => (match ρ x with
      | .v y => bindO (cellsV y) fun l => l.length = sz ∧ k (.p id 0) (bxs.set id (.cells l))
      | .t _ => False
      | s => (match sz with | 1 => k (.p id 0) (bxs.set id (.one s)) | _ => False))
    | _ => False)
  | .build t ps => bindO (partsD ρ ps.toList) fun l => bindO (buildD P t l) fun r => k (.v (.d r)) bxs
  | .buildSlice t n ps => bindO (elemOf? P t) fun e => bindO (lay? P e) fun ly => bindO (zeroCells? P e) fun z => bindO (partsD ρ ps.toList) fun l =>
      bif Nat.ble (n * ly.2) (2 ^ 24) && Nat.blt 0 ly.2 && Nat.beq z.length ly.2 then (partsFit ly.2 n l = true ∧ k (.v (.full ly.2 (buildElems (mkElem ly.1 z) l n 0))) bxs) else False
  | .load t a => bindO (lay? P t) fun ly => (match ρ a with
    | .p b off => loadBox ly.1 ly.2 b off bxs k
    | .v x => bindO (loadV ly.1 ly.2 x) fun y => k (.v y) bxs
    | _ => False)
  | .store t a x => bindO (sizeOf? P t) fun sz => (match ρ a with
    | .p b off => (match o.dst with | none => storeBox sz b off (ρ x) bxs fun bxs' => k (.t []) bxs' | some _ => False)
    | _ => False)
  | .nilCheck x => (match ρ x with
    | .v y => bindO (nonNilV y) fun z => k (.v z) bxs
    | .t _ => False
    | .c f first cap => (match f with | .func _ => k (.c f first cap) bxs | _ => False)
    | .p b off => k (.p b off) bxs)
  | .binOp op t x y _ => bindO (binV (eqShape P op t) op (ρ x).toSV (ρ y).toSV) fun r => k (.v r) bxs
  | .unOp op _ x => bindO (unV op (ρ x).toSV) fun r => k (.v r) bxs
  | .convert src dst x => bif (P.underlying src).isSome then (bindO (convV P dst (ρ x).toSV) fun r => k (.v r) bxs) else False
  | .makeInterface t x => bif isIface P t then False else bindO (ifaceV t (ρ x).toSV) fun r => k (.v r) bxs
  | .makeFunc fn first cap => k (.c fn (first.toList.map fun x => (ρ x).demote) (cap.toList.map fun x => (ρ x).demote)) bxs
  | .slice t x lo hi mx => bindO (sliceV P t (Ab.demote (ρ x).toSV) (optV ρ lo) (optV ρ hi) (optV ρ mx)) fun r => k (.v r) bxs
  | .fieldAddr t x f => bindO (fieldOf? P t f) fun fd => bindO (sizeOf? P fd.type) fun sz => bif Nat.beq sz 0 then False else (match ρ x with
    | .p b off => k (.p b (off + fd.offset)) bxs
    | .v y => bindO (addOffV y fd.offset) fun z => k (.v z) bxs
    | _ => False)
  | .field t x f => bindO (fieldOf? P t f) fun fd => bindO (lay? P fd.type) fun ly => bindO (fieldV ly.1 ly.2 fd.offset (ρ x).toSV) fun r => k (.v r) bxs
  | .indexAddr t x i => (match P.underlying t with
    | some (.slice e) => bindO (sizeOf? P e) fun sz => bindO (elemPtr sz (ρ x).toSV (ρ i).toSV) fun r => k (.v r) bxs
    | some (.array n e) => bindO (sizeOf? P e) fun sz => bindO (indexOk (ρ i).toSV n) fun j => (match ρ x with
      | .p b off => k (.p b (off + j * sz)) bxs
      | .v y => bindO (addOffV y (j * sz)) fun z => k (.v z) bxs
      | _ => False)
    | _ => False)
  | .index t x i => (match P.underlying t with
    | some (.array n e) => bindO (lay? P e) fun ly => bindO (indexV ly.1 ly.2 n (ρ x).toSV (ρ i).toSV) fun r => k (.v r) bxs
    | some .string => bindO (strAt (ρ x).toSV (ρ i).toSV) fun r => k (.v r) bxs
    | _ => False)
  | .extract x i => (match ρ x with
    | .t vs => (match vs[i]? with | some r => k (.v r) bxs | none => False)
    | _ => False)
  | .call c => (match c.callee with
    | .value f => (match ρ f with
      | .v x => withFn x (argsOf bxs ρ c.args.toList) (callK C (arity P o.type) bxs k)
      | .c (.func g) first cap => callK C (arity P o.type) bxs k g (snapList (snap bxs 6) first ++ argsOf bxs ρ c.args.toList ++ snapList (snap bxs 6) cap)
      | _ => False)
    | .invoke _ _ => False
    | .builtin b => (match b, c.args.toList, c.argTypes.toList with
      | .len, x :: _, t :: _ => bindO (lenV P t (ρ x).toSV) fun r => k (.v r) bxs
      | .append, [x, y], [t, u] => bif Nat.beq t u then (bindO (elemOf? P t) fun e => bindO (sizeOf? P e) fun sz => bindO (bytesOf? P e) fun by_ => bindO (zeroCells? P e) fun z =>
          bif Nat.blt 0 by_ && Nat.blt 0 sz && Nat.beq z.length sz then appP sz by_ (ρ x).toSV (ρ y).toSV fun r => k (.v r) bxs else False) else False
      | .min, x :: l, _ => bindO (foldIntV minD (ρ x).toSV (l.map fun y => (ρ y).toSV)) fun r => k (.v r) bxs
      | .max, x :: l, _ => bindO (foldIntV maxD (ρ x).toSV (l.map fun y => (ρ y).toSV)) fun r => k (.v r) bxs
      | _, _, _ => False))
  | _ => False

/-- the temporaries that an operation reads -/
def tmpsOf (o : Oper) : List Nat := o.op.operands.toList.filterMap fun | .tmp t => some t | _ => none
def putSlot (l : List Slot) (dst : Option Nat) (s : Slot) : List Slot := match dst with
  | some d => l.set d s
  | none => l

/-- an operation that hands an owned slice on -/
def evLin (o : Oper) (e : Env) (k : Env → Prop) : Prop := match o.op with
  | .move (.tmp t) | .assign (.tmp t) => k ⟨putSlot (e.slots.set t (e.slots.getD t (.v .undef)).demote) o.dst (e.slots.getD t (.v .undef)), e.boxes⟩
  | .extract (.tmp t) i => (match e.slots.getD t (.v .undef) with
    | .t vs => (match vs[i]? with
      | some r => k ⟨putSlot (e.slots.set t (.t (vs.set i (demote r)))) o.dst (.v r), e.boxes⟩
      | none => False)
    | _ => False)
  | .load ty a => (match (opnd gl e a).demote with
    | .p b off => bindO (lay? P ty) fun ly => bif ly.1 then False else (match e.boxes[b]? with
      | some (.cells cs) => bindO cs[off]? fun x => k ⟨putSlot e.slots o.dst (.v x), e.boxes.set b (.cells (cs.set off (demote x)))⟩
      | _ => False)
    | _ => False)
  | .store ty a (.tmp t) => (match (opnd gl e a).demote, e.slots.getD t (.v .undef), o.dst with
    | .p b off, .v y, none => bindO (sizeOf? P ty) fun sz => bif Nat.beq sz 1 then (match e.boxes[b]? with
      | some (.cells cs) => bindO (cellsV y) fun l => l.length = 1 ∧ off < cs.length ∧ k ⟨e.slots.set t (.v (demote y)), e.boxes.set b (.cells (setAt cs off l))⟩
      | _ => False) else False
    | _, _, _ => False)
  | .call c => (match c.callee, c.args.toList, c.argTypes.toList with
    | .builtin .append, [.tmp t, y], [ty, u] => bif Nat.beq ty u then (bindO (elemOf? P ty) fun e' => bindO (sizeOf? P e') fun sz => bindO (bytesOf? P e') fun by_ => bindO (zeroCells? P e') fun z =>
          bif Nat.blt 0 by_ && Nat.blt 0 sz && Nat.beq z.length sz then appP sz by_ (e.slots.getD t (.v .undef)).toSV ((opnd gl e y).demote).toSV fun r =>
            k ⟨putSlot (e.slots.set t (e.slots.getD t (.v .undef)).demote) o.dst (.v r), e.boxes⟩ else False) else False
    | _, _, _ => False)
  | _ => False
def evOp (id : Nat) (lin : Bool) (o : Oper) (e : Env) (k : Env → Prop) : Prop :=
  bif lin then evLin P gl o e k
  else eff P C id o (fun x => (opnd gl e x).demote) e.boxes fun r bxs => k ⟨putSlot e.slots o.dst r, bxs⟩

def Env.setB (e : Env) (t : Nat) (b : Bool) : Env := ⟨e.slots.set t (.v (.d (.bool b))), e.boxes⟩

def guardP (all : List Oper) (o : Oper) (e : Env) (A B : Env → Prop) : Prop :=
  match o.guard with
  | none => A e
  | some (j, want) => (match (match all[j]? with | some g => g.dst | none => none) with
    | some t => (match e.slots.getD t (.v .undef) with
      | .v x => ifP x (bif want then A (e.setB t true) else B (e.setB t true)) (bif want then B (e.setB t false) else A (e.setB t false))
      | .t _ => B e
      | _ => False)
    | none => False)

/-- does an operation make a variable -/
def makesMem (o : Oper) : Bool := match o.op with | .alloc _ | .box .. => true | _ => false
/-- how many of the first i operations make one -/
def rankOf : List Oper → Nat → Nat
  | [], _ => 0
  | _, 0 => 0
  | o :: l, i + 1 => (bif makesMem o then 1 else 0) + rankOf l i
def evOps (lin : Nat → Bool) (all : List Oper) (base : Nat) : List Oper → Nat → Env → (Env → Prop) → Prop
  | [], _, e, k => k e
  | o :: rest, i, e, k => guardP all o e
      (fun e' => evOp P gl C (base + rankOf all i) (lin i) o e' fun e'' => evOps lin all base rest (i + 1) e'' k)
      (fun e' => evOps lin all base rest (i + 1) ⟨putSlot e'.slots o.dst (.t []), e'.boxes⟩ k)
/-- a region: places for the variables that it makes, then its operations -/
def evRegion (lin : Nat → Bool) (ops : List Oper) (e : Env) (k : Env → Prop) : Prop :=
  evOps P gl C lin ops e.boxes.length ops 0 ⟨e.slots, e.boxes ++ List.replicate (rankOf ops ops.length) .none⟩ k

inductive Ex where
  | normal
  | exit (id : Nat)
  | ret

def loopP (F : List SV → List (List SV) → (List SV → List (List SV) → Prop) → Prop) (vs : List SV) (bs : List (List SV)) : Prop :=
  ∀ I : List SV → List (List SV) → Prop, (∀ vs bs, F vs bs I → I vs bs) → I vs bs

def firstId : Code → Nat
  | .region id _ _ => id
  | .seq a _ => firstId a
  | .block _ b => firstId b
  | .loop b => firstId b
  | .scope b => firstId b
  | _ => 0

def writesOf : Code → List Nat
  | .region _ ops _ => ops.toList.filterMap (·.dst)
  | .seq a b => writesOf a ++ writesOf b
  | .cond _ a b => writesOf a ++ writesOf b
  | .block _ b => writesOf b
  | .loop b => writesOf b
  | .scope b => writesOf b
  | _ => []

def Box.vals : Box → List SV
  | .cells cs => cs
  | _ => [.undef]
def valsOf (e : Env) (vars : List Nat) : List SV := vars.map fun t => (e.slots.getD t (.v .undef)).toSV
def boxesOf (n : Nat) (e : Env) : List (List SV) := (e.boxes.take n).map Box.vals
def Slot.stays : Slot → Slot
  | .p b off => .p b off
  | .c f first cap => .c f first cap
  | _ => .v .undef
def place (t : Nat) : List Nat → Nat → Option Nat
  | [], _ => none
  | v :: l, i => bif v == t then some i else place t l (i + 1)
/-- a loop's values -/
def vget (vs : List SV) (j : Nat) : SV := vs.getD j .undef
def bget (bs : List (List SV)) (i : Nat) : List SV := bs.getD i []
def restartSlots (vars consts : List Nat) (vs : List SV) : List Slot → Nat → List Slot
  | [], _ => []
  | s :: l, t => (match place t vars 0 with
    | some j => .v (vget vs j)
    | none => bif consts.contains t then s.stays else .v .undef) :: restartSlots vars consts vs l (t + 1)
def restartBoxes (bs : List (List SV)) : List Box → Nat → List Box
  | [], _ => []
  | _ :: l, i => .cells (bget bs i) :: restartBoxes bs l (i + 1)

/-- hints of the text: which operations hand an owned slice on; which slots live at a loop's head -/
structure Hints where
  lin : List (Nat × Nat)
  keep : List (Nat × List Nat × List Nat)

def linAt (h : Hints) (id i : Nat) : Bool := h.lin.any fun p => p.1 == id && p.2 == i
def keepAt (h : List (Nat × List Nat × List Nat)) (id : Nat) : List Nat × List Nat := match h with
  | [] => ([], [])
  | (j, r) :: l => bif j == id then r else keepAt l id

/-- two operations of a region that draws its order: neither sees the other -/
def writesMem (o : Oper) : Bool := match o.op with | .store .. => true | _ => false
def looksMem (o : Oper) : Bool := match o.op with | .store .. | .load .. | .call _ => true | _ => false
def touches (lin : Bool) (o : Oper) : List Nat := (match o.dst with | some d => [d] | none => []) ++ (bif lin then tmpsOf o else [])
def indep (all : Array Oper) (linx liny : Bool) (x y : Oper) : Bool :=
  (touches linx x).all (fun d => !(y.looksAt all).contains d && !(touches liny y).contains d) &&
  (touches liny y).all (fun d => !(x.looksAt all).contains d) &&
  !(writesMem x && looksMem y) && !(writesMem y && looksMem x) &&
  !(linx && liny && looksMem x && looksMem y)

end
end Go.Proofs.Ytfeepndphaboeaa.Ab
