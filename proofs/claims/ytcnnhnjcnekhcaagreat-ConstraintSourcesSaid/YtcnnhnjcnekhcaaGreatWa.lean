/-
  THE ABSTRACT WALK, definitions: data trees, slot values, and an abstract weakest precondition over the model's code.
-/
import Derived.Orders
import Derived.Still
import Derived.Below
import Derived.KernelRfl
import Derived.Laws.AppendOwn
import Derived.Laws.Build
import Derived.Laws.Sem
import Derived.WalkKit
import Derived.Laws.StructEq
import Derived.ChangeKeysEq
set_option linter.unusedVariables false
set_option linter.unusedSimpArgs false
namespace Go.Proofs.YtcnnhnjcnekhcaaGreat.Ab
open Go

/-- nil, or a slice that is only read -/
inductive SK where
  | nil | ro
  deriving DecidableEq

/-- data: what is never written again -/
inductive D where
  | bool (b : Bool)
  | int (k : IntKind) (n : Int)
  | str (s : List UInt8)
  | agg (cs : List D)
  | sl (k : SK) (sz : Nat) (L : List D)
  | fn (f : Fn)
  | nilfn
  | iface (t : TypeId) (x : D)
  | nilif
  | nilptr

/-- a number fits its kind -/
def wfI (k : IntKind) (n : Int) : Bool := decide (k.min ≤ n) && decide (n ≤ k.max)

def D.cells : D → List D
  | .agg cs => cs
  | x => [x]

mutual
def D.Wf : D → Prop
  | .int k n => wfI k n = true
  | .str s => s.length ≤ maxLen
  | .agg cs => D.WfL cs
  | .sl k sz L => L.length ≤ maxLen ∧ (k = .nil → L = []) ∧ (∀ x ∈ L, x.cells.length = sz) ∧ D.WfL L
  | .iface _ x => x.Wf
  | _ => True
def D.WfL : List D → Prop
  | [] => True
  | x :: l => x.Wf ∧ D.WfL l
end

/-- what a slot, or a cell of a variable in memory, holds -/
inductive SV where
  | d (x : D)
  | own (sz : Nat) (L : List D)
  | full (sz : Nat) (L : List D)
  | ref (cs : List SV) (off : Nat)
  | dptr (x : D) (off : Nat)
  | clo (f : Fn) (first cap : List SV)
  | tup (vs : List SV)
  | undef

def demote : SV → SV
  | .own sz L => .d (.sl .ro sz L)
  | x => x

/-- a slot: a value, or (known from the text) a pointer to a variable of this call, a closure, several results -/
inductive Slot where
  | v (x : SV)
  | p (b off : Nat)
  | c (f : Fn) (first cap : List Slot)
  | t (vs : List SV)

def Slot.demote : Slot → Slot
  | .v x => .v (Ab.demote x)
  | .t vs => .t (vs.map Ab.demote)
  | s => s

inductive Box where
  | none
  | cells (cs : List SV)
  | one (s : Slot)

structure Env where
  slots : List Slot
  boxes : List Box

def ofScal : Value → Option D
  | .bool b => some (.bool b)
  | .int k n => bif wfI k n then some (.int k n) else none
  | .string s => bif Nat.ble s.size maxLen then some (.str s.data.toList) else none
  | .slice none 0 0 => some (.sl .nil 0 [])
  | .pointer none => some .nilptr
  | .nilFunc => some .nilfn
  | .nilIface => some .nilif
  | .func f first captured => bif first.isEmpty && captured.isEmpty then some (.fn f) else none
  | _ => none

def ofScals : List Value → Option (List D)
  | [] => some []
  | v :: l => match ofScal v with
    | some x => (match ofScals l with | some r => some (x :: r) | none => none)
    | none => none

def ofVal : Value → Option D
  | .agg cs => match ofScals cs.toList with
    | some l => some (.agg l)
    | none => none
  | v => ofScal v

def bindO {α : Type} (o : Option α) (k : α → Prop) : Prop := match o with | some x => k x | none => False

/-- a test -/
def ifP (x : SV) (A B : Prop) : Prop := match x with
  | .d (.bool c) => cond c A B
  | _ => False

section
variable (P : Program) (gl : Nat → Option D)

/-- everything that the walk asks the tables -/
def aggOf? (t : TypeId) : Option Bool := match P.underlying t with
  | some (.struct _) | some (.array _ _) => some true
  | some _ => some false
  | none => none
/-- is a type's value an aggregate, and of how many cells -/
def lay? (t : TypeId) : Option (Bool × Nat) := match aggOf? P t with
  | some b => (match P.info? t with | some i => bif b || Nat.beq i.size 1 then some (b, i.size) else none | none => none)
  | none => none
def sizeOf? (t : TypeId) : Option Nat := match P.info? t with
  | some i => some i.size
  | none => none
def zeroCells? (t : TypeId) : Option (List D) := match P.info? t with
  | some i => (match i.zero with | some z => ofScals z.cells.toList | none => none)
  | none => none

def opnd (e : Env) : Operand → Slot
  | .tmp t => e.slots.getD t (.v .undef)
  | .const v => (match ofVal v with | some x => .v (.d x) | none => .v .undef)
  | .func f => .v (.d (.fn (.func f)))
  | .global g => (match gl g with | some x => .v (.dptr x 0) | none => .v .undef)

/-- ## data operations -/
def intBop (op : BinOp) (k : IntKind) (x y : Int) : Option D :=
  match op with
  | .add => some (.int k (k.wrap (x + y)))
  | .sub => some (.int k (k.wrap (x - y)))
  | .mul => some (.int k (k.wrap (x * y)))
  | .quo => if y = 0 then none else some (.int k (k.wrap (x.tdiv y)))
  | .rem => if y = 0 then none else some (.int k (x.tmod y))
  | .and => some (.int k (k.wrap (BitVec.ofInt k.bits x &&& BitVec.ofInt k.bits y).toNat))
  | .or => some (.int k (k.wrap (BitVec.ofInt k.bits x ||| BitVec.ofInt k.bits y).toNat))
  | .xor => some (.int k (k.wrap (BitVec.ofInt k.bits x ^^^ BitVec.ofInt k.bits y).toNat))
  | .andNot => some (.int k (k.wrap (BitVec.ofInt k.bits x &&& ~~~ BitVec.ofInt k.bits y).toNat))
  | .eql => some (.bool (x == y))
  | .neq => some (.bool (x != y))
  | .lss => some (.bool (decide (x < y)))
  | .leq => some (.bool (decide (x ≤ y)))
  | .gtr => some (.bool (decide (x > y)))
  | .geq => some (.bool (decide (x ≥ y)))
  | _ => none

def shiftOp (op : BinOp) (k : IntKind) (x y : Int) : Option D :=
  if y < 0 then none else
  match op with
  | .shl => some (.int k (k.wrap (x * 2 ^ (min y.toNat k.bits))))
  | .shr => some (.int k (x.fdiv (2 ^ (min y.toNat k.bits))))
  | _ => none

def strLess : List UInt8 → List UInt8 → Bool
  | _, [] => false
  | [], _ :: _ => true
  | a :: x, b :: y => a < b || (a == b && strLess x y)

def strBop (op : BinOp) (x y : List UInt8) : Option D :=
  match op with
  | .add => if x.length + y.length ≤ maxLen then some (.str (x ++ y)) else none
  | .eql => some (.bool (x == y))
  | .neq => some (.bool (!(x == y)))
  | .lss => some (.bool (strLess x y))
  | .leq => some (.bool (strLess x y || x == y))
  | .gtr => some (.bool (!(strLess x y || x == y)))
  | .geq => some (.bool (!strLess x y))
  | _ => none

/-- cells that are numbers, bools, strings: equal one by one -/
def eqScal : D → D → Option Bool
  | .bool a, .bool b => some (a == b)
  | .int k a, .int k' b => if k = k' then some (a == b) else none
  | .str a, .str b => some (a == b)
  | _, _ => none
def eqCells : List D → List D → Option Bool
  | [], [] => some true
  | x :: l, y :: m => match eqScal x y with
    | some b => (match eqCells l m with | some c => some (b && c) | none => none)
    | none => none
  | _, _ => none

/-- the kinds of cells that are compared -/
inductive CK where
  | bool | int | str
def ckOk : List CK → List D → Bool
  | [], [] => true
  | .bool :: l, .bool _ :: m => ckOk l m
  | .int :: l, .int _ _ :: m => ckOk l m
  | .str :: l, .str _ :: m => ckOk l m
  | _, _ => false
def repeatL {α : Type} (l : List α) : Nat → List α
  | 0 => []
  | n + 1 => l ++ repeatL l n
/-- is a type's equality that of its cells? which are numbers, bools or strings; else none -/
def shapeFields (go : TypeId → Option (List CK)) : List Field → Nat → Option (List CK)
  | [], _ => some []
  | f :: l, off => match go f.type with
    | some ks => bif f.name != "_" && Nat.beq f.offset off then (match shapeFields go l (off + ks.length) with | some r => some (ks ++ r) | none => none) else none
    | none => none
def shapeOf : (fuel : Nat) → TypeId → Option (List CK)
  | 0, _ => none
  | f + 1, t => match P.underlying t with
    | some .bool => (match sizeOf? P t with | some 1 => some [.bool] | _ => none)
    | some (.int _) => (match sizeOf? P t with | some 1 => some [.int] | _ => none)
    | some .string => (match sizeOf? P t with | some 1 => some [.str] | _ => none)
    | some (.array n e) => (match shapeOf f e with
      | some ks => (match sizeOf? P t with | some s => bif Nat.beq s (n * ks.length) then some (repeatL ks n) else none | none => none)
      | none => none)
    | some (.struct fs) => bif P.stoodInHeld t then none else (match shapeFields (shapeOf f) fs.toList 0 with
      | some ks => (match sizeOf? P t with | some s => bif Nat.beq s ks.length then some ks else none | none => none)
      | none => none)
    | _ => none
def eqShape (op : BinOp) (t : TypeId) : Option (Bool × List CK) := match op with
  | .eql | .neq => bif P.eqGuardType P.depth t then none else (match shapeOf P 20 t with
    | some ks => (match aggOf? P t with | some b => some (b, ks) | none => none)
    | none => none)
  | _ => none

end
section
def binD (sh : Option (Bool × List CK)) (op : BinOp) (x y : D) : Option D :=
  match x, y with
  | .int k a, .int k' b =>
    (match op with
     | .shl | .shr => shiftOp op k a b
     | _ => if k = k' then intBop op k a b else none)
  | .str a, .str b => strBop op a b
  | .bool a, .bool b => (match sh with
    | some (false, [.bool]) => (match op with
      | .eql => some (.bool (a == b)) | .neq => some (.bool (!(a == b))) | _ => none)
    | _ => none)
  | .agg a, .agg b => (match sh with
    | some (true, ks) => bif ckOk ks a && ckOk ks b then (match op with
      | .eql => (match eqCells a b with | some c => some (.bool c) | none => none)
      | .neq => (match eqCells a b with | some c => some (.bool (!c)) | none => none)
      | _ => none) else none
    | _ => none)
  | _, _ => none

def binV (sh : Option (Bool × List CK)) (op : BinOp) : SV → SV → Option SV
  | .d x, .d y => (match binD sh op x y with | some r => some (.d r) | none => none)
  | _, _ => none

def unV (op : UnOp) : SV → Option SV
  | .d (.bool b) => (match op with | .not => some (.d (.bool (!b))) | _ => none)
  | .d (.int k n) => (match op with
    | .neg => some (.d (.int k (k.wrap (0 - n))))
    | .xor => some (.d (.int k (k.wrap (BitVec.ofInt k.bits (if k.signed then -1 else k.max) ^^^ BitVec.ofInt k.bits n).toNat)))
    | _ => none)
  | _ => none

end
section
variable (P : Program) (gl : Nat → Option D)
/-- a conversion: to an integer kind, or from a string to a string type -/
def convV (dst : TypeId) : SV → Option SV
  | .d (.int _ n) => (match P.underlying dst with | some (.int k) => some (.d (.int k (k.wrap n))) | _ => none)
  | .d (.str s) => (match P.underlying dst with | some .string => some (.d (.str s)) | _ => none)
  | _ => none

/-- the data of a value (what was owned is read from now on) -/
def toD : SV → Option D
  | .d x => some x
  | .own sz L => some (.sl .ro sz L)
  | .full sz L => some (.sl .ro sz L)
  | _ => none
def toDs : List SV → Option (List D)
  | [] => some []
  | v :: l => match toD v with
    | some x => (match toDs l with | some r => some (x :: r) | none => none)
    | none => none
/-- the elements of a slice, if its elements have sz cells -/
def elems (sz : Nat) : SV → Option (List D)
  | .d (.sl k s L) => (match k with | .nil => some [] | .ro => if s = sz then some L else none)
  | .own s L => if s = sz then some L else none
  | .full s L => if s = sz then some L else none
  | _ => none
def elemsAny : SV → Option (List D)
  | .d (.sl _ _ L) => some L
  | .own _ L => some L
  | .full _ L => some L
  | _ => none

/-- a part of cells: a cell, or an aggregate -/
def partD (agg : Bool) (sz off : Nat) (cs : List D) : Option D :=
  bif agg then (if off + sz ≤ cs.length then some (.agg ((cs.drop off).take sz)) else none) else cs[off]?
def partV (agg : Bool) (sz off : Nat) (cs : List SV) : Option SV :=
  bif agg then (if off + sz ≤ cs.length then (match toDs ((cs.drop off).take sz) with | some l => some (.d (.agg l)) | none => none) else none) else cs[off]?

def indexOk (x : SV) (n : Nat) : Option Nat := match x with
  | .d (.int _ i) => if 0 ≤ i ∧ i < n then some i.toNat else none
  | _ => none

/-- the length of what len takes -/
def lenV (t : TypeId) (x : SV) : Option SV := match P.underlying t with
  | some .string => (match x with | .d (.str s) => some (.d (.int .i64 s.length)) | _ => none)
  | some (.array n _) => bif Nat.ble n maxLen then some (.d (.int .i64 n)) else none
  | some (.slice _) => (match elemsAny x with | some L => some (.d (.int .i64 L.length)) | none => none)
  | _ => none

def setAt (cs : List SV) (off : Nat) : List SV → List SV
  | [] => cs
  | v :: l => setAt (cs.set off v) (off + 1) l

/-- the cells that a value fills -/
def cellsV (x : SV) : Option (List SV) := match x with
  | .d y => some (y.cells.map .d)
  | .tup _ => none
  | .undef => none
  | v => some [v]

def fillD (place : Nat → Option (Nat × Nat)) (cells : List D) : List (Nat × D) → Option (List D)
  | [] => some cells
  | (i, v) :: rest => match place i with
    | none => none
    | some (off, sz) => if v.cells.length = sz ∧ off + sz ≤ cells.length then fillD place (cells.take off ++ v.cells ++ cells.drop (off + sz)) rest else none

def partsD (ρ : Operand → Slot) : List (Nat × Operand) → Option (List (Nat × D))
  | [] => some []
  | (i, x) :: l => match ρ x with
    | .v y => (match toD y with
      | some z => (match partsD ρ l with | some r => some ((i, z) :: r) | none => none)
      | none => none)
    | _ => none

def placesL : List Field → Option (List (Nat × Nat))
  | [] => some []
  | f :: l => match sizeOf? P f.type with
    | some s => (match placesL l with | some r => some ((f.offset, s) :: r) | none => none)
    | none => none
def fieldPlaces (t : TypeId) : Option (Nat → Option (Nat × Nat)) := match P.underlying t with
  | some (.struct fs) => (match placesL P fs.toList with | some l => some fun i => l[i]? | none => none)
  | some (.array _ e) => (match sizeOf? P e with | some s => some fun i => some (i * s, s) | none => none)
  | _ => none

def buildD (t : TypeId) (ps : List (Nat × D)) : Option D := match zeroCells? P t with
  | some z => (match fieldPlaces P t with
    | some pl => (match fillD pl z ps with | some cs => some (.agg cs) | none => none)
    | none => none)
  | none => none

/-- one element -/
def mkElem (agg : Bool) (cs : List D) : D := bif agg then .agg cs else (match cs with | [x] => x | _ => .agg cs)
def findPart (i : Nat) : List (Nat × D) → Option D
  | [] => none
  | (j, x) :: l => match findPart i l with | some y => some y | none => bif i == j then some x else none
def buildElems (zero : D) (ps : List (Nat × D)) : Nat → Nat → List D
  | 0, _ => []
  | n + 1, i => (match findPart i ps with | some x => x | none => zero) :: buildElems zero ps n (i + 1)
def partsFit (sz n : Nat) : List (Nat × D) → Bool
  | [] => true
  | (i, x) :: l => Nat.blt i n && Nat.beq x.cells.length sz && partsFit sz n l


/-- ## snapshots: what a callee is handed -/
def snapList (f : Slot → SV) : List Slot → List SV
  | [] => []
  | s :: l => f s :: snapList f l
def snap (bxs : List Box) : (fuel : Nat) → Slot → SV
  | 0, _ => .undef
  | n + 1, s => match s with
    | .v x => Ab.demote x
    | .p b off => (match bxs[b]? with
      | some (.cells cs) => .ref (cs.map Ab.demote) off
      | some (.one s') => .ref [snap bxs n s'] off
      | _ => .undef)
    | .c f first cap => .clo f (snapList (snap bxs n) first) (snapList (snap bxs n) cap)
    | .t _ => .undef

/-- the value that a result's slot, or a part, holds -/
def Slot.toSV : Slot → SV
  | .v x => x
  | _ => .undef

end

/-- a contract: called with these values a function returns this one -/
abbrev Con := FuncId → List SV → SV → Prop

section
variable (P : Program) (gl : Nat → Option D) (C : Con)

def isTup : SV → Bool | .tup _ => true | _ => false
def callP (f : FuncId) (args : List SV) (k : SV → Prop) : Prop := ∃ r, C f args r ∧ isTup r = false ∧ k r
/-- n values -/
def exN : Nat → (List SV → Prop) → Prop
  | 0, k => k []
  | n + 1, k => ∃ r, exN n fun l => k (r :: l)
/-- several results (or none) -/
def callT (f : FuncId) (n : Nat) (args : List SV) (k : List SV → Prop) : Prop := exN n fun rs => C f args (.tup rs) ∧ k rs

/-- a value that is called -/
def withFn (x : SV) (args : List SV) (k : FuncId → List SV → Prop) : Prop := match x with
  | .d (.fn (.func f)) => k f args
  | .clo (.func f) first cap => k f (first ++ args ++ cap)
  | _ => False

/-- the function behind a method of a plain type -/
def meth? (t : TypeId) (name : String) : Option FuncId := match P.info? t with
  | some i => (match i.methods.find? (fun m => m.name == name) with
    | some m => (match m.path.toList, m.func with
      | [], some (f, false) => (match P.underlying t with
        | some (.pointer _) => none
        | some _ => some f
        | none => none)
      | _, _ => none)
    | none => none)
  | none => none
/-- a method of the value in an interface -/
def methV (x : SV) (name : String) : Option FuncId := match x with
  | .d (.iface t _) => meth? P t name
  | _ => none
/-- a method that is called through an interface -/
def withMeth (x : SV) (name : String) (args : List SV) (k : FuncId → List SV → Prop) : Prop := match x with
  | .d (.iface t y) => bindO (meth? P t name) fun f => k f (.d y :: args)
  | _ => False

def nresOf (f : FuncId) : Nat := match P.funcs[f]? with
  | some fn => fn.resultTypes.size
  | none => 0

/-- how many results a function type has -/
def arity (t : TypeId) : Nat := match P.underlying t with
  | some (.tuple ts) => ts.size
  | _ => 1

def callK (n : Nat) (bxs : List Box) (k : Slot → List Box → Prop) (f : FuncId) (args : List SV) : Prop :=
  match n with
  | 1 => callP C f args fun r => k (.v r) bxs
  | n => callT C f n args fun rs => k (.t rs) bxs

def argsOf (bxs : List Box) (ρ : Operand → Slot) : List Operand → List SV
  | [] => []
  | x :: l => snap bxs 6 (ρ x) :: argsOf bxs ρ l

/-- append: the elements' size in cells and in bytes, whether an element is an aggregate -/
def appV (sz : Nat) (x y : SV) : Option (SV × Nat) :=
  match elems sz y with
  | none => none
  | some M => match x with
    | .own s L => if s = sz then some (.own sz (L ++ M), L.length + M.length) else none
    | .full s L => if s = sz then (if M = [] then some (.full sz L, L.length) else some (.own sz (L ++ M), L.length + M.length)) else none
    | .d (.sl .nil _ _) => if M = [] then some (x, 0) else some (.own sz M, M.length)
    | _ => none
def appP (sz bytes : Nat) (x y : SV) (k : SV → Prop) : Prop :=
  bindO (appV sz x y) fun r => r.2 * bytes ≤ 140737488355328 ∧ k r.1

def loadBox (agg : Bool) (sz b off : Nat) (bxs : List Box) (k : Slot → List Box → Prop) : Prop :=
  match bxs[b]? with
  | some (.cells cs) => bindO (partV agg sz off cs) fun x => k (.v (Ab.demote x)) bxs
  | some (.one s) => bif agg then False else (match off with | 0 => k s.demote bxs | _ => False)
  | _ => False

def loadV (agg : Bool) (sz : Nat) (x : SV) : Option SV := match x with
  | .dptr y off => (match partD agg sz off y.cells with | some z => some (.d z) | none => none)
  | .ref cs off => (match partV agg sz off cs with | some z => some (Ab.demote z) | none => none)
  | _ => none

def storeBox (sz b off : Nat) (x : Slot) (bxs : List Box) (k : List Box → Prop) : Prop :=
  match bxs[b]? with
  | some (.cells cs) => (match x with
    | .v y => bindO (cellsV y) fun l => l.length = sz ∧ off + sz ≤ cs.length ∧ k (bxs.set b (.cells (setAt cs off l)))
    | .t _ => False
    | s => (match sz, off, cs with | 1, 0, [_] => k (bxs.set b (.one s)) | _, _, _ => False))
  | some (.one _) => (match sz, off with
    | 1, 0 => (match x with
      | .v y => bindO (cellsV y) fun l => l.length = 1 ∧ k (bxs.set b (.cells l))
      | .t _ => False
      | s => k (bxs.set b (.one s)))
    | _, _ => False)
  | _ => False

def addOff (x : Slot) (n : Nat) (k : Slot → Prop) : Prop := match x with
  | .p b off => k (.p b (off + n))
  | .v (.dptr y off) => k (.v (.dptr y (off + n)))
  | .v (.ref cs off) => k (.v (.ref cs (off + n)))
  | _ => False
/-- the same where the text does not know what x is -/
def addOffV (x : SV) (n : Nat) : Option SV := match x with
  | .dptr y off => some (.dptr y (off + n))
  | .ref cs off => some (.ref cs (off + n))
  | _ => none

/-- an element's address -/
def elemPtr (sz : Nat) (x i : SV) : Option SV := match elems sz x with
  | some L => (match indexOk i L.length with
    | some n => (match L[n]? with | some y => some (.dptr y 0) | none => none)
    | none => none)
  | none => none

def hiOf (n : Nat) : Option SV → Option Nat
  | some h => indexOk h (n + 1)
  | none => some n
def loOf (h : Nat) : Option SV → Option Nat
  | some l => indexOk l (h + 1)
  | none => some 0
def subOf (L : List D) (lo hi : Option SV) : Option (List D) :=
  match hiOf L.length hi with
  | some h => (match loOf h lo with
    | some l => some ((L.take h).drop l)
    | none => none)
  | none => none
def subStr (L : List UInt8) (lo hi : Option SV) : Option (List UInt8) :=
  match hiOf L.length hi with
  | some h => (match loOf h lo with
    | some l => some ((L.take h).drop l)
    | none => none)
  | none => none

/-- a part of a slice or a string -/
def sliceV (t : TypeId) (x : SV) (lo hi mx : Option SV) : Option SV :=
  match P.underlying t with
  | some .string => (match x, mx with
    | .d (.str s), none => (match subStr s lo hi with | some r => some (.d (.str r)) | none => none)
    | _, _ => none)
  | some (.slice e) => (match toD x, sizeOf? P e with
    | some (.sl k sz L), some s => (match subOf L lo hi, mx with
      | some r, none => (match k with | .nil => some (.d (.sl .nil s [])) | .ro => if sz = s then some (.d (.sl .ro sz r)) else none)
      | some r, some m => (match hi, indexOk m (L.length + 1) with
        | some h, some _ => (match h, m with
          | .d (.int _ a), .d (.int _ b) => if a = b then (match k with | .nil => some (.d (.sl .nil s [])) | .ro => if sz = s then some (.full sz r) else none) else none
          | _, _ => none)
        | _, _ => none)
      | none, _ => none)
    | _, _ => none)
  | _ => none

def optV (ρ : Operand → Slot) : Option Operand → Option SV
  | some x => some (ρ x).toSV
  | none => none

def minD (a b : Int) : Int := if b < a then b else a
def maxD (a b : Int) : Int := if b > a then b else a
def foldIntV (f : Int → Int → Int) : SV → List SV → Option SV
  | .d (.int k a), [] => some (.d (.int k a))
  | .d (.int k a), .d (.int k' b) :: l => if k = k' then foldIntV f (.d (.int k (f a b))) l else none
  | _, _ => none

def nonNilV (x : SV) : Option SV := match x with
  | .dptr y o => some (.dptr y o)
  | .ref cs o => some (.ref cs o)
  | .clo f a b => (match f with | .func n => some (.clo (.func n) a b) | _ => none)
  | .d (.fn f) => (match f with | .func n => some (.d (.fn (.func n))) | _ => none)
  | _ => none

def indexV (agg : Bool) (sz n : Nat) (x i : SV) : Option SV := match x with
  | .d (.agg cs) => (match indexOk i n with
    | some j => (match partD agg sz (j * sz) cs with | some r => some (.d r) | none => none)
    | none => none)
  | _ => none
def strAt (x i : SV) : Option SV := match x with
  | .d (.str s) => (match indexOk i s.length with
    | some j => (match s[j]? with | some b => some (.d (.int .u8 b.toNat)) | none => none)
    | none => none)
  | _ => none
def fieldV (agg : Bool) (sz off : Nat) (x : SV) : Option SV := match x with
  | .d (.agg cs) => (match partD agg sz off cs with | some r => some (.d r) | none => none)
  | _ => none
def ifaceV (t : TypeId) (x : SV) : Option SV := match toD x with
  | some y => some (.d (.iface t y))
  | none => none

def bytesOf? (t : TypeId) : Option Nat := match P.info? t with
  | some i => some i.bytes
  | none => none
def elemOf? (t : TypeId) : Option TypeId := match P.underlying t with
  | some (.slice e) => some e
  | _ => none
def fieldOf? (t : TypeId) (i : Nat) : Option Field := match P.underlying t with
  | some (.struct fs) => fs.toList[i]?
  | _ => none
def isSlice (t : TypeId) : Bool := match P.underlying t with
  | some (.slice _) => true
  | _ => false
def isIface (t : TypeId) : Bool := match P.underlying t with
  | some (.interface _) => true
  | none => true
  | _ => false

/-- what one operation does, of operands ρ and variables bxs -/
def eff (id : Nat) (o : Oper) (ρ : Operand → Slot) (bxs : List Box) (k : Slot → List Box → Prop) : Prop :=
  match o.op with
  | .move x | .assign x => k (ρ x) bxs
  | .pick c a b => (match ρ c with
    | .v x => ifP x (k (ρ a) bxs) (k (ρ b) bxs)
    | _ => False)
  | .alloc t => (match bxs[id]? with
    | some .none => bindO (zeroCells? P t) fun z => k (.p id 0) (bxs.set id (.cells (z.map .d)))
    | _ => False)
  | .box t x => (match bxs[id]? with
    | some .none => bindO (sizeOf? P t) fun sz => (match ρ x with
      | .v y => bindO (cellsV y) fun l => l.length = sz ∧ k (.p id 0) (bxs.set id (.cells l))
      | .t _ => False
      | s => (match sz with | 1 => k (.p id 0) (bxs.set id (.one s)) | _ => False))
    | _ => False)
  | .build t ps => bindO (partsD ρ ps.toList) fun l => bindO (buildD P t l) fun r => k (.v (.d r)) bxs
  | .buildSlice t n ps => bindO (elemOf? P t) fun e => bindO (lay? P e) fun ly => bindO (zeroCells? P e) fun z => bindO (partsD ρ ps.toList) fun l =>
      bif Nat.ble (n * ly.2) (2 ^ 24) && Nat.blt 0 ly.2 && Nat.beq z.length ly.2 then (partsFit ly.2 n l = true ∧ k (.v (.full ly.2 (buildElems (mkElem ly.1 z) l n 0))) bxs) else False
  | .load t a => bindO (lay? P t) fun ly => (match ρ a with
    | .p b off => loadBox ly.1 ly.2 b off bxs k
    | .v x => bindO (loadV ly.1 ly.2 x) fun y => k (.v y) bxs
    | _ => False)
  | .store t a x => bindO (sizeOf? P t) fun sz => (match ρ a with
    | .p b off => (match o.dst with | none => storeBox sz b off (ρ x) bxs fun bxs' => k (.t []) bxs' | some _ => False)
    | _ => False)
  | .nilCheck x => (match ρ x with
    | .v y => bindO (nonNilV y) fun z => k (.v z) bxs
    | .t _ => False
    | .c f first cap => (match f with
      | .func _ => k (.c f first cap) bxs
      | .method name => (match first with
        | .v y :: _ => bindO (methV P y name) fun _ => k (.c f first cap) bxs
        | _ => False)
      | _ => False)
    | .p b off => k (.p b off) bxs)
  | .binOp op t x y _ => bindO (binV (eqShape P op t) op (ρ x).toSV (ρ y).toSV) fun r => k (.v r) bxs
  | .unOp op _ x => bindO (unV op (ρ x).toSV) fun r => k (.v r) bxs
  | .convert src dst x => bif (P.underlying src).isSome then (bindO (convV P dst (ρ x).toSV) fun r => k (.v r) bxs) else False
  | .makeInterface t x => bif isIface P t then False else bindO (ifaceV t (ρ x).toSV) fun r => k (.v r) bxs
  | .makeFunc fn first cap => k (.c fn (first.toList.map fun x => (ρ x).demote) (cap.toList.map fun x => (ρ x).demote)) bxs
  | .slice t x lo hi mx => bindO (sliceV P t (Ab.demote (ρ x).toSV) (optV ρ lo) (optV ρ hi) (optV ρ mx)) fun r => k (.v r) bxs
  | .fieldAddr t x f => bindO (fieldOf? P t f) fun fd => bindO (sizeOf? P fd.type) fun sz => bif Nat.beq sz 0 then False else (match ρ x with
    | .p b off => k (.p b (off + fd.offset)) bxs
    | .v y => bindO (addOffV y fd.offset) fun z => k (.v z) bxs
    | _ => False)
  | .field t x f => bindO (fieldOf? P t f) fun fd => bindO (lay? P fd.type) fun ly => bindO (fieldV ly.1 ly.2 fd.offset (ρ x).toSV) fun r => k (.v r) bxs
  | .indexAddr t x i => (match P.underlying t with
    | some (.slice e) => bindO (sizeOf? P e) fun sz => bindO (elemPtr sz (ρ x).toSV (ρ i).toSV) fun r => k (.v r) bxs
    | some (.array n e) => bindO (sizeOf? P e) fun sz => bindO (indexOk (ρ i).toSV n) fun j => (match ρ x with
      | .p b off => k (.p b (off + j * sz)) bxs
      | .v y => bindO (addOffV y (j * sz)) fun z => k (.v z) bxs
      | _ => False)
    | _ => False)
  | .index t x i => (match P.underlying t with
    | some (.array n e) => bindO (lay? P e) fun ly => bindO (indexV ly.1 ly.2 n (ρ x).toSV (ρ i).toSV) fun r => k (.v r) bxs
    | some .string => bindO (strAt (ρ x).toSV (ρ i).toSV) fun r => k (.v r) bxs
    | _ => False)
  | .extract x i => (match ρ x with
    | .t vs => (match vs[i]? with | some r => k (.v r) bxs | none => False)
    | _ => False)
  | .call c => (match c.callee with
    | .value f => (match ρ f with
      | .v x => withFn x (argsOf bxs ρ c.args.toList) (callK C (arity P o.type) bxs k)
      | .c (.func g) first cap => callK C (arity P o.type) bxs k g (snapList (snap bxs 6) first ++ argsOf bxs ρ c.args.toList ++ snapList (snap bxs 6) cap)
      | _ => False)
    | .invoke recv name => (match ρ recv with
      | .v x => withMeth P x name (argsOf bxs ρ c.args.toList) (callK C (arity P o.type) bxs k)
      | _ => False)
    | .builtin b => (match b, c.args.toList, c.argTypes.toList with
      | .len, x :: _, t :: _ => bindO (lenV P t (ρ x).toSV) fun r => k (.v r) bxs
      | .append, [x, y], [t, u] => bif Nat.beq t u then (bindO (elemOf? P t) fun e => bindO (sizeOf? P e) fun sz => bindO (bytesOf? P e) fun by_ => bindO (zeroCells? P e) fun z =>
          bif Nat.blt 0 by_ && Nat.blt 0 sz && Nat.beq z.length sz then appP sz by_ (ρ x).toSV (ρ y).toSV fun r => k (.v r) bxs else False) else False
      | .min, x :: l, _ => bindO (foldIntV minD (ρ x).toSV (l.map fun y => (ρ y).toSV)) fun r => k (.v r) bxs
      | .max, x :: l, _ => bindO (foldIntV maxD (ρ x).toSV (l.map fun y => (ρ y).toSV)) fun r => k (.v r) bxs
      | _, _, _ => False))
  | _ => False

/-- the temporaries that an operation reads -/
def tmpsOf (o : Oper) : List Nat := o.op.operands.toList.filterMap fun | .tmp t => some t | _ => none
def putSlot (l : List Slot) (dst : Option Nat) (s : Slot) : List Slot := match dst with
  | some d => l.set d s
  | none => l

/-- an operation that hands an owned slice on -/
def evLin (o : Oper) (e : Env) (k : Env → Prop) : Prop := match o.op with
  | .move (.tmp t) | .assign (.tmp t) => k ⟨putSlot (e.slots.set t (e.slots.getD t (.v .undef)).demote) o.dst (e.slots.getD t (.v .undef)), e.boxes⟩
  | .extract (.tmp t) i => (match e.slots.getD t (.v .undef) with
    | .t vs => (match vs[i]? with
      | some r => k ⟨putSlot (e.slots.set t (.t (vs.set i (demote r)))) o.dst (.v r), e.boxes⟩
      | none => False)
    | _ => False)
  | .load ty a => (match (opnd gl e a).demote with
    | .p b off => bindO (lay? P ty) fun ly => bif ly.1 then False else (match e.boxes[b]? with
      | some (.cells cs) => bindO cs[off]? fun x => k ⟨putSlot e.slots o.dst (.v x), e.boxes.set b (.cells (cs.set off (demote x)))⟩
      | _ => False)
    | _ => False)
  | .store ty a (.tmp t) => (match (opnd gl e a).demote, e.slots.getD t (.v .undef), o.dst with
    | .p b off, .v y, none => bindO (sizeOf? P ty) fun sz => bif Nat.beq sz 1 then (match e.boxes[b]? with
      | some (.cells cs) => bindO (cellsV y) fun l => l.length = 1 ∧ off < cs.length ∧ k ⟨e.slots.set t (.v (demote y)), e.boxes.set b (.cells (setAt cs off l))⟩
      | _ => False) else False
    | _, _, _ => False)
  | .call c => (match c.callee, c.args.toList, c.argTypes.toList with
    | .builtin .append, [.tmp t, y], [ty, u] => bif Nat.beq ty u then (bindO (elemOf? P ty) fun e' => bindO (sizeOf? P e') fun sz => bindO (bytesOf? P e') fun by_ => bindO (zeroCells? P e') fun z =>
          bif Nat.blt 0 by_ && Nat.blt 0 sz && Nat.beq z.length sz then appP sz by_ (e.slots.getD t (.v .undef)).toSV ((opnd gl e y).demote).toSV fun r =>
            k ⟨putSlot (e.slots.set t (e.slots.getD t (.v .undef)).demote) o.dst (.v r), e.boxes⟩ else False) else False
    | _, _, _ => False)
  | _ => False
def evOp (id : Nat) (lin : Bool) (o : Oper) (e : Env) (k : Env → Prop) : Prop :=
  bif lin then evLin P gl o e k
  else eff P C id o (fun x => (opnd gl e x).demote) e.boxes fun r bxs => k ⟨putSlot e.slots o.dst r, bxs⟩

def Env.setB (e : Env) (t : Nat) (b : Bool) : Env := ⟨e.slots.set t (.v (.d (.bool b))), e.boxes⟩

def guardP (all : List Oper) (o : Oper) (e : Env) (A B : Env → Prop) : Prop :=
  match o.guard with
  | none => A e
  | some (j, want) => (match (match all[j]? with | some g => g.dst | none => none) with
    | some t => (match e.slots.getD t (.v .undef) with
      | .v x => ifP x (bif want then A (e.setB t true) else B (e.setB t true)) (bif want then B (e.setB t false) else A (e.setB t false))
      | .t _ => B e
      | _ => False)
    | none => False)

/-- does an operation make a variable -/
def makesMem (o : Oper) : Bool := match o.op with | .alloc _ | .box .. => true | _ => false
/-- how many of the first i operations make one -/
def rankOf : List Oper → Nat → Nat
  | [], _ => 0
  | _, 0 => 0
  | o :: l, i + 1 => (bif makesMem o then 1 else 0) + rankOf l i
def evOps (lin : Nat → Bool) (all : List Oper) (base : Nat) : List Oper → Nat → Env → (Env → Prop) → Prop
  | [], _, e, k => k e
  | o :: rest, i, e, k => guardP all o e
      (fun e' => evOp P gl C (base + rankOf all i) (lin i) o e' fun e'' => evOps lin all base rest (i + 1) e'' k)
      (fun e' => evOps lin all base rest (i + 1) ⟨putSlot e'.slots o.dst (.t []), e'.boxes⟩ k)
/-- a region: places for the variables that it makes, then its operations -/
def evRegion (lin : Nat → Bool) (ops : List Oper) (e : Env) (k : Env → Prop) : Prop :=
  evOps P gl C lin ops e.boxes.length ops 0 ⟨e.slots, e.boxes ++ List.replicate (rankOf ops ops.length) .none⟩ k

inductive Ex where
  | normal
  | exit (id : Nat)
  | ret

def loopP (F : List SV → List (List SV) → (List SV → List (List SV) → Prop) → Prop) (vs : List SV) (bs : List (List SV)) : Prop :=
  ∀ I : List SV → List (List SV) → Prop, (∀ vs bs, F vs bs I → I vs bs) → I vs bs

def firstId : Code → Nat
  | .region id _ _ => id
  | .seq a _ => firstId a
  | .block _ b => firstId b
  | .loop b => firstId b
  | .scope b => firstId b
  | _ => 0

def writesOf : Code → List Nat
  | .region _ ops _ => ops.toList.filterMap (·.dst)
  | .seq a b => writesOf a ++ writesOf b
  | .cond _ a b => writesOf a ++ writesOf b
  | .block _ b => writesOf b
  | .loop b => writesOf b
  | .scope b => writesOf b
  | _ => []

def Box.vals : Box → List SV
  | .cells cs => cs
  | _ => [.undef]
def valsOf (e : Env) (vars : List Nat) : List SV := vars.map fun t => (e.slots.getD t (.v .undef)).toSV
def boxesOf (n : Nat) (e : Env) : List (List SV) := (e.boxes.take n).map Box.vals
def Slot.stays : Slot → Slot
  | .p b off => .p b off
  | .c f first cap => .c f first cap
  | _ => .v .undef
def place (t : Nat) : List Nat → Nat → Option Nat
  | [], _ => none
  | v :: l, i => bif v == t then some i else place t l (i + 1)
/-- a loop's values -/
def vget (vs : List SV) (j : Nat) : SV := vs.getD j .undef
def bget (bs : List (List SV)) (i : Nat) : List SV := bs.getD i []
def restartSlots (vars consts : List Nat) (vs : List SV) : List Slot → Nat → List Slot
  | [], _ => []
  | s :: l, t => (match place t vars 0 with
    | some j => .v (vget vs j)
    | none => bif consts.contains t then s.stays else .v .undef) :: restartSlots vars consts vs l (t + 1)
def restartBoxes (bs : List (List SV)) : List Box → Nat → List Box
  | [], _ => []
  | _ :: l, i => .cells (bget bs i) :: restartBoxes bs l (i + 1)

/-- hints of the text: which operations hand an owned slice on; which slots live at a loop's head -/
structure Hints where
  lin : List (Nat × Nat)
  keep : List (Nat × List Nat × List Nat)

def linAt (h : Hints) (id i : Nat) : Bool := h.lin.any fun p => p.1 == id && p.2 == i
def keepAt (h : List (Nat × List Nat × List Nat)) (id : Nat) : List Nat × List Nat := match h with
  | [] => ([], [])
  | (j, r) :: l => bif j == id then r else keepAt l id

/-- two operations of a region that draws its order: neither sees the other -/
def writesMem (o : Oper) : Bool := match o.op with | .store .. => true | _ => false
def looksMem (o : Oper) : Bool := match o.op with | .store .. | .load .. | .call _ => true | _ => false
def touches (lin : Bool) (o : Oper) : List Nat := (match o.dst with | some d => [d] | none => []) ++ (bif lin then tmpsOf o else [])
def indep (all : Array Oper) (linx liny : Bool) (x y : Oper) : Bool :=
  (touches linx x).all (fun d => !(y.looksAt all).contains d && !(touches liny y).contains d) &&
  (touches liny y).all (fun d => !(x.looksAt all).contains d) &&
  !(writesMem x && looksMem y) && !(writesMem y && looksMem x) &&
  !(linx && liny && looksMem x && looksMem y)

end
end Go.Proofs.YtcnnhnjcnekhcaaGreat.Ab
/-
  THE ABSTRACT WALK: what data and slots stand for in a world.
-/
namespace Go.Proofs.YtcnnhnjcnekhcaaGreat.Ab
open Go Go.RowKit

/-- data of one cell -/
def D.one : D → Bool
  | .agg _ => false
  | _ => true

section
variable (w : World) (St : Nat → Nat → Prop)

/-- a value that stands for data, in memory that stays -/
inductive RepD : D → Value → Prop
  | bool (b : Bool) : RepD (.bool b) (.bool b)
  | int (k : IntKind) (n : Int) (h : wfI k n = true) : RepD (.int k n) (.int k n)
  | str (s : ByteArray) (h : s.size ≤ maxLen) : RepD (.str s.data.toList) (.string s)
  | agg (ds : List D) (vs : Array Value) (hf : ∀ d ∈ ds, d.one = true) (hl : ds.length = vs.size) (hc : ∀ (i : Nat) d v, ds[i]? = some d → vs[i]? = some v → RepD d v) : RepD (.agg ds) (.agg vs)
  | nilsl (sz : Nat) : RepD (.sl .nil sz []) (.slice none 0 0)
  | sl (sz : Nat) (L : List D) (b off cap : Nat) (vs : Nat → Value) (hcap : L.length ≤ cap) (hm : L.length ≤ maxLen) (hsz : ∀ x ∈ L, x.cells.length = sz)
      (hf : ∀ x ∈ L, ∀ c ∈ x.cells, c.one = true) (hcell : ∀ (o : Nat), o < L.length * sz → w.cell? ⟨b, off + o, none⟩ = some (vs o) ∧ St b (off + o))
      (hc : ∀ (i : Nat) x (j : Nat) c, L[i]? = some x → x.cells[j]? = some c → RepD c (vs (i * sz + j))) :
      RepD (.sl .ro sz L) (.slice (some ⟨b, off, none⟩) L.length cap)
  | slz (sz : Nat) (a : Addr) (cap : Nat) (ha : a.spot ≠ none) : RepD (.sl .ro sz []) (.slice (some a) 0 cap)
  | fn (f : Fn) : RepD (.fn f) (.func f #[] #[])
  | nilfn : RepD .nilfn .nilFunc
  | iface (t : TypeId) (x : D) (v : Value) (h : RepD x v) : RepD (.iface t x) (.iface t v)
  | nilif : RepD .nilif .nilIface
  | nilptr : RepD .nilptr (.pointer none)

/-- a value that stands for what a slot holds; O: what is known of the row of an owned slice (its block, its end, the row's end) -/
inductive RepV (base : Nat) : (Nat → Nat → Nat → Prop) → SV → Value → Prop
  | d (O : Nat → Nat → Nat → Prop) (x : D) (v : Value) (h : RepD w St x v) : RepV base O (.d x) v
  | own (O : Nat → Nat → Nat → Prop) (sz : Nat) (L : List D) (g cap : Nat) (h : RepD w St (.sl .ro sz L) (.slice (some ⟨g, 0, none⟩) L.length cap)) (hcap : cap ≤ maxLen)
      (ho : O g (L.length * sz) (cap * sz)) : RepV base O (.own sz L) (.slice (some ⟨g, 0, none⟩) L.length cap)
  | full (O : Nat → Nat → Nat → Prop) (sz : Nat) (L : List D) (a : Addr) (h : RepD w St (.sl .ro sz L) (.slice (some a) L.length L.length)) :
      RepV base O (.full sz L) (.slice (some a) L.length L.length)
  | ref (O : Nat → Nat → Nat → Prop) (cs : List SV) (off b o : Nat) (vs : Nat → Value) (hb : b < base)
      (hcell : ∀ (i : Nat), i < cs.length → w.cell? ⟨b, o + i, none⟩ = some (vs i) ∧ (vs i).oneCell' = true)
      (hc : ∀ (i : Nat) c, cs[i]? = some c → RepV base (fun _ _ _ => False) c (vs i)) : RepV base O (.ref cs off) (.pointer (some ⟨b, o + off, none⟩))
  | dptr (O : Nat → Nat → Nat → Prop) (x : D) (off b o : Nat) (vs : Nat → Value) (hf : ∀ c ∈ x.cells, c.one = true)
      (hcell : ∀ (i : Nat), i < x.cells.length → w.cell? ⟨b, o + i, none⟩ = some (vs i) ∧ St b (o + i))
      (hc : ∀ (i : Nat) c, x.cells[i]? = some c → RepD w St c (vs i)) : RepV base O (.dptr x off) (.pointer (some ⟨b, o + off, none⟩))
  | clo (O : Nat → Nat → Nat → Prop) (f : Fn) (first cap : List SV) (fv cv : Array Value) (hf : first.length = fv.size) (hc : cap.length = cv.size)
      (rf : ∀ (i : Nat) x v, first[i]? = some x → fv[i]? = some v → RepV base (fun _ _ _ => False) x v)
      (rc : ∀ (i : Nat) x v, cap[i]? = some x → cv[i]? = some v → RepV base (fun _ _ _ => False) x v) : RepV base O (.clo f first cap) (.func f fv cv)
  | undef (O : Nat → Nat → Nat → Prop) (v : Value) : RepV base O .undef v
end

theorem RepD.mono {w w' : World} {St St' : Nat → Nat → Prop} (h : ∀ b o, St b o → St' b o ∧ w'.cell? ⟨b, o, none⟩ = w.cell? ⟨b, o, none⟩) {d : D} {v : Value}
    (r : RepD w St d v) : RepD w' St' d v := by
  induction r with
  | bool b => exact .bool b
  | int k n hk => exact .int k n hk
  | str s hs => exact .str s hs
  | agg ds vs hf hl _ ih => exact .agg ds vs hf hl ih
  | nilsl sz => exact .nilsl sz
  | sl sz L b off cap vs hcap hm hsz hf hcell _ ih =>
    exact .sl sz L b off cap vs hcap hm hsz hf (fun o ho => ⟨(h _ _ (hcell o ho).2).2.trans (hcell o ho).1, (h _ _ (hcell o ho).2).1⟩) ih
  | slz sz a cap ha => exact .slz sz a cap ha
  | fn f => exact .fn f
  | nilfn => exact .nilfn
  | iface t x v _ ih => exact .iface t x v ih
  | nilif => exact .nilif
  | nilptr => exact .nilptr

theorem RepV.mono {w w' : World} {St St' : Nat → Nat → Prop} {base : Nat} (h : ∀ b o, St b o → St' b o ∧ w'.cell? ⟨b, o, none⟩ = w.cell? ⟨b, o, none⟩)
    (hb : ∀ b o, b < base → w'.cell? ⟨b, o, none⟩ = w.cell? ⟨b, o, none⟩) {O : Nat → Nat → Nat → Prop} {x : SV} {v : Value} (r : RepV w St base O x v) :
    ∀ O' : Nat → Nat → Nat → Prop, (∀ g a c, O g a c → O' g a c) → RepV w' St' base O' x v := by
  induction r with
  | d O x v hd => exact fun O' _ => .d O' x v (hd.mono h)
  | own O sz L g cap hd hcap ho => exact fun O' hO => .own O' sz L g cap (hd.mono h) hcap (hO _ _ _ ho)
  | full O sz L a hd => exact fun O' _ => .full O' sz L a (hd.mono h)
  | ref O cs off b o vs hbb hcell _ ih => exact fun O' _ => .ref O' cs off b o vs hbb (fun i hi => ⟨(hb _ _ hbb).trans (hcell i hi).1, (hcell i hi).2⟩) fun i c hc => ih i c hc _ (fun _ _ _ h => h)
  | dptr O x off b o vs hf hcell hc =>
    exact fun O' _ => .dptr O' x off b o vs hf (fun i hi => ⟨(h _ _ (hcell i hi).2).2.trans (hcell i hi).1, (h _ _ (hcell i hi).2).1⟩) fun i c hi => (hc i c hi).mono h
  | clo O f first cap fv cv hf hc _ _ ihf ihc => exact fun O' _ => .clo O' f first cap fv cv hf hc (fun i x v a b => ihf i x v a b _ (fun _ _ _ h => h)) (fun i x v a b => ihc i x v a b _ (fun _ _ _ h => h))
  | undef O v => exact fun O' _ => .undef O' v

/-- what is read from now on -/
theorem RepV.demote {w : World} {St : Nat → Nat → Prop} {base : Nat} {O O' : Nat → Nat → Nat → Prop} {x : SV} {v : Value} (r : RepV w St base O x v) : RepV w St base O' (demote x) v := by
  cases r with
  | d _ x v hd => exact .d _ x v hd
  | own _ sz L g cap hd hcap ho => exact .d _ _ _ hd
  | full _ sz L a hd => exact .full _ sz L a hd
  | ref _ cs off b o vs hbb hcell hc => exact .ref _ cs off b o vs hbb hcell hc
  | dptr _ x off b o vs hf hcell hc => exact .dptr _ x off b o vs hf hcell hc
  | clo _ f first cap fv cv hf hc rf rc => exact .clo _ f first cap fv cv hf hc rf rc
  | undef _ v => exact .undef _ _

theorem RepV.toD {w : World} {St : Nat → Nat → Prop} {base : Nat} {O : Nat → Nat → Nat → Prop} {x : SV} {v : Value} (r : RepV w St base O x v) {y : D} (h : Ab.toD x = some y) : RepD w St y v := by
  cases r <;> simp only [Ab.toD, Option.some.injEq, reduceCtorEq] at h <;> subst h <;> assumption

mutual
/-- what a value that stands for something satisfies -/
def SV.Wf : SV → Prop
  | .d x => x.Wf
  | .own sz L => (D.sl .ro sz L).Wf
  | .full sz L => (D.sl .ro sz L).Wf
  | .ref cs _ => SV.WfL cs
  | .dptr x _ => D.WfL x.cells
  | .clo _ a b => SV.WfL a ∧ SV.WfL b
  | .tup l => SV.WfL l
  | .undef => True
def SV.WfL : List SV → Prop
  | [] => True
  | x :: l => x.Wf ∧ SV.WfL l
end

theorem D.WfL_iff : ∀ (l : List D), D.WfL l ↔ ∀ x ∈ l, x.Wf
  | [] => by simp [D.WfL]
  | x :: l => by simp [D.WfL, D.WfL_iff l]
theorem SV.WfL_iff : ∀ (l : List SV), SV.WfL l ↔ ∀ x ∈ l, x.Wf
  | [] => by simp [SV.WfL]
  | x :: l => by simp [SV.WfL, SV.WfL_iff l]

theorem RepD.cells_one {w : World} {St : Nat → Nat → Prop} {d : D} {v : Value} (r : RepD w St d v) : ∀ c ∈ d.cells, c.one = true := by
  cases r with
  | agg ds vs hf hl hc => exact hf
  | _ => intro c hc; simp only [D.cells, List.mem_singleton] at hc; subst hc; rfl
theorem RepD.oneCell {w : World} {St : Nat → Nat → Prop} {d : D} {v : Value} (r : RepD w St d v) (h : d.one = true) : v.oneCell' = true := by
  cases r <;> first | rfl | simp [D.one] at h

theorem RepD.wf {w : World} {St : Nat → Nat → Prop} {d : D} {v : Value} (r : RepD w St d v) : d.Wf := by
  induction r with
  | int k n hk => simpa [D.Wf] using hk
  | str s hs => rw [D.Wf]; exact hs
  | agg ds vs hf hl _ ih =>
    rw [D.Wf, D.WfL_iff]
    intro x hx
    obtain ⟨i, hi, rfl⟩ := List.mem_iff_getElem.1 hx
    exact ih i _ (vs[i]'(by omega)) (by simp) (by simp)
  | nilsl sz => simp [D.Wf, D.WfL]
  | slz sz a cap => simp [D.Wf, D.WfL]
  | sl sz L b off cap vs hcap hm hsz hf hcell hc ih =>
    rw [D.Wf]
    refine ⟨hm, by simp, hsz, ?_⟩
    rw [D.WfL_iff]
    intro x hx
    obtain ⟨i, hi, rfl⟩ := List.mem_iff_getElem.1 hx
    have key : ∀ c ∈ (L[i]).cells, c.Wf := fun c hcm => by
      obtain ⟨j, hj, rfl⟩ := List.mem_iff_getElem.1 hcm
      exact ih i _ j _ (List.getElem?_eq_getElem hi) (List.getElem?_eq_getElem hj)
    cases hL : L[i] with
    | agg cs => rw [hL] at key; rw [D.Wf, D.WfL_iff]; exact key
    | _ => rw [hL] at key; exact key _ (by simp [D.cells])
  | iface t x v _ ih => simpa [D.Wf] using ih
  | _ => simp [D.Wf]

theorem RepV.wf {w : World} {St : Nat → Nat → Prop} {base : Nat} {O : Nat → Nat → Nat → Prop} {x : SV} {v : Value} (r : RepV w St base O x v) : x.Wf := by
  induction r with
  | d O x v hd => simpa [SV.Wf] using hd.wf
  | own O sz L g cap hd hcap ho => simpa [SV.Wf] using hd.wf
  | full O sz L a hd => simpa [SV.Wf] using hd.wf
  | ref O cs off b o vs hbb hcell _ ih =>
    rw [SV.Wf, SV.WfL_iff]
    intro x hx
    obtain ⟨i, hi, rfl⟩ := List.mem_iff_getElem.1 hx
    exact ih i _ (by simp)
  | dptr O x off b o vs hf hcell hc =>
    rw [SV.Wf, D.WfL_iff]
    intro c hcm
    obtain ⟨j, hj, rfl⟩ := List.mem_iff_getElem.1 hcm
    exact (hc j _ (by simp)).wf
  | clo O f first cap fv cv hf hc _ _ ihf ihc =>
    rw [SV.Wf, SV.WfL_iff, SV.WfL_iff]
    constructor
    · intro x hx
      obtain ⟨i, hi, rfl⟩ := List.mem_iff_getElem.1 hx
      exact ihf i _ (fv[i]'(by omega)) (by simp) (by simp)
    · intro x hx
      obtain ⟨i, hi, rfl⟩ := List.mem_iff_getElem.1 hx
      exact ihc i _ (cv[i]'(by omega)) (by simp) (by simp)
  | undef => simp [SV.Wf]

/-- the places that own rows -/
inductive Pos where
  | s (i j : Nat)
  | b (i j : Nat)
  deriving DecidableEq

/-- what the walk knows beside the world: the memory that stays, the blocks of the variables, who owns a row -/
structure Gh where
  St : Nat → Nat → Prop
  bx : List (Option Nat)
  ow : Nat → Option Pos

/-- a row of this call's own, whole, that this place owns, and whose places beyond the slice's end nobody reads -/
def OwnAt (base : Nat) (w : World) (g : Gh) (p : Pos) (b a c : Nat) : Prop :=
  g.ow b = some p ∧ base ≤ b ∧ some b ∉ g.bx ∧ (∃ cur e, w.heap[b]? = some (.cells cur e (0, 0)) ∧ cur.size = c) ∧ ∀ o, a ≤ o → ¬ g.St b o

/-- what a slot stands for (no owner inside a closure) -/
inductive RepS (base : Nat) (w : World) (g : Gh) : (Nat → Nat → Nat → Nat → Prop) → Slot → Value → Prop
  | v (O : Nat → Nat → Nat → Nat → Prop) (x : SV) (y : Value) (h : RepV w g.St base (O 0) x y) : RepS base w g O (.v x) y
  | p (O : Nat → Nat → Nat → Nat → Prop) (b off blk : Nat) (h : g.bx[b]? = some (some blk)) : RepS base w g O (.p b off) (.pointer (some ⟨blk, off, none⟩))
  | c (O : Nat → Nat → Nat → Nat → Prop) (f : Fn) (first cap : List Slot) (fv cv : Array Value) (hf : first.length = fv.size) (hc : cap.length = cv.size)
      (rf : ∀ (i : Nat) x v, first[i]? = some x → fv[i]? = some v → RepS base w g (fun _ _ _ _ => False) x v)
      (rc : ∀ (i : Nat) x v, cap[i]? = some x → cv[i]? = some v → RepS base w g (fun _ _ _ _ => False) x v) : RepS base w g O (.c f first cap) (.func f fv cv)
  | t (O : Nat → Nat → Nat → Nat → Prop) (xs : List SV) (vs : Array Value) (hl : xs.length = vs.size)
      (hc : ∀ (j : Nat) x v, xs[j]? = some x → vs[j]? = some v → RepV w g.St base (O j) x v) : RepS base w g O (.t xs) (.tuple vs)

def slotO (base : Nat) (w : World) (g : Gh) (i j : Nat) : Nat → Nat → Nat → Prop := OwnAt base w g (.s i j)
def boxO (base : Nat) (w : World) (g : Gh) (i j : Nat) : Nat → Nat → Nat → Prop := OwnAt base w g (.b i j)

/-- a variable of this call in memory -/
def RepB (base : Nat) (w : World) (g : Gh) (b : Nat) (bx : Box) (blk : Nat) : Prop :=
  base ≤ blk ∧ ∃ c t, w.heap[blk]? = some (.cells c t (0, 0)) ∧ (∀ y ∈ c, y.oneCell' = true) ∧ match bx with
    | .none => False
    | .cells cs => cs.length = c.size ∧ ∀ (j : Nat) x y, cs[j]? = some x → c[j]? = some y → RepV w g.St base (boxO base w g b j) x y
    | .one s => c.size = 1 ∧ ∀ y, c[0]? = some y → RepS base w g (fun _ => boxO base w g b 0) s y

/-- the package-level variables that are read -/
def GlobOK (gl : Nat → Option D) (w : World) (St : Nat → Nat → Prop) : Prop :=
  ∀ n x, gl n = some x → (∀ c ∈ x.cells, c.one = true) ∧ ∃ vs : Nat → Value, (∀ (i : Nat), i < x.cells.length → w.cell? ⟨n, i, none⟩ = some (vs i) ∧ St n i) ∧ ∀ (i : Nat) c, x.cells[i]? = some c → RepD w St c (vs i)

structure Inv (gl : Nat → Option D) (w0 : World) (St0 : Nat → Nat → Prop) (e : Env) (a : Act) (w : World) (g : Gh) : Prop where
  below : Below w0.heap.size w0 w
  size : a.tmps.size = e.slots.length
  slots : ∀ (i : Nat) s, e.slots[i]? = some s → RepS w0.heap.size w g (slotO w0.heap.size w g i) s (a.tmps.getD i undef)
  bxlen : g.bx.length = e.boxes.length
  boxes : ∀ (b : Nat) bx blk, e.boxes[b]? = some bx → g.bx[b]? = some (some blk) → RepB w0.heap.size w g b bx blk
  nodup : ∀ (i j : Nat) blk, g.bx[i]? = some (some blk) → g.bx[j]? = some (some blk) → i = j
  st0 : ∀ b o, St0 b o → g.St b o
  st1 : ∀ b o, g.St b o → (St0 b o ∨ w0.heap.size ≤ b) ∧ some b ∉ g.bx ∧ b < w.heap.size
  bxlt : ∀ b, some b ∈ g.bx → w0.heap.size ≤ b ∧ b < w.heap.size
  glob : GlobOK gl w g.St
  defers : a.defers = []

end Go.Proofs.YtcnnhnjcnekhcaaGreat.Ab
/-
  Steps towards the claim of this seat (Ab1b).
-/
namespace Go.Proofs.YtcnnhnjcnekhcaaGreat.Ab
open Go
/-- for each operation, those that it waits for (a mask) -/
def reach : (acc : List Nat) → List Oper → List Nat
  | acc, [] => acc
  | acc, o :: l => reach (acc ++ [o.after.toList.foldl (fun s e => bif Region.binds .any e then s ||| 2 ^ e.on ||| acc.getD e.on 0 else s) 0]) l

def okRest (ops : Array Oper) (lin : Nat → Bool) (R : List Nat) (i : Nat) (o : Oper) : List Oper → Nat → Bool
  | [], _ => true
  | p :: l, j => (Nat.testBit (R.getD j 0) i || indep ops (lin i) (lin j) o p) && okRest ops lin R i o l (j + 1)
def okPairs (ops : Array Oper) (lin : Nat → Bool) (R : List Nat) : List Oper → Nat → Bool
  | [], _ => true
  | o :: l, i => o.after.toList.all (fun e => !Region.binds .any e || Nat.blt e.on i) && okRest ops lin R i o l (i + 1) && okPairs ops lin R l (i + 1)
/-- the text's order serves every order that the edges allow -/
def okAny (lin : Nat → Bool) (ops : Array Oper) : Bool := okPairs ops lin (reach [] ops.toList) ops.toList 0

mutual
def SV.noRef : SV → Bool
  | .ref _ _ => false
  | .clo _ a b => SV.noRefL a && SV.noRefL b
  | .tup l => SV.noRefL l
  | _ => true
def SV.noRefL : List SV → Bool
  | [] => true
  | x :: l => SV.noRef x && SV.noRefL l
end
/-- no pointer of the text is forgotten at a loop's head -/
def keepsOk (ws vars consts : List Nat) : List Slot → Nat → Bool
  | [], _ => true
  | s :: l, t => (match s with | .v _ => true | .t _ => true | _ => ws.contains t || (!vars.contains t && consts.contains t)) && keepsOk ws vars consts l (t + 1)

section
variable (P : Program) (gl : Nat → Option D) (C : Con) (h : Hints)

def condP (e : Env) (c : Operand) (A B : Env → Prop) : Prop := match c with
  | .tmp t => (match e.slots.getD t (.v .undef) with
    | .v x => ifP x (A (e.setB t true)) (B (e.setB t false))
    | _ => False)
  | .const (.bool b) => cond b (A e) (B e)
  | _ => False

def aw : Code → (Ex → Env → Prop) → Env → Prop
  | .skip, Q, e => Q .normal e
  | .region id ops draw, Q, e => bif !draw || okAny (linAt h id) ops then evRegion P gl C (linAt h id) ops.toList e (Q .normal) else False
  | .seq a b, Q, e => aw a (fun x e' => match x with | .normal => aw b Q e' | .exit i => Q (.exit i) e' | .ret => Q .ret e') e
  | .cond c a b, Q, e => condP e c (aw a Q) (aw b Q)
  | .block id b, Q, e => aw b (fun x e' => match x with | .normal => Q .normal e' | .exit i => bif i == id then Q .normal e' else Q (.exit i) e' | .ret => Q .ret e') e
  | .loop b, Q, e => (match keepAt h.keep (firstId b) with
    | (vars, consts) => bif consts.all (fun t => !(writesOf b).contains t) && keepsOk (writesOf b) vars consts e.slots 0 then
        loopP (fun vs bs I => aw b (fun x e' => match x with | .normal => I (valsOf e' vars) (boxesOf e.boxes.length e') | .exit i => Q (.exit i) e' | .ret => Q .ret e')
            ⟨restartSlots vars consts vs e.slots 0, restartBoxes bs e.boxes 0⟩)
          (valsOf e vars) (boxesOf e.boxes.length e)
      else False)
  | .exit id, Q, e => Q (.exit id) e
  | .ret, Q, e => Q .ret e
  | _, _, _ => False

/-- a result; a slot that was handed out already is only read -/
def resP (e : Env) (used : List Nat) (r : ResultVar) (k : SV → Prop) : Prop := match r with
  | .tmp t => (match e.slots.getD t (.v .undef) with
    | .v x => x.noRef = true ∧ k (bif used.contains t then demote x else x)
    | _ => False)
  | .cell a t => bindO (lay? P t) fun ly => (match e.slots.getD a (.v .undef) with
    | .p b off => loadBox ly.1 ly.2 b off e.boxes fun s _ => (match s with
      | .v x => x.noRef = true ∧ k x
      | _ => False)
    | _ => False)
def usedOf (used : List Nat) : ResultVar → List Nat
  | .tmp t => t :: used
  | .cell _ _ => used
def ressP (e : Env) : List Nat → List ResultVar → (List SV → Prop) → Prop
  | _, [], k => k []
  | used, r :: l, k => resP P e used r fun x => ressP e (usedOf used r) l fun xs => k (x :: xs)
def finish (fn : Func) (e : Env) (K : SV → Prop) : Prop := match fn.results.toList with
  | [r] => resP P e [] r K
  | l => ressP P e [] l fun xs => K (.tup xs)

def enter (n : Nat) (args : List SV) : Env := ⟨args.map .v ++ List.replicate (n - args.length) (.v .undef), []⟩

def wfP (args : List SV) (X : Prop) : Prop := SV.WfL args → X

def body (f : FuncId) (args : List SV) (K : SV → Prop) : Prop := match P.funcs[f]? with
  | some fn => (match fn.body with
    | some c => wfP args (aw P gl C h c (fun x e => match x with | .normal => finish P fn e K | .ret => finish P fn e K | .exit _ => False) (enter fn.ntmps args))
    | none => False)
  | none => False
end
end Go.Proofs.YtcnnhnjcnekhcaaGreat.Ab
/-
  THE ABSTRACT WALK: steps of the world that keep what is known.
-/
namespace Go.Proofs.YtcnnhnjcnekhcaaGreat.Ab
open Go Go.RowKit

/-- from one world to a later one: what stays is as it was; owners but the lost ones own as before -/
structure Ext (base : Nat) (w : World) (g : Gh) (w' : World) (g' : Gh) (lost : Pos → Prop) : Prop where
  st : ∀ b o, g.St b o → g'.St b o ∧ w'.cell? ⟨b, o, none⟩ = w.cell? ⟨b, o, none⟩
  bs : ∀ b o, b < base → w'.cell? ⟨b, o, none⟩ = w.cell? ⟨b, o, none⟩
  bx : ∀ (i : Nat) blk, g.bx[i]? = some (some blk) → g'.bx[i]? = some (some blk)
  own : ∀ p b a c, ¬ lost p → OwnAt base w g p b a c → OwnAt base w' g' p b a c

theorem RepS.mono {base : Nat} {w w' : World} {g g' : Gh} {O O' : Nat → Nat → Nat → Nat → Prop} {s : Slot} {v : Value} (r : RepS base w g O s v)
    (st : ∀ b o, g.St b o → g'.St b o ∧ w'.cell? ⟨b, o, none⟩ = w.cell? ⟨b, o, none⟩) (bs : ∀ b o, b < base → w'.cell? ⟨b, o, none⟩ = w.cell? ⟨b, o, none⟩)
    (bx : ∀ (i : Nat) blk, g.bx[i]? = some (some blk) → g'.bx[i]? = some (some blk)) (hO : ∀ j b a c, O j b a c → O' j b a c) : RepS base w' g' O' s v := by
  induction r generalizing O' with
  | v O x y h => exact .v _ x y (h.mono st bs _ (hO 0))
  | p O b off blk h => exact .p _ b off blk (bx _ _ h)
  | c O f first cap fv cv hf hc _ _ ihf ihc => exact .c _ f first cap fv cv hf hc (fun i x v a b => ihf i x v a b (fun _ _ _ _ h => h)) (fun i x v a b => ihc i x v a b (fun _ _ _ _ h => h))
  | t O xs vs hl hc => exact .t _ xs vs hl fun j x v a b => (hc j x v a b).mono st bs _ (hO j)

theorem RepS.demote {base : Nat} {w : World} {g : Gh} {O O' : Nat → Nat → Nat → Nat → Prop} {s : Slot} {v : Value} (r : RepS base w g O s v) : RepS base w g O' s.demote v := by
  cases r with
  | v _ x _ h => exact .v _ _ _ h.demote
  | p _ b off blk h => exact .p _ b off blk h
  | c _ f first cap fv cv hf hc rf rc => exact .c _ f first cap fv cv hf hc rf rc
  | t _ xs vs hl hc =>
    refine .t _ _ vs (by simpa using hl) fun j x v a b => ?_
    simp only [List.getElem?_map, Option.map_eq_some_iff] at a
    obtain ⟨x', a, rfl⟩ := a
    exact (hc j x' v a b).demote

theorem Ext.refl (base : Nat) (w : World) (g : Gh) : Ext base w g w g (fun _ => False) := ⟨fun _ _ h => ⟨h, rfl⟩, fun _ _ _ => rfl, fun _ _ h => h, fun _ _ _ _ _ h => h⟩

theorem Ext.slot {base : Nat} {w w' : World} {g g' : Gh} {lost : Pos → Prop} (h : Ext base w g w' g' lost) {i : Nat} (hl : ∀ j, ¬ lost (.s i j)) {s : Slot} {v : Value}
    (r : RepS base w g (slotO base w g i) s v) : RepS base w' g' (slotO base w' g' i) s v :=
  r.mono h.st h.bs h.bx fun j b a c ho => h.own _ b a c (hl j) ho

theorem Ext.none {base : Nat} {w w' : World} {g g' : Gh} {lost : Pos → Prop} (h : Ext base w g w' g' lost) {s : Slot} {v : Value}
    {O O' : Nat → Nat → Nat → Nat → Prop} (r : RepS base w g O s v) : RepS base w' g' O' s.demote v :=
  (r.demote (O' := fun _ _ _ _ => False)).mono h.st h.bs h.bx fun _ _ _ _ h => h.elim

theorem Ext.repD {base : Nat} {w w' : World} {g g' : Gh} {lost : Pos → Prop} (h : Ext base w g w' g' lost) {x : D} {v : Value} (r : RepD w g.St x v) : RepD w' g'.St x v := r.mono h.st

/-- a variable that was not touched -/
theorem Ext.box {base : Nat} {w w' : World} {g g' : Gh} {lost : Pos → Prop} (h : Ext base w g w' g' lost) {b : Nat} {bx : Box} {blk : Nat} (hl : ∀ j, ¬ lost (.b b j))
    (hb : w'.heap[blk]? = w.heap[blk]?) (r : RepB base w g b bx blk) : RepB base w' g' b bx blk := by
  obtain ⟨h0, c, t, hc, h1, hr⟩ := r
  refine ⟨h0, c, t, hb.trans hc, h1, ?_⟩
  cases bx with
  | none => exact hr.elim
  | cells cs => exact ⟨hr.1, fun j x y hx hy => (hr.2 j x y hx hy).mono h.st h.bs _ fun b' a c' ho => h.own _ b' a c' (hl j) ho⟩
  | one s => exact ⟨hr.1, fun y hy => (hr.2 y hy).mono h.st h.bs h.bx fun _ b' a c' ho => h.own _ b' a c' (hl 0) ho⟩

theorem getD_putSlot {l : List Slot} {dst : Option Nat} {s : Slot} {i : Nat} {x : Slot} (h : (putSlot l dst s)[i]? = some x) : (dst = some i ∧ x = s) ∨ (dst ≠ some i ∧ l[i]? = some x) := by
  cases dst with
  | none => exact .inr ⟨by simp, h⟩
  | some d =>
    simp only [putSlot, List.getElem?_set] at h
    by_cases hd : d = i
    · subst hd
      simp only [↓reduceIte] at h
      split at h
      · exact .inl ⟨rfl, (Option.some.inj h).symm⟩
      · cases h
    · simp only [hd, ↓reduceIte] at h
      exact .inr ⟨by simpa using hd, h⟩

theorem put_getD (a : Act) (dst : Option Tmp) (v : Value) (i : Nat) (h : i < a.tmps.size) : (a.put dst v).tmps.getD i undef = if dst = some i then v else a.tmps.getD i undef := by
  cases dst with
  | none => simp [Act.put]
  | some d =>
    simp only [Act.put, Array.getD_eq_getD_getElem?, Array.getElem?_setIfInBounds]
    by_cases hd : d = i
    · subst hd; simp [h]
    · simp [hd]

theorem put_size (a : Act) (dst : Option Tmp) (v : Value) : (a.put dst v).tmps.size = a.tmps.size := by cases dst <;> simp [Act.put]
theorem put_defers (a : Act) (dst : Option Tmp) (v : Value) : (a.put dst v).defers = a.defers := by cases dst <;> rfl
theorem putSlot_length (l : List Slot) (dst : Option Nat) (s : Slot) : (putSlot l dst s).length = l.length := by cases dst <;> simp [putSlot]

theorem ofScal_rep {w : World} {St : Nat → Nat → Prop} {v : Value} {x : D} (h : ofScal v = some x) : RepD w St x v := by
  unfold ofScal at h
  split at h
  · cases h; exact .bool _
  · rename_i k n
    cases hw : wfI k n with
    | true => rw [hw] at h; cases h; exact .int _ _ hw
    | false => rw [hw] at h; cases h
  · rename_i s
    cases hw : Nat.ble s.size maxLen with
    | true => rw [hw] at h; cases h; exact .str _ (Nat.le_of_ble_eq_true hw)
    | false => rw [hw] at h; cases h
  · cases h; exact .nilsl 0
  · cases h; exact .nilptr
  · cases h; exact .nilfn
  · cases h; exact .nilif
  · rename_i f first captured
    cases hw : (first.isEmpty && captured.isEmpty) with
    | true =>
      rw [hw] at h; cases h
      simp only [Bool.and_eq_true, Array.isEmpty_iff] at hw
      obtain ⟨rfl, rfl⟩ := hw
      exact .fn f
    | false => rw [hw] at h; cases h
  · cases h

theorem ofScal_one {v : Value} {x : D} (h : ofScal v = some x) : x.one = true := by
  have : ∀ {w : World} {St}, RepD w St x v := ofScal_rep h
  unfold ofScal at h
  split at h <;> first | (cases h; rfl) | (cases h) | skip
  · rename_i k n; cases hw : wfI k n <;> rw [hw] at h <;> cases h; rfl
  · rename_i s; cases hw : Nat.ble s.size maxLen <;> rw [hw] at h <;> cases h; rfl
  · rename_i f first captured; cases hw : (first.isEmpty && captured.isEmpty) <;> rw [hw] at h <;> cases h; rfl

theorem ofScals_one : ∀ {vs : List Value} {xs : List D}, ofScals vs = some xs → ∀ x ∈ xs, x.one = true
  | [], xs, h => by cases h; simp
  | v :: vs, xs, h => by
    simp only [ofScals] at h
    split at h
    · rename_i x hx
      split at h
      · rename_i r hr
        cases h
        intro y hy
        rcases List.mem_cons.1 hy with rfl | hy
        · exact ofScal_one hx
        · exact ofScals_one hr y hy
      · cases h
    · cases h

theorem ofScals_rep {w : World} {St : Nat → Nat → Prop} : ∀ {vs : List Value} {xs : List D}, ofScals vs = some xs →
    xs.length = vs.length ∧ ∀ (i : Nat) x v, xs[i]? = some x → vs[i]? = some v → RepD w St x v
  | [], xs, h => by cases h; simp
  | v :: vs, xs, h => by
    simp only [ofScals] at h
    split at h
    · rename_i x hx
      split at h
      · rename_i r hr
        cases h
        obtain ⟨h1, h2⟩ := ofScals_rep (w := w) (St := St) hr
        refine ⟨by simp [h1], fun i y u hy hu => ?_⟩
        cases i with
        | zero => simp only [List.getElem?_cons_zero, Option.some.injEq] at hy hu; subst hy hu; exact ofScal_rep hx
        | succ i => simp only [List.getElem?_cons_succ] at hy hu; exact h2 i y u hy hu
      · cases h
    · cases h

theorem ofVal_rep {w : World} {St : Nat → Nat → Prop} {v : Value} {x : D} (h : ofVal v = some x) : RepD w St x v := by
  unfold ofVal at h
  split at h
  · split at h
    · rename_i cs l hl
      cases h
      obtain ⟨h1, h2⟩ := ofScals_rep (w := w) (St := St) hl
      exact .agg l _ (ofScals_one hl) (by simpa using h1) fun i d v hd hv => h2 i d v hd (by simpa using hv)
    · cases h
  · exact ofScal_rep h

section
variable {gl : Nat → Option D} {w0 : World} {St0 : Nat → Nat → Prop}

theorem GlobOK.ext {base : Nat} {w w' : World} {g g' : Gh} {lost : Pos → Prop} (h : Ext base w g w' g' lost) (r : GlobOK gl w g.St) : GlobOK gl w' g'.St := by
  intro n x hx
  obtain ⟨h0, vs, h1, h2⟩ := r n x hx
  exact ⟨h0, vs, fun i hi => ⟨(h.st _ _ (h1 i hi).2).2.trans (h1 i hi).1, (h.st _ _ (h1 i hi).2).1⟩, fun i c hc => h.repD (h2 i c hc)⟩

/-- THE STEP: a value put in a slot, the other slots as shown, the variables as given -/
theorem Inv.stepG {e : Env} {a : Act} {w : World} {g : Gh} (hI : Inv gl w0 St0 e a w g) {w' : World} {g' : Gh} {lost : Pos → Prop} (hX : Ext w0.heap.size w g w' g' lost)
    {slots : List Slot} {bxs : List Box} {dst : Option Nat} {s : Slot} {v : Value}
    (hbelow : Below w0.heap.size w w')
    (hlen : slots.length = e.slots.length)
    (hs : ∀ (i : Nat) x, slots[i]? = some x → dst ≠ some i → RepS w0.heap.size w' g' (slotO w0.heap.size w' g' i) x (a.tmps.getD i undef))
    (hdst : ∀ d, dst = some d → RepS w0.heap.size w' g' (slotO w0.heap.size w' g' d) s v)
    (hbxlen : g'.bx.length = bxs.length)
    (hbx : ∀ (b : Nat) bx blk, bxs[b]? = some bx → g'.bx[b]? = some (some blk) → RepB w0.heap.size w' g' b bx blk)
    (hnd : ∀ (i j : Nat) blk, g'.bx[i]? = some (some blk) → g'.bx[j]? = some (some blk) → i = j) (hblt : ∀ b, some b ∈ g'.bx → w0.heap.size ≤ b ∧ b < w'.heap.size)
    (hst1 : ∀ b o, g'.St b o → (St0 b o ∨ w0.heap.size ≤ b) ∧ some b ∉ g'.bx ∧ b < w'.heap.size) :
    Inv gl w0 St0 ⟨putSlot slots dst s, bxs⟩ (a.put dst v) w' g' := by
  refine ⟨hI.below.trans hbelow, ?_, ?_, hbxlen, hbx, hnd, fun b o h => (hX.st b o (hI.st0 b o h)).1, hst1, hblt, hI.glob.ext hX, (put_defers a dst v).trans hI.defers⟩
  · rw [put_size, putSlot_length, hlen, hI.size]
  · intro i x hx
    have hi : i < a.tmps.size := by
      have := (List.getElem?_eq_some_iff.1 hx).1
      rw [putSlot_length, hlen] at this
      rw [hI.size]; exact this
    rw [put_getD a dst v i hi]
    rcases getD_putSlot hx with ⟨hd, rfl⟩ | ⟨hd, hx'⟩
    · simp only [hd, ↓reduceIte]; exact hdst i hd
    · simp only [hd, ↓reduceIte]
      exact hs i x hx' hd

/-- THE STEP: slots demoted -/
theorem Inv.step {e : Env} {a : Act} {w : World} {g : Gh} (hI : Inv gl w0 St0 e a w g) {w' : World} {g' : Gh} {lost : Pos → Prop} (hX : Ext w0.heap.size w g w' g' lost)
    {slots : List Slot} {bxs : List Box} {dst : Option Nat} {s : Slot} {v : Value}
    (hbelow : Below w0.heap.size w w')
    (hlen : slots.length = e.slots.length)
    (hs : ∀ (i : Nat) x, slots[i]? = some x → dst ≠ some i → ∃ y, e.slots[i]? = some y ∧ ((x = y ∧ ∀ j, ¬ lost (.s i j)) ∨ x = y.demote))
    (hdst : ∀ d, dst = some d → RepS w0.heap.size w' g' (slotO w0.heap.size w' g' d) s v)
    (hbxlen : g'.bx.length = bxs.length)
    (hbx : ∀ (b : Nat) bx blk, bxs[b]? = some bx → g'.bx[b]? = some (some blk) → RepB w0.heap.size w' g' b bx blk)
    (hnd : ∀ (i j : Nat) blk, g'.bx[i]? = some (some blk) → g'.bx[j]? = some (some blk) → i = j) (hblt : ∀ b, some b ∈ g'.bx → w0.heap.size ≤ b ∧ b < w'.heap.size)
    (hst1 : ∀ b o, g'.St b o → (St0 b o ∨ w0.heap.size ≤ b) ∧ some b ∉ g'.bx ∧ b < w'.heap.size) :
    Inv gl w0 St0 ⟨putSlot slots dst s, bxs⟩ (a.put dst v) w' g' := by
  refine hI.stepG hX hbelow hlen (fun i x hx hd => ?_) hdst hbxlen hbx hnd hblt hst1
  obtain ⟨y, hy, ⟨rfl, hl⟩ | rfl⟩ := hs i x hx hd
  · exact hX.slot hl (hI.slots i x hy)
  · exact hX.none (hI.slots i y hy)

/-- the common case: the world may have grown, the variables are the same -/
theorem Inv.step0 {e : Env} {a : Act} {w : World} {g : Gh} (hI : Inv gl w0 St0 e a w g) {w' : World} {g' : Gh} {dst : Option Nat}
    (hX : Ext w0.heap.size w g w' g' (fun p => ∃ d j, dst = some d ∧ p = .s d j))
    {s : Slot} {v : Value} (hbelow : Below w.heap.size w w')
    (hdst : ∀ d, dst = some d → RepS w0.heap.size w' g' (slotO w0.heap.size w' g' d) s v) (hbx : g'.bx = g.bx)
    (hst1 : ∀ b o, g'.St b o → g.St b o ∨ (w.heap.size ≤ b ∧ b < w'.heap.size)) :
    Inv gl w0 St0 ⟨putSlot e.slots dst s, e.boxes⟩ (a.put dst v) w' g' := by
  have hle : w0.heap.size ≤ w.heap.size := hI.below.size
  refine hI.step hX (hbelow.mono hle) rfl (fun i x hx hd => ⟨x, hx, .inl ⟨rfl, fun j => ?_⟩⟩) hdst (by rw [hbx]; exact hI.bxlen) ?_ (by rw [hbx]; exact hI.nodup) ?_ ?_
  · rintro ⟨d, j', h1, h2⟩
    cases h2
    exact hd h1
  · intro b bx blk h1 h2
    rw [hbx] at h2
    have hlt : blk < w.heap.size := (hI.bxlt blk (List.mem_of_getElem? h2)).2
    exact hX.box (fun j => by rintro ⟨d, j', _, h⟩; cases h) (hbelow.block blk hlt) (hI.boxes b bx blk h1 h2)
  · intro b hb
    rw [hbx] at hb
    exact ⟨(hI.bxlt b hb).1, Nat.lt_of_lt_of_le (hI.bxlt b hb).2 hbelow.size⟩
  · intro b o h
    rw [hbx]
    rcases hst1 b o h with h | h
    · obtain ⟨h1, h2, h3⟩ := hI.st1 b o h
      exact ⟨h1, h2, Nat.lt_of_lt_of_le h3 hbelow.size⟩
    · exact ⟨.inr (Nat.le_trans hle h.1), fun hm => by have := (hI.bxlt b hm).2; omega, h.2⟩

/-- nothing turns but a slot -/
theorem Inv.value {e : Env} {a : Act} {w : World} {g : Gh} (hI : Inv gl w0 St0 e a w g) {dst : Option Nat} {s : Slot} {v : Value}
    (hdst : RepS w0.heap.size w g (fun _ _ _ _ => False) s v) : Inv gl w0 St0 ⟨putSlot e.slots dst s, e.boxes⟩ (a.put dst v) w g := by
  refine hI.step0 (w' := w) (g' := g) ⟨fun _ _ h => ⟨h, rfl⟩, fun _ _ _ => rfl, fun _ _ h => h, fun _ _ _ _ _ h => h⟩ (Below.refl _ _) (fun d _ => ?_) rfl (fun _ _ h => .inl h)
  exact hdst.mono (fun _ _ h => ⟨h, rfl⟩) (fun _ _ _ => rfl) (fun _ _ h => h) (fun _ _ _ _ h => h.elim)

/-- an operand -/
theorem Inv.opnd {e : Env} {a : Act} {w : World} {g : Gh} (hI : Inv gl w0 St0 e a w g) (x : Operand) : RepS w0.heap.size w g (fun _ _ _ _ => False) (opnd gl e x).demote (a.eval x) := by
  cases x with
  | tmp t =>
    simp only [Ab.opnd, Act.eval, List.getD_eq_getElem?_getD]
    cases h : e.slots[t]? with
    | none => exact .v _ _ _ (.undef _ _)
    | some s => exact (hI.slots t s h).demote
  | const v =>
    simp only [Ab.opnd, Act.eval]
    cases h : ofVal v with
    | none => exact .v _ _ _ (.undef _ _)
    | some d => exact .v _ _ _ (.d _ _ _ (ofVal_rep h))
  | func f => exact .v _ _ _ (.d _ _ _ (.fn _))
  | global n =>
    simp only [Ab.opnd, Act.eval]
    cases h : gl n with
    | none => exact .v _ _ _ (.undef _ _)
    | some x =>
      obtain ⟨h0, vs, h1, h2⟩ := hI.glob n x h
      exact .v _ _ _ (.dptr _ x 0 n 0 vs h0 (by simpa using h1) h2)

end
end Go.Proofs.YtcnnhnjcnekhcaaGreat.Ab
/-
  THE ABSTRACT WALK: each operation does what the abstract step says (the operations that only compute).
-/
namespace Go.Proofs.YtcnnhnjcnekhcaaGreat.Ab
open Go Go.RowKit

/-- what is said of a call -/
def ResO (lo : Nat) (w : World) (St : Nat → Nat → Prop) (ow : Nat → Option Nat) (j : Nat) (b a c : Nat) : Prop :=
  ow b = some j ∧ lo ≤ b ∧ (∃ cur e, w.heap[b]? = some (.cells cur e (0, 0)) ∧ cur.size = c) ∧ ∀ o, a ≤ o → ¬ St b o
def RepRes (lo : Nat) (w : World) (St : Nat → Nat → Prop) (ow : Nat → Option Nat) (r : SV) (v : Value) : Prop := match r with
  | .tup rs => ∃ vs, v = .tuple vs ∧ rs.length = vs.size ∧ ∀ (j : Nat) x y, rs[j]? = some x → vs[j]? = some y → RepV w St 0 (ResO lo w St ow j) x y
  | r => RepV w St 0 (ResO lo w St ow 0) r v
def Enters (P : Program) (f : FuncId) : Prop := ∀ (args : Array Value) (w : World), (callFunc f args).run P w = .ok (.enter f args) w
/-- THE CONTRACT: called with values that stand for 'args', in memory that stays as it is, the function returns what stands for 'r'; of what was there nothing has turned -/
def Holds (P : Program) (gl : Nat → Option D) : Con := fun f args r => Enters P f ∧
  ∀ (w : World) (St : Nat → Nat → Prop) (vs : Array Value), (∀ b o, St b o → b < w.heap.size) → GlobOK gl w St → args.length = vs.size →
    (∀ (i : Nat) x v, args[i]? = some x → vs[i]? = some v → RepV w St w.heap.size (fun _ _ _ => False) x v) →
    Calls P f vs w fun e w' => ∃ v, e = .returned v ∧ Below w.heap.size w w' ∧ ∃ St' ow, (∀ b o, St b o → St' b o) ∧ (∀ b o, St' b o → St b o ∨ (w.heap.size ≤ b ∧ b < w'.heap.size)) ∧
      RepRes w.heap.size w' St' ow r v

section
variable {P : Program} {gl : Nat → Option D} {w0 : World} {St0 : Nat → Nat → Prop} {e : Env} {a : Act} {w : World} {g : Gh}

theorem bindO_some {α : Type} {o : Option α} {k : α → Prop} (h : bindO o k) : ∃ x, o = some x ∧ k x := by
  cases o with
  | none => exact h.elim
  | some x => exact ⟨x, rfl, h⟩

theorem ifP_bool {x : SV} {A B : Prop} (h : ifP x A B) : ∃ b, x = .d (.bool b) ∧ (b = true → A) ∧ (b = false → B) := by
  unfold ifP at h
  split at h
  · rename_i c
    refine ⟨c, rfl, ?_, ?_⟩ <;> rintro rfl <;> exact h
  · exact h.elim

/-- an operand's value -/
theorem Inv.opV (hI : Inv gl w0 St0 e a w g) {x : Operand} {s : SV} (h : (Ab.opnd gl e x).demote = .v s) : RepV w g.St w0.heap.size (fun _ _ _ => False) s (a.eval x) := by
  have := hI.opnd x
  rw [h] at this
  cases this with
  | v _ _ _ h => exact h
theorem Inv.opToSV (hI : Inv gl w0 St0 e a w g) (x : Operand) : RepV w g.St w0.heap.size (fun _ _ _ => False) ((Ab.opnd gl e x).demote).toSV (a.eval x) := by
  have := hI.opnd x
  cases h : (Ab.opnd gl e x).demote with
  | v s => exact hI.opV h
  | _ => exact .undef _ _

theorem RepV.data {St : Nat → Nat → Prop} {base : Nat} {O : Nat → Nat → Nat → Prop} {x : D} {v : Value} (h : RepV w St base O (.d x) v) : RepD w St x v := by
  cases h with
  | d _ _ _ h => exact h

/-- the conclusion of an operation -/
abbrev Goes (P : Program) (gl : Nat → Option D) (w0 : World) (St0 : Nat → Nat → Prop) (slots : List Slot) (o : Oper) (a : Act) (w : World) (k : Slot → List Box → Prop) : Prop :=
  ∀ (next : Act → World → Prop) (Q : Exit → Act → World → Prop),
    (∀ s v bxs w' g', Inv gl w0 St0 ⟨putSlot slots o.dst s, bxs⟩ (a.put o.dst v) w' g' → k s bxs → next (a.put o.dst v) w') → o.wp P a w next Q

theorem Goes.value (hI : Inv gl w0 St0 e a w g) {o : Oper} {v : Value} {s : Slot} {k : Slot → List Box → Prop} (hrun : (execOp a.eval o).run P w = .ok (.value v) w)
    (hr : RepS w0.heap.size w g (fun _ _ _ _ => False) s v) (hk : k s e.boxes) : Goes P gl w0 St0 e.slots o a w k := by
  intro next Q hn
  unfold Oper.wp
  rw [hrun]
  exact hn s v _ _ _ (hI.value hr) hk

theorem Goes.valueV (hI : Inv gl w0 St0 e a w g) {o : Oper} {v : Value} {s : SV} {k : Slot → List Box → Prop} (hrun : (execOp a.eval o).run P w = .ok (.value v) w)
    (hr : RepV w g.St w0.heap.size (fun _ _ _ => False) s v) (hk : k (.v s) e.boxes) : Goes P gl w0 St0 e.slots o a w k :=
  Goes.value hI hrun (.v _ _ _ hr) hk

/-! ### numbers, bools, strings -/
theorem wfI_wrap (k : IntKind) (n : Int) : wfI k (k.wrap n) = true := by
  have hp : (0 : Int) < 2 ^ k.bits := Int.pow_pos (by decide)
  have h1 := Int.emod_nonneg n (Int.ne_of_gt hp)
  have h2 := Int.emod_lt_of_pos n hp
  simp only [wfI, Bool.and_eq_true, decide_eq_true_eq, IntKind.min, IntKind.max, IntKind.wrap]
  cases k <;> simp only [IntKind.bits, IntKind.signed] at * <;> (try split) <;> simp_all <;> omega


theorem wfI_min_max {k : IntKind} {n : Int} : wfI k n = true ↔ k.min ≤ n ∧ n ≤ k.max := by simp [wfI]

theorem bv_toNat_wrap (k : IntKind) (b : BitVec k.bits) : wfI k (k.wrap b.toNat) = true := wfI_wrap k _

theorem tmod_wf {k : IntKind} {x y : Int} (hx : wfI k x = true) (hy : wfI k y = true) : wfI k (x.tmod y) = true := by
  rw [wfI_min_max] at *
  have h1 : (x.tmod y).natAbs ≤ x.natAbs := by
    rw [Int.natAbs_tmod]
    exact Nat.mod_le _ _
  have h2 : 0 ≤ x → 0 ≤ x.tmod y := fun h => Int.tmod_nonneg y h
  have h3 : x ≤ 0 → x.tmod y ≤ 0 := fun h => by
    have := Int.tmod_nonneg (a := -x) y (by omega)
    rw [Int.neg_tmod] at this
    omega
  have hm : k.min ≤ 0 ∧ 0 ≤ k.max := by cases k <;> simp [IntKind.min, IntKind.max, IntKind.signed, IntKind.bits]
  constructor
  · rcases Int.le_total 0 x with h | h
    · have := h2 h; omega
    · have := h3 h; omega
  · rcases Int.le_total 0 x with h | h
    · have := h2 h; omega
    · have := h3 h; omega

theorem fdiv_wf {k : IntKind} {x : Int} (hx : wfI k x = true) (n : Nat) : wfI k (x.fdiv (2 ^ n)) = true := by
  rw [wfI_min_max] at *
  have hp : (0 : Int) < 2 ^ n := Int.pow_pos (by decide)
  rw [Int.fdiv_eq_ediv_of_nonneg _ (Int.le_of_lt hp)]
  have hm : k.min ≤ 0 ∧ 0 ≤ k.max := by cases k <;> simp [IntKind.min, IntKind.max, IntKind.signed, IntKind.bits]
  constructor
  · rcases Int.le_total 0 x with h | h
    · have := Int.ediv_nonneg h (Int.le_of_lt hp); omega
    · have : x ≤ x / 2 ^ n := by
        have h1 := Int.mul_ediv_add_emod x (2 ^ n)
        have h2 := Int.emod_nonneg x (Int.ne_of_gt hp)
        have h4 : x / 2 ^ n ≤ 0 := by
          rcases Int.lt_or_le 0 (x / 2 ^ n) with hh | hh
          · have h5 : 2 ^ n * 1 ≤ 2 ^ n * (x / 2 ^ n) := Int.mul_le_mul_of_nonneg_left (by omega) (Int.le_of_lt hp)
            omega
          · exact hh
        have h3 : (2 ^ n - 1) * (x / 2 ^ n) ≤ 0 := Int.mul_nonpos_of_nonneg_of_nonpos (by omega) h4
        have h6 : x = x / 2 ^ n + ((2 ^ n - 1) * (x / 2 ^ n) + x % 2 ^ n) := by
          rw [Int.sub_mul, Int.one_mul]; omega
        have h7 := Int.emod_lt_of_pos x hp
        rcases Int.lt_or_le (x / 2 ^ n) x with hlt | hle
        · exfalso
          have h8 : 2 ^ n * (x / 2 ^ n) ≤ 2 ^ n * (x - 1) := Int.mul_le_mul_of_nonneg_left (by omega) (Int.le_of_lt hp)
          have h9 : (2 ^ n) * (x - 1) ≤ 1 * (x - 1) := by
            have : 0 ≤ (2 ^ n - 1) * (1 - x) := Int.mul_nonneg (by omega) (by omega)
            rw [Int.sub_mul, Int.mul_sub, Int.mul_sub] at this
            rw [Int.mul_sub]
            omega
          have h10 : 2 ^ n * (x / 2 ^ n) + 2 ^ n ≤ 2 ^ n * x := by
            have : 2 ^ n * (x - 1) = 2 ^ n * x - 2 ^ n := by rw [Int.mul_sub, Int.mul_one]
            omega
          have h11 : 2 ^ n * x ≤ x := by
            have : 0 ≤ (2 ^ n - 1) * (-x) := Int.mul_nonneg (by omega) (by omega)
            rw [Int.sub_mul, Int.mul_neg, Int.mul_neg] at this
            omega
          omega
        · exact hle
      omega
  · rcases Int.le_total 0 x with h | h
    · have : x / 2 ^ n ≤ x := Int.ediv_le_self _ h
      omega
    · have : x / 2 ^ n ≤ 0 := by
        rcases Int.lt_or_le 0 (x / 2 ^ n) with hh | hh
        · have h1 := Int.mul_ediv_add_emod x (2 ^ n)
          have h2 := Int.emod_nonneg x (Int.ne_of_gt hp)
          have h5 : 2 ^ n * 1 ≤ 2 ^ n * (x / 2 ^ n) := Int.mul_le_mul_of_nonneg_left (by omega) (Int.le_of_lt hp)
          omega
        · exact hh
      omega

theorem intBop_run {op : BinOp} {k : IntKind} {x y : Int} {r : D} (t : TypeId) (hop : op ≠ .shl ∧ op ≠ .shr) (hx : wfI k x = true) (hy : wfI k y = true) (h : intBop op k x y = some r) :
    ∃ v, (binOp op t (.int k x) (.int k y)).run P w = .ok v w ∧ RepD w g.St r v := by
  cases op <;> simp only [intBop, Option.some.injEq, reduceCtorEq] at h <;> (try (exact absurd rfl hop.1)) <;> (try (exact absurd rfl hop.2))
  case quo =>
    split at h
    · cases h
    · rename_i hy0
      cases h
      exact ⟨_, by simp [binOp, Op.intDiv, hy0], .int _ _ (wfI_wrap _ _)⟩
  case rem =>
    split at h
    · cases h
    · rename_i hy0
      cases h
      exact ⟨_, by simp [binOp, Op.intDiv, hy0], .int _ _ (tmod_wf hx hy)⟩
  all_goals (subst h)
  case add | sub | mul => exact ⟨_, by simp [binOp, Op.intArith], .int _ _ (wfI_wrap _ _)⟩
  case and | or | xor | andNot => exact ⟨_, by simp [binOp, Op.intBits], .int _ _ (wfI_wrap _ _)⟩
  all_goals exact ⟨_, by simp [binOp, Op.intCmp], .bool _⟩

theorem shiftOp_run {op : BinOp} {k k' : IntKind} {x y : Int} {r : D} (t : TypeId) (hop : op = .shl ∨ op = .shr) (hx : wfI k x = true) (h : shiftOp op k x y = some r) :
    ∃ v, (binOp op t (.int k x) (.int k' y)).run P w = .ok v w ∧ RepD w g.St r v := by
  unfold shiftOp at h
  split at h
  · cases h
  · rename_i hy
    rcases hop with rfl | rfl
    · simp only [Option.some.injEq] at h; subst h
      exact ⟨_, by simp [binOp, Op.shift, hy], .int _ _ (wfI_wrap _ _)⟩
    · simp only [Option.some.injEq] at h; subst h
      exact ⟨_, by simp [binOp, Op.shift, hy], .int _ _ (fdiv_wf hx _)⟩

theorem bytesLess_eq : ∀ (x y : List UInt8), Op.bytesLess x y = strLess x y
  | _, [] => by cases ‹List UInt8› <;> rfl
  | [], _ :: _ => rfl
  | a :: x, b :: y => by simp only [Op.bytesLess, strLess, bytesLess_eq x y]

theorem strBop_run {op : BinOp} {x y : ByteArray} {r : D} (t : TypeId) (h : strBop op x.data.toList y.data.toList = some r) :
    ∃ v, (binOp op t (.string x) (.string y)).run P w = .ok v w ∧ RepD w g.St r v := by
  have hx := ByteArray.toList_eq x
  have hy := ByteArray.toList_eq y
  cases op <;> simp only [strBop, Option.some.injEq, reduceCtorEq] at h
  case add =>
    split at h
    · rename_i hl
      cases h
      have e : (x ++ y).data.toList = x.data.toList ++ y.data.toList := by simp
      have hl' : x.size + y.size ≤ maxLen := by rw [Array.length_toList, Array.length_toList] at hl; exact hl
      refine ⟨.string (x ++ y), ?_, ?_⟩
      · have hM : ((maxLen : Nat) : Int) = IntKind.i64.max := by decide
        have : ¬ (((x.size + y.size : Nat) : Int) > IntKind.i64.max) := by
          rw [← hM]
          omega
        simp only [binOp, Op.stringOp]
        rw [if_neg this]
        rfl
      · rw [← e]
        refine .str _ ?_
        rw [ByteArray.size_append]
        exact hl'
    · cases h
  all_goals (subst h; exact ⟨_, by simp [binOp, Op.stringOp, hx, hy, bytesLess_eq], .bool _⟩)

end
end Go.Proofs.YtcnnhnjcnekhcaaGreat.Ab
/-
  THE ABSTRACT WALK: equality of aggregates; the operations that only compute.
-/
namespace Go.Proofs.YtcnnhnjcnekhcaaGreat.Ab
open Go Go.RowKit

section
variable {P : Program} {gl : Nat → Option D} {w0 : World} {St0 : Nat → Nat → Prop} {e : Env} {a : Act} {w : World} {g : Gh}

theorem ckOk_length : ∀ {ks : List CK} {xs : List D}, ckOk ks xs = true → xs.length = ks.length
  | [], [], _ => rfl
  | [], _ :: _, h => by simp [ckOk] at h
  | k :: ks, [], h => by cases k <;> simp [ckOk] at h
  | k :: ks, x :: xs, h => by
    cases k <;> cases x <;> simp only [ckOk, Bool.false_eq_true] at h <;> simp [ckOk_length h]

theorem ckOk_append : ∀ {ks ls : List CK} {xs : List D}, ckOk (ks ++ ls) xs = true → ckOk ks (xs.take ks.length) = true ∧ ckOk ls (xs.drop ks.length) = true
  | [], ls, xs, h => by simpa [ckOk] using h
  | k :: ks, ls, [], h => by cases k <;> simp [ckOk] at h
  | k :: ks, ls, x :: xs, h => by
    cases k <;> cases x <;> simp only [List.cons_append, ckOk, Bool.false_eq_true] at h <;> simpa [ckOk] using ckOk_append h

theorem eqCells_append : ∀ (xs ys xs' ys' : List D), xs.length = ys.length → eqCells (xs ++ xs') (ys ++ ys') = (match eqCells xs ys with
    | some b => (match eqCells xs' ys' with | some c => some (b && c) | none => none) | none => none)
  | [], [], xs', ys', _ => by
    simp only [List.nil_append, eqCells]
    cases eqCells xs' ys' <;> simp
  | x :: xs, y :: ys, xs', ys', h => by
    simp only [List.cons_append, eqCells]
    rw [eqCells_append xs ys xs' ys' (by simpa using h)]
    cases eqScal x y <;> simp
    cases eqCells xs ys <;> simp
    cases eqCells xs' ys' <;> simp [Bool.and_assoc]
  | [], _ :: _, _, _, h => by simp at h
  | _ :: _, [], _, _, h => by simp at h

/-- cells that stand for data, one by one -/
def RepCs (w : World) (St : Nat → Nat → Prop) (xs : List D) (vs : Array Value) : Prop :=
  xs.length = vs.size ∧ ∀ (i : Nat) x v, xs[i]? = some x → vs[i]? = some v → RepD w St x v

theorem RepCs.agg {w : World} {St : Nat → Nat → Prop} {xs : List D} {vs : Array Value} (h : RepCs w St xs vs) (hf : ∀ d ∈ xs, d.one = true) : RepD w St (.agg xs) (.agg vs) := .agg xs vs hf h.1 h.2
theorem RepCs.extract {w : World} {St : Nat → Nat → Prop} {xs : List D} {vs : Array Value} (h : RepCs w St xs vs) (off n : Nat) :
    RepCs w St ((xs.drop off).take n) (vs.extract off (off + n)) := by
  refine ⟨by simp [h.1]; omega, fun i x v hx hv => ?_⟩
  rw [List.getElem?_take] at hx
  split at hx
  · rename_i hi
    rw [List.getElem?_drop] at hx
    rw [Array.getElem?_extract] at hv
    split at hv
    · exact h.2 (off + i) x v hx hv
    · cases hv
  · cases hx

theorem sizeOf_run {t : TypeId} {n : Nat} (h : sizeOf? P t = some n) (w : World) : (sizeOf t).run P w = .ok n w := by
  unfold sizeOf? at h
  split at h
  · rename_i i hi
    cases h
    simp [sizeOf, typeInfo, hi]
  · cases h

theorem aggOf_run {t : TypeId} {b : Bool} (h : aggOf? P t = some b) (w : World) : (isAgg t).run P w = .ok b w := by
  unfold aggOf? at h
  split at h
  · rename_i fs hu; cases h; simp [isAgg, run_underlying hu]
  · rename_i n e' hu; cases h; simp [isAgg, run_underlying hu]
  · rename_i d h1 h2 hu
    cases h
    simp only [isAgg, Sem.run_bind, run_underlying hu, Result.andThen_ok]
    cases d <;> first | rfl | (exact absurd hu (h1 _)) | (exact absurd hu (h2 _ _))
  · cases h

theorem lay_run {t : TypeId} {b : Bool} {n : Nat} (h : lay? P t = some (b, n)) : aggOf? P t = some b ∧ sizeOf? P t = some n ∧ (b = false → n = 1) := by
  unfold lay? at h
  split at h
  · rename_i b' hb
    split at h
    · rename_i i hi
      cases hc : (b' || Nat.beq i.size 1) with
      | false => rw [hc] at h; cases h
      | true =>
        rw [hc] at h
        cases h
        refine ⟨hb, by simp [sizeOf?, hi], fun hf => ?_⟩
        subst hf
        exact Nat.eq_of_beq_eq_true (by simpa using hc)
    · cases h
  · cases h

theorem part_run {t : TypeId} {b : Bool} {n : Nat} (hb : aggOf? P t = some b) (hn : sizeOf? P t = some n) (cs : Array Value) (off : Nat) (w : World) :
    (part t cs off).run P w = if b then .ok (.agg (cs.extract off (off + n))) w else (match cs[off]? with | some v => .ok v w | none => .halt (.stuck "part: no such cell") w) := by
  unfold part
  simp only [Sem.run_bind, aggOf_run hb, Result.andThen_ok]
  cases b
  · simp only [Bool.false_eq_true, if_false]
    cases cs[off]? <;> rfl
  · simp [sizeOf_run hn]

/-- a value of a type whose cells stand for 'xs' -/
def ValOf (w : World) (St : Nat → Nat → Prop) (b : Bool) (xs : List D) (v : Value) : Prop :=
  if b then ∃ cs, v = .agg cs ∧ RepCs w St xs cs else ∃ x, xs = [x] ∧ RepD w St x v

theorem shapeOf_size {f : Nat} {t : TypeId} {ks : List CK} (h : shapeOf P f t = some ks) : sizeOf? P t = some ks.length ∧
    ((aggOf? P t = some false ∧ ks.length = 1) ∨ aggOf? P t = some true) := by
  cases f with
  | zero => simp [shapeOf] at h
  | succ f =>
    rw [shapeOf] at h
    split at h
    · rename_i hu; split at h <;> cases h; rename_i hs; exact ⟨hs, .inl ⟨by simp [aggOf?, hu], rfl⟩⟩
    · rename_i hu; split at h <;> cases h; rename_i hs; exact ⟨hs, .inl ⟨by simp [aggOf?, hu], rfl⟩⟩
    · rename_i hu; split at h <;> cases h; rename_i hs; exact ⟨hs, .inl ⟨by simp [aggOf?, hu], rfl⟩⟩
    · rename_i n e' hu
      split at h
      · rename_i ks' hks
        split at h
        · rename_i s hs
          cases hc : Nat.beq s (n * ks'.length) with
          | true =>
            rw [hc] at h; cases h
            have : (repeatL ks' n).length = n * ks'.length := by
              clear hc hu hs
              induction n with
              | zero => simp [repeatL]
              | succ n ih => simp [repeatL, ih, Nat.succ_mul]; omega
            have h2 := Nat.eq_of_beq_eq_true hc
            exact ⟨by rw [hs, this, h2], .inr (by simp [aggOf?, hu])⟩
          | false => rw [hc] at h; cases h
        · cases h
      · cases h
    · rename_i fs hu
      cases hst : P.stoodInHeld t with
      | true => rw [hst] at h; cases h
      | false =>
        rw [hst] at h
        simp only [cond_false] at h
        split at h
        · rename_i ks' hks
          split at h
          · rename_i s hs
            cases hc : Nat.beq s ks'.length with
            | true =>
              rw [hc] at h; cases h
              have h2 := Nat.eq_of_beq_eq_true hc
              exact ⟨by rw [hs, h2], .inr (by simp [aggOf?, hu])⟩
            | false => rw [hc] at h; cases h
          · cases h
        · cases h
    · cases h

theorem RepCs.valOf {xs : List D} {vs : Array Value} (h : RepCs w g.St xs vs) {t : TypeId} {b : Bool} {n off : Nat} (hb : aggOf? P t = some b) (hn : sizeOf? P t = some n)
    (h1 : b = false → n = 1) (hle : off + n ≤ xs.length) : ∃ v, (part t vs off).run P w = .ok v w ∧ ValOf w g.St b ((xs.drop off).take n) v := by
  rw [part_run hb hn]
  cases b with
  | true => exact ⟨_, by simp; rfl, by simp only [ValOf, if_true]; exact ⟨_, rfl, h.extract off n⟩⟩
  | false =>
    have hn1 := h1 rfl
    subst hn1
    have hlt : off < xs.length := by omega
    have hlt' : off < vs.size := by rw [← h.1]; exact hlt
    refine ⟨vs[off], by simp [hlt'], ?_⟩
    simp only [ValOf, Bool.false_eq_true, if_false]
    refine ⟨xs[off], ?_, h.2 off _ _ (by simp) (by simp)⟩
    rw [List.drop_eq_getElem_cons hlt, List.take_succ_cons, List.take_zero]

theorem eqFields_shape (d : Nat) (go : TypeId → Option (List CK)) (hsz : ∀ t ks, go t = some ks → sizeOf? P t = some ks.length ∧ ((aggOf? P t = some false ∧ ks.length = 1) ∨ aggOf? P t = some true))
    (ih : ∀ (t : TypeId) (ks : List CK) (b : Bool) (xs ys : List D) (vx vy : Value) (r : Bool), go t = some ks → aggOf? P t = some b →
      ckOk ks xs = true → ckOk ks ys = true → ValOf w g.St b xs vx → ValOf w g.St b ys vy → eqCells xs ys = some r → (Op.equalIn d t vx vy).run P w = .ok r w)
    {xs ys : List D} {cx cy : Array Value} (rx : RepCs w g.St xs cx) (ry : RepCs w g.St ys cy) : ∀ (fs : List Field) (off : Nat) (ks : List CK) (r : Bool), shapeFields go fs off = some ks → off ≤ xs.length → off ≤ ys.length →
      ckOk ks (xs.drop off) = true → ckOk ks (ys.drop off) = true → eqCells (xs.drop off) (ys.drop off) = some r → (Op.eqFields d cx cy fs).run P w = .ok r w
  | [], off, ks, r, h, _, _, hx, hy, he => by
    simp only [shapeFields, Option.some.injEq] at h
    subst h
    have h1 := ckOk_length hx
    have h2 := ckOk_length hy
    rw [List.eq_nil_of_length_eq_zero h1, List.eq_nil_of_length_eq_zero h2] at he
    simp only [eqCells, Option.some.injEq] at he
    subst he
    rfl
  | f :: fs, off, ks, r, h, hox, hoy, hx, hy, he => by
    simp only [shapeFields] at h
    split at h
    · rename_i kf hkf
      cases hc : (f.name != "_" && Nat.beq f.offset off) with
      | false => rw [hc] at h; cases h
      | true =>
        rw [hc] at h
        simp only [cond_true] at h
        split at h
        · rename_i kr hkr
          cases h
          simp only [Bool.and_eq_true, bne_iff_ne, ne_eq] at hc
          have hoff := Nat.eq_of_beq_eq_true hc.2
          obtain ⟨hx1, hx2⟩ := ckOk_append hx
          obtain ⟨hy1, hy2⟩ := ckOk_append hy
          obtain ⟨hs, hag⟩ := hsz _ _ hkf
          have lx := ckOk_length hx
          have ly := ckOk_length hy
          simp only [List.length_drop, List.length_append] at lx ly
          rw [← List.take_append_drop kf.length (xs.drop off), ← List.take_append_drop kf.length (ys.drop off),
            eqCells_append _ _ _ _ (by simp; omega)] at he
          split at he
          · rename_i b1 hb1
            split at he
            · rename_i b2 hb2
              cases he
              have rest := eqFields_shape d go hsz ih rx ry fs (off + kf.length) kr b2 hkr (by omega) (by omega) (by rw [List.drop_drop] at hx2; exact hx2) (by rw [List.drop_drop] at hy2; exact hy2)
                (by rw [List.drop_drop, List.drop_drop] at hb2; exact hb2)
              obtain ⟨b, hb, h1⟩ : ∃ b, aggOf? P f.type = some b ∧ (b = false → kf.length = 1) := by
                rcases hag with ⟨h1, h2⟩ | h1
                · exact ⟨false, h1, fun _ => h2⟩
                · exact ⟨true, h1, by simp⟩
              obtain ⟨vx, px, qx⟩ := rx.valOf (off := f.offset) hb hs h1 (by omega)
              obtain ⟨vy, py, qy⟩ := ry.valOf (off := f.offset) hb hs h1 (by omega)
              rw [hoff] at qx qy
              have hq := ih f.type kf b _ _ vx vy b1 hkf hb hx1 hy1 qx qy hb1
              simp only [Op.eqFields, if_pos hc.1, Sem.run_bind, px, py, hq, Result.andThen_ok]
              cases b1
              · simp
              · simpa using rest
            · cases he
          · cases he
        · cases h
    · cases h

theorem eqItems_shape (d : Nat) (t : TypeId) (ks : List CK) (b : Bool) (hb : aggOf? P t = some b) (hs : sizeOf? P t = some ks.length) (h1 : b = false → ks.length = 1)
    (ih : ∀ (xs ys : List D) (vx vy : Value) (r : Bool), ckOk ks xs = true → ckOk ks ys = true → ValOf w g.St b xs vx → ValOf w g.St b ys vy → eqCells xs ys = some r →
      (Op.equalIn d t vx vy).run P w = .ok r w)
    {xs ys : List D} {cx cy : Array Value} (rx : RepCs w g.St xs cx) (ry : RepCs w g.St ys cy) : ∀ (n i : Nat) (r : Bool), ckOk (repeatL ks n) (xs.drop (i * ks.length)) = true →
      ckOk (repeatL ks n) (ys.drop (i * ks.length)) = true → eqCells (xs.drop (i * ks.length)) (ys.drop (i * ks.length)) = some r →
      (Op.eqItems d t ks.length cx cy (List.range' i n)).run P w = .ok r w
  | 0, i, r, hx, hy, he => by
    rw [List.eq_nil_of_length_eq_zero (ckOk_length hx), List.eq_nil_of_length_eq_zero (ckOk_length hy)] at he
    simp only [eqCells, Option.some.injEq] at he
    subst he
    rfl
  | n + 1, i, r, hx, hy, he => by
    simp only [repeatL] at hx hy
    obtain ⟨hx1, hx2⟩ := ckOk_append hx
    obtain ⟨hy1, hy2⟩ := ckOk_append hy
    have lx := ckOk_length hx
    have ly := ckOk_length hy
    simp only [List.length_drop, List.length_append] at lx ly
    rw [← List.take_append_drop ks.length (xs.drop (i * ks.length)), ← List.take_append_drop ks.length (ys.drop (i * ks.length)),
      eqCells_append _ _ _ _ (by simp; omega)] at he
    split at he
    · rename_i b1 hb1
      split at he
      · rename_i b2 hb2
        cases he
        have e : i * ks.length + ks.length = (i + 1) * ks.length := by rw [Nat.succ_mul]
        have rest := eqItems_shape d t ks b hb hs h1 ih rx ry n (i + 1) b2 (by rw [List.drop_drop, e] at hx2; exact hx2) (by rw [List.drop_drop, e] at hy2; exact hy2)
          (by rw [List.drop_drop, List.drop_drop, e] at hb2; exact hb2)
        by_cases hz : ks.length = 0 ∧ xs.length < i * ks.length
        · rw [hz.1] at hz; omega
        have kx : i * ks.length + ks.length ≤ xs.length := by
          by_cases h0 : ks.length = 0
          · rw [h0]; omega
          · omega
        have ky : i * ks.length + ks.length ≤ ys.length := by
          by_cases h0 : ks.length = 0
          · rw [h0]; omega
          · omega
        obtain ⟨vx, px, qx⟩ := rx.valOf (off := i * ks.length) hb hs h1 kx
        obtain ⟨vy, py, qy⟩ := ry.valOf (off := i * ks.length) hb hs h1 ky
        have hq := ih _ _ vx vy b1 hx1 hy1 qx qy hb1
        simp only [List.range'_succ, Op.eqItems, Sem.run_bind, px, py, hq, Result.andThen_ok]
        cases b1
        · simp
        · simpa using rest
      · cases he
    · cases he

theorem equalIn_shape : ∀ (f d : Nat) (t : TypeId) (ks : List CK) (b : Bool) (xs ys : List D) (vx vy : Value) (r : Bool), shapeOf P f t = some ks → f ≤ d → aggOf? P t = some b →
    ckOk ks xs = true → ckOk ks ys = true → ValOf w g.St b xs vx → ValOf w g.St b ys vy → eqCells xs ys = some r → (Op.equalIn d t vx vy).run P w = .ok r w := by
  intro f
  induction f with
  | zero => intro d t ks b xs ys vx vy r h; simp [shapeOf] at h
  | succ f ih =>
    intro d t ks b xs ys vx vy r hsh hd hb hx hy rx ry he
    obtain ⟨d, rfl⟩ : ∃ d', d = d' + 1 := ⟨d - 1, by omega⟩
    have hsz := shapeOf_size hsh
    rw [shapeOf] at hsh
    split at hsh
    · -- bool
      rename_i hu
      split at hsh <;> cases hsh
      have : b = false := by simpa [aggOf?, hu] using hb.symm
      subst this
      simp only [ValOf, Bool.false_eq_true, if_false] at rx ry
      obtain ⟨x, rfl, rx⟩ := rx
      obtain ⟨y, rfl, ry⟩ := ry
      cases x <;> simp [ckOk] at hx
      cases y <;> simp [ckOk] at hy
      cases rx; cases ry
      rw [run_equalIn_bool' w d t _ _ hu]
      simp [eqCells, eqScal] at he
      rw [← he]
    · rename_i k hu
      split at hsh <;> cases hsh
      have : b = false := by simpa [aggOf?, hu] using hb.symm
      subst this
      simp only [ValOf, Bool.false_eq_true, if_false] at rx ry
      obtain ⟨x, rfl, rx⟩ := rx
      obtain ⟨y, rfl, ry⟩ := ry
      cases x <;> simp [ckOk] at hx
      cases y <;> simp [ckOk] at hy
      rename_i k1 n1 k2 n2
      cases rx; cases ry
      by_cases hk : k1 = k2
      · subst hk
        rw [run_equalIn_int w d t _ k _ _ hu]
        simp [eqCells, eqScal] at he
        rw [← he]
      · simp [eqCells, eqScal, hk] at he
    · rename_i hu
      split at hsh <;> cases hsh
      have : b = false := by simpa [aggOf?, hu] using hb.symm
      subst this
      simp only [ValOf, Bool.false_eq_true, if_false] at rx ry
      obtain ⟨x, rfl, rx⟩ := rx
      obtain ⟨y, rfl, ry⟩ := ry
      cases x <;> simp [ckOk] at hx
      cases y <;> simp [ckOk] at hy
      cases rx with | str s1 _ =>
      cases ry with | str s2 _ =>
      rw [run_equalIn_string w d t _ _ hu]
      rw [ByteArray.toList_eq, ByteArray.toList_eq]
      simp only [eqCells, eqScal, Bool.and_true, Option.some.injEq] at he
      rw [← he]
    · -- array
      rename_i n e' hu
      split at hsh
      · rename_i ks' hks
        split at hsh
        · rename_i s hs
          cases hc : Nat.beq s (n * ks'.length) with
          | false => rw [hc] at hsh; cases hsh
          | true =>
            rw [hc] at hsh; cases hsh
            have : b = true := by simpa [aggOf?, hu] using hb.symm
            subst this
            simp only [ValOf, if_true] at rx ry
            obtain ⟨cx, rfl, rx⟩ := rx
            obtain ⟨cy, rfl, ry⟩ := ry
            obtain ⟨hes, hag⟩ := shapeOf_size hks
            obtain ⟨b, hb', h1⟩ : ∃ b, aggOf? P e' = some b ∧ (b = false → ks'.length = 1) := by
              rcases hag with ⟨h1, h2⟩ | h1
              · exact ⟨false, h1, fun _ => h2⟩
              · exact ⟨true, h1, by simp⟩
            obtain ⟨i, hi, his⟩ : ∃ i, P.info? e' = some i ∧ P.cellsOf e' = ks'.length := by
              unfold sizeOf? at hes
              split at hes
              · rename_i i hi; exact ⟨i, hi, by simpa [Program.cellsOf, hi] using hes⟩
              · cases hes
            rw [run_equalIn_array w d _ _ hu hi, his, List.range_eq_range']
            exact eqItems_shape d e' ks' b hb' hes h1 (fun xs ys vx vy r => ih d e' ks' b xs ys vx vy r hks (by omega) hb') rx ry n 0 r (by simpa using hx) (by simpa using hy) (by simpa using he)
        · cases hsh
      · cases hsh
    · -- struct
      rename_i fs hu
      cases hst : P.stoodInHeld t with
      | true => rw [hst] at hsh; cases hsh
      | false =>
        rw [hst] at hsh
        simp only [cond_false] at hsh
        split at hsh
        · rename_i ks' hks
          split at hsh
          · rename_i s hs
            cases hc : Nat.beq s ks'.length with
            | false => rw [hc] at hsh; cases hsh
            | true =>
              rw [hc] at hsh; cases hsh
              have : b = true := by simpa [aggOf?, hu] using hb.symm
              subst this
              simp only [ValOf, if_true] at rx ry
              obtain ⟨cx, rfl, rx⟩ := rx
              obtain ⟨cy, rfl, ry⟩ := ry
              have hfo : P.fieldsOf t = fs := by simp [Program.fieldsOf, hu]
              rw [run_equalIn_struct w d t _ _ (by rw [hfo]; exact hu) hst, hfo]
              exact eqFields_shape d (shapeOf P f) (fun t ks h => shapeOf_size h) (fun t ks b xs ys vx vy r h => ih d t ks b xs ys vx vy r h (by omega)) rx ry fs.toList 0 _ r hks (Nat.zero_le _) (Nat.zero_le _) (by simpa using hx) (by simpa using hy) (by simpa using he)
          · cases hsh
        · cases hsh
    · cases hsh

end
end Go.Proofs.YtcnnhnjcnekhcaaGreat.Ab
/-
  THE ABSTRACT WALK: operations that make or turn a variable of the call's own.
-/
namespace Go.Proofs.YtcnnhnjcnekhcaaGreat.Ab
open Go Go.RowKit

theorem addr_add (b o n : Nat) : (⟨b, o, none⟩ : Addr).add n = ⟨b, o + n, none⟩ := by unfold Addr.add; split <;> simp_all

section
variable {P : Program} {gl : Nat → Option D} {w0 : World} {St0 : Nat → Nat → Prop} {e : Env} {a : Act} {w : World} {g : Gh}

theorem alloc_old (w : World) (o : Obj) (b : Nat) (h : b < w.heap.size) : (w.alloc o).heap[b]? = w.heap[b]? := by
  show (w.heap.push o)[b]? = _
  rw [Array.getElem?_push, if_neg (Nat.ne_of_lt h)]
theorem alloc_new (w : World) (o : Obj) : (w.alloc o).heap[w.heap.size]? = some o := by
  show (w.heap.push o)[w.heap.size]? = _
  simp
theorem alloc_size (w : World) (o : Obj) : (w.alloc o).heap.size = w.heap.size + 1 := by
  show (w.heap.push o).size = _
  simp
theorem cell_alloc_old (w : World) (o : Obj) (b off : Nat) (h : b < w.heap.size) : (w.alloc o).cell? ⟨b, off, none⟩ = w.cell? ⟨b, off, none⟩ :=
  World.cell?_of_block (alloc_old w o b h)

theorem Inv.stlt (hI : Inv gl w0 St0 e a w g) {b o : Nat} (h : g.St b o) : b < w.heap.size := (hI.st1 b o h).2.2

/-- an owner's row lies in the heap -/
theorem OwnAt.lt {base : Nat} {p : Pos} {b a c : Nat} (h : OwnAt base w g p b a c) : b < w.heap.size := by
  obtain ⟨_, _, _, ⟨cur, e, h, _⟩, _⟩ := h
  exact (Array.getElem?_eq_some_iff.1 h).1

/-- a new variable -/
theorem Goes.newBox (hI : Inv gl w0 St0 e a w g) {o : Oper} {cells : Array Value} {t : TypeId} {bx : Box} {id : Nat} {k : Slot → List Box → Prop}
    (hid : e.boxes[id]? = some .none)
    (hrun : (execOp a.eval o).run P w = .ok (.value (.pointer (some ⟨w.heap.size, 0, none⟩))) (w.alloc (.cells cells t)))
    (hone : ∀ y ∈ cells, y.oneCell' = true)
    (rep : ∀ (w' : World) (g' : Gh) (O : Nat → Nat → Nat → Nat → Prop), Ext w0.heap.size w g w' g' (fun _ => False) → (match bx with
      | .none => False
      | .cells cs => cs.length = cells.size ∧ ∀ (j : Nat) x y, cs[j]? = some x → cells[j]? = some y → RepV w' g'.St w0.heap.size (O j) x y
      | .one s => cells.size = 1 ∧ ∀ y, cells[0]? = some y → RepS w0.heap.size w' g' (fun _ => O 0) s y))
    (hk : k (.p id 0) (e.boxes.set id bx)) : Goes P gl w0 St0 e.slots o a w k := by
  intro next Q hn
  unfold Oper.wp
  rw [hrun]
  have hle : w0.heap.size ≤ w.heap.size := hI.below.size
  have hidl : id < e.boxes.length := (List.getElem?_eq_some_iff.1 hid).1
  have hidn : ∀ blk, g.bx[id]? ≠ some (some blk) := fun blk h => by
    obtain ⟨_, _, _, _, _, hr⟩ := hI.boxes id .none blk hid h
    exact hr
  have hmem : ∀ b, some b ∈ g.bx.set id (some w.heap.size) → some b ∈ g.bx ∨ b = w.heap.size := fun b h => by
    rcases List.mem_or_eq_of_mem_set h with h | h
    · exact .inl h
    · exact .inr (by simpa using h)
  have hX : Ext w0.heap.size w g (w.alloc (.cells cells t)) { g with bx := g.bx.set id (some w.heap.size) } (fun _ => False) := by
    refine ⟨fun b o h => ⟨h, cell_alloc_old w _ b o (hI.stlt h)⟩, fun b o h => cell_alloc_old w _ b o (by omega), fun i blk h => ?_, fun p b a c _ ho => ?_⟩
    · simp only
      rw [List.getElem?_set_ne (fun hh => hidn blk (by rw [hh]; exact h))]
      exact h
    · have hlt := ho.lt
      obtain ⟨h1, h2, h3, ⟨cur, ty, h4, h4'⟩, h5⟩ := ho
      refine ⟨h1, h2, ?_, ⟨cur, ty, (alloc_old w _ b hlt).trans h4, h4'⟩, h5⟩
      intro hm
      rcases hmem b hm with h | h
      · exact h3 h
      · omega
  refine hn (.p id 0) _ _ _ { g with bx := g.bx.set id (some w.heap.size) } (hI.step (lost := fun p => ∃ d j, o.dst = some d ∧ p = .s d j)
    ⟨hX.st, hX.bs, hX.bx, fun p b a c _ ho => hX.own p b a c (fun h => h) ho⟩ ((Below.refl _ _).alloc hle _) rfl
    (fun i x hx hd => ⟨x, hx, .inl ⟨rfl, fun j => ?_⟩⟩) ?_ (by simp [hI.bxlen]) ?_ ?_ ?_ ?_) hk
  · rintro ⟨d, j', h1, h2⟩; cases h2; exact hd h1
  · intro d _
    refine .p _ _ _ _ ?_
    simp only
    rw [List.getElem?_set_self (by rw [hI.bxlen]; exact hidl)]
  · intro b bx' blk h1 h2
    simp only at h2
    by_cases hb : id = b
    · subst hb
      rw [List.getElem?_set_self hidl] at h1
      rw [List.getElem?_set_self (by rw [hI.bxlen]; exact hidl)] at h2
      simp only [Option.some.injEq] at h1 h2
      subst h1 h2
      refine ⟨hle, cells, t, alloc_new w _, hone, ?_⟩
      have := rep _ _ (boxO w0.heap.size (w.alloc (.cells cells t)) { g with bx := g.bx.set id (some w.heap.size) } id) hX
      cases bx with
      | none => exact this
      | cells cs => exact this
      | one s => exact this
    · rw [List.getElem?_set_ne hb] at h1 h2
      have hblt := (hI.bxlt blk (List.mem_of_getElem? h2)).2
      exact hX.box (fun _ h => h) (alloc_old w _ blk hblt) (hI.boxes b bx' blk h1 h2)
  · intro i j blk h1 h2
    simp only at h1 h2
    rw [List.getElem?_set] at h1 h2
    split at h1 <;> split at h2
    · omega
    · rename_i hi hj
      split at h1
      · simp only [Option.some.injEq] at h1
        subst h1
        have := (hI.bxlt _ (List.mem_of_getElem? h2)).2
        omega
      · cases h1
    · rename_i hi hj
      split at h2
      · simp only [Option.some.injEq] at h2
        subst h2
        have := (hI.bxlt _ (List.mem_of_getElem? h1)).2
        omega
      · cases h2
    · exact hI.nodup i j blk h1 h2
  · intro b hb
    have hs : (w.alloc (.cells cells t)).heap.size = w.heap.size + 1 := alloc_size w _
    rw [hs]
    rcases hmem b hb with hb | rfl
    · have := hI.bxlt b hb; omega
    · omega
  · intro b o h
    have hs : (w.alloc (.cells cells t)).heap.size = w.heap.size + 1 := alloc_size w _
    have h1 := hI.st1 b o h
    refine ⟨h1.1, fun hm => ?_, by omega⟩
    rcases hmem b hm with h | h
    · exact h1.2.1 h
    · omega

/-- a variable turned -/
theorem Inv.setBox (hI : Inv gl w0 St0 e a w g) {b blk : Nat} {bx' : Box} {w' : World} {cells : Array Value} {t : TypeId} {dst : Option Nat} {s : Slot} {v : Value} {slots : List Slot}
    (lostS lostB : Nat → Prop) {g' : Gh} (hgs : g'.St = g.St) (hgb : g'.bx = g.bx)
    (hgo : ∀ p blk', (∀ i j, p = .s i j → ¬ lostS i) → (∀ j, p = .b b j → ¬ lostB j) → (∀ d j, dst = some d → p ≠ .s d j) → g.ow blk' = some p → g'.ow blk' = some p)
    (hb : g.bx[b]? = some (some blk))
    (hone : ∀ y ∈ cells, y.oneCell' = true)
    (hblk : w'.heap[blk]? = some (.cells cells t (0, 0))) (hoth : ∀ k, k ≠ blk → w'.heap[k]? = w.heap[k]?) (hsz : w'.heap.size = w.heap.size)
    (hos : w'.os = w.os ∧ w'.tape = w.tape ∧ w'.output = w.output)
    (hlen : slots.length = e.slots.length)
    (hs : ∀ (i : Nat) x, slots[i]? = some x → dst ≠ some i → ∃ y, e.slots[i]? = some y ∧ ((x = y ∧ ¬ lostS i) ∨ x = y.demote))
    (rep : Ext w0.heap.size w g w' g' (fun p => (∃ i j, p = .s i j ∧ lostS i) ∨ (∃ j, p = .b b j ∧ lostB j) ∨ (∃ d j, dst = some d ∧ p = .s d j)) → (match bx' with
      | .none => False
      | .cells cs => cs.length = cells.size ∧ ∀ (j : Nat) x y, cs[j]? = some x → cells[j]? = some y → RepV w' g'.St w0.heap.size (boxO w0.heap.size w' g' b j) x y
      | .one s => cells.size = 1 ∧ ∀ y, cells[0]? = some y → RepS w0.heap.size w' g' (fun _ => boxO w0.heap.size w' g' b 0) s y))
    (hdst : Ext w0.heap.size w g w' g' (fun p => (∃ i j, p = .s i j ∧ lostS i) ∨ (∃ j, p = .b b j ∧ lostB j) ∨ (∃ d j, dst = some d ∧ p = .s d j)) →
      ∀ d, dst = some d → RepS w0.heap.size w' g' (slotO w0.heap.size w' g' d) s v) :
    Inv gl w0 St0 ⟨putSlot slots dst s, e.boxes.set b bx'⟩ (a.put dst v) w' g' := by
  have hbm : some blk ∈ g.bx := List.mem_of_getElem? hb
  have hbl := hI.bxlt blk hbm
  have hX : Ext w0.heap.size w g w' g' (fun p => (∃ i j, p = .s i j ∧ lostS i) ∨ (∃ j, p = .b b j ∧ lostB j) ∨ (∃ d j, dst = some d ∧ p = .s d j)) := by
    refine ⟨fun b' o h => ⟨by rw [hgs]; exact h, World.cell?_of_block (hoth b' ?_)⟩, fun b' o h => World.cell?_of_block (hoth b' (by omega)), fun i x h => by rw [hgb]; exact h, ?_⟩
    · rintro rfl; exact (hI.st1 b' o h).2.1 hbm
    · rintro p b' a' c' hl ⟨h1, h2, h3, ⟨cur, ty, h4, h4'⟩, h5⟩
      refine ⟨hgo p b' (fun i j h hl' => hl (.inl ⟨i, j, h, hl'⟩)) (fun j h hl' => hl (.inr (.inl ⟨j, h, hl'⟩))) (fun d j h1 h2 => hl (.inr (.inr ⟨d, j, h1, h2⟩))) h1, h2, by rw [hgb]; exact h3,
        ⟨cur, ty, (hoth b' (fun h => h3 (h ▸ hbm))).trans h4, h4'⟩, fun o ho => by rw [hgs]; exact h5 o ho⟩
  have hbelow : Below w0.heap.size w w' := ⟨hos.1, hos.2.1, hos.2.2, by omega, fun k hk => hoth k (by omega)⟩
  refine hI.step hX hbelow hlen (fun i x hx hd => ?_) (hdst hX) (by rw [hgb]; simp [hI.bxlen]) ?_ (by rw [hgb]; exact hI.nodup) ?_ ?_
  · obtain ⟨y, hy, ⟨rfl, hl⟩ | h⟩ := hs i x hx hd
    · refine ⟨x, hy, .inl ⟨rfl, fun j => ?_⟩⟩
      rintro (⟨i', j', h, hl'⟩ | ⟨j', h, _⟩ | ⟨d, j', h1, h2⟩)
      · cases h; exact hl hl'
      · cases h
      · cases h2; exact hd h1
    · exact ⟨y, hy, .inr h⟩
  · intro b' bx blk' h1 h2
    rw [hgb] at h2
    rw [List.getElem?_set] at h1
    by_cases hbb : b = b'
    · subst hbb
      rw [hb] at h2; cases h2
      simp only [↓reduceIte] at h1
      split at h1
      · cases h1
        refine ⟨hbl.1, cells, t, hblk, hone, ?_⟩
        have := rep hX
        cases bx' with
        | none => exact this
        | cells cs => exact this
        | one s => exact this
      · cases h1
    · simp only [hbb, ↓reduceIte] at h1
      have hne : blk' ≠ blk := by
        rintro rfl
        exact hbb (hI.nodup _ _ _ hb h2)
      refine hX.box (fun j => ?_) (hoth blk' hne) (hI.boxes b' bx blk' h1 h2)
      rintro (⟨i', j', h, hl'⟩ | ⟨j', h, _⟩ | ⟨d, j', h1, h2⟩)
      · cases h
      · cases h; exact hbb rfl
      · cases h2
  · intro x hx; rw [hgb] at hx; rw [hsz]; exact hI.bxlt x hx
  · intro b' o h; rw [hgs] at h; rw [hgb, hsz]; exact hI.st1 b' o h

end
end Go.Proofs.YtcnnhnjcnekhcaaGreat.Ab
/-
  THE ABSTRACT WALK: the operations that only compute.
-/
namespace Go.Proofs.YtcnnhnjcnekhcaaGreat.Ab
open Go Go.RowKit

section
variable {P : Program} {gl : Nat → Option D} {w0 : World} {St0 : Nat → Nat → Prop} {e : Env} {a : Act} {w : World} {g : Gh}

theorem RepD.int_inv {St : Nat → Nat → Prop} {k : IntKind} {n : Int} {v : Value} (h : RepD w St (.int k n) v) : v = .int k n ∧ wfI k n = true := by
  cases h with
  | int _ _ h => exact ⟨rfl, h⟩
theorem RepD.str_inv {St : Nat → Nat → Prop} {l : List UInt8} {v : Value} (h : RepD w St (.str l) v) : ∃ s, v = .string s ∧ l = s.data.toList ∧ s.size ≤ maxLen := by
  cases h with
  | str s h => exact ⟨s, rfl, rfl, h⟩
theorem RepD.bool_inv {St : Nat → Nat → Prop} {b : Bool} {v : Value} (h : RepD w St (.bool b) v) : v = .bool b := by
  cases h with
  | bool _ => rfl
theorem RepD.agg_inv {St : Nat → Nat → Prop} {ds : List D} {v : Value} (h : RepD w St (.agg ds) v) : ∃ vs, v = .agg vs ∧ RepCs w St ds vs ∧ ∀ d ∈ ds, d.one = true := by
  cases h with
  | agg _ vs hf hl hc => exact ⟨vs, rfl, ⟨hl, hc⟩, hf⟩

theorem eqGuard_plain (op : BinOp) (t : TypeId) (x y : Operand) (u v : Value) (h : (match u, v with | .nilIface, .nilIface => False | .agg _, .agg _ => False | _, _ => True)) :
    (eqGuard op t x y u v).run P w = .ok () w := by
  cases op <;> (try rfl) <;> (unfold eqGuard; simp only [Bool.not_true, Bool.false_eq_true, if_false]; cases u <;> cases v <;> first | rfl | exact h.elim)

theorem goes_bin (hI : Inv gl w0 St0 e a w g) {o : Oper} {op : BinOp} {t u : TypeId} {x y : Operand} (ho : o.op = .binOp op t x y u) {k : Slot → List Box → Prop}
    (h : bindO (binV (eqShape P op t) op ((Ab.opnd gl e x).demote).toSV ((Ab.opnd gl e y).demote).toSV) fun r => k (.v r) e.boxes) : Goes P gl w0 St0 e.slots o a w k := by
  obtain ⟨r, hr, hk⟩ := bindO_some h
  have hx := hI.opToSV x
  have hy := hI.opToSV y
  generalize ((Ab.opnd gl e x).demote).toSV = sx at hr hx
  generalize ((Ab.opnd gl e y).demote).toSV = sy at hr hy
  have key : ∃ v rd, r = .d rd ∧ (eqGuard op t x y (a.eval x) (a.eval y)).run P w = .ok () w ∧ (binOp op t (a.eval x) (a.eval y)).run P w = .ok v w ∧ RepD w g.St rd v := by
    cases sx <;> simp only [binV, reduceCtorEq] at hr
    rename_i dx
    cases sy <;> simp only [reduceCtorEq] at hr
    rename_i dy
    replace hx := hx.data
    replace hy := hy.data
    split at hr
    · rename_i rd hrd
      cases hr
      cases dx <;> cases dy <;> simp only [binD, reduceCtorEq] at hrd
      · -- bool
        rename_i b1 b2
        split at hrd
        · rename_i hsh
          rw [hx.bool_inv, hy.bool_inv]
          have hg := eqGuard_plain (P := P) (w := w) op t x y (.bool b1) (.bool b2) trivial
          have : ∃ f, shapeOf P f t = some [.bool] ∧ f ≤ 10000 ∧ aggOf? P t = some false := by
            unfold eqShape at hsh
            split at hsh
            · cases hq : P.eqGuardType P.depth t <;> rw [hq] at hsh <;> simp only [cond_true, cond_false, reduceCtorEq] at hsh
              split at hsh
              · split at hsh
                · simp only [Option.some.injEq, Prod.mk.injEq] at hsh
                  obtain ⟨rfl, rfl⟩ := hsh
                  exact ⟨20, by assumption, by decide, by assumption⟩
                · cases hsh
              · cases hsh
            · cases hq : P.eqGuardType P.depth t <;> rw [hq] at hsh <;> simp only [cond_true, cond_false, reduceCtorEq] at hsh
              split at hsh
              · split at hsh
                · simp only [Option.some.injEq, Prod.mk.injEq] at hsh
                  obtain ⟨rfl, rfl⟩ := hsh
                  exact ⟨20, by assumption, by decide, by assumption⟩
                · cases hsh
              · cases hsh
            · cases hsh
          obtain ⟨f, h1, h2, h3⟩ := this
          have hq := equalIn_shape (w := w) (g := g) f 10000 t _ false [.bool b1] [.bool b2] (.bool b1) (.bool b2) (b1 == b2) h1 h2 h3 rfl rfl
            (by simp only [ValOf, Bool.false_eq_true, if_false]; exact ⟨_, rfl, .bool _⟩) (by simp only [ValOf, Bool.false_eq_true, if_false]; exact ⟨_, rfl, .bool _⟩) (by simp [eqCells, eqScal])
          split at hrd
          · cases hrd; exact ⟨_, _, rfl, hg, by simp [binOp, Op.equal, Op.maxDepth, hq], .bool _⟩
          · cases hrd; exact ⟨_, _, rfl, hg, by simp [binOp, Op.equal, Op.maxDepth, hq], .bool _⟩
          · cases hrd
        · cases hrd
      · -- int
        rename_i k1 n1 k2 n2
        obtain ⟨ex, wx⟩ := hx.int_inv
        obtain ⟨ey, wy⟩ := hy.int_inv
        rw [ex, ey]
        have hg := eqGuard_plain (P := P) (w := w) op t x y (.int k1 n1) (.int k2 n2) trivial
        split at hrd
        · obtain ⟨v, hv, hv'⟩ := shiftOp_run (P := P) (w := w) (g := g) (k' := k2) t (.inl rfl) wx hrd
          exact ⟨v, rd, rfl, hg, hv, hv'⟩
        · obtain ⟨v, hv, hv'⟩ := shiftOp_run (P := P) (w := w) (g := g) (k' := k2) t (.inr rfl) wx hrd
          exact ⟨v, rd, rfl, hg, hv, hv'⟩
        · rename_i h1 h2
          split at hrd
          · rename_i hkk
            subst hkk
            obtain ⟨v, hv, hv'⟩ := intBop_run (P := P) (w := w) (g := g) t ⟨h1, h2⟩ wx wy hrd
            exact ⟨v, rd, rfl, hg, hv, hv'⟩
          · cases hrd
      · -- string
        obtain ⟨s1, e1, f1, _⟩ := hx.str_inv
        obtain ⟨s2, e2, f2, _⟩ := hy.str_inv
        rw [e1, e2]
        rw [f1, f2] at hrd
        obtain ⟨v, hv, hv'⟩ := strBop_run (P := P) (w := w) (g := g) t hrd
        exact ⟨v, rd, rfl, eqGuard_plain op t x y _ _ trivial, hv, hv'⟩
      · -- aggregates
        rename_i l1 l2
        split at hrd
        · rename_i ks hsh
          obtain ⟨v1, e1, r1, _⟩ := hx.agg_inv
          obtain ⟨v2, e2, r2, _⟩ := hy.agg_inv
          rw [e1, e2]
          cases hck : (ckOk ks l1 && ckOk ks l2) with
          | false => rw [hck] at hrd; cases hrd
          | true =>
            rw [hck] at hrd
            simp only [Bool.and_eq_true] at hck
            simp only [cond_true] at hrd
            have : shapeOf P 20 t = some ks ∧ aggOf? P t = some true ∧ P.eqGuardType P.depth t = false := by
              unfold eqShape at hsh
              split at hsh
              · cases hq : P.eqGuardType P.depth t <;> rw [hq] at hsh <;> simp only [cond_true, cond_false, reduceCtorEq] at hsh
                split at hsh
                · split at hsh
                  · simp only [Option.some.injEq, Prod.mk.injEq] at hsh
                    obtain ⟨rfl, rfl⟩ := hsh
                    exact ⟨by assumption, by assumption, rfl⟩
                  · cases hsh
                · cases hsh
              · cases hq : P.eqGuardType P.depth t <;> rw [hq] at hsh <;> simp only [cond_true, cond_false, reduceCtorEq] at hsh
                split at hsh
                · split at hsh
                  · simp only [Option.some.injEq, Prod.mk.injEq] at hsh
                    obtain ⟨rfl, rfl⟩ := hsh
                    exact ⟨by assumption, by assumption, rfl⟩
                  · cases hsh
                · cases hsh
              · cases hsh
            obtain ⟨h1, h3, h4⟩ := this
            have hg := run_eqGuard_agg (P := P) w op t x y v1 v2 h4
            have hq : ∀ c, eqCells l1 l2 = some c → (Op.equalIn 10000 t (.agg v1) (.agg v2)).run P w = .ok c w := fun c hc =>
              equalIn_shape (w := w) (g := g) 20 10000 t _ true l1 l2 (.agg v1) (.agg v2) c h1 (by decide) h3 hck.1 hck.2
                (by simp only [ValOf, if_true]; exact ⟨_, rfl, r1⟩) (by simp only [ValOf, if_true]; exact ⟨_, rfl, r2⟩) hc
            split at hrd
            · split at hrd
              · rename_i c hc; cases hrd; exact ⟨_, _, rfl, hg, by simp [run_eql_struct, hq c hc], .bool _⟩
              · cases hrd
            · split at hrd
              · rename_i c hc; cases hrd; exact ⟨_, _, rfl, hg, by simp [run_neq_struct, hq c hc], .bool _⟩
              · cases hrd
            · cases hrd
        · cases hrd
    · cases hr
  obtain ⟨v, rd, rfl, hg, hv, hv'⟩ := key
  refine Goes.valueV hI (s := .d rd) (v := v) ?_ (.d _ _ _ hv') hk
  simp [execOp, ho, hg, hv]

theorem goes_un (hI : Inv gl w0 St0 e a w g) {o : Oper} {op : UnOp} {t : TypeId} {x : Operand} (ho : o.op = .unOp op t x) {k : Slot → List Box → Prop}
    (h : bindO (unV op ((Ab.opnd gl e x).demote).toSV) fun r => k (.v r) e.boxes) : Goes P gl w0 St0 e.slots o a w k := by
  obtain ⟨r, hr, hk⟩ := bindO_some h
  have hx := hI.opToSV x
  generalize ((Ab.opnd gl e x).demote).toSV = sx at hr hx
  unfold unV at hr
  split at hr
  · rename_i b
    have hx := hx.data.bool_inv
    split at hr
    · cases hr; exact Goes.valueV hI (v := .bool (!b)) (by simp [execOp, ho, hx, Op.unary]) (.d _ _ _ (.bool _)) hk
    · cases hr
  · rename_i kk n
    obtain ⟨hx, wx⟩ := hx.data.int_inv
    split at hr
    · cases hr; exact Goes.valueV hI (by simp only [execOp, ho, hx, Op.unary, Op.intArith]; simp) (.d _ _ _ (.int _ _ (wfI_wrap _ _))) hk
    · cases hr; exact Goes.valueV hI (by simp only [execOp, ho, hx, Op.unary, Op.intBits]; simp) (.d _ _ _ (.int _ _ (wfI_wrap _ _))) hk
    · cases hr
  · cases hr

theorem goes_conv (hI : Inv gl w0 St0 e a w g) {o : Oper} {src dst : TypeId} {x : Operand} (ho : o.op = .convert src dst x) (hs : (P.underlying src).isSome = true) {k : Slot → List Box → Prop}
    (h : bindO (convV P dst ((Ab.opnd gl e x).demote).toSV) fun r => k (.v r) e.boxes) : Goes P gl w0 St0 e.slots o a w k := by
  obtain ⟨r, hr, hk⟩ := bindO_some h
  have hx := hI.opToSV x
  generalize ((Ab.opnd gl e x).demote).toSV = sx at hr hx
  obtain ⟨us, hus⟩ := Option.isSome_iff_exists.1 hs
  unfold convV at hr
  split at hr
  · rename_i kk n
    obtain ⟨hx, wx⟩ := hx.data.int_inv
    split at hr
    · rename_i kd hd
      cases hr
      refine Goes.valueV hI (v := .int kd (kd.wrap n)) ?_ (.d _ _ _ (.int _ _ (wfI_wrap _ _))) hk
      cases us <;> simp [execOp, ho, hx, convert, run_underlying hus, run_underlying hd, Conv.intToInt]
    · cases hr
  · rename_i l
    obtain ⟨s1, e1, f1, h1⟩ := hx.data.str_inv
    split at hr
    · rename_i hd
      cases hr
      refine Goes.valueV hI (v := .string s1) ?_ (.d _ _ _ (by rw [f1]; exact .str _ h1)) hk
      cases us <;> simp [execOp, ho, e1, convert, run_underlying hus, run_underlying hd]
    · cases hr
  · cases hr

end
end Go.Proofs.YtcnnhnjcnekhcaaGreat.Ab
/-
  THE ABSTRACT WALK: variables: made, read, written; parts of slices and structs.
-/
namespace Go.Proofs.YtcnnhnjcnekhcaaGreat.Ab
open Go Go.RowKit

section
variable {P : Program} {gl : Nat → Option D} {w0 : World} {St0 : Nat → Nat → Prop} {e : Env} {a : Act} {w : World} {g : Gh}

theorem Inv.opS (hI : Inv gl w0 St0 e a w g) {x : Operand} {s : Slot} (h : (Ab.opnd gl e x).demote = s) : RepS w0.heap.size w g (fun _ _ _ _ => False) s (a.eval x) := h ▸ hI.opnd x

theorem RepS.v_inv {base : Nat} {O : Nat → Nat → Nat → Nat → Prop} {x : SV} {v : Value} (h : RepS base w g O (.v x) v) : RepV w g.St base (O 0) x v := by
  cases h with
  | v _ _ _ h => exact h
theorem RepS.p_inv {base : Nat} {O : Nat → Nat → Nat → Nat → Prop} {b off : Nat} {v : Value} (h : RepS base w g O (.p b off) v) : ∃ blk, v = .pointer (some ⟨blk, off, none⟩) ∧ g.bx[b]? = some (some blk) := by
  cases h with
  | p _ _ _ blk h => exact ⟨blk, rfl, h⟩
theorem RepS.t_inv {base : Nat} {O : Nat → Nat → Nat → Nat → Prop} {xs : List SV} {v : Value} (h : RepS base w g O (.t xs) v) :
    ∃ vs, v = .tuple vs ∧ xs.length = vs.size ∧ ∀ (j : Nat) x v, xs[j]? = some x → vs[j]? = some v → RepV w g.St base (O j) x v := by
  cases h with
  | t _ _ vs hl hc => exact ⟨vs, rfl, hl, hc⟩

/-- a cell's value is of one cell -/
theorem RepV.oneCell {St : Nat → Nat → Prop} {base : Nat} {O : Nat → Nat → Nat → Prop} {x : SV} {v : Value} (h : RepV w St base O x v) (hx : (match x with | .d y => y.one = true | .undef => False | _ => True)) :
    v.oneCell' = true := by
  cases h <;> first | rfl | (exact RepD.oneCell (by assumption) hx) | exact hx.elim

/-- cellsV: the value's cells stand for them -/
theorem RepV.cells {St : Nat → Nat → Prop} {base : Nat} {O : Nat → Nat → Nat → Prop} {x : SV} {v : Value} (h : RepV w St base O x v) {l : List SV} (hl : cellsV x = some l) :
    l.length = v.cells.size ∧ (∀ y ∈ v.cells, y.oneCell' = true) ∧ ∀ (i : Nat) c y, l[i]? = some c → v.cells[i]? = some y → RepV w St base O c y := by
  have one : ∀ (c : SV) (u : Value), RepV w St base O c u → u.oneCell' = true → u.cells = #[u] → [c].length = u.cells.size ∧ (∀ y ∈ u.cells, y.oneCell' = true) ∧ ∀ (i : Nat) c' y, [c][i]? = some c' → u.cells[i]? = some y → RepV w St base O c' y := by
    intro c u hr h1 hu
    rw [hu]
    refine ⟨rfl, by simpa using h1, fun i c' y hc hy => ?_⟩
    cases i with
    | zero => simp at hc hy; subst hc hy; exact hr
    | succ i => simp at hc
  cases h with
  | d _ y _ hd =>
    simp only [cellsV, Option.some.injEq] at hl
    subst hl
    by_cases hy : y.one = true
    · have hc : y.cells = [y] := by cases y <;> first | rfl | simp [D.one] at hy
      have h1 := hd.oneCell hy
      have hv : v.cells = #[v] := by cases v <;> first | rfl | simp [Value.oneCell'] at h1
      rw [hc]
      exact one (.d y) v (.d _ _ _ hd) h1 hv
    · cases y <;> simp only [D.one, not_true_eq_false] at hy
      rename_i ds
      obtain ⟨vs, rfl, ⟨hs, hc⟩, hf⟩ := hd.agg_inv
      refine ⟨by simpa [D.cells, Value.cells] using hs, fun y hy => ?_, fun i c y hc' hy => ?_⟩
      · obtain ⟨i, hi, rfl⟩ := Array.mem_iff_getElem.1 hy
        have hi' : i < ds.length := by rw [hs]; exact hi
        exact (hc i ds[i] _ (List.getElem?_eq_getElem hi') (Array.getElem?_eq_getElem hi)).oneCell (hf _ (List.getElem_mem hi'))
      · simp only [D.cells, List.getElem?_map, Option.map_eq_some_iff] at hc'
        obtain ⟨d, hd', rfl⟩ := hc'
        exact .d _ _ _ (hc i d y hd' hy)
  | own _ sz L gg cap hd hcap ho => simp only [cellsV, Option.some.injEq] at hl; subst hl; exact one _ _ (.own _ sz L gg cap hd hcap ho) rfl rfl
  | full _ sz L ad hd => simp only [cellsV, Option.some.injEq] at hl; subst hl; exact one _ _ (.full _ sz L ad hd) rfl rfl
  | ref _ cs off b o vs hb h1 h2 => simp only [cellsV, Option.some.injEq] at hl; subst hl; exact one _ _ (.ref _ cs off b o vs hb h1 h2) rfl rfl
  | dptr _ y off b o vs h0 h1 h2 => simp only [cellsV, Option.some.injEq] at hl; subst hl; exact one _ _ (.dptr _ y off b o vs h0 h1 h2) rfl rfl
  | clo _ f first cap fv cv h1 h2 h3 h4 => simp only [cellsV, Option.some.injEq] at hl; subst hl; exact one _ _ (.clo _ f first cap fv cv h1 h2 h3 h4) rfl rfl
  | undef _ _ => simp [cellsV] at hl

theorem zeroCells_rep {t : TypeId} {z : List D} (h : zeroCells? P t = some z) : ∃ zv : Value, (∀ w : World, (zeroValue t).run P w = .ok zv w) ∧ z.length = zv.cells.size ∧ (∀ d ∈ z, d.one = true) ∧
    ∀ (w : World) (St : Nat → Nat → Prop) (i : Nat) x v, z[i]? = some x → zv.cells[i]? = some v → RepD w St x v := by
  unfold zeroCells? at h
  split at h
  · rename_i i hi
    split at h
    · rename_i zv hz
      refine ⟨zv, fun w => by simp [zeroValue, typeInfo, hi, hz], ?_, ofScals_one h, fun w St j x v hx hv => ?_⟩
      · have := (ofScals_rep (w := default) (St := fun _ _ => False) h).1
        simpa using this
      · exact (ofScals_rep (w := w) (St := St) h).2 j x v hx (by simpa using hv)
    · cases h
  · cases h

theorem goes_alloc (hI : Inv gl w0 St0 e a w g) {o : Oper} {t : TypeId} (ho : o.op = .alloc t) {id : Nat} {k : Slot → List Box → Prop}
    (hid : e.boxes[id]? = some .none)
    (h : bindO (zeroCells? P t) fun z => k (.p id 0) (e.boxes.set id (.cells (z.map .d)))) : Goes P gl w0 St0 e.slots o a w k := by
  obtain ⟨z, hz, hk⟩ := bindO_some h
  obtain ⟨zv, hrun, hlen, hone, hrep⟩ := zeroCells_rep hz
  refine Goes.newBox hI hid (cells := zv.cells) (t := t) (bx := .cells (z.map .d)) ?_ ?_ ?_ hk
  · simp [execOp, ho, Instr.alloc, hrun, newVar, newRow]
  · intro y hy
    obtain ⟨i, hi, rfl⟩ := Array.mem_iff_getElem.1 hy
    have hi' : i < z.length := by rw [hlen]; exact hi
    exact (hrep w (fun _ _ => False) i z[i] _ (List.getElem?_eq_getElem hi') (Array.getElem?_eq_getElem hi)).oneCell (hone _ (List.getElem_mem hi'))
  · intro w' g' O hX
    refine ⟨by simpa using hlen, fun j x y hx hy => ?_⟩
    simp only [List.getElem?_map, Option.map_eq_some_iff] at hx
    obtain ⟨d, hd, rfl⟩ := hx
    exact .d _ _ _ (hrep _ _ j d y hd hy)

theorem goes_box (hI : Inv gl w0 St0 e a w g) {o : Oper} {t : TypeId} {x : Operand} (ho : o.op = .box t x) {id : Nat} {k : Slot → List Box → Prop}
    (hid : e.boxes[id]? = some .none)
    (h : bindO (sizeOf? P t) fun sz => (match (Ab.opnd gl e x).demote with
    | .v y => bindO (cellsV y) fun l => l.length = sz ∧ k (.p id 0) (e.boxes.set id (.cells l))
    | .t _ => False
    | s => (match sz with | 1 => k (.p id 0) (e.boxes.set id (.one s)) | _ => False))) : Goes P gl w0 St0 e.slots o a w k := by
  obtain ⟨sz, hsz, h⟩ := bindO_some h
  have hx := hI.opnd x
  have hrun : (execOp a.eval o).run P w = .ok (.value (.pointer (some ⟨w.heap.size, 0, none⟩))) (w.alloc (.cells (a.eval x).cells t)) := by
    simp [execOp, ho, Instr.box, newVar, newRow]
  have hslot : ∀ s, (Ab.opnd gl e x).demote = s → (∀ y, s ≠ .v y) → (∀ y, s ≠ .t y) → k (.p id 0) (e.boxes.set id (.one s)) → Goes P gl w0 St0 e.slots o a w k := by
    intro s hs h1 h2 hk
    rw [hs] at hx
    have hc : (a.eval x).cells = #[a.eval x] := by
      clear hrun
      generalize a.eval x = u at hx
      cases hx with
      | v _ y _ _ => exact absurd rfl (h1 y)
      | p => rfl
      | c => rfl
      | t _ y _ _ _ => exact absurd rfl (h2 y)
    have h1c : (a.eval x).oneCell' = true := by
      clear hrun hc
      generalize a.eval x = u at hx
      cases hx with
      | v _ y _ _ => exact absurd rfl (h1 y)
      | p => rfl
      | c => rfl
      | t _ y _ _ _ => exact absurd rfl (h2 y)
    refine Goes.newBox hI hid (bx := .one s) hrun (by rw [hc]; simpa using h1c) (fun w' g' O hX => ?_) hk
    refine ⟨by rw [hc]; rfl, fun y hy => ?_⟩
    rw [hc] at hy
    simp at hy
    subst hy
    exact hx.mono hX.st hX.bs hX.bx fun _ _ _ _ h => h.elim
  split at h
  · rename_i y hy
    obtain ⟨l, hl, hlen, hk⟩ := bindO_some h
    rw [hy] at hx
    obtain ⟨h1, h2, h3⟩ := hx.v_inv.cells hl
    refine Goes.newBox hI hid (bx := .cells l) hrun h2 (fun w' g' O hX => ⟨h1, fun j c u hc hu => ?_⟩) hk
    exact (h3 j c u hc hu).mono hX.st hX.bs _ (fun _ _ _ h => h.elim)
  · exact h.elim
  · rename_i h1 h2
    split at h
    · exact hslot _ rfl (fun y hy => h1 y hy) (fun y hy => h2 y hy) h
    · exact h.elim

/-! ### reading -/
theorem loadVar_run {t : TypeId} {b : Bool} {n : Nat} (hl : lay? P t = some (b, n)) (blk off : Nat) (vs : Nat → Value)
    (h : ∀ j, j < (if b then n else 1) → w.cell? ⟨blk, off + j, none⟩ = some (vs j)) :
    (loadVar t ⟨blk, off, none⟩).run P w = .ok (if b then .agg ((List.range n).map vs).toArray else vs 0) w := by
  obtain ⟨hb, hn, _⟩ := lay_run hl
  unfold loadVar
  simp only [Sem.run_bind, aggOf_run hb, Result.andThen_ok]
  cases b
  · have := h 0 (by simp)
    simp only [Nat.add_zero] at this
    simp [this]
  · have := run_loadCells (P := P) w ⟨blk, off, none⟩ n vs (fun j hj => by rw [addr_add]; exact h j (by simpa using hj))
    simp [sizeOf_run hn, this]

theorem toDs_spec : ∀ {l : List SV} {r : List D}, toDs l = some r → r.length = l.length ∧ ∀ (i : Nat) x y, l[i]? = some x → r[i]? = some y → toD x = some y
  | [], r, h => by cases h; simp
  | v :: l, r, h => by
    simp only [toDs] at h
    split at h
    · rename_i x hx
      split at h
      · rename_i r' hr
        cases h
        obtain ⟨h1, h2⟩ := toDs_spec hr
        refine ⟨by simp [h1], fun i y z hy hz => ?_⟩
        cases i with
        | zero => simp at hy hz; subst hy hz; exact hx
        | succ i => simp at hy hz; exact h2 i y z hy hz
      · cases h
    · cases h

theorem toD_one {x : SV} {y : D} (h : toD x = some y) (hx : match x with | .d z => z.one = true | _ => True) : y.one = true := by
  cases x <;> simp only [toD, Option.some.injEq, reduceCtorEq] at h <;> subst h <;> first | exact hx | rfl

/-- a part of cells in memory -/
theorem partV_load {t : TypeId} {b : Bool} {n off : Nat} {cs : List SV} {x : SV} {St : Nat → Nat → Prop} {base : Nat} {O : Nat → Nat → Nat → Nat → Prop} (hl : lay? P t = some (b, n)) (h : partV b n off cs = some x) (blk o : Nat)
    (vs : Nat → Value) (hcell : ∀ i, i < cs.length → w.cell? ⟨blk, o + i, none⟩ = some (vs i)) (hrep : ∀ (i : Nat) c, cs[i]? = some c → RepV w St base (O i) c (vs i))
    (hone : ∀ i, i < cs.length → (vs i).oneCell' = true) :
    ∃ v, (loadVar t ⟨blk, o + off, none⟩).run P w = .ok v w ∧ RepV w St base (O off) x v := by
  unfold partV at h
  cases b
  · simp only [cond_false] at h
    have hlt := (List.getElem?_eq_some_iff.1 h).1
    refine ⟨vs off, ?_, hrep off x h⟩
    rw [loadVar_run hl blk (o + off) (fun j => vs (off + j)) (fun j hj => by simp at hj; subst hj; simpa using hcell off hlt)]
    simp
  · simp only [cond_true] at h
    split at h
    · rename_i hle
      split at h
      · rename_i l hds
        cases h
        obtain ⟨hlen, hsp⟩ := toDs_spec hds
        refine ⟨.agg ((List.range n).map fun j => vs (off + j)).toArray, ?_, .d _ _ _ (.agg _ _ ?_ ?_ ?_)⟩
        · rw [loadVar_run hl blk (o + off) (fun j => vs (off + j)) (fun j hj => by
            simp at hj; rw [Nat.add_assoc]; exact hcell (off + j) (by omega))]
          simp
        · intro d hd
          obtain ⟨i, hi, rfl⟩ := List.mem_iff_getElem.1 hd
          have hi' : i < ((cs.drop off).take n).length := by rw [← hlen]; exact hi
          have hs := hsp i _ _ (List.getElem?_eq_getElem hi') (List.getElem?_eq_getElem hi)
          have hi2 : off + i < cs.length := by simp at hi'; omega
          have hc : ((cs.drop off).take n)[i] = cs[off + i] := by simp
          have hr := hrep (off + i) _ (List.getElem?_eq_getElem hi2)
          have h1 := hone (off + i) hi2
          rw [hc] at hs
          refine toD_one hs ?_
          revert hs hr
          cases cs[off + i] <;> intro hs hr <;> try trivial
          rename_i z
          cases z <;> first | rfl | (obtain ⟨_, hv, _⟩ := hr.data.agg_inv; rw [hv] at h1; simp [Value.oneCell'] at h1)
        · simp [hlen]; omega
        · intro i d v hd hv
          have hi : i < l.length := (List.getElem?_eq_some_iff.1 hd).1
          have hi' : i < ((cs.drop off).take n).length := by rw [← hlen]; exact hi
          have hi2 : off + i < cs.length := by simp at hi'; omega
          have hin : i < n := by simp at hi'; omega
          have hc : ((cs.drop off).take n)[i]? = some cs[off + i] := by
            rw [List.getElem?_eq_getElem hi']; simp
          have hs := hsp i _ _ hc hd
          have hr := hrep (off + i) _ (List.getElem?_eq_getElem hi2)
          simp [hin] at hv
          subst hv
          exact hr.toD hs
      · cases h
    · cases h

end
end Go.Proofs.YtcnnhnjcnekhcaaGreat.Ab
/-
  THE ABSTRACT WALK: loads and stores, addresses, parts.
-/
namespace Go.Proofs.YtcnnhnjcnekhcaaGreat.Ab
open Go Go.RowKit

section
variable {P : Program} {gl : Nat → Option D} {w0 : World} {St0 : Nat → Nat → Prop} {e : Env} {a : Act} {w : World} {g : Gh}

theorem RepD.one_of_oneCell {St : Nat → Nat → Prop} {d : D} {v : Value} (r : RepD w St d v) (h : v.oneCell' = true) : d.one = true := by
  cases d with
  | agg ds => obtain ⟨_, hv, _⟩ := r.agg_inv; rw [hv] at h; simp [Value.oneCell'] at h
  | _ => rfl

/-- loading from memory that holds cells of data -/
theorem partD_load {t : TypeId} {b : Bool} {n off : Nat} {cs : List D} {x : D} {St : Nat → Nat → Prop} (hl : lay? P t = some (b, n)) (h : partD b n off cs = some x) (blk o : Nat)
    (hf : ∀ c ∈ cs, c.one = true)
    (vs : Nat → Value) (hcell : ∀ i, i < cs.length → w.cell? ⟨blk, o + i, none⟩ = some (vs i)) (hrep : ∀ (i : Nat) c, cs[i]? = some c → RepD w St c (vs i)) :
    ∃ v, (loadVar t ⟨blk, o + off, none⟩).run P w = .ok v w ∧ RepD w St x v := by
  unfold partD at h
  cases b
  · simp only [cond_false] at h
    have hlt := (List.getElem?_eq_some_iff.1 h).1
    refine ⟨vs off, ?_, hrep off x h⟩
    rw [loadVar_run hl blk (o + off) (fun j => vs (off + j)) (fun j hj => by simp at hj; subst hj; simpa using hcell off hlt)]
    simp
  · simp only [cond_true] at h
    split at h
    · rename_i hle
      cases h
      refine ⟨.agg ((List.range n).map fun j => vs (off + j)).toArray, ?_, .agg _ _ ?_ ?_ ?_⟩
      · rw [loadVar_run hl blk (o + off) (fun j => vs (off + j)) (fun j hj => by
          simp at hj; rw [Nat.add_assoc]; exact hcell (off + j) (by omega))]
        simp
      · intro d hd
        exact hf d (List.mem_of_mem_drop (List.mem_of_mem_take hd))
      · simp; omega
      · intro i d v hd hv
        rw [List.getElem?_take] at hd
        split at hd
        · rename_i hi
          rw [List.getElem?_drop] at hd
          simp [hi] at hv
          subst hv
          exact hrep _ _ hd
        · cases hd
    · cases h

theorem goes_loadV (hI : Inv gl w0 St0 e a w g) {o : Oper} {t : TypeId} {x : Operand} (ho : o.op = .load t x) {k : Slot → List Box → Prop} {b : Bool} {n : Nat} (hl : lay? P t = some (b, n))
    {s : SV} (hs : (Ab.opnd gl e x).demote = .v s) (h : bindO (loadV b n s) fun y => k (.v y) e.boxes) : Goes P gl w0 St0 e.slots o a w k := by
  obtain ⟨y, hy, hk⟩ := bindO_some h
  have hx := hI.opV hs
  have hrun : ∀ {ad v}, a.eval x = .pointer (some ad) → (loadVar t ad).run P w = .ok v w → (execOp a.eval o).run P w = .ok (.value v) w := by
    intro ad v h1 h2
    simp [execOp, ho, Instr.loadAt, Instr.sureAddr, h1, h2]
  unfold loadV at hy
  split at hy
  · rename_i z off
    split at hy
    · rename_i r hr
      cases hy
      generalize hv : a.eval x = u at hx
      cases hx with
      | dptr _ _ _ blk o' vs hf hcell hrep =>
        obtain ⟨v, h1, h2⟩ := partD_load (St := g.St) hl hr blk o' hf vs (fun i hi => (hcell i hi).1) hrep
        exact Goes.valueV hI (hrun hv h1) (.d _ _ _ h2) hk
    · cases hy
  · rename_i cs off
    split at hy
    · rename_i r hr
      cases hy
      generalize hv : a.eval x = u at hx
      cases hx with
      | ref _ _ _ blk o' vs hb hcell hrep =>
        obtain ⟨v, h1, h2⟩ := partV_load (St := g.St) (O := fun _ _ _ _ => False) hl hr blk o' vs (fun i hi => (hcell i hi).1) hrep (fun i hi => (hcell i hi).2)
        exact Goes.valueV hI (hrun hv h1) h2.demote hk
    · cases hy
  · cases hy


theorem goes_loadBox (hI : Inv gl w0 St0 e a w g) {o : Oper} {t : TypeId} {x : Operand} (ho : o.op = .load t x) {k : Slot → List Box → Prop} {b : Bool} {n : Nat} (hl : lay? P t = some (b, n))
    {bn off : Nat} (hs : (Ab.opnd gl e x).demote = .p bn off) (h : loadBox b n bn off e.boxes k) : Goes P gl w0 St0 e.slots o a w k := by
  have hx := hI.opS hs
  obtain ⟨blk, hv, hblk⟩ := hx.p_inv
  have hrun : ∀ {v}, (loadVar t ⟨blk, off, none⟩).run P w = .ok v w → (execOp a.eval o).run P w = .ok (.value v) w := by
    intro v h2
    simp [execOp, ho, Instr.loadAt, Instr.sureAddr, hv, h2]
  unfold loadBox at h
  split at h
  · rename_i cs hcs
    obtain ⟨y, hy, hk⟩ := bindO_some h
    obtain ⟨h0, c, ty, hc, hone, hlen, hrep⟩ := hI.boxes bn _ blk hcs hblk
    obtain ⟨v, h1, h2⟩ := partV_load (w := w) (off := off) (St := g.St) (O := fun j => boxO w0.heap.size w g bn j) hl hy blk 0 (fun i => c.getD i undef) (fun i hi => by
        rw [cell_of_row w blk (0 + i) c ty (0, 0) hc]; simp [hlen ▸ hi]) (fun i d hd => by
        have hi := (List.getElem?_eq_some_iff.1 hd).1
        exact hrep i d _ hd (by simp [hlen ▸ hi])) (fun i hi => by
        have hi' : i < c.size := hlen ▸ hi
        simp [hi']; exact hone _ (Array.getElem_mem hi'))
    simp only [Nat.zero_add] at h1
    exact Goes.valueV hI (hrun h1) h2.demote hk
  · rename_i s hs'
    cases b with
    | true => exact h.elim
    | false =>
      simp only [cond_false] at h
      split at h
      · obtain ⟨h0, c, ty, hc, hone, hsz, hrep⟩ := hI.boxes bn _ blk hs' hblk
        have h0c : c[0]? = some (c[0]'(by omega)) := by simp
        refine Goes.value hI (hrun (v := c[0]'(by omega)) ?_) ((hrep _ h0c).demote) h
        rw [loadVar_run (vs := fun _ => c[0]'(by omega)) hl blk 0 (fun j hj => by
          simp at hj; subst hj
          rw [cell_of_row w blk (0 + 0) c ty (0, 0) hc]; exact h0c)]
        simp
      · exact h.elim
  · exact h.elim

theorem setAt_spec : ∀ (l : List SV) (cs : List SV) (off : Nat), off + l.length ≤ cs.length → setAt cs off l = cs.take off ++ l ++ cs.drop (off + l.length)
  | [], cs, off, _ => by simp [setAt]
  | v :: l, cs, off, h => by
    simp only [List.length_cons] at h
    rw [setAt, setAt_spec l (cs.set off v) (off + 1) (by simp; omega)]
    have h1 : (cs.set off v).take (off + 1) = cs.take off ++ [v] := by
      rw [List.take_add_one, List.take_set_of_le (Nat.le_refl _)]
      simp [List.getElem?_set_self (show off < cs.length by omega)]
    have h2 : (cs.set off v).drop (off + 1 + l.length) = cs.drop (off + 1 + l.length) := by
      rw [List.drop_set_of_lt (by omega)]
    rw [h1, h2]
    simp [Nat.add_assoc, Nat.add_comm 1]

/-- the cells behind a store -/
theorem splice_get {α : Type} (cs l : List α) (off : Nat) (h : off + l.length ≤ cs.length) (i : Nat) :
    (cs.take off ++ l ++ cs.drop (off + l.length))[i]? = if i < off then cs[i]? else if i < off + l.length then l[i - off]? else cs[i]? := by
  have ht : (cs.take off).length = off := by simp; omega
  rw [List.append_assoc, List.getElem?_append, ht]
  split
  · rename_i h1
    rw [List.getElem?_take, if_pos h1]
  · rename_i h1
    rw [List.getElem?_append]
    split
    · rename_i h2
      rw [if_pos (by omega)]
    · rename_i h2
      rw [if_neg (by omega), List.getElem?_drop]
      congr 1
      omega

theorem storeVar_run {t : TypeId} {n : Nat} (hn : sizeOf? P t = some n) {blk off : Nat} {c : Array Value} {ty : TypeId} (hc : w.heap[blk]? = some (.cells c ty (0, 0))) {v : Value}
    (hv : v.cells.size = n) (h1 : ∀ y ∈ v.cells, y.oneCell' = true) (hle : off + n ≤ c.size) :
    (storeVar t ⟨blk, off, none⟩ v).run P w = .ok () (w.setRow blk (c.toList.take off ++ v.cells.toList ++ c.toList.drop (off + n)).toArray) := by
  have := run_storeCells_at P blk off ty v.cells.toList 0 c w hc (by simp; omega) (by simpa using h1)
  simp only [Nat.add_zero, Array.length_toList, hv] at this
  unfold storeVar
  simp [sizeOf_run hn, hv, this]

/-- a store's world and what is known of it -/
theorem goes_store_fin (hI : Inv gl w0 St0 e a w g) {o : Oper} {t : TypeId} {x y : Operand} (ho : o.op = .store t x y) (hd : o.dst = none) {k : Slot → List Box → Prop}
    {bn off blk n : Nat} (hv : a.eval x = .pointer (some ⟨blk, off, none⟩)) (hblk : g.bx[bn]? = some (some blk))
    {cells : Array Value} {ty : TypeId} {bx' : Box} (hc : w.heap[blk]? = some (.cells cells ty (0, 0))) (cells' : Array Value) (hone : ∀ y ∈ cells', y.oneCell' = true)
    (hst : (storeVar t ⟨blk, off, none⟩ (a.eval y)).run P w = .ok () (w.setRow blk cells'))
    (rep : ∀ (w' : World), Ext w0.heap.size w g w' g (fun p => ∃ j, p = .b bn j ∧ off ≤ j ∧ j < off + n) → (match bx' with
      | .none => False
      | .cells cs => cs.length = cells'.size ∧ ∀ (j : Nat) x y, cs[j]? = some x → cells'[j]? = some y → RepV w' g.St w0.heap.size (boxO w0.heap.size w' g bn j) x y
      | .one s => cells'.size = 1 ∧ ∀ y, cells'[0]? = some y → RepS w0.heap.size w' g (fun _ => boxO w0.heap.size w' g bn 0) s y))
    (hk : k (.t []) (e.boxes.set bn bx')) : Goes P gl w0 St0 e.slots o a w k := by
  intro next Q hnext
  have hrun : (execOp a.eval o).run P w = .ok .skip (w.setRow blk cells') := by
    simp [execOp, ho, Instr.storeAt, Instr.sureAddr, hv, hst]
  unfold Oper.wp
  rw [hrun]
  have hoth := fun k (hk : k ≠ blk) => setRow_other w blk k cells' hk
  have hnew := setRow_heap w blk cells cells' ty (0, 0) hc
  refine hnext (.t []) undef _ _ g ?_ hk
  rw [hd]
  refine hI.setBox (dst := none) (s := .t []) (v := undef) (slots := e.slots) (fun _ => False) (fun j => off ≤ j ∧ j < off + n) rfl rfl (fun _ _ _ _ _ h => h) hblk hone hnew hoth (by simp [World.setRow]) ⟨rfl, rfl, rfl⟩ rfl
    (fun i x hx _ => ⟨x, hx, .inl ⟨rfl, fun h => h⟩⟩) (fun hX => ?_) (fun _ d h => by cases h)
  have := rep _ ⟨hX.st, hX.bs, hX.bx, fun p b a c hp ho => hX.own p b a c (fun hp' => hp (by
    rcases hp' with ⟨i, j, _, h⟩ | ⟨j, h⟩ | ⟨d, j, h, _⟩
    · exact h.elim
    · exact ⟨j, h⟩
    · cases h)) ho⟩
  cases bx' with
  | none => exact this
  | cells cs => exact this
  | one s => exact this

theorem goes_store_one (hI : Inv gl w0 St0 e a w g) {o : Oper} {t : TypeId} {x y : Operand} (ho : o.op = .store t x y) (hd : o.dst = none) {k : Slot → List Box → Prop} {n : Nat} (hn : sizeOf? P t = some n)
    {bn off blk : Nat} (hv : a.eval x = .pointer (some ⟨blk, off, none⟩)) (hblk : g.bx[bn]? = some (some blk))
    {cells : Array Value} {ty : TypeId} (hc : w.heap[blk]? = some (.cells cells ty (0, 0))) (hc1 : cells.size = 1) (hn1 : n = 1) (hoff : off = 0)
    {s : Slot} (hs : (Ab.opnd gl e y).demote = s) (hnv : ∀ z, s ≠ .v z) (hnt : ∀ z, s ≠ .t z) (hk : k (.t []) (e.boxes.set bn (.one s))) : Goes P gl w0 St0 e.slots o a w k := by
  have hy := hI.opS hs
  subst hn1 hoff
  have hcv : (a.eval y).cells = #[a.eval y] ∧ (a.eval y).oneCell' = true := by
    generalize a.eval y = u at hy
    cases hy with
    | v _ z _ _ => exact absurd rfl (hnv z)
    | p => exact ⟨rfl, rfl⟩
    | c => exact ⟨rfl, rfl⟩
    | t _ z _ _ _ => exact absurd rfl (hnt z)
  refine goes_store_fin hI ho hd (n := 1) (bx' := .one s) hv hblk hc #[a.eval y] (by simpa using hcv.2) ?_ (fun w' hX => ⟨rfl, fun u hu => ?_⟩) hk
  · rw [storeVar_run hn hc (by rw [hcv.1]; rfl) (by rw [hcv.1]; simpa using hcv.2) (by omega)]
    rw [hcv.1]
    have : cells.toList.drop (0 + 1) = [] := List.drop_eq_nil_of_le (by simp [hc1])
    rw [this]; simp
  · simp at hu; subst hu
    exact hy.mono hX.st hX.bs hX.bx (fun _ _ _ _ h => h.elim)

theorem goes_store (hI : Inv gl w0 St0 e a w g) {o : Oper} {t : TypeId} {x y : Operand} (ho : o.op = .store t x y) (hd : o.dst = none) {k : Slot → List Box → Prop} {n : Nat} (hn : sizeOf? P t = some n)
    {bn off : Nat} (hs : (Ab.opnd gl e x).demote = .p bn off) (h : storeBox n bn off ((Ab.opnd gl e y).demote) e.boxes fun bxs' => k (.t []) bxs') : Goes P gl w0 St0 e.slots o a w k := by
  have hx := hI.opS hs
  obtain ⟨blk, hv, hblk⟩ := hx.p_inv
  unfold storeBox at h
  split at h
  · -- cells
    rename_i cs hcs
    obtain ⟨h0, c, ty, hc, hone, hlen, hrep⟩ := hI.boxes bn _ blk hcs hblk
    split at h
    · rename_i z hz
      obtain ⟨l, hl, hln, hle, hk⟩ := bindO_some h
      have hy := hI.opS hz
      obtain ⟨h1, h2, h3⟩ := hy.v_inv.cells hl
      have hvs : (a.eval y).cells.size = n := by rw [← h1, hln]
      refine goes_store_fin hI ho hd (n := n) (bx' := .cells (setAt cs off l)) hv hblk hc _ ?_ (storeVar_run hn hc hvs h2 (by omega)) (fun w' hX => ?_) hk
      · intro u hu
        simp only [List.mem_toArray, List.mem_append] at hu
        rcases hu with (hu | hu) | hu
        · exact hone u (by simpa using List.mem_of_mem_take hu)
        · exact h2 u (by simpa using hu)
        · exact hone u (by simpa using List.mem_of_mem_drop hu)
      · rw [setAt_spec l cs off (by omega)]
        refine ⟨by simp [hlen, hvs]; omega, fun j x' y' hx' hy' => ?_⟩
        have hcv : n = (a.eval y).cells.toList.length := by simp [hvs]
        rw [splice_get cs l off (by omega)] at hx'
        have hy'' : (c.toList.take off ++ (a.eval y).cells.toList ++ c.toList.drop (off + (a.eval y).cells.toList.length))[j]? = some y' := by
          rw [← hcv]; simpa using hy'
        rw [splice_get _ _ off (by simp [hvs]; omega)] at hy''
        simp only [Array.length_toList, hvs, hln] at hx' hy''
        have old : ¬ (off ≤ j ∧ j < off + n) → cs[j]? = some x' → c[j]? = some y' → RepV w' g.St w0.heap.size (boxO w0.heap.size w' g bn j) x' y' := fun hj h4 h5 =>
          (hrep j x' y' h4 h5).mono hX.st hX.bs _ (fun b' a' c' ho => hX.own _ b' a' c' (by rintro ⟨j', h6, h7⟩; cases h6; exact hj h7) ho)
        split at hx'
        · rename_i hj
          simp only [hj, ↓reduceIte, Array.getElem?_toList] at hy''
          exact old (by omega) hx' hy''
        · rename_i hj
          simp only [hj, ↓reduceIte] at hy''
          split at hx'
          · rename_i hj2
            simp only [hj2, ↓reduceIte, Array.getElem?_toList] at hy''
            exact (h3 (j - off) x' y' hx' hy'').mono hX.st hX.bs _ (fun _ _ _ h => h.elim)
          · rename_i hj2
            simp only [hj2, ↓reduceIte, Array.getElem?_toList] at hy''
            exact old (by omega) hx' hy''
    · exact h.elim
    · rename_i hnv hnt
      split at h
      · exact goes_store_one hI ho hd hn hv hblk hc (by simpa using hlen.symm) rfl rfl rfl (fun z hz => hnv z hz) (fun z hz => hnt z hz) h
      · exact h.elim
  · -- one
    rename_i s0 hs0
    obtain ⟨h0, c, ty, hc, hone, hlen, hrep⟩ := hI.boxes bn _ blk hs0 hblk
    split at h
    · split at h
      · rename_i z hz
        obtain ⟨l, hl, hln, hk⟩ := bindO_some h
        have hy := hI.opS hz
        obtain ⟨h1, h2, h3⟩ := hy.v_inv.cells hl
        have hvs : (a.eval y).cells.size = 1 := by rw [← h1, hln]
        refine goes_store_fin hI ho hd (n := 1) (bx' := .cells l) hv hblk hc (a.eval y).cells h2 ?_ (fun w' hX => ⟨h1, fun j c' u hc' hu => ?_⟩) hk
        · rw [storeVar_run hn hc hvs h2 (by omega)]
          have : c.toList.drop (0 + 1) = [] := List.drop_eq_nil_of_le (by simp [hlen])
          rw [this]; simp
        · exact (h3 j c' u hc' hu).mono hX.st hX.bs _ (fun _ _ _ h => h.elim)
      · exact h.elim
      · rename_i hnv hnt
        exact goes_store_one hI ho hd hn hv hblk hc hlen rfl rfl rfl (fun z hz => hnv z hz) (fun z hz => hnt z hz) h
    · exact h.elim
  · exact h.elim

end
end Go.Proofs.YtcnnhnjcnekhcaaGreat.Ab
