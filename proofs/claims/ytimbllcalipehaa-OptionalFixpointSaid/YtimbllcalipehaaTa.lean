/-
  THE ABSTRACT WALK, definitions: data trees, slot values, and an abstract weakest precondition over the model's code.
-/
import Derived.Orders
import Derived.Still
import Derived.Below
import Derived.KernelRfl
import Derived.Laws.AppendOwn
import Derived.Laws.Build
import Derived.Laws.Sem
import Derived.WalkKit
import Derived.Laws.StructEq
import Derived.ChangeKeysEq
set_option linter.unusedVariables false
set_option linter.unusedSimpArgs false
namespace Go.Proofs.Ytimbllcalipehaa.Ab
open Go
inductive SK where
 |nil|ro
 deriving DecidableEq
inductive D where
 |bool (b:Bool)
 |int (k:IntKind) (n:Int)
 |str (s:List UInt8)
 |agg (cs:List D)
 |sl (k:SK) (sz:Nat) (L:List D)
 |fn (f:Fn)
 |tF
 |iface (t:TypeId) (x:D)
 |tG
 |oa
def gm(k:IntKind)(n:Int):Bool:=decide (k.min≤n)&&decide (n≤k.max)
def D.cells:D→List D
 | .agg cs=>cs
 |x=>[x]
mutual
def D.Wf:D→Prop
 | .int k n=>gm k n=true
 | .str s=>s.length≤maxLen
 | .agg cs=>D.gn cs
 | .sl k sz L=>L.length≤maxLen∧(k=.nil →L=[])∧(∀x∈L,x.cells.length=sz)∧D.gn L
 | .iface _ x=>x.Wf
 |_=>True
def D.gn:List D→Prop
 |[]=>True
 |x::l=>x.Wf∧D.gn l
end
inductive KS where
 |bool (b:Bool)
 |int (k:IntKind) (n:Int)
 |str (s:List UInt8)
 deriving DecidableEq
inductive MK where
 |i (n:Int)
 |s (l:List KS)
 deriving DecidableEq
inductive SV where
 |d (x:D)
 |own (sz:Nat) (L:List D)
 |full (sz:Nat) (L:List D)
 |bt (sz:Nat) (L:List D)
 |ref (cs:List SV) (off:Nat)
 |cJ (n sz:Nat) (cs:List SV)
 |aT (x:D) (off:Nat)
 |dg (f:Fn) (first cap:List SV)
 |aL (vs:List SV)
 |mp (l:List (MK×D))
 |undef
def aa:SV→SV
 | .own sz L=>.d (.sl .ro sz L)
 | .bt _ _=>.undef
 |x=>x
inductive Slot where
 |v (x:SV)
 |p (b off:Nat)
 |c (f:Fn) (first cap:List Slot)
 |t (vs:List SV)
 |a (b n sz:Nat)
 |m (b:Nat)
def Slot.aa:Slot→Slot
 | .v x=>.v (Ab.aa x)
 | .t vs=>.t (vs.map Ab.aa)
 |s=>s
inductive af where
 |none
 |cells (cs:List SV)
 |one (s:Slot)
 |map (l:List (MK×D))
structure Env where
 ai:List Slot
 boxes:List af
def yE:Value→Option D
 | .bool b=>some (.bool b)
 | .int k n=>bif gm k n then some (.int k n)else none
 | .string s=>bif Nat.ble s.size maxLen then some (.str s.data.toList)else none
 | .slice none 0 0=>some (.sl .nil 0 [])
 | .pointer none=>some .oa
 | .nilFunc =>some .tF
 | .nilIface =>some .tG
 | .func f first captured=>bif first.isEmpty&&captured.isEmpty then some (.fn f)else none
 |_=>none
def yw:List Value→Option (List D)
 |[]=>some []
 |v::l=>match yE v with
  |some x=>(match yw l with|some r=>some (x::r)|none=>none)
  |none=>none
def FZ:Value→Option D
 | .agg cs=>match yw cs.toList with
   |some l=>some (.agg l)
   |none=>none
 |v=>yE v
def ab{α:Type}(o:Option α)(k:α→Prop):Prop:=match o with|some x=>k x|none=>False
def ar(x:SV)(A B:Prop):Prop:=match x with
 | .d (.bool c)=>cond c A B
 |_=>False
section
variable(P:Program)(gl:Nat→Option D)
def dO(t:TypeId):Option Bool:=match P.underlying t with
 |some (.struct _)|some (.array _ _)=>some true
 |some _=>some false
 |none=>none
def kG(t:TypeId):Option (Bool×Nat):=match dO P t with
 |some b=>(match P.info? t with|some i=>bif b||Nat.beq i.size 1 then some (b,i.size)else none|none=>none)
 |none=>none
def ea(t:TypeId):Option Nat:=match P.info? t with
 |some i=>some i.size
 |none=>none
def nT(t:TypeId):Option (List D):=match P.info? t with
 |some i=>(match i.zero with|some z=>yw z.cells.toList|none=>none)
 |none=>none
def IP(t:TypeId):Option (List SV):=match nT P t with
 |some z=>some (z.map .d)
 |none=>(match P.info? t with
  |some i=>(match i.zero with|some z=>bif z.cells.toList.all Value.oneCell' then some (List.replicate z.cells.toList.length .undef)else none|none=>none)
  |none=>none)
def aV(e:Env):Operand→Slot
 | .tmp t=>e.ai.getD t (.v .undef)
 | .const v=>(match FZ v with|some x=>.v (.d x)|none=>.v .undef)
 | .func f=>.v (.d (.fn (.func f)))
 | .global g=>(match gl g with|some x=>.v (.aT x 0)|none=>.v .undef)
def iH(op:BinOp)(k:IntKind)(x y:Int):Option D:=
 match op with
 | .add =>some (.int k (k.wrap (x+y)))
 | .sub =>some (.int k (k.wrap (x-y)))
 | .mul =>some (.int k (k.wrap (x*y)))
 | .quo =>if y=0 then none else some (.int k (k.wrap (x.tdiv y)))
 | .rem =>if y=0 then none else some (.int k (x.tmod y))
 | .and =>some (.int k (k.wrap (BitVec.ofInt k.bits x&&& BitVec.ofInt k.bits y).toNat))
 | .or =>some (.int k (k.wrap (BitVec.ofInt k.bits x|||BitVec.ofInt k.bits y).toNat))
 | .xor =>some (.int k (k.wrap (BitVec.ofInt k.bits x^^^BitVec.ofInt k.bits y).toNat))
 | .andNot =>some (.int k (k.wrap (BitVec.ofInt k.bits x&&& ~~~ BitVec.ofInt k.bits y).toNat))
 | .eql =>some (.bool (x==y))
 | .neq =>some (.bool (x != y))
 | .lss =>some (.bool (decide (x<y)))
 | .leq =>some (.bool (decide (x≤y)))
 | .gtr =>some (.bool (decide (x>y)))
 | .geq =>some (.bool (decide (x≥y)))
 |_=>none
def yx(op:BinOp)(k:IntKind)(x y:Int):Option D:=
 if y<0 then none else
 match op with
 | .shl =>some (.int k (k.wrap (x*2^(min y.toNat k.bits))))
 | .shr =>some (.int k (x.fdiv (2^(min y.toNat k.bits))))
 |_=>none
def yy:List UInt8→List UInt8→Bool
 |_,[]=>false
 |[],_::_=>true
 |a::x,b::y=>a<b||(a==b&&yy x y)
def CJ(op:BinOp)(x y:List UInt8):Option D:=
 match op with
 | .add =>if x.length+y.length≤maxLen then some (.str (x++y))else none
 | .eql =>some (.bool (x==y))
 | .neq =>some (.bool (!(x==y)))
 | .lss =>some (.bool (yy x y))
 | .leq =>some (.bool (yy x y||x==y))
 | .gtr =>some (.bool (!(yy x y||x==y)))
 | .geq =>some (.bool (!yy x y))
 |_=>none
def mX:D→D→Option Bool
 | .bool a,.bool b=>some (a==b)
 | .int k a,.int k' b=>if k=k' then some (a==b)else none
 | .str a,.str b=>some (a==b)
 |_,_=>none
def fK:List D→List D→Option Bool
 |[],[]=>some true
 |x::l,y::m=>match mX x y with
  |some b=>(match fK l m with|some c=>some (b&&c)|none=>none)
  |none=>none
 |_,_=>none
inductive CK where
 |bool|int|str
def dQ:List CK→List D→Bool
 |[],[]=>true
 | .bool ::l,.bool _::m=>dQ l m
 | .int ::l,.int _ _::m=>dQ l m
 | .str ::l,.str _::m=>dQ l m
 |_,_=>false
def wQ{α:Type}(l:List α):Nat→List α
 |0=>[]
 |n+1=>l++wQ l n
def z8(go:TypeId→Option (List CK)):List Field→Nat→Option (List CK)
 |[],_=>some []
 |f::l,off=>match go f.type with
  |some ks=>bif f.name != "_" &&Nat.beq f.offset off then(match z8 go l (off+ks.length)with|some r=>some (ks++r)|none=>none)else none
  |none=>none
def shapeOf:(fuel:Nat)→TypeId→Option (List CK)
 |0,_=>none
 |f+1,t=>match P.underlying t with
  |some .bool =>(match ea P t with|some 1=>some [.bool]|_=>none)
  |some (.int _)=>(match ea P t with|some 1=>some [.int]|_=>none)
  |some .string =>(match ea P t with|some 1=>some [.str]|_=>none)
  |some (.array n e)=>(match shapeOf f e with
   |some ks=>(match ea P t with|some s=>bif Nat.beq s (n*ks.length)then some (wQ ks n)else none|none=>none)
   |none=>none)
  |some (.struct fs)=>bif P.stoodInHeld t then none else(match z8 (shapeOf f) fs.toList 0 with
   |some ks=>(match ea P t with|some s=>bif Nat.beq s ks.length then some ks else none|none=>none)
   |none=>none)
  |_=>none
def Cq(op:BinOp)(t:TypeId):Option (Bool×List CK):=match op with
 | .eql | .neq =>bif P.eqGuardType P.depth t then none else(match shapeOf P 20 t with
   |some ks=>(match dO P t with|some b=>some (b,ks)|none=>none)
   |none=>(match P.underlying t with|some (.slice _)=>some (false,[])|_=>none))
 |_=>none
end
section
def fg(sh:Option (Bool×List CK))(op:BinOp)(x y:D):Option D:=
 match x,y with
 | .int k a,.int k' b=>
   (match op with
    | .shl | .shr =>yx op k a b
    |_=>if k=k' then iH op k a b else none)
 | .str a,.str b=>CJ op a b
 | .bool a,.bool b=>(match sh with
   |some (false,[.bool])=>(match op with
    | .eql =>some (.bool (a==b))| .neq =>some (.bool (!(a==b)))|_=>none)
   |_=>none)
 | .agg a,.agg b=>(match sh with
   |some (true,ks)=>bif dQ ks a&&dQ ks b then(match op with
    | .eql =>(match fK a b with|some c=>some (.bool c)|none=>none)
    | .neq =>(match fK a b with|some c=>some (.bool (!c))|none=>none)
    |_=>none)else none
   |_=>none)
 | .sl a _ _,.sl .nil _ _=>(match sh with
   |some (false,[])=>(match op with
    | .eql =>some (.bool (decide (a=.nil)))
    | .neq =>some (.bool (!decide (a=.nil)))
    |_=>none)
   |_=>none)
 |_,_=>none
def ag(sh:Option (Bool×List CK))(op:BinOp):SV→SV→Option SV
 | .d x,.d y=>(match fg sh op x y with|some r=>some (.d r)|none=>none)
 |_,_=>none
def eG(op:UnOp):SV→Option SV
 | .d (.bool b)=>(match op with| .not =>some (.d (.bool (!b)))|_=>none)
 | .d (.int k n)=>(match op with
   | .neg =>some (.d (.int k (k.wrap (0-n))))
   | .xor =>some (.d (.int k (k.wrap (BitVec.ofInt k.bits (if k.signed then-1 else k.max)^^^BitVec.ofInt k.bits n).toNat)))
   |_=>none)
 |_=>none
end
section
variable(P:Program)(gl:Nat→Option D)
def Kf(dst:TypeId):SV→Option SV
 | .d (.int _ n)=>(match P.underlying dst with|some (.int k)=>some (.d (.int k (k.wrap n)))|_=>none)
 | .d (.str s)=>(match P.underlying dst with|some .string =>some (.d (.str s))|_=>none)
 |_=>none
def cN:SV→Option D
 | .d x=>some x
 | .own sz L=>some (.sl .ro sz L)
 | .full sz L=>some (.sl .ro sz L)
 |_=>none
def dE:List SV→Option (List D)
 |[]=>some []
 |v::l=>match cN v with
  |some x=>(match dE l with|some r=>some (x::r)|none=>none)
  |none=>none
def elems(sz:Nat):SV→Option (List D)
 | .d (.sl k s L)=>(match k with| .nil =>some []| .ro =>if s=sz then some L else none)
 | .own s L=>if s=sz then some L else none
 | .full s L=>if s=sz then some L else none
 |_=>none
def Cd:SV→Option (List D)
 | .d (.sl _ _ L)=>some L
 | .own _ L=>some L
 | .full _ L=>some L
 |_=>none
def pf(agg:Bool)(sz off:Nat)(cs:List D):Option D:=
 bif agg then(if off+sz≤cs.length then some (.agg ((cs.drop off).take sz))else none)else cs[off]?
def ah(agg:Bool)(sz off:Nat)(cs:List SV):Option SV:=
 bif agg then(if off+sz≤cs.length then(match dE ((cs.drop off).take sz)with|some l=>some (.d (.agg l))|none=>none)else none)else cs[off]?
def cM(x:SV)(n:Nat):Option Nat:=match x with
 | .d (.int _ i)=>if 0≤i∧i<n then some i.toNat else none
 |_=>none
def KF(t:TypeId)(x:SV):Option SV:=match P.underlying t with
 |some .string =>(match x with| .d (.str s)=>some (.d (.int .i64 s.length))|_=>none)
 |some (.array n _)=>bif Nat.ble n maxLen then some (.d (.int .i64 n))else none
 |some (.slice _)=>(match x with| .cJ n _ _=>some (.d (.int .i64 n))|x=>(match Cd x with|some L=>some (.d (.int .i64 L.length))|none=>none))
 |_=>none
def setAt(cs:List SV)(off:Nat):List SV→List SV
 |[]=>cs
 |v::l=>setAt (cs.set off v) (off+1) l
def az(x:SV):Option (List SV):=match x with
 | .d y=>some (y.cells.map .d)
 | .aL _=>none
 | .undef =>none
 |v=>some [v]
def tH(place:Nat→Option (Nat×Nat))(cells:List D):List (Nat×D)→Option (List D)
 |[]=>some cells
 |(i,v)::rest=>match place i with
  |none=>none
  |some (off,sz)=>if v.cells.length=sz∧off+sz≤cells.length then tH place (cells.take off++v.cells++cells.drop (off+sz)) rest else none
def od(ρ:Operand→Slot):List (Nat×Operand)→Option (List (Nat×D))
 |[]=>some []
 |(i,x)::l=>match ρ x with
  | .v y=>(match cN y with
    |some z=>(match od ρ l with|some r=>some ((i,z)::r)|none=>none)
    |none=>none)
  |_=>none
def Cr:List Field→Option (List (Nat×Nat))
 |[]=>some []
 |f::l=>match ea P f.type with
  |some s=>(match Cr l with|some r=>some ((f.offset,s)::r)|none=>none)
  |none=>none
def NV(t:TypeId):Option (Nat→Option (Nat×Nat)):=match P.underlying t with
 |some (.struct fs)=>(match Cr P fs.toList with|some l=>some fun i=>l[i]? |none=>none)
 |some (.array _ e)=>(match ea P e with|some s=>some fun i=>some (i*s,s)|none=>none)
 |_=>none
def cS(t:TypeId)(ps:List (Nat×D)):Option D:=match nT P t with
 |some z=>(match NV P t with
  |some pl=>(match tH pl z ps with|some cs=>some (.agg cs)|none=>none)
  |none=>none)
 |none=>none
def br(agg:Bool)(cs:List D):D:=bif agg then .agg cs else(match cs with|[x]=>x|_=>.agg cs)
def pX(i:Nat):List (Nat×D)→Option D
 |[]=>none
 |(j,x)::l=>match pX i l with|some y=>some y|none=>bif i==j then some x else none
def bj(zero:D)(ps:List (Nat×D)):Nat→Nat→List D
 |0,_=>[]
 |n+1,i=>(match pX i ps with|some x=>x|none=>zero)::bj zero ps n (i+1)
def bf(sz n:Nat):List (Nat×D)→Bool
 |[]=>true
 |(i,x)::l=>Nat.blt i n&&Nat.beq x.cells.length sz&&bf sz n l
def ju(f:Slot→SV):List Slot→List SV
 |[]=>[]
 |s::l=>f s::ju f l
def snap(aA:List af):(fuel:Nat)→Slot→SV
 |0,_=>.undef
 |n+1,s=>match s with
  | .v x=>Ab.aa x
  | .p b off=>(match aA[b]? with
    |some (.cells cs)=>.ref (cs.map Ab.aa) off
    |some (.one s')=>.ref [snap aA n s'] off
    |_=>.undef)
  | .c f first cap=>.dg f (ju (snap aA n) first) (ju (snap aA n) cap)
  | .a b m sz=>(match aA[b]? with
    |some (.cells cs)=>.cJ m sz (cs.map Ab.aa)
    |_=>.undef)
  |_=>.undef
def Slot.bP:Slot→SV
 | .v x=>x
 |_=>.undef
end
abbrev bl:=FuncId→List SV→SV→Prop
section
variable(P:Program)(gl:Nat→Option D)(C:bl)
def u4:SV→Bool| .aL _=>true|_=>false
def aS(f:FuncId)(args:List SV)(k:SV→Prop):Prop:=∃r,C f args r∧u4 r=false∧k r
def xv:Nat→(List SV→Prop)→Prop
 |0,k=>k []
 |n+1,k=>∃r,xv n fun l=>k (r::l)
def adY(f:FuncId)(n:Nat)(args:List SV)(k:List SV→Prop):Prop:=xv n fun rs=>C f args (.aL rs)∧k rs
def withFn(x:SV)(args:List SV)(k:FuncId→List SV→Prop):Prop:=match x with
 | .d (.fn (.func f))=>k f args
 | .dg (.func f) first cap=>k f (first++args++cap)
 |_=>False
def AR(t:TypeId)(name:String):Option FuncId:=match P.info? t with
 |some i=>(match i.methods.find? (fun m=>m.name==name)with
  |some m=>(match m.path.toList,m.func with
   |[],some (f,false)=>(match P.underlying t with
    |some (.pointer _)=>none
    |some _=>some f
    |none=>none)
   |_,_=>none)
  |none=>none)
 |none=>none
def Kg(x:SV)(name:String):Option FuncId:=match x with
 | .d (.iface t _)=>AR P t name
 |_=>none
def wL(x:SV)(name:String)(args:List SV)(k:FuncId→List SV→Prop):Prop:=match x with
 | .d (.iface t y)=>ab (AR P t name) fun f=>k f (.d y::args)
 |_=>False
def arity(t:TypeId):Nat:=match P.underlying t with
 |some (.tuple ts)=>ts.size
 |_=>1
def oo(n:Nat)(aA:List af)(k:Slot→List af→Prop)(f:FuncId)(args:List SV):Prop:=
 match n with
 |1=>aS C f args fun r=>k (.v r) aA
 |n=>adY C f n args fun rs=>k (.t rs) aA
def iI(aA:List af)(ρ:Operand→Slot):List Operand→List SV
 |[]=>[]
 |x::l=>snap aA 6 (ρ x)::iI aA ρ l
def g5:Nat:=1048577
def kH(sz:Nat)(x y:SV):Option (SV×Nat):=
 match elems sz y with
 |none=>none
 |some M=>match x with
  | .own s L=>if s=sz then some (.own sz (L++M),L.length+M.length)else none
  | .full s L=>if s=sz then(if M=[]then some (.full sz L,L.length)else some (.own sz (L++M),L.length+M.length))else none
  | .d (.sl .nil s _)=>if M=[]then some (x,0)else some (bif Nat.beq s g5 then .bt sz M else .own sz M,M.length)
  | .bt s L=>if s=sz then some (.bt sz (L++M),L.length+M.length)else none
  |_=>none
def bI(sz bytes:Nat)(x y:SV)(k:SV→Prop):Prop:=
 ab (kH sz x y) fun r=>r.2*bytes≤140737488355328∧k r.1
def p6(agg:Bool)(sz b off:Nat)(aA:List af)(k:Slot→List af→Prop):Prop:=
 match aA[b]? with
 |some (.cells cs)=>ab (ah agg sz off cs) fun x=>k (.v (Ab.aa x)) aA
 |some (.one s)=>bif agg then False else(match off with|0=>k s.aa aA|_=>False)
 |_=>False
def aI(agg:Bool)(sz:Nat)(x:SV):Option SV:=match x with
 | .aT y off=>(match pf agg sz off y.cells with|some z=>some (.d z)|none=>none)
 | .ref cs off=>(match ah agg sz off cs with|some z=>some (Ab.aa z)|none=>none)
 |_=>none
def td(sz b off:Nat)(x:Slot)(aA:List af)(k:List af→Prop):Prop:=
 match aA[b]? with
 |some (.cells cs)=>(match x with
  | .v y=>ab (az y) fun l=>l.length=sz∧off+sz≤cs.length∧k (aA.set b (.cells (setAt cs off l)))
  | .t _=>False
  |s=>(match sz,off,cs with|1,0,[_]=>k (aA.set b (.one s))|_,_,_=>False))
 |some (.one _)=>(match sz,off with
  |1,0=>(match x with
   | .v y=>ab (az y) fun l=>l.length=1∧k (aA.set b (.cells l))
   | .t _=>False
   |s=>k (aA.set b (.one s)))
  |_,_=>False)
 |_=>False
def bZ(x:SV)(n:Nat):Option SV:=match x with
 | .aT y off=>some (.aT y (off+n))
 | .ref cs off=>some (.ref cs (off+n))
 |_=>none
def aQ(sz:Nat)(x i:SV):Option SV:=match x with
 | .cJ n s cs=>(match cM i n with|some j=>if s=sz then some (.ref cs (j*sz))else none|none=>none)
 |x=>match elems sz x with
 |some L=>(match cM i L.length with
  |some n=>(match L[n]? with|some y=>some (.aT y 0)|none=>none)
  |none=>none)
 |none=>none
def yT(n:Nat):Option SV→Option Nat
 |some h=>cM h (n+1)
 |none=>some n
def vf(h:Nat):Option SV→Option Nat
 |some l=>cM l (h+1)
 |none=>some 0
def C0(L:List D)(lo hi:Option SV):Option (List D):=
 match yT L.length hi with
 |some h=>(match vf h lo with
  |some l=>some ((L.take h).drop l)
  |none=>none)
 |none=>none
def Ro(L:List UInt8)(lo hi:Option SV):Option (List UInt8):=
 match yT L.length hi with
 |some h=>(match vf h lo with
  |some l=>some ((L.take h).drop l)
  |none=>none)
 |none=>none
def JM(t:TypeId)(x:SV)(lo hi mx:Option SV):Option SV:=
 match P.underlying t with
 |some .string =>(match x,mx with
  | .d (.str s),none=>(match Ro s lo hi with|some r=>some (.d (.str r))|none=>none)
  |_,_=>none)
 |some (.slice e)=>(match cN x,ea P e with
  |some (.sl k sz L),some s=>(match C0 L lo hi,mx with
   |some r,none=>(match k with| .nil =>some (.d (.sl .nil s []))| .ro =>if sz=s then some (.d (.sl .ro sz r))else none)
   |some r,some m=>(match hi,cM m (L.length+1)with
    |some h,some _=>(match h,m with
     | .d (.int _ a),.d (.int _ b)=>if a=b then(match k with| .nil =>some (.d (.sl .nil s []))| .ro =>if sz=s then some (.full sz r)else none)else none
     |_,_=>none)
    |_,_=>none)
   |none,_=>none)
  |_,_=>none)
 |_=>none
def pt(ρ:Operand→Slot):Option Operand→Option SV
 |some x=>some (ρ x).bP
 |none=>none
def minD(a b:Int):Int:=if b<a then b else a
def maxD(a b:Int):Int:=if b>a then b else a
def yk(f:Int→Int→Int):SV→List SV→Option SV
 | .d (.int k a),[]=>some (.d (.int k a))
 | .d (.int k a),.d (.int k' b)::l=>if k=k' then yk f (.d (.int k (f a b))) l else none
 |_,_=>none
def lP(x:SV):Option SV:=match x with
 | .aT y o=>some (.aT y o)
 | .ref cs o=>some (.ref cs o)
 | .dg f a b=>(match f with| .func n=>some (.dg (.func n) a b)|_=>none)
 | .d (.fn f)=>(match f with| .func n=>some (.d (.fn (.func n)))|_=>none)
 |_=>none
def JN(agg:Bool)(sz n:Nat)(x i:SV):Option SV:=match x with
 | .d (.agg cs)=>(match cM i n with
   |some j=>(match pf agg sz (j*sz) cs with|some r=>some (.d r)|none=>none)
   |none=>none)
 |_=>none
def Kh(x i:SV):Option SV:=match x with
 | .d (.str s)=>(match cM i s.length with
   |some j=>(match s[j]? with|some b=>some (.d (.int .u8 b.toNat))|none=>none)
   |none=>none)
 |_=>none
def uT(agg:Bool)(sz off:Nat)(x:SV):Option SV:=match x with
 | .d (.agg cs)=>(match pf agg sz off cs with|some r=>some (.d r)|none=>none)
 |_=>none
def JO(t:TypeId)(x:SV):Option SV:=match cN x with
 |some y=>some (.d (.iface t y))
 |none=>none
def wM(t:TypeId):Option Nat:=match P.info? t with
 |some i=>some i.bytes
 |none=>none
def nZ(t:TypeId):Option TypeId:=match P.underlying t with
 |some (.slice e)=>some e
 |_=>none
def Ao(t:TypeId)(i:Nat):Option Field:=match P.underlying t with
 |some (.struct fs)=>fs.toList[i]?
 |_=>none
def isSlice(t:TypeId):Bool:=match P.underlying t with
 |some (.slice _)=>true
 |_=>false
def isIface(t:TypeId):Bool:=match P.underlying t with
 |some (.interface _)=>true
 |none=>true
 |_=>false
def KS.same:KS→KS→Bool
 | .bool _,.bool _=>true
 | .int k _,.int k' _=>decide (k=k')
 | .str _,.str _=>true
 |_,_=>false
def KS.jS:List KS→List KS→Bool
 |[],[]=>true
 |x::l,y::m=>x.same y&&KS.jS l m
 |_,_=>false
def MK.same:MK→MK→Bool
 | .i _,.i _=>true
 | .s a,.s b=>KS.jS a b
 |_,_=>false
def tq(l:List (MK×D))(n:MK):Bool:=l.all fun x=>n.same x.1
def la:List (MK×D)→MK→Option D
 |[],_=>none
 |x::l,n=>if n=x.1 then some x.2 else la l n
def tQ:List CK→List D→Option (List KS)
 |[],[]=>some []
 | .bool ::l,.bool b::m=>(match tQ l m with|some r=>some (.bool b::r)|none=>none)
 | .int ::l,.int k n::m=>(match tQ l m with|some r=>some (.int k n::r)|none=>none)
 | .str ::l,.str s::m=>(match tQ l m with|some r=>some (.str s::r)|none=>none)
 |_,_=>none
def lg(kd:Option (List CK))(x:SV):Option MK:=match kd with
 |none=>(match x with| .d (.int .i64 n)=>some (.i n)|_=>none)
 |some ks=>(match x with| .d (.agg cs)=>(match tQ ks cs with|some l=>some (.s l)|none=>none)|_=>none)
def rC(kd:Option (List CK))(z:D)(m key:SV):Option (D×Bool):=match m with
 | .mp l=>(match lg kd key with
   |some n=>bif tq l n then(match la l n with|some d=>some (d,true)|none=>some (z,false))else none
   |none=>none)
 |_=>none
def C1:List Field→Bool
 |[]=>true
 |f::l=>(match P.underlying f.type with|some .bool =>true|some (.int _)=>true|some .string =>true|_=>false)&&C1 l
def AD(t:TypeId):Option (TypeId×Option (List CK)):=match P.underlying t with
 |some (.map kt et)=>(match P.underlying kt with
  |some (.int _)=>some (et,none)
  |some (.struct fs)=>(match shapeOf P 20 kt with
   |some ks=>bif C1 P fs.toList then some (et,some ks)else none
   |none=>none)
  |_=>none)
 |_=>none
def u5(aA:List af):Slot→SV
 | .m b=>(match aA[b]? with
   |some (.map l)=>.mp l
   |_=>.undef)
 |s=>s.bP
def lh:List (MK×D)→MK→D→List (MK×D)
 |[],n,d=>[(n,d)]
 |x::l,n,d=>if n=x.1 then(n,d)::l else x::lh l n d
def ot(l:List (MK×D))(n:MK)(d:D):Option (List (MK×D)):=bif tq l n then some (lh l n d)else none
def lenOf:SV→SV→Option Nat
 | .d (.int k a),.d (.int k' b)=>if k=k'∧a=b∧0≤a then some a.toNat else none
 |_,_=>none
def tt(t:TypeId):Option D:=match P.info? t with
 |some i=>(match i.zero with|some z=>yE z|none=>none)
 |none=>none
def cT(id:Nat)(o:Oper)(ρ:Operand→Slot)(aA:List af)(k:Slot→List af→Prop):Prop:=
 match o.op with
 | .move x| .assign x=>k (ρ x) aA
 | .pick c a b=>(match ρ c with
   | .v x=>ar x (k (ρ a) aA) (k (ρ b) aA)
   |_=>False)
 | .alloc t=>(match aA[id]? with
   |some .none =>ab (IP P t) fun z=>k (.p id 0) (aA.set id (.cells z))
   |_=>False)
 | .box t x=>(match aA[id]? with
   |some .none =>ab (ea P t) fun sz=>(match ρ x with
    | .v y=>ab (az y) fun l=>l.length=sz∧k (.p id 0) (aA.set id (.cells l))
    | .t _=>False
    |s=>(match sz with|1=>k (.p id 0) (aA.set id (.one s))|_=>False))
   |_=>False)
 | .build t ps=>ab (od ρ ps.toList) fun l=>ab (cS P t l) fun r=>k (.v (.d r)) aA
 | .buildSlice t n ps=>ab (nZ P t) fun e=>ab (kG P e) fun ly=>ab (nT P e) fun z=>ab (od ρ ps.toList) fun l=>
    bif Nat.ble (n*ly.2) (2^24)&&Nat.blt 0 ly.2&&Nat.beq z.length ly.2 then(bf ly.2 n l=true∧k (.v (.full ly.2 (bj (br ly.1 z) l n 0))) aA)else False
 | .load t a=>ab (kG P t) fun ly=>(match ρ a with
   | .p b off=>p6 ly.1 ly.2 b off aA k
   | .v x=>ab (aI ly.1 ly.2 x) fun y=>k (.v y) aA
   |_=>False)
 | .store t a x=>ab (ea P t) fun sz=>(match ρ a with
   | .p b off=>(match o.dst with|none=>td sz b off (ρ x) aA fun db=>k (.t []) db|some _=>False)
   |_=>False)
 | .nilCheck x=>(match ρ x with
   | .v y=>ab (lP y) fun z=>k (.v z) aA
   | .t _=>False
   | .c f first cap=>(match f with
     | .func _=>k (.c f first cap) aA
     | .method name=>(match first with
       | .v y::_=>ab (Kg P y name) fun _=>k (.c f first cap) aA
       |_=>False)
     |_=>False)
   | .p b off=>k (.p b off) aA
   |_=>False)
 | .binOp op t x y _=>ab (ag (Cq P op t) op (ρ x).bP (ρ y).bP) fun r=>k (.v r) aA
 | .unOp op _ x=>ab (eG op (ρ x).bP) fun r=>k (.v r) aA
 | .convert src dst x=>bif (P.underlying src).isSome then(ab (Kf P dst (ρ x).bP) fun r=>k (.v r) aA)else False
 | .makeInterface t x=>bif isIface P t then False else ab (JO t (ρ x).bP) fun r=>k (.v r) aA
 | .makeFunc fn first cap=>k (.c fn (first.toList.map fun x=>(ρ x).aa) (cap.toList.map fun x=>(ρ x).aa)) aA
 | .slice t x lo hi mx=>ab (JM P t (Ab.aa (ρ x).bP) (pt ρ lo) (pt ρ hi) (pt ρ mx)) fun r=>k (.v r) aA
 | .fieldAddr t x f=>ab (Ao P t f) fun fd=>ab (ea P fd.type) fun sz=>bif Nat.beq sz 0 then False else(match ρ x with
   | .p b off=>k (.p b (off+fd.offset)) aA
   | .v y=>ab (bZ y fd.offset) fun z=>k (.v z) aA
   |_=>False)
 | .field t x f=>ab (Ao P t f) fun fd=>ab (kG P fd.type) fun ly=>ab (uT ly.1 ly.2 fd.offset (ρ x).bP) fun r=>k (.v r) aA
 | .indexAddr t x i=>(match P.underlying t with
   |some (.slice e)=>ab (ea P e) fun sz=>(match ρ x with
    | .a b n _=>ab (cM (ρ i).bP n) fun j=>k (.p b (j*sz)) aA
    |s=>ab (aQ sz s.bP (ρ i).bP) fun r=>k (.v r) aA)
   |some (.array n e)=>ab (ea P e) fun sz=>ab (cM (ρ i).bP n) fun j=>(match ρ x with
    | .p b off=>k (.p b (off+j*sz)) aA
    | .v y=>ab (bZ y (j*sz)) fun z=>k (.v z) aA
    |_=>False)
   |_=>False)
 | .index t x i=>(match P.underlying t with
   |some (.array n e)=>ab (kG P e) fun ly=>ab (JN ly.1 ly.2 n (ρ x).bP (ρ i).bP) fun r=>k (.v r) aA
   |some .string =>ab (Kh (ρ x).bP (ρ i).bP) fun r=>k (.v r) aA
   |_=>False)
 | .extract x i=>(match ρ x with
   | .t vs=>(match vs[i]? with|some r=>k (.v r) aA|none=>False)
   |_=>False)
 | .lookup t m x ok=>ab (AD P t) fun et=>ab (tt P et.1) fun z=>ab (rC et.2 z (u5 aA (ρ m)) (ρ x).bP) fun r=>
    bif ok then k (.t [.d r.1,.d (.bool r.2)]) aA else k (.v (.d r.1)) aA
 | .makeSlice t n c=>ab (nZ P t) fun e=>ab (ea P e) fun sz=>ab (wM P e) fun cP=>ab (tt P e) fun z=>
    bif Nat.beq sz 1&&Nat.blt 0 cP then(ab (lenOf (ρ n).bP (ρ c).bP) fun m=>m*cP≤140737488355328∧k (.v (.bt 1 (List.replicate m z))) aA)else False
 | .makeMap t h=>(match h,aA[id]? with
   |none,some .none =>k (.m id) (aA.set id (.map []))
   |_,_=>False)
 | .mapUpdate t m x y=>ab (AD P t) fun et=>(match ρ m,o.dst with
   | .m b,none=>(match aA[b]? with
     |some (.map l)=>ab (lg et.2 (ρ x).bP) fun n=>ab (cN (ρ y).bP) fun d=>ab (ot l n d) fun l'=>k (.t []) (aA.set b (.map l'))
     |_=>False)
   |_,_=>False)
 | .call c=>(match c.callee with
   | .value f=>(match ρ f with
     | .v x=>withFn x (iI aA ρ c.args.toList) (oo C (arity P o.type) aA k)
     | .c (.func g) first cap=>oo C (arity P o.type) aA k g (ju (snap aA 6) first++iI aA ρ c.args.toList++ju (snap aA 6) cap)
     |_=>False)
   | .invoke recv name=>(match ρ recv with
     | .v x=>wL P x name (iI aA ρ c.args.toList) (oo C (arity P o.type) aA k)
     |_=>False)
   | .builtin b=>(match b,c.args.toList,c.argTypes.toList with
     | .len,x::_,t::_=>(match ρ x with
       | .a _ n _=>bif isSlice P t then k (.v (.d (.int .i64 n))) aA else False
       |s=>ab (KF P t s.bP) fun r=>k (.v r) aA)
     | .append,[x,y],[t,u]=>bif Nat.beq t u then(ab (nZ P t) fun e=>ab (ea P e) fun sz=>ab (wM P e) fun cP=>ab (nT P e) fun z=>
        bif Nat.blt 0 cP&&Nat.blt 0 sz&&Nat.beq z.length sz then bI sz cP (ρ x).bP (ρ y).bP fun r=>k (.v r) aA else False)else False
     | .min,x::l,_=>ab (yk minD (ρ x).bP (l.map fun y=>(ρ y).bP)) fun r=>k (.v r) aA
     | .max,x::l,_=>ab (yk maxD (ρ x).bP (l.map fun y=>(ρ y).bP)) fun r=>k (.v r) aA
     |_,_,_=>False))
 |_=>False
def tmpsOf(o:Oper):List Nat:=o.op.operands.toList.filterMap fun| .tmp t=>some t|_=>none
def cq(l:List Slot)(dst:Option Nat)(s:Slot):List Slot:=match dst with
 |some d=>l.set d s
 |none=>l
def placeOf(r:Nat):List Nat→Nat→Nat
 |[],i=>i
 |t::l,i=>bif Nat.beq t r then i else placeOf r l (i+1)
def Rp(r:Nat):List Nat→Nat→Nat→Nat
 |[],_,j=>j
 |t::l,i,j=>Rp r l (i+1) (bif Nat.beq t r then i else j)
def Rq(r:Nat)(ts:List Nat):Nat:=bif Nat.beq ts.length 4 then Rp r ts 0 0 else placeOf r ts 0
def Jl(t:TypeId)(ts:List TypeId):Nat:=match P.underlying t with
 |some (.tuple rs)=>(match rs.toList with
  |[]=>0
  |r::_=>Rq r ts)
 |_=>Rq t ts
def yV(rs:List SV):Slot:=match rs with
 |[r]=>.v r
 |rs=>.t rs
def qj(p:Nat)(args:List SV):List SV:=.aL [.cJ p 0 []]::args
def KG(s:Slot):Option FuncId:=match s with
 | .v (.d (.fn (.func g)))=>some g
 |_=>none
def lb(o:Oper)(e:Env)(k:Env→Prop):Prop:=match o.op with
 | .move (.tmp t)| .assign (.tmp t)=>k ⟨cq (e.ai.set t (e.ai.getD t (.v .undef)).aa) o.dst (e.ai.getD t (.v .undef)),e.boxes⟩
 | .extract (.tmp t) i=>(match e.ai.getD t (.v .undef)with
   | .t vs=>(match vs[i]? with
     |some r=>k ⟨cq (e.ai.set t (.t (vs.set i (aa r)))) o.dst (.v r),e.boxes⟩
     |none=>False)
   |_=>False)
 | .load ty a=>(match(aV gl e a).aa with
   | .p b off=>ab (kG P ty) fun ly=>bif ly.1 then False else(match e.boxes[b]? with
     |some (.cells cs)=>ab cs[off]? fun x=>k ⟨cq e.ai o.dst (.v x),e.boxes.set b (.cells (cs.set off (aa x)))⟩
     |_=>False)
   |_=>False)
 | .store ty a (.tmp t)=>(match(aV gl e a).aa,e.ai.getD t (.v .undef),o.dst with
   | .p b off,.v y,none=>ab (ea P ty) fun sz=>bif Nat.beq sz 1 then(match e.boxes[b]? with
     |some (.cells cs)=>ab (az y) fun l=>l.length=1∧off<cs.length∧k ⟨e.ai.set t (.v (aa y)),e.boxes.set b (.cells (setAt cs off l))⟩
     |_=>False)else False
   |_,_,_=>False)
 | .buildSlice t n ps=>ab (nZ P t) fun e'=>ab (kG P e') fun ly=>ab (nT P e') fun z=>ab (od (fun x=>(aV gl e x).aa) ps.toList) fun l=>
    bif Nat.ble (n*ly.2) (2^24)&&Nat.blt 0 ly.2&&Nat.beq z.length ly.2 then(bf ly.2 n l=true∧k ⟨cq e.ai o.dst (.v (.bt ly.2 (bj (br ly.1 z) l n 0))),e.boxes⟩)else False
 | .call c=>(match c.callee,c.args.toList,c.argTypes.toList with
   | .builtin .append,[.tmp t,y],[ty,u]=>bif Nat.beq ty u then(ab (nZ P ty) fun e'=>ab (ea P e') fun sz=>ab (wM P e') fun cP=>ab (nT P e') fun z=>
      bif Nat.blt 0 cP&&Nat.blt 0 sz&&Nat.beq z.length sz then bI sz cP (e.ai.getD t (.v .undef)).bP ((aV gl e y).aa).bP fun r=>
       k ⟨cq (e.ai.set t (e.ai.getD t (.v .undef)).aa) o.dst (.v r),e.boxes⟩else False)else False
   | .value f,args,ts=>(match args[Jl P o.type ts]?,KG (aV gl e f)with
     |some (.tmp t),some g=>(match e.ai.getD t (.v .undef)with
      | .v y=>xv (arity P o.type) fun rs=>∃bk,C g (qj (Jl P o.type ts) ((iI e.boxes (fun x=>(aV gl e x).aa) args).set (Jl P o.type ts) y)) (.aL (bk::rs))∧aa bk=aa y∧k ⟨cq (e.ai.set t (.v bk)) o.dst (yV rs),e.boxes⟩
      |_=>False)
     |_,_=>False)
   |_,_,_=>False)
 |_=>False
def m7(id:Nat)(aE:Bool)(o:Oper)(e:Env)(k:Env→Prop):Prop:=
 bif aE then lb P gl C o e k
 else cT P C id o (fun x=>(aV gl e x).aa) e.boxes fun r aA=>k ⟨cq e.ai o.dst r,aA⟩
def Env.xb(e:Env)(t:Nat)(b:Bool):Env:=⟨e.ai.set t (.v (.d (.bool b))),e.boxes⟩
def yF(all:List Oper)(o:Oper)(e:Env)(A B:Env→Prop):Prop:=
 match o.guard with
 |none=>A e
 |some (j,want)=>(match(match all[j]? with|some g=>g.dst|none=>none)with
  |some t=>(match e.ai.getD t (.v .undef)with
   | .v x=>ar x (bif want then A (e.xb t true)else B (e.xb t true)) (bif want then B (e.xb t false)else A (e.xb t false))
   | .t _=>B e
   |_=>False)
  |none=>False)
def gk(o:Oper):Bool:=match o.op with| .alloc _| .box .. | .makeMap .. =>true|_=>false
def fU:List Oper→Nat→Nat
 |[],_=>0
 |_,0=>0
 |o::l,i+1=>(bif gk o then 1 else 0)+fU l i
def ld(aE:Nat→Bool)(all:List Oper)(base:Nat):List Oper→Nat→Env→(Env→Prop)→Prop
 |[],_,e,k=>k e
 |o::rest,i,e,k=>yF all o e
   (fun e'=>m7 P gl C (base+fU all i) (aE i) o e' fun lp=>ld aE all base rest (i+1) lp k)
   (fun e'=>ld aE all base rest (i+1) ⟨cq e'.ai o.dst (.t []),e'.boxes⟩ k)
def Ap(aE:Nat→Bool)(ops:List Oper)(e:Env)(k:Env→Prop):Prop:=
 ld P gl C aE ops e.boxes.length ops 0 ⟨e.ai,e.boxes++List.replicate (fU ops ops.length) .none⟩ k
inductive Ex where
 |normal
 |exit (id:Nat)
 |ret
def bR(F:List SV→List (List SV)→(List SV→List (List SV)→Prop)→Prop)(vs:List SV)(bs:List (List SV)):Prop:=
 ∀I:List SV→List (List SV)→Prop,(∀vs bs,F vs bs I→I vs bs)→I vs bs
def mA:Code→Nat
 | .region id _ _=>id
 | .seq a _=>mA a
 | .block _ b=>mA b
 | .loop b=>mA b
 | .scope b=>mA b
 |_=>0
inductive ib where
 |box (t sz:Nat)
 |qB (t:Nat) (ts:List Nat)
 |jV (t:Nat) (agg:Bool) (sz:Nat) (ts:List Nat)
 |emp (t:Nat)
 |jW (t:Nat)
 |pC (t:Nat) (ts:List Nat)
def fB:List ib→List Nat
 |[]=>[]
 | .box t _::l=>t::fB l
 | .qB _ ts::l=>ts++fB l
 | .jV t _ _ ts::l=>t::(ts++fB l)
 | .emp t::l=>t::fB l
 | .jW t::l=>t::fB l
 | .pC _ ts::l=>ts++fB l
def kD(h:List (Nat×List ib))(id:Nat):List ib:=match h with
 |[]=>[]
 |(j,r)::l=>bif j==id then r else kD l id
def cF(gh:List (Nat×List ib)):Code→List Nat
 | .region id ops _=>fB (kD gh id)++(fB (kD gh (4000000+id))++ops.toList.filterMap (·.dst))
 | .seq a b=>cF gh a++cF gh b
 | .cond _ a b=>cF gh a++cF gh b
 | .block _ b=>cF gh b
 | .loop b=>cF gh b
 | .scope b=>cF gh b
 |_=>[]
def af.aB:af→List SV
 | .cells cs=>cs
 | .map l=>[.mp l]
 |_=>[.undef]
def tu(e:Env)(vars:List Nat):List SV:=vars.map fun t=>(e.ai.getD t (.v .undef)).bP
def tk(n:Nat)(e:Env):List (List SV):=(e.boxes.take n).map af.aB
def Slot.stays:Slot→Slot
 | .p b off=>.p b off
 | .c f first cap=>.c f first cap
 | .a b n sz=>.a b n sz
 | .m b=>.m b
 |_=>.v .undef
def place(t:Nat):List Nat→Nat→Option Nat
 |[],_=>none
 |v::l,i=>bif v==t then some i else place t l (i+1)
def ae(vs:List SV)(j:Nat):SV:=vs.getD j .undef
def ao(bs:List (List SV))(i:Nat):List SV:=bs.getD i []
def qY(vars consts:List Nat)(vs:List SV):List Slot→Nat→List Slot
 |[],_=>[]
 |s::l,t=>(match place t vars 0 with
  |some j=>.v (ae vs j)
  |none=>bif consts.contains t then s.stays else .v .undef)::qY vars consts vs l (t+1)
def af.isMap:af→Bool
 | .map _=>true
 |_=>false
def mapOf:List SV→List (MK×D)
 |[.mp l]=>l
 |_=>[]
def af.again(cs:List SV):af→af
 | .map _=>.map (mapOf cs)
 | .none =>.none
 |_=>.cells cs
def qZ(bs:List (List SV)):List af→Nat→List af
 |[],_=>[]
 |x::l,i=>af.again (ao bs i) x::qZ bs l (i+1)
structure Hints where
 aE:List (Nat×Nat)
 eQ:List (Nat×List Nat×List Nat)
 gh:List (Nat×List ib):=[]
def tI(h:Hints)(id i:Nat):Bool:=h.aE.any fun p=>p.1==id&&p.2==i
def mY(h:List (Nat×List Nat×List Nat))(id:Nat):List Nat×List Nat:=match h with
 |[]=>([],[])
 |(j,r)::l=>bif j==id then r else mY l id
mutual
def Slot.has(b:Nat):Slot→Bool
 | .p b' _=>b'==b
 | .a b' _ _=>b'==b
 | .m b'=>b'==b
 | .c _ x y=>Slot.vi b x||Slot.vi b y
 |_=>false
def Slot.vi(b:Nat):List Slot→Bool
 |[]=>false
 |s::l=>Slot.has b s||Slot.vi b l
end
def jS(m n:Nat)(x:SV):SV:=if m=n then x else .undef
def AS(b:Nat)(ra:Nat→SV)(rm:SV):Slot→Slot
 | .a b' n sz=>bif b'==b then .v (ra n)else .a b' n sz
 | .m b'=>bif b'==b then .v rm else .m b'
 | .p b' off=>bif b'==b then .v .undef else .p b' off
 | .c f x y=>bif Slot.vi b x||Slot.vi b y then .v .undef else .c f x y
 |s=>s
def lS(b:Nat)(ra:Nat→SV)(rm:SV)(ts:List Nat):List Slot→Nat→List Slot
 |[],_=>[]
 |s::l,i=>(bif ts.contains i then AS b ra rm s else s)::lS b ra rm ts l (i+1)
def tJ(b:Nat)(ts:List Nat):List Slot→Nat→Bool
 |[],_=>true
 |s::l,i=>(ts.contains i|| !s.has b)&&tJ b ts l (i+1)
def qc(b:Nat):List af→Bool
 |[]=>true
 | .one s::l=> !s.has b&&qc b l
 |_::l=>qc b l
def tK(b:Nat)(ra:Nat→SV)(rm:SV)(ts:List Nat)(e:Env):Env:=⟨lS b ra rm ts e.ai 0,e.boxes.set b .none⟩
def mD(b:Nat)(ts:List Nat)(e:Env):Bool:=tJ b ts e.ai 0&&qc b e.boxes
def bq:List D→List SV
 |[]=>[]
 |x::l=>x.cells.map .d ++bq l
def gP(x:SV)(sz:Nat)(A:List D→Prop)(B:Prop):Prop:=match x with
 | .bt s L=>s=sz∧A L
 | .d _=>B
 |_=>False
def eW(agg:Bool)(sz:Nat):Nat→List D→Option (List D)
 |0,[]=>some []
 |0,_::_=>none
 |n+1,l=>if sz≤l.length then(match eW agg sz n (l.drop sz)with|some r=>some (br agg (l.take sz)::r)|none=>none)else none
def vj(x:SV):Option SV:=match x with
 | .bt sz L=>some (.own sz L)
 | .d (.sl .nil s L)=>some (.d (.sl .nil (bif Nat.beq s g5 then 0 else s) L))
 | .d y=>some (.d y)
 |_=>none
def ou(x:SV):Option SV:=match x with
 | .d (.sl .nil _ L)=>some (.d (.sl .nil g5 L))
 | .bt s L=>some (.bt s L)
 |_=>none
def fu(e:Env)(k:Env→Prop):ib→Prop
 | .box t sz=>(match e.ai.getD t (.v .undef)with
   | .v x=>gP x sz (fun L=>k ⟨e.ai.set t (.a e.boxes.length L.length sz),e.boxes++[.cells (bq L)]⟩) (k e)
   |_=>False)
 | .qB t ts=>(match e.ai.getD t (.v .undef)with
   | .a b n _=>(match e.boxes[b]? with
     |some (.cells cs)=>bif mD b ts e then(ab (dE cs) fun ds=>cs.length=n∧k (tK b (fun m=>jS m n (.d (.sl .ro 1 ds))) .undef ts e))else False
     |_=>False)
   | .m b=>(match e.boxes[b]? with
     |some (.map l)=>bif mD b ts e then k (tK b (fun _=>.undef) (.mp l) ts e)else False
     |_=>False)
   | .v _=>k e
   |_=>False)
 | .jV t agg sz ts=>(match e.ai.getD t (.v .undef)with
   | .a b n s=>(match e.boxes[b]? with
     |some (.cells cs)=>bif mD b (t::ts) e&&Nat.beq s sz&&Nat.blt 0 sz&&(agg||Nat.beq sz 1)then(ab (dE cs) fun ds=>ab (eW agg sz n ds) fun L=>
       k ⟨(lS b (fun _=>.undef) .undef (t::ts) e.ai 0).set t (.v (.bt sz L)),e.boxes.set b .none⟩)else False
     |_=>False)
   | .v _=>k e
   |_=>False)
 | .emp t=>(match e.ai.getD t (.v .undef)with
   | .v x=>ab (ou x) fun y=>k ⟨e.ai.set t (.v y),e.boxes⟩
   |_=>False)
 | .jW t=>(match e.ai.getD t (.v .undef)with
   | .v x=>ab (vj x) fun y=>k ⟨e.ai.set t (.v y),e.boxes⟩
   |_=>False)
 | .pC t ts=>(match e.ai.getD t (.v .undef)with
   | .p c 0=>(match e.boxes[c]? with
     |some (.one (.m b))=>(match e.boxes[b]? with
      |some (.map l)=>bif !(Nat.beq b c)&&tJ b ts e.ai 0&&qc b (e.boxes.set c .none)then k ⟨lS b (fun _=>.undef) .undef ts e.ai 0,(e.boxes.set b .none).set c (.cells [.mp l])⟩else False
      |_=>False)
     |_=>False)
   |_=>False)
def gO:List ib→Env→(Env→Prop)→Prop
 |[],e,k=>k e
 |x::l,e,k=>fu e (fun e'=>gO l e' k) x
def js(o:Oper):Bool:=match o.op with| .store .. | .mapUpdate .. =>true|_=>false
def ik(o:Oper):Bool:=match o.op with| .store .. | .load .. | .call _| .mapUpdate .. | .lookup .. =>true|_=>false
def im(aE:Bool)(o:Oper):List Nat:=(match o.dst with|some d=>[d]|none=>[])++(bif aE then tmpsOf o else [])
def indep(all:Array Oper)(De yW:Bool)(x y:Oper):Bool:=
 (im De x).all (fun d=> !(y.looksAt all).contains d&& !(im yW y).contains d)&&
 (im yW y).all (fun d=> !(x.looksAt all).contains d)&&
 !(js x&&ik y)&& !(js y&&ik x)&&
 !(De&&yW&&ik x&&ik y)
end
end Go.Proofs.Ytimbllcalipehaa.Ab
namespace Go.Proofs.Ytimbllcalipehaa.Ab
open Go Go.RowKit
def D.one:D→Bool
 | .agg _=>false
 |_=>true
def n0(w w':World)(b o:Nat):Prop:=w'.cell? ⟨b,o,none⟩=w.cell? ⟨b,o,none⟩∧∀es c,w.heap[b]? =some (.map es c)→w'.heap[b]? =some (.map es c)
theorem n0.refl(w:World)(b o:Nat):n0 w w b o:=⟨rfl,fun _ _ h=>h⟩
theorem n0.ri{w w':World}{b o:Nat}(h:w'.heap[b]? =w.heap[b]?):n0 w w' b o:=⟨World.cell?_of_block h,fun _ _ hm=>h.trans hm⟩
def tl(w w':World)(g a:Nat):Prop:=a=0→w'.heap[g]? =w.heap[g]?
theorem tl.refl(w:World)(g a:Nat):tl w w g a:=fun _=>rfl
theorem tl.trans{w w' GB:World}{g a:Nat}(h:tl w w' g a)(k:tl w' GB g a):tl w GB g a:=fun h0=>(k h0).trans (h h0)
def vk:KS→Value→Prop
 | .bool b,v=>v=.bool b
 | .int k n,v=>v=.int k n∧gm k n=true
 | .str s,v=>∃b:ByteArray,v=.string b∧b.data.toList=s∧b.size≤maxLen
def MK.Is:MK→Value→Prop
 | .i n,v=>v=.int .i64 n∧gm .i64 n=true
 | .s l,v=>∃vs:Array Value,v=.agg vs∧vs.size=l.length∧∀(i:Nat)k u,l[i]? =some k→vs[i]? =some u→vk k u
section
variable(w:World)(St:Nat→Nat→Prop)
inductive aZ:D→Value→Prop
 |bool (b:Bool):aZ (.bool b) (.bool b)
 |int (k:IntKind) (n:Int) (h:gm k n=true):aZ (.int k n) (.int k n)
 |str (s:ByteArray) (h:s.size≤maxLen):aZ (.str s.data.toList) (.string s)
 |agg (ds:List D) (vs:Array Value) (hf:∀d∈ds,d.one=true) (hl:ds.length=vs.size) (hc:∀(i:Nat)d v,ds[i]? =some d→vs[i]? =some v→aZ d v):aZ (.agg ds) (.agg vs)
 |iJ (sz:Nat):aZ (.sl .nil sz []) (.slice none 0 0)
 |sl (sz:Nat) (L:List D) (b off cap:Nat) (vs:Nat→Value) (bF:L.length≤cap) (hm:L.length≤maxLen) (aM:∀x∈L,x.cells.length=sz)
   (hf:∀x∈L,∀c∈x.cells,c.one=true) (aO:∀(o:Nat),o<L.length*sz→w.cell? ⟨b,off+o,none⟩=some (vs o)∧St b (off+o))
   (hc:∀(i:Nat)x(j:Nat)c,L[i]? =some x→x.cells[j]? =some c→aZ c (vs (i*sz+j))):
   aZ (.sl .ro sz L) (.slice (some ⟨b,off,none⟩) L.length cap)
 |ki (sz:Nat) (a:Addr) (cap:Nat) (ha:a.spot≠none):aZ (.sl .ro sz []) (.slice (some a) 0 cap)
 |fn (f:Fn):aZ (.fn f) (.func f #[] #[])
 |tF:aZ .tF .nilFunc
 |iface (t:TypeId) (x:D) (v:Value) (h:aZ x v):aZ (.iface t x) (.iface t v)
 |tG:aZ .tG .nilIface
 |oa:aZ .oa (.pointer none)
inductive aJ(base:Nat):(Nat→Nat→Nat→Prop)→SV→Value→Prop
 |d (O:Nat→Nat→Nat→Prop) (x:D) (v:Value) (h:aZ w St x v):aJ base O (.d x) v
 |own (O:Nat→Nat→Nat→Prop) (sz:Nat) (L:List D) (g cap:Nat) (h:aZ w St (.sl .ro sz L) (.slice (some ⟨g,0,none⟩) L.length cap)) (bF:cap≤maxLen)
   (ho:O g (L.length*sz) (cap*sz)):aJ base O (.own sz L) (.slice (some ⟨g,0,none⟩) L.length cap)
 |full (O:Nat→Nat→Nat→Prop) (sz:Nat) (L:List D) (a:Addr) (h:aZ w St (.sl .ro sz L) (.slice (some a) L.length L.length)):
   aJ base O (.full sz L) (.slice (some a) L.length L.length)
 |ref (O:Nat→Nat→Nat→Prop) (cs:List SV) (off b o:Nat) (vs:Nat→Value) (hb:b<base)
   (aO:∀(i:Nat),i<cs.length→w.cell? ⟨b,o+i,none⟩=some (vs i)∧(vs i).oneCell' =true)
   (hc:∀(i:Nat)c,cs[i]? =some c→aJ base (fun _ _ _=>False) c (vs i)):aJ base O (.ref cs off) (.pointer (some ⟨b,o+off,none⟩))
 |cJ (O:Nat→Nat→Nat→Prop) (n sz:Nat) (cs:List SV) (b cap:Nat) (vs:Nat→Value) (hb:b<base) (hn:n≤cap) (hm:cap≤maxLen)
   (aO:∀(i:Nat),i<cs.length→w.cell? ⟨b,0+i,none⟩=some (vs i)∧(vs i).oneCell' =true)
   (hc:∀(i:Nat)c,cs[i]? =some c→aJ base (fun _ _ _=>False) c (vs i)):aJ base O (.cJ n sz cs) (.slice (some ⟨b,0,none⟩) n cap)
 |aT (O:Nat→Nat→Nat→Prop) (x:D) (off b o:Nat) (vs:Nat→Value) (hf:∀c∈x.cells,c.one=true)
   (aO:∀(i:Nat),i<x.cells.length→w.cell? ⟨b,o+i,none⟩=some (vs i)∧St b (o+i))
   (hc:∀(i:Nat)c,x.cells[i]? =some c→aZ w St c (vs i)):aJ base O (.aT x off) (.pointer (some ⟨b,o+off,none⟩))
 |dg (O:Nat→Nat→Nat→Prop) (f:Fn) (first cap:List SV) (fv cv:Array Value) (hf:first.length=fv.size) (hc:cap.length=cv.size)
   (rf:∀(i:Nat)x v,first[i]? =some x→fv[i]? =some v→aJ base (fun _ _ _=>False) x v)
   (rc:∀(i:Nat)x v,cap[i]? =some x→cv[i]? =some v→aJ base (fun _ _ _=>False) x v):aJ base O (.dg f first cap) (.func f fv cv)
 |bt (O:Nat→Nat→Nat→Prop) (sz:Nat) (L:List D) (g cap:Nat) (vs:Nat→Value) (bF:L.length≤cap) (hm:cap≤maxLen) (aM:∀x∈L,x.cells.length=sz) (hf:∀x∈L,∀c∈x.cells,c.one=true)
   (ho:O g 0 (cap*sz)) (aO:∀(o:Nat),o<L.length*sz→w.cell? ⟨g,o,none⟩=some (vs o))
   (hc:∀(i:Nat)x(j:Nat)c,L[i]? =some x→x.cells[j]? =some c→aZ w St c (vs (i*sz+j))):aJ base O (.bt sz L) (.slice (some ⟨g,0,none⟩) L.length cap)
 |mp (O:Nat→Nat→Nat→Prop) (l:List (MK×D)) (r:Nat) (es:Array MapEntry) (clock:Nat) (hh:w.heap[r]? =some (.map es clock)) (hs:St r 0) (hl:l.length=es.size)
   (hc:∀(i:Nat)x y,l[i]? =some x→es[i]? =some y→x.1.Is y.key∧True∧aZ w St x.2 y.val):aJ base O (.mp l) (.map (some r))
 |undef (O:Nat→Nat→Nat→Prop) (v:Value):aJ base O .undef v
end
theorem aZ.mono{w w':World}{St bE:Nat→Nat→Prop}(h:∀b o,St b o→bE b o∧w'.cell? ⟨b,o,none⟩=w.cell? ⟨b,o,none⟩){d:D}{v:Value}
  (r:aZ w St d v):aZ w' bE d v:=by
 induction r with
 |bool b=>exact .bool b
 |int k n hk=>exact .int k n hk
 |str s hs=>exact .str s hs
 |agg ds vs hf hl _ ih=>exact .agg ds vs hf hl ih
 |iJ sz=>exact .iJ sz
 |sl sz L b off cap vs bF hm aM hf aO _ ih=>
  exact .sl sz L b off cap vs bF hm aM hf (fun o ho=>⟨(h _ _ (aO o ho).2).2.trans (aO o ho).1,(h _ _ (aO o ho).2).1⟩) ih
 |ki sz a cap ha=>exact .ki sz a cap ha
 |fn f=>exact .fn f
 |tF=>exact .tF
 |iface t x v _ ih=>exact .iface t x v ih
 |tG=>exact .tG
 |oa=>exact .oa
theorem aJ.mono{w w':World}{St bE:Nat→Nat→Prop}{base:Nat}(h0:∀b o,St b o→bE b o∧n0 w w' b o)
  (hb:∀b o,b<base→w'.cell? ⟨b,o,none⟩=w.cell? ⟨b,o,none⟩){O:Nat→Nat→Nat→Prop}{x:SV}{v:Value}(r:aJ w St base O x v):
  ∀O':Nat→Nat→Nat→Prop,(∀g a c,O g a c→O' g a c∧tl w w' g a)→aJ w' bE base O' x v:=by
 have h:∀b o,St b o→bE b o∧w'.cell? ⟨b,o,none⟩=w.cell? ⟨b,o,none⟩:=fun b o hs=>⟨(h0 b o hs).1,(h0 b o hs).2.1⟩
 induction r with
 |d O x v hd=>exact fun O' _=>.d O' x v (hd.mono h)
 |own O sz L g cap hd bF ho=>exact fun O' hO=>.own O' sz L g cap (hd.mono h) bF (hO _ _ _ ho).1
 |full O sz L a hd=>exact fun O' _=>.full O' sz L a (hd.mono h)
 |ref O cs off b o vs eh aO _ ih=>exact fun O' _=>.ref O' cs off b o vs eh (fun i hi=>⟨(hb _ _ eh).trans (aO i hi).1,(aO i hi).2⟩) fun i c hc=>ih i c hc _ (fun _ _ _ h=>h.elim)
 |cJ O n sz cs b cap vs eh hn hm aO _ ih=>exact fun O' _=>.cJ O' n sz cs b cap vs eh hn hm (fun i hi=>⟨(hb _ _ eh).trans (aO i hi).1,(aO i hi).2⟩) fun i c hc=>ih i c hc _ (fun _ _ _ h=>h.elim)
 |aT O x off b o vs hf aO hc=>
  exact fun O' _=>.aT O' x off b o vs hf (fun i hi=>⟨(h _ _ (aO i hi).2).2.trans (aO i hi).1,(h _ _ (aO i hi).2).1⟩) fun i c hi=>(hc i c hi).mono h
 |dg O f first cap fv cv hf hc _ _ jh ji=>exact fun O' _=>.dg O' f first cap fv cv hf hc (fun i x v a b=>jh i x v a b _ (fun _ _ _ h=>h.elim)) (fun i x v a b=>ji i x v a b _ (fun _ _ _ h=>h.elim))
 |bt O sz L g cap vs bF hm aM hf ho aO hc=>
  exact fun O' hO=>.bt O' sz L g cap vs bF hm aM hf (hO _ _ _ ho).1 (fun o bN=>(World.cell?_of_block ((hO _ _ _ ho).2 rfl)).trans (aO o bN)) fun i x j c hx gU=>(hc i x j c hx gU).mono h
 |mp O l r es clock hh hs hl hc=>exact fun O' _=>.mp O' l r es clock ((h0 r 0 hs).2.2 es clock hh) (h r 0 hs).1 hl fun i x y a b=>⟨(hc i x y a b).1,(hc i x y a b).2.1,(hc i x y a b).2.2.mono h⟩
 |undef O v=>exact fun O' _=>.undef O' v
theorem aJ.aa{w:World}{St:Nat→Nat→Prop}{base:Nat}{O O':Nat→Nat→Nat→Prop}{x:SV}{v:Value}(r:aJ w St base O x v):aJ w St base O' (aa x) v:=by
 cases r with
 |d _ x v hd=>exact .d _ x v hd
 |own _ sz L g cap hd bF ho=>exact .d _ _ _ hd
 |full _ sz L a hd=>exact .full _ sz L a hd
 |ref _ cs off b o vs eh aO hc=>exact .ref _ cs off b o vs eh aO hc
 |cJ _ n sz cs b cap vs eh hn hm aO hc=>exact .cJ _ n sz cs b cap vs eh hn hm aO hc
 |aT _ x off b o vs hf aO hc=>exact .aT _ x off b o vs hf aO hc
 |dg _ f first cap fv cv hf hc rf rc=>exact .dg _ f first cap fv cv hf hc rf rc
 |bt _ sz L g cap vs bF hm aM hf ho aO hc=>exact .undef _ _
 |mp _ l r es clock hh hs hl hc=>exact .mp _ l r es clock hh hs hl hc
 |undef _ v=>exact .undef _ _
theorem aJ.cN{w:World}{St:Nat→Nat→Prop}{base:Nat}{O:Nat→Nat→Nat→Prop}{x:SV}{v:Value}(r:aJ w St base O x v){y:D}(h:Ab.cN x=some y):aZ w St y v:=by
 cases r<;>simp only[Ab.cN,Option.some.injEq,reduceCtorEq]at h<;>subst h<;>assumption
mutual
def SV.Wf:SV→Prop
 | .d x=>x.Wf
 | .own sz L=>(D.sl .ro sz L).Wf
 | .full sz L=>(D.sl .ro sz L).Wf
 | .bt sz L=>(D.sl .ro sz L).Wf
 | .ref cs _=>SV.gn cs
 | .cJ _ _ cs=>SV.gn cs
 | .aT x _=>D.gn x.cells
 | .dg _ a b=>SV.gn a∧SV.gn b
 | .aL l=>SV.gn l
 | .mp l=>∀x∈l,x.2.Wf
 | .undef =>True
def SV.gn:List SV→Prop
 |[]=>True
 |x::l=>x.Wf∧SV.gn l
end
theorem D.kC:∀(l:List D),D.gn l↔∀x∈l,x.Wf
 |[]=>by simp[D.gn]
 |x::l=>by simp[D.gn,D.kC l]
theorem SV.kC:∀(l:List SV),SV.gn l↔∀x∈l,x.Wf
 |[]=>by simp[SV.gn]
 |x::l=>by simp[SV.gn,SV.kC l]
theorem aZ.O0{w:World}{St:Nat→Nat→Prop}{d:D}{v:Value}(r:aZ w St d v):∀c∈d.cells,c.one=true:=by
 cases r with
 |agg ds vs hf hl hc=>exact hf
 |_=>intro c hc;simp only[D.cells,List.mem_singleton]at hc;subst hc;rfl
theorem aZ.rl{w:World}{St:Nat→Nat→Prop}{d:D}{v:Value}(r:aZ w St d v)(h:d.one=true):v.oneCell'=true:=by
 cases r<;>first|rfl|simp[D.one]at h
theorem aZ.wf{w:World}{St:Nat→Nat→Prop}{d:D}{v:Value}(r:aZ w St d v):d.Wf:=by
 induction r with
 |int k n hk=>simpa[D.Wf]using hk
 |str s hs=>rw[D.Wf];exact hs
 |agg ds vs hf hl _ ih=>
  rw[D.Wf,D.kC]
  intro x hx
  obtain⟨i,hi,rfl⟩:=List.mem_iff_getElem.1 hx
  exact ih i _ (vs[i]'(by omega)) (by simp) (by simp)
 |iJ sz=>simp[D.Wf,D.gn]
 |ki sz a cap=>simp[D.Wf,D.gn]
 |sl sz L b off cap vs bF hm aM hf aO hc ih=>
  rw[D.Wf]
  refine⟨hm,by simp,aM,?_⟩
  rw[D.kC]
  intro x hx
  obtain⟨i,hi,rfl⟩:=List.mem_iff_getElem.1 hx
  have key:∀c∈(L[i]).cells,c.Wf:=fun c fC=>by
   obtain⟨j,hj,rfl⟩:=List.mem_iff_getElem.1 fC
   exact ih i _ j _ (List.getElem?_eq_getElem hi) (List.getElem?_eq_getElem hj)
  cases hL:L[i]with
  |agg cs=>rw[hL]at key;rw[D.Wf,D.kC];exact key
  |_=>rw[hL]at key;exact key _ (by simp[D.cells])
 |iface t x v _ ih=>simpa[D.Wf]using ih
 |_=>simp[D.Wf]
theorem aJ.wf{w:World}{St:Nat→Nat→Prop}{base:Nat}{O:Nat→Nat→Nat→Prop}{x:SV}{v:Value}(r:aJ w St base O x v):x.Wf:=by
 induction r with
 |d O x v hd=>simpa[SV.Wf]using hd.wf
 |own O sz L g cap hd bF ho=>simpa[SV.Wf]using hd.wf
 |full O sz L a hd=>simpa[SV.Wf]using hd.wf
 |bt O sz L g cap vs bF hm aM hf ho aO hc=>
  rw[SV.Wf,D.Wf]
  refine⟨Nat.le_trans bF hm,by simp,aM,?_⟩
  rw[D.kC]
  intro x hx
  obtain⟨i,hi,rfl⟩:=List.mem_iff_getElem.1 hx
  have key:∀c∈(L[i]).cells,c.Wf:=fun c fC=>by
   obtain⟨j,hj,rfl⟩:=List.mem_iff_getElem.1 fC
   exact(hc i _ j _ (List.getElem?_eq_getElem hi) (List.getElem?_eq_getElem hj)).wf
  cases hL:L[i]with
  |agg cs=>rw[hL]at key;rw[D.Wf,D.kC];exact key
  |_=>rw[hL]at key;exact key _ (by simp[D.cells])
 |ref O cs off b o vs eh aO _ ih=>
  rw[SV.Wf,SV.kC]
  intro x hx
  obtain⟨i,hi,rfl⟩:=List.mem_iff_getElem.1 hx
  exact ih i _ (by simp)
 |cJ O n sz cs b cap vs eh hn hm aO _ ih=>
  rw[SV.Wf,SV.kC]
  intro x hx
  obtain⟨i,hi,rfl⟩:=List.mem_iff_getElem.1 hx
  exact ih i _ (by simp)
 |aT O x off b o vs hf aO hc=>
  rw[SV.Wf,D.kC]
  intro c fC
  obtain⟨j,hj,rfl⟩:=List.mem_iff_getElem.1 fC
  exact(hc j _ (by simp)).wf
 |dg O f first cap fv cv hf hc _ _ jh ji=>
  rw[SV.Wf,SV.kC,SV.kC]
  constructor
  ·intro x hx
   obtain⟨i,hi,rfl⟩:=List.mem_iff_getElem.1 hx
   exact jh i _ (fv[i]'(by omega)) (by simp) (by simp)
  ·intro x hx
   obtain⟨i,hi,rfl⟩:=List.mem_iff_getElem.1 hx
   exact ji i _ (cv[i]'(by omega)) (by simp) (by simp)
 |mp O l r es clock hh hs hl hc=>
  rw[SV.Wf]
  intro x hx
  obtain⟨i,hi,rfl⟩:=List.mem_iff_getElem.1 hx
  exact(hc i _ (es[i]'(by omega)) (by simp) (by simp)).2.2.wf
 |undef=>simp[SV.Wf]
inductive Pos where
 |s (i j:Nat)
 |b (i j:Nat)
 deriving DecidableEq
structure Gh where
 St:Nat→Nat→Prop
 bx:List (Option Nat)
 ow:Nat→Option Pos
def eN(base:Nat)(w:World)(g:Gh)(p:Pos)(b a c:Nat):Prop:=
 g.ow b=some p∧base≤b∧some b∉g.bx∧(∃cur e,w.heap[b]? =some (.cells cur e (0,0))∧cur.size=c)∧∀o,a≤o→¬g.St b o
inductive bW(base:Nat)(w:World)(g:Gh):(Nat→Nat→Nat→Nat→Prop)→Slot→Value→Prop
 |v (O:Nat→Nat→Nat→Nat→Prop) (x:SV) (y:Value) (h:aJ w g.St base (O 0) x y):bW base w g O (.v x) y
 |p (O:Nat→Nat→Nat→Nat→Prop) (b off an:Nat) (h:g.bx[b]? =some (some an)):bW base w g O (.p b off) (.pointer (some ⟨an,off,none⟩))
 |c (O:Nat→Nat→Nat→Nat→Prop) (f:Fn) (first cap:List Slot) (fv cv:Array Value) (hf:first.length=fv.size) (hc:cap.length=cv.size)
   (rf:∀(i:Nat)x v,first[i]? =some x→fv[i]? =some v→bW base w g (fun _ _ _ _=>False) x v)
   (rc:∀(i:Nat)x v,cap[i]? =some x→cv[i]? =some v→bW base w g (fun _ _ _ _=>False) x v):bW base w g O (.c f first cap) (.func f fv cv)
 |a (O:Nat→Nat→Nat→Nat→Prop) (b n sz:Nat) (v:Value) (hm:n≤maxLen) (h:∃an cap,g.bx[b]? =some (some an)∧n≤cap∧v=.slice (some ⟨an,0,none⟩) n cap∧cap≤maxLen∧∃c ty,w.heap[an]? =some (.cells c ty (0,0))∧c.size=cap*sz):bW base w g O (.a b n sz) v
 |m (O:Nat→Nat→Nat→Nat→Prop) (b an:Nat) (h:g.bx[b]? =some (some an)):bW base w g O (.m b) (.map (some an))
 |t (O:Nat→Nat→Nat→Nat→Prop) (xs:List SV) (vs:Array Value) (hl:xs.length=vs.size)
   (hc:∀(j:Nat)x v,xs[j]? =some x→vs[j]? =some v→aJ w g.St base (O j) x v):bW base w g O (.t xs) (.tuple vs)
def fe(base:Nat)(w:World)(g:Gh)(i j:Nat):Nat→Nat→Nat→Prop:=eN base w g (.s i j)
def rJ(base:Nat)(w:World)(g:Gh)(i j:Nat):Nat→Nat→Nat→Prop:=eN base w g (.b i j)
def af.size:af→Nat
 | .cells cs=>cs.length
 | .one _=>1
 |_=>0
def Sb(base:Nat)(w:World)(g:Gh)(b:Nat)(bx:af)(an:Nat):Prop:=
 base≤an∧∃c t,w.heap[an]? =some (.cells c t (0,0))∧(∀(j:Nat)y,j<bx.size→c[j]? =some y→y.oneCell'=true)∧match bx with
  | .none =>False
  | .map _=>False
  | .cells cs=>cs.length≤c.size∧∀(j:Nat)x y,cs[j]? =some x→c[j]? =some y→aJ w g.St base (rJ base w g b j) x y
  | .one s=>0<c.size∧∀y,c[0]? =some y→bW base w g (fun _=>rJ base w g b 0) s y
def adZ(base:Nat)(w:World)(g:Gh)(l:List (MK×D))(an:Nat):Prop:=
 base≤an∧∃es clock,w.heap[an]? =some (.map es clock)∧l.length=es.size∧∀(i:Nat)x y,l[i]? =some x→es[i]? =some y→x.1.Is y.key∧True∧aZ w g.St x.2 y.val
def oz(base:Nat)(w:World)(g:Gh)(b:Nat)(bx:af)(an:Nat):Prop:=match bx with
 | .map l=>adZ base w g l an
 | .none =>False
 | .cells cs=>Sb base w g b (.cells cs) an
 | .one s=>Sb base w g b (.one s) an
theorem oz.low{base:Nat}{w:World}{g:Gh}{b:Nat}{bx:af}{an:Nat}(h:oz base w g b bx an):base≤an:=by
 cases bx<;>first|exact h.1|exact h.elim
def uU(gl:Nat→Option D)(w:World)(St:Nat→Nat→Prop):Prop:=
 ∀n x,gl n=some x→(∀c∈x.cells,c.one=true)∧∃vs:Nat→Value,(∀(i:Nat),i<x.cells.length→w.cell? ⟨n,i,none⟩=some (vs i)∧St n i)∧∀(i:Nat)c,x.cells[i]? =some c→aZ w St c (vs i)
structure S0 where
 St:Nat→Nat→Prop
 df:Nat→Obj→Prop
 cl:Nat→Nat→Value→Prop
 sz:Nat:=0
instance:CoeFun S0 (fun _=>Nat→Nat→Prop):=⟨S0.St⟩
theorem fT{w:World}{D:Nat}{x:Obj}(h:w.heap[D]? =some x):D<w.heap.size:=(Array.getElem?_eq_some_iff.1 h).1
structure Inv(gl:Nat→Option D)(w0:World)(aq:S0)(e:Env)(a:Act)(w:World)(g:Gh):Prop where
 below:Below w0.heap.size w0 w
 size:a.tmps.size=e.ai.length
 ai:∀(i:Nat)s,e.ai[i]? =some s→bW w0.heap.size w g (fe w0.heap.size w g i) s (a.tmps.getD i undef)
 ff:g.bx.length=e.boxes.length
 boxes:∀(b:Nat)bx an,e.boxes[b]? =some bx→g.bx[b]? =some (some an)→oz w0.heap.size w g b bx an
 nodup:∀(i j:Nat)an,g.bx[i]? =some (some an)→g.bx[j]? =some (some an)→i=j
 fY:∀b o,aq b o→g.St b o
 cG:∀b o,g.St b o→(aq b o∨w0.heap.size≤b)∧some b∉g.bx∧b<w.heap.size
 dj:∀b,some b∈g.bx→w0.heap.size≤b∧b<w.heap.size
 ke:uU gl w g.St
 defers:a.defers=[]
 eR:∀(D:Nat)(o:Obj),aq.df D o→some D∉g.bx∧g.ow D=none∧w.heap[D]? =some o∧∀x,g.St D x→aq.St D x
 cls:∀(b o:Nat)(v:Value),aq.cl b o v→g.St b o∧w.cell? ⟨b,o,none⟩=some v
 jH:aq.sz≤w.heap.size
end Go.Proofs.Ytimbllcalipehaa.Ab
namespace Go.Proofs.Ytimbllcalipehaa.Ab
open Go
def reach:(acc:List Nat)→List Oper→List Nat
 |acc,[]=>acc
 |acc,o::l=>reach (acc++[o.after.toList.foldl (fun s e=>bif Region.binds .any e then s|||2^e.on|||acc.getD e.on 0 else s) 0]) l
def mV(o:Oper):Option Nat:=match o.op,o.guard with| .alloc _,none=>o.dst|_,_=>none
def kc(l:List Oper):List Nat:=l.filterMap mV
def DG(A:List Nat):Operand→Bool
 | .tmp t=>A.contains t
 |_=>false
def oe(A:List Nat)(o:Oper):Option Nat:=match o.op with
 | .store _ (.tmp a) _=>bif A.contains a then some a else none
 |_=>none
def CL(A:List Nat)(aE:Bool)(o:Oper):Bool:=
 (match mV o with|some _=>true|none=> !gk o&&(match o.dst with|some d=> !A.contains d|none=>true))&&
 (match o.op with
   | .store _ x y=> !DG A y&&(!DG A x|| !aE)
   |op=>op.operands.toList.all fun x=> !DG A x)
def FH:List Nat→Bool
 |[]=>true
 |a::l=> !l.contains a&&FH l
def B9(a m:Nat):List Oper→Nat→Bool
 |[],_=>true
 |o::l,i=>(match mV o with|some b=> !(Nat.beq a b)||Nat.testBit m i|none=>true)&&B9 a m l (i+1)
def E7(all:List Oper)(A:List Nat)(aE:Nat→Bool)(R:List Nat):List Oper→Nat→Bool
 |[],_=>true
 |o::l,i=>CL A (aE i) o&&(match oe A o with|some a=>B9 a (R.getD i 0) all 0|none=>true)&&E7 all A aE R l (i+1)
def eligible(l:List Oper)(aE:Nat→Bool)(R:List Nat):Bool:=FH (kc l)&&E7 l (kc l) aE R l 0
def F0(A:List Nat)(lx ly:Bool)(x y:Oper):Bool:=match oe A x,oe A y with
 |some a,some b=> !(Nat.beq a b)&& !lx&& !ly
 |some _,none=> !lx&& !js y&& !ly
 |none,some _=> !ly&& !js x&& !lx
 |none,none=>false
def JP(all:Array Oper)(A:List Nat)(De yW:Bool)(x y:Oper):Bool:=
 (im De x).all (fun d=> !(y.looksAt all).contains d&& !(im yW y).contains d)&&
 (im yW y).all (fun d=> !(x.looksAt all).contains d)&&F0 A De yW x y
def AE(E:Option (List Nat))(all:Array Oper)(lx ly:Bool)(x y:Oper):Bool:=
 indep all lx ly x y||(match E with|some A=>JP all A lx ly x y|none=>false)
def FI(E:Option (List Nat))(ops:Array Oper)(aE:Nat→Bool)(R:List Nat)(i:Nat)(o:Oper):List Oper→Nat→Bool
 |[],_=>true
 |p::l,j=>(Nat.testBit (R.getD j 0) i||AE E ops (aE i) (aE j) o p)&&FI E ops aE R i o l (j+1)
def yz(E:Option (List Nat))(ops:Array Oper)(aE:Nat→Bool)(R:List Nat):List Oper→Nat→Bool
 |[],_=>true
 |o::l,i=>o.after.toList.all (fun e=> !Region.binds .any e||Nat.blt e.on i)&&FI E ops aE R i o l (i+1)&&yz E ops aE R l (i+1)
def rD(aE:Nat→Bool)(ops:Array Oper):Bool:=
 bif eligible ops.toList aE (reach [] ops.toList)then yz (some (kc ops.toList)) ops aE (reach [] ops.toList) ops.toList 0
 else yz none ops aE (reach [] ops.toList) ops.toList 0
def oh(m:Nat):List Oper→Nat→List Nat
 |[],_=>[]
 |o::l,i=>bif !Nat.testBit m i&&o.after.toList.all (fun e=> !Region.binds .any e||Nat.testBit m e.on)then i::oh m l (i+1)else oh m l (i+1)
def F1(ops:Array Oper)(aE:Nat→Bool)(R:List Nat)(m i:Nat)(o:Oper):List Oper→Nat→Bool
 |[],_=>true
 |p::l,j=>(Nat.beq i j||Nat.testBit m j||Nat.testBit (R.getD j 0) i||indep ops (aE i) (aE j) o p)&&F1 ops aE R m i o l (j+1)
def FJ(ops:Array Oper)(aE:Nat→Bool)(R:List Nat)(m i:Nat):Bool:=match ops.toList[i]? with
 |some o=>F1 ops aE R m i o ops.toList 0
 |none=>false
def firstFree(ops:Array Oper)(aE:Nat→Bool)(R:List Nat)(m:Nat):List Nat→Option Nat
 |[]=>none
 |i::l=>bif FJ ops aE R m i then some i else firstFree ops aE R m l
def Sc(ops:Array Oper)(aE:Nat→Bool)(R:List Nat)(m:Nat):List Nat:=match firstFree ops aE R m (oh m ops.toList 0)with
 |some i=>[i]
 |none=>oh m ops.toList 0
def Gf(f:Nat→Prop):List Nat→Prop
 |[]=>True
 |i::l=>match l with|[]=>f i|_=>f i∧Gf f l
def ad0(gh:List (Nat×List ib))(id:Nat):Bool:=gh.any fun p=>Nat.beq p.1 id&&p.2.isEmpty
mutual
def SV.ay:SV→Bool
 | .ref _ _=>false
 | .cJ _ _ _=>false
 | .dg _ a b=>SV.gM a&&SV.gM b
 | .aL l=>SV.gM l
 |_=>true
def SV.gM:List SV→Bool
 |[]=>true
 |x::l=>SV.ay x&&SV.gM l
end
def Ax(ws vars consts:List Nat):List Slot→Nat→Bool
 |[],_=>true
 |s::l,t=>(match s with| .v _=>true| .t _=>true|_=>ws.contains t||(!vars.contains t&&consts.contains t))&&Ax ws vars consts l (t+1)
section
variable(P:Program)(gl:Nat→Option D)(C:bl)(h:Hints)
def yX(ops:Array Oper)(aE:Nat→Bool)(R:List Nat)(base:Nat)(Q:Env→Prop):Nat→Nat→Env→Prop
 |0,m,e=>bif (oh m ops.toList 0).isEmpty then Q e else False
 |n+1,m,e=>bif (oh m ops.toList 0).isEmpty then Q e else
   Gf (fun i=>match ops.toList[i]? with
    |some o=>yF ops.toList o e (fun e'=>m7 P gl C (base+fU ops.toList i) (aE i) o e' fun lp=>yX ops aE R base Q n (m|||2^i) lp) (fun e'=>yX ops aE R base Q n (m|||2^i) ⟨cq e'.ai o.dst (.t []),e'.boxes⟩)
    |none=>False) (Sc ops aE R m)
def aeV(ops:Array Oper)(aE:Nat→Bool)(e:Env)(Q:Env→Prop):Prop:=
 yX P gl C ops aE (reach [] ops.toList) e.boxes.length Q ops.toList.length 0 ⟨e.ai,e.boxes++List.replicate (fU ops.toList ops.toList.length) .none⟩
def vn(ok:Bool)(ops:Array Oper)(aE:Nat→Bool)(e:Env)(Q:Env→Prop)(e':Env):Prop:=
 bif ok then Q e' else aeV P gl C ops aE e (fun x=>x=e')∧Q e'
def oq(e:Env)(c:Operand)(A B:Env→Prop):Prop:=match c with
 | .tmp t=>(match e.ai.getD t (.v .undef)with
   | .v x=>ar x (A (e.xb t true)) (B (e.xb t false))
   |_=>False)
 | .const (.bool b)=>cond b (A e) (B e)
 |_=>False
def abX(a b:Code):Nat:=bif Nat.beq (mA a) 0 then mA b else mA a
def pg(A:(List SV→List (List SV)→Prop)→Prop)(F:List SV→List (List SV)→Prop):Prop:=A F
def qd(key:Nat)(c:Code)(e:Env)(Q:Ex→Env→Prop)(T:(Ex→Env→Prop)→Prop):Prop:=
 match mY h.eQ key with
 |([],[])=>T Q
 |(vars,consts)=>bif consts.all (fun t=> !(cF h.gh c).contains t)&&Ax (cF h.gh c) vars consts e.ai 0 then
    pg (fun J=>T (fun x e'=>match x with| .normal =>J (tu e' vars) (tk e.boxes.length e')| .exit i=>Q (.exit i) e'| .ret =>Q .ret e'))
     (fun vs bs=>Q .normal ⟨qY vars consts vs e.ai 0,qZ bs e.boxes 0⟩)
  else False
inductive Spec where
 |vQ (t d:Nat) (ty:TypeId)
 |cut (t d1 d2:Nat) (ty:TypeId)
 |vo (t d:Nat) (f:FuncId) (dst:Nat)
 |u6 (t d t2 d2:Nat) (f:FuncId) (dst:Nat)
def uV(draw:Bool)(ops:List Oper):Option Spec:=bif draw then none else(match ops with
 |[o1,o2]=>(match o1.op,o1.dst,o1.guard,o2.op,o2.dst,o2.guard with
  | .move (.tmp t),some d,none,.call c,none,none=>(match c.callee,c.args.toList,c.argTypes.toList with
    | .builtin .clear,[.tmp d'],[ty]=>bif Nat.beq d d'&& !(Nat.beq t d)then some (.vQ t d ty)else none
    |_,_,_=>none)
  | .move (.tmp t),some d,none,.call c,some u,none=>(match c.callee,c.args.toList with
    | .value (.func f),[.tmp d']=>bif Nat.beq (arity P o2.type) 0&&(Nat.beq d d'&& !(Nat.beq t d)&& !(Nat.beq u d)&& !(Nat.beq u t))then some (.vo t d f u)else none
    |_,_=>none)
  |_,_,_,_,_,_=>none)
 |[o1,o2,o3]=>(match o1.op,o1.dst,o1.guard,o2.op,o2.dst,o2.guard,o3.op,o3.dst,o3.guard with
  | .move (.tmp t),some d1,none,.slice ty (.tmp Lp) none (some (.const (.int .i64 0))) none,some d2,none,.assign (.tmp zj),some t',none=>
    bif Nat.beq d1 Lp&&Nat.beq d2 zj&&Nat.beq t t'&& !(Nat.beq t d1)&& !(Nat.beq t d2)&& !(Nat.beq d1 d2)then some (.cut t d1 d2 ty)else none
  | .move (.tmp t),some d,none,.move (.tmp t2),some d2,none,.call c,some u,none=>(match c.callee,c.args.toList with
    | .value (.func f),[.tmp d',.tmp zj]=>bif Nat.beq (arity P o3.type) 0&&(Nat.beq d d'&&Nat.beq d2 zj&& !(Nat.beq t d)&& !(Nat.beq u d)&& !(Nat.beq u t)&& !(Nat.beq d2 d)&& !(Nat.beq d2 t)&& !(Nat.beq t2 d))then some (.u6 t d t2 d2 f u)else none
    |_,_=>none)
  |_,_,_,_,_,_,_,_,_=>none)
 |_=>none)
def vp(ty:TypeId)(x:SV):Option SV:=match nZ P ty with
 |some e=>(match ea P e,tt P e with
  |some 1,some z=>(match x with
   | .d (.sl .nil s _)=>some (.d (.sl .nil s []))
   | .bt s L=>if s=1 then some (.bt 1 (L.map fun _=>z))else none
   |_=>none)
  |_,_=>none)
 |none=>none
def vq(ty:TypeId)(x:SV):Option SV:=match nZ P ty with
 |some e=>(match ea P e with
  |some sz=>(match x with
   | .d (.sl .nil s _)=>some (.d (.sl .nil s []))
   | .bt s _=>if s=sz then some (.bt sz [])else none
   |_=>none)
  |none=>none)
 |none=>none
def iK(e:Env)(k:Env→Prop):Spec→Prop
 | .vQ t d ty=>(match e.ai.getD t (.v .undef)with
   | .v x=>bif Nat.blt d e.ai.length then(ab (vp P ty x) fun y=>k ⟨(e.ai.set d (.v .undef)).set t (.v y),e.boxes⟩)else False
   |_=>False)
 | .cut t d1 d2 ty=>(match e.ai.getD t (.v .undef)with
   | .v x=>bif Nat.blt d1 e.ai.length&&Nat.blt d2 e.ai.length then(ab (vq P ty x) fun y=>k ⟨((e.ai.set d1 (.v .undef)).set d2 (.v .undef)).set t (.v y),e.boxes⟩)else False
   |_=>False)
 | .vo t d f u=>(match e.ai.getD t (.v .undef)with
   | .v x=>bif Nat.blt d e.ai.length then(∃bk,C f (qj 0 [x]) (.aL [bk])∧aa bk=aa x∧k ⟨((((((e.ai.set t (.v (aa x))).set d (.v x)).set d (.v bk)).set u (.t [])).set d (.v (aa bk)))).set t (.v bk),e.boxes⟩)else False
   |_=>False)
 | .u6 t d t2 d2 f u=>(match e.ai.getD t (.v .undef)with
   | .v x=>bif Nat.blt d e.ai.length&&Nat.blt d2 e.ai.length&& !(Nat.beq t2 t)then(∃bk,C f (qj 0 [x,snap e.boxes 6 (e.ai.getD t2 (.v .undef)).aa]) (.aL [bk])∧aa bk=aa x∧k ⟨(((((((e.ai.set t (.v (aa x))).set d (.v x)).set d2 (e.ai.getD t2 (.v .undef)).aa).set d (.v bk)).set u (.t [])).set d (.v (aa bk)))).set t (.v bk),e.boxes⟩)else False
   |_=>False)
def lU(id:Nat)(ops:Array Oper)(draw:Bool)(e:Env)(K:Env→Prop):Prop:=
 bif (!draw||rD (tI h id) ops)||ad0 h.gh id then gO (kD h.gh id) e (fun e'=>match uV P draw ops.toList with
  |some s=>iK P C e' (fun e2=>gO (kD h.gh (4000000+id)) e2 K) s
  |none=>Ap P gl C (tI h id) ops.toList e' (vn P gl C (!draw||rD (tI h id) ops) ops (tI h id) e' (fun e2=>gO (kD h.gh (4000000+id)) e2 K)))else False
def aw:Code→(Ex→Env→Prop)→Env→Prop
 | .skip,Q,e=>Q .normal e
 | .region id ops draw,Q,e=>qd h (2000000+id) (.region id ops draw) e Q fun Q=>lU P gl C h id ops draw e (Q .normal)
 | .label _,Q,e=>Q .normal e
 | .seq a b,Q,e=>aw a (fun x e'=>match x with| .normal =>aw b Q e'| .exit i=>Q (.exit i) e'| .ret =>Q .ret e') e
 | .cond c a b,Q,e=>qd h (1000000+abX a b) (.cond c a b) e Q fun Q=>oq e c (aw a Q) (aw b Q)
 | .block id b,Q,e=>aw b (fun x e'=>match x with| .normal =>Q .normal e'| .exit i=>bif i==id then Q .normal e' else Q (.exit i) e'| .ret =>Q .ret e') e
 | .loop b,Q,e=>(match mY h.eQ (mA b)with
   |(vars,consts)=>bif consts.all (fun t=> !(cF h.gh b).contains t)&&Ax (cF h.gh b) vars consts e.ai 0 then
      bR (fun vs bs I=>aw b (fun x e'=>match x with| .normal =>I (tu e' vars) (tk e.boxes.length e')| .exit i=>Q (.exit i) e'| .ret =>Q .ret e')
          ⟨qY vars consts vs e.ai 0,qZ bs e.boxes 0⟩)
       (tu e vars) (tk e.boxes.length e)
    else False)
 | .exit id,Q,e=>Q (.exit id) e
 | .ret,Q,e=>Q .ret e
 |_,_,_=>False
def yY(e:Env)(used:List Nat)(r:ResultVar)(k:SV→Prop):Prop:=match r with
 | .tmp t=>(match e.ai.getD t (.v .undef)with
   | .v x=>x.ay=true∧k (bif used.contains t then aa x else x)
   |_=>False)
 | .cell a t=>ab (kG P t) fun ly=>(match e.ai.getD a (.v .undef)with
   | .p b off=>p6 ly.1 ly.2 b off e.boxes fun s _=>(match s with
     | .v x=>x.ay=true∧k x
     |_=>False)
   |_=>False)
def FK(used:List Nat):ResultVar→List Nat
 | .tmp t=>t::used
 | .cell _ _=>used
def yL(e:Env):List Nat→List ResultVar→(List SV→Prop)→Prop
 |_,[],k=>k []
 |used,r::l,k=>yY P e used r fun x=>yL e (FK used r) l fun xs=>k (x::xs)
def finish(fn:Func)(e:Env)(K:SV→Prop):Prop:=match fn.results.toList with
 |[r]=>yY P e [] r K
 |l=>yL P e [] l fun xs=>K (.aL xs)
def enter(n:Nat)(args:List SV):Env:=⟨args.map .v ++List.replicate (n-args.length) (.v .undef),[]⟩
def cj(args:List SV)(X:Prop):Prop:=SV.gn args→X
def body(f:FuncId)(args:List SV)(K:SV→Prop):Prop:=match P.funcs[f]? with
 |some fn=>(match fn.body with
  |some c=>cj args (aw P gl C h c (fun x e=>match x with| .normal =>finish P fn e K| .ret =>finish P fn e K| .exit _=>False) (enter fn.ntmps args))
  |none=>False)
 |none=>False
def Cs:Code→Code
 | .scope c=>c
 |c=>c
def AT(p:Nat)(f:FuncId)(args:List SV)(K:SV→Prop):Prop:=match P.funcs[f]? with
 |some fn=>(match fn.body with
  |some c=>bif fn.results.isEmpty&& !(cF [] (Cs c)).contains p then cj args (aw P gl C h (Cs c) (fun x e=>match x with| .normal =>gO (kD h.gh 3000000) e (fun e=>K (e.ai.getD p (.v .undef)).bP)| .ret =>gO (kD h.gh 3000000) e (fun e=>K (e.ai.getD p (.v .undef)).bP)| .exit _=>False) (enter fn.ntmps args))else False
  |none=>False)
 |none=>False
end
end Go.Proofs.Ytimbllcalipehaa.Ab
namespace Go.Proofs.Ytimbllcalipehaa.Ab
open Go Go.RowKit
def rp(g:Gh)(w w':World):Prop:=∀(b:Nat)c ty,some b∈g.bx→w.heap[b]? =some (.cells c ty (0,0))→∃c' rU,w'.heap[b]? =some (.cells c' rU (0,0))∧c'.size=c.size
theorem rp.refl{g:Gh}(w:World):rp g w w:=fun _ c ty _ h=>⟨c,ty,h,rfl⟩
theorem rp.of{g:Gh}{w w':World}(h:∀b,b<w.heap.size→w'.heap[b]? =w.heap[b]?):rp g w w':=fun b c ty _ hb=>⟨c,ty,(h b (fT hb)).trans hb,rfl⟩
theorem rp.trans{g g':Gh}{a b c:World}(h:rp g a b)(k:rp g' b c)(hg:∀x,some x∈g.bx→some x∈g'.bx):rp g a c:=fun x cc ty hm hx=>by
 obtain⟨c1,t1,h1,e1⟩:=h x cc ty hm hx
 obtain⟨c2,t2,h2,e2⟩:=k x c1 t1 (hg x hm) h1
 exact⟨c2,t2,h2,e2.trans e1⟩
structure Ext(base:Nat)(w:World)(g:Gh)(w':World)(g':Gh)(lost:Pos→Prop):Prop where
 df:∀(D:Nat)(o:Obj),some D∉g.bx→g.ow D=none→w.heap[D]? =some o→w'.heap[D]? =some o∧some D∉g'.bx∧g'.ow D=none∧∀x,g'.St D x→g.St D x
 st:∀b o,g.St b o→g'.St b o∧n0 w w' b o
 bs:∀b o,b<base→w'.cell? ⟨b,o,none⟩=w.cell? ⟨b,o,none⟩
 bx:∀(i:Nat)an,g.bx[i]? =some (some an)→g'.bx[i]? =some (some an)
 own:∀p b a c,¬lost p→eN base w g p b a c→eN base w' g' p b a c∧tl w w' b a
 sh:rp g w w'
theorem bW.mono{base:Nat}{w w':World}{g g':Gh}{O O':Nat→Nat→Nat→Nat→Prop}{s:Slot}{v:Value}(r:bW base w g O s v)
  (st:∀b o,g.St b o→g'.St b o∧n0 w w' b o)(bs:∀b o,b<base→w'.cell? ⟨b,o,none⟩=w.cell? ⟨b,o,none⟩)
  (bx:∀(i:Nat)an,g.bx[i]? =some (some an)→g'.bx[i]? =some (some an))(sh:rp g w w')(hO:∀j b a c,O j b a c→O' j b a c∧tl w w' b a):bW base w' g' O' s v:=by
 induction r generalizing O' with
 |v O x y h=>exact .v _ x y (h.mono st bs _ (hO 0))
 |p O b off an h=>exact .p _ b off an (bx _ _ h)
 |a O b n sz v hm h=>obtain⟨an,cap,h1,h2,h3,h4,c,ty,h5,h6⟩:=h;obtain⟨c',rU,h7,h8⟩:=sh an c ty (List.mem_of_getElem? h1) h5;exact .a _ b n sz v hm ⟨an,cap,bx _ _ h1,h2,h3,h4,c',rU,h7,h8.trans h6⟩
 |m O b an h=>exact .m _ b an (bx _ _ h)
 |c O f first cap fv cv hf hc _ _ jh ji=>exact .c _ f first cap fv cv hf hc (fun i x v a b=>jh i x v a b (fun _ _ _ _ h=>h.elim)) (fun i x v a b=>ji i x v a b (fun _ _ _ _ h=>h.elim))
 |t O xs vs hl hc=>exact .t _ xs vs hl fun j x v a b=>(hc j x v a b).mono st bs _ (hO j)
theorem bW.aa{base:Nat}{w:World}{g:Gh}{O O':Nat→Nat→Nat→Nat→Prop}{s:Slot}{v:Value}(r:bW base w g O s v):bW base w g O' s.aa v:=by
 cases r with
 |v _ x _ h=>exact .v _ _ _ h.aa
 |p _ b off an h=>exact .p _ b off an h
 |a _ b n sz v hm h=>exact .a _ b n sz v hm h
 |m _ b an h=>exact .m _ b an h
 |c _ f first cap fv cv hf hc rf rc=>exact .c _ f first cap fv cv hf hc rf rc
 |t _ xs vs hl hc=>
  refine .t _ _ vs (by simpa using hl) fun j x v a b=>?_
  simp only[List.getElem?_map,Option.map_eq_some_iff]at a
  obtain⟨x',a,rfl⟩:=a
  exact(hc j x' v a b).aa
theorem Ext.refl(base:Nat)(w:World)(g:Gh):Ext base w g w g (fun _=>False):=⟨fun _ _ hb ho h=>⟨h,hb,ho,fun _ h=>h⟩,fun _ _ h=>⟨h,.refl _ _ _⟩,fun _ _ _=>rfl,fun _ _ h=>h,fun _ _ _ _ _ h=>⟨h,.refl _ _ _⟩,.refl _⟩
theorem Ext.slot{base:Nat}{w w':World}{g g':Gh}{lost:Pos→Prop}(h:Ext base w g w' g' lost){i:Nat}(hl:∀j,¬lost (.s i j)){s:Slot}{v:Value}
  (r:bW base w g (fe base w g i) s v):bW base w' g' (fe base w' g' i) s v:=
 r.mono h.st h.bs h.bx h.sh fun j b a c ho=>h.own _ b a c (hl j) ho
theorem Ext.none{base:Nat}{w w':World}{g g':Gh}{lost:Pos→Prop}(h:Ext base w g w' g' lost){s:Slot}{v:Value}
  {O O':Nat→Nat→Nat→Nat→Prop}(r:bW base w g O s v):bW base w' g' O' s.aa v:=
 (r.aa (O':=fun _ _ _ _=>False)).mono h.st h.bs h.bx h.sh fun _ _ _ _ h=>h.elim
theorem Ext.Tj{base:Nat}{w w':World}{g g':Gh}{lost:Pos→Prop}(h:Ext base w g w' g' lost):∀b o,g.St b o→g'.St b o∧w'.cell? ⟨b,o,Option.none⟩=w.cell? ⟨b,o,Option.none⟩:=fun b o hs=>⟨(h.st b o hs).1,(h.st b o hs).2.1⟩
theorem Ext.A4{base:Nat}{w w':World}{g g':Gh}{lost:Pos→Prop}(h:Ext base w g w' g' lost){x:D}{v:Value}(r:aZ w g.St x v):aZ w' g'.St x v:=r.mono fun b o hs=>⟨(h.st b o hs).1,(h.st b o hs).2.1⟩
theorem Ext.box{base:Nat}{w w':World}{g g':Gh}{lost:Pos→Prop}(h:Ext base w g w' g' lost){b:Nat}{bx:af}{an:Nat}(hl:∀j,¬lost (.b b j))
  (hb:w'.heap[an]? =w.heap[an]?)(r:oz base w g b bx an):oz base w' g' b bx an:=by
 cases bx with
 |none=>exact r.elim
 |cells cs=>
  obtain⟨h0,c,t,hc,h1,hr⟩:=r
  exact⟨h0,c,t,hb.trans hc,h1,hr.1,fun j x y hx hy=>(hr.2 j x y hx hy).mono h.st h.bs _ fun b' a c' ho=>h.own _ b' a c' (hl j) ho⟩
 |one s=>
  obtain⟨h0,c,t,hc,h1,hr⟩:=r
  exact⟨h0,c,t,hb.trans hc,h1,hr.1,fun y hy=>(hr.2 y hy).mono h.st h.bs h.bx h.sh fun _ b' a c' ho=>h.own _ b' a c' (hl 0) ho⟩
 |map l=>
  obtain⟨h0,es,clock,hc,h1,hr⟩:=r
  exact⟨h0,es,clock,hb.trans hc,h1,fun i x y hx hy=>⟨(hr i x y hx hy).1,(hr i x y hx hy).2.1,h.A4 (hr i x y hx hy).2.2⟩⟩
theorem VR{l:List Slot}{dst:Option Nat}{s:Slot}{i:Nat}{x:Slot}(h:(cq l dst s)[i]? =some x):(dst=some i∧x=s)∨(dst≠some i∧l[i]? =some x):=by
 cases dst with
 |none=>exact .inr ⟨by simp,h⟩
 |some d=>
  simp only[cq,List.getElem?_set]at h
  by_cases hd:d=i
  ·subst hd
   simp only[↓reduceIte]at h
   split at h
   ·exact .inl ⟨rfl,(Option.some.inj h).symm⟩
   ·cases h
  ·simp only[hd,↓reduceIte]at h
   exact .inr ⟨by simpa using hd,h⟩
theorem IQ(a:Act)(dst:Option Tmp)(v:Value)(i:Nat)(h:i<a.tmps.size):(a.put dst v).tmps.getD i undef=if dst=some i then v else a.tmps.getD i undef:=by
 cases dst with
 |none=>simp[Act.put]
 |some d=>
  simp only[Act.put,Array.getD_eq_getD_getElem?,Array.getElem?_setIfInBounds]
  by_cases hd:d=i
  ·subst hd;simp[h]
  ·simp[hd]
theorem Ce(a:Act)(dst:Option Tmp)(v:Value):(a.put dst v).tmps.size =a.tmps.size:=by cases dst<;>simp[Act.put]
theorem put_defers(a:Act)(dst:Option Tmp)(v:Value):(a.put dst v).defers =a.defers:=by cases dst<;>rfl
theorem HD(l:List Slot)(dst:Option Nat)(s:Slot):(cq l dst s).length =l.length:=by cases dst<;>simp[cq]
theorem Ae{w:World}{St:Nat→Nat→Prop}{v:Value}{x:D}(h:yE v=some x):aZ w St x v:=by
 unfold yE at h
 split at h
 ·cases h;exact .bool _
 ·rename_i k n
  cases hw:gm k n with
  |true=>rw[hw]at h;cases h;exact .int _ _ hw
  |false=>rw[hw]at h;cases h
 ·rename_i s
  cases hw:Nat.ble s.size maxLen with
  |true=>rw[hw]at h;cases h;exact .str _ (Nat.le_of_ble_eq_true hw)
  |false=>rw[hw]at h;cases h
 ·cases h;exact .iJ 0
 ·cases h;exact .oa
 ·cases h;exact .tF
 ·cases h;exact .tG
 ·rename_i f first captured
  cases hw:(first.isEmpty&&captured.isEmpty)with
  |true=>
   rw[hw]at h;cases h
   simp only[Bool.and_eq_true,Array.isEmpty_iff]at hw
   obtain⟨rfl,rfl⟩:=hw
   exact .fn f
  |false=>rw[hw]at h;cases h
 ·cases h
theorem H5{v:Value}{x:D}(h:yE v=some x):x.one=true:=by
 have:∀{w:World}{St},aZ w St x v:=Ae h
 unfold yE at h
 split at h<;>first|(cases h;rfl)|(cases h)|skip
 ·rename_i k n;cases hw:gm k n<;>rw[hw]at h<;>cases h;rfl
 ·rename_i s;cases hw:Nat.ble s.size maxLen<;>rw[hw]at h<;>cases h;rfl
 ·rename_i f first captured;cases hw:(first.isEmpty&&captured.isEmpty)<;>rw[hw]at h<;>cases h;rfl
theorem HQ:∀{vs:List Value}{xs:List D},yw vs=some xs→∀x∈xs,x.one=true
 |[],xs,h=>by cases h;simp
 |v::vs,xs,h=>by
  simp only[yw]at h
  split at h
  ·rename_i x hx
   split at h
   ·rename_i r hr
    cases h
    intro y hy
    rcases List.mem_cons.1 hy with rfl|hy
    ·exact H5 hx
    ·exact HQ hr y hy
   ·cases h
  ·cases h
theorem B0{w:World}{St:Nat→Nat→Prop}:∀{vs:List Value}{xs:List D},yw vs=some xs→
  xs.length=vs.length∧∀(i:Nat)x v,xs[i]? =some x→vs[i]? =some v→aZ w St x v
 |[],xs,h=>by cases h;simp
 |v::vs,xs,h=>by
  simp only[yw]at h
  split at h
  ·rename_i x hx
   split at h
   ·rename_i r hr
    cases h
    obtain⟨h1,h2⟩:=B0 (w:=w) (St:=St) hr
    refine⟨by simp[h1],fun i y u hy hu=>?_⟩
    cases i with
    |zero=>simp only[List.getElem?_cons_zero,Option.some.injEq]at hy hu;subst hy hu;exact Ae hx
    |succ i=>simp only[List.getElem?_cons_succ]at hy hu;exact h2 i y u hy hu
   ·cases h
  ·cases h
theorem XN{w:World}{St:Nat→Nat→Prop}{v:Value}{x:D}(h:FZ v=some x):aZ w St x v:=by
 unfold FZ at h
 split at h
 ·split at h
  ·rename_i cs l hl
   cases h
   obtain⟨h1,h2⟩:=B0 (w:=w) (St:=St) hl
   exact .agg l _ (HQ hl) (by simpa using h1) fun i d v hd hv=>h2 i d v hd (by simpa using hv)
  ·cases h
 ·exact Ae h
section
variable{gl:Nat→Option D}{w0:World}{aq:S0}
theorem uU.ext{base:Nat}{w w':World}{g g':Gh}{lost:Pos→Prop}(h:Ext base w g w' g' lost)(r:uU gl w g.St):uU gl w' g'.St:=by
 intro n x hx
 obtain⟨h0,vs,h1,h2⟩:=r n x hx
 exact⟨h0,vs,fun i hi=>⟨(h.st _ _ (h1 i hi).2).2.1.trans (h1 i hi).1,(h.st _ _ (h1 i hi).2).1⟩,fun i c hc=>h.A4 (h2 i c hc)⟩
theorem Inv.stepG{e:Env}{a:Act}{w:World}{g:Gh}(hI:Inv gl w0 aq e a w g){w':World}{g':Gh}{lost:Pos→Prop}(hX:Ext w0.heap.size w g w' g' lost)
  {ai:List Slot}{aA:List af}{dst:Option Nat}{s:Slot}{v:Value}
  (om:Below w0.heap.size w w')
  (hlen:ai.length=e.ai.length)
  (hs:∀(i:Nat)x,ai[i]? =some x→dst≠some i→bW w0.heap.size w' g' (fe w0.heap.size w' g' i) x (a.tmps.getD i undef))
  (m8:∀d,dst=some d→bW w0.heap.size w' g' (fe w0.heap.size w' g' d) s v)
  (JQ:g'.bx.length=aA.length)
  (dt:∀(b:Nat)bx an,aA[b]? =some bx→g'.bx[b]? =some (some an)→oz w0.heap.size w' g' b bx an)
  (mI:∀(i j:Nat)an,g'.bx[i]? =some (some an)→g'.bx[j]? =some (some an)→i=j)(Df:∀b,some b∈g'.bx→w0.heap.size≤b∧b<w'.heap.size)
  (yZ:∀b o,g'.St b o→(aq b o∨w0.heap.size≤b)∧some b∉g'.bx∧b<w'.heap.size):
  Inv gl w0 aq ⟨cq ai dst s,aA⟩ (a.put dst v) w' g':=by
 refine⟨hI.below.trans om,?_,?_,JQ,dt,mI,fun b o h=>(hX.st b o (hI.fY b o h)).1,yZ,Df,hI.ke.ext hX,(put_defers a dst v).trans hI.defers,fun D o hD=>(have h:=hI.eR D o hD;have k:=hX.df D o h.1 h.2.1 h.2.2.1;⟨k.2.1,k.2.2.1,k.1,fun x hx=>h.2.2.2 x (k.2.2.2 x hx)⟩),fun b o v hv=>(have h:=hI.cls b o v hv;⟨(hX.st b o h.1).1,(hX.st b o h.1).2.1.trans h.2⟩),Nat.le_trans hI.jH om.size⟩
 ·rw[Ce,HD,hlen,hI.size]
 ·intro i x hx
  have hi:i<a.tmps.size:=by
   have:=(List.getElem?_eq_some_iff.1 hx).1
   rw[HD,hlen]at this
   rw[hI.size];exact this
  rw[IQ a dst v i hi]
  rcases VR hx with⟨hd,rfl⟩|⟨hd,dK⟩
  ·simp only[hd,↓reduceIte];exact m8 i hd
  ·simp only[hd,↓reduceIte]
   exact hs i x dK hd
theorem Inv.step{e:Env}{a:Act}{w:World}{g:Gh}(hI:Inv gl w0 aq e a w g){w':World}{g':Gh}{lost:Pos→Prop}(hX:Ext w0.heap.size w g w' g' lost)
  {ai:List Slot}{aA:List af}{dst:Option Nat}{s:Slot}{v:Value}
  (om:Below w0.heap.size w w')
  (hlen:ai.length=e.ai.length)
  (hs:∀(i:Nat)x,ai[i]? =some x→dst≠some i→∃y,e.ai[i]? =some y∧((x=y∧∀j,¬lost (.s i j))∨x=y.aa))
  (m8:∀d,dst=some d→bW w0.heap.size w' g' (fe w0.heap.size w' g' d) s v)
  (JQ:g'.bx.length=aA.length)
  (dt:∀(b:Nat)bx an,aA[b]? =some bx→g'.bx[b]? =some (some an)→oz w0.heap.size w' g' b bx an)
  (mI:∀(i j:Nat)an,g'.bx[i]? =some (some an)→g'.bx[j]? =some (some an)→i=j)(Df:∀b,some b∈g'.bx→w0.heap.size≤b∧b<w'.heap.size)
  (yZ:∀b o,g'.St b o→(aq b o∨w0.heap.size≤b)∧some b∉g'.bx∧b<w'.heap.size):
  Inv gl w0 aq ⟨cq ai dst s,aA⟩ (a.put dst v) w' g':=by
 refine hI.stepG hX om hlen (fun i x hx hd=>?_) m8 JQ dt mI Df yZ
 obtain⟨y,hy,⟨rfl,hl⟩|rfl⟩:=hs i x hx hd
 ·exact hX.slot hl (hI.ai i x hy)
 ·exact hX.none (hI.ai i y hy)
theorem Inv.F2{e:Env}{a:Act}{w:World}{g:Gh}(hI:Inv gl w0 aq e a w g){w':World}{g':Gh}{dst:Option Nat}
  (hX:Ext w0.heap.size w g w' g' (fun p=>∃d j,dst=some d∧p=.s d j))
  {s:Slot}{v:Value}(om:Below w.heap.size w w')
  (m8:∀d,dst=some d→bW w0.heap.size w' g' (fe w0.heap.size w' g' d) s v)(dt:g'.bx=g.bx)
  (yZ:∀b o,g'.St b o→g.St b o∨(w.heap.size≤b∧b<w'.heap.size)):
  Inv gl w0 aq ⟨cq e.ai dst s,e.boxes⟩ (a.put dst v) w' g':=by
 have hle:w0.heap.size≤w.heap.size:=hI.below.size
 refine hI.step hX (om.mono hle) rfl (fun i x hx hd=>⟨x,hx,.inl ⟨rfl,fun j=>?_⟩⟩) m8 (by rw[dt];exact hI.ff) ?_ (by rw[dt];exact hI.nodup) ?_ ?_
 ·rintro⟨d,j',h1,h2⟩
  cases h2
  exact hd h1
 ·intro b bx an h1 h2
  rw[dt]at h2
  have aK:an<w.heap.size:=(hI.dj an (List.mem_of_getElem? h2)).2
  exact hX.box (fun j=>by rintro⟨d,j',_,h⟩;cases h) (om.block an aK) (hI.boxes b bx an h1 h2)
 ·intro b hb
  rw[dt]at hb
  exact⟨(hI.dj b hb).1,Nat.lt_of_lt_of_le (hI.dj b hb).2 om.size⟩
 ·intro b o h
  rw[dt]
  rcases yZ b o h with h|h
  ·obtain⟨h1,h2,h3⟩:=hI.cG b o h
   exact⟨h1,h2,Nat.lt_of_lt_of_le h3 om.size⟩
  ·exact⟨.inr (Nat.le_trans hle h.1),fun hm=>by have:=(hI.dj b hm).2;omega,h.2⟩
theorem Inv.value{e:Env}{a:Act}{w:World}{g:Gh}(hI:Inv gl w0 aq e a w g){dst:Option Nat}{s:Slot}{v:Value}
  (m8:bW w0.heap.size w g (fun _ _ _ _=>False) s v):Inv gl w0 aq ⟨cq e.ai dst s,e.boxes⟩ (a.put dst v) w g:=by
 refine hI.F2 (w':=w) (g':=g) ⟨fun _ _ hb ho h=>⟨h,hb,ho,fun _ h=>h⟩,fun _ _ h=>⟨h,.refl _ _ _⟩,fun _ _ _=>rfl,fun _ _ h=>h,fun _ _ _ _ _ h=>⟨h,.refl _ _ _⟩,.refl _⟩ (Below.refl _ _) (fun d _=>?_) rfl (fun _ _ h=>.inl h)
 exact m8.mono (fun _ _ h=>⟨h,.refl _ _ _⟩) (fun _ _ _=>rfl) (fun _ _ h=>h) (.refl _) (fun _ _ _ _ h=>h.elim)
theorem Inv.aV{e:Env}{a:Act}{w:World}{g:Gh}(hI:Inv gl w0 aq e a w g)(x:Operand):bW w0.heap.size w g (fun _ _ _ _=>False) (aV gl e x).aa (a.eval x):=by
 cases x with
 |tmp t=>
  simp only[Ab.aV,Act.eval,List.getD_eq_getElem?_getD]
  cases h:e.ai[t]? with
  |none=>exact .v _ _ _ (.undef _ _)
  |some s=>exact(hI.ai t s h).aa
 |const v=>
  simp only[Ab.aV,Act.eval]
  cases h:FZ v with
  |none=>exact .v _ _ _ (.undef _ _)
  |some d=>exact .v _ _ _ (.d _ _ _ (XN h))
 |func f=>exact .v _ _ _ (.d _ _ _ (.fn _))
 |global n=>
  simp only[Ab.aV,Act.eval]
  cases h:gl n with
  |none=>exact .v _ _ _ (.undef _ _)
  |some x=>
   obtain⟨h0,vs,h1,h2⟩:=hI.ke n x h
   exact .v _ _ _ (.aT _ x 0 n 0 vs h0 (by simpa using h1) h2)
end
end Go.Proofs.Ytimbllcalipehaa.Ab
namespace Go.Proofs.Ytimbllcalipehaa.Ab
open Go Go.RowKit
def vr(lo:Nat)(w:World)(St:Nat→Nat→Prop)(ow:Nat→Option Nat)(j:Nat)(b a c:Nat):Prop:=
 ow b=some j∧lo≤b∧(∃cur e,w.heap[b]? =some (.cells cur e (0,0))∧cur.size=c)∧∀o,a≤o→¬St b o
def uW(lo:Nat)(w:World)(St:Nat→Nat→Prop)(ow:Nat→Option Nat)(r:SV)(v:Value):Prop:=match r with
 | .aL rs=>∃vs,v=.tuple vs∧rs.length=vs.size∧∀(j:Nat)x y,rs[j]? =some x→vs[j]? =some y→aJ w St 0 (vr lo w St ow j) x y
 |r=>aJ w St 0 (vr lo w St ow 0) r v
def lQ(P:Program)(f:FuncId):Prop:=∀(args:Array Value)(w:World),(callFunc f args).run P w=.ok (.enter f args) w
def CM(P:Program)(gl:Nat→Option D):bl:=fun f args r=>lQ P f∧
 ∀(w:World)(St:Nat→Nat→Prop)(vs:Array Value),(∀b o,St b o→b<w.heap.size)→uU gl w St→args.length=vs.size→
  (∀(i:Nat)x v,args[i]? =some x→vs[i]? =some v→aJ w St w.heap.size (fun _ _ _=>False) x v)→
  Calls P f vs w fun e w'=>∃v,e=.returned v∧Below w.heap.size w w'∧∃bE ow,(∀b o,St b o→bE b o)∧(∀b o,bE b o→St b o∨(w.heap.size≤b∧b<w'.heap.size))∧
   uW w.heap.size w' bE ow r v
def aeW(w:World)(St:Nat→Nat→Prop)(A:Nat→Option Nat)(i b a c:Nat):Prop:=
 A b=some i∧(∃cur e,w.heap[b]? =some (.cells cur e (0,0))∧cur.size=c)∧∀o,a≤o→¬St b o
def XO(lo:Nat)(A:Nat→Option Nat)(w:World)(St:Nat→Nat→Prop)(ow:Nat→Option Nat)(j:Nat)(b a c:Nat):Prop:=
 ow b=some j∧(lo≤b∨A b≠none)∧(∃cur e,w.heap[b]? =some (.cells cur e (0,0))∧cur.size=c)∧∀o,a≤o→¬St b o
def tL(w:World)(St:Nat→Nat→Prop)(O:Nat→Nat→Nat→Nat→Prop)(rs:List SV)(v:Value):Prop:=match rs with
 |[r]=>aJ w St 0 (O 1) r v
 |rs=>∃vs,v=.tuple vs∧rs.length=vs.size∧∀(j:Nat)x y,rs[j]? =some x→vs[j]? =some y→aJ w St 0 (O (j+1)) x y
def JR(P:Program)(gl:Nat→Option D)(f:FuncId)(args:List SV)(p:Nat)(rs:List SV)(bk:SV):Prop:=lQ P f∧SV.gM args=true∧
 ∀(w:World)(St:Nat→Nat→Prop)(A:Nat→Option Nat)(vs:Array Value),(∀b o,St b o→b<w.heap.size)→(∀b i,A b=some i→∃cur e,w.heap[b]? =some (.cells cur e (0,0))∧∀o,cur.size≤o→¬St b o)→uU gl w St→args.length=vs.size→
  (∀(i:Nat)x v,args[i]? =some x→vs[i]? =some v→aJ w St 0 (aeW w St A i) x v)→
  Calls P f vs w fun e w'=>∃v,e=.returned v∧w'.os=w.os∧w'.tape=w.tape∧w'.output=w.output∧w.heap.size≤w'.heap.size∧(∀b,b<w.heap.size→A b=none→w'.heap[b]? =w.heap[b]?)∧
   ∃bE ow,(∀b o,St b o→bE b o∧n0 w w' b o)∧(∀b o,bE b o→St b o∨((w.heap.size≤b∨A b≠none)∧b<w'.heap.size))∧
    tL w' bE (XO w.heap.size A w' bE ow) rs v∧∀y,vs[p]? =some y→aJ w' bE 0 (XO w.heap.size A w' bE ow 0) bk y
def lV:List SV→Option (Nat×List SV)
 | .aL (.cJ p _ _::_)::args=>some (p,args)
 |_=>none
def aD(P:Program)(gl:Nat→Option D):bl:=fun f args r=>match lV args with
 |some (p,Sd)=>(match r with
  | .aL (bk::rs)=>JR P gl f Sd p rs bk
  |_=>False)
 |none=>CM P gl f args r
theorem x9{P:Program}{gl:Nat→Option D}{f:FuncId}{args:List SV}{r:SV}(h:lV args=none):aD P gl f args r=CM P gl f args r:=by
 unfold aD;rw[h]
theorem Jm{P:Program}{gl:Nat→Option D}{f:FuncId}{args:List SV}{p:Nat}{rs:List SV}{bk:SV}:aD P gl f (qj p args) (.aL (bk::rs))=JR P gl f args p rs bk:=rfl
theorem O3{args:List SV}(h:∀x l,args=.aL x::l→False):lV args=none:=by
 unfold lV
 split
 ·rename_i p _ _ _ Sd
  exact(h _ _ rfl).elim
 ·rfl
theorem YX{w:World}{St:Nat→Nat→Prop}{base:Nat}{O:Nat→Nat→Nat→Nat→Prop}{args:List SV}{vs:Array Value}(hlen:args.length=vs.size)(h:∀(i:Nat)x v,args[i]? =some x→vs[i]? =some v→aJ w St base (O i) x v):lV args=none:=
 O3 fun x l hx=>by
  rw[hx]at hlen
  have h0:0<vs.size:=by rw[←hlen];simp
  have:=h 0 (.aL x) vs[0] (by rw[hx];rfl) (by simp[h0])
  cases this
section
variable{P:Program}{gl:Nat→Option D}{w0:World}{aq:S0}{e:Env}{a:Act}{w:World}{g:Gh}
theorem aH{α:Type}{o:Option α}{k:α→Prop}(h:ab o k):∃x,o=some x∧k x:=by
 cases o with
 |none=>exact h.elim
 |some x=>exact⟨x,rfl,h⟩
theorem Aq{x:SV}{A B:Prop}(h:ar x A B):∃b,x=.d (.bool b)∧(b=true→A)∧(b=false→B):=by
 unfold ar at h
 split at h
 ·rename_i c
  refine⟨c,rfl,?_,?_⟩<;>rintro rfl<;>exact h
 ·exact h.elim
theorem Inv.pD(hI:Inv gl w0 aq e a w g){x:Operand}{s:SV}(h:(Ab.aV gl e x).aa =.v s):aJ w g.St w0.heap.size (fun _ _ _=>False) s (a.eval x):=by
 have:=hI.aV x
 rw[h]at this
 cases this with
 |v _ _ _ h=>exact h
theorem Inv.iq(hI:Inv gl w0 aq e a w g)(x:Operand):aJ w g.St w0.heap.size (fun _ _ _=>False) ((Ab.aV gl e x).aa).bP (a.eval x):=by
 have:=hI.aV x
 cases h:(Ab.aV gl e x).aa with
 |v s=>exact hI.pD h
 |_=>exact .undef _ _
theorem aJ.data{St:Nat→Nat→Prop}{base:Nat}{O:Nat→Nat→Nat→Prop}{x:D}{v:Value}(h:aJ w St base O (.d x) v):aZ w St x v:=by
 cases h with
 |d _ _ _ h=>exact h
abbrev bp(P:Program)(gl:Nat→Option D)(w0:World)(aq:S0)(ai:List Slot)(o:Oper)(a:Act)(w:World)(k:Slot→List af→Prop):Prop:=
 ∀(next:Act→World→Prop)(Q:Exit→Act→World→Prop),
  (∀s v aA w' g',Inv gl w0 aq ⟨cq ai o.dst s,aA⟩ (a.put o.dst v) w' g'→k s aA→next (a.put o.dst v) w')→o.wp P a w next Q
theorem bp.value(hI:Inv gl w0 aq e a w g){o:Oper}{v:Value}{s:Slot}{k:Slot→List af→Prop}(ba:(execOp a.eval o).run P w=.ok (.value v) w)
  (hr:bW w0.heap.size w g (fun _ _ _ _=>False) s v)(hk:k s e.boxes):bp P gl w0 aq e.ai o a w k:=by
 intro next Q hn
 unfold Oper.wp
 rw[ba]
 exact hn s v _ _ _ (hI.value hr) hk
theorem bp.eX(hI:Inv gl w0 aq e a w g){o:Oper}{v:Value}{s:SV}{k:Slot→List af→Prop}(ba:(execOp a.eval o).run P w=.ok (.value v) w)
  (hr:aJ w g.St w0.heap.size (fun _ _ _=>False) s v)(hk:k (.v s) e.boxes):bp P gl w0 aq e.ai o a w k:=
 bp.value hI ba (.v _ _ _ hr) hk
theorem ym(k:IntKind)(n:Int):gm k (k.wrap n)=true:=by
 have hp:(0:Int)<2^k.bits:=Int.pow_pos (by decide)
 have h1:=Int.emod_nonneg n (Int.ne_of_gt hp)
 have h2:=Int.emod_lt_of_pos n hp
 simp only[gm,Bool.and_eq_true,decide_eq_true_eq,IntKind.min,IntKind.max,IntKind.wrap]
 cases k<;>simp only[IntKind.bits,IntKind.signed]at* <;>(try split)<;>simp_all<;>omega
theorem HR{k:IntKind}{n:Int}:gm k n=true↔k.min≤n∧n≤k.max:=by simp[gm]
theorem aak{k:IntKind}{x y:Int}(hx:gm k x=true)(hy:gm k y=true):gm k (x.tmod y)=true:=by
 rw[HR]at*
 have h1:(x.tmod y).natAbs ≤x.natAbs:=by
  rw[Int.natAbs_tmod]
  exact Nat.mod_le _ _
 have h2:0≤x→0≤x.tmod y:=fun h=>Int.tmod_nonneg y h
 have h3:x≤0→x.tmod y≤0:=fun h=>by
  have:=Int.tmod_nonneg (a:= -x) y (by omega)
  rw[Int.neg_tmod]at this
  omega
 have hm:k.min≤0∧0≤k.max:=by cases k<;>simp[IntKind.min,IntKind.max,IntKind.signed,IntKind.bits]
 constructor
 ·rcases Int.le_total 0 x with h|h
  ·have:=h2 h;omega
  ·have:=h3 h;omega
 ·rcases Int.le_total 0 x with h|h
  ·have:=h2 h;omega
  ·have:=h3 h;omega
theorem aal{k:IntKind}{x:Int}(hx:gm k x=true)(n:Nat):gm k (x.fdiv (2^n))=true:=by
 rw[HR]at*
 have hp:(0:Int)<2^n:=Int.pow_pos (by decide)
 rw[Int.fdiv_eq_ediv_of_nonneg _ (Int.le_of_lt hp)]
 have hm:k.min≤0∧0≤k.max:=by cases k<;>simp[IntKind.min,IntKind.max,IntKind.signed,IntKind.bits]
 constructor
 ·rcases Int.le_total 0 x with h|h
  ·have:=Int.ediv_nonneg h (Int.le_of_lt hp);omega
  ·have:x≤x / 2^n:=by
    have h1:=Int.mul_ediv_add_emod x (2^n)
    have h2:=Int.emod_nonneg x (Int.ne_of_gt hp)
    have h4:x / 2^n≤0:=by
     rcases Int.lt_or_le 0 (x / 2^n)with hh|hh
     ·have h5:2^n*1≤2^n*(x / 2^n):=Int.mul_le_mul_of_nonneg_left (by omega) (Int.le_of_lt hp)
      omega
     ·exact hh
    have h3:(2^n-1)*(x / 2^n)≤0:=Int.mul_nonpos_of_nonneg_of_nonpos (by omega) h4
    have h6:x=x / 2^n+((2^n-1)*(x / 2^n)+x % 2^n):=by
     rw[Int.sub_mul,Int.one_mul];omega
    have h7:=Int.emod_lt_of_pos x hp
    rcases Int.lt_or_le (x / 2^n) x with aK|hle
    ·exfalso
     have h8:2^n*(x / 2^n)≤2^n*(x-1):=Int.mul_le_mul_of_nonneg_left (by omega) (Int.le_of_lt hp)
     have h9:(2^n)*(x-1)≤1*(x-1):=by
      have:0≤(2^n-1)*(1-x):=Int.mul_nonneg (by omega) (by omega)
      rw[Int.sub_mul,Int.mul_sub,Int.mul_sub]at this
      rw[Int.mul_sub]
      omega
     have Lq:2^n*(x / 2^n)+2^n≤2^n*x:=by
      have:2^n*(x-1)=2^n*x-2^n:=by rw[Int.mul_sub,Int.mul_one]
      omega
     have Lr:2^n*x≤x:=by
      have:0≤(2^n-1)*(-x):=Int.mul_nonneg (by omega) (by omega)
      rw[Int.sub_mul,Int.mul_neg,Int.mul_neg]at this
      omega
     omega
    ·exact hle
   omega
 ·rcases Int.le_total 0 x with h|h
  ·have:x / 2^n≤x:=Int.ediv_le_self _ h
   omega
  ·have:x / 2^n≤0:=by
    rcases Int.lt_or_le 0 (x / 2^n)with hh|hh
    ·have h1:=Int.mul_ediv_add_emod x (2^n)
     have h2:=Int.emod_nonneg x (Int.ne_of_gt hp)
     have h5:2^n*1≤2^n*(x / 2^n):=Int.mul_le_mul_of_nonneg_left (by omega) (Int.le_of_lt hp)
     omega
    ·exact hh
   omega
theorem WQ{op:BinOp}{k:IntKind}{x y:Int}{r:D}(t:TypeId)(iQ:op≠.shl ∧op≠.shr)(hx:gm k x=true)(hy:gm k y=true)(h:iH op k x y=some r):
  ∃v,(binOp op t (.int k x) (.int k y)).run P w=.ok v w∧aZ w g.St r v:=by
 cases op<;>simp only[iH,Option.some.injEq,reduceCtorEq]at h<;>(try (exact absurd rfl iQ.1))<;>(try (exact absurd rfl iQ.2))
 case quo=>
  split at h
  ·cases h
  ·rename_i rV
   cases h
   exact⟨_,by simp[binOp,Op.intDiv,rV],.int _ _ (ym _ _)⟩
 case rem=>
  split at h
  ·cases h
  ·rename_i rV
   cases h
   exact⟨_,by simp[binOp,Op.intDiv,rV],.int _ _ (aak hx hy)⟩
 all_goals (subst h)
 case add|sub|mul=>exact⟨_,by simp[binOp,Op.intArith],.int _ _ (ym _ _)⟩
 case and|or|xor|andNot=>exact⟨_,by simp[binOp,Op.intBits],.int _ _ (ym _ _)⟩
 all_goals exact⟨_,by simp[binOp,Op.intCmp],.bool _⟩
theorem NW{op:BinOp}{k k':IntKind}{x y:Int}{r:D}(t:TypeId)(iQ:op=.shl ∨op=.shr)(hx:gm k x=true)(h:yx op k x y=some r):
  ∃v,(binOp op t (.int k x) (.int k' y)).run P w=.ok v w∧aZ w g.St r v:=by
 unfold yx at h
 split at h
 ·cases h
 ·rename_i hy
  rcases iQ with rfl|rfl
  ·simp only[Option.some.injEq]at h;subst h
   exact⟨_,by simp[binOp,Op.shift,hy],.int _ _ (ym _ _)⟩
  ·simp only[Option.some.injEq]at h;subst h
   exact⟨_,by simp[binOp,Op.shift,hy],.int _ _ (aal hx _)⟩
theorem NI:∀(x y:List UInt8),Op.bytesLess x y=yy x y
 |_,[]=>by cases ‹List UInt8› <;>rfl
 |[],_::_=>rfl
 |a::x,b::y=>by simp only[Op.bytesLess,yy,NI x y]
theorem WR{op:BinOp}{x y:ByteArray}{r:D}(t:TypeId)(h:CJ op x.data.toList y.data.toList=some r):
  ∃v,(binOp op t (.string x) (.string y)).run P w=.ok v w∧aZ w g.St r v:=by
 have hx:=ByteArray.toList_eq x
 have hy:=ByteArray.toList_eq y
 cases op<;>simp only[CJ,Option.some.injEq,reduceCtorEq]at h
 case add=>
  split at h
  ·rename_i hl
   cases h
   have e:(x++y).data.toList =x.data.toList++y.data.toList:=by simp
   have ic:x.size+y.size≤maxLen:=by rw[Array.length_toList,Array.length_toList]at hl;exact hl
   refine⟨.string (x++y),?_,?_⟩
   ·have hM:((maxLen:Nat):Int)=IntKind.i64.max:=by decide
    have:¬(((x.size+y.size:Nat):Int)>IntKind.i64.max):=by
     rw[←hM]
     omega
    simp only[binOp,Op.stringOp]
    rw[if_neg this]
    rfl
   ·rw[←e]
    refine .str _ ?_
    rw[ByteArray.size_append]
    exact ic
  ·cases h
 all_goals (subst h;exact⟨_,by simp[binOp,Op.stringOp,hx,hy,NI],.bool _⟩)
end
end Go.Proofs.Ytimbllcalipehaa.Ab
namespace Go.Proofs.Ytimbllcalipehaa.Ab
open Go Go.RowKit
section
variable{P:Program}{gl:Nat→Option D}{w0:World}{aq:S0}{e:Env}{a:Act}{w:World}{g:Gh}
theorem sY:∀{ks:List CK}{xs:List D},dQ ks xs=true→xs.length=ks.length
 |[],[],_=>rfl
 |[],_::_,h=>by simp[dQ]at h
 |k::ks,[],h=>by cases k<;>simp[dQ]at h
 |k::ks,x::xs,h=>by
  cases k<;>cases x<;>simp only[dQ,Bool.false_eq_true]at h<;>simp[sY h]
theorem z9:∀{ks ls:List CK}{xs:List D},dQ (ks++ls) xs=true→dQ ks (xs.take ks.length)=true∧dQ ls (xs.drop ks.length)=true
 |[],ls,xs,h=>by simpa[dQ]using h
 |k::ks,ls,[],h=>by cases k<;>simp[dQ]at h
 |k::ks,ls,x::xs,h=>by
  cases k<;>cases x<;>simp only[List.cons_append,dQ,Bool.false_eq_true]at h<;>simpa[dQ]using z9 h
theorem HE:∀(xs ys zk zl:List D),xs.length=ys.length→fK (xs++zk) (ys++zl)=(match fK xs ys with
  |some b=>(match fK zk zl with|some c=>some (b&&c)|none=>none)|none=>none)
 |[],[],zk,zl,_=>by
  simp only[List.nil_append,fK]
  cases fK zk zl<;>simp
 |x::xs,y::ys,zk,zl,h=>by
  simp only[List.cons_append,fK]
  rw[HE xs ys zk zl (by simpa using h)]
  cases mX x y<;>simp
  cases fK xs ys<;>simp
  cases fK zk zl<;>simp[Bool.and_assoc]
 |[],_::_,_,_,h=>by simp at h
 |_::_,[],_,_,h=>by simp at h
def kE(w:World)(St:Nat→Nat→Prop)(xs:List D)(vs:Array Value):Prop:=
 xs.length=vs.size∧∀(i:Nat)x v,xs[i]? =some x→vs[i]? =some v→aZ w St x v
theorem kE.agg{w:World}{St:Nat→Nat→Prop}{xs:List D}{vs:Array Value}(h:kE w St xs vs)(hf:∀d∈xs,d.one=true):aZ w St (.agg xs) (.agg vs):=.agg xs vs hf h.1 h.2
theorem kE.extract{w:World}{St:Nat→Nat→Prop}{xs:List D}{vs:Array Value}(h:kE w St xs vs)(off n:Nat):
  kE w St ((xs.drop off).take n) (vs.extract off (off+n)):=by
 refine⟨by simp[h.1];omega,fun i x v hx hv=>?_⟩
 rw[List.getElem?_take]at hx
 split at hx
 ·rename_i hi
  rw[List.getElem?_drop]at hx
  rw[Array.getElem?_extract]at hv
  split at hv
  ·exact h.2 (off+i) x v hx hv
  ·cases hv
 ·cases hx
theorem jP{t:TypeId}{n:Nat}(h:ea P t=some n)(w:World):(sizeOf t).run P w=.ok n w:=by
 unfold ea at h
 split at h
 ·rename_i i hi
  cases h
  simp[sizeOf,typeInfo,hi]
 ·cases h
theorem O4{t:TypeId}{b:Bool}(h:dO P t=some b)(w:World):(isAgg t).run P w=.ok b w:=by
 unfold dO at h
 split at h
 ·rename_i fs hu;cases h;simp[isAgg,run_underlying hu]
 ·rename_i n e' hu;cases h;simp[isAgg,run_underlying hu]
 ·rename_i d h1 h2 hu
  cases h
  simp only[isAgg,Sem.run_bind,run_underlying hu,Result.andThen_ok]
  cases d<;>first|rfl|(exact absurd hu (h1 _))|(exact absurd hu (h2 _ _))
 ·cases h
theorem Ft{t:TypeId}{b:Bool}{n:Nat}(h:kG P t=some (b,n)):dO P t=some b∧ea P t=some n∧(b=false→n=1):=by
 unfold kG at h
 split at h
 ·rename_i b' hb
  split at h
  ·rename_i i hi
   cases hc:(b'||Nat.beq i.size 1)with
   |false=>rw[hc]at h;cases h
   |true=>
    rw[hc]at h
    cases h
    refine⟨hb,by simp[ea,hi],fun hf=>?_⟩
    subst hf
    exact Nat.eq_of_beq_eq_true (by simpa using hc)
  ·cases h
 ·cases h
theorem YY{t:TypeId}{b:Bool}{n:Nat}(hb:dO P t=some b)(hn:ea P t=some n)(cs:Array Value)(off:Nat)(w:World):
  (part t cs off).run P w=if b then .ok (.agg (cs.extract off (off+n))) w else(match cs[off]? with|some v=>.ok v w|none=>.halt (.stuck "part: no such cell") w):=by
 unfold part
 simp only[Sem.run_bind,O4 hb,Result.andThen_ok]
 cases b
 ·simp only[Bool.false_eq_true,if_false]
  cases cs[off]? <;>rfl
 ·simp[jP hn]
def ir(w:World)(St:Nat→Nat→Prop)(b:Bool)(xs:List D)(v:Value):Prop:=
 if b then ∃cs,v=.agg cs∧kE w St xs cs else ∃x,xs=[x]∧aZ w St x v
theorem BZ{f:Nat}{t:TypeId}{ks:List CK}(h:shapeOf P f t=some ks):ea P t=some ks.length∧
  ((dO P t=some false∧ks.length=1)∨dO P t=some true):=by
 cases f with
 |zero=>simp[shapeOf]at h
 |succ f=>
  rw[shapeOf]at h
  split at h
  ·rename_i hu;split at h<;>cases h;rename_i hs;exact⟨hs,.inl ⟨by simp[dO,hu],rfl⟩⟩
  ·rename_i hu;split at h<;>cases h;rename_i hs;exact⟨hs,.inl ⟨by simp[dO,hu],rfl⟩⟩
  ·rename_i hu;split at h<;>cases h;rename_i hs;exact⟨hs,.inl ⟨by simp[dO,hu],rfl⟩⟩
  ·rename_i n e' hu
   split at h
   ·rename_i ni gV
    split at h
    ·rename_i s hs
     cases hc:Nat.beq s (n*ni.length)with
     |true=>
      rw[hc]at h;cases h
      have:(wQ ni n).length =n*ni.length:=by
       clear hc hu hs
       induction n with
       |zero=>simp[wQ]
       |succ n ih=>simp[wQ,ih,Nat.succ_mul];omega
      have h2:=Nat.eq_of_beq_eq_true hc
      exact⟨by rw[hs,this,h2],.inr (by simp[dO,hu])⟩
     |false=>rw[hc]at h;cases h
    ·cases h
   ·cases h
  ·rename_i fs hu
   cases aR:P.stoodInHeld t with
   |true=>rw[aR]at h;cases h
   |false=>
    rw[aR]at h
    simp only[cond_false]at h
    split at h
    ·rename_i ni gV
     split at h
     ·rename_i s hs
      cases hc:Nat.beq s ni.length with
      |true=>
       rw[hc]at h;cases h
       have h2:=Nat.eq_of_beq_eq_true hc
       exact⟨by rw[hs,h2],.inr (by simp[dO,hu])⟩
      |false=>rw[hc]at h;cases h
     ·cases h
    ·cases h
  ·cases h
theorem kE.valOf{xs:List D}{vs:Array Value}(h:kE w g.St xs vs){t:TypeId}{b:Bool}{n off:Nat}(hb:dO P t=some b)(hn:ea P t=some n)
  (h1:b=false→n=1)(hle:off+n≤xs.length):∃v,(part t vs off).run P w=.ok v w∧ir w g.St b ((xs.drop off).take n) v:=by
 rw[YY hb hn]
 cases b with
 |true=>exact⟨_,by simp;rfl,by simp only[ir,if_true];exact⟨_,rfl,h.extract off n⟩⟩
 |false=>
  have qC:=h1 rfl
  subst qC
  have aK:off<xs.length:=by omega
  have A5:off<vs.size:=by rw[←h.1];exact aK
  refine⟨vs[off],by simp[A5],?_⟩
  simp only[ir,Bool.false_eq_true,if_false]
  refine⟨xs[off],?_,h.2 off _ _ (by simp) (by simp)⟩
  rw[List.drop_eq_getElem_cons aK,List.take_succ_cons,List.take_zero]
theorem Ns(d:Nat)(go:TypeId→Option (List CK))(aM:∀t ks,go t=some ks→ea P t=some ks.length∧((dO P t=some false∧ks.length=1)∨dO P t=some true))
  (ih:∀(t:TypeId)(ks:List CK)(b:Bool)(xs ys:List D)(vx vy:Value)(r:Bool),go t=some ks→dO P t=some b→
    dQ ks xs=true→dQ ks ys=true→ir w g.St b xs vx→ir w g.St b ys vy→fK xs ys=some r→(Op.equalIn d t vx vy).run P w=.ok r w)
  {xs ys:List D}{cx cy:Array Value}(rx:kE w g.St xs cx)(ry:kE w g.St ys cy):∀(fs:List Field)(off:Nat)(ks:List CK)(r:Bool),z8 go fs off=some ks→off≤xs.length→off≤ys.length→
   dQ ks (xs.drop off)=true→dQ ks (ys.drop off)=true→fK (xs.drop off) (ys.drop off)=some r→(Op.eqFields d cx cy fs).run P w=.ok r w
 |[],off,ks,r,h,_,_,hx,hy,he=>by
  simp only[z8,Option.some.injEq]at h
  subst h
  have h1:=sY hx
  have h2:=sY hy
  rw[List.eq_nil_of_length_eq_zero h1,List.eq_nil_of_length_eq_zero h2]at he
  simp only[fK,Option.some.injEq]at he
  subst he
  rfl
 |f::fs,off,ks,r,h,hox,hoy,hx,hy,he=>by
  simp only[z8]at h
  split at h
  ·rename_i kf GC
   cases hc:(f.name != "_" &&Nat.beq f.offset off)with
   |false=>rw[hc]at h;cases h
   |true=>
    rw[hc]at h
    simp only[cond_true]at h
    split at h
    ·rename_i kr Ls
     cases h
     simp only[Bool.and_eq_true,bne_iff_ne,ne_eq]at hc
     have y1:=Nat.eq_of_beq_eq_true hc.2
     obtain⟨iA,xw⟩:=z9 hx
     obtain⟨zm,zn⟩:=z9 hy
     obtain⟨hs,zo⟩:=aM _ _ GC
     have lx:=sY hx
     have ly:=sY hy
     simp only[List.length_drop,List.length_append]at lx ly
     rw[←List.take_append_drop kf.length (xs.drop off),←List.take_append_drop kf.length (ys.drop off),
      HE _ _ _ _ (by simp;omega)]at he
     split at he
     ·rename_i b1 jj
      split at he
      ·rename_i b2 dV
       cases he
       have rest:=Ns d go aM ih rx ry fs (off+kf.length) kr b2 Ls (by omega) (by omega) (by rw[List.drop_drop]at xw;exact xw) (by rw[List.drop_drop]at zn;exact zn)
        (by rw[List.drop_drop,List.drop_drop]at dV;exact dV)
       obtain⟨b,hb,h1⟩:∃b,dO P f.type=some b∧(b=false→kf.length=1):=by
        rcases zo with⟨h1,h2⟩|h1
        ·exact⟨false,h1,fun _=>h2⟩
        ·exact⟨true,h1,by simp⟩
       obtain⟨vx,px,qx⟩:=rx.valOf (off:=f.offset) hb hs h1 (by omega)
       obtain⟨vy,py,qy⟩:=ry.valOf (off:=f.offset) hb hs h1 (by omega)
       rw[y1]at qx qy
       have hq:=ih f.type kf b _ _ vx vy b1 GC hb iA zm qx qy jj
       simp only[Op.eqFields,if_pos hc.1,Sem.run_bind,px,py,hq,Result.andThen_ok]
       cases b1
       ·simp
       ·simpa using rest
      ·cases he
     ·cases he
    ·cases h
  ·cases h
theorem Nz(d:Nat)(t:TypeId)(ks:List CK)(b:Bool)(hb:dO P t=some b)(hs:ea P t=some ks.length)(h1:b=false→ks.length=1)
  (ih:∀(xs ys:List D)(vx vy:Value)(r:Bool),dQ ks xs=true→dQ ks ys=true→ir w g.St b xs vx→ir w g.St b ys vy→fK xs ys=some r→
    (Op.equalIn d t vx vy).run P w=.ok r w)
  {xs ys:List D}{cx cy:Array Value}(rx:kE w g.St xs cx)(ry:kE w g.St ys cy):∀(n i:Nat)(r:Bool),dQ (wQ ks n) (xs.drop (i*ks.length))=true→
   dQ (wQ ks n) (ys.drop (i*ks.length))=true→fK (xs.drop (i*ks.length)) (ys.drop (i*ks.length))=some r→
   (Op.eqItems d t ks.length cx cy (List.range' i n)).run P w=.ok r w
 |0,i,r,hx,hy,he=>by
  rw[List.eq_nil_of_length_eq_zero (sY hx),List.eq_nil_of_length_eq_zero (sY hy)]at he
  simp only[fK,Option.some.injEq]at he
  subst he
  rfl
 |n+1,i,r,hx,hy,he=>by
  simp only[wQ]at hx hy
  obtain⟨iA,xw⟩:=z9 hx
  obtain⟨zm,zn⟩:=z9 hy
  have lx:=sY hx
  have ly:=sY hy
  simp only[List.length_drop,List.length_append]at lx ly
  rw[←List.take_append_drop ks.length (xs.drop (i*ks.length)),←List.take_append_drop ks.length (ys.drop (i*ks.length)),
   HE _ _ _ _ (by simp;omega)]at he
  split at he
  ·rename_i b1 jj
   split at he
   ·rename_i b2 dV
    cases he
    have e:i*ks.length+ks.length=(i+1)*ks.length:=by rw[Nat.succ_mul]
    have rest:=Nz d t ks b hb hs h1 ih rx ry n (i+1) b2 (by rw[List.drop_drop,e]at xw;exact xw) (by rw[List.drop_drop,e]at zn;exact zn)
     (by rw[List.drop_drop,List.drop_drop,e]at dV;exact dV)
    by_cases hz:ks.length=0∧xs.length<i*ks.length
    ·rw[hz.1]at hz;omega
    have kx:i*ks.length+ks.length≤xs.length:=by
     by_cases h0:ks.length=0
     ·rw[h0];omega
     ·omega
    have ky:i*ks.length+ks.length≤ys.length:=by
     by_cases h0:ks.length=0
     ·rw[h0];omega
     ·omega
    obtain⟨vx,px,qx⟩:=rx.valOf (off:=i*ks.length) hb hs h1 kx
    obtain⟨vy,py,qy⟩:=ry.valOf (off:=i*ks.length) hb hs h1 ky
    have hq:=ih _ _ vx vy b1 iA zm qx qy jj
    simp only[List.range'_succ,Op.eqItems,Sem.run_bind,px,py,hq,Result.andThen_ok]
    cases b1
    ·simp
    ·simpa using rest
   ·cases he
  ·cases he
theorem HJ:∀(f d:Nat)(t:TypeId)(ks:List CK)(b:Bool)(xs ys:List D)(vx vy:Value)(r:Bool),shapeOf P f t=some ks→f≤d→dO P t=some b→
  dQ ks xs=true→dQ ks ys=true→ir w g.St b xs vx→ir w g.St b ys vy→fK xs ys=some r→(Op.equalIn d t vx vy).run P w=.ok r w:=by
 intro f
 induction f with
 |zero=>intro d t ks b xs ys vx vy r h;simp[shapeOf]at h
 |succ f ih=>
  intro d t ks b xs ys vx vy r aU hd hb hx hy rx ry he
  obtain⟨d,rfl⟩:∃d',d=d'+1:=⟨d-1,by omega⟩
  have aM:=BZ aU
  rw[shapeOf]at aU
  split at aU
  ·
   rename_i hu
   split at aU<;>cases aU
   have:b=false:=by simpa[dO,hu]using hb.symm
   subst this
   simp only[ir,Bool.false_eq_true,if_false]at rx ry
   obtain⟨x,rfl,rx⟩:=rx
   obtain⟨y,rfl,ry⟩:=ry
   cases x<;>simp[dQ]at hx
   cases y<;>simp[dQ]at hy
   cases rx;cases ry
   rw[run_equalIn_bool' w d t _ _ hu]
   simp[fK,mX]at he
   rw[←he]
  ·rename_i k hu
   split at aU<;>cases aU
   have:b=false:=by simpa[dO,hu]using hb.symm
   subst this
   simp only[ir,Bool.false_eq_true,if_false]at rx ry
   obtain⟨x,rfl,rx⟩:=rx
   obtain⟨y,rfl,ry⟩:=ry
   cases x<;>simp[dQ]at hx
   cases y<;>simp[dQ]at hy
   rename_i k1 n1 k2 n2
   cases rx;cases ry
   by_cases hk:k1=k2
   ·subst hk
    rw[run_equalIn_int w d t _ k _ _ hu]
    simp[fK,mX]at he
    rw[←he]
   ·simp[fK,mX,hk]at he
  ·rename_i hu
   split at aU<;>cases aU
   have:b=false:=by simpa[dO,hu]using hb.symm
   subst this
   simp only[ir,Bool.false_eq_true,if_false]at rx ry
   obtain⟨x,rfl,rx⟩:=rx
   obtain⟨y,rfl,ry⟩:=ry
   cases x<;>simp[dQ]at hx
   cases y<;>simp[dQ]at hy
   cases rx with|str s1 _=>
   cases ry with|str s2 _=>
   rw[run_equalIn_string w d t _ _ hu]
   rw[ByteArray.toList_eq,ByteArray.toList_eq]
   simp only[fK,mX,Bool.and_true,Option.some.injEq]at he
   rw[←he]
  ·
   rename_i n e' hu
   split at aU
   ·rename_i ni gV
    split at aU
    ·rename_i s hs
     cases hc:Nat.beq s (n*ni.length)with
     |false=>rw[hc]at aU;cases aU
     |true=>
      rw[hc]at aU;cases aU
      have:b=true:=by simpa[dO,hu]using hb.symm
      subst this
      simp only[ir,if_true]at rx ry
      obtain⟨cx,rfl,rx⟩:=rx
      obtain⟨cy,rfl,ry⟩:=ry
      obtain⟨lq,zo⟩:=BZ gV
      obtain⟨b,ei,h1⟩:∃b,dO P e'=some b∧(b=false→ni.length=1):=by
       rcases zo with⟨h1,h2⟩|h1
       ·exact⟨false,h1,fun _=>h2⟩
       ·exact⟨true,h1,by simp⟩
      obtain⟨i,hi,his⟩:∃i,P.info? e'=some i∧P.cellsOf e'=ni.length:=by
       unfold ea at lq
       split at lq
       ·rename_i i hi;exact⟨i,hi,by simpa[Program.cellsOf,hi]using lq⟩
       ·cases lq
      rw[run_equalIn_array w d _ _ hu hi,his,List.range_eq_range']
      exact Nz d e' ni b ei lq h1 (fun xs ys vx vy r=>ih d e' ni b xs ys vx vy r gV (by omega) ei) rx ry n 0 r (by simpa using hx) (by simpa using hy) (by simpa using he)
    ·cases aU
   ·cases aU
  ·
   rename_i fs hu
   cases aR:P.stoodInHeld t with
   |true=>rw[aR]at aU;cases aU
   |false=>
    rw[aR]at aU
    simp only[cond_false]at aU
    split at aU
    ·rename_i ni gV
     split at aU
     ·rename_i s hs
      cases hc:Nat.beq s ni.length with
      |false=>rw[hc]at aU;cases aU
      |true=>
       rw[hc]at aU;cases aU
       have:b=true:=by simpa[dO,hu]using hb.symm
       subst this
       simp only[ir,if_true]at rx ry
       obtain⟨cx,rfl,rx⟩:=rx
       obtain⟨cy,rfl,ry⟩:=ry
       have Br:P.fieldsOf t=fs:=by simp[Program.fieldsOf,hu]
       rw[run_equalIn_struct w d t _ _ (by rw[Br];exact hu) aR,Br]
       exact Ns d (shapeOf P f) (fun t ks h=>BZ h) (fun t ks b xs ys vx vy r h=>ih d t ks b xs ys vx vy r h (by omega)) rx ry fs.toList 0 _ r gV (Nat.zero_le _) (Nat.zero_le _) (by simpa using hx) (by simpa using hy) (by simpa using he)
     ·cases aU
    ·cases aU
  ·cases aU
end
end Go.Proofs.Ytimbllcalipehaa.Ab
namespace Go.Proofs.Ytimbllcalipehaa.Ab
open Go Go.RowKit
theorem pY(b o n:Nat):(⟨b,o,none⟩:Addr).add n=⟨b,o+n,none⟩:=by unfold Addr.add;split<;>simp_all
section
variable{P:Program}{gl:Nat→Option D}{w0:World}{aq:S0}{e:Env}{a:Act}{w:World}{g:Gh}
theorem jt(w:World)(o:Obj)(b:Nat)(h:b<w.heap.size):(w.alloc o).heap[b]? =w.heap[b]? :=by
 show(w.heap.push o)[b]? =_
 rw[Array.getElem?_push,if_neg (Nat.ne_of_lt h)]
theorem wH(w:World)(o:Obj):(w.alloc o).heap[w.heap.size]? =some o:=by
 show(w.heap.push o)[w.heap.size]? =_
 simp
theorem B4(w:World)(o:Obj):(w.alloc o).heap.size =w.heap.size+1:=by
 show(w.heap.push o).size =_
 simp
theorem HF(w:World)(o:Obj)(b off:Nat)(h:b<w.heap.size):(w.alloc o).cell? ⟨b,off,none⟩=w.cell? ⟨b,off,none⟩:=
 World.cell?_of_block (jt w o b h)
theorem Inv.pv(hI:Inv gl w0 aq e a w g){b o:Nat}(h:g.St b o):b<w.heap.size:=(hI.cG b o h).2.2
theorem eN.lt{base:Nat}{p:Pos}{b a c:Nat}(h:eN base w g p b a c):b<w.heap.size:=by
 obtain⟨_,_,_,⟨cur,e,h,_⟩,_⟩:=h
 exact(Array.getElem?_eq_some_iff.1 h).1
theorem bp.Rr(hI:Inv gl w0 aq e a w g){o:Oper}{ob:Obj}{bx:af}{id:Nat}{sl:Slot}{vl:Value}{k:Slot→List af→Prop}
  (fl:e.boxes[id]? =some .none)
  (ba:(execOp a.eval o).run P w=.ok (.value vl) (w.alloc ob))
  (jI:∀(g':Gh)(O:Nat→Nat→Nat→Nat→Prop),g'.bx[id]? =some (some w.heap.size)→bW w0.heap.size (w.alloc ob) g' O sl vl)
  (rep:∀(g':Gh),Ext w0.heap.size w g (w.alloc ob) g' (fun _=>False)→w0.heap.size≤w.heap.size→oz w0.heap.size (w.alloc ob) g' id bx w.heap.size)
  (hk:k sl (e.boxes.set id bx)):bp P gl w0 aq e.ai o a w k:=by
 intro next Q hn
 unfold Oper.wp
 rw[ba]
 have hle:w0.heap.size≤w.heap.size:=hI.below.size
 have KH:id<e.boxes.length:=(List.getElem?_eq_some_iff.1 fl).1
 have aeX:∀an,g.bx[id]? ≠some (some an):=fun an h=>by
  exact hI.boxes id .none an fl h
 have ef:∀b,some b∈g.bx.set id (some w.heap.size)→some b∈g.bx∨b=w.heap.size:=fun b h=>by
  rcases List.mem_or_eq_of_mem_set h with h|h
  ·exact .inl h
  ·exact .inr (by simpa using h)
 have hX:Ext w0.heap.size w g (w.alloc ob) {g with bx:=g.bx.set id (some w.heap.size)} (fun _=>False):=by
  refine⟨fun D o hb ho h=>⟨(jt w _ D (fT h)).trans h,fun hm=>(by
   rcases ef D hm with h2|h2
   ·exact hb h2
   ·have:=fT h;omega),ho,fun _ h=>h⟩,fun b o h=>⟨h,.ri (jt w _ b (hI.pv h))⟩,fun b o h=>HF w _ b o (by omega),fun i an h=>?_,fun p b a c _ ho=>?_,.of fun b hb=>jt w _ b hb⟩
  ·simp only
   rw[List.getElem?_set_ne (fun hh=>aeX an (by rw[hh];exact h))]
   exact h
  ·have aK:=ho.lt
   obtain⟨h1,h2,h3,⟨cur,ty,h4,lu⟩,h5⟩:=ho
   refine⟨⟨h1,h2,?_,⟨cur,ty,(jt w _ b aK).trans h4,lu⟩,h5⟩,fun _=>jt w _ b aK⟩
   intro hm
   rcases ef b hm with h|h
   ·exact h3 h
   ·omega
 refine hn sl _ _ _ {g with bx:=g.bx.set id (some w.heap.size)} (hI.step (lost:=fun p=>∃d j,o.dst=some d∧p=.s d j)
  ⟨hX.df,hX.st,hX.bs,hX.bx,fun p b a c _ ho=>hX.own p b a c (fun h=>h) ho,hX.sh⟩ ((Below.refl _ _).alloc hle _) rfl
  (fun i x hx hd=>⟨x,hx,.inl ⟨rfl,fun j=>?_⟩⟩) ?_ (by simp[hI.ff]) ?_ ?_ ?_ ?_) hk
 ·rintro⟨d,j',h1,h2⟩;cases h2;exact hd h1
 ·intro d _
  refine jI _ _ ?_
  simp only
  rw[List.getElem?_set_self (by rw[hI.ff];exact KH)]
 ·intro b eu an h1 h2
  simp only at h2
  by_cases hb:id=b
  ·subst hb
   rw[List.getElem?_set_self KH]at h1
   rw[List.getElem?_set_self (by rw[hI.ff];exact KH)]at h2
   simp only[Option.some.injEq]at h1 h2
   subst h1 h2
   exact rep _ hX hle
  ·rw[List.getElem?_set_ne hb]at h1 h2
   have Df:=(hI.dj an (List.mem_of_getElem? h2)).2
   exact hX.box (fun _ h=>h) (jt w _ an Df) (hI.boxes b eu an h1 h2)
 ·intro i j an h1 h2
  simp only at h1 h2
  rw[List.getElem?_set]at h1 h2
  split at h1<;>split at h2
  ·omega
  ·rename_i hi hj
   split at h1
   ·simp only[Option.some.injEq]at h1
    subst h1
    have:=(hI.dj _ (List.mem_of_getElem? h2)).2
    omega
   ·cases h1
  ·rename_i hi hj
   split at h2
   ·simp only[Option.some.injEq]at h2
    subst h2
    have:=(hI.dj _ (List.mem_of_getElem? h1)).2
    omega
   ·cases h2
  ·exact hI.nodup i j an h1 h2
 ·intro b hb
  have hs:(w.alloc ob).heap.size =w.heap.size+1:=B4 w _
  rw[hs]
  rcases ef b hb with hb|rfl
  ·have:=hI.dj b hb;omega
  ·omega
 ·intro b o h
  have hs:(w.alloc ob).heap.size =w.heap.size+1:=B4 w _
  have h1:=hI.cG b o h
  refine⟨h1.1,fun hm=>?_,by omega⟩
  rcases ef b hm with h|h
  ·exact h1.2.1 h
  ·omega
theorem bp.FL(hI:Inv gl w0 aq e a w g){o:Oper}{cells:Array Value}{t:TypeId}{bx:af}{id:Nat}{k:Slot→List af→Prop}
  (fl:e.boxes[id]? =some .none)
  (ba:(execOp a.eval o).run P w=.ok (.value (.pointer (some ⟨w.heap.size,0,none⟩))) (w.alloc (.cells cells t)))
  (cg:∀y∈cells,y.oneCell'=true)
  (rep:∀(w':World)(g':Gh)(O:Nat→Nat→Nat→Nat→Prop),Ext w0.heap.size w g w' g' (fun _=>False)→(match(generalizing:=false) bx with
    | .none =>False
    | .map _=>False
    | .cells cs=>cs.length≤cells.size∧∀(j:Nat)x y,cs[j]? =some x→cells[j]? =some y→aJ w' g'.St w0.heap.size (O j) x y
    | .one s=>0<cells.size∧∀y,cells[0]? =some y→bW w0.heap.size w' g' (fun _=>O 0) s y))
  (hk:k (.p id 0) (e.boxes.set id bx)):bp P gl w0 aq e.ai o a w k:=by
 refine bp.Rr hI fl ba (fun g' O hb=>.p _ _ _ _ hb) (fun g' hX hle=>?_) hk
 have:=rep _ g' (rJ w0.heap.size (w.alloc (.cells cells t)) g' id) hX
 cases bx with
 |none=>exact this.elim
 |map l=>exact this.elim
 |cells cs=>exact⟨hle,cells,t,wH w _,fun j y _ h=>cg y (Array.mem_of_getElem? h),this⟩
 |one s=>exact⟨hle,cells,t,wH w _,fun j y _ h=>cg y (Array.mem_of_getElem? h),this⟩
theorem Inv.Rs(hI:Inv gl w0 aq e a w g){b an:Nat}{eu:af}{w':World}{dst:Option Nat}{s:Slot}{v:Value}{ai:List Slot}
  (rE u7:Nat→Prop){g':Gh}(jk:g'.St=g.St)(ug:g'.bx=g.bx)
  (rW:∀p oA,(∀i j,p=.s i j→¬rE i)→(∀j,p=.b b j→¬u7 j)→(∀d j,dst=some d→p≠.s d j)→g.ow oA=some p→g'.ow oA=some p)(Lu:∀D,g.ow D=none→g'.ow D=none)
  (hb:g.bx[b]? =some (some an))
  (eb:∀k,k≠an→w'.heap[k]? =w.heap[k]?)(aU:∀c ty,w.heap[an]? =some (.cells c ty (0,0))→∃c' rU,w'.heap[an]? =some (.cells c' rU (0,0))∧c'.size=c.size)(aM:w'.heap.size=w.heap.size)
  (vR:w'.os=w.os∧w'.tape=w.tape∧w'.output=w.output)
  (hlen:ai.length=e.ai.length)
  (hs:∀(i:Nat)x,ai[i]? =some x→dst≠some i→∃y,e.ai[i]? =some y∧((x=y∧¬rE i)∨x=y.aa))
  (rep:Ext w0.heap.size w g w' g' (fun p=>(∃i j,p=.s i j∧rE i)∨(∃j,p=.b b j∧u7 j)∨(∃d j,dst=some d∧p=.s d j))→w0.heap.size≤an→oz w0.heap.size w' g' b eu an)
  (m8:Ext w0.heap.size w g w' g' (fun p=>(∃i j,p=.s i j∧rE i)∨(∃j,p=.b b j∧u7 j)∨(∃d j,dst=some d∧p=.s d j))→
    ∀d,dst=some d→bW w0.heap.size w' g' (fe w0.heap.size w' g' d) s v):
  Inv gl w0 aq ⟨cq ai dst s,e.boxes.set b eu⟩ (a.put dst v) w' g':=by
 have uh:some an∈g.bx:=List.mem_of_getElem? hb
 have dP:=hI.dj an uh
 have hX:Ext w0.heap.size w g w' g' (fun p=>(∃i j,p=.s i j∧rE i)∨(∃j,p=.b b j∧u7 j)∨(∃d j,dst=some d∧p=.s d j)):=by
  refine⟨fun D o gp ho h=>⟨(eb D (fun e=>gp (by rw[e];exact uh))).trans h,by rw[ug];exact gp,Lu D ho,fun x hx=>by rw[jk]at hx;exact hx⟩,fun b' o h=>⟨by rw[jk];exact h,.ri (eb b' ?_)⟩,fun b' o h=>World.cell?_of_block (eb b' (by omega)),fun i x h=>by rw[ug];exact h,?_,fun b' c ty _ ei=>(by
   by_cases eh:b'=an
   ·subst eh;exact aU c ty ei
   ·exact⟨c,ty,(eb b' eh).trans ei,rfl⟩)⟩
  ·rintro rfl;exact(hI.cG b' o h).2.1 uh
  ·rintro p b' a' c' hl ⟨h1,h2,h3,⟨cur,ty,h4,lu⟩,h5⟩
   exact⟨⟨rW p b' (fun i j h ic=>hl (.inl ⟨i,j,h,ic⟩)) (fun j h ic=>hl (.inr (.inl ⟨j,h,ic⟩))) (fun d j h1 h2=>hl (.inr (.inr ⟨d,j,h1,h2⟩))) h1,h2,by rw[ug];exact h3,
    ⟨cur,ty,(eb b' (fun h=>h3 (h▸uh))).trans h4,lu⟩,fun o ho=>by rw[jk];exact h5 o ho⟩,fun _=>eb b' (fun h=>h3 (h▸uh))⟩
 have om:Below w0.heap.size w w':=⟨vR.1,vR.2.1,vR.2.2,by omega,fun k hk=>eb k (by omega)⟩
 refine hI.step hX om hlen (fun i x hx hd=>?_) (m8 hX) (by rw[ug];simp[hI.ff]) ?_ (by rw[ug];exact hI.nodup) ?_ ?_
 ·obtain⟨y,hy,⟨rfl,hl⟩|h⟩:=hs i x hx hd
  ·refine⟨x,hy,.inl ⟨rfl,fun j=>?_⟩⟩
   rintro(⟨i',j',h,ic⟩|⟨j',h,_⟩|⟨d,j',h1,h2⟩)
   ·cases h;exact hl ic
   ·cases h
   ·cases h2;exact hd h1
  ·exact⟨y,hy,.inr h⟩
 ·intro b' bx oA h1 h2
  rw[ug]at h2
  rw[List.getElem?_set]at h1
  by_cases eh:b=b'
  ·subst eh
   rw[hb]at h2;cases h2
   simp only[↓reduceIte]at h1
   split at h1
   ·cases h1
    exact rep hX dP.1
   ·cases h1
  ·simp only[eh,↓reduceIte]at h1
   have bg:oA≠an:=by
    rintro rfl
    exact eh (hI.nodup _ _ _ hb h2)
   refine hX.box (fun j=>?_) (eb oA bg) (hI.boxes b' bx oA h1 h2)
   rintro(⟨i',j',h,ic⟩|⟨j',h,_⟩|⟨d,j',h1,h2⟩)
   ·cases h
   ·cases h;exact eh rfl
   ·cases h2
 ·intro x hx;rw[ug]at hx;rw[aM];exact hI.dj x hx
 ·intro b' o h;rw[jk]at h;rw[ug,aM];exact hI.cG b' o h
theorem Inv.JS(hI:Inv gl w0 aq e a w g){b an:Nat}{eu:af}{w':World}{cells:Array Value}{t:TypeId}{dst:Option Nat}{s:Slot}{v:Value}{ai:List Slot}
  (rE u7:Nat→Prop){g':Gh}(jk:g'.St=g.St)(ug:g'.bx=g.bx)
  (rW:∀p oA,(∀i j,p=.s i j→¬rE i)→(∀j,p=.b b j→¬u7 j)→(∀d j,dst=some d→p≠.s d j)→g.ow oA=some p→g'.ow oA=some p)(Lu:∀D,g.ow D=none→g'.ow D=none)
  (hb:g.bx[b]? =some (some an))
  (cg:∀(j:Nat)y,j<eu.size→cells[j]? =some y→y.oneCell'=true)
  (dh:w'.heap[an]? =some (.cells cells t (0,0)))(bS:∀c ty,w.heap[an]? =some (.cells c ty (0,0))→cells.size=c.size)(eb:∀k,k≠an→w'.heap[k]? =w.heap[k]?)(aM:w'.heap.size=w.heap.size)
  (vR:w'.os=w.os∧w'.tape=w.tape∧w'.output=w.output)
  (hlen:ai.length=e.ai.length)
  (hs:∀(i:Nat)x,ai[i]? =some x→dst≠some i→∃y,e.ai[i]? =some y∧((x=y∧¬rE i)∨x=y.aa))
  (rep:Ext w0.heap.size w g w' g' (fun p=>(∃i j,p=.s i j∧rE i)∨(∃j,p=.b b j∧u7 j)∨(∃d j,dst=some d∧p=.s d j))→(match(generalizing:=false) eu with
    | .none =>False
    | .map _=>False
    | .cells cs=>cs.length≤cells.size∧∀(j:Nat)x y,cs[j]? =some x→cells[j]? =some y→aJ w' g'.St w0.heap.size (rJ w0.heap.size w' g' b j) x y
    | .one s=>0<cells.size∧∀y,cells[0]? =some y→bW w0.heap.size w' g' (fun _=>rJ w0.heap.size w' g' b 0) s y))
  (m8:Ext w0.heap.size w g w' g' (fun p=>(∃i j,p=.s i j∧rE i)∨(∃j,p=.b b j∧u7 j)∨(∃d j,dst=some d∧p=.s d j))→
    ∀d,dst=some d→bW w0.heap.size w' g' (fe w0.heap.size w' g' d) s v):
  Inv gl w0 aq ⟨cq ai dst s,e.boxes.set b eu⟩ (a.put dst v) w' g':=by
 refine hI.Rs rE u7 jk ug rW Lu hb eb (fun c ty h=>⟨cells,t,dh,bS c ty h⟩) aM vR hlen hs (fun hX hle=>?_) m8
 have:=rep hX
 cases eu with
 |none=>exact this.elim
 |map l=>exact this.elim
 |cells cs=>exact⟨hle,cells,t,dh,cg,this⟩
 |one s=>exact⟨hle,cells,t,dh,cg,this⟩
end
end Go.Proofs.Ytimbllcalipehaa.Ab
namespace Go.Proofs.Ytimbllcalipehaa.Ab
open Go Go.RowKit
section
variable{P:Program}{gl:Nat→Option D}{w0:World}{aq:S0}{e:Env}{a:Act}{w:World}{g:Gh}
theorem aZ.rn{St:Nat→Nat→Prop}{k:IntKind}{n:Int}{v:Value}(h:aZ w St (.int k n) v):v=.int k n∧gm k n=true:=by
 cases h with
 |int _ _ h=>exact⟨rfl,h⟩
theorem aZ.uL{St:Nat→Nat→Prop}{l:List UInt8}{v:Value}(h:aZ w St (.str l) v):∃s,v=.string s∧l=s.data.toList∧s.size≤maxLen:=by
 cases h with
 |str s h=>exact⟨s,rfl,rfl,h⟩
theorem aZ.tf{St:Nat→Nat→Prop}{b:Bool}{v:Value}(h:aZ w St (.bool b) v):v=.bool b:=by
 cases h with
 |bool _=>rfl
theorem aZ.wR{St:Nat→Nat→Prop}{ds:List D}{v:Value}(h:aZ w St (.agg ds) v):∃vs,v=.agg vs∧kE w St ds vs∧∀d∈ds,d.one=true:=by
 cases h with
 |agg _ vs hf hl hc=>exact⟨vs,rfl,⟨hl,hc⟩,hf⟩
theorem EC(op:BinOp)(t:TypeId)(x y:Operand)(u v:Value)(h:(match u,v with| .nilIface,.nilIface =>False| .agg _,.agg _=>False|_,_=>True)):
  (eqGuard op t x y u v).run P w=.ok () w:=by
 cases op<;>(try rfl)<;>(unfold eqGuard;simp only[Bool.not_true,Bool.false_eq_true,if_false];cases u<;>cases v<;>first|rfl|exact h.elim)
theorem YZ(hI:Inv gl w0 aq e a w g){o:Oper}{op:BinOp}{t u:TypeId}{x y:Operand}(ho:o.op=.binOp op t x y u){k:Slot→List af→Prop}
  (h:ab (ag (Cq P op t) op ((Ab.aV gl e x).aa).bP ((Ab.aV gl e y).aa).bP) fun r=>k (.v r) e.boxes):bp P gl w0 aq e.ai o a w k:=by
 obtain⟨r,hr,hk⟩:=aH h
 have hx:=hI.iq x
 have hy:=hI.iq y
 generalize ((Ab.aV gl e x).aa).bP =sx at hr hx
 generalize ((Ab.aV gl e y).aa).bP =sy at hr hy
 have key:∃v rd,r=.d rd∧(eqGuard op t x y (a.eval x) (a.eval y)).run P w=.ok () w∧(binOp op t (a.eval x) (a.eval y)).run P w=.ok v w∧aZ w g.St rd v:=by
  cases sx<;>simp only[ag,reduceCtorEq]at hr
  rename_i dx
  cases sy<;>simp only[reduceCtorEq]at hr
  rename_i dy
  replace hx:=hx.data
  replace hy:=hy.data
  split at hr
  ·rename_i rd ev
   cases hr
   cases dx<;>cases dy<;>simp only[fg,reduceCtorEq]at ev
   ·
    rename_i b1 b2
    split at ev
    ·rename_i aU
     rw[hx.tf,hy.tf]
     have hg:=EC (P:=P) (w:=w) op t x y (.bool b1) (.bool b2) trivial
     have:∃f,shapeOf P f t=some [.bool]∧f≤10000∧dO P t=some false:=by
      unfold Cq at aU
      split at aU
      ·cases hq:P.eqGuardType P.depth t<;>rw[hq]at aU<;>simp only[cond_true,cond_false,reduceCtorEq]at aU
       split at aU
       ·split at aU
        ·simp only[Option.some.injEq,Prod.mk.injEq]at aU
         obtain⟨rfl,rfl⟩:=aU
         exact⟨20,by assumption,by decide,by assumption⟩
        ·cases aU
       ·split at aU<;>cases aU
      ·cases hq:P.eqGuardType P.depth t<;>rw[hq]at aU<;>simp only[cond_true,cond_false,reduceCtorEq]at aU
       split at aU
       ·split at aU
        ·simp only[Option.some.injEq,Prod.mk.injEq]at aU
         obtain⟨rfl,rfl⟩:=aU
         exact⟨20,by assumption,by decide,by assumption⟩
        ·cases aU
       ·split at aU<;>cases aU
      ·cases aU
     obtain⟨f,h1,h2,h3⟩:=this
     have hq:=HJ (w:=w) (g:=g) f 10000 t _ false [.bool b1] [.bool b2] (.bool b1) (.bool b2) (b1==b2) h1 h2 h3 rfl rfl
      (by simp only[ir,Bool.false_eq_true,if_false];exact⟨_,rfl,.bool _⟩) (by simp only[ir,Bool.false_eq_true,if_false];exact⟨_,rfl,.bool _⟩) (by simp[fK,mX])
     split at ev
     ·cases ev;exact⟨_,_,rfl,hg,by simp[binOp,Op.equal,Op.maxDepth,hq],.bool _⟩
     ·cases ev;exact⟨_,_,rfl,hg,by simp[binOp,Op.equal,Op.maxDepth,hq],.bool _⟩
     ·cases ev
    ·cases ev
   ·
    rename_i k1 n1 k2 n2
    obtain⟨ex,wx⟩:=hx.rn
    obtain⟨ey,wy⟩:=hy.rn
    rw[ex,ey]
    have hg:=EC (P:=P) (w:=w) op t x y (.int k1 n1) (.int k2 n2) trivial
    split at ev
    ·obtain⟨v,hv,gA⟩:=NW (P:=P) (w:=w) (g:=g) (k':=k2) t (.inl rfl) wx ev
     exact⟨v,rd,rfl,hg,hv,gA⟩
    ·obtain⟨v,hv,gA⟩:=NW (P:=P) (w:=w) (g:=g) (k':=k2) t (.inr rfl) wx ev
     exact⟨v,rd,rfl,hg,hv,gA⟩
    ·rename_i h1 h2
     split at ev
     ·rename_i jJ
      subst jJ
      obtain⟨v,hv,gA⟩:=WQ (P:=P) (w:=w) (g:=g) t ⟨h1,h2⟩ wx wy ev
      exact⟨v,rd,rfl,hg,hv,gA⟩
     ·cases ev
   ·
    obtain⟨s1,e1,f1,_⟩:=hx.uL
    obtain⟨s2,e2,f2,_⟩:=hy.uL
    rw[e1,e2]
    rw[f1,f2]at ev
    obtain⟨v,hv,gA⟩:=WR (P:=P) (w:=w) (g:=g) t ev
    exact⟨v,rd,rfl,EC op t x y _ _ trivial,hv,gA⟩
   ·
    rename_i l1 l2
    split at ev
    ·rename_i ks aU
     obtain⟨v1,e1,r1,_⟩:=hx.wR
     obtain⟨v2,e2,r2,_⟩:=hy.wR
     rw[e1,e2]
     cases kj:(dQ ks l1&&dQ ks l2)with
     |false=>rw[kj]at ev;cases ev
     |true=>
      rw[kj]at ev
      simp only[Bool.and_eq_true]at kj
      simp only[cond_true]at ev
      have:shapeOf P 20 t=some ks∧dO P t=some true∧P.eqGuardType P.depth t=false:=by
       unfold Cq at aU
       split at aU
       ·cases hq:P.eqGuardType P.depth t<;>rw[hq]at aU<;>simp only[cond_true,cond_false,reduceCtorEq]at aU
        split at aU
        ·split at aU
         ·simp only[Option.some.injEq,Prod.mk.injEq]at aU
          obtain⟨rfl,rfl⟩:=aU
          exact⟨by assumption,by assumption,rfl⟩
         ·cases aU
        ·split at aU<;>cases aU
       ·cases hq:P.eqGuardType P.depth t<;>rw[hq]at aU<;>simp only[cond_true,cond_false,reduceCtorEq]at aU
        split at aU
        ·split at aU
         ·simp only[Option.some.injEq,Prod.mk.injEq]at aU
          obtain⟨rfl,rfl⟩:=aU
          exact⟨by assumption,by assumption,rfl⟩
         ·cases aU
        ·split at aU<;>cases aU
       ·cases aU
      obtain⟨h1,h3,h4⟩:=this
      have hg:=run_eqGuard_agg (P:=P) w op t x y v1 v2 h4
      have hq:∀c,fK l1 l2=some c→(Op.equalIn 10000 t (.agg v1) (.agg v2)).run P w=.ok c w:=fun c hc=>
       HJ (w:=w) (g:=g) 20 10000 t _ true l1 l2 (.agg v1) (.agg v2) c h1 (by decide) h3 kj.1 kj.2
        (by simp only[ir,if_true];exact⟨_,rfl,r1⟩) (by simp only[ir,if_true];exact⟨_,rfl,r2⟩) hc
      split at ev
      ·split at ev
       ·rename_i c hc;cases ev;exact⟨_,_,rfl,hg,by simp[run_eql_struct,hq c hc],.bool _⟩
       ·cases ev
      ·split at ev
       ·rename_i c hc;cases ev;exact⟨_,_,rfl,hg,by simp[run_neq_struct,hq c hc],.bool _⟩
       ·cases ev
      ·cases ev
    ·cases ev
   ·
    rename_i a1 s1 l1 b1 s2 l2
    cases b1<;>simp only[reduceCtorEq]at ev
    split at ev
    ·rename_i aU
     have hu:∃e',P.underlying t=some (.slice e'):=by
      unfold Cq at aU
      have bad:∀{ks:List CK}{b:Bool},shapeOf P 20 t=some ks→dO P t=some b→(b,ks)=(false,[])→False:=fun{ks b}h1 h2 h3=>by
       cases h3
       rcases(BZ h1).2 with h4|h4
       ·simp at h4
       ·rw[h2]at h4;cases h4
      split at aU
      ·cases hq:P.eqGuardType P.depth t<;>rw[hq]at aU<;>simp only[cond_true,cond_false,reduceCtorEq]at aU
       split at aU
       ·split at aU
        ·exact(bad (by assumption) (by assumption) (Option.some.inj aU)).elim
        ·cases aU
       ·split at aU
        ·exact⟨_,by assumption⟩
        ·cases aU
      ·cases hq:P.eqGuardType P.depth t<;>rw[hq]at aU<;>simp only[cond_true,cond_false,reduceCtorEq]at aU
       split at aU
       ·split at aU
        ·exact(bad (by assumption) (by assumption) (Option.some.inj aU)).elim
        ·cases aU
       ·split at aU
        ·exact⟨_,by assumption⟩
        ·cases aU
      ·cases aU
     obtain⟨e',hu⟩:=hu
     have qD:a.eval y=.slice none 0 0:=by
      generalize a.eval y=vy at hy
      cases hy;rfl
     have DH:∃p n c,a.eval x=.slice p n c∧p.isNone=decide (a1=SK.nil):=by
      generalize a.eval x=vx at hx
      cases hx with
      |iJ=>exact⟨_,_,_,rfl,rfl⟩
      |sl=>exact⟨_,_,_,rfl,rfl⟩
      |ki=>exact⟨_,_,_,rfl,rfl⟩
     obtain⟨p,n,c,DH,hp⟩:=DH
     rw[DH,qD]
     have hq:(Op.equalIn 10000 t (.slice p n c) (.slice none 0 0)).run P w=.ok (decide (a1=SK.nil)) w:=by
      rw[←hp,show(10000:Nat)=9999+1 from rfl,Op.equalIn]
      cases p<;>simp[run_underlying hu]
     have hg:=EC (P:=P) (w:=w) op t x y (.slice p n c) (.slice none 0 0) trivial
     split at ev
     ·cases ev;exact⟨_,_,rfl,hg,by simp[binOp,Op.equal,Op.maxDepth,hq],.bool _⟩
     ·cases ev;exact⟨_,_,rfl,hg,by simp[binOp,Op.equal,Op.maxDepth,hq],.bool _⟩
     ·cases ev
    ·cases ev
  ·cases hr
 obtain⟨v,rd,rfl,hg,hv,gA⟩:=key
 refine bp.eX hI (s:=.d rd) (v:=v) ?_ (.d _ _ _ gA) hk
 simp[execOp,ho,hg,hv]
theorem aam(hI:Inv gl w0 aq e a w g){o:Oper}{op:UnOp}{t:TypeId}{x:Operand}(ho:o.op=.unOp op t x){k:Slot→List af→Prop}
  (h:ab (eG op ((Ab.aV gl e x).aa).bP) fun r=>k (.v r) e.boxes):bp P gl w0 aq e.ai o a w k:=by
 obtain⟨r,hr,hk⟩:=aH h
 have hx:=hI.iq x
 generalize ((Ab.aV gl e x).aa).bP =sx at hr hx
 unfold eG at hr
 split at hr
 ·rename_i b
  have hx:=hx.data.tf
  split at hr
  ·cases hr;exact bp.eX hI (v:=.bool (!b)) (by simp[execOp,ho,hx,Op.unary]) (.d _ _ _ (.bool _)) hk
  ·cases hr
 ·rename_i kk n
  obtain⟨hx,wx⟩:=hx.data.rn
  split at hr
  ·cases hr;exact bp.eX hI (by simp only[execOp,ho,hx,Op.unary,Op.intArith];simp) (.d _ _ _ (.int _ _ (ym _ _))) hk
  ·cases hr;exact bp.eX hI (by simp only[execOp,ho,hx,Op.unary,Op.intBits];simp) (.d _ _ _ (.int _ _ (ym _ _))) hk
  ·cases hr
 ·cases hr
theorem XP(hI:Inv gl w0 aq e a w g){o:Oper}{src dst:TypeId}{x:Operand}(ho:o.op=.convert src dst x)(hs:(P.underlying src).isSome =true){k:Slot→List af→Prop}
  (h:ab (Kf P dst ((Ab.aV gl e x).aa).bP) fun r=>k (.v r) e.boxes):bp P gl w0 aq e.ai o a w k:=by
 obtain⟨r,hr,hk⟩:=aH h
 have hx:=hI.iq x
 generalize ((Ab.aV gl e x).aa).bP =sx at hr hx
 obtain⟨us,Tk⟩:=Option.isSome_iff_exists.1 hs
 unfold Kf at hr
 split at hr
 ·rename_i kk n
  obtain⟨hx,wx⟩:=hx.data.rn
  split at hr
  ·rename_i kd hd
   cases hr
   refine bp.eX hI (v:=.int kd (kd.wrap n)) ?_ (.d _ _ _ (.int _ _ (ym _ _))) hk
   cases us<;>simp[execOp,ho,hx,convert,run_underlying Tk,run_underlying hd,Conv.intToInt]
  ·cases hr
 ·rename_i l
  obtain⟨s1,e1,f1,h1⟩:=hx.data.uL
  split at hr
  ·rename_i hd
   cases hr
   refine bp.eX hI (v:=.string s1) ?_ (.d _ _ _ (by rw[f1];exact .str _ h1)) hk
   cases us<;>simp[execOp,ho,e1,convert,run_underlying Tk,run_underlying hd]
  ·cases hr
 ·cases hr
end
end Go.Proofs.Ytimbllcalipehaa.Ab
namespace Go.Proofs.Ytimbllcalipehaa.Ab
open Go Go.RowKit
section
variable{P:Program}{gl:Nat→Option D}{w0:World}{aq:S0}{e:Env}{a:Act}{w:World}{g:Gh}
theorem Inv.mJ(hI:Inv gl w0 aq e a w g){x:Operand}{s:Slot}(h:(Ab.aV gl e x).aa =s):bW w0.heap.size w g (fun _ _ _ _=>False) s (a.eval x):=h▸hI.aV x
theorem bW.jT{base:Nat}{O:Nat→Nat→Nat→Nat→Prop}{x:SV}{v:Value}(h:bW base w g O (.v x) v):aJ w g.St base (O 0) x v:=by
 cases h with
 |v _ _ _ h=>exact h
theorem bW.mE{base:Nat}{O:Nat→Nat→Nat→Nat→Prop}{b off:Nat}{v:Value}(h:bW base w g O (.p b off) v):∃an,v=.pointer (some ⟨an,off,none⟩)∧g.bx[b]? =some (some an):=by
 cases h with
 |p _ _ _ an h=>exact⟨an,rfl,h⟩
theorem bW.Ki{base:Nat}{O:Nat→Nat→Nat→Nat→Prop}{xs:List SV}{v:Value}(h:bW base w g O (.t xs) v):
  ∃vs,v=.tuple vs∧xs.length=vs.size∧∀(j:Nat)x v,xs[j]? =some x→vs[j]? =some v→aJ w g.St base (O j) x v:=by
 cases h with
 |t _ _ vs hl hc=>exact⟨vs,rfl,hl,hc⟩
theorem aJ.rl{St:Nat→Nat→Prop}{base:Nat}{O:Nat→Nat→Nat→Prop}{x:SV}{v:Value}(h:aJ w St base O x v)(hx:(match x with| .d y=>y.one=true| .undef =>False|_=>True)):
  v.oneCell'=true:=by
 cases h<;>first|rfl|(exact aZ.rl (by assumption) hx)|exact hx.elim
theorem aJ.cells{St:Nat→Nat→Prop}{base:Nat}{O:Nat→Nat→Nat→Prop}{x:SV}{v:Value}(h:aJ w St base O x v){l:List SV}(hl:az x=some l):
  l.length=v.cells.size∧(∀y∈v.cells,y.oneCell'=true)∧∀(i:Nat)c y,l[i]? =some c→v.cells[i]? =some y→aJ w St base O c y:=by
 have one:∀(c:SV)(u:Value),aJ w St base O c u→u.oneCell'=true→u.cells= #[u]→[c].length =u.cells.size∧(∀y∈u.cells,y.oneCell'=true)∧∀(i:Nat)c' y,[c][i]? =some c'→u.cells[i]? =some y→aJ w St base O c' y:=by
  intro c u hr h1 hu
  rw[hu]
  refine⟨rfl,by simpa using h1,fun i c' y hc hy=>?_⟩
  cases i with
  |zero=>simp at hc hy;subst hc hy;exact hr
  |succ i=>simp at hc
 cases h with
 |d _ y _ hd=>
  simp only[az,Option.some.injEq]at hl
  subst hl
  by_cases hy:y.one=true
  ·have hc:y.cells=[y]:=by cases y<;>first|rfl|simp[D.one]at hy
   have h1:=hd.rl hy
   have hv:v.cells= #[v]:=by cases v<;>first|rfl|simp[Value.oneCell']at h1
   rw[hc]
   exact one (.d y) v (.d _ _ _ hd) h1 hv
  ·cases y<;>simp only[D.one,not_true_eq_false]at hy
   rename_i ds
   obtain⟨vs,rfl,⟨hs,hc⟩,hf⟩:=hd.wR
   refine⟨by simpa[D.cells,Value.cells]using hs,fun y hy=>?_,fun i c y jl hy=>?_⟩
   ·obtain⟨i,hi,rfl⟩:=Array.mem_iff_getElem.1 hy
    have eH:i<ds.length:=by rw[hs];exact hi
    exact(hc i ds[i] _ (List.getElem?_eq_getElem eH) (Array.getElem?_eq_getElem hi)).rl (hf _ (List.getElem_mem eH))
   ·simp only[D.cells,List.getElem?_map,Option.map_eq_some_iff]at jl
    obtain⟨d,jm,rfl⟩:=jl
    exact .d _ _ _ (hc i d y jm hy)
 |own _ sz L gg cap hd bF ho=>simp only[az,Option.some.injEq]at hl;subst hl;exact one _ _ (.own _ sz L gg cap hd bF ho) rfl rfl
 |full _ sz L ad hd=>simp only[az,Option.some.injEq]at hl;subst hl;exact one _ _ (.full _ sz L ad hd) rfl rfl
 |ref _ cs off b o vs hb h1 h2=>simp only[az,Option.some.injEq]at hl;subst hl;exact one _ _ (.ref _ cs off b o vs hb h1 h2) rfl rfl
 |cJ _ n sz cs b cap vs hb hn hm h1 h2=>simp only[az,Option.some.injEq]at hl;subst hl;exact one _ _ (.cJ _ n sz cs b cap vs hb hn hm h1 h2) rfl rfl
 |aT _ y off b o vs h0 h1 h2=>simp only[az,Option.some.injEq]at hl;subst hl;exact one _ _ (.aT _ y off b o vs h0 h1 h2) rfl rfl
 |dg _ f first cap fv cv h1 h2 h3 h4=>simp only[az,Option.some.injEq]at hl;subst hl;exact one _ _ (.dg _ f first cap fv cv h1 h2 h3 h4) rfl rfl
 |bt _ sz L gg cap vs h1 h2 h3 h4 h5 h6 h7=>simp only[az,Option.some.injEq]at hl;subst hl;exact one _ _ (.bt _ sz L gg cap vs h1 h2 h3 h4 h5 h6 h7) rfl rfl
 |mp _ m r es clock h1 h2 h3 h4=>simp only[az,Option.some.injEq]at hl;subst hl;exact one _ _ (.mp _ m r es clock h1 h2 h3 h4) rfl rfl
 |undef _ _=>simp[az]at hl
theorem HK{t:TypeId}{z:List D}(h:nT P t=some z):∃zv:Value,(∀w:World,(zeroValue t).run P w=.ok zv w)∧z.length=zv.cells.size∧(∀d∈z,d.one=true)∧
  ∀(w:World)(St:Nat→Nat→Prop)(i:Nat)x v,z[i]? =some x→zv.cells[i]? =some v→aZ w St x v:=by
 unfold nT at h
 split at h
 ·rename_i i hi
  split at h
  ·rename_i zv hz
   refine⟨zv,fun w=>by simp[zeroValue,typeInfo,hi,hz],?_,HQ h,fun w St j x v hx hv=>?_⟩
   ·have:=(B0 (w:=default) (St:=fun _ _=>False) h).1
    simpa using this
   ·exact(B0 (w:=w) (St:=St) h).2 j x v hx (by simpa using hv)
  ·cases h
 ·cases h
theorem WS(hI:Inv gl w0 aq e a w g){o:Oper}{t:TypeId}(ho:o.op=.alloc t){id:Nat}{k:Slot→List af→Prop}
  (fl:e.boxes[id]? =some .none)
  (h:ab (IP P t) fun z=>k (.p id 0) (e.boxes.set id (.cells z))):bp P gl w0 aq e.ai o a w k:=by
 obtain⟨zs,gB,hk⟩:=aH h
 unfold IP at gB
 split at gB
 rotate_left
 ·split at gB
  ·rename_i i hi
   split at gB
   ·rename_i zv ui
    cases eO:zv.cells.toList.all Value.oneCell' with
    |false=>rw[eO]at gB;cases gB
    |true=>
     rw[eO]at gB
     cases gB
     refine bp.FL hI fl (cells:=zv.cells) (t:=t) (bx:=.cells _) ?_ ?_ ?_ hk
     ·have ba:(zeroValue t).run P w=.ok zv w:=by simp[zeroValue,typeInfo,hi,ui]
      simp[execOp,ho,Instr.alloc,ba,newVar,newRow]
     ·intro y hy
      exact List.all_eq_true.1 eO y (by simpa using hy)
     ·intro w' g' O hX
      refine⟨by simp,fun j x y hx hy=>?_⟩
      rw[(List.mem_replicate.1 (List.mem_of_getElem? hx)).2]
      exact .undef _ _
   ·cases gB
  ·cases gB
 rename_i z hz
 cases gB
 obtain⟨zv,ba,hlen,cg,bc⟩:=HK hz
 refine bp.FL hI fl (cells:=zv.cells) (t:=t) (bx:=.cells (z.map .d)) ?_ ?_ ?_ hk
 ·simp[execOp,ho,Instr.alloc,ba,newVar,newRow]
 ·intro y hy
  obtain⟨i,hi,rfl⟩:=Array.mem_iff_getElem.1 hy
  have eH:i<z.length:=by rw[hlen];exact hi
  exact(bc w (fun _ _=>False) i z[i] _ (List.getElem?_eq_getElem eH) (Array.getElem?_eq_getElem hi)).rl (cg _ (List.getElem_mem eH))
 ·intro w' g' O hX
  refine⟨by simpa using Nat.le_of_eq hlen,fun j x y hx hy=>?_⟩
  simp only[List.getElem?_map,Option.map_eq_some_iff]at hx
  obtain⟨d,hd,rfl⟩:=hx
  exact .d _ _ _ (bc _ _ j d y hd hy)
theorem Y0(hI:Inv gl w0 aq e a w g){o:Oper}{t:TypeId}{x:Operand}(ho:o.op=.box t x){id:Nat}{k:Slot→List af→Prop}
  (fl:e.boxes[id]? =some .none)
  (h:ab (ea P t) fun sz=>(match(Ab.aV gl e x).aa with
  | .v y=>ab (az y) fun l=>l.length=sz∧k (.p id 0) (e.boxes.set id (.cells l))
  | .t _=>False
  |s=>(match sz with|1=>k (.p id 0) (e.boxes.set id (.one s))|_=>False))):bp P gl w0 aq e.ai o a w k:=by
 obtain⟨sz,aM,h⟩:=aH h
 have hx:=hI.aV x
 have ba:(execOp a.eval o).run P w=.ok (.value (.pointer (some ⟨w.heap.size,0,none⟩))) (w.alloc (.cells (a.eval x).cells t)):=by
  simp[execOp,ho,Instr.box,newVar,newRow]
 have m4:∀s,(Ab.aV gl e x).aa =s→(∀y,s≠.v y)→(∀y,s≠.t y)→k (.p id 0) (e.boxes.set id (.one s))→bp P gl w0 aq e.ai o a w k:=by
  intro s hs h1 h2 hk
  rw[hs]at hx
  have hc:(a.eval x).cells = #[a.eval x]:=by
   clear ba
   generalize a.eval x=u at hx
   cases hx with
   |v _ y _ _=>exact absurd rfl (h1 y)
   |p=>rfl
   |a _ b n sz v hm h=>obtain⟨_,_,_,_,rfl,_⟩:=h;rfl
   |m=>rfl
   |c=>rfl
   |t _ y _ _ _=>exact absurd rfl (h2 y)
  have h1c:(a.eval x).oneCell' =true:=by
   clear ba hc
   generalize a.eval x=u at hx
   cases hx with
   |v _ y _ _=>exact absurd rfl (h1 y)
   |p=>rfl
   |a _ b n sz v hm h=>obtain⟨_,_,_,_,rfl,_⟩:=h;rfl
   |m=>rfl
   |c=>rfl
   |t _ y _ _ _=>exact absurd rfl (h2 y)
  refine bp.FL hI fl (bx:=.one s) ba (by rw[hc];simpa using h1c) (fun w' g' O hX=>?_) hk
  refine⟨by rw[hc];exact Nat.one_pos,fun y hy=>?_⟩
  rw[hc]at hy
  simp at hy
  subst hy
  exact hx.mono hX.st hX.bs hX.bx hX.sh fun _ _ _ _ h=>h.elim
 split at h
 ·rename_i y hy
  obtain⟨l,hl,hlen,hk⟩:=aH h
  rw[hy]at hx
  obtain⟨h1,h2,h3⟩:=hx.jT.cells hl
  refine bp.FL hI fl (bx:=.cells l) ba h2 (fun w' g' O hX=>⟨Nat.le_of_eq h1,fun j c u hc hu=>?_⟩) hk
  exact(h3 j c u hc hu).mono hX.st hX.bs _ (fun _ _ _ h=>h.elim)
 ·exact h.elim
 ·rename_i h1 h2
  split at h
  ·exact m4 _ rfl (fun y hy=>h1 y hy) (fun y hy=>h2 y hy) h
  ·exact h.elim
theorem x5{t:TypeId}{b:Bool}{n:Nat}(hl:kG P t=some (b,n))(an off:Nat)(vs:Nat→Value)
  (h:∀j,j<(if b then n else 1)→w.cell? ⟨an,off+j,none⟩=some (vs j)):
  (loadVar t ⟨an,off,none⟩).run P w=.ok (if b then .agg ((List.range n).map vs).toArray else vs 0) w:=by
 obtain⟨hb,hn,_⟩:=Ft hl
 unfold loadVar
 simp only[Sem.run_bind,O4 hb,Result.andThen_ok]
 cases b
 ·have:=h 0 (by simp)
  simp only[Nat.add_zero]at this
  simp[this]
 ·have:=run_loadCells (P:=P) w ⟨an,off,none⟩ n vs (fun j hj=>by rw[pY];exact h j (by simpa using hj))
  simp[jP hn,this]
theorem O5:∀{l:List SV}{r:List D},dE l=some r→r.length=l.length∧∀(i:Nat)x y,l[i]? =some x→r[i]? =some y→cN x=some y
 |[],r,h=>by cases h;simp
 |v::l,r,h=>by
  simp only[dE]at h
  split at h
  ·rename_i x hx
   split at h
   ·rename_i r' hr
    cases h
    obtain⟨h1,h2⟩:=O5 hr
    refine⟨by simp[h1],fun i y z hy hz=>?_⟩
    cases i with
    |zero=>simp at hy hz;subst hy hz;exact hx
    |succ i=>simp at hy hz;exact h2 i y z hy hz
   ·cases h
  ·cases h
theorem aan{x:SV}{y:D}(h:cN x=some y)(hx:match x with| .d z=>z.one=true|_=>True):y.one=true:=by
 cases x<;>simp only[cN,Option.some.injEq,reduceCtorEq]at h<;>subst h<;>first|exact hx|rfl
theorem H6{t:TypeId}{b:Bool}{n off:Nat}{cs:List SV}{x:SV}{St:Nat→Nat→Prop}{base:Nat}{O:Nat→Nat→Nat→Nat→Prop}(hl:kG P t=some (b,n))(h:ah b n off cs=some x)(an o:Nat)
  (vs:Nat→Value)(aO:∀i,i<cs.length→w.cell? ⟨an,o+i,none⟩=some (vs i))(bc:∀(i:Nat)c,cs[i]? =some c→aJ w St base (O i) c (vs i))
  (cg:∀i,i<cs.length→(vs i).oneCell' =true):
  ∃v,(loadVar t ⟨an,o+off,none⟩).run P w=.ok v w∧aJ w St base (O off) x v:=by
 unfold ah at h
 cases b
 ·simp only[cond_false]at h
  have aK:=(List.getElem?_eq_some_iff.1 h).1
  refine⟨vs off,?_,bc off x h⟩
  rw[x5 hl an (o+off) (fun j=>vs (off+j)) (fun j hj=>by simp at hj;subst hj;simpa using aO off aK)]
  simp
 ·simp only[cond_true]at h
  split at h
  ·rename_i hle
   split at h
   ·rename_i l nj
    cases h
    obtain⟨hlen,kN⟩:=O5 nj
    refine⟨.agg ((List.range n).map fun j=>vs (off+j)).toArray,?_,.d _ _ _ (.agg _ _ ?_ ?_ ?_)⟩
    ·rw[x5 hl an (o+off) (fun j=>vs (off+j)) (fun j hj=>by
      simp at hj;rw[Nat.add_assoc];exact aO (off+j) (by omega))]
     simp
    ·intro d hd
     obtain⟨i,hi,rfl⟩:=List.mem_iff_getElem.1 hd
     have eH:i<((cs.drop off).take n).length :=by rw[←hlen];exact hi
     have hs:=kN i _ _ (List.getElem?_eq_getElem eH) (List.getElem?_eq_getElem hi)
     have vS:off+i<cs.length:=by simp at eH;omega
     have hc:((cs.drop off).take n)[i]=cs[off+i]:=by simp
     have hr:=bc (off+i) _ (List.getElem?_eq_getElem vS)
     have h1:=cg (off+i) vS
     rw[hc]at hs
     refine aan hs ?_
     revert hs hr
     cases cs[off+i]<;>intro hs hr<;>try trivial
     rename_i z
     cases z<;>first|rfl|(obtain⟨_,hv,_⟩:=hr.data.wR;rw[hv]at h1;simp[Value.oneCell']at h1)
    ·simp[hlen];omega
    ·intro i d v hd hv
     have hi:i<l.length:=(List.getElem?_eq_some_iff.1 hd).1
     have eH:i<((cs.drop off).take n).length :=by rw[←hlen];exact hi
     have vS:off+i<cs.length:=by simp at eH;omega
     have oL:i<n:=by simp at eH;omega
     have hc:((cs.drop off).take n)[i]? =some cs[off+i]:=by
      rw[List.getElem?_eq_getElem eH];simp
     have hs:=kN i _ _ hc hd
     have hr:=bc (off+i) _ (List.getElem?_eq_getElem vS)
     simp[oL]at hv
     subst hv
     exact hr.cN hs
   ·cases h
  ·cases h
end
end Go.Proofs.Ytimbllcalipehaa.Ab
namespace Go.Proofs.Ytimbllcalipehaa.Ab
open Go Go.RowKit
section
variable{P:Program}{gl:Nat→Option D}{w0:World}{aq:S0}{e:Env}{a:Act}{w:World}{g:Gh}
theorem WT{t:TypeId}{b:Bool}{n off:Nat}{cs:List D}{x:D}{St:Nat→Nat→Prop}(hl:kG P t=some (b,n))(h:pf b n off cs=some x)(an o:Nat)
  (hf:∀c∈cs,c.one=true)
  (vs:Nat→Value)(aO:∀i,i<cs.length→w.cell? ⟨an,o+i,none⟩=some (vs i))(bc:∀(i:Nat)c,cs[i]? =some c→aZ w St c (vs i)):
  ∃v,(loadVar t ⟨an,o+off,none⟩).run P w=.ok v w∧aZ w St x v:=by
 unfold pf at h
 cases b
 ·simp only[cond_false]at h
  have aK:=(List.getElem?_eq_some_iff.1 h).1
  refine⟨vs off,?_,bc off x h⟩
  rw[x5 hl an (o+off) (fun j=>vs (off+j)) (fun j hj=>by simp at hj;subst hj;simpa using aO off aK)]
  simp
 ·simp only[cond_true]at h
  split at h
  ·rename_i hle
   cases h
   refine⟨.agg ((List.range n).map fun j=>vs (off+j)).toArray,?_,.agg _ _ ?_ ?_ ?_⟩
   ·rw[x5 hl an (o+off) (fun j=>vs (off+j)) (fun j hj=>by
     simp at hj;rw[Nat.add_assoc];exact aO (off+j) (by omega))]
    simp
   ·intro d hd
    exact hf d (List.mem_of_mem_drop (List.mem_of_mem_take hd))
   ·simp;omega
   ·intro i d v hd hv
    rw[List.getElem?_take]at hd
    split at hd
    ·rename_i hi
     rw[List.getElem?_drop]at hd
     simp[hi]at hv
     subst hv
     exact bc _ _ hd
    ·cases hd
  ·cases h
theorem WU(hI:Inv gl w0 aq e a w g){o:Oper}{t:TypeId}{x:Operand}(ho:o.op=.load t x){k:Slot→List af→Prop}{b:Bool}{n:Nat}(hl:kG P t=some (b,n))
  {s:SV}(hs:(Ab.aV gl e x).aa =.v s)(h:ab (aI b n s) fun y=>k (.v y) e.boxes):bp P gl w0 aq e.ai o a w k:=by
 obtain⟨y,hy,hk⟩:=aH h
 have hx:=hI.pD hs
 have ba:∀{ad v},a.eval x=.pointer (some ad)→(loadVar t ad).run P w=.ok v w→(execOp a.eval o).run P w=.ok (.value v) w:=by
  intro ad v h1 h2
  simp[execOp,ho,Instr.loadAt,Instr.sureAddr,h1,h2]
 unfold aI at hy
 split at hy
 ·rename_i z off
  split at hy
  ·rename_i r hr
   cases hy
   generalize hv:a.eval x=u at hx
   cases hx with
   |aT _ _ _ an o' vs hf aO bc=>
    obtain⟨v,h1,h2⟩:=WT (St:=g.St) hl hr an o' hf vs (fun i hi=>(aO i hi).1) bc
    exact bp.eX hI (ba hv h1) (.d _ _ _ h2) hk
  ·cases hy
 ·rename_i cs off
  split at hy
  ·rename_i r hr
   cases hy
   generalize hv:a.eval x=u at hx
   cases hx with
   |ref _ _ _ an o' vs hb aO bc=>
    obtain⟨v,h1,h2⟩:=H6 (St:=g.St) (O:=fun _ _ _ _=>False) hl hr an o' vs (fun i hi=>(aO i hi).1) bc (fun i hi=>(aO i hi).2)
    exact bp.eX hI (ba hv h1) h2.aa hk
  ·cases hy
 ·cases hy
theorem VS(hI:Inv gl w0 aq e a w g){o:Oper}{t:TypeId}{x:Operand}(ho:o.op=.load t x){k:Slot→List af→Prop}{b:Bool}{n:Nat}(hl:kG P t=some (b,n))
  {bn off:Nat}(hs:(Ab.aV gl e x).aa =.p bn off)(h:p6 b n bn off e.boxes k):bp P gl w0 aq e.ai o a w k:=by
 have hx:=hI.mJ hs
 obtain⟨an,hv,dh⟩:=hx.mE
 have ba:∀{v},(loadVar t ⟨an,off,none⟩).run P w=.ok v w→(execOp a.eval o).run P w=.ok (.value v) w:=by
  intro v h2
  simp[execOp,ho,Instr.loadAt,Instr.sureAddr,hv,h2]
 unfold p6 at h
 split at h
 ·rename_i cs bS
  obtain⟨y,hy,hk⟩:=aH h
  obtain⟨h0,c,ty,hc,cg,hlen,bc⟩:=hI.boxes bn _ an bS dh
  obtain⟨v,h1,h2⟩:=H6 (w:=w) (off:=off) (St:=g.St) (O:=fun j=>rJ w0.heap.size w g bn j) hl hy an 0 (fun i=>c.getD i undef) (fun i hi=>by
   rw[cell_of_row w an (0+i) c ty (0,0) hc];simp[Nat.lt_of_lt_of_le hi hlen]) (fun i d hd=>by
   have hi:=(List.getElem?_eq_some_iff.1 hd).1
   exact bc i d _ hd (by simp[Nat.lt_of_lt_of_le hi hlen])) (fun i hi=>by
   have eH:i<c.size:=Nat.lt_of_lt_of_le hi hlen
   simp[eH];exact cg i _ hi (by simp))
  simp only[Nat.zero_add]at h1
  exact bp.eX hI (ba h1) h2.aa hk
 ·rename_i s mK
  cases b with
  |true=>exact h.elim
  |false=>
   simp only[cond_false]at h
   split at h
   ·obtain⟨h0,c,ty,hc,cg,aM,bc⟩:=hI.boxes bn _ an mK dh
    have DI:c[0]? =some (c[0]'(by omega)):=by simp
    refine bp.value hI (ba (v:=c[0]'(by omega)) ?_) ((bc _ DI).aa) h
    rw[x5 (vs:=fun _=>c[0]'(by omega)) hl an 0 (fun j hj=>by
     simp at hj;subst hj
     rw[cell_of_row w an (0+0) c ty (0,0) hc];exact DI)]
    simp
   ·exact h.elim
 ·exact h.elim
theorem Af:∀(l:List SV)(cs:List SV)(off:Nat),off+l.length≤cs.length→setAt cs off l=cs.take off++l++cs.drop (off+l.length)
 |[],cs,off,_=>by simp[setAt]
 |v::l,cs,off,h=>by
  simp only[List.length_cons]at h
  rw[setAt,Af l (cs.set off v) (off+1) (by simp;omega)]
  have h1:(cs.set off v).take (off+1)=cs.take off++[v]:=by
   rw[List.take_add_one,List.take_set_of_le (Nat.le_refl _)]
   simp[List.getElem?_set_self (show off<cs.length by omega)]
  have h2:(cs.set off v).drop (off+1+l.length)=cs.drop (off+1+l.length):=by
   rw[List.drop_set_of_lt (by omega)]
  rw[h1,h2]
  simp[Nat.add_assoc,Nat.add_comm 1]
theorem uD{α:Type}(cs l:List α)(off:Nat)(h:off+l.length≤cs.length)(i:Nat):
  (cs.take off++l++cs.drop (off+l.length))[i]? =if i<off then cs[i]? else if i<off+l.length then l[i-off]? else cs[i]? :=by
 have ht:(cs.take off).length =off:=by simp;omega
 rw[List.append_assoc,List.getElem?_append,ht]
 split
 ·rename_i h1
  rw[List.getElem?_take,if_pos h1]
 ·rename_i h1
  rw[List.getElem?_append]
  split
  ·rename_i h2
   rw[if_pos (by omega)]
  ·rename_i h2
   rw[if_neg (by omega),List.getElem?_drop]
   congr 1
   omega
theorem Om{c l:Array Value}{off m:Nat}(h:off+l.size≤c.size)(h1:∀(j:Nat)y,j<m→c[j]? =some y→y.oneCell'=true)(h2:∀y∈l,y.oneCell'=true)(j:Nat)(y:Value)(hj:j<m)
  (hy:(c.toList.take off++l.toList++c.toList.drop (off+l.size)).toArray[j]? =some y):y.oneCell'=true:=by
 have hs:=uD c.toList l.toList off (by simpa using h) j
 simp only[Array.length_toList]at hs
 simp only[List.getElem?_toArray]at hy
 rw[hs]at hy
 simp only[Array.getElem?_toList]at hy
 split at hy
 ·exact h1 j y hj hy
 ·split at hy
  ·exact h2 y (Array.mem_of_getElem? hy)
  ·exact h1 j y hj hy
theorem EE{t:TypeId}{n:Nat}(hn:ea P t=some n){an off:Nat}{c:Array Value}{ty:TypeId}(hc:w.heap[an]? =some (.cells c ty (0,0))){v:Value}
  (hv:v.cells.size=n)(h1:∀y∈v.cells,y.oneCell'=true)(hle:off+n≤c.size):
  (storeVar t ⟨an,off,none⟩ v).run P w=.ok () (w.setRow an (c.toList.take off++v.cells.toList++c.toList.drop (off+n)).toArray):=by
 have:=run_storeCells_at P an off ty v.cells.toList 0 c w hc (by simp;omega) (by simpa using h1)
 simp only[Nat.add_zero,Array.length_toList,hv]at this
 unfold storeVar
 simp[jP hn,hv,this]
theorem HG(hI:Inv gl w0 aq e a w g){o:Oper}{t:TypeId}{x y:Operand}(ho:o.op=.store t x y)(hd:o.dst=none){k:Slot→List af→Prop}
  {bn off an n:Nat}(hv:a.eval x=.pointer (some ⟨an,off,none⟩))(dh:g.bx[bn]? =some (some an))
  {cells:Array Value}{ty:TypeId}{eu:af}(hc:w.heap[an]? =some (.cells cells ty (0,0)))(tx:Array Value)(bS:tx.size=cells.size)(cg:∀(j:Nat)y,j<eu.size→tx[j]? =some y→y.oneCell'=true)
  (aR:(storeVar t ⟨an,off,none⟩ (a.eval y)).run P w=.ok () (w.setRow an tx))
  (rep:∀(w':World),Ext w0.heap.size w g w' g (fun p=>∃j,p=.b bn j∧off≤j∧j<off+n)→(match(generalizing:=false) eu with
    | .none =>False
    | .map _=>False
    | .cells cs=>cs.length≤tx.size∧∀(j:Nat)x y,cs[j]? =some x→tx[j]? =some y→aJ w' g.St w0.heap.size (rJ w0.heap.size w' g bn j) x y
    | .one s=>0<tx.size∧∀y,tx[0]? =some y→bW w0.heap.size w' g (fun _=>rJ w0.heap.size w' g bn 0) s y))
  (hk:k (.t []) (e.boxes.set bn eu)):bp P gl w0 aq e.ai o a w k:=by
 intro next Q Kj
 have ba:(execOp a.eval o).run P w=.ok .skip (w.setRow an tx):=by
  simp[execOp,ho,Instr.storeAt,Instr.sureAddr,hv,aR]
 unfold Oper.wp
 rw[ba]
 have eb:=fun k(hk:k≠an)=>setRow_other w an k tx hk
 have kI:=setRow_heap w an cells tx ty (0,0) hc
 refine Kj (.t []) undef _ _ g ?_ hk
 rw[hd]
 refine hI.JS (dst:=none) (s:=.t []) (v:=undef) (ai:=e.ai) (fun _=>False) (fun j=>off≤j∧j<off+n) rfl rfl (fun _ _ _ _ _ h=>h) (fun _ h=>h) dh cg kI (fun c ty h=>by rw[hc]at h;cases h;exact bS) eb (by simp[World.setRow]) ⟨rfl,rfl,rfl⟩ rfl
  (fun i x hx _=>⟨x,hx,.inl ⟨rfl,fun h=>h⟩⟩) (fun hX=>?_) (fun _ d h=>by cases h)
 have:=rep _ ⟨hX.df,hX.st,hX.bs,hX.bx,fun p b a c hp ho=>hX.own p b a c (fun rY=>hp (by
  rcases rY with⟨i,j,_,h⟩|⟨j,h⟩|⟨d,j,h,_⟩
  ·exact h.elim
  ·exact⟨j,h⟩
  ·cases h)) ho,hX.sh⟩
 cases eu with
 |none=>exact this
 |map l=>exact this
 |cells cs=>exact this
 |one s=>exact this
theorem Nt(hI:Inv gl w0 aq e a w g){o:Oper}{t:TypeId}{x y:Operand}(ho:o.op=.store t x y)(hd:o.dst=none){k:Slot→List af→Prop}{n:Nat}(hn:ea P t=some n)
  {bn off an:Nat}(hv:a.eval x=.pointer (some ⟨an,off,none⟩))(dh:g.bx[bn]? =some (some an))
  {cells:Array Value}{ty:TypeId}(hc:w.heap[an]? =some (.cells cells ty (0,0)))(Lv:0<cells.size)(qC:n=1)(y1:off=0)
  {s:Slot}(hs:(Ab.aV gl e y).aa =s)(DJ:∀z,s≠.v z)(zp:∀z,s≠.t z)(hk:k (.t []) (e.boxes.set bn (.one s))):bp P gl w0 aq e.ai o a w k:=by
 have hy:=hI.mJ hs
 subst qC y1
 have nk:(a.eval y).cells = #[a.eval y]∧(a.eval y).oneCell' =true:=by
  generalize a.eval y=u at hy
  cases hy with
  |v _ z _ _=>exact absurd rfl (DJ z)
  |p=>exact⟨rfl,rfl⟩
  |a _ b n sz v hm h=>obtain⟨_,_,_,_,rfl,_⟩:=h;exact⟨rfl,rfl⟩
  |m=>exact⟨rfl,rfl⟩
  |c=>exact⟨rfl,rfl⟩
  |t _ z _ _ _=>exact absurd rfl (zp z)
 refine HG hI ho hd (n:=1) (eu:=.one s) hv dh hc (cells.toList.take 0++ #[a.eval y].toList ++cells.toList.drop (0+1)).toArray (by simp;omega) (fun j u hj hu=>?_) ?_ (fun w' hX=>⟨by simp,fun u hu=>?_⟩) hk
 ·have:j=0:=by simp only[af.size]at hj;omega
  subst this
  simp at hu;subst hu
  exact nk.2
 ·rw[EE hn hc (by rw[nk.1];rfl) (by rw[nk.1];simpa using nk.2) (by omega)]
  rw[nk.1]
 ·simp at hu;subst hu
  exact hy.mono hX.st hX.bs hX.bx hX.sh (fun _ _ _ _ h=>h.elim)
theorem WV(hI:Inv gl w0 aq e a w g){o:Oper}{t:TypeId}{x y:Operand}(ho:o.op=.store t x y)(hd:o.dst=none){k:Slot→List af→Prop}{n:Nat}(hn:ea P t=some n)
  {bn off:Nat}(hs:(Ab.aV gl e x).aa =.p bn off)(h:td n bn off ((Ab.aV gl e y).aa) e.boxes fun db=>k (.t []) db):bp P gl w0 aq e.ai o a w k:=by
 have hx:=hI.mJ hs
 obtain⟨an,hv,dh⟩:=hx.mE
 unfold td at h
 split at h
 ·
  rename_i cs bS
  obtain⟨h0,c,ty,hc,cg,hlen,bc⟩:=hI.boxes bn _ an bS dh
  split at h
  ·rename_i z hz
   obtain⟨l,hl,GD,hle,hk⟩:=aH h
   have hy:=hI.mJ hz
   obtain⟨h1,h2,h3⟩:=hy.jT.cells hl
   have jX:(a.eval y).cells.size =n:=by rw[←h1,GD]
   refine HG hI ho hd (n:=n) (eu:=.cells (setAt cs off l)) hv dh hc _ (by simp[jX];omega) ?_ (EE hn hc jX h2 (by omega)) (fun w' hX=>?_) hk
   ·intro j u hj hu
    rw[←jX]at hu
    exact Om (m:=cs.length) (by omega) cg h2 j u (by simp only[af.size,Af l cs off (by omega),List.length_append,List.length_take,List.length_drop]at hj;omega) hu
   ·rw[Af l cs off (by omega)]
    refine⟨by simp[jX];omega,fun j x' y' dK oM=>?_⟩
    have nk:n=(a.eval y).cells.toList.length :=by simp[jX]
    rw[uD cs l off (by omega)]at dK
    have vt:(c.toList.take off++(a.eval y).cells.toList ++c.toList.drop (off+(a.eval y).cells.toList.length))[j]? =some y':=by
     rw[←nk];simpa using oM
    rw[uD _ _ off (by simp[jX];omega)]at vt
    simp only[Array.length_toList,jX,GD]at dK vt
    have gC:¬(off≤j∧j<off+n)→cs[j]? =some x'→c[j]? =some y'→aJ w' g.St w0.heap.size (rJ w0.heap.size w' g bn j) x' y':=fun hj h4 h5=>
     (bc j x' y' h4 h5).mono hX.st hX.bs _ (fun b' a' c' ho=>hX.own _ b' a' c' (by rintro⟨j',h6,h7⟩;cases h6;exact hj h7) ho)
    split at dK
    ·rename_i hj
     simp only[hj,↓reduceIte,Array.getElem?_toList]at vt
     exact gC (by omega) dK vt
    ·rename_i hj
     simp only[hj,↓reduceIte]at vt
     split at dK
     ·rename_i uj
      simp only[uj,↓reduceIte,Array.getElem?_toList]at vt
      exact(h3 (j-off) x' y' dK vt).mono hX.st hX.bs _ (fun _ _ _ h=>h.elim)
     ·rename_i uj
      simp only[uj,↓reduceIte,Array.getElem?_toList]at vt
      exact gC (by omega) dK vt
  ·exact h.elim
  ·rename_i DJ zp
   split at h
   ·exact Nt hI ho hd hn hv dh hc (by simp at hlen;omega) rfl rfl rfl (fun z hz=>DJ z hz) (fun z hz=>zp z hz) h
   ·exact h.elim
 ·
  rename_i s0 ma
  obtain⟨h0,c,ty,hc,cg,hlen,bc⟩:=hI.boxes bn _ an ma dh
  split at h
  ·split at h
   ·rename_i z hz
    obtain⟨l,hl,GD,hk⟩:=aH h
    have hy:=hI.mJ hz
    obtain⟨h1,h2,h3⟩:=hy.jT.cells hl
    have jX:(a.eval y).cells.size =1:=by rw[←h1,GD]
    have GF:∀{j:Nat},j<l.length→(c.toList.take 0++(a.eval y).cells.toList ++c.toList.drop (0+1)).toArray[j]? =(a.eval y).cells[j]? :=by
     intro j hj
     have:j=0:=by omega
     subst this
     simp[List.getElem?_append,jX]
    refine HG hI ho hd (n:=1) (eu:=.cells l) hv dh hc (c.toList.take 0++(a.eval y).cells.toList ++c.toList.drop (0+1)).toArray (by simp[jX];omega) (fun j u hj hu=>?_) ?_ (fun w' hX=>⟨by simp;omega,fun j c' u jl hu=>?_⟩) hk
    ·rw[GF hj]at hu
     exact h2 u (Array.mem_of_getElem? hu)
    ·rw[EE hn hc jX h2 (by omega)]
    ·rw[GF (List.getElem?_eq_some_iff.1 jl).1]at hu
     exact(h3 j c' u jl hu).mono hX.st hX.bs _ (fun _ _ _ h=>h.elim)
   ·exact h.elim
   ·rename_i DJ zp
    exact Nt hI ho hd hn hv dh hc hlen rfl rfl rfl (fun z hz=>DJ z hz) (fun z hz=>zp z hz) h
  ·exact h.elim
 ·exact h.elim
end
end Go.Proofs.Ytimbllcalipehaa.Ab
namespace Go.Proofs.Ytimbllcalipehaa.Ab
open Go Go.RowKit
section
variable{P:Program}{gl:Nat→Option D}{w0:World}{aq:S0}{e:Env}{a:Act}{w:World}{g:Gh}
theorem sX{x:SV}{n j:Nat}(h:cM x n=some j):∃k i,x=.d (.int k i)∧0≤i∧i<n∧j=i.toNat:=by
 unfold cM at h
 split at h
 ·rename_i k i
  split at h
  ·rename_i hc;cases h;exact⟨k,i,rfl,hc.1,hc.2,rfl⟩
  ·cases h
 ·cases h
theorem aJ.int{St:Nat→Nat→Prop}{base:Nat}{O:Nat→Nat→Nat→Prop}{k:IntKind}{n:Int}{v:Value}(h:aJ w St base O (.d (.int k n)) v):v=.int k n:=h.data.rn.1
theorem NX{x y:SV}{n:Nat}(h:bZ x n=some y){St:Nat→Nat→Prop}{base:Nat}{O O':Nat→Nat→Nat→Prop}{v:Value}(r:aJ w St base O x v):
  ∃ad:Addr,v=.pointer (some ad)∧ad.spot=none∧aJ w St base O' y (.pointer (some ⟨ad.block,ad.off+n,none⟩)):=by
 unfold bZ at h
 split at h
 ·cases h
  cases r with
  |aT _ x off b o vs h0 h1 h2=>exact⟨_,rfl,rfl,by rw[Nat.add_assoc];exact .aT _ _ _ b o vs h0 h1 h2⟩
 ·cases h
  cases r with
  |ref _ cs off b o vs h0 h1 h2=>exact⟨_,rfl,rfl,by rw[Nat.add_assoc];exact .ref _ _ _ b o vs h0 h1 h2⟩
 ·cases h
theorem NY{t:TypeId}{i:Nat}{fd:Field}(h:Ao P t i=some fd):∃fs,P.underlying t=some (.struct fs)∧fs[i]? =some fd:=by
 unfold Ao at h
 split at h
 ·rename_i fs hu;exact⟨fs,hu,by simpa using h⟩
 ·cases h
theorem Vw{fd:Field}{sz:Nat}(hs:ea P fd.type=some sz)(h0:sz≠0)(ad:Addr):(fieldPlace ad fd).run P w=.ok (ad.add fd.offset) w:=by
 simp[fieldPlace,jP hs,h0]
theorem Vx(hI:Inv gl w0 aq e a w g){o:Oper}{t:TypeId}{x:Operand}{f:Nat}(ho:o.op=.fieldAddr t x f){k:Slot→List af→Prop}
  (h:ab (Ao P t f) fun fd=>ab (ea P fd.type) fun sz=>bif Nat.beq sz 0 then False else(match(Ab.aV gl e x).aa with
  | .p b off=>k (.p b (off+fd.offset)) e.boxes
  | .v y=>ab (bZ y fd.offset) fun z=>k (.v z) e.boxes
  |_=>False)):bp P gl w0 aq e.ai o a w k:=by
 obtain⟨fd,xy,h⟩:=aH h
 obtain⟨sz,aM,h⟩:=aH h
 obtain⟨fs,hu,DK⟩:=NY xy
 cases hz:Nat.beq sz 0 with
 |true=>rw[hz]at h;exact h.elim
 |false=>
  rw[hz]at h
  simp only[cond_false]at h
  have h0:sz≠0:=fun h=>by rw[h]at hz;cases hz
  have ba:∀ad,a.eval x=.pointer (some ad)→(execOp a.eval o).run P w=.ok (.value (.pointer (some (ad.add fd.offset)))) w:=by
   intro ad hv
   simp[execOp,ho,Instr.fieldAt,run_underlying hu,DK,Instr.sureAddr,hv,Vw aM h0]
  split at h
  ·rename_i b off hs
   obtain⟨an,hv,dh⟩:=(hI.mJ hs).mE
   refine bp.value hI (ba _ hv) ?_ h
   rw[pY]
   exact .p _ _ _ _ dh
  ·rename_i y hs
   obtain⟨z,hz,hk⟩:=aH h
   obtain⟨ad,hv,kN,hr⟩:=NX (O':=fun _ _ _=>False) hz (hI.pD hs)
   refine bp.eX hI (ba _ hv) ?_ hk
   obtain⟨b,o',sp⟩:=ad
   simp only at kN;subst kN
   rw[pY];exact hr
  ·exact h.elim
theorem VT{P:Program}{w:World}{t:TypeId}{name:String}{f:FuncId}(h:AR P t name=some f)(fuel:Nat)(v:Value):(nilAhead (fuel+1) t v name).run P w=.ok (some false) w:=by
 unfold AR at h
 split at h
 ·rename_i i hi
  split at h
  ·rename_i m hm
   split at h
   ·rename_i f' hp hf
    split at h
    ·cases h
    ·rename_i u xz hu
     have nn:(underlying t).run P w=.ok u w:=run_underlying hu w
     have gW:(typeInfo t).run P w=.ok i w:=by simp[typeInfo,go_sem,hi]
     have Br:(followBlind ([]:List FieldStep) t (some v)).run P w=.ok (.ok (t,some v)) w:=by simp[followBlind]
     unfold nilAhead
     simp only[Sem.run_bind,gW,Result.andThen_ok,hm,hp,Br,hf,nn]
     cases u<;>first|exact(xz _ rfl).elim |simp
    ·cases h
   ·cases h
  ·cases h
 ·cases h
theorem VG(hI:Inv gl w0 aq e a w g){o:Oper}{x:Operand}(ho:o.op=.nilCheck x){k:Slot→List af→Prop}
  (h:match(Ab.aV gl e x).aa with
  | .v y=>ab (lP y) fun z=>k (.v z) e.boxes
  | .t _=>False
  | .c f first cap=>(match f with
    | .func _=>k (.c f first cap) e.boxes
    | .method name=>(match first with
      | .v y::_=>ab (Kg P y name) fun _=>k (.c f first cap) e.boxes
      |_=>False)
    |_=>False)
  | .p b off=>k (.p b off) e.boxes
  |_=>False):bp P gl w0 aq e.ai o a w k:=by
 split at h
 ·rename_i y hs
  obtain⟨z,hz,hk⟩:=aH h
  have hy:=hI.pD hs
  have hyz:y=z∧∃v,a.eval x=v∧(execOp a.eval o).run P w=.ok (.value v) w:=by
   unfold lP at hz
   generalize hv:a.eval x=u at hy
   split at hz<;>first|(cases hz)|skip
   ·cases hy;exact⟨rfl,_,rfl,by simp[execOp,ho,hv]⟩
   ·cases hy;exact⟨rfl,_,rfl,by simp[execOp,ho,hv]⟩
   ·rename_i f a' b'
    cases f<;>simp only[Option.some.injEq,reduceCtorEq]at hz
    cases hy;exact⟨hz,_,rfl,by simp[execOp,ho,hv]⟩
   ·rename_i f
    cases f<;>simp only[Option.some.injEq,reduceCtorEq]at hz
    cases hy with
    |d _ _ _ hd=>cases hd;exact⟨hz,_,rfl,by simp[execOp,ho,hv]⟩
  obtain⟨rfl,v,hv,hr⟩:=hyz
  rw[hv]at hy
  exact bp.eX hI hr hy hk
 ·exact h.elim
 ·rename_i f first cap hs
  have hy:=hI.mJ hs
  split at h
  ·generalize hv:a.eval x=u at hy
   have oM:=hy
   cases hy
   exact bp.value hI (by simp[execOp,ho,hv]) oM h
  ·rename_i name
   split at h
   ·rename_i y rest
    obtain⟨f',kO,h⟩:=aH h
    unfold Kg at kO
    split at kO
    ·rename_i t y0 xA
     generalize hv:a.eval x=u at hy
     have oM:=hy
     cases hy with
     |c _ _ _ _ fv cv vT rZ rf rc=>
      have aM:0<fv.size:=by rw[←vT];simp
      have h0:=rf 0 _ (fv[0]) rfl (by simp[aM])
      cases h0 with
      |v _ _ _ h0=>
       have hd:=h0.data
       generalize he:fv[0]=u0 at hd
       cases hd with
       |iface _ _ v0 _=>
        have vU:fv[0]? =some (.iface t v0):=by rw[Array.getElem?_eq_getElem aM,he]
        refine bp.value hI ?_ oM h
        simp only[execOp,ho,hv,vU]
        have Lw:=VT (P:=P) (w:=w) kO (P.types.size+99) v0
        simp only[Sem.run_bind,run_program,Result.andThen_ok,Made.depth]
        rw[Lw]
        simp
    ·cases kO
   ·exact h.elim
  ·exact h.elim
 ·rename_i b off hs
  have hy:=hI.mJ hs
  obtain⟨an,hv,dh⟩:=hy.mE
  exact bp.value hI (by simp[execOp,ho,hv]) (.p _ _ _ _ dh) h
 ·exact h.elim
theorem WW(hI:Inv gl w0 aq e a w g){o:Oper}{t:TypeId}{x:Operand}(ho:o.op=.makeInterface t x){k:Slot→List af→Prop}
  (h:bif isIface P t then False else ab (JO t ((Ab.aV gl e x).aa).bP) fun r=>k (.v r) e.boxes):bp P gl w0 aq e.ai o a w k:=by
 cases hi:isIface P t with
 |true=>rw[hi]at h;exact h.elim
 |false=>
  rw[hi]at h
  simp only[cond_false]at h
  obtain⟨r,hr,hk⟩:=aH h
  have hx:=hI.iq x
  generalize ((Ab.aV gl e x).aa).bP =sx at hr hx
  unfold JO at hr
  split at hr
  ·rename_i y hy
   cases hr
   refine bp.eX hI (v:=.iface t (a.eval x)) ?_ (.d _ _ _ (.iface _ _ _ (hx.cN hy))) hk
   unfold isIface at hi
   split at hi
   ·cases hi
   ·cases hi
   ·rename_i h1 h2
    obtain⟨d,hd⟩:=Option.ne_none_iff_exists'.1 (fun hn=>h2 hn)
    simp only[execOp,ho,Instr.makeInterface,Sem.run_bind,run_underlying hd,Result.andThen_ok]
    cases d<;>first|rfl|exact absurd hd (h1 _)
  ·cases hr
theorem VH(hI:Inv gl w0 aq e a w g){o:Oper}{fn:Fn}{first cap:Array Operand}(ho:o.op=.makeFunc fn first cap){k:Slot→List af→Prop}
  (h:k (.c fn (first.toList.map fun x=>((Ab.aV gl e x).aa).aa) (cap.toList.map fun x=>((Ab.aV gl e x).aa).aa)) e.boxes):bp P gl w0 aq e.ai o a w k:=by
 refine bp.value hI (v:=.func fn (first.map a.eval) (cap.map a.eval)) (by simp[execOp,ho,Instr.makeFunc]) (.c _ _ _ _ _ _ (by simp) (by simp) ?_ ?_) h
 ·intro i x v hx hv
  simp only[List.getElem?_map,Option.map_eq_some_iff,Array.getElem?_map]at hx hv
  obtain⟨y,hy,rfl⟩:=hx
  obtain⟨z,hz,rfl⟩:=hv
  rw[Array.getElem?_toList]at hy
  rw[hy]at hz;cases hz
  exact(hI.aV y).aa
 ·intro i x v hx hv
  simp only[List.getElem?_map,Option.map_eq_some_iff,Array.getElem?_map]at hx hv
  obtain⟨y,hy,rfl⟩:=hx
  obtain⟨z,hz,rfl⟩:=hv
  rw[Array.getElem?_toList]at hy
  rw[hy]at hz;cases hz
  exact(hI.aV y).aa
theorem VU(hI:Inv gl w0 aq e a w g){o:Oper}{x:Operand}{i:Nat}(ho:o.op=.extract x i){k:Slot→List af→Prop}
  (h:match(Ab.aV gl e x).aa with
  | .t vs=>(match vs[i]? with|some r=>k (.v r) e.boxes|none=>False)
  |_=>False):bp P gl w0 aq e.ai o a w k:=by
 split at h
 ·rename_i vs hs
  split at h
  ·rename_i r hr
   obtain⟨tv,hv,hl,hc⟩:=(hI.mJ hs).Ki
   have hi:i<tv.size:=by rw[←hl];exact(List.getElem?_eq_some_iff.1 hr).1
   exact bp.eX hI (v:=tv[i]) (by simp[execOp,ho,Instr.extract,hv,hi]) (hc i r _ hr (by simp)) h
  ·exact h.elim
 ·exact h.elim
theorem WX(hI:Inv gl w0 aq e a w g){o:Oper}{t:TypeId}{x:Operand}{f:Nat}(ho:o.op=.field t x f){k:Slot→List af→Prop}
  (h:ab (Ao P t f) fun fd=>ab (kG P fd.type) fun ly=>ab (uT ly.1 ly.2 fd.offset ((Ab.aV gl e x).aa).bP) fun r=>k (.v r) e.boxes):bp P gl w0 aq e.ai o a w k:=by
 obtain⟨fd,xy,h⟩:=aH h
 obtain⟨⟨b,n⟩,hl,h⟩:=aH h
 obtain⟨r,hr,hk⟩:=aH h
 obtain⟨fs,hu,DK⟩:=NY xy
 have hx:=hI.iq x
 generalize ((Ab.aV gl e x).aa).bP =sx at hr hx
 unfold uT at hr
 split at hr
 ·rename_i cs
  split at hr
  ·rename_i z hz
   cases hr
   obtain⟨vs,hv,bc,hf⟩:=hx.data.wR
   obtain⟨hb,hn,h1⟩:=Ft hl
   have hle:fd.offset+n≤cs.length:=by
    unfold pf at hz
    cases b
    ·simp only[cond_false]at hz;have:=(List.getElem?_eq_some_iff.1 hz).1;rw[h1 rfl];omega
    ·simp only[cond_true]at hz;split at hz<;>first|assumption|cases hz
   obtain⟨v,hp,vV⟩:=bc.valOf (P:=P) (off:=fd.offset) hb hn h1 hle
   refine bp.eX hI (v:=v) (by simp[execOp,ho,Instr.field,run_underlying hu,DK,hv,asAgg,hp]) (.d _ _ _ ?_) hk
   unfold pf at hz
   cases b
   ·simp only[cond_false]at hz
    simp only[ir,Bool.false_eq_true,if_false]at vV
    obtain⟨x',dK,vW⟩:=vV
    have aK:=(List.getElem?_eq_some_iff.1 hz).1
    rw[h1 rfl,List.drop_eq_getElem_cons aK,List.take_succ_cons,List.take_zero]at dK
    rw[List.getElem?_eq_getElem aK]at hz
    cases hz
    simp only[List.cons.injEq,and_true]at dK
    rw[dK];exact vW
   ·simp only[cond_true,hle,↓reduceIte,Option.some.injEq]at hz
    subst hz
    simp only[ir,if_true]at vV
    obtain⟨eK,rfl,vW⟩:=vV
    exact vW.agg (fun d hd=>hf d (List.mem_of_mem_drop (List.mem_of_mem_take hd)))
  ·cases hr
 ·cases hr
theorem WY(hI:Inv gl w0 aq e a w g){o:Oper}{t:TypeId}{x i:Operand}(ho:o.op=.index t x i){k:Slot→List af→Prop}
  (h:match P.underlying t with
  |some (.array n e')=>ab (kG P e') fun ly=>ab (JN ly.1 ly.2 n ((Ab.aV gl e x).aa).bP ((Ab.aV gl e i).aa).bP) fun r=>k (.v r) e.boxes
  |some .string =>ab (Kh ((Ab.aV gl e x).aa).bP ((Ab.aV gl e i).aa).bP) fun r=>k (.v r) e.boxes
  |_=>False):bp P gl w0 aq e.ai o a w k:=by
 have hx:=hI.iq x
 have hi:=hI.iq i
 generalize ((Ab.aV gl e x).aa).bP =sx at h hx
 generalize ((Ab.aV gl e i).aa).bP =si at h hi
 split at h
 ·rename_i n e' hu
  obtain⟨⟨b,m⟩,hl,h'⟩:=aH h
  clear h
  obtain⟨r,hr,hk⟩:=aH h'
  clear h'
  unfold JN at hr
  split at hr
  ·rename_i cs
   split at hr
   ·rename_i j hj
    split at hr
    ·rename_i z hz
     cases hr
     obtain⟨kk,ii,rfl,h1,h2,rfl⟩:=sX hj
     have sa:=hi.int
     obtain⟨vs,hv,bc,hf⟩:=hx.data.wR
     obtain⟨hb,hn,cg⟩:=Ft hl
     have hle:ii.toNat*m+m≤cs.length:=by
      unfold pf at hz
      cases b
      ·simp only[cond_false]at hz;have:=(List.getElem?_eq_some_iff.1 hz).1;rw[cg rfl]at*;omega
      ·simp only[cond_true]at hz;split at hz<;>first|assumption|cases hz
     obtain⟨v,hp,vV⟩:=bc.valOf (P:=P) (off:=ii.toNat*m) hb hn cg hle
     refine bp.eX hI (v:=v) ?_ (.d _ _ _ ?_) hk
     ·simp[execOp,ho,Instr.index,sa,asIntOf,run_underlying hu,hv,h1,h2,jP hn,hp]
     ·unfold pf at hz
      cases b
      ·simp only[cond_false]at hz
       simp only[ir,Bool.false_eq_true,if_false]at vV
       obtain⟨x',dK,vW⟩:=vV
       have aK:=(List.getElem?_eq_some_iff.1 hz).1
       rw[cg rfl]at dK hz aK
       rw[List.drop_eq_getElem_cons aK,List.take_succ_cons,List.take_zero]at dK
       rw[List.getElem?_eq_getElem aK]at hz
       cases hz
       simp only[List.cons.injEq,and_true]at dK
       rw[dK];exact vW
      ·simp only[cond_true,hle,↓reduceIte,Option.some.injEq]at hz
       subst hz
       simp only[ir,if_true]at vV
       obtain⟨eK,rfl,vW⟩:=vV
       exact vW.agg (fun d hd=>hf d (List.mem_of_mem_drop (List.mem_of_mem_take hd)))
    ·cases hr
   ·cases hr
  ·cases hr
 ·rename_i hu
  obtain⟨r,hr,hk⟩:=aH h
  unfold Kh at hr
  split at hr
  ·rename_i s
   split at hr
   ·rename_i j hj
    split at hr
    ·rename_i c hc
     cases hr
     obtain⟨kk,ii,rfl,h1,h2,rfl⟩:=sX hj
     have sa:=hi.int
     obtain⟨bs,hv,hs,_⟩:=hx.data.uL
     have aK:ii.toNat<bs.size:=by
      rw[hs]at h2
      simp only[Array.length_toList]at h2
      have:bs.size=bs.data.size:=rfl
      omega
     have hg:bs[ii.toNat]? =some c:=by
      rw[hs]at hc
      rw[getElem?_pos bs ii.toNat aK]
      have:bs.data.toList[ii.toNat]? =some bs[ii.toNat]:=by
       rw[Array.getElem?_toList,Array.getElem?_eq_getElem aK]
       rfl
      rw[this]at hc
      exact hc
     refine bp.eX hI (v:=.int .u8 c.toNat) ?_ (.d _ _ _ (.int _ _ ?_)) hk
     ·simp[execOp,ho,Instr.index,sa,asIntOf,run_underlying hu,hv,h1,hg]
     ·have:=c.toNat_lt
      simp[gm,IntKind.min,IntKind.max,IntKind.signed,IntKind.bits]
      omega
    ·cases hr
   ·cases hr
  ·cases hr
 ·exact h.elim
theorem NZ{sz:Nat}{x:SV}{L:List D}(h:elems sz x=some L){St:Nat→Nat→Prop}{base:Nat}{O:Nat→Nat→Nat→Prop}{v:Value}(r:aJ w St base O x v):
  ((v=.slice none 0 0∨∃ad c,v=.slice (some ad) 0 c)∧L=[])∨∃(b off cap:Nat) (vs:Nat→Value),v=.slice (some ⟨b,off,none⟩) L.length cap∧L.length≤cap∧L.length≤maxLen∧(∀x∈L,x.cells.length=sz)∧(∀x∈L,∀c∈x.cells,c.one=true)∧
    (∀(o:Nat),o<L.length*sz→w.cell? ⟨b,off+o,none⟩=some (vs o)∧St b (off+o))∧
    (∀(i:Nat)x(j:Nat)c,L[i]? =some x→x.cells[j]? =some c→aZ w St c (vs (i*sz+j))):=by
 have go:∀{s L' v},aZ w St (.sl .ro s L') v→((v=.slice none 0 0∨∃ad c,v=.slice (some ad) 0 c)∧L'=[])∨∃(b off cap:Nat) (vs:Nat→Value),v=.slice (some ⟨b,off,none⟩) L'.length cap∧L'.length≤cap∧L'.length≤maxLen∧(∀x∈L',x.cells.length=s)∧(∀x∈L',∀c∈x.cells,c.one=true)∧
   (∀(o:Nat),o<L'.length*s→w.cell? ⟨b,off+o,none⟩=some (vs o)∧St b (off+o))∧
   (∀(i:Nat)x(j:Nat)c,L'[i]? =some x→x.cells[j]? =some c→aZ w St c (vs (i*s+j))):=by
  intro s L' v hd
  cases hd with
  |sl _ _ b off cap vs bF hm aM hf aO hc=>exact .inr ⟨b,off,cap,vs,rfl,bF,hm,aM,hf,aO,hc⟩
  |ki _ ad c _=>exact .inl ⟨.inr ⟨ad,c,rfl⟩,rfl⟩
 unfold elems at h
 split at h
 ·rename_i k s L'
  split at h
  ·cases h
   have hd:=r.data
   cases hd
   exact .inl ⟨.inl rfl,rfl⟩
  ·split at h
   ·rename_i hs;cases h;subst hs;exact go r.data
   ·cases h
 ·split at h
  ·rename_i hs;cases h;subst hs
   cases r with
   |own _ _ _ gg cap hd bF ho=>exact go hd
  ·cases h
 ·split at h
  ·rename_i hs;cases h;subst hs
   cases r with
   |full _ _ _ ad hd=>exact go hd
  ·cases h
 ·cases h
theorem Vy(hI:Inv gl w0 aq e a w g){o:Oper}{t:TypeId}{x i:Operand}(ho:o.op=.indexAddr t x i){k:Slot→List af→Prop}
  (h:match P.underlying t with
  |some (.slice e')=>ab (ea P e') fun sz=>ab (aQ sz ((Ab.aV gl e x).aa).bP ((Ab.aV gl e i).aa).bP) fun r=>k (.v r) e.boxes
  |some (.array n e')=>ab (ea P e') fun sz=>ab (cM ((Ab.aV gl e i).aa).bP n) fun j=>(match(Ab.aV gl e x).aa with
   | .p b off=>k (.p b (off+j*sz)) e.boxes
   | .v y=>ab (bZ y (j*sz)) fun z=>k (.v z) e.boxes
   |_=>False)
  |_=>False):bp P gl w0 aq e.ai o a w k:=by
 have hi:=hI.iq i
 generalize ((Ab.aV gl e i).aa).bP =si at h hi
 split at h
 ·rename_i e' hu
  obtain⟨sz,aM,h⟩:=aH h
  obtain⟨r,hr,hk⟩:=aH h
  have hx:=hI.iq x
  generalize ((Ab.aV gl e x).aa).bP =sx at hr hx
  unfold aQ at hr
  split at hr
  ·rename_i n s cs
   split at hr
   ·rename_i j hj
    split at hr
    ·rename_i Lx
     cases hr
     subst Lx
     obtain⟨kk,ii,rfl,h1,h2,rfl⟩:=sX hj
     have sa:=hi.int
     generalize hv:a.eval x=u at hx
     cases hx with
     |cJ _ _ _ _ b cap vs eh hn hm aO hc=>
      refine bp.eX hI (v:=.pointer (some ⟨b,0+ii.toNat*s,none⟩)) ?_ (.ref _ cs (ii.toNat*s) b 0 vs eh aO hc) hk
      have:=pY b 0 (ii.toNat*s)
      simp[execOp,ho,Instr.indexAt,sa,asIntOf,run_underlying hu,hv,h1,h2,jP aM,this]
    ·cases hr
   ·cases hr
  split at hr
  ·rename_i L hL
   split at hr
   ·rename_i j hj
    split at hr
    ·rename_i y hy
     cases hr
     obtain⟨kk,ii,rfl,h1,h2,rfl⟩:=sX hj
     have sa:=hi.int
     rcases NZ hL hx with⟨_,rfl⟩|⟨b,off,cap,vs,hv,bF,hm,hs,hf,aO,hc⟩
     ·simp at h2;omega
     ·have aK:ii.toNat<L.length:=(List.getElem?_eq_some_iff.1 hy).1
      have ef:y∈L:=List.mem_of_getElem? hy
      refine bp.eX hI (v:=.pointer (some ⟨b,off+ii.toNat*sz,none⟩)) ?_ ?_ hk
      ·have:=pY b off (ii.toNat*sz)
       simp[execOp,ho,Instr.indexAt,sa,asIntOf,run_underlying hu,hv,h1,h2,jP aM,this]
      ·refine .aT _ y 0 b (off+ii.toNat*sz) (fun j=>vs (ii.toNat*sz+j)) (hf y ef) (fun j oN=>?_) (fun j c jl=>hc _ y j c hy jl)
       have:ii.toNat*sz+j<L.length*sz:=by
        rw[hs y ef]at oN
        have:(ii.toNat+1)*sz≤L.length*sz:=Nat.mul_le_mul_right _ aK
        rw[Nat.succ_mul]at this;omega
       rw[Nat.add_assoc]
       exact aO _ this
    ·cases hr
   ·cases hr
  ·cases hr
 ·rename_i n e' hu
  obtain⟨sz,aM,h⟩:=aH h
  obtain⟨j,hj,h⟩:=aH h
  obtain⟨kk,ii,rfl,h1,h2,rfl⟩:=sX hj
  have sa:=hi.int
  have ba:∀ad,a.eval x=.pointer (some ad)→(execOp a.eval o).run P w=.ok (.value (.pointer (some (ad.add (ii.toNat*sz))))) w:=by
   intro ad hv
   simp[execOp,ho,Instr.indexAt,sa,asIntOf,run_underlying hu,Instr.sureAddr,hv,h1,h2,jP aM]
  split at h
  ·rename_i b off hs
   obtain⟨an,hv,dh⟩:=(hI.mJ hs).mE
   refine bp.value hI (ba _ hv) ?_ h
   rw[pY]
   exact .p _ _ _ _ dh
  ·rename_i y hs
   obtain⟨z,hz,hk⟩:=aH h
   obtain⟨ad,hv,kN,hr⟩:=NX (O':=fun _ _ _=>False) hz (hI.pD hs)
   refine bp.eX hI (ba _ hv) ?_ hk
   obtain⟨b,o',sp⟩:=ad
   simp only at kN;subst kN
   rw[pY];exact hr
  ·exact h.elim
 ·exact h.elim
end
end Go.Proofs.Ytimbllcalipehaa.Ab
namespace Go.Proofs.Ytimbllcalipehaa.Ab
open Go Go.RowKit
section
variable{P:Program}{gl:Nat→Option D}{w0:World}{aq:S0}{e:Env}{a:Act}{w:World}{g:Gh}
inductive AF(w:World)(St:Nat→Nat→Prop)(base:Nat):Option SV→Option Value→Prop
 |none:AF w St base none none
 |some (s:SV) (v:Value) (h:aJ w St base (fun _ _ _=>False) s v):AF w St base (some s) (some v)
theorem Inv.opt(hI:Inv gl w0 aq e a w g)(x:Option Operand):AF w g.St w0.heap.size (Ab.pt (fun x=>(Ab.aV gl e x).aa) x) (x.map a.eval):=by
 cases x with
 |none=>exact .none
 |some y=>exact .some _ _ (hI.iq y)
theorem z5{n m:Nat}(c:BoundsCode){x:SV}{j:Nat}(h:cM x (n+1)=some j)(hm:n≤m){St:Nat→Nat→Prop}{base:Nat}{O:Nat→Nat→Nat→Prop}{v:Value}(r:aJ w St base O x v):
  (Instr.sliceBound v m c).run P w=.ok j w∧j≤n:=by
 obtain⟨kk,ii,rfl,h1,h2,rfl⟩:=sX h
 have hv:=r.int
 refine⟨?_,by omega⟩
 have:0≤ii∧ii≤(m:Int):=⟨h1,by omega⟩
 simp[Instr.sliceBound,hv,asIntOf,this]
theorem EL{n cap:Nat}(Tl:Bool)(hc:n≤cap){lo hi:Option SV}{DL DM:Option Value}{St:Nat→Nat→Prop}{base:Nat}(pE:AF w St base lo DL)(sc:AF w St base hi DM)
  {hh ll:Nat}(h1:yT n hi=some hh)(h2:vf hh lo=some ll):
  (Instr.sliceBounds Tl n cap DL DM none).run P w=.ok (ll,hh,cap) w∧hh≤n∧ll≤hh:=by
 unfold Instr.sliceBounds
 cases sc with
 |none=>
  simp only[yT,Option.some.injEq]at h1
  subst h1
  cases pE with
  |none=>simp only[vf,Option.some.injEq]at h2;subst h2;exact⟨by simp,Nat.le_refl _,Nat.zero_le _⟩
  |some s v r=>
   obtain⟨q1,q2⟩:=z5 (P:=P) (w:=w) .sliceB h2 (Nat.le_refl _) r
   exact⟨by simp[q1],Nat.le_refl _,q2⟩
 |some s v r=>
  obtain⟨p1,p2⟩:=z5 (P:=P) (w:=w) (if Tl then .sliceAcap else .sliceAlen) h1 hc r
  cases pE with
  |none=>simp only[vf,Option.some.injEq]at h2;subst h2;exact⟨by simp[p1],p2,Nat.zero_le _⟩
  |some s v r=>
   obtain⟨q1,q2⟩:=z5 (P:=P) (w:=w) .sliceB h2 (Nat.le_refl _) r
   exact⟨by simp[p1,q1],p2,q2⟩
theorem HS{n cap:Nat}(hc:n≤cap){lo:Option SV}{hi mx:SV}{DL:Option Value}{DM Tm:Value}{St:Nat→Nat→Prop}{base:Nat}(pE:AF w St base lo DL)
  (sc:aJ w St base (fun _ _ _=>False) hi DM)(vX:aJ w St base (fun _ _ _=>False) mx Tm)
  {hh mm ll:Nat}(h0:cM mx (n+1)=some mm)(h1:cM hi (n+1)=some hh)(he:hh=mm)(h2:vf hh lo=some ll):
  (Instr.sliceBounds true n cap DL (some DM) (some Tm)).run P w=.ok (ll,hh,hh) w∧hh≤n∧ll≤hh:=by
 unfold Instr.sliceBounds
 subst he
 obtain⟨o1,o2⟩:=z5 (P:=P) (w:=w) .slice3Acap h0 hc vX
 have sd:cM hi (hh+1)=some hh:=by
  obtain⟨kk,ii,rfl,a1,a2,a3⟩:=sX h1
  simp only[cM]
  rw[if_pos (by omega),←a3]
 obtain⟨p1,_⟩:=z5 (P:=P) (w:=w) .slice3B sd (Nat.le_refl _) sc
 cases pE with
 |none=>simp only[vf,Option.some.injEq]at h2;subst h2;exact⟨by simp[o1,p1],o2,Nat.zero_le _⟩
 |some s v r=>
  obtain⟨q1,q2⟩:=z5 (P:=P) (w:=w) .slice3C h2 (Nat.le_refl _) r
  exact⟨by simp[o1,p1,q1],o2,q2⟩
theorem On{L:List D}{lo hi:Option SV}{r:List D}(h:C0 L lo hi=some r):∃hh ll,yT L.length hi=some hh∧
  vf hh lo=some ll∧r=(L.take hh).drop ll:=by
 unfold C0 at h
 split at h
 ·rename_i hh h1
  split at h
  ·rename_i ll h2
   cases h
   exact⟨hh,ll,h1,h2,rfl⟩
  ·cases h
 ·cases h
theorem QF{St:Nat→Nat→Prop}{sz:Nat}{L:List D}{b off cap hh ll c':Nat}(h:aZ w St (.sl .ro sz L) (.slice (some ⟨b,off,none⟩) L.length cap))(hh':hh≤L.length)(hl:ll≤hh)(hc:hh-ll≤c'):
  aZ w St (.sl .ro sz ((L.take hh).drop ll)) (.slice (some ⟨b,off+ll*sz,none⟩) (hh-ll) c'):=by
 cases h with
 |ki _ _ _ ha=>exact absurd rfl ha
 |sl _ _ _ _ _ vs bF hm aM hf aO hc=>
  have hlen:((L.take hh).drop ll).length =hh-ll:=by simp;omega
  have:=aZ.sl (w:=w) (St:=St) sz ((L.take hh).drop ll) b (off+ll*sz) c' (fun o=>vs (ll*sz+o)) (by omega) (by omega)
   (fun x hx=>aM x (List.mem_of_mem_take (List.mem_of_mem_drop hx))) (fun x hx=>hf x (List.mem_of_mem_take (List.mem_of_mem_drop hx)))
   (fun o ho=>by
     rw[hlen]at ho
     rw[Nat.add_assoc]
     refine aO (ll*sz+o) ?_
     have:ll*sz+(hh-ll)*sz=hh*sz:=by rw[←Nat.add_mul];congr 1;omega
     have:hh*sz≤L.length*sz:=Nat.mul_le_mul_right _ hh'
     omega)
   (fun i x j c hx jl=>by
     rw[List.getElem?_drop,List.getElem?_take]at hx
     split at hx
     ·have:=hc (ll+i) x j c hx jl
      rw[Nat.add_mul,Nat.add_assoc]at this
      exact this
     ·cases hx)
  rw[hlen]at this
  exact this
theorem WZ(hI:Inv gl w0 aq e a w g){o:Oper}{t:TypeId}{x:Operand}{lo hi mx:Option Operand}(ho:o.op=.slice t x lo hi mx){k:Slot→List af→Prop}
  (h:ab (JM P t (Ab.aa ((Ab.aV gl e x).aa).bP) (Ab.pt (fun x=>(Ab.aV gl e x).aa) lo) (Ab.pt (fun x=>(Ab.aV gl e x).aa) hi) (Ab.pt (fun x=>(Ab.aV gl e x).aa) mx)) fun r=>k (.v r) e.boxes):
  bp P gl w0 aq e.ai o a w k:=by
 obtain⟨r,hr,hk⟩:=aH h
 clear h
 have hx:=(hI.iq x).aa (O':=fun _ _ _=>False)
 have pE:=hI.opt lo
 have sc:=hI.opt hi
 have vX:=hI.opt mx
 generalize Ab.aa ((Ab.aV gl e x).aa).bP =sx at hr hx
 generalize Ab.pt (fun x=>(Ab.aV gl e x).aa) lo=slo at hr pE
 generalize Ab.pt (fun x=>(Ab.aV gl e x).aa) hi=shi at hr sc
 generalize Ab.pt (fun x=>(Ab.aV gl e x).aa) mx=smx at hr vX
 unfold JM at hr
 split at hr
 ·
  rename_i hu
  split at hr
  ·rename_i s
   split at hr
   ·rename_i l hl
    cases hr
    obtain⟨bs,hv,hs,lW⟩:=hx.data.uL
    unfold Ro at hl
    split at hl
    ·rename_i hh h1
     split at hl
     ·rename_i ll h2
      cases hl
      have jI:s.length=bs.size:=by rw[hs,Array.length_toList];rfl
      rw[jI]at h1
      have hb:=EL (P:=P) (w:=w) false (Nat.le_refl bs.size) pE sc h1 h2
      have e2:mx.map a.eval=none:=by generalize mx.map a.eval=q at vX;cases vX;rfl
      refine bp.eX hI (v:=.string (bs.extract ll hh)) ?_ (.d _ _ _ ?_) hk
      ·simp[execOp,ho,Instr.sliceAt,run_underlying hu,Instr.slice,hv,hb.1,e2]
      ·have:(bs.extract ll hh).data.toList =(s.take hh).drop ll:=by
        rw[hs,ByteArray.data_extract,Array.toList_extract,List.extract_eq_drop_take']
       rw[←this]
       refine .str _ ?_
       have:(bs.extract ll hh).size ≤bs.size:=by rw[ByteArray.size_extract];omega
       omega
     ·cases hl
    ·cases hl
   ·cases hr
  ·cases hr
 ·
  rename_i e' hu
  split at hr
  ·rename_i kk sz L s hL hs
   have hd:=hx.cN hL
   split at hr
   ·
    rename_i rr KI
    obtain⟨hh,ll,h1,h2,rfl⟩:=On KI
    have e2:mx.map a.eval=none:=by generalize mx.map a.eval=q at vX;cases vX;rfl
    split at hr
    ·cases hr
     generalize hv:a.eval x=u at hd
     cases hd
     have hb:=EL (P:=P) (w:=w) true (Nat.le_refl 0) pE sc h1 h2
     have vY:ll=0:=by have:=hb.2;simp at this;omega
     have xA:hh=0:=by have:=hb.2;simp at this;omega
     subst vY xA
     refine bp.eX hI (v:=.slice none 0 0) ?_ (.d _ _ _ (.iJ _)) hk
     simp[execOp,ho,Instr.sliceAt,run_underlying hu,Instr.slice,hv,hb.1,e2,jP hs]
    ·split at hr
     ·rename_i aM
      cases hr
      subst aM
      generalize hv:a.eval x=u at hd
      have jm:=hd
      cases hd with
      |ki _ ad cap ha=>
       have hb:=EL (P:=P) (w:=w) true (Nat.zero_le cap) pE sc h1 h2
       have vY:ll=0:=by have:=hb.2;simp at this;omega
       have xA:hh=0:=by have:=hb.2;simp at this;omega
       subst vY xA
       refine bp.eX hI (v:=.slice (some ad) 0 cap) ?_ (.d _ _ _ (.ki _ ad cap ha)) hk
       simp only[execOp,ho,Instr.sliceAt,Sem.run_bind,run_underlying hu,Result.andThen_ok,Instr.slice,hv,e2,hb.1,jP hs]
       by_cases cY:cap=0
       ·simp[cY]
       ·simp[cY]
        rfl
      |sl _ _ b off cap vs bF hm _ hf aO hc=>
       have hb:=EL (P:=P) (w:=w) true bF pE sc h1 h2
       refine bp.eX hI (v:=.slice (some (if cap=ll then⟨b,off,none⟩else⟨b,off+ll*sz,none⟩)) (hh-ll) (cap-ll)) ?_ (.d _ _ _ ?_) hk
       ·have:=pY b off (ll*sz)
        simp only[execOp,ho,Instr.sliceAt,Sem.run_bind,run_underlying hu,Result.andThen_ok,Instr.slice,hv,e2,hb.1,jP hs]
        by_cases cY:cap=ll
        ·simp[cY]
        ·simp[cY,this]
       ·by_cases cY:cap=ll
        ·have hhl:hh=ll:=by omega
         have GG:ll=L.length:=by omega
         simp only[cY,↓reduceIte]
         have e0:(L.take hh).drop ll=[]:=List.drop_eq_nil_of_le (by simp;omega)
         rw[e0]
         have:=aZ.sl (w:=w) (St:=g.St) sz [] b off (ll-ll) vs (by simp) (by simp) (by simp) (by simp) (by simp) (by simp)
         simpa[hhl]using this
        ·simp only[cY,↓reduceIte]
         exact QF jm hb.2.1 hb.2.2 (by omega)
     ·cases hr
   ·
    rename_i rr m KI
    obtain⟨hh,ll,h1,h2,rfl⟩:=On KI
    split at hr
    ·rename_i Ly mm vZ
     split at hr
     ·rename_i k1 av k2 bv
      split at hr
      ·rename_i GI
       simp only[yT]at h1
       have Lz:hh=mm:=by
        obtain⟨_,i1,q1,_,_,q2⟩:=sX h1
        obtain⟨_,i2,q3,_,_,q4⟩:=sX vZ
        cases q1;cases q3;rw[q2,q4,GI]
       generalize GJ:hi.map a.eval=qh at sc
       generalize GK:mx.map a.eval=qm at vX
       cases sc with
       |some _ vh rh=>
        cases vX with
        |some _ vm rm=>
         split at hr
         ·cases hr
          generalize hv:a.eval x=u at hd
          cases hd
          have hb:=HS (P:=P) (w:=w) (Nat.le_refl 0) pE rh rm vZ h1 Lz h2
          have vY:ll=0:=by have:=hb.2;simp at this;omega
          have xA:hh=0:=by have:=hb.2;simp at this;omega
          subst vY xA
          refine bp.eX hI (v:=.slice none 0 0) ?_ (.d _ _ _ (.iJ _)) hk
          simp[execOp,ho,Instr.sliceAt,run_underlying hu,Instr.slice,hv,hb.1,GJ,GK,jP hs]
         ·split at hr
          ·rename_i aM
           cases hr
           subst aM
           generalize hv:a.eval x=u at hd
           have jm:=hd
           cases hd with
           |ki _ ad cap ha=>
            have hb:=HS (P:=P) (w:=w) (Nat.zero_le cap) pE rh rm vZ h1 Lz h2
            have vY:ll=0:=by have:=hb.2;simp at this;omega
            have xA:hh=0:=by have:=hb.2;simp at this;omega
            subst vY xA
            refine bp.eX hI (v:=.slice (some ad) 0 0) ?_ ?_ hk
            ·simp[execOp,ho,Instr.sliceAt,run_underlying hu,Instr.slice,hv,hb.1,GJ,GK,jP hs]
            ·exact .full _ sz [] ad (.ki sz ad 0 ha)
           |sl _ _ b off cap vs bF hm _ hf aO hc=>
            have hb:=HS (P:=P) (w:=w) bF pE rh rm vZ h1 Lz h2
            have hlen:((L.take hh).drop ll).length =hh-ll:=by simp;omega
            by_cases cY:hh=ll
            ·subst cY
             have e0:(L.take hh).drop hh=[]:=List.drop_eq_nil_of_le (by simp;omega)
             rw[e0]at hk
             refine bp.eX hI (v:=.slice (some ⟨b,off,none⟩) 0 0) ?_ ?_ hk
             ·simp[execOp,ho,Instr.sliceAt,run_underlying hu,Instr.slice,hv,hb.1,GJ,GK,jP hs]
             ·exact .full _ sz [] ⟨b,off,none⟩ (aZ.sl sz [] b off 0 vs (by simp) (by simp) (by simp) (by simp) (by simp) (by simp))
            ·refine bp.eX hI (v:=.slice (some ⟨b,off+ll*sz,none⟩) (hh-ll) (hh-ll)) ?_ ?_ hk
             ·have:=pY b off (ll*sz)
              simp[execOp,ho,Instr.sliceAt,run_underlying hu,Instr.slice,hv,hb.1,GJ,GK,jP hs,cY,this]
             ·have:=QF (c':=hh-ll) jm hb.2.1 hb.2.2 (Nat.le_refl _)
              rw[←hlen]at this ⊢
              exact .full _ sz _ _ this
          ·cases hr
      ·cases hr
     ·cases hr
    ·cases hr
   ·cases hr
  ·cases hr
 ·cases hr
end
end Go.Proofs.Ytimbllcalipehaa.Ab
namespace Go.Proofs.Ytimbllcalipehaa.Ab
open Go Go.RowKit
section
variable{P:Program}{gl:Nat→Option D}{w0:World}{aq:S0}{e:Env}{a:Act}{w:World}{g:Gh}
theorem Y1(hI:Inv gl w0 aq e a w g){o:Oper}{c:Call}(ho:o.op=.call c)(hc:c.callee=.builtin .len){x:Operand}{xs:List Operand}{t:TypeId}{ts:List TypeId}
  (hx:c.args.toList=x::xs)(ht:c.argTypes.toList=t::ts){k:Slot→List af→Prop}(h:ab (KF P t ((Ab.aV gl e x).aa).bP) fun r=>k (.v r) e.boxes):bp P gl w0 aq e.ai o a w k:=by
 obtain⟨r,hr,hk⟩:=aH h
 have dK:=hI.iq x
 generalize ((Ab.aV gl e x).aa).bP =sx at hr dK
 have h0:c.args[0]? =some x:=by rw[←Array.getElem?_toList,hx];rfl
 have h1:c.argTypes[0]? =some t:=by rw[←Array.getElem?_toList,ht];rfl
 have ba:∀v,(Builtin.len_ c.argTypes o.type (c.args.map a.eval)).run P w=.ok v w→(execOp a.eval o).run P w=.ok (.value v) w:=by
  intro v hv
  simp[execOp,ho,resolve,hc,invoke,builtin,hv]
 unfold KF at hr
 split at hr
 ·rename_i hu
  split at hr
  ·rename_i s
   cases hr
   obtain⟨bs,hv,hs,hm⟩:=dK.data.uL
   refine bp.eX hI (v:=.int .i64 bs.size) (ba _ ?_) (.d _ _ _ ?_) hk
   ·simp[Builtin.len_,h0,h1,run_underlying hu,hv,goInt]
   ·have:(bs.size:Int)=(s.length:Int):=by rw[hs,Array.length_toList];rfl
    rw[this]
    refine .int _ _ ?_
    have:s.length=bs.size:=by rw[hs,Array.length_toList];rfl
    simp only[maxLen]at hm
    simp[gm,IntKind.min,IntKind.max,IntKind.signed,IntKind.bits]
    omega
  ·cases hr
 ·rename_i n e' hu
  cases hb:Nat.ble n maxLen with
  |false=>rw[hb]at hr;cases hr
  |true=>
   rw[hb]at hr
   cases hr
   have hm:=Nat.le_of_ble_eq_true hb
   refine bp.eX hI (v:=.int .i64 n) (ba _ ?_) (.d _ _ _ (.int _ _ ?_)) hk
   ·simp[Builtin.len_,h0,h1,run_underlying hu,goInt]
   ·simp only[maxLen]at hm
    simp[gm,IntKind.min,IntKind.max,IntKind.signed,IntKind.bits]
    omega
 ·rename_i e' hu
  split at hr
  ·rename_i n s cs
   cases hr
   generalize hv:a.eval x=u at dK
   cases dK with
   |cJ _ _ _ _ b cap vs eh hn hm aO hc=>
    refine bp.eX hI (v:=.int .i64 n) (ba _ ?_) (.d _ _ _ (.int _ _ ?_)) hk
    ·simp[Builtin.len_,h0,h1,run_underlying hu,hv,goInt]
    ·simp only[maxLen]at hm
     simp[gm,IntKind.min,IntKind.max,IntKind.signed,IntKind.bits]
     omega
  split at hr
  ·rename_i L hL
   cases hr
   have key:∃ad cap,a.eval x=.slice ad L.length cap∧L.length≤maxLen:=by
    have go:∀{s L' v},aZ w g.St (.sl .ro s L') v→∃ad cap,v=.slice ad L'.length cap∧L'.length≤maxLen:=by
     intro s L' v hd
     cases hd with
     |sl _ _ b off cap vs bF hm aM hf aO hc=>exact⟨_,_,rfl,hm⟩
     |ki _ ad c _=>exact⟨_,_,rfl,by simp⟩
    unfold Cd at hL
    split at hL
    ·rename_i k' s' L' _
     cases hL
     have hd:=dK.data
     cases k'
     ·generalize a.eval x=u at hd;cases hd;exact⟨_,_,rfl,by simp⟩
     ·exact go hd
    ·cases hL
     generalize a.eval x=u at dK
     cases dK with
     |own _ _ _ gg cap hd bF ho=>exact go hd
    ·cases hL
     generalize a.eval x=u at dK
     cases dK with
     |full _ _ _ ad hd=>exact go hd
    ·cases hL
   obtain⟨ad,cap,hv,hm⟩:=key
   refine bp.eX hI (v:=.int .i64 L.length) (ba _ ?_) (.d _ _ _ (.int _ _ ?_)) hk
   ·simp[Builtin.len_,h0,h1,run_underlying hu,hv,goInt]
   ·simp only[maxLen]at hm
    simp[gm,IntKind.min,IntKind.max,IntKind.signed,IntKind.bits]
    omega
  ·cases hr
 ·cases hr
theorem NA(off:Nat):∀(l:List Value)(k:Nat)(cells:Array Value)(i:Nat),off+k+l.length≤cells.size→
  ((l.zipIdx k).foldl (fun cs(c,j)=>cs.setIfInBounds (off+j) c) cells).size =cells.size∧
  ((l.zipIdx k).foldl (fun cs(c,j)=>cs.setIfInBounds (off+j) c) cells)[i]? =if off+k≤i∧i<off+k+l.length then l[i-(off+k)]? else cells[i]?
 |[],k,cells,i,_=>by
  refine⟨rfl,?_⟩
  rw[if_neg (by simp;try omega)]
  simp
 |v::l,k,cells,i,h=>by
  simp only[List.length_cons]at h
  simp only[List.zipIdx_cons,List.foldl_cons]
  obtain⟨h1,h2⟩:=NA off l (k+1) (cells.setIfInBounds (off+k) v) i (by simp;omega)
  refine⟨by rw[h1];simp,?_⟩
  rw[h2]
  by_cases hi:i=off+k
  ·subst hi
   rw[if_neg (by omega),if_pos (by simp)]
   simp only[Nat.sub_self,List.getElem?_cons_zero]
   rw[Array.getElem?_setIfInBounds_self]
   rw[if_pos (by omega)]
  ·by_cases hr:off+(k+1)≤i∧i<off+(k+1)+l.length
   ·rw[if_pos hr,if_pos (by simp;omega)]
    have:i-(off+k)=(i-(off+(k+1)))+1:=by omega
    rw[this,List.getElem?_cons_succ]
   ·rw[if_neg hr,if_neg (by simp;omega),Array.getElem?_setIfInBounds_ne (by omega)]
def IS(w:World)(St:Nat→Nat→Prop):List (Nat×D)→List (Nat×Value)→Prop
 |[],[]=>True
 |(i,d)::l,(j,v)::m=>i=j∧aZ w St d v∧IS w St l m
 |_,_=>False
theorem aZ.XQ{St:Nat→Nat→Prop}{d:D}{v:Value}(r:aZ w St d v):kE w St d.cells v.cells:=by
 by_cases h:d.one=true
 ·have h1:=r.rl h
  have hc:d.cells=[d]:=by cases d<;>first|rfl|simp[D.one]at h
  have hv:v.cells= #[v]:=by cases v<;>first|rfl|simp[Value.oneCell']at h1
  rw[hc,hv]
  refine⟨rfl,fun i x y hx hy=>?_⟩
  cases i with
  |zero=>simp at hx hy;subst hx hy;exact r
  |succ i=>simp at hx
 ·cases d<;>simp only[D.one,not_true_eq_false]at h
  obtain⟨vs,rfl,hr,_⟩:=r.wR
  exact hr
theorem IT{St:Nat→Nat→Prop}(place:Nat→Option (Nat×Nat)):∀(ps:List (Nat×D))(qs:List (Nat×Value))(cs:List D)(cells:Array Value)(r:List D),
  IS w St ps qs→kE w St cs cells→(∀d∈cs,d.one=true)→tH place cs ps=some r→
  ∃r',Instr.fill place cells qs=some r'∧kE w St r r'∧∀d∈r,d.one=true
 |[],[],cs,cells,r,_,hc,hf,h=>by
  simp only[tH,Option.some.injEq]at h
  subst h
  exact⟨cells,rfl,hc,hf⟩
 |(i,d)::ps,(j,v)::qs,cs,cells,r,hp,hc,hf,h=>by
  obtain⟨rfl,hd,hp⟩:=hp
  simp only[tH]at h
  split at h
  ·cases h
  ·rename_i off sz eS
   split at h
   ·rename_i AU
    have Tn:=hd.XQ
    have aM:v.cells.size=sz:=by rw[←Tn.1];exact AU.1
    have hle:off+sz≤cells.size:=by rw[←hc.1];exact AU.2
    have hg:=fun i=>NA off v.cells.toList 0 cells i (by simp[aM];omega)
    simp only[Nat.add_zero,Array.length_toList,aM]at hg
    have ad1:v.cells.zipIdx.foldl (fun cs(c,j)=>cs.setIfInBounds (off+j) c) cells=(v.cells.toList.zipIdx.foldl (fun cs(c,j)=>cs.setIfInBounds (off+j) c) cells):=by
     rw[←Array.foldl_toList,Array.toList_zipIdx]
    obtain⟨r',h1,h2,h3⟩:=IT place ps qs _ (v.cells.zipIdx.foldl (fun cs(c,j)=>cs.setIfInBounds (off+j) c) cells) r hp (by
     rw[ad1]
     constructor
     ·rw[(hg 0).1,←hc.1];simp[AU.1];omega
     ·intro i x y hx hy
      rw[(hg i).2]at hy
      have:=uD cs d.cells off (by rw[AU.1];exact AU.2) i
      rw[AU.1]at this
      rw[this]at hx
      split at hx
      ·rename_i h1
       rw[if_neg (by omega)]at hy
       exact hc.2 i x y hx hy
      ·rename_i h1
       split at hx
       ·rename_i h2
        rw[if_pos (by omega)]at hy
        rw[Array.getElem?_toList]at hy
        exact Tn.2 _ x y hx hy
       ·rename_i h2
        rw[if_neg (by omega)]at hy
        exact hc.2 i x y hx hy) (by
     intro x hx
     simp only[List.mem_append]at hx
     rcases hx with(hx|hx)|hx
     ·exact hf x (List.mem_of_mem_take hx)
     ·exact hd.O0 x hx
     ·exact hf x (List.mem_of_mem_drop hx)) h
    refine⟨r',?_,h2,h3⟩
    rw[Instr.fill]
    simp only[eS,aM]
    rw[if_neg (by simp;omega)]
    exact h1
   ·cases h
 |[],_::_,_,_,_,h,_,_,_=>h.elim
 |_::_,[],_,_,_,h,_,_,_=>h.elim
theorem H7(hI:Inv gl w0 aq e a w g):∀{ps:List (Nat×Operand)}{l:List (Nat×D)},od (fun x=>(Ab.aV gl e x).aa) ps=some l→IS w g.St l (ps.map fun(i,x)=>(i,a.eval x))
 |[],l,h=>by simp only[od,Option.some.injEq]at h;subst h;trivial
 |(i,x)::ps,l,h=>by
  simp only[od]at h
  split at h
  ·rename_i y hy
   split at h
   ·rename_i z hz
    split at h
    ·rename_i r hr
     cases h
     exact⟨rfl,(hI.pD hy).cN hz,H7 hI hr⟩
    ·cases h
   ·cases h
  ·cases h
theorem N0:∀{fs:List Field}{l:List (Nat×Nat)},Cr P fs=some l→(fs.mapM (m:=Sem) fun f=>do pure (f.offset,←sizeOf f.type)).run P w=.ok l w
 |[],l,h=>by simp only[Cr,Option.some.injEq]at h;subst h;rfl
 |f::fs,l,h=>by
  simp only[Cr]at h
  split at h
  ·rename_i s hs
   split at h
   ·rename_i r hr
    cases h
    simp only[List.mapM_cons,Sem.run_bind,jP hs,Result.andThen_ok,Sem.run_pure,N0 hr]
   ·cases h
  ·cases h
theorem W0(hI:Inv gl w0 aq e a w g){o:Oper}{t:TypeId}{ps:Array (Nat×Operand)}(ho:o.op=.build t ps){k:Slot→List af→Prop}
  (h:ab (od (fun x=>(Ab.aV gl e x).aa) ps.toList) fun l=>ab (cS P t l) fun r=>k (.v (.d r)) e.boxes):bp P gl w0 aq e.ai o a w k:=by
 obtain⟨l,hl,h⟩:=aH h
 obtain⟨r,hr,hk⟩:=aH h
 have hp:=H7 hI hl
 unfold cS at hr
 split at hr
 ·rename_i z hz
  split at hr
  ·rename_i pl eS
   split at hr
   ·rename_i cs bS
    cases hr
    obtain⟨zv,kP,zq,wZ,Kk⟩:=HK hz
    obtain⟨r',h1,h2,h3⟩:=IT (w:=w) (St:=g.St) pl l _ z zv.cells cs hp ⟨zq,fun i x v=>Kk w g.St i x v⟩ wZ bS
    refine bp.eX hI (v:=.agg r') ?_ (.d _ _ _ (h2.agg h3)) hk
    have CN:(ps.map fun(i,x)=>(i,a.eval x)).toList =ps.toList.map fun(i,x)=>(i,a.eval x):=by simp
    unfold NV at eS
    split at eS
    ·rename_i fs hu
     split at eS
     ·rename_i ll GG
      cases eS
      have hm:(fs.mapM (m:=Sem) fun f=>do pure (f.offset,←sizeOf f.type)).run P w=.ok ll.toArray w:=by
       have e1:fs=fs.toList.toArray:=by simp
       rw[e1,List.mapM_toArray,Sem.run_map,N0 GG]
       rfl
      simp only[execOp,ho,Sem.run_bind,Instr.build,kP,Result.andThen_ok,run_underlying hu,hm]
      rw[CN]
      have:(fun x:Nat=>ll.toArray[x]?)=fun i=>ll[i]? :=by funext i;simp
      rw[this,h1]
      rfl
     ·cases eS
    ·rename_i n e' hu
     split at eS
     ·rename_i s hs
      cases eS
      simp only[execOp,ho,Sem.run_bind,Instr.build,kP,Result.andThen_ok,run_underlying hu,jP hs]
      rw[CN,h1]
      rfl
     ·cases eS
    ·cases eS
   ·cases hr
  ·cases hr
 ·cases hr
theorem N1(sz n:Nat):∀(l:List (Nat×D))(cs:List D),cs.length=n*sz→bf sz n l=true→
  ∃r,tH (fun i=>some (i*sz,sz)) cs l=some r∧r.length=n*sz∧∀i j,i<n→j<sz→r[i*sz+j]? =(match pX i l with|some x=>x.cells[j]? |none=>cs[i*sz+j]?)
 |[],cs,h,_=>⟨cs,rfl,h,fun i j _ _=>rfl⟩
 |(i0,d)::l,cs,h,hp=>by
  simp only[bf,Bool.and_eq_true]at hp
  obtain⟨⟨h1,h2⟩,h3⟩:=hp
  have v3:i0<n:=Nat.lt_of_succ_le (Nat.le_of_ble_eq_true h1)
  have hd:=Nat.eq_of_beq_eq_true h2
  have hle:i0*sz+sz≤n*sz:=by
   have:(i0+1)*sz≤n*sz:=Nat.mul_le_mul_right _ v3
   rw[Nat.succ_mul]at this;exact this
  obtain⟨r,q1,q2,q3⟩:=N1 sz n l (cs.take (i0*sz)++d.cells++cs.drop (i0*sz+sz)) (by rw[List.length_append,List.length_append,List.length_take,List.length_drop,hd,h];omega) h3
  refine⟨r,?_,q2,fun i j hi hj=>?_⟩
  ·simp only[tH]
   rw[if_pos ⟨hd,by rw[h];exact hle⟩]
   exact q1
  ·rw[q3 i j hi hj]
   cases DN:pX i l with
   |some y=>simp only[pX,DN]
   |none=>
    simp only[pX,DN]
    have:=uD cs d.cells (i0*sz) (by rw[hd,h];exact hle) (i*sz+j)
    rw[hd]at this
    rw[this]
    cases hb:i==i0 with
    |true=>
     have:i=i0:=by simpa using hb
     subst this
     rw[if_neg (by omega),if_pos (by omega)]
     simp
    |false=>
     have bg:i≠i0:=by simpa using hb
     simp only[cond_false]
     rcases Nat.lt_or_ge i i0 with aK|mb
     ·have:(i+1)*sz≤i0*sz:=Nat.mul_le_mul_right _ aK
      rw[Nat.succ_mul]at this
      rw[if_pos (by omega)]
     ·have:(i0+1)*sz≤i*sz:=Nat.mul_le_mul_right _ (by omega)
      rw[Nat.succ_mul]at this
      rw[if_neg (by omega),if_neg (by omega)]
theorem HH(zero:D)(l:List (Nat×D)):∀(n s i:Nat),(bj zero l n s).length =n∧(i<n→(bj zero l n s)[i]? =some (match pX (s+i) l with|some x=>x|none=>zero))
 |0,s,i=>⟨rfl,fun h=>by omega⟩
 |n+1,s,i=>by
  refine⟨by simp[bj,(HH zero l n (s+1) 0).1],fun h=>?_⟩
  cases i with
  |zero=>rfl
  |succ i=>
   have:=(HH zero l n (s+1) i).2 (by omega)
   simp only[bj,List.getElem?_cons_succ]
   rw[this]
   have:s+1+i=s+(i+1):=by omega
   rw[this]
theorem bp.aao(hI:Inv gl w0 aq e a w g){o:Oper}{cells:Array Value}{t:TypeId}{s:SV}{v:Value}{k:Slot→List af→Prop}
  (ba:(execOp a.eval o).run P w=.ok (.value v) (w.alloc (.cells cells t)))
  (rep:∀(g':Gh),(∀o,g'.St w.heap.size o)→Ext w0.heap.size w g (w.alloc (.cells cells t)) g' (fun _=>False)→aJ (w.alloc (.cells cells t)) g'.St w0.heap.size (fun _ _ _=>False) s v)
  (hk:k (.v s) e.boxes):bp P gl w0 aq e.ai o a w k:=by
 intro next Q hn
 unfold Oper.wp
 rw[ba]
 have hle:w0.heap.size≤w.heap.size:=hI.below.size
 have hX:Ext w0.heap.size w g (w.alloc (.cells cells t)) {g with St:=fun b o=>g.St b o∨b=w.heap.size} (fun _=>False):=by
  refine⟨fun D o hb ho h=>⟨(jt w _ D (fT h)).trans h,hb,ho,fun x hx=>hx.elim id fun e=>(by have:=fT h;omega)⟩,fun b o h=>⟨.inl h,.ri (jt w _ b (hI.pv h))⟩,fun b o h=>HF w _ b o (by omega),fun i an h=>h,fun p b a c _ ho=>?_,.of fun b hb=>jt w _ b hb⟩
  have aK:=ho.lt
  obtain⟨h1,h2,h3,⟨cur,ty,h4,lu⟩,h5⟩:=ho
  exact⟨⟨h1,h2,h3,⟨cur,ty,(jt w _ b aK).trans h4,lu⟩,fun o ho=>by rintro(h|h);exact h5 o ho h;omega⟩,fun _=>jt w _ b aK⟩
 have hr:=rep {g with St:=fun b o=>g.St b o∨b=w.heap.size} (fun _=>Or.inr rfl) hX
 refine hn (.v s) _ _ _ {g with St:=fun b o=>g.St b o∨b=w.heap.size} (hI.F2 (g':={g with St:=fun b o=>g.St b o∨b=w.heap.size})
  ⟨hX.df,hX.st,hX.bs,hX.bx,fun p b a c _ ho=>hX.own p b a c (fun h=>h) ho,hX.sh⟩ ((Below.refl _ _).alloc (Nat.le_refl _) _) (fun d _=>?_) rfl (fun b o h=>?_)) hk
 ·exact .v _ _ _ (hr.mono (fun _ _ h=>⟨h,.refl _ _ _⟩) (fun _ _ _=>rfl) _ (fun _ _ _ h=>h.elim))
 ·have hs:=B4 w (.cells cells t)
  rcases h with h|h
  ·exact .inl h
  ·right;omega
theorem NJ{b:Bool}{z:List D}(hf:∀d∈z,d.one=true)(h1:b=false→z.length=1):(br b z).cells =z:=by
 unfold br
 cases b
 ·obtain⟨x,rfl⟩:=List.length_eq_one_iff.1 (h1 rfl)
  have:=hf x (by simp)
  cases x<;>first|rfl|simp[D.one]at this
 ·rfl
theorem B5{t e':TypeId}(h:nZ P t=some e'):P.underlying t=some (.slice e'):=by
 unfold nZ at h
 split at h
 ·rename_i lp hu;cases h;exact hu
 ·cases h
theorem Np(hI:Inv gl w0 aq e a w g){o:Oper}{t:TypeId}{n:Nat}{ps:Array (Nat×Operand)}(ho:o.op=.buildSlice t n ps){K:Nat→List D→Prop}
  (h:ab (nZ P t) fun e'=>ab (kG P e') fun ly=>ab (nT P e') fun z=>ab (od (fun x=>(Ab.aV gl e x).aa) ps.toList) fun l=>
    bif Nat.ble (n*ly.2) (2^24)&&Nat.blt 0 ly.2&&Nat.beq z.length ly.2 then(bf ly.2 n l=true∧K ly.2 (bj (br ly.1 z) l n 0))else False):
  ∃(r':Array Value) (e':TypeId) (sz:Nat) (L:List D),K sz L∧(execOp a.eval o).run P w=.ok (.value (.slice (some ⟨w.heap.size,0,none⟩) L.length L.length)) (w.alloc (.cells r' e'))∧r'.size=L.length*sz∧
   L.length≤maxLen∧(∀x∈L,x.cells.length=sz∧∀c∈x.cells,c.one=true)∧∀(i:Nat)x(j:Nat)c,L[i]? =some x→x.cells[j]? =some c→i*sz+j<r'.size∧aZ w g.St c (r'.getD (i*sz+j) undef):=by
 obtain⟨e',he,h⟩:=aH h
 obtain⟨⟨b,sz⟩,hl,h⟩:=aH h
 obtain⟨z,hz,h⟩:=aH h
 obtain⟨l,hp,h⟩:=aH h
 cases hc:(Nat.ble (n*sz) (2^24)&&Nat.blt 0 sz&&Nat.beq z.length sz)with
 |false=>simp only[hc,cond_false]at h
 |true=>
  simp only[hc,cond_true]at h
  simp only[Bool.and_eq_true]at hc
  obtain⟨⟨Lv,LA⟩,LB⟩:=hc
  obtain⟨oB,hk⟩:=h
  have hlen:=Nat.eq_of_beq_eq_true LB
  have LC:=Nat.le_of_ble_eq_true Lv
  have A6:0<sz:=Nat.lt_of_succ_le (Nat.le_of_ble_eq_true LA)
  have hu:=B5 he
  obtain⟨hb,hn,cg⟩:=Ft hl
  obtain⟨zv,kP,zq,wZ,Kk⟩:=HK hz
  have CO:=H7 hI hp
  have gB:zv.cells.size=sz:=by rw[←zq,hlen]
  have To:kE w g.St ((List.range (n*sz)).map fun i=>z.getD (i % sz) .oa) ((Array.range (n*sz)).map (zv.cells[· % zv.cells.size]!))∧
    ∀d∈((List.range (n*sz)).map fun i=>z.getD (i % sz) .oa),d.one=true:=by
   have hm:∀i,i % sz<z.length:=fun i=>by rw[hlen];exact Nat.mod_lt _ A6
   constructor
   ·refine⟨by simp,fun i x v hx hv=>?_⟩
    simp only[List.getElem?_map,Option.map_eq_some_iff]at hx
    obtain⟨j,hj,rfl⟩:=hx
    have hi:i<n*sz:=by have:=(List.getElem?_eq_some_iff.1 hj).1;simpa using this
    rw[List.getElem?_range hi]at hj
    cases hj
    have iR:=hm i
    have GL:i % sz<zv.cells.size:=by rw[gB];exact Nat.mod_lt _ A6
    simp[hi,gB]at hv
    rw[getElem!_pos zv.cells (i % sz) GL]at hv
    subst hv
    refine Kk w g.St (i % sz) _ _ ?_ (Array.getElem?_eq_getElem GL)
    rw[List.getD_eq_getElem?_getD,List.getElem?_eq_getElem iR];rfl
   ·intro d hd
    simp only[List.mem_map,List.mem_range]at hd
    obtain⟨i,hi,rfl⟩:=hd
    have iR:=hm i
    rw[List.getD_eq_getElem?_getD,List.getElem?_eq_getElem iR]
    exact wZ _ (List.getElem_mem iR)
  obtain⟨r,q1,q2,q3⟩:=N1 sz n l ((List.range (n*sz)).map fun i=>z.getD (i % sz) .oa) (by simp) oB
  obtain⟨r',f1,f2,f3⟩:=IT (w:=w) (St:=g.St) _ l _ _ _ r CO To.1 To.2 q1
  have CN:(ps.map fun(i,x)=>(i,a.eval x)).toList =ps.toList.map fun(i,x)=>(i,a.eval x):=by simp
  have SC:r'.size=n*sz:=by rw[←f2.1,q2]
  have hL:=HH (br b z) l n 0
  have C2:=(hL 0).1
  have LD:∀i x,pX i l=some x→x.cells.length=sz∧∀c∈x.cells,c.one=true:=by
   intro i x hx
   clear hL C2 q1 q2 q3 f1 f2 f3 hp hk
   revert oB CO
   generalize (ps.toList.map fun(i,x)=>(i,a.eval x))=qs
   intro oB CO
   induction l generalizing qs with
   |nil=>simp[pX]at hx
   |cons p l ih=>
    obtain⟨j,d⟩:=p
    cases qs with
    |nil=>exact CO.elim
    |cons q qs=>
     obtain⟨j',v⟩:=q
     obtain⟨_,hd,zr⟩:=CO
     simp only[bf,Bool.and_eq_true]at oB
     simp only[pX]at hx
     split at hx
     ·rename_i y hy
      cases hx
      exact ih hy qs oB.2 zr
     ·cases hb:i==j<;>rw[hb]at hx<;>simp only[cond_true,cond_false,Option.some.injEq,reduceCtorEq]at hx
      subst hx
      exact⟨Nat.eq_of_beq_eq_true oB.1.2,hd.O0⟩
  have gD:∀i x,(bj (br b z) l n 0)[i]? =some x→i<n∧x=(match pX i l with|some x=>x|none=>br b z):=by
   intro i x hx
   have hi:i<n:=by rw[←C2];exact(List.getElem?_eq_some_iff.1 hx).1
   have:=(hL i).2 hi
   rw[this]at hx
   simp only[Nat.zero_add]at hx
   exact⟨hi,(Option.some.inj hx).symm⟩
  have Tp:(br b z).cells =z:=NJ wZ (fun h=>by rw[hlen];exact cg h)
  have gU:∀x∈bj (br b z) l n 0,x.cells.length=sz∧∀c∈x.cells,c.one=true:=by
   intro x hx
   obtain⟨i,hi⟩:=List.mem_iff_getElem?.1 hx
   obtain⟨_,rfl⟩:=gD i x hi
   split
   ·rename_i y hy;exact LD _ _ hy
   ·rw[Tp];exact⟨hlen,wZ⟩
  have lW:n≤maxLen:=by
   have:n*1≤n*sz:=Nat.mul_le_mul_left _ A6
   simp only[maxLen];omega
  have ba:(execOp a.eval o).run P w=.ok (.value (.slice (some ⟨w.heap.size,0,none⟩) n n)) (w.alloc (.cells r' e')):=by
   have hif:¬(n*sz>2^24):=by omega
   have hns:¬(n*sz=0∧n≠0):=by
    rintro⟨h1,h2⟩
    rcases Nat.mul_eq_zero.1 h1 with h|h<;>omega
   simp only[execOp,ho,Sem.run_bind,Instr.buildSlice,run_underlying hu,Result.andThen_ok,jP hn,hif,if_false]
   by_cases h0:n*sz=0
   ·have zt:(Array.range (n*sz)).map (fun x=>(#[]:Array Value)[x % (#[]:Array Value).size]!)=(Array.range (n*sz)).map (zv.cells[· % zv.cells.size]!):=by rw[h0];simp
    simp only[if_pos h0,Sem.run_bind,Sem.run_pure,Result.andThen_ok]
    rw[zt,CN,f1]
    simp[newRow]
   ·simp only[if_neg h0,Sem.run_bind,Sem.run_pure,Result.andThen_ok,kP]
    rw[CN,f1]
    simp[newRow]
  refine⟨r',e',sz,bj (br b z) l n 0,hk,by rw[C2];exact ba,by rw[C2];exact SC,by rw[C2];exact lW,gU,fun i x j c hx hc=>?_⟩
  obtain⟨hi,rfl⟩:=gD i x hx
  have hj:j<sz:=by
   have h1:=(gU _ (List.mem_of_getElem? hx)).1
   have h2:=(List.getElem?_eq_some_iff.1 hc).1
   omega
  have aK:i*sz+j<n*sz:=by
   have:(i+1)*sz≤n*sz:=Nat.mul_le_mul_right _ hi
   rw[Nat.succ_mul]at this;omega
  have hq:=q3 i j hi hj
  have hcr:r[i*sz+j]? =some c:=by
   rw[hq]
   cases DN:pX i l with
   |some y=>rw[DN]at hc;exact hc
   |none=>
    rw[DN]at hc
    simp only at hc
    rw[Tp]at hc
    simp only
    rw[List.getElem?_map,List.getElem?_range aK]
    have y2:(i*sz+j) % sz=j:=by rw[Nat.add_comm,Nat.add_mul_mod_self_right,Nat.mod_eq_of_lt hj]
    simp only[Option.map_some,y2,List.getD_eq_getElem?_getD,hc,Option.getD_some]
  have A5:i*sz+j<r'.size:=by rw[SC];exact aK
  refine⟨A5,f2.2 (i*sz+j) c _ hcr ?_⟩
  simp[A5]
theorem Vr(hI:Inv gl w0 aq e a w g){o:Oper}{t:TypeId}{n:Nat}{ps:Array (Nat×Operand)}(ho:o.op=.buildSlice t n ps){k:Slot→List af→Prop}
  (h:ab (nZ P t) fun e'=>ab (kG P e') fun ly=>ab (nT P e') fun z=>ab (od (fun x=>(Ab.aV gl e x).aa) ps.toList) fun l=>
    bif Nat.ble (n*ly.2) (2^24)&&Nat.blt 0 ly.2&&Nat.beq z.length ly.2 then(bf ly.2 n l=true∧k (.v (.full ly.2 (bj (br ly.1 z) l n 0))) e.boxes)else False):
  bp P gl w0 aq e.ai o a w k:=by
 obtain⟨r',e',sz,L,hk,ba,aM,lW,gU,bc⟩:=Np hI ho (K:=fun sz L=>k (.v (.full sz L)) e.boxes) h
 refine bp.aao hI (cells:=r') (t:=e') ba (fun g' aR hX=>?_) hk
 refine .full (w:=w.alloc (.cells r' e')) (St:=g'.St) (base:=w0.heap.size) (fun _ _ _=>False) sz L ⟨w.heap.size,0,none⟩ ?_
 refine aZ.sl (w:=w.alloc (.cells r' e')) (St:=g'.St) sz L w.heap.size 0 L.length (fun o=>r'.getD o undef) (Nat.le_refl _) lW (fun x hx=>(gU x hx).1) (fun x hx=>(gU x hx).2)
  (fun o' bN=>⟨by
    rw[cell_of_row _ w.heap.size (0+o') r' e' (0,0) (wH w _)]
    simp[aM,bN],aR _⟩) (fun i x j c hx hc=>hX.A4 (bc i x j c hx hc).2)
theorem bp.QG(hI:Inv gl w0 aq e a w g){o:Oper}{cells:Array Value}{t:TypeId}{sz:Nat}{L:List D}{k:Slot→List af→Prop}
  (ba:(execOp a.eval o).run P w=.ok (.value (.slice (some ⟨w.heap.size,0,none⟩) L.length L.length)) (w.alloc (.cells cells t)))
  (aM:cells.size=L.length*sz)(lW:L.length≤maxLen)(gU:∀x∈L,x.cells.length=sz∧∀c∈x.cells,c.one=true)
  (rep:∀(i:Nat)x(j:Nat)c,L[i]? =some x→x.cells[j]? =some c→i*sz+j<cells.size∧aZ w g.St c (cells.getD (i*sz+j) undef))
  (hk:k (.v (.bt sz L)) e.boxes):bp P gl w0 aq e.ai o a w k:=by
 intro next Q hn
 unfold Oper.wp
 rw[ba]
 have hle:w0.heap.size≤w.heap.size:=hI.below.size
 let g':Gh:={g with ow:=fun b=>if b=w.heap.size then o.dst.map (fun d=>.s d 0)else g.ow b}
 have hX:Ext w0.heap.size w g (w.alloc (.cells cells t)) g' (fun _=>False):=by
  refine⟨fun D ob hb ho h=>⟨(jt w _ D (fT h)).trans h,hb,(by
   show(if D=w.heap.size then o.dst.map (fun d=>Pos.s d 0)else g.ow D)=none
   rw[if_neg (by have:=fT h;omega)];exact ho),fun _ h=>h⟩,fun b o h=>⟨h,.ri (jt w _ b (hI.pv h))⟩,fun b o h=>HF w _ b o (by omega),fun i an h=>h,fun p b a c _ ho=>?_,.of fun b hb=>jt w _ b hb⟩
  have aK:=ho.lt
  obtain⟨h1,h2,h3,⟨cur,ty,h4,lu⟩,h5⟩:=ho
  refine⟨⟨?_,h2,h3,⟨cur,ty,(jt w _ b aK).trans h4,lu⟩,h5⟩,fun _=>jt w _ b aK⟩
  show(if b=w.heap.size then o.dst.map (fun d=>Pos.s d 0)else g.ow b)=some p
  rw[if_neg (by omega)];exact h1
 refine hn (.v (.bt sz L)) _ _ _ g' (hI.F2 (g':=g')
  ⟨hX.df,hX.st,hX.bs,hX.bx,fun p b a c _ ho=>hX.own p b a c (fun h=>h) ho,hX.sh⟩ ((Below.refl _ _).alloc (Nat.le_refl _) _) (fun d hd=>?_) rfl (fun b o h=>.inl h)) hk
 refine .v _ _ _ (.bt (w:=w.alloc (.cells cells t)) _ sz L w.heap.size L.length (fun o=>cells.getD o undef) (Nat.le_refl _) lW (fun x hx=>(gU x hx).1) (fun x hx=>(gU x hx).2) ?_ (fun o' bN=>?_)
  (fun i x j c hx hc=>hX.A4 (rep i x j c hx hc).2))
 ·refine⟨?_,hle,fun hm=>by have:=(hI.dj _ hm).2;omega,⟨cells,t,wH w _,aM⟩,fun o' _ aR=>by have:=hI.pv aR;omega⟩
  show(if w.heap.size=w.heap.size then o.dst.map (fun d=>Pos.s d 0)else g.ow w.heap.size)=some (.s d 0)
  rw[if_pos rfl,hd];rfl
 ·have:=cell_of_row (w.alloc (.cells cells t)) w.heap.size o' cells t (0,0) (wH w _)
  rw[this]
  simp[aM,bN]
end
end Go.Proofs.Ytimbllcalipehaa.Ab
