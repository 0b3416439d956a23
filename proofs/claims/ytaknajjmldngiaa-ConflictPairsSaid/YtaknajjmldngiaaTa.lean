/-
  THE ABSTRACT WALK, definitions: data trees, slot values, and an abstract weakest precondition over the model's code.
-/
import Derived.Orders
import Derived.Still
import Derived.Below
import Derived.KernelRfl
import Derived.Laws.AppendOwn
import Derived.Laws.Build
import Derived.Laws.Sem
import Derived.WalkKit
import Derived.Laws.StructEq
import Derived.ChangeKeysEq
set_option linter.unusedVariables false
set_option linter.unusedSimpArgs false
namespace Go.Proofs.Ytaknajjmldngiaa.Ab
open Go
inductive SK where
 |nil|ro
 deriving DecidableEq
inductive D where
 |bool (b:Bool)
 |int (k:IntKind) (n:Int)
 |str (s:List UInt8)
 |agg (cs:List D)
 |sl (k:SK) (sz:Nat) (L:List D)
 |fn (f:Fn)
 |qi
 |iface (t:TypeId) (x:D)
 |oN
 |mA
def fg(k:IntKind)(n:Int):Bool:=decide (k.min≤n)&&decide (n≤k.max)
def D.cells:D→List D
 | .agg cs=>cs
 |x=>[x]
mutual
def D.Wf:D→Prop
 | .int k n=>fg k n=true
 | .str s=>s.length≤maxLen
 | .agg cs=>D.fu cs
 | .sl k sz L=>L.length≤maxLen∧(k=.nil →L=[])∧(∀x∈L,x.cells.length=sz)∧D.fu L
 | .iface _ x=>x.Wf
 |_=>True
def D.fu:List D→Prop
 |[]=>True
 |x::l=>x.Wf∧D.fu l
end
inductive KS where
 |bool (b:Bool)
 |int (k:IntKind) (n:Int)
 |str (s:List UInt8)
 deriving DecidableEq
inductive MK where
 |i (n:Int)
 |s (l:List KS)
 deriving DecidableEq
inductive SV where
 |d (x:D)
 |own (sz:Nat) (L:List D)
 |full (sz:Nat) (L:List D)
 |bj (sz:Nat) (L:List D)
 |ref (cs:List SV) (off:Nat)
 |ev (n sz:Nat) (cs:List SV)
 |aE (x:D) (off:Nat)
 |dg (f:Fn) (first cap:List SV)
 |dA (vs:List SV)
 |mp (l:List (MK×D))
 |undef
def aa:SV→SV
 | .own sz L=>.d (.sl .ro sz L)
 | .bj _ _=>.undef
 |x=>x
inductive Slot where
 |v (x:SV)
 |p (b off:Nat)
 |c (f:Fn) (first cap:List Slot)
 |t (vs:List SV)
 |a (b n sz:Nat)
 |m (b:Nat)
def Slot.aa:Slot→Slot
 | .v x=>.v (Ab.aa x)
 | .t vs=>.t (vs.map Ab.aa)
 |s=>s
inductive af where
 |none
 |cells (cs:List SV)
 |one (s:Slot)
 |map (l:List (MK×D))
structure Env where
 ai:List Slot
 boxes:List af
def uD:Value→Option D
 | .bool b=>some (.bool b)
 | .int k n=>bif fg k n then some (.int k n)else none
 | .string s=>bif Nat.ble s.size maxLen then some (.str s.data.toList)else none
 | .slice none 0 0=>some (.sl .nil 0 [])
 | .pointer none=>some .mA
 | .nilFunc =>some .qi
 | .nilIface =>some .oN
 | .func f first captured=>bif first.isEmpty&&captured.isEmpty then some (.fn f)else none
 |_=>none
def uv:List Value→Option (List D)
 |[]=>some []
 |v::l=>match uD v with
  |some x=>(match uv l with|some r=>some (x::r)|none=>none)
  |none=>none
def Bu:Value→Option D
 | .agg cs=>match uv cs.toList with
   |some l=>some (.agg l)
   |none=>none
 |v=>uD v
def ab{α:Type}(o:Option α)(k:α→Prop):Prop:=match o with|some x=>k x|none=>False
def ao(x:SV)(A B:Prop):Prop:=match x with
 | .d (.bool c)=>cond c A B
 |_=>False
section
variable(P:Program)(gl:Nat→Option D)
def cZ(t:TypeId):Option Bool:=match P.underlying t with
 |some (.struct _)|some (.array _ _)=>some true
 |some _=>some false
 |none=>none
def fH(t:TypeId):Option (Bool×Nat):=match cZ P t with
 |some b=>(match P.info? t with|some i=>bif b||Nat.beq i.size 1 then some (b,i.size)else none|none=>none)
 |none=>none
def ck(t:TypeId):Option Nat:=match P.info? t with
 |some i=>some i.size
 |none=>none
def jB(t:TypeId):Option (List D):=match P.info? t with
 |some i=>(match i.zero with|some z=>uv z.cells.toList|none=>none)
 |none=>none
def Ay(t:TypeId):Option (List SV):=match jB P t with
 |some z=>some (z.map .d)
 |none=>(match P.info? t with
  |some i=>(match i.zero with|some z=>bif z.cells.toList.all Value.oneCell' then some (List.replicate z.cells.toList.length .undef)else none|none=>none)
  |none=>none)
def aJ(e:Env):Operand→Slot
 | .tmp t=>e.ai.getD t (.v .undef)
 | .const v=>(match Bu v with|some x=>.v (.d x)|none=>.v .undef)
 | .func f=>.v (.d (.fn (.func f)))
 | .global g=>(match gl g with|some x=>.v (.aE x 0)|none=>.v .undef)
def iP(op:BinOp)(k:IntKind)(x y:Int):Option D:=
 match op with
 | .add =>some (.int k (k.wrap (x+y)))
 | .sub =>some (.int k (k.wrap (x-y)))
 | .mul =>some (.int k (k.wrap (x*y)))
 | .quo =>if y=0 then none else some (.int k (k.wrap (x.tdiv y)))
 | .rem =>if y=0 then none else some (.int k (x.tmod y))
 | .and =>some (.int k (k.wrap (BitVec.ofInt k.bits x&&& BitVec.ofInt k.bits y).toNat))
 | .or =>some (.int k (k.wrap (BitVec.ofInt k.bits x|||BitVec.ofInt k.bits y).toNat))
 | .xor =>some (.int k (k.wrap (BitVec.ofInt k.bits x^^^BitVec.ofInt k.bits y).toNat))
 | .andNot =>some (.int k (k.wrap (BitVec.ofInt k.bits x&&& ~~~ BitVec.ofInt k.bits y).toNat))
 | .eql =>some (.bool (x==y))
 | .neq =>some (.bool (x != y))
 | .lss =>some (.bool (decide (x<y)))
 | .leq =>some (.bool (decide (x≤y)))
 | .gtr =>some (.bool (decide (x>y)))
 | .geq =>some (.bool (decide (x≥y)))
 |_=>none
def yd(op:BinOp)(k:IntKind)(x y:Int):Option D:=
 if y<0 then none else
 match op with
 | .shl =>some (.int k (k.wrap (x*2^(min y.toNat k.bits))))
 | .shr =>some (.int k (x.fdiv (2^(min y.toNat k.bits))))
 |_=>none
def uw:List UInt8→List UInt8→Bool
 |_,[]=>false
 |[],_::_=>true
 |a::x,b::y=>a<b||(a==b&&uw x y)
def wD(op:BinOp)(x y:List UInt8):Option D:=
 match op with
 | .add =>if x.length+y.length≤maxLen then some (.str (x++y))else none
 | .eql =>some (.bool (x==y))
 | .neq =>some (.bool (!(x==y)))
 | .lss =>some (.bool (uw x y))
 | .leq =>some (.bool (uw x y||x==y))
 | .gtr =>some (.bool (!(uw x y||x==y)))
 | .geq =>some (.bool (!uw x y))
 |_=>none
def kg:D→D→Option Bool
 | .bool a,.bool b=>some (a==b)
 | .int k a,.int k' b=>if k=k' then some (a==b)else none
 | .str a,.str b=>some (a==b)
 |_,_=>none
def eC:List D→List D→Option Bool
 |[],[]=>some true
 |x::l,y::m=>match kg x y with
  |some b=>(match eC l m with|some c=>some (b&&c)|none=>none)
  |none=>none
 |_,_=>none
inductive CK where
 |bool|int|str
def cX:List CK→List D→Bool
 |[],[]=>true
 | .bool ::l,.bool _::m=>cX l m
 | .int ::l,.int _ _::m=>cX l m
 | .str ::l,.str _::m=>cX l m
 |_,_=>false
def td{α:Type}(l:List α):Nat→List α
 |0=>[]
 |n+1=>l++td l n
def vY(go:TypeId→Option (List CK)):List Field→Nat→Option (List CK)
 |[],_=>some []
 |f::l,off=>match go f.type with
  |some ks=>bif f.name != "_" &&Nat.beq f.offset off then(match vY go l (off+ks.length)with|some r=>some (ks++r)|none=>none)else none
  |none=>none
def shapeOf:(fuel:Nat)→TypeId→Option (List CK)
 |0,_=>none
 |f+1,t=>match P.underlying t with
  |some .bool =>(match ck P t with|some 1=>some [.bool]|_=>none)
  |some (.int _)=>(match ck P t with|some 1=>some [.int]|_=>none)
  |some .string =>(match ck P t with|some 1=>some [.str]|_=>none)
  |some (.array n e)=>(match shapeOf f e with
   |some ks=>(match ck P t with|some s=>bif Nat.beq s (n*ks.length)then some (td ks n)else none|none=>none)
   |none=>none)
  |some (.struct fs)=>bif P.stoodInHeld t then none else(match vY (shapeOf f) fs.toList 0 with
   |some ks=>(match ck P t with|some s=>bif Nat.beq s ks.length then some ks else none|none=>none)
   |none=>none)
  |_=>none
def wv(op:BinOp)(t:TypeId):Option (Bool×List CK):=match op with
 | .eql | .neq =>bif P.eqGuardType P.depth t then none else(match shapeOf P 20 t with
   |some ks=>(match cZ P t with|some b=>some (b,ks)|none=>none)
   |none=>(match P.underlying t with|some (.slice _)=>some (false,[])|_=>none))
 |_=>none
end
section
def eE(sh:Option (Bool×List CK))(op:BinOp)(x y:D):Option D:=
 match x,y with
 | .int k a,.int k' b=>
   (match op with
    | .shl | .shr =>yd op k a b
    |_=>if k=k' then iP op k a b else none)
 | .str a,.str b=>wD op a b
 | .bool a,.bool b=>(match sh with
   |some (false,[.bool])=>(match op with
    | .eql =>some (.bool (a==b))| .neq =>some (.bool (!(a==b)))|_=>none)
   |_=>none)
 | .agg a,.agg b=>(match sh with
   |some (true,ks)=>bif cX ks a&&cX ks b then(match op with
    | .eql =>(match eC a b with|some c=>some (.bool c)|none=>none)
    | .neq =>(match eC a b with|some c=>some (.bool (!c))|none=>none)
    |_=>none)else none
   |_=>none)
 | .sl a _ _,.sl .nil _ _=>(match sh with
   |some (false,[])=>(match op with
    | .eql =>some (.bool (decide (a=.nil)))
    | .neq =>some (.bool (!decide (a=.nil)))
    |_=>none)
   |_=>none)
 |_,_=>none
def ah(sh:Option (Bool×List CK))(op:BinOp):SV→SV→Option SV
 | .d x,.d y=>(match eE sh op x y with|some r=>some (.d r)|none=>none)
 |_,_=>none
def cw(op:UnOp):SV→Option SV
 | .d (.bool b)=>(match op with| .not =>some (.d (.bool (!b)))|_=>none)
 | .d (.int k n)=>(match op with
   | .neg =>some (.d (.int k (k.wrap (0-n))))
   | .xor =>some (.d (.int k (k.wrap (BitVec.ofInt k.bits (if k.signed then-1 else k.max)^^^BitVec.ofInt k.bits n).toNat)))
   |_=>none)
 |_=>none
end
section
variable(P:Program)(gl:Nat→Option D)
def Bv(dst:TypeId):SV→Option SV
 | .d (.int _ n)=>(match P.underlying dst with|some (.int k)=>some (.d (.int k (k.wrap n)))|_=>none)
 | .d (.str s)=>(match P.underlying dst with|some .string =>some (.d (.str s))|_=>none)
 |_=>none
def cg:SV→Option D
 | .d x=>some x
 | .own sz L=>some (.sl .ro sz L)
 | .full sz L=>some (.sl .ro sz L)
 |_=>none
def dT:List SV→Option (List D)
 |[]=>some []
 |v::l=>match cg v with
  |some x=>(match dT l with|some r=>some (x::r)|none=>none)
  |none=>none
def elems(sz:Nat):SV→Option (List D)
 | .d (.sl k s L)=>(match k with| .nil =>some []| .ro =>if s=sz then some L else none)
 | .own s L=>if s=sz then some L else none
 | .full s L=>if s=sz then some L else none
 |_=>none
def x4:SV→Option (List D)
 | .d (.sl _ _ L)=>some L
 | .own _ L=>some L
 | .full _ L=>some L
 |_=>none
def oO(agg:Bool)(sz off:Nat)(cs:List D):Option D:=
 bif agg then(if off+sz≤cs.length then some (.agg ((cs.drop off).take sz))else none)else cs[off]?
def ag(agg:Bool)(sz off:Nat)(cs:List SV):Option SV:=
 bif agg then(if off+sz≤cs.length then(match dT ((cs.drop off).take sz)with|some l=>some (.d (.agg l))|none=>none)else none)else cs[off]?
def eh(x:SV)(n:Nat):Option Nat:=match x with
 | .d (.int _ i)=>if 0≤i∧i<n then some i.toNat else none
 |_=>none
def BK(t:TypeId)(x:SV):Option SV:=match P.underlying t with
 |some .string =>(match x with| .d (.str s)=>some (.d (.int .i64 s.length))|_=>none)
 |some (.array n _)=>bif Nat.ble n maxLen then some (.d (.int .i64 n))else none
 |some (.slice _)=>(match x with| .ev n _ _=>some (.d (.int .i64 n))|x=>(match x4 x with|some L=>some (.d (.int .i64 L.length))|none=>none))
 |_=>none
def setAt(cs:List SV)(off:Nat):List SV→List SV
 |[]=>cs
 |v::l=>setAt (cs.set off v) (off+1) l
def aA(x:SV):Option (List SV):=match x with
 | .d y=>some (y.cells.map .d)
 | .dA _=>none
 | .undef =>none
 |v=>some [v]
def oP(place:Nat→Option (Nat×Nat))(cells:List D):List (Nat×D)→Option (List D)
 |[]=>some cells
 |(i,v)::rest=>match place i with
  |none=>none
  |some (off,sz)=>if v.cells.length=sz∧off+sz≤cells.length then oP place (cells.take off++v.cells++cells.drop (off+sz)) rest else none
def kh(ρ:Operand→Slot):List (Nat×Operand)→Option (List (Nat×D))
 |[]=>some []
 |(i,x)::l=>match ρ x with
  | .v y=>(match cg y with
    |some z=>(match kh ρ l with|some r=>some ((i,z)::r)|none=>none)
    |none=>none)
  |_=>none
def ye:List Field→Option (List (Nat×Nat))
 |[]=>some []
 |f::l=>match ck P f.type with
  |some s=>(match ye l with|some r=>some ((f.offset,s)::r)|none=>none)
  |none=>none
def H8(t:TypeId):Option (Nat→Option (Nat×Nat)):=match P.underlying t with
 |some (.struct fs)=>(match ye P fs.toList with|some l=>some fun i=>l[i]? |none=>none)
 |some (.array _ e)=>(match ck P e with|some s=>some fun i=>some (i*s,s)|none=>none)
 |_=>none
def bY(t:TypeId)(ps:List (Nat×D)):Option D:=match jB P t with
 |some z=>(match H8 P t with
  |some pl=>(match oP pl z ps with|some cs=>some (.agg cs)|none=>none)
  |none=>none)
 |none=>none
def bN(agg:Bool)(cs:List D):D:=bif agg then .agg cs else(match cs with|[x]=>x|_=>.agg cs)
def nK(i:Nat):List (Nat×D)→Option D
 |[]=>none
 |(j,x)::l=>match nK i l with|some y=>some y|none=>bif i==j then some x else none
def bL(zero:D)(ps:List (Nat×D)):Nat→Nat→List D
 |0,_=>[]
 |n+1,i=>(match nK i ps with|some x=>x|none=>zero)::bL zero ps n (i+1)
def bO(sz n:Nat):List (Nat×D)→Bool
 |[]=>true
 |(i,x)::l=>Nat.blt i n&&Nat.beq x.cells.length sz&&bO sz n l
def gE(f:Slot→SV):List Slot→List SV
 |[]=>[]
 |s::l=>f s::gE f l
def snap(ak:List af):(fuel:Nat)→Slot→SV
 |0,_=>.undef
 |n+1,s=>match s with
  | .v x=>Ab.aa x
  | .p b off=>(match ak[b]? with
    |some (.cells cs)=>.ref (cs.map Ab.aa) off
    |some (.one s')=>.ref [snap ak n s'] off
    |_=>.undef)
  | .c f first cap=>.dg f (gE (snap ak n) first) (gE (snap ak n) cap)
  | .a b m sz=>(match ak[b]? with
    |some (.cells cs)=>.ev m sz (cs.map Ab.aa)
    |_=>.undef)
  |_=>.undef
def Slot.aT:Slot→SV
 | .v x=>x
 |_=>.undef
end
abbrev bu:=FuncId→List SV→SV→Prop
section
variable(P:Program)(gl:Nat→Option D)(C:bu)
def rq:SV→Bool| .dA _=>true|_=>false
def aP(f:FuncId)(args:List SV)(k:SV→Prop):Prop:=∃r,C f args r∧rq r=false∧k r
def zh:Nat→(List SV→Prop)→Prop
 |0,k=>k []
 |n+1,k=>∃r,zh n fun l=>k (r::l)
def Vw(f:FuncId)(n:Nat)(args:List SV)(k:List SV→Prop):Prop:=zh n fun rs=>C f args (.dA rs)∧k rs
def withFn(x:SV)(args:List SV)(k:FuncId→List SV→Prop):Prop:=match x with
 | .d (.fn (.func f))=>k f args
 | .dg (.func f) first cap=>k f (first++args++cap)
 |_=>False
def uG(t:TypeId)(name:String):Option FuncId:=match P.info? t with
 |some i=>(match i.methods.find? (fun m=>m.name==name)with
  |some m=>(match m.path.toList,m.func with
   |[],some (f,false)=>(match P.underlying t with
    |some (.pointer _)=>none
    |some _=>some f
    |none=>none)
   |_,_=>none)
  |none=>none)
 |none=>none
def EG(x:SV)(name:String):Option FuncId:=match x with
 | .d (.iface t _)=>uG P t name
 |_=>none
def qS(x:SV)(name:String)(args:List SV)(k:FuncId→List SV→Prop):Prop:=match x with
 | .d (.iface t y)=>ab (uG P t name) fun f=>k f (.d y::args)
 |_=>False
def arity(t:TypeId):Nat:=match P.underlying t with
 |some (.tuple ts)=>ts.size
 |_=>1
def kQ(n:Nat)(ak:List af)(k:Slot→List af→Prop)(f:FuncId)(args:List SV):Prop:=
 match n with
 |1=>aP C f args fun r=>k (.v r) ak
 |n=>Vw C f n args fun rs=>k (.t rs) ak
def iz(ak:List af)(ρ:Operand→Slot):List Operand→List SV
 |[]=>[]
 |x::l=>snap ak 6 (ρ x)::iz ak ρ l
def wz:Nat:=1048577
def kU(sz:Nat)(x y:SV):Option (SV×Nat):=
 match elems sz y with
 |none=>none
 |some M=>match x with
  | .own s L=>if s=sz then some (.own sz (L++M),L.length+M.length)else none
  | .full s L=>if s=sz then(if M=[]then some (.full sz L,L.length)else some (.own sz (L++M),L.length+M.length))else none
  | .d (.sl .nil s _)=>if M=[]then some (x,0)else some (bif Nat.beq s wz then .bj sz M else .own sz M,M.length)
  | .bj s L=>if s=sz then some (.bj sz (L++M),L.length+M.length)else none
  |_=>none
def bW(sz bytes:Nat)(x y:SV)(k:SV→Prop):Prop:=
 ab (kU sz x y) fun r=>r.2*bytes≤140737488355328∧k r.1
def my(agg:Bool)(sz b off:Nat)(ak:List af)(k:Slot→List af→Prop):Prop:=
 match ak[b]? with
 |some (.cells cs)=>ab (ag agg sz off cs) fun x=>k (.v (Ab.aa x)) ak
 |some (.one s)=>bif agg then False else(match off with|0=>k s.aa ak|_=>False)
 |_=>False
def aF(agg:Bool)(sz:Nat)(x:SV):Option SV:=match x with
 | .aE y off=>(match oO agg sz off y.cells with|some z=>some (.d z)|none=>none)
 | .ref cs off=>(match ag agg sz off cs with|some z=>some (Ab.aa z)|none=>none)
 |_=>none
def nL(sz b off:Nat)(x:Slot)(ak:List af)(k:List af→Prop):Prop:=
 match ak[b]? with
 |some (.cells cs)=>(match x with
  | .v y=>ab (aA y) fun l=>l.length=sz∧off+sz≤cs.length∧k (ak.set b (.cells (setAt cs off l)))
  | .t _=>False
  |s=>(match sz,off,cs with|1,0,[_]=>k (ak.set b (.one s))|_,_,_=>False))
 |some (.one _)=>(match sz,off with
  |1,0=>(match x with
   | .v y=>ab (aA y) fun l=>l.length=1∧k (ak.set b (.cells l))
   | .t _=>False
   |s=>k (ak.set b (.one s)))
  |_,_=>False)
 |_=>False
def bD(x:SV)(n:Nat):Option SV:=match x with
 | .aE y off=>some (.aE y (off+n))
 | .ref cs off=>some (.ref cs (off+n))
 |_=>none
def aR(sz:Nat)(x i:SV):Option SV:=match x with
 | .ev n s cs=>(match eh i n with|some j=>if s=sz then some (.ref cs (j*sz))else none|none=>none)
 |x=>match elems sz x with
 |some L=>(match eh i L.length with
  |some n=>(match L[n]? with|some y=>some (.aE y 0)|none=>none)
  |none=>none)
 |none=>none
def wZ(n:Nat):Option SV→Option Nat
 |some h=>eh h (n+1)
 |none=>some n
def tz(h:Nat):Option SV→Option Nat
 |some l=>eh l (h+1)
 |none=>some 0
def EH(L:List D)(lo hi:Option SV):Option (List D):=
 match wZ L.length hi with
 |some h=>(match tz h lo with
  |some l=>some ((L.take h).drop l)
  |none=>none)
 |none=>none
def K8(L:List UInt8)(lo hi:Option SV):Option (List UInt8):=
 match wZ L.length hi with
 |some h=>(match tz h lo with
  |some l=>some ((L.take h).drop l)
  |none=>none)
 |none=>none
def A8(t:TypeId)(x:SV)(lo hi mx:Option SV):Option SV:=
 match P.underlying t with
 |some .string =>(match x,mx with
  | .d (.str s),none=>(match K8 s lo hi with|some r=>some (.d (.str r))|none=>none)
  |_,_=>none)
 |some (.slice e)=>(match cg x,ck P e with
  |some (.sl k sz L),some s=>(match EH L lo hi,mx with
   |some r,none=>(match k with| .nil =>some (.d (.sl .nil s []))| .ro =>if sz=s then some (.d (.sl .ro sz r))else none)
   |some r,some m=>(match hi,eh m (L.length+1)with
    |some h,some _=>(match h,m with
     | .d (.int _ a),.d (.int _ b)=>if a=b then(match k with| .nil =>some (.d (.sl .nil s []))| .ro =>if sz=s then some (.full sz r)else none)else none
     |_,_=>none)
    |_,_=>none)
   |none,_=>none)
  |_,_=>none)
 |_=>none
def kV(ρ:Operand→Slot):Option Operand→Option SV
 |some x=>some (ρ x).aT
 |none=>none
def minD(a b:Int):Int:=if b<a then b else a
def maxD(a b:Int):Int:=if b>a then b else a
def qT(f:Int→Int→Int):SV→List SV→Option SV
 | .d (.int k a),[]=>some (.d (.int k a))
 | .d (.int k a),.d (.int k' b)::l=>if k=k' then qT f (.d (.int k (f a b))) l else none
 |_,_=>none
def AP(x:SV):Option SV:=match x with
 | .aE y o=>some (.aE y o)
 | .ref cs o=>some (.ref cs o)
 | .dg f a b=>(match f with| .func n=>some (.dg (.func n) a b)|_=>none)
 | .d (.fn f)=>(match f with| .func n=>some (.d (.fn (.func n)))|_=>none)
 |_=>none
def A9(agg:Bool)(sz n:Nat)(x i:SV):Option SV:=match x with
 | .d (.agg cs)=>(match eh i n with
   |some j=>(match oO agg sz (j*sz) cs with|some r=>some (.d r)|none=>none)
   |none=>none)
 |_=>none
def Bw(x i:SV):Option SV:=match x with
 | .d (.str s)=>(match eh i s.length with
   |some j=>(match s[j]? with|some b=>some (.d (.int .u8 b.toNat))|none=>none)
   |none=>none)
 |_=>none
def p8(agg:Bool)(sz off:Nat)(x:SV):Option SV:=match x with
 | .d (.agg cs)=>(match oO agg sz off cs with|some r=>some (.d r)|none=>none)
 |_=>none
def Ba(t:TypeId)(x:SV):Option SV:=match cg x with
 |some y=>some (.d (.iface t y))
 |none=>none
def oF(t:TypeId):Option Nat:=match P.info? t with
 |some i=>some i.bytes
 |none=>none
def ke(t:TypeId):Option TypeId:=match P.underlying t with
 |some (.slice e)=>some e
 |_=>none
def jX(t:TypeId)(i:Nat):Option Field:=match P.underlying t with
 |some (.struct fs)=>fs.toList[i]?
 |_=>none
def isSlice(t:TypeId):Bool:=match P.underlying t with
 |some (.slice _)=>true
 |_=>false
def isIface(t:TypeId):Bool:=match P.underlying t with
 |some (.interface _)=>true
 |none=>true
 |_=>false
def KS.same:KS→KS→Bool
 | .bool _,.bool _=>true
 | .int k _,.int k' _=>decide (k=k')
 | .str _,.str _=>true
 |_,_=>false
def KS.kR:List KS→List KS→Bool
 |[],[]=>true
 |x::l,y::m=>x.same y&&KS.kR l m
 |_,_=>false
def MK.same:MK→MK→Bool
 | .i _,.i _=>true
 | .s a,.s b=>KS.kR a b
 |_,_=>false
def qa(l:List (MK×D))(n:MK):Bool:=l.all fun x=>n.same x.1
def jZ:List (MK×D)→MK→Option D
 |[],_=>none
 |x::l,n=>if n=x.1 then some x.2 else jZ l n
def qp:List CK→List D→Option (List KS)
 |[],[]=>some []
 | .bool ::l,.bool b::m=>(match qp l m with|some r=>some (.bool b::r)|none=>none)
 | .int ::l,.int k n::m=>(match qp l m with|some r=>some (.int k n::r)|none=>none)
 | .str ::l,.str s::m=>(match qp l m with|some r=>some (.str s::r)|none=>none)
 |_,_=>none
def jI(kd:Option (List CK))(x:SV):Option MK:=match kd with
 |none=>(match x with| .d (.int .i64 n)=>some (.i n)|_=>none)
 |some ks=>(match x with| .d (.agg cs)=>(match qp ks cs with|some l=>some (.s l)|none=>none)|_=>none)
def nO(kd:Option (List CK))(z:D)(m key:SV):Option (D×Bool):=match m with
 | .mp l=>(match jI kd key with
   |some n=>bif qa l n then(match jZ l n with|some d=>some (d,true)|none=>some (z,false))else none
   |none=>none)
 |_=>none
def yr:List Field→Bool
 |[]=>true
 |f::l=>(match P.underlying f.type with|some .bool =>true|some (.int _)=>true|some .string =>true|_=>false)&&yr l
def tj(t:TypeId):Option (TypeId×Option (List CK)):=match P.underlying t with
 |some (.map kt et)=>(match P.underlying kt with
  |some (.int _)=>some (et,none)
  |some (.struct fs)=>(match shapeOf P 20 kt with
   |some ks=>bif yr P fs.toList then some (et,some ks)else none
   |none=>none)
  |_=>none)
 |_=>none
def qj(ak:List af):Slot→SV
 | .m b=>(match ak[b]? with
   |some (.map l)=>.mp l
   |_=>.undef)
 |s=>s.aT
def j1:List (MK×D)→MK→D→List (MK×D)
 |[],n,d=>[(n,d)]
 |x::l,n,d=>if n=x.1 then(n,d)::l else x::j1 l n d
def lH(l:List (MK×D))(n:MK)(d:D):Option (List (MK×D)):=bif qa l n then some (j1 l n d)else none
def lenOf:SV→SV→Option Nat
 | .d (.int k a),.d (.int k' b)=>if k=k'∧a=b∧0≤a then some a.toNat else none
 |_,_=>none
def qb(t:TypeId):Option D:=match P.info? t with
 |some i=>(match i.zero with|some z=>uD z|none=>none)
 |none=>none
def b7(id:Nat)(o:Oper)(ρ:Operand→Slot)(ak:List af)(k:Slot→List af→Prop):Prop:=
 match o.op with
 | .move x| .assign x=>k (ρ x) ak
 | .pick c a b=>(match ρ c with
   | .v x=>ao x (k (ρ a) ak) (k (ρ b) ak)
   |_=>False)
 | .alloc t=>(match ak[id]? with
   |some .none =>ab (Ay P t) fun z=>k (.p id 0) (ak.set id (.cells z))
   |_=>False)
 | .box t x=>(match ak[id]? with
   |some .none =>ab (ck P t) fun sz=>(match ρ x with
    | .v y=>ab (aA y) fun l=>l.length=sz∧k (.p id 0) (ak.set id (.cells l))
    | .t _=>False
    |s=>(match sz with|1=>k (.p id 0) (ak.set id (.one s))|_=>False))
   |_=>False)
 | .build t ps=>ab (kh ρ ps.toList) fun l=>ab (bY P t l) fun r=>k (.v (.d r)) ak
 | .buildSlice t n ps=>ab (ke P t) fun e=>ab (fH P e) fun ly=>ab (jB P e) fun z=>ab (kh ρ ps.toList) fun l=>
    bif Nat.ble (n*ly.2) (2^24)&&Nat.blt 0 ly.2&&Nat.beq z.length ly.2 then(bO ly.2 n l=true∧k (.v (.full ly.2 (bL (bN ly.1 z) l n 0))) ak)else False
 | .load t a=>ab (fH P t) fun ly=>(match ρ a with
   | .p b off=>my ly.1 ly.2 b off ak k
   | .v x=>ab (aF ly.1 ly.2 x) fun y=>k (.v y) ak
   |_=>False)
 | .store t a x=>ab (ck P t) fun sz=>(match ρ a with
   | .p b off=>(match o.dst with|none=>nL sz b off (ρ x) ak fun cp=>k (.t []) cp|some _=>False)
   |_=>False)
 | .nilCheck x=>(match ρ x with
   | .v y=>ab (AP y) fun z=>k (.v z) ak
   | .t _=>False
   | .c f first cap=>(match f with
     | .func _=>k (.c f first cap) ak
     | .method name=>(match first with
       | .v y::_=>ab (EG P y name) fun _=>k (.c f first cap) ak
       |_=>False)
     |_=>False)
   | .p b off=>k (.p b off) ak
   |_=>False)
 | .binOp op t x y _=>ab (ah (wv P op t) op (ρ x).aT (ρ y).aT) fun r=>k (.v r) ak
 | .unOp op _ x=>ab (cw op (ρ x).aT) fun r=>k (.v r) ak
 | .convert src dst x=>bif (P.underlying src).isSome then(ab (Bv P dst (ρ x).aT) fun r=>k (.v r) ak)else False
 | .makeInterface t x=>bif isIface P t then False else ab (Ba t (ρ x).aT) fun r=>k (.v r) ak
 | .makeFunc fn first cap=>k (.c fn (first.toList.map fun x=>(ρ x).aa) (cap.toList.map fun x=>(ρ x).aa)) ak
 | .slice t x lo hi mx=>ab (A8 P t (Ab.aa (ρ x).aT) (kV ρ lo) (kV ρ hi) (kV ρ mx)) fun r=>k (.v r) ak
 | .fieldAddr t x f=>ab (jX P t f) fun fd=>ab (ck P fd.type) fun sz=>bif Nat.beq sz 0 then False else(match ρ x with
   | .p b off=>k (.p b (off+fd.offset)) ak
   | .v y=>ab (bD y fd.offset) fun z=>k (.v z) ak
   |_=>False)
 | .field t x f=>ab (jX P t f) fun fd=>ab (fH P fd.type) fun ly=>ab (p8 ly.1 ly.2 fd.offset (ρ x).aT) fun r=>k (.v r) ak
 | .indexAddr t x i=>(match P.underlying t with
   |some (.slice e)=>ab (ck P e) fun sz=>(match ρ x with
    | .a b n _=>ab (eh (ρ i).aT n) fun j=>k (.p b (j*sz)) ak
    |s=>ab (aR sz s.aT (ρ i).aT) fun r=>k (.v r) ak)
   |some (.array n e)=>ab (ck P e) fun sz=>ab (eh (ρ i).aT n) fun j=>(match ρ x with
    | .p b off=>k (.p b (off+j*sz)) ak
    | .v y=>ab (bD y (j*sz)) fun z=>k (.v z) ak
    |_=>False)
   |_=>False)
 | .index t x i=>(match P.underlying t with
   |some (.array n e)=>ab (fH P e) fun ly=>ab (A9 ly.1 ly.2 n (ρ x).aT (ρ i).aT) fun r=>k (.v r) ak
   |some .string =>ab (Bw (ρ x).aT (ρ i).aT) fun r=>k (.v r) ak
   |_=>False)
 | .extract x i=>(match ρ x with
   | .t vs=>(match vs[i]? with|some r=>k (.v r) ak|none=>False)
   |_=>False)
 | .lookup t m x ok=>ab (tj P t) fun et=>ab (qb P et.1) fun z=>ab (nO et.2 z (qj ak (ρ m)) (ρ x).aT) fun r=>
    bif ok then k (.t [.d r.1,.d (.bool r.2)]) ak else k (.v (.d r.1)) ak
 | .makeSlice t n c=>ab (ke P t) fun e=>ab (ck P e) fun sz=>ab (oF P e) fun bZ=>ab (qb P e) fun z=>
    bif Nat.beq sz 1&&Nat.blt 0 bZ then(ab (lenOf (ρ n).aT (ρ c).aT) fun m=>m*bZ≤140737488355328∧k (.v (.bj 1 (List.replicate m z))) ak)else False
 | .makeMap t h=>(match h,ak[id]? with
   |none,some .none =>k (.m id) (ak.set id (.map []))
   |_,_=>False)
 | .mapUpdate t m x y=>ab (tj P t) fun et=>(match ρ m,o.dst with
   | .m b,none=>(match ak[b]? with
     |some (.map l)=>ab (jI et.2 (ρ x).aT) fun n=>ab (cg (ρ y).aT) fun d=>ab (lH l n d) fun l'=>k (.t []) (ak.set b (.map l'))
     |_=>False)
   |_,_=>False)
 | .call c=>(match c.callee with
   | .value f=>(match ρ f with
     | .v x=>withFn x (iz ak ρ c.args.toList) (kQ C (arity P o.type) ak k)
     | .c (.func g) first cap=>kQ C (arity P o.type) ak k g (gE (snap ak 6) first++iz ak ρ c.args.toList++gE (snap ak 6) cap)
     |_=>False)
   | .invoke recv name=>(match ρ recv with
     | .v x=>qS P x name (iz ak ρ c.args.toList) (kQ C (arity P o.type) ak k)
     |_=>False)
   | .builtin b=>(match b,c.args.toList,c.argTypes.toList with
     | .len,x::_,t::_=>(match ρ x with
       | .a _ n _=>bif isSlice P t then k (.v (.d (.int .i64 n))) ak else False
       |s=>ab (BK P t s.aT) fun r=>k (.v r) ak)
     | .append,[x,y],[t,u]=>bif Nat.beq t u then(ab (ke P t) fun e=>ab (ck P e) fun sz=>ab (oF P e) fun bZ=>ab (jB P e) fun z=>
        bif Nat.blt 0 bZ&&Nat.blt 0 sz&&Nat.beq z.length sz then bW sz bZ (ρ x).aT (ρ y).aT fun r=>k (.v r) ak else False)else False
     | .min,x::l,_=>ab (qT minD (ρ x).aT (l.map fun y=>(ρ y).aT)) fun r=>k (.v r) ak
     | .max,x::l,_=>ab (qT maxD (ρ x).aT (l.map fun y=>(ρ y).aT)) fun r=>k (.v r) ak
     |_,_,_=>False))
 |_=>False
def tmpsOf(o:Oper):List Nat:=o.op.operands.toList.filterMap fun| .tmp t=>some t|_=>none
def bF(l:List Slot)(dst:Option Nat)(s:Slot):List Slot:=match dst with
 |some d=>l.set d s
 |none=>l
def jD(o:Oper)(e:Env)(k:Env→Prop):Prop:=match o.op with
 | .move (.tmp t)| .assign (.tmp t)=>k ⟨bF (e.ai.set t (e.ai.getD t (.v .undef)).aa) o.dst (e.ai.getD t (.v .undef)),e.boxes⟩
 | .extract (.tmp t) i=>(match e.ai.getD t (.v .undef)with
   | .t vs=>(match vs[i]? with
     |some r=>k ⟨bF (e.ai.set t (.t (vs.set i (aa r)))) o.dst (.v r),e.boxes⟩
     |none=>False)
   |_=>False)
 | .load ty a=>(match(aJ gl e a).aa with
   | .p b off=>ab (fH P ty) fun ly=>bif ly.1 then False else(match e.boxes[b]? with
     |some (.cells cs)=>ab cs[off]? fun x=>k ⟨bF e.ai o.dst (.v x),e.boxes.set b (.cells (cs.set off (aa x)))⟩
     |_=>False)
   |_=>False)
 | .store ty a (.tmp t)=>(match(aJ gl e a).aa,e.ai.getD t (.v .undef),o.dst with
   | .p b off,.v y,none=>ab (ck P ty) fun sz=>bif Nat.beq sz 1 then(match e.boxes[b]? with
     |some (.cells cs)=>ab (aA y) fun l=>l.length=1∧off<cs.length∧k ⟨e.ai.set t (.v (aa y)),e.boxes.set b (.cells (setAt cs off l))⟩
     |_=>False)else False
   |_,_,_=>False)
 | .buildSlice t n ps=>ab (ke P t) fun e'=>ab (fH P e') fun ly=>ab (jB P e') fun z=>ab (kh (fun x=>(aJ gl e x).aa) ps.toList) fun l=>
    bif Nat.ble (n*ly.2) (2^24)&&Nat.blt 0 ly.2&&Nat.beq z.length ly.2 then(bO ly.2 n l=true∧k ⟨bF e.ai o.dst (.v (.bj ly.2 (bL (bN ly.1 z) l n 0))),e.boxes⟩)else False
 | .call c=>(match c.callee,c.args.toList,c.argTypes.toList with
   | .builtin .append,[.tmp t,y],[ty,u]=>bif Nat.beq ty u then(ab (ke P ty) fun e'=>ab (ck P e') fun sz=>ab (oF P e') fun bZ=>ab (jB P e') fun z=>
      bif Nat.blt 0 bZ&&Nat.blt 0 sz&&Nat.beq z.length sz then bW sz bZ (e.ai.getD t (.v .undef)).aT ((aJ gl e y).aa).aT fun r=>
       k ⟨bF (e.ai.set t (e.ai.getD t (.v .undef)).aa) o.dst (.v r),e.boxes⟩else False)else False
   |_,_,_=>False)
 |_=>False
def j3(id:Nat)(ax:Bool)(o:Oper)(e:Env)(k:Env→Prop):Prop:=
 bif ax then jD P gl o e k
 else b7 P C id o (fun x=>(aJ gl e x).aa) e.boxes fun r ak=>k ⟨bF e.ai o.dst r,ak⟩
def Env.nS(e:Env)(t:Nat)(b:Bool):Env:=⟨e.ai.set t (.v (.d (.bool b))),e.boxes⟩
def tk(all:List Oper)(o:Oper)(e:Env)(A B:Env→Prop):Prop:=
 match o.guard with
 |none=>A e
 |some (j,want)=>(match(match all[j]? with|some g=>g.dst|none=>none)with
  |some t=>(match e.ai.getD t (.v .undef)with
   | .v x=>ao x (bif want then A (e.nS t true)else B (e.nS t true)) (bif want then B (e.nS t false)else A (e.nS t false))
   | .t _=>B e
   |_=>False)
  |none=>False)
def e9(o:Oper):Bool:=match o.op with| .alloc _| .box .. | .makeMap .. =>true|_=>false
def ep:List Oper→Nat→Nat
 |[],_=>0
 |_,0=>0
 |o::l,i+1=>(bif e9 o then 1 else 0)+ep l i
def gH(ax:Nat→Bool)(all:List Oper)(base:Nat):List Oper→Nat→Env→(Env→Prop)→Prop
 |[],_,e,k=>k e
 |o::rest,i,e,k=>tk all o e
   (fun e'=>j3 P gl C (base+ep all i) (ax i) o e' fun gO=>gH ax all base rest (i+1) gO k)
   (fun e'=>gH ax all base rest (i+1) ⟨bF e'.ai o.dst (.t []),e'.boxes⟩ k)
def oG(ax:Nat→Bool)(ops:List Oper)(e:Env)(k:Env→Prop):Prop:=
 gH P gl C ax ops e.boxes.length ops 0 ⟨e.ai,e.boxes++List.replicate (ep ops ops.length) .none⟩ k
inductive Ex where
 |normal
 |exit (id:Nat)
 |ret
def cm(F:List SV→List (List SV)→(List SV→List (List SV)→Prop)→Prop)(vs:List SV)(bs:List (List SV)):Prop:=
 ∀I:List SV→List (List SV)→Prop,(∀vs bs,F vs bs I→I vs bs)→I vs bs
def g6:Code→Nat
 | .region id _ _=>id
 | .seq a _=>g6 a
 | .block _ b=>g6 b
 | .loop b=>g6 b
 | .scope b=>g6 b
 |_=>0
inductive fK where
 |box (t sz:Nat)
 |mQ (t:Nat) (ts:List Nat)
 |ni (t:Nat) (agg:Bool) (sz:Nat) (ts:List Nat)
 |emp (t:Nat)
 |jK (t:Nat)
 |nj (t:Nat) (ts:List Nat)
def eX:List fK→List Nat
 |[]=>[]
 | .box t _::l=>t::eX l
 | .mQ _ ts::l=>ts++eX l
 | .ni t _ _ ts::l=>t::(ts++eX l)
 | .emp t::l=>t::eX l
 | .jK t::l=>t::eX l
 | .nj _ ts::l=>ts++eX l
def tm(h:List (Nat×List fK))(id:Nat):List fK:=match h with
 |[]=>[]
 |(j,r)::l=>bif j==id then r else tm l id
def b9(gh:List (Nat×List fK)):Code→List Nat
 | .region id ops _=>eX (tm gh id)++ops.toList.filterMap (·.dst)
 | .seq a b=>b9 gh a++b9 gh b
 | .cond _ a b=>b9 gh a++b9 gh b
 | .block _ b=>b9 gh b
 | .loop b=>b9 gh b
 | .scope b=>b9 gh b
 |_=>[]
def af.ay:af→List SV
 | .cells cs=>cs
 | .map l=>[.mp l]
 |_=>[.undef]
def m8(e:Env)(vars:List Nat):List SV:=vars.map fun t=>(e.ai.getD t (.v .undef)).aT
def m6(n:Nat)(e:Env):List (List SV):=(e.boxes.take n).map af.ay
def Slot.stays:Slot→Slot
 | .p b off=>.p b off
 | .c f first cap=>.c f first cap
 | .a b n sz=>.a b n sz
 | .m b=>.m b
 |_=>.v .undef
def place(t:Nat):List Nat→Nat→Option Nat
 |[],_=>none
 |v::l,i=>bif v==t then some i else place t l (i+1)
def ae(vs:List SV)(j:Nat):SV:=vs.getD j .undef
def aq(bs:List (List SV))(i:Nat):List SV:=bs.getD i []
def mn(vars consts:List Nat)(vs:List SV):List Slot→Nat→List Slot
 |[],_=>[]
 |s::l,t=>(match place t vars 0 with
  |some j=>.v (ae vs j)
  |none=>bif consts.contains t then s.stays else .v .undef)::mn vars consts vs l (t+1)
def af.isMap:af→Bool
 | .map _=>true
 |_=>false
def mapOf:List SV→List (MK×D)
 |[.mp l]=>l
 |_=>[]
def af.again(cs:List SV):af→af
 | .map _=>.map (mapOf cs)
 | .none =>.none
 |_=>.cells cs
def mo(bs:List (List SV)):List af→Nat→List af
 |[],_=>[]
 |x::l,i=>af.again (aq bs i) x::mo bs l (i+1)
structure Hints where
 ax:List (Nat×Nat)
 cY:List (Nat×List Nat×List Nat)
 gh:List (Nat×List fK):=[]
def fc(h:Hints)(id i:Nat):Bool:=h.ax.any fun p=>p.1==id&&p.2==i
def fS(h:List (Nat×List Nat×List Nat))(id:Nat):List Nat×List Nat:=match h with
 |[]=>([],[])
 |(j,r)::l=>bif j==id then r else fS l id
mutual
def Slot.has(b:Nat):Slot→Bool
 | .p b' _=>b'==b
 | .a b' _ _=>b'==b
 | .m b'=>b'==b
 | .c _ x y=>Slot.rD b x||Slot.rD b y
 |_=>false
def Slot.rD(b:Nat):List Slot→Bool
 |[]=>false
 |s::l=>Slot.has b s||Slot.rD b l
end
def kR(m n:Nat)(x:SV):SV:=if m=n then x else .undef
def wN(b:Nat)(ra:Nat→SV)(rm:SV):Slot→Slot
 | .a b' n sz=>bif b'==b then .v (ra n)else .a b' n sz
 | .m b'=>bif b'==b then .v rm else .m b'
 | .p b' off=>bif b'==b then .v .undef else .p b' off
 | .c f x y=>bif Slot.rD b x||Slot.rD b y then .v .undef else .c f x y
 |s=>s
def kj(b:Nat)(ra:Nat→SV)(rm:SV)(ts:List Nat):List Slot→Nat→List Slot
 |[],_=>[]
 |s::l,i=>(bif ts.contains i then wN b ra rm s else s)::kj b ra rm ts l (i+1)
def qk(b:Nat)(ts:List Nat):List Slot→Nat→Bool
 |[],_=>true
 |s::l,i=>(ts.contains i|| !s.has b)&&qk b ts l (i+1)
def nP(b:Nat):List af→Bool
 |[]=>true
 | .one s::l=> !s.has b&&nP b l
 |_::l=>nP b l
def nQ(b:Nat)(ra:Nat→SV)(rm:SV)(ts:List Nat)(e:Env):Env:=⟨kj b ra rm ts e.ai 0,e.boxes.set b .none⟩
def j0(b:Nat)(ts:List Nat)(e:Env):Bool:=qk b ts e.ai 0&&nP b e.boxes
def bV:List D→List SV
 |[]=>[]
 |x::l=>x.cells.map .d ++bV l
def kW(x:SV)(sz:Nat)(A:List D→Prop)(B:Prop):Prop:=match x with
 | .bj s L=>s=sz∧A L
 | .d _=>B
 |_=>False
def iQ(agg:Bool)(sz:Nat):Nat→List D→Option (List D)
 |0,[]=>some []
 |0,_::_=>none
 |n+1,l=>if sz≤l.length then(match iQ agg sz n (l.drop sz)with|some r=>some (bN agg (l.take sz)::r)|none=>none)else none
def w4(x:SV):Option SV:=match x with
 | .bj sz L=>some (.own sz L)
 | .d (.sl .nil s L)=>some (.d (.sl .nil (bif Nat.beq s wz then 0 else s) L))
 | .d y=>some (.d y)
 |_=>none
def w5(x:SV):Option SV:=match x with
 | .d (.sl .nil _ L)=>some (.d (.sl .nil wz L))
 |_=>none
def dV(e:Env)(k:Env→Prop):fK→Prop
 | .box t sz=>(match e.ai.getD t (.v .undef)with
   | .v x=>kW x sz (fun L=>k ⟨e.ai.set t (.a e.boxes.length L.length sz),e.boxes++[.cells (bV L)]⟩) (k e)
   |_=>False)
 | .mQ t ts=>(match e.ai.getD t (.v .undef)with
   | .a b n _=>(match e.boxes[b]? with
     |some (.cells cs)=>bif j0 b ts e then(ab (dT cs) fun ds=>cs.length=n∧k (nQ b (fun m=>kR m n (.d (.sl .ro 1 ds))) .undef ts e))else False
     |_=>False)
   | .m b=>(match e.boxes[b]? with
     |some (.map l)=>bif j0 b ts e then k (nQ b (fun _=>.undef) (.mp l) ts e)else False
     |_=>False)
   | .v _=>k e
   |_=>False)
 | .ni t agg sz ts=>(match e.ai.getD t (.v .undef)with
   | .a b n s=>(match e.boxes[b]? with
     |some (.cells cs)=>bif j0 b (t::ts) e&&Nat.beq s sz&&Nat.blt 0 sz&&(agg||Nat.beq sz 1)then(ab (dT cs) fun ds=>ab (iQ agg sz n ds) fun L=>
       k ⟨(kj b (fun _=>.undef) .undef (t::ts) e.ai 0).set t (.v (.bj sz L)),e.boxes.set b .none⟩)else False
     |_=>False)
   | .v _=>k e
   |_=>False)
 | .emp t=>(match e.ai.getD t (.v .undef)with
   | .v x=>ab (w5 x) fun y=>k ⟨e.ai.set t (.v y),e.boxes⟩
   |_=>False)
 | .jK t=>(match e.ai.getD t (.v .undef)with
   | .v x=>ab (w4 x) fun y=>k ⟨e.ai.set t (.v y),e.boxes⟩
   |_=>False)
 | .nj t ts=>(match e.ai.getD t (.v .undef)with
   | .p c 0=>(match e.boxes[c]? with
     |some (.one (.m b))=>(match e.boxes[b]? with
      |some (.map l)=>bif !(Nat.beq b c)&&qk b ts e.ai 0&&nP b (e.boxes.set c .none)then k ⟨kj b (fun _=>.undef) .undef ts e.ai 0,(e.boxes.set b .none).set c (.cells [.mp l])⟩else False
      |_=>False)
     |_=>False)
   |_=>False)
def jn:List fK→Env→(Env→Prop)→Prop
 |[],e,k=>k e
 |x::l,e,k=>dV e (fun e'=>jn l e' k) x
def ir(o:Oper):Bool:=match o.op with| .store .. | .mapUpdate .. =>true|_=>false
def gF(o:Oper):Bool:=match o.op with| .store .. | .load .. | .call _| .mapUpdate .. | .lookup .. =>true|_=>false
def gj(ax:Bool)(o:Oper):List Nat:=(match o.dst with|some d=>[d]|none=>[])++(bif ax then tmpsOf o else [])
def indep(all:Array Oper)(yI uN:Bool)(x y:Oper):Bool:=
 (gj yI x).all (fun d=> !(y.looksAt all).contains d&& !(gj uN y).contains d)&&
 (gj uN y).all (fun d=> !(x.looksAt all).contains d)&&
 !(ir x&&gF y)&& !(ir y&&gF x)&&
 !(yI&&uN&&gF x&&gF y)
end
end Go.Proofs.Ytaknajjmldngiaa.Ab
namespace Go.Proofs.Ytaknajjmldngiaa.Ab
open Go Go.RowKit
def D.one:D→Bool
 | .agg _=>false
 |_=>true
def tf(w w':World)(b o:Nat):Prop:=w'.cell? ⟨b,o,none⟩=w.cell? ⟨b,o,none⟩∧∀es c,w.heap[b]? =some (.map es c)→w'.heap[b]? =some (.map es c)
theorem tf.refl(w:World)(b o:Nat):tf w w b o:=⟨rfl,fun _ _ h=>h⟩
theorem tf.pS{w w':World}{b o:Nat}(h:w'.heap[b]? =w.heap[b]?):tf w w' b o:=⟨World.cell?_of_block h,fun _ _ hm=>h.trans hm⟩
def pW(w w':World)(g a:Nat):Prop:=a=0→w'.heap[g]? =w.heap[g]?
theorem pW.refl(w:World)(g a:Nat):pW w w g a:=fun _=>rfl
theorem pW.trans{w w' B2:World}{g a:Nat}(h:pW w w' g a)(k:pW w' B2 g a):pW w B2 g a:=fun h0=>(k h0).trans (h h0)
def rE:KS→Value→Prop
 | .bool b,v=>v=.bool b
 | .int k n,v=>v=.int k n∧fg k n=true
 | .str s,v=>∃b:ByteArray,v=.string b∧b.data.toList=s∧b.size≤maxLen
def MK.Is:MK→Value→Prop
 | .i n,v=>v=.int .i64 n∧fg .i64 n=true
 | .s l,v=>∃vs:Array Value,v=.agg vs∧vs.size=l.length∧∀(i:Nat)k u,l[i]? =some k→vs[i]? =some u→rE k u
section
variable(w:World)(St:Nat→Nat→Prop)
inductive aK:D→Value→Prop
 |bool (b:Bool):aK (.bool b) (.bool b)
 |int (k:IntKind) (n:Int) (h:fg k n=true):aK (.int k n) (.int k n)
 |str (s:ByteArray) (h:s.size≤maxLen):aK (.str s.data.toList) (.string s)
 |agg (ds:List D) (vs:Array Value) (hf:∀d∈ds,d.one=true) (hl:ds.length=vs.size) (hc:∀(i:Nat)d v,ds[i]? =some d→vs[i]? =some v→aK d v):aK (.agg ds) (.agg vs)
 |iT (sz:Nat):aK (.sl .nil sz []) (.slice none 0 0)
 |sl (sz:Nat) (L:List D) (b off cap:Nat) (vs:Nat→Value) (bq:L.length≤cap) (hm:L.length≤maxLen) (aB:∀x∈L,x.cells.length=sz)
   (hf:∀x∈L,∀c∈x.cells,c.one=true) (aN:∀(o:Nat),o<L.length*sz→w.cell? ⟨b,off+o,none⟩=some (vs o)∧St b (off+o))
   (hc:∀(i:Nat)x(j:Nat)c,L[i]? =some x→x.cells[j]? =some c→aK c (vs (i*sz+j))):
   aK (.sl .ro sz L) (.slice (some ⟨b,off,none⟩) L.length cap)
 |iU (sz:Nat) (a:Addr) (cap:Nat) (ha:a.spot≠none):aK (.sl .ro sz []) (.slice (some a) 0 cap)
 |fn (f:Fn):aK (.fn f) (.func f #[] #[])
 |qi:aK .qi .nilFunc
 |iface (t:TypeId) (x:D) (v:Value) (h:aK x v):aK (.iface t x) (.iface t v)
 |oN:aK .oN .nilIface
 |mA:aK .mA (.pointer none)
inductive aG(base:Nat):(Nat→Nat→Nat→Prop)→SV→Value→Prop
 |d (O:Nat→Nat→Nat→Prop) (x:D) (v:Value) (h:aK w St x v):aG base O (.d x) v
 |own (O:Nat→Nat→Nat→Prop) (sz:Nat) (L:List D) (g cap:Nat) (h:aK w St (.sl .ro sz L) (.slice (some ⟨g,0,none⟩) L.length cap)) (bq:cap≤maxLen)
   (ho:O g (L.length*sz) (cap*sz)):aG base O (.own sz L) (.slice (some ⟨g,0,none⟩) L.length cap)
 |full (O:Nat→Nat→Nat→Prop) (sz:Nat) (L:List D) (a:Addr) (h:aK w St (.sl .ro sz L) (.slice (some a) L.length L.length)):
   aG base O (.full sz L) (.slice (some a) L.length L.length)
 |ref (O:Nat→Nat→Nat→Prop) (cs:List SV) (off b o:Nat) (vs:Nat→Value) (hb:b<base)
   (aN:∀(i:Nat),i<cs.length→w.cell? ⟨b,o+i,none⟩=some (vs i)∧(vs i).oneCell' =true)
   (hc:∀(i:Nat)c,cs[i]? =some c→aG base (fun _ _ _=>False) c (vs i)):aG base O (.ref cs off) (.pointer (some ⟨b,o+off,none⟩))
 |ev (O:Nat→Nat→Nat→Prop) (n sz:Nat) (cs:List SV) (b cap:Nat) (vs:Nat→Value) (hb:b<base) (hn:n≤cap) (hm:cap≤maxLen)
   (aN:∀(i:Nat),i<cs.length→w.cell? ⟨b,0+i,none⟩=some (vs i)∧(vs i).oneCell' =true)
   (hc:∀(i:Nat)c,cs[i]? =some c→aG base (fun _ _ _=>False) c (vs i)):aG base O (.ev n sz cs) (.slice (some ⟨b,0,none⟩) n cap)
 |aE (O:Nat→Nat→Nat→Prop) (x:D) (off b o:Nat) (vs:Nat→Value) (hf:∀c∈x.cells,c.one=true)
   (aN:∀(i:Nat),i<x.cells.length→w.cell? ⟨b,o+i,none⟩=some (vs i)∧St b (o+i))
   (hc:∀(i:Nat)c,x.cells[i]? =some c→aK w St c (vs i)):aG base O (.aE x off) (.pointer (some ⟨b,o+off,none⟩))
 |dg (O:Nat→Nat→Nat→Prop) (f:Fn) (first cap:List SV) (fv cv:Array Value) (hf:first.length=fv.size) (hc:cap.length=cv.size)
   (rf:∀(i:Nat)x v,first[i]? =some x→fv[i]? =some v→aG base (fun _ _ _=>False) x v)
   (rc:∀(i:Nat)x v,cap[i]? =some x→cv[i]? =some v→aG base (fun _ _ _=>False) x v):aG base O (.dg f first cap) (.func f fv cv)
 |bj (O:Nat→Nat→Nat→Prop) (sz:Nat) (L:List D) (g cap:Nat) (vs:Nat→Value) (bq:L.length≤cap) (hm:cap≤maxLen) (aB:∀x∈L,x.cells.length=sz) (hf:∀x∈L,∀c∈x.cells,c.one=true)
   (ho:O g 0 (cap*sz)) (aN:∀(o:Nat),o<L.length*sz→w.cell? ⟨g,o,none⟩=some (vs o))
   (hc:∀(i:Nat)x(j:Nat)c,L[i]? =some x→x.cells[j]? =some c→aK w St c (vs (i*sz+j))):aG base O (.bj sz L) (.slice (some ⟨g,0,none⟩) L.length cap)
 |mp (O:Nat→Nat→Nat→Prop) (l:List (MK×D)) (r:Nat) (es:Array MapEntry) (clock:Nat) (hh:w.heap[r]? =some (.map es clock)) (hs:St r 0) (hl:l.length=es.size)
   (hc:∀(i:Nat)x y,l[i]? =some x→es[i]? =some y→x.1.Is y.key∧True∧aK w St x.2 y.val):aG base O (.mp l) (.map (some r))
 |undef (O:Nat→Nat→Nat→Prop) (v:Value):aG base O .undef v
end
theorem aK.mono{w w':World}{St bA:Nat→Nat→Prop}(h:∀b o,St b o→bA b o∧w'.cell? ⟨b,o,none⟩=w.cell? ⟨b,o,none⟩){d:D}{v:Value}
  (r:aK w St d v):aK w' bA d v:=by
 induction r with
 |bool b=>exact .bool b
 |int k n hk=>exact .int k n hk
 |str s hs=>exact .str s hs
 |agg ds vs hf hl _ ih=>exact .agg ds vs hf hl ih
 |iT sz=>exact .iT sz
 |sl sz L b off cap vs bq hm aB hf aN _ ih=>
  exact .sl sz L b off cap vs bq hm aB hf (fun o ho=>⟨(h _ _ (aN o ho).2).2.trans (aN o ho).1,(h _ _ (aN o ho).2).1⟩) ih
 |iU sz a cap ha=>exact .iU sz a cap ha
 |fn f=>exact .fn f
 |qi=>exact .qi
 |iface t x v _ ih=>exact .iface t x v ih
 |oN=>exact .oN
 |mA=>exact .mA
theorem aG.mono{w w':World}{St bA:Nat→Nat→Prop}{base:Nat}(h0:∀b o,St b o→bA b o∧tf w w' b o)
  (hb:∀b o,b<base→w'.cell? ⟨b,o,none⟩=w.cell? ⟨b,o,none⟩){O:Nat→Nat→Nat→Prop}{x:SV}{v:Value}(r:aG w St base O x v):
  ∀O':Nat→Nat→Nat→Prop,(∀g a c,O g a c→O' g a c∧pW w w' g a)→aG w' bA base O' x v:=by
 have h:∀b o,St b o→bA b o∧w'.cell? ⟨b,o,none⟩=w.cell? ⟨b,o,none⟩:=fun b o hs=>⟨(h0 b o hs).1,(h0 b o hs).2.1⟩
 induction r with
 |d O x v hd=>exact fun O' _=>.d O' x v (hd.mono h)
 |own O sz L g cap hd bq ho=>exact fun O' hO=>.own O' sz L g cap (hd.mono h) bq (hO _ _ _ ho).1
 |full O sz L a hd=>exact fun O' _=>.full O' sz L a (hd.mono h)
 |ref O cs off b o vs cD aN _ ih=>exact fun O' _=>.ref O' cs off b o vs cD (fun i hi=>⟨(hb _ _ cD).trans (aN i hi).1,(aN i hi).2⟩) fun i c hc=>ih i c hc _ (fun _ _ _ h=>h.elim)
 |ev O n sz cs b cap vs cD hn hm aN _ ih=>exact fun O' _=>.ev O' n sz cs b cap vs cD hn hm (fun i hi=>⟨(hb _ _ cD).trans (aN i hi).1,(aN i hi).2⟩) fun i c hc=>ih i c hc _ (fun _ _ _ h=>h.elim)
 |aE O x off b o vs hf aN hc=>
  exact fun O' _=>.aE O' x off b o vs hf (fun i hi=>⟨(h _ _ (aN i hi).2).2.trans (aN i hi).1,(h _ _ (aN i hi).2).1⟩) fun i c hi=>(hc i c hi).mono h
 |dg O f first cap fv cv hf hc _ _ iV iW=>exact fun O' _=>.dg O' f first cap fv cv hf hc (fun i x v a b=>iV i x v a b _ (fun _ _ _ h=>h.elim)) (fun i x v a b=>iW i x v a b _ (fun _ _ _ h=>h.elim))
 |bj O sz L g cap vs bq hm aB hf ho aN hc=>
  exact fun O' hO=>.bj O' sz L g cap vs bq hm aB hf (hO _ _ _ ho).1 (fun o bJ=>(World.cell?_of_block ((hO _ _ _ ho).2 rfl)).trans (aN o bJ)) fun i x j c hx iD=>(hc i x j c hx iD).mono h
 |mp O l r es clock hh hs hl hc=>exact fun O' _=>.mp O' l r es clock ((h0 r 0 hs).2.2 es clock hh) (h r 0 hs).1 hl fun i x y a b=>⟨(hc i x y a b).1,(hc i x y a b).2.1,(hc i x y a b).2.2.mono h⟩
 |undef O v=>exact fun O' _=>.undef O' v
theorem aG.aa{w:World}{St:Nat→Nat→Prop}{base:Nat}{O O':Nat→Nat→Nat→Prop}{x:SV}{v:Value}(r:aG w St base O x v):aG w St base O' (aa x) v:=by
 cases r with
 |d _ x v hd=>exact .d _ x v hd
 |own _ sz L g cap hd bq ho=>exact .d _ _ _ hd
 |full _ sz L a hd=>exact .full _ sz L a hd
 |ref _ cs off b o vs cD aN hc=>exact .ref _ cs off b o vs cD aN hc
 |ev _ n sz cs b cap vs cD hn hm aN hc=>exact .ev _ n sz cs b cap vs cD hn hm aN hc
 |aE _ x off b o vs hf aN hc=>exact .aE _ x off b o vs hf aN hc
 |dg _ f first cap fv cv hf hc rf rc=>exact .dg _ f first cap fv cv hf hc rf rc
 |bj _ sz L g cap vs bq hm aB hf ho aN hc=>exact .undef _ _
 |mp _ l r es clock hh hs hl hc=>exact .mp _ l r es clock hh hs hl hc
 |undef _ v=>exact .undef _ _
theorem aG.cg{w:World}{St:Nat→Nat→Prop}{base:Nat}{O:Nat→Nat→Nat→Prop}{x:SV}{v:Value}(r:aG w St base O x v){y:D}(h:Ab.cg x=some y):aK w St y v:=by
 cases r<;>simp only[Ab.cg,Option.some.injEq,reduceCtorEq]at h<;>subst h<;>assumption
mutual
def SV.Wf:SV→Prop
 | .d x=>x.Wf
 | .own sz L=>(D.sl .ro sz L).Wf
 | .full sz L=>(D.sl .ro sz L).Wf
 | .bj sz L=>(D.sl .ro sz L).Wf
 | .ref cs _=>SV.fu cs
 | .ev _ _ cs=>SV.fu cs
 | .aE x _=>D.fu x.cells
 | .dg _ a b=>SV.fu a∧SV.fu b
 | .dA l=>SV.fu l
 | .mp l=>∀x∈l,x.2.Wf
 | .undef =>True
def SV.fu:List SV→Prop
 |[]=>True
 |x::l=>x.Wf∧SV.fu l
end
theorem D.jY:∀(l:List D),D.fu l↔∀x∈l,x.Wf
 |[]=>by simp[D.fu]
 |x::l=>by simp[D.fu,D.jY l]
theorem SV.jY:∀(l:List SV),SV.fu l↔∀x∈l,x.Wf
 |[]=>by simp[SV.fu]
 |x::l=>by simp[SV.fu,SV.jY l]
theorem aK.Ja{w:World}{St:Nat→Nat→Prop}{d:D}{v:Value}(r:aK w St d v):∀c∈d.cells,c.one=true:=by
 cases r with
 |agg ds vs hf hl hc=>exact hf
 |_=>intro c hc;simp only[D.cells,List.mem_singleton]at hc;subst hc;rfl
theorem aK.pX{w:World}{St:Nat→Nat→Prop}{d:D}{v:Value}(r:aK w St d v)(h:d.one=true):v.oneCell'=true:=by
 cases r<;>first|rfl|simp[D.one]at h
theorem aK.wf{w:World}{St:Nat→Nat→Prop}{d:D}{v:Value}(r:aK w St d v):d.Wf:=by
 induction r with
 |int k n hk=>simpa[D.Wf]using hk
 |str s hs=>rw[D.Wf];exact hs
 |agg ds vs hf hl _ ih=>
  rw[D.Wf,D.jY]
  intro x hx
  obtain⟨i,hi,rfl⟩:=List.mem_iff_getElem.1 hx
  exact ih i _ (vs[i]'(by omega)) (by simp) (by simp)
 |iT sz=>simp[D.Wf,D.fu]
 |iU sz a cap=>simp[D.Wf,D.fu]
 |sl sz L b off cap vs bq hm aB hf aN hc ih=>
  rw[D.Wf]
  refine⟨hm,by simp,aB,?_⟩
  rw[D.jY]
  intro x hx
  obtain⟨i,hi,rfl⟩:=List.mem_iff_getElem.1 hx
  have key:∀c∈(L[i]).cells,c.Wf:=fun c gP=>by
   obtain⟨j,hj,rfl⟩:=List.mem_iff_getElem.1 gP
   exact ih i _ j _ (List.getElem?_eq_getElem hi) (List.getElem?_eq_getElem hj)
  cases hL:L[i]with
  |agg cs=>rw[hL]at key;rw[D.Wf,D.jY];exact key
  |_=>rw[hL]at key;exact key _ (by simp[D.cells])
 |iface t x v _ ih=>simpa[D.Wf]using ih
 |_=>simp[D.Wf]
theorem aG.wf{w:World}{St:Nat→Nat→Prop}{base:Nat}{O:Nat→Nat→Nat→Prop}{x:SV}{v:Value}(r:aG w St base O x v):x.Wf:=by
 induction r with
 |d O x v hd=>simpa[SV.Wf]using hd.wf
 |own O sz L g cap hd bq ho=>simpa[SV.Wf]using hd.wf
 |full O sz L a hd=>simpa[SV.Wf]using hd.wf
 |bj O sz L g cap vs bq hm aB hf ho aN hc=>
  rw[SV.Wf,D.Wf]
  refine⟨Nat.le_trans bq hm,by simp,aB,?_⟩
  rw[D.jY]
  intro x hx
  obtain⟨i,hi,rfl⟩:=List.mem_iff_getElem.1 hx
  have key:∀c∈(L[i]).cells,c.Wf:=fun c gP=>by
   obtain⟨j,hj,rfl⟩:=List.mem_iff_getElem.1 gP
   exact(hc i _ j _ (List.getElem?_eq_getElem hi) (List.getElem?_eq_getElem hj)).wf
  cases hL:L[i]with
  |agg cs=>rw[hL]at key;rw[D.Wf,D.jY];exact key
  |_=>rw[hL]at key;exact key _ (by simp[D.cells])
 |ref O cs off b o vs cD aN _ ih=>
  rw[SV.Wf,SV.jY]
  intro x hx
  obtain⟨i,hi,rfl⟩:=List.mem_iff_getElem.1 hx
  exact ih i _ (by simp)
 |ev O n sz cs b cap vs cD hn hm aN _ ih=>
  rw[SV.Wf,SV.jY]
  intro x hx
  obtain⟨i,hi,rfl⟩:=List.mem_iff_getElem.1 hx
  exact ih i _ (by simp)
 |aE O x off b o vs hf aN hc=>
  rw[SV.Wf,D.jY]
  intro c gP
  obtain⟨j,hj,rfl⟩:=List.mem_iff_getElem.1 gP
  exact(hc j _ (by simp)).wf
 |dg O f first cap fv cv hf hc _ _ iV iW=>
  rw[SV.Wf,SV.jY,SV.jY]
  constructor
  ·intro x hx
   obtain⟨i,hi,rfl⟩:=List.mem_iff_getElem.1 hx
   exact iV i _ (fv[i]'(by omega)) (by simp) (by simp)
  ·intro x hx
   obtain⟨i,hi,rfl⟩:=List.mem_iff_getElem.1 hx
   exact iW i _ (cv[i]'(by omega)) (by simp) (by simp)
 |mp O l r es clock hh hs hl hc=>
  rw[SV.Wf]
  intro x hx
  obtain⟨i,hi,rfl⟩:=List.mem_iff_getElem.1 hx
  exact(hc i _ (es[i]'(by omega)) (by simp) (by simp)).2.2.wf
 |undef=>simp[SV.Wf]
inductive Pos where
 |s (i j:Nat)
 |b (i j:Nat)
 deriving DecidableEq
structure Gh where
 St:Nat→Nat→Prop
 bx:List (Option Nat)
 ow:Nat→Option Pos
def fe(base:Nat)(w:World)(g:Gh)(p:Pos)(b a c:Nat):Prop:=
 g.ow b=some p∧base≤b∧some b∉g.bx∧(∃cur e,w.heap[b]? =some (.cells cur e (0,0))∧cur.size=c)∧∀o,a≤o→¬g.St b o
inductive bM(base:Nat)(w:World)(g:Gh):(Nat→Nat→Nat→Nat→Prop)→Slot→Value→Prop
 |v (O:Nat→Nat→Nat→Nat→Prop) (x:SV) (y:Value) (h:aG w g.St base (O 0) x y):bM base w g O (.v x) y
 |p (O:Nat→Nat→Nat→Nat→Prop) (b off aj:Nat) (h:g.bx[b]? =some (some aj)):bM base w g O (.p b off) (.pointer (some ⟨aj,off,none⟩))
 |c (O:Nat→Nat→Nat→Nat→Prop) (f:Fn) (first cap:List Slot) (fv cv:Array Value) (hf:first.length=fv.size) (hc:cap.length=cv.size)
   (rf:∀(i:Nat)x v,first[i]? =some x→fv[i]? =some v→bM base w g (fun _ _ _ _=>False) x v)
   (rc:∀(i:Nat)x v,cap[i]? =some x→cv[i]? =some v→bM base w g (fun _ _ _ _=>False) x v):bM base w g O (.c f first cap) (.func f fv cv)
 |a (O:Nat→Nat→Nat→Nat→Prop) (b n sz:Nat) (v:Value) (hm:n≤maxLen) (h:∃aj cap,g.bx[b]? =some (some aj)∧n≤cap∧v=.slice (some ⟨aj,0,none⟩) n cap∧cap≤maxLen∧∃c ty,w.heap[aj]? =some (.cells c ty (0,0))∧c.size=cap*sz):bM base w g O (.a b n sz) v
 |m (O:Nat→Nat→Nat→Nat→Prop) (b aj:Nat) (h:g.bx[b]? =some (some aj)):bM base w g O (.m b) (.map (some aj))
 |t (O:Nat→Nat→Nat→Nat→Prop) (xs:List SV) (vs:Array Value) (hl:xs.length=vs.size)
   (hc:∀(j:Nat)x v,xs[j]? =some x→vs[j]? =some v→aG w g.St base (O j) x v):bM base w g O (.t xs) (.tuple vs)
def fT(base:Nat)(w:World)(g:Gh)(i j:Nat):Nat→Nat→Nat→Prop:=fe base w g (.s i j)
def nT(base:Nat)(w:World)(g:Gh)(i j:Nat):Nat→Nat→Nat→Prop:=fe base w g (.b i j)
def af.size:af→Nat
 | .cells cs=>cs.length
 | .one _=>1
 |_=>0
def LK(base:Nat)(w:World)(g:Gh)(b:Nat)(bx:af)(aj:Nat):Prop:=
 base≤aj∧∃c t,w.heap[aj]? =some (.cells c t (0,0))∧(∀(j:Nat)y,j<bx.size→c[j]? =some y→y.oneCell'=true)∧match bx with
  | .none =>False
  | .map _=>False
  | .cells cs=>cs.length≤c.size∧∀(j:Nat)x y,cs[j]? =some x→c[j]? =some y→aG w g.St base (nT base w g b j) x y
  | .one s=>0<c.size∧∀y,c[0]? =some y→bM base w g (fun _=>nT base w g b 0) s y
def Vx(base:Nat)(w:World)(g:Gh)(l:List (MK×D))(aj:Nat):Prop:=
 base≤aj∧∃es clock,w.heap[aj]? =some (.map es clock)∧l.length=es.size∧∀(i:Nat)x y,l[i]? =some x→es[i]? =some y→x.1.Is y.key∧True∧aK w g.St x.2 y.val
def mI(base:Nat)(w:World)(g:Gh)(b:Nat)(bx:af)(aj:Nat):Prop:=match bx with
 | .map l=>Vx base w g l aj
 | .none =>False
 | .cells cs=>LK base w g b (.cells cs) aj
 | .one s=>LK base w g b (.one s) aj
theorem mI.low{base:Nat}{w:World}{g:Gh}{b:Nat}{bx:af}{aj:Nat}(h:mI base w g b bx aj):base≤aj:=by
 cases bx<;>first|exact h.1|exact h.elim
def tl(gl:Nat→Option D)(w:World)(St:Nat→Nat→Prop):Prop:=
 ∀n x,gl n=some x→(∀c∈x.cells,c.one=true)∧∃vs:Nat→Value,(∀(i:Nat),i<x.cells.length→w.cell? ⟨n,i,none⟩=some (vs i)∧St n i)∧∀(i:Nat)c,x.cells[i]? =some c→aK w St c (vs i)
structure S0 where
 St:Nat→Nat→Prop
 df:Nat→Obj→Prop
 cl:Nat→Nat→Value→Prop
 sz:Nat:=0
instance:CoeFun S0 (fun _=>Nat→Nat→Prop):=⟨S0.St⟩
theorem fo{w:World}{D:Nat}{x:Obj}(h:w.heap[D]? =some x):D<w.heap.size:=(Array.getElem?_eq_some_iff.1 h).1
structure Inv(gl:Nat→Option D)(w0:World)(an:S0)(e:Env)(a:Act)(w:World)(g:Gh):Prop where
 below:Below w0.heap.size w0 w
 size:a.tmps.size=e.ai.length
 ai:∀(i:Nat)s,e.ai[i]? =some s→bM w0.heap.size w g (fT w0.heap.size w g i) s (a.tmps.getD i undef)
 er:g.bx.length=e.boxes.length
 boxes:∀(b:Nat)bx aj,e.boxes[b]? =some bx→g.bx[b]? =some (some aj)→mI w0.heap.size w g b bx aj
 nodup:∀(i j:Nat)aj,g.bx[i]? =some (some aj)→g.bx[j]? =some (some aj)→i=j
 eZ:∀b o,an b o→g.St b o
 bT:∀b o,g.St b o→(an b o∨w0.heap.size≤b)∧some b∉g.bx∧b<w.heap.size
 cU:∀b,some b∈g.bx→w0.heap.size≤b∧b<w.heap.size
 js:tl gl w g.St
 defers:a.defers=[]
 ec:∀(D:Nat)(o:Obj),an.df D o→some D∉g.bx∧g.ow D=none∧w.heap[D]? =some o∧∀x,g.St D x→an.St D x
 cls:∀(b o:Nat)(v:Value),an.cl b o v→g.St b o∧w.cell? ⟨b,o,none⟩=some v
 iX:an.sz≤w.heap.size
end Go.Proofs.Ytaknajjmldngiaa.Ab
namespace Go.Proofs.Ytaknajjmldngiaa.Ab
open Go
def reach:(acc:List Nat)→List Oper→List Nat
 |acc,[]=>acc
 |acc,o::l=>reach (acc++[o.after.toList.foldl (fun s e=>bif Region.binds .any e then s|||2^e.on|||acc.getD e.on 0 else s) 0]) l
def lz(o:Oper):Option Nat:=match o.op,o.guard with| .alloc _,none=>o.dst|_,_=>none
def jo(l:List Oper):List Nat:=l.filterMap lz
def zi(A:List Nat):Operand→Bool
 | .tmp t=>A.contains t
 |_=>false
def mB(A:List Nat)(o:Oper):Option Nat:=match o.op with
 | .store _ (.tmp a) _=>bif A.contains a then some a else none
 |_=>none
def yi(A:List Nat)(ax:Bool)(o:Oper):Bool:=
 (match lz o with|some _=>true|none=> !e9 o&&(match o.dst with|some d=> !A.contains d|none=>true))&&
 (match o.op with
   | .store _ x y=> !zi A y&&(!zi A x|| !ax)
   |op=>op.operands.toList.all fun x=> !zi A x)
def Bb:List Nat→Bool
 |[]=>true
 |a::l=> !l.contains a&&Bb l
def xW(a m:Nat):List Oper→Nat→Bool
 |[],_=>true
 |o::l,i=>(match lz o with|some b=> !(Nat.beq a b)||Nat.testBit m i|none=>true)&&xW a m l (i+1)
def Az(all:List Oper)(A:List Nat)(ax:Nat→Bool)(R:List Nat):List Oper→Nat→Bool
 |[],_=>true
 |o::l,i=>yi A (ax i) o&&(match mB A o with|some a=>xW a (R.getD i 0) all 0|none=>true)&&Az all A ax R l (i+1)
def eligible(l:List Oper)(ax:Nat→Bool)(R:List Nat):Bool:=Bb (jo l)&&Az l (jo l) ax R l 0
def Bx(A:List Nat)(lx ly:Bool)(x y:Oper):Bool:=match mB A x,mB A y with
 |some a,some b=> !(Nat.beq a b)&& !lx&& !ly
 |some _,none=> !lx&& !ir y&& !ly
 |none,some _=> !ly&& !ir x&& !lx
 |none,none=>false
def Er(all:Array Oper)(A:List Nat)(yI uN:Bool)(x y:Oper):Bool:=
 (gj yI x).all (fun d=> !(y.looksAt all).contains d&& !(gj uN y).contains d)&&
 (gj uN y).all (fun d=> !(x.looksAt all).contains d)&&Bx A yI uN x y
def wE(E:Option (List Nat))(all:Array Oper)(lx ly:Bool)(x y:Oper):Bool:=
 indep all lx ly x y||(match E with|some A=>Er all A lx ly x y|none=>false)
def Bc(E:Option (List Nat))(ops:Array Oper)(ax:Nat→Bool)(R:List Nat)(i:Nat)(o:Oper):List Oper→Nat→Bool
 |[],_=>true
 |p::l,j=>(Nat.testBit (R.getD j 0) i||wE E ops (ax i) (ax j) o p)&&Bc E ops ax R i o l (j+1)
def ux(E:Option (List Nat))(ops:Array Oper)(ax:Nat→Bool)(R:List Nat):List Oper→Nat→Bool
 |[],_=>true
 |o::l,i=>o.after.toList.all (fun e=> !Region.binds .any e||Nat.blt e.on i)&&Bc E ops ax R i o l (i+1)&&ux E ops ax R l (i+1)
def jE(ax:Nat→Bool)(ops:Array Oper):Bool:=
 bif eligible ops.toList ax (reach [] ops.toList)then ux (some (jo ops.toList)) ops ax (reach [] ops.toList) ops.toList 0
 else ux none ops ax (reach [] ops.toList) ops.toList 0
def mC(m:Nat):List Oper→Nat→List Nat
 |[],_=>[]
 |o::l,i=>bif !Nat.testBit m i&&o.after.toList.all (fun e=> !Region.binds .any e||Nat.testBit m e.on)then i::mC m l (i+1)else mC m l (i+1)
def By(ops:Array Oper)(ax:Nat→Bool)(R:List Nat)(m i:Nat)(o:Oper):List Oper→Nat→Bool
 |[],_=>true
 |p::l,j=>(Nat.beq i j||Nat.testBit m j||Nat.testBit (R.getD j 0) i||indep ops (ax i) (ax j) o p)&&By ops ax R m i o l (j+1)
def Bd(ops:Array Oper)(ax:Nat→Bool)(R:List Nat)(m i:Nat):Bool:=match ops.toList[i]? with
 |some o=>By ops ax R m i o ops.toList 0
 |none=>false
def firstFree(ops:Array Oper)(ax:Nat→Bool)(R:List Nat)(m:Nat):List Nat→Option Nat
 |[]=>none
 |i::l=>bif Bd ops ax R m i then some i else firstFree ops ax R m l
def LL(ops:Array Oper)(ax:Nat→Bool)(R:List Nat)(m:Nat):List Nat:=match firstFree ops ax R m (mC m ops.toList 0)with
 |some i=>[i]
 |none=>mC m ops.toList 0
def BL(f:Nat→Prop):List Nat→Prop
 |[]=>True
 |i::l=>match l with|[]=>f i|_=>f i∧BL f l
def yt(gh:List (Nat×List fK))(id:Nat):Bool:=gh.any fun p=>Nat.beq p.1 id&&p.2.isEmpty
mutual
def SV.au:SV→Bool
 | .ref _ _=>false
 | .ev _ _ _=>false
 | .dg _ a b=>SV.lC a&&SV.lC b
 | .dA l=>SV.lC l
 |_=>true
def SV.lC:List SV→Bool
 |[]=>true
 |x::l=>SV.au x&&SV.lC l
end
def uy(ws vars consts:List Nat):List Slot→Nat→Bool
 |[],_=>true
 |s::l,t=>(match s with| .v _=>true| .t _=>true|_=>ws.contains t||(!vars.contains t&&consts.contains t))&&uy ws vars consts l (t+1)
section
variable(P:Program)(gl:Nat→Option D)(C:bu)(h:Hints)
def uO(ops:Array Oper)(ax:Nat→Bool)(R:List Nat)(base:Nat)(Q:Env→Prop):Nat→Nat→Env→Prop
 |0,m,e=>bif (mC m ops.toList 0).isEmpty then Q e else False
 |n+1,m,e=>bif (mC m ops.toList 0).isEmpty then Q e else
   BL (fun i=>match ops.toList[i]? with
    |some o=>tk ops.toList o e (fun e'=>j3 P gl C (base+ep ops.toList i) (ax i) o e' fun gO=>uO ops ax R base Q n (m|||2^i) gO) (fun e'=>uO ops ax R base Q n (m|||2^i) ⟨bF e'.ai o.dst (.t []),e'.boxes⟩)
    |none=>False) (LL ops ax R m)
def WC(ops:Array Oper)(ax:Nat→Bool)(e:Env)(Q:Env→Prop):Prop:=
 uO P gl C ops ax (reach [] ops.toList) e.boxes.length Q ops.toList.length 0 ⟨e.ai,e.boxes++List.replicate (ep ops.toList ops.toList.length) .none⟩
def lI(ok:Bool)(ops:Array Oper)(ax:Nat→Bool)(e:Env)(Q:Env→Prop)(e':Env):Prop:=
 bif ok then Q e' else WC P gl C ops ax e (fun x=>x=e')∧Q e'
def kS(e:Env)(c:Operand)(A B:Env→Prop):Prop:=match c with
 | .tmp t=>(match e.ai.getD t (.v .undef)with
   | .v x=>ao x (A (e.nS t true)) (B (e.nS t false))
   |_=>False)
 | .const (.bool b)=>cond b (A e) (B e)
 |_=>False
def Es(a b:Code):Nat:=bif Nat.beq (g6 a) 0 then g6 b else g6 a
def oQ(A:(List SV→List (List SV)→Prop)→Prop)(F:List SV→List (List SV)→Prop):Prop:=A F
def mG(key:Nat)(c:Code)(e:Env)(Q:Ex→Env→Prop)(T:(Ex→Env→Prop)→Prop):Prop:=
 match fS h.cY key with
 |([],[])=>T Q
 |(vars,consts)=>bif consts.all (fun t=> !(b9 h.gh c).contains t)&&uy (b9 h.gh c) vars consts e.ai 0 then
    oQ (fun J=>T (fun x e'=>match x with| .normal =>J (m8 e' vars) (m6 e.boxes.length e')| .exit i=>Q (.exit i) e'| .ret =>Q .ret e'))
     (fun vs bs=>Q .normal ⟨mn vars consts vs e.ai 0,mo bs e.boxes 0⟩)
  else False
def aw:Code→(Ex→Env→Prop)→Env→Prop
 | .skip,Q,e=>Q .normal e
 | .region id ops draw,Q,e=>mG h (2000000+id) (.region id ops draw) e Q fun Q=>bif (!draw||jE (fc h id) ops)||yt h.gh id then jn (tm h.gh id) e (fun e'=>oG P gl C (fc h id) ops.toList e' (lI P gl C (!draw||jE (fc h id) ops) ops (fc h id) e' (Q .normal)))else False
 | .seq a b,Q,e=>aw a (fun x e'=>match x with| .normal =>aw b Q e'| .exit i=>Q (.exit i) e'| .ret =>Q .ret e') e
 | .cond c a b,Q,e=>mG h (1000000+Es a b) (.cond c a b) e Q fun Q=>kS e c (aw a Q) (aw b Q)
 | .block id b,Q,e=>aw b (fun x e'=>match x with| .normal =>Q .normal e'| .exit i=>bif i==id then Q .normal e' else Q (.exit i) e'| .ret =>Q .ret e') e
 | .loop b,Q,e=>(match fS h.cY (g6 b)with
   |(vars,consts)=>bif consts.all (fun t=> !(b9 h.gh b).contains t)&&uy (b9 h.gh b) vars consts e.ai 0 then
      cm (fun vs bs I=>aw b (fun x e'=>match x with| .normal =>I (m8 e' vars) (m6 e.boxes.length e')| .exit i=>Q (.exit i) e'| .ret =>Q .ret e')
          ⟨mn vars consts vs e.ai 0,mo bs e.boxes 0⟩)
       (m8 e vars) (m6 e.boxes.length e)
    else False)
 | .exit id,Q,e=>Q (.exit id) e
 | .ret,Q,e=>Q .ret e
 |_,_,_=>False
def rF(e:Env)(used:List Nat)(r:ResultVar)(k:SV→Prop):Prop:=match r with
 | .tmp t=>(match e.ai.getD t (.v .undef)with
   | .v x=>x.au=true∧k (bif used.contains t then aa x else x)
   |_=>False)
 | .cell a t=>ab (fH P t) fun ly=>(match e.ai.getD a (.v .undef)with
   | .p b off=>my ly.1 ly.2 b off e.boxes fun s _=>(match s with
     | .v x=>x.au=true∧k x
     |_=>False)
   |_=>False)
def yj(used:List Nat):ResultVar→List Nat
 | .tmp t=>t::used
 | .cell _ _=>used
def ql(e:Env):List Nat→List ResultVar→(List SV→Prop)→Prop
 |_,[],k=>k []
 |used,r::l,k=>rF P e used r fun x=>ql e (yj used r) l fun xs=>k (x::xs)
def finish(fn:Func)(e:Env)(K:SV→Prop):Prop:=match fn.results.toList with
 |[r]=>rF P e [] r K
 |l=>ql P e [] l fun xs=>K (.dA xs)
def enter(n:Nat)(args:List SV):Env:=⟨args.map .v ++List.replicate (n-args.length) (.v .undef),[]⟩
def cV(args:List SV)(X:Prop):Prop:=SV.fu args→X
def body(f:FuncId)(args:List SV)(K:SV→Prop):Prop:=match P.funcs[f]? with
 |some fn=>(match fn.body with
  |some c=>cV args (aw P gl C h c (fun x e=>match x with| .normal =>finish P fn e K| .ret =>finish P fn e K| .exit _=>False) (enter fn.ntmps args))
  |none=>False)
 |none=>False
end
end Go.Proofs.Ytaknajjmldngiaa.Ab
namespace Go.Proofs.Ytaknajjmldngiaa.Ab
open Go Go.RowKit
def oK(w w':World):Prop:=∀(b:Nat)c ty,w.heap[b]? =some (.cells c ty (0,0))→∃c' rU,w'.heap[b]? =some (.cells c' rU (0,0))∧c'.size=c.size
theorem oK.refl(w:World):oK w w:=fun _ c ty h=>⟨c,ty,h,rfl⟩
theorem oK.of{w w':World}(h:∀b,b<w.heap.size→w'.heap[b]? =w.heap[b]?):oK w w':=fun b c ty hb=>⟨c,ty,(h b (fo hb)).trans hb,rfl⟩
theorem oK.trans{a b c:World}(h:oK a b)(k:oK b c):oK a c:=fun x cc ty hx=>by
 obtain⟨c1,t1,h1,e1⟩:=h x cc ty hx
 obtain⟨c2,t2,h2,e2⟩:=k x c1 t1 h1
 exact⟨c2,t2,h2,e2.trans e1⟩
structure Ext(base:Nat)(w:World)(g:Gh)(w':World)(g':Gh)(lost:Pos→Prop):Prop where
 df:∀(D:Nat)(o:Obj),some D∉g.bx→g.ow D=none→w.heap[D]? =some o→w'.heap[D]? =some o∧some D∉g'.bx∧g'.ow D=none∧∀x,g'.St D x→g.St D x
 st:∀b o,g.St b o→g'.St b o∧tf w w' b o
 bs:∀b o,b<base→w'.cell? ⟨b,o,none⟩=w.cell? ⟨b,o,none⟩
 bx:∀(i:Nat)aj,g.bx[i]? =some (some aj)→g'.bx[i]? =some (some aj)
 own:∀p b a c,¬lost p→fe base w g p b a c→fe base w' g' p b a c∧pW w w' b a
 sh:oK w w'
theorem bM.mono{base:Nat}{w w':World}{g g':Gh}{O O':Nat→Nat→Nat→Nat→Prop}{s:Slot}{v:Value}(r:bM base w g O s v)
  (st:∀b o,g.St b o→g'.St b o∧tf w w' b o)(bs:∀b o,b<base→w'.cell? ⟨b,o,none⟩=w.cell? ⟨b,o,none⟩)
  (bx:∀(i:Nat)aj,g.bx[i]? =some (some aj)→g'.bx[i]? =some (some aj))(sh:oK w w')(hO:∀j b a c,O j b a c→O' j b a c∧pW w w' b a):bM base w' g' O' s v:=by
 induction r generalizing O' with
 |v O x y h=>exact .v _ x y (h.mono st bs _ (hO 0))
 |p O b off aj h=>exact .p _ b off aj (bx _ _ h)
 |a O b n sz v hm h=>obtain⟨aj,cap,h1,h2,h3,h4,c,ty,h5,h6⟩:=h;obtain⟨c',rU,h7,h8⟩:=sh aj c ty h5;exact .a _ b n sz v hm ⟨aj,cap,bx _ _ h1,h2,h3,h4,c',rU,h7,h8.trans h6⟩
 |m O b aj h=>exact .m _ b aj (bx _ _ h)
 |c O f first cap fv cv hf hc _ _ iV iW=>exact .c _ f first cap fv cv hf hc (fun i x v a b=>iV i x v a b (fun _ _ _ _ h=>h.elim)) (fun i x v a b=>iW i x v a b (fun _ _ _ _ h=>h.elim))
 |t O xs vs hl hc=>exact .t _ xs vs hl fun j x v a b=>(hc j x v a b).mono st bs _ (hO j)
theorem bM.aa{base:Nat}{w:World}{g:Gh}{O O':Nat→Nat→Nat→Nat→Prop}{s:Slot}{v:Value}(r:bM base w g O s v):bM base w g O' s.aa v:=by
 cases r with
 |v _ x _ h=>exact .v _ _ _ h.aa
 |p _ b off aj h=>exact .p _ b off aj h
 |a _ b n sz v hm h=>exact .a _ b n sz v hm h
 |m _ b aj h=>exact .m _ b aj h
 |c _ f first cap fv cv hf hc rf rc=>exact .c _ f first cap fv cv hf hc rf rc
 |t _ xs vs hl hc=>
  refine .t _ _ vs (by simpa using hl) fun j x v a b=>?_
  simp only[List.getElem?_map,Option.map_eq_some_iff]at a
  obtain⟨x',a,rfl⟩:=a
  exact(hc j x' v a b).aa
theorem Ext.refl(base:Nat)(w:World)(g:Gh):Ext base w g w g (fun _=>False):=⟨fun _ _ hb ho h=>⟨h,hb,ho,fun _ h=>h⟩,fun _ _ h=>⟨h,.refl _ _ _⟩,fun _ _ _=>rfl,fun _ _ h=>h,fun _ _ _ _ _ h=>⟨h,.refl _ _ _⟩,.refl _⟩
theorem Ext.slot{base:Nat}{w w':World}{g g':Gh}{lost:Pos→Prop}(h:Ext base w g w' g' lost){i:Nat}(hl:∀j,¬lost (.s i j)){s:Slot}{v:Value}
  (r:bM base w g (fT base w g i) s v):bM base w' g' (fT base w' g' i) s v:=
 r.mono h.st h.bs h.bx h.sh fun j b a c ho=>h.own _ b a c (hl j) ho
theorem Ext.none{base:Nat}{w w':World}{g g':Gh}{lost:Pos→Prop}(h:Ext base w g w' g' lost){s:Slot}{v:Value}
  {O O':Nat→Nat→Nat→Nat→Prop}(r:bM base w g O s v):bM base w' g' O' s.aa v:=
 (r.aa (O':=fun _ _ _ _=>False)).mono h.st h.bs h.bx h.sh fun _ _ _ _ h=>h.elim
theorem Ext.MJ{base:Nat}{w w':World}{g g':Gh}{lost:Pos→Prop}(h:Ext base w g w' g' lost):∀b o,g.St b o→g'.St b o∧w'.cell? ⟨b,o,Option.none⟩=w.cell? ⟨b,o,Option.none⟩:=fun b o hs=>⟨(h.st b o hs).1,(h.st b o hs).2.1⟩
theorem Ext.yJ{base:Nat}{w w':World}{g g':Gh}{lost:Pos→Prop}(h:Ext base w g w' g' lost){x:D}{v:Value}(r:aK w g.St x v):aK w' g'.St x v:=r.mono fun b o hs=>⟨(h.st b o hs).1,(h.st b o hs).2.1⟩
theorem Ext.box{base:Nat}{w w':World}{g g':Gh}{lost:Pos→Prop}(h:Ext base w g w' g' lost){b:Nat}{bx:af}{aj:Nat}(hl:∀j,¬lost (.b b j))
  (hb:w'.heap[aj]? =w.heap[aj]?)(r:mI base w g b bx aj):mI base w' g' b bx aj:=by
 cases bx with
 |none=>exact r.elim
 |cells cs=>
  obtain⟨h0,c,t,hc,h1,hr⟩:=r
  exact⟨h0,c,t,hb.trans hc,h1,hr.1,fun j x y hx hy=>(hr.2 j x y hx hy).mono h.st h.bs _ fun b' a c' ho=>h.own _ b' a c' (hl j) ho⟩
 |one s=>
  obtain⟨h0,c,t,hc,h1,hr⟩:=r
  exact⟨h0,c,t,hb.trans hc,h1,hr.1,fun y hy=>(hr.2 y hy).mono h.st h.bs h.bx h.sh fun _ b' a c' ho=>h.own _ b' a c' (hl 0) ho⟩
 |map l=>
  obtain⟨h0,es,clock,hc,h1,hr⟩:=r
  exact⟨h0,es,clock,hb.trans hc,h1,fun i x y hx hy=>⟨(hr i x y hx hy).1,(hr i x y hx hy).2.1,h.yJ (hr i x y hx hy).2.2⟩⟩
theorem OS{l:List Slot}{dst:Option Nat}{s:Slot}{i:Nat}{x:Slot}(h:(bF l dst s)[i]? =some x):(dst=some i∧x=s)∨(dst≠some i∧l[i]? =some x):=by
 cases dst with
 |none=>exact .inr ⟨by simp,h⟩
 |some d=>
  simp only[bF,List.getElem?_set]at h
  by_cases hd:d=i
  ·subst hd
   simp only[↓reduceIte]at h
   split at h
   ·exact .inl ⟨rfl,(Option.some.inj h).symm⟩
   ·cases h
  ·simp only[hd,↓reduceIte]at h
   exact .inr ⟨by simpa using hd,h⟩
theorem s8(a:Act)(dst:Option Tmp)(v:Value)(i:Nat)(h:i<a.tmps.size):(a.put dst v).tmps.getD i undef=if dst=some i then v else a.tmps.getD i undef:=by
 cases dst with
 |none=>simp[Act.put]
 |some d=>
  simp only[Act.put,Array.getD_eq_getD_getElem?,Array.getElem?_setIfInBounds]
  by_cases hd:d=i
  ·subst hd;simp[h]
  ·simp[hd]
theorem s9(a:Act)(dst:Option Tmp)(v:Value):(a.put dst v).tmps.size =a.tmps.size:=by cases dst<;>simp[Act.put]
theorem put_defers(a:Act)(dst:Option Tmp)(v:Value):(a.put dst v).defers =a.defers:=by cases dst<;>rfl
theorem z5(l:List Slot)(dst:Option Nat)(s:Slot):(bF l dst s).length =l.length:=by cases dst<;>simp[bF]
theorem v7{w:World}{St:Nat→Nat→Prop}{v:Value}{x:D}(h:uD v=some x):aK w St x v:=by
 unfold uD at h
 split at h
 ·cases h;exact .bool _
 ·rename_i k n
  cases hw:fg k n with
  |true=>rw[hw]at h;cases h;exact .int _ _ hw
  |false=>rw[hw]at h;cases h
 ·rename_i s
  cases hw:Nat.ble s.size maxLen with
  |true=>rw[hw]at h;cases h;exact .str _ (Nat.le_of_ble_eq_true hw)
  |false=>rw[hw]at h;cases h
 ·cases h;exact .iT 0
 ·cases h;exact .mA
 ·cases h;exact .qi
 ·cases h;exact .oN
 ·rename_i f first captured
  cases hw:(first.isEmpty&&captured.isEmpty)with
  |true=>
   rw[hw]at h;cases h
   simp only[Bool.and_eq_true,Array.isEmpty_iff]at hw
   obtain⟨rfl,rfl⟩:=hw
   exact .fn f
  |false=>rw[hw]at h;cases h
 ·cases h
theorem C5{v:Value}{x:D}(h:uD v=some x):x.one=true:=by
 have:∀{w:World}{St},aK w St x v:=v7 h
 unfold uD at h
 split at h<;>first|(cases h;rfl)|(cases h)|skip
 ·rename_i k n;cases hw:fg k n<;>rw[hw]at h<;>cases h;rfl
 ·rename_i s;cases hw:Nat.ble s.size maxLen<;>rw[hw]at h<;>cases h;rfl
 ·rename_i f first captured;cases hw:(first.isEmpty&&captured.isEmpty)<;>rw[hw]at h<;>cases h;rfl
theorem CT:∀{vs:List Value}{xs:List D},uv vs=some xs→∀x∈xs,x.one=true
 |[],xs,h=>by cases h;simp
 |v::vs,xs,h=>by
  simp only[uv]at h
  split at h
  ·rename_i x hx
   split at h
   ·rename_i r hr
    cases h
    intro y hy
    rcases List.mem_cons.1 hy with rfl|hy
    ·exact C5 hx
    ·exact CT hr y hy
   ·cases h
  ·cases h
theorem xP{w:World}{St:Nat→Nat→Prop}:∀{vs:List Value}{xs:List D},uv vs=some xs→
  xs.length=vs.length∧∀(i:Nat)x v,xs[i]? =some x→vs[i]? =some v→aK w St x v
 |[],xs,h=>by cases h;simp
 |v::vs,xs,h=>by
  simp only[uv]at h
  split at h
  ·rename_i x hx
   split at h
   ·rename_i r hr
    cases h
    obtain⟨h1,h2⟩:=xP (w:=w) (St:=St) hr
    refine⟨by simp[h1],fun i y u hy hu=>?_⟩
    cases i with
    |zero=>simp only[List.getElem?_cons_zero,Option.some.injEq]at hy hu;subst hy hu;exact v7 hx
    |succ i=>simp only[List.getElem?_cons_succ]at hy hu;exact h2 i y u hy hu
   ·cases h
  ·cases h
theorem Qr{w:World}{St:Nat→Nat→Prop}{v:Value}{x:D}(h:Bu v=some x):aK w St x v:=by
 unfold Bu at h
 split at h
 ·split at h
  ·rename_i cs l hl
   cases h
   obtain⟨h1,h2⟩:=xP (w:=w) (St:=St) hl
   exact .agg l _ (CT hl) (by simpa using h1) fun i d v hd hv=>h2 i d v hd (by simpa using hv)
  ·cases h
 ·exact v7 h
section
variable{gl:Nat→Option D}{w0:World}{an:S0}
theorem tl.ext{base:Nat}{w w':World}{g g':Gh}{lost:Pos→Prop}(h:Ext base w g w' g' lost)(r:tl gl w g.St):tl gl w' g'.St:=by
 intro n x hx
 obtain⟨h0,vs,h1,h2⟩:=r n x hx
 exact⟨h0,vs,fun i hi=>⟨(h.st _ _ (h1 i hi).2).2.1.trans (h1 i hi).1,(h.st _ _ (h1 i hi).2).1⟩,fun i c hc=>h.yJ (h2 i c hc)⟩
theorem Inv.stepG{e:Env}{a:Act}{w:World}{g:Gh}(hI:Inv gl w0 an e a w g){w':World}{g':Gh}{lost:Pos→Prop}(hX:Ext w0.heap.size w g w' g' lost)
  {ai:List Slot}{ak:List af}{dst:Option Nat}{s:Slot}{v:Value}
  (mD:Below w0.heap.size w w')
  (hlen:ai.length=e.ai.length)
  (hs:∀(i:Nat)x,ai[i]? =some x→dst≠some i→bM w0.heap.size w' g' (fT w0.heap.size w' g' i) x (a.tmps.getD i undef))
  (lJ:∀d,dst=some d→bM w0.heap.size w' g' (fT w0.heap.size w' g' d) s v)
  (Et:g'.bx.length=ak.length)
  (cR:∀(b:Nat)bx aj,ak[b]? =some bx→g'.bx[b]? =some (some aj)→mI w0.heap.size w' g' b bx aj)
  (nk:∀(i j:Nat)aj,g'.bx[i]? =some (some aj)→g'.bx[j]? =some (some aj)→i=j)(yK:∀b,some b∈g'.bx→w0.heap.size≤b∧b<w'.heap.size)
  (uP:∀b o,g'.St b o→(an b o∨w0.heap.size≤b)∧some b∉g'.bx∧b<w'.heap.size):
  Inv gl w0 an ⟨bF ai dst s,ak⟩ (a.put dst v) w' g':=by
 refine⟨hI.below.trans mD,?_,?_,Et,cR,nk,fun b o h=>(hX.st b o (hI.eZ b o h)).1,uP,yK,hI.js.ext hX,(put_defers a dst v).trans hI.defers,fun D o hD=>(have h:=hI.ec D o hD;have k:=hX.df D o h.1 h.2.1 h.2.2.1;⟨k.2.1,k.2.2.1,k.1,fun x hx=>h.2.2.2 x (k.2.2.2 x hx)⟩),fun b o v hv=>(have h:=hI.cls b o v hv;⟨(hX.st b o h.1).1,(hX.st b o h.1).2.1.trans h.2⟩),Nat.le_trans hI.iX mD.size⟩
 ·rw[s9,z5,hlen,hI.size]
 ·intro i x hx
  have hi:i<a.tmps.size:=by
   have:=(List.getElem?_eq_some_iff.1 hx).1
   rw[z5,hlen]at this
   rw[hI.size];exact this
  rw[s8 a dst v i hi]
  rcases OS hx with⟨hd,rfl⟩|⟨hd,cB⟩
  ·simp only[hd,↓reduceIte];exact lJ i hd
  ·simp only[hd,↓reduceIte]
   exact hs i x cB hd
theorem Inv.step{e:Env}{a:Act}{w:World}{g:Gh}(hI:Inv gl w0 an e a w g){w':World}{g':Gh}{lost:Pos→Prop}(hX:Ext w0.heap.size w g w' g' lost)
  {ai:List Slot}{ak:List af}{dst:Option Nat}{s:Slot}{v:Value}
  (mD:Below w0.heap.size w w')
  (hlen:ai.length=e.ai.length)
  (hs:∀(i:Nat)x,ai[i]? =some x→dst≠some i→∃y,e.ai[i]? =some y∧((x=y∧∀j,¬lost (.s i j))∨x=y.aa))
  (lJ:∀d,dst=some d→bM w0.heap.size w' g' (fT w0.heap.size w' g' d) s v)
  (Et:g'.bx.length=ak.length)
  (cR:∀(b:Nat)bx aj,ak[b]? =some bx→g'.bx[b]? =some (some aj)→mI w0.heap.size w' g' b bx aj)
  (nk:∀(i j:Nat)aj,g'.bx[i]? =some (some aj)→g'.bx[j]? =some (some aj)→i=j)(yK:∀b,some b∈g'.bx→w0.heap.size≤b∧b<w'.heap.size)
  (uP:∀b o,g'.St b o→(an b o∨w0.heap.size≤b)∧some b∉g'.bx∧b<w'.heap.size):
  Inv gl w0 an ⟨bF ai dst s,ak⟩ (a.put dst v) w' g':=by
 refine hI.stepG hX mD hlen (fun i x hx hd=>?_) lJ Et cR nk yK uP
 obtain⟨y,hy,⟨rfl,hl⟩|rfl⟩:=hs i x hx hd
 ·exact hX.slot hl (hI.ai i x hy)
 ·exact hX.none (hI.ai i y hy)
theorem Inv.Bz{e:Env}{a:Act}{w:World}{g:Gh}(hI:Inv gl w0 an e a w g){w':World}{g':Gh}{dst:Option Nat}
  (hX:Ext w0.heap.size w g w' g' (fun p=>∃d j,dst=some d∧p=.s d j))
  {s:Slot}{v:Value}(mD:Below w.heap.size w w')
  (lJ:∀d,dst=some d→bM w0.heap.size w' g' (fT w0.heap.size w' g' d) s v)(cR:g'.bx=g.bx)
  (uP:∀b o,g'.St b o→g.St b o∨(w.heap.size≤b∧b<w'.heap.size)):
  Inv gl w0 an ⟨bF e.ai dst s,e.boxes⟩ (a.put dst v) w' g':=by
 have hle:w0.heap.size≤w.heap.size:=hI.below.size
 refine hI.step hX (mD.mono hle) rfl (fun i x hx hd=>⟨x,hx,.inl ⟨rfl,fun j=>?_⟩⟩) lJ (by rw[cR];exact hI.er) ?_ (by rw[cR];exact hI.nodup) ?_ ?_
 ·rintro⟨d,j',h1,h2⟩
  cases h2
  exact hd h1
 ·intro b bx aj h1 h2
  rw[cR]at h2
  have aS:aj<w.heap.size:=(hI.cU aj (List.mem_of_getElem? h2)).2
  exact hX.box (fun j=>by rintro⟨d,j',_,h⟩;cases h) (mD.block aj aS) (hI.boxes b bx aj h1 h2)
 ·intro b hb
  rw[cR]at hb
  exact⟨(hI.cU b hb).1,Nat.lt_of_lt_of_le (hI.cU b hb).2 mD.size⟩
 ·intro b o h
  rw[cR]
  rcases uP b o h with h|h
  ·obtain⟨h1,h2,h3⟩:=hI.bT b o h
   exact⟨h1,h2,Nat.lt_of_lt_of_le h3 mD.size⟩
  ·exact⟨.inr (Nat.le_trans hle h.1),fun hm=>by have:=(hI.cU b hm).2;omega,h.2⟩
theorem Inv.value{e:Env}{a:Act}{w:World}{g:Gh}(hI:Inv gl w0 an e a w g){dst:Option Nat}{s:Slot}{v:Value}
  (lJ:bM w0.heap.size w g (fun _ _ _ _=>False) s v):Inv gl w0 an ⟨bF e.ai dst s,e.boxes⟩ (a.put dst v) w g:=by
 refine hI.Bz (w':=w) (g':=g) ⟨fun _ _ hb ho h=>⟨h,hb,ho,fun _ h=>h⟩,fun _ _ h=>⟨h,.refl _ _ _⟩,fun _ _ _=>rfl,fun _ _ h=>h,fun _ _ _ _ _ h=>⟨h,.refl _ _ _⟩,.refl _⟩ (Below.refl _ _) (fun d _=>?_) rfl (fun _ _ h=>.inl h)
 exact lJ.mono (fun _ _ h=>⟨h,.refl _ _ _⟩) (fun _ _ _=>rfl) (fun _ _ h=>h) (.refl _) (fun _ _ _ _ h=>h.elim)
theorem Inv.aJ{e:Env}{a:Act}{w:World}{g:Gh}(hI:Inv gl w0 an e a w g)(x:Operand):bM w0.heap.size w g (fun _ _ _ _=>False) (aJ gl e x).aa (a.eval x):=by
 cases x with
 |tmp t=>
  simp only[Ab.aJ,Act.eval,List.getD_eq_getElem?_getD]
  cases h:e.ai[t]? with
  |none=>exact .v _ _ _ (.undef _ _)
  |some s=>exact(hI.ai t s h).aa
 |const v=>
  simp only[Ab.aJ,Act.eval]
  cases h:Bu v with
  |none=>exact .v _ _ _ (.undef _ _)
  |some d=>exact .v _ _ _ (.d _ _ _ (Qr h))
 |func f=>exact .v _ _ _ (.d _ _ _ (.fn _))
 |global n=>
  simp only[Ab.aJ,Act.eval]
  cases h:gl n with
  |none=>exact .v _ _ _ (.undef _ _)
  |some x=>
   obtain⟨h0,vs,h1,h2⟩:=hI.js n x h
   exact .v _ _ _ (.aE _ x 0 n 0 vs h0 (by simpa using h1) h2)
end
end Go.Proofs.Ytaknajjmldngiaa.Ab
namespace Go.Proofs.Ytaknajjmldngiaa.Ab
open Go Go.RowKit
def qq(lo:Nat)(w:World)(St:Nat→Nat→Prop)(ow:Nat→Option Nat)(j:Nat)(b a c:Nat):Prop:=
 ow b=some j∧lo≤b∧(∃cur e,w.heap[b]? =some (.cells cur e (0,0))∧cur.size=c)∧∀o,a≤o→¬St b o
def qc(lo:Nat)(w:World)(St:Nat→Nat→Prop)(ow:Nat→Option Nat)(r:SV)(v:Value):Prop:=match r with
 | .dA rs=>∃vs,v=.tuple vs∧rs.length=vs.size∧∀(j:Nat)x y,rs[j]? =some x→vs[j]? =some y→aG w St 0 (qq lo w St ow j) x y
 |r=>aG w St 0 (qq lo w St ow 0) r v
def mE(P:Program)(f:FuncId):Prop:=∀(args:Array Value)(w:World),(callFunc f args).run P w=.ok (.enter f args) w
def aD(P:Program)(gl:Nat→Option D):bu:=fun f args r=>mE P f∧
 ∀(w:World)(St:Nat→Nat→Prop)(vs:Array Value),(∀b o,St b o→b<w.heap.size)→tl gl w St→args.length=vs.size→
  (∀(i:Nat)x v,args[i]? =some x→vs[i]? =some v→aG w St w.heap.size (fun _ _ _=>False) x v)→
  Calls P f vs w fun e w'=>∃v,e=.returned v∧Below w.heap.size w w'∧∃bA ow,(∀b o,St b o→bA b o)∧(∀b o,bA b o→St b o∨(w.heap.size≤b∧b<w'.heap.size))∧
   qc w.heap.size w' bA ow r v
section
variable{P:Program}{gl:Nat→Option D}{w0:World}{an:S0}{e:Env}{a:Act}{w:World}{g:Gh}
theorem az{α:Type}{o:Option α}{k:α→Prop}(h:ab o k):∃x,o=some x∧k x:=by
 cases o with
 |none=>exact h.elim
 |some x=>exact⟨x,rfl,h⟩
theorem wi{x:SV}{A B:Prop}(h:ao x A B):∃b,x=.d (.bool b)∧(b=true→A)∧(b=false→B):=by
 unfold ao at h
 split at h
 ·rename_i c
  refine⟨c,rfl,?_,?_⟩<;>rintro rfl<;>exact h
 ·exact h.elim
theorem Inv.n8(hI:Inv gl w0 an e a w g){x:Operand}{s:SV}(h:(Ab.aJ gl e x).aa =.v s):aG w g.St w0.heap.size (fun _ _ _=>False) s (a.eval x):=by
 have:=hI.aJ x
 rw[h]at this
 cases this with
 |v _ _ _ h=>exact h
theorem Inv.gk(hI:Inv gl w0 an e a w g)(x:Operand):aG w g.St w0.heap.size (fun _ _ _=>False) ((Ab.aJ gl e x).aa).aT (a.eval x):=by
 have:=hI.aJ x
 cases h:(Ab.aJ gl e x).aa with
 |v s=>exact hI.n8 h
 |_=>exact .undef _ _
theorem aG.data{St:Nat→Nat→Prop}{base:Nat}{O:Nat→Nat→Nat→Prop}{x:D}{v:Value}(h:aG w St base O (.d x) v):aK w St x v:=by
 cases h with
 |d _ _ _ h=>exact h
abbrev aV(P:Program)(gl:Nat→Option D)(w0:World)(an:S0)(ai:List Slot)(o:Oper)(a:Act)(w:World)(k:Slot→List af→Prop):Prop:=
 ∀(next:Act→World→Prop)(Q:Exit→Act→World→Prop),
  (∀s v ak w' g',Inv gl w0 an ⟨bF ai o.dst s,ak⟩ (a.put o.dst v) w' g'→k s ak→next (a.put o.dst v) w')→o.wp P a w next Q
theorem aV.value(hI:Inv gl w0 an e a w g){o:Oper}{v:Value}{s:Slot}{k:Slot→List af→Prop}(aU:(execOp a.eval o).run P w=.ok (.value v) w)
  (hr:bM w0.heap.size w g (fun _ _ _ _=>False) s v)(hk:k s e.boxes):aV P gl w0 an e.ai o a w k:=by
 intro next Q hn
 unfold Oper.wp
 rw[aU]
 exact hn s v _ _ _ (hI.value hr) hk
theorem aV.ea(hI:Inv gl w0 an e a w g){o:Oper}{v:Value}{s:SV}{k:Slot→List af→Prop}(aU:(execOp a.eval o).run P w=.ok (.value v) w)
  (hr:aG w g.St w0.heap.size (fun _ _ _=>False) s v)(hk:k (.v s) e.boxes):aV P gl w0 an e.ai o a w k:=
 aV.value hI aU (.v _ _ _ hr) hk
theorem uq(k:IntKind)(n:Int):fg k (k.wrap n)=true:=by
 have hp:(0:Int)<2^k.bits:=Int.pow_pos (by decide)
 have h1:=Int.emod_nonneg n (Int.ne_of_gt hp)
 have h2:=Int.emod_lt_of_pos n hp
 simp only[fg,Bool.and_eq_true,decide_eq_true_eq,IntKind.min,IntKind.max,IntKind.wrap]
 cases k<;>simp only[IntKind.bits,IntKind.signed]at* <;>(try split)<;>simp_all<;>omega
theorem CU{k:IntKind}{n:Int}:fg k n=true↔k.min≤n∧n≤k.max:=by simp[fg]
theorem SC{k:IntKind}{x y:Int}(hx:fg k x=true)(hy:fg k y=true):fg k (x.tmod y)=true:=by
 rw[CU]at*
 have h1:(x.tmod y).natAbs ≤x.natAbs:=by
  rw[Int.natAbs_tmod]
  exact Nat.mod_le _ _
 have h2:0≤x→0≤x.tmod y:=fun h=>Int.tmod_nonneg y h
 have h3:x≤0→x.tmod y≤0:=fun h=>by
  have:=Int.tmod_nonneg (a:= -x) y (by omega)
  rw[Int.neg_tmod]at this
  omega
 have hm:k.min≤0∧0≤k.max:=by cases k<;>simp[IntKind.min,IntKind.max,IntKind.signed,IntKind.bits]
 constructor
 ·rcases Int.le_total 0 x with h|h
  ·have:=h2 h;omega
  ·have:=h3 h;omega
 ·rcases Int.le_total 0 x with h|h
  ·have:=h2 h;omega
  ·have:=h3 h;omega
theorem SD{k:IntKind}{x:Int}(hx:fg k x=true)(n:Nat):fg k (x.fdiv (2^n))=true:=by
 rw[CU]at*
 have hp:(0:Int)<2^n:=Int.pow_pos (by decide)
 rw[Int.fdiv_eq_ediv_of_nonneg _ (Int.le_of_lt hp)]
 have hm:k.min≤0∧0≤k.max:=by cases k<;>simp[IntKind.min,IntKind.max,IntKind.signed,IntKind.bits]
 constructor
 ·rcases Int.le_total 0 x with h|h
  ·have:=Int.ediv_nonneg h (Int.le_of_lt hp);omega
  ·have:x≤x / 2^n:=by
    have h1:=Int.mul_ediv_add_emod x (2^n)
    have h2:=Int.emod_nonneg x (Int.ne_of_gt hp)
    have h4:x / 2^n≤0:=by
     rcases Int.lt_or_le 0 (x / 2^n)with hh|hh
     ·have h5:2^n*1≤2^n*(x / 2^n):=Int.mul_le_mul_of_nonneg_left (by omega) (Int.le_of_lt hp)
      omega
     ·exact hh
    have h3:(2^n-1)*(x / 2^n)≤0:=Int.mul_nonpos_of_nonneg_of_nonpos (by omega) h4
    have h6:x=x / 2^n+((2^n-1)*(x / 2^n)+x % 2^n):=by
     rw[Int.sub_mul,Int.one_mul];omega
    have h7:=Int.emod_lt_of_pos x hp
    rcases Int.lt_or_le (x / 2^n) x with aS|hle
    ·exfalso
     have h8:2^n*(x / 2^n)≤2^n*(x-1):=Int.mul_le_mul_of_nonneg_left (by omega) (Int.le_of_lt hp)
     have h9:(2^n)*(x-1)≤1*(x-1):=by
      have:0≤(2^n-1)*(1-x):=Int.mul_nonneg (by omega) (by omega)
      rw[Int.sub_mul,Int.mul_sub,Int.mul_sub]at this
      rw[Int.mul_sub]
      omega
     have xn:2^n*(x / 2^n)+2^n≤2^n*x:=by
      have:2^n*(x-1)=2^n*x-2^n:=by rw[Int.mul_sub,Int.mul_one]
      omega
     have Z6:2^n*x≤x:=by
      have:0≤(2^n-1)*(-x):=Int.mul_nonneg (by omega) (by omega)
      rw[Int.sub_mul,Int.mul_neg,Int.mul_neg]at this
      omega
     omega
    ·exact hle
   omega
 ·rcases Int.le_total 0 x with h|h
  ·have:x / 2^n≤x:=Int.ediv_le_self _ h
   omega
  ·have:x / 2^n≤0:=by
    rcases Int.lt_or_le 0 (x / 2^n)with hh|hh
    ·have h1:=Int.mul_ediv_add_emod x (2^n)
     have h2:=Int.emod_nonneg x (Int.ne_of_gt hp)
     have h5:2^n*1≤2^n*(x / 2^n):=Int.mul_le_mul_of_nonneg_left (by omega) (Int.le_of_lt hp)
     omega
    ·exact hh
   omega
theorem PE{op:BinOp}{k:IntKind}{x y:Int}{r:D}(t:TypeId)(gQ:op≠.shl ∧op≠.shr)(hx:fg k x=true)(hy:fg k y=true)(h:iP op k x y=some r):
  ∃v,(binOp op t (.int k x) (.int k y)).run P w=.ok v w∧aK w g.St r v:=by
 cases op<;>simp only[iP,Option.some.injEq,reduceCtorEq]at h<;>(try (exact absurd rfl gQ.1))<;>(try (exact absurd rfl gQ.2))
 case quo=>
  split at h
  ·cases h
  ·rename_i pc
   cases h
   exact⟨_,by simp[binOp,Op.intDiv,pc],.int _ _ (uq _ _)⟩
 case rem=>
  split at h
  ·cases h
  ·rename_i pc
   cases h
   exact⟨_,by simp[binOp,Op.intDiv,pc],.int _ _ (SC hx hy)⟩
 all_goals (subst h)
 case add|sub|mul=>exact⟨_,by simp[binOp,Op.intArith],.int _ _ (uq _ _)⟩
 case and|or|xor|andNot=>exact⟨_,by simp[binOp,Op.intBits],.int _ _ (uq _ _)⟩
 all_goals exact⟨_,by simp[binOp,Op.intCmp],.bool _⟩
theorem H9{op:BinOp}{k k':IntKind}{x y:Int}{r:D}(t:TypeId)(gQ:op=.shl ∨op=.shr)(hx:fg k x=true)(h:yd op k x y=some r):
  ∃v,(binOp op t (.int k x) (.int k' y)).run P w=.ok v w∧aK w g.St r v:=by
 unfold yd at h
 split at h
 ·cases h
 ·rename_i hy
  rcases gQ with rfl|rfl
  ·simp only[Option.some.injEq]at h;subst h
   exact⟨_,by simp[binOp,Op.shift,hy],.int _ _ (uq _ _)⟩
  ·simp only[Option.some.injEq]at h;subst h
   exact⟨_,by simp[binOp,Op.shift,hy],.int _ _ (SD hx _)⟩
theorem HV:∀(x y:List UInt8),Op.bytesLess x y=uw x y
 |_,[]=>by cases ‹List UInt8› <;>rfl
 |[],_::_=>rfl
 |a::x,b::y=>by simp only[Op.bytesLess,uw,HV x y]
theorem PF{op:BinOp}{x y:ByteArray}{r:D}(t:TypeId)(h:wD op x.data.toList y.data.toList=some r):
  ∃v,(binOp op t (.string x) (.string y)).run P w=.ok v w∧aK w g.St r v:=by
 have hx:=ByteArray.toList_eq x
 have hy:=ByteArray.toList_eq y
 cases op<;>simp only[wD,Option.some.injEq,reduceCtorEq]at h
 case add=>
  split at h
  ·rename_i hl
   cases h
   have e:(x++y).data.toList =x.data.toList++y.data.toList:=by simp
   have dM:x.size+y.size≤maxLen:=by rw[Array.length_toList,Array.length_toList]at hl;exact hl
   refine⟨.string (x++y),?_,?_⟩
   ·have hM:((maxLen:Nat):Int)=IntKind.i64.max:=by decide
    have:¬(((x.size+y.size:Nat):Int)>IntKind.i64.max):=by
     rw[←hM]
     omega
    simp only[binOp,Op.stringOp]
    rw[if_neg this]
    rfl
   ·rw[←e]
    refine .str _ ?_
    rw[ByteArray.size_append]
    exact dM
  ·cases h
 all_goals (subst h;exact⟨_,by simp[binOp,Op.stringOp,hx,hy,HV],.bool _⟩)
end
end Go.Proofs.Ytaknajjmldngiaa.Ab
namespace Go.Proofs.Ytaknajjmldngiaa.Ab
open Go Go.RowKit
section
variable{P:Program}{gl:Nat→Option D}{w0:World}{an:S0}{e:Env}{a:Act}{w:World}{g:Gh}
theorem pQ:∀{ks:List CK}{xs:List D},cX ks xs=true→xs.length=ks.length
 |[],[],_=>rfl
 |[],_::_,h=>by simp[cX]at h
 |k::ks,[],h=>by cases k<;>simp[cX]at h
 |k::ks,x::xs,h=>by
  cases k<;>cases x<;>simp only[cX,Bool.false_eq_true]at h<;>simp[pQ h]
theorem vZ:∀{ks ls:List CK}{xs:List D},cX (ks++ls) xs=true→cX ks (xs.take ks.length)=true∧cX ls (xs.drop ks.length)=true
 |[],ls,xs,h=>by simpa[cX]using h
 |k::ks,ls,[],h=>by cases k<;>simp[cX]at h
 |k::ks,ls,x::xs,h=>by
  cases k<;>cases x<;>simp only[List.cons_append,cX,Bool.false_eq_true]at h<;>simpa[cX]using vZ h
theorem CE:∀(xs ys u2 u3:List D),xs.length=ys.length→eC (xs++u2) (ys++u3)=(match eC xs ys with
  |some b=>(match eC u2 u3 with|some c=>some (b&&c)|none=>none)|none=>none)
 |[],[],u2,u3,_=>by
  simp only[List.nil_append,eC]
  cases eC u2 u3<;>simp
 |x::xs,y::ys,u2,u3,h=>by
  simp only[List.cons_append,eC]
  rw[CE xs ys u2 u3 (by simpa using h)]
  cases kg x y<;>simp
  cases eC xs ys<;>simp
  cases eC u2 u3<;>simp[Bool.and_assoc]
 |[],_::_,_,_,h=>by simp at h
 |_::_,[],_,_,h=>by simp at h
def jF(w:World)(St:Nat→Nat→Prop)(xs:List D)(vs:Array Value):Prop:=
 xs.length=vs.size∧∀(i:Nat)x v,xs[i]? =some x→vs[i]? =some v→aK w St x v
theorem jF.agg{w:World}{St:Nat→Nat→Prop}{xs:List D}{vs:Array Value}(h:jF w St xs vs)(hf:∀d∈xs,d.one=true):aK w St (.agg xs) (.agg vs):=.agg xs vs hf h.1 h.2
theorem jF.extract{w:World}{St:Nat→Nat→Prop}{xs:List D}{vs:Array Value}(h:jF w St xs vs)(off n:Nat):
  jF w St ((xs.drop off).take n) (vs.extract off (off+n)):=by
 refine⟨by simp[h.1];omega,fun i x v hx hv=>?_⟩
 rw[List.getElem?_take]at hx
 split at hx
 ·rename_i hi
  rw[List.getElem?_drop]at hx
  rw[Array.getElem?_extract]at hv
  split at hv
  ·exact h.2 (off+i) x v hx hv
  ·cases hv
 ·cases hx
theorem jh{t:TypeId}{n:Nat}(h:ck P t=some n)(w:World):(sizeOf t).run P w=.ok n w:=by
 unfold ck at h
 split at h
 ·rename_i i hi
  cases h
  simp[sizeOf,typeInfo,hi]
 ·cases h
theorem Jb{t:TypeId}{b:Bool}(h:cZ P t=some b)(w:World):(isAgg t).run P w=.ok b w:=by
 unfold cZ at h
 split at h
 ·rename_i fs hu;cases h;simp[isAgg,run_underlying hu]
 ·rename_i n e' hu;cases h;simp[isAgg,run_underlying hu]
 ·rename_i d h1 h2 hu
  cases h
  simp only[isAgg,Sem.run_bind,run_underlying hu,Result.andThen_ok]
  cases d<;>first|rfl|(exact absurd hu (h1 _))|(exact absurd hu (h2 _ _))
 ·cases h
theorem AQ{t:TypeId}{b:Bool}{n:Nat}(h:fH P t=some (b,n)):cZ P t=some b∧ck P t=some n∧(b=false→n=1):=by
 unfold fH at h
 split at h
 ·rename_i b' hb
  split at h
  ·rename_i i hi
   cases hc:(b'||Nat.beq i.size 1)with
   |false=>rw[hc]at h;cases h
   |true=>
    rw[hc]at h
    cases h
    refine⟨hb,by simp[ck,hi],fun hf=>?_⟩
    subst hf
    exact Nat.eq_of_beq_eq_true (by simpa using hc)
  ·cases h
 ·cases h
theorem Ro{t:TypeId}{b:Bool}{n:Nat}(hb:cZ P t=some b)(hn:ck P t=some n)(cs:Array Value)(off:Nat)(w:World):
  (part t cs off).run P w=if b then .ok (.agg (cs.extract off (off+n))) w else(match cs[off]? with|some v=>.ok v w|none=>.halt (.stuck "part: no such cell") w):=by
 unfold part
 simp only[Sem.run_bind,Jb hb,Result.andThen_ok]
 cases b
 ·simp only[Bool.false_eq_true,if_false]
  cases cs[off]? <;>rfl
 ·simp[jh hn]
def gm(w:World)(St:Nat→Nat→Prop)(b:Bool)(xs:List D)(v:Value):Prop:=
 if b then ∃cs,v=.agg cs∧jF w St xs cs else ∃x,xs=[x]∧aK w St x v
theorem xN{f:Nat}{t:TypeId}{ks:List CK}(h:shapeOf P f t=some ks):ck P t=some ks.length∧
  ((cZ P t=some false∧ks.length=1)∨cZ P t=some true):=by
 cases f with
 |zero=>simp[shapeOf]at h
 |succ f=>
  rw[shapeOf]at h
  split at h
  ·rename_i hu;split at h<;>cases h;rename_i hs;exact⟨hs,.inl ⟨by simp[cZ,hu],rfl⟩⟩
  ·rename_i hu;split at h<;>cases h;rename_i hs;exact⟨hs,.inl ⟨by simp[cZ,hu],rfl⟩⟩
  ·rename_i hu;split at h<;>cases h;rename_i hs;exact⟨hs,.inl ⟨by simp[cZ,hu],rfl⟩⟩
  ·rename_i n e' hu
   split at h
   ·rename_i lO fL
    split at h
    ·rename_i s hs
     cases hc:Nat.beq s (n*lO.length)with
     |true=>
      rw[hc]at h;cases h
      have:(td lO n).length =n*lO.length:=by
       clear hc hu hs
       induction n with
       |zero=>simp[td]
       |succ n ih=>simp[td,ih,Nat.succ_mul];omega
      have h2:=Nat.eq_of_beq_eq_true hc
      exact⟨by rw[hs,this,h2],.inr (by simp[cZ,hu])⟩
     |false=>rw[hc]at h;cases h
    ·cases h
   ·cases h
  ·rename_i fs hu
   cases bB:P.stoodInHeld t with
   |true=>rw[bB]at h;cases h
   |false=>
    rw[bB]at h
    simp only[cond_false]at h
    split at h
    ·rename_i lO fL
     split at h
     ·rename_i s hs
      cases hc:Nat.beq s lO.length with
      |true=>
       rw[hc]at h;cases h
       have h2:=Nat.eq_of_beq_eq_true hc
       exact⟨by rw[hs,h2],.inr (by simp[cZ,hu])⟩
      |false=>rw[hc]at h;cases h
     ·cases h
    ·cases h
  ·cases h
theorem jF.valOf{xs:List D}{vs:Array Value}(h:jF w g.St xs vs){t:TypeId}{b:Bool}{n off:Nat}(hb:cZ P t=some b)(hn:ck P t=some n)
  (h1:b=false→n=1)(hle:off+n≤xs.length):∃v,(part t vs off).run P w=.ok v w∧gm w g.St b ((xs.drop off).take n) v:=by
 rw[Ro hb hn]
 cases b with
 |true=>exact⟨_,by simp;rfl,by simp only[gm,if_true];exact⟨_,rfl,h.extract off n⟩⟩
 |false=>
  have n9:=h1 rfl
  subst n9
  have aS:off<xs.length:=by omega
  have w6:off<vs.size:=by rw[←h.1];exact aS
  refine⟨vs[off],by simp[w6],?_⟩
  simp only[gm,Bool.false_eq_true,if_false]
  refine⟨xs[off],?_,h.2 off _ _ (by simp) (by simp)⟩
  rw[List.drop_eq_getElem_cons aS,List.take_succ_cons,List.take_zero]
theorem HC(d:Nat)(go:TypeId→Option (List CK))(aB:∀t ks,go t=some ks→ck P t=some ks.length∧((cZ P t=some false∧ks.length=1)∨cZ P t=some true))
  (ih:∀(t:TypeId)(ks:List CK)(b:Bool)(xs ys:List D)(vx vy:Value)(r:Bool),go t=some ks→cZ P t=some b→
    cX ks xs=true→cX ks ys=true→gm w g.St b xs vx→gm w g.St b ys vy→eC xs ys=some r→(Op.equalIn d t vx vy).run P w=.ok r w)
  {xs ys:List D}{cx cy:Array Value}(rx:jF w g.St xs cx)(ry:jF w g.St ys cy):∀(fs:List Field)(off:Nat)(ks:List CK)(r:Bool),vY go fs off=some ks→off≤xs.length→off≤ys.length→
   cX ks (xs.drop off)=true→cX ks (ys.drop off)=true→eC (xs.drop off) (ys.drop off)=some r→(Op.eqFields d cx cy fs).run P w=.ok r w
 |[],off,ks,r,h,_,_,hx,hy,he=>by
  simp only[vY,Option.some.injEq]at h
  subst h
  have h1:=pQ hx
  have h2:=pQ hy
  rw[List.eq_nil_of_length_eq_zero h1,List.eq_nil_of_length_eq_zero h2]at he
  simp only[eC,Option.some.injEq]at he
  subst he
  rfl
 |f::fs,off,ks,r,h,Z7,Z8,hx,hy,he=>by
  simp only[vY]at h
  split at h
  ·rename_i kf B3
   cases hc:(f.name != "_" &&Nat.beq f.offset off)with
   |false=>rw[hc]at h;cases h
   |true=>
    rw[hc]at h
    simp only[cond_true]at h
    split at h
    ·rename_i kr F1
     cases h
     simp only[Bool.and_eq_true,bne_iff_ne,ne_eq]at hc
     have rG:=Nat.eq_of_beq_eq_true hc.2
     obtain⟨gR,tH⟩:=vZ hx
     obtain⟨u4,u5⟩:=vZ hy
     obtain⟨hs,u6⟩:=aB _ _ B3
     have lx:=pQ hx
     have ly:=pQ hy
     simp only[List.length_drop,List.length_append]at lx ly
     rw[←List.take_append_drop kf.length (xs.drop off),←List.take_append_drop kf.length (ys.drop off),
      CE _ _ _ _ (by simp;omega)]at he
     split at he
     ·rename_i b1 tI
      split at he
      ·rename_i b2 pd
       cases he
       have rest:=HC d go aB ih rx ry fs (off+kf.length) kr b2 F1 (by omega) (by omega) (by rw[List.drop_drop]at tH;exact tH) (by rw[List.drop_drop]at u5;exact u5)
        (by rw[List.drop_drop,List.drop_drop]at pd;exact pd)
       obtain⟨b,hb,h1⟩:∃b,cZ P f.type=some b∧(b=false→kf.length=1):=by
        rcases u6 with⟨h1,h2⟩|h1
        ·exact⟨false,h1,fun _=>h2⟩
        ·exact⟨true,h1,by simp⟩
       obtain⟨vx,px,qx⟩:=rx.valOf (off:=f.offset) hb hs h1 (by omega)
       obtain⟨vy,py,qy⟩:=ry.valOf (off:=f.offset) hb hs h1 (by omega)
       rw[rG]at qx qy
       have hq:=ih f.type kf b _ _ vx vy b1 B3 hb gR u4 qx qy tI
       simp only[Op.eqFields,if_pos hc.1,Sem.run_bind,px,py,hq,Result.andThen_ok]
       cases b1
       ·simp
       ·simpa using rest
      ·cases he
     ·cases he
    ·cases h
  ·cases h
theorem HK(d:Nat)(t:TypeId)(ks:List CK)(b:Bool)(hb:cZ P t=some b)(hs:ck P t=some ks.length)(h1:b=false→ks.length=1)
  (ih:∀(xs ys:List D)(vx vy:Value)(r:Bool),cX ks xs=true→cX ks ys=true→gm w g.St b xs vx→gm w g.St b ys vy→eC xs ys=some r→
    (Op.equalIn d t vx vy).run P w=.ok r w)
  {xs ys:List D}{cx cy:Array Value}(rx:jF w g.St xs cx)(ry:jF w g.St ys cy):∀(n i:Nat)(r:Bool),cX (td ks n) (xs.drop (i*ks.length))=true→
   cX (td ks n) (ys.drop (i*ks.length))=true→eC (xs.drop (i*ks.length)) (ys.drop (i*ks.length))=some r→
   (Op.eqItems d t ks.length cx cy (List.range' i n)).run P w=.ok r w
 |0,i,r,hx,hy,he=>by
  rw[List.eq_nil_of_length_eq_zero (pQ hx),List.eq_nil_of_length_eq_zero (pQ hy)]at he
  simp only[eC,Option.some.injEq]at he
  subst he
  rfl
 |n+1,i,r,hx,hy,he=>by
  simp only[td]at hx hy
  obtain⟨gR,tH⟩:=vZ hx
  obtain⟨u4,u5⟩:=vZ hy
  have lx:=pQ hx
  have ly:=pQ hy
  simp only[List.length_drop,List.length_append]at lx ly
  rw[←List.take_append_drop ks.length (xs.drop (i*ks.length)),←List.take_append_drop ks.length (ys.drop (i*ks.length)),
   CE _ _ _ _ (by simp;omega)]at he
  split at he
  ·rename_i b1 tI
   split at he
   ·rename_i b2 pd
    cases he
    have e:i*ks.length+ks.length=(i+1)*ks.length:=by rw[Nat.succ_mul]
    have rest:=HK d t ks b hb hs h1 ih rx ry n (i+1) b2 (by rw[List.drop_drop,e]at tH;exact tH) (by rw[List.drop_drop,e]at u5;exact u5)
     (by rw[List.drop_drop,List.drop_drop,e]at pd;exact pd)
    by_cases hz:ks.length=0∧xs.length<i*ks.length
    ·rw[hz.1]at hz;omega
    have kx:i*ks.length+ks.length≤xs.length:=by
     by_cases h0:ks.length=0
     ·rw[h0];omega
     ·omega
    have ky:i*ks.length+ks.length≤ys.length:=by
     by_cases h0:ks.length=0
     ·rw[h0];omega
     ·omega
    obtain⟨vx,px,qx⟩:=rx.valOf (off:=i*ks.length) hb hs h1 kx
    obtain⟨vy,py,qy⟩:=ry.valOf (off:=i*ks.length) hb hs h1 ky
    have hq:=ih _ _ vx vy b1 gR u4 qx qy tI
    simp only[List.range'_succ,Op.eqItems,Sem.run_bind,px,py,hq,Result.andThen_ok]
    cases b1
    ·simp
    ·simpa using rest
   ·cases he
  ·cases he
theorem CL:∀(f d:Nat)(t:TypeId)(ks:List CK)(b:Bool)(xs ys:List D)(vx vy:Value)(r:Bool),shapeOf P f t=some ks→f≤d→cZ P t=some b→
  cX ks xs=true→cX ks ys=true→gm w g.St b xs vx→gm w g.St b ys vy→eC xs ys=some r→(Op.equalIn d t vx vy).run P w=.ok r w:=by
 intro f
 induction f with
 |zero=>intro d t ks b xs ys vx vy r h;simp[shapeOf]at h
 |succ f ih=>
  intro d t ks b xs ys vx vy r aH hd hb hx hy rx ry he
  obtain⟨d,rfl⟩:∃d',d=d'+1:=⟨d-1,by omega⟩
  have aB:=xN aH
  rw[shapeOf]at aH
  split at aH
  ·
   rename_i hu
   split at aH<;>cases aH
   have:b=false:=by simpa[cZ,hu]using hb.symm
   subst this
   simp only[gm,Bool.false_eq_true,if_false]at rx ry
   obtain⟨x,rfl,rx⟩:=rx
   obtain⟨y,rfl,ry⟩:=ry
   cases x<;>simp[cX]at hx
   cases y<;>simp[cX]at hy
   cases rx;cases ry
   rw[run_equalIn_bool' w d t _ _ hu]
   simp[eC,kg]at he
   rw[←he]
  ·rename_i k hu
   split at aH<;>cases aH
   have:b=false:=by simpa[cZ,hu]using hb.symm
   subst this
   simp only[gm,Bool.false_eq_true,if_false]at rx ry
   obtain⟨x,rfl,rx⟩:=rx
   obtain⟨y,rfl,ry⟩:=ry
   cases x<;>simp[cX]at hx
   cases y<;>simp[cX]at hy
   rename_i k1 n1 k2 n2
   cases rx;cases ry
   by_cases hk:k1=k2
   ·subst hk
    rw[run_equalIn_int w d t _ k _ _ hu]
    simp[eC,kg]at he
    rw[←he]
   ·simp[eC,kg,hk]at he
  ·rename_i hu
   split at aH<;>cases aH
   have:b=false:=by simpa[cZ,hu]using hb.symm
   subst this
   simp only[gm,Bool.false_eq_true,if_false]at rx ry
   obtain⟨x,rfl,rx⟩:=rx
   obtain⟨y,rfl,ry⟩:=ry
   cases x<;>simp[cX]at hx
   cases y<;>simp[cX]at hy
   cases rx with|str s1 _=>
   cases ry with|str s2 _=>
   rw[run_equalIn_string w d t _ _ hu]
   rw[ByteArray.toList_eq,ByteArray.toList_eq]
   simp only[eC,kg,Bool.and_true,Option.some.injEq]at he
   rw[←he]
  ·
   rename_i n e' hu
   split at aH
   ·rename_i lO fL
    split at aH
    ·rename_i s hs
     cases hc:Nat.beq s (n*lO.length)with
     |false=>rw[hc]at aH;cases aH
     |true=>
      rw[hc]at aH;cases aH
      have:b=true:=by simpa[cZ,hu]using hb.symm
      subst this
      simp only[gm,if_true]at rx ry
      obtain⟨cx,rfl,rx⟩:=rx
      obtain⟨cy,rfl,ry⟩:=ry
      obtain⟨zj,u6⟩:=xN fL
      obtain⟨b,di,h1⟩:∃b,cZ P e'=some b∧(b=false→lO.length=1):=by
       rcases u6 with⟨h1,h2⟩|h1
       ·exact⟨false,h1,fun _=>h2⟩
       ·exact⟨true,h1,by simp⟩
      obtain⟨i,hi,XT⟩:∃i,P.info? e'=some i∧P.cellsOf e'=lO.length:=by
       unfold ck at zj
       split at zj
       ·rename_i i hi;exact⟨i,hi,by simpa[Program.cellsOf,hi]using zj⟩
       ·cases zj
      rw[run_equalIn_array w d _ _ hu hi,XT,List.range_eq_range']
      exact HK d e' lO b di zj h1 (fun xs ys vx vy r=>ih d e' lO b xs ys vx vy r fL (by omega) di) rx ry n 0 r (by simpa using hx) (by simpa using hy) (by simpa using he)
    ·cases aH
   ·cases aH
  ·
   rename_i fs hu
   cases bB:P.stoodInHeld t with
   |true=>rw[bB]at aH;cases aH
   |false=>
    rw[bB]at aH
    simp only[cond_false]at aH
    split at aH
    ·rename_i lO fL
     split at aH
     ·rename_i s hs
      cases hc:Nat.beq s lO.length with
      |false=>rw[hc]at aH;cases aH
      |true=>
       rw[hc]at aH;cases aH
       have:b=true:=by simpa[cZ,hu]using hb.symm
       subst this
       simp only[gm,if_true]at rx ry
       obtain⟨cx,rfl,rx⟩:=rx
       obtain⟨cy,rfl,ry⟩:=ry
       have xo:P.fieldsOf t=fs:=by simp[Program.fieldsOf,hu]
       rw[run_equalIn_struct w d t _ _ (by rw[xo];exact hu) bB,xo]
       exact HC d (shapeOf P f) (fun t ks h=>xN h) (fun t ks b xs ys vx vy r h=>ih d t ks b xs ys vx vy r h (by omega)) rx ry fs.toList 0 _ r fL (Nat.zero_le _) (Nat.zero_le _) (by simpa using hx) (by simpa using hy) (by simpa using he)
     ·cases aH
    ·cases aH
  ·cases aH
end
end Go.Proofs.Ytaknajjmldngiaa.Ab
namespace Go.Proofs.Ytaknajjmldngiaa.Ab
open Go Go.RowKit
theorem mw(b o n:Nat):(⟨b,o,none⟩:Addr).add n=⟨b,o+n,none⟩:=by unfold Addr.add;split<;>simp_all
section
variable{P:Program}{gl:Nat→Option D}{w0:World}{an:S0}{e:Env}{a:Act}{w:World}{g:Gh}
theorem iu(w:World)(o:Obj)(b:Nat)(h:b<w.heap.size):(w.alloc o).heap[b]? =w.heap[b]? :=by
 show(w.heap.push o)[b]? =_
 rw[Array.getElem?_push,if_neg (Nat.ne_of_lt h)]
theorem sY(w:World)(o:Obj):(w.alloc o).heap[w.heap.size]? =some o:=by
 show(w.heap.push o)[w.heap.size]? =_
 simp
theorem xS(w:World)(o:Obj):(w.alloc o).heap.size =w.heap.size+1:=by
 show(w.heap.push o).size =_
 simp
theorem CF(w:World)(o:Obj)(b off:Nat)(h:b<w.heap.size):(w.alloc o).cell? ⟨b,off,none⟩=w.cell? ⟨b,off,none⟩:=
 World.cell?_of_block (iu w o b h)
theorem Inv.mJ(hI:Inv gl w0 an e a w g){b o:Nat}(h:g.St b o):b<w.heap.size:=(hI.bT b o h).2.2
theorem fe.lt{base:Nat}{p:Pos}{b a c:Nat}(h:fe base w g p b a c):b<w.heap.size:=by
 obtain⟨_,_,_,⟨cur,e,h,_⟩,_⟩:=h
 exact(Array.getElem?_eq_some_iff.1 h).1
theorem aV.K9(hI:Inv gl w0 an e a w g){o:Oper}{ob:Obj}{bx:af}{id:Nat}{sl:Slot}{vl:Value}{k:Slot→List af→Prop}
  (ej:e.boxes[id]? =some .none)
  (aU:(execOp a.eval o).run P w=.ok (.value vl) (w.alloc ob))
  (jL:∀(g':Gh)(O:Nat→Nat→Nat→Nat→Prop),g'.bx[id]? =some (some w.heap.size)→bM w0.heap.size (w.alloc ob) g' O sl vl)
  (rep:∀(g':Gh),Ext w0.heap.size w g (w.alloc ob) g' (fun _=>False)→w0.heap.size≤w.heap.size→mI w0.heap.size (w.alloc ob) g' id bx w.heap.size)
  (hk:k sl (e.boxes.set id bx)):aV P gl w0 an e.ai o a w k:=by
 intro next Q hn
 unfold Oper.wp
 rw[aU]
 have hle:w0.heap.size≤w.heap.size:=hI.below.size
 have E0:id<e.boxes.length:=(List.getElem?_eq_some_iff.1 ej).1
 have WD:∀aj,g.bx[id]? ≠some (some aj):=fun aj h=>by
  exact hI.boxes id .none aj ej h
 have dq:∀b,some b∈g.bx.set id (some w.heap.size)→some b∈g.bx∨b=w.heap.size:=fun b h=>by
  rcases List.mem_or_eq_of_mem_set h with h|h
  ·exact .inl h
  ·exact .inr (by simpa using h)
 have hX:Ext w0.heap.size w g (w.alloc ob) {g with bx:=g.bx.set id (some w.heap.size)} (fun _=>False):=by
  refine⟨fun D o hb ho h=>⟨(iu w _ D (fo h)).trans h,fun hm=>(by
   rcases dq D hm with h2|h2
   ·exact hb h2
   ·have:=fo h;omega),ho,fun _ h=>h⟩,fun b o h=>⟨h,.pS (iu w _ b (hI.mJ h))⟩,fun b o h=>CF w _ b o (by omega),fun i aj h=>?_,fun p b a c _ ho=>?_,.of fun b hb=>iu w _ b hb⟩
  ·simp only
   rw[List.getElem?_set_ne (fun hh=>WD aj (by rw[hh];exact h))]
   exact h
  ·have aS:=ho.lt
   obtain⟨h1,h2,h3,⟨cur,ty,h4,kz⟩,h5⟩:=ho
   refine⟨⟨h1,h2,?_,⟨cur,ty,(iu w _ b aS).trans h4,kz⟩,h5⟩,fun _=>iu w _ b aS⟩
   intro hm
   rcases dq b hm with h|h
   ·exact h3 h
   ·omega
 refine hn sl _ _ _ {g with bx:=g.bx.set id (some w.heap.size)} (hI.step (lost:=fun p=>∃d j,o.dst=some d∧p=.s d j)
  ⟨hX.df,hX.st,hX.bs,hX.bx,fun p b a c _ ho=>hX.own p b a c (fun h=>h) ho,hX.sh⟩ ((Below.refl _ _).alloc hle _) rfl
  (fun i x hx hd=>⟨x,hx,.inl ⟨rfl,fun j=>?_⟩⟩) ?_ (by simp[hI.er]) ?_ ?_ ?_ ?_) hk
 ·rintro⟨d,j',h1,h2⟩;cases h2;exact hd h1
 ·intro d _
  refine jL _ _ ?_
  simp only
  rw[List.getElem?_set_self (by rw[hI.er];exact E0)]
 ·intro b dB aj h1 h2
  simp only at h2
  by_cases hb:id=b
  ·subst hb
   rw[List.getElem?_set_self E0]at h1
   rw[List.getElem?_set_self (by rw[hI.er];exact E0)]at h2
   simp only[Option.some.injEq]at h1 h2
   subst h1 h2
   exact rep _ hX hle
  ·rw[List.getElem?_set_ne hb]at h1 h2
   have yK:=(hI.cU aj (List.mem_of_getElem? h2)).2
   exact hX.box (fun _ h=>h) (iu w _ aj yK) (hI.boxes b dB aj h1 h2)
 ·intro i j aj h1 h2
  simp only at h1 h2
  rw[List.getElem?_set]at h1 h2
  split at h1<;>split at h2
  ·omega
  ·rename_i hi hj
   split at h1
   ·simp only[Option.some.injEq]at h1
    subst h1
    have:=(hI.cU _ (List.mem_of_getElem? h2)).2
    omega
   ·cases h1
  ·rename_i hi hj
   split at h2
   ·simp only[Option.some.injEq]at h2
    subst h2
    have:=(hI.cU _ (List.mem_of_getElem? h1)).2
    omega
   ·cases h2
  ·exact hI.nodup i j aj h1 h2
 ·intro b hb
  have hs:(w.alloc ob).heap.size =w.heap.size+1:=xS w _
  rw[hs]
  rcases dq b hb with hb|rfl
  ·have:=hI.cU b hb;omega
  ·omega
 ·intro b o h
  have hs:(w.alloc ob).heap.size =w.heap.size+1:=xS w _
  have h1:=hI.bT b o h
  refine⟨h1.1,fun hm=>?_,by omega⟩
  rcases dq b hm with h|h
  ·exact h1.2.1 h
  ·omega
theorem aV.Be(hI:Inv gl w0 an e a w g){o:Oper}{cells:Array Value}{t:TypeId}{bx:af}{id:Nat}{k:Slot→List af→Prop}
  (ej:e.boxes[id]? =some .none)
  (aU:(execOp a.eval o).run P w=.ok (.value (.pointer (some ⟨w.heap.size,0,none⟩))) (w.alloc (.cells cells t)))
  (bz:∀y∈cells,y.oneCell'=true)
  (rep:∀(w':World)(g':Gh)(O:Nat→Nat→Nat→Nat→Prop),Ext w0.heap.size w g w' g' (fun _=>False)→(match(generalizing:=false) bx with
    | .none =>False
    | .map _=>False
    | .cells cs=>cs.length≤cells.size∧∀(j:Nat)x y,cs[j]? =some x→cells[j]? =some y→aG w' g'.St w0.heap.size (O j) x y
    | .one s=>0<cells.size∧∀y,cells[0]? =some y→bM w0.heap.size w' g' (fun _=>O 0) s y))
  (hk:k (.p id 0) (e.boxes.set id bx)):aV P gl w0 an e.ai o a w k:=by
 refine aV.K9 hI ej aU (fun g' O hb=>.p _ _ _ _ hb) (fun g' hX hle=>?_) hk
 have:=rep _ g' (nT w0.heap.size (w.alloc (.cells cells t)) g' id) hX
 cases bx with
 |none=>exact this.elim
 |map l=>exact this.elim
 |cells cs=>exact⟨hle,cells,t,sY w _,fun j y _ h=>bz y (Array.mem_of_getElem? h),this⟩
 |one s=>exact⟨hle,cells,t,sY w _,fun j y _ h=>bz y (Array.mem_of_getElem? h),this⟩
theorem Inv.Lc(hI:Inv gl w0 an e a w g){b aj:Nat}{dB:af}{w':World}{dst:Option Nat}{s:Slot}{v:Value}{ai:List Slot}
  (oR rv:Nat→Prop){g':Gh}(iY:g'.St=g.St)(qA:g'.bx=g.bx)
  (pe:∀p g8,(∀i j,p=.s i j→¬oR i)→(∀j,p=.b b j→¬rv j)→(∀d j,dst=some d→p≠.s d j)→g.ow g8=some p→g'.ow g8=some p)(F2:∀D,g.ow D=none→g'.ow D=none)
  (hb:g.bx[b]? =some (some aj))
  (de:∀k,k≠aj→w'.heap[k]? =w.heap[k]?)(aH:∀c ty,w.heap[aj]? =some (.cells c ty (0,0))→∃c' rU,w'.heap[aj]? =some (.cells c' rU (0,0))∧c'.size=c.size)(aB:w'.heap.size=w.heap.size)
  (zk:w'.os=w.os∧w'.tape=w.tape∧w'.output=w.output)
  (hlen:ai.length=e.ai.length)
  (hs:∀(i:Nat)x,ai[i]? =some x→dst≠some i→∃y,e.ai[i]? =some y∧((x=y∧¬oR i)∨x=y.aa))
  (rep:Ext w0.heap.size w g w' g' (fun p=>(∃i j,p=.s i j∧oR i)∨(∃j,p=.b b j∧rv j)∨(∃d j,dst=some d∧p=.s d j))→w0.heap.size≤aj→mI w0.heap.size w' g' b dB aj)
  (lJ:Ext w0.heap.size w g w' g' (fun p=>(∃i j,p=.s i j∧oR i)∨(∃j,p=.b b j∧rv j)∨(∃d j,dst=some d∧p=.s d j))→
    ∀d,dst=some d→bM w0.heap.size w' g' (fT w0.heap.size w' g' d) s v):
  Inv gl w0 an ⟨bF ai dst s,e.boxes.set b dB⟩ (a.put dst v) w' g':=by
 have tJ:some aj∈g.bx:=List.mem_of_getElem? hb
 have gp:=hI.cU aj tJ
 have hX:Ext w0.heap.size w g w' g' (fun p=>(∃i j,p=.s i j∧oR i)∨(∃j,p=.b b j∧rv j)∨(∃d j,dst=some d∧p=.s d j)):=by
  refine⟨fun D o qB ho h=>⟨(de D (fun e=>qB (by rw[e];exact tJ))).trans h,by rw[qA];exact qB,F2 D ho,fun x hx=>by rw[iY]at hx;exact hx⟩,fun b' o h=>⟨by rw[iY];exact h,.pS (de b' ?_)⟩,fun b' o h=>World.cell?_of_block (de b' (by omega)),fun i x h=>by rw[qA];exact h,?_,fun b' c ty di=>(by
   by_cases cD:b'=aj
   ·subst cD;exact aH c ty di
   ·exact⟨c,ty,(de b' cD).trans di,rfl⟩)⟩
  ·rintro rfl;exact(hI.bT b' o h).2.1 tJ
  ·rintro p b' a' c' hl ⟨h1,h2,h3,⟨cur,ty,h4,kz⟩,h5⟩
   exact⟨⟨pe p b' (fun i j h dM=>hl (.inl ⟨i,j,h,dM⟩)) (fun j h dM=>hl (.inr (.inl ⟨j,h,dM⟩))) (fun d j h1 h2=>hl (.inr (.inr ⟨d,j,h1,h2⟩))) h1,h2,by rw[qA];exact h3,
    ⟨cur,ty,(de b' (fun h=>h3 (h▸tJ))).trans h4,kz⟩,fun o ho=>by rw[iY];exact h5 o ho⟩,fun _=>de b' (fun h=>h3 (h▸tJ))⟩
 have mD:Below w0.heap.size w w':=⟨zk.1,zk.2.1,zk.2.2,by omega,fun k hk=>de k (by omega)⟩
 refine hI.step hX mD hlen (fun i x hx hd=>?_) (lJ hX) (by rw[qA];simp[hI.er]) ?_ (by rw[qA];exact hI.nodup) ?_ ?_
 ·obtain⟨y,hy,⟨rfl,hl⟩|h⟩:=hs i x hx hd
  ·refine⟨x,hy,.inl ⟨rfl,fun j=>?_⟩⟩
   rintro(⟨i',j',h,dM⟩|⟨j',h,_⟩|⟨d,j',h1,h2⟩)
   ·cases h;exact hl dM
   ·cases h
   ·cases h2;exact hd h1
  ·exact⟨y,hy,.inr h⟩
 ·intro b' bx g8 h1 h2
  rw[qA]at h2
  rw[List.getElem?_set]at h1
  by_cases cD:b=b'
  ·subst cD
   rw[hb]at h2;cases h2
   simp only[↓reduceIte]at h1
   split at h1
   ·cases h1
    exact rep hX gp.1
   ·cases h1
  ·simp only[cD,↓reduceIte]at h1
   have bm:g8≠aj:=by
    rintro rfl
    exact cD (hI.nodup _ _ _ hb h2)
   refine hX.box (fun j=>?_) (de g8 bm) (hI.boxes b' bx g8 h1 h2)
   rintro(⟨i',j',h,dM⟩|⟨j',h,_⟩|⟨d,j',h1,h2⟩)
   ·cases h
   ·cases h;exact cD rfl
   ·cases h2
 ·intro x hx;rw[qA]at hx;rw[aB];exact hI.cU x hx
 ·intro b' o h;rw[iY]at h;rw[qA,aB];exact hI.bT b' o h
theorem Inv.Eu(hI:Inv gl w0 an e a w g){b aj:Nat}{dB:af}{w':World}{cells:Array Value}{t:TypeId}{dst:Option Nat}{s:Slot}{v:Value}{ai:List Slot}
  (oR rv:Nat→Prop){g':Gh}(iY:g'.St=g.St)(qA:g'.bx=g.bx)
  (pe:∀p g8,(∀i j,p=.s i j→¬oR i)→(∀j,p=.b b j→¬rv j)→(∀d j,dst=some d→p≠.s d j)→g.ow g8=some p→g'.ow g8=some p)(F2:∀D,g.ow D=none→g'.ow D=none)
  (hb:g.bx[b]? =some (some aj))
  (bz:∀(j:Nat)y,j<dB.size→cells[j]? =some y→y.oneCell'=true)
  (b6:w'.heap[aj]? =some (.cells cells t (0,0)))(bw:∀c ty,w.heap[aj]? =some (.cells c ty (0,0))→cells.size=c.size)(de:∀k,k≠aj→w'.heap[k]? =w.heap[k]?)(aB:w'.heap.size=w.heap.size)
  (zk:w'.os=w.os∧w'.tape=w.tape∧w'.output=w.output)
  (hlen:ai.length=e.ai.length)
  (hs:∀(i:Nat)x,ai[i]? =some x→dst≠some i→∃y,e.ai[i]? =some y∧((x=y∧¬oR i)∨x=y.aa))
  (rep:Ext w0.heap.size w g w' g' (fun p=>(∃i j,p=.s i j∧oR i)∨(∃j,p=.b b j∧rv j)∨(∃d j,dst=some d∧p=.s d j))→(match(generalizing:=false) dB with
    | .none =>False
    | .map _=>False
    | .cells cs=>cs.length≤cells.size∧∀(j:Nat)x y,cs[j]? =some x→cells[j]? =some y→aG w' g'.St w0.heap.size (nT w0.heap.size w' g' b j) x y
    | .one s=>0<cells.size∧∀y,cells[0]? =some y→bM w0.heap.size w' g' (fun _=>nT w0.heap.size w' g' b 0) s y))
  (lJ:Ext w0.heap.size w g w' g' (fun p=>(∃i j,p=.s i j∧oR i)∨(∃j,p=.b b j∧rv j)∨(∃d j,dst=some d∧p=.s d j))→
    ∀d,dst=some d→bM w0.heap.size w' g' (fT w0.heap.size w' g' d) s v):
  Inv gl w0 an ⟨bF ai dst s,e.boxes.set b dB⟩ (a.put dst v) w' g':=by
 refine hI.Lc oR rv iY qA pe F2 hb de (fun c ty h=>⟨cells,t,b6,bw c ty h⟩) aB zk hlen hs (fun hX hle=>?_) lJ
 have:=rep hX
 cases dB with
 |none=>exact this.elim
 |map l=>exact this.elim
 |cells cs=>exact⟨hle,cells,t,b6,bz,this⟩
 |one s=>exact⟨hle,cells,t,b6,bz,this⟩
end
end Go.Proofs.Ytaknajjmldngiaa.Ab
namespace Go.Proofs.Ytaknajjmldngiaa.Ab
open Go Go.RowKit
section
variable{P:Program}{gl:Nat→Option D}{w0:World}{an:S0}{e:Env}{a:Act}{w:World}{g:Gh}
theorem aK.oJ{St:Nat→Nat→Prop}{k:IntKind}{n:Int}{v:Value}(h:aK w St (.int k n) v):v=.int k n∧fg k n=true:=by
 cases h with
 |int _ _ h=>exact⟨rfl,h⟩
theorem aK.qX{St:Nat→Nat→Prop}{l:List UInt8}{v:Value}(h:aK w St (.str l) v):∃s,v=.string s∧l=s.data.toList∧s.size≤maxLen:=by
 cases h with
 |str s h=>exact⟨s,rfl,rfl,h⟩
theorem aK.pT{St:Nat→Nat→Prop}{b:Bool}{v:Value}(h:aK w St (.bool b) v):v=.bool b:=by
 cases h with
 |bool _=>rfl
theorem aK.qY{St:Nat→Nat→Prop}{ds:List D}{v:Value}(h:aK w St (.agg ds) v):∃vs,v=.agg vs∧jF w St ds vs∧∀d∈ds,d.one=true:=by
 cases h with
 |agg _ vs hf hl hc=>exact⟨vs,rfl,⟨hl,hc⟩,hf⟩
theorem z7(op:BinOp)(t:TypeId)(x y:Operand)(u v:Value)(h:(match u,v with| .nilIface,.nilIface =>False| .agg _,.agg _=>False|_,_=>True)):
  (eqGuard op t x y u v).run P w=.ok () w:=by
 cases op<;>(try rfl)<;>(unfold eqGuard;simp only[Bool.not_true,Bool.false_eq_true,if_false];cases u<;>cases v<;>first|rfl|exact h.elim)
theorem Rp(hI:Inv gl w0 an e a w g){o:Oper}{op:BinOp}{t u:TypeId}{x y:Operand}(ho:o.op=.binOp op t x y u){k:Slot→List af→Prop}
  (h:ab (ah (wv P op t) op ((Ab.aJ gl e x).aa).aT ((Ab.aJ gl e y).aa).aT) fun r=>k (.v r) e.boxes):aV P gl w0 an e.ai o a w k:=by
 obtain⟨r,hr,hk⟩:=az h
 have hx:=hI.gk x
 have hy:=hI.gk y
 generalize ((Ab.aJ gl e x).aa).aT =sx at hr hx
 generalize ((Ab.aJ gl e y).aa).aT =sy at hr hy
 have key:∃v rd,r=.d rd∧(eqGuard op t x y (a.eval x) (a.eval y)).run P w=.ok () w∧(binOp op t (a.eval x) (a.eval y)).run P w=.ok v w∧aK w g.St rd v:=by
  cases sx<;>simp only[ah,reduceCtorEq]at hr
  rename_i dx
  cases sy<;>simp only[reduceCtorEq]at hr
  rename_i dy
  replace hx:=hx.data
  replace hy:=hy.data
  split at hr
  ·rename_i rd dN
   cases hr
   cases dx<;>cases dy<;>simp only[eE,reduceCtorEq]at dN
   ·
    rename_i b1 b2
    split at dN
    ·rename_i aH
     rw[hx.pT,hy.pT]
     have hg:=z7 (P:=P) (w:=w) op t x y (.bool b1) (.bool b2) trivial
     have:∃f,shapeOf P f t=some [.bool]∧f≤10000∧cZ P t=some false:=by
      unfold wv at aH
      split at aH
      ·cases hq:P.eqGuardType P.depth t<;>rw[hq]at aH<;>simp only[cond_true,cond_false,reduceCtorEq]at aH
       split at aH
       ·split at aH
        ·simp only[Option.some.injEq,Prod.mk.injEq]at aH
         obtain⟨rfl,rfl⟩:=aH
         exact⟨20,by assumption,by decide,by assumption⟩
        ·cases aH
       ·split at aH<;>cases aH
      ·cases hq:P.eqGuardType P.depth t<;>rw[hq]at aH<;>simp only[cond_true,cond_false,reduceCtorEq]at aH
       split at aH
       ·split at aH
        ·simp only[Option.some.injEq,Prod.mk.injEq]at aH
         obtain⟨rfl,rfl⟩:=aH
         exact⟨20,by assumption,by decide,by assumption⟩
        ·cases aH
       ·split at aH<;>cases aH
      ·cases aH
     obtain⟨f,h1,h2,h3⟩:=this
     have hq:=CL (w:=w) (g:=g) f 10000 t _ false [.bool b1] [.bool b2] (.bool b1) (.bool b2) (b1==b2) h1 h2 h3 rfl rfl
      (by simp only[gm,Bool.false_eq_true,if_false];exact⟨_,rfl,.bool _⟩) (by simp only[gm,Bool.false_eq_true,if_false];exact⟨_,rfl,.bool _⟩) (by simp[eC,kg])
     split at dN
     ·cases dN;exact⟨_,_,rfl,hg,by simp[binOp,Op.equal,Op.maxDepth,hq],.bool _⟩
     ·cases dN;exact⟨_,_,rfl,hg,by simp[binOp,Op.equal,Op.maxDepth,hq],.bool _⟩
     ·cases dN
    ·cases dN
   ·
    rename_i k1 n1 k2 n2
    obtain⟨ex,wx⟩:=hx.oJ
    obtain⟨ey,wy⟩:=hy.oJ
    rw[ex,ey]
    have hg:=z7 (P:=P) (w:=w) op t x y (.int k1 n1) (.int k2 n2) trivial
    split at dN
    ·obtain⟨v,hv,fX⟩:=H9 (P:=P) (w:=w) (g:=g) (k':=k2) t (.inl rfl) wx dN
     exact⟨v,rd,rfl,hg,hv,fX⟩
    ·obtain⟨v,hv,fX⟩:=H9 (P:=P) (w:=w) (g:=g) (k':=k2) t (.inr rfl) wx dN
     exact⟨v,rd,rfl,hg,hv,fX⟩
    ·rename_i h1 h2
     split at dN
     ·rename_i F3
      subst F3
      obtain⟨v,hv,fX⟩:=PE (P:=P) (w:=w) (g:=g) t ⟨h1,h2⟩ wx wy dN
      exact⟨v,rd,rfl,hg,hv,fX⟩
     ·cases dN
   ·
    obtain⟨s1,e1,f1,_⟩:=hx.qX
    obtain⟨s2,e2,f2,_⟩:=hy.qX
    rw[e1,e2]
    rw[f1,f2]at dN
    obtain⟨v,hv,fX⟩:=PF (P:=P) (w:=w) (g:=g) t dN
    exact⟨v,rd,rfl,z7 op t x y _ _ trivial,hv,fX⟩
   ·
    rename_i l1 l2
    split at dN
    ·rename_i ks aH
     obtain⟨v1,e1,r1,_⟩:=hx.qY
     obtain⟨v2,e2,r2,_⟩:=hy.qY
     rw[e1,e2]
     cases ju:(cX ks l1&&cX ks l2)with
     |false=>rw[ju]at dN;cases dN
     |true=>
      rw[ju]at dN
      simp only[Bool.and_eq_true]at ju
      simp only[cond_true]at dN
      have:shapeOf P 20 t=some ks∧cZ P t=some true∧P.eqGuardType P.depth t=false:=by
       unfold wv at aH
       split at aH
       ·cases hq:P.eqGuardType P.depth t<;>rw[hq]at aH<;>simp only[cond_true,cond_false,reduceCtorEq]at aH
        split at aH
        ·split at aH
         ·simp only[Option.some.injEq,Prod.mk.injEq]at aH
          obtain⟨rfl,rfl⟩:=aH
          exact⟨by assumption,by assumption,rfl⟩
         ·cases aH
        ·split at aH<;>cases aH
       ·cases hq:P.eqGuardType P.depth t<;>rw[hq]at aH<;>simp only[cond_true,cond_false,reduceCtorEq]at aH
        split at aH
        ·split at aH
         ·simp only[Option.some.injEq,Prod.mk.injEq]at aH
          obtain⟨rfl,rfl⟩:=aH
          exact⟨by assumption,by assumption,rfl⟩
         ·cases aH
        ·split at aH<;>cases aH
       ·cases aH
      obtain⟨h1,h3,h4⟩:=this
      have hg:=run_eqGuard_agg (P:=P) w op t x y v1 v2 h4
      have hq:∀c,eC l1 l2=some c→(Op.equalIn 10000 t (.agg v1) (.agg v2)).run P w=.ok c w:=fun c hc=>
       CL (w:=w) (g:=g) 20 10000 t _ true l1 l2 (.agg v1) (.agg v2) c h1 (by decide) h3 ju.1 ju.2
        (by simp only[gm,if_true];exact⟨_,rfl,r1⟩) (by simp only[gm,if_true];exact⟨_,rfl,r2⟩) hc
      split at dN
      ·split at dN
       ·rename_i c hc;cases dN;exact⟨_,_,rfl,hg,by simp[run_eql_struct,hq c hc],.bool _⟩
       ·cases dN
      ·split at dN
       ·rename_i c hc;cases dN;exact⟨_,_,rfl,hg,by simp[run_neq_struct,hq c hc],.bool _⟩
       ·cases dN
      ·cases dN
    ·cases dN
   ·
    rename_i a1 s1 l1 b1 s2 l2
    cases b1<;>simp only[reduceCtorEq]at dN
    split at dN
    ·rename_i aH
     have hu:∃e',P.underlying t=some (.slice e'):=by
      unfold wv at aH
      have bad:∀{ks:List CK}{b:Bool},shapeOf P 20 t=some ks→cZ P t=some b→(b,ks)=(false,[])→False:=fun{ks b}h1 h2 h3=>by
       cases h3
       rcases(xN h1).2 with h4|h4
       ·simp at h4
       ·rw[h2]at h4;cases h4
      split at aH
      ·cases hq:P.eqGuardType P.depth t<;>rw[hq]at aH<;>simp only[cond_true,cond_false,reduceCtorEq]at aH
       split at aH
       ·split at aH
        ·exact(bad (by assumption) (by assumption) (Option.some.inj aH)).elim
        ·cases aH
       ·split at aH
        ·exact⟨_,by assumption⟩
        ·cases aH
      ·cases hq:P.eqGuardType P.depth t<;>rw[hq]at aH<;>simp only[cond_true,cond_false,reduceCtorEq]at aH
       split at aH
       ·split at aH
        ·exact(bad (by assumption) (by assumption) (Option.some.inj aH)).elim
        ·cases aH
       ·split at aH
        ·exact⟨_,by assumption⟩
        ·cases aH
      ·cases aH
     obtain⟨e',hu⟩:=hu
     have oa:a.eval y=.slice none 0 0:=by
      generalize a.eval y=vy at hy
      cases hy;rfl
     have zl:∃p n c,a.eval x=.slice p n c∧p.isNone=decide (a1=SK.nil):=by
      generalize a.eval x=vx at hx
      cases hx with
      |iT=>exact⟨_,_,_,rfl,rfl⟩
      |sl=>exact⟨_,_,_,rfl,rfl⟩
      |iU=>exact⟨_,_,_,rfl,rfl⟩
     obtain⟨p,n,c,zl,hp⟩:=zl
     rw[zl,oa]
     have hq:(Op.equalIn 10000 t (.slice p n c) (.slice none 0 0)).run P w=.ok (decide (a1=SK.nil)) w:=by
      rw[←hp,show(10000:Nat)=9999+1 from rfl,Op.equalIn]
      cases p<;>simp[run_underlying hu]
     have hg:=z7 (P:=P) (w:=w) op t x y (.slice p n c) (.slice none 0 0) trivial
     split at dN
     ·cases dN;exact⟨_,_,rfl,hg,by simp[binOp,Op.equal,Op.maxDepth,hq],.bool _⟩
     ·cases dN;exact⟨_,_,rfl,hg,by simp[binOp,Op.equal,Op.maxDepth,hq],.bool _⟩
     ·cases dN
    ·cases dN
  ·cases hr
 obtain⟨v,rd,rfl,hg,hv,fX⟩:=key
 refine aV.ea hI (s:=.d rd) (v:=v) ?_ (.d _ _ _ fX) hk
 simp[execOp,ho,hg,hv]
theorem SE(hI:Inv gl w0 an e a w g){o:Oper}{op:UnOp}{t:TypeId}{x:Operand}(ho:o.op=.unOp op t x){k:Slot→List af→Prop}
  (h:ab (cw op ((Ab.aJ gl e x).aa).aT) fun r=>k (.v r) e.boxes):aV P gl w0 an e.ai o a w k:=by
 obtain⟨r,hr,hk⟩:=az h
 have hx:=hI.gk x
 generalize ((Ab.aJ gl e x).aa).aT =sx at hr hx
 unfold cw at hr
 split at hr
 ·rename_i b
  have hx:=hx.data.pT
  split at hr
  ·cases hr;exact aV.ea hI (v:=.bool (!b)) (by simp[execOp,ho,hx,Op.unary]) (.d _ _ _ (.bool _)) hk
  ·cases hr
 ·rename_i kk n
  obtain⟨hx,wx⟩:=hx.data.oJ
  split at hr
  ·cases hr;exact aV.ea hI (by simp only[execOp,ho,hx,Op.unary,Op.intArith];simp) (.d _ _ _ (.int _ _ (uq _ _))) hk
  ·cases hr;exact aV.ea hI (by simp only[execOp,ho,hx,Op.unary,Op.intBits];simp) (.d _ _ _ (.int _ _ (uq _ _))) hk
  ·cases hr
 ·cases hr
theorem Qs(hI:Inv gl w0 an e a w g){o:Oper}{src dst:TypeId}{x:Operand}(ho:o.op=.convert src dst x)(hs:(P.underlying src).isSome =true){k:Slot→List af→Prop}
  (h:ab (Bv P dst ((Ab.aJ gl e x).aa).aT) fun r=>k (.v r) e.boxes):aV P gl w0 an e.ai o a w k:=by
 obtain⟨r,hr,hk⟩:=az h
 have hx:=hI.gk x
 generalize ((Ab.aJ gl e x).aa).aT =sx at hr hx
 obtain⟨us,ML⟩:=Option.isSome_iff_exists.1 hs
 unfold Bv at hr
 split at hr
 ·rename_i kk n
  obtain⟨hx,wx⟩:=hx.data.oJ
  split at hr
  ·rename_i kd hd
   cases hr
   refine aV.ea hI (v:=.int kd (kd.wrap n)) ?_ (.d _ _ _ (.int _ _ (uq _ _))) hk
   cases us<;>simp[execOp,ho,hx,convert,run_underlying ML,run_underlying hd,Conv.intToInt]
  ·cases hr
 ·rename_i l
  obtain⟨s1,e1,f1,h1⟩:=hx.data.qX
  split at hr
  ·rename_i hd
   cases hr
   refine aV.ea hI (v:=.string s1) ?_ (.d _ _ _ (by rw[f1];exact .str _ h1)) hk
   cases us<;>simp[execOp,ho,e1,convert,run_underlying ML,run_underlying hd]
  ·cases hr
 ·cases hr
end
end Go.Proofs.Ytaknajjmldngiaa.Ab
namespace Go.Proofs.Ytaknajjmldngiaa.Ab
open Go Go.RowKit
section
variable{P:Program}{gl:Nat→Option D}{w0:World}{an:S0}{e:Env}{a:Act}{w:World}{g:Gh}
theorem Inv.kX(hI:Inv gl w0 an e a w g){x:Operand}{s:Slot}(h:(Ab.aJ gl e x).aa =s):bM w0.heap.size w g (fun _ _ _ _=>False) s (a.eval x):=h▸hI.aJ x
theorem bM.jG{base:Nat}{O:Nat→Nat→Nat→Nat→Prop}{x:SV}{v:Value}(h:bM base w g O (.v x) v):aG w g.St base (O 0) x v:=by
 cases h with
 |v _ _ _ h=>exact h
theorem bM.jq{base:Nat}{O:Nat→Nat→Nat→Nat→Prop}{b off:Nat}{v:Value}(h:bM base w g O (.p b off) v):∃aj,v=.pointer (some ⟨aj,off,none⟩)∧g.bx[b]? =some (some aj):=by
 cases h with
 |p _ _ _ aj h=>exact⟨aj,rfl,h⟩
theorem bM.EI{base:Nat}{O:Nat→Nat→Nat→Nat→Prop}{xs:List SV}{v:Value}(h:bM base w g O (.t xs) v):
  ∃vs,v=.tuple vs∧xs.length=vs.size∧∀(j:Nat)x v,xs[j]? =some x→vs[j]? =some v→aG w g.St base (O j) x v:=by
 cases h with
 |t _ _ vs hl hc=>exact⟨vs,rfl,hl,hc⟩
theorem aG.pX{St:Nat→Nat→Prop}{base:Nat}{O:Nat→Nat→Nat→Prop}{x:SV}{v:Value}(h:aG w St base O x v)(hx:(match x with| .d y=>y.one=true| .undef =>False|_=>True)):
  v.oneCell'=true:=by
 cases h<;>first|rfl|(exact aK.pX (by assumption) hx)|exact hx.elim
theorem aG.cells{St:Nat→Nat→Prop}{base:Nat}{O:Nat→Nat→Nat→Prop}{x:SV}{v:Value}(h:aG w St base O x v){l:List SV}(hl:aA x=some l):
  l.length=v.cells.size∧(∀y∈v.cells,y.oneCell'=true)∧∀(i:Nat)c y,l[i]? =some c→v.cells[i]? =some y→aG w St base O c y:=by
 have one:∀(c:SV)(u:Value),aG w St base O c u→u.oneCell'=true→u.cells= #[u]→[c].length =u.cells.size∧(∀y∈u.cells,y.oneCell'=true)∧∀(i:Nat)c' y,[c][i]? =some c'→u.cells[i]? =some y→aG w St base O c' y:=by
  intro c u hr h1 hu
  rw[hu]
  refine⟨rfl,by simpa using h1,fun i c' y hc hy=>?_⟩
  cases i with
  |zero=>simp at hc hy;subst hc hy;exact hr
  |succ i=>simp at hc
 cases h with
 |d _ y _ hd=>
  simp only[aA,Option.some.injEq]at hl
  subst hl
  by_cases hy:y.one=true
  ·have hc:y.cells=[y]:=by cases y<;>first|rfl|simp[D.one]at hy
   have h1:=hd.pX hy
   have hv:v.cells= #[v]:=by cases v<;>first|rfl|simp[Value.oneCell']at h1
   rw[hc]
   exact one (.d y) v (.d _ _ _ hd) h1 hv
  ·cases y<;>simp only[D.one,not_true_eq_false]at hy
   rename_i ds
   obtain⟨vs,rfl,⟨hs,hc⟩,hf⟩:=hd.qY
   refine⟨by simpa[D.cells,Value.cells]using hs,fun y hy=>?_,fun i c y ib hy=>?_⟩
   ·obtain⟨i,hi,rfl⟩:=Array.mem_iff_getElem.1 hy
    have dp:i<ds.length:=by rw[hs];exact hi
    exact(hc i ds[i] _ (List.getElem?_eq_getElem dp) (Array.getElem?_eq_getElem hi)).pX (hf _ (List.getElem_mem dp))
   ·simp only[D.cells,List.getElem?_map,Option.map_eq_some_iff]at ib
    obtain⟨d,ic,rfl⟩:=ib
    exact .d _ _ _ (hc i d y ic hy)
 |own _ sz L gg cap hd bq ho=>simp only[aA,Option.some.injEq]at hl;subst hl;exact one _ _ (.own _ sz L gg cap hd bq ho) rfl rfl
 |full _ sz L ad hd=>simp only[aA,Option.some.injEq]at hl;subst hl;exact one _ _ (.full _ sz L ad hd) rfl rfl
 |ref _ cs off b o vs hb h1 h2=>simp only[aA,Option.some.injEq]at hl;subst hl;exact one _ _ (.ref _ cs off b o vs hb h1 h2) rfl rfl
 |ev _ n sz cs b cap vs hb hn hm h1 h2=>simp only[aA,Option.some.injEq]at hl;subst hl;exact one _ _ (.ev _ n sz cs b cap vs hb hn hm h1 h2) rfl rfl
 |aE _ y off b o vs h0 h1 h2=>simp only[aA,Option.some.injEq]at hl;subst hl;exact one _ _ (.aE _ y off b o vs h0 h1 h2) rfl rfl
 |dg _ f first cap fv cv h1 h2 h3 h4=>simp only[aA,Option.some.injEq]at hl;subst hl;exact one _ _ (.dg _ f first cap fv cv h1 h2 h3 h4) rfl rfl
 |bj _ sz L gg cap vs h1 h2 h3 h4 h5 h6 h7=>simp only[aA,Option.some.injEq]at hl;subst hl;exact one _ _ (.bj _ sz L gg cap vs h1 h2 h3 h4 h5 h6 h7) rfl rfl
 |mp _ m r es clock h1 h2 h3 h4=>simp only[aA,Option.some.injEq]at hl;subst hl;exact one _ _ (.mp _ m r es clock h1 h2 h3 h4) rfl rfl
 |undef _ _=>simp[aA]at hl
theorem CM{t:TypeId}{z:List D}(h:jB P t=some z):∃zv:Value,(∀w:World,(zeroValue t).run P w=.ok zv w)∧z.length=zv.cells.size∧(∀d∈z,d.one=true)∧
  ∀(w:World)(St:Nat→Nat→Prop)(i:Nat)x v,z[i]? =some x→zv.cells[i]? =some v→aK w St x v:=by
 unfold jB at h
 split at h
 ·rename_i i hi
  split at h
  ·rename_i zv hz
   refine⟨zv,fun w=>by simp[zeroValue,typeInfo,hi,hz],?_,CT h,fun w St j x v hx hv=>?_⟩
   ·have:=(xP (w:=default) (St:=fun _ _=>False) h).1
    simpa using this
   ·exact(xP (w:=w) (St:=St) h).2 j x v hx (by simpa using hv)
  ·cases h
 ·cases h
theorem PG(hI:Inv gl w0 an e a w g){o:Oper}{t:TypeId}(ho:o.op=.alloc t){id:Nat}{k:Slot→List af→Prop}
  (ej:e.boxes[id]? =some .none)
  (h:ab (Ay P t) fun z=>k (.p id 0) (e.boxes.set id (.cells z))):aV P gl w0 an e.ai o a w k:=by
 obtain⟨zs,fA,hk⟩:=az h
 unfold Ay at fA
 split at fA
 rotate_left
 ·split at fA
  ·rename_i i hi
   split at fA
   ·rename_i zv u7
    cases eF:zv.cells.toList.all Value.oneCell' with
    |false=>rw[eF]at fA;cases fA
    |true=>
     rw[eF]at fA
     cases fA
     refine aV.Be hI ej (cells:=zv.cells) (t:=t) (bx:=.cells _) ?_ ?_ ?_ hk
     ·have aU:(zeroValue t).run P w=.ok zv w:=by simp[zeroValue,typeInfo,hi,u7]
      simp[execOp,ho,Instr.alloc,aU,newVar,newRow]
     ·intro y hy
      exact List.all_eq_true.1 eF y (by simpa using hy)
     ·intro w' g' O hX
      refine⟨by simp,fun j x y hx hy=>?_⟩
      rw[(List.mem_replicate.1 (List.mem_of_getElem? hx)).2]
      exact .undef _ _
   ·cases fA
  ·cases fA
 rename_i z hz
 cases fA
 obtain⟨zv,aU,hlen,bz,aQ⟩:=CM hz
 refine aV.Be hI ej (cells:=zv.cells) (t:=t) (bx:=.cells (z.map .d)) ?_ ?_ ?_ hk
 ·simp[execOp,ho,Instr.alloc,aU,newVar,newRow]
 ·intro y hy
  obtain⟨i,hi,rfl⟩:=Array.mem_iff_getElem.1 hy
  have dp:i<z.length:=by rw[hlen];exact hi
  exact(aQ w (fun _ _=>False) i z[i] _ (List.getElem?_eq_getElem dp) (Array.getElem?_eq_getElem hi)).pX (bz _ (List.getElem_mem dp))
 ·intro w' g' O hX
  refine⟨by simpa using Nat.le_of_eq hlen,fun j x y hx hy=>?_⟩
  simp only[List.getElem?_map,Option.map_eq_some_iff]at hx
  obtain⟨d,hd,rfl⟩:=hx
  exact .d _ _ _ (aQ _ _ j d y hd hy)
theorem Rq(hI:Inv gl w0 an e a w g){o:Oper}{t:TypeId}{x:Operand}(ho:o.op=.box t x){id:Nat}{k:Slot→List af→Prop}
  (ej:e.boxes[id]? =some .none)
  (h:ab (ck P t) fun sz=>(match(Ab.aJ gl e x).aa with
  | .v y=>ab (aA y) fun l=>l.length=sz∧k (.p id 0) (e.boxes.set id (.cells l))
  | .t _=>False
  |s=>(match sz with|1=>k (.p id 0) (e.boxes.set id (.one s))|_=>False))):aV P gl w0 an e.ai o a w k:=by
 obtain⟨sz,aB,h⟩:=az h
 have hx:=hI.aJ x
 have aU:(execOp a.eval o).run P w=.ok (.value (.pointer (some ⟨w.heap.size,0,none⟩))) (w.alloc (.cells (a.eval x).cells t)):=by
  simp[execOp,ho,Instr.box,newVar,newRow]
 have na:∀s,(Ab.aJ gl e x).aa =s→(∀y,s≠.v y)→(∀y,s≠.t y)→k (.p id 0) (e.boxes.set id (.one s))→aV P gl w0 an e.ai o a w k:=by
  intro s hs h1 h2 hk
  rw[hs]at hx
  have hc:(a.eval x).cells = #[a.eval x]:=by
   clear aU
   generalize a.eval x=u at hx
   cases hx with
   |v _ y _ _=>exact absurd rfl (h1 y)
   |p=>rfl
   |a _ b n sz v hm h=>obtain⟨_,_,_,_,rfl,_⟩:=h;rfl
   |m=>rfl
   |c=>rfl
   |t _ y _ _ _=>exact absurd rfl (h2 y)
  have XU:(a.eval x).oneCell' =true:=by
   clear aU hc
   generalize a.eval x=u at hx
   cases hx with
   |v _ y _ _=>exact absurd rfl (h1 y)
   |p=>rfl
   |a _ b n sz v hm h=>obtain⟨_,_,_,_,rfl,_⟩:=h;rfl
   |m=>rfl
   |c=>rfl
   |t _ y _ _ _=>exact absurd rfl (h2 y)
  refine aV.Be hI ej (bx:=.one s) aU (by rw[hc];simpa using XU) (fun w' g' O hX=>?_) hk
  refine⟨by rw[hc];exact Nat.one_pos,fun y hy=>?_⟩
  rw[hc]at hy
  simp at hy
  subst hy
  exact hx.mono hX.st hX.bs hX.bx hX.sh fun _ _ _ _ h=>h.elim
 split at h
 ·rename_i y hy
  obtain⟨l,hl,hlen,hk⟩:=az h
  rw[hy]at hx
  obtain⟨h1,h2,h3⟩:=hx.jG.cells hl
  refine aV.Be hI ej (bx:=.cells l) aU h2 (fun w' g' O hX=>⟨Nat.le_of_eq h1,fun j c u hc hu=>?_⟩) hk
  exact(h3 j c u hc hu).mono hX.st hX.bs _ (fun _ _ _ h=>h.elim)
 ·exact h.elim
 ·rename_i h1 h2
  split at h
  ·exact na _ rfl (fun y hy=>h1 y hy) (fun y hy=>h2 y hy) h
  ·exact h.elim
theorem sQ{t:TypeId}{b:Bool}{n:Nat}(hl:fH P t=some (b,n))(aj off:Nat)(vs:Nat→Value)
  (h:∀j,j<(if b then n else 1)→w.cell? ⟨aj,off+j,none⟩=some (vs j)):
  (loadVar t ⟨aj,off,none⟩).run P w=.ok (if b then .agg ((List.range n).map vs).toArray else vs 0) w:=by
 obtain⟨hb,hn,_⟩:=AQ hl
 unfold loadVar
 simp only[Sem.run_bind,Jb hb,Result.andThen_ok]
 cases b
 ·have:=h 0 (by simp)
  simp only[Nat.add_zero]at this
  simp[this]
 ·have:=run_loadCells (P:=P) w ⟨aj,off,none⟩ n vs (fun j hj=>by rw[mw];exact h j (by simpa using hj))
  simp[jh hn,this]
theorem Ds:∀{l:List SV}{r:List D},dT l=some r→r.length=l.length∧∀(i:Nat)x y,l[i]? =some x→r[i]? =some y→cg x=some y
 |[],r,h=>by cases h;simp
 |v::l,r,h=>by
  simp only[dT]at h
  split at h
  ·rename_i x hx
   split at h
   ·rename_i r' hr
    cases h
    obtain⟨h1,h2⟩:=Ds hr
    refine⟨by simp[h1],fun i y z hy hz=>?_⟩
    cases i with
    |zero=>simp at hy hz;subst hy hz;exact hx
    |succ i=>simp at hy hz;exact h2 i y z hy hz
   ·cases h
  ·cases h
theorem SF{x:SV}{y:D}(h:cg x=some y)(hx:match x with| .d z=>z.one=true|_=>True):y.one=true:=by
 cases x<;>simp only[cg,Option.some.injEq,reduceCtorEq]at h<;>subst h<;>first|exact hx|rfl
theorem C6{t:TypeId}{b:Bool}{n off:Nat}{cs:List SV}{x:SV}{St:Nat→Nat→Prop}{base:Nat}{O:Nat→Nat→Nat→Nat→Prop}(hl:fH P t=some (b,n))(h:ag b n off cs=some x)(aj o:Nat)
  (vs:Nat→Value)(aN:∀i,i<cs.length→w.cell? ⟨aj,o+i,none⟩=some (vs i))(aQ:∀(i:Nat)c,cs[i]? =some c→aG w St base (O i) c (vs i))
  (bz:∀i,i<cs.length→(vs i).oneCell' =true):
  ∃v,(loadVar t ⟨aj,o+off,none⟩).run P w=.ok v w∧aG w St base (O off) x v:=by
 unfold ag at h
 cases b
 ·simp only[cond_false]at h
  have aS:=(List.getElem?_eq_some_iff.1 h).1
  refine⟨vs off,?_,aQ off x h⟩
  rw[sQ hl aj (o+off) (fun j=>vs (off+j)) (fun j hj=>by simp at hj;subst hj;simpa using aN off aS)]
  simp
 ·simp only[cond_true]at h
  split at h
  ·rename_i hle
   split at h
   ·rename_i l iZ
    cases h
    obtain⟨hlen,kA⟩:=Ds iZ
    refine⟨.agg ((List.range n).map fun j=>vs (off+j)).toArray,?_,.d _ _ _ (.agg _ _ ?_ ?_ ?_)⟩
    ·rw[sQ hl aj (o+off) (fun j=>vs (off+j)) (fun j hj=>by
      simp at hj;rw[Nat.add_assoc];exact aN (off+j) (by omega))]
     simp
    ·intro d hd
     obtain⟨i,hi,rfl⟩:=List.mem_iff_getElem.1 hd
     have dp:i<((cs.drop off).take n).length :=by rw[←hlen];exact hi
     have hs:=kA i _ _ (List.getElem?_eq_getElem dp) (List.getElem?_eq_getElem hi)
     have xp:off+i<cs.length:=by simp at dp;omega
     have hc:((cs.drop off).take n)[i]=cs[off+i]:=by simp
     have hr:=aQ (off+i) _ (List.getElem?_eq_getElem xp)
     have h1:=bz (off+i) xp
     rw[hc]at hs
     refine SF hs ?_
     revert hs hr
     cases cs[off+i]<;>intro hs hr<;>try trivial
     rename_i z
     cases z<;>first|rfl|(obtain⟨_,hv,_⟩:=hr.data.qY;rw[hv]at h1;simp[Value.oneCell']at h1)
    ·simp[hlen];omega
    ·intro i d v hd hv
     have hi:i<l.length:=(List.getElem?_eq_some_iff.1 hd).1
     have dp:i<((cs.drop off).take n).length :=by rw[←hlen];exact hi
     have xp:off+i<cs.length:=by simp at dp;omega
     have pf:i<n:=by simp at dp;omega
     have hc:((cs.drop off).take n)[i]? =some cs[off+i]:=by
      rw[List.getElem?_eq_getElem dp];simp
     have hs:=kA i _ _ hc hd
     have hr:=aQ (off+i) _ (List.getElem?_eq_getElem xp)
     simp[pf]at hv
     subst hv
     exact hr.cg hs
   ·cases h
  ·cases h
end
end Go.Proofs.Ytaknajjmldngiaa.Ab
namespace Go.Proofs.Ytaknajjmldngiaa.Ab
open Go Go.RowKit
section
variable{P:Program}{gl:Nat→Option D}{w0:World}{an:S0}{e:Env}{a:Act}{w:World}{g:Gh}
theorem aK.Oz{St:Nat→Nat→Prop}{d:D}{v:Value}(r:aK w St d v)(h:v.oneCell'=true):d.one=true:=by
 cases d with
 |agg ds=>obtain⟨_,hv,_⟩:=r.qY;rw[hv]at h;simp[Value.oneCell']at h
 |_=>rfl
theorem PH{t:TypeId}{b:Bool}{n off:Nat}{cs:List D}{x:D}{St:Nat→Nat→Prop}(hl:fH P t=some (b,n))(h:oO b n off cs=some x)(aj o:Nat)
  (hf:∀c∈cs,c.one=true)
  (vs:Nat→Value)(aN:∀i,i<cs.length→w.cell? ⟨aj,o+i,none⟩=some (vs i))(aQ:∀(i:Nat)c,cs[i]? =some c→aK w St c (vs i)):
  ∃v,(loadVar t ⟨aj,o+off,none⟩).run P w=.ok v w∧aK w St x v:=by
 unfold oO at h
 cases b
 ·simp only[cond_false]at h
  have aS:=(List.getElem?_eq_some_iff.1 h).1
  refine⟨vs off,?_,aQ off x h⟩
  rw[sQ hl aj (o+off) (fun j=>vs (off+j)) (fun j hj=>by simp at hj;subst hj;simpa using aN off aS)]
  simp
 ·simp only[cond_true]at h
  split at h
  ·rename_i hle
   cases h
   refine⟨.agg ((List.range n).map fun j=>vs (off+j)).toArray,?_,.agg _ _ ?_ ?_ ?_⟩
   ·rw[sQ hl aj (o+off) (fun j=>vs (off+j)) (fun j hj=>by
     simp at hj;rw[Nat.add_assoc];exact aN (off+j) (by omega))]
    simp
   ·intro d hd
    exact hf d (List.mem_of_mem_drop (List.mem_of_mem_take hd))
   ·simp;omega
   ·intro i d v hd hv
    rw[List.getElem?_take]at hd
    split at hd
    ·rename_i hi
     rw[List.getElem?_drop]at hd
     simp[hi]at hv
     subst hv
     exact aQ _ _ hd
    ·cases hd
  ·cases h
theorem PI(hI:Inv gl w0 an e a w g){o:Oper}{t:TypeId}{x:Operand}(ho:o.op=.load t x){k:Slot→List af→Prop}{b:Bool}{n:Nat}(hl:fH P t=some (b,n))
  {s:SV}(hs:(Ab.aJ gl e x).aa =.v s)(h:ab (aF b n s) fun y=>k (.v y) e.boxes):aV P gl w0 an e.ai o a w k:=by
 obtain⟨y,hy,hk⟩:=az h
 have hx:=hI.n8 hs
 have aU:∀{ad v},a.eval x=.pointer (some ad)→(loadVar t ad).run P w=.ok v w→(execOp a.eval o).run P w=.ok (.value v) w:=by
  intro ad v h1 h2
  simp[execOp,ho,Instr.loadAt,Instr.sureAddr,h1,h2]
 unfold aF at hy
 split at hy
 ·rename_i z off
  split at hy
  ·rename_i r hr
   cases hy
   generalize hv:a.eval x=u at hx
   cases hx with
   |aE _ _ _ aj o' vs hf aN aQ=>
    obtain⟨v,h1,h2⟩:=PH (St:=g.St) hl hr aj o' hf vs (fun i hi=>(aN i hi).1) aQ
    exact aV.ea hI (aU hv h1) (.d _ _ _ h2) hk
  ·cases hy
 ·rename_i cs off
  split at hy
  ·rename_i r hr
   cases hy
   generalize hv:a.eval x=u at hx
   cases hx with
   |ref _ _ _ aj o' vs hb aN aQ=>
    obtain⟨v,h1,h2⟩:=C6 (St:=g.St) (O:=fun _ _ _ _=>False) hl hr aj o' vs (fun i hi=>(aN i hi).1) aQ (fun i hi=>(aN i hi).2)
    exact aV.ea hI (aU hv h1) h2.aa hk
  ·cases hy
 ·cases hy
theorem OT(hI:Inv gl w0 an e a w g){o:Oper}{t:TypeId}{x:Operand}(ho:o.op=.load t x){k:Slot→List af→Prop}{b:Bool}{n:Nat}(hl:fH P t=some (b,n))
  {bn off:Nat}(hs:(Ab.aJ gl e x).aa =.p bn off)(h:my b n bn off e.boxes k):aV P gl w0 an e.ai o a w k:=by
 have hx:=hI.kX hs
 obtain⟨aj,hv,b6⟩:=hx.jq
 have aU:∀{v},(loadVar t ⟨aj,off,none⟩).run P w=.ok v w→(execOp a.eval o).run P w=.ok (.value v) w:=by
  intro v h2
  simp[execOp,ho,Instr.loadAt,Instr.sureAddr,hv,h2]
 unfold my at h
 split at h
 ·rename_i cs bw
  obtain⟨y,hy,hk⟩:=az h
  obtain⟨h0,c,ty,hc,bz,hlen,aQ⟩:=hI.boxes bn _ aj bw b6
  obtain⟨v,h1,h2⟩:=C6 (w:=w) (off:=off) (St:=g.St) (O:=fun j=>nT w0.heap.size w g bn j) hl hy aj 0 (fun i=>c.getD i undef) (fun i hi=>by
   rw[cell_of_row w aj (0+i) c ty (0,0) hc];simp[Nat.lt_of_lt_of_le hi hlen]) (fun i d hd=>by
   have hi:=(List.getElem?_eq_some_iff.1 hd).1
   exact aQ i d _ hd (by simp[Nat.lt_of_lt_of_le hi hlen])) (fun i hi=>by
   have dp:i<c.size:=Nat.lt_of_lt_of_le hi hlen
   simp[dp];exact bz i _ hi (by simp))
  simp only[Nat.zero_add]at h1
  exact aV.ea hI (aU h1) h2.aa hk
 ·rename_i s ew
  cases b with
  |true=>exact h.elim
  |false=>
   simp only[cond_false]at h
   split at h
   ·obtain⟨h0,c,ty,hc,bz,aB,aQ⟩:=hI.boxes bn _ aj ew b6
    have zm:c[0]? =some (c[0]'(by omega)):=by simp
    refine aV.value hI (aU (v:=c[0]'(by omega)) ?_) ((aQ _ zm).aa) h
    rw[sQ (vs:=fun _=>c[0]'(by omega)) hl aj 0 (fun j hj=>by
     simp at hj;subst hj
     rw[cell_of_row w aj (0+0) c ty (0,0) hc];exact zm)]
    simp
   ·exact h.elim
 ·exact h.elim
theorem v8:∀(l:List SV)(cs:List SV)(off:Nat),off+l.length≤cs.length→setAt cs off l=cs.take off++l++cs.drop (off+l.length)
 |[],cs,off,_=>by simp[setAt]
 |v::l,cs,off,h=>by
  simp only[List.length_cons]at h
  rw[setAt,v8 l (cs.set off v) (off+1) (by simp;omega)]
  have h1:(cs.set off v).take (off+1)=cs.take off++[v]:=by
   rw[List.take_add_one,List.take_set_of_le (Nat.le_refl _)]
   simp[List.getElem?_set_self (show off<cs.length by omega)]
  have h2:(cs.set off v).drop (off+1+l.length)=cs.drop (off+1+l.length):=by
   rw[List.drop_set_of_lt (by omega)]
  rw[h1,h2]
  simp[Nat.add_assoc,Nat.add_comm 1]
theorem qP{α:Type}(cs l:List α)(off:Nat)(h:off+l.length≤cs.length)(i:Nat):
  (cs.take off++l++cs.drop (off+l.length))[i]? =if i<off then cs[i]? else if i<off+l.length then l[i-off]? else cs[i]? :=by
 have ht:(cs.take off).length =off:=by simp;omega
 rw[List.append_assoc,List.getElem?_append,ht]
 split
 ·rename_i h1
  rw[List.getElem?_take,if_pos h1]
 ·rename_i h1
  rw[List.getElem?_append]
  split
  ·rename_i h2
   rw[if_pos (by omega)]
  ·rename_i h2
   rw[if_neg (by omega),List.getElem?_drop]
   congr 1
   omega
theorem Iu{c l:Array Value}{off m:Nat}(h:off+l.size≤c.size)(h1:∀(j:Nat)y,j<m→c[j]? =some y→y.oneCell'=true)(h2:∀y∈l,y.oneCell'=true)(j:Nat)(y:Value)(hj:j<m)
  (hy:(c.toList.take off++l.toList++c.toList.drop (off+l.size)).toArray[j]? =some y):y.oneCell'=true:=by
 have hs:=qP c.toList l.toList off (by simpa using h) j
 simp only[Array.length_toList]at hs
 simp only[List.getElem?_toArray]at hy
 rw[hs]at hy
 simp only[Array.getElem?_toList]at hy
 split at hy
 ·exact h1 j y hj hy
 ·split at hy
  ·exact h2 y (Array.mem_of_getElem? hy)
  ·exact h1 j y hj hy
theorem xO{t:TypeId}{n:Nat}(hn:ck P t=some n){aj off:Nat}{c:Array Value}{ty:TypeId}(hc:w.heap[aj]? =some (.cells c ty (0,0))){v:Value}
  (hv:v.cells.size=n)(h1:∀y∈v.cells,y.oneCell'=true)(hle:off+n≤c.size):
  (storeVar t ⟨aj,off,none⟩ v).run P w=.ok () (w.setRow aj (c.toList.take off++v.cells.toList++c.toList.drop (off+n)).toArray):=by
 have:=run_storeCells_at P aj off ty v.cells.toList 0 c w hc (by simp;omega) (by simpa using h1)
 simp only[Nat.add_zero,Array.length_toList,hv]at this
 unfold storeVar
 simp[jh hn,hv,this]
theorem CG(hI:Inv gl w0 an e a w g){o:Oper}{t:TypeId}{x y:Operand}(ho:o.op=.store t x y)(hd:o.dst=none){k:Slot→List af→Prop}
  {bn off aj n:Nat}(hv:a.eval x=.pointer (some ⟨aj,off,none⟩))(b6:g.bx[bn]? =some (some aj))
  {cells:Array Value}{ty:TypeId}{dB:af}(hc:w.heap[aj]? =some (.cells cells ty (0,0)))(qd:Array Value)(bw:qd.size=cells.size)(bz:∀(j:Nat)y,j<dB.size→qd[j]? =some y→y.oneCell'=true)
  (bB:(storeVar t ⟨aj,off,none⟩ (a.eval y)).run P w=.ok () (w.setRow aj qd))
  (rep:∀(w':World),Ext w0.heap.size w g w' g (fun p=>∃j,p=.b bn j∧off≤j∧j<off+n)→(match(generalizing:=false) dB with
    | .none =>False
    | .map _=>False
    | .cells cs=>cs.length≤qd.size∧∀(j:Nat)x y,cs[j]? =some x→qd[j]? =some y→aG w' g.St w0.heap.size (nT w0.heap.size w' g bn j) x y
    | .one s=>0<qd.size∧∀y,qd[0]? =some y→bM w0.heap.size w' g (fun _=>nT w0.heap.size w' g bn 0) s y))
  (hk:k (.t []) (e.boxes.set bn dB)):aV P gl w0 an e.ai o a w k:=by
 intro next Q EJ
 have aU:(execOp a.eval o).run P w=.ok .skip (w.setRow aj qd):=by
  simp[execOp,ho,Instr.storeAt,Instr.sureAddr,hv,bB]
 unfold Oper.wp
 rw[aU]
 have de:=fun k(hk:k≠aj)=>setRow_other w aj k qd hk
 have g9:=setRow_heap w aj cells qd ty (0,0) hc
 refine EJ (.t []) undef _ _ g ?_ hk
 rw[hd]
 refine hI.Eu (dst:=none) (s:=.t []) (v:=undef) (ai:=e.ai) (fun _=>False) (fun j=>off≤j∧j<off+n) rfl rfl (fun _ _ _ _ _ h=>h) (fun _ h=>h) b6 bz g9 (fun c ty h=>by rw[hc]at h;cases h;exact bw) de (by simp[World.setRow]) ⟨rfl,rfl,rfl⟩ rfl
  (fun i x hx _=>⟨x,hx,.inl ⟨rfl,fun h=>h⟩⟩) (fun hX=>?_) (fun _ d h=>by cases h)
 have:=rep _ ⟨hX.df,hX.st,hX.bs,hX.bx,fun p b a c hp ho=>hX.own p b a c (fun pg=>hp (by
  rcases pg with⟨i,j,_,h⟩|⟨j,h⟩|⟨d,j,h,_⟩
  ·exact h.elim
  ·exact⟨j,h⟩
  ·cases h)) ho,hX.sh⟩
 cases dB with
 |none=>exact this
 |map l=>exact this
 |cells cs=>exact this
 |one s=>exact this
theorem HD(hI:Inv gl w0 an e a w g){o:Oper}{t:TypeId}{x y:Operand}(ho:o.op=.store t x y)(hd:o.dst=none){k:Slot→List af→Prop}{n:Nat}(hn:ck P t=some n)
  {bn off aj:Nat}(hv:a.eval x=.pointer (some ⟨aj,off,none⟩))(b6:g.bx[bn]? =some (some aj))
  {cells:Array Value}{ty:TypeId}(hc:w.heap[aj]? =some (.cells cells ty (0,0)))(MM:0<cells.size)(n9:n=1)(rG:off=0)
  {s:Slot}(hs:(Ab.aJ gl e y).aa =s)(zn:∀z,s≠.v z)(zo:∀z,s≠.t z)(hk:k (.t []) (e.boxes.set bn (.one s))):aV P gl w0 an e.ai o a w k:=by
 have hy:=hI.kX hs
 subst n9 rG
 have nn:(a.eval y).cells = #[a.eval y]∧(a.eval y).oneCell' =true:=by
  generalize a.eval y=u at hy
  cases hy with
  |v _ z _ _=>exact absurd rfl (zn z)
  |p=>exact⟨rfl,rfl⟩
  |a _ b n sz v hm h=>obtain⟨_,_,_,_,rfl,_⟩:=h;exact⟨rfl,rfl⟩
  |m=>exact⟨rfl,rfl⟩
  |c=>exact⟨rfl,rfl⟩
  |t _ z _ _ _=>exact absurd rfl (zo z)
 refine CG hI ho hd (n:=1) (dB:=.one s) hv b6 hc (cells.toList.take 0++ #[a.eval y].toList ++cells.toList.drop (0+1)).toArray (by simp;omega) (fun j u hj hu=>?_) ?_ (fun w' hX=>⟨by simp,fun u hu=>?_⟩) hk
 ·have:j=0:=by simp only[af.size]at hj;omega
  subst this
  simp at hu;subst hu
  exact nn.2
 ·rw[xO hn hc (by rw[nn.1];rfl) (by rw[nn.1];simpa using nn.2) (by omega)]
  rw[nn.1]
 ·simp at hu;subst hu
  exact hy.mono hX.st hX.bs hX.bx hX.sh (fun _ _ _ _ h=>h.elim)
theorem PJ(hI:Inv gl w0 an e a w g){o:Oper}{t:TypeId}{x y:Operand}(ho:o.op=.store t x y)(hd:o.dst=none){k:Slot→List af→Prop}{n:Nat}(hn:ck P t=some n)
  {bn off:Nat}(hs:(Ab.aJ gl e x).aa =.p bn off)(h:nL n bn off ((Ab.aJ gl e y).aa) e.boxes fun cp=>k (.t []) cp):aV P gl w0 an e.ai o a w k:=by
 have hx:=hI.kX hs
 obtain⟨aj,hv,b6⟩:=hx.jq
 unfold nL at h
 split at h
 ·
  rename_i cs bw
  obtain⟨h0,c,ty,hc,bz,hlen,aQ⟩:=hI.boxes bn _ aj bw b6
  split at h
  ·rename_i z hz
   obtain⟨l,hl,ph,hle,hk⟩:=az h
   have hy:=hI.kX hz
   obtain⟨h1,h2,h3⟩:=hy.jG.cells hl
   have ja:(a.eval y).cells.size =n:=by rw[←h1,ph]
   refine CG hI ho hd (n:=n) (dB:=.cells (setAt cs off l)) hv b6 hc _ (by simp[ja];omega) ?_ (xO hn hc ja h2 (by omega)) (fun w' hX=>?_) hk
   ·intro j u hj hu
    rw[←ja]at hu
    exact Iu (m:=cs.length) (by omega) bz h2 j u (by simp only[af.size,v8 l cs off (by omega),List.length_append,List.length_take,List.length_drop]at hj;omega) hu
   ·rw[v8 l cs off (by omega)]
    refine⟨by simp[ja];omega,fun j x' y' cB qC=>?_⟩
    have nn:n=(a.eval y).cells.toList.length :=by simp[ja]
    rw[qP cs l off (by omega)]at cB
    have rH:(c.toList.take off++(a.eval y).cells.toList ++c.toList.drop (off+(a.eval y).cells.toList.length))[j]? =some y':=by
     rw[←nn];simpa using qC
    rw[qP _ _ off (by simp[ja];omega)]at rH
    simp only[Array.length_toList,ja,ph]at cB rH
    have fB:¬(off≤j∧j<off+n)→cs[j]? =some x'→c[j]? =some y'→aG w' g.St w0.heap.size (nT w0.heap.size w' g bn j) x' y':=fun hj h4 h5=>
     (aQ j x' y' h4 h5).mono hX.st hX.bs _ (fun b' a' c' ho=>hX.own _ b' a' c' (by rintro⟨j',h6,h7⟩;cases h6;exact hj h7) ho)
    split at cB
    ·rename_i hj
     simp only[hj,↓reduceIte,Array.getElem?_toList]at rH
     exact fB (by omega) cB rH
    ·rename_i hj
     simp only[hj,↓reduceIte]at rH
     split at cB
     ·rename_i od
      simp only[od,↓reduceIte,Array.getElem?_toList]at rH
      exact(h3 (j-off) x' y' cB rH).mono hX.st hX.bs _ (fun _ _ _ h=>h.elim)
     ·rename_i od
      simp only[od,↓reduceIte,Array.getElem?_toList]at rH
      exact fB (by omega) cB rH
  ·exact h.elim
  ·rename_i zn zo
   split at h
   ·exact HD hI ho hd hn hv b6 hc (by simp at hlen;omega) rfl rfl rfl (fun z hz=>zn z hz) (fun z hz=>zo z hz) h
   ·exact h.elim
 ·
  rename_i s0 ie
  obtain⟨h0,c,ty,hc,bz,hlen,aQ⟩:=hI.boxes bn _ aj ie b6
  split at h
  ·split at h
   ·rename_i z hz
    obtain⟨l,hl,ph,hk⟩:=az h
    have hy:=hI.kX hz
    obtain⟨h1,h2,h3⟩:=hy.jG.cells hl
    have ja:(a.eval y).cells.size =1:=by rw[←h1,ph]
    have B4:∀{j:Nat},j<l.length→(c.toList.take 0++(a.eval y).cells.toList ++c.toList.drop (0+1)).toArray[j]? =(a.eval y).cells[j]? :=by
     intro j hj
     have:j=0:=by omega
     subst this
     simp[List.getElem?_append,ja]
    refine CG hI ho hd (n:=1) (dB:=.cells l) hv b6 hc (c.toList.take 0++(a.eval y).cells.toList ++c.toList.drop (0+1)).toArray (by simp[ja];omega) (fun j u hj hu=>?_) ?_ (fun w' hX=>⟨by simp;omega,fun j c' u ib hu=>?_⟩) hk
    ·rw[B4 hj]at hu
     exact h2 u (Array.mem_of_getElem? hu)
    ·rw[xO hn hc ja h2 (by omega)]
    ·rw[B4 (List.getElem?_eq_some_iff.1 ib).1]at hu
     exact(h3 j c' u ib hu).mono hX.st hX.bs _ (fun _ _ _ h=>h.elim)
   ·exact h.elim
   ·rename_i zn zo
    exact HD hI ho hd hn hv b6 hc hlen rfl rfl rfl (fun z hz=>zn z hz) (fun z hz=>zo z hz) h
  ·exact h.elim
 ·exact h.elim
end
end Go.Proofs.Ytaknajjmldngiaa.Ab
namespace Go.Proofs.Ytaknajjmldngiaa.Ab
open Go Go.RowKit
section
variable{P:Program}{gl:Nat→Option D}{w0:World}{an:S0}{e:Env}{a:Act}{w:World}{g:Gh}
theorem pP{x:SV}{n j:Nat}(h:eh x n=some j):∃k i,x=.d (.int k i)∧0≤i∧i<n∧j=i.toNat:=by
 unfold eh at h
 split at h
 ·rename_i k i
  split at h
  ·rename_i hc;cases h;exact⟨k,i,rfl,hc.1,hc.2,rfl⟩
  ·cases h
 ·cases h
theorem aG.int{St:Nat→Nat→Prop}{base:Nat}{O:Nat→Nat→Nat→Prop}{k:IntKind}{n:Int}{v:Value}(h:aG w St base O (.d (.int k n)) v):v=.int k n:=h.data.oJ.1
theorem Ia{x y:SV}{n:Nat}(h:bD x n=some y){St:Nat→Nat→Prop}{base:Nat}{O O':Nat→Nat→Nat→Prop}{v:Value}(r:aG w St base O x v):
  ∃ad:Addr,v=.pointer (some ad)∧ad.spot=none∧aG w St base O' y (.pointer (some ⟨ad.block,ad.off+n,none⟩)):=by
 unfold bD at h
 split at h
 ·cases h
  cases r with
  |aE _ x off b o vs h0 h1 h2=>exact⟨_,rfl,rfl,by rw[Nat.add_assoc];exact .aE _ _ _ b o vs h0 h1 h2⟩
 ·cases h
  cases r with
  |ref _ cs off b o vs h0 h1 h2=>exact⟨_,rfl,rfl,by rw[Nat.add_assoc];exact .ref _ _ _ b o vs h0 h1 h2⟩
 ·cases h
theorem Ac{t:TypeId}{i:Nat}{fd:Field}(h:jX P t i=some fd):∃fs,P.underlying t=some (.struct fs)∧fs[i]? =some fd:=by
 unfold jX at h
 split at h
 ·rename_i fs hu;exact⟨fs,hu,by simpa using h⟩
 ·cases h
theorem CH{fd:Field}{sz:Nat}(hs:ck P fd.type=some sz)(h0:sz≠0)(ad:Addr):(fieldPlace ad fd).run P w=.ok (ad.add fd.offset) w:=by
 simp[fieldPlace,jh hs,h0]
theorem OA(hI:Inv gl w0 an e a w g){o:Oper}{t:TypeId}{x:Operand}{f:Nat}(ho:o.op=.fieldAddr t x f){k:Slot→List af→Prop}
  (h:ab (jX P t f) fun fd=>ab (ck P fd.type) fun sz=>bif Nat.beq sz 0 then False else(match(Ab.aJ gl e x).aa with
  | .p b off=>k (.p b (off+fd.offset)) e.boxes
  | .v y=>ab (bD y fd.offset) fun z=>k (.v z) e.boxes
  |_=>False)):aV P gl w0 an e.ai o a w k:=by
 obtain⟨fd,lP,h⟩:=az h
 obtain⟨sz,aB,h⟩:=az h
 obtain⟨fs,hu,u9⟩:=Ac lP
 cases hz:Nat.beq sz 0 with
 |true=>rw[hz]at h;exact h.elim
 |false=>
  rw[hz]at h
  simp only[cond_false]at h
  have h0:sz≠0:=fun h=>by rw[h]at hz;cases hz
  have aU:∀ad,a.eval x=.pointer (some ad)→(execOp a.eval o).run P w=.ok (.value (.pointer (some (ad.add fd.offset)))) w:=by
   intro ad hv
   simp[execOp,ho,Instr.fieldAt,run_underlying hu,u9,Instr.sureAddr,hv,CH aB h0]
  split at h
  ·rename_i b off hs
   obtain⟨aj,hv,b6⟩:=(hI.kX hs).jq
   refine aV.value hI (aU _ hv) ?_ h
   rw[mw]
   exact .p _ _ _ _ b6
  ·rename_i y hs
   obtain⟨z,hz,hk⟩:=az h
   obtain⟨ad,hv,kA,hr⟩:=Ia (O':=fun _ _ _=>False) hz (hI.n8 hs)
   refine aV.ea hI (aU _ hv) ?_ hk
   obtain⟨b,o',sp⟩:=ad
   simp only at kA;subst kA
   rw[mw];exact hr
  ·exact h.elim
theorem OU{P:Program}{w:World}{t:TypeId}{name:String}{f:FuncId}(h:uG P t name=some f)(fuel:Nat)(v:Value):(nilAhead (fuel+1) t v name).run P w=.ok (some false) w:=by
 unfold uG at h
 split at h
 ·rename_i i hi
  split at h
  ·rename_i m hm
   split at h
   ·rename_i f' hp hf
    split at h
    ·cases h
    ·rename_i u xq hu
     have lQ:(underlying t).run P w=.ok u w:=run_underlying hu w
     have j8:(typeInfo t).run P w=.ok i w:=by simp[typeInfo,go_sem,hi]
     have xo:(followBlind ([]:List FieldStep) t (some v)).run P w=.ok (.ok (t,some v)) w:=by simp[followBlind]
     unfold nilAhead
     simp only[Sem.run_bind,j8,Result.andThen_ok,hm,hp,xo,hf,lQ]
     cases u<;>first|exact(xq _ rfl).elim |simp
    ·cases h
   ·cases h
  ·cases h
 ·cases h
theorem OK(hI:Inv gl w0 an e a w g){o:Oper}{x:Operand}(ho:o.op=.nilCheck x){k:Slot→List af→Prop}
  (h:match(Ab.aJ gl e x).aa with
  | .v y=>ab (AP y) fun z=>k (.v z) e.boxes
  | .t _=>False
  | .c f first cap=>(match f with
    | .func _=>k (.c f first cap) e.boxes
    | .method name=>(match first with
      | .v y::_=>ab (EG P y name) fun _=>k (.c f first cap) e.boxes
      |_=>False)
    |_=>False)
  | .p b off=>k (.p b off) e.boxes
  |_=>False):aV P gl w0 an e.ai o a w k:=by
 split at h
 ·rename_i y hs
  obtain⟨z,hz,hk⟩:=az h
  have hy:=hI.n8 hs
  have XV:y=z∧∃v,a.eval x=v∧(execOp a.eval o).run P w=.ok (.value v) w:=by
   unfold AP at hz
   generalize hv:a.eval x=u at hy
   split at hz<;>first|(cases hz)|skip
   ·cases hy;exact⟨rfl,_,rfl,by simp[execOp,ho,hv]⟩
   ·cases hy;exact⟨rfl,_,rfl,by simp[execOp,ho,hv]⟩
   ·rename_i f a' b'
    cases f<;>simp only[Option.some.injEq,reduceCtorEq]at hz
    cases hy;exact⟨hz,_,rfl,by simp[execOp,ho,hv]⟩
   ·rename_i f
    cases f<;>simp only[Option.some.injEq,reduceCtorEq]at hz
    cases hy with
    |d _ _ _ hd=>cases hd;exact⟨hz,_,rfl,by simp[execOp,ho,hv]⟩
  obtain⟨rfl,v,hv,hr⟩:=XV
  rw[hv]at hy
  exact aV.ea hI hr hy hk
 ·exact h.elim
 ·rename_i f first cap hs
  have hy:=hI.kX hs
  split at h
  ·generalize hv:a.eval x=u at hy
   have qC:=hy
   cases hy
   exact aV.value hI (by simp[execOp,ho,hv]) qC h
  ·rename_i name
   split at h
   ·rename_i y rest
    obtain⟨f',jb,h⟩:=az h
    unfold EG at jb
    split at jb
    ·rename_i t y0 tK
     generalize hv:a.eval x=u at hy
     have qC:=hy
     cases hy with
     |c _ _ _ _ fv cv pj pk rf rc=>
      have aB:0<fv.size:=by rw[←pj];simp
      have h0:=rf 0 _ (fv[0]) rfl (by simp[aB])
      cases h0 with
      |v _ _ _ h0=>
       have hd:=h0.data
       generalize he:fv[0]=u0 at hd
       cases hd with
       |iface _ _ v0 _=>
        have va:fv[0]? =some (.iface t v0):=by rw[Array.getElem?_eq_getElem aB,he]
        refine aV.value hI ?_ qC h
        simp only[execOp,ho,hv,va]
        have XW:=OU (P:=P) (w:=w) jb (P.types.size+99) v0
        simp only[Sem.run_bind,run_program,Result.andThen_ok,Made.depth]
        rw[XW]
        simp
    ·cases jb
   ·exact h.elim
  ·exact h.elim
 ·rename_i b off hs
  have hy:=hI.kX hs
  obtain⟨aj,hv,b6⟩:=hy.jq
  exact aV.value hI (by simp[execOp,ho,hv]) (.p _ _ _ _ b6) h
 ·exact h.elim
theorem PK(hI:Inv gl w0 an e a w g){o:Oper}{t:TypeId}{x:Operand}(ho:o.op=.makeInterface t x){k:Slot→List af→Prop}
  (h:bif isIface P t then False else ab (Ba t ((Ab.aJ gl e x).aa).aT) fun r=>k (.v r) e.boxes):aV P gl w0 an e.ai o a w k:=by
 cases hi:isIface P t with
 |true=>rw[hi]at h;exact h.elim
 |false=>
  rw[hi]at h
  simp only[cond_false]at h
  obtain⟨r,hr,hk⟩:=az h
  have hx:=hI.gk x
  generalize ((Ab.aJ gl e x).aa).aT =sx at hr hx
  unfold Ba at hr
  split at hr
  ·rename_i y hy
   cases hr
   refine aV.ea hI (v:=.iface t (a.eval x)) ?_ (.d _ _ _ (.iface _ _ _ (hx.cg hy))) hk
   unfold isIface at hi
   split at hi
   ·cases hi
   ·cases hi
   ·rename_i h1 h2
    obtain⟨d,hd⟩:=Option.ne_none_iff_exists'.1 (fun hn=>h2 hn)
    simp only[execOp,ho,Instr.makeInterface,Sem.run_bind,run_underlying hd,Result.andThen_ok]
    cases d<;>first|rfl|exact absurd hd (h1 _)
  ·cases hr
theorem OL(hI:Inv gl w0 an e a w g){o:Oper}{fn:Fn}{first cap:Array Operand}(ho:o.op=.makeFunc fn first cap){k:Slot→List af→Prop}
  (h:k (.c fn (first.toList.map fun x=>((Ab.aJ gl e x).aa).aa) (cap.toList.map fun x=>((Ab.aJ gl e x).aa).aa)) e.boxes):aV P gl w0 an e.ai o a w k:=by
 refine aV.value hI (v:=.func fn (first.map a.eval) (cap.map a.eval)) (by simp[execOp,ho,Instr.makeFunc]) (.c _ _ _ _ _ _ (by simp) (by simp) ?_ ?_) h
 ·intro i x v hx hv
  simp only[List.getElem?_map,Option.map_eq_some_iff,Array.getElem?_map]at hx hv
  obtain⟨y,hy,rfl⟩:=hx
  obtain⟨z,hz,rfl⟩:=hv
  rw[Array.getElem?_toList]at hy
  rw[hy]at hz;cases hz
  exact(hI.aJ y).aa
 ·intro i x v hx hv
  simp only[List.getElem?_map,Option.map_eq_some_iff,Array.getElem?_map]at hx hv
  obtain⟨y,hy,rfl⟩:=hx
  obtain⟨z,hz,rfl⟩:=hv
  rw[Array.getElem?_toList]at hy
  rw[hy]at hz;cases hz
  exact(hI.aJ y).aa
theorem OV(hI:Inv gl w0 an e a w g){o:Oper}{x:Operand}{i:Nat}(ho:o.op=.extract x i){k:Slot→List af→Prop}
  (h:match(Ab.aJ gl e x).aa with
  | .t vs=>(match vs[i]? with|some r=>k (.v r) e.boxes|none=>False)
  |_=>False):aV P gl w0 an e.ai o a w k:=by
 split at h
 ·rename_i vs hs
  split at h
  ·rename_i r hr
   obtain⟨tv,hv,hl,hc⟩:=(hI.kX hs).EI
   have hi:i<tv.size:=by rw[←hl];exact(List.getElem?_eq_some_iff.1 hr).1
   exact aV.ea hI (v:=tv[i]) (by simp[execOp,ho,Instr.extract,hv,hi]) (hc i r _ hr (by simp)) h
  ·exact h.elim
 ·exact h.elim
theorem PL(hI:Inv gl w0 an e a w g){o:Oper}{t:TypeId}{x:Operand}{f:Nat}(ho:o.op=.field t x f){k:Slot→List af→Prop}
  (h:ab (jX P t f) fun fd=>ab (fH P fd.type) fun ly=>ab (p8 ly.1 ly.2 fd.offset ((Ab.aJ gl e x).aa).aT) fun r=>k (.v r) e.boxes):aV P gl w0 an e.ai o a w k:=by
 obtain⟨fd,lP,h⟩:=az h
 obtain⟨⟨b,n⟩,hl,h⟩:=az h
 obtain⟨r,hr,hk⟩:=az h
 obtain⟨fs,hu,u9⟩:=Ac lP
 have hx:=hI.gk x
 generalize ((Ab.aJ gl e x).aa).aT =sx at hr hx
 unfold p8 at hr
 split at hr
 ·rename_i cs
  split at hr
  ·rename_i z hz
   cases hr
   obtain⟨vs,hv,aQ,hf⟩:=hx.data.qY
   obtain⟨hb,hn,h1⟩:=AQ hl
   have hle:fd.offset+n≤cs.length:=by
    unfold oO at hz
    cases b
    ·simp only[cond_false]at hz;have:=(List.getElem?_eq_some_iff.1 hz).1;rw[h1 rfl];omega
    ·simp only[cond_true]at hz;split at hz<;>first|assumption|cases hz
   obtain⟨v,hp,rV⟩:=aQ.valOf (P:=P) (off:=fd.offset) hb hn h1 hle
   refine aV.ea hI (v:=v) (by simp[execOp,ho,Instr.field,run_underlying hu,u9,hv,asAgg,hp]) (.d _ _ _ ?_) hk
   unfold oO at hz
   cases b
   ·simp only[cond_false]at hz
    simp only[gm,Bool.false_eq_true,if_false]at rV
    obtain⟨x',cB,np⟩:=rV
    have aS:=(List.getElem?_eq_some_iff.1 hz).1
    rw[h1 rfl,List.drop_eq_getElem_cons aS,List.take_succ_cons,List.take_zero]at cB
    rw[List.getElem?_eq_getElem aS]at hz
    cases hz
    simp only[List.cons.injEq,and_true]at cB
    rw[cB];exact np
   ·simp only[cond_true,hle,↓reduceIte,Option.some.injEq]at hz
    subst hz
    simp only[gm,if_true]at rV
    obtain⟨dJ,rfl,np⟩:=rV
    exact np.agg (fun d hd=>hf d (List.mem_of_mem_drop (List.mem_of_mem_take hd)))
  ·cases hr
 ·cases hr
theorem PM(hI:Inv gl w0 an e a w g){o:Oper}{t:TypeId}{x i:Operand}(ho:o.op=.index t x i){k:Slot→List af→Prop}
  (h:match P.underlying t with
  |some (.array n e')=>ab (fH P e') fun ly=>ab (A9 ly.1 ly.2 n ((Ab.aJ gl e x).aa).aT ((Ab.aJ gl e i).aa).aT) fun r=>k (.v r) e.boxes
  |some .string =>ab (Bw ((Ab.aJ gl e x).aa).aT ((Ab.aJ gl e i).aa).aT) fun r=>k (.v r) e.boxes
  |_=>False):aV P gl w0 an e.ai o a w k:=by
 have hx:=hI.gk x
 have hi:=hI.gk i
 generalize ((Ab.aJ gl e x).aa).aT =sx at h hx
 generalize ((Ab.aJ gl e i).aa).aT =si at h hi
 split at h
 ·rename_i n e' hu
  obtain⟨⟨b,m⟩,hl,h'⟩:=az h
  clear h
  obtain⟨r,hr,hk⟩:=az h'
  clear h'
  unfold A9 at hr
  split at hr
  ·rename_i cs
   split at hr
   ·rename_i j hj
    split at hr
    ·rename_i z hz
     cases hr
     obtain⟨kk,ii,rfl,h1,h2,rfl⟩:=pP hj
     have pn:=hi.int
     obtain⟨vs,hv,aQ,hf⟩:=hx.data.qY
     obtain⟨hb,hn,bz⟩:=AQ hl
     have hle:ii.toNat*m+m≤cs.length:=by
      unfold oO at hz
      cases b
      ·simp only[cond_false]at hz;have:=(List.getElem?_eq_some_iff.1 hz).1;rw[bz rfl]at*;omega
      ·simp only[cond_true]at hz;split at hz<;>first|assumption|cases hz
     obtain⟨v,hp,rV⟩:=aQ.valOf (P:=P) (off:=ii.toNat*m) hb hn bz hle
     refine aV.ea hI (v:=v) ?_ (.d _ _ _ ?_) hk
     ·simp[execOp,ho,Instr.index,pn,asIntOf,run_underlying hu,hv,h1,h2,jh hn,hp]
     ·unfold oO at hz
      cases b
      ·simp only[cond_false]at hz
       simp only[gm,Bool.false_eq_true,if_false]at rV
       obtain⟨x',cB,np⟩:=rV
       have aS:=(List.getElem?_eq_some_iff.1 hz).1
       rw[bz rfl]at cB hz aS
       rw[List.drop_eq_getElem_cons aS,List.take_succ_cons,List.take_zero]at cB
       rw[List.getElem?_eq_getElem aS]at hz
       cases hz
       simp only[List.cons.injEq,and_true]at cB
       rw[cB];exact np
      ·simp only[cond_true,hle,↓reduceIte,Option.some.injEq]at hz
       subst hz
       simp only[gm,if_true]at rV
       obtain⟨dJ,rfl,np⟩:=rV
       exact np.agg (fun d hd=>hf d (List.mem_of_mem_drop (List.mem_of_mem_take hd)))
    ·cases hr
   ·cases hr
  ·cases hr
 ·rename_i hu
  obtain⟨r,hr,hk⟩:=az h
  unfold Bw at hr
  split at hr
  ·rename_i s
   split at hr
   ·rename_i j hj
    split at hr
    ·rename_i c hc
     cases hr
     obtain⟨kk,ii,rfl,h1,h2,rfl⟩:=pP hj
     have pn:=hi.int
     obtain⟨bs,hv,hs,_⟩:=hx.data.qX
     have aS:ii.toNat<bs.size:=by
      rw[hs]at h2
      simp only[Array.length_toList]at h2
      have:bs.size=bs.data.size:=rfl
      omega
     have hg:bs[ii.toNat]? =some c:=by
      rw[hs]at hc
      rw[getElem?_pos bs ii.toNat aS]
      have:bs.data.toList[ii.toNat]? =some bs[ii.toNat]:=by
       rw[Array.getElem?_toList,Array.getElem?_eq_getElem aS]
       rfl
      rw[this]at hc
      exact hc
     refine aV.ea hI (v:=.int .u8 c.toNat) ?_ (.d _ _ _ (.int _ _ ?_)) hk
     ·simp[execOp,ho,Instr.index,pn,asIntOf,run_underlying hu,hv,h1,hg]
     ·have:=c.toNat_lt
      simp[fg,IntKind.min,IntKind.max,IntKind.signed,IntKind.bits]
      omega
    ·cases hr
   ·cases hr
  ·cases hr
 ·exact h.elim
theorem Ib{sz:Nat}{x:SV}{L:List D}(h:elems sz x=some L){St:Nat→Nat→Prop}{base:Nat}{O:Nat→Nat→Nat→Prop}{v:Value}(r:aG w St base O x v):
  ((v=.slice none 0 0∨∃ad c,v=.slice (some ad) 0 c)∧L=[])∨∃(b off cap:Nat) (vs:Nat→Value),v=.slice (some ⟨b,off,none⟩) L.length cap∧L.length≤cap∧L.length≤maxLen∧(∀x∈L,x.cells.length=sz)∧(∀x∈L,∀c∈x.cells,c.one=true)∧
    (∀(o:Nat),o<L.length*sz→w.cell? ⟨b,off+o,none⟩=some (vs o)∧St b (off+o))∧
    (∀(i:Nat)x(j:Nat)c,L[i]? =some x→x.cells[j]? =some c→aK w St c (vs (i*sz+j))):=by
 have go:∀{s L' v},aK w St (.sl .ro s L') v→((v=.slice none 0 0∨∃ad c,v=.slice (some ad) 0 c)∧L'=[])∨∃(b off cap:Nat) (vs:Nat→Value),v=.slice (some ⟨b,off,none⟩) L'.length cap∧L'.length≤cap∧L'.length≤maxLen∧(∀x∈L',x.cells.length=s)∧(∀x∈L',∀c∈x.cells,c.one=true)∧
   (∀(o:Nat),o<L'.length*s→w.cell? ⟨b,off+o,none⟩=some (vs o)∧St b (off+o))∧
   (∀(i:Nat)x(j:Nat)c,L'[i]? =some x→x.cells[j]? =some c→aK w St c (vs (i*s+j))):=by
  intro s L' v hd
  cases hd with
  |sl _ _ b off cap vs bq hm aB hf aN hc=>exact .inr ⟨b,off,cap,vs,rfl,bq,hm,aB,hf,aN,hc⟩
  |iU _ ad c _=>exact .inl ⟨.inr ⟨ad,c,rfl⟩,rfl⟩
 unfold elems at h
 split at h
 ·rename_i k s L'
  split at h
  ·cases h
   have hd:=r.data
   cases hd
   exact .inl ⟨.inl rfl,rfl⟩
  ·split at h
   ·rename_i hs;cases h;subst hs;exact go r.data
   ·cases h
 ·split at h
  ·rename_i hs;cases h;subst hs
   cases r with
   |own _ _ _ gg cap hd bq ho=>exact go hd
  ·cases h
 ·split at h
  ·rename_i hs;cases h;subst hs
   cases r with
   |full _ _ _ ad hd=>exact go hd
  ·cases h
 ·cases h
theorem OB(hI:Inv gl w0 an e a w g){o:Oper}{t:TypeId}{x i:Operand}(ho:o.op=.indexAddr t x i){k:Slot→List af→Prop}
  (h:match P.underlying t with
  |some (.slice e')=>ab (ck P e') fun sz=>ab (aR sz ((Ab.aJ gl e x).aa).aT ((Ab.aJ gl e i).aa).aT) fun r=>k (.v r) e.boxes
  |some (.array n e')=>ab (ck P e') fun sz=>ab (eh ((Ab.aJ gl e i).aa).aT n) fun j=>(match(Ab.aJ gl e x).aa with
   | .p b off=>k (.p b (off+j*sz)) e.boxes
   | .v y=>ab (bD y (j*sz)) fun z=>k (.v z) e.boxes
   |_=>False)
  |_=>False):aV P gl w0 an e.ai o a w k:=by
 have hi:=hI.gk i
 generalize ((Ab.aJ gl e i).aa).aT =si at h hi
 split at h
 ·rename_i e' hu
  obtain⟨sz,aB,h⟩:=az h
  obtain⟨r,hr,hk⟩:=az h
  have hx:=hI.gk x
  generalize ((Ab.aJ gl e x).aa).aT =sx at hr hx
  unfold aR at hr
  split at hr
  ·rename_i n s cs
   split at hr
   ·rename_i j hj
    split at hr
    ·rename_i F4
     cases hr
     subst F4
     obtain⟨kk,ii,rfl,h1,h2,rfl⟩:=pP hj
     have pn:=hi.int
     generalize hv:a.eval x=u at hx
     cases hx with
     |ev _ _ _ _ b cap vs cD hn hm aN hc=>
      refine aV.ea hI (v:=.pointer (some ⟨b,0+ii.toNat*s,none⟩)) ?_ (.ref _ cs (ii.toNat*s) b 0 vs cD aN hc) hk
      have:=mw b 0 (ii.toNat*s)
      simp[execOp,ho,Instr.indexAt,pn,asIntOf,run_underlying hu,hv,h1,h2,jh aB,this]
    ·cases hr
   ·cases hr
  split at hr
  ·rename_i L hL
   split at hr
   ·rename_i j hj
    split at hr
    ·rename_i y hy
     cases hr
     obtain⟨kk,ii,rfl,h1,h2,rfl⟩:=pP hj
     have pn:=hi.int
     rcases Ib hL hx with⟨_,rfl⟩|⟨b,off,cap,vs,hv,bq,hm,hs,hf,aN,hc⟩
     ·simp at h2;omega
     ·have aS:ii.toNat<L.length:=(List.getElem?_eq_some_iff.1 hy).1
      have dq:y∈L:=List.mem_of_getElem? hy
      refine aV.ea hI (v:=.pointer (some ⟨b,off+ii.toNat*sz,none⟩)) ?_ ?_ hk
      ·have:=mw b off (ii.toNat*sz)
       simp[execOp,ho,Instr.indexAt,pn,asIntOf,run_underlying hu,hv,h1,h2,jh aB,this]
      ·refine .aE _ y 0 b (off+ii.toNat*sz) (fun j=>vs (ii.toNat*sz+j)) (hf y dq) (fun j jM=>?_) (fun j c ib=>hc _ y j c hy ib)
       have:ii.toNat*sz+j<L.length*sz:=by
        rw[hs y dq]at jM
        have:(ii.toNat+1)*sz≤L.length*sz:=Nat.mul_le_mul_right _ aS
        rw[Nat.succ_mul]at this;omega
       rw[Nat.add_assoc]
       exact aN _ this
    ·cases hr
   ·cases hr
  ·cases hr
 ·rename_i n e' hu
  obtain⟨sz,aB,h⟩:=az h
  obtain⟨j,hj,h⟩:=az h
  obtain⟨kk,ii,rfl,h1,h2,rfl⟩:=pP hj
  have pn:=hi.int
  have aU:∀ad,a.eval x=.pointer (some ad)→(execOp a.eval o).run P w=.ok (.value (.pointer (some (ad.add (ii.toNat*sz))))) w:=by
   intro ad hv
   simp[execOp,ho,Instr.indexAt,pn,asIntOf,run_underlying hu,Instr.sureAddr,hv,h1,h2,jh aB]
  split at h
  ·rename_i b off hs
   obtain⟨aj,hv,b6⟩:=(hI.kX hs).jq
   refine aV.value hI (aU _ hv) ?_ h
   rw[mw]
   exact .p _ _ _ _ b6
  ·rename_i y hs
   obtain⟨z,hz,hk⟩:=az h
   obtain⟨ad,hv,kA,hr⟩:=Ia (O':=fun _ _ _=>False) hz (hI.n8 hs)
   refine aV.ea hI (aU _ hv) ?_ hk
   obtain⟨b,o',sp⟩:=ad
   simp only at kA;subst kA
   rw[mw];exact hr
  ·exact h.elim
 ·exact h.elim
end
end Go.Proofs.Ytaknajjmldngiaa.Ab
namespace Go.Proofs.Ytaknajjmldngiaa.Ab
open Go Go.RowKit
section
variable{P:Program}{gl:Nat→Option D}{w0:World}{an:S0}{e:Env}{a:Act}{w:World}{g:Gh}
inductive wF(w:World)(St:Nat→Nat→Prop)(base:Nat):Option SV→Option Value→Prop
 |none:wF w St base none none
 |some (s:SV) (v:Value) (h:aG w St base (fun _ _ _=>False) s v):wF w St base (some s) (some v)
theorem Inv.opt(hI:Inv gl w0 an e a w g)(x:Option Operand):wF w g.St w0.heap.size (Ab.kV (fun x=>(Ab.aJ gl e x).aa) x) (x.map a.eval):=by
 cases x with
 |none=>exact .none
 |some y=>exact .some _ _ (hI.gk y)
theorem vV{n m:Nat}(c:BoundsCode){x:SV}{j:Nat}(h:eh x (n+1)=some j)(hm:n≤m){St:Nat→Nat→Prop}{base:Nat}{O:Nat→Nat→Nat→Prop}{v:Value}(r:aG w St base O x v):
  (Instr.sliceBound v m c).run P w=.ok j w∧j≤n:=by
 obtain⟨kk,ii,rfl,h1,h2,rfl⟩:=pP h
 have hv:=r.int
 refine⟨?_,by omega⟩
 have:0≤ii∧ii≤(m:Int):=⟨h1,by omega⟩
 simp[Instr.sliceBound,hv,asIntOf,this]
theorem Ah{n cap:Nat}(MN:Bool)(hc:n≤cap){lo hi:Option SV}{zp zq:Option Value}{St:Nat→Nat→Prop}{base:Nat}(nq:wF w St base lo zp)(po:wF w St base hi zq)
  {hh ll:Nat}(h1:wZ n hi=some hh)(h2:tz hh lo=some ll):
  (Instr.sliceBounds MN n cap zp zq none).run P w=.ok (ll,hh,cap) w∧hh≤n∧ll≤hh:=by
 unfold Instr.sliceBounds
 cases po with
 |none=>
  simp only[wZ,Option.some.injEq]at h1
  subst h1
  cases nq with
  |none=>simp only[tz,Option.some.injEq]at h2;subst h2;exact⟨by simp,Nat.le_refl _,Nat.zero_le _⟩
  |some s v r=>
   obtain⟨q1,q2⟩:=vV (P:=P) (w:=w) .sliceB h2 (Nat.le_refl _) r
   exact⟨by simp[q1],Nat.le_refl _,q2⟩
 |some s v r=>
  obtain⟨p1,p2⟩:=vV (P:=P) (w:=w) (if MN then .sliceAcap else .sliceAlen) h1 hc r
  cases nq with
  |none=>simp only[tz,Option.some.injEq]at h2;subst h2;exact⟨by simp[p1],p2,Nat.zero_le _⟩
  |some s v r=>
   obtain⟨q1,q2⟩:=vV (P:=P) (w:=w) .sliceB h2 (Nat.le_refl _) r
   exact⟨by simp[p1,q1],p2,q2⟩
theorem CV{n cap:Nat}(hc:n≤cap){lo:Option SV}{hi mx:SV}{zp:Option Value}{zq MO:Value}{St:Nat→Nat→Prop}{base:Nat}(nq:wF w St base lo zp)
  (po:aG w St base (fun _ _ _=>False) hi zq)(rW:aG w St base (fun _ _ _=>False) mx MO)
  {hh mm ll:Nat}(h0:eh mx (n+1)=some mm)(h1:eh hi (n+1)=some hh)(he:hh=mm)(h2:tz hh lo=some ll):
  (Instr.sliceBounds true n cap zp (some zq) (some MO)).run P w=.ok (ll,hh,hh) w∧hh≤n∧ll≤hh:=by
 unfold Instr.sliceBounds
 subst he
 obtain⟨o1,o2⟩:=vV (P:=P) (w:=w) .slice3Acap h0 hc rW
 have rY:eh hi (hh+1)=some hh:=by
  obtain⟨kk,ii,rfl,a1,a2,a3⟩:=pP h1
  simp only[eh]
  rw[if_pos (by omega),←a3]
 obtain⟨p1,_⟩:=vV (P:=P) (w:=w) .slice3B rY (Nat.le_refl _) po
 cases nq with
 |none=>simp only[tz,Option.some.injEq]at h2;subst h2;exact⟨by simp[o1,p1],o2,Nat.zero_le _⟩
 |some s v r=>
  obtain⟨q1,q2⟩:=vV (P:=P) (w:=w) .slice3C h2 (Nat.le_refl _) r
  exact⟨by simp[o1,p1,q1],o2,q2⟩
theorem Iv{L:List D}{lo hi:Option SV}{r:List D}(h:EH L lo hi=some r):∃hh ll,wZ L.length hi=some hh∧
  tz hh lo=some ll∧r=(L.take hh).drop ll:=by
 unfold EH at h
 split at h
 ·rename_i hh h1
  split at h
  ·rename_i ll h2
   cases h
   exact⟨hh,ll,h1,h2,rfl⟩
  ·cases h
 ·cases h
theorem KB{St:Nat→Nat→Prop}{sz:Nat}{L:List D}{b off cap hh ll c':Nat}(h:aK w St (.sl .ro sz L) (.slice (some ⟨b,off,none⟩) L.length cap))(XX:hh≤L.length)(hl:ll≤hh)(hc:hh-ll≤c'):
  aK w St (.sl .ro sz ((L.take hh).drop ll)) (.slice (some ⟨b,off+ll*sz,none⟩) (hh-ll) c'):=by
 cases h with
 |iU _ _ _ ha=>exact absurd rfl ha
 |sl _ _ _ _ _ vs bq hm aB hf aN hc=>
  have hlen:((L.take hh).drop ll).length =hh-ll:=by simp;omega
  have:=aK.sl (w:=w) (St:=St) sz ((L.take hh).drop ll) b (off+ll*sz) c' (fun o=>vs (ll*sz+o)) (by omega) (by omega)
   (fun x hx=>aB x (List.mem_of_mem_take (List.mem_of_mem_drop hx))) (fun x hx=>hf x (List.mem_of_mem_take (List.mem_of_mem_drop hx)))
   (fun o ho=>by
     rw[hlen]at ho
     rw[Nat.add_assoc]
     refine aN (ll*sz+o) ?_
     have:ll*sz+(hh-ll)*sz=hh*sz:=by rw[←Nat.add_mul];congr 1;omega
     have:hh*sz≤L.length*sz:=Nat.mul_le_mul_right _ XX
     omega)
   (fun i x j c hx ib=>by
     rw[List.getElem?_drop,List.getElem?_take]at hx
     split at hx
     ·have:=hc (ll+i) x j c hx ib
      rw[Nat.add_mul,Nat.add_assoc]at this
      exact this
     ·cases hx)
  rw[hlen]at this
  exact this
theorem PN(hI:Inv gl w0 an e a w g){o:Oper}{t:TypeId}{x:Operand}{lo hi mx:Option Operand}(ho:o.op=.slice t x lo hi mx){k:Slot→List af→Prop}
  (h:ab (A8 P t (Ab.aa ((Ab.aJ gl e x).aa).aT) (Ab.kV (fun x=>(Ab.aJ gl e x).aa) lo) (Ab.kV (fun x=>(Ab.aJ gl e x).aa) hi) (Ab.kV (fun x=>(Ab.aJ gl e x).aa) mx)) fun r=>k (.v r) e.boxes):
  aV P gl w0 an e.ai o a w k:=by
 obtain⟨r,hr,hk⟩:=az h
 clear h
 have hx:=(hI.gk x).aa (O':=fun _ _ _=>False)
 have nq:=hI.opt lo
 have po:=hI.opt hi
 have rW:=hI.opt mx
 generalize Ab.aa ((Ab.aJ gl e x).aa).aT =sx at hr hx
 generalize Ab.kV (fun x=>(Ab.aJ gl e x).aa) lo=Z9 at hr nq
 generalize Ab.kV (fun x=>(Ab.aJ gl e x).aa) hi=shi at hr po
 generalize Ab.kV (fun x=>(Ab.aJ gl e x).aa) mx=smx at hr rW
 unfold A8 at hr
 split at hr
 ·
  rename_i hu
  split at hr
  ·rename_i s
   split at hr
   ·rename_i l hl
    cases hr
    obtain⟨bs,hv,hs,kn⟩:=hx.data.qX
    unfold K8 at hl
    split at hl
    ·rename_i hh h1
     split at hl
     ·rename_i ll h2
      cases hl
      have jL:s.length=bs.size:=by rw[hs,Array.length_toList];rfl
      rw[jL]at h1
      have hb:=Ah (P:=P) (w:=w) false (Nat.le_refl bs.size) nq po h1 h2
      have e2:mx.map a.eval=none:=by generalize mx.map a.eval=q at rW;cases rW;rfl
      refine aV.ea hI (v:=.string (bs.extract ll hh)) ?_ (.d _ _ _ ?_) hk
      ·simp[execOp,ho,Instr.sliceAt,run_underlying hu,Instr.slice,hv,hb.1,e2]
      ·have:(bs.extract ll hh).data.toList =(s.take hh).drop ll:=by
        rw[hs,ByteArray.data_extract,Array.toList_extract,List.extract_eq_drop_take']
       rw[←this]
       refine .str _ ?_
       have:(bs.extract ll hh).size ≤bs.size:=by rw[ByteArray.size_extract];omega
       omega
     ·cases hl
    ·cases hl
   ·cases hr
  ·cases hr
 ·
  rename_i e' hu
  split at hr
  ·rename_i kk sz L s hL hs
   have hd:=hx.cg hL
   split at hr
   ·
    rename_i rr yL
    obtain⟨hh,ll,h1,h2,rfl⟩:=Iv yL
    have e2:mx.map a.eval=none:=by generalize mx.map a.eval=q at rW;cases rW;rfl
    split at hr
    ·cases hr
     generalize hv:a.eval x=u at hd
     cases hd
     have hb:=Ah (P:=P) (w:=w) true (Nat.le_refl 0) nq po h1 h2
     have vb:ll=0:=by have:=hb.2;simp at this;omega
     have tK:hh=0:=by have:=hb.2;simp at this;omega
     subst vb tK
     refine aV.ea hI (v:=.slice none 0 0) ?_ (.d _ _ _ (.iT _)) hk
     simp[execOp,ho,Instr.sliceAt,run_underlying hu,Instr.slice,hv,hb.1,e2,jh hs]
    ·split at hr
     ·rename_i aB
      cases hr
      subst aB
      generalize hv:a.eval x=u at hd
      have ic:=hd
      cases hd with
      |iU _ ad cap ha=>
       have hb:=Ah (P:=P) (w:=w) true (Nat.zero_le cap) nq po h1 h2
       have vb:ll=0:=by have:=hb.2;simp at this;omega
       have tK:hh=0:=by have:=hb.2;simp at this;omega
       subst vb tK
       refine aV.ea hI (v:=.slice (some ad) 0 cap) ?_ (.d _ _ _ (.iU _ ad cap ha)) hk
       simp only[execOp,ho,Instr.sliceAt,Sem.run_bind,run_underlying hu,Result.andThen_ok,Instr.slice,hv,e2,hb.1,jh hs]
       by_cases cz:cap=0
       ·simp[cz]
       ·simp[cz]
        rfl
      |sl _ _ b off cap vs bq hm _ hf aN hc=>
       have hb:=Ah (P:=P) (w:=w) true bq nq po h1 h2
       refine aV.ea hI (v:=.slice (some (if cap=ll then⟨b,off,none⟩else⟨b,off+ll*sz,none⟩)) (hh-ll) (cap-ll)) ?_ (.d _ _ _ ?_) hk
       ·have:=mw b off (ll*sz)
        simp only[execOp,ho,Instr.sliceAt,Sem.run_bind,run_underlying hu,Result.andThen_ok,Instr.slice,hv,e2,hb.1,jh hs]
        by_cases cz:cap=ll
        ·simp[cz]
        ·simp[cz,this]
       ·by_cases cz:cap=ll
        ·have XY:hh=ll:=by omega
         have MP:ll=L.length:=by omega
         simp only[cz,↓reduceIte]
         have e0:(L.take hh).drop ll=[]:=List.drop_eq_nil_of_le (by simp;omega)
         rw[e0]
         have:=aK.sl (w:=w) (St:=g.St) sz [] b off (ll-ll) vs (by simp) (by simp) (by simp) (by simp) (by simp) (by simp)
         simpa[XY]using this
        ·simp only[cz,↓reduceIte]
         exact KB ic hb.2.1 hb.2.2 (by omega)
     ·cases hr
   ·
    rename_i rr m yL
    obtain⟨hh,ll,h1,h2,rfl⟩:=Iv yL
    split at hr
    ·rename_i F5 mm vc
     split at hr
     ·rename_i k1 av k2 bv
      split at hr
      ·rename_i qD
       simp only[wZ]at h1
       have F6:hh=mm:=by
        obtain⟨_,i1,q1,_,_,q2⟩:=pP h1
        obtain⟨_,i2,q3,_,_,q4⟩:=pP vc
        cases q1;cases q3;rw[q2,q4,qD]
       generalize B5:hi.map a.eval=qh at po
       generalize B6:mx.map a.eval=qm at rW
       cases po with
       |some _ vh rh=>
        cases rW with
        |some _ vm rm=>
         split at hr
         ·cases hr
          generalize hv:a.eval x=u at hd
          cases hd
          have hb:=CV (P:=P) (w:=w) (Nat.le_refl 0) nq rh rm vc h1 F6 h2
          have vb:ll=0:=by have:=hb.2;simp at this;omega
          have tK:hh=0:=by have:=hb.2;simp at this;omega
          subst vb tK
          refine aV.ea hI (v:=.slice none 0 0) ?_ (.d _ _ _ (.iT _)) hk
          simp[execOp,ho,Instr.sliceAt,run_underlying hu,Instr.slice,hv,hb.1,B5,B6,jh hs]
         ·split at hr
          ·rename_i aB
           cases hr
           subst aB
           generalize hv:a.eval x=u at hd
           have ic:=hd
           cases hd with
           |iU _ ad cap ha=>
            have hb:=CV (P:=P) (w:=w) (Nat.zero_le cap) nq rh rm vc h1 F6 h2
            have vb:ll=0:=by have:=hb.2;simp at this;omega
            have tK:hh=0:=by have:=hb.2;simp at this;omega
            subst vb tK
            refine aV.ea hI (v:=.slice (some ad) 0 0) ?_ ?_ hk
            ·simp[execOp,ho,Instr.sliceAt,run_underlying hu,Instr.slice,hv,hb.1,B5,B6,jh hs]
            ·exact .full _ sz [] ad (.iU sz ad 0 ha)
           |sl _ _ b off cap vs bq hm _ hf aN hc=>
            have hb:=CV (P:=P) (w:=w) bq nq rh rm vc h1 F6 h2
            have hlen:((L.take hh).drop ll).length =hh-ll:=by simp;omega
            by_cases cz:hh=ll
            ·subst cz
             have e0:(L.take hh).drop hh=[]:=List.drop_eq_nil_of_le (by simp;omega)
             rw[e0]at hk
             refine aV.ea hI (v:=.slice (some ⟨b,off,none⟩) 0 0) ?_ ?_ hk
             ·simp[execOp,ho,Instr.sliceAt,run_underlying hu,Instr.slice,hv,hb.1,B5,B6,jh hs]
             ·exact .full _ sz [] ⟨b,off,none⟩ (aK.sl sz [] b off 0 vs (by simp) (by simp) (by simp) (by simp) (by simp) (by simp))
            ·refine aV.ea hI (v:=.slice (some ⟨b,off+ll*sz,none⟩) (hh-ll) (hh-ll)) ?_ ?_ hk
             ·have:=mw b off (ll*sz)
              simp[execOp,ho,Instr.sliceAt,run_underlying hu,Instr.slice,hv,hb.1,B5,B6,jh hs,cz,this]
             ·have:=KB (c':=hh-ll) ic hb.2.1 hb.2.2 (Nat.le_refl _)
              rw[←hlen]at this ⊢
              exact .full _ sz _ _ this
          ·cases hr
      ·cases hr
     ·cases hr
    ·cases hr
   ·cases hr
  ·cases hr
 ·cases hr
end
end Go.Proofs.Ytaknajjmldngiaa.Ab
namespace Go.Proofs.Ytaknajjmldngiaa.Ab
open Go Go.RowKit
section
variable{P:Program}{gl:Nat→Option D}{w0:World}{an:S0}{e:Env}{a:Act}{w:World}{g:Gh}
theorem Rr(hI:Inv gl w0 an e a w g){o:Oper}{c:Call}(ho:o.op=.call c)(hc:c.callee=.builtin .len){x:Operand}{xs:List Operand}{t:TypeId}{ts:List TypeId}
  (hx:c.args.toList=x::xs)(ht:c.argTypes.toList=t::ts){k:Slot→List af→Prop}(h:ab (BK P t ((Ab.aJ gl e x).aa).aT) fun r=>k (.v r) e.boxes):aV P gl w0 an e.ai o a w k:=by
 obtain⟨r,hr,hk⟩:=az h
 have cB:=hI.gk x
 generalize ((Ab.aJ gl e x).aa).aT =sx at hr cB
 have h0:c.args[0]? =some x:=by rw[←Array.getElem?_toList,hx];rfl
 have h1:c.argTypes[0]? =some t:=by rw[←Array.getElem?_toList,ht];rfl
 have aU:∀v,(Builtin.len_ c.argTypes o.type (c.args.map a.eval)).run P w=.ok v w→(execOp a.eval o).run P w=.ok (.value v) w:=by
  intro v hv
  simp[execOp,ho,resolve,hc,invoke,builtin,hv]
 unfold BK at hr
 split at hr
 ·rename_i hu
  split at hr
  ·rename_i s
   cases hr
   obtain⟨bs,hv,hs,hm⟩:=cB.data.qX
   refine aV.ea hI (v:=.int .i64 bs.size) (aU _ ?_) (.d _ _ _ ?_) hk
   ·simp[Builtin.len_,h0,h1,run_underlying hu,hv,goInt]
   ·have:(bs.size:Int)=(s.length:Int):=by rw[hs,Array.length_toList];rfl
    rw[this]
    refine .int _ _ ?_
    have:s.length=bs.size:=by rw[hs,Array.length_toList];rfl
    simp only[maxLen]at hm
    simp[fg,IntKind.min,IntKind.max,IntKind.signed,IntKind.bits]
    omega
  ·cases hr
 ·rename_i n e' hu
  cases hb:Nat.ble n maxLen with
  |false=>rw[hb]at hr;cases hr
  |true=>
   rw[hb]at hr
   cases hr
   have hm:=Nat.le_of_ble_eq_true hb
   refine aV.ea hI (v:=.int .i64 n) (aU _ ?_) (.d _ _ _ (.int _ _ ?_)) hk
   ·simp[Builtin.len_,h0,h1,run_underlying hu,goInt]
   ·simp only[maxLen]at hm
    simp[fg,IntKind.min,IntKind.max,IntKind.signed,IntKind.bits]
    omega
 ·rename_i e' hu
  split at hr
  ·rename_i n s cs
   cases hr
   generalize hv:a.eval x=u at cB
   cases cB with
   |ev _ _ _ _ b cap vs cD hn hm aN hc=>
    refine aV.ea hI (v:=.int .i64 n) (aU _ ?_) (.d _ _ _ (.int _ _ ?_)) hk
    ·simp[Builtin.len_,h0,h1,run_underlying hu,hv,goInt]
    ·simp only[maxLen]at hm
     simp[fg,IntKind.min,IntKind.max,IntKind.signed,IntKind.bits]
     omega
  split at hr
  ·rename_i L hL
   cases hr
   have key:∃ad cap,a.eval x=.slice ad L.length cap∧L.length≤maxLen:=by
    have go:∀{s L' v},aK w g.St (.sl .ro s L') v→∃ad cap,v=.slice ad L'.length cap∧L'.length≤maxLen:=by
     intro s L' v hd
     cases hd with
     |sl _ _ b off cap vs bq hm aB hf aN hc=>exact⟨_,_,rfl,hm⟩
     |iU _ ad c _=>exact⟨_,_,rfl,by simp⟩
    unfold x4 at hL
    split at hL
    ·rename_i k' s' L' _
     cases hL
     have hd:=cB.data
     cases k'
     ·generalize a.eval x=u at hd;cases hd;exact⟨_,_,rfl,by simp⟩
     ·exact go hd
    ·cases hL
     generalize a.eval x=u at cB
     cases cB with
     |own _ _ _ gg cap hd bq ho=>exact go hd
    ·cases hL
     generalize a.eval x=u at cB
     cases cB with
     |full _ _ _ ad hd=>exact go hd
    ·cases hL
   obtain⟨ad,cap,hv,hm⟩:=key
   refine aV.ea hI (v:=.int .i64 L.length) (aU _ ?_) (.d _ _ _ (.int _ _ ?_)) hk
   ·simp[Builtin.len_,h0,h1,run_underlying hu,hv,goInt]
   ·simp only[maxLen]at hm
    simp[fg,IntKind.min,IntKind.max,IntKind.signed,IntKind.bits]
    omega
  ·cases hr
 ·cases hr
theorem HL(off:Nat):∀(l:List Value)(k:Nat)(cells:Array Value)(i:Nat),off+k+l.length≤cells.size→
  ((l.zipIdx k).foldl (fun cs(c,j)=>cs.setIfInBounds (off+j) c) cells).size =cells.size∧
  ((l.zipIdx k).foldl (fun cs(c,j)=>cs.setIfInBounds (off+j) c) cells)[i]? =if off+k≤i∧i<off+k+l.length then l[i-(off+k)]? else cells[i]?
 |[],k,cells,i,_=>by
  refine⟨rfl,?_⟩
  rw[if_neg (by simp;try omega)]
  simp
 |v::l,k,cells,i,h=>by
  simp only[List.length_cons]at h
  simp only[List.zipIdx_cons,List.foldl_cons]
  obtain⟨h1,h2⟩:=HL off l (k+1) (cells.setIfInBounds (off+k) v) i (by simp;omega)
  refine⟨by rw[h1];simp,?_⟩
  rw[h2]
  by_cases hi:i=off+k
  ·subst hi
   rw[if_neg (by omega),if_pos (by simp)]
   simp only[Nat.sub_self,List.getElem?_cons_zero]
   rw[Array.getElem?_setIfInBounds_self]
   rw[if_pos (by omega)]
  ·by_cases hr:off+(k+1)≤i∧i<off+(k+1)+l.length
   ·rw[if_pos hr,if_pos (by simp;omega)]
    have:i-(off+k)=(i-(off+(k+1)))+1:=by omega
    rw[this,List.getElem?_cons_succ]
   ·rw[if_neg hr,if_neg (by simp;omega),Array.getElem?_setIfInBounds_ne (by omega)]
def DK(w:World)(St:Nat→Nat→Prop):List (Nat×D)→List (Nat×Value)→Prop
 |[],[]=>True
 |(i,d)::l,(j,v)::m=>i=j∧aK w St d v∧DK w St l m
 |_,_=>False
theorem aK.Qt{St:Nat→Nat→Prop}{d:D}{v:Value}(r:aK w St d v):jF w St d.cells v.cells:=by
 by_cases h:d.one=true
 ·have h1:=r.pX h
  have hc:d.cells=[d]:=by cases d<;>first|rfl|simp[D.one]at h
  have hv:v.cells= #[v]:=by cases v<;>first|rfl|simp[Value.oneCell']at h1
  rw[hc,hv]
  refine⟨rfl,fun i x y hx hy=>?_⟩
  cases i with
  |zero=>simp at hx hy;subst hx hy;exact r
  |succ i=>simp at hx
 ·cases d<;>simp only[D.one,not_true_eq_false]at h
  obtain⟨vs,rfl,hr,_⟩:=r.qY
  exact hr
theorem DL{St:Nat→Nat→Prop}(place:Nat→Option (Nat×Nat)):∀(ps:List (Nat×D))(qs:List (Nat×Value))(cs:List D)(cells:Array Value)(r:List D),
  DK w St ps qs→jF w St cs cells→(∀d∈cs,d.one=true)→oP place cs ps=some r→
  ∃r',Instr.fill place cells qs=some r'∧jF w St r r'∧∀d∈r,d.one=true
 |[],[],cs,cells,r,_,hc,hf,h=>by
  simp only[oP,Option.some.injEq]at h
  subst h
  exact⟨cells,rfl,hc,hf⟩
 |(i,d)::ps,(j,v)::qs,cs,cells,r,hp,hc,hf,h=>by
  obtain⟨rfl,hd,hp⟩:=hp
  simp only[oP]at h
  split at h
  ·cases h
  ·rename_i off sz iE
   split at h
   ·rename_i wO
    have MQ:=hd.Qt
    have aB:v.cells.size=sz:=by rw[←MQ.1];exact wO.1
    have hle:off+sz≤cells.size:=by rw[←hc.1];exact wO.2
    have hg:=fun i=>HL off v.cells.toList 0 cells i (by simp[aB];omega)
    simp only[Nat.add_zero,Array.length_toList,aB]at hg
    have Vy:v.cells.zipIdx.foldl (fun cs(c,j)=>cs.setIfInBounds (off+j) c) cells=(v.cells.toList.zipIdx.foldl (fun cs(c,j)=>cs.setIfInBounds (off+j) c) cells):=by
     rw[←Array.foldl_toList,Array.toList_zipIdx]
    obtain⟨r',h1,h2,h3⟩:=DL place ps qs _ (v.cells.zipIdx.foldl (fun cs(c,j)=>cs.setIfInBounds (off+j) c) cells) r hp (by
     rw[Vy]
     constructor
     ·rw[(hg 0).1,←hc.1];simp[wO.1];omega
     ·intro i x y hx hy
      rw[(hg i).2]at hy
      have:=qP cs d.cells off (by rw[wO.1];exact wO.2) i
      rw[wO.1]at this
      rw[this]at hx
      split at hx
      ·rename_i h1
       rw[if_neg (by omega)]at hy
       exact hc.2 i x y hx hy
      ·rename_i h1
       split at hx
       ·rename_i h2
        rw[if_pos (by omega)]at hy
        rw[Array.getElem?_toList]at hy
        exact MQ.2 _ x y hx hy
       ·rename_i h2
        rw[if_neg (by omega)]at hy
        exact hc.2 i x y hx hy) (by
     intro x hx
     simp only[List.mem_append]at hx
     rcases hx with(hx|hx)|hx
     ·exact hf x (List.mem_of_mem_take hx)
     ·exact hd.Ja x hx
     ·exact hf x (List.mem_of_mem_drop hx)) h
    refine⟨r',?_,h2,h3⟩
    rw[Instr.fill]
    simp only[iE,aB]
    rw[if_neg (by simp;omega)]
    exact h1
   ·cases h
 |[],_::_,_,_,_,h,_,_,_=>h.elim
 |_::_,[],_,_,_,h,_,_,_=>h.elim
theorem C7(hI:Inv gl w0 an e a w g):∀{ps:List (Nat×Operand)}{l:List (Nat×D)},kh (fun x=>(Ab.aJ gl e x).aa) ps=some l→DK w g.St l (ps.map fun(i,x)=>(i,a.eval x))
 |[],l,h=>by simp only[kh,Option.some.injEq]at h;subst h;trivial
 |(i,x)::ps,l,h=>by
  simp only[kh]at h
  split at h
  ·rename_i y hy
   split at h
   ·rename_i z hz
    split at h
    ·rename_i r hr
     cases h
     exact⟨rfl,(hI.n8 hy).cg hz,C7 hI hr⟩
    ·cases h
   ·cases h
  ·cases h
theorem Ic:∀{fs:List Field}{l:List (Nat×Nat)},ye P fs=some l→(fs.mapM (m:=Sem) fun f=>do pure (f.offset,←sizeOf f.type)).run P w=.ok l w
 |[],l,h=>by simp only[ye,Option.some.injEq]at h;subst h;rfl
 |f::fs,l,h=>by
  simp only[ye]at h
  split at h
  ·rename_i s hs
   split at h
   ·rename_i r hr
    cases h
    simp only[List.mapM_cons,Sem.run_bind,jh hs,Result.andThen_ok,Sem.run_pure,Ic hr]
   ·cases h
  ·cases h
theorem PO(hI:Inv gl w0 an e a w g){o:Oper}{t:TypeId}{ps:Array (Nat×Operand)}(ho:o.op=.build t ps){k:Slot→List af→Prop}
  (h:ab (kh (fun x=>(Ab.aJ gl e x).aa) ps.toList) fun l=>ab (bY P t l) fun r=>k (.v (.d r)) e.boxes):aV P gl w0 an e.ai o a w k:=by
 obtain⟨l,hl,h⟩:=az h
 obtain⟨r,hr,hk⟩:=az h
 have hp:=C7 hI hl
 unfold bY at hr
 split at hr
 ·rename_i z hz
  split at hr
  ·rename_i pl iE
   split at hr
   ·rename_i cs bw
    cases hr
    obtain⟨zv,kY,zr,yu,EK⟩:=CM hz
    obtain⟨r',h1,h2,h3⟩:=DL (w:=w) (St:=g.St) pl l _ z zv.cells cs hp ⟨zr,fun i x v=>EK w g.St i x v⟩ yu bw
    refine aV.ea hI (v:=.agg r') ?_ (.d _ _ _ (h2.agg h3)) hk
    have yk:(ps.map fun(i,x)=>(i,a.eval x)).toList =ps.toList.map fun(i,x)=>(i,a.eval x):=by simp
    unfold H8 at iE
    split at iE
    ·rename_i fs hu
     split at iE
     ·rename_i ll MP
      cases iE
      have hm:(fs.mapM (m:=Sem) fun f=>do pure (f.offset,←sizeOf f.type)).run P w=.ok ll.toArray w:=by
       have e1:fs=fs.toList.toArray:=by simp
       rw[e1,List.mapM_toArray,Sem.run_map,Ic MP]
       rfl
      simp only[execOp,ho,Sem.run_bind,Instr.build,kY,Result.andThen_ok,run_underlying hu,hm]
      rw[yk]
      have:(fun x:Nat=>ll.toArray[x]?)=fun i=>ll[i]? :=by funext i;simp
      rw[this,h1]
      rfl
     ·cases iE
    ·rename_i n e' hu
     split at iE
     ·rename_i s hs
      cases iE
      simp only[execOp,ho,Sem.run_bind,Instr.build,kY,Result.andThen_ok,run_underlying hu,jh hs]
      rw[yk,h1]
      rfl
     ·cases iE
    ·cases iE
   ·cases hr
  ·cases hr
 ·cases hr
theorem Ie(sz n:Nat):∀(l:List (Nat×D))(cs:List D),cs.length=n*sz→bO sz n l=true→
  ∃r,oP (fun i=>some (i*sz,sz)) cs l=some r∧r.length=n*sz∧∀i j,i<n→j<sz→r[i*sz+j]? =(match nK i l with|some x=>x.cells[j]? |none=>cs[i*sz+j]?)
 |[],cs,h,_=>⟨cs,rfl,h,fun i j _ _=>rfl⟩
 |(i0,d)::l,cs,h,hp=>by
  simp only[bO,Bool.and_eq_true]at hp
  obtain⟨⟨h1,h2⟩,h3⟩:=hp
  have vd:i0<n:=Nat.lt_of_succ_le (Nat.le_of_ble_eq_true h1)
  have hd:=Nat.eq_of_beq_eq_true h2
  have hle:i0*sz+sz≤n*sz:=by
   have:(i0+1)*sz≤n*sz:=Nat.mul_le_mul_right _ vd
   rw[Nat.succ_mul]at this;exact this
  obtain⟨r,q1,q2,q3⟩:=Ie sz n l (cs.take (i0*sz)++d.cells++cs.drop (i0*sz+sz)) (by rw[List.length_append,List.length_append,List.length_take,List.length_drop,hd,h];omega) h3
  refine⟨r,?_,q2,fun i j hi hj=>?_⟩
  ·simp only[oP]
   rw[if_pos ⟨hd,by rw[h];exact hle⟩]
   exact q1
  ·rw[q3 i j hi hj]
   cases zt:nK i l with
   |some y=>simp only[nK,zt]
   |none=>
    simp only[nK,zt]
    have:=qP cs d.cells (i0*sz) (by rw[hd,h];exact hle) (i*sz+j)
    rw[hd]at this
    rw[this]
    cases hb:i==i0 with
    |true=>
     have:i=i0:=by simpa using hb
     subst this
     rw[if_neg (by omega),if_pos (by omega)]
     simp
    |false=>
     have bm:i≠i0:=by simpa using hb
     simp only[cond_false]
     rcases Nat.lt_or_ge i i0 with aS|kB
     ·have:(i+1)*sz≤i0*sz:=Nat.mul_le_mul_right _ aS
      rw[Nat.succ_mul]at this
      rw[if_pos (by omega)]
     ·have:(i0+1)*sz≤i*sz:=Nat.mul_le_mul_right _ (by omega)
      rw[Nat.succ_mul]at this
      rw[if_neg (by omega),if_neg (by omega)]
theorem CI(zero:D)(l:List (Nat×D)):∀(n s i:Nat),(bL zero l n s).length =n∧(i<n→(bL zero l n s)[i]? =some (match nK (s+i) l with|some x=>x|none=>zero))
 |0,s,i=>⟨rfl,fun h=>by omega⟩
 |n+1,s,i=>by
  refine⟨by simp[bL,(CI zero l n (s+1) 0).1],fun h=>?_⟩
  cases i with
  |zero=>rfl
  |succ i=>
   have:=(CI zero l n (s+1) i).2 (by omega)
   simp only[bL,List.getElem?_cons_succ]
   rw[this]
   have:s+1+i=s+(i+1):=by omega
   rw[this]
theorem aV.SG(hI:Inv gl w0 an e a w g){o:Oper}{cells:Array Value}{t:TypeId}{s:SV}{v:Value}{k:Slot→List af→Prop}
  (aU:(execOp a.eval o).run P w=.ok (.value v) (w.alloc (.cells cells t)))
  (rep:∀(g':Gh),(∀o,g'.St w.heap.size o)→Ext w0.heap.size w g (w.alloc (.cells cells t)) g' (fun _=>False)→aG (w.alloc (.cells cells t)) g'.St w0.heap.size (fun _ _ _=>False) s v)
  (hk:k (.v s) e.boxes):aV P gl w0 an e.ai o a w k:=by
 intro next Q hn
 unfold Oper.wp
 rw[aU]
 have hle:w0.heap.size≤w.heap.size:=hI.below.size
 have hX:Ext w0.heap.size w g (w.alloc (.cells cells t)) {g with St:=fun b o=>g.St b o∨b=w.heap.size} (fun _=>False):=by
  refine⟨fun D o hb ho h=>⟨(iu w _ D (fo h)).trans h,hb,ho,fun x hx=>hx.elim id fun e=>(by have:=fo h;omega)⟩,fun b o h=>⟨.inl h,.pS (iu w _ b (hI.mJ h))⟩,fun b o h=>CF w _ b o (by omega),fun i aj h=>h,fun p b a c _ ho=>?_,.of fun b hb=>iu w _ b hb⟩
  have aS:=ho.lt
  obtain⟨h1,h2,h3,⟨cur,ty,h4,kz⟩,h5⟩:=ho
  exact⟨⟨h1,h2,h3,⟨cur,ty,(iu w _ b aS).trans h4,kz⟩,fun o ho=>by rintro(h|h);exact h5 o ho h;omega⟩,fun _=>iu w _ b aS⟩
 have hr:=rep {g with St:=fun b o=>g.St b o∨b=w.heap.size} (fun _=>Or.inr rfl) hX
 refine hn (.v s) _ _ _ {g with St:=fun b o=>g.St b o∨b=w.heap.size} (hI.Bz (g':={g with St:=fun b o=>g.St b o∨b=w.heap.size})
  ⟨hX.df,hX.st,hX.bs,hX.bx,fun p b a c _ ho=>hX.own p b a c (fun h=>h) ho,hX.sh⟩ ((Below.refl _ _).alloc (Nat.le_refl _) _) (fun d _=>?_) rfl (fun b o h=>?_)) hk
 ·exact .v _ _ _ (hr.mono (fun _ _ h=>⟨h,.refl _ _ _⟩) (fun _ _ _=>rfl) _ (fun _ _ _ h=>h.elim))
 ·have hs:=xS w (.cells cells t)
  rcases h with h|h
  ·exact .inl h
  ·right;omega
theorem HW{b:Bool}{z:List D}(hf:∀d∈z,d.one=true)(h1:b=false→z.length=1):(bN b z).cells =z:=by
 unfold bN
 cases b
 ·obtain⟨x,rfl⟩:=List.length_eq_one_iff.1 (h1 rfl)
  have:=hf x (by simp)
  cases x<;>first|rfl|simp[D.one]at this
 ·rfl
theorem C8{t e':TypeId}(h:ke P t=some e'):P.underlying t=some (.slice e'):=by
 unfold ke at h
 split at h
 ·rename_i gO hu;cases h;exact hu
 ·cases h
theorem HA(hI:Inv gl w0 an e a w g){o:Oper}{t:TypeId}{n:Nat}{ps:Array (Nat×Operand)}(ho:o.op=.buildSlice t n ps){K:Nat→List D→Prop}
  (h:ab (ke P t) fun e'=>ab (fH P e') fun ly=>ab (jB P e') fun z=>ab (kh (fun x=>(Ab.aJ gl e x).aa) ps.toList) fun l=>
    bif Nat.ble (n*ly.2) (2^24)&&Nat.blt 0 ly.2&&Nat.beq z.length ly.2 then(bO ly.2 n l=true∧K ly.2 (bL (bN ly.1 z) l n 0))else False):
  ∃(r':Array Value) (e':TypeId) (sz:Nat) (L:List D),K sz L∧(execOp a.eval o).run P w=.ok (.value (.slice (some ⟨w.heap.size,0,none⟩) L.length L.length)) (w.alloc (.cells r' e'))∧r'.size=L.length*sz∧
   L.length≤maxLen∧(∀x∈L,x.cells.length=sz∧∀c∈x.cells,c.one=true)∧∀(i:Nat)x(j:Nat)c,L[i]? =some x→x.cells[j]? =some c→i*sz+j<r'.size∧aK w g.St c (r'.getD (i*sz+j) undef):=by
 obtain⟨e',he,h⟩:=az h
 obtain⟨⟨b,sz⟩,hl,h⟩:=az h
 obtain⟨z,hz,h⟩:=az h
 obtain⟨l,hp,h⟩:=az h
 cases hc:(Nat.ble (n*sz) (2^24)&&Nat.blt 0 sz&&Nat.beq z.length sz)with
 |false=>simp only[hc,cond_false]at h
 |true=>
  simp only[hc,cond_true]at h
  simp only[Bool.and_eq_true]at hc
  obtain⟨⟨MM,XZ⟩,X0⟩:=hc
  obtain⟨mK,hk⟩:=h
  have hlen:=Nat.eq_of_beq_eq_true X0
  have h24:=Nat.le_of_ble_eq_true MM
  have w7:0<sz:=Nat.lt_of_succ_le (Nat.le_of_ble_eq_true XZ)
  have hu:=C8 he
  obtain⟨hb,hn,bz⟩:=AQ hl
  obtain⟨zv,kY,zr,yu,EK⟩:=CM hz
  have ym:=C7 hI hp
  have fA:zv.cells.size=sz:=by rw[←zr,hlen]
  have MR:jF w g.St ((List.range (n*sz)).map fun i=>z.getD (i % sz) .mA) ((Array.range (n*sz)).map (zv.cells[· % zv.cells.size]!))∧
    ∀d∈((List.range (n*sz)).map fun i=>z.getD (i % sz) .mA),d.one=true:=by
   have hm:∀i,i % sz<z.length:=fun i=>by rw[hlen];exact Nat.mod_lt _ w7
   constructor
   ·refine⟨by simp,fun i x v hx hv=>?_⟩
    simp only[List.getElem?_map,Option.map_eq_some_iff]at hx
    obtain⟨j,hj,rfl⟩:=hx
    have hi:i<n*sz:=by have:=(List.getElem?_eq_some_iff.1 hj).1;simpa using this
    rw[List.getElem?_range hi]at hj
    cases hj
    have B7:=hm i
    have B8:i % sz<zv.cells.size:=by rw[fA];exact Nat.mod_lt _ w7
    simp[hi,fA]at hv
    rw[getElem!_pos zv.cells (i % sz) B8]at hv
    subst hv
    refine EK w g.St (i % sz) _ _ ?_ (Array.getElem?_eq_getElem B8)
    rw[List.getD_eq_getElem?_getD,List.getElem?_eq_getElem B7];rfl
   ·intro d hd
    simp only[List.mem_map,List.mem_range]at hd
    obtain⟨i,hi,rfl⟩:=hd
    have B7:=hm i
    rw[List.getD_eq_getElem?_getD,List.getElem?_eq_getElem B7]
    exact yu _ (List.getElem_mem B7)
  obtain⟨r,q1,q2,q3⟩:=Ie sz n l ((List.range (n*sz)).map fun i=>z.getD (i % sz) .mA) (by simp) mK
  obtain⟨r',f1,f2,f3⟩:=DL (w:=w) (St:=g.St) _ l _ _ _ r ym MR.1 MR.2 q1
  have yk:(ps.map fun(i,x)=>(i,a.eval x)).toList =ps.toList.map fun(i,x)=>(i,a.eval x):=by simp
  have Ma:r'.size=n*sz:=by rw[←f2.1,q2]
  have hL:=CI (bN b z) l n 0
  have yv:=(hL 0).1
  have X1:∀i x,nK i l=some x→x.cells.length=sz∧∀c∈x.cells,c.one=true:=by
   intro i x hx
   clear hL yv q1 q2 q3 f1 f2 f3 hp hk
   revert mK ym
   generalize (ps.toList.map fun(i,x)=>(i,a.eval x))=qs
   intro mK ym
   induction l generalizing qs with
   |nil=>simp[nK]at hx
   |cons p l ih=>
    obtain⟨j,d⟩:=p
    cases qs with
    |nil=>exact ym.elim
    |cons q qs=>
     obtain⟨j',v⟩:=q
     obtain⟨_,hd,X2⟩:=ym
     simp only[bO,Bool.and_eq_true]at mK
     simp only[nK]at hx
     split at hx
     ·rename_i y hy
      cases hx
      exact ih hy qs mK.2 X2
     ·cases hb:i==j<;>rw[hb]at hx<;>simp only[cond_true,cond_false,Option.some.injEq,reduceCtorEq]at hx
      subst hx
      exact⟨Nat.eq_of_beq_eq_true mK.1.2,hd.Ja⟩
  have kC:∀i x,(bL (bN b z) l n 0)[i]? =some x→i<n∧x=(match nK i l with|some x=>x|none=>bN b z):=by
   intro i x hx
   have hi:i<n:=by rw[←yv];exact(List.getElem?_eq_some_iff.1 hx).1
   have:=(hL i).2 hi
   rw[this]at hx
   simp only[Nat.zero_add]at hx
   exact⟨hi,(Option.some.inj hx).symm⟩
  have MS:(bN b z).cells =z:=HW yu (fun h=>by rw[hlen];exact bz h)
  have iD:∀x∈bL (bN b z) l n 0,x.cells.length=sz∧∀c∈x.cells,c.one=true:=by
   intro x hx
   obtain⟨i,hi⟩:=List.mem_iff_getElem?.1 hx
   obtain⟨_,rfl⟩:=kC i x hi
   split
   ·rename_i y hy;exact X1 _ _ hy
   ·rw[MS];exact⟨hlen,yu⟩
  have kn:n≤maxLen:=by
   have:n*1≤n*sz:=Nat.mul_le_mul_left _ w7
   simp only[maxLen];omega
  have aU:(execOp a.eval o).run P w=.ok (.value (.slice (some ⟨w.heap.size,0,none⟩) n n)) (w.alloc (.cells r' e')):=by
   have X3:¬(n*sz>2^24):=by omega
   have zu:¬(n*sz=0∧n≠0):=by
    rintro⟨h1,h2⟩
    rcases Nat.mul_eq_zero.1 h1 with h|h<;>omega
   simp only[execOp,ho,Sem.run_bind,Instr.buildSlice,run_underlying hu,Result.andThen_ok,jh hn,X3,if_false]
   by_cases h0:n*sz=0
   ·have X4:(Array.range (n*sz)).map (fun x=>(#[]:Array Value)[x % (#[]:Array Value).size]!)=(Array.range (n*sz)).map (zv.cells[· % zv.cells.size]!):=by rw[h0];simp
    simp only[if_pos h0,Sem.run_bind,Sem.run_pure,Result.andThen_ok]
    rw[X4,yk,f1]
    simp[newRow]
   ·simp only[if_neg h0,Sem.run_bind,Sem.run_pure,Result.andThen_ok,kY]
    rw[yk,f1]
    simp[newRow]
  refine⟨r',e',sz,bL (bN b z) l n 0,hk,by rw[yv];exact aU,by rw[yv];exact Ma,by rw[yv];exact kn,iD,fun i x j c hx hc=>?_⟩
  obtain⟨hi,rfl⟩:=kC i x hx
  have hj:j<sz:=by
   have h1:=(iD _ (List.mem_of_getElem? hx)).1
   have h2:=(List.getElem?_eq_some_iff.1 hc).1
   omega
  have aS:i*sz+j<n*sz:=by
   have:(i+1)*sz≤n*sz:=Nat.mul_le_mul_right _ hi
   rw[Nat.succ_mul]at this;omega
  have hq:=q3 i j hi hj
  have X5:r[i*sz+j]? =some c:=by
   rw[hq]
   cases zt:nK i l with
   |some y=>rw[zt]at hc;exact hc
   |none=>
    rw[zt]at hc
    simp only at hc
    rw[MS]at hc
    simp only
    rw[List.getElem?_map,List.getElem?_range aS]
    have uQ:(i*sz+j) % sz=j:=by rw[Nat.add_comm,Nat.add_mul_mod_self_right,Nat.mod_eq_of_lt hj]
    simp only[Option.map_some,uQ,List.getD_eq_getElem?_getD,hc,Option.getD_some]
  have w6:i*sz+j<r'.size:=by rw[Ma];exact aS
  refine⟨w6,f2.2 (i*sz+j) c _ X5 ?_⟩
  simp[w6]
theorem Ou(hI:Inv gl w0 an e a w g){o:Oper}{t:TypeId}{n:Nat}{ps:Array (Nat×Operand)}(ho:o.op=.buildSlice t n ps){k:Slot→List af→Prop}
  (h:ab (ke P t) fun e'=>ab (fH P e') fun ly=>ab (jB P e') fun z=>ab (kh (fun x=>(Ab.aJ gl e x).aa) ps.toList) fun l=>
    bif Nat.ble (n*ly.2) (2^24)&&Nat.blt 0 ly.2&&Nat.beq z.length ly.2 then(bO ly.2 n l=true∧k (.v (.full ly.2 (bL (bN ly.1 z) l n 0))) e.boxes)else False):
  aV P gl w0 an e.ai o a w k:=by
 obtain⟨r',e',sz,L,hk,aU,aB,kn,iD,aQ⟩:=HA hI ho (K:=fun sz L=>k (.v (.full sz L)) e.boxes) h
 refine aV.SG hI (cells:=r') (t:=e') aU (fun g' bB hX=>?_) hk
 refine .full (w:=w.alloc (.cells r' e')) (St:=g'.St) (base:=w0.heap.size) (fun _ _ _=>False) sz L ⟨w.heap.size,0,none⟩ ?_
 refine aK.sl (w:=w.alloc (.cells r' e')) (St:=g'.St) sz L w.heap.size 0 L.length (fun o=>r'.getD o undef) (Nat.le_refl _) kn (fun x hx=>(iD x hx).1) (fun x hx=>(iD x hx).2)
  (fun o' bJ=>⟨by
    rw[cell_of_row _ w.heap.size (0+o') r' e' (0,0) (sY w _)]
    simp[aB,bJ],bB _⟩) (fun i x j c hx hc=>hX.yJ (aQ i x j c hx hc).2)
theorem aV.KC(hI:Inv gl w0 an e a w g){o:Oper}{cells:Array Value}{t:TypeId}{sz:Nat}{L:List D}{k:Slot→List af→Prop}
  (aU:(execOp a.eval o).run P w=.ok (.value (.slice (some ⟨w.heap.size,0,none⟩) L.length L.length)) (w.alloc (.cells cells t)))
  (aB:cells.size=L.length*sz)(kn:L.length≤maxLen)(iD:∀x∈L,x.cells.length=sz∧∀c∈x.cells,c.one=true)
  (rep:∀(i:Nat)x(j:Nat)c,L[i]? =some x→x.cells[j]? =some c→i*sz+j<cells.size∧aK w g.St c (cells.getD (i*sz+j) undef))
  (hk:k (.v (.bj sz L)) e.boxes):aV P gl w0 an e.ai o a w k:=by
 intro next Q hn
 unfold Oper.wp
 rw[aU]
 have hle:w0.heap.size≤w.heap.size:=hI.below.size
 let g':Gh:={g with ow:=fun b=>if b=w.heap.size then o.dst.map (fun d=>.s d 0)else g.ow b}
 have hX:Ext w0.heap.size w g (w.alloc (.cells cells t)) g' (fun _=>False):=by
  refine⟨fun D ob hb ho h=>⟨(iu w _ D (fo h)).trans h,hb,(by
   show(if D=w.heap.size then o.dst.map (fun d=>Pos.s d 0)else g.ow D)=none
   rw[if_neg (by have:=fo h;omega)];exact ho),fun _ h=>h⟩,fun b o h=>⟨h,.pS (iu w _ b (hI.mJ h))⟩,fun b o h=>CF w _ b o (by omega),fun i aj h=>h,fun p b a c _ ho=>?_,.of fun b hb=>iu w _ b hb⟩
  have aS:=ho.lt
  obtain⟨h1,h2,h3,⟨cur,ty,h4,kz⟩,h5⟩:=ho
  refine⟨⟨?_,h2,h3,⟨cur,ty,(iu w _ b aS).trans h4,kz⟩,h5⟩,fun _=>iu w _ b aS⟩
  show(if b=w.heap.size then o.dst.map (fun d=>Pos.s d 0)else g.ow b)=some p
  rw[if_neg (by omega)];exact h1
 refine hn (.v (.bj sz L)) _ _ _ g' (hI.Bz (g':=g')
  ⟨hX.df,hX.st,hX.bs,hX.bx,fun p b a c _ ho=>hX.own p b a c (fun h=>h) ho,hX.sh⟩ ((Below.refl _ _).alloc (Nat.le_refl _) _) (fun d hd=>?_) rfl (fun b o h=>.inl h)) hk
 refine .v _ _ _ (.bj (w:=w.alloc (.cells cells t)) _ sz L w.heap.size L.length (fun o=>cells.getD o undef) (Nat.le_refl _) kn (fun x hx=>(iD x hx).1) (fun x hx=>(iD x hx).2) ?_ (fun o' bJ=>?_)
  (fun i x j c hx hc=>hX.yJ (rep i x j c hx hc).2))
 ·refine⟨?_,hle,fun hm=>by have:=(hI.cU _ hm).2;omega,⟨cells,t,sY w _,aB⟩,fun o' _ bB=>by have:=hI.mJ bB;omega⟩
  show(if w.heap.size=w.heap.size then o.dst.map (fun d=>Pos.s d 0)else g.ow w.heap.size)=some (.s d 0)
  rw[if_pos rfl,hd];rfl
 ·have:=cell_of_row (w.alloc (.cells cells t)) w.heap.size o' cells t (0,0) (sY w _)
  rw[this]
  simp[aB,bJ]
end
end Go.Proofs.Ytaknajjmldngiaa.Ab
