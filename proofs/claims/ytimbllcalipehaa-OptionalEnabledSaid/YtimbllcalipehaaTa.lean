/-
  THE ABSTRACT WALK, definitions: data trees, slot values, and an abstract weakest precondition over the model's code.
-/
import Derived.Orders
import Derived.Still
import Derived.Below
import Derived.KernelRfl
import Derived.Laws.AppendOwn
import Derived.Laws.Build
import Derived.Laws.Sem
import Derived.WalkKit
import Derived.Laws.StructEq
import Derived.ChangeKeysEq
set_option linter.unusedVariables false
set_option linter.unusedSimpArgs false
namespace Go.Proofs.Ytimbllcalipehaa.Ab
open Go
inductive SK where
 |nil|ro
 deriving DecidableEq
inductive D where
 |bool (b:Bool)
 |int (k:IntKind) (n:Int)
 |str (s:List UInt8)
 |agg (cs:List D)
 |sl (k:SK) (sz:Nat) (L:List D)
 |fn (f:Fn)
 |wU
 |iface (t:TypeId) (x:D)
 |wV
 |nZ
def iG(k:IntKind)(n:Int):Bool:=decide (k.min≤n)&&decide (n≤k.max)
def D.cells:D→List D
 | .agg cs=>cs
 |x=>[x]
def D.pL:D→Bool
 | .bool _=>true
 | .int _ _=>true
 | .str _=>true
 |_=>false
def ajq(L:List D):Prop:=∀x∈L,∀c∈x.cells,c.pL=true
mutual
def D.Wf:D→Prop
 | .int k n=>iG k n=true
 | .str s=>s.length≤maxLen
 | .agg cs=>D.iH cs
 | .sl k sz L=>L.length≤maxLen∧(k=.nil →L=[])∧(∀x∈L,x.cells.length=sz)∧D.iH L
 | .iface _ x=>x.Wf
 |_=>True
def D.iH:List D→Prop
 |[]=>True
 |x::l=>x.Wf∧D.iH l
end
inductive KS where
 |bool (b:Bool)
 |int (k:IntKind) (n:Int)
 |str (s:List UInt8)
 deriving DecidableEq
inductive MK where
 |i (n:Int)
 |s (l:List KS)
 deriving DecidableEq
inductive SV where
 |d (x:D)
 |own (sz:Nat) (L:List D)
 |full (sz:Nat) (L:List D)
 |aZ (sz:Nat) (L:List D)
 |ref (cs:List SV) (off:Nat)
 |cU (n sz:Nat) (cs:List SV)
 |aX (x:D) (off:Nat)
 |dT (f:Fn) (first cap:List SV)
 |aJ (vs:List SV)
 |mp (l:List (MK×D))
 |nest (LL:List (List D))
 |undef
def aa:SV→SV
 | .own sz L=>.d (.sl .ro sz L)
 | .aZ _ _=>.undef
 | .nest _=>.undef
 |x=>x
inductive Slot where
 |v (x:SV)
 |p (b off:Nat)
 |c (f:Fn) (first cap:List Slot)
 |t (vs:List SV)
 |a (b n sz:Nat)
 |m (b:Nat)
def Slot.aa:Slot→Slot
 | .v x=>.v (Ab.aa x)
 | .t vs=>.t (vs.map Ab.aa)
 |s=>s
inductive af where
 |none
 |cells (cs:List SV)
 |one (s:Slot)
 |map (l:List (MK×D))
structure Env where
 ak:List Slot
 boxes:List af
def BU:Value→Option D
 | .bool b=>some (.bool b)
 | .int k n=>bif iG k n then some (.int k n)else none
 | .string s=>bif Nat.ble s.size maxLen then some (.str s.data.toList)else none
 | .slice none 0 0=>some (.sl .nil 0 [])
 | .pointer none=>some .nZ
 | .nilFunc =>some .wU
 | .nilIface =>some .wV
 | .func f first captured=>bif first.isEmpty&&captured.isEmpty then some (.fn f)else none
 |_=>none
def BM:List Value→Option (List D)
 |[]=>some []
 |v::l=>match BU v with
  |some x=>(match BM l with|some r=>some (x::r)|none=>none)
  |none=>none
def KE:Value→Option D
 | .agg cs=>match BM cs.toList with
   |some l=>some (.agg l)
   |none=>none
 |v=>BU v
def ab{α:Type}(o:Option α)(k:α→Prop):Prop:=match o with|some x=>k x|none=>False
def au(x:SV)(A B:Prop):Prop:=match x with
 | .d (.bool c)=>cond c A B
 |_=>False
section
variable(P:Program)(gl:Nat→Option D)
def eJ(t:TypeId):Option Bool:=match P.underlying t with
 |some (.struct _)|some (.array _ _)=>some true
 |some _=>some false
 |none=>none
def lf(t:TypeId):Option (Bool×Nat):=match eJ P t with
 |some b=>(match P.info? t with|some i=>bif b||Nat.beq i.size 1 then some (b,i.size)else none|none=>none)
 |none=>none
def eu(t:TypeId):Option Nat:=match P.info? t with
 |some i=>some i.size
 |none=>none
def oT(t:TypeId):Option (List D):=match P.info? t with
 |some i=>(match i.zero with|some z=>BM z.cells.toList|none=>none)
 |none=>none
def Oc(t:TypeId):Option (List SV):=match oT P t with
 |some z=>some (z.map .d)
 |none=>(match P.info? t with
  |some i=>(match i.zero with|some z=>bif z.cells.toList.all Value.oneCell' then some (List.replicate z.cells.toList.length .undef)else none|none=>none)
  |none=>none)
def bp(e:Env):Operand→Slot
 | .tmp t=>e.ak.getD t (.v .undef)
 | .const v=>(match KE v with|some x=>.v (.d x)|none=>.v .undef)
 | .func f=>.v (.d (.fn (.func f)))
 | .global g=>(match gl g with|some x=>.v (.aX x 0)|none=>.v .undef)
def k7(op:BinOp)(k:IntKind)(x y:Int):Option D:=
 match op with
 | .add =>some (.int k (k.wrap (x+y)))
 | .sub =>some (.int k (k.wrap (x-y)))
 | .mul =>some (.int k (k.wrap (x*y)))
 | .quo =>if y=0 then none else some (.int k (k.wrap (x.tdiv y)))
 | .rem =>if y=0 then none else some (.int k (x.tmod y))
 | .and =>some (.int k (k.wrap (BitVec.ofInt k.bits x&&& BitVec.ofInt k.bits y).toNat))
 | .or =>some (.int k (k.wrap (BitVec.ofInt k.bits x|||BitVec.ofInt k.bits y).toNat))
 | .xor =>some (.int k (k.wrap (BitVec.ofInt k.bits x^^^BitVec.ofInt k.bits y).toNat))
 | .andNot =>some (.int k (k.wrap (BitVec.ofInt k.bits x&&& ~~~ BitVec.ofInt k.bits y).toNat))
 | .eql =>some (.bool (x==y))
 | .neq =>some (.bool (x != y))
 | .lss =>some (.bool (decide (x<y)))
 | .leq =>some (.bool (decide (x≤y)))
 | .gtr =>some (.bool (decide (x>y)))
 | .geq =>some (.bool (decide (x≥y)))
 |_=>none
def FY(op:BinOp)(k:IntKind)(x y:Int):Option D:=
 if y<0 then none else
 match op with
 | .shl =>some (.int k (k.wrap (x*2^(min y.toNat k.bits))))
 | .shr =>some (.int k (x.fdiv (2^(min y.toNat k.bits))))
 |_=>none
def BN:List UInt8→List UInt8→Bool
 |_,[]=>false
 |[],_::_=>true
 |a::x,b::y=>a<b||(a==b&&BN x y)
def Gr(op:BinOp)(x y:List UInt8):Option D:=
 match op with
 | .add =>if x.length+y.length≤maxLen then some (.str (x++y))else none
 | .eql =>some (.bool (x==y))
 | .neq =>some (.bool (!(x==y)))
 | .lss =>some (.bool (BN x y))
 | .leq =>some (.bool (BN x y||x==y))
 | .gtr =>some (.bool (!(BN x y||x==y)))
 | .geq =>some (.bool (!BN x y))
 |_=>none
def oY:D→D→Option Bool
 | .bool a,.bool b=>some (a==b)
 | .int k a,.int k' b=>if k=k' then some (a==b)else none
 | .str a,.str b=>some (a==b)
 |_,_=>none
def gF:List D→List D→Option Bool
 |[],[]=>some true
 |x::l,y::m=>match oY x y with
  |some b=>(match gF l m with|some c=>some (b&&c)|none=>none)
  |none=>none
 |_,_=>none
inductive CK where
 |bool|int|str
def eK:List CK→List D→Bool
 |[],[]=>true
 | .bool ::l,.bool _::m=>eK l m
 | .int ::l,.int _ _::m=>eK l m
 | .str ::l,.str _::m=>eK l m
 |_,_=>false
def Ah{α:Type}(l:List α):Nat→List α
 |0=>[]
 |n+1=>l++Ah l n
def Df(go:TypeId→Option (List CK)):List Field→Nat→Option (List CK)
 |[],_=>some []
 |f::l,off=>match go f.type with
  |some ks=>bif f.name != "_" &&Nat.beq f.offset off then(match Df go l (off+ks.length)with|some r=>some (ks++r)|none=>none)else none
  |none=>none
def shapeOf:(fuel:Nat)→TypeId→Option (List CK)
 |0,_=>none
 |f+1,t=>match P.underlying t with
  |some .bool =>(match eu P t with|some 1=>some [.bool]|_=>none)
  |some (.int _)=>(match eu P t with|some 1=>some [.int]|_=>none)
  |some .string =>(match eu P t with|some 1=>some [.str]|_=>none)
  |some (.array n e)=>(match shapeOf f e with
   |some ks=>(match eu P t with|some s=>bif Nat.beq s (n*ks.length)then some (Ah ks n)else none|none=>none)
   |none=>none)
  |some (.struct fs)=>bif P.stoodInHeld t then none else(match Df (shapeOf f) fs.toList 0 with
   |some ks=>(match eu P t with|some s=>bif Nat.beq s ks.length then some ks else none|none=>none)
   |none=>none)
  |_=>none
def FZ(op:BinOp)(t:TypeId):Option (Bool×List CK):=match op with
 | .eql | .neq =>bif P.eqGuardType P.depth t then none else(match shapeOf P 20 t with
   |some ks=>(match eJ P t with|some b=>some (b,ks)|none=>none)
   |none=>(match P.underlying t with|some (.slice _)=>some (false,[])|_=>none))
 |_=>none
end
section
def gH(sh:Option (Bool×List CK))(op:BinOp)(x y:D):Option D:=
 match x,y with
 | .int k a,.int k' b=>
   (match op with
    | .shl | .shr =>FY op k a b
    |_=>if k=k' then k7 op k a b else none)
 | .str a,.str b=>Gr op a b
 | .bool a,.bool b=>(match sh with
   |some (false,[.bool])=>(match op with
    | .eql =>some (.bool (a==b))| .neq =>some (.bool (!(a==b)))|_=>none)
   |_=>none)
 | .agg a,.agg b=>(match sh with
   |some (true,ks)=>bif eK ks a&&eK ks b then(match op with
    | .eql =>(match gF a b with|some c=>some (.bool c)|none=>none)
    | .neq =>(match gF a b with|some c=>some (.bool (!c))|none=>none)
    |_=>none)else none
   |_=>none)
 | .sl a _ _,.sl .nil _ _=>(match sh with
   |some (false,[])=>(match op with
    | .eql =>some (.bool (decide (a=.nil)))
    | .neq =>some (.bool (!decide (a=.nil)))
    |_=>none)
   |_=>none)
 |_,_=>none
def ai(sh:Option (Bool×List CK))(op:BinOp):SV→SV→Option SV
 | .d x,.d y=>(match gH sh op x y with|some r=>some (.d r)|none=>none)
 |_,_=>none
def fg(op:UnOp):SV→Option SV
 | .d (.bool b)=>(match op with| .not =>some (.d (.bool (!b)))|_=>none)
 | .d (.int k n)=>(match op with
   | .neg =>some (.d (.int k (k.wrap (0-n))))
   | .xor =>some (.d (.int k (k.wrap (BitVec.ofInt k.bits (if k.signed then-1 else k.max)^^^BitVec.ofInt k.bits n).toNat)))
   |_=>none)
 |_=>none
end
section
variable(P:Program)(gl:Nat→Option D)
def PN(dst:TypeId):SV→Option SV
 | .d (.int _ n)=>(match P.underlying dst with|some (.int k)=>some (.d (.int k (k.wrap n)))|_=>none)
 | .d (.str s)=>(match P.underlying dst with|some .string =>some (.d (.str s))|_=>none)
 |_=>none
def dA:SV→Option D
 | .d x=>some x
 | .own sz L=>some (.sl .ro sz L)
 | .full sz L=>some (.sl .ro sz L)
 |_=>none
def dK:List SV→Option (List D)
 |[]=>some []
 |v::l=>match dA v with
  |some x=>(match dK l with|some r=>some (x::r)|none=>none)
  |none=>none
def elems(sz:Nat):SV→Option (List D)
 | .d (.sl k s L)=>(match k with| .nil =>some []| .ro =>if s=sz then some L else none)
 | .own s L=>if s=sz then some L else none
 | .full s L=>if s=sz then some L else none
 |_=>none
def FK:SV→Option (List D)
 | .d (.sl _ _ L)=>some L
 | .own _ L=>some L
 | .full _ L=>some L
 |_=>none
def sD(agg:Bool)(sz off:Nat)(cs:List D):Option D:=
 bif agg then(if off+sz≤cs.length then some (.agg ((cs.drop off).take sz))else none)else cs[off]?
def aj(agg:Bool)(sz off:Nat)(cs:List SV):Option SV:=
 bif agg then(if off+sz≤cs.length then(match dK ((cs.drop off).take sz)with|some l=>some (.d (.agg l))|none=>none)else none)else cs[off]?
def cN(x:SV)(n:Nat):Option Nat:=match x with
 | .d (.int _ i)=>if 0≤i∧i<n then some i.toNat else none
 |_=>none
def Qj(t:TypeId)(x:SV):Option SV:=match P.underlying t with
 |some .string =>(match x with| .d (.str s)=>some (.d (.int .i64 s.length))|_=>none)
 |some (.array n _)=>bif Nat.ble n maxLen then some (.d (.int .i64 n))else none
 |some (.slice _)=>(match x with| .cU n _ _=>some (.d (.int .i64 n))|x=>(match FK x with|some L=>some (.d (.int .i64 L.length))|none=>none))
 |_=>none
def setAt(cs:List SV)(off:Nat):List SV→List SV
 |[]=>cs
 |v::l=>setAt (cs.set off v) (off+1) l
def aB(x:SV):Option (List SV):=match x with
 | .d y=>some (y.cells.map .d)
 | .aJ _=>none
 | .undef =>none
 |v=>some [v]
def uZ(place:Nat→Option (Nat×Nat))(cells:List D):List (Nat×D)→Option (List D)
 |[]=>some cells
 |(i,v)::rest=>match place i with
  |none=>none
  |some (off,sz)=>if v.cells.length=sz∧off+sz≤cells.length then uZ place (cells.take off++v.cells++cells.drop (off+sz)) rest else none
def qL(ρ:Operand→Slot):List (Nat×Operand)→Option (List (Nat×D))
 |[]=>some []
 |(i,x)::l=>match ρ x with
  | .v y=>(match dA y with
    |some z=>(match qL ρ l with|some r=>some ((i,z)::r)|none=>none)
    |none=>none)
  |_=>none
def F0:List Field→Option (List (Nat×Nat))
 |[]=>some []
 |f::l=>match eu P f.type with
  |some s=>(match F0 l with|some r=>some ((f.offset,s)::r)|none=>none)
  |none=>none
def Nc(t:TypeId):Option (Nat→Option (Nat×Nat)):=match P.underlying t with
 |some (.struct fs)=>(match F0 P fs.toList with|some l=>some fun i=>l[i]? |none=>none)
 |some (.array _ e)=>(match eu P e with|some s=>some fun i=>some (i*s,s)|none=>none)
 |_=>none
def dz(t:TypeId)(ps:List (Nat×D)):Option D:=match oT P t with
 |some z=>(match Nc P t with
  |some pl=>(match uZ pl z ps with|some cs=>some (.agg cs)|none=>none)
  |none=>none)
 |none=>none
def bE(agg:Bool)(cs:List D):D:=bif agg then .agg cs else(match cs with|[x]=>x|_=>.agg cs)
def tA(i:Nat):List (Nat×D)→Option D
 |[]=>none
 |(j,x)::l=>match tA i l with|some y=>some y|none=>bif i==j then some x else none
def bz(zero:D)(ps:List (Nat×D)):Nat→Nat→List D
 |0,_=>[]
 |n+1,i=>(match tA i ps with|some x=>x|none=>zero)::bz zero ps n (i+1)
def bu(sz n:Nat):List (Nat×D)→Bool
 |[]=>true
 |(i,x)::l=>Nat.blt i n&&Nat.beq x.cells.length sz&&bu sz n l
def kU(f:Slot→SV):List Slot→List SV
 |[]=>[]
 |s::l=>f s::kU f l
def snap(aF:List af):(fuel:Nat)→Slot→SV
 |0,_=>.undef
 |n+1,s=>match s with
  | .v x=>Ab.aa x
  | .p b off=>(match aF[b]? with
    |some (.cells cs)=>.ref (cs.map Ab.aa) off
    |some (.one s')=>.ref [snap aF n s'] off
    |_=>.undef)
  | .c f first cap=>.dT f (kU (snap aF n) first) (kU (snap aF n) cap)
  | .a b m sz=>(match aF[b]? with
    |some (.cells cs)=>.cU m sz (cs.map Ab.aa)
    |_=>.undef)
  |_=>.undef
def Slot.bW:Slot→SV
 | .v x=>x
 |_=>.undef
end
abbrev bA:=FuncId→List SV→SV→Prop
section
variable(P:Program)(gl:Nat→Option D)(C:bA)
def wW:SV→Bool| .aJ _=>true|_=>false
def ba(f:FuncId)(args:List SV)(k:SV→Prop):Prop:=∃r,C f args r∧wW r=false∧k r
def AZ:Nat→(List SV→Prop)→Prop
 |0,k=>k []
 |n+1,k=>∃r,AZ n fun l=>k (r::l)
def ajr(f:FuncId)(n:Nat)(args:List SV)(k:List SV→Prop):Prop:=AZ n fun rs=>C f args (.aJ rs)∧k rs
def withFn(x:SV)(args:List SV)(k:FuncId→List SV→Prop):Prop:=match x with
 | .d (.fn (.func f))=>k f args
 | .dT (.func f) first cap=>k f (first++args++cap)
 |_=>False
def DY(t:TypeId)(name:String):Option FuncId:=match P.info? t with
 |some i=>(match i.methods.find? (fun m=>m.name==name)with
  |some m=>(match m.path.toList,m.func with
   |[],some (f,false)=>(match P.underlying t with
    |some (.pointer _)=>none
    |some _=>some f
    |none=>none)
   |_,_=>none)
  |none=>none)
 |none=>none
def PO(x:SV)(name:String):Option FuncId:=match x with
 | .d (.iface t _)=>DY P t name
 |_=>none
def z9(x:SV)(name:String)(args:List SV)(k:FuncId→List SV→Prop):Prop:=match x with
 | .d (.iface t y)=>ab (DY P t name) fun f=>k f (.d y::args)
 |_=>False
def arity(t:TypeId):Nat:=match P.underlying t with
 |some (.tuple ts)=>ts.size
 |_=>1
def qR(n:Nat)(aF:List af)(k:Slot→List af→Prop)(f:FuncId)(args:List SV):Prop:=
 match n with
 |1=>ba C f args fun r=>k (.v r) aF
 |n=>ajr C f n args fun rs=>k (.t rs) aF
def jS(aF:List af)(ρ:Operand→Slot):List Operand→List SV
 |[]=>[]
 |x::l=>snap aF 6 (ρ x)::jS aF ρ l
def iN:Nat:=1048577
def lG(sz:Nat)(x y:SV):Option (SV×Nat):=
 match elems sz y with
 |none=>none
 |some M=>match x with
  | .own s L=>if s=sz then some (.own sz (L++M),L.length+M.length)else none
  | .full s L=>if s=sz then(if M=[]then some (.full sz L,L.length)else some (.own sz (L++M),L.length+M.length))else none
  | .d (.sl .nil s _)=>if M=[]then some (x,0)else some (bif Nat.beq s iN then .aZ sz M else .own sz M,M.length)
  | .aZ s L=>if s=sz then some (.aZ sz (L++M),L.length+M.length)else none
  |_=>none
def bR(sz bytes:Nat)(x y:SV)(k:SV→Prop):Prop:=
 ab (lG sz x y) fun r=>r.2*bytes≤140737488355328∧k r.1
def tD(agg:Bool)(sz b off:Nat)(aF:List af)(k:Slot→List af→Prop):Prop:=
 match aF[b]? with
 |some (.cells cs)=>ab (aj agg sz off cs) fun x=>k (.v (Ab.aa x)) aF
 |some (.one s)=>bif agg then False else(match off with|0=>k s.aa aF|_=>False)
 |_=>False
def aI(agg:Bool)(sz:Nat)(x:SV):Option SV:=match x with
 | .aX y off=>(match sD agg sz off y.cells with|some z=>some (.d z)|none=>none)
 | .ref cs off=>(match aj agg sz off cs with|some z=>some (Ab.aa z)|none=>none)
 |_=>none
def wv(sz b off:Nat)(x:Slot)(aF:List af)(k:List af→Prop):Prop:=
 match aF[b]? with
 |some (.cells cs)=>(match x with
  | .v y=>ab (aB y) fun l=>l.length=sz∧off+sz≤cs.length∧k (aF.set b (.cells (setAt cs off l)))
  | .t _=>False
  |s=>(match sz,off,cs with|1,0,[_]=>k (aF.set b (.one s))|_,_,_=>False))
 |some (.one _)=>(match sz,off with
  |1,0=>(match x with
   | .v y=>ab (aB y) fun l=>l.length=1∧k (aF.set b (.cells l))
   | .t _=>False
   |s=>k (aF.set b (.one s)))
  |_,_=>False)
 |_=>False
def bP(x:SV)(n:Nat):Option SV:=match x with
 | .aX y off=>some (.aX y (off+n))
 | .ref cs off=>some (.ref cs (off+n))
 |_=>none
def aL(sz:Nat)(x i:SV):Option SV:=match x with
 | .cU n s cs=>(match cN i n with|some j=>if s=sz then some (.ref cs (j*sz))else none|none=>none)
 |x=>match elems sz x with
 |some L=>(match cN i L.length with
  |some n=>(match L[n]? with|some y=>some (.aX y 0)|none=>none)
  |none=>none)
 |none=>none
def B7(n:Nat):Option SV→Option Nat
 |some h=>cN h (n+1)
 |none=>some n
def yN(h:Nat):Option SV→Option Nat
 |some l=>cN l (h+1)
 |none=>some 0
def GN(L:List D)(lo hi:Option SV):Option (List D):=
 match B7 L.length hi with
 |some h=>(match yN h lo with
  |some l=>some ((L.take h).drop l)
  |none=>none)
 |none=>none
def XP(L:List UInt8)(lo hi:Option SV):Option (List UInt8):=
 match B7 L.length hi with
 |some h=>(match yN h lo with
  |some l=>some ((L.take h).drop l)
  |none=>none)
 |none=>none
def Pd(t:TypeId)(x:SV)(lo hi mx:Option SV):Option SV:=
 match P.underlying t with
 |some .string =>(match x,mx with
  | .d (.str s),none=>(match XP s lo hi with|some r=>some (.d (.str r))|none=>none)
  |_,_=>none)
 |some (.slice e)=>(match dA x,eu P e with
  |some (.sl k sz L),some s=>(match GN L lo hi,mx with
   |some r,none=>(match k with| .nil =>some (.d (.sl .nil s []))| .ro =>if sz=s then some (.d (.sl .ro sz r))else none)
   |some r,some m=>(match hi,cN m (L.length+1)with
    |some h,some _=>(match h,m with
     | .d (.int _ a),.d (.int _ b)=>if a=b then(match k with| .nil =>some (.d (.sl .nil s []))| .ro =>if sz=s then some (.full sz r)else none)else none
     |_,_=>none)
    |_,_=>none)
   |none,_=>none)
  |_,_=>none)
 |_=>none
def sJ(ρ:Operand→Slot):Option Operand→Option SV
 |some x=>some (ρ x).bW
 |none=>none
def minD(a b:Int):Int:=if b<a then b else a
def maxD(a b:Int):Int:=if b>a then b else a
def BC(f:Int→Int→Int):SV→List SV→Option SV
 | .d (.int k a),[]=>some (.d (.int k a))
 | .d (.int k a),.d (.int k' b)::l=>if k=k' then BC f (.d (.int k (f a b))) l else none
 |_,_=>none
def nX(x:SV):Option SV:=match x with
 | .aX y o=>some (.aX y o)
 | .ref cs o=>some (.ref cs o)
 | .dT f a b=>(match f with| .func n=>some (.dT (.func n) a b)|_=>none)
 | .d (.fn f)=>(match f with| .func n=>some (.d (.fn (.func n)))|_=>none)
 |_=>none
def Pe(agg:Bool)(sz n:Nat)(x i:SV):Option SV:=match x with
 | .d (.agg cs)=>(match cN i n with
   |some j=>(match sD agg sz (j*sz) cs with|some r=>some (.d r)|none=>none)
   |none=>none)
 |_=>none
def PQ(x i:SV):Option SV:=match x with
 | .d (.str s)=>(match cN i s.length with
   |some j=>(match s[j]? with|some b=>some (.d (.int .u8 b.toNat))|none=>none)
   |none=>none)
 |_=>none
def yo(agg:Bool)(sz off:Nat)(x:SV):Option SV:=match x with
 | .d (.agg cs)=>(match sD agg sz off cs with|some r=>some (.d r)|none=>none)
 |_=>none
def Pf(t:TypeId)(x:SV):Option SV:=match dA x with
 |some y=>some (.d (.iface t y))
 |none=>none
def wz(t:TypeId):Option Nat:=match P.info? t with
 |some i=>some i.bytes
 |none=>none
def mJ(t:TypeId):Option TypeId:=match P.underlying t with
 |some (.slice e)=>some e
 |_=>none
def Du(t:TypeId)(i:Nat):Option Field:=match P.underlying t with
 |some (.struct fs)=>fs.toList[i]?
 |_=>none
def isSlice(t:TypeId):Bool:=match P.underlying t with
 |some (.slice _)=>true
 |_=>false
def isIface(t:TypeId):Bool:=match P.underlying t with
 |some (.interface _)=>true
 |none=>true
 |_=>false
def KS.same:KS→KS→Bool
 | .bool _,.bool _=>true
 | .int k _,.int k' _=>decide (k=k')
 | .str _,.str _=>true
 |_,_=>false
def KS.lE:List KS→List KS→Bool
 |[],[]=>true
 |x::l,y::m=>x.same y&&KS.lE l m
 |_,_=>false
def MK.same:MK→MK→Bool
 | .i _,.i _=>true
 | .s a,.s b=>KS.lE a b
 |_,_=>false
def wJ(l:List (MK×D))(n:MK):Bool:=l.all fun x=>n.same x.1
def nt:List (MK×D)→MK→Option D
 |[],_=>none
 |x::l,n=>if n=x.1 then some x.2 else nt l n
def xc:List CK→List D→Option (List KS)
 |[],[]=>some []
 | .bool ::l,.bool b::m=>(match xc l m with|some r=>some (.bool b::r)|none=>none)
 | .int ::l,.int k n::m=>(match xc l m with|some r=>some (.int k n::r)|none=>none)
 | .str ::l,.str s::m=>(match xc l m with|some r=>some (.str s::r)|none=>none)
 |_,_=>none
def nz(kd:Option (List CK))(x:SV):Option MK:=match kd with
 |none=>(match x with| .d (.int .i64 n)=>some (.i n)|_=>none)
 |some ks=>(match x with| .d (.agg cs)=>(match xc ks cs with|some l=>some (.s l)|none=>none)|_=>none)
def u1(kd:Option (List CK))(z:D)(m key:SV):Option (D×Bool):=match m with
 | .mp l=>(match nz kd key with
   |some n=>bif wJ l n then(match nt l n with|some d=>some (d,true)|none=>some (z,false))else none
   |none=>none)
 |_=>none
def GO:List Field→Bool
 |[]=>true
 |f::l=>(match P.underlying f.type with|some .bool =>true|some (.int _)=>true|some .string =>true|_=>false)&&GO l
def DK(t:TypeId):Option (TypeId×Option (List CK)):=match P.underlying t with
 |some (.map kt et)=>(match P.underlying kt with
  |some (.int _)=>some (et,none)
  |some (.struct fs)=>(match shapeOf P 20 kt with
   |some ks=>bif GO P fs.toList then some (et,some ks)else none
   |none=>none)
  |_=>none)
 |_=>none
def yE(aF:List af):Slot→SV
 | .m b=>(match aF[b]? with
   |some (.map l)=>.mp l
   |_=>.undef)
 |s=>s.bW
def nA:List (MK×D)→MK→D→List (MK×D)
 |[],n,d=>[(n,d)]
 |x::l,n,d=>if n=x.1 then(n,d)::l else x::nA l n d
def qW(l:List (MK×D))(n:MK)(d:D):Option (List (MK×D)):=bif wJ l n then some (nA l n d)else none
def lenOf:SV→SV→Option Nat
 | .d (.int k a),.d (.int k' b)=>if k=k'∧a=b∧0≤a then some a.toNat else none
 |_,_=>none
def wK(t:TypeId):Option D:=match P.info? t with
 |some i=>(match i.zero with|some z=>BU z|none=>none)
 |none=>none
def dH(id:Nat)(o:Oper)(ρ:Operand→Slot)(aF:List af)(k:Slot→List af→Prop):Prop:=
 match o.op with
 | .move x| .assign x=>k (ρ x) aF
 | .pick c a b=>(match ρ c with
   | .v x=>au x (k (ρ a) aF) (k (ρ b) aF)
   |_=>False)
 | .alloc t=>(match aF[id]? with
   |some .none =>ab (Oc P t) fun z=>k (.p id 0) (aF.set id (.cells z))
   |_=>False)
 | .box t x=>(match aF[id]? with
   |some .none =>ab (eu P t) fun sz=>(match ρ x with
    | .v y=>ab (aB y) fun l=>l.length=sz∧k (.p id 0) (aF.set id (.cells l))
    | .t _=>False
    |s=>(match sz with|1=>k (.p id 0) (aF.set id (.one s))|_=>False))
   |_=>False)
 | .build t ps=>ab (qL ρ ps.toList) fun l=>ab (dz P t l) fun r=>k (.v (.d r)) aF
 | .buildSlice t n ps=>ab (mJ P t) fun e=>ab (lf P e) fun ly=>ab (oT P e) fun z=>ab (qL ρ ps.toList) fun l=>
    bif Nat.ble (n*ly.2) (2^24)&&Nat.blt 0 ly.2&&Nat.beq z.length ly.2 then(bu ly.2 n l=true∧k (.v (.full ly.2 (bz (bE ly.1 z) l n 0))) aF)else False
 | .load t a=>ab (lf P t) fun ly=>(match ρ a with
   | .p b off=>tD ly.1 ly.2 b off aF k
   | .v x=>ab (aI ly.1 ly.2 x) fun y=>k (.v y) aF
   |_=>False)
 | .store t a x=>ab (eu P t) fun sz=>(match ρ a with
   | .p b off=>(match o.dst with|none=>wv sz b off (ρ x) aF fun dP=>k (.t []) dP|some _=>False)
   |_=>False)
 | .nilCheck x=>(match ρ x with
   | .v y=>ab (nX y) fun z=>k (.v z) aF
   | .t _=>False
   | .c f first cap=>(match f with
     | .func _=>k (.c f first cap) aF
     | .method name=>(match first with
       | .v y::_=>ab (PO P y name) fun _=>k (.c f first cap) aF
       |_=>False)
     |_=>False)
   | .p b off=>k (.p b off) aF
   |_=>False)
 | .binOp op t x y _=>ab (ai (FZ P op t) op (ρ x).bW (ρ y).bW) fun r=>k (.v r) aF
 | .unOp op _ x=>ab (fg op (ρ x).bW) fun r=>k (.v r) aF
 | .convert src dst x=>bif (P.underlying src).isSome then(ab (PN P dst (ρ x).bW) fun r=>k (.v r) aF)else False
 | .makeInterface t x=>bif isIface P t then False else ab (Pf t (ρ x).bW) fun r=>k (.v r) aF
 | .makeFunc fn first cap=>k (.c fn (first.toList.map fun x=>(ρ x).aa) (cap.toList.map fun x=>(ρ x).aa)) aF
 | .slice t x lo hi mx=>ab (Pd P t (Ab.aa (ρ x).bW) (sJ ρ lo) (sJ ρ hi) (sJ ρ mx)) fun r=>k (.v r) aF
 | .fieldAddr t x f=>ab (Du P t f) fun fd=>ab (eu P fd.type) fun sz=>bif Nat.beq sz 0 then False else(match ρ x with
   | .p b off=>k (.p b (off+fd.offset)) aF
   | .v y=>ab (bP y fd.offset) fun z=>k (.v z) aF
   |_=>False)
 | .field t x f=>ab (Du P t f) fun fd=>ab (lf P fd.type) fun ly=>ab (yo ly.1 ly.2 fd.offset (ρ x).bW) fun r=>k (.v r) aF
 | .indexAddr t x i=>(match P.underlying t with
   |some (.slice e)=>ab (eu P e) fun sz=>(match ρ x with
    | .a b n _=>ab (cN (ρ i).bW n) fun j=>k (.p b (j*sz)) aF
    |s=>ab (aL sz s.bW (ρ i).bW) fun r=>k (.v r) aF)
   |some (.array n e)=>ab (eu P e) fun sz=>ab (cN (ρ i).bW n) fun j=>(match ρ x with
    | .p b off=>k (.p b (off+j*sz)) aF
    | .v y=>ab (bP y (j*sz)) fun z=>k (.v z) aF
    |_=>False)
   |_=>False)
 | .index t x i=>(match P.underlying t with
   |some (.array n e)=>ab (lf P e) fun ly=>ab (Pe ly.1 ly.2 n (ρ x).bW (ρ i).bW) fun r=>k (.v r) aF
   |some .string =>ab (PQ (ρ x).bW (ρ i).bW) fun r=>k (.v r) aF
   |_=>False)
 | .extract x i=>(match ρ x with
   | .t vs=>(match vs[i]? with|some r=>k (.v r) aF|none=>False)
   |_=>False)
 | .lookup t m x ok=>ab (DK P t) fun et=>ab (wK P et.1) fun z=>ab (u1 et.2 z (yE aF (ρ m)) (ρ x).bW) fun r=>
    bif ok then k (.t [.d r.1,.d (.bool r.2)]) aF else k (.v (.d r.1)) aF
 | .makeSlice t n c=>ab (mJ P t) fun e=>ab (eu P e) fun sz=>ab (wz P e) fun cX=>ab (wK P e) fun z=>
    bif Nat.beq sz 1&&Nat.blt 0 cX then(ab (lenOf (ρ n).bW (ρ c).bW) fun m=>m*cX≤140737488355328∧k (.v (.aZ 1 (List.replicate m z))) aF)else False
 | .makeMap t h=>(match h,aF[id]? with
   |none,some .none =>k (.m id) (aF.set id (.map []))
   |_,_=>False)
 | .mapUpdate t m x y=>ab (DK P t) fun et=>(match ρ m,o.dst with
   | .m b,none=>(match aF[b]? with
     |some (.map l)=>ab (nz et.2 (ρ x).bW) fun n=>ab (dA (ρ y).bW) fun d=>ab (qW l n d) fun l'=>k (.t []) (aF.set b (.map l'))
     |_=>False)
   |_,_=>False)
 | .call c=>(match c.callee with
   | .value f=>(match ρ f with
     | .v x=>withFn x (jS aF ρ c.args.toList) (qR C (arity P o.type) aF k)
     | .c (.func g) first cap=>qR C (arity P o.type) aF k g (kU (snap aF 6) first++jS aF ρ c.args.toList++kU (snap aF 6) cap)
     |_=>False)
   | .invoke recv name=>(match ρ recv with
     | .v x=>z9 P x name (jS aF ρ c.args.toList) (qR C (arity P o.type) aF k)
     |_=>False)
   | .builtin b=>(match b,c.args.toList,c.argTypes.toList with
     | .len,x::_,t::_=>(match ρ x with
       | .a _ n _=>bif isSlice P t then k (.v (.d (.int .i64 n))) aF else False
       |s=>ab (Qj P t s.bW) fun r=>k (.v r) aF)
     | .append,[x,y],[t,u]=>bif Nat.beq t u then(ab (mJ P t) fun e=>ab (eu P e) fun sz=>ab (wz P e) fun cX=>ab (oT P e) fun z=>
        bif Nat.blt 0 cX&&Nat.blt 0 sz&&Nat.beq z.length sz then bR sz cX (ρ x).bW (ρ y).bW fun r=>k (.v r) aF else False)else False
     | .min,x::l,_=>ab (BC minD (ρ x).bW (l.map fun y=>(ρ y).bW)) fun r=>k (.v r) aF
     | .max,x::l,_=>ab (BC maxD (ρ x).bW (l.map fun y=>(ρ y).bW)) fun r=>k (.v r) aF
     |_,_,_=>False))
 |_=>False
def tmpsOf(o:Oper):List Nat:=o.op.operands.toList.filterMap fun| .tmp t=>some t|_=>none
def cS(l:List Slot)(dst:Option Nat)(s:Slot):List Slot:=match dst with
 |some d=>l.set d s
 |none=>l
def placeOf(r:Nat):List Nat→Nat→Nat
 |[],i=>i
 |t::l,i=>bif Nat.beq t r then i else placeOf r l (i+1)
def XQ(r:Nat):List Nat→Nat→Nat→Nat
 |[],_,j=>j
 |t::l,i,j=>XQ r l (i+1) (bif Nat.beq t r then i else j)
def XR(r:Nat)(ts:List Nat):Nat:=bif Nat.beq ts.length 4 then XQ r ts 0 0 else placeOf r ts 0
def OL(t:TypeId)(ts:List TypeId):Nat:=match P.underlying t with
 |some (.tuple rs)=>(match rs.toList with
  |[]=>0
  |r::_=>XR r ts)
 |_=>XR t ts
def B8(rs:List SV):Slot:=match rs with
 |[r]=>.v r
 |rs=>.t rs
def pM(p:Nat)(args:List SV):List SV:=.aJ [.cU p 0 []]::args
def Qk(s:Slot):Option FuncId:=match s with
 | .v (.d (.fn (.func g)))=>some g
 |_=>none
def nu(o:Oper)(e:Env)(k:Env→Prop):Prop:=match o.op with
 | .move (.tmp t)| .assign (.tmp t)=>k ⟨cS (e.ak.set t (e.ak.getD t (.v .undef)).aa) o.dst (e.ak.getD t (.v .undef)),e.boxes⟩
 | .extract (.tmp t) i=>(match e.ak.getD t (.v .undef)with
   | .t vs=>(match vs[i]? with
     |some r=>k ⟨cS (e.ak.set t (.t (vs.set i (aa r)))) o.dst (.v r),e.boxes⟩
     |none=>False)
   |_=>False)
 | .load ty a=>(match(bp gl e a).aa with
   | .p b off=>ab (lf P ty) fun ly=>bif ly.1 then False else(match e.boxes[b]? with
     |some (.cells cs)=>ab cs[off]? fun x=>k ⟨cS e.ak o.dst (.v x),e.boxes.set b (.cells (cs.set off (aa x)))⟩
     |_=>False)
   |_=>False)
 | .store ty a (.tmp t)=>(match(bp gl e a).aa,e.ak.getD t (.v .undef),o.dst with
   | .p b off,.v y,none=>ab (eu P ty) fun sz=>bif Nat.beq sz 1 then(match e.boxes[b]? with
     |some (.cells cs)=>ab (aB y) fun l=>l.length=1∧off<cs.length∧k ⟨e.ak.set t (.v (aa y)),e.boxes.set b (.cells (setAt cs off l))⟩
     |_=>False)else False
   |_,_,_=>False)
 | .buildSlice t n ps=>ab (mJ P t) fun e'=>ab (lf P e') fun ly=>ab (oT P e') fun z=>ab (qL (fun x=>(bp gl e x).aa) ps.toList) fun l=>
    bif Nat.ble (n*ly.2) (2^24)&&Nat.blt 0 ly.2&&Nat.beq z.length ly.2 then(bu ly.2 n l=true∧k ⟨cS e.ak o.dst (.v (.aZ ly.2 (bz (bE ly.1 z) l n 0))),e.boxes⟩)else False
 | .call c=>(match c.callee,c.args.toList,c.argTypes.toList with
   | .builtin .append,[.tmp t,y],[ty,u]=>bif Nat.beq ty u then(ab (mJ P ty) fun e'=>ab (eu P e') fun sz=>ab (wz P e') fun cX=>ab (oT P e') fun z=>
      bif Nat.blt 0 cX&&Nat.blt 0 sz&&Nat.beq z.length sz then bR sz cX (e.ak.getD t (.v .undef)).bW ((bp gl e y).aa).bW fun r=>
       k ⟨cS (e.ak.set t (e.ak.getD t (.v .undef)).aa) o.dst (.v r),e.boxes⟩else False)else False
   | .value f,args,ts=>(match args[OL P o.type ts]?,Qk (bp gl e f)with
     |some (.tmp t),some g=>(match e.ak.getD t (.v .undef)with
      | .v y=>AZ (arity P o.type) fun rs=>∃bk,C g (pM (OL P o.type ts) ((jS e.boxes (fun x=>(bp gl e x).aa) args).set (OL P o.type ts) y)) (.aJ (bk::rs))∧aa bk=aa y∧k ⟨cS (e.ak.set t (.v bk)) o.dst (B8 rs),e.boxes⟩
      |_=>False)
     |_,_=>False)
   |_,_,_=>False)
 |_=>False
def pN(id:Nat)(aH:Bool)(o:Oper)(e:Env)(k:Env→Prop):Prop:=
 bif aH then nu P gl C o e k
 else dH P C id o (fun x=>(bp gl e x).aa) e.boxes fun r aF=>k ⟨cS e.ak o.dst r,aF⟩
def Env.AF(e:Env)(t:Nat)(b:Bool):Env:=⟨e.ak.set t (.v (.d (.bool b))),e.boxes⟩
def BV(all:List Oper)(o:Oper)(e:Env)(A B:Env→Prop):Prop:=
 match o.guard with
 |none=>A e
 |some (j,want)=>(match(match all[j]? with|some g=>g.dst|none=>none)with
  |some t=>(match e.ak.getD t (.v .undef)with
   | .v x=>au x (bif want then A (e.AF t true)else B (e.AF t true)) (bif want then B (e.AF t false)else A (e.AF t false))
   | .t _=>B e
   |_=>False)
  |none=>False)
def iA(o:Oper):Bool:=match o.op with| .alloc _| .box .. | .makeMap .. =>true|_=>false
def fM:List Oper→Nat→Nat
 |[],_=>0
 |_,0=>0
 |o::l,i+1=>(bif iA o then 1 else 0)+fM l i
def iE(aH:Nat→Bool)(all:List Oper)(base:Nat):List Oper→Nat→Env→(Env→Prop)→Prop
 |[],_,e,k=>k e
 |o::rest,i,e,k=>BV all o e
   (fun e'=>pN P gl C (base+fM all i) (aH i) o e' fun nD=>iE aH all base rest (i+1) nD k)
   (fun e'=>iE aH all base rest (i+1) ⟨cS e'.ak o.dst (.t []),e'.boxes⟩ k)
def Dv(aH:Nat→Bool)(ops:List Oper)(e:Env)(k:Env→Prop):Prop:=
 iE P gl C aH ops e.boxes.length ops 0 ⟨e.ak,e.boxes++List.replicate (fM ops ops.length) .none⟩ k
inductive Ex where
 |normal
 |exit (id:Nat)
 |ret
def bT(F:List SV→List (List SV)→(List SV→List (List SV)→Prop)→Prop)(vs:List SV)(bs:List (List SV)):Prop:=
 ∀I:List SV→List (List SV)→Prop,(∀vs bs,F vs bs I→I vs bs)→I vs bs
def oV:Code→Nat
 | .region id _ _=>id
 | .seq a _=>oV a
 | .block _ b=>oV b
 | .loop b=>oV b
 | .scope b=>oV b
 |_=>0
inductive iQ where
 |box (t sz:Nat)
 |mq (t:Nat) (ts:List Nat)
 |jm (t:Nat) (agg:Bool) (sz:Nat) (ts:List Nat)
 |emp (t:Nat)
 |jG (t:Nat)
 |sO (t:Nat) (ts:List Nat)
def gA:List iQ→List Nat
 |[]=>[]
 | .box t _::l=>t::gA l
 | .mq _ ts::l=>ts++gA l
 | .jm t _ _ ts::l=>t::(ts++gA l)
 | .emp t::l=>t::gA l
 | .jG t::l=>t::gA l
 | .sO _ ts::l=>ts++gA l
def jT(h:List (Nat×List iQ))(id:Nat):List iQ:=match h with
 |[]=>[]
 |(j,r)::l=>bif j==id then r else jT l id
def da(gh:List (Nat×List iQ)):Code→List Nat
 | .region id ops _=>gA (jT gh id)++(gA (jT gh (4000000+id))++ops.toList.filterMap (·.dst))
 | .seq a b=>da gh a++da gh b
 | .cond _ a b=>da gh a++da gh b
 | .block _ b=>da gh b
 | .loop b=>da gh b
 | .scope b=>da gh b
 |_=>[]
def af.ax:af→List SV
 | .cells cs=>cs
 | .map l=>[.mp l]
 |_=>[.undef]
def wL(e:Env)(vars:List Nat):List SV:=vars.map fun t=>(e.ak.getD t (.v .undef)).bW
def wD(n:Nat)(e:Env):List (List SV):=(e.boxes.take n).map af.ax
def Slot.stays:Slot→Slot
 | .p b off=>.p b off
 | .c f first cap=>.c f first cap
 | .a b n sz=>.a b n sz
 | .m b=>.m b
 |_=>.v .undef
def place(t:Nat):List Nat→Nat→Option Nat
 |[],_=>none
 |v::l,i=>bif v==t then some i else place t l (i+1)
def ae(vs:List SV)(j:Nat):SV:=vs.getD j .undef
def an(bs:List (List SV))(i:Nat):List SV:=bs.getD i []
def uK(vars consts:List Nat)(vs:List SV):List Slot→Nat→List Slot
 |[],_=>[]
 |s::l,t=>(match place t vars 0 with
  |some j=>.v (ae vs j)
  |none=>bif consts.contains t then s.stays else .v .undef)::uK vars consts vs l (t+1)
def af.isMap:af→Bool
 | .map _=>true
 |_=>false
def mapOf:List SV→List (MK×D)
 |[.mp l]=>l
 |_=>[]
def af.again(cs:List SV):af→af
 | .map _=>.map (mapOf cs)
 | .none =>.none
 |_=>.cells cs
def uL(bs:List (List SV)):List af→Nat→List af
 |[],_=>[]
 |x::l,i=>af.again (an bs i) x::uL bs l (i+1)
structure Hints where
 aH:List (Nat×Nat)
 fk:List (Nat×List Nat×List Nat)
 gh:List (Nat×List iQ):=[]
def qS(h:Hints)(id i:Nat):Bool:=h.aH.any fun p=>p.1==id&&p.2==i
def pG(h:List (Nat×List Nat×List Nat))(id:Nat):List Nat×List Nat:=match h with
 |[]=>([],[])
 |(j,r)::l=>bif j==id then r else pG l id
mutual
def Slot.has(b:Nat):Slot→Bool
 | .p b' _=>b'==b
 | .a b' _ _=>b'==b
 | .m b'=>b'==b
 | .c _ x y=>Slot.yO b x||Slot.yO b y
 |_=>false
def Slot.yO(b:Nat):List Slot→Bool
 |[]=>false
 |s::l=>Slot.has b s||Slot.yO b l
end
def lE(m n:Nat)(x:SV):SV:=if m=n then x else .undef
def DZ(b:Nat)(ra:Nat→SV)(rm:SV):Slot→Slot
 | .a b' n sz=>bif b'==b then .v (ra n)else .a b' n sz
 | .m b'=>bif b'==b then .v rm else .m b'
 | .p b' off=>bif b'==b then .v .undef else .p b' off
 | .c f x y=>bif Slot.yO b x||Slot.yO b y then .v .undef else .c f x y
 |s=>s
def od(b:Nat)(ra:Nat→SV)(rm:SV)(ts:List Nat):List Slot→Nat→List Slot
 |[],_=>[]
 |s::l,i=>(bif ts.contains i then DZ b ra rm s else s)::od b ra rm ts l (i+1)
def wX(b:Nat)(ts:List Nat):List Slot→Nat→Bool
 |[],_=>true
 |s::l,i=>(ts.contains i|| !s.has b)&&wX b ts l (i+1)
def tH(b:Nat):List af→Bool
 |[]=>true
 | .one s::l=> !s.has b&&tH b l
 |_::l=>tH b l
def wY(b:Nat)(ra:Nat→SV)(rm:SV)(ts:List Nat)(e:Env):Env:=⟨od b ra rm ts e.ak 0,e.boxes.set b .none⟩
def oZ(b:Nat)(ts:List Nat)(e:Env):Bool:=wX b ts e.ak 0&&tH b e.boxes
def bc:List D→List SV
 |[]=>[]
 |x::l=>x.cells.map .d ++bc l
def gI(x:SV)(sz:Nat)(A:List D→Prop)(B:Prop):Prop:=match x with
 | .aZ s L=>s=sz∧A L
 | .d _=>B
 |_=>False
def eR(agg:Bool)(sz:Nat):Nat→List D→Option (List D)
 |0,[]=>some []
 |0,_::_=>none
 |n+1,l=>if sz≤l.length then(match eR agg sz n (l.drop sz)with|some r=>some (bE agg (l.take sz)::r)|none=>none)else none
def om(x:SV):Option SV:=match x with
 | .aZ sz L=>some (.own sz L)
 | .d (.sl .nil s L)=>some (.d (.sl .nil (bif Nat.beq s iN then 0 else s) L))
 | .d y=>some (.d y)
 |_=>none
def oo(x:SV):Option SV:=match x with
 | .d (.sl .nil _ L)=>some (.d (.sl .nil iN L))
 | .aZ s L=>some (.aZ s L)
 |_=>none
def gu(e:Env)(k:Env→Prop):iQ→Prop
 | .box t sz=>(match e.ak.getD t (.v .undef)with
   | .v x=>gI x sz (fun L=>k ⟨e.ak.set t (.a e.boxes.length L.length sz),e.boxes++[.cells (bc L)]⟩) (k e)
   |_=>False)
 | .mq t ts=>(match e.ak.getD t (.v .undef)with
   | .a b n _=>(match e.boxes[b]? with
     |some (.cells cs)=>bif oZ b ts e then(ab (dK cs) fun ds=>cs.length=n∧k (wY b (fun m=>lE m n (.d (.sl .ro 1 ds))) .undef ts e))else False
     |_=>False)
   | .m b=>(match e.boxes[b]? with
     |some (.map l)=>bif oZ b ts e then k (wY b (fun _=>.undef) (.mp l) ts e)else False
     |_=>False)
   | .v _=>k e
   |_=>False)
 | .jm t agg sz ts=>(match e.ak.getD t (.v .undef)with
   | .a b n s=>(match e.boxes[b]? with
     |some (.cells cs)=>bif oZ b (t::ts) e&&Nat.beq s sz&&Nat.blt 0 sz&&(agg||Nat.beq sz 1)then(ab (dK cs) fun ds=>ab (eR agg sz n ds) fun L=>
       k ⟨(od b (fun _=>.undef) .undef (t::ts) e.ak 0).set t (.v (.aZ sz L)),e.boxes.set b .none⟩)else False
     |_=>False)
   | .v _=>k e
   |_=>False)
 | .emp t=>(match e.ak.getD t (.v .undef)with
   | .v x=>ab (oo x) fun y=>k ⟨e.ak.set t (.v y),e.boxes⟩
   |_=>False)
 | .jG t=>(match e.ak.getD t (.v .undef)with
   | .v x=>ab (om x) fun y=>k ⟨e.ak.set t (.v y),e.boxes⟩
   |_=>False)
 | .sO t ts=>(match e.ak.getD t (.v .undef)with
   | .p c 0=>(match e.boxes[c]? with
     |some (.one (.m b))=>(match e.boxes[b]? with
      |some (.map l)=>bif !(Nat.beq b c)&&wX b ts e.ak 0&&tH b (e.boxes.set c .none)then k ⟨od b (fun _=>.undef) .undef ts e.ak 0,(e.boxes.set b .none).set c (.cells [.mp l])⟩else False
      |_=>False)
     |_=>False)
   |_=>False)
def hY:List iQ→Env→(Env→Prop)→Prop
 |[],e,k=>k e
 |x::l,e,k=>gu e (fun e'=>hY l e' k) x
def kT(o:Oper):Bool:=match o.op with| .store .. | .mapUpdate .. =>true|_=>false
def jy(o:Oper):Bool:=match o.op with| .store .. | .load .. | .call _| .mapUpdate .. | .lookup .. =>true|_=>false
def jA(aH:Bool)(o:Oper):List Nat:=(match o.dst with|some d=>[d]|none=>[])++(bif aH then tmpsOf o else [])
def indep(all:Array Oper)(G6 B9:Bool)(x y:Oper):Bool:=
 (jA G6 x).all (fun d=> !(y.looksAt all).contains d&& !(jA B9 y).contains d)&&
 (jA B9 y).all (fun d=> !(x.looksAt all).contains d)&&
 !(kT x&&jy y)&& !(kT y&&jy x)&&
 !(G6&&B9&&jy x&&jy y)
end
end Go.Proofs.Ytimbllcalipehaa.Ab
namespace Go.Proofs.Ytimbllcalipehaa.Ab
open Go Go.RowKit
def D.one:D→Bool
 | .agg _=>false
 |_=>true
def qH(w w':World)(b o:Nat):Prop:=w'.cell? ⟨b,o,none⟩=w.cell? ⟨b,o,none⟩∧∀es c,w.heap[b]? =some (.map es c)→w'.heap[b]? =some (.map es c)
theorem qH.refl(w:World)(b o:Nat):qH w w b o:=⟨rfl,fun _ _ h=>h⟩
theorem qH.qF{w w':World}{b o:Nat}(h:w'.heap[b]? =w.heap[b]?):qH w w' b o:=⟨World.cell?_of_block h,fun _ _ hm=>h.trans hm⟩
def wE(w w':World)(g a:Nat):Prop:=a=0→w'.heap[g]? =w.heap[g]?
theorem wE.refl(w:World)(g a:Nat):wE w w g a:=fun _=>rfl
theorem wE.trans{w w' LG:World}{g a:Nat}(h:wE w w' g a)(k:wE w' LG g a):wE w LG g a:=fun h0=>(k h0).trans (h h0)
def yP:KS→Value→Prop
 | .bool b,v=>v=.bool b
 | .int k n,v=>v=.int k n∧iG k n=true
 | .str s,v=>∃b:ByteArray,v=.string b∧b.data.toList=s∧b.size≤maxLen
def MK.Is:MK→Value→Prop
 | .i n,v=>v=.int .i64 n∧iG .i64 n=true
 | .s l,v=>∃vs:Array Value,v=.agg vs∧vs.size=l.length∧∀(i:Nat)k u,l[i]? =some k→vs[i]? =some u→yP k u
section
variable(w:World)(St:Nat→Nat→Prop)
inductive bh:D→Value→Prop
 |bool (b:Bool):bh (.bool b) (.bool b)
 |int (k:IntKind) (n:Int) (h:iG k n=true):bh (.int k n) (.int k n)
 |str (s:ByteArray) (h:s.size≤maxLen):bh (.str s.data.toList) (.string s)
 |agg (ds:List D) (vs:Array Value) (hf:∀d∈ds,d.one=true) (hl:ds.length=vs.size) (hc:∀(i:Nat)d v,ds[i]? =some d→vs[i]? =some v→bh d v):bh (.agg ds) (.agg vs)
 |jU (sz:Nat):bh (.sl .nil sz []) (.slice none 0 0)
 |sl (sz:Nat) (L:List D) (b off cap:Nat) (vs:Nat→Value) (bM:L.length≤cap) (hm:L.length≤maxLen) (aM:∀x∈L,x.cells.length=sz)
   (hf:∀x∈L,∀c∈x.cells,c.one=true) (aR:∀(o:Nat),o<L.length*sz→w.cell? ⟨b,off+o,none⟩=some (vs o)∧St b (off+o))
   (hc:∀(i:Nat)x(j:Nat)c,L[i]? =some x→x.cells[j]? =some c→bh c (vs (i*sz+j))):
   bh (.sl .ro sz L) (.slice (some ⟨b,off,none⟩) L.length cap)
 |mr (sz:Nat) (a:Addr) (cap:Nat) (ha:a.spot≠none):bh (.sl .ro sz []) (.slice (some a) 0 cap)
 |fn (f:Fn):bh (.fn f) (.func f #[] #[])
 |wU:bh .wU .nilFunc
 |iface (t:TypeId) (x:D) (v:Value) (h:bh x v):bh (.iface t x) (.iface t v)
 |wV:bh .wV .nilIface
 |nZ:bh .nZ (.pointer none)
inductive aP(base:Nat):(Nat→Nat→Nat→Prop)→SV→Value→Prop
 |d (O:Nat→Nat→Nat→Prop) (x:D) (v:Value) (h:bh w St x v):aP base O (.d x) v
 |own (O:Nat→Nat→Nat→Prop) (sz:Nat) (L:List D) (g cap:Nat) (h:bh w St (.sl .ro sz L) (.slice (some ⟨g,0,none⟩) L.length cap)) (bM:cap≤maxLen)
   (ho:O g (L.length*sz) (cap*sz)):aP base O (.own sz L) (.slice (some ⟨g,0,none⟩) L.length cap)
 |full (O:Nat→Nat→Nat→Prop) (sz:Nat) (L:List D) (a:Addr) (h:bh w St (.sl .ro sz L) (.slice (some a) L.length L.length)):
   aP base O (.full sz L) (.slice (some a) L.length L.length)
 |ref (O:Nat→Nat→Nat→Prop) (cs:List SV) (off b o:Nat) (vs:Nat→Value) (hb:b<base)
   (aR:∀(i:Nat),i<cs.length→w.cell? ⟨b,o+i,none⟩=some (vs i)∧(vs i).oneCell' =true)
   (hc:∀(i:Nat)c,cs[i]? =some c→aP base (fun _ _ _=>False) c (vs i)):aP base O (.ref cs off) (.pointer (some ⟨b,o+off,none⟩))
 |cU (O:Nat→Nat→Nat→Prop) (n sz:Nat) (cs:List SV) (b cap:Nat) (vs:Nat→Value) (hb:b<base) (hn:n≤cap) (hm:cap≤maxLen)
   (aR:∀(i:Nat),i<cs.length→w.cell? ⟨b,0+i,none⟩=some (vs i)∧(vs i).oneCell' =true)
   (hc:∀(i:Nat)c,cs[i]? =some c→aP base (fun _ _ _=>False) c (vs i)):aP base O (.cU n sz cs) (.slice (some ⟨b,0,none⟩) n cap)
 |aX (O:Nat→Nat→Nat→Prop) (x:D) (off b o:Nat) (vs:Nat→Value) (hf:∀c∈x.cells,c.one=true)
   (aR:∀(i:Nat),i<x.cells.length→w.cell? ⟨b,o+i,none⟩=some (vs i)∧St b (o+i))
   (hc:∀(i:Nat)c,x.cells[i]? =some c→bh w St c (vs i)):aP base O (.aX x off) (.pointer (some ⟨b,o+off,none⟩))
 |dT (O:Nat→Nat→Nat→Prop) (f:Fn) (first cap:List SV) (fv cv:Array Value) (hf:first.length=fv.size) (hc:cap.length=cv.size)
   (rf:∀(i:Nat)x v,first[i]? =some x→fv[i]? =some v→aP base (fun _ _ _=>False) x v)
   (rc:∀(i:Nat)x v,cap[i]? =some x→cv[i]? =some v→aP base (fun _ _ _=>False) x v):aP base O (.dT f first cap) (.func f fv cv)
 |aZ (O:Nat→Nat→Nat→Prop) (sz:Nat) (L:List D) (g cap:Nat) (vs:Nat→Value) (bM:L.length≤cap) (hm:cap≤maxLen) (aM:∀x∈L,x.cells.length=sz) (hf:∀x∈L,∀c∈x.cells,c.one=true)
   (ho:O g 0 (cap*sz)) (aR:∀(o:Nat),o<L.length*sz→w.cell? ⟨g,o,none⟩=some (vs o))
   (hc:∀(i:Nat)x(j:Nat)c,L[i]? =some x→x.cells[j]? =some c→bh w St c (vs (i*sz+j))):aP base O (.aZ sz L) (.slice (some ⟨g,0,none⟩) L.length cap)
 |mp (O:Nat→Nat→Nat→Prop) (l:List (MK×D)) (r:Nat) (es:Array MapEntry) (clock:Nat) (hh:w.heap[r]? =some (.map es clock)) (hs:St r 0) (hl:l.length=es.size)
   (hc:∀(i:Nat)x y,l[i]? =some x→es[i]? =some y→x.1.Is y.key∧True∧bh w St x.2 y.val):aP base O (.mp l) (.map (some r))
 |nest (O:Nat→Nat→Nat→Prop) (LL:List (List D)) (g cap:Nat) (bk cp:Nat→Nat) (bM:LL.length≤cap) (hm:cap≤maxLen) (ho:O g 0 cap)
   (aR:∀(i:Nat)L,LL[i]? =some L→w.cell? ⟨g,i,none⟩=some (.slice (some ⟨bk i,0,none⟩) L.length (cp i)))
   (oq:∀(i:Nat)L,LL[i]? =some L→O (bk i) 0 (cp i)∧L.length≤cp i∧cp i≤maxLen∧bk i≠g∧(∀x∈L,x.pL=true)∧∀(j:Nat)x,L[j]? =some x→∃v,w.cell? ⟨bk i,j,none⟩=some v∧bh w St x v)
   (tN:∀(i j:Nat)L M,LL[i]? =some L→LL[j]? =some M→bk i=bk j→i=j):aP base O (.nest LL) (.slice (some ⟨g,0,none⟩) LL.length cap)
 |undef (O:Nat→Nat→Nat→Prop) (v:Value):aP base O .undef v
end
theorem bh.mono{w w':World}{St bS:Nat→Nat→Prop}(h:∀b o,St b o→bS b o∧w'.cell? ⟨b,o,none⟩=w.cell? ⟨b,o,none⟩){d:D}{v:Value}
  (r:bh w St d v):bh w' bS d v:=by
 induction r with
 |bool b=>exact .bool b
 |int k n hk=>exact .int k n hk
 |str s hs=>exact .str s hs
 |agg ds vs hf hl _ ih=>exact .agg ds vs hf hl ih
 |jU sz=>exact .jU sz
 |sl sz L b off cap vs bM hm aM hf aR _ ih=>
  exact .sl sz L b off cap vs bM hm aM hf (fun o ho=>⟨(h _ _ (aR o ho).2).2.trans (aR o ho).1,(h _ _ (aR o ho).2).1⟩) ih
 |mr sz a cap ha=>exact .mr sz a cap ha
 |fn f=>exact .fn f
 |wU=>exact .wU
 |iface t x v _ ih=>exact .iface t x v ih
 |wV=>exact .wV
 |nZ=>exact .nZ
theorem aP.mono{w w':World}{St bS:Nat→Nat→Prop}{base:Nat}(h0:∀b o,St b o→bS b o∧qH w w' b o)
  (hb:∀b o,b<base→w'.cell? ⟨b,o,none⟩=w.cell? ⟨b,o,none⟩){O:Nat→Nat→Nat→Prop}{x:SV}{v:Value}(r:aP w St base O x v):
  ∀O':Nat→Nat→Nat→Prop,(∀g a c,O g a c→O' g a c∧wE w w' g a)→aP w' bS base O' x v:=by
 have h:∀b o,St b o→bS b o∧w'.cell? ⟨b,o,none⟩=w.cell? ⟨b,o,none⟩:=fun b o hs=>⟨(h0 b o hs).1,(h0 b o hs).2.1⟩
 induction r with
 |d O x v hd=>exact fun O' _=>.d O' x v (hd.mono h)
 |own O sz L g cap hd bM ho=>exact fun O' hO=>.own O' sz L g cap (hd.mono h) bM (hO _ _ _ ho).1
 |full O sz L a hd=>exact fun O' _=>.full O' sz L a (hd.mono h)
 |ref O cs off b o vs fh aR _ ih=>exact fun O' _=>.ref O' cs off b o vs fh (fun i hi=>⟨(hb _ _ fh).trans (aR i hi).1,(aR i hi).2⟩) fun i c hc=>ih i c hc _ (fun _ _ _ h=>h.elim)
 |cU O n sz cs b cap vs fh hn hm aR _ ih=>exact fun O' _=>.cU O' n sz cs b cap vs fh hn hm (fun i hi=>⟨(hb _ _ fh).trans (aR i hi).1,(aR i hi).2⟩) fun i c hc=>ih i c hc _ (fun _ _ _ h=>h.elim)
 |aX O x off b o vs hf aR hc=>
  exact fun O' _=>.aX O' x off b o vs hf (fun i hi=>⟨(h _ _ (aR i hi).2).2.trans (aR i hi).1,(h _ _ (aR i hi).2).1⟩) fun i c hi=>(hc i c hi).mono h
 |dT O f first cap fv cv hf hc _ _ kB kC=>exact fun O' _=>.dT O' f first cap fv cv hf hc (fun i x v a b=>kB i x v a b _ (fun _ _ _ h=>h.elim)) (fun i x v a b=>kC i x v a b _ (fun _ _ _ h=>h.elim))
 |aZ O sz L g cap vs bM hm aM hf ho aR hc=>
  exact fun O' hO=>.aZ O' sz L g cap vs bM hm aM hf (hO _ _ _ ho).1 (fun o bQ=>(World.cell?_of_block ((hO _ _ _ ho).2 rfl)).trans (aR o bQ)) fun i x j c hx iZ=>(hc i x j c hx iZ).mono h
 |mp O l r es clock hh hs hl hc=>exact fun O' _=>.mp O' l r es clock ((h0 r 0 hs).2.2 es clock hh) (h r 0 hs).1 hl fun i x y a b=>⟨(hc i x y a b).1,(hc i x y a b).2.1,(hc i x y a b).2.2.mono h⟩
 |nest O LL g cap bk cp bM hm ho aR oq tN=>exact fun O' hO=>.nest O' LL g cap bk cp bM hm (hO _ _ _ ho).1 (fun i L hL=>(World.cell?_of_block ((hO _ _ _ ho).2 rfl)).trans (aR i L hL)) (fun i L hL=>(by
   obtain⟨h1,h2,h3,h4,h5,h6⟩:=oq i L hL
   exact⟨(hO _ _ _ h1).1,h2,h3,h4,h5,fun j x hx=>(by
    obtain⟨v,k1,k2⟩:=h6 j x hx
    exact⟨v,(World.cell?_of_block ((hO _ _ _ h1).2 rfl)).trans k1,k2.mono h⟩)⟩)) tN
 |undef O v=>exact fun O' _=>.undef O' v
theorem aP.aa{w:World}{St:Nat→Nat→Prop}{base:Nat}{O O':Nat→Nat→Nat→Prop}{x:SV}{v:Value}(r:aP w St base O x v):aP w St base O' (aa x) v:=by
 cases r with
 |d _ x v hd=>exact .d _ x v hd
 |own _ sz L g cap hd bM ho=>exact .d _ _ _ hd
 |full _ sz L a hd=>exact .full _ sz L a hd
 |ref _ cs off b o vs fh aR hc=>exact .ref _ cs off b o vs fh aR hc
 |cU _ n sz cs b cap vs fh hn hm aR hc=>exact .cU _ n sz cs b cap vs fh hn hm aR hc
 |aX _ x off b o vs hf aR hc=>exact .aX _ x off b o vs hf aR hc
 |dT _ f first cap fv cv hf hc rf rc=>exact .dT _ f first cap fv cv hf hc rf rc
 |aZ _ sz L g cap vs bM hm aM hf ho aR hc=>exact .undef _ _
 |mp _ l r es clock hh hs hl hc=>exact .mp _ l r es clock hh hs hl hc
 |nest _ LL g cap bk cp bM hm ho aR oq tN=>exact .undef _ _
 |undef _ v=>exact .undef _ _
theorem aP.dA{w:World}{St:Nat→Nat→Prop}{base:Nat}{O:Nat→Nat→Nat→Prop}{x:SV}{v:Value}(r:aP w St base O x v){y:D}(h:Ab.dA x=some y):bh w St y v:=by
 cases r<;>simp only[Ab.dA,Option.some.injEq,reduceCtorEq]at h<;>subst h<;>assumption
mutual
def SV.Wf:SV→Prop
 | .d x=>x.Wf
 | .own sz L=>(D.sl .ro sz L).Wf
 | .full sz L=>(D.sl .ro sz L).Wf
 | .aZ sz L=>(D.sl .ro sz L).Wf
 | .ref cs _=>SV.iH cs
 | .cU _ _ cs=>SV.iH cs
 | .aX x _=>D.iH x.cells
 | .dT _ a b=>SV.iH a∧SV.iH b
 | .aJ l=>SV.iH l
 | .mp l=>∀x∈l,x.2.Wf
 | .nest _=>True
 | .undef =>True
def SV.iH:List SV→Prop
 |[]=>True
 |x::l=>x.Wf∧SV.iH l
end
theorem D.mK:∀(l:List D),D.iH l↔∀x∈l,x.Wf
 |[]=>by simp[D.iH]
 |x::l=>by simp[D.iH,D.mK l]
theorem SV.mK:∀(l:List SV),SV.iH l↔∀x∈l,x.Wf
 |[]=>by simp[SV.iH]
 |x::l=>by simp[SV.iH,SV.mK l]
theorem bh.U2{w:World}{St:Nat→Nat→Prop}{d:D}{v:Value}(r:bh w St d v):∀c∈d.cells,c.one=true:=by
 cases r with
 |agg ds vs hf hl hc=>exact hf
 |_=>intro c hc;simp only[D.cells,List.mem_singleton]at hc;subst hc;rfl
theorem bh.uS{w:World}{St:Nat→Nat→Prop}{d:D}{v:Value}(r:bh w St d v)(h:d.one=true):v.oneCell'=true:=by
 cases r<;>first|rfl|simp[D.one]at h
theorem bh.wf{w:World}{St:Nat→Nat→Prop}{d:D}{v:Value}(r:bh w St d v):d.Wf:=by
 induction r with
 |int k n hk=>simpa[D.Wf]using hk
 |str s hs=>rw[D.Wf];exact hs
 |agg ds vs hf hl _ ih=>
  rw[D.Wf,D.mK]
  intro x hx
  obtain⟨i,hi,rfl⟩:=List.mem_iff_getElem.1 hx
  exact ih i _ (vs[i]'(by omega)) (by simp) (by simp)
 |jU sz=>simp[D.Wf,D.iH]
 |mr sz a cap=>simp[D.Wf,D.iH]
 |sl sz L b off cap vs bM hm aM hf aR hc ih=>
  rw[D.Wf]
  refine⟨hm,by simp,aM,?_⟩
  rw[D.mK]
  intro x hx
  obtain⟨i,hi,rfl⟩:=List.mem_iff_getElem.1 hx
  have key:∀c∈(L[i]).cells,c.Wf:=fun c gB=>by
   obtain⟨j,hj,rfl⟩:=List.mem_iff_getElem.1 gB
   exact ih i _ j _ (List.getElem?_eq_getElem hi) (List.getElem?_eq_getElem hj)
  cases hL:L[i]with
  |agg cs=>rw[hL]at key;rw[D.Wf,D.mK];exact key
  |_=>rw[hL]at key;exact key _ (by simp[D.cells])
 |iface t x v _ ih=>simpa[D.Wf]using ih
 |_=>simp[D.Wf]
theorem aP.wf{w:World}{St:Nat→Nat→Prop}{base:Nat}{O:Nat→Nat→Nat→Prop}{x:SV}{v:Value}(r:aP w St base O x v):x.Wf:=by
 induction r with
 |d O x v hd=>simpa[SV.Wf]using hd.wf
 |own O sz L g cap hd bM ho=>simpa[SV.Wf]using hd.wf
 |full O sz L a hd=>simpa[SV.Wf]using hd.wf
 |aZ O sz L g cap vs bM hm aM hf ho aR hc=>
  rw[SV.Wf,D.Wf]
  refine⟨Nat.le_trans bM hm,by simp,aM,?_⟩
  rw[D.mK]
  intro x hx
  obtain⟨i,hi,rfl⟩:=List.mem_iff_getElem.1 hx
  have key:∀c∈(L[i]).cells,c.Wf:=fun c gB=>by
   obtain⟨j,hj,rfl⟩:=List.mem_iff_getElem.1 gB
   exact(hc i _ j _ (List.getElem?_eq_getElem hi) (List.getElem?_eq_getElem hj)).wf
  cases hL:L[i]with
  |agg cs=>rw[hL]at key;rw[D.Wf,D.mK];exact key
  |_=>rw[hL]at key;exact key _ (by simp[D.cells])
 |ref O cs off b o vs fh aR _ ih=>
  rw[SV.Wf,SV.mK]
  intro x hx
  obtain⟨i,hi,rfl⟩:=List.mem_iff_getElem.1 hx
  exact ih i _ (by simp)
 |cU O n sz cs b cap vs fh hn hm aR _ ih=>
  rw[SV.Wf,SV.mK]
  intro x hx
  obtain⟨i,hi,rfl⟩:=List.mem_iff_getElem.1 hx
  exact ih i _ (by simp)
 |aX O x off b o vs hf aR hc=>
  rw[SV.Wf,D.mK]
  intro c gB
  obtain⟨j,hj,rfl⟩:=List.mem_iff_getElem.1 gB
  exact(hc j _ (by simp)).wf
 |dT O f first cap fv cv hf hc _ _ kB kC=>
  rw[SV.Wf,SV.mK,SV.mK]
  constructor
  ·intro x hx
   obtain⟨i,hi,rfl⟩:=List.mem_iff_getElem.1 hx
   exact kB i _ (fv[i]'(by omega)) (by simp) (by simp)
  ·intro x hx
   obtain⟨i,hi,rfl⟩:=List.mem_iff_getElem.1 hx
   exact kC i _ (cv[i]'(by omega)) (by simp) (by simp)
 |mp O l r es clock hh hs hl hc=>
  rw[SV.Wf]
  intro x hx
  obtain⟨i,hi,rfl⟩:=List.mem_iff_getElem.1 hx
  exact(hc i _ (es[i]'(by omega)) (by simp) (by simp)).2.2.wf
 |nest=>simp[SV.Wf]
 |undef=>simp[SV.Wf]
inductive Pos where
 |s (i j:Nat)
 |b (i j:Nat)
 deriving DecidableEq
structure Gh where
 St:Nat→Nat→Prop
 bx:List (Option Nat)
 ow:Nat→Option Pos
def fa(base:Nat)(w:World)(g:Gh)(p:Pos)(b a c:Nat):Prop:=
 g.ow b=some p∧base≤b∧some b∉g.bx∧(∃cur e,w.heap[b]? =some (.cells cur e (0,0))∧cur.size=c)∧∀o,a≤o→¬g.St b o
inductive cE(base:Nat)(w:World)(g:Gh):(Nat→Nat→Nat→Nat→Prop)→Slot→Value→Prop
 |v (O:Nat→Nat→Nat→Nat→Prop) (x:SV) (y:Value) (h:aP w g.St base (O 0) x y):cE base w g O (.v x) y
 |p (O:Nat→Nat→Nat→Nat→Prop) (b off ao:Nat) (h:g.bx[b]? =some (some ao)):cE base w g O (.p b off) (.pointer (some ⟨ao,off,none⟩))
 |c (O:Nat→Nat→Nat→Nat→Prop) (f:Fn) (first cap:List Slot) (fv cv:Array Value) (hf:first.length=fv.size) (hc:cap.length=cv.size)
   (rf:∀(i:Nat)x v,first[i]? =some x→fv[i]? =some v→cE base w g (fun _ _ _ _=>False) x v)
   (rc:∀(i:Nat)x v,cap[i]? =some x→cv[i]? =some v→cE base w g (fun _ _ _ _=>False) x v):cE base w g O (.c f first cap) (.func f fv cv)
 |a (O:Nat→Nat→Nat→Nat→Prop) (b n sz:Nat) (v:Value) (hm:n≤maxLen) (h:∃ao cap,g.bx[b]? =some (some ao)∧n≤cap∧v=.slice (some ⟨ao,0,none⟩) n cap∧cap≤maxLen∧∃c ty,w.heap[ao]? =some (.cells c ty (0,0))∧c.size=cap*sz):cE base w g O (.a b n sz) v
 |m (O:Nat→Nat→Nat→Nat→Prop) (b ao:Nat) (h:g.bx[b]? =some (some ao)):cE base w g O (.m b) (.map (some ao))
 |t (O:Nat→Nat→Nat→Nat→Prop) (xs:List SV) (vs:Array Value) (hl:xs.length=vs.size)
   (hc:∀(j:Nat)x v,xs[j]? =some x→vs[j]? =some v→aP w g.St base (O j) x v):cE base w g O (.t xs) (.tuple vs)
def fO(base:Nat)(w:World)(g:Gh)(i j:Nat):Nat→Nat→Nat→Prop:=fa base w g (.s i j)
def u6(base:Nat)(w:World)(g:Gh)(i j:Nat):Nat→Nat→Nat→Prop:=fa base w g (.b i j)
def af.size:af→Nat
 | .cells cs=>cs.length
 | .one _=>1
 |_=>0
def YI(base:Nat)(w:World)(g:Gh)(b:Nat)(bx:af)(ao:Nat):Prop:=
 base≤ao∧∃c t,w.heap[ao]? =some (.cells c t (0,0))∧(∀(j:Nat)y,j<bx.size→c[j]? =some y→y.oneCell'=true)∧match bx with
  | .none =>False
  | .map _=>False
  | .cells cs=>cs.length≤c.size∧∀(j:Nat)x y,cs[j]? =some x→c[j]? =some y→aP w g.St base (u6 base w g b j) x y
  | .one s=>0<c.size∧∀y,c[0]? =some y→cE base w g (fun _=>u6 base w g b 0) s y
def ajs(base:Nat)(w:World)(g:Gh)(l:List (MK×D))(ao:Nat):Prop:=
 base≤ao∧∃es clock,w.heap[ao]? =some (.map es clock)∧l.length=es.size∧∀(i:Nat)x y,l[i]? =some x→es[i]? =some y→x.1.Is y.key∧True∧bh w g.St x.2 y.val
def qX(base:Nat)(w:World)(g:Gh)(b:Nat)(bx:af)(ao:Nat):Prop:=match bx with
 | .map l=>ajs base w g l ao
 | .none =>False
 | .cells cs=>YI base w g b (.cells cs) ao
 | .one s=>YI base w g b (.one s) ao
theorem qX.low{base:Nat}{w:World}{g:Gh}{b:Nat}{bx:af}{ao:Nat}(h:qX base w g b bx ao):base≤ao:=by
 cases bx<;>first|exact h.1|exact h.elim
def yr(gl:Nat→Option D)(w:World)(St:Nat→Nat→Prop):Prop:=
 ∀n x,gl n=some x→(∀c∈x.cells,c.one=true)∧∃vs:Nat→Value,(∀(i:Nat),i<x.cells.length→w.cell? ⟨n,i,none⟩=some (vs i)∧St n i)∧∀(i:Nat)c,x.cells[i]? =some c→bh w St c (vs i)
structure S0 where
 St:Nat→Nat→Prop
 df:Nat→Obj→Prop
 cl:Nat→Nat→Value→Prop
 sz:Nat:=0
instance:CoeFun S0 (fun _=>Nat→Nat→Prop):=⟨S0.St⟩
theorem fL{w:World}{D:Nat}{x:Obj}(h:w.heap[D]? =some x):D<w.heap.size:=(Array.getElem?_eq_some_iff.1 h).1
structure Inv(gl:Nat→Option D)(w0:World)(ar:S0)(e:Env)(a:Act)(w:World)(g:Gh):Prop where
 below:Below w0.heap.size w0 w
 size:a.tmps.size=e.ak.length
 ak:∀(i:Nat)s,e.ak[i]? =some s→cE w0.heap.size w g (fO w0.heap.size w g i) s (a.tmps.getD i undef)
 fQ:g.bx.length=e.boxes.length
 boxes:∀(b:Nat)bx ao,e.boxes[b]? =some bx→g.bx[b]? =some (some ao)→qX w0.heap.size w g b bx ao
 nodup:∀(i j:Nat)ao,g.bx[i]? =some (some ao)→g.bx[j]? =some (some ao)→i=j
 gU:∀b o,ar b o→g.St b o
 cW:∀b o,g.St b o→(ar b o∨w0.heap.size≤b)∧some b∉g.bx∧b<w.heap.size
 dF:∀b,some b∈g.bx→w0.heap.size≤b∧b<w.heap.size
 lg:yr gl w g.St
 defers:a.defers=[]
 fT:∀(D:Nat)(o:Obj),ar.df D o→some D∉g.bx∧g.ow D=none∧w.heap[D]? =some o∧∀x,g.St D x→ar.St D x
 cls:∀(b o:Nat)(v:Value),ar.cl b o v→g.St b o∧w.cell? ⟨b,o,none⟩=some v
 kD:ar.sz≤w.heap.size
end Go.Proofs.Ytimbllcalipehaa.Ab
namespace Go.Proofs.Ytimbllcalipehaa.Ab
open Go
def reach:(acc:List Nat)→List Oper→List Nat
 |acc,[]=>acc
 |acc,o::l=>reach (acc++[o.after.toList.foldl (fun s e=>bif Region.binds .any e then s|||2^e.on|||acc.getD e.on 0 else s) 0]) l
def pD(o:Oper):Option Nat:=match o.op,o.guard with| .alloc _,none=>o.dst|_,_=>none
def mg(l:List Oper):List Nat:=l.filterMap pD
def Hz(A:List Nat):Operand→Bool
 | .tmp t=>A.contains t
 |_=>false
def qM(A:List Nat)(o:Oper):Option Nat:=match o.op with
 | .store _ (.tmp a) _=>bif A.contains a then some a else none
 |_=>none
def Gs(A:List Nat)(aH:Bool)(o:Oper):Bool:=
 (match pD o with|some _=>true|none=> !iA o&&(match o.dst with|some d=> !A.contains d|none=>true))&&
 (match o.op with
   | .store _ x y=> !Hz A y&&(!Hz A x|| !aH)
   |op=>op.operands.toList.all fun x=> !Hz A x)
def Kk:List Nat→Bool
 |[]=>true
 |a::l=> !l.contains a&&Kk l
def FH(a m:Nat):List Oper→Nat→Bool
 |[],_=>true
 |o::l,i=>(match pD o with|some b=> !(Nat.beq a b)||Nat.testBit m i|none=>true)&&FH a m l (i+1)
def JD(all:List Oper)(A:List Nat)(aH:Nat→Bool)(R:List Nat):List Oper→Nat→Bool
 |[],_=>true
 |o::l,i=>Gs A (aH i) o&&(match qM A o with|some a=>FH a (R.getD i 0) all 0|none=>true)&&JD all A aH R l (i+1)
def eligible(l:List Oper)(aH:Nat→Bool)(R:List Nat):Bool:=Kk (mg l)&&JD l (mg l) aH R l 0
def KF(A:List Nat)(lx ly:Bool)(x y:Oper):Bool:=match qM A x,qM A y with
 |some a,some b=> !(Nat.beq a b)&& !lx&& !ly
 |some _,none=> !lx&& !kT y&& !ly
 |none,some _=> !ly&& !kT x&& !lx
 |none,none=>false
def Pg(all:Array Oper)(A:List Nat)(G6 B9:Bool)(x y:Oper):Bool:=
 (jA G6 x).all (fun d=> !(y.looksAt all).contains d&& !(jA B9 y).contains d)&&
 (jA B9 y).all (fun d=> !(x.looksAt all).contains d)&&KF A G6 B9 x y
def DL(E:Option (List Nat))(all:Array Oper)(lx ly:Bool)(x y:Oper):Bool:=
 indep all lx ly x y||(match E with|some A=>Pg all A lx ly x y|none=>false)
def Kl(E:Option (List Nat))(ops:Array Oper)(aH:Nat→Bool)(R:List Nat)(i:Nat)(o:Oper):List Oper→Nat→Bool
 |[],_=>true
 |p::l,j=>(Nat.testBit (R.getD j 0) i||DL E ops (aH i) (aH j) o p)&&Kl E ops aH R i o l (j+1)
def Ai(E:Option (List Nat))(ops:Array Oper)(aH:Nat→Bool)(R:List Nat):List Oper→Nat→Bool
 |[],_=>true
 |o::l,i=>o.after.toList.all (fun e=> !Region.binds .any e||Nat.blt e.on i)&&Kl E ops aH R i o l (i+1)&&Ai E ops aH R l (i+1)
def oe(aH:Nat→Bool)(ops:Array Oper):Bool:=
 bif eligible ops.toList aH (reach [] ops.toList)then Ai (some (mg ops.toList)) ops aH (reach [] ops.toList) ops.toList 0
 else Ai none ops aH (reach [] ops.toList) ops.toList 0
def qN(m:Nat):List Oper→Nat→List Nat
 |[],_=>[]
 |o::l,i=>bif !Nat.testBit m i&&o.after.toList.all (fun e=> !Region.binds .any e||Nat.testBit m e.on)then i::qN m l (i+1)else qN m l (i+1)
def KG(ops:Array Oper)(aH:Nat→Bool)(R:List Nat)(m i:Nat)(o:Oper):List Oper→Nat→Bool
 |[],_=>true
 |p::l,j=>(Nat.beq i j||Nat.testBit m j||Nat.testBit (R.getD j 0) i||indep ops (aH i) (aH j) o p)&&KG ops aH R m i o l (j+1)
def Km(ops:Array Oper)(aH:Nat→Bool)(R:List Nat)(m i:Nat):Bool:=match ops.toList[i]? with
 |some o=>KG ops aH R m i o ops.toList 0
 |none=>false
def firstFree(ops:Array Oper)(aH:Nat→Bool)(R:List Nat)(m:Nat):List Nat→Option Nat
 |[]=>none
 |i::l=>bif Km ops aH R m i then some i else firstFree ops aH R m l
def YJ(ops:Array Oper)(aH:Nat→Bool)(R:List Nat)(m:Nat):List Nat:=match firstFree ops aH R m (qN m ops.toList 0)with
 |some i=>[i]
 |none=>qN m ops.toList 0
def K1(f:Nat→Prop):List Nat→Prop
 |[]=>True
 |i::l=>match l with|[]=>f i|_=>f i∧K1 f l
def ajt(gh:List (Nat×List iQ))(id:Nat):Bool:=gh.any fun p=>Nat.beq p.1 id&&p.2.isEmpty
mutual
def SV.aD:SV→Bool
 | .ref _ _=>false
 | .cU _ _ _=>false
 | .dT _ a b=>SV.iB a&&SV.iB b
 | .aJ l=>SV.iB l
 |_=>true
def SV.iB:List SV→Bool
 |[]=>true
 |x::l=>SV.aD x&&SV.iB l
end
def DF(ws vars consts:List Nat):List Slot→Nat→Bool
 |[],_=>true
 |s::l,t=>(match s with| .v _=>true| .t _=>true|_=>ws.contains t||(!vars.contains t&&consts.contains t))&&DF ws vars consts l (t+1)
section
variable(P:Program)(gl:Nat→Option D)(C:bA)(h:Hints)
def Ca(ops:Array Oper)(aH:Nat→Bool)(R:List Nat)(base:Nat)(Q:Env→Prop):Nat→Nat→Env→Prop
 |0,m,e=>bif (qN m ops.toList 0).isEmpty then Q e else False
 |n+1,m,e=>bif (qN m ops.toList 0).isEmpty then Q e else
   K1 (fun i=>match ops.toList[i]? with
    |some o=>BV ops.toList o e (fun e'=>pN P gl C (base+fM ops.toList i) (aH i) o e' fun nD=>Ca ops aH R base Q n (m|||2^i) nD) (fun e'=>Ca ops aH R base Q n (m|||2^i) ⟨cS e'.ak o.dst (.t []),e'.boxes⟩)
    |none=>False) (YJ ops aH R m)
def akt(ops:Array Oper)(aH:Nat→Bool)(e:Env)(Q:Env→Prop):Prop:=
 Ca P gl C ops aH (reach [] ops.toList) e.boxes.length Q ops.toList.length 0 ⟨e.ak,e.boxes++List.replicate (fM ops.toList ops.toList.length) .none⟩
def yQ(ok:Bool)(ops:Array Oper)(aH:Nat→Bool)(e:Env)(Q:Env→Prop)(e':Env):Prop:=
 bif ok then Q e' else akt P gl C ops aH e (fun x=>x=e')∧Q e'
def qT(e:Env)(c:Operand)(A B:Env→Prop):Prop:=match c with
 | .tmp t=>(match e.ak.getD t (.v .undef)with
   | .v x=>au x (A (e.AF t true)) (B (e.AF t false))
   |_=>False)
 | .const (.bool b)=>cond b (A e) (B e)
 |_=>False
def ag6(a b:Code):Nat:=bif Nat.beq (oV a) 0 then oV b else oV a
def qU(A:(List SV→List (List SV)→Prop)→Prop)(F:List SV→List (List SV)→Prop):Prop:=A F
def tI(key:Nat)(c:Code)(e:Env)(Q:Ex→Env→Prop)(T:(Ex→Env→Prop)→Prop):Prop:=
 match pG h.fk key with
 |([],[])=>T Q
 |(vars,consts)=>bif consts.all (fun t=> !(da h.gh c).contains t)&&DF (da h.gh c) vars consts e.ak 0 then
    qU (fun J=>T (fun x e'=>match x with| .normal =>J (wL e' vars) (wD e.boxes.length e')| .exit i=>Q (.exit i) e'| .ret =>Q .ret e'))
     (fun vs bs=>Q .normal ⟨uK vars consts vs e.ak 0,uL bs e.boxes 0⟩)
  else False
inductive Spec where
 |zm (t d:Nat) (ty:TypeId)
 |cut (t d1 d2:Nat) (ty:TypeId)
 |yR (t d:Nat) (f:FuncId) (dst:Nat)
 |yF (t d t2 d2:Nat) (f:FuncId) (dst:Nat)
 |push (t u d1 d2 d3 d4:Nat) (ty:TypeId)
 |tO (t i j d1 d2 d3 d4 d5 d6:Nat) (pR mP pS:TypeId) (b:Bool)
def tP(o:Oper):Option (Nat×Nat):=match o.op,o.dst,o.guard with| .move (.tmp t),some d,none=>some (t,d)|_,_,_=>none
def K2(o:Oper):Option (Nat×Nat):=match o.op,o.dst,o.guard with| .assign (.tmp t),some d,none=>some (t,d)|_,_,_=>none
def K3(o:Oper):Option (TypeId×Nat×Nat):=match o.op,o.dst,o.guard with
 | .buildSlice ty n ps,some d,none=>(match n,ps.toList with|1,[(0,.tmp t)]=>some (ty,t,d)|_,_=>none)
 |_,_,_=>none
def K4(o:Oper):Option (TypeId×Nat×Nat×Nat):=match o.op,o.dst,o.guard with
 | .call c,some d,none=>(match c.callee,c.args.toList,c.argTypes.toList with
   | .builtin .append,[.tmp x,.tmp y],[t,u]=>bif Nat.beq t u then some (t,x,y,d)else none
   |_,_,_=>none)
 |_,_,_=>none
def Ec(o:Oper):Option (TypeId×Nat×Nat×Nat):=match o.op,o.dst,o.guard with| .indexAddr ty (.tmp x) (.tmp i),some d,none=>some (ty,x,i,d)|_,_,_=>none
def K5(o:Oper):Option (TypeId×Nat×Nat):=match o.op,o.dst,o.guard with| .load ty (.tmp x),some d,none=>some (ty,x,d)|_,_,_=>none
def K6(o:Oper):Option (TypeId×Nat×Bool):=match o.op,o.dst,o.guard with| .store ty (.tmp x) (.const (.bool b)),none,none=>some (ty,x,b)|_,_,_=>none
def distinct(t:Nat)(l:List Nat):Bool:=l.all fun d=> !(Nat.beq t d)
def PR(o1 o2 o3 o4 o5:Oper):Option Spec:=match tP o1,tP o2,K3 o3,K4 o4,K2 o5 with
 |some (t,d1),some (u,d2),some (ty,x2,d3),some (nE,x1,x3,d4),some (x4,t')=>
  bif Nat.beq x1 d1&&Nat.beq x2 d2&&Nat.beq x3 d3&&Nat.beq x4 d4&&Nat.beq t t'&&Nat.beq ty nE&&distinct t [u,d1,d2,d3,d4]&&distinct u [d1,d2,d3,d4]&&distinct d1 [d2,d3,d4]&&distinct d2 [d3,d4]&&distinct d3 [d4]
  then some (.push t u d1 d2 d3 d4 ty)else none
 |_,_,_,_,_=>none
def PS(o1 o2 o3 o4 o5 o6 o7:Oper):Option Spec:=match tP o1,tP o2,Ec o3,K5 o4,tP o5,Ec o6,K6 o7 with
 |some (t,d1),some (i,d2),some (pR,x1,x2,d3),some (mP,x3,d4),some (j,d5),some (Zg,x4,x5,d6),some (pS,x6,b)=>
  bif Nat.beq x1 d1&&Nat.beq x2 d2&&Nat.beq x3 d3&&Nat.beq x4 d4&&Nat.beq x5 d5&&Nat.beq x6 d6&&Nat.beq mP Zg&&distinct t [d1,d2,d3,d4,d5,d6]&&distinct i [d1,d2,d3,d4,d5,d6]&&distinct j [d1,d2,d3,d4,d5,d6]&&distinct d1 [d2,d3,d4,d5,d6]&&distinct d2 [d3,d4,d5,d6]&&distinct d3 [d4,d5,d6]&&distinct d4 [d5,d6]&&distinct d5 [d6]
  then some (.tO t i j d1 d2 d3 d4 d5 d6 pR mP pS b)else none
 |_,_,_,_,_,_,_=>none
def BW(gh:List (Nat×List iQ))(id:Nat):Bool:= !(jT gh (6000000+id)).isEmpty
def yu(pu draw:Bool)(ops:List Oper):Option Spec:=bif draw then none else(match ops with
 |[o1,o2]=>(match o1.op,o1.dst,o1.guard,o2.op,o2.dst,o2.guard with
  | .move (.tmp t),some d,none,.call c,none,none=>(match c.callee,c.args.toList,c.argTypes.toList with
    | .builtin .clear,[.tmp d'],[ty]=>bif Nat.beq d d'&& !(Nat.beq t d)then some (.zm t d ty)else none
    |_,_,_=>none)
  | .move (.tmp t),some d,none,.call c,some u,none=>(match c.callee,c.args.toList with
    | .value (.func f),[.tmp d']=>bif Nat.beq (arity P o2.type) 0&&(Nat.beq d d'&& !(Nat.beq t d)&& !(Nat.beq u d)&& !(Nat.beq u t))then some (.yR t d f u)else none
    |_,_=>none)
  |_,_,_,_,_,_=>none)
 |[o1,o2,o3]=>(match o1.op,o1.dst,o1.guard,o2.op,o2.dst,o2.guard,o3.op,o3.dst,o3.guard with
  | .move (.tmp t),some d1,none,.slice ty (.tmp Rj) none (some (.const (.int .i64 0))) none,some d2,none,.assign (.tmp Ct),some t',none=>
    bif Nat.beq d1 Rj&&Nat.beq d2 Ct&&Nat.beq t t'&& !(Nat.beq t d1)&& !(Nat.beq t d2)&& !(Nat.beq d1 d2)then some (.cut t d1 d2 ty)else none
  | .move (.tmp t),some d,none,.move (.tmp t2),some d2,none,.call c,some u,none=>(match c.callee,c.args.toList with
    | .value (.func f),[.tmp d',.tmp Ct]=>bif Nat.beq (arity P o3.type) 0&&(Nat.beq d d'&&Nat.beq d2 Ct&& !(Nat.beq t d)&& !(Nat.beq u d)&& !(Nat.beq u t)&& !(Nat.beq d2 d)&& !(Nat.beq d2 t)&& !(Nat.beq t2 d))then some (.yF t d t2 d2 f u)else none
    |_,_=>none)
  |_,_,_,_,_,_,_,_,_=>none)
 |[o1,o2,o3,o4,o5]=>bif pu then PR o1 o2 o3 o4 o5 else none
 |[o1,o2,o3,o4,o5,o6,o7]=>bif pu then PS o1 o2 o3 o4 o5 o6 o7 else none
 |_=>none)
def Ph(ty:TypeId):Option Nat:=match mJ P ty with
 |some e=>(match lf P e,wz P e,oT P e with
  |some (false,1),some b,some z=>bif Nat.blt 0 b&&Nat.beq z.length 1 then some b else none
  |_,_,_=>none)
 |none=>none
def PT(x y:SV):Option (List (List D)×List D):=match y with
 | .aZ s L=>if s=1 then(match x with| .nest LL=>some (LL,L)| .d (.sl .nil _ _)=>some ([],L)|_=>none)else none
 |_=>none
def Ar(bytes:Nat)(x y:SV)(k:SV→Prop):Prop:=ab (PT x y) fun r=>(r.1.length+1)*bytes≤140737488355328∧(∀x∈r.2,x.pL=true)∧k (.nest (r.1++[r.2]))
def XS(pR mP pS:TypeId):Bool:=(match mJ P pR,mJ P mP with
 |some e1,some e2=>(match eu P e1,lf P mP,eu P e2,eu P pS with
  |some 1,some (false,1),some 1,some 1=>true
  |_,_,_,_=>false)
 |_,_=>false)
def yG(x xi xj:SV)(b:Bool)(k:SV→Prop):Prop:=match x with
 | .nest LL=>ab (cN xi LL.length) fun i=>ab LL[i]? fun L=>ab (cN xj L.length) fun j=>k (.nest (LL.set i (L.set j (.bool b))))
 |_=>False
def yS(ty:TypeId)(x:SV):Option SV:=match mJ P ty with
 |some e=>(match eu P e,wK P e with
  |some 1,some z=>(match x with
   | .d (.sl .nil s _)=>some (.d (.sl .nil s []))
   | .aZ s L=>if s=1 then some (.aZ 1 (L.map fun _=>z))else none
   |_=>none)
  |_,_=>none)
 |none=>none
def yT(ty:TypeId)(x:SV):Option SV:=match mJ P ty with
 |some e=>(match eu P e with
  |some sz=>(match x with
   | .d (.sl .nil s _)=>some (.d (.sl .nil s []))
   | .aZ s _=>if s=sz then some (.aZ sz [])else none
   |_=>none)
  |none=>none)
 |none=>none
def gG(e:Env)(k:Env→Prop):Spec→Prop
 | .zm t d ty=>(match e.ak.getD t (.v .undef)with
   | .v x=>bif Nat.blt d e.ak.length then(ab (yS P ty x) fun y=>k ⟨(e.ak.set d (.v .undef)).set t (.v y),e.boxes⟩)else False
   |_=>False)
 | .cut t d1 d2 ty=>(match e.ak.getD t (.v .undef)with
   | .v x=>bif Nat.blt d1 e.ak.length&&Nat.blt d2 e.ak.length then(ab (yT P ty x) fun y=>k ⟨((e.ak.set d1 (.v .undef)).set d2 (.v .undef)).set t (.v y),e.boxes⟩)else False
   |_=>False)
 | .yR t d f u=>(match e.ak.getD t (.v .undef)with
   | .v x=>bif Nat.blt d e.ak.length then(∃bk,C f (pM 0 [x]) (.aJ [bk])∧aa bk=aa x∧k ⟨((((((e.ak.set t (.v (aa x))).set d (.v x)).set d (.v bk)).set u (.t [])).set d (.v (aa bk)))).set t (.v bk),e.boxes⟩)else False
   |_=>False)
 | .yF t d t2 d2 f u=>(match e.ak.getD t (.v .undef)with
   | .v x=>bif Nat.blt d e.ak.length&&Nat.blt d2 e.ak.length&& !(Nat.beq t2 t)then(∃bk,C f (pM 0 [x,snap e.boxes 6 (e.ak.getD t2 (.v .undef)).aa]) (.aJ [bk])∧aa bk=aa x∧k ⟨(((((((e.ak.set t (.v (aa x))).set d (.v x)).set d2 (e.ak.getD t2 (.v .undef)).aa).set d (.v bk)).set u (.t [])).set d (.v (aa bk)))).set t (.v bk),e.boxes⟩)else False
   |_=>False)
 | .push t u d1 d2 d3 d4 ty=>(match e.ak.getD t (.v .undef),e.ak.getD u (.v .undef)with
   | .v x,.v y=>bif [d1,d2,d3,d4].all fun d=>Nat.blt d e.ak.length then(ab (Ph P ty) fun n=>Ar n x y fun r=>
      k ⟨(((((e.ak.set d1 (.v .undef)).set d2 (.v .undef)).set d3 (.v .undef)).set d4 (.v .undef)).set u (.v .undef)).set t (.v r),e.boxes⟩)else False
   |_,_=>False)
 | .tO t i j d1 d2 d3 d4 d5 d6 pR mP pS b=>(match e.ak.getD t (.v .undef),e.ak.getD i (.v .undef),e.ak.getD j (.v .undef)with
   | .v x,.v xi,.v xj=>bif XS P pR mP pS&&[d1,d2,d3,d4,d5,d6].all fun d=>Nat.blt d e.ak.length then(yG x xi xj b fun r=>
      k ⟨((((((e.ak.set d1 (.v .undef)).set d2 (.v .undef)).set d3 (.v .undef)).set d4 (.v .undef)).set d5 (.v .undef)).set d6 (.v .undef)).set t (.v r),e.boxes⟩)else False
   |_,_,_=>False)
def di:SV→SV
 | .d x=>.d x
 | .own sz L=>.d (.sl .ro sz L)
 | .full sz L=>.d (.sl .ro sz L)
 | .aZ sz L=>.d (.sl .ro sz L)
 | .nest LL=>.d (.sl .ro 1 (LL.map fun L=>.sl .ro 1 L))
 |_=>.undef
def GP(n sz:Nat)(cs:List SV):SV:=match dK cs with
 |some L=>bif Nat.beq sz 1&&Nat.beq L.length n then .d (.sl .ro 1 L)else .undef
 |none=>.undef
def YK(aF:List af):Slot→Slot
 | .v x=>.v (di x)
 | .a b n sz=>(match aF[b]? with
   |some (.cells cs)=>.v (GP n sz cs)
   |_=>.v .undef)
 |_=>.v .undef
def sE(e:Env):Env:=⟨e.ak.map (YK e.boxes),[]⟩
def pO:SV→SV
 | .d x=>bif x.pL then .d x else .undef
 | .aZ sz L=>.aZ sz L
 |_=>.undef
def kE:SV→Prop
 | .aZ _ L=>ajq L
 |_=>True
def Aa(ws T:List Nat)(f:Nat→Slot):List Slot→Nat→List Slot
 |[],_=>[]
 |s::l,i=>(bif T.contains i then .v (pO (f i).bW)else bif ws.contains i then .v .undef else s)::Aa ws T f l (i+1)
def tQ(ws T:List Nat)(e e':Env):Env:=⟨Aa ws T (fun i=>e'.ak.getD i (.v .undef)) e.ak 0,e.boxes⟩
def zn(e:Env)(X:Prop):List Nat→Prop
 |[]=>X
 |t::l=>kE (e.ak.getD t (.v .undef)).bW ∧zn e X l
def qV(m0 m1:Nat)(T:List Nat)(ops:List Oper)(aH:Nat→Bool)(e:Env)(K:Env→Prop):Prop:=
 iE P gl C aH ops e.boxes.length (ops.take m0) 0 e fun e1=>iE P gl C aH ops 0 ((ops.drop m0).take m1) m0 (sE e1) fun e2=>
  zn e2 (iE P gl C aH ops e.boxes.length ((ops.drop m0).drop m1) (m0+m1) (tQ (((ops.drop m0).take m1).filterMap (·.dst)) T e1 e2) K) T
def DM(gh:List (Nat×List iQ))(id:Nat):Option (Nat×Nat×List Nat):=match jT gh (5000000+id)with
 |[.mq m0 (m1::T)]=>some (m0,m1,T)
 |_=>none
def BO(ops:Array Oper)(draw ok:Bool)(m0 m1:Nat)(T:List Nat):Bool:=
 Nat.beq (fM ops.toList ops.toList.length) 0&&((Nat.beq m0 0&&Nat.beq m1 ops.toList.length)|| !draw)&&ok&&Nat.ble (m0+m1) ops.toList.length&&T.all fun t=>(((ops.toList.drop m0).take m1).filterMap (·.dst)).contains t
def ot(id:Nat)(ops:Array Oper)(draw:Bool)(e:Env)(K:Env→Prop):Prop:=
 bif (!draw||oe (qS h id) ops)||ajt h.gh id then hY (jT h.gh id) e (fun e'=>match DM h.gh id with
  |some mT=>bif BO ops draw (!draw||oe (qS h id) ops) mT.1 mT.2.1 mT.2.2 then qV P gl C mT.1 mT.2.1 mT.2.2 ops.toList (qS h id) e' (fun e2=>hY (jT h.gh (4000000+id)) e2 K)else False
  |none=>(match yu P (BW h.gh id) draw ops.toList with
   |some s=>gG P C e' (fun e2=>hY (jT h.gh (4000000+id)) e2 K) s
   |none=>Dv P gl C (qS h id) ops.toList e' (yQ P gl C (!draw||oe (qS h id) ops) ops (qS h id) e' (fun e2=>hY (jT h.gh (4000000+id)) e2 K))))else False
def aw:Code→(Ex→Env→Prop)→Env→Prop
 | .skip,Q,e=>Q .normal e
 | .region id ops draw,Q,e=>tI h (2000000+id) (.region id ops draw) e Q fun Q=>ot P gl C h id ops draw e (Q .normal)
 | .label _,Q,e=>Q .normal e
 | .seq a b,Q,e=>aw a (fun x e'=>match x with| .normal =>aw b Q e'| .exit i=>Q (.exit i) e'| .ret =>Q .ret e') e
 | .cond c a b,Q,e=>tI h (1000000+ag6 a b) (.cond c a b) e Q fun Q=>qT e c (aw a Q) (aw b Q)
 | .block id b,Q,e=>aw b (fun x e'=>match x with| .normal =>Q .normal e'| .exit i=>bif i==id then Q .normal e' else Q (.exit i) e'| .ret =>Q .ret e') e
 | .loop b,Q,e=>(match pG h.fk (oV b)with
   |(vars,consts)=>bif consts.all (fun t=> !(da h.gh b).contains t)&&DF (da h.gh b) vars consts e.ak 0 then
      bT (fun vs bs I=>aw b (fun x e'=>match x with| .normal =>I (wL e' vars) (wD e.boxes.length e')| .exit i=>Q (.exit i) e'| .ret =>Q .ret e')
          ⟨uK vars consts vs e.ak 0,uL bs e.boxes 0⟩)
       (wL e vars) (wD e.boxes.length e)
    else False)
 | .exit id,Q,e=>Q (.exit id) e
 | .ret,Q,e=>Q .ret e
 |_,_,_=>False
def Cb(e:Env)(used:List Nat)(r:ResultVar)(k:SV→Prop):Prop:=match r with
 | .tmp t=>(match e.ak.getD t (.v .undef)with
   | .v x=>x.aD=true∧k (bif used.contains t then aa x else x)
   |_=>False)
 | .cell a t=>ab (lf P t) fun ly=>(match e.ak.getD a (.v .undef)with
   | .p b off=>tD ly.1 ly.2 b off e.boxes fun s _=>(match s with
     | .v x=>x.aD=true∧k x
     |_=>False)
   |_=>False)
def Kn(used:List Nat):ResultVar→List Nat
 | .tmp t=>t::used
 | .cell _ _=>used
def B0(e:Env):List Nat→List ResultVar→(List SV→Prop)→Prop
 |_,[],k=>k []
 |used,r::l,k=>Cb P e used r fun x=>B0 e (Kn used r) l fun xs=>k (x::xs)
def finish(fn:Func)(e:Env)(K:SV→Prop):Prop:=match fn.results.toList with
 |[r]=>Cb P e [] r K
 |l=>B0 P e [] l fun xs=>K (.aJ xs)
def enter(n:Nat)(args:List SV):Env:=⟨args.map .v ++List.replicate (n-args.length) (.v .undef),[]⟩
def cA(args:List SV)(X:Prop):Prop:=SV.iH args→X
def body(f:FuncId)(args:List SV)(K:SV→Prop):Prop:=match P.funcs[f]? with
 |some fn=>(match fn.body with
  |some c=>cA args (aw P gl C h c (fun x e=>match x with| .normal =>finish P fn e K| .ret =>finish P fn e K| .exit _=>False) (enter fn.ntmps args))
  |none=>False)
 |none=>False
def F4:Code→Code
 | .scope c=>c
 |c=>c
def D0(p:Nat)(f:FuncId)(args:List SV)(K:SV→Prop):Prop:=match P.funcs[f]? with
 |some fn=>(match fn.body with
  |some c=>bif fn.results.isEmpty&& !(da [] (F4 c)).contains p then cA args (aw P gl C h (F4 c) (fun x e=>match x with| .normal =>hY (jT h.gh 3000000) e (fun e=>K (e.ak.getD p (.v .undef)).bW)| .ret =>hY (jT h.gh 3000000) e (fun e=>K (e.ak.getD p (.v .undef)).bW)| .exit _=>False) (enter fn.ntmps args))else False
  |none=>False)
 |none=>False
end
end Go.Proofs.Ytimbllcalipehaa.Ab
namespace Go.Proofs.Ytimbllcalipehaa.Ab
open Go Go.RowKit
def uV(g:Gh)(w w':World):Prop:=∀(b:Nat)c ty,some b∈g.bx→w.heap[b]? =some (.cells c ty (0,0))→∃c' nE,w'.heap[b]? =some (.cells c' nE (0,0))∧c'.size=c.size
theorem uV.refl{g:Gh}(w:World):uV g w w:=fun _ c ty _ h=>⟨c,ty,h,rfl⟩
theorem uV.of{g:Gh}{w w':World}(h:∀b,b<w.heap.size→w'.heap[b]? =w.heap[b]?):uV g w w':=fun b c ty _ hb=>⟨c,ty,(h b (fL hb)).trans hb,rfl⟩
theorem uV.trans{g g':Gh}{a b c:World}(h:uV g a b)(k:uV g' b c)(hg:∀x,some x∈g.bx→some x∈g'.bx):uV g a c:=fun x cc ty hm hx=>by
 obtain⟨c1,t1,h1,e1⟩:=h x cc ty hm hx
 obtain⟨c2,t2,h2,e2⟩:=k x c1 t1 (hg x hm) h1
 exact⟨c2,t2,h2,e2.trans e1⟩
structure Ext(base:Nat)(w:World)(g:Gh)(w':World)(g':Gh)(lost:Pos→Prop):Prop where
 df:∀(D:Nat)(o:Obj),some D∉g.bx→g.ow D=none→w.heap[D]? =some o→w'.heap[D]? =some o∧some D∉g'.bx∧g'.ow D=none∧∀x,g'.St D x→g.St D x
 st:∀b o,g.St b o→g'.St b o∧qH w w' b o
 bs:∀b o,b<base→w'.cell? ⟨b,o,none⟩=w.cell? ⟨b,o,none⟩
 bx:∀(i:Nat)ao,g.bx[i]? =some (some ao)→g'.bx[i]? =some (some ao)
 own:∀p b a c,¬lost p→fa base w g p b a c→fa base w' g' p b a c∧wE w w' b a
 sh:uV g w w'
theorem cE.mono{base:Nat}{w w':World}{g g':Gh}{O O':Nat→Nat→Nat→Nat→Prop}{s:Slot}{v:Value}(r:cE base w g O s v)
  (st:∀b o,g.St b o→g'.St b o∧qH w w' b o)(bs:∀b o,b<base→w'.cell? ⟨b,o,none⟩=w.cell? ⟨b,o,none⟩)
  (bx:∀(i:Nat)ao,g.bx[i]? =some (some ao)→g'.bx[i]? =some (some ao))(sh:uV g w w')(hO:∀j b a c,O j b a c→O' j b a c∧wE w w' b a):cE base w' g' O' s v:=by
 induction r generalizing O' with
 |v O x y h=>exact .v _ x y (h.mono st bs _ (hO 0))
 |p O b off ao h=>exact .p _ b off ao (bx _ _ h)
 |a O b n sz v hm h=>obtain⟨ao,cap,h1,h2,h3,h4,c,ty,h5,h6⟩:=h;obtain⟨c',nE,h7,h8⟩:=sh ao c ty (List.mem_of_getElem? h1) h5;exact .a _ b n sz v hm ⟨ao,cap,bx _ _ h1,h2,h3,h4,c',nE,h7,h8.trans h6⟩
 |m O b ao h=>exact .m _ b ao (bx _ _ h)
 |c O f first cap fv cv hf hc _ _ kB kC=>exact .c _ f first cap fv cv hf hc (fun i x v a b=>kB i x v a b (fun _ _ _ _ h=>h.elim)) (fun i x v a b=>kC i x v a b (fun _ _ _ _ h=>h.elim))
 |t O xs vs hl hc=>exact .t _ xs vs hl fun j x v a b=>(hc j x v a b).mono st bs _ (hO j)
theorem cE.aa{base:Nat}{w:World}{g:Gh}{O O':Nat→Nat→Nat→Nat→Prop}{s:Slot}{v:Value}(r:cE base w g O s v):cE base w g O' s.aa v:=by
 cases r with
 |v _ x _ h=>exact .v _ _ _ h.aa
 |p _ b off ao h=>exact .p _ b off ao h
 |a _ b n sz v hm h=>exact .a _ b n sz v hm h
 |m _ b ao h=>exact .m _ b ao h
 |c _ f first cap fv cv hf hc rf rc=>exact .c _ f first cap fv cv hf hc rf rc
 |t _ xs vs hl hc=>
  refine .t _ _ vs (by simpa using hl) fun j x v a b=>?_
  simp only[List.getElem?_map,Option.map_eq_some_iff]at a
  obtain⟨x',a,rfl⟩:=a
  exact(hc j x' v a b).aa
theorem Ext.refl(base:Nat)(w:World)(g:Gh):Ext base w g w g (fun _=>False):=⟨fun _ _ hb ho h=>⟨h,hb,ho,fun _ h=>h⟩,fun _ _ h=>⟨h,.refl _ _ _⟩,fun _ _ _=>rfl,fun _ _ h=>h,fun _ _ _ _ _ h=>⟨h,.refl _ _ _⟩,.refl _⟩
theorem Ext.slot{base:Nat}{w w':World}{g g':Gh}{lost:Pos→Prop}(h:Ext base w g w' g' lost){i:Nat}(hl:∀j,¬lost (.s i j)){s:Slot}{v:Value}
  (r:cE base w g (fO base w g i) s v):cE base w' g' (fO base w' g' i) s v:=
 r.mono h.st h.bs h.bx h.sh fun j b a c ho=>h.own _ b a c (hl j) ho
theorem Ext.none{base:Nat}{w w':World}{g g':Gh}{lost:Pos→Prop}(h:Ext base w g w' g' lost){s:Slot}{v:Value}
  {O O':Nat→Nat→Nat→Nat→Prop}(r:cE base w g O s v):cE base w' g' O' s.aa v:=
 (r.aa (O':=fun _ _ _ _=>False)).mono h.st h.bs h.bx h.sh fun _ _ _ _ h=>h.elim
theorem Ext.Z6{base:Nat}{w w':World}{g g':Gh}{lost:Pos→Prop}(h:Ext base w g w' g' lost):∀b o,g.St b o→g'.St b o∧w'.cell? ⟨b,o,Option.none⟩=w.cell? ⟨b,o,Option.none⟩:=fun b o hs=>⟨(h.st b o hs).1,(h.st b o hs).2.1⟩
theorem Ext.xd{base:Nat}{w w':World}{g g':Gh}{lost:Pos→Prop}(h:Ext base w g w' g' lost){x:D}{v:Value}(r:bh w g.St x v):bh w' g'.St x v:=r.mono fun b o hs=>⟨(h.st b o hs).1,(h.st b o hs).2.1⟩
theorem Ext.box{base:Nat}{w w':World}{g g':Gh}{lost:Pos→Prop}(h:Ext base w g w' g' lost){b:Nat}{bx:af}{ao:Nat}(hl:∀j,¬lost (.b b j))
  (hb:w'.heap[ao]? =w.heap[ao]?)(r:qX base w g b bx ao):qX base w' g' b bx ao:=by
 cases bx with
 |none=>exact r.elim
 |cells cs=>
  obtain⟨h0,c,t,hc,h1,hr⟩:=r
  exact⟨h0,c,t,hb.trans hc,h1,hr.1,fun j x y hx hy=>(hr.2 j x y hx hy).mono h.st h.bs _ fun b' a c' ho=>h.own _ b' a c' (hl j) ho⟩
 |one s=>
  obtain⟨h0,c,t,hc,h1,hr⟩:=r
  exact⟨h0,c,t,hb.trans hc,h1,hr.1,fun y hy=>(hr.2 y hy).mono h.st h.bs h.bx h.sh fun _ b' a c' ho=>h.own _ b' a c' (hl 0) ho⟩
 |map l=>
  obtain⟨h0,es,clock,hc,h1,hr⟩:=r
  exact⟨h0,es,clock,hb.trans hc,h1,fun i x y hx hy=>⟨(hr i x y hx hy).1,(hr i x y hx hy).2.1,h.xd (hr i x y hx hy).2.2⟩⟩
theorem aaG{l:List Slot}{dst:Option Nat}{s:Slot}{i:Nat}{x:Slot}(h:(cS l dst s)[i]? =some x):(dst=some i∧x=s)∨(dst≠some i∧l[i]? =some x):=by
 cases dst with
 |none=>exact .inr ⟨by simp,h⟩
 |some d=>
  simp only[cS,List.getElem?_set]at h
  by_cases hd:d=i
  ·subst hd
   simp only[↓reduceIte]at h
   split at h
   ·exact .inl ⟨rfl,(Option.some.inj h).symm⟩
   ·cases h
  ·simp only[hd,↓reduceIte]at h
   exact .inr ⟨by simpa using hd,h⟩
theorem Od(a:Act)(dst:Option Tmp)(v:Value)(i:Nat)(h:i<a.tmps.size):(a.put dst v).tmps.getD i undef=if dst=some i then v else a.tmps.getD i undef:=by
 cases dst with
 |none=>simp[Act.put]
 |some d=>
  simp only[Act.put,Array.getD_eq_getD_getElem?,Array.getElem?_setIfInBounds]
  by_cases hd:d=i
  ·subst hd;simp[h]
  ·simp[hd]
theorem rW(a:Act)(dst:Option Tmp)(v:Value):(a.put dst v).tmps.size =a.tmps.size:=by cases dst<;>simp[Act.put]
theorem put_defers(a:Act)(dst:Option Tmp)(v:Value):(a.put dst v).defers =a.defers:=by cases dst<;>rfl
theorem MW(l:List Slot)(dst:Option Nat)(s:Slot):(cS l dst s).length =l.length:=by cases dst<;>simp[cS]
theorem Dj{w:World}{St:Nat→Nat→Prop}{v:Value}{x:D}(h:BU v=some x):bh w St x v:=by
 unfold BU at h
 split at h
 ·cases h;exact .bool _
 ·rename_i k n
  cases hw:iG k n with
  |true=>rw[hw]at h;cases h;exact .int _ _ hw
  |false=>rw[hw]at h;cases h
 ·rename_i s
  cases hw:Nat.ble s.size maxLen with
  |true=>rw[hw]at h;cases h;exact .str _ (Nat.le_of_ble_eq_true hw)
  |false=>rw[hw]at h;cases h
 ·cases h;exact .jU 0
 ·cases h;exact .nZ
 ·cases h;exact .wU
 ·cases h;exact .wV
 ·rename_i f first captured
  cases hw:(first.isEmpty&&captured.isEmpty)with
  |true=>
   rw[hw]at h;cases h
   simp only[Bool.and_eq_true,Array.isEmpty_iff]at hw
   obtain⟨rfl,rfl⟩:=hw
   exact .fn f
  |false=>rw[hw]at h;cases h
 ·cases h
theorem Nr{v:Value}{x:D}(h:BU v=some x):x.one=true:=by
 have:∀{w:World}{St},bh w St x v:=Dj h
 unfold BU at h
 split at h<;>first|(cases h;rfl)|(cases h)|skip
 ·rename_i k n;cases hw:iG k n<;>rw[hw]at h<;>cases h;rfl
 ·rename_i s;cases hw:Nat.ble s.size maxLen<;>rw[hw]at h<;>cases h;rfl
 ·rename_i f first captured;cases hw:(first.isEmpty&&captured.isEmpty)<;>rw[hw]at h<;>cases h;rfl
theorem Nd:∀{vs:List Value}{xs:List D},BM vs=some xs→∀x∈xs,x.one=true
 |[],xs,h=>by cases h;simp
 |v::vs,xs,h=>by
  simp only[BM]at h
  split at h
  ·rename_i x hx
   split at h
   ·rename_i r hr
    cases h
    intro y hy
    rcases List.mem_cons.1 hy with rfl|hy
    ·exact Nr hx
    ·exact Nd hr y hy
   ·cases h
  ·cases h
theorem Fz{w:World}{St:Nat→Nat→Prop}:∀{vs:List Value}{xs:List D},BM vs=some xs→
  xs.length=vs.length∧∀(i:Nat)x v,xs[i]? =some x→vs[i]? =some v→bh w St x v
 |[],xs,h=>by cases h;simp
 |v::vs,xs,h=>by
  simp only[BM]at h
  split at h
  ·rename_i x hx
   split at h
   ·rename_i r hr
    cases h
    obtain⟨h1,h2⟩:=Fz (w:=w) (St:=St) hr
    refine⟨by simp[h1],fun i y u hy hu=>?_⟩
    cases i with
    |zero=>simp only[List.getElem?_cons_zero,Option.some.injEq]at hy hu;subst hy hu;exact Dj hx
    |succ i=>simp only[List.getElem?_cons_succ]at hy hu;exact h2 i y u hy hu
   ·cases h
  ·cases h
theorem acJ{w:World}{St:Nat→Nat→Prop}{v:Value}{x:D}(h:KE v=some x):bh w St x v:=by
 unfold KE at h
 split at h
 ·split at h
  ·rename_i cs l hl
   cases h
   obtain⟨h1,h2⟩:=Fz (w:=w) (St:=St) hl
   exact .agg l _ (Nd hl) (by simpa using h1) fun i d v hd hv=>h2 i d v hd (by simpa using hv)
  ·cases h
 ·exact Dj h
section
variable{gl:Nat→Option D}{w0:World}{ar:S0}
theorem yr.ext{base:Nat}{w w':World}{g g':Gh}{lost:Pos→Prop}(h:Ext base w g w' g' lost)(r:yr gl w g.St):yr gl w' g'.St:=by
 intro n x hx
 obtain⟨h0,vs,h1,h2⟩:=r n x hx
 exact⟨h0,vs,fun i hi=>⟨(h.st _ _ (h1 i hi).2).2.1.trans (h1 i hi).1,(h.st _ _ (h1 i hi).2).1⟩,fun i c hc=>h.xd (h2 i c hc)⟩
theorem Inv.stepG{e:Env}{a:Act}{w:World}{g:Gh}(hI:Inv gl w0 ar e a w g){w':World}{g':Gh}{lost:Pos→Prop}(hX:Ext w0.heap.size w g w' g' lost)
  {ak:List Slot}{aF:List af}{dst:Option Nat}{s:Slot}{v:Value}
  (qO:Below w0.heap.size w w')
  (hlen:ak.length=e.ak.length)
  (hs:∀(i:Nat)x,ak[i]? =some x→dst≠some i→cE w0.heap.size w' g' (fO w0.heap.size w' g' i) x (a.tmps.getD i undef))
  (pP:∀d,dst=some d→cE w0.heap.size w' g' (fO w0.heap.size w' g' d) s v)
  (Pj:g'.bx.length=aF.length)
  (eB:∀(b:Nat)bx ao,aF[b]? =some bx→g'.bx[b]? =some (some ao)→qX w0.heap.size w' g' b bx ao)
  (nF:∀(i j:Nat)ao,g'.bx[i]? =some (some ao)→g'.bx[j]? =some (some ao)→i=j)(G7:∀b,some b∈g'.bx→w0.heap.size≤b∧b<w'.heap.size)
  (Cc:∀b o,g'.St b o→(ar b o∨w0.heap.size≤b)∧some b∉g'.bx∧b<w'.heap.size):
  Inv gl w0 ar ⟨cS ak dst s,aF⟩ (a.put dst v) w' g':=by
 refine⟨hI.below.trans qO,?_,?_,Pj,eB,nF,fun b o h=>(hX.st b o (hI.gU b o h)).1,Cc,G7,hI.lg.ext hX,(put_defers a dst v).trans hI.defers,fun D o hD=>(have h:=hI.fT D o hD;have k:=hX.df D o h.1 h.2.1 h.2.2.1;⟨k.2.1,k.2.2.1,k.1,fun x hx=>h.2.2.2 x (k.2.2.2 x hx)⟩),fun b o v hv=>(have h:=hI.cls b o v hv;⟨(hX.st b o h.1).1,(hX.st b o h.1).2.1.trans h.2⟩),Nat.le_trans hI.kD qO.size⟩
 ·rw[rW,MW,hlen,hI.size]
 ·intro i x hx
  have hi:i<a.tmps.size:=by
   have:=(List.getElem?_eq_some_iff.1 hx).1
   rw[MW,hlen]at this
   rw[hI.size];exact this
  rw[Od a dst v i hi]
  rcases aaG hx with⟨hd,rfl⟩|⟨hd,ee⟩
  ·simp only[hd,↓reduceIte];exact pP i hd
  ·simp only[hd,↓reduceIte]
   exact hs i x ee hd
theorem Inv.step{e:Env}{a:Act}{w:World}{g:Gh}(hI:Inv gl w0 ar e a w g){w':World}{g':Gh}{lost:Pos→Prop}(hX:Ext w0.heap.size w g w' g' lost)
  {ak:List Slot}{aF:List af}{dst:Option Nat}{s:Slot}{v:Value}
  (qO:Below w0.heap.size w w')
  (hlen:ak.length=e.ak.length)
  (hs:∀(i:Nat)x,ak[i]? =some x→dst≠some i→∃y,e.ak[i]? =some y∧((x=y∧∀j,¬lost (.s i j))∨x=y.aa))
  (pP:∀d,dst=some d→cE w0.heap.size w' g' (fO w0.heap.size w' g' d) s v)
  (Pj:g'.bx.length=aF.length)
  (eB:∀(b:Nat)bx ao,aF[b]? =some bx→g'.bx[b]? =some (some ao)→qX w0.heap.size w' g' b bx ao)
  (nF:∀(i j:Nat)ao,g'.bx[i]? =some (some ao)→g'.bx[j]? =some (some ao)→i=j)(G7:∀b,some b∈g'.bx→w0.heap.size≤b∧b<w'.heap.size)
  (Cc:∀b o,g'.St b o→(ar b o∨w0.heap.size≤b)∧some b∉g'.bx∧b<w'.heap.size):
  Inv gl w0 ar ⟨cS ak dst s,aF⟩ (a.put dst v) w' g':=by
 refine hI.stepG hX qO hlen (fun i x hx hd=>?_) pP Pj eB nF G7 Cc
 obtain⟨y,hy,⟨rfl,hl⟩|rfl⟩:=hs i x hx hd
 ·exact hX.slot hl (hI.ak i x hy)
 ·exact hX.none (hI.ak i y hy)
theorem Inv.KH{e:Env}{a:Act}{w:World}{g:Gh}(hI:Inv gl w0 ar e a w g){w':World}{g':Gh}{dst:Option Nat}
  (hX:Ext w0.heap.size w g w' g' (fun p=>∃d j,dst=some d∧p=.s d j))
  {s:Slot}{v:Value}(qO:Below w.heap.size w w')
  (pP:∀d,dst=some d→cE w0.heap.size w' g' (fO w0.heap.size w' g' d) s v)(eB:g'.bx=g.bx)
  (Cc:∀b o,g'.St b o→g.St b o∨(w.heap.size≤b∧b<w'.heap.size)):
  Inv gl w0 ar ⟨cS e.ak dst s,e.boxes⟩ (a.put dst v) w' g':=by
 have hle:w0.heap.size≤w.heap.size:=hI.below.size
 refine hI.step hX (qO.mono hle) rfl (fun i x hx hd=>⟨x,hx,.inl ⟨rfl,fun j=>?_⟩⟩) pP (by rw[eB];exact hI.fQ) ?_ (by rw[eB];exact hI.nodup) ?_ ?_
 ·rintro⟨d,j',h1,h2⟩
  cases h2
  exact hd h1
 ·intro b bx ao h1 h2
  rw[eB]at h2
  have aO:ao<w.heap.size:=(hI.dF ao (List.mem_of_getElem? h2)).2
  exact hX.box (fun j=>by rintro⟨d,j',_,h⟩;cases h) (qO.block ao aO) (hI.boxes b bx ao h1 h2)
 ·intro b hb
  rw[eB]at hb
  exact⟨(hI.dF b hb).1,Nat.lt_of_lt_of_le (hI.dF b hb).2 qO.size⟩
 ·intro b o h
  rw[eB]
  rcases Cc b o h with h|h
  ·obtain⟨h1,h2,h3⟩:=hI.cW b o h
   exact⟨h1,h2,Nat.lt_of_lt_of_le h3 qO.size⟩
  ·exact⟨.inr (Nat.le_trans hle h.1),fun hm=>by have:=(hI.dF b hm).2;omega,h.2⟩
theorem Inv.value{e:Env}{a:Act}{w:World}{g:Gh}(hI:Inv gl w0 ar e a w g){dst:Option Nat}{s:Slot}{v:Value}
  (pP:cE w0.heap.size w g (fun _ _ _ _=>False) s v):Inv gl w0 ar ⟨cS e.ak dst s,e.boxes⟩ (a.put dst v) w g:=by
 refine hI.KH (w':=w) (g':=g) ⟨fun _ _ hb ho h=>⟨h,hb,ho,fun _ h=>h⟩,fun _ _ h=>⟨h,.refl _ _ _⟩,fun _ _ _=>rfl,fun _ _ h=>h,fun _ _ _ _ _ h=>⟨h,.refl _ _ _⟩,.refl _⟩ (Below.refl _ _) (fun d _=>?_) rfl (fun _ _ h=>.inl h)
 exact pP.mono (fun _ _ h=>⟨h,.refl _ _ _⟩) (fun _ _ _=>rfl) (fun _ _ h=>h) (.refl _) (fun _ _ _ _ h=>h.elim)
theorem Inv.bp{e:Env}{a:Act}{w:World}{g:Gh}(hI:Inv gl w0 ar e a w g)(x:Operand):cE w0.heap.size w g (fun _ _ _ _=>False) (bp gl e x).aa (a.eval x):=by
 cases x with
 |tmp t=>
  simp only[Ab.bp,Act.eval,List.getD_eq_getElem?_getD]
  cases h:e.ak[t]? with
  |none=>exact .v _ _ _ (.undef _ _)
  |some s=>exact(hI.ak t s h).aa
 |const v=>
  simp only[Ab.bp,Act.eval]
  cases h:KE v with
  |none=>exact .v _ _ _ (.undef _ _)
  |some d=>exact .v _ _ _ (.d _ _ _ (acJ h))
 |func f=>exact .v _ _ _ (.d _ _ _ (.fn _))
 |global n=>
  simp only[Ab.bp,Act.eval]
  cases h:gl n with
  |none=>exact .v _ _ _ (.undef _ _)
  |some x=>
   obtain⟨h0,vs,h1,h2⟩:=hI.lg n x h
   exact .v _ _ _ (.aX _ x 0 n 0 vs h0 (by simpa using h1) h2)
end
end Go.Proofs.Ytimbllcalipehaa.Ab
namespace Go.Proofs.Ytimbllcalipehaa.Ab
open Go Go.RowKit
def yV(lo:Nat)(w:World)(St:Nat→Nat→Prop)(ow:Nat→Option Nat)(j:Nat)(b a c:Nat):Prop:=
 ow b=some j∧lo≤b∧(∃cur e,w.heap[b]? =some (.cells cur e (0,0))∧cur.size=c)∧∀o,a≤o→¬St b o
def yv(lo:Nat)(w:World)(St:Nat→Nat→Prop)(ow:Nat→Option Nat)(r:SV)(v:Value):Prop:=match r with
 | .aJ rs=>∃vs,v=.tuple vs∧rs.length=vs.size∧∀(j:Nat)x y,rs[j]? =some x→vs[j]? =some y→aP w St 0 (yV lo w St ow j) x y
 |r=>aP w St 0 (yV lo w St ow 0) r v
def n0(P:Program)(f:FuncId):Prop:=∀(args:Array Value)(w:World),(callFunc f args).run P w=.ok (.enter f args) w
def Gt(P:Program)(gl:Nat→Option D):bA:=fun f args r=>n0 P f∧
 ∀(w:World)(St:Nat→Nat→Prop)(vs:Array Value),(∀b o,St b o→b<w.heap.size)→yr gl w St→args.length=vs.size→
  (∀(i:Nat)x v,args[i]? =some x→vs[i]? =some v→aP w St w.heap.size (fun _ _ _=>False) x v)→
  Calls P f vs w fun e w'=>∃v,e=.returned v∧Below w.heap.size w w'∧∃bS ow,(∀b o,St b o→bS b o)∧(∀b o,bS b o→St b o∨(w.heap.size≤b∧b<w'.heap.size))∧
   yv w.heap.size w' bS ow r v
def aku(w:World)(St:Nat→Nat→Prop)(A:Nat→Option Nat)(i b a c:Nat):Prop:=
 A b=some i∧(∃cur e,w.heap[b]? =some (.cells cur e (0,0))∧cur.size=c)∧∀o,a≤o→¬St b o
def XO(lo:Nat)(A:Nat→Option Nat)(w:World)(St:Nat→Nat→Prop)(ow:Nat→Option Nat)(j:Nat)(b a c:Nat):Prop:=
 ow b=some j∧(lo≤b∨A b≠none)∧(∃cur e,w.heap[b]? =some (.cells cur e (0,0))∧cur.size=c)∧∀o,a≤o→¬St b o
def wZ(w:World)(St:Nat→Nat→Prop)(O:Nat→Nat→Nat→Nat→Prop)(rs:List SV)(v:Value):Prop:=match rs with
 |[r]=>aP w St 0 (O 1) r v
 |rs=>∃vs,v=.tuple vs∧rs.length=vs.size∧∀(j:Nat)x y,rs[j]? =some x→vs[j]? =some y→aP w St 0 (O (j+1)) x y
def Pk(P:Program)(gl:Nat→Option D)(f:FuncId)(args:List SV)(p:Nat)(rs:List SV)(bk:SV):Prop:=n0 P f∧SV.iB args=true∧
 ∀(w:World)(St:Nat→Nat→Prop)(A:Nat→Option Nat)(vs:Array Value),(∀b o,St b o→b<w.heap.size)→(∀b i,A b=some i→∃cur e,w.heap[b]? =some (.cells cur e (0,0))∧∀o,cur.size≤o→¬St b o)→yr gl w St→args.length=vs.size→
  (∀(i:Nat)x v,args[i]? =some x→vs[i]? =some v→aP w St 0 (aku w St A i) x v)→
  Calls P f vs w fun e w'=>∃v,e=.returned v∧w'.os=w.os∧w'.tape=w.tape∧w'.output=w.output∧w.heap.size≤w'.heap.size∧(∀b,b<w.heap.size→A b=none→w'.heap[b]? =w.heap[b]?)∧
   ∃bS ow,(∀b o,St b o→bS b o∧qH w w' b o)∧(∀b o,bS b o→St b o∨((w.heap.size≤b∨A b≠none)∧b<w'.heap.size))∧
    wZ w' bS (XO w.heap.size A w' bS ow) rs v∧∀y,vs[p]? =some y→aP w' bS 0 (XO w.heap.size A w' bS ow 0) bk y
def ou:List SV→Option (Nat×List SV)
 | .aJ (.cU p _ _::_)::args=>some (p,args)
 |_=>none
def aG(P:Program)(gl:Nat→Option D):bA:=fun f args r=>match ou args with
 |some (p,YL)=>(match r with
  | .aJ (bk::rs)=>Pk P gl f YL p rs bk
  |_=>False)
 |none=>Gt P gl f args r
theorem Bw{P:Program}{gl:Nat→Option D}{f:FuncId}{args:List SV}{r:SV}(h:ou args=none):aG P gl f args r=Gt P gl f args r:=by
 unfold aG;rw[h]
theorem OM{P:Program}{gl:Nat→Option D}{f:FuncId}{args:List SV}{p:Nat}{rs:List SV}{bk:SV}:aG P gl f (pM p args) (.aJ (bk::rs))=Pk P gl f args p rs bk:=rfl
theorem U3{args:List SV}(h:∀x l,args=.aJ x::l→False):ou args=none:=by
 unfold ou
 split
 ·rename_i p _ _ _ YL
  exact(h _ _ rfl).elim
 ·rfl
theorem adU{w:World}{St:Nat→Nat→Prop}{base:Nat}{O:Nat→Nat→Nat→Nat→Prop}{args:List SV}{vs:Array Value}(hlen:args.length=vs.size)(h:∀(i:Nat)x v,args[i]? =some x→vs[i]? =some v→aP w St base (O i) x v):ou args=none:=
 U3 fun x l hx=>by
  rw[hx]at hlen
  have h0:0<vs.size:=by rw[←hlen];simp
  have:=h 0 (.aJ x) vs[0] (by rw[hx];rfl) (by simp[h0])
  cases this
section
variable{P:Program}{gl:Nat→Option D}{w0:World}{ar:S0}{e:Env}{a:Act}{w:World}{g:Gh}
theorem aN{α:Type}{o:Option α}{k:α→Prop}(h:ab o k):∃x,o=some x∧k x:=by
 cases o with
 |none=>exact h.elim
 |some x=>exact⟨x,rfl,h⟩
theorem Dw{x:SV}{A B:Prop}(h:au x A B):∃b,x=.d (.bool b)∧(b=true→A)∧(b=false→B):=by
 unfold au at h
 split at h
 ·rename_i c
  refine⟨c,rfl,?_,?_⟩<;>rintro rfl<;>exact h
 ·exact h.elim
theorem Inv.sP(hI:Inv gl w0 ar e a w g){x:Operand}{s:SV}(h:(Ab.bp gl e x).aa =.v s):aP w g.St w0.heap.size (fun _ _ _=>False) s (a.eval x):=by
 have:=hI.bp x
 rw[h]at this
 cases this with
 |v _ _ _ h=>exact h
theorem Inv.jB(hI:Inv gl w0 ar e a w g)(x:Operand):aP w g.St w0.heap.size (fun _ _ _=>False) ((Ab.bp gl e x).aa).bW (a.eval x):=by
 have:=hI.bp x
 cases h:(Ab.bp gl e x).aa with
 |v s=>exact hI.sP h
 |_=>exact .undef _ _
theorem aP.data{St:Nat→Nat→Prop}{base:Nat}{O:Nat→Nat→Nat→Prop}{x:D}{v:Value}(h:aP w St base O (.d x) v):bh w St x v:=by
 cases h with
 |d _ _ _ h=>exact h
abbrev bH(P:Program)(gl:Nat→Option D)(w0:World)(ar:S0)(ak:List Slot)(o:Oper)(a:Act)(w:World)(k:Slot→List af→Prop):Prop:=
 ∀(next:Act→World→Prop)(Q:Exit→Act→World→Prop),
  (∀s v aF w' g',Inv gl w0 ar ⟨cS ak o.dst s,aF⟩ (a.put o.dst v) w' g'→k s aF→next (a.put o.dst v) w')→o.wp P a w next Q
theorem bH.value(hI:Inv gl w0 ar e a w g){o:Oper}{v:Value}{s:Slot}{k:Slot→List af→Prop}(bq:(execOp a.eval o).run P w=.ok (.value v) w)
  (hr:cE w0.heap.size w g (fun _ _ _ _=>False) s v)(hk:k s e.boxes):bH P gl w0 ar e.ak o a w k:=by
 intro next Q hn
 unfold Oper.wp
 rw[bq]
 exact hn s v _ _ _ (hI.value hr) hk
theorem bH.gb(hI:Inv gl w0 ar e a w g){o:Oper}{v:Value}{s:SV}{k:Slot→List af→Prop}(bq:(execOp a.eval o).run P w=.ok (.value v) w)
  (hr:aP w g.St w0.heap.size (fun _ _ _=>False) s v)(hk:k (.v s) e.boxes):bH P gl w0 ar e.ak o a w k:=
 bH.value hI bq (.v _ _ _ hr) hk
theorem BD(k:IntKind)(n:Int):iG k (k.wrap n)=true:=by
 have hp:(0:Int)<2^k.bits:=Int.pow_pos (by decide)
 have h1:=Int.emod_nonneg n (Int.ne_of_gt hp)
 have h2:=Int.emod_lt_of_pos n hp
 simp only[iG,Bool.and_eq_true,decide_eq_true_eq,IntKind.min,IntKind.max,IntKind.wrap]
 cases k<;>simp only[IntKind.bits,IntKind.signed]at* <;>(try split)<;>simp_all<;>omega
theorem Ng{k:IntKind}{n:Int}:iG k n=true↔k.min≤n∧n≤k.max:=by simp[iG]
theorem afl{k:IntKind}{x y:Int}(hx:iG k x=true)(hy:iG k y=true):iG k (x.tmod y)=true:=by
 rw[Ng]at*
 have h1:(x.tmod y).natAbs ≤x.natAbs:=by
  rw[Int.natAbs_tmod]
  exact Nat.mod_le _ _
 have h2:0≤x→0≤x.tmod y:=fun h=>Int.tmod_nonneg y h
 have h3:x≤0→x.tmod y≤0:=fun h=>by
  have:=Int.tmod_nonneg (a:= -x) y (by omega)
  rw[Int.neg_tmod]at this
  omega
 have hm:k.min≤0∧0≤k.max:=by cases k<;>simp[IntKind.min,IntKind.max,IntKind.signed,IntKind.bits]
 constructor
 ·rcases Int.le_total 0 x with h|h
  ·have:=h2 h;omega
  ·have:=h3 h;omega
 ·rcases Int.le_total 0 x with h|h
  ·have:=h2 h;omega
  ·have:=h3 h;omega
theorem afm{k:IntKind}{x:Int}(hx:iG k x=true)(n:Nat):iG k (x.fdiv (2^n))=true:=by
 rw[Ng]at*
 have hp:(0:Int)<2^n:=Int.pow_pos (by decide)
 rw[Int.fdiv_eq_ediv_of_nonneg _ (Int.le_of_lt hp)]
 have hm:k.min≤0∧0≤k.max:=by cases k<;>simp[IntKind.min,IntKind.max,IntKind.signed,IntKind.bits]
 constructor
 ·rcases Int.le_total 0 x with h|h
  ·have:=Int.ediv_nonneg h (Int.le_of_lt hp);omega
  ·have:x≤x / 2^n:=by
    have h1:=Int.mul_ediv_add_emod x (2^n)
    have h2:=Int.emod_nonneg x (Int.ne_of_gt hp)
    have h4:x / 2^n≤0:=by
     rcases Int.lt_or_le 0 (x / 2^n)with hh|hh
     ·have h5:2^n*1≤2^n*(x / 2^n):=Int.mul_le_mul_of_nonneg_left (by omega) (Int.le_of_lt hp)
      omega
     ·exact hh
    have h3:(2^n-1)*(x / 2^n)≤0:=Int.mul_nonpos_of_nonneg_of_nonpos (by omega) h4
    have h6:x=x / 2^n+((2^n-1)*(x / 2^n)+x % 2^n):=by
     rw[Int.sub_mul,Int.one_mul];omega
    have h7:=Int.emod_lt_of_pos x hp
    rcases Int.lt_or_le (x / 2^n) x with aO|hle
    ·exfalso
     have h8:2^n*(x / 2^n)≤2^n*(x-1):=Int.mul_le_mul_of_nonneg_left (by omega) (Int.le_of_lt hp)
     have h9:(2^n)*(x-1)≤1*(x-1):=by
      have:0≤(2^n-1)*(1-x):=Int.mul_nonneg (by omega) (by omega)
      rw[Int.sub_mul,Int.mul_sub,Int.mul_sub]at this
      rw[Int.mul_sub]
      omega
     have Rk:2^n*(x / 2^n)+2^n≤2^n*x:=by
      have:2^n*(x-1)=2^n*x-2^n:=by rw[Int.mul_sub,Int.mul_one]
      omega
     have Rl:2^n*x≤x:=by
      have:0≤(2^n-1)*(-x):=Int.mul_nonneg (by omega) (by omega)
      rw[Int.sub_mul,Int.mul_neg,Int.mul_neg]at this
      omega
     omega
    ·exact hle
   omega
 ·rcases Int.le_total 0 x with h|h
  ·have:x / 2^n≤x:=Int.ediv_le_self _ h
   omega
  ·have:x / 2^n≤0:=by
    rcases Int.lt_or_le 0 (x / 2^n)with hh|hh
    ·have h1:=Int.mul_ediv_add_emod x (2^n)
     have h2:=Int.emod_nonneg x (Int.ne_of_gt hp)
     have h5:2^n*1≤2^n*(x / 2^n):=Int.mul_le_mul_of_nonneg_left (by omega) (Int.le_of_lt hp)
     omega
    ·exact hh
   omega
theorem abG{op:BinOp}{k:IntKind}{x y:Int}{r:D}(t:TypeId)(j0:op≠.shl ∧op≠.shr)(hx:iG k x=true)(hy:iG k y=true)(h:k7 op k x y=some r):
  ∃v,(binOp op t (.int k x) (.int k y)).run P w=.ok v w∧bh w g.St r v:=by
 cases op<;>simp only[k7,Option.some.injEq,reduceCtorEq]at h<;>(try (exact absurd rfl j0.1))<;>(try (exact absurd rfl j0.2))
 case quo=>
  split at h
  ·cases h
  ·rename_i vp
   cases h
   exact⟨_,by simp[binOp,Op.intDiv,vp],.int _ _ (BD _ _)⟩
 case rem=>
  split at h
  ·cases h
  ·rename_i vp
   cases h
   exact⟨_,by simp[binOp,Op.intDiv,vp],.int _ _ (afl hx hy)⟩
 all_goals (subst h)
 case add|sub|mul=>exact⟨_,by simp[binOp,Op.intArith],.int _ _ (BD _ _)⟩
 case and|or|xor|andNot=>exact⟨_,by simp[binOp,Op.intBits],.int _ _ (BD _ _)⟩
 all_goals exact⟨_,by simp[binOp,Op.intCmp],.bool _⟩
theorem TX{op:BinOp}{k k':IntKind}{x y:Int}{r:D}(t:TypeId)(j0:op=.shl ∨op=.shr)(hx:iG k x=true)(h:FY op k x y=some r):
  ∃v,(binOp op t (.int k x) (.int k' y)).run P w=.ok v w∧bh w g.St r v:=by
 unfold FY at h
 split at h
 ·cases h
 ·rename_i hy
  rcases j0 with rfl|rfl
  ·simp only[Option.some.injEq]at h;subst h
   exact⟨_,by simp[binOp,Op.shift,hy],.int _ _ (BD _ _)⟩
  ·simp only[Option.some.injEq]at h;subst h
   exact⟨_,by simp[binOp,Op.shift,hy],.int _ _ (afm hx _)⟩
theorem TJ:∀(x y:List UInt8),Op.bytesLess x y=BN x y
 |_,[]=>by cases ‹List UInt8› <;>rfl
 |[],_::_=>rfl
 |a::x,b::y=>by simp only[Op.bytesLess,BN,TJ x y]
theorem abH{op:BinOp}{x y:ByteArray}{r:D}(t:TypeId)(h:Gr op x.data.toList y.data.toList=some r):
  ∃v,(binOp op t (.string x) (.string y)).run P w=.ok v w∧bh w g.St r v:=by
 have hx:=ByteArray.toList_eq x
 have hy:=ByteArray.toList_eq y
 cases op<;>simp only[Gr,Option.some.injEq,reduceCtorEq]at h
 case add=>
  split at h
  ·rename_i hl
   cases h
   have e:(x++y).data.toList =x.data.toList++y.data.toList:=by simp
   have jn:x.size+y.size≤maxLen:=by rw[Array.length_toList,Array.length_toList]at hl;exact hl
   refine⟨.string (x++y),?_,?_⟩
   ·have hM:((maxLen:Nat):Int)=IntKind.i64.max:=by decide
    have:¬(((x.size+y.size:Nat):Int)>IntKind.i64.max):=by
     rw[←hM]
     omega
    simp only[binOp,Op.stringOp]
    rw[if_neg this]
    rfl
   ·rw[←e]
    refine .str _ ?_
    rw[ByteArray.size_append]
    exact jn
  ·cases h
 all_goals (subst h;exact⟨_,by simp[binOp,Op.stringOp,hx,hy,TJ],.bool _⟩)
end
end Go.Proofs.Ytimbllcalipehaa.Ab
namespace Go.Proofs.Ytimbllcalipehaa.Ab
open Go Go.RowKit
section
variable{P:Program}{gl:Nat→Option D}{w0:World}{ar:S0}{e:Env}{a:Act}{w:World}{g:Gh}
theorem wg:∀{ks:List CK}{xs:List D},eK ks xs=true→xs.length=ks.length
 |[],[],_=>rfl
 |[],_::_,h=>by simp[eK]at h
 |k::ks,[],h=>by cases k<;>simp[eK]at h
 |k::ks,x::xs,h=>by
  cases k<;>cases x<;>simp only[eK,Bool.false_eq_true]at h<;>simp[wg h]
theorem Dg:∀{ks ls:List CK}{xs:List D},eK (ks++ls) xs=true→eK ks (xs.take ks.length)=true∧eK ls (xs.drop ks.length)=true
 |[],ls,xs,h=>by simpa[eK]using h
 |k::ks,ls,[],h=>by cases k<;>simp[eK]at h
 |k::ks,ls,x::xs,h=>by
  cases k<;>cases x<;>simp only[List.cons_append,eK,Bool.false_eq_true]at h<;>simpa[eK]using Dg h
theorem MX:∀(xs ys Cu Cv:List D),xs.length=ys.length→gF (xs++Cu) (ys++Cv)=(match gF xs ys with
  |some b=>(match gF Cu Cv with|some c=>some (b&&c)|none=>none)|none=>none)
 |[],[],Cu,Cv,_=>by
  simp only[List.nil_append,gF]
  cases gF Cu Cv<;>simp
 |x::xs,y::ys,Cu,Cv,h=>by
  simp only[List.cons_append,gF]
  rw[MX xs ys Cu Cv (by simpa using h)]
  cases oY x y<;>simp
  cases gF xs ys<;>simp
  cases gF Cu Cv<;>simp[Bool.and_assoc]
 |[],_::_,_,_,h=>by simp at h
 |_::_,[],_,_,h=>by simp at h
def mL(w:World)(St:Nat→Nat→Prop)(xs:List D)(vs:Array Value):Prop:=
 xs.length=vs.size∧∀(i:Nat)x v,xs[i]? =some x→vs[i]? =some v→bh w St x v
theorem mL.agg{w:World}{St:Nat→Nat→Prop}{xs:List D}{vs:Array Value}(h:mL w St xs vs)(hf:∀d∈xs,d.one=true):bh w St (.agg xs) (.agg vs):=.agg xs vs hf h.1 h.2
theorem mL.extract{w:World}{St:Nat→Nat→Prop}{xs:List D}{vs:Array Value}(h:mL w St xs vs)(off n:Nat):
  mL w St ((xs.drop off).take n) (vs.extract off (off+n)):=by
 refine⟨by simp[h.1];omega,fun i x v hx hv=>?_⟩
 rw[List.getElem?_take]at hx
 split at hx
 ·rename_i hi
  rw[List.getElem?_drop]at hx
  rw[Array.getElem?_extract]at hv
  split at hv
  ·exact h.2 (off+i) x v hx hv
  ·cases hv
 ·cases hx
theorem j9{t:TypeId}{n:Nat}(h:eu P t=some n)(w:World):(sizeOf t).run P w=.ok n w:=by
 unfold eu at h
 split at h
 ·rename_i i hi
  cases h
  simp[sizeOf,typeInfo,hi]
 ·cases h
theorem U4{t:TypeId}{b:Bool}(h:eJ P t=some b)(w:World):(isAgg t).run P w=.ok b w:=by
 unfold eJ at h
 split at h
 ·rename_i fs hu;cases h;simp[isAgg,run_underlying hu]
 ·rename_i n e' hu;cases h;simp[isAgg,run_underlying hu]
 ·rename_i d h1 h2 hu
  cases h
  simp only[isAgg,Sem.run_bind,run_underlying hu,Result.andThen_ok]
  cases d<;>first|rfl|(exact absurd hu (h1 _))|(exact absurd hu (h2 _ _))
 ·cases h
theorem F6{t:TypeId}{b:Bool}{n:Nat}(h:lf P t=some (b,n)):eJ P t=some b∧eu P t=some n∧(b=false→n=1):=by
 unfold lf at h
 split at h
 ·rename_i b' hb
  split at h
  ·rename_i i hi
   cases hc:(b'||Nat.beq i.size 1)with
   |false=>rw[hc]at h;cases h
   |true=>
    rw[hc]at h
    cases h
    refine⟨hb,by simp[eu,hi],fun hf=>?_⟩
    subst hf
    exact Nat.eq_of_beq_eq_true (by simpa using hc)
  ·cases h
 ·cases h
theorem adV{t:TypeId}{b:Bool}{n:Nat}(hb:eJ P t=some b)(hn:eu P t=some n)(cs:Array Value)(off:Nat)(w:World):
  (part t cs off).run P w=if b then .ok (.agg (cs.extract off (off+n))) w else(match cs[off]? with|some v=>.ok v w|none=>.halt (.stuck "part: no such cell") w):=by
 unfold part
 simp only[Sem.run_bind,U4 hb,Result.andThen_ok]
 cases b
 ·simp only[Bool.false_eq_true,if_false]
  cases cs[off]? <;>rfl
 ·simp[j9 hn]
def jC(w:World)(St:Nat→Nat→Prop)(b:Bool)(xs:List D)(v:Value):Prop:=
 if b then ∃cs,v=.agg cs∧mL w St xs cs else ∃x,xs=[x]∧bh w St x v
theorem Fx{f:Nat}{t:TypeId}{ks:List CK}(h:shapeOf P f t=some ks):eu P t=some ks.length∧
  ((eJ P t=some false∧ks.length=1)∨eJ P t=some true):=by
 cases f with
 |zero=>simp[shapeOf]at h
 |succ f=>
  rw[shapeOf]at h
  split at h
  ·rename_i hu;split at h<;>cases h;rename_i hs;exact⟨hs,.inl ⟨by simp[eJ,hu],rfl⟩⟩
  ·rename_i hu;split at h<;>cases h;rename_i hs;exact⟨hs,.inl ⟨by simp[eJ,hu],rfl⟩⟩
  ·rename_i hu;split at h<;>cases h;rename_i hs;exact⟨hs,.inl ⟨by simp[eJ,hu],rfl⟩⟩
  ·rename_i n e' hu
   split at h
   ·rename_i pT ja
    split at h
    ·rename_i s hs
     cases hc:Nat.beq s (n*pT.length)with
     |true=>
      rw[hc]at h;cases h
      have:(Ah pT n).length =n*pT.length:=by
       clear hc hu hs
       induction n with
       |zero=>simp[Ah]
       |succ n ih=>simp[Ah,ih,Nat.succ_mul];omega
      have h2:=Nat.eq_of_beq_eq_true hc
      exact⟨by rw[hs,this,h2],.inr (by simp[eJ,hu])⟩
     |false=>rw[hc]at h;cases h
    ·cases h
   ·cases h
  ·rename_i fs hu
   cases aY:P.stoodInHeld t with
   |true=>rw[aY]at h;cases h
   |false=>
    rw[aY]at h
    simp only[cond_false]at h
    split at h
    ·rename_i pT ja
     split at h
     ·rename_i s hs
      cases hc:Nat.beq s pT.length with
      |true=>
       rw[hc]at h;cases h
       have h2:=Nat.eq_of_beq_eq_true hc
       exact⟨by rw[hs,h2],.inr (by simp[eJ,hu])⟩
      |false=>rw[hc]at h;cases h
     ·cases h
    ·cases h
  ·cases h
theorem mL.valOf{xs:List D}{vs:Array Value}(h:mL w g.St xs vs){t:TypeId}{b:Bool}{n off:Nat}(hb:eJ P t=some b)(hn:eu P t=some n)
  (h1:b=false→n=1)(hle:off+n≤xs.length):∃v,(part t vs off).run P w=.ok v w∧jC w g.St b ((xs.drop off).take n) v:=by
 rw[adV hb hn]
 cases b with
 |true=>exact⟨_,by simp;rfl,by simp only[jC,if_true];exact⟨_,rfl,h.extract off n⟩⟩
 |false=>
  have ua:=h1 rfl
  subst ua
  have aO:off<xs.length:=by omega
  have mh:off<vs.size:=by rw[←h.1];exact aO
  refine⟨vs[off],by simp[mh],?_⟩
  simp only[jC,Bool.false_eq_true,if_false]
  refine⟨xs[off],?_,h.2 off _ _ (by simp) (by simp)⟩
  rw[List.drop_eq_getElem_cons aO,List.take_succ_cons,List.take_zero]
theorem Ts(d:Nat)(go:TypeId→Option (List CK))(aM:∀t ks,go t=some ks→eu P t=some ks.length∧((eJ P t=some false∧ks.length=1)∨eJ P t=some true))
  (ih:∀(t:TypeId)(ks:List CK)(b:Bool)(xs ys:List D)(vx vy:Value)(r:Bool),go t=some ks→eJ P t=some b→
    eK ks xs=true→eK ks ys=true→jC w g.St b xs vx→jC w g.St b ys vy→gF xs ys=some r→(Op.equalIn d t vx vy).run P w=.ok r w)
  {xs ys:List D}{cx cy:Array Value}(rx:mL w g.St xs cx)(ry:mL w g.St ys cy):∀(fs:List Field)(off:Nat)(ks:List CK)(r:Bool),Df go fs off=some ks→off≤xs.length→off≤ys.length→
   eK ks (xs.drop off)=true→eK ks (ys.drop off)=true→gF (xs.drop off) (ys.drop off)=some r→(Op.eqFields d cx cy fs).run P w=.ok r w
 |[],off,ks,r,h,_,_,hx,hy,he=>by
  simp only[Df,Option.some.injEq]at h
  subst h
  have h1:=wg hx
  have h2:=wg hy
  rw[List.eq_nil_of_length_eq_zero h1,List.eq_nil_of_length_eq_zero h2]at he
  simp only[gF,Option.some.injEq]at he
  subst he
  rfl
 |f::fs,off,ks,r,h,hox,hoy,hx,hy,he=>by
  simp only[Df]at h
  split at h
  ·rename_i kf LH
   cases hc:(f.name != "_" &&Nat.beq f.offset off)with
   |false=>rw[hc]at h;cases h
   |true=>
    rw[hc]at h
    simp only[cond_true]at h
    split at h
    ·rename_i kr Rm
     cases h
     simp only[Bool.and_eq_true,bne_iff_ne,ne_eq]at hc
     have Cd:=Nat.eq_of_beq_eq_true hc.2
     obtain⟨jb,xB⟩:=Dg hx
     obtain⟨Cw,Cx⟩:=Dg hy
     obtain⟨hs,pe⟩:=aM _ _ LH
     have lx:=wg hx
     have ly:=wg hy
     simp only[List.length_drop,List.length_append]at lx ly
     rw[←List.take_append_drop kf.length (xs.drop off),←List.take_append_drop kf.length (ys.drop off),
      MX _ _ _ _ (by simp;omega)]at he
     split at he
     ·rename_i b1 gV
      split at he
      ·rename_i b2 jo
       cases he
       have rest:=Ts d go aM ih rx ry fs (off+kf.length) kr b2 Rm (by omega) (by omega) (by rw[List.drop_drop]at xB;exact xB) (by rw[List.drop_drop]at Cx;exact Cx)
        (by rw[List.drop_drop,List.drop_drop]at jo;exact jo)
       obtain⟨b,hb,h1⟩:∃b,eJ P f.type=some b∧(b=false→kf.length=1):=by
        rcases pe with⟨h1,h2⟩|h1
        ·exact⟨false,h1,fun _=>h2⟩
        ·exact⟨true,h1,by simp⟩
       obtain⟨vx,px,qx⟩:=rx.valOf (off:=f.offset) hb hs h1 (by omega)
       obtain⟨vy,py,qy⟩:=ry.valOf (off:=f.offset) hb hs h1 (by omega)
       rw[Cd]at qx qy
       have hq:=ih f.type kf b _ _ vx vy b1 LH hb jb Cw qx qy gV
       simp only[Op.eqFields,if_pos hc.1,Sem.run_bind,px,py,hq,Result.andThen_ok]
       cases b1
       ·simp
       ·simpa using rest
      ·cases he
     ·cases he
    ·cases h
  ·cases h
theorem Tz(d:Nat)(t:TypeId)(ks:List CK)(b:Bool)(hb:eJ P t=some b)(hs:eu P t=some ks.length)(h1:b=false→ks.length=1)
  (ih:∀(xs ys:List D)(vx vy:Value)(r:Bool),eK ks xs=true→eK ks ys=true→jC w g.St b xs vx→jC w g.St b ys vy→gF xs ys=some r→
    (Op.equalIn d t vx vy).run P w=.ok r w)
  {xs ys:List D}{cx cy:Array Value}(rx:mL w g.St xs cx)(ry:mL w g.St ys cy):∀(n i:Nat)(r:Bool),eK (Ah ks n) (xs.drop (i*ks.length))=true→
   eK (Ah ks n) (ys.drop (i*ks.length))=true→gF (xs.drop (i*ks.length)) (ys.drop (i*ks.length))=some r→
   (Op.eqItems d t ks.length cx cy (List.range' i n)).run P w=.ok r w
 |0,i,r,hx,hy,he=>by
  rw[List.eq_nil_of_length_eq_zero (wg hx),List.eq_nil_of_length_eq_zero (wg hy)]at he
  simp only[gF,Option.some.injEq]at he
  subst he
  rfl
 |n+1,i,r,hx,hy,he=>by
  simp only[Ah]at hx hy
  obtain⟨jb,xB⟩:=Dg hx
  obtain⟨Cw,Cx⟩:=Dg hy
  have lx:=wg hx
  have ly:=wg hy
  simp only[List.length_drop,List.length_append]at lx ly
  rw[←List.take_append_drop ks.length (xs.drop (i*ks.length)),←List.take_append_drop ks.length (ys.drop (i*ks.length)),
   MX _ _ _ _ (by simp;omega)]at he
  split at he
  ·rename_i b1 gV
   split at he
   ·rename_i b2 jo
    cases he
    have e:i*ks.length+ks.length=(i+1)*ks.length:=by rw[Nat.succ_mul]
    have rest:=Tz d t ks b hb hs h1 ih rx ry n (i+1) b2 (by rw[List.drop_drop,e]at xB;exact xB) (by rw[List.drop_drop,e]at Cx;exact Cx)
     (by rw[List.drop_drop,List.drop_drop,e]at jo;exact jo)
    by_cases hz:ks.length=0∧xs.length<i*ks.length
    ·rw[hz.1]at hz;omega
    have kx:i*ks.length+ks.length≤xs.length:=by
     by_cases h0:ks.length=0
     ·rw[h0];omega
     ·omega
    have ky:i*ks.length+ks.length≤ys.length:=by
     by_cases h0:ks.length=0
     ·rw[h0];omega
     ·omega
    obtain⟨vx,px,qx⟩:=rx.valOf (off:=i*ks.length) hb hs h1 kx
    obtain⟨vy,py,qy⟩:=ry.valOf (off:=i*ks.length) hb hs h1 ky
    have hq:=ih _ _ vx vy b1 jb Cw qx qy gV
    simp only[List.range'_succ,Op.eqItems,Sem.run_bind,px,py,hq,Result.andThen_ok]
    cases b1
    ·simp
    ·simpa using rest
   ·cases he
  ·cases he
theorem M4:∀(f d:Nat)(t:TypeId)(ks:List CK)(b:Bool)(xs ys:List D)(vx vy:Value)(r:Bool),shapeOf P f t=some ks→f≤d→eJ P t=some b→
  eK ks xs=true→eK ks ys=true→jC w g.St b xs vx→jC w g.St b ys vy→gF xs ys=some r→(Op.equalIn d t vx vy).run P w=.ok r w:=by
 intro f
 induction f with
 |zero=>intro d t ks b xs ys vx vy r h;simp[shapeOf]at h
 |succ f ih=>
  intro d t ks b xs ys vx vy r bj hd hb hx hy rx ry he
  obtain⟨d,rfl⟩:∃d',d=d'+1:=⟨d-1,by omega⟩
  have aM:=Fx bj
  rw[shapeOf]at bj
  split at bj
  ·
   rename_i hu
   split at bj<;>cases bj
   have:b=false:=by simpa[eJ,hu]using hb.symm
   subst this
   simp only[jC,Bool.false_eq_true,if_false]at rx ry
   obtain⟨x,rfl,rx⟩:=rx
   obtain⟨y,rfl,ry⟩:=ry
   cases x<;>simp[eK]at hx
   cases y<;>simp[eK]at hy
   cases rx;cases ry
   rw[run_equalIn_bool' w d t _ _ hu]
   simp[gF,oY]at he
   rw[←he]
  ·rename_i k hu
   split at bj<;>cases bj
   have:b=false:=by simpa[eJ,hu]using hb.symm
   subst this
   simp only[jC,Bool.false_eq_true,if_false]at rx ry
   obtain⟨x,rfl,rx⟩:=rx
   obtain⟨y,rfl,ry⟩:=ry
   cases x<;>simp[eK]at hx
   cases y<;>simp[eK]at hy
   rename_i k1 n1 k2 n2
   cases rx;cases ry
   by_cases hk:k1=k2
   ·subst hk
    rw[run_equalIn_int w d t _ k _ _ hu]
    simp[gF,oY]at he
    rw[←he]
   ·simp[gF,oY,hk]at he
  ·rename_i hu
   split at bj<;>cases bj
   have:b=false:=by simpa[eJ,hu]using hb.symm
   subst this
   simp only[jC,Bool.false_eq_true,if_false]at rx ry
   obtain⟨x,rfl,rx⟩:=rx
   obtain⟨y,rfl,ry⟩:=ry
   cases x<;>simp[eK]at hx
   cases y<;>simp[eK]at hy
   cases rx with|str s1 _=>
   cases ry with|str s2 _=>
   rw[run_equalIn_string w d t _ _ hu]
   rw[ByteArray.toList_eq,ByteArray.toList_eq]
   simp only[gF,oY,Bool.and_true,Option.some.injEq]at he
   rw[←he]
  ·
   rename_i n e' hu
   split at bj
   ·rename_i pT ja
    split at bj
    ·rename_i s hs
     cases hc:Nat.beq s (n*pT.length)with
     |false=>rw[hc]at bj;cases bj
     |true=>
      rw[hc]at bj;cases bj
      have:b=true:=by simpa[eJ,hu]using hb.symm
      subst this
      simp only[jC,if_true]at rx ry
      obtain⟨cx,rfl,rx⟩:=rx
      obtain⟨cy,rfl,ry⟩:=ry
      obtain⟨j1,pe⟩:=Fx ja
      obtain⟨b,eC,h1⟩:∃b,eJ P e'=some b∧(b=false→pT.length=1):=by
       rcases pe with⟨h1,h2⟩|h1
       ·exact⟨false,h1,fun _=>h2⟩
       ·exact⟨true,h1,by simp⟩
      obtain⟨i,hi,his⟩:∃i,P.info? e'=some i∧P.cellsOf e'=pT.length:=by
       unfold eu at j1
       split at j1
       ·rename_i i hi;exact⟨i,hi,by simpa[Program.cellsOf,hi]using j1⟩
       ·cases j1
      rw[run_equalIn_array w d _ _ hu hi,his,List.range_eq_range']
      exact Tz d e' pT b eC j1 h1 (fun xs ys vx vy r=>ih d e' pT b xs ys vx vy r ja (by omega) eC) rx ry n 0 r (by simpa using hx) (by simpa using hy) (by simpa using he)
    ·cases bj
   ·cases bj
  ·
   rename_i fs hu
   cases aY:P.stoodInHeld t with
   |true=>rw[aY]at bj;cases bj
   |false=>
    rw[aY]at bj
    simp only[cond_false]at bj
    split at bj
    ·rename_i pT ja
     split at bj
     ·rename_i s hs
      cases hc:Nat.beq s pT.length with
      |false=>rw[hc]at bj;cases bj
      |true=>
       rw[hc]at bj;cases bj
       have:b=true:=by simpa[eJ,hu]using hb.symm
       subst this
       simp only[jC,if_true]at rx ry
       obtain⟨cx,rfl,rx⟩:=rx
       obtain⟨cy,rfl,ry⟩:=ry
       have EF:P.fieldsOf t=fs:=by simp[Program.fieldsOf,hu]
       rw[run_equalIn_struct w d t _ _ (by rw[EF];exact hu) aY,EF]
       exact Ts d (shapeOf P f) (fun t ks h=>Fx h) (fun t ks b xs ys vx vy r h=>ih d t ks b xs ys vx vy r h (by omega)) rx ry fs.toList 0 _ r ja (Nat.zero_le _) (Nat.zero_le _) (by simpa using hx) (by simpa using hy) (by simpa using he)
     ·cases bj
    ·cases bj
  ·cases bj
end
end Go.Proofs.Ytimbllcalipehaa.Ab
namespace Go.Proofs.Ytimbllcalipehaa.Ab
open Go Go.RowKit
theorem pB(b o n:Nat):(⟨b,o,none⟩:Addr).add n=⟨b,o+n,none⟩:=by unfold Addr.add;split<;>simp_all
section
variable{P:Program}{gl:Nat→Option D}{w0:World}{ar:S0}{e:Env}{a:Act}{w:World}{g:Gh}
theorem jw(w:World)(o:Obj)(b:Nat)(h:b<w.heap.size):(w.alloc o).heap[b]? =w.heap[b]? :=by
 show(w.heap.push o)[b]? =_
 rw[Array.getElem?_push,if_neg (Nat.ne_of_lt h)]
theorem uO(w:World)(o:Obj):(w.alloc o).heap[w.heap.size]? =some o:=by
 show(w.heap.push o)[w.heap.size]? =_
 simp
theorem zX(w:World)(o:Obj):(w.alloc o).heap.size =w.heap.size+1:=by
 show(w.heap.push o).size =_
 simp
theorem MY(w:World)(o:Obj)(b off:Nat)(h:b<w.heap.size):(w.alloc o).cell? ⟨b,off,none⟩=w.cell? ⟨b,off,none⟩:=
 World.cell?_of_block (jw w o b h)
theorem Inv.lH(hI:Inv gl w0 ar e a w g){b o:Nat}(h:g.St b o):b<w.heap.size:=(hI.cW b o h).2.2
theorem fa.lt{base:Nat}{p:Pos}{b a c:Nat}(h:fa base w g p b a c):b<w.heap.size:=by
 obtain⟨_,_,_,⟨cur,e,h,_⟩,_⟩:=h
 exact(Array.getElem?_eq_some_iff.1 h).1
theorem bH.XT(hI:Inv gl w0 ar e a w g){o:Oper}{ob:Obj}{bx:af}{id:Nat}{sl:Slot}{vl:Value}{k:Slot→List af→Prop}
  (gj:e.boxes[id]? =some .none)
  (bq:(execOp a.eval o).run P w=.ok (.value vl) (w.alloc ob))
  (jq:∀(g':Gh)(O:Nat→Nat→Nat→Nat→Prop),g'.bx[id]? =some (some w.heap.size)→cE w0.heap.size (w.alloc ob) g' O sl vl)
  (rep:∀(g':Gh),Ext w0.heap.size w g (w.alloc ob) g' (fun _=>False)→w0.heap.size≤w.heap.size→qX w0.heap.size (w.alloc ob) g' id bx w.heap.size)
  (hk:k sl (e.boxes.set id bx)):bH P gl w0 ar e.ak o a w k:=by
 intro next Q hn
 unfold Oper.wp
 rw[bq]
 have hle:w0.heap.size≤w.heap.size:=hI.below.size
 have Ql:id<e.boxes.length:=(List.getElem?_eq_some_iff.1 gj).1
 have akv:∀ao,g.bx[id]? ≠some (some ao):=fun ao h=>by
  exact hI.boxes id .none ao gj h
 have eL:∀b,some b∈g.bx.set id (some w.heap.size)→some b∈g.bx∨b=w.heap.size:=fun b h=>by
  rcases List.mem_or_eq_of_mem_set h with h|h
  ·exact .inl h
  ·exact .inr (by simpa using h)
 have hX:Ext w0.heap.size w g (w.alloc ob) {g with bx:=g.bx.set id (some w.heap.size)} (fun _=>False):=by
  refine⟨fun D o hb ho h=>⟨(jw w _ D (fL h)).trans h,fun hm=>(by
   rcases eL D hm with h2|h2
   ·exact hb h2
   ·have:=fL h;omega),ho,fun _ h=>h⟩,fun b o h=>⟨h,.qF (jw w _ b (hI.lH h))⟩,fun b o h=>MY w _ b o (by omega),fun i ao h=>?_,fun p b a c _ ho=>?_,.of fun b hb=>jw w _ b hb⟩
  ·simp only
   rw[List.getElem?_set_ne (fun hh=>akv ao (by rw[hh];exact h))]
   exact h
  ·have aO:=ho.lt
   obtain⟨h1,h2,h3,⟨cur,ty,h4,nG⟩,h5⟩:=ho
   refine⟨⟨h1,h2,?_,⟨cur,ty,(jw w _ b aO).trans h4,nG⟩,h5⟩,fun _=>jw w _ b aO⟩
   intro hm
   rcases eL b hm with h|h
   ·exact h3 h
   ·omega
 refine hn sl _ _ _ {g with bx:=g.bx.set id (some w.heap.size)} (hI.step (lost:=fun p=>∃d j,o.dst=some d∧p=.s d j)
  ⟨hX.df,hX.st,hX.bs,hX.bx,fun p b a c _ ho=>hX.own p b a c (fun h=>h) ho,hX.sh⟩ ((Below.refl _ _).alloc hle _) rfl
  (fun i x hx hd=>⟨x,hx,.inl ⟨rfl,fun j=>?_⟩⟩) ?_ (by simp[hI.fQ]) ?_ ?_ ?_ ?_) hk
 ·rintro⟨d,j',h1,h2⟩;cases h2;exact hd h1
 ·intro d _
  refine jq _ _ ?_
  simp only
  rw[List.getElem?_set_self (by rw[hI.fQ];exact Ql)]
 ·intro b ft ao h1 h2
  simp only at h2
  by_cases hb:id=b
  ·subst hb
   rw[List.getElem?_set_self Ql]at h1
   rw[List.getElem?_set_self (by rw[hI.fQ];exact Ql)]at h2
   simp only[Option.some.injEq]at h1 h2
   subst h1 h2
   exact rep _ hX hle
  ·rw[List.getElem?_set_ne hb]at h1 h2
   have G7:=(hI.dF ao (List.mem_of_getElem? h2)).2
   exact hX.box (fun _ h=>h) (jw w _ ao G7) (hI.boxes b ft ao h1 h2)
 ·intro i j ao h1 h2
  simp only at h1 h2
  rw[List.getElem?_set]at h1 h2
  split at h1<;>split at h2
  ·omega
  ·rename_i hi hj
   split at h1
   ·simp only[Option.some.injEq]at h1
    subst h1
    have:=(hI.dF _ (List.mem_of_getElem? h2)).2
    omega
   ·cases h1
  ·rename_i hi hj
   split at h2
   ·simp only[Option.some.injEq]at h2
    subst h2
    have:=(hI.dF _ (List.mem_of_getElem? h1)).2
    omega
   ·cases h2
  ·exact hI.nodup i j ao h1 h2
 ·intro b hb
  have hs:(w.alloc ob).heap.size =w.heap.size+1:=zX w _
  rw[hs]
  rcases eL b hb with hb|rfl
  ·have:=hI.dF b hb;omega
  ·omega
 ·intro b o h
  have hs:(w.alloc ob).heap.size =w.heap.size+1:=zX w _
  have h1:=hI.cW b o h
  refine⟨h1.1,fun hm=>?_,by omega⟩
  rcases eL b hm with h|h
  ·exact h1.2.1 h
  ·omega
theorem bH.Ko(hI:Inv gl w0 ar e a w g){o:Oper}{cells:Array Value}{t:TypeId}{bx:af}{id:Nat}{k:Slot→List af→Prop}
  (gj:e.boxes[id]? =some .none)
  (bq:(execOp a.eval o).run P w=.ok (.value (.pointer (some ⟨w.heap.size,0,none⟩))) (w.alloc (.cells cells t)))
  (bY:∀y∈cells,y.oneCell'=true)
  (rep:∀(w':World)(g':Gh)(O:Nat→Nat→Nat→Nat→Prop),Ext w0.heap.size w g w' g' (fun _=>False)→(match(generalizing:=false) bx with
    | .none =>False
    | .map _=>False
    | .cells cs=>cs.length≤cells.size∧∀(j:Nat)x y,cs[j]? =some x→cells[j]? =some y→aP w' g'.St w0.heap.size (O j) x y
    | .one s=>0<cells.size∧∀y,cells[0]? =some y→cE w0.heap.size w' g' (fun _=>O 0) s y))
  (hk:k (.p id 0) (e.boxes.set id bx)):bH P gl w0 ar e.ak o a w k:=by
 refine bH.XT hI gj bq (fun g' O hb=>.p _ _ _ _ hb) (fun g' hX hle=>?_) hk
 have:=rep _ g' (u6 w0.heap.size (w.alloc (.cells cells t)) g' id) hX
 cases bx with
 |none=>exact this.elim
 |map l=>exact this.elim
 |cells cs=>exact⟨hle,cells,t,uO w _,fun j y _ h=>bY y (Array.mem_of_getElem? h),this⟩
 |one s=>exact⟨hle,cells,t,uO w _,fun j y _ h=>bY y (Array.mem_of_getElem? h),this⟩
theorem Inv.XU(hI:Inv gl w0 ar e a w g){b ao:Nat}{ft:af}{w':World}{dst:Option Nat}{s:Slot}{v:Value}{ak:List Slot}
  (u2 yH:Nat→Prop){g':Gh}(kF:g'.St=g.St)(xC:g'.bx=g.bx)
  (vq:∀p qY,(∀i j,p=.s i j→¬u2 i)→(∀j,p=.b b j→¬yH j)→(∀d j,dst=some d→p≠.s d j)→g.ow qY=some p→g'.ow qY=some p)(Rn:∀D,g.ow D=none→g'.ow D=none)
  (hb:g.bx[b]? =some (some ao))
  (dQ:∀k,k≠ao→w'.heap[k]? =w.heap[k]?)(bj:∀c ty,w.heap[ao]? =some (.cells c ty (0,0))→∃c' nE,w'.heap[ao]? =some (.cells c' nE (0,0))∧c'.size=c.size)(aM:w'.heap.size=w.heap.size)
  (zo:w'.os=w.os∧w'.tape=w.tape∧w'.output=w.output)
  (hlen:ak.length=e.ak.length)
  (hs:∀(i:Nat)x,ak[i]? =some x→dst≠some i→∃y,e.ak[i]? =some y∧((x=y∧¬u2 i)∨x=y.aa))
  (rep:Ext w0.heap.size w g w' g' (fun p=>(∃i j,p=.s i j∧u2 i)∨(∃j,p=.b b j∧yH j)∨(∃d j,dst=some d∧p=.s d j))→w0.heap.size≤ao→qX w0.heap.size w' g' b ft ao)
  (pP:Ext w0.heap.size w g w' g' (fun p=>(∃i j,p=.s i j∧u2 i)∨(∃j,p=.b b j∧yH j)∨(∃d j,dst=some d∧p=.s d j))→
    ∀d,dst=some d→cE w0.heap.size w' g' (fO w0.heap.size w' g' d) s v):
  Inv gl w0 ar ⟨cS ak dst s,e.boxes.set b ft⟩ (a.put dst v) w' g':=by
 have pf:some ao∈g.bx:=List.mem_of_getElem? hb
 have eh:=hI.dF ao pf
 have hX:Ext w0.heap.size w g w' g' (fun p=>(∃i j,p=.s i j∧u2 i)∨(∃j,p=.b b j∧yH j)∨(∃d j,dst=some d∧p=.s d j)):=by
  refine⟨fun D o fW ho h=>⟨(dQ D (fun e=>fW (by rw[e];exact pf))).trans h,by rw[xC];exact fW,Rn D ho,fun x hx=>by rw[kF]at hx;exact hx⟩,fun b' o h=>⟨by rw[kF];exact h,.qF (dQ b' ?_)⟩,fun b' o h=>World.cell?_of_block (dQ b' (by omega)),fun i x h=>by rw[xC];exact h,?_,fun b' c ty _ eC=>(by
   by_cases fh:b'=ao
   ·subst fh;exact bj c ty eC
   ·exact⟨c,ty,(dQ b' fh).trans eC,rfl⟩)⟩
  ·rintro rfl;exact(hI.cW b' o h).2.1 pf
  ·rintro p b' a' c' hl ⟨h1,h2,h3,⟨cur,ty,h4,nG⟩,h5⟩
   exact⟨⟨vq p b' (fun i j h jn=>hl (.inl ⟨i,j,h,jn⟩)) (fun j h jn=>hl (.inr (.inl ⟨j,h,jn⟩))) (fun d j h1 h2=>hl (.inr (.inr ⟨d,j,h1,h2⟩))) h1,h2,by rw[xC];exact h3,
    ⟨cur,ty,(dQ b' (fun h=>h3 (h▸pf))).trans h4,nG⟩,fun o ho=>by rw[kF];exact h5 o ho⟩,fun _=>dQ b' (fun h=>h3 (h▸pf))⟩
 have qO:Below w0.heap.size w w':=⟨zo.1,zo.2.1,zo.2.2,by omega,fun k hk=>dQ k (by omega)⟩
 refine hI.step hX qO hlen (fun i x hx hd=>?_) (pP hX) (by rw[xC];simp[hI.fQ]) ?_ (by rw[xC];exact hI.nodup) ?_ ?_
 ·obtain⟨y,hy,⟨rfl,hl⟩|h⟩:=hs i x hx hd
  ·refine⟨x,hy,.inl ⟨rfl,fun j=>?_⟩⟩
   rintro(⟨i',j',h,jn⟩|⟨j',h,_⟩|⟨d,j',h1,h2⟩)
   ·cases h;exact hl jn
   ·cases h
   ·cases h2;exact hd h1
  ·exact⟨y,hy,.inr h⟩
 ·intro b' bx qY h1 h2
  rw[xC]at h2
  rw[List.getElem?_set]at h1
  by_cases fh:b=b'
  ·subst fh
   rw[hb]at h2;cases h2
   simp only[↓reduceIte]at h1
   split at h1
   ·cases h1
    exact rep hX eh.1
   ·cases h1
  ·simp only[fh,↓reduceIte]at h1
   have bf:qY≠ao:=by
    rintro rfl
    exact fh (hI.nodup _ _ _ hb h2)
   refine hX.box (fun j=>?_) (dQ qY bf) (hI.boxes b' bx qY h1 h2)
   rintro(⟨i',j',h,jn⟩|⟨j',h,_⟩|⟨d,j',h1,h2⟩)
   ·cases h
   ·cases h;exact fh rfl
   ·cases h2
 ·intro x hx;rw[xC]at hx;rw[aM];exact hI.dF x hx
 ·intro b' o h;rw[kF]at h;rw[xC,aM];exact hI.cW b' o h
theorem Inv.Pm(hI:Inv gl w0 ar e a w g){b ao:Nat}{ft:af}{w':World}{cells:Array Value}{t:TypeId}{dst:Option Nat}{s:Slot}{v:Value}{ak:List Slot}
  (u2 yH:Nat→Prop){g':Gh}(kF:g'.St=g.St)(xC:g'.bx=g.bx)
  (vq:∀p qY,(∀i j,p=.s i j→¬u2 i)→(∀j,p=.b b j→¬yH j)→(∀d j,dst=some d→p≠.s d j)→g.ow qY=some p→g'.ow qY=some p)(Rn:∀D,g.ow D=none→g'.ow D=none)
  (hb:g.bx[b]? =some (some ao))
  (bY:∀(j:Nat)y,j<ft.size→cells[j]? =some y→y.oneCell'=true)
  (dM:w'.heap[ao]? =some (.cells cells t (0,0)))(ck:∀c ty,w.heap[ao]? =some (.cells c ty (0,0))→cells.size=c.size)(dQ:∀k,k≠ao→w'.heap[k]? =w.heap[k]?)(aM:w'.heap.size=w.heap.size)
  (zo:w'.os=w.os∧w'.tape=w.tape∧w'.output=w.output)
  (hlen:ak.length=e.ak.length)
  (hs:∀(i:Nat)x,ak[i]? =some x→dst≠some i→∃y,e.ak[i]? =some y∧((x=y∧¬u2 i)∨x=y.aa))
  (rep:Ext w0.heap.size w g w' g' (fun p=>(∃i j,p=.s i j∧u2 i)∨(∃j,p=.b b j∧yH j)∨(∃d j,dst=some d∧p=.s d j))→(match(generalizing:=false) ft with
    | .none =>False
    | .map _=>False
    | .cells cs=>cs.length≤cells.size∧∀(j:Nat)x y,cs[j]? =some x→cells[j]? =some y→aP w' g'.St w0.heap.size (u6 w0.heap.size w' g' b j) x y
    | .one s=>0<cells.size∧∀y,cells[0]? =some y→cE w0.heap.size w' g' (fun _=>u6 w0.heap.size w' g' b 0) s y))
  (pP:Ext w0.heap.size w g w' g' (fun p=>(∃i j,p=.s i j∧u2 i)∨(∃j,p=.b b j∧yH j)∨(∃d j,dst=some d∧p=.s d j))→
    ∀d,dst=some d→cE w0.heap.size w' g' (fO w0.heap.size w' g' d) s v):
  Inv gl w0 ar ⟨cS ak dst s,e.boxes.set b ft⟩ (a.put dst v) w' g':=by
 refine hI.XU u2 yH kF xC vq Rn hb dQ (fun c ty h=>⟨cells,t,dM,ck c ty h⟩) aM zo hlen hs (fun hX hle=>?_) pP
 have:=rep hX
 cases ft with
 |none=>exact this.elim
 |map l=>exact this.elim
 |cells cs=>exact⟨hle,cells,t,dM,bY,this⟩
 |one s=>exact⟨hle,cells,t,dM,bY,this⟩
end
end Go.Proofs.Ytimbllcalipehaa.Ab
namespace Go.Proofs.Ytimbllcalipehaa.Ab
open Go Go.RowKit
section
variable{P:Program}{gl:Nat→Option D}{w0:World}{ar:S0}{e:Env}{a:Act}{w:World}{g:Gh}
theorem bh.uT{St:Nat→Nat→Prop}{k:IntKind}{n:Int}{v:Value}(h:bh w St (.int k n) v):v=.int k n∧iG k n=true:=by
 cases h with
 |int _ _ h=>exact⟨rfl,h⟩
theorem bh.x8{St:Nat→Nat→Prop}{l:List UInt8}{v:Value}(h:bh w St (.str l) v):∃s,v=.string s∧l=s.data.toList∧s.size≤maxLen:=by
 cases h with
 |str s h=>exact⟨s,rfl,rfl,h⟩
theorem bh.wA{St:Nat→Nat→Prop}{b:Bool}{v:Value}(h:bh w St (.bool b) v):v=.bool b:=by
 cases h with
 |bool _=>rfl
theorem bh.x9{St:Nat→Nat→Prop}{ds:List D}{v:Value}(h:bh w St (.agg ds) v):∃vs,v=.agg vs∧mL w St ds vs∧∀d∈ds,d.one=true:=by
 cases h with
 |agg _ vs hf hl hc=>exact⟨vs,rfl,⟨hl,hc⟩,hf⟩
theorem IU(op:BinOp)(t:TypeId)(x y:Operand)(u v:Value)(h:(match u,v with| .nilIface,.nilIface =>False| .agg _,.agg _=>False|_,_=>True)):
  (eqGuard op t x y u v).run P w=.ok () w:=by
 cases op<;>(try rfl)<;>(unfold eqGuard;simp only[Bool.not_true,Bool.false_eq_true,if_false];cases u<;>cases v<;>first|rfl|exact h.elim)
theorem adW(hI:Inv gl w0 ar e a w g){o:Oper}{op:BinOp}{t u:TypeId}{x y:Operand}(ho:o.op=.binOp op t x y u){k:Slot→List af→Prop}
  (h:ab (ai (FZ P op t) op ((Ab.bp gl e x).aa).bW ((Ab.bp gl e y).aa).bW) fun r=>k (.v r) e.boxes):bH P gl w0 ar e.ak o a w k:=by
 obtain⟨r,hr,hk⟩:=aN h
 have hx:=hI.jB x
 have hy:=hI.jB y
 generalize ((Ab.bp gl e x).aa).bW =sx at hr hx
 generalize ((Ab.bp gl e y).aa).bW =sy at hr hy
 have key:∃v rd,r=.d rd∧(eqGuard op t x y (a.eval x) (a.eval y)).run P w=.ok () w∧(binOp op t (a.eval x) (a.eval y)).run P w=.ok v w∧bh w g.St rd v:=by
  cases sx<;>simp only[ai,reduceCtorEq]at hr
  rename_i dx
  cases sy<;>simp only[reduceCtorEq]at hr
  rename_i dy
  replace hx:=hx.data
  replace hy:=hy.data
  split at hr
  ·rename_i rd fu
   cases hr
   cases dx<;>cases dy<;>simp only[gH,reduceCtorEq]at fu
   ·
    rename_i b1 b2
    split at fu
    ·rename_i bj
     rw[hx.wA,hy.wA]
     have hg:=IU (P:=P) (w:=w) op t x y (.bool b1) (.bool b2) trivial
     have:∃f,shapeOf P f t=some [.bool]∧f≤10000∧eJ P t=some false:=by
      unfold FZ at bj
      split at bj
      ·cases hq:P.eqGuardType P.depth t<;>rw[hq]at bj<;>simp only[cond_true,cond_false,reduceCtorEq]at bj
       split at bj
       ·split at bj
        ·simp only[Option.some.injEq,Prod.mk.injEq]at bj
         obtain⟨rfl,rfl⟩:=bj
         exact⟨20,by assumption,by decide,by assumption⟩
        ·cases bj
       ·split at bj<;>cases bj
      ·cases hq:P.eqGuardType P.depth t<;>rw[hq]at bj<;>simp only[cond_true,cond_false,reduceCtorEq]at bj
       split at bj
       ·split at bj
        ·simp only[Option.some.injEq,Prod.mk.injEq]at bj
         obtain⟨rfl,rfl⟩:=bj
         exact⟨20,by assumption,by decide,by assumption⟩
        ·cases bj
       ·split at bj<;>cases bj
      ·cases bj
     obtain⟨f,h1,h2,h3⟩:=this
     have hq:=M4 (w:=w) (g:=g) f 10000 t _ false [.bool b1] [.bool b2] (.bool b1) (.bool b2) (b1==b2) h1 h2 h3 rfl rfl
      (by simp only[jC,Bool.false_eq_true,if_false];exact⟨_,rfl,.bool _⟩) (by simp only[jC,Bool.false_eq_true,if_false];exact⟨_,rfl,.bool _⟩) (by simp[gF,oY])
     split at fu
     ·cases fu;exact⟨_,_,rfl,hg,by simp[binOp,Op.equal,Op.maxDepth,hq],.bool _⟩
     ·cases fu;exact⟨_,_,rfl,hg,by simp[binOp,Op.equal,Op.maxDepth,hq],.bool _⟩
     ·cases fu
    ·cases fu
   ·
    rename_i k1 n1 k2 n2
    obtain⟨ex,wx⟩:=hx.uT
    obtain⟨ey,wy⟩:=hy.uT
    rw[ex,ey]
    have hg:=IU (P:=P) (w:=w) op t x y (.int k1 n1) (.int k2 n2) trivial
    split at fu
    ·obtain⟨v,hv,iR⟩:=TX (P:=P) (w:=w) (g:=g) (k':=k2) t (.inl rfl) wx fu
     exact⟨v,rd,rfl,hg,hv,iR⟩
    ·obtain⟨v,hv,iR⟩:=TX (P:=P) (w:=w) (g:=g) (k':=k2) t (.inr rfl) wx fu
     exact⟨v,rd,rfl,hg,hv,iR⟩
    ·rename_i h1 h2
     split at fu
     ·rename_i mQ
      subst mQ
      obtain⟨v,hv,iR⟩:=abG (P:=P) (w:=w) (g:=g) t ⟨h1,h2⟩ wx wy fu
      exact⟨v,rd,rfl,hg,hv,iR⟩
     ·cases fu
   ·
    obtain⟨s1,e1,f1,_⟩:=hx.x8
    obtain⟨s2,e2,f2,_⟩:=hy.x8
    rw[e1,e2]
    rw[f1,f2]at fu
    obtain⟨v,hv,iR⟩:=abH (P:=P) (w:=w) (g:=g) t fu
    exact⟨v,rd,rfl,IU op t x y _ _ trivial,hv,iR⟩
   ·
    rename_i l1 l2
    split at fu
    ·rename_i ks bj
     obtain⟨v1,e1,r1,_⟩:=hx.x9
     obtain⟨v2,e2,r2,_⟩:=hy.x9
     rw[e1,e2]
     cases mu:(eK ks l1&&eK ks l2)with
     |false=>rw[mu]at fu;cases fu
     |true=>
      rw[mu]at fu
      simp only[Bool.and_eq_true]at mu
      simp only[cond_true]at fu
      have:shapeOf P 20 t=some ks∧eJ P t=some true∧P.eqGuardType P.depth t=false:=by
       unfold FZ at bj
       split at bj
       ·cases hq:P.eqGuardType P.depth t<;>rw[hq]at bj<;>simp only[cond_true,cond_false,reduceCtorEq]at bj
        split at bj
        ·split at bj
         ·simp only[Option.some.injEq,Prod.mk.injEq]at bj
          obtain⟨rfl,rfl⟩:=bj
          exact⟨by assumption,by assumption,rfl⟩
         ·cases bj
        ·split at bj<;>cases bj
       ·cases hq:P.eqGuardType P.depth t<;>rw[hq]at bj<;>simp only[cond_true,cond_false,reduceCtorEq]at bj
        split at bj
        ·split at bj
         ·simp only[Option.some.injEq,Prod.mk.injEq]at bj
          obtain⟨rfl,rfl⟩:=bj
          exact⟨by assumption,by assumption,rfl⟩
         ·cases bj
        ·split at bj<;>cases bj
       ·cases bj
      obtain⟨h1,h3,h4⟩:=this
      have hg:=run_eqGuard_agg (P:=P) w op t x y v1 v2 h4
      have hq:∀c,gF l1 l2=some c→(Op.equalIn 10000 t (.agg v1) (.agg v2)).run P w=.ok c w:=fun c hc=>
       M4 (w:=w) (g:=g) 20 10000 t _ true l1 l2 (.agg v1) (.agg v2) c h1 (by decide) h3 mu.1 mu.2
        (by simp only[jC,if_true];exact⟨_,rfl,r1⟩) (by simp only[jC,if_true];exact⟨_,rfl,r2⟩) hc
      split at fu
      ·split at fu
       ·rename_i c hc;cases fu;exact⟨_,_,rfl,hg,by simp[run_eql_struct,hq c hc],.bool _⟩
       ·cases fu
      ·split at fu
       ·rename_i c hc;cases fu;exact⟨_,_,rfl,hg,by simp[run_neq_struct,hq c hc],.bool _⟩
       ·cases fu
      ·cases fu
    ·cases fu
   ·
    rename_i a1 s1 l1 b1 s2 l2
    cases b1<;>simp only[reduceCtorEq]at fu
    split at fu
    ·rename_i bj
     have hu:∃e',P.underlying t=some (.slice e'):=by
      unfold FZ at bj
      have bad:∀{ks:List CK}{b:Bool},shapeOf P 20 t=some ks→eJ P t=some b→(b,ks)=(false,[])→False:=fun{ks b}h1 h2 h3=>by
       cases h3
       rcases(Fx h1).2 with h4|h4
       ·simp at h4
       ·rw[h2]at h4;cases h4
      split at bj
      ·cases hq:P.eqGuardType P.depth t<;>rw[hq]at bj<;>simp only[cond_true,cond_false,reduceCtorEq]at bj
       split at bj
       ·split at bj
        ·exact(bad (by assumption) (by assumption) (Option.some.inj bj)).elim
        ·cases bj
       ·split at bj
        ·exact⟨_,by assumption⟩
        ·cases bj
      ·cases hq:P.eqGuardType P.depth t<;>rw[hq]at bj<;>simp only[cond_true,cond_false,reduceCtorEq]at bj
       split at bj
       ·split at bj
        ·exact(bad (by assumption) (by assumption) (Option.some.inj bj)).elim
        ·cases bj
       ·split at bj
        ·exact⟨_,by assumption⟩
        ·cases bj
      ·cases bj
     obtain⟨e',hu⟩:=hu
     have ub:a.eval y=.slice none 0 0:=by
      generalize a.eval y=vy at hy
      cases hy;rfl
     have HA:∃p n c,a.eval x=.slice p n c∧p.isNone=decide (a1=SK.nil):=by
      generalize a.eval x=vx at hx
      cases hx with
      |jU=>exact⟨_,_,_,rfl,rfl⟩
      |sl=>exact⟨_,_,_,rfl,rfl⟩
      |mr=>exact⟨_,_,_,rfl,rfl⟩
     obtain⟨p,n,c,HA,hp⟩:=HA
     rw[HA,ub]
     have hq:(Op.equalIn 10000 t (.slice p n c) (.slice none 0 0)).run P w=.ok (decide (a1=SK.nil)) w:=by
      rw[←hp,show(10000:Nat)=9999+1 from rfl,Op.equalIn]
      cases p<;>simp[run_underlying hu]
     have hg:=IU (P:=P) (w:=w) op t x y (.slice p n c) (.slice none 0 0) trivial
     split at fu
     ·cases fu;exact⟨_,_,rfl,hg,by simp[binOp,Op.equal,Op.maxDepth,hq],.bool _⟩
     ·cases fu;exact⟨_,_,rfl,hg,by simp[binOp,Op.equal,Op.maxDepth,hq],.bool _⟩
     ·cases fu
    ·cases fu
  ·cases hr
 obtain⟨v,rd,rfl,hg,hv,iR⟩:=key
 refine bH.gb hI (s:=.d rd) (v:=v) ?_ (.d _ _ _ iR) hk
 simp[execOp,ho,hg,hv]
theorem afn(hI:Inv gl w0 ar e a w g){o:Oper}{op:UnOp}{t:TypeId}{x:Operand}(ho:o.op=.unOp op t x){k:Slot→List af→Prop}
  (h:ab (fg op ((Ab.bp gl e x).aa).bW) fun r=>k (.v r) e.boxes):bH P gl w0 ar e.ak o a w k:=by
 obtain⟨r,hr,hk⟩:=aN h
 have hx:=hI.jB x
 generalize ((Ab.bp gl e x).aa).bW =sx at hr hx
 unfold fg at hr
 split at hr
 ·rename_i b
  have hx:=hx.data.wA
  split at hr
  ·cases hr;exact bH.gb hI (v:=.bool (!b)) (by simp[execOp,ho,hx,Op.unary]) (.d _ _ _ (.bool _)) hk
  ·cases hr
 ·rename_i kk n
  obtain⟨hx,wx⟩:=hx.data.uT
  split at hr
  ·cases hr;exact bH.gb hI (by simp only[execOp,ho,hx,Op.unary,Op.intArith];simp) (.d _ _ _ (.int _ _ (BD _ _))) hk
  ·cases hr;exact bH.gb hI (by simp only[execOp,ho,hx,Op.unary,Op.intBits];simp) (.d _ _ _ (.int _ _ (BD _ _))) hk
  ·cases hr
 ·cases hr
theorem acK(hI:Inv gl w0 ar e a w g){o:Oper}{src dst:TypeId}{x:Operand}(ho:o.op=.convert src dst x)(hs:(P.underlying src).isSome =true){k:Slot→List af→Prop}
  (h:ab (PN P dst ((Ab.bp gl e x).aa).bW) fun r=>k (.v r) e.boxes):bH P gl w0 ar e.ak o a w k:=by
 obtain⟨r,hr,hk⟩:=aN h
 have hx:=hI.jB x
 generalize ((Ab.bp gl e x).aa).bW =sx at hr hx
 obtain⟨us,Z7⟩:=Option.isSome_iff_exists.1 hs
 unfold PN at hr
 split at hr
 ·rename_i kk n
  obtain⟨hx,wx⟩:=hx.data.uT
  split at hr
  ·rename_i kd hd
   cases hr
   refine bH.gb hI (v:=.int kd (kd.wrap n)) ?_ (.d _ _ _ (.int _ _ (BD _ _))) hk
   cases us<;>simp[execOp,ho,hx,convert,run_underlying Z7,run_underlying hd,Conv.intToInt]
  ·cases hr
 ·rename_i l
  obtain⟨s1,e1,f1,h1⟩:=hx.data.x8
  split at hr
  ·rename_i hd
   cases hr
   refine bH.gb hI (v:=.string s1) ?_ (.d _ _ _ (by rw[f1];exact .str _ h1)) hk
   cases us<;>simp[execOp,ho,e1,convert,run_underlying Z7,run_underlying hd]
  ·cases hr
 ·cases hr
end
end Go.Proofs.Ytimbllcalipehaa.Ab
namespace Go.Proofs.Ytimbllcalipehaa.Ab
open Go Go.RowKit
section
variable{P:Program}{gl:Nat→Option D}{w0:World}{ar:S0}{e:Env}{a:Act}{w:World}{g:Gh}
theorem Inv.pg(hI:Inv gl w0 ar e a w g){x:Operand}{s:Slot}(h:(Ab.bp gl e x).aa =s):cE w0.heap.size w g (fun _ _ _ _=>False) s (a.eval x):=h▸hI.bp x
theorem cE.jV{base:Nat}{O:Nat→Nat→Nat→Nat→Prop}{x:SV}{v:Value}(h:cE base w g O (.v x) v):aP w g.St base (O 0) x v:=by
 cases h with
 |v _ _ _ h=>exact h
theorem cE.o0{base:Nat}{O:Nat→Nat→Nat→Nat→Prop}{b off:Nat}{v:Value}(h:cE base w g O (.p b off) v):∃ao,v=.pointer (some ⟨ao,off,none⟩)∧g.bx[b]? =some (some ao):=by
 cases h with
 |p _ _ _ ao h=>exact⟨ao,rfl,h⟩
theorem cE.PU{base:Nat}{O:Nat→Nat→Nat→Nat→Prop}{xs:List SV}{v:Value}(h:cE base w g O (.t xs) v):
  ∃vs,v=.tuple vs∧xs.length=vs.size∧∀(j:Nat)x v,xs[j]? =some x→vs[j]? =some v→aP w g.St base (O j) x v:=by
 cases h with
 |t _ _ vs hl hc=>exact⟨vs,rfl,hl,hc⟩
theorem aP.uS{St:Nat→Nat→Prop}{base:Nat}{O:Nat→Nat→Nat→Prop}{x:SV}{v:Value}(h:aP w St base O x v)(hx:(match x with| .d y=>y.one=true| .undef =>False|_=>True)):
  v.oneCell'=true:=by
 cases h<;>first|rfl|(exact bh.uS (by assumption) hx)|exact hx.elim
theorem aP.cells{St:Nat→Nat→Prop}{base:Nat}{O:Nat→Nat→Nat→Prop}{x:SV}{v:Value}(h:aP w St base O x v){l:List SV}(hl:aB x=some l):
  l.length=v.cells.size∧(∀y∈v.cells,y.oneCell'=true)∧∀(i:Nat)c y,l[i]? =some c→v.cells[i]? =some y→aP w St base O c y:=by
 have one:∀(c:SV)(u:Value),aP w St base O c u→u.oneCell'=true→u.cells= #[u]→[c].length =u.cells.size∧(∀y∈u.cells,y.oneCell'=true)∧∀(i:Nat)c' y,[c][i]? =some c'→u.cells[i]? =some y→aP w St base O c' y:=by
  intro c u hr h1 hu
  rw[hu]
  refine⟨rfl,by simpa using h1,fun i c' y hc hy=>?_⟩
  cases i with
  |zero=>simp at hc hy;subst hc hy;exact hr
  |succ i=>simp at hc
 cases h with
 |d _ y _ hd=>
  simp only[aB,Option.some.injEq]at hl
  subst hl
  by_cases hy:y.one=true
  ·have hc:y.cells=[y]:=by cases y<;>first|rfl|simp[D.one]at hy
   have h1:=hd.uS hy
   have hv:v.cells= #[v]:=by cases v<;>first|rfl|simp[Value.oneCell']at h1
   rw[hc]
   exact one (.d y) v (.d _ _ _ hd) h1 hv
  ·cases y<;>simp only[D.one,not_true_eq_false]at hy
   rename_i ds
   obtain⟨vs,rfl,⟨hs,hc⟩,hf⟩:=hd.x9
   refine⟨by simpa[D.cells,Value.cells]using hs,fun y hy=>?_,fun i c y iI hy=>?_⟩
   ·obtain⟨i,hi,rfl⟩:=Array.mem_iff_getElem.1 hy
    have fA:i<ds.length:=by rw[hs];exact hi
    exact(hc i ds[i] _ (List.getElem?_eq_getElem fA) (Array.getElem?_eq_getElem hi)).uS (hf _ (List.getElem_mem fA))
   ·simp only[D.cells,List.getElem?_map,Option.map_eq_some_iff]at iI
    obtain⟨d,kG,rfl⟩:=iI
    exact .d _ _ _ (hc i d y kG hy)
 |own _ sz L gg cap hd bM ho=>simp only[aB,Option.some.injEq]at hl;subst hl;exact one _ _ (.own _ sz L gg cap hd bM ho) rfl rfl
 |full _ sz L ad hd=>simp only[aB,Option.some.injEq]at hl;subst hl;exact one _ _ (.full _ sz L ad hd) rfl rfl
 |ref _ cs off b o vs hb h1 h2=>simp only[aB,Option.some.injEq]at hl;subst hl;exact one _ _ (.ref _ cs off b o vs hb h1 h2) rfl rfl
 |cU _ n sz cs b cap vs hb hn hm h1 h2=>simp only[aB,Option.some.injEq]at hl;subst hl;exact one _ _ (.cU _ n sz cs b cap vs hb hn hm h1 h2) rfl rfl
 |aX _ y off b o vs h0 h1 h2=>simp only[aB,Option.some.injEq]at hl;subst hl;exact one _ _ (.aX _ y off b o vs h0 h1 h2) rfl rfl
 |dT _ f first cap fv cv h1 h2 h3 h4=>simp only[aB,Option.some.injEq]at hl;subst hl;exact one _ _ (.dT _ f first cap fv cv h1 h2 h3 h4) rfl rfl
 |aZ _ sz L gg cap vs h1 h2 h3 h4 h5 h6 h7=>simp only[aB,Option.some.injEq]at hl;subst hl;exact one _ _ (.aZ _ sz L gg cap vs h1 h2 h3 h4 h5 h6 h7) rfl rfl
 |mp _ m r es clock h1 h2 h3 h4=>simp only[aB,Option.some.injEq]at hl;subst hl;exact one _ _ (.mp _ m r es clock h1 h2 h3 h4) rfl rfl
 |nest _ LL gg cap bk cp h1 h2 h3 h4 h5 h6=>simp only[aB,Option.some.injEq]at hl;subst hl;exact one _ _ (.nest _ LL gg cap bk cp h1 h2 h3 h4 h5 h6) rfl rfl
 |undef _ _=>simp[aB]at hl
theorem M5{t:TypeId}{z:List D}(h:oT P t=some z):∃zv:Value,(∀w:World,(zeroValue t).run P w=.ok zv w)∧z.length=zv.cells.size∧(∀d∈z,d.one=true)∧
  ∀(w:World)(St:Nat→Nat→Prop)(i:Nat)x v,z[i]? =some x→zv.cells[i]? =some v→bh w St x v:=by
 unfold oT at h
 split at h
 ·rename_i i hi
  split at h
  ·rename_i zv hz
   refine⟨zv,fun w=>by simp[zeroValue,typeInfo,hi,hz],?_,Nd h,fun w St j x v hx hv=>?_⟩
   ·have:=(Fz (w:=default) (St:=fun _ _=>False) h).1
    simpa using this
   ·exact(Fz (w:=w) (St:=St) h).2 j x v hx (by simpa using hv)
  ·cases h
 ·cases h
theorem abI(hI:Inv gl w0 ar e a w g){o:Oper}{t:TypeId}(ho:o.op=.alloc t){id:Nat}{k:Slot→List af→Prop}
  (gj:e.boxes[id]? =some .none)
  (h:ab (Oc P t) fun z=>k (.p id 0) (e.boxes.set id (.cells z))):bH P gl w0 ar e.ak o a w k:=by
 obtain⟨zs,gW,hk⟩:=aN h
 unfold Oc at gW
 split at gW
 rotate_left
 ·split at gW
  ·rename_i i hi
   split at gW
   ·rename_i zv xD
    cases fJ:zv.cells.toList.all Value.oneCell' with
    |false=>rw[fJ]at gW;cases gW
    |true=>
     rw[fJ]at gW
     cases gW
     refine bH.Ko hI gj (cells:=zv.cells) (t:=t) (bx:=.cells _) ?_ ?_ ?_ hk
     ·have bq:(zeroValue t).run P w=.ok zv w:=by simp[zeroValue,typeInfo,hi,xD]
      simp[execOp,ho,Instr.alloc,bq,newVar,newRow]
     ·intro y hy
      exact List.all_eq_true.1 fJ y (by simpa using hy)
     ·intro w' g' O hX
      refine⟨by simp,fun j x y hx hy=>?_⟩
      rw[(List.mem_replicate.1 (List.mem_of_getElem? hx)).2]
      exact .undef _ _
   ·cases gW
  ·cases gW
 rename_i z hz
 cases gW
 obtain⟨zv,bq,hlen,bY,bw⟩:=M5 hz
 refine bH.Ko hI gj (cells:=zv.cells) (t:=t) (bx:=.cells (z.map .d)) ?_ ?_ ?_ hk
 ·simp[execOp,ho,Instr.alloc,bq,newVar,newRow]
 ·intro y hy
  obtain⟨i,hi,rfl⟩:=Array.mem_iff_getElem.1 hy
  have fA:i<z.length:=by rw[hlen];exact hi
  exact(bw w (fun _ _=>False) i z[i] _ (List.getElem?_eq_getElem fA) (Array.getElem?_eq_getElem hi)).uS (bY _ (List.getElem_mem fA))
 ·intro w' g' O hX
  refine⟨by simpa using Nat.le_of_eq hlen,fun j x y hx hy=>?_⟩
  simp only[List.getElem?_map,Option.map_eq_some_iff]at hx
  obtain⟨d,hd,rfl⟩:=hx
  exact .d _ _ _ (bw _ _ j d y hd hy)
theorem adX(hI:Inv gl w0 ar e a w g){o:Oper}{t:TypeId}{x:Operand}(ho:o.op=.box t x){id:Nat}{k:Slot→List af→Prop}
  (gj:e.boxes[id]? =some .none)
  (h:ab (eu P t) fun sz=>(match(Ab.bp gl e x).aa with
  | .v y=>ab (aB y) fun l=>l.length=sz∧k (.p id 0) (e.boxes.set id (.cells l))
  | .t _=>False
  |s=>(match sz with|1=>k (.p id 0) (e.boxes.set id (.one s))|_=>False))):bH P gl w0 ar e.ak o a w k:=by
 obtain⟨sz,aM,h⟩:=aN h
 have hx:=hI.bp x
 have bq:(execOp a.eval o).run P w=.ok (.value (.pointer (some ⟨w.heap.size,0,none⟩))) (w.alloc (.cells (a.eval x).cells t)):=by
  simp[execOp,ho,Instr.box,newVar,newRow]
 have nv:∀s,(Ab.bp gl e x).aa =s→(∀y,s≠.v y)→(∀y,s≠.t y)→k (.p id 0) (e.boxes.set id (.one s))→bH P gl w0 ar e.ak o a w k:=by
  intro s hs h1 h2 hk
  rw[hs]at hx
  have hc:(a.eval x).cells = #[a.eval x]:=by
   clear bq
   generalize a.eval x=u at hx
   cases hx with
   |v _ y _ _=>exact absurd rfl (h1 y)
   |p=>rfl
   |a _ b n sz v hm h=>obtain⟨_,_,_,_,rfl,_⟩:=h;rfl
   |m=>rfl
   |c=>rfl
   |t _ y _ _ _=>exact absurd rfl (h2 y)
  have h1c:(a.eval x).oneCell' =true:=by
   clear bq hc
   generalize a.eval x=u at hx
   cases hx with
   |v _ y _ _=>exact absurd rfl (h1 y)
   |p=>rfl
   |a _ b n sz v hm h=>obtain⟨_,_,_,_,rfl,_⟩:=h;rfl
   |m=>rfl
   |c=>rfl
   |t _ y _ _ _=>exact absurd rfl (h2 y)
  refine bH.Ko hI gj (bx:=.one s) bq (by rw[hc];simpa using h1c) (fun w' g' O hX=>?_) hk
  refine⟨by rw[hc];exact Nat.one_pos,fun y hy=>?_⟩
  rw[hc]at hy
  simp at hy
  subst hy
  exact hx.mono hX.st hX.bs hX.bx hX.sh fun _ _ _ _ h=>h.elim
 split at h
 ·rename_i y hy
  obtain⟨l,hl,hlen,hk⟩:=aN h
  rw[hy]at hx
  obtain⟨h1,h2,h3⟩:=hx.jV.cells hl
  refine bH.Ko hI gj (bx:=.cells l) bq h2 (fun w' g' O hX=>⟨Nat.le_of_eq h1,fun j c u hc hu=>?_⟩) hk
  exact(h3 j c u hc hu).mono hX.st hX.bs _ (fun _ _ _ h=>h.elim)
 ·exact h.elim
 ·rename_i h1 h2
  split at h
  ·exact nv _ rfl (fun y hy=>h1 y hy) (fun y hy=>h2 y hy) h
  ·exact h.elim
theorem zV{t:TypeId}{b:Bool}{n:Nat}(hl:lf P t=some (b,n))(ao off:Nat)(vs:Nat→Value)
  (h:∀j,j<(if b then n else 1)→w.cell? ⟨ao,off+j,none⟩=some (vs j)):
  (loadVar t ⟨ao,off,none⟩).run P w=.ok (if b then .agg ((List.range n).map vs).toArray else vs 0) w:=by
 obtain⟨hb,hn,_⟩:=F6 hl
 unfold loadVar
 simp only[Sem.run_bind,U4 hb,Result.andThen_ok]
 cases b
 ·have:=h 0 (by simp)
  simp only[Nat.add_zero]at this
  simp[this]
 ·have:=run_loadCells (P:=P) w ⟨ao,off,none⟩ n vs (fun j hj=>by rw[pB];exact h j (by simpa using hj))
  simp[j9 hn,this]
theorem NM:∀{l:List SV}{r:List D},dK l=some r→r.length=l.length∧∀(i:Nat)x y,l[i]? =some x→r[i]? =some y→dA x=some y
 |[],r,h=>by cases h;simp
 |v::l,r,h=>by
  simp only[dK]at h
  split at h
  ·rename_i x hx
   split at h
   ·rename_i r' hr
    cases h
    obtain⟨h1,h2⟩:=NM hr
    refine⟨by simp[h1],fun i y z hy hz=>?_⟩
    cases i with
    |zero=>simp at hy hz;subst hy hz;exact hx
    |succ i=>simp at hy hz;exact h2 i y z hy hz
   ·cases h
  ·cases h
theorem afo{x:SV}{y:D}(h:dA x=some y)(hx:match x with| .d z=>z.one=true|_=>True):y.one=true:=by
 cases x<;>simp only[dA,Option.some.injEq,reduceCtorEq]at h<;>subst h<;>first|exact hx|rfl
theorem Ns{t:TypeId}{b:Bool}{n off:Nat}{cs:List SV}{x:SV}{St:Nat→Nat→Prop}{base:Nat}{O:Nat→Nat→Nat→Nat→Prop}(hl:lf P t=some (b,n))(h:aj b n off cs=some x)(ao o:Nat)
  (vs:Nat→Value)(aR:∀i,i<cs.length→w.cell? ⟨ao,o+i,none⟩=some (vs i))(bw:∀(i:Nat)c,cs[i]? =some c→aP w St base (O i) c (vs i))
  (bY:∀i,i<cs.length→(vs i).oneCell' =true):
  ∃v,(loadVar t ⟨ao,o+off,none⟩).run P w=.ok v w∧aP w St base (O off) x v:=by
 unfold aj at h
 cases b
 ·simp only[cond_false]at h
  have aO:=(List.getElem?_eq_some_iff.1 h).1
  refine⟨vs off,?_,bw off x h⟩
  rw[zV hl ao (o+off) (fun j=>vs (off+j)) (fun j hj=>by simp at hj;subst hj;simpa using aR off aO)]
  simp
 ·simp only[cond_true]at h
  split at h
  ·rename_i hle
   split at h
   ·rename_i l mR
    cases h
    obtain⟨hlen,lL⟩:=NM mR
    refine⟨.agg ((List.range n).map fun j=>vs (off+j)).toArray,?_,.d _ _ _ (.agg _ _ ?_ ?_ ?_)⟩
    ·rw[zV hl ao (o+off) (fun j=>vs (off+j)) (fun j hj=>by
      simp at hj;rw[Nat.add_assoc];exact aR (off+j) (by omega))]
     simp
    ·intro d hd
     obtain⟨i,hi,rfl⟩:=List.mem_iff_getElem.1 hd
     have fA:i<((cs.drop off).take n).length :=by rw[←hlen];exact hi
     have hs:=lL i _ _ (List.getElem?_eq_getElem fA) (List.getElem?_eq_getElem hi)
     have A0:off+i<cs.length:=by simp at fA;omega
     have hc:((cs.drop off).take n)[i]=cs[off+i]:=by simp
     have hr:=bw (off+i) _ (List.getElem?_eq_getElem A0)
     have h1:=bY (off+i) A0
     rw[hc]at hs
     refine afo hs ?_
     revert hs hr
     cases cs[off+i]<;>intro hs hr<;>try trivial
     rename_i z
     cases z<;>first|rfl|(obtain⟨_,hv,_⟩:=hr.data.x9;rw[hv]at h1;simp[Value.oneCell']at h1)
    ·simp[hlen];omega
    ·intro i d v hd hv
     have hi:i<l.length:=(List.getElem?_eq_some_iff.1 hd).1
     have fA:i<((cs.drop off).take n).length :=by rw[←hlen];exact hi
     have A0:off+i<cs.length:=by simp at fA;omega
     have rA:i<n:=by simp at fA;omega
     have hc:((cs.drop off).take n)[i]? =some cs[off+i]:=by
      rw[List.getElem?_eq_getElem fA];simp
     have hs:=lL i _ _ hc hd
     have hr:=bw (off+i) _ (List.getElem?_eq_getElem A0)
     simp[rA]at hv
     subst hv
     exact hr.dA hs
   ·cases h
  ·cases h
end
end Go.Proofs.Ytimbllcalipehaa.Ab
namespace Go.Proofs.Ytimbllcalipehaa.Ab
open Go Go.RowKit
section
variable{P:Program}{gl:Nat→Option D}{w0:World}{ar:S0}{e:Env}{a:Act}{w:World}{g:Gh}
theorem bh.aaf{St:Nat→Nat→Prop}{d:D}{v:Value}(r:bh w St d v)(h:v.oneCell'=true):d.one=true:=by
 cases d with
 |agg ds=>obtain⟨_,hv,_⟩:=r.x9;rw[hv]at h;simp[Value.oneCell']at h
 |_=>rfl
theorem abJ{t:TypeId}{b:Bool}{n off:Nat}{cs:List D}{x:D}{St:Nat→Nat→Prop}(hl:lf P t=some (b,n))(h:sD b n off cs=some x)(ao o:Nat)
  (hf:∀c∈cs,c.one=true)
  (vs:Nat→Value)(aR:∀i,i<cs.length→w.cell? ⟨ao,o+i,none⟩=some (vs i))(bw:∀(i:Nat)c,cs[i]? =some c→bh w St c (vs i)):
  ∃v,(loadVar t ⟨ao,o+off,none⟩).run P w=.ok v w∧bh w St x v:=by
 unfold sD at h
 cases b
 ·simp only[cond_false]at h
  have aO:=(List.getElem?_eq_some_iff.1 h).1
  refine⟨vs off,?_,bw off x h⟩
  rw[zV hl ao (o+off) (fun j=>vs (off+j)) (fun j hj=>by simp at hj;subst hj;simpa using aR off aO)]
  simp
 ·simp only[cond_true]at h
  split at h
  ·rename_i hle
   cases h
   refine⟨.agg ((List.range n).map fun j=>vs (off+j)).toArray,?_,.agg _ _ ?_ ?_ ?_⟩
   ·rw[zV hl ao (o+off) (fun j=>vs (off+j)) (fun j hj=>by
     simp at hj;rw[Nat.add_assoc];exact aR (off+j) (by omega))]
    simp
   ·intro d hd
    exact hf d (List.mem_of_mem_drop (List.mem_of_mem_take hd))
   ·simp;omega
   ·intro i d v hd hv
    rw[List.getElem?_take]at hd
    split at hd
    ·rename_i hi
     rw[List.getElem?_drop]at hd
     simp[hi]at hv
     subst hv
     exact bw _ _ hd
    ·cases hd
  ·cases h
theorem abK(hI:Inv gl w0 ar e a w g){o:Oper}{t:TypeId}{x:Operand}(ho:o.op=.load t x){k:Slot→List af→Prop}{b:Bool}{n:Nat}(hl:lf P t=some (b,n))
  {s:SV}(hs:(Ab.bp gl e x).aa =.v s)(h:ab (aI b n s) fun y=>k (.v y) e.boxes):bH P gl w0 ar e.ak o a w k:=by
 obtain⟨y,hy,hk⟩:=aN h
 have hx:=hI.sP hs
 have bq:∀{ad v},a.eval x=.pointer (some ad)→(loadVar t ad).run P w=.ok v w→(execOp a.eval o).run P w=.ok (.value v) w:=by
  intro ad v h1 h2
  simp[execOp,ho,Instr.loadAt,Instr.sureAddr,h1,h2]
 unfold aI at hy
 split at hy
 ·rename_i z off
  split at hy
  ·rename_i r hr
   cases hy
   generalize hv:a.eval x=u at hx
   cases hx with
   |aX _ _ _ ao o' vs hf aR bw=>
    obtain⟨v,h1,h2⟩:=abJ (St:=g.St) hl hr ao o' hf vs (fun i hi=>(aR i hi).1) bw
    exact bH.gb hI (bq hv h1) (.d _ _ _ h2) hk
  ·cases hy
 ·rename_i cs off
  split at hy
  ·rename_i r hr
   cases hy
   generalize hv:a.eval x=u at hx
   cases hx with
   |ref _ _ _ ao o' vs hb aR bw=>
    obtain⟨v,h1,h2⟩:=Ns (St:=g.St) (O:=fun _ _ _ _=>False) hl hr ao o' vs (fun i hi=>(aR i hi).1) bw (fun i hi=>(aR i hi).2)
    exact bH.gb hI (bq hv h1) h2.aa hk
  ·cases hy
 ·cases hy
theorem aaH(hI:Inv gl w0 ar e a w g){o:Oper}{t:TypeId}{x:Operand}(ho:o.op=.load t x){k:Slot→List af→Prop}{b:Bool}{n:Nat}(hl:lf P t=some (b,n))
  {bn off:Nat}(hs:(Ab.bp gl e x).aa =.p bn off)(h:tD b n bn off e.boxes k):bH P gl w0 ar e.ak o a w k:=by
 have hx:=hI.pg hs
 obtain⟨ao,hv,dM⟩:=hx.o0
 have bq:∀{v},(loadVar t ⟨ao,off,none⟩).run P w=.ok v w→(execOp a.eval o).run P w=.ok (.value v) w:=by
  intro v h2
  simp[execOp,ho,Instr.loadAt,Instr.sureAddr,hv,h2]
 unfold tD at h
 split at h
 ·rename_i cs ck
  obtain⟨y,hy,hk⟩:=aN h
  obtain⟨h0,c,ty,hc,bY,hlen,bw⟩:=hI.boxes bn _ ao ck dM
  obtain⟨v,h1,h2⟩:=Ns (w:=w) (off:=off) (St:=g.St) (O:=fun j=>u6 w0.heap.size w g bn j) hl hy ao 0 (fun i=>c.getD i undef) (fun i hi=>by
   rw[cell_of_row w ao (0+i) c ty (0,0) hc];simp[Nat.lt_of_lt_of_le hi hlen]) (fun i d hd=>by
   have hi:=(List.getElem?_eq_some_iff.1 hd).1
   exact bw i d _ hd (by simp[Nat.lt_of_lt_of_le hi hlen])) (fun i hi=>by
   have fA:i<c.size:=Nat.lt_of_lt_of_le hi hlen
   simp[fA];exact bY i _ hi (by simp))
  simp only[Nat.zero_add]at h1
  exact bH.gb hI (bq h1) h2.aa hk
 ·rename_i s ph
  cases b with
  |true=>exact h.elim
  |false=>
   simp only[cond_false]at h
   split at h
   ·obtain⟨h0,c,ty,hc,bY,aM,bw⟩:=hI.boxes bn _ ao ph dM
    have HB:c[0]? =some (c[0]'(by omega)):=by simp
    refine bH.value hI (bq (v:=c[0]'(by omega)) ?_) ((bw _ HB).aa) h
    rw[zV (vs:=fun _=>c[0]'(by omega)) hl ao 0 (fun j hj=>by
     simp at hj;subst hj
     rw[cell_of_row w ao (0+0) c ty (0,0) hc];exact HB)]
    simp
   ·exact h.elim
 ·exact h.elim
theorem Dk:∀(l:List SV)(cs:List SV)(off:Nat),off+l.length≤cs.length→setAt cs off l=cs.take off++l++cs.drop (off+l.length)
 |[],cs,off,_=>by simp[setAt]
 |v::l,cs,off,h=>by
  simp only[List.length_cons]at h
  rw[setAt,Dk l (cs.set off v) (off+1) (by simp;omega)]
  have h1:(cs.set off v).take (off+1)=cs.take off++[v]:=by
   rw[List.take_add_one,List.take_set_of_le (Nat.le_refl _)]
   simp[List.getElem?_set_self (show off<cs.length by omega)]
  have h2:(cs.set off v).drop (off+1+l.length)=cs.drop (off+1+l.length):=by
   rw[List.drop_set_of_lt (by omega)]
  rw[h1,h2]
  simp[Nat.add_assoc,Nat.add_comm 1]
theorem tx{α:Type}(cs l:List α)(off:Nat)(h:off+l.length≤cs.length)(i:Nat):
  (cs.take off++l++cs.drop (off+l.length))[i]? =if i<off then cs[i]? else if i<off+l.length then l[i-off]? else cs[i]? :=by
 have ht:(cs.take off).length =off:=by simp;omega
 rw[List.append_assoc,List.getElem?_append,ht]
 split
 ·rename_i h1
  rw[List.getElem?_take,if_pos h1]
 ·rename_i h1
  rw[List.getElem?_append]
  split
  ·rename_i h2
   rw[if_pos (by omega)]
  ·rename_i h2
   rw[if_neg (by omega),List.getElem?_drop]
   congr 1
   omega
theorem Ur{c l:Array Value}{off m:Nat}(h:off+l.size≤c.size)(h1:∀(j:Nat)y,j<m→c[j]? =some y→y.oneCell'=true)(h2:∀y∈l,y.oneCell'=true)(j:Nat)(y:Value)(hj:j<m)
  (hy:(c.toList.take off++l.toList++c.toList.drop (off+l.size)).toArray[j]? =some y):y.oneCell'=true:=by
 have hs:=tx c.toList l.toList off (by simpa using h) j
 simp only[Array.length_toList]at hs
 simp only[List.getElem?_toArray]at hy
 rw[hs]at hy
 simp only[Array.getElem?_toList]at hy
 split at hy
 ·exact h1 j y hj hy
 ·split at hy
  ·exact h2 y (Array.mem_of_getElem? hy)
  ·exact h1 j y hj hy
theorem Fy{t:TypeId}{n:Nat}(hn:eu P t=some n){ao off:Nat}{c:Array Value}{ty:TypeId}(hc:w.heap[ao]? =some (.cells c ty (0,0))){v:Value}
  (hv:v.cells.size=n)(h1:∀y∈v.cells,y.oneCell'=true)(hle:off+n≤c.size):
  (storeVar t ⟨ao,off,none⟩ v).run P w=.ok () (w.setRow ao (c.toList.take off++v.cells.toList++c.toList.drop (off+n)).toArray):=by
 have:=run_storeCells_at P ao off ty v.cells.toList 0 c w hc (by simp;omega) (by simpa using h1)
 simp only[Nat.add_zero,Array.length_toList,hv]at this
 unfold storeVar
 simp[j9 hn,hv,this]
theorem MZ(hI:Inv gl w0 ar e a w g){o:Oper}{t:TypeId}{x y:Operand}(ho:o.op=.store t x y)(hd:o.dst=none){k:Slot→List af→Prop}
  {bn off ao n:Nat}(hv:a.eval x=.pointer (some ⟨ao,off,none⟩))(dM:g.bx[bn]? =some (some ao))
  {cells:Array Value}{ty:TypeId}{ft:af}(hc:w.heap[ao]? =some (.cells cells ty (0,0)))(wM:Array Value)(ck:wM.size=cells.size)(bY:∀(j:Nat)y,j<ft.size→wM[j]? =some y→y.oneCell'=true)
  (aY:(storeVar t ⟨ao,off,none⟩ (a.eval y)).run P w=.ok () (w.setRow ao wM))
  (rep:∀(w':World),Ext w0.heap.size w g w' g (fun p=>∃j,p=.b bn j∧off≤j∧j<off+n)→(match(generalizing:=false) ft with
    | .none =>False
    | .map _=>False
    | .cells cs=>cs.length≤wM.size∧∀(j:Nat)x y,cs[j]? =some x→wM[j]? =some y→aP w' g.St w0.heap.size (u6 w0.heap.size w' g bn j) x y
    | .one s=>0<wM.size∧∀y,wM[0]? =some y→cE w0.heap.size w' g (fun _=>u6 w0.heap.size w' g bn 0) s y))
  (hk:k (.t []) (e.boxes.set bn ft)):bH P gl w0 ar e.ak o a w k:=by
 intro next Q PV
 have bq:(execOp a.eval o).run P w=.ok .skip (w.setRow ao wM):=by
  simp[execOp,ho,Instr.storeAt,Instr.sureAddr,hv,aY]
 unfold Oper.wp
 rw[bq]
 have dQ:=fun k(hk:k≠ao)=>setRow_other w ao k wM hk
 have lI:=setRow_heap w ao cells wM ty (0,0) hc
 refine PV (.t []) undef _ _ g ?_ hk
 rw[hd]
 refine hI.Pm (dst:=none) (s:=.t []) (v:=undef) (ak:=e.ak) (fun _=>False) (fun j=>off≤j∧j<off+n) rfl rfl (fun _ _ _ _ _ h=>h) (fun _ h=>h) dM bY lI (fun c ty h=>by rw[hc]at h;cases h;exact ck) dQ (by simp[World.setRow]) ⟨rfl,rfl,rfl⟩ rfl
  (fun i x hx _=>⟨x,hx,.inl ⟨rfl,fun h=>h⟩⟩) (fun hX=>?_) (fun _ d h=>by cases h)
 have:=rep _ ⟨hX.df,hX.st,hX.bs,hX.bx,fun p b a c hp ho=>hX.own p b a c (fun vr=>hp (by
  rcases vr with⟨i,j,_,h⟩|⟨j,h⟩|⟨d,j,h,_⟩
  ·exact h.elim
  ·exact⟨j,h⟩
  ·cases h)) ho,hX.sh⟩
 cases ft with
 |none=>exact this
 |map l=>exact this
 |cells cs=>exact this
 |one s=>exact this
theorem Tt(hI:Inv gl w0 ar e a w g){o:Oper}{t:TypeId}{x y:Operand}(ho:o.op=.store t x y)(hd:o.dst=none){k:Slot→List af→Prop}{n:Nat}(hn:eu P t=some n)
  {bn off ao:Nat}(hv:a.eval x=.pointer (some ⟨ao,off,none⟩))(dM:g.bx[bn]? =some (some ao))
  {cells:Array Value}{ty:TypeId}(hc:w.heap[ao]? =some (.cells cells ty (0,0)))(Z8:0<cells.size)(ua:n=1)(Cd:off=0)
  {s:Slot}(hs:(Ab.bp gl e y).aa =s)(HC:∀z,s≠.v z)(Cy:∀z,s≠.t z)(hk:k (.t []) (e.boxes.set bn (.one s))):bH P gl w0 ar e.ak o a w k:=by
 have hy:=hI.pg hs
 subst ua Cd
 have pU:(a.eval y).cells = #[a.eval y]∧(a.eval y).oneCell' =true:=by
  generalize a.eval y=u at hy
  cases hy with
  |v _ z _ _=>exact absurd rfl (HC z)
  |p=>exact⟨rfl,rfl⟩
  |a _ b n sz v hm h=>obtain⟨_,_,_,_,rfl,_⟩:=h;exact⟨rfl,rfl⟩
  |m=>exact⟨rfl,rfl⟩
  |c=>exact⟨rfl,rfl⟩
  |t _ z _ _ _=>exact absurd rfl (Cy z)
 refine MZ hI ho hd (n:=1) (ft:=.one s) hv dM hc (cells.toList.take 0++ #[a.eval y].toList ++cells.toList.drop (0+1)).toArray (by simp;omega) (fun j u hj hu=>?_) ?_ (fun w' hX=>⟨by simp,fun u hu=>?_⟩) hk
 ·have:j=0:=by simp only[af.size]at hj;omega
  subst this
  simp at hu;subst hu
  exact pU.2
 ·rw[Fy hn hc (by rw[pU.1];rfl) (by rw[pU.1];simpa using pU.2) (by omega)]
  rw[pU.1]
 ·simp at hu;subst hu
  exact hy.mono hX.st hX.bs hX.bx hX.sh (fun _ _ _ _ h=>h.elim)
theorem abL(hI:Inv gl w0 ar e a w g){o:Oper}{t:TypeId}{x y:Operand}(ho:o.op=.store t x y)(hd:o.dst=none){k:Slot→List af→Prop}{n:Nat}(hn:eu P t=some n)
  {bn off:Nat}(hs:(Ab.bp gl e x).aa =.p bn off)(h:wv n bn off ((Ab.bp gl e y).aa) e.boxes fun dP=>k (.t []) dP):bH P gl w0 ar e.ak o a w k:=by
 have hx:=hI.pg hs
 obtain⟨ao,hv,dM⟩:=hx.o0
 unfold wv at h
 split at h
 ·
  rename_i cs ck
  obtain⟨h0,c,ty,hc,bY,hlen,bw⟩:=hI.boxes bn _ ao ck dM
  split at h
  ·rename_i z hz
   obtain⟨l,hl,LI,hle,hk⟩:=aN h
   have hy:=hI.pg hz
   obtain⟨h1,h2,h3⟩:=hy.jV.cells hl
   have lM:(a.eval y).cells.size =n:=by rw[←h1,LI]
   refine MZ hI ho hd (n:=n) (ft:=.cells (setAt cs off l)) hv dM hc _ (by simp[lM];omega) ?_ (Fy hn hc lM h2 (by omega)) (fun w' hX=>?_) hk
   ·intro j u hj hu
    rw[←lM]at hu
    exact Ur (m:=cs.length) (by omega) bY h2 j u (by simp only[af.size,Dk l cs off (by omega),List.length_append,List.length_take,List.length_drop]at hj;omega) hu
   ·rw[Dk l cs off (by omega)]
    refine⟨by simp[lM];omega,fun j x' y' ee rB=>?_⟩
    have pU:n=(a.eval y).cells.toList.length :=by simp[lM]
    rw[tx cs l off (by omega)]at ee
    have yW:(c.toList.take off++(a.eval y).cells.toList ++c.toList.drop (off+(a.eval y).cells.toList.length))[j]? =some y':=by
     rw[←pU];simpa using rB
    rw[tx _ _ off (by simp[lM];omega)]at yW
    simp only[Array.length_toList,lM,LI]at ee yW
    have iS:¬(off≤j∧j<off+n)→cs[j]? =some x'→c[j]? =some y'→aP w' g.St w0.heap.size (u6 w0.heap.size w' g bn j) x' y':=fun hj h4 h5=>
     (bw j x' y' h4 h5).mono hX.st hX.bs _ (fun b' a' c' ho=>hX.own _ b' a' c' (by rintro⟨j',h6,h7⟩;cases h6;exact hj h7) ho)
    split at ee
    ·rename_i hj
     simp only[hj,↓reduceIte,Array.getElem?_toList]at yW
     exact iS (by omega) ee yW
    ·rename_i hj
     simp only[hj,↓reduceIte]at yW
     split at ee
     ·rename_i rC
      simp only[rC,↓reduceIte,Array.getElem?_toList]at yW
      exact(h3 (j-off) x' y' ee yW).mono hX.st hX.bs _ (fun _ _ _ h=>h.elim)
     ·rename_i rC
      simp only[rC,↓reduceIte,Array.getElem?_toList]at yW
      exact iS (by omega) ee yW
  ·exact h.elim
  ·rename_i HC Cy
   split at h
   ·exact Tt hI ho hd hn hv dM hc (by simp at hlen;omega) rfl rfl rfl (fun z hz=>HC z hz) (fun z hz=>Cy z hz) h
   ·exact h.elim
 ·
  rename_i s0 lN
  obtain⟨h0,c,ty,hc,bY,hlen,bw⟩:=hI.boxes bn _ ao lN dM
  split at h
  ·split at h
   ·rename_i z hz
    obtain⟨l,hl,LI,hk⟩:=aN h
    have hy:=hI.pg hz
    obtain⟨h1,h2,h3⟩:=hy.jV.cells hl
    have lM:(a.eval y).cells.size =1:=by rw[←h1,LI]
    have A1:∀{j:Nat},j<l.length→(c.toList.take 0++(a.eval y).cells.toList ++c.toList.drop (0+1)).toArray[j]? =(a.eval y).cells[j]? :=by
     intro j hj
     have:j=0:=by omega
     subst this
     simp[List.getElem?_append,lM]
    refine MZ hI ho hd (n:=1) (ft:=.cells l) hv dM hc (c.toList.take 0++(a.eval y).cells.toList ++c.toList.drop (0+1)).toArray (by simp[lM];omega) (fun j u hj hu=>?_) ?_ (fun w' hX=>⟨by simp;omega,fun j c' u iI hu=>?_⟩) hk
    ·rw[A1 hj]at hu
     exact h2 u (Array.mem_of_getElem? hu)
    ·rw[Fy hn hc lM h2 (by omega)]
    ·rw[A1 (List.getElem?_eq_some_iff.1 iI).1]at hu
     exact(h3 j c' u iI hu).mono hX.st hX.bs _ (fun _ _ _ h=>h.elim)
   ·exact h.elim
   ·rename_i HC Cy
    exact Tt hI ho hd hn hv dM hc hlen rfl rfl rfl (fun z hz=>HC z hz) (fun z hz=>Cy z hz) h
  ·exact h.elim
 ·exact h.elim
end
end Go.Proofs.Ytimbllcalipehaa.Ab
namespace Go.Proofs.Ytimbllcalipehaa.Ab
open Go Go.RowKit
section
variable{P:Program}{gl:Nat→Option D}{w0:World}{ar:S0}{e:Env}{a:Act}{w:World}{g:Gh}
theorem tu{x:SV}{n j:Nat}(h:cN x n=some j):∃k i,x=.d (.int k i)∧0≤i∧i<n∧j=i.toNat:=by
 unfold cN at h
 split at h
 ·rename_i k i
  split at h
  ·rename_i hc;cases h;exact⟨k,i,rfl,hc.1,hc.2,rfl⟩
  ·cases h
 ·cases h
theorem aP.int{St:Nat→Nat→Prop}{base:Nat}{O:Nat→Nat→Nat→Prop}{k:IntKind}{n:Int}{v:Value}(h:aP w St base O (.d (.int k n)) v):v=.int k n:=h.data.uT.1
theorem TY{x y:SV}{n:Nat}(h:bP x n=some y){St:Nat→Nat→Prop}{base:Nat}{O O':Nat→Nat→Nat→Prop}{v:Value}(r:aP w St base O x v):
  ∃ad:Addr,v=.pointer (some ad)∧ad.spot=none∧aP w St base O' y (.pointer (some ⟨ad.block,ad.off+n,none⟩)):=by
 unfold bP at h
 split at h
 ·cases h
  cases r with
  |aX _ x off b o vs h0 h1 h2=>exact⟨_,rfl,rfl,by rw[Nat.add_assoc];exact .aX _ _ _ b o vs h0 h1 h2⟩
 ·cases h
  cases r with
  |ref _ cs off b o vs h0 h1 h2=>exact⟨_,rfl,rfl,by rw[Nat.add_assoc];exact .ref _ _ _ b o vs h0 h1 h2⟩
 ·cases h
theorem TZ{t:TypeId}{i:Nat}{fd:Field}(h:Du P t i=some fd):∃fs,P.underlying t=some (.struct fs)∧fs[i]? =some fd:=by
 unfold Du at h
 split at h
 ·rename_i fs hu;exact⟨fs,hu,by simpa using h⟩
 ·cases h
theorem aag{fd:Field}{sz:Nat}(hs:eu P fd.type=some sz)(h0:sz≠0)(ad:Addr):(fieldPlace ad fd).run P w=.ok (ad.add fd.offset) w:=by
 simp[fieldPlace,j9 hs,h0]
theorem aah(hI:Inv gl w0 ar e a w g){o:Oper}{t:TypeId}{x:Operand}{f:Nat}(ho:o.op=.fieldAddr t x f){k:Slot→List af→Prop}
  (h:ab (Du P t f) fun fd=>ab (eu P fd.type) fun sz=>bif Nat.beq sz 0 then False else(match(Ab.bp gl e x).aa with
  | .p b off=>k (.p b (off+fd.offset)) e.boxes
  | .v y=>ab (bP y fd.offset) fun z=>k (.v z) e.boxes
  |_=>False)):bH P gl w0 ar e.ak o a w k:=by
 obtain⟨fd,A2,h⟩:=aN h
 obtain⟨sz,aM,h⟩:=aN h
 obtain⟨fs,hu,HD⟩:=TZ A2
 cases hz:Nat.beq sz 0 with
 |true=>rw[hz]at h;exact h.elim
 |false=>
  rw[hz]at h
  simp only[cond_false]at h
  have h0:sz≠0:=fun h=>by rw[h]at hz;cases hz
  have bq:∀ad,a.eval x=.pointer (some ad)→(execOp a.eval o).run P w=.ok (.value (.pointer (some (ad.add fd.offset)))) w:=by
   intro ad hv
   simp[execOp,ho,Instr.fieldAt,run_underlying hu,HD,Instr.sureAddr,hv,aag aM h0]
  split at h
  ·rename_i b off hs
   obtain⟨ao,hv,dM⟩:=(hI.pg hs).o0
   refine bH.value hI (bq _ hv) ?_ h
   rw[pB]
   exact .p _ _ _ _ dM
  ·rename_i y hs
   obtain⟨z,hz,hk⟩:=aN h
   obtain⟨ad,hv,lL,hr⟩:=TY (O':=fun _ _ _=>False) hz (hI.sP hs)
   refine bH.gb hI (bq _ hv) ?_ hk
   obtain⟨b,o',sp⟩:=ad
   simp only at lL;subst lL
   rw[pB];exact hr
  ·exact h.elim
theorem aaI{P:Program}{w:World}{t:TypeId}{name:String}{f:FuncId}(h:DY P t name=some f)(fuel:Nat)(v:Value):(nilAhead (fuel+1) t v name).run P w=.ok (some false) w:=by
 unfold DY at h
 split at h
 ·rename_i i hi
  split at h
  ·rename_i m hm
   split at h
   ·rename_i f' hp hf
    split at h
    ·cases h
    ·rename_i u xE hu
     have nH:(underlying t).run P w=.ok u w:=run_underlying hu w
     have gX:(typeInfo t).run P w=.ok i w:=by simp[typeInfo,go_sem,hi]
     have EF:(followBlind ([]:List FieldStep) t (some v)).run P w=.ok (.ok (t,some v)) w:=by simp[followBlind]
     unfold nilAhead
     simp only[Sem.run_bind,gX,Result.andThen_ok,hm,hp,EF,hf,nH]
     cases u<;>first|exact(xE _ rfl).elim |simp
    ·cases h
   ·cases h
  ·cases h
 ·cases h
theorem aas(hI:Inv gl w0 ar e a w g){o:Oper}{x:Operand}(ho:o.op=.nilCheck x){k:Slot→List af→Prop}
  (h:match(Ab.bp gl e x).aa with
  | .v y=>ab (nX y) fun z=>k (.v z) e.boxes
  | .t _=>False
  | .c f first cap=>(match f with
    | .func _=>k (.c f first cap) e.boxes
    | .method name=>(match first with
      | .v y::_=>ab (PO P y name) fun _=>k (.c f first cap) e.boxes
      |_=>False)
    |_=>False)
  | .p b off=>k (.p b off) e.boxes
  |_=>False):bH P gl w0 ar e.ak o a w k:=by
 split at h
 ·rename_i y hs
  obtain⟨z,hz,hk⟩:=aN h
  have hy:=hI.sP hs
  have hyz:y=z∧∃v,a.eval x=v∧(execOp a.eval o).run P w=.ok (.value v) w:=by
   unfold nX at hz
   generalize hv:a.eval x=u at hy
   split at hz<;>first|(cases hz)|skip
   ·cases hy;exact⟨rfl,_,rfl,by simp[execOp,ho,hv]⟩
   ·cases hy;exact⟨rfl,_,rfl,by simp[execOp,ho,hv]⟩
   ·rename_i f a' b'
    cases f<;>simp only[Option.some.injEq,reduceCtorEq]at hz
    cases hy;exact⟨hz,_,rfl,by simp[execOp,ho,hv]⟩
   ·rename_i f
    cases f<;>simp only[Option.some.injEq,reduceCtorEq]at hz
    cases hy with
    |d _ _ _ hd=>cases hd;exact⟨hz,_,rfl,by simp[execOp,ho,hv]⟩
  obtain⟨rfl,v,hv,hr⟩:=hyz
  rw[hv]at hy
  exact bH.gb hI hr hy hk
 ·exact h.elim
 ·rename_i f first cap hs
  have hy:=hI.pg hs
  split at h
  ·generalize hv:a.eval x=u at hy
   have rB:=hy
   cases hy
   exact bH.value hI (by simp[execOp,ho,hv]) rB h
  ·rename_i name
   split at h
   ·rename_i y rest
    obtain⟨f',mS,h⟩:=aN h
    unfold PO at mS
    split at mS
    ·rename_i t y0 A3
     generalize hv:a.eval x=u at hy
     have rB:=hy
     cases hy with
     |c _ _ _ _ fv cv rD sQ rf rc=>
      have aM:0<fv.size:=by rw[←rD];simp
      have h0:=rf 0 _ (fv[0]) rfl (by simp[aM])
      cases h0 with
      |v _ _ _ h0=>
       have hd:=h0.data
       generalize he:fv[0]=u0 at hd
       cases hd with
       |iface _ _ v0 _=>
        have zp:fv[0]? =some (.iface t v0):=by rw[Array.getElem?_eq_getElem aM,he]
        refine bH.value hI ?_ rB h
        simp only[execOp,ho,hv,zp]
        have Ro:=aaI (P:=P) (w:=w) mS (P.types.size+99) v0
        simp only[Sem.run_bind,run_program,Result.andThen_ok,Made.depth]
        rw[Ro]
        simp
    ·cases mS
   ·exact h.elim
  ·exact h.elim
 ·rename_i b off hs
  have hy:=hI.pg hs
  obtain⟨ao,hv,dM⟩:=hy.o0
  exact bH.value hI (by simp[execOp,ho,hv]) (.p _ _ _ _ dM) h
 ·exact h.elim
theorem abM(hI:Inv gl w0 ar e a w g){o:Oper}{t:TypeId}{x:Operand}(ho:o.op=.makeInterface t x){k:Slot→List af→Prop}
  (h:bif isIface P t then False else ab (Pf t ((Ab.bp gl e x).aa).bW) fun r=>k (.v r) e.boxes):bH P gl w0 ar e.ak o a w k:=by
 cases hi:isIface P t with
 |true=>rw[hi]at h;exact h.elim
 |false=>
  rw[hi]at h
  simp only[cond_false]at h
  obtain⟨r,hr,hk⟩:=aN h
  have hx:=hI.jB x
  generalize ((Ab.bp gl e x).aa).bW =sx at hr hx
  unfold Pf at hr
  split at hr
  ·rename_i y hy
   cases hr
   refine bH.gb hI (v:=.iface t (a.eval x)) ?_ (.d _ _ _ (.iface _ _ _ (hx.dA hy))) hk
   unfold isIface at hi
   split at hi
   ·cases hi
   ·cases hi
   ·rename_i h1 h2
    obtain⟨d,hd⟩:=Option.ne_none_iff_exists'.1 (fun hn=>h2 hn)
    simp only[execOp,ho,Instr.makeInterface,Sem.run_bind,run_underlying hd,Result.andThen_ok]
    cases d<;>first|rfl|exact absurd hd (h1 _)
  ·cases hr
theorem aat(hI:Inv gl w0 ar e a w g){o:Oper}{fn:Fn}{first cap:Array Operand}(ho:o.op=.makeFunc fn first cap){k:Slot→List af→Prop}
  (h:k (.c fn (first.toList.map fun x=>((Ab.bp gl e x).aa).aa) (cap.toList.map fun x=>((Ab.bp gl e x).aa).aa)) e.boxes):bH P gl w0 ar e.ak o a w k:=by
 refine bH.value hI (v:=.func fn (first.map a.eval) (cap.map a.eval)) (by simp[execOp,ho,Instr.makeFunc]) (.c _ _ _ _ _ _ (by simp) (by simp) ?_ ?_) h
 ·intro i x v hx hv
  simp only[List.getElem?_map,Option.map_eq_some_iff,Array.getElem?_map]at hx hv
  obtain⟨y,hy,rfl⟩:=hx
  obtain⟨z,hz,rfl⟩:=hv
  rw[Array.getElem?_toList]at hy
  rw[hy]at hz;cases hz
  exact(hI.bp y).aa
 ·intro i x v hx hv
  simp only[List.getElem?_map,Option.map_eq_some_iff,Array.getElem?_map]at hx hv
  obtain⟨y,hy,rfl⟩:=hx
  obtain⟨z,hz,rfl⟩:=hv
  rw[Array.getElem?_toList]at hy
  rw[hy]at hz;cases hz
  exact(hI.bp y).aa
theorem aaJ(hI:Inv gl w0 ar e a w g){o:Oper}{x:Operand}{i:Nat}(ho:o.op=.extract x i){k:Slot→List af→Prop}
  (h:match(Ab.bp gl e x).aa with
  | .t vs=>(match vs[i]? with|some r=>k (.v r) e.boxes|none=>False)
  |_=>False):bH P gl w0 ar e.ak o a w k:=by
 split at h
 ·rename_i vs hs
  split at h
  ·rename_i r hr
   obtain⟨tv,hv,hl,hc⟩:=(hI.pg hs).PU
   have hi:i<tv.size:=by rw[←hl];exact(List.getElem?_eq_some_iff.1 hr).1
   exact bH.gb hI (v:=tv[i]) (by simp[execOp,ho,Instr.extract,hv,hi]) (hc i r _ hr (by simp)) h
  ·exact h.elim
 ·exact h.elim
theorem abN(hI:Inv gl w0 ar e a w g){o:Oper}{t:TypeId}{x:Operand}{f:Nat}(ho:o.op=.field t x f){k:Slot→List af→Prop}
  (h:ab (Du P t f) fun fd=>ab (lf P fd.type) fun ly=>ab (yo ly.1 ly.2 fd.offset ((Ab.bp gl e x).aa).bW) fun r=>k (.v r) e.boxes):bH P gl w0 ar e.ak o a w k:=by
 obtain⟨fd,A2,h⟩:=aN h
 obtain⟨⟨b,n⟩,hl,h⟩:=aN h
 obtain⟨r,hr,hk⟩:=aN h
 obtain⟨fs,hu,HD⟩:=TZ A2
 have hx:=hI.jB x
 generalize ((Ab.bp gl e x).aa).bW =sx at hr hx
 unfold yo at hr
 split at hr
 ·rename_i cs
  split at hr
  ·rename_i z hz
   cases hr
   obtain⟨vs,hv,bw,hf⟩:=hx.data.x9
   obtain⟨hb,hn,h1⟩:=F6 hl
   have hle:fd.offset+n≤cs.length:=by
    unfold sD at hz
    cases b
    ·simp only[cond_false]at hz;have:=(List.getElem?_eq_some_iff.1 hz).1;rw[h1 rfl];omega
    ·simp only[cond_true]at hz;split at hz<;>first|assumption|cases hz
   obtain⟨v,hp,zq⟩:=bw.valOf (P:=P) (off:=fd.offset) hb hn h1 hle
   refine bH.gb hI (v:=v) (by simp[execOp,ho,Instr.field,run_underlying hu,HD,hv,asAgg,hp]) (.d _ _ _ ?_) hk
   unfold sD at hz
   cases b
   ·simp only[cond_false]at hz
    simp only[jC,Bool.false_eq_true,if_false]at zq
    obtain⟨x',ee,zr⟩:=zq
    have aO:=(List.getElem?_eq_some_iff.1 hz).1
    rw[h1 rfl,List.drop_eq_getElem_cons aO,List.take_succ_cons,List.take_zero]at ee
    rw[List.getElem?_eq_getElem aO]at hz
    cases hz
    simp only[List.cons.injEq,and_true]at ee
    rw[ee];exact zr
   ·simp only[cond_true,hle,↓reduceIte,Option.some.injEq]at hz
    subst hz
    simp only[jC,if_true]at zq
    obtain⟨fK,rfl,zr⟩:=zq
    exact zr.agg (fun d hd=>hf d (List.mem_of_mem_drop (List.mem_of_mem_take hd)))
  ·cases hr
 ·cases hr
theorem abO(hI:Inv gl w0 ar e a w g){o:Oper}{t:TypeId}{x i:Operand}(ho:o.op=.index t x i){k:Slot→List af→Prop}
  (h:match P.underlying t with
  |some (.array n e')=>ab (lf P e') fun ly=>ab (Pe ly.1 ly.2 n ((Ab.bp gl e x).aa).bW ((Ab.bp gl e i).aa).bW) fun r=>k (.v r) e.boxes
  |some .string =>ab (PQ ((Ab.bp gl e x).aa).bW ((Ab.bp gl e i).aa).bW) fun r=>k (.v r) e.boxes
  |_=>False):bH P gl w0 ar e.ak o a w k:=by
 have hx:=hI.jB x
 have hi:=hI.jB i
 generalize ((Ab.bp gl e x).aa).bW =sx at h hx
 generalize ((Ab.bp gl e i).aa).bW =si at h hi
 split at h
 ·rename_i n e' hu
  obtain⟨⟨b,m⟩,hl,h'⟩:=aN h
  clear h
  obtain⟨r,hr,hk⟩:=aN h'
  clear h'
  unfold Pe at hr
  split at hr
  ·rename_i cs
   split at hr
   ·rename_i j hj
    split at hr
    ·rename_i z hz
     cases hr
     obtain⟨kk,ii,rfl,h1,h2,rfl⟩:=tu hj
     have vt:=hi.int
     obtain⟨vs,hv,bw,hf⟩:=hx.data.x9
     obtain⟨hb,hn,bY⟩:=F6 hl
     have hle:ii.toNat*m+m≤cs.length:=by
      unfold sD at hz
      cases b
      ·simp only[cond_false]at hz;have:=(List.getElem?_eq_some_iff.1 hz).1;rw[bY rfl]at*;omega
      ·simp only[cond_true]at hz;split at hz<;>first|assumption|cases hz
     obtain⟨v,hp,zq⟩:=bw.valOf (P:=P) (off:=ii.toNat*m) hb hn bY hle
     refine bH.gb hI (v:=v) ?_ (.d _ _ _ ?_) hk
     ·simp[execOp,ho,Instr.index,vt,asIntOf,run_underlying hu,hv,h1,h2,j9 hn,hp]
     ·unfold sD at hz
      cases b
      ·simp only[cond_false]at hz
       simp only[jC,Bool.false_eq_true,if_false]at zq
       obtain⟨x',ee,zr⟩:=zq
       have aO:=(List.getElem?_eq_some_iff.1 hz).1
       rw[bY rfl]at ee hz aO
       rw[List.drop_eq_getElem_cons aO,List.take_succ_cons,List.take_zero]at ee
       rw[List.getElem?_eq_getElem aO]at hz
       cases hz
       simp only[List.cons.injEq,and_true]at ee
       rw[ee];exact zr
      ·simp only[cond_true,hle,↓reduceIte,Option.some.injEq]at hz
       subst hz
       simp only[jC,if_true]at zq
       obtain⟨fK,rfl,zr⟩:=zq
       exact zr.agg (fun d hd=>hf d (List.mem_of_mem_drop (List.mem_of_mem_take hd)))
    ·cases hr
   ·cases hr
  ·cases hr
 ·rename_i hu
  obtain⟨r,hr,hk⟩:=aN h
  unfold PQ at hr
  split at hr
  ·rename_i s
   split at hr
   ·rename_i j hj
    split at hr
    ·rename_i c hc
     cases hr
     obtain⟨kk,ii,rfl,h1,h2,rfl⟩:=tu hj
     have vt:=hi.int
     obtain⟨bs,hv,hs,_⟩:=hx.data.x8
     have aO:ii.toNat<bs.size:=by
      rw[hs]at h2
      simp only[Array.length_toList]at h2
      have:bs.size=bs.data.size:=rfl
      omega
     have hg:bs[ii.toNat]? =some c:=by
      rw[hs]at hc
      rw[getElem?_pos bs ii.toNat aO]
      have:bs.data.toList[ii.toNat]? =some bs[ii.toNat]:=by
       rw[Array.getElem?_toList,Array.getElem?_eq_getElem aO]
       rfl
      rw[this]at hc
      exact hc
     refine bH.gb hI (v:=.int .u8 c.toNat) ?_ (.d _ _ _ (.int _ _ ?_)) hk
     ·simp[execOp,ho,Instr.index,vt,asIntOf,run_underlying hu,hv,h1,hg]
     ·have:=c.toNat_lt
      simp[iG,IntKind.min,IntKind.max,IntKind.signed,IntKind.bits]
      omega
    ·cases hr
   ·cases hr
  ·cases hr
 ·exact h.elim
theorem T0{sz:Nat}{x:SV}{L:List D}(h:elems sz x=some L){St:Nat→Nat→Prop}{base:Nat}{O:Nat→Nat→Nat→Prop}{v:Value}(r:aP w St base O x v):
  ((v=.slice none 0 0∨∃ad c,v=.slice (some ad) 0 c)∧L=[])∨∃(b off cap:Nat) (vs:Nat→Value),v=.slice (some ⟨b,off,none⟩) L.length cap∧L.length≤cap∧L.length≤maxLen∧(∀x∈L,x.cells.length=sz)∧(∀x∈L,∀c∈x.cells,c.one=true)∧
    (∀(o:Nat),o<L.length*sz→w.cell? ⟨b,off+o,none⟩=some (vs o)∧St b (off+o))∧
    (∀(i:Nat)x(j:Nat)c,L[i]? =some x→x.cells[j]? =some c→bh w St c (vs (i*sz+j))):=by
 have go:∀{s L' v},bh w St (.sl .ro s L') v→((v=.slice none 0 0∨∃ad c,v=.slice (some ad) 0 c)∧L'=[])∨∃(b off cap:Nat) (vs:Nat→Value),v=.slice (some ⟨b,off,none⟩) L'.length cap∧L'.length≤cap∧L'.length≤maxLen∧(∀x∈L',x.cells.length=s)∧(∀x∈L',∀c∈x.cells,c.one=true)∧
   (∀(o:Nat),o<L'.length*s→w.cell? ⟨b,off+o,none⟩=some (vs o)∧St b (off+o))∧
   (∀(i:Nat)x(j:Nat)c,L'[i]? =some x→x.cells[j]? =some c→bh w St c (vs (i*s+j))):=by
  intro s L' v hd
  cases hd with
  |sl _ _ b off cap vs bM hm aM hf aR hc=>exact .inr ⟨b,off,cap,vs,rfl,bM,hm,aM,hf,aR,hc⟩
  |mr _ ad c _=>exact .inl ⟨.inr ⟨ad,c,rfl⟩,rfl⟩
 unfold elems at h
 split at h
 ·rename_i k s L'
  split at h
  ·cases h
   have hd:=r.data
   cases hd
   exact .inl ⟨.inl rfl,rfl⟩
  ·split at h
   ·rename_i hs;cases h;subst hs;exact go r.data
   ·cases h
 ·split at h
  ·rename_i hs;cases h;subst hs
   cases r with
   |own _ _ _ gg cap hd bM ho=>exact go hd
  ·cases h
 ·split at h
  ·rename_i hs;cases h;subst hs
   cases r with
   |full _ _ _ ad hd=>exact go hd
  ·cases h
 ·cases h
theorem aai(hI:Inv gl w0 ar e a w g){o:Oper}{t:TypeId}{x i:Operand}(ho:o.op=.indexAddr t x i){k:Slot→List af→Prop}
  (h:match P.underlying t with
  |some (.slice e')=>ab (eu P e') fun sz=>ab (aL sz ((Ab.bp gl e x).aa).bW ((Ab.bp gl e i).aa).bW) fun r=>k (.v r) e.boxes
  |some (.array n e')=>ab (eu P e') fun sz=>ab (cN ((Ab.bp gl e i).aa).bW n) fun j=>(match(Ab.bp gl e x).aa with
   | .p b off=>k (.p b (off+j*sz)) e.boxes
   | .v y=>ab (bP y (j*sz)) fun z=>k (.v z) e.boxes
   |_=>False)
  |_=>False):bH P gl w0 ar e.ak o a w k:=by
 have hi:=hI.jB i
 generalize ((Ab.bp gl e i).aa).bW =si at h hi
 split at h
 ·rename_i e' hu
  obtain⟨sz,aM,h⟩:=aN h
  obtain⟨r,hr,hk⟩:=aN h
  have hx:=hI.jB x
  generalize ((Ab.bp gl e x).aa).bW =sx at hr hx
  unfold aL at hr
  split at hr
  ·rename_i n s cs
   split at hr
   ·rename_i j hj
    split at hr
    ·rename_i pV
     cases hr
     subst pV
     obtain⟨kk,ii,rfl,h1,h2,rfl⟩:=tu hj
     have vt:=hi.int
     generalize hv:a.eval x=u at hx
     cases hx with
     |cU _ _ _ _ b cap vs fh hn hm aR hc=>
      refine bH.gb hI (v:=.pointer (some ⟨b,0+ii.toNat*s,none⟩)) ?_ (.ref _ cs (ii.toNat*s) b 0 vs fh aR hc) hk
      have:=pB b 0 (ii.toNat*s)
      simp[execOp,ho,Instr.indexAt,vt,asIntOf,run_underlying hu,hv,h1,h2,j9 aM,this]
    ·cases hr
   ·cases hr
  split at hr
  ·rename_i L hL
   split at hr
   ·rename_i j hj
    split at hr
    ·rename_i y hy
     cases hr
     obtain⟨kk,ii,rfl,h1,h2,rfl⟩:=tu hj
     have vt:=hi.int
     rcases T0 hL hx with⟨_,rfl⟩|⟨b,off,cap,vs,hv,bM,hm,hs,hf,aR,hc⟩
     ·simp at h2;omega
     ·have aO:ii.toNat<L.length:=(List.getElem?_eq_some_iff.1 hy).1
      have eL:y∈L:=List.mem_of_getElem? hy
      refine bH.gb hI (v:=.pointer (some ⟨b,off+ii.toNat*sz,none⟩)) ?_ ?_ hk
      ·have:=pB b off (ii.toNat*sz)
       simp[execOp,ho,Instr.indexAt,vt,asIntOf,run_underlying hu,hv,h1,h2,j9 aM,this]
      ·refine .aX _ y 0 b (off+ii.toNat*sz) (fun j=>vs (ii.toNat*sz+j)) (hf y eL) (fun j oG=>?_) (fun j c iI=>hc _ y j c hy iI)
       have:ii.toNat*sz+j<L.length*sz:=by
        rw[hs y eL]at oG
        have:(ii.toNat+1)*sz≤L.length*sz:=Nat.mul_le_mul_right _ aO
        rw[Nat.succ_mul]at this;omega
       rw[Nat.add_assoc]
       exact aR _ this
    ·cases hr
   ·cases hr
  ·cases hr
 ·rename_i n e' hu
  obtain⟨sz,aM,h⟩:=aN h
  obtain⟨j,hj,h⟩:=aN h
  obtain⟨kk,ii,rfl,h1,h2,rfl⟩:=tu hj
  have vt:=hi.int
  have bq:∀ad,a.eval x=.pointer (some ad)→(execOp a.eval o).run P w=.ok (.value (.pointer (some (ad.add (ii.toNat*sz))))) w:=by
   intro ad hv
   simp[execOp,ho,Instr.indexAt,vt,asIntOf,run_underlying hu,Instr.sureAddr,hv,h1,h2,j9 aM]
  split at h
  ·rename_i b off hs
   obtain⟨ao,hv,dM⟩:=(hI.pg hs).o0
   refine bH.value hI (bq _ hv) ?_ h
   rw[pB]
   exact .p _ _ _ _ dM
  ·rename_i y hs
   obtain⟨z,hz,hk⟩:=aN h
   obtain⟨ad,hv,lL,hr⟩:=TY (O':=fun _ _ _=>False) hz (hI.sP hs)
   refine bH.gb hI (bq _ hv) ?_ hk
   obtain⟨b,o',sp⟩:=ad
   simp only at lL;subst lL
   rw[pB];exact hr
  ·exact h.elim
 ·exact h.elim
end
end Go.Proofs.Ytimbllcalipehaa.Ab
namespace Go.Proofs.Ytimbllcalipehaa.Ab
open Go Go.RowKit
section
variable{P:Program}{gl:Nat→Option D}{w0:World}{ar:S0}{e:Env}{a:Act}{w:World}{g:Gh}
inductive DN(w:World)(St:Nat→Nat→Prop)(base:Nat):Option SV→Option Value→Prop
 |none:DN w St base none none
 |some (s:SV) (v:Value) (h:aP w St base (fun _ _ _=>False) s v):DN w St base (some s) (some v)
theorem Inv.opt(hI:Inv gl w0 ar e a w g)(x:Option Operand):DN w g.St w0.heap.size (Ab.sJ (fun x=>(Ab.bp gl e x).aa) x) (x.map a.eval):=by
 cases x with
 |none=>exact .none
 |some y=>exact .some _ _ (hI.jB y)
theorem Da{n m:Nat}(c:BoundsCode){x:SV}{j:Nat}(h:cN x (n+1)=some j)(hm:n≤m){St:Nat→Nat→Prop}{base:Nat}{O:Nat→Nat→Nat→Prop}{v:Value}(r:aP w St base O x v):
  (Instr.sliceBound v m c).run P w=.ok j w∧j≤n:=by
 obtain⟨kk,ii,rfl,h1,h2,rfl⟩:=tu h
 have hv:=r.int
 refine⟨?_,by omega⟩
 have:0≤ii∧ii≤(m:Int):=⟨h1,by omega⟩
 simp[Instr.sliceBound,hv,asIntOf,this]
theorem Jd{n cap:Nat}(Z9:Bool)(hc:n≤cap){lo hi:Option SV}{HE HF:Option Value}{St:Nat→Nat→Prop}{base:Nat}(sR:DN w St base lo HE)(vu:DN w St base hi HF)
  {hh ll:Nat}(h1:B7 n hi=some hh)(h2:yN hh lo=some ll):
  (Instr.sliceBounds Z9 n cap HE HF none).run P w=.ok (ll,hh,cap) w∧hh≤n∧ll≤hh:=by
 unfold Instr.sliceBounds
 cases vu with
 |none=>
  simp only[B7,Option.some.injEq]at h1
  subst h1
  cases sR with
  |none=>simp only[yN,Option.some.injEq]at h2;subst h2;exact⟨by simp,Nat.le_refl _,Nat.zero_le _⟩
  |some s v r=>
   obtain⟨q1,q2⟩:=Da (P:=P) (w:=w) .sliceB h2 (Nat.le_refl _) r
   exact⟨by simp[q1],Nat.le_refl _,q2⟩
 |some s v r=>
  obtain⟨p1,p2⟩:=Da (P:=P) (w:=w) (if Z9 then .sliceAcap else .sliceAlen) h1 hc r
  cases sR with
  |none=>simp only[yN,Option.some.injEq]at h2;subst h2;exact⟨by simp[p1],p2,Nat.zero_le _⟩
  |some s v r=>
   obtain⟨q1,q2⟩:=Da (P:=P) (w:=w) .sliceB h2 (Nat.le_refl _) r
   exact⟨by simp[p1,q1],p2,q2⟩
theorem Nh{n cap:Nat}(hc:n≤cap){lo:Option SV}{hi mx:SV}{HE:Option Value}{HF vmx:Value}{St:Nat→Nat→Prop}{base:Nat}(sR:DN w St base lo HE)
  (vu:aP w St base (fun _ _ _=>False) hi HF)(zt:aP w St base (fun _ _ _=>False) mx vmx)
  {hh mm ll:Nat}(h0:cN mx (n+1)=some mm)(h1:cN hi (n+1)=some hh)(he:hh=mm)(h2:yN hh lo=some ll):
  (Instr.sliceBounds true n cap HE (some HF) (some vmx)).run P w=.ok (ll,hh,hh) w∧hh≤n∧ll≤hh:=by
 unfold Instr.sliceBounds
 subst he
 obtain⟨o1,o2⟩:=Da (P:=P) (w:=w) .slice3Acap h0 hc zt
 have vv:cN hi (hh+1)=some hh:=by
  obtain⟨kk,ii,rfl,a1,a2,a3⟩:=tu h1
  simp only[cN]
  rw[if_pos (by omega),←a3]
 obtain⟨p1,_⟩:=Da (P:=P) (w:=w) .slice3B vv (Nat.le_refl _) vu
 cases sR with
 |none=>simp only[yN,Option.some.injEq]at h2;subst h2;exact⟨by simp[o1,p1],o2,Nat.zero_le _⟩
 |some s v r=>
  obtain⟨q1,q2⟩:=Da (P:=P) (w:=w) .slice3C h2 (Nat.le_refl _) r
  exact⟨by simp[o1,p1,q1],o2,q2⟩
theorem Us{L:List D}{lo hi:Option SV}{r:List D}(h:GN L lo hi=some r):∃hh ll,B7 L.length hi=some hh∧
  yN hh lo=some ll∧r=(L.take hh).drop ll:=by
 unfold GN at h
 split at h
 ·rename_i hh h1
  split at h
  ·rename_i ll h2
   cases h
   exact⟨hh,ll,h1,h2,rfl⟩
  ·cases h
 ·cases h
theorem WU{St:Nat→Nat→Prop}{sz:Nat}{L:List D}{b off cap hh ll c':Nat}(h:bh w St (.sl .ro sz L) (.slice (some ⟨b,off,none⟩) L.length cap))(hh':hh≤L.length)(hl:ll≤hh)(hc:hh-ll≤c'):
  bh w St (.sl .ro sz ((L.take hh).drop ll)) (.slice (some ⟨b,off+ll*sz,none⟩) (hh-ll) c'):=by
 cases h with
 |mr _ _ _ ha=>exact absurd rfl ha
 |sl _ _ _ _ _ vs bM hm aM hf aR hc=>
  have hlen:((L.take hh).drop ll).length =hh-ll:=by simp;omega
  have:=bh.sl (w:=w) (St:=St) sz ((L.take hh).drop ll) b (off+ll*sz) c' (fun o=>vs (ll*sz+o)) (by omega) (by omega)
   (fun x hx=>aM x (List.mem_of_mem_take (List.mem_of_mem_drop hx))) (fun x hx=>hf x (List.mem_of_mem_take (List.mem_of_mem_drop hx)))
   (fun o ho=>by
     rw[hlen]at ho
     rw[Nat.add_assoc]
     refine aR (ll*sz+o) ?_
     have:ll*sz+(hh-ll)*sz=hh*sz:=by rw[←Nat.add_mul];congr 1;omega
     have:hh*sz≤L.length*sz:=Nat.mul_le_mul_right _ hh'
     omega)
   (fun i x j c hx iI=>by
     rw[List.getElem?_drop,List.getElem?_take]at hx
     split at hx
     ·have:=hc (ll+i) x j c hx iI
      rw[Nat.add_mul,Nat.add_assoc]at this
      exact this
     ·cases hx)
  rw[hlen]at this
  exact this
theorem abP(hI:Inv gl w0 ar e a w g){o:Oper}{t:TypeId}{x:Operand}{lo hi mx:Option Operand}(ho:o.op=.slice t x lo hi mx){k:Slot→List af→Prop}
  (h:ab (Pd P t (Ab.aa ((Ab.bp gl e x).aa).bW) (Ab.sJ (fun x=>(Ab.bp gl e x).aa) lo) (Ab.sJ (fun x=>(Ab.bp gl e x).aa) hi) (Ab.sJ (fun x=>(Ab.bp gl e x).aa) mx)) fun r=>k (.v r) e.boxes):
  bH P gl w0 ar e.ak o a w k:=by
 obtain⟨r,hr,hk⟩:=aN h
 clear h
 have hx:=(hI.jB x).aa (O':=fun _ _ _=>False)
 have sR:=hI.opt lo
 have vu:=hI.opt hi
 have zt:=hI.opt mx
 generalize Ab.aa ((Ab.bp gl e x).aa).bW =sx at hr hx
 generalize Ab.sJ (fun x=>(Ab.bp gl e x).aa) lo=slo at hr sR
 generalize Ab.sJ (fun x=>(Ab.bp gl e x).aa) hi=shi at hr vu
 generalize Ab.sJ (fun x=>(Ab.bp gl e x).aa) mx=smx at hr zt
 unfold Pd at hr
 split at hr
 ·
  rename_i hu
  split at hr
  ·rename_i s
   split at hr
   ·rename_i l hl
    cases hr
    obtain⟨bs,hv,hs,mM⟩:=hx.data.x8
    unfold XP at hl
    split at hl
    ·rename_i hh h1
     split at hl
     ·rename_i ll h2
      cases hl
      have jq:s.length=bs.size:=by rw[hs,Array.length_toList];rfl
      rw[jq]at h1
      have hb:=Jd (P:=P) (w:=w) false (Nat.le_refl bs.size) sR vu h1 h2
      have e2:mx.map a.eval=none:=by generalize mx.map a.eval=q at zt;cases zt;rfl
      refine bH.gb hI (v:=.string (bs.extract ll hh)) ?_ (.d _ _ _ ?_) hk
      ·simp[execOp,ho,Instr.sliceAt,run_underlying hu,Instr.slice,hv,hb.1,e2]
      ·have:(bs.extract ll hh).data.toList =(s.take hh).drop ll:=by
        rw[hs,ByteArray.data_extract,Array.toList_extract,List.extract_eq_drop_take']
       rw[←this]
       refine .str _ ?_
       have:(bs.extract ll hh).size ≤bs.size:=by rw[ByteArray.size_extract];omega
       omega
     ·cases hl
    ·cases hl
   ·cases hr
  ·cases hr
 ·
  rename_i e' hu
  split at hr
  ·rename_i kk sz L s hL hs
   have hd:=hx.dA hL
   split at hr
   ·
    rename_i rr Qm
    obtain⟨hh,ll,h1,h2,rfl⟩:=Us Qm
    have e2:mx.map a.eval=none:=by generalize mx.map a.eval=q at zt;cases zt;rfl
    split at hr
    ·cases hr
     generalize hv:a.eval x=u at hd
     cases hd
     have hb:=Jd (P:=P) (w:=w) true (Nat.le_refl 0) sR vu h1 h2
     have zu:ll=0:=by have:=hb.2;simp at this;omega
     have A3:hh=0:=by have:=hb.2;simp at this;omega
     subst zu A3
     refine bH.gb hI (v:=.slice none 0 0) ?_ (.d _ _ _ (.jU _)) hk
     simp[execOp,ho,Instr.sliceAt,run_underlying hu,Instr.slice,hv,hb.1,e2,j9 hs]
    ·split at hr
     ·rename_i aM
      cases hr
      subst aM
      generalize hv:a.eval x=u at hd
      have kG:=hd
      cases hd with
      |mr _ ad cap ha=>
       have hb:=Jd (P:=P) (w:=w) true (Nat.zero_le cap) sR vu h1 h2
       have zu:ll=0:=by have:=hb.2;simp at this;omega
       have A3:hh=0:=by have:=hb.2;simp at this;omega
       subst zu A3
       refine bH.gb hI (v:=.slice (some ad) 0 cap) ?_ (.d _ _ _ (.mr _ ad cap ha)) hk
       simp only[execOp,ho,Instr.sliceAt,Sem.run_bind,run_underlying hu,Result.andThen_ok,Instr.slice,hv,e2,hb.1,j9 hs]
       by_cases dv:cap=0
       ·simp[dv]
       ·simp[dv]
        rfl
      |sl _ _ b off cap vs bM hm _ hf aR hc=>
       have hb:=Jd (P:=P) (w:=w) true bM sR vu h1 h2
       refine bH.gb hI (v:=.slice (some (if cap=ll then⟨b,off,none⟩else⟨b,off+ll*sz,none⟩)) (hh-ll) (cap-ll)) ?_ (.d _ _ _ ?_) hk
       ·have:=pB b off (ll*sz)
        simp only[execOp,ho,Instr.sliceAt,Sem.run_bind,run_underlying hu,Result.andThen_ok,Instr.slice,hv,e2,hb.1,j9 hs]
        by_cases dv:cap=ll
        ·simp[dv]
        ·simp[dv,this]
       ·by_cases dv:cap=ll
        ·have hhl:hh=ll:=by omega
         have LJ:ll=L.length:=by omega
         simp only[dv,↓reduceIte]
         have e0:(L.take hh).drop ll=[]:=List.drop_eq_nil_of_le (by simp;omega)
         rw[e0]
         have:=bh.sl (w:=w) (St:=g.St) sz [] b off (ll-ll) vs (by simp) (by simp) (by simp) (by simp) (by simp) (by simp)
         simpa[hhl]using this
        ·simp only[dv,↓reduceIte]
         exact WU kG hb.2.1 hb.2.2 (by omega)
     ·cases hr
   ·
    rename_i rr m Qm
    obtain⟨hh,ll,h1,h2,rfl⟩:=Us Qm
    split at hr
    ·rename_i zw mm pW
     split at hr
     ·rename_i k1 av k2 bv
      split at hr
      ·rename_i LK
       simp only[B7]at h1
       have Rp:hh=mm:=by
        obtain⟨_,i1,q1,_,_,q2⟩:=tu h1
        obtain⟨_,i2,q3,_,_,q4⟩:=tu pW
        cases q1;cases q3;rw[q2,q4,LK]
       generalize LM:hi.map a.eval=qh at vu
       generalize LN:mx.map a.eval=qm at zt
       cases vu with
       |some _ vh rh=>
        cases zt with
        |some _ vm rm=>
         split at hr
         ·cases hr
          generalize hv:a.eval x=u at hd
          cases hd
          have hb:=Nh (P:=P) (w:=w) (Nat.le_refl 0) sR rh rm pW h1 Rp h2
          have zu:ll=0:=by have:=hb.2;simp at this;omega
          have A3:hh=0:=by have:=hb.2;simp at this;omega
          subst zu A3
          refine bH.gb hI (v:=.slice none 0 0) ?_ (.d _ _ _ (.jU _)) hk
          simp[execOp,ho,Instr.sliceAt,run_underlying hu,Instr.slice,hv,hb.1,LM,LN,j9 hs]
         ·split at hr
          ·rename_i aM
           cases hr
           subst aM
           generalize hv:a.eval x=u at hd
           have kG:=hd
           cases hd with
           |mr _ ad cap ha=>
            have hb:=Nh (P:=P) (w:=w) (Nat.zero_le cap) sR rh rm pW h1 Rp h2
            have zu:ll=0:=by have:=hb.2;simp at this;omega
            have A3:hh=0:=by have:=hb.2;simp at this;omega
            subst zu A3
            refine bH.gb hI (v:=.slice (some ad) 0 0) ?_ ?_ hk
            ·simp[execOp,ho,Instr.sliceAt,run_underlying hu,Instr.slice,hv,hb.1,LM,LN,j9 hs]
            ·exact .full _ sz [] ad (.mr sz ad 0 ha)
           |sl _ _ b off cap vs bM hm _ hf aR hc=>
            have hb:=Nh (P:=P) (w:=w) bM sR rh rm pW h1 Rp h2
            have hlen:((L.take hh).drop ll).length =hh-ll:=by simp;omega
            by_cases dv:hh=ll
            ·subst dv
             have e0:(L.take hh).drop hh=[]:=List.drop_eq_nil_of_le (by simp;omega)
             rw[e0]at hk
             refine bH.gb hI (v:=.slice (some ⟨b,off,none⟩) 0 0) ?_ ?_ hk
             ·simp[execOp,ho,Instr.sliceAt,run_underlying hu,Instr.slice,hv,hb.1,LM,LN,j9 hs]
             ·exact .full _ sz [] ⟨b,off,none⟩ (bh.sl sz [] b off 0 vs (by simp) (by simp) (by simp) (by simp) (by simp) (by simp))
            ·refine bH.gb hI (v:=.slice (some ⟨b,off+ll*sz,none⟩) (hh-ll) (hh-ll)) ?_ ?_ hk
             ·have:=pB b off (ll*sz)
              simp[execOp,ho,Instr.sliceAt,run_underlying hu,Instr.slice,hv,hb.1,LM,LN,j9 hs,dv,this]
             ·have:=WU (c':=hh-ll) kG hb.2.1 hb.2.2 (Nat.le_refl _)
              rw[←hlen]at this ⊢
              exact .full _ sz _ _ this
          ·cases hr
      ·cases hr
     ·cases hr
    ·cases hr
   ·cases hr
  ·cases hr
 ·cases hr
end
end Go.Proofs.Ytimbllcalipehaa.Ab
