/-
  THE ABSTRACT WALK, definitions: data trees, slot values, and an abstract weakest precondition over the model's code.
-/
import Derived.Orders
import Derived.Still
import Derived.Below
import Derived.KernelRfl
import Derived.Laws.AppendOwn
import Derived.Laws.Build
import Derived.Laws.Sem
import Derived.WalkKit
import Derived.Laws.StructEq
import Derived.ChangeKeysEq
set_option linter.unusedVariables false
set_option linter.unusedSimpArgs false
namespace Go.Proofs.Ytimbllcalipehaa.Ab
open Go
inductive SK where
 |nil|ro
 deriving DecidableEq
inductive D where
 |bool (b:Bool)
 |int (k:IntKind) (n:Int)
 |str (s:List UInt8)
 |agg (cs:List D)
 |sl (k:SK) (sz:Nat) (L:List D)
 |fn (f:Fn)
 |qZ
 |iface (t:TypeId) (x:D)
 |rb
 |my
def fm(k:IntKind)(n:Int):Bool:=decide (k.min≤n)&&decide (n≤k.max)
def D.cells:D→List D
 | .agg cs=>cs
 |x=>[x]
mutual
def D.Wf:D→Prop
 | .int k n=>fm k n=true
 | .str s=>s.length≤maxLen
 | .agg cs=>D.fo cs
 | .sl k sz L=>L.length≤maxLen∧(k=.nil →L=[])∧(∀x∈L,x.cells.length=sz)∧D.fo L
 | .iface _ x=>x.Wf
 |_=>True
def D.fo:List D→Prop
 |[]=>True
 |x::l=>x.Wf∧D.fo l
end
inductive KS where
 |bool (b:Bool)
 |int (k:IntKind) (n:Int)
 |str (s:List UInt8)
 deriving DecidableEq
inductive MK where
 |i (n:Int)
 |s (l:List KS)
 deriving DecidableEq
inductive SV where
 |d (x:D)
 |own (sz:Nat) (L:List D)
 |full (sz:Nat) (L:List D)
 |bt (sz:Nat) (L:List D)
 |ref (cs:List SV) (off:Nat)
 |cM (n sz:Nat) (cs:List SV)
 |aS (x:D) (off:Nat)
 |cS (f:Fn) (first cap:List SV)
 |aK (vs:List SV)
 |mp (l:List (MK×D))
 |undef
def aa:SV→SV
 | .own sz L=>.d (.sl .ro sz L)
 | .bt _ _=>.undef
 |x=>x
inductive Slot where
 |v (x:SV)
 |p (b off:Nat)
 |c (f:Fn) (first cap:List Slot)
 |t (vs:List SV)
 |a (b n sz:Nat)
 |m (b:Nat)
def Slot.aa:Slot→Slot
 | .v x=>.v (Ab.aa x)
 | .t vs=>.t (vs.map Ab.aa)
 |s=>s
inductive af where
 |none
 |cells (cs:List SV)
 |one (s:Slot)
 |map (l:List (MK×D))
structure Env where
 ai:List Slot
 boxes:List af
def xj:Value→Option D
 | .bool b=>some (.bool b)
 | .int k n=>bif fm k n then some (.int k n)else none
 | .string s=>bif Nat.ble s.size maxLen then some (.str s.data.toList)else none
 | .slice none 0 0=>some (.sl .nil 0 [])
 | .pointer none=>some .my
 | .nilFunc =>some .qZ
 | .nilIface =>some .rb
 | .func f first captured=>bif first.isEmpty&&captured.isEmpty then some (.fn f)else none
 |_=>none
def xc:List Value→Option (List D)
 |[]=>some []
 |v::l=>match xj v with
  |some x=>(match xc l with|some r=>some (x::r)|none=>none)
  |none=>none
def ED:Value→Option D
 | .agg cs=>match xc cs.toList with
   |some l=>some (.agg l)
   |none=>none
 |v=>xj v
def ab{α:Type}(o:Option α)(k:α→Prop):Prop:=match o with|some x=>k x|none=>False
def aq(x:SV)(A B:Prop):Prop:=match x with
 | .d (.bool c)=>cond c A B
 |_=>False
section
variable(P:Program)(gl:Nat→Option D)
def dm(t:TypeId):Option Bool:=match P.underlying t with
 |some (.struct _)|some (.array _ _)=>some true
 |some _=>some false
 |none=>none
def js(t:TypeId):Option (Bool×Nat):=match dm P t with
 |some b=>(match P.info? t with|some i=>bif b||Nat.beq i.size 1 then some (b,i.size)else none|none=>none)
 |none=>none
def dF(t:TypeId):Option Nat:=match P.info? t with
 |some i=>some i.size
 |none=>none
def mn(t:TypeId):Option (List D):=match P.info? t with
 |some i=>(match i.zero with|some z=>xc z.cells.toList|none=>none)
 |none=>none
def HI(t:TypeId):Option (List SV):=match mn P t with
 |some z=>some (z.map .d)
 |none=>(match P.info? t with
  |some i=>(match i.zero with|some z=>bif z.cells.toList.all Value.oneCell' then some (List.replicate z.cells.toList.length .undef)else none|none=>none)
  |none=>none)
def aQ(e:Env):Operand→Slot
 | .tmp t=>e.ai.getD t (.v .undef)
 | .const v=>(match ED v with|some x=>.v (.d x)|none=>.v .undef)
 | .func f=>.v (.d (.fn (.func f)))
 | .global g=>(match gl g with|some x=>.v (.aS x 0)|none=>.v .undef)
def iq(op:BinOp)(k:IntKind)(x y:Int):Option D:=
 match op with
 | .add =>some (.int k (k.wrap (x+y)))
 | .sub =>some (.int k (k.wrap (x-y)))
 | .mul =>some (.int k (k.wrap (x*y)))
 | .quo =>if y=0 then none else some (.int k (k.wrap (x.tdiv y)))
 | .rem =>if y=0 then none else some (.int k (x.tmod y))
 | .and =>some (.int k (k.wrap (BitVec.ofInt k.bits x&&& BitVec.ofInt k.bits y).toNat))
 | .or =>some (.int k (k.wrap (BitVec.ofInt k.bits x|||BitVec.ofInt k.bits y).toNat))
 | .xor =>some (.int k (k.wrap (BitVec.ofInt k.bits x^^^BitVec.ofInt k.bits y).toNat))
 | .andNot =>some (.int k (k.wrap (BitVec.ofInt k.bits x&&& ~~~ BitVec.ofInt k.bits y).toNat))
 | .eql =>some (.bool (x==y))
 | .neq =>some (.bool (x != y))
 | .lss =>some (.bool (decide (x<y)))
 | .leq =>some (.bool (decide (x≤y)))
 | .gtr =>some (.bool (decide (x>y)))
 | .geq =>some (.bool (decide (x≥y)))
 |_=>none
def Bt(op:BinOp)(k:IntKind)(x y:Int):Option D:=
 if y<0 then none else
 match op with
 | .shl =>some (.int k (k.wrap (x*2^(min y.toNat k.bits))))
 | .shr =>some (.int k (x.fdiv (2^(min y.toNat k.bits))))
 |_=>none
def xd:List UInt8→List UInt8→Bool
 |_,[]=>false
 |[],_::_=>true
 |a::x,b::y=>a<b||(a==b&&xd x y)
def BF(op:BinOp)(x y:List UInt8):Option D:=
 match op with
 | .add =>if x.length+y.length≤maxLen then some (.str (x++y))else none
 | .eql =>some (.bool (x==y))
 | .neq =>some (.bool (!(x==y)))
 | .lss =>some (.bool (xd x y))
 | .leq =>some (.bool (xd x y||x==y))
 | .gtr =>some (.bool (!(xd x y||x==y)))
 | .geq =>some (.bool (!xd x y))
 |_=>none
def kO:D→D→Option Bool
 | .bool a,.bool b=>some (a==b)
 | .int k a,.int k' b=>if k=k' then some (a==b)else none
 | .str a,.str b=>some (a==b)
 |_,_=>none
def eV:List D→List D→Option Bool
 |[],[]=>some true
 |x::l,y::m=>match kO x y with
  |some b=>(match eV l m with|some c=>some (b&&c)|none=>none)
  |none=>none
 |_,_=>none
inductive CK where
 |bool|int|str
def dv:List CK→List D→Bool
 |[],[]=>true
 | .bool ::l,.bool _::m=>dv l m
 | .int ::l,.int _ _::m=>dv l m
 | .str ::l,.str _::m=>dv l m
 |_,_=>false
def vd{α:Type}(l:List α):Nat→List α
 |0=>[]
 |n+1=>l++vd l n
def yW(go:TypeId→Option (List CK)):List Field→Nat→Option (List CK)
 |[],_=>some []
 |f::l,off=>match go f.type with
  |some ks=>bif f.name != "_" &&Nat.beq f.offset off then(match yW go l (off+ks.length)with|some r=>some (ks++r)|none=>none)else none
  |none=>none
def shapeOf:(fuel:Nat)→TypeId→Option (List CK)
 |0,_=>none
 |f+1,t=>match P.underlying t with
  |some .bool =>(match dF P t with|some 1=>some [.bool]|_=>none)
  |some (.int _)=>(match dF P t with|some 1=>some [.int]|_=>none)
  |some .string =>(match dF P t with|some 1=>some [.str]|_=>none)
  |some (.array n e)=>(match shapeOf f e with
   |some ks=>(match dF P t with|some s=>bif Nat.beq s (n*ks.length)then some (vd ks n)else none|none=>none)
   |none=>none)
  |some (.struct fs)=>bif P.stoodInHeld t then none else(match yW (shapeOf f) fs.toList 0 with
   |some ks=>(match dF P t with|some s=>bif Nat.beq s ks.length then some ks else none|none=>none)
   |none=>none)
  |_=>none
def Bu(op:BinOp)(t:TypeId):Option (Bool×List CK):=match op with
 | .eql | .neq =>bif P.eqGuardType P.depth t then none else(match shapeOf P 20 t with
   |some ks=>(match dm P t with|some b=>some (b,ks)|none=>none)
   |none=>(match P.underlying t with|some (.slice _)=>some (false,[])|_=>none))
 |_=>none
end
section
def eW(sh:Option (Bool×List CK))(op:BinOp)(x y:D):Option D:=
 match x,y with
 | .int k a,.int k' b=>
   (match op with
    | .shl | .shr =>Bt op k a b
    |_=>if k=k' then iq op k a b else none)
 | .str a,.str b=>BF op a b
 | .bool a,.bool b=>(match sh with
   |some (false,[.bool])=>(match op with
    | .eql =>some (.bool (a==b))| .neq =>some (.bool (!(a==b)))|_=>none)
   |_=>none)
 | .agg a,.agg b=>(match sh with
   |some (true,ks)=>bif dv ks a&&dv ks b then(match op with
    | .eql =>(match eV a b with|some c=>some (.bool c)|none=>none)
    | .neq =>(match eV a b with|some c=>some (.bool (!c))|none=>none)
    |_=>none)else none
   |_=>none)
 | .sl a _ _,.sl .nil _ _=>(match sh with
   |some (false,[])=>(match op with
    | .eql =>some (.bool (decide (a=.nil)))
    | .neq =>some (.bool (!decide (a=.nil)))
    |_=>none)
   |_=>none)
 |_,_=>none
def ah(sh:Option (Bool×List CK))(op:BinOp):SV→SV→Option SV
 | .d x,.d y=>(match eW sh op x y with|some r=>some (.d r)|none=>none)
 |_,_=>none
def eY(op:UnOp):SV→Option SV
 | .d (.bool b)=>(match op with| .not =>some (.d (.bool (!b)))|_=>none)
 | .d (.int k n)=>(match op with
   | .neg =>some (.d (.int k (k.wrap (0-n))))
   | .xor =>some (.d (.int k (k.wrap (BitVec.ofInt k.bits (if k.signed then-1 else k.max)^^^BitVec.ofInt k.bits n).toNat)))
   |_=>none)
 |_=>none
end
section
variable(P:Program)(gl:Nat→Option D)
def I1(dst:TypeId):SV→Option SV
 | .d (.int _ n)=>(match P.underlying dst with|some (.int k)=>some (.d (.int k (k.wrap n)))|_=>none)
 | .d (.str s)=>(match P.underlying dst with|some .string =>some (.d (.str s))|_=>none)
 |_=>none
def bF:SV→Option D
 | .d x=>some x
 | .own sz L=>some (.sl .ro sz L)
 | .full sz L=>some (.sl .ro sz L)
 |_=>none
def cW:List SV→Option (List D)
 |[]=>some []
 |v::l=>match bF v with
  |some x=>(match cW l with|some r=>some (x::r)|none=>none)
  |none=>none
def elems(sz:Nat):SV→Option (List D)
 | .d (.sl k s L)=>(match k with| .nil =>some []| .ro =>if s=sz then some L else none)
 | .own s L=>if s=sz then some L else none
 | .full s L=>if s=sz then some L else none
 |_=>none
def Bf:SV→Option (List D)
 | .d (.sl _ _ L)=>some L
 | .own _ L=>some L
 | .full _ L=>some L
 |_=>none
def nC(agg:Bool)(sz off:Nat)(cs:List D):Option D:=
 bif agg then(if off+sz≤cs.length then some (.agg ((cs.drop off).take sz))else none)else cs[off]?
def ag(agg:Bool)(sz off:Nat)(cs:List SV):Option SV:=
 bif agg then(if off+sz≤cs.length then(match cW ((cs.drop off).take sz)with|some l=>some (.d (.agg l))|none=>none)else none)else cs[off]?
def cH(x:SV)(n:Nat):Option Nat:=match x with
 | .d (.int _ i)=>if 0≤i∧i<n then some i.toNat else none
 |_=>none
def Jy(t:TypeId)(x:SV):Option SV:=match P.underlying t with
 |some .string =>(match x with| .d (.str s)=>some (.d (.int .i64 s.length))|_=>none)
 |some (.array n _)=>bif Nat.ble n maxLen then some (.d (.int .i64 n))else none
 |some (.slice _)=>(match x with| .cM n _ _=>some (.d (.int .i64 n))|x=>(match Bf x with|some L=>some (.d (.int .i64 L.length))|none=>none))
 |_=>none
def setAt(cs:List SV)(off:Nat):List SV→List SV
 |[]=>cs
 |v::l=>setAt (cs.set off v) (off+1) l
def ay(x:SV):Option (List SV):=match x with
 | .d y=>some (y.cells.map .d)
 | .aK _=>none
 | .undef =>none
 |v=>some [v]
def re(place:Nat→Option (Nat×Nat))(cells:List D):List (Nat×D)→Option (List D)
 |[]=>some cells
 |(i,v)::rest=>match place i with
  |none=>none
  |some (off,sz)=>if v.cells.length=sz∧off+sz≤cells.length then re place (cells.take off++v.cells++cells.drop (off+sz)) rest else none
def mz(ρ:Operand→Slot):List (Nat×Operand)→Option (List (Nat×D))
 |[]=>some []
 |(i,x)::l=>match ρ x with
  | .v y=>(match bF y with
    |some z=>(match mz ρ l with|some r=>some ((i,z)::r)|none=>none)
    |none=>none)
  |_=>none
def Bv:List Field→Option (List (Nat×Nat))
 |[]=>some []
 |f::l=>match dF P f.type with
  |some s=>(match Bv l with|some r=>some ((f.offset,s)::r)|none=>none)
  |none=>none
def MX(t:TypeId):Option (Nat→Option (Nat×Nat)):=match P.underlying t with
 |some (.struct fs)=>(match Bv P fs.toList with|some l=>some fun i=>l[i]? |none=>none)
 |some (.array _ e)=>(match dF P e with|some s=>some fun i=>some (i*s,s)|none=>none)
 |_=>none
def cY(t:TypeId)(ps:List (Nat×D)):Option D:=match mn P t with
 |some z=>(match MX P t with
  |some pl=>(match re pl z ps with|some cs=>some (.agg cs)|none=>none)
  |none=>none)
 |none=>none
def bD(agg:Bool)(cs:List D):D:=bif agg then .agg cs else(match cs with|[x]=>x|_=>.agg cs)
def oq(i:Nat):List (Nat×D)→Option D
 |[]=>none
 |(j,x)::l=>match oq i l with|some y=>some y|none=>bif i==j then some x else none
def bu(zero:D)(ps:List (Nat×D)):Nat→Nat→List D
 |0,_=>[]
 |n+1,i=>(match oq i ps with|some x=>x|none=>zero)::bu zero ps n (i+1)
def bq(sz n:Nat):List (Nat×D)→Bool
 |[]=>true
 |(i,x)::l=>Nat.blt i n&&Nat.beq x.cells.length sz&&bq sz n l
def ij(f:Slot→SV):List Slot→List SV
 |[]=>[]
 |s::l=>f s::ij f l
def snap(ax:List af):(fuel:Nat)→Slot→SV
 |0,_=>.undef
 |n+1,s=>match s with
  | .v x=>Ab.aa x
  | .p b off=>(match ax[b]? with
    |some (.cells cs)=>.ref (cs.map Ab.aa) off
    |some (.one s')=>.ref [snap ax n s'] off
    |_=>.undef)
  | .c f first cap=>.cS f (ij (snap ax n) first) (ij (snap ax n) cap)
  | .a b m sz=>(match ax[b]? with
    |some (.cells cs)=>.cM m sz (cs.map Ab.aa)
    |_=>.undef)
  |_=>.undef
def Slot.bJ:Slot→SV
 | .v x=>x
 |_=>.undef
end
abbrev bj:=FuncId→List SV→SV→Prop
section
variable(P:Program)(gl:Nat→Option D)(C:bj)
def ri:SV→Bool| .aK _=>true|_=>false
def aN(f:FuncId)(args:List SV)(k:SV→Prop):Prop:=∃r,C f args r∧ri r=false∧k r
def v8:Nat→(List SV→Prop)→Prop
 |0,k=>k []
 |n+1,k=>∃r,v8 n fun l=>k (r::l)
def acH(f:FuncId)(n:Nat)(args:List SV)(k:List SV→Prop):Prop:=v8 n fun rs=>C f args (.aK rs)∧k rs
def withFn(x:SV)(args:List SV)(k:FuncId→List SV→Prop):Prop:=match x with
 | .d (.fn (.func f))=>k f args
 | .cS (.func f) first cap=>k f (first++args++cap)
 |_=>False
def zO(t:TypeId)(name:String):Option FuncId:=match P.info? t with
 |some i=>(match i.methods.find? (fun m=>m.name==name)with
  |some m=>(match m.path.toList,m.func with
   |[],some (f,false)=>(match P.underlying t with
    |some (.pointer _)=>none
    |some _=>some f
    |none=>none)
   |_,_=>none)
  |none=>none)
 |none=>none
def I7(x:SV)(name:String):Option FuncId:=match x with
 | .d (.iface t _)=>zO P t name
 |_=>none
def u6(x:SV)(name:String)(args:List SV)(k:FuncId→List SV→Prop):Prop:=match x with
 | .d (.iface t y)=>ab (zO P t name) fun f=>k f (.d y::args)
 |_=>False
def arity(t:TypeId):Nat:=match P.underlying t with
 |some (.tuple ts)=>ts.size
 |_=>1
def mE(n:Nat)(ax:List af)(k:Slot→List af→Prop)(f:FuncId)(args:List SV):Prop:=
 match n with
 |1=>aN C f args fun r=>k (.v r) ax
 |n=>acH C f n args fun rs=>k (.t rs) ax
def gE(ax:List af)(ρ:Operand→Slot):List Operand→List SV
 |[]=>[]
 |x::l=>snap ax 6 (ρ x)::gE ax ρ l
def gp:Nat:=1048577
def jt(sz:Nat)(x y:SV):Option (SV×Nat):=
 match elems sz y with
 |none=>none
 |some M=>match x with
  | .own s L=>if s=sz then some (.own sz (L++M),L.length+M.length)else none
  | .full s L=>if s=sz then(if M=[]then some (.full sz L,L.length)else some (.own sz (L++M),L.length+M.length))else none
  | .d (.sl .nil s _)=>if M=[]then some (x,0)else some (bif Nat.beq s gp then .bt sz M else .own sz M,M.length)
  | .bt s L=>if s=sz then some (.bt sz (L++M),L.length+M.length)else none
  |_=>none
def ck(sz bytes:Nat)(x y:SV)(k:SV→Prop):Prop:=
 ab (jt sz x y) fun r=>r.2*bytes≤140737488355328∧k r.1
def oz(agg:Bool)(sz b off:Nat)(ax:List af)(k:Slot→List af→Prop):Prop:=
 match ax[b]? with
 |some (.cells cs)=>ab (ag agg sz off cs) fun x=>k (.v (Ab.aa x)) ax
 |some (.one s)=>bif agg then False else(match off with|0=>k s.aa ax|_=>False)
 |_=>False
def aM(agg:Bool)(sz:Nat)(x:SV):Option SV:=match x with
 | .aS y off=>(match nC agg sz off y.cells with|some z=>some (.d z)|none=>none)
 | .ref cs off=>(match ag agg sz off cs with|some z=>some (Ab.aa z)|none=>none)
 |_=>none
def qH(sz b off:Nat)(x:Slot)(ax:List af)(k:List af→Prop):Prop:=
 match ax[b]? with
 |some (.cells cs)=>(match x with
  | .v y=>ab (ay y) fun l=>l.length=sz∧off+sz≤cs.length∧k (ax.set b (.cells (setAt cs off l)))
  | .t _=>False
  |s=>(match sz,off,cs with|1,0,[_]=>k (ax.set b (.one s))|_,_,_=>False))
 |some (.one _)=>(match sz,off with
  |1,0=>(match x with
   | .v y=>ab (ay y) fun l=>l.length=1∧k (ax.set b (.cells l))
   | .t _=>False
   |s=>k (ax.set b (.one s)))
  |_,_=>False)
 |_=>False
def cV(x:SV)(n:Nat):Option SV:=match x with
 | .aS y off=>some (.aS y (off+n))
 | .ref cs off=>some (.ref cs (off+n))
 |_=>none
def bc(sz:Nat)(x i:SV):Option SV:=match x with
 | .cM n s cs=>(match cH i n with|some j=>if s=sz then some (.ref cs (j*sz))else none|none=>none)
 |x=>match elems sz x with
 |some L=>(match cH i L.length with
  |some n=>(match L[n]? with|some y=>some (.aS y 0)|none=>none)
  |none=>none)
 |none=>none
def xB(n:Nat):Option SV→Option Nat
 |some h=>cH h (n+1)
 |none=>some n
def tB(h:Nat):Option SV→Option Nat
 |some l=>cH l (h+1)
 |none=>some 0
def BR(L:List D)(lo hi:Option SV):Option (List D):=
 match xB L.length hi with
 |some h=>(match tB h lo with
  |some l=>some ((L.take h).drop l)
  |none=>none)
 |none=>none
def Qf(L:List UInt8)(lo hi:Option SV):Option (List UInt8):=
 match xB L.length hi with
 |some h=>(match tB h lo with
  |some l=>some ((L.take h).drop l)
  |none=>none)
 |none=>none
def Iv(t:TypeId)(x:SV)(lo hi mx:Option SV):Option SV:=
 match P.underlying t with
 |some .string =>(match x,mx with
  | .d (.str s),none=>(match Qf s lo hi with|some r=>some (.d (.str r))|none=>none)
  |_,_=>none)
 |some (.slice e)=>(match bF x,dF P e with
  |some (.sl k sz L),some s=>(match BR L lo hi,mx with
   |some r,none=>(match k with| .nil =>some (.d (.sl .nil s []))| .ro =>if sz=s then some (.d (.sl .ro sz r))else none)
   |some r,some m=>(match hi,cH m (L.length+1)with
    |some h,some _=>(match h,m with
     | .d (.int _ a),.d (.int _ b)=>if a=b then(match k with| .nil =>some (.d (.sl .nil s []))| .ro =>if sz=s then some (.full sz r)else none)else none
     |_,_=>none)
    |_,_=>none)
   |none,_=>none)
  |_,_=>none)
 |_=>none
def nG(ρ:Operand→Slot):Option Operand→Option SV
 |some x=>some (ρ x).bJ
 |none=>none
def minD(a b:Int):Int:=if b<a then b else a
def maxD(a b:Int):Int:=if b>a then b else a
def wZ(f:Int→Int→Int):SV→List SV→Option SV
 | .d (.int k a),[]=>some (.d (.int k a))
 | .d (.int k a),.d (.int k' b)::l=>if k=k' then wZ f (.d (.int k (f a b))) l else none
 |_,_=>none
def j8(x:SV):Option SV:=match x with
 | .aS y o=>some (.aS y o)
 | .ref cs o=>some (.ref cs o)
 | .cS f a b=>(match f with| .func n=>some (.cS (.func n) a b)|_=>none)
 | .d (.fn f)=>(match f with| .func n=>some (.d (.fn (.func n)))|_=>none)
 |_=>none
def Iw(agg:Bool)(sz n:Nat)(x i:SV):Option SV:=match x with
 | .d (.agg cs)=>(match cH i n with
   |some j=>(match nC agg sz (j*sz) cs with|some r=>some (.d r)|none=>none)
   |none=>none)
 |_=>none
def I8(x i:SV):Option SV:=match x with
 | .d (.str s)=>(match cH i s.length with
   |some j=>(match s[j]? with|some b=>some (.d (.int .u8 b.toNat))|none=>none)
   |none=>none)
 |_=>none
def s4(agg:Bool)(sz off:Nat)(x:SV):Option SV:=match x with
 | .d (.agg cs)=>(match nC agg sz off cs with|some r=>some (.d r)|none=>none)
 |_=>none
def Ix(t:TypeId)(x:SV):Option SV:=match bF x with
 |some y=>some (.d (.iface t y))
 |none=>none
def u7(t:TypeId):Option Nat:=match P.info? t with
 |some i=>some i.bytes
 |none=>none
def mu(t:TypeId):Option TypeId:=match P.underlying t with
 |some (.slice e)=>some e
 |_=>none
def zf(t:TypeId)(i:Nat):Option Field:=match P.underlying t with
 |some (.struct fs)=>fs.toList[i]?
 |_=>none
def isSlice(t:TypeId):Bool:=match P.underlying t with
 |some (.slice _)=>true
 |_=>false
def isIface(t:TypeId):Bool:=match P.underlying t with
 |some (.interface _)=>true
 |none=>true
 |_=>false
def KS.same:KS→KS→Bool
 | .bool _,.bool _=>true
 | .int k _,.int k' _=>decide (k=k')
 | .str _,.str _=>true
 |_,_=>false
def KS.iJ:List KS→List KS→Bool
 |[],[]=>true
 |x::l,y::m=>x.same y&&KS.iJ l m
 |_,_=>false
def MK.same:MK→MK→Bool
 | .i _,.i _=>true
 | .s a,.s b=>KS.iJ a b
 |_,_=>false
def qQ(l:List (MK×D))(n:MK):Bool:=l.all fun x=>n.same x.1
def jL:List (MK×D)→MK→Option D
 |[],_=>none
 |x::l,n=>if n=x.1 then some x.2 else jL l n
def rA:List CK→List D→Option (List KS)
 |[],[]=>some []
 | .bool ::l,.bool b::m=>(match rA l m with|some r=>some (.bool b::r)|none=>none)
 | .int ::l,.int k n::m=>(match rA l m with|some r=>some (.int k n::r)|none=>none)
 | .str ::l,.str s::m=>(match rA l m with|some r=>some (.str s::r)|none=>none)
 |_,_=>none
def jO(kd:Option (List CK))(x:SV):Option MK:=match kd with
 |none=>(match x with| .d (.int .i64 n)=>some (.i n)|_=>none)
 |some ks=>(match x with| .d (.agg cs)=>(match rA ks cs with|some l=>some (.s l)|none=>none)|_=>none)
def pH(kd:Option (List CK))(z:D)(m key:SV):Option (D×Bool):=match m with
 | .mp l=>(match jO kd key with
   |some n=>bif qQ l n then(match jL l n with|some d=>some (d,true)|none=>some (z,false))else none
   |none=>none)
 |_=>none
def BS:List Field→Bool
 |[]=>true
 |f::l=>(match P.underlying f.type with|some .bool =>true|some (.int _)=>true|some .string =>true|_=>false)&&BS l
def zB(t:TypeId):Option (TypeId×Option (List CK)):=match P.underlying t with
 |some (.map kt et)=>(match P.underlying kt with
  |some (.int _)=>some (et,none)
  |some (.struct fs)=>(match shapeOf P 20 kt with
   |some ks=>bif BS P fs.toList then some (et,some ks)else none
   |none=>none)
  |_=>none)
 |_=>none
def tn(ax:List af):Slot→SV
 | .m b=>(match ax[b]? with
   |some (.map l)=>.mp l
   |_=>.undef)
 |s=>s.bJ
def jP:List (MK×D)→MK→D→List (MK×D)
 |[],n,d=>[(n,d)]
 |x::l,n,d=>if n=x.1 then(n,d)::l else x::jP l n d
def mI(l:List (MK×D))(n:MK)(d:D):Option (List (MK×D)):=bif qQ l n then some (jP l n d)else none
def lenOf:SV→SV→Option Nat
 | .d (.int k a),.d (.int k' b)=>if k=k'∧a=b∧0≤a then some a.toNat else none
 |_,_=>none
def qR(t:TypeId):Option D:=match P.info? t with
 |some i=>(match i.zero with|some z=>xj z|none=>none)
 |none=>none
def cJ(id:Nat)(o:Oper)(ρ:Operand→Slot)(ax:List af)(k:Slot→List af→Prop):Prop:=
 match o.op with
 | .move x| .assign x=>k (ρ x) ax
 | .pick c a b=>(match ρ c with
   | .v x=>aq x (k (ρ a) ax) (k (ρ b) ax)
   |_=>False)
 | .alloc t=>(match ax[id]? with
   |some .none =>ab (HI P t) fun z=>k (.p id 0) (ax.set id (.cells z))
   |_=>False)
 | .box t x=>(match ax[id]? with
   |some .none =>ab (dF P t) fun sz=>(match ρ x with
    | .v y=>ab (ay y) fun l=>l.length=sz∧k (.p id 0) (ax.set id (.cells l))
    | .t _=>False
    |s=>(match sz with|1=>k (.p id 0) (ax.set id (.one s))|_=>False))
   |_=>False)
 | .build t ps=>ab (mz ρ ps.toList) fun l=>ab (cY P t l) fun r=>k (.v (.d r)) ax
 | .buildSlice t n ps=>ab (mu P t) fun e=>ab (js P e) fun ly=>ab (mn P e) fun z=>ab (mz ρ ps.toList) fun l=>
    bif Nat.ble (n*ly.2) (2^24)&&Nat.blt 0 ly.2&&Nat.beq z.length ly.2 then(bq ly.2 n l=true∧k (.v (.full ly.2 (bu (bD ly.1 z) l n 0))) ax)else False
 | .load t a=>ab (js P t) fun ly=>(match ρ a with
   | .p b off=>oz ly.1 ly.2 b off ax k
   | .v x=>ab (aM ly.1 ly.2 x) fun y=>k (.v y) ax
   |_=>False)
 | .store t a x=>ab (dF P t) fun sz=>(match ρ a with
   | .p b off=>(match o.dst with|none=>qH sz b off (ρ x) ax fun cP=>k (.t []) cP|some _=>False)
   |_=>False)
 | .nilCheck x=>(match ρ x with
   | .v y=>ab (j8 y) fun z=>k (.v z) ax
   | .t _=>False
   | .c f first cap=>(match f with
     | .func _=>k (.c f first cap) ax
     | .method name=>(match first with
       | .v y::_=>ab (I7 P y name) fun _=>k (.c f first cap) ax
       |_=>False)
     |_=>False)
   | .p b off=>k (.p b off) ax
   |_=>False)
 | .binOp op t x y _=>ab (ah (Bu P op t) op (ρ x).bJ (ρ y).bJ) fun r=>k (.v r) ax
 | .unOp op _ x=>ab (eY op (ρ x).bJ) fun r=>k (.v r) ax
 | .convert src dst x=>bif (P.underlying src).isSome then(ab (I1 P dst (ρ x).bJ) fun r=>k (.v r) ax)else False
 | .makeInterface t x=>bif isIface P t then False else ab (Ix t (ρ x).bJ) fun r=>k (.v r) ax
 | .makeFunc fn first cap=>k (.c fn (first.toList.map fun x=>(ρ x).aa) (cap.toList.map fun x=>(ρ x).aa)) ax
 | .slice t x lo hi mx=>ab (Iv P t (Ab.aa (ρ x).bJ) (nG ρ lo) (nG ρ hi) (nG ρ mx)) fun r=>k (.v r) ax
 | .fieldAddr t x f=>ab (zf P t f) fun fd=>ab (dF P fd.type) fun sz=>bif Nat.beq sz 0 then False else(match ρ x with
   | .p b off=>k (.p b (off+fd.offset)) ax
   | .v y=>ab (cV y fd.offset) fun z=>k (.v z) ax
   |_=>False)
 | .field t x f=>ab (zf P t f) fun fd=>ab (js P fd.type) fun ly=>ab (s4 ly.1 ly.2 fd.offset (ρ x).bJ) fun r=>k (.v r) ax
 | .indexAddr t x i=>(match P.underlying t with
   |some (.slice e)=>ab (dF P e) fun sz=>(match ρ x with
    | .a b n _=>ab (cH (ρ i).bJ n) fun j=>k (.p b (j*sz)) ax
    |s=>ab (bc sz s.bJ (ρ i).bJ) fun r=>k (.v r) ax)
   |some (.array n e)=>ab (dF P e) fun sz=>ab (cH (ρ i).bJ n) fun j=>(match ρ x with
    | .p b off=>k (.p b (off+j*sz)) ax
    | .v y=>ab (cV y (j*sz)) fun z=>k (.v z) ax
    |_=>False)
   |_=>False)
 | .index t x i=>(match P.underlying t with
   |some (.array n e)=>ab (js P e) fun ly=>ab (Iw ly.1 ly.2 n (ρ x).bJ (ρ i).bJ) fun r=>k (.v r) ax
   |some .string =>ab (I8 (ρ x).bJ (ρ i).bJ) fun r=>k (.v r) ax
   |_=>False)
 | .extract x i=>(match ρ x with
   | .t vs=>(match vs[i]? with|some r=>k (.v r) ax|none=>False)
   |_=>False)
 | .lookup t m x ok=>ab (zB P t) fun et=>ab (qR P et.1) fun z=>ab (pH et.2 z (tn ax (ρ m)) (ρ x).bJ) fun r=>
    bif ok then k (.t [.d r.1,.d (.bool r.2)]) ax else k (.v (.d r.1)) ax
 | .makeSlice t n c=>ab (mu P t) fun e=>ab (dF P e) fun sz=>ab (u7 P e) fun cL=>ab (qR P e) fun z=>
    bif Nat.beq sz 1&&Nat.blt 0 cL then(ab (lenOf (ρ n).bJ (ρ c).bJ) fun m=>m*cL≤140737488355328∧k (.v (.bt 1 (List.replicate m z))) ax)else False
 | .makeMap t h=>(match h,ax[id]? with
   |none,some .none =>k (.m id) (ax.set id (.map []))
   |_,_=>False)
 | .mapUpdate t m x y=>ab (zB P t) fun et=>(match ρ m,o.dst with
   | .m b,none=>(match ax[b]? with
     |some (.map l)=>ab (jO et.2 (ρ x).bJ) fun n=>ab (bF (ρ y).bJ) fun d=>ab (mI l n d) fun l'=>k (.t []) (ax.set b (.map l'))
     |_=>False)
   |_,_=>False)
 | .call c=>(match c.callee with
   | .value f=>(match ρ f with
     | .v x=>withFn x (gE ax ρ c.args.toList) (mE C (arity P o.type) ax k)
     | .c (.func g) first cap=>mE C (arity P o.type) ax k g (ij (snap ax 6) first++gE ax ρ c.args.toList++ij (snap ax 6) cap)
     |_=>False)
   | .invoke recv name=>(match ρ recv with
     | .v x=>u6 P x name (gE ax ρ c.args.toList) (mE C (arity P o.type) ax k)
     |_=>False)
   | .builtin b=>(match b,c.args.toList,c.argTypes.toList with
     | .len,x::_,t::_=>(match ρ x with
       | .a _ n _=>bif isSlice P t then k (.v (.d (.int .i64 n))) ax else False
       |s=>ab (Jy P t s.bJ) fun r=>k (.v r) ax)
     | .append,[x,y],[t,u]=>bif Nat.beq t u then(ab (mu P t) fun e=>ab (dF P e) fun sz=>ab (u7 P e) fun cL=>ab (mn P e) fun z=>
        bif Nat.blt 0 cL&&Nat.blt 0 sz&&Nat.beq z.length sz then ck sz cL (ρ x).bJ (ρ y).bJ fun r=>k (.v r) ax else False)else False
     | .min,x::l,_=>ab (wZ minD (ρ x).bJ (l.map fun y=>(ρ y).bJ)) fun r=>k (.v r) ax
     | .max,x::l,_=>ab (wZ maxD (ρ x).bJ (l.map fun y=>(ρ y).bJ)) fun r=>k (.v r) ax
     |_,_,_=>False))
 |_=>False
def tmpsOf(o:Oper):List Nat:=o.op.operands.toList.filterMap fun| .tmp t=>some t|_=>none
def b8(l:List Slot)(dst:Option Nat)(s:Slot):List Slot:=match dst with
 |some d=>l.set d s
 |none=>l
def placeOf(r:Nat):List Nat→Nat→Nat
 |[],i=>i
 |t::l,i=>bif Nat.beq t r then i else placeOf r l (i+1)
def Qg(r:Nat):List Nat→Nat→Nat→Nat
 |[],_,j=>j
 |t::l,i,j=>Qg r l (i+1) (bif Nat.beq t r then i else j)
def Qh(r:Nat)(ts:List Nat):Nat:=bif Nat.beq ts.length 4 then Qg r ts 0 0 else placeOf r ts 0
def H9(t:TypeId)(ts:List TypeId):Nat:=match P.underlying t with
 |some (.tuple rs)=>(match rs.toList with
  |[]=>0
  |r::_=>Qh r ts)
 |_=>Qh t ts
def xC(rs:List SV):Slot:=match rs with
 |[r]=>.v r
 |rs=>.t rs
def oJ(p:Nat)(args:List SV):List SV:=.aK [.cM p 0 []]::args
def Jz(s:Slot):Option FuncId:=match s with
 | .v (.d (.fn (.func g)))=>some g
 |_=>none
def jM(o:Oper)(e:Env)(k:Env→Prop):Prop:=match o.op with
 | .move (.tmp t)| .assign (.tmp t)=>k ⟨b8 (e.ai.set t (e.ai.getD t (.v .undef)).aa) o.dst (e.ai.getD t (.v .undef)),e.boxes⟩
 | .extract (.tmp t) i=>(match e.ai.getD t (.v .undef)with
   | .t vs=>(match vs[i]? with
     |some r=>k ⟨b8 (e.ai.set t (.t (vs.set i (aa r)))) o.dst (.v r),e.boxes⟩
     |none=>False)
   |_=>False)
 | .load ty a=>(match(aQ gl e a).aa with
   | .p b off=>ab (js P ty) fun ly=>bif ly.1 then False else(match e.boxes[b]? with
     |some (.cells cs)=>ab cs[off]? fun x=>k ⟨b8 e.ai o.dst (.v x),e.boxes.set b (.cells (cs.set off (aa x)))⟩
     |_=>False)
   |_=>False)
 | .store ty a (.tmp t)=>(match(aQ gl e a).aa,e.ai.getD t (.v .undef),o.dst with
   | .p b off,.v y,none=>ab (dF P ty) fun sz=>bif Nat.beq sz 1 then(match e.boxes[b]? with
     |some (.cells cs)=>ab (ay y) fun l=>l.length=1∧off<cs.length∧k ⟨e.ai.set t (.v (aa y)),e.boxes.set b (.cells (setAt cs off l))⟩
     |_=>False)else False
   |_,_,_=>False)
 | .buildSlice t n ps=>ab (mu P t) fun e'=>ab (js P e') fun ly=>ab (mn P e') fun z=>ab (mz (fun x=>(aQ gl e x).aa) ps.toList) fun l=>
    bif Nat.ble (n*ly.2) (2^24)&&Nat.blt 0 ly.2&&Nat.beq z.length ly.2 then(bq ly.2 n l=true∧k ⟨b8 e.ai o.dst (.v (.bt ly.2 (bu (bD ly.1 z) l n 0))),e.boxes⟩)else False
 | .call c=>(match c.callee,c.args.toList,c.argTypes.toList with
   | .builtin .append,[.tmp t,y],[ty,u]=>bif Nat.beq ty u then(ab (mu P ty) fun e'=>ab (dF P e') fun sz=>ab (u7 P e') fun cL=>ab (mn P e') fun z=>
      bif Nat.blt 0 cL&&Nat.blt 0 sz&&Nat.beq z.length sz then ck sz cL (e.ai.getD t (.v .undef)).bJ ((aQ gl e y).aa).bJ fun r=>
       k ⟨b8 (e.ai.set t (e.ai.getD t (.v .undef)).aa) o.dst (.v r),e.boxes⟩else False)else False
   | .value f,args,ts=>(match args[H9 P o.type ts]?,Jz (aQ gl e f)with
     |some (.tmp t),some g=>(match e.ai.getD t (.v .undef)with
      | .v y=>v8 (arity P o.type) fun rs=>∃bk,C g (oJ (H9 P o.type ts) ((gE e.boxes (fun x=>(aQ gl e x).aa) args).set (H9 P o.type ts) y)) (.aK (bk::rs))∧aa bk=aa y∧k ⟨b8 (e.ai.set t (.v bk)) o.dst (xC rs),e.boxes⟩
      |_=>False)
     |_,_=>False)
   |_,_,_=>False)
 |_=>False
def lE(id:Nat)(aD:Bool)(o:Oper)(e:Env)(k:Env→Prop):Prop:=
 bif aD then jM P gl C o e k
 else cJ P C id o (fun x=>(aQ gl e x).aa) e.boxes fun r ax=>k ⟨b8 e.ai o.dst r,ax⟩
def Env.vH(e:Env)(t:Nat)(b:Bool):Env:=⟨e.ai.set t (.v (.d (.bool b))),e.boxes⟩
def xk(all:List Oper)(o:Oper)(e:Env)(A B:Env→Prop):Prop:=
 match o.guard with
 |none=>A e
 |some (j,want)=>(match(match all[j]? with|some g=>g.dst|none=>none)with
  |some t=>(match e.ai.getD t (.v .undef)with
   | .v x=>aq x (bif want then A (e.vH t true)else B (e.vH t true)) (bif want then B (e.vH t false)else A (e.vH t false))
   | .t _=>B e
   |_=>False)
  |none=>False)
def fA(o:Oper):Bool:=match o.op with| .alloc _| .box .. | .makeMap .. =>true|_=>false
def fk:List Oper→Nat→Nat
 |[],_=>0
 |_,0=>0
 |o::l,i+1=>(bif fA o then 1 else 0)+fk l i
def jN(aD:Nat→Bool)(all:List Oper)(base:Nat):List Oper→Nat→Env→(Env→Prop)→Prop
 |[],_,e,k=>k e
 |o::rest,i,e,k=>xk all o e
   (fun e'=>lE P gl C (base+fk all i) (aD i) o e' fun jS=>jN aD all base rest (i+1) jS k)
   (fun e'=>jN aD all base rest (i+1) ⟨b8 e'.ai o.dst (.t []),e'.boxes⟩ k)
def zg(aD:Nat→Bool)(ops:List Oper)(e:Env)(k:Env→Prop):Prop:=
 jN P gl C aD ops e.boxes.length ops 0 ⟨e.ai,e.boxes++List.replicate (fk ops ops.length) .none⟩ k
inductive Ex where
 |normal
 |exit (id:Nat)
 |ret
def cw(F:List SV→List (List SV)→(List SV→List (List SV)→Prop)→Prop)(vs:List SV)(bs:List (List SV)):Prop:=
 ∀I:List SV→List (List SV)→Prop,(∀vs bs,F vs bs I→I vs bs)→I vs bs
def kL:Code→Nat
 | .region id _ _=>id
 | .seq a _=>kL a
 | .block _ b=>kL b
 | .loop b=>kL b
 | .scope b=>kL b
 |_=>0
inductive gd where
 |box (t sz:Nat)
 |oX (t:Nat) (ts:List Nat)
 |jz (t:Nat) (agg:Bool) (sz:Nat) (ts:List Nat)
 |emp (t:Nat)
 |jc (t:Nat)
 |nN (t:Nat) (ts:List Nat)
def eR:List gd→List Nat
 |[]=>[]
 | .box t _::l=>t::eR l
 | .oX _ ts::l=>ts++eR l
 | .jz t _ _ ts::l=>t::(ts++eR l)
 | .emp t::l=>t::eR l
 | .jc t::l=>t::eR l
 | .nN _ ts::l=>ts++eR l
def jo(h:List (Nat×List gd))(id:Nat):List gd:=match h with
 |[]=>[]
 |(j,r)::l=>bif j==id then r else jo l id
def cj(gh:List (Nat×List gd)):Code→List Nat
 | .region id ops _=>eR (jo gh id)++(eR (jo gh (4000000+id))++ops.toList.filterMap (·.dst))
 | .seq a b=>cj gh a++cj gh b
 | .cond _ a b=>cj gh a++cj gh b
 | .block _ b=>cj gh b
 | .loop b=>cj gh b
 | .scope b=>cj gh b
 |_=>[]
def af.aJ:af→List SV
 | .cells cs=>cs
 | .map l=>[.mp l]
 |_=>[.undef]
def qS(e:Env)(vars:List Nat):List SV:=vars.map fun t=>(e.ai.getD t (.v .undef)).bJ
def qL(n:Nat)(e:Env):List (List SV):=(e.boxes.take n).map af.aJ
def Slot.stays:Slot→Slot
 | .p b off=>.p b off
 | .c f first cap=>.c f first cap
 | .a b n sz=>.a b n sz
 | .m b=>.m b
 |_=>.v .undef
def place(t:Nat):List Nat→Nat→Option Nat
 |[],_=>none
 |v::l,i=>bif v==t then some i else place t l (i+1)
def ae(vs:List SV)(j:Nat):SV:=vs.getD j .undef
def az(bs:List (List SV))(i:Nat):List SV:=bs.getD i []
def pn(vars consts:List Nat)(vs:List SV):List Slot→Nat→List Slot
 |[],_=>[]
 |s::l,t=>(match place t vars 0 with
  |some j=>.v (ae vs j)
  |none=>bif consts.contains t then s.stays else .v .undef)::pn vars consts vs l (t+1)
def af.isMap:af→Bool
 | .map _=>true
 |_=>false
def mapOf:List SV→List (MK×D)
 |[.mp l]=>l
 |_=>[]
def af.again(cs:List SV):af→af
 | .map _=>.map (mapOf cs)
 | .none =>.none
 |_=>.cells cs
def po(bs:List (List SV)):List af→Nat→List af
 |[],_=>[]
 |x::l,i=>af.again (az bs i) x::po bs l (i+1)
structure Hints where
 aD:List (Nat×Nat)
 ei:List (Nat×List Nat×List Nat)
 gh:List (Nat×List gd):=[]
def rj(h:Hints)(id i:Nat):Bool:=h.aD.any fun p=>p.1==id&&p.2==i
def lB(h:List (Nat×List Nat×List Nat))(id:Nat):List Nat×List Nat:=match h with
 |[]=>([],[])
 |(j,r)::l=>bif j==id then r else lB l id
mutual
def Slot.has(b:Nat):Slot→Bool
 | .p b' _=>b'==b
 | .a b' _ _=>b'==b
 | .m b'=>b'==b
 | .c _ x y=>Slot.tC b x||Slot.tC b y
 |_=>false
def Slot.tC(b:Nat):List Slot→Bool
 |[]=>false
 |s::l=>Slot.has b s||Slot.tC b l
end
def iJ(m n:Nat)(x:SV):SV:=if m=n then x else .undef
def zP(b:Nat)(ra:Nat→SV)(rm:SV):Slot→Slot
 | .a b' n sz=>bif b'==b then .v (ra n)else .a b' n sz
 | .m b'=>bif b'==b then .v rm else .m b'
 | .p b' off=>bif b'==b then .v .undef else .p b' off
 | .c f x y=>bif Slot.tC b x||Slot.tC b y then .v .undef else .c f x y
 |s=>s
def ke(b:Nat)(ra:Nat→SV)(rm:SV)(ts:List Nat):List Slot→Nat→List Slot
 |[],_=>[]
 |s::l,i=>(bif ts.contains i then zP b ra rm s else s)::ke b ra rm ts l (i+1)
def rk(b:Nat)(ts:List Nat):List Slot→Nat→Bool
 |[],_=>true
 |s::l,i=>(ts.contains i|| !s.has b)&&rk b ts l (i+1)
def oD(b:Nat):List af→Bool
 |[]=>true
 | .one s::l=> !s.has b&&oD b l
 |_::l=>oD b l
def rl(b:Nat)(ra:Nat→SV)(rm:SV)(ts:List Nat)(e:Env):Env:=⟨ke b ra rm ts e.ai 0,e.boxes.set b .none⟩
def kP(b:Nat)(ts:List Nat)(e:Env):Bool:=rk b ts e.ai 0&&oD b e.boxes
def bA:List D→List SV
 |[]=>[]
 |x::l=>x.cells.map .d ++bA l
def ga(x:SV)(sz:Nat)(A:List D→Prop)(B:Prop):Prop:=match x with
 | .bt s L=>s=sz∧A L
 | .d _=>B
 |_=>False
def eP(agg:Bool)(sz:Nat):Nat→List D→Option (List D)
 |0,[]=>some []
 |0,_::_=>none
 |n+1,l=>if sz≤l.length then(match eP agg sz n (l.drop sz)with|some r=>some (bD agg (l.take sz)::r)|none=>none)else none
def vI(x:SV):Option SV:=match x with
 | .bt sz L=>some (.own sz L)
 | .d (.sl .nil s L)=>some (.d (.sl .nil (bif Nat.beq s gp then 0 else s) L))
 | .d y=>some (.d y)
 |_=>none
def nH(x:SV):Option SV:=match x with
 | .d (.sl .nil _ L)=>some (.d (.sl .nil gp L))
 | .bt s L=>some (.bt s L)
 |_=>none
def eJ(e:Env)(k:Env→Prop):gd→Prop
 | .box t sz=>(match e.ai.getD t (.v .undef)with
   | .v x=>ga x sz (fun L=>k ⟨e.ai.set t (.a e.boxes.length L.length sz),e.boxes++[.cells (bA L)]⟩) (k e)
   |_=>False)
 | .oX t ts=>(match e.ai.getD t (.v .undef)with
   | .a b n _=>(match e.boxes[b]? with
     |some (.cells cs)=>bif kP b ts e then(ab (cW cs) fun ds=>cs.length=n∧k (rl b (fun m=>iJ m n (.d (.sl .ro 1 ds))) .undef ts e))else False
     |_=>False)
   | .m b=>(match e.boxes[b]? with
     |some (.map l)=>bif kP b ts e then k (rl b (fun _=>.undef) (.mp l) ts e)else False
     |_=>False)
   | .v _=>k e
   |_=>False)
 | .jz t agg sz ts=>(match e.ai.getD t (.v .undef)with
   | .a b n s=>(match e.boxes[b]? with
     |some (.cells cs)=>bif kP b (t::ts) e&&Nat.beq s sz&&Nat.blt 0 sz&&(agg||Nat.beq sz 1)then(ab (cW cs) fun ds=>ab (eP agg sz n ds) fun L=>
       k ⟨(ke b (fun _=>.undef) .undef (t::ts) e.ai 0).set t (.v (.bt sz L)),e.boxes.set b .none⟩)else False
     |_=>False)
   | .v _=>k e
   |_=>False)
 | .emp t=>(match e.ai.getD t (.v .undef)with
   | .v x=>ab (nH x) fun y=>k ⟨e.ai.set t (.v y),e.boxes⟩
   |_=>False)
 | .jc t=>(match e.ai.getD t (.v .undef)with
   | .v x=>ab (vI x) fun y=>k ⟨e.ai.set t (.v y),e.boxes⟩
   |_=>False)
 | .nN t ts=>(match e.ai.getD t (.v .undef)with
   | .p c 0=>(match e.boxes[c]? with
     |some (.one (.m b))=>(match e.boxes[b]? with
      |some (.map l)=>bif !(Nat.beq b c)&&rk b ts e.ai 0&&oD b (e.boxes.set c .none)then k ⟨ke b (fun _=>.undef) .undef ts e.ai 0,(e.boxes.set b .none).set c (.cells [.mp l])⟩else False
      |_=>False)
     |_=>False)
   |_=>False)
def fP:List gd→Env→(Env→Prop)→Prop
 |[],e,k=>k e
 |x::l,e,k=>eJ e (fun e'=>fP l e' k) x
def ie(o:Oper):Bool:=match o.op with| .store .. | .mapUpdate .. =>true|_=>false
def gn(o:Oper):Bool:=match o.op with| .store .. | .load .. | .call _| .mapUpdate .. | .lookup .. =>true|_=>false
def gq(aD:Bool)(o:Oper):List Nat:=(match o.dst with|some d=>[d]|none=>[])++(bif aD then tmpsOf o else [])
def indep(all:Array Oper)(B3 xD:Bool)(x y:Oper):Bool:=
 (gq B3 x).all (fun d=> !(y.looksAt all).contains d&& !(gq xD y).contains d)&&
 (gq xD y).all (fun d=> !(x.looksAt all).contains d)&&
 !(ie x&&gn y)&& !(ie y&&gn x)&&
 !(B3&&xD&&gn x&&gn y)
end
end Go.Proofs.Ytimbllcalipehaa.Ab
namespace Go.Proofs.Ytimbllcalipehaa.Ab
open Go Go.RowKit
def D.one:D→Bool
 | .agg _=>false
 |_=>true
def mw(w w':World)(b o:Nat):Prop:=w'.cell? ⟨b,o,none⟩=w.cell? ⟨b,o,none⟩∧∀es c,w.heap[b]? =some (.map es c)→w'.heap[b]? =some (.map es c)
theorem mw.refl(w:World)(b o:Nat):mw w w b o:=⟨rfl,fun _ _ h=>h⟩
theorem mw.pt{w w':World}{b o:Nat}(h:w'.heap[b]? =w.heap[b]?):mw w w' b o:=⟨World.cell?_of_block h,fun _ _ hm=>h.trans hm⟩
def qM(w w':World)(g a:Nat):Prop:=a=0→w'.heap[g]? =w.heap[g]?
theorem qM.refl(w:World)(g a:Nat):qM w w g a:=fun _=>rfl
theorem qM.trans{w w' Fm:World}{g a:Nat}(h:qM w w' g a)(k:qM w' Fm g a):qM w Fm g a:=fun h0=>(k h0).trans (h h0)
def tD:KS→Value→Prop
 | .bool b,v=>v=.bool b
 | .int k n,v=>v=.int k n∧fm k n=true
 | .str s,v=>∃b:ByteArray,v=.string b∧b.data.toList=s∧b.size≤maxLen
def MK.Is:MK→Value→Prop
 | .i n,v=>v=.int .i64 n∧fm .i64 n=true
 | .s l,v=>∃vs:Array Value,v=.agg vs∧vs.size=l.length∧∀(i:Nat)k u,l[i]? =some k→vs[i]? =some u→tD k u
section
variable(w:World)(St:Nat→Nat→Prop)
inductive aU:D→Value→Prop
 |bool (b:Bool):aU (.bool b) (.bool b)
 |int (k:IntKind) (n:Int) (h:fm k n=true):aU (.int k n) (.int k n)
 |str (s:ByteArray) (h:s.size≤maxLen):aU (.str s.data.toList) (.string s)
 |agg (ds:List D) (vs:Array Value) (hf:∀d∈ds,d.one=true) (hl:ds.length=vs.size) (hc:∀(i:Nat)d v,ds[i]? =some d→vs[i]? =some v→aU d v):aU (.agg ds) (.agg vs)
 |fD (sz:Nat):aU (.sl .nil sz []) (.slice none 0 0)
 |sl (sz:Nat) (L:List D) (b off cap:Nat) (vs:Nat→Value) (bE:L.length≤cap) (hm:L.length≤maxLen) (aH:∀x∈L,x.cells.length=sz)
   (hf:∀x∈L,∀c∈x.cells,c.one=true) (aL:∀(o:Nat),o<L.length*sz→w.cell? ⟨b,off+o,none⟩=some (vs o)∧St b (off+o))
   (hc:∀(i:Nat)x(j:Nat)c,L[i]? =some x→x.cells[j]? =some c→aU c (vs (i*sz+j))):
   aU (.sl .ro sz L) (.slice (some ⟨b,off,none⟩) L.length cap)
 |jd (sz:Nat) (a:Addr) (cap:Nat) (ha:a.spot≠none):aU (.sl .ro sz []) (.slice (some a) 0 cap)
 |fn (f:Fn):aU (.fn f) (.func f #[] #[])
 |qZ:aU .qZ .nilFunc
 |iface (t:TypeId) (x:D) (v:Value) (h:aU x v):aU (.iface t x) (.iface t v)
 |rb:aU .rb .nilIface
 |my:aU .my (.pointer none)
inductive aG(base:Nat):(Nat→Nat→Nat→Prop)→SV→Value→Prop
 |d (O:Nat→Nat→Nat→Prop) (x:D) (v:Value) (h:aU w St x v):aG base O (.d x) v
 |own (O:Nat→Nat→Nat→Prop) (sz:Nat) (L:List D) (g cap:Nat) (h:aU w St (.sl .ro sz L) (.slice (some ⟨g,0,none⟩) L.length cap)) (bE:cap≤maxLen)
   (ho:O g (L.length*sz) (cap*sz)):aG base O (.own sz L) (.slice (some ⟨g,0,none⟩) L.length cap)
 |full (O:Nat→Nat→Nat→Prop) (sz:Nat) (L:List D) (a:Addr) (h:aU w St (.sl .ro sz L) (.slice (some a) L.length L.length)):
   aG base O (.full sz L) (.slice (some a) L.length L.length)
 |ref (O:Nat→Nat→Nat→Prop) (cs:List SV) (off b o:Nat) (vs:Nat→Value) (hb:b<base)
   (aL:∀(i:Nat),i<cs.length→w.cell? ⟨b,o+i,none⟩=some (vs i)∧(vs i).oneCell' =true)
   (hc:∀(i:Nat)c,cs[i]? =some c→aG base (fun _ _ _=>False) c (vs i)):aG base O (.ref cs off) (.pointer (some ⟨b,o+off,none⟩))
 |cM (O:Nat→Nat→Nat→Prop) (n sz:Nat) (cs:List SV) (b cap:Nat) (vs:Nat→Value) (hb:b<base) (hn:n≤cap) (hm:cap≤maxLen)
   (aL:∀(i:Nat),i<cs.length→w.cell? ⟨b,0+i,none⟩=some (vs i)∧(vs i).oneCell' =true)
   (hc:∀(i:Nat)c,cs[i]? =some c→aG base (fun _ _ _=>False) c (vs i)):aG base O (.cM n sz cs) (.slice (some ⟨b,0,none⟩) n cap)
 |aS (O:Nat→Nat→Nat→Prop) (x:D) (off b o:Nat) (vs:Nat→Value) (hf:∀c∈x.cells,c.one=true)
   (aL:∀(i:Nat),i<x.cells.length→w.cell? ⟨b,o+i,none⟩=some (vs i)∧St b (o+i))
   (hc:∀(i:Nat)c,x.cells[i]? =some c→aU w St c (vs i)):aG base O (.aS x off) (.pointer (some ⟨b,o+off,none⟩))
 |cS (O:Nat→Nat→Nat→Prop) (f:Fn) (first cap:List SV) (fv cv:Array Value) (hf:first.length=fv.size) (hc:cap.length=cv.size)
   (rf:∀(i:Nat)x v,first[i]? =some x→fv[i]? =some v→aG base (fun _ _ _=>False) x v)
   (rc:∀(i:Nat)x v,cap[i]? =some x→cv[i]? =some v→aG base (fun _ _ _=>False) x v):aG base O (.cS f first cap) (.func f fv cv)
 |bt (O:Nat→Nat→Nat→Prop) (sz:Nat) (L:List D) (g cap:Nat) (vs:Nat→Value) (bE:L.length≤cap) (hm:cap≤maxLen) (aH:∀x∈L,x.cells.length=sz) (hf:∀x∈L,∀c∈x.cells,c.one=true)
   (ho:O g 0 (cap*sz)) (aL:∀(o:Nat),o<L.length*sz→w.cell? ⟨g,o,none⟩=some (vs o))
   (hc:∀(i:Nat)x(j:Nat)c,L[i]? =some x→x.cells[j]? =some c→aU w St c (vs (i*sz+j))):aG base O (.bt sz L) (.slice (some ⟨g,0,none⟩) L.length cap)
 |mp (O:Nat→Nat→Nat→Prop) (l:List (MK×D)) (r:Nat) (es:Array MapEntry) (clock:Nat) (hh:w.heap[r]? =some (.map es clock)) (hs:St r 0) (hl:l.length=es.size)
   (hc:∀(i:Nat)x y,l[i]? =some x→es[i]? =some y→x.1.Is y.key∧True∧aU w St x.2 y.val):aG base O (.mp l) (.map (some r))
 |undef (O:Nat→Nat→Nat→Prop) (v:Value):aG base O .undef v
end
theorem aU.mono{w w':World}{St bz:Nat→Nat→Prop}(h:∀b o,St b o→bz b o∧w'.cell? ⟨b,o,none⟩=w.cell? ⟨b,o,none⟩){d:D}{v:Value}
  (r:aU w St d v):aU w' bz d v:=by
 induction r with
 |bool b=>exact .bool b
 |int k n hk=>exact .int k n hk
 |str s hs=>exact .str s hs
 |agg ds vs hf hl _ ih=>exact .agg ds vs hf hl ih
 |fD sz=>exact .fD sz
 |sl sz L b off cap vs bE hm aH hf aL _ ih=>
  exact .sl sz L b off cap vs bE hm aH hf (fun o ho=>⟨(h _ _ (aL o ho).2).2.trans (aL o ho).1,(h _ _ (aL o ho).2).1⟩) ih
 |jd sz a cap ha=>exact .jd sz a cap ha
 |fn f=>exact .fn f
 |qZ=>exact .qZ
 |iface t x v _ ih=>exact .iface t x v ih
 |rb=>exact .rb
 |my=>exact .my
theorem aG.mono{w w':World}{St bz:Nat→Nat→Prop}{base:Nat}(h0:∀b o,St b o→bz b o∧mw w w' b o)
  (hb:∀b o,b<base→w'.cell? ⟨b,o,none⟩=w.cell? ⟨b,o,none⟩){O:Nat→Nat→Nat→Prop}{x:SV}{v:Value}(r:aG w St base O x v):
  ∀O':Nat→Nat→Nat→Prop,(∀g a c,O g a c→O' g a c∧qM w w' g a)→aG w' bz base O' x v:=by
 have h:∀b o,St b o→bz b o∧w'.cell? ⟨b,o,none⟩=w.cell? ⟨b,o,none⟩:=fun b o hs=>⟨(h0 b o hs).1,(h0 b o hs).2.1⟩
 induction r with
 |d O x v hd=>exact fun O' _=>.d O' x v (hd.mono h)
 |own O sz L g cap hd bE ho=>exact fun O' hO=>.own O' sz L g cap (hd.mono h) bE (hO _ _ _ ho).1
 |full O sz L a hd=>exact fun O' _=>.full O' sz L a (hd.mono h)
 |ref O cs off b o vs dN aL _ ih=>exact fun O' _=>.ref O' cs off b o vs dN (fun i hi=>⟨(hb _ _ dN).trans (aL i hi).1,(aL i hi).2⟩) fun i c hc=>ih i c hc _ (fun _ _ _ h=>h.elim)
 |cM O n sz cs b cap vs dN hn hm aL _ ih=>exact fun O' _=>.cM O' n sz cs b cap vs dN hn hm (fun i hi=>⟨(hb _ _ dN).trans (aL i hi).1,(aL i hi).2⟩) fun i c hc=>ih i c hc _ (fun _ _ _ h=>h.elim)
 |aS O x off b o vs hf aL hc=>
  exact fun O' _=>.aS O' x off b o vs hf (fun i hi=>⟨(h _ _ (aL i hi).2).2.trans (aL i hi).1,(h _ _ (aL i hi).2).1⟩) fun i c hi=>(hc i c hi).mono h
 |cS O f first cap fv cv hf hc _ _ g5 g6=>exact fun O' _=>.cS O' f first cap fv cv hf hc (fun i x v a b=>g5 i x v a b _ (fun _ _ _ h=>h.elim)) (fun i x v a b=>g6 i x v a b _ (fun _ _ _ h=>h.elim))
 |bt O sz L g cap vs bE hm aH hf ho aL hc=>
  exact fun O' hO=>.bt O' sz L g cap vs bE hm aH hf (hO _ _ _ ho).1 (fun o bH=>(World.cell?_of_block ((hO _ _ _ ho).2 rfl)).trans (aL o bH)) fun i x j c hx fR=>(hc i x j c hx fR).mono h
 |mp O l r es clock hh hs hl hc=>exact fun O' _=>.mp O' l r es clock ((h0 r 0 hs).2.2 es clock hh) (h r 0 hs).1 hl fun i x y a b=>⟨(hc i x y a b).1,(hc i x y a b).2.1,(hc i x y a b).2.2.mono h⟩
 |undef O v=>exact fun O' _=>.undef O' v
theorem aG.aa{w:World}{St:Nat→Nat→Prop}{base:Nat}{O O':Nat→Nat→Nat→Prop}{x:SV}{v:Value}(r:aG w St base O x v):aG w St base O' (aa x) v:=by
 cases r with
 |d _ x v hd=>exact .d _ x v hd
 |own _ sz L g cap hd bE ho=>exact .d _ _ _ hd
 |full _ sz L a hd=>exact .full _ sz L a hd
 |ref _ cs off b o vs dN aL hc=>exact .ref _ cs off b o vs dN aL hc
 |cM _ n sz cs b cap vs dN hn hm aL hc=>exact .cM _ n sz cs b cap vs dN hn hm aL hc
 |aS _ x off b o vs hf aL hc=>exact .aS _ x off b o vs hf aL hc
 |cS _ f first cap fv cv hf hc rf rc=>exact .cS _ f first cap fv cv hf hc rf rc
 |bt _ sz L g cap vs bE hm aH hf ho aL hc=>exact .undef _ _
 |mp _ l r es clock hh hs hl hc=>exact .mp _ l r es clock hh hs hl hc
 |undef _ v=>exact .undef _ _
theorem aG.bF{w:World}{St:Nat→Nat→Prop}{base:Nat}{O:Nat→Nat→Nat→Prop}{x:SV}{v:Value}(r:aG w St base O x v){y:D}(h:Ab.bF x=some y):aU w St y v:=by
 cases r<;>simp only[Ab.bF,Option.some.injEq,reduceCtorEq]at h<;>subst h<;>assumption
mutual
def SV.Wf:SV→Prop
 | .d x=>x.Wf
 | .own sz L=>(D.sl .ro sz L).Wf
 | .full sz L=>(D.sl .ro sz L).Wf
 | .bt sz L=>(D.sl .ro sz L).Wf
 | .ref cs _=>SV.fo cs
 | .cM _ _ cs=>SV.fo cs
 | .aS x _=>D.fo x.cells
 | .cS _ a b=>SV.fo a∧SV.fo b
 | .aK l=>SV.fo l
 | .mp l=>∀x∈l,x.2.Wf
 | .undef =>True
def SV.fo:List SV→Prop
 |[]=>True
 |x::l=>x.Wf∧SV.fo l
end
theorem D.iW:∀(l:List D),D.fo l↔∀x∈l,x.Wf
 |[]=>by simp[D.fo]
 |x::l=>by simp[D.fo,D.iW l]
theorem SV.iW:∀(l:List SV),SV.fo l↔∀x∈l,x.Wf
 |[]=>by simp[SV.fo]
 |x::l=>by simp[SV.fo,SV.iW l]
theorem aU.NV{w:World}{St:Nat→Nat→Prop}{d:D}{v:Value}(r:aU w St d v):∀c∈d.cells,c.one=true:=by
 cases r with
 |agg ds vs hf hl hc=>exact hf
 |_=>intro c hc;simp only[D.cells,List.mem_singleton]at hc;subst hc;rfl
theorem aU.pw{w:World}{St:Nat→Nat→Prop}{d:D}{v:Value}(r:aU w St d v)(h:d.one=true):v.oneCell'=true:=by
 cases r<;>first|rfl|simp[D.one]at h
theorem aU.wf{w:World}{St:Nat→Nat→Prop}{d:D}{v:Value}(r:aU w St d v):d.Wf:=by
 induction r with
 |int k n hk=>simpa[D.Wf]using hk
 |str s hs=>rw[D.Wf];exact hs
 |agg ds vs hf hl _ ih=>
  rw[D.Wf,D.iW]
  intro x hx
  obtain⟨i,hi,rfl⟩:=List.mem_iff_getElem.1 hx
  exact ih i _ (vs[i]'(by omega)) (by simp) (by simp)
 |fD sz=>simp[D.Wf,D.fo]
 |jd sz a cap=>simp[D.Wf,D.fo]
 |sl sz L b off cap vs bE hm aH hf aL hc ih=>
  rw[D.Wf]
  refine⟨hm,by simp,aH,?_⟩
  rw[D.iW]
  intro x hx
  obtain⟨i,hi,rfl⟩:=List.mem_iff_getElem.1 hx
  have key:∀c∈(L[i]).cells,c.Wf:=fun c fb=>by
   obtain⟨j,hj,rfl⟩:=List.mem_iff_getElem.1 fb
   exact ih i _ j _ (List.getElem?_eq_getElem hi) (List.getElem?_eq_getElem hj)
  cases hL:L[i]with
  |agg cs=>rw[hL]at key;rw[D.Wf,D.iW];exact key
  |_=>rw[hL]at key;exact key _ (by simp[D.cells])
 |iface t x v _ ih=>simpa[D.Wf]using ih
 |_=>simp[D.Wf]
theorem aG.wf{w:World}{St:Nat→Nat→Prop}{base:Nat}{O:Nat→Nat→Nat→Prop}{x:SV}{v:Value}(r:aG w St base O x v):x.Wf:=by
 induction r with
 |d O x v hd=>simpa[SV.Wf]using hd.wf
 |own O sz L g cap hd bE ho=>simpa[SV.Wf]using hd.wf
 |full O sz L a hd=>simpa[SV.Wf]using hd.wf
 |bt O sz L g cap vs bE hm aH hf ho aL hc=>
  rw[SV.Wf,D.Wf]
  refine⟨Nat.le_trans bE hm,by simp,aH,?_⟩
  rw[D.iW]
  intro x hx
  obtain⟨i,hi,rfl⟩:=List.mem_iff_getElem.1 hx
  have key:∀c∈(L[i]).cells,c.Wf:=fun c fb=>by
   obtain⟨j,hj,rfl⟩:=List.mem_iff_getElem.1 fb
   exact(hc i _ j _ (List.getElem?_eq_getElem hi) (List.getElem?_eq_getElem hj)).wf
  cases hL:L[i]with
  |agg cs=>rw[hL]at key;rw[D.Wf,D.iW];exact key
  |_=>rw[hL]at key;exact key _ (by simp[D.cells])
 |ref O cs off b o vs dN aL _ ih=>
  rw[SV.Wf,SV.iW]
  intro x hx
  obtain⟨i,hi,rfl⟩:=List.mem_iff_getElem.1 hx
  exact ih i _ (by simp)
 |cM O n sz cs b cap vs dN hn hm aL _ ih=>
  rw[SV.Wf,SV.iW]
  intro x hx
  obtain⟨i,hi,rfl⟩:=List.mem_iff_getElem.1 hx
  exact ih i _ (by simp)
 |aS O x off b o vs hf aL hc=>
  rw[SV.Wf,D.iW]
  intro c fb
  obtain⟨j,hj,rfl⟩:=List.mem_iff_getElem.1 fb
  exact(hc j _ (by simp)).wf
 |cS O f first cap fv cv hf hc _ _ g5 g6=>
  rw[SV.Wf,SV.iW,SV.iW]
  constructor
  ·intro x hx
   obtain⟨i,hi,rfl⟩:=List.mem_iff_getElem.1 hx
   exact g5 i _ (fv[i]'(by omega)) (by simp) (by simp)
  ·intro x hx
   obtain⟨i,hi,rfl⟩:=List.mem_iff_getElem.1 hx
   exact g6 i _ (cv[i]'(by omega)) (by simp) (by simp)
 |mp O l r es clock hh hs hl hc=>
  rw[SV.Wf]
  intro x hx
  obtain⟨i,hi,rfl⟩:=List.mem_iff_getElem.1 hx
  exact(hc i _ (es[i]'(by omega)) (by simp) (by simp)).2.2.wf
 |undef=>simp[SV.Wf]
inductive Pos where
 |s (i j:Nat)
 |b (i j:Nat)
 deriving DecidableEq
structure Gh where
 St:Nat→Nat→Prop
 bx:List (Option Nat)
 ow:Nat→Option Pos
def ef(base:Nat)(w:World)(g:Gh)(p:Pos)(b a c:Nat):Prop:=
 g.ow b=some p∧base≤b∧some b∉g.bx∧(∃cur e,w.heap[b]? =some (.cells cur e (0,0))∧cur.size=c)∧∀o,a≤o→¬g.St b o
inductive bP(base:Nat)(w:World)(g:Gh):(Nat→Nat→Nat→Nat→Prop)→Slot→Value→Prop
 |v (O:Nat→Nat→Nat→Nat→Prop) (x:SV) (y:Value) (h:aG w g.St base (O 0) x y):bP base w g O (.v x) y
 |p (O:Nat→Nat→Nat→Nat→Prop) (b off aj:Nat) (h:g.bx[b]? =some (some aj)):bP base w g O (.p b off) (.pointer (some ⟨aj,off,none⟩))
 |c (O:Nat→Nat→Nat→Nat→Prop) (f:Fn) (first cap:List Slot) (fv cv:Array Value) (hf:first.length=fv.size) (hc:cap.length=cv.size)
   (rf:∀(i:Nat)x v,first[i]? =some x→fv[i]? =some v→bP base w g (fun _ _ _ _=>False) x v)
   (rc:∀(i:Nat)x v,cap[i]? =some x→cv[i]? =some v→bP base w g (fun _ _ _ _=>False) x v):bP base w g O (.c f first cap) (.func f fv cv)
 |a (O:Nat→Nat→Nat→Nat→Prop) (b n sz:Nat) (v:Value) (hm:n≤maxLen) (h:∃aj cap,g.bx[b]? =some (some aj)∧n≤cap∧v=.slice (some ⟨aj,0,none⟩) n cap∧cap≤maxLen∧∃c ty,w.heap[aj]? =some (.cells c ty (0,0))∧c.size=cap*sz):bP base w g O (.a b n sz) v
 |m (O:Nat→Nat→Nat→Nat→Prop) (b aj:Nat) (h:g.bx[b]? =some (some aj)):bP base w g O (.m b) (.map (some aj))
 |t (O:Nat→Nat→Nat→Nat→Prop) (xs:List SV) (vs:Array Value) (hl:xs.length=vs.size)
   (hc:∀(j:Nat)x v,xs[j]? =some x→vs[j]? =some v→aG w g.St base (O j) x v):bP base w g O (.t xs) (.tuple vs)
def eA(base:Nat)(w:World)(g:Gh)(i j:Nat):Nat→Nat→Nat→Prop:=ef base w g (.s i j)
def pP(base:Nat)(w:World)(g:Gh)(i j:Nat):Nat→Nat→Nat→Prop:=ef base w g (.b i j)
def af.size:af→Nat
 | .cells cs=>cs.length
 | .one _=>1
 |_=>0
def QX(base:Nat)(w:World)(g:Gh)(b:Nat)(bx:af)(aj:Nat):Prop:=
 base≤aj∧∃c t,w.heap[aj]? =some (.cells c t (0,0))∧(∀(j:Nat)y,j<bx.size→c[j]? =some y→y.oneCell'=true)∧match bx with
  | .none =>False
  | .map _=>False
  | .cells cs=>cs.length≤c.size∧∀(j:Nat)x y,cs[j]? =some x→c[j]? =some y→aG w g.St base (pP base w g b j) x y
  | .one s=>0<c.size∧∀y,c[0]? =some y→bP base w g (fun _=>pP base w g b 0) s y
def acI(base:Nat)(w:World)(g:Gh)(l:List (MK×D))(aj:Nat):Prop:=
 base≤aj∧∃es clock,w.heap[aj]? =some (.map es clock)∧l.length=es.size∧∀(i:Nat)x y,l[i]? =some x→es[i]? =some y→x.1.Is y.key∧True∧aU w g.St x.2 y.val
def mJ(base:Nat)(w:World)(g:Gh)(b:Nat)(bx:af)(aj:Nat):Prop:=match bx with
 | .map l=>acI base w g l aj
 | .none =>False
 | .cells cs=>QX base w g b (.cells cs) aj
 | .one s=>QX base w g b (.one s) aj
theorem mJ.low{base:Nat}{w:World}{g:Gh}{b:Nat}{bx:af}{aj:Nat}(h:mJ base w g b bx aj):base≤aj:=by
 cases bx<;>first|exact h.1|exact h.elim
def s5(gl:Nat→Option D)(w:World)(St:Nat→Nat→Prop):Prop:=
 ∀n x,gl n=some x→(∀c∈x.cells,c.one=true)∧∃vs:Nat→Value,(∀(i:Nat),i<x.cells.length→w.cell? ⟨n,i,none⟩=some (vs i)∧St n i)∧∀(i:Nat)c,x.cells[i]? =some c→aU w St c (vs i)
structure S0 where
 St:Nat→Nat→Prop
 df:Nat→Obj→Prop
 cl:Nat→Nat→Value→Prop
 sz:Nat:=0
instance:CoeFun S0 (fun _=>Nat→Nat→Prop):=⟨S0.St⟩
theorem fj{w:World}{D:Nat}{x:Obj}(h:w.heap[D]? =some x):D<w.heap.size:=(Array.getElem?_eq_some_iff.1 h).1
structure Inv(gl:Nat→Option D)(w0:World)(an:S0)(e:Env)(a:Act)(w:World)(g:Gh):Prop where
 below:Below w0.heap.size w0 w
 size:a.tmps.size=e.ai.length
 ai:∀(i:Nat)s,e.ai[i]? =some s→bP w0.heap.size w g (eA w0.heap.size w g i) s (a.tmps.getD i undef)
 eB:g.bx.length=e.boxes.length
 boxes:∀(b:Nat)bx aj,e.boxes[b]? =some bx→g.bx[b]? =some (some aj)→mJ w0.heap.size w g b bx aj
 nodup:∀(i j:Nat)aj,g.bx[i]? =some (some aj)→g.bx[j]? =some (some aj)→i=j
 fp:∀b o,an b o→g.St b o
 cm:∀b o,g.St b o→(an b o∨w0.heap.size≤b)∧some b∉g.bx∧b<w.heap.size
 cZ:∀b,some b∈g.bx→w0.heap.size≤b∧b<w.heap.size
 ja:s5 gl w g.St
 defers:a.defers=[]
 ek:∀(D:Nat)(o:Obj),an.df D o→some D∉g.bx∧g.ow D=none∧w.heap[D]? =some o∧∀x,g.St D x→an.St D x
 cls:∀(b o:Nat)(v:Value),an.cl b o v→g.St b o∧w.cell? ⟨b,o,none⟩=some v
 iA:an.sz≤w.heap.size
end Go.Proofs.Ytimbllcalipehaa.Ab
namespace Go.Proofs.Ytimbllcalipehaa.Ab
open Go
def reach:(acc:List Nat)→List Oper→List Nat
 |acc,[]=>acc
 |acc,o::l=>reach (acc++[o.after.toList.foldl (fun s e=>bif Region.binds .any e then s|||2^e.on|||acc.getD e.on 0 else s) 0]) l
def lz(o:Oper):Option Nat:=match o.op,o.guard with| .alloc _,none=>o.dst|_,_=>none
def iZ(l:List Oper):List Nat:=l.filterMap lz
def Cq(A:List Nat):Operand→Bool
 | .tmp t=>A.contains t
 |_=>false
def mA(A:List Nat)(o:Oper):Option Nat:=match o.op with
 | .store _ (.tmp a) _=>bif A.contains a then some a else none
 |_=>none
def BG(A:List Nat)(aD:Bool)(o:Oper):Bool:=
 (match lz o with|some _=>true|none=> !fA o&&(match o.dst with|some d=> !A.contains d|none=>true))&&
 (match o.op with
   | .store _ x y=> !Cq A y&&(!Cq A x|| !aD)
   |op=>op.operands.toList.all fun x=> !Cq A x)
def Ek:List Nat→Bool
 |[]=>true
 |a::l=> !l.contains a&&Ek l
def Bb(a m:Nat):List Oper→Nat→Bool
 |[],_=>true
 |o::l,i=>(match lz o with|some b=> !(Nat.beq a b)||Nat.testBit m i|none=>true)&&Bb a m l (i+1)
def DR(all:List Oper)(A:List Nat)(aD:Nat→Bool)(R:List Nat):List Oper→Nat→Bool
 |[],_=>true
 |o::l,i=>BG A (aD i) o&&(match mA A o with|some a=>Bb a (R.getD i 0) all 0|none=>true)&&DR all A aD R l (i+1)
def eligible(l:List Oper)(aD:Nat→Bool)(R:List Nat):Bool:=Ek (iZ l)&&DR l (iZ l) aD R l 0
def EE(A:List Nat)(lx ly:Bool)(x y:Oper):Bool:=match mA A x,mA A y with
 |some a,some b=> !(Nat.beq a b)&& !lx&& !ly
 |some _,none=> !lx&& !ie y&& !ly
 |none,some _=> !ly&& !ie x&& !lx
 |none,none=>false
def Iy(all:Array Oper)(A:List Nat)(B3 xD:Bool)(x y:Oper):Bool:=
 (gq B3 x).all (fun d=> !(y.looksAt all).contains d&& !(gq xD y).contains d)&&
 (gq xD y).all (fun d=> !(x.looksAt all).contains d)&&EE A B3 xD x y
def zC(E:Option (List Nat))(all:Array Oper)(lx ly:Bool)(x y:Oper):Bool:=
 indep all lx ly x y||(match E with|some A=>Iy all A lx ly x y|none=>false)
def El(E:Option (List Nat))(ops:Array Oper)(aD:Nat→Bool)(R:List Nat)(i:Nat)(o:Oper):List Oper→Nat→Bool
 |[],_=>true
 |p::l,j=>(Nat.testBit (R.getD j 0) i||zC E ops (aD i) (aD j) o p)&&El E ops aD R i o l (j+1)
def xe(E:Option (List Nat))(ops:Array Oper)(aD:Nat→Bool)(R:List Nat):List Oper→Nat→Bool
 |[],_=>true
 |o::l,i=>o.after.toList.all (fun e=> !Region.binds .any e||Nat.blt e.on i)&&El E ops aD R i o l (i+1)&&xe E ops aD R l (i+1)
def pI(aD:Nat→Bool)(ops:Array Oper):Bool:=
 bif eligible ops.toList aD (reach [] ops.toList)then xe (some (iZ ops.toList)) ops aD (reach [] ops.toList) ops.toList 0
 else xe none ops aD (reach [] ops.toList) ops.toList 0
def mB(m:Nat):List Oper→Nat→List Nat
 |[],_=>[]
 |o::l,i=>bif !Nat.testBit m i&&o.after.toList.all (fun e=> !Region.binds .any e||Nat.testBit m e.on)then i::mB m l (i+1)else mB m l (i+1)
def EF(ops:Array Oper)(aD:Nat→Bool)(R:List Nat)(m i:Nat)(o:Oper):List Oper→Nat→Bool
 |[],_=>true
 |p::l,j=>(Nat.beq i j||Nat.testBit m j||Nat.testBit (R.getD j 0) i||indep ops (aD i) (aD j) o p)&&EF ops aD R m i o l (j+1)
def Em(ops:Array Oper)(aD:Nat→Bool)(R:List Nat)(m i:Nat):Bool:=match ops.toList[i]? with
 |some o=>EF ops aD R m i o ops.toList 0
 |none=>false
def firstFree(ops:Array Oper)(aD:Nat→Bool)(R:List Nat)(m:Nat):List Nat→Option Nat
 |[]=>none
 |i::l=>bif Em ops aD R m i then some i else firstFree ops aD R m l
def QY(ops:Array Oper)(aD:Nat→Bool)(R:List Nat)(m:Nat):List Nat:=match firstFree ops aD R m (mB m ops.toList 0)with
 |some i=>[i]
 |none=>mB m ops.toList 0
def EW(f:Nat→Prop):List Nat→Prop
 |[]=>True
 |i::l=>match l with|[]=>f i|_=>f i∧EW f l
def acJ(gh:List (Nat×List gd))(id:Nat):Bool:=gh.any fun p=>Nat.beq p.1 id&&p.2.isEmpty
mutual
def SV.ar:SV→Bool
 | .ref _ _=>false
 | .cM _ _ _=>false
 | .cS _ a b=>SV.fO a&&SV.fO b
 | .aK l=>SV.fO l
 |_=>true
def SV.fO:List SV→Bool
 |[]=>true
 |x::l=>SV.ar x&&SV.fO l
end
def zt(ws vars consts:List Nat):List Slot→Nat→Bool
 |[],_=>true
 |s::l,t=>(match s with| .v _=>true| .t _=>true|_=>ws.contains t||(!vars.contains t&&consts.contains t))&&zt ws vars consts l (t+1)
section
variable(P:Program)(gl:Nat→Option D)(C:bj)(h:Hints)
def xE(ops:Array Oper)(aD:Nat→Bool)(R:List Nat)(base:Nat)(Q:Env→Prop):Nat→Nat→Env→Prop
 |0,m,e=>bif (mB m ops.toList 0).isEmpty then Q e else False
 |n+1,m,e=>bif (mB m ops.toList 0).isEmpty then Q e else
   EW (fun i=>match ops.toList[i]? with
    |some o=>xk ops.toList o e (fun e'=>lE P gl C (base+fk ops.toList i) (aD i) o e' fun jS=>xE ops aD R base Q n (m|||2^i) jS) (fun e'=>xE ops aD R base Q n (m|||2^i) ⟨b8 e'.ai o.dst (.t []),e'.boxes⟩)
    |none=>False) (QY ops aD R m)
def ad7(ops:Array Oper)(aD:Nat→Bool)(e:Env)(Q:Env→Prop):Prop:=
 xE P gl C ops aD (reach [] ops.toList) e.boxes.length Q ops.toList.length 0 ⟨e.ai,e.boxes++List.replicate (fk ops.toList ops.toList.length) .none⟩
def tE(ok:Bool)(ops:Array Oper)(aD:Nat→Bool)(e:Env)(Q:Env→Prop)(e':Env):Prop:=
 bif ok then Q e' else ad7 P gl C ops aD e (fun x=>x=e')∧Q e'
def mF(e:Env)(c:Operand)(A B:Env→Prop):Prop:=match c with
 | .tmp t=>(match e.ai.getD t (.v .undef)with
   | .v x=>aq x (A (e.vH t true)) (B (e.vH t false))
   |_=>False)
 | .const (.bool b)=>cond b (A e) (B e)
 |_=>False
def aax(a b:Code):Nat:=bif Nat.beq (kL a) 0 then kL b else kL a
def BT(A:(List SV→List (List SV)→Prop)→Prop)(F:List SV→List (List SV)→Prop):Prop:=A F
def oE(key:Nat)(c:Code)(e:Env)(Q:Ex→Env→Prop)(T:(Ex→Env→Prop)→Prop):Prop:=
 match lB h.ei key with
 |([],[])=>T Q
 |(vars,consts)=>bif consts.all (fun t=> !(cj h.gh c).contains t)&&zt (cj h.gh c) vars consts e.ai 0 then
    BT (fun J=>T (fun x e'=>match x with| .normal =>J (qS e' vars) (qL e.boxes.length e')| .exit i=>Q (.exit i) e'| .ret =>Q .ret e'))
     (fun vs bs=>Q .normal ⟨pn vars consts vs e.ai 0,po bs e.boxes 0⟩)
  else False
inductive Spec where
 |ue (t d:Nat) (ty:TypeId)
 |cut (t d1 d2:Nat) (ty:TypeId)
 |tF (t d:Nat) (f:FuncId) (dst:Nat)
 |tp (t d t2 d2:Nat) (f:FuncId) (dst:Nat)
def s6(draw:Bool)(ops:List Oper):Option Spec:=bif draw then none else(match ops with
 |[o1,o2]=>(match o1.op,o1.dst,o1.guard,o2.op,o2.dst,o2.guard with
  | .move (.tmp t),some d,none,.call c,none,none=>(match c.callee,c.args.toList,c.argTypes.toList with
    | .builtin .clear,[.tmp d'],[ty]=>bif Nat.beq d d'&& !(Nat.beq t d)then some (.ue t d ty)else none
    |_,_,_=>none)
  | .move (.tmp t),some d,none,.call c,some u,none=>(match c.callee,c.args.toList with
    | .value (.func f),[.tmp d']=>bif Nat.beq (arity P o2.type) 0&&(Nat.beq d d'&& !(Nat.beq t d)&& !(Nat.beq u d)&& !(Nat.beq u t))then some (.tF t d f u)else none
    |_,_=>none)
  |_,_,_,_,_,_=>none)
 |[o1,o2,o3]=>(match o1.op,o1.dst,o1.guard,o2.op,o2.dst,o2.guard,o3.op,o3.dst,o3.guard with
  | .move (.tmp t),some d1,none,.slice ty (.tmp Kr) none (some (.const (.int .i64 0))) none,some d2,none,.assign (.tmp xX),some t',none=>
    bif Nat.beq d1 Kr&&Nat.beq d2 xX&&Nat.beq t t'&& !(Nat.beq t d1)&& !(Nat.beq t d2)&& !(Nat.beq d1 d2)then some (.cut t d1 d2 ty)else none
  | .move (.tmp t),some d,none,.move (.tmp t2),some d2,none,.call c,some u,none=>(match c.callee,c.args.toList with
    | .value (.func f),[.tmp d',.tmp xX]=>bif Nat.beq (arity P o3.type) 0&&(Nat.beq d d'&&Nat.beq d2 xX&& !(Nat.beq t d)&& !(Nat.beq u d)&& !(Nat.beq u t)&& !(Nat.beq d2 d)&& !(Nat.beq d2 t)&& !(Nat.beq t2 d))then some (.tp t d t2 d2 f u)else none
    |_,_=>none)
  |_,_,_,_,_,_,_,_,_=>none)
 |_=>none)
def tG(ty:TypeId)(x:SV):Option SV:=match mu P ty with
 |some e=>(match dF P e,qR P e with
  |some 1,some z=>(match x with
   | .d (.sl .nil s _)=>some (.d (.sl .nil s []))
   | .bt s L=>if s=1 then some (.bt 1 (L.map fun _=>z))else none
   |_=>none)
  |_,_=>none)
 |none=>none
def tH(ty:TypeId)(x:SV):Option SV:=match mu P ty with
 |some e=>(match dF P e with
  |some sz=>(match x with
   | .d (.sl .nil s _)=>some (.d (.sl .nil s []))
   | .bt s _=>if s=sz then some (.bt sz [])else none
   |_=>none)
  |none=>none)
 |none=>none
def gF(e:Env)(k:Env→Prop):Spec→Prop
 | .ue t d ty=>(match e.ai.getD t (.v .undef)with
   | .v x=>bif Nat.blt d e.ai.length then(ab (tG P ty x) fun y=>k ⟨(e.ai.set d (.v .undef)).set t (.v y),e.boxes⟩)else False
   |_=>False)
 | .cut t d1 d2 ty=>(match e.ai.getD t (.v .undef)with
   | .v x=>bif Nat.blt d1 e.ai.length&&Nat.blt d2 e.ai.length then(ab (tH P ty x) fun y=>k ⟨((e.ai.set d1 (.v .undef)).set d2 (.v .undef)).set t (.v y),e.boxes⟩)else False
   |_=>False)
 | .tF t d f u=>(match e.ai.getD t (.v .undef)with
   | .v x=>bif Nat.blt d e.ai.length then(∃bk,C f (oJ 0 [x]) (.aK [bk])∧aa bk=aa x∧k ⟨((((((e.ai.set t (.v (aa x))).set d (.v x)).set d (.v bk)).set u (.t [])).set d (.v (aa bk)))).set t (.v bk),e.boxes⟩)else False
   |_=>False)
 | .tp t d t2 d2 f u=>(match e.ai.getD t (.v .undef)with
   | .v x=>bif Nat.blt d e.ai.length&&Nat.blt d2 e.ai.length&& !(Nat.beq t2 t)then(∃bk,C f (oJ 0 [x,snap e.boxes 6 (e.ai.getD t2 (.v .undef)).aa]) (.aK [bk])∧aa bk=aa x∧k ⟨(((((((e.ai.set t (.v (aa x))).set d (.v x)).set d2 (e.ai.getD t2 (.v .undef)).aa).set d (.v bk)).set u (.t [])).set d (.v (aa bk)))).set t (.v bk),e.boxes⟩)else False
   |_=>False)
def kh(id:Nat)(ops:Array Oper)(draw:Bool)(e:Env)(K:Env→Prop):Prop:=
 bif (!draw||pI (rj h id) ops)||acJ h.gh id then fP (jo h.gh id) e (fun e'=>match s6 P draw ops.toList with
  |some s=>gF P C e' (fun e2=>fP (jo h.gh (4000000+id)) e2 K) s
  |none=>zg P gl C (rj h id) ops.toList e' (tE P gl C (!draw||pI (rj h id) ops) ops (rj h id) e' (fun e2=>fP (jo h.gh (4000000+id)) e2 K)))else False
def aw:Code→(Ex→Env→Prop)→Env→Prop
 | .skip,Q,e=>Q .normal e
 | .region id ops draw,Q,e=>oE h (2000000+id) (.region id ops draw) e Q fun Q=>kh P gl C h id ops draw e (Q .normal)
 | .label _,Q,e=>Q .normal e
 | .seq a b,Q,e=>aw a (fun x e'=>match x with| .normal =>aw b Q e'| .exit i=>Q (.exit i) e'| .ret =>Q .ret e') e
 | .cond c a b,Q,e=>oE h (1000000+aax a b) (.cond c a b) e Q fun Q=>mF e c (aw a Q) (aw b Q)
 | .block id b,Q,e=>aw b (fun x e'=>match x with| .normal =>Q .normal e'| .exit i=>bif i==id then Q .normal e' else Q (.exit i) e'| .ret =>Q .ret e') e
 | .loop b,Q,e=>(match lB h.ei (kL b)with
   |(vars,consts)=>bif consts.all (fun t=> !(cj h.gh b).contains t)&&zt (cj h.gh b) vars consts e.ai 0 then
      cw (fun vs bs I=>aw b (fun x e'=>match x with| .normal =>I (qS e' vars) (qL e.boxes.length e')| .exit i=>Q (.exit i) e'| .ret =>Q .ret e')
          ⟨pn vars consts vs e.ai 0,po bs e.boxes 0⟩)
       (qS e vars) (qL e.boxes.length e)
    else False)
 | .exit id,Q,e=>Q (.exit id) e
 | .ret,Q,e=>Q .ret e
 |_,_,_=>False
def xF(e:Env)(used:List Nat)(r:ResultVar)(k:SV→Prop):Prop:=match r with
 | .tmp t=>(match e.ai.getD t (.v .undef)with
   | .v x=>x.ar=true∧k (bif used.contains t then aa x else x)
   |_=>False)
 | .cell a t=>ab (js P t) fun ly=>(match e.ai.getD a (.v .undef)with
   | .p b off=>oz ly.1 ly.2 b off e.boxes fun s _=>(match s with
     | .v x=>x.ar=true∧k x
     |_=>False)
   |_=>False)
def En(used:List Nat):ResultVar→List Nat
 | .tmp t=>t::used
 | .cell _ _=>used
def xp(e:Env):List Nat→List ResultVar→(List SV→Prop)→Prop
 |_,[],k=>k []
 |used,r::l,k=>xF P e used r fun x=>xp e (En used r) l fun xs=>k (x::xs)
def finish(fn:Func)(e:Env)(K:SV→Prop):Prop:=match fn.results.toList with
 |[r]=>xF P e [] r K
 |l=>xp P e [] l fun xs=>K (.aK xs)
def enter(n:Nat)(args:List SV):Env:=⟨args.map .v ++List.replicate (n-args.length) (.v .undef),[]⟩
def b9(args:List SV)(X:Prop):Prop:=SV.fo args→X
def body(f:FuncId)(args:List SV)(K:SV→Prop):Prop:=match P.funcs[f]? with
 |some fn=>(match fn.body with
  |some c=>b9 args (aw P gl C h c (fun x e=>match x with| .normal =>finish P fn e K| .ret =>finish P fn e K| .exit _=>False) (enter fn.ntmps args))
  |none=>False)
 |none=>False
def Bw:Code→Code
 | .scope c=>c
 |c=>c
def zQ(p:Nat)(f:FuncId)(args:List SV)(K:SV→Prop):Prop:=match P.funcs[f]? with
 |some fn=>(match fn.body with
  |some c=>bif fn.results.isEmpty&& !(cj [] (Bw c)).contains p then b9 args (aw P gl C h (Bw c) (fun x e=>match x with| .normal =>fP (jo h.gh 3000000) e (fun e=>K (e.ai.getD p (.v .undef)).bJ)| .ret =>fP (jo h.gh 3000000) e (fun e=>K (e.ai.getD p (.v .undef)).bJ)| .exit _=>False) (enter fn.ntmps args))else False
  |none=>False)
 |none=>False
end
end Go.Proofs.Ytimbllcalipehaa.Ab
namespace Go.Proofs.Ytimbllcalipehaa.Ab
open Go Go.RowKit
def pB(g:Gh)(w w':World):Prop:=∀(b:Nat)c ty,some b∈g.bx→w.heap[b]? =some (.cells c ty (0,0))→∃c' pY,w'.heap[b]? =some (.cells c' pY (0,0))∧c'.size=c.size
theorem pB.refl{g:Gh}(w:World):pB g w w:=fun _ c ty _ h=>⟨c,ty,h,rfl⟩
theorem pB.of{g:Gh}{w w':World}(h:∀b,b<w.heap.size→w'.heap[b]? =w.heap[b]?):pB g w w':=fun b c ty _ hb=>⟨c,ty,(h b (fj hb)).trans hb,rfl⟩
theorem pB.trans{g g':Gh}{a b c:World}(h:pB g a b)(k:pB g' b c)(hg:∀x,some x∈g.bx→some x∈g'.bx):pB g a c:=fun x cc ty hm hx=>by
 obtain⟨c1,t1,h1,e1⟩:=h x cc ty hm hx
 obtain⟨c2,t2,h2,e2⟩:=k x c1 t1 (hg x hm) h1
 exact⟨c2,t2,h2,e2.trans e1⟩
structure Ext(base:Nat)(w:World)(g:Gh)(w':World)(g':Gh)(lost:Pos→Prop):Prop where
 df:∀(D:Nat)(o:Obj),some D∉g.bx→g.ow D=none→w.heap[D]? =some o→w'.heap[D]? =some o∧some D∉g'.bx∧g'.ow D=none∧∀x,g'.St D x→g.St D x
 st:∀b o,g.St b o→g'.St b o∧mw w w' b o
 bs:∀b o,b<base→w'.cell? ⟨b,o,none⟩=w.cell? ⟨b,o,none⟩
 bx:∀(i:Nat)aj,g.bx[i]? =some (some aj)→g'.bx[i]? =some (some aj)
 own:∀p b a c,¬lost p→ef base w g p b a c→ef base w' g' p b a c∧qM w w' b a
 sh:pB g w w'
theorem bP.mono{base:Nat}{w w':World}{g g':Gh}{O O':Nat→Nat→Nat→Nat→Prop}{s:Slot}{v:Value}(r:bP base w g O s v)
  (st:∀b o,g.St b o→g'.St b o∧mw w w' b o)(bs:∀b o,b<base→w'.cell? ⟨b,o,none⟩=w.cell? ⟨b,o,none⟩)
  (bx:∀(i:Nat)aj,g.bx[i]? =some (some aj)→g'.bx[i]? =some (some aj))(sh:pB g w w')(hO:∀j b a c,O j b a c→O' j b a c∧qM w w' b a):bP base w' g' O' s v:=by
 induction r generalizing O' with
 |v O x y h=>exact .v _ x y (h.mono st bs _ (hO 0))
 |p O b off aj h=>exact .p _ b off aj (bx _ _ h)
 |a O b n sz v hm h=>obtain⟨aj,cap,h1,h2,h3,h4,c,ty,h5,h6⟩:=h;obtain⟨c',pY,h7,h8⟩:=sh aj c ty (List.mem_of_getElem? h1) h5;exact .a _ b n sz v hm ⟨aj,cap,bx _ _ h1,h2,h3,h4,c',pY,h7,h8.trans h6⟩
 |m O b aj h=>exact .m _ b aj (bx _ _ h)
 |c O f first cap fv cv hf hc _ _ g5 g6=>exact .c _ f first cap fv cv hf hc (fun i x v a b=>g5 i x v a b (fun _ _ _ _ h=>h.elim)) (fun i x v a b=>g6 i x v a b (fun _ _ _ _ h=>h.elim))
 |t O xs vs hl hc=>exact .t _ xs vs hl fun j x v a b=>(hc j x v a b).mono st bs _ (hO j)
theorem bP.aa{base:Nat}{w:World}{g:Gh}{O O':Nat→Nat→Nat→Nat→Prop}{s:Slot}{v:Value}(r:bP base w g O s v):bP base w g O' s.aa v:=by
 cases r with
 |v _ x _ h=>exact .v _ _ _ h.aa
 |p _ b off aj h=>exact .p _ b off aj h
 |a _ b n sz v hm h=>exact .a _ b n sz v hm h
 |m _ b aj h=>exact .m _ b aj h
 |c _ f first cap fv cv hf hc rf rc=>exact .c _ f first cap fv cv hf hc rf rc
 |t _ xs vs hl hc=>
  refine .t _ _ vs (by simpa using hl) fun j x v a b=>?_
  simp only[List.getElem?_map,Option.map_eq_some_iff]at a
  obtain⟨x',a,rfl⟩:=a
  exact(hc j x' v a b).aa
theorem Ext.refl(base:Nat)(w:World)(g:Gh):Ext base w g w g (fun _=>False):=⟨fun _ _ hb ho h=>⟨h,hb,ho,fun _ h=>h⟩,fun _ _ h=>⟨h,.refl _ _ _⟩,fun _ _ _=>rfl,fun _ _ h=>h,fun _ _ _ _ _ h=>⟨h,.refl _ _ _⟩,.refl _⟩
theorem Ext.slot{base:Nat}{w w':World}{g g':Gh}{lost:Pos→Prop}(h:Ext base w g w' g' lost){i:Nat}(hl:∀j,¬lost (.s i j)){s:Slot}{v:Value}
  (r:bP base w g (eA base w g i) s v):bP base w' g' (eA base w' g' i) s v:=
 r.mono h.st h.bs h.bx h.sh fun j b a c ho=>h.own _ b a c (hl j) ho
theorem Ext.none{base:Nat}{w w':World}{g g':Gh}{lost:Pos→Prop}(h:Ext base w g w' g' lost){s:Slot}{v:Value}
  {O O':Nat→Nat→Nat→Nat→Prop}(r:bP base w g O s v):bP base w' g' O' s.aa v:=
 (r.aa (O':=fun _ _ _ _=>False)).mono h.st h.bs h.bx h.sh fun _ _ _ _ h=>h.elim
theorem Ext.R8{base:Nat}{w w':World}{g g':Gh}{lost:Pos→Prop}(h:Ext base w g w' g' lost):∀b o,g.St b o→g'.St b o∧w'.cell? ⟨b,o,Option.none⟩=w.cell? ⟨b,o,Option.none⟩:=fun b o hs=>⟨(h.st b o hs).1,(h.st b o hs).2.1⟩
theorem Ext.z0{base:Nat}{w w':World}{g g':Gh}{lost:Pos→Prop}(h:Ext base w g w' g' lost){x:D}{v:Value}(r:aU w g.St x v):aU w' g'.St x v:=r.mono fun b o hs=>⟨(h.st b o hs).1,(h.st b o hs).2.1⟩
theorem Ext.box{base:Nat}{w w':World}{g g':Gh}{lost:Pos→Prop}(h:Ext base w g w' g' lost){b:Nat}{bx:af}{aj:Nat}(hl:∀j,¬lost (.b b j))
  (hb:w'.heap[aj]? =w.heap[aj]?)(r:mJ base w g b bx aj):mJ base w' g' b bx aj:=by
 cases bx with
 |none=>exact r.elim
 |cells cs=>
  obtain⟨h0,c,t,hc,h1,hr⟩:=r
  exact⟨h0,c,t,hb.trans hc,h1,hr.1,fun j x y hx hy=>(hr.2 j x y hx hy).mono h.st h.bs _ fun b' a c' ho=>h.own _ b' a c' (hl j) ho⟩
 |one s=>
  obtain⟨h0,c,t,hc,h1,hr⟩:=r
  exact⟨h0,c,t,hb.trans hc,h1,hr.1,fun y hy=>(hr.2 y hy).mono h.st h.bs h.bx h.sh fun _ b' a c' ho=>h.own _ b' a c' (hl 0) ho⟩
 |map l=>
  obtain⟨h0,es,clock,hc,h1,hr⟩:=r
  exact⟨h0,es,clock,hb.trans hc,h1,fun i x y hx hy=>⟨(hr i x y hx hy).1,(hr i x y hx hy).2.1,h.z0 (hr i x y hx hy).2.2⟩⟩
theorem Uw{l:List Slot}{dst:Option Nat}{s:Slot}{i:Nat}{x:Slot}(h:(b8 l dst s)[i]? =some x):(dst=some i∧x=s)∨(dst≠some i∧l[i]? =some x):=by
 cases dst with
 |none=>exact .inr ⟨by simp,h⟩
 |some d=>
  simp only[b8,List.getElem?_set]at h
  by_cases hd:d=i
  ·subst hd
   simp only[↓reduceIte]at h
   split at h
   ·exact .inl ⟨rfl,(Option.some.inj h).symm⟩
   ·cases h
  ·simp only[hd,↓reduceIte]at h
   exact .inr ⟨by simpa using hd,h⟩
theorem HJ(a:Act)(dst:Option Tmp)(v:Value)(i:Nat)(h:i<a.tmps.size):(a.put dst v).tmps.getD i undef=if dst=some i then v else a.tmps.getD i undef:=by
 cases dst with
 |none=>simp[Act.put]
 |some d=>
  simp only[Act.put,Array.getD_eq_getD_getElem?,Array.getElem?_setIfInBounds]
  by_cases hd:d=i
  ·subst hd;simp[h]
  ·simp[hd]
theorem Bg(a:Act)(dst:Option Tmp)(v:Value):(a.put dst v).tmps.size =a.tmps.size:=by cases dst<;>simp[Act.put]
theorem put_defers(a:Act)(dst:Option Tmp)(v:Value):(a.put dst v).defers =a.defers:=by cases dst<;>rfl
theorem GB(l:List Slot)(dst:Option Nat)(s:Slot):(b8 l dst s).length =l.length:=by cases dst<;>simp[b8]
theorem y5{w:World}{St:Nat→Nat→Prop}{v:Value}{x:D}(h:xj v=some x):aU w St x v:=by
 unfold xj at h
 split at h
 ·cases h;exact .bool _
 ·rename_i k n
  cases hw:fm k n with
  |true=>rw[hw]at h;cases h;exact .int _ _ hw
  |false=>rw[hw]at h;cases h
 ·rename_i s
  cases hw:Nat.ble s.size maxLen with
  |true=>rw[hw]at h;cases h;exact .str _ (Nat.le_of_ble_eq_true hw)
  |false=>rw[hw]at h;cases h
 ·cases h;exact .fD 0
 ·cases h;exact .my
 ·cases h;exact .qZ
 ·cases h;exact .rb
 ·rename_i f first captured
  cases hw:(first.isEmpty&&captured.isEmpty)with
  |true=>
   rw[hw]at h;cases h
   simp only[Bool.and_eq_true,Array.isEmpty_iff]at hw
   obtain⟨rfl,rfl⟩:=hw
   exact .fn f
  |false=>rw[hw]at h;cases h
 ·cases h
theorem G4{v:Value}{x:D}(h:xj v=some x):x.one=true:=by
 have:∀{w:World}{St},aU w St x v:=y5 h
 unfold xj at h
 split at h<;>first|(cases h;rfl)|(cases h)|skip
 ·rename_i k n;cases hw:fm k n<;>rw[hw]at h<;>cases h;rfl
 ·rename_i s;cases hw:Nat.ble s.size maxLen<;>rw[hw]at h<;>cases h;rfl
 ·rename_i f first captured;cases hw:(first.isEmpty&&captured.isEmpty)<;>rw[hw]at h<;>cases h;rfl
theorem GS:∀{vs:List Value}{xs:List D},xc vs=some xs→∀x∈xs,x.one=true
 |[],xs,h=>by cases h;simp
 |v::vs,xs,h=>by
  simp only[xc]at h
  split at h
  ·rename_i x hx
   split at h
   ·rename_i r hr
    cases h
    intro y hy
    rcases List.mem_cons.1 hy with rfl|hy
    ·exact G4 hx
    ·exact GS hr y hy
   ·cases h
  ·cases h
theorem A0{w:World}{St:Nat→Nat→Prop}:∀{vs:List Value}{xs:List D},xc vs=some xs→
  xs.length=vs.length∧∀(i:Nat)x v,xs[i]? =some x→vs[i]? =some v→aU w St x v
 |[],xs,h=>by cases h;simp
 |v::vs,xs,h=>by
  simp only[xc]at h
  split at h
  ·rename_i x hx
   split at h
   ·rename_i r hr
    cases h
    obtain⟨h1,h2⟩:=A0 (w:=w) (St:=St) hr
    refine⟨by simp[h1],fun i y u hy hu=>?_⟩
    cases i with
    |zero=>simp only[List.getElem?_cons_zero,Option.some.injEq]at hy hu;subst hy hu;exact y5 hx
    |succ i=>simp only[List.getElem?_cons_succ]at hy hu;exact h2 i y u hy hu
   ·cases h
  ·cases h
theorem Wt{w:World}{St:Nat→Nat→Prop}{v:Value}{x:D}(h:ED v=some x):aU w St x v:=by
 unfold ED at h
 split at h
 ·split at h
  ·rename_i cs l hl
   cases h
   obtain⟨h1,h2⟩:=A0 (w:=w) (St:=St) hl
   exact .agg l _ (GS hl) (by simpa using h1) fun i d v hd hv=>h2 i d v hd (by simpa using hv)
  ·cases h
 ·exact y5 h
section
variable{gl:Nat→Option D}{w0:World}{an:S0}
theorem s5.ext{base:Nat}{w w':World}{g g':Gh}{lost:Pos→Prop}(h:Ext base w g w' g' lost)(r:s5 gl w g.St):s5 gl w' g'.St:=by
 intro n x hx
 obtain⟨h0,vs,h1,h2⟩:=r n x hx
 exact⟨h0,vs,fun i hi=>⟨(h.st _ _ (h1 i hi).2).2.1.trans (h1 i hi).1,(h.st _ _ (h1 i hi).2).1⟩,fun i c hc=>h.z0 (h2 i c hc)⟩
theorem Inv.stepG{e:Env}{a:Act}{w:World}{g:Gh}(hI:Inv gl w0 an e a w g){w':World}{g':Gh}{lost:Pos→Prop}(hX:Ext w0.heap.size w g w' g' lost)
  {ai:List Slot}{ax:List af}{dst:Option Nat}{s:Slot}{v:Value}
  (mC:Below w0.heap.size w w')
  (hlen:ai.length=e.ai.length)
  (hs:∀(i:Nat)x,ai[i]? =some x→dst≠some i→bP w0.heap.size w' g' (eA w0.heap.size w' g' i) x (a.tmps.getD i undef))
  (lF:∀d,dst=some d→bP w0.heap.size w' g' (eA w0.heap.size w' g' d) s v)
  (Iz:g'.bx.length=ax.length)
  (di:∀(b:Nat)bx aj,ax[b]? =some bx→g'.bx[b]? =some (some aj)→mJ w0.heap.size w' g' b bx aj)
  (kZ:∀(i j:Nat)aj,g'.bx[i]? =some (some aj)→g'.bx[j]? =some (some aj)→i=j)(B4:∀b,some b∈g'.bx→w0.heap.size≤b∧b<w'.heap.size)
  (xG:∀b o,g'.St b o→(an b o∨w0.heap.size≤b)∧some b∉g'.bx∧b<w'.heap.size):
  Inv gl w0 an ⟨b8 ai dst s,ax⟩ (a.put dst v) w' g':=by
 refine⟨hI.below.trans mC,?_,?_,Iz,di,kZ,fun b o h=>(hX.st b o (hI.fp b o h)).1,xG,B4,hI.ja.ext hX,(put_defers a dst v).trans hI.defers,fun D o hD=>(have h:=hI.ek D o hD;have k:=hX.df D o h.1 h.2.1 h.2.2.1;⟨k.2.1,k.2.2.1,k.1,fun x hx=>h.2.2.2 x (k.2.2.2 x hx)⟩),fun b o v hv=>(have h:=hI.cls b o v hv;⟨(hX.st b o h.1).1,(hX.st b o h.1).2.1.trans h.2⟩),Nat.le_trans hI.iA mC.size⟩
 ·rw[Bg,GB,hlen,hI.size]
 ·intro i x hx
  have hi:i<a.tmps.size:=by
   have:=(List.getElem?_eq_some_iff.1 hx).1
   rw[GB,hlen]at this
   rw[hI.size];exact this
  rw[HJ a dst v i hi]
  rcases Uw hx with⟨hd,rfl⟩|⟨hd,dp⟩
  ·simp only[hd,↓reduceIte];exact lF i hd
  ·simp only[hd,↓reduceIte]
   exact hs i x dp hd
theorem Inv.step{e:Env}{a:Act}{w:World}{g:Gh}(hI:Inv gl w0 an e a w g){w':World}{g':Gh}{lost:Pos→Prop}(hX:Ext w0.heap.size w g w' g' lost)
  {ai:List Slot}{ax:List af}{dst:Option Nat}{s:Slot}{v:Value}
  (mC:Below w0.heap.size w w')
  (hlen:ai.length=e.ai.length)
  (hs:∀(i:Nat)x,ai[i]? =some x→dst≠some i→∃y,e.ai[i]? =some y∧((x=y∧∀j,¬lost (.s i j))∨x=y.aa))
  (lF:∀d,dst=some d→bP w0.heap.size w' g' (eA w0.heap.size w' g' d) s v)
  (Iz:g'.bx.length=ax.length)
  (di:∀(b:Nat)bx aj,ax[b]? =some bx→g'.bx[b]? =some (some aj)→mJ w0.heap.size w' g' b bx aj)
  (kZ:∀(i j:Nat)aj,g'.bx[i]? =some (some aj)→g'.bx[j]? =some (some aj)→i=j)(B4:∀b,some b∈g'.bx→w0.heap.size≤b∧b<w'.heap.size)
  (xG:∀b o,g'.St b o→(an b o∨w0.heap.size≤b)∧some b∉g'.bx∧b<w'.heap.size):
  Inv gl w0 an ⟨b8 ai dst s,ax⟩ (a.put dst v) w' g':=by
 refine hI.stepG hX mC hlen (fun i x hx hd=>?_) lF Iz di kZ B4 xG
 obtain⟨y,hy,⟨rfl,hl⟩|rfl⟩:=hs i x hx hd
 ·exact hX.slot hl (hI.ai i x hy)
 ·exact hX.none (hI.ai i y hy)
theorem Inv.EG{e:Env}{a:Act}{w:World}{g:Gh}(hI:Inv gl w0 an e a w g){w':World}{g':Gh}{dst:Option Nat}
  (hX:Ext w0.heap.size w g w' g' (fun p=>∃d j,dst=some d∧p=.s d j))
  {s:Slot}{v:Value}(mC:Below w.heap.size w w')
  (lF:∀d,dst=some d→bP w0.heap.size w' g' (eA w0.heap.size w' g' d) s v)(di:g'.bx=g.bx)
  (xG:∀b o,g'.St b o→g.St b o∨(w.heap.size≤b∧b<w'.heap.size)):
  Inv gl w0 an ⟨b8 e.ai dst s,e.boxes⟩ (a.put dst v) w' g':=by
 have hle:w0.heap.size≤w.heap.size:=hI.below.size
 refine hI.step hX (mC.mono hle) rfl (fun i x hx hd=>⟨x,hx,.inl ⟨rfl,fun j=>?_⟩⟩) lF (by rw[di];exact hI.eB) ?_ (by rw[di];exact hI.nodup) ?_ ?_
 ·rintro⟨d,j',h1,h2⟩
  cases h2
  exact hd h1
 ·intro b bx aj h1 h2
  rw[di]at h2
  have aI:aj<w.heap.size:=(hI.cZ aj (List.mem_of_getElem? h2)).2
  exact hX.box (fun j=>by rintro⟨d,j',_,h⟩;cases h) (mC.block aj aI) (hI.boxes b bx aj h1 h2)
 ·intro b hb
  rw[di]at hb
  exact⟨(hI.cZ b hb).1,Nat.lt_of_lt_of_le (hI.cZ b hb).2 mC.size⟩
 ·intro b o h
  rw[di]
  rcases xG b o h with h|h
  ·obtain⟨h1,h2,h3⟩:=hI.cm b o h
   exact⟨h1,h2,Nat.lt_of_lt_of_le h3 mC.size⟩
  ·exact⟨.inr (Nat.le_trans hle h.1),fun hm=>by have:=(hI.cZ b hm).2;omega,h.2⟩
theorem Inv.value{e:Env}{a:Act}{w:World}{g:Gh}(hI:Inv gl w0 an e a w g){dst:Option Nat}{s:Slot}{v:Value}
  (lF:bP w0.heap.size w g (fun _ _ _ _=>False) s v):Inv gl w0 an ⟨b8 e.ai dst s,e.boxes⟩ (a.put dst v) w g:=by
 refine hI.EG (w':=w) (g':=g) ⟨fun _ _ hb ho h=>⟨h,hb,ho,fun _ h=>h⟩,fun _ _ h=>⟨h,.refl _ _ _⟩,fun _ _ _=>rfl,fun _ _ h=>h,fun _ _ _ _ _ h=>⟨h,.refl _ _ _⟩,.refl _⟩ (Below.refl _ _) (fun d _=>?_) rfl (fun _ _ h=>.inl h)
 exact lF.mono (fun _ _ h=>⟨h,.refl _ _ _⟩) (fun _ _ _=>rfl) (fun _ _ h=>h) (.refl _) (fun _ _ _ _ h=>h.elim)
theorem Inv.aQ{e:Env}{a:Act}{w:World}{g:Gh}(hI:Inv gl w0 an e a w g)(x:Operand):bP w0.heap.size w g (fun _ _ _ _=>False) (aQ gl e x).aa (a.eval x):=by
 cases x with
 |tmp t=>
  simp only[Ab.aQ,Act.eval,List.getD_eq_getElem?_getD]
  cases h:e.ai[t]? with
  |none=>exact .v _ _ _ (.undef _ _)
  |some s=>exact(hI.ai t s h).aa
 |const v=>
  simp only[Ab.aQ,Act.eval]
  cases h:ED v with
  |none=>exact .v _ _ _ (.undef _ _)
  |some d=>exact .v _ _ _ (.d _ _ _ (Wt h))
 |func f=>exact .v _ _ _ (.d _ _ _ (.fn _))
 |global n=>
  simp only[Ab.aQ,Act.eval]
  cases h:gl n with
  |none=>exact .v _ _ _ (.undef _ _)
  |some x=>
   obtain⟨h0,vs,h1,h2⟩:=hI.ja n x h
   exact .v _ _ _ (.aS _ x 0 n 0 vs h0 (by simpa using h1) h2)
end
end Go.Proofs.Ytimbllcalipehaa.Ab
namespace Go.Proofs.Ytimbllcalipehaa.Ab
open Go Go.RowKit
def tI(lo:Nat)(w:World)(St:Nat→Nat→Prop)(ow:Nat→Option Nat)(j:Nat)(b a c:Nat):Prop:=
 ow b=some j∧lo≤b∧(∃cur e,w.heap[b]? =some (.cells cur e (0,0))∧cur.size=c)∧∀o,a≤o→¬St b o
def tc(lo:Nat)(w:World)(St:Nat→Nat→Prop)(ow:Nat→Option Nat)(r:SV)(v:Value):Prop:=match r with
 | .aK rs=>∃vs,v=.tuple vs∧rs.length=vs.size∧∀(j:Nat)x y,rs[j]? =some x→vs[j]? =some y→aG w St 0 (tI lo w St ow j) x y
 |r=>aG w St 0 (tI lo w St ow 0) r v
def j9(P:Program)(f:FuncId):Prop:=∀(args:Array Value)(w:World),(callFunc f args).run P w=.ok (.enter f args) w
def BH(P:Program)(gl:Nat→Option D):bj:=fun f args r=>j9 P f∧
 ∀(w:World)(St:Nat→Nat→Prop)(vs:Array Value),(∀b o,St b o→b<w.heap.size)→s5 gl w St→args.length=vs.size→
  (∀(i:Nat)x v,args[i]? =some x→vs[i]? =some v→aG w St w.heap.size (fun _ _ _=>False) x v)→
  Calls P f vs w fun e w'=>∃v,e=.returned v∧Below w.heap.size w w'∧∃bz ow,(∀b o,St b o→bz b o)∧(∀b o,bz b o→St b o∨(w.heap.size≤b∧b<w'.heap.size))∧
   tc w.heap.size w' bz ow r v
def ad8(w:World)(St:Nat→Nat→Prop)(A:Nat→Option Nat)(i b a c:Nat):Prop:=
 A b=some i∧(∃cur e,w.heap[b]? =some (.cells cur e (0,0))∧cur.size=c)∧∀o,a≤o→¬St b o
def XO(lo:Nat)(A:Nat→Option Nat)(w:World)(St:Nat→Nat→Prop)(ow:Nat→Option Nat)(j:Nat)(b a c:Nat):Prop:=
 ow b=some j∧(lo≤b∨A b≠none)∧(∃cur e,w.heap[b]? =some (.cells cur e (0,0))∧cur.size=c)∧∀o,a≤o→¬St b o
def rn(w:World)(St:Nat→Nat→Prop)(O:Nat→Nat→Nat→Nat→Prop)(rs:List SV)(v:Value):Prop:=match rs with
 |[r]=>aG w St 0 (O 1) r v
 |rs=>∃vs,v=.tuple vs∧rs.length=vs.size∧∀(j:Nat)x y,rs[j]? =some x→vs[j]? =some y→aG w St 0 (O (j+1)) x y
def IA(P:Program)(gl:Nat→Option D)(f:FuncId)(args:List SV)(p:Nat)(rs:List SV)(bk:SV):Prop:=j9 P f∧SV.fO args=true∧
 ∀(w:World)(St:Nat→Nat→Prop)(A:Nat→Option Nat)(vs:Array Value),(∀b o,St b o→b<w.heap.size)→(∀b i,A b=some i→∃cur e,w.heap[b]? =some (.cells cur e (0,0))∧∀o,cur.size≤o→¬St b o)→s5 gl w St→args.length=vs.size→
  (∀(i:Nat)x v,args[i]? =some x→vs[i]? =some v→aG w St 0 (ad8 w St A i) x v)→
  Calls P f vs w fun e w'=>∃v,e=.returned v∧w'.os=w.os∧w'.tape=w.tape∧w'.output=w.output∧w.heap.size≤w'.heap.size∧(∀b,b<w.heap.size→A b=none→w'.heap[b]? =w.heap[b]?)∧
   ∃bz ow,(∀b o,St b o→bz b o∧mw w w' b o)∧(∀b o,bz b o→St b o∨((w.heap.size≤b∨A b≠none)∧b<w'.heap.size))∧
    rn w' bz (XO w.heap.size A w' bz ow) rs v∧∀y,vs[p]? =some y→aG w' bz 0 (XO w.heap.size A w' bz ow 0) bk y
def ki:List SV→Option (Nat×List SV)
 | .aK (.cM p _ _::_)::args=>some (p,args)
 |_=>none
def aB(P:Program)(gl:Nat→Option D):bj:=fun f args r=>match ki args with
 |some (p,QZ)=>(match r with
  | .aK (bk::rs)=>IA P gl f QZ p rs bk
  |_=>False)
 |none=>BH P gl f args r
theorem wU{P:Program}{gl:Nat→Option D}{f:FuncId}{args:List SV}{r:SV}(h:ki args=none):aB P gl f args r=BH P gl f args r:=by
 unfold aB;rw[h]
theorem Ia{P:Program}{gl:Nat→Option D}{f:FuncId}{args:List SV}{p:Nat}{rs:List SV}{bk:SV}:aB P gl f (oJ p args) (.aK (bk::rs))=IA P gl f args p rs bk:=rfl
theorem NW{args:List SV}(h:∀x l,args=.aK x::l→False):ki args=none:=by
 unfold ki
 split
 ·rename_i p _ _ _ QZ
  exact(h _ _ rfl).elim
 ·rfl
theorem Xz{w:World}{St:Nat→Nat→Prop}{base:Nat}{O:Nat→Nat→Nat→Nat→Prop}{args:List SV}{vs:Array Value}(hlen:args.length=vs.size)(h:∀(i:Nat)x v,args[i]? =some x→vs[i]? =some v→aG w St base (O i) x v):ki args=none:=
 NW fun x l hx=>by
  rw[hx]at hlen
  have h0:0<vs.size:=by rw[←hlen];simp
  have:=h 0 (.aK x) vs[0] (by rw[hx];rfl) (by simp[h0])
  cases this
section
variable{P:Program}{gl:Nat→Option D}{w0:World}{an:S0}{e:Env}{a:Act}{w:World}{g:Gh}
theorem aF{α:Type}{o:Option α}{k:α→Prop}(h:ab o k):∃x,o=some x∧k x:=by
 cases o with
 |none=>exact h.elim
 |some x=>exact⟨x,rfl,h⟩
theorem zh{x:SV}{A B:Prop}(h:aq x A B):∃b,x=.d (.bool b)∧(b=true→A)∧(b=false→B):=by
 unfold aq at h
 split at h
 ·rename_i c
  refine⟨c,rfl,?_,?_⟩<;>rintro rfl<;>exact h
 ·exact h.elim
theorem Inv.nO(hI:Inv gl w0 an e a w g){x:Operand}{s:SV}(h:(Ab.aQ gl e x).aa =.v s):aG w g.St w0.heap.size (fun _ _ _=>False) s (a.eval x):=by
 have:=hI.aQ x
 rw[h]at this
 cases this with
 |v _ _ _ h=>exact h
theorem Inv.gu(hI:Inv gl w0 an e a w g)(x:Operand):aG w g.St w0.heap.size (fun _ _ _=>False) ((Ab.aQ gl e x).aa).bJ (a.eval x):=by
 have:=hI.aQ x
 cases h:(Ab.aQ gl e x).aa with
 |v s=>exact hI.nO h
 |_=>exact .undef _ _
theorem aG.data{St:Nat→Nat→Prop}{base:Nat}{O:Nat→Nat→Nat→Prop}{x:D}{v:Value}(h:aG w St base O (.d x) v):aU w St x v:=by
 cases h with
 |d _ _ _ h=>exact h
abbrev bh(P:Program)(gl:Nat→Option D)(w0:World)(an:S0)(ai:List Slot)(o:Oper)(a:Act)(w:World)(k:Slot→List af→Prop):Prop:=
 ∀(next:Act→World→Prop)(Q:Exit→Act→World→Prop),
  (∀s v ax w' g',Inv gl w0 an ⟨b8 ai o.dst s,ax⟩ (a.put o.dst v) w' g'→k s ax→next (a.put o.dst v) w')→o.wp P a w next Q
theorem bh.value(hI:Inv gl w0 an e a w g){o:Oper}{v:Value}{s:Slot}{k:Slot→List af→Prop}(aV:(execOp a.eval o).run P w=.ok (.value v) w)
  (hr:bP w0.heap.size w g (fun _ _ _ _=>False) s v)(hk:k s e.boxes):bh P gl w0 an e.ai o a w k:=by
 intro next Q hn
 unfold Oper.wp
 rw[aV]
 exact hn s v _ _ _ (hI.value hr) hk
theorem bh.eu(hI:Inv gl w0 an e a w g){o:Oper}{v:Value}{s:SV}{k:Slot→List af→Prop}(aV:(execOp a.eval o).run P w=.ok (.value v) w)
  (hr:aG w g.St w0.heap.size (fun _ _ _=>False) s v)(hk:k (.v s) e.boxes):bh P gl w0 an e.ai o a w k:=
 bh.value hI aV (.v _ _ _ hr) hk
theorem w4(k:IntKind)(n:Int):fm k (k.wrap n)=true:=by
 have hp:(0:Int)<2^k.bits:=Int.pow_pos (by decide)
 have h1:=Int.emod_nonneg n (Int.ne_of_gt hp)
 have h2:=Int.emod_lt_of_pos n hp
 simp only[fm,Bool.and_eq_true,decide_eq_true_eq,IntKind.min,IntKind.max,IntKind.wrap]
 cases k<;>simp only[IntKind.bits,IntKind.signed]at* <;>(try split)<;>simp_all<;>omega
theorem GU{k:IntKind}{n:Int}:fm k n=true↔k.min≤n∧n≤k.max:=by simp[fm]
theorem YY{k:IntKind}{x y:Int}(hx:fm k x=true)(hy:fm k y=true):fm k (x.tmod y)=true:=by
 rw[GU]at*
 have h1:(x.tmod y).natAbs ≤x.natAbs:=by
  rw[Int.natAbs_tmod]
  exact Nat.mod_le _ _
 have h2:0≤x→0≤x.tmod y:=fun h=>Int.tmod_nonneg y h
 have h3:x≤0→x.tmod y≤0:=fun h=>by
  have:=Int.tmod_nonneg (a:= -x) y (by omega)
  rw[Int.neg_tmod]at this
  omega
 have hm:k.min≤0∧0≤k.max:=by cases k<;>simp[IntKind.min,IntKind.max,IntKind.signed,IntKind.bits]
 constructor
 ·rcases Int.le_total 0 x with h|h
  ·have:=h2 h;omega
  ·have:=h3 h;omega
 ·rcases Int.le_total 0 x with h|h
  ·have:=h2 h;omega
  ·have:=h3 h;omega
theorem YZ{k:IntKind}{x:Int}(hx:fm k x=true)(n:Nat):fm k (x.fdiv (2^n))=true:=by
 rw[GU]at*
 have hp:(0:Int)<2^n:=Int.pow_pos (by decide)
 rw[Int.fdiv_eq_ediv_of_nonneg _ (Int.le_of_lt hp)]
 have hm:k.min≤0∧0≤k.max:=by cases k<;>simp[IntKind.min,IntKind.max,IntKind.signed,IntKind.bits]
 constructor
 ·rcases Int.le_total 0 x with h|h
  ·have:=Int.ediv_nonneg h (Int.le_of_lt hp);omega
  ·have:x≤x / 2^n:=by
    have h1:=Int.mul_ediv_add_emod x (2^n)
    have h2:=Int.emod_nonneg x (Int.ne_of_gt hp)
    have h4:x / 2^n≤0:=by
     rcases Int.lt_or_le 0 (x / 2^n)with hh|hh
     ·have h5:2^n*1≤2^n*(x / 2^n):=Int.mul_le_mul_of_nonneg_left (by omega) (Int.le_of_lt hp)
      omega
     ·exact hh
    have h3:(2^n-1)*(x / 2^n)≤0:=Int.mul_nonpos_of_nonneg_of_nonpos (by omega) h4
    have h6:x=x / 2^n+((2^n-1)*(x / 2^n)+x % 2^n):=by
     rw[Int.sub_mul,Int.one_mul];omega
    have h7:=Int.emod_lt_of_pos x hp
    rcases Int.lt_or_le (x / 2^n) x with aI|hle
    ·exfalso
     have h8:2^n*(x / 2^n)≤2^n*(x-1):=Int.mul_le_mul_of_nonneg_left (by omega) (Int.le_of_lt hp)
     have h9:(2^n)*(x-1)≤1*(x-1):=by
      have:0≤(2^n-1)*(1-x):=Int.mul_nonneg (by omega) (by omega)
      rw[Int.sub_mul,Int.mul_sub,Int.mul_sub]at this
      rw[Int.mul_sub]
      omega
     have Cr:2^n*(x / 2^n)+2^n≤2^n*x:=by
      have:2^n*(x-1)=2^n*x-2^n:=by rw[Int.mul_sub,Int.mul_one]
      omega
     have Cs:2^n*x≤x:=by
      have:0≤(2^n-1)*(-x):=Int.mul_nonneg (by omega) (by omega)
      rw[Int.sub_mul,Int.mul_neg,Int.mul_neg]at this
      omega
     omega
    ·exact hle
   omega
 ·rcases Int.le_total 0 x with h|h
  ·have:x / 2^n≤x:=Int.ediv_le_self _ h
   omega
  ·have:x / 2^n≤0:=by
    rcases Int.lt_or_le 0 (x / 2^n)with hh|hh
    ·have h1:=Int.mul_ediv_add_emod x (2^n)
     have h2:=Int.emod_nonneg x (Int.ne_of_gt hp)
     have h5:2^n*1≤2^n*(x / 2^n):=Int.mul_le_mul_of_nonneg_left (by omega) (Int.le_of_lt hp)
     omega
    ·exact hh
   omega
theorem VC{op:BinOp}{k:IntKind}{x y:Int}{r:D}(t:TypeId)(gJ:op≠.shl ∧op≠.shr)(hx:fm k x=true)(hy:fm k y=true)(h:iq op k x y=some r):
  ∃v,(binOp op t (.int k x) (.int k y)).run P w=.ok v w∧aU w g.St r v:=by
 cases op<;>simp only[iq,Option.some.injEq,reduceCtorEq]at h<;>(try (exact absurd rfl gJ.1))<;>(try (exact absurd rfl gJ.2))
 case quo=>
  split at h
  ·cases h
  ·rename_i nP
   cases h
   exact⟨_,by simp[binOp,Op.intDiv,nP],.int _ _ (w4 _ _)⟩
 case rem=>
  split at h
  ·cases h
  ·rename_i nP
   cases h
   exact⟨_,by simp[binOp,Op.intDiv,nP],.int _ _ (YY hx hy)⟩
 all_goals (subst h)
 case add|sub|mul=>exact⟨_,by simp[binOp,Op.intArith],.int _ _ (w4 _ _)⟩
 case and|or|xor|andNot=>exact⟨_,by simp[binOp,Op.intBits],.int _ _ (w4 _ _)⟩
 all_goals exact⟨_,by simp[binOp,Op.intCmp],.bool _⟩
theorem MY{op:BinOp}{k k':IntKind}{x y:Int}{r:D}(t:TypeId)(gJ:op=.shl ∨op=.shr)(hx:fm k x=true)(h:Bt op k x y=some r):
  ∃v,(binOp op t (.int k x) (.int k' y)).run P w=.ok v w∧aU w g.St r v:=by
 unfold Bt at h
 split at h
 ·cases h
 ·rename_i hy
  rcases gJ with rfl|rfl
  ·simp only[Option.some.injEq]at h;subst h
   exact⟨_,by simp[binOp,Op.shift,hy],.int _ _ (w4 _ _)⟩
  ·simp only[Option.some.injEq]at h;subst h
   exact⟨_,by simp[binOp,Op.shift,hy],.int _ _ (YZ hx _)⟩
theorem MN:∀(x y:List UInt8),Op.bytesLess x y=xd x y
 |_,[]=>by cases ‹List UInt8› <;>rfl
 |[],_::_=>rfl
 |a::x,b::y=>by simp only[Op.bytesLess,xd,MN x y]
theorem VD{op:BinOp}{x y:ByteArray}{r:D}(t:TypeId)(h:BF op x.data.toList y.data.toList=some r):
  ∃v,(binOp op t (.string x) (.string y)).run P w=.ok v w∧aU w g.St r v:=by
 have hx:=ByteArray.toList_eq x
 have hy:=ByteArray.toList_eq y
 cases op<;>simp only[BF,Option.some.injEq,reduceCtorEq]at h
 case add=>
  split at h
  ·rename_i hl
   cases h
   have e:(x++y).data.toList =x.data.toList++y.data.toList:=by simp
   have gK:x.size+y.size≤maxLen:=by rw[Array.length_toList,Array.length_toList]at hl;exact hl
   refine⟨.string (x++y),?_,?_⟩
   ·have hM:((maxLen:Nat):Int)=IntKind.i64.max:=by decide
    have:¬(((x.size+y.size:Nat):Int)>IntKind.i64.max):=by
     rw[←hM]
     omega
    simp only[binOp,Op.stringOp]
    rw[if_neg this]
    rfl
   ·rw[←e]
    refine .str _ ?_
    rw[ByteArray.size_append]
    exact gK
  ·cases h
 all_goals (subst h;exact⟨_,by simp[binOp,Op.stringOp,hx,hy,MN],.bool _⟩)
end
end Go.Proofs.Ytimbllcalipehaa.Ab
namespace Go.Proofs.Ytimbllcalipehaa.Ab
open Go Go.RowKit
section
variable{P:Program}{gl:Nat→Option D}{w0:World}{an:S0}{e:Env}{a:Act}{w:World}{g:Gh}
theorem qE:∀{ks:List CK}{xs:List D},dv ks xs=true→xs.length=ks.length
 |[],[],_=>rfl
 |[],_::_,h=>by simp[dv]at h
 |k::ks,[],h=>by cases k<;>simp[dv]at h
 |k::ks,x::xs,h=>by
  cases k<;>cases x<;>simp only[dv,Bool.false_eq_true]at h<;>simp[qE h]
theorem yX:∀{ks ls:List CK}{xs:List D},dv (ks++ls) xs=true→dv ks (xs.take ks.length)=true∧dv ls (xs.drop ks.length)=true
 |[],ls,xs,h=>by simpa[dv]using h
 |k::ks,ls,[],h=>by cases k<;>simp[dv]at h
 |k::ks,ls,x::xs,h=>by
  cases k<;>cases x<;>simp only[List.cons_append,dv,Bool.false_eq_true]at h<;>simpa[dv]using yX h
theorem GC:∀(xs ys xY xZ:List D),xs.length=ys.length→eV (xs++xY) (ys++xZ)=(match eV xs ys with
  |some b=>(match eV xY xZ with|some c=>some (b&&c)|none=>none)|none=>none)
 |[],[],xY,xZ,_=>by
  simp only[List.nil_append,eV]
  cases eV xY xZ<;>simp
 |x::xs,y::ys,xY,xZ,h=>by
  simp only[List.cons_append,eV]
  rw[GC xs ys xY xZ (by simpa using h)]
  cases kO x y<;>simp
  cases eV xs ys<;>simp
  cases eV xY xZ<;>simp[Bool.and_assoc]
 |[],_::_,_,_,h=>by simp at h
 |_::_,[],_,_,h=>by simp at h
def jq(w:World)(St:Nat→Nat→Prop)(xs:List D)(vs:Array Value):Prop:=
 xs.length=vs.size∧∀(i:Nat)x v,xs[i]? =some x→vs[i]? =some v→aU w St x v
theorem jq.agg{w:World}{St:Nat→Nat→Prop}{xs:List D}{vs:Array Value}(h:jq w St xs vs)(hf:∀d∈xs,d.one=true):aU w St (.agg xs) (.agg vs):=.agg xs vs hf h.1 h.2
theorem jq.extract{w:World}{St:Nat→Nat→Prop}{xs:List D}{vs:Array Value}(h:jq w St xs vs)(off n:Nat):
  jq w St ((xs.drop off).take n) (vs.extract off (off+n)):=by
 refine⟨by simp[h.1];omega,fun i x v hx hv=>?_⟩
 rw[List.getElem?_take]at hx
 split at hx
 ·rename_i hi
  rw[List.getElem?_drop]at hx
  rw[Array.getElem?_extract]at hv
  split at hv
  ·exact h.2 (off+i) x v hx hv
  ·cases hv
 ·cases hx
theorem iH{t:TypeId}{n:Nat}(h:dF P t=some n)(w:World):(sizeOf t).run P w=.ok n w:=by
 unfold dF at h
 split at h
 ·rename_i i hi
  cases h
  simp[sizeOf,typeInfo,hi]
 ·cases h
theorem NX{t:TypeId}{b:Bool}(h:dm P t=some b)(w:World):(isAgg t).run P w=.ok b w:=by
 unfold dm at h
 split at h
 ·rename_i fs hu;cases h;simp[isAgg,run_underlying hu]
 ·rename_i n e' hu;cases h;simp[isAgg,run_underlying hu]
 ·rename_i d h1 h2 hu
  cases h
  simp only[isAgg,Sem.run_bind,run_underlying hu,Result.andThen_ok]
  cases d<;>first|rfl|(exact absurd hu (h1 _))|(exact absurd hu (h2 _ _))
 ·cases h
theorem D8{t:TypeId}{b:Bool}{n:Nat}(h:js P t=some (b,n)):dm P t=some b∧dF P t=some n∧(b=false→n=1):=by
 unfold js at h
 split at h
 ·rename_i b' hb
  split at h
  ·rename_i i hi
   cases hc:(b'||Nat.beq i.size 1)with
   |false=>rw[hc]at h;cases h
   |true=>
    rw[hc]at h
    cases h
    refine⟨hb,by simp[dF,hi],fun hf=>?_⟩
    subst hf
    exact Nat.eq_of_beq_eq_true (by simpa using hc)
  ·cases h
 ·cases h
theorem XA{t:TypeId}{b:Bool}{n:Nat}(hb:dm P t=some b)(hn:dF P t=some n)(cs:Array Value)(off:Nat)(w:World):
  (part t cs off).run P w=if b then .ok (.agg (cs.extract off (off+n))) w else(match cs[off]? with|some v=>.ok v w|none=>.halt (.stuck "part: no such cell") w):=by
 unfold part
 simp only[Sem.run_bind,NX hb,Result.andThen_ok]
 cases b
 ·simp only[Bool.false_eq_true,if_false]
  cases cs[off]? <;>rfl
 ·simp[iH hn]
def gv(w:World)(St:Nat→Nat→Prop)(b:Bool)(xs:List D)(v:Value):Prop:=
 if b then ∃cs,v=.agg cs∧jq w St xs cs else ∃x,xs=[x]∧aU w St x v
theorem AY{f:Nat}{t:TypeId}{ks:List CK}(h:shapeOf P f t=some ks):dF P t=some ks.length∧
  ((dm P t=some false∧ks.length=1)∨dm P t=some true):=by
 cases f with
 |zero=>simp[shapeOf]at h
 |succ f=>
  rw[shapeOf]at h
  split at h
  ·rename_i hu;split at h<;>cases h;rename_i hs;exact⟨hs,.inl ⟨by simp[dm,hu],rfl⟩⟩
  ·rename_i hu;split at h<;>cases h;rename_i hs;exact⟨hs,.inl ⟨by simp[dm,hu],rfl⟩⟩
  ·rename_i hu;split at h<;>cases h;rename_i hs;exact⟨hs,.inl ⟨by simp[dm,hu],rfl⟩⟩
  ·rename_i n e' hu
   split at h
   ·rename_i lK fT
    split at h
    ·rename_i s hs
     cases hc:Nat.beq s (n*lK.length)with
     |true=>
      rw[hc]at h;cases h
      have:(vd lK n).length =n*lK.length:=by
       clear hc hu hs
       induction n with
       |zero=>simp[vd]
       |succ n ih=>simp[vd,ih,Nat.succ_mul];omega
      have h2:=Nat.eq_of_beq_eq_true hc
      exact⟨by rw[hs,this,h2],.inr (by simp[dm,hu])⟩
     |false=>rw[hc]at h;cases h
    ·cases h
   ·cases h
  ·rename_i fs hu
   cases aT:P.stoodInHeld t with
   |true=>rw[aT]at h;cases h
   |false=>
    rw[aT]at h
    simp only[cond_false]at h
    split at h
    ·rename_i lK fT
     split at h
     ·rename_i s hs
      cases hc:Nat.beq s lK.length with
      |true=>
       rw[hc]at h;cases h
       have h2:=Nat.eq_of_beq_eq_true hc
       exact⟨by rw[hs,h2],.inr (by simp[dm,hu])⟩
      |false=>rw[hc]at h;cases h
     ·cases h
    ·cases h
  ·cases h
theorem jq.valOf{xs:List D}{vs:Array Value}(h:jq w g.St xs vs){t:TypeId}{b:Bool}{n off:Nat}(hb:dm P t=some b)(hn:dF P t=some n)
  (h1:b=false→n=1)(hle:off+n≤xs.length):∃v,(part t vs off).run P w=.ok v w∧gv w g.St b ((xs.drop off).take n) v:=by
 rw[XA hb hn]
 cases b with
 |true=>exact⟨_,by simp;rfl,by simp only[gv,if_true];exact⟨_,rfl,h.extract off n⟩⟩
 |false=>
  have oY:=h1 rfl
  subst oY
  have aI:off<xs.length:=by omega
  have z1:off<vs.size:=by rw[←h.1];exact aI
  refine⟨vs[off],by simp[z1],?_⟩
  simp only[gv,Bool.false_eq_true,if_false]
  refine⟨xs[off],?_,h.2 off _ _ (by simp) (by simp)⟩
  rw[List.drop_eq_getElem_cons aI,List.take_succ_cons,List.take_zero]
theorem Mw(d:Nat)(go:TypeId→Option (List CK))(aH:∀t ks,go t=some ks→dF P t=some ks.length∧((dm P t=some false∧ks.length=1)∨dm P t=some true))
  (ih:∀(t:TypeId)(ks:List CK)(b:Bool)(xs ys:List D)(vx vy:Value)(r:Bool),go t=some ks→dm P t=some b→
    dv ks xs=true→dv ks ys=true→gv w g.St b xs vx→gv w g.St b ys vy→eV xs ys=some r→(Op.equalIn d t vx vy).run P w=.ok r w)
  {xs ys:List D}{cx cy:Array Value}(rx:jq w g.St xs cx)(ry:jq w g.St ys cy):∀(fs:List Field)(off:Nat)(ks:List CK)(r:Bool),yW go fs off=some ks→off≤xs.length→off≤ys.length→
   dv ks (xs.drop off)=true→dv ks (ys.drop off)=true→eV (xs.drop off) (ys.drop off)=some r→(Op.eqFields d cx cy fs).run P w=.ok r w
 |[],off,ks,r,h,_,_,hx,hy,he=>by
  simp only[yW,Option.some.injEq]at h
  subst h
  have h1:=qE hx
  have h2:=qE hy
  rw[List.eq_nil_of_length_eq_zero h1,List.eq_nil_of_length_eq_zero h2]at he
  simp only[eV,Option.some.injEq]at he
  subst he
  rfl
 |f::fs,off,ks,r,h,hox,hoy,hx,hy,he=>by
  simp only[yW]at h
  split at h
  ·rename_i kf Fo
   cases hc:(f.name != "_" &&Nat.beq f.offset off)with
   |false=>rw[hc]at h;cases h
   |true=>
    rw[hc]at h
    simp only[cond_true]at h
    split at h
    ·rename_i kr Ks
     cases h
     simp only[Bool.and_eq_true,bne_iff_ne,ne_eq]at hc
     have xH:=Nat.eq_of_beq_eq_true hc.2
     obtain⟨gx,v9⟩:=yX hx
     obtain⟨nQ,rL⟩:=yX hy
     obtain⟨hs,x5⟩:=aH _ _ Fo
     have lx:=qE hx
     have ly:=qE hy
     simp only[List.length_drop,List.length_append]at lx ly
     rw[←List.take_append_drop kf.length (xs.drop off),←List.take_append_drop kf.length (ys.drop off),
      GC _ _ _ _ (by simp;omega)]at he
     split at he
     ·rename_i b1 k7
      split at he
      ·rename_i b2 mV
       cases he
       have rest:=Mw d go aH ih rx ry fs (off+kf.length) kr b2 Ks (by omega) (by omega) (by rw[List.drop_drop]at v9;exact v9) (by rw[List.drop_drop]at rL;exact rL)
        (by rw[List.drop_drop,List.drop_drop]at mV;exact mV)
       obtain⟨b,hb,h1⟩:∃b,dm P f.type=some b∧(b=false→kf.length=1):=by
        rcases x5 with⟨h1,h2⟩|h1
        ·exact⟨false,h1,fun _=>h2⟩
        ·exact⟨true,h1,by simp⟩
       obtain⟨vx,px,qx⟩:=rx.valOf (off:=f.offset) hb hs h1 (by omega)
       obtain⟨vy,py,qy⟩:=ry.valOf (off:=f.offset) hb hs h1 (by omega)
       rw[xH]at qx qy
       have hq:=ih f.type kf b _ _ vx vy b1 Fo hb gx nQ qx qy k7
       simp only[Op.eqFields,if_pos hc.1,Sem.run_bind,px,py,hq,Result.andThen_ok]
       cases b1
       ·simp
       ·simpa using rest
      ·cases he
     ·cases he
    ·cases h
  ·cases h
theorem MC(d:Nat)(t:TypeId)(ks:List CK)(b:Bool)(hb:dm P t=some b)(hs:dF P t=some ks.length)(h1:b=false→ks.length=1)
  (ih:∀(xs ys:List D)(vx vy:Value)(r:Bool),dv ks xs=true→dv ks ys=true→gv w g.St b xs vx→gv w g.St b ys vy→eV xs ys=some r→
    (Op.equalIn d t vx vy).run P w=.ok r w)
  {xs ys:List D}{cx cy:Array Value}(rx:jq w g.St xs cx)(ry:jq w g.St ys cy):∀(n i:Nat)(r:Bool),dv (vd ks n) (xs.drop (i*ks.length))=true→
   dv (vd ks n) (ys.drop (i*ks.length))=true→eV (xs.drop (i*ks.length)) (ys.drop (i*ks.length))=some r→
   (Op.eqItems d t ks.length cx cy (List.range' i n)).run P w=.ok r w
 |0,i,r,hx,hy,he=>by
  rw[List.eq_nil_of_length_eq_zero (qE hx),List.eq_nil_of_length_eq_zero (qE hy)]at he
  simp only[eV,Option.some.injEq]at he
  subst he
  rfl
 |n+1,i,r,hx,hy,he=>by
  simp only[vd]at hx hy
  obtain⟨gx,v9⟩:=yX hx
  obtain⟨nQ,rL⟩:=yX hy
  have lx:=qE hx
  have ly:=qE hy
  simp only[List.length_drop,List.length_append]at lx ly
  rw[←List.take_append_drop ks.length (xs.drop (i*ks.length)),←List.take_append_drop ks.length (ys.drop (i*ks.length)),
   GC _ _ _ _ (by simp;omega)]at he
  split at he
  ·rename_i b1 k7
   split at he
   ·rename_i b2 mV
    cases he
    have e:i*ks.length+ks.length=(i+1)*ks.length:=by rw[Nat.succ_mul]
    have rest:=MC d t ks b hb hs h1 ih rx ry n (i+1) b2 (by rw[List.drop_drop,e]at v9;exact v9) (by rw[List.drop_drop,e]at rL;exact rL)
     (by rw[List.drop_drop,List.drop_drop,e]at mV;exact mV)
    by_cases hz:ks.length=0∧xs.length<i*ks.length
    ·rw[hz.1]at hz;omega
    have kx:i*ks.length+ks.length≤xs.length:=by
     by_cases h0:ks.length=0
     ·rw[h0];omega
     ·omega
    have ky:i*ks.length+ks.length≤ys.length:=by
     by_cases h0:ks.length=0
     ·rw[h0];omega
     ·omega
    obtain⟨vx,px,qx⟩:=rx.valOf (off:=i*ks.length) hb hs h1 kx
    obtain⟨vy,py,qy⟩:=ry.valOf (off:=i*ks.length) hb hs h1 ky
    have hq:=ih _ _ vx vy b1 gx nQ qx qy k7
    simp only[List.range'_succ,Op.eqItems,Sem.run_bind,px,py,hq,Result.andThen_ok]
    cases b1
    ·simp
    ·simpa using rest
   ·cases he
  ·cases he
theorem GJ:∀(f d:Nat)(t:TypeId)(ks:List CK)(b:Bool)(xs ys:List D)(vx vy:Value)(r:Bool),shapeOf P f t=some ks→f≤d→dm P t=some b→
  dv ks xs=true→dv ks ys=true→gv w g.St b xs vx→gv w g.St b ys vy→eV xs ys=some r→(Op.equalIn d t vx vy).run P w=.ok r w:=by
 intro f
 induction f with
 |zero=>intro d t ks b xs ys vx vy r h;simp[shapeOf]at h
 |succ f ih=>
  intro d t ks b xs ys vx vy r aO hd hb hx hy rx ry he
  obtain⟨d,rfl⟩:∃d',d=d'+1:=⟨d-1,by omega⟩
  have aH:=AY aO
  rw[shapeOf]at aO
  split at aO
  ·
   rename_i hu
   split at aO<;>cases aO
   have:b=false:=by simpa[dm,hu]using hb.symm
   subst this
   simp only[gv,Bool.false_eq_true,if_false]at rx ry
   obtain⟨x,rfl,rx⟩:=rx
   obtain⟨y,rfl,ry⟩:=ry
   cases x<;>simp[dv]at hx
   cases y<;>simp[dv]at hy
   cases rx;cases ry
   rw[run_equalIn_bool' w d t _ _ hu]
   simp[eV,kO]at he
   rw[←he]
  ·rename_i k hu
   split at aO<;>cases aO
   have:b=false:=by simpa[dm,hu]using hb.symm
   subst this
   simp only[gv,Bool.false_eq_true,if_false]at rx ry
   obtain⟨x,rfl,rx⟩:=rx
   obtain⟨y,rfl,ry⟩:=ry
   cases x<;>simp[dv]at hx
   cases y<;>simp[dv]at hy
   rename_i k1 n1 k2 n2
   cases rx;cases ry
   by_cases hk:k1=k2
   ·subst hk
    rw[run_equalIn_int w d t _ k _ _ hu]
    simp[eV,kO]at he
    rw[←he]
   ·simp[eV,kO,hk]at he
  ·rename_i hu
   split at aO<;>cases aO
   have:b=false:=by simpa[dm,hu]using hb.symm
   subst this
   simp only[gv,Bool.false_eq_true,if_false]at rx ry
   obtain⟨x,rfl,rx⟩:=rx
   obtain⟨y,rfl,ry⟩:=ry
   cases x<;>simp[dv]at hx
   cases y<;>simp[dv]at hy
   cases rx with|str s1 _=>
   cases ry with|str s2 _=>
   rw[run_equalIn_string w d t _ _ hu]
   rw[ByteArray.toList_eq,ByteArray.toList_eq]
   simp only[eV,kO,Bool.and_true,Option.some.injEq]at he
   rw[←he]
  ·
   rename_i n e' hu
   split at aO
   ·rename_i lK fT
    split at aO
    ·rename_i s hs
     cases hc:Nat.beq s (n*lK.length)with
     |false=>rw[hc]at aO;cases aO
     |true=>
      rw[hc]at aO;cases aO
      have:b=true:=by simpa[dm,hu]using hb.symm
      subst this
      simp only[gv,if_true]at rx ry
      obtain⟨cx,rfl,rx⟩:=rx
      obtain⟨cy,rfl,ry⟩:=ry
      obtain⟨fc,x5⟩:=AY fT
      obtain⟨b,dq,h1⟩:∃b,dm P e'=some b∧(b=false→lK.length=1):=by
       rcases x5 with⟨h1,h2⟩|h1
       ·exact⟨false,h1,fun _=>h2⟩
       ·exact⟨true,h1,by simp⟩
      obtain⟨i,hi,his⟩:∃i,P.info? e'=some i∧P.cellsOf e'=lK.length:=by
       unfold dF at fc
       split at fc
       ·rename_i i hi;exact⟨i,hi,by simpa[Program.cellsOf,hi]using fc⟩
       ·cases fc
      rw[run_equalIn_array w d _ _ hu hi,his,List.range_eq_range']
      exact MC d e' lK b dq fc h1 (fun xs ys vx vy r=>ih d e' lK b xs ys vx vy r fT (by omega) dq) rx ry n 0 r (by simpa using hx) (by simpa using hy) (by simpa using he)
    ·cases aO
   ·cases aO
  ·
   rename_i fs hu
   cases aT:P.stoodInHeld t with
   |true=>rw[aT]at aO;cases aO
   |false=>
    rw[aT]at aO
    simp only[cond_false]at aO
    split at aO
    ·rename_i lK fT
     split at aO
     ·rename_i s hs
      cases hc:Nat.beq s lK.length with
      |false=>rw[hc]at aO;cases aO
      |true=>
       rw[hc]at aO;cases aO
       have:b=true:=by simpa[dm,hu]using hb.symm
       subst this
       simp only[gv,if_true]at rx ry
       obtain⟨cx,rfl,rx⟩:=rx
       obtain⟨cy,rfl,ry⟩:=ry
       have Ap:P.fieldsOf t=fs:=by simp[Program.fieldsOf,hu]
       rw[run_equalIn_struct w d t _ _ (by rw[Ap];exact hu) aT,Ap]
       exact Mw d (shapeOf P f) (fun t ks h=>AY h) (fun t ks b xs ys vx vy r h=>ih d t ks b xs ys vx vy r h (by omega)) rx ry fs.toList 0 _ r fT (Nat.zero_le _) (Nat.zero_le _) (by simpa using hx) (by simpa using hy) (by simpa using he)
     ·cases aO
    ·cases aO
  ·cases aO
end
end Go.Proofs.Ytimbllcalipehaa.Ab
namespace Go.Proofs.Ytimbllcalipehaa.Ab
open Go Go.RowKit
theorem ot(b o n:Nat):(⟨b,o,none⟩:Addr).add n=⟨b,o+n,none⟩:=by unfold Addr.add;split<;>simp_all
section
variable{P:Program}{gl:Nat→Option D}{w0:World}{an:S0}{e:Env}{a:Act}{w:World}{g:Gh}
theorem ig(w:World)(o:Obj)(b:Nat)(h:b<w.heap.size):(w.alloc o).heap[b]? =w.heap[b]? :=by
 show(w.heap.push o)[b]? =_
 rw[Array.getElem?_push,if_neg (Nat.ne_of_lt h)]
theorem u2(w:World)(o:Obj):(w.alloc o).heap[w.heap.size]? =some o:=by
 show(w.heap.push o)[w.heap.size]? =_
 simp
theorem A5(w:World)(o:Obj):(w.alloc o).heap.size =w.heap.size+1:=by
 show(w.heap.push o).size =_
 simp
theorem GD(w:World)(o:Obj)(b off:Nat)(h:b<w.heap.size):(w.alloc o).cell? ⟨b,off,none⟩=w.cell? ⟨b,off,none⟩:=
 World.cell?_of_block (ig w o b h)
theorem Inv.nI(hI:Inv gl w0 an e a w g){b o:Nat}(h:g.St b o):b<w.heap.size:=(hI.cm b o h).2.2
theorem ef.lt{base:Nat}{p:Pos}{b a c:Nat}(h:ef base w g p b a c):b<w.heap.size:=by
 obtain⟨_,_,_,⟨cur,e,h,_⟩,_⟩:=h
 exact(Array.getElem?_eq_some_iff.1 h).1
theorem bh.Qi(hI:Inv gl w0 an e a w g){o:Oper}{ob:Obj}{bx:af}{id:Nat}{sl:Slot}{vl:Value}{k:Slot→List af→Prop}
  (eD:e.boxes[id]? =some .none)
  (aV:(execOp a.eval o).run P w=.ok (.value vl) (w.alloc ob))
  (gM:∀(g':Gh)(O:Nat→Nat→Nat→Nat→Prop),g'.bx[id]? =some (some w.heap.size)→bP w0.heap.size (w.alloc ob) g' O sl vl)
  (rep:∀(g':Gh),Ext w0.heap.size w g (w.alloc ob) g' (fun _=>False)→w0.heap.size≤w.heap.size→mJ w0.heap.size (w.alloc ob) g' id bx w.heap.size)
  (hk:k sl (e.boxes.set id bx)):bh P gl w0 an e.ai o a w k:=by
 intro next Q hn
 unfold Oper.wp
 rw[aV]
 have hle:w0.heap.size≤w.heap.size:=hI.below.size
 have JA:id<e.boxes.length:=(List.getElem?_eq_some_iff.1 eD).1
 have ad9:∀aj,g.bx[id]? ≠some (some aj):=fun aj h=>by
  exact hI.boxes id .none aj eD h
 have dw:∀b,some b∈g.bx.set id (some w.heap.size)→some b∈g.bx∨b=w.heap.size:=fun b h=>by
  rcases List.mem_or_eq_of_mem_set h with h|h
  ·exact .inl h
  ·exact .inr (by simpa using h)
 have hX:Ext w0.heap.size w g (w.alloc ob) {g with bx:=g.bx.set id (some w.heap.size)} (fun _=>False):=by
  refine⟨fun D o hb ho h=>⟨(ig w _ D (fj h)).trans h,fun hm=>(by
   rcases dw D hm with h2|h2
   ·exact hb h2
   ·have:=fj h;omega),ho,fun _ h=>h⟩,fun b o h=>⟨h,.pt (ig w _ b (hI.nI h))⟩,fun b o h=>GD w _ b o (by omega),fun i aj h=>?_,fun p b a c _ ho=>?_,.of fun b hb=>ig w _ b hb⟩
  ·simp only
   rw[List.getElem?_set_ne (fun hh=>ad9 aj (by rw[hh];exact h))]
   exact h
  ·have aI:=ho.lt
   obtain⟨h1,h2,h3,⟨cur,ty,h4,jT⟩,h5⟩:=ho
   refine⟨⟨h1,h2,?_,⟨cur,ty,(ig w _ b aI).trans h4,jT⟩,h5⟩,fun _=>ig w _ b aI⟩
   intro hm
   rcases dw b hm with h|h
   ·exact h3 h
   ·omega
 refine hn sl _ _ _ {g with bx:=g.bx.set id (some w.heap.size)} (hI.step (lost:=fun p=>∃d j,o.dst=some d∧p=.s d j)
  ⟨hX.df,hX.st,hX.bs,hX.bx,fun p b a c _ ho=>hX.own p b a c (fun h=>h) ho,hX.sh⟩ ((Below.refl _ _).alloc hle _) rfl
  (fun i x hx hd=>⟨x,hx,.inl ⟨rfl,fun j=>?_⟩⟩) ?_ (by simp[hI.eB]) ?_ ?_ ?_ ?_) hk
 ·rintro⟨d,j',h1,h2⟩;cases h2;exact hd h1
 ·intro d _
  refine gM _ _ ?_
  simp only
  rw[List.getElem?_set_self (by rw[hI.eB];exact JA)]
 ·intro b dV aj h1 h2
  simp only at h2
  by_cases hb:id=b
  ·subst hb
   rw[List.getElem?_set_self JA]at h1
   rw[List.getElem?_set_self (by rw[hI.eB];exact JA)]at h2
   simp only[Option.some.injEq]at h1 h2
   subst h1 h2
   exact rep _ hX hle
  ·rw[List.getElem?_set_ne hb]at h1 h2
   have B4:=(hI.cZ aj (List.mem_of_getElem? h2)).2
   exact hX.box (fun _ h=>h) (ig w _ aj B4) (hI.boxes b dV aj h1 h2)
 ·intro i j aj h1 h2
  simp only at h1 h2
  rw[List.getElem?_set]at h1 h2
  split at h1<;>split at h2
  ·omega
  ·rename_i hi hj
   split at h1
   ·simp only[Option.some.injEq]at h1
    subst h1
    have:=(hI.cZ _ (List.mem_of_getElem? h2)).2
    omega
   ·cases h1
  ·rename_i hi hj
   split at h2
   ·simp only[Option.some.injEq]at h2
    subst h2
    have:=(hI.cZ _ (List.mem_of_getElem? h1)).2
    omega
   ·cases h2
  ·exact hI.nodup i j aj h1 h2
 ·intro b hb
  have hs:(w.alloc ob).heap.size =w.heap.size+1:=A5 w _
  rw[hs]
  rcases dw b hb with hb|rfl
  ·have:=hI.cZ b hb;omega
  ·omega
 ·intro b o h
  have hs:(w.alloc ob).heap.size =w.heap.size+1:=A5 w _
  have h1:=hI.cm b o h
  refine⟨h1.1,fun hm=>?_,by omega⟩
  rcases dw b hm with h|h
  ·exact h1.2.1 h
  ·omega
theorem bh.Eo(hI:Inv gl w0 an e a w g){o:Oper}{cells:Array Value}{t:TypeId}{bx:af}{id:Nat}{k:Slot→List af→Prop}
  (eD:e.boxes[id]? =some .none)
  (aV:(execOp a.eval o).run P w=.ok (.value (.pointer (some ⟨w.heap.size,0,none⟩))) (w.alloc (.cells cells t)))
  (bV:∀y∈cells,y.oneCell'=true)
  (rep:∀(w':World)(g':Gh)(O:Nat→Nat→Nat→Nat→Prop),Ext w0.heap.size w g w' g' (fun _=>False)→(match(generalizing:=false) bx with
    | .none =>False
    | .map _=>False
    | .cells cs=>cs.length≤cells.size∧∀(j:Nat)x y,cs[j]? =some x→cells[j]? =some y→aG w' g'.St w0.heap.size (O j) x y
    | .one s=>0<cells.size∧∀y,cells[0]? =some y→bP w0.heap.size w' g' (fun _=>O 0) s y))
  (hk:k (.p id 0) (e.boxes.set id bx)):bh P gl w0 an e.ai o a w k:=by
 refine bh.Qi hI eD aV (fun g' O hb=>.p _ _ _ _ hb) (fun g' hX hle=>?_) hk
 have:=rep _ g' (pP w0.heap.size (w.alloc (.cells cells t)) g' id) hX
 cases bx with
 |none=>exact this.elim
 |map l=>exact this.elim
 |cells cs=>exact⟨hle,cells,t,u2 w _,fun j y _ h=>bV y (Array.mem_of_getElem? h),this⟩
 |one s=>exact⟨hle,cells,t,u2 w _,fun j y _ h=>bV y (Array.mem_of_getElem? h),this⟩
theorem Inv.Qj(hI:Inv gl w0 an e a w g){b aj:Nat}{dV:af}{w':World}{dst:Option Nat}{s:Slot}{v:Value}{ai:List Slot}
  (pJ tq:Nat→Prop){g':Gh}(g7:g'.St=g.St)(rM:g'.bx=g.bx)
  (pZ:∀p mK,(∀i j,p=.s i j→¬pJ i)→(∀j,p=.b b j→¬tq j)→(∀d j,dst=some d→p≠.s d j)→g.ow mK=some p→g'.ow mK=some p)(Ku:∀D,g.ow D=none→g'.ow D=none)
  (hb:g.bx[b]? =some (some aj))
  (dH:∀k,k≠aj→w'.heap[k]? =w.heap[k]?)(aO:∀c ty,w.heap[aj]? =some (.cells c ty (0,0))→∃c' pY,w'.heap[aj]? =some (.cells c' pY (0,0))∧c'.size=c.size)(aH:w'.heap.size=w.heap.size)
  (ug:w'.os=w.os∧w'.tape=w.tape∧w'.output=w.output)
  (hlen:ai.length=e.ai.length)
  (hs:∀(i:Nat)x,ai[i]? =some x→dst≠some i→∃y,e.ai[i]? =some y∧((x=y∧¬pJ i)∨x=y.aa))
  (rep:Ext w0.heap.size w g w' g' (fun p=>(∃i j,p=.s i j∧pJ i)∨(∃j,p=.b b j∧tq j)∨(∃d j,dst=some d∧p=.s d j))→w0.heap.size≤aj→mJ w0.heap.size w' g' b dV aj)
  (lF:Ext w0.heap.size w g w' g' (fun p=>(∃i j,p=.s i j∧pJ i)∨(∃j,p=.b b j∧tq j)∨(∃d j,dst=some d∧p=.s d j))→
    ∀d,dst=some d→bP w0.heap.size w' g' (eA w0.heap.size w' g' d) s v):
  Inv gl w0 an ⟨b8 ai dst s,e.boxes.set b dV⟩ (a.put dst v) w' g':=by
 have wa:some aj∈g.bx:=List.mem_of_getElem? hb
 have dO:=hI.cZ aj wa
 have hX:Ext w0.heap.size w g w' g' (fun p=>(∃i j,p=.s i j∧pJ i)∨(∃j,p=.b b j∧tq j)∨(∃d j,dst=some d∧p=.s d j)):=by
  refine⟨fun D o iB ho h=>⟨(dH D (fun e=>iB (by rw[e];exact wa))).trans h,by rw[rM];exact iB,Ku D ho,fun x hx=>by rw[g7]at hx;exact hx⟩,fun b' o h=>⟨by rw[g7];exact h,.pt (dH b' ?_)⟩,fun b' o h=>World.cell?_of_block (dH b' (by omega)),fun i x h=>by rw[rM];exact h,?_,fun b' c ty _ dq=>(by
   by_cases dN:b'=aj
   ·subst dN;exact aO c ty dq
   ·exact⟨c,ty,(dH b' dN).trans dq,rfl⟩)⟩
  ·rintro rfl;exact(hI.cm b' o h).2.1 wa
  ·rintro p b' a' c' hl ⟨h1,h2,h3,⟨cur,ty,h4,jT⟩,h5⟩
   exact⟨⟨pZ p b' (fun i j h gK=>hl (.inl ⟨i,j,h,gK⟩)) (fun j h gK=>hl (.inr (.inl ⟨j,h,gK⟩))) (fun d j h1 h2=>hl (.inr (.inr ⟨d,j,h1,h2⟩))) h1,h2,by rw[rM];exact h3,
    ⟨cur,ty,(dH b' (fun h=>h3 (h▸wa))).trans h4,jT⟩,fun o ho=>by rw[g7];exact h5 o ho⟩,fun _=>dH b' (fun h=>h3 (h▸wa))⟩
 have mC:Below w0.heap.size w w':=⟨ug.1,ug.2.1,ug.2.2,by omega,fun k hk=>dH k (by omega)⟩
 refine hI.step hX mC hlen (fun i x hx hd=>?_) (lF hX) (by rw[rM];simp[hI.eB]) ?_ (by rw[rM];exact hI.nodup) ?_ ?_
 ·obtain⟨y,hy,⟨rfl,hl⟩|h⟩:=hs i x hx hd
  ·refine⟨x,hy,.inl ⟨rfl,fun j=>?_⟩⟩
   rintro(⟨i',j',h,gK⟩|⟨j',h,_⟩|⟨d,j',h1,h2⟩)
   ·cases h;exact hl gK
   ·cases h
   ·cases h2;exact hd h1
  ·exact⟨y,hy,.inr h⟩
 ·intro b' bx mK h1 h2
  rw[rM]at h2
  rw[List.getElem?_set]at h1
  by_cases dN:b=b'
  ·subst dN
   rw[hb]at h2;cases h2
   simp only[↓reduceIte]at h1
   split at h1
   ·cases h1
    exact rep hX dO.1
   ·cases h1
  ·simp only[dN,↓reduceIte]at h1
   have bf:mK≠aj:=by
    rintro rfl
    exact dN (hI.nodup _ _ _ hb h2)
   refine hX.box (fun j=>?_) (dH mK bf) (hI.boxes b' bx mK h1 h2)
   rintro(⟨i',j',h,gK⟩|⟨j',h,_⟩|⟨d,j',h1,h2⟩)
   ·cases h
   ·cases h;exact dN rfl
   ·cases h2
 ·intro x hx;rw[rM]at hx;rw[aH];exact hI.cZ x hx
 ·intro b' o h;rw[g7]at h;rw[rM,aH];exact hI.cm b' o h
theorem Inv.IB(hI:Inv gl w0 an e a w g){b aj:Nat}{dV:af}{w':World}{cells:Array Value}{t:TypeId}{dst:Option Nat}{s:Slot}{v:Value}{ai:List Slot}
  (pJ tq:Nat→Prop){g':Gh}(g7:g'.St=g.St)(rM:g'.bx=g.bx)
  (pZ:∀p mK,(∀i j,p=.s i j→¬pJ i)→(∀j,p=.b b j→¬tq j)→(∀d j,dst=some d→p≠.s d j)→g.ow mK=some p→g'.ow mK=some p)(Ku:∀D,g.ow D=none→g'.ow D=none)
  (hb:g.bx[b]? =some (some aj))
  (bV:∀(j:Nat)y,j<dV.size→cells[j]? =some y→y.oneCell'=true)
  (cX:w'.heap[aj]? =some (.cells cells t (0,0)))(bO:∀c ty,w.heap[aj]? =some (.cells c ty (0,0))→cells.size=c.size)(dH:∀k,k≠aj→w'.heap[k]? =w.heap[k]?)(aH:w'.heap.size=w.heap.size)
  (ug:w'.os=w.os∧w'.tape=w.tape∧w'.output=w.output)
  (hlen:ai.length=e.ai.length)
  (hs:∀(i:Nat)x,ai[i]? =some x→dst≠some i→∃y,e.ai[i]? =some y∧((x=y∧¬pJ i)∨x=y.aa))
  (rep:Ext w0.heap.size w g w' g' (fun p=>(∃i j,p=.s i j∧pJ i)∨(∃j,p=.b b j∧tq j)∨(∃d j,dst=some d∧p=.s d j))→(match(generalizing:=false) dV with
    | .none =>False
    | .map _=>False
    | .cells cs=>cs.length≤cells.size∧∀(j:Nat)x y,cs[j]? =some x→cells[j]? =some y→aG w' g'.St w0.heap.size (pP w0.heap.size w' g' b j) x y
    | .one s=>0<cells.size∧∀y,cells[0]? =some y→bP w0.heap.size w' g' (fun _=>pP w0.heap.size w' g' b 0) s y))
  (lF:Ext w0.heap.size w g w' g' (fun p=>(∃i j,p=.s i j∧pJ i)∨(∃j,p=.b b j∧tq j)∨(∃d j,dst=some d∧p=.s d j))→
    ∀d,dst=some d→bP w0.heap.size w' g' (eA w0.heap.size w' g' d) s v):
  Inv gl w0 an ⟨b8 ai dst s,e.boxes.set b dV⟩ (a.put dst v) w' g':=by
 refine hI.Qj pJ tq g7 rM pZ Ku hb dH (fun c ty h=>⟨cells,t,cX,bO c ty h⟩) aH ug hlen hs (fun hX hle=>?_) lF
 have:=rep hX
 cases dV with
 |none=>exact this.elim
 |map l=>exact this.elim
 |cells cs=>exact⟨hle,cells,t,cX,bV,this⟩
 |one s=>exact⟨hle,cells,t,cX,bV,this⟩
end
end Go.Proofs.Ytimbllcalipehaa.Ab
namespace Go.Proofs.Ytimbllcalipehaa.Ab
open Go Go.RowKit
section
variable{P:Program}{gl:Nat→Option D}{w0:World}{an:S0}{e:Env}{a:Act}{w:World}{g:Gh}
theorem aU.pz{St:Nat→Nat→Prop}{k:IntKind}{n:Int}{v:Value}(h:aU w St (.int k n) v):v=.int k n∧fm k n=true:=by
 cases h with
 |int _ _ h=>exact⟨rfl,h⟩
theorem aU.sQ{St:Nat→Nat→Prop}{l:List UInt8}{v:Value}(h:aU w St (.str l) v):∃s,v=.string s∧l=s.data.toList∧s.size≤maxLen:=by
 cases h with
 |str s h=>exact⟨s,rfl,rfl,h⟩
theorem aU.qI{St:Nat→Nat→Prop}{b:Bool}{v:Value}(h:aU w St (.bool b) v):v=.bool b:=by
 cases h with
 |bool _=>rfl
theorem aU.ve{St:Nat→Nat→Prop}{ds:List D}{v:Value}(h:aU w St (.agg ds) v):∃vs,v=.agg vs∧jq w St ds vs∧∀d∈ds,d.one=true:=by
 cases h with
 |agg _ vs hf hl hc=>exact⟨vs,rfl,⟨hl,hc⟩,hf⟩
theorem Dj(op:BinOp)(t:TypeId)(x y:Operand)(u v:Value)(h:(match u,v with| .nilIface,.nilIface =>False| .agg _,.agg _=>False|_,_=>True)):
  (eqGuard op t x y u v).run P w=.ok () w:=by
 cases op<;>(try rfl)<;>(unfold eqGuard;simp only[Bool.not_true,Bool.false_eq_true,if_false];cases u<;>cases v<;>first|rfl|exact h.elim)
theorem XB(hI:Inv gl w0 an e a w g){o:Oper}{op:BinOp}{t u:TypeId}{x y:Operand}(ho:o.op=.binOp op t x y u){k:Slot→List af→Prop}
  (h:ab (ah (Bu P op t) op ((Ab.aQ gl e x).aa).bJ ((Ab.aQ gl e y).aa).bJ) fun r=>k (.v r) e.boxes):bh P gl w0 an e.ai o a w k:=by
 obtain⟨r,hr,hk⟩:=aF h
 have hx:=hI.gu x
 have hy:=hI.gu y
 generalize ((Ab.aQ gl e x).aa).bJ =sx at hr hx
 generalize ((Ab.aQ gl e y).aa).bJ =sy at hr hy
 have key:∃v rd,r=.d rd∧(eqGuard op t x y (a.eval x) (a.eval y)).run P w=.ok () w∧(binOp op t (a.eval x) (a.eval y)).run P w=.ok v w∧aU w g.St rd v:=by
  cases sx<;>simp only[ah,reduceCtorEq]at hr
  rename_i dx
  cases sy<;>simp only[reduceCtorEq]at hr
  rename_i dy
  replace hx:=hx.data
  replace hy:=hy.data
  split at hr
  ·rename_i rd dX
   cases hr
   cases dx<;>cases dy<;>simp only[eW,reduceCtorEq]at dX
   ·
    rename_i b1 b2
    split at dX
    ·rename_i aO
     rw[hx.qI,hy.qI]
     have hg:=Dj (P:=P) (w:=w) op t x y (.bool b1) (.bool b2) trivial
     have:∃f,shapeOf P f t=some [.bool]∧f≤10000∧dm P t=some false:=by
      unfold Bu at aO
      split at aO
      ·cases hq:P.eqGuardType P.depth t<;>rw[hq]at aO<;>simp only[cond_true,cond_false,reduceCtorEq]at aO
       split at aO
       ·split at aO
        ·simp only[Option.some.injEq,Prod.mk.injEq]at aO
         obtain⟨rfl,rfl⟩:=aO
         exact⟨20,by assumption,by decide,by assumption⟩
        ·cases aO
       ·split at aO<;>cases aO
      ·cases hq:P.eqGuardType P.depth t<;>rw[hq]at aO<;>simp only[cond_true,cond_false,reduceCtorEq]at aO
       split at aO
       ·split at aO
        ·simp only[Option.some.injEq,Prod.mk.injEq]at aO
         obtain⟨rfl,rfl⟩:=aO
         exact⟨20,by assumption,by decide,by assumption⟩
        ·cases aO
       ·split at aO<;>cases aO
      ·cases aO
     obtain⟨f,h1,h2,h3⟩:=this
     have hq:=GJ (w:=w) (g:=g) f 10000 t _ false [.bool b1] [.bool b2] (.bool b1) (.bool b2) (b1==b2) h1 h2 h3 rfl rfl
      (by simp only[gv,Bool.false_eq_true,if_false];exact⟨_,rfl,.bool _⟩) (by simp only[gv,Bool.false_eq_true,if_false];exact⟨_,rfl,.bool _⟩) (by simp[eV,kO])
     split at dX
     ·cases dX;exact⟨_,_,rfl,hg,by simp[binOp,Op.equal,Op.maxDepth,hq],.bool _⟩
     ·cases dX;exact⟨_,_,rfl,hg,by simp[binOp,Op.equal,Op.maxDepth,hq],.bool _⟩
     ·cases dX
    ·cases dX
   ·
    rename_i k1 n1 k2 n2
    obtain⟨ex,wx⟩:=hx.pz
    obtain⟨ey,wy⟩:=hy.pz
    rw[ex,ey]
    have hg:=Dj (P:=P) (w:=w) op t x y (.int k1 n1) (.int k2 n2) trivial
    split at dX
    ·obtain⟨v,hv,fI⟩:=MY (P:=P) (w:=w) (g:=g) (k':=k2) t (.inl rfl) wx dX
     exact⟨v,rd,rfl,hg,hv,fI⟩
    ·obtain⟨v,hv,fI⟩:=MY (P:=P) (w:=w) (g:=g) (k':=k2) t (.inr rfl) wx dX
     exact⟨v,rd,rfl,hg,hv,fI⟩
    ·rename_i h1 h2
     split at dX
     ·rename_i kz
      subst kz
      obtain⟨v,hv,fI⟩:=VC (P:=P) (w:=w) (g:=g) t ⟨h1,h2⟩ wx wy dX
      exact⟨v,rd,rfl,hg,hv,fI⟩
     ·cases dX
   ·
    obtain⟨s1,e1,f1,_⟩:=hx.sQ
    obtain⟨s2,e2,f2,_⟩:=hy.sQ
    rw[e1,e2]
    rw[f1,f2]at dX
    obtain⟨v,hv,fI⟩:=VD (P:=P) (w:=w) (g:=g) t dX
    exact⟨v,rd,rfl,Dj op t x y _ _ trivial,hv,fI⟩
   ·
    rename_i l1 l2
    split at dX
    ·rename_i ks aO
     obtain⟨v1,e1,r1,_⟩:=hx.ve
     obtain⟨v2,e2,r2,_⟩:=hy.ve
     rw[e1,e2]
     cases je:(dv ks l1&&dv ks l2)with
     |false=>rw[je]at dX;cases dX
     |true=>
      rw[je]at dX
      simp only[Bool.and_eq_true]at je
      simp only[cond_true]at dX
      have:shapeOf P 20 t=some ks∧dm P t=some true∧P.eqGuardType P.depth t=false:=by
       unfold Bu at aO
       split at aO
       ·cases hq:P.eqGuardType P.depth t<;>rw[hq]at aO<;>simp only[cond_true,cond_false,reduceCtorEq]at aO
        split at aO
        ·split at aO
         ·simp only[Option.some.injEq,Prod.mk.injEq]at aO
          obtain⟨rfl,rfl⟩:=aO
          exact⟨by assumption,by assumption,rfl⟩
         ·cases aO
        ·split at aO<;>cases aO
       ·cases hq:P.eqGuardType P.depth t<;>rw[hq]at aO<;>simp only[cond_true,cond_false,reduceCtorEq]at aO
        split at aO
        ·split at aO
         ·simp only[Option.some.injEq,Prod.mk.injEq]at aO
          obtain⟨rfl,rfl⟩:=aO
          exact⟨by assumption,by assumption,rfl⟩
         ·cases aO
        ·split at aO<;>cases aO
       ·cases aO
      obtain⟨h1,h3,h4⟩:=this
      have hg:=run_eqGuard_agg (P:=P) w op t x y v1 v2 h4
      have hq:∀c,eV l1 l2=some c→(Op.equalIn 10000 t (.agg v1) (.agg v2)).run P w=.ok c w:=fun c hc=>
       GJ (w:=w) (g:=g) 20 10000 t _ true l1 l2 (.agg v1) (.agg v2) c h1 (by decide) h3 je.1 je.2
        (by simp only[gv,if_true];exact⟨_,rfl,r1⟩) (by simp only[gv,if_true];exact⟨_,rfl,r2⟩) hc
      split at dX
      ·split at dX
       ·rename_i c hc;cases dX;exact⟨_,_,rfl,hg,by simp[run_eql_struct,hq c hc],.bool _⟩
       ·cases dX
      ·split at dX
       ·rename_i c hc;cases dX;exact⟨_,_,rfl,hg,by simp[run_neq_struct,hq c hc],.bool _⟩
       ·cases dX
      ·cases dX
    ·cases dX
   ·
    rename_i a1 s1 l1 b1 s2 l2
    cases b1<;>simp only[reduceCtorEq]at dX
    split at dX
    ·rename_i aO
     have hu:∃e',P.underlying t=some (.slice e'):=by
      unfold Bu at aO
      have bad:∀{ks:List CK}{b:Bool},shapeOf P 20 t=some ks→dm P t=some b→(b,ks)=(false,[])→False:=fun{ks b}h1 h2 h3=>by
       cases h3
       rcases(AY h1).2 with h4|h4
       ·simp at h4
       ·rw[h2]at h4;cases h4
      split at aO
      ·cases hq:P.eqGuardType P.depth t<;>rw[hq]at aO<;>simp only[cond_true,cond_false,reduceCtorEq]at aO
       split at aO
       ·split at aO
        ·exact(bad (by assumption) (by assumption) (Option.some.inj aO)).elim
        ·cases aO
       ·split at aO
        ·exact⟨_,by assumption⟩
        ·cases aO
      ·cases hq:P.eqGuardType P.depth t<;>rw[hq]at aO<;>simp only[cond_true,cond_false,reduceCtorEq]at aO
       split at aO
       ·split at aO
        ·exact(bad (by assumption) (by assumption) (Option.some.inj aO)).elim
        ·cases aO
       ·split at aO
        ·exact⟨_,by assumption⟩
        ·cases aO
      ·cases aO
     obtain⟨e',hu⟩:=hu
     have oZ:a.eval y=.slice none 0 0:=by
      generalize a.eval y=vy at hy
      cases hy;rfl
     have Ct:∃p n c,a.eval x=.slice p n c∧p.isNone=decide (a1=SK.nil):=by
      generalize a.eval x=vx at hx
      cases hx with
      |fD=>exact⟨_,_,_,rfl,rfl⟩
      |sl=>exact⟨_,_,_,rfl,rfl⟩
      |jd=>exact⟨_,_,_,rfl,rfl⟩
     obtain⟨p,n,c,Ct,hp⟩:=Ct
     rw[Ct,oZ]
     have hq:(Op.equalIn 10000 t (.slice p n c) (.slice none 0 0)).run P w=.ok (decide (a1=SK.nil)) w:=by
      rw[←hp,show(10000:Nat)=9999+1 from rfl,Op.equalIn]
      cases p<;>simp[run_underlying hu]
     have hg:=Dj (P:=P) (w:=w) op t x y (.slice p n c) (.slice none 0 0) trivial
     split at dX
     ·cases dX;exact⟨_,_,rfl,hg,by simp[binOp,Op.equal,Op.maxDepth,hq],.bool _⟩
     ·cases dX;exact⟨_,_,rfl,hg,by simp[binOp,Op.equal,Op.maxDepth,hq],.bool _⟩
     ·cases dX
    ·cases dX
  ·cases hr
 obtain⟨v,rd,rfl,hg,hv,fI⟩:=key
 refine bh.eu hI (s:=.d rd) (v:=v) ?_ (.d _ _ _ fI) hk
 simp[execOp,ho,hg,hv]
theorem Y0(hI:Inv gl w0 an e a w g){o:Oper}{op:UnOp}{t:TypeId}{x:Operand}(ho:o.op=.unOp op t x){k:Slot→List af→Prop}
  (h:ab (eY op ((Ab.aQ gl e x).aa).bJ) fun r=>k (.v r) e.boxes):bh P gl w0 an e.ai o a w k:=by
 obtain⟨r,hr,hk⟩:=aF h
 have hx:=hI.gu x
 generalize ((Ab.aQ gl e x).aa).bJ =sx at hr hx
 unfold eY at hr
 split at hr
 ·rename_i b
  have hx:=hx.data.qI
  split at hr
  ·cases hr;exact bh.eu hI (v:=.bool (!b)) (by simp[execOp,ho,hx,Op.unary]) (.d _ _ _ (.bool _)) hk
  ·cases hr
 ·rename_i kk n
  obtain⟨hx,wx⟩:=hx.data.pz
  split at hr
  ·cases hr;exact bh.eu hI (by simp only[execOp,ho,hx,Op.unary,Op.intArith];simp) (.d _ _ _ (.int _ _ (w4 _ _))) hk
  ·cases hr;exact bh.eu hI (by simp only[execOp,ho,hx,Op.unary,Op.intBits];simp) (.d _ _ _ (.int _ _ (w4 _ _))) hk
  ·cases hr
 ·cases hr
theorem Wu(hI:Inv gl w0 an e a w g){o:Oper}{src dst:TypeId}{x:Operand}(ho:o.op=.convert src dst x)(hs:(P.underlying src).isSome =true){k:Slot→List af→Prop}
  (h:ab (I1 P dst ((Ab.aQ gl e x).aa).bJ) fun r=>k (.v r) e.boxes):bh P gl w0 an e.ai o a w k:=by
 obtain⟨r,hr,hk⟩:=aF h
 have hx:=hI.gu x
 generalize ((Ab.aQ gl e x).aa).bJ =sx at hr hx
 obtain⟨us,R9⟩:=Option.isSome_iff_exists.1 hs
 unfold I1 at hr
 split at hr
 ·rename_i kk n
  obtain⟨hx,wx⟩:=hx.data.pz
  split at hr
  ·rename_i kd hd
   cases hr
   refine bh.eu hI (v:=.int kd (kd.wrap n)) ?_ (.d _ _ _ (.int _ _ (w4 _ _))) hk
   cases us<;>simp[execOp,ho,hx,convert,run_underlying R9,run_underlying hd,Conv.intToInt]
  ·cases hr
 ·rename_i l
  obtain⟨s1,e1,f1,h1⟩:=hx.data.sQ
  split at hr
  ·rename_i hd
   cases hr
   refine bh.eu hI (v:=.string s1) ?_ (.d _ _ _ (by rw[f1];exact .str _ h1)) hk
   cases us<;>simp[execOp,ho,e1,convert,run_underlying R9,run_underlying hd]
  ·cases hr
 ·cases hr
end
end Go.Proofs.Ytimbllcalipehaa.Ab
namespace Go.Proofs.Ytimbllcalipehaa.Ab
open Go Go.RowKit
section
variable{P:Program}{gl:Nat→Option D}{w0:World}{an:S0}{e:Env}{a:Act}{w:World}{g:Gh}
theorem Inv.k8(hI:Inv gl w0 an e a w g){x:Operand}{s:Slot}(h:(Ab.aQ gl e x).aa =s):bP w0.heap.size w g (fun _ _ _ _=>False) s (a.eval x):=h▸hI.aQ x
theorem bP.iK{base:Nat}{O:Nat→Nat→Nat→Nat→Prop}{x:SV}{v:Value}(h:bP base w g O (.v x) v):aG w g.St base (O 0) x v:=by
 cases h with
 |v _ _ _ h=>exact h
theorem bP.kQ{base:Nat}{O:Nat→Nat→Nat→Nat→Prop}{b off:Nat}{v:Value}(h:bP base w g O (.p b off) v):∃aj,v=.pointer (some ⟨aj,off,none⟩)∧g.bx[b]? =some (some aj):=by
 cases h with
 |p _ _ _ aj h=>exact⟨aj,rfl,h⟩
theorem bP.Ja{base:Nat}{O:Nat→Nat→Nat→Nat→Prop}{xs:List SV}{v:Value}(h:bP base w g O (.t xs) v):
  ∃vs,v=.tuple vs∧xs.length=vs.size∧∀(j:Nat)x v,xs[j]? =some x→vs[j]? =some v→aG w g.St base (O j) x v:=by
 cases h with
 |t _ _ vs hl hc=>exact⟨vs,rfl,hl,hc⟩
theorem aG.pw{St:Nat→Nat→Prop}{base:Nat}{O:Nat→Nat→Nat→Prop}{x:SV}{v:Value}(h:aG w St base O x v)(hx:(match x with| .d y=>y.one=true| .undef =>False|_=>True)):
  v.oneCell'=true:=by
 cases h<;>first|rfl|(exact aU.pw (by assumption) hx)|exact hx.elim
theorem aG.cells{St:Nat→Nat→Prop}{base:Nat}{O:Nat→Nat→Nat→Prop}{x:SV}{v:Value}(h:aG w St base O x v){l:List SV}(hl:ay x=some l):
  l.length=v.cells.size∧(∀y∈v.cells,y.oneCell'=true)∧∀(i:Nat)c y,l[i]? =some c→v.cells[i]? =some y→aG w St base O c y:=by
 have one:∀(c:SV)(u:Value),aG w St base O c u→u.oneCell'=true→u.cells= #[u]→[c].length =u.cells.size∧(∀y∈u.cells,y.oneCell'=true)∧∀(i:Nat)c' y,[c][i]? =some c'→u.cells[i]? =some y→aG w St base O c' y:=by
  intro c u hr h1 hu
  rw[hu]
  refine⟨rfl,by simpa using h1,fun i c' y hc hy=>?_⟩
  cases i with
  |zero=>simp at hc hy;subst hc hy;exact hr
  |succ i=>simp at hc
 cases h with
 |d _ y _ hd=>
  simp only[ay,Option.some.injEq]at hl
  subst hl
  by_cases hy:y.one=true
  ·have hc:y.cells=[y]:=by cases y<;>first|rfl|simp[D.one]at hy
   have h1:=hd.pw hy
   have hv:v.cells= #[v]:=by cases v<;>first|rfl|simp[Value.oneCell']at h1
   rw[hc]
   exact one (.d y) v (.d _ _ _ hd) h1 hv
  ·cases y<;>simp only[D.one,not_true_eq_false]at hy
   rename_i ds
   obtain⟨vs,rfl,⟨hs,hc⟩,hf⟩:=hd.ve
   refine⟨by simpa[D.cells,Value.cells]using hs,fun y hy=>?_,fun i c y g8 hy=>?_⟩
   ·obtain⟨i,hi,rfl⟩:=Array.mem_iff_getElem.1 hy
    have dZ:i<ds.length:=by rw[hs];exact hi
    exact(hc i ds[i] _ (List.getElem?_eq_getElem dZ) (Array.getElem?_eq_getElem hi)).pw (hf _ (List.getElem_mem dZ))
   ·simp only[D.cells,List.getElem?_map,Option.map_eq_some_iff]at g8
    obtain⟨d,jf,rfl⟩:=g8
    exact .d _ _ _ (hc i d y jf hy)
 |own _ sz L gg cap hd bE ho=>simp only[ay,Option.some.injEq]at hl;subst hl;exact one _ _ (.own _ sz L gg cap hd bE ho) rfl rfl
 |full _ sz L ad hd=>simp only[ay,Option.some.injEq]at hl;subst hl;exact one _ _ (.full _ sz L ad hd) rfl rfl
 |ref _ cs off b o vs hb h1 h2=>simp only[ay,Option.some.injEq]at hl;subst hl;exact one _ _ (.ref _ cs off b o vs hb h1 h2) rfl rfl
 |cM _ n sz cs b cap vs hb hn hm h1 h2=>simp only[ay,Option.some.injEq]at hl;subst hl;exact one _ _ (.cM _ n sz cs b cap vs hb hn hm h1 h2) rfl rfl
 |aS _ y off b o vs h0 h1 h2=>simp only[ay,Option.some.injEq]at hl;subst hl;exact one _ _ (.aS _ y off b o vs h0 h1 h2) rfl rfl
 |cS _ f first cap fv cv h1 h2 h3 h4=>simp only[ay,Option.some.injEq]at hl;subst hl;exact one _ _ (.cS _ f first cap fv cv h1 h2 h3 h4) rfl rfl
 |bt _ sz L gg cap vs h1 h2 h3 h4 h5 h6 h7=>simp only[ay,Option.some.injEq]at hl;subst hl;exact one _ _ (.bt _ sz L gg cap vs h1 h2 h3 h4 h5 h6 h7) rfl rfl
 |mp _ m r es clock h1 h2 h3 h4=>simp only[ay,Option.some.injEq]at hl;subst hl;exact one _ _ (.mp _ m r es clock h1 h2 h3 h4) rfl rfl
 |undef _ _=>simp[ay]at hl
theorem GK{t:TypeId}{z:List D}(h:mn P t=some z):∃zv:Value,(∀w:World,(zeroValue t).run P w=.ok zv w)∧z.length=zv.cells.size∧(∀d∈z,d.one=true)∧
  ∀(w:World)(St:Nat→Nat→Prop)(i:Nat)x v,z[i]? =some x→zv.cells[i]? =some v→aU w St x v:=by
 unfold mn at h
 split at h
 ·rename_i i hi
  split at h
  ·rename_i zv hz
   refine⟨zv,fun w=>by simp[zeroValue,typeInfo,hi,hz],?_,GS h,fun w St j x v hx hv=>?_⟩
   ·have:=(A0 (w:=default) (St:=fun _ _=>False) h).1
    simpa using this
   ·exact(A0 (w:=w) (St:=St) h).2 j x v hx (by simpa using hv)
  ·cases h
 ·cases h
theorem VE(hI:Inv gl w0 an e a w g){o:Oper}{t:TypeId}(ho:o.op=.alloc t){id:Nat}{k:Slot→List af→Prop}
  (eD:e.boxes[id]? =some .none)
  (h:ab (HI P t) fun z=>k (.p id 0) (e.boxes.set id (.cells z))):bh P gl w0 an e.ai o a w k:=by
 obtain⟨zs,iC,hk⟩:=aF h
 unfold HI at iC
 split at iC
 rotate_left
 ·split at iC
  ·rename_i i hi
   split at iC
   ·rename_i zv rN
    cases e6:zv.cells.toList.all Value.oneCell' with
    |false=>rw[e6]at iC;cases iC
    |true=>
     rw[e6]at iC
     cases iC
     refine bh.Eo hI eD (cells:=zv.cells) (t:=t) (bx:=.cells _) ?_ ?_ ?_ hk
     ·have aV:(zeroValue t).run P w=.ok zv w:=by simp[zeroValue,typeInfo,hi,rN]
      simp[execOp,ho,Instr.alloc,aV,newVar,newRow]
     ·intro y hy
      exact List.all_eq_true.1 e6 y (by simpa using hy)
     ·intro w' g' O hX
      refine⟨by simp,fun j x y hx hy=>?_⟩
      rw[(List.mem_replicate.1 (List.mem_of_getElem? hx)).2]
      exact .undef _ _
   ·cases iC
  ·cases iC
 rename_i z hz
 cases iC
 obtain⟨zv,aV,hlen,bV,aW⟩:=GK hz
 refine bh.Eo hI eD (cells:=zv.cells) (t:=t) (bx:=.cells (z.map .d)) ?_ ?_ ?_ hk
 ·simp[execOp,ho,Instr.alloc,aV,newVar,newRow]
 ·intro y hy
  obtain⟨i,hi,rfl⟩:=Array.mem_iff_getElem.1 hy
  have dZ:i<z.length:=by rw[hlen];exact hi
  exact(aW w (fun _ _=>False) i z[i] _ (List.getElem?_eq_getElem dZ) (Array.getElem?_eq_getElem hi)).pw (bV _ (List.getElem_mem dZ))
 ·intro w' g' O hX
  refine⟨by simpa using Nat.le_of_eq hlen,fun j x y hx hy=>?_⟩
  simp only[List.getElem?_map,Option.map_eq_some_iff]at hx
  obtain⟨d,hd,rfl⟩:=hx
  exact .d _ _ _ (aW _ _ j d y hd hy)
theorem XC(hI:Inv gl w0 an e a w g){o:Oper}{t:TypeId}{x:Operand}(ho:o.op=.box t x){id:Nat}{k:Slot→List af→Prop}
  (eD:e.boxes[id]? =some .none)
  (h:ab (dF P t) fun sz=>(match(Ab.aQ gl e x).aa with
  | .v y=>ab (ay y) fun l=>l.length=sz∧k (.p id 0) (e.boxes.set id (.cells l))
  | .t _=>False
  |s=>(match sz with|1=>k (.p id 0) (e.boxes.set id (.one s))|_=>False))):bh P gl w0 an e.ai o a w k:=by
 obtain⟨sz,aH,h⟩:=aF h
 have hx:=hI.aQ x
 have aV:(execOp a.eval o).run P w=.ok (.value (.pointer (some ⟨w.heap.size,0,none⟩))) (w.alloc (.cells (a.eval x).cells t)):=by
  simp[execOp,ho,Instr.box,newVar,newRow]
 have lC:∀s,(Ab.aQ gl e x).aa =s→(∀y,s≠.v y)→(∀y,s≠.t y)→k (.p id 0) (e.boxes.set id (.one s))→bh P gl w0 an e.ai o a w k:=by
  intro s hs h1 h2 hk
  rw[hs]at hx
  have hc:(a.eval x).cells = #[a.eval x]:=by
   clear aV
   generalize a.eval x=u at hx
   cases hx with
   |v _ y _ _=>exact absurd rfl (h1 y)
   |p=>rfl
   |a _ b n sz v hm h=>obtain⟨_,_,_,_,rfl,_⟩:=h;rfl
   |m=>rfl
   |c=>rfl
   |t _ y _ _ _=>exact absurd rfl (h2 y)
  have h1c:(a.eval x).oneCell' =true:=by
   clear aV hc
   generalize a.eval x=u at hx
   cases hx with
   |v _ y _ _=>exact absurd rfl (h1 y)
   |p=>rfl
   |a _ b n sz v hm h=>obtain⟨_,_,_,_,rfl,_⟩:=h;rfl
   |m=>rfl
   |c=>rfl
   |t _ y _ _ _=>exact absurd rfl (h2 y)
  refine bh.Eo hI eD (bx:=.one s) aV (by rw[hc];simpa using h1c) (fun w' g' O hX=>?_) hk
  refine⟨by rw[hc];exact Nat.one_pos,fun y hy=>?_⟩
  rw[hc]at hy
  simp at hy
  subst hy
  exact hx.mono hX.st hX.bs hX.bx hX.sh fun _ _ _ _ h=>h.elim
 split at h
 ·rename_i y hy
  obtain⟨l,hl,hlen,hk⟩:=aF h
  rw[hy]at hx
  obtain⟨h1,h2,h3⟩:=hx.iK.cells hl
  refine bh.Eo hI eD (bx:=.cells l) aV h2 (fun w' g' O hX=>⟨Nat.le_of_eq h1,fun j c u hc hu=>?_⟩) hk
  exact(h3 j c u hc hu).mono hX.st hX.bs _ (fun _ _ _ h=>h.elim)
 ·exact h.elim
 ·rename_i h1 h2
  split at h
  ·exact lC _ rfl (fun y hy=>h1 y hy) (fun y hy=>h2 y hy) h
  ·exact h.elim
theorem wQ{t:TypeId}{b:Bool}{n:Nat}(hl:js P t=some (b,n))(aj off:Nat)(vs:Nat→Value)
  (h:∀j,j<(if b then n else 1)→w.cell? ⟨aj,off+j,none⟩=some (vs j)):
  (loadVar t ⟨aj,off,none⟩).run P w=.ok (if b then .agg ((List.range n).map vs).toArray else vs 0) w:=by
 obtain⟨hb,hn,_⟩:=D8 hl
 unfold loadVar
 simp only[Sem.run_bind,NX hb,Result.andThen_ok]
 cases b
 ·have:=h 0 (by simp)
  simp only[Nat.add_zero]at this
  simp[this]
 ·have:=run_loadCells (P:=P) w ⟨aj,off,none⟩ n vs (fun j hj=>by rw[ot];exact h j (by simpa using hj))
  simp[iH hn,this]
theorem NY:∀{l:List SV}{r:List D},cW l=some r→r.length=l.length∧∀(i:Nat)x y,l[i]? =some x→r[i]? =some y→bF x=some y
 |[],r,h=>by cases h;simp
 |v::l,r,h=>by
  simp only[cW]at h
  split at h
  ·rename_i x hx
   split at h
   ·rename_i r' hr
    cases h
    obtain⟨h1,h2⟩:=NY hr
    refine⟨by simp[h1],fun i y z hy hz=>?_⟩
    cases i with
    |zero=>simp at hy hz;subst hy hz;exact hx
    |succ i=>simp at hy hz;exact h2 i y z hy hz
   ·cases h
  ·cases h
theorem Y1{x:SV}{y:D}(h:bF x=some y)(hx:match x with| .d z=>z.one=true|_=>True):y.one=true:=by
 cases x<;>simp only[bF,Option.some.injEq,reduceCtorEq]at h<;>subst h<;>first|exact hx|rfl
theorem G5{t:TypeId}{b:Bool}{n off:Nat}{cs:List SV}{x:SV}{St:Nat→Nat→Prop}{base:Nat}{O:Nat→Nat→Nat→Nat→Prop}(hl:js P t=some (b,n))(h:ag b n off cs=some x)(aj o:Nat)
  (vs:Nat→Value)(aL:∀i,i<cs.length→w.cell? ⟨aj,o+i,none⟩=some (vs i))(aW:∀(i:Nat)c,cs[i]? =some c→aG w St base (O i) c (vs i))
  (bV:∀i,i<cs.length→(vs i).oneCell' =true):
  ∃v,(loadVar t ⟨aj,o+off,none⟩).run P w=.ok v w∧aG w St base (O off) x v:=by
 unfold ag at h
 cases b
 ·simp only[cond_false]at h
  have aI:=(List.getElem?_eq_some_iff.1 h).1
  refine⟨vs off,?_,aW off x h⟩
  rw[wQ hl aj (o+off) (fun j=>vs (off+j)) (fun j hj=>by simp at hj;subst hj;simpa using aL off aI)]
  simp
 ·simp only[cond_true]at h
  split at h
  ·rename_i hle
   split at h
   ·rename_i l lL
    cases h
    obtain⟨hlen,k9⟩:=NY lL
    refine⟨.agg ((List.range n).map fun j=>vs (off+j)).toArray,?_,.d _ _ _ (.agg _ _ ?_ ?_ ?_)⟩
    ·rw[wQ hl aj (o+off) (fun j=>vs (off+j)) (fun j hj=>by
      simp at hj;rw[Nat.add_assoc];exact aL (off+j) (by omega))]
     simp
    ·intro d hd
     obtain⟨i,hi,rfl⟩:=List.mem_iff_getElem.1 hd
     have dZ:i<((cs.drop off).take n).length :=by rw[←hlen];exact hi
     have hs:=k9 i _ _ (List.getElem?_eq_getElem dZ) (List.getElem?_eq_getElem hi)
     have Aq:off+i<cs.length:=by simp at dZ;omega
     have hc:((cs.drop off).take n)[i]=cs[off+i]:=by simp
     have hr:=aW (off+i) _ (List.getElem?_eq_getElem Aq)
     have h1:=bV (off+i) Aq
     rw[hc]at hs
     refine Y1 hs ?_
     revert hs hr
     cases cs[off+i]<;>intro hs hr<;>try trivial
     rename_i z
     cases z<;>first|rfl|(obtain⟨_,hv,_⟩:=hr.data.ve;rw[hv]at h1;simp[Value.oneCell']at h1)
    ·simp[hlen];omega
    ·intro i d v hd hv
     have hi:i<l.length:=(List.getElem?_eq_some_iff.1 hd).1
     have dZ:i<((cs.drop off).take n).length :=by rw[←hlen];exact hi
     have Aq:off+i<cs.length:=by simp at dZ;omega
     have wb:i<n:=by simp at dZ;omega
     have hc:((cs.drop off).take n)[i]? =some cs[off+i]:=by
      rw[List.getElem?_eq_getElem dZ];simp
     have hs:=k9 i _ _ hc hd
     have hr:=aW (off+i) _ (List.getElem?_eq_getElem Aq)
     simp[wb]at hv
     subst hv
     exact hr.bF hs
   ·cases h
  ·cases h
end
end Go.Proofs.Ytimbllcalipehaa.Ab
namespace Go.Proofs.Ytimbllcalipehaa.Ab
open Go Go.RowKit
section
variable{P:Program}{gl:Nat→Option D}{w0:World}{an:S0}{e:Env}{a:Act}{w:World}{g:Gh}
theorem VF{t:TypeId}{b:Bool}{n off:Nat}{cs:List D}{x:D}{St:Nat→Nat→Prop}(hl:js P t=some (b,n))(h:nC b n off cs=some x)(aj o:Nat)
  (hf:∀c∈cs,c.one=true)
  (vs:Nat→Value)(aL:∀i,i<cs.length→w.cell? ⟨aj,o+i,none⟩=some (vs i))(aW:∀(i:Nat)c,cs[i]? =some c→aU w St c (vs i)):
  ∃v,(loadVar t ⟨aj,o+off,none⟩).run P w=.ok v w∧aU w St x v:=by
 unfold nC at h
 cases b
 ·simp only[cond_false]at h
  have aI:=(List.getElem?_eq_some_iff.1 h).1
  refine⟨vs off,?_,aW off x h⟩
  rw[wQ hl aj (o+off) (fun j=>vs (off+j)) (fun j hj=>by simp at hj;subst hj;simpa using aL off aI)]
  simp
 ·simp only[cond_true]at h
  split at h
  ·rename_i hle
   cases h
   refine⟨.agg ((List.range n).map fun j=>vs (off+j)).toArray,?_,.agg _ _ ?_ ?_ ?_⟩
   ·rw[wQ hl aj (o+off) (fun j=>vs (off+j)) (fun j hj=>by
     simp at hj;rw[Nat.add_assoc];exact aL (off+j) (by omega))]
    simp
   ·intro d hd
    exact hf d (List.mem_of_mem_drop (List.mem_of_mem_take hd))
   ·simp;omega
   ·intro i d v hd hv
    rw[List.getElem?_take]at hd
    split at hd
    ·rename_i hi
     rw[List.getElem?_drop]at hd
     simp[hi]at hv
     subst hv
     exact aW _ _ hd
    ·cases hd
  ·cases h
theorem VG(hI:Inv gl w0 an e a w g){o:Oper}{t:TypeId}{x:Operand}(ho:o.op=.load t x){k:Slot→List af→Prop}{b:Bool}{n:Nat}(hl:js P t=some (b,n))
  {s:SV}(hs:(Ab.aQ gl e x).aa =.v s)(h:ab (aM b n s) fun y=>k (.v y) e.boxes):bh P gl w0 an e.ai o a w k:=by
 obtain⟨y,hy,hk⟩:=aF h
 have hx:=hI.nO hs
 have aV:∀{ad v},a.eval x=.pointer (some ad)→(loadVar t ad).run P w=.ok v w→(execOp a.eval o).run P w=.ok (.value v) w:=by
  intro ad v h1 h2
  simp[execOp,ho,Instr.loadAt,Instr.sureAddr,h1,h2]
 unfold aM at hy
 split at hy
 ·rename_i z off
  split at hy
  ·rename_i r hr
   cases hy
   generalize hv:a.eval x=u at hx
   cases hx with
   |aS _ _ _ aj o' vs hf aL aW=>
    obtain⟨v,h1,h2⟩:=VF (St:=g.St) hl hr aj o' hf vs (fun i hi=>(aL i hi).1) aW
    exact bh.eu hI (aV hv h1) (.d _ _ _ h2) hk
  ·cases hy
 ·rename_i cs off
  split at hy
  ·rename_i r hr
   cases hy
   generalize hv:a.eval x=u at hx
   cases hx with
   |ref _ _ _ aj o' vs hb aL aW=>
    obtain⟨v,h1,h2⟩:=G5 (St:=g.St) (O:=fun _ _ _ _=>False) hl hr aj o' vs (fun i hi=>(aL i hi).1) aW (fun i hi=>(aL i hi).2)
    exact bh.eu hI (aV hv h1) h2.aa hk
  ·cases hy
 ·cases hy
theorem Uz(hI:Inv gl w0 an e a w g){o:Oper}{t:TypeId}{x:Operand}(ho:o.op=.load t x){k:Slot→List af→Prop}{b:Bool}{n:Nat}(hl:js P t=some (b,n))
  {bn off:Nat}(hs:(Ab.aQ gl e x).aa =.p bn off)(h:oz b n bn off e.boxes k):bh P gl w0 an e.ai o a w k:=by
 have hx:=hI.k8 hs
 obtain⟨aj,hv,cX⟩:=hx.kQ
 have aV:∀{v},(loadVar t ⟨aj,off,none⟩).run P w=.ok v w→(execOp a.eval o).run P w=.ok (.value v) w:=by
  intro v h2
  simp[execOp,ho,Instr.loadAt,Instr.sureAddr,hv,h2]
 unfold oz at h
 split at h
 ·rename_i cs bO
  obtain⟨y,hy,hk⟩:=aF h
  obtain⟨h0,c,ty,hc,bV,hlen,aW⟩:=hI.boxes bn _ aj bO cX
  obtain⟨v,h1,h2⟩:=G5 (w:=w) (off:=off) (St:=g.St) (O:=fun j=>pP w0.heap.size w g bn j) hl hy aj 0 (fun i=>c.getD i undef) (fun i hi=>by
   rw[cell_of_row w aj (0+i) c ty (0,0) hc];simp[Nat.lt_of_lt_of_le hi hlen]) (fun i d hd=>by
   have hi:=(List.getElem?_eq_some_iff.1 hd).1
   exact aW i d _ hd (by simp[Nat.lt_of_lt_of_le hi hlen])) (fun i hi=>by
   have dZ:i<c.size:=Nat.lt_of_lt_of_le hi hlen
   simp[dZ];exact bV i _ hi (by simp))
  simp only[Nat.zero_add]at h1
  exact bh.eu hI (aV h1) h2.aa hk
 ·rename_i s la
  cases b with
  |true=>exact h.elim
  |false=>
   simp only[cond_false]at h
   split at h
   ·obtain⟨h0,c,ty,hc,bV,aH,aW⟩:=hI.boxes bn _ aj la cX
    have Cu:c[0]? =some (c[0]'(by omega)):=by simp
    refine bh.value hI (aV (v:=c[0]'(by omega)) ?_) ((aW _ Cu).aa) h
    rw[wQ (vs:=fun _=>c[0]'(by omega)) hl aj 0 (fun j hj=>by
     simp at hj;subst hj
     rw[cell_of_row w aj (0+0) c ty (0,0) hc];exact Cu)]
    simp
   ·exact h.elim
 ·exact h.elim
theorem y6:∀(l:List SV)(cs:List SV)(off:Nat),off+l.length≤cs.length→setAt cs off l=cs.take off++l++cs.drop (off+l.length)
 |[],cs,off,_=>by simp[setAt]
 |v::l,cs,off,h=>by
  simp only[List.length_cons]at h
  rw[setAt,y6 l (cs.set off v) (off+1) (by simp;omega)]
  have h1:(cs.set off v).take (off+1)=cs.take off++[v]:=by
   rw[List.take_add_one,List.take_set_of_le (Nat.le_refl _)]
   simp[List.getElem?_set_self (show off<cs.length by omega)]
  have h2:(cs.set off v).drop (off+1+l.length)=cs.drop (off+1+l.length):=by
   rw[List.drop_set_of_lt (by omega)]
  rw[h1,h2]
  simp[Nat.add_assoc,Nat.add_comm 1]
theorem sG{α:Type}(cs l:List α)(off:Nat)(h:off+l.length≤cs.length)(i:Nat):
  (cs.take off++l++cs.drop (off+l.length))[i]? =if i<off then cs[i]? else if i<off+l.length then l[i-off]? else cs[i]? :=by
 have ht:(cs.take off).length =off:=by simp;omega
 rw[List.append_assoc,List.getElem?_append,ht]
 split
 ·rename_i h1
  rw[List.getElem?_take,if_pos h1]
 ·rename_i h1
  rw[List.getElem?_append]
  split
  ·rename_i h2
   rw[if_pos (by omega)]
  ·rename_i h2
   rw[if_neg (by omega),List.getElem?_drop]
   congr 1
   omega
theorem Nq{c l:Array Value}{off m:Nat}(h:off+l.size≤c.size)(h1:∀(j:Nat)y,j<m→c[j]? =some y→y.oneCell'=true)(h2:∀y∈l,y.oneCell'=true)(j:Nat)(y:Value)(hj:j<m)
  (hy:(c.toList.take off++l.toList++c.toList.drop (off+l.size)).toArray[j]? =some y):y.oneCell'=true:=by
 have hs:=sG c.toList l.toList off (by simpa using h) j
 simp only[Array.length_toList]at hs
 simp only[List.getElem?_toArray]at hy
 rw[hs]at hy
 simp only[Array.getElem?_toList]at hy
 split at hy
 ·exact h1 j y hj hy
 ·split at hy
  ·exact h2 y (Array.mem_of_getElem? hy)
  ·exact h1 j y hj hy
theorem Dk{t:TypeId}{n:Nat}(hn:dF P t=some n){aj off:Nat}{c:Array Value}{ty:TypeId}(hc:w.heap[aj]? =some (.cells c ty (0,0))){v:Value}
  (hv:v.cells.size=n)(h1:∀y∈v.cells,y.oneCell'=true)(hle:off+n≤c.size):
  (storeVar t ⟨aj,off,none⟩ v).run P w=.ok () (w.setRow aj (c.toList.take off++v.cells.toList++c.toList.drop (off+n)).toArray):=by
 have:=run_storeCells_at P aj off ty v.cells.toList 0 c w hc (by simp;omega) (by simpa using h1)
 simp only[Nat.add_zero,Array.length_toList,hv]at this
 unfold storeVar
 simp[iH hn,hv,this]
theorem GF(hI:Inv gl w0 an e a w g){o:Oper}{t:TypeId}{x y:Operand}(ho:o.op=.store t x y)(hd:o.dst=none){k:Slot→List af→Prop}
  {bn off aj n:Nat}(hv:a.eval x=.pointer (some ⟨aj,off,none⟩))(cX:g.bx[bn]? =some (some aj))
  {cells:Array Value}{ty:TypeId}{dV:af}(hc:w.heap[aj]? =some (.cells cells ty (0,0)))(qT:Array Value)(bO:qT.size=cells.size)(bV:∀(j:Nat)y,j<dV.size→qT[j]? =some y→y.oneCell'=true)
  (aT:(storeVar t ⟨aj,off,none⟩ (a.eval y)).run P w=.ok () (w.setRow aj qT))
  (rep:∀(w':World),Ext w0.heap.size w g w' g (fun p=>∃j,p=.b bn j∧off≤j∧j<off+n)→(match(generalizing:=false) dV with
    | .none =>False
    | .map _=>False
    | .cells cs=>cs.length≤qT.size∧∀(j:Nat)x y,cs[j]? =some x→qT[j]? =some y→aG w' g.St w0.heap.size (pP w0.heap.size w' g bn j) x y
    | .one s=>0<qT.size∧∀y,qT[0]? =some y→bP w0.heap.size w' g (fun _=>pP w0.heap.size w' g bn 0) s y))
  (hk:k (.t []) (e.boxes.set bn dV)):bh P gl w0 an e.ai o a w k:=by
 intro next Q Jb
 have aV:(execOp a.eval o).run P w=.ok .skip (w.setRow aj qT):=by
  simp[execOp,ho,Instr.storeAt,Instr.sureAddr,hv,aT]
 unfold Oper.wp
 rw[aV]
 have dH:=fun k(hk:k≠aj)=>setRow_other w aj k qT hk
 have ju:=setRow_heap w aj cells qT ty (0,0) hc
 refine Jb (.t []) undef _ _ g ?_ hk
 rw[hd]
 refine hI.IB (dst:=none) (s:=.t []) (v:=undef) (ai:=e.ai) (fun _=>False) (fun j=>off≤j∧j<off+n) rfl rfl (fun _ _ _ _ _ h=>h) (fun _ h=>h) cX bV ju (fun c ty h=>by rw[hc]at h;cases h;exact bO) dH (by simp[World.setRow]) ⟨rfl,rfl,rfl⟩ rfl
  (fun i x hx _=>⟨x,hx,.inl ⟨rfl,fun h=>h⟩⟩) (fun hX=>?_) (fun _ d h=>by cases h)
 have:=rep _ ⟨hX.df,hX.st,hX.bs,hX.bx,fun p b a c hp ho=>hX.own p b a c (fun qa=>hp (by
  rcases qa with⟨i,j,_,h⟩|⟨j,h⟩|⟨d,j,h,_⟩
  ·exact h.elim
  ·exact⟨j,h⟩
  ·cases h)) ho,hX.sh⟩
 cases dV with
 |none=>exact this
 |map l=>exact this
 |cells cs=>exact this
 |one s=>exact this
theorem Mx(hI:Inv gl w0 an e a w g){o:Oper}{t:TypeId}{x y:Operand}(ho:o.op=.store t x y)(hd:o.dst=none){k:Slot→List af→Prop}{n:Nat}(hn:dF P t=some n)
  {bn off aj:Nat}(hv:a.eval x=.pointer (some ⟨aj,off,none⟩))(cX:g.bx[bn]? =some (some aj))
  {cells:Array Value}{ty:TypeId}(hc:w.heap[aj]? =some (.cells cells ty (0,0)))(Sa:0<cells.size)(oY:n=1)(xH:off=0)
  {s:Slot}(hs:(Ab.aQ gl e y).aa =s)(Cv:∀z,s≠.v z)(x6:∀z,s≠.t z)(hk:k (.t []) (e.boxes.set bn (.one s))):bh P gl w0 an e.ai o a w k:=by
 have hy:=hI.k8 hs
 subst oY xH
 have lM:(a.eval y).cells = #[a.eval y]∧(a.eval y).oneCell' =true:=by
  generalize a.eval y=u at hy
  cases hy with
  |v _ z _ _=>exact absurd rfl (Cv z)
  |p=>exact⟨rfl,rfl⟩
  |a _ b n sz v hm h=>obtain⟨_,_,_,_,rfl,_⟩:=h;exact⟨rfl,rfl⟩
  |m=>exact⟨rfl,rfl⟩
  |c=>exact⟨rfl,rfl⟩
  |t _ z _ _ _=>exact absurd rfl (x6 z)
 refine GF hI ho hd (n:=1) (dV:=.one s) hv cX hc (cells.toList.take 0++ #[a.eval y].toList ++cells.toList.drop (0+1)).toArray (by simp;omega) (fun j u hj hu=>?_) ?_ (fun w' hX=>⟨by simp,fun u hu=>?_⟩) hk
 ·have:j=0:=by simp only[af.size]at hj;omega
  subst this
  simp at hu;subst hu
  exact lM.2
 ·rw[Dk hn hc (by rw[lM.1];rfl) (by rw[lM.1];simpa using lM.2) (by omega)]
  rw[lM.1]
 ·simp at hu;subst hu
  exact hy.mono hX.st hX.bs hX.bx hX.sh (fun _ _ _ _ h=>h.elim)
theorem VH(hI:Inv gl w0 an e a w g){o:Oper}{t:TypeId}{x y:Operand}(ho:o.op=.store t x y)(hd:o.dst=none){k:Slot→List af→Prop}{n:Nat}(hn:dF P t=some n)
  {bn off:Nat}(hs:(Ab.aQ gl e x).aa =.p bn off)(h:qH n bn off ((Ab.aQ gl e y).aa) e.boxes fun cP=>k (.t []) cP):bh P gl w0 an e.ai o a w k:=by
 have hx:=hI.k8 hs
 obtain⟨aj,hv,cX⟩:=hx.kQ
 unfold qH at h
 split at h
 ·
  rename_i cs bO
  obtain⟨h0,c,ty,hc,bV,hlen,aW⟩:=hI.boxes bn _ aj bO cX
  split at h
  ·rename_i z hz
   obtain⟨l,hl,Fp,hle,hk⟩:=aF h
   have hy:=hI.k8 hz
   obtain⟨h1,h2,h3⟩:=hy.iK.cells hl
   have iM:(a.eval y).cells.size =n:=by rw[←h1,Fp]
   refine GF hI ho hd (n:=n) (dV:=.cells (setAt cs off l)) hv cX hc _ (by simp[iM];omega) ?_ (Dk hn hc iM h2 (by omega)) (fun w' hX=>?_) hk
   ·intro j u hj hu
    rw[←iM]at hu
    exact Nq (m:=cs.length) (by omega) bV h2 j u (by simp only[af.size,y6 l cs off (by omega),List.length_append,List.length_take,List.length_drop]at hj;omega) hu
   ·rw[y6 l cs off (by omega)]
    refine⟨by simp[iM];omega,fun j x' y' dp iN=>?_⟩
    have lM:n=(a.eval y).cells.toList.length :=by simp[iM]
    rw[sG cs l off (by omega)]at dp
    have tJ:(c.toList.take off++(a.eval y).cells.toList ++c.toList.drop (off+(a.eval y).cells.toList.length))[j]? =some y':=by
     rw[←lM];simpa using iN
    rw[sG _ _ off (by simp[iM];omega)]at tJ
    simp only[Array.length_toList,iM,Fp]at dp tJ
    have fJ:¬(off≤j∧j<off+n)→cs[j]? =some x'→c[j]? =some y'→aG w' g.St w0.heap.size (pP w0.heap.size w' g bn j) x' y':=fun hj h4 h5=>
     (aW j x' y' h4 h5).mono hX.st hX.bs _ (fun b' a' c' ho=>hX.own _ b' a' c' (by rintro⟨j',h6,h7⟩;cases h6;exact hj h7) ho)
    split at dp
    ·rename_i hj
     simp only[hj,↓reduceIte,Array.getElem?_toList]at tJ
     exact fJ (by omega) dp tJ
    ·rename_i hj
     simp only[hj,↓reduceIte]at tJ
     split at dp
     ·rename_i rO
      simp only[rO,↓reduceIte,Array.getElem?_toList]at tJ
      exact(h3 (j-off) x' y' dp tJ).mono hX.st hX.bs _ (fun _ _ _ h=>h.elim)
     ·rename_i rO
      simp only[rO,↓reduceIte,Array.getElem?_toList]at tJ
      exact fJ (by omega) dp tJ
  ·exact h.elim
  ·rename_i Cv x6
   split at h
   ·exact Mx hI ho hd hn hv cX hc (by simp at hlen;omega) rfl rfl rfl (fun z hz=>Cv z hz) (fun z hz=>x6 z hz) h
   ·exact h.elim
 ·
  rename_i s0 kA
  obtain⟨h0,c,ty,hc,bV,hlen,aW⟩:=hI.boxes bn _ aj kA cX
  split at h
  ·split at h
   ·rename_i z hz
    obtain⟨l,hl,Fp,hk⟩:=aF h
    have hy:=hI.k8 hz
    obtain⟨h1,h2,h3⟩:=hy.iK.cells hl
    have iM:(a.eval y).cells.size =1:=by rw[←h1,Fp]
    have Fq:∀{j:Nat},j<l.length→(c.toList.take 0++(a.eval y).cells.toList ++c.toList.drop (0+1)).toArray[j]? =(a.eval y).cells[j]? :=by
     intro j hj
     have:j=0:=by omega
     subst this
     simp[List.getElem?_append,iM]
    refine GF hI ho hd (n:=1) (dV:=.cells l) hv cX hc (c.toList.take 0++(a.eval y).cells.toList ++c.toList.drop (0+1)).toArray (by simp[iM];omega) (fun j u hj hu=>?_) ?_ (fun w' hX=>⟨by simp;omega,fun j c' u g8 hu=>?_⟩) hk
    ·rw[Fq hj]at hu
     exact h2 u (Array.mem_of_getElem? hu)
    ·rw[Dk hn hc iM h2 (by omega)]
    ·rw[Fq (List.getElem?_eq_some_iff.1 g8).1]at hu
     exact(h3 j c' u g8 hu).mono hX.st hX.bs _ (fun _ _ _ h=>h.elim)
   ·exact h.elim
   ·rename_i Cv x6
    exact Mx hI ho hd hn hv cX hc hlen rfl rfl rfl (fun z hz=>Cv z hz) (fun z hz=>x6 z hz) h
  ·exact h.elim
 ·exact h.elim
end
end Go.Proofs.Ytimbllcalipehaa.Ab
namespace Go.Proofs.Ytimbllcalipehaa.Ab
open Go Go.RowKit
section
variable{P:Program}{gl:Nat→Option D}{w0:World}{an:S0}{e:Env}{a:Act}{w:World}{g:Gh}
theorem qD{x:SV}{n j:Nat}(h:cH x n=some j):∃k i,x=.d (.int k i)∧0≤i∧i<n∧j=i.toNat:=by
 unfold cH at h
 split at h
 ·rename_i k i
  split at h
  ·rename_i hc;cases h;exact⟨k,i,rfl,hc.1,hc.2,rfl⟩
  ·cases h
 ·cases h
theorem aG.int{St:Nat→Nat→Prop}{base:Nat}{O:Nat→Nat→Nat→Prop}{k:IntKind}{n:Int}{v:Value}(h:aG w St base O (.d (.int k n)) v):v=.int k n:=h.data.pz.1
theorem MZ{x y:SV}{n:Nat}(h:cV x n=some y){St:Nat→Nat→Prop}{base:Nat}{O O':Nat→Nat→Nat→Prop}{v:Value}(r:aG w St base O x v):
  ∃ad:Addr,v=.pointer (some ad)∧ad.spot=none∧aG w St base O' y (.pointer (some ⟨ad.block,ad.off+n,none⟩)):=by
 unfold cV at h
 split at h
 ·cases h
  cases r with
  |aS _ x off b o vs h0 h1 h2=>exact⟨_,rfl,rfl,by rw[Nat.add_assoc];exact .aS _ _ _ b o vs h0 h1 h2⟩
 ·cases h
  cases r with
  |ref _ cs off b o vs h0 h1 h2=>exact⟨_,rfl,rfl,by rw[Nat.add_assoc];exact .ref _ _ _ b o vs h0 h1 h2⟩
 ·cases h
theorem M0{t:TypeId}{i:Nat}{fd:Field}(h:zf P t i=some fd):∃fs,P.underlying t=some (.struct fs)∧fs[i]? =some fd:=by
 unfold zf at h
 split at h
 ·rename_i fs hu;exact⟨fs,hu,by simpa using h⟩
 ·cases h
theorem Uf{fd:Field}{sz:Nat}(hs:dF P fd.type=some sz)(h0:sz≠0)(ad:Addr):(fieldPlace ad fd).run P w=.ok (ad.add fd.offset) w:=by
 simp[fieldPlace,iH hs,h0]
theorem Ug(hI:Inv gl w0 an e a w g){o:Oper}{t:TypeId}{x:Operand}{f:Nat}(ho:o.op=.fieldAddr t x f){k:Slot→List af→Prop}
  (h:ab (zf P t f) fun fd=>ab (dF P fd.type) fun sz=>bif Nat.beq sz 0 then False else(match(Ab.aQ gl e x).aa with
  | .p b off=>k (.p b (off+fd.offset)) e.boxes
  | .v y=>ab (cV y fd.offset) fun z=>k (.v z) e.boxes
  |_=>False)):bh P gl w0 an e.ai o a w k:=by
 obtain⟨fd,wc,h⟩:=aF h
 obtain⟨sz,aH,h⟩:=aF h
 obtain⟨fs,hu,Cw⟩:=M0 wc
 cases hz:Nat.beq sz 0 with
 |true=>rw[hz]at h;exact h.elim
 |false=>
  rw[hz]at h
  simp only[cond_false]at h
  have h0:sz≠0:=fun h=>by rw[h]at hz;cases hz
  have aV:∀ad,a.eval x=.pointer (some ad)→(execOp a.eval o).run P w=.ok (.value (.pointer (some (ad.add fd.offset)))) w:=by
   intro ad hv
   simp[execOp,ho,Instr.fieldAt,run_underlying hu,Cw,Instr.sureAddr,hv,Uf aH h0]
  split at h
  ·rename_i b off hs
   obtain⟨aj,hv,cX⟩:=(hI.k8 hs).kQ
   refine bh.value hI (aV _ hv) ?_ h
   rw[ot]
   exact .p _ _ _ _ cX
  ·rename_i y hs
   obtain⟨z,hz,hk⟩:=aF h
   obtain⟨ad,hv,k9,hr⟩:=MZ (O':=fun _ _ _=>False) hz (hI.nO hs)
   refine bh.eu hI (aV _ hv) ?_ hk
   obtain⟨b,o',sp⟩:=ad
   simp only at k9;subst k9
   rw[ot];exact hr
  ·exact h.elim
theorem UA{P:Program}{w:World}{t:TypeId}{name:String}{f:FuncId}(h:zO P t name=some f)(fuel:Nat)(v:Value):(nilAhead (fuel+1) t v name).run P w=.ok (some false) w:=by
 unfold zO at h
 split at h
 ·rename_i i hi
  split at h
  ·rename_i m hm
   split at h
   ·rename_i f' hp hf
    split at h
    ·cases h
    ·rename_i u we hu
     have lN:(underlying t).run P w=.ok u w:=run_underlying hu w
     have fU:(typeInfo t).run P w=.ok i w:=by simp[typeInfo,go_sem,hi]
     have Ap:(followBlind ([]:List FieldStep) t (some v)).run P w=.ok (.ok (t,some v)) w:=by simp[followBlind]
     unfold nilAhead
     simp only[Sem.run_bind,fU,Result.andThen_ok,hm,hp,Ap,hf,lN]
     cases u<;>first|exact(we _ rfl).elim |simp
    ·cases h
   ·cases h
  ·cases h
 ·cases h
theorem Un(hI:Inv gl w0 an e a w g){o:Oper}{x:Operand}(ho:o.op=.nilCheck x){k:Slot→List af→Prop}
  (h:match(Ab.aQ gl e x).aa with
  | .v y=>ab (j8 y) fun z=>k (.v z) e.boxes
  | .t _=>False
  | .c f first cap=>(match f with
    | .func _=>k (.c f first cap) e.boxes
    | .method name=>(match first with
      | .v y::_=>ab (I7 P y name) fun _=>k (.c f first cap) e.boxes
      |_=>False)
    |_=>False)
  | .p b off=>k (.p b off) e.boxes
  |_=>False):bh P gl w0 an e.ai o a w k:=by
 split at h
 ·rename_i y hs
  obtain⟨z,hz,hk⟩:=aF h
  have hy:=hI.nO hs
  have hyz:y=z∧∃v,a.eval x=v∧(execOp a.eval o).run P w=.ok (.value v) w:=by
   unfold j8 at hz
   generalize hv:a.eval x=u at hy
   split at hz<;>first|(cases hz)|skip
   ·cases hy;exact⟨rfl,_,rfl,by simp[execOp,ho,hv]⟩
   ·cases hy;exact⟨rfl,_,rfl,by simp[execOp,ho,hv]⟩
   ·rename_i f a' b'
    cases f<;>simp only[Option.some.injEq,reduceCtorEq]at hz
    cases hy;exact⟨hz,_,rfl,by simp[execOp,ho,hv]⟩
   ·rename_i f
    cases f<;>simp only[Option.some.injEq,reduceCtorEq]at hz
    cases hy with
    |d _ _ _ hd=>cases hd;exact⟨hz,_,rfl,by simp[execOp,ho,hv]⟩
  obtain⟨rfl,v,hv,hr⟩:=hyz
  rw[hv]at hy
  exact bh.eu hI hr hy hk
 ·exact h.elim
 ·rename_i f first cap hs
  have hy:=hI.k8 hs
  split at h
  ·generalize hv:a.eval x=u at hy
   have iN:=hy
   cases hy
   exact bh.value hI (by simp[execOp,ho,hv]) iN h
  ·rename_i name
   split at h
   ·rename_i y rest
    obtain⟨f',jA,h⟩:=aF h
    unfold I7 at jA
    split at jA
    ·rename_i t y0 wg
     generalize hv:a.eval x=u at hy
     have iN:=hy
     cases hy with
     |c _ _ _ _ fv cv uh nR rf rc=>
      have aH:0<fv.size:=by rw[←uh];simp
      have h0:=rf 0 _ (fv[0]) rfl (by simp[aH])
      cases h0 with
      |v _ _ _ h0=>
       have hd:=h0.data
       generalize he:fv[0]=u0 at hd
       cases hd with
       |iface _ _ v0 _=>
        have ui:fv[0]? =some (.iface t v0):=by rw[Array.getElem?_eq_getElem aH,he]
        refine bh.value hI ?_ iN h
        simp only[execOp,ho,hv,ui]
        have Kv:=UA (P:=P) (w:=w) jA (P.types.size+99) v0
        simp only[Sem.run_bind,run_program,Result.andThen_ok,Made.depth]
        rw[Kv]
        simp
    ·cases jA
   ·exact h.elim
  ·exact h.elim
 ·rename_i b off hs
  have hy:=hI.k8 hs
  obtain⟨aj,hv,cX⟩:=hy.kQ
  exact bh.value hI (by simp[execOp,ho,hv]) (.p _ _ _ _ cX) h
 ·exact h.elim
theorem VI(hI:Inv gl w0 an e a w g){o:Oper}{t:TypeId}{x:Operand}(ho:o.op=.makeInterface t x){k:Slot→List af→Prop}
  (h:bif isIface P t then False else ab (Ix t ((Ab.aQ gl e x).aa).bJ) fun r=>k (.v r) e.boxes):bh P gl w0 an e.ai o a w k:=by
 cases hi:isIface P t with
 |true=>rw[hi]at h;exact h.elim
 |false=>
  rw[hi]at h
  simp only[cond_false]at h
  obtain⟨r,hr,hk⟩:=aF h
  have hx:=hI.gu x
  generalize ((Ab.aQ gl e x).aa).bJ =sx at hr hx
  unfold Ix at hr
  split at hr
  ·rename_i y hy
   cases hr
   refine bh.eu hI (v:=.iface t (a.eval x)) ?_ (.d _ _ _ (.iface _ _ _ (hx.bF hy))) hk
   unfold isIface at hi
   split at hi
   ·cases hi
   ·cases hi
   ·rename_i h1 h2
    obtain⟨d,hd⟩:=Option.ne_none_iff_exists'.1 (fun hn=>h2 hn)
    simp only[execOp,ho,Instr.makeInterface,Sem.run_bind,run_underlying hd,Result.andThen_ok]
    cases d<;>first|rfl|exact absurd hd (h1 _)
  ·cases hr
theorem Uo(hI:Inv gl w0 an e a w g){o:Oper}{fn:Fn}{first cap:Array Operand}(ho:o.op=.makeFunc fn first cap){k:Slot→List af→Prop}
  (h:k (.c fn (first.toList.map fun x=>((Ab.aQ gl e x).aa).aa) (cap.toList.map fun x=>((Ab.aQ gl e x).aa).aa)) e.boxes):bh P gl w0 an e.ai o a w k:=by
 refine bh.value hI (v:=.func fn (first.map a.eval) (cap.map a.eval)) (by simp[execOp,ho,Instr.makeFunc]) (.c _ _ _ _ _ _ (by simp) (by simp) ?_ ?_) h
 ·intro i x v hx hv
  simp only[List.getElem?_map,Option.map_eq_some_iff,Array.getElem?_map]at hx hv
  obtain⟨y,hy,rfl⟩:=hx
  obtain⟨z,hz,rfl⟩:=hv
  rw[Array.getElem?_toList]at hy
  rw[hy]at hz;cases hz
  exact(hI.aQ y).aa
 ·intro i x v hx hv
  simp only[List.getElem?_map,Option.map_eq_some_iff,Array.getElem?_map]at hx hv
  obtain⟨y,hy,rfl⟩:=hx
  obtain⟨z,hz,rfl⟩:=hv
  rw[Array.getElem?_toList]at hy
  rw[hy]at hz;cases hz
  exact(hI.aQ y).aa
theorem UB(hI:Inv gl w0 an e a w g){o:Oper}{x:Operand}{i:Nat}(ho:o.op=.extract x i){k:Slot→List af→Prop}
  (h:match(Ab.aQ gl e x).aa with
  | .t vs=>(match vs[i]? with|some r=>k (.v r) e.boxes|none=>False)
  |_=>False):bh P gl w0 an e.ai o a w k:=by
 split at h
 ·rename_i vs hs
  split at h
  ·rename_i r hr
   obtain⟨tv,hv,hl,hc⟩:=(hI.k8 hs).Ja
   have hi:i<tv.size:=by rw[←hl];exact(List.getElem?_eq_some_iff.1 hr).1
   exact bh.eu hI (v:=tv[i]) (by simp[execOp,ho,Instr.extract,hv,hi]) (hc i r _ hr (by simp)) h
  ·exact h.elim
 ·exact h.elim
theorem VJ(hI:Inv gl w0 an e a w g){o:Oper}{t:TypeId}{x:Operand}{f:Nat}(ho:o.op=.field t x f){k:Slot→List af→Prop}
  (h:ab (zf P t f) fun fd=>ab (js P fd.type) fun ly=>ab (s4 ly.1 ly.2 fd.offset ((Ab.aQ gl e x).aa).bJ) fun r=>k (.v r) e.boxes):bh P gl w0 an e.ai o a w k:=by
 obtain⟨fd,wc,h⟩:=aF h
 obtain⟨⟨b,n⟩,hl,h⟩:=aF h
 obtain⟨r,hr,hk⟩:=aF h
 obtain⟨fs,hu,Cw⟩:=M0 wc
 have hx:=hI.gu x
 generalize ((Ab.aQ gl e x).aa).bJ =sx at hr hx
 unfold s4 at hr
 split at hr
 ·rename_i cs
  split at hr
  ·rename_i z hz
   cases hr
   obtain⟨vs,hv,aW,hf⟩:=hx.data.ve
   obtain⟨hb,hn,h1⟩:=D8 hl
   have hle:fd.offset+n≤cs.length:=by
    unfold nC at hz
    cases b
    ·simp only[cond_false]at hz;have:=(List.getElem?_eq_some_iff.1 hz).1;rw[h1 rfl];omega
    ·simp only[cond_true]at hz;split at hz<;>first|assumption|cases hz
   obtain⟨v,hp,uj⟩:=aW.valOf (P:=P) (off:=fd.offset) hb hn h1 hle
   refine bh.eu hI (v:=v) (by simp[execOp,ho,Instr.field,run_underlying hu,Cw,hv,asAgg,hp]) (.d _ _ _ ?_) hk
   unfold nC at hz
   cases b
   ·simp only[cond_false]at hz
    simp only[gv,Bool.false_eq_true,if_false]at uj
    obtain⟨x',dp,uk⟩:=uj
    have aI:=(List.getElem?_eq_some_iff.1 hz).1
    rw[h1 rfl,List.drop_eq_getElem_cons aI,List.take_succ_cons,List.take_zero]at dp
    rw[List.getElem?_eq_getElem aI]at hz
    cases hz
    simp only[List.cons.injEq,and_true]at dp
    rw[dp];exact uk
   ·simp only[cond_true,hle,↓reduceIte,Option.some.injEq]at hz
    subst hz
    simp only[gv,if_true]at uj
    obtain⟨eb,rfl,uk⟩:=uj
    exact uk.agg (fun d hd=>hf d (List.mem_of_mem_drop (List.mem_of_mem_take hd)))
  ·cases hr
 ·cases hr
theorem VK(hI:Inv gl w0 an e a w g){o:Oper}{t:TypeId}{x i:Operand}(ho:o.op=.index t x i){k:Slot→List af→Prop}
  (h:match P.underlying t with
  |some (.array n e')=>ab (js P e') fun ly=>ab (Iw ly.1 ly.2 n ((Ab.aQ gl e x).aa).bJ ((Ab.aQ gl e i).aa).bJ) fun r=>k (.v r) e.boxes
  |some .string =>ab (I8 ((Ab.aQ gl e x).aa).bJ ((Ab.aQ gl e i).aa).bJ) fun r=>k (.v r) e.boxes
  |_=>False):bh P gl w0 an e.ai o a w k:=by
 have hx:=hI.gu x
 have hi:=hI.gu i
 generalize ((Ab.aQ gl e x).aa).bJ =sx at h hx
 generalize ((Ab.aQ gl e i).aa).bJ =si at h hi
 split at h
 ·rename_i n e' hu
  obtain⟨⟨b,m⟩,hl,h'⟩:=aF h
  clear h
  obtain⟨r,hr,hk⟩:=aF h'
  clear h'
  unfold Iw at hr
  split at hr
  ·rename_i cs
   split at hr
   ·rename_i j hj
    split at hr
    ·rename_i z hz
     cases hr
     obtain⟨kk,ii,rfl,h1,h2,rfl⟩:=qD hj
     have qb:=hi.int
     obtain⟨vs,hv,aW,hf⟩:=hx.data.ve
     obtain⟨hb,hn,bV⟩:=D8 hl
     have hle:ii.toNat*m+m≤cs.length:=by
      unfold nC at hz
      cases b
      ·simp only[cond_false]at hz;have:=(List.getElem?_eq_some_iff.1 hz).1;rw[bV rfl]at*;omega
      ·simp only[cond_true]at hz;split at hz<;>first|assumption|cases hz
     obtain⟨v,hp,uj⟩:=aW.valOf (P:=P) (off:=ii.toNat*m) hb hn bV hle
     refine bh.eu hI (v:=v) ?_ (.d _ _ _ ?_) hk
     ·simp[execOp,ho,Instr.index,qb,asIntOf,run_underlying hu,hv,h1,h2,iH hn,hp]
     ·unfold nC at hz
      cases b
      ·simp only[cond_false]at hz
       simp only[gv,Bool.false_eq_true,if_false]at uj
       obtain⟨x',dp,uk⟩:=uj
       have aI:=(List.getElem?_eq_some_iff.1 hz).1
       rw[bV rfl]at dp hz aI
       rw[List.drop_eq_getElem_cons aI,List.take_succ_cons,List.take_zero]at dp
       rw[List.getElem?_eq_getElem aI]at hz
       cases hz
       simp only[List.cons.injEq,and_true]at dp
       rw[dp];exact uk
      ·simp only[cond_true,hle,↓reduceIte,Option.some.injEq]at hz
       subst hz
       simp only[gv,if_true]at uj
       obtain⟨eb,rfl,uk⟩:=uj
       exact uk.agg (fun d hd=>hf d (List.mem_of_mem_drop (List.mem_of_mem_take hd)))
    ·cases hr
   ·cases hr
  ·cases hr
 ·rename_i hu
  obtain⟨r,hr,hk⟩:=aF h
  unfold I8 at hr
  split at hr
  ·rename_i s
   split at hr
   ·rename_i j hj
    split at hr
    ·rename_i c hc
     cases hr
     obtain⟨kk,ii,rfl,h1,h2,rfl⟩:=qD hj
     have qb:=hi.int
     obtain⟨bs,hv,hs,_⟩:=hx.data.sQ
     have aI:ii.toNat<bs.size:=by
      rw[hs]at h2
      simp only[Array.length_toList]at h2
      have:bs.size=bs.data.size:=rfl
      omega
     have hg:bs[ii.toNat]? =some c:=by
      rw[hs]at hc
      rw[getElem?_pos bs ii.toNat aI]
      have:bs.data.toList[ii.toNat]? =some bs[ii.toNat]:=by
       rw[Array.getElem?_toList,Array.getElem?_eq_getElem aI]
       rfl
      rw[this]at hc
      exact hc
     refine bh.eu hI (v:=.int .u8 c.toNat) ?_ (.d _ _ _ (.int _ _ ?_)) hk
     ·simp[execOp,ho,Instr.index,qb,asIntOf,run_underlying hu,hv,h1,hg]
     ·have:=c.toNat_lt
      simp[fm,IntKind.min,IntKind.max,IntKind.signed,IntKind.bits]
      omega
    ·cases hr
   ·cases hr
  ·cases hr
 ·exact h.elim
theorem M3{sz:Nat}{x:SV}{L:List D}(h:elems sz x=some L){St:Nat→Nat→Prop}{base:Nat}{O:Nat→Nat→Nat→Prop}{v:Value}(r:aG w St base O x v):
  ((v=.slice none 0 0∨∃ad c,v=.slice (some ad) 0 c)∧L=[])∨∃(b off cap:Nat) (vs:Nat→Value),v=.slice (some ⟨b,off,none⟩) L.length cap∧L.length≤cap∧L.length≤maxLen∧(∀x∈L,x.cells.length=sz)∧(∀x∈L,∀c∈x.cells,c.one=true)∧
    (∀(o:Nat),o<L.length*sz→w.cell? ⟨b,off+o,none⟩=some (vs o)∧St b (off+o))∧
    (∀(i:Nat)x(j:Nat)c,L[i]? =some x→x.cells[j]? =some c→aU w St c (vs (i*sz+j))):=by
 have go:∀{s L' v},aU w St (.sl .ro s L') v→((v=.slice none 0 0∨∃ad c,v=.slice (some ad) 0 c)∧L'=[])∨∃(b off cap:Nat) (vs:Nat→Value),v=.slice (some ⟨b,off,none⟩) L'.length cap∧L'.length≤cap∧L'.length≤maxLen∧(∀x∈L',x.cells.length=s)∧(∀x∈L',∀c∈x.cells,c.one=true)∧
   (∀(o:Nat),o<L'.length*s→w.cell? ⟨b,off+o,none⟩=some (vs o)∧St b (off+o))∧
   (∀(i:Nat)x(j:Nat)c,L'[i]? =some x→x.cells[j]? =some c→aU w St c (vs (i*s+j))):=by
  intro s L' v hd
  cases hd with
  |sl _ _ b off cap vs bE hm aH hf aL hc=>exact .inr ⟨b,off,cap,vs,rfl,bE,hm,aH,hf,aL,hc⟩
  |jd _ ad c _=>exact .inl ⟨.inr ⟨ad,c,rfl⟩,rfl⟩
 unfold elems at h
 split at h
 ·rename_i k s L'
  split at h
  ·cases h
   have hd:=r.data
   cases hd
   exact .inl ⟨.inl rfl,rfl⟩
  ·split at h
   ·rename_i hs;cases h;subst hs;exact go r.data
   ·cases h
 ·split at h
  ·rename_i hs;cases h;subst hs
   cases r with
   |own _ _ _ gg cap hd bE ho=>exact go hd
  ·cases h
 ·split at h
  ·rename_i hs;cases h;subst hs
   cases r with
   |full _ _ _ ad hd=>exact go hd
  ·cases h
 ·cases h
theorem Uh(hI:Inv gl w0 an e a w g){o:Oper}{t:TypeId}{x i:Operand}(ho:o.op=.indexAddr t x i){k:Slot→List af→Prop}
  (h:match P.underlying t with
  |some (.slice e')=>ab (dF P e') fun sz=>ab (bc sz ((Ab.aQ gl e x).aa).bJ ((Ab.aQ gl e i).aa).bJ) fun r=>k (.v r) e.boxes
  |some (.array n e')=>ab (dF P e') fun sz=>ab (cH ((Ab.aQ gl e i).aa).bJ n) fun j=>(match(Ab.aQ gl e x).aa with
   | .p b off=>k (.p b (off+j*sz)) e.boxes
   | .v y=>ab (cV y (j*sz)) fun z=>k (.v z) e.boxes
   |_=>False)
  |_=>False):bh P gl w0 an e.ai o a w k:=by
 have hi:=hI.gu i
 generalize ((Ab.aQ gl e i).aa).bJ =si at h hi
 split at h
 ·rename_i e' hu
  obtain⟨sz,aH,h⟩:=aF h
  obtain⟨r,hr,hk⟩:=aF h
  have hx:=hI.gu x
  generalize ((Ab.aQ gl e x).aa).bJ =sx at hr hx
  unfold bc at hr
  split at hr
  ·rename_i n s cs
   split at hr
   ·rename_i j hj
    split at hr
    ·rename_i Kw
     cases hr
     subst Kw
     obtain⟨kk,ii,rfl,h1,h2,rfl⟩:=qD hj
     have qb:=hi.int
     generalize hv:a.eval x=u at hx
     cases hx with
     |cM _ _ _ _ b cap vs dN hn hm aL hc=>
      refine bh.eu hI (v:=.pointer (some ⟨b,0+ii.toNat*s,none⟩)) ?_ (.ref _ cs (ii.toNat*s) b 0 vs dN aL hc) hk
      have:=ot b 0 (ii.toNat*s)
      simp[execOp,ho,Instr.indexAt,qb,asIntOf,run_underlying hu,hv,h1,h2,iH aH,this]
    ·cases hr
   ·cases hr
  split at hr
  ·rename_i L hL
   split at hr
   ·rename_i j hj
    split at hr
    ·rename_i y hy
     cases hr
     obtain⟨kk,ii,rfl,h1,h2,rfl⟩:=qD hj
     have qb:=hi.int
     rcases M3 hL hx with⟨_,rfl⟩|⟨b,off,cap,vs,hv,bE,hm,hs,hf,aL,hc⟩
     ·simp at h2;omega
     ·have aI:ii.toNat<L.length:=(List.getElem?_eq_some_iff.1 hy).1
      have dw:y∈L:=List.mem_of_getElem? hy
      refine bh.eu hI (v:=.pointer (some ⟨b,off+ii.toNat*sz,none⟩)) ?_ ?_ hk
      ·have:=ot b off (ii.toNat*sz)
       simp[execOp,ho,Instr.indexAt,qb,asIntOf,run_underlying hu,hv,h1,h2,iH aH,this]
      ·refine .aS _ y 0 b (off+ii.toNat*sz) (fun j=>vs (ii.toNat*sz+j)) (hf y dw) (fun j mW=>?_) (fun j c g8=>hc _ y j c hy g8)
       have:ii.toNat*sz+j<L.length*sz:=by
        rw[hs y dw]at mW
        have:(ii.toNat+1)*sz≤L.length*sz:=Nat.mul_le_mul_right _ aI
        rw[Nat.succ_mul]at this;omega
       rw[Nat.add_assoc]
       exact aL _ this
    ·cases hr
   ·cases hr
  ·cases hr
 ·rename_i n e' hu
  obtain⟨sz,aH,h⟩:=aF h
  obtain⟨j,hj,h⟩:=aF h
  obtain⟨kk,ii,rfl,h1,h2,rfl⟩:=qD hj
  have qb:=hi.int
  have aV:∀ad,a.eval x=.pointer (some ad)→(execOp a.eval o).run P w=.ok (.value (.pointer (some (ad.add (ii.toNat*sz))))) w:=by
   intro ad hv
   simp[execOp,ho,Instr.indexAt,qb,asIntOf,run_underlying hu,Instr.sureAddr,hv,h1,h2,iH aH]
  split at h
  ·rename_i b off hs
   obtain⟨aj,hv,cX⟩:=(hI.k8 hs).kQ
   refine bh.value hI (aV _ hv) ?_ h
   rw[ot]
   exact .p _ _ _ _ cX
  ·rename_i y hs
   obtain⟨z,hz,hk⟩:=aF h
   obtain⟨ad,hv,k9,hr⟩:=MZ (O':=fun _ _ _=>False) hz (hI.nO hs)
   refine bh.eu hI (aV _ hv) ?_ hk
   obtain⟨b,o',sp⟩:=ad
   simp only at k9;subst k9
   rw[ot];exact hr
  ·exact h.elim
 ·exact h.elim
end
end Go.Proofs.Ytimbllcalipehaa.Ab
namespace Go.Proofs.Ytimbllcalipehaa.Ab
open Go Go.RowKit
section
variable{P:Program}{gl:Nat→Option D}{w0:World}{an:S0}{e:Env}{a:Act}{w:World}{g:Gh}
inductive zD(w:World)(St:Nat→Nat→Prop)(base:Nat):Option SV→Option Value→Prop
 |none:zD w St base none none
 |some (s:SV) (v:Value) (h:aG w St base (fun _ _ _=>False) s v):zD w St base (some s) (some v)
theorem Inv.opt(hI:Inv gl w0 an e a w g)(x:Option Operand):zD w g.St w0.heap.size (Ab.nG (fun x=>(Ab.aQ gl e x).aa) x) (x.map a.eval):=by
 cases x with
 |none=>exact .none
 |some y=>exact .some _ _ (hI.gu y)
theorem yR{n m:Nat}(c:BoundsCode){x:SV}{j:Nat}(h:cH x (n+1)=some j)(hm:n≤m){St:Nat→Nat→Prop}{base:Nat}{O:Nat→Nat→Nat→Prop}{v:Value}(r:aG w St base O x v):
  (Instr.sliceBound v m c).run P w=.ok j w∧j≤n:=by
 obtain⟨kk,ii,rfl,h1,h2,rfl⟩:=qD h
 have hv:=r.int
 refine⟨?_,by omega⟩
 have:0≤ii∧ii≤(m:Int):=⟨h1,by omega⟩
 simp[Instr.sliceBound,hv,asIntOf,this]
theorem Dv{n cap:Nat}(Sb:Bool)(hc:n≤cap){lo hi:Option SV}{Cx Cy:Option Value}{St:Nat→Nat→Prop}{base:Nat}(nS:zD w St base lo Cx)(qc:zD w St base hi Cy)
  {hh ll:Nat}(h1:xB n hi=some hh)(h2:tB hh lo=some ll):
  (Instr.sliceBounds Sb n cap Cx Cy none).run P w=.ok (ll,hh,cap) w∧hh≤n∧ll≤hh:=by
 unfold Instr.sliceBounds
 cases qc with
 |none=>
  simp only[xB,Option.some.injEq]at h1
  subst h1
  cases nS with
  |none=>simp only[tB,Option.some.injEq]at h2;subst h2;exact⟨by simp,Nat.le_refl _,Nat.zero_le _⟩
  |some s v r=>
   obtain⟨q1,q2⟩:=yR (P:=P) (w:=w) .sliceB h2 (Nat.le_refl _) r
   exact⟨by simp[q1],Nat.le_refl _,q2⟩
 |some s v r=>
  obtain⟨p1,p2⟩:=yR (P:=P) (w:=w) (if Sb then .sliceAcap else .sliceAlen) h1 hc r
  cases nS with
  |none=>simp only[tB,Option.some.injEq]at h2;subst h2;exact⟨by simp[p1],p2,Nat.zero_le _⟩
  |some s v r=>
   obtain⟨q1,q2⟩:=yR (P:=P) (w:=w) .sliceB h2 (Nat.le_refl _) r
   exact⟨by simp[p1,q1],p2,q2⟩
theorem GV{n cap:Nat}(hc:n≤cap){lo:Option SV}{hi mx:SV}{Cx:Option Value}{Cy Sc:Value}{St:Nat→Nat→Prop}{base:Nat}(nS:zD w St base lo Cx)
  (qc:aG w St base (fun _ _ _=>False) hi Cy)(um:aG w St base (fun _ _ _=>False) mx Sc)
  {hh mm ll:Nat}(h0:cH mx (n+1)=some mm)(h1:cH hi (n+1)=some hh)(he:hh=mm)(h2:tB hh lo=some ll):
  (Instr.sliceBounds true n cap Cx (some Cy) (some Sc)).run P w=.ok (ll,hh,hh) w∧hh≤n∧ll≤hh:=by
 unfold Instr.sliceBounds
 subst he
 obtain⟨o1,o2⟩:=yR (P:=P) (w:=w) .slice3Acap h0 hc um
 have qd:cH hi (hh+1)=some hh:=by
  obtain⟨kk,ii,rfl,a1,a2,a3⟩:=qD h1
  simp only[cH]
  rw[if_pos (by omega),←a3]
 obtain⟨p1,_⟩:=yR (P:=P) (w:=w) .slice3B qd (Nat.le_refl _) qc
 cases nS with
 |none=>simp only[tB,Option.some.injEq]at h2;subst h2;exact⟨by simp[o1,p1],o2,Nat.zero_le _⟩
 |some s v r=>
  obtain⟨q1,q2⟩:=yR (P:=P) (w:=w) .slice3C h2 (Nat.le_refl _) r
  exact⟨by simp[o1,p1,q1],o2,q2⟩
theorem Nr{L:List D}{lo hi:Option SV}{r:List D}(h:BR L lo hi=some r):∃hh ll,xB L.length hi=some hh∧
  tB hh lo=some ll∧r=(L.take hh).drop ll:=by
 unfold BR at h
 split at h
 ·rename_i hh h1
  split at h
  ·rename_i ll h2
   cases h
   exact⟨hh,ll,h1,h2,rfl⟩
  ·cases h
 ·cases h
theorem Pv{St:Nat→Nat→Prop}{sz:Nat}{L:List D}{b off cap hh ll c':Nat}(h:aU w St (.sl .ro sz L) (.slice (some ⟨b,off,none⟩) L.length cap))(hh':hh≤L.length)(hl:ll≤hh)(hc:hh-ll≤c'):
  aU w St (.sl .ro sz ((L.take hh).drop ll)) (.slice (some ⟨b,off+ll*sz,none⟩) (hh-ll) c'):=by
 cases h with
 |jd _ _ _ ha=>exact absurd rfl ha
 |sl _ _ _ _ _ vs bE hm aH hf aL hc=>
  have hlen:((L.take hh).drop ll).length =hh-ll:=by simp;omega
  have:=aU.sl (w:=w) (St:=St) sz ((L.take hh).drop ll) b (off+ll*sz) c' (fun o=>vs (ll*sz+o)) (by omega) (by omega)
   (fun x hx=>aH x (List.mem_of_mem_take (List.mem_of_mem_drop hx))) (fun x hx=>hf x (List.mem_of_mem_take (List.mem_of_mem_drop hx)))
   (fun o ho=>by
     rw[hlen]at ho
     rw[Nat.add_assoc]
     refine aL (ll*sz+o) ?_
     have:ll*sz+(hh-ll)*sz=hh*sz:=by rw[←Nat.add_mul];congr 1;omega
     have:hh*sz≤L.length*sz:=Nat.mul_le_mul_right _ hh'
     omega)
   (fun i x j c hx g8=>by
     rw[List.getElem?_drop,List.getElem?_take]at hx
     split at hx
     ·have:=hc (ll+i) x j c hx g8
      rw[Nat.add_mul,Nat.add_assoc]at this
      exact this
     ·cases hx)
  rw[hlen]at this
  exact this
theorem VL(hI:Inv gl w0 an e a w g){o:Oper}{t:TypeId}{x:Operand}{lo hi mx:Option Operand}(ho:o.op=.slice t x lo hi mx){k:Slot→List af→Prop}
  (h:ab (Iv P t (Ab.aa ((Ab.aQ gl e x).aa).bJ) (Ab.nG (fun x=>(Ab.aQ gl e x).aa) lo) (Ab.nG (fun x=>(Ab.aQ gl e x).aa) hi) (Ab.nG (fun x=>(Ab.aQ gl e x).aa) mx)) fun r=>k (.v r) e.boxes):
  bh P gl w0 an e.ai o a w k:=by
 obtain⟨r,hr,hk⟩:=aF h
 clear h
 have hx:=(hI.gu x).aa (O':=fun _ _ _=>False)
 have nS:=hI.opt lo
 have qc:=hI.opt hi
 have um:=hI.opt mx
 generalize Ab.aa ((Ab.aQ gl e x).aa).bJ =sx at hr hx
 generalize Ab.nG (fun x=>(Ab.aQ gl e x).aa) lo=slo at hr nS
 generalize Ab.nG (fun x=>(Ab.aQ gl e x).aa) hi=shi at hr qc
 generalize Ab.nG (fun x=>(Ab.aQ gl e x).aa) mx=smx at hr um
 unfold Iv at hr
 split at hr
 ·
  rename_i hu
  split at hr
  ·rename_i s
   split at hr
   ·rename_i l hl
    cases hr
    obtain⟨bs,hv,hs,kj⟩:=hx.data.sQ
    unfold Qf at hl
    split at hl
    ·rename_i hh h1
     split at hl
     ·rename_i ll h2
      cases hl
      have gM:s.length=bs.size:=by rw[hs,Array.length_toList];rfl
      rw[gM]at h1
      have hb:=Dv (P:=P) (w:=w) false (Nat.le_refl bs.size) nS qc h1 h2
      have e2:mx.map a.eval=none:=by generalize mx.map a.eval=q at um;cases um;rfl
      refine bh.eu hI (v:=.string (bs.extract ll hh)) ?_ (.d _ _ _ ?_) hk
      ·simp[execOp,ho,Instr.sliceAt,run_underlying hu,Instr.slice,hv,hb.1,e2]
      ·have:(bs.extract ll hh).data.toList =(s.take hh).drop ll:=by
        rw[hs,ByteArray.data_extract,Array.toList_extract,List.extract_eq_drop_take']
       rw[←this]
       refine .str _ ?_
       have:(bs.extract ll hh).size ≤bs.size:=by rw[ByteArray.size_extract];omega
       omega
     ·cases hl
    ·cases hl
   ·cases hr
  ·cases hr
 ·
  rename_i e' hu
  split at hr
  ·rename_i kk sz L s hL hs
   have hd:=hx.bF hL
   split at hr
   ·
    rename_i rr JB
    obtain⟨hh,ll,h1,h2,rfl⟩:=Nr JB
    have e2:mx.map a.eval=none:=by generalize mx.map a.eval=q at um;cases um;rfl
    split at hr
    ·cases hr
     generalize hv:a.eval x=u at hd
     cases hd
     have hb:=Dv (P:=P) (w:=w) true (Nat.le_refl 0) nS qc h1 h2
     have uo:ll=0:=by have:=hb.2;simp at this;omega
     have wg:hh=0:=by have:=hb.2;simp at this;omega
     subst uo wg
     refine bh.eu hI (v:=.slice none 0 0) ?_ (.d _ _ _ (.fD _)) hk
     simp[execOp,ho,Instr.sliceAt,run_underlying hu,Instr.slice,hv,hb.1,e2,iH hs]
    ·split at hr
     ·rename_i aH
      cases hr
      subst aH
      generalize hv:a.eval x=u at hd
      have jf:=hd
      cases hd with
      |jd _ ad cap ha=>
       have hb:=Dv (P:=P) (w:=w) true (Nat.zero_le cap) nS qc h1 h2
       have uo:ll=0:=by have:=hb.2;simp at this;omega
       have wg:hh=0:=by have:=hb.2;simp at this;omega
       subst uo wg
       refine bh.eu hI (v:=.slice (some ad) 0 cap) ?_ (.d _ _ _ (.jd _ ad cap ha)) hk
       simp only[execOp,ho,Instr.sliceAt,Sem.run_bind,run_underlying hu,Result.andThen_ok,Instr.slice,hv,e2,hb.1,iH hs]
       by_cases cN:cap=0
       ·simp[cN]
       ·simp[cN]
        rfl
      |sl _ _ b off cap vs bE hm _ hf aL hc=>
       have hb:=Dv (P:=P) (w:=w) true bE nS qc h1 h2
       refine bh.eu hI (v:=.slice (some (if cap=ll then⟨b,off,none⟩else⟨b,off+ll*sz,none⟩)) (hh-ll) (cap-ll)) ?_ (.d _ _ _ ?_) hk
       ·have:=ot b off (ll*sz)
        simp only[execOp,ho,Instr.sliceAt,Sem.run_bind,run_underlying hu,Result.andThen_ok,Instr.slice,hv,e2,hb.1,iH hs]
        by_cases cN:cap=ll
        ·simp[cN]
        ·simp[cN,this]
       ·by_cases cN:cap=ll
        ·have hhl:hh=ll:=by omega
         have Fs:ll=L.length:=by omega
         simp only[cN,↓reduceIte]
         have e0:(L.take hh).drop ll=[]:=List.drop_eq_nil_of_le (by simp;omega)
         rw[e0]
         have:=aU.sl (w:=w) (St:=g.St) sz [] b off (ll-ll) vs (by simp) (by simp) (by simp) (by simp) (by simp) (by simp)
         simpa[hhl]using this
        ·simp only[cN,↓reduceIte]
         exact Pv jf hb.2.1 hb.2.2 (by omega)
     ·cases hr
   ·
    rename_i rr m JB
    obtain⟨hh,ll,h1,h2,rfl⟩:=Nr JB
    split at hr
    ·rename_i Kx mm nT
     split at hr
     ·rename_i k1 av k2 bv
      split at hr
      ·rename_i Ft
       simp only[xB]at h1
       have Ky:hh=mm:=by
        obtain⟨_,i1,q1,_,_,q2⟩:=qD h1
        obtain⟨_,i2,q3,_,_,q4⟩:=qD nT
        cases q1;cases q3;rw[q2,q4,Ft]
       generalize Fu:hi.map a.eval=qh at qc
       generalize Fv:mx.map a.eval=qm at um
       cases qc with
       |some _ vh rh=>
        cases um with
        |some _ vm rm=>
         split at hr
         ·cases hr
          generalize hv:a.eval x=u at hd
          cases hd
          have hb:=GV (P:=P) (w:=w) (Nat.le_refl 0) nS rh rm nT h1 Ky h2
          have uo:ll=0:=by have:=hb.2;simp at this;omega
          have wg:hh=0:=by have:=hb.2;simp at this;omega
          subst uo wg
          refine bh.eu hI (v:=.slice none 0 0) ?_ (.d _ _ _ (.fD _)) hk
          simp[execOp,ho,Instr.sliceAt,run_underlying hu,Instr.slice,hv,hb.1,Fu,Fv,iH hs]
         ·split at hr
          ·rename_i aH
           cases hr
           subst aH
           generalize hv:a.eval x=u at hd
           have jf:=hd
           cases hd with
           |jd _ ad cap ha=>
            have hb:=GV (P:=P) (w:=w) (Nat.zero_le cap) nS rh rm nT h1 Ky h2
            have uo:ll=0:=by have:=hb.2;simp at this;omega
            have wg:hh=0:=by have:=hb.2;simp at this;omega
            subst uo wg
            refine bh.eu hI (v:=.slice (some ad) 0 0) ?_ ?_ hk
            ·simp[execOp,ho,Instr.sliceAt,run_underlying hu,Instr.slice,hv,hb.1,Fu,Fv,iH hs]
            ·exact .full _ sz [] ad (.jd sz ad 0 ha)
           |sl _ _ b off cap vs bE hm _ hf aL hc=>
            have hb:=GV (P:=P) (w:=w) bE nS rh rm nT h1 Ky h2
            have hlen:((L.take hh).drop ll).length =hh-ll:=by simp;omega
            by_cases cN:hh=ll
            ·subst cN
             have e0:(L.take hh).drop hh=[]:=List.drop_eq_nil_of_le (by simp;omega)
             rw[e0]at hk
             refine bh.eu hI (v:=.slice (some ⟨b,off,none⟩) 0 0) ?_ ?_ hk
             ·simp[execOp,ho,Instr.sliceAt,run_underlying hu,Instr.slice,hv,hb.1,Fu,Fv,iH hs]
             ·exact .full _ sz [] ⟨b,off,none⟩ (aU.sl sz [] b off 0 vs (by simp) (by simp) (by simp) (by simp) (by simp) (by simp))
            ·refine bh.eu hI (v:=.slice (some ⟨b,off+ll*sz,none⟩) (hh-ll) (hh-ll)) ?_ ?_ hk
             ·have:=ot b off (ll*sz)
              simp[execOp,ho,Instr.sliceAt,run_underlying hu,Instr.slice,hv,hb.1,Fu,Fv,iH hs,cN,this]
             ·have:=Pv (c':=hh-ll) jf hb.2.1 hb.2.2 (Nat.le_refl _)
              rw[←hlen]at this ⊢
              exact .full _ sz _ _ this
          ·cases hr
      ·cases hr
     ·cases hr
    ·cases hr
   ·cases hr
  ·cases hr
 ·cases hr
end
end Go.Proofs.Ytimbllcalipehaa.Ab
namespace Go.Proofs.Ytimbllcalipehaa.Ab
open Go Go.RowKit
section
variable{P:Program}{gl:Nat→Option D}{w0:World}{an:S0}{e:Env}{a:Act}{w:World}{g:Gh}
theorem XD(hI:Inv gl w0 an e a w g){o:Oper}{c:Call}(ho:o.op=.call c)(hc:c.callee=.builtin .len){x:Operand}{xs:List Operand}{t:TypeId}{ts:List TypeId}
  (hx:c.args.toList=x::xs)(ht:c.argTypes.toList=t::ts){k:Slot→List af→Prop}(h:ab (Jy P t ((Ab.aQ gl e x).aa).bJ) fun r=>k (.v r) e.boxes):bh P gl w0 an e.ai o a w k:=by
 obtain⟨r,hr,hk⟩:=aF h
 have dp:=hI.gu x
 generalize ((Ab.aQ gl e x).aa).bJ =sx at hr dp
 have h0:c.args[0]? =some x:=by rw[←Array.getElem?_toList,hx];rfl
 have h1:c.argTypes[0]? =some t:=by rw[←Array.getElem?_toList,ht];rfl
 have aV:∀v,(Builtin.len_ c.argTypes o.type (c.args.map a.eval)).run P w=.ok v w→(execOp a.eval o).run P w=.ok (.value v) w:=by
  intro v hv
  simp[execOp,ho,resolve,hc,invoke,builtin,hv]
 unfold Jy at hr
 split at hr
 ·rename_i hu
  split at hr
  ·rename_i s
   cases hr
   obtain⟨bs,hv,hs,hm⟩:=dp.data.sQ
   refine bh.eu hI (v:=.int .i64 bs.size) (aV _ ?_) (.d _ _ _ ?_) hk
   ·simp[Builtin.len_,h0,h1,run_underlying hu,hv,goInt]
   ·have:(bs.size:Int)=(s.length:Int):=by rw[hs,Array.length_toList];rfl
    rw[this]
    refine .int _ _ ?_
    have:s.length=bs.size:=by rw[hs,Array.length_toList];rfl
    simp only[maxLen]at hm
    simp[fm,IntKind.min,IntKind.max,IntKind.signed,IntKind.bits]
    omega
  ·cases hr
 ·rename_i n e' hu
  cases hb:Nat.ble n maxLen with
  |false=>rw[hb]at hr;cases hr
  |true=>
   rw[hb]at hr
   cases hr
   have hm:=Nat.le_of_ble_eq_true hb
   refine bh.eu hI (v:=.int .i64 n) (aV _ ?_) (.d _ _ _ (.int _ _ ?_)) hk
   ·simp[Builtin.len_,h0,h1,run_underlying hu,goInt]
   ·simp only[maxLen]at hm
    simp[fm,IntKind.min,IntKind.max,IntKind.signed,IntKind.bits]
    omega
 ·rename_i e' hu
  split at hr
  ·rename_i n s cs
   cases hr
   generalize hv:a.eval x=u at dp
   cases dp with
   |cM _ _ _ _ b cap vs dN hn hm aL hc=>
    refine bh.eu hI (v:=.int .i64 n) (aV _ ?_) (.d _ _ _ (.int _ _ ?_)) hk
    ·simp[Builtin.len_,h0,h1,run_underlying hu,hv,goInt]
    ·simp only[maxLen]at hm
     simp[fm,IntKind.min,IntKind.max,IntKind.signed,IntKind.bits]
     omega
  split at hr
  ·rename_i L hL
   cases hr
   have key:∃ad cap,a.eval x=.slice ad L.length cap∧L.length≤maxLen:=by
    have go:∀{s L' v},aU w g.St (.sl .ro s L') v→∃ad cap,v=.slice ad L'.length cap∧L'.length≤maxLen:=by
     intro s L' v hd
     cases hd with
     |sl _ _ b off cap vs bE hm aH hf aL hc=>exact⟨_,_,rfl,hm⟩
     |jd _ ad c _=>exact⟨_,_,rfl,by simp⟩
    unfold Bf at hL
    split at hL
    ·rename_i k' s' L' _
     cases hL
     have hd:=dp.data
     cases k'
     ·generalize a.eval x=u at hd;cases hd;exact⟨_,_,rfl,by simp⟩
     ·exact go hd
    ·cases hL
     generalize a.eval x=u at dp
     cases dp with
     |own _ _ _ gg cap hd bE ho=>exact go hd
    ·cases hL
     generalize a.eval x=u at dp
     cases dp with
     |full _ _ _ ad hd=>exact go hd
    ·cases hL
   obtain⟨ad,cap,hv,hm⟩:=key
   refine bh.eu hI (v:=.int .i64 L.length) (aV _ ?_) (.d _ _ _ (.int _ _ ?_)) hk
   ·simp[Builtin.len_,h0,h1,run_underlying hu,hv,goInt]
   ·simp only[maxLen]at hm
    simp[fm,IntKind.min,IntKind.max,IntKind.signed,IntKind.bits]
    omega
  ·cases hr
 ·cases hr
theorem MD(off:Nat):∀(l:List Value)(k:Nat)(cells:Array Value)(i:Nat),off+k+l.length≤cells.size→
  ((l.zipIdx k).foldl (fun cs(c,j)=>cs.setIfInBounds (off+j) c) cells).size =cells.size∧
  ((l.zipIdx k).foldl (fun cs(c,j)=>cs.setIfInBounds (off+j) c) cells)[i]? =if off+k≤i∧i<off+k+l.length then l[i-(off+k)]? else cells[i]?
 |[],k,cells,i,_=>by
  refine⟨rfl,?_⟩
  rw[if_neg (by simp;try omega)]
  simp
 |v::l,k,cells,i,h=>by
  simp only[List.length_cons]at h
  simp only[List.zipIdx_cons,List.foldl_cons]
  obtain⟨h1,h2⟩:=MD off l (k+1) (cells.setIfInBounds (off+k) v) i (by simp;omega)
  refine⟨by rw[h1];simp,?_⟩
  rw[h2]
  by_cases hi:i=off+k
  ·subst hi
   rw[if_neg (by omega),if_pos (by simp)]
   simp only[Nat.sub_self,List.getElem?_cons_zero]
   rw[Array.getElem?_setIfInBounds_self]
   rw[if_pos (by omega)]
  ·by_cases hr:off+(k+1)≤i∧i<off+(k+1)+l.length
   ·rw[if_pos hr,if_pos (by simp;omega)]
    have:i-(off+k)=(i-(off+(k+1)))+1:=by omega
    rw[this,List.getElem?_cons_succ]
   ·rw[if_neg hr,if_neg (by simp;omega),Array.getElem?_setIfInBounds_ne (by omega)]
def HK(w:World)(St:Nat→Nat→Prop):List (Nat×D)→List (Nat×Value)→Prop
 |[],[]=>True
 |(i,d)::l,(j,v)::m=>i=j∧aU w St d v∧HK w St l m
 |_,_=>False
theorem aU.Wv{St:Nat→Nat→Prop}{d:D}{v:Value}(r:aU w St d v):jq w St d.cells v.cells:=by
 by_cases h:d.one=true
 ·have h1:=r.pw h
  have hc:d.cells=[d]:=by cases d<;>first|rfl|simp[D.one]at h
  have hv:v.cells= #[v]:=by cases v<;>first|rfl|simp[Value.oneCell']at h1
  rw[hc,hv]
  refine⟨rfl,fun i x y hx hy=>?_⟩
  cases i with
  |zero=>simp at hx hy;subst hx hy;exact r
  |succ i=>simp at hx
 ·cases d<;>simp only[D.one,not_true_eq_false]at h
  obtain⟨vs,rfl,hr,_⟩:=r.ve
  exact hr
theorem HL{St:Nat→Nat→Prop}(place:Nat→Option (Nat×Nat)):∀(ps:List (Nat×D))(qs:List (Nat×Value))(cs:List D)(cells:Array Value)(r:List D),
  HK w St ps qs→jq w St cs cells→(∀d∈cs,d.one=true)→re place cs ps=some r→
  ∃r',Instr.fill place cells qs=some r'∧jq w St r r'∧∀d∈r,d.one=true
 |[],[],cs,cells,r,_,hc,hf,h=>by
  simp only[re,Option.some.injEq]at h
  subst h
  exact⟨cells,rfl,hc,hf⟩
 |(i,d)::ps,(j,v)::qs,cs,cells,r,hp,hc,hf,h=>by
  obtain⟨rfl,hd,hp⟩:=hp
  simp only[re]at h
  split at h
  ·cases h
  ·rename_i off sz fe
   split at h
   ·rename_i zR
    have Sd:=hd.Wv
    have aH:v.cells.size=sz:=by rw[←Sd.1];exact zR.1
    have hle:off+sz≤cells.size:=by rw[←hc.1];exact zR.2
    have hg:=fun i=>MD off v.cells.toList 0 cells i (by simp[aH];omega)
    simp only[Nat.add_zero,Array.length_toList,aH]at hg
    have acK:v.cells.zipIdx.foldl (fun cs(c,j)=>cs.setIfInBounds (off+j) c) cells=(v.cells.toList.zipIdx.foldl (fun cs(c,j)=>cs.setIfInBounds (off+j) c) cells):=by
     rw[←Array.foldl_toList,Array.toList_zipIdx]
    obtain⟨r',h1,h2,h3⟩:=HL place ps qs _ (v.cells.zipIdx.foldl (fun cs(c,j)=>cs.setIfInBounds (off+j) c) cells) r hp (by
     rw[acK]
     constructor
     ·rw[(hg 0).1,←hc.1];simp[zR.1];omega
     ·intro i x y hx hy
      rw[(hg i).2]at hy
      have:=sG cs d.cells off (by rw[zR.1];exact zR.2) i
      rw[zR.1]at this
      rw[this]at hx
      split at hx
      ·rename_i h1
       rw[if_neg (by omega)]at hy
       exact hc.2 i x y hx hy
      ·rename_i h1
       split at hx
       ·rename_i h2
        rw[if_pos (by omega)]at hy
        rw[Array.getElem?_toList]at hy
        exact Sd.2 _ x y hx hy
       ·rename_i h2
        rw[if_neg (by omega)]at hy
        exact hc.2 i x y hx hy) (by
     intro x hx
     simp only[List.mem_append]at hx
     rcases hx with(hx|hx)|hx
     ·exact hf x (List.mem_of_mem_take hx)
     ·exact hd.NV x hx
     ·exact hf x (List.mem_of_mem_drop hx)) h
    refine⟨r',?_,h2,h3⟩
    rw[Instr.fill]
    simp only[fe,aH]
    rw[if_neg (by simp;omega)]
    exact h1
   ·cases h
 |[],_::_,_,_,_,h,_,_,_=>h.elim
 |_::_,[],_,_,_,h,_,_,_=>h.elim
theorem G6(hI:Inv gl w0 an e a w g):∀{ps:List (Nat×Operand)}{l:List (Nat×D)},mz (fun x=>(Ab.aQ gl e x).aa) ps=some l→HK w g.St l (ps.map fun(i,x)=>(i,a.eval x))
 |[],l,h=>by simp only[mz,Option.some.injEq]at h;subst h;trivial
 |(i,x)::ps,l,h=>by
  simp only[mz]at h
  split at h
  ·rename_i y hy
   split at h
   ·rename_i z hz
    split at h
    ·rename_i r hr
     cases h
     exact⟨rfl,(hI.nO hy).bF hz,G6 hI hr⟩
    ·cases h
   ·cases h
  ·cases h
theorem M4:∀{fs:List Field}{l:List (Nat×Nat)},Bv P fs=some l→(fs.mapM (m:=Sem) fun f=>do pure (f.offset,←sizeOf f.type)).run P w=.ok l w
 |[],l,h=>by simp only[Bv,Option.some.injEq]at h;subst h;rfl
 |f::fs,l,h=>by
  simp only[Bv]at h
  split at h
  ·rename_i s hs
   split at h
   ·rename_i r hr
    cases h
    simp only[List.mapM_cons,Sem.run_bind,iH hs,Result.andThen_ok,Sem.run_pure,M4 hr]
   ·cases h
  ·cases h
theorem VM(hI:Inv gl w0 an e a w g){o:Oper}{t:TypeId}{ps:Array (Nat×Operand)}(ho:o.op=.build t ps){k:Slot→List af→Prop}
  (h:ab (mz (fun x=>(Ab.aQ gl e x).aa) ps.toList) fun l=>ab (cY P t l) fun r=>k (.v (.d r)) e.boxes):bh P gl w0 an e.ai o a w k:=by
 obtain⟨l,hl,h⟩:=aF h
 obtain⟨r,hr,hk⟩:=aF h
 have hp:=G6 hI hl
 unfold cY at hr
 split at hr
 ·rename_i z hz
  split at hr
  ·rename_i pl fe
   split at hr
   ·rename_i cs bO
    cases hr
    obtain⟨zv,qe,Cz,vw,Jc⟩:=GK hz
    obtain⟨r',h1,h2,h3⟩:=HL (w:=w) (St:=g.St) pl l _ z zv.cells cs hp ⟨Cz,fun i x v=>Jc w g.St i x v⟩ vw bO
    refine bh.eu hI (v:=.agg r') ?_ (.d _ _ _ (h2.agg h3)) hk
    have BI:(ps.map fun(i,x)=>(i,a.eval x)).toList =ps.toList.map fun(i,x)=>(i,a.eval x):=by simp
    unfold MX at fe
    split at fe
    ·rename_i fs hu
     split at fe
     ·rename_i ll Fs
      cases fe
      have hm:(fs.mapM (m:=Sem) fun f=>do pure (f.offset,←sizeOf f.type)).run P w=.ok ll.toArray w:=by
       have e1:fs=fs.toList.toArray:=by simp
       rw[e1,List.mapM_toArray,Sem.run_map,M4 Fs]
       rfl
      simp only[execOp,ho,Sem.run_bind,Instr.build,qe,Result.andThen_ok,run_underlying hu,hm]
      rw[BI]
      have:(fun x:Nat=>ll.toArray[x]?)=fun i=>ll[i]? :=by funext i;simp
      rw[this,h1]
      rfl
     ·cases fe
    ·rename_i n e' hu
     split at fe
     ·rename_i s hs
      cases fe
      simp only[execOp,ho,Sem.run_bind,Instr.build,qe,Result.andThen_ok,run_underlying hu,iH hs]
      rw[BI,h1]
      rfl
     ·cases fe
    ·cases fe
   ·cases hr
  ·cases hr
 ·cases hr
theorem M5(sz n:Nat):∀(l:List (Nat×D))(cs:List D),cs.length=n*sz→bq sz n l=true→
  ∃r,re (fun i=>some (i*sz,sz)) cs l=some r∧r.length=n*sz∧∀i j,i<n→j<sz→r[i*sz+j]? =(match oq i l with|some x=>x.cells[j]? |none=>cs[i*sz+j]?)
 |[],cs,h,_=>⟨cs,rfl,h,fun i j _ _=>rfl⟩
 |(i0,d)::l,cs,h,hp=>by
  simp only[bq,Bool.and_eq_true]at hp
  obtain⟨⟨h1,h2⟩,h3⟩:=hp
  have uq:i0<n:=Nat.lt_of_succ_le (Nat.le_of_ble_eq_true h1)
  have hd:=Nat.eq_of_beq_eq_true h2
  have hle:i0*sz+sz≤n*sz:=by
   have:(i0+1)*sz≤n*sz:=Nat.mul_le_mul_right _ uq
   rw[Nat.succ_mul]at this;exact this
  obtain⟨r,q1,q2,q3⟩:=M5 sz n l (cs.take (i0*sz)++d.cells++cs.drop (i0*sz+sz)) (by rw[List.length_append,List.length_append,List.length_take,List.length_drop,hd,h];omega) h3
  refine⟨r,?_,q2,fun i j hi hj=>?_⟩
  ·simp only[re]
   rw[if_pos ⟨hd,by rw[h];exact hle⟩]
   exact q1
  ·rw[q3 i j hi hj]
   cases CA:oq i l with
   |some y=>simp only[oq,CA]
   |none=>
    simp only[oq,CA]
    have:=sG cs d.cells (i0*sz) (by rw[hd,h];exact hle) (i*sz+j)
    rw[hd]at this
    rw[this]
    cases hb:i==i0 with
    |true=>
     have:i=i0:=by simpa using hb
     subst this
     rw[if_neg (by omega),if_pos (by omega)]
     simp
    |false=>
     have bf:i≠i0:=by simpa using hb
     simp only[cond_false]
     rcases Nat.lt_or_ge i i0 with aI|jU
     ·have:(i+1)*sz≤i0*sz:=Nat.mul_le_mul_right _ aI
      rw[Nat.succ_mul]at this
      rw[if_pos (by omega)]
     ·have:(i0+1)*sz≤i*sz:=Nat.mul_le_mul_right _ (by omega)
      rw[Nat.succ_mul]at this
      rw[if_neg (by omega),if_neg (by omega)]
theorem GG(zero:D)(l:List (Nat×D)):∀(n s i:Nat),(bu zero l n s).length =n∧(i<n→(bu zero l n s)[i]? =some (match oq (s+i) l with|some x=>x|none=>zero))
 |0,s,i=>⟨rfl,fun h=>by omega⟩
 |n+1,s,i=>by
  refine⟨by simp[bu,(GG zero l n (s+1) 0).1],fun h=>?_⟩
  cases i with
  |zero=>rfl
  |succ i=>
   have:=(GG zero l n (s+1) i).2 (by omega)
   simp only[bu,List.getElem?_cons_succ]
   rw[this]
   have:s+1+i=s+(i+1):=by omega
   rw[this]
theorem bh.Y2(hI:Inv gl w0 an e a w g){o:Oper}{cells:Array Value}{t:TypeId}{s:SV}{v:Value}{k:Slot→List af→Prop}
  (aV:(execOp a.eval o).run P w=.ok (.value v) (w.alloc (.cells cells t)))
  (rep:∀(g':Gh),(∀o,g'.St w.heap.size o)→Ext w0.heap.size w g (w.alloc (.cells cells t)) g' (fun _=>False)→aG (w.alloc (.cells cells t)) g'.St w0.heap.size (fun _ _ _=>False) s v)
  (hk:k (.v s) e.boxes):bh P gl w0 an e.ai o a w k:=by
 intro next Q hn
 unfold Oper.wp
 rw[aV]
 have hle:w0.heap.size≤w.heap.size:=hI.below.size
 have hX:Ext w0.heap.size w g (w.alloc (.cells cells t)) {g with St:=fun b o=>g.St b o∨b=w.heap.size} (fun _=>False):=by
  refine⟨fun D o hb ho h=>⟨(ig w _ D (fj h)).trans h,hb,ho,fun x hx=>hx.elim id fun e=>(by have:=fj h;omega)⟩,fun b o h=>⟨.inl h,.pt (ig w _ b (hI.nI h))⟩,fun b o h=>GD w _ b o (by omega),fun i aj h=>h,fun p b a c _ ho=>?_,.of fun b hb=>ig w _ b hb⟩
  have aI:=ho.lt
  obtain⟨h1,h2,h3,⟨cur,ty,h4,jT⟩,h5⟩:=ho
  exact⟨⟨h1,h2,h3,⟨cur,ty,(ig w _ b aI).trans h4,jT⟩,fun o ho=>by rintro(h|h);exact h5 o ho h;omega⟩,fun _=>ig w _ b aI⟩
 have hr:=rep {g with St:=fun b o=>g.St b o∨b=w.heap.size} (fun _=>Or.inr rfl) hX
 refine hn (.v s) _ _ _ {g with St:=fun b o=>g.St b o∨b=w.heap.size} (hI.EG (g':={g with St:=fun b o=>g.St b o∨b=w.heap.size})
  ⟨hX.df,hX.st,hX.bs,hX.bx,fun p b a c _ ho=>hX.own p b a c (fun h=>h) ho,hX.sh⟩ ((Below.refl _ _).alloc (Nat.le_refl _) _) (fun d _=>?_) rfl (fun b o h=>?_)) hk
 ·exact .v _ _ _ (hr.mono (fun _ _ h=>⟨h,.refl _ _ _⟩) (fun _ _ _=>rfl) _ (fun _ _ _ h=>h.elim))
 ·have hs:=A5 w (.cells cells t)
  rcases h with h|h
  ·exact .inl h
  ·right;omega
theorem MO{b:Bool}{z:List D}(hf:∀d∈z,d.one=true)(h1:b=false→z.length=1):(bD b z).cells =z:=by
 unfold bD
 cases b
 ·obtain⟨x,rfl⟩:=List.length_eq_one_iff.1 (h1 rfl)
  have:=hf x (by simp)
  cases x<;>first|rfl|simp[D.one]at this
 ·rfl
theorem A6{t e':TypeId}(h:mu P t=some e'):P.underlying t=some (.slice e'):=by
 unfold mu at h
 split at h
 ·rename_i jS hu;cases h;exact hu
 ·cases h
theorem Mt(hI:Inv gl w0 an e a w g){o:Oper}{t:TypeId}{n:Nat}{ps:Array (Nat×Operand)}(ho:o.op=.buildSlice t n ps){K:Nat→List D→Prop}
  (h:ab (mu P t) fun e'=>ab (js P e') fun ly=>ab (mn P e') fun z=>ab (mz (fun x=>(Ab.aQ gl e x).aa) ps.toList) fun l=>
    bif Nat.ble (n*ly.2) (2^24)&&Nat.blt 0 ly.2&&Nat.beq z.length ly.2 then(bq ly.2 n l=true∧K ly.2 (bu (bD ly.1 z) l n 0))else False):
  ∃(r':Array Value) (e':TypeId) (sz:Nat) (L:List D),K sz L∧(execOp a.eval o).run P w=.ok (.value (.slice (some ⟨w.heap.size,0,none⟩) L.length L.length)) (w.alloc (.cells r' e'))∧r'.size=L.length*sz∧
   L.length≤maxLen∧(∀x∈L,x.cells.length=sz∧∀c∈x.cells,c.one=true)∧∀(i:Nat)x(j:Nat)c,L[i]? =some x→x.cells[j]? =some c→i*sz+j<r'.size∧aU w g.St c (r'.getD (i*sz+j) undef):=by
 obtain⟨e',he,h⟩:=aF h
 obtain⟨⟨b,sz⟩,hl,h⟩:=aF h
 obtain⟨z,hz,h⟩:=aF h
 obtain⟨l,hp,h⟩:=aF h
 cases hc:(Nat.ble (n*sz) (2^24)&&Nat.blt 0 sz&&Nat.beq z.length sz)with
 |false=>simp only[hc,cond_false]at h
 |true=>
  simp only[hc,cond_true]at h
  simp only[Bool.and_eq_true]at hc
  obtain⟨⟨Sa,hc2⟩,hc3⟩:=hc
  obtain⟨mL,hk⟩:=h
  have hlen:=Nat.eq_of_beq_eq_true hc3
  have Kz:=Nat.le_of_ble_eq_true Sa
  have z2:0<sz:=Nat.lt_of_succ_le (Nat.le_of_ble_eq_true hc2)
  have hu:=A6 he
  obtain⟨hb,hn,bV⟩:=D8 hl
  obtain⟨zv,qe,Cz,vw,Jc⟩:=GK hz
  have BJ:=G6 hI hp
  have iC:zv.cells.size=sz:=by rw[←Cz,hlen]
  have Fw:jq w g.St ((List.range (n*sz)).map fun i=>z.getD (i % sz) .my) ((Array.range (n*sz)).map (zv.cells[· % zv.cells.size]!))∧
    ∀d∈((List.range (n*sz)).map fun i=>z.getD (i % sz) .my),d.one=true:=by
   have hm:∀i,i % sz<z.length:=fun i=>by rw[hlen];exact Nat.mod_lt _ z2
   constructor
   ·refine⟨by simp,fun i x v hx hv=>?_⟩
    simp only[List.getElem?_map,Option.map_eq_some_iff]at hx
    obtain⟨j,hj,rfl⟩:=hx
    have hi:i<n*sz:=by have:=(List.getElem?_eq_some_iff.1 hj).1;simpa using this
    rw[List.getElem?_range hi]at hj
    cases hj
    have gy:=hm i
    have Fx:i % sz<zv.cells.size:=by rw[iC];exact Nat.mod_lt _ z2
    simp[hi,iC]at hv
    rw[getElem!_pos zv.cells (i % sz) Fx]at hv
    subst hv
    refine Jc w g.St (i % sz) _ _ ?_ (Array.getElem?_eq_getElem Fx)
    rw[List.getD_eq_getElem?_getD,List.getElem?_eq_getElem gy];rfl
   ·intro d hd
    simp only[List.mem_map,List.mem_range]at hd
    obtain⟨i,hi,rfl⟩:=hd
    have gy:=hm i
    rw[List.getD_eq_getElem?_getD,List.getElem?_eq_getElem gy]
    exact vw _ (List.getElem_mem gy)
  obtain⟨r,q1,q2,q3⟩:=M5 sz n l ((List.range (n*sz)).map fun i=>z.getD (i % sz) .my) (by simp) mL
  obtain⟨r',f1,f2,f3⟩:=HL (w:=w) (St:=g.St) _ l _ _ _ r BJ Fw.1 Fw.2 q1
  have BI:(ps.map fun(i,x)=>(i,a.eval x)).toList =ps.toList.map fun(i,x)=>(i,a.eval x):=by simp
  have Rn:r'.size=n*sz:=by rw[←f2.1,q2]
  have hL:=GG (bD b z) l n 0
  have BU:=(hL 0).1
  have KA:∀i x,oq i l=some x→x.cells.length=sz∧∀c∈x.cells,c.one=true:=by
   intro i x hx
   clear hL BU q1 q2 q3 f1 f2 f3 hp hk
   revert mL BJ
   generalize (ps.toList.map fun(i,x)=>(i,a.eval x))=qs
   intro mL BJ
   induction l generalizing qs with
   |nil=>simp[oq]at hx
   |cons p l ih=>
    obtain⟨j,d⟩:=p
    cases qs with
    |nil=>exact BJ.elim
    |cons q qs=>
     obtain⟨j',v⟩:=q
     obtain⟨_,hd,Se⟩:=BJ
     simp only[bq,Bool.and_eq_true]at mL
     simp only[oq]at hx
     split at hx
     ·rename_i y hy
      cases hx
      exact ih hy qs mL.2 Se
     ·cases hb:i==j<;>rw[hb]at hx<;>simp only[cond_true,cond_false,Option.some.injEq,reduceCtorEq]at hx
      subst hx
      exact⟨Nat.eq_of_beq_eq_true mL.1.2,hd.NV⟩
  have g9:∀i x,(bu (bD b z) l n 0)[i]? =some x→i<n∧x=(match oq i l with|some x=>x|none=>bD b z):=by
   intro i x hx
   have hi:i<n:=by rw[←BU];exact(List.getElem?_eq_some_iff.1 hx).1
   have:=(hL i).2 hi
   rw[this]at hx
   simp only[Nat.zero_add]at hx
   exact⟨hi,(Option.some.inj hx).symm⟩
  have Sf:(bD b z).cells =z:=MO vw (fun h=>by rw[hlen];exact bV h)
  have fR:∀x∈bu (bD b z) l n 0,x.cells.length=sz∧∀c∈x.cells,c.one=true:=by
   intro x hx
   obtain⟨i,hi⟩:=List.mem_iff_getElem?.1 hx
   obtain⟨_,rfl⟩:=g9 i x hi
   split
   ·rename_i y hy;exact KA _ _ hy
   ·rw[Sf];exact⟨hlen,vw⟩
  have kj:n≤maxLen:=by
   have:n*1≤n*sz:=Nat.mul_le_mul_left _ z2
   simp only[maxLen];omega
  have aV:(execOp a.eval o).run P w=.ok (.value (.slice (some ⟨w.heap.size,0,none⟩) n n)) (w.alloc (.cells r' e')):=by
   have hif:¬(n*sz>2^24):=by omega
   have hns:¬(n*sz=0∧n≠0):=by
    rintro⟨h1,h2⟩
    rcases Nat.mul_eq_zero.1 h1 with h|h<;>omega
   simp only[execOp,ho,Sem.run_bind,Instr.buildSlice,run_underlying hu,Result.andThen_ok,iH hn,hif,if_false]
   by_cases h0:n*sz=0
   ·have x7:(Array.range (n*sz)).map (fun x=>(#[]:Array Value)[x % (#[]:Array Value).size]!)=(Array.range (n*sz)).map (zv.cells[· % zv.cells.size]!):=by rw[h0];simp
    simp only[if_pos h0,Sem.run_bind,Sem.run_pure,Result.andThen_ok]
    rw[x7,BI,f1]
    simp[newRow]
   ·simp only[if_neg h0,Sem.run_bind,Sem.run_pure,Result.andThen_ok,qe]
    rw[BI,f1]
    simp[newRow]
  refine⟨r',e',sz,bu (bD b z) l n 0,hk,by rw[BU];exact aV,by rw[BU];exact Rn,by rw[BU];exact kj,fR,fun i x j c hx hc=>?_⟩
  obtain⟨hi,rfl⟩:=g9 i x hx
  have hj:j<sz:=by
   have h1:=(fR _ (List.mem_of_getElem? hx)).1
   have h2:=(List.getElem?_eq_some_iff.1 hc).1
   omega
  have aI:i*sz+j<n*sz:=by
   have:(i+1)*sz≤n*sz:=Nat.mul_le_mul_right _ hi
   rw[Nat.succ_mul]at this;omega
  have hq:=q3 i j hi hj
  have hcr:r[i*sz+j]? =some c:=by
   rw[hq]
   cases CA:oq i l with
   |some y=>rw[CA]at hc;exact hc
   |none=>
    rw[CA]at hc
    simp only at hc
    rw[Sf]at hc
    simp only
    rw[List.getElem?_map,List.getElem?_range aI]
    have xI:(i*sz+j) % sz=j:=by rw[Nat.add_comm,Nat.add_mul_mod_self_right,Nat.mod_eq_of_lt hj]
    simp only[Option.map_some,xI,List.getD_eq_getElem?_getD,hc,Option.getD_some]
  have z1:i*sz+j<r'.size:=by rw[Rn];exact aI
  refine⟨z1,f2.2 (i*sz+j) c _ hcr ?_⟩
  simp[z1]
theorem Ub(hI:Inv gl w0 an e a w g){o:Oper}{t:TypeId}{n:Nat}{ps:Array (Nat×Operand)}(ho:o.op=.buildSlice t n ps){k:Slot→List af→Prop}
  (h:ab (mu P t) fun e'=>ab (js P e') fun ly=>ab (mn P e') fun z=>ab (mz (fun x=>(Ab.aQ gl e x).aa) ps.toList) fun l=>
    bif Nat.ble (n*ly.2) (2^24)&&Nat.blt 0 ly.2&&Nat.beq z.length ly.2 then(bq ly.2 n l=true∧k (.v (.full ly.2 (bu (bD ly.1 z) l n 0))) e.boxes)else False):
  bh P gl w0 an e.ai o a w k:=by
 obtain⟨r',e',sz,L,hk,aV,aH,kj,fR,aW⟩:=Mt hI ho (K:=fun sz L=>k (.v (.full sz L)) e.boxes) h
 refine bh.Y2 hI (cells:=r') (t:=e') aV (fun g' aT hX=>?_) hk
 refine .full (w:=w.alloc (.cells r' e')) (St:=g'.St) (base:=w0.heap.size) (fun _ _ _=>False) sz L ⟨w.heap.size,0,none⟩ ?_
 refine aU.sl (w:=w.alloc (.cells r' e')) (St:=g'.St) sz L w.heap.size 0 L.length (fun o=>r'.getD o undef) (Nat.le_refl _) kj (fun x hx=>(fR x hx).1) (fun x hx=>(fR x hx).2)
  (fun o' bH=>⟨by
    rw[cell_of_row _ w.heap.size (0+o') r' e' (0,0) (u2 w _)]
    simp[aH,bH],aT _⟩) (fun i x j c hx hc=>hX.z0 (aW i x j c hx hc).2)
theorem bh.Pw(hI:Inv gl w0 an e a w g){o:Oper}{cells:Array Value}{t:TypeId}{sz:Nat}{L:List D}{k:Slot→List af→Prop}
  (aV:(execOp a.eval o).run P w=.ok (.value (.slice (some ⟨w.heap.size,0,none⟩) L.length L.length)) (w.alloc (.cells cells t)))
  (aH:cells.size=L.length*sz)(kj:L.length≤maxLen)(fR:∀x∈L,x.cells.length=sz∧∀c∈x.cells,c.one=true)
  (rep:∀(i:Nat)x(j:Nat)c,L[i]? =some x→x.cells[j]? =some c→i*sz+j<cells.size∧aU w g.St c (cells.getD (i*sz+j) undef))
  (hk:k (.v (.bt sz L)) e.boxes):bh P gl w0 an e.ai o a w k:=by
 intro next Q hn
 unfold Oper.wp
 rw[aV]
 have hle:w0.heap.size≤w.heap.size:=hI.below.size
 let g':Gh:={g with ow:=fun b=>if b=w.heap.size then o.dst.map (fun d=>.s d 0)else g.ow b}
 have hX:Ext w0.heap.size w g (w.alloc (.cells cells t)) g' (fun _=>False):=by
  refine⟨fun D ob hb ho h=>⟨(ig w _ D (fj h)).trans h,hb,(by
   show(if D=w.heap.size then o.dst.map (fun d=>Pos.s d 0)else g.ow D)=none
   rw[if_neg (by have:=fj h;omega)];exact ho),fun _ h=>h⟩,fun b o h=>⟨h,.pt (ig w _ b (hI.nI h))⟩,fun b o h=>GD w _ b o (by omega),fun i aj h=>h,fun p b a c _ ho=>?_,.of fun b hb=>ig w _ b hb⟩
  have aI:=ho.lt
  obtain⟨h1,h2,h3,⟨cur,ty,h4,jT⟩,h5⟩:=ho
  refine⟨⟨?_,h2,h3,⟨cur,ty,(ig w _ b aI).trans h4,jT⟩,h5⟩,fun _=>ig w _ b aI⟩
  show(if b=w.heap.size then o.dst.map (fun d=>Pos.s d 0)else g.ow b)=some p
  rw[if_neg (by omega)];exact h1
 refine hn (.v (.bt sz L)) _ _ _ g' (hI.EG (g':=g')
  ⟨hX.df,hX.st,hX.bs,hX.bx,fun p b a c _ ho=>hX.own p b a c (fun h=>h) ho,hX.sh⟩ ((Below.refl _ _).alloc (Nat.le_refl _) _) (fun d hd=>?_) rfl (fun b o h=>.inl h)) hk
 refine .v _ _ _ (.bt (w:=w.alloc (.cells cells t)) _ sz L w.heap.size L.length (fun o=>cells.getD o undef) (Nat.le_refl _) kj (fun x hx=>(fR x hx).1) (fun x hx=>(fR x hx).2) ?_ (fun o' bH=>?_)
  (fun i x j c hx hc=>hX.z0 (rep i x j c hx hc).2))
 ·refine⟨?_,hle,fun hm=>by have:=(hI.cZ _ hm).2;omega,⟨cells,t,u2 w _,aH⟩,fun o' _ aT=>by have:=hI.nI aT;omega⟩
  show(if w.heap.size=w.heap.size then o.dst.map (fun d=>Pos.s d 0)else g.ow w.heap.size)=some (.s d 0)
  rw[if_pos rfl,hd];rfl
 ·have:=cell_of_row (w.alloc (.cells cells t)) w.heap.size o' cells t (0,0) (u2 w _)
  rw[this]
  simp[aH,bH]
end
end Go.Proofs.Ytimbllcalipehaa.Ab
