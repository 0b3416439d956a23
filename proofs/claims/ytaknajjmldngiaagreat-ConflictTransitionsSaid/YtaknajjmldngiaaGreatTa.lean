/-
  THE ABSTRACT WALK, definitions: data trees, slot values, and an abstract weakest precondition over the model's code.
-/
import Derived.Orders
import Derived.Still
import Derived.Below
import Derived.KernelRfl
import Derived.Laws.AppendOwn
import Derived.Laws.Build
import Derived.Laws.Sem
import Derived.WalkKit
import Derived.Laws.StructEq
import Derived.ChangeKeysEq
set_option linter.unusedVariables false
set_option linter.unusedSimpArgs false
namespace Go.Proofs.YtaknajjmldngiaaGreat.Ab
open Go
inductive SK where
 |nil|ro
 deriving DecidableEq
inductive D where
 |bool (b:Bool)
 |int (k:IntKind) (n:Int)
 |str (s:List UInt8)
 |agg (cs:List D)
 |sl (k:SK) (sz:Nat) (L:List D)
 |fn (f:Fn)
 |rS
 |iface (t:TypeId) (x:D)
 |qe
 |nt
def gv(k:IntKind)(n:Int):Bool:=decide (k.min≤n)&&decide (n≤k.max)
def D.cells:D→List D
 | .agg cs=>cs
 |x=>[x]
mutual
def D.Wf:D→Prop
 | .int k n=>gv k n=true
 | .str s=>s.length≤maxLen
 | .agg cs=>D.fS cs
 | .sl k sz L=>L.length≤maxLen∧(k=.nil →L=[])∧(∀x∈L,x.cells.length=sz)∧D.fS L
 | .iface _ x=>x.Wf
 |_=>True
def D.fS:List D→Prop
 |[]=>True
 |x::l=>x.Wf∧D.fS l
end
inductive KS where
 |bool (b:Bool)
 |int (k:IntKind) (n:Int)
 |str (s:List UInt8)
 deriving DecidableEq
inductive MK where
 |i (n:Int)
 |s (l:List KS)
 deriving DecidableEq
inductive SV where
 |d (x:D)
 |own (sz:Nat) (L:List D)
 |full (sz:Nat) (L:List D)
 |cA (sz:Nat) (L:List D)
 |ref (cs:List SV) (off:Nat)
 |aA (x:D) (off:Nat)
 |dX (f:Fn) (first cap:List SV)
 |cR (vs:List SV)
 |mp (l:List (MK×D))
 |undef
def aa:SV→SV
 | .own sz L=>.d (.sl .ro sz L)
 | .cA _ _=>.undef
 |x=>x
inductive Slot where
 |v (x:SV)
 |p (b off:Nat)
 |c (f:Fn) (first cap:List Slot)
 |t (vs:List SV)
 |a (b n sz:Nat)
 |m (b:Nat)
def Slot.aa:Slot→Slot
 | .v x=>.v (Ab.aa x)
 | .t vs=>.t (vs.map Ab.aa)
 |s=>s
inductive af where
 |none
 |cells (cs:List SV)
 |one (s:Slot)
 |map (l:List (MK×D))
structure Env where
 an:List Slot
 boxes:List af
def wE:Value→Option D
 | .bool b=>some (.bool b)
 | .int k n=>bif gv k n then some (.int k n)else none
 | .string s=>bif Nat.ble s.size maxLen then some (.str s.data.toList)else none
 | .slice none 0 0=>some (.sl .nil 0 [])
 | .pointer none=>some .nt
 | .nilFunc =>some .rS
 | .nilIface =>some .qe
 | .func f first captured=>bif first.isEmpty&&captured.isEmpty then some (.fn f)else none
 |_=>none
def wv:List Value→Option (List D)
 |[]=>some []
 |v::l=>match wE v with
  |some x=>(match wv l with|some r=>some (x::r)|none=>none)
  |none=>none
def D4:Value→Option D
 | .agg cs=>match wv cs.toList with
   |some l=>some (.agg l)
   |none=>none
 |v=>wE v
def ab{α:Type}(o:Option α)(k:α→Prop):Prop:=match o with|some x=>k x|none=>False
def ai(x:SV)(A B:Prop):Prop:=match x with
 | .d (.bool c)=>cond c A B
 |_=>False
section
variable(P:Program)(gl:Nat→Option D)
def dh(t:TypeId):Option Bool:=match P.underlying t with
 |some (.struct _)|some (.array _ _)=>some true
 |some _=>some false
 |none=>none
def gy(t:TypeId):Option (Bool×Nat):=match dh P t with
 |some b=>(match P.info? t with|some i=>bif b||Nat.beq i.size 1 then some (b,i.size)else none|none=>none)
 |none=>none
def dm(t:TypeId):Option Nat:=match P.info? t with
 |some i=>some i.size
 |none=>none
def j0(t:TypeId):Option (List D):=match P.info? t with
 |some i=>(match i.zero with|some z=>wv z.cells.toList|none=>none)
 |none=>none
def C9(t:TypeId):Option (List SV):=match j0 P t with
 |some z=>some (z.map .d)
 |none=>(match P.info? t with
  |some i=>(match i.zero with|some z=>bif z.cells.toList.all Value.oneCell' then some (List.replicate z.cells.toList.length .undef)else none|none=>none)
  |none=>none)
def bc(e:Env):Operand→Slot
 | .tmp t=>e.an.getD t (.v .undef)
 | .const v=>(match D4 v with|some x=>.v (.d x)|none=>.v .undef)
 | .func f=>.v (.d (.fn (.func f)))
 | .global g=>(match gl g with|some x=>.v (.aA x 0)|none=>.v .undef)
def gp(op:BinOp)(k:IntKind)(x y:Int):Option D:=
 match op with
 | .add =>some (.int k (k.wrap (x+y)))
 | .sub =>some (.int k (k.wrap (x-y)))
 | .mul =>some (.int k (k.wrap (x*y)))
 | .quo =>if y=0 then none else some (.int k (k.wrap (x.tdiv y)))
 | .rem =>if y=0 then none else some (.int k (x.tmod y))
 | .and =>some (.int k (k.wrap (BitVec.ofInt k.bits x&&& BitVec.ofInt k.bits y).toNat))
 | .or =>some (.int k (k.wrap (BitVec.ofInt k.bits x|||BitVec.ofInt k.bits y).toNat))
 | .xor =>some (.int k (k.wrap (BitVec.ofInt k.bits x^^^BitVec.ofInt k.bits y).toNat))
 | .andNot =>some (.int k (k.wrap (BitVec.ofInt k.bits x&&& ~~~ BitVec.ofInt k.bits y).toNat))
 | .eql =>some (.bool (x==y))
 | .neq =>some (.bool (x != y))
 | .lss =>some (.bool (decide (x<y)))
 | .leq =>some (.bool (decide (x≤y)))
 | .gtr =>some (.bool (decide (x>y)))
 | .geq =>some (.bool (decide (x≥y)))
 |_=>none
def vb(op:BinOp)(k:IntKind)(x y:Int):Option D:=
 if y<0 then none else
 match op with
 | .shl =>some (.int k (k.wrap (x*2^(min y.toNat k.bits))))
 | .shr =>some (.int k (x.fdiv (2^(min y.toNat k.bits))))
 |_=>none
def wz:List UInt8→List UInt8→Bool
 |_,[]=>false
 |[],_::_=>true
 |a::x,b::y=>a<b||(a==b&&wz x y)
def AS(op:BinOp)(x y:List UInt8):Option D:=
 match op with
 | .add =>if x.length+y.length≤maxLen then some (.str (x++y))else none
 | .eql =>some (.bool (x==y))
 | .neq =>some (.bool (!(x==y)))
 | .lss =>some (.bool (wz x y))
 | .leq =>some (.bool (wz x y||x==y))
 | .gtr =>some (.bool (!(wz x y||x==y)))
 | .geq =>some (.bool (!wz x y))
 |_=>none
def jG:D→D→Option Bool
 | .bool a,.bool b=>some (a==b)
 | .int k a,.int k' b=>if k=k' then some (a==b)else none
 | .str a,.str b=>some (a==b)
 |_,_=>none
def eW:List D→List D→Option Bool
 |[],[]=>some true
 |x::l,y::m=>match jG x y with
  |some b=>(match eW l m with|some c=>some (b&&c)|none=>none)
  |none=>none
 |_,_=>none
inductive CK where
 |bool|int|str
def dO:List CK→List D→Bool
 |[],[]=>true
 | .bool ::l,.bool _::m=>dO l m
 | .int ::l,.int _ _::m=>dO l m
 | .str ::l,.str _::m=>dO l m
 |_,_=>false
def vc{α:Type}(l:List α):Nat→List α
 |0=>[]
 |n+1=>l++vc l n
def yc(go:TypeId→Option (List CK)):List Field→Nat→Option (List CK)
 |[],_=>some []
 |f::l,off=>match go f.type with
  |some ks=>bif f.name != "_" &&Nat.beq f.offset off then(match yc go l (off+ks.length)with|some r=>some (ks++r)|none=>none)else none
  |none=>none
def shapeOf:(fuel:Nat)→TypeId→Option (List CK)
 |0,_=>none
 |f+1,t=>match P.underlying t with
  |some .bool =>(match dm P t with|some 1=>some [.bool]|_=>none)
  |some (.int _)=>(match dm P t with|some 1=>some [.int]|_=>none)
  |some .string =>(match dm P t with|some 1=>some [.str]|_=>none)
  |some (.array n e)=>(match shapeOf f e with
   |some ks=>(match dm P t with|some s=>bif Nat.beq s (n*ks.length)then some (vc ks n)else none|none=>none)
   |none=>none)
  |some (.struct fs)=>bif P.stoodInHeld t then none else(match yc (shapeOf f) fs.toList 0 with
   |some ks=>(match dm P t with|some s=>bif Nat.beq s ks.length then some ks else none|none=>none)
   |none=>none)
  |_=>none
def yG(op:BinOp)(t:TypeId):Option (Bool×List CK):=match op with
 | .eql | .neq =>bif P.eqGuardType P.depth t then none else(match shapeOf P 20 t with
   |some ks=>(match dh P t with|some b=>some (b,ks)|none=>none)
   |none=>(match P.underlying t with|some (.slice _)=>some (false,[])|_=>none))
 |_=>none
end
section
def ej(sh:Option (Bool×List CK))(op:BinOp)(x y:D):Option D:=
 match x,y with
 | .int k a,.int k' b=>
   (match op with
    | .shl | .shr =>vb op k a b
    |_=>if k=k' then gp op k a b else none)
 | .str a,.str b=>AS op a b
 | .bool a,.bool b=>(match sh with
   |some (false,[.bool])=>(match op with
    | .eql =>some (.bool (a==b))| .neq =>some (.bool (!(a==b)))|_=>none)
   |_=>none)
 | .agg a,.agg b=>(match sh with
   |some (true,ks)=>bif dO ks a&&dO ks b then(match op with
    | .eql =>(match eW a b with|some c=>some (.bool c)|none=>none)
    | .neq =>(match eW a b with|some c=>some (.bool (!c))|none=>none)
    |_=>none)else none
   |_=>none)
 | .sl a _ _,.sl .nil _ _=>(match sh with
   |some (false,[])=>(match op with
    | .eql =>some (.bool (decide (a=.nil)))
    | .neq =>some (.bool (!decide (a=.nil)))
    |_=>none)
   |_=>none)
 |_,_=>none
def ah(sh:Option (Bool×List CK))(op:BinOp):SV→SV→Option SV
 | .d x,.d y=>(match ej sh op x y with|some r=>some (.d r)|none=>none)
 |_,_=>none
def bw(op:UnOp):SV→Option SV
 | .d (.bool b)=>(match op with| .not =>some (.d (.bool (!b)))|_=>none)
 | .d (.int k n)=>(match op with
   | .neg =>some (.d (.int k (k.wrap (0-n))))
   | .xor =>some (.d (.int k (k.wrap (BitVec.ofInt k.bits (if k.signed then-1 else k.max)^^^BitVec.ofInt k.bits n).toNat)))
   |_=>none)
 |_=>none
end
section
variable(P:Program)(gl:Nat→Option D)
def D5(dst:TypeId):SV→Option SV
 | .d (.int _ n)=>(match P.underlying dst with|some (.int k)=>some (.d (.int k (k.wrap n)))|_=>none)
 | .d (.str s)=>(match P.underlying dst with|some .string =>some (.d (.str s))|_=>none)
 |_=>none
def cS:SV→Option D
 | .d x=>some x
 | .own sz L=>some (.sl .ro sz L)
 | .full sz L=>some (.sl .ro sz L)
 |_=>none
def eP:List SV→Option (List D)
 |[]=>some []
 |v::l=>match cS v with
  |some x=>(match eP l with|some r=>some (x::r)|none=>none)
  |none=>none
def elems(sz:Nat):SV→Option (List D)
 | .d (.sl k s L)=>(match k with| .nil =>some []| .ro =>if s=sz then some L else none)
 | .own s L=>if s=sz then some L else none
 | .full s L=>if s=sz then some L else none
 |_=>none
def yq:SV→Option (List D)
 | .d (.sl _ _ L)=>some L
 | .own _ L=>some L
 | .full _ L=>some L
 |_=>none
def qf(agg:Bool)(sz off:Nat)(cs:List D):Option D:=
 bif agg then(if off+sz≤cs.length then some (.agg ((cs.drop off).take sz))else none)else cs[off]?
def ag(agg:Bool)(sz off:Nat)(cs:List SV):Option SV:=
 bif agg then(if off+sz≤cs.length then(match eP ((cs.drop off).take sz)with|some l=>some (.d (.agg l))|none=>none)else none)else cs[off]?
def dD(x:SV)(n:Nat):Option Nat:=match x with
 | .d (.int _ i)=>if 0≤i∧i<n then some i.toNat else none
 |_=>none
def En(t:TypeId)(x:SV):Option SV:=match P.underlying t with
 |some .string =>(match x with| .d (.str s)=>some (.d (.int .i64 s.length))|_=>none)
 |some (.array n _)=>bif Nat.ble n maxLen then some (.d (.int .i64 n))else none
 |some (.slice _)=>(match yq x with|some L=>some (.d (.int .i64 L.length))|none=>none)
 |_=>none
def setAt(cs:List SV)(off:Nat):List SV→List SV
 |[]=>cs
 |v::l=>setAt (cs.set off v) (off+1) l
def ax(x:SV):Option (List SV):=match x with
 | .d y=>some (y.cells.map .d)
 | .cR _=>none
 | .undef =>none
 |v=>some [v]
def qg(place:Nat→Option (Nat×Nat))(cells:List D):List (Nat×D)→Option (List D)
 |[]=>some cells
 |(i,v)::rest=>match place i with
  |none=>none
  |some (off,sz)=>if v.cells.length=sz∧off+sz≤cells.length then qg place (cells.take off++v.cells++cells.drop (off+sz)) rest else none
def kX(ρ:Operand→Slot):List (Nat×Operand)→Option (List (Nat×D))
 |[]=>some []
 |(i,x)::l=>match ρ x with
  | .v y=>(match cS y with
    |some z=>(match kX ρ l with|some r=>some ((i,z)::r)|none=>none)
    |none=>none)
  |_=>none
def AD:List Field→Option (List (Nat×Nat))
 |[]=>some []
 |f::l=>match dm P f.type with
  |some s=>(match AD l with|some r=>some ((f.offset,s)::r)|none=>none)
  |none=>none
def Lw(t:TypeId):Option (Nat→Option (Nat×Nat)):=match P.underlying t with
 |some (.struct fs)=>(match AD P fs.toList with|some l=>some fun i=>l[i]? |none=>none)
 |some (.array _ e)=>(match dm P e with|some s=>some fun i=>some (i*s,s)|none=>none)
 |_=>none
def bZ(t:TypeId)(ps:List (Nat×D)):Option D:=match j0 P t with
 |some z=>(match Lw P t with
  |some pl=>(match qg pl z ps with|some cs=>some (.agg cs)|none=>none)
  |none=>none)
 |none=>none
def cf(agg:Bool)(cs:List D):D:=bif agg then .agg cs else(match cs with|[x]=>x|_=>.agg cs)
def oX(i:Nat):List (Nat×D)→Option D
 |[]=>none
 |(j,x)::l=>match oX i l with|some y=>some y|none=>bif i==j then some x else none
def bW(zero:D)(ps:List (Nat×D)):Nat→Nat→List D
 |0,_=>[]
 |n+1,i=>(match oX i ps with|some x=>x|none=>zero)::bW zero ps n (i+1)
def bY(sz n:Nat):List (Nat×D)→Bool
 |[]=>true
 |(i,x)::l=>Nat.blt i n&&Nat.beq x.cells.length sz&&bY sz n l
def ia(f:Slot→SV):List Slot→List SV
 |[]=>[]
 |s::l=>f s::ia f l
def snap(au:List af):(fuel:Nat)→Slot→SV
 |0,_=>.undef
 |n+1,s=>match s with
  | .v x=>Ab.aa x
  | .p b off=>(match au[b]? with
    |some (.cells cs)=>.ref (cs.map Ab.aa) off
    |some (.one s')=>.ref [snap au n s'] off
    |_=>.undef)
  | .c f first cap=>.dX f (ia (snap au n) first) (ia (snap au n) cap)
  |_=>.undef
def Slot.bu:Slot→SV
 | .v x=>x
 |_=>.undef
end
abbrev aP:=FuncId→List SV→SV→Prop
section
variable(P:Program)(gl:Nat→Option D)(C:aP)
def tp:SV→Bool| .cR _=>true|_=>false
def aB(f:FuncId)(args:List SV)(k:SV→Prop):Prop:=∃r,C f args r∧tp r=false∧k r
def BU:Nat→(List SV→Prop)→Prop
 |0,k=>k []
 |n+1,k=>∃r,BU n fun l=>k (r::l)
def adq(f:FuncId)(n:Nat)(args:List SV)(k:List SV→Prop):Prop:=BU n fun rs=>C f args (.cR rs)∧k rs
def withFn(x:SV)(args:List SV)(k:FuncId→List SV→Prop):Prop:=match x with
 | .d (.fn (.func f))=>k f args
 | .dX (.func f) first cap=>k f (first++args++cap)
 |_=>False
def wI(t:TypeId)(name:String):Option FuncId:=match P.info? t with
 |some i=>(match i.methods.find? (fun m=>m.name==name)with
  |some m=>(match m.path.toList,m.func with
   |[],some (f,false)=>(match P.underlying t with
    |some (.pointer _)=>none
    |some _=>some f
    |none=>none)
   |_,_=>none)
  |none=>none)
 |none=>none
def H6(x:SV)(name:String):Option FuncId:=match x with
 | .d (.iface t _)=>wI P t name
 |_=>none
def tg(x:SV)(name:String)(args:List SV)(k:FuncId→List SV→Prop):Prop:=match x with
 | .d (.iface t y)=>ab (wI P t name) fun f=>k f (.d y::args)
 |_=>False
def arity(t:TypeId):Nat:=match P.underlying t with
 |some (.tuple ts)=>ts.size
 |_=>1
def lP(n:Nat)(au:List af)(k:Slot→List af→Prop)(f:FuncId)(args:List SV):Prop:=
 match n with
 |1=>aB C f args fun r=>k (.v r) au
 |n=>adq C f n args fun rs=>k (.t rs) au
def iW(au:List af)(ρ:Operand→Slot):List Operand→List SV
 |[]=>[]
 |x::l=>snap au 6 (ρ x)::iW au ρ l
def AE:Nat:=1048577
def kH(sz:Nat)(x y:SV):Option (SV×Nat):=
 match elems sz y with
 |none=>none
 |some M=>match x with
  | .own s L=>if s=sz then some (.own sz (L++M),L.length+M.length)else none
  | .full s L=>if s=sz then(if M=[]then some (.full sz L,L.length)else some (.own sz (L++M),L.length+M.length))else none
  | .d (.sl .nil s _)=>if M=[]then some (x,0)else some (bif Nat.beq s AE then .cA sz M else .own sz M,M.length)
  | .cA s L=>if s=sz then some (.cA sz (L++M),L.length+M.length)else none
  |_=>none
def cm(sz bytes:Nat)(x y:SV)(k:SV→Prop):Prop:=
 ab (kH sz x y) fun r=>r.2*bytes≤140737488355328∧k r.1
def np(agg:Bool)(sz b off:Nat)(au:List af)(k:Slot→List af→Prop):Prop:=
 match au[b]? with
 |some (.cells cs)=>ab (ag agg sz off cs) fun x=>k (.v (Ab.aa x)) au
 |some (.one s)=>bif agg then False else(match off with|0=>k s.aa au|_=>False)
 |_=>False
def az(agg:Bool)(sz:Nat)(x:SV):Option SV:=match x with
 | .aA y off=>(match qf agg sz off y.cells with|some z=>some (.d z)|none=>none)
 | .ref cs off=>(match ag agg sz off cs with|some z=>some (Ab.aa z)|none=>none)
 |_=>none
def oY(sz b off:Nat)(x:Slot)(au:List af)(k:List af→Prop):Prop:=
 match au[b]? with
 |some (.cells cs)=>(match x with
  | .v y=>ab (ax y) fun l=>l.length=sz∧off+sz≤cs.length∧k (au.set b (.cells (setAt cs off l)))
  | .t _=>False
  |s=>(match sz,off,cs with|1,0,[_]=>k (au.set b (.one s))|_,_,_=>False))
 |some (.one _)=>(match sz,off with
  |1,0=>(match x with
   | .v y=>ab (ax y) fun l=>l.length=1∧k (au.set b (.cells l))
   | .t _=>False
   |s=>k (au.set b (.one s)))
  |_,_=>False)
 |_=>False
def dT(x:SV)(n:Nat):Option SV:=match x with
 | .aA y off=>some (.aA y (off+n))
 | .ref cs off=>some (.ref cs (off+n))
 |_=>none
def aL(sz:Nat)(x i:SV):Option SV:=match elems sz x with
 |some L=>(match dD i L.length with
  |some n=>(match L[n]? with|some y=>some (.aA y 0)|none=>none)
  |none=>none)
 |none=>none
def tB(n:Nat):Option SV→Option Nat
 |some h=>dD h (n+1)
 |none=>some n
def qo(h:Nat):Option SV→Option Nat
 |some l=>dD l (h+1)
 |none=>some 0
def y6(L:List D)(lo hi:Option SV):Option (List D):=
 match tB L.length hi with
 |some h=>(match qo h lo with
  |some l=>some ((L.take h).drop l)
  |none=>none)
 |none=>none
def DI(L:List UInt8)(lo hi:Option SV):Option (List UInt8):=
 match tB L.length hi with
 |some h=>(match qo h lo with
  |some l=>some ((L.take h).drop l)
  |none=>none)
 |none=>none
def DJ(t:TypeId)(x:SV)(lo hi mx:Option SV):Option SV:=
 match P.underlying t with
 |some .string =>(match x,mx with
  | .d (.str s),none=>(match DI s lo hi with|some r=>some (.d (.str r))|none=>none)
  |_,_=>none)
 |some (.slice e)=>(match cS x,dm P e with
  |some (.sl k sz L),some s=>(match y6 L lo hi,mx with
   |some r,none=>(match k with| .nil =>some (.d (.sl .nil s []))| .ro =>if sz=s then some (.d (.sl .ro sz r))else none)
   |some r,some m=>(match hi,dD m (L.length+1)with
    |some h,some _=>(match h,m with
     | .d (.int _ a),.d (.int _ b)=>if a=b then(match k with| .nil =>some (.d (.sl .nil s []))| .ro =>if sz=s then some (.full sz r)else none)else none
     |_,_=>none)
    |_,_=>none)
   |none,_=>none)
  |_,_=>none)
 |_=>none
def lV(ρ:Operand→Slot):Option Operand→Option SV
 |some x=>some (ρ x).bu
 |none=>none
def minD(a b:Int):Int:=if b<a then b else a
def maxD(a b:Int):Int:=if b>a then b else a
def nk(f:Int→Int→Int):SV→List SV→Option SV
 | .d (.int k a),[]=>some (.d (.int k a))
 | .d (.int k a),.d (.int k' b)::l=>if k=k' then nk f (.d (.int k (f a b))) l else none
 |_,_=>none
def Du(x:SV):Option SV:=match x with
 | .aA y o=>some (.aA y o)
 | .ref cs o=>some (.ref cs o)
 | .dX f a b=>(match f with| .func n=>some (.dX (.func n) a b)|_=>none)
 | .d (.fn f)=>(match f with| .func n=>some (.d (.fn (.func n)))|_=>none)
 |_=>none
def DK(agg:Bool)(sz n:Nat)(x i:SV):Option SV:=match x with
 | .d (.agg cs)=>(match dD i n with
   |some j=>(match qf agg sz (j*sz) cs with|some r=>some (.d r)|none=>none)
   |none=>none)
 |_=>none
def lQ(x i:SV):Option SV:=match x with
 | .d (.str s)=>(match dD i s.length with
   |some j=>(match s[j]? with|some b=>some (.d (.int .u8 b.toNat))|none=>none)
   |none=>none)
 |_=>none
def nv(agg:Bool)(sz off:Nat)(x:SV):Option SV:=match x with
 | .d (.agg cs)=>(match qf agg sz off cs with|some r=>some (.d r)|none=>none)
 |_=>none
def DL(t:TypeId)(x:SV):Option SV:=match cS x with
 |some y=>some (.d (.iface t y))
 |none=>none
def p7(t:TypeId):Option Nat:=match P.info? t with
 |some i=>some i.bytes
 |none=>none
def kW(t:TypeId):Option TypeId:=match P.underlying t with
 |some (.slice e)=>some e
 |_=>none
def kz(t:TypeId)(i:Nat):Option Field:=match P.underlying t with
 |some (.struct fs)=>fs.toList[i]?
 |_=>none
def isSlice(t:TypeId):Bool:=match P.underlying t with
 |some (.slice _)=>true
 |_=>false
def isIface(t:TypeId):Bool:=match P.underlying t with
 |some (.interface _)=>true
 |none=>true
 |_=>false
def KS.same:KS→KS→Bool
 | .bool _,.bool _=>true
 | .int k _,.int k' _=>decide (k=k')
 | .str _,.str _=>true
 |_,_=>false
def KS.j7:List KS→List KS→Bool
 |[],[]=>true
 |x::l,y::m=>x.same y&&KS.j7 l m
 |_,_=>false
def MK.same:MK→MK→Bool
 | .i _,.i _=>true
 | .s a,.s b=>KS.j7 a b
 |_,_=>false
def nz(l:List (MK×D))(n:MK):Bool:=l.all fun x=>n.same x.1
def eH:List (MK×D)→MK→Option D
 |[],_=>none
 |x::l,n=>if n=x.1 then some x.2 else eH l n
def rZ:List CK→List D→Option (List KS)
 |[],[]=>some []
 | .bool ::l,.bool b::m=>(match rZ l m with|some r=>some (.bool b::r)|none=>none)
 | .int ::l,.int k n::m=>(match rZ l m with|some r=>some (.int k n::r)|none=>none)
 | .str ::l,.str s::m=>(match rZ l m with|some r=>some (.str s::r)|none=>none)
 |_,_=>none
def jn(kd:Option (List CK))(x:SV):Option MK:=match kd with
 |none=>(match x with| .d (.int .i64 n)=>some (.i n)|_=>none)
 |some ks=>(match x with| .d (.agg cs)=>(match rZ ks cs with|some l=>some (.s l)|none=>none)|_=>none)
def lR(kd:Option (List CK))(z:D)(m key:SV):Option (D×Bool):=match m with
 | .mp l=>(match jn kd key with
   |some n=>bif nz l n then(match eH l n with|some d=>some (d,true)|none=>some (z,false))else none
   |none=>none)
 |_=>none
def A2:List Field→Bool
 |[]=>true
 |f::l=>(match P.underlying f.type with|some .bool =>true|some (.int _)=>true|some .string =>true|_=>false)&&A2 l
def vi(t:TypeId):Option (TypeId×Option (List CK)):=match P.underlying t with
 |some (.map kt et)=>(match P.underlying kt with
  |some (.int _)=>some (et,none)
  |some (.struct fs)=>(match shapeOf P 20 kt with
   |some ks=>bif A2 P fs.toList then some (et,some ks)else none
   |none=>none)
  |_=>none)
 |_=>none
def rT(au:List af):Slot→SV
 | .m b=>(match au[b]? with
   |some (.map l)=>.mp l
   |_=>.undef)
 |s=>s.bu
def gK:List (MK×D)→MK→D→List (MK×D)
 |[],n,d=>[(n,d)]
 |x::l,n,d=>if n=x.1 then(n,d)::l else x::gK l n d
def ln(l:List (MK×D))(n:MK)(d:D):Option (List (MK×D)):=bif nz l n then some (gK l n d)else none
def lenOf:SV→SV→Option Nat
 | .d (.int k a),.d (.int k' b)=>if k=k'∧a=b∧0≤a then some a.toNat else none
 |_,_=>none
def rN(t:TypeId):Option D:=match P.info? t with
 |some i=>(match i.zero with|some z=>wE z|none=>none)
 |none=>none
def c8(id:Nat)(o:Oper)(ρ:Operand→Slot)(au:List af)(k:Slot→List af→Prop):Prop:=
 match o.op with
 | .move x| .assign x=>k (ρ x) au
 | .pick c a b=>(match ρ c with
   | .v x=>ai x (k (ρ a) au) (k (ρ b) au)
   |_=>False)
 | .alloc t=>(match au[id]? with
   |some .none =>ab (C9 P t) fun z=>k (.p id 0) (au.set id (.cells z))
   |_=>False)
 | .box t x=>(match au[id]? with
   |some .none =>ab (dm P t) fun sz=>(match ρ x with
    | .v y=>ab (ax y) fun l=>l.length=sz∧k (.p id 0) (au.set id (.cells l))
    | .t _=>False
    |s=>(match sz with|1=>k (.p id 0) (au.set id (.one s))|_=>False))
   |_=>False)
 | .build t ps=>ab (kX ρ ps.toList) fun l=>ab (bZ P t l) fun r=>k (.v (.d r)) au
 | .buildSlice t n ps=>ab (kW P t) fun e=>ab (gy P e) fun ly=>ab (j0 P e) fun z=>ab (kX ρ ps.toList) fun l=>
    bif Nat.ble (n*ly.2) (2^24)&&Nat.blt 0 ly.2&&Nat.beq z.length ly.2 then(bY ly.2 n l=true∧k (.v (.full ly.2 (bW (cf ly.1 z) l n 0))) au)else False
 | .load t a=>ab (gy P t) fun ly=>(match ρ a with
   | .p b off=>np ly.1 ly.2 b off au k
   | .v x=>ab (az ly.1 ly.2 x) fun y=>k (.v y) au
   |_=>False)
 | .store t a x=>ab (dm P t) fun sz=>(match ρ a with
   | .p b off=>(match o.dst with|none=>oY sz b off (ρ x) au fun dq=>k (.t []) dq|some _=>False)
   |_=>False)
 | .nilCheck x=>(match ρ x with
   | .v y=>ab (Du y) fun z=>k (.v z) au
   | .t _=>False
   | .c f first cap=>(match f with
     | .func _=>k (.c f first cap) au
     | .method name=>(match first with
       | .v y::_=>ab (H6 P y name) fun _=>k (.c f first cap) au
       |_=>False)
     |_=>False)
   | .p b off=>k (.p b off) au
   |_=>False)
 | .binOp op t x y _=>ab (ah (yG P op t) op (ρ x).bu (ρ y).bu) fun r=>k (.v r) au
 | .unOp op _ x=>ab (bw op (ρ x).bu) fun r=>k (.v r) au
 | .convert src dst x=>bif (P.underlying src).isSome then(ab (D5 P dst (ρ x).bu) fun r=>k (.v r) au)else False
 | .makeInterface t x=>bif isIface P t then False else ab (DL t (ρ x).bu) fun r=>k (.v r) au
 | .makeFunc fn first cap=>k (.c fn (first.toList.map fun x=>(ρ x).aa) (cap.toList.map fun x=>(ρ x).aa)) au
 | .slice t x lo hi mx=>ab (DJ P t (Ab.aa (ρ x).bu) (lV ρ lo) (lV ρ hi) (lV ρ mx)) fun r=>k (.v r) au
 | .fieldAddr t x f=>ab (kz P t f) fun fd=>ab (dm P fd.type) fun sz=>bif Nat.beq sz 0 then False else(match ρ x with
   | .p b off=>k (.p b (off+fd.offset)) au
   | .v y=>ab (dT y fd.offset) fun z=>k (.v z) au
   |_=>False)
 | .field t x f=>ab (kz P t f) fun fd=>ab (gy P fd.type) fun ly=>ab (nv ly.1 ly.2 fd.offset (ρ x).bu) fun r=>k (.v r) au
 | .indexAddr t x i=>(match P.underlying t with
   |some (.slice e)=>ab (dm P e) fun sz=>(match ρ x with
    | .a b n _=>ab (dD (ρ i).bu n) fun j=>k (.p b (j*sz)) au
    |s=>ab (aL sz s.bu (ρ i).bu) fun r=>k (.v r) au)
   |some (.array n e)=>ab (dm P e) fun sz=>ab (dD (ρ i).bu n) fun j=>(match ρ x with
    | .p b off=>k (.p b (off+j*sz)) au
    | .v y=>ab (dT y (j*sz)) fun z=>k (.v z) au
    |_=>False)
   |_=>False)
 | .index t x i=>(match P.underlying t with
   |some (.array n e)=>ab (gy P e) fun ly=>ab (DK ly.1 ly.2 n (ρ x).bu (ρ i).bu) fun r=>k (.v r) au
   |some .string =>ab (lQ (ρ x).bu (ρ i).bu) fun r=>k (.v r) au
   |_=>False)
 | .extract x i=>(match ρ x with
   | .t vs=>(match vs[i]? with|some r=>k (.v r) au|none=>False)
   |_=>False)
 | .lookup t m x ok=>ab (vi P t) fun et=>ab (rN P et.1) fun z=>ab (lR et.2 z (rT au (ρ m)) (ρ x).bu) fun r=>
    bif ok then k (.t [.d r.1,.d (.bool r.2)]) au else k (.v (.d r.1)) au
 | .makeSlice t n c=>ab (kW P t) fun e=>ab (dm P e) fun sz=>ab (p7 P e) fun dg=>ab (rN P e) fun z=>
    bif Nat.beq sz 1&&Nat.blt 0 dg then(ab (lenOf (ρ n).bu (ρ c).bu) fun m=>m*dg≤140737488355328∧k (.v (.cA 1 (List.replicate m z))) au)else False
 | .makeMap t h=>(match h,au[id]? with
   |none,some .none =>k (.m id) (au.set id (.map []))
   |_,_=>False)
 | .mapUpdate t m x y=>ab (vi P t) fun et=>(match ρ m,o.dst with
   | .m b,none=>(match au[b]? with
     |some (.map l)=>ab (jn et.2 (ρ x).bu) fun n=>ab (cS (ρ y).bu) fun d=>ab (ln l n d) fun l'=>k (.t []) (au.set b (.map l'))
     |_=>False)
   |_,_=>False)
 | .call c=>(match c.callee with
   | .value f=>(match ρ f with
     | .v x=>withFn x (iW au ρ c.args.toList) (lP C (arity P o.type) au k)
     | .c (.func g) first cap=>lP C (arity P o.type) au k g (ia (snap au 6) first++iW au ρ c.args.toList++ia (snap au 6) cap)
     |_=>False)
   | .invoke recv name=>(match ρ recv with
     | .v x=>tg P x name (iW au ρ c.args.toList) (lP C (arity P o.type) au k)
     |_=>False)
   | .builtin b=>(match b,c.args.toList,c.argTypes.toList with
     | .len,x::_,t::_=>(match ρ x with
       | .a _ n _=>bif isSlice P t then k (.v (.d (.int .i64 n))) au else False
       |s=>ab (En P t s.bu) fun r=>k (.v r) au)
     | .append,[x,y],[t,u]=>bif Nat.beq t u then(ab (kW P t) fun e=>ab (dm P e) fun sz=>ab (p7 P e) fun dg=>ab (j0 P e) fun z=>
        bif Nat.blt 0 dg&&Nat.blt 0 sz&&Nat.beq z.length sz then cm sz dg (ρ x).bu (ρ y).bu fun r=>k (.v r) au else False)else False
     | .min,x::l,_=>ab (nk minD (ρ x).bu (l.map fun y=>(ρ y).bu)) fun r=>k (.v r) au
     | .max,x::l,_=>ab (nk maxD (ρ x).bu (l.map fun y=>(ρ y).bu)) fun r=>k (.v r) au
     |_,_,_=>False))
 |_=>False
def tmpsOf(o:Oper):List Nat:=o.op.operands.toList.filterMap fun| .tmp t=>some t|_=>none
def cz(l:List Slot)(dst:Option Nat)(s:Slot):List Slot:=match dst with
 |some d=>l.set d s
 |none=>l
def j8(o:Oper)(e:Env)(k:Env→Prop):Prop:=match o.op with
 | .move (.tmp t)| .assign (.tmp t)=>k ⟨cz (e.an.set t (e.an.getD t (.v .undef)).aa) o.dst (e.an.getD t (.v .undef)),e.boxes⟩
 | .extract (.tmp t) i=>(match e.an.getD t (.v .undef)with
   | .t vs=>(match vs[i]? with
     |some r=>k ⟨cz (e.an.set t (.t (vs.set i (aa r)))) o.dst (.v r),e.boxes⟩
     |none=>False)
   |_=>False)
 | .load ty a=>(match(bc gl e a).aa with
   | .p b off=>ab (gy P ty) fun ly=>bif ly.1 then False else(match e.boxes[b]? with
     |some (.cells cs)=>ab cs[off]? fun x=>k ⟨cz e.an o.dst (.v x),e.boxes.set b (.cells (cs.set off (aa x)))⟩
     |_=>False)
   |_=>False)
 | .store ty a (.tmp t)=>(match(bc gl e a).aa,e.an.getD t (.v .undef),o.dst with
   | .p b off,.v y,none=>ab (dm P ty) fun sz=>bif Nat.beq sz 1 then(match e.boxes[b]? with
     |some (.cells cs)=>ab (ax y) fun l=>l.length=1∧off<cs.length∧k ⟨e.an.set t (.v (aa y)),e.boxes.set b (.cells (setAt cs off l))⟩
     |_=>False)else False
   |_,_,_=>False)
 | .buildSlice t n ps=>ab (kW P t) fun e'=>ab (gy P e') fun ly=>ab (j0 P e') fun z=>ab (kX (fun x=>(bc gl e x).aa) ps.toList) fun l=>
    bif Nat.ble (n*ly.2) (2^24)&&Nat.blt 0 ly.2&&Nat.beq z.length ly.2 then(bY ly.2 n l=true∧k ⟨cz e.an o.dst (.v (.cA ly.2 (bW (cf ly.1 z) l n 0))),e.boxes⟩)else False
 | .call c=>(match c.callee,c.args.toList,c.argTypes.toList with
   | .builtin .append,[.tmp t,y],[ty,u]=>bif Nat.beq ty u then(ab (kW P ty) fun e'=>ab (dm P e') fun sz=>ab (p7 P e') fun dg=>ab (j0 P e') fun z=>
      bif Nat.blt 0 dg&&Nat.blt 0 sz&&Nat.beq z.length sz then cm sz dg (e.an.getD t (.v .undef)).bu ((bc gl e y).aa).bu fun r=>
       k ⟨cz (e.an.set t (e.an.getD t (.v .undef)).aa) o.dst (.v r),e.boxes⟩else False)else False
   |_,_,_=>False)
 |_=>False
def kI(id:Nat)(aE:Bool)(o:Oper)(e:Env)(k:Env→Prop):Prop:=
 bif aE then j8 P gl o e k
 else c8 P C id o (fun x=>(bc gl e x).aa) e.boxes fun r au=>k ⟨cz e.an o.dst r,au⟩
def Env.pn(e:Env)(t:Nat)(b:Bool):Env:=⟨e.an.set t (.v (.d (.bool b))),e.boxes⟩
def vj(all:List Oper)(o:Oper)(e:Env)(A B:Env→Prop):Prop:=
 match o.guard with
 |none=>A e
 |some (j,want)=>(match(match all[j]? with|some g=>g.dst|none=>none)with
  |some t=>(match e.an.getD t (.v .undef)with
   | .v x=>ai x (bif want then A (e.pn t true)else B (e.pn t true)) (bif want then B (e.pn t false)else A (e.pn t false))
   | .t _=>B e
   |_=>False)
  |none=>False)
def fZ(o:Oper):Bool:=match o.op with| .alloc _| .box .. | .makeMap .. =>true|_=>false
def fl:List Oper→Nat→Nat
 |[],_=>0
 |_,0=>0
 |o::l,i+1=>(bif fZ o then 1 else 0)+fl l i
def ie(aE:Nat→Bool)(all:List Oper)(base:Nat):List Oper→Nat→Env→(Env→Prop)→Prop
 |[],_,e,k=>k e
 |o::rest,i,e,k=>vj all o e
   (fun e'=>kI P gl C (base+fl all i) (aE i) o e' fun oE=>ie aE all base rest (i+1) oE k)
   (fun e'=>ie aE all base rest (i+1) ⟨cz e'.an o.dst (.t []),e'.boxes⟩ k)
def wh(aE:Nat→Bool)(ops:List Oper)(e:Env)(k:Env→Prop):Prop:=
 ie P gl C aE ops e.boxes.length ops 0 ⟨e.an,e.boxes++List.replicate (fl ops ops.length) .none⟩ k
inductive Ex where
 |normal
 |exit (id:Nat)
 |ret
def bE(F:List SV→List (List SV)→(List SV→List (List SV)→Prop)→Prop)(vs:List SV)(bs:List (List SV)):Prop:=
 ∀I:List SV→List (List SV)→Prop,(∀vs bs,F vs bs I→I vs bs)→I vs bs
def jF:Code→Nat
 | .region id _ _=>id
 | .seq a _=>jF a
 | .block _ b=>jF b
 | .loop b=>jF b
 | .scope b=>jF b
 |_=>0
inductive gA where
 |box (t sz:Nat)
 |lX (t:Nat) (ts:List Nat)
 |su (t:Nat) (agg:Bool) (sz:Nat) (ts:List Nat)
 |emp (t:Nat)
 |kM (t:Nat)
 |oF (t:Nat) (ts:List Nat)
def fP:List gA→List Nat
 |[]=>[]
 | .box t _::l=>t::fP l
 | .lX _ ts::l=>ts++fP l
 | .su t _ _ ts::l=>t::(ts++fP l)
 | .emp t::l=>t::fP l
 | .kM t::l=>t::fP l
 | .oF _ ts::l=>ts++fP l
def D6(h:List (Nat×List gA))(id:Nat):List gA:=match h with
 |[]=>[]
 |(j,r)::l=>bif j==id then r else D6 l id
def du(gh:List (Nat×List gA)):Code→List Nat
 | .region id ops _=>fP (D6 gh id)++ops.toList.filterMap (·.dst)
 | .seq a b=>du gh a++du gh b
 | .cond _ a b=>du gh a++du gh b
 | .block _ b=>du gh b
 | .loop b=>du gh b
 | .scope b=>du gh b
 |_=>[]
def af.ar:af→List SV
 | .cells cs=>cs
 | .map l=>[.mp l]
 |_=>[.undef]
def pd(e:Env)(vars:List Nat):List SV:=vars.map fun t=>(e.an.getD t (.v .undef)).bu
def o7(n:Nat)(e:Env):List (List SV):=(e.boxes.take n).map af.ar
def Slot.stays:Slot→Slot
 | .p b off=>.p b off
 | .c f first cap=>.c f first cap
 | .a b n sz=>.a b n sz
 | .m b=>.m b
 |_=>.v .undef
def place(t:Nat):List Nat→Nat→Option Nat
 |[],_=>none
 |v::l,i=>bif v==t then some i else place t l (i+1)
def ae(vs:List SV)(j:Nat):SV:=vs.getD j .undef
def ak(bs:List (List SV))(i:Nat):List SV:=bs.getD i []
def nY(vars consts:List Nat)(vs:List SV):List Slot→Nat→List Slot
 |[],_=>[]
 |s::l,t=>(match place t vars 0 with
  |some j=>.v (ae vs j)
  |none=>bif consts.contains t then s.stays else .v .undef)::nY vars consts vs l (t+1)
def af.isMap:af→Bool
 | .map _=>true
 |_=>false
def mapOf:List SV→List (MK×D)
 |[.mp l]=>l
 |_=>[]
def af.again(cs:List SV):af→af
 | .map _=>.map (mapOf cs)
 | .none =>.none
 |_=>.cells cs
def nZ(bs:List (List SV)):List af→Nat→List af
 |[],_=>[]
 |x::l,i=>af.again (ak bs i) x::nZ bs l (i+1)
structure Hints where
 aE:List (Nat×Nat)
 eQ:List (Nat×List Nat×List Nat)
 gh:List (Nat×List gA):=[]
def oo(h:Hints)(id i:Nat):Bool:=h.aE.any fun p=>p.1==id&&p.2==i
def kY(h:List (Nat×List Nat×List Nat))(id:Nat):List Nat×List Nat:=match h with
 |[]=>([],[])
 |(j,r)::l=>bif j==id then r else kY l id
mutual
def Slot.has(b:Nat):Slot→Bool
 | .p b' _=>b'==b
 | .a b' _ _=>b'==b
 | .m b'=>b'==b
 | .c _ x y=>Slot.tC b x||Slot.tC b y
 |_=>false
def Slot.tC(b:Nat):List Slot→Bool
 |[]=>false
 |s::l=>Slot.has b s||Slot.tC b l
end
def j7(m n:Nat)(x:SV):SV:=if m=n then x else .undef
def y7(b:Nat)(ra:Nat→SV)(rm:SV):Slot→Slot
 | .a b' n sz=>bif b'==b then .v (ra n)else .a b' n sz
 | .m b'=>bif b'==b then .v rm else .m b'
 | .p b' off=>bif b'==b then .v .undef else .p b' off
 | .c f x y=>bif Slot.tC b x||Slot.tC b y then .v .undef else .c f x y
 |s=>s
def lj(b:Nat)(ra:Nat→SV)(rm:SV)(ts:List Nat):List Slot→Nat→List Slot
 |[],_=>[]
 |s::l,i=>(bif ts.contains i then y7 b ra rm s else s)::lj b ra rm ts l (i+1)
def rU(b:Nat)(ts:List Nat):List Slot→Nat→Bool
 |[],_=>true
 |s::l,i=>(ts.contains i|| !s.has b)&&rU b ts l (i+1)
def pg(b:Nat):List af→Bool
 |[]=>true
 | .one s::l=> !s.has b&&pg b l
 |_::l=>pg b l
def ph(b:Nat)(ra:Nat→SV)(rm:SV)(ts:List Nat)(e:Env):Env:=⟨lj b ra rm ts e.an 0,e.boxes.set b .none⟩
def kE(b:Nat)(ts:List Nat)(e:Env):Bool:=rU b ts e.an 0&&pg b e.boxes
def fc:List D→List SV
 |[]=>[]
 |x::l=>x.cells.map .d ++fc l
def ou(x:SV)(sz:Nat)(A:List D→Prop)(B:Prop):Prop:=match x with
 | .cA s L=>s=sz∧A L
 | .d _=>B
 |_=>False
def mq(agg:Bool)(sz:Nat):Nat→List D→Option (List D)
 |0,[]=>some []
 |0,_::_=>none
 |n+1,l=>if sz≤l.length then(match mq agg sz n (l.drop sz)with|some r=>some (cf agg (l.take sz)::r)|none=>none)else none
def Bh(x:SV):Option SV:=match x with
 | .cA sz L=>some (.d (.sl .ro sz L))
 | .d (.sl .nil s L)=>some (.d (.sl .nil (bif Nat.beq s AE then 0 else s) L))
 | .d y=>some (.d y)
 |_=>none
def Bi(x:SV):Option SV:=match x with
 | .d (.sl .nil _ L)=>some (.d (.sl .nil AE L))
 |_=>none
def e6(e:Env)(k:Env→Prop):gA→Prop
 | .box t sz=>(match e.an.getD t (.v .undef)with
   | .v x=>ou x sz (fun L=>k ⟨e.an.set t (.a e.boxes.length L.length sz),e.boxes++[.cells (fc L)]⟩) (k e)
   |_=>False)
 | .lX t ts=>(match e.an.getD t (.v .undef)with
   | .a b n _=>(match e.boxes[b]? with
     |some (.cells cs)=>bif kE b ts e then(ab (eP cs) fun ds=>cs.length=n∧k (ph b (fun m=>j7 m n (.d (.sl .ro 1 ds))) .undef ts e))else False
     |_=>False)
   | .m b=>(match e.boxes[b]? with
     |some (.map l)=>bif kE b ts e then k (ph b (fun _=>.undef) (.mp l) ts e)else False
     |_=>False)
   | .v _=>k e
   |_=>False)
 | .su t agg sz ts=>(match e.an.getD t (.v .undef)with
   | .a b n s=>(match e.boxes[b]? with
     |some (.cells cs)=>bif kE b (t::ts) e&&Nat.beq s sz&&Nat.blt 0 sz&&(agg||Nat.beq sz 1)then(ab (eP cs) fun ds=>ab (mq agg sz n ds) fun L=>
       k ⟨(lj b (fun _=>.undef) .undef (t::ts) e.an 0).set t (.v (.cA sz L)),e.boxes.set b .none⟩)else False
     |_=>False)
   | .v _=>k e
   |_=>False)
 | .emp t=>(match e.an.getD t (.v .undef)with
   | .v x=>ab (Bi x) fun y=>k ⟨e.an.set t (.v y),e.boxes⟩
   |_=>False)
 | .kM t=>(match e.an.getD t (.v .undef)with
   | .v x=>ab (Bh x) fun y=>k ⟨e.an.set t (.v y),e.boxes⟩
   |_=>False)
 | .oF t ts=>(match e.an.getD t (.v .undef)with
   | .p c 0=>(match e.boxes[c]? with
     |some (.one (.m b))=>(match e.boxes[b]? with
      |some (.map l)=>bif !(Nat.beq b c)&&rU b ts e.an 0&&pg b (e.boxes.set c .none)then k ⟨lj b (fun _=>.undef) .undef ts e.an 0,(e.boxes.set b .none).set c (.cells [.mp l])⟩else False
      |_=>False)
     |_=>False)
   |_=>False)
def lS:List gA→Env→(Env→Prop)→Prop
 |[],e,k=>k e
 |x::l,e,k=>e6 e (fun e'=>lS l e' k) x
def iP(o:Oper):Bool:=match o.op with| .store .. | .mapUpdate .. =>true|_=>false
def ib(o:Oper):Bool:=match o.op with| .store .. | .load .. | .call _| .mapUpdate .. | .lookup .. =>true|_=>false
def gW(aE:Bool)(o:Oper):List Nat:=(match o.dst with|some d=>[d]|none=>[])++(bif aE then tmpsOf o else [])
def indep(all:Array Oper)(Bj wQ:Bool)(x y:Oper):Bool:=
 (gW Bj x).all (fun d=> !(y.looksAt all).contains d&& !(gW wQ y).contains d)&&
 (gW wQ y).all (fun d=> !(x.looksAt all).contains d)&&
 !(iP x&&ib y)&& !(iP y&&ib x)&&
 !(Bj&&wQ&&ib x&&ib y)
end
end Go.Proofs.YtaknajjmldngiaaGreat.Ab
namespace Go.Proofs.YtaknajjmldngiaaGreat.Ab
open Go Go.RowKit
def D.one:D→Bool
 | .agg _=>false
 |_=>true
def vd(w w':World)(b o:Nat):Prop:=w'.cell? ⟨b,o,none⟩=w.cell? ⟨b,o,none⟩∧∀es c,w.heap[b]? =some (.map es c)→w'.heap[b]? =some (.map es c)
theorem vd.refl(w:World)(b o:Nat):vd w w b o:=⟨rfl,fun _ _ h=>h⟩
theorem vd.rA{w w':World}{b o:Nat}(h:w'.heap[b]? =w.heap[b]?):vd w w' b o:=⟨World.cell?_of_block h,fun _ _ hm=>h.trans hm⟩
def rF(w w':World)(g a:Nat):Prop:=a=0→w'.heap[g]? =w.heap[g]?
theorem rF.refl(w:World)(g a:Nat):rF w w g a:=fun _=>rfl
theorem rF.trans{w w' EO:World}{g a:Nat}(h:rF w w' g a)(k:rF w' EO g a):rF w EO g a:=fun h0=>(k h0).trans (h h0)
def tD:KS→Value→Prop
 | .bool b,v=>v=.bool b
 | .int k n,v=>v=.int k n∧gv k n=true
 | .str s,v=>∃b:ByteArray,v=.string b∧b.data.toList=s∧b.size≤maxLen
def MK.Is:MK→Value→Prop
 | .i n,v=>v=.int .i64 n∧gv .i64 n=true
 | .s l,v=>∃vs:Array Value,v=.agg vs∧vs.size=l.length∧∀(i:Nat)k u,l[i]? =some k→vs[i]? =some u→tD k u
section
variable(w:World)(St:Nat→Nat→Prop)
inductive bj:D→Value→Prop
 |bool (b:Bool):bj (.bool b) (.bool b)
 |int (k:IntKind) (n:Int) (h:gv k n=true):bj (.int k n) (.int k n)
 |str (s:ByteArray) (h:s.size≤maxLen):bj (.str s.data.toList) (.string s)
 |agg (ds:List D) (vs:Array Value) (hf:∀d∈ds,d.one=true) (hl:ds.length=vs.size) (hc:∀(i:Nat)d v,ds[i]? =some d→vs[i]? =some v→bj d v):bj (.agg ds) (.agg vs)
 |jm (sz:Nat):bj (.sl .nil sz []) (.slice none 0 0)
 |sl (sz:Nat) (L:List D) (b off cap:Nat) (vs:Nat→Value) (b9:L.length≤cap) (hm:L.length≤maxLen) (aQ:∀x∈L,x.cells.length=sz)
   (hf:∀x∈L,∀c∈x.cells,c.one=true) (bF:∀(o:Nat),o<L.length*sz→w.cell? ⟨b,off+o,none⟩=some (vs o)∧St b (off+o))
   (hc:∀(i:Nat)x(j:Nat)c,L[i]? =some x→x.cells[j]? =some c→bj c (vs (i*sz+j))):
   bj (.sl .ro sz L) (.slice (some ⟨b,off,none⟩) L.length cap)
 |jN (sz:Nat) (a:Addr) (cap:Nat) (ha:a.spot≠none):bj (.sl .ro sz []) (.slice (some a) 0 cap)
 |fn (f:Fn):bj (.fn f) (.func f #[] #[])
 |rS:bj .rS .nilFunc
 |iface (t:TypeId) (x:D) (v:Value) (h:bj x v):bj (.iface t x) (.iface t v)
 |qe:bj .qe .nilIface
 |nt:bj .nt (.pointer none)
inductive bd(base:Nat):(Nat→Nat→Nat→Prop)→SV→Value→Prop
 |d (O:Nat→Nat→Nat→Prop) (x:D) (v:Value) (h:bj w St x v):bd base O (.d x) v
 |own (O:Nat→Nat→Nat→Prop) (sz:Nat) (L:List D) (g cap:Nat) (h:bj w St (.sl .ro sz L) (.slice (some ⟨g,0,none⟩) L.length cap)) (b9:cap≤maxLen)
   (ho:O g (L.length*sz) (cap*sz)):bd base O (.own sz L) (.slice (some ⟨g,0,none⟩) L.length cap)
 |full (O:Nat→Nat→Nat→Prop) (sz:Nat) (L:List D) (a:Addr) (h:bj w St (.sl .ro sz L) (.slice (some a) L.length L.length)):
   bd base O (.full sz L) (.slice (some a) L.length L.length)
 |ref (O:Nat→Nat→Nat→Prop) (cs:List SV) (off b o:Nat) (vs:Nat→Value) (hb:b<base)
   (bF:∀(i:Nat),i<cs.length→w.cell? ⟨b,o+i,none⟩=some (vs i)∧(vs i).oneCell' =true)
   (hc:∀(i:Nat)c,cs[i]? =some c→bd base (fun _ _ _=>False) c (vs i)):bd base O (.ref cs off) (.pointer (some ⟨b,o+off,none⟩))
 |aA (O:Nat→Nat→Nat→Prop) (x:D) (off b o:Nat) (vs:Nat→Value) (hf:∀c∈x.cells,c.one=true)
   (bF:∀(i:Nat),i<x.cells.length→w.cell? ⟨b,o+i,none⟩=some (vs i)∧St b (o+i))
   (hc:∀(i:Nat)c,x.cells[i]? =some c→bj w St c (vs i)):bd base O (.aA x off) (.pointer (some ⟨b,o+off,none⟩))
 |dX (O:Nat→Nat→Nat→Prop) (f:Fn) (first cap:List SV) (fv cv:Array Value) (hf:first.length=fv.size) (hc:cap.length=cv.size)
   (rf:∀(i:Nat)x v,first[i]? =some x→fv[i]? =some v→bd base (fun _ _ _=>False) x v)
   (rc:∀(i:Nat)x v,cap[i]? =some x→cv[i]? =some v→bd base (fun _ _ _=>False) x v):bd base O (.dX f first cap) (.func f fv cv)
 |cA (O:Nat→Nat→Nat→Prop) (sz:Nat) (L:List D) (g cap:Nat) (vs:Nat→Value) (b9:L.length≤cap) (hm:cap≤maxLen) (aQ:∀x∈L,x.cells.length=sz) (hf:∀x∈L,∀c∈x.cells,c.one=true)
   (ho:O g 0 (cap*sz)) (bF:∀(o:Nat),o<L.length*sz→w.cell? ⟨g,o,none⟩=some (vs o))
   (hc:∀(i:Nat)x(j:Nat)c,L[i]? =some x→x.cells[j]? =some c→bj w St c (vs (i*sz+j))):bd base O (.cA sz L) (.slice (some ⟨g,0,none⟩) L.length cap)
 |mp (O:Nat→Nat→Nat→Prop) (l:List (MK×D)) (r:Nat) (es:Array MapEntry) (clock:Nat) (hh:w.heap[r]? =some (.map es clock)) (hs:St r 0) (hl:l.length=es.size)
   (hc:∀(i:Nat)x y,l[i]? =some x→es[i]? =some y→x.1.Is y.key∧True∧bj w St x.2 y.val):bd base O (.mp l) (.map (some r))
 |undef (O:Nat→Nat→Nat→Prop) (v:Value):bd base O .undef v
end
theorem bj.mono{w w':World}{St cK:Nat→Nat→Prop}(h:∀b o,St b o→cK b o∧w'.cell? ⟨b,o,none⟩=w.cell? ⟨b,o,none⟩){d:D}{v:Value}
  (r:bj w St d v):bj w' cK d v:=by
 induction r with
 |bool b=>exact .bool b
 |int k n hk=>exact .int k n hk
 |str s hs=>exact .str s hs
 |agg ds vs hf hl _ ih=>exact .agg ds vs hf hl ih
 |jm sz=>exact .jm sz
 |sl sz L b off cap vs b9 hm aQ hf bF _ ih=>
  exact .sl sz L b off cap vs b9 hm aQ hf (fun o ho=>⟨(h _ _ (bF o ho).2).2.trans (bF o ho).1,(h _ _ (bF o ho).2).1⟩) ih
 |jN sz a cap ha=>exact .jN sz a cap ha
 |fn f=>exact .fn f
 |rS=>exact .rS
 |iface t x v _ ih=>exact .iface t x v ih
 |qe=>exact .qe
 |nt=>exact .nt
theorem bd.mono{w w':World}{St cK:Nat→Nat→Prop}{base:Nat}(h0:∀b o,St b o→cK b o∧vd w w' b o)
  (hb:∀b o,b<base→w'.cell? ⟨b,o,none⟩=w.cell? ⟨b,o,none⟩){O:Nat→Nat→Nat→Prop}{x:SV}{v:Value}(r:bd w St base O x v):
  ∀O':Nat→Nat→Nat→Prop,(∀g a c,O g a c→O' g a c∧rF w w' g a)→bd w' cK base O' x v:=by
 have h:∀b o,St b o→cK b o∧w'.cell? ⟨b,o,none⟩=w.cell? ⟨b,o,none⟩:=fun b o hs=>⟨(h0 b o hs).1,(h0 b o hs).2.1⟩
 induction r with
 |d O x v hd=>exact fun O' _=>.d O' x v (hd.mono h)
 |own O sz L g cap hd b9 ho=>exact fun O' hO=>.own O' sz L g cap (hd.mono h) b9 (hO _ _ _ ho).1
 |full O sz L a hd=>exact fun O' _=>.full O' sz L a (hd.mono h)
 |ref O cs off b o vs eJ bF _ ih=>exact fun O' _=>.ref O' cs off b o vs eJ (fun i hi=>⟨(hb _ _ eJ).trans (bF i hi).1,(bF i hi).2⟩) fun i c hc=>ih i c hc _ (fun _ _ _ h=>h.elim)
 |aA O x off b o vs hf bF hc=>
  exact fun O' _=>.aA O' x off b o vs hf (fun i hi=>⟨(h _ _ (bF i hi).2).2.trans (bF i hi).1,(h _ _ (bF i hi).2).1⟩) fun i c hi=>(hc i c hi).mono h
 |dX O f first cap fv cv hf hc _ _ jt ju=>exact fun O' _=>.dX O' f first cap fv cv hf hc (fun i x v a b=>jt i x v a b _ (fun _ _ _ h=>h.elim)) (fun i x v a b=>ju i x v a b _ (fun _ _ _ h=>h.elim))
 |cA O sz L g cap vs b9 hm aQ hf ho bF hc=>
  exact fun O' hO=>.cA O' sz L g cap vs b9 hm aQ hf (hO _ _ _ ho).1 (fun o cC=>(World.cell?_of_block ((hO _ _ _ ho).2 rfl)).trans (bF o cC)) fun i x j c hx iZ=>(hc i x j c hx iZ).mono h
 |mp O l r es clock hh hs hl hc=>exact fun O' _=>.mp O' l r es clock ((h0 r 0 hs).2.2 es clock hh) (h r 0 hs).1 hl fun i x y a b=>⟨(hc i x y a b).1,(hc i x y a b).2.1,(hc i x y a b).2.2.mono h⟩
 |undef O v=>exact fun O' _=>.undef O' v
theorem bd.aa{w:World}{St:Nat→Nat→Prop}{base:Nat}{O O':Nat→Nat→Nat→Prop}{x:SV}{v:Value}(r:bd w St base O x v):bd w St base O' (aa x) v:=by
 cases r with
 |d _ x v hd=>exact .d _ x v hd
 |own _ sz L g cap hd b9 ho=>exact .d _ _ _ hd
 |full _ sz L a hd=>exact .full _ sz L a hd
 |ref _ cs off b o vs eJ bF hc=>exact .ref _ cs off b o vs eJ bF hc
 |aA _ x off b o vs hf bF hc=>exact .aA _ x off b o vs hf bF hc
 |dX _ f first cap fv cv hf hc rf rc=>exact .dX _ f first cap fv cv hf hc rf rc
 |cA _ sz L g cap vs b9 hm aQ hf ho bF hc=>exact .undef _ _
 |mp _ l r es clock hh hs hl hc=>exact .mp _ l r es clock hh hs hl hc
 |undef _ v=>exact .undef _ _
theorem bd.cS{w:World}{St:Nat→Nat→Prop}{base:Nat}{O:Nat→Nat→Nat→Prop}{x:SV}{v:Value}(r:bd w St base O x v){y:D}(h:Ab.cS x=some y):bj w St y v:=by
 cases r<;>simp only[Ab.cS,Option.some.injEq,reduceCtorEq]at h<;>subst h<;>assumption
mutual
def SV.Wf:SV→Prop
 | .d x=>x.Wf
 | .own sz L=>(D.sl .ro sz L).Wf
 | .full sz L=>(D.sl .ro sz L).Wf
 | .cA sz L=>(D.sl .ro sz L).Wf
 | .ref cs _=>SV.fS cs
 | .aA x _=>D.fS x.cells
 | .dX _ a b=>SV.fS a∧SV.fS b
 | .cR l=>SV.fS l
 | .mp l=>∀x∈l,x.2.Wf
 | .undef =>True
def SV.fS:List SV→Prop
 |[]=>True
 |x::l=>x.Wf∧SV.fS l
end
theorem D.iA:∀(l:List D),D.fS l↔∀x∈l,x.Wf
 |[]=>by simp[D.fS]
 |x::l=>by simp[D.fS,D.iA l]
theorem SV.iA:∀(l:List SV),SV.fS l↔∀x∈l,x.Wf
 |[]=>by simp[SV.fS]
 |x::l=>by simp[SV.fS,SV.iA l]
theorem bj.Mn{w:World}{St:Nat→Nat→Prop}{d:D}{v:Value}(r:bj w St d v):∀c∈d.cells,c.one=true:=by
 cases r with
 |agg ds vs hf hl hc=>exact hf
 |_=>intro c hc;simp only[D.cells,List.mem_singleton]at hc;subst hc;rfl
theorem bj.rG{w:World}{St:Nat→Nat→Prop}{d:D}{v:Value}(r:bj w St d v)(h:d.one=true):v.oneCell'=true:=by
 cases r<;>first|rfl|simp[D.one]at h
theorem bj.wf{w:World}{St:Nat→Nat→Prop}{d:D}{v:Value}(r:bj w St d v):d.Wf:=by
 induction r with
 |int k n hk=>simpa[D.Wf]using hk
 |str s hs=>rw[D.Wf];exact hs
 |agg ds vs hf hl _ ih=>
  rw[D.Wf,D.iA]
  intro x hx
  obtain⟨i,hi,rfl⟩:=List.mem_iff_getElem.1 hx
  exact ih i _ (vs[i]'(by omega)) (by simp) (by simp)
 |jm sz=>simp[D.Wf,D.fS]
 |jN sz a cap=>simp[D.Wf,D.fS]
 |sl sz L b off cap vs b9 hm aQ hf bF hc ih=>
  rw[D.Wf]
  refine⟨hm,by simp,aQ,?_⟩
  rw[D.iA]
  intro x hx
  obtain⟨i,hi,rfl⟩:=List.mem_iff_getElem.1 hx
  have key:∀c∈(L[i]).cells,c.Wf:=fun c ja=>by
   obtain⟨j,hj,rfl⟩:=List.mem_iff_getElem.1 ja
   exact ih i _ j _ (List.getElem?_eq_getElem hi) (List.getElem?_eq_getElem hj)
  cases hL:L[i]with
  |agg cs=>rw[hL]at key;rw[D.Wf,D.iA];exact key
  |_=>rw[hL]at key;exact key _ (by simp[D.cells])
 |iface t x v _ ih=>simpa[D.Wf]using ih
 |_=>simp[D.Wf]
theorem bd.wf{w:World}{St:Nat→Nat→Prop}{base:Nat}{O:Nat→Nat→Nat→Prop}{x:SV}{v:Value}(r:bd w St base O x v):x.Wf:=by
 induction r with
 |d O x v hd=>simpa[SV.Wf]using hd.wf
 |own O sz L g cap hd b9 ho=>simpa[SV.Wf]using hd.wf
 |full O sz L a hd=>simpa[SV.Wf]using hd.wf
 |cA O sz L g cap vs b9 hm aQ hf ho bF hc=>
  rw[SV.Wf,D.Wf]
  refine⟨Nat.le_trans b9 hm,by simp,aQ,?_⟩
  rw[D.iA]
  intro x hx
  obtain⟨i,hi,rfl⟩:=List.mem_iff_getElem.1 hx
  have key:∀c∈(L[i]).cells,c.Wf:=fun c ja=>by
   obtain⟨j,hj,rfl⟩:=List.mem_iff_getElem.1 ja
   exact(hc i _ j _ (List.getElem?_eq_getElem hi) (List.getElem?_eq_getElem hj)).wf
  cases hL:L[i]with
  |agg cs=>rw[hL]at key;rw[D.Wf,D.iA];exact key
  |_=>rw[hL]at key;exact key _ (by simp[D.cells])
 |ref O cs off b o vs eJ bF _ ih=>
  rw[SV.Wf,SV.iA]
  intro x hx
  obtain⟨i,hi,rfl⟩:=List.mem_iff_getElem.1 hx
  exact ih i _ (by simp)
 |aA O x off b o vs hf bF hc=>
  rw[SV.Wf,D.iA]
  intro c ja
  obtain⟨j,hj,rfl⟩:=List.mem_iff_getElem.1 ja
  exact(hc j _ (by simp)).wf
 |dX O f first cap fv cv hf hc _ _ jt ju=>
  rw[SV.Wf,SV.iA,SV.iA]
  constructor
  ·intro x hx
   obtain⟨i,hi,rfl⟩:=List.mem_iff_getElem.1 hx
   exact jt i _ (fv[i]'(by omega)) (by simp) (by simp)
  ·intro x hx
   obtain⟨i,hi,rfl⟩:=List.mem_iff_getElem.1 hx
   exact ju i _ (cv[i]'(by omega)) (by simp) (by simp)
 |mp O l r es clock hh hs hl hc=>
  rw[SV.Wf]
  intro x hx
  obtain⟨i,hi,rfl⟩:=List.mem_iff_getElem.1 hx
  exact(hc i _ (es[i]'(by omega)) (by simp) (by simp)).2.2.wf
 |undef=>simp[SV.Wf]
inductive Pos where
 |s (i j:Nat)
 |b (i j:Nat)
 deriving DecidableEq
structure Gh where
 St:Nat→Nat→Prop
 bx:List (Option Nat)
 ow:Nat→Option Pos
def ga(base:Nat)(w:World)(g:Gh)(p:Pos)(b a c:Nat):Prop:=
 g.ow b=some p∧base≤b∧some b∉g.bx∧(∃cur e,w.heap[b]? =some (.cells cur e (0,0))∧cur.size=c)∧∀o,a≤o→¬g.St b o
inductive cH(base:Nat)(w:World)(g:Gh):(Nat→Nat→Nat→Nat→Prop)→Slot→Value→Prop
 |v (O:Nat→Nat→Nat→Nat→Prop) (x:SV) (y:Value) (h:bd w g.St base (O 0) x y):cH base w g O (.v x) y
 |p (O:Nat→Nat→Nat→Nat→Prop) (b off ao:Nat) (h:g.bx[b]? =some (some ao)):cH base w g O (.p b off) (.pointer (some ⟨ao,off,none⟩))
 |c (O:Nat→Nat→Nat→Nat→Prop) (f:Fn) (first cap:List Slot) (fv cv:Array Value) (hf:first.length=fv.size) (hc:cap.length=cv.size)
   (rf:∀(i:Nat)x v,first[i]? =some x→fv[i]? =some v→cH base w g (fun _ _ _ _=>False) x v)
   (rc:∀(i:Nat)x v,cap[i]? =some x→cv[i]? =some v→cH base w g (fun _ _ _ _=>False) x v):cH base w g O (.c f first cap) (.func f fv cv)
 |a (O:Nat→Nat→Nat→Nat→Prop) (b n sz:Nat) (v:Value) (hm:n≤maxLen) (h:∃ao cap,g.bx[b]? =some (some ao)∧n≤cap∧v=.slice (some ⟨ao,0,none⟩) n cap∧cap≤maxLen∧∃c ty,w.heap[ao]? =some (.cells c ty (0,0))∧c.size=cap*sz):cH base w g O (.a b n sz) v
 |m (O:Nat→Nat→Nat→Nat→Prop) (b ao:Nat) (h:g.bx[b]? =some (some ao)):cH base w g O (.m b) (.map (some ao))
 |t (O:Nat→Nat→Nat→Nat→Prop) (xs:List SV) (vs:Array Value) (hl:xs.length=vs.size)
   (hc:∀(j:Nat)x v,xs[j]? =some x→vs[j]? =some v→bd w g.St base (O j) x v):cH base w g O (.t xs) (.tuple vs)
def gJ(base:Nat)(w:World)(g:Gh)(i j:Nat):Nat→Nat→Nat→Prop:=ga base w g (.s i j)
def po(base:Nat)(w:World)(g:Gh)(i j:Nat):Nat→Nat→Nat→Prop:=ga base w g (.b i j)
def af.size:af→Nat
 | .cells cs=>cs.length
 | .one _=>1
 |_=>0
def O5(base:Nat)(w:World)(g:Gh)(b:Nat)(bx:af)(ao:Nat):Prop:=
 base≤ao∧∃c t,w.heap[ao]? =some (.cells c t (0,0))∧(∀(j:Nat)y,j<bx.size→c[j]? =some y→y.oneCell'=true)∧match bx with
  | .none =>False
  | .map _=>False
  | .cells cs=>cs.length≤c.size∧∀(j:Nat)x y,cs[j]? =some x→c[j]? =some y→bd w g.St base (po base w g b j) x y
  | .one s=>0<c.size∧∀y,c[0]? =some y→cH base w g (fun _=>po base w g b 0) s y
def adr(base:Nat)(w:World)(g:Gh)(l:List (MK×D))(ao:Nat):Prop:=
 base≤ao∧∃es clock,w.heap[ao]? =some (.map es clock)∧l.length=es.size∧∀(i:Nat)x y,l[i]? =some x→es[i]? =some y→x.1.Is y.key∧True∧bj w g.St x.2 y.val
def nG(base:Nat)(w:World)(g:Gh)(b:Nat)(bx:af)(ao:Nat):Prop:=match bx with
 | .map l=>adr base w g l ao
 | .none =>False
 | .cells cs=>O5 base w g b (.cells cs) ao
 | .one s=>O5 base w g b (.one s) ao
theorem nG.low{base:Nat}{w:World}{g:Gh}{b:Nat}{bx:af}{ao:Nat}(h:nG base w g b bx ao):base≤ao:=by
 cases bx<;>first|exact h.1|exact h.elim
def vk(gl:Nat→Option D)(w:World)(St:Nat→Nat→Prop):Prop:=
 ∀n x,gl n=some x→(∀c∈x.cells,c.one=true)∧∃vs:Nat→Value,(∀(i:Nat),i<x.cells.length→w.cell? ⟨n,i,none⟩=some (vs i)∧St n i)∧∀(i:Nat)c,x.cells[i]? =some c→bj w St c (vs i)
structure S0 where
 St:Nat→Nat→Prop
 df:Nat→Obj→Prop
 cl:Nat→Nat→Value→Prop
 sz:Nat:=0
instance:CoeFun S0 (fun _=>Nat→Nat→Prop):=⟨S0.St⟩
theorem gn{w:World}{D:Nat}{x:Obj}(h:w.heap[D]? =some x):D<w.heap.size:=(Array.getElem?_eq_some_iff.1 h).1
structure Inv(gl:Nat→Option D)(w0:World)(ay:S0)(e:Env)(a:Act)(w:World)(g:Gh):Prop where
 below:Below w0.heap.size w0 w
 size:a.tmps.size=e.an.length
 an:∀(i:Nat)s,e.an[i]? =some s→cH w0.heap.size w g (gJ w0.heap.size w g i) s (a.tmps.getD i undef)
 fo:g.bx.length=e.boxes.length
 boxes:∀(b:Nat)bx ao,e.boxes[b]? =some bx→g.bx[b]? =some (some ao)→nG w0.heap.size w g b bx ao
 nodup:∀(i j:Nat)ao,g.bx[i]? =some (some ao)→g.bx[j]? =some (some ao)→i=j
 fT:∀b o,ay b o→g.St b o
 cP:∀b o,g.St b o→(ay b o∨w0.heap.size≤b)∧some b∉g.bx∧b<w.heap.size
 eb:∀b,some b∈g.bx→w0.heap.size≤b∧b<w.heap.size
 jK:vk gl w g.St
 defers:a.defers=[]
 fe:∀(D:Nat)(o:Obj),ay.df D o→some D∉g.bx∧g.ow D=none∧w.heap[D]? =some o∧∀x,g.St D x→ay.St D x
 cls:∀(b o:Nat)(v:Value),ay.cl b o v→g.St b o∧w.cell? ⟨b,o,none⟩=some v
 jv:ay.sz≤w.heap.size
end Go.Proofs.YtaknajjmldngiaaGreat.Ab
namespace Go.Proofs.YtaknajjmldngiaaGreat.Ab
open Go
def reach:(acc:List Nat)→List Oper→List Nat
 |acc,[]=>acc
 |acc,o::l=>reach (acc++[o.after.toList.foldl (fun s e=>bif Region.binds .any e then s|||2^e.on|||acc.getD e.on 0 else s) 0]) l
def ml(o:Oper):Option Nat:=match o.op,o.guard with| .alloc _,none=>o.dst|_,_=>none
def jI(l:List Oper):List Nat:=l.filterMap ml
def BV(A:List Nat):Operand→Bool
 | .tmp t=>A.contains t
 |_=>false
def nA(A:List Nat)(o:Oper):Option Nat:=match o.op with
 | .store _ (.tmp a) _=>bif A.contains a then some a else none
 |_=>none
def AT(A:List Nat)(aE:Bool)(o:Oper):Bool:=
 (match ml o with|some _=>true|none=> !fZ o&&(match o.dst with|some d=> !A.contains d|none=>true))&&
 (match o.op with
   | .store _ x y=> !BV A y&&(!BV A x|| !aE)
   |op=>op.operands.toList.all fun x=> !BV A x)
def DM:List Nat→Bool
 |[]=>true
 |a::l=> !l.contains a&&DM l
def Ao(a m:Nat):List Oper→Nat→Bool
 |[],_=>true
 |o::l,i=>(match ml o with|some b=> !(Nat.beq a b)||Nat.testBit m i|none=>true)&&Ao a m l (i+1)
def Da(all:List Oper)(A:List Nat)(aE:Nat→Bool)(R:List Nat):List Oper→Nat→Bool
 |[],_=>true
 |o::l,i=>AT A (aE i) o&&(match nA A o with|some a=>Ao a (R.getD i 0) all 0|none=>true)&&Da all A aE R l (i+1)
def eligible(l:List Oper)(aE:Nat→Bool)(R:List Nat):Bool:=DM (jI l)&&Da l (jI l) aE R l 0
def D7(A:List Nat)(lx ly:Bool)(x y:Oper):Bool:=match nA A x,nA A y with
 |some a,some b=> !(Nat.beq a b)&& !lx&& !ly
 |some _,none=> !lx&& !iP y&& !ly
 |none,some _=> !ly&& !iP x&& !lx
 |none,none=>false
def HF(all:Array Oper)(A:List Nat)(Bj wQ:Bool)(x y:Oper):Bool:=
 (gW Bj x).all (fun d=> !(y.looksAt all).contains d&& !(gW wQ y).contains d)&&
 (gW wQ y).all (fun d=> !(x.looksAt all).contains d)&&D7 A Bj wQ x y
def yN(E:Option (List Nat))(all:Array Oper)(lx ly:Bool)(x y:Oper):Bool:=
 indep all lx ly x y||(match E with|some A=>HF all A lx ly x y|none=>false)
def DN(E:Option (List Nat))(ops:Array Oper)(aE:Nat→Bool)(R:List Nat)(i:Nat)(o:Oper):List Oper→Nat→Bool
 |[],_=>true
 |p::l,j=>(Nat.testBit (R.getD j 0) i||yN E ops (aE i) (aE j) o p)&&DN E ops aE R i o l (j+1)
def wA(E:Option (List Nat))(ops:Array Oper)(aE:Nat→Bool)(R:List Nat):List Oper→Nat→Bool
 |[],_=>true
 |o::l,i=>o.after.toList.all (fun e=> !Region.binds .any e||Nat.blt e.on i)&&DN E ops aE R i o l (i+1)&&wA E ops aE R l (i+1)
def qi(aE:Nat→Bool)(ops:Array Oper):Bool:=
 bif eligible ops.toList aE (reach [] ops.toList)then wA (some (jI ops.toList)) ops aE (reach [] ops.toList) ops.toList 0
 else wA none ops aE (reach [] ops.toList) ops.toList 0
def nB(m:Nat):List Oper→Nat→List Nat
 |[],_=>[]
 |o::l,i=>bif !Nat.testBit m i&&o.after.toList.all (fun e=> !Region.binds .any e||Nat.testBit m e.on)then i::nB m l (i+1)else nB m l (i+1)
def D8(ops:Array Oper)(aE:Nat→Bool)(R:List Nat)(m i:Nat)(o:Oper):List Oper→Nat→Bool
 |[],_=>true
 |p::l,j=>(Nat.beq i j||Nat.testBit m j||Nat.testBit (R.getD j 0) i||indep ops (aE i) (aE j) o p)&&D8 ops aE R m i o l (j+1)
def DO(ops:Array Oper)(aE:Nat→Bool)(R:List Nat)(m i:Nat):Bool:=match ops.toList[i]? with
 |some o=>D8 ops aE R m i o ops.toList 0
 |none=>false
def firstFree(ops:Array Oper)(aE:Nat→Bool)(R:List Nat)(m:Nat):List Nat→Option Nat
 |[]=>none
 |i::l=>bif DO ops aE R m i then some i else firstFree ops aE R m l
def O6(ops:Array Oper)(aE:Nat→Bool)(R:List Nat)(m:Nat):List Nat:=match firstFree ops aE R m (nB m ops.toList 0)with
 |some i=>[i]
 |none=>nB m ops.toList 0
def Eo(f:Nat→Prop):List Nat→Prop
 |[]=>True
 |i::l=>match l with|[]=>f i|_=>f i∧Eo f l
def ads(gh:List (Nat×List gA))(id:Nat):Bool:=gh.any fun p=>Nat.beq p.1 id&&p.2.isEmpty
mutual
def SV.aj:SV→Bool
 | .ref _ _=>false
 | .dX _ a b=>SV.mr a&&SV.mr b
 | .cR l=>SV.mr l
 |_=>true
def SV.mr:List SV→Bool
 |[]=>true
 |x::l=>SV.aj x&&SV.mr l
end
def yH(ws vars consts:List Nat):List Slot→Nat→Bool
 |[],_=>true
 |s::l,t=>(match s with| .v _=>true| .t _=>true|_=>ws.contains t||(!vars.contains t&&consts.contains t))&&yH ws vars consts l (t+1)
section
variable(P:Program)(gl:Nat→Option D)(C:aP)(h:Hints)
def wR(ops:Array Oper)(aE:Nat→Bool)(R:List Nat)(base:Nat)(Q:Env→Prop):Nat→Nat→Env→Prop
 |0,m,e=>bif (nB m ops.toList 0).isEmpty then Q e else False
 |n+1,m,e=>bif (nB m ops.toList 0).isEmpty then Q e else
   Eo (fun i=>match ops.toList[i]? with
    |some o=>vj ops.toList o e (fun e'=>kI P gl C (base+fl ops.toList i) (aE i) o e' fun oE=>wR ops aE R base Q n (m|||2^i) oE) (fun e'=>wR ops aE R base Q n (m|||2^i) ⟨cz e'.an o.dst (.t []),e'.boxes⟩)
    |none=>False) (O6 ops aE R m)
def aez(ops:Array Oper)(aE:Nat→Bool)(e:Env)(Q:Env→Prop):Prop:=
 wR P gl C ops aE (reach [] ops.toList) e.boxes.length Q ops.toList.length 0 ⟨e.an,e.boxes++List.replicate (fl ops.toList ops.toList.length) .none⟩
def qp(ok:Bool)(ops:Array Oper)(aE:Nat→Bool)(e:Env)(Q:Env→Prop)(e':Env):Prop:=
 bif ok then Q e' else aez P gl C ops aE e (fun x=>x=e')∧Q e'
def nF(e:Env)(c:Operand)(A B:Env→Prop):Prop:=match c with
 | .tmp t=>(match e.an.getD t (.v .undef)with
   | .v x=>ai x (A (e.pn t true)) (B (e.pn t false))
   |_=>False)
 | .const (.bool b)=>cond b (A e) (B e)
 |_=>False
def aw:Code→(Ex→Env→Prop)→Env→Prop
 | .skip,Q,e=>Q .normal e
 | .region id ops draw,Q,e=>bif (!draw||qi (oo h id) ops)||ads h.gh id then lS (D6 h.gh id) e (fun e'=>wh P gl C (oo h id) ops.toList e' (qp P gl C (!draw||qi (oo h id) ops) ops (oo h id) e' (Q .normal)))else False
 | .seq a b,Q,e=>aw a (fun x e'=>match x with| .normal =>aw b Q e'| .exit i=>Q (.exit i) e'| .ret =>Q .ret e') e
 | .cond c a b,Q,e=>nF e c (aw a Q) (aw b Q)
 | .block id b,Q,e=>aw b (fun x e'=>match x with| .normal =>Q .normal e'| .exit i=>bif i==id then Q .normal e' else Q (.exit i) e'| .ret =>Q .ret e') e
 | .loop b,Q,e=>(match kY h.eQ (jF b)with
   |(vars,consts)=>bif consts.all (fun t=> !(du h.gh b).contains t)&&yH (du h.gh b) vars consts e.an 0 then
      bE (fun vs bs I=>aw b (fun x e'=>match x with| .normal =>I (pd e' vars) (o7 e.boxes.length e')| .exit i=>Q (.exit i) e'| .ret =>Q .ret e')
          ⟨nY vars consts vs e.an 0,nZ bs e.boxes 0⟩)
       (pd e vars) (o7 e.boxes.length e)
    else False)
 | .exit id,Q,e=>Q (.exit id) e
 | .ret,Q,e=>Q .ret e
 |_,_,_=>False
def tE(e:Env)(used:List Nat)(r:ResultVar)(k:SV→Prop):Prop:=match r with
 | .tmp t=>(match e.an.getD t (.v .undef)with
   | .v x=>x.aj=true∧k (bif used.contains t then aa x else x)
   |_=>False)
 | .cell a t=>ab (gy P t) fun ly=>(match e.an.getD a (.v .undef)with
   | .p b off=>np ly.1 ly.2 b off e.boxes fun s _=>(match s with
     | .v x=>x.aj=true∧k x
     |_=>False)
   |_=>False)
def AU(used:List Nat):ResultVar→List Nat
 | .tmp t=>t::used
 | .cell _ _=>used
def rV(e:Env):List Nat→List ResultVar→(List SV→Prop)→Prop
 |_,[],k=>k []
 |used,r::l,k=>tE P e used r fun x=>rV e (AU used r) l fun xs=>k (x::xs)
def finish(fn:Func)(e:Env)(K:SV→Prop):Prop:=match fn.results.toList with
 |[r]=>tE P e [] r K
 |l=>rV P e [] l fun xs=>K (.cR xs)
def enter(n:Nat)(args:List SV):Env:=⟨args.map .v ++List.replicate (n-args.length) (.v .undef),[]⟩
def bq(args:List SV)(X:Prop):Prop:=SV.fS args→X
def body(f:FuncId)(args:List SV)(K:SV→Prop):Prop:=match P.funcs[f]? with
 |some fn=>(match fn.body with
  |some c=>bq args (aw P gl C h c (fun x e=>match x with| .normal =>finish P fn e K| .ret =>finish P fn e K| .exit _=>False) (enter fn.ntmps args))
  |none=>False)
 |none=>False
end
end Go.Proofs.YtaknajjmldngiaaGreat.Ab
namespace Go.Proofs.YtaknajjmldngiaaGreat.Ab
open Go Go.RowKit
def qa(w w':World):Prop:=∀(b:Nat)c ty,w.heap[b]? =some (.cells c ty (0,0))→∃c' tT,w'.heap[b]? =some (.cells c' tT (0,0))∧c'.size=c.size
theorem qa.refl(w:World):qa w w:=fun _ c ty h=>⟨c,ty,h,rfl⟩
theorem qa.of{w w':World}(h:∀b,b<w.heap.size→w'.heap[b]? =w.heap[b]?):qa w w':=fun b c ty hb=>⟨c,ty,(h b (gn hb)).trans hb,rfl⟩
theorem qa.trans{a b c:World}(h:qa a b)(k:qa b c):qa a c:=fun x cc ty hx=>by
 obtain⟨c1,t1,h1,e1⟩:=h x cc ty hx
 obtain⟨c2,t2,h2,e2⟩:=k x c1 t1 h1
 exact⟨c2,t2,h2,e2.trans e1⟩
structure Ext(base:Nat)(w:World)(g:Gh)(w':World)(g':Gh)(lost:Pos→Prop):Prop where
 df:∀(D:Nat)(o:Obj),some D∉g.bx→g.ow D=none→w.heap[D]? =some o→w'.heap[D]? =some o∧some D∉g'.bx∧g'.ow D=none∧∀x,g'.St D x→g.St D x
 st:∀b o,g.St b o→g'.St b o∧vd w w' b o
 bs:∀b o,b<base→w'.cell? ⟨b,o,none⟩=w.cell? ⟨b,o,none⟩
 bx:∀(i:Nat)ao,g.bx[i]? =some (some ao)→g'.bx[i]? =some (some ao)
 own:∀p b a c,¬lost p→ga base w g p b a c→ga base w' g' p b a c∧rF w w' b a
 sh:qa w w'
theorem cH.mono{base:Nat}{w w':World}{g g':Gh}{O O':Nat→Nat→Nat→Nat→Prop}{s:Slot}{v:Value}(r:cH base w g O s v)
  (st:∀b o,g.St b o→g'.St b o∧vd w w' b o)(bs:∀b o,b<base→w'.cell? ⟨b,o,none⟩=w.cell? ⟨b,o,none⟩)
  (bx:∀(i:Nat)ao,g.bx[i]? =some (some ao)→g'.bx[i]? =some (some ao))(sh:qa w w')(hO:∀j b a c,O j b a c→O' j b a c∧rF w w' b a):cH base w' g' O' s v:=by
 induction r generalizing O' with
 |v O x y h=>exact .v _ x y (h.mono st bs _ (hO 0))
 |p O b off ao h=>exact .p _ b off ao (bx _ _ h)
 |a O b n sz v hm h=>obtain⟨ao,cap,h1,h2,h3,h4,c,ty,h5,h6⟩:=h;obtain⟨c',tT,h7,h8⟩:=sh ao c ty h5;exact .a _ b n sz v hm ⟨ao,cap,bx _ _ h1,h2,h3,h4,c',tT,h7,h8.trans h6⟩
 |m O b ao h=>exact .m _ b ao (bx _ _ h)
 |c O f first cap fv cv hf hc _ _ jt ju=>exact .c _ f first cap fv cv hf hc (fun i x v a b=>jt i x v a b (fun _ _ _ _ h=>h.elim)) (fun i x v a b=>ju i x v a b (fun _ _ _ _ h=>h.elim))
 |t O xs vs hl hc=>exact .t _ xs vs hl fun j x v a b=>(hc j x v a b).mono st bs _ (hO j)
theorem cH.aa{base:Nat}{w:World}{g:Gh}{O O':Nat→Nat→Nat→Nat→Prop}{s:Slot}{v:Value}(r:cH base w g O s v):cH base w g O' s.aa v:=by
 cases r with
 |v _ x _ h=>exact .v _ _ _ h.aa
 |p _ b off ao h=>exact .p _ b off ao h
 |a _ b n sz v hm h=>exact .a _ b n sz v hm h
 |m _ b ao h=>exact .m _ b ao h
 |c _ f first cap fv cv hf hc rf rc=>exact .c _ f first cap fv cv hf hc rf rc
 |t _ xs vs hl hc=>
  refine .t _ _ vs (by simpa using hl) fun j x v a b=>?_
  simp only[List.getElem?_map,Option.map_eq_some_iff]at a
  obtain⟨x',a,rfl⟩:=a
  exact(hc j x' v a b).aa
theorem Ext.refl(base:Nat)(w:World)(g:Gh):Ext base w g w g (fun _=>False):=⟨fun _ _ hb ho h=>⟨h,hb,ho,fun _ h=>h⟩,fun _ _ h=>⟨h,.refl _ _ _⟩,fun _ _ _=>rfl,fun _ _ h=>h,fun _ _ _ _ _ h=>⟨h,.refl _ _ _⟩,.refl _⟩
theorem Ext.slot{base:Nat}{w w':World}{g g':Gh}{lost:Pos→Prop}(h:Ext base w g w' g' lost){i:Nat}(hl:∀j,¬lost (.s i j)){s:Slot}{v:Value}
  (r:cH base w g (gJ base w g i) s v):cH base w' g' (gJ base w' g' i) s v:=
 r.mono h.st h.bs h.bx h.sh fun j b a c ho=>h.own _ b a c (hl j) ho
theorem Ext.none{base:Nat}{w w':World}{g g':Gh}{lost:Pos→Prop}(h:Ext base w g w' g' lost){s:Slot}{v:Value}
  {O O':Nat→Nat→Nat→Nat→Prop}(r:cH base w g O s v):cH base w' g' O' s.aa v:=
 (r.aa (O':=fun _ _ _ _=>False)).mono h.st h.bs h.bx h.sh fun _ _ _ _ h=>h.elim
theorem Ext.Qz{base:Nat}{w w':World}{g g':Gh}{lost:Pos→Prop}(h:Ext base w g w' g' lost):∀b o,g.St b o→g'.St b o∧w'.cell? ⟨b,o,Option.none⟩=w.cell? ⟨b,o,Option.none⟩:=fun b o hs=>⟨(h.st b o hs).1,(h.st b o hs).2.1⟩
theorem Ext.Bk{base:Nat}{w w':World}{g g':Gh}{lost:Pos→Prop}(h:Ext base w g w' g' lost){x:D}{v:Value}(r:bj w g.St x v):bj w' g'.St x v:=r.mono fun b o hs=>⟨(h.st b o hs).1,(h.st b o hs).2.1⟩
theorem Ext.box{base:Nat}{w w':World}{g g':Gh}{lost:Pos→Prop}(h:Ext base w g w' g' lost){b:Nat}{bx:af}{ao:Nat}(hl:∀j,¬lost (.b b j))
  (hb:w'.heap[ao]? =w.heap[ao]?)(r:nG base w g b bx ao):nG base w' g' b bx ao:=by
 cases bx with
 |none=>exact r.elim
 |cells cs=>
  obtain⟨h0,c,t,hc,h1,hr⟩:=r
  exact⟨h0,c,t,hb.trans hc,h1,hr.1,fun j x y hx hy=>(hr.2 j x y hx hy).mono h.st h.bs _ fun b' a c' ho=>h.own _ b' a c' (hl j) ho⟩
 |one s=>
  obtain⟨h0,c,t,hc,h1,hr⟩:=r
  exact⟨h0,c,t,hb.trans hc,h1,hr.1,fun y hy=>(hr.2 y hy).mono h.st h.bs h.bx h.sh fun _ b' a c' ho=>h.own _ b' a c' (hl 0) ho⟩
 |map l=>
  obtain⟨h0,es,clock,hc,h1,hr⟩:=r
  exact⟨h0,es,clock,hb.trans hc,h1,fun i x y hx hy=>⟨(hr i x y hx hy).1,(hr i x y hx hy).2.1,h.Bk (hr i x y hx hy).2.2⟩⟩
theorem TZ{l:List Slot}{dst:Option Nat}{s:Slot}{i:Nat}{x:Slot}(h:(cz l dst s)[i]? =some x):(dst=some i∧x=s)∨(dst≠some i∧l[i]? =some x):=by
 cases dst with
 |none=>exact .inr ⟨by simp,h⟩
 |some d=>
  simp only[cz,List.getElem?_set]at h
  by_cases hd:d=i
  ·subst hd
   simp only[↓reduceIte]at h
   split at h
   ·exact .inl ⟨rfl,(Option.some.inj h).symm⟩
   ·cases h
  ·simp only[hd,↓reduceIte]at h
   exact .inr ⟨by simpa using hd,h⟩
theorem u3(a:Act)(dst:Option Tmp)(v:Value)(i:Nat)(h:i<a.tmps.size):(a.put dst v).tmps.getD i undef=if dst=some i then v else a.tmps.getD i undef:=by
 cases dst with
 |none=>simp[Act.put]
 |some d=>
  simp only[Act.put,Array.getD_eq_getD_getElem?,Array.getElem?_setIfInBounds]
  by_cases hd:d=i
  ·subst hd;simp[h]
  ·simp[hd]
theorem u4(a:Act)(dst:Option Tmp)(v:Value):(a.put dst v).tmps.size =a.tmps.size:=by cases dst<;>simp[Act.put]
theorem put_defers(a:Act)(dst:Option Tmp)(v:Value):(a.put dst v).defers =a.defers:=by cases dst<;>rfl
theorem Cz(l:List Slot)(dst:Option Nat)(s:Slot):(cz l dst s).length =l.length:=by cases dst<;>simp[cz]
theorem yg{w:World}{St:Nat→Nat→Prop}{v:Value}{x:D}(h:wE v=some x):bj w St x v:=by
 unfold wE at h
 split at h
 ·cases h;exact .bool _
 ·rename_i k n
  cases hw:gv k n with
  |true=>rw[hw]at h;cases h;exact .int _ _ hw
  |false=>rw[hw]at h;cases h
 ·rename_i s
  cases hw:Nat.ble s.size maxLen with
  |true=>rw[hw]at h;cases h;exact .str _ (Nat.le_of_ble_eq_true hw)
  |false=>rw[hw]at h;cases h
 ·cases h;exact .jm 0
 ·cases h;exact .nt
 ·cases h;exact .rS
 ·cases h;exact .qe
 ·rename_i f first captured
  cases hw:(first.isEmpty&&captured.isEmpty)with
  |true=>
   rw[hw]at h;cases h
   simp only[Bool.and_eq_true,Array.isEmpty_iff]at hw
   obtain⟨rfl,rfl⟩:=hw
   exact .fn f
  |false=>rw[hw]at h;cases h
 ·cases h
theorem F7{v:Value}{x:D}(h:wE v=some x):x.one=true:=by
 have:∀{w:World}{St},bj w St x v:=yg h
 unfold wE at h
 split at h<;>first|(cases h;rfl)|(cases h)|skip
 ·rename_i k n;cases hw:gv k n<;>rw[hw]at h<;>cases h;rfl
 ·rename_i s;cases hw:Nat.ble s.size maxLen<;>rw[hw]at h<;>cases h;rfl
 ·rename_i f first captured;cases hw:(first.isEmpty&&captured.isEmpty)<;>rw[hw]at h<;>cases h;rfl
theorem FY:∀{vs:List Value}{xs:List D},wv vs=some xs→∀x∈xs,x.one=true
 |[],xs,h=>by cases h;simp
 |v::vs,xs,h=>by
  simp only[wv]at h
  split at h
  ·rename_i x hx
   split at h
   ·rename_i r hr
    cases h
    intro y hy
    rcases List.mem_cons.1 hy with rfl|hy
    ·exact F7 hx
    ·exact FY hr y hy
   ·cases h
  ·cases h
theorem Ad{w:World}{St:Nat→Nat→Prop}:∀{vs:List Value}{xs:List D},wv vs=some xs→
  xs.length=vs.length∧∀(i:Nat)x v,xs[i]? =some x→vs[i]? =some v→bj w St x v
 |[],xs,h=>by cases h;simp
 |v::vs,xs,h=>by
  simp only[wv]at h
  split at h
  ·rename_i x hx
   split at h
   ·rename_i r hr
    cases h
    obtain⟨h1,h2⟩:=Ad (w:=w) (St:=St) hr
    refine⟨by simp[h1],fun i y u hy hu=>?_⟩
    cases i with
    |zero=>simp only[List.getElem?_cons_zero,Option.some.injEq]at hy hu;subst hy hu;exact yg hx
    |succ i=>simp only[List.getElem?_cons_succ]at hy hu;exact h2 i y u hy hu
   ·cases h
  ·cases h
theorem VO{w:World}{St:Nat→Nat→Prop}{v:Value}{x:D}(h:D4 v=some x):bj w St x v:=by
 unfold D4 at h
 split at h
 ·split at h
  ·rename_i cs l hl
   cases h
   obtain⟨h1,h2⟩:=Ad (w:=w) (St:=St) hl
   exact .agg l _ (FY hl) (by simpa using h1) fun i d v hd hv=>h2 i d v hd (by simpa using hv)
  ·cases h
 ·exact yg h
section
variable{gl:Nat→Option D}{w0:World}{ay:S0}
theorem vk.ext{base:Nat}{w w':World}{g g':Gh}{lost:Pos→Prop}(h:Ext base w g w' g' lost)(r:vk gl w g.St):vk gl w' g'.St:=by
 intro n x hx
 obtain⟨h0,vs,h1,h2⟩:=r n x hx
 exact⟨h0,vs,fun i hi=>⟨(h.st _ _ (h1 i hi).2).2.1.trans (h1 i hi).1,(h.st _ _ (h1 i hi).2).1⟩,fun i c hc=>h.Bk (h2 i c hc)⟩
theorem Inv.stepG{e:Env}{a:Act}{w:World}{g:Gh}(hI:Inv gl w0 ay e a w g){w':World}{g':Gh}{lost:Pos→Prop}(hX:Ext w0.heap.size w g w' g' lost)
  {an:List Slot}{au:List af}{dst:Option Nat}{s:Slot}{v:Value}
  (nC:Below w0.heap.size w w')
  (hlen:an.length=e.an.length)
  (hs:∀(i:Nat)x,an[i]? =some x→dst≠some i→cH w0.heap.size w' g' (gJ w0.heap.size w' g' i) x (a.tmps.getD i undef))
  (mB:∀d,dst=some d→cH w0.heap.size w' g' (gJ w0.heap.size w' g' d) s v)
  (HG:g'.bx.length=au.length)
  (dQ:∀(b:Nat)bx ao,au[b]? =some bx→g'.bx[b]? =some (some ao)→nG w0.heap.size w' g' b bx ao)
  (lY:∀(i j:Nat)ao,g'.bx[i]? =some (some ao)→g'.bx[j]? =some (some ao)→i=j)(Bl:∀b,some b∈g'.bx→w0.heap.size≤b∧b<w'.heap.size)
  (wS:∀b o,g'.St b o→(ay b o∨w0.heap.size≤b)∧some b∉g'.bx∧b<w'.heap.size):
  Inv gl w0 ay ⟨cz an dst s,au⟩ (a.put dst v) w' g':=by
 refine⟨hI.below.trans nC,?_,?_,HG,dQ,lY,fun b o h=>(hX.st b o (hI.fT b o h)).1,wS,Bl,hI.jK.ext hX,(put_defers a dst v).trans hI.defers,fun D o hD=>(have h:=hI.fe D o hD;have k:=hX.df D o h.1 h.2.1 h.2.2.1;⟨k.2.1,k.2.2.1,k.1,fun x hx=>h.2.2.2 x (k.2.2.2 x hx)⟩),fun b o v hv=>(have h:=hI.cls b o v hv;⟨(hX.st b o h.1).1,(hX.st b o h.1).2.1.trans h.2⟩),Nat.le_trans hI.jv nC.size⟩
 ·rw[u4,Cz,hlen,hI.size]
 ·intro i x hx
  have hi:i<a.tmps.size:=by
   have:=(List.getElem?_eq_some_iff.1 hx).1
   rw[Cz,hlen]at this
   rw[hI.size];exact this
  rw[u3 a dst v i hi]
  rcases TZ hx with⟨hd,rfl⟩|⟨hd,dE⟩
  ·simp only[hd,↓reduceIte];exact mB i hd
  ·simp only[hd,↓reduceIte]
   exact hs i x dE hd
theorem Inv.step{e:Env}{a:Act}{w:World}{g:Gh}(hI:Inv gl w0 ay e a w g){w':World}{g':Gh}{lost:Pos→Prop}(hX:Ext w0.heap.size w g w' g' lost)
  {an:List Slot}{au:List af}{dst:Option Nat}{s:Slot}{v:Value}
  (nC:Below w0.heap.size w w')
  (hlen:an.length=e.an.length)
  (hs:∀(i:Nat)x,an[i]? =some x→dst≠some i→∃y,e.an[i]? =some y∧((x=y∧∀j,¬lost (.s i j))∨x=y.aa))
  (mB:∀d,dst=some d→cH w0.heap.size w' g' (gJ w0.heap.size w' g' d) s v)
  (HG:g'.bx.length=au.length)
  (dQ:∀(b:Nat)bx ao,au[b]? =some bx→g'.bx[b]? =some (some ao)→nG w0.heap.size w' g' b bx ao)
  (lY:∀(i j:Nat)ao,g'.bx[i]? =some (some ao)→g'.bx[j]? =some (some ao)→i=j)(Bl:∀b,some b∈g'.bx→w0.heap.size≤b∧b<w'.heap.size)
  (wS:∀b o,g'.St b o→(ay b o∨w0.heap.size≤b)∧some b∉g'.bx∧b<w'.heap.size):
  Inv gl w0 ay ⟨cz an dst s,au⟩ (a.put dst v) w' g':=by
 refine hI.stepG hX nC hlen (fun i x hx hd=>?_) mB HG dQ lY Bl wS
 obtain⟨y,hy,⟨rfl,hl⟩|rfl⟩:=hs i x hx hd
 ·exact hX.slot hl (hI.an i x hy)
 ·exact hX.none (hI.an i y hy)
theorem Inv.D9{e:Env}{a:Act}{w:World}{g:Gh}(hI:Inv gl w0 ay e a w g){w':World}{g':Gh}{dst:Option Nat}
  (hX:Ext w0.heap.size w g w' g' (fun p=>∃d j,dst=some d∧p=.s d j))
  {s:Slot}{v:Value}(nC:Below w.heap.size w w')
  (mB:∀d,dst=some d→cH w0.heap.size w' g' (gJ w0.heap.size w' g' d) s v)(dQ:g'.bx=g.bx)
  (wS:∀b o,g'.St b o→g.St b o∨(w.heap.size≤b∧b<w'.heap.size)):
  Inv gl w0 ay ⟨cz e.an dst s,e.boxes⟩ (a.put dst v) w' g':=by
 have hle:w0.heap.size≤w.heap.size:=hI.below.size
 refine hI.step hX (nC.mono hle) rfl (fun i x hx hd=>⟨x,hx,.inl ⟨rfl,fun j=>?_⟩⟩) mB (by rw[dQ];exact hI.fo) ?_ (by rw[dQ];exact hI.nodup) ?_ ?_
 ·rintro⟨d,j',h1,h2⟩
  cases h2
  exact hd h1
 ·intro b bx ao h1 h2
  rw[dQ]at h2
  have aV:ao<w.heap.size:=(hI.eb ao (List.mem_of_getElem? h2)).2
  exact hX.box (fun j=>by rintro⟨d,j',_,h⟩;cases h) (nC.block ao aV) (hI.boxes b bx ao h1 h2)
 ·intro b hb
  rw[dQ]at hb
  exact⟨(hI.eb b hb).1,Nat.lt_of_lt_of_le (hI.eb b hb).2 nC.size⟩
 ·intro b o h
  rw[dQ]
  rcases wS b o h with h|h
  ·obtain⟨h1,h2,h3⟩:=hI.cP b o h
   exact⟨h1,h2,Nat.lt_of_lt_of_le h3 nC.size⟩
  ·exact⟨.inr (Nat.le_trans hle h.1),fun hm=>by have:=(hI.eb b hm).2;omega,h.2⟩
theorem Inv.value{e:Env}{a:Act}{w:World}{g:Gh}(hI:Inv gl w0 ay e a w g){dst:Option Nat}{s:Slot}{v:Value}
  (mB:cH w0.heap.size w g (fun _ _ _ _=>False) s v):Inv gl w0 ay ⟨cz e.an dst s,e.boxes⟩ (a.put dst v) w g:=by
 refine hI.D9 (w':=w) (g':=g) ⟨fun _ _ hb ho h=>⟨h,hb,ho,fun _ h=>h⟩,fun _ _ h=>⟨h,.refl _ _ _⟩,fun _ _ _=>rfl,fun _ _ h=>h,fun _ _ _ _ _ h=>⟨h,.refl _ _ _⟩,.refl _⟩ (Below.refl _ _) (fun d _=>?_) rfl (fun _ _ h=>.inl h)
 exact mB.mono (fun _ _ h=>⟨h,.refl _ _ _⟩) (fun _ _ _=>rfl) (fun _ _ h=>h) (.refl _) (fun _ _ _ _ h=>h.elim)
theorem Inv.bc{e:Env}{a:Act}{w:World}{g:Gh}(hI:Inv gl w0 ay e a w g)(x:Operand):cH w0.heap.size w g (fun _ _ _ _=>False) (bc gl e x).aa (a.eval x):=by
 cases x with
 |tmp t=>
  simp only[Ab.bc,Act.eval,List.getD_eq_getElem?_getD]
  cases h:e.an[t]? with
  |none=>exact .v _ _ _ (.undef _ _)
  |some s=>exact(hI.an t s h).aa
 |const v=>
  simp only[Ab.bc,Act.eval]
  cases h:D4 v with
  |none=>exact .v _ _ _ (.undef _ _)
  |some d=>exact .v _ _ _ (.d _ _ _ (VO h))
 |func f=>exact .v _ _ _ (.d _ _ _ (.fn _))
 |global n=>
  simp only[Ab.bc,Act.eval]
  cases h:gl n with
  |none=>exact .v _ _ _ (.undef _ _)
  |some x=>
   obtain⟨h0,vs,h1,h2⟩:=hI.jK n x h
   exact .v _ _ _ (.aA _ x 0 n 0 vs h0 (by simpa using h1) h2)
end
end Go.Proofs.YtaknajjmldngiaaGreat.Ab
namespace Go.Proofs.YtaknajjmldngiaaGreat.Ab
open Go Go.RowKit
def tF(lo:Nat)(w:World)(St:Nat→Nat→Prop)(ow:Nat→Option Nat)(j:Nat)(b a c:Nat):Prop:=
 ow b=some j∧lo≤b∧(∃cur e,w.heap[b]? =some (.cells cur e (0,0))∧cur.size=c)∧∀o,a≤o→¬St b o
def rO(lo:Nat)(w:World)(St:Nat→Nat→Prop)(ow:Nat→Option Nat)(r:SV)(v:Value):Prop:=match r with
 | .cR rs=>∃vs,v=.tuple vs∧rs.length=vs.size∧∀(j:Nat)x y,rs[j]? =some x→vs[j]? =some y→bd w St 0 (tF lo w St ow j) x y
 |r=>bd w St 0 (tF lo w St ow 0) r v
def gH(P:Program)(f:FuncId):Prop:=∀(args:Array Value)(w:World),(callFunc f args).run P w=.ok (.enter f args) w
def aF(P:Program)(gl:Nat→Option D):aP:=fun f args r=>gH P f∧
 ∀(w:World)(St:Nat→Nat→Prop)(vs:Array Value),(∀b o,St b o→b<w.heap.size)→vk gl w St→args.length=vs.size→
  (∀(i:Nat)x v,args[i]? =some x→vs[i]? =some v→bd w St w.heap.size (fun _ _ _=>False) x v)→
  Calls P f vs w fun e w'=>∃v,e=.returned v∧Below w.heap.size w w'∧∃cK ow,(∀b o,St b o→cK b o)∧(∀b o,cK b o→St b o∨(w.heap.size≤b∧b<w'.heap.size))∧
   rO w.heap.size w' cK ow r v
section
variable{P:Program}{gl:Nat→Option D}{w0:World}{ay:S0}{e:Env}{a:Act}{w:World}{g:Gh}
theorem aK{α:Type}{o:Option α}{k:α→Prop}(h:ab o k):∃x,o=some x∧k x:=by
 cases o with
 |none=>exact h.elim
 |some x=>exact⟨x,rfl,h⟩
theorem yr{x:SV}{A B:Prop}(h:ai x A B):∃b,x=.d (.bool b)∧(b=true→A)∧(b=false→B):=by
 unfold ai at h
 split at h
 ·rename_i c
  refine⟨c,rfl,?_,?_⟩<;>rintro rfl<;>exact h
 ·exact h.elim
theorem Inv.pF(hI:Inv gl w0 ay e a w g){x:Operand}{s:SV}(h:(Ab.bc gl e x).aa =.v s):bd w g.St w0.heap.size (fun _ _ _=>False) s (a.eval x):=by
 have:=hI.bc x
 rw[h]at this
 cases this with
 |v _ _ _ h=>exact h
theorem Inv.gX(hI:Inv gl w0 ay e a w g)(x:Operand):bd w g.St w0.heap.size (fun _ _ _=>False) ((Ab.bc gl e x).aa).bu (a.eval x):=by
 have:=hI.bc x
 cases h:(Ab.bc gl e x).aa with
 |v s=>exact hI.pF h
 |_=>exact .undef _ _
theorem bd.data{St:Nat→Nat→Prop}{base:Nat}{O:Nat→Nat→Nat→Prop}{x:D}{v:Value}(h:bd w St base O (.d x) v):bj w St x v:=by
 cases h with
 |d _ _ _ h=>exact h
abbrev bI(P:Program)(gl:Nat→Option D)(w0:World)(ay:S0)(an:List Slot)(o:Oper)(a:Act)(w:World)(k:Slot→List af→Prop):Prop:=
 ∀(next:Act→World→Prop)(Q:Exit→Act→World→Prop),
  (∀s v au w' g',Inv gl w0 ay ⟨cz an o.dst s,au⟩ (a.put o.dst v) w' g'→k s au→next (a.put o.dst v) w')→o.wp P a w next Q
theorem bI.value(hI:Inv gl w0 ay e a w g){o:Oper}{v:Value}{s:Slot}{k:Slot→List af→Prop}(bz:(execOp a.eval o).run P w=.ok (.value v) w)
  (hr:cH w0.heap.size w g (fun _ _ _ _=>False) s v)(hk:k s e.boxes):bI P gl w0 ay e.an o a w k:=by
 intro next Q hn
 unfold Oper.wp
 rw[bz]
 exact hn s v _ _ _ (hI.value hr) hk
theorem bI.fm(hI:Inv gl w0 ay e a w g){o:Oper}{v:Value}{s:SV}{k:Slot→List af→Prop}(bz:(execOp a.eval o).run P w=.ok (.value v) w)
  (hr:bd w g.St w0.heap.size (fun _ _ _=>False) s v)(hk:k (.v s) e.boxes):bI P gl w0 ay e.an o a w k:=
 bI.value hI bz (.v _ _ _ hr) hk
theorem wi(k:IntKind)(n:Int):gv k (k.wrap n)=true:=by
 have hp:(0:Int)<2^k.bits:=Int.pow_pos (by decide)
 have h1:=Int.emod_nonneg n (Int.ne_of_gt hp)
 have h2:=Int.emod_lt_of_pos n hp
 simp only[gv,Bool.and_eq_true,decide_eq_true_eq,IntKind.min,IntKind.max,IntKind.wrap]
 cases k<;>simp only[IntKind.bits,IntKind.signed]at* <;>(try split)<;>simp_all<;>omega
theorem CH{k:IntKind}{n:Int}:gv k n=true↔k.min≤n∧n≤k.max:=by simp[gv]
theorem Yf{k:IntKind}{x y:Int}(hx:gv k x=true)(hy:gv k y=true):gv k (x.tmod y)=true:=by
 rw[CH]at*
 have h1:(x.tmod y).natAbs ≤x.natAbs:=by
  rw[Int.natAbs_tmod]
  exact Nat.mod_le _ _
 have h2:0≤x→0≤x.tmod y:=fun h=>Int.tmod_nonneg y h
 have h3:x≤0→x.tmod y≤0:=fun h=>by
  have:=Int.tmod_nonneg (a:= -x) y (by omega)
  rw[Int.neg_tmod]at this
  omega
 have hm:k.min≤0∧0≤k.max:=by cases k<;>simp[IntKind.min,IntKind.max,IntKind.signed,IntKind.bits]
 constructor
 ·rcases Int.le_total 0 x with h|h
  ·have:=h2 h;omega
  ·have:=h3 h;omega
 ·rcases Int.le_total 0 x with h|h
  ·have:=h2 h;omega
  ·have:=h3 h;omega
theorem Yg{k:IntKind}{x:Int}(hx:gv k x=true)(n:Nat):gv k (x.fdiv (2^n))=true:=by
 rw[CH]at*
 have hp:(0:Int)<2^n:=Int.pow_pos (by decide)
 rw[Int.fdiv_eq_ediv_of_nonneg _ (Int.le_of_lt hp)]
 have hm:k.min≤0∧0≤k.max:=by cases k<;>simp[IntKind.min,IntKind.max,IntKind.signed,IntKind.bits]
 constructor
 ·rcases Int.le_total 0 x with h|h
  ·have:=Int.ediv_nonneg h (Int.le_of_lt hp);omega
  ·have:x≤x / 2^n:=by
    have h1:=Int.mul_ediv_add_emod x (2^n)
    have h2:=Int.emod_nonneg x (Int.ne_of_gt hp)
    have h4:x / 2^n≤0:=by
     rcases Int.lt_or_le 0 (x / 2^n)with hh|hh
     ·have h5:2^n*1≤2^n*(x / 2^n):=Int.mul_le_mul_of_nonneg_left (by omega) (Int.le_of_lt hp)
      omega
     ·exact hh
    have h3:(2^n-1)*(x / 2^n)≤0:=Int.mul_nonpos_of_nonneg_of_nonpos (by omega) h4
    have h6:x=x / 2^n+((2^n-1)*(x / 2^n)+x % 2^n):=by
     rw[Int.sub_mul,Int.one_mul];omega
    have h7:=Int.emod_lt_of_pos x hp
    rcases Int.lt_or_le (x / 2^n) x with aV|hle
    ·exfalso
     have h8:2^n*(x / 2^n)≤2^n*(x-1):=Int.mul_le_mul_of_nonneg_left (by omega) (Int.le_of_lt hp)
     have h9:(2^n)*(x-1)≤1*(x-1):=by
      have:0≤(2^n-1)*(1-x):=Int.mul_nonneg (by omega) (by omega)
      rw[Int.sub_mul,Int.mul_sub,Int.mul_sub]at this
      rw[Int.mul_sub]
      omega
     have xi:2^n*(x / 2^n)+2^n≤2^n*x:=by
      have:2^n*(x-1)=2^n*x-2^n:=by rw[Int.mul_sub,Int.mul_one]
      omega
     have BW:2^n*x≤x:=by
      have:0≤(2^n-1)*(-x):=Int.mul_nonneg (by omega) (by omega)
      rw[Int.sub_mul,Int.mul_neg,Int.mul_neg]at this
      omega
     omega
    ·exact hle
   omega
 ·rcases Int.le_total 0 x with h|h
  ·have:x / 2^n≤x:=Int.ediv_le_self _ h
   omega
  ·have:x / 2^n≤0:=by
    rcases Int.lt_or_le 0 (x / 2^n)with hh|hh
    ·have h1:=Int.mul_ediv_add_emod x (2^n)
     have h2:=Int.emod_nonneg x (Int.ne_of_gt hp)
     have h5:2^n*1≤2^n*(x / 2^n):=Int.mul_le_mul_of_nonneg_left (by omega) (Int.le_of_lt hp)
     omega
    ·exact hh
   omega
theorem UU{op:BinOp}{k:IntKind}{x y:Int}{r:D}(t:TypeId)(gC:op≠.shl ∧op≠.shr)(hx:gv k x=true)(hy:gv k y=true)(h:gp op k x y=some r):
  ∃v,(binOp op t (.int k x) (.int k y)).run P w=.ok v w∧bj w g.St r v:=by
 cases op<;>simp only[gp,Option.some.injEq,reduceCtorEq]at h<;>(try (exact absurd rfl gC.1))<;>(try (exact absurd rfl gC.2))
 case quo=>
  split at h
  ·cases h
  ·rename_i qI
   cases h
   exact⟨_,by simp[binOp,Op.intDiv,qI],.int _ _ (wi _ _)⟩
 case rem=>
  split at h
  ·cases h
  ·rename_i qI
   cases h
   exact⟨_,by simp[binOp,Op.intDiv,qI],.int _ _ (Yf hx hy)⟩
 all_goals (subst h)
 case add|sub|mul=>exact⟨_,by simp[binOp,Op.intArith],.int _ _ (wi _ _)⟩
 case and|or|xor|andNot=>exact⟨_,by simp[binOp,Op.intBits],.int _ _ (wi _ _)⟩
 all_goals exact⟨_,by simp[binOp,Op.intCmp],.bool _⟩
theorem Lx{op:BinOp}{k k':IntKind}{x y:Int}{r:D}(t:TypeId)(gC:op=.shl ∨op=.shr)(hx:gv k x=true)(h:vb op k x y=some r):
  ∃v,(binOp op t (.int k x) (.int k' y)).run P w=.ok v w∧bj w g.St r v:=by
 unfold vb at h
 split at h
 ·cases h
 ·rename_i hy
  rcases gC with rfl|rfl
  ·simp only[Option.some.injEq]at h;subst h
   exact⟨_,by simp[binOp,Op.shift,hy],.int _ _ (wi _ _)⟩
  ·simp only[Option.some.injEq]at h;subst h
   exact⟨_,by simp[binOp,Op.shift,hy],.int _ _ (Yg hx _)⟩
theorem Lj:∀(x y:List UInt8),Op.bytesLess x y=wz x y
 |_,[]=>by cases ‹List UInt8› <;>rfl
 |[],_::_=>rfl
 |a::x,b::y=>by simp only[Op.bytesLess,wz,Lj x y]
theorem UW{op:BinOp}{x y:ByteArray}{r:D}(t:TypeId)(h:AS op x.data.toList y.data.toList=some r):
  ∃v,(binOp op t (.string x) (.string y)).run P w=.ok v w∧bj w g.St r v:=by
 have hx:=ByteArray.toList_eq x
 have hy:=ByteArray.toList_eq y
 cases op<;>simp only[AS,Option.some.injEq,reduceCtorEq]at h
 case add=>
  split at h
  ·rename_i hl
   cases h
   have e:(x++y).data.toList =x.data.toList++y.data.toList:=by simp
   have fU:x.size+y.size≤maxLen:=by rw[Array.length_toList,Array.length_toList]at hl;exact hl
   refine⟨.string (x++y),?_,?_⟩
   ·have hM:((maxLen:Nat):Int)=IntKind.i64.max:=by decide
    have:¬(((x.size+y.size:Nat):Int)>IntKind.i64.max):=by
     rw[←hM]
     omega
    simp only[binOp,Op.stringOp]
    rw[if_neg this]
    rfl
   ·rw[←e]
    refine .str _ ?_
    rw[ByteArray.size_append]
    exact fU
  ·cases h
 all_goals (subst h;exact⟨_,by simp[binOp,Op.stringOp,hx,hy,Lj],.bool _⟩)
end
end Go.Proofs.YtaknajjmldngiaaGreat.Ab
namespace Go.Proofs.YtaknajjmldngiaaGreat.Ab
open Go Go.RowKit
section
variable{P:Program}{gl:Nat→Option D}{w0:World}{ay:S0}{e:Env}{a:Act}{w:World}{g:Gh}
theorem rv:∀{ks:List CK}{xs:List D},dO ks xs=true→xs.length=ks.length
 |[],[],_=>rfl
 |[],_::_,h=>by simp[dO]at h
 |k::ks,[],h=>by cases k<;>simp[dO]at h
 |k::ks,x::xs,h=>by
  cases k<;>cases x<;>simp only[dO,Bool.false_eq_true]at h<;>simp[rv h]
theorem yd:∀{ks ls:List CK}{xs:List D},dO (ks++ls) xs=true→dO ks (xs.take ks.length)=true∧dO ls (xs.drop ks.length)=true
 |[],ls,xs,h=>by simpa[dO]using h
 |k::ks,ls,[],h=>by cases k<;>simp[dO]at h
 |k::ks,ls,x::xs,h=>by
  cases k<;>cases x<;>simp only[List.cons_append,dO,Bool.false_eq_true]at h<;>simpa[dO]using yd h
theorem FH:∀(xs ys xj xk:List D),xs.length=ys.length→eW (xs++xj) (ys++xk)=(match eW xs ys with
  |some b=>(match eW xj xk with|some c=>some (b&&c)|none=>none)|none=>none)
 |[],[],xj,xk,_=>by
  simp only[List.nil_append,eW]
  cases eW xj xk<;>simp
 |x::xs,y::ys,xj,xk,h=>by
  simp only[List.cons_append,eW]
  rw[FH xs ys xj xk (by simpa using h)]
  cases jG x y<;>simp
  cases eW xs ys<;>simp
  cases eW xj xk<;>simp[Bool.and_assoc]
 |[],_::_,_,_,h=>by simp at h
 |_::_,[],_,_,h=>by simp at h
def j9(w:World)(St:Nat→Nat→Prop)(xs:List D)(vs:Array Value):Prop:=
 xs.length=vs.size∧∀(i:Nat)x v,xs[i]? =some x→vs[i]? =some v→bj w St x v
theorem j9.agg{w:World}{St:Nat→Nat→Prop}{xs:List D}{vs:Array Value}(h:j9 w St xs vs)(hf:∀d∈xs,d.one=true):bj w St (.agg xs) (.agg vs):=.agg xs vs hf h.1 h.2
theorem j9.extract{w:World}{St:Nat→Nat→Prop}{xs:List D}{vs:Array Value}(h:j9 w St xs vs)(off n:Nat):
  j9 w St ((xs.drop off).take n) (vs.extract off (off+n)):=by
 refine⟨by simp[h.1];omega,fun i x v hx hv=>?_⟩
 rw[List.getElem?_take]at hx
 split at hx
 ·rename_i hi
  rw[List.getElem?_drop]at hx
  rw[Array.getElem?_extract]at hv
  split at hv
  ·exact h.2 (off+i) x v hx hv
  ·cases hv
 ·cases hx
theorem j1{t:TypeId}{n:Nat}(h:dm P t=some n)(w:World):(sizeOf t).run P w=.ok n w:=by
 unfold dm at h
 split at h
 ·rename_i i hi
  cases h
  simp[sizeOf,typeInfo,hi]
 ·cases h
theorem Mo{t:TypeId}{b:Bool}(h:dh P t=some b)(w:World):(isAgg t).run P w=.ok b w:=by
 unfold dh at h
 split at h
 ·rename_i fs hu;cases h;simp[isAgg,run_underlying hu]
 ·rename_i n e' hu;cases h;simp[isAgg,run_underlying hu]
 ·rename_i d h1 h2 hu
  cases h
  simp only[isAgg,Sem.run_bind,run_underlying hu,Result.andThen_ok]
  cases d<;>first|rfl|(exact absurd hu (h1 _))|(exact absurd hu (h2 _ _))
 ·cases h
theorem Dv{t:TypeId}{b:Bool}{n:Nat}(h:gy P t=some (b,n)):dh P t=some b∧dm P t=some n∧(b=false→n=1):=by
 unfold gy at h
 split at h
 ·rename_i b' hb
  split at h
  ·rename_i i hi
   cases hc:(b'||Nat.beq i.size 1)with
   |false=>rw[hc]at h;cases h
   |true=>
    rw[hc]at h
    cases h
    refine⟨hb,by simp[dm,hi],fun hf=>?_⟩
    subst hf
    exact Nat.eq_of_beq_eq_true (by simpa using hc)
  ·cases h
 ·cases h
theorem WX{t:TypeId}{b:Bool}{n:Nat}(hb:dh P t=some b)(hn:dm P t=some n)(cs:Array Value)(off:Nat)(w:World):
  (part t cs off).run P w=if b then .ok (.agg (cs.extract off (off+n))) w else(match cs[off]? with|some v=>.ok v w|none=>.halt (.stuck "part: no such cell") w):=by
 unfold part
 simp only[Sem.run_bind,Mo hb,Result.andThen_ok]
 cases b
 ·simp only[Bool.false_eq_true,if_false]
  cases cs[off]? <;>rfl
 ·simp[j1 hn]
def gY(w:World)(St:Nat→Nat→Prop)(b:Bool)(xs:List D)(v:Value):Prop:=
 if b then ∃cs,v=.agg cs∧j9 w St xs cs else ∃x,xs=[x]∧bj w St x v
theorem z8{f:Nat}{t:TypeId}{ks:List CK}(h:shapeOf P f t=some ks):dm P t=some ks.length∧
  ((dh P t=some false∧ks.length=1)∨dh P t=some true):=by
 cases f with
 |zero=>simp[shapeOf]at h
 |succ f=>
  rw[shapeOf]at h
  split at h
  ·rename_i hu;split at h<;>cases h;rename_i hs;exact⟨hs,.inl ⟨by simp[dh,hu],rfl⟩⟩
  ·rename_i hu;split at h<;>cases h;rename_i hs;exact⟨hs,.inl ⟨by simp[dh,hu],rfl⟩⟩
  ·rename_i hu;split at h<;>cases h;rename_i hs;exact⟨hs,.inl ⟨by simp[dh,hu],rfl⟩⟩
  ·rename_i n e' hu
   split at h
   ·rename_i mN gD
    split at h
    ·rename_i s hs
     cases hc:Nat.beq s (n*mN.length)with
     |true=>
      rw[hc]at h;cases h
      have:(vc mN n).length =n*mN.length:=by
       clear hc hu hs
       induction n with
       |zero=>simp[vc]
       |succ n ih=>simp[vc,ih,Nat.succ_mul];omega
      have h2:=Nat.eq_of_beq_eq_true hc
      exact⟨by rw[hs,this,h2],.inr (by simp[dh,hu])⟩
     |false=>rw[hc]at h;cases h
    ·cases h
   ·cases h
  ·rename_i fs hu
   cases b4:P.stoodInHeld t with
   |true=>rw[b4]at h;cases h
   |false=>
    rw[b4]at h
    simp only[cond_false]at h
    split at h
    ·rename_i mN gD
     split at h
     ·rename_i s hs
      cases hc:Nat.beq s mN.length with
      |true=>
       rw[hc]at h;cases h
       have h2:=Nat.eq_of_beq_eq_true hc
       exact⟨by rw[hs,h2],.inr (by simp[dh,hu])⟩
      |false=>rw[hc]at h;cases h
     ·cases h
    ·cases h
  ·cases h
theorem j9.valOf{xs:List D}{vs:Array Value}(h:j9 w g.St xs vs){t:TypeId}{b:Bool}{n off:Nat}(hb:dh P t=some b)(hn:dm P t=some n)
  (h1:b=false→n=1)(hle:off+n≤xs.length):∃v,(part t vs off).run P w=.ok v w∧gY w g.St b ((xs.drop off).take n) v:=by
 rw[WX hb hn]
 cases b with
 |true=>exact⟨_,by simp;rfl,by simp only[gY,if_true];exact⟨_,rfl,h.extract off n⟩⟩
 |false=>
  have lA:=h1 rfl
  subst lA
  have aV:off<xs.length:=by omega
  have zj:off<vs.size:=by rw[←h.1];exact aV
  refine⟨vs[off],by simp[zj],?_⟩
  simp only[gY,Bool.false_eq_true,if_false]
  refine⟨xs[off],?_,h.2 off _ _ (by simp) (by simp)⟩
  rw[List.drop_eq_getElem_cons aV,List.take_succ_cons,List.take_zero]
theorem KX(d:Nat)(go:TypeId→Option (List CK))(aQ:∀t ks,go t=some ks→dm P t=some ks.length∧((dh P t=some false∧ks.length=1)∨dh P t=some true))
  (ih:∀(t:TypeId)(ks:List CK)(b:Bool)(xs ys:List D)(vx vy:Value)(r:Bool),go t=some ks→dh P t=some b→
    dO ks xs=true→dO ks ys=true→gY w g.St b xs vx→gY w g.St b ys vy→eW xs ys=some r→(Op.equalIn d t vx vy).run P w=.ok r w)
  {xs ys:List D}{cx cy:Array Value}(rx:j9 w g.St xs cx)(ry:j9 w g.St ys cy):∀(fs:List Field)(off:Nat)(ks:List CK)(r:Bool),yc go fs off=some ks→off≤xs.length→off≤ys.length→
   dO ks (xs.drop off)=true→dO ks (ys.drop off)=true→eW (xs.drop off) (ys.drop off)=some r→(Op.eqFields d cx cy fs).run P w=.ok r w
 |[],off,ks,r,h,_,_,hx,hy,he=>by
  simp only[yc,Option.some.injEq]at h
  subst h
  have h1:=rv hx
  have h2:=rv hy
  rw[List.eq_nil_of_length_eq_zero h1,List.eq_nil_of_length_eq_zero h2]at he
  simp only[eW,Option.some.injEq]at he
  subst he
  rfl
 |f::fs,off,ks,r,h,hox,hoy,hx,hy,he=>by
  simp only[yc]at h
  split at h
  ·rename_i kf EP
   cases hc:(f.name != "_" &&Nat.beq f.offset off)with
   |false=>rw[hc]at h;cases h
   |true=>
    rw[hc]at h
    simp only[cond_true]at h
    split at h
    ·rename_i kr Jz
     cases h
     simp only[Bool.and_eq_true,bne_iff_ne,ne_eq]at hc
     have tG:=Nat.eq_of_beq_eq_true hc.2
     obtain⟨gi,pG⟩:=yd hx
     obtain⟨xl,xm⟩:=yd hy
     obtain⟨hs,xn⟩:=aQ _ _ EP
     have lx:=rv hx
     have ly:=rv hy
     simp only[List.length_drop,List.length_append]at lx ly
     rw[←List.take_append_drop kf.length (xs.drop off),←List.take_append_drop kf.length (ys.drop off),
      FH _ _ _ _ (by simp;omega)]at he
     split at he
     ·rename_i b1 pH
      split at he
      ·rename_i b2 pI
       cases he
       have rest:=KX d go aQ ih rx ry fs (off+kf.length) kr b2 Jz (by omega) (by omega) (by rw[List.drop_drop]at pG;exact pG) (by rw[List.drop_drop]at xm;exact xm)
        (by rw[List.drop_drop,List.drop_drop]at pI;exact pI)
       obtain⟨b,hb,h1⟩:∃b,dh P f.type=some b∧(b=false→kf.length=1):=by
        rcases xn with⟨h1,h2⟩|h1
        ·exact⟨false,h1,fun _=>h2⟩
        ·exact⟨true,h1,by simp⟩
       obtain⟨vx,px,qx⟩:=rx.valOf (off:=f.offset) hb hs h1 (by omega)
       obtain⟨vy,py,qy⟩:=ry.valOf (off:=f.offset) hb hs h1 (by omega)
       rw[tG]at qx qy
       have hq:=ih f.type kf b _ _ vx vy b1 EP hb gi xl qx qy pH
       simp only[Op.eqFields,if_pos hc.1,Sem.run_bind,px,py,hq,Result.andThen_ok]
       cases b1
       ·simp
       ·simpa using rest
      ·cases he
     ·cases he
    ·cases h
  ·cases h
theorem K6(d:Nat)(t:TypeId)(ks:List CK)(b:Bool)(hb:dh P t=some b)(hs:dm P t=some ks.length)(h1:b=false→ks.length=1)
  (ih:∀(xs ys:List D)(vx vy:Value)(r:Bool),dO ks xs=true→dO ks ys=true→gY w g.St b xs vx→gY w g.St b ys vy→eW xs ys=some r→
    (Op.equalIn d t vx vy).run P w=.ok r w)
  {xs ys:List D}{cx cy:Array Value}(rx:j9 w g.St xs cx)(ry:j9 w g.St ys cy):∀(n i:Nat)(r:Bool),dO (vc ks n) (xs.drop (i*ks.length))=true→
   dO (vc ks n) (ys.drop (i*ks.length))=true→eW (xs.drop (i*ks.length)) (ys.drop (i*ks.length))=some r→
   (Op.eqItems d t ks.length cx cy (List.range' i n)).run P w=.ok r w
 |0,i,r,hx,hy,he=>by
  rw[List.eq_nil_of_length_eq_zero (rv hx),List.eq_nil_of_length_eq_zero (rv hy)]at he
  simp only[eW,Option.some.injEq]at he
  subst he
  rfl
 |n+1,i,r,hx,hy,he=>by
  simp only[vc]at hx hy
  obtain⟨gi,pG⟩:=yd hx
  obtain⟨xl,xm⟩:=yd hy
  have lx:=rv hx
  have ly:=rv hy
  simp only[List.length_drop,List.length_append]at lx ly
  rw[←List.take_append_drop ks.length (xs.drop (i*ks.length)),←List.take_append_drop ks.length (ys.drop (i*ks.length)),
   FH _ _ _ _ (by simp;omega)]at he
  split at he
  ·rename_i b1 pH
   split at he
   ·rename_i b2 pI
    cases he
    have e:i*ks.length+ks.length=(i+1)*ks.length:=by rw[Nat.succ_mul]
    have rest:=K6 d t ks b hb hs h1 ih rx ry n (i+1) b2 (by rw[List.drop_drop,e]at pG;exact pG) (by rw[List.drop_drop,e]at xm;exact xm)
     (by rw[List.drop_drop,List.drop_drop,e]at pI;exact pI)
    by_cases hz:ks.length=0∧xs.length<i*ks.length
    ·rw[hz.1]at hz;omega
    have kx:i*ks.length+ks.length≤xs.length:=by
     by_cases h0:ks.length=0
     ·rw[h0];omega
     ·omega
    have ky:i*ks.length+ks.length≤ys.length:=by
     by_cases h0:ks.length=0
     ·rw[h0];omega
     ·omega
    obtain⟨vx,px,qx⟩:=rx.valOf (off:=i*ks.length) hb hs h1 kx
    obtain⟨vy,py,qy⟩:=ry.valOf (off:=i*ks.length) hb hs h1 ky
    have hq:=ih _ _ vx vy b1 gi xl qx qy pH
    simp only[List.range'_succ,Op.eqItems,Sem.run_bind,px,py,hq,Result.andThen_ok]
    cases b1
    ·simp
    ·simpa using rest
   ·cases he
  ·cases he
theorem FO:∀(f d:Nat)(t:TypeId)(ks:List CK)(b:Bool)(xs ys:List D)(vx vy:Value)(r:Bool),shapeOf P f t=some ks→f≤d→dh P t=some b→
  dO ks xs=true→dO ks ys=true→gY w g.St b xs vx→gY w g.St b ys vy→eW xs ys=some r→(Op.equalIn d t vx vy).run P w=.ok r w:=by
 intro f
 induction f with
 |zero=>intro d t ks b xs ys vx vy r h;simp[shapeOf]at h
 |succ f ih=>
  intro d t ks b xs ys vx vy r aY hd hb hx hy rx ry he
  obtain⟨d,rfl⟩:∃d',d=d'+1:=⟨d-1,by omega⟩
  have aQ:=z8 aY
  rw[shapeOf]at aY
  split at aY
  ·
   rename_i hu
   split at aY<;>cases aY
   have:b=false:=by simpa[dh,hu]using hb.symm
   subst this
   simp only[gY,Bool.false_eq_true,if_false]at rx ry
   obtain⟨x,rfl,rx⟩:=rx
   obtain⟨y,rfl,ry⟩:=ry
   cases x<;>simp[dO]at hx
   cases y<;>simp[dO]at hy
   cases rx;cases ry
   rw[run_equalIn_bool' w d t _ _ hu]
   simp[eW,jG]at he
   rw[←he]
  ·rename_i k hu
   split at aY<;>cases aY
   have:b=false:=by simpa[dh,hu]using hb.symm
   subst this
   simp only[gY,Bool.false_eq_true,if_false]at rx ry
   obtain⟨x,rfl,rx⟩:=rx
   obtain⟨y,rfl,ry⟩:=ry
   cases x<;>simp[dO]at hx
   cases y<;>simp[dO]at hy
   rename_i k1 n1 k2 n2
   cases rx;cases ry
   by_cases hk:k1=k2
   ·subst hk
    rw[run_equalIn_int w d t _ k _ _ hu]
    simp[eW,jG]at he
    rw[←he]
   ·simp[eW,jG,hk]at he
  ·rename_i hu
   split at aY<;>cases aY
   have:b=false:=by simpa[dh,hu]using hb.symm
   subst this
   simp only[gY,Bool.false_eq_true,if_false]at rx ry
   obtain⟨x,rfl,rx⟩:=rx
   obtain⟨y,rfl,ry⟩:=ry
   cases x<;>simp[dO]at hx
   cases y<;>simp[dO]at hy
   cases rx with|str s1 _=>
   cases ry with|str s2 _=>
   rw[run_equalIn_string w d t _ _ hu]
   rw[ByteArray.toList_eq,ByteArray.toList_eq]
   simp only[eW,jG,Bool.and_true,Option.some.injEq]at he
   rw[←he]
  ·
   rename_i n e' hu
   split at aY
   ·rename_i mN gD
    split at aY
    ·rename_i s hs
     cases hc:Nat.beq s (n*mN.length)with
     |false=>rw[hc]at aY;cases aY
     |true=>
      rw[hc]at aY;cases aY
      have:b=true:=by simpa[dh,hu]using hb.symm
      subst this
      simp only[gY,if_true]at rx ry
      obtain⟨cx,rfl,rx⟩:=rx
      obtain⟨cy,rfl,ry⟩:=ry
      obtain⟨BX,xn⟩:=z8 gD
      obtain⟨b,eK,h1⟩:∃b,dh P e'=some b∧(b=false→mN.length=1):=by
       rcases xn with⟨h1,h2⟩|h1
       ·exact⟨false,h1,fun _=>h2⟩
       ·exact⟨true,h1,by simp⟩
      obtain⟨i,hi,his⟩:∃i,P.info? e'=some i∧P.cellsOf e'=mN.length:=by
       unfold dm at BX
       split at BX
       ·rename_i i hi;exact⟨i,hi,by simpa[Program.cellsOf,hi]using BX⟩
       ·cases BX
      rw[run_equalIn_array w d _ _ hu hi,his,List.range_eq_range']
      exact K6 d e' mN b eK BX h1 (fun xs ys vx vy r=>ih d e' mN b xs ys vx vy r gD (by omega) eK) rx ry n 0 r (by simpa using hx) (by simpa using hy) (by simpa using he)
    ·cases aY
   ·cases aY
  ·
   rename_i fs hu
   cases b4:P.stoodInHeld t with
   |true=>rw[b4]at aY;cases aY
   |false=>
    rw[b4]at aY
    simp only[cond_false]at aY
    split at aY
    ·rename_i mN gD
     split at aY
     ·rename_i s hs
      cases hc:Nat.beq s mN.length with
      |false=>rw[hc]at aY;cases aY
      |true=>
       rw[hc]at aY;cases aY
       have:b=true:=by simpa[dh,hu]using hb.symm
       subst this
       simp only[gY,if_true]at rx ry
       obtain⟨cx,rfl,rx⟩:=rx
       obtain⟨cy,rfl,ry⟩:=ry
       have zF:P.fieldsOf t=fs:=by simp[Program.fieldsOf,hu]
       rw[run_equalIn_struct w d t _ _ (by rw[zF];exact hu) b4,zF]
       exact KX d (shapeOf P f) (fun t ks h=>z8 h) (fun t ks b xs ys vx vy r h=>ih d t ks b xs ys vx vy r h (by omega)) rx ry fs.toList 0 _ r gD (Nat.zero_le _) (Nat.zero_le _) (by simpa using hx) (by simpa using hy) (by simpa using he)
     ·cases aY
    ·cases aY
  ·cases aY
end
end Go.Proofs.YtaknajjmldngiaaGreat.Ab
namespace Go.Proofs.YtaknajjmldngiaaGreat.Ab
open Go Go.RowKit
theorem n8(b o n:Nat):(⟨b,o,none⟩:Addr).add n=⟨b,o+n,none⟩:=by unfold Addr.add;split<;>simp_all
section
variable{P:Program}{gl:Nat→Option D}{w0:World}{ay:S0}{e:Env}{a:Act}{w:World}{g:Gh}
theorem iQ(w:World)(o:Obj)(b:Nat)(h:b<w.heap.size):(w.alloc o).heap[b]? =w.heap[b]? :=by
 show(w.heap.push o)[b]? =_
 rw[Array.getElem?_push,if_neg (Nat.ne_of_lt h)]
theorem uW(w:World)(o:Obj):(w.alloc o).heap[w.heap.size]? =some o:=by
 show(w.heap.push o)[w.heap.size]? =_
 simp
theorem Ag(w:World)(o:Obj):(w.alloc o).heap.size =w.heap.size+1:=by
 show(w.heap.push o).size =_
 simp
theorem FI(w:World)(o:Obj)(b off:Nat)(h:b<w.heap.size):(w.alloc o).cell? ⟨b,off,none⟩=w.cell? ⟨b,off,none⟩:=
 World.cell?_of_block (iQ w o b h)
theorem Inv.nH(hI:Inv gl w0 ay e a w g){b o:Nat}(h:g.St b o):b<w.heap.size:=(hI.cP b o h).2.2
theorem ga.lt{base:Nat}{p:Pos}{b a c:Nat}(h:ga base w g p b a c):b<w.heap.size:=by
 obtain⟨_,_,_,⟨cur,e,h,_⟩,_⟩:=h
 exact(Array.getElem?_eq_some_iff.1 h).1
theorem bI.Ow(hI:Inv gl w0 ay e a w g){o:Oper}{ob:Obj}{bx:af}{id:Nat}{sl:Slot}{vl:Value}{k:Slot→List af→Prop}
  (fj:e.boxes[id]? =some .none)
  (bz:(execOp a.eval o).run P w=.ok (.value vl) (w.alloc ob))
  (jb:∀(g':Gh)(O:Nat→Nat→Nat→Nat→Prop),g'.bx[id]? =some (some w.heap.size)→cH w0.heap.size (w.alloc ob) g' O sl vl)
  (rep:∀(g':Gh),Ext w0.heap.size w g (w.alloc ob) g' (fun _=>False)→w0.heap.size≤w.heap.size→nG w0.heap.size (w.alloc ob) g' id bx w.heap.size)
  (hk:k sl (e.boxes.set id bx)):bI P gl w0 ay e.an o a w k:=by
 intro next Q hn
 unfold Oper.wp
 rw[bz]
 have hle:w0.heap.size≤w.heap.size:=hI.below.size
 have Iy:id<e.boxes.length:=(List.getElem?_eq_some_iff.1 fj).1
 have aeA:∀ao,g.bx[id]? ≠some (some ao):=fun ao h=>by
  exact hI.boxes id .none ao fj h
 have eD:∀b,some b∈g.bx.set id (some w.heap.size)→some b∈g.bx∨b=w.heap.size:=fun b h=>by
  rcases List.mem_or_eq_of_mem_set h with h|h
  ·exact .inl h
  ·exact .inr (by simpa using h)
 have hX:Ext w0.heap.size w g (w.alloc ob) {g with bx:=g.bx.set id (some w.heap.size)} (fun _=>False):=by
  refine⟨fun D o hb ho h=>⟨(iQ w _ D (gn h)).trans h,fun hm=>(by
   rcases eD D hm with h2|h2
   ·exact hb h2
   ·have:=gn h;omega),ho,fun _ h=>h⟩,fun b o h=>⟨h,.rA (iQ w _ b (hI.nH h))⟩,fun b o h=>FI w _ b o (by omega),fun i ao h=>?_,fun p b a c _ ho=>?_,.of fun b hb=>iQ w _ b hb⟩
  ·simp only
   rw[List.getElem?_set_ne (fun hh=>aeA ao (by rw[hh];exact h))]
   exact h
  ·have aV:=ho.lt
   obtain⟨h1,h2,h3,⟨cur,ty,h4,kN⟩,h5⟩:=ho
   refine⟨⟨h1,h2,?_,⟨cur,ty,(iQ w _ b aV).trans h4,kN⟩,h5⟩,fun _=>iQ w _ b aV⟩
   intro hm
   rcases eD b hm with h|h
   ·exact h3 h
   ·omega
 refine hn sl _ _ _ {g with bx:=g.bx.set id (some w.heap.size)} (hI.step (lost:=fun p=>∃d j,o.dst=some d∧p=.s d j)
  ⟨hX.df,hX.st,hX.bs,hX.bx,fun p b a c _ ho=>hX.own p b a c (fun h=>h) ho,hX.sh⟩ ((Below.refl _ _).alloc hle _) rfl
  (fun i x hx hd=>⟨x,hx,.inl ⟨rfl,fun j=>?_⟩⟩) ?_ (by simp[hI.fo]) ?_ ?_ ?_ ?_) hk
 ·rintro⟨d,j',h1,h2⟩;cases h2;exact hd h1
 ·intro d _
  refine jb _ _ ?_
  simp only
  rw[List.getElem?_set_self (by rw[hI.fo];exact Iy)]
 ·intro b eL ao h1 h2
  simp only at h2
  by_cases hb:id=b
  ·subst hb
   rw[List.getElem?_set_self Iy]at h1
   rw[List.getElem?_set_self (by rw[hI.fo];exact Iy)]at h2
   simp only[Option.some.injEq]at h1 h2
   subst h1 h2
   exact rep _ hX hle
  ·rw[List.getElem?_set_ne hb]at h1 h2
   have Bl:=(hI.eb ao (List.mem_of_getElem? h2)).2
   exact hX.box (fun _ h=>h) (iQ w _ ao Bl) (hI.boxes b eL ao h1 h2)
 ·intro i j ao h1 h2
  simp only at h1 h2
  rw[List.getElem?_set]at h1 h2
  split at h1<;>split at h2
  ·omega
  ·rename_i hi hj
   split at h1
   ·simp only[Option.some.injEq]at h1
    subst h1
    have:=(hI.eb _ (List.mem_of_getElem? h2)).2
    omega
   ·cases h1
  ·rename_i hi hj
   split at h2
   ·simp only[Option.some.injEq]at h2
    subst h2
    have:=(hI.eb _ (List.mem_of_getElem? h1)).2
    omega
   ·cases h2
  ·exact hI.nodup i j ao h1 h2
 ·intro b hb
  have hs:(w.alloc ob).heap.size =w.heap.size+1:=Ag w _
  rw[hs]
  rcases eD b hb with hb|rfl
  ·have:=hI.eb b hb;omega
  ·omega
 ·intro b o h
  have hs:(w.alloc ob).heap.size =w.heap.size+1:=Ag w _
  have h1:=hI.cP b o h
  refine⟨h1.1,fun hm=>?_,by omega⟩
  rcases eD b hm with h|h
  ·exact h1.2.1 h
  ·omega
theorem bI.DP(hI:Inv gl w0 ay e a w g){o:Oper}{cells:Array Value}{t:TypeId}{bx:af}{id:Nat}{k:Slot→List af→Prop}
  (fj:e.boxes[id]? =some .none)
  (bz:(execOp a.eval o).run P w=.ok (.value (.pointer (some ⟨w.heap.size,0,none⟩))) (w.alloc (.cells cells t)))
  (ct:∀y∈cells,y.oneCell'=true)
  (rep:∀(w':World)(g':Gh)(O:Nat→Nat→Nat→Nat→Prop),Ext w0.heap.size w g w' g' (fun _=>False)→(match(generalizing:=false) bx with
    | .none =>False
    | .map _=>False
    | .cells cs=>cs.length≤cells.size∧∀(j:Nat)x y,cs[j]? =some x→cells[j]? =some y→bd w' g'.St w0.heap.size (O j) x y
    | .one s=>0<cells.size∧∀y,cells[0]? =some y→cH w0.heap.size w' g' (fun _=>O 0) s y))
  (hk:k (.p id 0) (e.boxes.set id bx)):bI P gl w0 ay e.an o a w k:=by
 refine bI.Ow hI fj bz (fun g' O hb=>.p _ _ _ _ hb) (fun g' hX hle=>?_) hk
 have:=rep _ g' (po w0.heap.size (w.alloc (.cells cells t)) g' id) hX
 cases bx with
 |none=>exact this.elim
 |map l=>exact this.elim
 |cells cs=>exact⟨hle,cells,t,uW w _,fun j y _ h=>ct y (Array.mem_of_getElem? h),this⟩
 |one s=>exact⟨hle,cells,t,uW w _,fun j y _ h=>ct y (Array.mem_of_getElem? h),this⟩
theorem Inv.Ox(hI:Inv gl w0 ay e a w g){b ao:Nat}{eL:af}{w':World}{dst:Option Nat}{s:Slot}{v:Value}{an:List Slot}
  (qj tq:Nat→Prop){g':Gh}(jw:g'.St=g.St)(sC:g'.bx=g.bx)
  (qJ:∀p iB,(∀i j,p=.s i j→¬qj i)→(∀j,p=.b b j→¬tq j)→(∀d j,dst=some d→p≠.s d j)→g.ow iB=some p→g'.ow iB=some p)(JA:∀D,g.ow D=none→g'.ow D=none)
  (hb:g.bx[b]? =some (some ao))
  (ee:∀k,k≠ao→w'.heap[k]? =w.heap[k]?)(aY:∀c ty,w.heap[ao]? =some (.cells c ty (0,0))→∃c' tT,w'.heap[ao]? =some (.cells c' tT (0,0))∧c'.size=c.size)(aQ:w'.heap.size=w.heap.size)
  (BY:w'.os=w.os∧w'.tape=w.tape∧w'.output=w.output)
  (hlen:an.length=e.an.length)
  (hs:∀(i:Nat)x,an[i]? =some x→dst≠some i→∃y,e.an[i]? =some y∧((x=y∧¬qj i)∨x=y.aa))
  (rep:Ext w0.heap.size w g w' g' (fun p=>(∃i j,p=.s i j∧qj i)∨(∃j,p=.b b j∧tq j)∨(∃d j,dst=some d∧p=.s d j))→w0.heap.size≤ao→nG w0.heap.size w' g' b eL ao)
  (mB:Ext w0.heap.size w g w' g' (fun p=>(∃i j,p=.s i j∧qj i)∨(∃j,p=.b b j∧tq j)∨(∃d j,dst=some d∧p=.s d j))→
    ∀d,dst=some d→cH w0.heap.size w' g' (gJ w0.heap.size w' g' d) s v):
  Inv gl w0 ay ⟨cz an dst s,e.boxes.set b eL⟩ (a.put dst v) w' g':=by
 have vG:some ao∈g.bx:=List.mem_of_getElem? hb
 have iG:=hI.eb ao vG
 have hX:Ext w0.heap.size w g w' g' (fun p=>(∃i j,p=.s i j∧qj i)∨(∃j,p=.b b j∧tq j)∨(∃d j,dst=some d∧p=.s d j)):=by
  refine⟨fun D o sD ho h=>⟨(ee D (fun e=>sD (by rw[e];exact vG))).trans h,by rw[sC];exact sD,JA D ho,fun x hx=>by rw[jw]at hx;exact hx⟩,fun b' o h=>⟨by rw[jw];exact h,.rA (ee b' ?_)⟩,fun b' o h=>World.cell?_of_block (ee b' (by omega)),fun i x h=>by rw[sC];exact h,?_,fun b' c ty eK=>(by
   by_cases eJ:b'=ao
   ·subst eJ;exact aY c ty eK
   ·exact⟨c,ty,(ee b' eJ).trans eK,rfl⟩)⟩
  ·rintro rfl;exact(hI.cP b' o h).2.1 vG
  ·rintro p b' a' c' hl ⟨h1,h2,h3,⟨cur,ty,h4,kN⟩,h5⟩
   exact⟨⟨qJ p b' (fun i j h fU=>hl (.inl ⟨i,j,h,fU⟩)) (fun j h fU=>hl (.inr (.inl ⟨j,h,fU⟩))) (fun d j h1 h2=>hl (.inr (.inr ⟨d,j,h1,h2⟩))) h1,h2,by rw[sC];exact h3,
    ⟨cur,ty,(ee b' (fun h=>h3 (h▸vG))).trans h4,kN⟩,fun o ho=>by rw[jw];exact h5 o ho⟩,fun _=>ee b' (fun h=>h3 (h▸vG))⟩
 have nC:Below w0.heap.size w w':=⟨BY.1,BY.2.1,BY.2.2,by omega,fun k hk=>ee k (by omega)⟩
 refine hI.step hX nC hlen (fun i x hx hd=>?_) (mB hX) (by rw[sC];simp[hI.fo]) ?_ (by rw[sC];exact hI.nodup) ?_ ?_
 ·obtain⟨y,hy,⟨rfl,hl⟩|h⟩:=hs i x hx hd
  ·refine⟨x,hy,.inl ⟨rfl,fun j=>?_⟩⟩
   rintro(⟨i',j',h,fU⟩|⟨j',h,_⟩|⟨d,j',h1,h2⟩)
   ·cases h;exact hl fU
   ·cases h
   ·cases h2;exact hd h1
  ·exact⟨y,hy,.inr h⟩
 ·intro b' bx iB h1 h2
  rw[sC]at h2
  rw[List.getElem?_set]at h1
  by_cases eJ:b=b'
  ·subst eJ
   rw[hb]at h2;cases h2
   simp only[↓reduceIte]at h1
   split at h1
   ·cases h1
    exact rep hX iG.1
   ·cases h1
  ·simp only[eJ,↓reduceIte]at h1
   have ck:iB≠ao:=by
    rintro rfl
    exact eJ (hI.nodup _ _ _ hb h2)
   refine hX.box (fun j=>?_) (ee iB ck) (hI.boxes b' bx iB h1 h2)
   rintro(⟨i',j',h,fU⟩|⟨j',h,_⟩|⟨d,j',h1,h2⟩)
   ·cases h
   ·cases h;exact eJ rfl
   ·cases h2
 ·intro x hx;rw[sC]at hx;rw[aQ];exact hI.eb x hx
 ·intro b' o h;rw[jw]at h;rw[sC,aQ];exact hI.cP b' o h
theorem Inv.HH(hI:Inv gl w0 ay e a w g){b ao:Nat}{eL:af}{w':World}{cells:Array Value}{t:TypeId}{dst:Option Nat}{s:Slot}{v:Value}{an:List Slot}
  (qj tq:Nat→Prop){g':Gh}(jw:g'.St=g.St)(sC:g'.bx=g.bx)
  (qJ:∀p iB,(∀i j,p=.s i j→¬qj i)→(∀j,p=.b b j→¬tq j)→(∀d j,dst=some d→p≠.s d j)→g.ow iB=some p→g'.ow iB=some p)(JA:∀D,g.ow D=none→g'.ow D=none)
  (hb:g.bx[b]? =some (some ao))
  (ct:∀(j:Nat)y,j<eL.size→cells[j]? =some y→y.oneCell'=true)
  (c7:w'.heap[ao]? =some (.cells cells t (0,0)))(cp:∀c ty,w.heap[ao]? =some (.cells c ty (0,0))→cells.size=c.size)(ee:∀k,k≠ao→w'.heap[k]? =w.heap[k]?)(aQ:w'.heap.size=w.heap.size)
  (BY:w'.os=w.os∧w'.tape=w.tape∧w'.output=w.output)
  (hlen:an.length=e.an.length)
  (hs:∀(i:Nat)x,an[i]? =some x→dst≠some i→∃y,e.an[i]? =some y∧((x=y∧¬qj i)∨x=y.aa))
  (rep:Ext w0.heap.size w g w' g' (fun p=>(∃i j,p=.s i j∧qj i)∨(∃j,p=.b b j∧tq j)∨(∃d j,dst=some d∧p=.s d j))→(match(generalizing:=false) eL with
    | .none =>False
    | .map _=>False
    | .cells cs=>cs.length≤cells.size∧∀(j:Nat)x y,cs[j]? =some x→cells[j]? =some y→bd w' g'.St w0.heap.size (po w0.heap.size w' g' b j) x y
    | .one s=>0<cells.size∧∀y,cells[0]? =some y→cH w0.heap.size w' g' (fun _=>po w0.heap.size w' g' b 0) s y))
  (mB:Ext w0.heap.size w g w' g' (fun p=>(∃i j,p=.s i j∧qj i)∨(∃j,p=.b b j∧tq j)∨(∃d j,dst=some d∧p=.s d j))→
    ∀d,dst=some d→cH w0.heap.size w' g' (gJ w0.heap.size w' g' d) s v):
  Inv gl w0 ay ⟨cz an dst s,e.boxes.set b eL⟩ (a.put dst v) w' g':=by
 refine hI.Ox qj tq jw sC qJ JA hb ee (fun c ty h=>⟨cells,t,c7,cp c ty h⟩) aQ BY hlen hs (fun hX hle=>?_) mB
 have:=rep hX
 cases eL with
 |none=>exact this.elim
 |map l=>exact this.elim
 |cells cs=>exact⟨hle,cells,t,c7,ct,this⟩
 |one s=>exact⟨hle,cells,t,c7,ct,this⟩
end
end Go.Proofs.YtaknajjmldngiaaGreat.Ab
namespace Go.Proofs.YtaknajjmldngiaaGreat.Ab
open Go Go.RowKit
section
variable{P:Program}{gl:Nat→Option D}{w0:World}{ay:S0}{e:Env}{a:Act}{w:World}{g:Gh}
theorem bj.o8{St:Nat→Nat→Prop}{k:IntKind}{n:Int}{v:Value}(h:bj w St (.int k n) v):v=.int k n∧gv k n=true:=by
 cases h with
 |int _ _ h=>exact⟨rfl,h⟩
theorem bj.ti{St:Nat→Nat→Prop}{l:List UInt8}{v:Value}(h:bj w St (.str l) v):∃s,v=.string s∧l=s.data.toList∧s.size≤maxLen:=by
 cases h with
 |str s h=>exact⟨s,rfl,rfl,h⟩
theorem bj.rB{St:Nat→Nat→Prop}{b:Bool}{v:Value}(h:bj w St (.bool b) v):v=.bool b:=by
 cases h with
 |bool _=>rfl
theorem bj.tj{St:Nat→Nat→Prop}{ds:List D}{v:Value}(h:bj w St (.agg ds) v):∃vs,v=.agg vs∧j9 w St ds vs∧∀d∈ds,d.one=true:=by
 cases h with
 |agg _ vs hf hl hc=>exact⟨vs,rfl,⟨hl,hc⟩,hf⟩
theorem CB(op:BinOp)(t:TypeId)(x y:Operand)(u v:Value)(h:(match u,v with| .nilIface,.nilIface =>False| .agg _,.agg _=>False|_,_=>True)):
  (eqGuard op t x y u v).run P w=.ok () w:=by
 cases op<;>(try rfl)<;>(unfold eqGuard;simp only[Bool.not_true,Bool.false_eq_true,if_false];cases u<;>cases v<;>first|rfl|exact h.elim)
theorem WY(hI:Inv gl w0 ay e a w g){o:Oper}{op:BinOp}{t u:TypeId}{x y:Operand}(ho:o.op=.binOp op t x y u){k:Slot→List af→Prop}
  (h:ab (ah (yG P op t) op ((Ab.bc gl e x).aa).bu ((Ab.bc gl e y).aa).bu) fun r=>k (.v r) e.boxes):bI P gl w0 ay e.an o a w k:=by
 obtain⟨r,hr,hk⟩:=aK h
 have hx:=hI.gX x
 have hy:=hI.gX y
 generalize ((Ab.bc gl e x).aa).bu =sx at hr hx
 generalize ((Ab.bc gl e y).aa).bu =sy at hr hy
 have key:∃v rd,r=.d rd∧(eqGuard op t x y (a.eval x) (a.eval y)).run P w=.ok () w∧(binOp op t (a.eval x) (a.eval y)).run P w=.ok v w∧bj w g.St rd v:=by
  cases sx<;>simp only[ah,reduceCtorEq]at hr
  rename_i dx
  cases sy<;>simp only[reduceCtorEq]at hr
  rename_i dy
  replace hx:=hx.data
  replace hy:=hy.data
  split at hr
  ·rename_i rd eX
   cases hr
   cases dx<;>cases dy<;>simp only[ej,reduceCtorEq]at eX
   ·
    rename_i b1 b2
    split at eX
    ·rename_i aY
     rw[hx.rB,hy.rB]
     have hg:=CB (P:=P) (w:=w) op t x y (.bool b1) (.bool b2) trivial
     have:∃f,shapeOf P f t=some [.bool]∧f≤10000∧dh P t=some false:=by
      unfold yG at aY
      split at aY
      ·cases hq:P.eqGuardType P.depth t<;>rw[hq]at aY<;>simp only[cond_true,cond_false,reduceCtorEq]at aY
       split at aY
       ·split at aY
        ·simp only[Option.some.injEq,Prod.mk.injEq]at aY
         obtain⟨rfl,rfl⟩:=aY
         exact⟨20,by assumption,by decide,by assumption⟩
        ·cases aY
       ·split at aY<;>cases aY
      ·cases hq:P.eqGuardType P.depth t<;>rw[hq]at aY<;>simp only[cond_true,cond_false,reduceCtorEq]at aY
       split at aY
       ·split at aY
        ·simp only[Option.some.injEq,Prod.mk.injEq]at aY
         obtain⟨rfl,rfl⟩:=aY
         exact⟨20,by assumption,by decide,by assumption⟩
        ·cases aY
       ·split at aY<;>cases aY
      ·cases aY
     obtain⟨f,h1,h2,h3⟩:=this
     have hq:=FO (w:=w) (g:=g) f 10000 t _ false [.bool b1] [.bool b2] (.bool b1) (.bool b2) (b1==b2) h1 h2 h3 rfl rfl
      (by simp only[gY,Bool.false_eq_true,if_false];exact⟨_,rfl,.bool _⟩) (by simp only[gY,Bool.false_eq_true,if_false];exact⟨_,rfl,.bool _⟩) (by simp[eW,jG])
     split at eX
     ·cases eX;exact⟨_,_,rfl,hg,by simp[binOp,Op.equal,Op.maxDepth,hq],.bool _⟩
     ·cases eX;exact⟨_,_,rfl,hg,by simp[binOp,Op.equal,Op.maxDepth,hq],.bool _⟩
     ·cases eX
    ·cases eX
   ·
    rename_i k1 n1 k2 n2
    obtain⟨ex,wx⟩:=hx.o8
    obtain⟨ey,wy⟩:=hy.o8
    rw[ex,ey]
    have hg:=CB (P:=P) (w:=w) op t x y (.int k1 n1) (.int k2 n2) trivial
    split at eX
    ·obtain⟨v,hv,gS⟩:=Lx (P:=P) (w:=w) (g:=g) (k':=k2) t (.inl rfl) wx eX
     exact⟨v,rd,rfl,hg,hv,gS⟩
    ·obtain⟨v,hv,gS⟩:=Lx (P:=P) (w:=w) (g:=g) (k':=k2) t (.inr rfl) wx eX
     exact⟨v,rd,rfl,hg,hv,gS⟩
    ·rename_i h1 h2
     split at eX
     ·rename_i JB
      subst JB
      obtain⟨v,hv,gS⟩:=UU (P:=P) (w:=w) (g:=g) t ⟨h1,h2⟩ wx wy eX
      exact⟨v,rd,rfl,hg,hv,gS⟩
     ·cases eX
   ·
    obtain⟨s1,e1,f1,_⟩:=hx.ti
    obtain⟨s2,e2,f2,_⟩:=hy.ti
    rw[e1,e2]
    rw[f1,f2]at eX
    obtain⟨v,hv,gS⟩:=UW (P:=P) (w:=w) (g:=g) t eX
    exact⟨v,rd,rfl,CB op t x y _ _ trivial,hv,gS⟩
   ·
    rename_i l1 l2
    split at eX
    ·rename_i ks aY
     obtain⟨v1,e1,r1,_⟩:=hx.tj
     obtain⟨v2,e2,r2,_⟩:=hy.tj
     rw[e1,e2]
     cases jO:(dO ks l1&&dO ks l2)with
     |false=>rw[jO]at eX;cases eX
     |true=>
      rw[jO]at eX
      simp only[Bool.and_eq_true]at jO
      simp only[cond_true]at eX
      have:shapeOf P 20 t=some ks∧dh P t=some true∧P.eqGuardType P.depth t=false:=by
       unfold yG at aY
       split at aY
       ·cases hq:P.eqGuardType P.depth t<;>rw[hq]at aY<;>simp only[cond_true,cond_false,reduceCtorEq]at aY
        split at aY
        ·split at aY
         ·simp only[Option.some.injEq,Prod.mk.injEq]at aY
          obtain⟨rfl,rfl⟩:=aY
          exact⟨by assumption,by assumption,rfl⟩
         ·cases aY
        ·split at aY<;>cases aY
       ·cases hq:P.eqGuardType P.depth t<;>rw[hq]at aY<;>simp only[cond_true,cond_false,reduceCtorEq]at aY
        split at aY
        ·split at aY
         ·simp only[Option.some.injEq,Prod.mk.injEq]at aY
          obtain⟨rfl,rfl⟩:=aY
          exact⟨by assumption,by assumption,rfl⟩
         ·cases aY
        ·split at aY<;>cases aY
       ·cases aY
      obtain⟨h1,h3,h4⟩:=this
      have hg:=run_eqGuard_agg (P:=P) w op t x y v1 v2 h4
      have hq:∀c,eW l1 l2=some c→(Op.equalIn 10000 t (.agg v1) (.agg v2)).run P w=.ok c w:=fun c hc=>
       FO (w:=w) (g:=g) 20 10000 t _ true l1 l2 (.agg v1) (.agg v2) c h1 (by decide) h3 jO.1 jO.2
        (by simp only[gY,if_true];exact⟨_,rfl,r1⟩) (by simp only[gY,if_true];exact⟨_,rfl,r2⟩) hc
      split at eX
      ·split at eX
       ·rename_i c hc;cases eX;exact⟨_,_,rfl,hg,by simp[run_eql_struct,hq c hc],.bool _⟩
       ·cases eX
      ·split at eX
       ·rename_i c hc;cases eX;exact⟨_,_,rfl,hg,by simp[run_neq_struct,hq c hc],.bool _⟩
       ·cases eX
      ·cases eX
    ·cases eX
   ·
    rename_i a1 s1 l1 b1 s2 l2
    cases b1<;>simp only[reduceCtorEq]at eX
    split at eX
    ·rename_i aY
     have hu:∃e',P.underlying t=some (.slice e'):=by
      unfold yG at aY
      have bad:∀{ks:List CK}{b:Bool},shapeOf P 20 t=some ks→dh P t=some b→(b,ks)=(false,[])→False:=fun{ks b}h1 h2 h3=>by
       cases h3
       rcases(z8 h1).2 with h4|h4
       ·simp at h4
       ·rw[h2]at h4;cases h4
      split at aY
      ·cases hq:P.eqGuardType P.depth t<;>rw[hq]at aY<;>simp only[cond_true,cond_false,reduceCtorEq]at aY
       split at aY
       ·split at aY
        ·exact(bad (by assumption) (by assumption) (Option.some.inj aY)).elim
        ·cases aY
       ·split at aY
        ·exact⟨_,by assumption⟩
        ·cases aY
      ·cases hq:P.eqGuardType P.depth t<;>rw[hq]at aY<;>simp only[cond_true,cond_false,reduceCtorEq]at aY
       split at aY
       ·split at aY
        ·exact(bad (by assumption) (by assumption) (Option.some.inj aY)).elim
        ·cases aY
       ·split at aY
        ·exact⟨_,by assumption⟩
        ·cases aY
      ·cases aY
     obtain⟨e',hu⟩:=hu
     have pJ:a.eval y=.slice none 0 0:=by
      generalize a.eval y=vy at hy
      cases hy;rfl
     have BZ:∃p n c,a.eval x=.slice p n c∧p.isNone=decide (a1=SK.nil):=by
      generalize a.eval x=vx at hx
      cases hx with
      |jm=>exact⟨_,_,_,rfl,rfl⟩
      |sl=>exact⟨_,_,_,rfl,rfl⟩
      |jN=>exact⟨_,_,_,rfl,rfl⟩
     obtain⟨p,n,c,BZ,hp⟩:=BZ
     rw[BZ,pJ]
     have hq:(Op.equalIn 10000 t (.slice p n c) (.slice none 0 0)).run P w=.ok (decide (a1=SK.nil)) w:=by
      rw[←hp,show(10000:Nat)=9999+1 from rfl,Op.equalIn]
      cases p<;>simp[run_underlying hu]
     have hg:=CB (P:=P) (w:=w) op t x y (.slice p n c) (.slice none 0 0) trivial
     split at eX
     ·cases eX;exact⟨_,_,rfl,hg,by simp[binOp,Op.equal,Op.maxDepth,hq],.bool _⟩
     ·cases eX;exact⟨_,_,rfl,hg,by simp[binOp,Op.equal,Op.maxDepth,hq],.bool _⟩
     ·cases eX
    ·cases eX
  ·cases hr
 obtain⟨v,rd,rfl,hg,hv,gS⟩:=key
 refine bI.fm hI (s:=.d rd) (v:=v) ?_ (.d _ _ _ gS) hk
 simp[execOp,ho,hg,hv]
theorem Yh(hI:Inv gl w0 ay e a w g){o:Oper}{op:UnOp}{t:TypeId}{x:Operand}(ho:o.op=.unOp op t x){k:Slot→List af→Prop}
  (h:ab (bw op ((Ab.bc gl e x).aa).bu) fun r=>k (.v r) e.boxes):bI P gl w0 ay e.an o a w k:=by
 obtain⟨r,hr,hk⟩:=aK h
 have hx:=hI.gX x
 generalize ((Ab.bc gl e x).aa).bu =sx at hr hx
 unfold bw at hr
 split at hr
 ·rename_i b
  have hx:=hx.data.rB
  split at hr
  ·cases hr;exact bI.fm hI (v:=.bool (!b)) (by simp[execOp,ho,hx,Op.unary]) (.d _ _ _ (.bool _)) hk
  ·cases hr
 ·rename_i kk n
  obtain⟨hx,wx⟩:=hx.data.o8
  split at hr
  ·cases hr;exact bI.fm hI (by simp only[execOp,ho,hx,Op.unary,Op.intArith];simp) (.d _ _ _ (.int _ _ (wi _ _))) hk
  ·cases hr;exact bI.fm hI (by simp only[execOp,ho,hx,Op.unary,Op.intBits];simp) (.d _ _ _ (.int _ _ (wi _ _))) hk
  ·cases hr
 ·cases hr
theorem VP(hI:Inv gl w0 ay e a w g){o:Oper}{src dst:TypeId}{x:Operand}(ho:o.op=.convert src dst x)(hs:(P.underlying src).isSome =true){k:Slot→List af→Prop}
  (h:ab (D5 P dst ((Ab.bc gl e x).aa).bu) fun r=>k (.v r) e.boxes):bI P gl w0 ay e.an o a w k:=by
 obtain⟨r,hr,hk⟩:=aK h
 have hx:=hI.gX x
 generalize ((Ab.bc gl e x).aa).bu =sx at hr hx
 obtain⟨us,QB⟩:=Option.isSome_iff_exists.1 hs
 unfold D5 at hr
 split at hr
 ·rename_i kk n
  obtain⟨hx,wx⟩:=hx.data.o8
  split at hr
  ·rename_i kd hd
   cases hr
   refine bI.fm hI (v:=.int kd (kd.wrap n)) ?_ (.d _ _ _ (.int _ _ (wi _ _))) hk
   cases us<;>simp[execOp,ho,hx,convert,run_underlying QB,run_underlying hd,Conv.intToInt]
  ·cases hr
 ·rename_i l
  obtain⟨s1,e1,f1,h1⟩:=hx.data.ti
  split at hr
  ·rename_i hd
   cases hr
   refine bI.fm hI (v:=.string s1) ?_ (.d _ _ _ (by rw[f1];exact .str _ h1)) hk
   cases us<;>simp[execOp,ho,e1,convert,run_underlying QB,run_underlying hd]
  ·cases hr
 ·cases hr
end
end Go.Proofs.YtaknajjmldngiaaGreat.Ab
namespace Go.Proofs.YtaknajjmldngiaaGreat.Ab
open Go Go.RowKit
section
variable{P:Program}{gl:Nat→Option D}{w0:World}{ay:S0}{e:Env}{a:Act}{w:World}{g:Gh}
theorem Inv.lZ(hI:Inv gl w0 ay e a w g){x:Operand}{s:Slot}(h:(Ab.bc gl e x).aa =s):cH w0.heap.size w g (fun _ _ _ _=>False) s (a.eval x):=h▸hI.bc x
theorem cH.ka{base:Nat}{O:Nat→Nat→Nat→Nat→Prop}{x:SV}{v:Value}(h:cH base w g O (.v x) v):bd w g.St base (O 0) x v:=by
 cases h with
 |v _ _ _ h=>exact h
theorem cH.jJ{base:Nat}{O:Nat→Nat→Nat→Nat→Prop}{b off:Nat}{v:Value}(h:cH base w g O (.p b off) v):∃ao,v=.pointer (some ⟨ao,off,none⟩)∧g.bx[b]? =some (some ao):=by
 cases h with
 |p _ _ _ ao h=>exact⟨ao,rfl,h⟩
theorem cH.H7{base:Nat}{O:Nat→Nat→Nat→Nat→Prop}{xs:List SV}{v:Value}(h:cH base w g O (.t xs) v):
  ∃vs,v=.tuple vs∧xs.length=vs.size∧∀(j:Nat)x v,xs[j]? =some x→vs[j]? =some v→bd w g.St base (O j) x v:=by
 cases h with
 |t _ _ vs hl hc=>exact⟨vs,rfl,hl,hc⟩
theorem bd.rG{St:Nat→Nat→Prop}{base:Nat}{O:Nat→Nat→Nat→Prop}{x:SV}{v:Value}(h:bd w St base O x v)(hx:(match x with| .d y=>y.one=true| .undef =>False|_=>True)):
  v.oneCell'=true:=by
 cases h<;>first|rfl|(exact bj.rG (by assumption) hx)|exact hx.elim
theorem bd.cells{St:Nat→Nat→Prop}{base:Nat}{O:Nat→Nat→Nat→Prop}{x:SV}{v:Value}(h:bd w St base O x v){l:List SV}(hl:ax x=some l):
  l.length=v.cells.size∧(∀y∈v.cells,y.oneCell'=true)∧∀(i:Nat)c y,l[i]? =some c→v.cells[i]? =some y→bd w St base O c y:=by
 have one:∀(c:SV)(u:Value),bd w St base O c u→u.oneCell'=true→u.cells= #[u]→[c].length =u.cells.size∧(∀y∈u.cells,y.oneCell'=true)∧∀(i:Nat)c' y,[c][i]? =some c'→u.cells[i]? =some y→bd w St base O c' y:=by
  intro c u hr h1 hu
  rw[hu]
  refine⟨rfl,by simpa using h1,fun i c' y hc hy=>?_⟩
  cases i with
  |zero=>simp at hc hy;subst hc hy;exact hr
  |succ i=>simp at hc
 cases h with
 |d _ y _ hd=>
  simp only[ax,Option.some.injEq]at hl
  subst hl
  by_cases hy:y.one=true
  ·have hc:y.cells=[y]:=by cases y<;>first|rfl|simp[D.one]at hy
   have h1:=hd.rG hy
   have hv:v.cells= #[v]:=by cases v<;>first|rfl|simp[Value.oneCell']at h1
   rw[hc]
   exact one (.d y) v (.d _ _ _ hd) h1 hv
  ·cases y<;>simp only[D.one,not_true_eq_false]at hy
   rename_i ds
   obtain⟨vs,rfl,⟨hs,hc⟩,hf⟩:=hd.tj
   refine⟨by simpa[D.cells,Value.cells]using hs,fun y hy=>?_,fun i c y e8 hy=>?_⟩
   ·obtain⟨i,hi,rfl⟩:=Array.mem_iff_getElem.1 hy
    have eF:i<ds.length:=by rw[hs];exact hi
    exact(hc i ds[i] _ (List.getElem?_eq_getElem eF) (Array.getElem?_eq_getElem hi)).rG (hf _ (List.getElem_mem eF))
   ·simp only[D.cells,List.getElem?_map,Option.map_eq_some_iff]at e8
    obtain⟨d,jP,rfl⟩:=e8
    exact .d _ _ _ (hc i d y jP hy)
 |own _ sz L gg cap hd b9 ho=>simp only[ax,Option.some.injEq]at hl;subst hl;exact one _ _ (.own _ sz L gg cap hd b9 ho) rfl rfl
 |full _ sz L ad hd=>simp only[ax,Option.some.injEq]at hl;subst hl;exact one _ _ (.full _ sz L ad hd) rfl rfl
 |ref _ cs off b o vs hb h1 h2=>simp only[ax,Option.some.injEq]at hl;subst hl;exact one _ _ (.ref _ cs off b o vs hb h1 h2) rfl rfl
 |aA _ y off b o vs h0 h1 h2=>simp only[ax,Option.some.injEq]at hl;subst hl;exact one _ _ (.aA _ y off b o vs h0 h1 h2) rfl rfl
 |dX _ f first cap fv cv h1 h2 h3 h4=>simp only[ax,Option.some.injEq]at hl;subst hl;exact one _ _ (.dX _ f first cap fv cv h1 h2 h3 h4) rfl rfl
 |cA _ sz L gg cap vs h1 h2 h3 h4 h5 h6 h7=>simp only[ax,Option.some.injEq]at hl;subst hl;exact one _ _ (.cA _ sz L gg cap vs h1 h2 h3 h4 h5 h6 h7) rfl rfl
 |mp _ m r es clock h1 h2 h3 h4=>simp only[ax,Option.some.injEq]at hl;subst hl;exact one _ _ (.mp _ m r es clock h1 h2 h3 h4) rfl rfl
 |undef _ _=>simp[ax]at hl
theorem FP{t:TypeId}{z:List D}(h:j0 P t=some z):∃zv:Value,(∀w:World,(zeroValue t).run P w=.ok zv w)∧z.length=zv.cells.size∧(∀d∈z,d.one=true)∧
  ∀(w:World)(St:Nat→Nat→Prop)(i:Nat)x v,z[i]? =some x→zv.cells[i]? =some v→bj w St x v:=by
 unfold j0 at h
 split at h
 ·rename_i i hi
  split at h
  ·rename_i zv hz
   refine⟨zv,fun w=>by simp[zeroValue,typeInfo,hi,hz],?_,FY h,fun w St j x v hx hv=>?_⟩
   ·have:=(Ad (w:=default) (St:=fun _ _=>False) h).1
    simpa using this
   ·exact(Ad (w:=w) (St:=St) h).2 j x v hx (by simpa using hv)
  ·cases h
 ·cases h
theorem UX(hI:Inv gl w0 ay e a w g){o:Oper}{t:TypeId}(ho:o.op=.alloc t){id:Nat}{k:Slot→List af→Prop}
  (fj:e.boxes[id]? =some .none)
  (h:ab (C9 P t) fun z=>k (.p id 0) (e.boxes.set id (.cells z))):bI P gl w0 ay e.an o a w k:=by
 obtain⟨zs,jc,hk⟩:=aK h
 unfold C9 at jc
 split at jc
 rotate_left
 ·split at jc
  ·rename_i i hi
   split at jc
   ·rename_i zv xo
    cases gq:zv.cells.toList.all Value.oneCell' with
    |false=>rw[gq]at jc;cases jc
    |true=>
     rw[gq]at jc
     cases jc
     refine bI.DP hI fj (cells:=zv.cells) (t:=t) (bx:=.cells _) ?_ ?_ ?_ hk
     ·have bz:(zeroValue t).run P w=.ok zv w:=by simp[zeroValue,typeInfo,hi,xo]
      simp[execOp,ho,Instr.alloc,bz,newVar,newRow]
     ·intro y hy
      exact List.all_eq_true.1 gq y (by simpa using hy)
     ·intro w' g' O hX
      refine⟨by simp,fun j x y hx hy=>?_⟩
      rw[(List.mem_replicate.1 (List.mem_of_getElem? hx)).2]
      exact .undef _ _
   ·cases jc
  ·cases jc
 rename_i z hz
 cases jc
 obtain⟨zv,bz,hlen,ct,bt⟩:=FP hz
 refine bI.DP hI fj (cells:=zv.cells) (t:=t) (bx:=.cells (z.map .d)) ?_ ?_ ?_ hk
 ·simp[execOp,ho,Instr.alloc,bz,newVar,newRow]
 ·intro y hy
  obtain⟨i,hi,rfl⟩:=Array.mem_iff_getElem.1 hy
  have eF:i<z.length:=by rw[hlen];exact hi
  exact(bt w (fun _ _=>False) i z[i] _ (List.getElem?_eq_getElem eF) (Array.getElem?_eq_getElem hi)).rG (ct _ (List.getElem_mem eF))
 ·intro w' g' O hX
  refine⟨by simpa using Nat.le_of_eq hlen,fun j x y hx hy=>?_⟩
  simp only[List.getElem?_map,Option.map_eq_some_iff]at hx
  obtain⟨d,hd,rfl⟩:=hx
  exact .d _ _ _ (bt _ _ j d y hd hy)
theorem WZ(hI:Inv gl w0 ay e a w g){o:Oper}{t:TypeId}{x:Operand}(ho:o.op=.box t x){id:Nat}{k:Slot→List af→Prop}
  (fj:e.boxes[id]? =some .none)
  (h:ab (dm P t) fun sz=>(match(Ab.bc gl e x).aa with
  | .v y=>ab (ax y) fun l=>l.length=sz∧k (.p id 0) (e.boxes.set id (.cells l))
  | .t _=>False
  |s=>(match sz with|1=>k (.p id 0) (e.boxes.set id (.one s))|_=>False))):bI P gl w0 ay e.an o a w k:=by
 obtain⟨sz,aQ,h⟩:=aK h
 have hx:=hI.bc x
 have bz:(execOp a.eval o).run P w=.ok (.value (.pointer (some ⟨w.heap.size,0,none⟩))) (w.alloc (.cells (a.eval x).cells t)):=by
  simp[execOp,ho,Instr.box,newVar,newRow]
 have oq:∀s,(Ab.bc gl e x).aa =s→(∀y,s≠.v y)→(∀y,s≠.t y)→k (.p id 0) (e.boxes.set id (.one s))→bI P gl w0 ay e.an o a w k:=by
  intro s hs h1 h2 hk
  rw[hs]at hx
  have hc:(a.eval x).cells = #[a.eval x]:=by
   clear bz
   generalize a.eval x=u at hx
   cases hx with
   |v _ y _ _=>exact absurd rfl (h1 y)
   |p=>rfl
   |a _ b n sz v hm h=>obtain⟨_,_,_,_,rfl,_⟩:=h;rfl
   |m=>rfl
   |c=>rfl
   |t _ y _ _ _=>exact absurd rfl (h2 y)
  have h1c:(a.eval x).oneCell' =true:=by
   clear bz hc
   generalize a.eval x=u at hx
   cases hx with
   |v _ y _ _=>exact absurd rfl (h1 y)
   |p=>rfl
   |a _ b n sz v hm h=>obtain⟨_,_,_,_,rfl,_⟩:=h;rfl
   |m=>rfl
   |c=>rfl
   |t _ y _ _ _=>exact absurd rfl (h2 y)
  refine bI.DP hI fj (bx:=.one s) bz (by rw[hc];simpa using h1c) (fun w' g' O hX=>?_) hk
  refine⟨by rw[hc];exact Nat.one_pos,fun y hy=>?_⟩
  rw[hc]at hy
  simp at hy
  subst hy
  exact hx.mono hX.st hX.bs hX.bx hX.sh fun _ _ _ _ h=>h.elim
 split at h
 ·rename_i y hy
  obtain⟨l,hl,hlen,hk⟩:=aK h
  rw[hy]at hx
  obtain⟨h1,h2,h3⟩:=hx.ka.cells hl
  refine bI.DP hI fj (bx:=.cells l) bz h2 (fun w' g' O hX=>⟨Nat.le_of_eq h1,fun j c u hc hu=>?_⟩) hk
  exact(h3 j c u hc hu).mono hX.st hX.bs _ (fun _ _ _ h=>h.elim)
 ·exact h.elim
 ·rename_i h1 h2
  split at h
  ·exact oq _ rfl (fun y hy=>h1 y hy) (fun y hy=>h2 y hy) h
  ·exact h.elim
theorem uT{t:TypeId}{b:Bool}{n:Nat}(hl:gy P t=some (b,n))(ao off:Nat)(vs:Nat→Value)
  (h:∀j,j<(if b then n else 1)→w.cell? ⟨ao,off+j,none⟩=some (vs j)):
  (loadVar t ⟨ao,off,none⟩).run P w=.ok (if b then .agg ((List.range n).map vs).toArray else vs 0) w:=by
 obtain⟨hb,hn,_⟩:=Dv hl
 unfold loadVar
 simp only[Sem.run_bind,Mo hb,Result.andThen_ok]
 cases b
 ·have:=h 0 (by simp)
  simp only[Nat.add_zero]at this
  simp[this]
 ·have:=run_loadCells (P:=P) w ⟨ao,off,none⟩ n vs (fun j hj=>by rw[n8];exact h j (by simpa using hj))
  simp[j1 hn,this]
theorem Gs:∀{l:List SV}{r:List D},eP l=some r→r.length=l.length∧∀(i:Nat)x y,l[i]? =some x→r[i]? =some y→cS x=some y
 |[],r,h=>by cases h;simp
 |v::l,r,h=>by
  simp only[eP]at h
  split at h
  ·rename_i x hx
   split at h
   ·rename_i r' hr
    cases h
    obtain⟨h1,h2⟩:=Gs hr
    refine⟨by simp[h1],fun i y z hy hz=>?_⟩
    cases i with
    |zero=>simp at hy hz;subst hy hz;exact hx
    |succ i=>simp at hy hz;exact h2 i y z hy hz
   ·cases h
  ·cases h
theorem Yi{x:SV}{y:D}(h:cS x=some y)(hx:match x with| .d z=>z.one=true|_=>True):y.one=true:=by
 cases x<;>simp only[cS,Option.some.injEq,reduceCtorEq]at h<;>subst h<;>first|exact hx|rfl
theorem F8{t:TypeId}{b:Bool}{n off:Nat}{cs:List SV}{x:SV}{St:Nat→Nat→Prop}{base:Nat}{O:Nat→Nat→Nat→Nat→Prop}(hl:gy P t=some (b,n))(h:ag b n off cs=some x)(ao o:Nat)
  (vs:Nat→Value)(bF:∀i,i<cs.length→w.cell? ⟨ao,o+i,none⟩=some (vs i))(bt:∀(i:Nat)c,cs[i]? =some c→bd w St base (O i) c (vs i))
  (ct:∀i,i<cs.length→(vs i).oneCell' =true):
  ∃v,(loadVar t ⟨ao,o+off,none⟩).run P w=.ok v w∧bd w St base (O off) x v:=by
 unfold ag at h
 cases b
 ·simp only[cond_false]at h
  have aV:=(List.getElem?_eq_some_iff.1 h).1
  refine⟨vs off,?_,bt off x h⟩
  rw[uT hl ao (o+off) (fun j=>vs (off+j)) (fun j hj=>by simp at hj;subst hj;simpa using bF off aV)]
  simp
 ·simp only[cond_true]at h
  split at h
  ·rename_i hle
   split at h
   ·rename_i l jx
    cases h
    obtain⟨hlen,nO⟩:=Gs jx
    refine⟨.agg ((List.range n).map fun j=>vs (off+j)).toArray,?_,.d _ _ _ (.agg _ _ ?_ ?_ ?_)⟩
    ·rw[uT hl ao (o+off) (fun j=>vs (off+j)) (fun j hj=>by
      simp at hj;rw[Nat.add_assoc];exact bF (off+j) (by omega))]
     simp
    ·intro d hd
     obtain⟨i,hi,rfl⟩:=List.mem_iff_getElem.1 hd
     have eF:i<((cs.drop off).take n).length :=by rw[←hlen];exact hi
     have hs:=nO i _ _ (List.getElem?_eq_getElem eF) (List.getElem?_eq_getElem hi)
     have zG:off+i<cs.length:=by simp at eF;omega
     have hc:((cs.drop off).take n)[i]=cs[off+i]:=by simp
     have hr:=bt (off+i) _ (List.getElem?_eq_getElem zG)
     have h1:=ct (off+i) zG
     rw[hc]at hs
     refine Yi hs ?_
     revert hs hr
     cases cs[off+i]<;>intro hs hr<;>try trivial
     rename_i z
     cases z<;>first|rfl|(obtain⟨_,hv,_⟩:=hr.data.tj;rw[hv]at h1;simp[Value.oneCell']at h1)
    ·simp[hlen];omega
    ·intro i d v hd hv
     have hi:i<l.length:=(List.getElem?_eq_some_iff.1 hd).1
     have eF:i<((cs.drop off).take n).length :=by rw[←hlen];exact hi
     have zG:off+i<cs.length:=by simp at eF;omega
     have pK:i<n:=by simp at eF;omega
     have hc:((cs.drop off).take n)[i]? =some cs[off+i]:=by
      rw[List.getElem?_eq_getElem eF];simp
     have hs:=nO i _ _ hc hd
     have hr:=bt (off+i) _ (List.getElem?_eq_getElem zG)
     simp[pK]at hv
     subst hv
     exact hr.cS hs
   ·cases h
  ·cases h
end
end Go.Proofs.YtaknajjmldngiaaGreat.Ab
namespace Go.Proofs.YtaknajjmldngiaaGreat.Ab
open Go Go.RowKit
section
variable{P:Program}{gl:Nat→Option D}{w0:World}{ay:S0}{e:Env}{a:Act}{w:World}{g:Gh}
theorem bj.Tm{St:Nat→Nat→Prop}{d:D}{v:Value}(r:bj w St d v)(h:v.oneCell'=true):d.one=true:=by
 cases d with
 |agg ds=>obtain⟨_,hv,_⟩:=r.tj;rw[hv]at h;simp[Value.oneCell']at h
 |_=>rfl
theorem UY{t:TypeId}{b:Bool}{n off:Nat}{cs:List D}{x:D}{St:Nat→Nat→Prop}(hl:gy P t=some (b,n))(h:qf b n off cs=some x)(ao o:Nat)
  (hf:∀c∈cs,c.one=true)
  (vs:Nat→Value)(bF:∀i,i<cs.length→w.cell? ⟨ao,o+i,none⟩=some (vs i))(bt:∀(i:Nat)c,cs[i]? =some c→bj w St c (vs i)):
  ∃v,(loadVar t ⟨ao,o+off,none⟩).run P w=.ok v w∧bj w St x v:=by
 unfold qf at h
 cases b
 ·simp only[cond_false]at h
  have aV:=(List.getElem?_eq_some_iff.1 h).1
  refine⟨vs off,?_,bt off x h⟩
  rw[uT hl ao (o+off) (fun j=>vs (off+j)) (fun j hj=>by simp at hj;subst hj;simpa using bF off aV)]
  simp
 ·simp only[cond_true]at h
  split at h
  ·rename_i hle
   cases h
   refine⟨.agg ((List.range n).map fun j=>vs (off+j)).toArray,?_,.agg _ _ ?_ ?_ ?_⟩
   ·rw[uT hl ao (o+off) (fun j=>vs (off+j)) (fun j hj=>by
     simp at hj;rw[Nat.add_assoc];exact bF (off+j) (by omega))]
    simp
   ·intro d hd
    exact hf d (List.mem_of_mem_drop (List.mem_of_mem_take hd))
   ·simp;omega
   ·intro i d v hd hv
    rw[List.getElem?_take]at hd
    split at hd
    ·rename_i hi
     rw[List.getElem?_drop]at hd
     simp[hi]at hv
     subst hv
     exact bt _ _ hd
    ·cases hd
  ·cases h
theorem UZ(hI:Inv gl w0 ay e a w g){o:Oper}{t:TypeId}{x:Operand}(ho:o.op=.load t x){k:Slot→List af→Prop}{b:Bool}{n:Nat}(hl:gy P t=some (b,n))
  {s:SV}(hs:(Ab.bc gl e x).aa =.v s)(h:ab (az b n s) fun y=>k (.v y) e.boxes):bI P gl w0 ay e.an o a w k:=by
 obtain⟨y,hy,hk⟩:=aK h
 have hx:=hI.pF hs
 have bz:∀{ad v},a.eval x=.pointer (some ad)→(loadVar t ad).run P w=.ok v w→(execOp a.eval o).run P w=.ok (.value v) w:=by
  intro ad v h1 h2
  simp[execOp,ho,Instr.loadAt,Instr.sureAddr,h1,h2]
 unfold az at hy
 split at hy
 ·rename_i z off
  split at hy
  ·rename_i r hr
   cases hy
   generalize hv:a.eval x=u at hx
   cases hx with
   |aA _ _ _ ao o' vs hf bF bt=>
    obtain⟨v,h1,h2⟩:=UY (St:=g.St) hl hr ao o' hf vs (fun i hi=>(bF i hi).1) bt
    exact bI.fm hI (bz hv h1) (.d _ _ _ h2) hk
  ·cases hy
 ·rename_i cs off
  split at hy
  ·rename_i r hr
   cases hy
   generalize hv:a.eval x=u at hx
   cases hx with
   |ref _ _ _ ao o' vs hb bF bt=>
    obtain⟨v,h1,h2⟩:=F8 (St:=g.St) (O:=fun _ _ _ _=>False) hl hr ao o' vs (fun i hi=>(bF i hi).1) bt (fun i hi=>(bF i hi).2)
    exact bI.fm hI (bz hv h1) h2.aa hk
  ·cases hy
 ·cases hy
theorem T0(hI:Inv gl w0 ay e a w g){o:Oper}{t:TypeId}{x:Operand}(ho:o.op=.load t x){k:Slot→List af→Prop}{b:Bool}{n:Nat}(hl:gy P t=some (b,n))
  {bn off:Nat}(hs:(Ab.bc gl e x).aa =.p bn off)(h:np b n bn off e.boxes k):bI P gl w0 ay e.an o a w k:=by
 have hx:=hI.lZ hs
 obtain⟨ao,hv,c7⟩:=hx.jJ
 have bz:∀{v},(loadVar t ⟨ao,off,none⟩).run P w=.ok v w→(execOp a.eval o).run P w=.ok (.value v) w:=by
  intro v h2
  simp[execOp,ho,Instr.loadAt,Instr.sureAddr,hv,h2]
 unfold np at h
 split at h
 ·rename_i cs cp
  obtain⟨y,hy,hk⟩:=aK h
  obtain⟨h0,c,ty,hc,ct,hlen,bt⟩:=hI.boxes bn _ ao cp c7
  obtain⟨v,h1,h2⟩:=F8 (w:=w) (off:=off) (St:=g.St) (O:=fun j=>po w0.heap.size w g bn j) hl hy ao 0 (fun i=>c.getD i undef) (fun i hi=>by
   rw[cell_of_row w ao (0+i) c ty (0,0) hc];simp[Nat.lt_of_lt_of_le hi hlen]) (fun i d hd=>by
   have hi:=(List.getElem?_eq_some_iff.1 hd).1
   exact bt i d _ hd (by simp[Nat.lt_of_lt_of_le hi hlen])) (fun i hi=>by
   have eF:i<c.size:=Nat.lt_of_lt_of_le hi hlen
   simp[eF];exact ct i _ hi (by simp))
  simp only[Nat.zero_add]at h1
  exact bI.fm hI (bz h1) h2.aa hk
 ·rename_i s gT
  cases b with
  |true=>exact h.elim
  |false=>
   simp only[cond_false]at h
   split at h
   ·obtain⟨h0,c,ty,hc,ct,aQ,bt⟩:=hI.boxes bn _ ao gT c7
    have B0:c[0]? =some (c[0]'(by omega)):=by simp
    refine bI.value hI (bz (v:=c[0]'(by omega)) ?_) ((bt _ B0).aa) h
    rw[uT (vs:=fun _=>c[0]'(by omega)) hl ao 0 (fun j hj=>by
     simp at hj;subst hj
     rw[cell_of_row w ao (0+0) c ty (0,0) hc];exact B0)]
    simp
   ·exact h.elim
 ·exact h.elim
theorem yh:∀(l:List SV)(cs:List SV)(off:Nat),off+l.length≤cs.length→setAt cs off l=cs.take off++l++cs.drop (off+l.length)
 |[],cs,off,_=>by simp[setAt]
 |v::l,cs,off,h=>by
  simp only[List.length_cons]at h
  rw[setAt,yh l (cs.set off v) (off+1) (by simp;omega)]
  have h1:(cs.set off v).take (off+1)=cs.take off++[v]:=by
   rw[List.take_add_one,List.take_set_of_le (Nat.le_refl _)]
   simp[List.getElem?_set_self (show off<cs.length by omega)]
  have h2:(cs.set off v).drop (off+1+l.length)=cs.drop (off+1+l.length):=by
   rw[List.drop_set_of_lt (by omega)]
  rw[h1,h2]
  simp[Nat.add_assoc,Nat.add_comm 1]
theorem s9{α:Type}(cs l:List α)(off:Nat)(h:off+l.length≤cs.length)(i:Nat):
  (cs.take off++l++cs.drop (off+l.length))[i]? =if i<off then cs[i]? else if i<off+l.length then l[i-off]? else cs[i]? :=by
 have ht:(cs.take off).length =off:=by simp;omega
 rw[List.append_assoc,List.getElem?_append,ht]
 split
 ·rename_i h1
  rw[List.getElem?_take,if_pos h1]
 ·rename_i h1
  rw[List.getElem?_append]
  split
  ·rename_i h2
   rw[if_pos (by omega)]
  ·rename_i h2
   rw[if_neg (by omega),List.getElem?_drop]
   congr 1
   omega
theorem LO{c l:Array Value}{off m:Nat}(h:off+l.size≤c.size)(h1:∀(j:Nat)y,j<m→c[j]? =some y→y.oneCell'=true)(h2:∀y∈l,y.oneCell'=true)(j:Nat)(y:Value)(hj:j<m)
  (hy:(c.toList.take off++l.toList++c.toList.drop (off+l.size)).toArray[j]? =some y):y.oneCell'=true:=by
 have hs:=s9 c.toList l.toList off (by simpa using h) j
 simp only[Array.length_toList]at hs
 simp only[List.getElem?_toArray]at hy
 rw[hs]at hy
 simp only[Array.getElem?_toList]at hy
 split at hy
 ·exact h1 j y hj hy
 ·split at hy
  ·exact h2 y (Array.mem_of_getElem? hy)
  ·exact h1 j y hj hy
theorem z9{t:TypeId}{n:Nat}(hn:dm P t=some n){ao off:Nat}{c:Array Value}{ty:TypeId}(hc:w.heap[ao]? =some (.cells c ty (0,0))){v:Value}
  (hv:v.cells.size=n)(h1:∀y∈v.cells,y.oneCell'=true)(hle:off+n≤c.size):
  (storeVar t ⟨ao,off,none⟩ v).run P w=.ok () (w.setRow ao (c.toList.take off++v.cells.toList++c.toList.drop (off+n)).toArray):=by
 have:=run_storeCells_at P ao off ty v.cells.toList 0 c w hc (by simp;omega) (by simpa using h1)
 simp only[Nat.add_zero,Array.length_toList,hv]at this
 unfold storeVar
 simp[j1 hn,hv,this]
theorem FJ(hI:Inv gl w0 ay e a w g){o:Oper}{t:TypeId}{x y:Operand}(ho:o.op=.store t x y)(hd:o.dst=none){k:Slot→List af→Prop}
  {bn off ao n:Nat}(hv:a.eval x=.pointer (some ⟨ao,off,none⟩))(c7:g.bx[bn]? =some (some ao))
  {cells:Array Value}{ty:TypeId}{eL:af}(hc:w.heap[ao]? =some (.cells cells ty (0,0)))(rP:Array Value)(cp:rP.size=cells.size)(ct:∀(j:Nat)y,j<eL.size→rP[j]? =some y→y.oneCell'=true)
  (b4:(storeVar t ⟨ao,off,none⟩ (a.eval y)).run P w=.ok () (w.setRow ao rP))
  (rep:∀(w':World),Ext w0.heap.size w g w' g (fun p=>∃j,p=.b bn j∧off≤j∧j<off+n)→(match(generalizing:=false) eL with
    | .none =>False
    | .map _=>False
    | .cells cs=>cs.length≤rP.size∧∀(j:Nat)x y,cs[j]? =some x→rP[j]? =some y→bd w' g.St w0.heap.size (po w0.heap.size w' g bn j) x y
    | .one s=>0<rP.size∧∀y,rP[0]? =some y→cH w0.heap.size w' g (fun _=>po w0.heap.size w' g bn 0) s y))
  (hk:k (.t []) (e.boxes.set bn eL)):bI P gl w0 ay e.an o a w k:=by
 intro next Q H8
 have bz:(execOp a.eval o).run P w=.ok .skip (w.setRow ao rP):=by
  simp[execOp,ho,Instr.storeAt,Instr.sureAddr,hv,b4]
 unfold Oper.wp
 rw[bz]
 have ee:=fun k(hk:k≠ao)=>setRow_other w ao k rP hk
 have iC:=setRow_heap w ao cells rP ty (0,0) hc
 refine H8 (.t []) undef _ _ g ?_ hk
 rw[hd]
 refine hI.HH (dst:=none) (s:=.t []) (v:=undef) (an:=e.an) (fun _=>False) (fun j=>off≤j∧j<off+n) rfl rfl (fun _ _ _ _ _ h=>h) (fun _ h=>h) c7 ct iC (fun c ty h=>by rw[hc]at h;cases h;exact cp) ee (by simp[World.setRow]) ⟨rfl,rfl,rfl⟩ rfl
  (fun i x hx _=>⟨x,hx,.inl ⟨rfl,fun h=>h⟩⟩) (fun hX=>?_) (fun _ d h=>by cases h)
 have:=rep _ ⟨hX.df,hX.st,hX.bs,hX.bx,fun p b a c hp ho=>hX.own p b a c (fun qK=>hp (by
  rcases qK with⟨i,j,_,h⟩|⟨j,h⟩|⟨d,j,h,_⟩
  ·exact h.elim
  ·exact⟨j,h⟩
  ·cases h)) ho,hX.sh⟩
 cases eL with
 |none=>exact this
 |map l=>exact this
 |cells cs=>exact this
 |one s=>exact this
theorem KY(hI:Inv gl w0 ay e a w g){o:Oper}{t:TypeId}{x y:Operand}(ho:o.op=.store t x y)(hd:o.dst=none){k:Slot→List af→Prop}{n:Nat}(hn:dm P t=some n)
  {bn off ao:Nat}(hv:a.eval x=.pointer (some ⟨ao,off,none⟩))(c7:g.bx[bn]? =some (some ao))
  {cells:Array Value}{ty:TypeId}(hc:w.heap[ao]? =some (.cells cells ty (0,0)))(QC:0<cells.size)(lA:n=1)(tG:off=0)
  {s:Slot}(hs:(Ab.bc gl e y).aa =s)(B1:∀z,s≠.v z)(B2:∀z,s≠.t z)(hk:k (.t []) (e.boxes.set bn (.one s))):bI P gl w0 ay e.an o a w k:=by
 have hy:=hI.lZ hs
 subst lA tG
 have oG:(a.eval y).cells = #[a.eval y]∧(a.eval y).oneCell' =true:=by
  generalize a.eval y=u at hy
  cases hy with
  |v _ z _ _=>exact absurd rfl (B1 z)
  |p=>exact⟨rfl,rfl⟩
  |a _ b n sz v hm h=>obtain⟨_,_,_,_,rfl,_⟩:=h;exact⟨rfl,rfl⟩
  |m=>exact⟨rfl,rfl⟩
  |c=>exact⟨rfl,rfl⟩
  |t _ z _ _ _=>exact absurd rfl (B2 z)
 refine FJ hI ho hd (n:=1) (eL:=.one s) hv c7 hc (cells.toList.take 0++ #[a.eval y].toList ++cells.toList.drop (0+1)).toArray (by simp;omega) (fun j u hj hu=>?_) ?_ (fun w' hX=>⟨by simp,fun u hu=>?_⟩) hk
 ·have:j=0:=by simp only[af.size]at hj;omega
  subst this
  simp at hu;subst hu
  exact oG.2
 ·rw[z9 hn hc (by rw[oG.1];rfl) (by rw[oG.1];simpa using oG.2) (by omega)]
  rw[oG.1]
 ·simp at hu;subst hu
  exact hy.mono hX.st hX.bs hX.bx hX.sh (fun _ _ _ _ h=>h.elim)
theorem U0(hI:Inv gl w0 ay e a w g){o:Oper}{t:TypeId}{x y:Operand}(ho:o.op=.store t x y)(hd:o.dst=none){k:Slot→List af→Prop}{n:Nat}(hn:dm P t=some n)
  {bn off:Nat}(hs:(Ab.bc gl e x).aa =.p bn off)(h:oY n bn off ((Ab.bc gl e y).aa) e.boxes fun dq=>k (.t []) dq):bI P gl w0 ay e.an o a w k:=by
 have hx:=hI.lZ hs
 obtain⟨ao,hv,c7⟩:=hx.jJ
 unfold oY at h
 split at h
 ·
  rename_i cs cp
  obtain⟨h0,c,ty,hc,ct,hlen,bt⟩:=hI.boxes bn _ ao cp c7
  split at h
  ·rename_i z hz
   obtain⟨l,hl,ER,hle,hk⟩:=aK h
   have hy:=hI.lZ hz
   obtain⟨h1,h2,h3⟩:=hy.ka.cells hl
   have jy:(a.eval y).cells.size =n:=by rw[←h1,ER]
   refine FJ hI ho hd (n:=n) (eL:=.cells (setAt cs off l)) hv c7 hc _ (by simp[jy];omega) ?_ (z9 hn hc jy h2 (by omega)) (fun w' hX=>?_) hk
   ·intro j u hj hu
    rw[←jy]at hu
    exact LO (m:=cs.length) (by omega) ct h2 j u (by simp only[af.size,yh l cs off (by omega),List.length_append,List.length_take,List.length_drop]at hj;omega) hu
   ·rw[yh l cs off (by omega)]
    refine⟨by simp[jy];omega,fun j x' y' dE sE=>?_⟩
    have oG:n=(a.eval y).cells.toList.length :=by simp[jy]
    rw[s9 cs l off (by omega)]at dE
    have tH:(c.toList.take off++(a.eval y).cells.toList ++c.toList.drop (off+(a.eval y).cells.toList.length))[j]? =some y':=by
     rw[←oG];simpa using sE
    rw[s9 _ _ off (by simp[jy];omega)]at tH
    simp only[Array.length_toList,jy,ER]at dE tH
    have gw:¬(off≤j∧j<off+n)→cs[j]? =some x'→c[j]? =some y'→bd w' g.St w0.heap.size (po w0.heap.size w' g bn j) x' y':=fun hj h4 h5=>
     (bt j x' y' h4 h5).mono hX.st hX.bs _ (fun b' a' c' ho=>hX.own _ b' a' c' (by rintro⟨j',h6,h7⟩;cases h6;exact hj h7) ho)
    split at dE
    ·rename_i hj
     simp only[hj,↓reduceIte,Array.getElem?_toList]at tH
     exact gw (by omega) dE tH
    ·rename_i hj
     simp only[hj,↓reduceIte]at tH
     split at dE
     ·rename_i pL
      simp only[pL,↓reduceIte,Array.getElem?_toList]at tH
      exact(h3 (j-off) x' y' dE tH).mono hX.st hX.bs _ (fun _ _ _ h=>h.elim)
     ·rename_i pL
      simp only[pL,↓reduceIte,Array.getElem?_toList]at tH
      exact gw (by omega) dE tH
  ·exact h.elim
  ·rename_i B1 B2
   split at h
   ·exact KY hI ho hd hn hv c7 hc (by simp at hlen;omega) rfl rfl rfl (fun z hz=>B1 z hz) (fun z hz=>B2 z hz) h
   ·exact h.elim
 ·
  rename_i s0 lB
  obtain⟨h0,c,ty,hc,ct,hlen,bt⟩:=hI.boxes bn _ ao lB c7
  split at h
  ·split at h
   ·rename_i z hz
    obtain⟨l,hl,ER,hk⟩:=aK h
    have hy:=hI.lZ hz
    obtain⟨h1,h2,h3⟩:=hy.ka.cells hl
    have jy:(a.eval y).cells.size =1:=by rw[←h1,ER]
    have ES:∀{j:Nat},j<l.length→(c.toList.take 0++(a.eval y).cells.toList ++c.toList.drop (0+1)).toArray[j]? =(a.eval y).cells[j]? :=by
     intro j hj
     have:j=0:=by omega
     subst this
     simp[List.getElem?_append,jy]
    refine FJ hI ho hd (n:=1) (eL:=.cells l) hv c7 hc (c.toList.take 0++(a.eval y).cells.toList ++c.toList.drop (0+1)).toArray (by simp[jy];omega) (fun j u hj hu=>?_) ?_ (fun w' hX=>⟨by simp;omega,fun j c' u e8 hu=>?_⟩) hk
    ·rw[ES hj]at hu
     exact h2 u (Array.mem_of_getElem? hu)
    ·rw[z9 hn hc jy h2 (by omega)]
    ·rw[ES (List.getElem?_eq_some_iff.1 e8).1]at hu
     exact(h3 j c' u e8 hu).mono hX.st hX.bs _ (fun _ _ _ h=>h.elim)
   ·exact h.elim
   ·rename_i B1 B2
    exact KY hI ho hd hn hv c7 hc hlen rfl rfl rfl (fun z hz=>B1 z hz) (fun z hz=>B2 z hz) h
  ·exact h.elim
 ·exact h.elim
end
end Go.Proofs.YtaknajjmldngiaaGreat.Ab
namespace Go.Proofs.YtaknajjmldngiaaGreat.Ab
open Go Go.RowKit
section
variable{P:Program}{gl:Nat→Option D}{w0:World}{ay:S0}{e:Env}{a:Act}{w:World}{g:Gh}
theorem s8{x:SV}{n j:Nat}(h:dD x n=some j):∃k i,x=.d (.int k i)∧0≤i∧i<n∧j=i.toNat:=by
 unfold dD at h
 split at h
 ·rename_i k i
  split at h
  ·rename_i hc;cases h;exact⟨k,i,rfl,hc.1,hc.2,rfl⟩
  ·cases h
 ·cases h
theorem bd.int{St:Nat→Nat→Prop}{base:Nat}{O:Nat→Nat→Nat→Prop}{k:IntKind}{n:Int}{v:Value}(h:bd w St base O (.d (.int k n)) v):v=.int k n:=h.data.o8.1
theorem Ly{x y:SV}{n:Nat}(h:dT x n=some y){St:Nat→Nat→Prop}{base:Nat}{O O':Nat→Nat→Nat→Prop}{v:Value}(r:bd w St base O x v):
  ∃ad:Addr,v=.pointer (some ad)∧ad.spot=none∧bd w St base O' y (.pointer (some ⟨ad.block,ad.off+n,none⟩)):=by
 unfold dT at h
 split at h
 ·cases h
  cases r with
  |aA _ x off b o vs h0 h1 h2=>exact⟨_,rfl,rfl,by rw[Nat.add_assoc];exact .aA _ _ _ b o vs h0 h1 h2⟩
 ·cases h
  cases r with
  |ref _ cs off b o vs h0 h1 h2=>exact⟨_,rfl,rfl,by rw[Nat.add_assoc];exact .ref _ _ _ b o vs h0 h1 h2⟩
 ·cases h
theorem CI{t:TypeId}{i:Nat}{fd:Field}(h:kz P t i=some fd):∃fs,P.underlying t=some (.struct fs)∧fs[i]? =some fd:=by
 unfold kz at h
 split at h
 ·rename_i fs hu;exact⟨fs,hu,by simpa using h⟩
 ·cases h
theorem FK{fd:Field}{sz:Nat}(hs:dm P fd.type=some sz)(h0:sz≠0)(ad:Addr):(fieldPlace ad fd).run P w=.ok (ad.add fd.offset) w:=by
 simp[fieldPlace,j1 hs,h0]
theorem Tn(hI:Inv gl w0 ay e a w g){o:Oper}{t:TypeId}{x:Operand}{f:Nat}(ho:o.op=.fieldAddr t x f){k:Slot→List af→Prop}
  (h:ab (kz P t f) fun fd=>ab (dm P fd.type) fun sz=>bif Nat.beq sz 0 then False else(match(Ab.bc gl e x).aa with
  | .p b off=>k (.p b (off+fd.offset)) e.boxes
  | .v y=>ab (dT y fd.offset) fun z=>k (.v z) e.boxes
  |_=>False)):bI P gl w0 ay e.an o a w k:=by
 obtain⟨fd,mO,h⟩:=aK h
 obtain⟨sz,aQ,h⟩:=aK h
 obtain⟨fs,hu,xp⟩:=CI mO
 cases hz:Nat.beq sz 0 with
 |true=>rw[hz]at h;exact h.elim
 |false=>
  rw[hz]at h
  simp only[cond_false]at h
  have h0:sz≠0:=fun h=>by rw[h]at hz;cases hz
  have bz:∀ad,a.eval x=.pointer (some ad)→(execOp a.eval o).run P w=.ok (.value (.pointer (some (ad.add fd.offset)))) w:=by
   intro ad hv
   simp[execOp,ho,Instr.fieldAt,run_underlying hu,xp,Instr.sureAddr,hv,FK aQ h0]
  split at h
  ·rename_i b off hs
   obtain⟨ao,hv,c7⟩:=(hI.lZ hs).jJ
   refine bI.value hI (bz _ hv) ?_ h
   rw[n8]
   exact .p _ _ _ _ c7
  ·rename_i y hs
   obtain⟨z,hz,hk⟩:=aK h
   obtain⟨ad,hv,nO,hr⟩:=Ly (O':=fun _ _ _=>False) hz (hI.pF hs)
   refine bI.fm hI (bz _ hv) ?_ hk
   obtain⟨b,o',sp⟩:=ad
   simp only at nO;subst nO
   rw[n8];exact hr
  ·exact h.elim
theorem T1{P:Program}{w:World}{t:TypeId}{name:String}{f:FuncId}(h:wI P t name=some f)(fuel:Nat)(v:Value):(nilAhead (fuel+1) t v name).run P w=.ok (some false) w:=by
 unfold wI at h
 split at h
 ·rename_i i hi
  split at h
  ·rename_i m hm
   split at h
   ·rename_i f' hp hf
    split at h
    ·cases h
    ·rename_i u zH hu
     have kg:(underlying t).run P w=.ok u w:=run_underlying hu w
     have lC:(typeInfo t).run P w=.ok i w:=by simp[typeInfo,go_sem,hi]
     have zF:(followBlind ([]:List FieldStep) t (some v)).run P w=.ok (.ok (t,some v)) w:=by simp[followBlind]
     unfold nilAhead
     simp only[Sem.run_bind,lC,Result.andThen_ok,hm,hp,zF,hf,kg]
     cases u<;>first|exact(zH _ rfl).elim |simp
    ·cases h
   ·cases h
  ·cases h
 ·cases h
theorem TD(hI:Inv gl w0 ay e a w g){o:Oper}{x:Operand}(ho:o.op=.nilCheck x){k:Slot→List af→Prop}
  (h:match(Ab.bc gl e x).aa with
  | .v y=>ab (Du y) fun z=>k (.v z) e.boxes
  | .t _=>False
  | .c f first cap=>(match f with
    | .func _=>k (.c f first cap) e.boxes
    | .method name=>(match first with
      | .v y::_=>ab (H6 P y name) fun _=>k (.c f first cap) e.boxes
      |_=>False)
    |_=>False)
  | .p b off=>k (.p b off) e.boxes
  |_=>False):bI P gl w0 ay e.an o a w k:=by
 split at h
 ·rename_i y hs
  obtain⟨z,hz,hk⟩:=aK h
  have hy:=hI.pF hs
  have hyz:y=z∧∃v,a.eval x=v∧(execOp a.eval o).run P w=.ok (.value v) w:=by
   unfold Du at hz
   generalize hv:a.eval x=u at hy
   split at hz<;>first|(cases hz)|skip
   ·cases hy;exact⟨rfl,_,rfl,by simp[execOp,ho,hv]⟩
   ·cases hy;exact⟨rfl,_,rfl,by simp[execOp,ho,hv]⟩
   ·rename_i f a' b'
    cases f<;>simp only[Option.some.injEq,reduceCtorEq]at hz
    cases hy;exact⟨hz,_,rfl,by simp[execOp,ho,hv]⟩
   ·rename_i f
    cases f<;>simp only[Option.some.injEq,reduceCtorEq]at hz
    cases hy with
    |d _ _ _ hd=>cases hd;exact⟨hz,_,rfl,by simp[execOp,ho,hv]⟩
  obtain⟨rfl,v,hv,hr⟩:=hyz
  rw[hv]at hy
  exact bI.fm hI hr hy hk
 ·exact h.elim
 ·rename_i f first cap hs
  have hy:=hI.lZ hs
  split at h
  ·generalize hv:a.eval x=u at hy
   have sE:=hy
   cases hy
   exact bI.value hI (by simp[execOp,ho,hv]) sE h
  ·rename_i name
   split at h
   ·rename_i y rest
    obtain⟨f',jz,h⟩:=aK h
    unfold H6 at jz
    split at jz
    ·rename_i t y0 vH
     generalize hv:a.eval x=u at hy
     have sE:=hy
     cases hy with
     |c _ _ _ _ fv cv oH pM rf rc=>
      have aQ:0<fv.size:=by rw[←oH];simp
      have h0:=rf 0 _ (fv[0]) rfl (by simp[aQ])
      cases h0 with
      |v _ _ _ h0=>
       have hd:=h0.data
       generalize he:fv[0]=u0 at hd
       cases hd with
       |iface _ _ v0 _=>
        have xq:fv[0]? =some (.iface t v0):=by rw[Array.getElem?_eq_getElem aQ,he]
        refine bI.value hI ?_ sE h
        simp only[execOp,ho,hv,xq]
        have hna:=T1 (P:=P) (w:=w) jz (P.types.size+99) v0
        simp only[Sem.run_bind,run_program,Result.andThen_ok,Made.depth]
        rw[hna]
        simp
    ·cases jz
   ·exact h.elim
  ·exact h.elim
 ·rename_i b off hs
  have hy:=hI.lZ hs
  obtain⟨ao,hv,c7⟩:=hy.jJ
  exact bI.value hI (by simp[execOp,ho,hv]) (.p _ _ _ _ c7) h
 ·exact h.elim
theorem U1(hI:Inv gl w0 ay e a w g){o:Oper}{t:TypeId}{x:Operand}(ho:o.op=.makeInterface t x){k:Slot→List af→Prop}
  (h:bif isIface P t then False else ab (DL t ((Ab.bc gl e x).aa).bu) fun r=>k (.v r) e.boxes):bI P gl w0 ay e.an o a w k:=by
 cases hi:isIface P t with
 |true=>rw[hi]at h;exact h.elim
 |false=>
  rw[hi]at h
  simp only[cond_false]at h
  obtain⟨r,hr,hk⟩:=aK h
  have hx:=hI.gX x
  generalize ((Ab.bc gl e x).aa).bu =sx at hr hx
  unfold DL at hr
  split at hr
  ·rename_i y hy
   cases hr
   refine bI.fm hI (v:=.iface t (a.eval x)) ?_ (.d _ _ _ (.iface _ _ _ (hx.cS hy))) hk
   unfold isIface at hi
   split at hi
   ·cases hi
   ·cases hi
   ·rename_i h1 h2
    obtain⟨d,hd⟩:=Option.ne_none_iff_exists'.1 (fun hn=>h2 hn)
    simp only[execOp,ho,Instr.makeInterface,Sem.run_bind,run_underlying hd,Result.andThen_ok]
    cases d<;>first|rfl|exact absurd hd (h1 _)
  ·cases hr
theorem TE(hI:Inv gl w0 ay e a w g){o:Oper}{fn:Fn}{first cap:Array Operand}(ho:o.op=.makeFunc fn first cap){k:Slot→List af→Prop}
  (h:k (.c fn (first.toList.map fun x=>((Ab.bc gl e x).aa).aa) (cap.toList.map fun x=>((Ab.bc gl e x).aa).aa)) e.boxes):bI P gl w0 ay e.an o a w k:=by
 refine bI.value hI (v:=.func fn (first.map a.eval) (cap.map a.eval)) (by simp[execOp,ho,Instr.makeFunc]) (.c _ _ _ _ _ _ (by simp) (by simp) ?_ ?_) h
 ·intro i x v hx hv
  simp only[List.getElem?_map,Option.map_eq_some_iff,Array.getElem?_map]at hx hv
  obtain⟨y,hy,rfl⟩:=hx
  obtain⟨z,hz,rfl⟩:=hv
  rw[Array.getElem?_toList]at hy
  rw[hy]at hz;cases hz
  exact(hI.bc y).aa
 ·intro i x v hx hv
  simp only[List.getElem?_map,Option.map_eq_some_iff,Array.getElem?_map]at hx hv
  obtain⟨y,hy,rfl⟩:=hx
  obtain⟨z,hz,rfl⟩:=hv
  rw[Array.getElem?_toList]at hy
  rw[hy]at hz;cases hz
  exact(hI.bc y).aa
theorem T2(hI:Inv gl w0 ay e a w g){o:Oper}{x:Operand}{i:Nat}(ho:o.op=.extract x i){k:Slot→List af→Prop}
  (h:match(Ab.bc gl e x).aa with
  | .t vs=>(match vs[i]? with|some r=>k (.v r) e.boxes|none=>False)
  |_=>False):bI P gl w0 ay e.an o a w k:=by
 split at h
 ·rename_i vs hs
  split at h
  ·rename_i r hr
   obtain⟨tv,hv,hl,hc⟩:=(hI.lZ hs).H7
   have hi:i<tv.size:=by rw[←hl];exact(List.getElem?_eq_some_iff.1 hr).1
   exact bI.fm hI (v:=tv[i]) (by simp[execOp,ho,Instr.extract,hv,hi]) (hc i r _ hr (by simp)) h
  ·exact h.elim
 ·exact h.elim
theorem U2(hI:Inv gl w0 ay e a w g){o:Oper}{t:TypeId}{x:Operand}{f:Nat}(ho:o.op=.field t x f){k:Slot→List af→Prop}
  (h:ab (kz P t f) fun fd=>ab (gy P fd.type) fun ly=>ab (nv ly.1 ly.2 fd.offset ((Ab.bc gl e x).aa).bu) fun r=>k (.v r) e.boxes):bI P gl w0 ay e.an o a w k:=by
 obtain⟨fd,mO,h⟩:=aK h
 obtain⟨⟨b,n⟩,hl,h⟩:=aK h
 obtain⟨r,hr,hk⟩:=aK h
 obtain⟨fs,hu,xp⟩:=CI mO
 have hx:=hI.gX x
 generalize ((Ab.bc gl e x).aa).bu =sx at hr hx
 unfold nv at hr
 split at hr
 ·rename_i cs
  split at hr
  ·rename_i z hz
   cases hr
   obtain⟨vs,hv,bt,hf⟩:=hx.data.tj
   obtain⟨hb,hn,h1⟩:=Dv hl
   have hle:fd.offset+n≤cs.length:=by
    unfold qf at hz
    cases b
    ·simp only[cond_false]at hz;have:=(List.getElem?_eq_some_iff.1 hz).1;rw[h1 rfl];omega
    ·simp only[cond_true]at hz;split at hz<;>first|assumption|cases hz
   obtain⟨v,hp,tU⟩:=bt.valOf (P:=P) (off:=fd.offset) hb hn h1 hle
   refine bI.fm hI (v:=v) (by simp[execOp,ho,Instr.field,run_underlying hu,xp,hv,asAgg,hp]) (.d _ _ _ ?_) hk
   unfold qf at hz
   cases b
   ·simp only[cond_false]at hz
    simp only[gY,Bool.false_eq_true,if_false]at tU
    obtain⟨x',dE,lD⟩:=tU
    have aV:=(List.getElem?_eq_some_iff.1 hz).1
    rw[h1 rfl,List.drop_eq_getElem_cons aV,List.take_succ_cons,List.take_zero]at dE
    rw[List.getElem?_eq_getElem aV]at hz
    cases hz
    simp only[List.cons.injEq,and_true]at dE
    rw[dE];exact lD
   ·simp only[cond_true,hle,↓reduceIte,Option.some.injEq]at hz
    subst hz
    simp only[gY,if_true]at tU
    obtain⟨eR,rfl,lD⟩:=tU
    exact lD.agg (fun d hd=>hf d (List.mem_of_mem_drop (List.mem_of_mem_take hd)))
  ·cases hr
 ·cases hr
theorem U3(hI:Inv gl w0 ay e a w g){o:Oper}{t:TypeId}{x i:Operand}(ho:o.op=.index t x i){k:Slot→List af→Prop}
  (h:match P.underlying t with
  |some (.array n e')=>ab (gy P e') fun ly=>ab (DK ly.1 ly.2 n ((Ab.bc gl e x).aa).bu ((Ab.bc gl e i).aa).bu) fun r=>k (.v r) e.boxes
  |some .string =>ab (lQ ((Ab.bc gl e x).aa).bu ((Ab.bc gl e i).aa).bu) fun r=>k (.v r) e.boxes
  |_=>False):bI P gl w0 ay e.an o a w k:=by
 have hx:=hI.gX x
 have hi:=hI.gX i
 generalize ((Ab.bc gl e x).aa).bu =sx at h hx
 generalize ((Ab.bc gl e i).aa).bu =si at h hi
 split at h
 ·rename_i n e' hu
  obtain⟨⟨b,m⟩,hl,h'⟩:=aK h
  clear h
  obtain⟨r,hr,hk⟩:=aK h'
  clear h'
  unfold DK at hr
  split at hr
  ·rename_i cs
   split at hr
   ·rename_i j hj
    split at hr
    ·rename_i z hz
     cases hr
     obtain⟨kk,ii,rfl,h1,h2,rfl⟩:=s8 hj
     have tV:=hi.int
     obtain⟨vs,hv,bt,hf⟩:=hx.data.tj
     obtain⟨hb,hn,ct⟩:=Dv hl
     have hle:ii.toNat*m+m≤cs.length:=by
      unfold qf at hz
      cases b
      ·simp only[cond_false]at hz;have:=(List.getElem?_eq_some_iff.1 hz).1;rw[ct rfl]at*;omega
      ·simp only[cond_true]at hz;split at hz<;>first|assumption|cases hz
     obtain⟨v,hp,tU⟩:=bt.valOf (P:=P) (off:=ii.toNat*m) hb hn ct hle
     refine bI.fm hI (v:=v) ?_ (.d _ _ _ ?_) hk
     ·simp[execOp,ho,Instr.index,tV,asIntOf,run_underlying hu,hv,h1,h2,j1 hn,hp]
     ·unfold qf at hz
      cases b
      ·simp only[cond_false]at hz
       simp only[gY,Bool.false_eq_true,if_false]at tU
       obtain⟨x',dE,lD⟩:=tU
       have aV:=(List.getElem?_eq_some_iff.1 hz).1
       rw[ct rfl]at dE hz aV
       rw[List.drop_eq_getElem_cons aV,List.take_succ_cons,List.take_zero]at dE
       rw[List.getElem?_eq_getElem aV]at hz
       cases hz
       simp only[List.cons.injEq,and_true]at dE
       rw[dE];exact lD
      ·simp only[cond_true,hle,↓reduceIte,Option.some.injEq]at hz
       subst hz
       simp only[gY,if_true]at tU
       obtain⟨eR,rfl,lD⟩:=tU
       exact lD.agg (fun d hd=>hf d (List.mem_of_mem_drop (List.mem_of_mem_take hd)))
    ·cases hr
   ·cases hr
  ·cases hr
 ·rename_i hu
  obtain⟨r,hr,hk⟩:=aK h
  unfold lQ at hr
  split at hr
  ·rename_i s
   split at hr
   ·rename_i j hj
    split at hr
    ·rename_i c hc
     cases hr
     obtain⟨kk,ii,rfl,h1,h2,rfl⟩:=s8 hj
     have tV:=hi.int
     obtain⟨bs,hv,hs,_⟩:=hx.data.ti
     have aV:ii.toNat<bs.size:=by
      rw[hs]at h2
      simp only[Array.length_toList]at h2
      have:bs.size=bs.data.size:=rfl
      omega
     have hg:bs[ii.toNat]? =some c:=by
      rw[hs]at hc
      rw[getElem?_pos bs ii.toNat aV]
      have:bs.data.toList[ii.toNat]? =some bs[ii.toNat]:=by
       rw[Array.getElem?_toList,Array.getElem?_eq_getElem aV]
       rfl
      rw[this]at hc
      exact hc
     refine bI.fm hI (v:=.int .u8 c.toNat) ?_ (.d _ _ _ (.int _ _ ?_)) hk
     ·simp[execOp,ho,Instr.index,tV,asIntOf,run_underlying hu,hv,h1,hg]
     ·have:=c.toNat_lt
      simp[gv,IntKind.min,IntKind.max,IntKind.signed,IntKind.bits]
      omega
    ·cases hr
   ·cases hr
  ·cases hr
 ·exact h.elim
theorem Lz{sz:Nat}{x:SV}{L:List D}(h:elems sz x=some L){St:Nat→Nat→Prop}{base:Nat}{O:Nat→Nat→Nat→Prop}{v:Value}(r:bd w St base O x v):
  ((v=.slice none 0 0∨∃ad c,v=.slice (some ad) 0 c)∧L=[])∨∃(b off cap:Nat) (vs:Nat→Value),v=.slice (some ⟨b,off,none⟩) L.length cap∧L.length≤cap∧L.length≤maxLen∧(∀x∈L,x.cells.length=sz)∧(∀x∈L,∀c∈x.cells,c.one=true)∧
    (∀(o:Nat),o<L.length*sz→w.cell? ⟨b,off+o,none⟩=some (vs o)∧St b (off+o))∧
    (∀(i:Nat)x(j:Nat)c,L[i]? =some x→x.cells[j]? =some c→bj w St c (vs (i*sz+j))):=by
 have go:∀{s L' v},bj w St (.sl .ro s L') v→((v=.slice none 0 0∨∃ad c,v=.slice (some ad) 0 c)∧L'=[])∨∃(b off cap:Nat) (vs:Nat→Value),v=.slice (some ⟨b,off,none⟩) L'.length cap∧L'.length≤cap∧L'.length≤maxLen∧(∀x∈L',x.cells.length=s)∧(∀x∈L',∀c∈x.cells,c.one=true)∧
   (∀(o:Nat),o<L'.length*s→w.cell? ⟨b,off+o,none⟩=some (vs o)∧St b (off+o))∧
   (∀(i:Nat)x(j:Nat)c,L'[i]? =some x→x.cells[j]? =some c→bj w St c (vs (i*s+j))):=by
  intro s L' v hd
  cases hd with
  |sl _ _ b off cap vs b9 hm aQ hf bF hc=>exact .inr ⟨b,off,cap,vs,rfl,b9,hm,aQ,hf,bF,hc⟩
  |jN _ ad c _=>exact .inl ⟨.inr ⟨ad,c,rfl⟩,rfl⟩
 unfold elems at h
 split at h
 ·rename_i k s L'
  split at h
  ·cases h
   have hd:=r.data
   cases hd
   exact .inl ⟨.inl rfl,rfl⟩
  ·split at h
   ·rename_i hs;cases h;subst hs;exact go r.data
   ·cases h
 ·split at h
  ·rename_i hs;cases h;subst hs
   cases r with
   |own _ _ _ gg cap hd b9 ho=>exact go hd
  ·cases h
 ·split at h
  ·rename_i hs;cases h;subst hs
   cases r with
   |full _ _ _ ad hd=>exact go hd
  ·cases h
 ·cases h
theorem To(hI:Inv gl w0 ay e a w g){o:Oper}{t:TypeId}{x i:Operand}(ho:o.op=.indexAddr t x i){k:Slot→List af→Prop}
  (h:match P.underlying t with
  |some (.slice e')=>ab (dm P e') fun sz=>ab (aL sz ((Ab.bc gl e x).aa).bu ((Ab.bc gl e i).aa).bu) fun r=>k (.v r) e.boxes
  |some (.array n e')=>ab (dm P e') fun sz=>ab (dD ((Ab.bc gl e i).aa).bu n) fun j=>(match(Ab.bc gl e x).aa with
   | .p b off=>k (.p b (off+j*sz)) e.boxes
   | .v y=>ab (dT y (j*sz)) fun z=>k (.v z) e.boxes
   |_=>False)
  |_=>False):bI P gl w0 ay e.an o a w k:=by
 have hi:=hI.gX i
 generalize ((Ab.bc gl e i).aa).bu =si at h hi
 split at h
 ·rename_i e' hu
  obtain⟨sz,aQ,h⟩:=aK h
  obtain⟨r,hr,hk⟩:=aK h
  have hx:=hI.gX x
  generalize ((Ab.bc gl e x).aa).bu =sx at hr hx
  unfold aL at hr
  split at hr
  ·rename_i L hL
   split at hr
   ·rename_i j hj
    split at hr
    ·rename_i y hy
     cases hr
     obtain⟨kk,ii,rfl,h1,h2,rfl⟩:=s8 hj
     have tV:=hi.int
     rcases Lz hL hx with⟨_,rfl⟩|⟨b,off,cap,vs,hv,b9,hm,hs,hf,bF,hc⟩
     ·simp at h2;omega
     ·have aV:ii.toNat<L.length:=(List.getElem?_eq_some_iff.1 hy).1
      have eD:y∈L:=List.mem_of_getElem? hy
      refine bI.fm hI (v:=.pointer (some ⟨b,off+ii.toNat*sz,none⟩)) ?_ ?_ hk
      ·have:=n8 b off (ii.toNat*sz)
       simp[execOp,ho,Instr.indexAt,tV,asIntOf,run_underlying hu,hv,h1,h2,j1 aQ,this]
      ·refine .aA _ y 0 b (off+ii.toNat*sz) (fun j=>vs (ii.toNat*sz+j)) (hf y eD) (fun j kh=>?_) (fun j c e8=>hc _ y j c hy e8)
       have:ii.toNat*sz+j<L.length*sz:=by
        rw[hs y eD]at kh
        have:(ii.toNat+1)*sz≤L.length*sz:=Nat.mul_le_mul_right _ aV
        rw[Nat.succ_mul]at this;omega
       rw[Nat.add_assoc]
       exact bF _ this
    ·cases hr
   ·cases hr
  ·cases hr
 ·rename_i n e' hu
  obtain⟨sz,aQ,h⟩:=aK h
  obtain⟨j,hj,h⟩:=aK h
  obtain⟨kk,ii,rfl,h1,h2,rfl⟩:=s8 hj
  have tV:=hi.int
  have bz:∀ad,a.eval x=.pointer (some ad)→(execOp a.eval o).run P w=.ok (.value (.pointer (some (ad.add (ii.toNat*sz))))) w:=by
   intro ad hv
   simp[execOp,ho,Instr.indexAt,tV,asIntOf,run_underlying hu,Instr.sureAddr,hv,h1,h2,j1 aQ]
  split at h
  ·rename_i b off hs
   obtain⟨ao,hv,c7⟩:=(hI.lZ hs).jJ
   refine bI.value hI (bz _ hv) ?_ h
   rw[n8]
   exact .p _ _ _ _ c7
  ·rename_i y hs
   obtain⟨z,hz,hk⟩:=aK h
   obtain⟨ad,hv,nO,hr⟩:=Ly (O':=fun _ _ _=>False) hz (hI.pF hs)
   refine bI.fm hI (bz _ hv) ?_ hk
   obtain⟨b,o',sp⟩:=ad
   simp only at nO;subst nO
   rw[n8];exact hr
  ·exact h.elim
 ·exact h.elim
end
end Go.Proofs.YtaknajjmldngiaaGreat.Ab
namespace Go.Proofs.YtaknajjmldngiaaGreat.Ab
open Go Go.RowKit
section
variable{P:Program}{gl:Nat→Option D}{w0:World}{ay:S0}{e:Env}{a:Act}{w:World}{g:Gh}
inductive yO(w:World)(St:Nat→Nat→Prop)(base:Nat):Option SV→Option Value→Prop
 |none:yO w St base none none
 |some (s:SV) (v:Value) (h:bd w St base (fun _ _ _=>False) s v):yO w St base (some s) (some v)
theorem Inv.opt(hI:Inv gl w0 ay e a w g)(x:Option Operand):yO w g.St w0.heap.size (Ab.lV (fun x=>(Ab.bc gl e x).aa) x) (x.map a.eval):=by
 cases x with
 |none=>exact .none
 |some y=>exact .some _ _ (hI.gX y)
theorem xY{n m:Nat}(c:BoundsCode){x:SV}{j:Nat}(h:dD x (n+1)=some j)(hm:n≤m){St:Nat→Nat→Prop}{base:Nat}{O:Nat→Nat→Nat→Prop}{v:Value}(r:bd w St base O x v):
  (Instr.sliceBound v m c).run P w=.ok j w∧j≤n:=by
 obtain⟨kk,ii,rfl,h1,h2,rfl⟩:=s8 h
 have hv:=r.int
 refine⟨?_,by omega⟩
 have:0≤ii∧ii≤(m:Int):=⟨h1,by omega⟩
 simp[Instr.sliceBound,hv,asIntOf,this]
theorem CP{n cap:Nat}(QD:Bool)(hc:n≤cap){lo hi:Option SV}{B3 B4:Option Value}{St:Nat→Nat→Prop}{base:Nat}(oI:yO w St base lo B3)(qL:yO w St base hi B4)
  {hh ll:Nat}(h1:tB n hi=some hh)(h2:qo hh lo=some ll):
  (Instr.sliceBounds QD n cap B3 B4 none).run P w=.ok (ll,hh,cap) w∧hh≤n∧ll≤hh:=by
 unfold Instr.sliceBounds
 cases qL with
 |none=>
  simp only[tB,Option.some.injEq]at h1
  subst h1
  cases oI with
  |none=>simp only[qo,Option.some.injEq]at h2;subst h2;exact⟨by simp,Nat.le_refl _,Nat.zero_le _⟩
  |some s v r=>
   obtain⟨q1,q2⟩:=xY (P:=P) (w:=w) .sliceB h2 (Nat.le_refl _) r
   exact⟨by simp[q1],Nat.le_refl _,q2⟩
 |some s v r=>
  obtain⟨p1,p2⟩:=xY (P:=P) (w:=w) (if QD then .sliceAcap else .sliceAlen) h1 hc r
  cases oI with
  |none=>simp only[qo,Option.some.injEq]at h2;subst h2;exact⟨by simp[p1],p2,Nat.zero_le _⟩
  |some s v r=>
   obtain⟨q1,q2⟩:=xY (P:=P) (w:=w) .sliceB h2 (Nat.le_refl _) r
   exact⟨by simp[p1,q1],p2,q2⟩
theorem FZ{n cap:Nat}(hc:n≤cap){lo:Option SV}{hi mx:SV}{B3:Option Value}{B4 QE:Value}{St:Nat→Nat→Prop}{base:Nat}(oI:yO w St base lo B3)
  (qL:bd w St base (fun _ _ _=>False) hi B4)(tW:bd w St base (fun _ _ _=>False) mx QE)
  {hh mm ll:Nat}(h0:dD mx (n+1)=some mm)(h1:dD hi (n+1)=some hh)(he:hh=mm)(h2:qo hh lo=some ll):
  (Instr.sliceBounds true n cap B3 (some B4) (some QE)).run P w=.ok (ll,hh,hh) w∧hh≤n∧ll≤hh:=by
 unfold Instr.sliceBounds
 subst he
 obtain⟨o1,o2⟩:=xY (P:=P) (w:=w) .slice3Acap h0 hc tW
 have tX:dD hi (hh+1)=some hh:=by
  obtain⟨kk,ii,rfl,a1,a2,a3⟩:=s8 h1
  simp only[dD]
  rw[if_pos (by omega),←a3]
 obtain⟨p1,_⟩:=xY (P:=P) (w:=w) .slice3B tX (Nat.le_refl _) qL
 cases oI with
 |none=>simp only[qo,Option.some.injEq]at h2;subst h2;exact⟨by simp[o1,p1],o2,Nat.zero_le _⟩
 |some s v r=>
  obtain⟨q1,q2⟩:=xY (P:=P) (w:=w) .slice3C h2 (Nat.le_refl _) r
  exact⟨by simp[o1,p1,q1],o2,q2⟩
theorem LP{L:List D}{lo hi:Option SV}{r:List D}(h:y6 L lo hi=some r):∃hh ll,tB L.length hi=some hh∧
  qo hh lo=some ll∧r=(L.take hh).drop ll:=by
 unfold y6 at h
 split at h
 ·rename_i hh h1
  split at h
  ·rename_i ll h2
   cases h
   exact⟨hh,ll,h1,h2,rfl⟩
  ·cases h
 ·cases h
theorem NR{St:Nat→Nat→Prop}{sz:Nat}{L:List D}{b off cap hh ll c':Nat}(h:bj w St (.sl .ro sz L) (.slice (some ⟨b,off,none⟩) L.length cap))(hh':hh≤L.length)(hl:ll≤hh)(hc:hh-ll≤c'):
  bj w St (.sl .ro sz ((L.take hh).drop ll)) (.slice (some ⟨b,off+ll*sz,none⟩) (hh-ll) c'):=by
 cases h with
 |jN _ _ _ ha=>exact absurd rfl ha
 |sl _ _ _ _ _ vs b9 hm aQ hf bF hc=>
  have hlen:((L.take hh).drop ll).length =hh-ll:=by simp;omega
  have:=bj.sl (w:=w) (St:=St) sz ((L.take hh).drop ll) b (off+ll*sz) c' (fun o=>vs (ll*sz+o)) (by omega) (by omega)
   (fun x hx=>aQ x (List.mem_of_mem_take (List.mem_of_mem_drop hx))) (fun x hx=>hf x (List.mem_of_mem_take (List.mem_of_mem_drop hx)))
   (fun o ho=>by
     rw[hlen]at ho
     rw[Nat.add_assoc]
     refine bF (ll*sz+o) ?_
     have:ll*sz+(hh-ll)*sz=hh*sz:=by rw[←Nat.add_mul];congr 1;omega
     have:hh*sz≤L.length*sz:=Nat.mul_le_mul_right _ hh'
     omega)
   (fun i x j c hx e8=>by
     rw[List.getElem?_drop,List.getElem?_take]at hx
     split at hx
     ·have:=hc (ll+i) x j c hx e8
      rw[Nat.add_mul,Nat.add_assoc]at this
      exact this
     ·cases hx)
  rw[hlen]at this
  exact this
theorem U4(hI:Inv gl w0 ay e a w g){o:Oper}{t:TypeId}{x:Operand}{lo hi mx:Option Operand}(ho:o.op=.slice t x lo hi mx){k:Slot→List af→Prop}
  (h:ab (DJ P t (Ab.aa ((Ab.bc gl e x).aa).bu) (Ab.lV (fun x=>(Ab.bc gl e x).aa) lo) (Ab.lV (fun x=>(Ab.bc gl e x).aa) hi) (Ab.lV (fun x=>(Ab.bc gl e x).aa) mx)) fun r=>k (.v r) e.boxes):
  bI P gl w0 ay e.an o a w k:=by
 obtain⟨r,hr,hk⟩:=aK h
 clear h
 have hx:=(hI.gX x).aa (O':=fun _ _ _=>False)
 have oI:=hI.opt lo
 have qL:=hI.opt hi
 have tW:=hI.opt mx
 generalize Ab.aa ((Ab.bc gl e x).aa).bu =sx at hr hx
 generalize Ab.lV (fun x=>(Ab.bc gl e x).aa) lo=slo at hr oI
 generalize Ab.lV (fun x=>(Ab.bc gl e x).aa) hi=shi at hr qL
 generalize Ab.lV (fun x=>(Ab.bc gl e x).aa) mx=smx at hr tW
 unfold DJ at hr
 split at hr
 ·
  rename_i hu
  split at hr
  ·rename_i s
   split at hr
   ·rename_i l hl
    cases hr
    obtain⟨bs,hv,hs,lp⟩:=hx.data.ti
    unfold DI at hl
    split at hl
    ·rename_i hh h1
     split at hl
     ·rename_i ll h2
      cases hl
      have jb:s.length=bs.size:=by rw[hs,Array.length_toList];rfl
      rw[jb]at h1
      have hb:=CP (P:=P) (w:=w) false (Nat.le_refl bs.size) oI qL h1 h2
      have e2:mx.map a.eval=none:=by generalize mx.map a.eval=q at tW;cases tW;rfl
      refine bI.fm hI (v:=.string (bs.extract ll hh)) ?_ (.d _ _ _ ?_) hk
      ·simp[execOp,ho,Instr.sliceAt,run_underlying hu,Instr.slice,hv,hb.1,e2]
      ·have:(bs.extract ll hh).data.toList =(s.take hh).drop ll:=by
        rw[hs,ByteArray.data_extract,Array.toList_extract,List.extract_eq_drop_take']
       rw[←this]
       refine .str _ ?_
       have:(bs.extract ll hh).size ≤bs.size:=by rw[ByteArray.size_extract];omega
       omega
     ·cases hl
    ·cases hl
   ·cases hr
  ·cases hr
 ·
  rename_i e' hu
  split at hr
  ·rename_i kk sz L s hL hs
   have hd:=hx.cS hL
   split at hr
   ·
    rename_i rr Iz
    obtain⟨hh,ll,h1,h2,rfl⟩:=LP Iz
    have e2:mx.map a.eval=none:=by generalize mx.map a.eval=q at tW;cases tW;rfl
    split at hr
    ·cases hr
     generalize hv:a.eval x=u at hd
     cases hd
     have hb:=CP (P:=P) (w:=w) true (Nat.le_refl 0) oI qL h1 h2
     have tY:ll=0:=by have:=hb.2;simp at this;omega
     have vH:hh=0:=by have:=hb.2;simp at this;omega
     subst tY vH
     refine bI.fm hI (v:=.slice none 0 0) ?_ (.d _ _ _ (.jm _)) hk
     simp[execOp,ho,Instr.sliceAt,run_underlying hu,Instr.slice,hv,hb.1,e2,j1 hs]
    ·split at hr
     ·rename_i aQ
      cases hr
      subst aQ
      generalize hv:a.eval x=u at hd
      have jP:=hd
      cases hd with
      |jN _ ad cap ha=>
       have hb:=CP (P:=P) (w:=w) true (Nat.zero_le cap) oI qL h1 h2
       have tY:ll=0:=by have:=hb.2;simp at this;omega
       have vH:hh=0:=by have:=hb.2;simp at this;omega
       subst tY vH
       refine bI.fm hI (v:=.slice (some ad) 0 cap) ?_ (.d _ _ _ (.jN _ ad cap ha)) hk
       simp only[execOp,ho,Instr.sliceAt,Sem.run_bind,run_underlying hu,Result.andThen_ok,Instr.slice,hv,e2,hb.1,j1 hs]
       by_cases dw:cap=0
       ·simp[dw]
       ·simp[dw]
        rfl
      |sl _ _ b off cap vs b9 hm _ hf bF hc=>
       have hb:=CP (P:=P) (w:=w) true b9 oI qL h1 h2
       refine bI.fm hI (v:=.slice (some (if cap=ll then⟨b,off,none⟩else⟨b,off+ll*sz,none⟩)) (hh-ll) (cap-ll)) ?_ (.d _ _ _ ?_) hk
       ·have:=n8 b off (ll*sz)
        simp only[execOp,ho,Instr.sliceAt,Sem.run_bind,run_underlying hu,Result.andThen_ok,Instr.slice,hv,e2,hb.1,j1 hs]
        by_cases dw:cap=ll
        ·simp[dw]
        ·simp[dw,this]
       ·by_cases dw:cap=ll
        ·have hhl:hh=ll:=by omega
         have QF:ll=L.length:=by omega
         simp only[dw,↓reduceIte]
         have e0:(L.take hh).drop ll=[]:=List.drop_eq_nil_of_le (by simp;omega)
         rw[e0]
         have:=bj.sl (w:=w) (St:=g.St) sz [] b off (ll-ll) vs (by simp) (by simp) (by simp) (by simp) (by simp) (by simp)
         simpa[hhl]using this
        ·simp only[dw,↓reduceIte]
         exact NR jP hb.2.1 hb.2.2 (by omega)
     ·cases hr
   ·
    rename_i rr m Iz
    obtain⟨hh,ll,h1,h2,rfl⟩:=LP Iz
    split at hr
    ·rename_i JC mm xr
     split at hr
     ·rename_i k1 av k2 bv
      split at hr
      ·rename_i mP
       simp only[tB]at h1
       have JD:hh=mm:=by
        obtain⟨_,i1,q1,_,_,q2⟩:=s8 h1
        obtain⟨_,i2,q3,_,_,q4⟩:=s8 xr
        cases q1;cases q3;rw[q2,q4,mP]
       generalize EU:hi.map a.eval=qh at qL
       generalize EV:mx.map a.eval=qm at tW
       cases qL with
       |some _ vh rh=>
        cases tW with
        |some _ vm rm=>
         split at hr
         ·cases hr
          generalize hv:a.eval x=u at hd
          cases hd
          have hb:=FZ (P:=P) (w:=w) (Nat.le_refl 0) oI rh rm xr h1 JD h2
          have tY:ll=0:=by have:=hb.2;simp at this;omega
          have vH:hh=0:=by have:=hb.2;simp at this;omega
          subst tY vH
          refine bI.fm hI (v:=.slice none 0 0) ?_ (.d _ _ _ (.jm _)) hk
          simp[execOp,ho,Instr.sliceAt,run_underlying hu,Instr.slice,hv,hb.1,EU,EV,j1 hs]
         ·split at hr
          ·rename_i aQ
           cases hr
           subst aQ
           generalize hv:a.eval x=u at hd
           have jP:=hd
           cases hd with
           |jN _ ad cap ha=>
            have hb:=FZ (P:=P) (w:=w) (Nat.zero_le cap) oI rh rm xr h1 JD h2
            have tY:ll=0:=by have:=hb.2;simp at this;omega
            have vH:hh=0:=by have:=hb.2;simp at this;omega
            subst tY vH
            refine bI.fm hI (v:=.slice (some ad) 0 0) ?_ ?_ hk
            ·simp[execOp,ho,Instr.sliceAt,run_underlying hu,Instr.slice,hv,hb.1,EU,EV,j1 hs]
            ·exact .full _ sz [] ad (.jN sz ad 0 ha)
           |sl _ _ b off cap vs b9 hm _ hf bF hc=>
            have hb:=FZ (P:=P) (w:=w) b9 oI rh rm xr h1 JD h2
            have hlen:((L.take hh).drop ll).length =hh-ll:=by simp;omega
            by_cases dw:hh=ll
            ·subst dw
             have e0:(L.take hh).drop hh=[]:=List.drop_eq_nil_of_le (by simp;omega)
             rw[e0]at hk
             refine bI.fm hI (v:=.slice (some ⟨b,off,none⟩) 0 0) ?_ ?_ hk
             ·simp[execOp,ho,Instr.sliceAt,run_underlying hu,Instr.slice,hv,hb.1,EU,EV,j1 hs]
             ·exact .full _ sz [] ⟨b,off,none⟩ (bj.sl sz [] b off 0 vs (by simp) (by simp) (by simp) (by simp) (by simp) (by simp))
            ·refine bI.fm hI (v:=.slice (some ⟨b,off+ll*sz,none⟩) (hh-ll) (hh-ll)) ?_ ?_ hk
             ·have:=n8 b off (ll*sz)
              simp[execOp,ho,Instr.sliceAt,run_underlying hu,Instr.slice,hv,hb.1,EU,EV,j1 hs,dw,this]
             ·have:=NR (c':=hh-ll) jP hb.2.1 hb.2.2 (Nat.le_refl _)
              rw[←hlen]at this ⊢
              exact .full _ sz _ _ this
          ·cases hr
      ·cases hr
     ·cases hr
    ·cases hr
   ·cases hr
  ·cases hr
 ·cases hr
end
end Go.Proofs.YtaknajjmldngiaaGreat.Ab
namespace Go.Proofs.YtaknajjmldngiaaGreat.Ab
open Go Go.RowKit
section
variable{P:Program}{gl:Nat→Option D}{w0:World}{ay:S0}{e:Env}{a:Act}{w:World}{g:Gh}
theorem W0(hI:Inv gl w0 ay e a w g){o:Oper}{c:Call}(ho:o.op=.call c)(hc:c.callee=.builtin .len){x:Operand}{xs:List Operand}{t:TypeId}{ts:List TypeId}
  (hx:c.args.toList=x::xs)(ht:c.argTypes.toList=t::ts){k:Slot→List af→Prop}(h:ab (En P t ((Ab.bc gl e x).aa).bu) fun r=>k (.v r) e.boxes):bI P gl w0 ay e.an o a w k:=by
 obtain⟨r,hr,hk⟩:=aK h
 have dE:=hI.gX x
 generalize ((Ab.bc gl e x).aa).bu =sx at hr dE
 have h0:c.args[0]? =some x:=by rw[←Array.getElem?_toList,hx];rfl
 have h1:c.argTypes[0]? =some t:=by rw[←Array.getElem?_toList,ht];rfl
 have bz:∀v,(Builtin.len_ c.argTypes o.type (c.args.map a.eval)).run P w=.ok v w→(execOp a.eval o).run P w=.ok (.value v) w:=by
  intro v hv
  simp[execOp,ho,resolve,hc,invoke,builtin,hv]
 unfold En at hr
 split at hr
 ·rename_i hu
  split at hr
  ·rename_i s
   cases hr
   obtain⟨bs,hv,hs,hm⟩:=dE.data.ti
   refine bI.fm hI (v:=.int .i64 bs.size) (bz _ ?_) (.d _ _ _ ?_) hk
   ·simp[Builtin.len_,h0,h1,run_underlying hu,hv,goInt]
   ·have:(bs.size:Int)=(s.length:Int):=by rw[hs,Array.length_toList];rfl
    rw[this]
    refine .int _ _ ?_
    have:s.length=bs.size:=by rw[hs,Array.length_toList];rfl
    simp only[maxLen]at hm
    simp[gv,IntKind.min,IntKind.max,IntKind.signed,IntKind.bits]
    omega
  ·cases hr
 ·rename_i n e' hu
  cases hb:Nat.ble n maxLen with
  |false=>rw[hb]at hr;cases hr
  |true=>
   rw[hb]at hr
   cases hr
   have hm:=Nat.le_of_ble_eq_true hb
   refine bI.fm hI (v:=.int .i64 n) (bz _ ?_) (.d _ _ _ (.int _ _ ?_)) hk
   ·simp[Builtin.len_,h0,h1,run_underlying hu,goInt]
   ·simp only[maxLen]at hm
    simp[gv,IntKind.min,IntKind.max,IntKind.signed,IntKind.bits]
    omega
 ·rename_i e' hu
  split at hr
  ·rename_i L hL
   cases hr
   have key:∃ad cap,a.eval x=.slice ad L.length cap∧L.length≤maxLen:=by
    have go:∀{s L' v},bj w g.St (.sl .ro s L') v→∃ad cap,v=.slice ad L'.length cap∧L'.length≤maxLen:=by
     intro s L' v hd
     cases hd with
     |sl _ _ b off cap vs b9 hm aQ hf bF hc=>exact⟨_,_,rfl,hm⟩
     |jN _ ad c _=>exact⟨_,_,rfl,by simp⟩
    unfold yq at hL
    split at hL
    ·rename_i k' s' L'
     cases hL
     have hd:=dE.data
     cases k'
     ·generalize a.eval x=u at hd;cases hd;exact⟨_,_,rfl,by simp⟩
     ·exact go hd
    ·cases hL
     generalize a.eval x=u at dE
     cases dE with
     |own _ _ _ gg cap hd b9 ho=>exact go hd
    ·cases hL
     generalize a.eval x=u at dE
     cases dE with
     |full _ _ _ ad hd=>exact go hd
    ·cases hL
   obtain⟨ad,cap,hv,hm⟩:=key
   refine bI.fm hI (v:=.int .i64 L.length) (bz _ ?_) (.d _ _ _ (.int _ _ ?_)) hk
   ·simp[Builtin.len_,h0,h1,run_underlying hu,hv,goInt]
   ·simp only[maxLen]at hm
    simp[gv,IntKind.min,IntKind.max,IntKind.signed,IntKind.bits]
    omega
  ·cases hr
 ·cases hr
theorem K7(off:Nat):∀(l:List Value)(k:Nat)(cells:Array Value)(i:Nat),off+k+l.length≤cells.size→
  ((l.zipIdx k).foldl (fun cs(c,j)=>cs.setIfInBounds (off+j) c) cells).size =cells.size∧
  ((l.zipIdx k).foldl (fun cs(c,j)=>cs.setIfInBounds (off+j) c) cells)[i]? =if off+k≤i∧i<off+k+l.length then l[i-(off+k)]? else cells[i]?
 |[],k,cells,i,_=>by
  refine⟨rfl,?_⟩
  rw[if_neg (by simp;try omega)]
  simp
 |v::l,k,cells,i,h=>by
  simp only[List.length_cons]at h
  simp only[List.zipIdx_cons,List.foldl_cons]
  obtain⟨h1,h2⟩:=K7 off l (k+1) (cells.setIfInBounds (off+k) v) i (by simp;omega)
  refine⟨by rw[h1];simp,?_⟩
  rw[h2]
  by_cases hi:i=off+k
  ·subst hi
   rw[if_neg (by omega),if_pos (by simp)]
   simp only[Nat.sub_self,List.getElem?_cons_zero]
   rw[Array.getElem?_setIfInBounds_self]
   rw[if_pos (by omega)]
  ·by_cases hr:off+(k+1)≤i∧i<off+(k+1)+l.length
   ·rw[if_pos hr,if_pos (by simp;omega)]
    have:i-(off+k)=(i-(off+(k+1)))+1:=by omega
    rw[this,List.getElem?_cons_succ]
   ·rw[if_neg hr,if_neg (by simp;omega),Array.getElem?_setIfInBounds_ne (by omega)]
def GK(w:World)(St:Nat→Nat→Prop):List (Nat×D)→List (Nat×Value)→Prop
 |[],[]=>True
 |(i,d)::l,(j,v)::m=>i=j∧bj w St d v∧GK w St l m
 |_,_=>False
theorem bj.VQ{St:Nat→Nat→Prop}{d:D}{v:Value}(r:bj w St d v):j9 w St d.cells v.cells:=by
 by_cases h:d.one=true
 ·have h1:=r.rG h
  have hc:d.cells=[d]:=by cases d<;>first|rfl|simp[D.one]at h
  have hv:v.cells= #[v]:=by cases v<;>first|rfl|simp[Value.oneCell']at h1
  rw[hc,hv]
  refine⟨rfl,fun i x y hx hy=>?_⟩
  cases i with
  |zero=>simp at hx hy;subst hx hy;exact r
  |succ i=>simp at hx
 ·cases d<;>simp only[D.one,not_true_eq_false]at h
  obtain⟨vs,rfl,hr,_⟩:=r.tj
  exact hr
theorem GL{St:Nat→Nat→Prop}(place:Nat→Option (Nat×Nat)):∀(ps:List (Nat×D))(qs:List (Nat×Value))(cs:List D)(cells:Array Value)(r:List D),
  GK w St ps qs→j9 w St cs cells→(∀d∈cs,d.one=true)→qg place cs ps=some r→
  ∃r',Instr.fill place cells qs=some r'∧j9 w St r r'∧∀d∈r,d.one=true
 |[],[],cs,cells,r,_,hc,hf,h=>by
  simp only[qg,Option.some.injEq]at h
  subst h
  exact⟨cells,rfl,hc,hf⟩
 |(i,d)::ps,(j,v)::qs,cs,cells,r,hp,hc,hf,h=>by
  obtain⟨rfl,hd,hp⟩:=hp
  simp only[qg]at h
  split at h
  ·cases h
  ·rename_i off sz jA
   split at h
   ·rename_i y8
    have QG:=hd.VQ
    have aQ:v.cells.size=sz:=by rw[←QG.1];exact y8.1
    have hle:off+sz≤cells.size:=by rw[←hc.1];exact y8.2
    have hg:=fun i=>K7 off v.cells.toList 0 cells i (by simp[aQ];omega)
    simp only[Nat.add_zero,Array.length_toList,aQ]at hg
    have adt:v.cells.zipIdx.foldl (fun cs(c,j)=>cs.setIfInBounds (off+j) c) cells=(v.cells.toList.zipIdx.foldl (fun cs(c,j)=>cs.setIfInBounds (off+j) c) cells):=by
     rw[←Array.foldl_toList,Array.toList_zipIdx]
    obtain⟨r',h1,h2,h3⟩:=GL place ps qs _ (v.cells.zipIdx.foldl (fun cs(c,j)=>cs.setIfInBounds (off+j) c) cells) r hp (by
     rw[adt]
     constructor
     ·rw[(hg 0).1,←hc.1];simp[y8.1];omega
     ·intro i x y hx hy
      rw[(hg i).2]at hy
      have:=s9 cs d.cells off (by rw[y8.1];exact y8.2) i
      rw[y8.1]at this
      rw[this]at hx
      split at hx
      ·rename_i h1
       rw[if_neg (by omega)]at hy
       exact hc.2 i x y hx hy
      ·rename_i h1
       split at hx
       ·rename_i h2
        rw[if_pos (by omega)]at hy
        rw[Array.getElem?_toList]at hy
        exact QG.2 _ x y hx hy
       ·rename_i h2
        rw[if_neg (by omega)]at hy
        exact hc.2 i x y hx hy) (by
     intro x hx
     simp only[List.mem_append]at hx
     rcases hx with(hx|hx)|hx
     ·exact hf x (List.mem_of_mem_take hx)
     ·exact hd.Mn x hx
     ·exact hf x (List.mem_of_mem_drop hx)) h
    refine⟨r',?_,h2,h3⟩
    rw[Instr.fill]
    simp only[jA,aQ]
    rw[if_neg (by simp;omega)]
    exact h1
   ·cases h
 |[],_::_,_,_,_,h,_,_,_=>h.elim
 |_::_,[],_,_,_,h,_,_,_=>h.elim
theorem F9(hI:Inv gl w0 ay e a w g):∀{ps:List (Nat×Operand)}{l:List (Nat×D)},kX (fun x=>(Ab.bc gl e x).aa) ps=some l→GK w g.St l (ps.map fun(i,x)=>(i,a.eval x))
 |[],l,h=>by simp only[kX,Option.some.injEq]at h;subst h;trivial
 |(i,x)::ps,l,h=>by
  simp only[kX]at h
  split at h
  ·rename_i y hy
   split at h
   ·rename_i z hz
    split at h
    ·rename_i r hr
     cases h
     exact⟨rfl,(hI.pF hy).cS hz,F9 hI hr⟩
    ·cases h
   ·cases h
  ·cases h
theorem LA:∀{fs:List Field}{l:List (Nat×Nat)},AD P fs=some l→(fs.mapM (m:=Sem) fun f=>do pure (f.offset,←sizeOf f.type)).run P w=.ok l w
 |[],l,h=>by simp only[AD,Option.some.injEq]at h;subst h;rfl
 |f::fs,l,h=>by
  simp only[AD]at h
  split at h
  ·rename_i s hs
   split at h
   ·rename_i r hr
    cases h
    simp only[List.mapM_cons,Sem.run_bind,j1 hs,Result.andThen_ok,Sem.run_pure,LA hr]
   ·cases h
  ·cases h
theorem U5(hI:Inv gl w0 ay e a w g){o:Oper}{t:TypeId}{ps:Array (Nat×Operand)}(ho:o.op=.build t ps){k:Slot→List af→Prop}
  (h:ab (kX (fun x=>(Ab.bc gl e x).aa) ps.toList) fun l=>ab (bZ P t l) fun r=>k (.v (.d r)) e.boxes):bI P gl w0 ay e.an o a w k:=by
 obtain⟨l,hl,h⟩:=aK h
 obtain⟨r,hr,hk⟩:=aK h
 have hp:=F9 hI hl
 unfold bZ at hr
 split at hr
 ·rename_i z hz
  split at hr
  ·rename_i pl jA
   split at hr
   ·rename_i cs cp
    cases hr
    obtain⟨zv,vI,B5,A3,H9⟩:=FP hz
    obtain⟨r',h1,h2,h3⟩:=GL (w:=w) (St:=g.St) pl l _ z zv.cells cs hp ⟨B5,fun i x v=>H9 w g.St i x v⟩ A3 cp
    refine bI.fm hI (v:=.agg r') ?_ (.d _ _ _ (h2.agg h3)) hk
    have AV:(ps.map fun(i,x)=>(i,a.eval x)).toList =ps.toList.map fun(i,x)=>(i,a.eval x):=by simp
    unfold Lw at jA
    split at jA
    ·rename_i fs hu
     split at jA
     ·rename_i ll QF
      cases jA
      have hm:(fs.mapM (m:=Sem) fun f=>do pure (f.offset,←sizeOf f.type)).run P w=.ok ll.toArray w:=by
       have e1:fs=fs.toList.toArray:=by simp
       rw[e1,List.mapM_toArray,Sem.run_map,LA QF]
       rfl
      simp only[execOp,ho,Sem.run_bind,Instr.build,vI,Result.andThen_ok,run_underlying hu,hm]
      rw[AV]
      have:(fun x:Nat=>ll.toArray[x]?)=fun i=>ll[i]? :=by funext i;simp
      rw[this,h1]
      rfl
     ·cases jA
    ·rename_i n e' hu
     split at jA
     ·rename_i s hs
      cases jA
      simp only[execOp,ho,Sem.run_bind,Instr.build,vI,Result.andThen_ok,run_underlying hu,j1 hs]
      rw[AV,h1]
      rfl
     ·cases jA
    ·cases jA
   ·cases hr
  ·cases hr
 ·cases hr
theorem LB(sz n:Nat):∀(l:List (Nat×D))(cs:List D),cs.length=n*sz→bY sz n l=true→
  ∃r,qg (fun i=>some (i*sz,sz)) cs l=some r∧r.length=n*sz∧∀i j,i<n→j<sz→r[i*sz+j]? =(match oX i l with|some x=>x.cells[j]? |none=>cs[i*sz+j]?)
 |[],cs,h,_=>⟨cs,rfl,h,fun i j _ _=>rfl⟩
 |(i0,d)::l,cs,h,hp=>by
  simp only[bY,Bool.and_eq_true]at hp
  obtain⟨⟨h1,h2⟩,h3⟩:=hp
  have EW:i0<n:=Nat.lt_of_succ_le (Nat.le_of_ble_eq_true h1)
  have hd:=Nat.eq_of_beq_eq_true h2
  have hle:i0*sz+sz≤n*sz:=by
   have:(i0+1)*sz≤n*sz:=Nat.mul_le_mul_right _ EW
   rw[Nat.succ_mul]at this;exact this
  obtain⟨r,q1,q2,q3⟩:=LB sz n l (cs.take (i0*sz)++d.cells++cs.drop (i0*sz+sz)) (by rw[List.length_append,List.length_append,List.length_take,List.length_drop,hd,h];omega) h3
  refine⟨r,?_,q2,fun i j hi hj=>?_⟩
  ·simp only[qg]
   rw[if_pos ⟨hd,by rw[h];exact hle⟩]
   exact q1
  ·rw[q3 i j hi hj]
   cases B6:oX i l with
   |some y=>simp only[oX,B6]
   |none=>
    simp only[oX,B6]
    have:=s9 cs d.cells (i0*sz) (by rw[hd,h];exact hle) (i*sz+j)
    rw[hd]at this
    rw[this]
    cases hb:i==i0 with
    |true=>
     have:i=i0:=by simpa using hb
     subst this
     rw[if_neg (by omega),if_pos (by omega)]
     simp
    |false=>
     have ck:i≠i0:=by simpa using hb
     simp only[cond_false]
     rcases Nat.lt_or_ge i i0 with aV|jQ
     ·have:(i+1)*sz≤i0*sz:=Nat.mul_le_mul_right _ aV
      rw[Nat.succ_mul]at this
      rw[if_pos (by omega)]
     ·have:(i0+1)*sz≤i*sz:=Nat.mul_le_mul_right _ (by omega)
      rw[Nat.succ_mul]at this
      rw[if_neg (by omega),if_neg (by omega)]
theorem FL(zero:D)(l:List (Nat×D)):∀(n s i:Nat),(bW zero l n s).length =n∧(i<n→(bW zero l n s)[i]? =some (match oX (s+i) l with|some x=>x|none=>zero))
 |0,s,i=>⟨rfl,fun h=>by omega⟩
 |n+1,s,i=>by
  refine⟨by simp[bW,(FL zero l n (s+1) 0).1],fun h=>?_⟩
  cases i with
  |zero=>rfl
  |succ i=>
   have:=(FL zero l n (s+1) i).2 (by omega)
   simp only[bW,List.getElem?_cons_succ]
   rw[this]
   have:s+1+i=s+(i+1):=by omega
   rw[this]
theorem bI.Yj(hI:Inv gl w0 ay e a w g){o:Oper}{cells:Array Value}{t:TypeId}{s:SV}{v:Value}{k:Slot→List af→Prop}
  (bz:(execOp a.eval o).run P w=.ok (.value v) (w.alloc (.cells cells t)))
  (rep:∀(g':Gh),(∀o,g'.St w.heap.size o)→Ext w0.heap.size w g (w.alloc (.cells cells t)) g' (fun _=>False)→bd (w.alloc (.cells cells t)) g'.St w0.heap.size (fun _ _ _=>False) s v)
  (hk:k (.v s) e.boxes):bI P gl w0 ay e.an o a w k:=by
 intro next Q hn
 unfold Oper.wp
 rw[bz]
 have hle:w0.heap.size≤w.heap.size:=hI.below.size
 have hX:Ext w0.heap.size w g (w.alloc (.cells cells t)) {g with St:=fun b o=>g.St b o∨b=w.heap.size} (fun _=>False):=by
  refine⟨fun D o hb ho h=>⟨(iQ w _ D (gn h)).trans h,hb,ho,fun x hx=>hx.elim id fun e=>(by have:=gn h;omega)⟩,fun b o h=>⟨.inl h,.rA (iQ w _ b (hI.nH h))⟩,fun b o h=>FI w _ b o (by omega),fun i ao h=>h,fun p b a c _ ho=>?_,.of fun b hb=>iQ w _ b hb⟩
  have aV:=ho.lt
  obtain⟨h1,h2,h3,⟨cur,ty,h4,kN⟩,h5⟩:=ho
  exact⟨⟨h1,h2,h3,⟨cur,ty,(iQ w _ b aV).trans h4,kN⟩,fun o ho=>by rintro(h|h);exact h5 o ho h;omega⟩,fun _=>iQ w _ b aV⟩
 have hr:=rep {g with St:=fun b o=>g.St b o∨b=w.heap.size} (fun _=>Or.inr rfl) hX
 refine hn (.v s) _ _ _ {g with St:=fun b o=>g.St b o∨b=w.heap.size} (hI.D9 (g':={g with St:=fun b o=>g.St b o∨b=w.heap.size})
  ⟨hX.df,hX.st,hX.bs,hX.bx,fun p b a c _ ho=>hX.own p b a c (fun h=>h) ho,hX.sh⟩ ((Below.refl _ _).alloc (Nat.le_refl _) _) (fun d _=>?_) rfl (fun b o h=>?_)) hk
 ·exact .v _ _ _ (hr.mono (fun _ _ h=>⟨h,.refl _ _ _⟩) (fun _ _ _=>rfl) _ (fun _ _ _ h=>h.elim))
 ·have hs:=Ag w (.cells cells t)
  rcases h with h|h
  ·exact .inl h
  ·right;omega
theorem Lk{b:Bool}{z:List D}(hf:∀d∈z,d.one=true)(h1:b=false→z.length=1):(cf b z).cells =z:=by
 unfold cf
 cases b
 ·obtain⟨x,rfl⟩:=List.length_eq_one_iff.1 (h1 rfl)
  have:=hf x (by simp)
  cases x<;>first|rfl|simp[D.one]at this
 ·rfl
theorem Ga{t e':TypeId}(h:kW P t=some e'):P.underlying t=some (.slice e'):=by
 unfold kW at h
 split at h
 ·rename_i oE hu;cases h;exact hu
 ·cases h
theorem KU(hI:Inv gl w0 ay e a w g){o:Oper}{t:TypeId}{n:Nat}{ps:Array (Nat×Operand)}(ho:o.op=.buildSlice t n ps){K:Nat→List D→Prop}
  (h:ab (kW P t) fun e'=>ab (gy P e') fun ly=>ab (j0 P e') fun z=>ab (kX (fun x=>(Ab.bc gl e x).aa) ps.toList) fun l=>
    bif Nat.ble (n*ly.2) (2^24)&&Nat.blt 0 ly.2&&Nat.beq z.length ly.2 then(bY ly.2 n l=true∧K ly.2 (bW (cf ly.1 z) l n 0))else False):
  ∃(r':Array Value) (e':TypeId) (sz:Nat) (L:List D),K sz L∧(execOp a.eval o).run P w=.ok (.value (.slice (some ⟨w.heap.size,0,none⟩) L.length L.length)) (w.alloc (.cells r' e'))∧r'.size=L.length*sz∧
   L.length≤maxLen∧(∀x∈L,x.cells.length=sz∧∀c∈x.cells,c.one=true)∧∀(i:Nat)x(j:Nat)c,L[i]? =some x→x.cells[j]? =some c→i*sz+j<r'.size∧bj w g.St c (r'.getD (i*sz+j) undef):=by
 obtain⟨e',he,h⟩:=aK h
 obtain⟨⟨b,sz⟩,hl,h⟩:=aK h
 obtain⟨z,hz,h⟩:=aK h
 obtain⟨l,hp,h⟩:=aK h
 cases hc:(Nat.ble (n*sz) (2^24)&&Nat.blt 0 sz&&Nat.beq z.length sz)with
 |false=>simp only[hc,cond_false]at h
 |true=>
  simp only[hc,cond_true]at h
  simp only[Bool.and_eq_true]at hc
  obtain⟨⟨QC,hc2⟩,hc3⟩:=hc
  obtain⟨nI,hk⟩:=h
  have hlen:=Nat.eq_of_beq_eq_true hc3
  have JE:=Nat.le_of_ble_eq_true QC
  have zk:0<sz:=Nat.lt_of_succ_le (Nat.le_of_ble_eq_true hc2)
  have hu:=Ga he
  obtain⟨hb,hn,ct⟩:=Dv hl
  obtain⟨zv,vI,B5,A3,H9⟩:=FP hz
  have AW:=F9 hI hp
  have jc:zv.cells.size=sz:=by rw[←B5,hlen]
  have QH:j9 w g.St ((List.range (n*sz)).map fun i=>z.getD (i % sz) .nt) ((Array.range (n*sz)).map (zv.cells[· % zv.cells.size]!))∧
    ∀d∈((List.range (n*sz)).map fun i=>z.getD (i % sz) .nt),d.one=true:=by
   have hm:∀i,i % sz<z.length:=fun i=>by rw[hlen];exact Nat.mod_lt _ zk
   constructor
   ·refine⟨by simp,fun i x v hx hv=>?_⟩
    simp only[List.getElem?_map,Option.map_eq_some_iff]at hx
    obtain⟨j,hj,rfl⟩:=hx
    have hi:i<n*sz:=by have:=(List.getElem?_eq_some_iff.1 hj).1;simpa using this
    rw[List.getElem?_range hi]at hj
    cases hj
    have EX:=hm i
    have EY:i % sz<zv.cells.size:=by rw[jc];exact Nat.mod_lt _ zk
    simp[hi,jc]at hv
    rw[getElem!_pos zv.cells (i % sz) EY]at hv
    subst hv
    refine H9 w g.St (i % sz) _ _ ?_ (Array.getElem?_eq_getElem EY)
    rw[List.getD_eq_getElem?_getD,List.getElem?_eq_getElem EX];rfl
   ·intro d hd
    simp only[List.mem_map,List.mem_range]at hd
    obtain⟨i,hi,rfl⟩:=hd
    have EX:=hm i
    rw[List.getD_eq_getElem?_getD,List.getElem?_eq_getElem EX]
    exact A3 _ (List.getElem_mem EX)
  obtain⟨r,q1,q2,q3⟩:=LB sz n l ((List.range (n*sz)).map fun i=>z.getD (i % sz) .nt) (by simp) nI
  obtain⟨r',f1,f2,f3⟩:=GL (w:=w) (St:=g.St) _ l _ _ _ r AW QH.1 QH.2 q1
  have AV:(ps.map fun(i,x)=>(i,a.eval x)).toList =ps.toList.map fun(i,x)=>(i,a.eval x):=by simp
  have Pw:r'.size=n*sz:=by rw[←f2.1,q2]
  have hL:=FL (cf b z) l n 0
  have A4:=(hL 0).1
  have hpf:∀i x,oX i l=some x→x.cells.length=sz∧∀c∈x.cells,c.one=true:=by
   intro i x hx
   clear hL A4 q1 q2 q3 f1 f2 f3 hp hk
   revert nI AW
   generalize (ps.toList.map fun(i,x)=>(i,a.eval x))=qs
   intro nI AW
   induction l generalizing qs with
   |nil=>simp[oX]at hx
   |cons p l ih=>
    obtain⟨j,d⟩:=p
    cases qs with
    |nil=>exact AW.elim
    |cons q qs=>
     obtain⟨j',v⟩:=q
     obtain⟨_,hd,hps⟩:=AW
     simp only[bY,Bool.and_eq_true]at nI
     simp only[oX]at hx
     split at hx
     ·rename_i y hy
      cases hx
      exact ih hy qs nI.2 hps
     ·cases hb:i==j<;>rw[hb]at hx<;>simp only[cond_true,cond_false,Option.some.injEq,reduceCtorEq]at hx
      subst hx
      exact⟨Nat.eq_of_beq_eq_true nI.1.2,hd.Mn⟩
  have pN:∀i x,(bW (cf b z) l n 0)[i]? =some x→i<n∧x=(match oX i l with|some x=>x|none=>cf b z):=by
   intro i x hx
   have hi:i<n:=by rw[←A4];exact(List.getElem?_eq_some_iff.1 hx).1
   have:=(hL i).2 hi
   rw[this]at hx
   simp only[Nat.zero_add]at hx
   exact⟨hi,(Option.some.inj hx).symm⟩
  have QI:(cf b z).cells =z:=Lk A3 (fun h=>by rw[hlen];exact ct h)
  have iZ:∀x∈bW (cf b z) l n 0,x.cells.length=sz∧∀c∈x.cells,c.one=true:=by
   intro x hx
   obtain⟨i,hi⟩:=List.mem_iff_getElem?.1 hx
   obtain⟨_,rfl⟩:=pN i x hi
   split
   ·rename_i y hy;exact hpf _ _ hy
   ·rw[QI];exact⟨hlen,A3⟩
  have lp:n≤maxLen:=by
   have:n*1≤n*sz:=Nat.mul_le_mul_left _ zk
   simp only[maxLen];omega
  have bz:(execOp a.eval o).run P w=.ok (.value (.slice (some ⟨w.heap.size,0,none⟩) n n)) (w.alloc (.cells r' e')):=by
   have hif:¬(n*sz>2^24):=by omega
   have B7:¬(n*sz=0∧n≠0):=by
    rintro⟨h1,h2⟩
    rcases Nat.mul_eq_zero.1 h1 with h|h<;>omega
   simp only[execOp,ho,Sem.run_bind,Instr.buildSlice,run_underlying hu,Result.andThen_ok,j1 hn,hif,if_false]
   by_cases h0:n*sz=0
   ·have JF:(Array.range (n*sz)).map (fun x=>(#[]:Array Value)[x % (#[]:Array Value).size]!)=(Array.range (n*sz)).map (zv.cells[· % zv.cells.size]!):=by rw[h0];simp
    simp only[if_pos h0,Sem.run_bind,Sem.run_pure,Result.andThen_ok]
    rw[JF,AV,f1]
    simp[newRow]
   ·simp only[if_neg h0,Sem.run_bind,Sem.run_pure,Result.andThen_ok,vI]
    rw[AV,f1]
    simp[newRow]
  refine⟨r',e',sz,bW (cf b z) l n 0,hk,by rw[A4];exact bz,by rw[A4];exact Pw,by rw[A4];exact lp,iZ,fun i x j c hx hc=>?_⟩
  obtain⟨hi,rfl⟩:=pN i x hx
  have hj:j<sz:=by
   have h1:=(iZ _ (List.mem_of_getElem? hx)).1
   have h2:=(List.getElem?_eq_some_iff.1 hc).1
   omega
  have aV:i*sz+j<n*sz:=by
   have:(i+1)*sz≤n*sz:=Nat.mul_le_mul_right _ hi
   rw[Nat.succ_mul]at this;omega
  have hq:=q3 i j hi hj
  have JG:r[i*sz+j]? =some c:=by
   rw[hq]
   cases B6:oX i l with
   |some y=>rw[B6]at hc;exact hc
   |none=>
    rw[B6]at hc
    simp only at hc
    rw[QI]at hc
    simp only
    rw[List.getElem?_map,List.getElem?_range aV]
    have wT:(i*sz+j) % sz=j:=by rw[Nat.add_comm,Nat.add_mul_mod_self_right,Nat.mod_eq_of_lt hj]
    simp only[Option.map_some,wT,List.getD_eq_getElem?_getD,hc,Option.getD_some]
  have zj:i*sz+j<r'.size:=by rw[Pw];exact aV
  refine⟨zj,f2.2 (i*sz+j) c _ JG ?_⟩
  simp[zj]
theorem Te(hI:Inv gl w0 ay e a w g){o:Oper}{t:TypeId}{n:Nat}{ps:Array (Nat×Operand)}(ho:o.op=.buildSlice t n ps){k:Slot→List af→Prop}
  (h:ab (kW P t) fun e'=>ab (gy P e') fun ly=>ab (j0 P e') fun z=>ab (kX (fun x=>(Ab.bc gl e x).aa) ps.toList) fun l=>
    bif Nat.ble (n*ly.2) (2^24)&&Nat.blt 0 ly.2&&Nat.beq z.length ly.2 then(bY ly.2 n l=true∧k (.v (.full ly.2 (bW (cf ly.1 z) l n 0))) e.boxes)else False):
  bI P gl w0 ay e.an o a w k:=by
 obtain⟨r',e',sz,L,hk,bz,aQ,lp,iZ,bt⟩:=KU hI ho (K:=fun sz L=>k (.v (.full sz L)) e.boxes) h
 refine bI.Yj hI (cells:=r') (t:=e') bz (fun g' b4 hX=>?_) hk
 refine .full (w:=w.alloc (.cells r' e')) (St:=g'.St) (base:=w0.heap.size) (fun _ _ _=>False) sz L ⟨w.heap.size,0,none⟩ ?_
 refine bj.sl (w:=w.alloc (.cells r' e')) (St:=g'.St) sz L w.heap.size 0 L.length (fun o=>r'.getD o undef) (Nat.le_refl _) lp (fun x hx=>(iZ x hx).1) (fun x hx=>(iZ x hx).2)
  (fun o' cC=>⟨by
    rw[cell_of_row _ w.heap.size (0+o') r' e' (0,0) (uW w _)]
    simp[aQ,cC],b4 _⟩) (fun i x j c hx hc=>hX.Bk (bt i x j c hx hc).2)
theorem bI.NS(hI:Inv gl w0 ay e a w g){o:Oper}{cells:Array Value}{t:TypeId}{sz:Nat}{L:List D}{k:Slot→List af→Prop}
  (bz:(execOp a.eval o).run P w=.ok (.value (.slice (some ⟨w.heap.size,0,none⟩) L.length L.length)) (w.alloc (.cells cells t)))
  (aQ:cells.size=L.length*sz)(lp:L.length≤maxLen)(iZ:∀x∈L,x.cells.length=sz∧∀c∈x.cells,c.one=true)
  (rep:∀(i:Nat)x(j:Nat)c,L[i]? =some x→x.cells[j]? =some c→i*sz+j<cells.size∧bj w g.St c (cells.getD (i*sz+j) undef))
  (hk:k (.v (.cA sz L)) e.boxes):bI P gl w0 ay e.an o a w k:=by
 intro next Q hn
 unfold Oper.wp
 rw[bz]
 have hle:w0.heap.size≤w.heap.size:=hI.below.size
 let g':Gh:={g with ow:=fun b=>if b=w.heap.size then o.dst.map (fun d=>.s d 0)else g.ow b}
 have hX:Ext w0.heap.size w g (w.alloc (.cells cells t)) g' (fun _=>False):=by
  refine⟨fun D ob hb ho h=>⟨(iQ w _ D (gn h)).trans h,hb,(by
   show(if D=w.heap.size then o.dst.map (fun d=>Pos.s d 0)else g.ow D)=none
   rw[if_neg (by have:=gn h;omega)];exact ho),fun _ h=>h⟩,fun b o h=>⟨h,.rA (iQ w _ b (hI.nH h))⟩,fun b o h=>FI w _ b o (by omega),fun i ao h=>h,fun p b a c _ ho=>?_,.of fun b hb=>iQ w _ b hb⟩
  have aV:=ho.lt
  obtain⟨h1,h2,h3,⟨cur,ty,h4,kN⟩,h5⟩:=ho
  refine⟨⟨?_,h2,h3,⟨cur,ty,(iQ w _ b aV).trans h4,kN⟩,h5⟩,fun _=>iQ w _ b aV⟩
  show(if b=w.heap.size then o.dst.map (fun d=>Pos.s d 0)else g.ow b)=some p
  rw[if_neg (by omega)];exact h1
 refine hn (.v (.cA sz L)) _ _ _ g' (hI.D9 (g':=g')
  ⟨hX.df,hX.st,hX.bs,hX.bx,fun p b a c _ ho=>hX.own p b a c (fun h=>h) ho,hX.sh⟩ ((Below.refl _ _).alloc (Nat.le_refl _) _) (fun d hd=>?_) rfl (fun b o h=>.inl h)) hk
 refine .v _ _ _ (.cA (w:=w.alloc (.cells cells t)) _ sz L w.heap.size L.length (fun o=>cells.getD o undef) (Nat.le_refl _) lp (fun x hx=>(iZ x hx).1) (fun x hx=>(iZ x hx).2) ?_ (fun o' cC=>?_)
  (fun i x j c hx hc=>hX.Bk (rep i x j c hx hc).2))
 ·refine⟨?_,hle,fun hm=>by have:=(hI.eb _ hm).2;omega,⟨cells,t,uW w _,aQ⟩,fun o' _ b4=>by have:=hI.nH b4;omega⟩
  show(if w.heap.size=w.heap.size then o.dst.map (fun d=>Pos.s d 0)else g.ow w.heap.size)=some (.s d 0)
  rw[if_pos rfl,hd];rfl
 ·have:=cell_of_row (w.alloc (.cells cells t)) w.heap.size o' cells t (0,0) (uW w _)
  rw[this]
  simp[aQ,cC]
end
end Go.Proofs.YtaknajjmldngiaaGreat.Ab
