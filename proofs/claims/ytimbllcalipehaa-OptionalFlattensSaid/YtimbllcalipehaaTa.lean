/-
  THE ABSTRACT WALK, definitions: data trees, slot values, and an abstract weakest precondition over the model's code.
-/
import Derived.Orders
import Derived.Still
import Derived.Below
import Derived.KernelRfl
import Derived.Laws.AppendOwn
import Derived.Laws.Build
import Derived.Laws.Sem
import Derived.WalkKit
import Derived.Laws.StructEq
import Derived.ChangeKeysEq
set_option linter.unusedVariables false
set_option linter.unusedSimpArgs false
namespace Go.Proofs.Ytimbllcalipehaa.Ab
open Go
inductive SK where
 |nil|ro
 deriving DecidableEq
inductive D where
 |bool (b:Bool)
 |int (k:IntKind) (n:Int)
 |str (s:List UInt8)
 |agg (cs:List D)
 |sl (k:SK) (sz:Nat) (L:List D)
 |fn (f:Fn)
 |x8
 |iface (t:TypeId) (x:D)
 |x9
 |oV
def iP(k:IntKind)(n:Int):Bool:=decide (k.min≤n)&&decide (n≤k.max)
def D.cells:D→List D
 | .agg cs=>cs
 |x=>[x]
def D.qF:D→Bool
 | .bool _=>true
 | .int _ _=>true
 | .str _=>true
 |_=>false
def anq(L:List D):Prop:=∀x∈L,∀c∈x.cells,c.qF=true
mutual
def D.Wf:D→Prop
 | .int k n=>iP k n=true
 | .str s=>s.length≤maxLen
 | .agg cs=>D.iQ cs
 | .sl k sz L=>L.length≤maxLen∧(k=.nil →L=[])∧(∀x∈L,x.cells.length=sz)∧D.iQ L
 | .iface _ x=>x.Wf
 |_=>True
def D.iQ:List D→Prop
 |[]=>True
 |x::l=>x.Wf∧D.iQ l
end
inductive KS where
 |bool (b:Bool)
 |int (k:IntKind) (n:Int)
 |str (s:List UInt8)
 deriving DecidableEq
inductive MK where
 |i (n:Int)
 |s (l:List KS)
 deriving DecidableEq
inductive SV where
 |d (x:D)
 |own (sz:Nat) (L:List D)
 |full (sz:Nat) (L:List D)
 |bh (sz:Nat) (L:List D)
 |ref (cs:List SV) (off:Nat)
 |dg (n sz:Nat) (cs:List SV)
 |aX (x:D) (off:Nat)
 |ef (f:Fn) (first cap:List SV)
 |aK (vs:List SV)
 |mp (l:List (MK×D))
 |nest (LL:List (List D))
 |undef
def aa:SV→SV
 | .own sz L=>.d (.sl .ro sz L)
 | .bh _ _=>.undef
 | .nest _=>.undef
 |x=>x
inductive Slot where
 |v (x:SV)
 |p (b off:Nat)
 |c (f:Fn) (first cap:List Slot)
 |t (vs:List SV)
 |a (b n sz:Nat)
 |m (b:Nat)
def Slot.aa:Slot→Slot
 | .v x=>.v (Ab.aa x)
 | .t vs=>.t (vs.map Ab.aa)
 |s=>s
inductive af where
 |none
 |cells (cs:List SV)
 |one (s:Slot)
 |map (l:List (MK×D))
structure Env where
 ak:List Slot
 boxes:List af
def C0:Value→Option D
 | .bool b=>some (.bool b)
 | .int k n=>bif iP k n then some (.int k n)else none
 | .string s=>bif Nat.ble s.size maxLen then some (.str s.data.toList)else none
 | .slice none 0 0=>some (.sl .nil 0 [])
 | .pointer none=>some .oV
 | .nilFunc =>some .x8
 | .nilIface =>some .x9
 | .func f first captured=>bif first.isEmpty&&captured.isEmpty then some (.fn f)else none
 |_=>none
def CS:List Value→Option (List D)
 |[]=>some []
 |v::l=>match C0 v with
  |some x=>(match CS l with|some r=>some (x::r)|none=>none)
  |none=>none
def MH:Value→Option D
 | .agg cs=>match CS cs.toList with
   |some l=>some (.agg l)
   |none=>none
 |v=>C0 v
def ab{α:Type}(o:Option α)(k:α→Prop):Prop:=match o with|some x=>k x|none=>False
def ar(x:SV)(A B:Prop):Prop:=match x with
 | .d (.bool c)=>cond c A B
 |_=>False
section
variable(P:Program)(gl:Nat→Option D)
def eK(t:TypeId):Option Bool:=match P.underlying t with
 |some (.struct _)|some (.array _ _)=>some true
 |some _=>some false
 |none=>none
def lR(t:TypeId):Option (Bool×Nat):=match eK P t with
 |some b=>(match P.info? t with|some i=>bif b||Nat.beq i.size 1 then some (b,i.size)else none|none=>none)
 |none=>none
def eF(t:TypeId):Option Nat:=match P.info? t with
 |some i=>some i.size
 |none=>none
def pG(t:TypeId):Option (List D):=match P.info? t with
 |some i=>(match i.zero with|some z=>CS z.cells.toList|none=>none)
 |none=>none
def Qx(t:TypeId):Option (List SV):=match pG P t with
 |some z=>some (z.map .d)
 |none=>(match P.info? t with
  |some i=>(match i.zero with|some z=>bif z.cells.toList.all Value.oneCell' then some (List.replicate z.cells.toList.length .undef)else none|none=>none)
  |none=>none)
def bA(e:Env):Operand→Slot
 | .tmp t=>e.ak.getD t (.v .undef)
 | .const v=>(match MH v with|some x=>.v (.d x)|none=>.v .undef)
 | .func f=>.v (.d (.fn (.func f)))
 | .global g=>(match gl g with|some x=>.v (.aX x 0)|none=>.v .undef)
def lJ(op:BinOp)(k:IntKind)(x y:Int):Option D:=
 match op with
 | .add =>some (.int k (k.wrap (x+y)))
 | .sub =>some (.int k (k.wrap (x-y)))
 | .mul =>some (.int k (k.wrap (x*y)))
 | .quo =>if y=0 then none else some (.int k (k.wrap (x.tdiv y)))
 | .rem =>if y=0 then none else some (.int k (x.tmod y))
 | .and =>some (.int k (k.wrap (BitVec.ofInt k.bits x&&& BitVec.ofInt k.bits y).toNat))
 | .or =>some (.int k (k.wrap (BitVec.ofInt k.bits x|||BitVec.ofInt k.bits y).toNat))
 | .xor =>some (.int k (k.wrap (BitVec.ofInt k.bits x^^^BitVec.ofInt k.bits y).toNat))
 | .andNot =>some (.int k (k.wrap (BitVec.ofInt k.bits x&&& ~~~ BitVec.ofInt k.bits y).toNat))
 | .eql =>some (.bool (x==y))
 | .neq =>some (.bool (x != y))
 | .lss =>some (.bool (decide (x<y)))
 | .leq =>some (.bool (decide (x≤y)))
 | .gtr =>some (.bool (decide (x>y)))
 | .geq =>some (.bool (decide (x≥y)))
 |_=>none
def Ht(op:BinOp)(k:IntKind)(x y:Int):Option D:=
 if y<0 then none else
 match op with
 | .shl =>some (.int k (k.wrap (x*2^(min y.toNat k.bits))))
 | .shr =>some (.int k (x.fdiv (2^(min y.toNat k.bits))))
 |_=>none
def CT:List UInt8→List UInt8→Bool
 |_,[]=>false
 |[],_::_=>true
 |a::x,b::y=>a<b||(a==b&&CT x y)
def HO(op:BinOp)(x y:List UInt8):Option D:=
 match op with
 | .add =>if x.length+y.length≤maxLen then some (.str (x++y))else none
 | .eql =>some (.bool (x==y))
 | .neq =>some (.bool (!(x==y)))
 | .lss =>some (.bool (CT x y))
 | .leq =>some (.bool (CT x y||x==y))
 | .gtr =>some (.bool (!(CT x y||x==y)))
 | .geq =>some (.bool (!CT x y))
 |_=>none
def oW:D→D→Option Bool
 | .bool a,.bool b=>some (a==b)
 | .int k a,.int k' b=>if k=k' then some (a==b)else none
 | .str a,.str b=>some (a==b)
 |_,_=>none
def gY:List D→List D→Option Bool
 |[],[]=>some true
 |x::l,y::m=>match oW x y with
  |some b=>(match gY l m with|some c=>some (b&&c)|none=>none)
  |none=>none
 |_,_=>none
inductive CK where
 |bool|int|str
def eR:List CK→List D→Bool
 |[],[]=>true
 | .bool ::l,.bool _::m=>eR l m
 | .int ::l,.int _ _::m=>eR l m
 | .str ::l,.str _::m=>eR l m
 |_,_=>false
def Bq{α:Type}(l:List α):Nat→List α
 |0=>[]
 |n+1=>l++Bq l n
def Er(go:TypeId→Option (List CK)):List Field→Nat→Option (List CK)
 |[],_=>some []
 |f::l,off=>match go f.type with
  |some ks=>bif f.name != "_" &&Nat.beq f.offset off then(match Er go l (off+ks.length)with|some r=>some (ks++r)|none=>none)else none
  |none=>none
def shapeOf:(fuel:Nat)→TypeId→Option (List CK)
 |0,_=>none
 |f+1,t=>match P.underlying t with
  |some .bool =>(match eF P t with|some 1=>some [.bool]|_=>none)
  |some (.int _)=>(match eF P t with|some 1=>some [.int]|_=>none)
  |some .string =>(match eF P t with|some 1=>some [.str]|_=>none)
  |some (.array n e)=>(match shapeOf f e with
   |some ks=>(match eF P t with|some s=>bif Nat.beq s (n*ks.length)then some (Bq ks n)else none|none=>none)
   |none=>none)
  |some (.struct fs)=>bif P.stoodInHeld t then none else(match Er (shapeOf f) fs.toList 0 with
   |some ks=>(match eF P t with|some s=>bif Nat.beq s ks.length then some ks else none|none=>none)
   |none=>none)
  |_=>none
def Hu(op:BinOp)(t:TypeId):Option (Bool×List CK):=match op with
 | .eql | .neq =>bif P.eqGuardType P.depth t then none else(match shapeOf P 20 t with
   |some ks=>(match eK P t with|some b=>some (b,ks)|none=>none)
   |none=>(match P.underlying t with|some (.slice _)=>some (false,[])|_=>none))
 |_=>none
end
section
def gZ(sh:Option (Bool×List CK))(op:BinOp)(x y:D):Option D:=
 match x,y with
 | .int k a,.int k' b=>
   (match op with
    | .shl | .shr =>Ht op k a b
    |_=>if k=k' then lJ op k a b else none)
 | .str a,.str b=>HO op a b
 | .bool a,.bool b=>(match sh with
   |some (false,[.bool])=>(match op with
    | .eql =>some (.bool (a==b))| .neq =>some (.bool (!(a==b)))|_=>none)
   |_=>none)
 | .agg a,.agg b=>(match sh with
   |some (true,ks)=>bif eR ks a&&eR ks b then(match op with
    | .eql =>(match gY a b with|some c=>some (.bool c)|none=>none)
    | .neq =>(match gY a b with|some c=>some (.bool (!c))|none=>none)
    |_=>none)else none
   |_=>none)
 | .sl a _ _,.sl .nil _ _=>(match sh with
   |some (false,[])=>(match op with
    | .eql =>some (.bool (decide (a=.nil)))
    | .neq =>some (.bool (!decide (a=.nil)))
    |_=>none)
   |_=>none)
 |_,_=>none
def aj(sh:Option (Bool×List CK))(op:BinOp):SV→SV→Option SV
 | .d x,.d y=>(match gZ sh op x y with|some r=>some (.d r)|none=>none)
 |_,_=>none
def eP(op:UnOp):SV→Option SV
 | .d (.bool b)=>(match op with| .not =>some (.d (.bool (!b)))|_=>none)
 | .d (.int k n)=>(match op with
   | .neg =>some (.d (.int k (k.wrap (0-n))))
   | .xor =>some (.d (.int k (k.wrap (BitVec.ofInt k.bits (if k.signed then-1 else k.max)^^^BitVec.ofInt k.bits n).toNat)))
   |_=>none)
 |_=>none
end
section
variable(P:Program)(gl:Nat→Option D)
def R9(dst:TypeId):SV→Option SV
 | .d (.int _ n)=>(match P.underlying dst with|some (.int k)=>some (.d (.int k (k.wrap n)))|_=>none)
 | .d (.str s)=>(match P.underlying dst with|some .string =>some (.d (.str s))|_=>none)
 |_=>none
def cB:SV→Option D
 | .d x=>some x
 | .own sz L=>some (.sl .ro sz L)
 | .full sz L=>some (.sl .ro sz L)
 |_=>none
def dC:List SV→Option (List D)
 |[]=>some []
 |v::l=>match cB v with
  |some x=>(match dC l with|some r=>some (x::r)|none=>none)
  |none=>none
def elems(sz:Nat):SV→Option (List D)
 | .d (.sl k s L)=>(match k with| .nil =>some []| .ro =>if s=sz then some L else none)
 | .own s L=>if s=sz then some L else none
 | .full s L=>if s=sz then some L else none
 |_=>none
def Hc:SV→Option (List D)
 | .d (.sl _ _ L)=>some L
 | .own _ L=>some L
 | .full _ L=>some L
 |_=>none
def tI(agg:Bool)(sz off:Nat)(cs:List D):Option D:=
 bif agg then(if off+sz≤cs.length then some (.agg ((cs.drop off).take sz))else none)else cs[off]?
def ai(agg:Bool)(sz off:Nat)(cs:List SV):Option SV:=
 bif agg then(if off+sz≤cs.length then(match dC ((cs.drop off).take sz)with|some l=>some (.d (.agg l))|none=>none)else none)else cs[off]?
def da(x:SV)(n:Nat):Option Nat:=match x with
 | .d (.int _ i)=>if 0≤i∧i<n then some i.toNat else none
 |_=>none
def SG(t:TypeId)(x:SV):Option SV:=match P.underlying t with
 |some .string =>(match x with| .d (.str s)=>some (.d (.int .i64 s.length))|_=>none)
 |some (.array n _)=>bif Nat.ble n maxLen then some (.d (.int .i64 n))else none
 |some (.slice _)=>(match x with| .dg n _ _=>some (.d (.int .i64 n))|x=>(match Hc x with|some L=>some (.d (.int .i64 L.length))|none=>none))
 |_=>none
def setAt(cs:List SV)(off:Nat):List SV→List SV
 |[]=>cs
 |v::l=>setAt (cs.set off v) (off+1) l
def aE(x:SV):Option (List SV):=match x with
 | .d y=>some (y.cells.map .d)
 | .aK _=>none
 | .undef =>none
 |v=>some [v]
def vX(place:Nat→Option (Nat×Nat))(cells:List D):List (Nat×D)→Option (List D)
 |[]=>some cells
 |(i,v)::rest=>match place i with
  |none=>none
  |some (off,sz)=>if v.cells.length=sz∧off+sz≤cells.length then vX place (cells.take off++v.cells++cells.drop (off+sz)) rest else none
def rV(ρ:Operand→Slot):List (Nat×Operand)→Option (List (Nat×D))
 |[]=>some []
 |(i,x)::l=>match ρ x with
  | .v y=>(match cB y with
    |some z=>(match rV ρ l with|some r=>some ((i,z)::r)|none=>none)
    |none=>none)
  |_=>none
def Hv:List Field→Option (List (Nat×Nat))
 |[]=>some []
 |f::l=>match eF P f.type with
  |some s=>(match Hv l with|some r=>some ((f.offset,s)::r)|none=>none)
  |none=>none
def PA(t:TypeId):Option (Nat→Option (Nat×Nat)):=match P.underlying t with
 |some (.struct fs)=>(match Hv P fs.toList with|some l=>some fun i=>l[i]? |none=>none)
 |some (.array _ e)=>(match eF P e with|some s=>some fun i=>some (i*s,s)|none=>none)
 |_=>none
def dF(t:TypeId)(ps:List (Nat×D)):Option D:=match pG P t with
 |some z=>(match PA P t with
  |some pl=>(match vX pl z ps with|some cs=>some (.agg cs)|none=>none)
  |none=>none)
 |none=>none
def bI(agg:Bool)(cs:List D):D:=bif agg then .agg cs else(match cs with|[x]=>x|_=>.agg cs)
def uE(i:Nat):List (Nat×D)→Option D
 |[]=>none
 |(j,x)::l=>match uE i l with|some y=>some y|none=>bif i==j then some x else none
def bF(zero:D)(ps:List (Nat×D)):Nat→Nat→List D
 |0,_=>[]
 |n+1,i=>(match uE i ps with|some x=>x|none=>zero)::bF zero ps n (i+1)
def bz(sz n:Nat):List (Nat×D)→Bool
 |[]=>true
 |(i,x)::l=>Nat.blt i n&&Nat.beq x.cells.length sz&&bz sz n l
def lC(f:Slot→SV):List Slot→List SV
 |[]=>[]
 |s::l=>f s::lC f l
def snap(aG:List af):(fuel:Nat)→Slot→SV
 |0,_=>.undef
 |n+1,s=>match s with
  | .v x=>Ab.aa x
  | .p b off=>(match aG[b]? with
    |some (.cells cs)=>.ref (cs.map Ab.aa) off
    |some (.one s')=>.ref [snap aG n s'] off
    |_=>.undef)
  | .c f first cap=>.ef f (lC (snap aG n) first) (lC (snap aG n) cap)
  | .a b m sz=>(match aG[b]? with
    |some (.cells cs)=>.dg m sz (cs.map Ab.aa)
    |_=>.undef)
  |_=>.undef
def Slot.cC:Slot→SV
 | .v x=>x
 |_=>.undef
end
abbrev bu:=FuncId→List SV→SV→Prop
section
variable(P:Program)(gl:Nat→Option D)(C:bu)
def vY:SV→Bool| .aK _=>true|_=>false
def aU(f:FuncId)(args:List SV)(k:SV→Prop):Prop:=∃r,C f args r∧vY r=false∧k r
def B8:Nat→(List SV→Prop)→Prop
 |0,k=>k []
 |n+1,k=>∃r,B8 n fun l=>k (r::l)
def anr(f:FuncId)(n:Nat)(args:List SV)(k:List SV→Prop):Prop:=B8 n fun rs=>C f args (.aK rs)∧k rs
def withFn(x:SV)(args:List SV)(k:FuncId→List SV→Prop):Prop:=match x with
 | .d (.fn (.func f))=>k f args
 | .ef (.func f) first cap=>k f (first++args++cap)
 |_=>False
def Fl(t:TypeId)(name:String):Option FuncId:=match P.info? t with
 |some i=>(match i.methods.find? (fun m=>m.name==name)with
  |some m=>(match m.path.toList,m.func with
   |[],some (f,false)=>(match P.underlying t with
    |some (.pointer _)=>none
    |some _=>some f
    |none=>none)
   |_,_=>none)
  |none=>none)
 |none=>none
def Sa(x:SV)(name:String):Option FuncId:=match x with
 | .d (.iface t _)=>Fl P t name
 |_=>none
def Bk(x:SV)(name:String)(args:List SV)(k:FuncId→List SV→Prop):Prop:=match x with
 | .d (.iface t y)=>ab (Fl P t name) fun f=>k f (.d y::args)
 |_=>False
def arity(t:TypeId):Nat:=match P.underlying t with
 |some (.tuple ts)=>ts.size
 |_=>1
def sd(n:Nat)(aG:List af)(k:Slot→List af→Prop)(f:FuncId)(args:List SV):Prop:=
 match n with
 |1=>aU C f args fun r=>k (.v r) aG
 |n=>anr C f n args fun rs=>k (.t rs) aG
def kq(aG:List af)(ρ:Operand→Slot):List Operand→List SV
 |[]=>[]
 |x::l=>snap aG 6 (ρ x)::kq aG ρ l
def ji:Nat:=1048577
def mc(sz:Nat)(x y:SV):Option (SV×Nat):=
 match elems sz y with
 |none=>none
 |some M=>match x with
  | .own s L=>if s=sz then some (.own sz (L++M),L.length+M.length)else none
  | .full s L=>if s=sz then(if M=[]then some (.full sz L,L.length)else some (.own sz (L++M),L.length+M.length))else none
  | .d (.sl .nil s _)=>if M=[]then some (x,0)else some (bif Nat.beq s ji then .bh sz M else .own sz M,M.length)
  | .bh s L=>if s=sz then some (.bh sz (L++M),L.length+M.length)else none
  |_=>none
def cb(sz bytes:Nat)(x y:SV)(k:SV→Prop):Prop:=
 ab (mc sz x y) fun r=>r.2*bytes≤140737488355328∧k r.1
def uH(agg:Bool)(sz b off:Nat)(aG:List af)(k:Slot→List af→Prop):Prop:=
 match aG[b]? with
 |some (.cells cs)=>ab (ai agg sz off cs) fun x=>k (.v (Ab.aa x)) aG
 |some (.one s)=>bif agg then False else(match off with|0=>k s.aa aG|_=>False)
 |_=>False
def aH(agg:Bool)(sz:Nat)(x:SV):Option SV:=match x with
 | .aX y off=>(match tI agg sz off y.cells with|some z=>some (.d z)|none=>none)
 | .ref cs off=>(match ai agg sz off cs with|some z=>some (Ab.aa z)|none=>none)
 |_=>none
def xB(sz b off:Nat)(x:Slot)(aG:List af)(k:List af→Prop):Prop:=
 match aG[b]? with
 |some (.cells cs)=>(match x with
  | .v y=>ab (aE y) fun l=>l.length=sz∧off+sz≤cs.length∧k (aG.set b (.cells (setAt cs off l)))
  | .t _=>False
  |s=>(match sz,off,cs with|1,0,[_]=>k (aG.set b (.one s))|_,_,_=>False))
 |some (.one _)=>(match sz,off with
  |1,0=>(match x with
   | .v y=>ab (aE y) fun l=>l.length=1∧k (aG.set b (.cells l))
   | .t _=>False
   |s=>k (aG.set b (.one s)))
  |_,_=>False)
 |_=>False
def bR(x:SV)(n:Nat):Option SV:=match x with
 | .aX y off=>some (.aX y (off+n))
 | .ref cs off=>some (.ref cs (off+n))
 |_=>none
def aJ(sz:Nat)(x i:SV):Option SV:=match x with
 | .dg n s cs=>(match da i n with|some j=>if s=sz then some (.ref cs (j*sz))else none|none=>none)
 |x=>match elems sz x with
 |some L=>(match da i L.length with
  |some n=>(match L[n]? with|some y=>some (.aX y 0)|none=>none)
  |none=>none)
 |none=>none
def Dg(n:Nat):Option SV→Option Nat
 |some h=>da h (n+1)
 |none=>some n
def zR(h:Nat):Option SV→Option Nat
 |some l=>da l (h+1)
 |none=>some 0
def Ig(L:List D)(lo hi:Option SV):Option (List D):=
 match Dg L.length hi with
 |some h=>(match zR h lo with
  |some l=>some ((L.take h).drop l)
  |none=>none)
 |none=>none
def aaE(L:List UInt8)(lo hi:Option SV):Option (List UInt8):=
 match Dg L.length hi with
 |some h=>(match zR h lo with
  |some l=>some ((L.take h).drop l)
  |none=>none)
 |none=>none
def RA(t:TypeId)(x:SV)(lo hi mx:Option SV):Option SV:=
 match P.underlying t with
 |some .string =>(match x,mx with
  | .d (.str s),none=>(match aaE s lo hi with|some r=>some (.d (.str r))|none=>none)
  |_,_=>none)
 |some (.slice e)=>(match cB x,eF P e with
  |some (.sl k sz L),some s=>(match Ig L lo hi,mx with
   |some r,none=>(match k with| .nil =>some (.d (.sl .nil s []))| .ro =>if sz=s then some (.d (.sl .ro sz r))else none)
   |some r,some m=>(match hi,da m (L.length+1)with
    |some h,some _=>(match h,m with
     | .d (.int _ a),.d (.int _ b)=>if a=b then(match k with| .nil =>some (.d (.sl .nil s []))| .ro =>if sz=s then some (.full sz r)else none)else none
     |_,_=>none)
    |_,_=>none)
   |none,_=>none)
  |_,_=>none)
 |_=>none
def tP(ρ:Operand→Slot):Option Operand→Option SV
 |some x=>some (ρ x).cC
 |none=>none
def minD(a b:Int):Int:=if b<a then b else a
def maxD(a b:Int):Int:=if b>a then b else a
def CJ(f:Int→Int→Int):SV→List SV→Option SV
 | .d (.int k a),[]=>some (.d (.int k a))
 | .d (.int k a),.d (.int k' b)::l=>if k=k' then CJ f (.d (.int k (f a b))) l else none
 |_,_=>none
def oT(x:SV):Option SV:=match x with
 | .aX y o=>some (.aX y o)
 | .ref cs o=>some (.ref cs o)
 | .ef f a b=>(match f with| .func n=>some (.ef (.func n) a b)|_=>none)
 | .d (.fn f)=>(match f with| .func n=>some (.d (.fn (.func n)))|_=>none)
 |_=>none
def RB(agg:Bool)(sz n:Nat)(x i:SV):Option SV:=match x with
 | .d (.agg cs)=>(match da i n with
   |some j=>(match tI agg sz (j*sz) cs with|some r=>some (.d r)|none=>none)
   |none=>none)
 |_=>none
def Sb(x i:SV):Option SV:=match x with
 | .d (.str s)=>(match da i s.length with
   |some j=>(match s[j]? with|some b=>some (.d (.int .u8 b.toNat))|none=>none)
   |none=>none)
 |_=>none
def zw(agg:Bool)(sz off:Nat)(x:SV):Option SV:=match x with
 | .d (.agg cs)=>(match tI agg sz off cs with|some r=>some (.d r)|none=>none)
 |_=>none
def RC(t:TypeId)(x:SV):Option SV:=match cB x with
 |some y=>some (.d (.iface t y))
 |none=>none
def xC(t:TypeId):Option Nat:=match P.info? t with
 |some i=>some i.bytes
 |none=>none
def nE(t:TypeId):Option TypeId:=match P.underlying t with
 |some (.slice e)=>some e
 |_=>none
def EG(t:TypeId)(i:Nat):Option Field:=match P.underlying t with
 |some (.struct fs)=>fs.toList[i]?
 |_=>none
def isSlice(t:TypeId):Bool:=match P.underlying t with
 |some (.slice _)=>true
 |_=>false
def isIface(t:TypeId):Bool:=match P.underlying t with
 |some (.interface _)=>true
 |none=>true
 |_=>false
def KS.same:KS→KS→Bool
 | .bool _,.bool _=>true
 | .int k _,.int k' _=>decide (k=k')
 | .str _,.str _=>true
 |_,_=>false
def KS.ma:List KS→List KS→Bool
 |[],[]=>true
 |x::l,y::m=>x.same y&&KS.ma l m
 |_,_=>false
def MK.same:MK→MK→Bool
 | .i _,.i _=>true
 | .s a,.s b=>KS.ma a b
 |_,_=>false
def xQ(l:List (MK×D))(n:MK):Bool:=l.all fun x=>n.same x.1
def oh:List (MK×D)→MK→Option D
 |[],_=>none
 |x::l,n=>if n=x.1 then some x.2 else oh l n
def yo:List CK→List D→Option (List KS)
 |[],[]=>some []
 | .bool ::l,.bool b::m=>(match yo l m with|some r=>some (.bool b::r)|none=>none)
 | .int ::l,.int k n::m=>(match yo l m with|some r=>some (.int k n::r)|none=>none)
 | .str ::l,.str s::m=>(match yo l m with|some r=>some (.str s::r)|none=>none)
 |_,_=>none
def oq(kd:Option (List CK))(x:SV):Option MK:=match kd with
 |none=>(match x with| .d (.int .i64 n)=>some (.i n)|_=>none)
 |some ks=>(match x with| .d (.agg cs)=>(match yo ks cs with|some l=>some (.s l)|none=>none)|_=>none)
def vZ(kd:Option (List CK))(z:D)(m key:SV):Option (D×Bool):=match m with
 | .mp l=>(match oq kd key with
   |some n=>bif xQ l n then(match oh l n with|some d=>some (d,true)|none=>some (z,false))else none
   |none=>none)
 |_=>none
def Ih:List Field→Bool
 |[]=>true
 |f::l=>(match P.underlying f.type with|some .bool =>true|some (.int _)=>true|some .string =>true|_=>false)&&Ih l
def EZ(t:TypeId):Option (TypeId×Option (List CK)):=match P.underlying t with
 |some (.map kt et)=>(match P.underlying kt with
  |some (.int _)=>some (et,none)
  |some (.struct fs)=>(match shapeOf P 20 kt with
   |some ks=>bif Ih P fs.toList then some (et,some ks)else none
   |none=>none)
  |_=>none)
 |_=>none
def zH(aG:List af):Slot→SV
 | .m b=>(match aG[b]? with
   |some (.map l)=>.mp l
   |_=>.undef)
 |s=>s.cC
def ot:List (MK×D)→MK→D→List (MK×D)
 |[],n,d=>[(n,d)]
 |x::l,n,d=>if n=x.1 then(n,d)::l else x::ot l n d
def sr(l:List (MK×D))(n:MK)(d:D):Option (List (MK×D)):=bif xQ l n then some (ot l n d)else none
def lenOf:SV→SV→Option Nat
 | .d (.int k a),.d (.int k' b)=>if k=k'∧a=b∧0≤a then some a.toNat else none
 |_,_=>none
def xR(t:TypeId):Option D:=match P.info? t with
 |some i=>(match i.zero with|some z=>C0 z|none=>none)
 |none=>none
def dR(id:Nat)(o:Oper)(ρ:Operand→Slot)(aG:List af)(k:Slot→List af→Prop):Prop:=
 match o.op with
 | .move x| .assign x=>k (ρ x) aG
 | .pick c a b=>(match ρ c with
   | .v x=>ar x (k (ρ a) aG) (k (ρ b) aG)
   |_=>False)
 | .alloc t=>(match aG[id]? with
   |some .none =>ab (Qx P t) fun z=>k (.p id 0) (aG.set id (.cells z))
   |_=>False)
 | .box t x=>(match aG[id]? with
   |some .none =>ab (eF P t) fun sz=>(match ρ x with
    | .v y=>ab (aE y) fun l=>l.length=sz∧k (.p id 0) (aG.set id (.cells l))
    | .t _=>False
    |s=>(match sz with|1=>k (.p id 0) (aG.set id (.one s))|_=>False))
   |_=>False)
 | .build t ps=>ab (rV ρ ps.toList) fun l=>ab (dF P t l) fun r=>k (.v (.d r)) aG
 | .buildSlice t n ps=>ab (nE P t) fun e=>ab (lR P e) fun ly=>ab (pG P e) fun z=>ab (rV ρ ps.toList) fun l=>
    bif Nat.ble (n*ly.2) (2^24)&&Nat.blt 0 ly.2&&Nat.beq z.length ly.2 then(bz ly.2 n l=true∧k (.v (.full ly.2 (bF (bI ly.1 z) l n 0))) aG)else False
 | .load t a=>ab (lR P t) fun ly=>(match ρ a with
   | .p b off=>uH ly.1 ly.2 b off aG k
   | .v x=>ab (aH ly.1 ly.2 x) fun y=>k (.v y) aG
   |_=>False)
 | .store t a x=>ab (eF P t) fun sz=>(match ρ a with
   | .p b off=>(match o.dst with|none=>xB sz b off (ρ x) aG fun dY=>k (.t []) dY|some _=>False)
   |_=>False)
 | .nilCheck x=>(match ρ x with
   | .v y=>ab (oT y) fun z=>k (.v z) aG
   | .t _=>False
   | .c f first cap=>(match f with
     | .func _=>k (.c f first cap) aG
     | .method name=>(match first with
       | .v y::_=>ab (Sa P y name) fun _=>k (.c f first cap) aG
       |_=>False)
     |_=>False)
   | .p b off=>k (.p b off) aG
   |_=>False)
 | .binOp op t x y _=>ab (aj (Hu P op t) op (ρ x).cC (ρ y).cC) fun r=>k (.v r) aG
 | .unOp op _ x=>ab (eP op (ρ x).cC) fun r=>k (.v r) aG
 | .convert src dst x=>bif (P.underlying src).isSome then(ab (R9 P dst (ρ x).cC) fun r=>k (.v r) aG)else False
 | .makeInterface t x=>bif isIface P t then False else ab (RC t (ρ x).cC) fun r=>k (.v r) aG
 | .makeFunc fn first cap=>k (.c fn (first.toList.map fun x=>(ρ x).aa) (cap.toList.map fun x=>(ρ x).aa)) aG
 | .slice t x lo hi mx=>ab (RA P t (Ab.aa (ρ x).cC) (tP ρ lo) (tP ρ hi) (tP ρ mx)) fun r=>k (.v r) aG
 | .fieldAddr t x f=>ab (EG P t f) fun fd=>ab (eF P fd.type) fun sz=>bif Nat.beq sz 0 then False else(match ρ x with
   | .p b off=>k (.p b (off+fd.offset)) aG
   | .v y=>ab (bR y fd.offset) fun z=>k (.v z) aG
   |_=>False)
 | .field t x f=>ab (EG P t f) fun fd=>ab (lR P fd.type) fun ly=>ab (zw ly.1 ly.2 fd.offset (ρ x).cC) fun r=>k (.v r) aG
 | .indexAddr t x i=>(match P.underlying t with
   |some (.slice e)=>ab (eF P e) fun sz=>(match ρ x with
    | .a b n _=>ab (da (ρ i).cC n) fun j=>k (.p b (j*sz)) aG
    |s=>ab (aJ sz s.cC (ρ i).cC) fun r=>k (.v r) aG)
   |some (.array n e)=>ab (eF P e) fun sz=>ab (da (ρ i).cC n) fun j=>(match ρ x with
    | .p b off=>k (.p b (off+j*sz)) aG
    | .v y=>ab (bR y (j*sz)) fun z=>k (.v z) aG
    |_=>False)
   |_=>False)
 | .index t x i=>(match P.underlying t with
   |some (.array n e)=>ab (lR P e) fun ly=>ab (RB ly.1 ly.2 n (ρ x).cC (ρ i).cC) fun r=>k (.v r) aG
   |some .string =>ab (Sb (ρ x).cC (ρ i).cC) fun r=>k (.v r) aG
   |_=>False)
 | .extract x i=>(match ρ x with
   | .t vs=>(match vs[i]? with|some r=>k (.v r) aG|none=>False)
   |_=>False)
 | .lookup t m x ok=>ab (EZ P t) fun et=>ab (xR P et.1) fun z=>ab (vZ et.2 z (zH aG (ρ m)) (ρ x).cC) fun r=>
    bif ok then k (.t [.d r.1,.d (.bool r.2)]) aG else k (.v (.d r.1)) aG
 | .makeSlice t n c=>ab (nE P t) fun e=>ab (eF P e) fun sz=>ab (xC P e) fun dh=>ab (xR P e) fun z=>
    bif Nat.beq sz 1&&Nat.blt 0 dh then(ab (lenOf (ρ n).cC (ρ c).cC) fun m=>m*dh≤140737488355328∧k (.v (.bh 1 (List.replicate m z))) aG)else False
 | .makeMap t h=>(match h,aG[id]? with
   |none,some .none =>k (.m id) (aG.set id (.map []))
   |_,_=>False)
 | .mapUpdate t m x y=>ab (EZ P t) fun et=>(match ρ m,o.dst with
   | .m b,none=>(match aG[b]? with
     |some (.map l)=>ab (oq et.2 (ρ x).cC) fun n=>ab (cB (ρ y).cC) fun d=>ab (sr l n d) fun l'=>k (.t []) (aG.set b (.map l'))
     |_=>False)
   |_,_=>False)
 | .call c=>(match c.callee with
   | .value f=>(match ρ f with
     | .v x=>withFn x (kq aG ρ c.args.toList) (sd C (arity P o.type) aG k)
     | .c (.func g) first cap=>sd C (arity P o.type) aG k g (lC (snap aG 6) first++kq aG ρ c.args.toList++lC (snap aG 6) cap)
     |_=>False)
   | .invoke recv name=>(match ρ recv with
     | .v x=>Bk P x name (kq aG ρ c.args.toList) (sd C (arity P o.type) aG k)
     |_=>False)
   | .builtin b=>(match b,c.args.toList,c.argTypes.toList with
     | .len,x::_,t::_=>(match ρ x with
       | .a _ n _=>bif isSlice P t then k (.v (.d (.int .i64 n))) aG else False
       |s=>ab (SG P t s.cC) fun r=>k (.v r) aG)
     | .append,[x,y],[t,u]=>bif Nat.beq t u then(ab (nE P t) fun e=>ab (eF P e) fun sz=>ab (xC P e) fun dh=>ab (pG P e) fun z=>
        bif Nat.blt 0 dh&&Nat.blt 0 sz&&Nat.beq z.length sz then cb sz dh (ρ x).cC (ρ y).cC fun r=>k (.v r) aG else False)else False
     | .min,x::l,_=>ab (CJ minD (ρ x).cC (l.map fun y=>(ρ y).cC)) fun r=>k (.v r) aG
     | .max,x::l,_=>ab (CJ maxD (ρ x).cC (l.map fun y=>(ρ y).cC)) fun r=>k (.v r) aG
     |_,_,_=>False))
 |_=>False
def tmpsOf(o:Oper):List Nat:=o.op.operands.toList.filterMap fun| .tmp t=>some t|_=>none
def de(l:List Slot)(dst:Option Nat)(s:Slot):List Slot:=match dst with
 |some d=>l.set d s
 |none=>l
def placeOf(r:Nat):List Nat→Nat→Nat
 |[],i=>i
 |t::l,i=>bif Nat.beq t r then i else placeOf r l (i+1)
def aaF(r:Nat):List Nat→Nat→Nat→Nat
 |[],_,j=>j
 |t::l,i,j=>aaF r l (i+1) (bif Nat.beq t r then i else j)
def aaG(r:Nat)(ts:List Nat):Nat:=bif Nat.beq ts.length 4 then aaF r ts 0 0 else placeOf r ts 0
def Q7(t:TypeId)(ts:List TypeId):Nat:=match P.underlying t with
 |some (.tuple rs)=>(match rs.toList with
  |[]=>0
  |r::_=>aaG r ts)
 |_=>aaG t ts
def Dh(rs:List SV):Slot:=match rs with
 |[r]=>.v r
 |rs=>.t rs
def qG(p:Nat)(args:List SV):List SV:=.aK [.dg p 0 []]::args
def SH(s:Slot):Option FuncId:=match s with
 | .v (.d (.fn (.func g)))=>some g
 |_=>none
def om(o:Oper)(e:Env)(k:Env→Prop):Prop:=match o.op with
 | .move (.tmp t)| .assign (.tmp t)=>k ⟨de (e.ak.set t (e.ak.getD t (.v .undef)).aa) o.dst (e.ak.getD t (.v .undef)),e.boxes⟩
 | .extract (.tmp t) i=>(match e.ak.getD t (.v .undef)with
   | .t vs=>(match vs[i]? with
     |some r=>k ⟨de (e.ak.set t (.t (vs.set i (aa r)))) o.dst (.v r),e.boxes⟩
     |none=>False)
   |_=>False)
 | .load ty a=>(match(bA gl e a).aa with
   | .p b off=>ab (lR P ty) fun ly=>bif ly.1 then False else(match e.boxes[b]? with
     |some (.cells cs)=>ab cs[off]? fun x=>k ⟨de e.ak o.dst (.v x),e.boxes.set b (.cells (cs.set off (aa x)))⟩
     |_=>False)
   |_=>False)
 | .store ty a (.tmp t)=>(match(bA gl e a).aa,e.ak.getD t (.v .undef),o.dst with
   | .p b off,.v y,none=>ab (eF P ty) fun sz=>bif Nat.beq sz 1 then(match e.boxes[b]? with
     |some (.cells cs)=>ab (aE y) fun l=>l.length=1∧off<cs.length∧k ⟨e.ak.set t (.v (aa y)),e.boxes.set b (.cells (setAt cs off l))⟩
     |_=>False)else False
   |_,_,_=>False)
 | .buildSlice t n ps=>ab (nE P t) fun e'=>ab (lR P e') fun ly=>ab (pG P e') fun z=>ab (rV (fun x=>(bA gl e x).aa) ps.toList) fun l=>
    bif Nat.ble (n*ly.2) (2^24)&&Nat.blt 0 ly.2&&Nat.beq z.length ly.2 then(bz ly.2 n l=true∧k ⟨de e.ak o.dst (.v (.bh ly.2 (bF (bI ly.1 z) l n 0))),e.boxes⟩)else False
 | .call c=>(match c.callee,c.args.toList,c.argTypes.toList with
   | .builtin .append,[.tmp t,y],[ty,u]=>bif Nat.beq ty u then(ab (nE P ty) fun e'=>ab (eF P e') fun sz=>ab (xC P e') fun dh=>ab (pG P e') fun z=>
      bif Nat.blt 0 dh&&Nat.blt 0 sz&&Nat.beq z.length sz then cb sz dh (e.ak.getD t (.v .undef)).cC ((bA gl e y).aa).cC fun r=>
       k ⟨de (e.ak.set t (e.ak.getD t (.v .undef)).aa) o.dst (.v r),e.boxes⟩else False)else False
   | .value f,args,ts=>(match args[Q7 P o.type ts]?,SH (bA gl e f)with
     |some (.tmp t),some g=>(match e.ak.getD t (.v .undef)with
      | .v y=>B8 (arity P o.type) fun rs=>∃bk,C g (qG (Q7 P o.type ts) ((kq e.boxes (fun x=>(bA gl e x).aa) args).set (Q7 P o.type ts) y)) (.aK (bk::rs))∧aa bk=aa y∧k ⟨de (e.ak.set t (.v bk)) o.dst (Dh rs),e.boxes⟩
      |_=>False)
     |_,_=>False)
   |_,_,_=>False)
 |_=>False
def qH(id:Nat)(aI:Bool)(o:Oper)(e:Env)(k:Env→Prop):Prop:=
 bif aI then om P gl C o e k
 else dR P C id o (fun x=>(bA gl e x).aa) e.boxes fun r aG=>k ⟨de e.ak o.dst r,aG⟩
def Env.BQ(e:Env)(t:Nat)(b:Bool):Env:=⟨e.ak.set t (.v (.d (.bool b))),e.boxes⟩
def C1(all:List Oper)(o:Oper)(e:Env)(A B:Env→Prop):Prop:=
 match o.guard with
 |none=>A e
 |some (j,want)=>(match(match all[j]? with|some g=>g.dst|none=>none)with
  |some t=>(match e.ak.getD t (.v .undef)with
   | .v x=>ar x (bif want then A (e.BQ t true)else B (e.BQ t true)) (bif want then B (e.BQ t false)else A (e.BQ t false))
   | .t _=>B e
   |_=>False)
  |none=>False)
def iY(o:Oper):Bool:=match o.op with| .alloc _| .box .. | .makeMap .. =>true|_=>false
def gm:List Oper→Nat→Nat
 |[],_=>0
 |_,0=>0
 |o::l,i+1=>(bif iY o then 1 else 0)+gm l i
def jb(aI:Nat→Bool)(all:List Oper)(base:Nat):List Oper→Nat→Env→(Env→Prop)→Prop
 |[],_,e,k=>k e
 |o::rest,i,e,k=>C1 all o e
   (fun e'=>qH P gl C (base+gm all i) (aI i) o e' fun oA=>jb aI all base rest (i+1) oA k)
   (fun e'=>jb aI all base rest (i+1) ⟨de e'.ak o.dst (.t []),e'.boxes⟩ k)
def EH(aI:Nat→Bool)(ops:List Oper)(e:Env)(k:Env→Prop):Prop:=
 jb P gl C aI ops e.boxes.length ops 0 ⟨e.ak,e.boxes++List.replicate (gm ops ops.length) .none⟩ k
inductive Ex where
 |normal
 |exit (id:Nat)
 |ret
def bZ(F:List SV→List (List SV)→(List SV→List (List SV)→Prop)→Prop)(vs:List SV)(bs:List (List SV)):Prop:=
 ∀I:List SV→List (List SV)→Prop,(∀vs bs,F vs bs I→I vs bs)→I vs bs
def pI:Code→Nat
 | .region id _ _=>id
 | .seq a _=>pI a
 | .block _ b=>pI b
 | .loop b=>pI b
 | .scope b=>pI b
 |_=>0
inductive jo where
 |box (t sz:Nat)
 |mX (t:Nat) (ts:List Nat)
 |jP (t:Nat) (agg:Bool) (sz:Nat) (ts:List Nat)
 |emp (t:Nat)
 |kF (t:Nat)
 |tV (t:Nat) (ts:List Nat)
def g7:List jo→List Nat
 |[]=>[]
 | .box t _::l=>t::g7 l
 | .mX _ ts::l=>ts++g7 l
 | .jP t _ _ ts::l=>t::(ts++g7 l)
 | .emp t::l=>t::g7 l
 | .kF t::l=>t::g7 l
 | .tV _ ts::l=>ts++g7 l
def ku(h:List (Nat×List jo))(id:Nat):List jo:=match h with
 |[]=>[]
 |(j,r)::l=>bif j==id then r else ku l id
def dr(gh:List (Nat×List jo)):Code→List Nat
 | .region id ops _=>g7 (ku gh id)++(g7 (ku gh (4000000+id))++ops.toList.filterMap (·.dst))
 | .seq a b=>dr gh a++dr gh b
 | .cond _ a b=>dr gh a++dr gh b
 | .block _ b=>dr gh b
 | .loop b=>dr gh b
 | .scope b=>dr gh b
 |_=>[]
def af.az:af→List SV
 | .cells cs=>cs
 | .map l=>[.mp l]
 |_=>[.undef]
def xS(e:Env)(vars:List Nat):List SV:=vars.map fun t=>(e.ak.getD t (.v .undef)).cC
def xH(n:Nat)(e:Env):List (List SV):=(e.boxes.take n).map af.az
def Slot.stays:Slot→Slot
 | .p b off=>.p b off
 | .c f first cap=>.c f first cap
 | .a b n sz=>.a b n sz
 | .m b=>.m b
 |_=>.v .undef
def place(t:Nat):List Nat→Nat→Option Nat
 |[],_=>none
 |v::l,i=>bif v==t then some i else place t l (i+1)
def ae(vs:List SV)(j:Nat):SV:=vs.getD j .undef
def an(bs:List (List SV))(i:Nat):List SV:=bs.getD i []
def vH(vars consts:List Nat)(vs:List SV):List Slot→Nat→List Slot
 |[],_=>[]
 |s::l,t=>(match place t vars 0 with
  |some j=>.v (ae vs j)
  |none=>bif consts.contains t then s.stays else .v .undef)::vH vars consts vs l (t+1)
def af.isMap:af→Bool
 | .map _=>true
 |_=>false
def mapOf:List SV→List (MK×D)
 |[.mp l]=>l
 |_=>[]
def af.again(cs:List SV):af→af
 | .map _=>.map (mapOf cs)
 | .none =>.none
 |_=>.cells cs
def vI(bs:List (List SV)):List af→Nat→List af
 |[],_=>[]
 |x::l,i=>af.again (an bs i) x::vI bs l (i+1)
structure Hints where
 aI:List (Nat×Nat)
 fI:List (Nat×List Nat×List Nat)
 gh:List (Nat×List jo):=[]
def sf(h:Hints)(id i:Nat):Bool:=h.aI.any fun p=>p.1==id&&p.2==i
def qz(h:List (Nat×List Nat×List Nat))(id:Nat):List Nat×List Nat:=match h with
 |[]=>([],[])
 |(j,r)::l=>bif j==id then r else qz l id
mutual
def Slot.has(b:Nat):Slot→Bool
 | .p b' _=>b'==b
 | .a b' _ _=>b'==b
 | .m b'=>b'==b
 | .c _ x y=>Slot.zS b x||Slot.zS b y
 |_=>false
def Slot.zS(b:Nat):List Slot→Bool
 |[]=>false
 |s::l=>Slot.has b s||Slot.zS b l
end
def ma(m n:Nat)(x:SV):SV:=if m=n then x else .undef
def Fm(b:Nat)(ra:Nat→SV)(rm:SV):Slot→Slot
 | .a b' n sz=>bif b'==b then .v (ra n)else .a b' n sz
 | .m b'=>bif b'==b then .v rm else .m b'
 | .p b' off=>bif b'==b then .v .undef else .p b' off
 | .c f x y=>bif Slot.zS b x||Slot.zS b y then .v .undef else .c f x y
 |s=>s
def oZ(b:Nat)(ra:Nat→SV)(rm:SV)(ts:List Nat):List Slot→Nat→List Slot
 |[],_=>[]
 |s::l,i=>(bif ts.contains i then Fm b ra rm s else s)::oZ b ra rm ts l (i+1)
def yc(b:Nat)(ts:List Nat):List Slot→Nat→Bool
 |[],_=>true
 |s::l,i=>(ts.contains i|| !s.has b)&&yc b ts l (i+1)
def uM(b:Nat):List af→Bool
 |[]=>true
 | .one s::l=> !s.has b&&uM b l
 |_::l=>uM b l
def yd(b:Nat)(ra:Nat→SV)(rm:SV)(ts:List Nat)(e:Env):Env:=⟨oZ b ra rm ts e.ak 0,e.boxes.set b .none⟩
def pM(b:Nat)(ts:List Nat)(e:Env):Bool:=yc b ts e.ak 0&&uM b e.boxes
def bj:List D→List SV
 |[]=>[]
 |x::l=>x.cells.map .d ++bj l
def ij(x:SV)(sz:Nat)(A:List D→Prop)(B:Prop):Prop:=match x with
 | .bh s L=>s=sz∧A L
 | .d _=>B
 |_=>False
def fc(agg:Bool)(sz:Nat):Nat→List D→Option (List D)
 |0,[]=>some []
 |0,_::_=>none
 |n+1,l=>if sz≤l.length then(match fc agg sz n (l.drop sz)with|some r=>some (bI agg (l.take sz)::r)|none=>none)else none
def pT(x:SV):Option SV:=match x with
 | .bh sz L=>some (.own sz L)
 | .d (.sl .nil s L)=>some (.d (.sl .nil (bif Nat.beq s ji then 0 else s) L))
 | .d y=>some (.d y)
 |_=>none
def o9(x:SV):Option SV:=match x with
 | .d (.sl .nil _ L)=>some (.d (.sl .nil ji L))
 | .bh s L=>some (.bh s L)
 |_=>none
def gU(e:Env)(k:Env→Prop):jo→Prop
 | .box t sz=>(match e.ak.getD t (.v .undef)with
   | .v x=>ij x sz (fun L=>k ⟨e.ak.set t (.a e.boxes.length L.length sz),e.boxes++[.cells (bj L)]⟩) (k e)
   |_=>False)
 | .mX t ts=>(match e.ak.getD t (.v .undef)with
   | .a b n _=>(match e.boxes[b]? with
     |some (.cells cs)=>bif pM b ts e then(ab (dC cs) fun ds=>cs.length=n∧k (yd b (fun m=>ma m n (.d (.sl .ro 1 ds))) .undef ts e))else False
     |_=>False)
   | .m b=>(match e.boxes[b]? with
     |some (.map l)=>bif pM b ts e then k (yd b (fun _=>.undef) (.mp l) ts e)else False
     |_=>False)
   | .v _=>k e
   |_=>False)
 | .jP t agg sz ts=>(match e.ak.getD t (.v .undef)with
   | .a b n s=>(match e.boxes[b]? with
     |some (.cells cs)=>bif pM b (t::ts) e&&Nat.beq s sz&&Nat.blt 0 sz&&(agg||Nat.beq sz 1)then(ab (dC cs) fun ds=>ab (fc agg sz n ds) fun L=>
       k ⟨(oZ b (fun _=>.undef) .undef (t::ts) e.ak 0).set t (.v (.bh sz L)),e.boxes.set b .none⟩)else False
     |_=>False)
   | .v _=>k e
   |_=>False)
 | .emp t=>(match e.ak.getD t (.v .undef)with
   | .v x=>ab (o9 x) fun y=>k ⟨e.ak.set t (.v y),e.boxes⟩
   |_=>False)
 | .kF t=>(match e.ak.getD t (.v .undef)with
   | .v x=>ab (pT x) fun y=>k ⟨e.ak.set t (.v y),e.boxes⟩
   |_=>False)
 | .tV t ts=>(match e.ak.getD t (.v .undef)with
   | .p c 0=>(match e.boxes[c]? with
     |some (.one (.m b))=>(match e.boxes[b]? with
      |some (.map l)=>bif !(Nat.beq b c)&&yc b ts e.ak 0&&uM b (e.boxes.set c .none)then k ⟨oZ b (fun _=>.undef) .undef ts e.ak 0,(e.boxes.set b .none).set c (.cells [.mp l])⟩else False
      |_=>False)
     |_=>False)
   |_=>False)
def iL:List jo→Env→(Env→Prop)→Prop
 |[],e,k=>k e
 |x::l,e,k=>gU e (fun e'=>iL l e' k) x
def lB(o:Oper):Bool:=match o.op with| .store .. | .mapUpdate .. =>true|_=>false
def j1(o:Oper):Bool:=match o.op with| .store .. | .load .. | .call _| .mapUpdate .. | .lookup .. =>true|_=>false
def j3(aI:Bool)(o:Oper):List Nat:=(match o.dst with|some d=>[d]|none=>[])++(bif aI then tmpsOf o else [])
def indep(all:Array Oper)(IB Di:Bool)(x y:Oper):Bool:=
 (j3 IB x).all (fun d=> !(y.looksAt all).contains d&& !(j3 Di y).contains d)&&
 (j3 Di y).all (fun d=> !(x.looksAt all).contains d)&&
 !(lB x&&j1 y)&& !(lB y&&j1 x)&&
 !(IB&&Di&&j1 x&&j1 y)
end
open Go.RowKit
def D.one:D→Bool
 | .agg _=>false
 |_=>true
def rR(w w':World)(b o:Nat):Prop:=w'.cell? ⟨b,o,none⟩=w.cell? ⟨b,o,none⟩∧∀es c,w.heap[b]? =some (.map es c)→w'.heap[b]? =some (.map es c)
theorem rR.refl(w:World)(b o:Nat):rR w w b o:=⟨rfl,fun _ _ h=>h⟩
theorem rR.rP{w w':World}{b o:Nat}(h:w'.heap[b]? =w.heap[b]?):rR w w' b o:=⟨World.cell?_of_block h,fun _ _ hm=>h.trans hm⟩
def xI(w w':World)(g a:Nat):Prop:=a=0→w'.heap[g]? =w.heap[g]?
theorem xI.refl(w:World)(g a:Nat):xI w w g a:=fun _=>rfl
def zT:KS→Value→Prop
 | .bool b,v=>v=.bool b
 | .int k n,v=>v=.int k n∧iP k n=true
 | .str s,v=>∃b:ByteArray,v=.string b∧b.data.toList=s∧b.size≤maxLen
def MK.Is:MK→Value→Prop
 | .i n,v=>v=.int .i64 n∧iP .i64 n=true
 | .s l,v=>∃vs:Array Value,v=.agg vs∧vs.size=l.length∧∀(i:Nat)k u,l[i]? =some k→vs[i]? =some u→zT k u
section
variable(w:World)(St:Nat→Nat→Prop)
inductive bp:D→Value→Prop
 |bool (b:Bool):bp (.bool b) (.bool b)
 |int (k:IntKind) (n:Int) (h:iP k n=true):bp (.int k n) (.int k n)
 |str (s:ByteArray) (h:s.size≤maxLen):bp (.str s.data.toList) (.string s)
 |agg (ds:List D) (vs:Array Value) (hf:∀d∈ds,d.one=true) (hl:ds.length=vs.size) (hc:∀(i:Nat)d v,ds[i]? =some d→vs[i]? =some v→bp d v):bp (.agg ds) (.agg vs)
 |jk (sz:Nat):bp (.sl .nil sz []) (.slice none 0 0)
 |sl (sz:Nat) (L:List D) (b off cap:Nat) (vs:Nat→Value) (cd:L.length≤cap) (hm:L.length≤maxLen) (aN:∀x∈L,x.cells.length=sz)
   (hf:∀x∈L,∀c∈x.cells,c.one=true) (aW:∀(o:Nat),o<L.length*sz→w.cell? ⟨b,off+o,none⟩=some (vs o)∧St b (off+o))
   (hc:∀(i:Nat)x(j:Nat)c,L[i]? =some x→x.cells[j]? =some c→bp c (vs (i*sz+j))):
   bp (.sl .ro sz L) (.slice (some ⟨b,off,none⟩) L.length cap)
 |mY (sz:Nat) (a:Addr) (cap:Nat) (ha:a.spot≠none):bp (.sl .ro sz []) (.slice (some a) 0 cap)
 |fn (f:Fn):bp (.fn f) (.func f #[] #[])
 |x8:bp .x8 .nilFunc
 |iface (t:TypeId) (x:D) (v:Value) (h:bp x v):bp (.iface t x) (.iface t v)
 |x9:bp .x9 .nilIface
 |oV:bp .oV (.pointer none)
inductive aR(base:Nat):(Nat→Nat→Nat→Prop)→SV→Value→Prop
 |d (O:Nat→Nat→Nat→Prop) (x:D) (v:Value) (h:bp w St x v):aR base O (.d x) v
 |own (O:Nat→Nat→Nat→Prop) (sz:Nat) (L:List D) (g cap:Nat) (h:bp w St (.sl .ro sz L) (.slice (some ⟨g,0,none⟩) L.length cap)) (cd:cap≤maxLen)
   (ho:O g (L.length*sz) (cap*sz)):aR base O (.own sz L) (.slice (some ⟨g,0,none⟩) L.length cap)
 |full (O:Nat→Nat→Nat→Prop) (sz:Nat) (L:List D) (a:Addr) (h:bp w St (.sl .ro sz L) (.slice (some a) L.length L.length)):
   aR base O (.full sz L) (.slice (some a) L.length L.length)
 |ref (O:Nat→Nat→Nat→Prop) (cs:List SV) (off b o:Nat) (vs:Nat→Value) (hb:b<base)
   (aW:∀(i:Nat),i<cs.length→w.cell? ⟨b,o+i,none⟩=some (vs i)∧(vs i).oneCell' =true)
   (hc:∀(i:Nat)c,cs[i]? =some c→aR base (fun _ _ _=>False) c (vs i)):aR base O (.ref cs off) (.pointer (some ⟨b,o+off,none⟩))
 |dg (O:Nat→Nat→Nat→Prop) (n sz:Nat) (cs:List SV) (b cap:Nat) (vs:Nat→Value) (hb:b<base) (hn:n≤cap) (hm:cap≤maxLen)
   (aW:∀(i:Nat),i<cs.length→w.cell? ⟨b,0+i,none⟩=some (vs i)∧(vs i).oneCell' =true)
   (hc:∀(i:Nat)c,cs[i]? =some c→aR base (fun _ _ _=>False) c (vs i)):aR base O (.dg n sz cs) (.slice (some ⟨b,0,none⟩) n cap)
 |aX (O:Nat→Nat→Nat→Prop) (x:D) (off b o:Nat) (vs:Nat→Value) (hf:∀c∈x.cells,c.one=true)
   (aW:∀(i:Nat),i<x.cells.length→w.cell? ⟨b,o+i,none⟩=some (vs i)∧St b (o+i))
   (hc:∀(i:Nat)c,x.cells[i]? =some c→bp w St c (vs i)):aR base O (.aX x off) (.pointer (some ⟨b,o+off,none⟩))
 |ef (O:Nat→Nat→Nat→Prop) (f:Fn) (first cap:List SV) (fv cv:Array Value) (hf:first.length=fv.size) (hc:cap.length=cv.size)
   (rf:∀(i:Nat)x v,first[i]? =some x→fv[i]? =some v→aR base (fun _ _ _=>False) x v)
   (rc:∀(i:Nat)x v,cap[i]? =some x→cv[i]? =some v→aR base (fun _ _ _=>False) x v):aR base O (.ef f first cap) (.func f fv cv)
 |bh (O:Nat→Nat→Nat→Prop) (sz:Nat) (L:List D) (g cap:Nat) (vs:Nat→Value) (cd:L.length≤cap) (hm:cap≤maxLen) (aN:∀x∈L,x.cells.length=sz) (hf:∀x∈L,∀c∈x.cells,c.one=true)
   (ho:O g 0 (cap*sz)) (aW:∀(o:Nat),o<L.length*sz→w.cell? ⟨g,o,none⟩=some (vs o))
   (hc:∀(i:Nat)x(j:Nat)c,L[i]? =some x→x.cells[j]? =some c→bp w St c (vs (i*sz+j))):aR base O (.bh sz L) (.slice (some ⟨g,0,none⟩) L.length cap)
 |mp (O:Nat→Nat→Nat→Prop) (l:List (MK×D)) (r:Nat) (es:Array MapEntry) (clock:Nat) (hh:w.heap[r]? =some (.map es clock)) (hs:St r 0) (hl:l.length=es.size)
   (hc:∀(i:Nat)x y,l[i]? =some x→es[i]? =some y→x.1.Is y.key∧True∧bp w St x.2 y.val):aR base O (.mp l) (.map (some r))
 |nest (O:Nat→Nat→Nat→Prop) (LL:List (List D)) (g cap:Nat) (bk cp:Nat→Nat) (cd:LL.length≤cap) (hm:cap≤maxLen) (ho:O g 0 cap)
   (aW:∀(i:Nat)L,LL[i]? =some L→w.cell? ⟨g,i,none⟩=some (.slice (some ⟨bk i,0,none⟩) L.length (cp i)))
   (pa:∀(i:Nat)L,LL[i]? =some L→O (bk i) 0 (cp i)∧L.length≤cp i∧cp i≤maxLen∧bk i≠g∧(∀x∈L,x.qF=true)∧∀(j:Nat)x,L[j]? =some x→∃v,w.cell? ⟨bk i,j,none⟩=some v∧bp w St x v)
   (uS:∀(i j:Nat)L M,LL[i]? =some L→LL[j]? =some M→bk i=bk j→i=j):aR base O (.nest LL) (.slice (some ⟨g,0,none⟩) LL.length cap)
 |undef (O:Nat→Nat→Nat→Prop) (v:Value):aR base O .undef v
end
theorem bp.mono{w w':World}{St cq:Nat→Nat→Prop}(h:∀b o,St b o→cq b o∧w'.cell? ⟨b,o,none⟩=w.cell? ⟨b,o,none⟩){d:D}{v:Value}
  (r:bp w St d v):bp w' cq d v:=by
 induction r with
 |bool b=>exact .bool b
 |int k n hk=>exact .int k n hk
 |str s hs=>exact .str s hs
 |agg ds vs hf hl _ ih=>exact .agg ds vs hf hl ih
 |jk sz=>exact .jk sz
 |sl sz L b off cap vs cd hm aN hf aW _ ih=>
  exact .sl sz L b off cap vs cd hm aN hf (fun o ho=>⟨(h _ _ (aW o ho).2).2.trans (aW o ho).1,(h _ _ (aW o ho).2).1⟩) ih
 |mY sz a cap ha=>exact .mY sz a cap ha
 |fn f=>exact .fn f
 |x8=>exact .x8
 |iface t x v _ ih=>exact .iface t x v ih
 |x9=>exact .x9
 |oV=>exact .oV
theorem aR.mono{w w':World}{St cq:Nat→Nat→Prop}{base:Nat}(h0:∀b o,St b o→cq b o∧rR w w' b o)
  (hb:∀b o,b<base→w'.cell? ⟨b,o,none⟩=w.cell? ⟨b,o,none⟩){O:Nat→Nat→Nat→Prop}{x:SV}{v:Value}(r:aR w St base O x v):
  ∀O':Nat→Nat→Nat→Prop,(∀g a c,O g a c→O' g a c∧xI w w' g a)→aR w' cq base O' x v:=by
 have h:∀b o,St b o→cq b o∧w'.cell? ⟨b,o,none⟩=w.cell? ⟨b,o,none⟩:=fun b o hs=>⟨(h0 b o hs).1,(h0 b o hs).2.1⟩
 induction r with
 |d O x v hd=>exact fun O' _=>.d O' x v (hd.mono h)
 |own O sz L g cap hd cd ho=>exact fun O' hO=>.own O' sz L g cap (hd.mono h) cd (hO _ _ _ ho).1
 |full O sz L a hd=>exact fun O' _=>.full O' sz L a (hd.mono h)
 |ref O cs off b o vs eV aW _ ih=>exact fun O' _=>.ref O' cs off b o vs eV (fun i hi=>⟨(hb _ _ eV).trans (aW i hi).1,(aW i hi).2⟩) fun i c hc=>ih i c hc _ (fun _ _ _ h=>h.elim)
 |dg O n sz cs b cap vs eV hn hm aW _ ih=>exact fun O' _=>.dg O' n sz cs b cap vs eV hn hm (fun i hi=>⟨(hb _ _ eV).trans (aW i hi).1,(aW i hi).2⟩) fun i c hc=>ih i c hc _ (fun _ _ _ h=>h.elim)
 |aX O x off b o vs hf aW hc=>
  exact fun O' _=>.aX O' x off b o vs hf (fun i hi=>⟨(h _ _ (aW i hi).2).2.trans (aW i hi).1,(h _ _ (aW i hi).2).1⟩) fun i c hi=>(hc i c hi).mono h
 |ef O f first cap fv cv hf hc _ _ kZ k7=>exact fun O' _=>.ef O' f first cap fv cv hf hc (fun i x v a b=>kZ i x v a b _ (fun _ _ _ h=>h.elim)) (fun i x v a b=>k7 i x v a b _ (fun _ _ _ h=>h.elim))
 |bh O sz L g cap vs cd hm aN hf ho aW hc=>
  exact fun O' hO=>.bh O' sz L g cap vs cd hm aN hf (hO _ _ _ ho).1 (fun o cg=>(World.cell?_of_block ((hO _ _ _ ho).2 rfl)).trans (aW o cg)) fun i x j c hx jB=>(hc i x j c hx jB).mono h
 |mp O l r es clock hh hs hl hc=>exact fun O' _=>.mp O' l r es clock ((h0 r 0 hs).2.2 es clock hh) (h r 0 hs).1 hl fun i x y a b=>⟨(hc i x y a b).1,(hc i x y a b).2.1,(hc i x y a b).2.2.mono h⟩
 |nest O LL g cap bk cp cd hm ho aW pa uS=>exact fun O' hO=>.nest O' LL g cap bk cp cd hm (hO _ _ _ ho).1 (fun i L hL=>(World.cell?_of_block ((hO _ _ _ ho).2 rfl)).trans (aW i L hL)) (fun i L hL=>(by
   obtain⟨h1,h2,h3,h4,h5,h6⟩:=pa i L hL
   exact⟨(hO _ _ _ h1).1,h2,h3,h4,h5,fun j x hx=>(by
    obtain⟨v,k1,k2⟩:=h6 j x hx
    exact⟨v,(World.cell?_of_block ((hO _ _ _ h1).2 rfl)).trans k1,k2.mono h⟩)⟩)) uS
 |undef O v=>exact fun O' _=>.undef O' v
theorem aR.aa{w:World}{St:Nat→Nat→Prop}{base:Nat}{O O':Nat→Nat→Nat→Prop}{x:SV}{v:Value}(r:aR w St base O x v):aR w St base O' (aa x) v:=by
 cases r with
 |d _ x v hd=>exact .d _ x v hd
 |own _ sz L g cap hd cd ho=>exact .d _ _ _ hd
 |full _ sz L a hd=>exact .full _ sz L a hd
 |ref _ cs off b o vs eV aW hc=>exact .ref _ cs off b o vs eV aW hc
 |dg _ n sz cs b cap vs eV hn hm aW hc=>exact .dg _ n sz cs b cap vs eV hn hm aW hc
 |aX _ x off b o vs hf aW hc=>exact .aX _ x off b o vs hf aW hc
 |ef _ f first cap fv cv hf hc rf rc=>exact .ef _ f first cap fv cv hf hc rf rc
 |bh _ sz L g cap vs cd hm aN hf ho aW hc=>exact .undef _ _
 |mp _ l r es clock hh hs hl hc=>exact .mp _ l r es clock hh hs hl hc
 |nest _ LL g cap bk cp cd hm ho aW pa uS=>exact .undef _ _
 |undef _ v=>exact .undef _ _
theorem aR.cB{w:World}{St:Nat→Nat→Prop}{base:Nat}{O:Nat→Nat→Nat→Prop}{x:SV}{v:Value}(r:aR w St base O x v){y:D}(h:Ab.cB x=some y):bp w St y v:=by
 cases r<;>simp only[Ab.cB,Option.some.injEq,reduceCtorEq]at h<;>subst h<;>assumption
mutual
def SV.Wf:SV→Prop
 | .d x=>x.Wf
 | .own sz L=>(D.sl .ro sz L).Wf
 | .full sz L=>(D.sl .ro sz L).Wf
 | .bh sz L=>(D.sl .ro sz L).Wf
 | .ref cs _=>SV.iQ cs
 | .dg _ _ cs=>SV.iQ cs
 | .aX x _=>D.iQ x.cells
 | .ef _ a b=>SV.iQ a∧SV.iQ b
 | .aK l=>SV.iQ l
 | .mp l=>∀x∈l,x.2.Wf
 | .nest _=>True
 | .undef =>True
def SV.iQ:List SV→Prop
 |[]=>True
 |x::l=>x.Wf∧SV.iQ l
end
theorem D.mO:∀(l:List D),D.iQ l↔∀x∈l,x.Wf
 |[]=>by simp[D.iQ]
 |x::l=>by simp[D.iQ,D.mO l]
theorem SV.mO:∀(l:List SV),SV.iQ l↔∀x∈l,x.Wf
 |[]=>by simp[SV.iQ]
 |x::l=>by simp[SV.iQ,SV.mO l]
theorem bp.XN{w:World}{St:Nat→Nat→Prop}{d:D}{v:Value}(r:bp w St d v):∀c∈d.cells,c.one=true:=by
 cases r with
 |agg ds vs hf hl hc=>exact hf
 |_=>intro c hc;simp only[D.cells,List.mem_singleton]at hc;subst hc;rfl
theorem bp.vO{w:World}{St:Nat→Nat→Prop}{d:D}{v:Value}(r:bp w St d v)(h:d.one=true):v.oneCell'=true:=by
 cases r<;>first|rfl|simp[D.one]at h
theorem bp.wf{w:World}{St:Nat→Nat→Prop}{d:D}{v:Value}(r:bp w St d v):d.Wf:=by
 induction r with
 |int k n hk=>simpa[D.Wf]using hk
 |str s hs=>rw[D.Wf];exact hs
 |agg ds vs hf hl _ ih=>
  rw[D.Wf,D.mO]
  intro x hx
  obtain⟨i,hi,rfl⟩:=List.mem_iff_getElem.1 hx
  exact ih i _ (vs[i]'(by omega)) (by simp) (by simp)
 |jk sz=>simp[D.Wf,D.iQ]
 |mY sz a cap=>simp[D.Wf,D.iQ]
 |sl sz L b off cap vs cd hm aN hf aW hc ih=>
  rw[D.Wf]
  refine⟨hm,by simp,aN,?_⟩
  rw[D.mO]
  intro x hx
  obtain⟨i,hi,rfl⟩:=List.mem_iff_getElem.1 hx
  have key:∀c∈(L[i]).cells,c.Wf:=fun c g8=>by
   obtain⟨j,hj,rfl⟩:=List.mem_iff_getElem.1 g8
   exact ih i _ j _ (List.getElem?_eq_getElem hi) (List.getElem?_eq_getElem hj)
  cases hL:L[i]with
  |agg cs=>rw[hL]at key;rw[D.Wf,D.mO];exact key
  |_=>rw[hL]at key;exact key _ (by simp[D.cells])
 |iface t x v _ ih=>simpa[D.Wf]using ih
 |_=>simp[D.Wf]
theorem aR.wf{w:World}{St:Nat→Nat→Prop}{base:Nat}{O:Nat→Nat→Nat→Prop}{x:SV}{v:Value}(r:aR w St base O x v):x.Wf:=by
 induction r with
 |d O x v hd=>simpa[SV.Wf]using hd.wf
 |own O sz L g cap hd cd ho=>simpa[SV.Wf]using hd.wf
 |full O sz L a hd=>simpa[SV.Wf]using hd.wf
 |bh O sz L g cap vs cd hm aN hf ho aW hc=>
  rw[SV.Wf,D.Wf]
  refine⟨Nat.le_trans cd hm,by simp,aN,?_⟩
  rw[D.mO]
  intro x hx
  obtain⟨i,hi,rfl⟩:=List.mem_iff_getElem.1 hx
  have key:∀c∈(L[i]).cells,c.Wf:=fun c g8=>by
   obtain⟨j,hj,rfl⟩:=List.mem_iff_getElem.1 g8
   exact(hc i _ j _ (List.getElem?_eq_getElem hi) (List.getElem?_eq_getElem hj)).wf
  cases hL:L[i]with
  |agg cs=>rw[hL]at key;rw[D.Wf,D.mO];exact key
  |_=>rw[hL]at key;exact key _ (by simp[D.cells])
 |ref O cs off b o vs eV aW _ ih=>
  rw[SV.Wf,SV.mO]
  intro x hx
  obtain⟨i,hi,rfl⟩:=List.mem_iff_getElem.1 hx
  exact ih i _ (by simp)
 |dg O n sz cs b cap vs eV hn hm aW _ ih=>
  rw[SV.Wf,SV.mO]
  intro x hx
  obtain⟨i,hi,rfl⟩:=List.mem_iff_getElem.1 hx
  exact ih i _ (by simp)
 |aX O x off b o vs hf aW hc=>
  rw[SV.Wf,D.mO]
  intro c g8
  obtain⟨j,hj,rfl⟩:=List.mem_iff_getElem.1 g8
  exact(hc j _ (by simp)).wf
 |ef O f first cap fv cv hf hc _ _ kZ k7=>
  rw[SV.Wf,SV.mO,SV.mO]
  constructor
  ·intro x hx
   obtain⟨i,hi,rfl⟩:=List.mem_iff_getElem.1 hx
   exact kZ i _ (fv[i]'(by omega)) (by simp) (by simp)
  ·intro x hx
   obtain⟨i,hi,rfl⟩:=List.mem_iff_getElem.1 hx
   exact k7 i _ (cv[i]'(by omega)) (by simp) (by simp)
 |mp O l r es clock hh hs hl hc=>
  rw[SV.Wf]
  intro x hx
  obtain⟨i,hi,rfl⟩:=List.mem_iff_getElem.1 hx
  exact(hc i _ (es[i]'(by omega)) (by simp) (by simp)).2.2.wf
 |nest=>simp[SV.Wf]
 |undef=>simp[SV.Wf]
inductive Pos where
 |s (i j:Nat)
 |b (i j:Nat)
 deriving DecidableEq
structure Gh where
 St:Nat→Nat→Prop
 bx:List (Option Nat)
 ow:Nat→Option Pos
def fA(base:Nat)(w:World)(g:Gh)(p:Pos)(b a c:Nat):Prop:=
 g.ow b=some p∧base≤b∧some b∉g.bx∧(∃cur e,w.heap[b]? =some (.cells cur e (0,0))∧cur.size=c)∧∀o,a≤o→¬g.St b o
inductive cQ(base:Nat)(w:World)(g:Gh):(Nat→Nat→Nat→Nat→Prop)→Slot→Value→Prop
 |v (O:Nat→Nat→Nat→Nat→Prop) (x:SV) (y:Value) (h:aR w g.St base (O 0) x y):cQ base w g O (.v x) y
 |p (O:Nat→Nat→Nat→Nat→Prop) (b off ao:Nat) (h:g.bx[b]? =some (some ao)):cQ base w g O (.p b off) (.pointer (some ⟨ao,off,none⟩))
 |c (O:Nat→Nat→Nat→Nat→Prop) (f:Fn) (first cap:List Slot) (fv cv:Array Value) (hf:first.length=fv.size) (hc:cap.length=cv.size)
   (rf:∀(i:Nat)x v,first[i]? =some x→fv[i]? =some v→cQ base w g (fun _ _ _ _=>False) x v)
   (rc:∀(i:Nat)x v,cap[i]? =some x→cv[i]? =some v→cQ base w g (fun _ _ _ _=>False) x v):cQ base w g O (.c f first cap) (.func f fv cv)
 |a (O:Nat→Nat→Nat→Nat→Prop) (b n sz:Nat) (v:Value) (hm:n≤maxLen) (h:∃ao cap,g.bx[b]? =some (some ao)∧n≤cap∧v=.slice (some ⟨ao,0,none⟩) n cap∧cap≤maxLen∧∃c ty,w.heap[ao]? =some (.cells c ty (0,0))∧c.size=cap*sz):cQ base w g O (.a b n sz) v
 |m (O:Nat→Nat→Nat→Nat→Prop) (b ao:Nat) (h:g.bx[b]? =some (some ao)):cQ base w g O (.m b) (.map (some ao))
 |t (O:Nat→Nat→Nat→Nat→Prop) (xs:List SV) (vs:Array Value) (hl:xs.length=vs.size)
   (hc:∀(j:Nat)x v,xs[j]? =some x→vs[j]? =some v→aR w g.St base (O j) x v):cQ base w g O (.t xs) (.tuple vs)
def gp(base:Nat)(w:World)(g:Gh)(i j:Nat):Nat→Nat→Nat→Prop:=fA base w g (.s i j)
def wc(base:Nat)(w:World)(g:Gh)(i j:Nat):Nat→Nat→Nat→Prop:=fA base w g (.b i j)
def af.size:af→Nat
 | .cells cs=>cs.length
 | .one _=>1
 |_=>0
def abH(base:Nat)(w:World)(g:Gh)(b:Nat)(bx:af)(ao:Nat):Prop:=
 base≤ao∧∃c t,w.heap[ao]? =some (.cells c t (0,0))∧(∀(j:Nat)y,j<bx.size→c[j]? =some y→y.oneCell'=true)∧match bx with
  | .none =>False
  | .map _=>False
  | .cells cs=>cs.length≤c.size∧∀(j:Nat)x y,cs[j]? =some x→c[j]? =some y→aR w g.St base (wc base w g b j) x y
  | .one s=>0<c.size∧∀y,c[0]? =some y→cQ base w g (fun _=>wc base w g b 0) s y
def ans(base:Nat)(w:World)(g:Gh)(l:List (MK×D))(ao:Nat):Prop:=
 base≤ao∧∃es clock,w.heap[ao]? =some (.map es clock)∧l.length=es.size∧∀(i:Nat)x y,l[i]? =some x→es[i]? =some y→x.1.Is y.key∧True∧bp w g.St x.2 y.val
def su(base:Nat)(w:World)(g:Gh)(b:Nat)(bx:af)(ao:Nat):Prop:=match bx with
 | .map l=>ans base w g l ao
 | .none =>False
 | .cells cs=>abH base w g b (.cells cs) ao
 | .one s=>abH base w g b (.one s) ao
def zx(gl:Nat→Option D)(w:World)(St:Nat→Nat→Prop):Prop:=
 ∀n x,gl n=some x→(∀c∈x.cells,c.one=true)∧∃vs:Nat→Value,(∀(i:Nat),i<x.cells.length→w.cell? ⟨n,i,none⟩=some (vs i)∧St n i)∧∀(i:Nat)c,x.cells[i]? =some c→bp w St c (vs i)
structure S0 where
 St:Nat→Nat→Prop
 df:Nat→Obj→Prop
 cl:Nat→Nat→Value→Prop
 sz:Nat:=0
instance:CoeFun S0 (fun _=>Nat→Nat→Prop):=⟨S0.St⟩
theorem gk{w:World}{D:Nat}{x:Obj}(h:w.heap[D]? =some x):D<w.heap.size:=(Array.getElem?_eq_some_iff.1 h).1
structure Inv(gl:Nat→Option D)(w0:World)(au:S0)(e:Env)(a:Act)(w:World)(g:Gh):Prop where
 below:Below w0.heap.size w0 w
 size:a.tmps.size=e.ak.length
 ak:∀(i:Nat)s,e.ak[i]? =some s→cQ w0.heap.size w g (gp w0.heap.size w g i) s (a.tmps.getD i undef)
 gq:g.bx.length=e.boxes.length
 boxes:∀(b:Nat)bx ao,e.boxes[b]? =some bx→g.bx[b]? =some (some ao)→su w0.heap.size w g b bx ao
 nodup:∀(i j:Nat)ao,g.bx[i]? =some (some ao)→g.bx[j]? =some (some ao)→i=j
 iB:∀b o,au b o→g.St b o
 dj:∀b o,g.St b o→(au b o∨w0.heap.size≤b)∧some b∉g.bx∧b<w.heap.size
 dP:∀b,some b∈g.bx→w0.heap.size≤b∧b<w.heap.size
 lS:zx gl w g.St
 defers:a.defers=[]
 gu:∀(D:Nat)(o:Obj),au.df D o→some D∉g.bx∧g.ow D=none∧w.heap[D]? =some o∧∀x,g.St D x→au.St D x
 cls:∀(b o:Nat)(v:Value),au.cl b o v→g.St b o∧w.cell? ⟨b,o,none⟩=some v
 k8:au.sz≤w.heap.size
def reach:(acc:List Nat)→List Oper→List Nat
 |acc,[]=>acc
 |acc,o::l=>reach (acc++[o.after.toList.foldl (fun s e=>bif Region.binds .any e then s|||2^e.on|||acc.getD e.on 0 else s) 0]) l
def qu(o:Oper):Option Nat:=match o.op,o.guard with| .alloc _,none=>o.dst|_,_=>none
def mQ(l:List Oper):List Nat:=l.filterMap qu
def Jj(A:List Nat):Operand→Bool
 | .tmp t=>A.contains t
 |_=>false
def rW(A:List Nat)(o:Oper):Option Nat:=match o.op with
 | .store _ (.tmp a) _=>bif A.contains a then some a else none
 |_=>none
def HP(A:List Nat)(aI:Bool)(o:Oper):Bool:=
 (match qu o with|some _=>true|none=> !iY o&&(match o.dst with|some d=> !A.contains d|none=>true))&&
 (match o.op with
   | .store _ x y=> !Jj A y&&(!Jj A x|| !aI)
   |op=>op.operands.toList.all fun x=> !Jj A x)
def Mi:List Nat→Bool
 |[]=>true
 |a::l=> !l.contains a&&Mi l
def G8(a m:Nat):List Oper→Nat→Bool
 |[],_=>true
 |o::l,i=>(match qu o with|some b=> !(Nat.beq a b)||Nat.testBit m i|none=>true)&&G8 a m l (i+1)
def Ln(all:List Oper)(A:List Nat)(aI:Nat→Bool)(R:List Nat):List Oper→Nat→Bool
 |[],_=>true
 |o::l,i=>HP A (aI i) o&&(match rW A o with|some a=>G8 a (R.getD i 0) all 0|none=>true)&&Ln all A aI R l (i+1)
def eligible(l:List Oper)(aI:Nat→Bool)(R:List Nat):Bool:=Mi (mQ l)&&Ln l (mQ l) aI R l 0
def MI(A:List Nat)(lx ly:Bool)(x y:Oper):Bool:=match rW A x,rW A y with
 |some a,some b=> !(Nat.beq a b)&& !lx&& !ly
 |some _,none=> !lx&& !lB y&& !ly
 |none,some _=> !ly&& !lB x&& !lx
 |none,none=>false
def RD(all:Array Oper)(A:List Nat)(IB Di:Bool)(x y:Oper):Bool:=
 (j3 IB x).all (fun d=> !(y.looksAt all).contains d&& !(j3 Di y).contains d)&&
 (j3 Di y).all (fun d=> !(x.looksAt all).contains d)&&MI A IB Di x y
def E0(E:Option (List Nat))(all:Array Oper)(lx ly:Bool)(x y:Oper):Bool:=
 indep all lx ly x y||(match E with|some A=>RD all A lx ly x y|none=>false)
def Mj(E:Option (List Nat))(ops:Array Oper)(aI:Nat→Bool)(R:List Nat)(i:Nat)(o:Oper):List Oper→Nat→Bool
 |[],_=>true
 |p::l,j=>(Nat.testBit (R.getD j 0) i||E0 E ops (aI i) (aI j) o p)&&Mj E ops aI R i o l (j+1)
def Br(E:Option (List Nat))(ops:Array Oper)(aI:Nat→Bool)(R:List Nat):List Oper→Nat→Bool
 |[],_=>true
 |o::l,i=>o.after.toList.all (fun e=> !Region.binds .any e||Nat.blt e.on i)&&Mj E ops aI R i o l (i+1)&&Br E ops aI R l (i+1)
def o0(aI:Nat→Bool)(ops:Array Oper):Bool:=
 bif eligible ops.toList aI (reach [] ops.toList)then Br (some (mQ ops.toList)) ops aI (reach [] ops.toList) ops.toList 0
 else Br none ops aI (reach [] ops.toList) ops.toList 0
def rY(m:Nat):List Oper→Nat→List Nat
 |[],_=>[]
 |o::l,i=>bif !Nat.testBit m i&&o.after.toList.all (fun e=> !Region.binds .any e||Nat.testBit m e.on)then i::rY m l (i+1)else rY m l (i+1)
def MJ(ops:Array Oper)(aI:Nat→Bool)(R:List Nat)(m i:Nat)(o:Oper):List Oper→Nat→Bool
 |[],_=>true
 |p::l,j=>(Nat.beq i j||Nat.testBit m j||Nat.testBit (R.getD j 0) i||indep ops (aI i) (aI j) o p)&&MJ ops aI R m i o l (j+1)
def Mk(ops:Array Oper)(aI:Nat→Bool)(R:List Nat)(m i:Nat):Bool:=match ops.toList[i]? with
 |some o=>MJ ops aI R m i o ops.toList 0
 |none=>false
def firstFree(ops:Array Oper)(aI:Nat→Bool)(R:List Nat)(m:Nat):List Nat→Option Nat
 |[]=>none
 |i::l=>bif Mk ops aI R m i then some i else firstFree ops aI R m l
def abI(ops:Array Oper)(aI:Nat→Bool)(R:List Nat)(m:Nat):List Nat:=match firstFree ops aI R m (rY m ops.toList 0)with
 |some i=>[i]
 |none=>rY m ops.toList 0
def M9(f:Nat→Prop):List Nat→Prop
 |[]=>True
 |i::l=>match l with|[]=>f i|_=>f i∧M9 f l
def ant(gh:List (Nat×List jo))(id:Nat):Bool:=gh.any fun p=>Nat.beq p.1 id&&p.2.isEmpty
mutual
def SV.aA:SV→Bool
 | .ref _ _=>false
 | .dg _ _ _=>false
 | .ef _ a b=>SV.iZ a&&SV.iZ b
 | .aK l=>SV.iZ l
 |_=>true
def SV.iZ:List SV→Bool
 |[]=>true
 |x::l=>SV.aA x&&SV.iZ l
end
def ER(ws vars consts:List Nat):List Slot→Nat→Bool
 |[],_=>true
 |s::l,t=>(match s with| .v _=>true| .t _=>true|_=>ws.contains t||(!vars.contains t&&consts.contains t))&&ER ws vars consts l (t+1)
section
variable(P:Program)(gl:Nat→Option D)(C:bu)(h:Hints)
def Dj(ops:Array Oper)(aI:Nat→Bool)(R:List Nat)(base:Nat)(Q:Env→Prop):Nat→Nat→Env→Prop
 |0,m,e=>bif (rY m ops.toList 0).isEmpty then Q e else False
 |n+1,m,e=>bif (rY m ops.toList 0).isEmpty then Q e else
   M9 (fun i=>match ops.toList[i]? with
    |some o=>C1 ops.toList o e (fun e'=>qH P gl C (base+gm ops.toList i) (aI i) o e' fun oA=>Dj ops aI R base Q n (m|||2^i) oA) (fun e'=>Dj ops aI R base Q n (m|||2^i) ⟨de e'.ak o.dst (.t []),e'.boxes⟩)
    |none=>False) (abI ops aI R m)
def aoV(ops:Array Oper)(aI:Nat→Bool)(e:Env)(Q:Env→Prop):Prop:=
 Dj P gl C ops aI (reach [] ops.toList) e.boxes.length Q ops.toList.length 0 ⟨e.ak,e.boxes++List.replicate (gm ops.toList ops.toList.length) .none⟩
def zU(ok:Bool)(ops:Array Oper)(aI:Nat→Bool)(e:Env)(Q:Env→Prop)(e':Env):Prop:=
 bif ok then Q e' else aoV P gl C ops aI e (fun x=>x=e')∧Q e'
def sg(e:Env)(c:Operand)(A B:Env→Prop):Prop:=match c with
 | .tmp t=>(match e.ak.getD t (.v .undef)with
   | .v x=>ar x (A (e.BQ t true)) (B (e.BQ t false))
   |_=>False)
 | .const (.bool b)=>cond b (A e) (B e)
 |_=>False
def akC(a b:Code):Nat:=bif Nat.beq (pI a) 0 then pI b else pI a
def sj(A:(List SV→List (List SV)→Prop)→Prop)(F:List SV→List (List SV)→Prop):Prop:=A F
def uN(key:Nat)(c:Code)(e:Env)(Q:Ex→Env→Prop)(T:(Ex→Env→Prop)→Prop):Prop:=
 match qz h.fI key with
 |([],[])=>T Q
 |(vars,consts)=>bif consts.all (fun t=> !(dr h.gh c).contains t)&&ER (dr h.gh c) vars consts e.ak 0 then
    sj (fun J=>T (fun x e'=>match x with| .normal =>J (xS e' vars) (xH e.boxes.length e')| .exit i=>Q (.exit i) e'| .ret =>Q .ret e'))
     (fun vs bs=>Q .normal ⟨vH vars consts vs e.ak 0,vI bs e.boxes 0⟩)
  else False
inductive Spec where
 |At (t d:Nat) (ty:TypeId)
 |cut (t d1 d2:Nat) (ty:TypeId)
 |zV (t d:Nat) (f:FuncId) (dst:Nat)
 |zI (t d t2 d2:Nat) (f:FuncId) (dst:Nat)
 |push (t u d1 d2 d3 d4:Nat) (ty:TypeId)
 |uT (t i j d1 d2 d3 d4 d5 d6:Nat) (qM nM qN:TypeId) (b:Bool)
def uU(o:Oper):Option (Nat×Nat):=match o.op,o.dst,o.guard with| .move (.tmp t),some d,none=>some (t,d)|_,_,_=>none
def Na(o:Oper):Option (Nat×Nat):=match o.op,o.dst,o.guard with| .assign (.tmp t),some d,none=>some (t,d)|_,_,_=>none
def Nb(o:Oper):Option (TypeId×Nat×Nat):=match o.op,o.dst,o.guard with
 | .buildSlice ty n ps,some d,none=>(match n,ps.toList with|1,[(0,.tmp t)]=>some (ty,t,d)|_,_=>none)
 |_,_,_=>none
def Nc(o:Oper):Option (TypeId×Nat×Nat×Nat):=match o.op,o.dst,o.guard with
 | .call c,some d,none=>(match c.callee,c.args.toList,c.argTypes.toList with
   | .builtin .append,[.tmp x,.tmp y],[t,u]=>bif Nat.beq t u then some (t,x,y,d)else none
   |_,_,_=>none)
 |_,_,_=>none
def Fy(o:Oper):Option (TypeId×Nat×Nat×Nat):=match o.op,o.dst,o.guard with| .indexAddr ty (.tmp x) (.tmp i),some d,none=>some (ty,x,i,d)|_,_,_=>none
def Nd(o:Oper):Option (TypeId×Nat×Nat):=match o.op,o.dst,o.guard with| .load ty (.tmp x),some d,none=>some (ty,x,d)|_,_,_=>none
def Ng(o:Oper):Option (TypeId×Nat×Bool):=match o.op,o.dst,o.guard with| .store ty (.tmp x) (.const (.bool b)),none,none=>some (ty,x,b)|_,_,_=>none
def distinct(t:Nat)(l:List Nat):Bool:=l.all fun d=> !(Nat.beq t d)
def Sc(o1 o2 o3 o4 o5:Oper):Option Spec:=match uU o1,uU o2,Nb o3,Nc o4,Na o5 with
 |some (t,d1),some (u,d2),some (ty,x2,d3),some (oB,x1,x3,d4),some (x4,t')=>
  bif Nat.beq x1 d1&&Nat.beq x2 d2&&Nat.beq x3 d3&&Nat.beq x4 d4&&Nat.beq t t'&&Nat.beq ty oB&&distinct t [u,d1,d2,d3,d4]&&distinct u [d1,d2,d3,d4]&&distinct d1 [d2,d3,d4]&&distinct d2 [d3,d4]&&distinct d3 [d4]
  then some (.push t u d1 d2 d3 d4 ty)else none
 |_,_,_,_,_=>none
def Sd(o1 o2 o3 o4 o5 o6 o7:Oper):Option Spec:=match uU o1,uU o2,Fy o3,Nd o4,uU o5,Fy o6,Ng o7 with
 |some (t,d1),some (i,d2),some (qM,x1,x2,d3),some (nM,x3,d4),some (j,d5),some (acg,x4,x5,d6),some (qN,x6,b)=>
  bif Nat.beq x1 d1&&Nat.beq x2 d2&&Nat.beq x3 d3&&Nat.beq x4 d4&&Nat.beq x5 d5&&Nat.beq x6 d6&&Nat.beq nM acg&&distinct t [d1,d2,d3,d4,d5,d6]&&distinct i [d1,d2,d3,d4,d5,d6]&&distinct j [d1,d2,d3,d4,d5,d6]&&distinct d1 [d2,d3,d4,d5,d6]&&distinct d2 [d3,d4,d5,d6]&&distinct d3 [d4,d5,d6]&&distinct d4 [d5,d6]&&distinct d5 [d6]
  then some (.uT t i j d1 d2 d3 d4 d5 d6 qM nM qN b)else none
 |_,_,_,_,_,_,_=>none
def C2(gh:List (Nat×List jo))(id:Nat):Bool:= !(ku gh (6000000+id)).isEmpty
def zy(pu draw:Bool)(ops:List Oper):Option Spec:=bif draw then none else(match ops with
 |[o1,o2]=>(match o1.op,o1.dst,o1.guard,o2.op,o2.dst,o2.guard with
  | .move (.tmp t),some d,none,.call c,none,none=>(match c.callee,c.args.toList,c.argTypes.toList with
    | .builtin .clear,[.tmp d'],[ty]=>bif Nat.beq d d'&& !(Nat.beq t d)then some (.At t d ty)else none
    |_,_,_=>none)
  | .move (.tmp t),some d,none,.call c,some u,none=>(match c.callee,c.args.toList with
    | .value (.func f),[.tmp d']=>bif Nat.beq (arity P o2.type) 0&&(Nat.beq d d'&& !(Nat.beq t d)&& !(Nat.beq u d)&& !(Nat.beq u t))then some (.zV t d f u)else none
    |_,_=>none)
  |_,_,_,_,_,_=>none)
 |[o1,o2,o3]=>(match o1.op,o1.dst,o1.guard,o2.op,o2.dst,o2.guard,o3.op,o3.dst,o3.guard with
  | .move (.tmp t),some d1,none,.slice ty (.tmp TX) none (some (.const (.int .i64 0))) none,some d2,none,.assign (.tmp DF),some t',none=>
    bif Nat.beq d1 TX&&Nat.beq d2 DF&&Nat.beq t t'&& !(Nat.beq t d1)&& !(Nat.beq t d2)&& !(Nat.beq d1 d2)then some (.cut t d1 d2 ty)else none
  | .move (.tmp t),some d,none,.move (.tmp t2),some d2,none,.call c,some u,none=>(match c.callee,c.args.toList with
    | .value (.func f),[.tmp d',.tmp DF]=>bif Nat.beq (arity P o3.type) 0&&(Nat.beq d d'&&Nat.beq d2 DF&& !(Nat.beq t d)&& !(Nat.beq u d)&& !(Nat.beq u t)&& !(Nat.beq d2 d)&& !(Nat.beq d2 t)&& !(Nat.beq t2 d))then some (.zI t d t2 d2 f u)else none
    |_,_=>none)
  |_,_,_,_,_,_,_,_,_=>none)
 |[o1,o2,o3,o4,o5]=>bif pu then Sc o1 o2 o3 o4 o5 else none
 |[o1,o2,o3,o4,o5,o6,o7]=>bif pu then Sd o1 o2 o3 o4 o5 o6 o7 else none
 |_=>none)
def RF(ty:TypeId):Option Nat:=match nE P ty with
 |some e=>(match lR P e,xC P e,pG P e with
  |some (false,1),some b,some z=>bif Nat.blt 0 b&&Nat.beq z.length 1 then some b else none
  |_,_,_=>none)
 |none=>none
def Se(x y:SV):Option (List (List D)×List D):=match y with
 | .bh s L=>if s=1 then(match x with| .nest LL=>some (LL,L)| .d (.sl .nil _ _)=>some ([],L)|_=>none)else none
 |_=>none
def BD(bytes:Nat)(x y:SV)(k:SV→Prop):Prop:=ab (Se x y) fun r=>(r.1.length+1)*bytes≤140737488355328∧(∀x∈r.2,x.qF=true)∧k (.nest (r.1++[r.2]))
def aaH(qM nM qN:TypeId):Bool:=(match nE P qM,nE P nM with
 |some e1,some e2=>(match eF P e1,lR P nM,eF P e2,eF P qN with
  |some 1,some (false,1),some 1,some 1=>true
  |_,_,_,_=>false)
 |_,_=>false)
def zJ(x xi xj:SV)(b:Bool)(k:SV→Prop):Prop:=match x with
 | .nest LL=>ab (da xi LL.length) fun i=>ab LL[i]? fun L=>ab (da xj L.length) fun j=>k (.nest (LL.set i (L.set j (.bool b))))
 |_=>False
def zW(ty:TypeId)(x:SV):Option SV:=match nE P ty with
 |some e=>(match eF P e,xR P e with
  |some 1,some z=>(match x with
   | .d (.sl .nil s _)=>some (.d (.sl .nil s []))
   | .bh s L=>if s=1 then some (.bh 1 (L.map fun _=>z))else none
   |_=>none)
  |_,_=>none)
 |none=>none
def zX(ty:TypeId)(x:SV):Option SV:=match nE P ty with
 |some e=>(match eF P e with
  |some sz=>(match x with
   | .d (.sl .nil s _)=>some (.d (.sl .nil s []))
   | .bh s _=>if s=sz then some (.bh sz [])else none
   |_=>none)
  |none=>none)
 |none=>none
def ig(e:Env)(k:Env→Prop):Spec→Prop
 | .At t d ty=>(match e.ak.getD t (.v .undef)with
   | .v x=>bif Nat.blt d e.ak.length then(ab (zW P ty x) fun y=>k ⟨(e.ak.set d (.v .undef)).set t (.v y),e.boxes⟩)else False
   |_=>False)
 | .cut t d1 d2 ty=>(match e.ak.getD t (.v .undef)with
   | .v x=>bif Nat.blt d1 e.ak.length&&Nat.blt d2 e.ak.length then(ab (zX P ty x) fun y=>k ⟨((e.ak.set d1 (.v .undef)).set d2 (.v .undef)).set t (.v y),e.boxes⟩)else False
   |_=>False)
 | .zV t d f u=>(match e.ak.getD t (.v .undef)with
   | .v x=>bif Nat.blt d e.ak.length then(∃bk,C f (qG 0 [x]) (.aK [bk])∧aa bk=aa x∧k ⟨((((((e.ak.set t (.v (aa x))).set d (.v x)).set d (.v bk)).set u (.t [])).set d (.v (aa bk)))).set t (.v bk),e.boxes⟩)else False
   |_=>False)
 | .zI t d t2 d2 f u=>(match e.ak.getD t (.v .undef)with
   | .v x=>bif Nat.blt d e.ak.length&&Nat.blt d2 e.ak.length&& !(Nat.beq t2 t)then(∃bk,C f (qG 0 [x,snap e.boxes 6 (e.ak.getD t2 (.v .undef)).aa]) (.aK [bk])∧aa bk=aa x∧k ⟨(((((((e.ak.set t (.v (aa x))).set d (.v x)).set d2 (e.ak.getD t2 (.v .undef)).aa).set d (.v bk)).set u (.t [])).set d (.v (aa bk)))).set t (.v bk),e.boxes⟩)else False
   |_=>False)
 | .push t u d1 d2 d3 d4 ty=>(match e.ak.getD t (.v .undef),e.ak.getD u (.v .undef)with
   | .v x,.v y=>bif [d1,d2,d3,d4].all fun d=>Nat.blt d e.ak.length then(ab (RF P ty) fun n=>BD n x y fun r=>
      k ⟨(((((e.ak.set d1 (.v .undef)).set d2 (.v .undef)).set d3 (.v .undef)).set d4 (.v .undef)).set u (.v .undef)).set t (.v r),e.boxes⟩)else False
   |_,_=>False)
 | .uT t i j d1 d2 d3 d4 d5 d6 qM nM qN b=>(match e.ak.getD t (.v .undef),e.ak.getD i (.v .undef),e.ak.getD j (.v .undef)with
   | .v x,.v xi,.v xj=>bif aaH P qM nM qN&&[d1,d2,d3,d4,d5,d6].all fun d=>Nat.blt d e.ak.length then(zJ x xi xj b fun r=>
      k ⟨((((((e.ak.set d1 (.v .undef)).set d2 (.v .undef)).set d3 (.v .undef)).set d4 (.v .undef)).set d5 (.v .undef)).set d6 (.v .undef)).set t (.v r),e.boxes⟩)else False
   |_,_,_=>False)
def dz:SV→SV
 | .d x=>.d x
 | .own sz L=>.d (.sl .ro sz L)
 | .full sz L=>.d (.sl .ro sz L)
 | .bh sz L=>.d (.sl .ro sz L)
 | .nest LL=>.d (.sl .ro 1 (LL.map fun L=>.sl .ro 1 L))
 |_=>.undef
def Ii(n sz:Nat)(cs:List SV):SV:=match dC cs with
 |some L=>bif Nat.beq sz 1&&Nat.beq L.length n then .d (.sl .ro 1 L)else .undef
 |none=>.undef
def abJ(aG:List af):Slot→Slot
 | .v x=>.v (dz x)
 | .a b n sz=>(match aG[b]? with
   |some (.cells cs)=>.v (Ii n sz cs)
   |_=>.v .undef)
 |_=>.v .undef
def tJ(e:Env):Env:=⟨e.ak.map (abJ e.boxes),[]⟩
def qI:SV→SV
 | .d x=>bif x.qF then .d x else .undef
 | .bh sz L=>.bh sz L
 |_=>.undef
def k9:SV→Prop
 | .bh _ L=>anq L
 |_=>True
def Bl(ws T:List Nat)(f:Nat→Slot):List Slot→Nat→List Slot
 |[],_=>[]
 |s::l,i=>(bif T.contains i then .v (qI (f i).cC)else bif ws.contains i then .v .undef else s)::Bl ws T f l (i+1)
def uV(ws T:List Nat)(e e':Env):Env:=⟨Bl ws T (fun i=>e'.ak.getD i (.v .undef)) e.ak 0,e.boxes⟩
def Au(e:Env)(X:Prop):List Nat→Prop
 |[]=>X
 |t::l=>k9 (e.ak.getD t (.v .undef)).cC ∧Au e X l
def sn(m0 m1:Nat)(T:List Nat)(ops:List Oper)(aI:Nat→Bool)(e:Env)(K:Env→Prop):Prop:=
 jb P gl C aI ops e.boxes.length (ops.take m0) 0 e fun e1=>jb P gl C aI ops 0 ((ops.drop m0).take m1) m0 (tJ e1) fun e2=>
  Au e2 (jb P gl C aI ops e.boxes.length ((ops.drop m0).drop m1) (m0+m1) (uV (((ops.drop m0).take m1).filterMap (·.dst)) T e1 e2) K) T
def E7(gh:List (Nat×List jo))(id:Nat):Option (Nat×Nat×List Nat):=match ku gh (5000000+id)with
 |[.mX m0 (m1::T)]=>some (m0,m1,T)
 |_=>none
def CU(ops:Array Oper)(draw ok:Bool)(m0 m1:Nat)(T:List Nat):Bool:=
 Nat.beq (gm ops.toList ops.toList.length) 0&&((Nat.beq m0 0&&Nat.beq m1 ops.toList.length)|| !draw)&&ok&&Nat.ble (m0+m1) ops.toList.length&&T.all fun t=>(((ops.toList.drop m0).take m1).filterMap (·.dst)).contains t
def pb(id:Nat)(ops:Array Oper)(draw:Bool)(e:Env)(K:Env→Prop):Prop:=
 bif (!draw||o0 (sf h id) ops)||ant h.gh id then iL (ku h.gh id) e (fun e'=>match E7 h.gh id with
  |some mT=>bif CU ops draw (!draw||o0 (sf h id) ops) mT.1 mT.2.1 mT.2.2 then sn P gl C mT.1 mT.2.1 mT.2.2 ops.toList (sf h id) e' (fun e2=>iL (ku h.gh (4000000+id)) e2 K)else False
  |none=>(match zy P (C2 h.gh id) draw ops.toList with
   |some s=>ig P C e' (fun e2=>iL (ku h.gh (4000000+id)) e2 K) s
   |none=>EH P gl C (sf h id) ops.toList e' (zU P gl C (!draw||o0 (sf h id) ops) ops (sf h id) e' (fun e2=>iL (ku h.gh (4000000+id)) e2 K))))else False
def aw:Code→(Ex→Env→Prop)→Env→Prop
 | .skip,Q,e=>Q .normal e
 | .region id ops draw,Q,e=>uN h (2000000+id) (.region id ops draw) e Q fun Q=>pb P gl C h id ops draw e (Q .normal)
 | .label _,Q,e=>Q .normal e
 | .seq a b,Q,e=>aw a (fun x e'=>match x with| .normal =>aw b Q e'| .exit i=>Q (.exit i) e'| .ret =>Q .ret e') e
 | .cond c a b,Q,e=>uN h (1000000+akC a b) (.cond c a b) e Q fun Q=>sg e c (aw a Q) (aw b Q)
 | .block id b,Q,e=>aw b (fun x e'=>match x with| .normal =>Q .normal e'| .exit i=>bif i==id then Q .normal e' else Q (.exit i) e'| .ret =>Q .ret e') e
 | .loop b,Q,e=>(match qz h.fI (pI b)with
   |(vars,consts)=>bif consts.all (fun t=> !(dr h.gh b).contains t)&&ER (dr h.gh b) vars consts e.ak 0 then
      bZ (fun vs bs I=>aw b (fun x e'=>match x with| .normal =>I (xS e' vars) (xH e.boxes.length e')| .exit i=>Q (.exit i) e'| .ret =>Q .ret e')
          ⟨vH vars consts vs e.ak 0,vI bs e.boxes 0⟩)
       (xS e vars) (xH e.boxes.length e)
    else False)
 | .exit id,Q,e=>Q (.exit id) e
 | .ret,Q,e=>Q .ret e
 |_,_,_=>False
def Dk(e:Env)(used:List Nat)(r:ResultVar)(k:SV→Prop):Prop:=match r with
 | .tmp t=>(match e.ak.getD t (.v .undef)with
   | .v x=>x.aA=true∧k (bif used.contains t then aa x else x)
   |_=>False)
 | .cell a t=>ab (lR P t) fun ly=>(match e.ak.getD a (.v .undef)with
   | .p b off=>uH ly.1 ly.2 b off e.boxes fun s _=>(match s with
     | .v x=>x.aA=true∧k x
     |_=>False)
   |_=>False)
def Ml(used:List Nat):ResultVar→List Nat
 | .tmp t=>t::used
 | .cell _ _=>used
def C8(e:Env):List Nat→List ResultVar→(List SV→Prop)→Prop
 |_,[],k=>k []
 |used,r::l,k=>Dk P e used r fun x=>C8 e (Ml used r) l fun xs=>k (x::xs)
def finish(fn:Func)(e:Env)(K:SV→Prop):Prop:=match fn.results.toList with
 |[r]=>Dk P e [] r K
 |l=>C8 P e [] l fun xs=>K (.aK xs)
def enter(n:Nat)(args:List SV):Env:=⟨args.map .v ++List.replicate (n-args.length) (.v .undef),[]⟩
def ct(args:List SV)(X:Prop):Prop:=SV.iQ args→X
def body(f:FuncId)(args:List SV)(K:SV→Prop):Prop:=match P.funcs[f]? with
 |some fn=>(match fn.body with
  |some c=>ct args (aw P gl C h c (fun x e=>match x with| .normal =>finish P fn e K| .ret =>finish P fn e K| .exit _=>False) (enter fn.ntmps args))
  |none=>False)
 |none=>False
def Hw:Code→Code
 | .scope c=>c
 |c=>c
def Fo(p:Nat)(f:FuncId)(args:List SV)(K:SV→Prop):Prop:=match P.funcs[f]? with
 |some fn=>(match fn.body with
  |some c=>bif fn.results.isEmpty&& !(dr [] (Hw c)).contains p then ct args (aw P gl C h (Hw c) (fun x e=>match x with| .normal =>iL (ku h.gh 3000000) e (fun e=>K (e.ak.getD p (.v .undef)).cC)| .ret =>iL (ku h.gh 3000000) e (fun e=>K (e.ak.getD p (.v .undef)).cC)| .exit _=>False) (enter fn.ntmps args))else False
  |none=>False)
 |none=>False
end
def vS(g:Gh)(w w':World):Prop:=∀(b:Nat)c ty,some b∈g.bx→w.heap[b]? =some (.cells c ty (0,0))→∃c' oB,w'.heap[b]? =some (.cells c' oB (0,0))∧c'.size=c.size
theorem vS.refl{g:Gh}(w:World):vS g w w:=fun _ c ty _ h=>⟨c,ty,h,rfl⟩
theorem vS.of{g:Gh}{w w':World}(h:∀b,b<w.heap.size→w'.heap[b]? =w.heap[b]?):vS g w w':=fun b c ty _ hb=>⟨c,ty,(h b (gk hb)).trans hb,rfl⟩
structure Ext(base:Nat)(w:World)(g:Gh)(w':World)(g':Gh)(lost:Pos→Prop):Prop where
 df:∀(D:Nat)(o:Obj),some D∉g.bx→g.ow D=none→w.heap[D]? =some o→w'.heap[D]? =some o∧some D∉g'.bx∧g'.ow D=none∧∀x,g'.St D x→g.St D x
 st:∀b o,g.St b o→g'.St b o∧rR w w' b o
 bs:∀b o,b<base→w'.cell? ⟨b,o,none⟩=w.cell? ⟨b,o,none⟩
 bx:∀(i:Nat)ao,g.bx[i]? =some (some ao)→g'.bx[i]? =some (some ao)
 own:∀p b a c,¬lost p→fA base w g p b a c→fA base w' g' p b a c∧xI w w' b a
 sh:vS g w w'
theorem cQ.mono{base:Nat}{w w':World}{g g':Gh}{O O':Nat→Nat→Nat→Nat→Prop}{s:Slot}{v:Value}(r:cQ base w g O s v)
  (st:∀b o,g.St b o→g'.St b o∧rR w w' b o)(bs:∀b o,b<base→w'.cell? ⟨b,o,none⟩=w.cell? ⟨b,o,none⟩)
  (bx:∀(i:Nat)ao,g.bx[i]? =some (some ao)→g'.bx[i]? =some (some ao))(sh:vS g w w')(hO:∀j b a c,O j b a c→O' j b a c∧xI w w' b a):cQ base w' g' O' s v:=by
 induction r generalizing O' with
 |v O x y h=>exact .v _ x y (h.mono st bs _ (hO 0))
 |p O b off ao h=>exact .p _ b off ao (bx _ _ h)
 |a O b n sz v hm h=>obtain⟨ao,cap,h1,h2,h3,h4,c,ty,h5,h6⟩:=h;obtain⟨c',oB,h7,h8⟩:=sh ao c ty (List.mem_of_getElem? h1) h5;exact .a _ b n sz v hm ⟨ao,cap,bx _ _ h1,h2,h3,h4,c',oB,h7,h8.trans h6⟩
 |m O b ao h=>exact .m _ b ao (bx _ _ h)
 |c O f first cap fv cv hf hc _ _ kZ k7=>exact .c _ f first cap fv cv hf hc (fun i x v a b=>kZ i x v a b (fun _ _ _ _ h=>h.elim)) (fun i x v a b=>k7 i x v a b (fun _ _ _ _ h=>h.elim))
 |t O xs vs hl hc=>exact .t _ xs vs hl fun j x v a b=>(hc j x v a b).mono st bs _ (hO j)
theorem cQ.aa{base:Nat}{w:World}{g:Gh}{O O':Nat→Nat→Nat→Nat→Prop}{s:Slot}{v:Value}(r:cQ base w g O s v):cQ base w g O' s.aa v:=by
 cases r with
 |v _ x _ h=>exact .v _ _ _ h.aa
 |p _ b off ao h=>exact .p _ b off ao h
 |a _ b n sz v hm h=>exact .a _ b n sz v hm h
 |m _ b ao h=>exact .m _ b ao h
 |c _ f first cap fv cv hf hc rf rc=>exact .c _ f first cap fv cv hf hc rf rc
 |t _ xs vs hl hc=>
  refine .t _ _ vs (by simpa using hl) fun j x v a b=>?_
  simp only[List.getElem?_map,Option.map_eq_some_iff]at a
  obtain⟨x',a,rfl⟩:=a
  exact(hc j x' v a b).aa
theorem Ext.refl(base:Nat)(w:World)(g:Gh):Ext base w g w g (fun _=>False):=⟨fun _ _ hb ho h=>⟨h,hb,ho,fun _ h=>h⟩,fun _ _ h=>⟨h,.refl _ _ _⟩,fun _ _ _=>rfl,fun _ _ h=>h,fun _ _ _ _ _ h=>⟨h,.refl _ _ _⟩,.refl _⟩
theorem Ext.slot{base:Nat}{w w':World}{g g':Gh}{lost:Pos→Prop}(h:Ext base w g w' g' lost){i:Nat}(hl:∀j,¬lost (.s i j)){s:Slot}{v:Value}
  (r:cQ base w g (gp base w g i) s v):cQ base w' g' (gp base w' g' i) s v:=
 r.mono h.st h.bs h.bx h.sh fun j b a c ho=>h.own _ b a c (hl j) ho
theorem Ext.none{base:Nat}{w w':World}{g g':Gh}{lost:Pos→Prop}(h:Ext base w g w' g' lost){s:Slot}{v:Value}
  {O O':Nat→Nat→Nat→Nat→Prop}(r:cQ base w g O s v):cQ base w' g' O' s.aa v:=
 (r.aa (O':=fun _ _ _ _=>False)).mono h.st h.bs h.bx h.sh fun _ _ _ _ h=>h.elim
theorem Ext.stc{base:Nat}{w w':World}{g g':Gh}{lost:Pos→Prop}(h:Ext base w g w' g' lost):∀b o,g.St b o→g'.St b o∧w'.cell? ⟨b,o,Option.none⟩=w.cell? ⟨b,o,Option.none⟩:=fun b o hs=>⟨(h.st b o hs).1,(h.st b o hs).2.1⟩
theorem Ext.yr{base:Nat}{w w':World}{g g':Gh}{lost:Pos→Prop}(h:Ext base w g w' g' lost){x:D}{v:Value}(r:bp w g.St x v):bp w' g'.St x v:=r.mono fun b o hs=>⟨(h.st b o hs).1,(h.st b o hs).2.1⟩
theorem Ext.box{base:Nat}{w w':World}{g g':Gh}{lost:Pos→Prop}(h:Ext base w g w' g' lost){b:Nat}{bx:af}{ao:Nat}(hl:∀j,¬lost (.b b j))
  (hb:w'.heap[ao]? =w.heap[ao]?)(r:su base w g b bx ao):su base w' g' b bx ao:=by
 cases bx with
 |none=>exact r.elim
 |cells cs=>
  obtain⟨h0,c,t,hc,h1,hr⟩:=r
  exact⟨h0,c,t,hb.trans hc,h1,hr.1,fun j x y hx hy=>(hr.2 j x y hx hy).mono h.st h.bs _ fun b' a c' ho=>h.own _ b' a c' (hl j) ho⟩
 |one s=>
  obtain⟨h0,c,t,hc,h1,hr⟩:=r
  exact⟨h0,c,t,hb.trans hc,h1,hr.1,fun y hy=>(hr.2 y hy).mono h.st h.bs h.bx h.sh fun _ b' a c' ho=>h.own _ b' a c' (hl 0) ho⟩
 |map l=>
  obtain⟨h0,es,clock,hc,h1,hr⟩:=r
  exact⟨h0,es,clock,hb.trans hc,h1,fun i x y hx hy=>⟨(hr i x y hx hy).1,(hr i x y hx hy).2.1,h.yr (hr i x y hx hy).2.2⟩⟩
theorem adO{l:List Slot}{dst:Option Nat}{s:Slot}{i:Nat}{x:Slot}(h:(de l dst s)[i]? =some x):(dst=some i∧x=s)∨(dst≠some i∧l[i]? =some x):=by
 cases dst with
 |none=>exact .inr ⟨by simp,h⟩
 |some d=>
  simp only[de,List.getElem?_set]at h
  by_cases hd:d=i
  ·subst hd
   simp only[↓reduceIte]at h
   split at h
   ·exact .inl ⟨rfl,(Option.some.inj h).symm⟩
   ·cases h
  ·simp only[hd,↓reduceIte]at h
   exact .inr ⟨by simpa using hd,h⟩
theorem Qy(a:Act)(dst:Option Tmp)(v:Value)(i:Nat)(h:i<a.tmps.size):(a.put dst v).tmps.getD i undef=if dst=some i then v else a.tmps.getD i undef:=by
 cases dst with
 |none=>simp[Act.put]
 |some d=>
  simp only[Act.put,Array.getD_eq_getD_getElem?,Array.getElem?_setIfInBounds]
  by_cases hd:d=i
  ·subst hd;simp[h]
  ·simp[hd]
theorem tn(a:Act)(dst:Option Tmp)(v:Value):(a.put dst v).tmps.size =a.tmps.size:=by cases dst<;>simp[Act.put]
theorem put_defers(a:Act)(dst:Option Tmp)(v:Value):(a.put dst v).defers =a.defers:=by cases dst<;>rfl
theorem Pf(l:List Slot)(dst:Option Nat)(s:Slot):(de l dst s).length =l.length:=by cases dst<;>simp[de]
theorem Ev{w:World}{St:Nat→Nat→Prop}{v:Value}{x:D}(h:C0 v=some x):bp w St x v:=by
 unfold C0 at h
 split at h
 ·cases h;exact .bool _
 ·rename_i k n
  cases hw:iP k n with
  |true=>rw[hw]at h;cases h;exact .int _ _ hw
  |false=>rw[hw]at h;cases h
 ·rename_i s
  cases hw:Nat.ble s.size maxLen with
  |true=>rw[hw]at h;cases h;exact .str _ (Nat.le_of_ble_eq_true hw)
  |false=>rw[hw]at h;cases h
 ·cases h;exact .jk 0
 ·cases h;exact .oV
 ·cases h;exact .x8
 ·cases h;exact .x9
 ·rename_i f first captured
  cases hw:(first.isEmpty&&captured.isEmpty)with
  |true=>
   rw[hw]at h;cases h
   simp only[Bool.and_eq_true,Array.isEmpty_iff]at hw
   obtain⟨rfl,rfl⟩:=hw
   exact .fn f
  |false=>rw[hw]at h;cases h
 ·cases h
theorem PN{v:Value}{x:D}(h:C0 v=some x):x.one=true:=by
 have:∀{w:World}{St},bp w St x v:=Ev h
 unfold C0 at h
 split at h<;>first|(cases h;rfl)|(cases h)|skip
 ·rename_i k n;cases hw:iP k n<;>rw[hw]at h<;>cases h;rfl
 ·rename_i s;cases hw:Nat.ble s.size maxLen<;>rw[hw]at h<;>cases h;rfl
 ·rename_i f first captured;cases hw:(first.isEmpty&&captured.isEmpty)<;>rw[hw]at h<;>cases h;rfl
theorem PB:∀{vs:List Value}{xs:List D},CS vs=some xs→∀x∈xs,x.one=true
 |[],xs,h=>by cases h;simp
 |v::vs,xs,h=>by
  simp only[CS]at h
  split at h
  ·rename_i x hx
   split at h
   ·rename_i r hr
    cases h
    intro y hy
    rcases List.mem_cons.1 hy with rfl|hy
    ·exact PN hx
    ·exact PB hr y hy
   ·cases h
  ·cases h
theorem GZ{w:World}{St:Nat→Nat→Prop}:∀{vs:List Value}{xs:List D},CS vs=some xs→
  xs.length=vs.length∧∀(i:Nat)x v,xs[i]? =some x→vs[i]? =some v→bp w St x v
 |[],xs,h=>by cases h;simp
 |v::vs,xs,h=>by
  simp only[CS]at h
  split at h
  ·rename_i x hx
   split at h
   ·rename_i r hr
    cases h
    obtain⟨h1,h2⟩:=GZ (w:=w) (St:=St) hr
    refine⟨by simp[h1],fun i y u hy hu=>?_⟩
    cases i with
    |zero=>simp only[List.getElem?_cons_zero,Option.some.injEq]at hy hu;subst hy hu;exact Ev hx
    |succ i=>simp only[List.getElem?_cons_succ]at hy hu;exact h2 i y u hy hu
   ·cases h
  ·cases h
theorem afZ{w:World}{St:Nat→Nat→Prop}{v:Value}{x:D}(h:MH v=some x):bp w St x v:=by
 unfold MH at h
 split at h
 ·split at h
  ·rename_i cs l hl
   cases h
   obtain⟨h1,h2⟩:=GZ (w:=w) (St:=St) hl
   exact .agg l _ (PB hl) (by simpa using h1) fun i d v hd hv=>h2 i d v hd (by simpa using hv)
  ·cases h
 ·exact Ev h
section
variable{gl:Nat→Option D}{w0:World}{au:S0}
theorem zx.ext{base:Nat}{w w':World}{g g':Gh}{lost:Pos→Prop}(h:Ext base w g w' g' lost)(r:zx gl w g.St):zx gl w' g'.St:=by
 intro n x hx
 obtain⟨h0,vs,h1,h2⟩:=r n x hx
 exact⟨h0,vs,fun i hi=>⟨(h.st _ _ (h1 i hi).2).2.1.trans (h1 i hi).1,(h.st _ _ (h1 i hi).2).1⟩,fun i c hc=>h.yr (h2 i c hc)⟩
theorem Inv.stepG{e:Env}{a:Act}{w:World}{g:Gh}(hI:Inv gl w0 au e a w g){w':World}{g':Gh}{lost:Pos→Prop}(hX:Ext w0.heap.size w g w' g' lost)
  {ak:List Slot}{aG:List af}{dst:Option Nat}{s:Slot}{v:Value}
  (rZ:Below w0.heap.size w w')
  (hlen:ak.length=e.ak.length)
  (hs:∀(i:Nat)x,ak[i]? =some x→dst≠some i→cQ w0.heap.size w' g' (gp w0.heap.size w' g' i) x (a.tmps.getD i undef))
  (qJ:∀d,dst=some d→cQ w0.heap.size w' g' (gp w0.heap.size w' g' d) s v)
  (RG:g'.bx.length=aG.length)
  (eI:∀(b:Nat)bx ao,aG[b]? =some bx→g'.bx[b]? =some (some ao)→su w0.heap.size w' g' b bx ao)
  (oC:∀(i j:Nat)ao,g'.bx[i]? =some (some ao)→g'.bx[j]? =some (some ao)→i=j)(IC:∀b,some b∈g'.bx→w0.heap.size≤b∧b<w'.heap.size)
  (Dl:∀b o,g'.St b o→(au b o∨w0.heap.size≤b)∧some b∉g'.bx∧b<w'.heap.size):
  Inv gl w0 au ⟨de ak dst s,aG⟩ (a.put dst v) w' g':=by
 refine⟨hI.below.trans rZ,?_,?_,RG,eI,oC,fun b o h=>(hX.st b o (hI.iB b o h)).1,Dl,IC,hI.lS.ext hX,(put_defers a dst v).trans hI.defers,fun D o hD=>(have h:=hI.gu D o hD;have k:=hX.df D o h.1 h.2.1 h.2.2.1;⟨k.2.1,k.2.2.1,k.1,fun x hx=>h.2.2.2 x (k.2.2.2 x hx)⟩),fun b o v hv=>(have h:=hI.cls b o v hv;⟨(hX.st b o h.1).1,(hX.st b o h.1).2.1.trans h.2⟩),Nat.le_trans hI.k8 rZ.size⟩
 ·rw[tn,Pf,hlen,hI.size]
 ·intro i x hx
  have hi:i<a.tmps.size:=by
   have:=(List.getElem?_eq_some_iff.1 hx).1
   rw[Pf,hlen]at this
   rw[hI.size];exact this
  rw[Qy a dst v i hi]
  rcases adO hx with⟨hd,rfl⟩|⟨hd,er⟩
  ·simp only[hd,↓reduceIte];exact qJ i hd
  ·simp only[hd,↓reduceIte]
   exact hs i x er hd
theorem Inv.step{e:Env}{a:Act}{w:World}{g:Gh}(hI:Inv gl w0 au e a w g){w':World}{g':Gh}{lost:Pos→Prop}(hX:Ext w0.heap.size w g w' g' lost)
  {ak:List Slot}{aG:List af}{dst:Option Nat}{s:Slot}{v:Value}
  (rZ:Below w0.heap.size w w')
  (hlen:ak.length=e.ak.length)
  (hs:∀(i:Nat)x,ak[i]? =some x→dst≠some i→∃y,e.ak[i]? =some y∧((x=y∧∀j,¬lost (.s i j))∨x=y.aa))
  (qJ:∀d,dst=some d→cQ w0.heap.size w' g' (gp w0.heap.size w' g' d) s v)
  (RG:g'.bx.length=aG.length)
  (eI:∀(b:Nat)bx ao,aG[b]? =some bx→g'.bx[b]? =some (some ao)→su w0.heap.size w' g' b bx ao)
  (oC:∀(i j:Nat)ao,g'.bx[i]? =some (some ao)→g'.bx[j]? =some (some ao)→i=j)(IC:∀b,some b∈g'.bx→w0.heap.size≤b∧b<w'.heap.size)
  (Dl:∀b o,g'.St b o→(au b o∨w0.heap.size≤b)∧some b∉g'.bx∧b<w'.heap.size):
  Inv gl w0 au ⟨de ak dst s,aG⟩ (a.put dst v) w' g':=by
 refine hI.stepG hX rZ hlen (fun i x hx hd=>?_) qJ RG eI oC IC Dl
 obtain⟨y,hy,⟨rfl,hl⟩|rfl⟩:=hs i x hx hd
 ·exact hX.slot hl (hI.ak i x hy)
 ·exact hX.none (hI.ak i y hy)
theorem Inv.ML{e:Env}{a:Act}{w:World}{g:Gh}(hI:Inv gl w0 au e a w g){w':World}{g':Gh}{dst:Option Nat}
  (hX:Ext w0.heap.size w g w' g' (fun p=>∃d j,dst=some d∧p=.s d j))
  {s:Slot}{v:Value}(rZ:Below w.heap.size w w')
  (qJ:∀d,dst=some d→cQ w0.heap.size w' g' (gp w0.heap.size w' g' d) s v)(eI:g'.bx=g.bx)
  (Dl:∀b o,g'.St b o→g.St b o∨(w.heap.size≤b∧b<w'.heap.size)):
  Inv gl w0 au ⟨de e.ak dst s,e.boxes⟩ (a.put dst v) w' g':=by
 have hle:w0.heap.size≤w.heap.size:=hI.below.size
 refine hI.step hX (rZ.mono hle) rfl (fun i x hx hd=>⟨x,hx,.inl ⟨rfl,fun j=>?_⟩⟩) qJ (by rw[eI];exact hI.gq) ?_ (by rw[eI];exact hI.nodup) ?_ ?_
 ·rintro⟨d,j',h1,h2⟩
  cases h2
  exact hd h1
 ·intro b bx ao h1 h2
  rw[eI]at h2
  have aP:ao<w.heap.size:=(hI.dP ao (List.mem_of_getElem? h2)).2
  exact hX.box (fun j=>by rintro⟨d,j',_,h⟩;cases h) (rZ.block ao aP) (hI.boxes b bx ao h1 h2)
 ·intro b hb
  rw[eI]at hb
  exact⟨(hI.dP b hb).1,Nat.lt_of_lt_of_le (hI.dP b hb).2 rZ.size⟩
 ·intro b o h
  rw[eI]
  rcases Dl b o h with h|h
  ·obtain⟨h1,h2,h3⟩:=hI.dj b o h
   exact⟨h1,h2,Nat.lt_of_lt_of_le h3 rZ.size⟩
  ·exact⟨.inr (Nat.le_trans hle h.1),fun hm=>by have:=(hI.dP b hm).2;omega,h.2⟩
theorem Inv.value{e:Env}{a:Act}{w:World}{g:Gh}(hI:Inv gl w0 au e a w g){dst:Option Nat}{s:Slot}{v:Value}
  (qJ:cQ w0.heap.size w g (fun _ _ _ _=>False) s v):Inv gl w0 au ⟨de e.ak dst s,e.boxes⟩ (a.put dst v) w g:=by
 refine hI.ML (w':=w) (g':=g) ⟨fun _ _ hb ho h=>⟨h,hb,ho,fun _ h=>h⟩,fun _ _ h=>⟨h,.refl _ _ _⟩,fun _ _ _=>rfl,fun _ _ h=>h,fun _ _ _ _ _ h=>⟨h,.refl _ _ _⟩,.refl _⟩ (Below.refl _ _) (fun d _=>?_) rfl (fun _ _ h=>.inl h)
 exact qJ.mono (fun _ _ h=>⟨h,.refl _ _ _⟩) (fun _ _ _=>rfl) (fun _ _ h=>h) (.refl _) (fun _ _ _ _ h=>h.elim)
theorem Inv.bA{e:Env}{a:Act}{w:World}{g:Gh}(hI:Inv gl w0 au e a w g)(x:Operand):cQ w0.heap.size w g (fun _ _ _ _=>False) (bA gl e x).aa (a.eval x):=by
 cases x with
 |tmp t=>
  simp only[Ab.bA,Act.eval,List.getD_eq_getElem?_getD]
  cases h:e.ak[t]? with
  |none=>exact .v _ _ _ (.undef _ _)
  |some s=>exact(hI.ak t s h).aa
 |const v=>
  simp only[Ab.bA,Act.eval]
  cases h:MH v with
  |none=>exact .v _ _ _ (.undef _ _)
  |some d=>exact .v _ _ _ (.d _ _ _ (afZ h))
 |func f=>exact .v _ _ _ (.d _ _ _ (.fn _))
 |global n=>
  simp only[Ab.bA,Act.eval]
  cases h:gl n with
  |none=>exact .v _ _ _ (.undef _ _)
  |some x=>
   obtain⟨h0,vs,h1,h2⟩:=hI.lS n x h
   exact .v _ _ _ (.aX _ x 0 n 0 vs h0 (by simpa using h1) h2)
end
def zY(lo:Nat)(w:World)(St:Nat→Nat→Prop)(ow:Nat→Option Nat)(j:Nat)(b a c:Nat):Prop:=
 ow b=some j∧lo≤b∧(∃cur e,w.heap[b]? =some (.cells cur e (0,0))∧cur.size=c)∧∀o,a≤o→¬St b o
def zz(lo:Nat)(w:World)(St:Nat→Nat→Prop)(ow:Nat→Option Nat)(r:SV)(v:Value):Prop:=match r with
 | .aK rs=>∃vs,v=.tuple vs∧rs.length=vs.size∧∀(j:Nat)x y,rs[j]? =some x→vs[j]? =some y→aR w St 0 (zY lo w St ow j) x y
 |r=>aR w St 0 (zY lo w St ow 0) r v
def oX(P:Program)(f:FuncId):Prop:=∀(args:Array Value)(w:World),(callFunc f args).run P w=.ok (.enter f args) w
def HQ(P:Program)(gl:Nat→Option D):bu:=fun f args r=>oX P f∧
 ∀(w:World)(St:Nat→Nat→Prop)(vs:Array Value),(∀b o,St b o→b<w.heap.size)→zx gl w St→args.length=vs.size→
  (∀(i:Nat)x v,args[i]? =some x→vs[i]? =some v→aR w St w.heap.size (fun _ _ _=>False) x v)→
  Calls P f vs w fun e w'=>∃v,e=.returned v∧Below w.heap.size w w'∧∃cq ow,(∀b o,St b o→cq b o)∧(∀b o,cq b o→St b o∨(w.heap.size≤b∧b<w'.heap.size))∧
   zz w.heap.size w' cq ow r v
def aoW(w:World)(St:Nat→Nat→Prop)(A:Nat→Option Nat)(i b a c:Nat):Prop:=
 A b=some i∧(∃cur e,w.heap[b]? =some (.cells cur e (0,0))∧cur.size=c)∧∀o,a≤o→¬St b o
def XO(lo:Nat)(A:Nat→Option Nat)(w:World)(St:Nat→Nat→Prop)(ow:Nat→Option Nat)(j:Nat)(b a c:Nat):Prop:=
 ow b=some j∧(lo≤b∨A b≠none)∧(∃cur e,w.heap[b]? =some (.cells cur e (0,0))∧cur.size=c)∧∀o,a≤o→¬St b o
def yf(w:World)(St:Nat→Nat→Prop)(O:Nat→Nat→Nat→Nat→Prop)(rs:List SV)(v:Value):Prop:=match rs with
 |[r]=>aR w St 0 (O 1) r v
 |rs=>∃vs,v=.tuple vs∧rs.length=vs.size∧∀(j:Nat)x y,rs[j]? =some x→vs[j]? =some y→aR w St 0 (O (j+1)) x y
def RH(P:Program)(gl:Nat→Option D)(f:FuncId)(args:List SV)(p:Nat)(rs:List SV)(bk:SV):Prop:=oX P f∧SV.iZ args=true∧
 ∀(w:World)(St:Nat→Nat→Prop)(A:Nat→Option Nat)(vs:Array Value),(∀b o,St b o→b<w.heap.size)→(∀b i,A b=some i→∃cur e,w.heap[b]? =some (.cells cur e (0,0))∧∀o,cur.size≤o→¬St b o)→zx gl w St→args.length=vs.size→
  (∀(i:Nat)x v,args[i]? =some x→vs[i]? =some v→aR w St 0 (aoW w St A i) x v)→
  Calls P f vs w fun e w'=>∃v,e=.returned v∧w'.os=w.os∧w'.tape=w.tape∧w'.output=w.output∧w.heap.size≤w'.heap.size∧(∀b,b<w.heap.size→A b=none→w'.heap[b]? =w.heap[b]?)∧
   ∃cq ow,(∀b o,St b o→cq b o∧rR w w' b o)∧(∀b o,cq b o→St b o∨((w.heap.size≤b∨A b≠none)∧b<w'.heap.size))∧
    yf w' cq (XO w.heap.size A w' cq ow) rs v∧∀y,vs[p]? =some y→aR w' cq 0 (XO w.heap.size A w' cq ow 0) bk y
def pc:List SV→Option (Nat×List SV)
 | .aK (.dg p _ _::_)::args=>some (p,args)
 |_=>none
def aF(P:Program)(gl:Nat→Option D):bu:=fun f args r=>match pc args with
 |some (p,abK)=>(match r with
  | .aK (bk::rs)=>RH P gl f abK p rs bk
  |_=>False)
 |none=>HQ P gl f args r
theorem CD{P:Program}{gl:Nat→Option D}{f:FuncId}{args:List SV}{r:SV}(h:pc args=none):aF P gl f args r=HQ P gl f args r:=by
 unfold aF;rw[h]
theorem Q8{P:Program}{gl:Nat→Option D}{f:FuncId}{args:List SV}{p:Nat}{rs:List SV}{bk:SV}:aF P gl f (qG p args) (.aK (bk::rs))=RH P gl f args p rs bk:=rfl
theorem XP{args:List SV}(h:∀x l,args=.aK x::l→False):pc args=none:=by
 unfold pc
 split
 ·rename_i p _ _ _ abK
  exact(h _ _ rfl).elim
 ·rfl
theorem ahb{w:World}{St:Nat→Nat→Prop}{base:Nat}{O:Nat→Nat→Nat→Nat→Prop}{args:List SV}{vs:Array Value}(hlen:args.length=vs.size)(h:∀(i:Nat)x v,args[i]? =some x→vs[i]? =some v→aR w St base (O i) x v):pc args=none:=
 XP fun x l hx=>by
  rw[hx]at hlen
  have h0:0<vs.size:=by rw[←hlen];simp
  have:=h 0 (.aK x) vs[0] (by rw[hx];rfl) (by simp[h0])
  cases this
section
variable{P:Program}{gl:Nat→Option D}{w0:World}{au:S0}{e:Env}{a:Act}{w:World}{g:Gh}
theorem aQ{α:Type}{o:Option α}{k:α→Prop}(h:ab o k):∃x,o=some x∧k x:=by
 cases o with
 |none=>exact h.elim
 |some x=>exact⟨x,rfl,h⟩
theorem EI{x:SV}{A B:Prop}(h:ar x A B):∃b,x=.d (.bool b)∧(b=true→A)∧(b=false→B):=by
 unfold ar at h
 split at h
 ·rename_i c
  refine⟨c,rfl,?_,?_⟩<;>rintro rfl<;>exact h
 ·exact h.elim
theorem Inv.tW(hI:Inv gl w0 au e a w g){x:Operand}{s:SV}(h:(Ab.bA gl e x).aa =.v s):aR w g.St w0.heap.size (fun _ _ _=>False) s (a.eval x):=by
 have:=hI.bA x
 rw[h]at this
 cases this with
 |v _ _ _ h=>exact h
theorem Inv.j5(hI:Inv gl w0 au e a w g)(x:Operand):aR w g.St w0.heap.size (fun _ _ _=>False) ((Ab.bA gl e x).aa).cC (a.eval x):=by
 have:=hI.bA x
 cases h:(Ab.bA gl e x).aa with
 |v s=>exact hI.tW h
 |_=>exact .undef _ _
theorem aR.data{St:Nat→Nat→Prop}{base:Nat}{O:Nat→Nat→Nat→Prop}{x:D}{v:Value}(h:aR w St base O (.d x) v):bp w St x v:=by
 cases h with
 |d _ _ _ h=>exact h
abbrev bP(P:Program)(gl:Nat→Option D)(w0:World)(au:S0)(ak:List Slot)(o:Oper)(a:Act)(w:World)(k:Slot→List af→Prop):Prop:=
 ∀(next:Act→World→Prop)(Q:Exit→Act→World→Prop),
  (∀s v aG w' g',Inv gl w0 au ⟨de ak o.dst s,aG⟩ (a.put o.dst v) w' g'→k s aG→next (a.put o.dst v) w')→o.wp P a w next Q
theorem bP.value(hI:Inv gl w0 au e a w g){o:Oper}{v:Value}{s:Slot}{k:Slot→List af→Prop}(bC:(execOp a.eval o).run P w=.ok (.value v) w)
  (hr:cQ w0.heap.size w g (fun _ _ _ _=>False) s v)(hk:k s e.boxes):bP P gl w0 au e.ak o a w k:=by
 intro next Q hn
 unfold Oper.wp
 rw[bC]
 exact hn s v _ _ _ (hI.value hr) hk
theorem bP.gD(hI:Inv gl w0 au e a w g){o:Oper}{v:Value}{s:SV}{k:Slot→List af→Prop}(bC:(execOp a.eval o).run P w=.ok (.value v) w)
  (hr:aR w g.St w0.heap.size (fun _ _ _=>False) s v)(hk:k (.v s) e.boxes):bP P gl w0 au e.ak o a w k:=
 bP.value hI bC (.v _ _ _ hr) hk
theorem CL(k:IntKind)(n:Int):iP k (k.wrap n)=true:=by
 have hp:(0:Int)<2^k.bits:=Int.pow_pos (by decide)
 have h1:=Int.emod_nonneg n (Int.ne_of_gt hp)
 have h2:=Int.emod_lt_of_pos n hp
 simp only[iP,Bool.and_eq_true,decide_eq_true_eq,IntKind.min,IntKind.max,IntKind.wrap]
 cases k<;>simp only[IntKind.bits,IntKind.signed]at* <;>(try split)<;>simp_all<;>omega
theorem PC{k:IntKind}{n:Int}:iP k n=true↔k.min≤n∧n≤k.max:=by simp[iP]
theorem aiM{k:IntKind}{x y:Int}(hx:iP k x=true)(hy:iP k y=true):iP k (x.tmod y)=true:=by
 rw[PC]at*
 have h1:(x.tmod y).natAbs ≤x.natAbs:=by
  rw[Int.natAbs_tmod]
  exact Nat.mod_le _ _
 have h2:0≤x→0≤x.tmod y:=fun h=>Int.tmod_nonneg y h
 have h3:x≤0→x.tmod y≤0:=fun h=>by
  have:=Int.tmod_nonneg (a:= -x) y (by omega)
  rw[Int.neg_tmod]at this
  omega
 have hm:k.min≤0∧0≤k.max:=by cases k<;>simp[IntKind.min,IntKind.max,IntKind.signed,IntKind.bits]
 constructor
 ·rcases Int.le_total 0 x with h|h
  ·have:=h2 h;omega
  ·have:=h3 h;omega
 ·rcases Int.le_total 0 x with h|h
  ·have:=h2 h;omega
  ·have:=h3 h;omega
theorem aiN{k:IntKind}{x:Int}(hx:iP k x=true)(n:Nat):iP k (x.fdiv (2^n))=true:=by
 rw[PC]at*
 have hp:(0:Int)<2^n:=Int.pow_pos (by decide)
 rw[Int.fdiv_eq_ediv_of_nonneg _ (Int.le_of_lt hp)]
 have hm:k.min≤0∧0≤k.max:=by cases k<;>simp[IntKind.min,IntKind.max,IntKind.signed,IntKind.bits]
 constructor
 ·rcases Int.le_total 0 x with h|h
  ·have:=Int.ediv_nonneg h (Int.le_of_lt hp);omega
  ·have:x≤x / 2^n:=by
    have h1:=Int.mul_ediv_add_emod x (2^n)
    have h2:=Int.emod_nonneg x (Int.ne_of_gt hp)
    have h4:x / 2^n≤0:=by
     rcases Int.lt_or_le 0 (x / 2^n)with hh|hh
     ·have h5:2^n*1≤2^n*(x / 2^n):=Int.mul_le_mul_of_nonneg_left (by omega) (Int.le_of_lt hp)
      omega
     ·exact hh
    have h3:(2^n-1)*(x / 2^n)≤0:=Int.mul_nonpos_of_nonneg_of_nonpos (by omega) h4
    have h6:x=x / 2^n+((2^n-1)*(x / 2^n)+x % 2^n):=by
     rw[Int.sub_mul,Int.one_mul];omega
    have h7:=Int.emod_lt_of_pos x hp
    rcases Int.lt_or_le (x / 2^n) x with aP|hle
    ·exfalso
     have h8:2^n*(x / 2^n)≤2^n*(x-1):=Int.mul_le_mul_of_nonneg_left (by omega) (Int.le_of_lt hp)
     have h9:(2^n)*(x-1)≤1*(x-1):=by
      have:0≤(2^n-1)*(1-x):=Int.mul_nonneg (by omega) (by omega)
      rw[Int.sub_mul,Int.mul_sub,Int.mul_sub]at this
      rw[Int.mul_sub]
      omega
     have Jk:2^n*(x / 2^n)+2^n≤2^n*x:=by
      have:2^n*(x-1)=2^n*x-2^n:=by rw[Int.mul_sub,Int.mul_one]
      omega
     have Jl:2^n*x≤x:=by
      have:0≤(2^n-1)*(-x):=Int.mul_nonneg (by omega) (by omega)
      rw[Int.sub_mul,Int.mul_neg,Int.mul_neg]at this
      omega
     omega
    ·exact hle
   omega
 ·rcases Int.le_total 0 x with h|h
  ·have:x / 2^n≤x:=Int.ediv_le_self _ h
   omega
  ·have:x / 2^n≤0:=by
    rcases Int.lt_or_le 0 (x / 2^n)with hh|hh
    ·have h1:=Int.mul_ediv_add_emod x (2^n)
     have h2:=Int.emod_nonneg x (Int.ne_of_gt hp)
     have h5:2^n*1≤2^n*(x / 2^n):=Int.mul_le_mul_of_nonneg_left (by omega) (Int.le_of_lt hp)
     omega
    ·exact hh
   omega
theorem aeW{op:BinOp}{k:IntKind}{x y:Int}{r:D}(t:TypeId)(kG:op≠.shl ∧op≠.shr)(hx:iP k x=true)(hy:iP k y=true)(h:lJ op k x y=some r):
  ∃v,(binOp op t (.int k x) (.int k y)).run P w=.ok v w∧bp w g.St r v:=by
 cases op<;>simp only[lJ,Option.some.injEq,reduceCtorEq]at h<;>(try (exact absurd rfl kG.1))<;>(try (exact absurd rfl kG.2))
 case quo=>
  split at h
  ·cases h
  ·rename_i tX
   cases h
   exact⟨_,by simp[binOp,Op.intDiv,tX],.int _ _ (CL _ _)⟩
 case rem=>
  split at h
  ·cases h
  ·rename_i tX
   cases h
   exact⟨_,by simp[binOp,Op.intDiv,tX],.int _ _ (aiM hx hy)⟩
 all_goals (subst h)
 case add|sub|mul=>exact⟨_,by simp[binOp,Op.intArith],.int _ _ (CL _ _)⟩
 case and|or|xor|andNot=>exact⟨_,by simp[binOp,Op.intBits],.int _ _ (CL _ _)⟩
 all_goals exact⟨_,by simp[binOp,Op.intCmp],.bool _⟩
theorem WD{op:BinOp}{k k':IntKind}{x y:Int}{r:D}(t:TypeId)(kG:op=.shl ∨op=.shr)(hx:iP k x=true)(h:Ht op k x y=some r):
  ∃v,(binOp op t (.int k x) (.int k' y)).run P w=.ok v w∧bp w g.St r v:=by
 unfold Ht at h
 split at h
 ·cases h
 ·rename_i hy
  rcases kG with rfl|rfl
  ·simp only[Option.some.injEq]at h;subst h
   exact⟨_,by simp[binOp,Op.shift,hy],.int _ _ (CL _ _)⟩
  ·simp only[Option.some.injEq]at h;subst h
   exact⟨_,by simp[binOp,Op.shift,hy],.int _ _ (aiN hx _)⟩
theorem Wo:∀(x y:List UInt8),Op.bytesLess x y=CT x y
 |_,[]=>by cases ‹List UInt8› <;>rfl
 |[],_::_=>rfl
 |a::x,b::y=>by simp only[Op.bytesLess,CT,Wo x y]
theorem aeX{op:BinOp}{x y:ByteArray}{r:D}(t:TypeId)(h:HO op x.data.toList y.data.toList=some r):
  ∃v,(binOp op t (.string x) (.string y)).run P w=.ok v w∧bp w g.St r v:=by
 have hx:=ByteArray.toList_eq x
 have hy:=ByteArray.toList_eq y
 cases op<;>simp only[HO,Option.some.injEq,reduceCtorEq]at h
 case add=>
  split at h
  ·rename_i hl
   cases h
   have e:(x++y).data.toList =x.data.toList++y.data.toList:=by simp
   have jQ:x.size+y.size≤maxLen:=by rw[Array.length_toList,Array.length_toList]at hl;exact hl
   refine⟨.string (x++y),?_,?_⟩
   ·have hM:((maxLen:Nat):Int)=IntKind.i64.max:=by decide
    have:¬(((x.size+y.size:Nat):Int)>IntKind.i64.max):=by
     rw[←hM]
     omega
    simp only[binOp,Op.stringOp]
    rw[if_neg this]
    rfl
   ·rw[←e]
    refine .str _ ?_
    rw[ByteArray.size_append]
    exact jQ
  ·cases h
 all_goals (subst h;exact⟨_,by simp[binOp,Op.stringOp,hx,hy,Wo],.bool _⟩)
theorem xq:∀{ks:List CK}{xs:List D},eR ks xs=true→xs.length=ks.length
 |[],[],_=>rfl
 |[],_::_,h=>by simp[eR]at h
 |k::ks,[],h=>by cases k<;>simp[eR]at h
 |k::ks,x::xs,h=>by
  cases k<;>cases x<;>simp only[eR,Bool.false_eq_true]at h<;>simp[xq h]
theorem Es:∀{ks ls:List CK}{xs:List D},eR (ks++ls) xs=true→eR ks (xs.take ks.length)=true∧eR ls (xs.drop ks.length)=true
 |[],ls,xs,h=>by simpa[eR]using h
 |k::ks,ls,[],h=>by cases k<;>simp[eR]at h
 |k::ks,ls,x::xs,h=>by
  cases k<;>cases x<;>simp only[List.cons_append,eR,Bool.false_eq_true]at h<;>simpa[eR]using Es h
theorem Pg:∀(xs ys DG DH:List D),xs.length=ys.length→gY (xs++DG) (ys++DH)=(match gY xs ys with
  |some b=>(match gY DG DH with|some c=>some (b&&c)|none=>none)|none=>none)
 |[],[],DG,DH,_=>by
  simp only[List.nil_append,gY]
  cases gY DG DH<;>simp
 |x::xs,y::ys,DG,DH,h=>by
  simp only[List.cons_append,gY]
  rw[Pg xs ys DG DH (by simpa using h)]
  cases oW x y<;>simp
  cases gY xs ys<;>simp
  cases gY DG DH<;>simp[Bool.and_assoc]
 |[],_::_,_,_,h=>by simp at h
 |_::_,[],_,_,h=>by simp at h
def nG(w:World)(St:Nat→Nat→Prop)(xs:List D)(vs:Array Value):Prop:=
 xs.length=vs.size∧∀(i:Nat)x v,xs[i]? =some x→vs[i]? =some v→bp w St x v
theorem nG.agg{w:World}{St:Nat→Nat→Prop}{xs:List D}{vs:Array Value}(h:nG w St xs vs)(hf:∀d∈xs,d.one=true):bp w St (.agg xs) (.agg vs):=.agg xs vs hf h.1 h.2
theorem nG.extract{w:World}{St:Nat→Nat→Prop}{xs:List D}{vs:Array Value}(h:nG w St xs vs)(off n:Nat):
  nG w St ((xs.drop off).take n) (vs.extract off (off+n)):=by
 refine⟨by simp[h.1];omega,fun i x v hx hv=>?_⟩
 rw[List.getElem?_take]at hx
 split at hx
 ·rename_i hi
  rw[List.getElem?_drop]at hx
  rw[Array.getElem?_extract]at hv
  split at hv
  ·exact h.2 (off+i) x v hx hv
  ·cases hv
 ·cases hx
theorem kP{t:TypeId}{n:Nat}(h:eF P t=some n)(w:World):(sizeOf t).run P w=.ok n w:=by
 unfold eF at h
 split at h
 ·rename_i i hi
  cases h
  simp[sizeOf,typeInfo,hi]
 ·cases h
theorem XQ{t:TypeId}{b:Bool}(h:eK P t=some b)(w:World):(isAgg t).run P w=.ok b w:=by
 unfold eK at h
 split at h
 ·rename_i fs hu;cases h;simp[isAgg,run_underlying hu]
 ·rename_i n e' hu;cases h;simp[isAgg,run_underlying hu]
 ·rename_i d h1 h2 hu
  cases h
  simp only[isAgg,Sem.run_bind,run_underlying hu,Result.andThen_ok]
  cases d<;>first|rfl|(exact absurd hu (h1 _))|(exact absurd hu (h2 _ _))
 ·cases h
theorem Hx{t:TypeId}{b:Bool}{n:Nat}(h:lR P t=some (b,n)):eK P t=some b∧eF P t=some n∧(b=false→n=1):=by
 unfold lR at h
 split at h
 ·rename_i b' hb
  split at h
  ·rename_i i hi
   cases hc:(b'||Nat.beq i.size 1)with
   |false=>rw[hc]at h;cases h
   |true=>
    rw[hc]at h
    cases h
    refine⟨hb,by simp[eF,hi],fun hf=>?_⟩
    subst hf
    exact Nat.eq_of_beq_eq_true (by simpa using hc)
  ·cases h
 ·cases h
theorem ahc{t:TypeId}{b:Bool}{n:Nat}(hb:eK P t=some b)(hn:eF P t=some n)(cs:Array Value)(off:Nat)(w:World):
  (part t cs off).run P w=if b then .ok (.agg (cs.extract off (off+n))) w else(match cs[off]? with|some v=>.ok v w|none=>.halt (.stuck "part: no such cell") w):=by
 unfold part
 simp only[Sem.run_bind,XQ hb,Result.andThen_ok]
 cases b
 ·simp only[Bool.false_eq_true,if_false]
  cases cs[off]? <;>rfl
 ·simp[kP hn]
def j6(w:World)(St:Nat→Nat→Prop)(b:Bool)(xs:List D)(v:Value):Prop:=
 if b then ∃cs,v=.agg cs∧nG w St xs cs else ∃x,xs=[x]∧bp w St x v
theorem GW{f:Nat}{t:TypeId}{ks:List CK}(h:shapeOf P f t=some ks):eF P t=some ks.length∧
  ((eK P t=some false∧ks.length=1)∨eK P t=some true):=by
 cases f with
 |zero=>simp[shapeOf]at h
 |succ f=>
  rw[shapeOf]at h
  split at h
  ·rename_i hu;split at h<;>cases h;rename_i hs;exact⟨hs,.inl ⟨by simp[eK,hu],rfl⟩⟩
  ·rename_i hu;split at h<;>cases h;rename_i hs;exact⟨hs,.inl ⟨by simp[eK,hu],rfl⟩⟩
  ·rename_i hu;split at h<;>cases h;rename_i hs;exact⟨hs,.inl ⟨by simp[eK,hu],rfl⟩⟩
  ·rename_i n e' hu
   split at h
   ·rename_i qO jC
    split at h
    ·rename_i s hs
     cases hc:Nat.beq s (n*qO.length)with
     |true=>
      rw[hc]at h;cases h
      have:(Bq qO n).length =n*qO.length:=by
       clear hc hu hs
       induction n with
       |zero=>simp[Bq]
       |succ n ih=>simp[Bq,ih,Nat.succ_mul];omega
      have h2:=Nat.eq_of_beq_eq_true hc
      exact⟨by rw[hs,this,h2],.inr (by simp[eK,hu])⟩
     |false=>rw[hc]at h;cases h
    ·cases h
   ·cases h
  ·rename_i fs hu
   cases bc:P.stoodInHeld t with
   |true=>rw[bc]at h;cases h
   |false=>
    rw[bc]at h
    simp only[cond_false]at h
    split at h
    ·rename_i qO jC
     split at h
     ·rename_i s hs
      cases hc:Nat.beq s qO.length with
      |true=>
       rw[hc]at h;cases h
       have h2:=Nat.eq_of_beq_eq_true hc
       exact⟨by rw[hs,h2],.inr (by simp[eK,hu])⟩
      |false=>rw[hc]at h;cases h
     ·cases h
    ·cases h
  ·cases h
theorem nG.valOf{xs:List D}{vs:Array Value}(h:nG w g.St xs vs){t:TypeId}{b:Bool}{n off:Nat}(hb:eK P t=some b)(hn:eF P t=some n)
  (h1:b=false→n=1)(hle:off+n≤xs.length):∃v,(part t vs off).run P w=.ok v w∧j6 w g.St b ((xs.drop off).take n) v:=by
 rw[ahc hb hn]
 cases b with
 |true=>exact⟨_,by simp;rfl,by simp only[j6,if_true];exact⟨_,rfl,h.extract off n⟩⟩
 |false=>
  have u9:=h1 rfl
  subst u9
  have aP:off<xs.length:=by omega
  have mR:off<vs.size:=by rw[←h.1];exact aP
  refine⟨vs[off],by simp[mR],?_⟩
  simp only[j6,Bool.false_eq_true,if_false]
  refine⟨xs[off],?_,h.2 off _ _ (by simp) (by simp)⟩
  rw[List.drop_eq_getElem_cons aP,List.take_succ_cons,List.take_zero]
theorem V7(d:Nat)(go:TypeId→Option (List CK))(aN:∀t ks,go t=some ks→eF P t=some ks.length∧((eK P t=some false∧ks.length=1)∨eK P t=some true))
  (ih:∀(t:TypeId)(ks:List CK)(b:Bool)(xs ys:List D)(vx vy:Value)(r:Bool),go t=some ks→eK P t=some b→
    eR ks xs=true→eR ks ys=true→j6 w g.St b xs vx→j6 w g.St b ys vy→gY xs ys=some r→(Op.equalIn d t vx vy).run P w=.ok r w)
  {xs ys:List D}{cx cy:Array Value}(rx:nG w g.St xs cx)(ry:nG w g.St ys cy):∀(fs:List Field)(off:Nat)(ks:List CK)(r:Bool),Er go fs off=some ks→off≤xs.length→off≤ys.length→
   eR ks (xs.drop off)=true→eR ks (ys.drop off)=true→gY (xs.drop off) (ys.drop off)=some r→(Op.eqFields d cx cy fs).run P w=.ok r w
 |[],off,ks,r,h,_,_,hx,hy,he=>by
  simp only[Er,Option.some.injEq]at h
  subst h
  have h1:=xq hx
  have h2:=xq hy
  rw[List.eq_nil_of_length_eq_zero h1,List.eq_nil_of_length_eq_zero h2]at he
  simp only[gY,Option.some.injEq]at he
  subst he
  rfl
 |f::fs,off,ks,r,h,hox,hoy,hx,hy,he=>by
  simp only[Er]at h
  split at h
  ·rename_i kf NM
   cases hc:(f.name != "_" &&Nat.beq f.offset off)with
   |false=>rw[hc]at h;cases h
   |true=>
    rw[hc]at h
    simp only[cond_true]at h
    split at h
    ·rename_i kr TY
     cases h
     simp only[Bool.and_eq_true,bne_iff_ne,ne_eq]at hc
     have Dm:=Nat.eq_of_beq_eq_true hc.2
     obtain⟨jD,yM⟩:=Es hx
     obtain⟨tY,yN⟩:=Es hy
     obtain⟨hs,pW⟩:=aN _ _ NM
     have lx:=xq hx
     have ly:=xq hy
     simp only[List.length_drop,List.length_append]at lx ly
     rw[←List.take_append_drop kf.length (xs.drop off),←List.take_append_drop kf.length (ys.drop off),
      Pg _ _ _ _ (by simp;omega)]at he
     split at he
     ·rename_i b1 g9
      split at he
      ·rename_i b2 jE
       cases he
       have rest:=V7 d go aN ih rx ry fs (off+kf.length) kr b2 TY (by omega) (by omega) (by rw[List.drop_drop]at yM;exact yM) (by rw[List.drop_drop]at yN;exact yN)
        (by rw[List.drop_drop,List.drop_drop]at jE;exact jE)
       obtain⟨b,hb,h1⟩:∃b,eK P f.type=some b∧(b=false→kf.length=1):=by
        rcases pW with⟨h1,h2⟩|h1
        ·exact⟨false,h1,fun _=>h2⟩
        ·exact⟨true,h1,by simp⟩
       obtain⟨vx,px,qx⟩:=rx.valOf (off:=f.offset) hb hs h1 (by omega)
       obtain⟨vy,py,qy⟩:=ry.valOf (off:=f.offset) hb hs h1 (by omega)
       rw[Dm]at qx qy
       have hq:=ih f.type kf b _ _ vx vy b1 NM hb jD tY qx qy g9
       simp only[Op.eqFields,if_pos hc.1,Sem.run_bind,px,py,hq,Result.andThen_ok]
       cases b1
       ·simp
       ·simpa using rest
      ·cases he
     ·cases he
    ·cases h
  ·cases h
theorem Wd(d:Nat)(t:TypeId)(ks:List CK)(b:Bool)(hb:eK P t=some b)(hs:eF P t=some ks.length)(h1:b=false→ks.length=1)
  (ih:∀(xs ys:List D)(vx vy:Value)(r:Bool),eR ks xs=true→eR ks ys=true→j6 w g.St b xs vx→j6 w g.St b ys vy→gY xs ys=some r→
    (Op.equalIn d t vx vy).run P w=.ok r w)
  {xs ys:List D}{cx cy:Array Value}(rx:nG w g.St xs cx)(ry:nG w g.St ys cy):∀(n i:Nat)(r:Bool),eR (Bq ks n) (xs.drop (i*ks.length))=true→
   eR (Bq ks n) (ys.drop (i*ks.length))=true→gY (xs.drop (i*ks.length)) (ys.drop (i*ks.length))=some r→
   (Op.eqItems d t ks.length cx cy (List.range' i n)).run P w=.ok r w
 |0,i,r,hx,hy,he=>by
  rw[List.eq_nil_of_length_eq_zero (xq hx),List.eq_nil_of_length_eq_zero (xq hy)]at he
  simp only[gY,Option.some.injEq]at he
  subst he
  rfl
 |n+1,i,r,hx,hy,he=>by
  simp only[Bq]at hx hy
  obtain⟨jD,yM⟩:=Es hx
  obtain⟨tY,yN⟩:=Es hy
  have lx:=xq hx
  have ly:=xq hy
  simp only[List.length_drop,List.length_append]at lx ly
  rw[←List.take_append_drop ks.length (xs.drop (i*ks.length)),←List.take_append_drop ks.length (ys.drop (i*ks.length)),
   Pg _ _ _ _ (by simp;omega)]at he
  split at he
  ·rename_i b1 g9
   split at he
   ·rename_i b2 jE
    cases he
    have e:i*ks.length+ks.length=(i+1)*ks.length:=by rw[Nat.succ_mul]
    have rest:=Wd d t ks b hb hs h1 ih rx ry n (i+1) b2 (by rw[List.drop_drop,e]at yM;exact yM) (by rw[List.drop_drop,e]at yN;exact yN)
     (by rw[List.drop_drop,List.drop_drop,e]at jE;exact jE)
    by_cases hz:ks.length=0∧xs.length<i*ks.length
    ·rw[hz.1]at hz;omega
    have kx:i*ks.length+ks.length≤xs.length:=by
     by_cases h0:ks.length=0
     ·rw[h0];omega
     ·omega
    have ky:i*ks.length+ks.length≤ys.length:=by
     by_cases h0:ks.length=0
     ·rw[h0];omega
     ·omega
    obtain⟨vx,px,qx⟩:=rx.valOf (off:=i*ks.length) hb hs h1 kx
    obtain⟨vy,py,qy⟩:=ry.valOf (off:=i*ks.length) hb hs h1 ky
    have hq:=ih _ _ vx vy b1 jD tY qx qy g9
    simp only[List.range'_succ,Op.eqItems,Sem.run_bind,px,py,hq,Result.andThen_ok]
    cases b1
    ·simp
    ·simpa using rest
   ·cases he
  ·cases he
theorem Pn:∀(f d:Nat)(t:TypeId)(ks:List CK)(b:Bool)(xs ys:List D)(vx vy:Value)(r:Bool),shapeOf P f t=some ks→f≤d→eK P t=some b→
  eR ks xs=true→eR ks ys=true→j6 w g.St b xs vx→j6 w g.St b ys vy→gY xs ys=some r→(Op.equalIn d t vx vy).run P w=.ok r w:=by
 intro f
 induction f with
 |zero=>intro d t ks b xs ys vx vy r h;simp[shapeOf]at h
 |succ f ih=>
  intro d t ks b xs ys vx vy r bq hd hb hx hy rx ry he
  obtain⟨d,rfl⟩:∃d',d=d'+1:=⟨d-1,by omega⟩
  have aN:=GW bq
  rw[shapeOf]at bq
  split at bq
  ·
   rename_i hu
   split at bq<;>cases bq
   have:b=false:=by simpa[eK,hu]using hb.symm
   subst this
   simp only[j6,Bool.false_eq_true,if_false]at rx ry
   obtain⟨x,rfl,rx⟩:=rx
   obtain⟨y,rfl,ry⟩:=ry
   cases x<;>simp[eR]at hx
   cases y<;>simp[eR]at hy
   cases rx;cases ry
   rw[run_equalIn_bool' w d t _ _ hu]
   simp[gY,oW]at he
   rw[←he]
  ·rename_i k hu
   split at bq<;>cases bq
   have:b=false:=by simpa[eK,hu]using hb.symm
   subst this
   simp only[j6,Bool.false_eq_true,if_false]at rx ry
   obtain⟨x,rfl,rx⟩:=rx
   obtain⟨y,rfl,ry⟩:=ry
   cases x<;>simp[eR]at hx
   cases y<;>simp[eR]at hy
   rename_i k1 n1 k2 n2
   cases rx;cases ry
   by_cases hk:k1=k2
   ·subst hk
    rw[run_equalIn_int w d t _ k _ _ hu]
    simp[gY,oW]at he
    rw[←he]
   ·simp[gY,oW,hk]at he
  ·rename_i hu
   split at bq<;>cases bq
   have:b=false:=by simpa[eK,hu]using hb.symm
   subst this
   simp only[j6,Bool.false_eq_true,if_false]at rx ry
   obtain⟨x,rfl,rx⟩:=rx
   obtain⟨y,rfl,ry⟩:=ry
   cases x<;>simp[eR]at hx
   cases y<;>simp[eR]at hy
   cases rx with|str s1 _=>
   cases ry with|str s2 _=>
   rw[run_equalIn_string w d t _ _ hu]
   rw[ByteArray.toList_eq,ByteArray.toList_eq]
   simp only[gY,oW,Bool.and_true,Option.some.injEq]at he
   rw[←he]
  ·
   rename_i n e' hu
   split at bq
   ·rename_i qO jC
    split at bq
    ·rename_i s hs
     cases hc:Nat.beq s (n*qO.length)with
     |false=>rw[hc]at bq;cases bq
     |true=>
      rw[hc]at bq;cases bq
      have:b=true:=by simpa[eK,hu]using hb.symm
      subst this
      simp only[j6,if_true]at rx ry
      obtain⟨cx,rfl,rx⟩:=rx
      obtain⟨cy,rfl,ry⟩:=ry
      obtain⟨fG,pW⟩:=GW jC
      obtain⟨b,eA,h1⟩:∃b,eK P e'=some b∧(b=false→qO.length=1):=by
       rcases pW with⟨h1,h2⟩|h1
       ·exact⟨false,h1,fun _=>h2⟩
       ·exact⟨true,h1,by simp⟩
      obtain⟨i,hi,his⟩:∃i,P.info? e'=some i∧P.cellsOf e'=qO.length:=by
       unfold eF at fG
       split at fG
       ·rename_i i hi;exact⟨i,hi,by simpa[Program.cellsOf,hi]using fG⟩
       ·cases fG
      rw[run_equalIn_array w d _ _ hu hi,his,List.range_eq_range']
      exact Wd d e' qO b eA fG h1 (fun xs ys vx vy r=>ih d e' qO b xs ys vx vy r jC (by omega) eA) rx ry n 0 r (by simpa using hx) (by simpa using hy) (by simpa using he)
    ·cases bq
   ·cases bq
  ·
   rename_i fs hu
   cases bc:P.stoodInHeld t with
   |true=>rw[bc]at bq;cases bq
   |false=>
    rw[bc]at bq
    simp only[cond_false]at bq
    split at bq
    ·rename_i qO jC
     split at bq
     ·rename_i s hs
      cases hc:Nat.beq s qO.length with
      |false=>rw[hc]at bq;cases bq
      |true=>
       rw[hc]at bq;cases bq
       have:b=true:=by simpa[eK,hu]using hb.symm
       subst this
       simp only[j6,if_true]at rx ry
       obtain⟨cx,rfl,rx⟩:=rx
       obtain⟨cy,rfl,ry⟩:=ry
       have F6:P.fieldsOf t=fs:=by simp[Program.fieldsOf,hu]
       rw[run_equalIn_struct w d t _ _ (by rw[F6];exact hu) bc,F6]
       exact V7 d (shapeOf P f) (fun t ks h=>GW h) (fun t ks b xs ys vx vy r h=>ih d t ks b xs ys vx vy r h (by omega)) rx ry fs.toList 0 _ r jC (Nat.zero_le _) (Nat.zero_le _) (by simpa using hx) (by simpa using hy) (by simpa using he)
     ·cases bq
    ·cases bq
  ·cases bq
end
theorem qq(b o n:Nat):(⟨b,o,none⟩:Addr).add n=⟨b,o+n,none⟩:=by unfold Addr.add;split<;>simp_all
section
variable{P:Program}{gl:Nat→Option D}{w0:World}{au:S0}{e:Env}{a:Act}{w:World}{g:Gh}
theorem jZ(w:World)(o:Obj)(b:Nat)(h:b<w.heap.size):(w.alloc o).heap[b]? =w.heap[b]? :=by
 show(w.heap.push o)[b]? =_
 rw[Array.getElem?_push,if_neg (Nat.ne_of_lt h)]
theorem vK(w:World)(o:Obj):(w.alloc o).heap[w.heap.size]? =some o:=by
 show(w.heap.push o)[w.heap.size]? =_
 simp
theorem A9(w:World)(o:Obj):(w.alloc o).heap.size =w.heap.size+1:=by
 show(w.heap.push o).size =_
 simp
theorem Ph(w:World)(o:Obj)(b off:Nat)(h:b<w.heap.size):(w.alloc o).cell? ⟨b,off,none⟩=w.cell? ⟨b,off,none⟩:=
 World.cell?_of_block (jZ w o b h)
theorem Inv.me(hI:Inv gl w0 au e a w g){b o:Nat}(h:g.St b o):b<w.heap.size:=(hI.dj b o h).2.2
theorem fA.lt{base:Nat}{p:Pos}{b a c:Nat}(h:fA base w g p b a c):b<w.heap.size:=by
 obtain⟨_,_,_,⟨cur,e,h,_⟩,_⟩:=h
 exact(Array.getElem?_eq_some_iff.1 h).1
theorem bP.aaI(hI:Inv gl w0 au e a w g){o:Oper}{ob:Obj}{bx:af}{id:Nat}{sl:Slot}{vl:Value}{k:Slot→List af→Prop}
  (gJ:e.boxes[id]? =some .none)
  (bC:(execOp a.eval o).run P w=.ok (.value vl) (w.alloc ob))
  (jR:∀(g':Gh)(O:Nat→Nat→Nat→Nat→Prop),g'.bx[id]? =some (some w.heap.size)→cQ w0.heap.size (w.alloc ob) g' O sl vl)
  (rep:∀(g':Gh),Ext w0.heap.size w g (w.alloc ob) g' (fun _=>False)→w0.heap.size≤w.heap.size→su w0.heap.size (w.alloc ob) g' id bx w.heap.size)
  (hk:k sl (e.boxes.set id bx)):bP P gl w0 au e.ak o a w k:=by
 intro next Q hn
 unfold Oper.wp
 rw[bC]
 have hle:w0.heap.size≤w.heap.size:=hI.below.size
 have SI:id<e.boxes.length:=(List.getElem?_eq_some_iff.1 gJ).1
 have aoX:∀ao,g.bx[id]? ≠some (some ao):=fun ao h=>by
  exact hI.boxes id .none ao gJ h
 have eM:∀b,some b∈g.bx.set id (some w.heap.size)→some b∈g.bx∨b=w.heap.size:=fun b h=>by
  rcases List.mem_or_eq_of_mem_set h with h|h
  ·exact .inl h
  ·exact .inr (by simpa using h)
 have hX:Ext w0.heap.size w g (w.alloc ob) {g with bx:=g.bx.set id (some w.heap.size)} (fun _=>False):=by
  refine⟨fun D o hb ho h=>⟨(jZ w _ D (gk h)).trans h,fun hm=>(by
   rcases eM D hm with h2|h2
   ·exact hb h2
   ·have:=gk h;omega),ho,fun _ h=>h⟩,fun b o h=>⟨h,.rP (jZ w _ b (hI.me h))⟩,fun b o h=>Ph w _ b o (by omega),fun i ao h=>?_,fun p b a c _ ho=>?_,.of fun b hb=>jZ w _ b hb⟩
  ·simp only
   rw[List.getElem?_set_ne (fun hh=>aoX ao (by rw[hh];exact h))]
   exact h
  ·have aP:=ho.lt
   obtain⟨h1,h2,h3,⟨cur,ty,h4,oD⟩,h5⟩:=ho
   refine⟨⟨h1,h2,?_,⟨cur,ty,(jZ w _ b aP).trans h4,oD⟩,h5⟩,fun _=>jZ w _ b aP⟩
   intro hm
   rcases eM b hm with h|h
   ·exact h3 h
   ·omega
 refine hn sl _ _ _ {g with bx:=g.bx.set id (some w.heap.size)} (hI.step (lost:=fun p=>∃d j,o.dst=some d∧p=.s d j)
  ⟨hX.df,hX.st,hX.bs,hX.bx,fun p b a c _ ho=>hX.own p b a c (fun h=>h) ho,hX.sh⟩ ((Below.refl _ _).alloc hle _) rfl
  (fun i x hx hd=>⟨x,hx,.inl ⟨rfl,fun j=>?_⟩⟩) ?_ (by simp[hI.gq]) ?_ ?_ ?_ ?_) hk
 ·rintro⟨d,j',h1,h2⟩;cases h2;exact hd h1
 ·intro d _
  refine jR _ _ ?_
  simp only
  rw[List.getElem?_set_self (by rw[hI.gq];exact SI)]
 ·intro b fR ao h1 h2
  simp only at h2
  by_cases hb:id=b
  ·subst hb
   rw[List.getElem?_set_self SI]at h1
   rw[List.getElem?_set_self (by rw[hI.gq];exact SI)]at h2
   simp only[Option.some.injEq]at h1 h2
   subst h1 h2
   exact rep _ hX hle
  ·rw[List.getElem?_set_ne hb]at h1 h2
   have IC:=(hI.dP ao (List.mem_of_getElem? h2)).2
   exact hX.box (fun _ h=>h) (jZ w _ ao IC) (hI.boxes b fR ao h1 h2)
 ·intro i j ao h1 h2
  simp only at h1 h2
  rw[List.getElem?_set]at h1 h2
  split at h1<;>split at h2
  ·omega
  ·rename_i hi hj
   split at h1
   ·simp only[Option.some.injEq]at h1
    subst h1
    have:=(hI.dP _ (List.mem_of_getElem? h2)).2
    omega
   ·cases h1
  ·rename_i hi hj
   split at h2
   ·simp only[Option.some.injEq]at h2
    subst h2
    have:=(hI.dP _ (List.mem_of_getElem? h1)).2
    omega
   ·cases h2
  ·exact hI.nodup i j ao h1 h2
 ·intro b hb
  have hs:(w.alloc ob).heap.size =w.heap.size+1:=A9 w _
  rw[hs]
  rcases eM b hb with hb|rfl
  ·have:=hI.dP b hb;omega
  ·omega
 ·intro b o h
  have hs:(w.alloc ob).heap.size =w.heap.size+1:=A9 w _
  have h1:=hI.dj b o h
  refine⟨h1.1,fun hm=>?_,by omega⟩
  rcases eM b hm with h|h
  ·exact h1.2.1 h
  ·omega
theorem bP.Mm(hI:Inv gl w0 au e a w g){o:Oper}{cells:Array Value}{t:TypeId}{bx:af}{id:Nat}{k:Slot→List af→Prop}
  (gJ:e.boxes[id]? =some .none)
  (bC:(execOp a.eval o).run P w=.ok (.value (.pointer (some ⟨w.heap.size,0,none⟩))) (w.alloc (.cells cells t)))
  (cD:∀y∈cells,y.oneCell'=true)
  (rep:∀(w':World)(g':Gh)(O:Nat→Nat→Nat→Nat→Prop),Ext w0.heap.size w g w' g' (fun _=>False)→(match(generalizing:=false) bx with
    | .none =>False
    | .map _=>False
    | .cells cs=>cs.length≤cells.size∧∀(j:Nat)x y,cs[j]? =some x→cells[j]? =some y→aR w' g'.St w0.heap.size (O j) x y
    | .one s=>0<cells.size∧∀y,cells[0]? =some y→cQ w0.heap.size w' g' (fun _=>O 0) s y))
  (hk:k (.p id 0) (e.boxes.set id bx)):bP P gl w0 au e.ak o a w k:=by
 refine bP.aaI hI gJ bC (fun g' O hb=>.p _ _ _ _ hb) (fun g' hX hle=>?_) hk
 have:=rep _ g' (wc w0.heap.size (w.alloc (.cells cells t)) g' id) hX
 cases bx with
 |none=>exact this.elim
 |map l=>exact this.elim
 |cells cs=>exact⟨hle,cells,t,vK w _,fun j y _ h=>cD y (Array.mem_of_getElem? h),this⟩
 |one s=>exact⟨hle,cells,t,vK w _,fun j y _ h=>cD y (Array.mem_of_getElem? h),this⟩
theorem Inv.aaJ(hI:Inv gl w0 au e a w g){b ao:Nat}{fR:af}{w':World}{dst:Option Nat}{s:Slot}{v:Value}{ak:List Slot}
  (v7 zK:Nat→Prop){g':Gh}(la:g'.St=g.St)(yO:g'.bx=g.bx)
  (wB:∀p sC,(∀i j,p=.s i j→¬v7 i)→(∀j,p=.b b j→¬zK j)→(∀d j,dst=some d→p≠.s d j)→g.ow sC=some p→g'.ow sC=some p)(TZ:∀D,g.ow D=none→g'.ow D=none)
  (hb:g.bx[b]? =some (some ao))
  (dZ:∀k,k≠ao→w'.heap[k]? =w.heap[k]?)(bq:∀c ty,w.heap[ao]? =some (.cells c ty (0,0))→∃c' oB,w'.heap[ao]? =some (.cells c' oB (0,0))∧c'.size=c.size)(aN:w'.heap.size=w.heap.size)
  (Av:w'.os=w.os∧w'.tape=w.tape∧w'.output=w.output)
  (hlen:ak.length=e.ak.length)
  (hs:∀(i:Nat)x,ak[i]? =some x→dst≠some i→∃y,e.ak[i]? =some y∧((x=y∧¬v7 i)∨x=y.aa))
  (rep:Ext w0.heap.size w g w' g' (fun p=>(∃i j,p=.s i j∧v7 i)∨(∃j,p=.b b j∧zK j)∨(∃d j,dst=some d∧p=.s d j))→w0.heap.size≤ao→su w0.heap.size w' g' b fR ao)
  (qJ:Ext w0.heap.size w g w' g' (fun p=>(∃i j,p=.s i j∧v7 i)∨(∃j,p=.b b j∧zK j)∨(∃d j,dst=some d∧p=.s d j))→
    ∀d,dst=some d→cQ w0.heap.size w' g' (gp w0.heap.size w' g' d) s v):
  Inv gl w0 au ⟨de ak dst s,e.boxes.set b fR⟩ (a.put dst v) w' g':=by
 have nN:some ao∈g.bx:=List.mem_of_getElem? hb
 have eg:=hI.dP ao nN
 have hX:Ext w0.heap.size w g w' g' (fun p=>(∃i j,p=.s i j∧v7 i)∨(∃j,p=.b b j∧zK j)∨(∃d j,dst=some d∧p=.s d j)):=by
  refine⟨fun D o fZ ho h=>⟨(dZ D (fun e=>fZ (by rw[e];exact nN))).trans h,by rw[yO];exact fZ,TZ D ho,fun x hx=>by rw[la]at hx;exact hx⟩,fun b' o h=>⟨by rw[la];exact h,.rP (dZ b' ?_)⟩,fun b' o h=>World.cell?_of_block (dZ b' (by omega)),fun i x h=>by rw[yO];exact h,?_,fun b' c ty _ eA=>(by
   by_cases eV:b'=ao
   ·subst eV;exact bq c ty eA
   ·exact⟨c,ty,(dZ b' eV).trans eA,rfl⟩)⟩
  ·rintro rfl;exact(hI.dj b' o h).2.1 nN
  ·rintro p b' a' c' hl ⟨h1,h2,h3,⟨cur,ty,h4,oD⟩,h5⟩
   exact⟨⟨wB p b' (fun i j h jQ=>hl (.inl ⟨i,j,h,jQ⟩)) (fun j h jQ=>hl (.inr (.inl ⟨j,h,jQ⟩))) (fun d j h1 h2=>hl (.inr (.inr ⟨d,j,h1,h2⟩))) h1,h2,by rw[yO];exact h3,
    ⟨cur,ty,(dZ b' (fun h=>h3 (h▸nN))).trans h4,oD⟩,fun o ho=>by rw[la];exact h5 o ho⟩,fun _=>dZ b' (fun h=>h3 (h▸nN))⟩
 have rZ:Below w0.heap.size w w':=⟨Av.1,Av.2.1,Av.2.2,by omega,fun k hk=>dZ k (by omega)⟩
 refine hI.step hX rZ hlen (fun i x hx hd=>?_) (qJ hX) (by rw[yO];simp[hI.gq]) ?_ (by rw[yO];exact hI.nodup) ?_ ?_
 ·obtain⟨y,hy,⟨rfl,hl⟩|h⟩:=hs i x hx hd
  ·refine⟨x,hy,.inl ⟨rfl,fun j=>?_⟩⟩
   rintro(⟨i',j',h,jQ⟩|⟨j',h,_⟩|⟨d,j',h1,h2⟩)
   ·cases h;exact hl jQ
   ·cases h
   ·cases h2;exact hd h1
  ·exact⟨y,hy,.inr h⟩
 ·intro b' bx sC h1 h2
  rw[yO]at h2
  rw[List.getElem?_set]at h1
  by_cases eV:b=b'
  ·subst eV
   rw[hb]at h2;cases h2
   simp only[↓reduceIte]at h1
   split at h1
   ·cases h1
    exact rep hX eg.1
   ·cases h1
  ·simp only[eV,↓reduceIte]at h1
   have bg:sC≠ao:=by
    rintro rfl
    exact eV (hI.nodup _ _ _ hb h2)
   refine hX.box (fun j=>?_) (dZ sC bg) (hI.boxes b' bx sC h1 h2)
   rintro(⟨i',j',h,jQ⟩|⟨j',h,_⟩|⟨d,j',h1,h2⟩)
   ·cases h
   ·cases h;exact eV rfl
   ·cases h2
 ·intro x hx;rw[yO]at hx;rw[aN];exact hI.dP x hx
 ·intro b' o h;rw[la]at h;rw[yO,aN];exact hI.dj b' o h
theorem Inv.RI(hI:Inv gl w0 au e a w g){b ao:Nat}{fR:af}{w':World}{cells:Array Value}{t:TypeId}{dst:Option Nat}{s:Slot}{v:Value}{ak:List Slot}
  (v7 zK:Nat→Prop){g':Gh}(la:g'.St=g.St)(yO:g'.bx=g.bx)
  (wB:∀p sC,(∀i j,p=.s i j→¬v7 i)→(∀j,p=.b b j→¬zK j)→(∀d j,dst=some d→p≠.s d j)→g.ow sC=some p→g'.ow sC=some p)(TZ:∀D,g.ow D=none→g'.ow D=none)
  (hb:g.bx[b]? =some (some ao))
  (cD:∀(j:Nat)y,j<fR.size→cells[j]? =some y→y.oneCell'=true)
  (dX:w'.heap[ao]? =some (.cells cells t (0,0)))(cK:∀c ty,w.heap[ao]? =some (.cells c ty (0,0))→cells.size=c.size)(dZ:∀k,k≠ao→w'.heap[k]? =w.heap[k]?)(aN:w'.heap.size=w.heap.size)
  (Av:w'.os=w.os∧w'.tape=w.tape∧w'.output=w.output)
  (hlen:ak.length=e.ak.length)
  (hs:∀(i:Nat)x,ak[i]? =some x→dst≠some i→∃y,e.ak[i]? =some y∧((x=y∧¬v7 i)∨x=y.aa))
  (rep:Ext w0.heap.size w g w' g' (fun p=>(∃i j,p=.s i j∧v7 i)∨(∃j,p=.b b j∧zK j)∨(∃d j,dst=some d∧p=.s d j))→(match(generalizing:=false) fR with
    | .none =>False
    | .map _=>False
    | .cells cs=>cs.length≤cells.size∧∀(j:Nat)x y,cs[j]? =some x→cells[j]? =some y→aR w' g'.St w0.heap.size (wc w0.heap.size w' g' b j) x y
    | .one s=>0<cells.size∧∀y,cells[0]? =some y→cQ w0.heap.size w' g' (fun _=>wc w0.heap.size w' g' b 0) s y))
  (qJ:Ext w0.heap.size w g w' g' (fun p=>(∃i j,p=.s i j∧v7 i)∨(∃j,p=.b b j∧zK j)∨(∃d j,dst=some d∧p=.s d j))→
    ∀d,dst=some d→cQ w0.heap.size w' g' (gp w0.heap.size w' g' d) s v):
  Inv gl w0 au ⟨de ak dst s,e.boxes.set b fR⟩ (a.put dst v) w' g':=by
 refine hI.aaJ v7 zK la yO wB TZ hb dZ (fun c ty h=>⟨cells,t,dX,cK c ty h⟩) aN Av hlen hs (fun hX hle=>?_) qJ
 have:=rep hX
 cases fR with
 |none=>exact this.elim
 |map l=>exact this.elim
 |cells cs=>exact⟨hle,cells,t,dX,cD,this⟩
 |one s=>exact⟨hle,cells,t,dX,cD,this⟩
theorem bp.vP{St:Nat→Nat→Prop}{k:IntKind}{n:Int}{v:Value}(h:bp w St (.int k n) v):v=.int k n∧iP k n=true:=by
 cases h with
 |int _ _ h=>exact⟨rfl,h⟩
theorem bp.zm{St:Nat→Nat→Prop}{l:List UInt8}{v:Value}(h:bp w St (.str l) v):∃s,v=.string s∧l=s.data.toList∧s.size≤maxLen:=by
 cases h with
 |str s h=>exact⟨s,rfl,rfl,h⟩
theorem bp.xD{St:Nat→Nat→Prop}{b:Bool}{v:Value}(h:bp w St (.bool b) v):v=.bool b:=by
 cases h with
 |bool _=>rfl
theorem bp.zn{St:Nat→Nat→Prop}{ds:List D}{v:Value}(h:bp w St (.agg ds) v):∃vs,v=.agg vs∧nG w St ds vs∧∀d∈ds,d.one=true:=by
 cases h with
 |agg _ vs hf hl hc=>exact⟨vs,rfl,⟨hl,hc⟩,hf⟩
theorem KH(op:BinOp)(t:TypeId)(x y:Operand)(u v:Value)(h:(match u,v with| .nilIface,.nilIface =>False| .agg _,.agg _=>False|_,_=>True)):
  (eqGuard op t x y u v).run P w=.ok () w:=by
 cases op<;>(try rfl)<;>(unfold eqGuard;simp only[Bool.not_true,Bool.false_eq_true,if_false];cases u<;>cases v<;>first|rfl|exact h.elim)
theorem ahd(hI:Inv gl w0 au e a w g){o:Oper}{op:BinOp}{t u:TypeId}{x y:Operand}(ho:o.op=.binOp op t x y u){k:Slot→List af→Prop}
  (h:ab (aj (Hu P op t) op ((Ab.bA gl e x).aa).cC ((Ab.bA gl e y).aa).cC) fun r=>k (.v r) e.boxes):bP P gl w0 au e.ak o a w k:=by
 obtain⟨r,hr,hk⟩:=aQ h
 have hx:=hI.j5 x
 have hy:=hI.j5 y
 generalize ((Ab.bA gl e x).aa).cC =sx at hr hx
 generalize ((Ab.bA gl e y).aa).cC =sy at hr hy
 have key:∃v rd,r=.d rd∧(eqGuard op t x y (a.eval x) (a.eval y)).run P w=.ok () w∧(binOp op t (a.eval x) (a.eval y)).run P w=.ok v w∧bp w g.St rd v:=by
  cases sx<;>simp only[aj,reduceCtorEq]at hr
  rename_i dx
  cases sy<;>simp only[reduceCtorEq]at hr
  rename_i dy
  replace hx:=hx.data
  replace hy:=hy.data
  split at hr
  ·rename_i rd fT
   cases hr
   cases dx<;>cases dy<;>simp only[gZ,reduceCtorEq]at fT
   ·
    rename_i b1 b2
    split at fT
    ·rename_i bq
     rw[hx.xD,hy.xD]
     have hg:=KH (P:=P) (w:=w) op t x y (.bool b1) (.bool b2) trivial
     have:∃f,shapeOf P f t=some [.bool]∧f≤10000∧eK P t=some false:=by
      unfold Hu at bq
      split at bq
      ·cases hq:P.eqGuardType P.depth t<;>rw[hq]at bq<;>simp only[cond_true,cond_false,reduceCtorEq]at bq
       split at bq
       ·split at bq
        ·simp only[Option.some.injEq,Prod.mk.injEq]at bq
         obtain⟨rfl,rfl⟩:=bq
         exact⟨20,by assumption,by decide,by assumption⟩
        ·cases bq
       ·split at bq<;>cases bq
      ·cases hq:P.eqGuardType P.depth t<;>rw[hq]at bq<;>simp only[cond_true,cond_false,reduceCtorEq]at bq
       split at bq
       ·split at bq
        ·simp only[Option.some.injEq,Prod.mk.injEq]at bq
         obtain⟨rfl,rfl⟩:=bq
         exact⟨20,by assumption,by decide,by assumption⟩
        ·cases bq
       ·split at bq<;>cases bq
      ·cases bq
     obtain⟨f,h1,h2,h3⟩:=this
     have hq:=Pn (w:=w) (g:=g) f 10000 t _ false [.bool b1] [.bool b2] (.bool b1) (.bool b2) (b1==b2) h1 h2 h3 rfl rfl
      (by simp only[j6,Bool.false_eq_true,if_false];exact⟨_,rfl,.bool _⟩) (by simp only[j6,Bool.false_eq_true,if_false];exact⟨_,rfl,.bool _⟩) (by simp[gY,oW])
     split at fT
     ·cases fT;exact⟨_,_,rfl,hg,by simp[binOp,Op.equal,Op.maxDepth,hq],.bool _⟩
     ·cases fT;exact⟨_,_,rfl,hg,by simp[binOp,Op.equal,Op.maxDepth,hq],.bool _⟩
     ·cases fT
    ·cases fT
   ·
    rename_i k1 n1 k2 n2
    obtain⟨ex,wx⟩:=hx.vP
    obtain⟨ey,wy⟩:=hy.vP
    rw[ex,ey]
    have hg:=KH (P:=P) (w:=w) op t x y (.int k1 n1) (.int k2 n2) trivial
    split at fT
    ·obtain⟨v,hv,jq⟩:=WD (P:=P) (w:=w) (g:=g) (k':=k2) t (.inl rfl) wx fT
     exact⟨v,rd,rfl,hg,hv,jq⟩
    ·obtain⟨v,hv,jq⟩:=WD (P:=P) (w:=w) (g:=g) (k':=k2) t (.inr rfl) wx fT
     exact⟨v,rd,rfl,hg,hv,jq⟩
    ·rename_i h1 h2
     split at fT
     ·rename_i nO
      subst nO
      obtain⟨v,hv,jq⟩:=aeW (P:=P) (w:=w) (g:=g) t ⟨h1,h2⟩ wx wy fT
      exact⟨v,rd,rfl,hg,hv,jq⟩
     ·cases fT
   ·
    obtain⟨s1,e1,f1,_⟩:=hx.zm
    obtain⟨s2,e2,f2,_⟩:=hy.zm
    rw[e1,e2]
    rw[f1,f2]at fT
    obtain⟨v,hv,jq⟩:=aeX (P:=P) (w:=w) (g:=g) t fT
    exact⟨v,rd,rfl,KH op t x y _ _ trivial,hv,jq⟩
   ·
    rename_i l1 l2
    split at fT
    ·rename_i ks bq
     obtain⟨v1,e1,r1,_⟩:=hx.zn
     obtain⟨v2,e2,r2,_⟩:=hy.zn
     rw[e1,e2]
     cases mZ:(eR ks l1&&eR ks l2)with
     |false=>rw[mZ]at fT;cases fT
     |true=>
      rw[mZ]at fT
      simp only[Bool.and_eq_true]at mZ
      simp only[cond_true]at fT
      have:shapeOf P 20 t=some ks∧eK P t=some true∧P.eqGuardType P.depth t=false:=by
       unfold Hu at bq
       split at bq
       ·cases hq:P.eqGuardType P.depth t<;>rw[hq]at bq<;>simp only[cond_true,cond_false,reduceCtorEq]at bq
        split at bq
        ·split at bq
         ·simp only[Option.some.injEq,Prod.mk.injEq]at bq
          obtain⟨rfl,rfl⟩:=bq
          exact⟨by assumption,by assumption,rfl⟩
         ·cases bq
        ·split at bq<;>cases bq
       ·cases hq:P.eqGuardType P.depth t<;>rw[hq]at bq<;>simp only[cond_true,cond_false,reduceCtorEq]at bq
        split at bq
        ·split at bq
         ·simp only[Option.some.injEq,Prod.mk.injEq]at bq
          obtain⟨rfl,rfl⟩:=bq
          exact⟨by assumption,by assumption,rfl⟩
         ·cases bq
        ·split at bq<;>cases bq
       ·cases bq
      obtain⟨h1,h3,h4⟩:=this
      have hg:=run_eqGuard_agg (P:=P) w op t x y v1 v2 h4
      have hq:∀c,gY l1 l2=some c→(Op.equalIn 10000 t (.agg v1) (.agg v2)).run P w=.ok c w:=fun c hc=>
       Pn (w:=w) (g:=g) 20 10000 t _ true l1 l2 (.agg v1) (.agg v2) c h1 (by decide) h3 mZ.1 mZ.2
        (by simp only[j6,if_true];exact⟨_,rfl,r1⟩) (by simp only[j6,if_true];exact⟨_,rfl,r2⟩) hc
      split at fT
      ·split at fT
       ·rename_i c hc;cases fT;exact⟨_,_,rfl,hg,by simp[run_eql_struct,hq c hc],.bool _⟩
       ·cases fT
      ·split at fT
       ·rename_i c hc;cases fT;exact⟨_,_,rfl,hg,by simp[run_neq_struct,hq c hc],.bool _⟩
       ·cases fT
      ·cases fT
    ·cases fT
   ·
    rename_i a1 s1 l1 b1 s2 l2
    cases b1<;>simp only[reduceCtorEq]at fT
    split at fT
    ·rename_i bq
     have hu:∃e',P.underlying t=some (.slice e'):=by
      unfold Hu at bq
      have bad:∀{ks:List CK}{b:Bool},shapeOf P 20 t=some ks→eK P t=some b→(b,ks)=(false,[])→False:=fun{ks b}h1 h2 h3=>by
       cases h3
       rcases(GW h1).2 with h4|h4
       ·simp at h4
       ·rw[h2]at h4;cases h4
      split at bq
      ·cases hq:P.eqGuardType P.depth t<;>rw[hq]at bq<;>simp only[cond_true,cond_false,reduceCtorEq]at bq
       split at bq
       ·split at bq
        ·exact(bad (by assumption) (by assumption) (Option.some.inj bq)).elim
        ·cases bq
       ·split at bq
        ·exact⟨_,by assumption⟩
        ·cases bq
      ·cases hq:P.eqGuardType P.depth t<;>rw[hq]at bq<;>simp only[cond_true,cond_false,reduceCtorEq]at bq
       split at bq
       ·split at bq
        ·exact(bad (by assumption) (by assumption) (Option.some.inj bq)).elim
        ·cases bq
       ·split at bq
        ·exact⟨_,by assumption⟩
        ·cases bq
      ·cases bq
     obtain⟨e',hu⟩:=hu
     have va:a.eval y=.slice none 0 0:=by
      generalize a.eval y=vy at hy
      cases hy;rfl
     have Jm:∃p n c,a.eval x=.slice p n c∧p.isNone=decide (a1=SK.nil):=by
      generalize a.eval x=vx at hx
      cases hx with
      |jk=>exact⟨_,_,_,rfl,rfl⟩
      |sl=>exact⟨_,_,_,rfl,rfl⟩
      |mY=>exact⟨_,_,_,rfl,rfl⟩
     obtain⟨p,n,c,Jm,hp⟩:=Jm
     rw[Jm,va]
     have hq:(Op.equalIn 10000 t (.slice p n c) (.slice none 0 0)).run P w=.ok (decide (a1=SK.nil)) w:=by
      rw[←hp,show(10000:Nat)=9999+1 from rfl,Op.equalIn]
      cases p<;>simp[run_underlying hu]
     have hg:=KH (P:=P) (w:=w) op t x y (.slice p n c) (.slice none 0 0) trivial
     split at fT
     ·cases fT;exact⟨_,_,rfl,hg,by simp[binOp,Op.equal,Op.maxDepth,hq],.bool _⟩
     ·cases fT;exact⟨_,_,rfl,hg,by simp[binOp,Op.equal,Op.maxDepth,hq],.bool _⟩
     ·cases fT
    ·cases fT
  ·cases hr
 obtain⟨v,rd,rfl,hg,hv,jq⟩:=key
 refine bP.gD hI (s:=.d rd) (v:=v) ?_ (.d _ _ _ jq) hk
 simp[execOp,ho,hg,hv]
theorem aiO(hI:Inv gl w0 au e a w g){o:Oper}{op:UnOp}{t:TypeId}{x:Operand}(ho:o.op=.unOp op t x){k:Slot→List af→Prop}
  (h:ab (eP op ((Ab.bA gl e x).aa).cC) fun r=>k (.v r) e.boxes):bP P gl w0 au e.ak o a w k:=by
 obtain⟨r,hr,hk⟩:=aQ h
 have hx:=hI.j5 x
 generalize ((Ab.bA gl e x).aa).cC =sx at hr hx
 unfold eP at hr
 split at hr
 ·rename_i b
  have hx:=hx.data.xD
  split at hr
  ·cases hr;exact bP.gD hI (v:=.bool (!b)) (by simp[execOp,ho,hx,Op.unary]) (.d _ _ _ (.bool _)) hk
  ·cases hr
 ·rename_i kk n
  obtain⟨hx,wx⟩:=hx.data.vP
  split at hr
  ·cases hr;exact bP.gD hI (by simp only[execOp,ho,hx,Op.unary,Op.intArith];simp) (.d _ _ _ (.int _ _ (CL _ _))) hk
  ·cases hr;exact bP.gD hI (by simp only[execOp,ho,hx,Op.unary,Op.intBits];simp) (.d _ _ _ (.int _ _ (CL _ _))) hk
  ·cases hr
 ·cases hr
theorem af0(hI:Inv gl w0 au e a w g){o:Oper}{src dst:TypeId}{x:Operand}(ho:o.op=.convert src dst x)(hs:(P.underlying src).isSome =true){k:Slot→List af→Prop}
  (h:ab (R9 P dst ((Ab.bA gl e x).aa).cC) fun r=>k (.v r) e.boxes):bP P gl w0 au e.ak o a w k:=by
 obtain⟨r,hr,hk⟩:=aQ h
 have hx:=hI.j5 x
 generalize ((Ab.bA gl e x).aa).cC =sx at hr hx
 obtain⟨us,hus⟩:=Option.isSome_iff_exists.1 hs
 unfold R9 at hr
 split at hr
 ·rename_i kk n
  obtain⟨hx,wx⟩:=hx.data.vP
  split at hr
  ·rename_i kd hd
   cases hr
   refine bP.gD hI (v:=.int kd (kd.wrap n)) ?_ (.d _ _ _ (.int _ _ (CL _ _))) hk
   cases us<;>simp[execOp,ho,hx,convert,run_underlying hus,run_underlying hd,Conv.intToInt]
  ·cases hr
 ·rename_i l
  obtain⟨s1,e1,f1,h1⟩:=hx.data.zm
  split at hr
  ·rename_i hd
   cases hr
   refine bP.gD hI (v:=.string s1) ?_ (.d _ _ _ (by rw[f1];exact .str _ h1)) hk
   cases us<;>simp[execOp,ho,e1,convert,run_underlying hus,run_underlying hd]
  ·cases hr
 ·cases hr
theorem Inv.pX(hI:Inv gl w0 au e a w g){x:Operand}{s:Slot}(h:(Ab.bA gl e x).aa =s):cQ w0.heap.size w g (fun _ _ _ _=>False) s (a.eval x):=h▸hI.bA x
theorem cQ.kz{base:Nat}{O:Nat→Nat→Nat→Nat→Prop}{x:SV}{v:Value}(h:cQ base w g O (.v x) v):aR w g.St base (O 0) x v:=by
 cases h with
 |v _ _ _ h=>exact h
theorem cQ.pN{base:Nat}{O:Nat→Nat→Nat→Nat→Prop}{b off:Nat}{v:Value}(h:cQ base w g O (.p b off) v):∃ao,v=.pointer (some ⟨ao,off,none⟩)∧g.bx[b]? =some (some ao):=by
 cases h with
 |p _ _ _ ao h=>exact⟨ao,rfl,h⟩
theorem cQ.Sf{base:Nat}{O:Nat→Nat→Nat→Nat→Prop}{xs:List SV}{v:Value}(h:cQ base w g O (.t xs) v):
  ∃vs,v=.tuple vs∧xs.length=vs.size∧∀(j:Nat)x v,xs[j]? =some x→vs[j]? =some v→aR w g.St base (O j) x v:=by
 cases h with
 |t _ _ vs hl hc=>exact⟨vs,rfl,hl,hc⟩
theorem aR.cells{St:Nat→Nat→Prop}{base:Nat}{O:Nat→Nat→Nat→Prop}{x:SV}{v:Value}(h:aR w St base O x v){l:List SV}(hl:aE x=some l):
  l.length=v.cells.size∧(∀y∈v.cells,y.oneCell'=true)∧∀(i:Nat)c y,l[i]? =some c→v.cells[i]? =some y→aR w St base O c y:=by
 have one:∀(c:SV)(u:Value),aR w St base O c u→u.oneCell'=true→u.cells= #[u]→[c].length =u.cells.size∧(∀y∈u.cells,y.oneCell'=true)∧∀(i:Nat)c' y,[c][i]? =some c'→u.cells[i]? =some y→aR w St base O c' y:=by
  intro c u hr h1 hu
  rw[hu]
  refine⟨rfl,by simpa using h1,fun i c' y hc hy=>?_⟩
  cases i with
  |zero=>simp at hc hy;subst hc hy;exact hr
  |succ i=>simp at hc
 cases h with
 |d _ y _ hd=>
  simp only[aE,Option.some.injEq]at hl
  subst hl
  by_cases hy:y.one=true
  ·have hc:y.cells=[y]:=by cases y<;>first|rfl|simp[D.one]at hy
   have h1:=hd.vO hy
   have hv:v.cells= #[v]:=by cases v<;>first|rfl|simp[Value.oneCell']at h1
   rw[hc]
   exact one (.d y) v (.d _ _ _ hd) h1 hv
  ·cases y<;>simp only[D.one,not_true_eq_false]at hy
   rename_i ds
   obtain⟨vs,rfl,⟨hs,hc⟩,hf⟩:=hd.zn
   refine⟨by simpa[D.cells,Value.cells]using hs,fun y hy=>?_,fun i c y jd hy=>?_⟩
   ·obtain⟨i,hi,rfl⟩:=Array.mem_iff_getElem.1 hy
    have fU:i<ds.length:=by rw[hs];exact hi
    exact(hc i ds[i] _ (List.getElem?_eq_getElem fU) (Array.getElem?_eq_getElem hi)).vO (hf _ (List.getElem_mem fU))
   ·simp only[D.cells,List.getElem?_map,Option.map_eq_some_iff]at jd
    obtain⟨d,lb,rfl⟩:=jd
    exact .d _ _ _ (hc i d y lb hy)
 |own _ sz L gg cap hd cd ho=>simp only[aE,Option.some.injEq]at hl;subst hl;exact one _ _ (.own _ sz L gg cap hd cd ho) rfl rfl
 |full _ sz L ad hd=>simp only[aE,Option.some.injEq]at hl;subst hl;exact one _ _ (.full _ sz L ad hd) rfl rfl
 |ref _ cs off b o vs hb h1 h2=>simp only[aE,Option.some.injEq]at hl;subst hl;exact one _ _ (.ref _ cs off b o vs hb h1 h2) rfl rfl
 |dg _ n sz cs b cap vs hb hn hm h1 h2=>simp only[aE,Option.some.injEq]at hl;subst hl;exact one _ _ (.dg _ n sz cs b cap vs hb hn hm h1 h2) rfl rfl
 |aX _ y off b o vs h0 h1 h2=>simp only[aE,Option.some.injEq]at hl;subst hl;exact one _ _ (.aX _ y off b o vs h0 h1 h2) rfl rfl
 |ef _ f first cap fv cv h1 h2 h3 h4=>simp only[aE,Option.some.injEq]at hl;subst hl;exact one _ _ (.ef _ f first cap fv cv h1 h2 h3 h4) rfl rfl
 |bh _ sz L gg cap vs h1 h2 h3 h4 h5 h6 h7=>simp only[aE,Option.some.injEq]at hl;subst hl;exact one _ _ (.bh _ sz L gg cap vs h1 h2 h3 h4 h5 h6 h7) rfl rfl
 |mp _ m r es clock h1 h2 h3 h4=>simp only[aE,Option.some.injEq]at hl;subst hl;exact one _ _ (.mp _ m r es clock h1 h2 h3 h4) rfl rfl
 |nest _ LL gg cap bk cp h1 h2 h3 h4 h5 h6=>simp only[aE,Option.some.injEq]at hl;subst hl;exact one _ _ (.nest _ LL gg cap bk cp h1 h2 h3 h4 h5 h6) rfl rfl
 |undef _ _=>simp[aE]at hl
theorem Po{t:TypeId}{z:List D}(h:pG P t=some z):∃zv:Value,(∀w:World,(zeroValue t).run P w=.ok zv w)∧z.length=zv.cells.size∧(∀d∈z,d.one=true)∧
  ∀(w:World)(St:Nat→Nat→Prop)(i:Nat)x v,z[i]? =some x→zv.cells[i]? =some v→bp w St x v:=by
 unfold pG at h
 split at h
 ·rename_i i hi
  split at h
  ·rename_i zv hz
   refine⟨zv,fun w=>by simp[zeroValue,typeInfo,hi,hz],?_,PB h,fun w St j x v hx hv=>?_⟩
   ·have:=(GZ (w:=default) (St:=fun _ _=>False) h).1
    simpa using this
   ·exact(GZ (w:=w) (St:=St) h).2 j x v hx (by simpa using hv)
  ·cases h
 ·cases h
theorem aeY(hI:Inv gl w0 au e a w g){o:Oper}{t:TypeId}(ho:o.op=.alloc t){id:Nat}{k:Slot→List af→Prop}
  (gJ:e.boxes[id]? =some .none)
  (h:ab (Qx P t) fun z=>k (.p id 0) (e.boxes.set id (.cells z))):bP P gl w0 au e.ak o a w k:=by
 obtain⟨zs,iC,hk⟩:=aQ h
 unfold Qx at iC
 split at iC
 rotate_left
 ·split at iC
  ·rename_i i hi
   split at iC
   ·rename_i zv yP
    cases fO:zv.cells.toList.all Value.oneCell' with
    |false=>rw[fO]at iC;cases iC
    |true=>
     rw[fO]at iC
     cases iC
     refine bP.Mm hI gJ (cells:=zv.cells) (t:=t) (bx:=.cells _) ?_ ?_ ?_ hk
     ·have bC:(zeroValue t).run P w=.ok zv w:=by simp[zeroValue,typeInfo,hi,yP]
      simp[execOp,ho,Instr.alloc,bC,newVar,newRow]
     ·intro y hy
      exact List.all_eq_true.1 fO y (by simpa using hy)
     ·intro w' g' O hX
      refine⟨by simp,fun j x y hx hy=>?_⟩
      rw[(List.mem_replicate.1 (List.mem_of_getElem? hx)).2]
      exact .undef _ _
   ·cases iC
  ·cases iC
 rename_i z hz
 cases iC
 obtain⟨zv,bC,hlen,cD,bG⟩:=Po hz
 refine bP.Mm hI gJ (cells:=zv.cells) (t:=t) (bx:=.cells (z.map .d)) ?_ ?_ ?_ hk
 ·simp[execOp,ho,Instr.alloc,bC,newVar,newRow]
 ·intro y hy
  obtain⟨i,hi,rfl⟩:=Array.mem_iff_getElem.1 hy
  have fU:i<z.length:=by rw[hlen];exact hi
  exact(bG w (fun _ _=>False) i z[i] _ (List.getElem?_eq_getElem fU) (Array.getElem?_eq_getElem hi)).vO (cD _ (List.getElem_mem fU))
 ·intro w' g' O hX
  refine⟨by simpa using Nat.le_of_eq hlen,fun j x y hx hy=>?_⟩
  simp only[List.getElem?_map,Option.map_eq_some_iff]at hx
  obtain⟨d,hd,rfl⟩:=hx
  exact .d _ _ _ (bG _ _ j d y hd hy)
theorem ahe(hI:Inv gl w0 au e a w g){o:Oper}{t:TypeId}{x:Operand}(ho:o.op=.box t x){id:Nat}{k:Slot→List af→Prop}
  (gJ:e.boxes[id]? =some .none)
  (h:ab (eF P t) fun sz=>(match(Ab.bA gl e x).aa with
  | .v y=>ab (aE y) fun l=>l.length=sz∧k (.p id 0) (e.boxes.set id (.cells l))
  | .t _=>False
  |s=>(match sz with|1=>k (.p id 0) (e.boxes.set id (.one s))|_=>False))):bP P gl w0 au e.ak o a w k:=by
 obtain⟨sz,aN,h⟩:=aQ h
 have hx:=hI.bA x
 have bC:(execOp a.eval o).run P w=.ok (.value (.pointer (some ⟨w.heap.size,0,none⟩))) (w.alloc (.cells (a.eval x).cells t)):=by
  simp[execOp,ho,Instr.box,newVar,newRow]
 have oo:∀s,(Ab.bA gl e x).aa =s→(∀y,s≠.v y)→(∀y,s≠.t y)→k (.p id 0) (e.boxes.set id (.one s))→bP P gl w0 au e.ak o a w k:=by
  intro s hs h1 h2 hk
  rw[hs]at hx
  have hc:(a.eval x).cells = #[a.eval x]:=by
   clear bC
   generalize a.eval x=u at hx
   cases hx with
   |v _ y _ _=>exact absurd rfl (h1 y)
   |p=>rfl
   |a _ b n sz v hm h=>obtain⟨_,_,_,_,rfl,_⟩:=h;rfl
   |m=>rfl
   |c=>rfl
   |t _ y _ _ _=>exact absurd rfl (h2 y)
  have h1c:(a.eval x).oneCell' =true:=by
   clear bC hc
   generalize a.eval x=u at hx
   cases hx with
   |v _ y _ _=>exact absurd rfl (h1 y)
   |p=>rfl
   |a _ b n sz v hm h=>obtain⟨_,_,_,_,rfl,_⟩:=h;rfl
   |m=>rfl
   |c=>rfl
   |t _ y _ _ _=>exact absurd rfl (h2 y)
  refine bP.Mm hI gJ (bx:=.one s) bC (by rw[hc];simpa using h1c) (fun w' g' O hX=>?_) hk
  refine⟨by rw[hc];exact Nat.one_pos,fun y hy=>?_⟩
  rw[hc]at hy
  simp at hy
  subst hy
  exact hx.mono hX.st hX.bs hX.bx hX.sh fun _ _ _ _ h=>h.elim
 split at h
 ·rename_i y hy
  obtain⟨l,hl,hlen,hk⟩:=aQ h
  rw[hy]at hx
  obtain⟨h1,h2,h3⟩:=hx.kz.cells hl
  refine bP.Mm hI gJ (bx:=.cells l) bC h2 (fun w' g' O hX=>⟨Nat.le_of_eq h1,fun j c u hc hu=>?_⟩) hk
  exact(h3 j c u hc hu).mono hX.st hX.bs _ (fun _ _ _ h=>h.elim)
 ·exact h.elim
 ·rename_i h1 h2
  split at h
  ·exact oo _ rfl (fun y hy=>h1 y hy) (fun y hy=>h2 y hy) h
  ·exact h.elim
theorem A7{t:TypeId}{b:Bool}{n:Nat}(hl:lR P t=some (b,n))(ao off:Nat)(vs:Nat→Value)
  (h:∀j,j<(if b then n else 1)→w.cell? ⟨ao,off+j,none⟩=some (vs j)):
  (loadVar t ⟨ao,off,none⟩).run P w=.ok (if b then .agg ((List.range n).map vs).toArray else vs 0) w:=by
 obtain⟨hb,hn,_⟩:=Hx hl
 unfold loadVar
 simp only[Sem.run_bind,XQ hb,Result.andThen_ok]
 cases b
 ·have:=h 0 (by simp)
  simp only[Nat.add_zero]at this
  simp[this]
 ·have:=run_loadCells (P:=P) w ⟨ao,off,none⟩ n vs (fun j hj=>by rw[qq];exact h j (by simpa using hj))
  simp[kP hn,this]
theorem P9:∀{l:List SV}{r:List D},dC l=some r→r.length=l.length∧∀(i:Nat)x y,l[i]? =some x→r[i]? =some y→cB x=some y
 |[],r,h=>by cases h;simp
 |v::l,r,h=>by
  simp only[dC]at h
  split at h
  ·rename_i x hx
   split at h
   ·rename_i r' hr
    cases h
    obtain⟨h1,h2⟩:=P9 hr
    refine⟨by simp[h1],fun i y z hy hz=>?_⟩
    cases i with
    |zero=>simp at hy hz;subst hy hz;exact hx
    |succ i=>simp at hy hz;exact h2 i y z hy hz
   ·cases h
  ·cases h
theorem aiP{x:SV}{y:D}(h:cB x=some y)(hx:match x with| .d z=>z.one=true|_=>True):y.one=true:=by
 cases x<;>simp only[cB,Option.some.injEq,reduceCtorEq]at h<;>subst h<;>first|exact hx|rfl
theorem PO{t:TypeId}{b:Bool}{n off:Nat}{cs:List SV}{x:SV}{St:Nat→Nat→Prop}{base:Nat}{O:Nat→Nat→Nat→Nat→Prop}(hl:lR P t=some (b,n))(h:ai b n off cs=some x)(ao o:Nat)
  (vs:Nat→Value)(aW:∀i,i<cs.length→w.cell? ⟨ao,o+i,none⟩=some (vs i))(bG:∀(i:Nat)c,cs[i]? =some c→aR w St base (O i) c (vs i))
  (cD:∀i,i<cs.length→(vs i).oneCell' =true):
  ∃v,(loadVar t ⟨ao,o+off,none⟩).run P w=.ok v w∧aR w St base (O off) x v:=by
 unfold ai at h
 cases b
 ·simp only[cond_false]at h
  have aP:=(List.getElem?_eq_some_iff.1 h).1
  refine⟨vs off,?_,bG off x h⟩
  rw[A7 hl ao (o+off) (fun j=>vs (off+j)) (fun j hj=>by simp at hj;subst hj;simpa using aW off aP)]
  simp
 ·simp only[cond_true]at h
  split at h
  ·rename_i hle
   split at h
   ·rename_i l nP
    cases h
    obtain⟨hlen,ml⟩:=P9 nP
    refine⟨.agg ((List.range n).map fun j=>vs (off+j)).toArray,?_,.d _ _ _ (.agg _ _ ?_ ?_ ?_)⟩
    ·rw[A7 hl ao (o+off) (fun j=>vs (off+j)) (fun j hj=>by
      simp at hj;rw[Nat.add_assoc];exact aW (off+j) (by omega))]
     simp
    ·intro d hd
     obtain⟨i,hi,rfl⟩:=List.mem_iff_getElem.1 hd
     have fU:i<((cs.drop off).take n).length :=by rw[←hlen];exact hi
     have hs:=ml i _ _ (List.getElem?_eq_getElem fU) (List.getElem?_eq_getElem hi)
     have B9:off+i<cs.length:=by simp at fU;omega
     have hc:((cs.drop off).take n)[i]=cs[off+i]:=by simp
     have hr:=bG (off+i) _ (List.getElem?_eq_getElem B9)
     have h1:=cD (off+i) B9
     rw[hc]at hs
     refine aiP hs ?_
     revert hs hr
     cases cs[off+i]<;>intro hs hr<;>try trivial
     rename_i z
     cases z<;>first|rfl|(obtain⟨_,hv,_⟩:=hr.data.zn;rw[hv]at h1;simp[Value.oneCell']at h1)
    ·simp[hlen];omega
    ·intro i d v hd hv
     have hi:i<l.length:=(List.getElem?_eq_some_iff.1 hd).1
     have fU:i<((cs.drop off).take n).length :=by rw[←hlen];exact hi
     have B9:off+i<cs.length:=by simp at fU;omega
     have pY:i<n:=by simp at fU;omega
     have hc:((cs.drop off).take n)[i]? =some cs[off+i]:=by
      rw[List.getElem?_eq_getElem fU];simp
     have hs:=ml i _ _ hc hd
     have hr:=bG (off+i) _ (List.getElem?_eq_getElem B9)
     simp[pY]at hv
     subst hv
     exact hr.cB hs
   ·cases h
  ·cases h
theorem bp.adn{St:Nat→Nat→Prop}{d:D}{v:Value}(r:bp w St d v)(h:v.oneCell'=true):d.one=true:=by
 cases d with
 |agg ds=>obtain⟨_,hv,_⟩:=r.zn;rw[hv]at h;simp[Value.oneCell']at h
 |_=>rfl
theorem aeZ{t:TypeId}{b:Bool}{n off:Nat}{cs:List D}{x:D}{St:Nat→Nat→Prop}(hl:lR P t=some (b,n))(h:tI b n off cs=some x)(ao o:Nat)
  (hf:∀c∈cs,c.one=true)
  (vs:Nat→Value)(aW:∀i,i<cs.length→w.cell? ⟨ao,o+i,none⟩=some (vs i))(bG:∀(i:Nat)c,cs[i]? =some c→bp w St c (vs i)):
  ∃v,(loadVar t ⟨ao,o+off,none⟩).run P w=.ok v w∧bp w St x v:=by
 unfold tI at h
 cases b
 ·simp only[cond_false]at h
  have aP:=(List.getElem?_eq_some_iff.1 h).1
  refine⟨vs off,?_,bG off x h⟩
  rw[A7 hl ao (o+off) (fun j=>vs (off+j)) (fun j hj=>by simp at hj;subst hj;simpa using aW off aP)]
  simp
 ·simp only[cond_true]at h
  split at h
  ·rename_i hle
   cases h
   refine⟨.agg ((List.range n).map fun j=>vs (off+j)).toArray,?_,.agg _ _ ?_ ?_ ?_⟩
   ·rw[A7 hl ao (o+off) (fun j=>vs (off+j)) (fun j hj=>by
     simp at hj;rw[Nat.add_assoc];exact aW (off+j) (by omega))]
    simp
   ·intro d hd
    exact hf d (List.mem_of_mem_drop (List.mem_of_mem_take hd))
   ·simp;omega
   ·intro i d v hd hv
    rw[List.getElem?_take]at hd
    split at hd
    ·rename_i hi
     rw[List.getElem?_drop]at hd
     simp[hi]at hv
     subst hv
     exact bG _ _ hd
    ·cases hd
  ·cases h
theorem ae0(hI:Inv gl w0 au e a w g){o:Oper}{t:TypeId}{x:Operand}(ho:o.op=.load t x){k:Slot→List af→Prop}{b:Bool}{n:Nat}(hl:lR P t=some (b,n))
  {s:SV}(hs:(Ab.bA gl e x).aa =.v s)(h:ab (aH b n s) fun y=>k (.v y) e.boxes):bP P gl w0 au e.ak o a w k:=by
 obtain⟨y,hy,hk⟩:=aQ h
 have hx:=hI.tW hs
 have bC:∀{ad v},a.eval x=.pointer (some ad)→(loadVar t ad).run P w=.ok v w→(execOp a.eval o).run P w=.ok (.value v) w:=by
  intro ad v h1 h2
  simp[execOp,ho,Instr.loadAt,Instr.sureAddr,h1,h2]
 unfold aH at hy
 split at hy
 ·rename_i z off
  split at hy
  ·rename_i r hr
   cases hy
   generalize hv:a.eval x=u at hx
   cases hx with
   |aX _ _ _ ao o' vs hf aW bG=>
    obtain⟨v,h1,h2⟩:=aeZ (St:=g.St) hl hr ao o' hf vs (fun i hi=>(aW i hi).1) bG
    exact bP.gD hI (bC hv h1) (.d _ _ _ h2) hk
  ·cases hy
 ·rename_i cs off
  split at hy
  ·rename_i r hr
   cases hy
   generalize hv:a.eval x=u at hx
   cases hx with
   |ref _ _ _ ao o' vs hb aW bG=>
    obtain⟨v,h1,h2⟩:=PO (St:=g.St) (O:=fun _ _ _ _=>False) hl hr ao o' vs (fun i hi=>(aW i hi).1) bG (fun i hi=>(aW i hi).2)
    exact bP.gD hI (bC hv h1) h2.aa hk
  ·cases hy
 ·cases hy
theorem adP(hI:Inv gl w0 au e a w g){o:Oper}{t:TypeId}{x:Operand}(ho:o.op=.load t x){k:Slot→List af→Prop}{b:Bool}{n:Nat}(hl:lR P t=some (b,n))
  {bn off:Nat}(hs:(Ab.bA gl e x).aa =.p bn off)(h:uH b n bn off e.boxes k):bP P gl w0 au e.ak o a w k:=by
 have hx:=hI.pX hs
 obtain⟨ao,hv,dX⟩:=hx.pN
 have bC:∀{v},(loadVar t ⟨ao,off,none⟩).run P w=.ok v w→(execOp a.eval o).run P w=.ok (.value v) w:=by
  intro v h2
  simp[execOp,ho,Instr.loadAt,Instr.sureAddr,hv,h2]
 unfold uH at h
 split at h
 ·rename_i cs cK
  obtain⟨y,hy,hk⟩:=aQ h
  obtain⟨h0,c,ty,hc,cD,hlen,bG⟩:=hI.boxes bn _ ao cK dX
  obtain⟨v,h1,h2⟩:=PO (w:=w) (off:=off) (St:=g.St) (O:=fun j=>wc w0.heap.size w g bn j) hl hy ao 0 (fun i=>c.getD i undef) (fun i hi=>by
   rw[cell_of_row w ao (0+i) c ty (0,0) hc];simp[Nat.lt_of_lt_of_le hi hlen]) (fun i d hd=>by
   have hi:=(List.getElem?_eq_some_iff.1 hd).1
   exact bG i d _ hd (by simp[Nat.lt_of_lt_of_le hi hlen])) (fun i hi=>by
   have fU:i<c.size:=Nat.lt_of_lt_of_le hi hlen
   simp[fU];exact cD i _ hi (by simp))
  simp only[Nat.zero_add]at h1
  exact bP.gD hI (bC h1) h2.aa hk
 ·rename_i s pZ
  cases b with
  |true=>exact h.elim
  |false=>
   simp only[cond_false]at h
   split at h
   ·obtain⟨h0,c,ty,hc,cD,aN,bG⟩:=hI.boxes bn _ ao pZ dX
    have Jn:c[0]? =some (c[0]'(by omega)):=by simp
    refine bP.value hI (bC (v:=c[0]'(by omega)) ?_) ((bG _ Jn).aa) h
    rw[A7 (vs:=fun _=>c[0]'(by omega)) hl ao 0 (fun j hj=>by
     simp at hj;subst hj
     rw[cell_of_row w ao (0+0) c ty (0,0) hc];exact Jn)]
    simp
   ·exact h.elim
 ·exact h.elim
theorem Ew:∀(l:List SV)(cs:List SV)(off:Nat),off+l.length≤cs.length→setAt cs off l=cs.take off++l++cs.drop (off+l.length)
 |[],cs,off,_=>by simp[setAt]
 |v::l,cs,off,h=>by
  simp only[List.length_cons]at h
  rw[setAt,Ew l (cs.set off v) (off+1) (by simp;omega)]
  have h1:(cs.set off v).take (off+1)=cs.take off++[v]:=by
   rw[List.take_add_one,List.take_set_of_le (Nat.le_refl _)]
   simp[List.getElem?_set_self (show off<cs.length by omega)]
  have h2:(cs.set off v).drop (off+1+l.length)=cs.drop (off+1+l.length):=by
   rw[List.drop_set_of_lt (by omega)]
  rw[h1,h2]
  simp[Nat.add_assoc,Nat.add_comm 1]
theorem uC{α:Type}(cs l:List α)(off:Nat)(h:off+l.length≤cs.length)(i:Nat):
  (cs.take off++l++cs.drop (off+l.length))[i]? =if i<off then cs[i]? else if i<off+l.length then l[i-off]? else cs[i]? :=by
 have ht:(cs.take off).length =off:=by simp;omega
 rw[List.append_assoc,List.getElem?_append,ht]
 split
 ·rename_i h1
  rw[List.getElem?_take,if_pos h1]
 ·rename_i h1
  rw[List.getElem?_append]
  split
  ·rename_i h2
   rw[if_pos (by omega)]
  ·rename_i h2
   rw[if_neg (by omega),List.getElem?_drop]
   congr 1
   omega
theorem Xa{c l:Array Value}{off m:Nat}(h:off+l.size≤c.size)(h1:∀(j:Nat)y,j<m→c[j]? =some y→y.oneCell'=true)(h2:∀y∈l,y.oneCell'=true)(j:Nat)(y:Value)(hj:j<m)
  (hy:(c.toList.take off++l.toList++c.toList.drop (off+l.size)).toArray[j]? =some y):y.oneCell'=true:=by
 have hs:=uC c.toList l.toList off (by simpa using h) j
 simp only[Array.length_toList]at hs
 simp only[List.getElem?_toArray]at hy
 rw[hs]at hy
 simp only[Array.getElem?_toList]at hy
 split at hy
 ·exact h1 j y hj hy
 ·split at hy
  ·exact h2 y (Array.mem_of_getElem? hy)
  ·exact h1 j y hj hy
theorem GX{t:TypeId}{n:Nat}(hn:eF P t=some n){ao off:Nat}{c:Array Value}{ty:TypeId}(hc:w.heap[ao]? =some (.cells c ty (0,0))){v:Value}
  (hv:v.cells.size=n)(h1:∀y∈v.cells,y.oneCell'=true)(hle:off+n≤c.size):
  (storeVar t ⟨ao,off,none⟩ v).run P w=.ok () (w.setRow ao (c.toList.take off++v.cells.toList++c.toList.drop (off+n)).toArray):=by
 have:=run_storeCells_at P ao off ty v.cells.toList 0 c w hc (by simp;omega) (by simpa using h1)
 simp only[Nat.add_zero,Array.length_toList,hv]at this
 unfold storeVar
 simp[kP hn,hv,this]
theorem Pj(hI:Inv gl w0 au e a w g){o:Oper}{t:TypeId}{x y:Operand}(ho:o.op=.store t x y)(hd:o.dst=none){k:Slot→List af→Prop}
  {bn off ao n:Nat}(hv:a.eval x=.pointer (some ⟨ao,off,none⟩))(dX:g.bx[bn]? =some (some ao))
  {cells:Array Value}{ty:TypeId}{fR:af}(hc:w.heap[ao]? =some (.cells cells ty (0,0)))(xT:Array Value)(cK:xT.size=cells.size)(cD:∀(j:Nat)y,j<fR.size→xT[j]? =some y→y.oneCell'=true)
  (bc:(storeVar t ⟨ao,off,none⟩ (a.eval y)).run P w=.ok () (w.setRow ao xT))
  (rep:∀(w':World),Ext w0.heap.size w g w' g (fun p=>∃j,p=.b bn j∧off≤j∧j<off+n)→(match(generalizing:=false) fR with
    | .none =>False
    | .map _=>False
    | .cells cs=>cs.length≤xT.size∧∀(j:Nat)x y,cs[j]? =some x→xT[j]? =some y→aR w' g.St w0.heap.size (wc w0.heap.size w' g bn j) x y
    | .one s=>0<xT.size∧∀y,xT[0]? =some y→cQ w0.heap.size w' g (fun _=>wc w0.heap.size w' g bn 0) s y))
  (hk:k (.t []) (e.boxes.set bn fR)):bP P gl w0 au e.ak o a w k:=by
 intro next Q Sg
 have bC:(execOp a.eval o).run P w=.ok .skip (w.setRow ao xT):=by
  simp[execOp,ho,Instr.storeAt,Instr.sureAddr,hv,bc]
 unfold Oper.wp
 rw[bC]
 have dZ:=fun k(hk:k≠ao)=>setRow_other w ao k xT hk
 have mf:=setRow_heap w ao cells xT ty (0,0) hc
 refine Sg (.t []) undef _ _ g ?_ hk
 rw[hd]
 refine hI.RI (dst:=none) (s:=.t []) (v:=undef) (ak:=e.ak) (fun _=>False) (fun j=>off≤j∧j<off+n) rfl rfl (fun _ _ _ _ _ h=>h) (fun _ h=>h) dX cD mf (fun c ty h=>by rw[hc]at h;cases h;exact cK) dZ (by simp[World.setRow]) ⟨rfl,rfl,rfl⟩ rfl
  (fun i x hx _=>⟨x,hx,.inl ⟨rfl,fun h=>h⟩⟩) (fun hX=>?_) (fun _ d h=>by cases h)
 have:=rep _ ⟨hX.df,hX.st,hX.bs,hX.bx,fun p b a c hp ho=>hX.own p b a c (fun wC=>hp (by
  rcases wC with⟨i,j,_,h⟩|⟨j,h⟩|⟨d,j,h,_⟩
  ·exact h.elim
  ·exact⟨j,h⟩
  ·cases h)) ho,hX.sh⟩
 cases fR with
 |none=>exact this
 |map l=>exact this
 |cells cs=>exact this
 |one s=>exact this
theorem V8(hI:Inv gl w0 au e a w g){o:Oper}{t:TypeId}{x y:Operand}(ho:o.op=.store t x y)(hd:o.dst=none){k:Slot→List af→Prop}{n:Nat}(hn:eF P t=some n)
  {bn off ao:Nat}(hv:a.eval x=.pointer (some ⟨ao,off,none⟩))(dX:g.bx[bn]? =some (some ao))
  {cells:Array Value}{ty:TypeId}(hc:w.heap[ao]? =some (.cells cells ty (0,0)))(hc1:0<cells.size)(u9:n=1)(Dm:off=0)
  {s:Slot}(hs:(Ab.bA gl e y).aa =s)(Jo:∀z,s≠.v z)(DI:∀z,s≠.t z)(hk:k (.t []) (e.boxes.set bn (.one s))):bP P gl w0 au e.ak o a w k:=by
 have hy:=hI.pX hs
 subst u9 Dm
 have qP:(a.eval y).cells = #[a.eval y]∧(a.eval y).oneCell' =true:=by
  generalize a.eval y=u at hy
  cases hy with
  |v _ z _ _=>exact absurd rfl (Jo z)
  |p=>exact⟨rfl,rfl⟩
  |a _ b n sz v hm h=>obtain⟨_,_,_,_,rfl,_⟩:=h;exact⟨rfl,rfl⟩
  |m=>exact⟨rfl,rfl⟩
  |c=>exact⟨rfl,rfl⟩
  |t _ z _ _ _=>exact absurd rfl (DI z)
 refine Pj hI ho hd (n:=1) (fR:=.one s) hv dX hc (cells.toList.take 0++ #[a.eval y].toList ++cells.toList.drop (0+1)).toArray (by simp;omega) (fun j u hj hu=>?_) ?_ (fun w' hX=>⟨by simp,fun u hu=>?_⟩) hk
 ·have:j=0:=by simp only[af.size]at hj;omega
  subst this
  simp at hu;subst hu
  exact qP.2
 ·rw[GX hn hc (by rw[qP.1];rfl) (by rw[qP.1];simpa using qP.2) (by omega)]
  rw[qP.1]
 ·simp at hu;subst hu
  exact hy.mono hX.st hX.bs hX.bx hX.sh (fun _ _ _ _ h=>h.elim)
theorem ae1(hI:Inv gl w0 au e a w g){o:Oper}{t:TypeId}{x y:Operand}(ho:o.op=.store t x y)(hd:o.dst=none){k:Slot→List af→Prop}{n:Nat}(hn:eF P t=some n)
  {bn off:Nat}(hs:(Ab.bA gl e x).aa =.p bn off)(h:xB n bn off ((Ab.bA gl e y).aa) e.boxes fun dY=>k (.t []) dY):bP P gl w0 au e.ak o a w k:=by
 have hx:=hI.pX hs
 obtain⟨ao,hv,dX⟩:=hx.pN
 unfold xB at h
 split at h
 ·
  rename_i cs cK
  obtain⟨h0,c,ty,hc,cD,hlen,bG⟩:=hI.boxes bn _ ao cK dX
  split at h
  ·rename_i z hz
   obtain⟨l,hl,NN,hle,hk⟩:=aQ h
   have hy:=hI.pX hz
   obtain⟨h1,h2,h3⟩:=hy.kz.cells hl
   have mn:(a.eval y).cells.size =n:=by rw[←h1,NN]
   refine Pj hI ho hd (n:=n) (fR:=.cells (setAt cs off l)) hv dX hc _ (by simp[mn];omega) ?_ (GX hn hc mn h2 (by omega)) (fun w' hX=>?_) hk
   ·intro j u hj hu
    rw[←mn]at hu
    exact Xa (m:=cs.length) (by omega) cD h2 j u (by simp only[af.size,Ew l cs off (by omega),List.length_append,List.length_take,List.length_drop]at hj;omega) hu
   ·rw[Ew l cs off (by omega)]
    refine⟨by simp[mn];omega,fun j x' y' er mq=>?_⟩
    have qP:n=(a.eval y).cells.toList.length :=by simp[mn]
    rw[uC cs l off (by omega)]at er
    have zZ:(c.toList.take off++(a.eval y).cells.toList ++c.toList.drop (off+(a.eval y).cells.toList.length))[j]? =some y':=by
     rw[←qP];simpa using mq
    rw[uC _ _ off (by simp[mn];omega)]at zZ
    simp only[Array.length_toList,mn,NN]at er zZ
    have jr:¬(off≤j∧j<off+n)→cs[j]? =some x'→c[j]? =some y'→aR w' g.St w0.heap.size (wc w0.heap.size w' g bn j) x' y':=fun hj h4 h5=>
     (bG j x' y' h4 h5).mono hX.st hX.bs _ (fun b' a' c' ho=>hX.own _ b' a' c' (by rintro⟨j',h6,h7⟩;cases h6;exact hj h7) ho)
    split at er
    ·rename_i hj
     simp only[hj,↓reduceIte,Array.getElem?_toList]at zZ
     exact jr (by omega) er zZ
    ·rename_i hj
     simp only[hj,↓reduceIte]at zZ
     split at er
     ·rename_i sN
      simp only[sN,↓reduceIte,Array.getElem?_toList]at zZ
      exact(h3 (j-off) x' y' er zZ).mono hX.st hX.bs _ (fun _ _ _ h=>h.elim)
     ·rename_i sN
      simp only[sN,↓reduceIte,Array.getElem?_toList]at zZ
      exact jr (by omega) er zZ
  ·exact h.elim
  ·rename_i Jo DI
   split at h
   ·exact V8 hI ho hd hn hv dX hc (by simp at hlen;omega) rfl rfl rfl (fun z hz=>Jo z hz) (fun z hz=>DI z hz) h
   ·exact h.elim
 ·
  rename_i s0 mr
  obtain⟨h0,c,ty,hc,cD,hlen,bG⟩:=hI.boxes bn _ ao mr dX
  split at h
  ·split at h
   ·rename_i z hz
    obtain⟨l,hl,NN,hk⟩:=aQ h
    have hy:=hI.pX hz
    obtain⟨h1,h2,h3⟩:=hy.kz.cells hl
    have mn:(a.eval y).cells.size =1:=by rw[←h1,NN]
    have Ca:∀{j:Nat},j<l.length→(c.toList.take 0++(a.eval y).cells.toList ++c.toList.drop (0+1)).toArray[j]? =(a.eval y).cells[j]? :=by
     intro j hj
     have:j=0:=by omega
     subst this
     simp[List.getElem?_append,mn]
    refine Pj hI ho hd (n:=1) (fR:=.cells l) hv dX hc (c.toList.take 0++(a.eval y).cells.toList ++c.toList.drop (0+1)).toArray (by simp[mn];omega) (fun j u hj hu=>?_) ?_ (fun w' hX=>⟨by simp;omega,fun j c' u jd hu=>?_⟩) hk
    ·rw[Ca hj]at hu
     exact h2 u (Array.mem_of_getElem? hu)
    ·rw[GX hn hc mn h2 (by omega)]
    ·rw[Ca (List.getElem?_eq_some_iff.1 jd).1]at hu
     exact(h3 j c' u jd hu).mono hX.st hX.bs _ (fun _ _ _ h=>h.elim)
   ·exact h.elim
   ·rename_i Jo DI
    exact V8 hI ho hd hn hv dX hc hlen rfl rfl rfl (fun z hz=>Jo z hz) (fun z hz=>DI z hz) h
  ·exact h.elim
 ·exact h.elim
theorem uA{x:SV}{n j:Nat}(h:da x n=some j):∃k i,x=.d (.int k i)∧0≤i∧i<n∧j=i.toNat:=by
 unfold da at h
 split at h
 ·rename_i k i
  split at h
  ·rename_i hc;cases h;exact⟨k,i,rfl,hc.1,hc.2,rfl⟩
  ·cases h
 ·cases h
theorem aR.int{St:Nat→Nat→Prop}{base:Nat}{O:Nat→Nat→Nat→Prop}{k:IntKind}{n:Int}{v:Value}(h:aR w St base O (.d (.int k n)) v):v=.int k n:=h.data.vP.1
theorem WE{x y:SV}{n:Nat}(h:bR x n=some y){St:Nat→Nat→Prop}{base:Nat}{O O':Nat→Nat→Nat→Prop}{v:Value}(r:aR w St base O x v):
  ∃ad:Addr,v=.pointer (some ad)∧ad.spot=none∧aR w St base O' y (.pointer (some ⟨ad.block,ad.off+n,none⟩)):=by
 unfold bR at h
 split at h
 ·cases h
  cases r with
  |aX _ x off b o vs h0 h1 h2=>exact⟨_,rfl,rfl,by rw[Nat.add_assoc];exact .aX _ _ _ b o vs h0 h1 h2⟩
 ·cases h
  cases r with
  |ref _ cs off b o vs h0 h1 h2=>exact⟨_,rfl,rfl,by rw[Nat.add_assoc];exact .ref _ _ _ b o vs h0 h1 h2⟩
 ·cases h
theorem WG{t:TypeId}{i:Nat}{fd:Field}(h:EG P t i=some fd):∃fs,P.underlying t=some (.struct fs)∧fs[i]? =some fd:=by
 unfold EG at h
 split at h
 ·rename_i fs hu;exact⟨fs,hu,by simpa using h⟩
 ·cases h
theorem ado{fd:Field}{sz:Nat}(hs:eF P fd.type=some sz)(h0:sz≠0)(ad:Addr):(fieldPlace ad fd).run P w=.ok (ad.add fd.offset) w:=by
 simp[fieldPlace,kP hs,h0]
theorem adp(hI:Inv gl w0 au e a w g){o:Oper}{t:TypeId}{x:Operand}{f:Nat}(ho:o.op=.fieldAddr t x f){k:Slot→List af→Prop}
  (h:ab (EG P t f) fun fd=>ab (eF P fd.type) fun sz=>bif Nat.beq sz 0 then False else(match(Ab.bA gl e x).aa with
  | .p b off=>k (.p b (off+fd.offset)) e.boxes
  | .v y=>ab (bR y fd.offset) fun z=>k (.v z) e.boxes
  |_=>False)):bP P gl w0 au e.ak o a w k:=by
 obtain⟨fd,Cb,h⟩:=aQ h
 obtain⟨sz,aN,h⟩:=aQ h
 obtain⟨fs,hu,Jp⟩:=WG Cb
 cases hz:Nat.beq sz 0 with
 |true=>rw[hz]at h;exact h.elim
 |false=>
  rw[hz]at h
  simp only[cond_false]at h
  have h0:sz≠0:=fun h=>by rw[h]at hz;cases hz
  have bC:∀ad,a.eval x=.pointer (some ad)→(execOp a.eval o).run P w=.ok (.value (.pointer (some (ad.add fd.offset)))) w:=by
   intro ad hv
   simp[execOp,ho,Instr.fieldAt,run_underlying hu,Jp,Instr.sureAddr,hv,ado aN h0]
  split at h
  ·rename_i b off hs
   obtain⟨ao,hv,dX⟩:=(hI.pX hs).pN
   refine bP.value hI (bC _ hv) ?_ h
   rw[qq]
   exact .p _ _ _ _ dX
  ·rename_i y hs
   obtain⟨z,hz,hk⟩:=aQ h
   obtain⟨ad,hv,ml,hr⟩:=WE (O':=fun _ _ _=>False) hz (hI.tW hs)
   refine bP.gD hI (bC _ hv) ?_ hk
   obtain⟨b,o',sp⟩:=ad
   simp only at ml;subst ml
   rw[qq];exact hr
  ·exact h.elim
theorem adQ{P:Program}{w:World}{t:TypeId}{name:String}{f:FuncId}(h:Fl P t name=some f)(fuel:Nat)(v:Value):(nilAhead (fuel+1) t v name).run P w=.ok (some false) w:=by
 unfold Fl at h
 split at h
 ·rename_i i hi
  split at h
  ·rename_i m hm
   split at h
   ·rename_i f' hp hf
    split at h
    ·cases h
    ·rename_i u sO hu
     have oE:(underlying t).run P w=.ok u w:=run_underlying hu w
     have iD:(typeInfo t).run P w=.ok i w:=by simp[typeInfo,go_sem,hi]
     have F6:(followBlind ([]:List FieldStep) t (some v)).run P w=.ok (.ok (t,some v)) w:=by simp[followBlind]
     unfold nilAhead
     simp only[Sem.run_bind,iD,Result.andThen_ok,hm,hp,F6,hf,oE]
     cases u<;>first|exact(sO _ rfl).elim |simp
    ·cases h
   ·cases h
  ·cases h
 ·cases h
theorem adC(hI:Inv gl w0 au e a w g){o:Oper}{x:Operand}(ho:o.op=.nilCheck x){k:Slot→List af→Prop}
  (h:match(Ab.bA gl e x).aa with
  | .v y=>ab (oT y) fun z=>k (.v z) e.boxes
  | .t _=>False
  | .c f first cap=>(match f with
    | .func _=>k (.c f first cap) e.boxes
    | .method name=>(match first with
      | .v y::_=>ab (Sa P y name) fun _=>k (.c f first cap) e.boxes
      |_=>False)
    |_=>False)
  | .p b off=>k (.p b off) e.boxes
  |_=>False):bP P gl w0 au e.ak o a w k:=by
 split at h
 ·rename_i y hs
  obtain⟨z,hz,hk⟩:=aQ h
  have hy:=hI.tW hs
  have hyz:y=z∧∃v,a.eval x=v∧(execOp a.eval o).run P w=.ok (.value v) w:=by
   unfold oT at hz
   generalize hv:a.eval x=u at hy
   split at hz<;>first|(cases hz)|skip
   ·cases hy;exact⟨rfl,_,rfl,by simp[execOp,ho,hv]⟩
   ·cases hy;exact⟨rfl,_,rfl,by simp[execOp,ho,hv]⟩
   ·rename_i f a' b'
    cases f<;>simp only[Option.some.injEq,reduceCtorEq]at hz
    cases hy;exact⟨hz,_,rfl,by simp[execOp,ho,hv]⟩
   ·rename_i f
    cases f<;>simp only[Option.some.injEq,reduceCtorEq]at hz
    cases hy with
    |d _ _ _ hd=>cases hd;exact⟨hz,_,rfl,by simp[execOp,ho,hv]⟩
  obtain⟨rfl,v,hv,hr⟩:=hyz
  rw[hv]at hy
  exact bP.gD hI hr hy hk
 ·exact h.elim
 ·rename_i f first cap hs
  have hy:=hI.pX hs
  split at h
  ·generalize hv:a.eval x=u at hy
   have mq:=hy
   cases hy
   exact bP.value hI (by simp[execOp,ho,hv]) mq h
  ·rename_i name
   split at h
   ·rename_i y rest
    obtain⟨f',nQ,h⟩:=aQ h
    unfold Sa at nQ
    split at nQ
    ·rename_i t y0 Cc
     generalize hv:a.eval x=u at hy
     have mq:=hy
     cases hy with
     |c _ _ _ _ fv cv qa pn rf rc=>
      have aN:0<fv.size:=by rw[←qa];simp
      have h0:=rf 0 _ (fv[0]) rfl (by simp[aN])
      cases h0 with
      |v _ _ _ h0=>
       have hd:=h0.data
       generalize he:fv[0]=u0 at hd
       cases hd with
       |iface _ _ v0 _=>
        have Aw:fv[0]? =some (.iface t v0):=by rw[Array.getElem?_eq_getElem aN,he]
        refine bP.value hI ?_ mq h
        simp only[execOp,ho,hv,Aw]
        have T0:=adQ (P:=P) (w:=w) nQ (P.types.size+99) v0
        simp only[Sem.run_bind,run_program,Result.andThen_ok,Made.depth]
        rw[T0]
        simp
    ·cases nQ
   ·exact h.elim
  ·exact h.elim
 ·rename_i b off hs
  have hy:=hI.pX hs
  obtain⟨ao,hv,dX⟩:=hy.pN
  exact bP.value hI (by simp[execOp,ho,hv]) (.p _ _ _ _ dX) h
 ·exact h.elim
theorem ae2(hI:Inv gl w0 au e a w g){o:Oper}{t:TypeId}{x:Operand}(ho:o.op=.makeInterface t x){k:Slot→List af→Prop}
  (h:bif isIface P t then False else ab (RC t ((Ab.bA gl e x).aa).cC) fun r=>k (.v r) e.boxes):bP P gl w0 au e.ak o a w k:=by
 cases hi:isIface P t with
 |true=>rw[hi]at h;exact h.elim
 |false=>
  rw[hi]at h
  simp only[cond_false]at h
  obtain⟨r,hr,hk⟩:=aQ h
  have hx:=hI.j5 x
  generalize ((Ab.bA gl e x).aa).cC =sx at hr hx
  unfold RC at hr
  split at hr
  ·rename_i y hy
   cases hr
   refine bP.gD hI (v:=.iface t (a.eval x)) ?_ (.d _ _ _ (.iface _ _ _ (hx.cB hy))) hk
   unfold isIface at hi
   split at hi
   ·cases hi
   ·cases hi
   ·rename_i h1 h2
    obtain⟨d,hd⟩:=Option.ne_none_iff_exists'.1 (fun hn=>h2 hn)
    simp only[execOp,ho,Instr.makeInterface,Sem.run_bind,run_underlying hd,Result.andThen_ok]
    cases d<;>first|rfl|exact absurd hd (h1 _)
  ·cases hr
theorem adD(hI:Inv gl w0 au e a w g){o:Oper}{fn:Fn}{first cap:Array Operand}(ho:o.op=.makeFunc fn first cap){k:Slot→List af→Prop}
  (h:k (.c fn (first.toList.map fun x=>((Ab.bA gl e x).aa).aa) (cap.toList.map fun x=>((Ab.bA gl e x).aa).aa)) e.boxes):bP P gl w0 au e.ak o a w k:=by
 refine bP.value hI (v:=.func fn (first.map a.eval) (cap.map a.eval)) (by simp[execOp,ho,Instr.makeFunc]) (.c _ _ _ _ _ _ (by simp) (by simp) ?_ ?_) h
 ·intro i x v hx hv
  simp only[List.getElem?_map,Option.map_eq_some_iff,Array.getElem?_map]at hx hv
  obtain⟨y,hy,rfl⟩:=hx
  obtain⟨z,hz,rfl⟩:=hv
  rw[Array.getElem?_toList]at hy
  rw[hy]at hz;cases hz
  exact(hI.bA y).aa
 ·intro i x v hx hv
  simp only[List.getElem?_map,Option.map_eq_some_iff,Array.getElem?_map]at hx hv
  obtain⟨y,hy,rfl⟩:=hx
  obtain⟨z,hz,rfl⟩:=hv
  rw[Array.getElem?_toList]at hy
  rw[hy]at hz;cases hz
  exact(hI.bA y).aa
theorem adR(hI:Inv gl w0 au e a w g){o:Oper}{x:Operand}{i:Nat}(ho:o.op=.extract x i){k:Slot→List af→Prop}
  (h:match(Ab.bA gl e x).aa with
  | .t vs=>(match vs[i]? with|some r=>k (.v r) e.boxes|none=>False)
  |_=>False):bP P gl w0 au e.ak o a w k:=by
 split at h
 ·rename_i vs hs
  split at h
  ·rename_i r hr
   obtain⟨tv,hv,hl,hc⟩:=(hI.pX hs).Sf
   have hi:i<tv.size:=by rw[←hl];exact(List.getElem?_eq_some_iff.1 hr).1
   exact bP.gD hI (v:=tv[i]) (by simp[execOp,ho,Instr.extract,hv,hi]) (hc i r _ hr (by simp)) h
  ·exact h.elim
 ·exact h.elim
theorem ae3(hI:Inv gl w0 au e a w g){o:Oper}{t:TypeId}{x:Operand}{f:Nat}(ho:o.op=.field t x f){k:Slot→List af→Prop}
  (h:ab (EG P t f) fun fd=>ab (lR P fd.type) fun ly=>ab (zw ly.1 ly.2 fd.offset ((Ab.bA gl e x).aa).cC) fun r=>k (.v r) e.boxes):bP P gl w0 au e.ak o a w k:=by
 obtain⟨fd,Cb,h⟩:=aQ h
 obtain⟨⟨b,n⟩,hl,h⟩:=aQ h
 obtain⟨r,hr,hk⟩:=aQ h
 obtain⟨fs,hu,Jp⟩:=WG Cb
 have hx:=hI.j5 x
 generalize ((Ab.bA gl e x).aa).cC =sx at hr hx
 unfold zw at hr
 split at hr
 ·rename_i cs
  split at hr
  ·rename_i z hz
   cases hr
   obtain⟨vs,hv,bG,hf⟩:=hx.data.zn
   obtain⟨hb,hn,h1⟩:=Hx hl
   have hle:fd.offset+n≤cs.length:=by
    unfold tI at hz
    cases b
    ·simp only[cond_false]at hz;have:=(List.getElem?_eq_some_iff.1 hz).1;rw[h1 rfl];omega
    ·simp only[cond_true]at hz;split at hz<;>first|assumption|cases hz
   obtain⟨v,hp,Ax⟩:=bG.valOf (P:=P) (off:=fd.offset) hb hn h1 hle
   refine bP.gD hI (v:=v) (by simp[execOp,ho,Instr.field,run_underlying hu,Jp,hv,asAgg,hp]) (.d _ _ _ ?_) hk
   unfold tI at hz
   cases b
   ·simp only[cond_false]at hz
    simp only[j6,Bool.false_eq_true,if_false]at Ax
    obtain⟨x',er,Ay⟩:=Ax
    have aP:=(List.getElem?_eq_some_iff.1 hz).1
    rw[h1 rfl,List.drop_eq_getElem_cons aP,List.take_succ_cons,List.take_zero]at er
    rw[List.getElem?_eq_getElem aP]at hz
    cases hz
    simp only[List.cons.injEq,and_true]at er
    rw[er];exact Ay
   ·simp only[cond_true,hle,↓reduceIte,Option.some.injEq]at hz
    subst hz
    simp only[j6,if_true]at Ax
    obtain⟨gj,rfl,Ay⟩:=Ax
    exact Ay.agg (fun d hd=>hf d (List.mem_of_mem_drop (List.mem_of_mem_take hd)))
  ·cases hr
 ·cases hr
theorem ae4(hI:Inv gl w0 au e a w g){o:Oper}{t:TypeId}{x i:Operand}(ho:o.op=.index t x i){k:Slot→List af→Prop}
  (h:match P.underlying t with
  |some (.array n e')=>ab (lR P e') fun ly=>ab (RB ly.1 ly.2 n ((Ab.bA gl e x).aa).cC ((Ab.bA gl e i).aa).cC) fun r=>k (.v r) e.boxes
  |some .string =>ab (Sb ((Ab.bA gl e x).aa).cC ((Ab.bA gl e i).aa).cC) fun r=>k (.v r) e.boxes
  |_=>False):bP P gl w0 au e.ak o a w k:=by
 have hx:=hI.j5 x
 have hi:=hI.j5 i
 generalize ((Ab.bA gl e x).aa).cC =sx at h hx
 generalize ((Ab.bA gl e i).aa).cC =si at h hi
 split at h
 ·rename_i n e' hu
  obtain⟨⟨b,m⟩,hl,h'⟩:=aQ h
  clear h
  obtain⟨r,hr,hk⟩:=aQ h'
  clear h'
  unfold RB at hr
  split at hr
  ·rename_i cs
   split at hr
   ·rename_i j hj
    split at hr
    ·rename_i z hz
     cases hr
     obtain⟨kk,ii,rfl,h1,h2,rfl⟩:=uA hj
     have wD:=hi.int
     obtain⟨vs,hv,bG,hf⟩:=hx.data.zn
     obtain⟨hb,hn,cD⟩:=Hx hl
     have hle:ii.toNat*m+m≤cs.length:=by
      unfold tI at hz
      cases b
      ·simp only[cond_false]at hz;have:=(List.getElem?_eq_some_iff.1 hz).1;rw[cD rfl]at*;omega
      ·simp only[cond_true]at hz;split at hz<;>first|assumption|cases hz
     obtain⟨v,hp,Ax⟩:=bG.valOf (P:=P) (off:=ii.toNat*m) hb hn cD hle
     refine bP.gD hI (v:=v) ?_ (.d _ _ _ ?_) hk
     ·simp[execOp,ho,Instr.index,wD,asIntOf,run_underlying hu,hv,h1,h2,kP hn,hp]
     ·unfold tI at hz
      cases b
      ·simp only[cond_false]at hz
       simp only[j6,Bool.false_eq_true,if_false]at Ax
       obtain⟨x',er,Ay⟩:=Ax
       have aP:=(List.getElem?_eq_some_iff.1 hz).1
       rw[cD rfl]at er hz aP
       rw[List.drop_eq_getElem_cons aP,List.take_succ_cons,List.take_zero]at er
       rw[List.getElem?_eq_getElem aP]at hz
       cases hz
       simp only[List.cons.injEq,and_true]at er
       rw[er];exact Ay
      ·simp only[cond_true,hle,↓reduceIte,Option.some.injEq]at hz
       subst hz
       simp only[j6,if_true]at Ax
       obtain⟨gj,rfl,Ay⟩:=Ax
       exact Ay.agg (fun d hd=>hf d (List.mem_of_mem_drop (List.mem_of_mem_take hd)))
    ·cases hr
   ·cases hr
  ·cases hr
 ·rename_i hu
  obtain⟨r,hr,hk⟩:=aQ h
  unfold Sb at hr
  split at hr
  ·rename_i s
   split at hr
   ·rename_i j hj
    split at hr
    ·rename_i c hc
     cases hr
     obtain⟨kk,ii,rfl,h1,h2,rfl⟩:=uA hj
     have wD:=hi.int
     obtain⟨bs,hv,hs,_⟩:=hx.data.zm
     have aP:ii.toNat<bs.size:=by
      rw[hs]at h2
      simp only[Array.length_toList]at h2
      have:bs.size=bs.data.size:=rfl
      omega
     have hg:bs[ii.toNat]? =some c:=by
      rw[hs]at hc
      rw[getElem?_pos bs ii.toNat aP]
      have:bs.data.toList[ii.toNat]? =some bs[ii.toNat]:=by
       rw[Array.getElem?_toList,Array.getElem?_eq_getElem aP]
       rfl
      rw[this]at hc
      exact hc
     refine bP.gD hI (v:=.int .u8 c.toNat) ?_ (.d _ _ _ (.int _ _ ?_)) hk
     ·simp[execOp,ho,Instr.index,wD,asIntOf,run_underlying hu,hv,h1,hg]
     ·have:=c.toNat_lt
      simp[iP,IntKind.min,IntKind.max,IntKind.signed,IntKind.bits]
      omega
    ·cases hr
   ·cases hr
  ·cases hr
 ·exact h.elim
theorem WH{sz:Nat}{x:SV}{L:List D}(h:elems sz x=some L){St:Nat→Nat→Prop}{base:Nat}{O:Nat→Nat→Nat→Prop}{v:Value}(r:aR w St base O x v):
  ((v=.slice none 0 0∨∃ad c,v=.slice (some ad) 0 c)∧L=[])∨∃(b off cap:Nat) (vs:Nat→Value),v=.slice (some ⟨b,off,none⟩) L.length cap∧L.length≤cap∧L.length≤maxLen∧(∀x∈L,x.cells.length=sz)∧(∀x∈L,∀c∈x.cells,c.one=true)∧
    (∀(o:Nat),o<L.length*sz→w.cell? ⟨b,off+o,none⟩=some (vs o)∧St b (off+o))∧
    (∀(i:Nat)x(j:Nat)c,L[i]? =some x→x.cells[j]? =some c→bp w St c (vs (i*sz+j))):=by
 have go:∀{s L' v},bp w St (.sl .ro s L') v→((v=.slice none 0 0∨∃ad c,v=.slice (some ad) 0 c)∧L'=[])∨∃(b off cap:Nat) (vs:Nat→Value),v=.slice (some ⟨b,off,none⟩) L'.length cap∧L'.length≤cap∧L'.length≤maxLen∧(∀x∈L',x.cells.length=s)∧(∀x∈L',∀c∈x.cells,c.one=true)∧
   (∀(o:Nat),o<L'.length*s→w.cell? ⟨b,off+o,none⟩=some (vs o)∧St b (off+o))∧
   (∀(i:Nat)x(j:Nat)c,L'[i]? =some x→x.cells[j]? =some c→bp w St c (vs (i*s+j))):=by
  intro s L' v hd
  cases hd with
  |sl _ _ b off cap vs cd hm aN hf aW hc=>exact .inr ⟨b,off,cap,vs,rfl,cd,hm,aN,hf,aW,hc⟩
  |mY _ ad c _=>exact .inl ⟨.inr ⟨ad,c,rfl⟩,rfl⟩
 unfold elems at h
 split at h
 ·rename_i k s L'
  split at h
  ·cases h
   have hd:=r.data
   cases hd
   exact .inl ⟨.inl rfl,rfl⟩
  ·split at h
   ·rename_i hs;cases h;subst hs;exact go r.data
   ·cases h
 ·split at h
  ·rename_i hs;cases h;subst hs
   cases r with
   |own _ _ _ gg cap hd cd ho=>exact go hd
  ·cases h
 ·split at h
  ·rename_i hs;cases h;subst hs
   cases r with
   |full _ _ _ ad hd=>exact go hd
  ·cases h
 ·cases h
theorem adq(hI:Inv gl w0 au e a w g){o:Oper}{t:TypeId}{x i:Operand}(ho:o.op=.indexAddr t x i){k:Slot→List af→Prop}
  (h:match P.underlying t with
  |some (.slice e')=>ab (eF P e') fun sz=>ab (aJ sz ((Ab.bA gl e x).aa).cC ((Ab.bA gl e i).aa).cC) fun r=>k (.v r) e.boxes
  |some (.array n e')=>ab (eF P e') fun sz=>ab (da ((Ab.bA gl e i).aa).cC n) fun j=>(match(Ab.bA gl e x).aa with
   | .p b off=>k (.p b (off+j*sz)) e.boxes
   | .v y=>ab (bR y (j*sz)) fun z=>k (.v z) e.boxes
   |_=>False)
  |_=>False):bP P gl w0 au e.ak o a w k:=by
 have hi:=hI.j5 i
 generalize ((Ab.bA gl e i).aa).cC =si at h hi
 split at h
 ·rename_i e' hu
  obtain⟨sz,aN,h⟩:=aQ h
  obtain⟨r,hr,hk⟩:=aQ h
  have hx:=hI.j5 x
  generalize ((Ab.bA gl e x).aa).cC =sx at hr hx
  unfold aJ at hr
  split at hr
  ·rename_i n s cs
   split at hr
   ·rename_i j hj
    split at hr
    ·rename_i sP
     cases hr
     subst sP
     obtain⟨kk,ii,rfl,h1,h2,rfl⟩:=uA hj
     have wD:=hi.int
     generalize hv:a.eval x=u at hx
     cases hx with
     |dg _ _ _ _ b cap vs eV hn hm aW hc=>
      refine bP.gD hI (v:=.pointer (some ⟨b,0+ii.toNat*s,none⟩)) ?_ (.ref _ cs (ii.toNat*s) b 0 vs eV aW hc) hk
      have:=qq b 0 (ii.toNat*s)
      simp[execOp,ho,Instr.indexAt,wD,asIntOf,run_underlying hu,hv,h1,h2,kP aN,this]
    ·cases hr
   ·cases hr
  split at hr
  ·rename_i L hL
   split at hr
   ·rename_i j hj
    split at hr
    ·rename_i y hy
     cases hr
     obtain⟨kk,ii,rfl,h1,h2,rfl⟩:=uA hj
     have wD:=hi.int
     rcases WH hL hx with⟨_,rfl⟩|⟨b,off,cap,vs,hv,cd,hm,hs,hf,aW,hc⟩
     ·simp at h2;omega
     ·have aP:ii.toNat<L.length:=(List.getElem?_eq_some_iff.1 hy).1
      have eM:y∈L:=List.mem_of_getElem? hy
      refine bP.gD hI (v:=.pointer (some ⟨b,off+ii.toNat*sz,none⟩)) ?_ ?_ hk
      ·have:=qq b off (ii.toNat*sz)
       simp[execOp,ho,Instr.indexAt,wD,asIntOf,run_underlying hu,hv,h1,h2,kP aN,this]
      ·refine .aX _ y 0 b (off+ii.toNat*sz) (fun j=>vs (ii.toNat*sz+j)) (hf y eM) (fun j po=>?_) (fun j c jd=>hc _ y j c hy jd)
       have:ii.toNat*sz+j<L.length*sz:=by
        rw[hs y eM]at po
        have:(ii.toNat+1)*sz≤L.length*sz:=Nat.mul_le_mul_right _ aP
        rw[Nat.succ_mul]at this;omega
       rw[Nat.add_assoc]
       exact aW _ this
    ·cases hr
   ·cases hr
  ·cases hr
 ·rename_i n e' hu
  obtain⟨sz,aN,h⟩:=aQ h
  obtain⟨j,hj,h⟩:=aQ h
  obtain⟨kk,ii,rfl,h1,h2,rfl⟩:=uA hj
  have wD:=hi.int
  have bC:∀ad,a.eval x=.pointer (some ad)→(execOp a.eval o).run P w=.ok (.value (.pointer (some (ad.add (ii.toNat*sz))))) w:=by
   intro ad hv
   simp[execOp,ho,Instr.indexAt,wD,asIntOf,run_underlying hu,Instr.sureAddr,hv,h1,h2,kP aN]
  split at h
  ·rename_i b off hs
   obtain⟨ao,hv,dX⟩:=(hI.pX hs).pN
   refine bP.value hI (bC _ hv) ?_ h
   rw[qq]
   exact .p _ _ _ _ dX
  ·rename_i y hs
   obtain⟨z,hz,hk⟩:=aQ h
   obtain⟨ad,hv,ml,hr⟩:=WE (O':=fun _ _ _=>False) hz (hI.tW hs)
   refine bP.gD hI (bC _ hv) ?_ hk
   obtain⟨b,o',sp⟩:=ad
   simp only at ml;subst ml
   rw[qq];exact hr
  ·exact h.elim
 ·exact h.elim
inductive E8(w:World)(St:Nat→Nat→Prop)(base:Nat):Option SV→Option Value→Prop
 |none:E8 w St base none none
 |some (s:SV) (v:Value) (h:aR w St base (fun _ _ _=>False) s v):E8 w St base (some s) (some v)
theorem Inv.opt(hI:Inv gl w0 au e a w g)(x:Option Operand):E8 w g.St w0.heap.size (Ab.tP (fun x=>(Ab.bA gl e x).aa) x) (x.map a.eval):=by
 cases x with
 |none=>exact .none
 |some y=>exact .some _ _ (hI.j5 y)
theorem Em{n m:Nat}(c:BoundsCode){x:SV}{j:Nat}(h:da x (n+1)=some j)(hm:n≤m){St:Nat→Nat→Prop}{base:Nat}{O:Nat→Nat→Nat→Prop}{v:Value}(r:aR w St base O x v):
  (Instr.sliceBound v m c).run P w=.ok j w∧j≤n:=by
 obtain⟨kk,ii,rfl,h1,h2,rfl⟩:=uA h
 have hv:=r.int
 refine⟨?_,by omega⟩
 have:0≤ii∧ii≤(m:Int):=⟨h1,by omega⟩
 simp[Instr.sliceBound,hv,asIntOf,this]
theorem KT{n cap:Nat}(isS:Bool)(hc:n≤cap){lo hi:Option SV}{Jq Jr:Option Value}{St:Nat→Nat→Prop}{base:Nat}(tZ:E8 w St base lo Jq)(wE:E8 w St base hi Jr)
  {hh ll:Nat}(h1:Dg n hi=some hh)(h2:zR hh lo=some ll):
  (Instr.sliceBounds isS n cap Jq Jr none).run P w=.ok (ll,hh,cap) w∧hh≤n∧ll≤hh:=by
 unfold Instr.sliceBounds
 cases wE with
 |none=>
  simp only[Dg,Option.some.injEq]at h1
  subst h1
  cases tZ with
  |none=>simp only[zR,Option.some.injEq]at h2;subst h2;exact⟨by simp,Nat.le_refl _,Nat.zero_le _⟩
  |some s v r=>
   obtain⟨q1,q2⟩:=Em (P:=P) (w:=w) .sliceB h2 (Nat.le_refl _) r
   exact⟨by simp[q1],Nat.le_refl _,q2⟩
 |some s v r=>
  obtain⟨p1,p2⟩:=Em (P:=P) (w:=w) (if isS then .sliceAcap else .sliceAlen) h1 hc r
  cases tZ with
  |none=>simp only[zR,Option.some.injEq]at h2;subst h2;exact⟨by simp[p1],p2,Nat.zero_le _⟩
  |some s v r=>
   obtain⟨q1,q2⟩:=Em (P:=P) (w:=w) .sliceB h2 (Nat.le_refl _) r
   exact⟨by simp[p1,q1],p2,q2⟩
theorem PD{n cap:Nat}(hc:n≤cap){lo:Option SV}{hi mx:SV}{Jq:Option Value}{Jr vmx:Value}{St:Nat→Nat→Prop}{base:Nat}(tZ:E8 w St base lo Jq)
  (wE:aR w St base (fun _ _ _=>False) hi Jr)(Az:aR w St base (fun _ _ _=>False) mx vmx)
  {hh mm ll:Nat}(h0:da mx (n+1)=some mm)(h1:da hi (n+1)=some hh)(he:hh=mm)(h2:zR hh lo=some ll):
  (Instr.sliceBounds true n cap Jq (some Jr) (some vmx)).run P w=.ok (ll,hh,hh) w∧hh≤n∧ll≤hh:=by
 unfold Instr.sliceBounds
 subst he
 obtain⟨o1,o2⟩:=Em (P:=P) (w:=w) .slice3Acap h0 hc Az
 have wF:da hi (hh+1)=some hh:=by
  obtain⟨kk,ii,rfl,a1,a2,a3⟩:=uA h1
  simp only[da]
  rw[if_pos (by omega),←a3]
 obtain⟨p1,_⟩:=Em (P:=P) (w:=w) .slice3B wF (Nat.le_refl _) wE
 cases tZ with
 |none=>simp only[zR,Option.some.injEq]at h2;subst h2;exact⟨by simp[o1,p1],o2,Nat.zero_le _⟩
 |some s v r=>
  obtain⟨q1,q2⟩:=Em (P:=P) (w:=w) .slice3C h2 (Nat.le_refl _) r
  exact⟨by simp[o1,p1,q1],o2,q2⟩
theorem Xb{L:List D}{lo hi:Option SV}{r:List D}(h:Ig L lo hi=some r):∃hh ll,Dg L.length hi=some hh∧
  zR hh lo=some ll∧r=(L.take hh).drop ll:=by
 unfold Ig at h
 split at h
 ·rename_i hh h1
  split at h
  ·rename_i ll h2
   cases h
   exact⟨hh,ll,h1,h2,rfl⟩
  ·cases h
 ·cases h
theorem ZL{St:Nat→Nat→Prop}{sz:Nat}{L:List D}{b off cap hh ll c':Nat}(h:bp w St (.sl .ro sz L) (.slice (some ⟨b,off,none⟩) L.length cap))(hh':hh≤L.length)(hl:ll≤hh)(hc:hh-ll≤c'):
  bp w St (.sl .ro sz ((L.take hh).drop ll)) (.slice (some ⟨b,off+ll*sz,none⟩) (hh-ll) c'):=by
 cases h with
 |mY _ _ _ ha=>exact absurd rfl ha
 |sl _ _ _ _ _ vs cd hm aN hf aW hc=>
  have hlen:((L.take hh).drop ll).length =hh-ll:=by simp;omega
  have:=bp.sl (w:=w) (St:=St) sz ((L.take hh).drop ll) b (off+ll*sz) c' (fun o=>vs (ll*sz+o)) (by omega) (by omega)
   (fun x hx=>aN x (List.mem_of_mem_take (List.mem_of_mem_drop hx))) (fun x hx=>hf x (List.mem_of_mem_take (List.mem_of_mem_drop hx)))
   (fun o ho=>by
     rw[hlen]at ho
     rw[Nat.add_assoc]
     refine aW (ll*sz+o) ?_
     have:ll*sz+(hh-ll)*sz=hh*sz:=by rw[←Nat.add_mul];congr 1;omega
     have:hh*sz≤L.length*sz:=Nat.mul_le_mul_right _ hh'
     omega)
   (fun i x j c hx jd=>by
     rw[List.getElem?_drop,List.getElem?_take]at hx
     split at hx
     ·have:=hc (ll+i) x j c hx jd
      rw[Nat.add_mul,Nat.add_assoc]at this
      exact this
     ·cases hx)
  rw[hlen]at this
  exact this
theorem ae5(hI:Inv gl w0 au e a w g){o:Oper}{t:TypeId}{x:Operand}{lo hi mx:Option Operand}(ho:o.op=.slice t x lo hi mx){k:Slot→List af→Prop}
  (h:ab (RA P t (Ab.aa ((Ab.bA gl e x).aa).cC) (Ab.tP (fun x=>(Ab.bA gl e x).aa) lo) (Ab.tP (fun x=>(Ab.bA gl e x).aa) hi) (Ab.tP (fun x=>(Ab.bA gl e x).aa) mx)) fun r=>k (.v r) e.boxes):
  bP P gl w0 au e.ak o a w k:=by
 obtain⟨r,hr,hk⟩:=aQ h
 clear h
 have hx:=(hI.j5 x).aa (O':=fun _ _ _=>False)
 have tZ:=hI.opt lo
 have wE:=hI.opt hi
 have Az:=hI.opt mx
 generalize Ab.aa ((Ab.bA gl e x).aa).cC =sx at hr hx
 generalize Ab.tP (fun x=>(Ab.bA gl e x).aa) lo=slo at hr tZ
 generalize Ab.tP (fun x=>(Ab.bA gl e x).aa) hi=shi at hr wE
 generalize Ab.tP (fun x=>(Ab.bA gl e x).aa) mx=smx at hr Az
 unfold RA at hr
 split at hr
 ·
  rename_i hu
  split at hr
  ·rename_i s
   split at hr
   ·rename_i l hl
    cases hr
    obtain⟨bs,hv,hs,nH⟩:=hx.data.zm
    unfold aaE at hl
    split at hl
    ·rename_i hh h1
     split at hl
     ·rename_i ll h2
      cases hl
      have jR:s.length=bs.size:=by rw[hs,Array.length_toList];rfl
      rw[jR]at h1
      have hb:=KT (P:=P) (w:=w) false (Nat.le_refl bs.size) tZ wE h1 h2
      have e2:mx.map a.eval=none:=by generalize mx.map a.eval=q at Az;cases Az;rfl
      refine bP.gD hI (v:=.string (bs.extract ll hh)) ?_ (.d _ _ _ ?_) hk
      ·simp[execOp,ho,Instr.sliceAt,run_underlying hu,Instr.slice,hv,hb.1,e2]
      ·have:(bs.extract ll hh).data.toList =(s.take hh).drop ll:=by
        rw[hs,ByteArray.data_extract,Array.toList_extract,List.extract_eq_drop_take']
       rw[←this]
       refine .str _ ?_
       have:(bs.extract ll hh).size ≤bs.size:=by rw[ByteArray.size_extract];omega
       omega
     ·cases hl
    ·cases hl
   ·cases hr
  ·cases hr
 ·
  rename_i e' hu
  split at hr
  ·rename_i kk sz L s hL hs
   have hd:=hx.cB hL
   split at hr
   ·
    rename_i rr SJ
    obtain⟨hh,ll,h1,h2,rfl⟩:=Xb SJ
    have e2:mx.map a.eval=none:=by generalize mx.map a.eval=q at Az;cases Az;rfl
    split at hr
    ·cases hr
     generalize hv:a.eval x=u at hd
     cases hd
     have hb:=KT (P:=P) (w:=w) true (Nat.le_refl 0) tZ wE h1 h2
     have AA:ll=0:=by have:=hb.2;simp at this;omega
     have Cc:hh=0:=by have:=hb.2;simp at this;omega
     subst AA Cc
     refine bP.gD hI (v:=.slice none 0 0) ?_ (.d _ _ _ (.jk _)) hk
     simp[execOp,ho,Instr.sliceAt,run_underlying hu,Instr.slice,hv,hb.1,e2,kP hs]
    ·split at hr
     ·rename_i aN
      cases hr
      subst aN
      generalize hv:a.eval x=u at hd
      have lb:=hd
      cases hd with
      |mY _ ad cap ha=>
       have hb:=KT (P:=P) (w:=w) true (Nat.zero_le cap) tZ wE h1 h2
       have AA:ll=0:=by have:=hb.2;simp at this;omega
       have Cc:hh=0:=by have:=hb.2;simp at this;omega
       subst AA Cc
       refine bP.gD hI (v:=.slice (some ad) 0 cap) ?_ (.d _ _ _ (.mY _ ad cap ha)) hk
       simp only[execOp,ho,Instr.sliceAt,Sem.run_bind,run_underlying hu,Result.andThen_ok,Instr.slice,hv,e2,hb.1,kP hs]
       by_cases dJ:cap=0
       ·simp[dJ]
       ·simp[dJ]
        rfl
      |sl _ _ b off cap vs cd hm _ hf aW hc=>
       have hb:=KT (P:=P) (w:=w) true cd tZ wE h1 h2
       refine bP.gD hI (v:=.slice (some (if cap=ll then⟨b,off,none⟩else⟨b,off+ll*sz,none⟩)) (hh-ll) (cap-ll)) ?_ (.d _ _ _ ?_) hk
       ·have:=qq b off (ll*sz)
        simp only[execOp,ho,Instr.sliceAt,Sem.run_bind,run_underlying hu,Result.andThen_ok,Instr.slice,hv,e2,hb.1,kP hs]
        by_cases dJ:cap=ll
        ·simp[dJ]
        ·simp[dJ,this]
       ·by_cases dJ:cap=ll
        ·have hhl:hh=ll:=by omega
         have F7:ll=L.length:=by omega
         simp only[dJ,↓reduceIte]
         have e0:(L.take hh).drop ll=[]:=List.drop_eq_nil_of_le (by simp;omega)
         rw[e0]
         have:=bp.sl (w:=w) (St:=g.St) sz [] b off (ll-ll) vs (by simp) (by simp) (by simp) (by simp) (by simp) (by simp)
         simpa[hhl]using this
        ·simp only[dJ,↓reduceIte]
         exact ZL lb hb.2.1 hb.2.2 (by omega)
     ·cases hr
   ·
    rename_i rr m SJ
    obtain⟨hh,ll,h1,h2,rfl⟩:=Xb SJ
    split at hr
    ·rename_i wG mm ld
     split at hr
     ·rename_i k1 av k2 bv
      split at hr
      ·rename_i NO
       simp only[Dg]at h1
       have T3:hh=mm:=by
        obtain⟨_,i1,q1,_,_,q2⟩:=uA h1
        obtain⟨_,i2,q3,_,_,q4⟩:=uA ld
        cases q1;cases q3;rw[q2,q4,NO]
       generalize NP:hi.map a.eval=qh at wE
       generalize NQ:mx.map a.eval=qm at Az
       cases wE with
       |some _ vh rh=>
        cases Az with
        |some _ vm rm=>
         split at hr
         ·cases hr
          generalize hv:a.eval x=u at hd
          cases hd
          have hb:=PD (P:=P) (w:=w) (Nat.le_refl 0) tZ rh rm ld h1 T3 h2
          have AA:ll=0:=by have:=hb.2;simp at this;omega
          have Cc:hh=0:=by have:=hb.2;simp at this;omega
          subst AA Cc
          refine bP.gD hI (v:=.slice none 0 0) ?_ (.d _ _ _ (.jk _)) hk
          simp[execOp,ho,Instr.sliceAt,run_underlying hu,Instr.slice,hv,hb.1,NP,NQ,kP hs]
         ·split at hr
          ·rename_i aN
           cases hr
           subst aN
           generalize hv:a.eval x=u at hd
           have lb:=hd
           cases hd with
           |mY _ ad cap ha=>
            have hb:=PD (P:=P) (w:=w) (Nat.zero_le cap) tZ rh rm ld h1 T3 h2
            have AA:ll=0:=by have:=hb.2;simp at this;omega
            have Cc:hh=0:=by have:=hb.2;simp at this;omega
            subst AA Cc
            refine bP.gD hI (v:=.slice (some ad) 0 0) ?_ ?_ hk
            ·simp[execOp,ho,Instr.sliceAt,run_underlying hu,Instr.slice,hv,hb.1,NP,NQ,kP hs]
            ·exact .full _ sz [] ad (.mY sz ad 0 ha)
           |sl _ _ b off cap vs cd hm _ hf aW hc=>
            have hb:=PD (P:=P) (w:=w) cd tZ rh rm ld h1 T3 h2
            have hlen:((L.take hh).drop ll).length =hh-ll:=by simp;omega
            by_cases dJ:hh=ll
            ·subst dJ
             have e0:(L.take hh).drop hh=[]:=List.drop_eq_nil_of_le (by simp;omega)
             rw[e0]at hk
             refine bP.gD hI (v:=.slice (some ⟨b,off,none⟩) 0 0) ?_ ?_ hk
             ·simp[execOp,ho,Instr.sliceAt,run_underlying hu,Instr.slice,hv,hb.1,NP,NQ,kP hs]
             ·exact .full _ sz [] ⟨b,off,none⟩ (bp.sl sz [] b off 0 vs (by simp) (by simp) (by simp) (by simp) (by simp) (by simp))
            ·refine bP.gD hI (v:=.slice (some ⟨b,off+ll*sz,none⟩) (hh-ll) (hh-ll)) ?_ ?_ hk
             ·have:=qq b off (ll*sz)
              simp[execOp,ho,Instr.sliceAt,run_underlying hu,Instr.slice,hv,hb.1,NP,NQ,kP hs,dJ,this]
             ·have:=ZL (c':=hh-ll) lb hb.2.1 hb.2.2 (Nat.le_refl _)
              rw[←hlen]at this ⊢
              exact .full _ sz _ _ this
          ·cases hr
      ·cases hr
     ·cases hr
    ·cases hr
   ·cases hr
  ·cases hr
 ·cases hr
end
end Go.Proofs.Ytimbllcalipehaa.Ab
