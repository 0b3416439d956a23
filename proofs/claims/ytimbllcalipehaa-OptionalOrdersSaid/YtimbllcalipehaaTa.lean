/-
  THE ABSTRACT WALK, definitions: data trees, slot values, and an abstract weakest precondition over the model's code.
-/
import Derived.Orders
import Derived.Still
import Derived.Below
import Derived.KernelRfl
import Derived.Laws.AppendOwn
import Derived.Laws.Build
import Derived.Laws.Sem
import Derived.WalkKit
import Derived.Laws.StructEq
import Derived.ChangeKeysEq
set_option linter.unusedVariables false
set_option linter.unusedSimpArgs false
namespace Go.Proofs.Ytimbllcalipehaa.Ab
open Go
inductive SK where
 |nil|ro
 deriving DecidableEq
inductive D where
 |bool (b:Bool)
 |int (k:IntKind) (n:Int)
 |str (s:List UInt8)
 |agg (cs:List D)
 |sl (k:SK) (sz:Nat) (L:List D)
 |fn (f:Fn)
 |tp
 |iface (t:TypeId) (x:D)
 |tq
 |nN
def ga(k:IntKind)(n:Int):Bool:=decide (k.min≤n)&&decide (n≤k.max)
def D.cells:D→List D
 | .agg cs=>cs
 |x=>[x]
mutual
def D.Wf:D→Prop
 | .int k n=>ga k n=true
 | .str s=>s.length≤maxLen
 | .agg cs=>D.gb cs
 | .sl k sz L=>L.length≤maxLen∧(k=.nil →L=[])∧(∀x∈L,x.cells.length=sz)∧D.gb L
 | .iface _ x=>x.Wf
 |_=>True
def D.gb:List D→Prop
 |[]=>True
 |x::l=>x.Wf∧D.gb l
end
inductive KS where
 |bool (b:Bool)
 |int (k:IntKind) (n:Int)
 |str (s:List UInt8)
 deriving DecidableEq
inductive MK where
 |i (n:Int)
 |s (l:List KS)
 deriving DecidableEq
inductive SV where
 |d (x:D)
 |own (sz:Nat) (L:List D)
 |full (sz:Nat) (L:List D)
 |bt (sz:Nat) (L:List D)
 |ref (cs:List SV) (off:Nat)
 |cG (n sz:Nat) (cs:List SV)
 |aT (x:D) (off:Nat)
 |di (f:Fn) (first cap:List SV)
 |aH (vs:List SV)
 |mp (l:List (MK×D))
 |undef
def aa:SV→SV
 | .own sz L=>.d (.sl .ro sz L)
 | .bt _ _=>.undef
 |x=>x
inductive Slot where
 |v (x:SV)
 |p (b off:Nat)
 |c (f:Fn) (first cap:List Slot)
 |t (vs:List SV)
 |a (b n sz:Nat)
 |m (b:Nat)
def Slot.aa:Slot→Slot
 | .v x=>.v (Ab.aa x)
 | .t vs=>.t (vs.map Ab.aa)
 |s=>s
inductive af where
 |none
 |cells (cs:List SV)
 |one (s:Slot)
 |map (l:List (MK×D))
structure Env where
 ai:List Slot
 boxes:List af
def yw:Value→Option D
 | .bool b=>some (.bool b)
 | .int k n=>bif ga k n then some (.int k n)else none
 | .string s=>bif Nat.ble s.size maxLen then some (.str s.data.toList)else none
 | .slice none 0 0=>some (.sl .nil 0 [])
 | .pointer none=>some .nN
 | .nilFunc =>some .tp
 | .nilIface =>some .tq
 | .func f first captured=>bif first.isEmpty&&captured.isEmpty then some (.fn f)else none
 |_=>none
def yh:List Value→Option (List D)
 |[]=>some []
 |v::l=>match yw v with
  |some x=>(match yh l with|some r=>some (x::r)|none=>none)
  |none=>none
def FO:Value→Option D
 | .agg cs=>match yh cs.toList with
   |some l=>some (.agg l)
   |none=>none
 |v=>yw v
def ab{α:Type}(o:Option α)(k:α→Prop):Prop:=match o with|some x=>k x|none=>False
def au(x:SV)(A B:Prop):Prop:=match x with
 | .d (.bool c)=>cond c A B
 |_=>False
section
variable(P:Program)(gl:Nat→Option D)
def dJ(t:TypeId):Option Bool:=match P.underlying t with
 |some (.struct _)|some (.array _ _)=>some true
 |some _=>some false
 |none=>none
def kp(t:TypeId):Option (Bool×Nat):=match dJ P t with
 |some b=>(match P.info? t with|some i=>bif b||Nat.beq i.size 1 then some (b,i.size)else none|none=>none)
 |none=>none
def dY(t:TypeId):Option Nat:=match P.info? t with
 |some i=>some i.size
 |none=>none
def nD(t:TypeId):Option (List D):=match P.info? t with
 |some i=>(match i.zero with|some z=>yh z.cells.toList|none=>none)
 |none=>none
def IF(t:TypeId):Option (List SV):=match nD P t with
 |some z=>some (z.map .d)
 |none=>(match P.info? t with
  |some i=>(match i.zero with|some z=>bif z.cells.toList.all Value.oneCell' then some (List.replicate z.cells.toList.length .undef)else none|none=>none)
  |none=>none)
def aV(e:Env):Operand→Slot
 | .tmp t=>e.ai.getD t (.v .undef)
 | .const v=>(match FO v with|some x=>.v (.d x)|none=>.v .undef)
 | .func f=>.v (.d (.fn (.func f)))
 | .global g=>(match gl g with|some x=>.v (.aT x 0)|none=>.v .undef)
def im(op:BinOp)(k:IntKind)(x y:Int):Option D:=
 match op with
 | .add =>some (.int k (k.wrap (x+y)))
 | .sub =>some (.int k (k.wrap (x-y)))
 | .mul =>some (.int k (k.wrap (x*y)))
 | .quo =>if y=0 then none else some (.int k (k.wrap (x.tdiv y)))
 | .rem =>if y=0 then none else some (.int k (x.tmod y))
 | .and =>some (.int k (k.wrap (BitVec.ofInt k.bits x&&& BitVec.ofInt k.bits y).toNat))
 | .or =>some (.int k (k.wrap (BitVec.ofInt k.bits x|||BitVec.ofInt k.bits y).toNat))
 | .xor =>some (.int k (k.wrap (BitVec.ofInt k.bits x^^^BitVec.ofInt k.bits y).toNat))
 | .andNot =>some (.int k (k.wrap (BitVec.ofInt k.bits x&&& ~~~ BitVec.ofInt k.bits y).toNat))
 | .eql =>some (.bool (x==y))
 | .neq =>some (.bool (x != y))
 | .lss =>some (.bool (decide (x<y)))
 | .leq =>some (.bool (decide (x≤y)))
 | .gtr =>some (.bool (decide (x>y)))
 | .geq =>some (.bool (decide (x≥y)))
 |_=>none
def Cv(op:BinOp)(k:IntKind)(x y:Int):Option D:=
 if y<0 then none else
 match op with
 | .shl =>some (.int k (k.wrap (x*2^(min y.toNat k.bits))))
 | .shr =>some (.int k (x.fdiv (2^(min y.toNat k.bits))))
 |_=>none
def yi:List UInt8→List UInt8→Bool
 |_,[]=>false
 |[],_::_=>true
 |a::x,b::y=>a<b||(a==b&&yi x y)
def CL(op:BinOp)(x y:List UInt8):Option D:=
 match op with
 | .add =>if x.length+y.length≤maxLen then some (.str (x++y))else none
 | .eql =>some (.bool (x==y))
 | .neq =>some (.bool (!(x==y)))
 | .lss =>some (.bool (yi x y))
 | .leq =>some (.bool (yi x y||x==y))
 | .gtr =>some (.bool (!(yi x y||x==y)))
 | .geq =>some (.bool (!yi x y))
 |_=>none
def mJ:D→D→Option Bool
 | .bool a,.bool b=>some (a==b)
 | .int k a,.int k' b=>if k=k' then some (a==b)else none
 | .str a,.str b=>some (a==b)
 |_,_=>none
def fA:List D→List D→Option Bool
 |[],[]=>some true
 |x::l,y::m=>match mJ x y with
  |some b=>(match fA l m with|some c=>some (b&&c)|none=>none)
  |none=>none
 |_,_=>none
inductive CK where
 |bool|int|str
def dP:List CK→List D→Bool
 |[],[]=>true
 | .bool ::l,.bool _::m=>dP l m
 | .int ::l,.int _ _::m=>dP l m
 | .str ::l,.str _::m=>dP l m
 |_,_=>false
def wD{α:Type}(l:List α):Nat→List α
 |0=>[]
 |n+1=>l++wD l n
def zY(go:TypeId→Option (List CK)):List Field→Nat→Option (List CK)
 |[],_=>some []
 |f::l,off=>match go f.type with
  |some ks=>bif f.name != "_" &&Nat.beq f.offset off then(match zY go l (off+ks.length)with|some r=>some (ks++r)|none=>none)else none
  |none=>none
def shapeOf:(fuel:Nat)→TypeId→Option (List CK)
 |0,_=>none
 |f+1,t=>match P.underlying t with
  |some .bool =>(match dY P t with|some 1=>some [.bool]|_=>none)
  |some (.int _)=>(match dY P t with|some 1=>some [.int]|_=>none)
  |some .string =>(match dY P t with|some 1=>some [.str]|_=>none)
  |some (.array n e)=>(match shapeOf f e with
   |some ks=>(match dY P t with|some s=>bif Nat.beq s (n*ks.length)then some (wD ks n)else none|none=>none)
   |none=>none)
  |some (.struct fs)=>bif P.stoodInHeld t then none else(match zY (shapeOf f) fs.toList 0 with
   |some ks=>(match dY P t with|some s=>bif Nat.beq s ks.length then some ks else none|none=>none)
   |none=>none)
  |_=>none
def Cw(op:BinOp)(t:TypeId):Option (Bool×List CK):=match op with
 | .eql | .neq =>bif P.eqGuardType P.depth t then none else(match shapeOf P 20 t with
   |some ks=>(match dJ P t with|some b=>some (b,ks)|none=>none)
   |none=>(match P.underlying t with|some (.slice _)=>some (false,[])|_=>none))
 |_=>none
end
section
def fh(sh:Option (Bool×List CK))(op:BinOp)(x y:D):Option D:=
 match x,y with
 | .int k a,.int k' b=>
   (match op with
    | .shl | .shr =>Cv op k a b
    |_=>if k=k' then im op k a b else none)
 | .str a,.str b=>CL op a b
 | .bool a,.bool b=>(match sh with
   |some (false,[.bool])=>(match op with
    | .eql =>some (.bool (a==b))| .neq =>some (.bool (!(a==b)))|_=>none)
   |_=>none)
 | .agg a,.agg b=>(match sh with
   |some (true,ks)=>bif dP ks a&&dP ks b then(match op with
    | .eql =>(match fA a b with|some c=>some (.bool c)|none=>none)
    | .neq =>(match fA a b with|some c=>some (.bool (!c))|none=>none)
    |_=>none)else none
   |_=>none)
 | .sl a _ _,.sl .nil _ _=>(match sh with
   |some (false,[])=>(match op with
    | .eql =>some (.bool (decide (a=.nil)))
    | .neq =>some (.bool (!decide (a=.nil)))
    |_=>none)
   |_=>none)
 |_,_=>none
def ag(sh:Option (Bool×List CK))(op:BinOp):SV→SV→Option SV
 | .d x,.d y=>(match fh sh op x y with|some r=>some (.d r)|none=>none)
 |_,_=>none
def eA(op:UnOp):SV→Option SV
 | .d (.bool b)=>(match op with| .not =>some (.d (.bool (!b)))|_=>none)
 | .d (.int k n)=>(match op with
   | .neg =>some (.d (.int k (k.wrap (0-n))))
   | .xor =>some (.d (.int k (k.wrap (BitVec.ofInt k.bits (if k.signed then-1 else k.max)^^^BitVec.ofInt k.bits n).toNat)))
   |_=>none)
 |_=>none
end
section
variable(P:Program)(gl:Nat→Option D)
def J0(dst:TypeId):SV→Option SV
 | .d (.int _ n)=>(match P.underlying dst with|some (.int k)=>some (.d (.int k (k.wrap n)))|_=>none)
 | .d (.str s)=>(match P.underlying dst with|some .string =>some (.d (.str s))|_=>none)
 |_=>none
def cT:SV→Option D
 | .d x=>some x
 | .own sz L=>some (.sl .ro sz L)
 | .full sz L=>some (.sl .ro sz L)
 |_=>none
def dG:List SV→Option (List D)
 |[]=>some []
 |v::l=>match cT v with
  |some x=>(match dG l with|some r=>some (x::r)|none=>none)
  |none=>none
def elems(sz:Nat):SV→Option (List D)
 | .d (.sl k s L)=>(match k with| .nil =>some []| .ro =>if s=sz then some L else none)
 | .own s L=>if s=sz then some L else none
 | .full s L=>if s=sz then some L else none
 |_=>none
def Cj:SV→Option (List D)
 | .d (.sl _ _ L)=>some L
 | .own _ L=>some L
 | .full _ L=>some L
 |_=>none
def o7(agg:Bool)(sz off:Nat)(cs:List D):Option D:=
 bif agg then(if off+sz≤cs.length then some (.agg ((cs.drop off).take sz))else none)else cs[off]?
def ah(agg:Bool)(sz off:Nat)(cs:List SV):Option SV:=
 bif agg then(if off+sz≤cs.length then(match dG ((cs.drop off).take sz)with|some l=>some (.d (.agg l))|none=>none)else none)else cs[off]?
def cA(x:SV)(n:Nat):Option Nat:=match x with
 | .d (.int _ i)=>if 0≤i∧i<n then some i.toNat else none
 |_=>none
def Kp(t:TypeId)(x:SV):Option SV:=match P.underlying t with
 |some .string =>(match x with| .d (.str s)=>some (.d (.int .i64 s.length))|_=>none)
 |some (.array n _)=>bif Nat.ble n maxLen then some (.d (.int .i64 n))else none
 |some (.slice _)=>(match x with| .cG n _ _=>some (.d (.int .i64 n))|x=>(match Cj x with|some L=>some (.d (.int .i64 L.length))|none=>none))
 |_=>none
def setAt(cs:List SV)(off:Nat):List SV→List SV
 |[]=>cs
 |v::l=>setAt (cs.set off v) (off+1) l
def az(x:SV):Option (List SV):=match x with
 | .d y=>some (y.cells.map .d)
 | .aH _=>none
 | .undef =>none
 |v=>some [v]
def tt(place:Nat→Option (Nat×Nat))(cells:List D):List (Nat×D)→Option (List D)
 |[]=>some cells
 |(i,v)::rest=>match place i with
  |none=>none
  |some (off,sz)=>if v.cells.length=sz∧off+sz≤cells.length then tt place (cells.take off++v.cells++cells.drop (off+sz)) rest else none
def nO(ρ:Operand→Slot):List (Nat×Operand)→Option (List (Nat×D))
 |[]=>some []
 |(i,x)::l=>match ρ x with
  | .v y=>(match cT y with
    |some z=>(match nO ρ l with|some r=>some ((i,z)::r)|none=>none)
    |none=>none)
  |_=>none
def Cx:List Field→Option (List (Nat×Nat))
 |[]=>some []
 |f::l=>match dY P f.type with
  |some s=>(match Cx l with|some r=>some ((f.offset,s)::r)|none=>none)
  |none=>none
def NK(t:TypeId):Option (Nat→Option (Nat×Nat)):=match P.underlying t with
 |some (.struct fs)=>(match Cx P fs.toList with|some l=>some fun i=>l[i]? |none=>none)
 |some (.array _ e)=>(match dY P e with|some s=>some fun i=>some (i*s,s)|none=>none)
 |_=>none
def cW(t:TypeId)(ps:List (Nat×D)):Option D:=match nD P t with
 |some z=>(match NK P t with
  |some pl=>(match tt pl z ps with|some cs=>some (.agg cs)|none=>none)
  |none=>none)
 |none=>none
def br(agg:Bool)(cs:List D):D:=bif agg then .agg cs else(match cs with|[x]=>x|_=>.agg cs)
def pP(i:Nat):List (Nat×D)→Option D
 |[]=>none
 |(j,x)::l=>match pP i l with|some y=>some y|none=>bif i==j then some x else none
def bj(zero:D)(ps:List (Nat×D)):Nat→Nat→List D
 |0,_=>[]
 |n+1,i=>(match pP i ps with|some x=>x|none=>zero)::bj zero ps n (i+1)
def bf(sz n:Nat):List (Nat×D)→Bool
 |[]=>true
 |(i,x)::l=>Nat.blt i n&&Nat.beq x.cells.length sz&&bf sz n l
def jd(f:Slot→SV):List Slot→List SV
 |[]=>[]
 |s::l=>f s::jd f l
def snap(aA:List af):(fuel:Nat)→Slot→SV
 |0,_=>.undef
 |n+1,s=>match s with
  | .v x=>Ab.aa x
  | .p b off=>(match aA[b]? with
    |some (.cells cs)=>.ref (cs.map Ab.aa) off
    |some (.one s')=>.ref [snap aA n s'] off
    |_=>.undef)
  | .c f first cap=>.di f (jd (snap aA n) first) (jd (snap aA n) cap)
  | .a b m sz=>(match aA[b]? with
    |some (.cells cs)=>.cG m sz (cs.map Ab.aa)
    |_=>.undef)
  |_=>.undef
def Slot.bU:Slot→SV
 | .v x=>x
 |_=>.undef
end
abbrev bd:=FuncId→List SV→SV→Prop
section
variable(P:Program)(gl:Nat→Option D)(C:bd)
def uS:SV→Bool| .aH _=>true|_=>false
def aR(f:FuncId)(args:List SV)(k:SV→Prop):Prop:=∃r,C f args r∧uS r=false∧k r
def xm:Nat→(List SV→Prop)→Prop
 |0,k=>k []
 |n+1,k=>∃r,xm n fun l=>k (r::l)
def adw(f:FuncId)(n:Nat)(args:List SV)(k:List SV→Prop):Prop:=xm n fun rs=>C f args (.aH rs)∧k rs
def withFn(x:SV)(args:List SV)(k:FuncId→List SV→Prop):Prop:=match x with
 | .d (.fn (.func f))=>k f args
 | .di (.func f) first cap=>k f (first++args++cap)
 |_=>False
def AV(t:TypeId)(name:String):Option FuncId:=match P.info? t with
 |some i=>(match i.methods.find? (fun m=>m.name==name)with
  |some m=>(match m.path.toList,m.func with
   |[],some (f,false)=>(match P.underlying t with
    |some (.pointer _)=>none
    |some _=>some f
    |none=>none)
   |_,_=>none)
  |none=>none)
 |none=>none
def J1(x:SV)(name:String):Option FuncId:=match x with
 | .d (.iface t _)=>AV P t name
 |_=>none
def wv(x:SV)(name:String)(args:List SV)(k:FuncId→List SV→Prop):Prop:=match x with
 | .d (.iface t y)=>ab (AV P t name) fun f=>k f (.d y::args)
 |_=>False
def arity(t:TypeId):Nat:=match P.underlying t with
 |some (.tuple ts)=>ts.size
 |_=>1
def nT(n:Nat)(aA:List af)(k:Slot→List af→Prop)(f:FuncId)(args:List SV):Prop:=
 match n with
 |1=>aR C f args fun r=>k (.v r) aA
 |n=>adw C f n args fun rs=>k (.t rs) aA
def iq(aA:List af)(ρ:Operand→Slot):List Operand→List SV
 |[]=>[]
 |x::l=>snap aA 6 (ρ x)::iq aA ρ l
def gM:Nat:=1048577
def kq(sz:Nat)(x y:SV):Option (SV×Nat):=
 match elems sz y with
 |none=>none
 |some M=>match x with
  | .own s L=>if s=sz then some (.own sz (L++M),L.length+M.length)else none
  | .full s L=>if s=sz then(if M=[]then some (.full sz L,L.length)else some (.own sz (L++M),L.length+M.length))else none
  | .d (.sl .nil s _)=>if M=[]then some (x,0)else some (bif Nat.beq s gM then .bt sz M else .own sz M,M.length)
  | .bt s L=>if s=sz then some (.bt sz (L++M),L.length+M.length)else none
  |_=>none
def bV(sz bytes:Nat)(x y:SV)(k:SV→Prop):Prop:=
 ab (kq sz x y) fun r=>r.2*bytes≤140737488355328∧k r.1
def pS(agg:Bool)(sz b off:Nat)(aA:List af)(k:Slot→List af→Prop):Prop:=
 match aA[b]? with
 |some (.cells cs)=>ab (ah agg sz off cs) fun x=>k (.v (Ab.aa x)) aA
 |some (.one s)=>bif agg then False else(match off with|0=>k s.aa aA|_=>False)
 |_=>False
def aG(agg:Bool)(sz:Nat)(x:SV):Option SV:=match x with
 | .aT y off=>(match o7 agg sz off y.cells with|some z=>some (.d z)|none=>none)
 | .ref cs off=>(match ah agg sz off cs with|some z=>some (Ab.aa z)|none=>none)
 |_=>none
def sR(sz b off:Nat)(x:Slot)(aA:List af)(k:List af→Prop):Prop:=
 match aA[b]? with
 |some (.cells cs)=>(match x with
  | .v y=>ab (az y) fun l=>l.length=sz∧off+sz≤cs.length∧k (aA.set b (.cells (setAt cs off l)))
  | .t _=>False
  |s=>(match sz,off,cs with|1,0,[_]=>k (aA.set b (.one s))|_,_,_=>False))
 |some (.one _)=>(match sz,off with
  |1,0=>(match x with
   | .v y=>ab (az y) fun l=>l.length=1∧k (aA.set b (.cells l))
   | .t _=>False
   |s=>k (aA.set b (.one s)))
  |_,_=>False)
 |_=>False
def cm(x:SV)(n:Nat):Option SV:=match x with
 | .aT y off=>some (.aT y (off+n))
 | .ref cs off=>some (.ref cs (off+n))
 |_=>none
def aN(sz:Nat)(x i:SV):Option SV:=match x with
 | .cG n s cs=>(match cA i n with|some j=>if s=sz then some (.ref cs (j*sz))else none|none=>none)
 |x=>match elems sz x with
 |some L=>(match cA i L.length with
  |some n=>(match L[n]? with|some y=>some (.aT y 0)|none=>none)
  |none=>none)
 |none=>none
def yK(n:Nat):Option SV→Option Nat
 |some h=>cA h (n+1)
 |none=>some n
def u1(h:Nat):Option SV→Option Nat
 |some l=>cA l (h+1)
 |none=>some 0
def CW(L:List D)(lo hi:Option SV):Option (List D):=
 match yK L.length hi with
 |some h=>(match u1 h lo with
  |some l=>some ((L.take h).drop l)
  |none=>none)
 |none=>none
def Q2(L:List UInt8)(lo hi:Option SV):Option (List UInt8):=
 match yK L.length hi with
 |some h=>(match u1 h lo with
  |some l=>some ((L.take h).drop l)
  |none=>none)
 |none=>none
def JE(t:TypeId)(x:SV)(lo hi mx:Option SV):Option SV:=
 match P.underlying t with
 |some .string =>(match x,mx with
  | .d (.str s),none=>(match Q2 s lo hi with|some r=>some (.d (.str r))|none=>none)
  |_,_=>none)
 |some (.slice e)=>(match cT x,dY P e with
  |some (.sl k sz L),some s=>(match CW L lo hi,mx with
   |some r,none=>(match k with| .nil =>some (.d (.sl .nil s []))| .ro =>if sz=s then some (.d (.sl .ro sz r))else none)
   |some r,some m=>(match hi,cA m (L.length+1)with
    |some h,some _=>(match h,m with
     | .d (.int _ a),.d (.int _ b)=>if a=b then(match k with| .nil =>some (.d (.sl .nil s []))| .ro =>if sz=s then some (.full sz r)else none)else none
     |_,_=>none)
    |_,_=>none)
   |none,_=>none)
  |_,_=>none)
 |_=>none
def pc(ρ:Operand→Slot):Option Operand→Option SV
 |some x=>some (ρ x).bU
 |none=>none
def minD(a b:Int):Int:=if b<a then b else a
def maxD(a b:Int):Int:=if b>a then b else a
def x7(f:Int→Int→Int):SV→List SV→Option SV
 | .d (.int k a),[]=>some (.d (.int k a))
 | .d (.int k a),.d (.int k' b)::l=>if k=k' then x7 f (.d (.int k (f a b))) l else none
 |_,_=>none
def lq(x:SV):Option SV:=match x with
 | .aT y o=>some (.aT y o)
 | .ref cs o=>some (.ref cs o)
 | .di f a b=>(match f with| .func n=>some (.di (.func n) a b)|_=>none)
 | .d (.fn f)=>(match f with| .func n=>some (.d (.fn (.func n)))|_=>none)
 |_=>none
def JF(agg:Bool)(sz n:Nat)(x i:SV):Option SV:=match x with
 | .d (.agg cs)=>(match cA i n with
   |some j=>(match o7 agg sz (j*sz) cs with|some r=>some (.d r)|none=>none)
   |none=>none)
 |_=>none
def J3(x i:SV):Option SV:=match x with
 | .d (.str s)=>(match cA i s.length with
   |some j=>(match s[j]? with|some b=>some (.d (.int .u8 b.toNat))|none=>none)
   |none=>none)
 |_=>none
def uI(agg:Bool)(sz off:Nat)(x:SV):Option SV:=match x with
 | .d (.agg cs)=>(match o7 agg sz off cs with|some r=>some (.d r)|none=>none)
 |_=>none
def JG(t:TypeId)(x:SV):Option SV:=match cT x with
 |some y=>some (.d (.iface t y))
 |none=>none
def wz(t:TypeId):Option Nat:=match P.info? t with
 |some i=>some i.bytes
 |none=>none
def nI(t:TypeId):Option TypeId:=match P.underlying t with
 |some (.slice e)=>some e
 |_=>none
def Ad(t:TypeId)(i:Nat):Option Field:=match P.underlying t with
 |some (.struct fs)=>fs.toList[i]?
 |_=>none
def isSlice(t:TypeId):Bool:=match P.underlying t with
 |some (.slice _)=>true
 |_=>false
def isIface(t:TypeId):Bool:=match P.underlying t with
 |some (.interface _)=>true
 |none=>true
 |_=>false
def KS.same:KS→KS→Bool
 | .bool _,.bool _=>true
 | .int k _,.int k' _=>decide (k=k')
 | .str _,.str _=>true
 |_,_=>false
def KS.jA:List KS→List KS→Bool
 |[],[]=>true
 |x::l,y::m=>x.same y&&KS.jA l m
 |_,_=>false
def MK.same:MK→MK→Bool
 | .i _,.i _=>true
 | .s a,.s b=>KS.jA a b
 |_,_=>false
def s6(l:List (MK×D))(n:MK):Bool:=l.all fun x=>n.same x.1
def kQ:List (MK×D)→MK→Option D
 |[],_=>none
 |x::l,n=>if n=x.1 then some x.2 else kQ l n
def tF:List CK→List D→Option (List KS)
 |[],[]=>some []
 | .bool ::l,.bool b::m=>(match tF l m with|some r=>some (.bool b::r)|none=>none)
 | .int ::l,.int k n::m=>(match tF l m with|some r=>some (.int k n::r)|none=>none)
 | .str ::l,.str s::m=>(match tF l m with|some r=>some (.str s::r)|none=>none)
 |_,_=>none
def kU(kd:Option (List CK))(x:SV):Option MK:=match kd with
 |none=>(match x with| .d (.int .i64 n)=>some (.i n)|_=>none)
 |some ks=>(match x with| .d (.agg cs)=>(match tF ks cs with|some l=>some (.s l)|none=>none)|_=>none)
def rq(kd:Option (List CK))(z:D)(m key:SV):Option (D×Bool):=match m with
 | .mp l=>(match kU kd key with
   |some n=>bif s6 l n then(match kQ l n with|some d=>some (d,true)|none=>some (z,false))else none
   |none=>none)
 |_=>none
def CX:List Field→Bool
 |[]=>true
 |f::l=>(match P.underlying f.type with|some .bool =>true|some (.int _)=>true|some .string =>true|_=>false)&&CX l
def AA(t:TypeId):Option (TypeId×Option (List CK)):=match P.underlying t with
 |some (.map kt et)=>(match P.underlying kt with
  |some (.int _)=>some (et,none)
  |some (.struct fs)=>(match shapeOf P 20 kt with
   |some ks=>bif CX P fs.toList then some (et,some ks)else none
   |none=>none)
  |_=>none)
 |_=>none
def uT(aA:List af):Slot→SV
 | .m b=>(match aA[b]? with
   |some (.map l)=>.mp l
   |_=>.undef)
 |s=>s.bU
def kV:List (MK×D)→MK→D→List (MK×D)
 |[],n,d=>[(n,d)]
 |x::l,n,d=>if n=x.1 then(n,d)::l else x::kV l n d
def nV(l:List (MK×D))(n:MK)(d:D):Option (List (MK×D)):=bif s6 l n then some (kV l n d)else none
def lenOf:SV→SV→Option Nat
 | .d (.int k a),.d (.int k' b)=>if k=k'∧a=b∧0≤a then some a.toNat else none
 |_,_=>none
def tc(t:TypeId):Option D:=match P.info? t with
 |some i=>(match i.zero with|some z=>yw z|none=>none)
 |none=>none
def cX(id:Nat)(o:Oper)(ρ:Operand→Slot)(aA:List af)(k:Slot→List af→Prop):Prop:=
 match o.op with
 | .move x| .assign x=>k (ρ x) aA
 | .pick c a b=>(match ρ c with
   | .v x=>au x (k (ρ a) aA) (k (ρ b) aA)
   |_=>False)
 | .alloc t=>(match aA[id]? with
   |some .none =>ab (IF P t) fun z=>k (.p id 0) (aA.set id (.cells z))
   |_=>False)
 | .box t x=>(match aA[id]? with
   |some .none =>ab (dY P t) fun sz=>(match ρ x with
    | .v y=>ab (az y) fun l=>l.length=sz∧k (.p id 0) (aA.set id (.cells l))
    | .t _=>False
    |s=>(match sz with|1=>k (.p id 0) (aA.set id (.one s))|_=>False))
   |_=>False)
 | .build t ps=>ab (nO ρ ps.toList) fun l=>ab (cW P t l) fun r=>k (.v (.d r)) aA
 | .buildSlice t n ps=>ab (nI P t) fun e=>ab (kp P e) fun ly=>ab (nD P e) fun z=>ab (nO ρ ps.toList) fun l=>
    bif Nat.ble (n*ly.2) (2^24)&&Nat.blt 0 ly.2&&Nat.beq z.length ly.2 then(bf ly.2 n l=true∧k (.v (.full ly.2 (bj (br ly.1 z) l n 0))) aA)else False
 | .load t a=>ab (kp P t) fun ly=>(match ρ a with
   | .p b off=>pS ly.1 ly.2 b off aA k
   | .v x=>ab (aG ly.1 ly.2 x) fun y=>k (.v y) aA
   |_=>False)
 | .store t a x=>ab (dY P t) fun sz=>(match ρ a with
   | .p b off=>(match o.dst with|none=>sR sz b off (ρ x) aA fun dg=>k (.t []) dg|some _=>False)
   |_=>False)
 | .nilCheck x=>(match ρ x with
   | .v y=>ab (lq y) fun z=>k (.v z) aA
   | .t _=>False
   | .c f first cap=>(match f with
     | .func _=>k (.c f first cap) aA
     | .method name=>(match first with
       | .v y::_=>ab (J1 P y name) fun _=>k (.c f first cap) aA
       |_=>False)
     |_=>False)
   | .p b off=>k (.p b off) aA
   |_=>False)
 | .binOp op t x y _=>ab (ag (Cw P op t) op (ρ x).bU (ρ y).bU) fun r=>k (.v r) aA
 | .unOp op _ x=>ab (eA op (ρ x).bU) fun r=>k (.v r) aA
 | .convert src dst x=>bif (P.underlying src).isSome then(ab (J0 P dst (ρ x).bU) fun r=>k (.v r) aA)else False
 | .makeInterface t x=>bif isIface P t then False else ab (JG t (ρ x).bU) fun r=>k (.v r) aA
 | .makeFunc fn first cap=>k (.c fn (first.toList.map fun x=>(ρ x).aa) (cap.toList.map fun x=>(ρ x).aa)) aA
 | .slice t x lo hi mx=>ab (JE P t (Ab.aa (ρ x).bU) (pc ρ lo) (pc ρ hi) (pc ρ mx)) fun r=>k (.v r) aA
 | .fieldAddr t x f=>ab (Ad P t f) fun fd=>ab (dY P fd.type) fun sz=>bif Nat.beq sz 0 then False else(match ρ x with
   | .p b off=>k (.p b (off+fd.offset)) aA
   | .v y=>ab (cm y fd.offset) fun z=>k (.v z) aA
   |_=>False)
 | .field t x f=>ab (Ad P t f) fun fd=>ab (kp P fd.type) fun ly=>ab (uI ly.1 ly.2 fd.offset (ρ x).bU) fun r=>k (.v r) aA
 | .indexAddr t x i=>(match P.underlying t with
   |some (.slice e)=>ab (dY P e) fun sz=>(match ρ x with
    | .a b n _=>ab (cA (ρ i).bU n) fun j=>k (.p b (j*sz)) aA
    |s=>ab (aN sz s.bU (ρ i).bU) fun r=>k (.v r) aA)
   |some (.array n e)=>ab (dY P e) fun sz=>ab (cA (ρ i).bU n) fun j=>(match ρ x with
    | .p b off=>k (.p b (off+j*sz)) aA
    | .v y=>ab (cm y (j*sz)) fun z=>k (.v z) aA
    |_=>False)
   |_=>False)
 | .index t x i=>(match P.underlying t with
   |some (.array n e)=>ab (kp P e) fun ly=>ab (JF ly.1 ly.2 n (ρ x).bU (ρ i).bU) fun r=>k (.v r) aA
   |some .string =>ab (J3 (ρ x).bU (ρ i).bU) fun r=>k (.v r) aA
   |_=>False)
 | .extract x i=>(match ρ x with
   | .t vs=>(match vs[i]? with|some r=>k (.v r) aA|none=>False)
   |_=>False)
 | .lookup t m x ok=>ab (AA P t) fun et=>ab (tc P et.1) fun z=>ab (rq et.2 z (uT aA (ρ m)) (ρ x).bU) fun r=>
    bif ok then k (.t [.d r.1,.d (.bool r.2)]) aA else k (.v (.d r.1)) aA
 | .makeSlice t n c=>ab (nI P t) fun e=>ab (dY P e) fun sz=>ab (wz P e) fun cV=>ab (tc P e) fun z=>
    bif Nat.beq sz 1&&Nat.blt 0 cV then(ab (lenOf (ρ n).bU (ρ c).bU) fun m=>m*cV≤140737488355328∧k (.v (.bt 1 (List.replicate m z))) aA)else False
 | .makeMap t h=>(match h,aA[id]? with
   |none,some .none =>k (.m id) (aA.set id (.map []))
   |_,_=>False)
 | .mapUpdate t m x y=>ab (AA P t) fun et=>(match ρ m,o.dst with
   | .m b,none=>(match aA[b]? with
     |some (.map l)=>ab (kU et.2 (ρ x).bU) fun n=>ab (cT (ρ y).bU) fun d=>ab (nV l n d) fun l'=>k (.t []) (aA.set b (.map l'))
     |_=>False)
   |_,_=>False)
 | .call c=>(match c.callee with
   | .value f=>(match ρ f with
     | .v x=>withFn x (iq aA ρ c.args.toList) (nT C (arity P o.type) aA k)
     | .c (.func g) first cap=>nT C (arity P o.type) aA k g (jd (snap aA 6) first++iq aA ρ c.args.toList++jd (snap aA 6) cap)
     |_=>False)
   | .invoke recv name=>(match ρ recv with
     | .v x=>wv P x name (iq aA ρ c.args.toList) (nT C (arity P o.type) aA k)
     |_=>False)
   | .builtin b=>(match b,c.args.toList,c.argTypes.toList with
     | .len,x::_,t::_=>(match ρ x with
       | .a _ n _=>bif isSlice P t then k (.v (.d (.int .i64 n))) aA else False
       |s=>ab (Kp P t s.bU) fun r=>k (.v r) aA)
     | .append,[x,y],[t,u]=>bif Nat.beq t u then(ab (nI P t) fun e=>ab (dY P e) fun sz=>ab (wz P e) fun cV=>ab (nD P e) fun z=>
        bif Nat.blt 0 cV&&Nat.blt 0 sz&&Nat.beq z.length sz then bV sz cV (ρ x).bU (ρ y).bU fun r=>k (.v r) aA else False)else False
     | .min,x::l,_=>ab (x7 minD (ρ x).bU (l.map fun y=>(ρ y).bU)) fun r=>k (.v r) aA
     | .max,x::l,_=>ab (x7 maxD (ρ x).bU (l.map fun y=>(ρ y).bU)) fun r=>k (.v r) aA
     |_,_,_=>False))
 |_=>False
def tmpsOf(o:Oper):List Nat:=o.op.operands.toList.filterMap fun| .tmp t=>some t|_=>none
def cz(l:List Slot)(dst:Option Nat)(s:Slot):List Slot:=match dst with
 |some d=>l.set d s
 |none=>l
def placeOf(r:Nat):List Nat→Nat→Nat
 |[],i=>i
 |t::l,i=>bif Nat.beq t r then i else placeOf r l (i+1)
def Q3(r:Nat):List Nat→Nat→Nat→Nat
 |[],_,j=>j
 |t::l,i,j=>Q3 r l (i+1) (bif Nat.beq t r then i else j)
def Q4(r:Nat)(ts:List Nat):Nat:=bif Nat.beq ts.length 4 then Q3 r ts 0 0 else placeOf r ts 0
def Jf(t:TypeId)(ts:List TypeId):Nat:=match P.underlying t with
 |some (.tuple rs)=>(match rs.toList with
  |[]=>0
  |r::_=>Q4 r ts)
 |_=>Q4 t ts
def yL(rs:List SV):Slot:=match rs with
 |[r]=>.v r
 |rs=>.t rs
def qa(p:Nat)(args:List SV):List SV:=.aH [.cG p 0 []]::args
def Kq(s:Slot):Option FuncId:=match s with
 | .v (.d (.fn (.func g)))=>some g
 |_=>none
def kR(o:Oper)(e:Env)(k:Env→Prop):Prop:=match o.op with
 | .move (.tmp t)| .assign (.tmp t)=>k ⟨cz (e.ai.set t (e.ai.getD t (.v .undef)).aa) o.dst (e.ai.getD t (.v .undef)),e.boxes⟩
 | .extract (.tmp t) i=>(match e.ai.getD t (.v .undef)with
   | .t vs=>(match vs[i]? with
     |some r=>k ⟨cz (e.ai.set t (.t (vs.set i (aa r)))) o.dst (.v r),e.boxes⟩
     |none=>False)
   |_=>False)
 | .load ty a=>(match(aV gl e a).aa with
   | .p b off=>ab (kp P ty) fun ly=>bif ly.1 then False else(match e.boxes[b]? with
     |some (.cells cs)=>ab cs[off]? fun x=>k ⟨cz e.ai o.dst (.v x),e.boxes.set b (.cells (cs.set off (aa x)))⟩
     |_=>False)
   |_=>False)
 | .store ty a (.tmp t)=>(match(aV gl e a).aa,e.ai.getD t (.v .undef),o.dst with
   | .p b off,.v y,none=>ab (dY P ty) fun sz=>bif Nat.beq sz 1 then(match e.boxes[b]? with
     |some (.cells cs)=>ab (az y) fun l=>l.length=1∧off<cs.length∧k ⟨e.ai.set t (.v (aa y)),e.boxes.set b (.cells (setAt cs off l))⟩
     |_=>False)else False
   |_,_,_=>False)
 | .buildSlice t n ps=>ab (nI P t) fun e'=>ab (kp P e') fun ly=>ab (nD P e') fun z=>ab (nO (fun x=>(aV gl e x).aa) ps.toList) fun l=>
    bif Nat.ble (n*ly.2) (2^24)&&Nat.blt 0 ly.2&&Nat.beq z.length ly.2 then(bf ly.2 n l=true∧k ⟨cz e.ai o.dst (.v (.bt ly.2 (bj (br ly.1 z) l n 0))),e.boxes⟩)else False
 | .call c=>(match c.callee,c.args.toList,c.argTypes.toList with
   | .builtin .append,[.tmp t,y],[ty,u]=>bif Nat.beq ty u then(ab (nI P ty) fun e'=>ab (dY P e') fun sz=>ab (wz P e') fun cV=>ab (nD P e') fun z=>
      bif Nat.blt 0 cV&&Nat.blt 0 sz&&Nat.beq z.length sz then bV sz cV (e.ai.getD t (.v .undef)).bU ((aV gl e y).aa).bU fun r=>
       k ⟨cz (e.ai.set t (e.ai.getD t (.v .undef)).aa) o.dst (.v r),e.boxes⟩else False)else False
   | .value f,args,ts=>(match args[Jf P o.type ts]?,Kq (aV gl e f)with
     |some (.tmp t),some g=>(match e.ai.getD t (.v .undef)with
      | .v y=>xm (arity P o.type) fun rs=>∃bk,C g (qa (Jf P o.type ts) ((iq e.boxes (fun x=>(aV gl e x).aa) args).set (Jf P o.type ts) y)) (.aH (bk::rs))∧aa bk=aa y∧k ⟨cz (e.ai.set t (.v bk)) o.dst (yL rs),e.boxes⟩
      |_=>False)
     |_,_=>False)
   |_,_,_=>False)
 |_=>False
def mP(id:Nat)(aE:Bool)(o:Oper)(e:Env)(k:Env→Prop):Prop:=
 bif aE then kR P gl C o e k
 else cX P C id o (fun x=>(aV gl e x).aa) e.boxes fun r aA=>k ⟨cz e.ai o.dst r,aA⟩
def Env.wW(e:Env)(t:Nat)(b:Bool):Env:=⟨e.ai.set t (.v (.d (.bool b))),e.boxes⟩
def yx(all:List Oper)(o:Oper)(e:Env)(A B:Env→Prop):Prop:=
 match o.guard with
 |none=>A e
 |some (j,want)=>(match(match all[j]? with|some g=>g.dst|none=>none)with
  |some t=>(match e.ai.getD t (.v .undef)with
   | .v x=>au x (bif want then A (e.wW t true)else B (e.wW t true)) (bif want then B (e.wW t false)else A (e.wW t false))
   | .t _=>B e
   |_=>False)
  |none=>False)
def fT(o:Oper):Bool:=match o.op with| .alloc _| .box .. | .makeMap .. =>true|_=>false
def fK:List Oper→Nat→Nat
 |[],_=>0
 |_,0=>0
 |o::l,i+1=>(bif fT o then 1 else 0)+fK l i
def kS(aE:Nat→Bool)(all:List Oper)(base:Nat):List Oper→Nat→Env→(Env→Prop)→Prop
 |[],_,e,k=>k e
 |o::rest,i,e,k=>yx all o e
   (fun e'=>mP P gl C (base+fK all i) (aE i) o e' fun kY=>kS aE all base rest (i+1) kY k)
   (fun e'=>kS aE all base rest (i+1) ⟨cz e'.ai o.dst (.t []),e'.boxes⟩ k)
def Ae(aE:Nat→Bool)(ops:List Oper)(e:Env)(k:Env→Prop):Prop:=
 kS P gl C aE ops e.boxes.length ops 0 ⟨e.ai,e.boxes++List.replicate (fK ops ops.length) .none⟩ k
inductive Ex where
 |normal
 |exit (id:Nat)
 |ret
def bP(F:List SV→List (List SV)→(List SV→List (List SV)→Prop)→Prop)(vs:List SV)(bs:List (List SV)):Prop:=
 ∀I:List SV→List (List SV)→Prop,(∀vs bs,F vs bs I→I vs bs)→I vs bs
def l6:Code→Nat
 | .region id _ _=>id
 | .seq a _=>l6 a
 | .block _ b=>l6 b
 | .loop b=>l6 b
 | .scope b=>l6 b
 |_=>0
inductive gS where
 |box (t sz:Nat)
 |qn (t:Nat) (ts:List Nat)
 |jE (t:Nat) (agg:Bool) (sz:Nat) (ts:List Nat)
 |emp (t:Nat)
 |jF (t:Nat)
 |ph (t:Nat) (ts:List Nat)
def fj:List gS→List Nat
 |[]=>[]
 | .box t _::l=>t::fj l
 | .qn _ ts::l=>ts++fj l
 | .jE t _ _ ts::l=>t::(ts++fj l)
 | .emp t::l=>t::fj l
 | .jF t::l=>t::fj l
 | .ph _ ts::l=>ts++fj l
def kj(h:List (Nat×List gS))(id:Nat):List gS:=match h with
 |[]=>[]
 |(j,r)::l=>bif j==id then r else kj l id
def cD(gh:List (Nat×List gS)):Code→List Nat
 | .region id ops _=>fj (kj gh id)++(fj (kj gh (4000000+id))++ops.toList.filterMap (·.dst))
 | .seq a b=>cD gh a++cD gh b
 | .cond _ a b=>cD gh a++cD gh b
 | .block _ b=>cD gh b
 | .loop b=>cD gh b
 | .scope b=>cD gh b
 |_=>[]
def af.ay:af→List SV
 | .cells cs=>cs
 | .map l=>[.mp l]
 |_=>[.undef]
def td(e:Env)(vars:List Nat):List SV:=vars.map fun t=>(e.ai.getD t (.v .undef)).bU
def sX(n:Nat)(e:Env):List (List SV):=(e.boxes.take n).map af.ay
def Slot.stays:Slot→Slot
 | .p b off=>.p b off
 | .c f first cap=>.c f first cap
 | .a b n sz=>.a b n sz
 | .m b=>.m b
 |_=>.v .undef
def place(t:Nat):List Nat→Nat→Option Nat
 |[],_=>none
 |v::l,i=>bif v==t then some i else place t l (i+1)
def ae(vs:List SV)(j:Nat):SV:=vs.getD j .undef
def an(bs:List (List SV))(i:Nat):List SV:=bs.getD i []
def qQ(vars consts:List Nat)(vs:List SV):List Slot→Nat→List Slot
 |[],_=>[]
 |s::l,t=>(match place t vars 0 with
  |some j=>.v (ae vs j)
  |none=>bif consts.contains t then s.stays else .v .undef)::qQ vars consts vs l (t+1)
def af.isMap:af→Bool
 | .map _=>true
 |_=>false
def mapOf:List SV→List (MK×D)
 |[.mp l]=>l
 |_=>[]
def af.again(cs:List SV):af→af
 | .map _=>.map (mapOf cs)
 | .none =>.none
 |_=>.cells cs
def qR(bs:List (List SV)):List af→Nat→List af
 |[],_=>[]
 |x::l,i=>af.again (an bs i) x::qR bs l (i+1)
structure Hints where
 aE:List (Nat×Nat)
 eM:List (Nat×List Nat×List Nat)
 gh:List (Nat×List gS):=[]
def tu(h:Hints)(id i:Nat):Bool:=h.aE.any fun p=>p.1==id&&p.2==i
def mK(h:List (Nat×List Nat×List Nat))(id:Nat):List Nat×List Nat:=match h with
 |[]=>([],[])
 |(j,r)::l=>bif j==id then r else mK l id
mutual
def Slot.has(b:Nat):Slot→Bool
 | .p b' _=>b'==b
 | .a b' _ _=>b'==b
 | .m b'=>b'==b
 | .c _ x y=>Slot.u2 b x||Slot.u2 b y
 |_=>false
def Slot.u2(b:Nat):List Slot→Bool
 |[]=>false
 |s::l=>Slot.has b s||Slot.u2 b l
end
def jA(m n:Nat)(x:SV):SV:=if m=n then x else .undef
def AW(b:Nat)(ra:Nat→SV)(rm:SV):Slot→Slot
 | .a b' n sz=>bif b'==b then .v (ra n)else .a b' n sz
 | .m b'=>bif b'==b then .v rm else .m b'
 | .p b' off=>bif b'==b then .v .undef else .p b' off
 | .c f x y=>bif Slot.u2 b x||Slot.u2 b y then .v .undef else .c f x y
 |s=>s
def lB(b:Nat)(ra:Nat→SV)(rm:SV)(ts:List Nat):List Slot→Nat→List Slot
 |[],_=>[]
 |s::l,i=>(bif ts.contains i then AW b ra rm s else s)::lB b ra rm ts l (i+1)
def tx(b:Nat)(ts:List Nat):List Slot→Nat→Bool
 |[],_=>true
 |s::l,i=>(ts.contains i|| !s.has b)&&tx b ts l (i+1)
def pY(b:Nat):List af→Bool
 |[]=>true
 | .one s::l=> !s.has b&&pY b l
 |_::l=>pY b l
def tz(b:Nat)(ra:Nat→SV)(rm:SV)(ts:List Nat)(e:Env):Env:=⟨lB b ra rm ts e.ai 0,e.boxes.set b .none⟩
def mb(b:Nat)(ts:List Nat)(e:Env):Bool:=tx b ts e.ai 0&&pY b e.boxes
def bl:List D→List SV
 |[]=>[]
 |x::l=>x.cells.map .d ++bl l
def gB(x:SV)(sz:Nat)(A:List D→Prop)(B:Prop):Prop:=match x with
 | .bt s L=>s=sz∧A L
 | .d _=>B
 |_=>False
def eP(agg:Bool)(sz:Nat):Nat→List D→Option (List D)
 |0,[]=>some []
 |0,_::_=>none
 |n+1,l=>if sz≤l.length then(match eP agg sz n (l.drop sz)with|some r=>some (br agg (l.take sz)::r)|none=>none)else none
def u3(x:SV):Option SV:=match x with
 | .bt sz L=>some (.own sz L)
 | .d (.sl .nil s L)=>some (.d (.sl .nil (bif Nat.beq s gM then 0 else s) L))
 | .d y=>some (.d y)
 |_=>none
def nW(x:SV):Option SV:=match x with
 | .d (.sl .nil _ L)=>some (.d (.sl .nil gM L))
 | .bt s L=>some (.bt s L)
 |_=>none
def ff(e:Env)(k:Env→Prop):gS→Prop
 | .box t sz=>(match e.ai.getD t (.v .undef)with
   | .v x=>gB x sz (fun L=>k ⟨e.ai.set t (.a e.boxes.length L.length sz),e.boxes++[.cells (bl L)]⟩) (k e)
   |_=>False)
 | .qn t ts=>(match e.ai.getD t (.v .undef)with
   | .a b n _=>(match e.boxes[b]? with
     |some (.cells cs)=>bif mb b ts e then(ab (dG cs) fun ds=>cs.length=n∧k (tz b (fun m=>jA m n (.d (.sl .ro 1 ds))) .undef ts e))else False
     |_=>False)
   | .m b=>(match e.boxes[b]? with
     |some (.map l)=>bif mb b ts e then k (tz b (fun _=>.undef) (.mp l) ts e)else False
     |_=>False)
   | .v _=>k e
   |_=>False)
 | .jE t agg sz ts=>(match e.ai.getD t (.v .undef)with
   | .a b n s=>(match e.boxes[b]? with
     |some (.cells cs)=>bif mb b (t::ts) e&&Nat.beq s sz&&Nat.blt 0 sz&&(agg||Nat.beq sz 1)then(ab (dG cs) fun ds=>ab (eP agg sz n ds) fun L=>
       k ⟨(lB b (fun _=>.undef) .undef (t::ts) e.ai 0).set t (.v (.bt sz L)),e.boxes.set b .none⟩)else False
     |_=>False)
   | .v _=>k e
   |_=>False)
 | .emp t=>(match e.ai.getD t (.v .undef)with
   | .v x=>ab (nW x) fun y=>k ⟨e.ai.set t (.v y),e.boxes⟩
   |_=>False)
 | .jF t=>(match e.ai.getD t (.v .undef)with
   | .v x=>ab (u3 x) fun y=>k ⟨e.ai.set t (.v y),e.boxes⟩
   |_=>False)
 | .ph t ts=>(match e.ai.getD t (.v .undef)with
   | .p c 0=>(match e.boxes[c]? with
     |some (.one (.m b))=>(match e.boxes[b]? with
      |some (.map l)=>bif !(Nat.beq b c)&&tx b ts e.ai 0&&pY b (e.boxes.set c .none)then k ⟨lB b (fun _=>.undef) .undef ts e.ai 0,(e.boxes.set b .none).set c (.cells [.mp l])⟩else False
      |_=>False)
     |_=>False)
   |_=>False)
def gA:List gS→Env→(Env→Prop)→Prop
 |[],e,k=>k e
 |x::l,e,k=>ff e (fun e'=>gA l e' k) x
def jb(o:Oper):Bool:=match o.op with| .store .. | .mapUpdate .. =>true|_=>false
def g4(o:Oper):Bool:=match o.op with| .store .. | .load .. | .call _| .mapUpdate .. | .lookup .. =>true|_=>false
def g6(aE:Bool)(o:Oper):List Nat:=(match o.dst with|some d=>[d]|none=>[])++(bif aE then tmpsOf o else [])
def indep(all:Array Oper)(C9 yM:Bool)(x y:Oper):Bool:=
 (g6 C9 x).all (fun d=> !(y.looksAt all).contains d&& !(g6 yM y).contains d)&&
 (g6 yM y).all (fun d=> !(x.looksAt all).contains d)&&
 !(jb x&&g4 y)&& !(jb y&&g4 x)&&
 !(C9&&yM&&g4 x&&g4 y)
end
end Go.Proofs.Ytimbllcalipehaa.Ab
namespace Go.Proofs.Ytimbllcalipehaa.Ab
open Go Go.RowKit
def D.one:D→Bool
 | .agg _=>false
 |_=>true
def nJ(w w':World)(b o:Nat):Prop:=w'.cell? ⟨b,o,none⟩=w.cell? ⟨b,o,none⟩∧∀es c,w.heap[b]? =some (.map es c)→w'.heap[b]? =some (.map es c)
theorem nJ.refl(w:World)(b o:Nat):nJ w w b o:=⟨rfl,fun _ _ h=>h⟩
theorem nJ.qV{w w':World}{b o:Nat}(h:w'.heap[b]? =w.heap[b]?):nJ w w' b o:=⟨World.cell?_of_block h,fun _ _ hm=>h.trans hm⟩
def sY(w w':World)(g a:Nat):Prop:=a=0→w'.heap[g]? =w.heap[g]?
theorem sY.refl(w:World)(g a:Nat):sY w w g a:=fun _=>rfl
theorem sY.trans{w w' Gv:World}{g a:Nat}(h:sY w w' g a)(k:sY w' Gv g a):sY w Gv g a:=fun h0=>(k h0).trans (h h0)
def u4:KS→Value→Prop
 | .bool b,v=>v=.bool b
 | .int k n,v=>v=.int k n∧ga k n=true
 | .str s,v=>∃b:ByteArray,v=.string b∧b.data.toList=s∧b.size≤maxLen
def MK.Is:MK→Value→Prop
 | .i n,v=>v=.int .i64 n∧ga .i64 n=true
 | .s l,v=>∃vs:Array Value,v=.agg vs∧vs.size=l.length∧∀(i:Nat)k u,l[i]? =some k→vs[i]? =some u→u4 k u
section
variable(w:World)(St:Nat→Nat→Prop)
inductive aY:D→Value→Prop
 |bool (b:Bool):aY (.bool b) (.bool b)
 |int (k:IntKind) (n:Int) (h:ga k n=true):aY (.int k n) (.int k n)
 |str (s:ByteArray) (h:s.size≤maxLen):aY (.str s.data.toList) (.string s)
 |agg (ds:List D) (vs:Array Value) (hf:∀d∈ds,d.one=true) (hl:ds.length=vs.size) (hc:∀(i:Nat)d v,ds[i]? =some d→vs[i]? =some v→aY d v):aY (.agg ds) (.agg vs)
 |ir (sz:Nat):aY (.sl .nil sz []) (.slice none 0 0)
 |sl (sz:Nat) (L:List D) (b off cap:Nat) (vs:Nat→Value) (bJ:L.length≤cap) (hm:L.length≤maxLen) (aM:∀x∈L,x.cells.length=sz)
   (hf:∀x∈L,∀c∈x.cells,c.one=true) (aP:∀(o:Nat),o<L.length*sz→w.cell? ⟨b,off+o,none⟩=some (vs o)∧St b (off+o))
   (hc:∀(i:Nat)x(j:Nat)c,L[i]? =some x→x.cells[j]? =some c→aY c (vs (i*sz+j))):
   aY (.sl .ro sz L) (.slice (some ⟨b,off,none⟩) L.length cap)
 |j6 (sz:Nat) (a:Addr) (cap:Nat) (ha:a.spot≠none):aY (.sl .ro sz []) (.slice (some a) 0 cap)
 |fn (f:Fn):aY (.fn f) (.func f #[] #[])
 |tp:aY .tp .nilFunc
 |iface (t:TypeId) (x:D) (v:Value) (h:aY x v):aY (.iface t x) (.iface t v)
 |tq:aY .tq .nilIface
 |nN:aY .nN (.pointer none)
inductive aJ(base:Nat):(Nat→Nat→Nat→Prop)→SV→Value→Prop
 |d (O:Nat→Nat→Nat→Prop) (x:D) (v:Value) (h:aY w St x v):aJ base O (.d x) v
 |own (O:Nat→Nat→Nat→Prop) (sz:Nat) (L:List D) (g cap:Nat) (h:aY w St (.sl .ro sz L) (.slice (some ⟨g,0,none⟩) L.length cap)) (bJ:cap≤maxLen)
   (ho:O g (L.length*sz) (cap*sz)):aJ base O (.own sz L) (.slice (some ⟨g,0,none⟩) L.length cap)
 |full (O:Nat→Nat→Nat→Prop) (sz:Nat) (L:List D) (a:Addr) (h:aY w St (.sl .ro sz L) (.slice (some a) L.length L.length)):
   aJ base O (.full sz L) (.slice (some a) L.length L.length)
 |ref (O:Nat→Nat→Nat→Prop) (cs:List SV) (off b o:Nat) (vs:Nat→Value) (hb:b<base)
   (aP:∀(i:Nat),i<cs.length→w.cell? ⟨b,o+i,none⟩=some (vs i)∧(vs i).oneCell' =true)
   (hc:∀(i:Nat)c,cs[i]? =some c→aJ base (fun _ _ _=>False) c (vs i)):aJ base O (.ref cs off) (.pointer (some ⟨b,o+off,none⟩))
 |cG (O:Nat→Nat→Nat→Prop) (n sz:Nat) (cs:List SV) (b cap:Nat) (vs:Nat→Value) (hb:b<base) (hn:n≤cap) (hm:cap≤maxLen)
   (aP:∀(i:Nat),i<cs.length→w.cell? ⟨b,0+i,none⟩=some (vs i)∧(vs i).oneCell' =true)
   (hc:∀(i:Nat)c,cs[i]? =some c→aJ base (fun _ _ _=>False) c (vs i)):aJ base O (.cG n sz cs) (.slice (some ⟨b,0,none⟩) n cap)
 |aT (O:Nat→Nat→Nat→Prop) (x:D) (off b o:Nat) (vs:Nat→Value) (hf:∀c∈x.cells,c.one=true)
   (aP:∀(i:Nat),i<x.cells.length→w.cell? ⟨b,o+i,none⟩=some (vs i)∧St b (o+i))
   (hc:∀(i:Nat)c,x.cells[i]? =some c→aY w St c (vs i)):aJ base O (.aT x off) (.pointer (some ⟨b,o+off,none⟩))
 |di (O:Nat→Nat→Nat→Prop) (f:Fn) (first cap:List SV) (fv cv:Array Value) (hf:first.length=fv.size) (hc:cap.length=cv.size)
   (rf:∀(i:Nat)x v,first[i]? =some x→fv[i]? =some v→aJ base (fun _ _ _=>False) x v)
   (rc:∀(i:Nat)x v,cap[i]? =some x→cv[i]? =some v→aJ base (fun _ _ _=>False) x v):aJ base O (.di f first cap) (.func f fv cv)
 |bt (O:Nat→Nat→Nat→Prop) (sz:Nat) (L:List D) (g cap:Nat) (vs:Nat→Value) (bJ:L.length≤cap) (hm:cap≤maxLen) (aM:∀x∈L,x.cells.length=sz) (hf:∀x∈L,∀c∈x.cells,c.one=true)
   (ho:O g 0 (cap*sz)) (aP:∀(o:Nat),o<L.length*sz→w.cell? ⟨g,o,none⟩=some (vs o))
   (hc:∀(i:Nat)x(j:Nat)c,L[i]? =some x→x.cells[j]? =some c→aY w St c (vs (i*sz+j))):aJ base O (.bt sz L) (.slice (some ⟨g,0,none⟩) L.length cap)
 |mp (O:Nat→Nat→Nat→Prop) (l:List (MK×D)) (r:Nat) (es:Array MapEntry) (clock:Nat) (hh:w.heap[r]? =some (.map es clock)) (hs:St r 0) (hl:l.length=es.size)
   (hc:∀(i:Nat)x y,l[i]? =some x→es[i]? =some y→x.1.Is y.key∧True∧aY w St x.2 y.val):aJ base O (.mp l) (.map (some r))
 |undef (O:Nat→Nat→Nat→Prop) (v:Value):aJ base O .undef v
end
theorem aY.mono{w w':World}{St bH:Nat→Nat→Prop}(h:∀b o,St b o→bH b o∧w'.cell? ⟨b,o,none⟩=w.cell? ⟨b,o,none⟩){d:D}{v:Value}
  (r:aY w St d v):aY w' bH d v:=by
 induction r with
 |bool b=>exact .bool b
 |int k n hk=>exact .int k n hk
 |str s hs=>exact .str s hs
 |agg ds vs hf hl _ ih=>exact .agg ds vs hf hl ih
 |ir sz=>exact .ir sz
 |sl sz L b off cap vs bJ hm aM hf aP _ ih=>
  exact .sl sz L b off cap vs bJ hm aM hf (fun o ho=>⟨(h _ _ (aP o ho).2).2.trans (aP o ho).1,(h _ _ (aP o ho).2).1⟩) ih
 |j6 sz a cap ha=>exact .j6 sz a cap ha
 |fn f=>exact .fn f
 |tp=>exact .tp
 |iface t x v _ ih=>exact .iface t x v ih
 |tq=>exact .tq
 |nN=>exact .nN
theorem aJ.mono{w w':World}{St bH:Nat→Nat→Prop}{base:Nat}(h0:∀b o,St b o→bH b o∧nJ w w' b o)
  (hb:∀b o,b<base→w'.cell? ⟨b,o,none⟩=w.cell? ⟨b,o,none⟩){O:Nat→Nat→Nat→Prop}{x:SV}{v:Value}(r:aJ w St base O x v):
  ∀O':Nat→Nat→Nat→Prop,(∀g a c,O g a c→O' g a c∧sY w w' g a)→aJ w' bH base O' x v:=by
 have h:∀b o,St b o→bH b o∧w'.cell? ⟨b,o,none⟩=w.cell? ⟨b,o,none⟩:=fun b o hs=>⟨(h0 b o hs).1,(h0 b o hs).2.1⟩
 induction r with
 |d O x v hd=>exact fun O' _=>.d O' x v (hd.mono h)
 |own O sz L g cap hd bJ ho=>exact fun O' hO=>.own O' sz L g cap (hd.mono h) bJ (hO _ _ _ ho).1
 |full O sz L a hd=>exact fun O' _=>.full O' sz L a (hd.mono h)
 |ref O cs off b o vs ef aP _ ih=>exact fun O' _=>.ref O' cs off b o vs ef (fun i hi=>⟨(hb _ _ ef).trans (aP i hi).1,(aP i hi).2⟩) fun i c hc=>ih i c hc _ (fun _ _ _ h=>h.elim)
 |cG O n sz cs b cap vs ef hn hm aP _ ih=>exact fun O' _=>.cG O' n sz cs b cap vs ef hn hm (fun i hi=>⟨(hb _ _ ef).trans (aP i hi).1,(aP i hi).2⟩) fun i c hc=>ih i c hc _ (fun _ _ _ h=>h.elim)
 |aT O x off b o vs hf aP hc=>
  exact fun O' _=>.aT O' x off b o vs hf (fun i hi=>⟨(h _ _ (aP i hi).2).2.trans (aP i hi).1,(h _ _ (aP i hi).2).1⟩) fun i c hi=>(hc i c hi).mono h
 |di O f first cap fv cv hf hc _ _ iV iW=>exact fun O' _=>.di O' f first cap fv cv hf hc (fun i x v a b=>iV i x v a b _ (fun _ _ _ h=>h.elim)) (fun i x v a b=>iW i x v a b _ (fun _ _ _ h=>h.elim))
 |bt O sz L g cap vs bJ hm aM hf ho aP hc=>
  exact fun O' hO=>.bt O' sz L g cap vs bJ hm aM hf (hO _ _ _ ho).1 (fun o bO=>(World.cell?_of_block ((hO _ _ _ ho).2 rfl)).trans (aP o bO)) fun i x j c hx gF=>(hc i x j c hx gF).mono h
 |mp O l r es clock hh hs hl hc=>exact fun O' _=>.mp O' l r es clock ((h0 r 0 hs).2.2 es clock hh) (h r 0 hs).1 hl fun i x y a b=>⟨(hc i x y a b).1,(hc i x y a b).2.1,(hc i x y a b).2.2.mono h⟩
 |undef O v=>exact fun O' _=>.undef O' v
theorem aJ.aa{w:World}{St:Nat→Nat→Prop}{base:Nat}{O O':Nat→Nat→Nat→Prop}{x:SV}{v:Value}(r:aJ w St base O x v):aJ w St base O' (aa x) v:=by
 cases r with
 |d _ x v hd=>exact .d _ x v hd
 |own _ sz L g cap hd bJ ho=>exact .d _ _ _ hd
 |full _ sz L a hd=>exact .full _ sz L a hd
 |ref _ cs off b o vs ef aP hc=>exact .ref _ cs off b o vs ef aP hc
 |cG _ n sz cs b cap vs ef hn hm aP hc=>exact .cG _ n sz cs b cap vs ef hn hm aP hc
 |aT _ x off b o vs hf aP hc=>exact .aT _ x off b o vs hf aP hc
 |di _ f first cap fv cv hf hc rf rc=>exact .di _ f first cap fv cv hf hc rf rc
 |bt _ sz L g cap vs bJ hm aM hf ho aP hc=>exact .undef _ _
 |mp _ l r es clock hh hs hl hc=>exact .mp _ l r es clock hh hs hl hc
 |undef _ v=>exact .undef _ _
theorem aJ.cT{w:World}{St:Nat→Nat→Prop}{base:Nat}{O:Nat→Nat→Nat→Prop}{x:SV}{v:Value}(r:aJ w St base O x v){y:D}(h:Ab.cT x=some y):aY w St y v:=by
 cases r<;>simp only[Ab.cT,Option.some.injEq,reduceCtorEq]at h<;>subst h<;>assumption
mutual
def SV.Wf:SV→Prop
 | .d x=>x.Wf
 | .own sz L=>(D.sl .ro sz L).Wf
 | .full sz L=>(D.sl .ro sz L).Wf
 | .bt sz L=>(D.sl .ro sz L).Wf
 | .ref cs _=>SV.gb cs
 | .cG _ _ cs=>SV.gb cs
 | .aT x _=>D.gb x.cells
 | .di _ a b=>SV.gb a∧SV.gb b
 | .aH l=>SV.gb l
 | .mp l=>∀x∈l,x.2.Wf
 | .undef =>True
def SV.gb:List SV→Prop
 |[]=>True
 |x::l=>x.Wf∧SV.gb l
end
theorem D.ki:∀(l:List D),D.gb l↔∀x∈l,x.Wf
 |[]=>by simp[D.gb]
 |x::l=>by simp[D.gb,D.ki l]
theorem SV.ki:∀(l:List SV),SV.gb l↔∀x∈l,x.Wf
 |[]=>by simp[SV.gb]
 |x::l=>by simp[SV.gb,SV.ki l]
theorem aY.OT{w:World}{St:Nat→Nat→Prop}{d:D}{v:Value}(r:aY w St d v):∀c∈d.cells,c.one=true:=by
 cases r with
 |agg ds vs hf hl hc=>exact hf
 |_=>intro c hc;simp only[D.cells,List.mem_singleton]at hc;subst hc;rfl
theorem aY.rb{w:World}{St:Nat→Nat→Prop}{d:D}{v:Value}(r:aY w St d v)(h:d.one=true):v.oneCell'=true:=by
 cases r<;>first|rfl|simp[D.one]at h
theorem aY.wf{w:World}{St:Nat→Nat→Prop}{d:D}{v:Value}(r:aY w St d v):d.Wf:=by
 induction r with
 |int k n hk=>simpa[D.Wf]using hk
 |str s hs=>rw[D.Wf];exact hs
 |agg ds vs hf hl _ ih=>
  rw[D.Wf,D.ki]
  intro x hx
  obtain⟨i,hi,rfl⟩:=List.mem_iff_getElem.1 hx
  exact ih i _ (vs[i]'(by omega)) (by simp) (by simp)
 |ir sz=>simp[D.Wf,D.gb]
 |j6 sz a cap=>simp[D.Wf,D.gb]
 |sl sz L b off cap vs bJ hm aM hf aP hc ih=>
  rw[D.Wf]
  refine⟨hm,by simp,aM,?_⟩
  rw[D.ki]
  intro x hx
  obtain⟨i,hi,rfl⟩:=List.mem_iff_getElem.1 hx
  have key:∀c∈(L[i]).cells,c.Wf:=fun c fD=>by
   obtain⟨j,hj,rfl⟩:=List.mem_iff_getElem.1 fD
   exact ih i _ j _ (List.getElem?_eq_getElem hi) (List.getElem?_eq_getElem hj)
  cases hL:L[i]with
  |agg cs=>rw[hL]at key;rw[D.Wf,D.ki];exact key
  |_=>rw[hL]at key;exact key _ (by simp[D.cells])
 |iface t x v _ ih=>simpa[D.Wf]using ih
 |_=>simp[D.Wf]
theorem aJ.wf{w:World}{St:Nat→Nat→Prop}{base:Nat}{O:Nat→Nat→Nat→Prop}{x:SV}{v:Value}(r:aJ w St base O x v):x.Wf:=by
 induction r with
 |d O x v hd=>simpa[SV.Wf]using hd.wf
 |own O sz L g cap hd bJ ho=>simpa[SV.Wf]using hd.wf
 |full O sz L a hd=>simpa[SV.Wf]using hd.wf
 |bt O sz L g cap vs bJ hm aM hf ho aP hc=>
  rw[SV.Wf,D.Wf]
  refine⟨Nat.le_trans bJ hm,by simp,aM,?_⟩
  rw[D.ki]
  intro x hx
  obtain⟨i,hi,rfl⟩:=List.mem_iff_getElem.1 hx
  have key:∀c∈(L[i]).cells,c.Wf:=fun c fD=>by
   obtain⟨j,hj,rfl⟩:=List.mem_iff_getElem.1 fD
   exact(hc i _ j _ (List.getElem?_eq_getElem hi) (List.getElem?_eq_getElem hj)).wf
  cases hL:L[i]with
  |agg cs=>rw[hL]at key;rw[D.Wf,D.ki];exact key
  |_=>rw[hL]at key;exact key _ (by simp[D.cells])
 |ref O cs off b o vs ef aP _ ih=>
  rw[SV.Wf,SV.ki]
  intro x hx
  obtain⟨i,hi,rfl⟩:=List.mem_iff_getElem.1 hx
  exact ih i _ (by simp)
 |cG O n sz cs b cap vs ef hn hm aP _ ih=>
  rw[SV.Wf,SV.ki]
  intro x hx
  obtain⟨i,hi,rfl⟩:=List.mem_iff_getElem.1 hx
  exact ih i _ (by simp)
 |aT O x off b o vs hf aP hc=>
  rw[SV.Wf,D.ki]
  intro c fD
  obtain⟨j,hj,rfl⟩:=List.mem_iff_getElem.1 fD
  exact(hc j _ (by simp)).wf
 |di O f first cap fv cv hf hc _ _ iV iW=>
  rw[SV.Wf,SV.ki,SV.ki]
  constructor
  ·intro x hx
   obtain⟨i,hi,rfl⟩:=List.mem_iff_getElem.1 hx
   exact iV i _ (fv[i]'(by omega)) (by simp) (by simp)
  ·intro x hx
   obtain⟨i,hi,rfl⟩:=List.mem_iff_getElem.1 hx
   exact iW i _ (cv[i]'(by omega)) (by simp) (by simp)
 |mp O l r es clock hh hs hl hc=>
  rw[SV.Wf]
  intro x hx
  obtain⟨i,hi,rfl⟩:=List.mem_iff_getElem.1 hx
  exact(hc i _ (es[i]'(by omega)) (by simp) (by simp)).2.2.wf
 |undef=>simp[SV.Wf]
inductive Pos where
 |s (i j:Nat)
 |b (i j:Nat)
 deriving DecidableEq
structure Gh where
 St:Nat→Nat→Prop
 bx:List (Option Nat)
 ow:Nat→Option Pos
def eJ(base:Nat)(w:World)(g:Gh)(p:Pos)(b a c:Nat):Prop:=
 g.ow b=some p∧base≤b∧some b∉g.bx∧(∃cur e,w.heap[b]? =some (.cells cur e (0,0))∧cur.size=c)∧∀o,a≤o→¬g.St b o
inductive cg(base:Nat)(w:World)(g:Gh):(Nat→Nat→Nat→Nat→Prop)→Slot→Value→Prop
 |v (O:Nat→Nat→Nat→Nat→Prop) (x:SV) (y:Value) (h:aJ w g.St base (O 0) x y):cg base w g O (.v x) y
 |p (O:Nat→Nat→Nat→Nat→Prop) (b off aj:Nat) (h:g.bx[b]? =some (some aj)):cg base w g O (.p b off) (.pointer (some ⟨aj,off,none⟩))
 |c (O:Nat→Nat→Nat→Nat→Prop) (f:Fn) (first cap:List Slot) (fv cv:Array Value) (hf:first.length=fv.size) (hc:cap.length=cv.size)
   (rf:∀(i:Nat)x v,first[i]? =some x→fv[i]? =some v→cg base w g (fun _ _ _ _=>False) x v)
   (rc:∀(i:Nat)x v,cap[i]? =some x→cv[i]? =some v→cg base w g (fun _ _ _ _=>False) x v):cg base w g O (.c f first cap) (.func f fv cv)
 |a (O:Nat→Nat→Nat→Nat→Prop) (b n sz:Nat) (v:Value) (hm:n≤maxLen) (h:∃aj cap,g.bx[b]? =some (some aj)∧n≤cap∧v=.slice (some ⟨aj,0,none⟩) n cap∧cap≤maxLen∧∃c ty,w.heap[aj]? =some (.cells c ty (0,0))∧c.size=cap*sz):cg base w g O (.a b n sz) v
 |m (O:Nat→Nat→Nat→Nat→Prop) (b aj:Nat) (h:g.bx[b]? =some (some aj)):cg base w g O (.m b) (.map (some aj))
 |t (O:Nat→Nat→Nat→Nat→Prop) (xs:List SV) (vs:Array Value) (hl:xs.length=vs.size)
   (hc:∀(j:Nat)x v,xs[j]? =some x→vs[j]? =some v→aJ w g.St base (O j) x v):cg base w g O (.t xs) (.tuple vs)
def eW(base:Nat)(w:World)(g:Gh)(i j:Nat):Nat→Nat→Nat→Prop:=eJ base w g (.s i j)
def rD(base:Nat)(w:World)(g:Gh)(i j:Nat):Nat→Nat→Nat→Prop:=eJ base w g (.b i j)
def af.size:af→Nat
 | .cells cs=>cs.length
 | .one _=>1
 |_=>0
def RR(base:Nat)(w:World)(g:Gh)(b:Nat)(bx:af)(aj:Nat):Prop:=
 base≤aj∧∃c t,w.heap[aj]? =some (.cells c t (0,0))∧(∀(j:Nat)y,j<bx.size→c[j]? =some y→y.oneCell'=true)∧match bx with
  | .none =>False
  | .map _=>False
  | .cells cs=>cs.length≤c.size∧∀(j:Nat)x y,cs[j]? =some x→c[j]? =some y→aJ w g.St base (rD base w g b j) x y
  | .one s=>0<c.size∧∀y,c[0]? =some y→cg base w g (fun _=>rD base w g b 0) s y
def adx(base:Nat)(w:World)(g:Gh)(l:List (MK×D))(aj:Nat):Prop:=
 base≤aj∧∃es clock,w.heap[aj]? =some (.map es clock)∧l.length=es.size∧∀(i:Nat)x y,l[i]? =some x→es[i]? =some y→x.1.Is y.key∧True∧aY w g.St x.2 y.val
def nX(base:Nat)(w:World)(g:Gh)(b:Nat)(bx:af)(aj:Nat):Prop:=match bx with
 | .map l=>adx base w g l aj
 | .none =>False
 | .cells cs=>RR base w g b (.cells cs) aj
 | .one s=>RR base w g b (.one s) aj
theorem nX.low{base:Nat}{w:World}{g:Gh}{b:Nat}{bx:af}{aj:Nat}(h:nX base w g b bx aj):base≤aj:=by
 cases bx<;>first|exact h.1|exact h.elim
def uJ(gl:Nat→Option D)(w:World)(St:Nat→Nat→Prop):Prop:=
 ∀n x,gl n=some x→(∀c∈x.cells,c.one=true)∧∃vs:Nat→Value,(∀(i:Nat),i<x.cells.length→w.cell? ⟨n,i,none⟩=some (vs i)∧St n i)∧∀(i:Nat)c,x.cells[i]? =some c→aY w St c (vs i)
structure S0 where
 St:Nat→Nat→Prop
 df:Nat→Obj→Prop
 cl:Nat→Nat→Value→Prop
 sz:Nat:=0
instance:CoeFun S0 (fun _=>Nat→Nat→Prop):=⟨S0.St⟩
theorem fJ{w:World}{D:Nat}{x:Obj}(h:w.heap[D]? =some x):D<w.heap.size:=(Array.getElem?_eq_some_iff.1 h).1
structure Inv(gl:Nat→Option D)(w0:World)(ao:S0)(e:Env)(a:Act)(w:World)(g:Gh):Prop where
 below:Below w0.heap.size w0 w
 size:a.tmps.size=e.ai.length
 ai:∀(i:Nat)s,e.ai[i]? =some s→cg w0.heap.size w g (eW w0.heap.size w g i) s (a.tmps.getD i undef)
 eX:g.bx.length=e.boxes.length
 boxes:∀(b:Nat)bx aj,e.boxes[b]? =some bx→g.bx[b]? =some (some aj)→nX w0.heap.size w g b bx aj
 nodup:∀(i j:Nat)aj,g.bx[i]? =some (some aj)→g.bx[j]? =some (some aj)→i=j
 fN:∀b o,ao b o→g.St b o
 cE:∀b o,g.St b o→(ao b o∨w0.heap.size≤b)∧some b∉g.bx∧b<w.heap.size
 dn:∀b,some b∈g.bx→w0.heap.size≤b∧b<w.heap.size
 j3:uJ gl w g.St
 defers:a.defers=[]
 eN:∀(D:Nat)(o:Obj),ao.df D o→some D∉g.bx∧g.ow D=none∧w.heap[D]? =some o∧∀x,g.St D x→ao.St D x
 cls:∀(b o:Nat)(v:Value),ao.cl b o v→g.St b o∧w.cell? ⟨b,o,none⟩=some v
 jq:ao.sz≤w.heap.size
end Go.Proofs.Ytimbllcalipehaa.Ab
namespace Go.Proofs.Ytimbllcalipehaa.Ab
open Go
def reach:(acc:List Nat)→List Oper→List Nat
 |acc,[]=>acc
 |acc,o::l=>reach (acc++[o.after.toList.foldl (fun s e=>bif Region.binds .any e then s|||2^e.on|||acc.getD e.on 0 else s) 0]) l
def mH(o:Oper):Option Nat:=match o.op,o.guard with| .alloc _,none=>o.dst|_,_=>none
def j1(l:List Oper):List Nat:=l.filterMap mH
def Du(A:List Nat):Operand→Bool
 | .tmp t=>A.contains t
 |_=>false
def nP(A:List Nat)(o:Oper):Option Nat:=match o.op with
 | .store _ (.tmp a) _=>bif A.contains a then some a else none
 |_=>none
def CM(A:List Nat)(aE:Bool)(o:Oper):Bool:=
 (match mH o with|some _=>true|none=> !fT o&&(match o.dst with|some d=> !A.contains d|none=>true))&&
 (match o.op with
   | .store _ x y=> !Du A y&&(!Du A x|| !aE)
   |op=>op.operands.toList.all fun x=> !Du A x)
def Fx:List Nat→Bool
 |[]=>true
 |a::l=> !l.contains a&&Fx l
def Ce(a m:Nat):List Oper→Nat→Bool
 |[],_=>true
 |o::l,i=>(match mH o with|some b=> !(Nat.beq a b)||Nat.testBit m i|none=>true)&&Ce a m l (i+1)
def E5(all:List Oper)(A:List Nat)(aE:Nat→Bool)(R:List Nat):List Oper→Nat→Bool
 |[],_=>true
 |o::l,i=>CM A (aE i) o&&(match nP A o with|some a=>Ce a (R.getD i 0) all 0|none=>true)&&E5 all A aE R l (i+1)
def eligible(l:List Oper)(aE:Nat→Bool)(R:List Nat):Bool:=Fx (j1 l)&&E5 l (j1 l) aE R l 0
def FP(A:List Nat)(lx ly:Bool)(x y:Oper):Bool:=match nP A x,nP A y with
 |some a,some b=> !(Nat.beq a b)&& !lx&& !ly
 |some _,none=> !lx&& !jb y&& !ly
 |none,some _=> !ly&& !jb x&& !lx
 |none,none=>false
def JH(all:Array Oper)(A:List Nat)(C9 yM:Bool)(x y:Oper):Bool:=
 (g6 C9 x).all (fun d=> !(y.looksAt all).contains d&& !(g6 yM y).contains d)&&
 (g6 yM y).all (fun d=> !(x.looksAt all).contains d)&&FP A C9 yM x y
def AB(E:Option (List Nat))(all:Array Oper)(lx ly:Bool)(x y:Oper):Bool:=
 indep all lx ly x y||(match E with|some A=>JH all A lx ly x y|none=>false)
def Fy(E:Option (List Nat))(ops:Array Oper)(aE:Nat→Bool)(R:List Nat)(i:Nat)(o:Oper):List Oper→Nat→Bool
 |[],_=>true
 |p::l,j=>(Nat.testBit (R.getD j 0) i||AB E ops (aE i) (aE j) o p)&&Fy E ops aE R i o l (j+1)
def yj(E:Option (List Nat))(ops:Array Oper)(aE:Nat→Bool)(R:List Nat):List Oper→Nat→Bool
 |[],_=>true
 |o::l,i=>o.after.toList.all (fun e=> !Region.binds .any e||Nat.blt e.on i)&&Fy E ops aE R i o l (i+1)&&yj E ops aE R l (i+1)
def rv(aE:Nat→Bool)(ops:Array Oper):Bool:=
 bif eligible ops.toList aE (reach [] ops.toList)then yj (some (j1 ops.toList)) ops aE (reach [] ops.toList) ops.toList 0
 else yj none ops aE (reach [] ops.toList) ops.toList 0
def nQ(m:Nat):List Oper→Nat→List Nat
 |[],_=>[]
 |o::l,i=>bif !Nat.testBit m i&&o.after.toList.all (fun e=> !Region.binds .any e||Nat.testBit m e.on)then i::nQ m l (i+1)else nQ m l (i+1)
def FQ(ops:Array Oper)(aE:Nat→Bool)(R:List Nat)(m i:Nat)(o:Oper):List Oper→Nat→Bool
 |[],_=>true
 |p::l,j=>(Nat.beq i j||Nat.testBit m j||Nat.testBit (R.getD j 0) i||indep ops (aE i) (aE j) o p)&&FQ ops aE R m i o l (j+1)
def Fz(ops:Array Oper)(aE:Nat→Bool)(R:List Nat)(m i:Nat):Bool:=match ops.toList[i]? with
 |some o=>FQ ops aE R m i o ops.toList 0
 |none=>false
def firstFree(ops:Array Oper)(aE:Nat→Bool)(R:List Nat)(m:Nat):List Nat→Option Nat
 |[]=>none
 |i::l=>bif Fz ops aE R m i then some i else firstFree ops aE R m l
def RS(ops:Array Oper)(aE:Nat→Bool)(R:List Nat)(m:Nat):List Nat:=match firstFree ops aE R m (nQ m ops.toList 0)with
 |some i=>[i]
 |none=>nQ m ops.toList 0
def F7(f:Nat→Prop):List Nat→Prop
 |[]=>True
 |i::l=>match l with|[]=>f i|_=>f i∧F7 f l
def ady(gh:List (Nat×List gS))(id:Nat):Bool:=gh.any fun p=>Nat.beq p.1 id&&p.2.isEmpty
mutual
def SV.ax:SV→Bool
 | .ref _ _=>false
 | .cG _ _ _=>false
 | .di _ a b=>SV.gy a&&SV.gy b
 | .aH l=>SV.gy l
 |_=>true
def SV.gy:List SV→Bool
 |[]=>true
 |x::l=>SV.ax x&&SV.gy l
end
def Ap(ws vars consts:List Nat):List Slot→Nat→Bool
 |[],_=>true
 |s::l,t=>(match s with| .v _=>true| .t _=>true|_=>ws.contains t||(!vars.contains t&&consts.contains t))&&Ap ws vars consts l (t+1)
section
variable(P:Program)(gl:Nat→Option D)(C:bd)(h:Hints)
def yN(ops:Array Oper)(aE:Nat→Bool)(R:List Nat)(base:Nat)(Q:Env→Prop):Nat→Nat→Env→Prop
 |0,m,e=>bif (nQ m ops.toList 0).isEmpty then Q e else False
 |n+1,m,e=>bif (nQ m ops.toList 0).isEmpty then Q e else
   F7 (fun i=>match ops.toList[i]? with
    |some o=>yx ops.toList o e (fun e'=>mP P gl C (base+fK ops.toList i) (aE i) o e' fun kY=>yN ops aE R base Q n (m|||2^i) kY) (fun e'=>yN ops aE R base Q n (m|||2^i) ⟨cz e'.ai o.dst (.t []),e'.boxes⟩)
    |none=>False) (RS ops aE R m)
def aet(ops:Array Oper)(aE:Nat→Bool)(e:Env)(Q:Env→Prop):Prop:=
 yN P gl C ops aE (reach [] ops.toList) e.boxes.length Q ops.toList.length 0 ⟨e.ai,e.boxes++List.replicate (fK ops.toList ops.toList.length) .none⟩
def u5(ok:Bool)(ops:Array Oper)(aE:Nat→Bool)(e:Env)(Q:Env→Prop)(e':Env):Prop:=
 bif ok then Q e' else aet P gl C ops aE e (fun x=>x=e')∧Q e'
def nU(e:Env)(c:Operand)(A B:Env→Prop):Prop:=match c with
 | .tmp t=>(match e.ai.getD t (.v .undef)with
   | .v x=>au x (A (e.wW t true)) (B (e.wW t false))
   |_=>False)
 | .const (.bool b)=>cond b (A e) (B e)
 |_=>False
def abt(a b:Code):Nat:=bif Nat.beq (l6 a) 0 then l6 b else l6 a
def o8(A:(List SV→List (List SV)→Prop)→Prop)(F:List SV→List (List SV)→Prop):Prop:=A F
def pZ(key:Nat)(c:Code)(e:Env)(Q:Ex→Env→Prop)(T:(Ex→Env→Prop)→Prop):Prop:=
 match mK h.eM key with
 |([],[])=>T Q
 |(vars,consts)=>bif consts.all (fun t=> !(cD h.gh c).contains t)&&Ap (cD h.gh c) vars consts e.ai 0 then
    o8 (fun J=>T (fun x e'=>match x with| .normal =>J (td e' vars) (sX e.boxes.length e')| .exit i=>Q (.exit i) e'| .ret =>Q .ret e'))
     (fun vs bs=>Q .normal ⟨qQ vars consts vs e.ai 0,qR bs e.boxes 0⟩)
  else False
inductive Spec where
 |vB (t d:Nat) (ty:TypeId)
 |cut (t d1 d2:Nat) (ty:TypeId)
 |u6 (t d:Nat) (f:FuncId) (dst:Nat)
 |uU (t d t2 d2:Nat) (f:FuncId) (dst:Nat)
def uK(draw:Bool)(ops:List Oper):Option Spec:=bif draw then none else(match ops with
 |[o1,o2]=>(match o1.op,o1.dst,o1.guard,o2.op,o2.dst,o2.guard with
  | .move (.tmp t),some d,none,.call c,none,none=>(match c.callee,c.args.toList,c.argTypes.toList with
    | .builtin .clear,[.tmp d'],[ty]=>bif Nat.beq d d'&& !(Nat.beq t d)then some (.vB t d ty)else none
    |_,_,_=>none)
  | .move (.tmp t),some d,none,.call c,some u,none=>(match c.callee,c.args.toList with
    | .value (.func f),[.tmp d']=>bif Nat.beq (arity P o2.type) 0&&(Nat.beq d d'&& !(Nat.beq t d)&& !(Nat.beq u d)&& !(Nat.beq u t))then some (.u6 t d f u)else none
    |_,_=>none)
  |_,_,_,_,_,_=>none)
 |[o1,o2,o3]=>(match o1.op,o1.dst,o1.guard,o2.op,o2.dst,o2.guard,o3.op,o3.dst,o3.guard with
  | .move (.tmp t),some d1,none,.slice ty (.tmp Lf) none (some (.const (.int .i64 0))) none,some d2,none,.assign (.tmp ze),some t',none=>
    bif Nat.beq d1 Lf&&Nat.beq d2 ze&&Nat.beq t t'&& !(Nat.beq t d1)&& !(Nat.beq t d2)&& !(Nat.beq d1 d2)then some (.cut t d1 d2 ty)else none
  | .move (.tmp t),some d,none,.move (.tmp t2),some d2,none,.call c,some u,none=>(match c.callee,c.args.toList with
    | .value (.func f),[.tmp d',.tmp ze]=>bif Nat.beq (arity P o3.type) 0&&(Nat.beq d d'&&Nat.beq d2 ze&& !(Nat.beq t d)&& !(Nat.beq u d)&& !(Nat.beq u t)&& !(Nat.beq d2 d)&& !(Nat.beq d2 t)&& !(Nat.beq t2 d))then some (.uU t d t2 d2 f u)else none
    |_,_=>none)
  |_,_,_,_,_,_,_,_,_=>none)
 |_=>none)
def u7(ty:TypeId)(x:SV):Option SV:=match nI P ty with
 |some e=>(match dY P e,tc P e with
  |some 1,some z=>(match x with
   | .d (.sl .nil s _)=>some (.d (.sl .nil s []))
   | .bt s L=>if s=1 then some (.bt 1 (L.map fun _=>z))else none
   |_=>none)
  |_,_=>none)
 |none=>none
def u9(ty:TypeId)(x:SV):Option SV:=match nI P ty with
 |some e=>(match dY P e with
  |some sz=>(match x with
   | .d (.sl .nil s _)=>some (.d (.sl .nil s []))
   | .bt s _=>if s=sz then some (.bt sz [])else none
   |_=>none)
  |none=>none)
 |none=>none
def iu(e:Env)(k:Env→Prop):Spec→Prop
 | .vB t d ty=>(match e.ai.getD t (.v .undef)with
   | .v x=>bif Nat.blt d e.ai.length then(ab (u7 P ty x) fun y=>k ⟨(e.ai.set d (.v .undef)).set t (.v y),e.boxes⟩)else False
   |_=>False)
 | .cut t d1 d2 ty=>(match e.ai.getD t (.v .undef)with
   | .v x=>bif Nat.blt d1 e.ai.length&&Nat.blt d2 e.ai.length then(ab (u9 P ty x) fun y=>k ⟨((e.ai.set d1 (.v .undef)).set d2 (.v .undef)).set t (.v y),e.boxes⟩)else False
   |_=>False)
 | .u6 t d f u=>(match e.ai.getD t (.v .undef)with
   | .v x=>bif Nat.blt d e.ai.length then(∃bk,C f (qa 0 [x]) (.aH [bk])∧aa bk=aa x∧k ⟨((((((e.ai.set t (.v (aa x))).set d (.v x)).set d (.v bk)).set u (.t [])).set d (.v (aa bk)))).set t (.v bk),e.boxes⟩)else False
   |_=>False)
 | .uU t d t2 d2 f u=>(match e.ai.getD t (.v .undef)with
   | .v x=>bif Nat.blt d e.ai.length&&Nat.blt d2 e.ai.length&& !(Nat.beq t2 t)then(∃bk,C f (qa 0 [x,snap e.boxes 6 (e.ai.getD t2 (.v .undef)).aa]) (.aH [bk])∧aa bk=aa x∧k ⟨(((((((e.ai.set t (.v (aa x))).set d (.v x)).set d2 (e.ai.getD t2 (.v .undef)).aa).set d (.v bk)).set u (.t [])).set d (.v (aa bk)))).set t (.v bk),e.boxes⟩)else False
   |_=>False)
def lD(id:Nat)(ops:Array Oper)(draw:Bool)(e:Env)(K:Env→Prop):Prop:=
 bif (!draw||rv (tu h id) ops)||ady h.gh id then gA (kj h.gh id) e (fun e'=>match uK P draw ops.toList with
  |some s=>iu P C e' (fun e2=>gA (kj h.gh (4000000+id)) e2 K) s
  |none=>Ae P gl C (tu h id) ops.toList e' (u5 P gl C (!draw||rv (tu h id) ops) ops (tu h id) e' (fun e2=>gA (kj h.gh (4000000+id)) e2 K)))else False
def aw:Code→(Ex→Env→Prop)→Env→Prop
 | .skip,Q,e=>Q .normal e
 | .region id ops draw,Q,e=>pZ h (2000000+id) (.region id ops draw) e Q fun Q=>lD P gl C h id ops draw e (Q .normal)
 | .label _,Q,e=>Q .normal e
 | .seq a b,Q,e=>aw a (fun x e'=>match x with| .normal =>aw b Q e'| .exit i=>Q (.exit i) e'| .ret =>Q .ret e') e
 | .cond c a b,Q,e=>pZ h (1000000+abt a b) (.cond c a b) e Q fun Q=>nU e c (aw a Q) (aw b Q)
 | .block id b,Q,e=>aw b (fun x e'=>match x with| .normal =>Q .normal e'| .exit i=>bif i==id then Q .normal e' else Q (.exit i) e'| .ret =>Q .ret e') e
 | .loop b,Q,e=>(match mK h.eM (l6 b)with
   |(vars,consts)=>bif consts.all (fun t=> !(cD h.gh b).contains t)&&Ap (cD h.gh b) vars consts e.ai 0 then
      bP (fun vs bs I=>aw b (fun x e'=>match x with| .normal =>I (td e' vars) (sX e.boxes.length e')| .exit i=>Q (.exit i) e'| .ret =>Q .ret e')
          ⟨qQ vars consts vs e.ai 0,qR bs e.boxes 0⟩)
       (td e vars) (sX e.boxes.length e)
    else False)
 | .exit id,Q,e=>Q (.exit id) e
 | .ret,Q,e=>Q .ret e
 |_,_,_=>False
def yO(e:Env)(used:List Nat)(r:ResultVar)(k:SV→Prop):Prop:=match r with
 | .tmp t=>(match e.ai.getD t (.v .undef)with
   | .v x=>x.ax=true∧k (bif used.contains t then aa x else x)
   |_=>False)
 | .cell a t=>ab (kp P t) fun ly=>(match e.ai.getD a (.v .undef)with
   | .p b off=>pS ly.1 ly.2 b off e.boxes fun s _=>(match s with
     | .v x=>x.ax=true∧k x
     |_=>False)
   |_=>False)
def FA(used:List Nat):ResultVar→List Nat
 | .tmp t=>t::used
 | .cell _ _=>used
def yA(e:Env):List Nat→List ResultVar→(List SV→Prop)→Prop
 |_,[],k=>k []
 |used,r::l,k=>yO P e used r fun x=>yA e (FA used r) l fun xs=>k (x::xs)
def finish(fn:Func)(e:Env)(K:SV→Prop):Prop:=match fn.results.toList with
 |[r]=>yO P e [] r K
 |l=>yA P e [] l fun xs=>K (.aH xs)
def enter(n:Nat)(args:List SV):Env:=⟨args.map .v ++List.replicate (n-args.length) (.v .undef),[]⟩
def b9(args:List SV)(X:Prop):Prop:=SV.gb args→X
def body(f:FuncId)(args:List SV)(K:SV→Prop):Prop:=match P.funcs[f]? with
 |some fn=>(match fn.body with
  |some c=>b9 args (aw P gl C h c (fun x e=>match x with| .normal =>finish P fn e K| .ret =>finish P fn e K| .exit _=>False) (enter fn.ntmps args))
  |none=>False)
 |none=>False
def Cy:Code→Code
 | .scope c=>c
 |c=>c
def AX(p:Nat)(f:FuncId)(args:List SV)(K:SV→Prop):Prop:=match P.funcs[f]? with
 |some fn=>(match fn.body with
  |some c=>bif fn.results.isEmpty&& !(cD [] (Cy c)).contains p then b9 args (aw P gl C h (Cy c) (fun x e=>match x with| .normal =>gA (kj h.gh 3000000) e (fun e=>K (e.ai.getD p (.v .undef)).bU)| .ret =>gA (kj h.gh 3000000) e (fun e=>K (e.ai.getD p (.v .undef)).bU)| .exit _=>False) (enter fn.ntmps args))else False
  |none=>False)
 |none=>False
end
end Go.Proofs.Ytimbllcalipehaa.Ab
namespace Go.Proofs.Ytimbllcalipehaa.Ab
open Go Go.RowKit
def rj(g:Gh)(w w':World):Prop:=∀(b:Nat)c ty,some b∈g.bx→w.heap[b]? =some (.cells c ty (0,0))→∃c' rQ,w'.heap[b]? =some (.cells c' rQ (0,0))∧c'.size=c.size
theorem rj.refl{g:Gh}(w:World):rj g w w:=fun _ c ty _ h=>⟨c,ty,h,rfl⟩
theorem rj.of{g:Gh}{w w':World}(h:∀b,b<w.heap.size→w'.heap[b]? =w.heap[b]?):rj g w w':=fun b c ty _ hb=>⟨c,ty,(h b (fJ hb)).trans hb,rfl⟩
theorem rj.trans{g g':Gh}{a b c:World}(h:rj g a b)(k:rj g' b c)(hg:∀x,some x∈g.bx→some x∈g'.bx):rj g a c:=fun x cc ty hm hx=>by
 obtain⟨c1,t1,h1,e1⟩:=h x cc ty hm hx
 obtain⟨c2,t2,h2,e2⟩:=k x c1 t1 (hg x hm) h1
 exact⟨c2,t2,h2,e2.trans e1⟩
structure Ext(base:Nat)(w:World)(g:Gh)(w':World)(g':Gh)(lost:Pos→Prop):Prop where
 df:∀(D:Nat)(o:Obj),some D∉g.bx→g.ow D=none→w.heap[D]? =some o→w'.heap[D]? =some o∧some D∉g'.bx∧g'.ow D=none∧∀x,g'.St D x→g.St D x
 st:∀b o,g.St b o→g'.St b o∧nJ w w' b o
 bs:∀b o,b<base→w'.cell? ⟨b,o,none⟩=w.cell? ⟨b,o,none⟩
 bx:∀(i:Nat)aj,g.bx[i]? =some (some aj)→g'.bx[i]? =some (some aj)
 own:∀p b a c,¬lost p→eJ base w g p b a c→eJ base w' g' p b a c∧sY w w' b a
 sh:rj g w w'
theorem cg.mono{base:Nat}{w w':World}{g g':Gh}{O O':Nat→Nat→Nat→Nat→Prop}{s:Slot}{v:Value}(r:cg base w g O s v)
  (st:∀b o,g.St b o→g'.St b o∧nJ w w' b o)(bs:∀b o,b<base→w'.cell? ⟨b,o,none⟩=w.cell? ⟨b,o,none⟩)
  (bx:∀(i:Nat)aj,g.bx[i]? =some (some aj)→g'.bx[i]? =some (some aj))(sh:rj g w w')(hO:∀j b a c,O j b a c→O' j b a c∧sY w w' b a):cg base w' g' O' s v:=by
 induction r generalizing O' with
 |v O x y h=>exact .v _ x y (h.mono st bs _ (hO 0))
 |p O b off aj h=>exact .p _ b off aj (bx _ _ h)
 |a O b n sz v hm h=>obtain⟨aj,cap,h1,h2,h3,h4,c,ty,h5,h6⟩:=h;obtain⟨c',rQ,h7,h8⟩:=sh aj c ty (List.mem_of_getElem? h1) h5;exact .a _ b n sz v hm ⟨aj,cap,bx _ _ h1,h2,h3,h4,c',rQ,h7,h8.trans h6⟩
 |m O b aj h=>exact .m _ b aj (bx _ _ h)
 |c O f first cap fv cv hf hc _ _ iV iW=>exact .c _ f first cap fv cv hf hc (fun i x v a b=>iV i x v a b (fun _ _ _ _ h=>h.elim)) (fun i x v a b=>iW i x v a b (fun _ _ _ _ h=>h.elim))
 |t O xs vs hl hc=>exact .t _ xs vs hl fun j x v a b=>(hc j x v a b).mono st bs _ (hO j)
theorem cg.aa{base:Nat}{w:World}{g:Gh}{O O':Nat→Nat→Nat→Nat→Prop}{s:Slot}{v:Value}(r:cg base w g O s v):cg base w g O' s.aa v:=by
 cases r with
 |v _ x _ h=>exact .v _ _ _ h.aa
 |p _ b off aj h=>exact .p _ b off aj h
 |a _ b n sz v hm h=>exact .a _ b n sz v hm h
 |m _ b aj h=>exact .m _ b aj h
 |c _ f first cap fv cv hf hc rf rc=>exact .c _ f first cap fv cv hf hc rf rc
 |t _ xs vs hl hc=>
  refine .t _ _ vs (by simpa using hl) fun j x v a b=>?_
  simp only[List.getElem?_map,Option.map_eq_some_iff]at a
  obtain⟨x',a,rfl⟩:=a
  exact(hc j x' v a b).aa
theorem Ext.refl(base:Nat)(w:World)(g:Gh):Ext base w g w g (fun _=>False):=⟨fun _ _ hb ho h=>⟨h,hb,ho,fun _ h=>h⟩,fun _ _ h=>⟨h,.refl _ _ _⟩,fun _ _ _=>rfl,fun _ _ h=>h,fun _ _ _ _ _ h=>⟨h,.refl _ _ _⟩,.refl _⟩
theorem Ext.slot{base:Nat}{w w':World}{g g':Gh}{lost:Pos→Prop}(h:Ext base w g w' g' lost){i:Nat}(hl:∀j,¬lost (.s i j)){s:Slot}{v:Value}
  (r:cg base w g (eW base w g i) s v):cg base w' g' (eW base w' g' i) s v:=
 r.mono h.st h.bs h.bx h.sh fun j b a c ho=>h.own _ b a c (hl j) ho
theorem Ext.none{base:Nat}{w w':World}{g g':Gh}{lost:Pos→Prop}(h:Ext base w g w' g' lost){s:Slot}{v:Value}
  {O O':Nat→Nat→Nat→Nat→Prop}(r:cg base w g O s v):cg base w' g' O' s.aa v:=
 (r.aa (O':=fun _ _ _ _=>False)).mono h.st h.bs h.bx h.sh fun _ _ _ _ h=>h.elim
theorem Ext.SY{base:Nat}{w w':World}{g g':Gh}{lost:Pos→Prop}(h:Ext base w g w' g' lost):∀b o,g.St b o→g'.St b o∧w'.cell? ⟨b,o,Option.none⟩=w.cell? ⟨b,o,Option.none⟩:=fun b o hs=>⟨(h.st b o hs).1,(h.st b o hs).2.1⟩
theorem Ext.A9{base:Nat}{w w':World}{g g':Gh}{lost:Pos→Prop}(h:Ext base w g w' g' lost){x:D}{v:Value}(r:aY w g.St x v):aY w' g'.St x v:=r.mono fun b o hs=>⟨(h.st b o hs).1,(h.st b o hs).2.1⟩
theorem Ext.box{base:Nat}{w w':World}{g g':Gh}{lost:Pos→Prop}(h:Ext base w g w' g' lost){b:Nat}{bx:af}{aj:Nat}(hl:∀j,¬lost (.b b j))
  (hb:w'.heap[aj]? =w.heap[aj]?)(r:nX base w g b bx aj):nX base w' g' b bx aj:=by
 cases bx with
 |none=>exact r.elim
 |cells cs=>
  obtain⟨h0,c,t,hc,h1,hr⟩:=r
  exact⟨h0,c,t,hb.trans hc,h1,hr.1,fun j x y hx hy=>(hr.2 j x y hx hy).mono h.st h.bs _ fun b' a c' ho=>h.own _ b' a c' (hl j) ho⟩
 |one s=>
  obtain⟨h0,c,t,hc,h1,hr⟩:=r
  exact⟨h0,c,t,hb.trans hc,h1,hr.1,fun y hy=>(hr.2 y hy).mono h.st h.bs h.bx h.sh fun _ b' a c' ho=>h.own _ b' a c' (hl 0) ho⟩
 |map l=>
  obtain⟨h0,es,clock,hc,h1,hr⟩:=r
  exact⟨h0,es,clock,hb.trans hc,h1,fun i x y hx hy=>⟨(hr i x y hx hy).1,(hr i x y hx hy).2.1,h.A9 (hr i x y hx hy).2.2⟩⟩
theorem VA{l:List Slot}{dst:Option Nat}{s:Slot}{i:Nat}{x:Slot}(h:(cz l dst s)[i]? =some x):(dst=some i∧x=s)∨(dst≠some i∧l[i]? =some x):=by
 cases dst with
 |none=>exact .inr ⟨by simp,h⟩
 |some d=>
  simp only[cz,List.getElem?_set]at h
  by_cases hd:d=i
  ·subst hd
   simp only[↓reduceIte]at h
   split at h
   ·exact .inl ⟨rfl,(Option.some.inj h).symm⟩
   ·cases h
  ·simp only[hd,↓reduceIte]at h
   exact .inr ⟨by simpa using hd,h⟩
theorem IG(a:Act)(dst:Option Tmp)(v:Value)(i:Nat)(h:i<a.tmps.size):(a.put dst v).tmps.getD i undef=if dst=some i then v else a.tmps.getD i undef:=by
 cases dst with
 |none=>simp[Act.put]
 |some d=>
  simp only[Act.put,Array.getD_eq_getD_getElem?,Array.getElem?_setIfInBounds]
  by_cases hd:d=i
  ·subst hd;simp[h]
  ·simp[hd]
theorem Ck(a:Act)(dst:Option Tmp)(v:Value):(a.put dst v).tmps.size =a.tmps.size:=by cases dst<;>simp[Act.put]
theorem put_defers(a:Act)(dst:Option Tmp)(v:Value):(a.put dst v).defers =a.defers:=by cases dst<;>rfl
theorem Hv(l:List Slot)(dst:Option Nat)(s:Slot):(cz l dst s).length =l.length:=by cases dst<;>simp[cz]
theorem z2{w:World}{St:Nat→Nat→Prop}{v:Value}{x:D}(h:yw v=some x):aY w St x v:=by
 unfold yw at h
 split at h
 ·cases h;exact .bool _
 ·rename_i k n
  cases hw:ga k n with
  |true=>rw[hw]at h;cases h;exact .int _ _ hw
  |false=>rw[hw]at h;cases h
 ·rename_i s
  cases hw:Nat.ble s.size maxLen with
  |true=>rw[hw]at h;cases h;exact .str _ (Nat.le_of_ble_eq_true hw)
  |false=>rw[hw]at h;cases h
 ·cases h;exact .ir 0
 ·cases h;exact .nN
 ·cases h;exact .tp
 ·cases h;exact .tq
 ·rename_i f first captured
  cases hw:(first.isEmpty&&captured.isEmpty)with
  |true=>
   rw[hw]at h;cases h
   simp only[Bool.and_eq_true,Array.isEmpty_iff]at hw
   obtain⟨rfl,rfl⟩:=hw
   exact .fn f
  |false=>rw[hw]at h;cases h
 ·cases h
theorem HV{v:Value}{x:D}(h:yw v=some x):x.one=true:=by
 have:∀{w:World}{St},aY w St x v:=z2 h
 unfold yw at h
 split at h<;>first|(cases h;rfl)|(cases h)|skip
 ·rename_i k n;cases hw:ga k n<;>rw[hw]at h<;>cases h;rfl
 ·rename_i s;cases hw:Nat.ble s.size maxLen<;>rw[hw]at h<;>cases h;rfl
 ·rename_i f first captured;cases hw:(first.isEmpty&&captured.isEmpty)<;>rw[hw]at h<;>cases h;rfl
theorem HI:∀{vs:List Value}{xs:List D},yh vs=some xs→∀x∈xs,x.one=true
 |[],xs,h=>by cases h;simp
 |v::vs,xs,h=>by
  simp only[yh]at h
  split at h
  ·rename_i x hx
   split at h
   ·rename_i r hr
    cases h
    intro y hy
    rcases List.mem_cons.1 hy with rfl|hy
    ·exact HV hx
    ·exact HI hr y hy
   ·cases h
  ·cases h
theorem B4{w:World}{St:Nat→Nat→Prop}:∀{vs:List Value}{xs:List D},yh vs=some xs→
  xs.length=vs.length∧∀(i:Nat)x v,xs[i]? =some x→vs[i]? =some v→aY w St x v
 |[],xs,h=>by cases h;simp
 |v::vs,xs,h=>by
  simp only[yh]at h
  split at h
  ·rename_i x hx
   split at h
   ·rename_i r hr
    cases h
    obtain⟨h1,h2⟩:=B4 (w:=w) (St:=St) hr
    refine⟨by simp[h1],fun i y u hy hu=>?_⟩
    cases i with
    |zero=>simp only[List.getElem?_cons_zero,Option.some.injEq]at hy hu;subst hy hu;exact z2 hx
    |succ i=>simp only[List.getElem?_cons_succ]at hy hu;exact h2 i y u hy hu
   ·cases h
  ·cases h
theorem Xs{w:World}{St:Nat→Nat→Prop}{v:Value}{x:D}(h:FO v=some x):aY w St x v:=by
 unfold FO at h
 split at h
 ·split at h
  ·rename_i cs l hl
   cases h
   obtain⟨h1,h2⟩:=B4 (w:=w) (St:=St) hl
   exact .agg l _ (HI hl) (by simpa using h1) fun i d v hd hv=>h2 i d v hd (by simpa using hv)
  ·cases h
 ·exact z2 h
section
variable{gl:Nat→Option D}{w0:World}{ao:S0}
theorem uJ.ext{base:Nat}{w w':World}{g g':Gh}{lost:Pos→Prop}(h:Ext base w g w' g' lost)(r:uJ gl w g.St):uJ gl w' g'.St:=by
 intro n x hx
 obtain⟨h0,vs,h1,h2⟩:=r n x hx
 exact⟨h0,vs,fun i hi=>⟨(h.st _ _ (h1 i hi).2).2.1.trans (h1 i hi).1,(h.st _ _ (h1 i hi).2).1⟩,fun i c hc=>h.A9 (h2 i c hc)⟩
theorem Inv.stepG{e:Env}{a:Act}{w:World}{g:Gh}(hI:Inv gl w0 ao e a w g){w':World}{g':Gh}{lost:Pos→Prop}(hX:Ext w0.heap.size w g w' g' lost)
  {ai:List Slot}{aA:List af}{dst:Option Nat}{s:Slot}{v:Value}
  (nR:Below w0.heap.size w w')
  (hlen:ai.length=e.ai.length)
  (hs:∀(i:Nat)x,ai[i]? =some x→dst≠some i→cg w0.heap.size w' g' (eW w0.heap.size w' g' i) x (a.tmps.getD i undef))
  (mQ:∀d,dst=some d→cg w0.heap.size w' g' (eW w0.heap.size w' g' d) s v)
  (JI:g'.bx.length=aA.length)
  (dA:∀(b:Nat)bx aj,aA[b]? =some bx→g'.bx[b]? =some (some aj)→nX w0.heap.size w' g' b bx aj)
  (gm:∀(i j:Nat)aj,g'.bx[i]? =some (some aj)→g'.bx[j]? =some (some aj)→i=j)(Da:∀b,some b∈g'.bx→w0.heap.size≤b∧b<w'.heap.size)
  (yP:∀b o,g'.St b o→(ao b o∨w0.heap.size≤b)∧some b∉g'.bx∧b<w'.heap.size):
  Inv gl w0 ao ⟨cz ai dst s,aA⟩ (a.put dst v) w' g':=by
 refine⟨hI.below.trans nR,?_,?_,JI,dA,gm,fun b o h=>(hX.st b o (hI.fN b o h)).1,yP,Da,hI.j3.ext hX,(put_defers a dst v).trans hI.defers,fun D o hD=>(have h:=hI.eN D o hD;have k:=hX.df D o h.1 h.2.1 h.2.2.1;⟨k.2.1,k.2.2.1,k.1,fun x hx=>h.2.2.2 x (k.2.2.2 x hx)⟩),fun b o v hv=>(have h:=hI.cls b o v hv;⟨(hX.st b o h.1).1,(hX.st b o h.1).2.1.trans h.2⟩),Nat.le_trans hI.jq nR.size⟩
 ·rw[Ck,Hv,hlen,hI.size]
 ·intro i x hx
  have hi:i<a.tmps.size:=by
   have:=(List.getElem?_eq_some_iff.1 hx).1
   rw[Hv,hlen]at this
   rw[hI.size];exact this
  rw[IG a dst v i hi]
  rcases VA hx with⟨hd,rfl⟩|⟨hd,dK⟩
  ·simp only[hd,↓reduceIte];exact mQ i hd
  ·simp only[hd,↓reduceIte]
   exact hs i x dK hd
theorem Inv.step{e:Env}{a:Act}{w:World}{g:Gh}(hI:Inv gl w0 ao e a w g){w':World}{g':Gh}{lost:Pos→Prop}(hX:Ext w0.heap.size w g w' g' lost)
  {ai:List Slot}{aA:List af}{dst:Option Nat}{s:Slot}{v:Value}
  (nR:Below w0.heap.size w w')
  (hlen:ai.length=e.ai.length)
  (hs:∀(i:Nat)x,ai[i]? =some x→dst≠some i→∃y,e.ai[i]? =some y∧((x=y∧∀j,¬lost (.s i j))∨x=y.aa))
  (mQ:∀d,dst=some d→cg w0.heap.size w' g' (eW w0.heap.size w' g' d) s v)
  (JI:g'.bx.length=aA.length)
  (dA:∀(b:Nat)bx aj,aA[b]? =some bx→g'.bx[b]? =some (some aj)→nX w0.heap.size w' g' b bx aj)
  (gm:∀(i j:Nat)aj,g'.bx[i]? =some (some aj)→g'.bx[j]? =some (some aj)→i=j)(Da:∀b,some b∈g'.bx→w0.heap.size≤b∧b<w'.heap.size)
  (yP:∀b o,g'.St b o→(ao b o∨w0.heap.size≤b)∧some b∉g'.bx∧b<w'.heap.size):
  Inv gl w0 ao ⟨cz ai dst s,aA⟩ (a.put dst v) w' g':=by
 refine hI.stepG hX nR hlen (fun i x hx hd=>?_) mQ JI dA gm Da yP
 obtain⟨y,hy,⟨rfl,hl⟩|rfl⟩:=hs i x hx hd
 ·exact hX.slot hl (hI.ai i x hy)
 ·exact hX.none (hI.ai i y hy)
theorem Inv.FR{e:Env}{a:Act}{w:World}{g:Gh}(hI:Inv gl w0 ao e a w g){w':World}{g':Gh}{dst:Option Nat}
  (hX:Ext w0.heap.size w g w' g' (fun p=>∃d j,dst=some d∧p=.s d j))
  {s:Slot}{v:Value}(nR:Below w.heap.size w w')
  (mQ:∀d,dst=some d→cg w0.heap.size w' g' (eW w0.heap.size w' g' d) s v)(dA:g'.bx=g.bx)
  (yP:∀b o,g'.St b o→g.St b o∨(w.heap.size≤b∧b<w'.heap.size)):
  Inv gl w0 ao ⟨cz e.ai dst s,e.boxes⟩ (a.put dst v) w' g':=by
 have hle:w0.heap.size≤w.heap.size:=hI.below.size
 refine hI.step hX (nR.mono hle) rfl (fun i x hx hd=>⟨x,hx,.inl ⟨rfl,fun j=>?_⟩⟩) mQ (by rw[dA];exact hI.eX) ?_ (by rw[dA];exact hI.nodup) ?_ ?_
 ·rintro⟨d,j',h1,h2⟩
  cases h2
  exact hd h1
 ·intro b bx aj h1 h2
  rw[dA]at h2
  have aF:aj<w.heap.size:=(hI.dn aj (List.mem_of_getElem? h2)).2
  exact hX.box (fun j=>by rintro⟨d,j',_,h⟩;cases h) (nR.block aj aF) (hI.boxes b bx aj h1 h2)
 ·intro b hb
  rw[dA]at hb
  exact⟨(hI.dn b hb).1,Nat.lt_of_lt_of_le (hI.dn b hb).2 nR.size⟩
 ·intro b o h
  rw[dA]
  rcases yP b o h with h|h
  ·obtain⟨h1,h2,h3⟩:=hI.cE b o h
   exact⟨h1,h2,Nat.lt_of_lt_of_le h3 nR.size⟩
  ·exact⟨.inr (Nat.le_trans hle h.1),fun hm=>by have:=(hI.dn b hm).2;omega,h.2⟩
theorem Inv.value{e:Env}{a:Act}{w:World}{g:Gh}(hI:Inv gl w0 ao e a w g){dst:Option Nat}{s:Slot}{v:Value}
  (mQ:cg w0.heap.size w g (fun _ _ _ _=>False) s v):Inv gl w0 ao ⟨cz e.ai dst s,e.boxes⟩ (a.put dst v) w g:=by
 refine hI.FR (w':=w) (g':=g) ⟨fun _ _ hb ho h=>⟨h,hb,ho,fun _ h=>h⟩,fun _ _ h=>⟨h,.refl _ _ _⟩,fun _ _ _=>rfl,fun _ _ h=>h,fun _ _ _ _ _ h=>⟨h,.refl _ _ _⟩,.refl _⟩ (Below.refl _ _) (fun d _=>?_) rfl (fun _ _ h=>.inl h)
 exact mQ.mono (fun _ _ h=>⟨h,.refl _ _ _⟩) (fun _ _ _=>rfl) (fun _ _ h=>h) (.refl _) (fun _ _ _ _ h=>h.elim)
theorem Inv.aV{e:Env}{a:Act}{w:World}{g:Gh}(hI:Inv gl w0 ao e a w g)(x:Operand):cg w0.heap.size w g (fun _ _ _ _=>False) (aV gl e x).aa (a.eval x):=by
 cases x with
 |tmp t=>
  simp only[Ab.aV,Act.eval,List.getD_eq_getElem?_getD]
  cases h:e.ai[t]? with
  |none=>exact .v _ _ _ (.undef _ _)
  |some s=>exact(hI.ai t s h).aa
 |const v=>
  simp only[Ab.aV,Act.eval]
  cases h:FO v with
  |none=>exact .v _ _ _ (.undef _ _)
  |some d=>exact .v _ _ _ (.d _ _ _ (Xs h))
 |func f=>exact .v _ _ _ (.d _ _ _ (.fn _))
 |global n=>
  simp only[Ab.aV,Act.eval]
  cases h:gl n with
  |none=>exact .v _ _ _ (.undef _ _)
  |some x=>
   obtain⟨h0,vs,h1,h2⟩:=hI.j3 n x h
   exact .v _ _ _ (.aT _ x 0 n 0 vs h0 (by simpa using h1) h2)
end
end Go.Proofs.Ytimbllcalipehaa.Ab
namespace Go.Proofs.Ytimbllcalipehaa.Ab
open Go Go.RowKit
def va(lo:Nat)(w:World)(St:Nat→Nat→Prop)(ow:Nat→Option Nat)(j:Nat)(b a c:Nat):Prop:=
 ow b=some j∧lo≤b∧(∃cur e,w.heap[b]? =some (.cells cur e (0,0))∧cur.size=c)∧∀o,a≤o→¬St b o
def uL(lo:Nat)(w:World)(St:Nat→Nat→Prop)(ow:Nat→Option Nat)(r:SV)(v:Value):Prop:=match r with
 | .aH rs=>∃vs,v=.tuple vs∧rs.length=vs.size∧∀(j:Nat)x y,rs[j]? =some x→vs[j]? =some y→aJ w St 0 (va lo w St ow j) x y
 |r=>aJ w St 0 (va lo w St ow 0) r v
def lu(P:Program)(f:FuncId):Prop:=∀(args:Array Value)(w:World),(callFunc f args).run P w=.ok (.enter f args) w
def CN(P:Program)(gl:Nat→Option D):bd:=fun f args r=>lu P f∧
 ∀(w:World)(St:Nat→Nat→Prop)(vs:Array Value),(∀b o,St b o→b<w.heap.size)→uJ gl w St→args.length=vs.size→
  (∀(i:Nat)x v,args[i]? =some x→vs[i]? =some v→aJ w St w.heap.size (fun _ _ _=>False) x v)→
  Calls P f vs w fun e w'=>∃v,e=.returned v∧Below w.heap.size w w'∧∃bH ow,(∀b o,St b o→bH b o)∧(∀b o,bH b o→St b o∨(w.heap.size≤b∧b<w'.heap.size))∧
   uL w.heap.size w' bH ow r v
def aeu(w:World)(St:Nat→Nat→Prop)(A:Nat→Option Nat)(i b a c:Nat):Prop:=
 A b=some i∧(∃cur e,w.heap[b]? =some (.cells cur e (0,0))∧cur.size=c)∧∀o,a≤o→¬St b o
def XO(lo:Nat)(A:Nat→Option Nat)(w:World)(St:Nat→Nat→Prop)(ow:Nat→Option Nat)(j:Nat)(b a c:Nat):Prop:=
 ow b=some j∧(lo≤b∨A b≠none)∧(∃cur e,w.heap[b]? =some (.cells cur e (0,0))∧cur.size=c)∧∀o,a≤o→¬St b o
def tA(w:World)(St:Nat→Nat→Prop)(O:Nat→Nat→Nat→Nat→Prop)(rs:List SV)(v:Value):Prop:=match rs with
 |[r]=>aJ w St 0 (O 1) r v
 |rs=>∃vs,v=.tuple vs∧rs.length=vs.size∧∀(j:Nat)x y,rs[j]? =some x→vs[j]? =some y→aJ w St 0 (O (j+1)) x y
def JJ(P:Program)(gl:Nat→Option D)(f:FuncId)(args:List SV)(p:Nat)(rs:List SV)(bk:SV):Prop:=lu P f∧SV.gy args=true∧
 ∀(w:World)(St:Nat→Nat→Prop)(A:Nat→Option Nat)(vs:Array Value),(∀b o,St b o→b<w.heap.size)→(∀b i,A b=some i→∃cur e,w.heap[b]? =some (.cells cur e (0,0))∧∀o,cur.size≤o→¬St b o)→uJ gl w St→args.length=vs.size→
  (∀(i:Nat)x v,args[i]? =some x→vs[i]? =some v→aJ w St 0 (aeu w St A i) x v)→
  Calls P f vs w fun e w'=>∃v,e=.returned v∧w'.os=w.os∧w'.tape=w.tape∧w'.output=w.output∧w.heap.size≤w'.heap.size∧(∀b,b<w.heap.size→A b=none→w'.heap[b]? =w.heap[b]?)∧
   ∃bH ow,(∀b o,St b o→bH b o∧nJ w w' b o)∧(∀b o,bH b o→St b o∨((w.heap.size≤b∨A b≠none)∧b<w'.heap.size))∧
    tA w' bH (XO w.heap.size A w' bH ow) rs v∧∀y,vs[p]? =some y→aJ w' bH 0 (XO w.heap.size A w' bH ow 0) bk y
def lE:List SV→Option (Nat×List SV)
 | .aH (.cG p _ _::_)::args=>some (p,args)
 |_=>none
def aD(P:Program)(gl:Nat→Option D):bd:=fun f args r=>match lE args with
 |some (p,RT)=>(match r with
  | .aH (bk::rs)=>JJ P gl f RT p rs bk
  |_=>False)
 |none=>CN P gl f args r
theorem xW{P:Program}{gl:Nat→Option D}{f:FuncId}{args:List SV}{r:SV}(h:lE args=none):aD P gl f args r=CN P gl f args r:=by
 unfold aD;rw[h]
theorem Jg{P:Program}{gl:Nat→Option D}{f:FuncId}{args:List SV}{p:Nat}{rs:List SV}{bk:SV}:aD P gl f (qa p args) (.aH (bk::rs))=JJ P gl f args p rs bk:=rfl
theorem OU{args:List SV}(h:∀x l,args=.aH x::l→False):lE args=none:=by
 unfold lE
 split
 ·rename_i p _ _ _ RT
  exact(h _ _ rfl).elim
 ·rfl
theorem YB{w:World}{St:Nat→Nat→Prop}{base:Nat}{O:Nat→Nat→Nat→Nat→Prop}{args:List SV}{vs:Array Value}(hlen:args.length=vs.size)(h:∀(i:Nat)x v,args[i]? =some x→vs[i]? =some v→aJ w St base (O i) x v):lE args=none:=
 OU fun x l hx=>by
  rw[hx]at hlen
  have h0:0<vs.size:=by rw[←hlen];simp
  have:=h 0 (.aH x) vs[0] (by rw[hx];rfl) (by simp[h0])
  cases this
section
variable{P:Program}{gl:Nat→Option D}{w0:World}{ao:S0}{e:Env}{a:Act}{w:World}{g:Gh}
theorem aI{α:Type}{o:Option α}{k:α→Prop}(h:ab o k):∃x,o=some x∧k x:=by
 cases o with
 |none=>exact h.elim
 |some x=>exact⟨x,rfl,h⟩
theorem Af{x:SV}{A B:Prop}(h:au x A B):∃b,x=.d (.bool b)∧(b=true→A)∧(b=false→B):=by
 unfold au at h
 split at h
 ·rename_i c
  refine⟨c,rfl,?_,?_⟩<;>rintro rfl<;>exact h
 ·exact h.elim
theorem Inv.pj(hI:Inv gl w0 ao e a w g){x:Operand}{s:SV}(h:(Ab.aV gl e x).aa =.v s):aJ w g.St w0.heap.size (fun _ _ _=>False) s (a.eval x):=by
 have:=hI.aV x
 rw[h]at this
 cases this with
 |v _ _ _ h=>exact h
theorem Inv.g7(hI:Inv gl w0 ao e a w g)(x:Operand):aJ w g.St w0.heap.size (fun _ _ _=>False) ((Ab.aV gl e x).aa).bU (a.eval x):=by
 have:=hI.aV x
 cases h:(Ab.aV gl e x).aa with
 |v s=>exact hI.pj h
 |_=>exact .undef _ _
theorem aJ.data{St:Nat→Nat→Prop}{base:Nat}{O:Nat→Nat→Nat→Prop}{x:D}{v:Value}(h:aJ w St base O (.d x) v):aY w St x v:=by
 cases h with
 |d _ _ _ h=>exact h
abbrev bp(P:Program)(gl:Nat→Option D)(w0:World)(ao:S0)(ai:List Slot)(o:Oper)(a:Act)(w:World)(k:Slot→List af→Prop):Prop:=
 ∀(next:Act→World→Prop)(Q:Exit→Act→World→Prop),
  (∀s v aA w' g',Inv gl w0 ao ⟨cz ai o.dst s,aA⟩ (a.put o.dst v) w' g'→k s aA→next (a.put o.dst v) w')→o.wp P a w next Q
theorem bp.value(hI:Inv gl w0 ao e a w g){o:Oper}{v:Value}{s:Slot}{k:Slot→List af→Prop}(ba:(execOp a.eval o).run P w=.ok (.value v) w)
  (hr:cg w0.heap.size w g (fun _ _ _ _=>False) s v)(hk:k s e.boxes):bp P gl w0 ao e.ai o a w k:=by
 intro next Q hn
 unfold Oper.wp
 rw[ba]
 exact hn s v _ _ _ (hI.value hr) hk
theorem bp.eQ(hI:Inv gl w0 ao e a w g){o:Oper}{v:Value}{s:SV}{k:Slot→List af→Prop}(ba:(execOp a.eval o).run P w=.ok (.value v) w)
  (hr:aJ w g.St w0.heap.size (fun _ _ _=>False) s v)(hk:k (.v s) e.boxes):bp P gl w0 ao e.ai o a w k:=
 bp.value hI ba (.v _ _ _ hr) hk
theorem x8(k:IntKind)(n:Int):ga k (k.wrap n)=true:=by
 have hp:(0:Int)<2^k.bits:=Int.pow_pos (by decide)
 have h1:=Int.emod_nonneg n (Int.ne_of_gt hp)
 have h2:=Int.emod_lt_of_pos n hp
 simp only[ga,Bool.and_eq_true,decide_eq_true_eq,IntKind.min,IntKind.max,IntKind.wrap]
 cases k<;>simp only[IntKind.bits,IntKind.signed]at* <;>(try split)<;>simp_all<;>omega
theorem HJ{k:IntKind}{n:Int}:ga k n=true↔k.min≤n∧n≤k.max:=by simp[ga]
theorem ZV{k:IntKind}{x y:Int}(hx:ga k x=true)(hy:ga k y=true):ga k (x.tmod y)=true:=by
 rw[HJ]at*
 have h1:(x.tmod y).natAbs ≤x.natAbs:=by
  rw[Int.natAbs_tmod]
  exact Nat.mod_le _ _
 have h2:0≤x→0≤x.tmod y:=fun h=>Int.tmod_nonneg y h
 have h3:x≤0→x.tmod y≤0:=fun h=>by
  have:=Int.tmod_nonneg (a:= -x) y (by omega)
  rw[Int.neg_tmod]at this
  omega
 have hm:k.min≤0∧0≤k.max:=by cases k<;>simp[IntKind.min,IntKind.max,IntKind.signed,IntKind.bits]
 constructor
 ·rcases Int.le_total 0 x with h|h
  ·have:=h2 h;omega
  ·have:=h3 h;omega
 ·rcases Int.le_total 0 x with h|h
  ·have:=h2 h;omega
  ·have:=h3 h;omega
theorem ZW{k:IntKind}{x:Int}(hx:ga k x=true)(n:Nat):ga k (x.fdiv (2^n))=true:=by
 rw[HJ]at*
 have hp:(0:Int)<2^n:=Int.pow_pos (by decide)
 rw[Int.fdiv_eq_ediv_of_nonneg _ (Int.le_of_lt hp)]
 have hm:k.min≤0∧0≤k.max:=by cases k<;>simp[IntKind.min,IntKind.max,IntKind.signed,IntKind.bits]
 constructor
 ·rcases Int.le_total 0 x with h|h
  ·have:=Int.ediv_nonneg h (Int.le_of_lt hp);omega
  ·have:x≤x / 2^n:=by
    have h1:=Int.mul_ediv_add_emod x (2^n)
    have h2:=Int.emod_nonneg x (Int.ne_of_gt hp)
    have h4:x / 2^n≤0:=by
     rcases Int.lt_or_le 0 (x / 2^n)with hh|hh
     ·have h5:2^n*1≤2^n*(x / 2^n):=Int.mul_le_mul_of_nonneg_left (by omega) (Int.le_of_lt hp)
      omega
     ·exact hh
    have h3:(2^n-1)*(x / 2^n)≤0:=Int.mul_nonpos_of_nonneg_of_nonpos (by omega) h4
    have h6:x=x / 2^n+((2^n-1)*(x / 2^n)+x % 2^n):=by
     rw[Int.sub_mul,Int.one_mul];omega
    have h7:=Int.emod_lt_of_pos x hp
    rcases Int.lt_or_le (x / 2^n) x with aF|hle
    ·exfalso
     have h8:2^n*(x / 2^n)≤2^n*(x-1):=Int.mul_le_mul_of_nonneg_left (by omega) (Int.le_of_lt hp)
     have h9:(2^n)*(x-1)≤1*(x-1):=by
      have:0≤(2^n-1)*(1-x):=Int.mul_nonneg (by omega) (by omega)
      rw[Int.sub_mul,Int.mul_sub,Int.mul_sub]at this
      rw[Int.mul_sub]
      omega
     have Lg:2^n*(x / 2^n)+2^n≤2^n*x:=by
      have:2^n*(x-1)=2^n*x-2^n:=by rw[Int.mul_sub,Int.mul_one]
      omega
     have Lh:2^n*x≤x:=by
      have:0≤(2^n-1)*(-x):=Int.mul_nonneg (by omega) (by omega)
      rw[Int.sub_mul,Int.mul_neg,Int.mul_neg]at this
      omega
     omega
    ·exact hle
   omega
 ·rcases Int.le_total 0 x with h|h
  ·have:x / 2^n≤x:=Int.ediv_le_self _ h
   omega
  ·have:x / 2^n≤0:=by
    rcases Int.lt_or_le 0 (x / 2^n)with hh|hh
    ·have h1:=Int.mul_ediv_add_emod x (2^n)
     have h2:=Int.emod_nonneg x (Int.ne_of_gt hp)
     have h5:2^n*1≤2^n*(x / 2^n):=Int.mul_le_mul_of_nonneg_left (by omega) (Int.le_of_lt hp)
     omega
    ·exact hh
   omega
theorem Wx{op:BinOp}{k:IntKind}{x y:Int}{r:D}(t:TypeId)(iC:op≠.shl ∧op≠.shr)(hx:ga k x=true)(hy:ga k y=true)(h:im op k x y=some r):
  ∃v,(binOp op t (.int k x) (.int k y)).run P w=.ok v w∧aY w g.St r v:=by
 cases op<;>simp only[im,Option.some.injEq,reduceCtorEq]at h<;>(try (exact absurd rfl iC.1))<;>(try (exact absurd rfl iC.2))
 case quo=>
  split at h
  ·cases h
  ·rename_i rR
   cases h
   exact⟨_,by simp[binOp,Op.intDiv,rR],.int _ _ (x8 _ _)⟩
 case rem=>
  split at h
  ·cases h
  ·rename_i rR
   cases h
   exact⟨_,by simp[binOp,Op.intDiv,rR],.int _ _ (ZV hx hy)⟩
 all_goals (subst h)
 case add|sub|mul=>exact⟨_,by simp[binOp,Op.intArith],.int _ _ (x8 _ _)⟩
 case and|or|xor|andNot=>exact⟨_,by simp[binOp,Op.intBits],.int _ _ (x8 _ _)⟩
 all_goals exact⟨_,by simp[binOp,Op.intCmp],.bool _⟩
theorem NL{op:BinOp}{k k':IntKind}{x y:Int}{r:D}(t:TypeId)(iC:op=.shl ∨op=.shr)(hx:ga k x=true)(h:Cv op k x y=some r):
  ∃v,(binOp op t (.int k x) (.int k' y)).run P w=.ok v w∧aY w g.St r v:=by
 unfold Cv at h
 split at h
 ·cases h
 ·rename_i hy
  rcases iC with rfl|rfl
  ·simp only[Option.some.injEq]at h;subst h
   exact⟨_,by simp[binOp,Op.shift,hy],.int _ _ (x8 _ _)⟩
  ·simp only[Option.some.injEq]at h;subst h
   exact⟨_,by simp[binOp,Op.shift,hy],.int _ _ (ZW hx _)⟩
theorem Nx:∀(x y:List UInt8),Op.bytesLess x y=yi x y
 |_,[]=>by cases ‹List UInt8› <;>rfl
 |[],_::_=>rfl
 |a::x,b::y=>by simp only[Op.bytesLess,yi,Nx x y]
theorem Wy{op:BinOp}{x y:ByteArray}{r:D}(t:TypeId)(h:CL op x.data.toList y.data.toList=some r):
  ∃v,(binOp op t (.string x) (.string y)).run P w=.ok v w∧aY w g.St r v:=by
 have hx:=ByteArray.toList_eq x
 have hy:=ByteArray.toList_eq y
 cases op<;>simp only[CL,Option.some.injEq,reduceCtorEq]at h
 case add=>
  split at h
  ·rename_i hl
   cases h
   have e:(x++y).data.toList =x.data.toList++y.data.toList:=by simp
   have gU:x.size+y.size≤maxLen:=by rw[Array.length_toList,Array.length_toList]at hl;exact hl
   refine⟨.string (x++y),?_,?_⟩
   ·have hM:((maxLen:Nat):Int)=IntKind.i64.max:=by decide
    have:¬(((x.size+y.size:Nat):Int)>IntKind.i64.max):=by
     rw[←hM]
     omega
    simp only[binOp,Op.stringOp]
    rw[if_neg this]
    rfl
   ·rw[←e]
    refine .str _ ?_
    rw[ByteArray.size_append]
    exact gU
  ·cases h
 all_goals (subst h;exact⟨_,by simp[binOp,Op.stringOp,hx,hy,Nx],.bool _⟩)
end
end Go.Proofs.Ytimbllcalipehaa.Ab
namespace Go.Proofs.Ytimbllcalipehaa.Ab
open Go Go.RowKit
section
variable{P:Program}{gl:Nat→Option D}{w0:World}{ao:S0}{e:Env}{a:Act}{w:World}{g:Gh}
theorem sN:∀{ks:List CK}{xs:List D},dP ks xs=true→xs.length=ks.length
 |[],[],_=>rfl
 |[],_::_,h=>by simp[dP]at h
 |k::ks,[],h=>by cases k<;>simp[dP]at h
 |k::ks,x::xs,h=>by
  cases k<;>cases x<;>simp only[dP,Bool.false_eq_true]at h<;>simp[sN h]
theorem zZ:∀{ks ls:List CK}{xs:List D},dP (ks++ls) xs=true→dP ks (xs.take ks.length)=true∧dP ls (xs.drop ks.length)=true
 |[],ls,xs,h=>by simpa[dP]using h
 |k::ks,ls,[],h=>by cases k<;>simp[dP]at h
 |k::ks,ls,x::xs,h=>by
  cases k<;>cases x<;>simp only[List.cons_append,dP,Bool.false_eq_true]at h<;>simpa[dP]using zZ h
theorem Hw:∀(xs ys zf zg:List D),xs.length=ys.length→fA (xs++zf) (ys++zg)=(match fA xs ys with
  |some b=>(match fA zf zg with|some c=>some (b&&c)|none=>none)|none=>none)
 |[],[],zf,zg,_=>by
  simp only[List.nil_append,fA]
  cases fA zf zg<;>simp
 |x::xs,y::ys,zf,zg,h=>by
  simp only[List.cons_append,fA]
  rw[Hw xs ys zf zg (by simpa using h)]
  cases mJ x y<;>simp
  cases fA xs ys<;>simp
  cases fA zf zg<;>simp[Bool.and_assoc]
 |[],_::_,_,_,h=>by simp at h
 |_::_,[],_,_,h=>by simp at h
def km(w:World)(St:Nat→Nat→Prop)(xs:List D)(vs:Array Value):Prop:=
 xs.length=vs.size∧∀(i:Nat)x v,xs[i]? =some x→vs[i]? =some v→aY w St x v
theorem km.agg{w:World}{St:Nat→Nat→Prop}{xs:List D}{vs:Array Value}(h:km w St xs vs)(hf:∀d∈xs,d.one=true):aY w St (.agg xs) (.agg vs):=.agg xs vs hf h.1 h.2
theorem km.extract{w:World}{St:Nat→Nat→Prop}{xs:List D}{vs:Array Value}(h:km w St xs vs)(off n:Nat):
  km w St ((xs.drop off).take n) (vs.extract off (off+n)):=by
 refine⟨by simp[h.1];omega,fun i x v hx hv=>?_⟩
 rw[List.getElem?_take]at hx
 split at hx
 ·rename_i hi
  rw[List.getElem?_drop]at hx
  rw[Array.getElem?_extract]at hv
  split at hv
  ·exact h.2 (off+i) x v hx hv
  ·cases hv
 ·cases hx
theorem jy{t:TypeId}{n:Nat}(h:dY P t=some n)(w:World):(sizeOf t).run P w=.ok n w:=by
 unfold dY at h
 split at h
 ·rename_i i hi
  cases h
  simp[sizeOf,typeInfo,hi]
 ·cases h
theorem OV{t:TypeId}{b:Bool}(h:dJ P t=some b)(w:World):(isAgg t).run P w=.ok b w:=by
 unfold dJ at h
 split at h
 ·rename_i fs hu;cases h;simp[isAgg,run_underlying hu]
 ·rename_i n e' hu;cases h;simp[isAgg,run_underlying hu]
 ·rename_i d h1 h2 hu
  cases h
  simp only[isAgg,Sem.run_bind,run_underlying hu,Result.andThen_ok]
  cases d<;>first|rfl|(exact absurd hu (h1 _))|(exact absurd hu (h2 _ _))
 ·cases h
theorem Fl{t:TypeId}{b:Bool}{n:Nat}(h:kp P t=some (b,n)):dJ P t=some b∧dY P t=some n∧(b=false→n=1):=by
 unfold kp at h
 split at h
 ·rename_i b' hb
  split at h
  ·rename_i i hi
   cases hc:(b'||Nat.beq i.size 1)with
   |false=>rw[hc]at h;cases h
   |true=>
    rw[hc]at h
    cases h
    refine⟨hb,by simp[dY,hi],fun hf=>?_⟩
    subst hf
    exact Nat.eq_of_beq_eq_true (by simpa using hc)
  ·cases h
 ·cases h
theorem YC{t:TypeId}{b:Bool}{n:Nat}(hb:dJ P t=some b)(hn:dY P t=some n)(cs:Array Value)(off:Nat)(w:World):
  (part t cs off).run P w=if b then .ok (.agg (cs.extract off (off+n))) w else(match cs[off]? with|some v=>.ok v w|none=>.halt (.stuck "part: no such cell") w):=by
 unfold part
 simp only[Sem.run_bind,OV hb,Result.andThen_ok]
 cases b
 ·simp only[Bool.false_eq_true,if_false]
  cases cs[off]? <;>rfl
 ·simp[jy hn]
def g9(w:World)(St:Nat→Nat→Prop)(b:Bool)(xs:List D)(v:Value):Prop:=
 if b then ∃cs,v=.agg cs∧km w St xs cs else ∃x,xs=[x]∧aY w St x v
theorem B2{f:Nat}{t:TypeId}{ks:List CK}(h:shapeOf P f t=some ks):dY P t=some ks.length∧
  ((dJ P t=some false∧ks.length=1)∨dJ P t=some true):=by
 cases f with
 |zero=>simp[shapeOf]at h
 |succ f=>
  rw[shapeOf]at h
  split at h
  ·rename_i hu;split at h<;>cases h;rename_i hs;exact⟨hs,.inl ⟨by simp[dJ,hu],rfl⟩⟩
  ·rename_i hu;split at h<;>cases h;rename_i hs;exact⟨hs,.inl ⟨by simp[dJ,hu],rfl⟩⟩
  ·rename_i hu;split at h<;>cases h;rename_i hs;exact⟨hs,.inl ⟨by simp[dJ,hu],rfl⟩⟩
  ·rename_i n e' hu
   split at h
   ·rename_i mV gG
    split at h
    ·rename_i s hs
     cases hc:Nat.beq s (n*mV.length)with
     |true=>
      rw[hc]at h;cases h
      have:(wD mV n).length =n*mV.length:=by
       clear hc hu hs
       induction n with
       |zero=>simp[wD]
       |succ n ih=>simp[wD,ih,Nat.succ_mul];omega
      have h2:=Nat.eq_of_beq_eq_true hc
      exact⟨by rw[hs,this,h2],.inr (by simp[dJ,hu])⟩
     |false=>rw[hc]at h;cases h
    ·cases h
   ·cases h
  ·rename_i fs hu
   cases aS:P.stoodInHeld t with
   |true=>rw[aS]at h;cases h
   |false=>
    rw[aS]at h
    simp only[cond_false]at h
    split at h
    ·rename_i mV gG
     split at h
     ·rename_i s hs
      cases hc:Nat.beq s mV.length with
      |true=>
       rw[hc]at h;cases h
       have h2:=Nat.eq_of_beq_eq_true hc
       exact⟨by rw[hs,h2],.inr (by simp[dJ,hu])⟩
      |false=>rw[hc]at h;cases h
     ·cases h
    ·cases h
  ·cases h
theorem km.valOf{xs:List D}{vs:Array Value}(h:km w g.St xs vs){t:TypeId}{b:Bool}{n off:Nat}(hb:dJ P t=some b)(hn:dY P t=some n)
  (h1:b=false→n=1)(hle:off+n≤xs.length):∃v,(part t vs off).run P w=.ok v w∧g9 w g.St b ((xs.drop off).take n) v:=by
 rw[YC hb hn]
 cases b with
 |true=>exact⟨_,by simp;rfl,by simp only[g9,if_true];exact⟨_,rfl,h.extract off n⟩⟩
 |false=>
  have oz:=h1 rfl
  subst oz
  have aF:off<xs.length:=by omega
  have Ba:off<vs.size:=by rw[←h.1];exact aF
  refine⟨vs[off],by simp[Ba],?_⟩
  simp only[g9,Bool.false_eq_true,if_false]
  refine⟨xs[off],?_,h.2 off _ _ (by simp) (by simp)⟩
  rw[List.drop_eq_getElem_cons aF,List.take_succ_cons,List.take_zero]
theorem Nj(d:Nat)(go:TypeId→Option (List CK))(aM:∀t ks,go t=some ks→dY P t=some ks.length∧((dJ P t=some false∧ks.length=1)∨dJ P t=some true))
  (ih:∀(t:TypeId)(ks:List CK)(b:Bool)(xs ys:List D)(vx vy:Value)(r:Bool),go t=some ks→dJ P t=some b→
    dP ks xs=true→dP ks ys=true→g9 w g.St b xs vx→g9 w g.St b ys vy→fA xs ys=some r→(Op.equalIn d t vx vy).run P w=.ok r w)
  {xs ys:List D}{cx cy:Array Value}(rx:km w g.St xs cx)(ry:km w g.St ys cy):∀(fs:List Field)(off:Nat)(ks:List CK)(r:Bool),zY go fs off=some ks→off≤xs.length→off≤ys.length→
   dP ks (xs.drop off)=true→dP ks (ys.drop off)=true→fA (xs.drop off) (ys.drop off)=some r→(Op.eqFields d cx cy fs).run P w=.ok r w
 |[],off,ks,r,h,_,_,hx,hy,he=>by
  simp only[zY,Option.some.injEq]at h
  subst h
  have h1:=sN hx
  have h2:=sN hy
  rw[List.eq_nil_of_length_eq_zero h1,List.eq_nil_of_length_eq_zero h2]at he
  simp only[fA,Option.some.injEq]at he
  subst he
  rfl
 |f::fs,off,ks,r,h,hox,hoy,hx,hy,he=>by
  simp only[zY]at h
  split at h
  ·rename_i kf Gw
   cases hc:(f.name != "_" &&Nat.beq f.offset off)with
   |false=>rw[hc]at h;cases h
   |true=>
    rw[hc]at h
    simp only[cond_true]at h
    split at h
    ·rename_i kr Li
     cases h
     simp only[Bool.and_eq_true,bne_iff_ne,ne_eq]at hc
     have yQ:=Nat.eq_of_beq_eq_true hc.2
     obtain⟨ib,xo⟩:=zZ hx
     obtain⟨tR,vC⟩:=zZ hy
     obtain⟨hs,zh⟩:=aM _ _ Gw
     have lx:=sN hx
     have ly:=sN hy
     simp only[List.length_drop,List.length_append]at lx ly
     rw[←List.take_append_drop kf.length (xs.drop off),←List.take_append_drop kf.length (ys.drop off),
      Hw _ _ _ _ (by simp;omega)]at he
     split at he
     ·rename_i b1 mi
      split at he
      ·rename_i b2 oA
       cases he
       have rest:=Nj d go aM ih rx ry fs (off+kf.length) kr b2 Li (by omega) (by omega) (by rw[List.drop_drop]at xo;exact xo) (by rw[List.drop_drop]at vC;exact vC)
        (by rw[List.drop_drop,List.drop_drop]at oA;exact oA)
       obtain⟨b,hb,h1⟩:∃b,dJ P f.type=some b∧(b=false→kf.length=1):=by
        rcases zh with⟨h1,h2⟩|h1
        ·exact⟨false,h1,fun _=>h2⟩
        ·exact⟨true,h1,by simp⟩
       obtain⟨vx,px,qx⟩:=rx.valOf (off:=f.offset) hb hs h1 (by omega)
       obtain⟨vy,py,qy⟩:=ry.valOf (off:=f.offset) hb hs h1 (by omega)
       rw[yQ]at qx qy
       have hq:=ih f.type kf b _ _ vx vy b1 Gw hb ib tR qx qy mi
       simp only[Op.eqFields,if_pos hc.1,Sem.run_bind,px,py,hq,Result.andThen_ok]
       cases b1
       ·simp
       ·simpa using rest
      ·cases he
     ·cases he
    ·cases h
  ·cases h
theorem Np(d:Nat)(t:TypeId)(ks:List CK)(b:Bool)(hb:dJ P t=some b)(hs:dY P t=some ks.length)(h1:b=false→ks.length=1)
  (ih:∀(xs ys:List D)(vx vy:Value)(r:Bool),dP ks xs=true→dP ks ys=true→g9 w g.St b xs vx→g9 w g.St b ys vy→fA xs ys=some r→
    (Op.equalIn d t vx vy).run P w=.ok r w)
  {xs ys:List D}{cx cy:Array Value}(rx:km w g.St xs cx)(ry:km w g.St ys cy):∀(n i:Nat)(r:Bool),dP (wD ks n) (xs.drop (i*ks.length))=true→
   dP (wD ks n) (ys.drop (i*ks.length))=true→fA (xs.drop (i*ks.length)) (ys.drop (i*ks.length))=some r→
   (Op.eqItems d t ks.length cx cy (List.range' i n)).run P w=.ok r w
 |0,i,r,hx,hy,he=>by
  rw[List.eq_nil_of_length_eq_zero (sN hx),List.eq_nil_of_length_eq_zero (sN hy)]at he
  simp only[fA,Option.some.injEq]at he
  subst he
  rfl
 |n+1,i,r,hx,hy,he=>by
  simp only[wD]at hx hy
  obtain⟨ib,xo⟩:=zZ hx
  obtain⟨tR,vC⟩:=zZ hy
  have lx:=sN hx
  have ly:=sN hy
  simp only[List.length_drop,List.length_append]at lx ly
  rw[←List.take_append_drop ks.length (xs.drop (i*ks.length)),←List.take_append_drop ks.length (ys.drop (i*ks.length)),
   Hw _ _ _ _ (by simp;omega)]at he
  split at he
  ·rename_i b1 mi
   split at he
   ·rename_i b2 oA
    cases he
    have e:i*ks.length+ks.length=(i+1)*ks.length:=by rw[Nat.succ_mul]
    have rest:=Np d t ks b hb hs h1 ih rx ry n (i+1) b2 (by rw[List.drop_drop,e]at xo;exact xo) (by rw[List.drop_drop,e]at vC;exact vC)
     (by rw[List.drop_drop,List.drop_drop,e]at oA;exact oA)
    by_cases hz:ks.length=0∧xs.length<i*ks.length
    ·rw[hz.1]at hz;omega
    have kx:i*ks.length+ks.length≤xs.length:=by
     by_cases h0:ks.length=0
     ·rw[h0];omega
     ·omega
    have ky:i*ks.length+ks.length≤ys.length:=by
     by_cases h0:ks.length=0
     ·rw[h0];omega
     ·omega
    obtain⟨vx,px,qx⟩:=rx.valOf (off:=i*ks.length) hb hs h1 kx
    obtain⟨vy,py,qy⟩:=ry.valOf (off:=i*ks.length) hb hs h1 ky
    have hq:=ih _ _ vx vy b1 ib tR qx qy mi
    simp only[List.range'_succ,Op.eqItems,Sem.run_bind,px,py,hq,Result.andThen_ok]
    cases b1
    ·simp
    ·simpa using rest
   ·cases he
  ·cases he
theorem HB:∀(f d:Nat)(t:TypeId)(ks:List CK)(b:Bool)(xs ys:List D)(vx vy:Value)(r:Bool),shapeOf P f t=some ks→f≤d→dJ P t=some b→
  dP ks xs=true→dP ks ys=true→g9 w g.St b xs vx→g9 w g.St b ys vy→fA xs ys=some r→(Op.equalIn d t vx vy).run P w=.ok r w:=by
 intro f
 induction f with
 |zero=>intro d t ks b xs ys vx vy r h;simp[shapeOf]at h
 |succ f ih=>
  intro d t ks b xs ys vx vy r aU hd hb hx hy rx ry he
  obtain⟨d,rfl⟩:∃d',d=d'+1:=⟨d-1,by omega⟩
  have aM:=B2 aU
  rw[shapeOf]at aU
  split at aU
  ·
   rename_i hu
   split at aU<;>cases aU
   have:b=false:=by simpa[dJ,hu]using hb.symm
   subst this
   simp only[g9,Bool.false_eq_true,if_false]at rx ry
   obtain⟨x,rfl,rx⟩:=rx
   obtain⟨y,rfl,ry⟩:=ry
   cases x<;>simp[dP]at hx
   cases y<;>simp[dP]at hy
   cases rx;cases ry
   rw[run_equalIn_bool' w d t _ _ hu]
   simp[fA,mJ]at he
   rw[←he]
  ·rename_i k hu
   split at aU<;>cases aU
   have:b=false:=by simpa[dJ,hu]using hb.symm
   subst this
   simp only[g9,Bool.false_eq_true,if_false]at rx ry
   obtain⟨x,rfl,rx⟩:=rx
   obtain⟨y,rfl,ry⟩:=ry
   cases x<;>simp[dP]at hx
   cases y<;>simp[dP]at hy
   rename_i k1 n1 k2 n2
   cases rx;cases ry
   by_cases hk:k1=k2
   ·subst hk
    rw[run_equalIn_int w d t _ k _ _ hu]
    simp[fA,mJ]at he
    rw[←he]
   ·simp[fA,mJ,hk]at he
  ·rename_i hu
   split at aU<;>cases aU
   have:b=false:=by simpa[dJ,hu]using hb.symm
   subst this
   simp only[g9,Bool.false_eq_true,if_false]at rx ry
   obtain⟨x,rfl,rx⟩:=rx
   obtain⟨y,rfl,ry⟩:=ry
   cases x<;>simp[dP]at hx
   cases y<;>simp[dP]at hy
   cases rx with|str s1 _=>
   cases ry with|str s2 _=>
   rw[run_equalIn_string w d t _ _ hu]
   rw[ByteArray.toList_eq,ByteArray.toList_eq]
   simp only[fA,mJ,Bool.and_true,Option.some.injEq]at he
   rw[←he]
  ·
   rename_i n e' hu
   split at aU
   ·rename_i mV gG
    split at aU
    ·rename_i s hs
     cases hc:Nat.beq s (n*mV.length)with
     |false=>rw[hc]at aU;cases aU
     |true=>
      rw[hc]at aU;cases aU
      have:b=true:=by simpa[dJ,hu]using hb.symm
      subst this
      simp only[g9,if_true]at rx ry
      obtain⟨cx,rfl,rx⟩:=rx
      obtain⟨cy,rfl,ry⟩:=ry
      obtain⟨lN,zh⟩:=B2 gG
      obtain⟨b,eg,h1⟩:∃b,dJ P e'=some b∧(b=false→mV.length=1):=by
       rcases zh with⟨h1,h2⟩|h1
       ·exact⟨false,h1,fun _=>h2⟩
       ·exact⟨true,h1,by simp⟩
      obtain⟨i,hi,his⟩:∃i,P.info? e'=some i∧P.cellsOf e'=mV.length:=by
       unfold dY at lN
       split at lN
       ·rename_i i hi;exact⟨i,hi,by simpa[Program.cellsOf,hi]using lN⟩
       ·cases lN
      rw[run_equalIn_array w d _ _ hu hi,his,List.range_eq_range']
      exact Np d e' mV b eg lN h1 (fun xs ys vx vy r=>ih d e' mV b xs ys vx vy r gG (by omega) eg) rx ry n 0 r (by simpa using hx) (by simpa using hy) (by simpa using he)
    ·cases aU
   ·cases aU
  ·
   rename_i fs hu
   cases aS:P.stoodInHeld t with
   |true=>rw[aS]at aU;cases aU
   |false=>
    rw[aS]at aU
    simp only[cond_false]at aU
    split at aU
    ·rename_i mV gG
     split at aU
     ·rename_i s hs
      cases hc:Nat.beq s mV.length with
      |false=>rw[hc]at aU;cases aU
      |true=>
       rw[hc]at aU;cases aU
       have:b=true:=by simpa[dJ,hu]using hb.symm
       subst this
       simp only[g9,if_true]at rx ry
       obtain⟨cx,rfl,rx⟩:=rx
       obtain⟨cy,rfl,ry⟩:=ry
       have Bw:P.fieldsOf t=fs:=by simp[Program.fieldsOf,hu]
       rw[run_equalIn_struct w d t _ _ (by rw[Bw];exact hu) aS,Bw]
       exact Nj d (shapeOf P f) (fun t ks h=>B2 h) (fun t ks b xs ys vx vy r h=>ih d t ks b xs ys vx vy r h (by omega)) rx ry fs.toList 0 _ r gG (Nat.zero_le _) (Nat.zero_le _) (by simpa using hx) (by simpa using hy) (by simpa using he)
     ·cases aU
    ·cases aU
  ·cases aU
end
end Go.Proofs.Ytimbllcalipehaa.Ab
namespace Go.Proofs.Ytimbllcalipehaa.Ab
open Go Go.RowKit
theorem pQ(b o n:Nat):(⟨b,o,none⟩:Addr).add n=⟨b,o+n,none⟩:=by unfold Addr.add;split<;>simp_all
section
variable{P:Program}{gl:Nat→Option D}{w0:World}{ao:S0}{e:Env}{a:Act}{w:World}{g:Gh}
theorem jc(w:World)(o:Obj)(b:Nat)(h:b<w.heap.size):(w.alloc o).heap[b]? =w.heap[b]? :=by
 show(w.heap.push o)[b]? =_
 rw[Array.getElem?_push,if_neg (Nat.ne_of_lt h)]
theorem wj(w:World)(o:Obj):(w.alloc o).heap[w.heap.size]? =some o:=by
 show(w.heap.push o)[w.heap.size]? =_
 simp
theorem B8(w:World)(o:Obj):(w.alloc o).heap.size =w.heap.size+1:=by
 show(w.heap.push o).size =_
 simp
theorem Hx(w:World)(o:Obj)(b off:Nat)(h:b<w.heap.size):(w.alloc o).cell? ⟨b,off,none⟩=w.cell? ⟨b,off,none⟩:=
 World.cell?_of_block (jc w o b h)
theorem Inv.pd(hI:Inv gl w0 ao e a w g){b o:Nat}(h:g.St b o):b<w.heap.size:=(hI.cE b o h).2.2
theorem eJ.lt{base:Nat}{p:Pos}{b a c:Nat}(h:eJ base w g p b a c):b<w.heap.size:=by
 obtain⟨_,_,_,⟨cur,e,h,_⟩,_⟩:=h
 exact(Array.getElem?_eq_some_iff.1 h).1
theorem bp.Q5(hI:Inv gl w0 ao e a w g){o:Oper}{ob:Obj}{bx:af}{id:Nat}{sl:Slot}{vl:Value}{k:Slot→List af→Prop}
  (eZ:e.boxes[id]? =some .none)
  (ba:(execOp a.eval o).run P w=.ok (.value vl) (w.alloc ob))
  (jr:∀(g':Gh)(O:Nat→Nat→Nat→Nat→Prop),g'.bx[id]? =some (some w.heap.size)→cg w0.heap.size (w.alloc ob) g' O sl vl)
  (rep:∀(g':Gh),Ext w0.heap.size w g (w.alloc ob) g' (fun _=>False)→w0.heap.size≤w.heap.size→nX w0.heap.size (w.alloc ob) g' id bx w.heap.size)
  (hk:k sl (e.boxes.set id bx)):bp P gl w0 ao e.ai o a w k:=by
 intro next Q hn
 unfold Oper.wp
 rw[ba]
 have hle:w0.heap.size≤w.heap.size:=hI.below.size
 have Kr:id<e.boxes.length:=(List.getElem?_eq_some_iff.1 eZ).1
 have aev:∀aj,g.bx[id]? ≠some (some aj):=fun aj h=>by
  exact hI.boxes id .none aj eZ h
 have eb:∀b,some b∈g.bx.set id (some w.heap.size)→some b∈g.bx∨b=w.heap.size:=fun b h=>by
  rcases List.mem_or_eq_of_mem_set h with h|h
  ·exact .inl h
  ·exact .inr (by simpa using h)
 have hX:Ext w0.heap.size w g (w.alloc ob) {g with bx:=g.bx.set id (some w.heap.size)} (fun _=>False):=by
  refine⟨fun D o hb ho h=>⟨(jc w _ D (fJ h)).trans h,fun hm=>(by
   rcases eb D hm with h2|h2
   ·exact hb h2
   ·have:=fJ h;omega),ho,fun _ h=>h⟩,fun b o h=>⟨h,.qV (jc w _ b (hI.pd h))⟩,fun b o h=>Hx w _ b o (by omega),fun i aj h=>?_,fun p b a c _ ho=>?_,.of fun b hb=>jc w _ b hb⟩
  ·simp only
   rw[List.getElem?_set_ne (fun hh=>aev aj (by rw[hh];exact h))]
   exact h
  ·have aF:=ho.lt
   obtain⟨h1,h2,h3,⟨cur,ty,h4,kZ⟩,h5⟩:=ho
   refine⟨⟨h1,h2,?_,⟨cur,ty,(jc w _ b aF).trans h4,kZ⟩,h5⟩,fun _=>jc w _ b aF⟩
   intro hm
   rcases eb b hm with h|h
   ·exact h3 h
   ·omega
 refine hn sl _ _ _ {g with bx:=g.bx.set id (some w.heap.size)} (hI.step (lost:=fun p=>∃d j,o.dst=some d∧p=.s d j)
  ⟨hX.df,hX.st,hX.bs,hX.bx,fun p b a c _ ho=>hX.own p b a c (fun h=>h) ho,hX.sh⟩ ((Below.refl _ _).alloc hle _) rfl
  (fun i x hx hd=>⟨x,hx,.inl ⟨rfl,fun j=>?_⟩⟩) ?_ (by simp[hI.eX]) ?_ ?_ ?_ ?_) hk
 ·rintro⟨d,j',h1,h2⟩;cases h2;exact hd h1
 ·intro d _
  refine jr _ _ ?_
  simp only
  rw[List.getElem?_set_self (by rw[hI.eX];exact Kr)]
 ·intro b eB aj h1 h2
  simp only at h2
  by_cases hb:id=b
  ·subst hb
   rw[List.getElem?_set_self Kr]at h1
   rw[List.getElem?_set_self (by rw[hI.eX];exact Kr)]at h2
   simp only[Option.some.injEq]at h1 h2
   subst h1 h2
   exact rep _ hX hle
  ·rw[List.getElem?_set_ne hb]at h1 h2
   have Da:=(hI.dn aj (List.mem_of_getElem? h2)).2
   exact hX.box (fun _ h=>h) (jc w _ aj Da) (hI.boxes b eB aj h1 h2)
 ·intro i j aj h1 h2
  simp only at h1 h2
  rw[List.getElem?_set]at h1 h2
  split at h1<;>split at h2
  ·omega
  ·rename_i hi hj
   split at h1
   ·simp only[Option.some.injEq]at h1
    subst h1
    have:=(hI.dn _ (List.mem_of_getElem? h2)).2
    omega
   ·cases h1
  ·rename_i hi hj
   split at h2
   ·simp only[Option.some.injEq]at h2
    subst h2
    have:=(hI.dn _ (List.mem_of_getElem? h1)).2
    omega
   ·cases h2
  ·exact hI.nodup i j aj h1 h2
 ·intro b hb
  have hs:(w.alloc ob).heap.size =w.heap.size+1:=B8 w _
  rw[hs]
  rcases eb b hb with hb|rfl
  ·have:=hI.dn b hb;omega
  ·omega
 ·intro b o h
  have hs:(w.alloc ob).heap.size =w.heap.size+1:=B8 w _
  have h1:=hI.cE b o h
  refine⟨h1.1,fun hm=>?_,by omega⟩
  rcases eb b hm with h|h
  ·exact h1.2.1 h
  ·omega
theorem bp.FB(hI:Inv gl w0 ao e a w g){o:Oper}{cells:Array Value}{t:TypeId}{bx:af}{id:Nat}{k:Slot→List af→Prop}
  (eZ:e.boxes[id]? =some .none)
  (ba:(execOp a.eval o).run P w=.ok (.value (.pointer (some ⟨w.heap.size,0,none⟩))) (w.alloc (.cells cells t)))
  (cq:∀y∈cells,y.oneCell'=true)
  (rep:∀(w':World)(g':Gh)(O:Nat→Nat→Nat→Nat→Prop),Ext w0.heap.size w g w' g' (fun _=>False)→(match(generalizing:=false) bx with
    | .none =>False
    | .map _=>False
    | .cells cs=>cs.length≤cells.size∧∀(j:Nat)x y,cs[j]? =some x→cells[j]? =some y→aJ w' g'.St w0.heap.size (O j) x y
    | .one s=>0<cells.size∧∀y,cells[0]? =some y→cg w0.heap.size w' g' (fun _=>O 0) s y))
  (hk:k (.p id 0) (e.boxes.set id bx)):bp P gl w0 ao e.ai o a w k:=by
 refine bp.Q5 hI eZ ba (fun g' O hb=>.p _ _ _ _ hb) (fun g' hX hle=>?_) hk
 have:=rep _ g' (rD w0.heap.size (w.alloc (.cells cells t)) g' id) hX
 cases bx with
 |none=>exact this.elim
 |map l=>exact this.elim
 |cells cs=>exact⟨hle,cells,t,wj w _,fun j y _ h=>cq y (Array.mem_of_getElem? h),this⟩
 |one s=>exact⟨hle,cells,t,wj w _,fun j y _ h=>cq y (Array.mem_of_getElem? h),this⟩
theorem Inv.Q6(hI:Inv gl w0 ao e a w g){b aj:Nat}{eB:af}{w':World}{dst:Option Nat}{s:Slot}{v:Value}{ai:List Slot}
  (rz uV:Nat→Prop){g':Gh}(iX:g'.St=g.St)(tS:g'.bx=g.bx)
  (rS:∀p nY,(∀i j,p=.s i j→¬rz i)→(∀j,p=.b b j→¬uV j)→(∀d j,dst=some d→p≠.s d j)→g.ow nY=some p→g'.ow nY=some p)(Lj:∀D,g.ow D=none→g'.ow D=none)
  (hb:g.bx[b]? =some (some aj))
  (dZ:∀k,k≠aj→w'.heap[k]? =w.heap[k]?)(aU:∀c ty,w.heap[aj]? =some (.cells c ty (0,0))→∃c' rQ,w'.heap[aj]? =some (.cells c' rQ (0,0))∧c'.size=c.size)(aM:w'.heap.size=w.heap.size)
  (vD:w'.os=w.os∧w'.tape=w.tape∧w'.output=w.output)
  (hlen:ai.length=e.ai.length)
  (hs:∀(i:Nat)x,ai[i]? =some x→dst≠some i→∃y,e.ai[i]? =some y∧((x=y∧¬rz i)∨x=y.aa))
  (rep:Ext w0.heap.size w g w' g' (fun p=>(∃i j,p=.s i j∧rz i)∨(∃j,p=.b b j∧uV j)∨(∃d j,dst=some d∧p=.s d j))→w0.heap.size≤aj→nX w0.heap.size w' g' b eB aj)
  (mQ:Ext w0.heap.size w g w' g' (fun p=>(∃i j,p=.s i j∧rz i)∨(∃j,p=.b b j∧uV j)∨(∃d j,dst=some d∧p=.s d j))→
    ∀d,dst=some d→cg w0.heap.size w' g' (eW w0.heap.size w' g' d) s v):
  Inv gl w0 ao ⟨cz ai dst s,e.boxes.set b eB⟩ (a.put dst v) w' g':=by
 have xp:some aj∈g.bx:=List.mem_of_getElem? hb
 have dB:=hI.dn aj xp
 have hX:Ext w0.heap.size w g w' g' (fun p=>(∃i j,p=.s i j∧rz i)∨(∃j,p=.b b j∧uV j)∨(∃d j,dst=some d∧p=.s d j)):=by
  refine⟨fun D o js ho h=>⟨(dZ D (fun e=>js (by rw[e];exact xp))).trans h,by rw[tS];exact js,Lj D ho,fun x hx=>by rw[iX]at hx;exact hx⟩,fun b' o h=>⟨by rw[iX];exact h,.qV (dZ b' ?_)⟩,fun b' o h=>World.cell?_of_block (dZ b' (by omega)),fun i x h=>by rw[tS];exact h,?_,fun b' c ty _ eg=>(by
   by_cases ef:b'=aj
   ·subst ef;exact aU c ty eg
   ·exact⟨c,ty,(dZ b' ef).trans eg,rfl⟩)⟩
  ·rintro rfl;exact(hI.cE b' o h).2.1 xp
  ·rintro p b' a' c' hl ⟨h1,h2,h3,⟨cur,ty,h4,kZ⟩,h5⟩
   exact⟨⟨rS p b' (fun i j h gU=>hl (.inl ⟨i,j,h,gU⟩)) (fun j h gU=>hl (.inr (.inl ⟨j,h,gU⟩))) (fun d j h1 h2=>hl (.inr (.inr ⟨d,j,h1,h2⟩))) h1,h2,by rw[tS];exact h3,
    ⟨cur,ty,(dZ b' (fun h=>h3 (h▸xp))).trans h4,kZ⟩,fun o ho=>by rw[iX];exact h5 o ho⟩,fun _=>dZ b' (fun h=>h3 (h▸xp))⟩
 have nR:Below w0.heap.size w w':=⟨vD.1,vD.2.1,vD.2.2,by omega,fun k hk=>dZ k (by omega)⟩
 refine hI.step hX nR hlen (fun i x hx hd=>?_) (mQ hX) (by rw[tS];simp[hI.eX]) ?_ (by rw[tS];exact hI.nodup) ?_ ?_
 ·obtain⟨y,hy,⟨rfl,hl⟩|h⟩:=hs i x hx hd
  ·refine⟨x,hy,.inl ⟨rfl,fun j=>?_⟩⟩
   rintro(⟨i',j',h,gU⟩|⟨j',h,_⟩|⟨d,j',h1,h2⟩)
   ·cases h;exact hl gU
   ·cases h
   ·cases h2;exact hd h1
  ·exact⟨y,hy,.inr h⟩
 ·intro b' bx nY h1 h2
  rw[tS]at h2
  rw[List.getElem?_set]at h1
  by_cases ef:b=b'
  ·subst ef
   rw[hb]at h2;cases h2
   simp only[↓reduceIte]at h1
   split at h1
   ·cases h1
    exact rep hX dB.1
   ·cases h1
  ·simp only[ef,↓reduceIte]at h1
   have bg:nY≠aj:=by
    rintro rfl
    exact ef (hI.nodup _ _ _ hb h2)
   refine hX.box (fun j=>?_) (dZ nY bg) (hI.boxes b' bx nY h1 h2)
   rintro(⟨i',j',h,gU⟩|⟨j',h,_⟩|⟨d,j',h1,h2⟩)
   ·cases h
   ·cases h;exact ef rfl
   ·cases h2
 ·intro x hx;rw[tS]at hx;rw[aM];exact hI.dn x hx
 ·intro b' o h;rw[iX]at h;rw[tS,aM];exact hI.cE b' o h
theorem Inv.JK(hI:Inv gl w0 ao e a w g){b aj:Nat}{eB:af}{w':World}{cells:Array Value}{t:TypeId}{dst:Option Nat}{s:Slot}{v:Value}{ai:List Slot}
  (rz uV:Nat→Prop){g':Gh}(iX:g'.St=g.St)(tS:g'.bx=g.bx)
  (rS:∀p nY,(∀i j,p=.s i j→¬rz i)→(∀j,p=.b b j→¬uV j)→(∀d j,dst=some d→p≠.s d j)→g.ow nY=some p→g'.ow nY=some p)(Lj:∀D,g.ow D=none→g'.ow D=none)
  (hb:g.bx[b]? =some (some aj))
  (cq:∀(j:Nat)y,j<eB.size→cells[j]? =some y→y.oneCell'=true)
  (dk:w'.heap[aj]? =some (.cells cells t (0,0)))(cf:∀c ty,w.heap[aj]? =some (.cells c ty (0,0))→cells.size=c.size)(dZ:∀k,k≠aj→w'.heap[k]? =w.heap[k]?)(aM:w'.heap.size=w.heap.size)
  (vD:w'.os=w.os∧w'.tape=w.tape∧w'.output=w.output)
  (hlen:ai.length=e.ai.length)
  (hs:∀(i:Nat)x,ai[i]? =some x→dst≠some i→∃y,e.ai[i]? =some y∧((x=y∧¬rz i)∨x=y.aa))
  (rep:Ext w0.heap.size w g w' g' (fun p=>(∃i j,p=.s i j∧rz i)∨(∃j,p=.b b j∧uV j)∨(∃d j,dst=some d∧p=.s d j))→(match(generalizing:=false) eB with
    | .none =>False
    | .map _=>False
    | .cells cs=>cs.length≤cells.size∧∀(j:Nat)x y,cs[j]? =some x→cells[j]? =some y→aJ w' g'.St w0.heap.size (rD w0.heap.size w' g' b j) x y
    | .one s=>0<cells.size∧∀y,cells[0]? =some y→cg w0.heap.size w' g' (fun _=>rD w0.heap.size w' g' b 0) s y))
  (mQ:Ext w0.heap.size w g w' g' (fun p=>(∃i j,p=.s i j∧rz i)∨(∃j,p=.b b j∧uV j)∨(∃d j,dst=some d∧p=.s d j))→
    ∀d,dst=some d→cg w0.heap.size w' g' (eW w0.heap.size w' g' d) s v):
  Inv gl w0 ao ⟨cz ai dst s,e.boxes.set b eB⟩ (a.put dst v) w' g':=by
 refine hI.Q6 rz uV iX tS rS Lj hb dZ (fun c ty h=>⟨cells,t,dk,cf c ty h⟩) aM vD hlen hs (fun hX hle=>?_) mQ
 have:=rep hX
 cases eB with
 |none=>exact this.elim
 |map l=>exact this.elim
 |cells cs=>exact⟨hle,cells,t,dk,cq,this⟩
 |one s=>exact⟨hle,cells,t,dk,cq,this⟩
end
end Go.Proofs.Ytimbllcalipehaa.Ab
namespace Go.Proofs.Ytimbllcalipehaa.Ab
open Go Go.RowKit
section
variable{P:Program}{gl:Nat→Option D}{w0:World}{ao:S0}{e:Env}{a:Act}{w:World}{g:Gh}
theorem aY.re{St:Nat→Nat→Prop}{k:IntKind}{n:Int}{v:Value}(h:aY w St (.int k n) v):v=.int k n∧ga k n=true:=by
 cases h with
 |int _ _ h=>exact⟨rfl,h⟩
theorem aY.uA{St:Nat→Nat→Prop}{l:List UInt8}{v:Value}(h:aY w St (.str l) v):∃s,v=.string s∧l=s.data.toList∧s.size≤maxLen:=by
 cases h with
 |str s h=>exact⟨s,rfl,rfl,h⟩
theorem aY.sU{St:Nat→Nat→Prop}{b:Bool}{v:Value}(h:aY w St (.bool b) v):v=.bool b:=by
 cases h with
 |bool _=>rfl
theorem aY.wE{St:Nat→Nat→Prop}{ds:List D}{v:Value}(h:aY w St (.agg ds) v):∃vs,v=.agg vs∧km w St ds vs∧∀d∈ds,d.one=true:=by
 cases h with
 |agg _ vs hf hl hc=>exact⟨vs,rfl,⟨hl,hc⟩,hf⟩
theorem EB(op:BinOp)(t:TypeId)(x y:Operand)(u v:Value)(h:(match u,v with| .nilIface,.nilIface =>False| .agg _,.agg _=>False|_,_=>True)):
  (eqGuard op t x y u v).run P w=.ok () w:=by
 cases op<;>(try rfl)<;>(unfold eqGuard;simp only[Bool.not_true,Bool.false_eq_true,if_false];cases u<;>cases v<;>first|rfl|exact h.elim)
theorem YD(hI:Inv gl w0 ao e a w g){o:Oper}{op:BinOp}{t u:TypeId}{x y:Operand}(ho:o.op=.binOp op t x y u){k:Slot→List af→Prop}
  (h:ab (ag (Cw P op t) op ((Ab.aV gl e x).aa).bU ((Ab.aV gl e y).aa).bU) fun r=>k (.v r) e.boxes):bp P gl w0 ao e.ai o a w k:=by
 obtain⟨r,hr,hk⟩:=aI h
 have hx:=hI.g7 x
 have hy:=hI.g7 y
 generalize ((Ab.aV gl e x).aa).bU =sx at hr hx
 generalize ((Ab.aV gl e y).aa).bU =sy at hr hy
 have key:∃v rd,r=.d rd∧(eqGuard op t x y (a.eval x) (a.eval y)).run P w=.ok () w∧(binOp op t (a.eval x) (a.eval y)).run P w=.ok v w∧aY w g.St rd v:=by
  cases sx<;>simp only[ag,reduceCtorEq]at hr
  rename_i dx
  cases sy<;>simp only[reduceCtorEq]at hr
  rename_i dy
  replace hx:=hx.data
  replace hy:=hy.data
  split at hr
  ·rename_i rd dH
   cases hr
   cases dx<;>cases dy<;>simp only[fh,reduceCtorEq]at dH
   ·
    rename_i b1 b2
    split at dH
    ·rename_i aU
     rw[hx.sU,hy.sU]
     have hg:=EB (P:=P) (w:=w) op t x y (.bool b1) (.bool b2) trivial
     have:∃f,shapeOf P f t=some [.bool]∧f≤10000∧dJ P t=some false:=by
      unfold Cw at aU
      split at aU
      ·cases hq:P.eqGuardType P.depth t<;>rw[hq]at aU<;>simp only[cond_true,cond_false,reduceCtorEq]at aU
       split at aU
       ·split at aU
        ·simp only[Option.some.injEq,Prod.mk.injEq]at aU
         obtain⟨rfl,rfl⟩:=aU
         exact⟨20,by assumption,by decide,by assumption⟩
        ·cases aU
       ·split at aU<;>cases aU
      ·cases hq:P.eqGuardType P.depth t<;>rw[hq]at aU<;>simp only[cond_true,cond_false,reduceCtorEq]at aU
       split at aU
       ·split at aU
        ·simp only[Option.some.injEq,Prod.mk.injEq]at aU
         obtain⟨rfl,rfl⟩:=aU
         exact⟨20,by assumption,by decide,by assumption⟩
        ·cases aU
       ·split at aU<;>cases aU
      ·cases aU
     obtain⟨f,h1,h2,h3⟩:=this
     have hq:=HB (w:=w) (g:=g) f 10000 t _ false [.bool b1] [.bool b2] (.bool b1) (.bool b2) (b1==b2) h1 h2 h3 rfl rfl
      (by simp only[g9,Bool.false_eq_true,if_false];exact⟨_,rfl,.bool _⟩) (by simp only[g9,Bool.false_eq_true,if_false];exact⟨_,rfl,.bool _⟩) (by simp[fA,mJ])
     split at dH
     ·cases dH;exact⟨_,_,rfl,hg,by simp[binOp,Op.equal,Op.maxDepth,hq],.bool _⟩
     ·cases dH;exact⟨_,_,rfl,hg,by simp[binOp,Op.equal,Op.maxDepth,hq],.bool _⟩
     ·cases dH
    ·cases dH
   ·
    rename_i k1 n1 k2 n2
    obtain⟨ex,wx⟩:=hx.re
    obtain⟨ey,wy⟩:=hy.re
    rw[ex,ey]
    have hg:=EB (P:=P) (w:=w) op t x y (.int k1 n1) (.int k2 n2) trivial
    split at dH
    ·obtain⟨v,hv,gn⟩:=NL (P:=P) (w:=w) (g:=g) (k':=k2) t (.inl rfl) wx dH
     exact⟨v,rd,rfl,hg,hv,gn⟩
    ·obtain⟨v,hv,gn⟩:=NL (P:=P) (w:=w) (g:=g) (k':=k2) t (.inr rfl) wx dH
     exact⟨v,rd,rfl,hg,hv,gn⟩
    ·rename_i h1 h2
     split at dH
     ·rename_i lO
      subst lO
      obtain⟨v,hv,gn⟩:=Wx (P:=P) (w:=w) (g:=g) t ⟨h1,h2⟩ wx wy dH
      exact⟨v,rd,rfl,hg,hv,gn⟩
     ·cases dH
   ·
    obtain⟨s1,e1,f1,_⟩:=hx.uA
    obtain⟨s2,e2,f2,_⟩:=hy.uA
    rw[e1,e2]
    rw[f1,f2]at dH
    obtain⟨v,hv,gn⟩:=Wy (P:=P) (w:=w) (g:=g) t dH
    exact⟨v,rd,rfl,EB op t x y _ _ trivial,hv,gn⟩
   ·
    rename_i l1 l2
    split at dH
    ·rename_i ks aU
     obtain⟨v1,e1,r1,_⟩:=hx.wE
     obtain⟨v2,e2,r2,_⟩:=hy.wE
     rw[e1,e2]
     cases j7:(dP ks l1&&dP ks l2)with
     |false=>rw[j7]at dH;cases dH
     |true=>
      rw[j7]at dH
      simp only[Bool.and_eq_true]at j7
      simp only[cond_true]at dH
      have:shapeOf P 20 t=some ks∧dJ P t=some true∧P.eqGuardType P.depth t=false:=by
       unfold Cw at aU
       split at aU
       ·cases hq:P.eqGuardType P.depth t<;>rw[hq]at aU<;>simp only[cond_true,cond_false,reduceCtorEq]at aU
        split at aU
        ·split at aU
         ·simp only[Option.some.injEq,Prod.mk.injEq]at aU
          obtain⟨rfl,rfl⟩:=aU
          exact⟨by assumption,by assumption,rfl⟩
         ·cases aU
        ·split at aU<;>cases aU
       ·cases hq:P.eqGuardType P.depth t<;>rw[hq]at aU<;>simp only[cond_true,cond_false,reduceCtorEq]at aU
        split at aU
        ·split at aU
         ·simp only[Option.some.injEq,Prod.mk.injEq]at aU
          obtain⟨rfl,rfl⟩:=aU
          exact⟨by assumption,by assumption,rfl⟩
         ·cases aU
        ·split at aU<;>cases aU
       ·cases aU
      obtain⟨h1,h3,h4⟩:=this
      have hg:=run_eqGuard_agg (P:=P) w op t x y v1 v2 h4
      have hq:∀c,fA l1 l2=some c→(Op.equalIn 10000 t (.agg v1) (.agg v2)).run P w=.ok c w:=fun c hc=>
       HB (w:=w) (g:=g) 20 10000 t _ true l1 l2 (.agg v1) (.agg v2) c h1 (by decide) h3 j7.1 j7.2
        (by simp only[g9,if_true];exact⟨_,rfl,r1⟩) (by simp only[g9,if_true];exact⟨_,rfl,r2⟩) hc
      split at dH
      ·split at dH
       ·rename_i c hc;cases dH;exact⟨_,_,rfl,hg,by simp[run_eql_struct,hq c hc],.bool _⟩
       ·cases dH
      ·split at dH
       ·rename_i c hc;cases dH;exact⟨_,_,rfl,hg,by simp[run_neq_struct,hq c hc],.bool _⟩
       ·cases dH
      ·cases dH
    ·cases dH
   ·
    rename_i a1 s1 l1 b1 s2 l2
    cases b1<;>simp only[reduceCtorEq]at dH
    split at dH
    ·rename_i aU
     have hu:∃e',P.underlying t=some (.slice e'):=by
      unfold Cw at aU
      have bad:∀{ks:List CK}{b:Bool},shapeOf P 20 t=some ks→dJ P t=some b→(b,ks)=(false,[])→False:=fun{ks b}h1 h2 h3=>by
       cases h3
       rcases(B2 h1).2 with h4|h4
       ·simp at h4
       ·rw[h2]at h4;cases h4
      split at aU
      ·cases hq:P.eqGuardType P.depth t<;>rw[hq]at aU<;>simp only[cond_true,cond_false,reduceCtorEq]at aU
       split at aU
       ·split at aU
        ·exact(bad (by assumption) (by assumption) (Option.some.inj aU)).elim
        ·cases aU
       ·split at aU
        ·exact⟨_,by assumption⟩
        ·cases aU
      ·cases hq:P.eqGuardType P.depth t<;>rw[hq]at aU<;>simp only[cond_true,cond_false,reduceCtorEq]at aU
       split at aU
       ·split at aU
        ·exact(bad (by assumption) (by assumption) (Option.some.inj aU)).elim
        ·cases aU
       ·split at aU
        ·exact⟨_,by assumption⟩
        ·cases aU
      ·cases aU
     obtain⟨e',hu⟩:=hu
     have qo:a.eval y=.slice none 0 0:=by
      generalize a.eval y=vy at hy
      cases hy;rfl
     have Dv:∃p n c,a.eval x=.slice p n c∧p.isNone=decide (a1=SK.nil):=by
      generalize a.eval x=vx at hx
      cases hx with
      |ir=>exact⟨_,_,_,rfl,rfl⟩
      |sl=>exact⟨_,_,_,rfl,rfl⟩
      |j6=>exact⟨_,_,_,rfl,rfl⟩
     obtain⟨p,n,c,Dv,hp⟩:=Dv
     rw[Dv,qo]
     have hq:(Op.equalIn 10000 t (.slice p n c) (.slice none 0 0)).run P w=.ok (decide (a1=SK.nil)) w:=by
      rw[←hp,show(10000:Nat)=9999+1 from rfl,Op.equalIn]
      cases p<;>simp[run_underlying hu]
     have hg:=EB (P:=P) (w:=w) op t x y (.slice p n c) (.slice none 0 0) trivial
     split at dH
     ·cases dH;exact⟨_,_,rfl,hg,by simp[binOp,Op.equal,Op.maxDepth,hq],.bool _⟩
     ·cases dH;exact⟨_,_,rfl,hg,by simp[binOp,Op.equal,Op.maxDepth,hq],.bool _⟩
     ·cases dH
    ·cases dH
  ·cases hr
 obtain⟨v,rd,rfl,hg,hv,gn⟩:=key
 refine bp.eQ hI (s:=.d rd) (v:=v) ?_ (.d _ _ _ gn) hk
 simp[execOp,ho,hg,hv]
theorem ZX(hI:Inv gl w0 ao e a w g){o:Oper}{op:UnOp}{t:TypeId}{x:Operand}(ho:o.op=.unOp op t x){k:Slot→List af→Prop}
  (h:ab (eA op ((Ab.aV gl e x).aa).bU) fun r=>k (.v r) e.boxes):bp P gl w0 ao e.ai o a w k:=by
 obtain⟨r,hr,hk⟩:=aI h
 have hx:=hI.g7 x
 generalize ((Ab.aV gl e x).aa).bU =sx at hr hx
 unfold eA at hr
 split at hr
 ·rename_i b
  have hx:=hx.data.sU
  split at hr
  ·cases hr;exact bp.eQ hI (v:=.bool (!b)) (by simp[execOp,ho,hx,Op.unary]) (.d _ _ _ (.bool _)) hk
  ·cases hr
 ·rename_i kk n
  obtain⟨hx,wx⟩:=hx.data.re
  split at hr
  ·cases hr;exact bp.eQ hI (by simp only[execOp,ho,hx,Op.unary,Op.intArith];simp) (.d _ _ _ (.int _ _ (x8 _ _))) hk
  ·cases hr;exact bp.eQ hI (by simp only[execOp,ho,hx,Op.unary,Op.intBits];simp) (.d _ _ _ (.int _ _ (x8 _ _))) hk
  ·cases hr
 ·cases hr
theorem Xt(hI:Inv gl w0 ao e a w g){o:Oper}{src dst:TypeId}{x:Operand}(ho:o.op=.convert src dst x)(hs:(P.underlying src).isSome =true){k:Slot→List af→Prop}
  (h:ab (J0 P dst ((Ab.aV gl e x).aa).bU) fun r=>k (.v r) e.boxes):bp P gl w0 ao e.ai o a w k:=by
 obtain⟨r,hr,hk⟩:=aI h
 have hx:=hI.g7 x
 generalize ((Ab.aV gl e x).aa).bU =sx at hr hx
 obtain⟨us,SZ⟩:=Option.isSome_iff_exists.1 hs
 unfold J0 at hr
 split at hr
 ·rename_i kk n
  obtain⟨hx,wx⟩:=hx.data.re
  split at hr
  ·rename_i kd hd
   cases hr
   refine bp.eQ hI (v:=.int kd (kd.wrap n)) ?_ (.d _ _ _ (.int _ _ (x8 _ _))) hk
   cases us<;>simp[execOp,ho,hx,convert,run_underlying SZ,run_underlying hd,Conv.intToInt]
  ·cases hr
 ·rename_i l
  obtain⟨s1,e1,f1,h1⟩:=hx.data.uA
  split at hr
  ·rename_i hd
   cases hr
   refine bp.eQ hI (v:=.string s1) ?_ (.d _ _ _ (by rw[f1];exact .str _ h1)) hk
   cases us<;>simp[execOp,ho,e1,convert,run_underlying SZ,run_underlying hd]
  ·cases hr
 ·cases hr
end
end Go.Proofs.Ytimbllcalipehaa.Ab
namespace Go.Proofs.Ytimbllcalipehaa.Ab
open Go Go.RowKit
section
variable{P:Program}{gl:Nat→Option D}{w0:World}{ao:S0}{e:Env}{a:Act}{w:World}{g:Gh}
theorem Inv.mj(hI:Inv gl w0 ao e a w g){x:Operand}{s:Slot}(h:(Ab.aV gl e x).aa =s):cg w0.heap.size w g (fun _ _ _ _=>False) s (a.eval x):=h▸hI.aV x
theorem cg.jB{base:Nat}{O:Nat→Nat→Nat→Nat→Prop}{x:SV}{v:Value}(h:cg base w g O (.v x) v):aJ w g.St base (O 0) x v:=by
 cases h with
 |v _ _ _ h=>exact h
theorem cg.mc{base:Nat}{O:Nat→Nat→Nat→Nat→Prop}{b off:Nat}{v:Value}(h:cg base w g O (.p b off) v):∃aj,v=.pointer (some ⟨aj,off,none⟩)∧g.bx[b]? =some (some aj):=by
 cases h with
 |p _ _ _ aj h=>exact⟨aj,rfl,h⟩
theorem cg.J5{base:Nat}{O:Nat→Nat→Nat→Nat→Prop}{xs:List SV}{v:Value}(h:cg base w g O (.t xs) v):
  ∃vs,v=.tuple vs∧xs.length=vs.size∧∀(j:Nat)x v,xs[j]? =some x→vs[j]? =some v→aJ w g.St base (O j) x v:=by
 cases h with
 |t _ _ vs hl hc=>exact⟨vs,rfl,hl,hc⟩
theorem aJ.rb{St:Nat→Nat→Prop}{base:Nat}{O:Nat→Nat→Nat→Prop}{x:SV}{v:Value}(h:aJ w St base O x v)(hx:(match x with| .d y=>y.one=true| .undef =>False|_=>True)):
  v.oneCell'=true:=by
 cases h<;>first|rfl|(exact aY.rb (by assumption) hx)|exact hx.elim
theorem aJ.cells{St:Nat→Nat→Prop}{base:Nat}{O:Nat→Nat→Nat→Prop}{x:SV}{v:Value}(h:aJ w St base O x v){l:List SV}(hl:az x=some l):
  l.length=v.cells.size∧(∀y∈v.cells,y.oneCell'=true)∧∀(i:Nat)c y,l[i]? =some c→v.cells[i]? =some y→aJ w St base O c y:=by
 have one:∀(c:SV)(u:Value),aJ w St base O c u→u.oneCell'=true→u.cells= #[u]→[c].length =u.cells.size∧(∀y∈u.cells,y.oneCell'=true)∧∀(i:Nat)c' y,[c][i]? =some c'→u.cells[i]? =some y→aJ w St base O c' y:=by
  intro c u hr h1 hu
  rw[hu]
  refine⟨rfl,by simpa using h1,fun i c' y hc hy=>?_⟩
  cases i with
  |zero=>simp at hc hy;subst hc hy;exact hr
  |succ i=>simp at hc
 cases h with
 |d _ y _ hd=>
  simp only[az,Option.some.injEq]at hl
  subst hl
  by_cases hy:y.one=true
  ·have hc:y.cells=[y]:=by cases y<;>first|rfl|simp[D.one]at hy
   have h1:=hd.rb hy
   have hv:v.cells= #[v]:=by cases v<;>first|rfl|simp[Value.oneCell']at h1
   rw[hc]
   exact one (.d y) v (.d _ _ _ hd) h1 hv
  ·cases y<;>simp only[D.one,not_true_eq_false]at hy
   rename_i ds
   obtain⟨vs,rfl,⟨hs,hc⟩,hf⟩:=hd.wE
   refine⟨by simpa[D.cells,Value.cells]using hs,fun y hy=>?_,fun i c y iY hy=>?_⟩
   ·obtain⟨i,hi,rfl⟩:=Array.mem_iff_getElem.1 hy
    have eE:i<ds.length:=by rw[hs];exact hi
    exact(hc i ds[i] _ (List.getElem?_eq_getElem eE) (Array.getElem?_eq_getElem hi)).rb (hf _ (List.getElem_mem eE))
   ·simp only[D.cells,List.getElem?_map,Option.map_eq_some_iff]at iY
    obtain⟨d,ic,rfl⟩:=iY
    exact .d _ _ _ (hc i d y ic hy)
 |own _ sz L gg cap hd bJ ho=>simp only[az,Option.some.injEq]at hl;subst hl;exact one _ _ (.own _ sz L gg cap hd bJ ho) rfl rfl
 |full _ sz L ad hd=>simp only[az,Option.some.injEq]at hl;subst hl;exact one _ _ (.full _ sz L ad hd) rfl rfl
 |ref _ cs off b o vs hb h1 h2=>simp only[az,Option.some.injEq]at hl;subst hl;exact one _ _ (.ref _ cs off b o vs hb h1 h2) rfl rfl
 |cG _ n sz cs b cap vs hb hn hm h1 h2=>simp only[az,Option.some.injEq]at hl;subst hl;exact one _ _ (.cG _ n sz cs b cap vs hb hn hm h1 h2) rfl rfl
 |aT _ y off b o vs h0 h1 h2=>simp only[az,Option.some.injEq]at hl;subst hl;exact one _ _ (.aT _ y off b o vs h0 h1 h2) rfl rfl
 |di _ f first cap fv cv h1 h2 h3 h4=>simp only[az,Option.some.injEq]at hl;subst hl;exact one _ _ (.di _ f first cap fv cv h1 h2 h3 h4) rfl rfl
 |bt _ sz L gg cap vs h1 h2 h3 h4 h5 h6 h7=>simp only[az,Option.some.injEq]at hl;subst hl;exact one _ _ (.bt _ sz L gg cap vs h1 h2 h3 h4 h5 h6 h7) rfl rfl
 |mp _ m r es clock h1 h2 h3 h4=>simp only[az,Option.some.injEq]at hl;subst hl;exact one _ _ (.mp _ m r es clock h1 h2 h3 h4) rfl rfl
 |undef _ _=>simp[az]at hl
theorem HC{t:TypeId}{z:List D}(h:nD P t=some z):∃zv:Value,(∀w:World,(zeroValue t).run P w=.ok zv w)∧z.length=zv.cells.size∧(∀d∈z,d.one=true)∧
  ∀(w:World)(St:Nat→Nat→Prop)(i:Nat)x v,z[i]? =some x→zv.cells[i]? =some v→aY w St x v:=by
 unfold nD at h
 split at h
 ·rename_i i hi
  split at h
  ·rename_i zv hz
   refine⟨zv,fun w=>by simp[zeroValue,typeInfo,hi,hz],?_,HI h,fun w St j x v hx hv=>?_⟩
   ·have:=(B4 (w:=default) (St:=fun _ _=>False) h).1
    simpa using this
   ·exact(B4 (w:=w) (St:=St) h).2 j x v hx (by simpa using hv)
  ·cases h
 ·cases h
theorem Wz(hI:Inv gl w0 ao e a w g){o:Oper}{t:TypeId}(ho:o.op=.alloc t){id:Nat}{k:Slot→List af→Prop}
  (eZ:e.boxes[id]? =some .none)
  (h:ab (IF P t) fun z=>k (.p id 0) (e.boxes.set id (.cells z))):bp P gl w0 ao e.ai o a w k:=by
 obtain⟨zs,gp,hk⟩:=aI h
 unfold IF at gp
 split at gp
 rotate_left
 ·split at gp
  ·rename_i i hi
   split at gp
   ·rename_i zv tT
    cases ek:zv.cells.toList.all Value.oneCell' with
    |false=>rw[ek]at gp;cases gp
    |true=>
     rw[ek]at gp
     cases gp
     refine bp.FB hI eZ (cells:=zv.cells) (t:=t) (bx:=.cells _) ?_ ?_ ?_ hk
     ·have ba:(zeroValue t).run P w=.ok zv w:=by simp[zeroValue,typeInfo,hi,tT]
      simp[execOp,ho,Instr.alloc,ba,newVar,newRow]
     ·intro y hy
      exact List.all_eq_true.1 ek y (by simpa using hy)
     ·intro w' g' O hX
      refine⟨by simp,fun j x y hx hy=>?_⟩
      rw[(List.mem_replicate.1 (List.mem_of_getElem? hx)).2]
      exact .undef _ _
   ·cases gp
  ·cases gp
 rename_i z hz
 cases gp
 obtain⟨zv,ba,hlen,cq,bc⟩:=HC hz
 refine bp.FB hI eZ (cells:=zv.cells) (t:=t) (bx:=.cells (z.map .d)) ?_ ?_ ?_ hk
 ·simp[execOp,ho,Instr.alloc,ba,newVar,newRow]
 ·intro y hy
  obtain⟨i,hi,rfl⟩:=Array.mem_iff_getElem.1 hy
  have eE:i<z.length:=by rw[hlen];exact hi
  exact(bc w (fun _ _=>False) i z[i] _ (List.getElem?_eq_getElem eE) (Array.getElem?_eq_getElem hi)).rb (cq _ (List.getElem_mem eE))
 ·intro w' g' O hX
  refine⟨by simpa using Nat.le_of_eq hlen,fun j x y hx hy=>?_⟩
  simp only[List.getElem?_map,Option.map_eq_some_iff]at hx
  obtain⟨d,hd,rfl⟩:=hx
  exact .d _ _ _ (bc _ _ j d y hd hy)
theorem YE(hI:Inv gl w0 ao e a w g){o:Oper}{t:TypeId}{x:Operand}(ho:o.op=.box t x){id:Nat}{k:Slot→List af→Prop}
  (eZ:e.boxes[id]? =some .none)
  (h:ab (dY P t) fun sz=>(match(Ab.aV gl e x).aa with
  | .v y=>ab (az y) fun l=>l.length=sz∧k (.p id 0) (e.boxes.set id (.cells l))
  | .t _=>False
  |s=>(match sz with|1=>k (.p id 0) (e.boxes.set id (.one s))|_=>False))):bp P gl w0 ao e.ai o a w k:=by
 obtain⟨sz,aM,h⟩:=aI h
 have hx:=hI.aV x
 have ba:(execOp a.eval o).run P w=.ok (.value (.pointer (some ⟨w.heap.size,0,none⟩))) (w.alloc (.cells (a.eval x).cells t)):=by
  simp[execOp,ho,Instr.box,newVar,newRow]
 have mN:∀s,(Ab.aV gl e x).aa =s→(∀y,s≠.v y)→(∀y,s≠.t y)→k (.p id 0) (e.boxes.set id (.one s))→bp P gl w0 ao e.ai o a w k:=by
  intro s hs h1 h2 hk
  rw[hs]at hx
  have hc:(a.eval x).cells = #[a.eval x]:=by
   clear ba
   generalize a.eval x=u at hx
   cases hx with
   |v _ y _ _=>exact absurd rfl (h1 y)
   |p=>rfl
   |a _ b n sz v hm h=>obtain⟨_,_,_,_,rfl,_⟩:=h;rfl
   |m=>rfl
   |c=>rfl
   |t _ y _ _ _=>exact absurd rfl (h2 y)
  have h1c:(a.eval x).oneCell' =true:=by
   clear ba hc
   generalize a.eval x=u at hx
   cases hx with
   |v _ y _ _=>exact absurd rfl (h1 y)
   |p=>rfl
   |a _ b n sz v hm h=>obtain⟨_,_,_,_,rfl,_⟩:=h;rfl
   |m=>rfl
   |c=>rfl
   |t _ y _ _ _=>exact absurd rfl (h2 y)
  refine bp.FB hI eZ (bx:=.one s) ba (by rw[hc];simpa using h1c) (fun w' g' O hX=>?_) hk
  refine⟨by rw[hc];exact Nat.one_pos,fun y hy=>?_⟩
  rw[hc]at hy
  simp at hy
  subst hy
  exact hx.mono hX.st hX.bs hX.bx hX.sh fun _ _ _ _ h=>h.elim
 split at h
 ·rename_i y hy
  obtain⟨l,hl,hlen,hk⟩:=aI h
  rw[hy]at hx
  obtain⟨h1,h2,h3⟩:=hx.jB.cells hl
  refine bp.FB hI eZ (bx:=.cells l) ba h2 (fun w' g' O hX=>⟨Nat.le_of_eq h1,fun j c u hc hu=>?_⟩) hk
  exact(h3 j c u hc hu).mono hX.st hX.bs _ (fun _ _ _ h=>h.elim)
 ·exact h.elim
 ·rename_i h1 h2
  split at h
  ·exact mN _ rfl (fun y hy=>h1 y hy) (fun y hy=>h2 y hy) h
  ·exact h.elim
theorem xS{t:TypeId}{b:Bool}{n:Nat}(hl:kp P t=some (b,n))(aj off:Nat)(vs:Nat→Value)
  (h:∀j,j<(if b then n else 1)→w.cell? ⟨aj,off+j,none⟩=some (vs j)):
  (loadVar t ⟨aj,off,none⟩).run P w=.ok (if b then .agg ((List.range n).map vs).toArray else vs 0) w:=by
 obtain⟨hb,hn,_⟩:=Fl hl
 unfold loadVar
 simp only[Sem.run_bind,OV hb,Result.andThen_ok]
 cases b
 ·have:=h 0 (by simp)
  simp only[Nat.add_zero]at this
  simp[this]
 ·have:=run_loadCells (P:=P) w ⟨aj,off,none⟩ n vs (fun j hj=>by rw[pQ];exact h j (by simpa using hj))
  simp[jy hn,this]
theorem OX:∀{l:List SV}{r:List D},dG l=some r→r.length=l.length∧∀(i:Nat)x y,l[i]? =some x→r[i]? =some y→cT x=some y
 |[],r,h=>by cases h;simp
 |v::l,r,h=>by
  simp only[dG]at h
  split at h
  ·rename_i x hx
   split at h
   ·rename_i r' hr
    cases h
    obtain⟨h1,h2⟩:=OX hr
    refine⟨by simp[h1],fun i y z hy hz=>?_⟩
    cases i with
    |zero=>simp at hy hz;subst hy hz;exact hx
    |succ i=>simp at hy hz;exact h2 i y z hy hz
   ·cases h
  ·cases h
theorem ZY{x:SV}{y:D}(h:cT x=some y)(hx:match x with| .d z=>z.one=true|_=>True):y.one=true:=by
 cases x<;>simp only[cT,Option.some.injEq,reduceCtorEq]at h<;>subst h<;>first|exact hx|rfl
theorem HW{t:TypeId}{b:Bool}{n off:Nat}{cs:List SV}{x:SV}{St:Nat→Nat→Prop}{base:Nat}{O:Nat→Nat→Nat→Nat→Prop}(hl:kp P t=some (b,n))(h:ah b n off cs=some x)(aj o:Nat)
  (vs:Nat→Value)(aP:∀i,i<cs.length→w.cell? ⟨aj,o+i,none⟩=some (vs i))(bc:∀(i:Nat)c,cs[i]? =some c→aJ w St base (O i) c (vs i))
  (cq:∀i,i<cs.length→(vs i).oneCell' =true):
  ∃v,(loadVar t ⟨aj,o+off,none⟩).run P w=.ok v w∧aJ w St base (O off) x v:=by
 unfold ah at h
 cases b
 ·simp only[cond_false]at h
  have aF:=(List.getElem?_eq_some_iff.1 h).1
  refine⟨vs off,?_,bc off x h⟩
  rw[xS hl aj (o+off) (fun j=>vs (off+j)) (fun j hj=>by simp at hj;subst hj;simpa using aP off aF)]
  simp
 ·simp only[cond_true]at h
  split at h
  ·rename_i hle
   split at h
   ·rename_i l mW
    cases h
    obtain⟨hlen,lP⟩:=OX mW
    refine⟨.agg ((List.range n).map fun j=>vs (off+j)).toArray,?_,.d _ _ _ (.agg _ _ ?_ ?_ ?_)⟩
    ·rw[xS hl aj (o+off) (fun j=>vs (off+j)) (fun j hj=>by
      simp at hj;rw[Nat.add_assoc];exact aP (off+j) (by omega))]
     simp
    ·intro d hd
     obtain⟨i,hi,rfl⟩:=List.mem_iff_getElem.1 hd
     have eE:i<((cs.drop off).take n).length :=by rw[←hlen];exact hi
     have hs:=lP i _ _ (List.getElem?_eq_getElem eE) (List.getElem?_eq_getElem hi)
     have qp:off+i<cs.length:=by simp at eE;omega
     have hc:((cs.drop off).take n)[i]=cs[off+i]:=by simp
     have hr:=bc (off+i) _ (List.getElem?_eq_getElem qp)
     have h1:=cq (off+i) qp
     rw[hc]at hs
     refine ZY hs ?_
     revert hs hr
     cases cs[off+i]<;>intro hs hr<;>try trivial
     rename_i z
     cases z<;>first|rfl|(obtain⟨_,hv,_⟩:=hr.data.wE;rw[hv]at h1;simp[Value.oneCell']at h1)
    ·simp[hlen];omega
    ·intro i d v hd hv
     have hi:i<l.length:=(List.getElem?_eq_some_iff.1 hd).1
     have eE:i<((cs.drop off).take n).length :=by rw[←hlen];exact hi
     have qp:off+i<cs.length:=by simp at eE;omega
     have mX:i<n:=by simp at eE;omega
     have hc:((cs.drop off).take n)[i]? =some cs[off+i]:=by
      rw[List.getElem?_eq_getElem eE];simp
     have hs:=lP i _ _ hc hd
     have hr:=bc (off+i) _ (List.getElem?_eq_getElem qp)
     simp[mX]at hv
     subst hv
     exact hr.cT hs
   ·cases h
  ·cases h
end
end Go.Proofs.Ytimbllcalipehaa.Ab
namespace Go.Proofs.Ytimbllcalipehaa.Ab
open Go Go.RowKit
section
variable{P:Program}{gl:Nat→Option D}{w0:World}{ao:S0}{e:Env}{a:Act}{w:World}{g:Gh}
theorem WA{t:TypeId}{b:Bool}{n off:Nat}{cs:List D}{x:D}{St:Nat→Nat→Prop}(hl:kp P t=some (b,n))(h:o7 b n off cs=some x)(aj o:Nat)
  (hf:∀c∈cs,c.one=true)
  (vs:Nat→Value)(aP:∀i,i<cs.length→w.cell? ⟨aj,o+i,none⟩=some (vs i))(bc:∀(i:Nat)c,cs[i]? =some c→aY w St c (vs i)):
  ∃v,(loadVar t ⟨aj,o+off,none⟩).run P w=.ok v w∧aY w St x v:=by
 unfold o7 at h
 cases b
 ·simp only[cond_false]at h
  have aF:=(List.getElem?_eq_some_iff.1 h).1
  refine⟨vs off,?_,bc off x h⟩
  rw[xS hl aj (o+off) (fun j=>vs (off+j)) (fun j hj=>by simp at hj;subst hj;simpa using aP off aF)]
  simp
 ·simp only[cond_true]at h
  split at h
  ·rename_i hle
   cases h
   refine⟨.agg ((List.range n).map fun j=>vs (off+j)).toArray,?_,.agg _ _ ?_ ?_ ?_⟩
   ·rw[xS hl aj (o+off) (fun j=>vs (off+j)) (fun j hj=>by
     simp at hj;rw[Nat.add_assoc];exact aP (off+j) (by omega))]
    simp
   ·intro d hd
    exact hf d (List.mem_of_mem_drop (List.mem_of_mem_take hd))
   ·simp;omega
   ·intro i d v hd hv
    rw[List.getElem?_take]at hd
    split at hd
    ·rename_i hi
     rw[List.getElem?_drop]at hd
     simp[hi]at hv
     subst hv
     exact bc _ _ hd
    ·cases hd
  ·cases h
theorem WB(hI:Inv gl w0 ao e a w g){o:Oper}{t:TypeId}{x:Operand}(ho:o.op=.load t x){k:Slot→List af→Prop}{b:Bool}{n:Nat}(hl:kp P t=some (b,n))
  {s:SV}(hs:(Ab.aV gl e x).aa =.v s)(h:ab (aG b n s) fun y=>k (.v y) e.boxes):bp P gl w0 ao e.ai o a w k:=by
 obtain⟨y,hy,hk⟩:=aI h
 have hx:=hI.pj hs
 have ba:∀{ad v},a.eval x=.pointer (some ad)→(loadVar t ad).run P w=.ok v w→(execOp a.eval o).run P w=.ok (.value v) w:=by
  intro ad v h1 h2
  simp[execOp,ho,Instr.loadAt,Instr.sureAddr,h1,h2]
 unfold aG at hy
 split at hy
 ·rename_i z off
  split at hy
  ·rename_i r hr
   cases hy
   generalize hv:a.eval x=u at hx
   cases hx with
   |aT _ _ _ aj o' vs hf aP bc=>
    obtain⟨v,h1,h2⟩:=WA (St:=g.St) hl hr aj o' hf vs (fun i hi=>(aP i hi).1) bc
    exact bp.eQ hI (ba hv h1) (.d _ _ _ h2) hk
  ·cases hy
 ·rename_i cs off
  split at hy
  ·rename_i r hr
   cases hy
   generalize hv:a.eval x=u at hx
   cases hx with
   |ref _ _ _ aj o' vs hb aP bc=>
    obtain⟨v,h1,h2⟩:=HW (St:=g.St) (O:=fun _ _ _ _=>False) hl hr aj o' vs (fun i hi=>(aP i hi).1) bc (fun i hi=>(aP i hi).2)
    exact bp.eQ hI (ba hv h1) h2.aa hk
  ·cases hy
 ·cases hy
theorem VB(hI:Inv gl w0 ao e a w g){o:Oper}{t:TypeId}{x:Operand}(ho:o.op=.load t x){k:Slot→List af→Prop}{b:Bool}{n:Nat}(hl:kp P t=some (b,n))
  {bn off:Nat}(hs:(Ab.aV gl e x).aa =.p bn off)(h:pS b n bn off e.boxes k):bp P gl w0 ao e.ai o a w k:=by
 have hx:=hI.mj hs
 obtain⟨aj,hv,dk⟩:=hx.mc
 have ba:∀{v},(loadVar t ⟨aj,off,none⟩).run P w=.ok v w→(execOp a.eval o).run P w=.ok (.value v) w:=by
  intro v h2
  simp[execOp,ho,Instr.loadAt,Instr.sureAddr,hv,h2]
 unfold pS at h
 split at h
 ·rename_i cs cf
  obtain⟨y,hy,hk⟩:=aI h
  obtain⟨h0,c,ty,hc,cq,hlen,bc⟩:=hI.boxes bn _ aj cf dk
  obtain⟨v,h1,h2⟩:=HW (w:=w) (off:=off) (St:=g.St) (O:=fun j=>rD w0.heap.size w g bn j) hl hy aj 0 (fun i=>c.getD i undef) (fun i hi=>by
   rw[cell_of_row w aj (0+i) c ty (0,0) hc];simp[Nat.lt_of_lt_of_le hi hlen]) (fun i d hd=>by
   have hi:=(List.getElem?_eq_some_iff.1 hd).1
   exact bc i d _ hd (by simp[Nat.lt_of_lt_of_le hi hlen])) (fun i hi=>by
   have eE:i<c.size:=Nat.lt_of_lt_of_le hi hlen
   simp[eE];exact cq i _ hi (by simp))
  simp only[Nat.zero_add]at h1
  exact bp.eQ hI (ba h1) h2.aa hk
 ·rename_i s ml
  cases b with
  |true=>exact h.elim
  |false=>
   simp only[cond_false]at h
   split at h
   ·obtain⟨h0,c,ty,hc,cq,aM,bc⟩:=hI.boxes bn _ aj ml dk
    have Dw:c[0]? =some (c[0]'(by omega)):=by simp
    refine bp.value hI (ba (v:=c[0]'(by omega)) ?_) ((bc _ Dw).aa) h
    rw[xS (vs:=fun _=>c[0]'(by omega)) hl aj 0 (fun j hj=>by
     simp at hj;subst hj
     rw[cell_of_row w aj (0+0) c ty (0,0) hc];exact Dw)]
    simp
   ·exact h.elim
 ·exact h.elim
theorem z3:∀(l:List SV)(cs:List SV)(off:Nat),off+l.length≤cs.length→setAt cs off l=cs.take off++l++cs.drop (off+l.length)
 |[],cs,off,_=>by simp[setAt]
 |v::l,cs,off,h=>by
  simp only[List.length_cons]at h
  rw[setAt,z3 l (cs.set off v) (off+1) (by simp;omega)]
  have h1:(cs.set off v).take (off+1)=cs.take off++[v]:=by
   rw[List.take_add_one,List.take_set_of_le (Nat.le_refl _)]
   simp[List.getElem?_set_self (show off<cs.length by omega)]
  have h2:(cs.set off v).drop (off+1+l.length)=cs.drop (off+1+l.length):=by
   rw[List.drop_set_of_lt (by omega)]
  rw[h1,h2]
  simp[Nat.add_assoc,Nat.add_comm 1]
theorem uq{α:Type}(cs l:List α)(off:Nat)(h:off+l.length≤cs.length)(i:Nat):
  (cs.take off++l++cs.drop (off+l.length))[i]? =if i<off then cs[i]? else if i<off+l.length then l[i-off]? else cs[i]? :=by
 have ht:(cs.take off).length =off:=by simp;omega
 rw[List.append_assoc,List.getElem?_append,ht]
 split
 ·rename_i h1
  rw[List.getElem?_take,if_pos h1]
 ·rename_i h1
  rw[List.getElem?_append]
  split
  ·rename_i h2
   rw[if_pos (by omega)]
  ·rename_i h2
   rw[if_neg (by omega),List.getElem?_drop]
   congr 1
   omega
theorem Oc{c l:Array Value}{off m:Nat}(h:off+l.size≤c.size)(h1:∀(j:Nat)y,j<m→c[j]? =some y→y.oneCell'=true)(h2:∀y∈l,y.oneCell'=true)(j:Nat)(y:Value)(hj:j<m)
  (hy:(c.toList.take off++l.toList++c.toList.drop (off+l.size)).toArray[j]? =some y):y.oneCell'=true:=by
 have hs:=uq c.toList l.toList off (by simpa using h) j
 simp only[Array.length_toList]at hs
 simp only[List.getElem?_toArray]at hy
 rw[hs]at hy
 simp only[Array.getElem?_toList]at hy
 split at hy
 ·exact h1 j y hj hy
 ·split at hy
  ·exact h2 y (Array.mem_of_getElem? hy)
  ·exact h1 j y hj hy
theorem EC{t:TypeId}{n:Nat}(hn:dY P t=some n){aj off:Nat}{c:Array Value}{ty:TypeId}(hc:w.heap[aj]? =some (.cells c ty (0,0))){v:Value}
  (hv:v.cells.size=n)(h1:∀y∈v.cells,y.oneCell'=true)(hle:off+n≤c.size):
  (storeVar t ⟨aj,off,none⟩ v).run P w=.ok () (w.setRow aj (c.toList.take off++v.cells.toList++c.toList.drop (off+n)).toArray):=by
 have:=run_storeCells_at P aj off ty v.cells.toList 0 c w hc (by simp;omega) (by simpa using h1)
 simp only[Nat.add_zero,Array.length_toList,hv]at this
 unfold storeVar
 simp[jy hn,hv,this]
theorem Hy(hI:Inv gl w0 ao e a w g){o:Oper}{t:TypeId}{x y:Operand}(ho:o.op=.store t x y)(hd:o.dst=none){k:Slot→List af→Prop}
  {bn off aj n:Nat}(hv:a.eval x=.pointer (some ⟨aj,off,none⟩))(dk:g.bx[bn]? =some (some aj))
  {cells:Array Value}{ty:TypeId}{eB:af}(hc:w.heap[aj]? =some (.cells cells ty (0,0)))(tf:Array Value)(cf:tf.size=cells.size)(cq:∀(j:Nat)y,j<eB.size→tf[j]? =some y→y.oneCell'=true)
  (aS:(storeVar t ⟨aj,off,none⟩ (a.eval y)).run P w=.ok () (w.setRow aj tf))
  (rep:∀(w':World),Ext w0.heap.size w g w' g (fun p=>∃j,p=.b bn j∧off≤j∧j<off+n)→(match(generalizing:=false) eB with
    | .none =>False
    | .map _=>False
    | .cells cs=>cs.length≤tf.size∧∀(j:Nat)x y,cs[j]? =some x→tf[j]? =some y→aJ w' g.St w0.heap.size (rD w0.heap.size w' g bn j) x y
    | .one s=>0<tf.size∧∀y,tf[0]? =some y→cg w0.heap.size w' g (fun _=>rD w0.heap.size w' g bn 0) s y))
  (hk:k (.t []) (e.boxes.set bn eB)):bp P gl w0 ao e.ai o a w k:=by
 intro next Q J6
 have ba:(execOp a.eval o).run P w=.ok .skip (w.setRow aj tf):=by
  simp[execOp,ho,Instr.storeAt,Instr.sureAddr,hv,aS]
 unfold Oper.wp
 rw[ba]
 have dZ:=fun k(hk:k≠aj)=>setRow_other w aj k tf hk
 have ku:=setRow_heap w aj cells tf ty (0,0) hc
 refine J6 (.t []) undef _ _ g ?_ hk
 rw[hd]
 refine hI.JK (dst:=none) (s:=.t []) (v:=undef) (ai:=e.ai) (fun _=>False) (fun j=>off≤j∧j<off+n) rfl rfl (fun _ _ _ _ _ h=>h) (fun _ h=>h) dk cq ku (fun c ty h=>by rw[hc]at h;cases h;exact cf) dZ (by simp[World.setRow]) ⟨rfl,rfl,rfl⟩ rfl
  (fun i x hx _=>⟨x,hx,.inl ⟨rfl,fun h=>h⟩⟩) (fun hX=>?_) (fun _ d h=>by cases h)
 have:=rep _ ⟨hX.df,hX.st,hX.bs,hX.bx,fun p b a c hp ho=>hX.own p b a c (fun rT=>hp (by
  rcases rT with⟨i,j,_,h⟩|⟨j,h⟩|⟨d,j,h,_⟩
  ·exact h.elim
  ·exact⟨j,h⟩
  ·cases h)) ho,hX.sh⟩
 cases eB with
 |none=>exact this
 |map l=>exact this
 |cells cs=>exact this
 |one s=>exact this
theorem Nk(hI:Inv gl w0 ao e a w g){o:Oper}{t:TypeId}{x y:Operand}(ho:o.op=.store t x y)(hd:o.dst=none){k:Slot→List af→Prop}{n:Nat}(hn:dY P t=some n)
  {bn off aj:Nat}(hv:a.eval x=.pointer (some ⟨aj,off,none⟩))(dk:g.bx[bn]? =some (some aj))
  {cells:Array Value}{ty:TypeId}(hc:w.heap[aj]? =some (.cells cells ty (0,0)))(Dx:0<cells.size)(oz:n=1)(yQ:off=0)
  {s:Slot}(hs:(Ab.aV gl e y).aa =s)(Dy:∀z,s≠.v z)(zi:∀z,s≠.t z)(hk:k (.t []) (e.boxes.set bn (.one s))):bp P gl w0 ao e.ai o a w k:=by
 have hy:=hI.mj hs
 subst oz yQ
 have mY:(a.eval y).cells = #[a.eval y]∧(a.eval y).oneCell' =true:=by
  generalize a.eval y=u at hy
  cases hy with
  |v _ z _ _=>exact absurd rfl (Dy z)
  |p=>exact⟨rfl,rfl⟩
  |a _ b n sz v hm h=>obtain⟨_,_,_,_,rfl,_⟩:=h;exact⟨rfl,rfl⟩
  |m=>exact⟨rfl,rfl⟩
  |c=>exact⟨rfl,rfl⟩
  |t _ z _ _ _=>exact absurd rfl (zi z)
 refine Hy hI ho hd (n:=1) (eB:=.one s) hv dk hc (cells.toList.take 0++ #[a.eval y].toList ++cells.toList.drop (0+1)).toArray (by simp;omega) (fun j u hj hu=>?_) ?_ (fun w' hX=>⟨by simp,fun u hu=>?_⟩) hk
 ·have:j=0:=by simp only[af.size]at hj;omega
  subst this
  simp at hu;subst hu
  exact mY.2
 ·rw[EC hn hc (by rw[mY.1];rfl) (by rw[mY.1];simpa using mY.2) (by omega)]
  rw[mY.1]
 ·simp at hu;subst hu
  exact hy.mono hX.st hX.bs hX.bx hX.sh (fun _ _ _ _ h=>h.elim)
theorem WC(hI:Inv gl w0 ao e a w g){o:Oper}{t:TypeId}{x y:Operand}(ho:o.op=.store t x y)(hd:o.dst=none){k:Slot→List af→Prop}{n:Nat}(hn:dY P t=some n)
  {bn off:Nat}(hs:(Ab.aV gl e x).aa =.p bn off)(h:sR n bn off ((Ab.aV gl e y).aa) e.boxes fun dg=>k (.t []) dg):bp P gl w0 ao e.ai o a w k:=by
 have hx:=hI.mj hs
 obtain⟨aj,hv,dk⟩:=hx.mc
 unfold sR at h
 split at h
 ·
  rename_i cs cf
  obtain⟨h0,c,ty,hc,cq,hlen,bc⟩:=hI.boxes bn _ aj cf dk
  split at h
  ·rename_i z hz
   obtain⟨l,hl,Gx,hle,hk⟩:=aI h
   have hy:=hI.mj hz
   obtain⟨h1,h2,h3⟩:=hy.jB.cells hl
   have jG:(a.eval y).cells.size =n:=by rw[←h1,Gx]
   refine Hy hI ho hd (n:=n) (eB:=.cells (setAt cs off l)) hv dk hc _ (by simp[jG];omega) ?_ (EC hn hc jG h2 (by omega)) (fun w' hX=>?_) hk
   ·intro j u hj hu
    rw[←jG]at hu
    exact Oc (m:=cs.length) (by omega) cq h2 j u (by simp only[af.size,z3 l cs off (by omega),List.length_append,List.length_take,List.length_drop]at hj;omega) hu
   ·rw[z3 l cs off (by omega)]
    refine⟨by simp[jG];omega,fun j x' y' dK oB=>?_⟩
    have mY:n=(a.eval y).cells.toList.length :=by simp[jG]
    rw[uq cs l off (by omega)]at dK
    have vb:(c.toList.take off++(a.eval y).cells.toList ++c.toList.drop (off+(a.eval y).cells.toList.length))[j]? =some y':=by
     rw[←mY];simpa using oB
    rw[uq _ _ off (by simp[jG];omega)]at vb
    simp only[Array.length_toList,jG,Gx]at dK vb
    have gq:¬(off≤j∧j<off+n)→cs[j]? =some x'→c[j]? =some y'→aJ w' g.St w0.heap.size (rD w0.heap.size w' g bn j) x' y':=fun hj h4 h5=>
     (bc j x' y' h4 h5).mono hX.st hX.bs _ (fun b' a' c' ho=>hX.own _ b' a' c' (by rintro⟨j',h6,h7⟩;cases h6;exact hj h7) ho)
    split at dK
    ·rename_i hj
     simp only[hj,↓reduceIte,Array.getElem?_toList]at vb
     exact gq (by omega) dK vb
    ·rename_i hj
     simp only[hj,↓reduceIte]at vb
     split at dK
     ·rename_i tU
      simp only[tU,↓reduceIte,Array.getElem?_toList]at vb
      exact(h3 (j-off) x' y' dK vb).mono hX.st hX.bs _ (fun _ _ _ h=>h.elim)
     ·rename_i tU
      simp only[tU,↓reduceIte,Array.getElem?_toList]at vb
      exact gq (by omega) dK vb
  ·exact h.elim
  ·rename_i Dy zi
   split at h
   ·exact Nk hI ho hd hn hv dk hc (by simp at hlen;omega) rfl rfl rfl (fun z hz=>Dy z hz) (fun z hz=>zi z hz) h
   ·exact h.elim
 ·
  rename_i s0 lQ
  obtain⟨h0,c,ty,hc,cq,hlen,bc⟩:=hI.boxes bn _ aj lQ dk
  split at h
  ·split at h
   ·rename_i z hz
    obtain⟨l,hl,Gx,hk⟩:=aI h
    have hy:=hI.mj hz
    obtain⟨h1,h2,h3⟩:=hy.jB.cells hl
    have jG:(a.eval y).cells.size =1:=by rw[←h1,Gx]
    have Gy:∀{j:Nat},j<l.length→(c.toList.take 0++(a.eval y).cells.toList ++c.toList.drop (0+1)).toArray[j]? =(a.eval y).cells[j]? :=by
     intro j hj
     have:j=0:=by omega
     subst this
     simp[List.getElem?_append,jG]
    refine Hy hI ho hd (n:=1) (eB:=.cells l) hv dk hc (c.toList.take 0++(a.eval y).cells.toList ++c.toList.drop (0+1)).toArray (by simp[jG];omega) (fun j u hj hu=>?_) ?_ (fun w' hX=>⟨by simp;omega,fun j c' u iY hu=>?_⟩) hk
    ·rw[Gy hj]at hu
     exact h2 u (Array.mem_of_getElem? hu)
    ·rw[EC hn hc jG h2 (by omega)]
    ·rw[Gy (List.getElem?_eq_some_iff.1 iY).1]at hu
     exact(h3 j c' u iY hu).mono hX.st hX.bs _ (fun _ _ _ h=>h.elim)
   ·exact h.elim
   ·rename_i Dy zi
    exact Nk hI ho hd hn hv dk hc hlen rfl rfl rfl (fun z hz=>Dy z hz) (fun z hz=>zi z hz) h
  ·exact h.elim
 ·exact h.elim
end
end Go.Proofs.Ytimbllcalipehaa.Ab
namespace Go.Proofs.Ytimbllcalipehaa.Ab
open Go Go.RowKit
section
variable{P:Program}{gl:Nat→Option D}{w0:World}{ao:S0}{e:Env}{a:Act}{w:World}{g:Gh}
theorem sM{x:SV}{n j:Nat}(h:cA x n=some j):∃k i,x=.d (.int k i)∧0≤i∧i<n∧j=i.toNat:=by
 unfold cA at h
 split at h
 ·rename_i k i
  split at h
  ·rename_i hc;cases h;exact⟨k,i,rfl,hc.1,hc.2,rfl⟩
  ·cases h
 ·cases h
theorem aJ.int{St:Nat→Nat→Prop}{base:Nat}{O:Nat→Nat→Nat→Prop}{k:IntKind}{n:Int}{v:Value}(h:aJ w St base O (.d (.int k n)) v):v=.int k n:=h.data.re.1
theorem NM{x y:SV}{n:Nat}(h:cm x n=some y){St:Nat→Nat→Prop}{base:Nat}{O O':Nat→Nat→Nat→Prop}{v:Value}(r:aJ w St base O x v):
  ∃ad:Addr,v=.pointer (some ad)∧ad.spot=none∧aJ w St base O' y (.pointer (some ⟨ad.block,ad.off+n,none⟩)):=by
 unfold cm at h
 split at h
 ·cases h
  cases r with
  |aT _ x off b o vs h0 h1 h2=>exact⟨_,rfl,rfl,by rw[Nat.add_assoc];exact .aT _ _ _ b o vs h0 h1 h2⟩
 ·cases h
  cases r with
  |ref _ cs off b o vs h0 h1 h2=>exact⟨_,rfl,rfl,by rw[Nat.add_assoc];exact .ref _ _ _ b o vs h0 h1 h2⟩
 ·cases h
theorem NN{t:TypeId}{i:Nat}{fd:Field}(h:Ad P t i=some fd):∃fs,P.underlying t=some (.struct fs)∧fs[i]? =some fd:=by
 unfold Ad at h
 split at h
 ·rename_i fs hu;exact⟨fs,hu,by simpa using h⟩
 ·cases h
theorem Vf{fd:Field}{sz:Nat}(hs:dY P fd.type=some sz)(h0:sz≠0)(ad:Addr):(fieldPlace ad fd).run P w=.ok (ad.add fd.offset) w:=by
 simp[fieldPlace,jy hs,h0]
theorem Vg(hI:Inv gl w0 ao e a w g){o:Oper}{t:TypeId}{x:Operand}{f:Nat}(ho:o.op=.fieldAddr t x f){k:Slot→List af→Prop}
  (h:ab (Ad P t f) fun fd=>ab (dY P fd.type) fun sz=>bif Nat.beq sz 0 then False else(match(Ab.aV gl e x).aa with
  | .p b off=>k (.p b (off+fd.offset)) e.boxes
  | .v y=>ab (cm y fd.offset) fun z=>k (.v z) e.boxes
  |_=>False)):bp P gl w0 ao e.ai o a w k:=by
 obtain⟨fd,xq,h⟩:=aI h
 obtain⟨sz,aM,h⟩:=aI h
 obtain⟨fs,hu,Dz⟩:=NN xq
 cases hz:Nat.beq sz 0 with
 |true=>rw[hz]at h;exact h.elim
 |false=>
  rw[hz]at h
  simp only[cond_false]at h
  have h0:sz≠0:=fun h=>by rw[h]at hz;cases hz
  have ba:∀ad,a.eval x=.pointer (some ad)→(execOp a.eval o).run P w=.ok (.value (.pointer (some (ad.add fd.offset)))) w:=by
   intro ad hv
   simp[execOp,ho,Instr.fieldAt,run_underlying hu,Dz,Instr.sureAddr,hv,Vf aM h0]
  split at h
  ·rename_i b off hs
   obtain⟨aj,hv,dk⟩:=(hI.mj hs).mc
   refine bp.value hI (ba _ hv) ?_ h
   rw[pQ]
   exact .p _ _ _ _ dk
  ·rename_i y hs
   obtain⟨z,hz,hk⟩:=aI h
   obtain⟨ad,hv,lP,hr⟩:=NM (O':=fun _ _ _=>False) hz (hI.pj hs)
   refine bp.eQ hI (ba _ hv) ?_ hk
   obtain⟨b,o',sp⟩:=ad
   simp only at lP;subst lP
   rw[pQ];exact hr
  ·exact h.elim
theorem VC{P:Program}{w:World}{t:TypeId}{name:String}{f:FuncId}(h:AV P t name=some f)(fuel:Nat)(v:Value):(nilAhead (fuel+1) t v name).run P w=.ok (some false) w:=by
 unfold AV at h
 split at h
 ·rename_i i hi
  split at h
  ·rename_i m hm
   split at h
   ·rename_i f' hp hf
    split at h
    ·cases h
    ·rename_i u xr hu
     have mZ:(underlying t).run P w=.ok u w:=run_underlying hu w
     have gH:(typeInfo t).run P w=.ok i w:=by simp[typeInfo,go_sem,hi]
     have Bw:(followBlind ([]:List FieldStep) t (some v)).run P w=.ok (.ok (t,some v)) w:=by simp[followBlind]
     unfold nilAhead
     simp only[Sem.run_bind,gH,Result.andThen_ok,hm,hp,Bw,hf,mZ]
     cases u<;>first|exact(xr _ rfl).elim |simp
    ·cases h
   ·cases h
  ·cases h
 ·cases h
theorem Vp(hI:Inv gl w0 ao e a w g){o:Oper}{x:Operand}(ho:o.op=.nilCheck x){k:Slot→List af→Prop}
  (h:match(Ab.aV gl e x).aa with
  | .v y=>ab (lq y) fun z=>k (.v z) e.boxes
  | .t _=>False
  | .c f first cap=>(match f with
    | .func _=>k (.c f first cap) e.boxes
    | .method name=>(match first with
      | .v y::_=>ab (J1 P y name) fun _=>k (.c f first cap) e.boxes
      |_=>False)
    |_=>False)
  | .p b off=>k (.p b off) e.boxes
  |_=>False):bp P gl w0 ao e.ai o a w k:=by
 split at h
 ·rename_i y hs
  obtain⟨z,hz,hk⟩:=aI h
  have hy:=hI.pj hs
  have hyz:y=z∧∃v,a.eval x=v∧(execOp a.eval o).run P w=.ok (.value v) w:=by
   unfold lq at hz
   generalize hv:a.eval x=u at hy
   split at hz<;>first|(cases hz)|skip
   ·cases hy;exact⟨rfl,_,rfl,by simp[execOp,ho,hv]⟩
   ·cases hy;exact⟨rfl,_,rfl,by simp[execOp,ho,hv]⟩
   ·rename_i f a' b'
    cases f<;>simp only[Option.some.injEq,reduceCtorEq]at hz
    cases hy;exact⟨hz,_,rfl,by simp[execOp,ho,hv]⟩
   ·rename_i f
    cases f<;>simp only[Option.some.injEq,reduceCtorEq]at hz
    cases hy with
    |d _ _ _ hd=>cases hd;exact⟨hz,_,rfl,by simp[execOp,ho,hv]⟩
  obtain⟨rfl,v,hv,hr⟩:=hyz
  rw[hv]at hy
  exact bp.eQ hI hr hy hk
 ·exact h.elim
 ·rename_i f first cap hs
  have hy:=hI.mj hs
  split at h
  ·generalize hv:a.eval x=u at hy
   have oB:=hy
   cases hy
   exact bp.value hI (by simp[execOp,ho,hv]) oB h
  ·rename_i name
   split at h
   ·rename_i y rest
    obtain⟨f',kB,h⟩:=aI h
    unfold J1 at kB
    split at kB
    ·rename_i t y0 xt
     generalize hv:a.eval x=u at hy
     have oB:=hy
     cases hy with
     |c _ _ _ _ fv cv vE rU rf rc=>
      have aM:0<fv.size:=by rw[←vE];simp
      have h0:=rf 0 _ (fv[0]) rfl (by simp[aM])
      cases h0 with
      |v _ _ _ h0=>
       have hd:=h0.data
       generalize he:fv[0]=u0 at hd
       cases hd with
       |iface _ _ v0 _=>
        have vF:fv[0]? =some (.iface t v0):=by rw[Array.getElem?_eq_getElem aM,he]
        refine bp.value hI ?_ oB h
        simp only[execOp,ho,hv,vF]
        have Ll:=VC (P:=P) (w:=w) kB (P.types.size+99) v0
        simp only[Sem.run_bind,run_program,Result.andThen_ok,Made.depth]
        rw[Ll]
        simp
    ·cases kB
   ·exact h.elim
  ·exact h.elim
 ·rename_i b off hs
  have hy:=hI.mj hs
  obtain⟨aj,hv,dk⟩:=hy.mc
  exact bp.value hI (by simp[execOp,ho,hv]) (.p _ _ _ _ dk) h
 ·exact h.elim
theorem WD(hI:Inv gl w0 ao e a w g){o:Oper}{t:TypeId}{x:Operand}(ho:o.op=.makeInterface t x){k:Slot→List af→Prop}
  (h:bif isIface P t then False else ab (JG t ((Ab.aV gl e x).aa).bU) fun r=>k (.v r) e.boxes):bp P gl w0 ao e.ai o a w k:=by
 cases hi:isIface P t with
 |true=>rw[hi]at h;exact h.elim
 |false=>
  rw[hi]at h
  simp only[cond_false]at h
  obtain⟨r,hr,hk⟩:=aI h
  have hx:=hI.g7 x
  generalize ((Ab.aV gl e x).aa).bU =sx at hr hx
  unfold JG at hr
  split at hr
  ·rename_i y hy
   cases hr
   refine bp.eQ hI (v:=.iface t (a.eval x)) ?_ (.d _ _ _ (.iface _ _ _ (hx.cT hy))) hk
   unfold isIface at hi
   split at hi
   ·cases hi
   ·cases hi
   ·rename_i h1 h2
    obtain⟨d,hd⟩:=Option.ne_none_iff_exists'.1 (fun hn=>h2 hn)
    simp only[execOp,ho,Instr.makeInterface,Sem.run_bind,run_underlying hd,Result.andThen_ok]
    cases d<;>first|rfl|exact absurd hd (h1 _)
  ·cases hr
theorem Vq(hI:Inv gl w0 ao e a w g){o:Oper}{fn:Fn}{first cap:Array Operand}(ho:o.op=.makeFunc fn first cap){k:Slot→List af→Prop}
  (h:k (.c fn (first.toList.map fun x=>((Ab.aV gl e x).aa).aa) (cap.toList.map fun x=>((Ab.aV gl e x).aa).aa)) e.boxes):bp P gl w0 ao e.ai o a w k:=by
 refine bp.value hI (v:=.func fn (first.map a.eval) (cap.map a.eval)) (by simp[execOp,ho,Instr.makeFunc]) (.c _ _ _ _ _ _ (by simp) (by simp) ?_ ?_) h
 ·intro i x v hx hv
  simp only[List.getElem?_map,Option.map_eq_some_iff,Array.getElem?_map]at hx hv
  obtain⟨y,hy,rfl⟩:=hx
  obtain⟨z,hz,rfl⟩:=hv
  rw[Array.getElem?_toList]at hy
  rw[hy]at hz;cases hz
  exact(hI.aV y).aa
 ·intro i x v hx hv
  simp only[List.getElem?_map,Option.map_eq_some_iff,Array.getElem?_map]at hx hv
  obtain⟨y,hy,rfl⟩:=hx
  obtain⟨z,hz,rfl⟩:=hv
  rw[Array.getElem?_toList]at hy
  rw[hy]at hz;cases hz
  exact(hI.aV y).aa
theorem VD(hI:Inv gl w0 ao e a w g){o:Oper}{x:Operand}{i:Nat}(ho:o.op=.extract x i){k:Slot→List af→Prop}
  (h:match(Ab.aV gl e x).aa with
  | .t vs=>(match vs[i]? with|some r=>k (.v r) e.boxes|none=>False)
  |_=>False):bp P gl w0 ao e.ai o a w k:=by
 split at h
 ·rename_i vs hs
  split at h
  ·rename_i r hr
   obtain⟨tv,hv,hl,hc⟩:=(hI.mj hs).J5
   have hi:i<tv.size:=by rw[←hl];exact(List.getElem?_eq_some_iff.1 hr).1
   exact bp.eQ hI (v:=tv[i]) (by simp[execOp,ho,Instr.extract,hv,hi]) (hc i r _ hr (by simp)) h
  ·exact h.elim
 ·exact h.elim
theorem WE(hI:Inv gl w0 ao e a w g){o:Oper}{t:TypeId}{x:Operand}{f:Nat}(ho:o.op=.field t x f){k:Slot→List af→Prop}
  (h:ab (Ad P t f) fun fd=>ab (kp P fd.type) fun ly=>ab (uI ly.1 ly.2 fd.offset ((Ab.aV gl e x).aa).bU) fun r=>k (.v r) e.boxes):bp P gl w0 ao e.ai o a w k:=by
 obtain⟨fd,xq,h⟩:=aI h
 obtain⟨⟨b,n⟩,hl,h⟩:=aI h
 obtain⟨r,hr,hk⟩:=aI h
 obtain⟨fs,hu,Dz⟩:=NN xq
 have hx:=hI.g7 x
 generalize ((Ab.aV gl e x).aa).bU =sx at hr hx
 unfold uI at hr
 split at hr
 ·rename_i cs
  split at hr
  ·rename_i z hz
   cases hr
   obtain⟨vs,hv,bc,hf⟩:=hx.data.wE
   obtain⟨hb,hn,h1⟩:=Fl hl
   have hle:fd.offset+n≤cs.length:=by
    unfold o7 at hz
    cases b
    ·simp only[cond_false]at hz;have:=(List.getElem?_eq_some_iff.1 hz).1;rw[h1 rfl];omega
    ·simp only[cond_true]at hz;split at hz<;>first|assumption|cases hz
   obtain⟨v,hp,vG⟩:=bc.valOf (P:=P) (off:=fd.offset) hb hn h1 hle
   refine bp.eQ hI (v:=v) (by simp[execOp,ho,Instr.field,run_underlying hu,Dz,hv,asAgg,hp]) (.d _ _ _ ?_) hk
   unfold o7 at hz
   cases b
   ·simp only[cond_false]at hz
    simp only[g9,Bool.false_eq_true,if_false]at vG
    obtain⟨x',dK,vH⟩:=vG
    have aF:=(List.getElem?_eq_some_iff.1 hz).1
    rw[h1 rfl,List.drop_eq_getElem_cons aF,List.take_succ_cons,List.take_zero]at dK
    rw[List.getElem?_eq_getElem aF]at hz
    cases hz
    simp only[List.cons.injEq,and_true]at dK
    rw[dK];exact vH
   ·simp only[cond_true,hle,↓reduceIte,Option.some.injEq]at hz
    subst hz
    simp only[g9,if_true]at vG
    obtain⟨eH,rfl,vH⟩:=vG
    exact vH.agg (fun d hd=>hf d (List.mem_of_mem_drop (List.mem_of_mem_take hd)))
  ·cases hr
 ·cases hr
theorem WG(hI:Inv gl w0 ao e a w g){o:Oper}{t:TypeId}{x i:Operand}(ho:o.op=.index t x i){k:Slot→List af→Prop}
  (h:match P.underlying t with
  |some (.array n e')=>ab (kp P e') fun ly=>ab (JF ly.1 ly.2 n ((Ab.aV gl e x).aa).bU ((Ab.aV gl e i).aa).bU) fun r=>k (.v r) e.boxes
  |some .string =>ab (J3 ((Ab.aV gl e x).aa).bU ((Ab.aV gl e i).aa).bU) fun r=>k (.v r) e.boxes
  |_=>False):bp P gl w0 ao e.ai o a w k:=by
 have hx:=hI.g7 x
 have hi:=hI.g7 i
 generalize ((Ab.aV gl e x).aa).bU =sx at h hx
 generalize ((Ab.aV gl e i).aa).bU =si at h hi
 split at h
 ·rename_i n e' hu
  obtain⟨⟨b,m⟩,hl,h'⟩:=aI h
  clear h
  obtain⟨r,hr,hk⟩:=aI h'
  clear h'
  unfold JF at hr
  split at hr
  ·rename_i cs
   split at hr
   ·rename_i j hj
    split at hr
    ·rename_i z hz
     cases hr
     obtain⟨kk,ii,rfl,h1,h2,rfl⟩:=sM hj
     have rV:=hi.int
     obtain⟨vs,hv,bc,hf⟩:=hx.data.wE
     obtain⟨hb,hn,cq⟩:=Fl hl
     have hle:ii.toNat*m+m≤cs.length:=by
      unfold o7 at hz
      cases b
      ·simp only[cond_false]at hz;have:=(List.getElem?_eq_some_iff.1 hz).1;rw[cq rfl]at*;omega
      ·simp only[cond_true]at hz;split at hz<;>first|assumption|cases hz
     obtain⟨v,hp,vG⟩:=bc.valOf (P:=P) (off:=ii.toNat*m) hb hn cq hle
     refine bp.eQ hI (v:=v) ?_ (.d _ _ _ ?_) hk
     ·simp[execOp,ho,Instr.index,rV,asIntOf,run_underlying hu,hv,h1,h2,jy hn,hp]
     ·unfold o7 at hz
      cases b
      ·simp only[cond_false]at hz
       simp only[g9,Bool.false_eq_true,if_false]at vG
       obtain⟨x',dK,vH⟩:=vG
       have aF:=(List.getElem?_eq_some_iff.1 hz).1
       rw[cq rfl]at dK hz aF
       rw[List.drop_eq_getElem_cons aF,List.take_succ_cons,List.take_zero]at dK
       rw[List.getElem?_eq_getElem aF]at hz
       cases hz
       simp only[List.cons.injEq,and_true]at dK
       rw[dK];exact vH
      ·simp only[cond_true,hle,↓reduceIte,Option.some.injEq]at hz
       subst hz
       simp only[g9,if_true]at vG
       obtain⟨eH,rfl,vH⟩:=vG
       exact vH.agg (fun d hd=>hf d (List.mem_of_mem_drop (List.mem_of_mem_take hd)))
    ·cases hr
   ·cases hr
  ·cases hr
 ·rename_i hu
  obtain⟨r,hr,hk⟩:=aI h
  unfold J3 at hr
  split at hr
  ·rename_i s
   split at hr
   ·rename_i j hj
    split at hr
    ·rename_i c hc
     cases hr
     obtain⟨kk,ii,rfl,h1,h2,rfl⟩:=sM hj
     have rV:=hi.int
     obtain⟨bs,hv,hs,_⟩:=hx.data.uA
     have aF:ii.toNat<bs.size:=by
      rw[hs]at h2
      simp only[Array.length_toList]at h2
      have:bs.size=bs.data.size:=rfl
      omega
     have hg:bs[ii.toNat]? =some c:=by
      rw[hs]at hc
      rw[getElem?_pos bs ii.toNat aF]
      have:bs.data.toList[ii.toNat]? =some bs[ii.toNat]:=by
       rw[Array.getElem?_toList,Array.getElem?_eq_getElem aF]
       rfl
      rw[this]at hc
      exact hc
     refine bp.eQ hI (v:=.int .u8 c.toNat) ?_ (.d _ _ _ (.int _ _ ?_)) hk
     ·simp[execOp,ho,Instr.index,rV,asIntOf,run_underlying hu,hv,h1,hg]
     ·have:=c.toNat_lt
      simp[ga,IntKind.min,IntKind.max,IntKind.signed,IntKind.bits]
      omega
    ·cases hr
   ·cases hr
  ·cases hr
 ·exact h.elim
theorem NO{sz:Nat}{x:SV}{L:List D}(h:elems sz x=some L){St:Nat→Nat→Prop}{base:Nat}{O:Nat→Nat→Nat→Prop}{v:Value}(r:aJ w St base O x v):
  ((v=.slice none 0 0∨∃ad c,v=.slice (some ad) 0 c)∧L=[])∨∃(b off cap:Nat) (vs:Nat→Value),v=.slice (some ⟨b,off,none⟩) L.length cap∧L.length≤cap∧L.length≤maxLen∧(∀x∈L,x.cells.length=sz)∧(∀x∈L,∀c∈x.cells,c.one=true)∧
    (∀(o:Nat),o<L.length*sz→w.cell? ⟨b,off+o,none⟩=some (vs o)∧St b (off+o))∧
    (∀(i:Nat)x(j:Nat)c,L[i]? =some x→x.cells[j]? =some c→aY w St c (vs (i*sz+j))):=by
 have go:∀{s L' v},aY w St (.sl .ro s L') v→((v=.slice none 0 0∨∃ad c,v=.slice (some ad) 0 c)∧L'=[])∨∃(b off cap:Nat) (vs:Nat→Value),v=.slice (some ⟨b,off,none⟩) L'.length cap∧L'.length≤cap∧L'.length≤maxLen∧(∀x∈L',x.cells.length=s)∧(∀x∈L',∀c∈x.cells,c.one=true)∧
   (∀(o:Nat),o<L'.length*s→w.cell? ⟨b,off+o,none⟩=some (vs o)∧St b (off+o))∧
   (∀(i:Nat)x(j:Nat)c,L'[i]? =some x→x.cells[j]? =some c→aY w St c (vs (i*s+j))):=by
  intro s L' v hd
  cases hd with
  |sl _ _ b off cap vs bJ hm aM hf aP hc=>exact .inr ⟨b,off,cap,vs,rfl,bJ,hm,aM,hf,aP,hc⟩
  |j6 _ ad c _=>exact .inl ⟨.inr ⟨ad,c,rfl⟩,rfl⟩
 unfold elems at h
 split at h
 ·rename_i k s L'
  split at h
  ·cases h
   have hd:=r.data
   cases hd
   exact .inl ⟨.inl rfl,rfl⟩
  ·split at h
   ·rename_i hs;cases h;subst hs;exact go r.data
   ·cases h
 ·split at h
  ·rename_i hs;cases h;subst hs
   cases r with
   |own _ _ _ gg cap hd bJ ho=>exact go hd
  ·cases h
 ·split at h
  ·rename_i hs;cases h;subst hs
   cases r with
   |full _ _ _ ad hd=>exact go hd
  ·cases h
 ·cases h
theorem Vh(hI:Inv gl w0 ao e a w g){o:Oper}{t:TypeId}{x i:Operand}(ho:o.op=.indexAddr t x i){k:Slot→List af→Prop}
  (h:match P.underlying t with
  |some (.slice e')=>ab (dY P e') fun sz=>ab (aN sz ((Ab.aV gl e x).aa).bU ((Ab.aV gl e i).aa).bU) fun r=>k (.v r) e.boxes
  |some (.array n e')=>ab (dY P e') fun sz=>ab (cA ((Ab.aV gl e i).aa).bU n) fun j=>(match(Ab.aV gl e x).aa with
   | .p b off=>k (.p b (off+j*sz)) e.boxes
   | .v y=>ab (cm y (j*sz)) fun z=>k (.v z) e.boxes
   |_=>False)
  |_=>False):bp P gl w0 ao e.ai o a w k:=by
 have hi:=hI.g7 i
 generalize ((Ab.aV gl e i).aa).bU =si at h hi
 split at h
 ·rename_i e' hu
  obtain⟨sz,aM,h⟩:=aI h
  obtain⟨r,hr,hk⟩:=aI h
  have hx:=hI.g7 x
  generalize ((Ab.aV gl e x).aa).bU =sx at hr hx
  unfold aN at hr
  split at hr
  ·rename_i n s cs
   split at hr
   ·rename_i j hj
    split at hr
    ·rename_i Lo
     cases hr
     subst Lo
     obtain⟨kk,ii,rfl,h1,h2,rfl⟩:=sM hj
     have rV:=hi.int
     generalize hv:a.eval x=u at hx
     cases hx with
     |cG _ _ _ _ b cap vs ef hn hm aP hc=>
      refine bp.eQ hI (v:=.pointer (some ⟨b,0+ii.toNat*s,none⟩)) ?_ (.ref _ cs (ii.toNat*s) b 0 vs ef aP hc) hk
      have:=pQ b 0 (ii.toNat*s)
      simp[execOp,ho,Instr.indexAt,rV,asIntOf,run_underlying hu,hv,h1,h2,jy aM,this]
    ·cases hr
   ·cases hr
  split at hr
  ·rename_i L hL
   split at hr
   ·rename_i j hj
    split at hr
    ·rename_i y hy
     cases hr
     obtain⟨kk,ii,rfl,h1,h2,rfl⟩:=sM hj
     have rV:=hi.int
     rcases NO hL hx with⟨_,rfl⟩|⟨b,off,cap,vs,hv,bJ,hm,hs,hf,aP,hc⟩
     ·simp at h2;omega
     ·have aF:ii.toNat<L.length:=(List.getElem?_eq_some_iff.1 hy).1
      have eb:y∈L:=List.mem_of_getElem? hy
      refine bp.eQ hI (v:=.pointer (some ⟨b,off+ii.toNat*sz,none⟩)) ?_ ?_ hk
      ·have:=pQ b off (ii.toNat*sz)
       simp[execOp,ho,Instr.indexAt,rV,asIntOf,run_underlying hu,hv,h1,h2,jy aM,this]
      ·refine .aT _ y 0 b (off+ii.toNat*sz) (fun j=>vs (ii.toNat*sz+j)) (hf y eb) (fun j oC=>?_) (fun j c iY=>hc _ y j c hy iY)
       have:ii.toNat*sz+j<L.length*sz:=by
        rw[hs y eb]at oC
        have:(ii.toNat+1)*sz≤L.length*sz:=Nat.mul_le_mul_right _ aF
        rw[Nat.succ_mul]at this;omega
       rw[Nat.add_assoc]
       exact aP _ this
    ·cases hr
   ·cases hr
  ·cases hr
 ·rename_i n e' hu
  obtain⟨sz,aM,h⟩:=aI h
  obtain⟨j,hj,h⟩:=aI h
  obtain⟨kk,ii,rfl,h1,h2,rfl⟩:=sM hj
  have rV:=hi.int
  have ba:∀ad,a.eval x=.pointer (some ad)→(execOp a.eval o).run P w=.ok (.value (.pointer (some (ad.add (ii.toNat*sz))))) w:=by
   intro ad hv
   simp[execOp,ho,Instr.indexAt,rV,asIntOf,run_underlying hu,Instr.sureAddr,hv,h1,h2,jy aM]
  split at h
  ·rename_i b off hs
   obtain⟨aj,hv,dk⟩:=(hI.mj hs).mc
   refine bp.value hI (ba _ hv) ?_ h
   rw[pQ]
   exact .p _ _ _ _ dk
  ·rename_i y hs
   obtain⟨z,hz,hk⟩:=aI h
   obtain⟨ad,hv,lP,hr⟩:=NM (O':=fun _ _ _=>False) hz (hI.pj hs)
   refine bp.eQ hI (ba _ hv) ?_ hk
   obtain⟨b,o',sp⟩:=ad
   simp only at lP;subst lP
   rw[pQ];exact hr
  ·exact h.elim
 ·exact h.elim
end
end Go.Proofs.Ytimbllcalipehaa.Ab
namespace Go.Proofs.Ytimbllcalipehaa.Ab
open Go Go.RowKit
section
variable{P:Program}{gl:Nat→Option D}{w0:World}{ao:S0}{e:Env}{a:Act}{w:World}{g:Gh}
inductive AD(w:World)(St:Nat→Nat→Prop)(base:Nat):Option SV→Option Value→Prop
 |none:AD w St base none none
 |some (s:SV) (v:Value) (h:aJ w St base (fun _ _ _=>False) s v):AD w St base (some s) (some v)
theorem Inv.opt(hI:Inv gl w0 ao e a w g)(x:Option Operand):AD w g.St w0.heap.size (Ab.pc (fun x=>(Ab.aV gl e x).aa) x) (x.map a.eval):=by
 cases x with
 |none=>exact .none
 |some y=>exact .some _ _ (hI.g7 y)
theorem zV{n m:Nat}(c:BoundsCode){x:SV}{j:Nat}(h:cA x (n+1)=some j)(hm:n≤m){St:Nat→Nat→Prop}{base:Nat}{O:Nat→Nat→Nat→Prop}{v:Value}(r:aJ w St base O x v):
  (Instr.sliceBound v m c).run P w=.ok j w∧j≤n:=by
 obtain⟨kk,ii,rfl,h1,h2,rfl⟩:=sM h
 have hv:=r.int
 refine⟨?_,by omega⟩
 have:0≤ii∧ii≤(m:Int):=⟨h1,by omega⟩
 simp[Instr.sliceBound,hv,asIntOf,this]
theorem EM{n cap:Nat}(S1:Bool)(hc:n≤cap){lo hi:Option SV}{DA DB:Option Value}{St:Nat→Nat→Prop}{base:Nat}(pk:AD w St base lo DA)(rW:AD w St base hi DB)
  {hh ll:Nat}(h1:yK n hi=some hh)(h2:u1 hh lo=some ll):
  (Instr.sliceBounds S1 n cap DA DB none).run P w=.ok (ll,hh,cap) w∧hh≤n∧ll≤hh:=by
 unfold Instr.sliceBounds
 cases rW with
 |none=>
  simp only[yK,Option.some.injEq]at h1
  subst h1
  cases pk with
  |none=>simp only[u1,Option.some.injEq]at h2;subst h2;exact⟨by simp,Nat.le_refl _,Nat.zero_le _⟩
  |some s v r=>
   obtain⟨q1,q2⟩:=zV (P:=P) (w:=w) .sliceB h2 (Nat.le_refl _) r
   exact⟨by simp[q1],Nat.le_refl _,q2⟩
 |some s v r=>
  obtain⟨p1,p2⟩:=zV (P:=P) (w:=w) (if S1 then .sliceAcap else .sliceAlen) h1 hc r
  cases pk with
  |none=>simp only[u1,Option.some.injEq]at h2;subst h2;exact⟨by simp[p1],p2,Nat.zero_le _⟩
  |some s v r=>
   obtain⟨q1,q2⟩:=zV (P:=P) (w:=w) .sliceB h2 (Nat.le_refl _) r
   exact⟨by simp[p1,q1],p2,q2⟩
theorem HK{n cap:Nat}(hc:n≤cap){lo:Option SV}{hi mx:SV}{DA:Option Value}{DB S2:Value}{St:Nat→Nat→Prop}{base:Nat}(pk:AD w St base lo DA)
  (rW:aJ w St base (fun _ _ _=>False) hi DB)(vI:aJ w St base (fun _ _ _=>False) mx S2)
  {hh mm ll:Nat}(h0:cA mx (n+1)=some mm)(h1:cA hi (n+1)=some hh)(he:hh=mm)(h2:u1 hh lo=some ll):
  (Instr.sliceBounds true n cap DA (some DB) (some S2)).run P w=.ok (ll,hh,hh) w∧hh≤n∧ll≤hh:=by
 unfold Instr.sliceBounds
 subst he
 obtain⟨o1,o2⟩:=zV (P:=P) (w:=w) .slice3Acap h0 hc vI
 have rY:cA hi (hh+1)=some hh:=by
  obtain⟨kk,ii,rfl,a1,a2,a3⟩:=sM h1
  simp only[cA]
  rw[if_pos (by omega),←a3]
 obtain⟨p1,_⟩:=zV (P:=P) (w:=w) .slice3B rY (Nat.le_refl _) rW
 cases pk with
 |none=>simp only[u1,Option.some.injEq]at h2;subst h2;exact⟨by simp[o1,p1],o2,Nat.zero_le _⟩
 |some s v r=>
  obtain⟨q1,q2⟩:=zV (P:=P) (w:=w) .slice3C h2 (Nat.le_refl _) r
  exact⟨by simp[o1,p1,q1],o2,q2⟩
theorem Od{L:List D}{lo hi:Option SV}{r:List D}(h:CW L lo hi=some r):∃hh ll,yK L.length hi=some hh∧
  u1 hh lo=some ll∧r=(L.take hh).drop ll:=by
 unfold CW at h
 split at h
 ·rename_i hh h1
  split at h
  ·rename_i ll h2
   cases h
   exact⟨hh,ll,h1,h2,rfl⟩
  ·cases h
 ·cases h
theorem Qn{St:Nat→Nat→Prop}{sz:Nat}{L:List D}{b off cap hh ll c':Nat}(h:aY w St (.sl .ro sz L) (.slice (some ⟨b,off,none⟩) L.length cap))(hh':hh≤L.length)(hl:ll≤hh)(hc:hh-ll≤c'):
  aY w St (.sl .ro sz ((L.take hh).drop ll)) (.slice (some ⟨b,off+ll*sz,none⟩) (hh-ll) c'):=by
 cases h with
 |j6 _ _ _ ha=>exact absurd rfl ha
 |sl _ _ _ _ _ vs bJ hm aM hf aP hc=>
  have hlen:((L.take hh).drop ll).length =hh-ll:=by simp;omega
  have:=aY.sl (w:=w) (St:=St) sz ((L.take hh).drop ll) b (off+ll*sz) c' (fun o=>vs (ll*sz+o)) (by omega) (by omega)
   (fun x hx=>aM x (List.mem_of_mem_take (List.mem_of_mem_drop hx))) (fun x hx=>hf x (List.mem_of_mem_take (List.mem_of_mem_drop hx)))
   (fun o ho=>by
     rw[hlen]at ho
     rw[Nat.add_assoc]
     refine aP (ll*sz+o) ?_
     have:ll*sz+(hh-ll)*sz=hh*sz:=by rw[←Nat.add_mul];congr 1;omega
     have:hh*sz≤L.length*sz:=Nat.mul_le_mul_right _ hh'
     omega)
   (fun i x j c hx iY=>by
     rw[List.getElem?_drop,List.getElem?_take]at hx
     split at hx
     ·have:=hc (ll+i) x j c hx iY
      rw[Nat.add_mul,Nat.add_assoc]at this
      exact this
     ·cases hx)
  rw[hlen]at this
  exact this
theorem WH(hI:Inv gl w0 ao e a w g){o:Oper}{t:TypeId}{x:Operand}{lo hi mx:Option Operand}(ho:o.op=.slice t x lo hi mx){k:Slot→List af→Prop}
  (h:ab (JE P t (Ab.aa ((Ab.aV gl e x).aa).bU) (Ab.pc (fun x=>(Ab.aV gl e x).aa) lo) (Ab.pc (fun x=>(Ab.aV gl e x).aa) hi) (Ab.pc (fun x=>(Ab.aV gl e x).aa) mx)) fun r=>k (.v r) e.boxes):
  bp P gl w0 ao e.ai o a w k:=by
 obtain⟨r,hr,hk⟩:=aI h
 clear h
 have hx:=(hI.g7 x).aa (O':=fun _ _ _=>False)
 have pk:=hI.opt lo
 have rW:=hI.opt hi
 have vI:=hI.opt mx
 generalize Ab.aa ((Ab.aV gl e x).aa).bU =sx at hr hx
 generalize Ab.pc (fun x=>(Ab.aV gl e x).aa) lo=slo at hr pk
 generalize Ab.pc (fun x=>(Ab.aV gl e x).aa) hi=shi at hr rW
 generalize Ab.pc (fun x=>(Ab.aV gl e x).aa) mx=smx at hr vI
 unfold JE at hr
 split at hr
 ·
  rename_i hu
  split at hr
  ·rename_i s
   split at hr
   ·rename_i l hl
    cases hr
    obtain⟨bs,hv,hs,lF⟩:=hx.data.uA
    unfold Q2 at hl
    split at hl
    ·rename_i hh h1
     split at hl
     ·rename_i ll h2
      cases hl
      have jr:s.length=bs.size:=by rw[hs,Array.length_toList];rfl
      rw[jr]at h1
      have hb:=EM (P:=P) (w:=w) false (Nat.le_refl bs.size) pk rW h1 h2
      have e2:mx.map a.eval=none:=by generalize mx.map a.eval=q at vI;cases vI;rfl
      refine bp.eQ hI (v:=.string (bs.extract ll hh)) ?_ (.d _ _ _ ?_) hk
      ·simp[execOp,ho,Instr.sliceAt,run_underlying hu,Instr.slice,hv,hb.1,e2]
      ·have:(bs.extract ll hh).data.toList =(s.take hh).drop ll:=by
        rw[hs,ByteArray.data_extract,Array.toList_extract,List.extract_eq_drop_take']
       rw[←this]
       refine .str _ ?_
       have:(bs.extract ll hh).size ≤bs.size:=by rw[ByteArray.size_extract];omega
       omega
     ·cases hl
    ·cases hl
   ·cases hr
  ·cases hr
 ·
  rename_i e' hu
  split at hr
  ·rename_i kk sz L s hL hs
   have hd:=hx.cT hL
   split at hr
   ·
    rename_i rr yR
    obtain⟨hh,ll,h1,h2,rfl⟩:=Od yR
    have e2:mx.map a.eval=none:=by generalize mx.map a.eval=q at vI;cases vI;rfl
    split at hr
    ·cases hr
     generalize hv:a.eval x=u at hd
     cases hd
     have hb:=EM (P:=P) (w:=w) true (Nat.le_refl 0) pk rW h1 h2
     have rZ:ll=0:=by have:=hb.2;simp at this;omega
     have xt:hh=0:=by have:=hb.2;simp at this;omega
     subst rZ xt
     refine bp.eQ hI (v:=.slice none 0 0) ?_ (.d _ _ _ (.ir _)) hk
     simp[execOp,ho,Instr.sliceAt,run_underlying hu,Instr.slice,hv,hb.1,e2,jy hs]
    ·split at hr
     ·rename_i aM
      cases hr
      subst aM
      generalize hv:a.eval x=u at hd
      have ic:=hd
      cases hd with
      |j6 _ ad cap ha=>
       have hb:=EM (P:=P) (w:=w) true (Nat.zero_le cap) pk rW h1 h2
       have rZ:ll=0:=by have:=hb.2;simp at this;omega
       have xt:hh=0:=by have:=hb.2;simp at this;omega
       subst rZ xt
       refine bp.eQ hI (v:=.slice (some ad) 0 cap) ?_ (.d _ _ _ (.j6 _ ad cap ha)) hk
       simp only[execOp,ho,Instr.sliceAt,Sem.run_bind,run_underlying hu,Result.andThen_ok,Instr.slice,hv,e2,hb.1,jy hs]
       by_cases de:cap=0
       ·simp[de]
       ·simp[de]
        rfl
      |sl _ _ b off cap vs bJ hm _ hf aP hc=>
       have hb:=EM (P:=P) (w:=w) true bJ pk rW h1 h2
       refine bp.eQ hI (v:=.slice (some (if cap=ll then⟨b,off,none⟩else⟨b,off+ll*sz,none⟩)) (hh-ll) (cap-ll)) ?_ (.d _ _ _ ?_) hk
       ·have:=pQ b off (ll*sz)
        simp only[execOp,ho,Instr.sliceAt,Sem.run_bind,run_underlying hu,Result.andThen_ok,Instr.slice,hv,e2,hb.1,jy hs]
        by_cases de:cap=ll
        ·simp[de]
        ·simp[de,this]
       ·by_cases de:cap=ll
        ·have hhl:hh=ll:=by omega
         have Gz:ll=L.length:=by omega
         simp only[de,↓reduceIte]
         have e0:(L.take hh).drop ll=[]:=List.drop_eq_nil_of_le (by simp;omega)
         rw[e0]
         have:=aY.sl (w:=w) (St:=g.St) sz [] b off (ll-ll) vs (by simp) (by simp) (by simp) (by simp) (by simp) (by simp)
         simpa[hhl]using this
        ·simp only[de,↓reduceIte]
         exact Qn ic hb.2.1 hb.2.2 (by omega)
     ·cases hr
   ·
    rename_i rr m yR
    obtain⟨hh,ll,h1,h2,rfl⟩:=Od yR
    split at hr
    ·rename_i DC mm vJ
     split at hr
     ·rename_i k1 av k2 bv
      split at hr
      ·rename_i Bx
       simp only[yK]at h1
       have Lp:hh=mm:=by
        obtain⟨_,i1,q1,_,_,q2⟩:=sM h1
        obtain⟨_,i2,q3,_,_,q4⟩:=sM vJ
        cases q1;cases q3;rw[q2,q4,Bx]
       generalize GA:hi.map a.eval=qh at rW
       generalize GB:mx.map a.eval=qm at vI
       cases rW with
       |some _ vh rh=>
        cases vI with
        |some _ vm rm=>
         split at hr
         ·cases hr
          generalize hv:a.eval x=u at hd
          cases hd
          have hb:=HK (P:=P) (w:=w) (Nat.le_refl 0) pk rh rm vJ h1 Lp h2
          have rZ:ll=0:=by have:=hb.2;simp at this;omega
          have xt:hh=0:=by have:=hb.2;simp at this;omega
          subst rZ xt
          refine bp.eQ hI (v:=.slice none 0 0) ?_ (.d _ _ _ (.ir _)) hk
          simp[execOp,ho,Instr.sliceAt,run_underlying hu,Instr.slice,hv,hb.1,GA,GB,jy hs]
         ·split at hr
          ·rename_i aM
           cases hr
           subst aM
           generalize hv:a.eval x=u at hd
           have ic:=hd
           cases hd with
           |j6 _ ad cap ha=>
            have hb:=HK (P:=P) (w:=w) (Nat.zero_le cap) pk rh rm vJ h1 Lp h2
            have rZ:ll=0:=by have:=hb.2;simp at this;omega
            have xt:hh=0:=by have:=hb.2;simp at this;omega
            subst rZ xt
            refine bp.eQ hI (v:=.slice (some ad) 0 0) ?_ ?_ hk
            ·simp[execOp,ho,Instr.sliceAt,run_underlying hu,Instr.slice,hv,hb.1,GA,GB,jy hs]
            ·exact .full _ sz [] ad (.j6 sz ad 0 ha)
           |sl _ _ b off cap vs bJ hm _ hf aP hc=>
            have hb:=HK (P:=P) (w:=w) bJ pk rh rm vJ h1 Lp h2
            have hlen:((L.take hh).drop ll).length =hh-ll:=by simp;omega
            by_cases de:hh=ll
            ·subst de
             have e0:(L.take hh).drop hh=[]:=List.drop_eq_nil_of_le (by simp;omega)
             rw[e0]at hk
             refine bp.eQ hI (v:=.slice (some ⟨b,off,none⟩) 0 0) ?_ ?_ hk
             ·simp[execOp,ho,Instr.sliceAt,run_underlying hu,Instr.slice,hv,hb.1,GA,GB,jy hs]
             ·exact .full _ sz [] ⟨b,off,none⟩ (aY.sl sz [] b off 0 vs (by simp) (by simp) (by simp) (by simp) (by simp) (by simp))
            ·refine bp.eQ hI (v:=.slice (some ⟨b,off+ll*sz,none⟩) (hh-ll) (hh-ll)) ?_ ?_ hk
             ·have:=pQ b off (ll*sz)
              simp[execOp,ho,Instr.sliceAt,run_underlying hu,Instr.slice,hv,hb.1,GA,GB,jy hs,de,this]
             ·have:=Qn (c':=hh-ll) ic hb.2.1 hb.2.2 (Nat.le_refl _)
              rw[←hlen]at this ⊢
              exact .full _ sz _ _ this
          ·cases hr
      ·cases hr
     ·cases hr
    ·cases hr
   ·cases hr
  ·cases hr
 ·cases hr
end
end Go.Proofs.Ytimbllcalipehaa.Ab
namespace Go.Proofs.Ytimbllcalipehaa.Ab
open Go Go.RowKit
section
variable{P:Program}{gl:Nat→Option D}{w0:World}{ao:S0}{e:Env}{a:Act}{w:World}{g:Gh}
theorem YF(hI:Inv gl w0 ao e a w g){o:Oper}{c:Call}(ho:o.op=.call c)(hc:c.callee=.builtin .len){x:Operand}{xs:List Operand}{t:TypeId}{ts:List TypeId}
  (hx:c.args.toList=x::xs)(ht:c.argTypes.toList=t::ts){k:Slot→List af→Prop}(h:ab (Kp P t ((Ab.aV gl e x).aa).bU) fun r=>k (.v r) e.boxes):bp P gl w0 ao e.ai o a w k:=by
 obtain⟨r,hr,hk⟩:=aI h
 have dK:=hI.g7 x
 generalize ((Ab.aV gl e x).aa).bU =sx at hr dK
 have h0:c.args[0]? =some x:=by rw[←Array.getElem?_toList,hx];rfl
 have h1:c.argTypes[0]? =some t:=by rw[←Array.getElem?_toList,ht];rfl
 have ba:∀v,(Builtin.len_ c.argTypes o.type (c.args.map a.eval)).run P w=.ok v w→(execOp a.eval o).run P w=.ok (.value v) w:=by
  intro v hv
  simp[execOp,ho,resolve,hc,invoke,builtin,hv]
 unfold Kp at hr
 split at hr
 ·rename_i hu
  split at hr
  ·rename_i s
   cases hr
   obtain⟨bs,hv,hs,hm⟩:=dK.data.uA
   refine bp.eQ hI (v:=.int .i64 bs.size) (ba _ ?_) (.d _ _ _ ?_) hk
   ·simp[Builtin.len_,h0,h1,run_underlying hu,hv,goInt]
   ·have:(bs.size:Int)=(s.length:Int):=by rw[hs,Array.length_toList];rfl
    rw[this]
    refine .int _ _ ?_
    have:s.length=bs.size:=by rw[hs,Array.length_toList];rfl
    simp only[maxLen]at hm
    simp[ga,IntKind.min,IntKind.max,IntKind.signed,IntKind.bits]
    omega
  ·cases hr
 ·rename_i n e' hu
  cases hb:Nat.ble n maxLen with
  |false=>rw[hb]at hr;cases hr
  |true=>
   rw[hb]at hr
   cases hr
   have hm:=Nat.le_of_ble_eq_true hb
   refine bp.eQ hI (v:=.int .i64 n) (ba _ ?_) (.d _ _ _ (.int _ _ ?_)) hk
   ·simp[Builtin.len_,h0,h1,run_underlying hu,goInt]
   ·simp only[maxLen]at hm
    simp[ga,IntKind.min,IntKind.max,IntKind.signed,IntKind.bits]
    omega
 ·rename_i e' hu
  split at hr
  ·rename_i n s cs
   cases hr
   generalize hv:a.eval x=u at dK
   cases dK with
   |cG _ _ _ _ b cap vs ef hn hm aP hc=>
    refine bp.eQ hI (v:=.int .i64 n) (ba _ ?_) (.d _ _ _ (.int _ _ ?_)) hk
    ·simp[Builtin.len_,h0,h1,run_underlying hu,hv,goInt]
    ·simp only[maxLen]at hm
     simp[ga,IntKind.min,IntKind.max,IntKind.signed,IntKind.bits]
     omega
  split at hr
  ·rename_i L hL
   cases hr
   have key:∃ad cap,a.eval x=.slice ad L.length cap∧L.length≤maxLen:=by
    have go:∀{s L' v},aY w g.St (.sl .ro s L') v→∃ad cap,v=.slice ad L'.length cap∧L'.length≤maxLen:=by
     intro s L' v hd
     cases hd with
     |sl _ _ b off cap vs bJ hm aM hf aP hc=>exact⟨_,_,rfl,hm⟩
     |j6 _ ad c _=>exact⟨_,_,rfl,by simp⟩
    unfold Cj at hL
    split at hL
    ·rename_i k' s' L' _
     cases hL
     have hd:=dK.data
     cases k'
     ·generalize a.eval x=u at hd;cases hd;exact⟨_,_,rfl,by simp⟩
     ·exact go hd
    ·cases hL
     generalize a.eval x=u at dK
     cases dK with
     |own _ _ _ gg cap hd bJ ho=>exact go hd
    ·cases hL
     generalize a.eval x=u at dK
     cases dK with
     |full _ _ _ ad hd=>exact go hd
    ·cases hL
   obtain⟨ad,cap,hv,hm⟩:=key
   refine bp.eQ hI (v:=.int .i64 L.length) (ba _ ?_) (.d _ _ _ (.int _ _ ?_)) hk
   ·simp[Builtin.len_,h0,h1,run_underlying hu,hv,goInt]
   ·simp only[maxLen]at hm
    simp[ga,IntKind.min,IntKind.max,IntKind.signed,IntKind.bits]
    omega
  ·cases hr
 ·cases hr
theorem Nq(off:Nat):∀(l:List Value)(k:Nat)(cells:Array Value)(i:Nat),off+k+l.length≤cells.size→
  ((l.zipIdx k).foldl (fun cs(c,j)=>cs.setIfInBounds (off+j) c) cells).size =cells.size∧
  ((l.zipIdx k).foldl (fun cs(c,j)=>cs.setIfInBounds (off+j) c) cells)[i]? =if off+k≤i∧i<off+k+l.length then l[i-(off+k)]? else cells[i]?
 |[],k,cells,i,_=>by
  refine⟨rfl,?_⟩
  rw[if_neg (by simp;try omega)]
  simp
 |v::l,k,cells,i,h=>by
  simp only[List.length_cons]at h
  simp only[List.zipIdx_cons,List.foldl_cons]
  obtain⟨h1,h2⟩:=Nq off l (k+1) (cells.setIfInBounds (off+k) v) i (by simp;omega)
  refine⟨by rw[h1];simp,?_⟩
  rw[h2]
  by_cases hi:i=off+k
  ·subst hi
   rw[if_neg (by omega),if_pos (by simp)]
   simp only[Nat.sub_self,List.getElem?_cons_zero]
   rw[Array.getElem?_setIfInBounds_self]
   rw[if_pos (by omega)]
  ·by_cases hr:off+(k+1)≤i∧i<off+(k+1)+l.length
   ·rw[if_pos hr,if_pos (by simp;omega)]
    have:i-(off+k)=(i-(off+(k+1)))+1:=by omega
    rw[this,List.getElem?_cons_succ]
   ·rw[if_neg hr,if_neg (by simp;omega),Array.getElem?_setIfInBounds_ne (by omega)]
def II(w:World)(St:Nat→Nat→Prop):List (Nat×D)→List (Nat×Value)→Prop
 |[],[]=>True
 |(i,d)::l,(j,v)::m=>i=j∧aY w St d v∧II w St l m
 |_,_=>False
theorem aY.Xu{St:Nat→Nat→Prop}{d:D}{v:Value}(r:aY w St d v):km w St d.cells v.cells:=by
 by_cases h:d.one=true
 ·have h1:=r.rb h
  have hc:d.cells=[d]:=by cases d<;>first|rfl|simp[D.one]at h
  have hv:v.cells= #[v]:=by cases v<;>first|rfl|simp[Value.oneCell']at h1
  rw[hc,hv]
  refine⟨rfl,fun i x y hx hy=>?_⟩
  cases i with
  |zero=>simp at hx hy;subst hx hy;exact r
  |succ i=>simp at hx
 ·cases d<;>simp only[D.one,not_true_eq_false]at h
  obtain⟨vs,rfl,hr,_⟩:=r.wE
  exact hr
theorem IJ{St:Nat→Nat→Prop}(place:Nat→Option (Nat×Nat)):∀(ps:List (Nat×D))(qs:List (Nat×Value))(cs:List D)(cells:Array Value)(r:List D),
  II w St ps qs→km w St cs cells→(∀d∈cs,d.one=true)→tt place cs ps=some r→
  ∃r',Instr.fill place cells qs=some r'∧km w St r r'∧∀d∈r,d.one=true
 |[],[],cs,cells,r,_,hc,hf,h=>by
  simp only[tt,Option.some.injEq]at h
  subst h
  exact⟨cells,rfl,hc,hf⟩
 |(i,d)::ps,(j,v)::qs,cs,cells,r,hp,hc,hf,h=>by
  obtain⟨rfl,hd,hp⟩:=hp
  simp only[tt]at h
  split at h
  ·cases h
  ·rename_i off sz e6
   split at h
   ·rename_i AY
    have S3:=hd.Xu
    have aM:v.cells.size=sz:=by rw[←S3.1];exact AY.1
    have hle:off+sz≤cells.size:=by rw[←hc.1];exact AY.2
    have hg:=fun i=>Nq off v.cells.toList 0 cells i (by simp[aM];omega)
    simp only[Nat.add_zero,Array.length_toList,aM]at hg
    have adz:v.cells.zipIdx.foldl (fun cs(c,j)=>cs.setIfInBounds (off+j) c) cells=(v.cells.toList.zipIdx.foldl (fun cs(c,j)=>cs.setIfInBounds (off+j) c) cells):=by
     rw[←Array.foldl_toList,Array.toList_zipIdx]
    obtain⟨r',h1,h2,h3⟩:=IJ place ps qs _ (v.cells.zipIdx.foldl (fun cs(c,j)=>cs.setIfInBounds (off+j) c) cells) r hp (by
     rw[adz]
     constructor
     ·rw[(hg 0).1,←hc.1];simp[AY.1];omega
     ·intro i x y hx hy
      rw[(hg i).2]at hy
      have:=uq cs d.cells off (by rw[AY.1];exact AY.2) i
      rw[AY.1]at this
      rw[this]at hx
      split at hx
      ·rename_i h1
       rw[if_neg (by omega)]at hy
       exact hc.2 i x y hx hy
      ·rename_i h1
       split at hx
       ·rename_i h2
        rw[if_pos (by omega)]at hy
        rw[Array.getElem?_toList]at hy
        exact S3.2 _ x y hx hy
       ·rename_i h2
        rw[if_neg (by omega)]at hy
        exact hc.2 i x y hx hy) (by
     intro x hx
     simp only[List.mem_append]at hx
     rcases hx with(hx|hx)|hx
     ·exact hf x (List.mem_of_mem_take hx)
     ·exact hd.OT x hx
     ·exact hf x (List.mem_of_mem_drop hx)) h
    refine⟨r',?_,h2,h3⟩
    rw[Instr.fill]
    simp only[e6,aM]
    rw[if_neg (by simp;omega)]
    exact h1
   ·cases h
 |[],_::_,_,_,_,h,_,_,_=>h.elim
 |_::_,[],_,_,_,h,_,_,_=>h.elim
theorem HX(hI:Inv gl w0 ao e a w g):∀{ps:List (Nat×Operand)}{l:List (Nat×D)},nO (fun x=>(Ab.aV gl e x).aa) ps=some l→II w g.St l (ps.map fun(i,x)=>(i,a.eval x))
 |[],l,h=>by simp only[nO,Option.some.injEq]at h;subst h;trivial
 |(i,x)::ps,l,h=>by
  simp only[nO]at h
  split at h
  ·rename_i y hy
   split at h
   ·rename_i z hz
    split at h
    ·rename_i r hr
     cases h
     exact⟨rfl,(hI.pj hy).cT hz,HX hI hr⟩
    ·cases h
   ·cases h
  ·cases h
theorem NP:∀{fs:List Field}{l:List (Nat×Nat)},Cx P fs=some l→(fs.mapM (m:=Sem) fun f=>do pure (f.offset,←sizeOf f.type)).run P w=.ok l w
 |[],l,h=>by simp only[Cx,Option.some.injEq]at h;subst h;rfl
 |f::fs,l,h=>by
  simp only[Cx]at h
  split at h
  ·rename_i s hs
   split at h
   ·rename_i r hr
    cases h
    simp only[List.mapM_cons,Sem.run_bind,jy hs,Result.andThen_ok,Sem.run_pure,NP hr]
   ·cases h
  ·cases h
theorem WI(hI:Inv gl w0 ao e a w g){o:Oper}{t:TypeId}{ps:Array (Nat×Operand)}(ho:o.op=.build t ps){k:Slot→List af→Prop}
  (h:ab (nO (fun x=>(Ab.aV gl e x).aa) ps.toList) fun l=>ab (cW P t l) fun r=>k (.v (.d r)) e.boxes):bp P gl w0 ao e.ai o a w k:=by
 obtain⟨l,hl,h⟩:=aI h
 obtain⟨r,hr,hk⟩:=aI h
 have hp:=HX hI hl
 unfold cW at hr
 split at hr
 ·rename_i z hz
  split at hr
  ·rename_i pl e6
   split at hr
   ·rename_i cs cf
    cases hr
    obtain⟨zv,kC,DE,wM,J7⟩:=HC hz
    obtain⟨r',h1,h2,h3⟩:=IJ (w:=w) (St:=g.St) pl l _ z zv.cells cs hp ⟨DE,fun i x v=>J7 w g.St i x v⟩ wM cf
    refine bp.eQ hI (v:=.agg r') ?_ (.d _ _ _ (h2.agg h3)) hk
    have CO:(ps.map fun(i,x)=>(i,a.eval x)).toList =ps.toList.map fun(i,x)=>(i,a.eval x):=by simp
    unfold NK at e6
    split at e6
    ·rename_i fs hu
     split at e6
     ·rename_i ll Gz
      cases e6
      have hm:(fs.mapM (m:=Sem) fun f=>do pure (f.offset,←sizeOf f.type)).run P w=.ok ll.toArray w:=by
       have e1:fs=fs.toList.toArray:=by simp
       rw[e1,List.mapM_toArray,Sem.run_map,NP Gz]
       rfl
      simp only[execOp,ho,Sem.run_bind,Instr.build,kC,Result.andThen_ok,run_underlying hu,hm]
      rw[CO]
      have:(fun x:Nat=>ll.toArray[x]?)=fun i=>ll[i]? :=by funext i;simp
      rw[this,h1]
      rfl
     ·cases e6
    ·rename_i n e' hu
     split at e6
     ·rename_i s hs
      cases e6
      simp only[execOp,ho,Sem.run_bind,Instr.build,kC,Result.andThen_ok,run_underlying hu,jy hs]
      rw[CO,h1]
      rfl
     ·cases e6
    ·cases e6
   ·cases hr
  ·cases hr
 ·cases hr
theorem NQ(sz n:Nat):∀(l:List (Nat×D))(cs:List D),cs.length=n*sz→bf sz n l=true→
  ∃r,tt (fun i=>some (i*sz,sz)) cs l=some r∧r.length=n*sz∧∀i j,i<n→j<sz→r[i*sz+j]? =(match pP i l with|some x=>x.cells[j]? |none=>cs[i*sz+j]?)
 |[],cs,h,_=>⟨cs,rfl,h,fun i j _ _=>rfl⟩
 |(i0,d)::l,cs,h,hp=>by
  simp only[bf,Bool.and_eq_true]at hp
  obtain⟨⟨h1,h2⟩,h3⟩:=hp
  have vK:i0<n:=Nat.lt_of_succ_le (Nat.le_of_ble_eq_true h1)
  have hd:=Nat.eq_of_beq_eq_true h2
  have hle:i0*sz+sz≤n*sz:=by
   have:(i0+1)*sz≤n*sz:=Nat.mul_le_mul_right _ vK
   rw[Nat.succ_mul]at this;exact this
  obtain⟨r,q1,q2,q3⟩:=NQ sz n l (cs.take (i0*sz)++d.cells++cs.drop (i0*sz+sz)) (by rw[List.length_append,List.length_append,List.length_take,List.length_drop,hd,h];omega) h3
  refine⟨r,?_,q2,fun i j hi hj=>?_⟩
  ·simp only[tt]
   rw[if_pos ⟨hd,by rw[h];exact hle⟩]
   exact q1
  ·rw[q3 i j hi hj]
   cases DF:pP i l with
   |some y=>simp only[pP,DF]
   |none=>
    simp only[pP,DF]
    have:=uq cs d.cells (i0*sz) (by rw[hd,h];exact hle) (i*sz+j)
    rw[hd]at this
    rw[this]
    cases hb:i==i0 with
    |true=>
     have:i=i0:=by simpa using hb
     subst this
     rw[if_neg (by omega),if_pos (by omega)]
     simp
    |false=>
     have bg:i≠i0:=by simpa using hb
     simp only[cond_false]
     rcases Nat.lt_or_ge i i0 with aF|kD
     ·have:(i+1)*sz≤i0*sz:=Nat.mul_le_mul_right _ aF
      rw[Nat.succ_mul]at this
      rw[if_pos (by omega)]
     ·have:(i0+1)*sz≤i*sz:=Nat.mul_le_mul_right _ (by omega)
      rw[Nat.succ_mul]at this
      rw[if_neg (by omega),if_neg (by omega)]
theorem Hz(zero:D)(l:List (Nat×D)):∀(n s i:Nat),(bj zero l n s).length =n∧(i<n→(bj zero l n s)[i]? =some (match pP (s+i) l with|some x=>x|none=>zero))
 |0,s,i=>⟨rfl,fun h=>by omega⟩
 |n+1,s,i=>by
  refine⟨by simp[bj,(Hz zero l n (s+1) 0).1],fun h=>?_⟩
  cases i with
  |zero=>rfl
  |succ i=>
   have:=(Hz zero l n (s+1) i).2 (by omega)
   simp only[bj,List.getElem?_cons_succ]
   rw[this]
   have:s+1+i=s+(i+1):=by omega
   rw[this]
theorem bp.ZZ(hI:Inv gl w0 ao e a w g){o:Oper}{cells:Array Value}{t:TypeId}{s:SV}{v:Value}{k:Slot→List af→Prop}
  (ba:(execOp a.eval o).run P w=.ok (.value v) (w.alloc (.cells cells t)))
  (rep:∀(g':Gh),(∀o,g'.St w.heap.size o)→Ext w0.heap.size w g (w.alloc (.cells cells t)) g' (fun _=>False)→aJ (w.alloc (.cells cells t)) g'.St w0.heap.size (fun _ _ _=>False) s v)
  (hk:k (.v s) e.boxes):bp P gl w0 ao e.ai o a w k:=by
 intro next Q hn
 unfold Oper.wp
 rw[ba]
 have hle:w0.heap.size≤w.heap.size:=hI.below.size
 have hX:Ext w0.heap.size w g (w.alloc (.cells cells t)) {g with St:=fun b o=>g.St b o∨b=w.heap.size} (fun _=>False):=by
  refine⟨fun D o hb ho h=>⟨(jc w _ D (fJ h)).trans h,hb,ho,fun x hx=>hx.elim id fun e=>(by have:=fJ h;omega)⟩,fun b o h=>⟨.inl h,.qV (jc w _ b (hI.pd h))⟩,fun b o h=>Hx w _ b o (by omega),fun i aj h=>h,fun p b a c _ ho=>?_,.of fun b hb=>jc w _ b hb⟩
  have aF:=ho.lt
  obtain⟨h1,h2,h3,⟨cur,ty,h4,kZ⟩,h5⟩:=ho
  exact⟨⟨h1,h2,h3,⟨cur,ty,(jc w _ b aF).trans h4,kZ⟩,fun o ho=>by rintro(h|h);exact h5 o ho h;omega⟩,fun _=>jc w _ b aF⟩
 have hr:=rep {g with St:=fun b o=>g.St b o∨b=w.heap.size} (fun _=>Or.inr rfl) hX
 refine hn (.v s) _ _ _ {g with St:=fun b o=>g.St b o∨b=w.heap.size} (hI.FR (g':={g with St:=fun b o=>g.St b o∨b=w.heap.size})
  ⟨hX.df,hX.st,hX.bs,hX.bx,fun p b a c _ ho=>hX.own p b a c (fun h=>h) ho,hX.sh⟩ ((Below.refl _ _).alloc (Nat.le_refl _) _) (fun d _=>?_) rfl (fun b o h=>?_)) hk
 ·exact .v _ _ _ (hr.mono (fun _ _ h=>⟨h,.refl _ _ _⟩) (fun _ _ _=>rfl) _ (fun _ _ _ h=>h.elim))
 ·have hs:=B8 w (.cells cells t)
  rcases h with h|h
  ·exact .inl h
  ·right;omega
theorem Ny{b:Bool}{z:List D}(hf:∀d∈z,d.one=true)(h1:b=false→z.length=1):(br b z).cells =z:=by
 unfold br
 cases b
 ·obtain⟨x,rfl⟩:=List.length_eq_one_iff.1 (h1 rfl)
  have:=hf x (by simp)
  cases x<;>first|rfl|simp[D.one]at this
 ·rfl
theorem B9{t e':TypeId}(h:nI P t=some e'):P.underlying t=some (.slice e'):=by
 unfold nI at h
 split at h
 ·rename_i kY hu;cases h;exact hu
 ·cases h
theorem Nd(hI:Inv gl w0 ao e a w g){o:Oper}{t:TypeId}{n:Nat}{ps:Array (Nat×Operand)}(ho:o.op=.buildSlice t n ps){K:Nat→List D→Prop}
  (h:ab (nI P t) fun e'=>ab (kp P e') fun ly=>ab (nD P e') fun z=>ab (nO (fun x=>(Ab.aV gl e x).aa) ps.toList) fun l=>
    bif Nat.ble (n*ly.2) (2^24)&&Nat.blt 0 ly.2&&Nat.beq z.length ly.2 then(bf ly.2 n l=true∧K ly.2 (bj (br ly.1 z) l n 0))else False):
  ∃(r':Array Value) (e':TypeId) (sz:Nat) (L:List D),K sz L∧(execOp a.eval o).run P w=.ok (.value (.slice (some ⟨w.heap.size,0,none⟩) L.length L.length)) (w.alloc (.cells r' e'))∧r'.size=L.length*sz∧
   L.length≤maxLen∧(∀x∈L,x.cells.length=sz∧∀c∈x.cells,c.one=true)∧∀(i:Nat)x(j:Nat)c,L[i]? =some x→x.cells[j]? =some c→i*sz+j<r'.size∧aY w g.St c (r'.getD (i*sz+j) undef):=by
 obtain⟨e',he,h⟩:=aI h
 obtain⟨⟨b,sz⟩,hl,h⟩:=aI h
 obtain⟨z,hz,h⟩:=aI h
 obtain⟨l,hp,h⟩:=aI h
 cases hc:(Nat.ble (n*sz) (2^24)&&Nat.blt 0 sz&&Nat.beq z.length sz)with
 |false=>simp only[hc,cond_false]at h
 |true=>
  simp only[hc,cond_true]at h
  simp only[Bool.and_eq_true]at hc
  obtain⟨⟨Dx,DG⟩,hc3⟩:=hc
  obtain⟨nZ,hk⟩:=h
  have hlen:=Nat.eq_of_beq_eq_true hc3
  have Lq:=Nat.le_of_ble_eq_true Dx
  have Bb:0<sz:=Nat.lt_of_succ_le (Nat.le_of_ble_eq_true DG)
  have hu:=B9 he
  obtain⟨hb,hn,cq⟩:=Fl hl
  obtain⟨zv,kC,DE,wM,J7⟩:=HC hz
  have CP:=HX hI hp
  have gp:zv.cells.size=sz:=by rw[←DE,hlen]
  have S4:km w g.St ((List.range (n*sz)).map fun i=>z.getD (i % sz) .nN) ((Array.range (n*sz)).map (zv.cells[· % zv.cells.size]!))∧
    ∀d∈((List.range (n*sz)).map fun i=>z.getD (i % sz) .nN),d.one=true:=by
   have hm:∀i,i % sz<z.length:=fun i=>by rw[hlen];exact Nat.mod_lt _ Bb
   constructor
   ·refine⟨by simp,fun i x v hx hv=>?_⟩
    simp only[List.getElem?_map,Option.map_eq_some_iff]at hx
    obtain⟨j,hj,rfl⟩:=hx
    have hi:i<n*sz:=by have:=(List.getElem?_eq_some_iff.1 hj).1;simpa using this
    rw[List.getElem?_range hi]at hj
    cases hj
    have k0:=hm i
    have GC:i % sz<zv.cells.size:=by rw[gp];exact Nat.mod_lt _ Bb
    simp[hi,gp]at hv
    rw[getElem!_pos zv.cells (i % sz) GC]at hv
    subst hv
    refine J7 w g.St (i % sz) _ _ ?_ (Array.getElem?_eq_getElem GC)
    rw[List.getD_eq_getElem?_getD,List.getElem?_eq_getElem k0];rfl
   ·intro d hd
    simp only[List.mem_map,List.mem_range]at hd
    obtain⟨i,hi,rfl⟩:=hd
    have k0:=hm i
    rw[List.getD_eq_getElem?_getD,List.getElem?_eq_getElem k0]
    exact wM _ (List.getElem_mem k0)
  obtain⟨r,q1,q2,q3⟩:=NQ sz n l ((List.range (n*sz)).map fun i=>z.getD (i % sz) .nN) (by simp) nZ
  obtain⟨r',f1,f2,f3⟩:=IJ (w:=w) (St:=g.St) _ l _ _ _ r CP S4.1 S4.2 q1
  have CO:(ps.map fun(i,x)=>(i,a.eval x)).toList =ps.toList.map fun(i,x)=>(i,a.eval x):=by simp
  have Si:r'.size=n*sz:=by rw[←f2.1,q2]
  have hL:=Hz (br b z) l n 0
  have CY:=(hL 0).1
  have Lr:∀i x,pP i l=some x→x.cells.length=sz∧∀c∈x.cells,c.one=true:=by
   intro i x hx
   clear hL CY q1 q2 q3 f1 f2 f3 hp hk
   revert nZ CP
   generalize (ps.toList.map fun(i,x)=>(i,a.eval x))=qs
   intro nZ CP
   induction l generalizing qs with
   |nil=>simp[pP]at hx
   |cons p l ih=>
    obtain⟨j,d⟩:=p
    cases qs with
    |nil=>exact CP.elim
    |cons q qs=>
     obtain⟨j',v⟩:=q
     obtain⟨_,hd,S5⟩:=CP
     simp only[bf,Bool.and_eq_true]at nZ
     simp only[pP]at hx
     split at hx
     ·rename_i y hy
      cases hx
      exact ih hy qs nZ.2 S5
     ·cases hb:i==j<;>rw[hb]at hx<;>simp only[cond_true,cond_false,Option.some.injEq,reduceCtorEq]at hx
      subst hx
      exact⟨Nat.eq_of_beq_eq_true nZ.1.2,hd.OT⟩
  have jt:∀i x,(bj (br b z) l n 0)[i]? =some x→i<n∧x=(match pP i l with|some x=>x|none=>br b z):=by
   intro i x hx
   have hi:i<n:=by rw[←CY];exact(List.getElem?_eq_some_iff.1 hx).1
   have:=(hL i).2 hi
   rw[this]at hx
   simp only[Nat.zero_add]at hx
   exact⟨hi,(Option.some.inj hx).symm⟩
  have S6:(br b z).cells =z:=Ny wM (fun h=>by rw[hlen];exact cq h)
  have gF:∀x∈bj (br b z) l n 0,x.cells.length=sz∧∀c∈x.cells,c.one=true:=by
   intro x hx
   obtain⟨i,hi⟩:=List.mem_iff_getElem?.1 hx
   obtain⟨_,rfl⟩:=jt i x hi
   split
   ·rename_i y hy;exact Lr _ _ hy
   ·rw[S6];exact⟨hlen,wM⟩
  have lF:n≤maxLen:=by
   have:n*1≤n*sz:=Nat.mul_le_mul_left _ Bb
   simp only[maxLen];omega
  have ba:(execOp a.eval o).run P w=.ok (.value (.slice (some ⟨w.heap.size,0,none⟩) n n)) (w.alloc (.cells r' e')):=by
   have hif:¬(n*sz>2^24):=by omega
   have hns:¬(n*sz=0∧n≠0):=by
    rintro⟨h1,h2⟩
    rcases Nat.mul_eq_zero.1 h1 with h|h<;>omega
   simp only[execOp,ho,Sem.run_bind,Instr.buildSlice,run_underlying hu,Result.andThen_ok,jy hn,hif,if_false]
   by_cases h0:n*sz=0
   ·have tV:(Array.range (n*sz)).map (fun x=>(#[]:Array Value)[x % (#[]:Array Value).size]!)=(Array.range (n*sz)).map (zv.cells[· % zv.cells.size]!):=by rw[h0];simp
    simp only[if_pos h0,Sem.run_bind,Sem.run_pure,Result.andThen_ok]
    rw[tV,CO,f1]
    simp[newRow]
   ·simp only[if_neg h0,Sem.run_bind,Sem.run_pure,Result.andThen_ok,kC]
    rw[CO,f1]
    simp[newRow]
  refine⟨r',e',sz,bj (br b z) l n 0,hk,by rw[CY];exact ba,by rw[CY];exact Si,by rw[CY];exact lF,gF,fun i x j c hx hc=>?_⟩
  obtain⟨hi,rfl⟩:=jt i x hx
  have hj:j<sz:=by
   have h1:=(gF _ (List.mem_of_getElem? hx)).1
   have h2:=(List.getElem?_eq_some_iff.1 hc).1
   omega
  have aF:i*sz+j<n*sz:=by
   have:(i+1)*sz≤n*sz:=Nat.mul_le_mul_right _ hi
   rw[Nat.succ_mul]at this;omega
  have hq:=q3 i j hi hj
  have hcr:r[i*sz+j]? =some c:=by
   rw[hq]
   cases DF:pP i l with
   |some y=>rw[DF]at hc;exact hc
   |none=>
    rw[DF]at hc
    simp only at hc
    rw[S6]at hc
    simp only
    rw[List.getElem?_map,List.getElem?_range aF]
    have yS:(i*sz+j) % sz=j:=by rw[Nat.add_comm,Nat.add_mul_mod_self_right,Nat.mod_eq_of_lt hj]
    simp only[Option.map_some,yS,List.getD_eq_getElem?_getD,hc,Option.getD_some]
  have Ba:i*sz+j<r'.size:=by rw[Si];exact aF
  refine⟨Ba,f2.2 (i*sz+j) c _ hcr ?_⟩
  simp[Ba]
theorem Va(hI:Inv gl w0 ao e a w g){o:Oper}{t:TypeId}{n:Nat}{ps:Array (Nat×Operand)}(ho:o.op=.buildSlice t n ps){k:Slot→List af→Prop}
  (h:ab (nI P t) fun e'=>ab (kp P e') fun ly=>ab (nD P e') fun z=>ab (nO (fun x=>(Ab.aV gl e x).aa) ps.toList) fun l=>
    bif Nat.ble (n*ly.2) (2^24)&&Nat.blt 0 ly.2&&Nat.beq z.length ly.2 then(bf ly.2 n l=true∧k (.v (.full ly.2 (bj (br ly.1 z) l n 0))) e.boxes)else False):
  bp P gl w0 ao e.ai o a w k:=by
 obtain⟨r',e',sz,L,hk,ba,aM,lF,gF,bc⟩:=Nd hI ho (K:=fun sz L=>k (.v (.full sz L)) e.boxes) h
 refine bp.ZZ hI (cells:=r') (t:=e') ba (fun g' aS hX=>?_) hk
 refine .full (w:=w.alloc (.cells r' e')) (St:=g'.St) (base:=w0.heap.size) (fun _ _ _=>False) sz L ⟨w.heap.size,0,none⟩ ?_
 refine aY.sl (w:=w.alloc (.cells r' e')) (St:=g'.St) sz L w.heap.size 0 L.length (fun o=>r'.getD o undef) (Nat.le_refl _) lF (fun x hx=>(gF x hx).1) (fun x hx=>(gF x hx).2)
  (fun o' bO=>⟨by
    rw[cell_of_row _ w.heap.size (0+o') r' e' (0,0) (wj w _)]
    simp[aM,bO],aS _⟩) (fun i x j c hx hc=>hX.A9 (bc i x j c hx hc).2)
theorem bp.Qo(hI:Inv gl w0 ao e a w g){o:Oper}{cells:Array Value}{t:TypeId}{sz:Nat}{L:List D}{k:Slot→List af→Prop}
  (ba:(execOp a.eval o).run P w=.ok (.value (.slice (some ⟨w.heap.size,0,none⟩) L.length L.length)) (w.alloc (.cells cells t)))
  (aM:cells.size=L.length*sz)(lF:L.length≤maxLen)(gF:∀x∈L,x.cells.length=sz∧∀c∈x.cells,c.one=true)
  (rep:∀(i:Nat)x(j:Nat)c,L[i]? =some x→x.cells[j]? =some c→i*sz+j<cells.size∧aY w g.St c (cells.getD (i*sz+j) undef))
  (hk:k (.v (.bt sz L)) e.boxes):bp P gl w0 ao e.ai o a w k:=by
 intro next Q hn
 unfold Oper.wp
 rw[ba]
 have hle:w0.heap.size≤w.heap.size:=hI.below.size
 let g':Gh:={g with ow:=fun b=>if b=w.heap.size then o.dst.map (fun d=>.s d 0)else g.ow b}
 have hX:Ext w0.heap.size w g (w.alloc (.cells cells t)) g' (fun _=>False):=by
  refine⟨fun D ob hb ho h=>⟨(jc w _ D (fJ h)).trans h,hb,(by
   show(if D=w.heap.size then o.dst.map (fun d=>Pos.s d 0)else g.ow D)=none
   rw[if_neg (by have:=fJ h;omega)];exact ho),fun _ h=>h⟩,fun b o h=>⟨h,.qV (jc w _ b (hI.pd h))⟩,fun b o h=>Hx w _ b o (by omega),fun i aj h=>h,fun p b a c _ ho=>?_,.of fun b hb=>jc w _ b hb⟩
  have aF:=ho.lt
  obtain⟨h1,h2,h3,⟨cur,ty,h4,kZ⟩,h5⟩:=ho
  refine⟨⟨?_,h2,h3,⟨cur,ty,(jc w _ b aF).trans h4,kZ⟩,h5⟩,fun _=>jc w _ b aF⟩
  show(if b=w.heap.size then o.dst.map (fun d=>Pos.s d 0)else g.ow b)=some p
  rw[if_neg (by omega)];exact h1
 refine hn (.v (.bt sz L)) _ _ _ g' (hI.FR (g':=g')
  ⟨hX.df,hX.st,hX.bs,hX.bx,fun p b a c _ ho=>hX.own p b a c (fun h=>h) ho,hX.sh⟩ ((Below.refl _ _).alloc (Nat.le_refl _) _) (fun d hd=>?_) rfl (fun b o h=>.inl h)) hk
 refine .v _ _ _ (.bt (w:=w.alloc (.cells cells t)) _ sz L w.heap.size L.length (fun o=>cells.getD o undef) (Nat.le_refl _) lF (fun x hx=>(gF x hx).1) (fun x hx=>(gF x hx).2) ?_ (fun o' bO=>?_)
  (fun i x j c hx hc=>hX.A9 (rep i x j c hx hc).2))
 ·refine⟨?_,hle,fun hm=>by have:=(hI.dn _ hm).2;omega,⟨cells,t,wj w _,aM⟩,fun o' _ aS=>by have:=hI.pd aS;omega⟩
  show(if w.heap.size=w.heap.size then o.dst.map (fun d=>Pos.s d 0)else g.ow w.heap.size)=some (.s d 0)
  rw[if_pos rfl,hd];rfl
 ·have:=cell_of_row (w.alloc (.cells cells t)) w.heap.size o' cells t (0,0) (wj w _)
  rw[this]
  simp[aM,bO]
end
end Go.Proofs.Ytimbllcalipehaa.Ab
