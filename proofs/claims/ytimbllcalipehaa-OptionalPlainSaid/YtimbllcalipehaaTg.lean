/-
  CONFLICTS: laws on values.
-/
import Derived.Test.YtimbllcalipehaaTf
import Derived.Test.YtimbllcalipehaaTe
import Derived.Test.YtimbllcalipehaaTd
set_option linter.unusedVariables false
set_option linter.unusedSimpArgs false
namespace Go.Proofs.Ytimbllcalipehaa.Ab
open Go
theorem sT:(∀p:Prop,(True∧p)=p)∧(∀{α β:Type}(f:α→β)(a:α)(l:List α),List.map f (a::l)=f a::List.map f l)∧(∀{α β:Type}(f:α→β),List.map f []=[])∧(∀(vs:List SV)(i:Nat),ae vs i=vs.getD i .undef)∧(∀(bs:List (List SV))(i:Nat),az bs i=bs.getD i [])∧
  (∀{α:Type}(a:α)(l:List α)(d:α),List.getD (a::l) 0 d=a)∧(∀{α:Type}(a:α)(l:List α)(d:α)(n:Nat),List.getD (a::l) (n+1) d=List.getD l n d)∧(∀cs:List SV,af.aJ (.cells cs)=cs)∧(∀l:List (MK×D),af.aJ (.map l)=[.mp l])∧(∀n:Int,dI n=.int .i64 n)∧(∀n:Nat,(n≤n)=True):=by
 refine⟨fun p=>true_and p,fun f a l=>rfl,fun f=>rfl,fun vs i=>rfl,fun bs i=>rfl,fun a l d=>rfl,fun a l d n=>rfl,fun cs=>rfl,fun l=>rfl,fun n=>rfl,fun n=>by simp⟩
theorem abF(a0 a1 a2 a3 a4 a5 a6 a7 a8 a9:SV)(op a rel b:Int)(nm:D)(w:Nat→BitVec 64)(kd:D):setAt [a0,a1,a2,a3,a4,a5,a6,a7,a8,a9] 0 (gB op a rel b nm w kd)=gB op a rel b nm w kd:=rfl
theorem gC.load{k:Xp}{y:D}(h:gC k y):aM true 10 (.aS y 0)=some (.d y):=by
 obtain⟨nm,kd,L,rfl,_⟩:=h.inv
 exact zk _ 10 rfl
theorem gC.cells{k:Xp}{y:D}(h:gC k y):∃cs,ay (.d y)=some cs∧cs.length=10∧ag true 10 0 cs=some (.d y)∧∀a0 a1 a2 a3 a4 a5 a6 a7 a8 a9:SV,setAt [a0,a1,a2,a3,a4,a5,a6,a7,a8,a9] 0 cs=cs:=by
 obtain⟨nm,kd,L,rfl,_⟩:=h.inv
 exact⟨_,Bk _ _ _ _ _ _ _,rfl,rfl,fun a0 a1 a2 a3 a4 a5 a6 a7 a8 a9=>abF a0 a1 a2 a3 a4 a5 a6 a7 a8 a9 _ _ _ _ _ _ _⟩
end Go.Proofs.Ytimbllcalipehaa.Ab
namespace Go.Proofs.Ytimbllcalipehaa.Ab
open Go
end Go.Proofs.Ytimbllcalipehaa.Ab
namespace Go.Proofs.Ytimbllcalipehaa.Ab
open Go
end Go.Proofs.Ytimbllcalipehaa.Ab
namespace Go.Proofs.Ytimbllcalipehaa.Ab
open Go
end Go.Proofs.Ytimbllcalipehaa.Ab
namespace Go.Proofs.Ytimbllcalipehaa.Ab
open Go
end Go.Proofs.Ytimbllcalipehaa.Ab
namespace Go.Proofs.Ytimbllcalipehaa.Ab
open Go
end Go.Proofs.Ytimbllcalipehaa.Ab
namespace Go.Proofs.Ytimbllcalipehaa.Ab
open Go
end Go.Proofs.Ytimbllcalipehaa.Ab
namespace Go.Proofs.Ytimbllcalipehaa.Ab
open Go
end Go.Proofs.Ytimbllcalipehaa.Ab
namespace Go.Proofs.Ytimbllcalipehaa.Ab
open Go
end Go.Proofs.Ytimbllcalipehaa.Ab
namespace Go.Proofs.Ytimbllcalipehaa.Ab
open Go
end Go.Proofs.Ytimbllcalipehaa.Ab
namespace Go.Proofs.Ytimbllcalipehaa.Ab
open Go
end Go.Proofs.Ytimbllcalipehaa.Ab
namespace Go.Proofs.Ytimbllcalipehaa.Ab
open Go
theorem PN(b:Bool):aR [(0,.v (.d (.bool b)))]=some [(0,.bool b)]:=rfl
theorem oH(b:Bool):bq 1 1 [(0,.bool b)]=true:=rfl
theorem mH(x:D):bF (.d x)=some x:=rfl
theorem w6(l:List (MK×D)):mapOf [.mp l]=l:=rfl
theorem Ea(b:Bool):ay (.d (.bool b))=some [.d (.bool b)]:=rfl
end Go.Proofs.Ytimbllcalipehaa.Ab
namespace Go.Proofs.Ytimbllcalipehaa.Ab
open Go
end Go.Proofs.Ytimbllcalipehaa.Ab
namespace Go.Proofs.Ytimbllcalipehaa.Ab
open Go
theorem abG(l:List (MK×D)):aa (.mp l)=.mp l:=rfl
end Go.Proofs.Ytimbllcalipehaa.Ab
namespace Go.Proofs.Ytimbllcalipehaa.Ab
open Go
theorem DK(L:List D)(sz:Nat):elems sz (.d (bB sz L))=some L:=by
 cases L with
 |nil=>simp[bB,elems]
 |cons a L=>simp[bB,elems]
end Go.Proofs.Ytimbllcalipehaa.Ab
namespace Go.Proofs.Ytimbllcalipehaa.Ab
open Go
end Go.Proofs.Ytimbllcalipehaa.Ab
namespace Go.Proofs.Ytimbllcalipehaa.Ab
open Go
def vC(out:List (List UInt8))(s:List UInt8):List (List UInt8):=if mP s out then out else out++[s]
def dedup(l:List (List UInt8)):List (List UInt8):=l.foldl vC []
theorem V7{l:List (List UInt8)}{i:Nat}{s:List UInt8}(h:l[i]? =some s):dedup (l.take (i+1))=vC (dedup (l.take i)) s:=by
 rw[eH h,dedup,List.foldl_append];rfl
theorem Xa(out:List (List UInt8))(s:List UInt8):(vC out s).length ≤out.length+1:=by
 unfold vC;split
 ·omega
 ·simp
theorem Hz:∀(l out:List (List UInt8)),(l.foldl vC out).length ≤out.length+l.length
 |[],out=>by simp
 |s::l,out=>by
  have h1:=Hz l (vC out s)
  have h2:=Xa out s
  simp only[List.foldl_cons,List.length_cons]
  omega
theorem Yk(l:List (List UInt8))(i:Nat):(dedup (l.take i)).length ≤i:=by
 have:=Hz (l.take i) []
 simp only[List.length_nil,Nat.zero_add,List.length_take]at this
 unfold dedup
 omega
def Et(k:Int):Int:=if k==3 then 2 else if k==0 then 2 else k
theorem Dn(k:Int):aB Try.prog gl 84 [.d (.int .i64 k)] (.d (.int .i64 (Et k))):=by
 refine bZ bl (bG (fn:=Try.f84) (by kernel_rfl) (by kernel_rfl) (by kernel_rfl)) (h:=Tx) ?_;rw[abc];intro ba
 simp only[sS,sT,sZ,Et]
 refine And.intro (fun h=>?_) (fun h=>?_)
 ·simp[h]
 ·refine And.intro (fun h2=>?_) (fun h2=>?_)
  ·simp[h,h2]
  ·simp[h,h2]
def RK:List UInt8:=[111,98,106,101,99,116,95,114]
def Cm(k:Int)(s:List UInt8):Bool:=k==4&&s==RK
theorem GL(k:Int)(s:List UInt8):aB Try.prog gl 69 [.d (.int .i64 k),.d (.str s)] (.d (.bool (Cm k s))):=by
 refine bZ bl (bG (fn:=Try.f69) (by kernel_rfl) (by kernel_rfl) (by kernel_rfl)) (h:=Ta) ?_;rw[aaW];intro ba
 simp only[sS,sT,sZ,Cm,Ik]
 refine And.intro (fun h=>?_) (fun h=>?_)
 ·simp[h,RK]
 ·simp[h]
theorem y9{α:Type}{p:α→Bool}{l:List α}{k:Nat}(h:first p l=some k):∃x,l[k]? =some x∧p x=true:=by
 obtain⟨x,h1,h2,_⟩:=Hh h
 exact⟨x,h1,h2⟩
theorem w7{α:Type}{p:α→Bool}:∀{l:List α},first p l=none→∀(j:Nat)y,l[j]? =some y→p y=false
 |[],_,j,y,h=>by simp at h
 |x::l,h,j,y,hy=>by
  unfold first at h
  split at h
  ·cases h
  ·rename_i hx
   cases j with
   |zero=>simp at hy;subst hy;simpa using hx
   |succ j=>
    refine w7 (l:=l) ?_ j y (by simpa using hy)
    cases hf:first p l with
    |none=>rfl
    |some k=>rw[hf]at h;cases h
set_option maxRecDepth 4000 in
theorem Ve(l:List (List UInt8)){x:D}(hx:aE 1 (bU l) x)(hl:l.length≤maxLen)(s:List UInt8):aB Try.prog gl 96 [.d x,.d (.str s)] (.d (.int .i64 (orM (first (fun t=>s==t) l)))):=by
 refine bZ bl (bG (fn:=Try.f96) (by kernel_rfl) (by kernel_rfl) (by kernel_rfl)) (h:=Tn) ?_;rw[aa5];intro ba
 simp only[sS,sT,sZ,hx.len,jn]
 refine nh (fun i=>∀(j:Nat)k,j<i→l[j]? =some k→(s==k)=false) (fun i=>[.d x,.d (.str s),.d (.int .i64 (l.length:Int)),.d (.int .i64 ((i:Nat):Int))]) (fun i=>[]) l.length (fun j k hj _=>by omega) (fun i hi hJ I hI=>?_) (fun hJ I=>?_)
 ·simp only[sS,sT,sZ]
  refine And.intro (fun _=>?_) (fun h=>absurd h (by simp;omega))
  obtain⟨t,ht⟩:=get_some hi
  have wq:(bU l)[i]? =some (.str t):=by rw[bU,List.getElem?_map,ht];rfl
  simp only[hx.at wq,sS,sT,sZ,sW,Nat.zero_add,Ik,Bj]
  refine And.intro (fun h=>?_) (fun h=>?_)
  ·rw[w5 ht (by simpa using h) hJ];rfl
  ·refine bC (bK hi hl) ?_
   refine hI fun j k' hj bI=>?_
   rcases Nat.lt_or_ge j i with h2|h2
   ·exact hJ j k' h2 bI
   ·have:j=i:=by omega
    subst this
    rw[ht]at bI
    cases bI
    simpa using h
 ·simp only[sS,sT,sZ]
  refine And.intro (fun h=>absurd h (by simp)) (fun _=>?_)
  rw[wT fun j k bI=>hJ j k (List.getElem?_eq_some_iff.1 bI).1 bI]
  rfl
theorem Xb(s:List UInt8)(l:List (List UInt8)):(first (fun t=>s==t) l).isSome =mP s l:=by
 cases hf:first (fun t=>s==t) l with
 |some i=>
  obtain⟨t,h1,h2⟩:=y9 hf
  have e:s=t:=by simpa using h2
  rw[Yh h1 (by rw[e];simp)];rfl
 |none=>
  rw[W8 fun i t ht=>?_];rfl
  cases hs:(t==s)with
  |false=>rfl
  |true=>
   exfalso
   have h3:=w7 hf i t ht
   have e:t=s:=by simpa using hs
   rw[e]at h3
   simp at h3
theorem MA(l:List (List UInt8)){x:D}(hx:aE 1 (bU l) x)(hl:l.length≤maxLen)(s:List UInt8):aB Try.prog gl 85 [.d x,.d (.str s)] (.d (.bool (mP s l))):=by
 refine bZ bl (bG (fn:=Try.f85) (by kernel_rfl) (by kernel_rfl) (by kernel_rfl)) (h:=Ti) ?_;rw[aa0];intro ba
 simp only[sS,sT,sZ]
 refine eO (Ve l hx hl s) ?_
 simp only[sS,sT,sZ,vi,Xb]
theorem Oo(l:List (List UInt8))(s:List UInt8):bU l++[.str s]=bU (l++[s]):=by simp[bU]
theorem GI(l:List (List UInt8)){x:D}(hx:aE 1 (bU l) x)(hl:l.length≤2^40):aB Try.prog gl 70 [.d x] (bS 1 (bU (dedup l))):=by
 refine bZ bl (bG (fn:=Try.f70) (by kernel_rfl) (by kernel_rfl) (by kernel_rfl)) (h:=Tv) ?_;rw[aba];intro ba
 have TE:l.length≤maxLen:=Nat.le_trans hl (by decide)
 simp only[sS,sT,sZ,hx.len,jn]
 refine gS (fun i=>[bS 1 (bU (dedup (l.take i))),.d x,.d (.int .i64 (l.length:Int)),.d (.int .i64 ((i:Nat):Int))]) (fun i=>[]) l.length (fun i hi I hI=>?_) (fun I=>?_)
 ·simp only[sS,sT,sZ]
  refine And.intro (fun _=>?_) (fun h=>absurd h (by simp;omega))
  obtain⟨t,ht⟩:=get_some hi
  have Sv:=Yk l i
  have hd:=V7 ht
  simp only[hx.at (zu ht),sS,sT,sZ,Bj,fh]
  refine eO (MA (dedup (l.take i)) (eQ 1 _) (by omega) t) ?_
  simp only[sS,sT,sZ,kb]
  refine And.intro (fun h=>?_) (fun h=>?_)
  ·simp only[sS,sT,sZ,O4,Qv,O5]
   refine iV (u1 1 _) (by rw[jn];simp only[List.length_singleton];omega) ?_
   refine bC (bK hi TE) ?_
   rw[Oo]
   rw[hd,vC,if_neg (by simpa using h)]at hI
   exact hI
  ·refine bC (bK hi TE) ?_
   rw[hd,vC,if_pos (by simpa using h)]at hI
   exact hI
 ·simp only[sS,sT,sZ]
  refine And.intro (fun h=>absurd h (by simp)) (fun _=>?_)
  simp only[nf,true_and]
  rw[List.take_of_length_le (Nat.le_refl _)]
theorem nil_eq(k:SK)(sz:Nat)(L:List D):ah (some (false,[])) .eql (.d (.sl k sz L)) (.d (.sl .nil 0 []))=some (.d (.bool (decide (k=SK.nil)))):=rfl
theorem Vf(L:List D)(hl:L.length≤2^40):aB Try.prog gl 71 [.d (bB 1 L)] (bS 1 L):=by
 refine bZ bl (bG (fn:=Try.f71) (by kernel_rfl) (by kernel_rfl) (by kernel_rfl)) (h:=AE) ?_;rw[BM];intro ba
 cases L with
 |nil=>
  simp only[sS,sT,sZ,bB,nil_eq,bS]
  refine And.intro (fun _=>?_) (fun h=>absurd h (by simp))
  trivial
 |cons a L=>
  simp only[sS,sT,sZ,bB,nil_eq,bS]
  refine And.intro (fun h=>absurd h (by simp)) (fun _=>?_)
  refine⟨rfl,Bl (sz:=1) (cL:=16) (L:=[]) (M:=a::L) (by simp[elems]) (by simp only[List.length_nil,Nat.zero_add];omega) ?_⟩
  simp[gH,SV.ar]
structure au where
 kind:Int
 name:List UInt8
 eN:Bool
 perms:List (List UInt8)
 line:Int
 fY:Int
 deriving DecidableEq
def au.enc(s:au):D:=.agg [.int .i64 s.kind,.str s.name,.bool s.eN,bB 1 (bU s.perms),.int .i64 s.line,.int .i64 s.fY]
def au.cells(s:au):List SV:=[.d (.int .i64 s.kind),.d (.str s.name),.d (.bool s.eN),.d (bB 1 (bU s.perms)),.d (.int .i64 s.line),.d (.int .i64 s.fY)]
theorem ZP(sz:Nat)(L:List D):(bB sz L).cells =[bB sz L]:=by cases L<;>rfl
theorem kK(s:au):ay (.d s.enc)=some s.cells:=rfl
theorem jK(s:au):s.cells.length=6:=rfl
theorem lA(s:au):ag true 6 0 s.cells=some (.d s.enc):=rfl
theorem u9(s:au):ag false 1 0 s.cells=some (.d (.int .i64 s.kind)):=rfl
theorem sM(s:au):ag false 1 1 s.cells=some (.d (.str s.name)):=rfl
theorem sN(s:au):ag false 1 2 s.cells=some (.d (.bool s.eN)):=rfl
theorem HW(s:au):ag false 1 3 s.cells=some (.d (bB 1 (bU s.perms))):=rfl
theorem Yl(s:au):ag true 2 4 s.cells=some (.d (.agg [.int .i64 s.line,.int .i64 s.fY])):=rfl
theorem vj(s:au):aM true 6 (.aS s.enc 0)=some (.d s.enc):=rfl
theorem mD(a b c d e f:SV)(s:au):setAt [a,b,c,d,e,f] 0 s.cells=s.cells:=rfl
def bg(l:List au):List D:=l.map au.enc
theorem gr(l:List au):(bg l).length =l.length:=List.length_map ..
theorem tg{l:List au}{i:Nat}{s:au}(h:l[i]? =some s):(bg l)[i]? =some s.enc:=by simp[bg,h]
structure jk where
 kind:Int
 op:Int
 line:Int
 fY:Int
 name:List UInt8
 list:List (List UInt8)
 hY:List (List UInt8)
def jG(s:jk)(r5 r6 aY al:D)(rest:List D):List D:=.int .i64 s.kind::.int .i64 s.op::.int .i64 s.line::.int .i64 s.fY::.str s.name::r5::r6::aY::al::rest
def j4(s:jk)(r5 r6 aY al:D)(rest:List D):List SV:=.d (.int .i64 s.kind)::.d (.int .i64 s.op)::.d (.int .i64 s.line)::.d (.int .i64 s.fY)::.d (.str s.name)::.d r5::.d r6::.d aY::.d al::rest.map .d
inductive tS(s:jk):D→Prop
 |mk (r5 r6 aY al:D) (rest:List D) (h:rest.length=46) (hl:aE 1 (bU s.list) aY) (ha:aE 1 (bU s.hY) al):tS s (.agg (jG s r5 r6 aY al rest))
section
variable(s:jk)(r5 r6 aY al:D)(rest:List D)
theorem va:ay (.d (.agg (jG s r5 r6 aY al rest)))=some (j4 s r5 r6 aY al rest):=rfl
theorem oC:(j4 s r5 r6 aY al rest).length =rest.length+9:=by simp[j4]
theorem w8:ag false 1 0 (j4 s r5 r6 aY al rest)=some (.d (.int .i64 s.kind)):=rfl
theorem zl:ag false 1 1 (j4 s r5 r6 aY al rest)=some (.d (.int .i64 s.op)):=rfl
theorem zm:ag false 1 4 (j4 s r5 r6 aY al rest)=some (.d (.str s.name)):=rfl
theorem zn:ag false 1 7 (j4 s r5 r6 aY al rest)=some (.d aY):=rfl
theorem zo:ag false 1 8 (j4 s r5 r6 aY al rest)=some (.d al):=rfl
theorem zp:ag true 2 2 (j4 s r5 r6 aY al rest)=some (.d (.agg [.int .i64 s.line,.int .i64 s.fY])):=by
 unfold ag
 simp only[cond_true]
 rw[if_pos (by rw[oC];omega)]
 rfl
theorem Eu:∀(l:List D),cW (l.map SV.d)=some l
 |[]=>rfl
 |x::l=>by simp[cW,bF,Eu l]
theorem HX(h:rest.length=46):ag true 55 0 (j4 s r5 r6 aY al rest)=some (.d (.agg (jG s r5 r6 aY al rest))):=by
 unfold ag
 simp only[cond_true]
 rw[if_pos (by rw[oC];omega)]
 have h1:j4 s r5 r6 aY al rest=(jG s r5 r6 aY al rest).map SV.d:=rfl
 rw[List.drop_zero,List.take_of_length_le (by rw[oC];omega),h1,Eu]
end
theorem tS.load{s:jk}{x:D}(h:tS s x):aM true 55 (.aS x 0)=some (.d x):=by
 cases h with
 |mk r5 r6 aY al rest h hl ha=>exact zk _ 55 (by simp[jG,h])
def pL(k:Int):Int:=if k==1 then 1 else if k==2 then 2 else if k==3 then 3 else if k==5 then 4 else if k==8 then 5 else if k==9 then 6 else if k==10 then 7 else if k==11 then 8 else 0
theorem Um{s:jk}{x:D}(hs:tS s x):aB Try.prog gl 95 [.d x] (.d (.int .i64 (pL s.kind))):=by
 cases hs with
 |mk r5 r6 aY al rest h hl ha=>
  refine bZ bl (bG (fn:=Try.f95) (by kernel_rfl) (by kernel_rfl) (by kernel_rfl)) (h:=Ty) ?_;rw[abd];intro ba
  simp only[sS,sT,sZ,va,oC,h,w8]
  unfold pL
  refine And.intro (fun h=>by rw[if_pos h]) (fun h=>?_)
  rw[if_neg (by rw[h];simp)]
  refine And.intro (fun h=>by rw[if_pos h]) (fun h=>?_)
  rw[if_neg (by rw[h];simp)]
  refine And.intro (fun h=>by rw[if_pos h]) (fun h=>?_)
  rw[if_neg (by rw[h];simp)]
  refine And.intro (fun h=>by rw[if_pos h]) (fun h=>?_)
  rw[if_neg (by rw[h];simp)]
  refine And.intro (fun h=>by rw[if_pos h]) (fun h=>?_)
  rw[if_neg (by rw[h];simp)]
  refine And.intro (fun h=>by rw[if_pos h]) (fun h=>?_)
  rw[if_neg (by rw[h];simp)]
  refine And.intro (fun h=>by rw[if_pos h]) (fun h=>?_)
  rw[if_neg (by rw[h];simp)]
  refine And.intro (fun h=>by rw[if_pos h]) (fun h=>?_)
  rw[if_neg (by rw[h];simp)]
end Go.Proofs.Ytimbllcalipehaa.Ab
namespace Go.Proofs.Ytimbllcalipehaa.Ab
open Go
theorem dD(x:D):aR [(0,.v (.d x))]=some [(0,x)]:=rfl
theorem w9(x y z:D)(i j k:Nat):aR [(i,.v (.d x)),(j,.v (.d y)),(k,.v (.d z))]=some [(i,x),(j,y),(k,z)]:=rfl
theorem xa(x y z u:D)(i j k l:Nat):aR [(i,.v (.d x)),(j,.v (.d y)),(k,.v (.d z)),(l,.v (.d u))]=some [(i,x),(j,y),(k,z),(l,u)]:=rfl
theorem zq(x y z u v:D)(i j k l m:Nat):aR [(i,.v (.d x)),(j,.v (.d y)),(k,.v (.d z)),(l,.v (.d u)),(m,.v (.d v))]=some [(i,x),(j,y),(k,z),(l,u),(m,v)]:=rfl
theorem lq(z x:D):bu z [(0,x)] 1 0=[x]:=rfl
theorem nq(s:au):bq 6 1 [(0,s.enc)]=true:=rfl
theorem za(k:Int)(n:List UInt8)(l c:Int):cY Try.prog 87 [(0,.int .i64 k),(1,.str n),(4,.agg [.int .i64 l,.int .i64 c])]=some (au.enc ⟨k,n,false,[],l,c⟩):=by kernel_rfl
theorem zb(k:Int)(n:List UInt8)(l c:Int):cY Try.prog 87 [(0,.int .i64 k),(1,.str n),(2,.bool true),(4,.agg [.int .i64 l,.int .i64 c])]=some (au.enc ⟨k,n,true,[],l,c⟩):=by kernel_rfl
theorem u5(sz:Nat)(L:List D):ay (.d (bB sz L))=some [.d (bB sz L)]:=by cases L<;>rfl
theorem qK(x:SV):[x].length =1:=rfl
theorem Ym(k:Int)(n:List UInt8)(p:D)(hp:p.cells=[p])(l c:Int):re (fun i=>[(0,1),(1,1),(2,1),(3,1),(4,2)][i]?) [.int .i64 0,.str [],.bool false,.sl .nil 0 [],.int .i64 0,.int .i64 0] [(0,.int .i64 k),(1,.str n),(2,.bool true),(3,p),(4,.agg [.int .i64 l,.int .i64 c])]
  =some [.int .i64 k,.str n,.bool true,p,.int .i64 l,.int .i64 c]:=by
 have h1:∀(k:IntKind)(n:Int),(D.int k n).cells =[.int k n]:=fun _ _=>rfl
 have h2:∀(s:List UInt8),(D.str s).cells =[.str s]:=fun _=>rfl
 have h3:∀(b:Bool),(D.bool b).cells =[.bool b]:=fun _=>rfl
 have h4:∀(l:List D),(D.agg l).cells =l:=fun _=>rfl
 simp[re,h1,h2,h3,h4,hp]
theorem Xc(ps:List (Nat×D)):cY Try.prog 87 ps=(match re (fun i=>[(0,1),(1,1),(2,1),(3,1),(4,2)][i]?) [.int .i64 0,.str [],.bool false,.sl .nil 0 [],.int .i64 0,.int .i64 0] ps with|some cs=>some (.agg cs)|none=>none):=by kernel_rfl
theorem zc(k:Int)(n:List UInt8)(p:List (List UInt8))(l c:Int):cY Try.prog 87 [(0,.int .i64 k),(1,.str n),(2,.bool true),(3,bB 1 (bU p)),(4,.agg [.int .i64 l,.int .i64 c])]=some (au.enc ⟨k,n,true,p,l,c⟩):=by
 rw[Xc,Ym _ _ _ (ZP _ _)];rfl
theorem set_perm(k:Int)(n:List UInt8)(b:Bool)(l c:Int)(p:List (List UInt8)):setAt (au.cells ⟨k,n,b,[],l,c⟩) 3 [.d (bB 1 (bU p))]=au.cells ⟨k,n,b,p,l,c⟩:=rfl
def fl(s:jk):List au:=
 if pL s.kind != 0 then
  ⟨pL s.kind,s.name,false,if pL s.kind==1 then dedup s.list else [],s.line,s.fY⟩::(if pL s.kind==2 then s.hY.map fun a=>⟨pL s.kind,a,false,[],s.line,s.fY⟩else [])
 else if s.kind==19&&s.op==1 then [⟨s.op,s.name,true,dedup s.list,s.line,s.fY⟩]
 else if s.kind==19&&decide (s.op>1)&&decide (s.op≤8)then s.list.map fun a=>⟨s.op,a,true,[],s.line,s.fY⟩
 else []
theorem Bm(l:List au)(s:au):bg l++[s.enc]=bg (l++[s]):=by simp[bg]
theorem V8(sz:Nat)(L M:List D):(gH sz L M).ar =true:=by unfold gH;split<;>rfl
theorem V9(sz:Nat)(L M:List D):ri (gH sz L M)=false:=by unfold gH;split<;>rfl
theorem MI{α β:Type}(f:α→β){l:List α}{i:Nat}{x:α}(h:l[i]? =some x):(l.take (i+1)).map f=(l.take i).map f++[f x]:=by rw[eH h];simp
set_option maxRecDepth 4000 in
theorem Uq{s:jk}{x:D}(hs:tS s x)(hl:s.list.length≤2^30)(ha:s.hY.length≤2^30):∃r,(fF 6 (bg (fl s)) (aa r)∧ri r=false)∧aB Try.prog gl 83 [.d x] r:=by
 refine DB bl (bG (fn:=Try.f83) (by kernel_rfl) (by kernel_rfl) (by kernel_rfl)) ⟨bS 6 (bg (fl s)),by rw[fh];exact(eQ 6 _).sv,j6 _ _⟩ (h:=Tw) ?_
 rw[abb];intro ba
 have kA:=hs
 cases hs with
 |mk r5 r6 aY al rest h gK kC=>
  simp only[sS,sT,sZ,va,oC,w8,zl,zp,zm,zn,zo,dD,w9,xa,zq,lq,nq,za,zb,zc,u5,qK,set_perm,kK,jK,lA,mD,h,HX _ _ _ _ _ _ h]
  refine eO (Um kA) ?_
  simp only[sS,sT,sZ,va,oC,w8,zl,zp,zm,zn,zo,dD,w9,xa,zq,lq,nq,za,zb,zc,u5,qK,set_perm,kK,jK,lA,mD]
  unfold fl
  refine And.intro (fun hk=>?_) (fun hk=>?_)
  ·rw[if_pos (by simpa using hk)]
   refine And.intro (fun h1=>?_) (fun h1=>?_)
   ·have qd:pL s.kind=1:=by simpa using h1
    refine aZ (GI s.list gK (by omega)) (j6 _ _) ?_
    simp only[sS,sT,sZ,va,oC,w8,zl,zp,zm,zn,zo,dD,w9,xa,zq,lq,nq,za,zb,zc,u5,qK,set_perm,kK,jK,lA,mD,fh,qd]
    refine⟨by decide,?_⟩
    refine And.intro (fun h2=>absurd h2 (by decide)) (fun _=>?_)
    exact⟨rfl,.full,rfl⟩
   ·have qd:(pL s.kind==1)=false:=h1
    simp only[qd,Bool.false_eq_true,if_false]
    refine And.intro (fun h2=>?_) (fun h2=>?_)
    ·simp only[h2,if_true]
     simp only[kC.len,jn,sS,sT,sZ,W9]
     have nW:pL s.kind=2:=by simpa using h2
     rw[nW]
     refine gS (fun i=>[.d (.int .i64 2),gH 6 [au.enc ⟨2,s.name,false,[],s.line,s.fY⟩] (bg ((s.hY.take i).map fun a=>⟨2,a,false,[],s.line,s.fY⟩)),.d al,.d (.int .i64 (s.hY.length:Int)),.d (.int .i64 ((i:Nat):Int))])
      (fun i=>[j4 s r5 r6 aY al rest,au.cells ⟨2,s.name,false,[],s.line,s.fY⟩]) s.hY.length (fun i hi I hI=>?_) (fun I=>?_)
     ·simp only[sS,sT,sZ]
      refine And.intro (fun _=>?_) (fun h=>absurd h (by simp;omega))
      obtain⟨t,ht⟩:=get_some hi
      simp only[kC.at (zu ht),sS,sT,sZ,va,oC,w8,zl,zp,zm,zn,zo,dD,w9,xa,zq,lq,nq,za,zb,zc,u5,qK,set_perm,kK,jK,lA,mD,Bj]
      refine Yj (u1 6 _) (by simp only[gr,List.length_map,List.length_take,List.length_singleton];omega) ?_
      refine bC (bK hi (by simp only[maxLen];omega)) ?_
      rw[Bm,←MI (fun a=>(⟨2,a,false,[],s.line,s.fY⟩:au)) ht]
      exact hI
     ·simp only[sS,sT,sZ]
      refine And.intro (fun h=>absurd h (by simp)) (fun _=>?_)
      refine⟨V8 _ _ _,?_,V9 _ _ _⟩
      have:=ZI 6 [au.enc ⟨2,s.name,false,[],s.line,s.fY⟩] (bg ((s.hY.take s.hY.length).map fun a=>⟨2,a,false,[],s.line,s.fY⟩))
      rw[List.take_length]at this
      rw[List.take_length]
      exact this
    ·simp only[h2,Bool.false_eq_true,if_false]
     exact⟨rfl,.full,rfl⟩
  ·rw[if_neg (by simpa using hk)]
   have leaf:∀b:Bool,b=false→(if b=true then([⟨s.op,s.name,true,dedup s.list,s.line,s.fY⟩]:List au)else [])=[]:=fun b h=>by rw[h];rfl
   refine And.intro (fun h1=>?_) (fun h1=>?_)
   ·refine And.intro (fun h2=>?_) (fun h2=>?_)
    ·rw[if_pos (by rw[h1,h2];rfl)]
     refine aZ (GI s.list gK (by omega)) (j6 _ _) ?_
     simp only[sS,sT,sZ,va,oC,w8,zl,zp,zm,zn,zo,dD,w9,xa,zq,lq,nq,za,zb,zc,u5,qK,set_perm,kK,jK,lA,mD,fh]
     exact⟨rfl,.full,rfl⟩
    ·rw[if_neg (by rw[h2];simp)]
     simp only[h1,Bool.true_and]
     refine And.intro (fun _=>?_) (fun h=>absurd h (by simp))
     refine And.intro (fun h3=>?_) (fun h3=>?_)
     ·simp only[h3,Bool.true_and]
      refine And.intro (fun h4=>?_) (fun h4=>?_)
      ·rw[if_pos h4]
       simp only[gK.len,jn,sS,sT,sZ,Yi 6]
       refine gS (fun i=>[bS 6 (bg ((s.list.take i).map fun a=>⟨s.op,a,true,[],s.line,s.fY⟩)),.d aY,.d (.int .i64 (s.list.length:Int)),.d (.int .i64 ((i:Nat):Int))])
        (fun i=>[j4 s r5 r6 aY al rest]) s.list.length (fun i hi I hI=>?_) (fun I=>?_)
       ·simp only[sS,sT,sZ]
        refine And.intro (fun _=>?_) (fun h=>absurd h (by simp;omega))
        obtain⟨t,ht⟩:=get_some hi
        simp only[gK.at (zu ht),sS,sT,sZ,va,oC,w8,zl,zp,zm,zn,zo,dD,w9,xa,zq,lq,nq,za,zb,zc,u5,qK,set_perm,kK,jK,lA,mD,Bj]
        refine iV (u1 6 _) (by simp only[gr,List.length_map,List.length_take,List.length_singleton];omega) ?_
        refine bC (bK hi (by simp only[maxLen];omega)) ?_
        rw[Bm,←MI (fun a=>(⟨s.op,a,true,[],s.line,s.fY⟩:au)) ht]
        exact hI
       ·simp only[sS,sT,sZ]
        refine And.intro (fun h=>absurd h (by simp)) (fun _=>?_)
        refine⟨nf _ _,?_,j6 _ _⟩
        rw[List.take_length,fh]
        exact(eQ 6 _).sv
      ·rw[if_neg (by rw[h4];simp)]
       first|exact⟨rfl,.nil 0 rfl,rfl⟩|exact⟨.nil 0 rfl,rfl⟩
     ·simp only[h3,Bool.false_and,Bool.false_eq_true,if_false]
      first|exact⟨rfl,.nil 0 rfl,rfl⟩|exact⟨.nil 0 rfl,rfl⟩
   ·simp only[h1,Bool.false_and,Bool.false_eq_true,if_false]
    refine And.intro (fun h=>absurd h (by simp)) (fun _=>?_)
    first|exact⟨rfl,.nil 0 rfl,rfl⟩|exact⟨.nil 0 rfl,rfl⟩
def nr(x:au):Bool→List au→Int
 |tw,[]=>if tw then 12 else 0
 |tw,y::l=>if Et y.kind != Et x.kind then nr x tw l else if !(y.name==x.name)then nr x tw l else if y.kind != x.kind then 13 else nr x (tw||(!x.eN&& !y.eN)) l
def pC(l:List au)(x:au):Int:=nr x (!x.eN&&Cm x.kind x.name) l
theorem Bn{α:Type}{l:List α}{i:Nat}{x:α}(h:l[i]? =some x):l.drop i=x::l.drop (i+1):=by
 have hi:=(List.getElem?_eq_some_iff.1 h).1
 rw[List.drop_eq_getElem_cons hi,(List.getElem?_eq_some_iff.1 h).2]
set_option maxRecDepth 4000 in
theorem Vg(l:List au)(x:au){y:D}(hy:aE 6 (bg l) y)(hl:l.length≤maxLen):aB Try.prog gl 68 [.d y,.d x.enc] (.d (.int .i64 (pC l x))):=by
 refine bZ bl (bG (fn:=Try.f68) (by kernel_rfl) (by kernel_rfl) (by kernel_rfl)) (h:=Tu) ?_;rw[aa9];intro ba
 simp only[sS,sT,sZ,kK,jK,sN,kb,u9,sM]
 have loop:∀tw:Bool,nr x tw l=pC l x→∀{F:List SV→List (List SV)→(List SV→List (List SV)→Prop)→Prop},(∀i tw,i<l.length→nr x tw (l.drop i)=pC l x→∀I:List SV→List (List SV)→Prop,(∀TF,nr x TF (l.drop (i+1))=pC l x→I [.d (.bool TF),.d y,.d (.int .i64 (l.length:Int)),.d (.int .i64 ((i+1:Nat):Int))] [x.cells])→F [.d (.bool tw),.d y,.d (.int .i64 (l.length:Int)),.d (.int .i64 ((i:Nat):Int))] [x.cells] I)→
   (∀tw,nr x tw []=pC l x→∀I,F [.d (.bool tw),.d y,.d (.int .i64 (l.length:Int)),.d (.int .i64 (l.length:Int))] [x.cells] I)→cw F [.d (.bool tw),.d y,.d (.int .i64 (l.length:Int)),.d (.int .i64 0)] [x.cells]:=by
  intro tw LG F hs he
  exact sL (fun i tw=>nr x tw (l.drop i)=pC l x) (fun i tw=>[.d (.bool tw),.d y,.d (.int .i64 (l.length:Int)),.d (.int .i64 ((i:Nat):Int))]) (fun i _=>[x.cells]) l.length tw LG (fun i tw hi hJ I hI=>hs i tw hi hJ I hI) (fun tw hJ I=>he tw (by rw[List.drop_length]at hJ;exact hJ) I)
 refine And.intro (fun h1=>?_) (fun h1=>?_)
 ·refine eO (GL _ _) ?_
  simp only[sS,sT,sZ,hy.len,gr]
  refine loop _ (by rw[pC,h1,Bool.true_and]) (fun i tw hi hJ I hI=>?_) (fun tw hJ I=>?_)
  ·simp only[sS,sT,sZ]
   refine And.intro (fun _=>?_) (fun h=>absurd h (by simp;omega))
   obtain⟨z,hz⟩:=get_some hi
   rw[Bn hz,nr]at hJ
   simp only[hy.at (tg hz),sS,sT,sZ,vj,kK,jK,mD,u9,sM,sN,PJ,kb]
   refine eO (Dn _) ?_
   simp only[sS,sT,sZ]
   refine eO (Dn _) ?_
   simp only[sS,sT,sZ]
   refine And.intro (fun ha=>?_) (fun ha=>?_)
   ·rw[if_pos ha]at hJ
    refine bC (bK hi hl) ?_
    exact hI tw hJ
   ·rw[if_neg (by rw[ha];simp)]at hJ
    refine And.intro (fun hb=>?_) (fun hb=>?_)
    ·rw[if_pos hb]at hJ
     refine bC (bK hi hl) ?_
     exact hI tw hJ
    ·rw[if_neg (by rw[hb];simp)]at hJ
     refine And.intro (fun hc=>?_) (fun hc=>?_)
     ·rw[if_pos hc]at hJ
      rw[←hJ]
     ·rw[if_neg (by rw[hc];simp)]at hJ
      refine And.intro (fun ht=>?_) (fun ht=>?_)
      ·rw[ht,Bool.true_or]at hJ
       refine bC (bK hi hl) ?_
       exact hI true hJ
      ·rw[ht,Bool.false_or]at hJ
       refine And.intro (fun hx=>?_) (fun hx=>?_)
       ·rw[hx,Bool.true_and]at hJ
        refine bC (bK hi hl) ?_
        exact hI _ hJ
       ·rw[hx,Bool.false_and]at hJ
        refine bC (bK hi hl) ?_
        exact hI false hJ
  ·simp only[sS,sT,sZ]
   refine And.intro (fun h=>absurd h (by simp)) (fun _=>?_)
   rw[nr]at hJ
   refine And.intro (fun ht=>?_) (fun ht=>?_)
   ·rw[if_pos ht]at hJ
    rw[←hJ]
   ·rw[if_neg (by rw[ht];simp)]at hJ
    rw[←hJ]
 ·simp only[sS,sT,sZ,hy.len,gr]
  refine loop _ (by rw[pC,h1,Bool.false_and]) (fun i tw hi hJ I hI=>?_) (fun tw hJ I=>?_)
  ·simp only[sS,sT,sZ]
   refine And.intro (fun _=>?_) (fun h=>absurd h (by simp;omega))
   obtain⟨z,hz⟩:=get_some hi
   rw[Bn hz,nr]at hJ
   simp only[hy.at (tg hz),sS,sT,sZ,vj,kK,jK,mD,u9,sM,sN,PJ,kb]
   refine eO (Dn _) ?_
   simp only[sS,sT,sZ]
   refine eO (Dn _) ?_
   simp only[sS,sT,sZ]
   refine And.intro (fun ha=>?_) (fun ha=>?_)
   ·rw[if_pos ha]at hJ
    refine bC (bK hi hl) ?_
    exact hI tw hJ
   ·rw[if_neg (by rw[ha];simp)]at hJ
    refine And.intro (fun hb=>?_) (fun hb=>?_)
    ·rw[if_pos hb]at hJ
     refine bC (bK hi hl) ?_
     exact hI tw hJ
    ·rw[if_neg (by rw[hb];simp)]at hJ
     refine And.intro (fun hc=>?_) (fun hc=>?_)
     ·rw[if_pos hc]at hJ
      rw[←hJ]
     ·rw[if_neg (by rw[hc];simp)]at hJ
      refine And.intro (fun ht=>?_) (fun ht=>?_)
      ·rw[ht,Bool.true_or]at hJ
       refine bC (bK hi hl) ?_
       exact hI true hJ
      ·rw[ht,Bool.false_or]at hJ
       refine And.intro (fun hx=>?_) (fun hx=>?_)
       ·rw[hx,Bool.true_and]at hJ
        refine bC (bK hi hl) ?_
        exact hI _ hJ
       ·rw[hx,Bool.false_and]at hJ
        refine bC (bK hi hl) ?_
        exact hI false hJ
  ·simp only[sS,sT,sZ]
   refine And.intro (fun h=>absurd h (by simp)) (fun _=>?_)
   rw[nr]at hJ
   refine And.intro (fun ht=>?_) (fun ht=>?_)
   ·rw[if_pos ht]at hJ
    rw[←hJ]
   ·rw[if_neg (by rw[ht];simp)]at hJ
    rw[←hJ]
end Go.Proofs.Ytimbllcalipehaa.Ab
set_option maxRecDepth 100000
namespace Go.Proofs.Ytimbllcalipehaa.Ab
open Go
def gb:Hints:=⟨[],[],[]⟩
noncomputable def Aj:Code:=Go.Proofs.Try.f82.body.getD .skip
def sA:Code→Code| .seq a _=>a|c=>c
def sB:Code→Code| .seq _ b=>b|c=>c
def bk:Code→Code| .block _ b=>b| .loop b=>b|c=>c
def aez:Code→Array Oper| .region _ ops _=>ops|_=> #[]
def dfO:Oper:={dst:=none,op:=.move (.tmp 0),type:=0,pos:= "",after:= #[],guard:=none}
noncomputable def cO:Code:=bk (bk (sB Aj))
noncomputable def yF:Code:=bk (sA (sB (sB cO)))
noncomputable def cI:Code:=bk (bk (sB (sB yF)))
noncomputable def C4:Code:=bk (sA (sB (sB cI)))
noncomputable def oP:Array Oper:=aez (sA (sB C4))
noncomputable def o6(i:Nat):Oper:=oP.toList.getD i dfO
def AH(yl:Nat)(x:D)(xs:D)(m i:SV):List Slot:=[.v (.d (.fn (.yield yl))),.v (.aS x 0),.v .undef,.v .undef,.v .undef,.v .undef,.v .undef,.v (.d xs),.v m,.v i]++List.replicate 16 (.v .undef)
def shP(yl:Nat)(x:D)(xs:D)(m i u v:SV):List Slot:=[.v (.d (.fn (.yield yl))),.v (.aS x 0),.v .undef,.v .undef,.p 0 0,.v .undef,.v .undef,.v (.d xs),.v m,.v i,.v .undef,.v u,.v v]++List.replicate 13 (.v .undef)
def yG(yl:Nat)(x:D)(xs:D)(m i:SV)(ys:SV)(k j:SV):List Slot:=[.v (.d (.fn (.yield yl))),.v (.aS x 0),.v .undef,.v .undef,.v .undef,.v .undef,.v .undef,.v (.d xs),.v m,.v i,.v .undef,.v .undef,.v .undef,.v .undef,.v ys,.v k,.v j]++List.replicate 9 (.v .undef)
def F3(yl:Nat)(x:D)(xs:D)(m i:SV)(ys:SV)(k j u v t20 t21 t22:SV):List Slot:=[.v (.d (.fn (.yield yl))),.v (.aS x 0),.v .undef,.v .undef,.v .undef,.v .undef,.p 0 0,.v (.d xs),.v m,.v i,.v .undef,.v .undef,.v .undef,.v .undef,.v ys,.v k,.v j,.v .undef,.v u,.v v,.v t20,.v t21,.v t22,.v .undef,.v .undef,.v .undef]
set_option maxHeartbeats 1000000 in
theorem pi0(C:bj)(yl:Nat)(x:D)(Q:Ex→Env→Prop):aw Go.Proofs.Try.prog gl C gb (sA Aj) Q (enter 26 [.d (.fn (.yield yl)),.aS x 0])=(
 ab (aM false 1 (.aS x 0)) fun r0=>
 ab (bd (aa r0)) fun r1=>
 (Q Ex.normal (Env.mk [(.v (.d (.fn (.yield yl)))),(.v (.aS x 0)),(.v .undef),(.v .undef),(.v .undef),(.v .undef),(.v .undef),(.v r0),(.v r1),(.v (.d (.int .i64 0))),(.v .undef),(.v .undef),(.v .undef),(.v .undef),(.v .undef),(.v .undef),(.v .undef),(.v .undef),(.v .undef),(.v .undef),(.v .undef),(.v .undef),(.v .undef),(.v .undef),(.v .undef),(.v .undef)] []))):=by kernel_rfl
set_option maxHeartbeats 1000000 in
theorem pi1(C:bj)(yl:Nat)(x xs:D)(m i:SV)(Q:Ex→Env→Prop):aw Go.Proofs.Try.prog gl C gb (sA cO) Q ⟨AH yl x xs m i,[]⟩=(
 ab (ah none .lss (aa i) (aa m)) fun r0=>
 (Q Ex.normal (Env.mk [(.v (.d (.fn (.yield yl)))),(.v (.aS x 0)),(.v .undef),(.v .undef),(.v .undef),(.v .undef),(.v .undef),(.v (.d xs)),(.v m),(.v i),(.v r0),(.v .undef),(.v .undef),(.v .undef),(.v .undef),(.v .undef),(.v .undef),(.v .undef),(.v .undef),(.v .undef),(.v .undef),(.v .undef),(.v .undef),(.v .undef),(.v .undef),(.v .undef)] []))):=by kernel_rfl
set_option maxHeartbeats 1000000 in
theorem pi2(C:bj)(yl:Nat)(x xs:D)(m i:SV)(Q:Ex→Env→Prop):aw Go.Proofs.Try.prog gl C gb (sA yF) Q ⟨AH yl x xs m i,[]⟩=(
 ab (bc 55 (.d xs) (aa i)) fun r0=>
 ab (aM true 55 (aa r0)) fun r1=>
 ab (ay (aa r1)) fun r2=>
 (List.length r2)=55∧
 55≤55∧
 (Q Ex.normal (Env.mk [(.v (.d (.fn (.yield yl)))),(.v (.aS x 0)),(.v .undef),(.v .undef),(.p (0+0) 0),(.v .undef),(.v .undef),(.v (.d xs)),(.v m),(.v i),(.v .undef),(.v r0),(.v r1),(.v .undef),(.v .undef),(.v .undef),(.v .undef),(.v .undef),(.v .undef),(.v .undef),(.v .undef),(.v .undef),(.v .undef),(.v .undef),(.v .undef),(.v .undef)] [(af.cells (setAt [(.d (.int .i64 0)),(.d (.int .i64 0)),(.d (.int .i64 0)),(.d (.int .i64 0)),(.d (.str [])),(.d (.str [])),(.d (.str [])),(.d (.sl .nil 0 [])),(.d (.sl .nil 0 [])),(.d (.bool false)),(.d (.bool false)),(.d (.bool false)),(.d (.sl .nil 0 [])),(.d (.sl .nil 0 [])),(.d (.bool false)),(.d (.bool false)),(.d (.bool false)),(.d (.sl .nil 0 [])),(.d (.sl .nil 0 [])),(.d (.bool false)),(.d (.bool false)),(.d (.bool false)),(.d (.sl .nil 0 [])),(.d (.sl .nil 0 [])),(.d (.bool false)),(.d (.bool false)),(.d (.bool false)),(.d (.sl .nil 0 [])),(.d (.sl .nil 0 [])),(.d (.int .i64 0)),(.d (.int .i64 0)),(.d (.int .i64 0)),(.d (.int .i64 0)),(.d (.sl .nil 0 [])),(.d (.int .u64 0)),(.d (.int .u64 0)),(.d (.int .u64 0)),(.d (.int .u64 0)),(.d (.sl .nil 0 [])),(.d (.str [])),(.d (.sl .nil 0 [])),(.d (.str [])),(.d (.sl .nil 0 [])),(.d (.str [])),(.d (.sl .nil 0 [])),(.d (.str [])),(.d (.str [])),(.d (.str [])),(.d (.str [])),(.d (.sl .nil 0 [])),(.d (.str [])),(.d (.sl .nil 0 [])),(.d (.bool false)),(.d (.sl .nil 0 [])),(.d (.sl .nil 0 []))] 0 r2))]))):=by kernel_rfl
set_option maxHeartbeats 1000000 in
theorem pi3(C:bj)(yl:Nat)(x xs:D)(m i u v:SV)(cs:List SV)(Q:Ex→Env→Prop):aw Go.Proofs.Try.prog gl C gb (sA (sB yF)) Q ⟨shP yl x xs m i u v,[.cells cs]⟩=(
 ab (ag true 55 0 cs) fun r0=>
 aN C 83 [(aa (aa (aa r0)))] fun r1=>
 ab (bd (aa r1)) fun r2=>
 (Q Ex.normal (Env.mk [(.v (.d (.fn (.yield yl)))),(.v (.aS x 0)),(.v .undef),(.v .undef),(.p 0 0),(.v .undef),(.v .undef),(.v (.d xs)),(.v m),(.v i),(.v .undef),(.v u),(.v v),(.v (aa r0)),(.v r1),(.v r2),(.v (.d (.int .i64 0))),(.v .undef),(.v .undef),(.v .undef),(.v .undef),(.v .undef),(.v .undef),(.v .undef),(.v .undef),(.v .undef)] [(af.cells cs)]))):=by kernel_rfl
set_option maxHeartbeats 1000000 in
theorem pi4(C:bj)(yl:Nat)(x xs:D)(m i:SV)(ys:SV)(k j:SV)(Q:Ex→Env→Prop):aw Go.Proofs.Try.prog gl C gb (sA cI) Q ⟨yG yl x xs m i ys k j,[]⟩=(
 ab (ah none .lss (aa j) (aa k)) fun r0=>
 (Q Ex.normal (Env.mk [(.v (.d (.fn (.yield yl)))),(.v (.aS x 0)),(.v .undef),(.v .undef),(.v .undef),(.v .undef),(.v .undef),(.v (.d xs)),(.v m),(.v i),(.v .undef),(.v .undef),(.v .undef),(.v .undef),(.v ys),(.v k),(.v j),(.v r0),(.v .undef),(.v .undef),(.v .undef),(.v .undef),(.v .undef),(.v .undef),(.v .undef),(.v .undef)] []))):=by kernel_rfl
set_option maxHeartbeats 1000000 in
theorem pi5(C:bj)(yl:Nat)(x xs:D)(m i:SV)(ys:SV)(k j:SV)(Q:Ex→Env→Prop):aw Go.Proofs.Try.prog gl C gb (sA C4) Q ⟨yG yl x xs m i ys k j,[]⟩=(
 ab (bc 6 (aa ys) (aa j)) fun r0=>
 ab (aM true 6 (aa r0)) fun r1=>
 ab (ay (aa r1)) fun r2=>
 (List.length r2)=6∧
 6≤6∧
 (Q Ex.normal (Env.mk [(.v (.d (.fn (.yield yl)))),(.v (.aS x 0)),(.v .undef),(.v .undef),(.v .undef),(.v .undef),(.p (0+0) 0),(.v (.d xs)),(.v m),(.v i),(.v .undef),(.v .undef),(.v .undef),(.v .undef),(.v ys),(.v k),(.v j),(.v .undef),(.v r0),(.v r1),(.v .undef),(.v .undef),(.v .undef),(.v .undef),(.v .undef),(.v .undef)] [(af.cells (setAt [(.d (.int .i64 0)),(.d (.str [])),(.d (.bool false)),(.d (.sl .nil 0 [])),(.d (.int .i64 0)),(.d (.int .i64 0))] 0 r2))]))):=by kernel_rfl
set_option maxHeartbeats 1000000 in
theorem aeA(C:bj)(yl:Nat)(x xs:D)(m i:SV)(ys:SV)(k j u v:SV)(cs:List SV)(Q:Env→Prop):lD Go.Proofs.Try.prog gl C oP.toList 0 false (o6 0) ⟨F3 yl x xs m i ys k j u v .undef .undef .undef,[.cells cs]⟩ Q=(
 (Q (Env.mk [(.v (.d (.fn (.yield yl)))),(.v (.aS x 0)),(.v .undef),(.v .undef),(.v .undef),(.v .undef),(.p 0 0),(.v (.d xs)),(.v m),(.v i),(.v .undef),(.v .undef),(.v .undef),(.v .undef),(.v ys),(.v k),(.v j),(.v .undef),(.v u),(.v v),(.v (.d (.fn (.yield yl)))),(.v .undef),(.v .undef),(.v .undef),(.v .undef),(.v .undef)] [(af.cells cs)]))):=by kernel_rfl
set_option maxHeartbeats 1000000 in
theorem aeB(C:bj)(yl:Nat)(x xs:D)(m i:SV)(ys:SV)(k j u v t20:SV)(cs:List SV)(Q:Env→Prop):lD Go.Proofs.Try.prog gl C oP.toList 0 false (o6 1) ⟨F3 yl x xs m i ys k j u v t20 .undef .undef,[.cells cs]⟩ Q=(
 ab (ag true 6 0 cs) fun r0=>
 (Q (Env.mk [(.v (.d (.fn (.yield yl)))),(.v (.aS x 0)),(.v .undef),(.v .undef),(.v .undef),(.v .undef),(.p 0 0),(.v (.d xs)),(.v m),(.v i),(.v .undef),(.v .undef),(.v .undef),(.v .undef),(.v ys),(.v k),(.v j),(.v .undef),(.v u),(.v v),(.v t20),(.v (aa r0)),(.v .undef),(.v .undef),(.v .undef),(.v .undef)] [(af.cells cs)]))):=by kernel_rfl
set_option maxHeartbeats 1000000 in
theorem RM(C:bj)(yl:Nat)(x xs:D)(m i:SV)(ys:SV)(k j u v t20 t21:SV)(b:Bool)(cs:List SV)(Q:Env→Prop):lD Go.Proofs.Try.prog gl C oP.toList 0 false (o6 3) ⟨F3 yl x xs m i ys k j u v t20 t21 (.d (.bool b)),[.cells cs]⟩ Q=(
 ab (eY .not (.d (.bool b))) fun r0=>
 (Q (Env.mk [(.v (.d (.fn (.yield yl)))),(.v (.aS x 0)),(.v .undef),(.v .undef),(.v .undef),(.v .undef),(.p 0 0),(.v (.d xs)),(.v m),(.v i),(.v .undef),(.v .undef),(.v .undef),(.v .undef),(.v ys),(.v k),(.v j),(.v .undef),(.v u),(.v v),(.v t20),(.v t21),(.v (.d (.bool b))),(.v r0),(.v .undef),(.v .undef)] [(af.cells cs)]))):=by kernel_rfl
set_option maxHeartbeats 1000000 in
theorem pi7(C:bj)(yl:Nat)(x xs:D)(m i:SV)(ys:SV)(k j:SV)(Q:Ex→Env→Prop):aw Go.Proofs.Try.prog gl C gb (sB (sB (sB cI))) Q ⟨yG yl x xs m i ys k j,[]⟩=(
 ab (ah none .add (aa j) (.d (.int .i64 1))) fun r0=>
 (Q Ex.normal (Env.mk [(.v (.d (.fn (.yield yl)))),(.v (.aS x 0)),(.v .undef),(.v .undef),(.v .undef),(.v .undef),(.v .undef),(.v (.d xs)),(.v m),(.v i),(.v .undef),(.v .undef),(.v .undef),(.v .undef),(.v ys),(.v k),(.v (aa r0)),(.v .undef),(.v .undef),(.v .undef),(.v .undef),(.v .undef),(.v .undef),(.v .undef),(.v r0),(.v .undef)] []))):=by kernel_rfl
set_option maxHeartbeats 1000000 in
theorem pi8(C:bj)(yl:Nat)(x xs:D)(m i:SV)(Q:Ex→Env→Prop):aw Go.Proofs.Try.prog gl C gb (sB (sB (sB cO))) Q ⟨AH yl x xs m i,[]⟩=(
 ab (ah none .add (aa i) (.d (.int .i64 1))) fun r0=>
 (Q Ex.normal (Env.mk [(.v (.d (.fn (.yield yl)))),(.v (.aS x 0)),(.v .undef),(.v .undef),(.v .undef),(.v .undef),(.v .undef),(.v (.d xs)),(.v m),(.v (aa r0)),(.v .undef),(.v .undef),(.v .undef),(.v .undef),(.v .undef),(.v .undef),(.v .undef),(.v .undef),(.v .undef),(.v .undef),(.v .undef),(.v .undef),(.v .undef),(.v .undef),(.v .undef),(.v r0)] []))):=by kernel_rfl
end Go.Proofs.Ytimbllcalipehaa.Ab
namespace Go.Proofs.Ytimbllcalipehaa.Ab
open Go
set_option linter.unusedVariables false
set_option maxRecDepth 4000
theorem ZQ:Aj=.seq (sA Aj) (.block 0 (.loop cO)):=by kernel_rfl
theorem ac5:cO=.seq (sA cO) (.seq (.cond (.tmp 10) .skip (.exit 0)) (.seq (.block 1 yF) (sB (sB (sB cO))))):=by kernel_rfl
theorem abH:yF=.seq (sA yF) (.seq (sA (sB yF)) (.block 2 (.loop cI))):=by kernel_rfl
theorem ac6:cI=.seq (sA cI) (.seq (.cond (.tmp 17) .skip (.exit 2)) (.seq (.block 3 C4) (sB (sB (sB cI))))):=by kernel_rfl
theorem abI:C4=.seq (sA C4) (.seq (.region 6 oP false) (.cond (.tmp 23) .ret .skip)):=by kernel_rfl
theorem Xd:oP.size=4:=by kernel_rfl
theorem aeC:oP[0]? =some (o6 0):=by kernel_rfl
theorem aeD:oP[1]? =some (o6 1):=by kernel_rfl
theorem aeE:oP[2]? =some (o6 2):=by kernel_rfl
theorem RN:oP[3]? =some (o6 3):=by kernel_rfl
theorem ac7:(o6 2).guard =none:=by kernel_rfl
theorem ac8:(o6 2).dst =some 22:=by kernel_rfl
theorem ac9:(o6 2).op =.call {callee:=.value (.tmp 20),args:= #[.tmp 21],argTypes:= #[87]}:=by kernel_rfl
theorem Xe(yl:Nat)(x xs m i k j z:D)(ys:SV)(nQ:ys.mN=true)(rL:ys.ar=true)(cs:List SV)(h1:SV.nE cs=true)(h2:SV.fO cs=true):Es ⟨F3 yl x xs (.d m) (.d i) ys (.d k) (.d j) (.aS z 0) (.d z) (.d (.fn (.yield yl))) (.d z) .undef,[.cells cs]⟩:=by
 refine⟨?_,?_⟩
 ·show ∀s∈[_,_,_,_,_,_,_,_,_,_,_,_,_,_,_,_,_,_,_,_,_,_,_,_,_,_],Plain s
  repeat (refine List.forall_mem_cons.2 ⟨?_,?_⟩;·first|exact .v _ rfl rfl|exact .p _ _|exact .v _ nQ rL)
  intro s hs;cases hs
 ·intro bx hb
  rw[List.mem_singleton.1 hb]
  exact⟨h1,h2⟩
theorem O7(s:au):SV.nE s.cells=true∧SV.fO s.cells=true:=⟨rfl,rfl⟩
section
variable{x xs m i:D}{ys:SV}
theorem Yn(C:qo Try.prog gl)(pre ss rest:List au)(hL:C.L=bg (pre++ss++rest))(hy:fF 6 (bg ss) ys)(hn:ss.length≤maxLen){e:Env}(hw:vB (yG C.l x xs (.d m) (.d i) ys (.d (.int .i64 (ss.length:Int))) (.d (.int .i64 ((0:Nat):Int)))) e.ai):
  IW C 0 (.loop cI) (fun ex e' log q=>(ex=.exit 2∧q=none∧log=bg (pre++ss)∧vB (AH C.l x xs (.d m) (.d i)) e'.ai)∨(ex=.ret ∧q=some ())) e (bg pre) none:=by
 refine IW.loop (fun k e log q=>∃j,k+j=ss.length∧q=none∧log=bg (pre++ss.take j)∧vB (yG C.l x xs (.d m) (.d i) ys (.d (.int .i64 (ss.length:Int))) (.d (.int .i64 ((j:Nat):Int)))) e.ai) ?_ ss.length e _ _ ⟨0,by omega,rfl,by simp,hw⟩
 rintro k e log q ⟨j,hk,rfl,rfl,hw⟩
 rw[ac6]
 refine IW.zW hw ?_
 refine IW.seq (IW.aw (hh:=gb) bl ?_)
 rw[pi4]
 simp only[sS,sT,sZ,PI]
 refine IW.seq (IW.cond (b:=decide ((j:Int)<(ss.length:Int))) rfl ?_)
 by_cases hj:j<ss.length
 ·rw[if_pos (by simpa using hj)]
  refine IW.aw (hh:=gb) bl ?_
  show IW C 0 _ _ _ _ _
  refine IW.seq (IW.block ?_)
  refine IW.zW (sh:=yG C.l x xs (.d m) (.d i) ys (.d (.int .i64 (ss.length:Int))) (.d (.int .i64 ((j:Nat):Int)))) (by((repeat (refine And.intro ?_ ?_;·first|exact .inl rfl|exact .inr ⟨_,rfl,rfl⟩|exact .inr ⟨_,rfl,congrArg Slot.v (fF.jD (by assumption)).symm⟩));exact trivial)) ?_
  rw[abI]
  refine IW.seq (IW.aw (hh:=gb) bl ?_)
  rw[pi5]
  have hyp:ys.mN=true∧ys.ar=true:=by cases hy<;>exact⟨rfl,rfl⟩
  obtain⟨s,hs⟩:=get_some hj
  simp only[hy.jD,hy.at (tg hs),sS,sT,sZ,vj,kK,jK,mD]
  refine IW.seq (IW.region ?_)
  rw[Xd]
  show OW C 0 oP _ [0,1,2,3] _ _ _
  refine OW.step (id:=0) (aD:=false) aeC ?_
  refine(aeA _ C.l x xs (.d m) (.d i) ys (.d (.int .i64 (ss.length:Int))) (.d (.int .i64 ((j:Nat):Int))) (.aS s.enc 0) (.d s.enc) s.cells _).mpr ?_
  refine OW.step (id:=0) (aD:=false) aeD ?_
  refine(aeB _ C.l x xs (.d m) (.d i) ys (.d (.int .i64 (ss.length:Int))) (.d (.int .i64 ((j:Nat):Int))) (.aS s.enc 0) (.d s.enc) (.d (.fn (.yield C.l))) s.cells _).mpr ?_
  rw[lA]
  show OW C 0 oP _ [2,3] _ _ _
  have aeF:C.L[(bg (pre++ss.take j)).length]? =some s.enc:=by
   rw[hL,gr]
   refine tg ?_
   rw[List.length_append,List.length_take,Nat.min_eq_left (by omega),List.append_assoc,List.getElem?_append_right (by omega)]
   rw[Nat.add_sub_cancel_left,List.getElem?_append_left hj,hs]
  have Ra:bg (pre++ss.take j)++[s.enc]=bg (pre++ss.take (j+1)):=by
   rw[eH hs,←List.append_assoc,←Bm]
  refine OW.yield aeE ac7 ac9 rfl rfl ac8 rfl rfl aeF (Xe C.l x xs m i _ _ s.enc ys hyp.1 hyp.2 s.cells (O7 s).1 (O7 s).2) ?_ ?_
  ·refine OW.step (id:=0) (aD:=false) RN ?_
   refine(RM _ C.l x xs (.d m) (.d i) ys (.d (.int .i64 (ss.length:Int))) (.d (.int .i64 ((j:Nat):Int))) (.aS s.enc 0) (.d s.enc) (.d (.fn (.yield C.l))) (.d s.enc) true s.cells _).mpr ?_
   refine OW.nil ?_
   show IW C 0 _ _ _ _ _
   refine IW.cond (b:=false) rfl ?_
   rw[if_neg (by simp)]
   refine IW.aw (hh:=gb) bl ?_
   show IW C 0 _ _ _ _ _
   refine IW.zW (sh:=yG C.l x xs (.d m) (.d i) ys (.d (.int .i64 (ss.length:Int))) (.d (.int .i64 ((j:Nat):Int)))) (by((repeat (refine And.intro ?_ ?_;·first|exact .inl rfl|exact .inr ⟨_,rfl,rfl⟩|exact .inr ⟨_,rfl,congrArg Slot.v (fF.jD (by assumption)).symm⟩));exact trivial)) ?_
   refine IW.aw (hh:=gb) bl ?_
   rw[pi7]
   simp only[sS,sT,sZ]
   refine bC (bK hj hn) ?_
   refine⟨k-1,by omega,j+1,by omega,?_⟩
   first|exact⟨rfl,Ra,by((repeat (refine And.intro ?_ ?_;·first|exact .inl rfl|exact .inr ⟨_,rfl,rfl⟩|exact .inr ⟨_,rfl,congrArg Slot.v (fF.jD (by assumption)).symm⟩));exact trivial)⟩|exact⟨Ra,by((repeat (refine And.intro ?_ ?_;·first|exact .inl rfl|exact .inr ⟨_,rfl,rfl⟩|exact .inr ⟨_,rfl,congrArg Slot.v (fF.jD (by assumption)).symm⟩));exact trivial)⟩
  ·refine OW.step (id:=0) (aD:=false) RN ?_
   refine(RM _ C.l x xs (.d m) (.d i) ys (.d (.int .i64 (ss.length:Int))) (.d (.int .i64 ((j:Nat):Int))) (.aS s.enc 0) (.d s.enc) (.d (.fn (.yield C.l))) (.d s.enc) false s.cells _).mpr ?_
   refine OW.nil ?_
   show IW C 0 _ _ _ _ _
   refine IW.cond (b:=true) rfl ?_
   rw[if_pos rfl]
   refine IW.aw (hh:=gb) bl ?_
   first|exact .inr ⟨rfl,rfl⟩|exact .inr rfl
 ·rw[if_neg (by simpa using hj)]
  refine IW.aw (hh:=gb) bl ?_
  have hje:j=ss.length:=by omega
  refine .inl ⟨rfl,rfl,by rw[hje,List.take_length],?_⟩
  ((repeat (refine And.intro ?_ ?_;·first|exact .inl rfl|exact .inr ⟨_,rfl,rfl⟩|exact .inr ⟨_,rfl,congrArg Slot.v (fF.jD (by assumption)).symm⟩));exact trivial)
end
structure EM(aP:List jk)(L:List D):Prop where
 len:L.length=aP.length
 at_:∀(i:Nat)s,aP[i]? =some s→∃y,L[i]? =some y∧tS s y∧s.list.length≤2^30∧s.hY.length≤2^30∧(fl s).length ≤2^40
theorem NO{cs l:List SV}(h:l.length=cs.length):setAt cs 0 l=l:=by
 rw[y6 l cs 0 (by omega)]
 simp[←h]
theorem Vh{aP:List jk}{i:Nat}{s:jk}(h:aP[i]? =some s):aP.flatMap fl=(aP.take i).flatMap fl++fl s++(aP.drop (i+1)).flatMap fl:=by
 have:=List.take_append_drop i aP
 conv=>lhs;rw[←this,Bn h]
 simp[List.flatMap_append,List.append_assoc]
theorem UF(aP:List jk){L:List D}{xs:D}(hx:aE 55 L xs)(hs:EM aP L)(hn:aP.length≤maxLen):Iter Try.prog gl 82 [.aS xs 0] (bg (aP.flatMap fl)):=by
 refine Zr bl (fn:=Try.f82) (c:=Aj) rfl rfl (bG (fn:=Try.f82) (by kernel_rfl) (by kernel_rfl) (by kernel_rfl)) rfl fun C hL _=>?_
 rw[ZQ]
 refine IW.seq (IW.aw (hh:=gb) bl ?_)
 show aw Try.prog gl _ gb (sA Aj) _ (enter 26 _)
 rw[pi0]
 have LH:aM false 1 (.aS xs 0)=some (.d xs):=by cases hx<;>rfl
 simp only[LH,sS,sT,sZ,hx.len]
 refine IW.block ?_
 refine IW.mono (Q:=fun ex e' log q=>(ex=.exit 0∧q=none∧log=bg (aP.flatMap fl))∨(ex=.ret ∧q=some ())) ?_ ?_
 rotate_left
 ·rintro ex e l q (⟨rfl,rfl,rfl⟩|⟨rfl,rfl⟩)
  ·exact⟨.inl rfl,fun _=>rfl⟩
  ·exact⟨.inr rfl,fun h=>by cases h⟩
 refine IW.loop (fun k e log q=>∃i,k+i=aP.length∧q=none∧log=bg ((aP.take i).flatMap fl)∧vB (AH C.l xs xs (.d (.int .i64 (aP.length:Int))) (.d (.int .i64 ((i:Nat):Int)))) e.ai) ?_ aP.length _ _ _ ⟨0,by omega,rfl,rfl,?_⟩
 rotate_left
 ·rw[←hs.len];((repeat (refine And.intro ?_ ?_;·first|exact .inl rfl|exact .inr ⟨_,rfl,rfl⟩|exact .inr ⟨_,rfl,congrArg Slot.v (fF.jD (by assumption)).symm⟩));exact trivial)
 rintro k e log q ⟨i,hk,rfl,rfl,hw⟩
 rw[ac5]
 refine IW.zW hw ?_
 refine IW.seq (IW.aw (hh:=gb) bl ?_)
 rw[pi1]
 simp only[sS,sT,sZ,PI]
 refine IW.seq (IW.cond (b:=decide ((i:Int)<(aP.length:Int))) rfl ?_)
 by_cases hi:i<aP.length
 ·rw[if_pos (by simpa using hi)]
  refine IW.aw (hh:=gb) bl ?_
  show IW C 0 _ _ _ _ _
  refine IW.seq (IW.block ?_)
  refine IW.zW (sh:=AH C.l xs xs (.d (.int .i64 (aP.length:Int))) (.d (.int .i64 ((i:Nat):Int)))) (by((repeat (refine And.intro ?_ ?_;·first|exact .inl rfl|exact .inr ⟨_,rfl,rfl⟩|exact .inr ⟨_,rfl,congrArg Slot.v (fF.jD (by assumption)).symm⟩));exact trivial)) ?_
  rw[abH]
  refine IW.seq (IW.aw (hh:=gb) bl ?_)
  rw[pi2]
  obtain⟨s,yH⟩:=get_some hi
  obtain⟨y,hy,aT,k7,mV,CS⟩:=hs.at_ i s yH
  have tP:=aT
  have LH:=aT.load
  cases aT with
  |mk r5 r6 aY al rest h gK kC=>
  simp only[hx.at hy,sS,sT,sZ,LH,va,oC,h]
  rw[NO (by simp[j4,h])]
  refine IW.seq (IW.aw (hh:=gb) bl ?_)
  refine(pi3 _ C.l xs xs (.d (.int .i64 (aP.length:Int))) (.d (.int .i64 ((i:Nat):Int))) (.aS _ 0) (.d _) (j4 s r5 r6 aY al rest) _).mpr ?_
  simp only[HX _ _ _ _ _ _ h,sS,sT,sZ]
  obtain⟨r,⟨FK,hr2⟩,K6⟩:=Uq tP k7 mV
  refine aZ K6 hr2 ?_
  simp only[FK.len,gr,sS,sT,sZ]
  refine IW.block (IW.mono (Yn (x:=xs) (xs:=xs) (m:=.int .i64 (aP.length:Int)) (i:=.int .i64 ((i:Nat):Int)) C ((aP.take i).flatMap fl) (fl s) ((aP.drop (i+1)).flatMap fl) (by rw[hL,Vh yH]) FK (by simp only[maxLen];omega) (by((repeat (refine And.intro ?_ ?_;·first|exact .inl rfl|exact .inr ⟨_,rfl,rfl⟩|exact .inr ⟨_,rfl,congrArg Slot.v (fF.jD (by assumption)).symm⟩));exact trivial))) ?_)
  rintro ex e2 l2 q2 (⟨rfl,rfl,rfl,hw2⟩|⟨rfl,rfl⟩)
  ·show IW C 0 _ _ _ _ _
   refine IW.zW hw2 ?_
   refine IW.aw (hh:=gb) bl ?_
   rw[pi8]
   simp only[sS,sT,sZ]
   refine bC (bK hi hn) ?_
   refine⟨k-1,by omega,i+1,by omega,?_⟩
   have nR:bg ((aP.take i).flatMap fl++fl s)=bg ((aP.take (i+1)).flatMap fl):=by rw[eH yH];simp
   first|exact⟨rfl,nR,by((repeat (refine And.intro ?_ ?_;·first|exact .inl rfl|exact .inr ⟨_,rfl,rfl⟩|exact .inr ⟨_,rfl,congrArg Slot.v (fF.jD (by assumption)).symm⟩));exact trivial)⟩|exact⟨nR,by((repeat (refine And.intro ?_ ?_;·first|exact .inl rfl|exact .inr ⟨_,rfl,rfl⟩|exact .inr ⟨_,rfl,congrArg Slot.v (fF.jD (by assumption)).symm⟩));exact trivial)⟩
  ·first|exact .inr ⟨rfl,rfl⟩|exact .inr rfl
 ·rw[if_neg (by simpa using hi)]
  refine IW.aw (hh:=gb) bl ?_
  have hie:i=aP.length:=by omega
  exact .inl ⟨rfl,rfl,by rw[hie,List.take_length]⟩
end Go.Proofs.Ytimbllcalipehaa.Ab
set_option maxRecDepth 100000
namespace Go.Proofs.Ytimbllcalipehaa.Ab
open Go
def qw:Hints:=⟨[(8,0),(8,3),(8,4),(20,10),(22,0),(22,3),(22,4)],[(14,[8,44,45,46],[2,3,4,5,9,43])],[(7,[]),(12,[.emp 8]),(13,[.nN 5 []]),(20,[.box 8 6]),(21,[.box 8 6]),(22,[.jz 8 true 6 [96]]),(23,[.jz 8 true 6 [80,82,84,85,92,93]]),(24,[.jc 8])]⟩
noncomputable def tT:Code:=Go.Proofs.Try.f50.body.getD .skip
noncomputable def J8:Code:=Go.Proofs.Try.f67.body.getD .skip
def F4:Code→Code| .block _ (.rangeFunc _ _ a _)=>a|c=>c
def F5:Code→Code| .block _ (.rangeFunc _ _ _ b)=>b|c=>c
noncomputable def vD:Code:=(mG tT).getD 4 .skip
def pM:List Slot:=[.v .undef,.v .undef,.p 0 0,.p 1 0,.p 2 0,.p 4 0]++List.replicate 99 (.v .undef)
def EN(al:SV)(m:List (MK×D)):List af:=[.cells [.d (.sl .nil 0 [])],.cells [.d (.int .i64 0),.d (.int .i64 0),.d (.int .i64 0),.d (.str [])],.cells [al],.map m,.one (.m 3)]
set_option maxHeartbeats 1000000 in
theorem abJ(f1 f2 f3 f4:D)(al:SV)(m:List (MK×D))(K:SV→Prop):finish Go.Proofs.Try.prog Go.Proofs.Try.f50 ⟨pM,[.cells [.d (.sl .nil 0 [])],.cells [.d f1,.d f2,.d f3,.d f4],.cells [al],.map m,.one (.m 3)]⟩ K=(ab (ag false 1 0 [(.d (.sl .nil 0 []))]) fun r0=>(SV.ar (aa r0))=true∧ab (ag true 4 0 [(.d f1),(.d f2),(.d f3),(.d f4)]) fun r1=>(SV.ar (aa r1))=true∧(K (.aK [(aa r0),(aa r1)]))):=by kernel_rfl
set_option maxHeartbeats 1000000 in
theorem abK(C:bj)(x:D)(Q:Ex→Env→Prop):aw Go.Proofs.Try.prog gl C gb J8 Q (enter 4 [.d x])=(ab (ay (.d x)) fun r0=>(List.length r0)=1∧(Q Ex.ret (Env.mk [(.v (.d x)),(.p (0+0) 0),(.c (.func 82) [] [(.p (0+0) 0)]),(.c (.func 82) [] [(.p (0+0) 0)])] [(af.cells r0)]))):=by kernel_rfl
set_option maxHeartbeats 1000000 in
theorem abL(C:bj)(x0:SV)(Q:Ex→Env→Prop):uD Go.Proofs.Try.prog gl C qw ((mG tT).take 4) Q (enter 105 [x0])=(aN C 67 [(aa (aa (aa x0)))] fun r0=>(Q Ex.normal (Env.mk ([(.v x0),(.v .undef),(.p (0+0) 0),(.p (0+1) 0),(.p ((List.length [(af.cells [(.d (.sl .nil 0 []))]),(af.cells [(.d (.int .i64 0)),(.d (.int .i64 0)),(.d (.int .i64 0)),(.d (.str []))])])+0) 0),(.p ((List.length [(af.cells [(.d (.sl .nil 0 []))]),(af.cells [(.d (.int .i64 0)),(.d (.int .i64 0)),(.d (.int .i64 0)),(.d (.str []))]),(af.cells [(.d (.sl .nil 0 []))])])+1) 0),(.v .undef),(.v .undef),(.v .undef),(.v .undef),(.v .undef),(.v .undef),(.v .undef),(.v .undef),(.v .undef),(.m ((List.length [(af.cells [(.d (.sl .nil 0 []))]),(af.cells [(.d (.int .i64 0)),(.d (.int .i64 0)),(.d (.int .i64 0)),(.d (.str []))]),(af.cells [(.d (.sl .nil 0 []))])])+0)),(.v (aa x0)),(.v r0)]++List.replicate 87 (.v .undef)) [(af.cells [(.d (.sl .nil 0 []))]),(af.cells [(.d (.int .i64 0)),(.d (.int .i64 0)),(.d (.int .i64 0)),(.d (.str []))]),(af.cells [(.d (.sl .nil 0 []))]),(af.map []),(af.one (.m ((List.length [(af.cells [(.d (.sl .nil 0 []))]),(af.cells [(.d (.int .i64 0)),(.d (.int .i64 0)),(.d (.int .i64 0)),(.d (.str []))]),(af.cells [(.d (.sl .nil 0 []))])])+0)))]))):=by kernel_rfl
set_option maxHeartbeats 1000000 in
theorem abM(C:bj)(d:D)(al:SV)(m:List (MK×D))(Q:Ex→List af→Prop):aw Go.Proofs.Try.prog gl C qw (F4 vD) (fun x e1=>x=.normal ∧aw Go.Proofs.Try.prog gl C qw (F5 vD) (fun x e2=>Q x (e2.boxes.take 5)) e1) ⟨b8 pM (some 18) (.v (.d d)),EN al m⟩=(ab (ay (.d d)) fun r0=>(List.length r0)=6∧6≤6∧Ex.normal=Ex.normal∧ab (ag false 1 0 [al]) fun r1=>ab (ag true 6 0 (setAt [(.d (.int .i64 0)),(.d (.str [])),(.d (.bool false)),(.d (.sl .nil 0 [])),(.d (.int .i64 0)),(.d (.int .i64 0))] 0 r0)) fun r2=>aN C 68 [(aa (aa (aa r1))),(aa (aa (aa r2)))] fun r3=>ab (ah (some (false,[.int])) .neq (aa (aa (aa r3))) (.d (.int .i64 0))) fun r4=>aq r4 (ab (ag true 2 4 (setAt [(.d (.int .i64 0)),(.d (.str [])),(.d (.bool false)),(.d (.sl .nil 0 [])),(.d (.int .i64 0)),(.d (.int .i64 0))] 0 r0)) fun r5=>ab (ag false 1 1 (setAt [(.d (.int .i64 0)),(.d (.str [])),(.d (.bool false)),(.d (.sl .nil 0 [])),(.d (.int .i64 0)),(.d (.int .i64 0))] 0 r0)) fun r6=>ab (aR [(0,(.v (aa (aa (aa r3))))),(1,(.v (aa (aa r5)))),(2,(.v (aa (aa r6))))]) fun r7=>ab (cY Proofs.Try.prog 30 r7) fun r8=>ab (ay (.d (.sl .nil 0 []))) fun r9=>(List.length r9)=1∧1≤1∧ab (ay (.d r8)) fun bp=>(List.length bp)=4∧4≤4∧((ab (ag true 2 4 (setAt [(.d (.int .i64 0)),(.d (.str [])),(.d (.bool false)),(.d (.sl .nil 0 [])),(.d (.int .i64 0)),(.d (.int .i64 0))] 0 r0)) fun bR=>(ab (ag false 1 1 (setAt [(.d (.int .i64 0)),(.d (.str [])),(.d (.bool false)),(.d (.sl .nil 0 [])),(.d (.int .i64 0)),(.d (.int .i64 0))] 0 r0)) fun cd=>ab (aR [(0,(.v (aa (aa (aa r3))))),(1,(.v (aa (aa bR)))),(2,(.v (aa (aa cd))))]) fun cq=>ab (cY Proofs.Try.prog 30 cq) fun bM=>ab (ay (.d (.sl .nil 0 []))) fun ct=>(List.length ct)=1∧1≤1∧ab (ay (.d bM)) fun bX=>(List.length bX)=4∧4≤4∧(Eq (Env.mk ([(.v .undef),(.v .undef),(.p 0 0),(.p 1 0),(.p 2 0),(.p 4 0),(.p ((List.length [(af.cells [(.d (.sl .nil 0 []))]),(af.cells [(.d (.int .i64 0)),(.d (.int .i64 0)),(.d (.int .i64 0)),(.d (.str []))]),(af.cells [al]),(af.map m),(af.one (.m 3))])+0) 0),(.v (aa r3)),(.v .undef),(.v .undef),(.v .undef),(.v .undef),(.v .undef),(.v .undef),(.v .undef),(.v .undef),(.v .undef),(.v .undef),(.v (.d d)),(.v (aa r1)),(.v (aa r2)),(.v r3),(.v (aa (aa r3))),(.v (.d (.bool true))),(.v (aa (aa r3))),(.p ((List.length [(af.cells [(.d (.sl .nil 0 []))]),(af.cells [(.d (.int .i64 0)),(.d (.int .i64 0)),(.d (.int .i64 0)),(.d (.str []))]),(af.cells [al]),(af.map m),(af.one (.m 3))])+0) 4),(.v (aa bR)),(.p ((List.length [(af.cells [(.d (.sl .nil 0 []))]),(af.cells [(.d (.int .i64 0)),(.d (.int .i64 0)),(.d (.int .i64 0)),(.d (.str []))]),(af.cells [al]),(af.map m),(af.one (.m 3))])+0) 1),(.v (aa cd)),(.v (.d bM))]++List.replicate 75 (.v .undef)) [(af.cells (setAt [(.d (.sl .nil 0 []))] 0 ct)),(af.cells (setAt [(.d (.int .i64 0)),(.d (.int .i64 0)),(.d (.int .i64 0)),(.d (.str []))] 0 bX)),(af.cells [al]),(af.map m),(af.one (.m 3)),(af.cells (setAt [(.d (.int .i64 0)),(.d (.str [])),(.d (.bool false)),(.d (.sl .nil 0 [])),(.d (.int .i64 0)),(.d (.int .i64 0))] 0 r0))]) (Env.mk ([(.v .undef),(.v .undef),(.p 0 0),(.p 1 0),(.p 2 0),(.p 4 0),(.p ((List.length [(af.cells [(.d (.sl .nil 0 []))]),(af.cells [(.d (.int .i64 0)),(.d (.int .i64 0)),(.d (.int .i64 0)),(.d (.str []))]),(af.cells [al]),(af.map m),(af.one (.m 3))])+0) 0),(.v (aa r3)),(.v .undef),(.v .undef),(.v .undef),(.v .undef),(.v .undef),(.v .undef),(.v .undef),(.v .undef),(.v .undef),(.v .undef),(.v (.d d)),(.v (aa r1)),(.v (aa r2)),(.v r3),(.v (aa (aa r3))),(.v (.d (.bool true))),(.v (aa (aa r3))),(.p ((List.length [(af.cells [(.d (.sl .nil 0 []))]),(af.cells [(.d (.int .i64 0)),(.d (.int .i64 0)),(.d (.int .i64 0)),(.d (.str []))]),(af.cells [al]),(af.map m),(af.one (.m 3))])+0) 4),(.v (aa r5)),(.p ((List.length [(af.cells [(.d (.sl .nil 0 []))]),(af.cells [(.d (.int .i64 0)),(.d (.int .i64 0)),(.d (.int .i64 0)),(.d (.str []))]),(af.cells [al]),(af.map m),(af.one (.m 3))])+0) 1),(.v (aa r6)),(.v (.d r8))]++List.replicate 75 (.v .undef)) [(af.cells (setAt [(.d (.sl .nil 0 []))] 0 r9)),(af.cells (setAt [(.d (.int .i64 0)),(.d (.int .i64 0)),(.d (.int .i64 0)),(.d (.str []))] 0 bp)),(af.cells [al]),(af.map m),(af.one (.m 3)),(af.cells (setAt [(.d (.int .i64 0)),(.d (.str [])),(.d (.bool false)),(.d (.sl .nil 0 [])),(.d (.int .i64 0)),(.d (.int .i64 0))] 0 r0))])))∧ab (ay (.d (.sl .nil 0 []))) fun cf=>(List.length cf)=1∧1≤1∧ab (ag false 1 1 (setAt [(.d (.int .i64 0)),(.d (.str [])),(.d (.bool false)),(.d (.sl .nil 0 [])),(.d (.int .i64 0)),(.d (.int .i64 0))] 0 r0)) fun bY=>ab (aR [(0,(.v (aa (aa (aa r3))))),(1,(.v (aa (aa bR)))),(2,(.v (aa (aa bY))))]) fun dr=>ab (cY Proofs.Try.prog 30 dr) fun dg=>ab (ay (.d dg)) fun cA=>(List.length cA)=4∧4≤4∧(Eq (Env.mk ([(.v .undef),(.v .undef),(.p 0 0),(.p 1 0),(.p 2 0),(.p 4 0),(.p ((List.length [(af.cells [(.d (.sl .nil 0 []))]),(af.cells [(.d (.int .i64 0)),(.d (.int .i64 0)),(.d (.int .i64 0)),(.d (.str []))]),(af.cells [al]),(af.map m),(af.one (.m 3))])+0) 0),(.v (aa r3)),(.v .undef),(.v .undef),(.v .undef),(.v .undef),(.v .undef),(.v .undef),(.v .undef),(.v .undef),(.v .undef),(.v .undef),(.v (.d d)),(.v (aa r1)),(.v (aa r2)),(.v r3),(.v (aa (aa r3))),(.v (.d (.bool true))),(.v (aa (aa r3))),(.p ((List.length [(af.cells [(.d (.sl .nil 0 []))]),(af.cells [(.d (.int .i64 0)),(.d (.int .i64 0)),(.d (.int .i64 0)),(.d (.str []))]),(af.cells [al]),(af.map m),(af.one (.m 3))])+0) 4),(.v (aa bR)),(.p ((List.length [(af.cells [(.d (.sl .nil 0 []))]),(af.cells [(.d (.int .i64 0)),(.d (.int .i64 0)),(.d (.int .i64 0)),(.d (.str []))]),(af.cells [al]),(af.map m),(af.one (.m 3))])+0) 1),(.v (aa bY)),(.v (.d dg))]++List.replicate 75 (.v .undef)) [(af.cells (setAt [(.d (.sl .nil 0 []))] 0 cf)),(af.cells (setAt [(.d (.int .i64 0)),(.d (.int .i64 0)),(.d (.int .i64 0)),(.d (.str []))] 0 cA)),(af.cells [al]),(af.map m),(af.one (.m 3)),(af.cells (setAt [(.d (.int .i64 0)),(.d (.str [])),(.d (.bool false)),(.d (.sl .nil 0 [])),(.d (.int .i64 0)),(.d (.int .i64 0))] 0 r0))]) (Env.mk ([(.v .undef),(.v .undef),(.p 0 0),(.p 1 0),(.p 2 0),(.p 4 0),(.p ((List.length [(af.cells [(.d (.sl .nil 0 []))]),(af.cells [(.d (.int .i64 0)),(.d (.int .i64 0)),(.d (.int .i64 0)),(.d (.str []))]),(af.cells [al]),(af.map m),(af.one (.m 3))])+0) 0),(.v (aa r3)),(.v .undef),(.v .undef),(.v .undef),(.v .undef),(.v .undef),(.v .undef),(.v .undef),(.v .undef),(.v .undef),(.v .undef),(.v (.d d)),(.v (aa r1)),(.v (aa r2)),(.v r3),(.v (aa (aa r3))),(.v (.d (.bool true))),(.v (aa (aa r3))),(.p ((List.length [(af.cells [(.d (.sl .nil 0 []))]),(af.cells [(.d (.int .i64 0)),(.d (.int .i64 0)),(.d (.int .i64 0)),(.d (.str []))]),(af.cells [al]),(af.map m),(af.one (.m 3))])+0) 4),(.v (aa r5)),(.p ((List.length [(af.cells [(.d (.sl .nil 0 []))]),(af.cells [(.d (.int .i64 0)),(.d (.int .i64 0)),(.d (.int .i64 0)),(.d (.str []))]),(af.cells [al]),(af.map m),(af.one (.m 3))])+0) 1),(.v (aa r6)),(.v (.d r8))]++List.replicate 75 (.v .undef)) [(af.cells (setAt [(.d (.sl .nil 0 []))] 0 r9)),(af.cells (setAt [(.d (.int .i64 0)),(.d (.int .i64 0)),(.d (.int .i64 0)),(.d (.str []))] 0 bp)),(af.cells [al]),(af.map m),(af.one (.m 3)),(af.cells (setAt [(.d (.int .i64 0)),(.d (.str [])),(.d (.bool false)),(.d (.sl .nil 0 [])),(.d (.int .i64 0)),(.d (.int .i64 0))] 0 r0))])))∧(ab (ag false 1 1 (setAt [(.d (.int .i64 0)),(.d (.str [])),(.d (.bool false)),(.d (.sl .nil 0 [])),(.d (.int .i64 0)),(.d (.int .i64 0))] 0 r0)) fun cD=>(ab (ag true 2 4 (setAt [(.d (.int .i64 0)),(.d (.str [])),(.d (.bool false)),(.d (.sl .nil 0 [])),(.d (.int .i64 0)),(.d (.int .i64 0))] 0 r0)) fun cT=>ab (aR [(0,(.v (aa (aa (aa r3))))),(1,(.v (aa (aa cT)))),(2,(.v (aa (aa cD))))]) fun de=>ab (cY Proofs.Try.prog 30 de) fun db=>ab (ay (.d (.sl .nil 0 []))) fun dL=>(List.length dL)=1∧1≤1∧ab (ay (.d db)) fun dP=>(List.length dP)=4∧4≤4∧(Eq (Env.mk ([(.v .undef),(.v .undef),(.p 0 0),(.p 1 0),(.p 2 0),(.p 4 0),(.p ((List.length [(af.cells [(.d (.sl .nil 0 []))]),(af.cells [(.d (.int .i64 0)),(.d (.int .i64 0)),(.d (.int .i64 0)),(.d (.str []))]),(af.cells [al]),(af.map m),(af.one (.m 3))])+0) 0),(.v (aa r3)),(.v .undef),(.v .undef),(.v .undef),(.v .undef),(.v .undef),(.v .undef),(.v .undef),(.v .undef),(.v .undef),(.v .undef),(.v (.d d)),(.v (aa r1)),(.v (aa r2)),(.v r3),(.v (aa (aa r3))),(.v (.d (.bool true))),(.v (aa (aa r3))),(.p ((List.length [(af.cells [(.d (.sl .nil 0 []))]),(af.cells [(.d (.int .i64 0)),(.d (.int .i64 0)),(.d (.int .i64 0)),(.d (.str []))]),(af.cells [al]),(af.map m),(af.one (.m 3))])+0) 4),(.v (aa cT)),(.p ((List.length [(af.cells [(.d (.sl .nil 0 []))]),(af.cells [(.d (.int .i64 0)),(.d (.int .i64 0)),(.d (.int .i64 0)),(.d (.str []))]),(af.cells [al]),(af.map m),(af.one (.m 3))])+0) 1),(.v (aa cD)),(.v (.d db))]++List.replicate 75 (.v .undef)) [(af.cells (setAt [(.d (.sl .nil 0 []))] 0 dL)),(af.cells (setAt [(.d (.int .i64 0)),(.d (.int .i64 0)),(.d (.int .i64 0)),(.d (.str []))] 0 dP)),(af.cells [al]),(af.map m),(af.one (.m 3)),(af.cells (setAt [(.d (.int .i64 0)),(.d (.str [])),(.d (.bool false)),(.d (.sl .nil 0 [])),(.d (.int .i64 0)),(.d (.int .i64 0))] 0 r0))]) (Env.mk ([(.v .undef),(.v .undef),(.p 0 0),(.p 1 0),(.p 2 0),(.p 4 0),(.p ((List.length [(af.cells [(.d (.sl .nil 0 []))]),(af.cells [(.d (.int .i64 0)),(.d (.int .i64 0)),(.d (.int .i64 0)),(.d (.str []))]),(af.cells [al]),(af.map m),(af.one (.m 3))])+0) 0),(.v (aa r3)),(.v .undef),(.v .undef),(.v .undef),(.v .undef),(.v .undef),(.v .undef),(.v .undef),(.v .undef),(.v .undef),(.v .undef),(.v (.d d)),(.v (aa r1)),(.v (aa r2)),(.v r3),(.v (aa (aa r3))),(.v (.d (.bool true))),(.v (aa (aa r3))),(.p ((List.length [(af.cells [(.d (.sl .nil 0 []))]),(af.cells [(.d (.int .i64 0)),(.d (.int .i64 0)),(.d (.int .i64 0)),(.d (.str []))]),(af.cells [al]),(af.map m),(af.one (.m 3))])+0) 4),(.v (aa r5)),(.p ((List.length [(af.cells [(.d (.sl .nil 0 []))]),(af.cells [(.d (.int .i64 0)),(.d (.int .i64 0)),(.d (.int .i64 0)),(.d (.str []))]),(af.cells [al]),(af.map m),(af.one (.m 3))])+0) 1),(.v (aa r6)),(.v (.d r8))]++List.replicate 75 (.v .undef)) [(af.cells (setAt [(.d (.sl .nil 0 []))] 0 r9)),(af.cells (setAt [(.d (.int .i64 0)),(.d (.int .i64 0)),(.d (.int .i64 0)),(.d (.str []))] 0 bp)),(af.cells [al]),(af.map m),(af.one (.m 3)),(af.cells (setAt [(.d (.int .i64 0)),(.d (.str [])),(.d (.bool false)),(.d (.sl .nil 0 [])),(.d (.int .i64 0)),(.d (.int .i64 0))] 0 r0))])))∧ab (ay (.d (.sl .nil 0 []))) fun dk=>(List.length dk)=1∧1≤1∧ab (ag true 2 4 (setAt [(.d (.int .i64 0)),(.d (.str [])),(.d (.bool false)),(.d (.sl .nil 0 [])),(.d (.int .i64 0)),(.d (.int .i64 0))] 0 r0)) fun cU=>ab (aR [(0,(.v (aa (aa (aa r3))))),(1,(.v (aa (aa cU)))),(2,(.v (aa (aa cD))))]) fun dc=>ab (cY Proofs.Try.prog 30 dc) fun dt=>ab (ay (.d dt)) fun du=>(List.length du)=4∧4≤4∧(Eq (Env.mk ([(.v .undef),(.v .undef),(.p 0 0),(.p 1 0),(.p 2 0),(.p 4 0),(.p ((List.length [(af.cells [(.d (.sl .nil 0 []))]),(af.cells [(.d (.int .i64 0)),(.d (.int .i64 0)),(.d (.int .i64 0)),(.d (.str []))]),(af.cells [al]),(af.map m),(af.one (.m 3))])+0) 0),(.v (aa r3)),(.v .undef),(.v .undef),(.v .undef),(.v .undef),(.v .undef),(.v .undef),(.v .undef),(.v .undef),(.v .undef),(.v .undef),(.v (.d d)),(.v (aa r1)),(.v (aa r2)),(.v r3),(.v (aa (aa r3))),(.v (.d (.bool true))),(.v (aa (aa r3))),(.p ((List.length [(af.cells [(.d (.sl .nil 0 []))]),(af.cells [(.d (.int .i64 0)),(.d (.int .i64 0)),(.d (.int .i64 0)),(.d (.str []))]),(af.cells [al]),(af.map m),(af.one (.m 3))])+0) 4),(.v (aa cU)),(.p ((List.length [(af.cells [(.d (.sl .nil 0 []))]),(af.cells [(.d (.int .i64 0)),(.d (.int .i64 0)),(.d (.int .i64 0)),(.d (.str []))]),(af.cells [al]),(af.map m),(af.one (.m 3))])+0) 1),(.v (aa cD)),(.v (.d dt))]++List.replicate 75 (.v .undef)) [(af.cells (setAt [(.d (.sl .nil 0 []))] 0 dk)),(af.cells (setAt [(.d (.int .i64 0)),(.d (.int .i64 0)),(.d (.int .i64 0)),(.d (.str []))] 0 du)),(af.cells [al]),(af.map m),(af.one (.m 3)),(af.cells (setAt [(.d (.int .i64 0)),(.d (.str [])),(.d (.bool false)),(.d (.sl .nil 0 [])),(.d (.int .i64 0)),(.d (.int .i64 0))] 0 r0))]) (Env.mk ([(.v .undef),(.v .undef),(.p 0 0),(.p 1 0),(.p 2 0),(.p 4 0),(.p ((List.length [(af.cells [(.d (.sl .nil 0 []))]),(af.cells [(.d (.int .i64 0)),(.d (.int .i64 0)),(.d (.int .i64 0)),(.d (.str []))]),(af.cells [al]),(af.map m),(af.one (.m 3))])+0) 0),(.v (aa r3)),(.v .undef),(.v .undef),(.v .undef),(.v .undef),(.v .undef),(.v .undef),(.v .undef),(.v .undef),(.v .undef),(.v .undef),(.v (.d d)),(.v (aa r1)),(.v (aa r2)),(.v r3),(.v (aa (aa r3))),(.v (.d (.bool true))),(.v (aa (aa r3))),(.p ((List.length [(af.cells [(.d (.sl .nil 0 []))]),(af.cells [(.d (.int .i64 0)),(.d (.int .i64 0)),(.d (.int .i64 0)),(.d (.str []))]),(af.cells [al]),(af.map m),(af.one (.m 3))])+0) 4),(.v (aa r5)),(.p ((List.length [(af.cells [(.d (.sl .nil 0 []))]),(af.cells [(.d (.int .i64 0)),(.d (.int .i64 0)),(.d (.int .i64 0)),(.d (.str []))]),(af.cells [al]),(af.map m),(af.one (.m 3))])+0) 1),(.v (aa r6)),(.v (.d r8))]++List.replicate 75 (.v .undef)) [(af.cells (setAt [(.d (.sl .nil 0 []))] 0 r9)),(af.cells (setAt [(.d (.int .i64 0)),(.d (.int .i64 0)),(.d (.int .i64 0)),(.d (.str []))] 0 bp)),(af.cells [al]),(af.map m),(af.one (.m 3)),(af.cells (setAt [(.d (.int .i64 0)),(.d (.str [])),(.d (.bool false)),(.d (.sl .nil 0 [])),(.d (.int .i64 0)),(.d (.int .i64 0))] 0 r0))])))∧ab (ay (.d (.sl .nil 0 []))) fun dB=>(List.length dB)=1∧1≤1∧ab (ag true 2 4 (setAt [(.d (.int .i64 0)),(.d (.str [])),(.d (.bool false)),(.d (.sl .nil 0 [])),(.d (.int .i64 0)),(.d (.int .i64 0))] 0 r0)) fun eK=>ab (ag false 1 1 (setAt [(.d (.int .i64 0)),(.d (.str [])),(.d (.bool false)),(.d (.sl .nil 0 [])),(.d (.int .i64 0)),(.d (.int .i64 0))] 0 r0)) fun eh=>ab (aR [(0,(.v (aa (aa (aa r3))))),(1,(.v (aa (aa eK)))),(2,(.v (aa (aa eh))))]) fun eL=>ab (cY Proofs.Try.prog 30 eL) fun ff=>ab (ay (.d ff)) fun eM=>(List.length eM)=4∧4≤4∧(Eq (Env.mk ([(.v .undef),(.v .undef),(.p 0 0),(.p 1 0),(.p 2 0),(.p 4 0),(.p ((List.length [(af.cells [(.d (.sl .nil 0 []))]),(af.cells [(.d (.int .i64 0)),(.d (.int .i64 0)),(.d (.int .i64 0)),(.d (.str []))]),(af.cells [al]),(af.map m),(af.one (.m 3))])+0) 0),(.v (aa r3)),(.v .undef),(.v .undef),(.v .undef),(.v .undef),(.v .undef),(.v .undef),(.v .undef),(.v .undef),(.v .undef),(.v .undef),(.v (.d d)),(.v (aa r1)),(.v (aa r2)),(.v r3),(.v (aa (aa r3))),(.v (.d (.bool true))),(.v (aa (aa r3))),(.p ((List.length [(af.cells [(.d (.sl .nil 0 []))]),(af.cells [(.d (.int .i64 0)),(.d (.int .i64 0)),(.d (.int .i64 0)),(.d (.str []))]),(af.cells [al]),(af.map m),(af.one (.m 3))])+0) 4),(.v (aa eK)),(.p ((List.length [(af.cells [(.d (.sl .nil 0 []))]),(af.cells [(.d (.int .i64 0)),(.d (.int .i64 0)),(.d (.int .i64 0)),(.d (.str []))]),(af.cells [al]),(af.map m),(af.one (.m 3))])+0) 1),(.v (aa eh)),(.v (.d ff))]++List.replicate 75 (.v .undef)) [(af.cells (setAt [(.d (.sl .nil 0 []))] 0 dB)),(af.cells (setAt [(.d (.int .i64 0)),(.d (.int .i64 0)),(.d (.int .i64 0)),(.d (.str []))] 0 eM)),(af.cells [al]),(af.map m),(af.one (.m 3)),(af.cells (setAt [(.d (.int .i64 0)),(.d (.str [])),(.d (.bool false)),(.d (.sl .nil 0 [])),(.d (.int .i64 0)),(.d (.int .i64 0))] 0 r0))]) (Env.mk ([(.v .undef),(.v .undef),(.p 0 0),(.p 1 0),(.p 2 0),(.p 4 0),(.p ((List.length [(af.cells [(.d (.sl .nil 0 []))]),(af.cells [(.d (.int .i64 0)),(.d (.int .i64 0)),(.d (.int .i64 0)),(.d (.str []))]),(af.cells [al]),(af.map m),(af.one (.m 3))])+0) 0),(.v (aa r3)),(.v .undef),(.v .undef),(.v .undef),(.v .undef),(.v .undef),(.v .undef),(.v .undef),(.v .undef),(.v .undef),(.v .undef),(.v (.d d)),(.v (aa r1)),(.v (aa r2)),(.v r3),(.v (aa (aa r3))),(.v (.d (.bool true))),(.v (aa (aa r3))),(.p ((List.length [(af.cells [(.d (.sl .nil 0 []))]),(af.cells [(.d (.int .i64 0)),(.d (.int .i64 0)),(.d (.int .i64 0)),(.d (.str []))]),(af.cells [al]),(af.map m),(af.one (.m 3))])+0) 4),(.v (aa r5)),(.p ((List.length [(af.cells [(.d (.sl .nil 0 []))]),(af.cells [(.d (.int .i64 0)),(.d (.int .i64 0)),(.d (.int .i64 0)),(.d (.str []))]),(af.cells [al]),(af.map m),(af.one (.m 3))])+0) 1),(.v (aa r6)),(.v (.d r8))]++List.replicate 75 (.v .undef)) [(af.cells (setAt [(.d (.sl .nil 0 []))] 0 r9)),(af.cells (setAt [(.d (.int .i64 0)),(.d (.int .i64 0)),(.d (.int .i64 0)),(.d (.str []))] 0 bp)),(af.cells [al]),(af.map m),(af.one (.m 3)),(af.cells (setAt [(.d (.int .i64 0)),(.d (.str [])),(.d (.bool false)),(.d (.sl .nil 0 [])),(.d (.int .i64 0)),(.d (.int .i64 0))] 0 r0))])))∧(Q Ex.ret [(af.cells (setAt [(.d (.sl .nil 0 []))] 0 r9)),(af.cells (setAt [(.d (.int .i64 0)),(.d (.int .i64 0)),(.d (.int .i64 0)),(.d (.str []))] 0 bp)),(af.cells [al]),(af.map m),(af.one (.m 3))])) (ab (ag true 6 0 (setAt [(.d (.int .i64 0)),(.d (.str [])),(.d (.bool false)),(.d (.sl .nil 0 [])),(.d (.int .i64 0)),(.d (.int .i64 0))] 0 r0)) fun eU=>ab (aR [(0,(.v (aa (aa eU))))]) fun gk=>(bq 6 1 gk)=true∧ck 6 72 al (.full 6 (bu (bD true [(.int .i64 0),(.str []),(.bool false),(.sl .nil 0 []),(.int .i64 0),(.int .i64 0)]) gk 1 0)) fun fX=>ab (ay fX) fun fL=>(List.length fL)=1∧0<(List.length [(aa al)])∧ab (ag false 1 2 (setAt [(.d (.int .i64 0)),(.d (.str [])),(.d (.bool false)),(.d (.sl .nil 0 [])),(.d (.int .i64 0)),(.d (.int .i64 0))] 0 r0)) fun gi=>ab (eY .not (aa (aa gi))) fun fM=>aq fM (ab (ag false 1 0 (setAt [(.d (.int .i64 0)),(.d (.str [])),(.d (.bool false)),(.d (.sl .nil 0 [])),(.d (.int .i64 0)),(.d (.int .i64 0))] 0 r0)) fun gQ=>ab (ag false 1 1 (setAt [(.d (.int .i64 0)),(.d (.str [])),(.d (.bool false)),(.d (.sl .nil 0 [])),(.d (.int .i64 0)),(.d (.int .i64 0))] 0 r0)) fun gj=>ab (aR [(0,(.v (aa (aa gQ)))),(1,(.v (aa (aa gj))))]) fun hZ=>ab (cY Proofs.Try.prog 126 hZ) fun iF=>ab (jO (some [.int,.str]) (.d iF)) fun gD=>ab (bF (.d (.bool true))) fun iR=>ab (mI m gD iR) fun ji=>(Q Ex.normal [(af.cells [(.d (.sl .nil 0 []))]),(af.cells [(.d (.int .i64 0)),(.d (.int .i64 0)),(.d (.int .i64 0)),(.d (.str []))]),(af.cells (setAt [(aa al)] 0 fL)),(af.map ji),(af.one (.m 3))])) ((Q Ex.normal [(af.cells [(.d (.sl .nil 0 []))]),(af.cells [(.d (.int .i64 0)),(.d (.int .i64 0)),(.d (.int .i64 0)),(.d (.str []))]),(af.cells (setAt [(aa al)] 0 fL)),(af.map m),(af.one (.m 3))])))):=by kernel_rfl
set_option maxHeartbeats 1000000 in
theorem abN(C:bj)(al:SV)(m:List (MK×D))(K:SV→Prop):uD Go.Proofs.Try.prog gl C qw ((mG tT).drop 5) (JQ Go.Proofs.Try.prog Go.Proofs.Try.f50 K) ⟨pM,EN al m⟩=(ab (nH (.d (.sl .nil 0 []))) fun r0=>ab (ag false 1 0 [al]) fun r1=>ab (bd (aa (aa r1))) fun r2=>cw (fun bm cb I5=>ab (ah none .lss (aa (ae bm 3)) (aa (ae bm 2))) fun r6=>aq r6 (ab (bc 6 (aa (ae bm 1)) (aa (ae bm 3))) fun r7=>ab (aM true 6 (aa r7)) fun r8=>ab (ay (aa r8)) fun r9=>(List.length r9)=6∧6≤6∧ab (ag false 1 0 (setAt [(.d (.int .i64 0)),(.d (.str [])),(.d (.bool false)),(.d (.sl .nil 0 [])),(.d (.int .i64 0)),(.d (.int .i64 0))] 0 r9)) fun bp=>ab (ag false 1 1 (setAt [(.d (.int .i64 0)),(.d (.str [])),(.d (.bool false)),(.d (.sl .nil 0 [])),(.d (.int .i64 0)),(.d (.int .i64 0))] 0 r9)) fun bR=>ab (aR [(0,(.v (aa (aa bp)))),(1,(.v (aa (aa bR))))]) fun cd=>ab (cY Proofs.Try.prog 126 cd) fun cq=>ab (ay (.d cq)) fun bM=>(List.length bM)=2∧2≤2∧ab (ag false 1 2 (setAt [(.d (.int .i64 0)),(.d (.str [])),(.d (.bool false)),(.d (.sl .nil 0 [])),(.d (.int .i64 0)),(.d (.int .i64 0))] 0 r9)) fun ct=>aq (aa (aa ct)) (ab (ag false 1 0 (az cb 4)) fun bX=>ab (ag true 2 0 (setAt [(.d (.int .i64 0)),(.d (.str []))] 0 bM)) fun cf=>ab (pH (some [.int,.str]) (.bool false) (aa (aa bX)) (aa (aa cf))) fun bY=>aq (.d bY.1) (ab (ah none .add (aa (ae bm 3)) (.d (.int .i64 1))) fun dr=>(I5 [(ae bm 0),(ae bm 1),(ae bm 2),(aa dr)] [(af.aJ (af.cells (az cb 0))),(af.aJ (af.cells (az cb 1))),(af.aJ (af.cells (az cb 2))),[.undef],(af.aJ (af.cells (az cb 4))),[(.mp (mapOf (az cb 5)))]])) (ab (ag false 1 0 (setAt [(.d (.int .i64 0)),(.d (.str [])),(.d (.bool false)),(.d (.sl .nil 0 [])),(.d (.int .i64 0)),(.d (.int .i64 0))] 0 r9)) fun dg=>ab (ag false 1 1 (setAt [(.d (.int .i64 0)),(.d (.str [])),(.d (.bool false)),(.d (.sl .nil 0 [])),(.d (.int .i64 0)),(.d (.int .i64 0))] 0 r9)) fun cA=>aN C 69 [(aa (aa (aa dg))),(aa (aa (aa cA)))] fun cD=>aq (aa (aa cD)) (ab (ah none .add (aa (ae bm 3)) (.d (.int .i64 1))) fun cT=>(I5 [(ae bm 0),(ae bm 1),(ae bm 2),(aa cT)] [(af.aJ (af.cells (az cb 0))),(af.aJ (af.cells (az cb 1))),(af.aJ (af.cells (az cb 2))),[.undef],(af.aJ (af.cells (az cb 4))),[(.mp (mapOf (az cb 5)))]])) (ab (ag true 2 0 (setAt [(.d (.int .i64 0)),(.d (.str []))] 0 bM)) fun de=>ab (pH (some [.int,.str]) (.int .i64 0) (.mp (mapOf (az cb 5))) (aa (aa de))) fun db=>aq (.d (.bool (Prod.snd db))) (ab (ag false 1 2 (setAt [(.d (.int .i64 0)),(.d (.str [])),(.d (.bool false)),(.d (.sl .nil 0 [])),(.d (.int .i64 0)),(.d (.int .i64 0))] 0 r9)) fun dL=>aq (aa (aa dL)) (ga (ae bm 0) 6 (fun AI=>ab (cH (.d db.1) (List.length AI)) fun dk=>ab (ag false 1 ((dk*6)+3) (bA AI)) fun cU=>aN C 71 [(aa (aa (aa cU)))] fun dc=>ab (ag false 1 3 (setAt [(.d (.int .i64 0)),(.d (.str [])),(.d (.bool false)),(.d (.sl .nil 0 [])),(.d (.int .i64 0)),(.d (.int .i64 0))] 0 r9)) fun dt=>ck 1 16 dc (aa (aa dt)) fun du=>aN C 70 [(aa (aa du))] fun dB=>ab (cH (.d db.1) (List.length AI)) fun eK=>ab (ay (aa dB)) fun eh=>(List.length eh)=1∧(((eK*6)+3)+1)≤(List.length (bA AI))∧ab (cW (setAt (bA AI) ((eK*6)+3) eh)) fun eL=>ab (eP true 6 (List.length AI) eL) fun ff=>ab (ah none .add (aa (ae bm 3)) (.d (.int .i64 1))) fun eM=>(I5 [(.bt 6 ff),(ae bm 1),(ae bm 2),(aa eM)] [(af.aJ (af.cells (az cb 0))),(af.aJ (af.cells (az cb 1))),(af.aJ (af.cells (az cb 2))),[.undef],(af.aJ (af.cells (az cb 4))),[(.mp (mapOf (az cb 5)))]])) (ab (bc 6 (aa (aa (ae bm 0))) (.d db.1)) fun eU=>ab (cV (aa eU) 3) fun gk=>ab (aM false 1 (aa gk)) fun fX=>aN C 71 [(aa (aa fX))] fun fL=>ab (ag false 1 3 (setAt [(.d (.int .i64 0)),(.d (.str [])),(.d (.bool false)),(.d (.sl .nil 0 [])),(.d (.int .i64 0)),(.d (.int .i64 0))] 0 r9)) fun gi=>ck 1 16 fL (aa (aa gi)) fun fM=>aN C 70 [(aa (aa fM))] fun gQ=>ab (bc 6 (aa (aa (ae bm 0))) (.d db.1)) fun gj=>ab (cV (aa gj) 3) fun hZ=>False)) (ga (ae bm 0) 6 (fun LI=>ab (ag true 2 0 (setAt [(.d (.int .i64 0)),(.d (.str []))] 0 bM)) fun gD=>ab (jO (some [.int,.str]) (aa (aa gD))) fun iR=>ab (bF (.d (.int .i64 (Nat.cast (List.length LI))))) fun ji=>ab (mI (mapOf (az cb 5)) iR ji) fun iS=>ab (cW (bA LI)) fun jj=>ab (eP true 6 (List.length LI) jj) fun iT=>ab (ag true 6 0 (setAt [(.d (.int .i64 0)),(.d (.str [])),(.d (.bool false)),(.d (.sl .nil 0 [])),(.d (.int .i64 0)),(.d (.int .i64 0))] 0 r9)) fun jF=>ab (aR [(0,(.v (aa (aa jF))))]) fun lg=>(bq 6 1 lg)=true∧ck 6 72 (.bt 6 iT) (.full 6 (bu (bD true [(.int .i64 0),(.str []),(.bool false),(.sl .nil 0 []),(.int .i64 0),(.int .i64 0)]) lg 1 0)) fun m0=>ab (ah none .add (aa (ae bm 3)) (.d (.int .i64 1))) fun lh=>(I5 [m0,(ae bm 1),(ae bm 2),(aa lh)] [(af.aJ (af.cells (az cb 0))),(af.aJ (af.cells (az cb 1))),(af.aJ (af.cells (az cb 2))),[.undef],(af.aJ (af.cells (az cb 4))),[(.mp iS)]])) (ab (ag true 2 0 (setAt [(.d (.int .i64 0)),(.d (.str []))] 0 bM)) fun kF=>ab (bd (aa (aa (ae bm 0)))) fun lj=>ab (jO (some [.int,.str]) (aa (aa kF))) fun kG=>ab (bF (aa lj)) fun qp=>ab (mI (mapOf (az cb 5)) kG qp) fun pb=>ab (ag true 6 0 (setAt [(.d (.int .i64 0)),(.d (.str [])),(.d (.bool false)),(.d (.sl .nil 0 [])),(.d (.int .i64 0)),(.d (.int .i64 0))] 0 r9)) fun mg=>ab (aR [(0,(.v (aa (aa mg))))]) fun mh=>(bq 6 1 mh)=true∧ck 6 72 (ae bm 0) (.full 6 (bu (bD true [(.int .i64 0),(.str []),(.bool false),(.sl .nil 0 []),(.int .i64 0),(.int .i64 0)]) mh 1 0)) fun m4=>ab (ah none .add (aa (ae bm 3)) (.d (.int .i64 1))) fun sa=>(I5 [m4,(ae bm 1),(ae bm 2),(aa sa)] [(af.aJ (af.cells (az cb 0))),(af.aJ (af.cells (az cb 1))),(af.aJ (af.cells (az cb 2))),[.undef],(af.aJ (af.cells (az cb 4))),[(.mp pb)]])))) (ga (ae bm 0) 6 (fun LJ=>ab (ag true 2 0 (setAt [(.d (.int .i64 0)),(.d (.str []))] 0 bM)) fun wD=>ab (jO (some [.int,.str]) (aa (aa wD))) fun sc=>ab (bF (.d (.int .i64 (Nat.cast (List.length LJ))))) fun sd=>ab (mI (mapOf (az cb 5)) sc sd) fun sf=>ab (cW (bA LJ)) fun uH=>ab (eP true 6 (List.length LJ) uH) fun wB=>ab (ag true 6 0 (setAt [(.d (.int .i64 0)),(.d (.str [])),(.d (.bool false)),(.d (.sl .nil 0 [])),(.d (.int .i64 0)),(.d (.int .i64 0))] 0 r9)) fun pc=>ab (aR [(0,(.v (aa (aa pc))))]) fun pd=>(bq 6 1 pd)=true∧ck 6 72 (.bt 6 wB) (.full 6 (bu (bD true [(.int .i64 0),(.str []),(.bool false),(.sl .nil 0 []),(.int .i64 0),(.int .i64 0)]) pd 1 0)) fun kI=>ab (ah none .add (aa (ae bm 3)) (.d (.int .i64 1))) fun yC=>(I5 [kI,(ae bm 1),(ae bm 2),(aa yC)] [(af.aJ (af.cells (az cb 0))),(af.aJ (af.cells (az cb 1))),(af.aJ (af.cells (az cb 2))),[.undef],(af.aJ (af.cells (az cb 4))),[(.mp sf)]])) (ab (ag true 2 0 (setAt [(.d (.int .i64 0)),(.d (.str []))] 0 bM)) fun yD=>ab (bd (aa (aa (ae bm 0)))) fun uI=>ab (jO (some [.int,.str]) (aa (aa yD))) fun sg=>ab (bF (aa uI)) fun qq=>ab (mI (mapOf (az cb 5)) sg qq) fun qt=>ab (ag true 6 0 (setAt [(.d (.int .i64 0)),(.d (.str [])),(.d (.bool false)),(.d (.sl .nil 0 [])),(.d (.int .i64 0)),(.d (.int .i64 0))] 0 r9)) fun qu=>ab (aR [(0,(.v (aa (aa qu))))]) fun qv=>(bq 6 1 qv)=true∧ck 6 72 (ae bm 0) (.full 6 (bu (bD true [(.int .i64 0),(.str []),(.bool false),(.sl .nil 0 []),(.int .i64 0),(.int .i64 0)]) qv 1 0)) fun sj=>ab (ah none .add (aa (ae bm 3)) (.d (.int .i64 1))) fun uJ=>(I5 [sj,(ae bm 1),(ae bm 2),(aa uJ)] [(af.aJ (af.cells (az cb 0))),(af.aJ (af.cells (az cb 1))),(af.aJ (af.cells (az cb 2))),[.undef],(af.aJ (af.cells (az cb 4))),[(.mp qt)]])))))) (ab (ag true 2 0 (setAt [(.d (.int .i64 0)),(.d (.str []))] 0 bM)) fun wE=>ab (pH (some [.int,.str]) (.int .i64 0) (.mp (mapOf (az cb 5))) (aa (aa wE))) fun pe=>aq (.d (.bool (Prod.snd pe))) (ab (ag false 1 2 (setAt [(.d (.int .i64 0)),(.d (.str [])),(.d (.bool false)),(.d (.sl .nil 0 [])),(.d (.int .i64 0)),(.d (.int .i64 0))] 0 r9)) fun sq=>aq (aa (aa sq)) (ga (ae bm 0) 6 (fun AJ=>ab (cH (.d pe.1) (List.length AJ)) fun uK=>ab (ag false 1 ((uK*6)+3) (bA AJ)) fun uL=>aN C 71 [(aa (aa (aa uL)))] fun uM=>ab (ag false 1 3 (setAt [(.d (.int .i64 0)),(.d (.str [])),(.d (.bool false)),(.d (.sl .nil 0 [])),(.d (.int .i64 0)),(.d (.int .i64 0))] 0 r9)) fun so=>ck 1 16 uM (aa (aa so)) fun wC=>aN C 70 [(aa (aa wC))] fun uN=>ab (cH (.d pe.1) (List.length AJ)) fun uO=>ab (ay (aa uN)) fun yE=>(List.length yE)=1∧(((uO*6)+3)+1)≤(List.length (bA AJ))∧ab (cW (setAt (bA AJ) ((uO*6)+3) yE)) fun Cj=>ab (eP true 6 (List.length AJ) Cj) fun vP=>ab (ah none .add (aa (ae bm 3)) (.d (.int .i64 1))) fun vQ=>(I5 [(.bt 6 vP),(ae bm 1),(ae bm 2),(aa vQ)] [(af.aJ (af.cells (az cb 0))),(af.aJ (af.cells (az cb 1))),(af.aJ (af.cells (az cb 2))),[.undef],(af.aJ (af.cells (az cb 4))),[(.mp (mapOf (az cb 5)))]])) (ab (bc 6 (aa (aa (ae bm 0))) (.d pe.1)) fun xQ=>ab (cV (aa xQ) 3) fun xR=>ab (aM false 1 (aa xR)) fun xS=>aN C 71 [(aa (aa xS))] fun vR=>ab (ag false 1 3 (setAt [(.d (.int .i64 0)),(.d (.str [])),(.d (.bool false)),(.d (.sl .nil 0 [])),(.d (.int .i64 0)),(.d (.int .i64 0))] 0 r9)) fun vS=>ck 1 16 vR (aa (aa vS)) fun tR=>aN C 70 [(aa (aa tR))] fun Ae=>ab (bc 6 (aa (aa (ae bm 0))) (.d pe.1)) fun xT=>ab (cV (aa xT) 3) fun Af=>False)) (ga (ae bm 0) 6 (fun J9=>ab (ag true 2 0 (setAt [(.d (.int .i64 0)),(.d (.str []))] 0 bM)) fun Ah=>ab (jO (some [.int,.str]) (aa (aa Ah))) fun Cl=>ab (bF (.d (.int .i64 (Nat.cast (List.length J9))))) fun vT=>ab (mI (mapOf (az cb 5)) Cl vT) fun xU=>ab (cW (bA J9)) fun vU=>ab (eP true 6 (List.length J9) vU) fun xV=>ab (ag true 6 0 (setAt [(.d (.int .i64 0)),(.d (.str [])),(.d (.bool false)),(.d (.sl .nil 0 [])),(.d (.int .i64 0)),(.d (.int .i64 0))] 0 r9)) fun Ag=>ab (aR [(0,(.v (aa (aa Ag))))]) fun rH=>(bq 6 1 rH)=true∧ck 6 72 (.bt 6 xV) (.full 6 (bu (bD true [(.int .i64 0),(.str []),(.bool false),(.sl .nil 0 []),(.int .i64 0),(.int .i64 0)]) rH 1 0)) fun Ai=>ab (ah none .add (aa (ae bm 3)) (.d (.int .i64 1))) fun J0=>(I5 [Ai,(ae bm 1),(ae bm 2),(aa J0)] [(af.aJ (af.cells (az cb 0))),(af.aJ (af.cells (az cb 1))),(af.aJ (af.cells (az cb 2))),[.undef],(af.aJ (af.cells (az cb 4))),[(.mp xU)]])) (ab (ag true 2 0 (setAt [(.d (.int .i64 0)),(.d (.str []))] 0 bM)) fun E9=>ab (bd (aa (aa (ae bm 0)))) fun J1=>ab (jO (some [.int,.str]) (aa (aa E9))) fun J3=>ab (bF (aa J1)) fun J4=>ab (mI (mapOf (az cb 5)) J3 J4) fun J5=>ab (ag true 6 0 (setAt [(.d (.int .i64 0)),(.d (.str [])),(.d (.bool false)),(.d (.sl .nil 0 [])),(.d (.int .i64 0)),(.d (.int .i64 0))] 0 r9)) fun J6=>ab (aR [(0,(.v (aa (aa J6))))]) fun Fa=>(bq 6 1 Fa)=true∧ck 6 72 (ae bm 0) (.full 6 (bu (bD true [(.int .i64 0),(.str []),(.bool false),(.sl .nil 0 []),(.int .i64 0),(.int .i64 0)]) Fa 1 0)) fun Fb=>ab (ah none .add (aa (ae bm 3)) (.d (.int .i64 1))) fun J7=>(I5 [Fb,(ae bm 1),(ae bm 2),(aa J7)] [(af.aJ (af.cells (az cb 0))),(af.aJ (af.cells (az cb 1))),(af.aJ (af.cells (az cb 2))),[.undef],(af.aJ (af.cells (az cb 4))),[(.mp J5)]])))) (ga (ae bm 0) 6 (fun Ka=>ab (ag true 2 0 (setAt [(.d (.int .i64 0)),(.d (.str []))] 0 bM)) fun Fc=>ab (jO (some [.int,.str]) (aa (aa Fc))) fun aeG=>ab (bF (.d (.int .i64 (Nat.cast (List.length Ka))))) fun aeH=>ab (mI (mapOf (az cb 5)) aeG aeH) fun aeI=>ab (cW (bA Ka)) fun aeJ=>ab (eP true 6 (List.length Ka) aeJ) fun aeK=>ab (ag true 6 0 (setAt [(.d (.int .i64 0)),(.d (.str [])),(.d (.bool false)),(.d (.sl .nil 0 [])),(.d (.int .i64 0)),(.d (.int .i64 0))] 0 r9)) fun aeL=>ab (aR [(0,(.v (aa (aa aeL))))]) fun RO=>(bq 6 1 RO)=true∧ck 6 72 (.bt 6 aeK) (.full 6 (bu (bD true [(.int .i64 0),(.str []),(.bool false),(.sl .nil 0 []),(.int .i64 0),(.int .i64 0)]) RO 1 0)) fun aeM=>ab (ah none .add (aa (ae bm 3)) (.d (.int .i64 1))) fun aeN=>(I5 [aeM,(ae bm 1),(ae bm 2),(aa aeN)] [(af.aJ (af.cells (az cb 0))),(af.aJ (af.cells (az cb 1))),(af.aJ (af.cells (az cb 2))),[.undef],(af.aJ (af.cells (az cb 4))),[(.mp aeI)]])) (ab (ag true 2 0 (setAt [(.d (.int .i64 0)),(.d (.str []))] 0 bM)) fun aeO=>ab (bd (aa (aa (ae bm 0)))) fun aeP=>ab (jO (some [.int,.str]) (aa (aa aeO))) fun aeQ=>ab (bF (aa aeP)) fun aeR=>ab (mI (mapOf (az cb 5)) aeQ aeR) fun aeS=>ab (ag true 6 0 (setAt [(.d (.int .i64 0)),(.d (.str [])),(.d (.bool false)),(.d (.sl .nil 0 [])),(.d (.int .i64 0)),(.d (.int .i64 0))] 0 r9)) fun aeT=>ab (aR [(0,(.v (aa (aa aeT))))]) fun RP=>(bq 6 1 RP)=true∧ck 6 72 (ae bm 0) (.full 6 (bu (bD true [(.int .i64 0),(.str []),(.bool false),(.sl .nil 0 []),(.int .i64 0),(.int .i64 0)]) RP 1 0)) fun aeU=>ab (ah none .add (aa (ae bm 3)) (.d (.int .i64 1))) fun aeV=>(I5 [aeU,(ae bm 1),(ae bm 2),(aa aeV)] [(af.aJ (af.cells (az cb 0))),(af.aJ (af.cells (az cb 1))),(af.aJ (af.cells (az cb 2))),[.undef],(af.aJ (af.cells (az cb 4))),[(.mp aeS)]]))))) (ab (vI (ae bm 0)) fun aeW=>ab (aR []) fun aeX=>ab (cY Proofs.Try.prog 30 aeX) fun aeY=>ab (ay (aa (aa aeW))) fun RQ=>(List.length RQ)=1∧1≤(List.length (az cb 0))∧ab (ay (.d aeY)) fun RR=>(List.length RR)=4∧4≤(List.length (az cb 1))∧ab (ag false 1 0 (setAt (az cb 0) 0 RQ)) fun RS=>(SV.ar (aa RS))=true∧ab (ag true 4 0 (setAt (az cb 1) 0 RR)) fun RT=>(SV.ar (aa RT))=true∧(K (.aK [(aa RS),(aa RT)])))) [r0,(aa r1),r2,(.d (.int .i64 0))] [[(.d (.sl .nil 0 []))],[(.d (.int .i64 0)),(.d (.int .i64 0)),(.d (.int .i64 0)),(.d (.str []))],[al],[.undef],[(.mp m)],[(.mp [])]]):=by kernel_rfl
end Go.Proofs.Ytimbllcalipehaa.Ab
namespace Go.Proofs.Ytimbllcalipehaa.Ab
open Go
set_option linter.unusedVariables false
def kq(s:au):MK:=.s [.int .i64 s.kind,.str s.name]
def kR(y s:au):Bool:=y.kind==s.kind&&y.name==s.name
theorem DY(y s:au):kq y=kq s↔kR y s=true:=by
 simp[kq,kR]
def zG(m:List (MK×D)):Prop:=∀x∈m,∃k n,x.1=MK.s [.int .i64 k,.str n]
theorem G1{m:List (MK×D)}(h:zG m)(s:au):qQ m (kq s)=true:=by
 unfold qQ
 rw[List.all_eq_true]
 intro x hx
 obtain⟨k,n,hk⟩:=h x hx
 rw[hk]
 rfl
theorem Hi:∀(m:List (MK×D))(n k:MK)(d:D),jL (jP m n d) k=if k=n then some d else jL m k
 |[],n,k,d=>by by_cases h:k=n<;>simp[jP,jL,h]
 |x::m,n,k,d=>by
  rw[jP]
  by_cases h:n=x.1
  ·rw[if_pos h,jL,jL]
   by_cases hk:k=n
   ·simp[hk]
   ·rw[if_neg hk,if_neg hk,if_neg (by rw[←h];exact hk)]
  ·rw[if_neg h,jL,jL,Hi m n k d]
   by_cases hk:k=n
   ·rw[if_pos hk,if_neg (by rw[hk];exact h)]
    simp[hk]
   ·simp[hk]
theorem NP{m:List (MK×D)}(h:zG m)(s:au)(d:D):zG (jP m (kq s) d):=by
 induction m with
 |nil=>intro x hx;rw[jP,List.mem_singleton]at hx;subst hx;exact⟨_,_,rfl⟩
 |cons y m ih=>
  intro x hx
  rw[jP]at hx
  split at hx
  ·rcases List.mem_cons.1 hx with rfl|hx
   ·exact⟨_,_,rfl⟩
   ·exact h x (by simp[hx])
  ·rcases List.mem_cons.1 hx with rfl|hx
   ·exact h _ (by simp)
   ·exact ih (fun z hz=>h z (by simp[hz])) x hx
def rq(l:List au)(s:au):Bool:=l.any fun y=> !y.eN&&kR y s
def oQ(m:List (MK×D))(l:List au):Prop:=zG m∧∀s,jL m (kq s)=if rq l s then some (.bool true)else none
theorem oQ.nil:oQ [] []:=⟨fun x h=>by simp at h,fun s=>rfl⟩
theorem oQ.eN{m:List (MK×D)}{l:List au}(h:oQ m l){s:au}(hs:s.eN=true):oQ m (l++[s]):=by
 refine⟨h.1,fun t=>?_⟩
 rw[h.2 t]
 simp[rq,hs]
theorem oQ.dec{m:List (MK×D)}{l:List au}(h:oQ m l){s:au}(hs:s.eN=false):oQ (jP m (kq s) (.bool true)) (l++[s]):=by
 refine⟨NP h.1 s _,fun t=>?_⟩
 rw[Hi,h.2 t]
 by_cases hk:kq t=kq s
 ·have:kR s t=true:=(DY s t).1 hk.symm
  simp[hk,rq,hs,this]
 ·have:kR s t=false:=by
   cases hc:kR s t with
   |false=>rfl
   |true=>exact absurd ((DY s t).2 hc).symm hk
  simp[hk,rq,this]
theorem Yo{m:List (MK×D)}{l:List au}(h:oQ m l)(s:au):pH (some [.int,.str]) (.bool false) (.mp m) (.d (.agg [.int .i64 s.kind,.str s.name]))=some (.bool (rq l s),rq l s):=by
 have h1:jO (some [.int,.str]) (.d (.agg [.int .i64 s.kind,.str s.name]))=some (kq s):=rfl
 simp only[pH,h1,G1 h.1 s,cond_true,h.2 s]
 cases rq l s<;>rfl
def jr(s:au):List au→Option Nat
 |[]=>none
 |y::l=>match jr s l with|some j=>some (j+1)|none=>if kR y s then some 0 else none
theorem NQ(s y:au):∀(l:List au),jr s (l++[y])=if kR y s then some l.length else jr s l
 |[]=>by simp[jr]
 |z::l=>by
  rw[List.cons_append,jr,NQ s y l]
  by_cases h:kR y s=true
  ·simp[h]
  ·simp[h,jr]
theorem O8{s:au}:∀{l:List au}{j:Nat},jr s l=some j→∃y,l[j]? =some y∧kR y s=true
 |[],j,h=>by simp[jr]at h
 |z::l,j,h=>by
  rw[jr]at h
  split at h
  ·rename_i k hk
   cases h
   obtain⟨y,h1,h2⟩:=O8 hk
   exact⟨y,by simpa using h1,h2⟩
  ·split at h
   ·rename_i hz;cases h;exact⟨z,by simp,hz⟩
   ·cases h
theorem Oq(s:au):∀(l:List au)(j:Nat)(y y':au),l[j]? =some y→y'.kind=y.kind→y'.name=y.name→jr s (l.set j y')=jr s l
 |[],j,y,y',h,_,_=>by simp at h
 |z::l,0,y,y',h,h1,h2=>by
  simp at h;subst h
  have:kR y' s=kR z s:=by simp[kR,h1,h2]
  simp only[List.set_cons_zero,jr,this]
 |z::l,j+1,y,y',h,h1,h2=>by
  simp only[List.set_cons_succ,jr,Oq s l j y y' (by simpa using h) h1 h2]
def qz(m:List (MK×D))(out:List au):Prop:=zG m∧∀s,jL m (kq s)=(jr s out).map fun(j:Nat)=>D.int .i64 (j:Int)
theorem qz.nil:qz [] []:=⟨fun x h=>by simp at h,fun s=>rfl⟩
theorem qz.snoc{m:List (MK×D)}{out:List au}(h:qz m out)(s:au):qz (jP m (kq s) (.int .i64 (out.length:Int))) (out++[s]):=by
 refine⟨NP h.1 s _,fun t=>?_⟩
 rw[Hi,h.2 t,NQ]
 by_cases hk:kq t=kq s
 ·have:kR s t=true:=(DY s t).1 hk.symm
  simp[hk,this]
 ·have:¬kR s t=true:=fun hc=>hk ((DY s t).2 hc).symm
  simp[hk,this]
theorem qz.set{m:List (MK×D)}{out:List au}(h:qz m out){j:Nat}{y y':au}(hj:out[j]? =some y)(h1:y'.kind=y.kind)(h2:y'.name=y.name):qz m (out.set j y'):=
 ⟨h.1,fun t=>by rw[h.2 t,Oq t out j y y' hj h1 h2]⟩
theorem ZR{m:List (MK×D)}{out:List au}(h:qz m out)(s:au):pH (some [.int,.str]) (.int .i64 0) (.mp m) (.d (.agg [.int .i64 s.kind,.str s.name]))=some (match jr s out with|some j=>(D.int .i64 (j:Int),true)|none=>(.int .i64 0,false)):=by
 have h1:jO (some [.int,.str]) (.d (.agg [.int .i64 s.kind,.str s.name]))=some (kq s):=rfl
 simp only[pH,h1,G1 h.1 s,cond_true,h.2 s]
 cases jr s out<;>rfl
def Ev(y:au)(s:au):au:={y with perms:=dedup (y.perms++s.perms)}
def sU(all out:List au)(s:au):List au:=
 if s.eN&&(rq all s||Cm s.kind s.name)then out else
 match jr s out with
 |some j=>if s.eN then(match out[j]? with|some y=>out.set j (Ev y s)|none=>out)else out++[s]
 |none=>out++[s]
def ir(all:List au)(l:List au):List au:=l.foldl (sU all) []
theorem Dp{all l:List au}{i:Nat}{s:au}(h:l[i]? =some s):ir all (l.take (i+1))=sU all (ir all (l.take i)) s:=by
 rw[eH h,ir,ir,List.foldl_append];rfl
def cE(l:List au):Nat:=(l.map fun s=>s.perms.length).sum
theorem Dm{l:List au}{i:Nat}{s:au}(h:l[i]? =some s):cE (l.take (i+1))=cE (l.take i)+s.perms.length:=by
 rw[eH h];simp[cE]
theorem Hj(l:List au)(i:Nat):cE (l.take i)≤cE l:=by
 have h:cE (l.take i++l.drop i)=cE (l.take i)+cE (l.drop i):=by
  unfold cE
  rw[List.map_append,List.sum_append]
 rw[List.take_append_drop]at h
 omega
theorem Hk(l:List (List UInt8)):(dedup l).length ≤l.length:=by
 have:=Hz l []
 simpa[dedup]using this
theorem Vi(all out:List au)(s:au):(sU all out s).length ≤out.length+1:=by
 unfold sU
 repeat' split
 all_goals simp
theorem NR(all l:List au)(i:Nat):(ir all (l.take i)).length ≤i:=by
 induction i with
 |zero=>simp[ir]
 |succ i ih=>
  cases h:l[i]? with
  |none=>
   rw[List.take_of_length_le (by have:=List.getElem?_eq_none_iff.1 h;omega)]at ih ⊢
   omega
  |some s=>
   rw[Dp h]
   have:=Vi all (ir all (l.take i)) s
   omega
theorem Ur{all out:List au}{s:au}{n:Nat}(h:∀y∈out,y.perms.length≤n):∀y∈sU all out s,y.perms.length≤n+s.perms.length:=by
 intro y hy
 unfold sU at hy
 split at hy
 ·have:=h y hy;omega
 ·have app:y∈out++[s]→y.perms.length≤n+s.perms.length:=fun hy=>by
   rcases List.mem_append.1 hy with hy|hy
   ·have:=h y hy;omega
   ·rw[List.mem_singleton.1 hy];omega
  split at hy
  ·split at hy
   ·split at hy
    ·rename_i j _ _ z hz
     rcases List.mem_or_eq_of_mem_set hy with hy|hy
     ·have:=h y hy;omega
     ·subst hy
      have h1:=h z (List.mem_of_getElem? hz)
      have h2:=Hk (z.perms++s.perms)
      simp only[Ev,List.length_append]at h2 ⊢
      omega
    ·have:=h y hy;omega
   ·exact app hy
  ·exact app hy
theorem UG(all l:List au)(i:Nat):∀y∈ir all (l.take i),y.perms.length≤cE (l.take i):=by
 induction i with
 |zero=>intro y hy;simp[ir]at hy
 |succ i ih=>
  cases h:l[i]? with
  |none=>
   have h1:l.length≤i:=List.getElem?_eq_none_iff.1 h
   rw[List.take_of_length_le h1]at ih
   rw[List.take_of_length_le (by omega)]
   exact ih
  |some s=>
   rw[Dp h,Dm h]
   exact Ur ih
def kc:List au→List au→Option (Int×au)
 |_,[]=>none
 |pre,s::l=>if pC pre s=0 then kc (pre++[s]) l else some (pC pre s,s)
def pU(out:List au):SV:=match out with
 |[]=>.d (.sl .nil gp [])
 |out=>.bt 6 (bg out)
theorem Hl:∀(cs:List D){l:List SV}{r:List D},cW l=some r→cW (cs.map SV.d++l)=some (cs++r)
 |[],l,r,h=>h
 |c::cs,l,r,h=>by
  simp only[List.map_cons,List.cons_append,cW,bF,Hl cs h]
def kW(s:au):List D:=[.int .i64 s.kind,.str s.name,.bool s.eN,bB 1 (bU s.perms),.int .i64 s.line,.int .i64 s.fY]
theorem DL(s:au)(l:List au):bA (bg (s::l))=(kW s).map .d ++bA (bg l):=rfl
theorem Bc:∀(l:List au),cW (bA (bg l))=some (l.flatMap kW)
 |[]=>rfl
 |s::l=>by rw[DL,List.flatMap_cons];exact Hl _ (Bc l)
theorem O9:∀(l:List au),(bA (bg l)).length =l.length*6
 |[]=>rfl
 |s::l=>by rw[DL,List.length_append,O9 l,List.length_cons];simp[kW];omega
theorem A8:∀(l:List au),eP true 6 l.length (l.flatMap kW)=some (bg l)
 |[]=>rfl
 |s::l=>by
  have ih:=A8 l
  have h1:((s::l).flatMap kW).drop 6=l.flatMap kW:=rfl
  have h2:((s::l).flatMap kW).take 6=kW s:=rfl
  have h3:6≤((s::l).flatMap kW).length :=by simp[kW]
  simp only[List.length_cons,eP,h1,h2,ih,if_pos h3]
  rfl
theorem Ot:∀(l:List au)(j:Nat)(y:au),l[j]? =some y→(bA (bg l))[j*6+3]? =some (.d (bB 1 (bU y.perms)))
 |[],j,y,h=>by simp at h
 |s::l,0,y,h=>by simp at h;subst h;rfl
 |s::l,j+1,y,h=>by
  rw[DL,List.getElem?_append_right (by simp[kW];omega)]
  have:(j+1)*6+3-((kW s).map SV.d).length =j*6+3:=by simp[kW];omega
  rw[this]
  exact Ot l j y (by simpa using h)
theorem Pa:∀(l:List au)(j:Nat)(y:au)(p:List (List UInt8)),l[j]? =some y→(bA (bg l)).set (j*6+3) (.d (bB 1 (bU p)))=bA (bg (l.set j {y with perms:=p}))
 |[],j,y,p,h=>by simp at h
 |s::l,0,y,p,h=>by simp at h;subst h;rfl
 |s::l,j+1,y,p,h=>by
  rw[DL,List.set_append_right _ _ (by simp[kW];omega)]
  have:(j+1)*6+3-((kW s).map SV.d).length =j*6+3:=by simp[kW];omega
  rw[this,Pa l j y p (by simpa using h)]
  rfl
end Go.Proofs.Ytimbllcalipehaa.Ab
namespace Go.Proofs.Ytimbllcalipehaa.Ab
open Go
set_option linter.unusedVariables false
set_option maxRecDepth 4000
theorem Us{x:D}(h1:x.cells=[x])(bV:x.one=true):aB Try.prog gl 67 [.d x] (.cS (.func 82) [] [.aS x 0]):=by
 refine WR bl (fn:=Try.f67) (c:=J8) rfl rfl (bG (fn:=Try.f67) (by kernel_rfl) (by kernel_rfl) (by kernel_rfl)) bV rfl (b:=0) (t:=2) (hh:=gb) (fun _=>?_)
 show aw Try.prog gl _ gb J8 _ (enter 4 _)
 rw[abK]
 have h2:ay (.d x)=some [.d x]:=by simp[ay,h1]
 simp only[h2,sS,sT,sZ]
 first|exact⟨rfl,.inr rfl,rfl,rfl⟩|exact⟨.inr trivial,rfl,rfl⟩|exact⟨rfl,.inr trivial,rfl,rfl⟩
theorem DZ(x y:D)(i j:Nat):aR [(i,.v (.d x)),(j,.v (.d y))]=some [(i,x),(j,y)]:=rfl
theorem xg{m:List (MK×D)}(h:zG m)(s:au)(d:D):mI m (.s [.int .i64 s.kind,.str s.name]) d=some (jP m (kq s) d):=by
 have:=G1 h s
 unfold mI
 show cond (qQ m (kq s)) _ _=_
 rw[this];rfl
theorem Bo(x:SV):ag false 1 0 [x]=some x:=rfl
theorem Vj(c l k:Int)(n:List UInt8):cY Try.prog 30 [(0,.int .i64 c),(1,.agg [.int .i64 l,.int .i64 k]),(2,.str n)]=some (.agg [.int .i64 c,.int .i64 l,.int .i64 k,.str n]):=by kernel_rfl
theorem yV:cY Try.prog 30 []=some (.agg [.int .i64 0,.int .i64 0,.int .i64 0,.str []]):=by kernel_rfl
theorem Ou(k:Int)(n:List UInt8):cY Try.prog 126 [(0,.int .i64 k),(1,.str n)]=some (.agg [.int .i64 k,.str n]):=by kernel_rfl
theorem xv(k:Int)(n:List UInt8):jO (some [.int,.str]) (.d (.agg [.int .i64 k,.str n]))=some (.s [.int .i64 k,.str n]):=rfl
def F6(f:List SV)(al:SV)(m:List (MK×D)):List af:=[.cells [.d (.sl .nil 0 [])],.cells f,.cells [al],.map m,.one (.m 3)]
def rI(l:List au)(k:Nat)(ax:List af):Prop:=∃m,ax=EN (bS 6 (bg (l.take k))) m∧oQ m (l.take k)∧kc (l.take k) (l.drop k)=kc [] l
def rX(l:List au)(x:Ex)(ax:List af):Prop:=x=.ret ∧∃c s m al,kc [] l=some (c,s)∧ax=F6 [.d (.int .i64 c),.d (.int .i64 s.line),.d (.int .i64 s.fY),.d (.str s.name)] al m
theorem IM(f:List SV)(hf:(f.all fun x=>x.mN&&x.ar)=true)(al:SV)(ha:(al.mN&&al.ar)=true)(m:List (MK×D)):(F6 f al m).all (jw 5)=true:=by
 simp only[F6,List.all_cons,List.all_nil,jw,hf,ha,Bool.and_true,Bool.true_and]
 rfl
theorem zd(sz:Nat)(L:List D):(bS sz L).mN =true∧(bS sz L).ar =true:=by cases L<;>exact⟨rfl,rfl⟩
theorem abO(k:IntKind)(a b:Int):ah (some (false,[.int])) .neq (.d (.int k a)) (.d (.int k b))=some (.d (.bool (a != b))):=by simp[ah,eW,iq]
theorem Wa:ay (.d (.sl .nil 0 []))=some [.d (.sl .nil 0 [])]:=rfl
theorem dE(a b c d:D):ay (.d (.agg [a,b,c,d]))=some [.d a,.d b,.d c,.d d]:=rfl
theorem QE(a b:SV):setAt [a] 0 [b]=[b]:=rfl
theorem eI(a b c d e f g h:SV):setAt [a,b,c,d] 0 [e,f,g,h]=[e,f,g,h]:=rfl
theorem ada(a b c d e f:af):[a,b,c,d,e,f].take 5=[a,b,c,d,e]:=rfl
theorem dJ{α:Type}(a b c d:α):[a,b,c,d].length =4:=rfl
theorem Yp(l:List au)(hl:l.length≤2^30)(k:Nat)(d:D)(ax:List af)(hI:rI l k ax)(hd:(bg l)[k]? =some d):
  aw Try.prog gl (aB Try.prog gl) qw (F4 vD) (fun x e1=>x=.normal ∧aw Try.prog gl (aB Try.prog gl) qw (F5 vD) (fun x e2=>(e2.boxes.take 5).all (jw 5)=true∧vK (rI l) (rX l) (k+1) x (e2.boxes.take 5)) e1) ⟨b8 pM (some 18) (.v (.d d)),ax⟩:=by
 obtain⟨m,rfl,hm,cN⟩:=hI
 obtain⟨s,hs,rfl⟩:∃s,l[k]? =some s∧d=s.enc:=by
  rw[bg,List.getElem?_map,Option.map_eq_some_iff]at hd
  obtain⟨s,h1,h2⟩:=hd
  exact⟨s,h1,h2.symm⟩
 have hk:k<l.length:=(List.getElem?_eq_some_iff.1 hs).1
 rw[Bn hs,kc]at cN
 refine(abM _ s.enc (bS 6 (bg (l.take k))) m (fun x bs=>bs.all (jw 5)=true∧vK (rI l) (rX l) (k+1) x bs)).mpr ?_
 simp only[sS,sT,sZ,kK,jK,mD,Bo,lA,fh]
 refine eO (Vg (l.take k) s (eQ 6 _) (by simp only[maxLen,List.length_take];omega)) ?_
 simp only[sS,sT,sZ,abO]
 refine And.intro (fun hc=>?_) (fun hc=>?_)
 ·rw[if_neg (by simpa using hc)]at cN
  simp only[Yl,sM,w9,sS,sT,sZ,Vj]
  simp only[Wa,dE,sS,sT,sZ,QE,eI,qK,dJ,and_self,ada]
  refine⟨IM _ rfl _ (by rw[(zd _ _).1,(zd _ _).2];rfl) m,rfl,pC (l.take k) s,s,m,_,cN.symm,rfl⟩
 ·rw[if_pos (by simpa using hc)]at cN
  have hb:((bg (l.take k)).length +[s.enc].length)*72≤140737488355328:=by simp only[gr,List.length_take,List.length_singleton];omega
  simp only[dD,nq,lq,sS,sT,sZ]
  refine iV (u1 6 _) hb ?_
  simp only[DE,qK,sN,kb,sS,sT,sZ]
  have FM:bg (l.take k)++[s.enc]=bg (l.take (k+1)):=by rw[Bm,eH hs]
  rw[FM]
  refine⟨Nat.zero_lt_one,And.intro (fun hr=>?_) (fun hr=>?_)⟩
  ·have hr:s.eN=false:=by simpa using hr
   simp only[u9,sM,DZ,Ou,xv,sS,sT,sZ]
   have ht:bF (.d (.bool true))=some (.bool true):=rfl
   simp only[ht,xg hm.1 s,sS,sT,sZ]
   refine⟨IM _ rfl _ (by rw[(zd _ _).1,(zd _ _).2];rfl) _,_,rfl,?_,?_⟩
   ·rw[eH hs];exact hm.dec hr
   ·rw[eH hs];exact cN
  ·have hr:s.eN=true:=by simpa using hr
   refine⟨IM _ rfl _ (by rw[(zd _ _).1,(zd _ _).2];rfl) m,m,rfl,?_,?_⟩
   ·rw[eH hs];exact hm.eN hr
   ·rw[eH hs];exact cN
def IN(l:List au)(m a:List (MK×D)):List (List SV):=[[.d (.sl .nil 0 [])],[.d (.int .i64 0),.d (.int .i64 0),.d (.int .i64 0),.d (.str [])],[bS 6 (bg l)],[.undef],[.mp m],[.mp a]]
theorem Yq:nH (.d (.sl .nil 0 []))=some (pU []):=rfl
theorem abP(a b c d:SV):setAt [a,b] 0 [c,d]=[c,d]:=rfl
theorem Yr(a b:D):ay (.d (.agg [a,b]))=some [.d a,.d b]:=rfl
theorem ZS(a b:D):ag true 2 0 [.d a,.d b]=some (.d (.agg [a,b])):=rfl
theorem aeZ{α:Type}(a b:α):[a,b].length =2:=rfl
theorem D0{out:List au}{A:List D→Prop}{B:Prop}(h1:out≠[]→A (bg out))(h2:out=[]→B):ga (pU out) 6 A B:=by
 cases out with
 |nil=>exact h2 rfl
 |cons y l=>exact⟨rfl,h1 (by simp)⟩
theorem PO{out:List au}(h:out≠[]):pU out=.bt 6 (bg out):=by
 cases out with
 |nil=>exact absurd rfl h
 |cons y l=>rfl
theorem HY{out:List au}{s:au}{k:SV→Prop}(hb:(out.length+1)*72≤140737488355328)(hk:k (pU (out++[s]))):ck 6 72 (.bt 6 (bg out)) (.full 6 [s.enc]) k:=by
 unfold ck jt
 rw[u1]
 refine⟨by simpa[gr]using hb,?_⟩
 rw[PO (by simp),←Bm]at hk
 exact hk
theorem HA{s:au}{k:SV→Prop}(hk:k (pU [s])):ck 6 72 (pU []) (.full 6 [s.enc]) k:=by
 unfold ck jt
 rw[u1]
 exact⟨by simp,hk⟩
theorem Ys(out:List au):vI (pU out)=some (bS 6 (bg out)):=by cases out<;>rfl
theorem dG(a b c d:D):ag true 4 0 [.d a,.d b,.d c,.d d]=some (.d (.agg [a,b,c,d])):=rfl
theorem ae0(x:SV):1≤[x].length :=Nat.le_refl _
theorem ae1(a b c d:SV):4≤[a,b,c,d].length :=Nat.le_refl _
theorem zw(n:Int):bF (.d (.int .i64 n))=some (.int .i64 n):=rfl
theorem HB:bd (pU [])=some (.d (.int .i64 0)):=rfl
theorem HC:aa (pU [])=pU []:=rfl
theorem PQ(cs:List SV)(i:Nat):ag false 1 i cs=cs[i]? :=rfl
theorem ZT(cs:List SV)(i:Nat)(v:SV):setAt cs i [v]=cs.set i v:=rfl
theorem ZU(l:List au)(hl:l.length≤2^30)(hp:cE l≤2^30)(m:List (MK×D))(hm:oQ m l)(K:SV→Prop)(hK:K (.aK [.d (bB 6 (bg (ir l l))),.d (.agg [.int .i64 0,.int .i64 0,.int .i64 0,.str []])])):
  uD Try.prog gl (aB Try.prog gl) qw ((mG tT).drop 5) (JQ Try.prog Try.f50 K) ⟨pM,EN (bS 6 (bg l)) m⟩:=by
 rw[abN]
 simp only[Bo,fh,sS,sT,sZ,(eQ 6 (bg l)).len,gr,Yq]
 refine sL (fun i a=>qz a (ir l (l.take i))) (fun i a=>[pU (ir l (l.take i)),.d (bB 6 (bg l)),.d (.int .i64 (l.length:Int)),.d (.int .i64 ((i:Nat):Int))]) (fun i a=>IN l m a) l.length [] qz.nil (fun i a hi hJ I hI=>?_) (fun a hJ I=>?_)
 ·simp only[IN,sS,sT,sZ]
  refine And.intro (fun _=>?_) (fun h=>absurd h (by simp;omega))
  obtain⟨s,hs⟩:=get_some hi
  simp only[(eQ 6 (bg l)).at (tg hs),vj,kK,jK,mD,u9,sM,sN,DZ,Ou,Yr,abP,ZS,aeZ,Bo,abG,w6,Yo hm s,ZR hJ s,sS,sT,sZ]
  rw[Dp hs]at hI
  have hlen:=NR l l i
  have RU:=UG l l i
  have agf:=Hj l i
  have k9:s.perms.length≤cE l:=by
   have h1:=Dm hs
   have h2:=Hj l (i+1)
   omega
  generalize ir l (l.take i)=out at hI hJ hlen RU ⊢
  unfold sU at hI
  refine And.intro (fun hr=>?_) (fun hr=>?_)
  ·refine And.intro (fun hd=>?_) (fun hd=>?_)
   ·rw[if_pos (by simp[hr,hd])]at hI
    refine bC (bK hi (by simp only[maxLen];omega)) ?_
    exact hI _ hJ
   ·refine eO (GL _ _) ?_
    simp only[sS,sT,sZ]
    refine And.intro (fun ho=>?_) (fun ho=>?_)
    ·rw[if_pos (by simp[hr,ho])]at hI
     refine bC (bK hi (by simp only[maxLen];omega)) ?_
     exact hI _ hJ
    ·rw[if_neg (by simp[hr,hd,ho])]at hI
     cases zY:jr s out with
     |none=>
      simp only[zY]at hI ⊢
      refine And.intro (fun h=>absurd h (by simp)) (fun _=>?_)
      refine D0 (fun bf=>?_) (fun he=>?_)
      ·simp only[gr,xv,zw,xg hJ.1 s,Bc,A8,lA,dD,nq,lq,sS,sT,sZ,w6]
       refine HY (by omega) ?_
       refine bC (bK hi (by simp only[maxLen];omega)) ?_
       exact hI _ (hJ.snoc s)
      ·subst he
       simp only[HC,HB,xv,zw,xg hJ.1 s,lA,dD,nq,lq,sS,sT,sZ,w6]
       refine HA ?_
       refine bC (bK hi (by simp only[maxLen];omega)) ?_
       exact hI _ (hJ.snoc s)
     |some j=>
      obtain⟨y,hy,hsy⟩:=O8 zY
      have hj:j<out.length:=(List.getElem?_eq_some_iff.1 hy).1
      have hyp:=RU y (List.mem_of_getElem? hy)
      simp only[zY,if_pos hr,hy]at hI ⊢
      refine And.intro (fun _=>?_) (fun h=>absurd h (by simp))
      refine And.intro (fun _=>?_) (fun h=>absurd h (by simp[hr]))
      refine D0 (fun bf=>?_) (fun he=>absurd hj (by rw[he];simp))
      simp only[gr,j7 hj,PQ,Ot out j y hy,sS,sT,sZ]
      refine aZ (Vf (bU y.perms) (by rw[jn];omega)) (j6 _ _) ?_
      rw[←PQ,HW]
      simp only[sS,sT,sZ]
      refine iV (ZJ (eQ 1 _).sv) (by simp only[jn];omega) ?_
      have ae2:bU y.perms++bU s.perms=bU (y.perms++s.perms):=by simp[bU]
      rw[ae2]
      simp only[fh,sS,sT,sZ]
      refine aZ (GI _ (eQ 1 _) (by rw[List.length_append];omega)) (j6 _ _) ?_
      have hg:=A8 (out.set j (Ev y s))
      rw[List.length_set]at hg
      have aT:=Pa out j y (dedup (y.perms++s.perms)) hy
      simp only[fh,u5,j7 hj,sS,sT,sZ,ZT,qK]
      rw[aT]
      refine⟨by rw[O9];omega,?_⟩
      simp only[Bc,sS,sT,sZ]
      refine bC hg ?_
      refine bC (bK hi (by simp only[maxLen];omega)) ?_
      have:=hI a (hJ.set hy rfl rfl)
      rw[PO (by intro h;have h2:=congrArg List.length h;simp only[List.length_set,List.length_nil]at h2;omega)]at this
      exact this
  ·rw[if_neg (by simp[hr])]at hI
   cases zY:jr s out with
   |none=>
    simp only[zY]at hI ⊢
    refine And.intro (fun h=>absurd h (by simp)) (fun _=>?_)
    refine D0 (fun bf=>?_) (fun he=>?_)
    ·simp only[gr,xv,zw,xg hJ.1 s,Bc,A8,lA,dD,nq,lq,sS,sT,sZ,w6]
     refine HY (by omega) ?_
     refine bC (bK hi (by simp only[maxLen];omega)) ?_
     exact hI _ (hJ.snoc s)
    ·subst he
     simp only[HC,HB,xv,zw,xg hJ.1 s,lA,dD,nq,lq,sS,sT,sZ,w6]
     refine HA ?_
     refine bC (bK hi (by simp only[maxLen];omega)) ?_
     exact hI _ (hJ.snoc s)
   |some j=>
    simp only[zY,if_neg (show ¬s.eN=true by simp[hr])]at hI ⊢
    refine And.intro (fun _=>?_) (fun h=>absurd h (by simp))
    refine And.intro (fun h=>absurd h (by simp[hr])) (fun _=>?_)
    refine D0 (fun bf=>?_) (fun he=>?_)
    ·simp only[gr,xv,zw,xg hJ.1 s,Bc,A8,lA,dD,nq,lq,sS,sT,sZ,w6]
     refine HY (by omega) ?_
     refine bC (bK hi (by simp only[maxLen];omega)) ?_
     exact hI _ (hJ.snoc s)
    ·subst he
     simp only[HC,HB,xv,zw,xg hJ.1 s,lA,dD,nq,lq,sS,sT,sZ,w6]
     refine HA ?_
     refine bC (bK hi (by simp only[maxLen];omega)) ?_
     exact hI _ (hJ.snoc s)
 ·simp only[IN,sS,sT,sZ]
  refine And.intro (fun h=>absurd h (by simp)) (fun _=>?_)
  rw[List.take_length]
  simp only[Ys,fh,yV,u5,dE,qK,dJ,ae0,ae1,QE,eI,Bo,dG,sS,sT,sZ]
  exact hK
end Go.Proofs.Ytimbllcalipehaa.Ab
namespace Go.Proofs.Ytimbllcalipehaa.Ab
open Go
set_option linter.unusedVariables false
set_option maxRecDepth 4000
def mQ(l:List au):SV:=match kc [] l with
 |some (c,s)=>.aK [.d (.sl .nil 0 []),.d (.agg [.int .i64 c,.int .i64 s.line,.int .i64 s.fY,.str s.name])]
 |none=>.aK [.d (bB 6 (bg (ir l l))),.d (.agg [.int .i64 0,.int .i64 0,.int .i64 0,.str []])]
theorem Yt:mG tT=(mG tT).take 4++.block 0 (.rangeFunc (.tmp 17) #[18] (F4 vD) (F5 vD))::(mG tT).drop 5:=by kernel_rfl
theorem abQ:((cj qw.gh (F4 vD)).all fun t=> !([2,3,4,5].contains t))=true:=by kernel_rfl
theorem abR:((cj qw.gh (F5 vD)).all fun t=> !([2,3,4,5].contains t))=true:=by kernel_rfl
theorem Xf(t:Nat)(s:Slot)(h:pM[t]? =some s)(hp:Cf s=true):t∈[2,3,4,5]:=by
 by_cases h6:t<6
 ·rcases t with _|_|_|_|_|_|t
  ·cases h;cases hp
  ·cases h;cases hp
  ·simp
  ·simp
  ·simp
  ·simp
  ·omega
 ·exfalso
  unfold pM at h
  rw[List.getElem?_append_right (by simp;omega)]at h
  have:=(List.mem_replicate.1 (List.mem_of_getElem? h)).2
  subst this
  cases hp
theorem abS(f1 f2 f3 f4:D)(h:(f1.one&&f2.one&&f3.one&&f4.one)=true)(al:SV)(m:List (MK×D))(K:SV→Prop)(hK:K (.aK [.d (.sl .nil 0 []),.d (.agg [f1,f2,f3,f4])])):finish Try.prog Try.f50 ⟨pM,F6 [.d f1,.d f2,.d f3,.d f4] al m⟩ K:=by
 show finish Try.prog Try.f50 ⟨pM,[.cells [.d (.sl .nil 0 [])],.cells [.d f1,.d f2,.d f3,.d f4],.cells [al],.map m,.one (.m 3)]⟩ K
 rw[abJ]
 simp only[Bo,dG,sS,sT,sZ]
 exact hK
theorem Ng(aP:List jk){L:List D}{xs:D}(hx:aE 55 L xs)(hs:EM aP L)(hn:aP.length≤maxLen)(hl:(aP.flatMap fl).length ≤2^30)(hp:cE (aP.flatMap fl)≤2^30):
  aB Try.prog gl 50 [.d xs] (mQ (aP.flatMap fl)):=by
 have fR:xs.cells=[xs]:=by cases hx<;>rfl
 have gx:xs.one=true:=by cases hx<;>rfl
 refine Va bl (fn:=Try.f50) (c:=tT) rfl rfl (bG (fn:=Try.f50) (by kernel_rfl) (by kernel_rfl) (by kernel_rfl)) (hh:=qw) Yt (UF aP hx hs hn) rfl (fun ba=>?_)
 show uD Try.prog gl _ qw ((mG tT).take 4) _ (enter 105 _)
 rw[abL]
 simp only[sS,sT,sZ]
 refine aZ (Us fR gx) rfl ?_
 refine⟨rfl,pM,rI (aP.flatMap fl),rX (aP.flatMap fl),rfl,fun i s hi=>?_,rfl,rfl,fun t s ht hp=>?_,?_,fun k d ax hI hd hb=>?_,fun ax hI hb=>?_,fun x ax bf hX hb=>?_⟩
 ·by_cases h6:i<6
  ·rcases i with _|_|_|_|_|_|i
   ·cases hi;exact .inl rfl
   ·cases hi;exact .inl rfl
   ·cases hi;exact .inr ⟨_,rfl,.inl rfl⟩
   ·cases hi;exact .inr ⟨_,rfl,.inl rfl⟩
   ·cases hi;exact .inr ⟨_,rfl,.inl rfl⟩
   ·cases hi;exact .inr ⟨_,rfl,.inl rfl⟩
   ·omega
  ·left
   unfold pM at hi
   rw[List.getElem?_append_right (by simp;omega)]at hi
   exact(List.mem_replicate.1 (List.mem_of_getElem? hi)).2
 ·have hm:=Xf t s ht hp
  have h1:=List.all_eq_true.1 abQ
  have h2:=List.all_eq_true.1 abR
  refine⟨fun h=>?_,fun h=>?_,fun h=>?_⟩
  ·have:=h1 t h;simp at this;simp_all
  ·have:=h2 t h;simp at this;simp_all
  ·subst h;simp at hm
 ·exact⟨[],rfl,oQ.nil,rfl⟩
 ·exact Yp _ hl k d ax hI hd
 ·obtain⟨m,rfl,hm,cN⟩:=hI
  rw[gr,List.drop_length]at cN
  rw[gr,List.take_length]at hm ⊢
  refine ZU _ hl hp m hm _ ?_
  unfold mQ
  rw[←cN]
  rfl
 ·obtain⟨rfl,c,s,m,al,hc,rfl⟩:=hX
  refine⟨rfl,?_⟩
  have hr:mQ (aP.flatMap fl)=.aK [.d (.sl .nil 0 []),.d (.agg [.int .i64 c,.int .i64 s.line,.int .i64 s.fY,.str s.name])]:=by unfold mQ;rw[hc]
  exact abS _ _ _ _ rfl al m _ hr.symm
end Go.Proofs.Ytimbllcalipehaa.Ab
namespace Go.Proofs.Ytimbllcalipehaa.Ab
open Go
set_option linter.unusedVariables false
set_option maxRecDepth 4000
theorem vb(f:Fn)(a b:List SV):aa (.cS f a b)=.cS f a b:=rfl
theorem Nh(f:FuncId)(a b args:List SV)(k:FuncId→List SV→Prop):withFn (.cS (.func f) a b) args k=k f (a++args++b):=rfl
theorem D1(cs:List SV)(o:Nat):aa (.ref cs o)=.ref cs o:=rfl
theorem Wb(s:au):s.cells.map aa=s.cells:=rfl
theorem DM{α:Type}(p:α→Bool)(l:List α):(first p l).isSome =l.any p:=by
 cases h:first p l with
 |some k=>
  obtain⟨x,h1,h2⟩:=y9 h
  exact(List.any_eq_true.2 ⟨x,List.mem_of_getElem? h1,h2⟩).symm
 |none=>
  have:=w7 h
  symm
  rw[Option.isSome_none,List.any_eq_false]
  intro x hx
  obtain⟨j,hj⟩:=List.mem_iff_getElem?.1 hx
  simp[this j x hj]
end Go.Proofs.Ytimbllcalipehaa.Ab
namespace Go.Proofs.Ytimbllcalipehaa.Ab
open Go
set_option linter.unusedVariables false
set_option maxRecDepth 4000
structure AK where
 name:List UInt8
 n8:Int
 aP:List jk
inductive Kb(m:AK):D→Prop
 |mk (xs:D) (L:List D) (hx:aE 55 L xs) (hs:EM m.aP L):Kb m (.agg [.str m.name,.int .i64 m.n8,xs])
def AK.syms(m:AK):List au:=m.aP.flatMap fl
structure RV(m:AK):Prop where
 n:m.aP.length≤2^30
 l:m.syms.length≤2^30
 p:cE m.syms≤2^30
theorem Bp(a b c:D):ay (.d (.agg [a,b,c]))=some [.d a,.d b,.d c]:=rfl
theorem Ak{α:Type}(a b c:α):[a,b,c].length =3:=rfl
theorem D2(a b c:SV):ag false 1 2 [a,b,c]=some c:=rfl
theorem Im(a b c:D):ag true 3 0 [.d a,.d b,.d c]=some (.d (.agg [a,b,c])):=rfl
theorem ic(a b c d:SV):ag false 1 0 [a,b,c,d]=some a:=rfl
theorem HZ:∀(l pre:List au)(c:Int)(s:au),kc pre l=some (c,s)→c≠0
 |[],pre,c,s,h=>by simp[kc]at h
 |y::l,pre,c,s,h=>by
  rw[kc]at h
  split at h
  ·exact HZ l _ c s h
  ·rename_i hc
   cases h
   exact hc
theorem Ut{m:AK}{d:D}(hd:Kb m d)(hm:RV m):aB Try.prog gl 24 [.d d] (mQ m.syms):=by
 cases hd with
 |mk xs L hx hs=>
 refine bZ bl (bG (fn:=Try.f24) (by kernel_rfl) (by kernel_rfl) (by kernel_rfl)) (h:=Kz) ?_;rw[aaP];intro ba
 simp only[Bp,Ak,D2,sS,sT,sZ]
 have hB:=Ng m.aP hx hs (Nat.le_trans hm.n (by decide)) hm.l hm.p
 have e:m.aP.flatMap fl=m.syms:=rfl
 rw[e]at hB
 unfold mQ at hB ⊢
 cases hc:kc [] m.syms with
 |none=>
  simp only[hc]at hB ⊢
  refine call2 hB ?_
  simp only[dE,dJ,eI,dG,sS,sT,sZ]
 |some p=>
  obtain⟨c,s⟩:=p
  simp only[hc]at hB ⊢
  refine call2 hB ?_
  simp only[dE,dJ,eI,dG,sS,sT,sZ]
def tA(l:List au):List au:=match kc [] l with|none=>ir l l|some _=>[]
end Go.Proofs.Ytimbllcalipehaa.Ab
namespace Go.Proofs.Ytimbllcalipehaa.Ab
open Go
set_option maxRecDepth 4000
end Go.Proofs.Ytimbllcalipehaa.Ab
namespace Go.Proofs.Ytimbllcalipehaa.Ab
open Go
set_option maxRecDepth 4000
set_option linter.unusedVariables false
end Go.Proofs.Ytimbllcalipehaa.Ab
set_option maxRecDepth 100000
namespace Go.Proofs.Ytimbllcalipehaa.Ab
open Go
end Go.Proofs.Ytimbllcalipehaa.Ab
namespace Go.Proofs.Ytimbllcalipehaa.Ab
open Go
set_option linter.unusedVariables false
set_option maxRecDepth 4000
section
variable{P:Program}{gl:Nat→Option D}{C:bj}{h:Hints}
def nx(P:Program)(gl:Nat→Option D)(C:bj)(h:Hints)(m:List Code)(Q:Ex→Env→Prop)(x:Ex)(e:Env):Prop:=match x with| .normal =>uD P gl C h m Q e| .exit i=>Q (.exit i) e| .ret =>Q .ret e
end
end Go.Proofs.Ytimbllcalipehaa.Ab
namespace Go.Proofs.Ytimbllcalipehaa.Ab
open Go
set_option maxRecDepth 4000
set_option linter.unusedVariables false
theorem Pb{A:(List SV→List (List SV)→Prop)→Prop}{F:List SV→List (List SV)→Prop}(vs:List SV)(bs:List (List SV))(hA:∀J:List SV→List (List SV)→Prop,J vs bs→A J)(hF:F vs bs):BT A F:=hA F hF
end Go.Proofs.Ytimbllcalipehaa.Ab
namespace Go.Proofs.Ytimbllcalipehaa.Ab
open Go
set_option maxRecDepth 4000
set_option linter.unusedVariables false
end Go.Proofs.Ytimbllcalipehaa.Ab
namespace Go.Proofs.Ytimbllcalipehaa.Ab
open Go
set_option maxRecDepth 4000
set_option linter.unusedVariables false
def DD(l:List (List UInt8)):Prop:=dedup l=l
structure RW(all out:List au):Prop where
 dd:∀y∈out,DD y.perms
 dec:∀y∈out,y.eN=false→rq all y=true
 eN:∀y∈out,y.eN=true→rq all y=false
 one:∀(i j:Nat)y z,out[i]? =some y→out[j]? =some z→y.eN=true→kR z y=true→i=j
theorem RW.nil(all:List au):RW all []:=⟨fun y h=>by simp at h,fun y h=>by simp at h,fun y h=>by simp at h,fun i j y z h=>by simp at h⟩
end Go.Proofs.Ytimbllcalipehaa.Ab
namespace Go.Proofs.Ytimbllcalipehaa.Ab
open Go
set_option maxRecDepth 4000
set_option linter.unusedVariables false
end Go.Proofs.Ytimbllcalipehaa.Ab
namespace Go.Proofs.Ytimbllcalipehaa.Ab
open Go
set_option maxRecDepth 4000
set_option linter.unusedVariables false
end Go.Proofs.Ytimbllcalipehaa.Ab
namespace Go.Proofs.Ytimbllcalipehaa.Ab
open Go
set_option linter.unusedVariables false
set_option maxRecDepth 4000
inductive ak where
 |mk (s:jk) (th el:List ak)
def ak.s:ak→jk| .mk s _ _=>s
def ak.th:ak→List ak| .mk _ a _=>a
def ak.el:ak→List ak| .mk _ _ b=>b
mutual
def ak.sz:ak→Nat
 | .mk _ a b=>1+ak.cB a+ak.cB b
def ak.cB:List ak→Nat
 |[]=>0
 |t::l=>t.sz+ak.cB l
end
mutual
inductive m6:ak→D→Prop
 |mk (s:jk) (th el:List ak) (r5 r6 aY al:D) (rest:List D) (yt ye:D) (Lt Le:List D) (h:rest.length=46) (hl:aE 1 (bU s.list) aY) (ha:aE 1 (bU s.hY) al) (ht:rest[44]? =some yt) (he:rest[45]? =some ye)
   (LK:aE 55 Lt yt) (CN:aE 55 Le ye) (fu:fG th Lt) (fc:fG el Le):m6 (.mk s th el) (.agg (jG s r5 r6 aY al rest))
inductive fG:List ak→List D→Prop
 |nil:fG [] []
 |cons (t:ak) (x:D) (l:List ak) (L:List D) (h:m6 t x) (hl:fG l L):fG (t::l) (x::L)
end
theorem fG.len:∀{l:List ak}{L:List D},fG l L→L.length=l.length
 |[],_,h=>by cases h;rfl
 |t::l,_,h=>by cases h with|cons _ _ _ _ _ hl=>simp[hl.len]
theorem fG.at_:∀{l:List ak}{L:List D},fG l L→∀{i:Nat}{t:ak},l[i]? =some t→∃y,L[i]? =some y∧m6 t y
 |[],_,_,i,t,h=>by simp at h
 |t::l,_,h,0,u,hu=>by cases h with|cons _ x _ _ h hl=>simp at hu;subst hu;exact⟨x,rfl,h⟩
 |t::l,_,h,i+1,u,hu=>by cases h with|cons _ _ _ _ _ hl=>simpa using hl.at_ (by simpa using hu)
theorem ak.zZ:∀{l:List ak}{i:Nat}{t:ak},l[i]? =some t→t.sz≤ak.cB l
 |[],i,t,h=>by simp at h
 |u::l,0,t,h=>by simp at h;subst h;simp[ak.cB]
 |u::l,i+1,t,h=>by
  have:=ak.zZ (l:=l) (i:=i) (t:=t) (by simpa using h)
  simp only[ak.cB];omega
theorem ak.ti:∀(l:List ak),l.length≤ak.cB l
 |[]=>by simp
 | .mk s a b::l=>by
   have:=ak.ti l
   simp only[List.length_cons,ak.cB,ak.sz];omega
theorem ak.Bq(t:ak):t.sz=1+ak.cB t.th+ak.cB t.el:=by cases t;rfl
structure TC(t:ak)(x:D)(c:List SV)(aY al yt ye:D)(Lt Le:List D):Prop where
 is:tS t.s x
 load:aM true 55 (.aS x 0)=some (.d x)
 cells:ay (.d x)=some c
 len:c.length=55
 p0:ag false 1 0 c=some (.d (.int .i64 t.s.kind))
 C5:ag false 1 53 c=some (.d yt)
 C6:ag false 1 54 c=some (.d ye)
 whole:ag true 55 0 c=some (.d x)
 l0:aM false 1 (.aS x 0)=some (.d (.int .i64 t.s.kind))
 l7:aM false 1 (.aS x 7)=some (.d aY)
 l8:aM false 1 (.aS x 8)=some (.d al)
 l53:aM false 1 (.aS x 53)=some (.d yt)
 l54:aM false 1 (.aS x 54)=some (.d ye)
 Ch:aE 1 (bU t.s.list) aY
 KJ:aE 1 (bU t.s.hY) al
 n9:aE 55 Lt yt
 g9:aE 55 Le ye
 fu:fG t.th Lt
 fc:fG t.el Le
theorem m6.out{t:ak}{x:D}(h:m6 t x):∃c aY al yt ye Lt Le,TC t x c aY al yt ye Lt Le:=by
 cases h with
 |mk s th el r5 r6 aY al rest yt ye Lt Le h hl ha ht he LK CN fu fc=>
  have hs:tS s (.agg (jG s r5 r6 aY al rest)):=.mk r5 r6 aY al rest h hl ha
  have F7:(jG s r5 r6 aY al rest)[53]? =some yt:=ht
  have F8:(jG s r5 r6 aY al rest)[54]? =some ye:=he
  have c53:(j4 s r5 r6 aY al rest)[53]? =some (.d yt):=by
   show(rest.map SV.d)[44]? =_
   rw[List.getElem?_map,ht];rfl
  have c54:(j4 s r5 r6 aY al rest)[54]? =some (.d ye):=by
   show(rest.map SV.d)[45]? =_
   rw[List.getElem?_map,he];rfl
  exact⟨j4 s r5 r6 aY al rest,aY,al,yt,ye,Lt,Le,hs,hs.load,rfl,by rw[oC,h],rfl,by rw[ag,cond_false,c53],by rw[ag,cond_false,c54],HX s r5 r6 aY al rest h,rfl,
   DJ _ 7 _ rfl,DJ _ 8 _ rfl,DJ _ 53 _ F7,DJ _ 54 _ F8,hl,ha,LK,CN,fu,fc⟩
theorem nF(x:D)(n:Nat):cV (.aS x 0) n=some (.aS x n):=by simp[cV]
theorem pv{z c:List SV}{n:Nat}(hz:z.length=n)(h:c.length=n):setAt z 0 c=c:=NO (by rw[h,hz])
mutual
def ak.nb:ak→Nat
 | .mk s a b=>if s.kind==18 then 1+ak.cz a+ak.cz b else 0
def ak.cz:List ak→Nat
 |[]=>0
 |t::l=>t.nb+ak.cz l
end
theorem ak.Jo(t:ak):t.nb=if t.s.kind==18 then 1+ak.cz t.th+ak.cz t.el else 0:=by cases t;rfl
theorem ak.zH(l:List ak):ak.cz l=(l.map ak.nb).sum :=by
 induction l with
 |nil=>rfl
 |cons t l ih=>simp[ak.cz,ih]
theorem ak.Pc{l:List ak}{i:Nat}{t:ak}(h:l[i]? =some t):ak.cz (l.take (i+1))=ak.cz (l.take i)+t.nb:=by
 rw[eH h,ak.zH,ak.zH];simp
mutual
theorem ak.adb:∀(t:ak),t.nb≤t.sz
 | .mk s a b=>by
   have h1:=ak.tj a
   have h2:=ak.tj b
   simp only[ak.nb,ak.sz]
   split<;>omega
theorem ak.tj:∀(l:List ak),ak.cz l≤ak.cB l
 |[]=>by simp[ak.cz]
 |t::l=>by
  have h1:=ak.adb t
  have h2:=ak.tj l
  simp only[ak.cz,ak.cB];omega
end
theorem G2:∀(n:Nat)(ts:List ak){L:List D}{x:D},ak.cB ts≤n→aE 55 L x→fG ts L→ak.cB ts≤2^30→aB Try.prog gl 37 [.d x] (.d (.int .i64 (ak.cz ts:Int)))
 |0,ts,L,x,hn,hx,hs,hb=>by
  have h0:=ak.ti ts
  have:ts=[]:=List.length_eq_zero_iff.1 (by omega)
  subst this
  cases hs
  refine bZ bl (bG (fn:=Try.f37) (by kernel_rfl) (by kernel_rfl) (by kernel_rfl)) (h:=Lz) ?_;rw[Qy];intro ba
  simp only[hx.len,sS,sT,sZ]
  refine gS (fun i=>[.d (.int .i64 0),.d x,.d (.int .i64 ((0:Nat):Int)),.d (.int .i64 ((i:Nat):Int))]) (fun i=>[]) 0 (fun i hi I hI=>absurd hi (by omega)) (fun I=>?_)
  simp only[sS,sT,sZ]
  refine And.intro (fun h=>absurd h (by simp)) (fun _=>?_)
  rfl
 |n+1,ts,L,x,hn,hx,hs,hb=>by
  have h0:=ak.ti ts
  have bW:ts.length≤maxLen:=Nat.le_trans (Nat.le_trans h0 hb) (by decide)
  refine bZ bl (bG (fn:=Try.f37) (by kernel_rfl) (by kernel_rfl) (by kernel_rfl)) (h:=Lz) ?_;rw[Qy];intro ba
  simp only[hx.len,hs.len,sS,sT,sZ]
  refine gS (fun i=>[.d (.int .i64 (ak.cz (ts.take i):Int)),.d x,.d (.int .i64 (ts.length:Int)),.d (.int .i64 ((i:Nat):Int))]) (fun i=>[]) ts.length (fun i hi I hI=>?_) (fun I=>?_)
  ·simp only[sS,sT,sZ]
   refine And.intro (fun _=>?_) (fun h=>absurd h (by simp;omega))
   obtain⟨t,ht⟩:=get_some hi
   obtain⟨y,hy,gA⟩:=hs.at_ ht
   obtain⟨c,aY,al,yt,ye,Lt,Le,hc⟩:=gA.out
   have eT:=pv (z:=e4) (c:=c) rfl hc.len
   simp only[sZ]at eT
   have hz:=ak.zZ ht
   have yg:=t.Bq
   have iB:=ak.Pc ht
   have F9:=ak.tj (ts.take (i+1))
   rw[iB]at hI
   have hle:ak.cz (ts.take (i+1))≤ak.cz ts:=by
    rw[ak.zH,ak.zH,←List.take_append_drop (i+1) ts,List.map_append,List.sum_append,List.take_append_drop];omega
   have agh:=ak.tj ts
   rw[t.Jo]at hI iB
   simp only[hx.at hy,hc.load,hc.cells,hc.len,eT,hc.p0,sS,sT,sZ]
   refine And.intro (fun hk=>?_) (fun hk=>?_)
   ·rw[if_pos hk]at hI iB
    have k1:=G2 n t.th (by omega) hc.n9 hc.fu (by omega)
    have k2:=G2 n t.el (by omega) hc.g9 hc.fc (by omega)
    simp only[hc.C5,hc.C6,sS,sT,sZ]
    refine eO k1 ?_
    refine bC (Bz (m:=1) (n:=ak.cz t.th) (by omega)) ?_
    refine eO k2 ?_
    refine bC (Bz (m:=1+ak.cz t.th) (n:=ak.cz t.el) (by omega)) ?_
    refine bC (Bz (m:=ak.cz (ts.take i)) (n:=1+ak.cz t.th+ak.cz t.el) (by omega)) ?_
    refine bC (bK hi bW) ?_
    exact hI
   ·rw[if_neg (by rw[hk];simp),Nat.add_zero]at hI
    refine bC (bK hi bW) ?_
    exact hI
  ·simp only[sS,sT,sZ]
   refine And.intro (fun h=>absurd h (by simp)) (fun _=>?_)
   rw[List.take_length]
end Go.Proofs.Ytimbllcalipehaa.Ab
namespace Go.Proofs.Ytimbllcalipehaa.Ab
open Go
set_option linter.unusedVariables false
set_option maxRecDepth 4000
theorem Eb{α β:Type}{f:α→List β}{c:Nat}:∀{l:List α},(∀x∈l,(f x).length ≤c)→(l.flatMap f).length ≤l.length*c
 |[],_=>by simp
 |x::l,h=>by
  have h1:=h x (by simp)
  have h2:=Eb (l:=l) fun y hy=>h y (by simp[hy])
  rw[List.flatMap_cons,List.length_append,List.length_cons,Nat.succ_mul]
  omega
theorem PR{c:Nat}:∀{W:List au},(∀x∈W,x.perms.length≤c)→cE W≤W.length*c
 |[],_=>by simp[cE]
 |x::W,h=>by
  have h1:=h x (by simp)
  have h2:=PR (W:=W) fun y hy=>h y (by simp[hy])
  unfold cE at h2 ⊢
  rw[List.map_cons,List.sum_cons,List.length_cons,Nat.succ_mul]
  omega
theorem Hm(s:jk)(h1:s.list.length≤40)(h2:s.hY.length≤40):(fl s).length ≤41∧∀x∈fl s,x.perms.length≤40:=by
 have hd:=Hk s.list
 constructor
 ·unfold fl
  split
  ·rw[List.length_cons]
   split
   ·rw[List.length_map];omega
   ·simp
  ·split
   ·simp
   ·split
    ·rw[List.length_map];omega
    ·simp
 ·intro x h
  unfold fl at h
  split at h
  ·rcases List.mem_cons.1 h with rfl|h
   ·show(if pL s.kind==1 then dedup s.list else []).length ≤40
    split
    ·omega
    ·simp
   ·split at h
    ·obtain⟨a,_,rfl⟩:=List.mem_map.1 h
     simp
    ·cases h
  ·split at h
   ·rcases List.mem_cons.1 h with rfl|h
    ·show(dedup s.list).length ≤40
     omega
    ·cases h
   ·split at h
    ·obtain⟨a,_,rfl⟩:=List.mem_map.1 h
     simp
    ·cases h
mutual
def ak.pf:ak→Nat→Option Nat
 | .mk s a b,n=>match n with
   |0=>none
   |n+1=>if 30<s.list.length then none else if 30<s.hY.length then none else(ak.fQ a n).bind (ak.fQ b)
def ak.fQ:List ak→Nat→Option Nat
 |[],n=>some n
 |t::l,n=>(t.pf n).bind (ak.fQ l)
end
theorem ak.Rb(t:ak):t.pf 0=none:=by cases t;rfl
theorem ak.abT(t:ak)(n:Nat):t.pf (n+1)=if 30<t.s.list.length then none else if 30<t.s.hY.length then none else(ak.fQ t.th n).bind (ak.fQ t.el):=by cases t;rfl
theorem ak.H0:∀(a b:List ak)(n:Nat),ak.fQ (a++b) n=(ak.fQ a n).bind (ak.fQ b)
 |[],b,n=>rfl
 |t::a,b,n=>by
  rw[List.cons_append,ak.fQ,ak.fQ]
  cases t.pf n with
  |none=>rfl
  |some m=>exact ak.H0 a b m
theorem ak.Xg{l:List ak}{i:Nat}{t:ak}(h:l[i]? =some t)(n:Nat):ak.fQ (l.take (i+1)) n=(ak.fQ (l.take i) n).bind t.pf:=by
 rw[eH h,ak.H0]
 congr 1
 funext m
 rw[ak.fQ]
 cases t.pf m<;>rfl
theorem ak.Yu{l:List ak}{i n:Nat}(h:ak.fQ (l.take i) n=none):ak.fQ l n=none:=by
 rw[←List.take_append_drop i l,ak.H0,h];rfl
mutual
def ak.ok:ak→Prop
 | .mk s a b=>s.list.length≤30∧s.hY.length≤30∧ak.pg a∧ak.pg b
def ak.pg:List ak→Prop
 |[]=>True
 |t::l=>t.ok∧ak.pg l
end
theorem ak.ok_eq(t:ak):t.ok=(t.s.list.length≤30∧t.s.hY.length≤30∧ak.pg t.th∧ak.pg t.el):=by cases t;rfl
theorem ak.Ew:∀{l:List ak},ak.pg l→∀t∈l,t.ok
 |[],_,t,h=>by simp at h
 |u::l,h,t,ht=>by
  simp only[ak.pg]at h
  rcases List.mem_cons.1 ht with rfl|ht
  ·exact h.1
  ·exact ak.Ew h.2 t ht
mutual
theorem ak.abU:∀(t:ak)(n m:Nat),t.pf n=some m→m+t.sz=n∧t.ok
 |t,0,m,h=>by rw[ak.Rb]at h;cases h
 | .mk s a b,n+1,m,h=>by
   simp only[ak.pf]at h
   split at h
   ·cases h
   ·split at h
    ·cases h
    ·obtain⟨k,h1,h2⟩:=Option.bind_eq_some_iff.1 h
     have k1:=ak.zx a n k h1
     have k2:=ak.zx b k m h2
     simp only[ak.sz,ak.ok]
     exact⟨by omega,by omega,by omega,k1.2,k2.2⟩
theorem ak.zx:∀(l:List ak)(n m:Nat),ak.fQ l n=some m→m+ak.cB l=n∧ak.pg l
 |[],n,m,h=>by simp[ak.fQ]at h;simp[ak.cB,ak.pg,h]
 |t::l,n,m,h=>by
  simp only[ak.fQ]at h
  obtain⟨k,h1,h2⟩:=Option.bind_eq_some_iff.1 h
  have k1:=ak.abU t n k h1
  have k2:=ak.zx l k m h2
  simp only[ak.cB,ak.pg]
  exact⟨by omega,k1.2,k2.2⟩
end
theorem aE.tU{sz:Nat}{L:List D}{x:D}(h:aE sz L x)(hw:x.Wf):L.length≤maxLen:=by
 cases h with
 |nil s h=>subst h;simp
 |ro=>exact hw.1
theorem sub_one{n:Nat}(h1:n+1≤2^40):ah none .sub (.d (.int .i64 ((n+1:Nat):Int))) (.d (.int .i64 1))=some (.d (.int .i64 (n:Int))):=by
 have h2:(2^40:Nat)=1099511627776:=by decide
 have hw:IntKind.i64.wrap (((n+1:Nat):Int)-1)=(n:Int):=by
  rw[wrap_i64 (by omega) (by omega)];omega
 simp only[ah,eW,iq,hw,↓reduceIte]
theorem BA(o:Option Nat):decide (orM o<0)=o.isNone:=by
 cases o with
 |none=>decide
 |some k=>exact decide_eq_false (by simp only[orM];omega)
theorem HD:∀(N:Nat)(ts:List ak){L:List D}{x:D}(n:Nat),ak.cB ts≤N→aE 55 L x→fG ts L→n≤2^40→aB Try.prog gl 28 [.d x,.d (.int .i64 (n:Int))] (.d (.int .i64 (orM (ak.fQ ts n))))
 |0,ts,L,x,n,hN,hx,hs,hn=>by
  have h0:=ak.ti ts
  have:ts=[]:=List.length_eq_zero_iff.1 (by omega)
  subst this
  cases hs
  refine bZ bl (bG (fn:=Try.f28) (by kernel_rfl) (by kernel_rfl) (by kernel_rfl)) (h:=Ly) ?_;rw[Qx];intro ba
  simp only[hx.len,sS,sT,sZ]
  refine gS (fun i=>[.d x,.d (.int .i64 (n:Int)),.d (.int .i64 ((0:Nat):Int)),.d (.int .i64 ((i:Nat):Int))]) (fun i=>[]) 0 (fun i hi I hI=>absurd hi (by omega)) (fun I=>?_)
  simp only[sS,sT,sZ]
  refine And.intro (fun h=>absurd h (by simp)) (fun _=>?_)
  rfl
 |N+1,ts,L,x,n,hN,hx,hs,hn=>by
  refine bZ bl (bG (fn:=Try.f28) (by kernel_rfl) (by kernel_rfl) (by kernel_rfl)) (h:=Ly) ?_;rw[Qx];intro ba
  have bW:ts.length≤maxLen:=by
   rw[←hs.len]
   exact hx.tU ba.1
  simp only[hx.len,hs.len,sS,sT,sZ]
  refine sL (α:=Nat) (fun i m=>ak.fQ (ts.take i) n=some m) (fun i m=>[.d x,.d (.int .i64 (m:Int)),.d (.int .i64 (ts.length:Int)),.d (.int .i64 ((i:Nat):Int))]) (fun i m=>[]) ts.length n rfl (fun i m hi hJ I hI=>?_) (fun m hJ I=>?_)
  ·simp only[sS,sT,sZ]
   refine And.intro (fun _=>?_) (fun h=>absurd h (by simp;omega))
   obtain⟨t,ht⟩:=get_some hi
   obtain⟨y,hy,gA⟩:=hs.at_ ht
   obtain⟨c,aY,al,yt,ye,Lt,Le,hc⟩:=gA.out
   have hz:=ak.zZ ht
   have yg:=t.Bq
   have jh:=ak.Xg ht n
   have C7:=fun h=>ak.Yu (l:=ts) (i:=i+1) (n:=n) h
   have Ga:=(ak.zx _ _ _ hJ).1
   rw[hJ,Option.bind_some]at jh
   cases m with
   |zero=>
    rw[ak.Rb]at jh
    refine And.intro (fun _=>?_) (fun h=>absurd h (by decide))
    rw[C7 jh]
    rfl
   |succ m=>
   refine And.intro (fun h=>absurd h (by simp;omega)) (fun _=>?_)
   rw[t.abT]at jh
   simp only[hx.at hy,nF,hc.l7,hc.l8,hc.l53,hc.l54,hc.Ch.len,hc.KJ.len,jn,sS,sT,sZ]
   refine And.intro (fun h=>?_) (fun h=>?_)
   ·rw[if_pos (by simp at h;omega)]at jh
    rw[C7 jh]
    rfl
   rw[if_neg (by simp at h;omega)]at jh
   refine And.intro (fun h=>?_) (fun h=>?_)
   ·rw[if_pos (by simp at h;omega)]at jh
    rw[C7 jh]
    rfl
   rw[if_neg (by simp at h;omega)]at jh
   refine bC (sub_one (by omega)) ?_
   refine eO (HD N t.th m (by omega) hc.n9 hc.fu (by omega)) ?_
   cases h1:ak.fQ t.th m with
   |none=>
    rw[h1]at jh
    rw[C7 jh]
    simp only[vi,BA,Option.isSome_none,Option.isNone_none,sS,sT,sZ]
    exact⟨fun h=>absurd h (by decide),fun _=>⟨fun _=>rfl,fun h=>absurd h (by decide)⟩⟩
   |some k=>
    have hk:=(ak.zx _ _ _ h1).1
    rw[h1,Option.bind_some]at jh
    simp only[vi,BA,Option.isSome_some,Option.isNone_some,sS,sT,sZ]
    refine⟨fun _=>?_,fun h=>absurd h (by decide)⟩
    refine eO (HD N t.el k (by omega) hc.g9 hc.fc (by omega)) ?_
    cases h2:ak.fQ t.el k with
    |none=>
     rw[h2]at jh
     rw[C7 jh]
     simp only[vi,BA,Option.isSome_none,Option.isNone_none,sS,sT,sZ]
     exact⟨fun _=>rfl,fun h=>absurd h (by decide)⟩
    |some k2=>
     rw[h2]at jh
     simp only[vi,BA,Option.isSome_some,Option.isNone_some,sS,sT,sZ]
     refine⟨fun h=>absurd h (by decide),fun _=>?_⟩
     refine bC (bK hi bW) ?_
     exact hI k2 jh
  ·simp only[sS,sT,sZ]
   refine And.intro (fun h=>absurd h (by simp)) (fun _=>?_)
   rw[List.take_length]at hJ
   rw[hJ]
   rfl
structure bT where
 name:List UInt8
 n8:Int
 aP:List ak
inductive jR(m:bT):D→Prop
 |mk (xs:D) (L:List D) (hx:aE 55 L xs) (hs:fG m.aP L):jR m (.agg [.str m.name,.int .i64 m.n8,xs])
structure pN(l:List bT)(L:List D):Prop where
 len:L.length=l.length
 at_:∀{i:Nat}{m:bT},l[i]? =some m→∃y,L[i]? =some y∧jR m y
def ns(l:List bT):Bool:=decide (l.length≤8)&&l.all fun m=>(ak.fQ m.aP 120).isSome
theorem IP(a b c:D):aM false 1 (.aS (.agg [a,b,c]) 2)=some (.d c):=rfl
theorem Vk{l:List bT}{L:List D}{x:D}(hx:aE 3 L x)(hl:pN l L):aB Try.prog gl 9 [.d x] (.d (.bool (ns l))):=by
 refine bZ bl (bG (fn:=Try.f9) (by kernel_rfl) (by kernel_rfl) (by kernel_rfl)) (h:=h9) ?_;rw[ac4];intro ba
 have bW:l.length≤maxLen:=by
  rw[←hl.len]
  exact hx.tU ba.1
 simp only[hx.len,hl.len,sS,sT,sZ]
 refine And.intro (fun h=>?_) (fun h=>?_)
 ·have:ns l=false:=by unfold ns;rw[decide_eq_false (by simp at h;omega)];rfl
  rw[this]
 have h8:decide (l.length≤8)=true:=decide_eq_true (by simp at h;omega)
 refine nh (fun i=>∀j m,j<i→l[j]? =some m→(ak.fQ m.aP 120).isSome =true) (fun i=>[.d x,.d (.int .i64 (l.length:Int)),.d (.int .i64 ((i:Nat):Int))]) (fun i=>[]) l.length (fun j m hj _=>by omega) (fun i hi hJ I hI=>?_) (fun hJ I=>?_)
 ·simp only[sS,sT,sZ]
  refine And.intro (fun _=>?_) (fun h=>absurd h (by simp;omega))
  obtain⟨m,hm⟩:=get_some hi
  obtain⟨y,hy,j1⟩:=hl.at_ hm
  cases j1 with
  |mk xs Lm sr ee=>
  simp only[hx.at hy,nF,IP,sS,sT,sZ]
  refine eO (HD _ m.aP 120 (Nat.le_refl _) sr ee (by decide)) ?_
  simp only[BA,sS,sT,sZ]
  refine And.intro (fun h=>?_) (fun h=>?_)
  ·have:ns l=false:=by
    unfold ns
    rw[Bool.and_eq_false_iff]
    right
    rw[List.all_eq_false]
    exact⟨m,List.mem_of_getElem? hm,by cases hc:ak.fQ m.aP 120<;>simp_all⟩
   rw[this]
  ·refine bC (bK hi bW) ?_
   refine hI fun j m' hj kD=>?_
   rcases Nat.lt_or_ge j i with h2|h2
   ·exact hJ j m' h2 kD
   ·have:j=i:=by omega
    subst this
    rw[hm]at kD
    cases kD
    cases hc:ak.fQ m.aP 120<;>simp_all
 ·simp only[sS,sT,sZ]
  refine And.intro (fun h=>absurd h (by simp)) (fun _=>?_)
  have:ns l=true:=by
   unfold ns
   rw[h8,Bool.true_and,List.all_eq_true]
   intro m hm
   obtain⟨j,hj⟩:=List.mem_iff_getElem?.1 hm
   exact hJ j m (List.getElem?_eq_some_iff.1 hj).1 hj
  rw[this]
structure dC(ts:List ak):Prop where
 sz:ak.cB ts≤120
 ok:ak.pg ts
theorem dC.of{ts:List ak}{m:Nat}(h:ak.fQ ts 120=some m):dC ts:=by
 have:=ak.zx ts 120 m h
 exact⟨by omega,this.2⟩
theorem dC.th{ts:List ak}(h:dC ts){t:ak}(ht:t∈ts):dC t.th∧dC t.el:=by
 obtain⟨i,hi⟩:=List.mem_iff_getElem?.1 ht
 have h1:=ak.zZ hi
 have h2:=t.Bq
 have h3:=ak.Ew h.ok t ht
 have h4:=h.sz
 rw[t.ok_eq]at h3
 exact⟨⟨by omega,h3.2.2.1⟩,⟨by omega,h3.2.2.2⟩⟩
def lI(ts:List ak):List au:=(ts.map ak.s).flatMap fl
theorem dC.syms{ts:List ak}(h:dC ts):(lI ts).length ≤4920∧cE (lI ts)≤196800:=by
 have hn:(ts.map ak.s).length ≤120:=by rw[List.length_map];exact Nat.le_trans (ak.ti ts) h.sz
 have hb:∀s∈ts.map ak.s,s.list.length≤40∧s.hY.length≤40:=fun s hs=>by
  obtain⟨t,ht,rfl⟩:=List.mem_map.1 hs
  have:=ak.Ew h.ok t ht
  rw[t.ok_eq]at this
  omega
 have h1:(lI ts).length ≤(ts.map ak.s).length *41:=Eb fun s hs=>(Hm s (hb s hs).1 (hb s hs).2).1
 have h2:cE (lI ts)≤(lI ts).length *40:=PR fun x hx=>by
  obtain⟨s,hs,hx⟩:=List.mem_flatMap.1 hx
  exact(Hm s (hb s hs).1 (hb s hs).2).2 x hx
 omega
theorem dC.is{ts:List ak}(h:dC ts){L:List D}(hs:fG ts L):EM (ts.map ak.s) L:=by
 refine⟨by rw[List.length_map];exact hs.len,fun i s hi=>?_⟩
 rw[List.getElem?_map]at hi
 obtain⟨t,ht,rfl⟩:=Option.map_eq_some_iff.1 hi
 obtain⟨y,hy,gA⟩:=hs.at_ ht
 obtain⟨c,aY,al,yt,ye,Lt,Le,hc⟩:=gA.out
 have:=ak.Ew h.ok t (List.mem_of_getElem? ht)
 rw[t.ok_eq]at this
 have hz:=(Hm t.s (by omega) (by omega)).1
 exact⟨y,hy,hc.is,by omega,by omega,by omega⟩
theorem UH{ts:List ak}(h:dC ts){L:List D}{xs:D}(hx:aE 55 L xs)(hs:fG ts L):aB Try.prog gl 50 [.d xs] (mQ (lI ts)):=by
 have h2:=h.syms
 have h0:=Nat.le_trans (ak.ti ts) h.sz
 exact Ng (ts.map ak.s) hx (h.is hs) (by rw[List.length_map];exact Nat.le_trans h0 (by decide)) (Nat.le_trans h2.1 (by decide)) (Nat.le_trans h2.2 (by decide))
def bT.d(m:bT):AK:=⟨m.name,m.n8,m.aP.map ak.s⟩
def bT.syms(m:bT):List au:=lI m.aP
theorem jR.is{m:bT}(h:dC m.aP){d:D}(hd:jR m d):Kb m.d d:=by
 cases hd with
 |mk xs L hx hs=>exact .mk xs L hx (h.is hs)
theorem bT.okd{m:bT}(h:dC m.aP):RV m.d:=by
 have h2:=h.syms
 have h0:=Nat.le_trans (ak.ti m.aP) h.sz
 exact⟨by show(m.aP.map ak.s).length ≤_;rw[List.length_map];exact Nat.le_trans h0 (by decide),Nat.le_trans h2.1 (by decide),Nat.le_trans h2.2 (by decide)⟩
theorem MB{m:bT}(h:dC m.aP){d:D}(hd:jR m d):aB Try.prog gl 24 [.d d] (mQ m.syms):=Ut (hd.is h) (bT.okd h)
theorem Ov{l:List bT}(h:ns l=true):l.length≤8∧∀m∈l,dC m.aP:=by
 unfold ns at h
 rw[Bool.and_eq_true,List.all_eq_true]at h
 refine⟨of_decide_eq_true h.1,fun m hm=>?_⟩
 obtain⟨k,hk⟩:=Option.isSome_iff_exists.1 (h.2 m hm)
 exact .of hk
theorem UI{m:bT}{d:D}(hd:jR m d)(h:dC m.aP):aB Try.prog gl 13 [.d d] (.d (.int .i64 (ak.cz m.aP:Int))):=by
 cases hd with
 |mk xs L hx hs=>
 refine bZ bl (bG (fn:=Try.f13) (by kernel_rfl) (by kernel_rfl) (by kernel_rfl)) (h:=FN) ?_;rw[abf];intro ba
 simp only[Bp,Ak,D2,sS,sT,sZ]
 refine eO (G2 _ m.aP (Nat.le_refl _) hx hs (Nat.le_trans h.sz (by decide))) ?_
 simp only[sS,sT,sZ]
end Go.Proofs.Ytimbllcalipehaa.Ab
namespace Go.Proofs.Ytimbllcalipehaa.Ab
open Go
set_option linter.unusedVariables false
set_option maxRecDepth 4000
theorem IQ(sz:Nat)(L:List D):aM false 1 (.aS (bB sz L) 0)=some (.d (bB sz L)):=by cases L<;>rfl
def pV(ss:List (List au)):List D:=ss.map fun s=>bB 6 (bg s)
theorem Pd(ss:List (List au)):(pV ss).length =ss.length:=List.length_map ..
theorem PS{ss:List (List au)}{i:Nat}{s:List au}(h:ss[i]? =some s):(pV ss)[i]? =some (bB 6 (bg s)):=by simp[pV,h]
theorem A9(sz:Nat)(L:List D):ay (.d (bB sz L))=some [.d (bB sz L)]:=by cases L<;>rfl
theorem Pe(x:D)(h:x.one=true):bq 1 1 [(0,x)]=true:=by
 simp only[bq,D.u3 h];rfl
theorem ZV(sz:Nat)(L:List D):(bB sz L).one =true:=by cases L<;>rfl
theorem qV(x z:D):bu (bD false [z]) [(0,x)] 1 0=[x]:=rfl
def mR(l:List bT):List (List au):=l.map fun m=>tA m.syms
theorem xb(l:List bT):(mR l).length =l.length:=List.length_map ..
theorem Ni(l:List au):(ir l l).length ≤l.length:=by
 have:=NR l l l.length
 rwa[List.take_length]at this
theorem Yv(l:List au):(tA l).length ≤l.length:=by
 unfold tA
 split
 ·exact Ni l
 ·simp
theorem Xh{l:List au}{c:Int}{s:au}(h:kc [] l=some (c,s)):mQ l=.aK [.d (.sl .nil 0 []),.d (.agg [.int .i64 c,.int .i64 s.line,.int .i64 s.fY,.str s.name])]:=by rw[mQ,h]
theorem Xi{l:List au}(h:kc [] l=none):mQ l=.aK [.d (bB 6 (bg (ir l l))),.d (.agg [.int .i64 0,.int .i64 0,.int .i64 0,.str []])]:=by rw[mQ,h]
theorem z4(c x y:Int)(n:List UInt8):setAt [(.d (.int .i64 0)),(.d (.int .i64 0)),(.d (.int .i64 0)),(.d (.str []))] 0 [.d (.int .i64 c),.d (.int .i64 x),.d (.int .i64 y),.d (.str n)]=[.d (.int .i64 c),.d (.int .i64 x),.d (.int .i64 y),.d (.str n)]:=rfl
theorem pD{c:Int}(h:c≠0):(c != 0)=true:=by simpa using h
theorem Io(a b c d e f:SV):setAt [a,b,c] 0 [d,e,f]=[d,e,f]:=rfl
theorem H3(a b c:D):aM true 3 (.aS (.agg [a,b,c]) 0)=some (.d (.agg [a,b,c])):=zk _ 3 rfl
theorem A3(L:List D):elems 1 (.full 1 L)=some L:=by simp[elems]
theorem Mv{l:List bT}{L:List D}{x:D}(hx:aE 3 L x)(hl:pN l L)(h8:l.length≤8)(hm:∀m∈l,dC m.aP):aB Try.prog gl 38 [.d x] (bS 1 (pV (mR l))):=by
 refine bZ bl (bG (fn:=Try.f38) (by kernel_rfl) (by kernel_rfl) (by kernel_rfl)) (h:=SU) ?_;rw[abm];intro ba
 have bW:l.length≤maxLen:=Nat.le_trans h8 (by decide)
 simp only[hx.len,hl.len,sS,sT,sZ]
 refine gS (fun i=>[bS 1 (pV (mR (l.take i))),.d x,.d (.int .i64 (l.length:Int)),.d (.int .i64 ((i:Nat):Int))]) (fun i=>[]) l.length (fun i hi I hI=>?_) (fun I=>?_)
 ·simp only[sS,sT,sZ]
  refine And.intro (fun _=>?_) (fun h=>absurd h (by simp;omega))
  obtain⟨m,gy⟩:=get_some hi
  obtain⟨y,hy,j1⟩:=hl.at_ gy
  have hS:=MB (hm m (List.mem_of_getElem? gy)) j1
  have ade:pV (mR (l.take (i+1)))=pV (mR (l.take i))++[bB 6 (bg (tA m.syms))]:=by
   rw[eH gy];simp[pV,mR]
  have hlen:(pV (mR (l.take i))).length =i:=by rw[Pd,xb,List.length_take];omega
  rw[ade]at hI
  cases j1 with
  |mk xs Lm sr ee=>
  simp only[hx.at hy,H3,Bp,Ak,Io,Im,sS,sT,sZ]
  cases hc:kc [] m.syms with
  |some p=>
   obtain⟨c,s⟩:=p
   rw[Xh hc]at hS
   refine call2 hS ?_
   have uQ:=HZ _ _ _ _ hc
   simp only[dE,dJ,z4,dG,eI,ic,ez,pD uQ,sS,sT,sZ]
   refine And.intro (fun _=>?_) (fun h=>absurd h (by decide))
   have e:bB 6 (bg (tA m.syms))=.sl .nil 0 []:=by rw[tA,hc];rfl
   rw[e]at hI
   simp only[dD,Pe _ (show(D.sl .nil 0 []).one =true from rfl),qV,sS,sT,sZ]
   refine iV (A3 _) (by simp only[hlen,List.length_singleton];omega) ?_
   refine bC (bK hi bW) ?_
   exact hI
  |none=>
   rw[Xi hc]at hS
   refine call2 hS ?_
   simp only[dE,dJ,z4,dG,eI,ic,ez,sS,sT,sZ]
   refine And.intro (fun h=>absurd h (by decide)) (fun _=>?_)
   have e:bB 6 (bg (tA m.syms))=bB 6 (bg (ir m.syms m.syms)):=by rw[tA,hc]
   rw[e]at hI
   simp only[dD,Pe _ (ZV _ _),qV,sS,sT,sZ]
   refine iV (A3 _) (by simp only[hlen,List.length_singleton];omega) ?_
   refine bC (bK hi bW) ?_
   exact hI
 ·simp only[sS,sT,sZ]
  refine And.intro (fun h=>absurd h (by simp)) (fun _=>?_)
  rw[List.take_length]
  exact⟨nf _ _,rfl⟩
end Go.Proofs.Ytimbllcalipehaa.Ab
namespace Go.Proofs.Ytimbllcalipehaa.Ab
open Go
set_option linter.unusedVariables false
set_option maxRecDepth 4000
def fE(n h:au):Bool:= !h.eN&&(h.kind==n.kind&&h.name==n.name)
def Cn(cF g4:List au):Bool:=g4.any fun n=>n.eN&&cF.any (fE n)
theorem adf(s:au):aM false 1 (.ref s.cells 0)=some (.d (.int .i64 s.kind)):=rfl
theorem adg(s:au):aM false 1 (.ref s.cells 1)=some (.d (.str s.name)):=rfl
theorem ae3(cs:List SV)(n:Nat):cV (.ref cs 0) n=some (.ref cs n):=by simp[cV]
theorem Uu(h n:au):aB Try.prog gl 78 [.d h.enc,.ref n.cells 0] (.d (.bool (fE n h))):=by
 refine bZ bl (bG (fn:=Try.f78) (by kernel_rfl) (by kernel_rfl) (by kernel_rfl)) (h:=Tg) ?_;rw[abA];intro ba
 simp only[kK,jK,u9,sM,sN,kb,D1,ae3,adf,adg,sS,sT,sZ]
 unfold fE
 refine And.intro (fun h1=>?_) (fun h1=>?_)
 ·refine And.intro (fun h2=>?_) (fun h2=>?_)
  ·have nW:(h.kind==n.kind)=true:=h2
   have h3:ah (some (false,[.str])) .eql (.d (.str h.name)) (.d (.str n.name))=some (.d (.bool (h.name==n.name))):=rfl
   simp only[h1,nW,h3,Bool.true_and,sS,sT,sZ]
  ·have nW:(h.kind==n.kind)=false:=h2
   rw[h1,nW]
   rfl
 ·have qd:(!h.eN)=false:=h1
  rw[qd]
  rfl
theorem UJ(n:au)(l:List au){x:D}(hx:aE 6 (bg l) x)(hl:l.length≤maxLen):
  aB Try.prog gl 94 [.d x,.cS (.func 78) [] [.ref n.cells 0]] (.d (.int .i64 (orM (first (fE n) l)))):=by
 refine bZ bl (bG (fn:=Try.f94) (by kernel_rfl) (by kernel_rfl) (by kernel_rfl)) (h:=Tm) ?_;rw[aa4];intro ba
 simp only[sS,sT,sZ,hx.len,gr,vb]
 refine nh (fun i=>∀(j:Nat)k,j<i→l[j]? =some k→(fE n k)=false) (fun i=>[.d x,.cS (.func 78) [] [.ref n.cells 0],.d (.int .i64 (l.length:Int)),.d (.int .i64 ((i:Nat):Int))]) (fun i=>[]) l.length (fun j k hj _=>by omega) (fun i hi hJ I hI=>?_) (fun hJ I=>?_)
 ·simp only[sS,sT,sZ,vb]
  refine And.intro (fun _=>?_) (fun h=>absurd h (by simp;omega))
  obtain⟨t,ht⟩:=get_some hi
  simp only[hx.at (tg ht),vj,vb,Nh,List.nil_append,List.cons_append,sS,sT,sZ]
  refine eO (Uu t n) ?_
  simp only[sS,sT,sZ]
  refine And.intro (fun h=>?_) (fun h=>?_)
  ·rw[w5 ht (by simpa using h) hJ];rfl
  ·refine bC (bK hi hl) ?_
   refine hI fun j k' hj bI=>?_
   rcases Nat.lt_or_ge j i with h2|h2
   ·exact hJ j k' h2 bI
   ·have:j=i:=by omega
    subst this
    rw[ht]at bI
    cases bI
    simpa using h
 ·simp only[sS,sT,sZ]
  refine And.intro (fun h=>absurd h (by simp)) (fun _=>?_)
  rw[wT fun j k bI=>hJ j k (List.getElem?_eq_some_iff.1 bI).1 bI]
  rfl
theorem Ud(n:au)(l:List au){x:D}(hx:aE 6 (bg l) x)(hl:l.length≤maxLen):
  aB Try.prog gl 79 [.d x,.cS (.func 78) [] [.ref n.cells 0]] (.d (.bool (l.any (fE n)))):=by
 refine bZ bl (bG (fn:=Try.f79) (by kernel_rfl) (by kernel_rfl) (by kernel_rfl)) (h:=Th) ?_;rw[aaZ];intro ba
 simp only[sS,sT,sZ,vb]
 refine eO (UJ n l hx hl) ?_
 have yr:=DM (fE n) l
 simp only[sS,sT,sZ,vi,yr]
theorem abV{α:Type}{p:α→Bool}{l:List α}{i:Nat}{x:α}(h:l[i]? =some x)(hp:p x=true):l.any p=true:=List.any_eq_true.2 ⟨x,List.mem_of_getElem? h,hp⟩
theorem abW{α:Type}{p:α→Bool}{l:List α}(h:∀(j:Nat)x,l[j]? =some x→p x=false):l.any p=false:=by
 rw[List.any_eq_false]
 intro x hx
 obtain⟨j,hj⟩:=List.mem_iff_getElem?.1 hx
 simp[h j x hj]
theorem UK(a b:List au){x y:D}(hx:aE 6 (bg a) x)(hy:aE 6 (bg b) y)(ha:a.length≤maxLen)(hb:b.length≤maxLen):aB Try.prog gl 57 [.d x,.d y] (.d (.bool (Cn a b))):=by
 refine bZ bl (bG (fn:=Try.f57) (by kernel_rfl) (by kernel_rfl) (by kernel_rfl)) (h:=S3) ?_;rw[abu];intro ba
 simp only[sS,sT,sZ,hy.len,gr]
 refine nh (fun i=>∀(j:Nat)k,j<i→b[j]? =some k→(k.eN&&a.any (fE k))=false) (fun i=>[.d x,.d y,.d (.int .i64 (b.length:Int)),.d (.int .i64 ((i:Nat):Int))]) (fun i=>[]) b.length (fun j k hj _=>by omega) (fun i hi hJ I hI=>?_) (fun hJ I=>?_)
 ·simp only[sS,sT,sZ]
  refine And.intro (fun _=>?_) (fun h=>absurd h (by simp;omega))
  obtain⟨t,ht⟩:=get_some hi
  have step:(t.eN&&a.any (fE t))=false→∀(j:Nat)k,j<i+1→b[j]? =some k→(k.eN&&a.any (fE k))=false:=fun h j k' hj bI=>by
   rcases Nat.lt_or_ge j i with h2|h2
   ·exact hJ j k' h2 bI
   ·have:j=i:=by omega
    subst this
    rw[ht]at bI
    cases bI
    exact h
  simp only[hy.at (tg ht),vj,kK,jK,mD,sN,Wb,sS,sT,sZ]
  refine And.intro (fun h=>?_) (fun h=>?_)
  ·refine eO (Ud t a hx ha) ?_
   simp only[sS,sT,sZ]
   refine And.intro (fun h2=>?_) (fun h2=>?_)
   ·rw[Cn,abV ht (by rw[h,h2];rfl)]
   ·refine bC (bK hi hb) ?_
    exact hI (step (by rw[h2,Bool.and_false]))
  ·refine bC (bK hi hb) ?_
   exact hI (step (by rw[h,Bool.false_and]))
 ·simp only[sS,sT,sZ]
  refine And.intro (fun h=>absurd h (by simp)) (fun _=>?_)
  rw[Cn,abW fun j k bI=>hJ j k (List.getElem?_eq_some_iff.1 bI).1 bI]
def cQ(l:List Nat):List D:=l.map fun(k:Nat)=>.int .i64 (k:Int)
theorem lu(l:List Nat):(cQ l).length =l.length:=List.length_map ..
theorem zy{l:List Nat}{i k:Nat}(h:l[i]? =some k):(cQ l)[i]? =some (.int .i64 (k:Int)):=by simp[cQ,h]
def vE(ss:List (List au))(i k:Nat):Bool:= !(k==i)&&Cn (ss.getD k []) (ss.getD i [])
def BX(ss:List (List au))(i:Nat):List Nat:=(List.range ss.length).filter (vE ss i)
def xn(ss:List (List au))(i k:Nat):List Nat:=(List.range k).filter (vE ss i)
theorem Vl(ss:List (List au))(i k:Nat):xn ss i (k+1)=xn ss i k++if vE ss i k then [k]else []:=by
 rw[xn,List.range_succ,List.filter_append]
 by_cases h:vE ss i k=true
 ·simp[xn,h]
 ·simp[xn,h]
theorem Wc(ss:List (List au))(i k:Nat):(xn ss i k).length ≤k:=by
 have:=List.length_filter_le (vE ss i) (List.range k)
 rwa[List.length_range]at this
theorem DN(l:List Nat)(k:Nat):cQ (l++[k])=cQ l++[.int .i64 (k:Int)]:=by simp[cQ]
theorem DO(k:Nat):aR [(0,.v (.d (.int .i64 (k:Int))))]=some [(0,.int .i64 (k:Int))]:=rfl
theorem BB(a b:Nat):((a:Int) != (b:Int))= !(a==b):=by
 by_cases h:a=b
 ·subst h;simp
 ·have:¬((a:Int)=(b:Int)):=by omega
  rw[bne,beq_eq_false_iff_ne.2 this,beq_eq_false_iff_ne.2 h]
theorem Ec(k:Nat):bq 1 1 [(0,.int .i64 (k:Int))]=true:=rfl
theorem Nj{ss:List (List au)}{x:D}(hx:aE 1 (pV ss) x)(hn:ss.length≤2^20)(hb:∀s∈ss,s.length≤maxLen){i:Nat}(uq:i<ss.length):aB Try.prog gl 39 [.d x,.d (.int .i64 (i:Int))] (bS 1 (cQ (BX ss i))):=by
 have bW:ss.length≤maxLen:=Nat.le_trans hn (by decide)
 refine bZ bl (bG (fn:=Try.f39) (by kernel_rfl) (by kernel_rfl) (by kernel_rfl)) (h:=SW) ?_;rw[abn];intro ba
 simp only[sS,sT,sZ,hx.len,Pd]
 refine gS (fun k=>[.d x,.d (.int .i64 (i:Int)),bS 1 (cQ (xn ss i k)),.d (.int .i64 (ss.length:Int)),.d (.int .i64 ((k:Nat):Int))]) (fun i=>[]) ss.length (fun k hk I hI=>?_) (fun I=>?_)
 ·simp only[sS,sT,sZ]
  refine And.intro (fun _=>?_) (fun h=>absurd h (by simp;omega))
  obtain⟨si,yH⟩:=get_some uq
  obtain⟨sk,qj⟩:=get_some hk
  have aT:=Vl ss i k
  have hlu:=Wc ss i k
  have hp:vE ss i k=(!(k==i)&&Cn sk si):=by
   rw[vE,List.getD_eq_getElem?_getD,List.getD_eq_getElem?_getD,yH,qj];rfl
  rw[aT]at hI
  simp only[ez,BB,sS,sT,sZ]
  refine And.intro (fun h=>?_) (fun h=>?_)
  ·simp only[hx.at (PS yH),hx.at (PS qj),IQ,sS,sT,sZ]
   refine eO (UK sk si (eQ 6 _) (eQ 6 _) (hb sk (List.mem_of_getElem? qj)) (hb si (List.mem_of_getElem? yH))) ?_
   simp only[sS,sT,sZ]
   refine And.intro (fun h2=>?_) (fun h2=>?_)
   ·rw[hp,h,h2]at hI
    simp only[DO,Ec,qV,sS,sT,sZ]
    refine iV (A3 _) (by simp only[lu,List.length_singleton];omega) ?_
    refine bC (bK hk bW) ?_
    rw[Bool.true_and,if_pos rfl,DN]at hI
    exact hI
   ·rw[hp,h,h2,Bool.and_false,if_neg (by decide),List.append_nil]at hI
    refine bC (bK hk bW) ?_
    exact hI
  ·rw[hp,h,Bool.false_and,if_neg (by decide),List.append_nil]at hI
   refine bC (bK hk bW) ?_
   exact hI
 ·simp only[sS,sT,sZ]
  refine And.intro (fun h=>absurd h (by simp)) (fun _=>?_)
  exact⟨nf _ _,rfl⟩
theorem Vm{m:bT}(h:dC m.aP):(tA m.syms).length ≤4920:=Nat.le_trans (Yv _) h.syms.1
theorem NS{l:List bT}(hm:∀m∈l,dC m.aP):∀s∈mR l,s.length≤maxLen:=fun s hs=>by
 obtain⟨m,nT,rfl⟩:=List.mem_map.1 hs
 exact Nat.le_trans (Vm (hm m nT)) (by decide)
def IS(l:List bT)(i:Int):List Nat:=if i<0 then []else if(l.length:Int)≤i then []else BX (mR l) i.toNat
theorem Vn{l:List bT}{L:List D}{x:D}(hx:aE 3 L x)(hl:pN l L)(h8:l.length≤8)(hm:∀m∈l,dC m.aP)(i:Int):aB Try.prog gl 19 [.d x,.d (.int .i64 i)] (bS 1 (cQ (IS l i))):=by
 refine bZ bl (bG (fn:=Try.f19) (by kernel_rfl) (by kernel_rfl) (by kernel_rfl)) (h:=SP) ?_;rw[abi];intro ba
 simp only[sS,sT,sZ,hx.len,hl.len]
 unfold IS
 refine And.intro (fun h=>?_) (fun h=>?_)
 ·rw[if_pos (by simpa using h)];rfl
 have h1:¬i<0:=by simpa using h
 rw[if_neg h1]
 refine And.intro (fun h=>?_) (fun h=>?_)
 ·rw[if_pos (by simpa using h)];rfl
 have h2:¬(l.length:Int)≤i:=by simp at h;omega
 rw[if_neg h2]
 refine aZ (Mv hx hl h8 hm) (j6 _ _) ?_
 simp only[fh,sS,sT,sZ]
 obtain⟨n,rfl⟩:=Int.eq_ofNat_of_zero_le (by omega:0≤i)
 refine aZ (Nj (eQ 1 _) (by rw[xb];omega) (NS hm) (by rw[xb];omega)) (j6 _ _) ?_
 exact⟨nf _ _,rfl⟩
end Go.Proofs.Ytimbllcalipehaa.Ab
namespace Go.Proofs.Ytimbllcalipehaa.Ab
open Go
set_option linter.unusedVariables false
set_option maxRecDepth 4000
theorem Yw{α:Type}{p:α→Bool}{l:List α}{i:Nat}{x:α}(h:l[i]? =some x):(l.take (i+1)).any p=((l.take i).any p||p x):=by
 rw[eH h,List.any_append];simp
end Go.Proofs.Ytimbllcalipehaa.Ab
namespace Go.Proofs.Ytimbllcalipehaa.Ab
open Go
set_option linter.unusedVariables false
set_option maxRecDepth 4000
theorem Pf{α:Type}{F:List SV→List (List SV)→(List SV→List (List SV)→Prop)→Prop}(μ:α→Nat)(J:α→Prop)(st:α→List SV)(sb:α→List (List SV))
  (gX:∀a,J a→∀I:List SV→List (List SV)→Prop,(∀a',J a'→μ a'<μ a→I (st a') (sb a'))→F (st a) (sb a) I)(a:α)(ha:J a):cw F (st a) (sb a):=by
 intro I hI
 have key:∀n a,μ a<n→J a→I (st a) (sb a):=by
  intro n
  induction n with
  |zero=>intro a h;omega
  |succ n ih=>exact fun a h hj=>hI _ _ (gX a hj I fun a' mW hm=>ih a' (by omega) mW)
 exact key (μ a+1) a (by omega) ha
def bL(b:List Bool):List SV:=b.map fun v=>.d (.bool v)
def iG(b:List Bool):SV:=.cM b.length 1 (bL b)
theorem abX(b:List Bool):(bL b).length =b.length:=List.length_map ..
theorem Rc{b:List Bool}{i:Nat}{v:Bool}(h:b[i]? =some v):(bL b)[i]? =some (.d (.bool v)):=by simp[bL,h]
theorem QF(b:List Bool):(bL b).map aa=bL b:=by simp[bL,aa]
theorem vk(b:List Bool):aa (iG b)=iG b:=rfl
theorem IT{b:List Bool}{i:Nat}(hi:i<b.length):bc 1 (iG b) (.d (.int .i64 (i:Int)))=some (.ref (bL b) (i*1)):=by
 have h1:cH (.d (.int .i64 (i:Int))) b.length=some i:=j7 hi
 simp only[bc,iG,h1,if_true]
theorem Jp{b:List Bool}{i:Nat}{v:Bool}(h:b[i]? =some v):aM false 1 (.ref (bL b) (i*1))=some (.d (.bool v)):=by
 simp only[aM,ag,cond_false,Nat.mul_one,Rc h,aa]
theorem Rd(b:List Bool):aM false 1 (.ref [iG b] 0)=some (iG b):=rfl
theorem Pg(b:List Bool):ay (iG b)=some [iG b]:=rfl
def nd(b:List Bool)(k:Nat):Bool:= !b.getD k false
theorem BY{b:List Bool}{k:Nat}{v:Bool}(h:b[k]? =some v):nd b k= !v:=by simp[nd,h]
theorem UL(b:List Bool){k:Nat}(hk:k<b.length):aB Try.prog gl 59 [.d (.int .i64 (k:Int)),.ref [iG b] 0] (.d (.bool (nd b k))):=by
 obtain⟨v,hv⟩:=get_some hk
 refine bZ bl (bG (fn:=Try.f59) (by kernel_rfl) (by kernel_rfl) (by kernel_rfl)) (h:=S4) ?_;rw[abv];intro ba
 simp only[D1,Rd,vk,IT hk,Jp hv,kb,BY hv,sS,sT,sZ]
theorem UM(b:List Bool){k:Nat}(hk:k<b.length):aB Try.prog gl 63 [.d (.int .i64 (k:Int)),.ref [iG b] 0] (.d (.bool (nd b k))):=by
 obtain⟨v,hv⟩:=get_some hk
 refine bZ bl (bG (fn:=Try.f63) (by kernel_rfl) (by kernel_rfl) (by kernel_rfl)) (h:=S8) ?_;rw[abw];intro ba
 simp only[D1,Rd,vk,IT hk,Jp hv,kb,BY hv,sS,sT,sZ]
theorem Ey(k:Int):aM false 1 (.aS (.int .i64 k) 0)=some (.d (.int .i64 k)):=rfl
theorem MU(b:List Bool)(f:FuncId)(hf:∀{k:Nat},k<b.length→aB Try.prog gl f [.d (.int .i64 (k:Int)),.ref [iG b] 0] (.d (.bool (nd b k))))(l:List Nat){x:D}(hx:aE 1 (cQ l) x)(hl:l.length≤maxLen)(hb:∀k∈l,k<b.length):
  aB Try.prog gl 62 [.d x,.cS (.func f) [] [.ref [iG b] 0]] (.d (.int .i64 (orM (first (nd b) l)))):=by
 refine bZ bl (bG (fn:=Try.f62) (by kernel_rfl) (by kernel_rfl) (by kernel_rfl)) (h:=S7) ?_;rw[aaU];intro ba
 simp only[sS,sT,sZ,hx.len,lu,vb]
 refine nh (fun i=>∀(j:Nat)k,j<i→l[j]? =some k→nd b k=false) (fun i=>[.d x,.cS (.func f) [] [.ref [iG b] 0],.d (.int .i64 (l.length:Int)),.d (.int .i64 ((i:Nat):Int))]) (fun i=>[]) l.length (fun j k hj _=>by omega) (fun i hi hJ I hI=>?_) (fun hJ I=>?_)
 ·simp only[sS,sT,sZ,vb]
  refine And.intro (fun _=>?_) (fun h=>absurd h (by simp;omega))
  obtain⟨t,ht⟩:=get_some hi
  simp only[hx.at (zy ht),Ey,vb,Nh,List.nil_append,List.cons_append,sS,sT,sZ]
  refine eO (hf (hb t (List.mem_of_getElem? ht))) ?_
  simp only[sS,sT,sZ]
  refine And.intro (fun h=>?_) (fun h=>?_)
  ·rw[w5 ht (by simpa using h) hJ];rfl
  ·refine bC (bK hi hl) ?_
   refine hI fun j k' hj bI=>?_
   rcases Nat.lt_or_ge j i with h2|h2
   ·exact hJ j k' h2 bI
   ·have:j=i:=by omega
    subst this
    rw[ht]at bI
    cases bI
    simpa using h
 ·simp only[sS,sT,sZ]
  refine And.intro (fun h=>absurd h (by simp)) (fun _=>?_)
  rw[wT fun j k bI=>hJ j k (List.getElem?_eq_some_iff.1 bI).1 bI]
  rfl
def C8(b:List Bool)(l:List Nat):Bool:=l.all fun k=>b.getD k false
theorem PT(b:List Bool)(l:List Nat):C8 b l= !l.any (nd b):=by
 rw[C8,List.any_eq_not_all_not,Bool.not_not]
 simp[nd]
theorem Vo(b:List Bool)(l:List Nat){x:D}(hx:aE 1 (cQ l) x)(hl:l.length≤maxLen)(hb:∀k∈l,k<b.length):aB Try.prog gl 40 [.d x,iG b] (.d (.bool (C8 b l))):=by
 have FT:aB Try.prog gl 58 [.d x,.cS (.func 59) [] [.ref [iG b] 0]] (.d (.bool (l.any (nd b)))):=by
  refine bZ bl (bG (fn:=Try.f58) (by kernel_rfl) (by kernel_rfl) (by kernel_rfl)) (h:=FT) ?_;rw[aaR];intro ba
  simp only[sS,sT,sZ,vb]
  refine eO (MU b _ (fun hk=>UL b hk) l hx hl hb) ?_
  have yr:=DM (nd b) l
  simp only[sS,sT,sZ,vi,yr]
 refine bZ bl (bG (fn:=Try.f40) (by kernel_rfl) (by kernel_rfl) (by kernel_rfl)) (h:=SX) ?_;rw[abo];intro ba
 simp only[vk,Pg,List.map_cons,List.map_nil,sS,sT,sZ]
 refine⟨rfl,?_⟩
 refine eO FT ?_
 simp only[kb,PT,sS,sT,sZ]
theorem UN(b:List Bool)(hl:b.length≤maxLen):aB Try.prog gl 60 [iG b,.d (.bool false)] (.d (.int .i64 (orM (first (fun v=> !v) b)))):=by
 refine bZ bl (bG (fn:=Try.f60) (by kernel_rfl) (by kernel_rfl) (by kernel_rfl)) (h:=S5) ?_;rw[aaS];intro ba
 have hlen:bd (iG b)=some (.d (.int .i64 (b.length:Int))):=rfl
 simp only[vk,hlen,sS,sT,sZ]
 refine nh (fun i=>∀(j:Nat)k,j<i→b[j]? =some k→(!k)=false) (fun i=>[iG b,.d (.bool false),.d (.int .i64 (b.length:Int)),.d (.int .i64 ((i:Nat):Int))]) (fun i=>[]) b.length (fun j k hj _=>by omega) (fun i hi hJ I hI=>?_) (fun hJ I=>?_)
 ·simp only[vk,sS,sT,sZ]
  refine And.intro (fun _=>?_) (fun h=>absurd h (by simp;omega))
  obtain⟨t,ht⟩:=get_some hi
  have e1:ah (some (false,[.bool])) .eql (.d (.bool false)) (.d (.bool t))=some (.d (.bool (!t))):=by cases t<;>rfl
  simp only[IT hi,Jp ht,D1,e1,sS,sT,sZ]
  refine And.intro (fun h=>?_) (fun h=>?_)
  ·rw[w5 ht (by simpa using h) hJ];rfl
  ·refine bC (bK hi hl) ?_
   refine hI fun j k' hj bI=>?_
   rcases Nat.lt_or_ge j i with h2|h2
   ·exact hJ j k' h2 bI
   ·have:j=i:=by omega
    subst this
    rw[ht]at bI
    cases bI
    simpa using h
 ·simp only[sS,sT,sZ]
  refine And.intro (fun h=>absurd h (by simp)) (fun _=>?_)
  rw[wT fun j k bI=>hJ j k (List.getElem?_eq_some_iff.1 bI).1 bI]
  rfl
theorem MV(l:List Nat)(a:Nat){x:D}(hx:aE 1 (cQ l) x)(hl:l.length≤maxLen):aB Try.prog gl 64 [.d x,.d (.int .i64 (a:Int))] (.d (.int .i64 (orM (first (fun k=>k==a) l)))):=by
 refine bZ bl (bG (fn:=Try.f64) (by kernel_rfl) (by kernel_rfl) (by kernel_rfl)) (h:=S9) ?_;rw[aaV];intro ba
 simp only[sS,sT,sZ,hx.len,lu]
 refine nh (fun i=>∀(j:Nat)k,j<i→l[j]? =some k→(k==a)=false) (fun i=>[.d x,.d (.int .i64 (a:Int)),.d (.int .i64 (l.length:Int)),.d (.int .i64 ((i:Nat):Int))]) (fun i=>[]) l.length (fun j k hj _=>by omega) (fun i hi hJ I hI=>?_) (fun hJ I=>?_)
 ·simp only[sS,sT,sZ]
  refine And.intro (fun _=>?_) (fun h=>absurd h (by simp;omega))
  obtain⟨t,ht⟩:=get_some hi
  have e1:((a:Int)==(t:Int))=(t==a):=by
   by_cases h:t=a
   ·subst h;simp
   ·rw[beq_eq_false_iff_ne.2 h,beq_eq_false_iff_ne.2 (by omega)]
  simp only[hx.at (zy ht),Ey,vf,e1,sS,sT,sZ]
  refine And.intro (fun h=>?_) (fun h=>?_)
  ·rw[w5 ht (by simpa using h) hJ];rfl
  ·refine bC (bK hi hl) ?_
   refine hI fun j k' hj bI=>?_
   rcases Nat.lt_or_ge j i with h2|h2
   ·exact hJ j k' h2 bI
   ·have:j=i:=by omega
    subst this
    rw[ht]at bI
    cases bI
    simpa using h
 ·simp only[sS,sT,sZ]
  refine And.intro (fun h=>absurd h (by simp)) (fun _=>?_)
  rw[wT fun j k bI=>hJ j k (List.getElem?_eq_some_iff.1 bI).1 bI]
  rfl
theorem Ue(l:List Nat)(a:Nat){x:D}(hx:aE 1 (cQ l) x)(hl:l.length≤maxLen):aB Try.prog gl 61 [.d x,.d (.int .i64 (a:Int))] (.d (.bool (l.any fun k=>k==a))):=by
 refine bZ bl (bG (fn:=Try.f61) (by kernel_rfl) (by kernel_rfl) (by kernel_rfl)) (h:=S6) ?_;rw[aaT];intro ba
 simp only[sS,sT,sZ]
 refine eO (MV l a hx hl) ?_
 have yr:=DM (fun k=>k==a) l
 simp only[sS,sT,sZ,vi,yr]
end Go.Proofs.Ytimbllcalipehaa.Ab
namespace Go.Proofs.Ytimbllcalipehaa.Ab
open Go
set_option linter.unusedVariables false
set_option maxRecDepth 4000
def TG(N:Nat→List Nat)(b:List Bool)(a:Nat):Nat:=((N a).find? (nd b)).getD 0
def wF(N:Nat→List Nat)(b:List Bool):Nat→List Nat→Nat→List Nat
 |0,_,_=>[]
 |f+1,path,a=>match first (fun k=>k==a) path with|some k=>path.drop k|none=>wF N b f (path++[a]) (TG N b a)
structure Jq(n:Nat)(N:Nat→List Nat)(b:List Bool):Prop where
 len:b.length=n
 some_:∀a,a<n→nd b a=true→∃k∈N a,nd b k=true
 lt:∀a,a<n→∀k∈N a,k<n
theorem D3:∀(n:Nat){l:List Nat},l.Nodup→(∀k∈l,k<n)→l.length≤n
 |0,l,_,h=>by
  cases l with
  |nil=>simp
  |cons a l=>exact absurd (h a (by simp)) (by omega)
 |n+1,l,hn,h=>by
  by_cases hm:n∈l
  ·have h1:=D3 n (l:=l.erase n) (hn.erase n) (fun k hk=>by
    have:=(hn.mem_erase_iff).1 hk
    have:=h k this.2
    omega)
   have h2:=List.length_erase_of_mem hm
   omega
  ·have:=D3 n hn (fun k hk=>by
    have h1:=h k hk
    have h2:k≠n:=fun he=>hm (he▸hk)
    omega)
   omega
theorem Wd{p:Nat→Bool}{l:List Nat}{k:Nat}(h:first p l=some k):∃x,l[k]? =some x∧l.find? p=some x∧p x=true:=by
 obtain⟨x,h1,h2,h3⟩:=Hh h
 refine⟨x,h1,?_,h2⟩
 rw[List.find?_eq_some_iff_getElem]
 have hk:=(List.getElem?_eq_some_iff.1 h1)
 refine⟨h2,k,hk.1,hk.2,fun j hj=>?_⟩
 have jC:j<l.length:=by have:=hk.1;omega
 have:=h3 j l[j] hj (by simp)
 simp[this]
structure wG(n:Nat)(N:Nat→List Nat)(b:List Bool)(R:List Nat)(s:List Nat×Nat):Prop where
 lt:s.2<n
 nd_:nd b s.2=true
 all:∀k∈s.1,k<n
 nodup:s.1.Nodup
 eq:wF N b (n+1-s.1.length) s.1 s.2=R
theorem wG.len{n:Nat}{N:Nat→List Nat}{b:List Bool}{R:List Nat}{s:List Nat×Nat}(h:wG n N b R s):s.1.length≤n:=D3 n h.nodup h.all
theorem Vp{l:List Nat}{a:Nat}(h:first (fun k=>k==a) l=none):a∉l:=fun hm=>by
 obtain⟨j,hj⟩:=List.mem_iff_getElem?.1 hm
 have:=w7 h j a hj
 simp at this
theorem wG.next{n:Nat}{N:Nat→List Nat}{b:List Bool}{R:List Nat}{p:List Nat}{a:Nat}(h:wG n N b R (p,a))(hc:Jq n N b)(hf:first (fun k=>k==a) p=none):
  p.length<n∧∃k x,first (nd b) (N a)=some k∧(N a)[k]? =some x∧(N a).find? (nd b)=some x∧x<n∧wG n N b R (p++[a],x):=by
 have yi:=Vp hf
 have kZ:(p++[a]).Nodup :=by
  rw[List.nodup_append]
  exact⟨h.nodup,by simp,fun x hx y hy=>by simp at hy;subst hy;exact fun he=>yi (he▸hx)⟩
 have e6:∀k∈p++[a],k<n:=fun k hk=>by
  rcases List.mem_append.1 hk with hk|hk
  ·exact h.all k hk
  ·simp at hk;subst hk;exact h.lt
 have hlen:=D3 n kZ e6
 rw[List.length_append,List.length_singleton]at hlen
 obtain⟨q,hq,TH⟩:=hc.some_ a h.lt h.nd_
 cases TI:first (nd b) (N a)with
 |none=>
  obtain⟨j,hj⟩:=List.mem_iff_getElem?.1 hq
  rw[w7 TI j q hj]at TH;cases TH
 |some k=>
  obtain⟨x,h1,h2,h3⟩:=Wd TI
  have hx:x<n:=hc.lt a h.lt x (List.mem_of_getElem? h1)
  refine⟨by omega,k,x,rfl,h1,h2,hx,hx,h3,e6,kZ,?_⟩
  have he:=h.eq
  simp only at he
  rw[show n+1-p.length=(n+1-(p++[a]).length)+1 by rw[List.length_append,List.length_singleton];omega,wF,hf]at he
  simp only[TG,h2,Option.getD_some]at he
  exact he
theorem wG.fin{n:Nat}{N:Nat→List Nat}{b:List Bool}{R:List Nat}{p:List Nat}{a k:Nat}(h:wG n N b R (p,a))(hf:first (fun k=>k==a) p=some k):p.drop k=R:=by
 have he:=h.eq
 have hl:=h.len
 simp only at he hl
 rw[show n+1-p.length=(n-p.length)+1 by omega,wF,hf]at he
 exact he
def nL(N:Nat→List Nat)(n:Nat):List D:=(List.range n).map fun i=>bB 1 (cQ (N i))
theorem abY(N:Nat→List Nat)(n:Nat):(nL N n).length =n:=by simp[nL]
theorem Re{N:Nat→List Nat}{n a:Nat}(h:a<n):(nL N n)[a]? =some (bB 1 (cQ (N a))):=by simp[nL,h]
theorem ZW(p:Nat→Bool)(l:List Nat):l.any p=(first p l).isSome :=(DM p l).symm
theorem QG{sz:Nat}{L:List D}(h:L≠[]):bB sz L=.sl .ro sz L:=by
 cases L with
 |nil=>exact absurd rfl h
 |cons=>rfl
theorem We{l:List Nat}{k:Nat}(hk:k<l.length)(hl:l.length≤maxLen):IF 1 (.d (bB 1 (cQ l))) (some (.d (.int .i64 (k:Int)))) none none=some (.d (bB 1 (cQ (l.drop k)))):=by
 have bf:cQ l≠[]:=fun h=>by
  have:=lu l
  rw[h]at this
  simp at this
  omega
 have hdn:cQ (l.drop k)≠[]:=fun h=>by
  have:=lu (l.drop k)
  rw[h,List.length_drop]at this
  simp at this
  omega
 have hd:(cQ l).drop k=cQ (l.drop k):=by simp[cQ,List.map_drop]
 have h1:cH (.d (.int .i64 (k:Int))) ((cQ l).length +1)=some k:=j7 (by rw[lu];omega)
 rw[QG bf,QG hdn]
 simp only[IF,bF,BR,xB,tB,h1,List.take_length,hd,if_true]
theorem Vq{n:Nat}{N:Nat→List Nat}{b:List Bool}(hc:Jq n N b){x:D}(hx:aE 1 (nL N n) x)(hn:n≤2^20)(hN:∀a,a<n→(N a).length ≤n){a0:Nat}(ha:first (fun v=> !v) b=some a0):
  aB Try.prog gl 41 [.d x,iG b] (.d (bB 1 (cQ (wF N b (n+1) [] a0)))):=by
 have bW:n≤maxLen:=Nat.le_trans hn (by decide)
 refine bZ bl (bG (fn:=Try.f41) (by kernel_rfl) (by kernel_rfl) (by kernel_rfl)) (h:=SY) ?_;rw[abp];intro ba
 simp only[vk,Pg,sS,sT,sZ]
 refine⟨rfl,?_⟩
 have hp0:ag false 1 0 [iG b]=some (iG b):=rfl
 simp only[hp0,vk,sS,sT,sZ]
 refine eO (UN b (by rw[hc.len];exact bW)) ?_
 rw[ha]
 obtain⟨v,Gb,LL⟩:=y9 ha
 have ha0:a0<n:=by rw[←hc.len];exact(List.getElem?_eq_some_iff.1 Gb).1
 simp only[orM,sS,sT,sZ]
 refine Pf (α:=List Nat×Nat) (fun s=>n+1-s.1.length) (wG n N b (wF N b (n+1) [] a0)) (fun s=>[.d x,.d (.int .i64 (s.2:Int)),bS 1 (cQ s.1)]) (fun s=>[[iG b]]) (fun s hJ I hI=>?_) ([],a0) ⟨ha0,by rw[BY Gb];exact LL,fun k hk=>by simp at hk,List.nodup_nil,rfl⟩
 obtain⟨p,a⟩:=s
 have fe:=hJ.len
 simp only at fe
 have nX:p.length≤maxLen:=Nat.le_trans fe bW
 simp only[fh,sS,sT,sZ]
 refine eO (Ue p a (eQ 1 _) nX) ?_
 rw[ZW]
 cases hf:first (fun k=>k==a) p with
 |none=>
  obtain⟨aI,k,y,h1,h2,h3,h4,h5⟩:=hJ.next hc hf
  simp only[Option.isSome_none,kb,Bool.not_false,sS,sT,sZ]
  refine And.intro (fun _=>?_) (fun h=>absurd h (by decide))
  simp only[DO,Ec,qV,sS,sT,sZ]
  refine iV (A3 _) (by simp only[lu,List.length_singleton];omega) ?_
  simp only[hx.at (Re hJ.lt),IQ,vk,List.map_cons,List.map_nil,sS,sT,sZ]
  refine eO (MU b _ (fun hk=>UM b hk) (N a) (eQ 1 _) (Nat.le_trans (hN a hJ.lt) bW) (fun k hk=>by rw[hc.len];exact hc.lt a hJ.lt k hk)) ?_
  rw[h1]
  simp only[orM,(eQ 1 (cQ (N a))).at (zy h2),Ey,sS,sT,sZ]
  have:=hI (p++[a],y) h5 (by simp only[List.length_append,List.length_singleton];omega)
  simp only[DN]at this
  exact this
 |some k=>
  have FF:k<p.length:=by obtain⟨_,h1,_⟩:=y9 hf;exact(List.getElem?_eq_some_iff.1 h1).1
  simp only[Option.isSome_some,kb,Bool.not_true,sS,sT,sZ]
  refine And.intro (fun h=>absurd h (by decide)) (fun _=>?_)
  refine eO (MV p a (eQ 1 _) nX) ?_
  rw[hf]
  simp only[orM,We FF nX,hJ.fin hf,sS,sT,sZ]
end Go.Proofs.Ytimbllcalipehaa.Ab
namespace Go.Proofs.Ytimbllcalipehaa.Ab
open Go
set_option linter.unusedVariables false
set_option maxRecDepth 4000
def Nf(l:List bT)(a:Nat):List Nat:=BX (mR l) a
theorem QH(l:List bT)(a:Nat):(Nf l a).length ≤l.length:=by
 have:=List.length_filter_le (vE (mR l) a) (List.range (mR l).length)
 rw[List.length_range]at this
 rw[Nf,BX,←xb l];exact this
theorem Rf{l:List bT}{a k:Nat}(h:k∈Nf l a):k<l.length:=by
 have:=(List.mem_filter.1 h).1
 rw[List.mem_range,xb]at this
 exact this
end Go.Proofs.Ytimbllcalipehaa.Ab
namespace Go.Proofs.Ytimbllcalipehaa.Ab
open Go
set_option linter.unusedVariables false
set_option maxRecDepth 4000
def rd(N:Nat→List Nat)(b:List Bool)(i:Nat):Bool:=nd b i&&C8 b (N i)
def ord(N:Nat→List Nat)(n:Nat):Nat→List Bool→List Nat→List Nat×Bool
 |0,_,out=>(out,true)
 |f+1,b,out=>match first (rd N b) (List.range n)with
  |none=>(wF N b (n+1) [] ((first (fun v=> !v) b).getD 0),false)
  |some i=>ord N n f (b.set i true) (out++[i])
def oR(r:List Nat×Bool):SV:=.aK [bif r.2 then bS 1 (cQ r.1)else .d (bB 1 (cQ r.1)),.d (.int .i64 (bif r.2 then 0 else 17))]
def vX(b:List Bool):Nat:=b.count false
theorem Ph:∀{b:List Bool}{i:Nat},b[i]? =some false→vX (b.set i true)+1=vX b
 |[],i,h=>by simp at h
 |v::b,0,h=>by simp at h;subst h;simp[vX]
 |v::b,i+1,h=>by
  have:=Ph (b:=b) (i:=i) (by simpa using h)
  simp only[vX,List.set_cons_succ,List.count_cons]at this ⊢
  omega
theorem Yx{b:List Bool}(h:0<vX b):∃i,first (fun v=> !v) b=some i∧b[i]? =some false:=by
 cases hf:first (fun v=> !v) b with
 |some i=>
  obtain⟨v,h1,h2⟩:=y9 hf
  refine⟨i,rfl,?_⟩
  have:v=false:=by simpa using h2
  rw[this]at h1;exact h1
 |none=>
  exfalso
  have:b.count false=0:=by
   rw[List.count_eq_zero]
   intro hm
   obtain⟨j,hj⟩:=List.mem_iff_getElem?.1 hm
   have:=w7 hf j _ hj
   simp at this
  unfold vX at h
  omega
theorem Br{n i:Nat}(h:i<n):(List.range n)[i]? =some i:=by simp[h]
structure OJ(l:List bT)(R:List Nat×Bool)(s:List Bool×List Nat):Prop where
 len:s.1.length=l.length
 pf:vX s.1+s.2.length=l.length
 eq:ord (Nf l) l.length (l.length-s.2.length) s.1 s.2=R
theorem OJ.step{l:List bT}{R:List Nat×Bool}{b:List Bool}{out:List Nat}(h:OJ l R (b,out))(aI:out.length<l.length){i:Nat}(hf:first (rd (Nf l) b) (List.range l.length)=some i):
  i<l.length∧b[i]? =some false∧OJ l R (b.set i true,out++[i]):=by
 obtain⟨x,h1,h2⟩:=y9 hf
 have hi:i<l.length:=by
  have:=(List.getElem?_eq_some_iff.1 h1).1
  simpa using this
 rw[Br hi]at h1
 cases h1
 have dO:=h.len
 simp only at dO
 obtain⟨v,hv⟩:=get_some (by omega:i<b.length)
 have CV:v=false:=by
  rw[rd,Bool.and_eq_true]at h2
  have:=h2.1
  rw[BY hv]at this
  simpa using this
 subst CV
 have hc:=Ph hv
 have uQ:=h.pf
 have he:=h.eq
 simp only at uQ he
 refine⟨hi,hv,by simpa using dO,?_,?_⟩
 ·simp only[List.length_append,List.length_singleton];omega
 ·rw[show l.length-out.length=(l.length-(out++[i]).length)+1 by rw[List.length_append,List.length_singleton];omega,ord,hf]at he
  exact he
theorem OJ.stuck{l:List bT}{R:List Nat×Bool}{b:List Bool}{out:List Nat}(h:OJ l R (b,out))(aI:out.length<l.length)(hf:first (rd (Nf l) b) (List.range l.length)=none):
  ∃a0,first (fun v=> !v) b=some a0∧Jq l.length (Nf l) b∧R=(wF (Nf l) b (l.length+1) [] a0,false):=by
 have uQ:=h.pf
 have he:=h.eq
 simp only at uQ he
 obtain⟨a0,h1,h2⟩:=Yx (b:=b) (by omega)
 refine⟨a0,h1,⟨h.len,fun a ha Kv=>?_,fun a ha k hk=>Rf hk⟩,?_⟩
 ·have:=w7 hf a a (Br ha)
  rw[rd,Kv,Bool.true_and,PT]at this
  have:(Nf l a).any (nd b)=true:=by simpa using this
  obtain⟨k,iE,iP⟩:=List.any_eq_true.1 this
  exact⟨k,iE,iP⟩
 ·rw[show l.length-out.length=(l.length-out.length-1)+1 by omega,ord,hf,h1]at he
  exact he.symm
theorem OJ.fin{l:List bT}{R:List Nat×Bool}{b:List Bool}{out:List Nat}(h:OJ l R (b,out))(aI:¬out.length<l.length):R=(out,true):=by
 have he:=h.eq
 simp only at he
 rw[show l.length-out.length=0 by omega,ord]at he
 exact he.symm
theorem OJ.le{l:List bT}{R:List Nat×Bool}{s:List Bool×List Nat}(h:OJ l R s):s.2.length≤l.length:=by
 have:=h.pf;omega
def Co(l:List bT):List Nat×Bool:=ord (Nf l) l.length l.length (List.replicate l.length false) []
theorem OJ.init(l:List bT):OJ l (Co l) (List.replicate l.length false,[]):=⟨by simp,by simp[vX],rfl⟩
theorem DP(d:D)(h:d.one=true):∀n,bA (List.replicate n d)=List.replicate n (.d d)
 |0=>rfl
 |n+1=>by
  rw[List.replicate_succ,bA,DP d h n,D.u3 h];rfl
theorem abZ(n:Nat):bL (List.replicate n false)=List.replicate n (.d (.bool false)):=by simp[bL]
theorem ab0(b:List Bool)(i:Nat)(v:Bool):setAt (bL b) (i*1) [.d (.bool v)]=bL (b.set i v):=by
 simp only[setAt,Nat.mul_one,bL,List.map_set]
theorem ZX{b:List Bool}{i:Nat}{v:Bool}(h:b[i]? =some v):ag false 1 (i*1) (bL b)=some (.d (.bool v)):=by
 simp only[ag,cond_false,Nat.mul_one,Rc h]
theorem ZY(i:Nat):decide ((i:Int)<0)=false:=decide_eq_false (by omega)
theorem adh{l:List bT}{b:List Bool}{i:Nat}{v:Bool}(h:b[i]? =some v):rd (Nf l) b i=(!v&&C8 b (Nf l i)):=by rw[rd,BY h]
end Go.Proofs.Ytimbllcalipehaa.Ab
namespace Go.Proofs.Ytimbllcalipehaa.Ab
open Go
set_option linter.unusedVariables false
set_option maxRecDepth 4000
def rv(N:Nat→List Nat)(n i:Nat):List SV:=(List.range n).map fun j=>if j<i then .d (bB 1 (cQ (N j)))else .d (.sl .nil 0 [])
theorem Ow(N:Nat→List Nat)(n i:Nat):(rv N n i).length =n:=by simp[rv]
theorem ZZ(N:Nat→List Nat)(n:Nat):List.replicate n (SV.d (.sl .nil 0 []))=rv N n 0:=by
 apply List.ext_getElem?
 intro j
 simp only[rv,List.getElem?_replicate,List.getElem?_map]
 by_cases h:j<n
 ·simp[h]
 ·simp[h]
theorem Xj{N:Nat→List Nat}{n i:Nat}(h:i<n):setAt (rv N n i) (i*1) [.d (bB 1 (cQ (N i)))]=rv N n (i+1):=by
 simp only[setAt,Nat.mul_one]
 apply List.ext_getElem?
 intro j
 rw[List.getElem?_set,Ow]
 simp only[rv,List.getElem?_map]
 by_cases hj:j<n
 ·by_cases fq:i=j
  ·subst fq
   simp[hj]
  ·simp only[fq,if_false,List.getElem?_range hj,Option.map_some]
   congr 1
   by_cases h2:j<i
   ·rw[if_pos h2,if_pos (by omega)]
   ·rw[if_neg h2,if_neg (by omega)]
 ·have:i≠j:=by omega
  simp[this,hj]
theorem Xk(N:Nat→List Nat)(n:Nat):rv N n n=(nL N n).map SV.d:=by
 apply List.ext_getElem?
 intro j
 simp only[rv,nL,List.getElem?_map]
 by_cases hj:j<n
 ·simp[hj]
 ·simp[hj]
theorem Nk{l:List bT}{L:List D}{x:D}(hx:aE 3 L x)(hl:pN l L)(h8:l.length≤8)(hm:∀m∈l,dC m.aP):aB Try.prog gl 16 [.d x] (oR (Co l)):=by
 have bW:l.length≤maxLen:=Nat.le_trans h8 (by decide)
 refine bZ bl (bG (fn:=Try.f16) (by kernel_rfl) (by kernel_rfl) (by kernel_rfl)) (h:=FP) ?_;rw[abh];intro ba
 simp only[sS,sT,sZ]
 refine aZ (Mv hx hl h8 hm) (j6 _ _) ?_
 simp only[fh,hx.len,hl.len,Hy,DP (D.sl .nil 0 []) rfl,DP (D.bool false) rfl,List.length_replicate,sS,sT,sZ]
 refine⟨by omega,?_⟩
 rw[ZZ (Nf l)]
 refine gS (fun i=>[.d x,.d (bB 1 (pV (mR l))),.d (.int .i64 (l.length:Int)),.d (.int .i64 ((i:Nat):Int))]) (fun i=>[rv (Nf l) l.length i]) l.length (fun i hi I hI=>?_) (fun I=>?_)
 ·simp only[sS,sT,sZ]
  refine And.intro (fun _=>?_) (fun h=>absurd h (by simp;omega))
  have oS:cH (.d (.int .i64 (i:Int))) l.length=some i:=j7 hi
  refine aZ (Nj (eQ 1 _) (by rw[xb];omega) (NS hm) (i:=i) (by rw[xb];omega)) (j6 _ _) ?_
  simp only[oS,fh,A9,Ow,sS,sT,sZ]
  refine⟨rfl,by omega,?_⟩
  refine bC (bK hi bW) ?_
  have:=Xj (N:=Nf l) hi
  rw[show bB 1 (cQ (BX (mR l) i))=bB 1 (cQ (Nf l i)) from rfl,this]
  exact hI
 ·simp only[sS,sT,sZ]
  refine And.intro (fun h=>absurd h (by simp)) (fun _=>?_)
  rw[Xk]
  simp only[Eu,hx.len,hl.len,Hy,List.length_map,abY,DP (D.bool false) rfl,List.length_replicate,sS,sT,sZ]
  refine⟨by omega,?_⟩
  rw[←abZ]
  have adi:iJ l.length l.length (.d (.sl .ro 1 (nL (Nf l) l.length)))=.d (.sl .ro 1 (nL (Nf l) l.length)):=by simp[iJ]
  have hN:aE 1 (nL (Nf l) l.length) (.sl .ro 1 (nL (Nf l) l.length)):=.ro
  rw[adi]
  generalize D.sl .ro 1 (nL (Nf l) l.length)=nx at hN ⊢
  refine Pf (α:=List Bool×List Nat) (fun s=>l.length-s.2.length) (OJ l (Co l)) (fun s=>[.d x,.d nx,bS 1 (cQ s.2)]) (fun s=>[[.undef],bL s.1]) (fun s hJ I hI=>?_) (List.replicate l.length false,[]) (OJ.init l)
  obtain⟨b,out⟩:=s
  have hle:=hJ.le
  have dO:=hJ.len
  simp only at hle dO
  have hom:out.length≤maxLen:=Nat.le_trans hle bW
  simp only[fh,(eQ 1 (cQ out)).len,lu,hx.len,hl.len,sS,sT,sZ]
  refine And.intro (fun h=>?_) (fun h=>?_)
  ·have aI:out.length<l.length:=by simp at h;omega
   refine nh (fun i=>∀j,j<i→rd (Nf l) b j=false) (fun i=>[.d x,.d nx,bS 1 (cQ out),.d (.int .i64 (-1)),.d (.int .i64 (l.length:Int)),.d (.int .i64 ((i:Nat):Int))]) (fun i=>[[.undef],bL b]) l.length (fun j hj=>by omega) (fun i hi Gc I2 cG=>?_) (fun Gc I2=>?_)
   ·simp only[sS,sT,sZ]
    refine And.intro (fun _=>?_) (fun h=>absurd h (by simp;omega))
    have oS:cH (.d (.int .i64 (i:Int))) l.length=some i:=j7 hi
    obtain⟨v,hv⟩:=get_some (by omega:i<b.length)
    have dX:=adh (l:=l) hv
    have aT:rd (Nf l) b i=false→∀j,j<i+1→rd (Nf l) b j=false:=fun h j hj=>by
     rcases Nat.lt_or_ge j i with h2|h2
     ·exact Gc j h2
     ·rw[show j=i by omega];exact h
    simp only[oS,ZX hv,kb,QF,sS,sT,sZ]
    refine And.intro (fun h2=>?_) (fun h2=>?_)
    ·rw[h2,Bool.true_and]at dX
     simp only[hN.at (Re hi),IQ,sS,sT,sZ]
     refine eO (show aB _ gl _ [.d (bB 1 (cQ (Nf l i))),.cM l.length 1 (bL b)] _ from(by rw[←dO];exact Vo b (Nf l i) (eQ 1 _) (Nat.le_trans (QH l i) bW) (fun k hk=>by rw[dO];exact Rf hk))) ?_
     rw[←dX]
     simp only[sS,sT,sZ]
     refine And.intro (fun h3=>?_) (fun h3=>?_)
     ·have hf:first (rd (Nf l) b) (List.range l.length)=some i:=w5 (Br hi) h3 (fun j y hj hy=>by
       rw[Br (by omega)]at hy;cases hy;exact Gc j hj)
      obtain⟨_,CV,hJ'⟩:=hJ.step aI hf
      simp only[ZY,oS,Ea,abX,sS,sT,sZ]
      refine And.intro (fun h=>absurd h (by decide)) (fun _=>?_)
      refine⟨rfl,by rw[dO];omega,?_⟩
      simp only[DO,Ec,qV,sS,sT,sZ]
      refine iV (A3 _) (by simp only[lu,List.length_singleton];omega) ?_
      have:=hI (b.set i true,out++[i]) hJ' (by simp only[List.length_append,List.length_singleton];omega)
      rw[ab0]
      simp only[DN]at this
      exact this
     ·refine bC (bK hi bW) ?_
      exact cG (aT h3)
    ·rw[h2,Bool.false_and]at dX
     refine bC (bK hi bW) ?_
     exact cG (aT dX)
   ·simp only[sS,sT,sZ]
    refine And.intro (fun h=>absurd h (by simp)) (fun _=>?_)
    refine And.intro (fun _=>?_) (fun h=>absurd h (by decide))
    have hf:first (rd (Nf l) b) (List.range l.length)=none:=wT fun j y hy=>by
     have hj:j<l.length:=by have:=(List.getElem?_eq_some_iff.1 hy).1;simpa using this
     rw[Br hj]at hy;cases hy;exact Gc j hj
    obtain⟨a0,h1,h2,h3⟩:=hJ.stuck aI hf
    simp only[QF,sS,sT,sZ]
    refine eO (show aB _ gl _ [.d nx,.cM l.length 1 (bL b)] _ from(by rw[←dO];exact Vq h2 hN (by omega) (fun a _=>QH l a) h1)) ?_
    rw[h3]
    exact⟨rfl,rfl⟩
  ·have aI:¬out.length<l.length:=by simp at h;omega
   have:=hJ.fin aI
   rw[this]
   exact⟨nf _ _,rfl⟩
theorem Wg(a b:List Nat){x y:D}(hx:aE 1 (cQ a) x)(hy:aE 1 (cQ b) y):aB Try.prog gl 18 [.d x,.d y] (.d (.bool (a==b))):=by
 refine bZ bl (bG (fn:=Try.f18) (by kernel_rfl) (by kernel_rfl) (by kernel_rfl)) (h:=FQ) ?_;rw[aaO];intro ba
 have bW:a.length≤maxLen:=by
  have:=hx.tU ba.1
  rwa[lu]at this
 simp only[hx.len,hy.len,lu,ez,BB,sS,sT,sZ]
 refine And.intro (fun h=>?_) (fun h=>?_)
 ·have bf:a≠b:=fun he=>by subst he;simp at h
  rw[beq_eq_false_iff_ne.2 bf]
 have hle:a.length=b.length:=by simpa using h
 refine nh (fun i=>a.take i=b.take i) (fun i=>[.d x,.d y,.d (.int .i64 ((i:Nat):Int))]) (fun i=>[]) a.length rfl (fun i hi hJ I hI=>?_) (fun hJ I=>?_)
 ·simp only[hx.len,lu,sS,sT,sZ]
  refine And.intro (fun _=>?_) (fun h=>absurd h (by simp;omega))
  obtain⟨p,hp⟩:=get_some hi
  obtain⟨q,hq⟩:=get_some (by omega:i<b.length)
  simp only[hx.at (zy hp),hy.at (zy hq),Ey,ez,BB,sS,sT,sZ]
  refine And.intro (fun h=>?_) (fun h=>?_)
  ·have bf:a≠b:=fun he=>by
    subst he
    rw[hp]at hq;cases hq
    simp at h
   rw[beq_eq_false_iff_ne.2 bf]
  ·refine bC (bK hi bW) ?_
   have:p=q:=by simpa using h
   subst this
   exact hI (by rw[eH hp,eH hq,hJ])
 ·simp only[hx.len,lu,sS,sT,sZ]
  refine And.intro (fun h=>absurd h (by simp)) (fun _=>?_)
  rw[List.take_length,hle,List.take_length]at hJ
  rw[hJ];simp
end Go.Proofs.Ytimbllcalipehaa.Ab
namespace Go.Proofs.Ytimbllcalipehaa.Ab
open Go
set_option linter.unusedVariables false
set_option maxRecDepth 4000
structure aA where
 (mo up:Int)
 wH:Bool
 (th el:List au)
 (mark here:Bool)
def ku(b:aA):List D:=[.int .i64 b.mo,.int .i64 b.up,.bool b.wH,bB 6 (bg b.th),bB 6 (bg b.el),.bool b.mark,.bool b.here]
def aA.enc(b:aA):D:=.agg (ku b)
def aA.cells(b:aA):List SV:=(ku b).map .d
def cR(l:List aA):List D:=l.map aA.enc
theorem mr(l:List aA):(cR l).length =l.length:=List.length_map ..
theorem PU{l:List aA}{i:Nat}{b:aA}(h:l[i]? =some b):(cR l)[i]? =some b.enc:=by simp[cR,h]
theorem sV(s:aA)(l:List aA):bA (cR (s::l))=s.cells++bA (cR l):=rfl
theorem sX:∀(l:List aA),cW (bA (cR l))=some (l.flatMap ku)
 |[]=>rfl
 |s::l=>by rw[sV,List.flatMap_cons];exact Hl _ (sX l)
theorem zI:∀(l:List aA),(bA (cR l)).length =l.length*7
 |[]=>rfl
 |s::l=>by rw[sV,List.length_append,zI l,List.length_cons];simp[aA.cells,ku];omega
theorem sO:∀(l:List aA),eP true 7 l.length (l.flatMap ku)=some (cR l)
 |[]=>rfl
 |s::l=>by
  have ih:=sO l
  have h1:((s::l).flatMap ku).drop 7=l.flatMap ku:=rfl
  have h2:((s::l).flatMap ku).take 7=ku s:=rfl
  have h3:7≤((s::l).flatMap ku).length :=by simp[ku]
  simp only[List.length_cons,eP,h1,h2,ih,if_pos h3]
  rfl
theorem Rg(k:Nat)(hk:k<7):∀(l:List aA)(j:Nat)(y:aA),l[j]? =some y→(bA (cR l))[j*7+k]? =y.cells[k]?
 |[],j,y,h=>by simp at h
 |s::l,0,y,h=>by
  simp at h;subst h
  rw[sV,Nat.zero_mul,Nat.zero_add,List.getElem?_append_left (by simp[aA.cells,ku];omega)]
 |s::l,j+1,y,h=>by
  rw[sV,List.getElem?_append_right (by simp[aA.cells,ku];omega)]
  have:(j+1)*7+k-s.cells.length=j*7+k:=by simp[aA.cells,ku];omega
  rw[this]
  exact Rg k hk l j y (by simpa using h)
theorem Ez(k:Nat)(v:D)(y':aA):∀(l:List aA)(j:Nat)(y:aA),l[j]? =some y→k<7→y.cells.set k (.d v)=y'.cells→setAt (bA (cR l)) (j*7+k) [.d v]=bA (cR (l.set j y')):=by
 intro l
 induction l with
 |nil=>intro j y h;simp at h
 |cons s l ih=>
  intro j y h hk he
  cases j with
  |zero=>
   simp at h;subst h
   rw[setAt,setAt,Nat.zero_mul,Nat.zero_add,sV,List.set_append_left _ _ (by simp[aA.cells,ku];omega),he]
   rfl
  |succ j=>
   have:=ih j y (by simpa using h) hk he
   rw[setAt,setAt]at this
   rw[setAt,setAt,sV,List.set_append_right _ _ (by simp[aA.cells,ku];omega)]
   have e:(j+1)*7+k-s.cells.length=j*7+k:=by simp[aA.cells,ku];omega
   rw[e,this]
   rfl
theorem BC{k:Nat}{l:List aA}{j:Nat}{y:aA}(h:l[j]? =some y)(hk:k<7):ag false 1 (j*7+k) (bA (cR l))=y.cells[k]? :=by
 rw[ag,cond_false,Rg k hk l j y h]
theorem PV(b:aA):aM true 7 (.aS b.enc 0)=some (.d b.enc):=zk _ 7 rfl
theorem D4(b:aA):ay (.d b.enc)=some b.cells:=rfl
theorem BZ(b:aA):b.cells.length=7:=rfl
theorem Z0{z:List SV}(hz:z.length=7)(b:aA):setAt z 0 b.cells=b.cells:=pv hz (BZ b)
theorem Fe(a b c d e f g:SV)(x:aA):setAt [a,b,c,d,e,f,g] 0 x.cells=x.cells:=Z0 rfl x
theorem Rh(b:aA):ag false 1 3 b.cells=some (.d (bB 6 (bg b.th))):=rfl
theorem adj(b:aA):ag false 1 4 b.cells=some (.d (bB 6 (bg b.el))):=rfl
theorem EO(b:aA):ag false 1 5 b.cells=some (.d (.bool b.mark)):=rfl
theorem Jr(b:aA):ag false 1 6 b.cells=some (.d (.bool b.here)):=rfl
theorem adk(b:aA):ag false 1 0 b.cells=some (.d (.int .i64 b.mo)):=rfl
theorem Z1(b:aA):bq 7 1 [(0,b.enc)]=true:=rfl
theorem Xl(m u:Int)(t:Bool):cY Try.prog 79 [(0,.int .i64 m),(1,.int .i64 u),(2,.bool t),(5,.bool true)]=some (aA.enc ⟨m,u,t,[],[],true,false⟩):=by kernel_rfl
theorem ab1(z x:D):bu z [(0,x)] 1 0=[x]:=rfl
def fz(l:List aA):SV:=match l with
 |[]=>.d (.sl .nil gp [])
 |l=>.bt 7 (cR l)
theorem qW{l:List aA}(h:l≠[]):fz l=.bt 7 (cR l):=by
 cases l with
 |nil=>exact absurd rfl h
 |cons y l=>rfl
theorem Z2(l:List aA):nH (fz l)=some (fz l):=by cases l<;>rfl
theorem Xm(l:List aA):ri (fz l)=false:=by cases l<;>rfl
theorem wY(l:List aA):(fz l).ar =true:=by cases l<;>rfl
theorem PW(l:List aA):vI (fz l)=some (bS 7 (cR l)):=by cases l<;>rfl
theorem zz{out:List aA}{A:List D→Prop}{B:Prop}(h1:out≠[]→A (cR out))(h2:out=[]→B):ga (fz out) 7 A B:=by
 cases out with
 |nil=>exact h2 rfl
 |cons y l=>exact⟨rfl,h1 (by simp)⟩
theorem Z3{out:List aA}{s:aA}{cL:Nat}{k:SV→Prop}(hb:(out.length+1)*cL≤140737488355328)(hk:k (fz (out++[s]))):ck 7 cL (fz out) (.full 7 [s.enc]) k:=by
 cases out with
 |nil=>
  unfold ck jt
  simp only[elems,if_true]
  exact⟨by simpa using hb,hk⟩
 |cons y l=>
  unfold ck jt
  simp only[elems,if_true]
  refine⟨by simpa[mr]using hb,?_⟩
  have:cR (y::l)++[s.enc]=cR (y::l++[s]):=by simp[cR]
  rw[this]
  exact hk
def xW(l:List aA):SV:=match l with
 |[]=>.d (.sl .nil gp [])
 |_=>.undef
theorem xh(l:List aA):aa (fz l)=xW l:=by cases l<;>rfl
theorem Pj(l:List aA):aa (xW l)=xW l:=by cases l<;>rfl
end Go.Proofs.Ytimbllcalipehaa.Ab
namespace Go.Proofs.Ytimbllcalipehaa.Ab
open Go
set_option linter.unusedVariables false
set_option maxRecDepth 4000
abbrev oa:=Int×au
def iL(ts:List ak):Except oa (List au):=match kc [] (lI ts)with
 |some p=>.error p
 |none=>.ok (ir (lI ts) (lI ts))
def kS(o:List aA)(n:Nat)(sy:List au):List aA:=match o[n]? with
 |some b=>o.set n {b with el:=sy}
 |none=>o
mutual
def gT:ak→List aA→Int→Int→Bool→Except oa (List aA)
 | .mk s a b,out,m,u,th=>if s.kind==18 then
    (match iL a with
    | .error e=>.error e
    | .ok sy=>(match gL a (out++[⟨m,u,th,sy,[],true,false⟩]) m out.length true with
      | .error e=>.error e
      | .ok o2=>(match iL b with
        | .error e=>.error e
        | .ok mj=>gL b (kS o2 out.length mj) m out.length false)))
   else .ok out
def gL:List ak→List aA→Int→Int→Bool→Except oa (List aA)
 |[],out,_,_,_=>.ok out
 |t::l,out,m,u,th=>(match gT t out m u th with
  | .error e=>.error e
  | .ok o=>gL l o m u th)
end
theorem adl{t:ak}(h:(t.s.kind==18)=false)(out:List aA)(m u:Int)(th:Bool):gT t out m u th=.ok out:=by
 cases t with
 |mk s a b=>
  have h:(s.kind==18)=false:=h
  simp only[gT,h];rfl
theorem ab2{t:ak}(h:(t.s.kind==18)=true)(out:List aA)(m u:Int)(th:Bool):gT t out m u th=(match iL t.th with
   | .error e=>.error e
   | .ok sy=>(match gL t.th (out++[⟨m,u,th,sy,[],true,false⟩]) m out.length true with
     | .error e=>.error e
     | .ok o2=>(match iL t.el with
       | .error e=>.error e
       | .ok mj=>gL t.el (kS o2 out.length mj) m out.length false))):=by
 cases t with
 |mk s a b=>
  have h:(s.kind==18)=true:=h
  simp only[gT,h];rfl
theorem IU:∀(a b:List ak)(out:List aA)(m u:Int)(th:Bool),gL (a++b) out m u th=(match gL a out m u th with| .error e=>.error e| .ok o=>gL b o m u th)
 |[],b,out,m,u,th=>rfl
 |t::a,b,out,m,u,th=>by
  rw[List.cons_append,gL,gL]
  cases gT t out m u th with
  |error e=>rfl
  |ok o=>exact IU a b o m u th
theorem Z4{l:List ak}{i:Nat}{t:ak}(h:l[i]? =some t){out o:List aA}{m u:Int}{th:Bool}(ho:gL (l.take i) out m u th=.ok o):gL (l.take (i+1)) out m u th=gT t o m u th:=by
 rw[eH h,IU,ho]
 simp only[gL]
 cases gT t o m u th<;>rfl
theorem EA{l:List ak}{i:Nat}{out:List aA}{m u:Int}{th:Bool}{e:oa}(ho:gL (l.take i) out m u th=.error e):gL l out m u th=.error e:=by
 rw[←List.take_append_drop i l,IU,ho]
theorem DQ(o:List aA)(n:Nat)(sy:List au):(kS o n sy).length =o.length:=by
 unfold kS
 split<;>simp
theorem Yy{o:List aA}{n j:Nat}(sy:List au)(h:j≠n):(kS o n sy)[j]? =o[j]? :=by
 unfold kS
 split
 ·rw[List.getElem?_set_ne (fun hh=>h hh.symm)]
 ·rfl
def RX(out o:List aA)(n:Nat):Prop:=o.length=out.length+n∧∀(j:Nat),j<out.length→o[j]? =out[j]?
mutual
theorem PX:∀(t:ak){out o:List aA}{m u:Int}{th:Bool},gT t out m u th=.ok o→RX out o t.nb
 | .mk s a b,out,o,m,u,th,h=>by
   simp only[gT]at h
   simp only[ak.nb]
   split at h
   ·rename_i hk
    rw[if_pos hk]
    split at h
    ·cases h
    ·split at h
     ·cases h
     ·rename_i o2 h2
      split at h
      ·cases h
      ·have k1:=sY a h2
       have k2:=sY b h
       refine⟨?_,fun j hj=>?_⟩
       ·rw[k2.1,DQ,k1.1,List.length_append,List.length_singleton];omega
       ·rw[k2.2 j (by rw[DQ,k1.1,List.length_append];omega),Yy _ (by omega),k1.2 j (by rw[List.length_append];omega),List.getElem?_append_left hj]
   ·rename_i hk
    rw[if_neg hk]
    cases h
    exact⟨rfl,fun _ _=>rfl⟩
theorem sY:∀(l:List ak){out o:List aA}{m u:Int}{th:Bool},gL l out m u th=.ok o→RX out o (ak.cz l)
 |[],out,o,m,u,th,h=>by
  simp only[gL]at h
  cases h
  exact⟨rfl,fun _ _=>rfl⟩
 |t::l,out,o,m,u,th,h=>by
  simp only[gL]at h
  simp only[ak.cz]
  split at h
  ·cases h
  ·rename_i o1 h1
   have k1:=PX t h1
   have k2:=sY l h
   exact⟨by rw[k2.1,k1.1];omega,fun j hj=>by rw[k2.2 j (by rw[k1.1];omega),k1.2 j hj]⟩
end
def kX(c:Int)(s:au):D:=.agg [.int .i64 c,.int .i64 s.line,.int .i64 s.fY,.str s.name]
def ej:D:=.agg [.int .i64 0,.int .i64 0,.int .i64 0,.str []]
def gR(r:Except oa (List aA)):List SV:=match r with
 | .error (c,s)=>[.d (.sl .nil 0 []),.d (kX c s)]
 | .ok o=>[fz o,.d ej]
def GH(ts:List ak):Prop:=∀{L:List D}{x:D}(out:List aA)(m u:Int)(th:Bool),aE 55 L x→fG ts L→dC ts→out.length+ak.cB ts≤2^20→
 aB Try.prog gl 74 (oJ 0 [fz out,.d x,.d (.int .i64 m),.d (.int .i64 u),.d (.bool th)]) (.aK (xW out::gR (gL ts out m u th)))
theorem QI{ts:List ak}(h:dC ts){L:List D}{xs:D}(hx:aE 55 L xs)(hs:fG ts L):aB Try.prog gl 50 [.d xs] (match iL ts with| .error (c,s)=>.aK [.d (.sl .nil 0 []),.d (kX c s)]| .ok sy=>.aK [.d (bB 6 (bg sy)),.d ej]):=by
 have:=UH h hx hs
 unfold iL
 unfold mQ at this
 cases hc:kc [] (lI ts)with
 |some p=>obtain⟨c,s⟩:=p;rw[hc]at this;exact this
 |none=>rw[hc]at this;exact this
theorem zA{ts:List ak}{c:Int}{s:au}(h:iL ts=.error (c,s)):c≠0:=by
 unfold iL at h
 split at h
 ·rename_i p hp
  cases h
  exact HZ _ _ _ _ hp
 ·cases h
theorem vF{P:Program}{gl:Nat→Option D}{f:FuncId}{args:List SV}{bk y:SV}{r1 r2:SV}{k:SV→SV→SV→Prop}(hH:aB P gl f args (.aK [bk,r1,r2]))(hd:aa bk=y)(hk:k r1 r2 bk):∃a b c,aB P gl f args (.aK [c,a,b])∧aa c=y∧k a b c:=⟨r1,r2,bk,hH,hd,hk⟩
theorem ak.vo(l:List ak):ak.cB l=(l.map ak.sz).sum :=by
 induction l with
 |nil=>rfl
 |cons t l ih=>simp[ak.cB,ih]
theorem ak.Pk{l:List ak}{i:Nat}{t:ak}(h:l[i]? =some t):ak.cz (l.take i)+t.sz≤ak.cB l:=by
 have h1:=ak.tj (l.take i)
 have h2:ak.cB (l.take (i+1))=ak.cB (l.take i)+t.sz:=by
  rw[eH h,ak.vo,ak.vo];simp
 have h3:ak.cB (l.take (i+1))≤ak.cB l:=by
  rw[ak.vo,ak.vo,←List.take_append_drop (i+1) l,List.map_append,List.sum_append,List.take_append_drop];omega
 omega
theorem PY{l:List aA}(h:l≠[]):xW l=.undef :=by
 cases l with
 |nil=>exact absurd rfl h
 |cons y l=>rfl
mutual
theorem adm:∀(t:ak){out:List aA}{m u:Int}{th:Bool}{c:Int}{s:au},gT t out m u th=.error (c,s)→c≠0
 | .mk s a b,out,m,u,th,c,sy,h=>by
   simp only[gT]at h
   split at h
   ·split at h
    ·rename_i h1;cases h;exact zA h1
    ·split at h
     ·rename_i h1;cases h;exact xw a h1
     ·split at h
      ·rename_i h1;cases h;exact zA h1
      ·exact xw b h
   ·cases h
theorem xw:∀(l:List ak){out:List aA}{m u:Int}{th:Bool}{c:Int}{s:au},gL l out m u th=.error (c,s)→c≠0
 |[],out,m,u,th,c,s,h=>by simp[gL]at h
 |t::l,out,m,u,th,c,s,h=>by
  simp only[gL]at h
  split at h
  ·rename_i h1;cases h;exact adm t h1
  ·exact xw l h
end
theorem vp:aR []=some []:=rfl
theorem Xn(x y:D):bd (.full 1 [x,y])=some (.d (.int .i64 2)):=rfl
theorem HE(x y:D):aa (.full 1 [x,y])=.full 1 [x,y]:=rfl
theorem Z5:bc 1 (.full 1 [.bool true,.bool false]) (.d (.int .i64 0))=some (.aS (.bool true) 0):=rfl
theorem Z6:bc 1 (.full 1 [.bool true,.bool false]) (.d (.int .i64 1))=some (.aS (.bool false) 0):=rfl
theorem Ip(v:Bool):aM false 1 (.aS (.bool v) 0)=some (.d (.bool v)):=rfl
theorem Z7:bu (bD false [.bool false]) [(0,.bool true),(1,.bool false)] 2 0=[.bool true,.bool false]:=rfl
theorem Yz:bq 1 2 [(0,.bool true),(1,.bool false)]=true:=rfl
theorem gU(x y:D)(i j:Nat):aR [(i,.v (.d x)),(j,.v (.d y))]=some [(i,x),(j,y)]:=rfl
theorem Vr(ts:List ak)(IH:∀uR,ak.cB uR<ak.cB ts→GH uR):GH ts:=by
 intro L x out m u th hx hs ee aH
 have h0:=ak.ti ts
 have bW:ts.length≤maxLen:=Nat.le_trans (Nat.le_trans h0 ee.sz) (by decide)
 have xL:∀r∈gR (gL ts out m u th),ri r=false:=by
  intro r hr
  unfold gR at hr
  split at hr
  ·simp at hr;rcases hr with rfl|rfl<;>rfl
  ·simp at hr;rcases hr with rfl|rfl
   ·exact Xm _
   ·rfl
 rw[←xh]
 refine NN bl (bG (fn:=Try.f74) (by kernel_rfl) (by kernel_rfl) (by kernel_rfl)) (hh:=Tc) (by simp[SV.fO,wY,SV.ar]) rfl xL ?_
 rw[abx]
 intro ba
 have hK:∀r1 r2,gR (gL ts out m u th)=[r1,r2]→JR (gR (gL ts out m u th))=.aK [r1,r2]:=fun r1 r2 h=>by rw[h];rfl
 simp only[Z2,hx.len,hs.len,sS,sT,sZ]
 refine sL (α:=List aA) (fun i o=>gL (ts.take i) out m u th=.ok o) (fun i o=>[fz o,.d (.int .i64 m),.d (.int .i64 u),.d (.bool th),.d x,.d (.int .i64 (ts.length:Int)),.d (.int .i64 ((i:Nat):Int))]) (fun i o=>[[.d (.int .i64 0),.d (.int .i64 0),.d (.int .i64 0),.d (.str [])]]) ts.length out rfl (fun i o hi hJ I hI=>?_) (fun o hJ I=>?_)
 ·simp only[sS,sT,sZ]
  refine And.intro (fun _=>?_) (fun h=>absurd h (by simp;omega))
  obtain⟨t,ht⟩:=get_some hi
  obtain⟨y,hy,gA⟩:=hs.at_ ht
  obtain⟨c,aY,al,yt,ye,Lt,Le,hc⟩:=gA.out
  have eT:=pv (z:=e4) (c:=c) rfl hc.len
  simp only[sZ]at eT
  have hz:=ak.zZ ht
  have yg:=t.Bq
  have aT:=Z4 ht hJ
  have Gd:=sY _ hJ
  have iB:=ak.Pk ht
  have yI:=ee.th (List.mem_of_getElem? ht)
  simp only[hx.at hy,hc.load,hc.cells,hc.len,eT,hc.p0,ez,sS,sT,sZ]
  refine And.intro (fun hk=>?_) (fun hk=>?_)
  ·have bI:(t.s.kind==18)=false:=by simpa[bne]using hk
   rw[adl bI]at aT
   refine bC (bK hi bW) ?_
   exact hI o aT
  have bI:(t.s.kind==18)=true:=by simpa[bne]using hk
  rw[ab2 bI]at aT
  refine Pb [fz o,.d (.int .i64 m),.d (.int .i64 u),.d (.bool th),.d (.int .i64 (o.length:Int)),.d x,.d (.int .i64 (ts.length:Int)),.d (.int .i64 ((i:Nat):Int))] [[.d (.int .i64 0),.d (.int .i64 0),.d (.int .i64 0),.d (.str [])],c] (fun J n0=>?_) ?_
  ·refine zz (fun bf=>?_) (fun he=>?_)
   ·simp only[sX,sO,mr,sS,sT,sZ]
    rw[←qW bf]
    exact n0
   ·subst he
    exact n0
  ·have CL:o.length≤2^20:=by rw[Gd.1];omega
   simp only[xa,Xl,dD,Z1,ab1,sS,sT,sZ]
   refine Z3 (by omega) ?_
   simp only[gU,Yz,Z7,Xn,HE,sS,sT,sZ]
   intro I3 j2
   refine j2 _ _ ?_
   simp only[Z5,Ip,hc.C5,hc.C6,HE,sS,sT,sZ]
   refine And.intro (fun _=>?_) (fun h=>absurd h (by decide))
   refine And.intro (fun _=>?_) (fun h=>absurd h (by decide))
   have AL:=QI yI.1 hc.n9 hc.fu
   have oY:=fun c s=>zA (ts:=t.th) (c:=c) (s:=s)
   cases k7:iL t.th with
   |error e=>
    obtain⟨c0,s0⟩:=e
    rw[k7]at AL aT
    dsimp only at aT AL
    refine call2 AL ?_
    simp only[kX,dE,dJ,z4,dG,ic,ez,pD (oY c0 s0 k7),sS,sT,sZ]
    refine And.intro (fun _=>?_) (fun h=>absurd h (by decide))
    rw[EA aT]
    rfl
   |ok sy=>
   rw[k7]at AL aT
   dsimp only at aT AL
   refine call2 AL ?_
   simp only[ej,dE,dJ,z4,dG,ic,ez,sS,sT,sZ]
   refine And.intro (fun h=>absurd h (by decide)) (fun _=>?_)
   refine And.intro (fun _=>?_) (fun h=>absurd h (by decide))
   refine zz (fun _=>?_) (fun he=>absurd he (by simp))
   have oS:cH (.d (.int .i64 (o.length:Int))) (cR (o++[aA.mk m u th [] [] true false])).length =some o.length:=j7 (by rw[mr,List.length_append,List.length_singleton];omega)
   have er:setAt (bA (cR (o++[aA.mk m u th [] [] true false]))) (o.length*7+3) [.d (bB 6 (bg sy))]=bA (cR (o++[aA.mk m u th sy [] true false])):=by
    rw[Ez 3 (bB 6 (bg sy)) (aA.mk m u th sy [] true false) _ o.length (aA.mk m u th [] [] true false) (by simp) (by omega) rfl]
    simp
   have TJ:=sO (o++[aA.mk m u th sy [] true false])
   rw[List.length_append,List.length_singleton]at TJ
   simp only[oS,A9,er,sX,zI,sS,sT,sZ]
   refine⟨rfl,by simp only[List.length_append,List.length_singleton];omega,?_⟩
   simp only[mr,List.length_append,List.length_singleton,TJ,sS,sT,sZ]
   have H1:=IH t.th (by omega) (o++[aA.mk m u th sy [] true false]) m (o.length:Int) true hc.n9 hc.fu yI.1 (by rw[List.length_append,List.length_singleton,Gd.1];omega)
   rw[qW (by simp:o++[aA.mk m u th sy [] true false]≠[]),PY (by simp)]at H1
   cases hg:gL t.th (o++[aA.mk m u th sy [] true false]) m (o.length:Int) true with
   |error e=>
    obtain⟨c0,s0⟩:=e
    rw[hg]at H1 aT
    dsimp only at aT
    have uQ:=xw _ hg
    refine vF H1 rfl ?_
    simp only[kX,dE,dJ,z4,dG,ic,ez,pD uQ,sS,sT,sZ]
    refine And.intro (fun _=>?_) (fun h=>absurd h (by decide))
    rw[EA aT]
    rfl
   |ok o2=>
   rw[hg]at H1 aT
   dsimp only at aT
   have yn:=sY _ hg
   have RY:=yn.1
   rw[List.length_append,List.length_singleton]at RY
   refine vF H1 rfl ?_
   simp only[ej,dE,dJ,z4,dG,ic,ez,sS,sT,sZ]
   refine And.intro (fun h=>absurd h (by decide)) (fun _=>?_)
   refine bC (show ah none .add (.d (.int .i64 0)) (.d (.int .i64 1))=some (.d (.int .i64 1)) from rfl) ?_
   refine j2 _ _ ?_
   simp only[Z6,Ip,hc.C5,hc.C6,HE,sS,sT,sZ]
   refine And.intro (fun _=>?_) (fun h=>absurd h (by decide))
   refine And.intro (fun h=>absurd h (by decide)) (fun _=>?_)
   have AM:=QI yI.2 hc.g9 hc.fc
   cases mV:iL t.el with
   |error e=>
    obtain⟨c0,s0⟩:=e
    rw[mV]at AM aT
    dsimp only at aT AM
    refine call2 AM ?_
    simp only[kX,dE,dJ,z4,dG,ic,ez,pD (zA mV),sS,sT,sZ]
    refine And.intro (fun _=>?_) (fun h=>absurd h (by decide))
    rw[EA aT]
    rfl
   |ok mj=>
   rw[mV]at AM aT
   dsimp only at aT AM
   have wI:o2[o.length]? =some (aA.mk m u th sy [] true false):=by
    rw[yn.2 o.length (by rw[List.length_append,List.length_singleton];omega)]
    simp
   have hse:kS o2 o.length mj=o2.set o.length (aA.mk m u th sy mj true false):=by unfold kS;rw[wI]
   rw[hse]at aT
   have Ge:o2≠[]:=fun he=>by rw[he]at wI;simp at wI
   have TK:o2.set o.length (aA.mk m u th sy mj true false)≠[]:=fun he=>by
    have:=congrArg List.length he
    simp at this
    exact Ge this
   refine call2 AM ?_
   simp only[ej,dE,dJ,z4,dG,ic,ez,sS,sT,sZ]
   refine And.intro (fun h=>absurd h (by decide)) (fun _=>?_)
   refine And.intro (fun h=>absurd h (by decide)) (fun _=>?_)
   refine zz (fun _=>?_) (fun he=>absurd he Ge)
   have adn:cH (.d (.int .i64 (o.length:Int))) (cR o2).length =some o.length:=j7 (by rw[mr];omega)
   have lR:setAt (bA (cR o2)) (o.length*7+4) [.d (bB 6 (bg mj))]=bA (cR (o2.set o.length (aA.mk m u th sy mj true false))):=
    Ez 4 (bB 6 (bg mj)) (aA.mk m u th sy mj true false) _ o.length _ wI (by omega) rfl
   have TL:=sO (o2.set o.length (aA.mk m u th sy mj true false))
   rw[List.length_set]at TL
   simp only[adn,A9,lR,sX,zI,sS,sT,sZ]
   refine⟨rfl,by omega,?_⟩
   simp only[mr,TL,sS,sT,sZ]
   have hnn:=ak.tj t.th
   have H2:=IH t.el (by omega) (o2.set o.length (aA.mk m u th sy mj true false)) m (o.length:Int) false hc.g9 hc.fc yI.2 (by rw[List.length_set,RY,Gd.1];omega)
   rw[qW TK,PY TK]at H2
   cases LM:gL t.el (o2.set o.length (aA.mk m u th sy mj true false)) m (o.length:Int) false with
   |error e=>
    obtain⟨c0,s0⟩:=e
    rw[LM]at H2 aT
    have uQ:=xw _ LM
    refine vF H2 rfl ?_
    simp only[kX,dE,dJ,z4,dG,ic,ez,pD uQ,sS,sT,sZ]
    refine And.intro (fun _=>?_) (fun h=>absurd h (by decide))
    rw[EA aT]
    rfl
   |ok o4=>
   rw[LM]at H2 aT
   refine vF H2 rfl ?_
   simp only[ej,dE,dJ,z4,dG,ic,ez,sS,sT,sZ]
   refine And.intro (fun h=>absurd h (by decide)) (fun _=>?_)
   refine bC (show ah none .add (.d (.int .i64 1)) (.d (.int .i64 1))=some (.d (.int .i64 2)) from rfl) ?_
   refine j2 _ _ ?_
   simp only[sS,sT,sZ]
   refine And.intro (fun h=>absurd h (by decide)) (fun _=>?_)
   refine bC (bK hi bW) ?_
   exact hI o4 aT
 ·simp only[sS,sT,sZ]
  refine And.intro (fun h=>absurd h (by simp)) (fun _=>?_)
  rw[List.take_length]at hJ
  simp only[vp,yV,dE,dJ,eI,dG,sS,sT,sZ]
  rw[hJ]
  exact⟨wY _,rfl⟩
theorem UO(ts:List ak):GH ts:=by
 have key:∀n ts,ak.cB ts<n→GH ts:=by
  intro n
  induction n with
  |zero=>intro ts h;omega
  |succ n ih=>exact fun ts h=>Vr ts fun uR h'=>ih uR (by omega)
 exact fun{L x}=>key _ ts (Nat.lt_succ_self _)
end Go.Proofs.Ytimbllcalipehaa.Ab
namespace Go.Proofs.Ytimbllcalipehaa.Ab
open Go
set_option linter.unusedVariables false
set_option maxRecDepth 4000
def fN:List bT→Nat→List aA→List au→Except oa (List aA×List au)
 |[],_,out,os=>.ok (out,os)
 |m::l,i,out,os=>(match iL m.aP with
  | .error e=>.error e
  | .ok sy=>(match gL m.aP out (i:Int) (-1) true with
    | .error e=>.error e
    | .ok o=>fN l (i+1) o (os++sy)))
theorem Iq:∀(a b:List bT)(i:Nat)(out:List aA)(os:List au),fN (a++b) i out os=(match fN a i out os with| .error e=>.error e| .ok r=>fN b (i+a.length) r.1 r.2)
 |[],b,i,out,os=>rfl
 |m::a,b,i,out,os=>by
  rw[List.cons_append,fN,fN]
  cases iL m.aP with
  |error e=>rfl
  |ok sy=>
   dsimp only
   cases gL m.aP out (i:Int) (-1) true with
   |error e=>rfl
   |ok o=>
    dsimp only
    rw[Iq a b (i+1) o (os++sy),List.length_cons,show i+1+a.length=i+(a.length+1) by omega]
theorem YA{l:List bT}{i:Nat}{m:bT}(h:l[i]? =some m){o:List aA}{os:List au}(ho:fN (l.take i) 0 [] []=.ok (o,os)):fN (l.take (i+1)) 0 [] []=(match iL m.aP with
  | .error e=>.error e
  | .ok sy=>(match gL m.aP o (i:Int) (-1) true with
    | .error e=>.error e
    | .ok o2=>.ok (o2,os++sy))):=by
 have hi:=(List.getElem?_eq_some_iff.1 h).1
 rw[eH h,Iq,ho]
 dsimp only
 rw[List.length_take,Nat.zero_add,Nat.min_eq_left (by omega),fN]
 cases iL m.aP with
 |error e=>rfl
 |ok sy=>
  dsimp only
  cases gL m.aP o (i:Int) (-1) true<;>rfl
theorem PZ{l:List bT}{i:Nat}{e:oa}(h:fN (l.take i) 0 [] []=.error e):fN l 0 [] []=.error e:=by
 rw[←List.take_append_drop i l,Iq,h]
def svR(r:Except oa (List aA×List au)):SV:=match r with
 | .error (c,s)=>.aK [.d (.sl .nil 0 []),.d (.sl .nil 0 []),.d (kX c s)]
 | .ok (o,os)=>.aK [fz o,bS 6 (bg os),.d ej]
theorem ab3{m:bT}(h:dC m.aP){d:D}(hd:jR m d):aB Try.prog gl 24 [.d d] (match iL m.aP with| .error (c,s)=>.aK [.d (.sl .nil 0 []),.d (kX c s)]| .ok sy=>.aK [.d (bB 6 (bg sy)),.d ej]):=by
 have:=MB h hd
 unfold iL
 unfold mQ bT.syms at this
 cases hc:kc [] (lI m.aP)with
 |some p=>obtain⟨c,s⟩:=p;rw[hc]at this;exact this
 |none=>rw[hc]at this;exact this
theorem D5{ts:List ak}(h:dC ts){sy:List au}(hs:iL ts=.ok sy):sy.length≤4920:=by
 unfold iL at hs
 split at hs
 ·cases hs
 ·cases hs;exact Nat.le_trans (Ni _) h.syms.1
theorem QJ{P:Program}{gl:Nat→Option D}{f:FuncId}{args:List SV}{bk y:SV}{r1 r2:SV}{k:SV→SV→SV→Prop}(hH:aB P gl f args (.aK [bk,r1,r2]))(hd:aa bk=y)(hk:k r1 r2 bk):∃a b c,aB P gl f args (.aK [c,a,b])∧aa c=y∧k a b c:=⟨r1,r2,bk,hH,hd,hk⟩
theorem Pl{P:Program}{gl:Nat→Option D}{f:FuncId}{args:List SV}{r1 r2 r3:SV}{k:SV→SV→SV→Prop}(hH:aB P gl f args (.aK [r1,r2,r3]))(hk:k r1 r2 r3):∃a b c,aB P gl f args (.aK [a,b,c])∧k a b c:=⟨r1,r2,r3,hH,hk⟩
theorem P0(a b:List au):bg a++bg b=bg (a++b):=by simp[bg]
theorem UP{l:List bT}{L:List D}{x:D}(hx:aE 3 L x)(hl:pN l L)(h8:l.length≤8)(hm:∀m∈l,dC m.aP):aB Try.prog gl 54 [.d x] (svR (fN l 0 [] [])):=by
 have bW:l.length≤maxLen:=Nat.le_trans h8 (by decide)
 refine bZ bl (bG (fn:=Try.f54) (by kernel_rfl) (by kernel_rfl) (by kernel_rfl)) (h:=S1) ?_;rw[abr];intro ba
 have yJ:nH (.d (.sl .nil 0 []))=some (fz []):=rfl
 simp only[yJ,hx.len,hl.len,sS,sT,sZ]
 refine sL (α:=List aA×List au) (fun i a=>fN (l.take i) 0 [] []=.ok a∧a.1.length≤120*i∧a.2.length≤4920*i) (fun i a=>[fz a.1,bS 6 (bg a.2),.d x,.d (.int .i64 (l.length:Int)),.d (.int .i64 ((i:Nat):Int))]) (fun i a=>[[.d (.int .i64 0),.d (.int .i64 0),.d (.int .i64 0),.d (.str [])]]) l.length ([],[]) ⟨rfl,by simp,by simp⟩ (fun i a hi hJ I hI=>?_) (fun a hJ I=>?_)
 ·obtain⟨o,os⟩:=a
  obtain⟨hJ,ho1,Ge⟩:=hJ
  dsimp only at ho1 Ge
  simp only[sS,sT,sZ]
  refine And.intro (fun _=>?_) (fun h=>absurd h (by simp;omega))
  obtain⟨m,gy⟩:=get_some hi
  obtain⟨y,hy,j1⟩:=hl.at_ gy
  have ee:=hm m (List.mem_of_getElem? gy)
  have hS:=ab3 ee j1
  have aT:=YA gy hJ
  cases j1 with
  |mk xs Lm sr Kc=>
  simp only[hx.at hy,H3,Bp,Ak,Io,Im,D2,sS,sT,sZ]
  cases k7:iL m.aP with
  |error e=>
   obtain⟨c0,s0⟩:=e
   rw[k7]at hS aT
   dsimp only at hS aT
   refine call2 hS ?_
   simp only[kX,dE,dJ,z4,dG,ic,ez,pD (zA k7),sS,sT,sZ]
   refine And.intro (fun _=>?_) (fun h=>absurd h (by decide))
   rw[PZ aT]
   rfl
  |ok sy=>
   have hsy:=D5 ee k7
   rw[k7]at hS aT
   dsimp only at hS aT
   refine call2 hS ?_
   simp only[ej,dE,dJ,z4,dG,ic,ez,sS,sT,sZ]
   refine And.intro (fun h=>absurd h (by decide)) (fun _=>?_)
   refine iV (DK _ _) (by simp only[gr];omega) ?_
   have aH:=ee.sz
   have H1:=UO m.aP o (i:Int) (-1) true sr Kc ee (by omega)
   cases hg:gL m.aP o (i:Int) (-1) true with
   |error e=>
    obtain⟨c0,s0⟩:=e
    rw[hg]at H1 aT
    dsimp only at aT
    refine QJ H1 (by rw[xh,Pj]) ?_
    simp only[kX,dE,dJ,z4,eI,dG,ic,ez,pD (xw _ hg),sS,sT,sZ]
    refine And.intro (fun _=>?_) (fun h=>absurd h (by decide))
    rw[PZ aT]
    rfl
   |ok o2=>
    rw[hg]at H1 aT
    dsimp only at aT
    have Gd:=(sY _ hg).1
    have iB:=ak.tj m.aP
    refine QJ H1 (by rw[xh,Pj]) ?_
    simp only[ej,dE,dJ,z4,eI,dG,ic,ez,sS,sT,sZ]
    refine And.intro (fun h=>absurd h (by decide)) (fun _=>?_)
    refine bC (bK hi bW) ?_
    have:=hI (o2,os++sy) ⟨aT,by dsimp only;omega,by simp only[List.length_append];omega⟩
    rw[P0]
    exact this
 ·obtain⟨o,os⟩:=a
  simp only[sS,sT,sZ]
  refine And.intro (fun h=>absurd h (by simp)) (fun _=>?_)
  have h1:=hJ.1
  rw[List.take_length]at h1
  simp only[vp,yV,dE,dJ,eI,dG,sS,sT,sZ]
  rw[h1]
  exact⟨wY _,nf _ _,rfl⟩
end Go.Proofs.Ytimbllcalipehaa.Ab
namespace Go.Proofs.Ytimbllcalipehaa.Ab
open Go
set_option linter.unusedVariables false
set_option maxRecDepth 4000
def zJ(l:List aA)(b:aA):Bool:=if b.up<0 then true else(match l[b.up.toNat]? with
 |some p=>p.here&&(p.mark==b.wH)
 |none=>false)
def vq(l:List aA)(i:Nat):List aA:=match l[i]? with
 |some b=>l.set i {b with here:=zJ l b}
 |none=>l
def mS(l:List aA)(i:Nat):List aA:=(List.range i).foldl vq l
def iX(l:List aA):List aA:=mS l l.length
theorem Wh(l:List aA)(i:Nat):(vq l i).length =l.length:=by
 unfold vq
 split<;>simp
theorem HF(l:List aA)(i:Nat):mS l (i+1)=vq (mS l i) i:=by
 rw[mS,List.range_succ,List.foldl_append];rfl
theorem zr(l:List aA):∀i,(mS l i).length =l.length
 |0=>rfl
 |i+1=>by rw[HF,Wh,zr l i]
def aA.same(a b:aA):Prop:=a.mo=b.mo∧a.up=b.up∧a.wH=b.wH∧a.th=b.th∧a.el=b.el∧a.mark=b.mark
theorem Xo{l:List aA}{i j:Nat}{b:aA}(h:(vq l i)[j]? =some b):∃b',l[j]? =some b'∧b.same b':=by
 unfold vq at h
 split at h
 ·rename_i c hc
  rw[List.getElem?_set]at h
  split at h
  ·rename_i fq
   subst fq
   split at h
   ·cases h
    exact⟨c,hc,rfl,rfl,rfl,rfl,rfl,rfl⟩
   ·cases h
  ·exact⟨b,h,rfl,rfl,rfl,rfl,rfl,rfl⟩
 ·exact⟨b,h,rfl,rfl,rfl,rfl,rfl,rfl⟩
theorem aA.Wi{a b c:aA}(h:a.same b)(k:b.same c):a.same c:=
 ⟨h.1.trans k.1,h.2.1.trans k.2.1,h.2.2.1.trans k.2.2.1,h.2.2.2.1.trans k.2.2.2.1,h.2.2.2.2.1.trans k.2.2.2.2.1,h.2.2.2.2.2.trans k.2.2.2.2.2⟩
theorem Ir{l:List aA}:∀{i j:Nat}{b:aA},(mS l i)[j]? =some b→∃b',l[j]? =some b'∧b.same b'
 |0,j,b,h=>⟨b,h,rfl,rfl,rfl,rfl,rfl,rfl⟩
 |i+1,j,b,h=>by
  rw[HF]at h
  obtain⟨b1,h1,h2⟩:=Xo h
  obtain⟨b2,h3,h4⟩:=Ir h1
  exact⟨b2,h3,aA.Wi h2 h4⟩
def Cp(l:List aA):Prop:=∀b∈l,b.up<0∨b.up<l.length
theorem Cp.pl{l:List aA}(h:Cp l)(i:Nat):Cp (mS l i):=fun b hb=>by
 obtain⟨j,hj⟩:=List.mem_iff_getElem?.1 hb
 obtain⟨b',h1,h2⟩:=Ir hj
 rw[zr,h2.2.1]
 exact h b' (List.mem_of_getElem? h1)
theorem Ri(b:aA):b.cells[1]? =some (.d (.int .i64 b.up)):=rfl
theorem ado(b:aA):b.cells[2]? =some (.d (.bool b.wH)):=rfl
theorem adp(b:aA):b.cells[5]? =some (.d (.bool b.mark)):=rfl
theorem adq(b:aA):b.cells[6]? =some (.d (.bool b.here)):=rfl
theorem adr(a b:Bool):ah (some (false,[.bool])) .eql (.d (.bool a)) (.d (.bool b))=some (.d (.bool (a==b))):=rfl
theorem Nl{l:List aA}(hu:Cp l)(hl:l.length≤2^20):aB Try.prog gl 75 (oJ 0 [fz l]) (.aK [fz (iX l)]):=by
 cases K9:l with
 |nil=>
  refine DC bl (bG (fn:=Try.f75) (by kernel_rfl) (by kernel_rfl) (by kernel_rfl)) (hh:=RG) rfl (by decide) (fun h=>by cases h) ?_
  rw[ZO]
  intro ba
  have e0:fz []=.d (.sl .nil gp []):=rfl
  have e1:bd (.d (.sl .nil gp []))=some (.d (.int .i64 0)):=rfl
  rw[e0]
  simp only[e1,sS,sT,sZ]
  intro I hI
  refine hI _ _ ?_
  simp only[sS,sT,sZ]
  refine And.intro (fun h=>absurd h (by decide)) (fun _=>?_)
  rfl
 |cons b0 l0=>
 rw[←K9]
 have bf:l≠[]:=by rw[K9];simp
 have bW:l.length≤maxLen:=Nat.le_trans hl (by decide)
 refine DC bl (bG (fn:=Try.f75) (by kernel_rfl) (by kernel_rfl) (by kernel_rfl)) (hh:=Td) (by simp[SV.fO,wY]) (by simp) (fun h=>?_) ?_
 ·have LN:iX l≠[]:=fun he=>by
   have:=zr l l.length
   rw[show mS l l.length=iX l from rfl,he]at this
   simp at this;exact bf (List.length_eq_zero_iff.1 this.symm)
  rw[qW LN]at h
  cases h
 rw[aby]
 intro ba
 refine zz (fun _=>?_) (fun he=>absurd he bf)
 rw[show bA (cR l)=bA (cR (mS l 0)) from rfl]
 simp only[mr]
 refine gS (fun i=>[.d (.int .i64 (l.length:Int)),.d (.int .i64 ((i:Nat):Int))]) (fun i=>[bA (cR (mS l i))]) l.length (fun i hi I hI=>?_) (fun I=>?_)
 ·simp only[mr,sS,sT,sZ]
  refine And.intro (fun _=>?_) (fun h=>absurd h (by simp;omega))
  have oS:cH (.d (.int .i64 (i:Int))) l.length=some i:=j7 hi
  have hlen:=zr l i
  have Gf:=hu.pl i
  rw[HF]at hI
  generalize mS l i=q at hlen Gf hI ⊢
  obtain⟨b,hb⟩:=get_some (by omega:i<q.length)
  have aT:vq q i=q.set i {b with here:=zJ q b}:=by unfold vq;rw[hb]
  rw[aT]at hI
  have eT:∀v,setAt (bA (cR q)) (i*7+6) [.d (.bool v)]=bA (cR (q.set i {b with here:=v})):=fun v=>Ez 6 (.bool v) {b with here:=v} q i b hb (by omega) rfl
  simp only[oS,BC hb (by omega:1<7),Ri,sS,sT,sZ]
  have hle:i*7+6+1≤(bA (cR q)).length :=by rw[zI,hlen];omega
  refine And.intro (fun h=>?_) (fun h=>?_)
  ·have hh:zJ q b=true:=by unfold zJ;rw[if_pos (by simpa using h)]
   rw[hh]at hI
   simp only[Ea,sS,sT,sZ]
   refine⟨rfl,hle,?_⟩
   refine bC (bK hi bW) ?_
   rw[eT]
   exact hI
  ·have hn:¬b.up<0:=by simpa using h
   have aI:b.up<q.length:=(Gf b (List.mem_of_getElem? hb)).resolve_left hn
   obtain⟨k,hk⟩:=Int.eq_ofNat_of_zero_le (by omega:0≤b.up)
   have TM:k<q.length:=by omega
   obtain⟨p,hp⟩:=get_some TM
   have ae4:cH (.d (.int .i64 b.up)) l.length=some k:=by rw[hk,←hlen];exact j7 TM
   have hh:zJ q b=(p.here&&(p.mark==b.wH)):=by
    unfold zJ
    rw[if_neg hn,hk,Int.toNat_natCast,hp]
   rw[hh]at hI
   simp only[ae4,BC hp (by omega:6<7),BC hp (by omega:5<7),BC hb (by omega:1<7),BC hb (by omega:2<7),Ri,ado,adp,adq,adr,Ea,sS,sT,sZ]
   refine And.intro (fun h=>?_) (fun h=>?_)
   ·rw[h,Bool.true_and]at hI
    refine⟨rfl,hle,?_⟩
    refine bC (bK hi bW) ?_
    rw[eT]
    exact hI
   ·rw[h,Bool.false_and]at hI
    refine⟨rfl,hle,?_⟩
    refine bC (bK hi bW) ?_
    rw[eT]
    exact hI
 ·simp only[mr,sS,sT,sZ]
  refine And.intro (fun h=>absurd h (by simp)) (fun _=>?_)
  have hlen:=zr l l.length
  have hg:=sO (mS l l.length)
  rw[hlen]at hg
  simp only[sX,hg,sS,sT,sZ]
  have LN:iX l≠[]:=fun he=>by
   rw[show mS l l.length=iX l from rfl,he]at hlen
   simp at hlen;exact bf (List.length_eq_zero_iff.1 hlen.symm)
  rw[qW LN]
  rfl
end Go.Proofs.Ytimbllcalipehaa.Ab
namespace Go.Proofs.Ytimbllcalipehaa.Ab
open Go
set_option linter.unusedVariables false
set_option maxRecDepth 4000
theorem UQ(L:List D)(hl:L.length≤2^40):aB Try.prog gl 93 [.d (bB 6 L)] (bS 6 L):=by
 refine bZ bl (bG (fn:=Try.f93) (by kernel_rfl) (by kernel_rfl) (by kernel_rfl)) (h:=Tl) ?_;rw[aa3];intro ba
 cases L with
 |nil=>
  simp only[sS,sT,sZ,bB,nil_eq,bS]
  refine And.intro (fun _=>?_) (fun h=>absurd h (by simp))
  trivial
 |cons a L=>
  simp only[sS,sT,sZ,bB,nil_eq,bS]
  refine And.intro (fun h=>absurd h (by simp)) (fun _=>?_)
  refine⟨rfl,Bl (sz:=6) (cL:=72) (L:=[]) (M:=a::L) (by simp[elems]) (by simp only[List.length_nil,Nat.zero_add];omega) ?_⟩
  simp[gH,SV.ar]
structure Kd(l:List aA)(x:SV):Prop where
 jD:aa x=x
 len:bd x=some (.d (.int .i64 (l.length:Int)))
 at_:∀{i:Nat}{b:aA},l[i]? =some b→∃p,bc 7 x (.d (.int .i64 (i:Int)))=some p∧aa p=p∧aM true 7 p=some (.d b.enc)
theorem P1:∀(l:List aA)(j:Nat),(bA (cR l)).drop (j*7)=bA (cR (l.drop j))
 |[],j=>by simp[cR,bA]
 |s::l,0=>rfl
 |s::l,j+1=>by
  rw[sV,List.drop_append]
  have h1:s.cells.length=7:=rfl
  rw[h1,show(j+1)*7-7=j*7 by omega,List.drop_of_length_le (by rw[h1];omega),P1 l j]
  rfl
theorem Pm{l:List aA}{j:Nat}{y:aA}(h:l[j]? =some y):ag true 7 (j*7) (bA (cR l))=some (.d y.enc):=by
 have hj:=(List.getElem?_eq_some_iff.1 h).1
 unfold ag
 rw[cond_true,if_pos (by rw[zI];omega),P1,Bn h,sV]
 rfl
theorem QK:∀(l:List aA),(bA (cR l)).map aa=bA (cR l)
 |[]=>rfl
 |s::l=>by rw[sV,List.map_append,QK l];rfl
def Jt(l:List aA):SV:=.cM l.length 7 (bA (cR l))
theorem Xq(l:List aA):Kd l (Jt l):=by
 refine⟨rfl,rfl,fun{i b}hb=>⟨.ref (bA (cR l)) (i*7),?_,rfl,?_⟩⟩
 ·have h1:cH (.d (.int .i64 (i:Int))) l.length=some i:=j7 (List.getElem?_eq_some_iff.1 hb).1
  simp only[bc,Jt,h1,if_true]
 ·simp only[aM,Pm hb,aa]
theorem YB(s:Nat):Kd [] (.d (.sl .nil s [])):=⟨rfl,rfl,fun{i b}hb=>by simp at hb⟩
def su(b:aA):List au:=if b.here then(if b.mark then b.th else b.el)else []
def iY(l:List aA)(os:List au):List au:=os++l.flatMap su
theorem Vs{l:List aA}{i:Nat}{b:aA}(h:l[i]? =some b)(os:List au):iY (l.take (i+1)) os=iY (l.take i) os++su b:=by
 rw[eH h,iY,iY,List.flatMap_append];simp
theorem Ox{l:List aA}{os:List au}{c:Nat}(hb:∀b∈l,b.th.length≤c∧b.el.length≤c):(iY l os).length ≤os.length+l.length*c:=by
 have:(l.flatMap su).length ≤l.length*c:=Eb fun b dq=>by
  unfold su
  have:=hb b dq
  split
  ·split<;>omega
  ·simp
 rw[iY,List.length_append];omega
theorem Nm{l:List aA}{x:SV}(hx:Kd l x)(RZ:ki [x]=none){os:List au}{c:Nat}(hb:∀b∈l,b.th.length≤c∧b.el.length≤c)(hc:os.length+l.length*c≤2^30)(hl:l.length≤2^20):aB Try.prog gl 76 [x,.d (bB 6 (bg os))] (bS 6 (bg (iY l os))):=by
 have bW:l.length≤maxLen:=Nat.le_trans hl (by decide)
 have ads:ki [x,.d (bB 6 (bg os))]=none:=by
  unfold ki at RZ ⊢
  cases x with
  |aK vs=>cases vs with
   |nil=>rfl
   |cons v vs=>cases v<;>first|rfl|cases RZ
  |_=>rfl
 refine bZ bl (bG (fn:=Try.f76) (by kernel_rfl) (by kernel_rfl) (by kernel_rfl)) (h:=Te) ?_ ads
 rw[abz]
 intro ba
 simp only[sS,sT,sZ]
 refine aZ (UQ (bg os) (by rw[gr];omega)) (j6 _ _) ?_
 simp only[hx.jD,hx.len,sS,sT,sZ]
 rw[show bS 6 (bg os)=bS 6 (bg (iY (l.take 0) os)) by simp[iY]]
 refine gS (fun i=>[bS 6 (bg (iY (l.take i) os)),x,.d (.int .i64 (l.length:Int)),.d (.int .i64 ((i:Nat):Int))]) (fun i=>[]) l.length (fun i hi I hI=>?_) (fun I=>?_)
 ·simp only[hx.jD,sS,sT,sZ]
  refine And.intro (fun _=>?_) (fun h=>absurd h (by simp;omega))
  obtain⟨b,x9⟩:=get_some hi
  obtain⟨p,hp1,hp2,hp3⟩:=hx.at_ x9
  have FE:=hb b (List.mem_of_getElem? x9)
  have hle:=Ox (l:=l.take i) (os:=os) (c:=c) (fun b' h'=>hb b' (List.mem_of_mem_take h'))
  have aI:(l.take i).length =i:=by rw[List.length_take];omega
  rw[aI]at hle
  have CJ:(i+1)*c≤l.length*c:=Nat.mul_le_mul_right _ hi
  rw[Nat.succ_mul]at CJ
  rw[Vs x9,←P0]at hI
  unfold su at hI
  simp only[hp1,hp2,hp3,D4,BZ,Fe,Rh,adj,EO,Jr,sS,sT,sZ]
  refine And.intro (fun h=>?_) (fun h=>?_)
  ·rw[h,if_pos rfl]at hI
   refine And.intro (fun h2=>?_) (fun h2=>?_)
   ·rw[h2,if_pos rfl]at hI
    refine iV (DK _ _) (by simp only[gr];omega) ?_
    refine bC (bK hi bW) ?_
    exact hI
   ·rw[h2,if_neg (by decide)]at hI
    try simp only[h,sS,sT,sZ]
    refine And.intro (fun _=>?_) (fun h3=>absurd h3 (by simp[h]))
    refine iV (DK _ _) (by simp only[gr];omega) ?_
    refine bC (bK hi bW) ?_
    exact hI
  ·rw[h,if_neg (by decide)]at hI
   try simp only[h,sS,sT,sZ]
   refine And.intro (fun h3=>absurd h3 (by simp[h])) (fun _=>?_)
   refine bC (bK hi bW) ?_
   simp only[bg,List.map_nil,List.append_nil]at hI
   exact hI
 ·simp only[sS,sT,sZ]
  refine And.intro (fun h=>absurd h (by simp)) (fun _=>?_)
  rw[List.take_length]
  exact⟨nf _ _,rfl⟩
end Go.Proofs.Ytimbllcalipehaa.Ab
