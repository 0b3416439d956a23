/-
  CONFLICTS: laws on values.
-/
import Derived.Test.YtimbllcalipehaaTf
import Derived.Test.YtimbllcalipehaaTe
import Derived.Test.YtimbllcalipehaaTd
set_option linter.unusedVariables false
set_option linter.unusedSimpArgs false
namespace Go.Proofs.Ytimbllcalipehaa.Ab
open Go
theorem sT:(∀p:Prop,(True∧p)=p)∧(∀{α β:Type}(f:α→β)(a:α)(l:List α),List.map f (a::l)=f a::List.map f l)∧(∀{α β:Type}(f:α→β),List.map f []=[])∧(∀(vs:List SV)(i:Nat),ae vs i=vs.getD i .undef)∧(∀(bs:List (List SV))(i:Nat),an bs i=bs.getD i [])∧
  (∀{α:Type}(a:α)(l:List α)(d:α),List.getD (a::l) 0 d=a)∧(∀{α:Type}(a:α)(l:List α)(d:α)(n:Nat),List.getD (a::l) (n+1) d=List.getD l n d)∧(∀cs:List SV,af.ax (.cells cs)=cs)∧(∀l:List (MK×D),af.ax (.map l)=[.mp l])∧(∀n:Int,dI n=.int .i64 n)∧(∀n:Nat,(n≤n)=True):=by
 refine⟨fun p=>true_and p,fun f a l=>rfl,fun f=>rfl,fun vs i=>rfl,fun bs i=>rfl,fun a l d=>rfl,fun a l d n=>rfl,fun cs=>rfl,fun l=>rfl,fun n=>rfl,fun n=>by simp⟩
theorem aiq(a0 a1 a2 a3 a4 a5 a6 a7 a8 a9:SV)(op a rel b:Int)(nm:D)(w:Nat→BitVec 64)(kd:D):setAt [a0,a1,a2,a3,a4,a5,a6,a7,a8,a9] 0 (lA op a rel b nm w kd)=lA op a rel b nm w kd:=rfl
theorem mX.load{k:Xp}{y:D}(h:mX k y):aI true 10 (.aX y 0)=some (.d y):=by
 obtain⟨nm,kd,L,rfl,_⟩:=h.inv
 exact JL _ 10 rfl
theorem mX.cells{k:Xp}{y:D}(h:mX k y):∃cs,aB (.d y)=some cs∧cs.length=10∧aj true 10 0 cs=some (.d y)∧∀a0 a1 a2 a3 a4 a5 a6 a7 a8 a9:SV,setAt [a0,a1,a2,a3,a4,a5,a6,a7,a8,a9] 0 cs=cs:=by
 obtain⟨nm,kd,L,rfl,_⟩:=h.inv
 exact⟨_,Wh _ _ _ _ _ _ _,rfl,rfl,fun a0 a1 a2 a3 a4 a5 a6 a7 a8 a9=>aiq a0 a1 a2 a3 a4 a5 a6 a7 a8 a9 _ _ _ _ _ _ _⟩
end Go.Proofs.Ytimbllcalipehaa.Ab
namespace Go.Proofs.Ytimbllcalipehaa.Ab
open Go
end Go.Proofs.Ytimbllcalipehaa.Ab
namespace Go.Proofs.Ytimbllcalipehaa.Ab
open Go
end Go.Proofs.Ytimbllcalipehaa.Ab
namespace Go.Proofs.Ytimbllcalipehaa.Ab
open Go
end Go.Proofs.Ytimbllcalipehaa.Ab
namespace Go.Proofs.Ytimbllcalipehaa.Ab
open Go
end Go.Proofs.Ytimbllcalipehaa.Ab
namespace Go.Proofs.Ytimbllcalipehaa.Ab
open Go
end Go.Proofs.Ytimbllcalipehaa.Ab
namespace Go.Proofs.Ytimbllcalipehaa.Ab
open Go
end Go.Proofs.Ytimbllcalipehaa.Ab
namespace Go.Proofs.Ytimbllcalipehaa.Ab
open Go
end Go.Proofs.Ytimbllcalipehaa.Ab
namespace Go.Proofs.Ytimbllcalipehaa.Ab
open Go
end Go.Proofs.Ytimbllcalipehaa.Ab
namespace Go.Proofs.Ytimbllcalipehaa.Ab
open Go
end Go.Proofs.Ytimbllcalipehaa.Ab
namespace Go.Proofs.Ytimbllcalipehaa.Ab
open Go
theorem age(cs:List SV)(o:Nat):aa (.ref cs o)=.ref cs o:=rfl
end Go.Proofs.Ytimbllcalipehaa.Ab
namespace Go.Proofs.Ytimbllcalipehaa.Ab
open Go
def bl(n:Nat)(F:Nat→Bool):List D:=(List.range n).map fun i=>.bool (F i)
theorem Xc(b:Bool):aS [(0,.v (.d (.bool b)))]=some [(0,.bool b)]:=rfl
theorem tL(b:Bool):bu 1 1 [(0,.bool b)]=true:=rfl
theorem BE(l:List (MK×D)):mapOf [.mp l]=l:=rfl
theorem J5(b:Bool):aB (.d (.bool b))=some [.d (.bool b)]:=rfl
end Go.Proofs.Ytimbllcalipehaa.Ab
namespace Go.Proofs.Ytimbllcalipehaa.Ab
open Go
end Go.Proofs.Ytimbllcalipehaa.Ab
namespace Go.Proofs.Ytimbllcalipehaa.Ab
open Go
theorem air(l:List (MK×D)):aa (.mp l)=.mp l:=rfl
end Go.Proofs.Ytimbllcalipehaa.Ab
namespace Go.Proofs.Ytimbllcalipehaa.Ab
open Go
theorem Jt(L:List D)(sz:Nat):elems sz (.d (bB sz L))=some L:=by
 cases L with
 |nil=>simp[bB,elems]
 |cons a L=>simp[bB,elems]
end Go.Proofs.Ytimbllcalipehaa.Ab
namespace Go.Proofs.Ytimbllcalipehaa.Ab
open Go
theorem FQ(x:D)(n:Nat):aa (.aX x n)=.aX x n:=rfl
end Go.Proofs.Ytimbllcalipehaa.Ab
namespace Go.Proofs.Ytimbllcalipehaa.Ab
open Go
def lb(out:List (List UInt8))(s:List UInt8):List (List UInt8):=if fR s out then out else out++[s]
def dedup(l:List (List UInt8)):List (List UInt8):=l.foldl lb []
theorem acg{l:List (List UInt8)}{i:Nat}{s:List UInt8}(h:l[i]? =some s):dedup (l.take (i+1))=lb (dedup (l.take i)) s:=by
 rw[dX h,dedup,List.foldl_append];rfl
theorem VB(out:List (List UInt8))(s:List UInt8):(lb out s).length ≤out.length+1:=by
 unfold lb;split
 ·omega
 ·simp
theorem NY:∀(l out:List (List UInt8)),(l.foldl lb out).length ≤out.length+l.length
 |[],out=>by simp
 |s::l,out=>by
  have h1:=NY l (lb out s)
  have h2:=VB out s
  simp only[List.foldl_cons,List.length_cons]
  omega
theorem aeF(l:List (List UInt8))(i:Nat):(dedup (l.take i)).length ≤i:=by
 have:=NY (l.take i) []
 simp only[List.length_nil,Nat.zero_add,List.length_take]at this
 unfold dedup
 omega
def DQ(k:Int):Int:=if k==3 then 2 else if k==0 then 2 else k
theorem I0(k:Int):aG Try.prog gl 84 [.d (.int .i64 k)] (.d (.int .i64 (DQ k))):=by
 refine cM bG (cb (fn:=Try.f84) (by kernel_rfl) (by kernel_rfl) (by kernel_rfl)) (h:=h84) ?_;rw[ahU];intro bJ
 simp only[sS,sT,sZ,DQ]
 refine And.intro (fun h=>?_) (fun h=>?_)
 ·simp[h]
 ·refine And.intro (fun h2=>?_) (fun h2=>?_)
  ·simp[h,h2]
  ·simp[h,h2]
def QM:List UInt8:=[111,98,106,101,99,116,95,114]
def vf(k:Int)(s:List UInt8):Bool:=k==4&&s==QM
theorem M6(k:Int)(s:List UInt8):aG Try.prog gl 69 [.d (.int .i64 k),.d (.str s)] (.d (.bool (vf k s))):=by
 refine cM bG (cb (fn:=Try.f69) (by kernel_rfl) (by kernel_rfl) (by kernel_rfl)) (h:=h69) ?_;rw[ahH];intro bJ
 simp only[sS,sT,sZ,vf,Aj]
 refine And.intro (fun h=>?_) (fun h=>?_)
 ·simp[h,QM]
 ·simp[h]
theorem Bz{α:Type}{p:α→Bool}{l:List α}{k:Nat}(h:first p l=some k):∃x,l[k]? =some x∧p x=true:=by
 obtain⟨x,h1,h2,_⟩:=ND h
 exact⟨x,h1,h2⟩
theorem BF{α:Type}{p:α→Bool}:∀{l:List α},first p l=none→∀(j:Nat)y,l[j]? =some y→p y=false
 |[],_,j,y,h=>by simp at h
 |x::l,h,j,y,hy=>by
  unfold first at h
  split at h
  ·cases h
  ·rename_i hx
   cases j with
   |zero=>simp at hy;subst hy;simpa using hx
   |succ j=>
    refine BF (l:=l) ?_ j y (by simpa using hy)
    cases hf:first p l with
    |none=>rfl
    |some k=>rw[hf]at h;cases h
set_option maxRecDepth 4000 in
theorem abl(l:List (List UInt8)){x:D}(hx:aW 1 (cP l) x)(hl:l.length≤maxLen)(s:List UInt8):aG Try.prog gl 96 [.d x,.d (.str s)] (.d (.int .i64 (orM (first (fun t=>s==t) l)))):=by
 refine cM bG (cb (fn:=Try.f96) (by kernel_rfl) (by kernel_rfl) (by kernel_rfl)) (h:=h96) ?_;rw[ahP];intro bJ
 simp only[sS,sT,sZ,hx.len,jP]
 refine np (fun i=>∀(j:Nat)k,j<i→l[j]? =some k→(s==k)=false) (fun i=>[.d x,.d (.str s),.d (.int .i64 (l.length:Int)),.d (.int .i64 ((i:Nat):Int))]) (fun i=>[]) l.length (fun j k hj _=>by omega) (fun i hi hJ I hI=>?_) (fun hJ I=>?_)
 ·simp only[sS,sT,sZ]
  refine And.intro (fun _=>?_) (fun h=>absurd h (by simp;omega))
  obtain⟨t,ht⟩:=get_some hi
  have ud:(cP l)[i]? =some (.str t):=by rw[cP,List.getElem?_map,ht];rfl
  simp only[hx.at ud,sS,sT,sZ,sW,Nat.zero_add,Aj,Ad]
  refine And.intro (fun h=>?_) (fun h=>?_)
  ·rw[wC ht (by simpa using h) hJ];rfl
  ·refine aU (br hi hl) ?_
   refine hI fun j k' hj bU=>?_
   rcases Nat.lt_or_ge j i with h2|h2
   ·exact hJ j k' h2 bU
   ·have:j=i:=by omega
    subst this
    rw[ht]at bU
    cases bU
    simpa using h
 ·simp only[sS,sT,sZ]
  refine And.intro (fun h=>absurd h (by simp)) (fun _=>?_)
  rw[wj fun j k bU=>hJ j k (List.getElem?_eq_some_iff.1 bU).1 bU]
  rfl
theorem adn(s:List UInt8)(l:List (List UInt8)):(first (fun t=>s==t) l).isSome =fR s l:=by
 cases hf:first (fun t=>s==t) l with
 |some i=>
  obtain⟨t,h1,h2⟩:=Bz hf
  have e:s=t:=by simpa using h2
  rw[Wi h1 (by rw[e];simp)];rfl
 |none=>
  rw[VA fun i t ht=>?_];rfl
  cases hs:(t==s)with
  |false=>rfl
  |true=>
   exfalso
   have h3:=BF hf i t ht
   have e:t=s:=by simpa using hs
   rw[e]at h3
   simp at h3
theorem Tw(l:List (List UInt8)){x:D}(hx:aW 1 (cP l) x)(hl:l.length≤maxLen)(s:List UInt8):aG Try.prog gl 85 [.d x,.d (.str s)] (.d (.bool (fR s l))):=by
 refine cM bG (cb (fn:=Try.f85) (by kernel_rfl) (by kernel_rfl) (by kernel_rfl)) (h:=h85) ?_;rw[ahL];intro bJ
 simp only[sS,sT,sZ]
 refine dZ (abl l hx hl s) ?_
 simp only[sS,sT,sZ,Al,adn]
theorem Ju(l:List (List UInt8))(s:List UInt8):cP l++[.str s]=cP (l++[s]):=by simp[cP]
theorem M3(l:List (List UInt8)){x:D}(hx:aW 1 (cP l) x)(hl:l.length≤2^40):aG Try.prog gl 70 [.d x] (aQ 1 (cP (dedup l))):=by
 refine cM bG (cb (fn:=Try.f70) (by kernel_rfl) (by kernel_rfl) (by kernel_rfl)) (h:=h70) ?_;rw[ahR];intro bJ
 have Il:l.length≤maxLen:=Nat.le_trans hl (by decide)
 simp only[sS,sT,sZ,hx.len,jP]
 refine fV (fun i=>[aQ 1 (cP (dedup (l.take i))),.d x,.d (.int .i64 (l.length:Int)),.d (.int .i64 ((i:Nat):Int))]) (fun i=>[]) l.length (fun i hi I hI=>?_) (fun I=>?_)
 ·simp only[sS,sT,sZ]
  refine And.intro (fun _=>?_) (fun h=>absurd h (by simp;omega))
  obtain⟨t,ht⟩:=get_some hi
  have xI:=aeF l i
  have hd:=acg ht
  simp only[hx.at (Ak ht),sS,sT,sZ,Ad,ez]
  refine dZ (Tw (dedup (l.take i)) (cK 1 _) (by omega) t) ?_
  simp only[sS,sT,sZ,iC]
  refine And.intro (fun h=>?_) (fun h=>?_)
  ·simp only[sS,sT,sZ,JM,Ks,JN]
   refine gN (qB 1 _) (by rw[jP];simp only[List.length_singleton];omega) ?_
   refine aU (br hi Il) ?_
   rw[Ju]
   rw[hd,lb,if_neg (by simpa using h)]at hI
   exact hI
  ·refine aU (br hi Il) ?_
   rw[hd,lb,if_pos (by simpa using h)]at hI
   exact hI
 ·simp only[sS,sT,sZ]
  refine And.intro (fun h=>absurd h (by simp)) (fun _=>?_)
  simp only[kS,true_and]
  rw[List.take_of_length_le (Nat.le_refl _)]
theorem nil_eq(k:SK)(sz:Nat)(L:List D):ai (some (false,[])) .eql (.d (.sl k sz L)) (.d (.sl .nil 0 []))=some (.d (.bool (decide (k=SK.nil)))):=rfl
theorem abm(L:List D)(hl:L.length≤2^40):aG Try.prog gl 71 [.d (bB 1 L)] (aQ 1 L):=by
 refine cM bG (cb (fn:=Try.f71) (by kernel_rfl) (by kernel_rfl) (by kernel_rfl)) (h:=Mi) ?_;rw[Px];intro bJ
 cases L with
 |nil=>
  simp only[sS,sT,sZ,bB,nil_eq,aQ]
  refine And.intro (fun _=>?_) (fun h=>absurd h (by simp))
  trivial
 |cons a L=>
  simp only[sS,sT,sZ,bB,nil_eq,aQ]
  refine And.intro (fun h=>absurd h (by simp)) (fun _=>?_)
  refine⟨rfl,Ot (sz:=1) (cX:=16) (L:=[]) (M:=a::L) (by simp[elems]) (by simp only[List.length_nil,Nat.zero_add];omega) ?_⟩
  simp[kq,SV.aD]
structure aq where
 kind:Int
 name:List UInt8
 cJ:Bool
 perms:List (List UInt8)
 line:Int
 gn:Int
 deriving DecidableEq
def aq.enc(s:aq):D:=.agg [.int .i64 s.kind,.str s.name,.bool s.cJ,bB 1 (cP s.perms),.int .i64 s.line,.int .i64 s.gn]
def aq.cells(s:aq):List SV:=[.d (.int .i64 s.kind),.d (.str s.name),.d (.bool s.cJ),.d (bB 1 (cP s.perms)),.d (.int .i64 s.line),.d (.int .i64 s.gn)]
theorem agf(sz:Nat)(L:List D):(bB sz L).cells =[bB sz L]:=by cases L<;>rfl
theorem ga(s:aq):aB (.d s.enc)=some s.cells:=rfl
theorem fN(s:aq):s.cells.length=6:=rfl
theorem fD(s:aq):aj true 6 0 s.cells=some (.d s.enc):=rfl
theorem gO(s:aq):aj false 1 0 s.cells=some (.d (.int .i64 s.kind)):=rfl
theorem gE(s:aq):aj false 1 1 s.cells=some (.d (.str s.name)):=rfl
theorem g7(s:aq):aj false 1 2 s.cells=some (.d (.bool s.cJ)):=rfl
theorem kV(s:aq):aj false 1 3 s.cells=some (.d (bB 1 (cP s.perms))):=rfl
theorem aeG(s:aq):aj true 2 4 s.cells=some (.d (.agg [.int .i64 s.line,.int .i64 s.gn])):=rfl
theorem qI(s:aq):aI true 6 (.aX s.enc 0)=some (.d s.enc):=rfl
theorem g8(a b c d e f:SV)(s:aq):setAt [a,b,c,d,e,f] 0 s.cells=s.cells:=rfl
def aK(l:List aq):List D:=l.map aq.enc
theorem eA(l:List aq):(aK l).length =l.length:=List.length_map ..
theorem mf{l:List aq}{i:Nat}{s:aq}(h:l[i]? =some s):(aK l)[i]? =some s.enc:=by simp[aK,h]
structure gp where
 kind:Int
 op:Int
 line:Int
 gn:Int
 name:List UInt8
 list:List (List UInt8)
 j2:List (List UInt8)
def mF(s:gp)(r5 r6 cD al:D)(rest:List D):List D:=.int .i64 s.kind::.int .i64 s.op::.int .i64 s.line::.int .i64 s.gn::.str s.name::r5::r6::cD::al::rest
def iM(s:gp)(r5 r6 cD al:D)(rest:List D):List SV:=.d (.int .i64 s.kind)::.d (.int .i64 s.op)::.d (.int .i64 s.line)::.d (.int .i64 s.gn)::.d (.str s.name)::.d r5::.d r6::.d cD::.d al::rest.map .d
inductive vk(s:gp):D→Prop
 |mk (r5 r6 cD al:D) (rest:List D) (h:rest.length=46) (hl:aW 1 (cP s.list) cD) (ha:aW 1 (cP s.j2) al):vk s (.agg (mF s r5 r6 cD al rest))
section
variable(s:gp)(r5 r6 cD al:D)(rest:List D)
theorem kc:aB (.d (.agg (mF s r5 r6 cD al rest)))=some (iM s r5 r6 cD al rest):=rfl
theorem iU:(iM s r5 r6 cD al rest).length =rest.length+9:=by simp[iM]
theorem kW:aj false 1 0 (iM s r5 r6 cD al rest)=some (.d (.int .i64 s.kind)):=rfl
theorem l6:aj false 1 1 (iM s r5 r6 cD al rest)=some (.d (.int .i64 s.op)):=rfl
theorem l9:aj false 1 4 (iM s r5 r6 cD al rest)=some (.d (.str s.name)):=rfl
theorem ma:aj false 1 7 (iM s r5 r6 cD al rest)=some (.d cD):=rfl
theorem mc:aj false 1 8 (iM s r5 r6 cD al rest)=some (.d al):=rfl
theorem me:aj true 2 2 (iM s r5 r6 cD al rest)=some (.d (.agg [.int .i64 s.line,.int .i64 s.gn])):=by
 unfold aj
 simp only[cond_true]
 rw[if_pos (by rw[iU];omega)]
 rfl
theorem Ku:∀(l:List D),dK (l.map SV.d)=some l
 |[]=>rfl
 |x::l=>by simp[dK,dA,Ku l]
theorem nW(h:rest.length=46):aj true 55 0 (iM s r5 r6 cD al rest)=some (.d (.agg (mF s r5 r6 cD al rest))):=by
 unfold aj
 simp only[cond_true]
 rw[if_pos (by rw[iU];omega)]
 have h1:iM s r5 r6 cD al rest=(mF s r5 r6 cD al rest).map SV.d:=rfl
 rw[List.drop_zero,List.take_of_length_le (by rw[iU];omega),h1,Ku]
end
theorem vk.load{s:gp}{x:D}(h:vk s x):aI true 55 (.aX x 0)=some (.d x):=by
 cases h with
 |mk r5 r6 cD al rest h hl ha=>exact JL _ 55 (by simp[mF,h])
def jg(k:Int):Int:=if k==1 then 1 else if k==2 then 2 else if k==3 then 3 else if k==5 then 4 else if k==8 then 5 else if k==9 then 6 else if k==10 then 7 else if k==11 then 8 else 0
theorem aan{s:gp}{x:D}(hs:vk s x):aG Try.prog gl 95 [.d x] (.d (.int .i64 (jg s.kind))):=by
 cases hs with
 |mk r5 r6 cD al rest h hl ha=>
  refine cM bG (cb (fn:=Try.f95) (by kernel_rfl) (by kernel_rfl) (by kernel_rfl)) (h:=h95) ?_;rw[ahV];intro bJ
  simp only[sS,sT,sZ,kc,iU,h,kW]
  unfold jg
  refine And.intro (fun h=>by rw[if_pos h]) (fun h=>?_)
  rw[if_neg (by rw[h];simp)]
  refine And.intro (fun h=>by rw[if_pos h]) (fun h=>?_)
  rw[if_neg (by rw[h];simp)]
  refine And.intro (fun h=>by rw[if_pos h]) (fun h=>?_)
  rw[if_neg (by rw[h];simp)]
  refine And.intro (fun h=>by rw[if_pos h]) (fun h=>?_)
  rw[if_neg (by rw[h];simp)]
  refine And.intro (fun h=>by rw[if_pos h]) (fun h=>?_)
  rw[if_neg (by rw[h];simp)]
  refine And.intro (fun h=>by rw[if_pos h]) (fun h=>?_)
  rw[if_neg (by rw[h];simp)]
  refine And.intro (fun h=>by rw[if_pos h]) (fun h=>?_)
  rw[if_neg (by rw[h];simp)]
  refine And.intro (fun h=>by rw[if_pos h]) (fun h=>?_)
  rw[if_neg (by rw[h];simp)]
end Go.Proofs.Ytimbllcalipehaa.Ab
namespace Go.Proofs.Ytimbllcalipehaa.Ab
open Go
theorem dG(x:D):aS [(0,.v (.d x))]=some [(0,x)]:=rfl
theorem kX(x y z:D)(i j k:Nat):aS [(i,.v (.d x)),(j,.v (.d y)),(k,.v (.d z))]=some [(i,x),(j,y),(k,z)]:=rfl
theorem BG(x y z u:D)(i j k l:Nat):aS [(i,.v (.d x)),(j,.v (.d y)),(k,.v (.d z)),(l,.v (.d u))]=some [(i,x),(j,y),(k,z),(l,u)]:=rfl
theorem Dz(x y z u v:D)(i j k l m:Nat):aS [(i,.v (.d x)),(j,.v (.d y)),(k,.v (.d z)),(l,.v (.d u)),(m,.v (.d v))]=some [(i,x),(j,y),(k,z),(l,u),(m,v)]:=rfl
theorem jQ(z x:D):bz z [(0,x)] 1 0=[x]:=rfl
theorem k8(s:aq):bu 6 1 [(0,s.enc)]=true:=rfl
theorem l5(k:Int)(n:List UInt8)(l c:Int):dz Try.prog 87 [(0,.int .i64 k),(1,.str n),(4,.agg [.int .i64 l,.int .i64 c])]=some (aq.enc ⟨k,n,false,[],l,c⟩):=by kernel_rfl
theorem Dp(k:Int)(n:List UInt8)(l c:Int):dz Try.prog 87 [(0,.int .i64 k),(1,.str n),(2,.bool true),(4,.agg [.int .i64 l,.int .i64 c])]=some (aq.enc ⟨k,n,true,[],l,c⟩):=by kernel_rfl
theorem wo(sz:Nat)(L:List D):aB (.d (bB sz L))=some [.d (bB sz L)]:=by cases L<;>rfl
theorem jz(x:SV):[x].length =1:=rfl
theorem aeH(k:Int)(n:List UInt8)(p:D)(hp:p.cells=[p])(l c:Int):uZ (fun i=>[(0,1),(1,1),(2,1),(3,1),(4,2)][i]?) [.int .i64 0,.str [],.bool false,.sl .nil 0 [],.int .i64 0,.int .i64 0] [(0,.int .i64 k),(1,.str n),(2,.bool true),(3,p),(4,.agg [.int .i64 l,.int .i64 c])]
  =some [.int .i64 k,.str n,.bool true,p,.int .i64 l,.int .i64 c]:=by
 have h1:∀(k:IntKind)(n:Int),(D.int k n).cells =[.int k n]:=fun _ _=>rfl
 have h2:∀(s:List UInt8),(D.str s).cells =[.str s]:=fun _=>rfl
 have h3:∀(b:Bool),(D.bool b).cells =[.bool b]:=fun _=>rfl
 have h4:∀(l:List D),(D.agg l).cells =l:=fun _=>rfl
 simp[uZ,h1,h2,h3,h4,hp]
theorem ado(ps:List (Nat×D)):dz Try.prog 87 ps=(match uZ (fun i=>[(0,1),(1,1),(2,1),(3,1),(4,2)][i]?) [.int .i64 0,.str [],.bool false,.sl .nil 0 [],.int .i64 0,.int .i64 0] ps with|some cs=>some (.agg cs)|none=>none):=by kernel_rfl
theorem Dq(k:Int)(n:List UInt8)(p:List (List UInt8))(l c:Int):dz Try.prog 87 [(0,.int .i64 k),(1,.str n),(2,.bool true),(3,bB 1 (cP p)),(4,.agg [.int .i64 l,.int .i64 c])]=some (aq.enc ⟨k,n,true,p,l,c⟩):=by
 rw[ado,aeH _ _ _ (agf _ _)];rfl
theorem set_perm(k:Int)(n:List UInt8)(b:Bool)(l c:Int)(p:List (List UInt8)):setAt (aq.cells ⟨k,n,b,[],l,c⟩) 3 [.d (bB 1 (cP p))]=aq.cells ⟨k,n,b,p,l,c⟩:=rfl
def cd(s:gp):List aq:=
 if jg s.kind != 0 then
  ⟨jg s.kind,s.name,false,if jg s.kind==1 then dedup s.list else [],s.line,s.gn⟩::(if jg s.kind==2 then s.j2.map fun a=>⟨jg s.kind,a,false,[],s.line,s.gn⟩else [])
 else if s.kind==19&&s.op==1 then [⟨s.op,s.name,true,dedup s.list,s.line,s.gn⟩]
 else if s.kind==19&&decide (s.op>1)&&decide (s.op≤8)then s.list.map fun a=>⟨s.op,a,true,[],s.line,s.gn⟩
 else []
theorem BH(l:List aq)(s:aq):aK l++[s.enc]=aK (l++[s]):=by simp[aK]
theorem ach(sz:Nat)(L M:List D):(kq sz L M).aD =true:=by unfold kq;split<;>rfl
theorem aci(sz:Nat)(L M:List D):wW (kq sz L M)=false:=by unfold kq;split<;>rfl
theorem TG{α β:Type}(f:α→β){l:List α}{i:Nat}{x:α}(h:l[i]? =some x):(l.take (i+1)).map f=(l.take i).map f++[f x]:=by rw[dX h];simp
set_option maxRecDepth 4000 in
theorem aav{s:gp}{x:D}(hs:vk s x)(hl:s.list.length≤2^30)(ha:s.j2.length≤2^30):∃r,(iP 6 (aK (cd s)) (aa r)∧wW r=false)∧aG Try.prog gl 83 [.d x] r:=by
 refine ab7 bG (cb (fn:=Try.f83) (by kernel_rfl) (by kernel_rfl) (by kernel_rfl)) ⟨aQ 6 (aK (cd s)),by rw[ez];exact(cK 6 _).sv,ka _ _⟩ (h:=h83) ?_
 rw[ahT];intro bJ
 have lN:=hs
 cases hs with
 |mk r5 r6 cD al rest h jn nN=>
  simp only[sS,sT,sZ,kc,iU,kW,l6,me,l9,ma,mc,dG,kX,BG,Dz,jQ,k8,l5,Dp,Dq,wo,jz,set_perm,ga,fN,fD,g8,h,nW _ _ _ _ _ _ h]
  refine dZ (aan lN) ?_
  simp only[sS,sT,sZ,kc,iU,kW,l6,me,l9,ma,mc,dG,kX,BG,Dz,jQ,k8,l5,Dp,Dq,wo,jz,set_perm,ga,fN,fD,g8]
  unfold cd
  refine And.intro (fun hk=>?_) (fun hk=>?_)
  ·rw[if_pos (by simpa using hk)]
   refine And.intro (fun h1=>?_) (fun h1=>?_)
   ·have vv:jg s.kind=1:=by simpa using h1
    refine cV (M3 s.list jn (by omega)) (ka _ _) ?_
    simp only[sS,sT,sZ,kc,iU,kW,l6,me,l9,ma,mc,dG,kX,BG,Dz,jQ,k8,l5,Dp,Dq,wo,jz,set_perm,ga,fN,fD,g8,ez,vv]
    refine⟨by decide,?_⟩
    refine And.intro (fun h2=>absurd h2 (by decide)) (fun _=>?_)
    exact⟨rfl,.full,rfl⟩
   ·have vv:(jg s.kind==1)=false:=h1
    simp only[vv,Bool.false_eq_true,if_false]
    refine And.intro (fun h2=>?_) (fun h2=>?_)
    ·simp only[h2,if_true]
     simp only[nN.len,jP,sS,sT,sZ,adm]
     have sY:jg s.kind=2:=by simpa using h2
     rw[sY]
     refine fV (fun i=>[.d (.int .i64 2),kq 6 [aq.enc ⟨2,s.name,false,[],s.line,s.gn⟩] (aK ((s.j2.take i).map fun a=>⟨2,a,false,[],s.line,s.gn⟩)),.d al,.d (.int .i64 (s.j2.length:Int)),.d (.int .i64 ((i:Nat):Int))])
      (fun i=>[iM s r5 r6 cD al rest,aq.cells ⟨2,s.name,false,[],s.line,s.gn⟩]) s.j2.length (fun i hi I hI=>?_) (fun I=>?_)
     ·simp only[sS,sT,sZ]
      refine And.intro (fun _=>?_) (fun h=>absurd h (by simp;omega))
      obtain⟨t,ht⟩:=get_some hi
      simp only[nN.at (Ak ht),sS,sT,sZ,kc,iU,kW,l6,me,l9,ma,mc,dG,kX,BG,Dz,jQ,k8,l5,Dp,Dq,wo,jz,set_perm,ga,fN,fD,g8,Ad]
      refine aeE (qB 6 _) (by simp only[eA,List.length_map,List.length_take,List.length_singleton];omega) ?_
      refine aU (br hi (by simp only[maxLen];omega)) ?_
      rw[BH,←TG (fun a=>(⟨2,a,false,[],s.line,s.gn⟩:aq)) ht]
      exact hI
     ·simp only[sS,sT,sZ]
      refine And.intro (fun h=>absurd h (by simp)) (fun _=>?_)
      refine⟨ach _ _ _,?_,aci _ _ _⟩
      have:=aga 6 [aq.enc ⟨2,s.name,false,[],s.line,s.gn⟩] (aK ((s.j2.take s.j2.length).map fun a=>⟨2,a,false,[],s.line,s.gn⟩))
      rw[List.take_length]at this
      rw[List.take_length]
      exact this
    ·simp only[h2,Bool.false_eq_true,if_false]
     exact⟨rfl,.full,rfl⟩
  ·rw[if_neg (by simpa using hk)]
   have leaf:∀b:Bool,b=false→(if b=true then([⟨s.op,s.name,true,dedup s.list,s.line,s.gn⟩]:List aq)else [])=[]:=fun b h=>by rw[h];rfl
   refine And.intro (fun h1=>?_) (fun h1=>?_)
   ·refine And.intro (fun h2=>?_) (fun h2=>?_)
    ·rw[if_pos (by rw[h1,h2];rfl)]
     refine cV (M3 s.list jn (by omega)) (ka _ _) ?_
     simp only[sS,sT,sZ,kc,iU,kW,l6,me,l9,ma,mc,dG,kX,BG,Dz,jQ,k8,l5,Dp,Dq,wo,jz,set_perm,ga,fN,fD,g8,ez]
     exact⟨rfl,.full,rfl⟩
    ·rw[if_neg (by rw[h2];simp)]
     simp only[h1,Bool.true_and]
     refine And.intro (fun _=>?_) (fun h=>absurd h (by simp))
     refine And.intro (fun h3=>?_) (fun h3=>?_)
     ·simp only[h3,Bool.true_and]
      refine And.intro (fun h4=>?_) (fun h4=>?_)
      ·rw[if_pos h4]
       simp only[jn.len,jP,sS,sT,sZ,aeD 6]
       refine fV (fun i=>[aQ 6 (aK ((s.list.take i).map fun a=>⟨s.op,a,true,[],s.line,s.gn⟩)),.d cD,.d (.int .i64 (s.list.length:Int)),.d (.int .i64 ((i:Nat):Int))])
        (fun i=>[iM s r5 r6 cD al rest]) s.list.length (fun i hi I hI=>?_) (fun I=>?_)
       ·simp only[sS,sT,sZ]
        refine And.intro (fun _=>?_) (fun h=>absurd h (by simp;omega))
        obtain⟨t,ht⟩:=get_some hi
        simp only[jn.at (Ak ht),sS,sT,sZ,kc,iU,kW,l6,me,l9,ma,mc,dG,kX,BG,Dz,jQ,k8,l5,Dp,Dq,wo,jz,set_perm,ga,fN,fD,g8,Ad]
        refine gN (qB 6 _) (by simp only[eA,List.length_map,List.length_take,List.length_singleton];omega) ?_
        refine aU (br hi (by simp only[maxLen];omega)) ?_
        rw[BH,←TG (fun a=>(⟨s.op,a,true,[],s.line,s.gn⟩:aq)) ht]
        exact hI
       ·simp only[sS,sT,sZ]
        refine And.intro (fun h=>absurd h (by simp)) (fun _=>?_)
        refine⟨kS _ _,?_,ka _ _⟩
        rw[List.take_length,ez]
        exact(cK 6 _).sv
      ·rw[if_neg (by rw[h4];simp)]
       first|exact⟨rfl,.nil 0 rfl,rfl⟩|exact⟨.nil 0 rfl,rfl⟩
     ·simp only[h3,Bool.false_and,Bool.false_eq_true,if_false]
      first|exact⟨rfl,.nil 0 rfl,rfl⟩|exact⟨.nil 0 rfl,rfl⟩
   ·simp only[h1,Bool.false_and,Bool.false_eq_true,if_false]
    refine And.intro (fun h=>absurd h (by simp)) (fun _=>?_)
    first|exact⟨rfl,.nil 0 rfl,rfl⟩|exact⟨.nil 0 rfl,rfl⟩
def pH(x:aq):Bool→List aq→Int
 |tw,[]=>if tw then 12 else 0
 |tw,y::l=>if DQ y.kind != DQ x.kind then pH x tw l else if !(y.name==x.name)then pH x tw l else if y.kind != x.kind then 13 else pH x (tw||(!x.cJ&& !y.cJ)) l
def pI(l:List aq)(x:aq):Int:=pH x (!x.cJ&&vf x.kind x.name) l
theorem xY{α:Type}{l:List α}{i:Nat}{x:α}(h:l[i]? =some x):l.drop i=x::l.drop (i+1):=by
 have hi:=(List.getElem?_eq_some_iff.1 h).1
 rw[List.drop_eq_getElem_cons hi,(List.getElem?_eq_some_iff.1 h).2]
set_option maxRecDepth 4000 in
theorem abn(l:List aq)(x:aq){y:D}(hy:aW 6 (aK l) y)(hl:l.length≤maxLen):aG Try.prog gl 68 [.d y,.d x.enc] (.d (.int .i64 (pI l x))):=by
 refine cM bG (cb (fn:=Try.f68) (by kernel_rfl) (by kernel_rfl) (by kernel_rfl)) (h:=h68) ?_;rw[ahQ];intro bJ
 simp only[sS,sT,sZ,ga,fN,g7,iC,gO,gE]
 have loop:∀tw:Bool,pH x tw l=pI l x→∀{F:List SV→List (List SV)→(List SV→List (List SV)→Prop)→Prop},(∀i tw,i<l.length→pH x tw (l.drop i)=pI l x→∀I:List SV→List (List SV)→Prop,(∀Im,pH x Im (l.drop (i+1))=pI l x→I [.d (.bool Im),.d y,.d (.int .i64 (l.length:Int)),.d (.int .i64 ((i+1:Nat):Int))] [x.cells])→F [.d (.bool tw),.d y,.d (.int .i64 (l.length:Int)),.d (.int .i64 ((i:Nat):Int))] [x.cells] I)→
   (∀tw,pH x tw []=pI l x→∀I,F [.d (.bool tw),.d y,.d (.int .i64 (l.length:Int)),.d (.int .i64 (l.length:Int))] [x.cells] I)→bT F [.d (.bool tw),.d y,.d (.int .i64 (l.length:Int)),.d (.int .i64 0)] [x.cells]:=by
  intro tw Sx F hs he
  exact Ae (fun i tw=>pH x tw (l.drop i)=pI l x) (fun i tw=>[.d (.bool tw),.d y,.d (.int .i64 (l.length:Int)),.d (.int .i64 ((i:Nat):Int))]) (fun i _=>[x.cells]) l.length tw Sx (fun i tw hi hJ I hI=>hs i tw hi hJ I hI) (fun tw hJ I=>he tw (by rw[List.drop_length]at hJ;exact hJ) I)
 refine And.intro (fun h1=>?_) (fun h1=>?_)
 ·refine dZ (M6 _ _) ?_
  simp only[sS,sT,sZ,hy.len,eA]
  refine loop _ (by rw[pI,h1,Bool.true_and]) (fun i tw hi hJ I hI=>?_) (fun tw hJ I=>?_)
  ·simp only[sS,sT,sZ]
   refine And.intro (fun _=>?_) (fun h=>absurd h (by simp;omega))
   obtain⟨z,hz⟩:=get_some hi
   rw[xY hz,pH]at hJ
   simp only[hy.at (mf hz),sS,sT,sZ,qI,ga,fN,g8,gO,gE,g7,J3,iC]
   refine dZ (I0 _) ?_
   simp only[sS,sT,sZ]
   refine dZ (I0 _) ?_
   simp only[sS,sT,sZ]
   refine And.intro (fun ha=>?_) (fun ha=>?_)
   ·rw[if_pos ha]at hJ
    refine aU (br hi hl) ?_
    exact hI tw hJ
   ·rw[if_neg (by rw[ha];simp)]at hJ
    refine And.intro (fun hb=>?_) (fun hb=>?_)
    ·rw[if_pos hb]at hJ
     refine aU (br hi hl) ?_
     exact hI tw hJ
    ·rw[if_neg (by rw[hb];simp)]at hJ
     refine And.intro (fun hc=>?_) (fun hc=>?_)
     ·rw[if_pos hc]at hJ
      rw[←hJ]
     ·rw[if_neg (by rw[hc];simp)]at hJ
      refine And.intro (fun ht=>?_) (fun ht=>?_)
      ·rw[ht,Bool.true_or]at hJ
       refine aU (br hi hl) ?_
       exact hI true hJ
      ·rw[ht,Bool.false_or]at hJ
       refine And.intro (fun hx=>?_) (fun hx=>?_)
       ·rw[hx,Bool.true_and]at hJ
        refine aU (br hi hl) ?_
        exact hI _ hJ
       ·rw[hx,Bool.false_and]at hJ
        refine aU (br hi hl) ?_
        exact hI false hJ
  ·simp only[sS,sT,sZ]
   refine And.intro (fun h=>absurd h (by simp)) (fun _=>?_)
   rw[pH]at hJ
   refine And.intro (fun ht=>?_) (fun ht=>?_)
   ·rw[if_pos ht]at hJ
    rw[←hJ]
   ·rw[if_neg (by rw[ht];simp)]at hJ
    rw[←hJ]
 ·simp only[sS,sT,sZ,hy.len,eA]
  refine loop _ (by rw[pI,h1,Bool.false_and]) (fun i tw hi hJ I hI=>?_) (fun tw hJ I=>?_)
  ·simp only[sS,sT,sZ]
   refine And.intro (fun _=>?_) (fun h=>absurd h (by simp;omega))
   obtain⟨z,hz⟩:=get_some hi
   rw[xY hz,pH]at hJ
   simp only[hy.at (mf hz),sS,sT,sZ,qI,ga,fN,g8,gO,gE,g7,J3,iC]
   refine dZ (I0 _) ?_
   simp only[sS,sT,sZ]
   refine dZ (I0 _) ?_
   simp only[sS,sT,sZ]
   refine And.intro (fun ha=>?_) (fun ha=>?_)
   ·rw[if_pos ha]at hJ
    refine aU (br hi hl) ?_
    exact hI tw hJ
   ·rw[if_neg (by rw[ha];simp)]at hJ
    refine And.intro (fun hb=>?_) (fun hb=>?_)
    ·rw[if_pos hb]at hJ
     refine aU (br hi hl) ?_
     exact hI tw hJ
    ·rw[if_neg (by rw[hb];simp)]at hJ
     refine And.intro (fun hc=>?_) (fun hc=>?_)
     ·rw[if_pos hc]at hJ
      rw[←hJ]
     ·rw[if_neg (by rw[hc];simp)]at hJ
      refine And.intro (fun ht=>?_) (fun ht=>?_)
      ·rw[ht,Bool.true_or]at hJ
       refine aU (br hi hl) ?_
       exact hI true hJ
      ·rw[ht,Bool.false_or]at hJ
       refine And.intro (fun hx=>?_) (fun hx=>?_)
       ·rw[hx,Bool.true_and]at hJ
        refine aU (br hi hl) ?_
        exact hI _ hJ
       ·rw[hx,Bool.false_and]at hJ
        refine aU (br hi hl) ?_
        exact hI false hJ
  ·simp only[sS,sT,sZ]
   refine And.intro (fun h=>absurd h (by simp)) (fun _=>?_)
   rw[pH]at hJ
   refine And.intro (fun ht=>?_) (fun ht=>?_)
   ·rw[if_pos ht]at hJ
    rw[←hJ]
   ·rw[if_neg (by rw[ht];simp)]at hJ
    rw[←hJ]
end Go.Proofs.Ytimbllcalipehaa.Ab
set_option maxRecDepth 100000
namespace Go.Proofs.Ytimbllcalipehaa.Ab
open Go
def jk:Hints:=⟨[],[],[]⟩
noncomputable def Ev:Code:=Go.Proofs.Try.f82.body.getD .skip
def sA:Code→Code| .seq a _=>a|c=>c
def sB:Code→Code| .seq _ b=>b|c=>c
def bk:Code→Code| .block _ b=>b| .loop b=>b|c=>c
def ak7:Code→Array Oper| .region _ ops _=>ops|_=> #[]
def dfO:Oper:={dst:=none,op:=.move (.tmp 0),type:=0,pos:= "",after:= #[],guard:=none}
noncomputable def cO:Code:=bk (bk (sB Ev))
noncomputable def CZ:Code:=bk (sA (sB (sB cO)))
noncomputable def cI:Code:=bk (bk (sB (sB CZ)))
noncomputable def Io:Code:=bk (sA (sB (sB cI)))
noncomputable def tW:Array Oper:=ak7 (sA (sB Io))
noncomputable def o6(i:Nat):Oper:=tW.toList.getD i dfO
def E9(yl:Nat)(x:D)(xs:D)(m i:SV):List Slot:=[.v (.d (.fn (.yield yl))),.v (.aX x 0),.v .undef,.v .undef,.v .undef,.v .undef,.v .undef,.v (.d xs),.v m,.v i]++List.replicate 16 (.v .undef)
def shP(yl:Nat)(x:D)(xs:D)(m i u v:SV):List Slot:=[.v (.d (.fn (.yield yl))),.v (.aX x 0),.v .undef,.v .undef,.p 0 0,.v .undef,.v .undef,.v (.d xs),.v m,.v i,.v .undef,.v u,.v v]++List.replicate 13 (.v .undef)
def C0(yl:Nat)(x:D)(xs:D)(m i:SV)(ys:SV)(k j:SV):List Slot:=[.v (.d (.fn (.yield yl))),.v (.aX x 0),.v .undef,.v .undef,.v .undef,.v .undef,.v .undef,.v (.d xs),.v m,.v i,.v .undef,.v .undef,.v .undef,.v .undef,.v ys,.v k,.v j]++List.replicate 9 (.v .undef)
def Mq(yl:Nat)(x:D)(xs:D)(m i:SV)(ys:SV)(k j u v t20 t21 t22:SV):List Slot:=[.v (.d (.fn (.yield yl))),.v (.aX x 0),.v .undef,.v .undef,.v .undef,.v .undef,.p 0 0,.v (.d xs),.v m,.v i,.v .undef,.v .undef,.v .undef,.v .undef,.v ys,.v k,.v j,.v .undef,.v u,.v v,.v t20,.v t21,.v t22,.v .undef,.v .undef,.v .undef]
set_option maxHeartbeats 1000000 in
theorem pi0(C:bA)(yl:Nat)(x:D)(Q:Ex→Env→Prop):aw Go.Proofs.Try.prog gl C jk (sA Ev) Q (enter 26 [.d (.fn (.yield yl)),.aX x 0])=(
 ab (aI false 1 (.aX x 0)) fun r0=>
 ab (bm (aa r0)) fun r1=>
 (Q Ex.normal (Env.mk [(.v (.d (.fn (.yield yl)))),(.v (.aX x 0)),(.v .undef),(.v .undef),(.v .undef),(.v .undef),(.v .undef),(.v r0),(.v r1),(.v (.d (.int .i64 0))),(.v .undef),(.v .undef),(.v .undef),(.v .undef),(.v .undef),(.v .undef),(.v .undef),(.v .undef),(.v .undef),(.v .undef),(.v .undef),(.v .undef),(.v .undef),(.v .undef),(.v .undef),(.v .undef)] []))):=by kernel_rfl
set_option maxHeartbeats 1000000 in
theorem pi1(C:bA)(yl:Nat)(x xs:D)(m i:SV)(Q:Ex→Env→Prop):aw Go.Proofs.Try.prog gl C jk (sA cO) Q ⟨E9 yl x xs m i,[]⟩=(
 ab (ai none .lss (aa i) (aa m)) fun r0=>
 (Q Ex.normal (Env.mk [(.v (.d (.fn (.yield yl)))),(.v (.aX x 0)),(.v .undef),(.v .undef),(.v .undef),(.v .undef),(.v .undef),(.v (.d xs)),(.v m),(.v i),(.v r0),(.v .undef),(.v .undef),(.v .undef),(.v .undef),(.v .undef),(.v .undef),(.v .undef),(.v .undef),(.v .undef),(.v .undef),(.v .undef),(.v .undef),(.v .undef),(.v .undef),(.v .undef)] []))):=by kernel_rfl
set_option maxHeartbeats 1000000 in
theorem pi2(C:bA)(yl:Nat)(x xs:D)(m i:SV)(Q:Ex→Env→Prop):aw Go.Proofs.Try.prog gl C jk (sA CZ) Q ⟨E9 yl x xs m i,[]⟩=(
 ab (aL 55 (.d xs) (aa i)) fun r0=>
 ab (aI true 55 (aa r0)) fun r1=>
 ab (aB (aa r1)) fun r2=>
 (List.length r2)=55∧
 55≤55∧
 (Q Ex.normal (Env.mk [(.v (.d (.fn (.yield yl)))),(.v (.aX x 0)),(.v .undef),(.v .undef),(.p (0+0) 0),(.v .undef),(.v .undef),(.v (.d xs)),(.v m),(.v i),(.v .undef),(.v r0),(.v r1),(.v .undef),(.v .undef),(.v .undef),(.v .undef),(.v .undef),(.v .undef),(.v .undef),(.v .undef),(.v .undef),(.v .undef),(.v .undef),(.v .undef),(.v .undef)] [(af.cells (setAt [(.d (.int .i64 0)),(.d (.int .i64 0)),(.d (.int .i64 0)),(.d (.int .i64 0)),(.d (.str [])),(.d (.str [])),(.d (.str [])),(.d (.sl .nil 0 [])),(.d (.sl .nil 0 [])),(.d (.bool false)),(.d (.bool false)),(.d (.bool false)),(.d (.sl .nil 0 [])),(.d (.sl .nil 0 [])),(.d (.bool false)),(.d (.bool false)),(.d (.bool false)),(.d (.sl .nil 0 [])),(.d (.sl .nil 0 [])),(.d (.bool false)),(.d (.bool false)),(.d (.bool false)),(.d (.sl .nil 0 [])),(.d (.sl .nil 0 [])),(.d (.bool false)),(.d (.bool false)),(.d (.bool false)),(.d (.sl .nil 0 [])),(.d (.sl .nil 0 [])),(.d (.int .i64 0)),(.d (.int .i64 0)),(.d (.int .i64 0)),(.d (.int .i64 0)),(.d (.sl .nil 0 [])),(.d (.int .u64 0)),(.d (.int .u64 0)),(.d (.int .u64 0)),(.d (.int .u64 0)),(.d (.sl .nil 0 [])),(.d (.str [])),(.d (.sl .nil 0 [])),(.d (.str [])),(.d (.sl .nil 0 [])),(.d (.str [])),(.d (.sl .nil 0 [])),(.d (.str [])),(.d (.str [])),(.d (.str [])),(.d (.str [])),(.d (.sl .nil 0 [])),(.d (.str [])),(.d (.sl .nil 0 [])),(.d (.bool false)),(.d (.sl .nil 0 [])),(.d (.sl .nil 0 []))] 0 r2))]))):=by kernel_rfl
set_option maxHeartbeats 1000000 in
theorem pi3(C:bA)(yl:Nat)(x xs:D)(m i u v:SV)(cs:List SV)(Q:Ex→Env→Prop):aw Go.Proofs.Try.prog gl C jk (sA (sB CZ)) Q ⟨shP yl x xs m i u v,[.cells cs]⟩=(
 ab (aj true 55 0 cs) fun r0=>
 ba C 83 [(aa (aa (aa r0)))] fun r1=>
 ab (bm (aa r1)) fun r2=>
 (Q Ex.normal (Env.mk [(.v (.d (.fn (.yield yl)))),(.v (.aX x 0)),(.v .undef),(.v .undef),(.p 0 0),(.v .undef),(.v .undef),(.v (.d xs)),(.v m),(.v i),(.v .undef),(.v u),(.v v),(.v (aa r0)),(.v r1),(.v r2),(.v (.d (.int .i64 0))),(.v .undef),(.v .undef),(.v .undef),(.v .undef),(.v .undef),(.v .undef),(.v .undef),(.v .undef),(.v .undef)] [(af.cells cs)]))):=by kernel_rfl
set_option maxHeartbeats 1000000 in
theorem pi4(C:bA)(yl:Nat)(x xs:D)(m i:SV)(ys:SV)(k j:SV)(Q:Ex→Env→Prop):aw Go.Proofs.Try.prog gl C jk (sA cI) Q ⟨C0 yl x xs m i ys k j,[]⟩=(
 ab (ai none .lss (aa j) (aa k)) fun r0=>
 (Q Ex.normal (Env.mk [(.v (.d (.fn (.yield yl)))),(.v (.aX x 0)),(.v .undef),(.v .undef),(.v .undef),(.v .undef),(.v .undef),(.v (.d xs)),(.v m),(.v i),(.v .undef),(.v .undef),(.v .undef),(.v .undef),(.v ys),(.v k),(.v j),(.v r0),(.v .undef),(.v .undef),(.v .undef),(.v .undef),(.v .undef),(.v .undef),(.v .undef),(.v .undef)] []))):=by kernel_rfl
set_option maxHeartbeats 1000000 in
theorem pi5(C:bA)(yl:Nat)(x xs:D)(m i:SV)(ys:SV)(k j:SV)(Q:Ex→Env→Prop):aw Go.Proofs.Try.prog gl C jk (sA Io) Q ⟨C0 yl x xs m i ys k j,[]⟩=(
 ab (aL 6 (aa ys) (aa j)) fun r0=>
 ab (aI true 6 (aa r0)) fun r1=>
 ab (aB (aa r1)) fun r2=>
 (List.length r2)=6∧
 6≤6∧
 (Q Ex.normal (Env.mk [(.v (.d (.fn (.yield yl)))),(.v (.aX x 0)),(.v .undef),(.v .undef),(.v .undef),(.v .undef),(.p (0+0) 0),(.v (.d xs)),(.v m),(.v i),(.v .undef),(.v .undef),(.v .undef),(.v .undef),(.v ys),(.v k),(.v j),(.v .undef),(.v r0),(.v r1),(.v .undef),(.v .undef),(.v .undef),(.v .undef),(.v .undef),(.v .undef)] [(af.cells (setAt [(.d (.int .i64 0)),(.d (.str [])),(.d (.bool false)),(.d (.sl .nil 0 [])),(.d (.int .i64 0)),(.d (.int .i64 0))] 0 r2))]))):=by kernel_rfl
set_option maxHeartbeats 1000000 in
theorem ak8(C:bA)(yl:Nat)(x xs:D)(m i:SV)(ys:SV)(k j u v:SV)(cs:List SV)(Q:Env→Prop):o8 Go.Proofs.Try.prog gl C tW.toList 0 false (o6 0) ⟨Mq yl x xs m i ys k j u v .undef .undef .undef,[.cells cs]⟩ Q=(
 (Q (Env.mk [(.v (.d (.fn (.yield yl)))),(.v (.aX x 0)),(.v .undef),(.v .undef),(.v .undef),(.v .undef),(.p 0 0),(.v (.d xs)),(.v m),(.v i),(.v .undef),(.v .undef),(.v .undef),(.v .undef),(.v ys),(.v k),(.v j),(.v .undef),(.v u),(.v v),(.v (.d (.fn (.yield yl)))),(.v .undef),(.v .undef),(.v .undef),(.v .undef),(.v .undef)] [(af.cells cs)]))):=by kernel_rfl
set_option maxHeartbeats 1000000 in
theorem ak9(C:bA)(yl:Nat)(x xs:D)(m i:SV)(ys:SV)(k j u v t20:SV)(cs:List SV)(Q:Env→Prop):o8 Go.Proofs.Try.prog gl C tW.toList 0 false (o6 1) ⟨Mq yl x xs m i ys k j u v t20 .undef .undef,[.cells cs]⟩ Q=(
 ab (aj true 6 0 cs) fun r0=>
 (Q (Env.mk [(.v (.d (.fn (.yield yl)))),(.v (.aX x 0)),(.v .undef),(.v .undef),(.v .undef),(.v .undef),(.p 0 0),(.v (.d xs)),(.v m),(.v i),(.v .undef),(.v .undef),(.v .undef),(.v .undef),(.v ys),(.v k),(.v j),(.v .undef),(.v u),(.v v),(.v t20),(.v (aa r0)),(.v .undef),(.v .undef),(.v .undef),(.v .undef)] [(af.cells cs)]))):=by kernel_rfl
set_option maxHeartbeats 1000000 in
theorem ZB(C:bA)(yl:Nat)(x xs:D)(m i:SV)(ys:SV)(k j u v t20 t21:SV)(b:Bool)(cs:List SV)(Q:Env→Prop):o8 Go.Proofs.Try.prog gl C tW.toList 0 false (o6 3) ⟨Mq yl x xs m i ys k j u v t20 t21 (.d (.bool b)),[.cells cs]⟩ Q=(
 ab (fg .not (.d (.bool b))) fun r0=>
 (Q (Env.mk [(.v (.d (.fn (.yield yl)))),(.v (.aX x 0)),(.v .undef),(.v .undef),(.v .undef),(.v .undef),(.p 0 0),(.v (.d xs)),(.v m),(.v i),(.v .undef),(.v .undef),(.v .undef),(.v .undef),(.v ys),(.v k),(.v j),(.v .undef),(.v u),(.v v),(.v t20),(.v t21),(.v (.d (.bool b))),(.v r0),(.v .undef),(.v .undef)] [(af.cells cs)]))):=by kernel_rfl
set_option maxHeartbeats 1000000 in
theorem pi7(C:bA)(yl:Nat)(x xs:D)(m i:SV)(ys:SV)(k j:SV)(Q:Ex→Env→Prop):aw Go.Proofs.Try.prog gl C jk (sB (sB (sB cI))) Q ⟨C0 yl x xs m i ys k j,[]⟩=(
 ab (ai none .add (aa j) (.d (.int .i64 1))) fun r0=>
 (Q Ex.normal (Env.mk [(.v (.d (.fn (.yield yl)))),(.v (.aX x 0)),(.v .undef),(.v .undef),(.v .undef),(.v .undef),(.v .undef),(.v (.d xs)),(.v m),(.v i),(.v .undef),(.v .undef),(.v .undef),(.v .undef),(.v ys),(.v k),(.v (aa r0)),(.v .undef),(.v .undef),(.v .undef),(.v .undef),(.v .undef),(.v .undef),(.v .undef),(.v r0),(.v .undef)] []))):=by kernel_rfl
set_option maxHeartbeats 1000000 in
theorem pi8(C:bA)(yl:Nat)(x xs:D)(m i:SV)(Q:Ex→Env→Prop):aw Go.Proofs.Try.prog gl C jk (sB (sB (sB cO))) Q ⟨E9 yl x xs m i,[]⟩=(
 ab (ai none .add (aa i) (.d (.int .i64 1))) fun r0=>
 (Q Ex.normal (Env.mk [(.v (.d (.fn (.yield yl)))),(.v (.aX x 0)),(.v .undef),(.v .undef),(.v .undef),(.v .undef),(.v .undef),(.v (.d xs)),(.v m),(.v (aa r0)),(.v .undef),(.v .undef),(.v .undef),(.v .undef),(.v .undef),(.v .undef),(.v .undef),(.v .undef),(.v .undef),(.v .undef),(.v .undef),(.v .undef),(.v .undef),(.v .undef),(.v .undef),(.v r0)] []))):=by kernel_rfl
end Go.Proofs.Ytimbllcalipehaa.Ab
namespace Go.Proofs.Ytimbllcalipehaa.Ab
open Go
set_option linter.unusedVariables false
set_option maxRecDepth 4000
theorem agh:Ev=.seq (sA Ev) (.block 0 (.loop cO)):=by kernel_rfl
theorem ajK:cO=.seq (sA cO) (.seq (.cond (.tmp 10) .skip (.exit 0)) (.seq (.block 1 CZ) (sB (sB (sB cO))))):=by kernel_rfl
theorem ais:CZ=.seq (sA CZ) (.seq (sA (sB CZ)) (.block 2 (.loop cI))):=by kernel_rfl
theorem ajL:cI=.seq (sA cI) (.seq (.cond (.tmp 17) .skip (.exit 2)) (.seq (.block 3 Io) (sB (sB (sB cI))))):=by kernel_rfl
theorem ait:Io=.seq (sA Io) (.seq (.region 6 tW false) (.cond (.tmp 23) .ret .skip)):=by kernel_rfl
theorem adp:tW.size=4:=by kernel_rfl
theorem ala:tW[0]? =some (o6 0):=by kernel_rfl
theorem alb:tW[1]? =some (o6 1):=by kernel_rfl
theorem alc:tW[2]? =some (o6 2):=by kernel_rfl
theorem ZC:tW[3]? =some (o6 3):=by kernel_rfl
theorem ajM:(o6 2).guard =none:=by kernel_rfl
theorem ajN:(o6 2).dst =some 22:=by kernel_rfl
theorem ajO:(o6 2).op =.call {callee:=.value (.tmp 20),args:= #[.tmp 21],argTypes:= #[87]}:=by kernel_rfl
theorem adq(yl:Nat)(x xs m i k j z:D)(ys:SV)(Cw:ys.re=true)(Cx:ys.aD=true)(cs:List SV)(h1:SV.sH cs=true)(h2:SV.iB cs=true):Kr ⟨Mq yl x xs (.d m) (.d i) ys (.d k) (.d j) (.aX z 0) (.d z) (.d (.fn (.yield yl))) (.d z) .undef,[.cells cs]⟩:=by
 refine⟨?_,?_⟩
 ·show ∀s∈[_,_,_,_,_,_,_,_,_,_,_,_,_,_,_,_,_,_,_,_,_,_,_,_,_,_],Plain s
  repeat (refine List.forall_mem_cons.2 ⟨?_,?_⟩;·first|exact .v _ rfl rfl|exact .p _ _|exact .v _ Cw Cx)
  intro s hs;cases hs
 ·intro bx hb
  rw[List.mem_singleton.1 hb]
  exact⟨h1,h2⟩
theorem Wj(s:aq):SV.sH s.cells=true∧SV.iB s.cells=true:=⟨rfl,rfl⟩
section
variable{x xs m i:D}{ys:SV}
theorem aeI(C:vJ Try.prog gl)(pre ss rest:List aq)(hL:C.L=aK (pre++ss++rest))(hy:iP 6 (aK ss) ys)(hn:ss.length≤maxLen){e:Env}(hw:Ax (C0 C.l x xs (.d m) (.d i) ys (.d (.int .i64 (ss.length:Int))) (.d (.int .i64 ((0:Nat):Int)))) e.ak):
  IW C 0 (.loop cI) (fun ex e' log q=>(ex=.exit 2∧q=none∧log=aK (pre++ss)∧Ax (E9 C.l x xs (.d m) (.d i)) e'.ak)∨(ex=.ret ∧q=some ())) e (aK pre) none:=by
 refine IW.loop (fun k e log q=>∃j,k+j=ss.length∧q=none∧log=aK (pre++ss.take j)∧Ax (C0 C.l x xs (.d m) (.d i) ys (.d (.int .i64 (ss.length:Int))) (.d (.int .i64 ((j:Nat):Int)))) e.ak) ?_ ss.length e _ _ ⟨0,by omega,rfl,by simp,hw⟩
 rintro k e log q ⟨j,hk,rfl,rfl,hw⟩
 rw[ajL]
 refine IW.D6 hw ?_
 refine IW.seq (IW.aw (hh:=jk) bG ?_)
 rw[pi4]
 simp only[sS,sT,sZ,W9]
 refine IW.seq (IW.cond (b:=decide ((j:Int)<(ss.length:Int))) rfl ?_)
 by_cases hj:j<ss.length
 ·rw[if_pos (by simpa using hj)]
  refine IW.aw (hh:=jk) bG ?_
  show IW C 0 _ _ _ _ _
  refine IW.seq (IW.block ?_)
  refine IW.D6 (sh:=C0 C.l x xs (.d m) (.d i) ys (.d (.int .i64 (ss.length:Int))) (.d (.int .i64 ((j:Nat):Int)))) (by((repeat (refine And.intro ?_ ?_;·first|exact .inl rfl|exact .inr ⟨_,rfl,rfl⟩|exact .inr ⟨_,rfl,congrArg Slot.v (iP.mW (by assumption)).symm⟩));exact trivial)) ?_
  rw[ait]
  refine IW.seq (IW.aw (hh:=jk) bG ?_)
  rw[pi5]
  have hyp:ys.re=true∧ys.aD=true:=by cases hy<;>exact⟨rfl,rfl⟩
  obtain⟨s,hs⟩:=get_some hj
  simp only[hy.mW,hy.at (mf hs),sS,sT,sZ,qI,ga,fN,g8]
  refine IW.seq (IW.region ?_)
  rw[adp]
  show OW C 0 tW _ [0,1,2,3] _ _ _
  refine OW.step (id:=0) (aH:=false) ala ?_
  refine(ak8 _ C.l x xs (.d m) (.d i) ys (.d (.int .i64 (ss.length:Int))) (.d (.int .i64 ((j:Nat):Int))) (.aX s.enc 0) (.d s.enc) s.cells _).mpr ?_
  refine OW.step (id:=0) (aH:=false) alb ?_
  refine(ak9 _ C.l x xs (.d m) (.d i) ys (.d (.int .i64 (ss.length:Int))) (.d (.int .i64 ((j:Nat):Int))) (.aX s.enc 0) (.d s.enc) (.d (.fn (.yield C.l))) s.cells _).mpr ?_
  rw[fD]
  show OW C 0 tW _ [2,3] _ _ _
  have ald:C.L[(aK (pre++ss.take j)).length]? =some s.enc:=by
   rw[hL,eA]
   refine mf ?_
   rw[List.length_append,List.length_take,Nat.min_eq_left (by omega),List.append_assoc,List.getElem?_append_right (by omega)]
   rw[Nat.add_sub_cancel_left,List.getElem?_append_left hj,hs]
  have YV:aK (pre++ss.take j)++[s.enc]=aK (pre++ss.take (j+1)):=by
   rw[dX hs,←List.append_assoc,←BH]
  refine OW.yield alc ajM ajO rfl rfl ajN rfl rfl ald (adq C.l x xs m i _ _ s.enc ys hyp.1 hyp.2 s.cells (Wj s).1 (Wj s).2) ?_ ?_
  ·refine OW.step (id:=0) (aH:=false) ZC ?_
   refine(ZB _ C.l x xs (.d m) (.d i) ys (.d (.int .i64 (ss.length:Int))) (.d (.int .i64 ((j:Nat):Int))) (.aX s.enc 0) (.d s.enc) (.d (.fn (.yield C.l))) (.d s.enc) true s.cells _).mpr ?_
   refine OW.nil ?_
   show IW C 0 _ _ _ _ _
   refine IW.cond (b:=false) rfl ?_
   rw[if_neg (by simp)]
   refine IW.aw (hh:=jk) bG ?_
   show IW C 0 _ _ _ _ _
   refine IW.D6 (sh:=C0 C.l x xs (.d m) (.d i) ys (.d (.int .i64 (ss.length:Int))) (.d (.int .i64 ((j:Nat):Int)))) (by((repeat (refine And.intro ?_ ?_;·first|exact .inl rfl|exact .inr ⟨_,rfl,rfl⟩|exact .inr ⟨_,rfl,congrArg Slot.v (iP.mW (by assumption)).symm⟩));exact trivial)) ?_
   refine IW.aw (hh:=jk) bG ?_
   rw[pi7]
   simp only[sS,sT,sZ]
   refine aU (br hj hn) ?_
   refine⟨k-1,by omega,j+1,by omega,?_⟩
   first|exact⟨rfl,YV,by((repeat (refine And.intro ?_ ?_;·first|exact .inl rfl|exact .inr ⟨_,rfl,rfl⟩|exact .inr ⟨_,rfl,congrArg Slot.v (iP.mW (by assumption)).symm⟩));exact trivial)⟩|exact⟨YV,by((repeat (refine And.intro ?_ ?_;·first|exact .inl rfl|exact .inr ⟨_,rfl,rfl⟩|exact .inr ⟨_,rfl,congrArg Slot.v (iP.mW (by assumption)).symm⟩));exact trivial)⟩
  ·refine OW.step (id:=0) (aH:=false) ZC ?_
   refine(ZB _ C.l x xs (.d m) (.d i) ys (.d (.int .i64 (ss.length:Int))) (.d (.int .i64 ((j:Nat):Int))) (.aX s.enc 0) (.d s.enc) (.d (.fn (.yield C.l))) (.d s.enc) false s.cells _).mpr ?_
   refine OW.nil ?_
   show IW C 0 _ _ _ _ _
   refine IW.cond (b:=true) rfl ?_
   rw[if_pos rfl]
   refine IW.aw (hh:=jk) bG ?_
   first|exact .inr ⟨rfl,rfl⟩|exact .inr rfl
 ·rw[if_neg (by simpa using hj)]
  refine IW.aw (hh:=jk) bG ?_
  have hje:j=ss.length:=by omega
  refine .inl ⟨rfl,rfl,by rw[hje,List.take_length],?_⟩
  ((repeat (refine And.intro ?_ ?_;·first|exact .inl rfl|exact .inr ⟨_,rfl,rfl⟩|exact .inr ⟨_,rfl,congrArg Slot.v (iP.mW (by assumption)).symm⟩));exact trivial)
end
structure D8(ay:List gp)(L:List D):Prop where
 len:L.length=ay.length
 at_:∀(i:Nat)s,ay[i]? =some s→∃y,L[i]? =some y∧vk s y∧s.list.length≤2^30∧s.j2.length≤2^30∧(cd s).length ≤2^40
theorem UT{cs l:List SV}(h:l.length=cs.length):setAt cs 0 l=l:=by
 rw[Dk l cs 0 (by omega)]
 simp[←h]
theorem Nn{ay:List gp}{i:Nat}{s:gp}(h:ay[i]? =some s):ay.flatMap cd=(ay.take i).flatMap cd++cd s++(ay.drop (i+1)).flatMap cd:=by
 have:=List.take_append_drop i ay
 conv=>lhs;rw[←this,xY h]
 simp[List.flatMap_append,List.append_assoc]
theorem aaN(ay:List gp){L:List D}{xs:D}(hx:aW 55 L xs)(hs:D8 ay L)(hn:ay.length≤maxLen):Iter Try.prog gl 82 [.aX xs 0] (aK (ay.flatMap cd)):=by
 refine afR bG (fn:=Try.f82) (c:=Ev) rfl rfl (cb (fn:=Try.f82) (by kernel_rfl) (by kernel_rfl) (by kernel_rfl)) rfl fun C hL _=>?_
 rw[agh]
 refine IW.seq (IW.aw (hh:=jk) bG ?_)
 show aw Try.prog gl _ jk (sA Ev) _ (enter 26 _)
 rw[pi0]
 have Mr:aI false 1 (.aX xs 0)=some (.d xs):=by cases hx<;>rfl
 simp only[Mr,sS,sT,sZ,hx.len]
 refine IW.block ?_
 refine IW.mono (Q:=fun ex e' log q=>(ex=.exit 0∧q=none∧log=aK (ay.flatMap cd))∨(ex=.ret ∧q=some ())) ?_ ?_
 rotate_left
 ·rintro ex e l q (⟨rfl,rfl,rfl⟩|⟨rfl,rfl⟩)
  ·exact⟨.inl rfl,fun _=>rfl⟩
  ·exact⟨.inr rfl,fun h=>by cases h⟩
 refine IW.loop (fun k e log q=>∃i,k+i=ay.length∧q=none∧log=aK ((ay.take i).flatMap cd)∧Ax (E9 C.l xs xs (.d (.int .i64 (ay.length:Int))) (.d (.int .i64 ((i:Nat):Int)))) e.ak) ?_ ay.length _ _ _ ⟨0,by omega,rfl,rfl,?_⟩
 rotate_left
 ·rw[←hs.len];((repeat (refine And.intro ?_ ?_;·first|exact .inl rfl|exact .inr ⟨_,rfl,rfl⟩|exact .inr ⟨_,rfl,congrArg Slot.v (iP.mW (by assumption)).symm⟩));exact trivial)
 rintro k e log q ⟨i,hk,rfl,rfl,hw⟩
 rw[ajK]
 refine IW.D6 hw ?_
 refine IW.seq (IW.aw (hh:=jk) bG ?_)
 rw[pi1]
 simp only[sS,sT,sZ,W9]
 refine IW.seq (IW.cond (b:=decide ((i:Int)<(ay.length:Int))) rfl ?_)
 by_cases hi:i<ay.length
 ·rw[if_pos (by simpa using hi)]
  refine IW.aw (hh:=jk) bG ?_
  show IW C 0 _ _ _ _ _
  refine IW.seq (IW.block ?_)
  refine IW.D6 (sh:=E9 C.l xs xs (.d (.int .i64 (ay.length:Int))) (.d (.int .i64 ((i:Nat):Int)))) (by((repeat (refine And.intro ?_ ?_;·first|exact .inl rfl|exact .inr ⟨_,rfl,rfl⟩|exact .inr ⟨_,rfl,congrArg Slot.v (iP.mW (by assumption)).symm⟩));exact trivial)) ?_
  rw[ais]
  refine IW.seq (IW.aw (hh:=jk) bG ?_)
  rw[pi2]
  obtain⟨s,oP⟩:=get_some hi
  obtain⟨y,hy,aY,gV,jo,EX⟩:=hs.at_ i s oP
  have va:=aY
  have Mr:=aY.load
  cases aY with
  |mk r5 r6 cD al rest h jn nN=>
  simp only[hx.at hy,sS,sT,sZ,Mr,kc,iU,h]
  rw[UT (by simp[iM,h])]
  refine IW.seq (IW.aw (hh:=jk) bG ?_)
  refine(pi3 _ C.l xs xs (.d (.int .i64 (ay.length:Int))) (.d (.int .i64 ((i:Nat):Int))) (.aX _ 0) (.d _) (iM s r5 r6 cD al rest) _).mpr ?_
  simp only[nW _ _ _ _ _ _ h,sS,sT,sZ]
  obtain⟨r,⟨ER,hr2⟩,R7⟩:=aav va gV jo
  refine cV R7 hr2 ?_
  simp only[ER.len,eA,sS,sT,sZ]
  refine IW.block (IW.mono (aeI (x:=xs) (xs:=xs) (m:=.int .i64 (ay.length:Int)) (i:=.int .i64 ((i:Nat):Int)) C ((ay.take i).flatMap cd) (cd s) ((ay.drop (i+1)).flatMap cd) (by rw[hL,Nn oP]) ER (by simp only[maxLen];omega) (by((repeat (refine And.intro ?_ ?_;·first|exact .inl rfl|exact .inr ⟨_,rfl,rfl⟩|exact .inr ⟨_,rfl,congrArg Slot.v (iP.mW (by assumption)).symm⟩));exact trivial))) ?_)
  rintro ex e2 l2 q2 (⟨rfl,rfl,rfl,hw2⟩|⟨rfl,rfl⟩)
  ·show IW C 0 _ _ _ _ _
   refine IW.D6 hw2 ?_
   refine IW.aw (hh:=jk) bG ?_
   rw[pi8]
   simp only[sS,sT,sZ]
   refine aU (br hi hn) ?_
   refine⟨k-1,by omega,i+1,by omega,?_⟩
   have sQ:aK ((ay.take i).flatMap cd++cd s)=aK ((ay.take (i+1)).flatMap cd):=by rw[dX oP];simp
   first|exact⟨rfl,sQ,by((repeat (refine And.intro ?_ ?_;·first|exact .inl rfl|exact .inr ⟨_,rfl,rfl⟩|exact .inr ⟨_,rfl,congrArg Slot.v (iP.mW (by assumption)).symm⟩));exact trivial)⟩|exact⟨sQ,by((repeat (refine And.intro ?_ ?_;·first|exact .inl rfl|exact .inr ⟨_,rfl,rfl⟩|exact .inr ⟨_,rfl,congrArg Slot.v (iP.mW (by assumption)).symm⟩));exact trivial)⟩
  ·first|exact .inr ⟨rfl,rfl⟩|exact .inr rfl
 ·rw[if_neg (by simpa using hi)]
  refine IW.aw (hh:=jk) bG ?_
  have RJ:i=ay.length:=by omega
  exact .inl ⟨rfl,rfl,by rw[RJ,List.take_length]⟩
end Go.Proofs.Ytimbllcalipehaa.Ab
set_option maxRecDepth 100000
namespace Go.Proofs.Ytimbllcalipehaa.Ab
open Go
def vS:Hints:=⟨[(8,0),(8,3),(8,4),(20,10),(22,0),(22,3),(22,4)],[(14,[8,44,45,46],[2,3,4,5,9,43])],[(7,[]),(12,[.emp 8]),(13,[.sO 5 []]),(20,[.box 8 6]),(21,[.box 8 6]),(22,[.jm 8 true 6 [96]]),(23,[.jm 8 true 6 [80,82,84,85,92,93]]),(24,[.jG 8])]⟩
noncomputable def za:Code:=Go.Proofs.Try.f50.body.getD .skip
noncomputable def QN:Code:=Go.Proofs.Try.f67.body.getD .skip
def Ms:Code→Code| .block _ (.rangeFunc _ _ a _)=>a|c=>c
def Mt:Code→Code| .block _ (.rangeFunc _ _ _ b)=>b|c=>c
noncomputable def Ay:Code:=(gQ za).getD 4 .skip
def u4:List Slot:=[.v .undef,.v .undef,.p 0 0,.p 1 0,.p 2 0,.p 4 0]++List.replicate 99 (.v .undef)
def KQ(al:SV)(m:List (MK×D)):List af:=[.cells [.d (.sl .nil 0 [])],.cells [.d (.int .i64 0),.d (.int .i64 0),.d (.int .i64 0),.d (.str [])],.cells [al],.map m,.one (.m 3)]
set_option maxHeartbeats 1000000 in
theorem aiu(f1 f2 f3 f4:D)(al:SV)(m:List (MK×D))(K:SV→Prop):finish Go.Proofs.Try.prog Go.Proofs.Try.f50 ⟨u4,[.cells [.d (.sl .nil 0 [])],.cells [.d f1,.d f2,.d f3,.d f4],.cells [al],.map m,.one (.m 3)]⟩ K=(ab (aj false 1 0 [(.d (.sl .nil 0 []))]) fun r0=>(SV.aD (aa r0))=true∧ab (aj true 4 0 [(.d f1),(.d f2),(.d f3),(.d f4)]) fun r1=>(SV.aD (aa r1))=true∧(K (.aJ [(aa r0),(aa r1)]))):=by kernel_rfl
set_option maxHeartbeats 1000000 in
theorem aiv(C:bA)(x:D)(Q:Ex→Env→Prop):aw Go.Proofs.Try.prog gl C jk QN Q (enter 4 [.d x])=(ab (aB (.d x)) fun r0=>(List.length r0)=1∧(Q Ex.ret (Env.mk [(.v (.d x)),(.p (0+0) 0),(.c (.func 82) [] [(.p (0+0) 0)]),(.c (.func 82) [] [(.p (0+0) 0)])] [(af.cells r0)]))):=by kernel_rfl
set_option maxHeartbeats 1000000 in
theorem aiw(C:bA)(x0:SV)(Q:Ex→Env→Prop):mC Go.Proofs.Try.prog gl C vS ((gQ za).take 4) Q (enter 105 [x0])=(ba C 67 [(aa (aa (aa x0)))] fun r0=>(Q Ex.normal (Env.mk ([(.v x0),(.v .undef),(.p (0+0) 0),(.p (0+1) 0),(.p ((List.length [(af.cells [(.d (.sl .nil 0 []))]),(af.cells [(.d (.int .i64 0)),(.d (.int .i64 0)),(.d (.int .i64 0)),(.d (.str []))])])+0) 0),(.p ((List.length [(af.cells [(.d (.sl .nil 0 []))]),(af.cells [(.d (.int .i64 0)),(.d (.int .i64 0)),(.d (.int .i64 0)),(.d (.str []))]),(af.cells [(.d (.sl .nil 0 []))])])+1) 0),(.v .undef),(.v .undef),(.v .undef),(.v .undef),(.v .undef),(.v .undef),(.v .undef),(.v .undef),(.v .undef),(.m ((List.length [(af.cells [(.d (.sl .nil 0 []))]),(af.cells [(.d (.int .i64 0)),(.d (.int .i64 0)),(.d (.int .i64 0)),(.d (.str []))]),(af.cells [(.d (.sl .nil 0 []))])])+0)),(.v (aa x0)),(.v r0)]++List.replicate 87 (.v .undef)) [(af.cells [(.d (.sl .nil 0 []))]),(af.cells [(.d (.int .i64 0)),(.d (.int .i64 0)),(.d (.int .i64 0)),(.d (.str []))]),(af.cells [(.d (.sl .nil 0 []))]),(af.map []),(af.one (.m ((List.length [(af.cells [(.d (.sl .nil 0 []))]),(af.cells [(.d (.int .i64 0)),(.d (.int .i64 0)),(.d (.int .i64 0)),(.d (.str []))]),(af.cells [(.d (.sl .nil 0 []))])])+0)))]))):=by kernel_rfl
set_option maxHeartbeats 1000000 in
theorem aix(C:bA)(d:D)(al:SV)(m:List (MK×D))(Q:Ex→List af→Prop):aw Go.Proofs.Try.prog gl C vS (Ms Ay) (fun x e1=>x=.normal ∧aw Go.Proofs.Try.prog gl C vS (Mt Ay) (fun x e2=>Q x (e2.boxes.take 5)) e1) ⟨cS u4 (some 18) (.v (.d d)),KQ al m⟩=(ab (aB (.d d)) fun r0=>(List.length r0)=6∧6≤6∧Ex.normal=Ex.normal∧ab (aj false 1 0 [al]) fun r1=>ab (aj true 6 0 (setAt [(.d (.int .i64 0)),(.d (.str [])),(.d (.bool false)),(.d (.sl .nil 0 [])),(.d (.int .i64 0)),(.d (.int .i64 0))] 0 r0)) fun r2=>ba C 68 [(aa (aa (aa r1))),(aa (aa (aa r2)))] fun r3=>ab (ai (some (false,[.int])) .neq (aa (aa (aa r3))) (.d (.int .i64 0))) fun r4=>au r4 (ab (aj true 2 4 (setAt [(.d (.int .i64 0)),(.d (.str [])),(.d (.bool false)),(.d (.sl .nil 0 [])),(.d (.int .i64 0)),(.d (.int .i64 0))] 0 r0)) fun r5=>ab (aj false 1 1 (setAt [(.d (.int .i64 0)),(.d (.str [])),(.d (.bool false)),(.d (.sl .nil 0 [])),(.d (.int .i64 0)),(.d (.int .i64 0))] 0 r0)) fun r6=>ab (aS [(0,(.v (aa (aa (aa r3))))),(1,(.v (aa (aa r5)))),(2,(.v (aa (aa r6))))]) fun r7=>ab (dz Proofs.Try.prog 30 r7) fun r8=>ab (aB (.d (.sl .nil 0 []))) fun r9=>(List.length r9)=1∧1≤1∧ab (aB (.d r8)) fun bK=>(List.length bK)=4∧4≤4∧((ab (aj true 2 4 (setAt [(.d (.int .i64 0)),(.d (.str [])),(.d (.bool false)),(.d (.sl .nil 0 [])),(.d (.int .i64 0)),(.d (.int .i64 0))] 0 r0)) fun cB=>(ab (aj false 1 1 (setAt [(.d (.int .i64 0)),(.d (.str [])),(.d (.bool false)),(.d (.sl .nil 0 [])),(.d (.int .i64 0)),(.d (.int .i64 0))] 0 r0)) fun cw=>ab (aS [(0,(.v (aa (aa (aa r3))))),(1,(.v (aa (aa cB)))),(2,(.v (aa (aa cw))))]) fun cz=>ab (dz Proofs.Try.prog 30 cz) fun bO=>ab (aB (.d (.sl .nil 0 []))) fun bX=>(List.length bX)=1∧1≤1∧ab (aB (.d bO)) fun bN=>(List.length bN)=4∧4≤4∧(Eq (Env.mk ([(.v .undef),(.v .undef),(.p 0 0),(.p 1 0),(.p 2 0),(.p 4 0),(.p ((List.length [(af.cells [(.d (.sl .nil 0 []))]),(af.cells [(.d (.int .i64 0)),(.d (.int .i64 0)),(.d (.int .i64 0)),(.d (.str []))]),(af.cells [al]),(af.map m),(af.one (.m 3))])+0) 0),(.v (aa r3)),(.v .undef),(.v .undef),(.v .undef),(.v .undef),(.v .undef),(.v .undef),(.v .undef),(.v .undef),(.v .undef),(.v .undef),(.v (.d d)),(.v (aa r1)),(.v (aa r2)),(.v r3),(.v (aa (aa r3))),(.v (.d (.bool true))),(.v (aa (aa r3))),(.p ((List.length [(af.cells [(.d (.sl .nil 0 []))]),(af.cells [(.d (.int .i64 0)),(.d (.int .i64 0)),(.d (.int .i64 0)),(.d (.str []))]),(af.cells [al]),(af.map m),(af.one (.m 3))])+0) 4),(.v (aa cB)),(.p ((List.length [(af.cells [(.d (.sl .nil 0 []))]),(af.cells [(.d (.int .i64 0)),(.d (.int .i64 0)),(.d (.int .i64 0)),(.d (.str []))]),(af.cells [al]),(af.map m),(af.one (.m 3))])+0) 1),(.v (aa cw)),(.v (.d bO))]++List.replicate 75 (.v .undef)) [(af.cells (setAt [(.d (.sl .nil 0 []))] 0 bX)),(af.cells (setAt [(.d (.int .i64 0)),(.d (.int .i64 0)),(.d (.int .i64 0)),(.d (.str []))] 0 bN)),(af.cells [al]),(af.map m),(af.one (.m 3)),(af.cells (setAt [(.d (.int .i64 0)),(.d (.str [])),(.d (.bool false)),(.d (.sl .nil 0 [])),(.d (.int .i64 0)),(.d (.int .i64 0))] 0 r0))]) (Env.mk ([(.v .undef),(.v .undef),(.p 0 0),(.p 1 0),(.p 2 0),(.p 4 0),(.p ((List.length [(af.cells [(.d (.sl .nil 0 []))]),(af.cells [(.d (.int .i64 0)),(.d (.int .i64 0)),(.d (.int .i64 0)),(.d (.str []))]),(af.cells [al]),(af.map m),(af.one (.m 3))])+0) 0),(.v (aa r3)),(.v .undef),(.v .undef),(.v .undef),(.v .undef),(.v .undef),(.v .undef),(.v .undef),(.v .undef),(.v .undef),(.v .undef),(.v (.d d)),(.v (aa r1)),(.v (aa r2)),(.v r3),(.v (aa (aa r3))),(.v (.d (.bool true))),(.v (aa (aa r3))),(.p ((List.length [(af.cells [(.d (.sl .nil 0 []))]),(af.cells [(.d (.int .i64 0)),(.d (.int .i64 0)),(.d (.int .i64 0)),(.d (.str []))]),(af.cells [al]),(af.map m),(af.one (.m 3))])+0) 4),(.v (aa r5)),(.p ((List.length [(af.cells [(.d (.sl .nil 0 []))]),(af.cells [(.d (.int .i64 0)),(.d (.int .i64 0)),(.d (.int .i64 0)),(.d (.str []))]),(af.cells [al]),(af.map m),(af.one (.m 3))])+0) 1),(.v (aa r6)),(.v (.d r8))]++List.replicate 75 (.v .undef)) [(af.cells (setAt [(.d (.sl .nil 0 []))] 0 r9)),(af.cells (setAt [(.d (.int .i64 0)),(.d (.int .i64 0)),(.d (.int .i64 0)),(.d (.str []))] 0 bK)),(af.cells [al]),(af.map m),(af.one (.m 3)),(af.cells (setAt [(.d (.int .i64 0)),(.d (.str [])),(.d (.bool false)),(.d (.sl .nil 0 [])),(.d (.int .i64 0)),(.d (.int .i64 0))] 0 r0))])))∧ab (aB (.d (.sl .nil 0 []))) fun bZ=>(List.length bZ)=1∧1≤1∧ab (aj false 1 1 (setAt [(.d (.int .i64 0)),(.d (.str [])),(.d (.bool false)),(.d (.sl .nil 0 [])),(.d (.int .i64 0)),(.d (.int .i64 0))] 0 r0)) fun bV=>ab (aS [(0,(.v (aa (aa (aa r3))))),(1,(.v (aa (aa cB)))),(2,(.v (aa (aa bV))))]) fun dp=>ab (dz Proofs.Try.prog 30 dp) fun cY=>ab (aB (.d cY)) fun cf=>(List.length cf)=4∧4≤4∧(Eq (Env.mk ([(.v .undef),(.v .undef),(.p 0 0),(.p 1 0),(.p 2 0),(.p 4 0),(.p ((List.length [(af.cells [(.d (.sl .nil 0 []))]),(af.cells [(.d (.int .i64 0)),(.d (.int .i64 0)),(.d (.int .i64 0)),(.d (.str []))]),(af.cells [al]),(af.map m),(af.one (.m 3))])+0) 0),(.v (aa r3)),(.v .undef),(.v .undef),(.v .undef),(.v .undef),(.v .undef),(.v .undef),(.v .undef),(.v .undef),(.v .undef),(.v .undef),(.v (.d d)),(.v (aa r1)),(.v (aa r2)),(.v r3),(.v (aa (aa r3))),(.v (.d (.bool true))),(.v (aa (aa r3))),(.p ((List.length [(af.cells [(.d (.sl .nil 0 []))]),(af.cells [(.d (.int .i64 0)),(.d (.int .i64 0)),(.d (.int .i64 0)),(.d (.str []))]),(af.cells [al]),(af.map m),(af.one (.m 3))])+0) 4),(.v (aa cB)),(.p ((List.length [(af.cells [(.d (.sl .nil 0 []))]),(af.cells [(.d (.int .i64 0)),(.d (.int .i64 0)),(.d (.int .i64 0)),(.d (.str []))]),(af.cells [al]),(af.map m),(af.one (.m 3))])+0) 1),(.v (aa bV)),(.v (.d cY))]++List.replicate 75 (.v .undef)) [(af.cells (setAt [(.d (.sl .nil 0 []))] 0 bZ)),(af.cells (setAt [(.d (.int .i64 0)),(.d (.int .i64 0)),(.d (.int .i64 0)),(.d (.str []))] 0 cf)),(af.cells [al]),(af.map m),(af.one (.m 3)),(af.cells (setAt [(.d (.int .i64 0)),(.d (.str [])),(.d (.bool false)),(.d (.sl .nil 0 [])),(.d (.int .i64 0)),(.d (.int .i64 0))] 0 r0))]) (Env.mk ([(.v .undef),(.v .undef),(.p 0 0),(.p 1 0),(.p 2 0),(.p 4 0),(.p ((List.length [(af.cells [(.d (.sl .nil 0 []))]),(af.cells [(.d (.int .i64 0)),(.d (.int .i64 0)),(.d (.int .i64 0)),(.d (.str []))]),(af.cells [al]),(af.map m),(af.one (.m 3))])+0) 0),(.v (aa r3)),(.v .undef),(.v .undef),(.v .undef),(.v .undef),(.v .undef),(.v .undef),(.v .undef),(.v .undef),(.v .undef),(.v .undef),(.v (.d d)),(.v (aa r1)),(.v (aa r2)),(.v r3),(.v (aa (aa r3))),(.v (.d (.bool true))),(.v (aa (aa r3))),(.p ((List.length [(af.cells [(.d (.sl .nil 0 []))]),(af.cells [(.d (.int .i64 0)),(.d (.int .i64 0)),(.d (.int .i64 0)),(.d (.str []))]),(af.cells [al]),(af.map m),(af.one (.m 3))])+0) 4),(.v (aa r5)),(.p ((List.length [(af.cells [(.d (.sl .nil 0 []))]),(af.cells [(.d (.int .i64 0)),(.d (.int .i64 0)),(.d (.int .i64 0)),(.d (.str []))]),(af.cells [al]),(af.map m),(af.one (.m 3))])+0) 1),(.v (aa r6)),(.v (.d r8))]++List.replicate 75 (.v .undef)) [(af.cells (setAt [(.d (.sl .nil 0 []))] 0 r9)),(af.cells (setAt [(.d (.int .i64 0)),(.d (.int .i64 0)),(.d (.int .i64 0)),(.d (.str []))] 0 bK)),(af.cells [al]),(af.map m),(af.one (.m 3)),(af.cells (setAt [(.d (.int .i64 0)),(.d (.str [])),(.d (.bool false)),(.d (.sl .nil 0 [])),(.d (.int .i64 0)),(.d (.int .i64 0))] 0 r0))])))∧(ab (aj false 1 1 (setAt [(.d (.int .i64 0)),(.d (.str [])),(.d (.bool false)),(.d (.sl .nil 0 [])),(.d (.int .i64 0)),(.d (.int .i64 0))] 0 r0)) fun cg=>(ab (aj true 2 4 (setAt [(.d (.int .i64 0)),(.d (.str [])),(.d (.bool false)),(.d (.sl .nil 0 [])),(.d (.int .i64 0)),(.d (.int .i64 0))] 0 r0)) fun cG=>ab (aS [(0,(.v (aa (aa (aa r3))))),(1,(.v (aa (aa cG)))),(2,(.v (aa (aa cg))))]) fun dh=>ab (dz Proofs.Try.prog 30 dh) fun dj=>ab (aB (.d (.sl .nil 0 []))) fun dL=>(List.length dL)=1∧1≤1∧ab (aB (.d dj)) fun ek=>(List.length ek)=4∧4≤4∧(Eq (Env.mk ([(.v .undef),(.v .undef),(.p 0 0),(.p 1 0),(.p 2 0),(.p 4 0),(.p ((List.length [(af.cells [(.d (.sl .nil 0 []))]),(af.cells [(.d (.int .i64 0)),(.d (.int .i64 0)),(.d (.int .i64 0)),(.d (.str []))]),(af.cells [al]),(af.map m),(af.one (.m 3))])+0) 0),(.v (aa r3)),(.v .undef),(.v .undef),(.v .undef),(.v .undef),(.v .undef),(.v .undef),(.v .undef),(.v .undef),(.v .undef),(.v .undef),(.v (.d d)),(.v (aa r1)),(.v (aa r2)),(.v r3),(.v (aa (aa r3))),(.v (.d (.bool true))),(.v (aa (aa r3))),(.p ((List.length [(af.cells [(.d (.sl .nil 0 []))]),(af.cells [(.d (.int .i64 0)),(.d (.int .i64 0)),(.d (.int .i64 0)),(.d (.str []))]),(af.cells [al]),(af.map m),(af.one (.m 3))])+0) 4),(.v (aa cG)),(.p ((List.length [(af.cells [(.d (.sl .nil 0 []))]),(af.cells [(.d (.int .i64 0)),(.d (.int .i64 0)),(.d (.int .i64 0)),(.d (.str []))]),(af.cells [al]),(af.map m),(af.one (.m 3))])+0) 1),(.v (aa cg)),(.v (.d dj))]++List.replicate 75 (.v .undef)) [(af.cells (setAt [(.d (.sl .nil 0 []))] 0 dL)),(af.cells (setAt [(.d (.int .i64 0)),(.d (.int .i64 0)),(.d (.int .i64 0)),(.d (.str []))] 0 ek)),(af.cells [al]),(af.map m),(af.one (.m 3)),(af.cells (setAt [(.d (.int .i64 0)),(.d (.str [])),(.d (.bool false)),(.d (.sl .nil 0 [])),(.d (.int .i64 0)),(.d (.int .i64 0))] 0 r0))]) (Env.mk ([(.v .undef),(.v .undef),(.p 0 0),(.p 1 0),(.p 2 0),(.p 4 0),(.p ((List.length [(af.cells [(.d (.sl .nil 0 []))]),(af.cells [(.d (.int .i64 0)),(.d (.int .i64 0)),(.d (.int .i64 0)),(.d (.str []))]),(af.cells [al]),(af.map m),(af.one (.m 3))])+0) 0),(.v (aa r3)),(.v .undef),(.v .undef),(.v .undef),(.v .undef),(.v .undef),(.v .undef),(.v .undef),(.v .undef),(.v .undef),(.v .undef),(.v (.d d)),(.v (aa r1)),(.v (aa r2)),(.v r3),(.v (aa (aa r3))),(.v (.d (.bool true))),(.v (aa (aa r3))),(.p ((List.length [(af.cells [(.d (.sl .nil 0 []))]),(af.cells [(.d (.int .i64 0)),(.d (.int .i64 0)),(.d (.int .i64 0)),(.d (.str []))]),(af.cells [al]),(af.map m),(af.one (.m 3))])+0) 4),(.v (aa r5)),(.p ((List.length [(af.cells [(.d (.sl .nil 0 []))]),(af.cells [(.d (.int .i64 0)),(.d (.int .i64 0)),(.d (.int .i64 0)),(.d (.str []))]),(af.cells [al]),(af.map m),(af.one (.m 3))])+0) 1),(.v (aa r6)),(.v (.d r8))]++List.replicate 75 (.v .undef)) [(af.cells (setAt [(.d (.sl .nil 0 []))] 0 r9)),(af.cells (setAt [(.d (.int .i64 0)),(.d (.int .i64 0)),(.d (.int .i64 0)),(.d (.str []))] 0 bK)),(af.cells [al]),(af.map m),(af.one (.m 3)),(af.cells (setAt [(.d (.int .i64 0)),(.d (.str [])),(.d (.bool false)),(.d (.sl .nil 0 [])),(.d (.int .i64 0)),(.d (.int .i64 0))] 0 r0))])))∧ab (aB (.d (.sl .nil 0 []))) fun dB=>(List.length dB)=1∧1≤1∧ab (aj true 2 4 (setAt [(.d (.int .i64 0)),(.d (.str [])),(.d (.bool false)),(.d (.sl .nil 0 [])),(.d (.int .i64 0)),(.d (.int .i64 0))] 0 r0)) fun cZ=>ab (aS [(0,(.v (aa (aa (aa r3))))),(1,(.v (aa (aa cZ)))),(2,(.v (aa (aa cg))))]) fun dt=>ab (dz Proofs.Try.prog 30 dt) fun dO=>ab (aB (.d dO)) fun dV=>(List.length dV)=4∧4≤4∧(Eq (Env.mk ([(.v .undef),(.v .undef),(.p 0 0),(.p 1 0),(.p 2 0),(.p 4 0),(.p ((List.length [(af.cells [(.d (.sl .nil 0 []))]),(af.cells [(.d (.int .i64 0)),(.d (.int .i64 0)),(.d (.int .i64 0)),(.d (.str []))]),(af.cells [al]),(af.map m),(af.one (.m 3))])+0) 0),(.v (aa r3)),(.v .undef),(.v .undef),(.v .undef),(.v .undef),(.v .undef),(.v .undef),(.v .undef),(.v .undef),(.v .undef),(.v .undef),(.v (.d d)),(.v (aa r1)),(.v (aa r2)),(.v r3),(.v (aa (aa r3))),(.v (.d (.bool true))),(.v (aa (aa r3))),(.p ((List.length [(af.cells [(.d (.sl .nil 0 []))]),(af.cells [(.d (.int .i64 0)),(.d (.int .i64 0)),(.d (.int .i64 0)),(.d (.str []))]),(af.cells [al]),(af.map m),(af.one (.m 3))])+0) 4),(.v (aa cZ)),(.p ((List.length [(af.cells [(.d (.sl .nil 0 []))]),(af.cells [(.d (.int .i64 0)),(.d (.int .i64 0)),(.d (.int .i64 0)),(.d (.str []))]),(af.cells [al]),(af.map m),(af.one (.m 3))])+0) 1),(.v (aa cg)),(.v (.d dO))]++List.replicate 75 (.v .undef)) [(af.cells (setAt [(.d (.sl .nil 0 []))] 0 dB)),(af.cells (setAt [(.d (.int .i64 0)),(.d (.int .i64 0)),(.d (.int .i64 0)),(.d (.str []))] 0 dV)),(af.cells [al]),(af.map m),(af.one (.m 3)),(af.cells (setAt [(.d (.int .i64 0)),(.d (.str [])),(.d (.bool false)),(.d (.sl .nil 0 [])),(.d (.int .i64 0)),(.d (.int .i64 0))] 0 r0))]) (Env.mk ([(.v .undef),(.v .undef),(.p 0 0),(.p 1 0),(.p 2 0),(.p 4 0),(.p ((List.length [(af.cells [(.d (.sl .nil 0 []))]),(af.cells [(.d (.int .i64 0)),(.d (.int .i64 0)),(.d (.int .i64 0)),(.d (.str []))]),(af.cells [al]),(af.map m),(af.one (.m 3))])+0) 0),(.v (aa r3)),(.v .undef),(.v .undef),(.v .undef),(.v .undef),(.v .undef),(.v .undef),(.v .undef),(.v .undef),(.v .undef),(.v .undef),(.v (.d d)),(.v (aa r1)),(.v (aa r2)),(.v r3),(.v (aa (aa r3))),(.v (.d (.bool true))),(.v (aa (aa r3))),(.p ((List.length [(af.cells [(.d (.sl .nil 0 []))]),(af.cells [(.d (.int .i64 0)),(.d (.int .i64 0)),(.d (.int .i64 0)),(.d (.str []))]),(af.cells [al]),(af.map m),(af.one (.m 3))])+0) 4),(.v (aa r5)),(.p ((List.length [(af.cells [(.d (.sl .nil 0 []))]),(af.cells [(.d (.int .i64 0)),(.d (.int .i64 0)),(.d (.int .i64 0)),(.d (.str []))]),(af.cells [al]),(af.map m),(af.one (.m 3))])+0) 1),(.v (aa r6)),(.v (.d r8))]++List.replicate 75 (.v .undef)) [(af.cells (setAt [(.d (.sl .nil 0 []))] 0 r9)),(af.cells (setAt [(.d (.int .i64 0)),(.d (.int .i64 0)),(.d (.int .i64 0)),(.d (.str []))] 0 bK)),(af.cells [al]),(af.map m),(af.one (.m 3)),(af.cells (setAt [(.d (.int .i64 0)),(.d (.str [])),(.d (.bool false)),(.d (.sl .nil 0 [])),(.d (.int .i64 0)),(.d (.int .i64 0))] 0 r0))])))∧ab (aB (.d (.sl .nil 0 []))) fun dY=>(List.length dY)=1∧1≤1∧ab (aj true 2 4 (setAt [(.d (.int .i64 0)),(.d (.str [])),(.d (.bool false)),(.d (.sl .nil 0 [])),(.d (.int .i64 0)),(.d (.int .i64 0))] 0 r0)) fun eP=>ab (aj false 1 1 (setAt [(.d (.int .i64 0)),(.d (.str [])),(.d (.bool false)),(.d (.sl .nil 0 [])),(.d (.int .i64 0)),(.d (.int .i64 0))] 0 r0)) fun eG=>ab (aS [(0,(.v (aa (aa (aa r3))))),(1,(.v (aa (aa eP)))),(2,(.v (aa (aa eG))))]) fun fj=>ab (dz Proofs.Try.prog 30 fj) fun fX=>ab (aB (.d fX)) fun fH=>(List.length fH)=4∧4≤4∧(Eq (Env.mk ([(.v .undef),(.v .undef),(.p 0 0),(.p 1 0),(.p 2 0),(.p 4 0),(.p ((List.length [(af.cells [(.d (.sl .nil 0 []))]),(af.cells [(.d (.int .i64 0)),(.d (.int .i64 0)),(.d (.int .i64 0)),(.d (.str []))]),(af.cells [al]),(af.map m),(af.one (.m 3))])+0) 0),(.v (aa r3)),(.v .undef),(.v .undef),(.v .undef),(.v .undef),(.v .undef),(.v .undef),(.v .undef),(.v .undef),(.v .undef),(.v .undef),(.v (.d d)),(.v (aa r1)),(.v (aa r2)),(.v r3),(.v (aa (aa r3))),(.v (.d (.bool true))),(.v (aa (aa r3))),(.p ((List.length [(af.cells [(.d (.sl .nil 0 []))]),(af.cells [(.d (.int .i64 0)),(.d (.int .i64 0)),(.d (.int .i64 0)),(.d (.str []))]),(af.cells [al]),(af.map m),(af.one (.m 3))])+0) 4),(.v (aa eP)),(.p ((List.length [(af.cells [(.d (.sl .nil 0 []))]),(af.cells [(.d (.int .i64 0)),(.d (.int .i64 0)),(.d (.int .i64 0)),(.d (.str []))]),(af.cells [al]),(af.map m),(af.one (.m 3))])+0) 1),(.v (aa eG)),(.v (.d fX))]++List.replicate 75 (.v .undef)) [(af.cells (setAt [(.d (.sl .nil 0 []))] 0 dY)),(af.cells (setAt [(.d (.int .i64 0)),(.d (.int .i64 0)),(.d (.int .i64 0)),(.d (.str []))] 0 fH)),(af.cells [al]),(af.map m),(af.one (.m 3)),(af.cells (setAt [(.d (.int .i64 0)),(.d (.str [])),(.d (.bool false)),(.d (.sl .nil 0 [])),(.d (.int .i64 0)),(.d (.int .i64 0))] 0 r0))]) (Env.mk ([(.v .undef),(.v .undef),(.p 0 0),(.p 1 0),(.p 2 0),(.p 4 0),(.p ((List.length [(af.cells [(.d (.sl .nil 0 []))]),(af.cells [(.d (.int .i64 0)),(.d (.int .i64 0)),(.d (.int .i64 0)),(.d (.str []))]),(af.cells [al]),(af.map m),(af.one (.m 3))])+0) 0),(.v (aa r3)),(.v .undef),(.v .undef),(.v .undef),(.v .undef),(.v .undef),(.v .undef),(.v .undef),(.v .undef),(.v .undef),(.v .undef),(.v (.d d)),(.v (aa r1)),(.v (aa r2)),(.v r3),(.v (aa (aa r3))),(.v (.d (.bool true))),(.v (aa (aa r3))),(.p ((List.length [(af.cells [(.d (.sl .nil 0 []))]),(af.cells [(.d (.int .i64 0)),(.d (.int .i64 0)),(.d (.int .i64 0)),(.d (.str []))]),(af.cells [al]),(af.map m),(af.one (.m 3))])+0) 4),(.v (aa r5)),(.p ((List.length [(af.cells [(.d (.sl .nil 0 []))]),(af.cells [(.d (.int .i64 0)),(.d (.int .i64 0)),(.d (.int .i64 0)),(.d (.str []))]),(af.cells [al]),(af.map m),(af.one (.m 3))])+0) 1),(.v (aa r6)),(.v (.d r8))]++List.replicate 75 (.v .undef)) [(af.cells (setAt [(.d (.sl .nil 0 []))] 0 r9)),(af.cells (setAt [(.d (.int .i64 0)),(.d (.int .i64 0)),(.d (.int .i64 0)),(.d (.str []))] 0 bK)),(af.cells [al]),(af.map m),(af.one (.m 3)),(af.cells (setAt [(.d (.int .i64 0)),(.d (.str [])),(.d (.bool false)),(.d (.sl .nil 0 [])),(.d (.int .i64 0)),(.d (.int .i64 0))] 0 r0))])))∧(Q Ex.ret [(af.cells (setAt [(.d (.sl .nil 0 []))] 0 r9)),(af.cells (setAt [(.d (.int .i64 0)),(.d (.int .i64 0)),(.d (.int .i64 0)),(.d (.str []))] 0 bK)),(af.cells [al]),(af.map m),(af.one (.m 3))])) (ab (aj true 6 0 (setAt [(.d (.int .i64 0)),(.d (.str [])),(.d (.bool false)),(.d (.sl .nil 0 [])),(.d (.int .i64 0)),(.d (.int .i64 0))] 0 r0)) fun fo=>ab (aS [(0,(.v (aa (aa fo))))]) fun gY=>(bu 6 1 gY)=true∧bR 6 72 al (.full 6 (bz (bE true [(.int .i64 0),(.str []),(.bool false),(.sl .nil 0 []),(.int .i64 0),(.int .i64 0)]) gY 1 0)) fun gf=>ab (aB gf) fun gx=>(List.length gx)=1∧0<(List.length [(aa al)])∧ab (aj false 1 2 (setAt [(.d (.int .i64 0)),(.d (.str [])),(.d (.bool false)),(.d (.sl .nil 0 [])),(.d (.int .i64 0)),(.d (.int .i64 0))] 0 r0)) fun fY=>ab (fg .not (aa (aa fY))) fun fB=>au fB (ab (aj false 1 0 (setAt [(.d (.int .i64 0)),(.d (.str [])),(.d (.bool false)),(.d (.sl .nil 0 [])),(.d (.int .i64 0)),(.d (.int .i64 0))] 0 r0)) fun gi=>ab (aj false 1 1 (setAt [(.d (.int .i64 0)),(.d (.str [])),(.d (.bool false)),(.d (.sl .nil 0 [])),(.d (.int .i64 0)),(.d (.int .i64 0))] 0 r0)) fun fC=>ab (aS [(0,(.v (aa (aa gi)))),(1,(.v (aa (aa fC))))]) fun gy=>ab (dz Proofs.Try.prog 126 gy) fun ik=>ab (nz (some [.int,.str]) (.d ik)) fun gD=>ab (dA (.d (.bool true))) fun im=>ab (qW m gD im) fun iq=>(Q Ex.normal [(af.cells [(.d (.sl .nil 0 []))]),(af.cells [(.d (.int .i64 0)),(.d (.int .i64 0)),(.d (.int .i64 0)),(.d (.str []))]),(af.cells (setAt [(aa al)] 0 gx)),(af.map iq),(af.one (.m 3))])) ((Q Ex.normal [(af.cells [(.d (.sl .nil 0 []))]),(af.cells [(.d (.int .i64 0)),(.d (.int .i64 0)),(.d (.int .i64 0)),(.d (.str []))]),(af.cells (setAt [(aa al)] 0 gx)),(af.map m),(af.one (.m 3))])))):=by kernel_rfl
set_option maxHeartbeats 1000000 in
theorem aiy(C:bA)(al:SV)(m:List (MK×D))(K:SV→Prop):mC Go.Proofs.Try.prog gl C vS ((gQ za).drop 5) (Ej Go.Proofs.Try.prog Go.Proofs.Try.f50 K) ⟨u4,KQ al m⟩=(ab (oo (.d (.sl .nil 0 []))) fun r0=>ab (aj false 1 0 [al]) fun r1=>ab (bm (aa (aa r1))) fun r2=>bT (fun bD cR I5=>ab (ai none .lss (aa (ae bD 3)) (aa (ae bD 2))) fun r6=>au r6 (ab (aL 6 (aa (ae bD 1)) (aa (ae bD 3))) fun r7=>ab (aI true 6 (aa r7)) fun r8=>ab (aB (aa r8)) fun r9=>(List.length r9)=6∧6≤6∧ab (aj false 1 0 (setAt [(.d (.int .i64 0)),(.d (.str [])),(.d (.bool false)),(.d (.sl .nil 0 [])),(.d (.int .i64 0)),(.d (.int .i64 0))] 0 r9)) fun bK=>ab (aj false 1 1 (setAt [(.d (.int .i64 0)),(.d (.str [])),(.d (.bool false)),(.d (.sl .nil 0 [])),(.d (.int .i64 0)),(.d (.int .i64 0))] 0 r9)) fun cB=>ab (aS [(0,(.v (aa (aa bK)))),(1,(.v (aa (aa cB))))]) fun cw=>ab (dz Proofs.Try.prog 126 cw) fun cz=>ab (aB (.d cz)) fun bO=>(List.length bO)=2∧2≤2∧ab (aj false 1 2 (setAt [(.d (.int .i64 0)),(.d (.str [])),(.d (.bool false)),(.d (.sl .nil 0 [])),(.d (.int .i64 0)),(.d (.int .i64 0))] 0 r9)) fun bX=>au (aa (aa bX)) (ab (aj false 1 0 (an cR 4)) fun bN=>ab (aj true 2 0 (setAt [(.d (.int .i64 0)),(.d (.str []))] 0 bO)) fun bZ=>ab (u1 (some [.int,.str]) (.bool false) (aa (aa bN)) (aa (aa bZ))) fun bV=>au (.d bV.1) (ab (ai none .add (aa (ae bD 3)) (.d (.int .i64 1))) fun dp=>(I5 [(ae bD 0),(ae bD 1),(ae bD 2),(aa dp)] [(af.ax (af.cells (an cR 0))),(af.ax (af.cells (an cR 1))),(af.ax (af.cells (an cR 2))),[.undef],(af.ax (af.cells (an cR 4))),[(.mp (mapOf (an cR 5)))]])) (ab (aj false 1 0 (setAt [(.d (.int .i64 0)),(.d (.str [])),(.d (.bool false)),(.d (.sl .nil 0 [])),(.d (.int .i64 0)),(.d (.int .i64 0))] 0 r9)) fun cY=>ab (aj false 1 1 (setAt [(.d (.int .i64 0)),(.d (.str [])),(.d (.bool false)),(.d (.sl .nil 0 [])),(.d (.int .i64 0)),(.d (.int .i64 0))] 0 r9)) fun cf=>ba C 69 [(aa (aa (aa cY))),(aa (aa (aa cf)))] fun cg=>au (aa (aa cg)) (ab (ai none .add (aa (ae bD 3)) (.d (.int .i64 1))) fun cG=>(I5 [(ae bD 0),(ae bD 1),(ae bD 2),(aa cG)] [(af.ax (af.cells (an cR 0))),(af.ax (af.cells (an cR 1))),(af.ax (af.cells (an cR 2))),[.undef],(af.ax (af.cells (an cR 4))),[(.mp (mapOf (an cR 5)))]])) (ab (aj true 2 0 (setAt [(.d (.int .i64 0)),(.d (.str []))] 0 bO)) fun dh=>ab (u1 (some [.int,.str]) (.int .i64 0) (.mp (mapOf (an cR 5))) (aa (aa dh))) fun dj=>au (.d (.bool (Prod.snd dj))) (ab (aj false 1 2 (setAt [(.d (.int .i64 0)),(.d (.str [])),(.d (.bool false)),(.d (.sl .nil 0 [])),(.d (.int .i64 0)),(.d (.int .i64 0))] 0 r9)) fun dL=>au (aa (aa dL)) (gI (ae bD 0) 6 (fun Fa=>ab (cN (.d dj.1) (List.length Fa)) fun dB=>ab (aj false 1 ((dB*6)+3) (bc Fa)) fun cZ=>ba C 71 [(aa (aa (aa cZ)))] fun dt=>ab (aj false 1 3 (setAt [(.d (.int .i64 0)),(.d (.str [])),(.d (.bool false)),(.d (.sl .nil 0 [])),(.d (.int .i64 0)),(.d (.int .i64 0))] 0 r9)) fun dO=>bR 1 16 dt (aa (aa dO)) fun dV=>ba C 70 [(aa (aa dV))] fun dY=>ab (cN (.d dj.1) (List.length Fa)) fun eP=>ab (aB (aa dY)) fun eG=>(List.length eG)=1∧(((eP*6)+3)+1)≤(List.length (bc Fa))∧ab (dK (setAt (bc Fa) ((eP*6)+3) eG)) fun fj=>ab (eR true 6 (List.length Fa) fj) fun fX=>ab (ai none .add (aa (ae bD 3)) (.d (.int .i64 1))) fun fH=>(I5 [(.aZ 6 fX),(ae bD 1),(ae bD 2),(aa fH)] [(af.ax (af.cells (an cR 0))),(af.ax (af.cells (an cR 1))),(af.ax (af.cells (an cR 2))),[.undef],(af.ax (af.cells (an cR 4))),[(.mp (mapOf (an cR 5)))]])) (ab (aL 6 (aa (aa (ae bD 0))) (.d dj.1)) fun fo=>ab (bP (aa fo) 3) fun gY=>ab (aI false 1 (aa gY)) fun gf=>ba C 71 [(aa (aa gf))] fun gx=>ab (aj false 1 3 (setAt [(.d (.int .i64 0)),(.d (.str [])),(.d (.bool false)),(.d (.sl .nil 0 [])),(.d (.int .i64 0)),(.d (.int .i64 0))] 0 r9)) fun fY=>bR 1 16 gx (aa (aa fY)) fun fB=>ba C 70 [(aa (aa fB))] fun gi=>ab (aL 6 (aa (aa (ae bD 0))) (.d dj.1)) fun fC=>ab (bP (aa fC) 3) fun gy=>False)) (gI (ae bD 0) 6 (fun Sy=>ab (aj true 2 0 (setAt [(.d (.int .i64 0)),(.d (.str []))] 0 bO)) fun gD=>ab (nz (some [.int,.str]) (aa (aa gD))) fun im=>ab (dA (.d (.int .i64 (Nat.cast (List.length Sy))))) fun iq=>ab (qW (mapOf (an cR 5)) im iq) fun ir=>ab (dK (bc Sy)) fun iT=>ab (eR true 6 (List.length Sy) iT) fun iK=>ab (aj true 6 0 (setAt [(.d (.int .i64 0)),(.d (.str [])),(.d (.bool false)),(.d (.sl .nil 0 [])),(.d (.int .i64 0)),(.d (.int .i64 0))] 0 r9)) fun iL=>ab (aS [(0,(.v (aa (aa iL))))]) fun jJ=>(bu 6 1 jJ)=true∧bR 6 72 (.aZ 6 iK) (.full 6 (bz (bE true [(.int .i64 0),(.str []),(.bool false),(.sl .nil 0 []),(.int .i64 0),(.int .i64 0)]) jJ 1 0)) fun jK=>ab (ai none .add (aa (ae bD 3)) (.d (.int .i64 1))) fun lB=>(I5 [jK,(ae bD 1),(ae bD 2),(aa lB)] [(af.ax (af.cells (an cR 0))),(af.ax (af.cells (an cR 1))),(af.ax (af.cells (an cR 2))),[.undef],(af.ax (af.cells (an cR 4))),[(.mp ir)]])) (ab (aj true 2 0 (setAt [(.d (.int .i64 0)),(.d (.str []))] 0 bO)) fun kN=>ab (bm (aa (aa (ae bD 0)))) fun kO=>ab (nz (some [.int,.str]) (aa (aa kN))) fun kP=>ab (dA (aa kO)) fun nP=>ab (qW (mapOf (an cR 5)) kP nP) fun nQ=>ab (aj true 6 0 (setAt [(.d (.int .i64 0)),(.d (.str [])),(.d (.bool false)),(.d (.sl .nil 0 [])),(.d (.int .i64 0)),(.d (.int .i64 0))] 0 r9)) fun mD=>ab (aS [(0,(.v (aa (aa mD))))]) fun lU=>(bu 6 1 lU)=true∧bR 6 72 (ae bD 0) (.full 6 (bz (bE true [(.int .i64 0),(.str []),(.bool false),(.sl .nil 0 []),(.int .i64 0),(.int .i64 0)]) lU 1 0)) fun mE=>ab (ai none .add (aa (ae bD 3)) (.d (.int .i64 1))) fun nR=>(I5 [mE,(ae bD 1),(ae bD 2),(aa nR)] [(af.ax (af.cells (an cR 0))),(af.ax (af.cells (an cR 1))),(af.ax (af.cells (an cR 2))),[.undef],(af.ax (af.cells (an cR 4))),[(.mp nQ)]])))) (gI (ae bD 0) 6 (fun Sz=>ab (aj true 2 0 (setAt [(.d (.int .i64 0)),(.d (.str []))] 0 bO)) fun nS=>ab (nz (some [.int,.str]) (aa (aa nS))) fun mY=>ab (dA (.d (.int .i64 (Nat.cast (List.length Sz))))) fun oN=>ab (qW (mapOf (an cR 5)) mY oN) fun oO=>ab (dK (bc Sz)) fun vK=>ab (eR true 6 (List.length Sz) vK) fun xO=>ab (aj true 6 0 (setAt [(.d (.int .i64 0)),(.d (.str [])),(.d (.bool false)),(.d (.sl .nil 0 [])),(.d (.int .i64 0)),(.d (.int .i64 0))] 0 r9)) fun qt=>ab (aS [(0,(.v (aa (aa qt))))]) fun po=>(bu 6 1 po)=true∧bR 6 72 (.aZ 6 xO) (.full 6 (bz (bE true [(.int .i64 0),(.str []),(.bool false),(.sl .nil 0 []),(.int .i64 0),(.int .i64 0)]) po 1 0)) fun lV=>ab (ai none .add (aa (ae bD 3)) (.d (.int .i64 1))) fun uq=>(I5 [lV,(ae bD 1),(ae bD 2),(aa uq)] [(af.ax (af.cells (an cR 0))),(af.ax (af.cells (an cR 1))),(af.ax (af.cells (an cR 2))),[.undef],(af.ax (af.cells (an cR 4))),[(.mp oO)]])) (ab (aj true 2 0 (setAt [(.d (.int .i64 0)),(.d (.str []))] 0 bO)) fun ur=>ab (bm (aa (aa (ae bD 0)))) fun vM=>ab (nz (some [.int,.str]) (aa (aa ur))) fun uv=>ab (dA (aa vM)) fun tg=>ab (qW (mapOf (an cR 5)) uv tg) fun rL=>ab (aj true 6 0 (setAt [(.d (.int .i64 0)),(.d (.str [])),(.d (.bool false)),(.d (.sl .nil 0 [])),(.d (.int .i64 0)),(.d (.int .i64 0))] 0 r9)) fun ti=>ab (aS [(0,(.v (aa (aa ti))))]) fun tj=>(bu 6 1 tj)=true∧bR 6 72 (ae bD 0) (.full 6 (bz (bE true [(.int .i64 0),(.str []),(.bool false),(.sl .nil 0 []),(.int .i64 0),(.int .i64 0)]) tj 1 0)) fun uw=>ab (ai none .add (aa (ae bD 3)) (.d (.int .i64 1))) fun vN=>(I5 [uw,(ae bD 1),(ae bD 2),(aa vN)] [(af.ax (af.cells (an cR 0))),(af.ax (af.cells (an cR 1))),(af.ax (af.cells (an cR 2))),[.undef],(af.ax (af.cells (an cR 4))),[(.mp rL)]])))))) (ab (aj true 2 0 (setAt [(.d (.int .i64 0)),(.d (.str []))] 0 bO)) fun xQ=>ab (u1 (some [.int,.str]) (.int .i64 0) (.mp (mapOf (an cR 5))) (aa (aa xQ))) fun nT=>au (.d (.bool (Prod.snd nT))) (ab (aj false 1 2 (setAt [(.d (.int .i64 0)),(.d (.str [])),(.d (.bool false)),(.d (.sl .nil 0 [])),(.d (.int .i64 0)),(.d (.int .i64 0))] 0 r9)) fun tk=>au (aa (aa tk)) (gI (ae bD 0) 6 (fun Fb=>ab (cN (.d nT.1) (List.length Fb)) fun vO=>ab (aj false 1 ((vO*6)+3) (bc Fb)) fun vP=>ba C 71 [(aa (aa (aa vP)))] fun vQ=>ab (aj false 1 3 (setAt [(.d (.int .i64 0)),(.d (.str [])),(.d (.bool false)),(.d (.sl .nil 0 [])),(.d (.int .i64 0)),(.d (.int .i64 0))] 0 r9)) fun uy=>bR 1 16 vQ (aa (aa uy)) fun xP=>ba C 70 [(aa (aa xP))] fun uz=>ab (cN (.d nT.1) (List.length Fb)) fun vR=>ab (aB (aa uz)) fun zK=>(List.length zK)=1∧(((vR*6)+3)+1)≤(List.length (bc Fb))∧ab (dK (setAt (bc Fb) ((vR*6)+3) zK)) fun Cn=>ab (eR true 6 (List.length Fb) Cn) fun xn=>ab (ai none .add (aa (ae bD 3)) (.d (.int .i64 1))) fun xo=>(I5 [(.aZ 6 xn),(ae bD 1),(ae bD 2),(aa xo)] [(af.ax (af.cells (an cR 0))),(af.ax (af.cells (an cR 1))),(af.ax (af.cells (an cR 2))),[.undef],(af.ax (af.cells (an cR 4))),[(.mp (mapOf (an cR 5)))]])) (ab (aL 6 (aa (aa (ae bD 0))) (.d nT.1)) fun xp=>ab (bP (aa xp) 3) fun xq=>ab (aI false 1 (aa xq)) fun y5=>ba C 71 [(aa (aa y5))] fun xr=>ab (aj false 1 3 (setAt [(.d (.int .i64 0)),(.d (.str [])),(.d (.bool false)),(.d (.sl .nil 0 [])),(.d (.int .i64 0)),(.d (.int .i64 0))] 0 r9)) fun xt=>bR 1 16 xr (aa (aa xt)) fun ve=>ba C 70 [(aa (aa ve))] fun AK=>ab (aL 6 (aa (aa (ae bD 0))) (.d nT.1)) fun y6=>ab (bP (aa y6) 3) fun AL=>False)) (gI (ae bD 0) 6 (fun QO=>ab (aj true 2 0 (setAt [(.d (.int .i64 0)),(.d (.str []))] 0 bO)) fun AN=>ab (nz (some [.int,.str]) (aa (aa AN))) fun AO=>ab (dA (.d (.int .i64 (Nat.cast (List.length QO))))) fun xu=>ab (qW (mapOf (an cR 5)) AO xu) fun y7=>ab (dK (bc QO)) fun xv=>ab (eR true 6 (List.length QO) xv) fun y8=>ab (aj true 6 0 (setAt [(.d (.int .i64 0)),(.d (.str [])),(.d (.bool false)),(.d (.sl .nil 0 [])),(.d (.int .i64 0)),(.d (.int .i64 0))] 0 r9)) fun AM=>ab (aS [(0,(.v (aa (aa AM))))]) fun sM=>(bu 6 1 sM)=true∧bR 6 72 (.aZ 6 y8) (.full 6 (bz (bE true [(.int .i64 0),(.str []),(.bool false),(.sl .nil 0 []),(.int .i64 0),(.int .i64 0)]) sM 1 0)) fun y9=>ab (ai none .add (aa (ae bD 3)) (.d (.int .i64 1))) fun Hm=>(I5 [y9,(ae bD 1),(ae bD 2),(aa Hm)] [(af.ax (af.cells (an cR 0))),(af.ax (af.cells (an cR 1))),(af.ax (af.cells (an cR 2))),[.undef],(af.ax (af.cells (an cR 4))),[(.mp y7)]])) (ab (aj true 2 0 (setAt [(.d (.int .i64 0)),(.d (.str []))] 0 bO)) fun Ep=>ab (bm (aa (aa (ae bD 0)))) fun Hn=>ab (nz (some [.int,.str]) (aa (aa Ep))) fun Ho=>ab (dA (aa Hn)) fun Hp=>ab (qW (mapOf (an cR 5)) Ho Hp) fun Hq=>ab (aj true 6 0 (setAt [(.d (.int .i64 0)),(.d (.str [])),(.d (.bool false)),(.d (.sl .nil 0 [])),(.d (.int .i64 0)),(.d (.int .i64 0))] 0 r9)) fun Hr=>ab (aS [(0,(.v (aa (aa Hr))))]) fun Er=>(bu 6 1 Er)=true∧bR 6 72 (ae bD 0) (.full 6 (bz (bE true [(.int .i64 0),(.str []),(.bool false),(.sl .nil 0 []),(.int .i64 0),(.int .i64 0)]) Er 1 0)) fun Es=>ab (ai none .add (aa (ae bD 3)) (.d (.int .i64 1))) fun Et=>(I5 [Es,(ae bD 1),(ae bD 2),(aa Et)] [(af.ax (af.cells (an cR 0))),(af.ax (af.cells (an cR 1))),(af.ax (af.cells (an cR 2))),[.undef],(af.ax (af.cells (an cR 4))),[(.mp Hq)]])))) (gI (ae bD 0) 6 (fun QP=>ab (aj true 2 0 (setAt [(.d (.int .i64 0)),(.d (.str []))] 0 bO)) fun Eu=>ab (nz (some [.int,.str]) (aa (aa Eu))) fun QQ=>ab (dA (.d (.int .i64 (Nat.cast (List.length QP))))) fun QR=>ab (qW (mapOf (an cR 5)) QQ QR) fun QS=>ab (dK (bc QP)) fun Ll=>ab (eR true 6 (List.length QP) Ll) fun Ln=>ab (aj true 6 0 (setAt [(.d (.int .i64 0)),(.d (.str [])),(.d (.bool false)),(.d (.sl .nil 0 [])),(.d (.int .i64 0)),(.d (.int .i64 0))] 0 r9)) fun QT=>ab (aS [(0,(.v (aa (aa QT))))]) fun Lo=>(bu 6 1 Lo)=true∧bR 6 72 (.aZ 6 Ln) (.full 6 (bz (bE true [(.int .i64 0),(.str []),(.bool false),(.sl .nil 0 []),(.int .i64 0),(.int .i64 0)]) Lo 1 0)) fun QU=>ab (ai none .add (aa (ae bD 3)) (.d (.int .i64 1))) fun QV=>(I5 [QU,(ae bD 1),(ae bD 2),(aa QV)] [(af.ax (af.cells (an cR 0))),(af.ax (af.cells (an cR 1))),(af.ax (af.cells (an cR 2))),[.undef],(af.ax (af.cells (an cR 4))),[(.mp QS)]])) (ab (aj true 2 0 (setAt [(.d (.int .i64 0)),(.d (.str []))] 0 bO)) fun ale=>ab (bm (aa (aa (ae bD 0)))) fun alf=>ab (nz (some [.int,.str]) (aa (aa ale))) fun alg=>ab (dA (aa alf)) fun QW=>ab (qW (mapOf (an cR 5)) alg QW) fun QX=>ab (aj true 6 0 (setAt [(.d (.int .i64 0)),(.d (.str [])),(.d (.bool false)),(.d (.sl .nil 0 [])),(.d (.int .i64 0)),(.d (.int .i64 0))] 0 r9)) fun alh=>ab (aS [(0,(.v (aa (aa alh))))]) fun ZD=>(bu 6 1 ZD)=true∧bR 6 72 (ae bD 0) (.full 6 (bz (bE true [(.int .i64 0),(.str []),(.bool false),(.sl .nil 0 []),(.int .i64 0),(.int .i64 0)]) ZD 1 0)) fun ali=>ab (ai none .add (aa (ae bD 3)) (.d (.int .i64 1))) fun QY=>(I5 [ali,(ae bD 1),(ae bD 2),(aa QY)] [(af.ax (af.cells (an cR 0))),(af.ax (af.cells (an cR 1))),(af.ax (af.cells (an cR 2))),[.undef],(af.ax (af.cells (an cR 4))),[(.mp QX)]]))))) (ab (om (ae bD 0)) fun QZ=>ab (aS []) fun Q0=>ab (dz Proofs.Try.prog 30 Q0) fun Lp=>ab (aB (aa (aa QZ))) fun Lq=>(List.length Lq)=1∧1≤(List.length (an cR 0))∧ab (aB (.d Lp)) fun Lr=>(List.length Lr)=4∧4≤(List.length (an cR 1))∧ab (aj false 1 0 (setAt (an cR 0) 0 Lq)) fun Lu=>(SV.aD (aa Lu))=true∧ab (aj true 4 0 (setAt (an cR 1) 0 Lr)) fun Lv=>(SV.aD (aa Lv))=true∧(K (.aJ [(aa Lu),(aa Lv)])))) [r0,(aa r1),r2,(.d (.int .i64 0))] [[(.d (.sl .nil 0 []))],[(.d (.int .i64 0)),(.d (.int .i64 0)),(.d (.int .i64 0)),(.d (.str []))],[al],[.undef],[(.mp m)],[(.mp [])]]):=by kernel_rfl
end Go.Proofs.Ytimbllcalipehaa.Ab
namespace Go.Proofs.Ytimbllcalipehaa.Ab
open Go
set_option linter.unusedVariables false
def oC(s:aq):MK:=.s [.int .i64 s.kind,.str s.name]
def hZ(y s:aq):Bool:=y.kind==s.kind&&y.name==s.name
theorem JO(y s:aq):oC y=oC s↔hZ y s=true:=by
 simp[oC,hZ]
def DR(m:List (MK×D)):Prop:=∀x∈m,∃k n,x.1=MK.s [.int .i64 k,.str n]
theorem No{m:List (MK×D)}(h:DR m)(s:aq):wJ m (oC s)=true:=by
 unfold wJ
 rw[List.all_eq_true]
 intro x hx
 obtain⟨k,n,hk⟩:=h x hx
 rw[hk]
 rfl
theorem NF:∀(m:List (MK×D))(n k:MK)(d:D),nt (nA m n d) k=if k=n then some d else nt m k
 |[],n,k,d=>by by_cases h:k=n<;>simp[nA,nt,h]
 |x::m,n,k,d=>by
  rw[nA]
  by_cases h:n=x.1
  ·rw[if_pos h,nt,nt]
   by_cases hk:k=n
   ·simp[hk]
   ·rw[if_neg hk,if_neg hk,if_neg (by rw[←h];exact hk)]
  ·rw[if_neg h,nt,nt,NF m n k d]
   by_cases hk:k=n
   ·rw[if_pos hk,if_neg (by rw[hk];exact h)]
    simp[hk]
   ·simp[hk]
theorem UU{m:List (MK×D)}(h:DR m)(s:aq)(d:D):DR (nA m (oC s) d):=by
 induction m with
 |nil=>intro x hx;rw[nA,List.mem_singleton]at hx;subst hx;exact⟨_,_,rfl⟩
 |cons y m ih=>
  intro x hx
  rw[nA]at hx
  split at hx
  ·rcases List.mem_cons.1 hx with rfl|hx
   ·exact⟨_,_,rfl⟩
   ·exact h x (by simp[hx])
  ·rcases List.mem_cons.1 hx with rfl|hx
   ·exact h _ (by simp)
   ·exact ih (fun z hz=>h z (by simp[hz])) x hx
def ld(l:List aq)(s:aq):Bool:=l.any fun y=> !y.cJ&&hZ y s
def tX(m:List (MK×D))(l:List aq):Prop:=DR m∧∀s,nt m (oC s)=if ld l s then some (.bool true)else none
theorem tX.nil:tX [] []:=⟨fun x h=>by simp at h,fun s=>rfl⟩
theorem tX.cJ{m:List (MK×D)}{l:List aq}(h:tX m l){s:aq}(hs:s.cJ=true):tX m (l++[s]):=by
 refine⟨h.1,fun t=>?_⟩
 rw[h.2 t]
 simp[ld,hs]
theorem tX.dec{m:List (MK×D)}{l:List aq}(h:tX m l){s:aq}(hs:s.cJ=false):tX (nA m (oC s) (.bool true)) (l++[s]):=by
 refine⟨UU h.1 s _,fun t=>?_⟩
 rw[NF,h.2 t]
 by_cases hk:oC t=oC s
 ·have:hZ s t=true:=(JO s t).1 hk.symm
  simp[hk,ld,hs,this]
 ·have:hZ s t=false:=by
   cases hc:hZ s t with
   |false=>rfl
   |true=>exact absurd ((JO s t).2 hc).symm hk
  simp[hk,ld,this]
theorem aeJ{m:List (MK×D)}{l:List aq}(h:tX m l)(s:aq):u1 (some [.int,.str]) (.bool false) (.mp m) (.d (.agg [.int .i64 s.kind,.str s.name]))=some (.bool (ld l s),ld l s):=by
 have h1:nz (some [.int,.str]) (.d (.agg [.int .i64 s.kind,.str s.name]))=some (oC s):=rfl
 simp only[u1,h1,No h.1 s,cond_true,h.2 s]
 cases ld l s<;>rfl
def jh(s:aq):List aq→Option Nat
 |[]=>none
 |y::l=>match jh s l with|some j=>some (j+1)|none=>if hZ y s then some 0 else none
theorem UW(s y:aq):∀(l:List aq),jh s (l++[y])=if hZ y s then some l.length else jh s l
 |[]=>by simp[jh]
 |z::l=>by
  rw[List.cons_append,jh,UW s y l]
  by_cases h:hZ y s=true
  ·simp[h]
  ·simp[h,jh]
theorem JP{s:aq}:∀{l:List aq}{j:Nat},jh s l=some j→∃y,l[j]? =some y∧hZ y s=true
 |[],j,h=>by simp[jh]at h
 |z::l,j,h=>by
  rw[jh]at h
  split at h
  ·rename_i k hk
   cases h
   obtain⟨y,h1,h2⟩:=JP hk
   exact⟨y,by simpa using h1,h2⟩
  ·split at h
   ·rename_i hz;cases h;exact⟨z,by simp,hz⟩
   ·cases h
theorem VC(s:aq):∀(l:List aq)(j:Nat)(y y':aq),l[j]? =some y→y'.kind=y.kind→y'.name=y.name→jh s (l.set j y')=jh s l
 |[],j,y,y',h,_,_=>by simp at h
 |z::l,0,y,y',h,h1,h2=>by
  simp at h;subst h
  have:hZ y' s=hZ z s:=by simp[hZ,h1,h2]
  simp only[List.set_cons_zero,jh,this]
 |z::l,j+1,y,y',h,h1,h2=>by
  simp only[List.set_cons_succ,jh,VC s l j y y' (by simpa using h) h1 h2]
def vT(m:List (MK×D))(out:List aq):Prop:=DR m∧∀s,nt m (oC s)=(jh s out).map fun(j:Nat)=>D.int .i64 (j:Int)
theorem vT.nil:vT [] []:=⟨fun x h=>by simp at h,fun s=>rfl⟩
theorem vT.snoc{m:List (MK×D)}{out:List aq}(h:vT m out)(s:aq):vT (nA m (oC s) (.int .i64 (out.length:Int))) (out++[s]):=by
 refine⟨UU h.1 s _,fun t=>?_⟩
 rw[NF,h.2 t,UW]
 by_cases hk:oC t=oC s
 ·have:hZ s t=true:=(JO s t).1 hk.symm
  simp[hk,this]
 ·have:¬hZ s t=true:=fun hc=>hk ((JO s t).2 hc).symm
  simp[hk,this]
theorem vT.set{m:List (MK×D)}{out:List aq}(h:vT m out){j:Nat}{y y':aq}(hj:out[j]? =some y)(h1:y'.kind=y.kind)(h2:y'.name=y.name):vT m (out.set j y'):=
 ⟨h.1,fun t=>by rw[h.2 t,VC t out j y y' hj h1 h2]⟩
theorem agi{m:List (MK×D)}{out:List aq}(h:vT m out)(s:aq):u1 (some [.int,.str]) (.int .i64 0) (.mp m) (.d (.agg [.int .i64 s.kind,.str s.name]))=some (match jh s out with|some j=>(D.int .i64 (j:Int),true)|none=>(.int .i64 0,false)):=by
 have h1:nz (some [.int,.str]) (.d (.agg [.int .i64 s.kind,.str s.name]))=some (oC s):=rfl
 simp only[u1,h1,No h.1 s,cond_true,h.2 s]
 cases jh s out<;>rfl
def An(y:aq)(s:aq):aq:={y with perms:=dedup (y.perms++s.perms)}
def sa(all out:List aq)(s:aq):List aq:=
 if s.cJ&&(ld all s||vf s.kind s.name)then out else
 match jh s out with
 |some j=>if s.cJ then(match out[j]? with|some y=>out.set j (An y s)|none=>out)else out++[s]
 |none=>out++[s]
def jf(all:List aq)(l:List aq):List aq:=l.foldl (sa all) []
theorem Ja{all l:List aq}{i:Nat}{s:aq}(h:l[i]? =some s):jf all (l.take (i+1))=sa all (jf all (l.take i)) s:=by
 rw[dX h,jf,jf,List.foldl_append];rfl
def db(l:List aq):Nat:=(l.map fun s=>s.perms.length).sum
theorem Br{l:List aq}{i:Nat}{s:aq}(h:l[i]? =some s):db (l.take (i+1))=db (l.take i)+s.perms.length:=by
 rw[dX h];simp[db]
theorem Dl(l:List aq)(i:Nat):db (l.take i)≤db l:=by
 have h:db (l.take i++l.drop i)=db (l.take i)+db (l.drop i):=by
  unfold db
  rw[List.map_append,List.sum_append]
 rw[List.take_append_drop]at h
 omega
theorem NG(l:List (List UInt8)):(dedup l).length ≤l.length:=by
 have:=NY l []
 simpa[dedup]using this
theorem abo(all out:List aq)(s:aq):(sa all out s).length ≤out.length+1:=by
 unfold sa
 repeat' split
 all_goals simp
theorem NH(all l:List aq)(i:Nat):(jf all (l.take i)).length ≤i:=by
 induction i with
 |zero=>simp[jf]
 |succ i ih=>
  cases h:l[i]? with
  |none=>
   rw[List.take_of_length_le (by have:=List.getElem?_eq_none_iff.1 h;omega)]at ih ⊢
   omega
  |some s=>
   rw[Ja h]
   have:=abo all (jf all (l.take i)) s
   omega
theorem aaw{all out:List aq}{s:aq}{n:Nat}(h:∀y∈out,y.perms.length≤n):∀y∈sa all out s,y.perms.length≤n+s.perms.length:=by
 intro y hy
 unfold sa at hy
 split at hy
 ·have:=h y hy;omega
 ·have app:y∈out++[s]→y.perms.length≤n+s.perms.length:=fun hy=>by
   rcases List.mem_append.1 hy with hy|hy
   ·have:=h y hy;omega
   ·rw[List.mem_singleton.1 hy];omega
  split at hy
  ·split at hy
   ·split at hy
    ·rename_i j _ _ z hz
     rcases List.mem_or_eq_of_mem_set hy with hy|hy
     ·have:=h y hy;omega
     ·subst hy
      have h1:=h z (List.mem_of_getElem? hz)
      have h2:=NG (z.perms++s.perms)
      simp only[An,List.length_append]at h2 ⊢
      omega
    ·have:=h y hy;omega
   ·exact app hy
  ·exact app hy
theorem TQ(all l:List aq)(i:Nat):∀y∈jf all (l.take i),y.perms.length≤db (l.take i):=by
 induction i with
 |zero=>intro y hy;simp[jf]at hy
 |succ i ih=>
  cases h:l[i]? with
  |none=>
   have h1:l.length≤i:=List.getElem?_eq_none_iff.1 h
   rw[List.take_of_length_le h1]at ih
   rw[List.take_of_length_le (by omega)]
   exact ih
  |some s=>
   rw[Ja h,Br h]
   exact aaw ih
def iD:List aq→List aq→Option (Int×aq)
 |_,[]=>none
 |pre,s::l=>if pI pre s=0 then iD (pre++[s]) l else some (pI pre s,s)
def rk(out:List aq):SV:=match out with
 |[]=>.d (.sl .nil iN [])
 |out=>.aZ 6 (aK out)
theorem FF:∀(cs:List D){l:List SV}{r:List D},dK l=some r→dK (cs.map SV.d++l)=some (cs++r)
 |[],l,r,h=>h
 |c::cs,l,r,h=>by
  simp only[List.map_cons,List.cons_append,dK,dA,FF cs h]
def jZ(s:aq):List D:=[.int .i64 s.kind,.str s.name,.bool s.cJ,bB 1 (cP s.perms),.int .i64 s.line,.int .i64 s.gn]
theorem BA(s:aq)(l:List aq):bc (aK (s::l))=(jZ s).map .d ++bc (aK l):=rfl
theorem z8:∀(l:List aq),dK (bc (aK l))=some (l.flatMap jZ)
 |[]=>rfl
 |s::l=>by rw[BA,List.flatMap_cons];exact FF _ (z8 l)
theorem Ou:∀(l:List aq),(bc (aK l)).length =l.length*6
 |[]=>rfl
 |s::l=>by rw[BA,List.length_append,Ou l,List.length_cons];simp[jZ];omega
theorem z5:∀(l:List aq),eR true 6 l.length (l.flatMap jZ)=some (aK l)
 |[]=>rfl
 |s::l=>by
  have ih:=z5 l
  have h1:((s::l).flatMap jZ).drop 6=l.flatMap jZ:=rfl
  have h2:((s::l).flatMap jZ).take 6=jZ s:=rfl
  have h3:6≤((s::l).flatMap jZ).length :=by simp[jZ]
  simp only[List.length_cons,eR,h1,h2,ih,if_pos h3]
  rfl
theorem NZ:∀(l:List aq)(j:Nat)(y:aq),l[j]? =some y→(bc (aK l))[j*6+3]? =some (.d (bB 1 (cP y.perms)))
 |[],j,y,h=>by simp at h
 |s::l,0,y,h=>by simp at h;subst h;rfl
 |s::l,j+1,y,h=>by
  rw[BA,List.getElem?_append_right (by simp[jZ];omega)]
  have:(j+1)*6+3-((jZ s).map SV.d).length =j*6+3:=by simp[jZ];omega
  rw[this]
  exact NZ l j y (by simpa using h)
theorem Ov:∀(l:List aq)(j:Nat)(y:aq)(p:List (List UInt8)),l[j]? =some y→(bc (aK l)).set (j*6+3) (.d (bB 1 (cP p)))=bc (aK (l.set j {y with perms:=p}))
 |[],j,y,p,h=>by simp at h
 |s::l,0,y,p,h=>by simp at h;subst h;rfl
 |s::l,j+1,y,p,h=>by
  rw[BA,List.set_append_right _ _ (by simp[jZ];omega)]
  have:(j+1)*6+3-((jZ s).map SV.d).length =j*6+3:=by simp[jZ];omega
  rw[this,Ov l j y p (by simpa using h)]
  rfl
end Go.Proofs.Ytimbllcalipehaa.Ab
namespace Go.Proofs.Ytimbllcalipehaa.Ab
open Go
set_option linter.unusedVariables false
set_option maxRecDepth 4000
theorem aax{x:D}(h1:x.cells=[x])(bY:x.one=true):aG Try.prog gl 67 [.d x] (.dT (.func 82) [] [.aX x 0]):=by
 refine ac6 bG (fn:=Try.f67) (c:=QN) rfl rfl (cb (fn:=Try.f67) (by kernel_rfl) (by kernel_rfl) (by kernel_rfl)) bY rfl (b:=0) (t:=2) (hh:=jk) (fun _=>?_)
 show aw Try.prog gl _ jk QN _ (enter 4 _)
 rw[aiv]
 have h2:aB (.d x)=some [.d x]:=by simp[aB,h1]
 simp only[h2,sS,sT,sZ]
 first|exact⟨rfl,.inr rfl,rfl,rfl⟩|exact⟨.inr trivial,rfl,rfl⟩|exact⟨rfl,.inr trivial,rfl,rfl⟩
theorem JQ(x y:D)(i j:Nat):aS [(i,.v (.d x)),(j,.v (.d y))]=some [(i,x),(j,y)]:=rfl
theorem BP{m:List (MK×D)}(h:DR m)(s:aq)(d:D):qW m (.s [.int .i64 s.kind,.str s.name]) d=some (nA m (oC s) d):=by
 have:=No h s
 unfold qW
 show cond (wJ m (oC s)) _ _=_
 rw[this];rfl
theorem FR(x:SV):aj false 1 0 [x]=some x:=rfl
theorem Uc(c l k:Int)(n:List UInt8):dz Try.prog 30 [(0,.int .i64 c),(1,.agg [.int .i64 l,.int .i64 k]),(2,.str n)]=some (.agg [.int .i64 c,.int .i64 l,.int .i64 k,.str n]):=by kernel_rfl
theorem uM:dz Try.prog 30 []=some (.agg [.int .i64 0,.int .i64 0,.int .i64 0,.str []]):=by kernel_rfl
theorem VD(k:Int)(n:List UInt8):dz Try.prog 126 [(0,.int .i64 k),(1,.str n)]=some (.agg [.int .i64 k,.str n]):=by kernel_rfl
theorem B5(k:Int)(n:List UInt8):nz (some [.int,.str]) (.d (.agg [.int .i64 k,.str n]))=some (.s [.int .i64 k,.str n]):=rfl
def Mu(f:List SV)(al:SV)(m:List (MK×D)):List af:=[.cells [.d (.sl .nil 0 [])],.cells f,.cells [al],.map m,.one (.m 3)]
def rI(l:List aq)(k:Nat)(aF:List af):Prop:=∃m,aF=KQ (aQ 6 (aK (l.take k))) m∧tX m (l.take k)∧iD (l.take k) (l.drop k)=iD [] l
def rX(l:List aq)(x:Ex)(aF:List af):Prop:=x=.ret ∧∃c s m al,iD [] l=some (c,s)∧aF=Mu [.d (.int .i64 c),.d (.int .i64 s.line),.d (.int .i64 s.gn),.d (.str s.name)] al m
theorem Py(f:List SV)(hf:(f.all fun x=>x.re&&x.aD)=true)(al:SV)(ha:(al.re&&al.aD)=true)(m:List (MK×D)):(Mu f al m).all (mO 5)=true:=by
 simp only[Mu,List.all_cons,List.all_nil,mO,hf,ha,Bool.and_true,Bool.true_and]
 rfl
theorem Dr(sz:Nat)(L:List D):(aQ sz L).re =true∧(aQ sz L).aD =true:=by cases L<;>exact⟨rfl,rfl⟩
theorem Kv(k:IntKind)(a b:Int):ai (some (false,[.int])) .neq (.d (.int k a)) (.d (.int k b))=some (.d (.bool (a != b))):=by simp[ai,gH,k7]
theorem acj:aB (.d (.sl .nil 0 []))=some [.d (.sl .nil 0 [])]:=rfl
theorem dq(a b c d:D):aB (.d (.agg [a,b,c,d]))=some [.d a,.d b,.d c,.d d]:=rfl
theorem Yd(a b:SV):setAt [a] 0 [b]=[b]:=rfl
theorem fE(a b c d e f g h:SV):setAt [a,b,c,d] 0 [e,f,g,h]=[e,f,g,h]:=rfl
theorem ajP(a b c d e f:af):[a,b,c,d,e,f].take 5=[a,b,c,d,e]:=rfl
theorem dr{α:Type}(a b c d:α):[a,b,c,d].length =4:=rfl
theorem aeK(l:List aq)(hl:l.length≤2^30)(k:Nat)(d:D)(aF:List af)(hI:rI l k aF)(hd:(aK l)[k]? =some d):
  aw Try.prog gl (aG Try.prog gl) vS (Ms Ay) (fun x e1=>x=.normal ∧aw Try.prog gl (aG Try.prog gl) vS (Mt Ay) (fun x e2=>(e2.boxes.take 5).all (mO 5)=true∧AG (rI l) (rX l) (k+1) x (e2.boxes.take 5)) e1) ⟨cS u4 (some 18) (.v (.d d)),aF⟩:=by
 obtain⟨m,rfl,hm,dv⟩:=hI
 obtain⟨s,hs,rfl⟩:∃s,l[k]? =some s∧d=s.enc:=by
  rw[aK,List.getElem?_map,Option.map_eq_some_iff]at hd
  obtain⟨s,h1,h2⟩:=hd
  exact⟨s,h1,h2.symm⟩
 have hk:k<l.length:=(List.getElem?_eq_some_iff.1 hs).1
 rw[xY hs,iD]at dv
 refine(aix _ s.enc (aQ 6 (aK (l.take k))) m (fun x bs=>bs.all (mO 5)=true∧AG (rI l) (rX l) (k+1) x bs)).mpr ?_
 simp only[sS,sT,sZ,ga,fN,g8,FR,fD,ez]
 refine dZ (abn (l.take k) s (cK 6 _) (by simp only[maxLen,List.length_take];omega)) ?_
 simp only[sS,sT,sZ,Kv]
 refine And.intro (fun hc=>?_) (fun hc=>?_)
 ·rw[if_neg (by simpa using hc)]at dv
  simp only[aeG,gE,kX,sS,sT,sZ,Uc]
  simp only[acj,dq,sS,sT,sZ,Yd,fE,jz,dr,and_self,ajP]
  refine⟨Py _ rfl _ (by rw[(Dr _ _).1,(Dr _ _).2];rfl) m,rfl,pI (l.take k) s,s,m,_,dv.symm,rfl⟩
 ·rw[if_pos (by simpa using hc)]at dv
  have hb:((aK (l.take k)).length +[s.enc].length)*72≤140737488355328:=by simp only[eA,List.length_take,List.length_singleton];omega
  simp only[dG,k8,jQ,sS,sT,sZ]
  refine gN (qB 6 _) hb ?_
  simp only[US,jz,g7,iC,sS,sT,sZ]
  have L8:aK (l.take k)++[s.enc]=aK (l.take (k+1)):=by rw[BH,dX hs]
  rw[L8]
  refine⟨Nat.zero_lt_one,And.intro (fun hr=>?_) (fun hr=>?_)⟩
  ·have hr:s.cJ=false:=by simpa using hr
   simp only[gO,gE,JQ,VD,B5,sS,sT,sZ]
   have ht:dA (.d (.bool true))=some (.bool true):=rfl
   simp only[ht,BP hm.1 s,sS,sT,sZ]
   refine⟨Py _ rfl _ (by rw[(Dr _ _).1,(Dr _ _).2];rfl) _,_,rfl,?_,?_⟩
   ·rw[dX hs];exact hm.dec hr
   ·rw[dX hs];exact dv
  ·have hr:s.cJ=true:=by simpa using hr
   refine⟨Py _ rfl _ (by rw[(Dr _ _).1,(Dr _ _).2];rfl) m,m,rfl,?_,?_⟩
   ·rw[dX hs];exact hm.cJ hr
   ·rw[dX hs];exact dv
def Pz(l:List aq)(m a:List (MK×D)):List (List SV):=[[.d (.sl .nil 0 [])],[.d (.int .i64 0),.d (.int .i64 0),.d (.int .i64 0),.d (.str [])],[aQ 6 (aK l)],[.undef],[.mp m],[.mp a]]
theorem Wk:oo (.d (.sl .nil 0 []))=some (rk []):=rfl
theorem aiz(a b c d:SV):setAt [a,b] 0 [c,d]=[c,d]:=rfl
theorem aeL(a b:D):aB (.d (.agg [a,b]))=some [.d a,.d b]:=rfl
theorem agj(a b:D):aj true 2 0 [.d a,.d b]=some (.d (.agg [a,b])):=rfl
theorem alj{α:Type}(a b:α):[a,b].length =2:=rfl
theorem FT{out:List aq}{A:List D→Prop}{B:Prop}(h1:out≠[]→A (aK out))(h2:out=[]→B):gI (rk out) 6 A B:=by
 cases out with
 |nil=>exact h2 rfl
 |cons y l=>exact⟨rfl,h1 (by simp)⟩
theorem OU{out:List aq}(h:out≠[]):rk out=.aZ 6 (aK out):=by
 cases out with
 |nil=>exact absurd rfl h
 |cons y l=>rfl
theorem FU{out:List aq}{s:aq}{k:SV→Prop}(hb:(out.length+1)*72≤140737488355328)(hk:k (rk (out++[s]))):bR 6 72 (.aZ 6 (aK out)) (.full 6 [s.enc]) k:=by
 unfold bR lG
 rw[qB]
 refine⟨by simpa[eA]using hb,?_⟩
 rw[OU (by simp),←BH]at hk
 exact hk
theorem FI{s:aq}{k:SV→Prop}(hk:k (rk [s])):bR 6 72 (rk []) (.full 6 [s.enc]) k:=by
 unfold bR lG
 rw[qB]
 exact⟨by simp,hk⟩
theorem Wl(out:List aq):om (rk out)=some (aQ 6 (aK out)):=by cases out<;>rfl
theorem dC(a b c d:D):aj true 4 0 [.d a,.d b,.d c,.d d]=some (.d (.agg [a,b,c,d])):=rfl
theorem alk(x:SV):1≤[x].length :=Nat.le_refl _
theorem alm(a b c d:SV):4≤[a,b,c,d].length :=Nat.le_refl _
theorem DG(n:Int):dA (.d (.int .i64 n))=some (.int .i64 n):=rfl
theorem N0:bm (rk [])=some (.d (.int .i64 0)):=rfl
theorem Jw:aa (rk [])=rk []:=rfl
theorem OV(cs:List SV)(i:Nat):aj false 1 i cs=cs[i]? :=rfl
theorem Xd(cs:List SV)(i:Nat)(v:SV):setAt cs i [v]=cs.set i v:=rfl
theorem agk(l:List aq)(hl:l.length≤2^30)(hp:db l≤2^30)(m:List (MK×D))(hm:tX m l)(K:SV→Prop)(hK:K (.aJ [.d (bB 6 (aK (jf l l))),.d (.agg [.int .i64 0,.int .i64 0,.int .i64 0,.str []])])):
  mC Try.prog gl (aG Try.prog gl) vS ((gQ za).drop 5) (Ej Try.prog Try.f50 K) ⟨u4,KQ (aQ 6 (aK l)) m⟩:=by
 rw[aiy]
 simp only[FR,ez,sS,sT,sZ,(cK 6 (aK l)).len,eA,Wk]
 refine Ae (fun i a=>vT a (jf l (l.take i))) (fun i a=>[rk (jf l (l.take i)),.d (bB 6 (aK l)),.d (.int .i64 (l.length:Int)),.d (.int .i64 ((i:Nat):Int))]) (fun i a=>Pz l m a) l.length [] vT.nil (fun i a hi hJ I hI=>?_) (fun a hJ I=>?_)
 ·simp only[Pz,sS,sT,sZ]
  refine And.intro (fun _=>?_) (fun h=>absurd h (by simp;omega))
  obtain⟨s,hs⟩:=get_some hi
  simp only[(cK 6 (aK l)).at (mf hs),qI,ga,fN,g8,gO,gE,g7,JQ,VD,aeL,aiz,agj,alj,FR,air,BE,aeJ hm s,agi hJ s,sS,sT,sZ]
  rw[Ja hs]at hI
  have hlen:=NH l l i
  have Ew:=TQ l l i
  have aln:=Dl l i
  have lL:s.perms.length≤db l:=by
   have h1:=Br hs
   have h2:=Dl l (i+1)
   omega
  generalize jf l (l.take i)=out at hI hJ hlen Ew ⊢
  unfold sa at hI
  refine And.intro (fun hr=>?_) (fun hr=>?_)
  ·refine And.intro (fun hd=>?_) (fun hd=>?_)
   ·rw[if_pos (by simp[hr,hd])]at hI
    refine aU (br hi (by simp only[maxLen];omega)) ?_
    exact hI _ hJ
   ·refine dZ (M6 _ _) ?_
    simp only[sS,sT,sZ]
    refine And.intro (fun ho=>?_) (fun ho=>?_)
    ·rw[if_pos (by simp[hr,ho])]at hI
     refine aU (br hi (by simp only[maxLen];omega)) ?_
     exact hI _ hJ
    ·rw[if_neg (by simp[hr,hd,ho])]at hI
     cases Au:jh s out with
     |none=>
      simp only[Au]at hI ⊢
      refine And.intro (fun h=>absurd h (by simp)) (fun _=>?_)
      refine FT (fun bf=>?_) (fun he=>?_)
      ·simp only[eA,B5,DG,BP hJ.1 s,z8,z5,fD,dG,k8,jQ,sS,sT,sZ,BE]
       refine FU (by omega) ?_
       refine aU (br hi (by simp only[maxLen];omega)) ?_
       exact hI _ (hJ.snoc s)
      ·subst he
       simp only[Jw,N0,B5,DG,BP hJ.1 s,fD,dG,k8,jQ,sS,sT,sZ,BE]
       refine FI ?_
       refine aU (br hi (by simp only[maxLen];omega)) ?_
       exact hI _ (hJ.snoc s)
     |some j=>
      obtain⟨y,hy,Fc⟩:=JP Au
      have hj:j<out.length:=(List.getElem?_eq_some_iff.1 hy).1
      have hyp:=Ew y (List.mem_of_getElem? hy)
      simp only[Au,if_pos hr,hy]at hI ⊢
      refine And.intro (fun _=>?_) (fun h=>absurd h (by simp))
      refine And.intro (fun _=>?_) (fun h=>absurd h (by simp[hr]))
      refine FT (fun bf=>?_) (fun he=>absurd hj (by rw[he];simp))
      simp only[eA,je hj,OV,NZ out j y hy,sS,sT,sZ]
      refine cV (abm (cP y.perms) (by rw[jP];omega)) (ka _ _) ?_
      rw[←OV,kV]
      simp only[sS,sT,sZ]
      refine gN (agb (cK 1 _).sv) (by simp only[jP];omega) ?_
      have zb:cP y.perms++cP s.perms=cP (y.perms++s.perms):=by simp[cP]
      rw[zb]
      simp only[ez,sS,sT,sZ]
      refine cV (M3 _ (cK 1 _) (by rw[List.length_append];omega)) (ka _ _) ?_
      have hg:=z5 (out.set j (An y s))
      rw[List.length_set]at hg
      have aY:=Ov out j y (dedup (y.perms++s.perms)) hy
      simp only[ez,wo,je hj,sS,sT,sZ,Xd,jz]
      rw[aY]
      refine⟨by rw[Ou];omega,?_⟩
      simp only[z8,sS,sT,sZ]
      refine aU hg ?_
      refine aU (br hi (by simp only[maxLen];omega)) ?_
      have:=hI a (hJ.set hy rfl rfl)
      rw[OU (by intro h;have h2:=congrArg List.length h;simp only[List.length_set,List.length_nil]at h2;omega)]at this
      exact this
  ·rw[if_neg (by simp[hr])]at hI
   cases Au:jh s out with
   |none=>
    simp only[Au]at hI ⊢
    refine And.intro (fun h=>absurd h (by simp)) (fun _=>?_)
    refine FT (fun bf=>?_) (fun he=>?_)
    ·simp only[eA,B5,DG,BP hJ.1 s,z8,z5,fD,dG,k8,jQ,sS,sT,sZ,BE]
     refine FU (by omega) ?_
     refine aU (br hi (by simp only[maxLen];omega)) ?_
     exact hI _ (hJ.snoc s)
    ·subst he
     simp only[Jw,N0,B5,DG,BP hJ.1 s,fD,dG,k8,jQ,sS,sT,sZ,BE]
     refine FI ?_
     refine aU (br hi (by simp only[maxLen];omega)) ?_
     exact hI _ (hJ.snoc s)
   |some j=>
    simp only[Au,if_neg (show ¬s.cJ=true by simp[hr])]at hI ⊢
    refine And.intro (fun _=>?_) (fun h=>absurd h (by simp))
    refine And.intro (fun h=>absurd h (by simp[hr])) (fun _=>?_)
    refine FT (fun bf=>?_) (fun he=>?_)
    ·simp only[eA,B5,DG,BP hJ.1 s,z8,z5,fD,dG,k8,jQ,sS,sT,sZ,BE]
     refine FU (by omega) ?_
     refine aU (br hi (by simp only[maxLen];omega)) ?_
     exact hI _ (hJ.snoc s)
    ·subst he
     simp only[Jw,N0,B5,DG,BP hJ.1 s,fD,dG,k8,jQ,sS,sT,sZ,BE]
     refine FI ?_
     refine aU (br hi (by simp only[maxLen];omega)) ?_
     exact hI _ (hJ.snoc s)
 ·simp only[Pz,sS,sT,sZ]
  refine And.intro (fun h=>absurd h (by simp)) (fun _=>?_)
  rw[List.take_length]
  simp only[Wl,ez,uM,wo,dq,jz,dr,alk,alm,Yd,fE,FR,dC,sS,sT,sZ]
  exact hK
end Go.Proofs.Ytimbllcalipehaa.Ab
namespace Go.Proofs.Ytimbllcalipehaa.Ab
open Go
set_option linter.unusedVariables false
set_option maxRecDepth 4000
def rl(l:List aq):SV:=match iD [] l with
 |some (c,s)=>.aJ [.d (.sl .nil 0 []),.d (.agg [.int .i64 c,.int .i64 s.line,.int .i64 s.gn,.str s.name])]
 |none=>.aJ [.d (bB 6 (aK (jf l l))),.d (.agg [.int .i64 0,.int .i64 0,.int .i64 0,.str []])]
theorem aeM:gQ za=(gQ za).take 4++.block 0 (.rangeFunc (.tmp 17) #[18] (Ms Ay) (Mt Ay))::(gQ za).drop 5:=by kernel_rfl
theorem aiA:((da vS.gh (Ms Ay)).all fun t=> !([2,3,4,5].contains t))=true:=by kernel_rfl
theorem aiB:((da vS.gh (Mt Ay)).all fun t=> !([2,3,4,5].contains t))=true:=by kernel_rfl
theorem adr(t:Nat)(s:Slot)(h:u4[t]? =some s)(hp:Hi s=true):t∈[2,3,4,5]:=by
 by_cases h6:t<6
 ·rcases t with _|_|_|_|_|_|t
  ·cases h;cases hp
  ·cases h;cases hp
  ·simp
  ·simp
  ·simp
  ·simp
  ·omega
 ·exfalso
  unfold u4 at h
  rw[List.getElem?_append_right (by simp;omega)]at h
  have:=(List.mem_replicate.1 (List.mem_of_getElem? h)).2
  subst this
  cases hp
theorem aiC(f1 f2 f3 f4:D)(h:(f1.one&&f2.one&&f3.one&&f4.one)=true)(al:SV)(m:List (MK×D))(K:SV→Prop)(hK:K (.aJ [.d (.sl .nil 0 []),.d (.agg [f1,f2,f3,f4])])):finish Try.prog Try.f50 ⟨u4,Mu [.d f1,.d f2,.d f3,.d f4] al m⟩ K:=by
 show finish Try.prog Try.f50 ⟨u4,[.cells [.d (.sl .nil 0 [])],.cells [.d f1,.d f2,.d f3,.d f4],.cells [al],.map m,.one (.m 3)]⟩ K
 rw[aiu]
 simp only[FR,dC,sS,sT,sZ]
 exact hK
theorem Ud(ay:List gp){L:List D}{xs:D}(hx:aW 55 L xs)(hs:D8 ay L)(hn:ay.length≤maxLen)(hl:(ay.flatMap cd).length ≤2^30)(hp:db (ay.flatMap cd)≤2^30):
  aG Try.prog gl 50 [.d xs] (rl (ay.flatMap cd)):=by
 have iZ:xs.cells=[xs]:=by cases hx<;>rfl
 have jb:xs.one=true:=by cases hx<;>rfl
 refine abh bG (fn:=Try.f50) (c:=za) rfl rfl (cb (fn:=Try.f50) (by kernel_rfl) (by kernel_rfl) (by kernel_rfl)) (hh:=vS) aeM (aaN ay hx hs hn) rfl (fun bJ=>?_)
 show mC Try.prog gl _ vS ((gQ za).take 4) _ (enter 105 _)
 rw[aiw]
 simp only[sS,sT,sZ]
 refine cV (aax iZ jb) rfl ?_
 refine⟨rfl,u4,rI (ay.flatMap cd),rX (ay.flatMap cd),rfl,fun i s hi=>?_,rfl,rfl,fun t s ht hp=>?_,?_,fun k d aF hI hd hb=>?_,fun aF hI hb=>?_,fun x aF bf hX hb=>?_⟩
 ·by_cases h6:i<6
  ·rcases i with _|_|_|_|_|_|i
   ·cases hi;exact .inl rfl
   ·cases hi;exact .inl rfl
   ·cases hi;exact .inr ⟨_,rfl,.inl rfl⟩
   ·cases hi;exact .inr ⟨_,rfl,.inl rfl⟩
   ·cases hi;exact .inr ⟨_,rfl,.inl rfl⟩
   ·cases hi;exact .inr ⟨_,rfl,.inl rfl⟩
   ·omega
  ·left
   unfold u4 at hi
   rw[List.getElem?_append_right (by simp;omega)]at hi
   exact(List.mem_replicate.1 (List.mem_of_getElem? hi)).2
 ·have hm:=adr t s ht hp
  have h1:=List.all_eq_true.1 aiA
  have h2:=List.all_eq_true.1 aiB
  refine⟨fun h=>?_,fun h=>?_,fun h=>?_⟩
  ·have:=h1 t h;simp at this;simp_all
  ·have:=h2 t h;simp at this;simp_all
  ·subst h;simp at hm
 ·exact⟨[],rfl,tX.nil,rfl⟩
 ·exact aeK _ hl k d aF hI hd
 ·obtain⟨m,rfl,hm,dv⟩:=hI
  rw[eA,List.drop_length]at dv
  rw[eA,List.take_length]at hm ⊢
  refine agk _ hl hp m hm _ ?_
  unfold rl
  rw[←dv]
  rfl
 ·obtain⟨rfl,c,s,m,al,hc,rfl⟩:=hX
  refine⟨rfl,?_⟩
  have hr:rl (ay.flatMap cd)=.aJ [.d (.sl .nil 0 []),.d (.agg [.int .i64 c,.int .i64 s.line,.int .i64 s.gn,.str s.name])]:=by unfold rl;rw[hc]
  exact aiC _ _ _ _ rfl al m _ hr.symm
end Go.Proofs.Ytimbllcalipehaa.Ab
namespace Go.Proofs.Ytimbllcalipehaa.Ab
open Go
set_option linter.unusedVariables false
set_option maxRecDepth 4000
theorem Af(f:Fn)(a b:List SV):aa (.dT f a b)=.dT f a b:=rfl
theorem Ue(f:FuncId)(a b args:List SV)(k:FuncId→List SV→Prop):withFn (.dT (.func f) a b) args k=k f (a++args++b):=rfl
theorem JR(cs:List SV)(o:Nat):aa (.ref cs o)=.ref cs o:=rfl
theorem ack(s:aq):s.cells.map aa=s.cells:=rfl
theorem Jx{α:Type}(p:α→Bool)(l:List α):(first p l).isSome =l.any p:=by
 cases h:first p l with
 |some k=>
  obtain⟨x,h1,h2⟩:=Bz h
  exact(List.any_eq_true.2 ⟨x,List.mem_of_getElem? h1,h2⟩).symm
 |none=>
  have:=BF h
  symm
  rw[Option.isSome_none,List.any_eq_false]
  intro x hx
  obtain⟨j,hj⟩:=List.mem_iff_getElem?.1 hx
  simp[this j x hj]
def Fe(k:Int):Int:=if k==3 then 2 else k
end Go.Proofs.Ytimbllcalipehaa.Ab
namespace Go.Proofs.Ytimbllcalipehaa.Ab
open Go
set_option linter.unusedVariables false
set_option maxRecDepth 4000
structure C1 where
 name:List UInt8
 vU:Int
 ay:List gp
inductive Lw(m:C1):D→Prop
 |mk (xs:D) (L:List D) (hx:aW 55 L xs) (hs:D8 m.ay L):Lw m (.agg [.str m.name,.int .i64 m.vU,xs])
def C1.syms(m:C1):List aq:=m.ay.flatMap cd
structure Q1(m:C1):Prop where
 n:m.ay.length≤2^30
 l:m.syms.length≤2^30
 p:db m.syms≤2^30
theorem BI(a b c:D):aB (.d (.agg [a,b,c]))=some [.d a,.d b,.d c]:=rfl
theorem AR{α:Type}(a b c:α):[a,b,c].length =3:=rfl
theorem DA(a b c:SV):aj false 1 2 [a,b,c]=some c:=rfl
theorem OX(a b c:D):aj true 3 0 [.d a,.d b,.d c]=some (.d (.agg [a,b,c])):=rfl
theorem fZ(a b c d:SV):aj false 1 0 [a,b,c,d]=some a:=rfl
theorem JS:∀(l pre:List aq)(c:Int)(s:aq),iD pre l=some (c,s)→c≠0
 |[],pre,c,s,h=>by simp[iD]at h
 |y::l,pre,c,s,h=>by
  rw[iD]at h
  split at h
  ·exact JS l _ c s h
  ·rename_i hc
   cases h
   exact hc
theorem aay{m:C1}{d:D}(hd:Lw m d)(hm:Q1 m):aG Try.prog gl 24 [.d d] (rl m.syms):=by
 cases hd with
 |mk xs L hx hs=>
 refine cM bG (cb (fn:=Try.f24) (by kernel_rfl) (by kernel_rfl) (by kernel_rfl)) (h:=Rq) ?_;rw[ahr];intro bJ
 simp only[BI,AR,DA,sS,sT,sZ]
 have hB:=Ud m.ay hx hs (Nat.le_trans hm.n (by decide)) hm.l hm.p
 have e:m.ay.flatMap cd=m.syms:=rfl
 rw[e]at hB
 unfold rl at hB ⊢
 cases hc:iD [] m.syms with
 |none=>
  simp only[hc]at hB ⊢
  refine call2 hB ?_
  simp only[dq,dr,fE,dC,sS,sT,sZ]
 |some p=>
  obtain⟨c,s⟩:=p
  simp only[hc]at hB ⊢
  refine call2 hB ?_
  simp only[dq,dr,fE,dC,sS,sT,sZ]
def yM(l:List aq):List aq:=match iD [] l with|none=>jf l l|some _=>[]
end Go.Proofs.Ytimbllcalipehaa.Ab
namespace Go.Proofs.Ytimbllcalipehaa.Ab
open Go
set_option maxRecDepth 4000
theorem qA(cs l:List SV):af.ax (af.again cs (.cells l))=cs:=rfl
theorem IZ(k:Int):aG Try.prog gl 81 [.d (.int .i64 k)] (.d (.int .i64 (Fe k))):=by
 refine cM bG (cb (fn:=Try.f81) (by kernel_rfl) (by kernel_rfl) (by kernel_rfl)) (h:=h81) ?_;rw[ahK];intro bJ
 simp only[sS,sT,sZ,ke,Fe]
 refine And.intro (fun h=>?_) (fun h=>?_)
 ·simp only[h,if_true]
 ·simp only[h,Bool.false_eq_true,if_false]
theorem VE(l:List (List UInt8)){x:D}(hx:aW 1 (cP l) x)(hl:l.length≤maxLen)(s:List UInt8):aG Try.prog gl 49 [.d x,.d (.str s)] (.d (.bool (fR s l))):=by
 refine cM bG (cb (fn:=Try.f49) (by kernel_rfl) (by kernel_rfl) (by kernel_rfl)) (h:=Ie) ?_;rw[ahz];intro bJ
 refine np (fun i=>∀(j:Nat)t,j<i→l[j]? =some t→(t==s)=false) (fun i=>[.d x,.d (.str s),.d (.int .i64 ((i:Nat):Int))]) (fun i=>[]) l.length (fun j t hj=>by omega) (fun i hi hJ I hI=>?_) (fun hJ I=>?_)
 ·simp only[sS,sT,sZ,hx.len,jP]
  refine And.intro (fun _=>?_) (fun h=>absurd h (by simp;omega))
  obtain⟨t,ht⟩:=get_some hi
  simp only[hx.at (Ak ht),sS,sT,sZ,Ad,Aj]
  refine And.intro (fun h=>?_) (fun h=>?_)
  ·rw[Wi ht h]
  ·refine aU (br hi hl) ?_
   refine hI fun j t' hj ud=>?_
   rcases Nat.lt_or_ge j i with h2|h2
   ·exact hJ j t' h2 ud
   ·have:j=i:=by omega
    subst this
    rw[ht]at ud
    cases ud
    exact h
 ·simp only[sS,sT,sZ,hx.len,jP]
  refine And.intro (fun h=>absurd h (by simp)) (fun _=>?_)
  rw[VA fun i t ht=>hJ i t (List.getElem?_eq_some_iff.1 ht).1 ht]
def ji(l m:List (List UInt8)):List (List UInt8):=m.foldl lb l
theorem acm{l m:List (List UInt8)}{i:Nat}{s:List UInt8}(h:m[i]? =some s):ji l (m.take (i+1))=lb (ji l (m.take i)) s:=by
 rw[dX h,ji,List.foldl_append];rfl
theorem Wm(l m:List (List UInt8))(i:Nat):(ji l (m.take i)).length ≤l.length+m.length:=by
 have key:∀(m:List (List UInt8))(l:List (List UInt8)),(ji l m).length ≤l.length+m.length:=by
  intro m
  induction m with
  |nil=>intro l;exact Nat.le_refl _
  |cons s m ih=>
   intro l
   have h1:=ih (lb l s)
   have h2:=VB l s
   rw[show ji l (s::m)=ji (lb l s) m from rfl,List.length_cons]
   omega
 have:=key (m.take i) l
 rw[List.length_take]at this
 omega
theorem Uf{sz cX:Nat}{M:List D}{x:SV}{k:SV→Prop}(hx:elems sz x=some M)(hb:M.length*cX≤140737488355328)(hk:k (aQ sz M)):bR sz cX (.d (.sl .nil 0 [])) x k:=by
 have:=gN (sz:=sz) (cX:=cX) (L:=[]) (M:=M) (x:=x) (k:=k) hx (by simpa using hb) (by simpa using hk)
 exact this
theorem Nb(l m:List (List UInt8)){x y:D}(hx:aW 1 (cP l) x)(hy:aW 1 (cP m) y)(hl:l.length≤2^40)(hm:m.length≤2^40):aG Try.prog gl 48 [.d x,.d y] (aQ 1 (cP (ji l m))):=by
 refine cM bG (cb (fn:=Try.f48) (by kernel_rfl) (by kernel_rfl) (by kernel_rfl)) (h:=h48) ?_;rw[ahy];intro bJ
 have Il:m.length≤maxLen:=Nat.le_trans hm (by decide)
 simp only[sS,sT,sZ]
 refine Uf (hx.sv.elems.1) (by rw[jP];omega) ?_
 refine fV (fun i=>[.d y,aQ 1 (cP (ji l (m.take i))),.d (.int .i64 ((i:Nat):Int))]) (fun i=>[]) m.length (fun i hi I hI=>?_) (fun I=>?_)
 ·simp only[sS,sT,sZ,hy.len,jP]
  refine And.intro (fun _=>?_) (fun h=>absurd h (by simp;omega))
  obtain⟨t,ht⟩:=get_some hi
  have xI:=Wm l m i
  have hd:=acm (l:=l) ht
  simp only[hy.at (Ak ht),sS,sT,sZ,Ad,ez]
  refine dZ (VE (ji l (m.take i)) (cK 1 _) (by simp only[maxLen];omega) t) ?_
  simp only[sS,sT,sZ,iC]
  refine And.intro (fun h=>?_) (fun h=>?_)
  ·simp only[sS,sT,sZ,JM,Ks,JN]
   refine gN (qB 1 _) (by rw[jP];simp only[List.length_singleton];omega) ?_
   refine aU (br hi Il) ?_
   rw[Ju]
   rw[hd,lb,if_neg (by simpa using h)]at hI
   exact hI
  ·refine aU (br hi Il) ?_
   rw[hd,lb,if_pos (by simpa using h)]at hI
   exact hI
 ·simp only[sS,sT,sZ,hy.len,jP]
  refine And.intro (fun h=>absurd h (by simp)) (fun _=>?_)
  simp only[kS,true_and]
  rw[List.take_of_length_le (Nat.le_refl _)]
theorem aaO{s:gp}{x:D}(hs:vk s x):aG Try.prog gl 80 [.d x] (.d (.int .i64 (jg s.kind))):=by
 cases hs with
 |mk r5 r6 cD al rest h hl ha=>
  refine cM bG (cb (fn:=Try.f80) (by kernel_rfl) (by kernel_rfl) (by kernel_rfl)) (h:=h80) ?_;rw[ahS];intro bJ
  simp only[sS,sT,sZ,kc,iU,h,kW]
  unfold jg
  refine And.intro (fun h=>by rw[if_pos h]) (fun h=>?_)
  rw[if_neg (by rw[h];simp)]
  refine And.intro (fun h=>by rw[if_pos h]) (fun h=>?_)
  rw[if_neg (by rw[h];simp)]
  refine And.intro (fun h=>by rw[if_pos h]) (fun h=>?_)
  rw[if_neg (by rw[h];simp)]
  refine And.intro (fun h=>by rw[if_pos h]) (fun h=>?_)
  rw[if_neg (by rw[h];simp)]
  refine And.intro (fun h=>by rw[if_pos h]) (fun h=>?_)
  rw[if_neg (by rw[h];simp)]
  refine And.intro (fun h=>by rw[if_pos h]) (fun h=>?_)
  rw[if_neg (by rw[h];simp)]
  refine And.intro (fun h=>by rw[if_pos h]) (fun h=>?_)
  rw[if_neg (by rw[h];simp)]
  refine And.intro (fun h=>by rw[if_pos h]) (fun h=>?_)
  rw[if_neg (by rw[h];simp)]
theorem NI(s:aq):aG Try.prog gl 46 [.d s.enc] (.d (.bool (vf s.kind s.name))):=by
 refine cM bG (cb (fn:=Try.f46) (by kernel_rfl) (by kernel_rfl) (by kernel_rfl)) (h:=h46) ?_;rw[ahx];intro bJ
 simp only[sS,sT,sZ,ga,fN,gO,gE,vf,Aj,ke]
 refine And.intro (fun h=>?_) (fun h=>?_)
 ·simp[h,QM]
 ·simp[h]
end Go.Proofs.Ytimbllcalipehaa.Ab
namespace Go.Proofs.Ytimbllcalipehaa.Ab
open Go
set_option maxRecDepth 4000
set_option linter.unusedVariables false
theorem Ga(s:aq):bP (.aX s.enc 0) 0=some (.aX s.enc 0):=rfl
theorem Gb(s:aq):bP (.aX s.enc 0) 1=some (.aX s.enc 1):=rfl
theorem Gc(s:aq):bP (.aX s.enc 0) 2=some (.aX s.enc 2):=rfl
theorem Gd(s:aq):bP (.aX s.enc 0) 3=some (.aX s.enc 3):=rfl
theorem Ge(s:aq):bP (.aX s.enc 0) 4=some (.aX s.enc 4):=rfl
theorem Gy(s:aq):aI false 1 (.aX s.enc 0)=some (.d (.int .i64 s.kind)):=rfl
theorem Gz(s:aq):aI false 1 (.aX s.enc 1)=some (.d (.str s.name)):=rfl
theorem GA(s:aq):aI false 1 (.aX s.enc 2)=some (.d (.bool s.cJ)):=rfl
theorem GB(s:aq):aI false 1 (.aX s.enc 3)=some (.d (bB 1 (cP s.perms))):=rfl
theorem GC(s:aq):aI true 2 (.aX s.enc 4)=some (.d (.agg [.int .i64 s.line,.int .i64 s.gn])):=rfl
def pE(x:aq):Bool→List aq→Int
 |tw,[]=>if tw then 12 else 0
 |tw,y::l=>if Fe y.kind != Fe x.kind then pE x tw l else if !(y.name==x.name)then pE x tw l else if y.kind != x.kind then 13 else pE x (tw||(!y.cJ&& !x.cJ)) l
def wO(l:List aq)(x:aq):Int:=pE x (vf x.kind x.name&& !x.cJ) l
theorem aaP(l:List aq)(x:aq){y:D}(hy:aW 6 (aK l) y)(hl:l.length≤maxLen):aG Try.prog gl 66 [.d y,.d x.enc] (.d (.int .i64 (wO l x))):=by
 refine cM bG (cb (fn:=Try.f66) (by kernel_rfl) (by kernel_rfl) (by kernel_rfl)) (h:=h66) ?_;rw[ahG];intro bJ
 simp only[sS,sT,sZ,ga,fN,fD,g7,iC,gO,gE]
 have loop:∀tw:Bool,pE x tw l=wO l x→∀{F:List SV→List (List SV)→(List SV→List (List SV)→Prop)→Prop},(∀i tw,i<l.length→pE x tw (l.drop i)=wO l x→∀I:List SV→List (List SV)→Prop,(∀Im,pE x Im (l.drop (i+1))=wO l x→I [.d y,.d (.bool Im),.d (.int .i64 ((i+1:Nat):Int))] [x.cells])→F [.d y,.d (.bool tw),.d (.int .i64 ((i:Nat):Int))] [x.cells] I)→
   (∀tw,pE x tw []=wO l x→∀I,F [.d y,.d (.bool tw),.d (.int .i64 (l.length:Int))] [x.cells] I)→bT F [.d y,.d (.bool tw),.d (.int .i64 0)] [x.cells]:=by
  intro tw Sx F hs he
  exact Ae (fun i tw=>pE x tw (l.drop i)=wO l x) (fun i tw=>[.d y,.d (.bool tw),.d (.int .i64 ((i:Nat):Int))]) (fun i _=>[x.cells]) l.length tw Sx (fun i tw hi hJ I hI=>hs i tw hi hJ I hI) (fun tw hJ I=>he tw (by rw[List.drop_length]at hJ;exact hJ) I)
 refine dZ (NI x) ?_
 simp only[sS,sT,sZ]
 refine And.intro (fun h1=>?_) (fun h1=>?_)
 ·refine loop _ (by rw[wO,h1,Bool.true_and]) (fun i tw hi hJ I hI=>?_) (fun tw hJ I=>?_)
  ·simp only[sS,sT,sZ,hy.len,eA]
   refine And.intro (fun _=>?_) (fun h=>absurd h (by simp;omega))
   obtain⟨z,hz⟩:=get_some hi
   rw[xY hz,pE]at hJ
   simp only[hy.at (mf hz),sS,sT,sZ,Ga,Gb,Gc,Gd,Ge,Gy,Gz,GA,GB,GC,FQ,ga,gO,gE,g7,J3,iC]
   refine dZ (IZ _) ?_
   simp only[sS,sT,sZ]
   refine dZ (IZ _) ?_
   simp only[sS,sT,sZ]
   refine And.intro (fun ha=>?_) (fun ha=>?_)
   ·rw[if_pos ha]at hJ
    refine aU (br hi hl) ?_
    exact hI tw hJ
   ·rw[if_neg (by rw[ha];simp)]at hJ
    refine And.intro (fun hb=>?_) (fun hb=>?_)
    ·rw[if_pos hb]at hJ
     refine aU (br hi hl) ?_
     exact hI tw hJ
    ·rw[if_neg (by rw[hb];simp)]at hJ
     refine And.intro (fun hc=>?_) (fun hc=>?_)
     ·rw[if_pos hc]at hJ
      rw[←hJ]
     ·rw[if_neg (by rw[hc];simp)]at hJ
      refine And.intro (fun ht=>?_) (fun ht=>?_)
      ·rw[ht,Bool.true_or]at hJ
       refine aU (br hi hl) ?_
       exact hI true hJ
      ·rw[ht,Bool.false_or]at hJ
       refine And.intro (fun hx=>?_) (fun hx=>?_)
       ·rw[hx,Bool.true_and]at hJ
        refine aU (br hi hl) ?_
        exact hI _ hJ
       ·rw[hx,Bool.false_and]at hJ
        refine aU (br hi hl) ?_
        exact hI false hJ
  ·simp only[sS,sT,sZ,hy.len,eA]
   refine And.intro (fun h=>absurd h (by simp)) (fun _=>?_)
   rw[pE]at hJ
   refine And.intro (fun ht=>?_) (fun ht=>?_)
   ·rw[if_pos ht]at hJ
    rw[←hJ]
   ·rw[if_neg (by rw[ht];simp)]at hJ
    rw[←hJ]
 ·refine loop _ (by rw[wO,h1,Bool.false_and]) (fun i tw hi hJ I hI=>?_) (fun tw hJ I=>?_)
  ·simp only[sS,sT,sZ,hy.len,eA]
   refine And.intro (fun _=>?_) (fun h=>absurd h (by simp;omega))
   obtain⟨z,hz⟩:=get_some hi
   rw[xY hz,pE]at hJ
   simp only[hy.at (mf hz),sS,sT,sZ,Ga,Gb,Gc,Gd,Ge,Gy,Gz,GA,GB,GC,FQ,ga,gO,gE,g7,J3,iC]
   refine dZ (IZ _) ?_
   simp only[sS,sT,sZ]
   refine dZ (IZ _) ?_
   simp only[sS,sT,sZ]
   refine And.intro (fun ha=>?_) (fun ha=>?_)
   ·rw[if_pos ha]at hJ
    refine aU (br hi hl) ?_
    exact hI tw hJ
   ·rw[if_neg (by rw[ha];simp)]at hJ
    refine And.intro (fun hb=>?_) (fun hb=>?_)
    ·rw[if_pos hb]at hJ
     refine aU (br hi hl) ?_
     exact hI tw hJ
    ·rw[if_neg (by rw[hb];simp)]at hJ
     refine And.intro (fun hc=>?_) (fun hc=>?_)
     ·rw[if_pos hc]at hJ
      rw[←hJ]
     ·rw[if_neg (by rw[hc];simp)]at hJ
      refine And.intro (fun ht=>?_) (fun ht=>?_)
      ·rw[ht,Bool.true_or]at hJ
       refine aU (br hi hl) ?_
       exact hI true hJ
      ·rw[ht,Bool.false_or]at hJ
       refine And.intro (fun hx=>?_) (fun hx=>?_)
       ·rw[hx,Bool.true_and]at hJ
        refine aU (br hi hl) ?_
        exact hI _ hJ
       ·rw[hx,Bool.false_and]at hJ
        refine aU (br hi hl) ?_
        exact hI false hJ
  ·simp only[sS,sT,sZ,hy.len,eA]
   refine And.intro (fun h=>absurd h (by simp)) (fun _=>?_)
   rw[pE]at hJ
   refine And.intro (fun ht=>?_) (fun ht=>?_)
   ·rw[if_pos ht]at hJ
    rw[←hJ]
   ·rw[if_neg (by rw[ht];simp)]at hJ
    rw[←hJ]
def w6(k:Int)(n:List UInt8)(r:Bool)(l:List aq):Int:=orM (first (fun y=>y.kind==k&&(y.name==n&&y.cJ==r)) l)
theorem VF(a b:Bool):ai (some (false,[.bool])) .eql (.d (.bool a)) (.d (.bool b))=some (.d (.bool (a==b))):=rfl
theorem UX(l:List aq){y:D}(hy:aW 6 (aK l) y)(hl:l.length≤maxLen)(k:Int)(n:List UInt8)(r:Bool):aG Try.prog gl 47 [.d y,.d (.int .i64 k),.d (.str n),.d (.bool r)] (.d (.int .i64 (w6 k n r l))):=by
 refine cM bG (cb (fn:=Try.f47) (by kernel_rfl) (by kernel_rfl) (by kernel_rfl)) (h:=Ss) ?_;rw[X9];intro bJ
 refine np (fun i=>∀(j:Nat)z,j<i→l[j]? =some z→(z.kind==k&&(z.name==n&&z.cJ==r))=false) (fun i=>[.d y,.d (.int .i64 k),.d (.str n),.d (.bool r),.d (.int .i64 ((i:Nat):Int))]) (fun i=>[]) l.length (fun j t hj=>by omega) (fun i hi hJ I hI=>?_) (fun hJ I=>?_)
 ·simp only[sS,sT,sZ,hy.len,eA]
  refine And.intro (fun _=>?_) (fun h=>absurd h (by simp;omega))
  obtain⟨z,hz⟩:=get_some hi
  have nx:(z.kind==k&&(z.name==n&&z.cJ==r))=false→∀(j:Nat)z,j<i+1→l[j]? =some z→(z.kind==k&&(z.name==n&&z.cJ==r))=false:=fun h j z' hj iJ=>by
   rcases Nat.lt_or_ge j i with h2|h2
   ·exact hJ j z' h2 iJ
   ·have:j=i:=by omega
    subst this
    rw[hz]at iJ;cases iJ;exact h
  simp only[hy.at (mf hz),sS,sT,sZ,Ga,Gb,Gc,Gd,Ge,Gy,Gz,GA,GB,GC,FQ,Aj,ke,VF]
  refine And.intro (fun h1=>?_) (fun h1=>?_)
  ·refine And.intro (fun h2=>?_) (fun h2=>?_)
   ·refine And.intro (fun h3=>?_) (fun h3=>?_)
    ·rw[w6,wC hz (by rw[h1,h2,h3];rfl) hJ];rfl
    ·refine aU (br hi hl) ?_
     exact hI (nx (by rw[h3,Bool.and_false,Bool.and_false]))
   ·refine aU (br hi hl) ?_
    exact hI (nx (by rw[h2,Bool.false_and,Bool.and_false]))
  ·refine aU (br hi hl) ?_
   exact hI (nx (by rw[h1,Bool.false_and]))
 ·simp only[sS,sT,sZ,hy.len,eA]
  refine And.intro (fun h=>absurd h (by simp)) (fun _=>?_)
  rw[w6,wj fun j z hz=>hJ j z (List.getElem?_eq_some_iff.1 hz).1 hz]
  rfl
end Go.Proofs.Ytimbllcalipehaa.Ab
set_option maxRecDepth 100000
namespace Go.Proofs.Ytimbllcalipehaa.Ab
open Go
def vV:Hints:=⟨[(9,0),(9,3),(9,4),(17,0),(17,3),(17,4),(18,0),(18,1)],[(14,[3,5,6,7],[1,4,10,12,15,20,25,29,31,32,33,36,39,40,47,56,60]),(2000004,[3,5,28],[1,4,10,12,15,29,31,32,33,36,39,40,47,56,60]),(1000005,[3,5],[1,4,10,12,15,20,25,33,36,39,40,47,56,60]),(1000007,[3,5],[1,4,10,12,15,20,25,29,31,32,33,40,47,56,60]),(2000008,[3,5,51],[1,4,10,12,15,20,25,29,31,32,33,36,39,56,60]),(1000009,[3,5],[1,4,10,12,15,20,25,29,31,32,33,36,39,40,47,56,60]),(1000012,[3,5,6],[1,4,10,12,15,20,25,29,31,32,33,36,39,40,47,56]),(2000014,[3,5,6,7,78],[1,4,10,12,15,20,25,29,31,32,33,36,39,40,47,56,60])],[]⟩
noncomputable def pq:Code:=Go.Proofs.Try.f65.body.getD .skip
def ZE(a b:SV):List Slot:=[.v .undef,.p 0 0,.v .undef,.v a,.p 1 0,.v b,.v .undef,.v .undef,.v .undef,.v .undef,.p 0 4,.v .undef,.p 0 2,.v .undef,.v .undef,.p 0 0]++List.replicate 75 (.v .undef)
def YW(a b:SV):List Slot:=[.v .undef,.p 0 0,.v .undef,.v a,.p 1 0,.v b,.v .undef,.v .undef,.v .undef,.v .undef,.p 0 4,.v .undef,.p 0 2,.v .undef,.v .undef,.p 0 0]++(List.replicate 17 (.v .undef)++.p 1 0::List.replicate 57 (.v .undef))
set_option maxHeartbeats 1000000 in
theorem ajQ(C:bA)(x0:SV)(Q:Ex→Env→Prop):mC Go.Proofs.Try.prog gl C vV ((gQ pq).take 6) Q (enter 91 [x0])=(
 ab (aB (aa x0)) fun r0=>
 (List.length r0)=55∧
 ab (aj true 55 0 r0) fun r1=>
 ba C 80 [(aa (aa (aa r1)))] fun r2=>
 ab (aj false 1 4 r0) fun r3=>
 ab (aj true 2 2 r0) fun r4=>
 ab (aS [(0,(.v (aa r2))),(1,(.v (aa (aa r3)))),(4,(.v (aa (aa r4))))]) fun r5=>
 ab (dz Proofs.Try.prog 87 r5) fun r6=>
 ab (aB (.d r6)) fun r7=>
 (List.length r7)=6∧
 6≤6∧
 ab (aj false 1 0 r0) fun r8=>
 ab (ai (some (false,[.int])) .eql (aa (aa r8)) (.d (.int .i64 19))) fun r9=>
 qU (fun SA=>
  au (aa (aa (aa r9)))
   (ab (aj false 1 1 r0) fun cz=>
   ab (ai none .geq (aa (aa cz)) (.d (.int .i64 1))) fun bO=>
   au (aa (aa bO))
    (ab (aj false 1 1 r0) fun bX=>
    ab (ai none .leq (aa (aa bX)) (.d (.int .i64 8))) fun bN=>
    (SA [(.d (.sl .nil 0 [])),(aa r9),(aa bN)] [(af.ax (af.cells r0)),(af.ax (af.cells (setAt [(.d (.int .i64 0)),(.d (.str [])),(.d (.bool false)),(.d (.sl .nil 0 [])),(.d (.int .i64 0)),(.d (.int .i64 0))] 0 r7)))]))
    ((SA [(.d (.sl .nil 0 [])),(aa r9),(.d (.bool false))] [(af.ax (af.cells r0)),(af.ax (af.cells (setAt [(.d (.int .i64 0)),(.d (.str [])),(.d (.bool false)),(.d (.sl .nil 0 [])),(.d (.int .i64 0)),(.d (.int .i64 0))] 0 r7)))])))
   ((SA [(.d (.sl .nil 0 [])),(aa r9),(.d (.bool false))] [(af.ax (af.cells r0)),(af.ax (af.cells (setAt [(.d (.int .i64 0)),(.d (.str [])),(.d (.bool false)),(.d (.sl .nil 0 [])),(.d (.int .i64 0)),(.d (.int .i64 0))] 0 r7)))]))) (fun du gJ=>
  qU (fun E7=>
   au (ae du 2)
    (ab (aj false 1 1 (an gJ 0)) fun cY=>
    ab (aB (aa (aa cY))) fun cf=>
    (List.length cf)=1∧
    1≤(List.length (an gJ 1))∧
    ab (aB (.d (.bool true))) fun cg=>
    (List.length cg)=1∧
    3≤(List.length (setAt (an gJ 1) 0 cf))∧
    (E7 [(ae du 0),(ae du 1)] [(af.ax (af.cells (an gJ 0))),(af.ax (af.cells (setAt (setAt (an gJ 1) 0 cf) 2 cg)))]))
    ((E7 [(ae du 0),(ae du 1)] [(af.ax (af.again (an gJ 0) (af.cells r0))),(af.ax (af.again (an gJ 1) (af.cells (setAt [(.d (.int .i64 0)),(.d (.str [])),(.d (.bool false)),(.d (.sl .nil 0 [])),(.d (.int .i64 0)),(.d (.int .i64 0))] 0 r7))))]))) (fun ku iX=>
   (Q Ex.normal (Env.mk ([(.v .undef),(.p (0+0) 0),(.v .undef),(.v (ae ku 0)),(.p ((List.length [(af.cells r0)])+0) 0),(.v (ae ku 1)),(.v .undef),(.v .undef),(.v .undef),(.v .undef),(.p (0+0) 4),(.v .undef),(.p (0+0) 2),(.v .undef),(.v .undef),(.p (0+0) 0)]++List.replicate 75 (.v .undef)) [(af.again (an iX 0) (af.again (an gJ 0) (af.cells r0))),(af.again (an iX 1) (af.again (an gJ 1) (af.cells (setAt [(.d (.int .i64 0)),(.d (.str [])),(.d (.bool false)),(.d (.sl .nil 0 [])),(.d (.int .i64 0)),(.d (.int .i64 0))] 0 r7))))]))))):=by kernel_rfl
set_option maxHeartbeats 1000000 in
theorem ajR(C:bA)(a b:SV)(uA vW:List SV)(Q:Ex→Env→Prop):mC Go.Proofs.Try.prog gl C vV (((gQ pq).drop 6).take 4) Q ⟨ZE a b,[.cells uA,.cells vW]⟩=(
 ab (aj false 1 0 vW) fun r0=>
 ab (ai (some (false,[.int])) .eql (aa (aa r0)) (.d (.int .i64 1))) fun r1=>
 qU (fun J4=>
  au r1
   (ab (aj false 1 7 uA) fun r5=>
   ba C 48 [(.d (.sl .nil 0 [])),(aa (aa (aa r5)))] fun r6=>
   ab (aB (aa r6)) fun r7=>
   (List.length r7)=1∧
   4≤(List.length vW)∧
   (J4 [a,b] [(af.ax (af.cells uA)),(af.ax (af.cells (setAt vW 3 r7)))]))
   ((J4 [a,b] [(af.ax (af.cells uA)),(af.ax (af.cells vW))]))) (fun cC iv=>
  qU (fun SB=>
   ab (aj false 1 0 (an iv 1)) fun cB=>
   ab (ai (some (false,[.int])) .neq (aa (aa cB)) (.d (.int .i64 0))) fun cw=>
   au (aa cw)
    (ab (fg .not (aa (aa (ae cC 1)))) fun cz=>
    au (aa cz)
     ((SB [(ae cC 0),(ae cC 1),(.d (.bool true))] [(af.ax (af.cells (an iv 0))),(af.ax (af.cells (an iv 1)))]))
     (ab (aj false 1 0 (an iv 1)) fun bO=>
     ab (ai (some (false,[.int])) .eql (aa (aa bO)) (.d (.int .i64 1))) fun bX=>
     (SB [(ae cC 0),(ae cC 1),(aa (aa bX))] [(af.ax (af.cells (an iv 0))),(af.ax (af.cells (an iv 1)))])))
    ((SB [(ae cC 0),(ae cC 1),(.d (.bool false))] [(af.ax (af.cells (an iv 0))),(af.ax (af.cells (an iv 1)))]))) (fun jL uu=>
   qU (fun J18=>
    au (ae jL 2)
     (ab (aj true 6 0 (an uu 1)) fun dp=>
     ab (aS [(0,(.v (aa (aa dp))))]) fun cY=>
     (bu 6 1 cY)=true∧
     bR 6 72 (ae jL 0) (.full 6 (bz (bE true [(.int .i64 0),(.str []),(.bool false),(.sl .nil 0 []),(.int .i64 0),(.int .i64 0)]) cY 1 0)) fun cf=>
     (J18 [cf,(ae jL 1)] [(af.ax (af.cells (an uu 0))),(af.ax (af.cells (an uu 1)))]))
     ((J18 [(ae jL 0),(ae jL 1)] [(af.ax (af.again (an uu 0) (af.again (an iv 0) (af.cells uA)))),(af.ax (af.again (an uu 1) (af.again (an iv 1) (af.cells vW))))]))) (fun ef vb=>
    (Q Ex.normal (Env.mk ([(.v .undef),(.p 0 0),(.v .undef),(.v (ae ef 0)),(.p 1 0),(.v (ae ef 1)),(.v .undef),(.v .undef),(.v .undef),(.v .undef),(.p 0 4),(.v .undef),(.p 0 2),(.v .undef),(.v .undef),(.p 0 0),(.v .undef),(.v .undef),(.v .undef),(.v .undef),(.v .undef),(.v .undef),(.v .undef),(.v .undef),(.v .undef),(.v .undef),(.v .undef),(.v .undef),(.v .undef),(.v .undef),(.v .undef),(.v .undef),(.v .undef),(.p 1 0)]++List.replicate 57 (.v .undef)) [(af.again (an vb 0) (af.again (an uu 0) (af.again (an iv 0) (af.cells uA)))),(af.again (an vb 1) (af.again (an uu 1) (af.again (an iv 1) (af.cells vW))))])))))):=by kernel_rfl
set_option maxHeartbeats 1000000 in
theorem ajS(C:bA)(a b:SV)(uA vW:List SV)(K:SV→Prop):mC Go.Proofs.Try.prog gl C vV ((gQ pq).drop 10) (Ej Go.Proofs.Try.prog Go.Proofs.Try.f65 K) ⟨YW a b,[.cells uA,.cells vW]⟩=(
 ab (aj false 1 7 uA) fun r0=>
 ab (fg .not (aa (aa b))) fun r1=>
 qU (fun J4=>
  au r1
   (ab (aj false 1 8 uA) fun r5=>
   (J4 [a,b,(aa (aa r5))] [(af.ax (af.cells uA)),(af.ax (af.cells vW))]))
   ((J4 [a,b,(aa (aa r0))] [(af.ax (af.cells uA)),(af.ax (af.cells vW))]))) (fun cC iv=>
  bT (fun mZ vX I8=>
   qU (fun Mv=>
    ab (bm (aa (aa (ae mZ 2)))) fun cw=>
    ab (ai none .lss (aa (aa (ae mZ 3))) (aa cw)) fun cz=>
    au (aa cz)
     (au (aa (aa (ae mZ 1)))
       (ab (aj false 1 0 (an vX 1)) fun bO=>
       ab (ai none .gtr (aa (aa bO)) (.d (.int .i64 1))) fun bX=>
       au (aa (aa bX))
        ((Mv [(ae mZ 0),(ae mZ 1),(ae mZ 2),(ae mZ 3),(.d (.bool true))] [(af.ax (af.cells (an vX 0))),(af.ax (af.cells (an vX 1)))]))
        (ab (aj false 1 0 (an vX 0)) fun bN=>
        ab (ai (some (false,[.int])) .eql (aa (aa bN)) (.d (.int .i64 2))) fun bZ=>
        (Mv [(ae mZ 0),(ae mZ 1),(ae mZ 2),(ae mZ 3),(aa (aa bZ))] [(af.ax (af.cells (an vX 0))),(af.ax (af.cells (an vX 1)))])))
       (ab (aj false 1 0 (an vX 0)) fun bV=>
       ab (ai (some (false,[.int])) .eql (aa (aa bV)) (.d (.int .i64 2))) fun dp=>
       (Mv [(ae mZ 0),(ae mZ 1),(ae mZ 2),(ae mZ 3),(aa (aa dp))] [(af.ax (af.cells (an vX 0))),(af.ax (af.cells (an vX 1)))])))
     ((Mv [(ae mZ 0),(ae mZ 1),(ae mZ 2),(ae mZ 3),(.d (.bool false))] [(af.ax (af.cells (an vX 0))),(af.ax (af.cells (an vX 1)))]))) (fun jI sL=>
    au (ae jI 4)
     (ab (aL 1 (aa (aa (ae jI 2))) (aa (aa (ae jI 3)))) fun cY=>
     ab (aI false 1 (aa cY)) fun cf=>
     ab (aB (aa cf)) fun cg=>
     (List.length cg)=1∧
     2≤(List.length (an sL 1))∧
     ab (aj true 6 0 (setAt (an sL 1) 1 cg)) fun cG=>
     ab (aS [(0,(.v (aa (aa cG))))]) fun dh=>
     (bu 6 1 dh)=true∧
     bR 6 72 (ae jI 0) (.full 6 (bz (bE true [(.int .i64 0),(.str []),(.bool false),(.sl .nil 0 []),(.int .i64 0),(.int .i64 0)]) dh 1 0)) fun dj=>
     ab (ai none .add (aa (aa (ae jI 3))) (.d (.int .i64 1))) fun dL=>
     (I8 [dj,(ae jI 1),(ae jI 2),(aa dL)] [(af.ax (af.cells (an sL 0))),(af.ax (af.cells (setAt (an sL 1) 1 cg)))]))
     ((SV.aD (ae jI 0))=true∧
     (K (ae jI 0)))))
  [(ae cC 0),(ae cC 1),(ae cC 2),(.d (.int .i64 0))] [(af.ax (af.cells (an iv 0))),(af.ax (af.cells (an iv 1)))])):=by kernel_rfl
end Go.Proofs.Ytimbllcalipehaa.Ab
namespace Go.Proofs.Ytimbllcalipehaa.Ab
open Go
set_option linter.unusedVariables false
set_option maxRecDepth 4000
section
variable{P:Program}{gl:Nat→Option D}{C:bA}{h:Hints}
def nx(P:Program)(gl:Nat→Option D)(C:bA)(h:Hints)(m:List Code)(Q:Ex→Env→Prop)(x:Ex)(e:Env):Prop:=match x with| .normal =>mC P gl C h m Q e| .exit i=>Q (.exit i) e| .ret =>Q .ret e
theorem J6:∀(l m:List Code)(Q:Ex→Env→Prop)(e:Env),mC P gl C h (l++m) Q e=mC P gl C h l (nx P gl C h m Q) e
 |[],m,Q,e=>rfl
 |c::l,m,Q,e=>by
  show aw P gl C h c _ e=aw P gl C h c _ e
  congr 1
  funext x e'
  cases x with
  |normal=>exact J6 l m Q e'
  |exit i=>rfl
  |ret=>rfl
theorem tE(c:Code)(Q:Ex→Env→Prop)(e:Env):aw P gl C h c Q e=mC P gl C h [c] Q e:=by
 show aw P gl C h c _ e=aw P gl C h c _ e
 congr 1
 funext x e'
 cases x<;>rfl
theorem OY:∀(c:Code)(Q:Ex→Env→Prop)(e:Env),aw P gl C h c Q e=mC P gl C h (gQ c) Q e
 | .seq a b,Q,e=>by
   show aw P gl C h a _ e=mC P gl C h (gQ a++gQ b) Q e
   rw[J6,←OY a]
   congr 1
   funext x e'
   cases x with
   |normal=>exact OY b Q e'
   |exit i=>rfl
   |ret=>rfl
 | .skip,Q,e=>tE _ _ _
 | .region ..,Q,e=>tE _ _ _
 | .cond ..,Q,e=>tE _ _ _
 | .block ..,Q,e=>tE _ _ _
 | .loop ..,Q,e=>tE _ _ _
 | .exit _,Q,e=>tE _ _ _
 | .ret,Q,e=>tE _ _ _
 | .goto _,Q,e=>tE _ _ _
 | .label _,Q,e=>tE _ _ _
 | .scope _,Q,e=>tE _ _ _
 | .rangeFunc ..,Q,e=>tE _ _ _
 | .refuse _,Q,e=>tE _ _ _
end
theorem alo:Try.prog.funcs[65]? =some Try.f65:=by kernel_rfl
theorem alp:Try.f65.body=some pq:=by kernel_rfl
theorem aiD(C:bA)(x0:SV)(K:SV→Prop):body Try.prog gl C vV 65 [x0] K=cA [x0] (mC Try.prog gl C vV ((gQ pq).take 6) (nx Try.prog gl C vV (((gQ pq).drop 6).take 4) (nx Try.prog gl C vV ((gQ pq).drop 10) (Ej Try.prog Try.f65 K))) (enter 91 [x0])):=by
 unfold body
 rw[alo]
 simp only[]
 rw[alp]
 simp only[]
 show cA [x0] (aw Try.prog gl C vV pq (Ej Try.prog Try.f65 K) (enter 91 [x0]))=_
 rw[OY,←J6,←J6,List.append_assoc]
 have:(gQ pq).take 6++(((gQ pq).drop 6).take 4++(gQ pq).drop 10)=gQ pq:=by
  have h1:(gQ pq).drop 10=((gQ pq).drop 6).drop 4:=by rw[List.drop_drop]
  rw[h1,List.take_append_drop,List.take_append_drop]
 rw[this]
end Go.Proofs.Ytimbllcalipehaa.Ab
namespace Go.Proofs.Ytimbllcalipehaa.Ab
open Go
set_option maxRecDepth 4000
set_option linter.unusedVariables false
theorem tC{A:(List SV→List (List SV)→Prop)→Prop}{F:List SV→List (List SV)→Prop}(vs:List SV)(bs:List (List SV))(hA:∀J:List SV→List (List SV)→Prop,J vs bs→A J)(hF:F vs bs):qU A F:=hA F hF
theorem acn(l:List (List UInt8)):ji [] l=dedup l:=rfl
def rM(s:gp):aq:=if s.kind==19&&(decide (s.op≥1)&&decide (s.op≤8))then⟨s.op,s.name,true,[],s.line,s.gn⟩else⟨jg s.kind,s.name,false,[],s.line,s.gn⟩
def fp(s:gp):aq:=if(rM s).kind ==1 then{rM s with perms:=dedup s.list}else rM s
def mG(s:gp):Bool:=(fp s).kind != 0&&(!(s.kind==19)||(fp s).kind ==1)
def oQ(s:gp):List (List UInt8):=if !(s.kind==19)then s.j2 else s.list
def nU(s:gp):Bool:=(s.kind==19&&decide ((fp s).kind >1))||s.kind==2
def tl(x:aq)(n:List UInt8):aq:=⟨x.kind,n,x.cJ,x.perms,x.line,x.gn⟩
def vY(s:gp):List aq:=(if mG s then [fp s]else [])++(if nU s then(oQ s).map fun a=>tl (fp s) a else [])
theorem aeN(s:aq)(n:List UInt8):setAt (aq.cells s) 1 [.d (.str n)]=aq.cells (tl s n):=rfl
theorem aiE(k:Int)(n:List UInt8)(b:Bool)(l c:Int)(p:List (List UInt8))(k':Int):setAt (setAt (aq.cells ⟨k,n,b,p,l,c⟩) 0 [.d (.int .i64 k')]) 2 [.d (.bool true)]=aq.cells ⟨k',n,true,p,l,c⟩:=rfl
theorem aiF(k:Int)(n:List UInt8)(b:Bool)(l c:Int)(p:List (List UInt8))(k':Int):(setAt (aq.cells ⟨k,n,b,p,l,c⟩) 0 [.d (.int .i64 k')]).length =6:=rfl
theorem agl(s:aq)(p:List (List UInt8)):setAt (aq.cells s) 3 [.d (bB 1 (cP p))]=aq.cells {s with perms:=p}:=rfl
theorem qC(b:Bool):aB (.d (.bool b))=some [.d (.bool b)]:=rfl
theorem qD(n:Int):aB (.d (.int .i64 n))=some [.d (.int .i64 n)]:=rfl
theorem pz(n:List UInt8):aB (.d (.str n))=some [.d (.str n)]:=rfl
def Ey(s:gp):Nat→List UInt8
 |0=>(fp s).name
 |i+1=>(oQ s).getD i []
theorem qJ(x y:List SV):af.again x (.cells y)=.cells x:=rfl
theorem ads(l:List aq)(x:aq):aK l++[x.enc]=aK (l++[x]):=BH l x
theorem aao{s:gp}{x:D}(hs:vk s x)(hl:s.list.length≤2^30)(ha:s.j2.length≤2^30):aG Try.prog gl 65 [.d x] (aQ 6 (aK (vY s))):=by
 have hk:=aaO hs
 cases hs with
 |mk r5 r6 cD al rest h jn nN=>
  refine cM bG (cb (fn:=Try.f65) (by kernel_rfl) (by kernel_rfl) (by kernel_rfl)) (h:=vV) ?_;rw[aiD];intro bJ
  rw[ajQ]
  simp only[sS,sT,sZ,qJ,qA,kc,iU,kW,l6,me,l9,ma,mc,nW,ga,fN,fD,gO,gE,g7,kV,g8,kX,l5,qC,qD,pz,jz,ke,h]
  refine dZ hk ?_
  simp only[sS,sT,sZ,qJ,qA,kc,iU,kW,l6,me,l9,ma,mc,nW,ga,fN,fD,gO,gE,g7,kV,g8,kX,l5,qC,qD,pz,jz,ke]
  refine tC [.d (.sl .nil 0 []),.d (.bool (s.kind==19)),.d (.bool (s.kind==19&&(decide (s.op≥1)&&decide (s.op≤8))))] [iM s r5 r6 cD al rest,aq.cells ⟨jg s.kind,s.name,false,[],s.line,s.gn⟩] (fun J hJ=>?_) ?_
  ·refine And.intro (fun h1=>?_) (fun h1=>?_)
   ·refine And.intro (fun h2=>?_) (fun h2=>?_)
    ·simpa only[h1,h2,Bool.true_and]using hJ
    ·simpa only[h1,h2,Bool.true_and,Bool.false_and]using hJ
   ·simpa only[h1,Bool.false_and]using hJ
  simp only[sS,sT,sZ,qJ,qA,kc,iU,kW,l6,me,l9,ma,mc,nW,ga,fN,fD,gO,gE,g7,kV,g8,kX,l5,qC,qD,pz,jz,ke]
  refine tC [.d (.sl .nil 0 []),.d (.bool (s.kind==19))] [iM s r5 r6 cD al rest,(rM s).cells] (fun J hJ=>?_) ?_
  ·refine And.intro (fun h1=>?_) (fun h1=>?_)
   ·simp only[rM,if_pos h1]at hJ
    simp only[aiE,aiF]
    exact⟨by decide,by decide,hJ⟩
   ·rw[rM,if_neg (by rw[h1];simp)]at hJ
    exact hJ
  show mC Try.prog gl _ vV (((gQ pq).drop 6).take 4) _ ⟨ZE (.d (.sl .nil 0 [])) (.d (.bool (s.kind==19))),[.cells (iM s r5 r6 cD al rest),.cells (rM s).cells]⟩
  rw[ajR]
  simp only[sS,sT,sZ,qJ,qA,kc,iU,kW,l6,me,l9,ma,mc,nW,ga,fN,fD,gO,gE,g7,kV,g8,kX,l5,qC,qD,pz,jz,ke]
  refine tC [.d (.sl .nil 0 []),.d (.bool (s.kind==19))] [iM s r5 r6 cD al rest,(fp s).cells] (fun J hJ=>?_) ?_
  ·refine And.intro (fun h1=>?_) (fun h1=>?_)
   ·rw[fp,if_pos h1]at hJ
    refine cV (Nb [] s.list (.nil 0 rfl) jn (by decide) (by omega)) (ka _ _) ?_
    simp only[ez,wo,agl,acn,sS,sT,sZ,qJ,qA,kc,iU,kW,l6,me,l9,ma,mc,nW,ga,fN,fD,gO,gE,g7,kV,g8,kX,l5,qC,qD,pz,jz,ke]
    exact⟨by decide,hJ⟩
   ·rw[fp,if_neg (by rw[h1];simp)]at hJ
    exact hJ
  simp only[sS,sT,sZ,qJ,qA,kc,iU,kW,l6,me,l9,ma,mc,nW,ga,fN,fD,gO,gE,g7,kV,g8,kX,l5,qC,qD,pz,jz,ke]
  refine tC [.d (.sl .nil 0 []),.d (.bool (s.kind==19)),.d (.bool (mG s))] [iM s r5 r6 cD al rest,(fp s).cells] (fun J hJ=>?_) ?_
  ·unfold mG at hJ
   refine And.intro (fun h1=>?_) (fun h1=>?_)
   ·refine And.intro (fun h2=>?_) (fun h2=>?_)
    ·simpa only[h1,h2,Bool.true_and,Bool.true_or]using hJ
    ·simpa only[h1,h2,Bool.true_and,Bool.false_or]using hJ
   ·simpa only[h1,Bool.false_and]using hJ
  simp only[sS,sT,sZ,qJ,qA,kc,iU,kW,l6,me,l9,ma,mc,nW,ga,fN,fD,gO,gE,g7,kV,g8,kX,l5,qC,qD,pz,jz,ke]
  refine tC [aQ 6 (aK (if mG s then [fp s]else [])),.d (.bool (s.kind==19))] [iM s r5 r6 cD al rest,(fp s).cells] (fun J hJ=>?_) ?_
  ·refine And.intro (fun h1=>?_) (fun h1=>?_)
   ·rw[if_pos h1]at hJ
    simp only[dG,k8,jQ,sS,sT,sZ]
    exact Uf (qB 6 _) (by show 1*72≤140737488355328;decide) hJ
   ·rw[if_neg (by rw[h1];simp)]at hJ
    exact hJ
  show mC Try.prog gl _ vV ((gQ pq).drop 10) _ ⟨YW (aQ 6 (aK (if mG s then [fp s]else []))) (.d (.bool (s.kind==19))),[.cells (iM s r5 r6 cD al rest),.cells (fp s).cells]⟩
  rw[ajS]
  simp only[iC,sS,sT,sZ,qJ,qA,kc,iU,kW,l6,me,l9,ma,mc,nW,ga,fN,fD,gO,gE,g7,kV,g8,kX,l5,qC,qD,pz,jz,ke]
  have hM:∃mx,aW 1 (cP (oQ s)) mx∧(s.kind==19)=false→mx=al:=⟨al,fun h=>rfl⟩
  obtain⟨mx,ct,hm⟩:∃mx,aW 1 (cP (oQ s)) mx∧mx=(if !(s.kind==19)then al else cD):=by
   refine⟨_,?_,rfl⟩
   unfold oQ
   cases (s.kind==19)<;>assumption
  have tm:(oQ s).length ≤2^30:=by unfold oQ;split<;>assumption
  refine tC [aQ 6 (aK (if mG s then [fp s]else [])),.d (.bool (s.kind==19)),.d mx] [iM s r5 r6 cD al rest,(fp s).cells] (fun J hJ=>?_) ?_
  ·rw[hm]at hJ
   refine And.intro (fun h1=>?_) (fun h1=>?_)
   ·simp only[h1,if_true]at hJ;exact hJ
   ·simp only[h1,Bool.false_eq_true,if_false]at hJ;exact hJ
  clear hM hm
  simp only[sS,sT,sZ,qJ,qA,kc,iU,kW,l6,me,l9,ma,mc,nW,ga,fN,fD,gO,gE,g7,kV,g8,kX,l5,qC,qD,pz,jz,ke]
  have pr:(if mG s then [fp s]else []).length ≤1:=by split<;>simp
  have aY:(fp s).cells =aq.cells (tl (fp s) (Ey s 0)):=rfl
  rw[aY]
  have EH:aQ 6 (aK (if mG s then [fp s]else []))=aQ 6 (aK ((if mG s then [fp s]else [])++((oQ s).take 0).map fun a=>tl (fp s) a)):=by simp
  rw[EH]
  refine fV (fun i=>[aQ 6 (aK ((if mG s then [fp s]else [])++((oQ s).take i).map fun a=>tl (fp s) a)),.d (.bool (s.kind==19)),.d mx,.d (.int .i64 ((i:Nat):Int))]) (fun i=>[iM s r5 r6 cD al rest,aq.cells (tl (fp s) (Ey s i))]) (if nU s then(oQ s).length else 0) (fun i hi I hI=>?_) (fun I=>?_)
  ·have hC:nU s=true:=by
    cases h:nU s with
    |true=>rfl
    |false=>rw[h]at hi;simp at hi
   rw[hC,if_pos rfl]at hi
   simp only[ct.len,jP,sS,sT,sZ,qJ,qA,kc,iU,kW,l6,me,l9,ma,mc,nW,ga,fN,fD,gO,gE,g7,kV,g8,kX,l5,qC,qD,pz,jz,ke]
   refine tC [aQ 6 (aK ((if mG s then [fp s]else [])++((oQ s).take i).map fun a=>tl (fp s) a)),.d (.bool (s.kind==19)),.d mx,.d (.int .i64 ((i:Nat):Int)),.d (.bool true)] [iM s r5 r6 cD al rest,aq.cells (tl (fp s) (Ey s i))] (fun J hJ=>?_) ?_
   ·refine And.intro (fun _=>?_) (fun h=>absurd h (by simp;omega))
    unfold nU at hC
    refine And.intro (fun h1=>?_) (fun h1=>?_)
    ·rw[h1,Bool.true_and]at hC
     refine And.intro (fun h2=>?_) (fun h2=>?_)
     ·exact hJ
     ·have h2:decide ((fp s).kind >1)=false:=h2
      rw[h2,Bool.false_or]at hC
      rw[hC];exact hJ
    ·rw[h1,Bool.false_and,Bool.false_or]at hC
     rw[hC];exact hJ
   simp only[sS,sT,sZ,qJ,qA,kc,iU,kW,l6,me,l9,ma,mc,nW,ga,fN,fD,gO,gE,g7,kV,g8,kX,l5,qC,qD,pz,jz,ke]
   refine And.intro (fun _=>?_) (fun h=>absurd h (by simp))
   obtain⟨t,ht⟩:=get_some hi
   have rH:Ey s (i+1)=t:=by simp[Ey,List.getD_eq_getElem?_getD,ht]
   simp only[ct.at (Ak ht),Ad,aeN,fD,pz,dG,k8,jQ,sS,sT,sZ,qJ,qA,kc,iU,kW,l6,me,l9,ma,mc,nW,ga,fN,fD,gO,gE,g7,kV,g8,kX,l5,qC,qD,pz,jz,ke]
   refine⟨by decide,?_⟩
   refine gN (qB 6 _) (by simp only[eA,List.length_append,List.length_map,List.length_take,List.length_singleton];omega) ?_
   refine aU (br hi (by simp only[maxLen];omega)) ?_
   rw[dX ht,List.map_append,←List.append_assoc,List.map_cons,List.map_nil,←ads,rH]at hI
   exact hI
  ·simp only[ct.len,jP,sS,sT,sZ,qJ,qA,kc,iU,kW,l6,me,l9,ma,mc,nW,ga,fN,fD,gO,gE,g7,kV,g8,kX,l5,qC,qD,pz,jz,ke]
   have fin:∀n:Nat,n=(if nU s then(oQ s).length else 0)→aQ 6 (aK ((if mG s then [fp s]else [])++((oQ s).take n).map fun a=>tl (fp s) a))=aQ 6 (aK (vY s)):=fun n hn=>by
    subst hn
    unfold vY
    cases nU s<;>simp
   generalize hn:(if nU s then(oQ s).length else 0)=n
   have fin:=fin n hn.symm
   refine tC [aQ 6 (aK ((if mG s then [fp s]else [])++((oQ s).take n).map fun a=>tl (fp s) a)),.d (.bool (s.kind==19)),.d mx,.d (.int .i64 (n:Int)),.d (.bool false)] [iM s r5 r6 cD al rest,aq.cells (tl (fp s) (Ey s n))] (fun J hJ=>?_) ?_
   ·refine And.intro (fun aO=>?_) (fun _=>hJ)
    have aO:=of_decide_eq_true aO
    have hC:nU s=false:=by
     cases h:nU s with
     |false=>rfl
     |true=>rw[h,if_pos rfl]at hn;omega
    unfold nU at hC
    simp only[Bool.or_eq_false_iff]at hC
    refine And.intro (fun h1=>?_) (fun h1=>?_)
    ·rw[h1,Bool.true_and]at hC
     refine And.intro (fun h2=>?_) (fun h2=>?_)
     ·have h2:decide ((fp s).kind >1)=true:=h2
      rw[h2]at hC;cases hC.1
     ·rw[hC.2];exact hJ
    ·rw[hC.2];exact hJ
   simp only[sS,sT,sZ,qJ,qA,kc,iU,kW,l6,me,l9,ma,mc,nW,ga,fN,fD,gO,gE,g7,kV,g8,kX,l5,qC,qD,pz,jz,ke]
   refine And.intro (fun h=>absurd h (by simp)) (fun _=>?_)
   simp only[kS,true_and]
   rw[fin]
theorem aiG(s:gp):vY s=cd s:=by
 obtain⟨kind,op,line,gn,name,list,j2⟩:=s
 by_cases Ic:kind=19
 ·subst Ic
  have d0:jg 19=0:=by decide
  by_cases h1:op=1
  ·subst h1
   simp[vY,mG,nU,fp,rM,cd,d0]
  ·by_cases h2:op>1∧op≤8
   ·have e1:decide (op≥1)=true:=by simp;omega
    have e2:decide (op≤8)=true:=by simp;omega
    have e3:decide (op>1)=true:=by simp;omega
    have e4:(op==1)=false:=by simp[h1]
    have e5:(op != 0)=true:=by simp;omega
    simp[vY,mG,nU,oQ,fp,rM,cd,d0,tl,e1,e2,e3,e4,e5,h1,h2.1,h2.2]
   ·have e1:(decide (op≥1)&&decide (op≤8))=false:=by simp;omega
    have e2:(decide (op>1)&&decide (op≤8))=false:=by simp;omega
    have e4:(op==1)=false:=by simp[h1]
    simp only[vY,mG,nU,fp,rM,cd,d0,e1,e4,Bool.and_assoc,e2,Bool.and_false,Bool.false_eq_true,if_false]
    simp
 ·have SC:(kind==19)=false:=by simp[Ic]
  by_cases h2:kind=2
  ·subst h2
   have d2:jg 2=2:=by decide
   simp[vY,mG,nU,oQ,fp,rM,cd,d2,tl]
  ·have k2:(kind==2)=false:=by simp[h2]
   have d2:(jg kind==2)=false:=by
    unfold jg
    simp only[k2]
    split
    ·decide
    ·simp only[Bool.false_eq_true,if_false]
     repeat' split
     all_goals decide
   by_cases hd:jg kind=0
   ·have kG:(jg kind != 0)=false:=by simp[hd]
    simp[vY,mG,nU,fp,rM,cd,SC,k2,hd]
   ·have kG:(jg kind != 0)=true:=by simp[hd]
    by_cases zA:jg kind=1
    ·simp[vY,mG,nU,fp,rM,cd,SC,k2,zA]
    ·have alq:(jg kind==1)=false:=by simp[zA]
     simp[vY,mG,nU,fp,rM,cd,SC,k2,kG,d2,zA,alq,hd]
end Go.Proofs.Ytimbllcalipehaa.Ab
namespace Go.Proofs.Ytimbllcalipehaa.Ab
open Go
set_option maxRecDepth 4000
set_option linter.unusedVariables false
theorem Jy{s:gp}{x:aq}(h:x∈cd s):x.kind≠0:=by
 unfold cd at h
 split at h
 ·rename_i hd
  have hd:jg s.kind≠0:=by simpa using hd
  rcases List.mem_cons.1 h with rfl|h
  ·exact hd
  ·split at h
   ·obtain⟨a,_,rfl⟩:=List.mem_map.1 h
    exact hd
   ·cases h
 ·split at h
  ·rename_i hk
   simp only[Bool.and_eq_true,beq_iff_eq]at hk
   rcases List.mem_cons.1 h with rfl|h
   ·show s.op≠0
    rw[hk.2];decide
   ·cases h
  ·split at h
   ·rename_i hk
    simp only[Bool.and_eq_true,beq_iff_eq,decide_eq_true_eq]at hk
    obtain⟨a,_,rfl⟩:=List.mem_map.1 h
    show s.op≠0
    omega
   ·cases h
theorem Ye{k:Int}(h:k≠0):DQ k=Fe k:=by
 unfold DQ Fe
 have:(k==0)=false:=by simp[h]
 rw[this];simp
theorem UY{x:aq}(hx:x.kind≠0):∀{l:List aq}(tw:Bool),(∀y∈l,y.kind≠0)→pE x tw l=pH x tw l
 |[],tw,_=>rfl
 |y::l,tw,h=>by
  rw[pE,pH,Ye hx,Ye (h y (by simp))]
  have ih:=fun tw=>UY hx (l:=l) tw (fun z hz=>h z (by simp[hz]))
  rw[ih,ih,Bool.and_comm (!y.cJ)]
theorem adt{x:aq}(hx:x.kind≠0){l:List aq}(h:∀y∈l,y.kind≠0):wO l x=pI l x:=by
 rw[wO,pI,UY hx _ h,Bool.and_comm]
def Yf(c:Int)(s:aq):D:=.agg [.int .i64 c,.int .i64 s.line,.int .i64 s.gn,.str s.name]
def Yg:D:=.agg [.int .i64 0,.int .i64 0,.int .i64 0,.str []]
def Kw(W:List aq):SV:=match iD [] W with
 |some (c,s)=>.aJ [.d (.sl .nil 0 []),.d (Yf c s)]
 |none=>.aJ [aQ 6 (aK W),.d Yg]
theorem Gf(a b c d:D):aB (.d (.agg [a,b,c,d]))=some [.d a,.d b,.d c,.d d]:=rfl
theorem GX{α:Type}(a b c d:α):[a,b,c,d].length =4:=rfl
theorem GY(a b c d:SV)(x y z u:SV):setAt [a,b,c,d] 0 [x,y,z,u]=[x,y,z,u]:=rfl
theorem GD(a b c d:D):aj true 4 0 [.d a,.d b,.d c,.d d]=some (.d (.agg [a,b,c,d])):=rfl
theorem aco{ay:List gp}{i:Nat}{s:gp}(h:ay[i]? =some s):((ay.take i).flatMap cd).length +(cd s).length ≤(ay.flatMap cd).length :=by
 rw[Nn h,List.length_append,List.length_append];omega
theorem adu(ay:List gp){L:List D}{xs:D}(hx:aW 55 L xs)(hs:D8 ay L)(hn:ay.length≤maxLen)(hl:(ay.flatMap cd).length ≤2^30):
  aG Try.prog gl 45 [.d xs] (Kw (ay.flatMap cd)):=by
 refine cM bG (cb (fn:=Try.f45) (by kernel_rfl) (by kernel_rfl) (by kernel_rfl)) (h:=h45) ?_;rw[ahw];intro bJ
 have hlen:=hs.len
 have kinds:∀x∈ay.flatMap cd,x.kind≠0:=fun x hx=>by
  obtain⟨s,_,h⟩:=List.mem_flatMap.1 hx
  exact Jy h
 generalize hW:ay.flatMap cd=W at kinds hl ⊢
 have hWW:W=ay.flatMap cd:=hW.symm
 refine np (fun i=>iD [] W=iD ((ay.take i).flatMap cd) ((ay.drop i).flatMap cd)) (fun i=>[.d xs,aQ 6 (aK ((ay.take i).flatMap cd)),.d (.int .i64 ((i:Nat):Int))]) (fun i=>[[.d (.int .i64 0),.d (.int .i64 0),.d (.int .i64 0),.d (.str [])]]) ay.length (by rw[List.take_zero,List.drop_zero,hW];rfl) (fun i hi hJ I hI=>?_) (fun hJ I=>?_)
 ·simp only[sS,sT,sZ,hx.len,hlen]
  refine And.intro (fun _=>?_) (fun h=>absurd h (by simp;omega))
  obtain⟨s,oP⟩:=get_some hi
  obtain⟨y,hy,aY,b1,b2,b3⟩:=hs.at_ i s oP
  have hle:=aco oP
  rw[hW]at hle
  have Pv:=Nn oP
  rw[hW]at Pv
  simp only[hx.at hy,aY.load,sS,sT,sZ]
  refine cV (aao aY b1 b2) (ka _ _) ?_
  rw[aiG]
  simp only[ez,sS,sT,sZ]
  have hv:=cK 6 (aK (cd s))
  generalize bB 6 (aK (cd s))=v at hv ⊢
  have ajT:(ay.drop i).flatMap cd=cd s++(ay.drop (i+1)).flatMap cd:=by rw[xY oP,List.flatMap_cons]
  have va:aQ 6 (aK ((ay.take i).flatMap cd))=aQ 6 (aK ((ay.take i).flatMap cd++(cd s).take 0)):=by rw[List.take_zero,List.append_nil]
  rw[va]
  refine np (fun k=>iD [] W=iD ((ay.take i).flatMap cd++(cd s).take k) ((cd s).drop k++(ay.drop (i+1)).flatMap cd)) (fun k=>[.d xs,aQ 6 (aK ((ay.take i).flatMap cd++(cd s).take k)),.d (.int .i64 (i:Int)),.d v,.d (.int .i64 ((k:Nat):Int))]) (fun k=>[[.d (.int .i64 0),.d (.int .i64 0),.d (.int .i64 0),.d (.str [])]]) (cd s).length (by rw[List.take_zero,List.append_nil,List.drop_zero,hJ,ajT]) (fun k hk lz I2 cq=>?_) (fun lz I2=>?_)
  ·simp only[sS,sT,sZ,hv.len,eA,ez]
   refine And.intro (fun _=>?_) (fun h=>absurd h (by simp;omega))
   obtain⟨z,hz⟩:=get_some hk
   simp only[hv.at (mf hz),qI,sS,sT,sZ]
   have gv:((ay.take i).flatMap cd++(cd s).take k).length ≤2^30:=by rw[List.length_append,List.length_take];omega
   have p6:z.kind≠0:=Jy (List.mem_of_getElem? hz)
   have hpk:∀y∈(ay.take i).flatMap cd++(cd s).take k,y.kind≠0:=fun y hy=>by
    rcases List.mem_append.1 hy with h|h
    ·obtain⟨s',_,h⟩:=List.mem_flatMap.1 h
     exact Jy h
    ·exact Jy (List.mem_of_mem_take h)
   refine dZ (aaP ((ay.take i).flatMap cd++(cd s).take k) z (cK 6 _) (by simp only[maxLen];omega)) ?_
   rw[adt p6 hpk]
   rw[xY hz,List.cons_append,iD]at lz
   simp only[sS,sT,sZ,Kv]
   refine And.intro (fun h=>?_) (fun h=>?_)
   ·have bf:¬pI ((ay.take i).flatMap cd++(cd s).take k) z=0:=by simpa using h
    rw[if_neg bf]at lz
    simp only[hv.at (mf hz),Ga,Gb,Gc,Gd,Ge,Gy,Gz,GA,GB,GC,FQ,sS,sT,sZ,kX,Uc,Gf,GX,GY,GD]
    rw[Kw,lz]
    rfl
   ·have he:pI ((ay.take i).flatMap cd++(cd s).take k) z=0:=by simpa using h
    rw[if_pos he]at lz
    simp only[hv.at (mf hz),qI,sS,sT,sZ,dG,k8,jQ]
    refine gN (qB 6 _) (by rw[eA];simp only[List.length_singleton];omega) ?_
    refine aU (br hk (by simp only[maxLen];omega)) ?_
    rw[BH]
    rw[dX hz,←List.append_assoc]at cq
    refine cq ?_
    exact lz
  ·simp only[sS,sT,sZ,hv.len,eA]
   refine And.intro (fun h=>absurd h (by simp)) (fun _=>?_)
   refine aU (br hi hn) ?_
   rw[List.take_length]at lz ⊢
   rw[List.drop_length,List.nil_append]at lz
   have e:(ay.take (i+1)).flatMap cd=(ay.take i).flatMap cd++cd s:=by rw[dX oP,List.flatMap_append];simp
   rw[e]at hI
   exact hI lz
 ·simp only[sS,sT,sZ,hx.len,hlen]
  refine And.intro (fun h=>absurd h (by simp)) (fun _=>?_)
  rw[List.drop_length,List.take_length,hW,List.flatMap_nil,iD]at hJ
  simp only[show aS []=some [] from rfl,uM,Gf,GX,GY,GD,sS,sT,sZ]
  rw[Kw,hJ,List.take_length,hW]
  simp only[kS,true_and]
  rfl
end Go.Proofs.Ytimbllcalipehaa.Ab
namespace Go.Proofs.Ytimbllcalipehaa.Ab
open Go
set_option maxRecDepth 4000
set_option linter.unusedVariables false
def DD(l:List (List UInt8)):Prop:=dedup l=l
theorem Wn:∀(l acc:List (List UInt8)),acc.Nodup→(l.foldl lb acc).Nodup
 |[],acc,h=>h
 |s::l,acc,h=>by
  rw[List.foldl_cons]
  refine Wn l _ ?_
  unfold lb
  split
  ·exact h
  ·rename_i hs
   rw[List.nodup_append]
   refine⟨h,by simp,fun a ha b hb=>?_⟩
   have:b=s:=by simpa using hb
   subst this
   intro he
   subst he
   exact hs (FP.2 ha)
theorem Ug(l:List (List UInt8)):(dedup l).Nodup :=Wn l [] List.nodup_nil
theorem Wo:∀(l acc:List (List UInt8)),(acc++l).Nodup →l.foldl lb acc=acc++l
 |[],acc,h=>by simp
 |s::l,acc,h=>by
  have hs:fR s acc=false:=by
   cases hh:fR s acc with
   |false=>rfl
   |true=>
    have h1:=FP.1 hh
    have h2:=(List.nodup_append.1 h).2.2 s h1 s (by simp)
    exact absurd rfl h2
  rw[List.foldl_cons,lb,hs,if_neg (by simp),Wo l (acc++[s]) (by rw[List.append_assoc];exact h)]
  simp
theorem aiH{l:List (List UInt8)}:DD l↔l.Nodup:=by
 constructor
 ·intro h;rw[←h];exact Ug l
 ·intro h;exact Wo l [] (by simpa using h)
theorem Ow(l:List (List UInt8)):DD (dedup l):=aiH.2 (Ug l)
theorem agm{l m:List (List UInt8)}(h:DD l):ji l m=dedup (l++m):=by
 unfold dedup ji
 rw[List.foldl_append]
 have:l.foldl lb []=l:=h
 rw[this]
theorem agn{s:gp}{x:aq}(h:x∈cd s):DD x.perms:=by
 unfold cd at h
 split at h
 ·rcases List.mem_cons.1 h with rfl|h
  ·show DD (if jg s.kind==1 then dedup s.list else [])
   split
   ·exact Ow _
   ·exact rfl
  ·split at h
   ·obtain⟨a,_,rfl⟩:=List.mem_map.1 h
    exact rfl
   ·cases h
 ·split at h
  ·rcases List.mem_cons.1 h with rfl|h
   ·exact Ow _
   ·cases h
  ·split at h
   ·obtain⟨a,_,rfl⟩:=List.mem_map.1 h
    exact rfl
   ·cases h
def Co(s:aq)(out:List aq):Option Nat:=first (fun y=>y.kind==s.kind&&(y.name==s.name&&y.cJ==true)) out
def Az(all:List aq)(s:aq):Bool:=s.cJ&&(vf s.kind s.name||decide (w6 s.kind s.name false all≥0))
def Ip(y:aq)(p:List (List UInt8)):aq:=⟨y.kind,y.name,y.cJ,p,y.line,y.gn⟩
def uR(all out:List aq)(s:aq):List aq:=
 if Az all s then out else
 if s.cJ then(match Co s out with
  |some j=>(match out[j]? with|some y=>out.set j (Ip y (ji y.perms s.perms))|none=>out)
  |none=>out++[s])
 else out++[s]
def yd(all:List aq)(l:List aq):List aq:=l.foldl (uR all) []
theorem aeO{α:Type}(p:α→Bool)(l:List α):(first p l).isSome =l.any p:=by
 induction l with
 |nil=>rfl
 |cons x l ih=>
  unfold first
  split
  ·rename_i h;simp[h]
  ·rename_i h
   have h:p x=false:=by simpa using h
   rw[List.any_cons,h,Bool.false_or,←ih]
   cases first p l<;>rfl
theorem aeP(o:Option Nat):decide (orM o≥0)=o.isSome:=by
 cases o with
 |none=>rfl
 |some j=>simp[orM]
theorem adv(all:List aq)(s:aq):decide (w6 s.kind s.name false all≥0)=ld all s:=by
 rw[w6,aeP,aeO,ld]
 congr 1
 funext y
 unfold hZ
 cases y.cJ<;>cases (y.kind==s.kind)<;>cases (y.name==s.name)<;>rfl
structure AS(all out:List aq):Prop where
 dd:∀y∈out,DD y.perms
 dec:∀y∈out,y.cJ=false→ld all y=true
 cJ:∀y∈out,y.cJ=true→ld all y=false
 one:∀(i j:Nat)y z,out[i]? =some y→out[j]? =some z→y.cJ=true→hZ z y=true→i=j
theorem UZ{all:List aq}{y z:aq}(h:hZ y z=true):ld all y=ld all z:=by
 simp only[hZ,Bool.and_eq_true,beq_iff_eq]at h
 simp only[ld,hZ,h.1,h.2]
theorem NJ{s:aq}:∀{l:List aq},jh s l=none→∀y∈l,hZ y s=false
 |[],_,y,h=>by simp at h
 |z::l,h,y,hy=>by
  rw[jh]at h
  cases hl:jh s l with
  |some j=>rw[hl]at h;cases h
  |none=>
   rw[hl]at h
   simp only at h
   split at h
   ·cases h
   ·rename_i hz
    rcases List.mem_cons.1 hy with rfl|hy
    ·simpa using hz
    ·exact NJ hl y hy
theorem adw{all out:List aq}(hB:AS all out){s:aq}(hs:ld all s=false):Co s out=jh s out:=by
 cases hl:jh s out with
 |some j=>
  obtain⟨y,hy,tf⟩:=JP hl
  have lO:y.cJ=true:=by
   cases h:y.cJ with
   |true=>rfl
   |false=>
    have:=hB.dec y (List.mem_of_getElem? hy) h
    rw[UZ tf,hs]at this
    cases this
  simp only[hZ,Bool.and_eq_true,beq_iff_eq]at tf
  refine wC hy (by rw[tf.1,tf.2,lO];simp) fun i z hi hz=>?_
  cases gW:(z.kind==s.kind&&(z.name==s.name&&z.cJ==true))with
  |false=>rfl
  |true=>
   exfalso
   simp only[Bool.and_eq_true,beq_iff_eq]at gW
   have:=hB.one j i y z hy hz lO (by simp[hZ,tf.1,tf.2,gW.1,gW.2.1])
   omega
 |none=>
  refine wj fun i z hz=>?_
  have:=NJ hl z (List.mem_of_getElem? hz)
  unfold hZ at this
  cases h1:(z.kind==s.kind)with
  |false=>rfl
  |true=>
   rw[h1,Bool.true_and]at this
   rw[this];rfl
theorem step_eq{all out:List aq}(hB:AS all out){s:aq}(rA:s∈all)(Iq:DD s.perms):uR all out s=sa all out s∧AS all (sa all out s):=by
 have ajU:Az all s=(s.cJ&&(ld all s||vf s.kind s.name)):=by rw[Az,adv,Bool.or_comm]
 unfold uR sa
 rw[ajU]
 cases hk:(s.cJ&&(ld all s||vf s.kind s.name))with
 |true=>exact⟨rfl,by simpa using hB⟩
 |false=>
  simp only[Bool.false_eq_true,if_false]
  have snoc:(∀y∈out,hZ y s=true→y.cJ=false∧s.cJ=false)→(s.cJ=true→ld all s=false)→AS all (out++[s]):=fun eT hd=>by
   refine⟨fun y hy=>?_,fun y hy hr=>?_,fun y hy hr=>?_,fun i j y z hy hz hr cm=>?_⟩
   ·rcases List.mem_append.1 hy with h|h
    ·exact hB.dd y h
    ·have:y=s:=by simpa using h
     subst this;exact Iq
   ·rcases List.mem_append.1 hy with h|h
    ·exact hB.dec y h hr
    ·have:y=s:=by simpa using h
     subst this
     rw[ld,List.any_eq_true]
     exact⟨y,rA,by simp[hr,hZ]⟩
   ·rcases List.mem_append.1 hy with h|h
    ·exact hB.cJ y h hr
    ·have:y=s:=by simpa using h
     subst this;exact hd hr
   ·rcases Nat.lt_or_ge i out.length with hi|hi<;>rcases Nat.lt_or_ge j out.length with hj|hj
    ·rw[List.getElem?_append_left hi]at hy
     rw[List.getElem?_append_left hj]at hz
     exact hB.one i j y z hy hz hr cm
    ·exfalso
     rw[List.getElem?_append_left hi]at hy
     rw[List.getElem?_append_right hj]at hz
     have gW:z=s:=by
      have:=List.mem_of_getElem? hz
      simpa using this
     subst gW
     have h1:=eT y (List.mem_of_getElem? hy) (by simp only[hZ,Bool.and_eq_true,beq_iff_eq]at cm ⊢;exact⟨cm.1.symm,cm.2.symm⟩)
     rw[hr]at h1;cases h1.1
    ·exfalso
     rw[List.getElem?_append_right hi]at hy
     rw[List.getElem?_append_left hj]at hz
     have tf:y=s:=by
      have:=List.mem_of_getElem? hy
      simpa using this
     subst tf
     have h1:=eT z (List.mem_of_getElem? hz) cm
     rw[hr]at h1;cases h1.2
    ·have h1:=(List.getElem?_eq_some_iff.1 hy).1
     have h2:=(List.getElem?_eq_some_iff.1 hz).1
     simp at h1 h2
     omega
  cases hr:s.cJ with
  |false=>
   have cm:∀y∈out,hZ y s=true→y.cJ=false∧s.cJ=false:=fun y hy hs=>by
    refine⟨?_,hr⟩
    cases h:y.cJ with
    |false=>rfl
    |true=>
     have h1:=hB.cJ y hy h
     rw[UZ hs]at h1
     have:ld all s=true:=by
      rw[ld,List.any_eq_true]
      exact⟨s,rA,by simp[hr,hZ]⟩
     rw[this]at h1;cases h1
   have ml:=snoc cm (fun h=>by rw[hr]at h;cases h)
   cases jh s out with
   |none=>exact⟨by simp,ml⟩
   |some j=>exact⟨by simp,by simpa using ml⟩
  |true=>
   rw[hr,Bool.true_and,Bool.or_eq_false_iff]at hk
   rw[adw hB hk.1]
   simp only[if_true]
   cases hl:jh s out with
   |none=>
    exact⟨rfl,snoc (fun y hy hs=>by rw[NJ hl y hy]at hs;cases hs) (fun _=>hk.1)⟩
   |some j=>
    obtain⟨y,hy,tf⟩:=JP hl
    have HP:=hB.dd y (List.mem_of_getElem? hy)
    have kH:=(List.getElem?_eq_some_iff.1 hy).1
    simp only[hy]
    have hm:Ip y (ji y.perms s.perms)=An y s:=by rw[agm HP];rfl
    rw[hm]
    refine⟨rfl,?_⟩
    have mem:∀z∈out.set j (An y s),z∈out∨z=An y s:=fun z hz=>List.mem_or_eq_of_mem_set hz
    refine⟨fun z hz=>?_,fun z hz mU=>?_,fun z hz mU=>?_,fun i k z u hz hu mU cm=>?_⟩
    ·rcases mem z hz with h|rfl
     ·exact hB.dd z h
     ·exact Ow _
    ·rcases mem z hz with h|rfl
     ·exact hB.dec z h mU
     ·exact hB.dec y (List.mem_of_getElem? hy) mU
    ·rcases mem z hz with h|rfl
     ·exact hB.cJ z h mU
     ·exact hB.cJ y (List.mem_of_getElem? hy) mU
    ·have back:∀(i:Nat)z,(out.set j (An y s))[i]? =some z→∃z',out[i]? =some z'∧z'.cJ=z.cJ∧z'.kind=z.kind∧z'.name=z.name:=fun i z hz=>by
      rw[List.getElem?_set]at hz
      split at hz
      ·rename_i mA
       subst mA
       cases hz
       exact⟨y,hy,rfl,rfl,rfl⟩
      ·exact⟨z,hz,rfl,rfl,rfl⟩
     obtain⟨z',a1,a2,a3,a4⟩:=back i z hz
     obtain⟨u',b1,b2,b3,b4⟩:=back k u hu
     refine hB.one i k z' u' a1 b1 (by rw[a2];exact mU) ?_
     unfold hZ at cm ⊢
     rw[b3,b4,a3,a4];exact cm
theorem Yh{all:List aq}:∀(l out:List aq),(∀s∈l,s∈all∧DD s.perms)→AS all out→l.foldl (uR all) out=l.foldl (sa all) out
 |[],out,_,_=>rfl
 |s::l,out,h,hB=>by
  have:=step_eq hB (h s (by simp)).1 (h s (by simp)).2
  rw[List.foldl_cons,List.foldl_cons,this.1]
  exact Yh l _ (fun t ht=>h t (by simp[ht])) this.2
theorem AS.nil(all:List aq):AS all []:=⟨fun y h=>by simp at h,fun y h=>by simp at h,fun y h=>by simp at h,fun i j y z h=>by simp at h⟩
theorem VG{all l:List aq}(h:∀s∈l,s∈all∧DD s.perms):yd all l=jf all l:=Yh l [] h (AS.nil all)
end Go.Proofs.Ytimbllcalipehaa.Ab
namespace Go.Proofs.Ytimbllcalipehaa.Ab
open Go
set_option maxRecDepth 4000
set_option linter.unusedVariables false
theorem aeQ(l:List aq):(bc (aK l)).map aa=bc (aK l):=by
 induction l with
 |nil=>rfl
 |cons s l ih=>rw[BA,List.map_append,ih];rfl
theorem J7(k:Nat)(hk:k<6):∀(l:List aq)(j:Nat)(y:aq),l[j]? =some y→(bc (aK l))[j*6+k]? =((jZ y).map SV.d)[k]?
 |[],j,y,h=>by simp at h
 |s::l,0,y,h=>by
  simp at h;subst h
  rw[BA,Nat.zero_mul,Nat.zero_add,List.getElem?_append_left (by simp[jZ];omega)]
 |s::l,j+1,y,h=>by
  rw[BA,List.getElem?_append_right (by simp[jZ];omega)]
  have:(j+1)*6+k-((jZ s).map SV.d).length =j*6+k:=by simp[jZ];omega
  rw[this]
  exact J7 k hk l j y (by simpa using h)
theorem Wp(n sz:Nat)(cs:List SV):bm (.cU n sz cs)=some (.d (.int .i64 n)):=rfl
theorem Wq(n sz:Nat)(cs:List SV):aa (.cU n sz cs)=.cU n sz cs:=rfl
theorem ago{n sz i:Nat}{cs:List SV}(h:i<n):aL sz (.cU n sz cs) (.d (.int .i64 (i:Int)))=some (.ref cs (i*sz)):=by
 simp only[aL,je h,if_true]
theorem aeR(cs:List SV)(o n:Nat):bP (.ref cs o) n=some (.ref cs (o+n)):=rfl
theorem agp(cs:List SV)(o:Nat):aI false 1 (.ref cs o)=(match cs[o]? with|some z=>some (aa z)|none=>none):=rfl
theorem abp(l:List aq)(hl:l.length≤maxLen)(k:Int)(n:List UInt8)(r:Bool):aG Try.prog gl 47 [.cU l.length 6 (bc (aK l)),.d (.int .i64 k),.d (.str n),.d (.bool r)] (.d (.int .i64 (w6 k n r l))):=by
 refine cM bG (cb (fn:=Try.f47) (by kernel_rfl) (by kernel_rfl) (by kernel_rfl)) (h:=Ss) ?_;rw[X9];intro bJ
 refine np (fun i=>∀(j:Nat)z,j<i→l[j]? =some z→(z.kind==k&&(z.name==n&&z.cJ==r))=false) (fun i=>[.cU l.length 6 (bc (aK l)),.d (.int .i64 k),.d (.str n),.d (.bool r),.d (.int .i64 ((i:Nat):Int))]) (fun i=>[]) l.length (fun j t hj=>by omega) (fun i hi hJ I hI=>?_) (fun hJ I=>?_)
 ·simp only[sS,sT,sZ,Wq,Wp]
  refine And.intro (fun _=>?_) (fun h=>absurd h (by simp;omega))
  obtain⟨z,hz⟩:=get_some hi
  have nx:(z.kind==k&&(z.name==n&&z.cJ==r))=false→∀(j:Nat)z,j<i+1→l[j]? =some z→(z.kind==k&&(z.name==n&&z.cJ==r))=false:=fun h j z' hj iJ=>by
   rcases Nat.lt_or_ge j i with h2|h2
   ·exact hJ j z' h2 iJ
   ·have:j=i:=by omega
    subst this
    rw[hz]at iJ;cases iJ;exact h
  have c0:=J7 0 (by decide) l i z hz
  have c1:=J7 1 (by decide) l i z hz
  have c2:=J7 2 (by decide) l i z hz
  have d0:((jZ z).map SV.d)[0]? =some (.d (.int .i64 z.kind)):=rfl
  have d1:((jZ z).map SV.d)[1]? =some (.d (.str z.name)):=rfl
  have d2:((jZ z).map SV.d)[2]? =some (.d (.bool z.cJ)):=rfl
  rw[d0]at c0
  rw[d1]at c1
  rw[d2]at c2
  rw[Nat.add_zero]at c0
  generalize bc (aK l)=cs at hI c0 c1 c2 ⊢
  simp only[ago hi,age,aeR,Nat.add_zero,agp,c0,c1,c2,sS,sT,sZ,Aj,ke,VF]
  refine And.intro (fun h1=>?_) (fun h1=>?_)
  ·refine And.intro (fun h2=>?_) (fun h2=>?_)
   ·refine And.intro (fun h3=>?_) (fun h3=>?_)
    ·rw[w6,wC hz (by rw[h1,h2,h3];rfl) hJ];rfl
    ·refine aU (br hi hl) ?_
     exact hI (nx (by rw[h3,Bool.and_false,Bool.and_false]))
   ·refine aU (br hi hl) ?_
    exact hI (nx (by rw[h2,Bool.false_and,Bool.and_false]))
  ·refine aU (br hi hl) ?_
   exact hI (nx (by rw[h1,Bool.false_and]))
 ·simp only[sS,sT,sZ,Wq,Wp]
  refine And.intro (fun h=>absurd h (by simp)) (fun _=>?_)
  rw[w6,wj fun j z hz=>hJ j z (List.getElem?_eq_some_iff.1 hz).1 hz]
  rfl
theorem VH(s:aq)(out:List aq):w6 s.kind s.name true out=orM (Co s out):=rfl
theorem aeS{W:List aq}{s:aq}(h:s∈W):s.perms.length≤db W:=by
 obtain⟨i,hi⟩:=List.mem_iff_getElem?.1 h
 have h1:=Br hi
 have h2:=Dl W (i+1)
 omega
theorem stepR_skip{W out:List aq}{s:aq}(h:Az W s=true):uR W out s=out:=by rw[uR,if_pos h]
theorem N6{W out:List aq}{s:aq}(h:Az W s=false)(hn:s.cJ=true→Co s out=none):uR W out s=out++[s]:=by
 rw[uR,if_neg (by rw[h];simp)]
 cases hr:s.cJ with
 |false=>simp
 |true=>rw[if_pos rfl,hn hr]
theorem adx{W out:List aq}{s y:aq}{j:Nat}(h:Az W s=false)(hr:s.cJ=true)(hq:Co s out=some j)(hy:out[j]? =some y):uR W out s=out.set j (Ip y (ji y.perms s.perms)):=by
 rw[uR,if_neg (by rw[h];simp),if_pos hr,hq]
 simp only[hy]
def AT(l:List aq):SV:=match iD [] l with
 |some (c,s)=>.aJ [.d (.sl .nil 0 []),.d (.agg [.int .i64 c,.int .i64 s.line,.int .i64 s.gn,.str s.name])]
 |none=>.aJ [aQ 6 (aK (jf l l)),.d (.agg [.int .i64 0,.int .i64 0,.int .i64 0,.str []])]
theorem TR(ay:List gp){L:List D}{xs:D}(hx:aW 55 L xs)(hs:D8 ay L)(hn:ay.length≤maxLen)(hl:(ay.flatMap cd).length ≤2^30)(hp:db (ay.flatMap cd)≤2^30):
  aG Try.prog gl 22 [.d xs] (AT (ay.flatMap cd)):=by
 refine cM bG (cb (fn:=Try.f22) (by kernel_rfl) (by kernel_rfl) (by kernel_rfl)) (h:=h22) ?_;rw[ahp];intro bJ
 have fJ:=adu ay hx hs hn hl
 have Iq:∀s∈ay.flatMap cd,s∈ay.flatMap cd∧DD s.perms:=fun s h=>⟨h,by obtain⟨t,_,ht⟩:=List.mem_flatMap.1 h;exact agn ht⟩
 generalize ay.flatMap cd=W at fJ Iq hl hp ⊢
 have ej:W.length≤maxLen:=by simp only[maxLen];omega
 unfold Kw at fJ
 unfold AT
 simp only[sS,sT,sZ]
 cases hc:iD [] W with
 |some cs=>
  obtain⟨c,s⟩:=cs
  rw[hc]at fJ
  refine call2 fJ ?_
  have bf:=JS W [] c s hc
  simp only[sS,sT,sZ,Yf,Gf,GX,GY,GD,fZ,Kv,Nat.le_refl,true_and]
  refine And.intro (fun _=>?_) (fun h=>absurd h (by simp[bf]))
  first|rfl|exact⟨rfl,rfl⟩|trivial
 |none=>
  rw[hc]at fJ
  refine call2 fJ ?_
  simp only[sS,sT,sZ,Yg,Gf,GX,GY,GD,fZ,Kv,Nat.le_refl,true_and,ez,Wk]
  refine And.intro (fun h=>absurd h (by simp)) (fun _=>?_)
  let fz:List SV:=[.d (.int .i64 0),.d (.int .i64 0),.d (.int .i64 0),.d (.str [])]
  refine fV (fun i=>[.d (bB 6 (aK W)),rk (yd W (W.take i)),.d (.int .i64 ((i:Nat):Int))]) (fun i=>[fz,fz]) W.length (fun i hi I hI=>?_) (fun I=>?_)
  ·simp only[sS,sT,sZ,(cK 6 (aK W)).len,eA]
   refine And.intro (fun _=>?_) (fun h=>absurd h (by simp;omega))
   obtain⟨s,oP⟩:=get_some hi
   have vZ:=br hi ej
   simp only[(cK 6 (aK W)).at (mf oP),qI,ga,fN,g8,fD,gO,gE,g7,sS,sT,sZ]
   have jD:yd W (W.take (i+1))=uR W (yd W (W.take i)) s:=by rw[dX oP,yd,yd,List.foldl_append];rfl
   have heq:yd W (W.take i)=jf W (W.take i):=VG fun t ht=>Iq t (List.mem_of_mem_take ht)
   have hlen:=NH W W i
   have Ew:=TQ W W i
   have aln:=Dl W i
   have lL:=aeS (List.mem_of_getElem? oP)
   rw[←heq]at hlen Ew
   rw[jD]at hI
   generalize yd W (W.take i)=out at hI hlen Ew ⊢
   refine tC [.d (bB 6 (aK W)),rk out,.d (.int .i64 (i:Int)),.d (.bool (Az W s))] [fz,fz,s.cells] (fun J hJ=>?_) ?_
   ·unfold Az at hJ
    refine And.intro (fun h1=>?_) (fun h1=>?_)
    ·refine dZ (NI s) ?_
     simp only[sS,sT,sZ]
     refine And.intro (fun h2=>?_) (fun h2=>?_)
     ·rw[h1,h2]at hJ;exact hJ
     ·refine dZ (UX W (cK 6 _) ej _ _ _) ?_
      rw[h1,h2,Bool.true_and,Bool.false_or]at hJ
      simp only[sS,sT,sZ]
      exact hJ
    ·rw[h1,Bool.false_and]at hJ;exact hJ
   simp only[sS,sT,sZ]
   refine And.intro (fun hk=>?_) (fun hk=>?_)
   ·rw[stepR_skip hk]at hI
    refine aU vZ ?_
    exact hI
   refine FT (fun bf=>?_) (fun he=>?_)
   ·simp only[gO,gE,g7,kV,fD,aeQ,eA,sS,sT,sZ]
    refine dZ (abp out (by simp only[maxLen];omega) _ _ _) ?_
    rw[VH]
    simp only[sS,sT,sZ]
    refine And.intro (fun hr=>?_) (fun hr=>?_)
    ·cases hq:Co s out with
     |none=>
      simp only[orM,sS,sT,sZ]
      refine And.intro (fun h=>absurd h (by decide)) (fun _=>?_)
      simp only[z8,z5,fD,dG,k8,jQ,sS,sT,sZ]
      refine FU (by omega) ?_
      refine aU vZ ?_
      rw[N6 hk (fun _=>hq)]at hI
      exact hI
     |some j=>
      obtain⟨y,hy,_⟩:=Bz hq
      have hj:j<out.length:=(List.getElem?_eq_some_iff.1 hy).1
      have hyp:=Ew y (List.mem_of_getElem? hy)
      rw[adx hk hr hq hy]at hI
      simp only[orM,sS,sT,sZ]
      refine And.intro (fun _=>?_) (fun h=>absurd h (by simp))
      simp only[je hj,OV,NZ out j y hy,kV,sS,sT,sZ]
      refine cV (Nb y.perms s.perms (cK 1 _) (cK 1 _) (by omega) (by omega)) (ka _ _) ?_
      have hg:=z5 (out.set j (Ip y (ji y.perms s.perms)))
      rw[List.length_set]at hg
      have aY:(bc (aK out)).set (j*6+3) (.d (bB 1 (cP (ji y.perms s.perms))))=bc (aK (out.set j (Ip y (ji y.perms s.perms)))):=Ov out j y (ji y.perms s.perms) hy
      simp only[ez,wo,je hj,sS,sT,sZ,Xd,jz]
      rw[aY]
      refine⟨by rw[Ou];omega,?_⟩
      simp only[z8,sS,sT,sZ]
      refine aU hg ?_
      refine aU vZ ?_
      rw[OU (by intro h;have h2:=congrArg List.length h;simp only[List.length_set,List.length_nil]at h2;omega)]at hI
      exact hI
    ·simp only[z8,z5,fD,dG,k8,jQ,sS,sT,sZ]
     refine FU (by omega) ?_
     refine aU vZ ?_
     rw[N6 hk (fun h=>by rw[hr]at h;cases h)]at hI
     exact hI
   ·subst he
    simp only[gO,gE,g7,kV,fD,Jw,sS,sT,sZ]
    refine dZ (UX [] (.nil iN rfl) (by decide) _ _ _) ?_
    have hq:Co s []=none:=rfl
    rw[VH,hq]
    have cq:I [.d (bB 6 (aK W)),rk [s],.d (.int .i64 ((i+1:Nat):Int))] [fz,fz]:=by
     rw[N6 hk (fun _=>hq)]at hI
     exact hI
    simp only[orM,sS,sT,sZ]
    refine And.intro (fun hr=>?_) (fun hr=>?_)
    ·refine And.intro (fun h=>absurd h (by decide)) (fun _=>?_)
     simp only[fD,dG,k8,jQ,sS,sT,sZ]
     refine FI ?_
     refine aU vZ ?_
     exact cq
    ·simp only[fD,dG,k8,jQ,sS,sT,sZ]
     refine FI ?_
     refine aU vZ ?_
     exact cq
  ·simp only[sS,sT,sZ,(cK 6 (aK W)).len,eA]
   refine And.intro (fun h=>absurd h (by simp)) (fun _=>?_)
   have heq:yd W (W.take W.length)=jf W W:=by rw[List.take_length];exact VG Iq
   rw[heq]
   simp only[Wl,show aS []=some [] from rfl,uM,Gf,GX,GY,GD,sS,sT,sZ]
   refine⟨Nat.le_refl 4,kS _ _,?_⟩
   exact And.intro rfl rfl
end Go.Proofs.Ytimbllcalipehaa.Ab
namespace Go.Proofs.Ytimbllcalipehaa.Ab
open Go
set_option maxRecDepth 4000
set_option linter.unusedVariables false
theorem aap{m:C1}{d:D}(hd:Lw m d)(hm:Q1 m):aG Try.prog gl 21 [.d d] (AT m.syms):=by
 cases hd with
 |mk xs L hx hs=>
 refine cM bG (cb (fn:=Try.f21) (by kernel_rfl) (by kernel_rfl) (by kernel_rfl)) (h:=h21) ?_;rw[aho];intro bJ
 simp only[BI,AR,DA,sS,sT,sZ]
 have hB:=TR m.ay hx hs (Nat.le_trans hm.n (by decide)) hm.l hm.p
 have e:m.ay.flatMap cd=m.syms:=rfl
 rw[e]at hB
 unfold AT at hB ⊢
 cases hc:iD [] m.syms with
 |none=>
  simp only[hc]at hB ⊢
  refine call2 hB ?_
  simp only[dq,dr,fE,dC,kS,sS,sT,sZ]
 |some p=>
  obtain⟨c,s⟩:=p
  simp only[hc]at hB ⊢
  refine call2 hB ?_
  simp only[dq,dr,fE,dC,sS,sT,sZ]
end Go.Proofs.Ytimbllcalipehaa.Ab
namespace Go.Proofs.Ytimbllcalipehaa.Ab
open Go
set_option linter.unusedVariables false
set_option maxRecDepth 4000
inductive ah where
 |mk (s:gp) (th el:List ah)
def ah.s:ah→gp| .mk s _ _=>s
def ah.th:ah→List ah| .mk _ a _=>a
def ah.el:ah→List ah| .mk _ _ b=>b
mutual
def ah.sz:ah→Nat
 | .mk _ a b=>1+ah.dE a+ah.dE b
def ah.dE:List ah→Nat
 |[]=>0
 |t::l=>t.sz+ah.dE l
end
mutual
inductive na:ah→D→Prop
 |mk (s:gp) (th el:List ah) (r5 r6 cD al:D) (rest:List D) (yt ye:D) (Lt Le:List D) (h:rest.length=46) (hl:aW 1 (cP s.list) cD) (ha:aW 1 (cP s.j2) al) (ht:rest[44]? =some yt) (he:rest[45]? =some ye)
   (Mw:aW 55 Lt yt) (EU:aW 55 Le ye) (kM:fe th Lt) (j1:fe el Le):na (.mk s th el) (.agg (mF s r5 r6 cD al rest))
inductive fe:List ah→List D→Prop
 |nil:fe [] []
 |cons (t:ah) (x:D) (l:List ah) (L:List D) (h:na t x) (hl:fe l L):fe (t::l) (x::L)
end
theorem fe.len:∀{l:List ah}{L:List D},fe l L→L.length=l.length
 |[],_,h=>by cases h;rfl
 |t::l,_,h=>by cases h with|cons _ _ _ _ _ hl=>simp[hl.len]
theorem fe.at_:∀{l:List ah}{L:List D},fe l L→∀{i:Nat}{t:ah},l[i]? =some t→∃y,L[i]? =some y∧na t y
 |[],_,_,i,t,h=>by simp at h
 |t::l,_,h,0,u,hu=>by cases h with|cons _ x _ _ h hl=>simp at hu;subst hu;exact⟨x,rfl,h⟩
 |t::l,_,h,i+1,u,hu=>by cases h with|cons _ _ _ _ _ hl=>simpa using hl.at_ (by simpa using hu)
theorem ah.AA:∀{l:List ah}{i:Nat}{t:ah},l[i]? =some t→t.sz≤ah.dE l
 |[],i,t,h=>by simp at h
 |u::l,0,t,h=>by simp at h;subst h;simp[ah.dE]
 |u::l,i+1,t,h=>by
  have:=ah.AA (l:=l) (i:=i) (t:=t) (by simpa using h)
  simp only[ah.dE];omega
theorem ah.tG:∀(l:List ah),l.length≤ah.dE l
 |[]=>by simp
 | .mk s a b::l=>by
   have:=ah.tG l
   simp only[List.length_cons,ah.dE,ah.sz];omega
theorem ah.Ag(t:ah):t.sz=1+ah.dE t.th+ah.dE t.el:=by cases t;rfl
structure TC(t:ah)(x:D)(c:List SV)(cD al yt ye:D)(Lt Le:List D):Prop where
 is:vk t.s x
 load:aI true 55 (.aX x 0)=some (.d x)
 cells:aB (.d x)=some c
 len:c.length=55
 p0:aj false 1 0 c=some (.d (.int .i64 t.s.kind))
 Ir:aj false 1 53 c=some (.d yt)
 It:aj false 1 54 c=some (.d ye)
 whole:aj true 55 0 c=some (.d x)
 l0:aI false 1 (.aX x 0)=some (.d (.int .i64 t.s.kind))
 l7:aI false 1 (.aX x 7)=some (.d cD)
 l8:aI false 1 (.aX x 8)=some (.d al)
 Iu:aI false 1 (.aX x 53)=some (.d yt)
 Iv:aI false 1 (.aX x 54)=some (.d ye)
 Hk:aW 1 (cP t.s.list) cD
 EL:aW 1 (cP t.s.j2) al
 jN:aW 55 Lt yt
 fU:aW 55 Le ye
 kM:fe t.th Lt
 j1:fe t.el Le
theorem na.out{t:ah}{x:D}(h:na t x):∃c cD al yt ye Lt Le,TC t x c cD al yt ye Lt Le:=by
 cases h with
 |mk s th el r5 r6 cD al rest yt ye Lt Le h hl ha ht he Mw EU kM j1=>
  have hs:vk s (.agg (mF s r5 r6 cD al rest)):=.mk r5 r6 cD al rest h hl ha
  have C2:(mF s r5 r6 cD al rest)[53]? =some yt:=ht
  have C3:(mF s r5 r6 cD al rest)[54]? =some ye:=he
  have c53:(iM s r5 r6 cD al rest)[53]? =some (.d yt):=by
   show(rest.map SV.d)[44]? =_
   rw[List.getElem?_map,ht];rfl
  have c54:(iM s r5 r6 cD al rest)[54]? =some (.d ye):=by
   show(rest.map SV.d)[45]? =_
   rw[List.getElem?_map,he];rfl
  exact⟨iM s r5 r6 cD al rest,cD,al,yt,ye,Lt,Le,hs,hs.load,rfl,by rw[iU,h],rfl,by rw[aj,cond_false,c53],by rw[aj,cond_false,c54],nW s r5 r6 cD al rest h,rfl,
   wm _ 7 _ rfl,wm _ 8 _ rfl,wm _ 53 _ C2,wm _ 54 _ C3,hl,ha,Mw,EU,kM,j1⟩
theorem km(x:D)(n:Nat):bP (.aX x 0) n=some (.aX x n):=by simp[bP]
theorem BJ{z c:List SV}{n:Nat}(hz:z.length=n)(h:c.length=n):setAt z 0 c=c:=UT (by rw[h,hz])
mutual
def ah.nb:ah→Nat
 | .mk s a b=>if s.kind==18 then 1+ah.aE a+ah.aE b else 0
def ah.aE:List ah→Nat
 |[]=>0
 |t::l=>t.nb+ah.aE l
end
theorem ah.D9(t:ah):t.nb=if t.s.kind==18 then 1+ah.aE t.th+ah.aE t.el else 0:=by cases t;rfl
theorem ah.DS(l:List ah):ah.aE l=(l.map ah.nb).sum :=by
 induction l with
 |nil=>rfl
 |cons t l ih=>simp[ah.aE,ih]
theorem ah.Wr{l:List ah}{i:Nat}{t:ah}(h:l[i]? =some t):ah.aE (l.take (i+1))=ah.aE (l.take i)+t.nb:=by
 rw[dX h,ah.DS,ah.DS];simp
mutual
theorem ah.ajV:∀(t:ah),t.nb≤t.sz
 | .mk s a b=>by
   have h1:=ah.qQ a
   have h2:=ah.qQ b
   simp only[ah.nb,ah.sz]
   split<;>omega
theorem ah.qQ:∀(l:List ah),ah.aE l≤ah.dE l
 |[]=>by simp[ah.aE]
 |t::l=>by
  have h1:=ah.ajV t
  have h2:=ah.qQ l
  simp only[ah.aE,ah.dE];omega
end
theorem Np:∀(n:Nat)(ts:List ah){L:List D}{x:D},ah.dE ts≤n→aW 55 L x→fe ts L→ah.dE ts≤2^30→aG Try.prog gl 37 [.d x] (.d (.int .i64 (ah.aE ts:Int)))
 |0,ts,L,x,hn,hx,hs,hb=>by
  have h0:=ah.tG ts
  have:ts=[]:=List.length_eq_zero_iff.1 (by omega)
  subst this
  cases hs
  refine cM bG (cb (fn:=Try.f37) (by kernel_rfl) (by kernel_rfl) (by kernel_rfl)) (h:=Sr) ?_;rw[Yb];intro bJ
  simp only[hx.len,sS,sT,sZ]
  refine fV (fun i=>[.d (.int .i64 0),.d x,.d (.int .i64 ((0:Nat):Int)),.d (.int .i64 ((i:Nat):Int))]) (fun i=>[]) 0 (fun i hi I hI=>absurd hi (by omega)) (fun I=>?_)
  simp only[sS,sT,sZ]
  refine And.intro (fun h=>absurd h (by simp)) (fun _=>?_)
  rfl
 |n+1,ts,L,x,hn,hx,hs,hb=>by
  have h0:=ah.tG ts
  have ct:ts.length≤maxLen:=Nat.le_trans (Nat.le_trans h0 hb) (by decide)
  refine cM bG (cb (fn:=Try.f37) (by kernel_rfl) (by kernel_rfl) (by kernel_rfl)) (h:=Sr) ?_;rw[Yb];intro bJ
  simp only[hx.len,hs.len,sS,sT,sZ]
  refine fV (fun i=>[.d (.int .i64 (ah.aE (ts.take i):Int)),.d x,.d (.int .i64 (ts.length:Int)),.d (.int .i64 ((i:Nat):Int))]) (fun i=>[]) ts.length (fun i hi I hI=>?_) (fun I=>?_)
  ·simp only[sS,sT,sZ]
   refine And.intro (fun _=>?_) (fun h=>absurd h (by simp;omega))
   obtain⟨t,ht⟩:=get_some hi
   obtain⟨y,hy,eU⟩:=hs.at_ ht
   obtain⟨c,cD,al,yt,ye,Lt,Le,hc⟩:=eU.out
   have eW:=BJ (z:=jH) (c:=c) rfl hc.len
   simp only[sZ]at eW
   have hz:=ah.AA ht
   have Bb:=t.Ag
   have fW:=ah.Wr ht
   have Ff:=ah.qQ (ts.take (i+1))
   rw[fW]at hI
   have hle:ah.aE (ts.take (i+1))≤ah.aE ts:=by
    rw[ah.DS,ah.DS,←List.take_append_drop (i+1) ts,List.map_append,List.sum_append,List.take_append_drop];omega
   have anc:=ah.qQ ts
   rw[t.D9]at hI fW
   simp only[hx.at hy,hc.load,hc.cells,hc.len,eW,hc.p0,sS,sT,sZ]
   refine And.intro (fun hk=>?_) (fun hk=>?_)
   ·rw[if_pos hk]at hI fW
    have k1:=Np n t.th (by omega) hc.jN hc.kM (by omega)
    have k2:=Np n t.el (by omega) hc.fU hc.j1 (by omega)
    simp only[hc.Ir,hc.It,sS,sT,sZ]
    refine dZ k1 ?_
    refine aU (F9 (m:=1) (n:=ah.aE t.th) (by omega)) ?_
    refine dZ k2 ?_
    refine aU (F9 (m:=1+ah.aE t.th) (n:=ah.aE t.el) (by omega)) ?_
    refine aU (F9 (m:=ah.aE (ts.take i)) (n:=1+ah.aE t.th+ah.aE t.el) (by omega)) ?_
    refine aU (br hi ct) ?_
    exact hI
   ·rw[if_neg (by rw[hk];simp),Nat.add_zero]at hI
    refine aU (br hi ct) ?_
    exact hI
  ·simp only[sS,sT,sZ]
   refine And.intro (fun h=>absurd h (by simp)) (fun _=>?_)
   rw[List.take_length]
end Go.Proofs.Ytimbllcalipehaa.Ab
namespace Go.Proofs.Ytimbllcalipehaa.Ab
open Go
set_option linter.unusedVariables false
set_option maxRecDepth 4000
theorem J8{α β:Type}{f:α→List β}{c:Nat}:∀{l:List α},(∀x∈l,(f x).length ≤c)→(l.flatMap f).length ≤l.length*c
 |[],_=>by simp
 |x::l,h=>by
  have h1:=h x (by simp)
  have h2:=J8 (l:=l) fun y hy=>h y (by simp[hy])
  rw[List.flatMap_cons,List.length_append,List.length_cons,Nat.succ_mul]
  omega
theorem Xe{c:Nat}:∀{W:List aq},(∀x∈W,x.perms.length≤c)→db W≤W.length*c
 |[],_=>by simp[db]
 |x::W,h=>by
  have h1:=h x (by simp)
  have h2:=Xe (W:=W) fun y hy=>h y (by simp[hy])
  unfold db at h2 ⊢
  rw[List.map_cons,List.sum_cons,List.length_cons,Nat.succ_mul]
  omega
theorem NK(s:gp)(h1:s.list.length≤40)(h2:s.j2.length≤40):(cd s).length ≤41∧∀x∈cd s,x.perms.length≤40:=by
 have hd:=NG s.list
 constructor
 ·unfold cd
  split
  ·rw[List.length_cons]
   split
   ·rw[List.length_map];omega
   ·simp
  ·split
   ·simp
   ·split
    ·rw[List.length_map];omega
    ·simp
 ·intro x h
  unfold cd at h
  split at h
  ·rcases List.mem_cons.1 h with rfl|h
   ·show(if jg s.kind==1 then dedup s.list else []).length ≤40
    split
    ·omega
    ·simp
   ·split at h
    ·obtain⟨a,_,rfl⟩:=List.mem_map.1 h
     simp
    ·cases h
  ·split at h
   ·rcases List.mem_cons.1 h with rfl|h
    ·show(dedup s.list).length ≤40
     omega
    ·cases h
   ·split at h
    ·obtain⟨a,_,rfl⟩:=List.mem_map.1 h
     simp
    ·cases h
mutual
def ah.uB:ah→Nat→Option Nat
 | .mk s a b,n=>match n with
   |0=>none
   |n+1=>if 30<s.list.length then none else if 30<s.j2.length then none else(ah.iY a n).bind (ah.iY b)
def ah.iY:List ah→Nat→Option Nat
 |[],n=>some n
 |t::l,n=>(t.uB n).bind (ah.iY l)
end
theorem ah.YX(t:ah):t.uB 0=none:=by cases t;rfl
theorem ah.aiI(t:ah)(n:Nat):t.uB (n+1)=if 30<t.s.list.length then none else if 30<t.s.j2.length then none else(ah.iY t.th n).bind (ah.iY t.el):=by cases t;rfl
theorem ah.Ox:∀(a b:List ah)(n:Nat),ah.iY (a++b) n=(ah.iY a n).bind (ah.iY b)
 |[],b,n=>rfl
 |t::a,b,n=>by
  rw[List.cons_append,ah.iY,ah.iY]
  cases t.uB n with
  |none=>rfl
  |some m=>exact ah.Ox a b m
theorem ah.ady{l:List ah}{i:Nat}{t:ah}(h:l[i]? =some t)(n:Nat):ah.iY (l.take (i+1)) n=(ah.iY (l.take i) n).bind t.uB:=by
 rw[dX h,ah.Ox]
 congr 1
 funext m
 rw[ah.iY]
 cases t.uB m<;>rfl
theorem ah.aeT{l:List ah}{i n:Nat}(h:ah.iY (l.take i) n=none):ah.iY l n=none:=by
 rw[←List.take_append_drop i l,ah.Ox,h];rfl
mutual
def ah.ok:ah→Prop
 | .mk s a b=>s.list.length≤30∧s.j2.length≤30∧ah.uC a∧ah.uC b
def ah.uC:List ah→Prop
 |[]=>True
 |t::l=>t.ok∧ah.uC l
end
theorem ah.ok_eq(t:ah):t.ok=(t.s.list.length≤30∧t.s.j2.length≤30∧ah.uC t.th∧ah.uC t.el):=by cases t;rfl
theorem ah.Kx:∀{l:List ah},ah.uC l→∀t∈l,t.ok
 |[],_,t,h=>by simp at h
 |u::l,h,t,ht=>by
  simp only[ah.uC]at h
  rcases List.mem_cons.1 ht with rfl|ht
  ·exact h.1
  ·exact ah.Kx h.2 t ht
mutual
theorem ah.aiJ:∀(t:ah)(n m:Nat),t.uB n=some m→m+t.sz=n∧t.ok
 |t,0,m,h=>by rw[ah.YX]at h;cases h
 | .mk s a b,n+1,m,h=>by
   simp only[ah.uB]at h
   split at h
   ·cases h
   ·split at h
    ·cases h
    ·obtain⟨k,h1,h2⟩:=Option.bind_eq_some_iff.1 h
     have k1:=ah.DH a n k h1
     have k2:=ah.DH b k m h2
     simp only[ah.sz,ah.ok]
     exact⟨by omega,by omega,by omega,k1.2,k2.2⟩
theorem ah.DH:∀(l:List ah)(n m:Nat),ah.iY l n=some m→m+ah.dE l=n∧ah.uC l
 |[],n,m,h=>by simp[ah.iY]at h;simp[ah.dE,ah.uC,h]
 |t::l,n,m,h=>by
  simp only[ah.iY]at h
  obtain⟨k,h1,h2⟩:=Option.bind_eq_some_iff.1 h
  have k1:=ah.aiJ t n k h1
  have k2:=ah.DH l k m h2
  simp only[ah.dE,ah.uC]
  exact⟨by omega,k1.2,k2.2⟩
end
theorem aW.Lx{sz:Nat}{L:List D}{x:D}(h:aW sz L x)(hw:x.Wf):L.length≤maxLen:=by
 cases h with
 |nil s h=>subst h;simp
 |ro=>exact hw.1
theorem sub_one{n:Nat}(h1:n+1≤2^40):ai none .sub (.d (.int .i64 ((n+1:Nat):Int))) (.d (.int .i64 1))=some (.d (.int .i64 (n:Int))):=by
 have h2:(2^40:Nat)=1099511627776:=by decide
 have hw:IntKind.i64.wrap (((n+1:Nat):Int)-1)=(n:Int):=by
  rw[wrap_i64 (by omega) (by omega)];omega
 simp only[ai,gH,k7,hw,↓reduceIte]
theorem Gg(o:Option Nat):decide (orM o<0)=o.isNone:=by
 cases o with
 |none=>decide
 |some k=>exact decide_eq_false (by simp only[orM];omega)
theorem N7:∀(N:Nat)(ts:List ah){L:List D}{x:D}(n:Nat),ah.dE ts≤N→aW 55 L x→fe ts L→n≤2^40→aG Try.prog gl 28 [.d x,.d (.int .i64 (n:Int))] (.d (.int .i64 (orM (ah.iY ts n))))
 |0,ts,L,x,n,hN,hx,hs,hn=>by
  have h0:=ah.tG ts
  have:ts=[]:=List.length_eq_zero_iff.1 (by omega)
  subst this
  cases hs
  refine cM bG (cb (fn:=Try.f28) (by kernel_rfl) (by kernel_rfl) (by kernel_rfl)) (h:=Sq) ?_;rw[Ya];intro bJ
  simp only[hx.len,sS,sT,sZ]
  refine fV (fun i=>[.d x,.d (.int .i64 (n:Int)),.d (.int .i64 ((0:Nat):Int)),.d (.int .i64 ((i:Nat):Int))]) (fun i=>[]) 0 (fun i hi I hI=>absurd hi (by omega)) (fun I=>?_)
  simp only[sS,sT,sZ]
  refine And.intro (fun h=>absurd h (by simp)) (fun _=>?_)
  rfl
 |N+1,ts,L,x,n,hN,hx,hs,hn=>by
  refine cM bG (cb (fn:=Try.f28) (by kernel_rfl) (by kernel_rfl) (by kernel_rfl)) (h:=Sq) ?_;rw[Ya];intro bJ
  have ct:ts.length≤maxLen:=by
   rw[←hs.len]
   exact hx.Lx bJ.1
  simp only[hx.len,hs.len,sS,sT,sZ]
  refine Ae (α:=Nat) (fun i m=>ah.iY (ts.take i) n=some m) (fun i m=>[.d x,.d (.int .i64 (m:Int)),.d (.int .i64 (ts.length:Int)),.d (.int .i64 ((i:Nat):Int))]) (fun i m=>[]) ts.length n rfl (fun i m hi hJ I hI=>?_) (fun m hJ I=>?_)
  ·simp only[sS,sT,sZ]
   refine And.intro (fun _=>?_) (fun h=>absurd h (by simp;omega))
   obtain⟨t,ht⟩:=get_some hi
   obtain⟨y,hy,eU⟩:=hs.at_ ht
   obtain⟨c,cD,al,yt,ye,Lt,Le,hc⟩:=eU.out
   have hz:=ah.AA ht
   have Bb:=t.Ag
   have mB:=ah.ady ht n
   have Iw:=fun h=>ah.aeT (l:=ts) (i:=i+1) (n:=n) h
   have tm:=(ah.DH _ _ _ hJ).1
   rw[hJ,Option.bind_some]at mB
   cases m with
   |zero=>
    rw[ah.YX]at mB
    refine And.intro (fun _=>?_) (fun h=>absurd h (by decide))
    rw[Iw mB]
    rfl
   |succ m=>
   refine And.intro (fun h=>absurd h (by simp;omega)) (fun _=>?_)
   rw[t.aiI]at mB
   simp only[hx.at hy,km,hc.l7,hc.l8,hc.Iu,hc.Iv,hc.Hk.len,hc.EL.len,jP,sS,sT,sZ]
   refine And.intro (fun h=>?_) (fun h=>?_)
   ·rw[if_pos (by simp at h;omega)]at mB
    rw[Iw mB]
    rfl
   rw[if_neg (by simp at h;omega)]at mB
   refine And.intro (fun h=>?_) (fun h=>?_)
   ·rw[if_pos (by simp at h;omega)]at mB
    rw[Iw mB]
    rfl
   rw[if_neg (by simp at h;omega)]at mB
   refine aU (sub_one (by omega)) ?_
   refine dZ (N7 N t.th m (by omega) hc.jN hc.kM (by omega)) ?_
   cases h1:ah.iY t.th m with
   |none=>
    rw[h1]at mB
    rw[Iw mB]
    simp only[Al,Gg,Option.isSome_none,Option.isNone_none,sS,sT,sZ]
    exact⟨fun h=>absurd h (by decide),fun _=>⟨fun _=>rfl,fun h=>absurd h (by decide)⟩⟩
   |some k=>
    have hk:=(ah.DH _ _ _ h1).1
    rw[h1,Option.bind_some]at mB
    simp only[Al,Gg,Option.isSome_some,Option.isNone_some,sS,sT,sZ]
    refine⟨fun _=>?_,fun h=>absurd h (by decide)⟩
    refine dZ (N7 N t.el k (by omega) hc.fU hc.j1 (by omega)) ?_
    cases h2:ah.iY t.el k with
    |none=>
     rw[h2]at mB
     rw[Iw mB]
     simp only[Al,Gg,Option.isSome_none,Option.isNone_none,sS,sT,sZ]
     exact⟨fun _=>rfl,fun h=>absurd h (by decide)⟩
    |some k2=>
     rw[h2]at mB
     simp only[Al,Gg,Option.isSome_some,Option.isNone_some,sS,sT,sZ]
     refine⟨fun h=>absurd h (by decide),fun _=>?_⟩
     refine aU (br hi ct) ?_
     exact hI k2 mB
  ·simp only[sS,sT,sZ]
   refine And.intro (fun h=>absurd h (by simp)) (fun _=>?_)
   rw[List.take_length]at hJ
   rw[hJ]
   rfl
structure bg where
 name:List UInt8
 vU:Int
 ay:List ah
inductive lj(m:bg):D→Prop
 |mk (xs:D) (L:List D) (hx:aW 55 L xs) (hs:fe m.ay L):lj m (.agg [.str m.name,.int .i64 m.vU,xs])
structure o9(l:List bg)(L:List D):Prop where
 len:L.length=l.length
 at_:∀{i:Nat}{m:bg},l[i]? =some m→∃y,L[i]? =some y∧lj m y
def sf(l:List bg):Bool:=decide (l.length≤8)&&l.all fun m=>(ah.iY m.ay 120).isSome
theorem PA(a b c:D):aI false 1 (.aX (.agg [a,b,c]) 2)=some (.d c):=rfl
theorem abq{l:List bg}{L:List D}{x:D}(hx:aW 3 L x)(hl:o9 l L):aG Try.prog gl 9 [.d x] (.d (.bool (sf l))):=by
 refine cM bG (cb (fn:=Try.f9) (by kernel_rfl) (by kernel_rfl) (by kernel_rfl)) (h:=h9) ?_;rw[ajJ];intro bJ
 have ct:l.length≤maxLen:=by
  rw[←hl.len]
  exact hx.Lx bJ.1
 simp only[hx.len,hl.len,sS,sT,sZ]
 refine And.intro (fun h=>?_) (fun h=>?_)
 ·have:sf l=false:=by unfold sf;rw[decide_eq_false (by simp at h;omega)];rfl
  rw[this]
 have h8:decide (l.length≤8)=true:=decide_eq_true (by simp at h;omega)
 refine np (fun i=>∀j m,j<i→l[j]? =some m→(ah.iY m.ay 120).isSome =true) (fun i=>[.d x,.d (.int .i64 (l.length:Int)),.d (.int .i64 ((i:Nat):Int))]) (fun i=>[]) l.length (fun j m hj _=>by omega) (fun i hi hJ I hI=>?_) (fun hJ I=>?_)
 ·simp only[sS,sT,sZ]
  refine And.intro (fun _=>?_) (fun h=>absurd h (by simp;omega))
  obtain⟨m,hm⟩:=get_some hi
  obtain⟨y,hy,gM⟩:=hl.at_ hm
  cases gM with
  |mk xs Lm C4 cm=>
  simp only[hx.at hy,km,PA,sS,sT,sZ]
  refine dZ (N7 _ m.ay 120 (Nat.le_refl _) C4 cm (by decide)) ?_
  simp only[Gg,sS,sT,sZ]
  refine And.intro (fun h=>?_) (fun h=>?_)
  ·have:sf l=false:=by
    unfold sf
    rw[Bool.and_eq_false_iff]
    right
    rw[List.all_eq_false]
    exact⟨m,List.mem_of_getElem? hm,by cases hc:ah.iY m.ay 120<;>simp_all⟩
   rw[this]
  ·refine aU (br hi ct) ?_
   refine hI fun j m' hj lQ=>?_
   rcases Nat.lt_or_ge j i with h2|h2
   ·exact hJ j m' h2 lQ
   ·have:j=i:=by omega
    subst this
    rw[hm]at lQ
    cases lQ
    cases hc:ah.iY m.ay 120<;>simp_all
 ·simp only[sS,sT,sZ]
  refine And.intro (fun h=>absurd h (by simp)) (fun _=>?_)
  have:sf l=true:=by
   unfold sf
   rw[h8,Bool.true_and,List.all_eq_true]
   intro m hm
   obtain⟨j,hj⟩:=List.mem_iff_getElem?.1 hm
   exact hJ j m (List.getElem?_eq_some_iff.1 hj).1 hj
  rw[this]
structure de(ts:List ah):Prop where
 sz:ah.dE ts≤120
 ok:ah.uC ts
theorem de.of{ts:List ah}{m:Nat}(h:ah.iY ts 120=some m):de ts:=by
 have:=ah.DH ts 120 m h
 exact⟨by omega,this.2⟩
theorem de.th{ts:List ah}(h:de ts){t:ah}(ht:t∈ts):de t.th∧de t.el:=by
 obtain⟨i,hi⟩:=List.mem_iff_getElem?.1 ht
 have h1:=ah.AA hi
 have h2:=t.Ag
 have h3:=ah.Kx h.ok t ht
 have h4:=h.sz
 rw[t.ok_eq]at h3
 exact⟨⟨by omega,h3.2.2.1⟩,⟨by omega,h3.2.2.2⟩⟩
def nC(ts:List ah):List aq:=(ts.map ah.s).flatMap cd
theorem de.syms{ts:List ah}(h:de ts):(nC ts).length ≤4920∧db (nC ts)≤196800:=by
 have hn:(ts.map ah.s).length ≤120:=by rw[List.length_map];exact Nat.le_trans (ah.tG ts) h.sz
 have hb:∀s∈ts.map ah.s,s.list.length≤40∧s.j2.length≤40:=fun s hs=>by
  obtain⟨t,ht,rfl⟩:=List.mem_map.1 hs
  have:=ah.Kx h.ok t ht
  rw[t.ok_eq]at this
  omega
 have h1:(nC ts).length ≤(ts.map ah.s).length *41:=J8 fun s hs=>(NK s (hb s hs).1 (hb s hs).2).1
 have h2:db (nC ts)≤(nC ts).length *40:=Xe fun x hx=>by
  obtain⟨s,hs,hx⟩:=List.mem_flatMap.1 hx
  exact(NK s (hb s hs).1 (hb s hs).2).2 x hx
 omega
theorem de.is{ts:List ah}(h:de ts){L:List D}(hs:fe ts L):D8 (ts.map ah.s) L:=by
 refine⟨by rw[List.length_map];exact hs.len,fun i s hi=>?_⟩
 rw[List.getElem?_map]at hi
 obtain⟨t,ht,rfl⟩:=Option.map_eq_some_iff.1 hi
 obtain⟨y,hy,eU⟩:=hs.at_ ht
 obtain⟨c,cD,al,yt,ye,Lt,Le,hc⟩:=eU.out
 have:=ah.Kx h.ok t (List.mem_of_getElem? ht)
 rw[t.ok_eq]at this
 have hz:=(NK t.s (by omega) (by omega)).1
 exact⟨y,hy,hc.is,by omega,by omega,by omega⟩
theorem aaQ{ts:List ah}(h:de ts){L:List D}{xs:D}(hx:aW 55 L xs)(hs:fe ts L):aG Try.prog gl 50 [.d xs] (rl (nC ts)):=by
 have h2:=h.syms
 have h0:=Nat.le_trans (ah.tG ts) h.sz
 exact Ud (ts.map ah.s) hx (h.is hs) (by rw[List.length_map];exact Nat.le_trans h0 (by decide)) (Nat.le_trans h2.1 (by decide)) (Nat.le_trans h2.2 (by decide))
theorem aaz{ts:List ah}(h:de ts){L:List D}{xs:D}(hx:aW 55 L xs)(hs:fe ts L):aG Try.prog gl 22 [.d xs] (AT (nC ts)):=by
 have h2:=h.syms
 have h0:=Nat.le_trans (ah.tG ts) h.sz
 exact TR (ts.map ah.s) hx (h.is hs) (by rw[List.length_map];exact Nat.le_trans h0 (by decide)) (Nat.le_trans h2.1 (by decide)) (Nat.le_trans h2.2 (by decide))
def bg.d(m:bg):C1:=⟨m.name,m.vU,m.ay.map ah.s⟩
def bg.syms(m:bg):List aq:=nC m.ay
theorem lj.is{m:bg}(h:de m.ay){d:D}(hd:lj m d):Lw m.d d:=by
 cases hd with
 |mk xs L hx hs=>exact .mk xs L hx (h.is hs)
theorem bg.okd{m:bg}(h:de m.ay):Q1 m.d:=by
 have h2:=h.syms
 have h0:=Nat.le_trans (ah.tG m.ay) h.sz
 exact⟨by show(m.ay.map ah.s).length ≤_;rw[List.length_map];exact Nat.le_trans h0 (by decide),Nat.le_trans h2.1 (by decide),Nat.le_trans h2.2 (by decide)⟩
theorem Tx{m:bg}(h:de m.ay){d:D}(hd:lj m d):aG Try.prog gl 24 [.d d] (rl m.syms):=aay (hd.is h) (bg.okd h)
theorem aac{m:bg}(h:de m.ay){d:D}(hd:lj m d):aG Try.prog gl 21 [.d d] (AT m.syms):=aap (hd.is h) (bg.okd h)
theorem VI{l:List bg}(h:sf l=true):l.length≤8∧∀m∈l,de m.ay:=by
 unfold sf at h
 rw[Bool.and_eq_true,List.all_eq_true]at h
 refine⟨of_decide_eq_true h.1,fun m hm=>?_⟩
 obtain⟨k,hk⟩:=Option.isSome_iff_exists.1 (h.2 m hm)
 exact .of hk
theorem TS{m:bg}{d:D}(hd:lj m d)(h:de m.ay):aG Try.prog gl 13 [.d d] (.d (.int .i64 (ah.aE m.ay:Int))):=by
 cases hd with
 |mk xs L hx hs=>
 refine cM bG (cb (fn:=Try.f13) (by kernel_rfl) (by kernel_rfl) (by kernel_rfl)) (h:=h13) ?_;rw[ahX];intro bJ
 simp only[BI,AR,DA,sS,sT,sZ]
 refine dZ (Np _ m.ay (Nat.le_refl _) hx hs (Nat.le_trans h.sz (by decide))) ?_
 simp only[sS,sT,sZ]
end Go.Proofs.Ytimbllcalipehaa.Ab
namespace Go.Proofs.Ytimbllcalipehaa.Ab
open Go
set_option linter.unusedVariables false
set_option maxRecDepth 4000
theorem yy(sz:Nat)(L:List D):aI false 1 (.aX (bB sz L) 0)=some (.d (bB sz L)):=by cases L<;>rfl
def vn(ss:List (List aq)):List D:=ss.map fun s=>bB 6 (aK s)
theorem Ws(ss:List (List aq)):(vn ss).length =ss.length:=List.length_map ..
theorem Xf{ss:List (List aq)}{i:Nat}{s:List aq}(h:ss[i]? =some s):(vn ss)[i]? =some (bB 6 (aK s)):=by simp[vn,h]
theorem Bv(sz:Nat)(L:List D):aB (.d (bB sz L))=some [.d (bB sz L)]:=by cases L<;>rfl
theorem JT(x:D)(h:x.one=true):bu 1 1 [(0,x)]=true:=by
 simp only[bu,D.uP h];rfl
theorem Xg(sz:Nat)(L:List D):(bB sz L).one =true:=by cases L<;>rfl
theorem wP(x z:D):bz (bE false [z]) [(0,x)] 1 0=[x]:=rfl
def rn(l:List bg):List (List aq):=l.map fun m=>yM m.syms
theorem BK(l:List bg):(rn l).length =l.length:=List.length_map ..
theorem Uh(l:List aq):(jf l l).length ≤l.length:=by
 have:=NH l l l.length
 rwa[List.take_length]at this
theorem aeU(l:List aq):(yM l).length ≤l.length:=by
 unfold yM
 split
 ·exact Uh l
 ·simp
theorem adz{l:List aq}{c:Int}{s:aq}(h:iD [] l=some (c,s)):rl l=.aJ [.d (.sl .nil 0 []),.d (.agg [.int .i64 c,.int .i64 s.line,.int .i64 s.gn,.str s.name])]:=by rw[rl,h]
theorem adA{l:List aq}(h:iD [] l=none):rl l=.aJ [.d (bB 6 (aK (jf l l))),.d (.agg [.int .i64 0,.int .i64 0,.int .i64 0,.str []])]:=by rw[rl,h]
theorem z4(c x y:Int)(n:List UInt8):setAt [(.d (.int .i64 0)),(.d (.int .i64 0)),(.d (.int .i64 0)),(.d (.str []))] 0 [.d (.int .i64 c),.d (.int .i64 x),.d (.int .i64 y),.d (.str n)]=[.d (.int .i64 c),.d (.int .i64 x),.d (.int .i64 y),.d (.str n)]:=rfl
theorem n9{c:Int}(h:c≠0):(c != 0)=true:=by simpa using h
theorem OZ(a b c d e f:SV):setAt [a,b,c] 0 [d,e,f]=[d,e,f]:=rfl
theorem DB(a b c:D):aI true 3 (.aX (.agg [a,b,c]) 0)=some (.d (.agg [a,b,c])):=JL _ 3 rfl
theorem wh(L:List D):elems 1 (.full 1 L)=some L:=by simp[elems]
theorem Tr{l:List bg}{L:List D}{x:D}(hx:aW 3 L x)(hl:o9 l L)(h8:l.length≤8)(hm:∀m∈l,de m.ay):aG Try.prog gl 38 [.d x] (aQ 1 (vn (rn l))):=by
 refine cM bG (cb (fn:=Try.f38) (by kernel_rfl) (by kernel_rfl) (by kernel_rfl)) (h:=h38) ?_;rw[ah3];intro bJ
 have ct:l.length≤maxLen:=Nat.le_trans h8 (by decide)
 simp only[hx.len,hl.len,sS,sT,sZ]
 refine fV (fun i=>[aQ 1 (vn (rn (l.take i))),.d x,.d (.int .i64 (l.length:Int)),.d (.int .i64 ((i:Nat):Int))]) (fun i=>[]) l.length (fun i hi I hI=>?_) (fun I=>?_)
 ·simp only[sS,sT,sZ]
  refine And.intro (fun _=>?_) (fun h=>absurd h (by simp;omega))
  obtain⟨m,dc⟩:=get_some hi
  obtain⟨y,hy,gM⟩:=hl.at_ dc
  have hS:=Tx (hm m (List.mem_of_getElem? dc)) gM
  have ajW:vn (rn (l.take (i+1)))=vn (rn (l.take i))++[bB 6 (aK (yM m.syms))]:=by
   rw[dX dc];simp[vn,rn]
  have hlen:(vn (rn (l.take i))).length =i:=by rw[Ws,BK,List.length_take];omega
  rw[ajW]at hI
  cases gM with
  |mk xs Lm C4 cm=>
  simp only[hx.at hy,DB,BI,AR,OZ,OX,sS,sT,sZ]
  cases hc:iD [] m.syms with
  |some p=>
   obtain⟨c,s⟩:=p
   rw[adz hc]at hS
   refine call2 hS ?_
   have zL:=JS _ _ _ _ hc
   simp only[dq,dr,z4,dC,fE,fZ,eQ,n9 zL,sS,sT,sZ]
   refine And.intro (fun _=>?_) (fun h=>absurd h (by decide))
   have e:bB 6 (aK (yM m.syms))=.sl .nil 0 []:=by rw[yM,hc];rfl
   rw[e]at hI
   simp only[dG,JT _ (show(D.sl .nil 0 []).one =true from rfl),wP,sS,sT,sZ]
   refine gN (wh _) (by simp only[hlen,List.length_singleton];omega) ?_
   refine aU (br hi ct) ?_
   exact hI
  |none=>
   rw[adA hc]at hS
   refine call2 hS ?_
   simp only[dq,dr,z4,dC,fE,fZ,eQ,sS,sT,sZ]
   refine And.intro (fun h=>absurd h (by decide)) (fun _=>?_)
   have e:bB 6 (aK (yM m.syms))=bB 6 (aK (jf m.syms m.syms)):=by rw[yM,hc]
   rw[e]at hI
   simp only[dG,JT _ (Xg _ _),wP,sS,sT,sZ]
   refine gN (wh _) (by simp only[hlen,List.length_singleton];omega) ?_
   refine aU (br hi ct) ?_
   exact hI
 ·simp only[sS,sT,sZ]
  refine And.intro (fun h=>absurd h (by simp)) (fun _=>?_)
  rw[List.take_length]
  exact⟨kS _ _,rfl⟩
end Go.Proofs.Ytimbllcalipehaa.Ab
namespace Go.Proofs.Ytimbllcalipehaa.Ab
open Go
set_option linter.unusedVariables false
set_option maxRecDepth 4000
def eS(n h:aq):Bool:= !h.cJ&&(h.kind==n.kind&&h.name==n.name)
def Hs(bF eF:List aq):Bool:=eF.any fun n=>n.cJ&&bF.any (eS n)
theorem ajX(s:aq):aI false 1 (.ref s.cells 0)=some (.d (.int .i64 s.kind)):=rfl
theorem ajY(s:aq):aI false 1 (.ref s.cells 1)=some (.d (.str s.name)):=rfl
theorem alr(cs:List SV)(n:Nat):bP (.ref cs 0) n=some (.ref cs n):=by simp[bP]
theorem aaA(h n:aq):aG Try.prog gl 78 [.d h.enc,.ref n.cells 0] (.d (.bool (eS n h))):=by
 refine cM bG (cb (fn:=Try.f78) (by kernel_rfl) (by kernel_rfl) (by kernel_rfl)) (h:=h78) ?_;rw[aih];intro bJ
 simp only[ga,fN,gO,gE,g7,iC,JR,alr,ajX,ajY,sS,sT,sZ]
 unfold eS
 refine And.intro (fun h1=>?_) (fun h1=>?_)
 ·refine And.intro (fun h2=>?_) (fun h2=>?_)
  ·have sY:(h.kind==n.kind)=true:=h2
   have h3:ai (some (false,[.str])) .eql (.d (.str h.name)) (.d (.str n.name))=some (.d (.bool (h.name==n.name))):=rfl
   simp only[h1,sY,h3,Bool.true_and,sS,sT,sZ]
  ·have sY:(h.kind==n.kind)=false:=h2
   rw[h1,sY]
   rfl
 ·have vv:(!h.cJ)=false:=h1
  rw[vv]
  rfl
theorem aaR(n:aq)(l:List aq){x:D}(hx:aW 6 (aK l) x)(hl:l.length≤maxLen):
  aG Try.prog gl 94 [.d x,.dT (.func 78) [] [.ref n.cells 0]] (.d (.int .i64 (orM (first (eS n) l)))):=by
 refine cM bG (cb (fn:=Try.f94) (by kernel_rfl) (by kernel_rfl) (by kernel_rfl)) (h:=h94) ?_;rw[ahO];intro bJ
 simp only[sS,sT,sZ,hx.len,eA,Af]
 refine np (fun i=>∀(j:Nat)k,j<i→l[j]? =some k→(eS n k)=false) (fun i=>[.d x,.dT (.func 78) [] [.ref n.cells 0],.d (.int .i64 (l.length:Int)),.d (.int .i64 ((i:Nat):Int))]) (fun i=>[]) l.length (fun j k hj _=>by omega) (fun i hi hJ I hI=>?_) (fun hJ I=>?_)
 ·simp only[sS,sT,sZ,Af]
  refine And.intro (fun _=>?_) (fun h=>absurd h (by simp;omega))
  obtain⟨t,ht⟩:=get_some hi
  simp only[hx.at (mf ht),qI,Af,Ue,List.nil_append,List.cons_append,sS,sT,sZ]
  refine dZ (aaA t n) ?_
  simp only[sS,sT,sZ]
  refine And.intro (fun h=>?_) (fun h=>?_)
  ·rw[wC ht (by simpa using h) hJ];rfl
  ·refine aU (br hi hl) ?_
   refine hI fun j k' hj bU=>?_
   rcases Nat.lt_or_ge j i with h2|h2
   ·exact hJ j k' h2 bU
   ·have:j=i:=by omega
    subst this
    rw[ht]at bU
    cases bU
    simpa using h
 ·simp only[sS,sT,sZ]
  refine And.intro (fun h=>absurd h (by simp)) (fun _=>?_)
  rw[wj fun j k bU=>hJ j k (List.getElem?_eq_some_iff.1 bU).1 bU]
  rfl
theorem aad(n:aq)(l:List aq){x:D}(hx:aW 6 (aK l) x)(hl:l.length≤maxLen):
  aG Try.prog gl 79 [.d x,.dT (.func 78) [] [.ref n.cells 0]] (.d (.bool (l.any (eS n)))):=by
 refine cM bG (cb (fn:=Try.f79) (by kernel_rfl) (by kernel_rfl) (by kernel_rfl)) (h:=h79) ?_;rw[ahJ];intro bJ
 simp only[sS,sT,sZ,Af]
 refine dZ (aaR n l hx hl) ?_
 have rK:=Jx (eS n) l
 simp only[sS,sT,sZ,Al,rK]
theorem aiK{α:Type}{p:α→Bool}{l:List α}{i:Nat}{x:α}(h:l[i]? =some x)(hp:p x=true):l.any p=true:=List.any_eq_true.2 ⟨x,List.mem_of_getElem? h,hp⟩
theorem aiL{α:Type}{p:α→Bool}{l:List α}(h:∀(j:Nat)x,l[j]? =some x→p x=false):l.any p=false:=by
 rw[List.any_eq_false]
 intro x hx
 obtain⟨j,hj⟩:=List.mem_iff_getElem?.1 hx
 simp[h j x hj]
theorem aaS(a b:List aq){x y:D}(hx:aW 6 (aK a) x)(hy:aW 6 (aK b) y)(ha:a.length≤maxLen)(hb:b.length≤maxLen):aG Try.prog gl 57 [.d x,.d y] (.d (.bool (Hs a b))):=by
 refine cM bG (cb (fn:=Try.f57) (by kernel_rfl) (by kernel_rfl) (by kernel_rfl)) (h:=h57) ?_;rw[aia];intro bJ
 simp only[sS,sT,sZ,hy.len,eA]
 refine np (fun i=>∀(j:Nat)k,j<i→b[j]? =some k→(k.cJ&&a.any (eS k))=false) (fun i=>[.d x,.d y,.d (.int .i64 (b.length:Int)),.d (.int .i64 ((i:Nat):Int))]) (fun i=>[]) b.length (fun j k hj _=>by omega) (fun i hi hJ I hI=>?_) (fun hJ I=>?_)
 ·simp only[sS,sT,sZ]
  refine And.intro (fun _=>?_) (fun h=>absurd h (by simp;omega))
  obtain⟨t,ht⟩:=get_some hi
  have step:(t.cJ&&a.any (eS t))=false→∀(j:Nat)k,j<i+1→b[j]? =some k→(k.cJ&&a.any (eS k))=false:=fun h j k' hj bU=>by
   rcases Nat.lt_or_ge j i with h2|h2
   ·exact hJ j k' h2 bU
   ·have:j=i:=by omega
    subst this
    rw[ht]at bU
    cases bU
    exact h
  simp only[hy.at (mf ht),qI,ga,fN,g8,g7,ack,sS,sT,sZ]
  refine And.intro (fun h=>?_) (fun h=>?_)
  ·refine dZ (aad t a hx ha) ?_
   simp only[sS,sT,sZ]
   refine And.intro (fun h2=>?_) (fun h2=>?_)
   ·rw[Hs,aiK ht (by rw[h,h2];rfl)]
   ·refine aU (br hi hb) ?_
    exact hI (step (by rw[h2,Bool.and_false]))
  ·refine aU (br hi hb) ?_
   exact hI (step (by rw[h,Bool.false_and]))
 ·simp only[sS,sT,sZ]
  refine And.intro (fun h=>absurd h (by simp)) (fun _=>?_)
  rw[Hs,aiL fun j k bU=>hJ j k (List.getElem?_eq_some_iff.1 bU).1 bU]
def cQ(l:List Nat):List D:=l.map fun(k:Nat)=>.int .i64 (k:Int)
theorem nq(l:List Nat):(cQ l).length =l.length:=List.length_map ..
theorem BQ{l:List Nat}{i k:Nat}(h:l[i]? =some k):(cQ l)[i]? =some (.int .i64 (k:Int)):=by simp[cQ,h]
def AB(ss:List (List aq))(i k:Nat):Bool:= !(k==i)&&Hs (ss.getD k []) (ss.getD i [])
def GZ(ss:List (List aq))(i:Nat):List Nat:=(List.range ss.length).filter (AB ss i)
def BZ(ss:List (List aq))(i k:Nat):List Nat:=(List.range k).filter (AB ss i)
theorem abr(ss:List (List aq))(i k:Nat):BZ ss i (k+1)=BZ ss i k++if AB ss i k then [k]else []:=by
 rw[BZ,List.range_succ,List.filter_append]
 by_cases h:AB ss i k=true
 ·simp[BZ,h]
 ·simp[BZ,h]
theorem acp(ss:List (List aq))(i k:Nat):(BZ ss i k).length ≤k:=by
 have:=List.length_filter_le (AB ss i) (List.range k)
 rwa[List.length_range]at this
theorem Jz(l:List Nat)(k:Nat):cQ (l++[k])=cQ l++[.int .i64 (k:Int)]:=by simp[cQ]
theorem JA(k:Nat):aS [(0,.v (.d (.int .i64 (k:Int))))]=some [(0,.int .i64 (k:Int))]:=rfl
theorem Gi(a b:Nat):((a:Int) != (b:Int))= !(a==b):=by
 by_cases h:a=b
 ·subst h;simp
 ·have:¬((a:Int)=(b:Int)):=by omega
  rw[bne,beq_eq_false_iff_ne.2 this,beq_eq_false_iff_ne.2 h]
theorem J9(k:Nat):bu 1 1 [(0,.int .i64 (k:Int))]=true:=rfl
theorem Ui{ss:List (List aq)}{x:D}(hx:aW 1 (vn ss) x)(hn:ss.length≤2^20)(hb:∀s∈ss,s.length≤maxLen){i:Nat}(zx:i<ss.length):aG Try.prog gl 39 [.d x,.d (.int .i64 (i:Int))] (aQ 1 (cQ (GZ ss i))):=by
 have ct:ss.length≤maxLen:=Nat.le_trans hn (by decide)
 refine cM bG (cb (fn:=Try.f39) (by kernel_rfl) (by kernel_rfl) (by kernel_rfl)) (h:=h39) ?_;rw[ah4];intro bJ
 simp only[sS,sT,sZ,hx.len,Ws]
 refine fV (fun k=>[.d x,.d (.int .i64 (i:Int)),aQ 1 (cQ (BZ ss i k)),.d (.int .i64 (ss.length:Int)),.d (.int .i64 ((k:Nat):Int))]) (fun i=>[]) ss.length (fun k hk I hI=>?_) (fun I=>?_)
 ·simp only[sS,sT,sZ]
  refine And.intro (fun _=>?_) (fun h=>absurd h (by simp;omega))
  obtain⟨si,oP⟩:=get_some zx
  obtain⟨sk,vA⟩:=get_some hk
  have aY:=abr ss i k
  have hlu:=acp ss i k
  have hp:AB ss i k=(!(k==i)&&Hs sk si):=by
   rw[AB,List.getD_eq_getElem?_getD,List.getD_eq_getElem?_getD,oP,vA];rfl
  rw[aY]at hI
  simp only[eQ,Gi,sS,sT,sZ]
  refine And.intro (fun h=>?_) (fun h=>?_)
  ·simp only[hx.at (Xf oP),hx.at (Xf vA),yy,sS,sT,sZ]
   refine dZ (aaS sk si (cK 6 _) (cK 6 _) (hb sk (List.mem_of_getElem? vA)) (hb si (List.mem_of_getElem? oP))) ?_
   simp only[sS,sT,sZ]
   refine And.intro (fun h2=>?_) (fun h2=>?_)
   ·rw[hp,h,h2]at hI
    simp only[JA,J9,wP,sS,sT,sZ]
    refine gN (wh _) (by simp only[nq,List.length_singleton];omega) ?_
    refine aU (br hk ct) ?_
    rw[Bool.true_and,if_pos rfl,Jz]at hI
    exact hI
   ·rw[hp,h,h2,Bool.and_false,if_neg (by decide),List.append_nil]at hI
    refine aU (br hk ct) ?_
    exact hI
  ·rw[hp,h,Bool.false_and,if_neg (by decide),List.append_nil]at hI
   refine aU (br hk ct) ?_
   exact hI
 ·simp only[sS,sT,sZ]
  refine And.intro (fun h=>absurd h (by simp)) (fun _=>?_)
  exact⟨kS _ _,rfl⟩
theorem abt{m:bg}(h:de m.ay):(yM m.syms).length ≤4920:=Nat.le_trans (aeU _) h.syms.1
theorem U0{l:List bg}(hm:∀m∈l,de m.ay):∀s∈rn l,s.length≤maxLen:=fun s hs=>by
 obtain⟨m,pW,rfl⟩:=List.mem_map.1 hs
 exact Nat.le_trans (abt (hm m pW)) (by decide)
def PB(l:List bg)(i:Int):List Nat:=if i<0 then []else if(l.length:Int)≤i then []else GZ (rn l) i.toNat
theorem abu{l:List bg}{L:List D}{x:D}(hx:aW 3 L x)(hl:o9 l L)(h8:l.length≤8)(hm:∀m∈l,de m.ay)(i:Int):aG Try.prog gl 19 [.d x,.d (.int .i64 i)] (aQ 1 (cQ (PB l i))):=by
 refine cM bG (cb (fn:=Try.f19) (by kernel_rfl) (by kernel_rfl) (by kernel_rfl)) (h:=Ic) ?_;rw[ah0];intro bJ
 simp only[sS,sT,sZ,hx.len,hl.len]
 unfold PB
 refine And.intro (fun h=>?_) (fun h=>?_)
 ·rw[if_pos (by simpa using h)];rfl
 have h1:¬i<0:=by simpa using h
 rw[if_neg h1]
 refine And.intro (fun h=>?_) (fun h=>?_)
 ·rw[if_pos (by simpa using h)];rfl
 have h2:¬(l.length:Int)≤i:=by simp at h;omega
 rw[if_neg h2]
 refine cV (Tr hx hl h8 hm) (ka _ _) ?_
 simp only[ez,sS,sT,sZ]
 obtain⟨n,rfl⟩:=Int.eq_ofNat_of_zero_le (by omega:0≤i)
 refine cV (Ui (cK 1 _) (by rw[BK];omega) (U0 hm) (by rw[BK];omega)) (ka _ _) ?_
 exact⟨kS _ _,rfl⟩
end Go.Proofs.Ytimbllcalipehaa.Ab
namespace Go.Proofs.Ytimbllcalipehaa.Ab
open Go
set_option linter.unusedVariables false
set_option maxRecDepth 4000
theorem Wt{α:Type}{p:α→Bool}{l:List α}{i:Nat}{x:α}(h:l[i]? =some x):(l.take (i+1)).any p=((l.take i).any p||p x):=by
 rw[dX h,List.any_append];simp
end Go.Proofs.Ytimbllcalipehaa.Ab
