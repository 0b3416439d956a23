/-
  CONFLICTS: laws on values.
-/
import Derived.Test.YtaknajjmldngiaaTf
import Derived.Test.YtaknajjmldngiaaTe
import Derived.Test.YtaknajjmldngiaaTd
import Derived.Test.YtaknajjmldngiaaTc
import Derived.Test.YtaknajjmldngiaaProg
import Derived.KernelRfl
import Derived.Test.YtaknajjmldngiaaChecked
set_option linter.unusedVariables false
set_option linter.unusedSimpArgs false
namespace Go.Proofs.Ytaknajjmldngiaa.Ab
open Go
theorem sT:(∀p:Prop,(True∧p)=p)∧(∀{α β:Type}(f:α→β)(a:α)(l:List α),List.map f (a::l)=f a::List.map f l)∧(∀{α β:Type}(f:α→β),List.map f []=[])∧(∀(vs:List SV)(i:Nat),ae vs i=vs.getD i .undef)∧(∀(bs:List (List SV))(i:Nat),aq bs i=bs.getD i [])∧
  (∀{α:Type}(a:α)(l:List α)(d:α),List.getD (a::l) 0 d=a)∧(∀{α:Type}(a:α)(l:List α)(d:α)(n:Nat),List.getD (a::l) (n+1) d=List.getD l n d)∧(∀cs:List SV,af.ay (.cells cs)=cs)∧(∀l:List (MK×D),af.ay (.map l)=[.mp l])∧(∀n:Int,dI n=.int .i64 n)∧(∀n:Nat,(n≤n)=True):=by
 refine⟨fun p=>true_and p,fun f a l=>rfl,fun f=>rfl,fun vs i=>rfl,fun bs i=>rfl,fun a l d=>rfl,fun a l d n=>rfl,fun cs=>rfl,fun l=>rfl,fun n=>rfl,fun n=>by simp⟩
theorem UE(a0 a1 a2 a3 a4 a5 a6 a7 a8 a9:SV)(op a rel b:Int)(nm:D)(w:Nat→BitVec 64)(kd:D):setAt [a0,a1,a2,a3,a4,a5,a6,a7,a8,a9] 0 (iG op a rel b nm w kd)=iG op a rel b nm w kd:=rfl
theorem jy.load{k:Xp}{y:D}(h:jy k y):aF true 10 (.aE y 0)=some (.d y):=by
 obtain⟨nm,kd,L,rfl,_⟩:=h.inv
 exact DV _ 10 rfl
theorem jy.cells{k:Xp}{y:D}(h:jy k y):∃cs,aA (.d y)=some cs∧cs.length=10∧ag true 10 0 cs=some (.d y)∧∀a0 a1 a2 a3 a4 a5 a6 a7 a8 a9:SV,setAt [a0,a1,a2,a3,a4,a5,a6,a7,a8,a9] 0 cs=cs:=by
 obtain⟨nm,kd,L,rfl,_⟩:=h.inv
 exact⟨_,Kd _ _ _ _ _ _ _,rfl,rfl,fun a0 a1 a2 a3 a4 a5 a6 a7 a8 a9=>UE a0 a1 a2 a3 a4 a5 a6 a7 a8 a9 _ _ _ _ _ _ _⟩
theorem Kh{n:Int}(h1: -1000000<n)(h2:n<1000000):ah none .sub (.d (.int .i64 n)) (.d (.int .i64 1))=some (.d (.int .i64 (n-1))):=by
 have h3:IntKind.i64.wrap (n-1)=n-1:=wrap_i64 (by omega) (by omega)
 simp only[ah,eE,iP,h3,↓reduceIte]
end Go.Proofs.Ytaknajjmldngiaa.Ab
namespace Go.Proofs.Ytaknajjmldngiaa.Ab
open Go
end Go.Proofs.Ytaknajjmldngiaa.Ab
namespace Go.Proofs.Ytaknajjmldngiaa.Ab
open Go
end Go.Proofs.Ytaknajjmldngiaa.Ab
namespace Go.Proofs.Ytaknajjmldngiaa.Ab
open Go
end Go.Proofs.Ytaknajjmldngiaa.Ab
namespace Go.Proofs.Ytaknajjmldngiaa.Ab
open Go
end Go.Proofs.Ytaknajjmldngiaa.Ab
namespace Go.Proofs.Ytaknajjmldngiaa.Ab
open Go
end Go.Proofs.Ytaknajjmldngiaa.Ab
namespace Go.Proofs.Ytaknajjmldngiaa.Ab
open Go
end Go.Proofs.Ytaknajjmldngiaa.Ab
namespace Go.Proofs.Ytaknajjmldngiaa.Ab
open Go
end Go.Proofs.Ytaknajjmldngiaa.Ab
namespace Go.Proofs.Ytaknajjmldngiaa.Ab
open Go
end Go.Proofs.Ytaknajjmldngiaa.Ab
namespace Go.Proofs.Ytaknajjmldngiaa.Ab
open Go
end Go.Proofs.Ytaknajjmldngiaa.Ab
namespace Go.Proofs.Ytaknajjmldngiaa.Ab
open Go
theorem Tq(cs:List SV)(o:Nat):aa (.ref cs o)=.ref cs o:=rfl
end Go.Proofs.Ytaknajjmldngiaa.Ab
namespace Go.Proofs.Ytaknajjmldngiaa.Ab
open Go
def bl(n:Nat)(F:Nat→Bool):List D:=(List.range n).map fun i=>.bool (F i)
theorem ur(l:List (MK×D)):mapOf [.mp l]=l:=rfl
end Go.Proofs.Ytaknajjmldngiaa.Ab
namespace Go.Proofs.Ytaknajjmldngiaa.Ab
open Go
theorem Tr(n:Int):aA (.d (.int .i64 n))=some [.d (.int .i64 n)]:=rfl
end Go.Proofs.Ytaknajjmldngiaa.Ab
namespace Go.Proofs.Ytaknajjmldngiaa.Ab
open Go
theorem UF(l:List (MK×D)):aa (.mp l)=.mp l:=rfl
end Go.Proofs.Ytaknajjmldngiaa.Ab
namespace Go.Proofs.Ytaknajjmldngiaa.Ab
open Go
end Go.Proofs.Ytaknajjmldngiaa.Ab
namespace Go.Proofs.Ytaknajjmldngiaa.Ab
open Go
theorem AJ(x:D)(n:Nat):aa (.aE x n)=.aE x n:=rfl
end Go.Proofs.Ytaknajjmldngiaa.Ab
namespace Go.Proofs.Ytaknajjmldngiaa.Ab
open Go
def jH(out:List (List UInt8))(s:List UInt8):List (List UInt8):=if j6 s out then out else out++[s]
def dedup(l:List (List UInt8)):List (List UInt8):=l.foldl jH []
theorem Qe{l:List (List UInt8)}{i:Nat}{s:List UInt8}(h:l[i]? =some s):dedup (l.take (i+1))=jH (dedup (l.take i)) s:=by
 rw[ez h,dedup,List.foldl_append];rfl
theorem JC(out:List (List UInt8))(s:List UInt8):(jH out s).length ≤out.length+1:=by
 unfold jH;split
 ·omega
 ·simp
theorem DB:∀(l out:List (List UInt8)),(l.foldl jH out).length ≤out.length+l.length
 |[],out=>by simp
 |s::l,out=>by
  have h1:=DB l (jH out s)
  have h2:=JC out s
  simp only[List.foldl_cons,List.length_cons]
  omega
theorem R1(l:List (List UInt8))(i:Nat):(dedup (l.take i)).length ≤i:=by
 have:=DB (l.take i) []
 simp only[List.length_nil,Nat.zero_add,List.length_take]at this
 unfold dedup
 omega
def wJ(k:Int):Int:=if k==3 then 2 else if k==0 then 2 else k
theorem Af(k:Int):aD Try.prog gl 69 [.d (.int .i64 k)] (.d (.int .i64 (wJ k))):=by
 refine dz bH (cM (fn:=Try.f69) (by kernel_rfl) (by kernel_rfl) (by kernel_rfl)) (h:=N8) ?_;rw[UC];intro ct
 simp only[sS,sT,sZ,wJ]
 refine And.intro (fun h=>?_) (fun h=>?_)
 ·simp[h]
 ·refine And.intro (fun h2=>?_) (fun h2=>?_)
  ·simp[h,h2]
  ·simp[h,h2]
def FV:List UInt8:=[111,98,106,101,99,116,95,114]
def qz(k:Int)(s:List UInt8):Bool:=k==4&&s==FV
theorem HR(k:Int)(s:List UInt8):aD Try.prog gl 57 [.d (.int .i64 k),.d (.str s)] (.d (.bool (qz k s))):=by
 refine dz bH (cM (fn:=Try.f57) (by kernel_rfl) (by kernel_rfl) (by kernel_rfl)) (h:=N4) ?_;rw[Uw];intro ct
 simp only[sS,sT,sZ,qz,tg]
 refine And.intro (fun h=>?_) (fun h=>?_)
 ·simp[h,FV]
 ·simp[h]
theorem DC{α:Type}{p:α→Bool}{l:List α}{k:Nat}(h:first p l=some k):∃x,l[k]? =some x∧p x=true:=by
 obtain⟨x,h1,h2,_⟩:=IN h
 exact⟨x,h1,h2⟩
theorem DY{α:Type}{p:α→Bool}:∀{l:List α},first p l=none→∀(j:Nat)y,l[j]? =some y→p y=false
 |[],_,j,y,h=>by simp at h
 |x::l,h,j,y,hy=>by
  unfold first at h
  split at h
  ·cases h
  ·rename_i hx
   cases j with
   |zero=>simp at hy;subst hy;simpa using hx
   |succ j=>
    refine DY (l:=l) ?_ j y (by simpa using hy)
    cases hf:first p l with
    |none=>rfl
    |some k=>rw[hf]at h;cases h
set_option maxRecDepth 4000 in
theorem Pu(l:List (List UInt8)){x:D}(hx:bK 1 (bP l) x)(hl:l.length≤maxLen)(s:List UInt8):aD Try.prog gl 61 [.d x,.d (.str s)] (.d (.int .i64 (orM (first (fun t=>s==t) l)))):=by
 refine dz bH (cM (fn:=Try.f61) (by kernel_rfl) (by kernel_rfl) (by kernel_rfl)) (h:=NS) ?_;rw[Ui];intro ct
 simp only[sS,sT,sZ,hx.len,gY]
 refine oE (fun i=>∀(j:Nat)k,j<i→l[j]? =some k→(s==k)=false) (fun i=>[.d x,.d (.str s),.d (.int .i64 (l.length:Int)),.d (.int .i64 ((i:Nat):Int))]) (fun i=>[]) l.length (fun j k hj _=>by omega) (fun i hi hJ I hI=>?_) (fun hJ I=>?_)
 ·simp only[sS,sT,sZ]
  refine And.intro (fun _=>?_) (fun h=>absurd h (by simp;omega))
  obtain⟨t,ht⟩:=get_some hi
  have mS:(bP l)[i]? =some (.str t):=by rw[bP,List.getElem?_map,ht];rfl
  simp only[hx.at mS,sS,sT,sZ,sW,Nat.zero_add,tg,oH]
  refine And.intro (fun h=>?_) (fun h=>?_)
  ·rw[wk ht (by simpa using h) hJ];rfl
  ·refine aZ (bg hi hl) ?_
   refine hI fun j k' hj dj=>?_
   rcases Nat.lt_or_ge j i with h2|h2
   ·exact hJ j k' h2 dj
   ·have:j=i:=by omega
    subst this
    rw[ht]at dj
    cases dj
    simpa using h
 ·simp only[sS,sT,sZ]
  refine And.intro (fun h=>absurd h (by simp)) (fun _=>?_)
  rw[wb fun j k dj=>hJ j k (List.getElem?_eq_some_iff.1 dj).1 dj]
  rfl
theorem Q3(s:List UInt8)(l:List (List UInt8)):(first (fun t=>s==t) l).isSome =j6 s l:=by
 cases hf:first (fun t=>s==t) l with
 |some i=>
  obtain⟨t,h1,h2⟩:=DC hf
  have e:s=t:=by simpa using h2
  rw[Kg h1 (by rw[e];simp)];rfl
 |none=>
  rw[JB fun i t ht=>?_];rfl
  cases hs:(t==s)with
  |false=>rfl
  |true=>
   exfalso
   have h3:=DY hf i t ht
   have e:t=s:=by simpa using hs
   rw[e]at h3
   simp at h3
theorem HH(l:List (List UInt8)){x:D}(hx:bK 1 (bP l) x)(hl:l.length≤maxLen)(s:List UInt8):aD Try.prog gl 51 [.d x,.d (.str s)] (.d (.bool (j6 s l))):=by
 refine dz bH (cM (fn:=Try.f51) (by kernel_rfl) (by kernel_rfl) (by kernel_rfl)) (h:=NP) ?_;rw[Uf];intro ct
 simp only[sS,sT,sZ]
 refine bR (Pu l hx hl s) ?_
 simp only[sS,sT,sZ,KT,Q3]
theorem JD(l:List (List UInt8))(s:List UInt8):bP l++[.str s]=bP (l++[s]):=by simp[bP]
theorem CJ(l:List (List UInt8)){x:D}(hx:bK 1 (bP l) x)(hl:l.length≤2^40):aD Try.prog gl 58 [.d x] (aO 1 (bP (dedup l))):=by
 refine dz bH (cM (fn:=Try.f58) (by kernel_rfl) (by kernel_rfl) (by kernel_rfl)) (h:=N5) ?_;rw[Uz];intro ct
 have zR:l.length≤maxLen:=Nat.le_trans hl (by decide)
 simp only[sS,sT,sZ,hx.len,gY]
 refine eo (fun i=>[aO 1 (bP (dedup (l.take i))),.d x,.d (.int .i64 (l.length:Int)),.d (.int .i64 ((i:Nat):Int))]) (fun i=>[]) l.length (fun i hi I hI=>?_) (fun I=>?_)
 ·simp only[sS,sT,sZ]
  refine And.intro (fun _=>?_) (fun h=>absurd h (by simp;omega))
  obtain⟨t,ht⟩:=get_some hi
  have zD:=R1 l i
  have hd:=Qe ht
  simp only[hx.at (uA ht),sS,sT,sZ,oH,fF]
  refine bR (HH (dedup (l.take i)) (cn 1 _) (by omega) t) ?_
  simp only[sS,sT,sZ,kP]
  refine And.intro (fun h=>?_) (fun h=>?_)
  ·simp only[sS,sT,sZ,DX,Ln,Kf]
   refine iv (gX 1 _) (by rw[gY];simp only[List.length_singleton];omega) ?_
   refine aZ (bg hi zR) ?_
   rw[JD]
   rw[hd,jH,if_neg (by simpa using h)]at hI
   exact hI
  ·refine aZ (bg hi zR) ?_
   rw[hd,jH,if_pos (by simpa using h)]at hI
   exact hI
 ·simp only[sS,sT,sZ]
  refine And.intro (fun h=>absurd h (by simp)) (fun _=>?_)
  simp only[nI,true_and]
  rw[List.take_of_length_le (Nat.le_refl _)]
theorem nil_eq(k:SK)(sz:Nat)(L:List D):ah (some (false,[])) .eql (.d (.sl k sz L)) (.d (.sl .nil 0 []))=some (.d (.bool (decide (k=SK.nil)))):=rfl
theorem Pv(L:List D)(hl:L.length≤2^40):aD Try.prog gl 59 [.d (cq 1 L)] (aO 1 L):=by
 refine dz bH (cM (fn:=Try.f59) (by kernel_rfl) (by kernel_rfl) (by kernel_rfl)) (h:=N6) ?_;rw[UA];intro ct
 cases L with
 |nil=>
  simp only[sS,sT,sZ,cq,nil_eq,aO]
  refine And.intro (fun _=>?_) (fun h=>absurd h (by simp))
  trivial
 |cons a L=>
  simp only[sS,sT,sZ,cq,nil_eq,aO]
  refine And.intro (fun h=>absurd h (by simp)) (fun _=>?_)
  refine⟨rfl,Ke (sz:=1) (bZ:=16) (L:=[]) (M:=a::L) (by simp[elems]) (by simp only[List.length_nil,Nat.zero_add];omega) ?_⟩
  simp[iC,SV.au]
structure ar where
 kind:Int
 name:List UInt8
 bI:Bool
 perms:List (List UInt8)
 line:Int
 b8:Int
 deriving DecidableEq
def ar.enc(s:ar):D:=.agg [.int .i64 s.kind,.str s.name,.bool s.bI,cq 1 (bP s.perms),.int .i64 s.line,.int .i64 s.b8]
def ar.cells(s:ar):List SV:=[.d (.int .i64 s.kind),.d (.str s.name),.d (.bool s.bI),.d (cq 1 (bP s.perms)),.d (.int .i64 s.line),.d (.int .i64 s.b8)]
theorem Ts(sz:Nat)(L:List D):(cq sz L).cells =[cq sz L]:=by cases L<;>rfl
theorem ef(s:ar):aA (.d s.enc)=some s.cells:=rfl
theorem eD(s:ar):s.cells.length=6:=rfl
theorem dH(s:ar):ag true 6 0 s.cells=some (.d s.enc):=rfl
theorem fl(s:ar):ag false 1 0 s.cells=some (.d (.int .i64 s.kind)):=rfl
theorem fm(s:ar):ag false 1 1 s.cells=some (.d (.str s.name)):=rfl
theorem fG(s:ar):ag false 1 2 s.cells=some (.d (.bool s.bI)):=rfl
theorem jj(s:ar):ag false 1 3 s.cells=some (.d (cq 1 (bP s.perms))):=rfl
theorem R2(s:ar):ag true 2 4 s.cells=some (.d (.agg [.int .i64 s.line,.int .i64 s.b8])):=rfl
theorem p7(s:ar):aF true 6 (.aE s.enc 0)=some (.d s.enc):=rfl
theorem fp(a b c d e f:SV)(s:ar):setAt [a,b,c,d,e,f] 0 s.cells=s.cells:=rfl
def aI(l:List ar):List D:=l.map ar.enc
theorem eM(l:List ar):(aI l).length =l.length:=List.length_map ..
theorem m9{l:List ar}{i:Nat}{s:ar}(h:l[i]? =some s):(aI l)[i]? =some s.enc:=by simp[aI,h]
structure dP where
 kind:Int
 op:Int
 line:Int
 b8:Int
 name:List UInt8
 list:List (List UInt8)
 iH:List (List UInt8)
def vM(s:dP)(r5 r6 cP al:D)(rest:List D):List D:=.int .i64 s.kind::.int .i64 s.op::.int .i64 s.line::.int .i64 s.b8::.str s.name::r5::r6::cP::al::rest
def e8(s:dP)(r5 r6 cP al:D)(rest:List D):List SV:=.d (.int .i64 s.kind)::.d (.int .i64 s.op)::.d (.int .i64 s.line)::.d (.int .i64 s.b8)::.d (.str s.name)::.d r5::.d r6::.d cP::.d al::rest.map .d
inductive rO(s:dP):D→Prop
 |mk (r5 r6 cP al:D) (rest:List D) (h:rest.length=46) (hl:bK 1 (bP s.list) cP) (ha:bK 1 (bP s.iH) al):rO s (.agg (vM s r5 r6 cP al rest))
section
variable(s:dP)(r5 r6 cP al:D)(rest:List D)
theorem fR:aA (.d (.agg (vM s r5 r6 cP al rest)))=some (e8 s r5 r6 cP al rest):=rfl
theorem fb:(e8 s r5 r6 cP al rest).length =rest.length+9:=by simp[e8]
theorem gf:ag false 1 0 (e8 s r5 r6 cP al rest)=some (.d (.int .i64 s.kind)):=rfl
theorem jk:ag false 1 1 (e8 s r5 r6 cP al rest)=some (.d (.int .i64 s.op)):=rfl
theorem gZ:ag false 1 4 (e8 s r5 r6 cP al rest)=some (.d (.str s.name)):=rfl
theorem jl:ag false 1 7 (e8 s r5 r6 cP al rest)=some (.d cP):=rfl
theorem jm:ag false 1 8 (e8 s r5 r6 cP al rest)=some (.d al):=rfl
theorem g5:ag true 2 2 (e8 s r5 r6 cP al rest)=some (.d (.agg [.int .i64 s.line,.int .i64 s.b8])):=by
 unfold ag
 simp only[cond_true]
 rw[if_pos (by rw[fb];omega)]
 rfl
theorem Ls:∀(l:List D),dT (l.map SV.d)=some l
 |[]=>rfl
 |x::l=>by simp[dT,cg,Ls l]
theorem kM(h:rest.length=46):ag true 55 0 (e8 s r5 r6 cP al rest)=some (.d (.agg (vM s r5 r6 cP al rest))):=by
 unfold ag
 simp only[cond_true]
 rw[if_pos (by rw[fb];omega)]
 have h1:e8 s r5 r6 cP al rest=(vM s r5 r6 cP al rest).map SV.d:=rfl
 rw[List.drop_zero,List.take_of_length_le (by rw[fb];omega),h1,Ls]
end
theorem rO.load{s:dP}{x:D}(h:rO s x):aF true 55 (.aE x 0)=some (.d x):=by
 cases h with
 |mk r5 r6 cP al rest h hl ha=>exact DV _ 55 (by simp[vM,h])
def ff(k:Int):Int:=if k==1 then 1 else if k==2 then 2 else if k==3 then 3 else if k==5 then 4 else if k==8 then 5 else if k==9 then 6 else if k==10 then 7 else if k==11 then 8 else 0
theorem OG{s:dP}{x:D}(hs:rO s x):aD Try.prog gl 73 [.d x] (.d (.int .i64 (ff s.kind))):=by
 cases hs with
 |mk r5 r6 cP al rest h hl ha=>
  refine dz bH (cM (fn:=Try.f73) (by kernel_rfl) (by kernel_rfl) (by kernel_rfl)) (h:=N9) ?_;rw[UD];intro ct
  simp only[sS,sT,sZ,fR,fb,h,gf]
  unfold ff
  refine And.intro (fun h=>by rw[if_pos h]) (fun h=>?_)
  rw[if_neg (by rw[h];simp)]
  refine And.intro (fun h=>by rw[if_pos h]) (fun h=>?_)
  rw[if_neg (by rw[h];simp)]
  refine And.intro (fun h=>by rw[if_pos h]) (fun h=>?_)
  rw[if_neg (by rw[h];simp)]
  refine And.intro (fun h=>by rw[if_pos h]) (fun h=>?_)
  rw[if_neg (by rw[h];simp)]
  refine And.intro (fun h=>by rw[if_pos h]) (fun h=>?_)
  rw[if_neg (by rw[h];simp)]
  refine And.intro (fun h=>by rw[if_pos h]) (fun h=>?_)
  rw[if_neg (by rw[h];simp)]
  refine And.intro (fun h=>by rw[if_pos h]) (fun h=>?_)
  rw[if_neg (by rw[h];simp)]
  refine And.intro (fun h=>by rw[if_pos h]) (fun h=>?_)
  rw[if_neg (by rw[h];simp)]
end Go.Proofs.Ytaknajjmldngiaa.Ab
namespace Go.Proofs.Ytaknajjmldngiaa.Ab
open Go
theorem dZ(x:D):aW [(0,.v (.d x))]=some [(0,x)]:=rfl
theorem iw(x y z:D)(i j k:Nat):aW [(i,.v (.d x)),(j,.v (.d y)),(k,.v (.d z))]=some [(i,x),(j,y),(k,z)]:=rfl
theorem ta(x y z u:D)(i j k l:Nat):aW [(i,.v (.d x)),(j,.v (.d y)),(k,.v (.d z)),(l,.v (.d u))]=some [(i,x),(j,y),(k,z),(l,u)]:=rfl
theorem uu(x y z u v:D)(i j k l m:Nat):aW [(i,.v (.d x)),(j,.v (.d y)),(k,.v (.d z)),(l,.v (.d u)),(m,.v (.d v))]=some [(i,x),(j,y),(k,z),(l,u),(m,v)]:=rfl
theorem eg(z x:D):bL z [(0,x)] 1 0=[x]:=rfl
theorem iR(s:ar):bO 6 1 [(0,s.enc)]=true:=rfl
theorem ji(k:Int)(n:List UInt8)(l c:Int):bY Try.prog 79 [(0,.int .i64 k),(1,.str n),(4,.agg [.int .i64 l,.int .i64 c])]=some (ar.enc ⟨k,n,false,[],l,c⟩):=by kernel_rfl
theorem we(k:Int)(n:List UInt8)(l c:Int):bY Try.prog 79 [(0,.int .i64 k),(1,.str n),(2,.bool true),(4,.agg [.int .i64 l,.int .i64 c])]=some (ar.enc ⟨k,n,true,[],l,c⟩):=by kernel_rfl
theorem pR(sz:Nat)(L:List D):aA (.d (cq sz L))=some [.d (cq sz L)]:=by cases L<;>rfl
theorem gi(x:SV):[x].length =1:=rfl
theorem R3(k:Int)(n:List UInt8)(p:D)(hp:p.cells=[p])(l c:Int):oP (fun i=>[(0,1),(1,1),(2,1),(3,1),(4,2)][i]?) [.int .i64 0,.str [],.bool false,.sl .nil 0 [],.int .i64 0,.int .i64 0] [(0,.int .i64 k),(1,.str n),(2,.bool true),(3,p),(4,.agg [.int .i64 l,.int .i64 c])]
  =some [.int .i64 k,.str n,.bool true,p,.int .i64 l,.int .i64 c]:=by
 have h1:∀(k:IntKind)(n:Int),(D.int k n).cells =[.int k n]:=fun _ _=>rfl
 have h2:∀(s:List UInt8),(D.str s).cells =[.str s]:=fun _=>rfl
 have h3:∀(b:Bool),(D.bool b).cells =[.bool b]:=fun _=>rfl
 have h4:∀(l:List D),(D.agg l).cells =l:=fun _=>rfl
 simp[oP,h1,h2,h3,h4,hp]
theorem Q4(ps:List (Nat×D)):bY Try.prog 79 ps=(match oP (fun i=>[(0,1),(1,1),(2,1),(3,1),(4,2)][i]?) [.int .i64 0,.str [],.bool false,.sl .nil 0 [],.int .i64 0,.int .i64 0] ps with|some cs=>some (.agg cs)|none=>none):=by kernel_rfl
theorem wg(k:Int)(n:List UInt8)(p:List (List UInt8))(l c:Int):bY Try.prog 79 [(0,.int .i64 k),(1,.str n),(2,.bool true),(3,cq 1 (bP p)),(4,.agg [.int .i64 l,.int .i64 c])]=some (ar.enc ⟨k,n,true,p,l,c⟩):=by
 rw[Q4,R3 _ _ _ (Ts _ _)];rfl
theorem set_perm(k:Int)(n:List UInt8)(b:Bool)(l c:Int)(p:List (List UInt8)):setAt (ar.cells ⟨k,n,b,[],l,c⟩) 3 [.d (cq 1 (bP p))]=ar.cells ⟨k,n,b,p,l,c⟩:=rfl
def bh(s:dP):List ar:=
 if ff s.kind != 0 then
  ⟨ff s.kind,s.name,false,if ff s.kind==1 then dedup s.list else [],s.line,s.b8⟩::(if ff s.kind==2 then s.iH.map fun a=>⟨ff s.kind,a,false,[],s.line,s.b8⟩else [])
 else if s.kind==19&&s.op==1 then [⟨s.op,s.name,true,dedup s.list,s.line,s.b8⟩]
 else if s.kind==19&&decide (s.op>1)&&decide (s.op≤8)then s.list.map fun a=>⟨s.op,a,true,[],s.line,s.b8⟩
 else []
theorem tc(l:List ar)(s:ar):aI l++[s.enc]=aI (l++[s]):=by simp[aI]
theorem Qf(sz:Nat)(L M:List D):(iC sz L M).au =true:=by unfold iC;split<;>rfl
theorem Qg(sz:Nat)(L M:List D):rq (iC sz L M)=false:=by unfold iC;split<;>rfl
theorem HS{α β:Type}(f:α→β){l:List α}{i:Nat}{x:α}(h:l[i]? =some x):(l.take (i+1)).map f=(l.take i).map f++[f x]:=by rw[ez h];simp
set_option maxRecDepth 4000 in
theorem OO{s:dP}{x:D}(hs:rO s x)(hl:s.list.length≤2^30)(ha:s.iH.length≤2^30):∃r,(eN 6 (aI (bh s)) (aa r)∧rq r=false)∧aD Try.prog gl 68 [.d x] r:=by
 refine sV bH (cM (fn:=Try.f68) (by kernel_rfl) (by kernel_rfl) (by kernel_rfl)) ⟨aO 6 (aI (bh s)),by rw[fF];exact(cn 6 _).sv,jW _ _⟩ (h:=N7) ?_
 rw[UB];intro ct
 have ie:=hs
 cases hs with
 |mk r5 r6 cP al rest h dM gr=>
  simp only[sS,sT,sZ,fR,fb,gf,jk,g5,gZ,jl,jm,dZ,iw,ta,uu,eg,iR,ji,we,wg,pR,gi,set_perm,ef,eD,dH,fp,h,kM _ _ _ _ _ _ h]
  refine bR (OG ie) ?_
  simp only[sS,sT,sZ,fR,fb,gf,jk,g5,gZ,jl,jm,dZ,iw,ta,uu,eg,iR,ji,we,wg,pR,gi,set_perm,ef,eD,dH,fp]
  unfold bh
  refine And.intro (fun hk=>?_) (fun hk=>?_)
  ·rw[if_pos (by simpa using hk)]
   refine And.intro (fun h1=>?_) (fun h1=>?_)
   ·have rY:ff s.kind=1:=by simpa using h1
    refine fQ (CJ s.list dM (by omega)) (jW _ _) ?_
    simp only[sS,sT,sZ,fR,fb,gf,jk,g5,gZ,jl,jm,dZ,iw,ta,uu,eg,iR,ji,we,wg,pR,gi,set_perm,ef,eD,dH,fp,fF,rY]
    refine⟨by decide,?_⟩
    refine And.intro (fun h2=>absurd h2 (by decide)) (fun _=>?_)
    exact⟨rfl,.full,rfl⟩
   ·have rY:(ff s.kind==1)=false:=h1
    simp only[rY,Bool.false_eq_true,if_false]
    refine And.intro (fun h2=>?_) (fun h2=>?_)
    ·simp only[h2,if_true]
     simp only[gr.len,gY,sS,sT,sZ,Q2]
     have oh:ff s.kind=2:=by simpa using h2
     rw[oh]
     refine eo (fun i=>[.d (.int .i64 2),iC 6 [ar.enc ⟨2,s.name,false,[],s.line,s.b8⟩] (aI ((s.iH.take i).map fun a=>⟨2,a,false,[],s.line,s.b8⟩)),.d al,.d (.int .i64 (s.iH.length:Int)),.d (.int .i64 ((i:Nat):Int))])
      (fun i=>[e8 s r5 r6 cP al rest,ar.cells ⟨2,s.name,false,[],s.line,s.b8⟩]) s.iH.length (fun i hi I hI=>?_) (fun I=>?_)
     ·simp only[sS,sT,sZ]
      refine And.intro (fun _=>?_) (fun h=>absurd h (by simp;omega))
      obtain⟨t,ht⟩:=get_some hi
      simp only[gr.at (uA ht),sS,sT,sZ,fR,fb,gf,jk,g5,gZ,jl,jm,dZ,iw,ta,uu,eg,iR,ji,we,wg,pR,gi,set_perm,ef,eD,dH,fp,oH]
      refine R0 (gX 6 _) (by simp only[eM,List.length_map,List.length_take,List.length_singleton];omega) ?_
      refine aZ (bg hi (by simp only[maxLen];omega)) ?_
      rw[tc,←HS (fun a=>(⟨2,a,false,[],s.line,s.b8⟩:ar)) ht]
      exact hI
     ·simp only[sS,sT,sZ]
      refine And.intro (fun h=>absurd h (by simp)) (fun _=>?_)
      refine⟨Qf _ _ _,?_,Qg _ _ _⟩
      have:=Tp 6 [ar.enc ⟨2,s.name,false,[],s.line,s.b8⟩] (aI ((s.iH.take s.iH.length).map fun a=>⟨2,a,false,[],s.line,s.b8⟩))
      rw[List.take_length]at this
      rw[List.take_length]
      exact this
    ·simp only[h2,Bool.false_eq_true,if_false]
     exact⟨rfl,.full,rfl⟩
  ·rw[if_neg (by simpa using hk)]
   have leaf:∀b:Bool,b=false→(if b=true then([⟨s.op,s.name,true,dedup s.list,s.line,s.b8⟩]:List ar)else [])=[]:=fun b h=>by rw[h];rfl
   refine And.intro (fun h1=>?_) (fun h1=>?_)
   ·refine And.intro (fun h2=>?_) (fun h2=>?_)
    ·rw[if_pos (by rw[h1,h2];rfl)]
     refine fQ (CJ s.list dM (by omega)) (jW _ _) ?_
     simp only[sS,sT,sZ,fR,fb,gf,jk,g5,gZ,jl,jm,dZ,iw,ta,uu,eg,iR,ji,we,wg,pR,gi,set_perm,ef,eD,dH,fp,fF]
     exact⟨rfl,.full,rfl⟩
    ·rw[if_neg (by rw[h2];simp)]
     simp only[h1,Bool.true_and]
     refine And.intro (fun _=>?_) (fun h=>absurd h (by simp))
     refine And.intro (fun h3=>?_) (fun h3=>?_)
     ·simp only[h3,Bool.true_and]
      refine And.intro (fun h4=>?_) (fun h4=>?_)
      ·rw[if_pos h4]
       simp only[dM.len,gY,sS,sT,sZ,RZ 6]
       refine eo (fun i=>[aO 6 (aI ((s.list.take i).map fun a=>⟨s.op,a,true,[],s.line,s.b8⟩)),.d cP,.d (.int .i64 (s.list.length:Int)),.d (.int .i64 ((i:Nat):Int))])
        (fun i=>[e8 s r5 r6 cP al rest]) s.list.length (fun i hi I hI=>?_) (fun I=>?_)
       ·simp only[sS,sT,sZ]
        refine And.intro (fun _=>?_) (fun h=>absurd h (by simp;omega))
        obtain⟨t,ht⟩:=get_some hi
        simp only[dM.at (uA ht),sS,sT,sZ,fR,fb,gf,jk,g5,gZ,jl,jm,dZ,iw,ta,uu,eg,iR,ji,we,wg,pR,gi,set_perm,ef,eD,dH,fp,oH]
        refine iv (gX 6 _) (by simp only[eM,List.length_map,List.length_take,List.length_singleton];omega) ?_
        refine aZ (bg hi (by simp only[maxLen];omega)) ?_
        rw[tc,←HS (fun a=>(⟨s.op,a,true,[],s.line,s.b8⟩:ar)) ht]
        exact hI
       ·simp only[sS,sT,sZ]
        refine And.intro (fun h=>absurd h (by simp)) (fun _=>?_)
        refine⟨nI _ _,?_,jW _ _⟩
        rw[List.take_length,fF]
        exact(cn 6 _).sv
      ·rw[if_neg (by rw[h4];simp)]
       first|exact⟨rfl,.nil 0 rfl,rfl⟩|exact⟨.nil 0 rfl,rfl⟩
     ·simp only[h3,Bool.false_and,Bool.false_eq_true,if_false]
      first|exact⟨rfl,.nil 0 rfl,rfl⟩|exact⟨.nil 0 rfl,rfl⟩
   ·simp only[h1,Bool.false_and,Bool.false_eq_true,if_false]
    refine And.intro (fun h=>absurd h (by simp)) (fun _=>?_)
    first|exact⟨rfl,.nil 0 rfl,rfl⟩|exact⟨.nil 0 rfl,rfl⟩
def lD(x:ar):Bool→List ar→Int
 |tw,[]=>if tw then 12 else 0
 |tw,y::l=>if wJ y.kind != wJ x.kind then lD x tw l else if !(y.name==x.name)then lD x tw l else if y.kind != x.kind then 13 else lD x (tw||(!x.bI&& !y.bI)) l
def lE(l:List ar)(x:ar):Int:=lD x (!x.bI&&qz x.kind x.name) l
theorem nM{α:Type}{l:List α}{i:Nat}{x:α}(h:l[i]? =some x):l.drop i=x::l.drop (i+1):=by
 have hi:=(List.getElem?_eq_some_iff.1 h).1
 rw[List.drop_eq_getElem_cons hi,(List.getElem?_eq_some_iff.1 h).2]
set_option maxRecDepth 4000 in
theorem Pw(l:List ar)(x:ar){y:D}(hy:bK 6 (aI l) y)(hl:l.length≤maxLen):aD Try.prog gl 56 [.d y,.d x.enc] (.d (.int .i64 (lE l x))):=by
 refine dz bH (cM (fn:=Try.f56) (by kernel_rfl) (by kernel_rfl) (by kernel_rfl)) (h:=N3) ?_;rw[Uv];intro ct
 simp only[sS,sT,sZ,ef,eD,fG,kP,fl,fm]
 have loop:∀tw:Bool,lD x tw l=lE l x→∀{F:List SV→List (List SV)→(List SV→List (List SV)→Prop)→Prop},(∀i tw,i<l.length→lD x tw (l.drop i)=lE l x→∀I:List SV→List (List SV)→Prop,(∀zS,lD x zS (l.drop (i+1))=lE l x→I [.d (.bool zS),.d y,.d (.int .i64 (l.length:Int)),.d (.int .i64 ((i+1:Nat):Int))] [x.cells])→F [.d (.bool tw),.d y,.d (.int .i64 (l.length:Int)),.d (.int .i64 ((i:Nat):Int))] [x.cells] I)→
   (∀tw,lD x tw []=lE l x→∀I,F [.d (.bool tw),.d y,.d (.int .i64 (l.length:Int)),.d (.int .i64 (l.length:Int))] [x.cells] I)→cm F [.d (.bool tw),.d y,.d (.int .i64 (l.length:Int)),.d (.int .i64 0)] [x.cells]:=by
  intro tw Hf F hs he
  exact DW (fun i tw=>lD x tw (l.drop i)=lE l x) (fun i tw=>[.d (.bool tw),.d y,.d (.int .i64 (l.length:Int)),.d (.int .i64 ((i:Nat):Int))]) (fun i _=>[x.cells]) l.length tw Hf (fun i tw hi hJ I hI=>hs i tw hi hJ I hI) (fun tw hJ I=>he tw (by rw[List.drop_length]at hJ;exact hJ) I)
 refine And.intro (fun h1=>?_) (fun h1=>?_)
 ·refine bR (HR _ _) ?_
  simp only[sS,sT,sZ,hy.len,eM]
  refine loop _ (by rw[lE,h1,Bool.true_and]) (fun i tw hi hJ I hI=>?_) (fun tw hJ I=>?_)
  ·simp only[sS,sT,sZ]
   refine And.intro (fun _=>?_) (fun h=>absurd h (by simp;omega))
   obtain⟨z,hz⟩:=get_some hi
   rw[nM hz,lD]at hJ
   simp only[hy.at (m9 hz),sS,sT,sZ,p7,ef,eD,fp,fl,fm,fG,uz,kP]
   refine bR (Af _) ?_
   simp only[sS,sT,sZ]
   refine bR (Af _) ?_
   simp only[sS,sT,sZ]
   refine And.intro (fun ha=>?_) (fun ha=>?_)
   ·rw[if_pos ha]at hJ
    refine aZ (bg hi hl) ?_
    exact hI tw hJ
   ·rw[if_neg (by rw[ha];simp)]at hJ
    refine And.intro (fun hb=>?_) (fun hb=>?_)
    ·rw[if_pos hb]at hJ
     refine aZ (bg hi hl) ?_
     exact hI tw hJ
    ·rw[if_neg (by rw[hb];simp)]at hJ
     refine And.intro (fun hc=>?_) (fun hc=>?_)
     ·rw[if_pos hc]at hJ
      rw[←hJ]
     ·rw[if_neg (by rw[hc];simp)]at hJ
      refine And.intro (fun ht=>?_) (fun ht=>?_)
      ·rw[ht,Bool.true_or]at hJ
       refine aZ (bg hi hl) ?_
       exact hI true hJ
      ·rw[ht,Bool.false_or]at hJ
       refine And.intro (fun hx=>?_) (fun hx=>?_)
       ·rw[hx,Bool.true_and]at hJ
        refine aZ (bg hi hl) ?_
        exact hI _ hJ
       ·rw[hx,Bool.false_and]at hJ
        refine aZ (bg hi hl) ?_
        exact hI false hJ
  ·simp only[sS,sT,sZ]
   refine And.intro (fun h=>absurd h (by simp)) (fun _=>?_)
   rw[lD]at hJ
   refine And.intro (fun ht=>?_) (fun ht=>?_)
   ·rw[if_pos ht]at hJ
    rw[←hJ]
   ·rw[if_neg (by rw[ht];simp)]at hJ
    rw[←hJ]
 ·simp only[sS,sT,sZ,hy.len,eM]
  refine loop _ (by rw[lE,h1,Bool.false_and]) (fun i tw hi hJ I hI=>?_) (fun tw hJ I=>?_)
  ·simp only[sS,sT,sZ]
   refine And.intro (fun _=>?_) (fun h=>absurd h (by simp;omega))
   obtain⟨z,hz⟩:=get_some hi
   rw[nM hz,lD]at hJ
   simp only[hy.at (m9 hz),sS,sT,sZ,p7,ef,eD,fp,fl,fm,fG,uz,kP]
   refine bR (Af _) ?_
   simp only[sS,sT,sZ]
   refine bR (Af _) ?_
   simp only[sS,sT,sZ]
   refine And.intro (fun ha=>?_) (fun ha=>?_)
   ·rw[if_pos ha]at hJ
    refine aZ (bg hi hl) ?_
    exact hI tw hJ
   ·rw[if_neg (by rw[ha];simp)]at hJ
    refine And.intro (fun hb=>?_) (fun hb=>?_)
    ·rw[if_pos hb]at hJ
     refine aZ (bg hi hl) ?_
     exact hI tw hJ
    ·rw[if_neg (by rw[hb];simp)]at hJ
     refine And.intro (fun hc=>?_) (fun hc=>?_)
     ·rw[if_pos hc]at hJ
      rw[←hJ]
     ·rw[if_neg (by rw[hc];simp)]at hJ
      refine And.intro (fun ht=>?_) (fun ht=>?_)
      ·rw[ht,Bool.true_or]at hJ
       refine aZ (bg hi hl) ?_
       exact hI true hJ
      ·rw[ht,Bool.false_or]at hJ
       refine And.intro (fun hx=>?_) (fun hx=>?_)
       ·rw[hx,Bool.true_and]at hJ
        refine aZ (bg hi hl) ?_
        exact hI _ hJ
       ·rw[hx,Bool.false_and]at hJ
        refine aZ (bg hi hl) ?_
        exact hI false hJ
  ·simp only[sS,sT,sZ]
   refine And.intro (fun h=>absurd h (by simp)) (fun _=>?_)
   rw[lD]at hJ
   refine And.intro (fun ht=>?_) (fun ht=>?_)
   ·rw[if_pos ht]at hJ
    rw[←hJ]
   ·rw[if_neg (by rw[ht];simp)]at hJ
    rw[←hJ]
end Go.Proofs.Ytaknajjmldngiaa.Ab
set_option maxRecDepth 100000
namespace Go.Proofs.Ytaknajjmldngiaa.Ab
open Go
def fV:Hints:=⟨[],[],[]⟩
noncomputable def xi:Code:=Go.Proofs.Try.f67.body.getD .skip
def sA:Code→Code| .seq a _=>a|c=>c
def sB:Code→Code| .seq _ b=>b|c=>c
def bk:Code→Code| .block _ b=>b| .loop b=>b|c=>c
def Ms:Code→Array Oper| .region _ ops _=>ops|_=> #[]
def Oa:Oper:={dst:=none,op:=.move (.tmp 0),type:=0,pos:= "",after:= #[],guard:=none}
noncomputable def cO:Code:=bk (bk (sB xi))
noncomputable def vN:Code:=bk (sA (sB (sB cO)))
noncomputable def cI:Code:=bk (bk (sB (sB vN)))
noncomputable def zT:Code:=bk (sA (sB (sB cI)))
noncomputable def n5:Array Oper:=Ms (sA (sB zT))
noncomputable def o6(i:Nat):Oper:=n5.toList.getD i Oa
def xI(yl:Nat)(x:D)(xs:D)(m i:SV):List Slot:=[.v (.d (.fn (.yield yl))),.v (.aE x 0),.v .undef,.v .undef,.v .undef,.v .undef,.v .undef,.v (.d xs),.v m,.v i]++List.replicate 16 (.v .undef)
def Y7(yl:Nat)(x:D)(xs:D)(m i u v:SV):List Slot:=[.v (.d (.fn (.yield yl))),.v (.aE x 0),.v .undef,.v .undef,.p 0 0,.v .undef,.v .undef,.v (.d xs),.v m,.v i,.v .undef,.v u,.v v]++List.replicate 13 (.v .undef)
def vO(yl:Nat)(x:D)(xs:D)(m i:SV)(ys:SV)(k j:SV):List Slot:=[.v (.d (.fn (.yield yl))),.v (.aE x 0),.v .undef,.v .undef,.v .undef,.v .undef,.v .undef,.v (.d xs),.v m,.v i,.v .undef,.v .undef,.v .undef,.v .undef,.v ys,.v k,.v j]++List.replicate 9 (.v .undef)
def Cs(yl:Nat)(x:D)(xs:D)(m i:SV)(ys:SV)(k j u v t20 t21 t22:SV):List Slot:=[.v (.d (.fn (.yield yl))),.v (.aE x 0),.v .undef,.v .undef,.v .undef,.v .undef,.p 0 0,.v (.d xs),.v m,.v i,.v .undef,.v .undef,.v .undef,.v .undef,.v ys,.v k,.v j,.v .undef,.v u,.v v,.v t20,.v t21,.v t22,.v .undef,.v .undef,.v .undef]
set_option maxHeartbeats 1000000 in
theorem Y8(C:bu)(yl:Nat)(x:D)(Q:Ex→Env→Prop):aw Go.Proofs.Try.prog gl C fV (sA xi) Q (enter 26 [.d (.fn (.yield yl)),.aE x 0])=(
 ab (aF false 1 (.aE x 0)) fun r0=>
 ab (bG (aa r0)) fun r1=>
 (Q Ex.normal (Env.mk [(.v (.d (.fn (.yield yl)))),(.v (.aE x 0)),(.v .undef),(.v .undef),(.v .undef),(.v .undef),(.v .undef),(.v r0),(.v r1),(.v (.d (.int .i64 0))),(.v .undef),(.v .undef),(.v .undef),(.v .undef),(.v .undef),(.v .undef),(.v .undef),(.v .undef),(.v .undef),(.v .undef),(.v .undef),(.v .undef),(.v .undef),(.v .undef),(.v .undef),(.v .undef)] []))):=by kernel_rfl
set_option maxHeartbeats 1000000 in
theorem Y9(C:bu)(yl:Nat)(x xs:D)(m i:SV)(Q:Ex→Env→Prop):aw Go.Proofs.Try.prog gl C fV (sA cO) Q ⟨xI yl x xs m i,[]⟩=(
 ab (ah none .lss (aa i) (aa m)) fun r0=>
 (Q Ex.normal (Env.mk [(.v (.d (.fn (.yield yl)))),(.v (.aE x 0)),(.v .undef),(.v .undef),(.v .undef),(.v .undef),(.v .undef),(.v (.d xs)),(.v m),(.v i),(.v r0),(.v .undef),(.v .undef),(.v .undef),(.v .undef),(.v .undef),(.v .undef),(.v .undef),(.v .undef),(.v .undef),(.v .undef),(.v .undef),(.v .undef),(.v .undef),(.v .undef),(.v .undef)] []))):=by kernel_rfl
set_option maxHeartbeats 1000000 in
theorem Za(C:bu)(yl:Nat)(x xs:D)(m i:SV)(Q:Ex→Env→Prop):aw Go.Proofs.Try.prog gl C fV (sA vN) Q ⟨xI yl x xs m i,[]⟩=(
 ab (aR 55 (.d xs) (aa i)) fun r0=>
 ab (aF true 55 (aa r0)) fun r1=>
 ab (aA (aa r1)) fun r2=>
 (List.length r2)=55∧
 55≤55∧
 (Q Ex.normal (Env.mk [(.v (.d (.fn (.yield yl)))),(.v (.aE x 0)),(.v .undef),(.v .undef),(.p (0+0) 0),(.v .undef),(.v .undef),(.v (.d xs)),(.v m),(.v i),(.v .undef),(.v r0),(.v r1),(.v .undef),(.v .undef),(.v .undef),(.v .undef),(.v .undef),(.v .undef),(.v .undef),(.v .undef),(.v .undef),(.v .undef),(.v .undef),(.v .undef),(.v .undef)] [(af.cells (setAt [(.d (.int .i64 0)),(.d (.int .i64 0)),(.d (.int .i64 0)),(.d (.int .i64 0)),(.d (.str [])),(.d (.str [])),(.d (.str [])),(.d (.sl .nil 0 [])),(.d (.sl .nil 0 [])),(.d (.bool false)),(.d (.bool false)),(.d (.bool false)),(.d (.sl .nil 0 [])),(.d (.sl .nil 0 [])),(.d (.bool false)),(.d (.bool false)),(.d (.bool false)),(.d (.sl .nil 0 [])),(.d (.sl .nil 0 [])),(.d (.bool false)),(.d (.bool false)),(.d (.bool false)),(.d (.sl .nil 0 [])),(.d (.sl .nil 0 [])),(.d (.bool false)),(.d (.bool false)),(.d (.bool false)),(.d (.sl .nil 0 [])),(.d (.sl .nil 0 [])),(.d (.int .i64 0)),(.d (.int .i64 0)),(.d (.int .i64 0)),(.d (.int .i64 0)),(.d (.sl .nil 0 [])),(.d (.int .u64 0)),(.d (.int .u64 0)),(.d (.int .u64 0)),(.d (.int .u64 0)),(.d (.sl .nil 0 [])),(.d (.str [])),(.d (.sl .nil 0 [])),(.d (.str [])),(.d (.sl .nil 0 [])),(.d (.str [])),(.d (.sl .nil 0 [])),(.d (.str [])),(.d (.str [])),(.d (.str [])),(.d (.str [])),(.d (.sl .nil 0 [])),(.d (.str [])),(.d (.sl .nil 0 [])),(.d (.bool false)),(.d (.sl .nil 0 [])),(.d (.sl .nil 0 []))] 0 r2))]))):=by kernel_rfl
set_option maxHeartbeats 1000000 in
theorem Zb(C:bu)(yl:Nat)(x xs:D)(m i u v:SV)(cs:List SV)(Q:Ex→Env→Prop):aw Go.Proofs.Try.prog gl C fV (sA (sB vN)) Q ⟨Y7 yl x xs m i u v,[.cells cs]⟩=(
 ab (ag true 55 0 cs) fun r0=>
 aP C 68 [(aa (aa (aa r0)))] fun r1=>
 ab (bG (aa r1)) fun r2=>
 (Q Ex.normal (Env.mk [(.v (.d (.fn (.yield yl)))),(.v (.aE x 0)),(.v .undef),(.v .undef),(.p 0 0),(.v .undef),(.v .undef),(.v (.d xs)),(.v m),(.v i),(.v .undef),(.v u),(.v v),(.v (aa r0)),(.v r1),(.v r2),(.v (.d (.int .i64 0))),(.v .undef),(.v .undef),(.v .undef),(.v .undef),(.v .undef),(.v .undef),(.v .undef),(.v .undef),(.v .undef)] [(af.cells cs)]))):=by kernel_rfl
set_option maxHeartbeats 1000000 in
theorem Zc(C:bu)(yl:Nat)(x xs:D)(m i:SV)(ys:SV)(k j:SV)(Q:Ex→Env→Prop):aw Go.Proofs.Try.prog gl C fV (sA cI) Q ⟨vO yl x xs m i ys k j,[]⟩=(
 ab (ah none .lss (aa j) (aa k)) fun r0=>
 (Q Ex.normal (Env.mk [(.v (.d (.fn (.yield yl)))),(.v (.aE x 0)),(.v .undef),(.v .undef),(.v .undef),(.v .undef),(.v .undef),(.v (.d xs)),(.v m),(.v i),(.v .undef),(.v .undef),(.v .undef),(.v .undef),(.v ys),(.v k),(.v j),(.v r0),(.v .undef),(.v .undef),(.v .undef),(.v .undef),(.v .undef),(.v .undef),(.v .undef),(.v .undef)] []))):=by kernel_rfl
set_option maxHeartbeats 1000000 in
theorem Zd(C:bu)(yl:Nat)(x xs:D)(m i:SV)(ys:SV)(k j:SV)(Q:Ex→Env→Prop):aw Go.Proofs.Try.prog gl C fV (sA zT) Q ⟨vO yl x xs m i ys k j,[]⟩=(
 ab (aR 6 (aa ys) (aa j)) fun r0=>
 ab (aF true 6 (aa r0)) fun r1=>
 ab (aA (aa r1)) fun r2=>
 (List.length r2)=6∧
 6≤6∧
 (Q Ex.normal (Env.mk [(.v (.d (.fn (.yield yl)))),(.v (.aE x 0)),(.v .undef),(.v .undef),(.v .undef),(.v .undef),(.p (0+0) 0),(.v (.d xs)),(.v m),(.v i),(.v .undef),(.v .undef),(.v .undef),(.v .undef),(.v ys),(.v k),(.v j),(.v .undef),(.v r0),(.v r1),(.v .undef),(.v .undef),(.v .undef),(.v .undef),(.v .undef),(.v .undef)] [(af.cells (setAt [(.d (.int .i64 0)),(.d (.str [])),(.d (.bool false)),(.d (.sl .nil 0 [])),(.d (.int .i64 0)),(.d (.int .i64 0))] 0 r2))]))):=by kernel_rfl
set_option maxHeartbeats 1000000 in
theorem Xb(C:bu)(yl:Nat)(x xs:D)(m i:SV)(ys:SV)(k j u v:SV)(cs:List SV)(Q:Env→Prop):lG Go.Proofs.Try.prog gl C n5.toList 0 false (o6 0) ⟨Cs yl x xs m i ys k j u v .undef .undef .undef,[.cells cs]⟩ Q=(
 (Q (Env.mk [(.v (.d (.fn (.yield yl)))),(.v (.aE x 0)),(.v .undef),(.v .undef),(.v .undef),(.v .undef),(.p 0 0),(.v (.d xs)),(.v m),(.v i),(.v .undef),(.v .undef),(.v .undef),(.v .undef),(.v ys),(.v k),(.v j),(.v .undef),(.v u),(.v v),(.v (.d (.fn (.yield yl)))),(.v .undef),(.v .undef),(.v .undef),(.v .undef),(.v .undef)] [(af.cells cs)]))):=by kernel_rfl
set_option maxHeartbeats 1000000 in
theorem Xc(C:bu)(yl:Nat)(x xs:D)(m i:SV)(ys:SV)(k j u v t20:SV)(cs:List SV)(Q:Env→Prop):lG Go.Proofs.Try.prog gl C n5.toList 0 false (o6 1) ⟨Cs yl x xs m i ys k j u v t20 .undef .undef,[.cells cs]⟩ Q=(
 ab (ag true 6 0 cs) fun r0=>
 (Q (Env.mk [(.v (.d (.fn (.yield yl)))),(.v (.aE x 0)),(.v .undef),(.v .undef),(.v .undef),(.v .undef),(.p 0 0),(.v (.d xs)),(.v m),(.v i),(.v .undef),(.v .undef),(.v .undef),(.v .undef),(.v ys),(.v k),(.v j),(.v .undef),(.v u),(.v v),(.v t20),(.v (aa r0)),(.v .undef),(.v .undef),(.v .undef),(.v .undef)] [(af.cells cs)]))):=by kernel_rfl
set_option maxHeartbeats 1000000 in
theorem Mt(C:bu)(yl:Nat)(x xs:D)(m i:SV)(ys:SV)(k j u v t20 t21:SV)(b:Bool)(cs:List SV)(Q:Env→Prop):lG Go.Proofs.Try.prog gl C n5.toList 0 false (o6 3) ⟨Cs yl x xs m i ys k j u v t20 t21 (.d (.bool b)),[.cells cs]⟩ Q=(
 ab (cw .not (.d (.bool b))) fun r0=>
 (Q (Env.mk [(.v (.d (.fn (.yield yl)))),(.v (.aE x 0)),(.v .undef),(.v .undef),(.v .undef),(.v .undef),(.p 0 0),(.v (.d xs)),(.v m),(.v i),(.v .undef),(.v .undef),(.v .undef),(.v .undef),(.v ys),(.v k),(.v j),(.v .undef),(.v u),(.v v),(.v t20),(.v t21),(.v (.d (.bool b))),(.v r0),(.v .undef),(.v .undef)] [(af.cells cs)]))):=by kernel_rfl
set_option maxHeartbeats 1000000 in
theorem Ze(C:bu)(yl:Nat)(x xs:D)(m i:SV)(ys:SV)(k j:SV)(Q:Ex→Env→Prop):aw Go.Proofs.Try.prog gl C fV (sB (sB (sB cI))) Q ⟨vO yl x xs m i ys k j,[]⟩=(
 ab (ah none .add (aa j) (.d (.int .i64 1))) fun r0=>
 (Q Ex.normal (Env.mk [(.v (.d (.fn (.yield yl)))),(.v (.aE x 0)),(.v .undef),(.v .undef),(.v .undef),(.v .undef),(.v .undef),(.v (.d xs)),(.v m),(.v i),(.v .undef),(.v .undef),(.v .undef),(.v .undef),(.v ys),(.v k),(.v (aa r0)),(.v .undef),(.v .undef),(.v .undef),(.v .undef),(.v .undef),(.v .undef),(.v .undef),(.v r0),(.v .undef)] []))):=by kernel_rfl
set_option maxHeartbeats 1000000 in
theorem Zf(C:bu)(yl:Nat)(x xs:D)(m i:SV)(Q:Ex→Env→Prop):aw Go.Proofs.Try.prog gl C fV (sB (sB (sB cO))) Q ⟨xI yl x xs m i,[]⟩=(
 ab (ah none .add (aa i) (.d (.int .i64 1))) fun r0=>
 (Q Ex.normal (Env.mk [(.v (.d (.fn (.yield yl)))),(.v (.aE x 0)),(.v .undef),(.v .undef),(.v .undef),(.v .undef),(.v .undef),(.v (.d xs)),(.v m),(.v (aa r0)),(.v .undef),(.v .undef),(.v .undef),(.v .undef),(.v .undef),(.v .undef),(.v .undef),(.v .undef),(.v .undef),(.v .undef),(.v .undef),(.v .undef),(.v .undef),(.v .undef),(.v .undef),(.v r0)] []))):=by kernel_rfl
end Go.Proofs.Ytaknajjmldngiaa.Ab
namespace Go.Proofs.Ytaknajjmldngiaa.Ab
open Go
set_option linter.unusedVariables false
set_option maxRecDepth 4000
theorem Tt:xi=.seq (sA xi) (.block 0 (.loop cO)):=by kernel_rfl
theorem VS:cO=.seq (sA cO) (.seq (.cond (.tmp 10) .skip (.exit 0)) (.seq (.block 1 vN) (sB (sB (sB cO))))):=by kernel_rfl
theorem UG:vN=.seq (sA vN) (.seq (sA (sB vN)) (.block 2 (.loop cI))):=by kernel_rfl
theorem VT:cI=.seq (sA cI) (.seq (.cond (.tmp 17) .skip (.exit 2)) (.seq (.block 3 zT) (sB (sB (sB cI))))):=by kernel_rfl
theorem UH:zT=.seq (sA zT) (.seq (.region 6 n5 false) (.cond (.tmp 23) .ret .skip)):=by kernel_rfl
theorem Q5:n5.size=4:=by kernel_rfl
theorem Xd:n5[0]? =some (o6 0):=by kernel_rfl
theorem Xe:n5[1]? =some (o6 1):=by kernel_rfl
theorem Xf:n5[2]? =some (o6 2):=by kernel_rfl
theorem Mu:n5[3]? =some (o6 3):=by kernel_rfl
theorem VU:(o6 2).guard =none:=by kernel_rfl
theorem VV:(o6 2).dst =some 22:=by kernel_rfl
theorem VW:(o6 2).op =.call {callee:=.value (.tmp 20),args:= #[.tmp 21],argTypes:= #[79]}:=by kernel_rfl
theorem Q6(yl:Nat)(x xs m i k j z:D)(ys:SV)(u4:ys.mM=true)(u5:ys.au=true)(cs:List SV)(h1:SV.nd cs=true)(h2:SV.lC cs=true):Bg ⟨Cs yl x xs (.d m) (.d i) ys (.d k) (.d j) (.aE z 0) (.d z) (.d (.fn (.yield yl))) (.d z) .undef,[.cells cs]⟩:=by
 refine⟨?_,?_⟩
 ·show ∀s∈[_,_,_,_,_,_,_,_,_,_,_,_,_,_,_,_,_,_,_,_,_,_,_,_,_,_],Plain s
  repeat (refine List.forall_mem_cons.2 ⟨?_,?_⟩;·first|exact .v _ rfl rfl|exact .p _ _|exact .v _ u4 u5)
  intro s hs;cases hs
 ·intro bx hb
  rw[List.mem_singleton.1 hb]
  exact⟨h1,h2⟩
theorem Ki(s:ar):SV.nd s.cells=true∧SV.lC s.cells=true:=⟨rfl,rfl⟩
section
variable{x xs m i:D}{ys:SV}
theorem R4(C:pF Try.prog gl)(pre ss rest:List ar)(hL:C.L=aI (pre++ss++rest))(hy:eN 6 (aI ss) ys)(hn:ss.length≤maxLen){e:Env}(hw:tq (vO C.l x xs (.d m) (.d i) ys (.d (.int .i64 (ss.length:Int))) (.d (.int .i64 ((0:Nat):Int)))) e.ai):
  IW C 0 (.loop cI) (fun ex e' log q=>(ex=.exit 2∧q=none∧log=aI (pre++ss)∧tq (xI C.l x xs (.d m) (.d i)) e'.ai)∨(ex=.ret ∧q=some ())) e (aI pre) none:=by
 refine IW.loop (fun k e log q=>∃j,k+j=ss.length∧q=none∧log=aI (pre++ss.take j)∧tq (vO C.l x xs (.d m) (.d i) ys (.d (.int .i64 (ss.length:Int))) (.d (.int .i64 ((j:Nat):Int)))) e.ai) ?_ ss.length e _ _ ⟨0,by omega,rfl,by simp,hw⟩
 rintro k e log q ⟨j,hk,rfl,rfl,hw⟩
 rw[VT]
 refine IW.wT hw ?_
 refine IW.seq (IW.aw (hh:=fV) bH ?_)
 rw[Zc]
 simp only[sS,sT,sZ,KQ]
 refine IW.seq (IW.cond (b:=decide ((j:Int)<(ss.length:Int))) rfl ?_)
 by_cases hj:j<ss.length
 ·rw[if_pos (by simpa using hj)]
  refine IW.aw (hh:=fV) bH ?_
  show IW C 0 _ _ _ _ _
  refine IW.seq (IW.block ?_)
  refine IW.wT (sh:=vO C.l x xs (.d m) (.d i) ys (.d (.int .i64 (ss.length:Int))) (.d (.int .i64 ((j:Nat):Int)))) (by((repeat (refine And.intro ?_ ?_;·first|exact .inl rfl|exact .inr ⟨_,rfl,rfl⟩|exact .inr ⟨_,rfl,congrArg Slot.v (eN.cF (by assumption)).symm⟩));exact trivial)) ?_
  rw[UH]
  refine IW.seq (IW.aw (hh:=fV) bH ?_)
  rw[Zd]
  have hyp:ys.mM=true∧ys.au=true:=by cases hy<;>exact⟨rfl,rfl⟩
  obtain⟨s,hs⟩:=get_some hj
  simp only[hy.cF,hy.at (m9 hs),sS,sT,sZ,p7,ef,eD,fp]
  refine IW.seq (IW.region ?_)
  rw[Q5]
  show OW C 0 n5 _ [0,1,2,3] _ _ _
  refine OW.step (id:=0) (ax:=false) Xd ?_
  refine(Xb _ C.l x xs (.d m) (.d i) ys (.d (.int .i64 (ss.length:Int))) (.d (.int .i64 ((j:Nat):Int))) (.aE s.enc 0) (.d s.enc) s.cells _).mpr ?_
  refine OW.step (id:=0) (ax:=false) Xe ?_
  refine(Xc _ C.l x xs (.d m) (.d i) ys (.d (.int .i64 (ss.length:Int))) (.d (.int .i64 ((j:Nat):Int))) (.aE s.enc 0) (.d s.enc) (.d (.fn (.yield C.l))) s.cells _).mpr ?_
  rw[dH]
  show OW C 0 n5 _ [2,3] _ _ _
  have Xg:C.L[(aI (pre++ss.take j)).length]? =some s.enc:=by
   rw[hL,eM]
   refine m9 ?_
   rw[List.length_append,List.length_take,Nat.min_eq_left (by omega),List.append_assoc,List.getElem?_append_right (by omega)]
   rw[Nat.add_sub_cancel_left,List.getElem?_append_left hj,hs]
  have LZ:aI (pre++ss.take j)++[s.enc]=aI (pre++ss.take (j+1)):=by
   rw[ez hs,←List.append_assoc,←tc]
  refine OW.yield Xf VU VW rfl rfl VV rfl rfl Xg (Q6 C.l x xs m i _ _ s.enc ys hyp.1 hyp.2 s.cells (Ki s).1 (Ki s).2) ?_ ?_
  ·refine OW.step (id:=0) (ax:=false) Mu ?_
   refine(Mt _ C.l x xs (.d m) (.d i) ys (.d (.int .i64 (ss.length:Int))) (.d (.int .i64 ((j:Nat):Int))) (.aE s.enc 0) (.d s.enc) (.d (.fn (.yield C.l))) (.d s.enc) true s.cells _).mpr ?_
   refine OW.nil ?_
   show IW C 0 _ _ _ _ _
   refine IW.cond (b:=false) rfl ?_
   rw[if_neg (by simp)]
   refine IW.aw (hh:=fV) bH ?_
   show IW C 0 _ _ _ _ _
   refine IW.wT (sh:=vO C.l x xs (.d m) (.d i) ys (.d (.int .i64 (ss.length:Int))) (.d (.int .i64 ((j:Nat):Int)))) (by((repeat (refine And.intro ?_ ?_;·first|exact .inl rfl|exact .inr ⟨_,rfl,rfl⟩|exact .inr ⟨_,rfl,congrArg Slot.v (eN.cF (by assumption)).symm⟩));exact trivial)) ?_
   refine IW.aw (hh:=fV) bH ?_
   rw[Ze]
   simp only[sS,sT,sZ]
   refine aZ (bg hj hn) ?_
   refine⟨k-1,by omega,j+1,by omega,?_⟩
   first|exact⟨rfl,LZ,by((repeat (refine And.intro ?_ ?_;·first|exact .inl rfl|exact .inr ⟨_,rfl,rfl⟩|exact .inr ⟨_,rfl,congrArg Slot.v (eN.cF (by assumption)).symm⟩));exact trivial)⟩|exact⟨LZ,by((repeat (refine And.intro ?_ ?_;·first|exact .inl rfl|exact .inr ⟨_,rfl,rfl⟩|exact .inr ⟨_,rfl,congrArg Slot.v (eN.cF (by assumption)).symm⟩));exact trivial)⟩
  ·refine OW.step (id:=0) (ax:=false) Mu ?_
   refine(Mt _ C.l x xs (.d m) (.d i) ys (.d (.int .i64 (ss.length:Int))) (.d (.int .i64 ((j:Nat):Int))) (.aE s.enc 0) (.d s.enc) (.d (.fn (.yield C.l))) (.d s.enc) false s.cells _).mpr ?_
   refine OW.nil ?_
   show IW C 0 _ _ _ _ _
   refine IW.cond (b:=true) rfl ?_
   rw[if_pos rfl]
   refine IW.aw (hh:=fV) bH ?_
   first|exact .inr ⟨rfl,rfl⟩|exact .inr rfl
 ·rw[if_neg (by simpa using hj)]
  refine IW.aw (hh:=fV) bH ?_
  have Zg:j=ss.length:=by omega
  refine .inl ⟨rfl,rfl,by rw[Zg,List.take_length],?_⟩
  ((repeat (refine And.intro ?_ ?_;·first|exact .inl rfl|exact .inr ⟨_,rfl,rfl⟩|exact .inr ⟨_,rfl,congrArg Slot.v (eN.cF (by assumption)).symm⟩));exact trivial)
end
structure wU(aM:List dP)(L:List D):Prop where
 len:L.length=aM.length
 at_:∀(i:Nat)s,aM[i]? =some s→∃y,L[i]? =some y∧rO s y∧s.list.length≤2^30∧s.iH.length≤2^30∧(bh s).length ≤2^40
theorem xU{cs l:List SV}(h:l.length=cs.length):setAt cs 0 l=l:=by
 rw[v8 l cs 0 (by omega)]
 simp[←h]
theorem C1{aM:List dP}{i:Nat}{s:dP}(h:aM[i]? =some s):aM.flatMap bh=(aM.take i).flatMap bh++bh s++(aM.drop (i+1)).flatMap bh:=by
 have:=List.take_append_drop i aM
 conv=>lhs;rw[←this,nM h]
 simp[List.flatMap_append,List.append_assoc]
theorem O0(aM:List dP){L:List D}{xs:D}(hx:bK 55 L xs)(hs:wU aM L)(hn:aM.length≤maxLen):Iter Try.prog gl 67 [.aE xs 0] (aI (aM.flatMap bh)):=by
 refine S4 bH (fn:=Try.f67) (c:=xi) rfl rfl (cM (fn:=Try.f67) (by kernel_rfl) (by kernel_rfl) (by kernel_rfl)) rfl fun C hL _=>?_
 rw[Tt]
 refine IW.seq (IW.aw (hh:=fV) bH ?_)
 show aw Try.prog gl _ fV (sA xi) _ (enter 26 _)
 rw[Y8]
 have pI:aF false 1 (.aE xs 0)=some (.d xs):=by cases hx<;>rfl
 simp only[pI,sS,sT,sZ,hx.len]
 refine IW.block ?_
 refine IW.mono (Q:=fun ex e' log q=>(ex=.exit 0∧q=none∧log=aI (aM.flatMap bh))∨(ex=.ret ∧q=some ())) ?_ ?_
 rotate_left
 ·rintro ex e l q (⟨rfl,rfl,rfl⟩|⟨rfl,rfl⟩)
  ·exact⟨.inl rfl,fun _=>rfl⟩
  ·exact⟨.inr rfl,fun h=>by cases h⟩
 refine IW.loop (fun k e log q=>∃i,k+i=aM.length∧q=none∧log=aI ((aM.take i).flatMap bh)∧tq (xI C.l xs xs (.d (.int .i64 (aM.length:Int))) (.d (.int .i64 ((i:Nat):Int)))) e.ai) ?_ aM.length _ _ _ ⟨0,by omega,rfl,rfl,?_⟩
 rotate_left
 ·rw[←hs.len];((repeat (refine And.intro ?_ ?_;·first|exact .inl rfl|exact .inr ⟨_,rfl,rfl⟩|exact .inr ⟨_,rfl,congrArg Slot.v (eN.cF (by assumption)).symm⟩));exact trivial)
 rintro k e log q ⟨i,hk,rfl,rfl,hw⟩
 rw[VS]
 refine IW.wT hw ?_
 refine IW.seq (IW.aw (hh:=fV) bH ?_)
 rw[Y9]
 simp only[sS,sT,sZ,KQ]
 refine IW.seq (IW.cond (b:=decide ((i:Int)<(aM.length:Int))) rfl ?_)
 by_cases hi:i<aM.length
 ·rw[if_pos (by simpa using hi)]
  refine IW.aw (hh:=fV) bH ?_
  show IW C 0 _ _ _ _ _
  refine IW.seq (IW.block ?_)
  refine IW.wT (sh:=xI C.l xs xs (.d (.int .i64 (aM.length:Int))) (.d (.int .i64 ((i:Nat):Int)))) (by((repeat (refine And.intro ?_ ?_;·first|exact .inl rfl|exact .inr ⟨_,rfl,rfl⟩|exact .inr ⟨_,rfl,congrArg Slot.v (eN.cF (by assumption)).symm⟩));exact trivial)) ?_
  rw[UG]
  refine IW.seq (IW.aw (hh:=fV) bH ?_)
  rw[Za]
  obtain⟨s,gA⟩:=get_some hi
  obtain⟨y,hy,bB,tI,pd,xB⟩:=hs.at_ i s gA
  have o7:=bB
  have pI:=bB.load
  cases bB with
  |mk r5 r6 cP al rest h dM gr=>
  simp only[hx.at hy,sS,sT,sZ,pI,fR,fb,h]
  rw[xU (by simp[e8,h])]
  refine IW.seq (IW.aw (hh:=fV) bH ?_)
  refine(Zb _ C.l xs xs (.d (.int .i64 (aM.length:Int))) (.d (.int .i64 ((i:Nat):Int))) (.aE _ 0) (.d _) (e8 s r5 r6 cP al rest) _).mpr ?_
  simp only[kM _ _ _ _ _ _ h,sS,sT,sZ]
  obtain⟨r,⟨xA,Zh⟩,GM⟩:=OO o7 tI pd
  refine fQ GM Zh ?_
  simp only[xA.len,eM,sS,sT,sZ]
  refine IW.block (IW.mono (R4 (x:=xs) (xs:=xs) (m:=.int .i64 (aM.length:Int)) (i:=.int .i64 ((i:Nat):Int)) C ((aM.take i).flatMap bh) (bh s) ((aM.drop (i+1)).flatMap bh) (by rw[hL,C1 gA]) xA (by simp only[maxLen];omega) (by((repeat (refine And.intro ?_ ?_;·first|exact .inl rfl|exact .inr ⟨_,rfl,rfl⟩|exact .inr ⟨_,rfl,congrArg Slot.v (eN.cF (by assumption)).symm⟩));exact trivial))) ?_)
  rintro ex e2 l2 q2 (⟨rfl,rfl,rfl,Zi⟩|⟨rfl,rfl⟩)
  ·show IW C 0 _ _ _ _ _
   refine IW.wT Zi ?_
   refine IW.aw (hh:=fV) bH ?_
   rw[Zf]
   simp only[sS,sT,sZ]
   refine aZ (bg hi hn) ?_
   refine⟨k-1,by omega,i+1,by omega,?_⟩
   have pk:aI ((aM.take i).flatMap bh++bh s)=aI ((aM.take (i+1)).flatMap bh):=by rw[ez gA];simp
   first|exact⟨rfl,pk,by((repeat (refine And.intro ?_ ?_;·first|exact .inl rfl|exact .inr ⟨_,rfl,rfl⟩|exact .inr ⟨_,rfl,congrArg Slot.v (eN.cF (by assumption)).symm⟩));exact trivial)⟩|exact⟨pk,by((repeat (refine And.intro ?_ ?_;·first|exact .inl rfl|exact .inr ⟨_,rfl,rfl⟩|exact .inr ⟨_,rfl,congrArg Slot.v (eN.cF (by assumption)).symm⟩));exact trivial)⟩
  ·first|exact .inr ⟨rfl,rfl⟩|exact .inr rfl
 ·rw[if_neg (by simpa using hi)]
  refine IW.aw (hh:=fV) bH ?_
  have Zj:i=aM.length:=by omega
  exact .inl ⟨rfl,rfl,by rw[Zj,List.take_length]⟩
end Go.Proofs.Ytaknajjmldngiaa.Ab
set_option maxRecDepth 100000
namespace Go.Proofs.Ytaknajjmldngiaa.Ab
open Go
def pa:Hints:=⟨[(8,0),(8,3),(8,4),(20,10),(22,0),(22,3),(22,4)],[(14,[8,44,45,46],[2,3,4,5,9,43])],[(7,[]),(12,[.emp 8]),(13,[.nj 5 []]),(20,[.box 8 6]),(21,[.box 8 6]),(22,[.ni 8 true 6 [96]]),(23,[.ni 8 true 6 [80,82,84,85,92,93]]),(24,[.jK 8])]⟩
noncomputable def rP:Code:=Go.Proofs.Try.f48.body.getD .skip
noncomputable def FX:Code:=Go.Proofs.Try.f55.body.getD .skip
def Ct:Code→Code| .block _ (.rangeFunc _ _ a _)=>a|c=>c
def Cu:Code→Code| .block _ (.rangeFunc _ _ _ b)=>b|c=>c
noncomputable def tt:Code:=(dc rP).getD 4 .skip
def oT:List Slot:=[.v .undef,.v .undef,.p 0 0,.p 1 0,.p 2 0,.p 4 0]++List.replicate 99 (.v .undef)
def BI(al:SV)(m:List (MK×D)):List af:=[.cells [.d (.sl .nil 0 [])],.cells [.d (.int .i64 0),.d (.int .i64 0),.d (.int .i64 0),.d (.str [])],.cells [al],.map m,.one (.m 3)]
set_option maxHeartbeats 1000000 in
theorem UI(f1 f2 f3 f4:D)(al:SV)(m:List (MK×D))(K:SV→Prop):finish Go.Proofs.Try.prog Go.Proofs.Try.f48 ⟨oT,[.cells [.d (.sl .nil 0 [])],.cells [.d f1,.d f2,.d f3,.d f4],.cells [al],.map m,.one (.m 3)]⟩ K=(ab (ag false 1 0 [(.d (.sl .nil 0 []))]) fun r0=>(SV.au (aa r0))=true∧ab (ag true 4 0 [(.d f1),(.d f2),(.d f3),(.d f4)]) fun r1=>(SV.au (aa r1))=true∧(K (.dA [(aa r0),(aa r1)]))):=by kernel_rfl
set_option maxHeartbeats 1000000 in
theorem UJ(C:bu)(x:D)(Q:Ex→Env→Prop):aw Go.Proofs.Try.prog gl C fV FX Q (enter 4 [.d x])=(ab (aA (.d x)) fun r0=>(List.length r0)=1∧(Q Ex.ret (Env.mk [(.v (.d x)),(.p (0+0) 0),(.c (.func 67) [] [(.p (0+0) 0)]),(.c (.func 67) [] [(.p (0+0) 0)])] [(af.cells r0)]))):=by kernel_rfl
set_option maxHeartbeats 1000000 in
theorem UK(C:bu)(x0:SV)(Q:Ex→Env→Prop):ik Go.Proofs.Try.prog gl C pa ((dc rP).take 4) Q (enter 105 [x0])=(aP C 55 [(aa (aa (aa x0)))] fun r0=>(Q Ex.normal (Env.mk ([(.v x0),(.v .undef),(.p (0+0) 0),(.p (0+1) 0),(.p ((List.length [(af.cells [(.d (.sl .nil 0 []))]),(af.cells [(.d (.int .i64 0)),(.d (.int .i64 0)),(.d (.int .i64 0)),(.d (.str []))])])+0) 0),(.p ((List.length [(af.cells [(.d (.sl .nil 0 []))]),(af.cells [(.d (.int .i64 0)),(.d (.int .i64 0)),(.d (.int .i64 0)),(.d (.str []))]),(af.cells [(.d (.sl .nil 0 []))])])+1) 0),(.v .undef),(.v .undef),(.v .undef),(.v .undef),(.v .undef),(.v .undef),(.v .undef),(.v .undef),(.v .undef),(.m ((List.length [(af.cells [(.d (.sl .nil 0 []))]),(af.cells [(.d (.int .i64 0)),(.d (.int .i64 0)),(.d (.int .i64 0)),(.d (.str []))]),(af.cells [(.d (.sl .nil 0 []))])])+0)),(.v (aa x0)),(.v r0)]++List.replicate 87 (.v .undef)) [(af.cells [(.d (.sl .nil 0 []))]),(af.cells [(.d (.int .i64 0)),(.d (.int .i64 0)),(.d (.int .i64 0)),(.d (.str []))]),(af.cells [(.d (.sl .nil 0 []))]),(af.map []),(af.one (.m ((List.length [(af.cells [(.d (.sl .nil 0 []))]),(af.cells [(.d (.int .i64 0)),(.d (.int .i64 0)),(.d (.int .i64 0)),(.d (.str []))]),(af.cells [(.d (.sl .nil 0 []))])])+0)))]))):=by kernel_rfl
set_option maxHeartbeats 1000000 in
theorem UL(C:bu)(d:D)(al:SV)(m:List (MK×D))(Q:Ex→List af→Prop):aw Go.Proofs.Try.prog gl C pa (Ct tt) (fun x e1=>x=.normal ∧aw Go.Proofs.Try.prog gl C pa (Cu tt) (fun x e2=>Q x (e2.boxes.take 5)) e1) ⟨bF oT (some 18) (.v (.d d)),BI al m⟩=(ab (aA (.d d)) fun r0=>(List.length r0)=6∧6≤6∧Ex.normal=Ex.normal∧ab (ag false 1 0 [al]) fun r1=>ab (ag true 6 0 (setAt [(.d (.int .i64 0)),(.d (.str [])),(.d (.bool false)),(.d (.sl .nil 0 [])),(.d (.int .i64 0)),(.d (.int .i64 0))] 0 r0)) fun r2=>aP C 56 [(aa (aa (aa r1))),(aa (aa (aa r2)))] fun r3=>ab (ah (some (false,[.int])) .neq (aa (aa (aa r3))) (.d (.int .i64 0))) fun r4=>ao r4 (ab (ag true 2 4 (setAt [(.d (.int .i64 0)),(.d (.str [])),(.d (.bool false)),(.d (.sl .nil 0 [])),(.d (.int .i64 0)),(.d (.int .i64 0))] 0 r0)) fun r5=>ab (ag false 1 1 (setAt [(.d (.int .i64 0)),(.d (.str [])),(.d (.bool false)),(.d (.sl .nil 0 [])),(.d (.int .i64 0)),(.d (.int .i64 0))] 0 r0)) fun r6=>ab (aW [(0,(.v (aa (aa (aa r3))))),(1,(.v (aa (aa r5)))),(2,(.v (aa (aa r6))))]) fun r7=>ab (bY Proofs.Try.prog 125 r7) fun r8=>ab (aA (.d (.sl .nil 0 []))) fun r9=>(List.length r9)=1∧1≤1∧ab (aA (.d r8)) fun bU=>(List.length bU)=4∧4≤4∧((ab (ag true 2 4 (setAt [(.d (.int .i64 0)),(.d (.str [])),(.d (.bool false)),(.d (.sl .nil 0 [])),(.d (.int .i64 0)),(.d (.int .i64 0))] 0 r0)) fun cG=>(ab (ag false 1 1 (setAt [(.d (.int .i64 0)),(.d (.str [])),(.d (.bool false)),(.d (.sl .nil 0 [])),(.d (.int .i64 0)),(.d (.int .i64 0))] 0 r0)) fun cj=>ab (aW [(0,(.v (aa (aa (aa r3))))),(1,(.v (aa (aa cG)))),(2,(.v (aa (aa cj))))]) fun cr=>ab (bY Proofs.Try.prog 125 cr) fun bQ=>ab (aA (.d (.sl .nil 0 []))) fun cH=>(List.length cH)=1∧1≤1∧ab (aA (.d bQ)) fun cL=>(List.length cL)=4∧4≤4∧(Eq (Env.mk ([(.v .undef),(.v .undef),(.p 0 0),(.p 1 0),(.p 2 0),(.p 4 0),(.p ((List.length [(af.cells [(.d (.sl .nil 0 []))]),(af.cells [(.d (.int .i64 0)),(.d (.int .i64 0)),(.d (.int .i64 0)),(.d (.str []))]),(af.cells [al]),(af.map m),(af.one (.m 3))])+0) 0),(.v (aa r3)),(.v .undef),(.v .undef),(.v .undef),(.v .undef),(.v .undef),(.v .undef),(.v .undef),(.v .undef),(.v .undef),(.v .undef),(.v (.d d)),(.v (aa r1)),(.v (aa r2)),(.v r3),(.v (aa (aa r3))),(.v (.d (.bool true))),(.v (aa (aa r3))),(.p ((List.length [(af.cells [(.d (.sl .nil 0 []))]),(af.cells [(.d (.int .i64 0)),(.d (.int .i64 0)),(.d (.int .i64 0)),(.d (.str []))]),(af.cells [al]),(af.map m),(af.one (.m 3))])+0) 4),(.v (aa cG)),(.p ((List.length [(af.cells [(.d (.sl .nil 0 []))]),(af.cells [(.d (.int .i64 0)),(.d (.int .i64 0)),(.d (.int .i64 0)),(.d (.str []))]),(af.cells [al]),(af.map m),(af.one (.m 3))])+0) 1),(.v (aa cj)),(.v (.d bQ))]++List.replicate 75 (.v .undef)) [(af.cells (setAt [(.d (.sl .nil 0 []))] 0 cH)),(af.cells (setAt [(.d (.int .i64 0)),(.d (.int .i64 0)),(.d (.int .i64 0)),(.d (.str []))] 0 cL)),(af.cells [al]),(af.map m),(af.one (.m 3)),(af.cells (setAt [(.d (.int .i64 0)),(.d (.str [])),(.d (.bool false)),(.d (.sl .nil 0 [])),(.d (.int .i64 0)),(.d (.int .i64 0))] 0 r0))]) (Env.mk ([(.v .undef),(.v .undef),(.p 0 0),(.p 1 0),(.p 2 0),(.p 4 0),(.p ((List.length [(af.cells [(.d (.sl .nil 0 []))]),(af.cells [(.d (.int .i64 0)),(.d (.int .i64 0)),(.d (.int .i64 0)),(.d (.str []))]),(af.cells [al]),(af.map m),(af.one (.m 3))])+0) 0),(.v (aa r3)),(.v .undef),(.v .undef),(.v .undef),(.v .undef),(.v .undef),(.v .undef),(.v .undef),(.v .undef),(.v .undef),(.v .undef),(.v (.d d)),(.v (aa r1)),(.v (aa r2)),(.v r3),(.v (aa (aa r3))),(.v (.d (.bool true))),(.v (aa (aa r3))),(.p ((List.length [(af.cells [(.d (.sl .nil 0 []))]),(af.cells [(.d (.int .i64 0)),(.d (.int .i64 0)),(.d (.int .i64 0)),(.d (.str []))]),(af.cells [al]),(af.map m),(af.one (.m 3))])+0) 4),(.v (aa r5)),(.p ((List.length [(af.cells [(.d (.sl .nil 0 []))]),(af.cells [(.d (.int .i64 0)),(.d (.int .i64 0)),(.d (.int .i64 0)),(.d (.str []))]),(af.cells [al]),(af.map m),(af.one (.m 3))])+0) 1),(.v (aa r6)),(.v (.d r8))]++List.replicate 75 (.v .undef)) [(af.cells (setAt [(.d (.sl .nil 0 []))] 0 r9)),(af.cells (setAt [(.d (.int .i64 0)),(.d (.int .i64 0)),(.d (.int .i64 0)),(.d (.str []))] 0 bU)),(af.cells [al]),(af.map m),(af.one (.m 3)),(af.cells (setAt [(.d (.int .i64 0)),(.d (.str [])),(.d (.bool false)),(.d (.sl .nil 0 [])),(.d (.int .i64 0)),(.d (.int .i64 0))] 0 r0))])))∧ab (aA (.d (.sl .nil 0 []))) fun du=>(List.length du)=1∧1≤1∧ab (ag false 1 1 (setAt [(.d (.int .i64 0)),(.d (.str [])),(.d (.bool false)),(.d (.sl .nil 0 [])),(.d (.int .i64 0)),(.d (.int .i64 0))] 0 r0)) fun dF=>ab (aW [(0,(.v (aa (aa (aa r3))))),(1,(.v (aa (aa cG)))),(2,(.v (aa (aa dF))))]) fun ed=>ab (bY Proofs.Try.prog 125 ed) fun dX=>ab (aA (.d dX)) fun dm=>(List.length dm)=4∧4≤4∧(Eq (Env.mk ([(.v .undef),(.v .undef),(.p 0 0),(.p 1 0),(.p 2 0),(.p 4 0),(.p ((List.length [(af.cells [(.d (.sl .nil 0 []))]),(af.cells [(.d (.int .i64 0)),(.d (.int .i64 0)),(.d (.int .i64 0)),(.d (.str []))]),(af.cells [al]),(af.map m),(af.one (.m 3))])+0) 0),(.v (aa r3)),(.v .undef),(.v .undef),(.v .undef),(.v .undef),(.v .undef),(.v .undef),(.v .undef),(.v .undef),(.v .undef),(.v .undef),(.v (.d d)),(.v (aa r1)),(.v (aa r2)),(.v r3),(.v (aa (aa r3))),(.v (.d (.bool true))),(.v (aa (aa r3))),(.p ((List.length [(af.cells [(.d (.sl .nil 0 []))]),(af.cells [(.d (.int .i64 0)),(.d (.int .i64 0)),(.d (.int .i64 0)),(.d (.str []))]),(af.cells [al]),(af.map m),(af.one (.m 3))])+0) 4),(.v (aa cG)),(.p ((List.length [(af.cells [(.d (.sl .nil 0 []))]),(af.cells [(.d (.int .i64 0)),(.d (.int .i64 0)),(.d (.int .i64 0)),(.d (.str []))]),(af.cells [al]),(af.map m),(af.one (.m 3))])+0) 1),(.v (aa dF)),(.v (.d dX))]++List.replicate 75 (.v .undef)) [(af.cells (setAt [(.d (.sl .nil 0 []))] 0 du)),(af.cells (setAt [(.d (.int .i64 0)),(.d (.int .i64 0)),(.d (.int .i64 0)),(.d (.str []))] 0 dm)),(af.cells [al]),(af.map m),(af.one (.m 3)),(af.cells (setAt [(.d (.int .i64 0)),(.d (.str [])),(.d (.bool false)),(.d (.sl .nil 0 [])),(.d (.int .i64 0)),(.d (.int .i64 0))] 0 r0))]) (Env.mk ([(.v .undef),(.v .undef),(.p 0 0),(.p 1 0),(.p 2 0),(.p 4 0),(.p ((List.length [(af.cells [(.d (.sl .nil 0 []))]),(af.cells [(.d (.int .i64 0)),(.d (.int .i64 0)),(.d (.int .i64 0)),(.d (.str []))]),(af.cells [al]),(af.map m),(af.one (.m 3))])+0) 0),(.v (aa r3)),(.v .undef),(.v .undef),(.v .undef),(.v .undef),(.v .undef),(.v .undef),(.v .undef),(.v .undef),(.v .undef),(.v .undef),(.v (.d d)),(.v (aa r1)),(.v (aa r2)),(.v r3),(.v (aa (aa r3))),(.v (.d (.bool true))),(.v (aa (aa r3))),(.p ((List.length [(af.cells [(.d (.sl .nil 0 []))]),(af.cells [(.d (.int .i64 0)),(.d (.int .i64 0)),(.d (.int .i64 0)),(.d (.str []))]),(af.cells [al]),(af.map m),(af.one (.m 3))])+0) 4),(.v (aa r5)),(.p ((List.length [(af.cells [(.d (.sl .nil 0 []))]),(af.cells [(.d (.int .i64 0)),(.d (.int .i64 0)),(.d (.int .i64 0)),(.d (.str []))]),(af.cells [al]),(af.map m),(af.one (.m 3))])+0) 1),(.v (aa r6)),(.v (.d r8))]++List.replicate 75 (.v .undef)) [(af.cells (setAt [(.d (.sl .nil 0 []))] 0 r9)),(af.cells (setAt [(.d (.int .i64 0)),(.d (.int .i64 0)),(.d (.int .i64 0)),(.d (.str []))] 0 bU)),(af.cells [al]),(af.map m),(af.one (.m 3)),(af.cells (setAt [(.d (.int .i64 0)),(.d (.str [])),(.d (.bool false)),(.d (.sl .nil 0 [])),(.d (.int .i64 0)),(.d (.int .i64 0))] 0 r0))])))∧(ab (ag false 1 1 (setAt [(.d (.int .i64 0)),(.d (.str [])),(.d (.bool false)),(.d (.sl .nil 0 [])),(.d (.int .i64 0)),(.d (.int .i64 0))] 0 r0)) fun dK=>(ab (ag true 2 4 (setAt [(.d (.int .i64 0)),(.d (.str [])),(.d (.bool false)),(.d (.sl .nil 0 [])),(.d (.int .i64 0)),(.d (.int .i64 0))] 0 r0)) fun eR=>ab (aW [(0,(.v (aa (aa (aa r3))))),(1,(.v (aa (aa eR)))),(2,(.v (aa (aa dK))))]) fun eL=>ab (bY Proofs.Try.prog 125 eL) fun dY=>ab (aA (.d (.sl .nil 0 []))) fun ek=>(List.length ek)=1∧1≤1∧ab (aA (.d dY)) fun eS=>(List.length eS)=4∧4≤4∧(Eq (Env.mk ([(.v .undef),(.v .undef),(.p 0 0),(.p 1 0),(.p 2 0),(.p 4 0),(.p ((List.length [(af.cells [(.d (.sl .nil 0 []))]),(af.cells [(.d (.int .i64 0)),(.d (.int .i64 0)),(.d (.int .i64 0)),(.d (.str []))]),(af.cells [al]),(af.map m),(af.one (.m 3))])+0) 0),(.v (aa r3)),(.v .undef),(.v .undef),(.v .undef),(.v .undef),(.v .undef),(.v .undef),(.v .undef),(.v .undef),(.v .undef),(.v .undef),(.v (.d d)),(.v (aa r1)),(.v (aa r2)),(.v r3),(.v (aa (aa r3))),(.v (.d (.bool true))),(.v (aa (aa r3))),(.p ((List.length [(af.cells [(.d (.sl .nil 0 []))]),(af.cells [(.d (.int .i64 0)),(.d (.int .i64 0)),(.d (.int .i64 0)),(.d (.str []))]),(af.cells [al]),(af.map m),(af.one (.m 3))])+0) 4),(.v (aa eR)),(.p ((List.length [(af.cells [(.d (.sl .nil 0 []))]),(af.cells [(.d (.int .i64 0)),(.d (.int .i64 0)),(.d (.int .i64 0)),(.d (.str []))]),(af.cells [al]),(af.map m),(af.one (.m 3))])+0) 1),(.v (aa dK)),(.v (.d dY))]++List.replicate 75 (.v .undef)) [(af.cells (setAt [(.d (.sl .nil 0 []))] 0 ek)),(af.cells (setAt [(.d (.int .i64 0)),(.d (.int .i64 0)),(.d (.int .i64 0)),(.d (.str []))] 0 eS)),(af.cells [al]),(af.map m),(af.one (.m 3)),(af.cells (setAt [(.d (.int .i64 0)),(.d (.str [])),(.d (.bool false)),(.d (.sl .nil 0 [])),(.d (.int .i64 0)),(.d (.int .i64 0))] 0 r0))]) (Env.mk ([(.v .undef),(.v .undef),(.p 0 0),(.p 1 0),(.p 2 0),(.p 4 0),(.p ((List.length [(af.cells [(.d (.sl .nil 0 []))]),(af.cells [(.d (.int .i64 0)),(.d (.int .i64 0)),(.d (.int .i64 0)),(.d (.str []))]),(af.cells [al]),(af.map m),(af.one (.m 3))])+0) 0),(.v (aa r3)),(.v .undef),(.v .undef),(.v .undef),(.v .undef),(.v .undef),(.v .undef),(.v .undef),(.v .undef),(.v .undef),(.v .undef),(.v (.d d)),(.v (aa r1)),(.v (aa r2)),(.v r3),(.v (aa (aa r3))),(.v (.d (.bool true))),(.v (aa (aa r3))),(.p ((List.length [(af.cells [(.d (.sl .nil 0 []))]),(af.cells [(.d (.int .i64 0)),(.d (.int .i64 0)),(.d (.int .i64 0)),(.d (.str []))]),(af.cells [al]),(af.map m),(af.one (.m 3))])+0) 4),(.v (aa r5)),(.p ((List.length [(af.cells [(.d (.sl .nil 0 []))]),(af.cells [(.d (.int .i64 0)),(.d (.int .i64 0)),(.d (.int .i64 0)),(.d (.str []))]),(af.cells [al]),(af.map m),(af.one (.m 3))])+0) 1),(.v (aa r6)),(.v (.d r8))]++List.replicate 75 (.v .undef)) [(af.cells (setAt [(.d (.sl .nil 0 []))] 0 r9)),(af.cells (setAt [(.d (.int .i64 0)),(.d (.int .i64 0)),(.d (.int .i64 0)),(.d (.str []))] 0 bU)),(af.cells [al]),(af.map m),(af.one (.m 3)),(af.cells (setAt [(.d (.int .i64 0)),(.d (.str [])),(.d (.bool false)),(.d (.sl .nil 0 [])),(.d (.int .i64 0)),(.d (.int .i64 0))] 0 r0))])))∧ab (aA (.d (.sl .nil 0 []))) fun e7=>(List.length e7)=1∧1≤1∧ab (ag true 2 4 (setAt [(.d (.int .i64 0)),(.d (.str [])),(.d (.bool false)),(.d (.sl .nil 0 [])),(.d (.int .i64 0)),(.d (.int .i64 0))] 0 r0)) fun dv=>ab (aW [(0,(.v (aa (aa (aa r3))))),(1,(.v (aa (aa dv)))),(2,(.v (aa (aa dK))))]) fun eT=>ab (bY Proofs.Try.prog 125 eT) fun dO=>ab (aA (.d dO)) fun eI=>(List.length eI)=4∧4≤4∧(Eq (Env.mk ([(.v .undef),(.v .undef),(.p 0 0),(.p 1 0),(.p 2 0),(.p 4 0),(.p ((List.length [(af.cells [(.d (.sl .nil 0 []))]),(af.cells [(.d (.int .i64 0)),(.d (.int .i64 0)),(.d (.int .i64 0)),(.d (.str []))]),(af.cells [al]),(af.map m),(af.one (.m 3))])+0) 0),(.v (aa r3)),(.v .undef),(.v .undef),(.v .undef),(.v .undef),(.v .undef),(.v .undef),(.v .undef),(.v .undef),(.v .undef),(.v .undef),(.v (.d d)),(.v (aa r1)),(.v (aa r2)),(.v r3),(.v (aa (aa r3))),(.v (.d (.bool true))),(.v (aa (aa r3))),(.p ((List.length [(af.cells [(.d (.sl .nil 0 []))]),(af.cells [(.d (.int .i64 0)),(.d (.int .i64 0)),(.d (.int .i64 0)),(.d (.str []))]),(af.cells [al]),(af.map m),(af.one (.m 3))])+0) 4),(.v (aa dv)),(.p ((List.length [(af.cells [(.d (.sl .nil 0 []))]),(af.cells [(.d (.int .i64 0)),(.d (.int .i64 0)),(.d (.int .i64 0)),(.d (.str []))]),(af.cells [al]),(af.map m),(af.one (.m 3))])+0) 1),(.v (aa dK)),(.v (.d dO))]++List.replicate 75 (.v .undef)) [(af.cells (setAt [(.d (.sl .nil 0 []))] 0 e7)),(af.cells (setAt [(.d (.int .i64 0)),(.d (.int .i64 0)),(.d (.int .i64 0)),(.d (.str []))] 0 eI)),(af.cells [al]),(af.map m),(af.one (.m 3)),(af.cells (setAt [(.d (.int .i64 0)),(.d (.str [])),(.d (.bool false)),(.d (.sl .nil 0 [])),(.d (.int .i64 0)),(.d (.int .i64 0))] 0 r0))]) (Env.mk ([(.v .undef),(.v .undef),(.p 0 0),(.p 1 0),(.p 2 0),(.p 4 0),(.p ((List.length [(af.cells [(.d (.sl .nil 0 []))]),(af.cells [(.d (.int .i64 0)),(.d (.int .i64 0)),(.d (.int .i64 0)),(.d (.str []))]),(af.cells [al]),(af.map m),(af.one (.m 3))])+0) 0),(.v (aa r3)),(.v .undef),(.v .undef),(.v .undef),(.v .undef),(.v .undef),(.v .undef),(.v .undef),(.v .undef),(.v .undef),(.v .undef),(.v (.d d)),(.v (aa r1)),(.v (aa r2)),(.v r3),(.v (aa (aa r3))),(.v (.d (.bool true))),(.v (aa (aa r3))),(.p ((List.length [(af.cells [(.d (.sl .nil 0 []))]),(af.cells [(.d (.int .i64 0)),(.d (.int .i64 0)),(.d (.int .i64 0)),(.d (.str []))]),(af.cells [al]),(af.map m),(af.one (.m 3))])+0) 4),(.v (aa r5)),(.p ((List.length [(af.cells [(.d (.sl .nil 0 []))]),(af.cells [(.d (.int .i64 0)),(.d (.int .i64 0)),(.d (.int .i64 0)),(.d (.str []))]),(af.cells [al]),(af.map m),(af.one (.m 3))])+0) 1),(.v (aa r6)),(.v (.d r8))]++List.replicate 75 (.v .undef)) [(af.cells (setAt [(.d (.sl .nil 0 []))] 0 r9)),(af.cells (setAt [(.d (.int .i64 0)),(.d (.int .i64 0)),(.d (.int .i64 0)),(.d (.str []))] 0 bU)),(af.cells [al]),(af.map m),(af.one (.m 3)),(af.cells (setAt [(.d (.int .i64 0)),(.d (.str [])),(.d (.bool false)),(.d (.sl .nil 0 [])),(.d (.int .i64 0)),(.d (.int .i64 0))] 0 r0))])))∧ab (aA (.d (.sl .nil 0 []))) fun eU=>(List.length eU)=1∧1≤1∧ab (ag true 2 4 (setAt [(.d (.int .i64 0)),(.d (.str [])),(.d (.bool false)),(.d (.sl .nil 0 [])),(.d (.int .i64 0)),(.d (.int .i64 0))] 0 r0)) fun eH=>ab (ag false 1 1 (setAt [(.d (.int .i64 0)),(.d (.str [])),(.d (.bool false)),(.d (.sl .nil 0 [])),(.d (.int .i64 0)),(.d (.int .i64 0))] 0 r0)) fun fC=>ab (aW [(0,(.v (aa (aa (aa r3))))),(1,(.v (aa (aa eH)))),(2,(.v (aa (aa fC))))]) fun gy=>ab (bY Proofs.Try.prog 125 gy) fun im=>ab (aA (.d im)) fun gz=>(List.length gz)=4∧4≤4∧(Eq (Env.mk ([(.v .undef),(.v .undef),(.p 0 0),(.p 1 0),(.p 2 0),(.p 4 0),(.p ((List.length [(af.cells [(.d (.sl .nil 0 []))]),(af.cells [(.d (.int .i64 0)),(.d (.int .i64 0)),(.d (.int .i64 0)),(.d (.str []))]),(af.cells [al]),(af.map m),(af.one (.m 3))])+0) 0),(.v (aa r3)),(.v .undef),(.v .undef),(.v .undef),(.v .undef),(.v .undef),(.v .undef),(.v .undef),(.v .undef),(.v .undef),(.v .undef),(.v (.d d)),(.v (aa r1)),(.v (aa r2)),(.v r3),(.v (aa (aa r3))),(.v (.d (.bool true))),(.v (aa (aa r3))),(.p ((List.length [(af.cells [(.d (.sl .nil 0 []))]),(af.cells [(.d (.int .i64 0)),(.d (.int .i64 0)),(.d (.int .i64 0)),(.d (.str []))]),(af.cells [al]),(af.map m),(af.one (.m 3))])+0) 4),(.v (aa eH)),(.p ((List.length [(af.cells [(.d (.sl .nil 0 []))]),(af.cells [(.d (.int .i64 0)),(.d (.int .i64 0)),(.d (.int .i64 0)),(.d (.str []))]),(af.cells [al]),(af.map m),(af.one (.m 3))])+0) 1),(.v (aa fC)),(.v (.d im))]++List.replicate 75 (.v .undef)) [(af.cells (setAt [(.d (.sl .nil 0 []))] 0 eU)),(af.cells (setAt [(.d (.int .i64 0)),(.d (.int .i64 0)),(.d (.int .i64 0)),(.d (.str []))] 0 gz)),(af.cells [al]),(af.map m),(af.one (.m 3)),(af.cells (setAt [(.d (.int .i64 0)),(.d (.str [])),(.d (.bool false)),(.d (.sl .nil 0 [])),(.d (.int .i64 0)),(.d (.int .i64 0))] 0 r0))]) (Env.mk ([(.v .undef),(.v .undef),(.p 0 0),(.p 1 0),(.p 2 0),(.p 4 0),(.p ((List.length [(af.cells [(.d (.sl .nil 0 []))]),(af.cells [(.d (.int .i64 0)),(.d (.int .i64 0)),(.d (.int .i64 0)),(.d (.str []))]),(af.cells [al]),(af.map m),(af.one (.m 3))])+0) 0),(.v (aa r3)),(.v .undef),(.v .undef),(.v .undef),(.v .undef),(.v .undef),(.v .undef),(.v .undef),(.v .undef),(.v .undef),(.v .undef),(.v (.d d)),(.v (aa r1)),(.v (aa r2)),(.v r3),(.v (aa (aa r3))),(.v (.d (.bool true))),(.v (aa (aa r3))),(.p ((List.length [(af.cells [(.d (.sl .nil 0 []))]),(af.cells [(.d (.int .i64 0)),(.d (.int .i64 0)),(.d (.int .i64 0)),(.d (.str []))]),(af.cells [al]),(af.map m),(af.one (.m 3))])+0) 4),(.v (aa r5)),(.p ((List.length [(af.cells [(.d (.sl .nil 0 []))]),(af.cells [(.d (.int .i64 0)),(.d (.int .i64 0)),(.d (.int .i64 0)),(.d (.str []))]),(af.cells [al]),(af.map m),(af.one (.m 3))])+0) 1),(.v (aa r6)),(.v (.d r8))]++List.replicate 75 (.v .undef)) [(af.cells (setAt [(.d (.sl .nil 0 []))] 0 r9)),(af.cells (setAt [(.d (.int .i64 0)),(.d (.int .i64 0)),(.d (.int .i64 0)),(.d (.str []))] 0 bU)),(af.cells [al]),(af.map m),(af.one (.m 3)),(af.cells (setAt [(.d (.int .i64 0)),(.d (.str [])),(.d (.bool false)),(.d (.sl .nil 0 [])),(.d (.int .i64 0)),(.d (.int .i64 0))] 0 r0))])))∧(Q Ex.ret [(af.cells (setAt [(.d (.sl .nil 0 []))] 0 r9)),(af.cells (setAt [(.d (.int .i64 0)),(.d (.int .i64 0)),(.d (.int .i64 0)),(.d (.str []))] 0 bU)),(af.cells [al]),(af.map m),(af.one (.m 3))])) (ab (ag true 6 0 (setAt [(.d (.int .i64 0)),(.d (.str [])),(.d (.bool false)),(.d (.sl .nil 0 [])),(.d (.int .i64 0)),(.d (.int .i64 0))] 0 r0)) fun fD=>ab (aW [(0,(.v (aa (aa fD))))]) fun fY=>(bO 6 1 fY)=true∧bW 6 72 al (.full 6 (bL (bN true [(.int .i64 0),(.str []),(.bool false),(.sl .nil 0 []),(.int .i64 0),(.int .i64 0)]) fY 1 0)) fun fk=>ab (aA fk) fun fN=>(List.length fN)=1∧0<(List.length [(aa al)])∧ab (ag false 1 2 (setAt [(.d (.int .i64 0)),(.d (.str [])),(.d (.bool false)),(.d (.sl .nil 0 [])),(.d (.int .i64 0)),(.d (.int .i64 0))] 0 r0)) fun gv=>ab (cw .not (aa (aa gv))) fun fZ=>ao fZ (ab (ag false 1 0 (setAt [(.d (.int .i64 0)),(.d (.str [])),(.d (.bool false)),(.d (.sl .nil 0 [])),(.d (.int .i64 0)),(.d (.int .i64 0))] 0 r0)) fun gV=>ab (ag false 1 1 (setAt [(.d (.int .i64 0)),(.d (.str [])),(.d (.bool false)),(.d (.sl .nil 0 [])),(.d (.int .i64 0)),(.d (.int .i64 0))] 0 r0)) fun ga=>ab (aW [(0,(.v (aa (aa gV)))),(1,(.v (aa (aa ga))))]) fun gw=>ab (bY Proofs.Try.prog 164 gw) fun il=>ab (jI (some [.int,.str]) (.d il)) fun gb=>ab (cg (.d (.bool true))) fun gx=>ab (lH m gb gx) fun gW=>(Q Ex.normal [(af.cells [(.d (.sl .nil 0 []))]),(af.cells [(.d (.int .i64 0)),(.d (.int .i64 0)),(.d (.int .i64 0)),(.d (.str []))]),(af.cells (setAt [(aa al)] 0 fN)),(af.map gW),(af.one (.m 3))])) ((Q Ex.normal [(af.cells [(.d (.sl .nil 0 []))]),(af.cells [(.d (.int .i64 0)),(.d (.int .i64 0)),(.d (.int .i64 0)),(.d (.str []))]),(af.cells (setAt [(aa al)] 0 fN)),(af.map m),(af.one (.m 3))])))):=by kernel_rfl
set_option maxHeartbeats 1000000 in
theorem UM(C:bu)(al:SV)(m:List (MK×D))(K:SV→Prop):ik Go.Proofs.Try.prog gl C pa ((dc rP).drop 5) (tE Go.Proofs.Try.prog Go.Proofs.Try.f48 K) ⟨oT,BI al m⟩=(ab (w5 (.d (.sl .nil 0 []))) fun r0=>ab (ag false 1 0 [al]) fun r1=>ab (bG (aa (aa r1))) fun r2=>cm (fun ba bS I5=>ab (ah none .lss (aa (ae ba 3)) (aa (ae ba 2))) fun r6=>ao r6 (ab (aR 6 (aa (ae ba 1)) (aa (ae ba 3))) fun r7=>ab (aF true 6 (aa r7)) fun r8=>ab (aA (aa r8)) fun r9=>(List.length r9)=6∧6≤6∧ab (ag false 1 0 (setAt [(.d (.int .i64 0)),(.d (.str [])),(.d (.bool false)),(.d (.sl .nil 0 [])),(.d (.int .i64 0)),(.d (.int .i64 0))] 0 r9)) fun bU=>ab (ag false 1 1 (setAt [(.d (.int .i64 0)),(.d (.str [])),(.d (.bool false)),(.d (.sl .nil 0 [])),(.d (.int .i64 0)),(.d (.int .i64 0))] 0 r9)) fun cG=>ab (aW [(0,(.v (aa (aa bU)))),(1,(.v (aa (aa cG))))]) fun cj=>ab (bY Proofs.Try.prog 164 cj) fun cr=>ab (aA (.d cr)) fun bQ=>(List.length bQ)=2∧2≤2∧ab (ag false 1 2 (setAt [(.d (.int .i64 0)),(.d (.str [])),(.d (.bool false)),(.d (.sl .nil 0 [])),(.d (.int .i64 0)),(.d (.int .i64 0))] 0 r9)) fun cH=>ao (aa (aa cH)) (ab (ag false 1 0 (aq bS 4)) fun cL=>ab (ag true 2 0 (setAt [(.d (.int .i64 0)),(.d (.str []))] 0 bQ)) fun du=>ab (nO (some [.int,.str]) (.bool false) (aa (aa cL)) (aa (aa du))) fun dF=>ao (.d dF.1) (ab (ah none .add (aa (ae ba 3)) (.d (.int .i64 1))) fun ed=>(I5 [(ae ba 0),(ae ba 1),(ae ba 2),(aa ed)] [(af.ay (af.cells (aq bS 0))),(af.ay (af.cells (aq bS 1))),(af.ay (af.cells (aq bS 2))),[.undef],(af.ay (af.cells (aq bS 4))),[(.mp (mapOf (aq bS 5)))]])) (ab (ag false 1 0 (setAt [(.d (.int .i64 0)),(.d (.str [])),(.d (.bool false)),(.d (.sl .nil 0 [])),(.d (.int .i64 0)),(.d (.int .i64 0))] 0 r9)) fun dX=>ab (ag false 1 1 (setAt [(.d (.int .i64 0)),(.d (.str [])),(.d (.bool false)),(.d (.sl .nil 0 [])),(.d (.int .i64 0)),(.d (.int .i64 0))] 0 r9)) fun dm=>aP C 57 [(aa (aa (aa dX))),(aa (aa (aa dm)))] fun dK=>ao (aa (aa dK)) (ab (ah none .add (aa (ae ba 3)) (.d (.int .i64 1))) fun eR=>(I5 [(ae ba 0),(ae ba 1),(ae ba 2),(aa eR)] [(af.ay (af.cells (aq bS 0))),(af.ay (af.cells (aq bS 1))),(af.ay (af.cells (aq bS 2))),[.undef],(af.ay (af.cells (aq bS 4))),[(.mp (mapOf (aq bS 5)))]])) (ab (ag true 2 0 (setAt [(.d (.int .i64 0)),(.d (.str []))] 0 bQ)) fun eL=>ab (nO (some [.int,.str]) (.int .i64 0) (.mp (mapOf (aq bS 5))) (aa (aa eL))) fun dY=>ao (.d (.bool (Prod.snd dY))) (ab (ag false 1 2 (setAt [(.d (.int .i64 0)),(.d (.str [])),(.d (.bool false)),(.d (.sl .nil 0 [])),(.d (.int .i64 0)),(.d (.int .i64 0))] 0 r9)) fun ek=>ao (aa (aa ek)) (kW (ae ba 0) 6 (fun xJ=>ab (eh (.d dY.1) (List.length xJ)) fun e7=>ab (ag false 1 ((e7*6)+3) (bV xJ)) fun dv=>aP C 59 [(aa (aa (aa dv)))] fun eT=>ab (ag false 1 3 (setAt [(.d (.int .i64 0)),(.d (.str [])),(.d (.bool false)),(.d (.sl .nil 0 [])),(.d (.int .i64 0)),(.d (.int .i64 0))] 0 r9)) fun dO=>bW 1 16 eT (aa (aa dO)) fun eI=>aP C 58 [(aa (aa eI))] fun eU=>ab (eh (.d dY.1) (List.length xJ)) fun eH=>ab (aA (aa eU)) fun fC=>(List.length fC)=1∧(((eH*6)+3)+1)≤(List.length (bV xJ))∧ab (dT (setAt (bV xJ) ((eH*6)+3) fC)) fun gy=>ab (iQ true 6 (List.length xJ) gy) fun im=>ab (ah none .add (aa (ae ba 3)) (.d (.int .i64 1))) fun gz=>(I5 [(.bj 6 im),(ae ba 1),(ae ba 2),(aa gz)] [(af.ay (af.cells (aq bS 0))),(af.ay (af.cells (aq bS 1))),(af.ay (af.cells (aq bS 2))),[.undef],(af.ay (af.cells (aq bS 4))),[(.mp (mapOf (aq bS 5)))]])) (ab (aR 6 (aa (aa (ae ba 0))) (.d dY.1)) fun fD=>ab (bD (aa fD) 3) fun fY=>ab (aF false 1 (aa fY)) fun fk=>aP C 59 [(aa (aa fk))] fun fN=>ab (ag false 1 3 (setAt [(.d (.int .i64 0)),(.d (.str [])),(.d (.bool false)),(.d (.sl .nil 0 [])),(.d (.int .i64 0)),(.d (.int .i64 0))] 0 r9)) fun gv=>bW 1 16 fN (aa (aa gv)) fun fZ=>aP C 58 [(aa (aa fZ))] fun gV=>ab (aR 6 (aa (aa (ae ba 0))) (.d dY.1)) fun ga=>ab (bD (aa ga) 3) fun gw=>False)) (kW (ae ba 0) 6 (fun Hg=>ab (ag true 2 0 (setAt [(.d (.int .i64 0)),(.d (.str []))] 0 bQ)) fun gb=>ab (jI (some [.int,.str]) (aa (aa gb))) fun gx=>ab (cg (.d (.int .i64 (Nat.cast (List.length Hg))))) fun gW=>ab (lH (mapOf (aq bS 5)) gx gW) fun iI=>ab (dT (bV Hg)) fun je=>ab (iQ true 6 (List.length Hg) je) fun iJ=>ab (ag true 6 0 (setAt [(.d (.int .i64 0)),(.d (.str [])),(.d (.bool false)),(.d (.sl .nil 0 [])),(.d (.int .i64 0)),(.d (.int .i64 0))] 0 r9)) fun iK=>ab (aW [(0,(.v (aa (aa iK))))]) fun iL=>(bO 6 1 iL)=true∧bW 6 72 (.bj 6 iJ) (.full 6 (bL (bN true [(.int .i64 0),(.str []),(.bool false),(.sl .nil 0 []),(.int .i64 0),(.int .i64 0)]) iL 1 0)) fun jf=>ab (ah none .add (aa (ae ba 3)) (.d (.int .i64 1))) fun jR=>(I5 [jf,(ae ba 1),(ae ba 2),(aa jR)] [(af.ay (af.cells (aq bS 0))),(af.ay (af.cells (aq bS 1))),(af.ay (af.cells (aq bS 2))),[.undef],(af.ay (af.cells (aq bS 4))),[(.mp iI)]])) (ab (ag true 2 0 (setAt [(.d (.int .i64 0)),(.d (.str []))] 0 bQ)) fun kH=>ab (bG (aa (aa (ae ba 0)))) fun iM=>ab (jI (some [.int,.str]) (aa (aa kH))) fun jg=>ab (cg (aa iM)) fun jS=>ab (lH (mapOf (aq bS 5)) jg jS) fun fE=>ab (ag true 6 0 (setAt [(.d (.int .i64 0)),(.d (.str [])),(.d (.bool false)),(.d (.sl .nil 0 [])),(.d (.int .i64 0)),(.d (.int .i64 0))] 0 r9)) fun kb=>ab (aW [(0,(.v (aa (aa kb))))]) fun jT=>(bO 6 1 jT)=true∧bW 6 72 (ae ba 0) (.full 6 (bL (bN true [(.int .i64 0),(.str []),(.bool false),(.sl .nil 0 []),(.int .i64 0),(.int .i64 0)]) jT 1 0)) fun lg=>ab (ah none .add (aa (ae ba 3)) (.d (.int .i64 1))) fun lh=>(I5 [lg,(ae ba 1),(ae ba 2),(aa lh)] [(af.ay (af.cells (aq bS 0))),(af.ay (af.cells (aq bS 1))),(af.ay (af.cells (aq bS 2))),[.undef],(af.ay (af.cells (aq bS 4))),[(.mp fE)]])))) (kW (ae ba 0) 6 (fun Hh=>ab (ag true 2 0 (setAt [(.d (.int .i64 0)),(.d (.str []))] 0 bQ)) fun mi=>ab (jI (some [.int,.str]) (aa (aa mi))) fun kI=>ab (cg (.d (.int .i64 (Nat.cast (List.length Hh))))) fun lj=>ab (lH (mapOf (aq bS 5)) kI lj) fun lk=>ab (dT (bV Hh)) fun lp=>ab (iQ true 6 (List.length Hh) lp) fun mX=>ab (ag true 6 0 (setAt [(.d (.int .i64 0)),(.d (.str [])),(.d (.bool false)),(.d (.sl .nil 0 [])),(.d (.int .i64 0)),(.d (.int .i64 0))] 0 r9)) fun mY=>ab (aW [(0,(.v (aa (aa mY))))]) fun nC=>(bO 6 1 nC)=true∧bW 6 72 (.bj 6 mX) (.full 6 (bL (bN true [(.int .i64 0),(.str []),(.bool false),(.sl .nil 0 []),(.int .i64 0),(.int .i64 0)]) nC 1 0)) fun nD=>ab (ah none .add (aa (ae ba 3)) (.d (.int .i64 1))) fun qK=>(I5 [nD,(ae ba 1),(ae ba 2),(aa qK)] [(af.ay (af.cells (aq bS 0))),(af.ay (af.cells (aq bS 1))),(af.ay (af.cells (aq bS 2))),[.undef],(af.ay (af.cells (aq bS 4))),[(.mp lk)]])) (ab (ag true 2 0 (setAt [(.d (.int .i64 0)),(.d (.str []))] 0 bQ)) fun ot=>ab (bG (aa (aa (ae ba 0)))) fun sE=>ab (jI (some [.int,.str]) (aa (aa ot))) fun sF=>ab (cg (aa sE)) fun qL=>ab (lH (mapOf (aq bS 5)) sF qL) fun sG=>ab (ag true 6 0 (setAt [(.d (.int .i64 0)),(.d (.str [])),(.d (.bool false)),(.d (.sl .nil 0 [])),(.d (.int .i64 0)),(.d (.int .i64 0))] 0 r9)) fun qM=>ab (aW [(0,(.v (aa (aa qM))))]) fun pH=>(bO 6 1 pH)=true∧bW 6 72 (ae ba 0) (.full 6 (bL (bN true [(.int .i64 0),(.str []),(.bool false),(.sl .nil 0 []),(.int .i64 0),(.int .i64 0)]) pH 1 0)) fun uc=>ab (ah none .add (aa (ae ba 3)) (.d (.int .i64 1))) fun vG=>(I5 [uc,(ae ba 1),(ae ba 2),(aa vG)] [(af.ay (af.cells (aq bS 0))),(af.ay (af.cells (aq bS 1))),(af.ay (af.cells (aq bS 2))),[.undef],(af.ay (af.cells (aq bS 4))),[(.mp sG)]])))))) (ab (ag true 2 0 (setAt [(.d (.int .i64 0)),(.d (.str []))] 0 bQ)) fun He=>ab (nO (some [.int,.str]) (.int .i64 0) (.mp (mapOf (aq bS 5))) (aa (aa He))) fun vK=>ao (.d (.bool (Prod.snd vK))) (ab (ag false 1 2 (setAt [(.d (.int .i64 0)),(.d (.str [])),(.d (.bool false)),(.d (.sl .nil 0 [])),(.d (.int .i64 0)),(.d (.int .i64 0))] 0 r9)) fun Hc=>ao (aa (aa Hc)) (kW (ae ba 0) 6 (fun xK=>ab (eh (.d vK.1) (List.length xK)) fun sH=>ab (ag false 1 ((sH*6)+3) (bV xK)) fun zP=>aP C 59 [(aa (aa (aa zP)))] fun zQ=>ab (ag false 1 3 (setAt [(.d (.int .i64 0)),(.d (.str [])),(.d (.bool false)),(.d (.sl .nil 0 [])),(.d (.int .i64 0)),(.d (.int .i64 0))] 0 r9)) fun xH=>bW 1 16 zQ (aa (aa xH)) fun vH=>aP C 58 [(aa (aa vH))] fun vI=>ab (eh (.d vK.1) (List.length xK)) fun sI=>ab (aA (aa vI)) fun ud=>(List.length ud)=1∧(((sI*6)+3)+1)≤(List.length (bV xK))∧ab (dT (setAt (bV xK) ((sI*6)+3) ud)) fun uW=>ab (iQ true 6 (List.length xK) uW) fun y2=>ab (ah none .add (aa (ae ba 3)) (.d (.int .i64 1))) fun xf=>(I5 [(.bj 6 y2),(ae ba 1),(ae ba 2),(aa xf)] [(af.ay (af.cells (aq bS 0))),(af.ay (af.cells (aq bS 1))),(af.ay (af.cells (aq bS 2))),[.undef],(af.ay (af.cells (aq bS 4))),[(.mp (mapOf (aq bS 5)))]])) (ab (aR 6 (aa (aa (ae ba 0))) (.d vK.1)) fun y3=>ab (bD (aa y3) 3) fun y4=>ab (aF false 1 (aa y4)) fun y5=>aP C 59 [(aa (aa y5))] fun y6=>ab (ag false 1 3 (setAt [(.d (.int .i64 0)),(.d (.str [])),(.d (.bool false)),(.d (.sl .nil 0 [])),(.d (.int .i64 0)),(.d (.int .i64 0))] 0 r9)) fun y7=>bW 1 16 y6 (aa (aa y7)) fun y8=>aP C 58 [(aa (aa y8))] fun Mq=>ab (aR 6 (aa (aa (ae ba 0))) (.d vK.1)) fun Fu=>ab (bD (aa Fu) 3) fun Mr=>False)) (kW (ae ba 0) 6 (fun FY=>ab (ag true 2 0 (setAt [(.d (.int .i64 0)),(.d (.str []))] 0 bQ)) fun Fv=>ab (jI (some [.int,.str]) (aa (aa Fv))) fun Fw=>ab (cg (.d (.int .i64 (Nat.cast (List.length FY))))) fun Fx=>ab (lH (mapOf (aq bS 5)) Fw Fx) fun Fy=>ab (dT (bV FY)) fun Fz=>ab (iQ true 6 (List.length FY) Fz) fun FA=>ab (ag true 6 0 (setAt [(.d (.int .i64 0)),(.d (.str [])),(.d (.bool false)),(.d (.sl .nil 0 [])),(.d (.int .i64 0)),(.d (.int .i64 0))] 0 r9)) fun FB=>ab (aW [(0,(.v (aa (aa FB))))]) fun y9=>(bO 6 1 y9)=true∧bW 6 72 (.bj 6 FA) (.full 6 (bL (bN true [(.int .i64 0),(.str []),(.bool false),(.sl .nil 0 []),(.int .i64 0),(.int .i64 0)]) y9 1 0)) fun FC=>ab (ah none .add (aa (ae ba 3)) (.d (.int .i64 1))) fun FD=>(I5 [FC,(ae ba 1),(ae ba 2),(aa FD)] [(af.ay (af.cells (aq bS 0))),(af.ay (af.cells (aq bS 1))),(af.ay (af.cells (aq bS 2))),[.undef],(af.ay (af.cells (aq bS 4))),[(.mp Fy)]])) (ab (ag true 2 0 (setAt [(.d (.int .i64 0)),(.d (.str []))] 0 bQ)) fun FE=>ab (bG (aa (aa (ae ba 0)))) fun FF=>ab (jI (some [.int,.str]) (aa (aa FE))) fun FG=>ab (cg (aa FF)) fun FH=>ab (lH (mapOf (aq bS 5)) FG FH) fun FI=>ab (ag true 6 0 (setAt [(.d (.int .i64 0)),(.d (.str [])),(.d (.bool false)),(.d (.sl .nil 0 [])),(.d (.int .i64 0)),(.d (.int .i64 0))] 0 r9)) fun FJ=>ab (aW [(0,(.v (aa (aa FJ))))]) fun BZ=>(bO 6 1 BZ)=true∧bW 6 72 (ae ba 0) (.full 6 (bL (bN true [(.int .i64 0),(.str []),(.bool false),(.sl .nil 0 []),(.int .i64 0),(.int .i64 0)]) BZ 1 0)) fun FK=>ab (ah none .add (aa (ae ba 3)) (.d (.int .i64 1))) fun FL=>(I5 [FK,(ae ba 1),(ae ba 2),(aa FL)] [(af.ay (af.cells (aq bS 0))),(af.ay (af.cells (aq bS 1))),(af.ay (af.cells (aq bS 2))),[.undef],(af.ay (af.cells (aq bS 4))),[(.mp FI)]])))) (kW (ae ba 0) 6 (fun FZ=>ab (ag true 2 0 (setAt [(.d (.int .i64 0)),(.d (.str []))] 0 bQ)) fun B0=>ab (jI (some [.int,.str]) (aa (aa B0))) fun FM=>ab (cg (.d (.int .i64 (Nat.cast (List.length FZ))))) fun FN=>ab (lH (mapOf (aq bS 5)) FM FN) fun FO=>ab (dT (bV FZ)) fun FP=>ab (iQ true 6 (List.length FZ) FP) fun FQ=>ab (ag true 6 0 (setAt [(.d (.int .i64 0)),(.d (.str [])),(.d (.bool false)),(.d (.sl .nil 0 [])),(.d (.int .i64 0)),(.d (.int .i64 0))] 0 r9)) fun FR=>ab (aW [(0,(.v (aa (aa FR))))]) fun Mv=>(bO 6 1 Mv)=true∧bW 6 72 (.bj 6 FQ) (.full 6 (bL (bN true [(.int .i64 0),(.str []),(.bool false),(.sl .nil 0 []),(.int .i64 0),(.int .i64 0)]) Mv 1 0)) fun Xh=>ab (ah none .add (aa (ae ba 3)) (.d (.int .i64 1))) fun Xi=>(I5 [Xh,(ae ba 1),(ae ba 2),(aa Xi)] [(af.ay (af.cells (aq bS 0))),(af.ay (af.cells (aq bS 1))),(af.ay (af.cells (aq bS 2))),[.undef],(af.ay (af.cells (aq bS 4))),[(.mp FO)]])) (ab (ag true 2 0 (setAt [(.d (.int .i64 0)),(.d (.str []))] 0 bQ)) fun Xj=>ab (bG (aa (aa (ae ba 0)))) fun Xk=>ab (jI (some [.int,.str]) (aa (aa Xj))) fun Xl=>ab (cg (aa Xk)) fun Xm=>ab (lH (mapOf (aq bS 5)) Xl Xm) fun Xn=>ab (ag true 6 0 (setAt [(.d (.int .i64 0)),(.d (.str [])),(.d (.bool false)),(.d (.sl .nil 0 [])),(.d (.int .i64 0)),(.d (.int .i64 0))] 0 r9)) fun Xo=>ab (aW [(0,(.v (aa (aa Xo))))]) fun Mw=>(bO 6 1 Mw)=true∧bW 6 72 (ae ba 0) (.full 6 (bL (bN true [(.int .i64 0),(.str []),(.bool false),(.sl .nil 0 []),(.int .i64 0),(.int .i64 0)]) Mw 1 0)) fun Xq=>ab (ah none .add (aa (ae ba 3)) (.d (.int .i64 1))) fun Xr=>(I5 [Xq,(ae ba 1),(ae ba 2),(aa Xr)] [(af.ay (af.cells (aq bS 0))),(af.ay (af.cells (aq bS 1))),(af.ay (af.cells (aq bS 2))),[.undef],(af.ay (af.cells (aq bS 4))),[(.mp Xn)]]))))) (ab (w4 (ae ba 0)) fun Xs=>ab (aW []) fun Xt=>ab (bY Proofs.Try.prog 125 Xt) fun Xu=>ab (aA (aa (aa Xs))) fun Mx=>(List.length Mx)=1∧1≤(List.length (aq bS 0))∧ab (aA (.d Xu)) fun My=>(List.length My)=4∧4≤(List.length (aq bS 1))∧ab (ag false 1 0 (setAt (aq bS 0) 0 Mx)) fun Mz=>(SV.au (aa Mz))=true∧ab (ag true 4 0 (setAt (aq bS 1) 0 My)) fun MA=>(SV.au (aa MA))=true∧(K (.dA [(aa Mz),(aa MA)])))) [r0,(aa r1),r2,(.d (.int .i64 0))] [[(.d (.sl .nil 0 []))],[(.d (.int .i64 0)),(.d (.int .i64 0)),(.d (.int .i64 0)),(.d (.str []))],[al],[.undef],[(.mp m)],[(.mp [])]]):=by kernel_rfl
end Go.Proofs.Ytaknajjmldngiaa.Ab
namespace Go.Proofs.Ytaknajjmldngiaa.Ab
open Go
set_option linter.unusedVariables false
def ku(s:ar):MK:=.s [.int .i64 s.kind,.str s.name]
def eW(y s:ar):Bool:=y.kind==s.kind&&y.name==s.name
theorem AK(y s:ar):ku y=ku s↔eW y s=true:=by
 simp[ku,eW]
def wK(m:List (MK×D)):Prop:=∀x∈m,∃k n,x.1=MK.s [.int .i64 k,.str n]
theorem C2{m:List (MK×D)}(h:wK m)(s:ar):qa m (ku s)=true:=by
 unfold qa
 rw[List.all_eq_true]
 intro x hx
 obtain⟨k,n,hk⟩:=h x hx
 rw[hk]
 rfl
theorem Dk:∀(m:List (MK×D))(n k:MK)(d:D),jZ (j1 m n d) k=if k=n then some d else jZ m k
 |[],n,k,d=>by by_cases h:k=n<;>simp[j1,jZ,h]
 |x::m,n,k,d=>by
  rw[j1]
  by_cases h:n=x.1
  ·rw[if_pos h,jZ,jZ]
   by_cases hk:k=n
   ·simp[hk]
   ·rw[if_neg hk,if_neg hk,if_neg (by rw[←h];exact hk)]
  ·rw[if_neg h,jZ,jZ,Dk m n k d]
   by_cases hk:k=n
   ·rw[if_pos hk,if_neg (by rw[hk];exact h)]
    simp[hk]
   ·simp[hk]
theorem IP{m:List (MK×D)}(h:wK m)(s:ar)(d:D):wK (j1 m (ku s) d):=by
 induction m with
 |nil=>intro x hx;rw[j1,List.mem_singleton]at hx;subst hx;exact⟨_,_,rfl⟩
 |cons y m ih=>
  intro x hx
  rw[j1]at hx
  split at hx
  ·rcases List.mem_cons.1 hx with rfl|hx
   ·exact⟨_,_,rfl⟩
   ·exact h x (by simp[hx])
  ·rcases List.mem_cons.1 hx with rfl|hx
   ·exact h _ (by simp)
   ·exact ih (fun z hz=>h z (by simp[hz])) x hx
def iA(l:List ar)(s:ar):Bool:=l.any fun y=> !y.bI&&eW y s
def n6(m:List (MK×D))(l:List ar):Prop:=wK m∧∀s,jZ m (ku s)=if iA l s then some (.bool true)else none
theorem n6.nil:n6 [] []:=⟨fun x h=>by simp at h,fun s=>rfl⟩
theorem n6.bI{m:List (MK×D)}{l:List ar}(h:n6 m l){s:ar}(hs:s.bI=true):n6 m (l++[s]):=by
 refine⟨h.1,fun t=>?_⟩
 rw[h.2 t]
 simp[iA,hs]
theorem n6.dec{m:List (MK×D)}{l:List ar}(h:n6 m l){s:ar}(hs:s.bI=false):n6 (j1 m (ku s) (.bool true)) (l++[s]):=by
 refine⟨IP h.1 s _,fun t=>?_⟩
 rw[Dk,h.2 t]
 by_cases hk:ku t=ku s
 ·have:eW s t=true:=(AK s t).1 hk.symm
  simp[hk,iA,hs,this]
 ·have:eW s t=false:=by
   cases hc:eW s t with
   |false=>rfl
   |true=>exact absurd ((AK s t).2 hc).symm hk
  simp[hk,iA,this]
theorem R5{m:List (MK×D)}{l:List ar}(h:n6 m l)(s:ar):nO (some [.int,.str]) (.bool false) (.mp m) (.d (.agg [.int .i64 s.kind,.str s.name]))=some (.bool (iA l s),iA l s):=by
 have h1:jI (some [.int,.str]) (.d (.agg [.int .i64 s.kind,.str s.name]))=some (ku s):=rfl
 simp only[nO,h1,C2 h.1 s,cond_true,h.2 s]
 cases iA l s<;>rfl
def fU(s:ar):List ar→Option Nat
 |[]=>none
 |y::l=>match fU s l with|some j=>some (j+1)|none=>if eW y s then some 0 else none
theorem IQ(s y:ar):∀(l:List ar),fU s (l++[y])=if eW y s then some l.length else fU s l
 |[]=>by simp[fU]
 |z::l=>by
  rw[List.cons_append,fU,IQ s y l]
  by_cases h:eW y s=true
  ·simp[h]
  ·simp[h,fU]
theorem AM{s:ar}:∀{l:List ar}{j:Nat},fU s l=some j→∃y,l[j]? =some y∧eW y s=true
 |[],j,h=>by simp[fU]at h
 |z::l,j,h=>by
  rw[fU]at h
  split at h
  ·rename_i k hk
   cases h
   obtain⟨y,h1,h2⟩:=AM hk
   exact⟨y,by simpa using h1,h2⟩
  ·split at h
   ·rename_i hz;cases h;exact⟨z,by simp,hz⟩
   ·cases h
theorem JE(s:ar):∀(l:List ar)(j:Nat)(y y':ar),l[j]? =some y→y'.kind=y.kind→y'.name=y.name→fU s (l.set j y')=fU s l
 |[],j,y,y',h,_,_=>by simp at h
 |z::l,0,y,y',h,h1,h2=>by
  simp at h;subst h
  have:eW y' s=eW z s:=by simp[eW,h1,h2]
  simp only[List.set_cons_zero,fU,this]
 |z::l,j+1,y,y',h,h1,h2=>by
  simp only[List.set_cons_succ,fU,JE s l j y y' (by simpa using h) h1 h2]
def pJ(m:List (MK×D))(out:List ar):Prop:=wK m∧∀s,jZ m (ku s)=(fU s out).map fun(j:Nat)=>D.int .i64 (j:Int)
theorem pJ.nil:pJ [] []:=⟨fun x h=>by simp at h,fun s=>rfl⟩
theorem pJ.snoc{m:List (MK×D)}{out:List ar}(h:pJ m out)(s:ar):pJ (j1 m (ku s) (.int .i64 (out.length:Int))) (out++[s]):=by
 refine⟨IP h.1 s _,fun t=>?_⟩
 rw[Dk,h.2 t,IQ]
 by_cases hk:ku t=ku s
 ·have:eW s t=true:=(AK s t).1 hk.symm
  simp[hk,this]
 ·have:¬eW s t=true:=fun hc=>hk ((AK s t).2 hc).symm
  simp[hk,this]
theorem pJ.set{m:List (MK×D)}{out:List ar}(h:pJ m out){j:Nat}{y y':ar}(hj:out[j]? =some y)(h1:y'.kind=y.kind)(h2:y'.name=y.name):pJ m (out.set j y'):=
 ⟨h.1,fun t=>by rw[h.2 t,JE t out j y y' hj h1 h2]⟩
theorem Tu{m:List (MK×D)}{out:List ar}(h:pJ m out)(s:ar):nO (some [.int,.str]) (.int .i64 0) (.mp m) (.d (.agg [.int .i64 s.kind,.str s.name]))=some (match fU s out with|some j=>(D.int .i64 (j:Int),true)|none=>(.int .i64 0,false)):=by
 have h1:jI (some [.int,.str]) (.d (.agg [.int .i64 s.kind,.str s.name]))=some (ku s):=rfl
 simp only[nO,h1,C2 h.1 s,cond_true,h.2 s]
 cases fU s out<;>rfl
def uF(y:ar)(s:ar):ar:={y with perms:=dedup (y.perms++s.perms)}
def m7(all out:List ar)(s:ar):List ar:=
 if s.bI&&(iA all s||qz s.kind s.name)then out else
 match fU s out with
 |some j=>if s.bI then(match out[j]? with|some y=>out.set j (uF y s)|none=>out)else out++[s]
 |none=>out++[s]
def eV(all:List ar)(l:List ar):List ar:=l.foldl (m7 all) []
theorem C3{all l:List ar}{i:Nat}{s:ar}(h:l[i]? =some s):eV all (l.take (i+1))=m7 all (eV all (l.take i)) s:=by
 rw[ez h,eV,eV,List.foldl_append];rfl
def iO(l:List ar):Nat:=(l.map fun s=>s.perms.length).sum
theorem CQ{l:List ar}{i:Nat}{s:ar}(h:l[i]? =some s):iO (l.take (i+1))=iO (l.take i)+s.perms.length:=by
 rw[ez h];simp[iO]
theorem Am(l:List ar)(i:Nat):iO (l.take i)≤iO l:=by
 have h:iO (l.take i++l.drop i)=iO (l.take i)+iO (l.drop i):=by
  unfold iO
  rw[List.map_append,List.sum_append]
 rw[List.take_append_drop]at h
 omega
theorem IS(l:List (List UInt8)):(dedup l).length ≤l.length:=by
 have:=DB l []
 simpa[dedup]using this
theorem Px(all out:List ar)(s:ar):(m7 all out s).length ≤out.length+1:=by
 unfold m7
 repeat' split
 all_goals simp
theorem Dl(all l:List ar)(i:Nat):(eV all (l.take i)).length ≤i:=by
 induction i with
 |zero=>simp[eV]
 |succ i ih=>
  cases h:l[i]? with
  |none=>
   rw[List.take_of_length_le (by have:=List.getElem?_eq_none_iff.1 h;omega)]at ih ⊢
   omega
  |some s=>
   rw[C3 h]
   have:=Px all (eV all (l.take i)) s
   omega
theorem OP{all out:List ar}{s:ar}{n:Nat}(h:∀y∈out,y.perms.length≤n):∀y∈m7 all out s,y.perms.length≤n+s.perms.length:=by
 intro y hy
 unfold m7 at hy
 split at hy
 ·have:=h y hy;omega
 ·have app:y∈out++[s]→y.perms.length≤n+s.perms.length:=fun hy=>by
   rcases List.mem_append.1 hy with hy|hy
   ·have:=h y hy;omega
   ·rw[List.mem_singleton.1 hy];omega
  split at hy
  ·split at hy
   ·split at hy
    ·rename_i j _ _ z hz
     rcases List.mem_or_eq_of_mem_set hy with hy|hy
     ·have:=h y hy;omega
     ·subst hy
      have h1:=h z (List.mem_of_getElem? hz)
      have h2:=IS (z.perms++s.perms)
      simp only[uF,List.length_append]at h2 ⊢
      omega
    ·have:=h y hy;omega
   ·exact app hy
  ·exact app hy
theorem CR(all l:List ar)(i:Nat):∀y∈eV all (l.take i),y.perms.length≤iO (l.take i):=by
 induction i with
 |zero=>intro y hy;simp[eV]at hy
 |succ i ih=>
  cases h:l[i]? with
  |none=>
   have h1:l.length≤i:=List.getElem?_eq_none_iff.1 h
   rw[List.take_of_length_le h1]at ih
   rw[List.take_of_length_le (by omega)]
   exact ih
  |some s=>
   rw[C3 h,CQ h]
   exact OP ih
def g7:List ar→List ar→Option (Int×ar)
 |_,[]=>none
 |pre,s::l=>if lE pre s=0 then g7 (pre++[s]) l else some (lE pre s,s)
def mP(out:List ar):SV:=match out with
 |[]=>.d (.sl .nil wz [])
 |out=>.bj 6 (aI out)
theorem Dm:∀(cs:List D){l:List SV}{r:List D},dT l=some r→dT (cs.map SV.d++l)=some (cs++r)
 |[],l,r,h=>h
 |c::cs,l,r,h=>by
  simp only[List.map_cons,List.cons_append,dT,cg,Dm cs h]
def gL(s:ar):List D:=[.int .i64 s.kind,.str s.name,.bool s.bI,cq 1 (bP s.perms),.int .i64 s.line,.int .i64 s.b8]
theorem um(s:ar)(l:List ar):bV (aI (s::l))=(gL s).map .d ++bV (aI l):=rfl
theorem s7:∀(l:List ar),dT (bV (aI l))=some (l.flatMap gL)
 |[]=>rfl
 |s::l=>by rw[um,List.flatMap_cons];exact Dm _ (s7 l)
theorem DZ:∀(l:List ar),(bV (aI l)).length =l.length*6
 |[]=>rfl
 |s::l=>by rw[um,List.length_append,DZ l,List.length_cons];simp[gL];omega
theorem sX:∀(l:List ar),iQ true 6 l.length (l.flatMap gL)=some (aI l)
 |[]=>rfl
 |s::l=>by
  have ih:=sX l
  have h1:((s::l).flatMap gL).drop 6=l.flatMap gL:=rfl
  have h2:((s::l).flatMap gL).take 6=gL s:=rfl
  have h3:6≤((s::l).flatMap gL).length :=by simp[gL]
  simp only[List.length_cons,iQ,h1,h2,ih,if_pos h3]
  rfl
theorem DE:∀(l:List ar)(j:Nat)(y:ar),l[j]? =some y→(bV (aI l))[j*6+3]? =some (.d (cq 1 (bP y.perms)))
 |[],j,y,h=>by simp at h
 |s::l,0,y,h=>by simp at h;subst h;rfl
 |s::l,j+1,y,h=>by
  rw[um,List.getElem?_append_right (by simp[gL];omega)]
  have:(j+1)*6+3-((gL s).map SV.d).length =j*6+3:=by simp[gL];omega
  rw[this]
  exact DE l j y (by simpa using h)
theorem D0:∀(l:List ar)(j:Nat)(y:ar)(p:List (List UInt8)),l[j]? =some y→(bV (aI l)).set (j*6+3) (.d (cq 1 (bP p)))=bV (aI (l.set j {y with perms:=p}))
 |[],j,y,p,h=>by simp at h
 |s::l,0,y,p,h=>by simp at h;subst h;rfl
 |s::l,j+1,y,p,h=>by
  rw[um,List.set_append_right _ _ (by simp[gL];omega)]
  have:(j+1)*6+3-((gL s).map SV.d).length =j*6+3:=by simp[gL];omega
  rw[this,D0 l j y p (by simpa using h)]
  rfl
end Go.Proofs.Ytaknajjmldngiaa.Ab
namespace Go.Proofs.Ytaknajjmldngiaa.Ab
open Go
set_option linter.unusedVariables false
set_option maxRecDepth 4000
theorem OQ{x:D}(h1:x.cells=[x])(bz:x.one=true):aD Try.prog gl 55 [.d x] (.dg (.func 67) [] [.aE x 0]):=by
 refine QO bH (fn:=Try.f55) (c:=FX) rfl rfl (cM (fn:=Try.f55) (by kernel_rfl) (by kernel_rfl) (by kernel_rfl)) bz rfl (b:=0) (t:=2) (hh:=fV) (fun _=>?_)
 show aw Try.prog gl _ fV FX _ (enter 4 _)
 rw[UJ]
 have h2:aA (.d x)=some [.d x]:=by simp[aA,h1]
 simp only[h2,sS,sT,sZ]
 first|exact⟨rfl,.inr rfl,rfl,rfl⟩|exact⟨.inr trivial,rfl,rfl⟩|exact⟨rfl,.inr trivial,rfl,rfl⟩
theorem qU(x y:D)(i j:Nat):aW [(i,.v (.d x)),(j,.v (.d y))]=some [(i,x),(j,y)]:=rfl
theorem uB{m:List (MK×D)}(h:wK m)(s:ar)(d:D):lH m (.s [.int .i64 s.kind,.str s.name]) d=some (j1 m (ku s) d):=by
 have:=C2 h s
 unfold lH
 show cond (qa m (ku s)) _ _=_
 rw[this];rfl
theorem x7(x:SV):ag false 1 0 [x]=some x:=rfl
theorem Io(c l k:Int)(n:List UInt8):bY Try.prog 125 [(0,.int .i64 c),(1,.agg [.int .i64 l,.int .i64 k]),(2,.str n)]=some (.agg [.int .i64 c,.int .i64 l,.int .i64 k,.str n]):=by kernel_rfl
theorem CS:bY Try.prog 125 []=some (.agg [.int .i64 0,.int .i64 0,.int .i64 0,.str []]):=by kernel_rfl
theorem JF(k:Int)(n:List UInt8):bY Try.prog 164 [(0,.int .i64 k),(1,.str n)]=some (.agg [.int .i64 k,.str n]):=by kernel_rfl
theorem uL(k:Int)(n:List UInt8):jI (some [.int,.str]) (.d (.agg [.int .i64 k,.str n]))=some (.s [.int .i64 k,.str n]):=rfl
def Cv(f:List SV)(al:SV)(m:List (MK×D)):List af:=[.cells [.d (.sl .nil 0 [])],.cells f,.cells [al],.map m,.one (.m 3)]
def rI(l:List ar)(k:Nat)(ak:List af):Prop:=∃m,ak=BI (aO 6 (aI (l.take k))) m∧n6 m (l.take k)∧g7 (l.take k) (l.drop k)=g7 [] l
def rX(l:List ar)(x:Ex)(ak:List af):Prop:=x=.ret ∧∃c s m al,g7 [] l=some (c,s)∧ak=Cv [.d (.int .i64 c),.d (.int .i64 s.line),.d (.int .i64 s.b8),.d (.str s.name)] al m
theorem ED(f:List SV)(hf:(f.all fun x=>x.mM&&x.au)=true)(al:SV)(ha:(al.mM&&al.au)=true)(m:List (MK×D)):(Cv f al m).all (jJ 5)=true:=by
 simp only[Cv,List.all_cons,List.all_nil,jJ,hf,ha,Bool.and_true,Bool.true_and]
 rfl
theorem wh(sz:Nat)(L:List D):(aO sz L).mM =true∧(aO sz L).au =true:=by cases L<;>exact⟨rfl,rfl⟩
theorem Bh(k:IntKind)(a b:Int):ah (some (false,[.int])) .neq (.d (.int k a)) (.d (.int k b))=some (.d (.bool (a != b))):=by simp[ah,eE,iP]
theorem Qh:aA (.d (.sl .nil 0 []))=some [.d (.sl .nil 0 [])]:=rfl
theorem qV(a b c d:D):aA (.d (.agg [a,b,c,d]))=some [.d a,.d b,.d c,.d d]:=rfl
theorem Lt(a b:SV):setAt [a] 0 [b]=[b]:=rfl
theorem rn(a b c d e f g h:SV):setAt [a,b,c,d] 0 [e,f,g,h]=[e,f,g,h]:=rfl
theorem VX(a b c d e f:af):[a,b,c,d,e,f].take 5=[a,b,c,d,e]:=rfl
theorem rQ{α:Type}(a b c d:α):[a,b,c,d].length =4:=rfl
theorem R6(l:List ar)(hl:l.length≤2^30)(k:Nat)(d:D)(ak:List af)(hI:rI l k ak)(hd:(aI l)[k]? =some d):
  aw Try.prog gl (aD Try.prog gl) pa (Ct tt) (fun x e1=>x=.normal ∧aw Try.prog gl (aD Try.prog gl) pa (Cu tt) (fun x e2=>(e2.boxes.take 5).all (jJ 5)=true∧tC (rI l) (rX l) (k+1) x (e2.boxes.take 5)) e1) ⟨bF oT (some 18) (.v (.d d)),ak⟩:=by
 obtain⟨m,rfl,hm,cz⟩:=hI
 obtain⟨s,hs,rfl⟩:∃s,l[k]? =some s∧d=s.enc:=by
  rw[aI,List.getElem?_map,Option.map_eq_some_iff]at hd
  obtain⟨s,h1,h2⟩:=hd
  exact⟨s,h1,h2.symm⟩
 have hk:k<l.length:=(List.getElem?_eq_some_iff.1 hs).1
 rw[nM hs,g7]at cz
 refine(UL _ s.enc (aO 6 (aI (l.take k))) m (fun x bs=>bs.all (jJ 5)=true∧tC (rI l) (rX l) (k+1) x bs)).mpr ?_
 simp only[sS,sT,sZ,ef,eD,fp,x7,dH,fF]
 refine bR (Pw (l.take k) s (cn 6 _) (by simp only[maxLen,List.length_take];omega)) ?_
 simp only[sS,sT,sZ,Bh]
 refine And.intro (fun hc=>?_) (fun hc=>?_)
 ·rw[if_neg (by simpa using hc)]at cz
  simp only[R2,fm,iw,sS,sT,sZ,Io]
  simp only[Qh,qV,sS,sT,sZ,Lt,rn,gi,rQ,and_self,VX]
  refine⟨ED _ rfl _ (by rw[(wh _ _).1,(wh _ _).2];rfl) m,rfl,lE (l.take k) s,s,m,_,cz.symm,rfl⟩
 ·rw[if_pos (by simpa using hc)]at cz
  have hb:((aI (l.take k)).length +[s.enc].length)*72≤140737488355328:=by simp only[eM,List.length_take,List.length_singleton];omega
  simp only[dZ,iR,eg,sS,sT,sZ]
  refine iv (gX 6 _) hb ?_
  simp only[Qd,gi,fG,kP,sS,sT,sZ]
  have oo:aI (l.take k)++[s.enc]=aI (l.take (k+1)):=by rw[tc,ez hs]
  rw[oo]
  refine⟨Nat.zero_lt_one,And.intro (fun hr=>?_) (fun hr=>?_)⟩
  ·have hr:s.bI=false:=by simpa using hr
   simp only[fl,fm,qU,JF,uL,sS,sT,sZ]
   have ht:cg (.d (.bool true))=some (.bool true):=rfl
   simp only[ht,uB hm.1 s,sS,sT,sZ]
   refine⟨ED _ rfl _ (by rw[(wh _ _).1,(wh _ _).2];rfl) _,_,rfl,?_,?_⟩
   ·rw[ez hs];exact hm.dec hr
   ·rw[ez hs];exact cz
  ·have hr:s.bI=true:=by simpa using hr
   refine⟨ED _ rfl _ (by rw[(wh _ _).1,(wh _ _).2];rfl) m,m,rfl,?_,?_⟩
   ·rw[ez hs];exact hm.bI hr
   ·rw[ez hs];exact cz
def EE(l:List ar)(m a:List (MK×D)):List (List SV):=[[.d (.sl .nil 0 [])],[.d (.int .i64 0),.d (.int .i64 0),.d (.int .i64 0),.d (.str [])],[aO 6 (aI l)],[.undef],[.mp m],[.mp a]]
theorem Kj:w5 (.d (.sl .nil 0 []))=some (mP []):=rfl
theorem Lu(a b c d:SV):setAt [a,b] 0 [c,d]=[c,d]:=rfl
theorem Kk(a b:D):aA (.d (.agg [a,b]))=some [.d a,.d b]:=rfl
theorem KV(a b:D):ag true 2 0 [.d a,.d b]=some (.d (.agg [a,b])):=rfl
theorem MB{α:Type}(a b:α):[a,b].length =2:=rfl
theorem ya{out:List ar}{A:List D→Prop}{B:Prop}(h1:out≠[]→A (aI out))(h2:out=[]→B):kW (mP out) 6 A B:=by
 cases out with
 |nil=>exact h2 rfl
 |cons y l=>exact⟨rfl,h1 (by simp)⟩
theorem Eh{out:List ar}(h:out≠[]):mP out=.bj 6 (aI out):=by
 cases out with
 |nil=>exact absurd rfl h
 |cons y l=>rfl
theorem yb{out:List ar}{s:ar}{k:SV→Prop}(hb:(out.length+1)*72≤140737488355328)(hk:k (mP (out++[s]))):bW 6 72 (.bj 6 (aI out)) (.full 6 [s.enc]) k:=by
 unfold bW kU
 rw[gX]
 refine⟨by simpa[eM]using hb,?_⟩
 rw[Eh (by simp),←tc]at hk
 exact hk
theorem xY{s:ar}{k:SV→Prop}(hk:k (mP [s])):bW 6 72 (mP []) (.full 6 [s.enc]) k:=by
 unfold bW kU
 rw[gX]
 exact⟨by simp,hk⟩
theorem Kl(out:List ar):w4 (mP out)=some (aO 6 (aI out)):=by cases out<;>rfl
theorem ri(a b c d:D):ag true 4 0 [.d a,.d b,.d c,.d d]=some (.d (.agg [a,b,c,d])):=rfl
theorem Xv(x:SV):1≤[x].length :=Nat.le_refl _
theorem Xw(a b c d:SV):4≤[a,b,c,d].length :=Nat.le_refl _
theorem wA(n:Int):cg (.d (.int .i64 n))=some (.int .i64 n):=rfl
theorem DF:bG (mP [])=some (.d (.int .i64 0)):=rfl
theorem At:aa (mP [])=mP []:=rfl
theorem AT(cs:List SV)(i:Nat):ag false 1 i cs=cs[i]? :=rfl
theorem Ei(cs:List SV)(i:Nat)(v:SV):setAt cs i [v]=cs.set i v:=rfl
theorem Tv(l:List ar)(hl:l.length≤2^30)(hp:iO l≤2^30)(m:List (MK×D))(hm:n6 m l)(K:SV→Prop)(hK:K (.dA [.d (cq 6 (aI (eV l l))),.d (.agg [.int .i64 0,.int .i64 0,.int .i64 0,.str []])])):
  ik Try.prog gl (aD Try.prog gl) pa ((dc rP).drop 5) (tE Try.prog Try.f48 K) ⟨oT,BI (aO 6 (aI l)) m⟩:=by
 rw[UM]
 simp only[x7,fF,sS,sT,sZ,(cn 6 (aI l)).len,eM,Kj]
 refine DW (fun i a=>pJ a (eV l (l.take i))) (fun i a=>[mP (eV l (l.take i)),.d (cq 6 (aI l)),.d (.int .i64 (l.length:Int)),.d (.int .i64 ((i:Nat):Int))]) (fun i a=>EE l m a) l.length [] pJ.nil (fun i a hi hJ I hI=>?_) (fun a hJ I=>?_)
 ·simp only[EE,sS,sT,sZ]
  refine And.intro (fun _=>?_) (fun h=>absurd h (by simp;omega))
  obtain⟨s,hs⟩:=get_some hi
  simp only[(cn 6 (aI l)).at (m9 hs),p7,ef,eD,fp,fl,fm,fG,qU,JF,Kk,Lu,KV,MB,x7,UF,ur,R5 hm s,Tu hJ s,sS,sT,sZ]
  rw[C3 hs]at hI
  have hlen:=Dl l l i
  have xj:=CR l l i
  have Xx:=Am l i
  have kA:s.perms.length≤iO l:=by
   have h1:=CQ hs
   have h2:=Am l (i+1)
   omega
  generalize eV l (l.take i)=out at hI hJ hlen xj ⊢
  unfold m7 at hI
  refine And.intro (fun hr=>?_) (fun hr=>?_)
  ·refine And.intro (fun hd=>?_) (fun hd=>?_)
   ·rw[if_pos (by simp[hr,hd])]at hI
    refine aZ (bg hi (by simp only[maxLen];omega)) ?_
    exact hI _ hJ
   ·refine bR (HR _ _) ?_
    simp only[sS,sT,sZ]
    refine And.intro (fun ho=>?_) (fun ho=>?_)
    ·rw[if_pos (by simp[hr,ho])]at hI
     refine aZ (bg hi (by simp only[maxLen];omega)) ?_
     exact hI _ hJ
    ·rw[if_neg (by simp[hr,hd,ho])]at hI
     cases wV:fU s out with
     |none=>
      simp only[wV]at hI ⊢
      refine And.intro (fun h=>absurd h (by simp)) (fun _=>?_)
      refine ya (fun bm=>?_) (fun he=>?_)
      ·simp only[eM,uL,wA,uB hJ.1 s,s7,sX,dH,dZ,iR,eg,sS,sT,sZ,ur]
       refine yb (by omega) ?_
       refine aZ (bg hi (by simp only[maxLen];omega)) ?_
       exact hI _ (hJ.snoc s)
      ·subst he
       simp only[At,DF,uL,wA,uB hJ.1 s,dH,dZ,iR,eg,sS,sT,sZ,ur]
       refine xY ?_
       refine aZ (bg hi (by simp only[maxLen];omega)) ?_
       exact hI _ (hJ.snoc s)
     |some j=>
      obtain⟨y,hy,hsy⟩:=AM wV
      have hj:j<out.length:=(List.getElem?_eq_some_iff.1 hy).1
      have hyp:=xj y (List.mem_of_getElem? hy)
      simp only[wV,if_pos hr,hy]at hI ⊢
      refine And.intro (fun _=>?_) (fun h=>absurd h (by simp))
      refine And.intro (fun _=>?_) (fun h=>absurd h (by simp[hr]))
      refine ya (fun bm=>?_) (fun he=>absurd hj (by rw[he];simp))
      simp only[eM,s6 hj,AT,DE out j y hy,sS,sT,sZ]
      refine fQ (Pv (bP y.perms) (by rw[gY];omega)) (jW _ _) ?_
      rw[←AT,jj]
      simp only[sS,sT,sZ]
      refine iv (KU (cn 1 _).sv) (by simp only[gY];omega) ?_
      have uY:bP y.perms++bP s.perms=bP (y.perms++s.perms):=by simp[bP]
      rw[uY]
      simp only[fF,sS,sT,sZ]
      refine fQ (CJ _ (cn 1 _) (by rw[List.length_append];omega)) (jW _ _) ?_
      have hg:=sX (out.set j (uF y s))
      rw[List.length_set]at hg
      have bB:=D0 out j y (dedup (y.perms++s.perms)) hy
      simp only[fF,pR,s6 hj,sS,sT,sZ,Ei,gi]
      rw[bB]
      refine⟨by rw[DZ];omega,?_⟩
      simp only[s7,sS,sT,sZ]
      refine aZ hg ?_
      refine aZ (bg hi (by simp only[maxLen];omega)) ?_
      have:=hI a (hJ.set hy rfl rfl)
      rw[Eh (by intro h;have h2:=congrArg List.length h;simp only[List.length_set,List.length_nil]at h2;omega)]at this
      exact this
  ·rw[if_neg (by simp[hr])]at hI
   cases wV:fU s out with
   |none=>
    simp only[wV]at hI ⊢
    refine And.intro (fun h=>absurd h (by simp)) (fun _=>?_)
    refine ya (fun bm=>?_) (fun he=>?_)
    ·simp only[eM,uL,wA,uB hJ.1 s,s7,sX,dH,dZ,iR,eg,sS,sT,sZ,ur]
     refine yb (by omega) ?_
     refine aZ (bg hi (by simp only[maxLen];omega)) ?_
     exact hI _ (hJ.snoc s)
    ·subst he
     simp only[At,DF,uL,wA,uB hJ.1 s,dH,dZ,iR,eg,sS,sT,sZ,ur]
     refine xY ?_
     refine aZ (bg hi (by simp only[maxLen];omega)) ?_
     exact hI _ (hJ.snoc s)
   |some j=>
    simp only[wV,if_neg (show ¬s.bI=true by simp[hr])]at hI ⊢
    refine And.intro (fun _=>?_) (fun h=>absurd h (by simp))
    refine And.intro (fun h=>absurd h (by simp[hr])) (fun _=>?_)
    refine ya (fun bm=>?_) (fun he=>?_)
    ·simp only[eM,uL,wA,uB hJ.1 s,s7,sX,dH,dZ,iR,eg,sS,sT,sZ,ur]
     refine yb (by omega) ?_
     refine aZ (bg hi (by simp only[maxLen];omega)) ?_
     exact hI _ (hJ.snoc s)
    ·subst he
     simp only[At,DF,uL,wA,uB hJ.1 s,dH,dZ,iR,eg,sS,sT,sZ,ur]
     refine xY ?_
     refine aZ (bg hi (by simp only[maxLen];omega)) ?_
     exact hI _ (hJ.snoc s)
 ·simp only[EE,sS,sT,sZ]
  refine And.intro (fun h=>absurd h (by simp)) (fun _=>?_)
  rw[List.take_length]
  simp only[Kl,fF,CS,pR,qV,gi,rQ,Xv,Xw,Lt,rn,x7,ri,sS,sT,sZ]
  exact hK
end Go.Proofs.Ytaknajjmldngiaa.Ab
namespace Go.Proofs.Ytaknajjmldngiaa.Ab
open Go
set_option linter.unusedVariables false
set_option maxRecDepth 4000
def uZ(l:List ar):SV:=match g7 [] l with
 |some (c,s)=>.dA [.d (.sl .nil 0 []),.d (.agg [.int .i64 c,.int .i64 s.line,.int .i64 s.b8,.str s.name])]
 |none=>.dA [.d (cq 6 (aI (eV l l))),.d (.agg [.int .i64 0,.int .i64 0,.int .i64 0,.str []])]
theorem R7:dc rP=(dc rP).take 4++.block 0 (.rangeFunc (.tmp 17) #[18] (Ct tt) (Cu tt))::(dc rP).drop 5:=by kernel_rfl
theorem UN:((b9 pa.gh (Ct tt)).all fun t=> !([2,3,4,5].contains t))=true:=by kernel_rfl
theorem UO:((b9 pa.gh (Cu tt)).all fun t=> !([2,3,4,5].contains t))=true:=by kernel_rfl
theorem Q7(t:Nat)(s:Slot)(h:oT[t]? =some s)(hp:yX s=true):t∈[2,3,4,5]:=by
 by_cases h6:t<6
 ·rcases t with _|_|_|_|_|_|t
  ·cases h;cases hp
  ·cases h;cases hp
  ·simp
  ·simp
  ·simp
  ·simp
  ·omega
 ·exfalso
  unfold oT at h
  rw[List.getElem?_append_right (by simp;omega)]at h
  have:=(List.mem_replicate.1 (List.mem_of_getElem? h)).2
  subst this
  cases hp
theorem UP(f1 f2 f3 f4:D)(h:(f1.one&&f2.one&&f3.one&&f4.one)=true)(al:SV)(m:List (MK×D))(K:SV→Prop)(hK:K (.dA [.d (.sl .nil 0 []),.d (.agg [f1,f2,f3,f4])])):finish Try.prog Try.f48 ⟨oT,Cv [.d f1,.d f2,.d f3,.d f4] al m⟩ K:=by
 show finish Try.prog Try.f48 ⟨oT,[.cells [.d (.sl .nil 0 [])],.cells [.d f1,.d f2,.d f3,.d f4],.cells [al],.map m,.one (.m 3)]⟩ K
 rw[UI]
 simp only[x7,ri,sS,sT,sZ]
 exact hK
theorem Py(aM:List dP){L:List D}{xs:D}(hx:bK 55 L xs)(hs:wU aM L)(hn:aM.length≤maxLen)(hl:(aM.flatMap bh).length ≤2^30)(hp:iO (aM.flatMap bh)≤2^30):
  aD Try.prog gl 48 [.d xs] (uZ (aM.flatMap bh)):=by
 have iD:xs.cells=[xs]:=by cases hx<;>rfl
 have gR:xs.one=true:=by cases hx<;>rfl
 refine Po bH (fn:=Try.f48) (c:=rP) rfl rfl (cM (fn:=Try.f48) (by kernel_rfl) (by kernel_rfl) (by kernel_rfl)) (hh:=pa) R7 (O0 aM hx hs hn) rfl (fun ct=>?_)
 show ik Try.prog gl _ pa ((dc rP).take 4) _ (enter 105 _)
 rw[UK]
 simp only[sS,sT,sZ]
 refine fQ (OQ iD gR) rfl ?_
 refine⟨rfl,oT,rI (aM.flatMap bh),rX (aM.flatMap bh),rfl,fun i s hi=>?_,rfl,rfl,fun t s ht hp=>?_,?_,fun k d ak hI hd hb=>?_,fun ak hI hb=>?_,fun x ak bm hX hb=>?_⟩
 ·by_cases h6:i<6
  ·rcases i with _|_|_|_|_|_|i
   ·cases hi;exact .inl rfl
   ·cases hi;exact .inl rfl
   ·cases hi;exact .inr ⟨_,rfl,.inl rfl⟩
   ·cases hi;exact .inr ⟨_,rfl,.inl rfl⟩
   ·cases hi;exact .inr ⟨_,rfl,.inl rfl⟩
   ·cases hi;exact .inr ⟨_,rfl,.inl rfl⟩
   ·omega
  ·left
   unfold oT at hi
   rw[List.getElem?_append_right (by simp;omega)]at hi
   exact(List.mem_replicate.1 (List.mem_of_getElem? hi)).2
 ·have hm:=Q7 t s ht hp
  have h1:=List.all_eq_true.1 UN
  have h2:=List.all_eq_true.1 UO
  refine⟨fun h=>?_,fun h=>?_,fun h=>?_⟩
  ·have:=h1 t h;simp at this;simp_all
  ·have:=h2 t h;simp at this;simp_all
  ·subst h;simp at hm
 ·exact⟨[],rfl,n6.nil,rfl⟩
 ·exact R6 _ hl k d ak hI hd
 ·obtain⟨m,rfl,hm,cz⟩:=hI
  rw[eM,List.drop_length]at cz
  rw[eM,List.take_length]at hm ⊢
  refine Tv _ hl hp m hm _ ?_
  unfold uZ
  rw[←cz]
  rfl
 ·obtain⟨rfl,c,s,m,al,hc,rfl⟩:=hX
  refine⟨rfl,?_⟩
  have hr:uZ (aM.flatMap bh)=.dA [.d (.sl .nil 0 []),.d (.agg [.int .i64 c,.int .i64 s.line,.int .i64 s.b8,.str s.name])]:=by unfold uZ;rw[hc]
  exact UP _ _ _ _ rfl al m _ hr.symm
end Go.Proofs.Ytaknajjmldngiaa.Ab
namespace Go.Proofs.Ytaknajjmldngiaa.Ab
open Go
set_option linter.unusedVariables false
set_option maxRecDepth 4000
theorem AN(f:Fn)(a b:List SV):aa (.dg f a b)=.dg f a b:=rfl
theorem Pz(f:FuncId)(a b args:List SV)(k:FuncId→List SV→Prop):withFn (.dg (.func f) a b) args k=k f (a++args++b):=rfl
theorem R8(cs:List SV)(o:Nat):aa (.ref cs o)=.ref cs o:=rfl
def lF(d r:List (List UInt8)):Bool:=r.any fun p=> !j6 p d
theorem Qi(s:ar):s.cells.map aa=s.cells:=rfl
theorem O3(s:ar)(hl:s.perms.length≤maxLen)(p:List UInt8):aD Try.prog gl 50 [.d (.str p),.ref s.cells 0] (.d (.bool (!j6 p s.perms))):=by
 refine dz bH (cM (fn:=Try.f50) (by kernel_rfl) (by kernel_rfl) (by kernel_rfl)) (h:=NO) ?_;rw[Uu];intro ct
 have h1:bD (.ref s.cells 0) 3=some (.ref s.cells 3):=rfl
 have h2:aF false 1 (.ref s.cells 3)=some (.d (cq 1 (bP s.perms))):=rfl
 simp only[R8,h1,h2,sS,sT,sZ]
 refine bR (HH s.perms (cn 1 _) hl p) ?_
 simp only[kP,sS,sT,sZ]
theorem Q8{α:Type}(p:α→Bool)(l:List α):(first p l).isSome =l.any p:=by
 cases h:first p l with
 |some k=>
  obtain⟨x,h1,h2⟩:=DC h
  exact(List.any_eq_true.2 ⟨x,List.mem_of_getElem? h1,h2⟩).symm
 |none=>
  have:=DY h
  symm
  rw[Option.isSome_none,List.any_eq_false]
  intro x hx
  obtain⟨j,hj⟩:=List.mem_iff_getElem?.1 hx
  simp[this j x hj]
theorem O4(s:ar)(hs:s.perms.length≤maxLen)(l:List (List UInt8)){x:D}(hx:bK 1 (bP l) x)(hl:l.length≤maxLen):
  aD Try.prog gl 60 [.d x,.dg (.func 50) [] [.ref s.cells 0]] (.d (.int .i64 (orM (first (fun p=> !j6 p s.perms) l)))):=by
 refine dz bH (cM (fn:=Try.f60) (by kernel_rfl) (by kernel_rfl) (by kernel_rfl)) (h:=NR) ?_;rw[Uh];intro ct
 simp only[sS,sT,sZ,hx.len,gY,AN]
 refine oE (fun i=>∀(j:Nat)k,j<i→l[j]? =some k→(!j6 k s.perms)=false) (fun i=>[.d x,.dg (.func 50) [] [.ref s.cells 0],.d (.int .i64 (l.length:Int)),.d (.int .i64 ((i:Nat):Int))]) (fun i=>[]) l.length (fun j k hj _=>by omega) (fun i hi hJ I hI=>?_) (fun hJ I=>?_)
 ·simp only[sS,sT,sZ,AN]
  refine And.intro (fun _=>?_) (fun h=>absurd h (by simp;omega))
  obtain⟨t,ht⟩:=get_some hi
  have mS:(bP l)[i]? =some (.str t):=by rw[bP,List.getElem?_map,ht];rfl
  simp only[hx.at mS,sS,sT,sZ,sW,Nat.zero_add,oH,AN,Pz,List.nil_append,List.cons_append]
  refine bR (O3 s hs t) ?_
  simp only[sS,sT,sZ]
  refine And.intro (fun h=>?_) (fun h=>?_)
  ·rw[wk ht (by simpa using h) hJ];rfl
  ·refine aZ (bg hi hl) ?_
   refine hI fun j k' hj dj=>?_
   rcases Nat.lt_or_ge j i with h2|h2
   ·exact hJ j k' h2 dj
   ·have:j=i:=by omega
    subst this
    rw[ht]at dj
    cases dj
    simpa using h
 ·simp only[sS,sT,sZ]
  refine And.intro (fun h=>absurd h (by simp)) (fun _=>?_)
  rw[wb fun j k dj=>hJ j k (List.getElem?_eq_some_iff.1 dj).1 dj]
  rfl
theorem Ip(d r:ar)(hd:d.perms.length≤maxLen)(hr:r.perms.length≤maxLen):aD Try.prog gl 36 [.d d.enc,.d r.enc] (.d (.bool (lF d.perms r.perms))):=by
 have Xy:aD Try.prog gl 49 [.d (cq 1 (bP r.perms)),.dg (.func 50) [] [.ref d.cells 0]] (.d (.bool (lF d.perms r.perms))):=by
  refine dz bH (cM (fn:=Try.f49) (by kernel_rfl) (by kernel_rfl) (by kernel_rfl)) (h:=NN) ?_;rw[Ue];intro ct
  simp only[sS,sT,sZ,AN]
  refine bR (O4 d hd r.perms (cn 1 _) hr) ?_
  have GD:=Q8 (fun p=> !j6 p d.perms) r.perms
  simp only[sS,sT,sZ,KT,GD]
  rfl
 refine dz bH (cM (fn:=Try.f36) (by kernel_rfl) (by kernel_rfl) (by kernel_rfl)) (h:=NK) ?_;rw[Ut];intro ct
 simp only[ef,eD,jj,Qi,sS,sT,sZ]
 refine bR Xy ?_
 simp only[sS,sT,sZ]
structure dE where
 sym:ar
 st:Int
def mj(t:dE):D:=.agg [.int .i64 t.sym.kind,.str t.sym.name,.bool t.sym.bI,cq 1 (bP t.sym.perms),.int .i64 t.sym.line,.int .i64 t.sym.b8,.int .i64 t.st]
def oz(t:dE):List SV:=[.d (.int .i64 t.sym.kind),.d (.str t.sym.name),.d (.bool t.sym.bI),.d (cq 1 (bP t.sym.perms)),.d (.int .i64 t.sym.line),.d (.int .i64 t.sym.b8),.d (.int .i64 t.st)]
theorem wo(t:dE):aA (.d (mj t))=some (oz t):=rfl
theorem wL(t:dE):(oz t).length =7:=rfl
theorem Ej(t:dE):ag true 7 0 (oz t)=some (.d (mj t)):=rfl
theorem R9(t:dE):ag true 6 0 (oz t)=some (.d t.sym.enc):=rfl
theorem Sa(t:dE):ag false 1 0 (oz t)=some (.d (.int .i64 t.sym.kind)):=rfl
theorem Km(t:dE):ag false 1 1 (oz t)=some (.d (.str t.sym.name)):=rfl
theorem Kn(t:dE):ag true 2 4 (oz t)=some (.d (.agg [.int .i64 t.sym.line,.int .i64 t.sym.b8])):=rfl
theorem Sb(t:dE):ag false 1 6 (oz t)=some (.d (.int .i64 t.st)):=rfl
theorem Bi(a b c d e f g:SV)(t:dE):setAt [a,b,c,d,e,f,g] 0 (oz t)=oz t:=rfl
theorem AU(t:dE):aF true 7 (.aE (mj t) 0)=some (.d (mj t)):=rfl
theorem Sc(a b:Int):bY Try.prog 128 [(0,.int .i64 a),(1,.int .i64 b)]=some (.agg [.int .i64 a,.int .i64 b]):=by kernel_rfl
def fO(k:Int):Int:=if k==3 then 2 else k
theorem HT(t:dE):aD Try.prog gl 35 [.d (mj t)] (.d (.agg [.int .i64 t.st,.int .i64 (fO t.sym.kind)])):=by
 refine dz bH (cM (P:=Try.prog) (f:=35) rfl rfl rfl) (h:=NJ) ?_
 rw[Us];intro ct
 simp only[wo,wL,Sa,Sb,fa,qU,Sc,Kk,Lu,KV,MB,sS,sT,sZ]
 refine And.intro (fun h=>?_) (fun h=>?_)
 ·simp only[fO,h,if_true]
 ·simp only[fO,h,Bool.false_eq_true,if_false]
theorem UQ(a b c d:Int):ah (some (true,[.int,.int])) .neq (.d (.agg [.int .i64 a,.int .i64 b])) (.d (.agg [.int .i64 c,.int .i64 d]))=some (.d (.bool (!(a==c&&b==d)))):=by
 simp[ah,eE,cX,eC,kg]
def kO(a b:dE):Int:=
 if !(a.st==b.st&&fO a.sym.kind==fO b.sym.kind)then 0 else
 if !(a.sym.name==b.sym.name)then 0 else
 if a.sym.kind != b.sym.kind then 13 else
 if !a.sym.bI&& !b.sym.bI then 12 else
 if a.sym.bI==b.sym.bI then 0 else
 if a.sym.kind != 1 then 0 else
 if(a.sym.bI&&lF b.sym.perms a.sym.perms)||(b.sym.bI&&lF a.sym.perms b.sym.perms)then 21 else 0
theorem H4(a b:dE)(ha:a.sym.perms.length≤maxLen)(hb:b.sym.perms.length≤maxLen):aD Try.prog gl 15 [.d (mj a),.d (mj b)] (.d (.int .i64 (kO a b))):=by
 refine dz bH (cM (fn:=Try.f15) (by kernel_rfl) (by kernel_rfl) (by kernel_rfl)) (h:=NC) ?_;rw[Ur];intro ct
 have qD:=Ip b.sym a.sym hb ha
 have zU:=Ip a.sym b.sym ha hb
 simp only[wo,wL,Ej,R9,ef,eD,fp,sS,sT,sZ]
 refine bR (HT a) ?_
 simp only[sS,sT,sZ]
 refine bR (HT b) ?_
 simp only[UQ,fl,fm,fG,dH,uz,p6,kP,Kc,sS,sT,sZ]
 unfold kO
 generalize (!(a.st==b.st&&fO a.sym.kind==fO b.sym.kind))=c1
 generalize (!(a.sym.name==b.sym.name))=c2
 generalize (a.sym.kind != b.sym.kind)=c3
 generalize (a.sym.kind != 1)=c4
 generalize lF b.sym.perms a.sym.perms=c5 at qD ⊢
 generalize lF a.sym.perms b.sym.perms=c6 at zU ⊢
 generalize a.sym.bI=r1
 generalize b.sym.bI=r2
 repeat' first
  |with_reducible refine And.intro (fun h=>?_) (fun h=>?_)
  |(with_reducible refine bR qD ?_;simp only[sS,sT,sZ])
  |(with_reducible refine bR zU ?_;simp only[sS,sT,sZ])
 all_goals (simp_all;done)
end Go.Proofs.Ytaknajjmldngiaa.Ab
namespace Go.Proofs.Ytaknajjmldngiaa.Ab
open Go
set_option linter.unusedVariables false
set_option maxRecDepth 4000
structure cQ where
 name:List UInt8
 nF:Int
 aM:List dP
inductive pb(m:cQ):D→Prop
 |mk (xs:D) (L:List D) (hx:bK 55 L xs) (hs:wU m.aM L):pb m (.agg [.str m.name,.int .i64 m.nF,xs])
def cQ.syms(m:cQ):List ar:=m.aM.flatMap bh
structure n7(m:cQ):Prop where
 n:m.aM.length≤2^30
 l:m.syms.length≤2^30
 p:iO m.syms≤2^30
theorem yc(a b c:D):aA (.d (.agg [a,b,c]))=some [.d a,.d b,.d c]:=rfl
theorem zc{α:Type}(a b c:α):[a,b,c].length =3:=rfl
theorem wq(a b c:SV):ag false 1 2 [a,b,c]=some c:=rfl
theorem Ek(a b c:D):ag true 3 0 [.d a,.d b,.d c]=some (.d (.agg [a,b,c])):=rfl
theorem An(a b c d:SV):ag false 1 0 [a,b,c,d]=some a:=rfl
theorem D1:∀(l pre:List ar)(c:Int)(s:ar),g7 pre l=some (c,s)→c≠0
 |[],pre,c,s,h=>by simp[g7]at h
 |y::l,pre,c,s,h=>by
  rw[g7]at h
  split at h
  ·exact D1 l _ c s h
  ·rename_i hc
   cases h
   exact hc
theorem OR{m:cQ}{d:D}(hd:pb m d)(hm:n7 m):aD Try.prog gl 34 [.d d] (uZ m.syms):=by
 cases hd with
 |mk xs L hx hs=>
 refine dz bH (cM (fn:=Try.f34) (by kernel_rfl) (by kernel_rfl) (by kernel_rfl)) (h:=NI) ?_;rw[Ub];intro ct
 simp only[yc,zc,wq,sS,sT,sZ]
 have hB:=Py m.aM hx hs (Nat.le_trans hm.n (by decide)) hm.l hm.p
 have e:m.aM.flatMap bh=m.syms:=rfl
 rw[e]at hB
 unfold uZ at hB ⊢
 cases hc:g7 [] m.syms with
 |none=>
  simp only[hc]at hB ⊢
  refine call2 hB ?_
  simp only[qV,rQ,rn,ri,sS,sT,sZ]
 |some p=>
  obtain⟨c,s⟩:=p
  simp only[hc]at hB ⊢
  refine call2 hB ?_
  simp only[qV,rQ,rn,ri,sS,sT,sZ]
def kT(l:List ar):List ar:=match g7 [] l with|none=>eV l l|some _=>[]
def gN(s:dP):List dE:=if s.kind==20||s.kind==23 then [⟨⟨0,s.name,false,[],s.line,s.b8⟩,s.kind⟩]else []
def aL(m:cQ):List dE:=(kT m.syms).map (fun s=>⟨s,0⟩)++m.aM.flatMap gN
def dQ(l:List dE):List D:=l.map mj
theorem D2(l:List dE)(t:dE):dQ l++[mj t]=dQ (l++[t]):=by simp[dQ]
theorem AV(l:List dE):(dQ l).length =l.length:=List.length_map ..
theorem wu:∀(l:List dP),(l.flatMap gN).length ≤l.length
 |[]=>Nat.le_refl _
 |s::l=>by
  have:=wu l
  rw[List.flatMap_cons,List.length_append,List.length_cons]
  have:(gN s).length ≤1:=by unfold gN;split<;>simp
  omega
theorem JG(n:List UInt8)(l c:Int):bY Try.prog 79 [(1,.str n),(4,.agg [.int .i64 l,.int .i64 c])]=some (ar.enc ⟨0,n,false,[],l,c⟩):=by kernel_rfl
theorem IT(ps:List (Nat×D)):bY Try.prog 81 ps=(match oP (fun i=>[(0,6),(6,1)][i]?) [.int .i64 0,.str [],.bool false,.sl .nil 0 [],.int .i64 0,.int .i64 0,.int .i64 0] ps with|some cs=>some (.agg cs)|none=>none):=by kernel_rfl
theorem Q9(s:ar):bY Try.prog 81 [(0,s.enc)]=some (mj ⟨s,0⟩):=by rw[IT];rfl
theorem JH(s:ar)(k:Int):bY Try.prog 81 [(0,s.enc),(1,.int .i64 k)]=some (mj ⟨s,k⟩):=by rw[IT];rfl
theorem EF(t:dE):bO 7 1 [(0,mj t)]=true:=rfl
theorem Dn(l:List ar):(eV l l).length ≤l.length:=by
 have:=Dl l l l.length
 rwa[List.take_length]at this
theorem O5{m:cQ}{d:D}(hd:pb m d)(hm:n7 m):aD Try.prog gl 14 [.d d] (aO 7 (dQ (aL m))):=by
 have hS:=OR hd hm
 cases hd with
 |mk xs L hx hs=>
 refine dz bH (cM (fn:=Try.f14) (by kernel_rfl) (by kernel_rfl) (by kernel_rfl)) (h:=NB) ?_;rw[Uq];intro ct
 have hn:m.aM.length≤maxLen:=Nat.le_trans hm.n (by decide)
 have n9:=hm.n
 have vn:=hm.l
 simp only[yc,zc,Ek,sS,sT,sZ]
 unfold uZ at hS
 cases hc:g7 [] m.syms with
 |none=>
  simp only[hc]at hS
  refine call2 hS ?_
  have Gf:=Dn m.syms
  simp only[qV,rQ,rn,ri,An,fa,sS,sT,sZ,beq_self_eq_true]
  refine And.intro (fun _=>?_) (fun h=>absurd h (by simp))
  simp only[(cn 6 (aI (eV m.syms m.syms))).len,eM,sS,sT,sZ]
  refine eo (fun i=>[aO 7 (dQ (((eV m.syms m.syms).take i).map fun s=>⟨s,0⟩)),.d (cq 6 (aI (eV m.syms m.syms))),.d (.int .i64 ((eV m.syms m.syms).length :Int)),.d (.int .i64 ((i:Nat):Int))])
   (fun i=>[[.d (.str m.name),.d (.int .i64 m.nF),.d xs],[.d (.int .i64 0),.d (.int .i64 0),.d (.int .i64 0),.d (.str [])]]) (eV m.syms m.syms).length (fun i hi I hI=>?_) (fun I=>?_)
  ·simp only[sS,sT,sZ]
   refine And.intro (fun _=>?_) (fun h=>absurd h (by simp;omega))
   obtain⟨s,gA⟩:=get_some hi
   simp only[(cn 6 (aI (eV m.syms m.syms))).at (m9 gA),p7,ef,eD,fp,dH,dZ,Q9,EF,eg,sS,sT,sZ]
   refine iv (gX 7 _) (by simp only[dQ,List.length_map,List.length_take,List.length_singleton];omega) ?_
   refine aZ (bg hi (by simp only[maxLen];omega)) ?_
   rw[D2]
   rw[ez gA,List.map_append]at hI
   exact hI
  ·simp only[sS,sT,sZ]
   refine And.intro (fun h=>absurd h (by simp)) (fun _=>?_)
   simp only[wq,hx.len,hs.len,sS,sT,sZ,List.take_length]
   rw[show aO 7 (dQ ((eV m.syms m.syms).map fun s=>(⟨s,0⟩:dE)))=aO 7 (dQ ((eV m.syms m.syms).map (fun s=>(⟨s,0⟩:dE))++(m.aM.take 0).flatMap gN)) by simp]
   refine eo (fun i=>[aO 7 (dQ ((eV m.syms m.syms).map (fun s=>⟨s,0⟩)++(m.aM.take i).flatMap gN)),.d xs,.d (.int .i64 (m.aM.length:Int)),.d (.int .i64 ((i:Nat):Int))])
    (fun i=>[[.d (.str m.name),.d (.int .i64 m.nF),.d xs],[.d (.int .i64 0),.d (.int .i64 0),.d (.int .i64 0),.d (.str [])]]) m.aM.length (fun i hi I hI=>?_) (fun I=>?_)
   ·simp only[sS,sT,sZ]
    refine And.intro (fun _=>?_) (fun h=>absurd h (by simp;omega))
    obtain⟨s,gA⟩:=get_some hi
    obtain⟨y,hy,bB,tI,pd,xB⟩:=hs.at_ i s gA
    have pI:=bB.load
    cases bB with
    |mk r5 r6 cP al rest sC dM gr=>
    simp only[hx.at hy,sS,sT,sZ,pI,fR,fb,sC]
    rw[xU (by simp[e8,sC])]
    simp only[gf,gZ,g5,fa,qU,dZ,JG,JH,EF,eg,sS,sT,sZ]
    have oo:(m.aM.take (i+1)).flatMap gN=(m.aM.take i).flatMap gN++gN s:=by rw[ez gA];simp
    rw[oo]at hI
    have hlen:=wu (m.aM.take i)
    have L3:(m.aM.take i).length ≤i:=by simp;omega
    unfold gN at hI
    have fin:∀b:Bool,(s.kind==20||s.kind==23)=b→∀L:List dE,L=(eV m.syms m.syms).map (fun s=>⟨s,0⟩)++(m.aM.take i).flatMap gN→(b=true→bW 7 80 (aO 7 (dQ L)) (.full 7 [mj ⟨⟨0,s.name,false,[],s.line,s.b8⟩,s.kind⟩]) (fun r=>ab (ah none .add (.d (.int .i64 ((i:Nat):Int))) (.d (.int .i64 1))) fun r2=>I [r,.d xs,.d (.int .i64 (m.aM.length:Int)),aa r2] [[.d (.str m.name),.d (.int .i64 m.nF),.d xs],[.d (.int .i64 0),.d (.int .i64 0),.d (.int .i64 0),.d (.str [])]]))∧(b=false→ab (ah none .add (.d (.int .i64 ((i:Nat):Int))) (.d (.int .i64 1))) fun r2=>I [aO 7 (dQ L),.d xs,.d (.int .i64 (m.aM.length:Int)),aa r2] [[.d (.str m.name),.d (.int .i64 m.nF),.d xs],[.d (.int .i64 0),.d (.int .i64 0),.d (.int .i64 0),.d (.str [])]]):=by
     intro b hb L hL
     subst hL
     refine⟨fun h=>?_,fun h=>?_⟩
     ·rw[hb,if_pos h]at hI
      refine iv (gX 7 _) (by simp only[dQ,List.length_map,List.length_append,List.length_singleton,List.length_nil];have:=Gf;omega) ?_
      refine aZ (bg hi hn) ?_
      rw[D2]
      rw[←List.append_assoc]at hI
      exact hI
     ·rw[hb,if_neg (by rw[h];simp),List.append_nil]at hI
      refine aZ (bg hi hn) ?_
      exact hI
    refine And.intro (fun jQ=>?_) (fun jQ=>?_)
    ·exact(fin true (by rw[jQ,Bool.true_or]) _ rfl).1 rfl
    ·refine And.intro (fun mh=>?_) (fun mh=>?_)
     ·exact(fin true (by rw[jQ,mh];rfl) _ rfl).1 rfl
     ·exact(fin false (by rw[jQ,mh];rfl) _ rfl).2 rfl
   ·simp only[sS,sT,sZ]
    refine And.intro (fun h=>absurd h (by simp)) (fun _=>?_)
    refine⟨nI _ _,?_⟩
    rw[List.take_length]
    unfold aL kT
    rw[hc]
 |some p=>
  obtain⟨c,s0⟩:=p
  simp only[hc]at hS
  refine call2 hS ?_
  have kZ:=D1 _ _ _ _ hc
  simp only[qV,rQ,rn,ri,An,fa,sS,sT,sZ]
  refine And.intro (fun h=>absurd h (by simp[kZ])) (fun _=>?_)
  simp only[wq,hx.len,hs.len,sS,sT,sZ]
  ·refine eo (fun i=>[aO 7 (dQ ([]++(m.aM.take i).flatMap gN)),.d xs,.d (.int .i64 (m.aM.length:Int)),.d (.int .i64 ((i:Nat):Int))])
    (fun i=>[[.d (.str m.name),.d (.int .i64 m.nF),.d xs],[.d (.int .i64 c),.d (.int .i64 s0.line),.d (.int .i64 s0.b8),.d (.str s0.name)]]) m.aM.length (fun i hi I hI=>?_) (fun I=>?_)
   ·simp only[sS,sT,sZ]
    refine And.intro (fun _=>?_) (fun h=>absurd h (by simp;omega))
    obtain⟨s,gA⟩:=get_some hi
    obtain⟨y,hy,bB,tI,pd,xB⟩:=hs.at_ i s gA
    have pI:=bB.load
    cases bB with
    |mk r5 r6 cP al rest sC dM gr=>
    simp only[hx.at hy,sS,sT,sZ,pI,fR,fb,sC]
    rw[xU (by simp[e8,sC])]
    simp only[gf,gZ,g5,fa,qU,dZ,JG,JH,EF,eg,sS,sT,sZ]
    have oo:(m.aM.take (i+1)).flatMap gN=(m.aM.take i).flatMap gN++gN s:=by rw[ez gA];simp
    rw[oo]at hI
    have hlen:=wu (m.aM.take i)
    have L3:(m.aM.take i).length ≤i:=by simp;omega
    unfold gN at hI
    have fin:∀b:Bool,(s.kind==20||s.kind==23)=b→∀L:List dE,L=[]++(m.aM.take i).flatMap gN→(b=true→bW 7 80 (aO 7 (dQ L)) (.full 7 [mj ⟨⟨0,s.name,false,[],s.line,s.b8⟩,s.kind⟩]) (fun r=>ab (ah none .add (.d (.int .i64 ((i:Nat):Int))) (.d (.int .i64 1))) fun r2=>I [r,.d xs,.d (.int .i64 (m.aM.length:Int)),aa r2] [[.d (.str m.name),.d (.int .i64 m.nF),.d xs],[.d (.int .i64 c),.d (.int .i64 s0.line),.d (.int .i64 s0.b8),.d (.str s0.name)]]))∧(b=false→ab (ah none .add (.d (.int .i64 ((i:Nat):Int))) (.d (.int .i64 1))) fun r2=>I [aO 7 (dQ L),.d xs,.d (.int .i64 (m.aM.length:Int)),aa r2] [[.d (.str m.name),.d (.int .i64 m.nF),.d xs],[.d (.int .i64 c),.d (.int .i64 s0.line),.d (.int .i64 s0.b8),.d (.str s0.name)]]):=by
     intro b hb L hL
     subst hL
     refine⟨fun h=>?_,fun h=>?_⟩
     ·rw[hb,if_pos h]at hI
      refine iv (gX 7 _) (by simp only[dQ,List.length_map,List.length_append,List.length_singleton,List.length_nil];have:=n9;omega) ?_
      refine aZ (bg hi hn) ?_
      rw[D2]
      rw[←List.append_assoc]at hI
      exact hI
     ·rw[hb,if_neg (by rw[h];simp),List.append_nil]at hI
      refine aZ (bg hi hn) ?_
      exact hI
    refine And.intro (fun jQ=>?_) (fun jQ=>?_)
    ·exact(fin true (by rw[jQ,Bool.true_or]) _ rfl).1 rfl
    ·refine And.intro (fun mh=>?_) (fun mh=>?_)
     ·exact(fin true (by rw[jQ,mh];rfl) _ rfl).1 rfl
     ·exact(fin false (by rw[jQ,mh];rfl) _ rfl).2 rfl
   ·simp only[sS,sT,sZ]
    refine And.intro (fun h=>absurd h (by simp)) (fun _=>?_)
    refine⟨nI _ _,?_⟩
    rw[List.take_length]
    unfold aL kT
    rw[hc]
    rfl
end Go.Proofs.Ytaknajjmldngiaa.Ab
namespace Go.Proofs.Ytaknajjmldngiaa.Ab
open Go
set_option linter.unusedVariables false
set_option maxRecDepth 4000
theorem qO{α β:Type}{l:List α}{f:α→List β}{p:Nat}{x:α}(h:l[p]? =some x):((l.take p).flatMap f).length +(f x).length ≤(l.flatMap f).length :=by
 have h1:l=l.take p++x::l.drop (p+1):=by rw[←nM h,List.take_append_drop]
 have h2:(l.flatMap f).length =((l.take p++x::l.drop (p+1)).flatMap f).length :=by rw[←h1]
 rw[h2,List.flatMap_append,List.flatMap_cons,List.length_append,List.length_append]
 omega
theorem HI{β:Type}(f:Nat→List β){k n:Nat}(h:k<n):((List.range k).flatMap f).length +(f k).length ≤((List.range n).flatMap f).length :=by
 have:=qO (l:=List.range n) (f:=f) (p:=k) (x:=k) (by rw[List.getElem?_range h])
 rwa[List.take_range,Nat.min_eq_left (by omega)]at this
def gC(code:Int)(i k:Nat)(la ca lb cb:Int)(nm:List UInt8):D:=.agg [.int .i64 code,.int .i64 (i:Int),.int .i64 (k:Int),.int .i64 la,.int .i64 ca,.int .i64 lb,.int .i64 cb,.str nm]
def yF(i k:Nat)(x y:dE):List D:=if kO x y=0 then []else [gC (kO x y) i k x.sym.line x.sym.b8 y.sym.line y.sym.b8 x.sym.name]
def xF(i k:Nat)(B:List dE)(x:dE):List D:=B.flatMap (yF i k x)
def tu(i k:Nat)(a b:cQ):List D:=if a.name==b.name then [gC 12 i k 0 0 0 0 a.name]else []
def mH(i k:Nat)(a b:cQ):List D:=tu i k a b++(aL a).flatMap (xF i k (aL b))
def gM(l:List cQ)(i k:Nat):List D:=if i<k then(match l[i]?,l[k]? with|some a,some b=>mH i k a b|_,_=>[])else []
def cA(l:List cQ)(i n:Nat):List D:=(List.range n).flatMap (gM l i)
def ft(l:List cQ):List D:=(List.range l.length).flatMap fun i=>cA l i l.length
theorem L4{l:List cQ}{i k:Nat}{a b:cQ}(h:i<k)(ha:l[i]? =some a)(hb:l[k]? =some b):gM l i k=mH i k a b:=by unfold gM;rw[if_pos h,ha,hb]
theorem Ao(l:List cQ)(i:Nat):cA l i (i+1)=[]:=by
 unfold cA
 rw[List.flatMap_eq_nil_iff]
 intro k hk
 have:=List.mem_range.1 hk
 unfold gM
 rw[if_neg (by omega)]
theorem DG{l:List cQ}{i k:Nat}{a b:cQ}(h:i<k)(ha:l[i]? =some a)(hb:l[k]? =some b):cA l i (k+1)=cA l i k++mH i k a b:=by
 unfold cA
 rw[List.range_succ,List.flatMap_append,List.flatMap_singleton,L4 h ha hb]
theorem El{l:List cQ}{i k:Nat}{a b:cQ}(h:i<k)(hk:k<l.length)(ha:l[i]? =some a)(hb:l[k]? =some b):(cA l i k).length +(mH i k a b).length ≤(cA l i l.length).length :=by
 have:=HI (gM l i) hk
 rwa[L4 h ha hb]at this
def cE(l:List cQ)(i:Nat):List D:=(List.range i).flatMap fun i=>cA l i l.length
theorem Dp(l:List cQ)(i:Nat):cE l (i+1)=cE l i++cA l i l.length:=by
 unfold cE
 rw[List.range_succ,List.flatMap_append,List.flatMap_singleton]
theorem D3{l:List cQ}{i:Nat}(h:i<l.length):(cE l i).length +(cA l i l.length).length ≤(ft l).length :=HI (fun i=>cA l i l.length) h
theorem AO(x y z u v w:D)(i j k l m n:Nat):aW [(i,.v (.d x)),(j,.v (.d y)),(k,.v (.d z)),(l,.v (.d u)),(m,.v (.d v)),(n,.v (.d w))]=some [(i,x),(j,y),(k,z),(l,u),(m,v),(n,w)]:=rfl
theorem DH(c:Int)(i k:Nat)(la ca lb cb:Int)(nm:List UInt8):bY Try.prog 35 [(0,.int .i64 c),(1,.int .i64 (i:Int)),(2,.int .i64 (k:Int)),(3,.agg [.int .i64 la,.int .i64 ca]),(4,.agg [.int .i64 lb,.int .i64 cb]),(5,.str nm)]=some (gC c i k la ca lb cb nm):=by kernel_rfl
theorem JI(c:Int)(i k:Nat)(nm:List UInt8):bY Try.prog 35 [(0,.int .i64 c),(1,.int .i64 (i:Int)),(2,.int .i64 (k:Int)),(5,.str nm)]=some (gC c i k 0 0 0 0 nm):=by kernel_rfl
theorem wM(c:Int)(i k:Nat)(la ca lb cb:Int)(nm:List UInt8):bO 8 1 [(0,gC c i k la ca lb cb nm)]=true:=rfl
theorem Tw(n:Nat)(L:List D):bO 1 1 [(0,cq n L)]=true:=by cases L<;>rfl
theorem Bj(n:Nat)(L:List D):aF false 1 (.aE (cq n L) 0)=some (.d (cq n L)):=by cases L<;>rfl
theorem Bk{l:List dE}{i:Nat}{t:dE}(h:l[i]? =some t):(dQ l)[i]? =some (mj t):=by simp[dQ,h]
theorem B1(x:D):bD (.aE x 0) 0=some (.aE x 0):=rfl
theorem UR(a b c d e f:SV):setAt [a,b,c] 0 [d,e,f]=[d,e,f]:=rfl
theorem KW(a b c:D):aF true 3 (.aE (.agg [a,b,c]) 0)=some (.d (.agg [a,b,c])):=rfl
theorem Ko(a b c:D):aF false 1 (.aE (.agg [a,b,c]) 0)=some (.d a):=rfl
def ue(l:List cQ):List D:=l.map fun m=>cq 7 (dQ (aL m))
theorem Lv{l:List cQ}{i:Nat}{m:cQ}(h:l[i]? =some m):(ue l)[i]? =some (cq 7 (dQ (aL m))):=by simp[ue,h]
structure wW(l:List cQ)(L:List D):Prop where
 len:L.length=l.length
 at_:∀(i:Nat)m,l[i]? =some m→∃d,L[i]? =some d∧pb m d∧n7 m
theorem H5{m:cQ}(hm:n7 m):∀t∈aL m,t.sym.perms.length≤maxLen:=by
 intro t ht
 unfold aL kT at ht
 rcases List.mem_append.1 ht with h|h
 ·obtain⟨s,hs,rfl⟩:=List.mem_map.1 h
  split at hs
  ·have:=CR m.syms m.syms m.syms.length
   rw[List.take_length]at this
   have h1:=this s hs
   have h2:=hm.p
   simp only[maxLen];omega
  ·cases hs
 ·obtain⟨s,hs,h⟩:=List.mem_flatMap.1 h
  unfold gN at h
  split at h
  ·rw[List.mem_singleton.1 h];simp[maxLen]
  ·cases h
theorem IU{m:cQ}(hm:n7 m):(aL m).length ≤2^32:=by
 have h1:=wu m.aM
 have h2:=Dn m.syms
 have h3:=hm.n
 have h4:=hm.l
 unfold aL kT
 rw[List.length_append,List.length_map]
 split
 ·omega
 ·rw[List.length_nil];omega
theorem KX(a b:List UInt8):ah (some (false,[.str])) .eql (.d (.str a)) (.d (.str b))=some (.d (.bool (a==b))):=tg a b
theorem xM{l:List cQ}{L:List D}{x:SV}(hx:eN 3 L x)(hl:wW l L)(Hi:l.length≤2^30)(hF:(ft l).length ≤2^40):aD Try.prog gl 8 [x] (aO 8 (ft l)):=by
 have hn:l.length≤maxLen:=Nat.le_trans Hi (by decide)
 have sL:∀(i:Nat)a,l[i]? =some a→∀t∈aL a,t.sym.perms.length≤maxLen:=fun i a ha=>by
  obtain⟨_,_,_,h⟩:=hl.at_ i a ha
  exact H5 h
 have zV:∀(i:Nat)a,l[i]? =some a→(aL a).length ≤maxLen:=fun i a ha=>by
  obtain⟨_,_,_,h⟩:=hl.at_ i a ha
  exact Nat.le_trans (IU h) (by decide)
 refine dz bH (cM (fn:=Try.f8) (by kernel_rfl) (by kernel_rfl) (by kernel_rfl)) (h:=h8) ?_;rw[VR];intro ct
 simp only[hx.len,hl.len,sS,sT,sZ,hx.cF]
 refine eo (fun i=>[x,aO 1 (ue (l.take i)),x,.d (.int .i64 (l.length:Int)),.d (.int .i64 ((i:Nat):Int))]) (fun i=>[]) l.length (fun i hi I hI=>?_) (fun I=>?_)
 ·simp only[sS,sT,sZ,hx.cF]
  refine And.intro (fun _=>?_) (fun h=>absurd h (by simp;omega))
  obtain⟨m,hm⟩:=get_some hi
  obtain⟨d,hd,Ob,eO⟩:=hl.at_ i m hm
  have Hj:=O5 Ob eO
  cases Ob with
  |mk xs L' cB ew=>
  simp only[hx.at hd,KW,yc,zc,UR,Ek,sS,sT,sZ,hx.cF]
  refine fQ Hj (jW _ _) ?_
  simp only[fF,dZ,Tw,eg,sS,sT,sZ,hx.cF]
  refine iv (gX 1 _) (by simp only[ue,List.length_map,List.length_take,List.length_singleton];omega) ?_
  refine aZ (bg hi hn) ?_
  rw[ez hm,show ue (l.take i++[m])=ue (l.take i)++[cq 7 (dQ (aL m))] by simp[ue]]at hI
  exact hI
 ·simp only[sS,sT,sZ,hx.cF]
  refine And.intro (fun h=>absurd h (by simp)) (fun _=>?_)
  rw[List.take_length]
  generalize Oc:ue l=AL
  simp only[hx.len,hl.len,sS,sT,sZ,hx.cF]
  refine eo (fun i=>[x,aO 1 AL,aO 8 (cE l i),.d (.int .i64 (l.length:Int)),.d (.int .i64 ((i:Nat):Int))]) (fun i=>[]) l.length (fun i hi I hI=>?_) (fun I=>?_)
  ·simp only[sS,sT,sZ,hx.cF]
   refine And.intro (fun _=>?_) (fun h=>absurd h (by simp;omega))
   obtain⟨a,ha⟩:=get_some hi
   have Hk:=D3 hi
   refine aZ (bg hi hn) ?_
   simp only[sS,sT,sZ,hx.cF]
   rw[show aO 8 (cE l i)=aO 8 (cE l i++cA l i (i+1)) by rw[Ao,List.append_nil]]
   refine eo (fun j=>[x,aO 1 AL,aO 8 (cE l i++cA l i (i+1+j)),.d (.int .i64 ((i:Nat):Int)),.d (.int .i64 ((i+1+j:Nat):Int)),.d (.int .i64 (l.length:Int)),.d (.int .i64 ((i:Nat):Int))]) (fun j=>[]) (l.length-(i+1)) (fun j hj I1 bC=>?_) (fun I1=>?_)
   ·simp only[sS,sT,sZ,hx.cF,hx.len,hl.len]
    have hk:i+1+j<l.length:=by omega
    have nu:i<i+1+j:=by omega
    rw[show i+1+(j+1)=i+1+j+1 by omega]at bC
    generalize i+1+j=k at hk nu bC ⊢
    refine And.intro (fun _=>?_) (fun h=>absurd h (by simp;omega))
    obtain⟨b,hb⟩:=get_some hk
    have lL:=El nu hk ha hb
    rw[DG nu ha hb]at bC
    have Od:AL[i]? =some (cq 7 (dQ (aL a))):=by rw[←Oc];exact Lv ha
    have sf:AL[k]? =some (cq 7 (dQ (aL b))):=by rw[←Oc];exact Lv hb
    have zd:=zV i a ha
    have rR:=zV k b hb
    obtain⟨da,Hl,Cw,_⟩:=hl.at_ i a ha
    obtain⟨db,Hm,Cx,_⟩:=hl.at_ k b hb
    cases Cw with
    |mk xa La zz Zk=>
    cases Cx with
    |mk xb Lb Zl Gp=>
    simp only[hx.at Hl,hx.at Hm,B1,Ko,KX,sS,sT,sZ,hx.cF]
    unfold mH tu at bC lL
    rw[←List.append_assoc,←List.append_assoc]at bC
    refine And.intro (fun om=>?_) (fun om=>?_)
    ·rw[if_pos om]at bC lL
     simp only[List.length_append,List.length_singleton]at lL
     have vP:=bC
     simp only[ta,JI,dZ,wM,eg,sS,sT,sZ,hx.cF]
     refine iv (gX 8 _) (by simp only[List.length_append,List.length_singleton];omega) ?_
     simp only[(cn 1 AL).at Od,Bj,(cn 7 (dQ (aL a))).len,AV,sS,sT,sZ,hx.cF,fF]
     have hO:cE l i++cA l i k++[gC 12 i k 0 0 0 0 a.name]=cE l i++cA l i k++[gC 12 i k 0 0 0 0 a.name]++((aL a).take 0).flatMap (xF i k (aL b)):=by simp
     rw[show aO 8 (cE l i++cA l i k++[gC 12 i k 0 0 0 0 a.name])=aO 8 (cE l i++cA l i k++[gC 12 i k 0 0 0 0 a.name]++((aL a).take 0).flatMap (xF i k (aL b))) by simp]
     refine eo (fun p=>[x,aO 1 AL,aO 8 (cE l i++cA l i k++[gC 12 i k 0 0 0 0 a.name]++((aL a).take p).flatMap (xF i k (aL b))),.d (.int .i64 ((i:Nat):Int)),.d (.int .i64 ((k:Nat):Int)),.d (.int .i64 (l.length:Int)),.d (.int .i64 ((i:Nat):Int)),.d (cq 7 (dQ (aL a))),.d (.int .i64 ((aL a).length :Int)),.d (.int .i64 ((p:Nat):Int))]) (fun p=>[]) (aL a).length (fun p hp I2 cN=>?_) (fun I2=>?_)
     ·simp only[sS,sT,sZ,hx.cF]
      refine And.intro (fun _=>?_) (fun h=>absurd h (by simp;omega))
      obtain⟨t,ht⟩:=get_some hp
      have sn:=sL i a ha t (List.mem_of_getElem? ht)
      have tO:=qO (f:=xF i k (aL b)) ht
      simp only[(cn 7 (dQ (aL a))).at (Bk ht),AU,wo,wL,Bi,(cn 1 AL).at sf,Bj,(cn 7 (dQ (aL b))).len,AV,sS,sT,sZ,hx.cF,fF]
      rw[show aO 8 (cE l i++cA l i k++[gC 12 i k 0 0 0 0 a.name]++((aL a).take p).flatMap (xF i k (aL b)))=aO 8 (cE l i++cA l i k++[gC 12 i k 0 0 0 0 a.name]++((aL a).take p).flatMap (xF i k (aL b))++((aL b).take 0).flatMap (yF i k t)) by simp]
      refine eo (fun q=>[x,aO 1 AL,aO 8 (cE l i++cA l i k++[gC 12 i k 0 0 0 0 a.name]++((aL a).take p).flatMap (xF i k (aL b))++((aL b).take q).flatMap (yF i k t)),.d (.int .i64 ((i:Nat):Int)),.d (.int .i64 ((k:Nat):Int)),.d (.int .i64 (l.length:Int)),.d (.int .i64 ((i:Nat):Int)),.d (cq 7 (dQ (aL a))),.d (.int .i64 ((aL a).length :Int)),.d (.int .i64 ((p:Nat):Int)),.d (cq 7 (dQ (aL b))),.d (.int .i64 ((aL b).length :Int)),.d (.int .i64 ((q:Nat):Int))]) (fun q=>[oz t]) (aL b).length (fun q hq I3 eQ=>?_) (fun I3=>?_)
      ·simp only[sS,sT,sZ,hx.cF]
       refine And.intro (fun _=>?_) (fun h=>absurd h (by simp;omega))
       obtain⟨u,hu⟩:=get_some hq
       have vQ:=sL k b hb u (List.mem_of_getElem? hu)
       have kG:=qO (f:=yF i k t) hu
       simp only[(cn 7 (dQ (aL b))).at (Bk hu),AU,wo,wL,Bi,Ej,sS,sT,sZ,hx.cF]
       refine bR (H4 t u sn vQ) ?_
       rw[ez hu,List.flatMap_append,←List.append_assoc]at eQ
       simp only[p6,sS,sT,sZ,hx.cF]
       refine And.intro (fun hc=>?_) (fun hc=>?_)
       ·have pK:[u].flatMap (yF i k t)=[gC (kO t u) i k t.sym.line t.sym.b8 u.sym.line u.sym.b8 t.sym.name]:=by
         rw[List.flatMap_singleton,yF,if_neg (by simpa using hc)]
        rw[pK]at eQ
        simp only[Kn,Km,AO,DH,dZ,wM,eg,sS,sT,sZ,hx.cF]
        refine iv (gX 8 _) (by simp only[List.length_append,List.length_singleton];simp only[xF]at tO ⊢;omega) ?_
        refine aZ (bg hq rR) ?_
        exact eQ
       ·have pK:[u].flatMap (yF i k t)=[]:=by
         rw[List.flatMap_singleton,yF,if_pos (by simpa using hc)]
        rw[pK,List.append_nil]at eQ
        refine aZ (bg hq rR) ?_
        exact eQ
      ·simp only[sS,sT,sZ,hx.cF]
       refine And.intro (fun h=>absurd h (by simp)) (fun _=>?_)
       refine aZ (bg hp zd) ?_
       rw[ez ht,List.flatMap_append,←List.append_assoc,List.flatMap_singleton]at cN
       rw[List.take_length]
       exact cN
     ·simp only[sS,sT,sZ,hx.cF]
      refine And.intro (fun h=>absurd h (by simp)) (fun _=>?_)
      refine aZ (bg hk hn) ?_
      rw[List.take_length]
      exact vP
    ·rw[if_neg (by rw[om];simp),List.append_nil]at bC
     rw[if_neg (by rw[om];simp)]at lL
     simp only[List.length_append,List.length_nil]at lL
     have vP:=bC
     simp only[(cn 1 AL).at Od,Bj,(cn 7 (dQ (aL a))).len,AV,sS,sT,sZ,hx.cF,fF]
     have hO:cE l i++cA l i k=cE l i++cA l i k++((aL a).take 0).flatMap (xF i k (aL b)):=by simp
     rw[show aO 8 (cE l i++cA l i k)=aO 8 (cE l i++cA l i k++((aL a).take 0).flatMap (xF i k (aL b))) by simp]
     refine eo (fun p=>[x,aO 1 AL,aO 8 (cE l i++cA l i k++((aL a).take p).flatMap (xF i k (aL b))),.d (.int .i64 ((i:Nat):Int)),.d (.int .i64 ((k:Nat):Int)),.d (.int .i64 (l.length:Int)),.d (.int .i64 ((i:Nat):Int)),.d (cq 7 (dQ (aL a))),.d (.int .i64 ((aL a).length :Int)),.d (.int .i64 ((p:Nat):Int))]) (fun p=>[]) (aL a).length (fun p hp I2 cN=>?_) (fun I2=>?_)
     ·simp only[sS,sT,sZ,hx.cF]
      refine And.intro (fun _=>?_) (fun h=>absurd h (by simp;omega))
      obtain⟨t,ht⟩:=get_some hp
      have sn:=sL i a ha t (List.mem_of_getElem? ht)
      have tO:=qO (f:=xF i k (aL b)) ht
      simp only[(cn 7 (dQ (aL a))).at (Bk ht),AU,wo,wL,Bi,(cn 1 AL).at sf,Bj,(cn 7 (dQ (aL b))).len,AV,sS,sT,sZ,hx.cF,fF]
      rw[show aO 8 (cE l i++cA l i k++((aL a).take p).flatMap (xF i k (aL b)))=aO 8 (cE l i++cA l i k++((aL a).take p).flatMap (xF i k (aL b))++((aL b).take 0).flatMap (yF i k t)) by simp]
      refine eo (fun q=>[x,aO 1 AL,aO 8 (cE l i++cA l i k++((aL a).take p).flatMap (xF i k (aL b))++((aL b).take q).flatMap (yF i k t)),.d (.int .i64 ((i:Nat):Int)),.d (.int .i64 ((k:Nat):Int)),.d (.int .i64 (l.length:Int)),.d (.int .i64 ((i:Nat):Int)),.d (cq 7 (dQ (aL a))),.d (.int .i64 ((aL a).length :Int)),.d (.int .i64 ((p:Nat):Int)),.d (cq 7 (dQ (aL b))),.d (.int .i64 ((aL b).length :Int)),.d (.int .i64 ((q:Nat):Int))]) (fun q=>[oz t]) (aL b).length (fun q hq I3 eQ=>?_) (fun I3=>?_)
      ·simp only[sS,sT,sZ,hx.cF]
       refine And.intro (fun _=>?_) (fun h=>absurd h (by simp;omega))
       obtain⟨u,hu⟩:=get_some hq
       have vQ:=sL k b hb u (List.mem_of_getElem? hu)
       have kG:=qO (f:=yF i k t) hu
       simp only[(cn 7 (dQ (aL b))).at (Bk hu),AU,wo,wL,Bi,Ej,sS,sT,sZ,hx.cF]
       refine bR (H4 t u sn vQ) ?_
       rw[ez hu,List.flatMap_append,←List.append_assoc]at eQ
       simp only[p6,sS,sT,sZ,hx.cF]
       refine And.intro (fun hc=>?_) (fun hc=>?_)
       ·have pK:[u].flatMap (yF i k t)=[gC (kO t u) i k t.sym.line t.sym.b8 u.sym.line u.sym.b8 t.sym.name]:=by
         rw[List.flatMap_singleton,yF,if_neg (by simpa using hc)]
        rw[pK]at eQ
        simp only[Kn,Km,AO,DH,dZ,wM,eg,sS,sT,sZ,hx.cF]
        refine iv (gX 8 _) (by simp only[List.length_append,List.length_singleton];simp only[xF]at tO ⊢;omega) ?_
        refine aZ (bg hq rR) ?_
        exact eQ
       ·have pK:[u].flatMap (yF i k t)=[]:=by
         rw[List.flatMap_singleton,yF,if_pos (by simpa using hc)]
        rw[pK,List.append_nil]at eQ
        refine aZ (bg hq rR) ?_
        exact eQ
      ·simp only[sS,sT,sZ,hx.cF]
       refine And.intro (fun h=>absurd h (by simp)) (fun _=>?_)
       refine aZ (bg hp zd) ?_
       rw[ez ht,List.flatMap_append,←List.append_assoc,List.flatMap_singleton]at cN
       rw[List.take_length]
       exact cN
     ·simp only[sS,sT,sZ,hx.cF]
      refine And.intro (fun h=>absurd h (by simp)) (fun _=>?_)
      refine aZ (bg hk hn) ?_
      rw[List.take_length]
      exact vP
   ·simp only[sS,sT,sZ,hx.cF,hx.len,hl.len]
    refine And.intro (fun h=>absurd h (by simp;omega)) (fun _=>?_)
    refine aZ (bg hi hn) ?_
    rw[show i+1+(l.length-(i+1))=l.length by omega,←Dp]
    exact hI
  ·simp only[sS,sT,sZ,hx.cF]
   refine And.intro (fun h=>absurd h (by simp)) (fun _=>?_)
   exact⟨nI _ _,rfl⟩
end Go.Proofs.Ytaknajjmldngiaa.Ab
namespace Go.Proofs.Ytaknajjmldngiaa.Ab
open Go
def VY:List (Nat×Hints):=[(7,⟨[],[(4,[0,1,5],[])],[]⟩),
 (11,⟨[],[],[]⟩),
 (12,⟨[(2,4)],[],[]⟩),
 (13,⟨[(1,4),(1,5),(2,0),(2,3),(2,4)],[],[]⟩),
 (24,⟨[],[(3,[0,4],[2,3])],[]⟩),
 (25,⟨[],[],[]⟩),
 (26,⟨[],[],[]⟩),
 (27,⟨[(8,2)],[(4,[4,18,19,20],[1,2,3,11,12,17,53]),(10,[4,18,19,20,35,36],[1,2,3,6,9,11,12,17,25,26,33,34,48,49,51,53])],[(9,[.box 9 1]),(14,[.mQ 9 [9,34]]),(16,[.mQ 3 [3,11]])]⟩),
 (28,⟨[(11,0),(11,3),(11,4),(13,0),(13,1)],[(3,[0,1,5,11,12],[]),(6,[0,1,5,6,7,11,12],[])],[]⟩),
 (29,⟨[],[],[]⟩),
 (30,⟨[],[],[]⟩),
 (31,⟨[],[(2,[0,1,7,8],[])],[]⟩),
 (32,⟨[(1,3),(2,0),(2,4),(2,5)],[],[]⟩),
 (33,⟨[(1,3)],[],[]⟩),
 (39,⟨[],[],[]⟩),
 (40,⟨[],[],[]⟩),
 (41,⟨[],[(2,[6],[2,3,4])],[]⟩),
 (42,⟨[(11,0),(11,3),(11,4),(13,0),(13,1)],[(3,[0,1,5,11,12],[]),(6,[0,1,5,6,7,11,12],[])],[]⟩),
 (43,⟨[],[],[]⟩),
 (44,⟨[(11,0),(11,3),(11,4),(13,0),(13,1)],[(3,[0,1,5,11,12],[]),(6,[0,1,5,6,7,11,12],[])],[]⟩),
 (45,⟨[],[],[]⟩),
 (46,⟨[(11,0),(11,3),(11,4),(13,0),(13,1)],[(3,[0,1,5,11,12],[]),(6,[0,1,5,6,7,11,12],[])],[]⟩),
 (47,⟨[],[],[]⟩),
 (53,⟨[],[],[]⟩),
 (54,⟨[],[],[]⟩),
 (66,⟨[],[],[]⟩)]
def L5:List (Nat×Hints)→Nat→Hints
 |[],_=>⟨[],[],[]⟩
 |(i,h)::l,n=>bif Nat.beq i n then h else L5 l n
def lM:FuncId→Hints:=L5 VY
end Go.Proofs.Ytaknajjmldngiaa.Ab
set_option maxRecDepth 100000
namespace Go.Proofs.Ytaknajjmldngiaa.Ab
open Go
def h6:Hints:=⟨[(7,2),(7,4),(8,2)],[],[]⟩
noncomputable def c9:Code:=Go.Proofs.Try.f6.body.getD .skip
def ug:List Slot:=[.v .undef,.p 0 0,.p 1 0,.p 2 0,.p 3 0]++List.replicate 56 (.v .undef)
set_option maxHeartbeats 1000000 in
theorem Zm(C:bu)(ds:List D)(Q:Ex→Env→Prop):aw Go.Proofs.Try.prog gl C h6 ((dc c9).getD 8 .skip) Q ⟨(List.replicate 61 (.v .undef)).set 4 (.v (.aE (.agg ds) 0)),[]⟩=(
 ab (aF true 17 (.aE (.agg ds) 0)) fun r0=>
 aP C 12 [(aa (aa r0))] fun r1=>
 (Q Ex.normal (Env.mk ([(.v .undef),(.v .undef),(.v .undef),(.v .undef),(.v (.aE (.agg ds) 0)),(.v .undef),(.v .undef),(.v r1),(.v .undef),(.v .undef),(.v .undef),(.v .undef),(.v .undef),(.v .undef),(.v .undef),(.v .undef),(.v .undef),(.v .undef),(.v .undef),(.v .undef),(.v .undef),(.v .undef),(.v .undef),(.v .undef),(.v .undef),(.v .undef),(.v .undef),(.v .undef),(.v r0),(.v (aa r1))]++List.replicate 31 (.v .undef)) []))):=by kernel_rfl
set_option maxHeartbeats 1000000 in
theorem Xz(C:bu)(c0 c1 c2 c3 c4 c5:List SV)(M:List D)(K:SV→Prop):ik Go.Proofs.Try.prog gl C h6 ((dc c9).drop 10) (tE Go.Proofs.Try.prog Go.Proofs.Try.f6 K) ⟨ug.set 7 (.v (.own 8 M)),[.cells c0,.cells c1,.cells c2,.cells c3,.cells c4,.cells c5]⟩=(
 ab (ag true 3 0 c1) fun r0=>
 ab (ag true 3 0 c2) fun r1=>
 ab (aW [(0,(.v (aa (aa r0)))),(1,(.v (aa (aa r1))))]) fun r2=>
 (bO 3 2 r2)=true∧
 aP C 8 [(.full 3 (bL (bN true [(.str []),(.int .i64 0),(.sl .nil 0 [])]) r2 2 0))] fun r3=>
 ab (ag true 2 0 c0) fun r4=>
 ab (ag true 2 0 c0) fun r5=>
 ab (aW [(0,(.v (.d (.int .i64 13)))),(2,(.v (.d (.int .i64 1)))),(3,(.v (aa (aa r4)))),(4,(.v (aa (aa r5)))),(5,(.v (.d (.str [116]))))]) fun r6=>
 ab (bY Proofs.Try.prog 35 r6) fun r7=>
 ab (aW [(0,(.v (.d r7)))]) fun r8=>
 (bO 8 1 r8)=true∧
 aP C 7 [(aa (aa r3)),(.full 8 (bL (bN true [(.int .i64 0),(.int .i64 0),(.int .i64 0),(.int .i64 0),(.int .i64 0),(.int .i64 0),(.int .i64 0),(.str [])]) r8 1 0))] fun r9=>
 ao (aa r9)
  (ab (aW [(0,(.v (.d (.int .i64 16)))),(2,(.v (.d (.int .i64 1))))]) fun bU=>
  ab (bY Proofs.Try.prog 35 bU) fun cG=>
  ab (aW [(0,(.v (.d cG)))]) fun cj=>
  (bO 8 1 cj)=true∧
  aP C 7 [(.d (.sl .ro 8 M)),(.full 8 (bL (bN true [(.int .i64 0),(.int .i64 0),(.int .i64 0),(.int .i64 0),(.int .i64 0),(.int .i64 0),(.int .i64 0),(.str [])]) cj 1 0))] fun cr=>
  ao (aa (aa cr))
   (ab (ag true 17 0 c3) fun bQ=>
   aP C 12 [(aa (aa (aa bQ)))] fun cH=>
   ab (bG (aa cH)) fun cL=>
   ab (ah (some (false,[.int])) .eql (aa cL) (.d (.int .i64 0))) fun du=>
   ao (aa (aa du))
    (aP C 11 [] fun dF=>
    aP C 13 [(aa (aa dF))] fun ed=>
    ab (bG (aa ed)) fun dX=>
    ab (ah (some (false,[.int])) .eql (aa dX) (.d (.int .i64 0))) fun dm=>
    (SV.au (aa (aa dm)))=true∧
    (K (aa (aa dm))))
    ((SV.au (.d (.bool false)))=true∧
    (K (.d (.bool false)))))
   ((SV.au (.d (.bool false)))=true∧
   (K (.d (.bool false)))))
  ((SV.au (.d (.bool false)))=true∧
  (K (.d (.bool false))))):=by kernel_rfl
end Go.Proofs.Ytaknajjmldngiaa.Ab
namespace Go.Proofs.Ytaknajjmldngiaa.Ab
open Go Go.RowKit
set_option linter.unusedVariables false
noncomputable def ze(lf n:Nat):List Code→Env→Option Env
 |[],e=>some e
 |c::l,e=>match jx Try.prog gl (oZ Try.prog gl lM lf n) h6 lf c e with
  |some (.normal,e')=>ze lf n l e'
  |_=>none
theorem IV{lf n:Nat}:∀(l:List Code)(e e':Env)(Q:Ex→Env→Prop),ze lf n l e=some e'→Q .normal e'→ik Try.prog gl (aD Try.prog gl) h6 l Q e
 |[],e,e',Q,h,hQ=>by cases h;exact hQ
 |c::l,e,e',Q,h,hQ=>by
  rw[ze]at h
  split at h
  ·rename_i e1 Hn
   exact s4 (sP bH lM lf n) c e (.normal,e1) _ Hn (IV l e1 e' Q h hQ)
  ·cases h
noncomputable def E8:Env:=(ze 300 30 ((dc c9).take 8) (enter 61 [])).getD ⟨[],[]⟩
noncomputable def ee(i:Nat):List SV:=match(E8.boxes[i]? :Option af)with|some (.cells cs)=>cs|_=>[]
noncomputable def L8:List D:=match((ee 3)[10]? :Option SV)with|some (.bj _ L)=>L|_=>[]
noncomputable def x8:D:=(L8[1]?).getD .oN
noncomputable def x9:D:=.agg (x8.cells.set 12 (.int .i64 (-1)))
noncomputable def zW:List D:=(dT ((ee 3).set 10 (.d (.sl .ro 13 L8)))).getD []
noncomputable def Oe:List D:=(dT (((ee 3).set 10 (.bj 13 (L8.set 1 x9))).set 10 (.d (.sl .ro 13 (L8.set 1 x9))))).getD []
def qN:D:=.agg [.int .i64 16,.int .i64 0,.int .i64 1,.int .i64 0,.int .i64 0,.int .i64 0,.int .i64 0,.str []]
theorem US:ze 300 30 ((dc c9).take 8) (enter 61 [])=some E8:=by kernel_rfl
theorem UT:E8.boxes=[.cells (ee 0),.cells (ee 1),.cells (ee 2),.cells (ee 3),.cells (ee 4),.cells (ee 5)]:=by kernel_rfl
theorem UU:E8.ai.length=61:=by kernel_rfl
theorem VZ:E8.ai[1]? =some (.p 0 0):=by kernel_rfl
theorem V0:E8.ai[2]? =some (.p 1 0):=by kernel_rfl
theorem V1:E8.ai[3]? =some (.p 2 0):=by kernel_rfl
theorem V2:E8.ai[4]? =some (.p 3 0):=by kernel_rfl
theorem L6:(ee 3)[10]? =some (.bj 13 L8):=by kernel_rfl
theorem XA:L8[1]? =some x8:=by kernel_rfl
theorem V3:dT ((ee 3).set 10 (.d (.sl .ro 13 L8)))=some zW:=by kernel_rfl
theorem Tx:zW.length=17:=by kernel_rfl
theorem V4:oZ Try.prog gl lM 300 30 12 [.d (.agg zW)]=some (.own 8 [qN]):=by kernel_rfl
theorem UW:oZ Try.prog gl lM 300 30 12 [.d (.agg Oe)]=some (.d (.sl .nil 0 [])):=by kernel_rfl
theorem UX:oZ Try.prog gl lM 300 30 7 [.d (.sl .ro 8 [.agg [.int .i64 13,.int .i64 0,.int .i64 1,.int .i64 1,.int .i64 13,.int .i64 1,.int .i64 13,.str [116]]]),.full 8 [.agg [.int .i64 13,.int .i64 0,.int .i64 1,.int .i64 1,.int .i64 13,.int .i64 1,.int .i64 13,.str [116]]]]=some (.d (.bool true)):=by kernel_rfl
theorem UY:oZ Try.prog gl lM 300 30 7 [.d (.sl .ro 8 [qN]),.full 8 [qN]]=some (.d (.bool true)):=by kernel_rfl
noncomputable def Ho:SV:=(oZ Try.prog gl lM 300 30 11 []).getD .undef
theorem V5:oZ Try.prog gl lM 300 30 11 []=some Ho:=by kernel_rfl
theorem V6:rq Ho=false:=by kernel_rfl
theorem V7:oZ Try.prog gl lM 300 30 13 [aa (aa Ho)]=some (.d (.sl .nil 0 [])):=by kernel_rfl
end Go.Proofs.Ytaknajjmldngiaa.Ab
namespace Go.Proofs.Ytaknajjmldngiaa.Ab
open Go Go.RowKit
set_option linter.unusedVariables false
set_option maxRecDepth 4000
theorem Qj{P:Program}{gl:Nat→Option D}{f:FuncId}{sz:Nat}{L:List D}{r:SV}(h:aD P gl f [.d (.sl .ro sz L)] r):aD P gl f [.full sz L] r:=by
 obtain⟨hE,h⟩:=h
 refine⟨hE,fun w St vs k0 hg hl eu=>h w St vs k0 hg (by simpa using hl) fun i x v hx hv=>?_⟩
 cases i with
 |succ i=>simp at hx
 |zero=>
  simp at hx;subst hx
  have:=eu 0 _ v rfl hv
  cases this with
  |full _ _ _ ad hd=>exact .d _ _ _ hd
def vR(k:Int):dP:=⟨k,0,1,13,[116],[],[]⟩
def zX:cQ:=⟨[97],0,[vR 2]⟩
def zY:cQ:=⟨[98],0,[vR 3]⟩
noncomputable def EX:List D:=((jB Try.prog 54).getD []).drop 9
theorem Ra:EX.length=46:=by kernel_rfl
noncomputable def xL(k:Int):D:=.agg (vM (vR k) (.str []) (.str []) (.sl .nil 0 []) (.sl .nil 0 []) EX)
noncomputable def sM:D:=.agg [.str [97],.int .i64 0,.sl .ro 55 [xL 2]]
noncomputable def sN:D:=.agg [.str [98],.int .i64 0,.sl .ro 55 [xL 3]]
theorem XB:ag true 3 0 (ee 1)=some (.d sM):=by kernel_rfl
theorem XC:ag true 3 0 (ee 2)=some (.d sN):=by kernel_rfl
theorem XD:ag true 2 0 (ee 0)=some (.d (.agg [.int .i64 1,.int .i64 13])):=by kernel_rfl
theorem Lw(k:Int)(h:(bh (vR k)).length ≤2^40):wU [vR k] [xL k]:=by
 refine⟨rfl,fun i s hs=>?_⟩
 cases i with
 |succ i=>simp at hs
 |zero=>
  simp at hs;subst hs
  exact⟨xL k,rfl,.mk _ _ _ _ EX Ra (.nil 0 rfl) (.nil 0 rfl),by simp[vR],by simp[vR],h⟩
theorem V8:pb zX sM:=.mk _ [xL 2] .ro (Lw 2 (by decide))
theorem V9:pb zY sN:=.mk _ [xL 3] .ro (Lw 3 (by decide))
theorem UZ:n7 zX:=⟨by decide,by decide,by decide⟩
theorem U0:n7 zY:=⟨by decide,by decide,by decide⟩
theorem U1:wW [zX,zY] [sM,sN]:=by
 refine⟨rfl,fun i m hm=>?_⟩
 rcases i with _|_|i
 ·simp at hm;subst hm;exact⟨sM,rfl,V8,UZ⟩
 ·simp at hm;subst hm;exact⟨sN,rfl,V9,U0⟩
 ·simp at hm
theorem L7:ft [zX,zY]=[.agg [.int .i64 13,.int .i64 0,.int .i64 1,.int .i64 1,.int .i64 13,.int .i64 1,.int .i64 13,.str [116]]]:=by kernel_rfl
theorem Wa:aD Try.prog gl 8 [.full 3 [sM,sN]] (.own 8 [.agg [.int .i64 13,.int .i64 0,.int .i64 1,.int .i64 1,.int .i64 13,.int .i64 1,.int .i64 13,.str [116]]]):=by
 have:=xM (l:=[zX,zY]) (x:=.d (.sl .ro 3 [sM,sN])) .ro U1 (by decide) (by rw[L7];decide)
 rw[L7]at this
 exact Qj this
theorem Sd(z:D):bL z [(0,sM),(1,sN)] 2 0=[sM,sN]:=rfl
theorem U2:bO 3 2 [(0,sM),(1,sN)]=true:=by kernel_rfl
theorem Se:bY Try.prog 35 [(0,.int .i64 13),(2,.int .i64 1),(3,.agg [.int .i64 1,.int .i64 13]),(4,.agg [.int .i64 1,.int .i64 13]),(5,.str [116])]=some (.agg [.int .i64 13,.int .i64 0,.int .i64 1,.int .i64 1,.int .i64 13,.int .i64 1,.int .i64 13,.str [116]]):=by kernel_rfl
theorem Sf:bY Try.prog 35 [(0,.int .i64 16),(2,.int .i64 1)]=some qN:=by kernel_rfl
theorem Wb(a b c d e f g h:D):bO 8 1 [(0,.agg [a,b,c,d,e,f,g,h])]=true:=rfl
theorem U3:bO 8 1 [(0,qN)]=true:=rfl
theorem Kp:bG (.d (.sl .nil 0 []))=some (.d (.int .i64 0)):=rfl
noncomputable def zf:Array Oper:=Ms ((dc c9).getD 9 .skip)
noncomputable def o9(i:Nat):Oper:=zf.toList.getD i Oa
theorem U4:dc c9=(dc c9).take 8++(dc c9).getD 8 .skip ::.region 9 zf false::(dc c9).drop 10:=by kernel_rfl
theorem Zn:b9 h6.gh ((dc c9).getD 8 .skip)=[28,29,7]:=by kernel_rfl
theorem Ty(i:Nat)(s:Slot)(h:ug[i]? =some s):s=.v .undef ∨E8.ai[i]? =some s:=by
 by_cases h5:i<5
 ·rcases i with _|_|_|_|_|i
  ·cases h;exact .inl rfl
  ·cases h;exact .inr VZ
  ·cases h;exact .inr V0
  ·cases h;exact .inr V1
  ·cases h;exact .inr V2
  ·omega
 ·left
  unfold ug at h
  rw[List.getElem?_append_right (by simp;omega)]at h
  exact(List.mem_replicate.1 (List.mem_of_getElem? h)).2
theorem Wc:∃fd,jX Try.prog 70 10=some fd∧ck Try.prog fd.type=some 1∧fd.offset=10:=by
 cases h:jX Try.prog 70 10 with
 |none=>exact absurd (show(jX Try.prog 70 10).isSome =true by kernel_rfl) (by rw[h];simp)
 |some fd=>
  have h1:((jX Try.prog 70 10).map fun fd=>(ck Try.prog fd.type,fd.offset))=some (some 1,10):=by kernel_rfl
  rw[h]at h1
  simp at h1
  exact⟨fd,rfl,h1.1,h1.2⟩
theorem XE:∃fd,jX Try.prog 73 6=some fd∧ck Try.prog fd.type=some 1∧fd.offset=12:=by
 cases h:jX Try.prog 73 6 with
 |none=>exact absurd (show(jX Try.prog 73 6).isSome =true by kernel_rfl) (by rw[h];simp)
 |some fd=>
  have h1:((jX Try.prog 73 6).map fun fd=>(ck Try.prog fd.type,fd.offset))=some (some 1,12):=by kernel_rfl
  rw[h]at h1
  simp at h1
  exact⟨fd,rfl,h1.1,h1.2⟩
theorem Wd:ik Try.prog gl (aD Try.prog gl) h6 ((dc c9).drop 10) (tE Try.prog Try.f6 (fun x=>x=.d (.bool true))) ⟨ug.set 7 (.v (.own 8 [qN])),[.cells (ee 0),.cells (ee 1),.cells (ee 2),.cells (((ee 3).set 10 (.bj 13 (L8.set 1 x9))).set 10 (.d (.sl .ro 13 (L8.set 1 x9)))),.cells (ee 4),.cells (ee 5)]⟩:=by
 rw[Xz]
 have Zo:ag true 17 0 (((ee 3).set 10 (.bj 13 (L8.set 1 x9))).set 10 (.d (.sl .ro 13 (L8.set 1 x9))))=some (.d (.agg Oe)):=by kernel_rfl
 simp only[XB,XC,XD,Zo,qU,U2,Sd,sS,sT,sZ]
 refine fQ Wa rfl ?_
 simp only[uu,Se,dZ,Wb,eg,sS,sT,sZ]
 refine fQ (sP bH lM 300 30 7 _ _ UX) rfl ?_
 simp only[qU,Sf,dZ,U3,eg,sS,sT,sZ]
 refine And.intro (fun _=>?_) (fun h=>absurd h (by simp))
 refine fQ (sP bH lM 300 30 7 _ _ UY) rfl ?_
 simp only[sS,sT,sZ]
 refine And.intro (fun _=>?_) (fun h=>absurd h (by simp))
 refine fQ (sP bH lM 300 30 12 _ _ UW) rfl ?_
 simp only[Kp,fa,sS,sT,sZ]
 refine And.intro (fun _=>?_) (fun h=>absurd h (by simp))
 refine fQ (sP bH lM 300 30 11 _ _ V5) V6 ?_
 refine fQ (sP bH lM 300 30 13 _ _ V7) rfl ?_
 simp only[Kp,fa,sS,sT,sZ]
 rfl
theorem XF{w0:World}{S:S0}{a:Act}{w:World}{g:Gh}(eQ:Inv gl w0 S ⟨ug.set 7 (.v (.own 8 [qN])),[.cells (ee 0),.cells (ee 1),.cells (ee 2),.cells (ee 3),.cells (ee 4),.cells (ee 5)]⟩ a w g){Q:Exit→Act→World→Prop}
  (hQ:∀a' w' g',Inv gl w0 S ⟨ug.set 7 (.v (.own 8 [qN])),[.cells (ee 0),.cells (ee 1),.cells (ee 2),.cells ((ee 3).set 10 (.bj 13 (L8.set 1 x9))),.cells (ee 4),.cells (ee 5)]⟩ a' w' g'→Q .normal a' w'):(Code.region 9 zf false).wpIn Fence.wide 0 Try.prog Q a w:=by
 obtain⟨fd,q0,q1,q2⟩:=Wc
 obtain⟨mV,r0,r1,r2⟩:=XE
 refine Pq eQ (ops:=zf) (by kernel_rfl) (o0:=o9 0) (o1:=o9 1) (o2:=o9 2) (o3:=o9 3) (o4:=o9 4) (by kernel_rfl) (by kernel_rfl) (by kernel_rfl) (by kernel_rfl) (by kernel_rfl) (by kernel_rfl) (by kernel_rfl) (by kernel_rfl) (by kernel_rfl) (by kernel_rfl)
  (p:=4) (t0:=30) (t1:=31) (t2:=32) (t3:=33) (by kernel_rfl) (by kernel_rfl) (by kernel_rfl) (by kernel_rfl) (by kernel_rfl) (T:=70) (ST:=62) (ET:=73) (FT:=3) (f:=10) (fi:=6) (ix:=1) (v:=.int .i64 (-1)) (by kernel_rfl) (by kernel_rfl) (by kernel_rfl) (by kernel_rfl) (by kernel_rfl)
  q0 q1 (by decide) (by kernel_rfl) (by kernel_rfl) (sz:=13) (by kernel_rfl) r0 r1 (by decide) (by kernel_rfl) rfl rfl (b:=3) (j:=10) (cs:=ee 3) (L:=L8) (x:=x8) (x':=x9) (d:=.int .i64 (-1)) rfl rfl q2 L6 XA (fun w St=>.int _ _ (by decide)) rfl (by rw[r2];rfl) (by rw[r2];decide) rfl rfl rfl rfl ⟨by decide,by decide⟩ hQ
theorem Ag:aD Try.prog gl 6 [] (.d (.bool true)):=by
 refine⟨cM (fn:=Try.f6) (by kernel_rfl) (by kernel_rfl) (by kernel_rfl),fun w St vs k0 mR hlen eu=>(callsIn_wide (n:=0)).1 (callsIn_of_wp (fn:=Try.f6) (c:=c9) rfl rfl trivial ?_)⟩
 have hI:=As (fn:=Try.f6) k0 mR hlen eu
 refine Ar c9 _ w ?_
 rw[U4]
 refine Dj _ _ _ _ ?_
 refine xR (r:=none) (n:=0) (ds:=[]) (hh:=h6) bH ((dc c9).take 8) hI (IV _ _ E8 (fun x e=>x=.normal ∧e=E8) US ⟨rfl,rfl⟩) ?_
 rintro x e a1 w1 g1 bC ⟨rfl,rfl⟩
 rw[mF bC.defers]
 have cN:=bC.drop (ai:=E8.ai) (ak:=E8.boxes) (sh:=ug) (by rw[UU];rfl) (fun i s hs=>(Ty i s hs).imp id fun h=>⟨s,h,.inl rfl⟩)
 rw[UT]at cN
 obtain⟨aj,_,b6⟩:=(cN.ai 4 (.p 3 0) rfl).jq
 obtain⟨gB,cR,_,hB⟩:=cN.Mo (b:=3) (j:=10) rfl b6 L6
 show Code.wpIn Fence.wide 0 Try.prog ((dc c9).getD 8 .skip) _ a1 w1
 refine P7 (hh:=h6) bH cN hB cR (b:=3) (t:=4) (cs:=(ee 3).set 10 (.d (.sl .ro 13 L8))) (ds:=zW) rfl rfl rfl (by rw[cR];exact b6) V3 (d:=7) (sz:=8) (M:=[qN]) ?_ (by show 7<ug.length;decide) ?_ ?_ ?_
 ·intro x hx k hk
  rw[List.mem_singleton.1 hx]at hk
  simp only[qN,D.cells,List.mem_cons,List.not_mem_nil,or_false]at hk
  rcases hk with rfl|rfl|rfl|rfl|rfl|rfl|rfl|rfl<;>rfl
 ·intro t ht Zp s hs
  rw[Zn]at ht
  simp only[List.mem_cons,List.not_mem_nil,or_false]at ht
  rcases ht with rfl|rfl|rfl
  ·cases hs;rfl
  ·cases hs;rfl
  ·exact absurd rfl Zp
 ·show aw Try.prog gl _ h6 _ _ ⟨(List.replicate 61 (.v .undef)).set 4 (.v (.aE (.agg zW) 0)),[]⟩
  rw[Zm]
  simp only[DV _ 17 Tx,sS,sT,sZ]
  refine fQ (sP bH lM 300 30 12 _ _ V4) rfl ?_
  first|exact⟨rfl,rfl⟩|rfl
 intro a2 w2 g2 eQ
 show Code.wpIn Fence.wide 0 Try.prog (.region 9 zf false) _ a2 w2
 refine XF eQ ?_
 intro a3 w3 g3 tZ
 obtain⟨g8,_,BG⟩:=(tZ.ai 4 (.p 3 0) rfl).jq
 have xn:((ee 3).set 10 (.bj 13 (L8.set 1 x9)))[10]? =some (.bj 13 (L8.set 1 x9)):=by kernel_rfl
 obtain⟨g4,_,_,sr⟩:=tZ.Mo (b:=3) (j:=10) rfl BG xn
 show nA Fence.wide 0 Try.prog ((dc c9).drop 10) _ a3 w3
 have Zq:=mF sr.defers
 rw[←Zq]
 refine xR (r:=none) (n:=0) (ds:=[]) (hh:=h6) bH ((dc c9).drop 10) sr Wd ?_
 intro x e' a' W' g' bd hx
 rw[mF bd.defers]
 have fin:∀x:Ex,(x=.normal ∨x=.ret)→finish Try.prog Try.f6 e' (fun x=>x=.d (.bool true))→bodyPost Try.prog Try.f6 (fun e w'=>∃v,e=.returned v∧Below w.heap.size w w'∧∃bA ow,(∀b o,St b o→bA b o)∧(∀b o,bA b o→St b o∨(w.heap.size≤b∧b<w'.heap.size))∧qc w.heap.size w' bA ow (.d (.bool true)) v) x.to a' W':=by
  intro x hx nX
  obtain⟨r',v,jw,aU,aQ⟩:=Dh bd nX
  subst jw
  have h:=(⟨bd.defers,v,aU,v,rfl,bd.below,g'.St,_,bd.eZ,fun b o h=>(bd.bT b o h).1.imp (fun h=>h) fun h1=>⟨h1,(bd.bT b o h).2.2⟩,aQ⟩:
   a'.defers=[]∧∃v,(results Try.f6 a'.tmps).run Try.prog W'=.ok v W'∧(∃v',(Ending.returned v)=.returned v'∧Below w.heap.size w W'∧∃bA ow,(∀b o,St b o→bA b o)∧(∀b o,bA b o→St b o∨(w.heap.size≤b∧b<W'.heap.size))∧qc w.heap.size W' bA ow (.d (.bool true)) v'))
  rcases hx with rfl|rfl<;>exact h
 cases x with
 |normal=>exact fin .normal (.inl rfl) hx
 |ret=>exact fin .ret (.inr rfl) hx
 |exit i=>exact hx.elim
end Go.Proofs.Ytaknajjmldngiaa.Ab
set_option maxRecDepth 100000
namespace Go.Proofs.Ytaknajjmldngiaa.Ab
open Go
def nG:Hints:=⟨[(9,0),(9,3),(9,4),(17,0),(17,3),(17,4),(18,0),(18,1)],[(14,[3,5,6,7],[1,4,10,12,15,20,25,29,31,32,33,36,39,40,47,56,60]),(2000004,[3,5,28],[1,4,10,12,15,29,31,32,33,36,39,40,47,56,60]),(1000005,[3,5],[1,4,10,12,15,20,25,33,36,39,40,47,56,60]),(1000007,[3,5],[1,4,10,12,15,20,25,29,31,32,33,40,47,56,60]),(2000008,[3,5,51],[1,4,10,12,15,20,25,29,31,32,33,36,39,56,60]),(1000009,[3,5],[1,4,10,12,15,20,25,29,31,32,33,36,39,40,47,56,60]),(1000012,[3,5,6],[1,4,10,12,15,20,25,29,31,32,33,36,39,40,47,56]),(2000014,[3,5,6,7,78],[1,4,10,12,15,20,25,29,31,32,33,36,39,40,47,56,60])],[]⟩
noncomputable def lq:Code:=Go.Proofs.Try.f70.body.getD .skip
def MC(a b:SV):List Slot:=[.v .undef,.p 0 0,.v .undef,.v a,.p 1 0,.v b,.v .undef,.v .undef,.v .undef,.v .undef,.p 0 4,.v .undef,.p 0 2,.v .undef,.v .undef,.p 0 0]++List.replicate 75 (.v .undef)
def L9(a b:SV):List Slot:=[.v .undef,.p 0 0,.v .undef,.v a,.p 1 0,.v b,.v .undef,.v .undef,.v .undef,.v .undef,.p 0 4,.v .undef,.p 0 2,.v .undef,.v .undef,.p 0 0]++(List.replicate 17 (.v .undef)++.p 1 0::List.replicate 57 (.v .undef))
set_option maxHeartbeats 1000000 in
theorem We(C:bu)(x0:SV)(Q:Ex→Env→Prop):ik Go.Proofs.Try.prog gl C nG ((dc lq).take 6) Q (enter 91 [x0])=(
 ab (aA (aa x0)) fun r0=>
 (List.length r0)=55∧
 ab (ag true 55 0 r0) fun r1=>
 aP C 74 [(aa (aa (aa r1)))] fun r2=>
 ab (ag false 1 4 r0) fun r3=>
 ab (ag true 2 2 r0) fun r4=>
 ab (aW [(0,(.v (aa r2))),(1,(.v (aa (aa r3)))),(4,(.v (aa (aa r4))))]) fun r5=>
 ab (bY Proofs.Try.prog 79 r5) fun r6=>
 ab (aA (.d r6)) fun r7=>
 (List.length r7)=6∧
 6≤6∧
 ab (ag false 1 0 r0) fun r8=>
 ab (ah (some (false,[.int])) .eql (aa (aa r8)) (.d (.int .i64 19))) fun r9=>
 oQ (fun Hp=>
  ao (aa (aa (aa r9)))
   (ab (ag false 1 1 r0) fun cr=>
   ab (ah none .geq (aa (aa cr)) (.d (.int .i64 1))) fun bQ=>
   ao (aa (aa bQ))
    (ab (ag false 1 1 r0) fun cH=>
    ab (ah none .leq (aa (aa cH)) (.d (.int .i64 8))) fun cL=>
    (Hp [(.d (.sl .nil 0 [])),(aa r9),(aa cL)] [(af.ay (af.cells r0)),(af.ay (af.cells (setAt [(.d (.int .i64 0)),(.d (.str [])),(.d (.bool false)),(.d (.sl .nil 0 [])),(.d (.int .i64 0)),(.d (.int .i64 0))] 0 r7)))]))
    ((Hp [(.d (.sl .nil 0 [])),(aa r9),(.d (.bool false))] [(af.ay (af.cells r0)),(af.ay (af.cells (setAt [(.d (.int .i64 0)),(.d (.str [])),(.d (.bool false)),(.d (.sl .nil 0 [])),(.d (.int .i64 0)),(.d (.int .i64 0))] 0 r7)))])))
   ((Hp [(.d (.sl .nil 0 [])),(aa r9),(.d (.bool false))] [(af.ay (af.cells r0)),(af.ay (af.cells (setAt [(.d (.int .i64 0)),(.d (.str [])),(.d (.bool false)),(.d (.sl .nil 0 [])),(.d (.int .i64 0)),(.d (.int .i64 0))] 0 r7)))]))) (fun zg rS=>
  oQ (fun xG=>
   ao (ae zg 2)
    (ab (ag false 1 1 (aq rS 0)) fun dX=>
    ab (aA (aa (aa dX))) fun dm=>
    (List.length dm)=1∧
    1≤(List.length (aq rS 1))∧
    ab (aA (.d (.bool true))) fun dK=>
    (List.length dK)=1∧
    3≤(List.length (setAt (aq rS 1) 0 dm))∧
    (xG [(ae zg 0),(ae zg 1)] [(af.ay (af.cells (aq rS 0))),(af.ay (af.cells (setAt (setAt (aq rS 1) 0 dm) 2 dK)))]))
    ((xG [(ae zg 0),(ae zg 1)] [(af.ay (af.again (aq rS 0) (af.cells r0))),(af.ay (af.again (aq rS 1) (af.cells (setAt [(.d (.int .i64 0)),(.d (.str [])),(.d (.bool false)),(.d (.sl .nil 0 [])),(.d (.int .i64 0)),(.d (.int .i64 0))] 0 r7))))]))) (fun hY fJ=>
   (Q Ex.normal (Env.mk ([(.v .undef),(.p (0+0) 0),(.v .undef),(.v (ae hY 0)),(.p ((List.length [(af.cells r0)])+0) 0),(.v (ae hY 1)),(.v .undef),(.v .undef),(.v .undef),(.v .undef),(.p (0+0) 4),(.v .undef),(.p (0+0) 2),(.v .undef),(.v .undef),(.p (0+0) 0)]++List.replicate 75 (.v .undef)) [(af.again (aq fJ 0) (af.again (aq rS 0) (af.cells r0))),(af.again (aq fJ 1) (af.again (aq rS 1) (af.cells (setAt [(.d (.int .i64 0)),(.d (.str [])),(.d (.bool false)),(.d (.sl .nil 0 [])),(.d (.int .i64 0)),(.d (.int .i64 0))] 0 r7))))]))))):=by kernel_rfl
set_option maxHeartbeats 1000000 in
theorem Wg(C:bu)(a b:SV)(oA pL:List SV)(Q:Ex→Env→Prop):ik Go.Proofs.Try.prog gl C nG (((dc lq).drop 6).take 4) Q ⟨MC a b,[.cells oA,.cells pL]⟩=(
 ab (ag false 1 0 pL) fun r0=>
 ab (ah (some (false,[.int])) .eql (aa (aa r0)) (.d (.int .i64 1))) fun r1=>
 oQ (fun J4=>
  ao r1
   (ab (ag false 1 7 oA) fun r5=>
   aP C 65 [(.d (.sl .nil 0 [])),(aa (aa (aa r5)))] fun r6=>
   ab (aA (aa r6)) fun r7=>
   (List.length r7)=1∧
   4≤(List.length pL)∧
   (J4 [a,b] [(af.ay (af.cells oA)),(af.ay (af.cells (setAt pL 3 r7)))]))
   ((J4 [a,b] [(af.ay (af.cells oA)),(af.ay (af.cells pL))]))) (fun pM ml=>
  oQ (fun Hq=>
   ab (ag false 1 0 (aq ml 1)) fun cG=>
   ab (ah (some (false,[.int])) .neq (aa (aa cG)) (.d (.int .i64 0))) fun cj=>
   ao (aa cj)
    (ab (cw .not (aa (aa (ae pM 1)))) fun cr=>
    ao (aa cr)
     ((Hq [(ae pM 0),(ae pM 1),(.d (.bool true))] [(af.ay (af.cells (aq ml 0))),(af.ay (af.cells (aq ml 1)))]))
     (ab (ag false 1 0 (aq ml 1)) fun bQ=>
     ab (ah (some (false,[.int])) .eql (aa (aa bQ)) (.d (.int .i64 1))) fun cH=>
     (Hq [(ae pM 0),(ae pM 1),(aa (aa cH))] [(af.ay (af.cells (aq ml 0))),(af.ay (af.cells (aq ml 1)))])))
    ((Hq [(ae pM 0),(ae pM 1),(.d (.bool false))] [(af.ay (af.cells (aq ml 0))),(af.ay (af.cells (aq ml 1)))]))) (fun dD iN=>
   oQ (fun Of=>
    ao (ae dD 2)
     (ab (ag true 6 0 (aq iN 1)) fun ed=>
     ab (aW [(0,(.v (aa (aa ed))))]) fun dX=>
     (bO 6 1 dX)=true∧
     bW 6 72 (ae dD 0) (.full 6 (bL (bN true [(.int .i64 0),(.str []),(.bool false),(.sl .nil 0 []),(.int .i64 0),(.int .i64 0)]) dX 1 0)) fun dm=>
     (Of [dm,(ae dD 1)] [(af.ay (af.cells (aq iN 0))),(af.ay (af.cells (aq iN 1)))]))
     ((Of [(ae dD 0),(ae dD 1)] [(af.ay (af.again (aq iN 0) (af.again (aq ml 0) (af.cells oA)))),(af.ay (af.again (aq iN 1) (af.again (aq ml 1) (af.cells pL))))]))) (fun MD ME=>
    (Q Ex.normal (Env.mk ([(.v .undef),(.p 0 0),(.v .undef),(.v (ae MD 0)),(.p 1 0),(.v (ae MD 1)),(.v .undef),(.v .undef),(.v .undef),(.v .undef),(.p 0 4),(.v .undef),(.p 0 2),(.v .undef),(.v .undef),(.p 0 0),(.v .undef),(.v .undef),(.v .undef),(.v .undef),(.v .undef),(.v .undef),(.v .undef),(.v .undef),(.v .undef),(.v .undef),(.v .undef),(.v .undef),(.v .undef),(.v .undef),(.v .undef),(.v .undef),(.v .undef),(.p 1 0)]++List.replicate 57 (.v .undef)) [(af.again (aq ME 0) (af.again (aq iN 0) (af.again (aq ml 0) (af.cells oA)))),(af.again (aq ME 1) (af.again (aq iN 1) (af.again (aq ml 1) (af.cells pL))))])))))):=by kernel_rfl
set_option maxHeartbeats 1000000 in
theorem Wh(C:bu)(a b:SV)(oA pL:List SV)(K:SV→Prop):ik Go.Proofs.Try.prog gl C nG ((dc lq).drop 10) (tE Go.Proofs.Try.prog Go.Proofs.Try.f70 K) ⟨L9 a b,[.cells oA,.cells pL]⟩=(
 ab (ag false 1 7 oA) fun r0=>
 ab (cw .not (aa (aa b))) fun r1=>
 oQ (fun J4=>
  ao r1
   (ab (ag false 1 8 oA) fun r5=>
   (J4 [a,b,(aa (aa r5))] [(af.ay (af.cells oA)),(af.ay (af.cells pL))]))
   ((J4 [a,b,(aa (aa r0))] [(af.ay (af.cells oA)),(af.ay (af.cells pL))]))) (fun pM ml=>
  cm (fun cW oq I8=>
   oQ (fun Cy=>
    ab (bG (aa (aa (ae cW 2)))) fun cj=>
    ab (ah none .lss (aa (aa (ae cW 3))) (aa cj)) fun cr=>
    ao (aa cr)
     (ao (aa (aa (ae cW 1)))
       (ab (ag false 1 0 (aq oq 1)) fun bQ=>
       ab (ah none .gtr (aa (aa bQ)) (.d (.int .i64 1))) fun cH=>
       ao (aa (aa cH))
        ((Cy [(ae cW 0),(ae cW 1),(ae cW 2),(ae cW 3),(.d (.bool true))] [(af.ay (af.cells (aq oq 0))),(af.ay (af.cells (aq oq 1)))]))
        (ab (ag false 1 0 (aq oq 0)) fun cL=>
        ab (ah (some (false,[.int])) .eql (aa (aa cL)) (.d (.int .i64 2))) fun du=>
        (Cy [(ae cW 0),(ae cW 1),(ae cW 2),(ae cW 3),(aa (aa du))] [(af.ay (af.cells (aq oq 0))),(af.ay (af.cells (aq oq 1)))])))
       (ab (ag false 1 0 (aq oq 0)) fun dF=>
       ab (ah (some (false,[.int])) .eql (aa (aa dF)) (.d (.int .i64 2))) fun ed=>
       (Cy [(ae cW 0),(ae cW 1),(ae cW 2),(ae cW 3),(aa (aa ed))] [(af.ay (af.cells (aq oq 0))),(af.ay (af.cells (aq oq 1)))])))
     ((Cy [(ae cW 0),(ae cW 1),(ae cW 2),(ae cW 3),(.d (.bool false))] [(af.ay (af.cells (aq oq 0))),(af.ay (af.cells (aq oq 1)))]))) (fun dL mO=>
    ao (ae dL 4)
     (ab (aR 1 (aa (aa (ae dL 2))) (aa (aa (ae dL 3)))) fun dX=>
     ab (aF false 1 (aa dX)) fun dm=>
     ab (aA (aa dm)) fun dK=>
     (List.length dK)=1∧
     2≤(List.length (aq mO 1))∧
     ab (ag true 6 0 (setAt (aq mO 1) 1 dK)) fun eR=>
     ab (aW [(0,(.v (aa (aa eR))))]) fun eL=>
     (bO 6 1 eL)=true∧
     bW 6 72 (ae dL 0) (.full 6 (bL (bN true [(.int .i64 0),(.str []),(.bool false),(.sl .nil 0 []),(.int .i64 0),(.int .i64 0)]) eL 1 0)) fun dY=>
     ab (ah none .add (aa (aa (ae dL 3))) (.d (.int .i64 1))) fun ek=>
     (I8 [dY,(ae dL 1),(ae dL 2),(aa ek)] [(af.ay (af.cells (aq mO 0))),(af.ay (af.cells (setAt (aq mO 1) 1 dK)))]))
     ((SV.au (ae dL 0))=true∧
     (K (ae dL 0)))))
  [(ae pM 0),(ae pM 1),(ae pM 2),(.d (.int .i64 0))] [(af.ay (af.cells (aq ml 0))),(af.ay (af.cells (aq ml 1)))])):=by kernel_rfl
end Go.Proofs.Ytaknajjmldngiaa.Ab
namespace Go.Proofs.Ytaknajjmldngiaa.Ab
open Go
set_option linter.unusedVariables false
set_option maxRecDepth 4000
section
variable{P:Program}{gl:Nat→Option D}{C:bu}{h:Hints}
def nx(P:Program)(gl:Nat→Option D)(C:bu)(h:Hints)(m:List Code)(Q:Ex→Env→Prop)(x:Ex)(e:Env):Prop:=match x with| .normal =>ik P gl C h m Q e| .exit i=>Q (.exit i) e| .ret =>Q .ret e
theorem AW:∀(l m:List Code)(Q:Ex→Env→Prop)(e:Env),ik P gl C h (l++m) Q e=ik P gl C h l (nx P gl C h m Q) e
 |[],m,Q,e=>rfl
 |c::l,m,Q,e=>by
  show aw P gl C h c _ e=aw P gl C h c _ e
  congr 1
  funext x e'
  cases x with
  |normal=>exact AW l m Q e'
  |exit i=>rfl
  |ret=>rfl
theorem nN(c:Code)(Q:Ex→Env→Prop)(e:Env):aw P gl C h c Q e=ik P gl C h [c] Q e:=by
 show aw P gl C h c _ e=aw P gl C h c _ e
 congr 1
 funext x e'
 cases x<;>rfl
theorem Em:∀(c:Code)(Q:Ex→Env→Prop)(e:Env),aw P gl C h c Q e=ik P gl C h (dc c) Q e
 | .seq a b,Q,e=>by
   show aw P gl C h a _ e=ik P gl C h (dc a++dc b) Q e
   rw[AW,←Em a]
   congr 1
   funext x e'
   cases x with
   |normal=>exact Em b Q e'
   |exit i=>rfl
   |ret=>rfl
 | .skip,Q,e=>nN _ _ _
 | .region ..,Q,e=>nN _ _ _
 | .cond ..,Q,e=>nN _ _ _
 | .block ..,Q,e=>nN _ _ _
 | .loop ..,Q,e=>nN _ _ _
 | .exit _,Q,e=>nN _ _ _
 | .ret,Q,e=>nN _ _ _
 | .goto _,Q,e=>nN _ _ _
 | .label _,Q,e=>nN _ _ _
 | .scope _,Q,e=>nN _ _ _
 | .rangeFunc ..,Q,e=>nN _ _ _
 | .refuse _,Q,e=>nN _ _ _
end
theorem XG:Try.prog.funcs[70]? =some Try.f70:=by kernel_rfl
theorem XH:Try.f70.body=some lq:=by kernel_rfl
theorem U5(C:bu)(x0:SV)(K:SV→Prop):body Try.prog gl C nG 70 [x0] K=cV [x0] (ik Try.prog gl C nG ((dc lq).take 6) (nx Try.prog gl C nG (((dc lq).drop 6).take 4) (nx Try.prog gl C nG ((dc lq).drop 10) (tE Try.prog Try.f70 K))) (enter 91 [x0])):=by
 unfold body
 rw[XG]
 simp only[]
 rw[XH]
 simp only[]
 show cV [x0] (aw Try.prog gl C nG lq (tE Try.prog Try.f70 K) (enter 91 [x0]))=_
 rw[Em,←AW,←AW,List.append_assoc]
 have:(dc lq).take 6++(((dc lq).drop 6).take 4++(dc lq).drop 10)=dc lq:=by
  have h1:(dc lq).drop 10=((dc lq).drop 6).drop 4:=by rw[List.drop_drop]
  rw[h1,List.take_append_drop,List.take_append_drop]
 rw[this]
end Go.Proofs.Ytaknajjmldngiaa.Ab
namespace Go.Proofs.Ytaknajjmldngiaa.Ab
open Go
theorem Wi:cZ Try.prog 9=some false:=by kernel_rfl
theorem U6:cZ Try.prog 45=some true:=by kernel_rfl
theorem Tz:Try.prog.cellsOf 9=1:=by kernel_rfl
theorem TA:Try.prog.cellsOf 45=10:=by kernel_rfl
theorem oM{xs:List D}(h:Is Try.prog 9 xs):∃s,xs=[.str s]:=by
 obtain⟨s,rfl,_⟩:=h.qX Try.underlying9
 exact⟨s,rfl⟩
theorem AX{xs:List D}(h:Is Try.prog 4 xs):∃b,xs=[.bool b]:=h.pT Try.underlying4
theorem rp{xs:List D}(h:Is Try.prog 3 xs):∃n,xs=[.int .i64 n]:=by
 obtain⟨n,rfl,_⟩:=h.oJ Try.underlying3
 exact⟨n,rfl⟩
theorem yg{xs:List D}(h:Is Try.prog 37 xs):∃(l:List (List UInt8)) (x:D),xs=[x]∧bK 1 (bP l) x:=by
 rcases h.yn Try.underlying37 Wi with rfl|⟨L,rfl,hm,hL⟩
 ·exact⟨[],_,rfl,.nil 0 rfl⟩
 ·obtain⟨l,hl,hn⟩:=AS (b:=false) (f:=D.str) (fun x hx=>by obtain⟨s,rfl⟩:=oM hx;exact⟨s,rfl⟩) L hL
  refine⟨l,_,rfl,?_⟩
  rw[hl,Tz]
  exact .ro
theorem AY{xs:List D}(h:Is Try.prog 40 xs):∃x:BitVec 64,xs=[dW x]:=by
 obtain⟨n,rfl,hn⟩:=h.oJ Try.underlying40
 rw[CU]at hn
 have h0:0≤n:=hn.1
 have h1:n≤18446744073709551615:=hn.2
 obtain⟨m,rfl⟩:=Int.eq_ofNat_of_zero_le h0
 refine⟨BitVec.ofNat 64 m,?_⟩
 have:(BitVec.ofNat 64 m).toNat =m:=by
  rw[BitVec.toNat_ofNat]
  exact Nat.mod_eq_of_lt (by omega)
 rw[dW,this]
theorem U7{xs:List D}(h:Is Try.prog 42 xs):∃w:Nat→BitVec 64,xs=[dW (w 0),dW (w 1),dW (w 2),dW (w 3)]:=by
 obtain⟨parts,rfl,hl,hp⟩:=h.QJ Try.underlying42
 match parts,hl,hp with
 |[a,b,c,d],_,hp=>
  obtain⟨x,rfl⟩:=AY (hp a (by simp))
  obtain⟨y,rfl⟩:=AY (hp b (by simp))
  obtain⟨z,rfl⟩:=AY (hp c (by simp))
  obtain⟨u,rfl⟩:=AY (hp d (by simp))
  exact⟨fun i=>if i=0 then x else if i=1 then y else if i=2 then z else u,rfl⟩
theorem AZ:pZ Try.prog [9,3,4,37,40,42,43,45,33,39,46,134,48,50,52,28,54,22,30]=true:=by kernel_rfl
theorem Rb{t:TypeId}{xs:List D}(h:Is Try.prog t xs):(t=45→∃e:Xp,jy e (.agg xs))∧
  (t=43→∃(l:List Xp) (L:List D) (x:D),xs=[x]∧bK 10 L x∧L.length=l.length∧∀(i:Nat)k y,l[i]? =some k→L[i]? =some y→jy k y):=by
 have hx:45≠43:=by decide
 induction h with
 |struct h parts hl hp ih=>
  refine⟨fun ht=>?_,fun ht=>?_⟩
  ·subst ht
   rw[Try.underlying45]at h
   cases h
   match parts,hl,hp,ih with
   |[a,b,c,d,n,s,k],_,hp,ih=>
    obtain⟨op,rfl⟩:=rp (hp 0 _ _ rfl rfl)
    obtain⟨a',rfl⟩:=rp (hp 1 _ _ rfl rfl)
    obtain⟨rel,rfl⟩:=rp (hp 2 _ _ rfl rfl)
    obtain⟨b',rfl⟩:=rp (hp 3 _ _ rfl rfl)
    obtain⟨names,nm,rfl,hn⟩:=yg (hp 4 _ _ rfl rfl)
    obtain⟨w,rfl⟩:=U7 (hp 5 _ _ rfl rfl)
    obtain⟨l,L,x,rfl,hd,dM,hk⟩:=(ih 6 _ _ rfl rfl).2 rfl
    exact⟨_,.mk op a' rel b' names w l nm x L hn dM hk hd⟩
  ·subst ht
   rw[Try.underlying43]at h
   cases h
 |iT h=>exact⟨fun ht=>(by subst ht;rw[Try.underlying45]at h;cases h),fun ht=>⟨[],[],_,rfl,.nil 0 rfl,rfl,fun i k y h1=>by simp at h1⟩⟩
 |sl h b hb L hm hL ih=>
  refine⟨fun ht=>(by subst ht;rw[Try.underlying45]at h;cases h),fun ht=>?_⟩
  subst ht
  rw[Try.underlying43]at h
  cases h
  rw[U6]at hb
  cases hb
  have key:∀(L:List (List D)),(∀x∈L,∃e:Xp,jy e (.agg x))→∃l:List Xp,(L.map (pack true)).length =l.length∧∀(i:Nat)k y,l[i]? =some k→(L.map (pack true))[i]? =some y→jy k y:=by
   intro L
   induction L with
   |nil=>intro _;exact⟨[],rfl,fun i k y h1=>by simp at h1⟩
   |cons x L Zr=>
    intro h
    obtain⟨e,he⟩:=h x (by simp)
    obtain⟨l,h1,h2⟩:=Zr fun y hy=>h y (by simp[hy])
    refine⟨e::l,by simp at h1 ⊢;exact h1,fun i k y a b=>?_⟩
    cases i with
    |zero=>simp at a b;subst a b;exact he
    |succ i=>exact h2 i k y (by simpa using a) (by simpa using b)
  obtain⟨l,h1,h2⟩:=key L fun x hx=>(ih x hx).1 rfl
  refine⟨l,_,_,rfl,?_,h1,h2⟩
  rw[TA]
  exact .ro
 |bool h=>exact⟨fun ht=>(by subst ht;rw[Try.underlying45]at h;cases h),fun ht=>(by subst ht;rw[Try.underlying43]at h;cases h)⟩
 |int h=>exact⟨fun ht=>(by subst ht;rw[Try.underlying45]at h;cases h),fun ht=>(by subst ht;rw[Try.underlying43]at h;cases h)⟩
 |str h=>exact⟨fun ht=>(by subst ht;rw[Try.underlying45]at h;cases h),fun ht=>(by subst ht;rw[Try.underlying43]at h;cases h)⟩
 |array h=>exact⟨fun ht=>(by subst ht;rw[Try.underlying45]at h;cases h),fun ht=>(by subst ht;rw[Try.underlying43]at h;cases h)⟩
theorem Wj{xs:List D}(h:Is Try.prog 45 xs):∃e:Xp,jy e (pack true xs):=(Rb h).1 rfl
end Go.Proofs.Ytaknajjmldngiaa.Ab
namespace Go.Proofs.Ytaknajjmldngiaa.Ab
open Go
set_option maxRecDepth 4000
theorem mq(cs l:List SV):af.ay (af.again cs (.cells l))=cs:=rfl
theorem Aa(k:Int):aD Try.prog gl 75 [.d (.int .i64 k)] (.d (.int .i64 (fO k))):=by
 refine dz bH (cM (fn:=Try.f75) (by kernel_rfl) (by kernel_rfl) (by kernel_rfl)) (h:=NZ) ?_;rw[Up];intro ct
 simp only[sS,sT,sZ,fa,fO]
 refine And.intro (fun h=>?_) (fun h=>?_)
 ·simp only[h,if_true]
 ·simp only[h,Bool.false_eq_true,if_false]
theorem Rc(l:List (List UInt8)){x:D}(hx:bK 1 (bP l) x)(hl:l.length≤maxLen)(s:List UInt8):aD Try.prog gl 72 [.d x,.d (.str s)] (.d (.bool (j6 s l))):=by
 refine dz bH (cM (fn:=Try.f72) (by kernel_rfl) (by kernel_rfl) (by kernel_rfl)) (h:=NX) ?_;rw[Un];intro ct
 refine oE (fun i=>∀(j:Nat)t,j<i→l[j]? =some t→(t==s)=false) (fun i=>[.d x,.d (.str s),.d (.int .i64 ((i:Nat):Int))]) (fun i=>[]) l.length (fun j t hj=>by omega) (fun i hi hJ I hI=>?_) (fun hJ I=>?_)
 ·simp only[sS,sT,sZ,hx.len,gY]
  refine And.intro (fun _=>?_) (fun h=>absurd h (by simp;omega))
  obtain⟨t,ht⟩:=get_some hi
  simp only[hx.at (uA ht),sS,sT,sZ,oH,tg]
  refine And.intro (fun h=>?_) (fun h=>?_)
  ·rw[Kg ht h]
  ·refine aZ (bg hi hl) ?_
   refine hI fun j t' hj mS=>?_
   rcases Nat.lt_or_ge j i with h2|h2
   ·exact hJ j t' h2 mS
   ·have:j=i:=by omega
    subst this
    rw[ht]at mS
    cases mS
    exact h
 ·simp only[sS,sT,sZ,hx.len,gY]
  refine And.intro (fun h=>absurd h (by simp)) (fun _=>?_)
  rw[JB fun i t ht=>hJ i t (List.getElem?_eq_some_iff.1 ht).1 ht]
def jr(l m:List (List UInt8)):List (List UInt8):=m.foldl jH l
theorem Qk{l m:List (List UInt8)}{i:Nat}{s:List UInt8}(h:m[i]? =some s):jr l (m.take (i+1))=jH (jr l (m.take i)) s:=by
 rw[ez h,jr,List.foldl_append];rfl
theorem Sg(l m:List (List UInt8))(i:Nat):(jr l (m.take i)).length ≤l.length+m.length:=by
 have key:∀(m:List (List UInt8))(l:List (List UInt8)),(jr l m).length ≤l.length+m.length:=by
  intro m
  induction m with
  |nil=>intro l;exact Nat.le_refl _
  |cons s m ih=>
   intro l
   have h1:=ih (jH l s)
   have h2:=JC l s
   rw[show jr l (s::m)=jr (jH l s) m from rfl,List.length_cons]
   omega
 have:=key (m.take i) l
 rw[List.length_take]at this
 omega
theorem Iq{sz bZ:Nat}{M:List D}{x:SV}{k:SV→Prop}(hx:elems sz x=some M)(hb:M.length*bZ≤140737488355328)(hk:k (aO sz M)):bW sz bZ (.d (.sl .nil 0 [])) x k:=by
 have:=iv (sz:=sz) (bZ:=bZ) (L:=[]) (M:=M) (x:=x) (k:=k) hx (by simpa using hb) (by simpa using hk)
 exact this
theorem H6(l m:List (List UInt8)){x y:D}(hx:bK 1 (bP l) x)(hy:bK 1 (bP m) y)(hl:l.length≤2^40)(hm:m.length≤2^40):aD Try.prog gl 65 [.d x,.d y] (aO 1 (bP (jr l m))):=by
 refine dz bH (cM (fn:=Try.f65) (by kernel_rfl) (by kernel_rfl) (by kernel_rfl)) (h:=NV) ?_;rw[Ul];intro ct
 have zR:m.length≤maxLen:=Nat.le_trans hm (by decide)
 simp only[sS,sT,sZ]
 refine Iq (hx.sv.elems.1) (by rw[gY];omega) ?_
 refine eo (fun i=>[.d y,aO 1 (bP (jr l (m.take i))),.d (.int .i64 ((i:Nat):Int))]) (fun i=>[]) m.length (fun i hi I hI=>?_) (fun I=>?_)
 ·simp only[sS,sT,sZ,hy.len,gY]
  refine And.intro (fun _=>?_) (fun h=>absurd h (by simp;omega))
  obtain⟨t,ht⟩:=get_some hi
  have zD:=Sg l m i
  have hd:=Qk (l:=l) ht
  simp only[hy.at (uA ht),sS,sT,sZ,oH,fF]
  refine bR (Rc (jr l (m.take i)) (cn 1 _) (by simp only[maxLen];omega) t) ?_
  simp only[sS,sT,sZ,kP]
  refine And.intro (fun h=>?_) (fun h=>?_)
  ·simp only[sS,sT,sZ,DX,Ln,Kf]
   refine iv (gX 1 _) (by rw[gY];simp only[List.length_singleton];omega) ?_
   refine aZ (bg hi zR) ?_
   rw[JD]
   rw[hd,jH,if_neg (by simpa using h)]at hI
   exact hI
  ·refine aZ (bg hi zR) ?_
   rw[hd,jH,if_pos (by simpa using h)]at hI
   exact hI
 ·simp only[sS,sT,sZ,hy.len,gY]
  refine And.intro (fun h=>absurd h (by simp)) (fun _=>?_)
  simp only[nI,true_and]
  rw[List.take_of_length_le (Nat.le_refl _)]
theorem O6{s:dP}{x:D}(hs:rO s x):aD Try.prog gl 74 [.d x] (.d (.int .i64 (ff s.kind))):=by
 cases hs with
 |mk r5 r6 cP al rest h hl ha=>
  refine dz bH (cM (fn:=Try.f74) (by kernel_rfl) (by kernel_rfl) (by kernel_rfl)) (h:=NY) ?_;rw[Uo];intro ct
  simp only[sS,sT,sZ,fR,fb,h,gf]
  unfold ff
  refine And.intro (fun h=>by rw[if_pos h]) (fun h=>?_)
  rw[if_neg (by rw[h];simp)]
  refine And.intro (fun h=>by rw[if_pos h]) (fun h=>?_)
  rw[if_neg (by rw[h];simp)]
  refine And.intro (fun h=>by rw[if_pos h]) (fun h=>?_)
  rw[if_neg (by rw[h];simp)]
  refine And.intro (fun h=>by rw[if_pos h]) (fun h=>?_)
  rw[if_neg (by rw[h];simp)]
  refine And.intro (fun h=>by rw[if_pos h]) (fun h=>?_)
  rw[if_neg (by rw[h];simp)]
  refine And.intro (fun h=>by rw[if_pos h]) (fun h=>?_)
  rw[if_neg (by rw[h];simp)]
  refine And.intro (fun h=>by rw[if_pos h]) (fun h=>?_)
  rw[if_neg (by rw[h];simp)]
  refine And.intro (fun h=>by rw[if_pos h]) (fun h=>?_)
  rw[if_neg (by rw[h];simp)]
theorem IX(s:ar):aD Try.prog gl 63 [.d s.enc] (.d (.bool (qz s.kind s.name))):=by
 refine dz bH (cM (fn:=Try.f63) (by kernel_rfl) (by kernel_rfl) (by kernel_rfl)) (h:=NU) ?_;rw[Uk];intro ct
 simp only[sS,sT,sZ,ef,eD,fl,fm,qz,tg,fa]
 refine And.intro (fun h=>?_) (fun h=>?_)
 ·simp[h,FV]
 ·simp[h]
end Go.Proofs.Ytaknajjmldngiaa.Ab
namespace Go.Proofs.Ytaknajjmldngiaa.Ab
open Go
set_option maxRecDepth 4000
set_option linter.unusedVariables false
theorem A0(s:ar):bD (.aE s.enc 0) 0=some (.aE s.enc 0):=rfl
theorem A1(s:ar):bD (.aE s.enc 0) 1=some (.aE s.enc 1):=rfl
theorem A2(s:ar):bD (.aE s.enc 0) 2=some (.aE s.enc 2):=rfl
theorem A3(s:ar):bD (.aE s.enc 0) 3=some (.aE s.enc 3):=rfl
theorem A4(s:ar):bD (.aE s.enc 0) 4=some (.aE s.enc 4):=rfl
theorem Bl(s:ar):aF false 1 (.aE s.enc 0)=some (.d (.int .i64 s.kind)):=rfl
theorem Bm(s:ar):aF false 1 (.aE s.enc 1)=some (.d (.str s.name)):=rfl
theorem Bn(s:ar):aF false 1 (.aE s.enc 2)=some (.d (.bool s.bI)):=rfl
theorem Bo(s:ar):aF false 1 (.aE s.enc 3)=some (.d (cq 1 (bP s.perms))):=rfl
theorem Bp(s:ar):aF true 2 (.aE s.enc 4)=some (.d (.agg [.int .i64 s.line,.int .i64 s.b8])):=rfl
def lA(x:ar):Bool→List ar→Int
 |tw,[]=>if tw then 12 else 0
 |tw,y::l=>if fO y.kind != fO x.kind then lA x tw l else if !(y.name==x.name)then lA x tw l else if y.kind != x.kind then 13 else lA x (tw||(!y.bI&& !x.bI)) l
def qg(l:List ar)(x:ar):Int:=lA x (qz x.kind x.name&& !x.bI) l
theorem O7(l:List ar)(x:ar){y:D}(hy:bK 6 (aI l) y)(hl:l.length≤maxLen):aD Try.prog gl 71 [.d y,.d x.enc] (.d (.int .i64 (qg l x))):=by
 refine dz bH (cM (fn:=Try.f71) (by kernel_rfl) (by kernel_rfl) (by kernel_rfl)) (h:=NW) ?_;rw[Um];intro ct
 simp only[sS,sT,sZ,ef,eD,dH,fG,kP,fl,fm]
 have loop:∀tw:Bool,lA x tw l=qg l x→∀{F:List SV→List (List SV)→(List SV→List (List SV)→Prop)→Prop},(∀i tw,i<l.length→lA x tw (l.drop i)=qg l x→∀I:List SV→List (List SV)→Prop,(∀zS,lA x zS (l.drop (i+1))=qg l x→I [.d y,.d (.bool zS),.d (.int .i64 ((i+1:Nat):Int))] [x.cells])→F [.d y,.d (.bool tw),.d (.int .i64 ((i:Nat):Int))] [x.cells] I)→
   (∀tw,lA x tw []=qg l x→∀I,F [.d y,.d (.bool tw),.d (.int .i64 (l.length:Int))] [x.cells] I)→cm F [.d y,.d (.bool tw),.d (.int .i64 0)] [x.cells]:=by
  intro tw Hf F hs he
  exact DW (fun i tw=>lA x tw (l.drop i)=qg l x) (fun i tw=>[.d y,.d (.bool tw),.d (.int .i64 ((i:Nat):Int))]) (fun i _=>[x.cells]) l.length tw Hf (fun i tw hi hJ I hI=>hs i tw hi hJ I hI) (fun tw hJ I=>he tw (by rw[List.drop_length]at hJ;exact hJ) I)
 refine bR (IX x) ?_
 simp only[sS,sT,sZ]
 refine And.intro (fun h1=>?_) (fun h1=>?_)
 ·refine loop _ (by rw[qg,h1,Bool.true_and]) (fun i tw hi hJ I hI=>?_) (fun tw hJ I=>?_)
  ·simp only[sS,sT,sZ,hy.len,eM]
   refine And.intro (fun _=>?_) (fun h=>absurd h (by simp;omega))
   obtain⟨z,hz⟩:=get_some hi
   rw[nM hz,lA]at hJ
   simp only[hy.at (m9 hz),sS,sT,sZ,A0,A1,A2,A3,A4,Bl,Bm,Bn,Bo,Bp,AJ,ef,fl,fm,fG,uz,kP]
   refine bR (Aa _) ?_
   simp only[sS,sT,sZ]
   refine bR (Aa _) ?_
   simp only[sS,sT,sZ]
   refine And.intro (fun ha=>?_) (fun ha=>?_)
   ·rw[if_pos ha]at hJ
    refine aZ (bg hi hl) ?_
    exact hI tw hJ
   ·rw[if_neg (by rw[ha];simp)]at hJ
    refine And.intro (fun hb=>?_) (fun hb=>?_)
    ·rw[if_pos hb]at hJ
     refine aZ (bg hi hl) ?_
     exact hI tw hJ
    ·rw[if_neg (by rw[hb];simp)]at hJ
     refine And.intro (fun hc=>?_) (fun hc=>?_)
     ·rw[if_pos hc]at hJ
      rw[←hJ]
     ·rw[if_neg (by rw[hc];simp)]at hJ
      refine And.intro (fun ht=>?_) (fun ht=>?_)
      ·rw[ht,Bool.true_or]at hJ
       refine aZ (bg hi hl) ?_
       exact hI true hJ
      ·rw[ht,Bool.false_or]at hJ
       refine And.intro (fun hx=>?_) (fun hx=>?_)
       ·rw[hx,Bool.true_and]at hJ
        refine aZ (bg hi hl) ?_
        exact hI _ hJ
       ·rw[hx,Bool.false_and]at hJ
        refine aZ (bg hi hl) ?_
        exact hI false hJ
  ·simp only[sS,sT,sZ,hy.len,eM]
   refine And.intro (fun h=>absurd h (by simp)) (fun _=>?_)
   rw[lA]at hJ
   refine And.intro (fun ht=>?_) (fun ht=>?_)
   ·rw[if_pos ht]at hJ
    rw[←hJ]
   ·rw[if_neg (by rw[ht];simp)]at hJ
    rw[←hJ]
 ·refine loop _ (by rw[qg,h1,Bool.false_and]) (fun i tw hi hJ I hI=>?_) (fun tw hJ I=>?_)
  ·simp only[sS,sT,sZ,hy.len,eM]
   refine And.intro (fun _=>?_) (fun h=>absurd h (by simp;omega))
   obtain⟨z,hz⟩:=get_some hi
   rw[nM hz,lA]at hJ
   simp only[hy.at (m9 hz),sS,sT,sZ,A0,A1,A2,A3,A4,Bl,Bm,Bn,Bo,Bp,AJ,ef,fl,fm,fG,uz,kP]
   refine bR (Aa _) ?_
   simp only[sS,sT,sZ]
   refine bR (Aa _) ?_
   simp only[sS,sT,sZ]
   refine And.intro (fun ha=>?_) (fun ha=>?_)
   ·rw[if_pos ha]at hJ
    refine aZ (bg hi hl) ?_
    exact hI tw hJ
   ·rw[if_neg (by rw[ha];simp)]at hJ
    refine And.intro (fun hb=>?_) (fun hb=>?_)
    ·rw[if_pos hb]at hJ
     refine aZ (bg hi hl) ?_
     exact hI tw hJ
    ·rw[if_neg (by rw[hb];simp)]at hJ
     refine And.intro (fun hc=>?_) (fun hc=>?_)
     ·rw[if_pos hc]at hJ
      rw[←hJ]
     ·rw[if_neg (by rw[hc];simp)]at hJ
      refine And.intro (fun ht=>?_) (fun ht=>?_)
      ·rw[ht,Bool.true_or]at hJ
       refine aZ (bg hi hl) ?_
       exact hI true hJ
      ·rw[ht,Bool.false_or]at hJ
       refine And.intro (fun hx=>?_) (fun hx=>?_)
       ·rw[hx,Bool.true_and]at hJ
        refine aZ (bg hi hl) ?_
        exact hI _ hJ
       ·rw[hx,Bool.false_and]at hJ
        refine aZ (bg hi hl) ?_
        exact hI false hJ
  ·simp only[sS,sT,sZ,hy.len,eM]
   refine And.intro (fun h=>absurd h (by simp)) (fun _=>?_)
   rw[lA]at hJ
   refine And.intro (fun ht=>?_) (fun ht=>?_)
   ·rw[if_pos ht]at hJ
    rw[←hJ]
   ·rw[if_neg (by rw[ht];simp)]at hJ
    rw[←hJ]
def qo(k:Int)(n:List UInt8)(r:Bool)(l:List ar):Int:=orM (first (fun y=>y.kind==k&&(y.name==n&&y.bI==r)) l)
theorem JJ(a b:Bool):ah (some (false,[.bool])) .eql (.d (.bool a)) (.d (.bool b))=some (.d (.bool (a==b))):=rfl
theorem IY(l:List ar){y:D}(hy:bK 6 (aI l) y)(hl:l.length≤maxLen)(k:Int)(n:List UInt8)(r:Bool):aD Try.prog gl 64 [.d y,.d (.int .i64 k),.d (.str n),.d (.bool r)] (.d (.int .i64 (qo k n r l))):=by
 refine dz bH (cM (fn:=Try.f64) (by kernel_rfl) (by kernel_rfl) (by kernel_rfl)) (h:=G9) ?_;rw[Lr];intro ct
 refine oE (fun i=>∀(j:Nat)z,j<i→l[j]? =some z→(z.kind==k&&(z.name==n&&z.bI==r))=false) (fun i=>[.d y,.d (.int .i64 k),.d (.str n),.d (.bool r),.d (.int .i64 ((i:Nat):Int))]) (fun i=>[]) l.length (fun j t hj=>by omega) (fun i hi hJ I hI=>?_) (fun hJ I=>?_)
 ·simp only[sS,sT,sZ,hy.len,eM]
  refine And.intro (fun _=>?_) (fun h=>absurd h (by simp;omega))
  obtain⟨z,hz⟩:=get_some hi
  have nx:(z.kind==k&&(z.name==n&&z.bI==r))=false→∀(j:Nat)z,j<i+1→l[j]? =some z→(z.kind==k&&(z.name==n&&z.bI==r))=false:=fun h j z' hj fh=>by
   rcases Nat.lt_or_ge j i with h2|h2
   ·exact hJ j z' h2 fh
   ·have:j=i:=by omega
    subst this
    rw[hz]at fh;cases fh;exact h
  simp only[hy.at (m9 hz),sS,sT,sZ,A0,A1,A2,A3,A4,Bl,Bm,Bn,Bo,Bp,AJ,tg,fa,JJ]
  refine And.intro (fun h1=>?_) (fun h1=>?_)
  ·refine And.intro (fun h2=>?_) (fun h2=>?_)
   ·refine And.intro (fun h3=>?_) (fun h3=>?_)
    ·rw[qo,wk hz (by rw[h1,h2,h3];rfl) hJ];rfl
    ·refine aZ (bg hi hl) ?_
     exact hI (nx (by rw[h3,Bool.and_false,Bool.and_false]))
   ·refine aZ (bg hi hl) ?_
    exact hI (nx (by rw[h2,Bool.false_and,Bool.and_false]))
  ·refine aZ (bg hi hl) ?_
   exact hI (nx (by rw[h1,Bool.false_and]))
 ·simp only[sS,sT,sZ,hy.len,eM]
  refine And.intro (fun h=>absurd h (by simp)) (fun _=>?_)
  rw[qo,wb fun j z hz=>hJ j z (List.getElem?_eq_some_iff.1 hz).1 hz]
  rfl
end Go.Proofs.Ytaknajjmldngiaa.Ab
namespace Go.Proofs.Ytaknajjmldngiaa.Ab
open Go
set_option maxRecDepth 4000
set_option linter.unusedVariables false
theorem qW{A:(List SV→List (List SV)→Prop)→Prop}{F:List SV→List (List SV)→Prop}(vs:List SV)(bs:List (List SV))(hA:∀J:List SV→List (List SV)→Prop,J vs bs→A J)(hF:F vs bs):oQ A F:=hA F hF
theorem Ql(l:List (List UInt8)):jr [] l=dedup l:=rfl
def mZ(s:dP):ar:=if s.kind==19&&(decide (s.op≥1)&&decide (s.op≤8))then⟨s.op,s.name,true,[],s.line,s.b8⟩else⟨ff s.kind,s.name,false,[],s.line,s.b8⟩
def dw(s:dP):ar:=if(mZ s).kind ==1 then{mZ s with perms:=dedup s.list}else mZ s
def jA(s:dP):Bool:=(dw s).kind != 0&&(!(s.kind==19)||(dw s).kind ==1)
def kJ(s:dP):List (List UInt8):=if !(s.kind==19)then s.iH else s.list
def kc(s:dP):Bool:=(s.kind==19&&decide ((dw s).kind >1))||s.kind==2
def nH(x:ar)(n:List UInt8):ar:=⟨x.kind,n,x.bI,x.perms,x.line,x.b8⟩
def pN(s:dP):List ar:=(if jA s then [dw s]else [])++(if kc s then(kJ s).map fun a=>nH (dw s) a else [])
theorem Sh(s:ar)(n:List UInt8):setAt (ar.cells s) 1 [.d (.str n)]=ar.cells (nH s n):=rfl
theorem U8(k:Int)(n:List UInt8)(b:Bool)(l c:Int)(p:List (List UInt8))(k':Int):setAt (setAt (ar.cells ⟨k,n,b,p,l,c⟩) 0 [.d (.int .i64 k')]) 2 [.d (.bool true)]=ar.cells ⟨k',n,true,p,l,c⟩:=rfl
theorem U9(k:Int)(n:List UInt8)(b:Bool)(l c:Int)(p:List (List UInt8))(k':Int):(setAt (ar.cells ⟨k,n,b,p,l,c⟩) 0 [.d (.int .i64 k')]).length =6:=rfl
theorem TB(s:ar)(p:List (List UInt8)):setAt (ar.cells s) 3 [.d (cq 1 (bP p))]=ar.cells {s with perms:=p}:=rfl
theorem mr(b:Bool):aA (.d (.bool b))=some [.d (.bool b)]:=rfl
theorem mu(n:Int):aA (.d (.int .i64 n))=some [.d (.int .i64 n)]:=rfl
theorem lu(n:List UInt8):aA (.d (.str n))=some [.d (.str n)]:=rfl
def xk(s:dP):Nat→List UInt8
 |0=>(dw s).name
 |i+1=>(kJ s).getD i []
theorem mz(x y:List SV):af.again x (.cells y)=.cells x:=rfl
theorem Rd(l:List ar)(x:ar):aI l++[x.enc]=aI (l++[x]):=tc l x
theorem OH{s:dP}{x:D}(hs:rO s x)(hl:s.list.length≤2^30)(ha:s.iH.length≤2^30):aD Try.prog gl 70 [.d x] (aO 6 (aI (pN s))):=by
 have hk:=O6 hs
 cases hs with
 |mk r5 r6 cP al rest h dM gr=>
  refine dz bH (cM (fn:=Try.f70) (by kernel_rfl) (by kernel_rfl) (by kernel_rfl)) (h:=nG) ?_;rw[U5];intro ct
  rw[We]
  simp only[sS,sT,sZ,mz,mq,fR,fb,gf,jk,g5,gZ,jl,jm,kM,ef,eD,dH,fl,fm,fG,jj,fp,iw,ji,mr,mu,lu,gi,fa,h]
  refine bR hk ?_
  simp only[sS,sT,sZ,mz,mq,fR,fb,gf,jk,g5,gZ,jl,jm,kM,ef,eD,dH,fl,fm,fG,jj,fp,iw,ji,mr,mu,lu,gi,fa]
  refine qW [.d (.sl .nil 0 []),.d (.bool (s.kind==19)),.d (.bool (s.kind==19&&(decide (s.op≥1)&&decide (s.op≤8))))] [e8 s r5 r6 cP al rest,ar.cells ⟨ff s.kind,s.name,false,[],s.line,s.b8⟩] (fun J hJ=>?_) ?_
  ·refine And.intro (fun h1=>?_) (fun h1=>?_)
   ·refine And.intro (fun h2=>?_) (fun h2=>?_)
    ·simpa only[h1,h2,Bool.true_and]using hJ
    ·simpa only[h1,h2,Bool.true_and,Bool.false_and]using hJ
   ·simpa only[h1,Bool.false_and]using hJ
  simp only[sS,sT,sZ,mz,mq,fR,fb,gf,jk,g5,gZ,jl,jm,kM,ef,eD,dH,fl,fm,fG,jj,fp,iw,ji,mr,mu,lu,gi,fa]
  refine qW [.d (.sl .nil 0 []),.d (.bool (s.kind==19))] [e8 s r5 r6 cP al rest,(mZ s).cells] (fun J hJ=>?_) ?_
  ·refine And.intro (fun h1=>?_) (fun h1=>?_)
   ·simp only[mZ,if_pos h1]at hJ
    simp only[U8,U9]
    exact⟨by decide,by decide,hJ⟩
   ·rw[mZ,if_neg (by rw[h1];simp)]at hJ
    exact hJ
  show ik Try.prog gl _ nG (((dc lq).drop 6).take 4) _ ⟨MC (.d (.sl .nil 0 [])) (.d (.bool (s.kind==19))),[.cells (e8 s r5 r6 cP al rest),.cells (mZ s).cells]⟩
  rw[Wg]
  simp only[sS,sT,sZ,mz,mq,fR,fb,gf,jk,g5,gZ,jl,jm,kM,ef,eD,dH,fl,fm,fG,jj,fp,iw,ji,mr,mu,lu,gi,fa]
  refine qW [.d (.sl .nil 0 []),.d (.bool (s.kind==19))] [e8 s r5 r6 cP al rest,(dw s).cells] (fun J hJ=>?_) ?_
  ·refine And.intro (fun h1=>?_) (fun h1=>?_)
   ·rw[dw,if_pos h1]at hJ
    refine fQ (H6 [] s.list (.nil 0 rfl) dM (by decide) (by omega)) (jW _ _) ?_
    simp only[fF,pR,TB,Ql,sS,sT,sZ,mz,mq,fR,fb,gf,jk,g5,gZ,jl,jm,kM,ef,eD,dH,fl,fm,fG,jj,fp,iw,ji,mr,mu,lu,gi,fa]
    exact⟨by decide,hJ⟩
   ·rw[dw,if_neg (by rw[h1];simp)]at hJ
    exact hJ
  simp only[sS,sT,sZ,mz,mq,fR,fb,gf,jk,g5,gZ,jl,jm,kM,ef,eD,dH,fl,fm,fG,jj,fp,iw,ji,mr,mu,lu,gi,fa]
  refine qW [.d (.sl .nil 0 []),.d (.bool (s.kind==19)),.d (.bool (jA s))] [e8 s r5 r6 cP al rest,(dw s).cells] (fun J hJ=>?_) ?_
  ·unfold jA at hJ
   refine And.intro (fun h1=>?_) (fun h1=>?_)
   ·refine And.intro (fun h2=>?_) (fun h2=>?_)
    ·simpa only[h1,h2,Bool.true_and,Bool.true_or]using hJ
    ·simpa only[h1,h2,Bool.true_and,Bool.false_or]using hJ
   ·simpa only[h1,Bool.false_and]using hJ
  simp only[sS,sT,sZ,mz,mq,fR,fb,gf,jk,g5,gZ,jl,jm,kM,ef,eD,dH,fl,fm,fG,jj,fp,iw,ji,mr,mu,lu,gi,fa]
  refine qW [aO 6 (aI (if jA s then [dw s]else [])),.d (.bool (s.kind==19))] [e8 s r5 r6 cP al rest,(dw s).cells] (fun J hJ=>?_) ?_
  ·refine And.intro (fun h1=>?_) (fun h1=>?_)
   ·rw[if_pos h1]at hJ
    simp only[dZ,iR,eg,sS,sT,sZ]
    exact Iq (gX 6 _) (by show 1*72≤140737488355328;decide) hJ
   ·rw[if_neg (by rw[h1];simp)]at hJ
    exact hJ
  show ik Try.prog gl _ nG ((dc lq).drop 10) _ ⟨L9 (aO 6 (aI (if jA s then [dw s]else []))) (.d (.bool (s.kind==19))),[.cells (e8 s r5 r6 cP al rest),.cells (dw s).cells]⟩
  rw[Wh]
  simp only[kP,sS,sT,sZ,mz,mq,fR,fb,gf,jk,g5,gZ,jl,jm,kM,ef,eD,dH,fl,fm,fG,jj,fp,iw,ji,mr,mu,lu,gi,fa]
  have hM:∃mx,bK 1 (bP (kJ s)) mx∧(s.kind==19)=false→mx=al:=⟨al,fun h=>rfl⟩
  obtain⟨mx,nt,hm⟩:∃mx,bK 1 (bP (kJ s)) mx∧mx=(if !(s.kind==19)then al else cP):=by
   refine⟨_,?_,rfl⟩
   unfold kJ
   cases (s.kind==19)<;>assumption
  have hml:(kJ s).length ≤2^30:=by unfold kJ;split<;>assumption
  refine qW [aO 6 (aI (if jA s then [dw s]else [])),.d (.bool (s.kind==19)),.d mx] [e8 s r5 r6 cP al rest,(dw s).cells] (fun J hJ=>?_) ?_
  ·rw[hm]at hJ
   refine And.intro (fun h1=>?_) (fun h1=>?_)
   ·simp only[h1,if_true]at hJ;exact hJ
   ·simp only[h1,Bool.false_eq_true,if_false]at hJ;exact hJ
  clear hM hm
  simp only[sS,sT,sZ,mz,mq,fR,fb,gf,jk,g5,gZ,jl,jm,kM,ef,eD,dH,fl,fm,fG,jj,fp,iw,ji,mr,mu,lu,gi,fa]
  have hB1:(if jA s then [dw s]else []).length ≤1:=by split<;>simp
  have bB:(dw s).cells =ar.cells (nH (dw s) (xk s 0)):=rfl
  rw[bB]
  have Zs:aO 6 (aI (if jA s then [dw s]else []))=aO 6 (aI ((if jA s then [dw s]else [])++((kJ s).take 0).map fun a=>nH (dw s) a)):=by simp
  rw[Zs]
  refine eo (fun i=>[aO 6 (aI ((if jA s then [dw s]else [])++((kJ s).take i).map fun a=>nH (dw s) a)),.d (.bool (s.kind==19)),.d mx,.d (.int .i64 ((i:Nat):Int))]) (fun i=>[e8 s r5 r6 cP al rest,ar.cells (nH (dw s) (xk s i))]) (if kc s then(kJ s).length else 0) (fun i hi I hI=>?_) (fun I=>?_)
  ·have hC:kc s=true:=by
    cases h:kc s with
    |true=>rfl
    |false=>rw[h]at hi;simp at hi
   rw[hC,if_pos rfl]at hi
   simp only[nt.len,gY,sS,sT,sZ,mz,mq,fR,fb,gf,jk,g5,gZ,jl,jm,kM,ef,eD,dH,fl,fm,fG,jj,fp,iw,ji,mr,mu,lu,gi,fa]
   refine qW [aO 6 (aI ((if jA s then [dw s]else [])++((kJ s).take i).map fun a=>nH (dw s) a)),.d (.bool (s.kind==19)),.d mx,.d (.int .i64 ((i:Nat):Int)),.d (.bool true)] [e8 s r5 r6 cP al rest,ar.cells (nH (dw s) (xk s i))] (fun J hJ=>?_) ?_
   ·refine And.intro (fun _=>?_) (fun h=>absurd h (by simp;omega))
    unfold kc at hC
    refine And.intro (fun h1=>?_) (fun h1=>?_)
    ·rw[h1,Bool.true_and]at hC
     refine And.intro (fun h2=>?_) (fun h2=>?_)
     ·exact hJ
     ·have h2:decide ((dw s).kind >1)=false:=h2
      rw[h2,Bool.false_or]at hC
      rw[hC];exact hJ
    ·rw[h1,Bool.false_and,Bool.false_or]at hC
     rw[hC];exact hJ
   simp only[sS,sT,sZ,mz,mq,fR,fb,gf,jk,g5,gZ,jl,jm,kM,ef,eD,dH,fl,fm,fG,jj,fp,iw,ji,mr,mu,lu,gi,fa]
   refine And.intro (fun _=>?_) (fun h=>absurd h (by simp))
   obtain⟨t,ht⟩:=get_some hi
   have om:xk s (i+1)=t:=by simp[xk,List.getD_eq_getElem?_getD,ht]
   simp only[nt.at (uA ht),oH,Sh,dH,lu,dZ,iR,eg,sS,sT,sZ,mz,mq,fR,fb,gf,jk,g5,gZ,jl,jm,kM,ef,eD,dH,fl,fm,fG,jj,fp,iw,ji,mr,mu,lu,gi,fa]
   refine⟨by decide,?_⟩
   refine iv (gX 6 _) (by simp only[eM,List.length_append,List.length_map,List.length_take,List.length_singleton];omega) ?_
   refine aZ (bg hi (by simp only[maxLen];omega)) ?_
   rw[ez ht,List.map_append,←List.append_assoc,List.map_cons,List.map_nil,←Rd,om]at hI
   exact hI
  ·simp only[nt.len,gY,sS,sT,sZ,mz,mq,fR,fb,gf,jk,g5,gZ,jl,jm,kM,ef,eD,dH,fl,fm,fG,jj,fp,iw,ji,mr,mu,lu,gi,fa]
   have fin:∀n:Nat,n=(if kc s then(kJ s).length else 0)→aO 6 (aI ((if jA s then [dw s]else [])++((kJ s).take n).map fun a=>nH (dw s) a))=aO 6 (aI (pN s)):=fun n hn=>by
    subst hn
    unfold pN
    cases kc s<;>simp
   generalize hn:(if kc s then(kJ s).length else 0)=n
   have fin:=fin n hn.symm
   refine qW [aO 6 (aI ((if jA s then [dw s]else [])++((kJ s).take n).map fun a=>nH (dw s) a)),.d (.bool (s.kind==19)),.d mx,.d (.int .i64 (n:Int)),.d (.bool false)] [e8 s r5 r6 cP al rest,ar.cells (nH (dw s) (xk s n))] (fun J hJ=>?_) ?_
   ·refine And.intro (fun aS=>?_) (fun _=>hJ)
    have aS:=of_decide_eq_true aS
    have hC:kc s=false:=by
     cases h:kc s with
     |false=>rfl
     |true=>rw[h,if_pos rfl]at hn;omega
    unfold kc at hC
    simp only[Bool.or_eq_false_iff]at hC
    refine And.intro (fun h1=>?_) (fun h1=>?_)
    ·rw[h1,Bool.true_and]at hC
     refine And.intro (fun h2=>?_) (fun h2=>?_)
     ·have h2:decide ((dw s).kind >1)=true:=h2
      rw[h2]at hC;cases hC.1
     ·rw[hC.2];exact hJ
    ·rw[hC.2];exact hJ
   simp only[sS,sT,sZ,mz,mq,fR,fb,gf,jk,g5,gZ,jl,jm,kM,ef,eD,dH,fl,fm,fG,jj,fp,iw,ji,mr,mu,lu,gi,fa]
   refine And.intro (fun h=>absurd h (by simp)) (fun _=>?_)
   simp only[nI,true_and]
   rw[fin]
theorem Va(s:dP):pN s=bh s:=by
 obtain⟨kind,op,line,b8,name,list,iH⟩:=s
 by_cases zK:kind=19
 ·subst zK
  have d0:ff 19=0:=by decide
  by_cases h1:op=1
  ·subst h1
   simp[pN,jA,kc,dw,mZ,bh,d0]
  ·by_cases h2:op>1∧op≤8
   ·have e1:decide (op≥1)=true:=by simp;omega
    have e2:decide (op≤8)=true:=by simp;omega
    have e3:decide (op>1)=true:=by simp;omega
    have e4:(op==1)=false:=by simp[h1]
    have e5:(op != 0)=true:=by simp;omega
    simp[pN,jA,kc,kJ,dw,mZ,bh,d0,nH,e1,e2,e3,e4,e5,h1,h2.1,h2.2]
   ·have e1:(decide (op≥1)&&decide (op≤8))=false:=by simp;omega
    have e2:(decide (op>1)&&decide (op≤8))=false:=by simp;omega
    have e4:(op==1)=false:=by simp[h1]
    simp only[pN,jA,kc,dw,mZ,bh,d0,e1,e4,Bool.and_assoc,e2,Bool.and_false,Bool.false_eq_true,if_false]
    simp
 ·have Hr:(kind==19)=false:=by simp[zK]
  by_cases h2:kind=2
  ·subst h2
   have d2:ff 2=2:=by decide
   simp[pN,jA,kc,kJ,dw,mZ,bh,d2,nH]
  ·have k2:(kind==2)=false:=by simp[h2]
   have d2:(ff kind==2)=false:=by
    unfold ff
    simp only[k2]
    split
    ·decide
    ·simp only[Bool.false_eq_true,if_false]
     repeat' split
     all_goals decide
   by_cases hd:ff kind=0
   ·have ic:(ff kind != 0)=false:=by simp[hd]
    simp[pN,jA,kc,dw,mZ,bh,Hr,k2,hd]
   ·have ic:(ff kind != 0)=true:=by simp[hd]
    by_cases vC:ff kind=1
    ·simp[pN,jA,kc,dw,mZ,bh,Hr,k2,vC]
    ·have XI:(ff kind==1)=false:=by simp[vC]
     simp[pN,jA,kc,dw,mZ,bh,Hr,k2,ic,d2,vC,XI,hd]
end Go.Proofs.Ytaknajjmldngiaa.Ab
namespace Go.Proofs.Ytaknajjmldngiaa.Ab
open Go
set_option maxRecDepth 4000
set_option linter.unusedVariables false
theorem Au{s:dP}{x:ar}(h:x∈bh s):x.kind≠0:=by
 unfold bh at h
 split at h
 ·rename_i hd
  have hd:ff s.kind≠0:=by simpa using hd
  rcases List.mem_cons.1 h with rfl|h
  ·exact hd
  ·split at h
   ·obtain⟨a,_,rfl⟩:=List.mem_map.1 h
    exact hd
   ·cases h
 ·split at h
  ·rename_i hk
   simp only[Bool.and_eq_true,beq_iff_eq]at hk
   rcases List.mem_cons.1 h with rfl|h
   ·show s.op≠0
    rw[hk.2];decide
   ·cases h
  ·split at h
   ·rename_i hk
    simp only[Bool.and_eq_true,beq_iff_eq,decide_eq_true_eq]at hk
    obtain⟨a,_,rfl⟩:=List.mem_map.1 h
    show s.op≠0
    omega
   ·cases h
theorem Lx{k:Int}(h:k≠0):wJ k=fO k:=by
 unfold wJ fO
 have:(k==0)=false:=by simp[h]
 rw[this];simp
theorem IZ{x:ar}(hx:x.kind≠0):∀{l:List ar}(tw:Bool),(∀y∈l,y.kind≠0)→lA x tw l=lD x tw l
 |[],tw,_=>rfl
 |y::l,tw,h=>by
  rw[lA,lD,Lx hx,Lx (h y (by simp))]
  have ih:=fun tw=>IZ hx (l:=l) tw (fun z hz=>h z (by simp[hz]))
  rw[ih,ih,Bool.and_comm (!y.bI)]
theorem Re{x:ar}(hx:x.kind≠0){l:List ar}(h:∀y∈l,y.kind≠0):qg l x=lE l x:=by
 rw[qg,lE,IZ hx _ h,Bool.and_comm]
def Ly(c:Int)(s:ar):D:=.agg [.int .i64 c,.int .i64 s.line,.int .i64 s.b8,.str s.name]
def Lz:D:=.agg [.int .i64 0,.int .i64 0,.int .i64 0,.str []]
def Bq(W:List ar):SV:=match g7 [] W with
 |some (c,s)=>.dA [.d (.sl .nil 0 []),.d (Ly c s)]
 |none=>.dA [aO 6 (aI W),.d Lz]
theorem yh(a b c d:D):aA (.d (.agg [a,b,c,d]))=some [.d a,.d b,.d c,.d d]:=rfl
theorem yG{α:Type}(a b c d:α):[a,b,c,d].length =4:=rfl
theorem yH(a b c d:SV)(x y z u:SV):setAt [a,b,c,d] 0 [x,y,z,u]=[x,y,z,u]:=rfl
theorem yq(a b c d:D):ag true 4 0 [.d a,.d b,.d c,.d d]=some (.d (.agg [a,b,c,d])):=rfl
theorem Qm{aM:List dP}{i:Nat}{s:dP}(h:aM[i]? =some s):((aM.take i).flatMap bh).length +(bh s).length ≤(aM.flatMap bh).length :=by
 rw[C1 h,List.length_append,List.length_append];omega
theorem Rf(aM:List dP){L:List D}{xs:D}(hx:bK 55 L xs)(hs:wU aM L)(hn:aM.length≤maxLen)(hl:(aM.flatMap bh).length ≤2^30):
  aD Try.prog gl 62 [.d xs] (Bq (aM.flatMap bh)):=by
 refine dz bH (cM (fn:=Try.f62) (by kernel_rfl) (by kernel_rfl) (by kernel_rfl)) (h:=NT) ?_;rw[Uj];intro ct
 have hlen:=hs.len
 have kinds:∀x∈aM.flatMap bh,x.kind≠0:=fun x hx=>by
  obtain⟨s,_,h⟩:=List.mem_flatMap.1 hx
  exact Au h
 generalize hW:aM.flatMap bh=W at kinds hl ⊢
 have hWW:W=aM.flatMap bh:=hW.symm
 refine oE (fun i=>g7 [] W=g7 ((aM.take i).flatMap bh) ((aM.drop i).flatMap bh)) (fun i=>[.d xs,aO 6 (aI ((aM.take i).flatMap bh)),.d (.int .i64 ((i:Nat):Int))]) (fun i=>[[.d (.int .i64 0),.d (.int .i64 0),.d (.int .i64 0),.d (.str [])]]) aM.length (by rw[List.take_zero,List.drop_zero,hW];rfl) (fun i hi hJ I hI=>?_) (fun hJ I=>?_)
 ·simp only[sS,sT,sZ,hx.len,hlen]
  refine And.intro (fun _=>?_) (fun h=>absurd h (by simp;omega))
  obtain⟨s,gA⟩:=get_some hi
  obtain⟨y,hy,bB,b1,b2,b3⟩:=hs.at_ i s gA
  have hle:=Qm gA
  rw[hW]at hle
  have EB:=C1 gA
  rw[hW]at EB
  simp only[hx.at hy,bB.load,sS,sT,sZ]
  refine fQ (OH bB b1 b2) (jW _ _) ?_
  rw[Va]
  simp only[fF,sS,sT,sZ]
  have hv:=cn 6 (aI (bh s))
  generalize cq 6 (aI (bh s))=v at hv ⊢
  have Wk:(aM.drop i).flatMap bh=bh s++(aM.drop (i+1)).flatMap bh:=by rw[nM gA,List.flatMap_cons]
  have o7:aO 6 (aI ((aM.take i).flatMap bh))=aO 6 (aI ((aM.take i).flatMap bh++(bh s).take 0)):=by rw[List.take_zero,List.append_nil]
  rw[o7]
  refine oE (fun k=>g7 [] W=g7 ((aM.take i).flatMap bh++(bh s).take k) ((bh s).drop k++(aM.drop (i+1)).flatMap bh)) (fun k=>[.d xs,aO 6 (aI ((aM.take i).flatMap bh++(bh s).take k)),.d (.int .i64 (i:Int)),.d v,.d (.int .i64 ((k:Nat):Int))]) (fun k=>[[.d (.int .i64 0),.d (.int .i64 0),.d (.int .i64 0),.d (.str [])]]) (bh s).length (by rw[List.take_zero,List.append_nil,List.drop_zero,hJ,Wk]) (fun k hk pD I2 cN=>?_) (fun pD I2=>?_)
  ·simp only[sS,sT,sZ,hv.len,eM,fF]
   refine And.intro (fun _=>?_) (fun h=>absurd h (by simp;omega))
   obtain⟨z,hz⟩:=get_some hk
   simp only[hv.at (m9 hz),p7,sS,sT,sZ]
   have iE:((aM.take i).flatMap bh++(bh s).take k).length ≤2^30:=by rw[List.length_append,List.length_take];omega
   have Cb:z.kind≠0:=Au (List.mem_of_getElem? hz)
   have Zt:∀y∈(aM.take i).flatMap bh++(bh s).take k,y.kind≠0:=fun y hy=>by
    rcases List.mem_append.1 hy with h|h
    ·obtain⟨s',_,h⟩:=List.mem_flatMap.1 h
     exact Au h
    ·exact Au (List.mem_of_mem_take h)
   refine bR (O7 ((aM.take i).flatMap bh++(bh s).take k) z (cn 6 _) (by simp only[maxLen];omega)) ?_
   rw[Re Cb Zt]
   rw[nM hz,List.cons_append,g7]at pD
   simp only[sS,sT,sZ,Bh]
   refine And.intro (fun h=>?_) (fun h=>?_)
   ·have bm:¬lE ((aM.take i).flatMap bh++(bh s).take k) z=0:=by simpa using h
    rw[if_neg bm]at pD
    simp only[hv.at (m9 hz),A0,A1,A2,A3,A4,Bl,Bm,Bn,Bo,Bp,AJ,sS,sT,sZ,iw,Io,yh,yG,yH,yq]
    rw[Bq,pD]
    rfl
   ·have he:lE ((aM.take i).flatMap bh++(bh s).take k) z=0:=by simpa using h
    rw[if_pos he]at pD
    simp only[hv.at (m9 hz),p7,sS,sT,sZ,dZ,iR,eg]
    refine iv (gX 6 _) (by rw[eM];simp only[List.length_singleton];omega) ?_
    refine aZ (bg hk (by simp only[maxLen];omega)) ?_
    rw[tc]
    rw[ez hz,←List.append_assoc]at cN
    refine cN ?_
    exact pD
  ·simp only[sS,sT,sZ,hv.len,eM]
   refine And.intro (fun h=>absurd h (by simp)) (fun _=>?_)
   refine aZ (bg hi hn) ?_
   rw[List.take_length]at pD ⊢
   rw[List.drop_length,List.nil_append]at pD
   have e:(aM.take (i+1)).flatMap bh=(aM.take i).flatMap bh++bh s:=by rw[ez gA,List.flatMap_append];simp
   rw[e]at hI
   exact hI pD
 ·simp only[sS,sT,sZ,hx.len,hlen]
  refine And.intro (fun h=>absurd h (by simp)) (fun _=>?_)
  rw[List.drop_length,List.take_length,hW,List.flatMap_nil,g7]at hJ
  simp only[show aW []=some [] from rfl,CS,yh,yG,yH,yq,sS,sT,sZ]
  rw[Bq,hJ,List.take_length,hW]
  simp only[nI,true_and]
  rfl
end Go.Proofs.Ytaknajjmldngiaa.Ab
namespace Go.Proofs.Ytaknajjmldngiaa.Ab
open Go
set_option maxRecDepth 4000
set_option linter.unusedVariables false
def DD(l:List (List UInt8)):Prop:=dedup l=l
theorem Kq:∀(l acc:List (List UInt8)),acc.Nodup→(l.foldl jH acc).Nodup
 |[],acc,h=>h
 |s::l,acc,h=>by
  rw[List.foldl_cons]
  refine Kq l _ ?_
  unfold jH
  split
  ·exact h
  ·rename_i hs
   rw[List.nodup_append]
   refine⟨h,by simp,fun a ha b hb=>?_⟩
   have:b=s:=by simpa using hb
   subst this
   intro he
   subst he
   exact hs (x6.2 ha)
theorem Ir(l:List (List UInt8)):(dedup l).Nodup :=Kq l [] List.nodup_nil
theorem Kr:∀(l acc:List (List UInt8)),(acc++l).Nodup →l.foldl jH acc=acc++l
 |[],acc,h=>by simp
 |s::l,acc,h=>by
  have hs:j6 s acc=false:=by
   cases hh:j6 s acc with
   |false=>rfl
   |true=>
    have h1:=x6.1 hh
    have h2:=(List.nodup_append.1 h).2.2 s h1 s (by simp)
    exact absurd rfl h2
  rw[List.foldl_cons,jH,hs,if_neg (by simp),Kr l (acc++[s]) (by rw[List.append_assoc];exact h)]
  simp
theorem Vb{l:List (List UInt8)}:DD l↔l.Nodup:=by
 constructor
 ·intro h;rw[←h];exact Ir l
 ·intro h;exact Kr l [] (by simpa using h)
theorem D4(l:List (List UInt8)):DD (dedup l):=Vb.2 (Ir l)
theorem TC{l m:List (List UInt8)}(h:DD l):jr l m=dedup (l++m):=by
 unfold dedup jr
 rw[List.foldl_append]
 have:l.foldl jH []=l:=h
 rw[this]
theorem TD{s:dP}{x:ar}(h:x∈bh s):DD x.perms:=by
 unfold bh at h
 split at h
 ·rcases List.mem_cons.1 h with rfl|h
  ·show DD (if ff s.kind==1 then dedup s.list else [])
   split
   ·exact D4 _
   ·exact rfl
  ·split at h
   ·obtain⟨a,_,rfl⟩:=List.mem_map.1 h
    exact rfl
   ·cases h
 ·split at h
  ·rcases List.mem_cons.1 h with rfl|h
   ·exact D4 _
   ·cases h
  ·split at h
   ·obtain⟨a,_,rfl⟩:=List.mem_map.1 h
    exact rfl
   ·cases h
def u1(s:ar)(out:List ar):Option Nat:=first (fun y=>y.kind==s.kind&&(y.name==s.name&&y.bI==true)) out
def tx(all:List ar)(s:ar):Bool:=s.bI&&(qz s.kind s.name||decide (qo s.kind s.name false all≥0))
def zZ(y:ar)(p:List (List UInt8)):ar:=⟨y.kind,y.name,y.bI,p,y.line,y.b8⟩
def oI(all out:List ar)(s:ar):List ar:=
 if tx all s then out else
 if s.bI then(match u1 s out with
  |some j=>(match out[j]? with|some y=>out.set j (zZ y (jr y.perms s.perms))|none=>out)
  |none=>out++[s])
 else out++[s]
def rj(all:List ar)(l:List ar):List ar:=l.foldl (oI all) []
theorem Si{α:Type}(p:α→Bool)(l:List α):(first p l).isSome =l.any p:=by
 induction l with
 |nil=>rfl
 |cons x l ih=>
  unfold first
  split
  ·rename_i h;simp[h]
  ·rename_i h
   have h:p x=false:=by simpa using h
   rw[List.any_cons,h,Bool.false_or,←ih]
   cases first p l<;>rfl
theorem Sj(o:Option Nat):decide (orM o≥0)=o.isSome:=by
 cases o with
 |none=>rfl
 |some j=>simp[orM]
theorem Rg(all:List ar)(s:ar):decide (qo s.kind s.name false all≥0)=iA all s:=by
 rw[qo,Sj,Si,iA]
 congr 1
 funext y
 unfold eW
 cases y.bI<;>cases (y.kind==s.kind)<;>cases (y.name==s.name)<;>rfl
structure tG(all out:List ar):Prop where
 dd:∀y∈out,DD y.perms
 dec:∀y∈out,y.bI=false→iA all y=true
 bI:∀y∈out,y.bI=true→iA all y=false
 one:∀(i j:Nat)y z,out[i]? =some y→out[j]? =some z→y.bI=true→eW z y=true→i=j
theorem I0{all:List ar}{y z:ar}(h:eW y z=true):iA all y=iA all z:=by
 simp only[eW,Bool.and_eq_true,beq_iff_eq]at h
 simp only[iA,eW,h.1,h.2]
theorem Dq{s:ar}:∀{l:List ar},fU s l=none→∀y∈l,eW y s=false
 |[],_,y,h=>by simp at h
 |z::l,h,y,hy=>by
  rw[fU]at h
  cases hl:fU s l with
  |some j=>rw[hl]at h;cases h
  |none=>
   rw[hl]at h
   simp only at h
   split at h
   ·cases h
   ·rename_i hz
    rcases List.mem_cons.1 hy with rfl|hy
    ·simpa using hz
    ·exact Dq hl y hy
theorem Rh{all out:List ar}(hB:tG all out){s:ar}(hs:iA all s=false):u1 s out=fU s out:=by
 cases hl:fU s out with
 |some j=>
  obtain⟨y,hy,kG⟩:=AM hl
  have jc:y.bI=true:=by
   cases h:y.bI with
   |true=>rfl
   |false=>
    have:=hB.dec y (List.mem_of_getElem? hy) h
    rw[I0 kG,hs]at this
    cases this
  simp only[eW,Bool.and_eq_true,beq_iff_eq]at kG
  refine wk hy (by rw[kG.1,kG.2,jc];simp) fun i z hi hz=>?_
  cases fA:(z.kind==s.kind&&(z.name==s.name&&z.bI==true))with
  |false=>rfl
  |true=>
   exfalso
   simp only[Bool.and_eq_true,beq_iff_eq]at fA
   have:=hB.one j i y z hy hz jc (by simp[eW,kG.1,kG.2,fA.1,fA.2.1])
   omega
 |none=>
  refine wb fun i z hz=>?_
  have:=Dq hl z (List.mem_of_getElem? hz)
  unfold eW at this
  cases h1:(z.kind==s.kind)with
  |false=>rfl
  |true=>
   rw[h1,Bool.true_and]at this
   rw[this];rfl
theorem step_eq{all out:List ar}(hB:tG all out){s:ar}(pf:s∈all)(z0:DD s.perms):oI all out s=m7 all out s∧tG all (m7 all out s):=by
 have Wl:tx all s=(s.bI&&(iA all s||qz s.kind s.name)):=by rw[tx,Rg,Bool.or_comm]
 unfold oI m7
 rw[Wl]
 cases hk:(s.bI&&(iA all s||qz s.kind s.name))with
 |true=>exact⟨rfl,by simpa using hB⟩
 |false=>
  simp only[Bool.false_eq_true,if_false]
  have snoc:(∀y∈out,eW y s=true→y.bI=false∧s.bI=false)→(s.bI=true→iA all s=false)→tG all (out++[s]):=fun dh hd=>by
   refine⟨fun y hy=>?_,fun y hy hr=>?_,fun y hy hr=>?_,fun i j y z hy hz hr gq=>?_⟩
   ·rcases List.mem_append.1 hy with h|h
    ·exact hB.dd y h
    ·have:y=s:=by simpa using h
     subst this;exact z0
   ·rcases List.mem_append.1 hy with h|h
    ·exact hB.dec y h hr
    ·have:y=s:=by simpa using h
     subst this
     rw[iA,List.any_eq_true]
     exact⟨y,pf,by simp[hr,eW]⟩
   ·rcases List.mem_append.1 hy with h|h
    ·exact hB.bI y h hr
    ·have:y=s:=by simpa using h
     subst this;exact hd hr
   ·rcases Nat.lt_or_ge i out.length with hi|hi<;>rcases Nat.lt_or_ge j out.length with hj|hj
    ·rw[List.getElem?_append_left hi]at hy
     rw[List.getElem?_append_left hj]at hz
     exact hB.one i j y z hy hz hr gq
    ·exfalso
     rw[List.getElem?_append_left hi]at hy
     rw[List.getElem?_append_right hj]at hz
     have fA:z=s:=by
      have:=List.mem_of_getElem? hz
      simpa using this
     subst fA
     have h1:=dh y (List.mem_of_getElem? hy) (by simp only[eW,Bool.and_eq_true,beq_iff_eq]at gq ⊢;exact⟨gq.1.symm,gq.2.symm⟩)
     rw[hr]at h1;cases h1.1
    ·exfalso
     rw[List.getElem?_append_right hi]at hy
     rw[List.getElem?_append_left hj]at hz
     have kG:y=s:=by
      have:=List.mem_of_getElem? hy
      simpa using this
     subst kG
     have h1:=dh z (List.mem_of_getElem? hz) gq
     rw[hr]at h1;cases h1.2
    ·have h1:=(List.getElem?_eq_some_iff.1 hy).1
     have h2:=(List.getElem?_eq_some_iff.1 hz).1
     simp at h1 h2
     omega
  cases hr:s.bI with
  |false=>
   have gq:∀y∈out,eW y s=true→y.bI=false∧s.bI=false:=fun y hy hs=>by
    refine⟨?_,hr⟩
    cases h:y.bI with
    |false=>rfl
    |true=>
     have h1:=hB.bI y hy h
     rw[I0 hs]at h1
     have:iA all s=true:=by
      rw[iA,List.any_eq_true]
      exact⟨s,pf,by simp[hr,eW]⟩
     rw[this]at h1;cases h1
   have nX:=snoc gq (fun h=>by rw[hr]at h;cases h)
   cases fU s out with
   |none=>exact⟨by simp,nX⟩
   |some j=>exact⟨by simp,by simpa using nX⟩
  |true=>
   rw[hr,Bool.true_and,Bool.or_eq_false_iff]at hk
   rw[Rh hB hk.1]
   simp only[if_true]
   cases hl:fU s out with
   |none=>
    exact⟨rfl,snoc (fun y hy hs=>by rw[Dq hl y hy]at hs;cases hs) (fun _=>hk.1)⟩
   |some j=>
    obtain⟨y,hy,kG⟩:=AM hl
    have zC:=hB.dd y (List.mem_of_getElem? hy)
    have jd:=(List.getElem?_eq_some_iff.1 hy).1
    simp only[hy]
    have hm:zZ y (jr y.perms s.perms)=uF y s:=by rw[TC zC];rfl
    rw[hm]
    refine⟨rfl,?_⟩
    have mem:∀z∈out.set j (uF y s),z∈out∨z=uF y s:=fun z hz=>List.mem_or_eq_of_mem_set hz
    refine⟨fun z hz=>?_,fun z hz kY=>?_,fun z hz kY=>?_,fun i k z u hz hu kY gq=>?_⟩
    ·rcases mem z hz with h|rfl
     ·exact hB.dd z h
     ·exact D4 _
    ·rcases mem z hz with h|rfl
     ·exact hB.dec z h kY
     ·exact hB.dec y (List.mem_of_getElem? hy) kY
    ·rcases mem z hz with h|rfl
     ·exact hB.bI z h kY
     ·exact hB.bI y (List.mem_of_getElem? hy) kY
    ·have back:∀(i:Nat)z,(out.set j (uF y s))[i]? =some z→∃z',out[i]? =some z'∧z'.bI=z.bI∧z'.kind=z.kind∧z'.name=z.name:=fun i z hz=>by
      rw[List.getElem?_set]at hz
      split at hz
      ·rename_i kE
       subst kE
       cases hz
       exact⟨y,hy,rfl,rfl,rfl⟩
      ·exact⟨z,hz,rfl,rfl,rfl⟩
     obtain⟨z',a1,a2,a3,a4⟩:=back i z hz
     obtain⟨u',b1,b2,b3,b4⟩:=back k u hu
     refine hB.one i k z' u' a1 b1 (by rw[a2];exact kY) ?_
     unfold eW at gq ⊢
     rw[b3,b4,a3,a4];exact gq
theorem LA{all:List ar}:∀(l out:List ar),(∀s∈l,s∈all∧DD s.perms)→tG all out→l.foldl (oI all) out=l.foldl (m7 all) out
 |[],out,_,_=>rfl
 |s::l,out,h,hB=>by
  have:=step_eq hB (h s (by simp)).1 (h s (by simp)).2
  rw[List.foldl_cons,List.foldl_cons,this.1]
  exact LA l _ (fun t ht=>h t (by simp[ht])) this.2
theorem tG.nil(all:List ar):tG all []:=⟨fun y h=>by simp at h,fun y h=>by simp at h,fun y h=>by simp at h,fun i j y z h=>by simp at h⟩
theorem JK{all l:List ar}(h:∀s∈l,s∈all∧DD s.perms):rj all l=eV all l:=LA l [] h (tG.nil all)
end Go.Proofs.Ytaknajjmldngiaa.Ab
