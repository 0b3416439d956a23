/-
  CONFLICTS: laws on values.
-/
import Derived.Test.YtimbllcalipehaaTf
import Derived.Test.YtimbllcalipehaaTe
import Derived.Test.YtimbllcalipehaaTd
set_option linter.unusedVariables false
set_option linter.unusedSimpArgs false
namespace Go.Proofs.Ytimbllcalipehaa.Ab
open Go
theorem sT:(∀p:Prop,(True∧p)=p)∧(∀{α β:Type}(f:α→β)(a:α)(l:List α),List.map f (a::l)=f a::List.map f l)∧(∀{α β:Type}(f:α→β),List.map f []=[])∧(∀(vs:List SV)(i:Nat),ae vs i=vs.getD i .undef)∧(∀(bs:List (List SV))(i:Nat),ao bs i=bs.getD i [])∧
  (∀{α:Type}(a:α)(l:List α)(d:α),List.getD (a::l) 0 d=a)∧(∀{α:Type}(a:α)(l:List α)(d:α)(n:Nat),List.getD (a::l) (n+1) d=List.getD l n d)∧(∀cs:List SV,af.aB (.cells cs)=cs)∧(∀l:List (MK×D),af.aB (.map l)=[.mp l])∧(∀n:Int,dI n=.int .i64 n)∧(∀n:Nat,(n≤n)=True):=by
 refine⟨fun p=>true_and p,fun f a l=>rfl,fun f=>rfl,fun vs i=>rfl,fun bs i=>rfl,fun a l d=>rfl,fun a l d n=>rfl,fun cs=>rfl,fun l=>rfl,fun n=>rfl,fun n=>by simp⟩
theorem adf(a0 a1 a2 a3 a4 a5 a6 a7 a8 a9:SV)(op a rel b:Int)(nm:D)(w:Nat→BitVec 64)(kd:D):setAt [a0,a1,a2,a3,a4,a5,a6,a7,a8,a9] 0 (jL op a rel b nm w kd)=jL op a rel b nm w kd:=rfl
theorem kV.load{k:Xp}{y:D}(h:kV k y):aI true 10 (.aT y 0)=some (.d y):=by
 obtain⟨nm,kd,L,rfl,_⟩:=h.inv
 exact Ff _ 10 rfl
theorem kV.cells{k:Xp}{y:D}(h:kV k y):∃cs,az (.d y)=some cs∧cs.length=10∧ah true 10 0 cs=some (.d y)∧∀a0 a1 a2 a3 a4 a5 a6 a7 a8 a9:SV,setAt [a0,a1,a2,a3,a4,a5,a6,a7,a8,a9] 0 cs=cs:=by
 obtain⟨nm,kd,L,rfl,_⟩:=h.inv
 exact⟨_,Qc _ _ _ _ _ _ _,rfl,rfl,fun a0 a1 a2 a3 a4 a5 a6 a7 a8 a9=>adf a0 a1 a2 a3 a4 a5 a6 a7 a8 a9 _ _ _ _ _ _ _⟩
end Go.Proofs.Ytimbllcalipehaa.Ab
namespace Go.Proofs.Ytimbllcalipehaa.Ab
open Go
end Go.Proofs.Ytimbllcalipehaa.Ab
namespace Go.Proofs.Ytimbllcalipehaa.Ab
open Go
end Go.Proofs.Ytimbllcalipehaa.Ab
namespace Go.Proofs.Ytimbllcalipehaa.Ab
open Go
end Go.Proofs.Ytimbllcalipehaa.Ab
namespace Go.Proofs.Ytimbllcalipehaa.Ab
open Go
end Go.Proofs.Ytimbllcalipehaa.Ab
namespace Go.Proofs.Ytimbllcalipehaa.Ab
open Go
end Go.Proofs.Ytimbllcalipehaa.Ab
namespace Go.Proofs.Ytimbllcalipehaa.Ab
open Go
end Go.Proofs.Ytimbllcalipehaa.Ab
namespace Go.Proofs.Ytimbllcalipehaa.Ab
open Go
end Go.Proofs.Ytimbllcalipehaa.Ab
namespace Go.Proofs.Ytimbllcalipehaa.Ab
open Go
end Go.Proofs.Ytimbllcalipehaa.Ab
namespace Go.Proofs.Ytimbllcalipehaa.Ab
open Go
end Go.Proofs.Ytimbllcalipehaa.Ab
namespace Go.Proofs.Ytimbllcalipehaa.Ab
open Go
theorem abb(cs:List SV)(o:Nat):aa (.ref cs o)=.ref cs o:=rfl
end Go.Proofs.Ytimbllcalipehaa.Ab
namespace Go.Proofs.Ytimbllcalipehaa.Ab
open Go
theorem QU(b:Bool):aN [(0,.v (.d (.bool b)))]=some [(0,.bool b)]:=rfl
theorem qg(b:Bool):bf 1 1 [(0,.bool b)]=true:=rfl
theorem yn(l:List (MK×D)):mapOf [.mp l]=l:=rfl
theorem Fw(b:Bool):az (.d (.bool b))=some [.d (.bool b)]:=rfl
end Go.Proofs.Ytimbllcalipehaa.Ab
namespace Go.Proofs.Ytimbllcalipehaa.Ab
open Go
end Go.Proofs.Ytimbllcalipehaa.Ab
namespace Go.Proofs.Ytimbllcalipehaa.Ab
open Go
theorem adg(l:List (MK×D)):aa (.mp l)=.mp l:=rfl
end Go.Proofs.Ytimbllcalipehaa.Ab
namespace Go.Proofs.Ytimbllcalipehaa.Ab
open Go
theorem yg(L:List D)(sz:Nat):elems sz (.d (bz sz L))=some L:=by
 cases L with
 |nil=>simp[bz,elems]
 |cons a L=>simp[bz,elems]
end Go.Proofs.Ytimbllcalipehaa.Ab
namespace Go.Proofs.Ytimbllcalipehaa.Ab
open Go
theorem Ci(x:D)(n:Nat):aa (.aT x n)=.aT x n:=rfl
end Go.Proofs.Ytimbllcalipehaa.Ab
namespace Go.Proofs.Ytimbllcalipehaa.Ab
open Go
def jD(out:List (List UInt8))(s:List UInt8):List (List UInt8):=if eP s out then out else out++[s]
def dedup(l:List (List UInt8)):List (List UInt8):=l.foldl jD []
theorem Xq{l:List (List UInt8)}{i:Nat}{s:List UInt8}(h:l[i]? =some s):dedup (l.take (i+1))=jD (dedup (l.take i)) s:=by
 rw[dZ h,dedup,List.foldl_append];rfl
theorem Py(out:List (List UInt8))(s:List UInt8):(jD out s).length ≤out.length+1:=by
 unfold jD;split
 ·omega
 ·simp
theorem II:∀(l out:List (List UInt8)),(l.foldl jD out).length ≤out.length+l.length
 |[],out=>by simp
 |s::l,out=>by
  have h1:=II l (jD out s)
  have h2:=Py out s
  simp only[List.foldl_cons,List.length_cons]
  omega
theorem ZD(l:List (List UInt8))(i:Nat):(dedup (l.take i)).length ≤i:=by
 have:=II (l.take i) []
 simp only[List.length_nil,Nat.zero_add,List.length_take]at this
 unfold dedup
 omega
def AI(k:Int):Int:=if k==3 then 2 else if k==0 then 2 else k
theorem EH(k:Int):aD Try.prog gl 84 [.d (.int .i64 k)] (.d (.int .i64 (AI k))):=by
 refine cE bA (bV (fn:=Try.f84) (by kernel_rfl) (by kernel_rfl) (by kernel_rfl)) (h:=UK) ?_;rw[acI];intro bC
 simp only[sS,sT,sZ,AI]
 refine And.intro (fun h=>?_) (fun h=>?_)
 ·simp[h]
 ·refine And.intro (fun h2=>?_) (fun h2=>?_)
  ·simp[h,h2]
  ·simp[h,h2]
def Lc:List UInt8:=[111,98,106,101,99,116,95,114]
def rR(k:Int)(s:List UInt8):Bool:=k==4&&s==Lc
theorem HL(k:Int)(s:List UInt8):aD Try.prog gl 69 [.d (.int .i64 k),.d (.str s)] (.d (.bool (rR k s))):=by
 refine cE bA (bV (fn:=Try.f69) (by kernel_rfl) (by kernel_rfl) (by kernel_rfl)) (h:=Uk) ?_;rw[acv];intro bC
 simp only[sS,sT,sZ,rR,wS]
 refine And.intro (fun h=>?_) (fun h=>?_)
 ·simp[h,Lc]
 ·simp[h]
theorem yh{α:Type}{p:α→Bool}{l:List α}{k:Nat}(h:first p l=some k):∃x,l[k]? =some x∧p x=true:=by
 obtain⟨x,h1,h2,_⟩:=Ik h
 exact⟨x,h1,h2⟩
theorem yo{α:Type}{p:α→Bool}:∀{l:List α},first p l=none→∀(j:Nat)y,l[j]? =some y→p y=false
 |[],_,j,y,h=>by simp at h
 |x::l,h,j,y,hy=>by
  unfold first at h
  split at h
  ·cases h
  ·rename_i hx
   cases j with
   |zero=>simp at hy;subst hy;simpa using hx
   |succ j=>
    refine yo (l:=l) ?_ j y (by simpa using hy)
    cases hf:first p l with
    |none=>rfl
    |some k=>rw[hf]at h;cases h
set_option maxRecDepth 4000 in
theorem Wu(l:List (List UInt8)){x:D}(hx:aW 1 (cf l) x)(hl:l.length≤maxLen)(s:List UInt8):aD Try.prog gl 96 [.d x,.d (.str s)] (.d (.int .i64 (orM (first (fun t=>s==t) l)))):=by
 refine cE bA (bV (fn:=Try.f96) (by kernel_rfl) (by kernel_rfl) (by kernel_rfl)) (h:=UC) ?_;rw[acD];intro bC
 simp only[sS,sT,sZ,hx.len,iF]
 refine mz (fun i=>∀(j:Nat)k,j<i→l[j]? =some k→(s==k)=false) (fun i=>[.d x,.d (.str s),.d (.int .i64 (l.length:Int)),.d (.int .i64 ((i:Nat):Int))]) (fun i=>[]) l.length (fun j k hj _=>by omega) (fun i hi hJ I hI=>?_) (fun hJ I=>?_)
 ·simp only[sS,sT,sZ]
  refine And.intro (fun _=>?_) (fun h=>absurd h (by simp;omega))
  obtain⟨t,ht⟩:=get_some hi
  have qF:(cf l)[i]? =some (.str t):=by rw[cf,List.getElem?_map,ht];rfl
  simp only[hx.at qF,sS,sT,sZ,sW,Nat.zero_add,wS,wN]
  refine And.intro (fun h=>?_) (fun h=>?_)
  ·rw[ti ht (by simpa using h) hJ];rfl
  ·refine aP (aY hi hl) ?_
   refine hI fun j k' hj bK=>?_
   rcases Nat.lt_or_ge j i with h2|h2
   ·exact hJ j k' h2 bK
   ·have:j=i:=by omega
    subst this
    rw[ht]at bK
    cases bK
    simpa using h
 ·simp only[sS,sT,sZ]
  refine And.intro (fun h=>absurd h (by simp)) (fun _=>?_)
  rw[s3 fun j k bK=>hJ j k (List.getElem?_eq_some_iff.1 bK).1 bK]
  rfl
theorem Yp(s:List UInt8)(l:List (List UInt8)):(first (fun t=>s==t) l).isSome =eP s l:=by
 cases hf:first (fun t=>s==t) l with
 |some i=>
  obtain⟨t,h1,h2⟩:=yh hf
  have e:s=t:=by simpa using h2
  rw[Qd h1 (by rw[e];simp)];rfl
 |none=>
  rw[Px fun i t ht=>?_];rfl
  cases hs:(t==s)with
  |false=>rfl
  |true=>
   exfalso
   have h3:=yo hf i t ht
   have e:t=s:=by simpa using hs
   rw[e]at h3
   simp at h3
theorem Nw(l:List (List UInt8)){x:D}(hx:aW 1 (cf l) x)(hl:l.length≤maxLen)(s:List UInt8):aD Try.prog gl 85 [.d x,.d (.str s)] (.d (.bool (eP s l))):=by
 refine cE bA (bV (fn:=Try.f85) (by kernel_rfl) (by kernel_rfl) (by kernel_rfl)) (h:=Us) ?_;rw[acz];intro bC
 simp only[sS,sT,sZ]
 refine dG (Wu l hx hl s) ?_
 simp only[sS,sT,sZ,wU,Yp]
theorem EX(l:List (List UInt8))(s:List UInt8):cf l++[.str s]=cf (l++[s]):=by simp[cf]
theorem HI(l:List (List UInt8)){x:D}(hx:aW 1 (cf l) x)(hl:l.length≤2^40):aD Try.prog gl 70 [.d x] (bd 1 (cf (dedup l))):=by
 refine cE bA (bV (fn:=Try.f70) (by kernel_rfl) (by kernel_rfl) (by kernel_rfl)) (h:=UH) ?_;rw[acF];intro bC
 have Ej:l.length≤maxLen:=Nat.le_trans hl (by decide)
 simp only[sS,sT,sZ,hx.len,iF]
 refine gj (fun i=>[bd 1 (cf (dedup (l.take i))),.d x,.d (.int .i64 (l.length:Int)),.d (.int .i64 ((i:Nat):Int))]) (fun i=>[]) l.length (fun i hi I hI=>?_) (fun I=>?_)
 ·simp only[sS,sT,sZ]
  refine And.intro (fun _=>?_) (fun h=>absurd h (by simp;omega))
  obtain⟨t,ht⟩:=get_some hi
  have LX:=ZD l i
  have hd:=Xq ht
  simp only[hx.at (wT ht),sS,sT,sZ,wN,dM]
  refine dG (Nw (dedup (l.take i)) (dC 1 _) (by omega) t) ?_
  simp only[sS,sT,sZ,g6]
  refine And.intro (fun h=>?_) (fun h=>?_)
  ·simp only[sS,sT,sZ,Fh,FO,Fi]
   refine g4 (nU 1 _) (by rw[iF];simp only[List.length_singleton];omega) ?_
   refine aP (aY hi Ej) ?_
   rw[EX]
   rw[hd,jD,if_neg (by simpa using h)]at hI
   exact hI
  ·refine aP (aY hi Ej) ?_
   rw[hd,jD,if_pos (by simpa using h)]at hI
   exact hI
 ·simp only[sS,sT,sZ]
  refine And.intro (fun h=>absurd h (by simp)) (fun _=>?_)
  simp only[k7,true_and]
  rw[List.take_of_length_le (Nat.le_refl _)]
theorem nil_eq(k:SK)(sz:Nat)(L:List D):ag (some (false,[])) .eql (.d (.sl k sz L)) (.d (.sl .nil 0 []))=some (.d (.bool (decide (k=SK.nil)))):=rfl
theorem Wv(L:List D)(hl:L.length≤2^40):aD Try.prog gl 71 [.d (bz 1 L)] (bd 1 L):=by
 refine cE bA (bV (fn:=Try.f71) (by kernel_rfl) (by kernel_rfl) (by kernel_rfl)) (h:=G4) ?_;rw[J3];intro bC
 cases L with
 |nil=>
  simp only[sS,sT,sZ,bz,nil_eq,bd]
  refine And.intro (fun _=>?_) (fun h=>absurd h (by simp))
  trivial
 |cons a L=>
  simp only[sS,sT,sZ,bz,nil_eq,bd]
  refine And.intro (fun h=>absurd h (by simp)) (fun _=>?_)
  refine⟨rfl,Fg (sz:=1) (cP:=16) (L:=[]) (M:=a::L) (by simp[elems]) (by simp only[List.length_nil,Nat.zero_add];omega) ?_⟩
  simp[fM,SV.ay]
structure aj where
 kind:Int
 name:List UInt8
 b9:Bool
 perms:List (List UInt8)
 line:Int
 fo:Int
 deriving DecidableEq
def aj.enc(s:aj):D:=.agg [.int .i64 s.kind,.str s.name,.bool s.b9,bz 1 (cf s.perms),.int .i64 s.line,.int .i64 s.fo]
def aj.cells(s:aj):List SV:=[.d (.int .i64 s.kind),.d (.str s.name),.d (.bool s.b9),.d (bz 1 (cf s.perms)),.d (.int .i64 s.line),.d (.int .i64 s.fo)]
theorem abc(sz:Nat)(L:List D):(bz sz L).cells =[bz sz L]:=by cases L<;>rfl
theorem eV(s:aj):az (.d s.enc)=some s.cells:=rfl
theorem eM(s:aj):s.cells.length=6:=rfl
theorem eE(s:aj):ah true 6 0 s.cells=some (.d s.enc):=rfl
theorem fJ(s:aj):ah false 1 0 s.cells=some (.d (.int .i64 s.kind)):=rfl
theorem fE(s:aj):ah false 1 1 s.cells=some (.d (.str s.name)):=rfl
theorem fS(s:aj):ah false 1 2 s.cells=some (.d (.bool s.b9)):=rfl
theorem jv(s:aj):ah false 1 3 s.cells=some (.d (bz 1 (cf s.perms))):=rfl
theorem ZE(s:aj):ah true 2 4 s.cells=some (.d (.agg [.int .i64 s.line,.int .i64 s.fo])):=rfl
theorem p7(s:aj):aI true 6 (.aT s.enc 0)=some (.d s.enc):=rfl
theorem fV(a b c d e f:SV)(s:aj):setAt [a,b,c,d,e,f] 0 s.cells=s.cells:=rfl
def aF(l:List aj):List D:=l.map aj.enc
theorem dN(l:List aj):(aF l).length =l.length:=List.length_map ..
theorem k9{l:List aj}{i:Nat}{s:aj}(h:l[i]? =some s):(aF l)[i]? =some s.enc:=by simp[aF,h]
structure fp where
 kind:Int
 op:Int
 line:Int
 fo:Int
 name:List UInt8
 list:List (List UInt8)
 iT:List (List UInt8)
def lL(s:fp)(r5 r6 cC al:D)(rest:List D):List D:=.int .i64 s.kind::.int .i64 s.op::.int .i64 s.line::.int .i64 s.fo::.str s.name::r5::r6::cC::al::rest
def gw(s:fp)(r5 r6 cC al:D)(rest:List D):List SV:=.d (.int .i64 s.kind)::.d (.int .i64 s.op)::.d (.int .i64 s.line)::.d (.int .i64 s.fo)::.d (.str s.name)::.d r5::.d r6::.d cC::.d al::rest.map .d
inductive rS(s:fp):D→Prop
 |mk (r5 r6 cC al:D) (rest:List D) (h:rest.length=46) (hl:aW 1 (cf s.list) cC) (ha:aW 1 (cf s.iT) al):rS s (.agg (lL s r5 r6 cC al rest))
section
variable(s:fp)(r5 r6 cC al:D)(rest:List D)
theorem jb:az (.d (.agg (lL s r5 r6 cC al rest)))=some (gw s r5 r6 cC al rest):=rfl
theorem gN:(gw s r5 r6 cC al rest).length =rest.length+9:=by simp[gw]
theorem jw:ah false 1 0 (gw s r5 r6 cC al rest)=some (.d (.int .i64 s.kind)):=rfl
theorem j6:ah false 1 1 (gw s r5 r6 cC al rest)=some (.d (.int .i64 s.op)):=rfl
theorem j7:ah false 1 4 (gw s r5 r6 cC al rest)=some (.d (.str s.name)):=rfl
theorem j8:ah false 1 7 (gw s r5 r6 cC al rest)=some (.d cC):=rfl
theorem j9:ah false 1 8 (gw s r5 r6 cC al rest)=some (.d al):=rfl
theorem ka:ah true 2 2 (gw s r5 r6 cC al rest)=some (.d (.agg [.int .i64 s.line,.int .i64 s.fo])):=by
 unfold ah
 simp only[cond_true]
 rw[if_pos (by rw[gN];omega)]
 rfl
theorem FP:∀(l:List D),dE (l.map SV.d)=some l
 |[]=>rfl
 |x::l=>by simp[dE,cN,FP l]
theorem lO(h:rest.length=46):ah true 55 0 (gw s r5 r6 cC al rest)=some (.d (.agg (lL s r5 r6 cC al rest))):=by
 unfold ah
 simp only[cond_true]
 rw[if_pos (by rw[gN];omega)]
 have h1:gw s r5 r6 cC al rest=(lL s r5 r6 cC al rest).map SV.d:=rfl
 rw[List.drop_zero,List.take_of_length_le (by rw[gN];omega),h1,FP]
end
theorem rS.load{s:fp}{x:D}(h:rS s x):aI true 55 (.aT x 0)=some (.d x):=by
 cases h with
 |mk r5 r6 cC al rest h hl ha=>exact Ff _ 55 (by simp[lL,h])
def g9(k:Int):Int:=if k==1 then 1 else if k==2 then 2 else if k==3 then 3 else if k==5 then 4 else if k==8 then 5 else if k==9 then 6 else if k==10 then 7 else if k==11 then 8 else 0
theorem VD{s:fp}{x:D}(hs:rS s x):aD Try.prog gl 95 [.d x] (.d (.int .i64 (g9 s.kind))):=by
 cases hs with
 |mk r5 r6 cC al rest h hl ha=>
  refine cE bA (bV (fn:=Try.f95) (by kernel_rfl) (by kernel_rfl) (by kernel_rfl)) (h:=UL) ?_;rw[acJ];intro bC
  simp only[sS,sT,sZ,jb,gN,h,jw]
  unfold g9
  refine And.intro (fun h=>by rw[if_pos h]) (fun h=>?_)
  rw[if_neg (by rw[h];simp)]
  refine And.intro (fun h=>by rw[if_pos h]) (fun h=>?_)
  rw[if_neg (by rw[h];simp)]
  refine And.intro (fun h=>by rw[if_pos h]) (fun h=>?_)
  rw[if_neg (by rw[h];simp)]
  refine And.intro (fun h=>by rw[if_pos h]) (fun h=>?_)
  rw[if_neg (by rw[h];simp)]
  refine And.intro (fun h=>by rw[if_pos h]) (fun h=>?_)
  rw[if_neg (by rw[h];simp)]
  refine And.intro (fun h=>by rw[if_pos h]) (fun h=>?_)
  rw[if_neg (by rw[h];simp)]
  refine And.intro (fun h=>by rw[if_pos h]) (fun h=>?_)
  rw[if_neg (by rw[h];simp)]
  refine And.intro (fun h=>by rw[if_pos h]) (fun h=>?_)
  rw[if_neg (by rw[h];simp)]
end Go.Proofs.Ytimbllcalipehaa.Ab
namespace Go.Proofs.Ytimbllcalipehaa.Ab
open Go
theorem dr(x:D):aN [(0,.v (.d x))]=some [(0,x)]:=rfl
theorem jx(x y z:D)(i j k:Nat):aN [(i,.v (.d x)),(j,.v (.d y)),(k,.v (.d z))]=some [(i,x),(j,y),(k,z)]:=rfl
theorem yr(x y z u:D)(i j k l:Nat):aN [(i,.v (.d x)),(j,.v (.d y)),(k,.v (.d z)),(l,.v (.d u))]=some [(i,x),(j,y),(k,z),(l,u)]:=rfl
theorem At(x y z u v:D)(i j k l m:Nat):aN [(i,.v (.d x)),(j,.v (.d y)),(k,.v (.d z)),(l,.v (.d u)),(m,.v (.d v))]=some [(i,x),(j,y),(k,z),(l,u),(m,v)]:=rfl
theorem iG(z x:D):bj z [(0,x)] 1 0=[x]:=rfl
theorem kb(s:aj):bf 6 1 [(0,s.enc)]=true:=rfl
theorem j5(k:Int)(n:List UInt8)(l c:Int):cS Try.prog 87 [(0,.int .i64 k),(1,.str n),(4,.agg [.int .i64 l,.int .i64 c])]=some (aj.enc ⟨k,n,false,[],l,c⟩):=by kernel_rfl
theorem Ak(k:Int)(n:List UInt8)(l c:Int):cS Try.prog 87 [(0,.int .i64 k),(1,.str n),(2,.bool true),(4,.agg [.int .i64 l,.int .i64 c])]=some (aj.enc ⟨k,n,true,[],l,c⟩):=by kernel_rfl
theorem s5(sz:Nat)(L:List D):az (.d (bz sz L))=some [.d (bz sz L)]:=by cases L<;>rfl
theorem il(x:SV):[x].length =1:=rfl
theorem ZF(k:Int)(n:List UInt8)(p:D)(hp:p.cells=[p])(l c:Int):tH (fun i=>[(0,1),(1,1),(2,1),(3,1),(4,2)][i]?) [.int .i64 0,.str [],.bool false,.sl .nil 0 [],.int .i64 0,.int .i64 0] [(0,.int .i64 k),(1,.str n),(2,.bool true),(3,p),(4,.agg [.int .i64 l,.int .i64 c])]
  =some [.int .i64 k,.str n,.bool true,p,.int .i64 l,.int .i64 c]:=by
 have h1:∀(k:IntKind)(n:Int),(D.int k n).cells =[.int k n]:=fun _ _=>rfl
 have h2:∀(s:List UInt8),(D.str s).cells =[.str s]:=fun _=>rfl
 have h3:∀(b:Bool),(D.bool b).cells =[.bool b]:=fun _=>rfl
 have h4:∀(l:List D),(D.agg l).cells =l:=fun _=>rfl
 simp[tH,h1,h2,h3,h4,hp]
theorem Yq(ps:List (Nat×D)):cS Try.prog 87 ps=(match tH (fun i=>[(0,1),(1,1),(2,1),(3,1),(4,2)][i]?) [.int .i64 0,.str [],.bool false,.sl .nil 0 [],.int .i64 0,.int .i64 0] ps with|some cs=>some (.agg cs)|none=>none):=by kernel_rfl
theorem Al(k:Int)(n:List UInt8)(p:List (List UInt8))(l c:Int):cS Try.prog 87 [(0,.int .i64 k),(1,.str n),(2,.bool true),(3,bz 1 (cf p)),(4,.agg [.int .i64 l,.int .i64 c])]=some (aj.enc ⟨k,n,true,p,l,c⟩):=by
 rw[Yq,ZF _ _ _ (abc _ _)];rfl
theorem set_perm(k:Int)(n:List UInt8)(b:Bool)(l c:Int)(p:List (List UInt8)):setAt (aj.cells ⟨k,n,b,[],l,c⟩) 3 [.d (bz 1 (cf p))]=aj.cells ⟨k,n,b,p,l,c⟩:=rfl
def bJ(s:fp):List aj:=
 if g9 s.kind != 0 then
  ⟨g9 s.kind,s.name,false,if g9 s.kind==1 then dedup s.list else [],s.line,s.fo⟩::(if g9 s.kind==2 then s.iT.map fun a=>⟨g9 s.kind,a,false,[],s.line,s.fo⟩else [])
 else if s.kind==19&&s.op==1 then [⟨s.op,s.name,true,dedup s.list,s.line,s.fo⟩]
 else if s.kind==19&&decide (s.op>1)&&decide (s.op≤8)then s.list.map fun a=>⟨s.op,a,true,[],s.line,s.fo⟩
 else []
theorem yu(l:List aj)(s:aj):aF l++[s.enc]=aF (l++[s]):=by simp[aF]
theorem Xr(sz:Nat)(L M:List D):(fM sz L M).ay =true:=by unfold fM;split<;>rfl
theorem Xs(sz:Nat)(L M:List D):u4 (fM sz L M)=false:=by unfold fM;split<;>rfl
theorem NG{α β:Type}(f:α→β){l:List α}{i:Nat}{x:α}(h:l[i]? =some x):(l.take (i+1)).map f=(l.take i).map f++[f x]:=by rw[dZ h];simp
set_option maxRecDepth 4000 in
theorem VJ{s:fp}{x:D}(hs:rS s x)(hl:s.list.length≤2^30)(ha:s.iT.length≤2^30):∃r,(gz 6 (aF (bJ s)) (aa r)∧u4 r=false)∧aD Try.prog gl 83 [.d x] r:=by
 refine Xi bA (bV (fn:=Try.f83) (by kernel_rfl) (by kernel_rfl) (by kernel_rfl)) ⟨bd 6 (aF (bJ s)),by rw[dM];exact(dC 6 _).sv,j3 _ _⟩ (h:=UJ) ?_
 rw[acH];intro bC
 have ma:=hs
 cases hs with
 |mk r5 r6 cC al rest h ic lE=>
  simp only[sS,sT,sZ,jb,gN,jw,j6,ka,j7,j8,j9,dr,jx,yr,At,iG,kb,j5,Ak,Al,s5,il,set_perm,eV,eM,eE,fV,h,lO _ _ _ _ _ _ h]
  refine dG (VD ma) ?_
  simp only[sS,sT,sZ,jb,gN,jw,j6,ka,j7,j8,j9,dr,jx,yr,At,iG,kb,j5,Ak,Al,s5,il,set_perm,eV,eM,eE,fV]
  unfold bJ
  refine And.intro (fun hk=>?_) (fun hk=>?_)
  ·rw[if_pos (by simpa using hk)]
   refine And.intro (fun h1=>?_) (fun h1=>?_)
   ·have sd:g9 s.kind=1:=by simpa using h1
    refine cw (HI s.list ic (by omega)) (j3 _ _) ?_
    simp only[sS,sT,sZ,jb,gN,jw,j6,ka,j7,j8,j9,dr,jx,yr,At,iG,kb,j5,Ak,Al,s5,il,set_perm,eV,eM,eE,fV,dM,sd]
    refine⟨by decide,?_⟩
    refine And.intro (fun h2=>absurd h2 (by decide)) (fun _=>?_)
    exact⟨rfl,.full,rfl⟩
   ·have sd:(g9 s.kind==1)=false:=h1
    simp only[sd,Bool.false_eq_true,if_false]
    refine And.intro (fun h2=>?_) (fun h2=>?_)
    ·simp only[h2,if_true]
     simp only[lE.len,iF,sS,sT,sZ,Yo]
     have pH:g9 s.kind=2:=by simpa using h2
     rw[pH]
     refine gj (fun i=>[.d (.int .i64 2),fM 6 [aj.enc ⟨2,s.name,false,[],s.line,s.fo⟩] (aF ((s.iT.take i).map fun a=>⟨2,a,false,[],s.line,s.fo⟩)),.d al,.d (.int .i64 (s.iT.length:Int)),.d (.int .i64 ((i:Nat):Int))])
      (fun i=>[gw s r5 r6 cC al rest,aj.cells ⟨2,s.name,false,[],s.line,s.fo⟩]) s.iT.length (fun i hi I hI=>?_) (fun I=>?_)
     ·simp only[sS,sT,sZ]
      refine And.intro (fun _=>?_) (fun h=>absurd h (by simp;omega))
      obtain⟨t,ht⟩:=get_some hi
      simp only[lE.at (wT ht),sS,sT,sZ,jb,gN,jw,j6,ka,j7,j8,j9,dr,jx,yr,At,iG,kb,j5,Ak,Al,s5,il,set_perm,eV,eM,eE,fV,wN]
      refine Qe (nU 6 _) (by simp only[dN,List.length_map,List.length_take,List.length_singleton];omega) ?_
      refine aP (aY hi (by simp only[maxLen];omega)) ?_
      rw[yu,←NG (fun a=>(⟨2,a,false,[],s.line,s.fo⟩:aj)) ht]
      exact hI
     ·simp only[sS,sT,sZ]
      refine And.intro (fun h=>absurd h (by simp)) (fun _=>?_)
      refine⟨Xr _ _ _,?_,Xs _ _ _⟩
      have:=aa7 6 [aj.enc ⟨2,s.name,false,[],s.line,s.fo⟩] (aF ((s.iT.take s.iT.length).map fun a=>⟨2,a,false,[],s.line,s.fo⟩))
      rw[List.take_length]at this
      rw[List.take_length]
      exact this
    ·simp only[h2,Bool.false_eq_true,if_false]
     exact⟨rfl,.full,rfl⟩
  ·rw[if_neg (by simpa using hk)]
   have leaf:∀b:Bool,b=false→(if b=true then([⟨s.op,s.name,true,dedup s.list,s.line,s.fo⟩]:List aj)else [])=[]:=fun b h=>by rw[h];rfl
   refine And.intro (fun h1=>?_) (fun h1=>?_)
   ·refine And.intro (fun h2=>?_) (fun h2=>?_)
    ·rw[if_pos (by rw[h1,h2];rfl)]
     refine cw (HI s.list ic (by omega)) (j3 _ _) ?_
     simp only[sS,sT,sZ,jb,gN,jw,j6,ka,j7,j8,j9,dr,jx,yr,At,iG,kb,j5,Ak,Al,s5,il,set_perm,eV,eM,eE,fV,dM]
     exact⟨rfl,.full,rfl⟩
    ·rw[if_neg (by rw[h2];simp)]
     simp only[h1,Bool.true_and]
     refine And.intro (fun _=>?_) (fun h=>absurd h (by simp))
     refine And.intro (fun h3=>?_) (fun h3=>?_)
     ·simp only[h3,Bool.true_and]
      refine And.intro (fun h4=>?_) (fun h4=>?_)
      ·rw[if_pos h4]
       simp only[ic.len,iF,sS,sT,sZ,ZC 6]
       refine gj (fun i=>[bd 6 (aF ((s.list.take i).map fun a=>⟨s.op,a,true,[],s.line,s.fo⟩)),.d cC,.d (.int .i64 (s.list.length:Int)),.d (.int .i64 ((i:Nat):Int))])
        (fun i=>[gw s r5 r6 cC al rest]) s.list.length (fun i hi I hI=>?_) (fun I=>?_)
       ·simp only[sS,sT,sZ]
        refine And.intro (fun _=>?_) (fun h=>absurd h (by simp;omega))
        obtain⟨t,ht⟩:=get_some hi
        simp only[ic.at (wT ht),sS,sT,sZ,jb,gN,jw,j6,ka,j7,j8,j9,dr,jx,yr,At,iG,kb,j5,Ak,Al,s5,il,set_perm,eV,eM,eE,fV,wN]
        refine g4 (nU 6 _) (by simp only[dN,List.length_map,List.length_take,List.length_singleton];omega) ?_
        refine aP (aY hi (by simp only[maxLen];omega)) ?_
        rw[yu,←NG (fun a=>(⟨s.op,a,true,[],s.line,s.fo⟩:aj)) ht]
        exact hI
       ·simp only[sS,sT,sZ]
        refine And.intro (fun h=>absurd h (by simp)) (fun _=>?_)
        refine⟨k7 _ _,?_,j3 _ _⟩
        rw[List.take_length,dM]
        exact(dC 6 _).sv
      ·rw[if_neg (by rw[h4];simp)]
       first|exact⟨rfl,.nil 0 rfl,rfl⟩|exact⟨.nil 0 rfl,rfl⟩
     ·simp only[h3,Bool.false_and,Bool.false_eq_true,if_false]
      first|exact⟨rfl,.nil 0 rfl,rfl⟩|exact⟨.nil 0 rfl,rfl⟩
   ·simp only[h1,Bool.false_and,Bool.false_eq_true,if_false]
    refine And.intro (fun h=>absurd h (by simp)) (fun _=>?_)
    first|exact⟨rfl,.nil 0 rfl,rfl⟩|exact⟨.nil 0 rfl,rfl⟩
def mZ(x:aj):Bool→List aj→Int
 |tw,[]=>if tw then 12 else 0
 |tw,y::l=>if AI y.kind != AI x.kind then mZ x tw l else if !(y.name==x.name)then mZ x tw l else if y.kind != x.kind then 13 else mZ x (tw||(!x.b9&& !y.b9)) l
def m0(l:List aj)(x:aj):Int:=mZ x (!x.b9&&rR x.kind x.name) l
theorem uH{α:Type}{l:List α}{i:Nat}{x:α}(h:l[i]? =some x):l.drop i=x::l.drop (i+1):=by
 have hi:=(List.getElem?_eq_some_iff.1 h).1
 rw[List.drop_eq_getElem_cons hi,(List.getElem?_eq_some_iff.1 h).2]
set_option maxRecDepth 4000 in
theorem Ww(l:List aj)(x:aj){y:D}(hy:aW 6 (aF l) y)(hl:l.length≤maxLen):aD Try.prog gl 68 [.d y,.d x.enc] (.d (.int .i64 (m0 l x))):=by
 refine cE bA (bV (fn:=Try.f68) (by kernel_rfl) (by kernel_rfl) (by kernel_rfl)) (h:=UG) ?_;rw[acE];intro bC
 simp only[sS,sT,sZ,eV,eM,fS,g6,fJ,fE]
 have loop:∀tw:Bool,mZ x tw l=m0 l x→∀{F:List SV→List (List SV)→(List SV→List (List SV)→Prop)→Prop},(∀i tw,i<l.length→mZ x tw (l.drop i)=m0 l x→∀I:List SV→List (List SV)→Prop,(∀Ek,mZ x Ek (l.drop (i+1))=m0 l x→I [.d (.bool Ek),.d y,.d (.int .i64 (l.length:Int)),.d (.int .i64 ((i+1:Nat):Int))] [x.cells])→F [.d (.bool tw),.d y,.d (.int .i64 (l.length:Int)),.d (.int .i64 ((i:Nat):Int))] [x.cells] I)→
   (∀tw,mZ x tw []=m0 l x→∀I,F [.d (.bool tw),.d y,.d (.int .i64 (l.length:Int)),.d (.int .i64 (l.length:Int))] [x.cells] I)→bR F [.d (.bool tw),.d y,.d (.int .i64 (l.length:Int)),.d (.int .i64 0)] [x.cells]:=by
  intro tw MD F hs he
  exact tj (fun i tw=>mZ x tw (l.drop i)=m0 l x) (fun i tw=>[.d (.bool tw),.d y,.d (.int .i64 (l.length:Int)),.d (.int .i64 ((i:Nat):Int))]) (fun i _=>[x.cells]) l.length tw MD (fun i tw hi hJ I hI=>hs i tw hi hJ I hI) (fun tw hJ I=>he tw (by rw[List.drop_length]at hJ;exact hJ) I)
 refine And.intro (fun h1=>?_) (fun h1=>?_)
 ·refine dG (HL _ _) ?_
  simp only[sS,sT,sZ,hy.len,dN]
  refine loop _ (by rw[m0,h1,Bool.true_and]) (fun i tw hi hJ I hI=>?_) (fun tw hJ I=>?_)
  ·simp only[sS,sT,sZ]
   refine And.intro (fun _=>?_) (fun h=>absurd h (by simp;omega))
   obtain⟨z,hz⟩:=get_some hi
   rw[uH hz,mZ]at hJ
   simp only[hy.at (k9 hz),sS,sT,sZ,p7,eV,eM,fV,fJ,fE,fS,Fv,g6]
   refine dG (EH _) ?_
   simp only[sS,sT,sZ]
   refine dG (EH _) ?_
   simp only[sS,sT,sZ]
   refine And.intro (fun ha=>?_) (fun ha=>?_)
   ·rw[if_pos ha]at hJ
    refine aP (aY hi hl) ?_
    exact hI tw hJ
   ·rw[if_neg (by rw[ha];simp)]at hJ
    refine And.intro (fun hb=>?_) (fun hb=>?_)
    ·rw[if_pos hb]at hJ
     refine aP (aY hi hl) ?_
     exact hI tw hJ
    ·rw[if_neg (by rw[hb];simp)]at hJ
     refine And.intro (fun hc=>?_) (fun hc=>?_)
     ·rw[if_pos hc]at hJ
      rw[←hJ]
     ·rw[if_neg (by rw[hc];simp)]at hJ
      refine And.intro (fun ht=>?_) (fun ht=>?_)
      ·rw[ht,Bool.true_or]at hJ
       refine aP (aY hi hl) ?_
       exact hI true hJ
      ·rw[ht,Bool.false_or]at hJ
       refine And.intro (fun hx=>?_) (fun hx=>?_)
       ·rw[hx,Bool.true_and]at hJ
        refine aP (aY hi hl) ?_
        exact hI _ hJ
       ·rw[hx,Bool.false_and]at hJ
        refine aP (aY hi hl) ?_
        exact hI false hJ
  ·simp only[sS,sT,sZ]
   refine And.intro (fun h=>absurd h (by simp)) (fun _=>?_)
   rw[mZ]at hJ
   refine And.intro (fun ht=>?_) (fun ht=>?_)
   ·rw[if_pos ht]at hJ
    rw[←hJ]
   ·rw[if_neg (by rw[ht];simp)]at hJ
    rw[←hJ]
 ·simp only[sS,sT,sZ,hy.len,dN]
  refine loop _ (by rw[m0,h1,Bool.false_and]) (fun i tw hi hJ I hI=>?_) (fun tw hJ I=>?_)
  ·simp only[sS,sT,sZ]
   refine And.intro (fun _=>?_) (fun h=>absurd h (by simp;omega))
   obtain⟨z,hz⟩:=get_some hi
   rw[uH hz,mZ]at hJ
   simp only[hy.at (k9 hz),sS,sT,sZ,p7,eV,eM,fV,fJ,fE,fS,Fv,g6]
   refine dG (EH _) ?_
   simp only[sS,sT,sZ]
   refine dG (EH _) ?_
   simp only[sS,sT,sZ]
   refine And.intro (fun ha=>?_) (fun ha=>?_)
   ·rw[if_pos ha]at hJ
    refine aP (aY hi hl) ?_
    exact hI tw hJ
   ·rw[if_neg (by rw[ha];simp)]at hJ
    refine And.intro (fun hb=>?_) (fun hb=>?_)
    ·rw[if_pos hb]at hJ
     refine aP (aY hi hl) ?_
     exact hI tw hJ
    ·rw[if_neg (by rw[hb];simp)]at hJ
     refine And.intro (fun hc=>?_) (fun hc=>?_)
     ·rw[if_pos hc]at hJ
      rw[←hJ]
     ·rw[if_neg (by rw[hc];simp)]at hJ
      refine And.intro (fun ht=>?_) (fun ht=>?_)
      ·rw[ht,Bool.true_or]at hJ
       refine aP (aY hi hl) ?_
       exact hI true hJ
      ·rw[ht,Bool.false_or]at hJ
       refine And.intro (fun hx=>?_) (fun hx=>?_)
       ·rw[hx,Bool.true_and]at hJ
        refine aP (aY hi hl) ?_
        exact hI _ hJ
       ·rw[hx,Bool.false_and]at hJ
        refine aP (aY hi hl) ?_
        exact hI false hJ
  ·simp only[sS,sT,sZ]
   refine And.intro (fun h=>absurd h (by simp)) (fun _=>?_)
   rw[mZ]at hJ
   refine And.intro (fun ht=>?_) (fun ht=>?_)
   ·rw[if_pos ht]at hJ
    rw[←hJ]
   ·rw[if_neg (by rw[ht];simp)]at hJ
    rw[←hJ]
end Go.Proofs.Ytimbllcalipehaa.Ab
set_option maxRecDepth 100000
namespace Go.Proofs.Ytimbllcalipehaa.Ab
open Go
def ia:Hints:=⟨[],[],[]⟩
noncomputable def Bk:Code:=Go.Proofs.Try.f82.body.getD .skip
def sA:Code→Code| .seq a _=>a|c=>c
def sB:Code→Code| .seq _ b=>b|c=>c
def bk:Code→Code| .block _ b=>b| .loop b=>b|c=>c
def afp:Code→Array Oper| .region _ ops _=>ops|_=> #[]
def dfO:Oper:={dst:=none,op:=.move (.tmp 0),type:=0,pos:= "",after:= #[],guard:=none}
noncomputable def cO:Code:=bk (bk (sB Bk))
noncomputable def zP:Code:=bk (sA (sB (sB cO)))
noncomputable def cI:Code:=bk (bk (sB (sB zP)))
noncomputable def El:Code:=bk (sA (sB (sB cI)))
noncomputable def qt:Array Oper:=afp (sA (sB El))
noncomputable def o6(i:Nat):Oper:=qt.toList.getD i dfO
def BH(yl:Nat)(x:D)(xs:D)(m i:SV):List Slot:=[.v (.d (.fn (.yield yl))),.v (.aT x 0),.v .undef,.v .undef,.v .undef,.v .undef,.v .undef,.v (.d xs),.v m,.v i]++List.replicate 16 (.v .undef)
def shP(yl:Nat)(x:D)(xs:D)(m i u v:SV):List Slot:=[.v (.d (.fn (.yield yl))),.v (.aT x 0),.v .undef,.v .undef,.p 0 0,.v .undef,.v .undef,.v (.d xs),.v m,.v i,.v .undef,.v u,.v v]++List.replicate 13 (.v .undef)
def zQ(yl:Nat)(x:D)(xs:D)(m i:SV)(ys:SV)(k j:SV):List Slot:=[.v (.d (.fn (.yield yl))),.v (.aT x 0),.v .undef,.v .undef,.v .undef,.v .undef,.v .undef,.v (.d xs),.v m,.v i,.v .undef,.v .undef,.v .undef,.v .undef,.v ys,.v k,.v j]++List.replicate 9 (.v .undef)
def Hb(yl:Nat)(x:D)(xs:D)(m i:SV)(ys:SV)(k j u v t20 t21 t22:SV):List Slot:=[.v (.d (.fn (.yield yl))),.v (.aT x 0),.v .undef,.v .undef,.v .undef,.v .undef,.p 0 0,.v (.d xs),.v m,.v i,.v .undef,.v .undef,.v .undef,.v .undef,.v ys,.v k,.v j,.v .undef,.v u,.v v,.v t20,.v t21,.v t22,.v .undef,.v .undef,.v .undef]
set_option maxHeartbeats 1000000 in
theorem pi0(C:bl)(yl:Nat)(x:D)(Q:Ex→Env→Prop):aw Go.Proofs.Try.prog gl C ia (sA Bk) Q (enter 26 [.d (.fn (.yield yl)),.aT x 0])=(
 ab (aI false 1 (.aT x 0)) fun r0=>
 ab (aX (aa r0)) fun r1=>
 (Q Ex.normal (Env.mk [(.v (.d (.fn (.yield yl)))),(.v (.aT x 0)),(.v .undef),(.v .undef),(.v .undef),(.v .undef),(.v .undef),(.v r0),(.v r1),(.v (.d (.int .i64 0))),(.v .undef),(.v .undef),(.v .undef),(.v .undef),(.v .undef),(.v .undef),(.v .undef),(.v .undef),(.v .undef),(.v .undef),(.v .undef),(.v .undef),(.v .undef),(.v .undef),(.v .undef),(.v .undef)] []))):=by kernel_rfl
set_option maxHeartbeats 1000000 in
theorem pi1(C:bl)(yl:Nat)(x xs:D)(m i:SV)(Q:Ex→Env→Prop):aw Go.Proofs.Try.prog gl C ia (sA cO) Q ⟨BH yl x xs m i,[]⟩=(
 ab (ag none .lss (aa i) (aa m)) fun r0=>
 (Q Ex.normal (Env.mk [(.v (.d (.fn (.yield yl)))),(.v (.aT x 0)),(.v .undef),(.v .undef),(.v .undef),(.v .undef),(.v .undef),(.v (.d xs)),(.v m),(.v i),(.v r0),(.v .undef),(.v .undef),(.v .undef),(.v .undef),(.v .undef),(.v .undef),(.v .undef),(.v .undef),(.v .undef),(.v .undef),(.v .undef),(.v .undef),(.v .undef),(.v .undef),(.v .undef)] []))):=by kernel_rfl
set_option maxHeartbeats 1000000 in
theorem pi2(C:bl)(yl:Nat)(x xs:D)(m i:SV)(Q:Ex→Env→Prop):aw Go.Proofs.Try.prog gl C ia (sA zP) Q ⟨BH yl x xs m i,[]⟩=(
 ab (aQ 55 (.d xs) (aa i)) fun r0=>
 ab (aI true 55 (aa r0)) fun r1=>
 ab (az (aa r1)) fun r2=>
 (List.length r2)=55∧
 55≤55∧
 (Q Ex.normal (Env.mk [(.v (.d (.fn (.yield yl)))),(.v (.aT x 0)),(.v .undef),(.v .undef),(.p (0+0) 0),(.v .undef),(.v .undef),(.v (.d xs)),(.v m),(.v i),(.v .undef),(.v r0),(.v r1),(.v .undef),(.v .undef),(.v .undef),(.v .undef),(.v .undef),(.v .undef),(.v .undef),(.v .undef),(.v .undef),(.v .undef),(.v .undef),(.v .undef),(.v .undef)] [(af.cells (setAt [(.d (.int .i64 0)),(.d (.int .i64 0)),(.d (.int .i64 0)),(.d (.int .i64 0)),(.d (.str [])),(.d (.str [])),(.d (.str [])),(.d (.sl .nil 0 [])),(.d (.sl .nil 0 [])),(.d (.bool false)),(.d (.bool false)),(.d (.bool false)),(.d (.sl .nil 0 [])),(.d (.sl .nil 0 [])),(.d (.bool false)),(.d (.bool false)),(.d (.bool false)),(.d (.sl .nil 0 [])),(.d (.sl .nil 0 [])),(.d (.bool false)),(.d (.bool false)),(.d (.bool false)),(.d (.sl .nil 0 [])),(.d (.sl .nil 0 [])),(.d (.bool false)),(.d (.bool false)),(.d (.bool false)),(.d (.sl .nil 0 [])),(.d (.sl .nil 0 [])),(.d (.int .i64 0)),(.d (.int .i64 0)),(.d (.int .i64 0)),(.d (.int .i64 0)),(.d (.sl .nil 0 [])),(.d (.int .u64 0)),(.d (.int .u64 0)),(.d (.int .u64 0)),(.d (.int .u64 0)),(.d (.sl .nil 0 [])),(.d (.str [])),(.d (.sl .nil 0 [])),(.d (.str [])),(.d (.sl .nil 0 [])),(.d (.str [])),(.d (.sl .nil 0 [])),(.d (.str [])),(.d (.str [])),(.d (.str [])),(.d (.str [])),(.d (.sl .nil 0 [])),(.d (.str [])),(.d (.sl .nil 0 [])),(.d (.bool false)),(.d (.sl .nil 0 [])),(.d (.sl .nil 0 []))] 0 r2))]))):=by kernel_rfl
set_option maxHeartbeats 1000000 in
theorem pi3(C:bl)(yl:Nat)(x xs:D)(m i u v:SV)(cs:List SV)(Q:Ex→Env→Prop):aw Go.Proofs.Try.prog gl C ia (sA (sB zP)) Q ⟨shP yl x xs m i u v,[.cells cs]⟩=(
 ab (ah true 55 0 cs) fun r0=>
 aS C 83 [(aa (aa (aa r0)))] fun r1=>
 ab (aX (aa r1)) fun r2=>
 (Q Ex.normal (Env.mk [(.v (.d (.fn (.yield yl)))),(.v (.aT x 0)),(.v .undef),(.v .undef),(.p 0 0),(.v .undef),(.v .undef),(.v (.d xs)),(.v m),(.v i),(.v .undef),(.v u),(.v v),(.v (aa r0)),(.v r1),(.v r2),(.v (.d (.int .i64 0))),(.v .undef),(.v .undef),(.v .undef),(.v .undef),(.v .undef),(.v .undef),(.v .undef),(.v .undef),(.v .undef)] [(af.cells cs)]))):=by kernel_rfl
set_option maxHeartbeats 1000000 in
theorem pi4(C:bl)(yl:Nat)(x xs:D)(m i:SV)(ys:SV)(k j:SV)(Q:Ex→Env→Prop):aw Go.Proofs.Try.prog gl C ia (sA cI) Q ⟨zQ yl x xs m i ys k j,[]⟩=(
 ab (ag none .lss (aa j) (aa k)) fun r0=>
 (Q Ex.normal (Env.mk [(.v (.d (.fn (.yield yl)))),(.v (.aT x 0)),(.v .undef),(.v .undef),(.v .undef),(.v .undef),(.v .undef),(.v (.d xs)),(.v m),(.v i),(.v .undef),(.v .undef),(.v .undef),(.v .undef),(.v ys),(.v k),(.v j),(.v r0),(.v .undef),(.v .undef),(.v .undef),(.v .undef),(.v .undef),(.v .undef),(.v .undef),(.v .undef)] []))):=by kernel_rfl
set_option maxHeartbeats 1000000 in
theorem pi5(C:bl)(yl:Nat)(x xs:D)(m i:SV)(ys:SV)(k j:SV)(Q:Ex→Env→Prop):aw Go.Proofs.Try.prog gl C ia (sA El) Q ⟨zQ yl x xs m i ys k j,[]⟩=(
 ab (aQ 6 (aa ys) (aa j)) fun r0=>
 ab (aI true 6 (aa r0)) fun r1=>
 ab (az (aa r1)) fun r2=>
 (List.length r2)=6∧
 6≤6∧
 (Q Ex.normal (Env.mk [(.v (.d (.fn (.yield yl)))),(.v (.aT x 0)),(.v .undef),(.v .undef),(.v .undef),(.v .undef),(.p (0+0) 0),(.v (.d xs)),(.v m),(.v i),(.v .undef),(.v .undef),(.v .undef),(.v .undef),(.v ys),(.v k),(.v j),(.v .undef),(.v r0),(.v r1),(.v .undef),(.v .undef),(.v .undef),(.v .undef),(.v .undef),(.v .undef)] [(af.cells (setAt [(.d (.int .i64 0)),(.d (.str [])),(.d (.bool false)),(.d (.sl .nil 0 [])),(.d (.int .i64 0)),(.d (.int .i64 0))] 0 r2))]))):=by kernel_rfl
set_option maxHeartbeats 1000000 in
theorem afq(C:bl)(yl:Nat)(x xs:D)(m i:SV)(ys:SV)(k j u v:SV)(cs:List SV)(Q:Env→Prop):m5 Go.Proofs.Try.prog gl C qt.toList 0 false (o6 0) ⟨Hb yl x xs m i ys k j u v .undef .undef .undef,[.cells cs]⟩ Q=(
 (Q (Env.mk [(.v (.d (.fn (.yield yl)))),(.v (.aT x 0)),(.v .undef),(.v .undef),(.v .undef),(.v .undef),(.p 0 0),(.v (.d xs)),(.v m),(.v i),(.v .undef),(.v .undef),(.v .undef),(.v .undef),(.v ys),(.v k),(.v j),(.v .undef),(.v u),(.v v),(.v (.d (.fn (.yield yl)))),(.v .undef),(.v .undef),(.v .undef),(.v .undef),(.v .undef)] [(af.cells cs)]))):=by kernel_rfl
set_option maxHeartbeats 1000000 in
theorem afr(C:bl)(yl:Nat)(x xs:D)(m i:SV)(ys:SV)(k j u v t20:SV)(cs:List SV)(Q:Env→Prop):m5 Go.Proofs.Try.prog gl C qt.toList 0 false (o6 1) ⟨Hb yl x xs m i ys k j u v t20 .undef .undef,[.cells cs]⟩ Q=(
 ab (ah true 6 0 cs) fun r0=>
 (Q (Env.mk [(.v (.d (.fn (.yield yl)))),(.v (.aT x 0)),(.v .undef),(.v .undef),(.v .undef),(.v .undef),(.p 0 0),(.v (.d xs)),(.v m),(.v i),(.v .undef),(.v .undef),(.v .undef),(.v .undef),(.v ys),(.v k),(.v j),(.v .undef),(.v u),(.v v),(.v t20),(.v (aa r0)),(.v .undef),(.v .undef),(.v .undef),(.v .undef)] [(af.cells cs)]))):=by kernel_rfl
set_option maxHeartbeats 1000000 in
theorem SZ(C:bl)(yl:Nat)(x xs:D)(m i:SV)(ys:SV)(k j u v t20 t21:SV)(b:Bool)(cs:List SV)(Q:Env→Prop):m5 Go.Proofs.Try.prog gl C qt.toList 0 false (o6 3) ⟨Hb yl x xs m i ys k j u v t20 t21 (.d (.bool b)),[.cells cs]⟩ Q=(
 ab (eG .not (.d (.bool b))) fun r0=>
 (Q (Env.mk [(.v (.d (.fn (.yield yl)))),(.v (.aT x 0)),(.v .undef),(.v .undef),(.v .undef),(.v .undef),(.p 0 0),(.v (.d xs)),(.v m),(.v i),(.v .undef),(.v .undef),(.v .undef),(.v .undef),(.v ys),(.v k),(.v j),(.v .undef),(.v u),(.v v),(.v t20),(.v t21),(.v (.d (.bool b))),(.v r0),(.v .undef),(.v .undef)] [(af.cells cs)]))):=by kernel_rfl
set_option maxHeartbeats 1000000 in
theorem pi7(C:bl)(yl:Nat)(x xs:D)(m i:SV)(ys:SV)(k j:SV)(Q:Ex→Env→Prop):aw Go.Proofs.Try.prog gl C ia (sB (sB (sB cI))) Q ⟨zQ yl x xs m i ys k j,[]⟩=(
 ab (ag none .add (aa j) (.d (.int .i64 1))) fun r0=>
 (Q Ex.normal (Env.mk [(.v (.d (.fn (.yield yl)))),(.v (.aT x 0)),(.v .undef),(.v .undef),(.v .undef),(.v .undef),(.v .undef),(.v (.d xs)),(.v m),(.v i),(.v .undef),(.v .undef),(.v .undef),(.v .undef),(.v ys),(.v k),(.v (aa r0)),(.v .undef),(.v .undef),(.v .undef),(.v .undef),(.v .undef),(.v .undef),(.v .undef),(.v r0),(.v .undef)] []))):=by kernel_rfl
set_option maxHeartbeats 1000000 in
theorem pi8(C:bl)(yl:Nat)(x xs:D)(m i:SV)(Q:Ex→Env→Prop):aw Go.Proofs.Try.prog gl C ia (sB (sB (sB cO))) Q ⟨BH yl x xs m i,[]⟩=(
 ab (ag none .add (aa i) (.d (.int .i64 1))) fun r0=>
 (Q Ex.normal (Env.mk [(.v (.d (.fn (.yield yl)))),(.v (.aT x 0)),(.v .undef),(.v .undef),(.v .undef),(.v .undef),(.v .undef),(.v (.d xs)),(.v m),(.v (aa r0)),(.v .undef),(.v .undef),(.v .undef),(.v .undef),(.v .undef),(.v .undef),(.v .undef),(.v .undef),(.v .undef),(.v .undef),(.v .undef),(.v .undef),(.v .undef),(.v .undef),(.v .undef),(.v r0)] []))):=by kernel_rfl
end Go.Proofs.Ytimbllcalipehaa.Ab
namespace Go.Proofs.Ytimbllcalipehaa.Ab
open Go
set_option linter.unusedVariables false
set_option maxRecDepth 4000
theorem abd:Bk=.seq (sA Bk) (.block 0 (.loop cO)):=by kernel_rfl
theorem aej:cO=.seq (sA cO) (.seq (.cond (.tmp 10) .skip (.exit 0)) (.seq (.block 1 zP) (sB (sB (sB cO))))):=by kernel_rfl
theorem adh:zP=.seq (sA zP) (.seq (sA (sB zP)) (.block 2 (.loop cI))):=by kernel_rfl
theorem aek:cI=.seq (sA cI) (.seq (.cond (.tmp 17) .skip (.exit 2)) (.seq (.block 3 El) (sB (sB (sB cI))))):=by kernel_rfl
theorem adi:El=.seq (sA El) (.seq (.region 6 qt false) (.cond (.tmp 23) .ret .skip)):=by kernel_rfl
theorem Yr:qt.size=4:=by kernel_rfl
theorem afs:qt[0]? =some (o6 0):=by kernel_rfl
theorem aft:qt[1]? =some (o6 1):=by kernel_rfl
theorem afu:qt[2]? =some (o6 2):=by kernel_rfl
theorem S1:qt[3]? =some (o6 3):=by kernel_rfl
theorem ael:(o6 2).guard =none:=by kernel_rfl
theorem aem:(o6 2).dst =some 22:=by kernel_rfl
theorem aen:(o6 2).op =.call {callee:=.value (.tmp 20),args:= #[.tmp 21],argTypes:= #[87]}:=by kernel_rfl
theorem Ys(yl:Nat)(x xs m i k j z:D)(ys:SV)(zm:ys.oD=true)(zn:ys.ay=true)(cs:List SV)(h1:SV.pj cs=true)(h2:SV.gM cs=true):FN ⟨Hb yl x xs (.d m) (.d i) ys (.d k) (.d j) (.aT z 0) (.d z) (.d (.fn (.yield yl))) (.d z) .undef,[.cells cs]⟩:=by
 refine⟨?_,?_⟩
 ·show ∀s∈[_,_,_,_,_,_,_,_,_,_,_,_,_,_,_,_,_,_,_,_,_,_,_,_,_,_],Plain s
  repeat (refine List.forall_mem_cons.2 ⟨?_,?_⟩;·first|exact .v _ rfl rfl|exact .p _ _|exact .v _ zm zn)
  intro s hs;cases hs
 ·intro bx hb
  rw[List.mem_singleton.1 hb]
  exact⟨h1,h2⟩
theorem Qf(s:aj):SV.pj s.cells=true∧SV.gM s.cells=true:=⟨rfl,rfl⟩
section
variable{x xs m i:D}{ys:SV}
theorem ZG(C:su Try.prog gl)(pre ss rest:List aj)(hL:C.L=aF (pre++ss++rest))(hy:gz 6 (aF ss) ys)(hn:ss.length≤maxLen){e:Env}(hw:w6 (zQ C.l x xs (.d m) (.d i) ys (.d (.int .i64 (ss.length:Int))) (.d (.int .i64 ((0:Nat):Int)))) e.ai):
  IW C 0 (.loop cI) (fun ex e' log q=>(ex=.exit 2∧q=none∧log=aF (pre++ss)∧w6 (BH C.l x xs (.d m) (.d i)) e'.ai)∨(ex=.ret ∧q=some ())) e (aF pre) none:=by
 refine IW.loop (fun k e log q=>∃j,k+j=ss.length∧q=none∧log=aF (pre++ss.take j)∧w6 (zQ C.l x xs (.d m) (.d i) ys (.d (.int .i64 (ss.length:Int))) (.d (.int .i64 ((j:Nat):Int)))) e.ai) ?_ ss.length e _ _ ⟨0,by omega,rfl,by simp,hw⟩
 rintro k e log q ⟨j,hk,rfl,rfl,hw⟩
 rw[aek]
 refine IW.AZ hw ?_
 refine IW.seq (IW.aw (hh:=ia) bA ?_)
 rw[pi4]
 simp only[sS,sT,sZ,QR]
 refine IW.seq (IW.cond (b:=decide ((j:Int)<(ss.length:Int))) rfl ?_)
 by_cases hj:j<ss.length
 ·rw[if_pos (by simpa using hj)]
  refine IW.aw (hh:=ia) bA ?_
  show IW C 0 _ _ _ _ _
  refine IW.seq (IW.block ?_)
  refine IW.AZ (sh:=zQ C.l x xs (.d m) (.d i) ys (.d (.int .i64 (ss.length:Int))) (.d (.int .i64 ((j:Nat):Int)))) (by((repeat (refine And.intro ?_ ?_;·first|exact .inl rfl|exact .inr ⟨_,rfl,rfl⟩|exact .inr ⟨_,rfl,congrArg Slot.v (gz.kR (by assumption)).symm⟩));exact trivial)) ?_
  rw[adi]
  refine IW.seq (IW.aw (hh:=ia) bA ?_)
  rw[pi5]
  have hyp:ys.oD=true∧ys.ay=true:=by cases hy<;>exact⟨rfl,rfl⟩
  obtain⟨s,hs⟩:=get_some hj
  simp only[hy.kR,hy.at (k9 hs),sS,sT,sZ,p7,eV,eM,fV]
  refine IW.seq (IW.region ?_)
  rw[Yr]
  show OW C 0 qt _ [0,1,2,3] _ _ _
  refine OW.step (id:=0) (aE:=false) afs ?_
  refine(afq _ C.l x xs (.d m) (.d i) ys (.d (.int .i64 (ss.length:Int))) (.d (.int .i64 ((j:Nat):Int))) (.aT s.enc 0) (.d s.enc) s.cells _).mpr ?_
  refine OW.step (id:=0) (aE:=false) aft ?_
  refine(afr _ C.l x xs (.d m) (.d i) ys (.d (.int .i64 (ss.length:Int))) (.d (.int .i64 ((j:Nat):Int))) (.aT s.enc 0) (.d s.enc) (.d (.fn (.yield C.l))) s.cells _).mpr ?_
  rw[eE]
  show OW C 0 qt _ [2,3] _ _ _
  have afv:C.L[(aF (pre++ss.take j)).length]? =some s.enc:=by
   rw[hL,dN]
   refine k9 ?_
   rw[List.length_append,List.length_take,Nat.min_eq_left (by omega),List.append_assoc,List.getElem?_append_right (by omega)]
   rw[Nat.add_sub_cancel_left,List.getElem?_append_left hj,hs]
  have Sp:aF (pre++ss.take j)++[s.enc]=aF (pre++ss.take (j+1)):=by
   rw[dZ hs,←List.append_assoc,←yu]
  refine OW.yield afu ael aen rfl rfl aem rfl rfl afv (Ys C.l x xs m i _ _ s.enc ys hyp.1 hyp.2 s.cells (Qf s).1 (Qf s).2) ?_ ?_
  ·refine OW.step (id:=0) (aE:=false) S1 ?_
   refine(SZ _ C.l x xs (.d m) (.d i) ys (.d (.int .i64 (ss.length:Int))) (.d (.int .i64 ((j:Nat):Int))) (.aT s.enc 0) (.d s.enc) (.d (.fn (.yield C.l))) (.d s.enc) true s.cells _).mpr ?_
   refine OW.nil ?_
   show IW C 0 _ _ _ _ _
   refine IW.cond (b:=false) rfl ?_
   rw[if_neg (by simp)]
   refine IW.aw (hh:=ia) bA ?_
   show IW C 0 _ _ _ _ _
   refine IW.AZ (sh:=zQ C.l x xs (.d m) (.d i) ys (.d (.int .i64 (ss.length:Int))) (.d (.int .i64 ((j:Nat):Int)))) (by((repeat (refine And.intro ?_ ?_;·first|exact .inl rfl|exact .inr ⟨_,rfl,rfl⟩|exact .inr ⟨_,rfl,congrArg Slot.v (gz.kR (by assumption)).symm⟩));exact trivial)) ?_
   refine IW.aw (hh:=ia) bA ?_
   rw[pi7]
   simp only[sS,sT,sZ]
   refine aP (aY hj hn) ?_
   refine⟨k-1,by omega,j+1,by omega,?_⟩
   first|exact⟨rfl,Sp,by((repeat (refine And.intro ?_ ?_;·first|exact .inl rfl|exact .inr ⟨_,rfl,rfl⟩|exact .inr ⟨_,rfl,congrArg Slot.v (gz.kR (by assumption)).symm⟩));exact trivial)⟩|exact⟨Sp,by((repeat (refine And.intro ?_ ?_;·first|exact .inl rfl|exact .inr ⟨_,rfl,rfl⟩|exact .inr ⟨_,rfl,congrArg Slot.v (gz.kR (by assumption)).symm⟩));exact trivial)⟩
  ·refine OW.step (id:=0) (aE:=false) S1 ?_
   refine(SZ _ C.l x xs (.d m) (.d i) ys (.d (.int .i64 (ss.length:Int))) (.d (.int .i64 ((j:Nat):Int))) (.aT s.enc 0) (.d s.enc) (.d (.fn (.yield C.l))) (.d s.enc) false s.cells _).mpr ?_
   refine OW.nil ?_
   show IW C 0 _ _ _ _ _
   refine IW.cond (b:=true) rfl ?_
   rw[if_pos rfl]
   refine IW.aw (hh:=ia) bA ?_
   first|exact .inr ⟨rfl,rfl⟩|exact .inr rfl
 ·rw[if_neg (by simpa using hj)]
  refine IW.aw (hh:=ia) bA ?_
  have hje:j=ss.length:=by omega
  refine .inl ⟨rfl,rfl,by rw[hje,List.take_length],?_⟩
  ((repeat (refine And.intro ?_ ?_;·first|exact .inl rfl|exact .inr ⟨_,rfl,rfl⟩|exact .inr ⟨_,rfl,congrArg Slot.v (gz.kR (by assumption)).symm⟩));exact trivial)
end
structure A1(aG:List fp)(L:List D):Prop where
 len:L.length=aG.length
 at_:∀(i:Nat)s,aG[i]? =some s→∃y,L[i]? =some y∧rS s y∧s.list.length≤2^30∧s.iT.length≤2^30∧(bJ s).length ≤2^40
theorem OP{cs l:List SV}(h:l.length=cs.length):setAt cs 0 l=l:=by
 rw[Af l cs 0 (by omega)]
 simp[←h]
theorem HY{aG:List fp}{i:Nat}{s:fp}(h:aG[i]? =some s):aG.flatMap bJ=(aG.take i).flatMap bJ++bJ s++(aG.drop (i+1)).flatMap bJ:=by
 have:=List.take_append_drop i aG
 conv=>lhs;rw[←this,uH h]
 simp[List.flatMap_append,List.append_assoc]
theorem VY(aG:List fp){L:List D}{xs:D}(hx:aW 55 L xs)(hs:A1 aG L)(hn:aG.length≤maxLen):Iter Try.prog gl 82 [.aT xs 0] (aF (aG.flatMap bJ)):=by
 refine aaO bA (fn:=Try.f82) (c:=Bk) rfl rfl (bV (fn:=Try.f82) (by kernel_rfl) (by kernel_rfl) (by kernel_rfl)) rfl fun C hL _=>?_
 rw[abd]
 refine IW.seq (IW.aw (hh:=ia) bA ?_)
 show aw Try.prog gl _ ia (sA Bk) _ (enter 26 _)
 rw[pi0]
 have ME:aI false 1 (.aT xs 0)=some (.d xs):=by cases hx<;>rfl
 simp only[ME,sS,sT,sZ,hx.len]
 refine IW.block ?_
 refine IW.mono (Q:=fun ex e' log q=>(ex=.exit 0∧q=none∧log=aF (aG.flatMap bJ))∨(ex=.ret ∧q=some ())) ?_ ?_
 rotate_left
 ·rintro ex e l q (⟨rfl,rfl,rfl⟩|⟨rfl,rfl⟩)
  ·exact⟨.inl rfl,fun _=>rfl⟩
  ·exact⟨.inr rfl,fun h=>by cases h⟩
 refine IW.loop (fun k e log q=>∃i,k+i=aG.length∧q=none∧log=aF ((aG.take i).flatMap bJ)∧w6 (BH C.l xs xs (.d (.int .i64 (aG.length:Int))) (.d (.int .i64 ((i:Nat):Int)))) e.ai) ?_ aG.length _ _ _ ⟨0,by omega,rfl,rfl,?_⟩
 rotate_left
 ·rw[←hs.len];((repeat (refine And.intro ?_ ?_;·first|exact .inl rfl|exact .inr ⟨_,rfl,rfl⟩|exact .inr ⟨_,rfl,congrArg Slot.v (gz.kR (by assumption)).symm⟩));exact trivial)
 rintro k e log q ⟨i,hk,rfl,rfl,hw⟩
 rw[aej]
 refine IW.AZ hw ?_
 refine IW.seq (IW.aw (hh:=ia) bA ?_)
 rw[pi1]
 simp only[sS,sT,sZ,QR]
 refine IW.seq (IW.cond (b:=decide ((i:Int)<(aG.length:Int))) rfl ?_)
 by_cases hi:i<aG.length
 ·rw[if_pos (by simpa using hi)]
  refine IW.aw (hh:=ia) bA ?_
  show IW C 0 _ _ _ _ _
  refine IW.seq (IW.block ?_)
  refine IW.AZ (sh:=BH C.l xs xs (.d (.int .i64 (aG.length:Int))) (.d (.int .i64 ((i:Nat):Int)))) (by((repeat (refine And.intro ?_ ?_;·first|exact .inl rfl|exact .inr ⟨_,rfl,rfl⟩|exact .inr ⟨_,rfl,congrArg Slot.v (gz.kR (by assumption)).symm⟩));exact trivial)) ?_
  rw[adh]
  refine IW.seq (IW.aw (hh:=ia) bA ?_)
  rw[pi2]
  obtain⟨s,mr⟩:=get_some hi
  obtain⟨y,hy,aR,jj,dV,Mg⟩:=hs.at_ i s mr
  have rM:=aR
  have ME:=aR.load
  cases aR with
  |mk r5 r6 cC al rest h ic lE=>
  simp only[hx.at hy,sS,sT,sZ,ME,jb,gN,h]
  rw[OP (by simp[gw,h])]
  refine IW.seq (IW.aw (hh:=ia) bA ?_)
  refine(pi3 _ C.l xs xs (.d (.int .i64 (aG.length:Int))) (.d (.int .i64 ((i:Nat):Int))) (.aT _ 0) (.d _) (gw s r5 r6 cC al rest) _).mpr ?_
  simp only[lO _ _ _ _ _ _ h,sS,sT,sZ]
  obtain⟨r,⟨GY,hr2⟩,Mf⟩:=VJ rM jj dV
  refine cw Mf hr2 ?_
  simp only[GY.len,dN,sS,sT,sZ]
  refine IW.block (IW.mono (ZG (x:=xs) (xs:=xs) (m:=.int .i64 (aG.length:Int)) (i:=.int .i64 ((i:Nat):Int)) C ((aG.take i).flatMap bJ) (bJ s) ((aG.drop (i+1)).flatMap bJ) (by rw[hL,HY mr]) GY (by simp only[maxLen];omega) (by((repeat (refine And.intro ?_ ?_;·first|exact .inl rfl|exact .inr ⟨_,rfl,rfl⟩|exact .inr ⟨_,rfl,congrArg Slot.v (gz.kR (by assumption)).symm⟩));exact trivial))) ?_)
  rintro ex e2 l2 q2 (⟨rfl,rfl,rfl,hw2⟩|⟨rfl,rfl⟩)
  ·show IW C 0 _ _ _ _ _
   refine IW.AZ hw2 ?_
   refine IW.aw (hh:=ia) bA ?_
   rw[pi8]
   simp only[sS,sT,sZ]
   refine aP (aY hi hn) ?_
   refine⟨k-1,by omega,i+1,by omega,?_⟩
   have rZ:aF ((aG.take i).flatMap bJ++bJ s)=aF ((aG.take (i+1)).flatMap bJ):=by rw[dZ mr];simp
   first|exact⟨rfl,rZ,by((repeat (refine And.intro ?_ ?_;·first|exact .inl rfl|exact .inr ⟨_,rfl,rfl⟩|exact .inr ⟨_,rfl,congrArg Slot.v (gz.kR (by assumption)).symm⟩));exact trivial)⟩|exact⟨rZ,by((repeat (refine And.intro ?_ ?_;·first|exact .inl rfl|exact .inr ⟨_,rfl,rfl⟩|exact .inr ⟨_,rfl,congrArg Slot.v (gz.kR (by assumption)).symm⟩));exact trivial)⟩
  ·first|exact .inr ⟨rfl,rfl⟩|exact .inr rfl
 ·rw[if_neg (by simpa using hi)]
  refine IW.aw (hh:=ia) bA ?_
  have hie:i=aG.length:=by omega
  exact .inl ⟨rfl,rfl,by rw[hie,List.take_length]⟩
end Go.Proofs.Ytimbllcalipehaa.Ab
set_option maxRecDepth 100000
namespace Go.Proofs.Ytimbllcalipehaa.Ab
open Go
def sJ:Hints:=⟨[(8,0),(8,3),(8,4),(20,10),(22,0),(22,3),(22,4)],[(14,[8,44,45,46],[2,3,4,5,9,43])],[(7,[]),(12,[.emp 8]),(13,[.pC 5 []]),(20,[.box 8 6]),(21,[.box 8 6]),(22,[.jV 8 true 6 [96]]),(23,[.jV 8 true 6 [80,82,84,85,92,93]]),(24,[.jW 8])]⟩
noncomputable def vH:Code:=Go.Proofs.Try.f50.body.getD .skip
noncomputable def Ld:Code:=Go.Proofs.Try.f67.body.getD .skip
def Hc:Code→Code| .block _ (.rangeFunc _ _ a _)=>a|c=>c
def Hd:Code→Code| .block _ (.rangeFunc _ _ _ b)=>b|c=>c
noncomputable def w7:Code:=(fL vH).getD 4 .skip
def rG:List Slot:=[.v .undef,.v .undef,.p 0 0,.p 1 0,.p 2 0,.p 4 0]++List.replicate 99 (.v .undef)
def F8(al:SV)(m:List (MK×D)):List af:=[.cells [.d (.sl .nil 0 [])],.cells [.d (.int .i64 0),.d (.int .i64 0),.d (.int .i64 0),.d (.str [])],.cells [al],.map m,.one (.m 3)]
set_option maxHeartbeats 1000000 in
theorem adj(f1 f2 f3 f4:D)(al:SV)(m:List (MK×D))(K:SV→Prop):finish Go.Proofs.Try.prog Go.Proofs.Try.f50 ⟨rG,[.cells [.d (.sl .nil 0 [])],.cells [.d f1,.d f2,.d f3,.d f4],.cells [al],.map m,.one (.m 3)]⟩ K=(ab (ah false 1 0 [(.d (.sl .nil 0 []))]) fun r0=>(SV.ay (aa r0))=true∧ab (ah true 4 0 [(.d f1),(.d f2),(.d f3),(.d f4)]) fun r1=>(SV.ay (aa r1))=true∧(K (.aL [(aa r0),(aa r1)]))):=by kernel_rfl
set_option maxHeartbeats 1000000 in
theorem adk(C:bl)(x:D)(Q:Ex→Env→Prop):aw Go.Proofs.Try.prog gl C ia Ld Q (enter 4 [.d x])=(ab (az (.d x)) fun r0=>(List.length r0)=1∧(Q Ex.ret (Env.mk [(.v (.d x)),(.p (0+0) 0),(.c (.func 82) [] [(.p (0+0) 0)]),(.c (.func 82) [] [(.p (0+0) 0)])] [(af.cells r0)]))):=by kernel_rfl
set_option maxHeartbeats 1000000 in
theorem adl(C:bl)(x0:SV)(Q:Ex→Env→Prop):kq Go.Proofs.Try.prog gl C sJ ((fL vH).take 4) Q (enter 105 [x0])=(aS C 67 [(aa (aa (aa x0)))] fun r0=>(Q Ex.normal (Env.mk ([(.v x0),(.v .undef),(.p (0+0) 0),(.p (0+1) 0),(.p ((List.length [(af.cells [(.d (.sl .nil 0 []))]),(af.cells [(.d (.int .i64 0)),(.d (.int .i64 0)),(.d (.int .i64 0)),(.d (.str []))])])+0) 0),(.p ((List.length [(af.cells [(.d (.sl .nil 0 []))]),(af.cells [(.d (.int .i64 0)),(.d (.int .i64 0)),(.d (.int .i64 0)),(.d (.str []))]),(af.cells [(.d (.sl .nil 0 []))])])+1) 0),(.v .undef),(.v .undef),(.v .undef),(.v .undef),(.v .undef),(.v .undef),(.v .undef),(.v .undef),(.v .undef),(.m ((List.length [(af.cells [(.d (.sl .nil 0 []))]),(af.cells [(.d (.int .i64 0)),(.d (.int .i64 0)),(.d (.int .i64 0)),(.d (.str []))]),(af.cells [(.d (.sl .nil 0 []))])])+0)),(.v (aa x0)),(.v r0)]++List.replicate 87 (.v .undef)) [(af.cells [(.d (.sl .nil 0 []))]),(af.cells [(.d (.int .i64 0)),(.d (.int .i64 0)),(.d (.int .i64 0)),(.d (.str []))]),(af.cells [(.d (.sl .nil 0 []))]),(af.map []),(af.one (.m ((List.length [(af.cells [(.d (.sl .nil 0 []))]),(af.cells [(.d (.int .i64 0)),(.d (.int .i64 0)),(.d (.int .i64 0)),(.d (.str []))]),(af.cells [(.d (.sl .nil 0 []))])])+0)))]))):=by kernel_rfl
set_option maxHeartbeats 1000000 in
theorem adm(C:bl)(d:D)(al:SV)(m:List (MK×D))(Q:Ex→List af→Prop):aw Go.Proofs.Try.prog gl C sJ (Hc w7) (fun x e1=>x=.normal ∧aw Go.Proofs.Try.prog gl C sJ (Hd w7) (fun x e2=>Q x (e2.boxes.take 5)) e1) ⟨cq rG (some 18) (.v (.d d)),F8 al m⟩=(ab (az (.d d)) fun r0=>(List.length r0)=6∧6≤6∧Ex.normal=Ex.normal∧ab (ah false 1 0 [al]) fun r1=>ab (ah true 6 0 (setAt [(.d (.int .i64 0)),(.d (.str [])),(.d (.bool false)),(.d (.sl .nil 0 [])),(.d (.int .i64 0)),(.d (.int .i64 0))] 0 r0)) fun r2=>aS C 68 [(aa (aa (aa r1))),(aa (aa (aa r2)))] fun r3=>ab (ag (some (false,[.int])) .neq (aa (aa (aa r3))) (.d (.int .i64 0))) fun r4=>ar r4 (ab (ah true 2 4 (setAt [(.d (.int .i64 0)),(.d (.str [])),(.d (.bool false)),(.d (.sl .nil 0 [])),(.d (.int .i64 0)),(.d (.int .i64 0))] 0 r0)) fun r5=>ab (ah false 1 1 (setAt [(.d (.int .i64 0)),(.d (.str [])),(.d (.bool false)),(.d (.sl .nil 0 [])),(.d (.int .i64 0)),(.d (.int .i64 0))] 0 r0)) fun r6=>ab (aN [(0,(.v (aa (aa (aa r3))))),(1,(.v (aa (aa r5)))),(2,(.v (aa (aa r6))))]) fun r7=>ab (cS Proofs.Try.prog 30 r7) fun r8=>ab (az (.d (.sl .nil 0 []))) fun r9=>(List.length r9)=1∧1≤1∧ab (az (.d r8)) fun bD=>(List.length bD)=4∧4≤4∧((ab (ah true 2 4 (setAt [(.d (.int .i64 0)),(.d (.str [])),(.d (.bool false)),(.d (.sl .nil 0 [])),(.d (.int .i64 0)),(.d (.int .i64 0))] 0 r0)) fun cb=>(ab (ah false 1 1 (setAt [(.d (.int .i64 0)),(.d (.str [])),(.d (.bool false)),(.d (.sl .nil 0 [])),(.d (.int .i64 0)),(.d (.int .i64 0))] 0 r0)) fun bT=>ab (aN [(0,(.v (aa (aa (aa r3))))),(1,(.v (aa (aa cb)))),(2,(.v (aa (aa bT))))]) fun cm=>ab (cS Proofs.Try.prog 30 cm) fun bG=>ab (az (.d (.sl .nil 0 []))) fun bU=>(List.length bU)=1∧1≤1∧ab (az (.d bG)) fun bM=>(List.length bM)=4∧4≤4∧(Eq (Env.mk ([(.v .undef),(.v .undef),(.p 0 0),(.p 1 0),(.p 2 0),(.p 4 0),(.p ((List.length [(af.cells [(.d (.sl .nil 0 []))]),(af.cells [(.d (.int .i64 0)),(.d (.int .i64 0)),(.d (.int .i64 0)),(.d (.str []))]),(af.cells [al]),(af.map m),(af.one (.m 3))])+0) 0),(.v (aa r3)),(.v .undef),(.v .undef),(.v .undef),(.v .undef),(.v .undef),(.v .undef),(.v .undef),(.v .undef),(.v .undef),(.v .undef),(.v (.d d)),(.v (aa r1)),(.v (aa r2)),(.v r3),(.v (aa (aa r3))),(.v (.d (.bool true))),(.v (aa (aa r3))),(.p ((List.length [(af.cells [(.d (.sl .nil 0 []))]),(af.cells [(.d (.int .i64 0)),(.d (.int .i64 0)),(.d (.int .i64 0)),(.d (.str []))]),(af.cells [al]),(af.map m),(af.one (.m 3))])+0) 4),(.v (aa cb)),(.p ((List.length [(af.cells [(.d (.sl .nil 0 []))]),(af.cells [(.d (.int .i64 0)),(.d (.int .i64 0)),(.d (.int .i64 0)),(.d (.str []))]),(af.cells [al]),(af.map m),(af.one (.m 3))])+0) 1),(.v (aa bT)),(.v (.d bG))]++List.replicate 75 (.v .undef)) [(af.cells (setAt [(.d (.sl .nil 0 []))] 0 bU)),(af.cells (setAt [(.d (.int .i64 0)),(.d (.int .i64 0)),(.d (.int .i64 0)),(.d (.str []))] 0 bM)),(af.cells [al]),(af.map m),(af.one (.m 3)),(af.cells (setAt [(.d (.int .i64 0)),(.d (.str [])),(.d (.bool false)),(.d (.sl .nil 0 [])),(.d (.int .i64 0)),(.d (.int .i64 0))] 0 r0))]) (Env.mk ([(.v .undef),(.v .undef),(.p 0 0),(.p 1 0),(.p 2 0),(.p 4 0),(.p ((List.length [(af.cells [(.d (.sl .nil 0 []))]),(af.cells [(.d (.int .i64 0)),(.d (.int .i64 0)),(.d (.int .i64 0)),(.d (.str []))]),(af.cells [al]),(af.map m),(af.one (.m 3))])+0) 0),(.v (aa r3)),(.v .undef),(.v .undef),(.v .undef),(.v .undef),(.v .undef),(.v .undef),(.v .undef),(.v .undef),(.v .undef),(.v .undef),(.v (.d d)),(.v (aa r1)),(.v (aa r2)),(.v r3),(.v (aa (aa r3))),(.v (.d (.bool true))),(.v (aa (aa r3))),(.p ((List.length [(af.cells [(.d (.sl .nil 0 []))]),(af.cells [(.d (.int .i64 0)),(.d (.int .i64 0)),(.d (.int .i64 0)),(.d (.str []))]),(af.cells [al]),(af.map m),(af.one (.m 3))])+0) 4),(.v (aa r5)),(.p ((List.length [(af.cells [(.d (.sl .nil 0 []))]),(af.cells [(.d (.int .i64 0)),(.d (.int .i64 0)),(.d (.int .i64 0)),(.d (.str []))]),(af.cells [al]),(af.map m),(af.one (.m 3))])+0) 1),(.v (aa r6)),(.v (.d r8))]++List.replicate 75 (.v .undef)) [(af.cells (setAt [(.d (.sl .nil 0 []))] 0 r9)),(af.cells (setAt [(.d (.int .i64 0)),(.d (.int .i64 0)),(.d (.int .i64 0)),(.d (.str []))] 0 bD)),(af.cells [al]),(af.map m),(af.one (.m 3)),(af.cells (setAt [(.d (.int .i64 0)),(.d (.str [])),(.d (.bool false)),(.d (.sl .nil 0 [])),(.d (.int .i64 0)),(.d (.int .i64 0))] 0 r0))])))∧ab (az (.d (.sl .nil 0 []))) fun cd=>(List.length cd)=1∧1≤1∧ab (ah false 1 1 (setAt [(.d (.int .i64 0)),(.d (.str [])),(.d (.bool false)),(.d (.sl .nil 0 [])),(.d (.int .i64 0)),(.d (.int .i64 0))] 0 r0)) fun bY=>ab (aN [(0,(.v (aa (aa (aa r3))))),(1,(.v (aa (aa cb)))),(2,(.v (aa (aa bY))))]) fun di=>ab (cS Proofs.Try.prog 30 di) fun cQ=>ab (az (.d cQ)) fun ck=>(List.length ck)=4∧4≤4∧(Eq (Env.mk ([(.v .undef),(.v .undef),(.p 0 0),(.p 1 0),(.p 2 0),(.p 4 0),(.p ((List.length [(af.cells [(.d (.sl .nil 0 []))]),(af.cells [(.d (.int .i64 0)),(.d (.int .i64 0)),(.d (.int .i64 0)),(.d (.str []))]),(af.cells [al]),(af.map m),(af.one (.m 3))])+0) 0),(.v (aa r3)),(.v .undef),(.v .undef),(.v .undef),(.v .undef),(.v .undef),(.v .undef),(.v .undef),(.v .undef),(.v .undef),(.v .undef),(.v (.d d)),(.v (aa r1)),(.v (aa r2)),(.v r3),(.v (aa (aa r3))),(.v (.d (.bool true))),(.v (aa (aa r3))),(.p ((List.length [(af.cells [(.d (.sl .nil 0 []))]),(af.cells [(.d (.int .i64 0)),(.d (.int .i64 0)),(.d (.int .i64 0)),(.d (.str []))]),(af.cells [al]),(af.map m),(af.one (.m 3))])+0) 4),(.v (aa cb)),(.p ((List.length [(af.cells [(.d (.sl .nil 0 []))]),(af.cells [(.d (.int .i64 0)),(.d (.int .i64 0)),(.d (.int .i64 0)),(.d (.str []))]),(af.cells [al]),(af.map m),(af.one (.m 3))])+0) 1),(.v (aa bY)),(.v (.d cQ))]++List.replicate 75 (.v .undef)) [(af.cells (setAt [(.d (.sl .nil 0 []))] 0 cd)),(af.cells (setAt [(.d (.int .i64 0)),(.d (.int .i64 0)),(.d (.int .i64 0)),(.d (.str []))] 0 ck)),(af.cells [al]),(af.map m),(af.one (.m 3)),(af.cells (setAt [(.d (.int .i64 0)),(.d (.str [])),(.d (.bool false)),(.d (.sl .nil 0 [])),(.d (.int .i64 0)),(.d (.int .i64 0))] 0 r0))]) (Env.mk ([(.v .undef),(.v .undef),(.p 0 0),(.p 1 0),(.p 2 0),(.p 4 0),(.p ((List.length [(af.cells [(.d (.sl .nil 0 []))]),(af.cells [(.d (.int .i64 0)),(.d (.int .i64 0)),(.d (.int .i64 0)),(.d (.str []))]),(af.cells [al]),(af.map m),(af.one (.m 3))])+0) 0),(.v (aa r3)),(.v .undef),(.v .undef),(.v .undef),(.v .undef),(.v .undef),(.v .undef),(.v .undef),(.v .undef),(.v .undef),(.v .undef),(.v (.d d)),(.v (aa r1)),(.v (aa r2)),(.v r3),(.v (aa (aa r3))),(.v (.d (.bool true))),(.v (aa (aa r3))),(.p ((List.length [(af.cells [(.d (.sl .nil 0 []))]),(af.cells [(.d (.int .i64 0)),(.d (.int .i64 0)),(.d (.int .i64 0)),(.d (.str []))]),(af.cells [al]),(af.map m),(af.one (.m 3))])+0) 4),(.v (aa r5)),(.p ((List.length [(af.cells [(.d (.sl .nil 0 []))]),(af.cells [(.d (.int .i64 0)),(.d (.int .i64 0)),(.d (.int .i64 0)),(.d (.str []))]),(af.cells [al]),(af.map m),(af.one (.m 3))])+0) 1),(.v (aa r6)),(.v (.d r8))]++List.replicate 75 (.v .undef)) [(af.cells (setAt [(.d (.sl .nil 0 []))] 0 r9)),(af.cells (setAt [(.d (.int .i64 0)),(.d (.int .i64 0)),(.d (.int .i64 0)),(.d (.str []))] 0 bD)),(af.cells [al]),(af.map m),(af.one (.m 3)),(af.cells (setAt [(.d (.int .i64 0)),(.d (.str [])),(.d (.bool false)),(.d (.sl .nil 0 [])),(.d (.int .i64 0)),(.d (.int .i64 0))] 0 r0))])))∧(ab (ah false 1 1 (setAt [(.d (.int .i64 0)),(.d (.str [])),(.d (.bool false)),(.d (.sl .nil 0 [])),(.d (.int .i64 0)),(.d (.int .i64 0))] 0 r0)) fun cA=>(ab (ah true 2 4 (setAt [(.d (.int .i64 0)),(.d (.str [])),(.d (.bool false)),(.d (.sl .nil 0 [])),(.d (.int .i64 0)),(.d (.int .i64 0))] 0 r0)) fun cV=>ab (aN [(0,(.v (aa (aa (aa r3))))),(1,(.v (aa (aa cV)))),(2,(.v (aa (aa cA))))]) fun cW=>ab (cS Proofs.Try.prog 30 cW) fun cR=>ab (az (.d (.sl .nil 0 []))) fun dv=>(List.length dv)=1∧1≤1∧ab (az (.d cR)) fun dw=>(List.length dw)=4∧4≤4∧(Eq (Env.mk ([(.v .undef),(.v .undef),(.p 0 0),(.p 1 0),(.p 2 0),(.p 4 0),(.p ((List.length [(af.cells [(.d (.sl .nil 0 []))]),(af.cells [(.d (.int .i64 0)),(.d (.int .i64 0)),(.d (.int .i64 0)),(.d (.str []))]),(af.cells [al]),(af.map m),(af.one (.m 3))])+0) 0),(.v (aa r3)),(.v .undef),(.v .undef),(.v .undef),(.v .undef),(.v .undef),(.v .undef),(.v .undef),(.v .undef),(.v .undef),(.v .undef),(.v (.d d)),(.v (aa r1)),(.v (aa r2)),(.v r3),(.v (aa (aa r3))),(.v (.d (.bool true))),(.v (aa (aa r3))),(.p ((List.length [(af.cells [(.d (.sl .nil 0 []))]),(af.cells [(.d (.int .i64 0)),(.d (.int .i64 0)),(.d (.int .i64 0)),(.d (.str []))]),(af.cells [al]),(af.map m),(af.one (.m 3))])+0) 4),(.v (aa cV)),(.p ((List.length [(af.cells [(.d (.sl .nil 0 []))]),(af.cells [(.d (.int .i64 0)),(.d (.int .i64 0)),(.d (.int .i64 0)),(.d (.str []))]),(af.cells [al]),(af.map m),(af.one (.m 3))])+0) 1),(.v (aa cA)),(.v (.d cR))]++List.replicate 75 (.v .undef)) [(af.cells (setAt [(.d (.sl .nil 0 []))] 0 dv)),(af.cells (setAt [(.d (.int .i64 0)),(.d (.int .i64 0)),(.d (.int .i64 0)),(.d (.str []))] 0 dw)),(af.cells [al]),(af.map m),(af.one (.m 3)),(af.cells (setAt [(.d (.int .i64 0)),(.d (.str [])),(.d (.bool false)),(.d (.sl .nil 0 [])),(.d (.int .i64 0)),(.d (.int .i64 0))] 0 r0))]) (Env.mk ([(.v .undef),(.v .undef),(.p 0 0),(.p 1 0),(.p 2 0),(.p 4 0),(.p ((List.length [(af.cells [(.d (.sl .nil 0 []))]),(af.cells [(.d (.int .i64 0)),(.d (.int .i64 0)),(.d (.int .i64 0)),(.d (.str []))]),(af.cells [al]),(af.map m),(af.one (.m 3))])+0) 0),(.v (aa r3)),(.v .undef),(.v .undef),(.v .undef),(.v .undef),(.v .undef),(.v .undef),(.v .undef),(.v .undef),(.v .undef),(.v .undef),(.v (.d d)),(.v (aa r1)),(.v (aa r2)),(.v r3),(.v (aa (aa r3))),(.v (.d (.bool true))),(.v (aa (aa r3))),(.p ((List.length [(af.cells [(.d (.sl .nil 0 []))]),(af.cells [(.d (.int .i64 0)),(.d (.int .i64 0)),(.d (.int .i64 0)),(.d (.str []))]),(af.cells [al]),(af.map m),(af.one (.m 3))])+0) 4),(.v (aa r5)),(.p ((List.length [(af.cells [(.d (.sl .nil 0 []))]),(af.cells [(.d (.int .i64 0)),(.d (.int .i64 0)),(.d (.int .i64 0)),(.d (.str []))]),(af.cells [al]),(af.map m),(af.one (.m 3))])+0) 1),(.v (aa r6)),(.v (.d r8))]++List.replicate 75 (.v .undef)) [(af.cells (setAt [(.d (.sl .nil 0 []))] 0 r9)),(af.cells (setAt [(.d (.int .i64 0)),(.d (.int .i64 0)),(.d (.int .i64 0)),(.d (.str []))] 0 bD)),(af.cells [al]),(af.map m),(af.one (.m 3)),(af.cells (setAt [(.d (.int .i64 0)),(.d (.str [])),(.d (.bool false)),(.d (.sl .nil 0 [])),(.d (.int .i64 0)),(.d (.int .i64 0))] 0 r0))])))∧ab (az (.d (.sl .nil 0 []))) fun dq=>(List.length dq)=1∧1≤1∧ab (ah true 2 4 (setAt [(.d (.int .i64 0)),(.d (.str [])),(.d (.bool false)),(.d (.sl .nil 0 [])),(.d (.int .i64 0)),(.d (.int .i64 0))] 0 r0)) fun cL=>ab (aN [(0,(.v (aa (aa (aa r3))))),(1,(.v (aa (aa cL)))),(2,(.v (aa (aa cA))))]) fun cX=>ab (cS Proofs.Try.prog 30 cX) fun dn=>ab (az (.d dn)) fun dp=>(List.length dp)=4∧4≤4∧(Eq (Env.mk ([(.v .undef),(.v .undef),(.p 0 0),(.p 1 0),(.p 2 0),(.p 4 0),(.p ((List.length [(af.cells [(.d (.sl .nil 0 []))]),(af.cells [(.d (.int .i64 0)),(.d (.int .i64 0)),(.d (.int .i64 0)),(.d (.str []))]),(af.cells [al]),(af.map m),(af.one (.m 3))])+0) 0),(.v (aa r3)),(.v .undef),(.v .undef),(.v .undef),(.v .undef),(.v .undef),(.v .undef),(.v .undef),(.v .undef),(.v .undef),(.v .undef),(.v (.d d)),(.v (aa r1)),(.v (aa r2)),(.v r3),(.v (aa (aa r3))),(.v (.d (.bool true))),(.v (aa (aa r3))),(.p ((List.length [(af.cells [(.d (.sl .nil 0 []))]),(af.cells [(.d (.int .i64 0)),(.d (.int .i64 0)),(.d (.int .i64 0)),(.d (.str []))]),(af.cells [al]),(af.map m),(af.one (.m 3))])+0) 4),(.v (aa cL)),(.p ((List.length [(af.cells [(.d (.sl .nil 0 []))]),(af.cells [(.d (.int .i64 0)),(.d (.int .i64 0)),(.d (.int .i64 0)),(.d (.str []))]),(af.cells [al]),(af.map m),(af.one (.m 3))])+0) 1),(.v (aa cA)),(.v (.d dn))]++List.replicate 75 (.v .undef)) [(af.cells (setAt [(.d (.sl .nil 0 []))] 0 dq)),(af.cells (setAt [(.d (.int .i64 0)),(.d (.int .i64 0)),(.d (.int .i64 0)),(.d (.str []))] 0 dp)),(af.cells [al]),(af.map m),(af.one (.m 3)),(af.cells (setAt [(.d (.int .i64 0)),(.d (.str [])),(.d (.bool false)),(.d (.sl .nil 0 [])),(.d (.int .i64 0)),(.d (.int .i64 0))] 0 r0))]) (Env.mk ([(.v .undef),(.v .undef),(.p 0 0),(.p 1 0),(.p 2 0),(.p 4 0),(.p ((List.length [(af.cells [(.d (.sl .nil 0 []))]),(af.cells [(.d (.int .i64 0)),(.d (.int .i64 0)),(.d (.int .i64 0)),(.d (.str []))]),(af.cells [al]),(af.map m),(af.one (.m 3))])+0) 0),(.v (aa r3)),(.v .undef),(.v .undef),(.v .undef),(.v .undef),(.v .undef),(.v .undef),(.v .undef),(.v .undef),(.v .undef),(.v .undef),(.v (.d d)),(.v (aa r1)),(.v (aa r2)),(.v r3),(.v (aa (aa r3))),(.v (.d (.bool true))),(.v (aa (aa r3))),(.p ((List.length [(af.cells [(.d (.sl .nil 0 []))]),(af.cells [(.d (.int .i64 0)),(.d (.int .i64 0)),(.d (.int .i64 0)),(.d (.str []))]),(af.cells [al]),(af.map m),(af.one (.m 3))])+0) 4),(.v (aa r5)),(.p ((List.length [(af.cells [(.d (.sl .nil 0 []))]),(af.cells [(.d (.int .i64 0)),(.d (.int .i64 0)),(.d (.int .i64 0)),(.d (.str []))]),(af.cells [al]),(af.map m),(af.one (.m 3))])+0) 1),(.v (aa r6)),(.v (.d r8))]++List.replicate 75 (.v .undef)) [(af.cells (setAt [(.d (.sl .nil 0 []))] 0 r9)),(af.cells (setAt [(.d (.int .i64 0)),(.d (.int .i64 0)),(.d (.int .i64 0)),(.d (.str []))] 0 bD)),(af.cells [al]),(af.map m),(af.one (.m 3)),(af.cells (setAt [(.d (.int .i64 0)),(.d (.str [])),(.d (.bool false)),(.d (.sl .nil 0 [])),(.d (.int .i64 0)),(.d (.int .i64 0))] 0 r0))])))∧ab (az (.d (.sl .nil 0 []))) fun dz=>(List.length dz)=1∧1≤1∧ab (ah true 2 4 (setAt [(.d (.int .i64 0)),(.d (.str [])),(.d (.bool false)),(.d (.sl .nil 0 [])),(.d (.int .i64 0)),(.d (.int .i64 0))] 0 r0)) fun eA=>ab (ah false 1 1 (setAt [(.d (.int .i64 0)),(.d (.str [])),(.d (.bool false)),(.d (.sl .nil 0 [])),(.d (.int .i64 0)),(.d (.int .i64 0))] 0 r0)) fun dX=>ab (aN [(0,(.v (aa (aa (aa r3))))),(1,(.v (aa (aa eA)))),(2,(.v (aa (aa dX))))]) fun eB=>ab (cS Proofs.Try.prog 30 eB) fun fa=>ab (az (.d fa)) fun eU=>(List.length eU)=4∧4≤4∧(Eq (Env.mk ([(.v .undef),(.v .undef),(.p 0 0),(.p 1 0),(.p 2 0),(.p 4 0),(.p ((List.length [(af.cells [(.d (.sl .nil 0 []))]),(af.cells [(.d (.int .i64 0)),(.d (.int .i64 0)),(.d (.int .i64 0)),(.d (.str []))]),(af.cells [al]),(af.map m),(af.one (.m 3))])+0) 0),(.v (aa r3)),(.v .undef),(.v .undef),(.v .undef),(.v .undef),(.v .undef),(.v .undef),(.v .undef),(.v .undef),(.v .undef),(.v .undef),(.v (.d d)),(.v (aa r1)),(.v (aa r2)),(.v r3),(.v (aa (aa r3))),(.v (.d (.bool true))),(.v (aa (aa r3))),(.p ((List.length [(af.cells [(.d (.sl .nil 0 []))]),(af.cells [(.d (.int .i64 0)),(.d (.int .i64 0)),(.d (.int .i64 0)),(.d (.str []))]),(af.cells [al]),(af.map m),(af.one (.m 3))])+0) 4),(.v (aa eA)),(.p ((List.length [(af.cells [(.d (.sl .nil 0 []))]),(af.cells [(.d (.int .i64 0)),(.d (.int .i64 0)),(.d (.int .i64 0)),(.d (.str []))]),(af.cells [al]),(af.map m),(af.one (.m 3))])+0) 1),(.v (aa dX)),(.v (.d fa))]++List.replicate 75 (.v .undef)) [(af.cells (setAt [(.d (.sl .nil 0 []))] 0 dz)),(af.cells (setAt [(.d (.int .i64 0)),(.d (.int .i64 0)),(.d (.int .i64 0)),(.d (.str []))] 0 eU)),(af.cells [al]),(af.map m),(af.one (.m 3)),(af.cells (setAt [(.d (.int .i64 0)),(.d (.str [])),(.d (.bool false)),(.d (.sl .nil 0 [])),(.d (.int .i64 0)),(.d (.int .i64 0))] 0 r0))]) (Env.mk ([(.v .undef),(.v .undef),(.p 0 0),(.p 1 0),(.p 2 0),(.p 4 0),(.p ((List.length [(af.cells [(.d (.sl .nil 0 []))]),(af.cells [(.d (.int .i64 0)),(.d (.int .i64 0)),(.d (.int .i64 0)),(.d (.str []))]),(af.cells [al]),(af.map m),(af.one (.m 3))])+0) 0),(.v (aa r3)),(.v .undef),(.v .undef),(.v .undef),(.v .undef),(.v .undef),(.v .undef),(.v .undef),(.v .undef),(.v .undef),(.v .undef),(.v (.d d)),(.v (aa r1)),(.v (aa r2)),(.v r3),(.v (aa (aa r3))),(.v (.d (.bool true))),(.v (aa (aa r3))),(.p ((List.length [(af.cells [(.d (.sl .nil 0 []))]),(af.cells [(.d (.int .i64 0)),(.d (.int .i64 0)),(.d (.int .i64 0)),(.d (.str []))]),(af.cells [al]),(af.map m),(af.one (.m 3))])+0) 4),(.v (aa r5)),(.p ((List.length [(af.cells [(.d (.sl .nil 0 []))]),(af.cells [(.d (.int .i64 0)),(.d (.int .i64 0)),(.d (.int .i64 0)),(.d (.str []))]),(af.cells [al]),(af.map m),(af.one (.m 3))])+0) 1),(.v (aa r6)),(.v (.d r8))]++List.replicate 75 (.v .undef)) [(af.cells (setAt [(.d (.sl .nil 0 []))] 0 r9)),(af.cells (setAt [(.d (.int .i64 0)),(.d (.int .i64 0)),(.d (.int .i64 0)),(.d (.str []))] 0 bD)),(af.cells [al]),(af.map m),(af.one (.m 3)),(af.cells (setAt [(.d (.int .i64 0)),(.d (.str [])),(.d (.bool false)),(.d (.sl .nil 0 [])),(.d (.int .i64 0)),(.d (.int .i64 0))] 0 r0))])))∧(Q Ex.ret [(af.cells (setAt [(.d (.sl .nil 0 []))] 0 r9)),(af.cells (setAt [(.d (.int .i64 0)),(.d (.int .i64 0)),(.d (.int .i64 0)),(.d (.str []))] 0 bD)),(af.cells [al]),(af.map m),(af.one (.m 3))])) (ab (ah true 6 0 (setAt [(.d (.int .i64 0)),(.d (.str [])),(.d (.bool false)),(.d (.sl .nil 0 [])),(.d (.int .i64 0)),(.d (.int .i64 0))] 0 r0)) fun fb=>ab (aN [(0,(.v (aa (aa fb))))]) fun gG=>(bf 6 1 gG)=true∧bI 6 72 al (.full 6 (bj (br true [(.int .i64 0),(.str []),(.bool false),(.sl .nil 0 []),(.int .i64 0),(.int .i64 0)]) gG 1 0)) fun fH=>ab (az fH) fun fI=>(List.length fI)=1∧0<(List.length [(aa al)])∧ab (ah false 1 2 (setAt [(.d (.int .i64 0)),(.d (.str [])),(.d (.bool false)),(.d (.sl .nil 0 [])),(.d (.int .i64 0)),(.d (.int .i64 0))] 0 r0)) fun gb=>ab (eG .not (aa (aa gb))) fun fm=>ar fm (ab (ah false 1 0 (setAt [(.d (.int .i64 0)),(.d (.str [])),(.d (.bool false)),(.d (.sl .nil 0 [])),(.d (.int .i64 0)),(.d (.int .i64 0))] 0 r0)) fun gd=>ab (ah false 1 1 (setAt [(.d (.int .i64 0)),(.d (.str [])),(.d (.bool false)),(.d (.sl .nil 0 [])),(.d (.int .i64 0)),(.d (.int .i64 0))] 0 r0)) fun fD=>ab (aN [(0,(.v (aa (aa gd)))),(1,(.v (aa (aa fD))))]) fun gu=>ab (cS Proofs.Try.prog 126 gu) fun gH=>ab (lg (some [.int,.str]) (.d gH)) fun fP=>ab (cN (.d (.bool true))) fun gI=>ab (ot m fP gI) fun gY=>(Q Ex.normal [(af.cells [(.d (.sl .nil 0 []))]),(af.cells [(.d (.int .i64 0)),(.d (.int .i64 0)),(.d (.int .i64 0)),(.d (.str []))]),(af.cells (setAt [(aa al)] 0 fI)),(af.map gY),(af.one (.m 3))])) ((Q Ex.normal [(af.cells [(.d (.sl .nil 0 []))]),(af.cells [(.d (.int .i64 0)),(.d (.int .i64 0)),(.d (.int .i64 0)),(.d (.str []))]),(af.cells (setAt [(aa al)] 0 fI)),(af.map m),(af.one (.m 3))])))):=by kernel_rfl
set_option maxHeartbeats 1000000 in
theorem adn(C:bl)(al:SV)(m:List (MK×D))(K:SV→Prop):kq Go.Proofs.Try.prog gl C sJ ((fL vH).drop 5) (Bb Go.Proofs.Try.prog Go.Proofs.Try.f50 K) ⟨rG,F8 al m⟩=(ab (ou (.d (.sl .nil 0 []))) fun r0=>ab (ah false 1 0 [al]) fun r1=>ab (aX (aa (aa r1))) fun r2=>bR (fun bu cz I5=>ab (ag none .lss (aa (ae bu 3)) (aa (ae bu 2))) fun r6=>ar r6 (ab (aQ 6 (aa (ae bu 1)) (aa (ae bu 3))) fun r7=>ab (aI true 6 (aa r7)) fun r8=>ab (az (aa r8)) fun r9=>(List.length r9)=6∧6≤6∧ab (ah false 1 0 (setAt [(.d (.int .i64 0)),(.d (.str [])),(.d (.bool false)),(.d (.sl .nil 0 [])),(.d (.int .i64 0)),(.d (.int .i64 0))] 0 r9)) fun bD=>ab (ah false 1 1 (setAt [(.d (.int .i64 0)),(.d (.str [])),(.d (.bool false)),(.d (.sl .nil 0 [])),(.d (.int .i64 0)),(.d (.int .i64 0))] 0 r9)) fun cb=>ab (aN [(0,(.v (aa (aa bD)))),(1,(.v (aa (aa cb))))]) fun bT=>ab (cS Proofs.Try.prog 126 bT) fun cm=>ab (az (.d cm)) fun bG=>(List.length bG)=2∧2≤2∧ab (ah false 1 2 (setAt [(.d (.int .i64 0)),(.d (.str [])),(.d (.bool false)),(.d (.sl .nil 0 [])),(.d (.int .i64 0)),(.d (.int .i64 0))] 0 r9)) fun bU=>ar (aa (aa bU)) (ab (ah false 1 0 (ao cz 4)) fun bM=>ab (ah true 2 0 (setAt [(.d (.int .i64 0)),(.d (.str []))] 0 bG)) fun cd=>ab (rC (some [.int,.str]) (.bool false) (aa (aa bM)) (aa (aa cd))) fun bY=>ar (.d bY.1) (ab (ag none .add (aa (ae bu 3)) (.d (.int .i64 1))) fun di=>(I5 [(ae bu 0),(ae bu 1),(ae bu 2),(aa di)] [(af.aB (af.cells (ao cz 0))),(af.aB (af.cells (ao cz 1))),(af.aB (af.cells (ao cz 2))),[.undef],(af.aB (af.cells (ao cz 4))),[(.mp (mapOf (ao cz 5)))]])) (ab (ah false 1 0 (setAt [(.d (.int .i64 0)),(.d (.str [])),(.d (.bool false)),(.d (.sl .nil 0 [])),(.d (.int .i64 0)),(.d (.int .i64 0))] 0 r9)) fun cQ=>ab (ah false 1 1 (setAt [(.d (.int .i64 0)),(.d (.str [])),(.d (.bool false)),(.d (.sl .nil 0 [])),(.d (.int .i64 0)),(.d (.int .i64 0))] 0 r9)) fun ck=>aS C 69 [(aa (aa (aa cQ))),(aa (aa (aa ck)))] fun cA=>ar (aa (aa cA)) (ab (ag none .add (aa (ae bu 3)) (.d (.int .i64 1))) fun cV=>(I5 [(ae bu 0),(ae bu 1),(ae bu 2),(aa cV)] [(af.aB (af.cells (ao cz 0))),(af.aB (af.cells (ao cz 1))),(af.aB (af.cells (ao cz 2))),[.undef],(af.aB (af.cells (ao cz 4))),[(.mp (mapOf (ao cz 5)))]])) (ab (ah true 2 0 (setAt [(.d (.int .i64 0)),(.d (.str []))] 0 bG)) fun cW=>ab (rC (some [.int,.str]) (.int .i64 0) (.mp (mapOf (ao cz 5))) (aa (aa cW))) fun cR=>ar (.d (.bool (Prod.snd cR))) (ab (ah false 1 2 (setAt [(.d (.int .i64 0)),(.d (.str [])),(.d (.bool false)),(.d (.sl .nil 0 [])),(.d (.int .i64 0)),(.d (.int .i64 0))] 0 r9)) fun dv=>ar (aa (aa dv)) (gP (ae bu 0) 6 (fun BI=>ab (cM (.d cR.1) (List.length BI)) fun dq=>ab (ah false 1 ((dq*6)+3) (bq BI)) fun cL=>aS C 71 [(aa (aa (aa cL)))] fun cX=>ab (ah false 1 3 (setAt [(.d (.int .i64 0)),(.d (.str [])),(.d (.bool false)),(.d (.sl .nil 0 [])),(.d (.int .i64 0)),(.d (.int .i64 0))] 0 r9)) fun dn=>bI 1 16 cX (aa (aa dn)) fun dp=>aS C 70 [(aa (aa dp))] fun dz=>ab (cM (.d cR.1) (List.length BI)) fun eA=>ab (az (aa dz)) fun dX=>(List.length dX)=1∧(((eA*6)+3)+1)≤(List.length (bq BI))∧ab (dE (setAt (bq BI) ((eA*6)+3) dX)) fun eB=>ab (eW true 6 (List.length BI) eB) fun fa=>ab (ag none .add (aa (ae bu 3)) (.d (.int .i64 1))) fun eU=>(I5 [(.bt 6 fa),(ae bu 1),(ae bu 2),(aa eU)] [(af.aB (af.cells (ao cz 0))),(af.aB (af.cells (ao cz 1))),(af.aB (af.cells (ao cz 2))),[.undef],(af.aB (af.cells (ao cz 4))),[(.mp (mapOf (ao cz 5)))]])) (ab (aQ 6 (aa (aa (ae bu 0))) (.d cR.1)) fun fb=>ab (bZ (aa fb) 3) fun gG=>ab (aI false 1 (aa gG)) fun fH=>aS C 71 [(aa (aa fH))] fun fI=>ab (ah false 1 3 (setAt [(.d (.int .i64 0)),(.d (.str [])),(.d (.bool false)),(.d (.sl .nil 0 [])),(.d (.int .i64 0)),(.d (.int .i64 0))] 0 r9)) fun gb=>bI 1 16 fI (aa (aa gb)) fun fm=>aS C 70 [(aa (aa fm))] fun gd=>ab (aQ 6 (aa (aa (ae bu 0))) (.d cR.1)) fun fD=>ab (bZ (aa fD) 3) fun gu=>False)) (gP (ae bu 0) 6 (fun MF=>ab (ah true 2 0 (setAt [(.d (.int .i64 0)),(.d (.str []))] 0 bG)) fun fP=>ab (lg (some [.int,.str]) (aa (aa fP))) fun gI=>ab (cN (.d (.int .i64 (Nat.cast (List.length MF))))) fun gY=>ab (ot (mapOf (ao cz 5)) gI gY) fun gJ=>ab (dE (bq MF)) fun ie=>ab (eW true 6 (List.length MF) ie) fun gZ=>ab (ah true 6 0 (setAt [(.d (.int .i64 0)),(.d (.str [])),(.d (.bool false)),(.d (.sl .nil 0 [])),(.d (.int .i64 0)),(.d (.int .i64 0))] 0 r9)) fun ig=>ab (aN [(0,(.v (aa (aa ig))))]) fun jM=>(bf 6 1 jM)=true∧bI 6 72 (.bt 6 gZ) (.full 6 (bj (br true [(.int .i64 0),(.str []),(.bool false),(.sl .nil 0 []),(.int .i64 0),(.int .i64 0)]) jM 1 0)) fun ku=>ab (ag none .add (aa (ae bu 3)) (.d (.int .i64 1))) fun kz=>(I5 [ku,(ae bu 1),(ae bu 2),(aa kz)] [(af.aB (af.cells (ao cz 0))),(af.aB (af.cells (ao cz 1))),(af.aB (af.cells (ao cz 2))),[.undef],(af.aB (af.cells (ao cz 4))),[(.mp gJ)]])) (ab (ah true 2 0 (setAt [(.d (.int .i64 0)),(.d (.str []))] 0 bG)) fun j0=>ab (aX (aa (aa (ae bu 0)))) fun jq=>ab (lg (some [.int,.str]) (aa (aa j0))) fun iW=>ab (cN (aa jq)) fun lH=>ab (ot (mapOf (ao cz 5)) iW lH) fun lI=>ab (ah true 6 0 (setAt [(.d (.int .i64 0)),(.d (.str [])),(.d (.bool false)),(.d (.sl .nil 0 [])),(.d (.int .i64 0)),(.d (.int .i64 0))] 0 r9)) fun lJ=>ab (aN [(0,(.v (aa (aa lJ))))]) fun kW=>(bf 6 1 kW)=true∧bI 6 72 (ae bu 0) (.full 6 (bj (br true [(.int .i64 0),(.str []),(.bool false),(.sl .nil 0 []),(.int .i64 0),(.int .i64 0)]) kW 1 0)) fun mh=>ab (ag none .add (aa (ae bu 3)) (.d (.int .i64 1))) fun mi=>(I5 [mh,(ae bu 1),(ae bu 2),(aa mi)] [(af.aB (af.cells (ao cz 0))),(af.aB (af.cells (ao cz 1))),(af.aB (af.cells (ao cz 2))),[.undef],(af.aB (af.cells (ao cz 4))),[(.mp lI)]])))) (gP (ae bu 0) 6 (fun MG=>ab (ah true 2 0 (setAt [(.d (.int .i64 0)),(.d (.str []))] 0 bG)) fun mj=>ab (lg (some [.int,.str]) (aa (aa mj))) fun lK=>ab (cN (.d (.int .i64 (Nat.cast (List.length MG))))) fun mN=>ab (ot (mapOf (ao cz 5)) lK mN) fun ml=>ab (dE (bq MG)) fun pL=>ab (eW true 6 (List.length MG) pL) fun qL=>ab (ah true 6 0 (setAt [(.d (.int .i64 0)),(.d (.str [])),(.d (.bool false)),(.d (.sl .nil 0 [])),(.d (.int .i64 0)),(.d (.int .i64 0))] 0 r9)) fun mn=>ab (aN [(0,(.v (aa (aa mn))))]) fun mO=>(bf 6 1 mO)=true∧bI 6 72 (.bt 6 qL) (.full 6 (bj (br true [(.int .i64 0),(.str []),(.bool false),(.sl .nil 0 []),(.int .i64 0),(.int .i64 0)]) mO 1 0)) fun kX=>ab (ag none .add (aa (ae bu 3)) (.d (.int .i64 1))) fun uw=>(I5 [kX,(ae bu 1),(ae bu 2),(aa uw)] [(af.aB (af.cells (ao cz 0))),(af.aB (af.cells (ao cz 1))),(af.aB (af.cells (ao cz 2))),[.undef],(af.aB (af.cells (ao cz 4))),[(.mp ml)]])) (ab (ah true 2 0 (setAt [(.d (.int .i64 0)),(.d (.str []))] 0 bG)) fun ux=>ab (aX (aa (aa (ae bu 0)))) fun sC=>ab (lg (some [.int,.str]) (aa (aa ux))) fun qN=>ab (cN (aa sC)) fun pM=>ab (ot (mapOf (ao cz 5)) qN pM) fun pN=>ab (ah true 6 0 (setAt [(.d (.int .i64 0)),(.d (.str [])),(.d (.bool false)),(.d (.sl .nil 0 [])),(.d (.int .i64 0)),(.d (.int .i64 0))] 0 r9)) fun pO=>ab (aN [(0,(.v (aa (aa pO))))]) fun pP=>(bf 6 1 pP)=true∧bI 6 72 (ae bu 0) (.full 6 (bj (br true [(.int .i64 0),(.str []),(.bool false),(.sl .nil 0 []),(.int .i64 0),(.int .i64 0)]) pP 1 0)) fun qO=>ab (ag none .add (aa (ae bu 3)) (.d (.int .i64 1))) fun sD=>(I5 [qO,(ae bu 1),(ae bu 2),(aa sD)] [(af.aB (af.cells (ao cz 0))),(af.aB (af.cells (ao cz 1))),(af.aB (af.cells (ao cz 2))),[.undef],(af.aB (af.cells (ao cz 4))),[(.mp pN)]])))))) (ab (ah true 2 0 (setAt [(.d (.int .i64 0)),(.d (.str []))] 0 bG)) fun uy=>ab (rC (some [.int,.str]) (.int .i64 0) (.mp (mapOf (ao cz 5))) (aa (aa uy))) fun oT=>ar (.d (.bool (Prod.snd oT))) (ab (ah false 1 2 (setAt [(.d (.int .i64 0)),(.d (.str [])),(.d (.bool false)),(.d (.sl .nil 0 [])),(.d (.int .i64 0)),(.d (.int .i64 0))] 0 r9)) fun qQ=>ar (aa (aa qQ)) (gP (ae bu 0) 6 (fun BJ=>ab (cM (.d oT.1) (List.length BJ)) fun sE=>ab (ah false 1 ((sE*6)+3) (bq BJ)) fun sF=>aS C 71 [(aa (aa (aa sF)))] fun sG=>ab (ah false 1 3 (setAt [(.d (.int .i64 0)),(.d (.str [])),(.d (.bool false)),(.d (.sl .nil 0 [])),(.d (.int .i64 0)),(.d (.int .i64 0))] 0 r9)) fun nO=>bI 1 16 sG (aa (aa nO)) fun sH=>aS C 70 [(aa (aa sH))] fun pQ=>ab (cM (.d oT.1) (List.length BJ)) fun sI=>ab (az (aa pQ)) fun wo=>(List.length wo)=1∧(((sI*6)+3)+1)≤(List.length (bq BJ))∧ab (dE (setAt (bq BJ) ((sI*6)+3) wo)) fun za=>ab (eW true 6 (List.length BJ) za) fun tW=>ab (ag none .add (aa (ae bu 3)) (.d (.int .i64 1))) fun tX=>(I5 [(.bt 6 tW),(ae bu 1),(ae bu 2),(aa tX)] [(af.aB (af.cells (ao cz 0))),(af.aB (af.cells (ao cz 1))),(af.aB (af.cells (ao cz 2))),[.undef],(af.aB (af.cells (ao cz 4))),[(.mp (mapOf (ao cz 5)))]])) (ab (aQ 6 (aa (aa (ae bu 0))) (.d oT.1)) fun vC=>ab (bZ (aa vC) 3) fun zd=>ab (aI false 1 (aa zd)) fun ze=>aS C 71 [(aa (aa ze))] fun xk=>ab (ah false 1 3 (setAt [(.d (.int .i64 0)),(.d (.str [])),(.d (.bool false)),(.d (.sl .nil 0 [])),(.d (.int .i64 0)),(.d (.int .i64 0))] 0 r9)) fun tY=>bI 1 16 xk (aa (aa tY)) fun rO=>aS C 70 [(aa (aa rO))] fun xg=>ab (aQ 6 (aa (aa (ae bu 0))) (.d oT.1)) fun vD=>ab (bZ (aa vD) 3) fun Bi=>False)) (gP (ae bu 0) 6 (fun Lf=>ab (ah true 2 0 (setAt [(.d (.int .i64 0)),(.d (.str []))] 0 bG)) fun Bj=>ab (lg (some [.int,.str]) (aa (aa Bj))) fun zb=>ab (cN (.d (.int .i64 (Nat.cast (List.length Lf))))) fun tZ=>ab (ot (mapOf (ao cz 5)) zb tZ) fun vE=>ab (dE (bq Lf)) fun ua=>ab (eW true 6 (List.length Lf) ua) fun vF=>ab (ah true 6 0 (setAt [(.d (.int .i64 0)),(.d (.str [])),(.d (.bool false)),(.d (.sl .nil 0 [])),(.d (.int .i64 0)),(.d (.int .i64 0))] 0 r9)) fun xh=>ab (aN [(0,(.v (aa (aa xh))))]) fun qq=>(bf 6 1 qq)=true∧bI 6 72 (.bt 6 vF) (.full 6 (bj (br true [(.int .i64 0),(.str []),(.bool false),(.sl .nil 0 []),(.int .i64 0),(.int .i64 0)]) qq 1 0)) fun xi=>ab (ag none .add (aa (ae bu 3)) (.d (.int .i64 1))) fun Dv=>(I5 [xi,(ae bu 1),(ae bu 2),(aa Dv)] [(af.aB (af.cells (ao cz 0))),(af.aB (af.cells (ao cz 1))),(af.aB (af.cells (ao cz 2))),[.undef],(af.aB (af.cells (ao cz 4))),[(.mp vE)]])) (ab (ah true 2 0 (setAt [(.d (.int .i64 0)),(.d (.str []))] 0 bG)) fun Be=>ab (aX (aa (aa (ae bu 0)))) fun Dw=>ab (lg (some [.int,.str]) (aa (aa Be))) fun Dx=>ab (cN (aa Dw)) fun Dy=>ab (ot (mapOf (ao cz 5)) Dx Dy) fun Dz=>ab (ah true 6 0 (setAt [(.d (.int .i64 0)),(.d (.str [])),(.d (.bool false)),(.d (.sl .nil 0 [])),(.d (.int .i64 0)),(.d (.int .i64 0))] 0 r9)) fun DA=>ab (aN [(0,(.v (aa (aa DA))))]) fun Bf=>(bf 6 1 Bf)=true∧bI 6 72 (ae bu 0) (.full 6 (bj (br true [(.int .i64 0),(.str []),(.bool false),(.sl .nil 0 []),(.int .i64 0),(.int .i64 0)]) Bf 1 0)) fun zc=>ab (ag none .add (aa (ae bu 3)) (.d (.int .i64 1))) fun K9=>(I5 [zc,(ae bu 1),(ae bu 2),(aa K9)] [(af.aB (af.cells (ao cz 0))),(af.aB (af.cells (ao cz 1))),(af.aB (af.cells (ao cz 2))),[.undef],(af.aB (af.cells (ao cz 4))),[(.mp Dz)]])))) (gP (ae bu 0) 6 (fun Lg=>ab (ah true 2 0 (setAt [(.d (.int .i64 0)),(.d (.str []))] 0 bG)) fun Gt=>ab (lg (some [.int,.str]) (aa (aa Gt))) fun afw=>ab (cN (.d (.int .i64 (Nat.cast (List.length Lg))))) fun afx=>ab (ot (mapOf (ao cz 5)) afw afx) fun afy=>ab (dE (bq Lg)) fun afz=>ab (eW true 6 (List.length Lg) afz) fun afA=>ab (ah true 6 0 (setAt [(.d (.int .i64 0)),(.d (.str [])),(.d (.bool false)),(.d (.sl .nil 0 [])),(.d (.int .i64 0)),(.d (.int .i64 0))] 0 r9)) fun afB=>ab (aN [(0,(.v (aa (aa afB))))]) fun S2=>(bf 6 1 S2)=true∧bI 6 72 (.bt 6 afA) (.full 6 (bj (br true [(.int .i64 0),(.str []),(.bool false),(.sl .nil 0 []),(.int .i64 0),(.int .i64 0)]) S2 1 0)) fun afC=>ab (ag none .add (aa (ae bu 3)) (.d (.int .i64 1))) fun afD=>(I5 [afC,(ae bu 1),(ae bu 2),(aa afD)] [(af.aB (af.cells (ao cz 0))),(af.aB (af.cells (ao cz 1))),(af.aB (af.cells (ao cz 2))),[.undef],(af.aB (af.cells (ao cz 4))),[(.mp afy)]])) (ab (ah true 2 0 (setAt [(.d (.int .i64 0)),(.d (.str []))] 0 bG)) fun afE=>ab (aX (aa (aa (ae bu 0)))) fun afF=>ab (lg (some [.int,.str]) (aa (aa afE))) fun afG=>ab (cN (aa afF)) fun afH=>ab (ot (mapOf (ao cz 5)) afG afH) fun afI=>ab (ah true 6 0 (setAt [(.d (.int .i64 0)),(.d (.str [])),(.d (.bool false)),(.d (.sl .nil 0 [])),(.d (.int .i64 0)),(.d (.int .i64 0))] 0 r9)) fun afJ=>ab (aN [(0,(.v (aa (aa afJ))))]) fun S3=>(bf 6 1 S3)=true∧bI 6 72 (ae bu 0) (.full 6 (bj (br true [(.int .i64 0),(.str []),(.bool false),(.sl .nil 0 []),(.int .i64 0),(.int .i64 0)]) S3 1 0)) fun afK=>ab (ag none .add (aa (ae bu 3)) (.d (.int .i64 1))) fun afL=>(I5 [afK,(ae bu 1),(ae bu 2),(aa afL)] [(af.aB (af.cells (ao cz 0))),(af.aB (af.cells (ao cz 1))),(af.aB (af.cells (ao cz 2))),[.undef],(af.aB (af.cells (ao cz 4))),[(.mp afI)]]))))) (ab (vj (ae bu 0)) fun afM=>ab (aN []) fun afN=>ab (cS Proofs.Try.prog 30 afN) fun afO=>ab (az (aa (aa afM))) fun S4=>(List.length S4)=1∧1≤(List.length (ao cz 0))∧ab (az (.d afO)) fun S5=>(List.length S5)=4∧4≤(List.length (ao cz 1))∧ab (ah false 1 0 (setAt (ao cz 0) 0 S4)) fun S6=>(SV.ay (aa S6))=true∧ab (ah true 4 0 (setAt (ao cz 1) 0 S5)) fun S7=>(SV.ay (aa S7))=true∧(K (.aL [(aa S6),(aa S7)])))) [r0,(aa r1),r2,(.d (.int .i64 0))] [[(.d (.sl .nil 0 []))],[(.d (.int .i64 0)),(.d (.int .i64 0)),(.d (.int .i64 0)),(.d (.str []))],[al],[.undef],[(.mp m)],[(.mp [])]]):=by kernel_rfl
end Go.Proofs.Ytimbllcalipehaa.Ab
namespace Go.Proofs.Ytimbllcalipehaa.Ab
open Go
set_option linter.unusedVariables false
def l6(s:aj):MK:=.s [.int .i64 s.kind,.str s.name]
def fW(y s:aj):Bool:=y.kind==s.kind&&y.name==s.name
theorem Fj(y s:aj):l6 y=l6 s↔fW y s=true:=by
 simp[l6,fW]
def AJ(m:List (MK×D)):Prop:=∀x∈m,∃k n,x.1=MK.s [.int .i64 k,.str n]
theorem HZ{m:List (MK×D)}(h:AJ m)(s:aj):tq m (l6 s)=true:=by
 unfold tq
 rw[List.all_eq_true]
 intro x hx
 obtain⟨k,n,hk⟩:=h x hx
 rw[hk]
 rfl
theorem Il:∀(m:List (MK×D))(n k:MK)(d:D),la (lh m n d) k=if k=n then some d else la m k
 |[],n,k,d=>by by_cases h:k=n<;>simp[lh,la,h]
 |x::m,n,k,d=>by
  rw[lh]
  by_cases h:n=x.1
  ·rw[if_pos h,la,la]
   by_cases hk:k=n
   ·simp[hk]
   ·rw[if_neg hk,if_neg hk,if_neg (by rw[←h];exact hk)]
  ·rw[if_neg h,la,la,Il m n k d]
   by_cases hk:k=n
   ·rw[if_pos hk,if_neg (by rw[hk];exact h)]
    simp[hk]
   ·simp[hk]
theorem OQ{m:List (MK×D)}(h:AJ m)(s:aj)(d:D):AJ (lh m (l6 s) d):=by
 induction m with
 |nil=>intro x hx;rw[lh,List.mem_singleton]at hx;subst hx;exact⟨_,_,rfl⟩
 |cons y m ih=>
  intro x hx
  rw[lh]at hx
  split at hx
  ·rcases List.mem_cons.1 hx with rfl|hx
   ·exact⟨_,_,rfl⟩
   ·exact h x (by simp[hx])
  ·rcases List.mem_cons.1 hx with rfl|hx
   ·exact h _ (by simp)
   ·exact ih (fun z hz=>h z (by simp[hz])) x hx
def jE(l:List aj)(s:aj):Bool:=l.any fun y=> !y.b9&&fW y s
def qu(m:List (MK×D))(l:List aj):Prop:=AJ m∧∀s,la m (l6 s)=if jE l s then some (.bool true)else none
theorem qu.nil:qu [] []:=⟨fun x h=>by simp at h,fun s=>rfl⟩
theorem qu.b9{m:List (MK×D)}{l:List aj}(h:qu m l){s:aj}(hs:s.b9=true):qu m (l++[s]):=by
 refine⟨h.1,fun t=>?_⟩
 rw[h.2 t]
 simp[jE,hs]
theorem qu.dec{m:List (MK×D)}{l:List aj}(h:qu m l){s:aj}(hs:s.b9=false):qu (lh m (l6 s) (.bool true)) (l++[s]):=by
 refine⟨OQ h.1 s _,fun t=>?_⟩
 rw[Il,h.2 t]
 by_cases hk:l6 t=l6 s
 ·have:fW s t=true:=(Fj s t).1 hk.symm
  simp[hk,jE,hs,this]
 ·have:fW s t=false:=by
   cases hc:fW s t with
   |false=>rfl
   |true=>exact absurd ((Fj s t).2 hc).symm hk
  simp[hk,jE,this]
theorem ZH{m:List (MK×D)}{l:List aj}(h:qu m l)(s:aj):rC (some [.int,.str]) (.bool false) (.mp m) (.d (.agg [.int .i64 s.kind,.str s.name]))=some (.bool (jE l s),jE l s):=by
 have h1:lg (some [.int,.str]) (.d (.agg [.int .i64 s.kind,.str s.name]))=some (l6 s):=rfl
 simp only[rC,h1,HZ h.1 s,cond_true,h.2 s]
 cases jE l s<;>rfl
def hP(s:aj):List aj→Option Nat
 |[]=>none
 |y::l=>match hP s l with|some j=>some (j+1)|none=>if fW y s then some 0 else none
theorem OR(s y:aj):∀(l:List aj),hP s (l++[y])=if fW y s then some l.length else hP s l
 |[]=>by simp[hP]
 |z::l=>by
  rw[List.cons_append,hP,OR s y l]
  by_cases h:fW y s=true
  ·simp[h]
  ·simp[h,hP]
theorem Fk{s:aj}:∀{l:List aj}{j:Nat},hP s l=some j→∃y,l[j]? =some y∧fW y s=true
 |[],j,h=>by simp[hP]at h
 |z::l,j,h=>by
  rw[hP]at h
  split at h
  ·rename_i k hk
   cases h
   obtain⟨y,h1,h2⟩:=Fk hk
   exact⟨y,by simpa using h1,h2⟩
  ·split at h
   ·rename_i hz;cases h;exact⟨z,by simp,hz⟩
   ·cases h
theorem Pz(s:aj):∀(l:List aj)(j:Nat)(y y':aj),l[j]? =some y→y'.kind=y.kind→y'.name=y.name→hP s (l.set j y')=hP s l
 |[],j,y,y',h,_,_=>by simp at h
 |z::l,0,y,y',h,h1,h2=>by
  simp at h;subst h
  have:fW y' s=fW z s:=by simp[fW,h1,h2]
  simp only[List.set_cons_zero,hP,this]
 |z::l,j+1,y,y',h,h1,h2=>by
  simp only[List.set_cons_succ,hP,Pz s l j y y' (by simpa using h) h1 h2]
def sK(m:List (MK×D))(out:List aj):Prop:=AJ m∧∀s,la m (l6 s)=(hP s out).map fun(j:Nat)=>D.int .i64 (j:Int)
theorem sK.nil:sK [] []:=⟨fun x h=>by simp at h,fun s=>rfl⟩
theorem sK.snoc{m:List (MK×D)}{out:List aj}(h:sK m out)(s:aj):sK (lh m (l6 s) (.int .i64 (out.length:Int))) (out++[s]):=by
 refine⟨OQ h.1 s _,fun t=>?_⟩
 rw[Il,h.2 t,OR]
 by_cases hk:l6 t=l6 s
 ·have:fW s t=true:=(Fj s t).1 hk.symm
  simp[hk,this]
 ·have:¬fW s t=true:=fun hc=>hk ((Fj s t).2 hc).symm
  simp[hk,this]
theorem sK.set{m:List (MK×D)}{out:List aj}(h:sK m out){j:Nat}{y y':aj}(hj:out[j]? =some y)(h1:y'.kind=y.kind)(h2:y'.name=y.name):sK m (out.set j y'):=
 ⟨h.1,fun t=>by rw[h.2 t,Pz t out j y y' hj h1 h2]⟩
theorem abe{m:List (MK×D)}{out:List aj}(h:sK m out)(s:aj):rC (some [.int,.str]) (.int .i64 0) (.mp m) (.d (.agg [.int .i64 s.kind,.str s.name]))=some (match hP s out with|some j=>(D.int .i64 (j:Int),true)|none=>(.int .i64 0,false)):=by
 have h1:lg (some [.int,.str]) (.d (.agg [.int .i64 s.kind,.str s.name]))=some (l6 s):=rfl
 simp only[rC,h1,HZ h.1 s,cond_true,h.2 s]
 cases hP s out<;>rfl
def wX(y:aj)(s:aj):aj:={y with perms:=dedup (y.perms++s.perms)}
def o0(all out:List aj)(s:aj):List aj:=
 if s.b9&&(jE all s||rR s.kind s.name)then out else
 match hP s out with
 |some j=>if s.b9 then(match out[j]? with|some y=>out.set j (wX y s)|none=>out)else out++[s]
 |none=>out++[s]
def g7(all:List aj)(l:List aj):List aj:=l.foldl (o0 all) []
theorem EI{all l:List aj}{i:Nat}{s:aj}(h:l[i]? =some s):g7 all (l.take (i+1))=o0 all (g7 all (l.take i)) s:=by
 rw[dZ h,g7,g7,List.foldl_append];rfl
def ct(l:List aj):Nat:=(l.map fun s=>s.perms.length).sum
theorem xZ{l:List aj}{i:Nat}{s:aj}(h:l[i]? =some s):ct (l.take (i+1))=ct (l.take i)+s.perms.length:=by
 rw[dZ h];simp[ct]
theorem Ai(l:List aj)(i:Nat):ct (l.take i)≤ct l:=by
 have h:ct (l.take i++l.drop i)=ct (l.take i)+ct (l.drop i):=by
  unfold ct
  rw[List.map_append,List.sum_append]
 rw[List.take_append_drop]at h
 omega
theorem Im(l:List (List UInt8)):(dedup l).length ≤l.length:=by
 have:=II l []
 simpa[dedup]using this
theorem Wx(all out:List aj)(s:aj):(o0 all out s).length ≤out.length+1:=by
 unfold o0
 repeat' split
 all_goals simp
theorem Io(all l:List aj)(i:Nat):(g7 all (l.take i)).length ≤i:=by
 induction i with
 |zero=>simp[g7]
 |succ i ih=>
  cases h:l[i]? with
  |none=>
   rw[List.take_of_length_le (by have:=List.getElem?_eq_none_iff.1 h;omega)]at ih ⊢
   omega
  |some s=>
   rw[EI h]
   have:=Wx all (g7 all (l.take i)) s
   omega
theorem VK{all out:List aj}{s:aj}{n:Nat}(h:∀y∈out,y.perms.length≤n):∀y∈o0 all out s,y.perms.length≤n+s.perms.length:=by
 intro y hy
 unfold o0 at hy
 split at hy
 ·have:=h y hy;omega
 ·have app:y∈out++[s]→y.perms.length≤n+s.perms.length:=fun hy=>by
   rcases List.mem_append.1 hy with hy|hy
   ·have:=h y hy;omega
   ·rw[List.mem_singleton.1 hy];omega
  split at hy
  ·split at hy
   ·split at hy
    ·rename_i j _ _ z hz
     rcases List.mem_or_eq_of_mem_set hy with hy|hy
     ·have:=h y hy;omega
     ·subst hy
      have h1:=h z (List.mem_of_getElem? hz)
      have h2:=Im (z.perms++s.perms)
      simp only[wX,List.length_append]at h2 ⊢
      omega
    ·have:=h y hy;omega
   ·exact app hy
  ·exact app hy
theorem NP(all l:List aj)(i:Nat):∀y∈g7 all (l.take i),y.perms.length≤ct (l.take i):=by
 induction i with
 |zero=>intro y hy;simp[g7]at hy
 |succ i ih=>
  cases h:l[i]? with
  |none=>
   have h1:l.length≤i:=List.getElem?_eq_none_iff.1 h
   rw[List.take_of_length_le h1]at ih
   rw[List.take_of_length_le (by omega)]
   exact ih
  |some s=>
   rw[EI h,xZ h]
   exact VK ih
def gy:List aj→List aj→Option (Int×aj)
 |_,[]=>none
 |pre,s::l=>if m0 pre s=0 then gy (pre++[s]) l else some (m0 pre s,s)
def oF(out:List aj):SV:=match out with
 |[]=>.d (.sl .nil g5 [])
 |out=>.bt 6 (aF out)
theorem Ip:∀(cs:List D){l:List SV}{r:List D},dE l=some r→dE (cs.map SV.d++l)=some (cs++r)
 |[],l,r,h=>h
 |c::cs,l,r,h=>by
  simp only[List.map_cons,List.cons_append,dE,cN,Ip cs h]
def iP(s:aj):List D:=[.int .i64 s.kind,.str s.name,.bool s.b9,bz 1 (cf s.perms),.int .i64 s.line,.int .i64 s.fo]
theorem yi(s:aj)(l:List aj):bq (aF (s::l))=(iP s).map .d ++bq (aF l):=rfl
theorem wK:∀(l:List aj),dE (bq (aF l))=some (l.flatMap iP)
 |[]=>rfl
 |s::l=>by rw[yi,List.flatMap_cons];exact Ip _ (wK l)
theorem Jd:∀(l:List aj),(bq (aF l)).length =l.length*6
 |[]=>rfl
 |s::l=>by rw[yi,List.length_append,Jd l,List.length_cons];simp[iP];omega
theorem wG:∀(l:List aj),eW true 6 l.length (l.flatMap iP)=some (aF l)
 |[]=>rfl
 |s::l=>by
  have ih:=wG l
  have h1:((s::l).flatMap iP).drop 6=l.flatMap iP:=rfl
  have h2:((s::l).flatMap iP).take 6=iP s:=rfl
  have h3:6≤((s::l).flatMap iP).length :=by simp[iP]
  simp only[List.length_cons,eW,h1,h2,ih,if_pos h3]
  rfl
theorem IJ:∀(l:List aj)(j:Nat)(y:aj),l[j]? =some y→(bq (aF l))[j*6+3]? =some (.d (bz 1 (cf y.perms)))
 |[],j,y,h=>by simp at h
 |s::l,0,y,h=>by simp at h;subst h;rfl
 |s::l,j+1,y,h=>by
  rw[yi,List.getElem?_append_right (by simp[iP];omega)]
  have:(j+1)*6+3-((iP s).map SV.d).length =j*6+3:=by simp[iP];omega
  rw[this]
  exact IJ l j y (by simpa using h)
theorem Je:∀(l:List aj)(j:Nat)(y:aj)(p:List (List UInt8)),l[j]? =some y→(bq (aF l)).set (j*6+3) (.d (bz 1 (cf p)))=bq (aF (l.set j {y with perms:=p}))
 |[],j,y,p,h=>by simp at h
 |s::l,0,y,p,h=>by simp at h;subst h;rfl
 |s::l,j+1,y,p,h=>by
  rw[yi,List.set_append_right _ _ (by simp[iP];omega)]
  have:(j+1)*6+3-((iP s).map SV.d).length =j*6+3:=by simp[iP];omega
  rw[this,Je l j y p (by simpa using h)]
  rfl
end Go.Proofs.Ytimbllcalipehaa.Ab
namespace Go.Proofs.Ytimbllcalipehaa.Ab
open Go
set_option linter.unusedVariables false
set_option maxRecDepth 4000
theorem VL{x:D}(h1:x.cells=[x])(cg:x.one=true):aD Try.prog gl 67 [.d x] (.dg (.func 82) [] [.aT x 0]):=by
 refine Ya bA (fn:=Try.f67) (c:=Ld) rfl rfl (bV (fn:=Try.f67) (by kernel_rfl) (by kernel_rfl) (by kernel_rfl)) cg rfl (b:=0) (t:=2) (hh:=ia) (fun _=>?_)
 show aw Try.prog gl _ ia Ld _ (enter 4 _)
 rw[adk]
 have h2:az (.d x)=some [.d x]:=by simp[az,h1]
 simp only[h2,sS,sT,sZ]
 first|exact⟨rfl,.inr rfl,rfl,rfl⟩|exact⟨.inr trivial,rfl,rfl⟩|exact⟨rfl,.inr trivial,rfl,rfl⟩
theorem Fl(x y:D)(i j:Nat):aN [(i,.v (.d x)),(j,.v (.d y))]=some [(i,x),(j,y)]:=rfl
theorem yB{m:List (MK×D)}(h:AJ m)(s:aj)(d:D):ot m (.s [.int .i64 s.kind,.str s.name]) d=some (lh m (l6 s) d):=by
 have:=HZ h s
 unfold ot
 show cond (tq m (l6 s)) _ _=_
 rw[this];rfl
theorem Cj(x:SV):ah false 1 0 [x]=some x:=rfl
theorem Oa(c l k:Int)(n:List UInt8):cS Try.prog 30 [(0,.int .i64 c),(1,.agg [.int .i64 l,.int .i64 k]),(2,.str n)]=some (.agg [.int .i64 c,.int .i64 l,.int .i64 k,.str n]):=by kernel_rfl
theorem wD:cS Try.prog 30 []=some (.agg [.int .i64 0,.int .i64 0,.int .i64 0,.str []]):=by kernel_rfl
theorem PA(k:Int)(n:List UInt8):cS Try.prog 126 [(0,.int .i64 k),(1,.str n)]=some (.agg [.int .i64 k,.str n]):=by kernel_rfl
theorem yQ(k:Int)(n:List UInt8):lg (some [.int,.str]) (.d (.agg [.int .i64 k,.str n]))=some (.s [.int .i64 k,.str n]):=rfl
def He(f:List SV)(al:SV)(m:List (MK×D)):List af:=[.cells [.d (.sl .nil 0 [])],.cells f,.cells [al],.map m,.one (.m 3)]
def rI(l:List aj)(k:Nat)(aA:List af):Prop:=∃m,aA=F8 (bd 6 (aF (l.take k))) m∧qu m (l.take k)∧gy (l.take k) (l.drop k)=gy [] l
def rX(l:List aj)(x:Ex)(aA:List af):Prop:=x=.ret ∧∃c s m al,gy [] l=some (c,s)∧aA=He [.d (.int .i64 c),.d (.int .i64 s.line),.d (.int .i64 s.fo),.d (.str s.name)] al m
theorem J5(f:List SV)(hf:(f.all fun x=>x.oD&&x.ay)=true)(al:SV)(ha:(al.oD&&al.ay)=true)(m:List (MK×D)):(He f al m).all (kK 5)=true:=by
 simp only[He,List.all_cons,List.all_nil,kK,hf,ha,Bool.and_true,Bool.true_and]
 rfl
theorem Am(sz:Nat)(L:List D):(bd sz L).oD =true∧(bd sz L).ay =true:=by cases L<;>exact⟨rfl,rfl⟩
theorem FQ(k:IntKind)(a b:Int):ag (some (false,[.int])) .neq (.d (.int k a)) (.d (.int k b))=some (.d (.bool (a != b))):=by simp[ag,fg,iH]
theorem Xt:az (.d (.sl .nil 0 []))=some [.d (.sl .nil 0 [])]:=rfl
theorem dA(a b c d:D):az (.d (.agg [a,b,c,d]))=some [.d a,.d b,.d c,.d d]:=rfl
theorem RI(a b:SV):setAt [a] 0 [b]=[b]:=rfl
theorem ft(a b c d e f g h:SV):setAt [a,b,c,d] 0 [e,f,g,h]=[e,f,g,h]:=rfl
theorem aeo(a b c d e f:af):[a,b,c,d,e,f].take 5=[a,b,c,d,e]:=rfl
theorem dF{α:Type}(a b c d:α):[a,b,c,d].length =4:=rfl
theorem ZI(l:List aj)(hl:l.length≤2^30)(k:Nat)(d:D)(aA:List af)(hI:rI l k aA)(hd:(aF l)[k]? =some d):
  aw Try.prog gl (aD Try.prog gl) sJ (Hc w7) (fun x e1=>x=.normal ∧aw Try.prog gl (aD Try.prog gl) sJ (Hd w7) (fun x e2=>(e2.boxes.take 5).all (kK 5)=true∧xd (rI l) (rX l) (k+1) x (e2.boxes.take 5)) e1) ⟨cq rG (some 18) (.v (.d d)),aA⟩:=by
 obtain⟨m,rfl,hm,cY⟩:=hI
 obtain⟨s,hs,rfl⟩:∃s,l[k]? =some s∧d=s.enc:=by
  rw[aF,List.getElem?_map,Option.map_eq_some_iff]at hd
  obtain⟨s,h1,h2⟩:=hd
  exact⟨s,h1,h2.symm⟩
 have hk:k<l.length:=(List.getElem?_eq_some_iff.1 hs).1
 rw[uH hs,gy]at cY
 refine(adm _ s.enc (bd 6 (aF (l.take k))) m (fun x bs=>bs.all (kK 5)=true∧xd (rI l) (rX l) (k+1) x bs)).mpr ?_
 simp only[sS,sT,sZ,eV,eM,fV,Cj,eE,dM]
 refine dG (Ww (l.take k) s (dC 6 _) (by simp only[maxLen,List.length_take];omega)) ?_
 simp only[sS,sT,sZ,FQ]
 refine And.intro (fun hc=>?_) (fun hc=>?_)
 ·rw[if_neg (by simpa using hc)]at cY
  simp only[ZE,fE,jx,sS,sT,sZ,Oa]
  simp only[Xt,dA,sS,sT,sZ,RI,ft,il,dF,and_self,aeo]
  refine⟨J5 _ rfl _ (by rw[(Am _ _).1,(Am _ _).2];rfl) m,rfl,m0 (l.take k) s,s,m,_,cY.symm,rfl⟩
 ·rw[if_pos (by simpa using hc)]at cY
  have hb:((aF (l.take k)).length +[s.enc].length)*72≤140737488355328:=by simp only[dN,List.length_take,List.length_singleton];omega
  simp only[dr,kb,iG,sS,sT,sZ]
  refine g4 (nU 6 _) hb ?_
  simp only[OO,il,fS,g6,sS,sT,sZ]
  have GS:aF (l.take k)++[s.enc]=aF (l.take (k+1)):=by rw[yu,dZ hs]
  rw[GS]
  refine⟨Nat.zero_lt_one,And.intro (fun hr=>?_) (fun hr=>?_)⟩
  ·have hr:s.b9=false:=by simpa using hr
   simp only[fJ,fE,Fl,PA,yQ,sS,sT,sZ]
   have ht:cN (.d (.bool true))=some (.bool true):=rfl
   simp only[ht,yB hm.1 s,sS,sT,sZ]
   refine⟨J5 _ rfl _ (by rw[(Am _ _).1,(Am _ _).2];rfl) _,_,rfl,?_,?_⟩
   ·rw[dZ hs];exact hm.dec hr
   ·rw[dZ hs];exact cY
  ·have hr:s.b9=true:=by simpa using hr
   refine⟨J5 _ rfl _ (by rw[(Am _ _).1,(Am _ _).2];rfl) m,m,rfl,?_,?_⟩
   ·rw[dZ hs];exact hm.b9 hr
   ·rw[dZ hs];exact cY
def J6(l:List aj)(m a:List (MK×D)):List (List SV):=[[.d (.sl .nil 0 [])],[.d (.int .i64 0),.d (.int .i64 0),.d (.int .i64 0),.d (.str [])],[bd 6 (aF l)],[.undef],[.mp m],[.mp a]]
theorem Qg:ou (.d (.sl .nil 0 []))=some (oF []):=rfl
theorem ado(a b c d:SV):setAt [a,b] 0 [c,d]=[c,d]:=rfl
theorem ZJ(a b:D):az (.d (.agg [a,b]))=some [.d a,.d b]:=rfl
theorem abf(a b:D):ah true 2 0 [.d a,.d b]=some (.d (.agg [a,b])):=rfl
theorem afP{α:Type}(a b:α):[a,b].length =2:=rfl
theorem Ck{out:List aj}{A:List D→Prop}{B:Prop}(h1:out≠[]→A (aF out))(h2:out=[]→B):gP (oF out) 6 A B:=by
 cases out with
 |nil=>exact h2 rfl
 |cons y l=>exact⟨rfl,h1 (by simp)⟩
theorem Jx{out:List aj}(h:out≠[]):oF out=.bt 6 (aF out):=by
 cases out with
 |nil=>exact absurd rfl h
 |cons y l=>rfl
theorem Cl{out:List aj}{s:aj}{k:SV→Prop}(hb:(out.length+1)*72≤140737488355328)(hk:k (oF (out++[s]))):bI 6 72 (.bt 6 (aF out)) (.full 6 [s.enc]) k:=by
 unfold bI kH
 rw[nU]
 refine⟨by simpa[dN]using hb,?_⟩
 rw[Jx (by simp),←yu]at hk
 exact hk
theorem Ca{s:aj}{k:SV→Prop}(hk:k (oF [s])):bI 6 72 (oF []) (.full 6 [s.enc]) k:=by
 unfold bI kH
 rw[nU]
 exact⟨by simp,hk⟩
theorem Qh(out:List aj):vj (oF out)=some (bd 6 (aF out)):=by cases out<;>rfl
theorem dB(a b c d:D):ah true 4 0 [.d a,.d b,.d c,.d d]=some (.d (.agg [a,b,c,d])):=rfl
theorem afQ(x:SV):1≤[x].length :=Nat.le_refl _
theorem afR(a b c d:SV):4≤[a,b,c,d].length :=Nat.le_refl _
theorem Ay(n:Int):cN (.d (.int .i64 n))=some (.int .i64 n):=rfl
theorem IK:aX (oF [])=some (.d (.int .i64 0)):=rfl
theorem EY:aa (oF [])=oF []:=rfl
theorem Jy(cs:List SV)(i:Nat):ah false 1 i cs=cs[i]? :=rfl
theorem QV(cs:List SV)(i:Nat)(v:SV):setAt cs i [v]=cs.set i v:=rfl
theorem abg(l:List aj)(hl:l.length≤2^30)(hp:ct l≤2^30)(m:List (MK×D))(hm:qu m l)(K:SV→Prop)(hK:K (.aL [.d (bz 6 (aF (g7 l l))),.d (.agg [.int .i64 0,.int .i64 0,.int .i64 0,.str []])])):
  kq Try.prog gl (aD Try.prog gl) sJ ((fL vH).drop 5) (Bb Try.prog Try.f50 K) ⟨rG,F8 (bd 6 (aF l)) m⟩:=by
 rw[adn]
 simp only[Cj,dM,sS,sT,sZ,(dC 6 (aF l)).len,dN,Qg]
 refine tj (fun i a=>sK a (g7 l (l.take i))) (fun i a=>[oF (g7 l (l.take i)),.d (bz 6 (aF l)),.d (.int .i64 (l.length:Int)),.d (.int .i64 ((i:Nat):Int))]) (fun i a=>J6 l m a) l.length [] sK.nil (fun i a hi hJ I hI=>?_) (fun a hJ I=>?_)
 ·simp only[J6,sS,sT,sZ]
  refine And.intro (fun _=>?_) (fun h=>absurd h (by simp;omega))
  obtain⟨s,hs⟩:=get_some hi
  simp only[(dC 6 (aF l)).at (k9 hs),p7,eV,eM,fV,fJ,fE,fS,Fl,PA,ZJ,ado,abf,afP,Cj,adg,yn,ZH hm s,abe hJ s,sS,sT,sZ]
  rw[EI hs]at hI
  have hlen:=Io l l i
  have Bl:=NP l l i
  have afS:=Ai l i
  have kN:s.perms.length≤ct l:=by
   have h1:=xZ hs
   have h2:=Ai l (i+1)
   omega
  generalize g7 l (l.take i)=out at hI hJ hlen Bl ⊢
  unfold o0 at hI
  refine And.intro (fun hr=>?_) (fun hr=>?_)
  ·refine And.intro (fun hd=>?_) (fun hd=>?_)
   ·rw[if_pos (by simp[hr,hd])]at hI
    refine aP (aY hi (by simp only[maxLen];omega)) ?_
    exact hI _ hJ
   ·refine dG (HL _ _) ?_
    simp only[sS,sT,sZ]
    refine And.intro (fun ho=>?_) (fun ho=>?_)
    ·rw[if_pos (by simp[hr,ho])]at hI
     refine aP (aY hi (by simp only[maxLen];omega)) ?_
     exact hI _ hJ
    ·rw[if_neg (by simp[hr,hd,ho])]at hI
     cases A2:hP s out with
     |none=>
      simp only[A2]at hI ⊢
      refine And.intro (fun h=>absurd h (by simp)) (fun _=>?_)
      refine Ck (fun bg=>?_) (fun he=>?_)
      ·simp only[dN,yQ,Ay,yB hJ.1 s,wK,wG,eE,dr,kb,iG,sS,sT,sZ,yn]
       refine Cl (by omega) ?_
       refine aP (aY hi (by simp only[maxLen];omega)) ?_
       exact hI _ (hJ.snoc s)
      ·subst he
       simp only[EY,IK,yQ,Ay,yB hJ.1 s,eE,dr,kb,iG,sS,sT,sZ,yn]
       refine Ca ?_
       refine aP (aY hi (by simp only[maxLen];omega)) ?_
       exact hI _ (hJ.snoc s)
     |some j=>
      obtain⟨y,hy,UU⟩:=Fk A2
      have hj:j<out.length:=(List.getElem?_eq_some_iff.1 hy).1
      have hyp:=Bl y (List.mem_of_getElem? hy)
      simp only[A2,if_pos hr,hy]at hI ⊢
      refine And.intro (fun _=>?_) (fun h=>absurd h (by simp))
      refine And.intro (fun _=>?_) (fun h=>absurd h (by simp[hr]))
      refine Ck (fun bg=>?_) (fun he=>absurd hj (by rw[he];simp))
      simp only[dN,j4 hj,Jy,IJ out j y hy,sS,sT,sZ]
      refine cw (Wv (cf y.perms) (by rw[iF];omega)) (j3 _ _) ?_
      rw[←Jy,jv]
      simp only[sS,sT,sZ]
      refine g4 (aa8 (dC 1 _).sv) (by simp only[iF];omega) ?_
      have afT:cf y.perms++cf s.perms=cf (y.perms++s.perms):=by simp[cf]
      rw[afT]
      simp only[dM,sS,sT,sZ]
      refine cw (HI _ (dC 1 _) (by rw[List.length_append];omega)) (j3 _ _) ?_
      have hg:=wG (out.set j (wX y s))
      rw[List.length_set]at hg
      have aR:=Je out j y (dedup (y.perms++s.perms)) hy
      simp only[dM,s5,j4 hj,sS,sT,sZ,QV,il]
      rw[aR]
      refine⟨by rw[Jd];omega,?_⟩
      simp only[wK,sS,sT,sZ]
      refine aP hg ?_
      refine aP (aY hi (by simp only[maxLen];omega)) ?_
      have:=hI a (hJ.set hy rfl rfl)
      rw[Jx (by intro h;have h2:=congrArg List.length h;simp only[List.length_set,List.length_nil]at h2;omega)]at this
      exact this
  ·rw[if_neg (by simp[hr])]at hI
   cases A2:hP s out with
   |none=>
    simp only[A2]at hI ⊢
    refine And.intro (fun h=>absurd h (by simp)) (fun _=>?_)
    refine Ck (fun bg=>?_) (fun he=>?_)
    ·simp only[dN,yQ,Ay,yB hJ.1 s,wK,wG,eE,dr,kb,iG,sS,sT,sZ,yn]
     refine Cl (by omega) ?_
     refine aP (aY hi (by simp only[maxLen];omega)) ?_
     exact hI _ (hJ.snoc s)
    ·subst he
     simp only[EY,IK,yQ,Ay,yB hJ.1 s,eE,dr,kb,iG,sS,sT,sZ,yn]
     refine Ca ?_
     refine aP (aY hi (by simp only[maxLen];omega)) ?_
     exact hI _ (hJ.snoc s)
   |some j=>
    simp only[A2,if_neg (show ¬s.b9=true by simp[hr])]at hI ⊢
    refine And.intro (fun _=>?_) (fun h=>absurd h (by simp))
    refine And.intro (fun h=>absurd h (by simp[hr])) (fun _=>?_)
    refine Ck (fun bg=>?_) (fun he=>?_)
    ·simp only[dN,yQ,Ay,yB hJ.1 s,wK,wG,eE,dr,kb,iG,sS,sT,sZ,yn]
     refine Cl (by omega) ?_
     refine aP (aY hi (by simp only[maxLen];omega)) ?_
     exact hI _ (hJ.snoc s)
    ·subst he
     simp only[EY,IK,yQ,Ay,yB hJ.1 s,eE,dr,kb,iG,sS,sT,sZ,yn]
     refine Ca ?_
     refine aP (aY hi (by simp only[maxLen];omega)) ?_
     exact hI _ (hJ.snoc s)
 ·simp only[J6,sS,sT,sZ]
  refine And.intro (fun h=>absurd h (by simp)) (fun _=>?_)
  rw[List.take_length]
  simp only[Qh,dM,wD,s5,dA,il,dF,afQ,afR,RI,ft,Cj,dB,sS,sT,sZ]
  exact hK
end Go.Proofs.Ytimbllcalipehaa.Ab
namespace Go.Proofs.Ytimbllcalipehaa.Ab
open Go
set_option linter.unusedVariables false
set_option maxRecDepth 4000
def oG(l:List aj):SV:=match gy [] l with
 |some (c,s)=>.aL [.d (.sl .nil 0 []),.d (.agg [.int .i64 c,.int .i64 s.line,.int .i64 s.fo,.str s.name])]
 |none=>.aL [.d (bz 6 (aF (g7 l l))),.d (.agg [.int .i64 0,.int .i64 0,.int .i64 0,.str []])]
theorem ZK:fL vH=(fL vH).take 4++.block 0 (.rangeFunc (.tmp 17) #[18] (Hc w7) (Hd w7))::(fL vH).drop 5:=by kernel_rfl
theorem adp:((cF sJ.gh (Hc w7)).all fun t=> !([2,3,4,5].contains t))=true:=by kernel_rfl
theorem adq:((cF sJ.gh (Hd w7)).all fun t=> !([2,3,4,5].contains t))=true:=by kernel_rfl
theorem Yt(t:Nat)(s:Slot)(h:rG[t]? =some s)(hp:Dr s=true):t∈[2,3,4,5]:=by
 by_cases h6:t<6
 ·rcases t with _|_|_|_|_|_|t
  ·cases h;cases hp
  ·cases h;cases hp
  ·simp
  ·simp
  ·simp
  ·simp
  ·omega
 ·exfalso
  unfold rG at h
  rw[List.getElem?_append_right (by simp;omega)]at h
  have:=(List.mem_replicate.1 (List.mem_of_getElem? h)).2
  subst this
  cases hp
theorem adr(f1 f2 f3 f4:D)(h:(f1.one&&f2.one&&f3.one&&f4.one)=true)(al:SV)(m:List (MK×D))(K:SV→Prop)(hK:K (.aL [.d (.sl .nil 0 []),.d (.agg [f1,f2,f3,f4])])):finish Try.prog Try.f50 ⟨rG,He [.d f1,.d f2,.d f3,.d f4] al m⟩ K:=by
 show finish Try.prog Try.f50 ⟨rG,[.cells [.d (.sl .nil 0 [])],.cells [.d f1,.d f2,.d f3,.d f4],.cells [al],.map m,.one (.m 3)]⟩ K
 rw[adj]
 simp only[Cj,dB,sS,sT,sZ]
 exact hK
theorem Ob(aG:List fp){L:List D}{xs:D}(hx:aW 55 L xs)(hs:A1 aG L)(hn:aG.length≤maxLen)(hl:(aG.flatMap bJ).length ≤2^30)(hp:ct (aG.flatMap bJ)≤2^30):
  aD Try.prog gl 50 [.d xs] (oG (aG.flatMap bJ)):=by
 have gU:xs.cells=[xs]:=by cases hx<;>rfl
 have iA:xs.one=true:=by cases hx<;>rfl
 refine Wq bA (fn:=Try.f50) (c:=vH) rfl rfl (bV (fn:=Try.f50) (by kernel_rfl) (by kernel_rfl) (by kernel_rfl)) (hh:=sJ) ZK (VY aG hx hs hn) rfl (fun bC=>?_)
 show kq Try.prog gl _ sJ ((fL vH).take 4) _ (enter 105 _)
 rw[adl]
 simp only[sS,sT,sZ]
 refine cw (VL gU iA) rfl ?_
 refine⟨rfl,rG,rI (aG.flatMap bJ),rX (aG.flatMap bJ),rfl,fun i s hi=>?_,rfl,rfl,fun t s ht hp=>?_,?_,fun k d aA hI hd hb=>?_,fun aA hI hb=>?_,fun x aA bg hX hb=>?_⟩
 ·by_cases h6:i<6
  ·rcases i with _|_|_|_|_|_|i
   ·cases hi;exact .inl rfl
   ·cases hi;exact .inl rfl
   ·cases hi;exact .inr ⟨_,rfl,.inl rfl⟩
   ·cases hi;exact .inr ⟨_,rfl,.inl rfl⟩
   ·cases hi;exact .inr ⟨_,rfl,.inl rfl⟩
   ·cases hi;exact .inr ⟨_,rfl,.inl rfl⟩
   ·omega
  ·left
   unfold rG at hi
   rw[List.getElem?_append_right (by simp;omega)]at hi
   exact(List.mem_replicate.1 (List.mem_of_getElem? hi)).2
 ·have hm:=Yt t s ht hp
  have h1:=List.all_eq_true.1 adp
  have h2:=List.all_eq_true.1 adq
  refine⟨fun h=>?_,fun h=>?_,fun h=>?_⟩
  ·have:=h1 t h;simp at this;simp_all
  ·have:=h2 t h;simp at this;simp_all
  ·subst h;simp at hm
 ·exact⟨[],rfl,qu.nil,rfl⟩
 ·exact ZI _ hl k d aA hI hd
 ·obtain⟨m,rfl,hm,cY⟩:=hI
  rw[dN,List.drop_length]at cY
  rw[dN,List.take_length]at hm ⊢
  refine abg _ hl hp m hm _ ?_
  unfold oG
  rw[←cY]
  rfl
 ·obtain⟨rfl,c,s,m,al,hc,rfl⟩:=hX
  refine⟨rfl,?_⟩
  have hr:oG (aG.flatMap bJ)=.aL [.d (.sl .nil 0 []),.d (.agg [.int .i64 c,.int .i64 s.line,.int .i64 s.fo,.str s.name])]:=by unfold oG;rw[hc]
  exact adr _ _ _ _ rfl al m _ hr.symm
end Go.Proofs.Ytimbllcalipehaa.Ab
namespace Go.Proofs.Ytimbllcalipehaa.Ab
open Go
set_option linter.unusedVariables false
set_option maxRecDepth 4000
theorem wO(f:Fn)(a b:List SV):aa (.dg f a b)=.dg f a b:=rfl
theorem Oc(f:FuncId)(a b args:List SV)(k:FuncId→List SV→Prop):withFn (.dg (.func f) a b) args k=k f (a++args++b):=rfl
theorem Fm(cs:List SV)(o:Nat):aa (.ref cs o)=.ref cs o:=rfl
theorem Xu(s:aj):s.cells.map aa=s.cells:=rfl
theorem EZ{α:Type}(p:α→Bool)(l:List α):(first p l).isSome =l.any p:=by
 cases h:first p l with
 |some k=>
  obtain⟨x,h1,h2⟩:=yh h
  exact(List.any_eq_true.2 ⟨x,List.mem_of_getElem? h1,h2⟩).symm
 |none=>
  have:=yo h
  symm
  rw[Option.isSome_none,List.any_eq_false]
  intro x hx
  obtain⟨j,hj⟩:=List.mem_iff_getElem?.1 hx
  simp[this j x hj]
def BK(k:Int):Int:=if k==3 then 2 else k
end Go.Proofs.Ytimbllcalipehaa.Ab
namespace Go.Proofs.Ytimbllcalipehaa.Ab
open Go
set_option linter.unusedVariables false
set_option maxRecDepth 4000
structure zR where
 name:List UInt8
 zS:Int
 aG:List fp
inductive Gu(m:zR):D→Prop
 |mk (xs:D) (L:List D) (hx:aW 55 L xs) (hs:A1 m.aG L):Gu m (.agg [.str m.name,.int .i64 m.zS,xs])
def zR.syms(m:zR):List aj:=m.aG.flatMap bJ
structure Lh(m:zR):Prop where
 n:m.aG.length≤2^30
 l:m.syms.length≤2^30
 p:ct m.syms≤2^30
theorem Au(a b c:D):az (.d (.agg [a,b,c]))=some [.d a,.d b,.d c]:=rfl
theorem zf{α:Type}(a b c:α):[a,b,c].length =3:=rfl
theorem Cm(a b c:SV):ah false 1 2 [a,b,c]=some c:=rfl
theorem Jz(a b c:D):ah true 3 0 [.d a,.d b,.d c]=some (.d (.agg [a,b,c])):=rfl
theorem gK(a b c d:SV):ah false 1 0 [a,b,c,d]=some a:=rfl
theorem Fo:∀(l pre:List aj)(c:Int)(s:aj),gy pre l=some (c,s)→c≠0
 |[],pre,c,s,h=>by simp[gy]at h
 |y::l,pre,c,s,h=>by
  rw[gy]at h
  split at h
  ·exact Fo l _ c s h
  ·rename_i hc
   cases h
   exact hc
theorem VM{m:zR}{d:D}(hd:Gu m d)(hm:Lh m):aD Try.prog gl 24 [.d d] (oG m.syms):=by
 cases hd with
 |mk xs L hx hs=>
 refine cE bA (bV (fn:=Try.f24) (by kernel_rfl) (by kernel_rfl) (by kernel_rfl)) (h:=LC) ?_;rw[aci];intro bC
 simp only[Au,zf,Cm,sS,sT,sZ]
 have hB:=Ob m.aG hx hs (Nat.le_trans hm.n (by decide)) hm.l hm.p
 have e:m.aG.flatMap bJ=m.syms:=rfl
 rw[e]at hB
 unfold oG at hB ⊢
 cases hc:gy [] m.syms with
 |none=>
  simp only[hc]at hB ⊢
  refine call2 hB ?_
  simp only[dA,dF,ft,dB,sS,sT,sZ]
 |some p=>
  obtain⟨c,s⟩:=p
  simp only[hc]at hB ⊢
  refine call2 hB ?_
  simp only[dA,dF,ft,dB,sS,sT,sZ]
def vd(l:List aj):List aj:=match gy [] l with|none=>g7 l l|some _=>[]
end Go.Proofs.Ytimbllcalipehaa.Ab
namespace Go.Proofs.Ytimbllcalipehaa.Ab
open Go
set_option maxRecDepth 4000
theorem nS(cs l:List SV):af.aB (af.again cs (.cells l))=cs:=rfl
theorem EG(k:Int):aD Try.prog gl 81 [.d (.int .i64 k)] (.d (.int .i64 (BK k))):=by
 refine cE bA (bV (fn:=Try.f81) (by kernel_rfl) (by kernel_rfl) (by kernel_rfl)) (h:=Ur) ?_;rw[acy];intro bC
 simp only[sS,sT,sZ,gx,BK]
 refine And.intro (fun h=>?_) (fun h=>?_)
 ·simp only[h,if_true]
 ·simp only[h,Bool.false_eq_true,if_false]
theorem PB(l:List (List UInt8)){x:D}(hx:aW 1 (cf l) x)(hl:l.length≤maxLen)(s:List UInt8):aD Try.prog gl 49 [.d x,.d (.str s)] (.d (.bool (eP s l))):=by
 refine cE bA (bV (fn:=Try.f49) (by kernel_rfl) (by kernel_rfl) (by kernel_rfl)) (h:=T9) ?_;rw[acn];intro bC
 refine mz (fun i=>∀(j:Nat)t,j<i→l[j]? =some t→(t==s)=false) (fun i=>[.d x,.d (.str s),.d (.int .i64 ((i:Nat):Int))]) (fun i=>[]) l.length (fun j t hj=>by omega) (fun i hi hJ I hI=>?_) (fun hJ I=>?_)
 ·simp only[sS,sT,sZ,hx.len,iF]
  refine And.intro (fun _=>?_) (fun h=>absurd h (by simp;omega))
  obtain⟨t,ht⟩:=get_some hi
  simp only[hx.at (wT ht),sS,sT,sZ,wN,wS]
  refine And.intro (fun h=>?_) (fun h=>?_)
  ·rw[Qd ht h]
  ·refine aP (aY hi hl) ?_
   refine hI fun j t' hj qF=>?_
   rcases Nat.lt_or_ge j i with h2|h2
   ·exact hJ j t' h2 qF
   ·have:j=i:=by omega
    subst this
    rw[ht]at qF
    cases qF
    exact h
 ·simp only[sS,sT,sZ,hx.len,iF]
  refine And.intro (fun h=>absurd h (by simp)) (fun _=>?_)
  rw[Px fun i t ht=>hJ i t (List.getElem?_eq_some_iff.1 ht).1 ht]
def hY(l m:List (List UInt8)):List (List UInt8):=m.foldl jD l
theorem Xv{l m:List (List UInt8)}{i:Nat}{s:List UInt8}(h:m[i]? =some s):hY l (m.take (i+1))=jD (hY l (m.take i)) s:=by
 rw[dZ h,hY,List.foldl_append];rfl
theorem Qi(l m:List (List UInt8))(i:Nat):(hY l (m.take i)).length ≤l.length+m.length:=by
 have key:∀(m:List (List UInt8))(l:List (List UInt8)),(hY l m).length ≤l.length+m.length:=by
  intro m
  induction m with
  |nil=>intro l;exact Nat.le_refl _
  |cons s m ih=>
   intro l
   have h1:=ih (jD l s)
   have h2:=Py l s
   rw[show hY l (s::m)=hY (jD l s) m from rfl,List.length_cons]
   omega
 have:=key (m.take i) l
 rw[List.length_take]at this
 omega
theorem Od{sz cP:Nat}{M:List D}{x:SV}{k:SV→Prop}(hx:elems sz x=some M)(hb:M.length*cP≤140737488355328)(hk:k (bd sz M)):bI sz cP (.d (.sl .nil 0 [])) x k:=by
 have:=g4 (sz:=sz) (cP:=cP) (L:=[]) (M:=M) (x:=x) (k:=k) hx (by simpa using hb) (by simpa using hk)
 exact this
theorem HP(l m:List (List UInt8)){x y:D}(hx:aW 1 (cf l) x)(hy:aW 1 (cf m) y)(hl:l.length≤2^40)(hm:m.length≤2^40):aD Try.prog gl 48 [.d x,.d y] (bd 1 (cf (hY l m))):=by
 refine cE bA (bV (fn:=Try.f48) (by kernel_rfl) (by kernel_rfl) (by kernel_rfl)) (h:=T8) ?_;rw[acm];intro bC
 have Ej:m.length≤maxLen:=Nat.le_trans hm (by decide)
 simp only[sS,sT,sZ]
 refine Od (hx.sv.elems.1) (by rw[iF];omega) ?_
 refine gj (fun i=>[.d y,bd 1 (cf (hY l (m.take i))),.d (.int .i64 ((i:Nat):Int))]) (fun i=>[]) m.length (fun i hi I hI=>?_) (fun I=>?_)
 ·simp only[sS,sT,sZ,hy.len,iF]
  refine And.intro (fun _=>?_) (fun h=>absurd h (by simp;omega))
  obtain⟨t,ht⟩:=get_some hi
  have LX:=Qi l m i
  have hd:=Xv (l:=l) ht
  simp only[hy.at (wT ht),sS,sT,sZ,wN,dM]
  refine dG (PB (hY l (m.take i)) (dC 1 _) (by simp only[maxLen];omega) t) ?_
  simp only[sS,sT,sZ,g6]
  refine And.intro (fun h=>?_) (fun h=>?_)
  ·simp only[sS,sT,sZ,Fh,FO,Fi]
   refine g4 (nU 1 _) (by rw[iF];simp only[List.length_singleton];omega) ?_
   refine aP (aY hi Ej) ?_
   rw[EX]
   rw[hd,jD,if_neg (by simpa using h)]at hI
   exact hI
  ·refine aP (aY hi Ej) ?_
   rw[hd,jD,if_pos (by simpa using h)]at hI
   exact hI
 ·simp only[sS,sT,sZ,hy.len,iF]
  refine And.intro (fun h=>absurd h (by simp)) (fun _=>?_)
  simp only[k7,true_and]
  rw[List.take_of_length_le (Nat.le_refl _)]
theorem VZ{s:fp}{x:D}(hs:rS s x):aD Try.prog gl 80 [.d x] (.d (.int .i64 (g9 s.kind))):=by
 cases hs with
 |mk r5 r6 cC al rest h hl ha=>
  refine cE bA (bV (fn:=Try.f80) (by kernel_rfl) (by kernel_rfl) (by kernel_rfl)) (h:=UI) ?_;rw[acG];intro bC
  simp only[sS,sT,sZ,jb,gN,h,jw]
  unfold g9
  refine And.intro (fun h=>by rw[if_pos h]) (fun h=>?_)
  rw[if_neg (by rw[h];simp)]
  refine And.intro (fun h=>by rw[if_pos h]) (fun h=>?_)
  rw[if_neg (by rw[h];simp)]
  refine And.intro (fun h=>by rw[if_pos h]) (fun h=>?_)
  rw[if_neg (by rw[h];simp)]
  refine And.intro (fun h=>by rw[if_pos h]) (fun h=>?_)
  rw[if_neg (by rw[h];simp)]
  refine And.intro (fun h=>by rw[if_pos h]) (fun h=>?_)
  rw[if_neg (by rw[h];simp)]
  refine And.intro (fun h=>by rw[if_pos h]) (fun h=>?_)
  rw[if_neg (by rw[h];simp)]
  refine And.intro (fun h=>by rw[if_pos h]) (fun h=>?_)
  rw[if_neg (by rw[h];simp)]
  refine And.intro (fun h=>by rw[if_pos h]) (fun h=>?_)
  rw[if_neg (by rw[h];simp)]
theorem Iq(s:aj):aD Try.prog gl 46 [.d s.enc] (.d (.bool (rR s.kind s.name))):=by
 refine cE bA (bV (fn:=Try.f46) (by kernel_rfl) (by kernel_rfl) (by kernel_rfl)) (h:=T7) ?_;rw[ack];intro bC
 simp only[sS,sT,sZ,eV,eM,fJ,fE,rR,wS,gx]
 refine And.intro (fun h=>?_) (fun h=>?_)
 ·simp[h,Lc]
 ·simp[h]
end Go.Proofs.Ytimbllcalipehaa.Ab
namespace Go.Proofs.Ytimbllcalipehaa.Ab
open Go
set_option maxRecDepth 4000
set_option linter.unusedVariables false
theorem Cw(s:aj):bZ (.aT s.enc 0) 0=some (.aT s.enc 0):=rfl
theorem Cx(s:aj):bZ (.aT s.enc 0) 1=some (.aT s.enc 1):=rfl
theorem Cy(s:aj):bZ (.aT s.enc 0) 2=some (.aT s.enc 2):=rfl
theorem Cz(s:aj):bZ (.aT s.enc 0) 3=some (.aT s.enc 3):=rfl
theorem CA(s:aj):bZ (.aT s.enc 0) 4=some (.aT s.enc 4):=rfl
theorem CR(s:aj):aI false 1 (.aT s.enc 0)=some (.d (.int .i64 s.kind)):=rfl
theorem CS(s:aj):aI false 1 (.aT s.enc 1)=some (.d (.str s.name)):=rfl
theorem CT(s:aj):aI false 1 (.aT s.enc 2)=some (.d (.bool s.b9)):=rfl
theorem CU(s:aj):aI false 1 (.aT s.enc 3)=some (.d (bz 1 (cf s.perms))):=rfl
theorem CV(s:aj):aI true 2 (.aT s.enc 4)=some (.d (.agg [.int .i64 s.line,.int .i64 s.fo])):=rfl
def mW(x:aj):Bool→List aj→Int
 |tw,[]=>if tw then 12 else 0
 |tw,y::l=>if BK y.kind != BK x.kind then mW x tw l else if !(y.name==x.name)then mW x tw l else if y.kind != x.kind then 13 else mW x (tw||(!y.b9&& !x.b9)) l
def tA(l:List aj)(x:aj):Int:=mW x (rR x.kind x.name&& !x.b9) l
theorem V0(l:List aj)(x:aj){y:D}(hy:aW 6 (aF l) y)(hl:l.length≤maxLen):aD Try.prog gl 66 [.d y,.d x.enc] (.d (.int .i64 (tA l x))):=by
 refine cE bA (bV (fn:=Try.f66) (by kernel_rfl) (by kernel_rfl) (by kernel_rfl)) (h:=Uj) ?_;rw[acu];intro bC
 simp only[sS,sT,sZ,eV,eM,eE,fS,g6,fJ,fE]
 have loop:∀tw:Bool,mW x tw l=tA l x→∀{F:List SV→List (List SV)→(List SV→List (List SV)→Prop)→Prop},(∀i tw,i<l.length→mW x tw (l.drop i)=tA l x→∀I:List SV→List (List SV)→Prop,(∀Ek,mW x Ek (l.drop (i+1))=tA l x→I [.d y,.d (.bool Ek),.d (.int .i64 ((i+1:Nat):Int))] [x.cells])→F [.d y,.d (.bool tw),.d (.int .i64 ((i:Nat):Int))] [x.cells] I)→
   (∀tw,mW x tw []=tA l x→∀I,F [.d y,.d (.bool tw),.d (.int .i64 (l.length:Int))] [x.cells] I)→bR F [.d y,.d (.bool tw),.d (.int .i64 0)] [x.cells]:=by
  intro tw MD F hs he
  exact tj (fun i tw=>mW x tw (l.drop i)=tA l x) (fun i tw=>[.d y,.d (.bool tw),.d (.int .i64 ((i:Nat):Int))]) (fun i _=>[x.cells]) l.length tw MD (fun i tw hi hJ I hI=>hs i tw hi hJ I hI) (fun tw hJ I=>he tw (by rw[List.drop_length]at hJ;exact hJ) I)
 refine dG (Iq x) ?_
 simp only[sS,sT,sZ]
 refine And.intro (fun h1=>?_) (fun h1=>?_)
 ·refine loop _ (by rw[tA,h1,Bool.true_and]) (fun i tw hi hJ I hI=>?_) (fun tw hJ I=>?_)
  ·simp only[sS,sT,sZ,hy.len,dN]
   refine And.intro (fun _=>?_) (fun h=>absurd h (by simp;omega))
   obtain⟨z,hz⟩:=get_some hi
   rw[uH hz,mW]at hJ
   simp only[hy.at (k9 hz),sS,sT,sZ,Cw,Cx,Cy,Cz,CA,CR,CS,CT,CU,CV,Ci,eV,fJ,fE,fS,Fv,g6]
   refine dG (EG _) ?_
   simp only[sS,sT,sZ]
   refine dG (EG _) ?_
   simp only[sS,sT,sZ]
   refine And.intro (fun ha=>?_) (fun ha=>?_)
   ·rw[if_pos ha]at hJ
    refine aP (aY hi hl) ?_
    exact hI tw hJ
   ·rw[if_neg (by rw[ha];simp)]at hJ
    refine And.intro (fun hb=>?_) (fun hb=>?_)
    ·rw[if_pos hb]at hJ
     refine aP (aY hi hl) ?_
     exact hI tw hJ
    ·rw[if_neg (by rw[hb];simp)]at hJ
     refine And.intro (fun hc=>?_) (fun hc=>?_)
     ·rw[if_pos hc]at hJ
      rw[←hJ]
     ·rw[if_neg (by rw[hc];simp)]at hJ
      refine And.intro (fun ht=>?_) (fun ht=>?_)
      ·rw[ht,Bool.true_or]at hJ
       refine aP (aY hi hl) ?_
       exact hI true hJ
      ·rw[ht,Bool.false_or]at hJ
       refine And.intro (fun hx=>?_) (fun hx=>?_)
       ·rw[hx,Bool.true_and]at hJ
        refine aP (aY hi hl) ?_
        exact hI _ hJ
       ·rw[hx,Bool.false_and]at hJ
        refine aP (aY hi hl) ?_
        exact hI false hJ
  ·simp only[sS,sT,sZ,hy.len,dN]
   refine And.intro (fun h=>absurd h (by simp)) (fun _=>?_)
   rw[mW]at hJ
   refine And.intro (fun ht=>?_) (fun ht=>?_)
   ·rw[if_pos ht]at hJ
    rw[←hJ]
   ·rw[if_neg (by rw[ht];simp)]at hJ
    rw[←hJ]
 ·refine loop _ (by rw[tA,h1,Bool.false_and]) (fun i tw hi hJ I hI=>?_) (fun tw hJ I=>?_)
  ·simp only[sS,sT,sZ,hy.len,dN]
   refine And.intro (fun _=>?_) (fun h=>absurd h (by simp;omega))
   obtain⟨z,hz⟩:=get_some hi
   rw[uH hz,mW]at hJ
   simp only[hy.at (k9 hz),sS,sT,sZ,Cw,Cx,Cy,Cz,CA,CR,CS,CT,CU,CV,Ci,eV,fJ,fE,fS,Fv,g6]
   refine dG (EG _) ?_
   simp only[sS,sT,sZ]
   refine dG (EG _) ?_
   simp only[sS,sT,sZ]
   refine And.intro (fun ha=>?_) (fun ha=>?_)
   ·rw[if_pos ha]at hJ
    refine aP (aY hi hl) ?_
    exact hI tw hJ
   ·rw[if_neg (by rw[ha];simp)]at hJ
    refine And.intro (fun hb=>?_) (fun hb=>?_)
    ·rw[if_pos hb]at hJ
     refine aP (aY hi hl) ?_
     exact hI tw hJ
    ·rw[if_neg (by rw[hb];simp)]at hJ
     refine And.intro (fun hc=>?_) (fun hc=>?_)
     ·rw[if_pos hc]at hJ
      rw[←hJ]
     ·rw[if_neg (by rw[hc];simp)]at hJ
      refine And.intro (fun ht=>?_) (fun ht=>?_)
      ·rw[ht,Bool.true_or]at hJ
       refine aP (aY hi hl) ?_
       exact hI true hJ
      ·rw[ht,Bool.false_or]at hJ
       refine And.intro (fun hx=>?_) (fun hx=>?_)
       ·rw[hx,Bool.true_and]at hJ
        refine aP (aY hi hl) ?_
        exact hI _ hJ
       ·rw[hx,Bool.false_and]at hJ
        refine aP (aY hi hl) ?_
        exact hI false hJ
  ·simp only[sS,sT,sZ,hy.len,dN]
   refine And.intro (fun h=>absurd h (by simp)) (fun _=>?_)
   rw[mW]at hJ
   refine And.intro (fun ht=>?_) (fun ht=>?_)
   ·rw[if_pos ht]at hJ
    rw[←hJ]
   ·rw[if_neg (by rw[ht];simp)]at hJ
    rw[←hJ]
def tN(k:Int)(n:List UInt8)(r:Bool)(l:List aj):Int:=orM (first (fun y=>y.kind==k&&(y.name==n&&y.b9==r)) l)
theorem PC(a b:Bool):ag (some (false,[.bool])) .eql (.d (.bool a)) (.d (.bool b))=some (.d (.bool (a==b))):=rfl
theorem OS(l:List aj){y:D}(hy:aW 6 (aF l) y)(hl:l.length≤maxLen)(k:Int)(n:List UInt8)(r:Bool):aD Try.prog gl 47 [.d y,.d (.int .i64 k),.d (.str n),.d (.bool r)] (.d (.int .i64 (tN k n r l))):=by
 refine cE bA (bV (fn:=Try.f47) (by kernel_rfl) (by kernel_rfl) (by kernel_rfl)) (h:=MA) ?_;rw[RE];intro bC
 refine mz (fun i=>∀(j:Nat)z,j<i→l[j]? =some z→(z.kind==k&&(z.name==n&&z.b9==r))=false) (fun i=>[.d y,.d (.int .i64 k),.d (.str n),.d (.bool r),.d (.int .i64 ((i:Nat):Int))]) (fun i=>[]) l.length (fun j t hj=>by omega) (fun i hi hJ I hI=>?_) (fun hJ I=>?_)
 ·simp only[sS,sT,sZ,hy.len,dN]
  refine And.intro (fun _=>?_) (fun h=>absurd h (by simp;omega))
  obtain⟨z,hz⟩:=get_some hi
  have nx:(z.kind==k&&(z.name==n&&z.b9==r))=false→∀(j:Nat)z,j<i+1→l[j]? =some z→(z.kind==k&&(z.name==n&&z.b9==r))=false:=fun h j z' hj gq=>by
   rcases Nat.lt_or_ge j i with h2|h2
   ·exact hJ j z' h2 gq
   ·have:j=i:=by omega
    subst this
    rw[hz]at gq;cases gq;exact h
  simp only[hy.at (k9 hz),sS,sT,sZ,Cw,Cx,Cy,Cz,CA,CR,CS,CT,CU,CV,Ci,wS,gx,PC]
  refine And.intro (fun h1=>?_) (fun h1=>?_)
  ·refine And.intro (fun h2=>?_) (fun h2=>?_)
   ·refine And.intro (fun h3=>?_) (fun h3=>?_)
    ·rw[tN,ti hz (by rw[h1,h2,h3];rfl) hJ];rfl
    ·refine aP (aY hi hl) ?_
     exact hI (nx (by rw[h3,Bool.and_false,Bool.and_false]))
   ·refine aP (aY hi hl) ?_
    exact hI (nx (by rw[h2,Bool.false_and,Bool.and_false]))
  ·refine aP (aY hi hl) ?_
   exact hI (nx (by rw[h1,Bool.false_and]))
 ·simp only[sS,sT,sZ,hy.len,dN]
  refine And.intro (fun h=>absurd h (by simp)) (fun _=>?_)
  rw[tN,s3 fun j z hz=>hJ j z (List.getElem?_eq_some_iff.1 hz).1 hz]
  rfl
end Go.Proofs.Ytimbllcalipehaa.Ab
set_option maxRecDepth 100000
namespace Go.Proofs.Ytimbllcalipehaa.Ab
open Go
def sL:Hints:=⟨[(9,0),(9,3),(9,4),(17,0),(17,3),(17,4),(18,0),(18,1)],[(14,[3,5,6,7],[1,4,10,12,15,20,25,29,31,32,33,36,39,40,47,56,60]),(2000004,[3,5,28],[1,4,10,12,15,29,31,32,33,36,39,40,47,56,60]),(1000005,[3,5],[1,4,10,12,15,20,25,33,36,39,40,47,56,60]),(1000007,[3,5],[1,4,10,12,15,20,25,29,31,32,33,40,47,56,60]),(2000008,[3,5,51],[1,4,10,12,15,20,25,29,31,32,33,36,39,56,60]),(1000009,[3,5],[1,4,10,12,15,20,25,29,31,32,33,36,39,40,47,56,60]),(1000012,[3,5,6],[1,4,10,12,15,20,25,29,31,32,33,36,39,40,47,56]),(2000014,[3,5,6,7,78],[1,4,10,12,15,20,25,29,31,32,33,36,39,40,47,56,60])],[]⟩
noncomputable def mP:Code:=Go.Proofs.Try.f65.body.getD .skip
def S8(a b:SV):List Slot:=[.v .undef,.p 0 0,.v .undef,.v a,.p 1 0,.v b,.v .undef,.v .undef,.v .undef,.v .undef,.p 0 4,.v .undef,.p 0 2,.v .undef,.v .undef,.p 0 0]++List.replicate 75 (.v .undef)
def Sq(a b:SV):List Slot:=[.v .undef,.p 0 0,.v .undef,.v a,.p 1 0,.v b,.v .undef,.v .undef,.v .undef,.v .undef,.p 0 4,.v .undef,.p 0 2,.v .undef,.v .undef,.p 0 0]++(List.replicate 17 (.v .undef)++.p 1 0::List.replicate 57 (.v .undef))
set_option maxHeartbeats 1000000 in
theorem aep(C:bl)(x0:SV)(Q:Ex→Env→Prop):kq Go.Proofs.Try.prog gl C sL ((fL mP).take 6) Q (enter 91 [x0])=(
 ab (az (aa x0)) fun r0=>
 (List.length r0)=55∧
 ab (ah true 55 0 r0) fun r1=>
 aS C 80 [(aa (aa (aa r1)))] fun r2=>
 ab (ah false 1 4 r0) fun r3=>
 ab (ah true 2 2 r0) fun r4=>
 ab (aN [(0,(.v (aa r2))),(1,(.v (aa (aa r3)))),(4,(.v (aa (aa r4))))]) fun r5=>
 ab (cS Proofs.Try.prog 87 r5) fun r6=>
 ab (az (.d r6)) fun r7=>
 (List.length r7)=6∧
 6≤6∧
 ab (ah false 1 0 r0) fun r8=>
 ab (ag (some (false,[.int])) .eql (aa (aa r8)) (.d (.int .i64 19))) fun r9=>
 pg (fun MH=>
  ar (aa (aa (aa r9)))
   (ab (ah false 1 1 r0) fun cm=>
   ab (ag none .geq (aa (aa cm)) (.d (.int .i64 1))) fun bG=>
   ar (aa (aa bG))
    (ab (ah false 1 1 r0) fun bU=>
    ab (ag none .leq (aa (aa bU)) (.d (.int .i64 8))) fun bM=>
    (MH [(.d (.sl .nil 0 [])),(aa r9),(aa bM)] [(af.aB (af.cells r0)),(af.aB (af.cells (setAt [(.d (.int .i64 0)),(.d (.str [])),(.d (.bool false)),(.d (.sl .nil 0 [])),(.d (.int .i64 0)),(.d (.int .i64 0))] 0 r7)))]))
    ((MH [(.d (.sl .nil 0 [])),(aa r9),(.d (.bool false))] [(af.aB (af.cells r0)),(af.aB (af.cells (setAt [(.d (.int .i64 0)),(.d (.str [])),(.d (.bool false)),(.d (.sl .nil 0 [])),(.d (.int .i64 0)),(.d (.int .i64 0))] 0 r7)))])))
   ((MH [(.d (.sl .nil 0 [])),(aa r9),(.d (.bool false))] [(af.aB (af.cells r0)),(af.aB (af.cells (setAt [(.d (.int .i64 0)),(.d (.str [])),(.d (.bool false)),(.d (.sl .nil 0 [])),(.d (.int .i64 0)),(.d (.int .i64 0))] 0 r7)))]))) (fun fk nh=>
  pg (fun BE=>
   ar (ae fk 2)
    (ab (ah false 1 1 (ao nh 0)) fun cQ=>
    ab (az (aa (aa cQ))) fun ck=>
    (List.length ck)=1∧
    1≤(List.length (ao nh 1))∧
    ab (az (.d (.bool true))) fun cA=>
    (List.length cA)=1∧
    3≤(List.length (setAt (ao nh 1) 0 ck))∧
    (BE [(ae fk 0),(ae fk 1)] [(af.aB (af.cells (ao nh 0))),(af.aB (af.cells (setAt (setAt (ao nh 1) 0 ck) 2 cA)))]))
    ((BE [(ae fk 0),(ae fk 1)] [(af.aB (af.again (ao nh 0) (af.cells r0))),(af.aB (af.again (ao nh 1) (af.cells (setAt [(.d (.int .i64 0)),(.d (.str [])),(.d (.bool false)),(.d (.sl .nil 0 [])),(.d (.int .i64 0)),(.d (.int .i64 0))] 0 r7))))]))) (fun jg gQ=>
   (Q Ex.normal (Env.mk ([(.v .undef),(.p (0+0) 0),(.v .undef),(.v (ae jg 0)),(.p ((List.length [(af.cells r0)])+0) 0),(.v (ae jg 1)),(.v .undef),(.v .undef),(.v .undef),(.v .undef),(.p (0+0) 4),(.v .undef),(.p (0+0) 2),(.v .undef),(.v .undef),(.p (0+0) 0)]++List.replicate 75 (.v .undef)) [(af.again (ao gQ 0) (af.again (ao nh 0) (af.cells r0))),(af.again (ao gQ 1) (af.again (ao nh 1) (af.cells (setAt [(.d (.int .i64 0)),(.d (.str [])),(.d (.bool false)),(.d (.sl .nil 0 [])),(.d (.int .i64 0)),(.d (.int .i64 0))] 0 r7))))]))))):=by kernel_rfl
set_option maxHeartbeats 1000000 in
theorem aeq(C:bl)(a b:SV)(qR sM:List SV)(Q:Ex→Env→Prop):kq Go.Proofs.Try.prog gl C sL (((fL mP).drop 6).take 4) Q ⟨S8 a b,[.cells qR,.cells sM]⟩=(
 ab (ah false 1 0 sM) fun r0=>
 ab (ag (some (false,[.int])) .eql (aa (aa r0)) (.d (.int .i64 1))) fun r1=>
 pg (fun J4=>
  ar r1
   (ab (ah false 1 7 qR) fun r5=>
   aS C 48 [(.d (.sl .nil 0 [])),(aa (aa (aa r5)))] fun r6=>
   ab (az (aa r6)) fun r7=>
   (List.length r7)=1∧
   4≤(List.length sM)∧
   (J4 [a,b] [(af.aB (af.cells qR)),(af.aB (af.cells (setAt sM 3 r7)))]))
   ((J4 [a,b] [(af.aB (af.cells qR)),(af.aB (af.cells sM))]))) (fun bQ gf=>
  pg (fun MI=>
   ab (ah false 1 0 (ao gf 1)) fun cb=>
   ab (ag (some (false,[.int])) .neq (aa (aa cb)) (.d (.int .i64 0))) fun bT=>
   ar (aa bT)
    (ab (eG .not (aa (aa (ae bQ 1)))) fun cm=>
    ar (aa cm)
     ((MI [(ae bQ 0),(ae bQ 1),(.d (.bool true))] [(af.aB (af.cells (ao gf 0))),(af.aB (af.cells (ao gf 1)))]))
     (ab (ah false 1 0 (ao gf 1)) fun bG=>
     ab (ag (some (false,[.int])) .eql (aa (aa bG)) (.d (.int .i64 1))) fun bU=>
     (MI [(ae bQ 0),(ae bQ 1),(aa (aa bU))] [(af.aB (af.cells (ao gf 0))),(af.aB (af.cells (ao gf 1)))])))
    ((MI [(ae bQ 0),(ae bQ 1),(.d (.bool false))] [(af.aB (af.cells (ao gf 0))),(af.aB (af.cells (ao gf 1)))]))) (fun iE qM=>
   pg (fun UW=>
    ar (ae iE 2)
     (ab (ah true 6 0 (ao qM 1)) fun di=>
     ab (aN [(0,(.v (aa (aa di))))]) fun cQ=>
     (bf 6 1 cQ)=true∧
     bI 6 72 (ae iE 0) (.full 6 (bj (br true [(.int .i64 0),(.str []),(.bool false),(.sl .nil 0 []),(.int .i64 0),(.int .i64 0)]) cQ 1 0)) fun ck=>
     (UW [ck,(ae iE 1)] [(af.aB (af.cells (ao qM 0))),(af.aB (af.cells (ao qM 1)))]))
     ((UW [(ae iE 0),(ae iE 1)] [(af.aB (af.again (ao qM 0) (af.again (ao gf 0) (af.cells qR)))),(af.aB (af.again (ao qM 1) (af.again (ao gf 1) (af.cells sM))))]))) (fun dk rN=>
    (Q Ex.normal (Env.mk ([(.v .undef),(.p 0 0),(.v .undef),(.v (ae dk 0)),(.p 1 0),(.v (ae dk 1)),(.v .undef),(.v .undef),(.v .undef),(.v .undef),(.p 0 4),(.v .undef),(.p 0 2),(.v .undef),(.v .undef),(.p 0 0),(.v .undef),(.v .undef),(.v .undef),(.v .undef),(.v .undef),(.v .undef),(.v .undef),(.v .undef),(.v .undef),(.v .undef),(.v .undef),(.v .undef),(.v .undef),(.v .undef),(.v .undef),(.v .undef),(.v .undef),(.p 1 0)]++List.replicate 57 (.v .undef)) [(af.again (ao rN 0) (af.again (ao qM 0) (af.again (ao gf 0) (af.cells qR)))),(af.again (ao rN 1) (af.again (ao qM 1) (af.again (ao gf 1) (af.cells sM))))])))))):=by kernel_rfl
set_option maxHeartbeats 1000000 in
theorem aer(C:bl)(a b:SV)(qR sM:List SV)(K:SV→Prop):kq Go.Proofs.Try.prog gl C sL ((fL mP).drop 10) (Bb Go.Proofs.Try.prog Go.Proofs.Try.f65 K) ⟨Sq a b,[.cells qR,.cells sM]⟩=(
 ab (ah false 1 7 qR) fun r0=>
 ab (eG .not (aa (aa b))) fun r1=>
 pg (fun J4=>
  ar r1
   (ab (ah false 1 8 qR) fun r5=>
   (J4 [a,b,(aa (aa r5))] [(af.aB (af.cells qR)),(af.aB (af.cells sM))]))
   ((J4 [a,b,(aa (aa r0))] [(af.aB (af.cells qR)),(af.aB (af.cells sM))]))) (fun bQ gf=>
  bR (fun kY sN I8=>
   pg (fun Hf=>
    ab (aX (aa (aa (ae kY 2)))) fun bT=>
    ab (ag none .lss (aa (aa (ae kY 3))) (aa bT)) fun cm=>
    ar (aa cm)
     (ar (aa (aa (ae kY 1)))
       (ab (ah false 1 0 (ao sN 1)) fun bG=>
       ab (ag none .gtr (aa (aa bG)) (.d (.int .i64 1))) fun bU=>
       ar (aa (aa bU))
        ((Hf [(ae kY 0),(ae kY 1),(ae kY 2),(ae kY 3),(.d (.bool true))] [(af.aB (af.cells (ao sN 0))),(af.aB (af.cells (ao sN 1)))]))
        (ab (ah false 1 0 (ao sN 0)) fun bM=>
        ab (ag (some (false,[.int])) .eql (aa (aa bM)) (.d (.int .i64 2))) fun cd=>
        (Hf [(ae kY 0),(ae kY 1),(ae kY 2),(ae kY 3),(aa (aa cd))] [(af.aB (af.cells (ao sN 0))),(af.aB (af.cells (ao sN 1)))])))
       (ab (ah false 1 0 (ao sN 0)) fun bY=>
       ab (ag (some (false,[.int])) .eql (aa (aa bY)) (.d (.int .i64 2))) fun di=>
       (Hf [(ae kY 0),(ae kY 1),(ae kY 2),(ae kY 3),(aa (aa di))] [(af.aB (af.cells (ao sN 0))),(af.aB (af.cells (ao sN 1)))])))
     ((Hf [(ae kY 0),(ae kY 1),(ae kY 2),(ae kY 3),(.d (.bool false))] [(af.aB (af.cells (ao sN 0))),(af.aB (af.cells (ao sN 1)))]))) (fun iD pA=>
    ar (ae iD 4)
     (ab (aQ 1 (aa (aa (ae iD 2))) (aa (aa (ae iD 3)))) fun cQ=>
     ab (aI false 1 (aa cQ)) fun ck=>
     ab (az (aa ck)) fun cA=>
     (List.length cA)=1∧
     2≤(List.length (ao pA 1))∧
     ab (ah true 6 0 (setAt (ao pA 1) 1 cA)) fun cV=>
     ab (aN [(0,(.v (aa (aa cV))))]) fun cW=>
     (bf 6 1 cW)=true∧
     bI 6 72 (ae iD 0) (.full 6 (bj (br true [(.int .i64 0),(.str []),(.bool false),(.sl .nil 0 []),(.int .i64 0),(.int .i64 0)]) cW 1 0)) fun cR=>
     ab (ag none .add (aa (aa (ae iD 3))) (.d (.int .i64 1))) fun dv=>
     (I8 [cR,(ae iD 1),(ae iD 2),(aa dv)] [(af.aB (af.cells (ao pA 0))),(af.aB (af.cells (setAt (ao pA 1) 1 cA)))]))
     ((SV.ay (ae iD 0))=true∧
     (K (ae iD 0)))))
  [(ae bQ 0),(ae bQ 1),(ae bQ 2),(.d (.int .i64 0))] [(af.aB (af.cells (ao gf 0))),(af.aB (af.cells (ao gf 1)))])):=by kernel_rfl
end Go.Proofs.Ytimbllcalipehaa.Ab
namespace Go.Proofs.Ytimbllcalipehaa.Ab
open Go
set_option linter.unusedVariables false
set_option maxRecDepth 4000
section
variable{P:Program}{gl:Nat→Option D}{C:bl}{h:Hints}
def nx(P:Program)(gl:Nat→Option D)(C:bl)(h:Hints)(m:List Code)(Q:Ex→Env→Prop)(x:Ex)(e:Env):Prop:=match x with| .normal =>kq P gl C h m Q e| .exit i=>Q (.exit i) e| .ret =>Q .ret e
theorem Fx:∀(l m:List Code)(Q:Ex→Env→Prop)(e:Env),kq P gl C h (l++m) Q e=kq P gl C h l (nx P gl C h m Q) e
 |[],m,Q,e=>rfl
 |c::l,m,Q,e=>by
  show aw P gl C h c _ e=aw P gl C h c _ e
  congr 1
  funext x e'
  cases x with
  |normal=>exact Fx l m Q e'
  |exit i=>rfl
  |ret=>rfl
theorem p8(c:Code)(Q:Ex→Env→Prop)(e:Env):aw P gl C h c Q e=kq P gl C h [c] Q e:=by
 show aw P gl C h c _ e=aw P gl C h c _ e
 congr 1
 funext x e'
 cases x<;>rfl
theorem JA:∀(c:Code)(Q:Ex→Env→Prop)(e:Env),aw P gl C h c Q e=kq P gl C h (fL c) Q e
 | .seq a b,Q,e=>by
   show aw P gl C h a _ e=kq P gl C h (fL a++fL b) Q e
   rw[Fx,←JA a]
   congr 1
   funext x e'
   cases x with
   |normal=>exact JA b Q e'
   |exit i=>rfl
   |ret=>rfl
 | .skip,Q,e=>p8 _ _ _
 | .region ..,Q,e=>p8 _ _ _
 | .cond ..,Q,e=>p8 _ _ _
 | .block ..,Q,e=>p8 _ _ _
 | .loop ..,Q,e=>p8 _ _ _
 | .exit _,Q,e=>p8 _ _ _
 | .ret,Q,e=>p8 _ _ _
 | .goto _,Q,e=>p8 _ _ _
 | .label _,Q,e=>p8 _ _ _
 | .scope _,Q,e=>p8 _ _ _
 | .rangeFunc ..,Q,e=>p8 _ _ _
 | .refuse _,Q,e=>p8 _ _ _
end
theorem afU:Try.prog.funcs[65]? =some Try.f65:=by kernel_rfl
theorem afV:Try.f65.body=some mP:=by kernel_rfl
theorem ads(C:bl)(x0:SV)(K:SV→Prop):body Try.prog gl C sL 65 [x0] K=cj [x0] (kq Try.prog gl C sL ((fL mP).take 6) (nx Try.prog gl C sL (((fL mP).drop 6).take 4) (nx Try.prog gl C sL ((fL mP).drop 10) (Bb Try.prog Try.f65 K))) (enter 91 [x0])):=by
 unfold body
 rw[afU]
 simp only[]
 rw[afV]
 simp only[]
 show cj [x0] (aw Try.prog gl C sL mP (Bb Try.prog Try.f65 K) (enter 91 [x0]))=_
 rw[JA,←Fx,←Fx,List.append_assoc]
 have:(fL mP).take 6++(((fL mP).drop 6).take 4++(fL mP).drop 10)=fL mP:=by
  have h1:(fL mP).drop 10=((fL mP).drop 6).drop 4:=by rw[List.drop_drop]
  rw[h1,List.take_append_drop,List.take_append_drop]
 rw[this]
end Go.Proofs.Ytimbllcalipehaa.Ab
namespace Go.Proofs.Ytimbllcalipehaa.Ab
open Go
set_option maxRecDepth 4000
set_option linter.unusedVariables false
theorem rj{A:(List SV→List (List SV)→Prop)→Prop}{F:List SV→List (List SV)→Prop}(vs:List SV)(bs:List (List SV))(hA:∀J:List SV→List (List SV)→Prop,J vs bs→A J)(hF:F vs bs):pg A F:=hA F hF
theorem Xw(l:List (List UInt8)):hY [] l=dedup l:=rfl
def oU(s:fp):aj:=if s.kind==19&&(decide (s.op≥1)&&decide (s.op≤8))then⟨s.op,s.name,true,[],s.line,s.fo⟩else⟨g9 s.kind,s.name,false,[],s.line,s.fo⟩
def ek(s:fp):aj:=if(oU s).kind ==1 then{oU s with perms:=dedup s.list}else oU s
def kA(s:fp):Bool:=(ek s).kind != 0&&(!(s.kind==19)||(ek s).kind ==1)
def mu(s:fp):List (List UInt8):=if !(s.kind==19)then s.iT else s.list
def lM(s:fp):Bool:=(s.kind==19&&decide ((ek s).kind >1))||s.kind==2
def pR(x:aj)(n:List UInt8):aj:=⟨x.kind,n,x.b9,x.perms,x.line,x.fo⟩
def sO(s:fp):List aj:=(if kA s then [ek s]else [])++(if lM s then(mu s).map fun a=>pR (ek s) a else [])
theorem ZL(s:aj)(n:List UInt8):setAt (aj.cells s) 1 [.d (.str n)]=aj.cells (pR s n):=rfl
theorem adt(k:Int)(n:List UInt8)(b:Bool)(l c:Int)(p:List (List UInt8))(k':Int):setAt (setAt (aj.cells ⟨k,n,b,p,l,c⟩) 0 [.d (.int .i64 k')]) 2 [.d (.bool true)]=aj.cells ⟨k',n,true,p,l,c⟩:=rfl
theorem adu(k:Int)(n:List UInt8)(b:Bool)(l c:Int)(p:List (List UInt8))(k':Int):(setAt (aj.cells ⟨k,n,b,p,l,c⟩) 0 [.d (.int .i64 k')]).length =6:=rfl
theorem abh(s:aj)(p:List (List UInt8)):setAt (aj.cells s) 3 [.d (bz 1 (cf p))]=aj.cells {s with perms:=p}:=rfl
theorem nV(b:Bool):az (.d (.bool b))=some [.d (.bool b)]:=rfl
theorem nW(n:Int):az (.d (.int .i64 n))=some [.d (.int .i64 n)]:=rfl
theorem mT(n:List UInt8):az (.d (.str n))=some [.d (.str n)]:=rfl
def Bm(s:fp):Nat→List UInt8
 |0=>(ek s).name
 |i+1=>(mu s).getD i []
theorem n8(x y:List SV):af.again x (.cells y)=.cells x:=rfl
theorem Yu(l:List aj)(x:aj):aF l++[x.enc]=aF (l++[x]):=yu l x
theorem VE{s:fp}{x:D}(hs:rS s x)(hl:s.list.length≤2^30)(ha:s.iT.length≤2^30):aD Try.prog gl 65 [.d x] (bd 6 (aF (sO s))):=by
 have hk:=VZ hs
 cases hs with
 |mk r5 r6 cC al rest h ic lE=>
  refine cE bA (bV (fn:=Try.f65) (by kernel_rfl) (by kernel_rfl) (by kernel_rfl)) (h:=sL) ?_;rw[ads];intro bC
  rw[aep]
  simp only[sS,sT,sZ,n8,nS,jb,gN,jw,j6,ka,j7,j8,j9,lO,eV,eM,eE,fJ,fE,fS,jv,fV,jx,j5,nV,nW,mT,il,gx,h]
  refine dG hk ?_
  simp only[sS,sT,sZ,n8,nS,jb,gN,jw,j6,ka,j7,j8,j9,lO,eV,eM,eE,fJ,fE,fS,jv,fV,jx,j5,nV,nW,mT,il,gx]
  refine rj [.d (.sl .nil 0 []),.d (.bool (s.kind==19)),.d (.bool (s.kind==19&&(decide (s.op≥1)&&decide (s.op≤8))))] [gw s r5 r6 cC al rest,aj.cells ⟨g9 s.kind,s.name,false,[],s.line,s.fo⟩] (fun J hJ=>?_) ?_
  ·refine And.intro (fun h1=>?_) (fun h1=>?_)
   ·refine And.intro (fun h2=>?_) (fun h2=>?_)
    ·simpa only[h1,h2,Bool.true_and]using hJ
    ·simpa only[h1,h2,Bool.true_and,Bool.false_and]using hJ
   ·simpa only[h1,Bool.false_and]using hJ
  simp only[sS,sT,sZ,n8,nS,jb,gN,jw,j6,ka,j7,j8,j9,lO,eV,eM,eE,fJ,fE,fS,jv,fV,jx,j5,nV,nW,mT,il,gx]
  refine rj [.d (.sl .nil 0 []),.d (.bool (s.kind==19))] [gw s r5 r6 cC al rest,(oU s).cells] (fun J hJ=>?_) ?_
  ·refine And.intro (fun h1=>?_) (fun h1=>?_)
   ·simp only[oU,if_pos h1]at hJ
    simp only[adt,adu]
    exact⟨by decide,by decide,hJ⟩
   ·rw[oU,if_neg (by rw[h1];simp)]at hJ
    exact hJ
  show kq Try.prog gl _ sL (((fL mP).drop 6).take 4) _ ⟨S8 (.d (.sl .nil 0 [])) (.d (.bool (s.kind==19))),[.cells (gw s r5 r6 cC al rest),.cells (oU s).cells]⟩
  rw[aeq]
  simp only[sS,sT,sZ,n8,nS,jb,gN,jw,j6,ka,j7,j8,j9,lO,eV,eM,eE,fJ,fE,fS,jv,fV,jx,j5,nV,nW,mT,il,gx]
  refine rj [.d (.sl .nil 0 []),.d (.bool (s.kind==19))] [gw s r5 r6 cC al rest,(ek s).cells] (fun J hJ=>?_) ?_
  ·refine And.intro (fun h1=>?_) (fun h1=>?_)
   ·rw[ek,if_pos h1]at hJ
    refine cw (HP [] s.list (.nil 0 rfl) ic (by decide) (by omega)) (j3 _ _) ?_
    simp only[dM,s5,abh,Xw,sS,sT,sZ,n8,nS,jb,gN,jw,j6,ka,j7,j8,j9,lO,eV,eM,eE,fJ,fE,fS,jv,fV,jx,j5,nV,nW,mT,il,gx]
    exact⟨by decide,hJ⟩
   ·rw[ek,if_neg (by rw[h1];simp)]at hJ
    exact hJ
  simp only[sS,sT,sZ,n8,nS,jb,gN,jw,j6,ka,j7,j8,j9,lO,eV,eM,eE,fJ,fE,fS,jv,fV,jx,j5,nV,nW,mT,il,gx]
  refine rj [.d (.sl .nil 0 []),.d (.bool (s.kind==19)),.d (.bool (kA s))] [gw s r5 r6 cC al rest,(ek s).cells] (fun J hJ=>?_) ?_
  ·unfold kA at hJ
   refine And.intro (fun h1=>?_) (fun h1=>?_)
   ·refine And.intro (fun h2=>?_) (fun h2=>?_)
    ·simpa only[h1,h2,Bool.true_and,Bool.true_or]using hJ
    ·simpa only[h1,h2,Bool.true_and,Bool.false_or]using hJ
   ·simpa only[h1,Bool.false_and]using hJ
  simp only[sS,sT,sZ,n8,nS,jb,gN,jw,j6,ka,j7,j8,j9,lO,eV,eM,eE,fJ,fE,fS,jv,fV,jx,j5,nV,nW,mT,il,gx]
  refine rj [bd 6 (aF (if kA s then [ek s]else [])),.d (.bool (s.kind==19))] [gw s r5 r6 cC al rest,(ek s).cells] (fun J hJ=>?_) ?_
  ·refine And.intro (fun h1=>?_) (fun h1=>?_)
   ·rw[if_pos h1]at hJ
    simp only[dr,kb,iG,sS,sT,sZ]
    exact Od (nU 6 _) (by show 1*72≤140737488355328;decide) hJ
   ·rw[if_neg (by rw[h1];simp)]at hJ
    exact hJ
  show kq Try.prog gl _ sL ((fL mP).drop 10) _ ⟨Sq (bd 6 (aF (if kA s then [ek s]else []))) (.d (.bool (s.kind==19))),[.cells (gw s r5 r6 cC al rest),.cells (ek s).cells]⟩
  rw[aer]
  simp only[g6,sS,sT,sZ,n8,nS,jb,gN,jw,j6,ka,j7,j8,j9,lO,eV,eM,eE,fJ,fE,fS,jv,fV,jx,j5,nV,nW,mT,il,gx]
  have hM:∃mx,aW 1 (cf (mu s)) mx∧(s.kind==19)=false→mx=al:=⟨al,fun h=>rfl⟩
  obtain⟨mx,cH,hm⟩:∃mx,aW 1 (cf (mu s)) mx∧mx=(if !(s.kind==19)then al else cC):=by
   refine⟨_,?_,rfl⟩
   unfold mu
   cases (s.kind==19)<;>assumption
  have zT:(mu s).length ≤2^30:=by unfold mu;split<;>assumption
  refine rj [bd 6 (aF (if kA s then [ek s]else [])),.d (.bool (s.kind==19)),.d mx] [gw s r5 r6 cC al rest,(ek s).cells] (fun J hJ=>?_) ?_
  ·rw[hm]at hJ
   refine And.intro (fun h1=>?_) (fun h1=>?_)
   ·simp only[h1,if_true]at hJ;exact hJ
   ·simp only[h1,Bool.false_eq_true,if_false]at hJ;exact hJ
  clear hM hm
  simp only[sS,sT,sZ,n8,nS,jb,gN,jw,j6,ka,j7,j8,j9,lO,eV,eM,eE,fJ,fE,fS,jv,fV,jx,j5,nV,nW,mT,il,gx]
  have zU:(if kA s then [ek s]else []).length ≤1:=by split<;>simp
  have aR:(ek s).cells =aj.cells (pR (ek s) (Bm s 0)):=rfl
  rw[aR]
  have Bt:bd 6 (aF (if kA s then [ek s]else []))=bd 6 (aF ((if kA s then [ek s]else [])++((mu s).take 0).map fun a=>pR (ek s) a)):=by simp
  rw[Bt]
  refine gj (fun i=>[bd 6 (aF ((if kA s then [ek s]else [])++((mu s).take i).map fun a=>pR (ek s) a)),.d (.bool (s.kind==19)),.d mx,.d (.int .i64 ((i:Nat):Int))]) (fun i=>[gw s r5 r6 cC al rest,aj.cells (pR (ek s) (Bm s i))]) (if lM s then(mu s).length else 0) (fun i hi I hI=>?_) (fun I=>?_)
  ·have hC:lM s=true:=by
    cases h:lM s with
    |true=>rfl
    |false=>rw[h]at hi;simp at hi
   rw[hC,if_pos rfl]at hi
   simp only[cH.len,iF,sS,sT,sZ,n8,nS,jb,gN,jw,j6,ka,j7,j8,j9,lO,eV,eM,eE,fJ,fE,fS,jv,fV,jx,j5,nV,nW,mT,il,gx]
   refine rj [bd 6 (aF ((if kA s then [ek s]else [])++((mu s).take i).map fun a=>pR (ek s) a)),.d (.bool (s.kind==19)),.d mx,.d (.int .i64 ((i:Nat):Int)),.d (.bool true)] [gw s r5 r6 cC al rest,aj.cells (pR (ek s) (Bm s i))] (fun J hJ=>?_) ?_
   ·refine And.intro (fun _=>?_) (fun h=>absurd h (by simp;omega))
    unfold lM at hC
    refine And.intro (fun h1=>?_) (fun h1=>?_)
    ·rw[h1,Bool.true_and]at hC
     refine And.intro (fun h2=>?_) (fun h2=>?_)
     ·exact hJ
     ·have h2:decide ((ek s).kind >1)=false:=h2
      rw[h2,Bool.false_or]at hC
      rw[hC];exact hJ
    ·rw[h1,Bool.false_and,Bool.false_or]at hC
     rw[hC];exact hJ
   simp only[sS,sT,sZ,n8,nS,jb,gN,jw,j6,ka,j7,j8,j9,lO,eV,eM,eE,fJ,fE,fS,jv,fV,jx,j5,nV,nW,mT,il,gx]
   refine And.intro (fun _=>?_) (fun h=>absurd h (by simp))
   obtain⟨t,ht⟩:=get_some hi
   have oQ:Bm s (i+1)=t:=by simp[Bm,List.getD_eq_getElem?_getD,ht]
   simp only[cH.at (wT ht),wN,ZL,eE,mT,dr,kb,iG,sS,sT,sZ,n8,nS,jb,gN,jw,j6,ka,j7,j8,j9,lO,eV,eM,eE,fJ,fE,fS,jv,fV,jx,j5,nV,nW,mT,il,gx]
   refine⟨by decide,?_⟩
   refine g4 (nU 6 _) (by simp only[dN,List.length_append,List.length_map,List.length_take,List.length_singleton];omega) ?_
   refine aP (aY hi (by simp only[maxLen];omega)) ?_
   rw[dZ ht,List.map_append,←List.append_assoc,List.map_cons,List.map_nil,←Yu,oQ]at hI
   exact hI
  ·simp only[cH.len,iF,sS,sT,sZ,n8,nS,jb,gN,jw,j6,ka,j7,j8,j9,lO,eV,eM,eE,fJ,fE,fS,jv,fV,jx,j5,nV,nW,mT,il,gx]
   have fin:∀n:Nat,n=(if lM s then(mu s).length else 0)→bd 6 (aF ((if kA s then [ek s]else [])++((mu s).take n).map fun a=>pR (ek s) a))=bd 6 (aF (sO s)):=fun n hn=>by
    subst hn
    unfold sO
    cases lM s<;>simp
   generalize hn:(if lM s then(mu s).length else 0)=n
   have fin:=fin n hn.symm
   refine rj [bd 6 (aF ((if kA s then [ek s]else [])++((mu s).take n).map fun a=>pR (ek s) a)),.d (.bool (s.kind==19)),.d mx,.d (.int .i64 (n:Int)),.d (.bool false)] [gw s r5 r6 cC al rest,aj.cells (pR (ek s) (Bm s n))] (fun J hJ=>?_) ?_
   ·refine And.intro (fun aK=>?_) (fun _=>hJ)
    have aK:=of_decide_eq_true aK
    have hC:lM s=false:=by
     cases h:lM s with
     |false=>rfl
     |true=>rw[h,if_pos rfl]at hn;omega
    unfold lM at hC
    simp only[Bool.or_eq_false_iff]at hC
    refine And.intro (fun h1=>?_) (fun h1=>?_)
    ·rw[h1,Bool.true_and]at hC
     refine And.intro (fun h2=>?_) (fun h2=>?_)
     ·have h2:decide ((ek s).kind >1)=true:=h2
      rw[h2]at hC;cases hC.1
     ·rw[hC.2];exact hJ
    ·rw[hC.2];exact hJ
   simp only[sS,sT,sZ,n8,nS,jb,gN,jw,j6,ka,j7,j8,j9,lO,eV,eM,eE,fJ,fE,fS,jv,fV,jx,j5,nV,nW,mT,il,gx]
   refine And.intro (fun h=>absurd h (by simp)) (fun _=>?_)
   simp only[k7,true_and]
   rw[fin]
theorem adv(s:fp):sO s=bJ s:=by
 obtain⟨kind,op,line,fo,name,list,iT⟩:=s
 by_cases Ed:kind=19
 ·subst Ed
  have d0:g9 19=0:=by decide
  by_cases h1:op=1
  ·subst h1
   simp[sO,kA,lM,ek,oU,bJ,d0]
  ·by_cases h2:op>1∧op≤8
   ·have e1:decide (op≥1)=true:=by simp;omega
    have e2:decide (op≤8)=true:=by simp;omega
    have e3:decide (op>1)=true:=by simp;omega
    have e4:(op==1)=false:=by simp[h1]
    have e5:(op != 0)=true:=by simp;omega
    simp[sO,kA,lM,mu,ek,oU,bJ,d0,pR,e1,e2,e3,e4,e5,h1,h2.1,h2.2]
   ·have e1:(decide (op≥1)&&decide (op≤8))=false:=by simp;omega
    have e2:(decide (op>1)&&decide (op≤8))=false:=by simp;omega
    have e4:(op==1)=false:=by simp[h1]
    simp only[sO,kA,lM,ek,oU,bJ,d0,e1,e4,Bool.and_assoc,e2,Bool.and_false,Bool.false_eq_true,if_false]
    simp
 ·have MJ:(kind==19)=false:=by simp[Ed]
  by_cases h2:kind=2
  ·subst h2
   have d2:g9 2=2:=by decide
   simp[sO,kA,lM,mu,ek,oU,bJ,d2,pR]
  ·have k2:(kind==2)=false:=by simp[h2]
   have d2:(g9 kind==2)=false:=by
    unfold g9
    simp only[k2]
    split
    ·decide
    ·simp only[Bool.false_eq_true,if_false]
     repeat' split
     all_goals decide
   by_cases hd:g9 kind=0
   ·have jm:(g9 kind != 0)=false:=by simp[hd]
    simp[sO,kA,lM,ek,oU,bJ,MJ,k2,hd]
   ·have jm:(g9 kind != 0)=true:=by simp[hd]
    by_cases DZ:g9 kind=1
    ·simp[sO,kA,lM,ek,oU,bJ,MJ,k2,DZ]
    ·have afW:(g9 kind==1)=false:=by simp[DZ]
     simp[sO,kA,lM,ek,oU,bJ,MJ,k2,jm,d2,DZ,afW,hd]
end Go.Proofs.Ytimbllcalipehaa.Ab
namespace Go.Proofs.Ytimbllcalipehaa.Ab
open Go
set_option maxRecDepth 4000
set_option linter.unusedVariables false
theorem E0{s:fp}{x:aj}(h:x∈bJ s):x.kind≠0:=by
 unfold bJ at h
 split at h
 ·rename_i hd
  have hd:g9 s.kind≠0:=by simpa using hd
  rcases List.mem_cons.1 h with rfl|h
  ·exact hd
  ·split at h
   ·obtain⟨a,_,rfl⟩:=List.mem_map.1 h
    exact hd
   ·cases h
 ·split at h
  ·rename_i hk
   simp only[Bool.and_eq_true,beq_iff_eq]at hk
   rcases List.mem_cons.1 h with rfl|h
   ·show s.op≠0
    rw[hk.2];decide
   ·cases h
  ·split at h
   ·rename_i hk
    simp only[Bool.and_eq_true,beq_iff_eq,decide_eq_true_eq]at hk
    obtain⟨a,_,rfl⟩:=List.mem_map.1 h
    show s.op≠0
    omega
   ·cases h
theorem RJ{k:Int}(h:k≠0):AI k=BK k:=by
 unfold AI BK
 have:(k==0)=false:=by simp[h]
 rw[this];simp
theorem OT{x:aj}(hx:x.kind≠0):∀{l:List aj}(tw:Bool),(∀y∈l,y.kind≠0)→mW x tw l=mZ x tw l
 |[],tw,_=>rfl
 |y::l,tw,h=>by
  rw[mW,mZ,RJ hx,RJ (h y (by simp))]
  have ih:=fun tw=>OT hx (l:=l) tw (fun z hz=>h z (by simp[hz]))
  rw[ih,ih,Bool.and_comm (!y.b9)]
theorem Yv{x:aj}(hx:x.kind≠0){l:List aj}(h:∀y∈l,y.kind≠0):tA l x=m0 l x:=by
 rw[tA,m0,OT hx _ h,Bool.and_comm]
def RK(c:Int)(s:aj):D:=.agg [.int .i64 c,.int .i64 s.line,.int .i64 s.fo,.str s.name]
def RM:D:=.agg [.int .i64 0,.int .i64 0,.int .i64 0,.str []]
def FR(W:List aj):SV:=match gy [] W with
 |some (c,s)=>.aL [.d (.sl .nil 0 []),.d (RK c s)]
 |none=>.aL [bd 6 (aF W),.d RM]
theorem CB(a b c d:D):az (.d (.agg [a,b,c,d]))=some [.d a,.d b,.d c,.d d]:=rfl
theorem C5{α:Type}(a b c d:α):[a,b,c,d].length =4:=rfl
theorem C6(a b c d:SV)(x y z u:SV):setAt [a,b,c,d] 0 [x,y,z,u]=[x,y,z,u]:=rfl
theorem CW(a b c d:D):ah true 4 0 [.d a,.d b,.d c,.d d]=some (.d (.agg [a,b,c,d])):=rfl
theorem Xx{aG:List fp}{i:Nat}{s:fp}(h:aG[i]? =some s):((aG.take i).flatMap bJ).length +(bJ s).length ≤(aG.flatMap bJ).length :=by
 rw[HY h,List.length_append,List.length_append];omega
theorem Yw(aG:List fp){L:List D}{xs:D}(hx:aW 55 L xs)(hs:A1 aG L)(hn:aG.length≤maxLen)(hl:(aG.flatMap bJ).length ≤2^30):
  aD Try.prog gl 45 [.d xs] (FR (aG.flatMap bJ)):=by
 refine cE bA (bV (fn:=Try.f45) (by kernel_rfl) (by kernel_rfl) (by kernel_rfl)) (h:=T6) ?_;rw[acj];intro bC
 have hlen:=hs.len
 have kinds:∀x∈aG.flatMap bJ,x.kind≠0:=fun x hx=>by
  obtain⟨s,_,h⟩:=List.mem_flatMap.1 hx
  exact E0 h
 generalize hW:aG.flatMap bJ=W at kinds hl ⊢
 have hWW:W=aG.flatMap bJ:=hW.symm
 refine mz (fun i=>gy [] W=gy ((aG.take i).flatMap bJ) ((aG.drop i).flatMap bJ)) (fun i=>[.d xs,bd 6 (aF ((aG.take i).flatMap bJ)),.d (.int .i64 ((i:Nat):Int))]) (fun i=>[[.d (.int .i64 0),.d (.int .i64 0),.d (.int .i64 0),.d (.str [])]]) aG.length (by rw[List.take_zero,List.drop_zero,hW];rfl) (fun i hi hJ I hI=>?_) (fun hJ I=>?_)
 ·simp only[sS,sT,sZ,hx.len,hlen]
  refine And.intro (fun _=>?_) (fun h=>absurd h (by simp;omega))
  obtain⟨s,mr⟩:=get_some hi
  obtain⟨y,hy,aR,b1,b2,b3⟩:=hs.at_ i s mr
  have hle:=Xx mr
  rw[hW]at hle
  have J0:=HY mr
  rw[hW]at J0
  simp only[hx.at hy,aR.load,sS,sT,sZ]
  refine cw (VE aR b1 b2) (j3 _ _) ?_
  rw[adv]
  simp only[dM,sS,sT,sZ]
  have hv:=dC 6 (aF (bJ s))
  generalize bz 6 (aF (bJ s))=v at hv ⊢
  have aes:(aG.drop i).flatMap bJ=bJ s++(aG.drop (i+1)).flatMap bJ:=by rw[uH mr,List.flatMap_cons]
  have rM:bd 6 (aF ((aG.take i).flatMap bJ))=bd 6 (aF ((aG.take i).flatMap bJ++(bJ s).take 0)):=by rw[List.take_zero,List.append_nil]
  rw[rM]
  refine mz (fun k=>gy [] W=gy ((aG.take i).flatMap bJ++(bJ s).take k) ((bJ s).drop k++(aG.drop (i+1)).flatMap bJ)) (fun k=>[.d xs,bd 6 (aF ((aG.take i).flatMap bJ++(bJ s).take k)),.d (.int .i64 (i:Int)),.d v,.d (.int .i64 ((k:Nat):Int))]) (fun k=>[[.d (.int .i64 0),.d (.int .i64 0),.d (.int .i64 0),.d (.str [])]]) (bJ s).length (by rw[List.take_zero,List.append_nil,List.drop_zero,hJ,aes]) (fun k hk gF I2 bO=>?_) (fun gF I2=>?_)
  ·simp only[sS,sT,sZ,hv.len,dN,dM]
   refine And.intro (fun _=>?_) (fun h=>absurd h (by simp;omega))
   obtain⟨z,hz⟩:=get_some hk
   simp only[hv.at (k9 hz),p7,sS,sT,sZ]
   have eS:((aG.take i).flatMap bJ++(bJ s).take k).length ≤2^30:=by rw[List.length_append,List.length_take];omega
   have GN:z.kind≠0:=E0 (List.mem_of_getElem? hz)
   have wq:∀y∈(aG.take i).flatMap bJ++(bJ s).take k,y.kind≠0:=fun y hy=>by
    rcases List.mem_append.1 hy with h|h
    ·obtain⟨s',_,h⟩:=List.mem_flatMap.1 h
     exact E0 h
    ·exact E0 (List.mem_of_mem_take h)
   refine dG (V0 ((aG.take i).flatMap bJ++(bJ s).take k) z (dC 6 _) (by simp only[maxLen];omega)) ?_
   rw[Yv GN wq]
   rw[uH hz,List.cons_append,gy]at gF
   simp only[sS,sT,sZ,FQ]
   refine And.intro (fun h=>?_) (fun h=>?_)
   ·have bg:¬m0 ((aG.take i).flatMap bJ++(bJ s).take k) z=0:=by simpa using h
    rw[if_neg bg]at gF
    simp only[hv.at (k9 hz),Cw,Cx,Cy,Cz,CA,CR,CS,CT,CU,CV,Ci,sS,sT,sZ,jx,Oa,CB,C5,C6,CW]
    rw[FR,gF]
    rfl
   ·have he:m0 ((aG.take i).flatMap bJ++(bJ s).take k) z=0:=by simpa using h
    rw[if_pos he]at gF
    simp only[hv.at (k9 hz),p7,sS,sT,sZ,dr,kb,iG]
    refine g4 (nU 6 _) (by rw[dN];simp only[List.length_singleton];omega) ?_
    refine aP (aY hk (by simp only[maxLen];omega)) ?_
    rw[yu]
    rw[dZ hz,←List.append_assoc]at bO
    refine bO ?_
    exact gF
  ·simp only[sS,sT,sZ,hv.len,dN]
   refine And.intro (fun h=>absurd h (by simp)) (fun _=>?_)
   refine aP (aY hi hn) ?_
   rw[List.take_length]at gF ⊢
   rw[List.drop_length,List.nil_append]at gF
   have e:(aG.take (i+1)).flatMap bJ=(aG.take i).flatMap bJ++bJ s:=by rw[dZ mr,List.flatMap_append];simp
   rw[e]at hI
   exact hI gF
 ·simp only[sS,sT,sZ,hx.len,hlen]
  refine And.intro (fun h=>absurd h (by simp)) (fun _=>?_)
  rw[List.drop_length,List.take_length,hW,List.flatMap_nil,gy]at hJ
  simp only[show aN []=some [] from rfl,wD,CB,C5,C6,CW,sS,sT,sZ]
  rw[FR,hJ,List.take_length,hW]
  simp only[k7,true_and]
  rfl
end Go.Proofs.Ytimbllcalipehaa.Ab
namespace Go.Proofs.Ytimbllcalipehaa.Ab
open Go
set_option maxRecDepth 4000
set_option linter.unusedVariables false
def DD(l:List (List UInt8)):Prop:=dedup l=l
theorem Qj:∀(l acc:List (List UInt8)),acc.Nodup→(l.foldl jD acc).Nodup
 |[],acc,h=>h
 |s::l,acc,h=>by
  rw[List.foldl_cons]
  refine Qj l _ ?_
  unfold jD
  split
  ·exact h
  ·rename_i hs
   rw[List.nodup_append]
   refine⟨h,by simp,fun a ha b hb=>?_⟩
   have:b=s:=by simpa using hb
   subst this
   intro he
   subst he
   exact hs (Ch.2 ha)
theorem Oe(l:List (List UInt8)):(dedup l).Nodup :=Qj l [] List.nodup_nil
theorem Qk:∀(l acc:List (List UInt8)),(acc++l).Nodup →l.foldl jD acc=acc++l
 |[],acc,h=>by simp
 |s::l,acc,h=>by
  have hs:eP s acc=false:=by
   cases hh:eP s acc with
   |false=>rfl
   |true=>
    have h1:=Ch.1 hh
    have h2:=(List.nodup_append.1 h).2.2 s h1 s (by simp)
    exact absurd rfl h2
  rw[List.foldl_cons,jD,hs,if_neg (by simp),Qk l (acc++[s]) (by rw[List.append_assoc];exact h)]
  simp
theorem adw{l:List (List UInt8)}:DD l↔l.Nodup:=by
 constructor
 ·intro h;rw[←h];exact Oe l
 ·intro h;exact Qk l [] (by simpa using h)
theorem Jf(l:List (List UInt8)):DD (dedup l):=adw.2 (Oe l)
theorem abi{l m:List (List UInt8)}(h:DD l):hY l m=dedup (l++m):=by
 unfold dedup hY
 rw[List.foldl_append]
 have:l.foldl jD []=l:=h
 rw[this]
theorem abj{s:fp}{x:aj}(h:x∈bJ s):DD x.perms:=by
 unfold bJ at h
 split at h
 ·rcases List.mem_cons.1 h with rfl|h
  ·show DD (if g9 s.kind==1 then dedup s.list else [])
   split
   ·exact Jf _
   ·exact rfl
  ·split at h
   ·obtain⟨a,_,rfl⟩:=List.mem_map.1 h
    exact rfl
   ·cases h
 ·split at h
  ·rcases List.mem_cons.1 h with rfl|h
   ·exact Jf _
   ·cases h
  ·split at h
   ·obtain⟨a,_,rfl⟩:=List.mem_map.1 h
    exact rfl
   ·cases h
def zg(s:aj)(out:List aj):Option Nat:=first (fun y=>y.kind==s.kind&&(y.name==s.name&&y.b9==true)) out
def w8(all:List aj)(s:aj):Bool:=s.b9&&(rR s.kind s.name||decide (tN s.kind s.name false all≥0))
def Em(y:aj)(p:List (List UInt8)):aj:=⟨y.kind,y.name,y.b9,p,y.line,y.fo⟩
def rk(all out:List aj)(s:aj):List aj:=
 if w8 all s then out else
 if s.b9 then(match zg s out with
  |some j=>(match out[j]? with|some y=>out.set j (Em y (hY y.perms s.perms))|none=>out)
  |none=>out++[s])
 else out++[s]
def uN(all:List aj)(l:List aj):List aj:=l.foldl (rk all) []
theorem ZM{α:Type}(p:α→Bool)(l:List α):(first p l).isSome =l.any p:=by
 induction l with
 |nil=>rfl
 |cons x l ih=>
  unfold first
  split
  ·rename_i h;simp[h]
  ·rename_i h
   have h:p x=false:=by simpa using h
   rw[List.any_cons,h,Bool.false_or,←ih]
   cases first p l<;>rfl
theorem ZN(o:Option Nat):decide (orM o≥0)=o.isSome:=by
 cases o with
 |none=>rfl
 |some j=>simp[orM]
theorem Yx(all:List aj)(s:aj):decide (tN s.kind s.name false all≥0)=jE all s:=by
 rw[tN,ZN,ZM,jE]
 congr 1
 funext y
 unfold fW
 cases y.b9<;>cases (y.kind==s.kind)<;>cases (y.name==s.name)<;>rfl
structure xn(all out:List aj):Prop where
 dd:∀y∈out,DD y.perms
 dec:∀y∈out,y.b9=false→jE all y=true
 b9:∀y∈out,y.b9=true→jE all y=false
 one:∀(i j:Nat)y z,out[i]? =some y→out[j]? =some z→y.b9=true→fW z y=true→i=j
theorem OU{all:List aj}{y z:aj}(h:fW y z=true):jE all y=jE all z:=by
 simp only[fW,Bool.and_eq_true,beq_iff_eq]at h
 simp only[jE,fW,h.1,h.2]
theorem Ir{s:aj}:∀{l:List aj},hP s l=none→∀y∈l,fW y s=false
 |[],_,y,h=>by simp at h
 |z::l,h,y,hy=>by
  rw[hP]at h
  cases hl:hP s l with
  |some j=>rw[hl]at h;cases h
  |none=>
   rw[hl]at h
   simp only at h
   split at h
   ·cases h
   ·rename_i hz
    rcases List.mem_cons.1 hy with rfl|hy
    ·simpa using hz
    ·exact Ir hl y hy
theorem Yy{all out:List aj}(hB:xn all out){s:aj}(hs:jE all s=false):zg s out=hP s out:=by
 cases hl:hP s out with
 |some j=>
  obtain⟨y,hy,pK⟩:=Fk hl
  have jY:y.b9=true:=by
   cases h:y.b9 with
   |true=>rfl
   |false=>
    have:=hB.dec y (List.mem_of_getElem? hy) h
    rw[OU pK,hs]at this
    cases this
  simp only[fW,Bool.and_eq_true,beq_iff_eq]at pK
  refine ti hy (by rw[pK.1,pK.2,jY];simp) fun i z hi hz=>?_
  cases gB:(z.kind==s.kind&&(z.name==s.name&&z.b9==true))with
  |false=>rfl
  |true=>
   exfalso
   simp only[Bool.and_eq_true,beq_iff_eq]at gB
   have:=hB.one j i y z hy hz jY (by simp[fW,pK.1,pK.2,gB.1,gB.2.1])
   omega
 |none=>
  refine s3 fun i z hz=>?_
  have:=Ir hl z (List.mem_of_getElem? hz)
  unfold fW at this
  cases h1:(z.kind==s.kind)with
  |false=>rfl
  |true=>
   rw[h1,Bool.true_and]at this
   rw[this];rfl
theorem step_eq{all out:List aj}(hB:xn all out){s:aj}(oL:s∈all)(zV:DD s.perms):rk all out s=o0 all out s∧xn all (o0 all out s):=by
 have aet:w8 all s=(s.b9&&(jE all s||rR s.kind s.name)):=by rw[w8,Yx,Bool.or_comm]
 unfold rk o0
 rw[aet]
 cases hk:(s.b9&&(jE all s||rR s.kind s.name))with
 |true=>exact⟨rfl,by simpa using hB⟩
 |false=>
  simp only[Bool.false_eq_true,if_false]
  have snoc:(∀y∈out,fW y s=true→y.b9=false∧s.b9=false)→(s.b9=true→jE all s=false)→xn all (out++[s]):=fun ez hd=>by
   refine⟨fun y hy=>?_,fun y hy hr=>?_,fun y hy hr=>?_,fun i j y z hy hz hr cZ=>?_⟩
   ·rcases List.mem_append.1 hy with h|h
    ·exact hB.dd y h
    ·have:y=s:=by simpa using h
     subst this;exact zV
   ·rcases List.mem_append.1 hy with h|h
    ·exact hB.dec y h hr
    ·have:y=s:=by simpa using h
     subst this
     rw[jE,List.any_eq_true]
     exact⟨y,oL,by simp[hr,fW]⟩
   ·rcases List.mem_append.1 hy with h|h
    ·exact hB.b9 y h hr
    ·have:y=s:=by simpa using h
     subst this;exact hd hr
   ·rcases Nat.lt_or_ge i out.length with hi|hi<;>rcases Nat.lt_or_ge j out.length with hj|hj
    ·rw[List.getElem?_append_left hi]at hy
     rw[List.getElem?_append_left hj]at hz
     exact hB.one i j y z hy hz hr cZ
    ·exfalso
     rw[List.getElem?_append_left hi]at hy
     rw[List.getElem?_append_right hj]at hz
     have gB:z=s:=by
      have:=List.mem_of_getElem? hz
      simpa using this
     subst gB
     have h1:=ez y (List.mem_of_getElem? hy) (by simp only[fW,Bool.and_eq_true,beq_iff_eq]at cZ ⊢;exact⟨cZ.1.symm,cZ.2.symm⟩)
     rw[hr]at h1;cases h1.1
    ·exfalso
     rw[List.getElem?_append_right hi]at hy
     rw[List.getElem?_append_left hj]at hz
     have pK:y=s:=by
      have:=List.mem_of_getElem? hy
      simpa using this
     subst pK
     have h1:=ez z (List.mem_of_getElem? hz) cZ
     rw[hr]at h1;cases h1.2
    ·have h1:=(List.getElem?_eq_some_iff.1 hy).1
     have h2:=(List.getElem?_eq_some_iff.1 hz).1
     simp at h1 h2
     omega
  cases hr:s.b9 with
  |false=>
   have cZ:∀y∈out,fW y s=true→y.b9=false∧s.b9=false:=fun y hy hs=>by
    refine⟨?_,hr⟩
    cases h:y.b9 with
    |false=>rfl
    |true=>
     have h1:=hB.b9 y hy h
     rw[OU hs]at h1
     have:jE all s=true:=by
      rw[jE,List.any_eq_true]
      exact⟨s,oL,by simp[hr,fW]⟩
     rw[this]at h1;cases h1
   have pz:=snoc cZ (fun h=>by rw[hr]at h;cases h)
   cases hP s out with
   |none=>exact⟨by simp,pz⟩
   |some j=>exact⟨by simp,by simpa using pz⟩
  |true=>
   rw[hr,Bool.true_and,Bool.or_eq_false_iff]at hk
   rw[Yy hB hk.1]
   simp only[if_true]
   cases hl:hP s out with
   |none=>
    exact⟨rfl,snoc (fun y hy hs=>by rw[Ir hl y hy]at hs;cases hs) (fun _=>hk.1)⟩
   |some j=>
    obtain⟨y,hy,pK⟩:=Fk hl
    have DW:=hB.dd y (List.mem_of_getElem? hy)
    have ko:=(List.getElem?_eq_some_iff.1 hy).1
    simp only[hy]
    have hm:Em y (hY y.perms s.perms)=wX y s:=by rw[abi DW];rfl
    rw[hm]
    refine⟨rfl,?_⟩
    have mem:∀z∈out.set j (wX y s),z∈out∨z=wX y s:=fun z hz=>List.mem_or_eq_of_mem_set hz
    refine⟨fun z hz=>?_,fun z hz kP=>?_,fun z hz kP=>?_,fun i k z u hz hu kP cZ=>?_⟩
    ·rcases mem z hz with h|rfl
     ·exact hB.dd z h
     ·exact Jf _
    ·rcases mem z hz with h|rfl
     ·exact hB.dec z h kP
     ·exact hB.dec y (List.mem_of_getElem? hy) kP
    ·rcases mem z hz with h|rfl
     ·exact hB.b9 z h kP
     ·exact hB.b9 y (List.mem_of_getElem? hy) kP
    ·have back:∀(i:Nat)z,(out.set j (wX y s))[i]? =some z→∃z',out[i]? =some z'∧z'.b9=z.b9∧z'.kind=z.kind∧z'.name=z.name:=fun i z hz=>by
      rw[List.getElem?_set]at hz
      split at hz
      ·rename_i me
       subst me
       cases hz
       exact⟨y,hy,rfl,rfl,rfl⟩
      ·exact⟨z,hz,rfl,rfl,rfl⟩
     obtain⟨z',a1,a2,a3,a4⟩:=back i z hz
     obtain⟨u',b1,b2,b3,b4⟩:=back k u hu
     refine hB.one i k z' u' a1 b1 (by rw[a2];exact kP) ?_
     unfold fW at cZ ⊢
     rw[b3,b4,a3,a4];exact cZ
theorem RN{all:List aj}:∀(l out:List aj),(∀s∈l,s∈all∧DD s.perms)→xn all out→l.foldl (rk all) out=l.foldl (o0 all) out
 |[],out,_,_=>rfl
 |s::l,out,h,hB=>by
  have:=step_eq hB (h s (by simp)).1 (h s (by simp)).2
  rw[List.foldl_cons,List.foldl_cons,this.1]
  exact RN l _ (fun t ht=>h t (by simp[ht])) this.2
theorem xn.nil(all:List aj):xn all []:=⟨fun y h=>by simp at h,fun y h=>by simp at h,fun y h=>by simp at h,fun i j y z h=>by simp at h⟩
theorem PD{all l:List aj}(h:∀s∈l,s∈all∧DD s.perms):uN all l=g7 all l:=RN l [] h (xn.nil all)
end Go.Proofs.Ytimbllcalipehaa.Ab
namespace Go.Proofs.Ytimbllcalipehaa.Ab
open Go
set_option maxRecDepth 4000
set_option linter.unusedVariables false
theorem ZO(l:List aj):(bq (aF l)).map aa=bq (aF l):=by
 induction l with
 |nil=>rfl
 |cons s l ih=>rw[yi,List.map_append,ih];rfl
theorem Fy(k:Nat)(hk:k<6):∀(l:List aj)(j:Nat)(y:aj),l[j]? =some y→(bq (aF l))[j*6+k]? =((iP y).map SV.d)[k]?
 |[],j,y,h=>by simp at h
 |s::l,0,y,h=>by
  simp at h;subst h
  rw[yi,Nat.zero_mul,Nat.zero_add,List.getElem?_append_left (by simp[iP];omega)]
 |s::l,j+1,y,h=>by
  rw[yi,List.getElem?_append_right (by simp[iP];omega)]
  have:(j+1)*6+k-((iP s).map SV.d).length =j*6+k:=by simp[iP];omega
  rw[this]
  exact Fy k hk l j y (by simpa using h)
theorem Ql(n sz:Nat)(cs:List SV):aX (.cJ n sz cs)=some (.d (.int .i64 n)):=rfl
theorem Qm(n sz:Nat)(cs:List SV):aa (.cJ n sz cs)=.cJ n sz cs:=rfl
theorem abk{n sz i:Nat}{cs:List SV}(h:i<n):aQ sz (.cJ n sz cs) (.d (.int .i64 (i:Int)))=some (.ref cs (i*sz)):=by
 simp only[aQ,j4 h,if_true]
theorem ZP(cs:List SV)(o n:Nat):bZ (.ref cs o) n=some (.ref cs (o+n)):=rfl
theorem abl(cs:List SV)(o:Nat):aI false 1 (.ref cs o)=(match cs[o]? with|some z=>some (aa z)|none=>none):=rfl
theorem Wy(l:List aj)(hl:l.length≤maxLen)(k:Int)(n:List UInt8)(r:Bool):aD Try.prog gl 47 [.cJ l.length 6 (bq (aF l)),.d (.int .i64 k),.d (.str n),.d (.bool r)] (.d (.int .i64 (tN k n r l))):=by
 refine cE bA (bV (fn:=Try.f47) (by kernel_rfl) (by kernel_rfl) (by kernel_rfl)) (h:=MA) ?_;rw[RE];intro bC
 refine mz (fun i=>∀(j:Nat)z,j<i→l[j]? =some z→(z.kind==k&&(z.name==n&&z.b9==r))=false) (fun i=>[.cJ l.length 6 (bq (aF l)),.d (.int .i64 k),.d (.str n),.d (.bool r),.d (.int .i64 ((i:Nat):Int))]) (fun i=>[]) l.length (fun j t hj=>by omega) (fun i hi hJ I hI=>?_) (fun hJ I=>?_)
 ·simp only[sS,sT,sZ,Qm,Ql]
  refine And.intro (fun _=>?_) (fun h=>absurd h (by simp;omega))
  obtain⟨z,hz⟩:=get_some hi
  have nx:(z.kind==k&&(z.name==n&&z.b9==r))=false→∀(j:Nat)z,j<i+1→l[j]? =some z→(z.kind==k&&(z.name==n&&z.b9==r))=false:=fun h j z' hj gq=>by
   rcases Nat.lt_or_ge j i with h2|h2
   ·exact hJ j z' h2 gq
   ·have:j=i:=by omega
    subst this
    rw[hz]at gq;cases gq;exact h
  have c0:=Fy 0 (by decide) l i z hz
  have c1:=Fy 1 (by decide) l i z hz
  have c2:=Fy 2 (by decide) l i z hz
  have d0:((iP z).map SV.d)[0]? =some (.d (.int .i64 z.kind)):=rfl
  have d1:((iP z).map SV.d)[1]? =some (.d (.str z.name)):=rfl
  have d2:((iP z).map SV.d)[2]? =some (.d (.bool z.b9)):=rfl
  rw[d0]at c0
  rw[d1]at c1
  rw[d2]at c2
  rw[Nat.add_zero]at c0
  generalize bq (aF l)=cs at hI c0 c1 c2 ⊢
  simp only[abk hi,abb,ZP,Nat.add_zero,abl,c0,c1,c2,sS,sT,sZ,wS,gx,PC]
  refine And.intro (fun h1=>?_) (fun h1=>?_)
  ·refine And.intro (fun h2=>?_) (fun h2=>?_)
   ·refine And.intro (fun h3=>?_) (fun h3=>?_)
    ·rw[tN,ti hz (by rw[h1,h2,h3];rfl) hJ];rfl
    ·refine aP (aY hi hl) ?_
     exact hI (nx (by rw[h3,Bool.and_false,Bool.and_false]))
   ·refine aP (aY hi hl) ?_
    exact hI (nx (by rw[h2,Bool.false_and,Bool.and_false]))
  ·refine aP (aY hi hl) ?_
   exact hI (nx (by rw[h1,Bool.false_and]))
 ·simp only[sS,sT,sZ,Qm,Ql]
  refine And.intro (fun h=>absurd h (by simp)) (fun _=>?_)
  rw[tN,s3 fun j z hz=>hJ j z (List.getElem?_eq_some_iff.1 hz).1 hz]
  rfl
theorem PE(s:aj)(out:List aj):tN s.kind s.name true out=orM (zg s out):=rfl
theorem ZQ{W:List aj}{s:aj}(h:s∈W):s.perms.length≤ct W:=by
 obtain⟨i,hi⟩:=List.mem_iff_getElem?.1 h
 have h1:=xZ hi
 have h2:=Ai W (i+1)
 omega
theorem stepR_skip{W out:List aj}{s:aj}(h:w8 W s=true):rk W out s=out:=by rw[rk,if_pos h]
theorem IL{W out:List aj}{s:aj}(h:w8 W s=false)(hn:s.b9=true→zg s out=none):rk W out s=out++[s]:=by
 rw[rk,if_neg (by rw[h];simp)]
 cases hr:s.b9 with
 |false=>simp
 |true=>rw[if_pos rfl,hn hr]
theorem Yz{W out:List aj}{s y:aj}{j:Nat}(h:w8 W s=false)(hr:s.b9=true)(hq:zg s out=some j)(hy:out[j]? =some y):rk W out s=out.set j (Em y (hY y.perms s.perms)):=by
 rw[rk,if_neg (by rw[h];simp),if_pos hr,hq]
 simp only[hy]
def xo(l:List aj):SV:=match gy [] l with
 |some (c,s)=>.aL [.d (.sl .nil 0 []),.d (.agg [.int .i64 c,.int .i64 s.line,.int .i64 s.fo,.str s.name])]
 |none=>.aL [bd 6 (aF (g7 l l)),.d (.agg [.int .i64 0,.int .i64 0,.int .i64 0,.str []])]
theorem NQ(aG:List fp){L:List D}{xs:D}(hx:aW 55 L xs)(hs:A1 aG L)(hn:aG.length≤maxLen)(hl:(aG.flatMap bJ).length ≤2^30)(hp:ct (aG.flatMap bJ)≤2^30):
  aD Try.prog gl 22 [.d xs] (xo (aG.flatMap bJ)):=by
 refine cE bA (bV (fn:=Try.f22) (by kernel_rfl) (by kernel_rfl) (by kernel_rfl)) (h:=TY) ?_;rw[acg];intro bC
 have eO:=Yw aG hx hs hn hl
 have zV:∀s∈aG.flatMap bJ,s∈aG.flatMap bJ∧DD s.perms:=fun s h=>⟨h,by obtain⟨t,_,ht⟩:=List.mem_flatMap.1 h;exact abj ht⟩
 generalize aG.flatMap bJ=W at eO zV hl hp ⊢
 have gr:W.length≤maxLen:=by simp only[maxLen];omega
 unfold FR at eO
 unfold xo
 simp only[sS,sT,sZ]
 cases hc:gy [] W with
 |some cs=>
  obtain⟨c,s⟩:=cs
  rw[hc]at eO
  refine call2 eO ?_
  have bg:=Fo W [] c s hc
  simp only[sS,sT,sZ,RK,CB,C5,C6,CW,gK,FQ,Nat.le_refl,true_and]
  refine And.intro (fun _=>?_) (fun h=>absurd h (by simp[bg]))
  first|rfl|exact⟨rfl,rfl⟩|trivial
 |none=>
  rw[hc]at eO
  refine call2 eO ?_
  simp only[sS,sT,sZ,RM,CB,C5,C6,CW,gK,FQ,Nat.le_refl,true_and,dM,Qg]
  refine And.intro (fun h=>absurd h (by simp)) (fun _=>?_)
  let fz:List SV:=[.d (.int .i64 0),.d (.int .i64 0),.d (.int .i64 0),.d (.str [])]
  refine gj (fun i=>[.d (bz 6 (aF W)),oF (uN W (W.take i)),.d (.int .i64 ((i:Nat):Int))]) (fun i=>[fz,fz]) W.length (fun i hi I hI=>?_) (fun I=>?_)
  ·simp only[sS,sT,sZ,(dC 6 (aF W)).len,dN]
   refine And.intro (fun _=>?_) (fun h=>absurd h (by simp;omega))
   obtain⟨s,mr⟩:=get_some hi
   have sP:=aY hi gr
   simp only[(dC 6 (aF W)).at (k9 mr),p7,eV,eM,fV,eE,fJ,fE,fS,sS,sT,sZ]
   have iu:uN W (W.take (i+1))=rk W (uN W (W.take i)) s:=by rw[dZ mr,uN,uN,List.foldl_append];rfl
   have heq:uN W (W.take i)=g7 W (W.take i):=PD fun t ht=>zV t (List.mem_of_mem_take ht)
   have hlen:=Io W W i
   have Bl:=NP W W i
   have afS:=Ai W i
   have kN:=ZQ (List.mem_of_getElem? mr)
   rw[←heq]at hlen Bl
   rw[iu]at hI
   generalize uN W (W.take i)=out at hI hlen Bl ⊢
   refine rj [.d (bz 6 (aF W)),oF out,.d (.int .i64 (i:Int)),.d (.bool (w8 W s))] [fz,fz,s.cells] (fun J hJ=>?_) ?_
   ·unfold w8 at hJ
    refine And.intro (fun h1=>?_) (fun h1=>?_)
    ·refine dG (Iq s) ?_
     simp only[sS,sT,sZ]
     refine And.intro (fun h2=>?_) (fun h2=>?_)
     ·rw[h1,h2]at hJ;exact hJ
     ·refine dG (OS W (dC 6 _) gr _ _ _) ?_
      rw[h1,h2,Bool.true_and,Bool.false_or]at hJ
      simp only[sS,sT,sZ]
      exact hJ
    ·rw[h1,Bool.false_and]at hJ;exact hJ
   simp only[sS,sT,sZ]
   refine And.intro (fun hk=>?_) (fun hk=>?_)
   ·rw[stepR_skip hk]at hI
    refine aP sP ?_
    exact hI
   refine Ck (fun bg=>?_) (fun he=>?_)
   ·simp only[fJ,fE,fS,jv,eE,ZO,dN,sS,sT,sZ]
    refine dG (Wy out (by simp only[maxLen];omega) _ _ _) ?_
    rw[PE]
    simp only[sS,sT,sZ]
    refine And.intro (fun hr=>?_) (fun hr=>?_)
    ·cases hq:zg s out with
     |none=>
      simp only[orM,sS,sT,sZ]
      refine And.intro (fun h=>absurd h (by decide)) (fun _=>?_)
      simp only[wK,wG,eE,dr,kb,iG,sS,sT,sZ]
      refine Cl (by omega) ?_
      refine aP sP ?_
      rw[IL hk (fun _=>hq)]at hI
      exact hI
     |some j=>
      obtain⟨y,hy,_⟩:=yh hq
      have hj:j<out.length:=(List.getElem?_eq_some_iff.1 hy).1
      have hyp:=Bl y (List.mem_of_getElem? hy)
      rw[Yz hk hr hq hy]at hI
      simp only[orM,sS,sT,sZ]
      refine And.intro (fun _=>?_) (fun h=>absurd h (by simp))
      simp only[j4 hj,Jy,IJ out j y hy,jv,sS,sT,sZ]
      refine cw (HP y.perms s.perms (dC 1 _) (dC 1 _) (by omega) (by omega)) (j3 _ _) ?_
      have hg:=wG (out.set j (Em y (hY y.perms s.perms)))
      rw[List.length_set]at hg
      have aR:(bq (aF out)).set (j*6+3) (.d (bz 1 (cf (hY y.perms s.perms))))=bq (aF (out.set j (Em y (hY y.perms s.perms)))):=Je out j y (hY y.perms s.perms) hy
      simp only[dM,s5,j4 hj,sS,sT,sZ,QV,il]
      rw[aR]
      refine⟨by rw[Jd];omega,?_⟩
      simp only[wK,sS,sT,sZ]
      refine aP hg ?_
      refine aP sP ?_
      rw[Jx (by intro h;have h2:=congrArg List.length h;simp only[List.length_set,List.length_nil]at h2;omega)]at hI
      exact hI
    ·simp only[wK,wG,eE,dr,kb,iG,sS,sT,sZ]
     refine Cl (by omega) ?_
     refine aP sP ?_
     rw[IL hk (fun h=>by rw[hr]at h;cases h)]at hI
     exact hI
   ·subst he
    simp only[fJ,fE,fS,jv,eE,EY,sS,sT,sZ]
    refine dG (OS [] (.nil g5 rfl) (by decide) _ _ _) ?_
    have hq:zg s []=none:=rfl
    rw[PE,hq]
    have bO:I [.d (bz 6 (aF W)),oF [s],.d (.int .i64 ((i+1:Nat):Int))] [fz,fz]:=by
     rw[IL hk (fun _=>hq)]at hI
     exact hI
    simp only[orM,sS,sT,sZ]
    refine And.intro (fun hr=>?_) (fun hr=>?_)
    ·refine And.intro (fun h=>absurd h (by decide)) (fun _=>?_)
     simp only[eE,dr,kb,iG,sS,sT,sZ]
     refine Ca ?_
     refine aP sP ?_
     exact bO
    ·simp only[eE,dr,kb,iG,sS,sT,sZ]
     refine Ca ?_
     refine aP sP ?_
     exact bO
  ·simp only[sS,sT,sZ,(dC 6 (aF W)).len,dN]
   refine And.intro (fun h=>absurd h (by simp)) (fun _=>?_)
   have heq:uN W (W.take W.length)=g7 W W:=by rw[List.take_length];exact PD zV
   rw[heq]
   simp only[Qh,show aN []=some [] from rfl,wD,CB,C5,C6,CW,sS,sT,sZ]
   refine⟨Nat.le_refl 4,k7 _ _,?_⟩
   exact And.intro rfl rfl
end Go.Proofs.Ytimbllcalipehaa.Ab
namespace Go.Proofs.Ytimbllcalipehaa.Ab
open Go
set_option maxRecDepth 4000
set_option linter.unusedVariables false
theorem VF{m:zR}{d:D}(hd:Gu m d)(hm:Lh m):aD Try.prog gl 21 [.d d] (xo m.syms):=by
 cases hd with
 |mk xs L hx hs=>
 refine cE bA (bV (fn:=Try.f21) (by kernel_rfl) (by kernel_rfl) (by kernel_rfl)) (h:=TX) ?_;rw[acf];intro bC
 simp only[Au,zf,Cm,sS,sT,sZ]
 have hB:=NQ m.aG hx hs (Nat.le_trans hm.n (by decide)) hm.l hm.p
 have e:m.aG.flatMap bJ=m.syms:=rfl
 rw[e]at hB
 unfold xo at hB ⊢
 cases hc:gy [] m.syms with
 |none=>
  simp only[hc]at hB ⊢
  refine call2 hB ?_
  simp only[dA,dF,ft,dB,k7,sS,sT,sZ]
 |some p=>
  obtain⟨c,s⟩:=p
  simp only[hc]at hB ⊢
  refine call2 hB ?_
  simp only[dA,dF,ft,dB,sS,sT,sZ]
end Go.Proofs.Ytimbllcalipehaa.Ab
namespace Go.Proofs.Ytimbllcalipehaa.Ab
open Go
set_option linter.unusedVariables false
set_option maxRecDepth 4000
inductive ak where
 |mk (s:fp) (th el:List ak)
def ak.s:ak→fp| .mk s _ _=>s
def ak.th:ak→List ak| .mk _ a _=>a
def ak.el:ak→List ak| .mk _ _ b=>b
mutual
def ak.sz:ak→Nat
 | .mk _ a b=>1+ak.dY a+ak.dY b
def ak.dY:List ak→Nat
 |[]=>0
 |t::l=>t.sz+ak.dY l
end
mutual
inductive nQ:ak→D→Prop
 |mk (s:fp) (th el:List ak) (r5 r6 cC al:D) (rest:List D) (yt ye:D) (Lt Le:List D) (h:rest.length=46) (hl:aW 1 (cf s.list) cC) (ha:aW 1 (cf s.iT) al) (ht:rest[44]? =some yt) (he:rest[45]? =some ye)
   (ML:aW 55 Lt yt) (D1:aW 55 Le ye) (lF:fX th Lt) (lq:fX el Le):nQ (.mk s th el) (.agg (lL s r5 r6 cC al rest))
inductive fX:List ak→List D→Prop
 |nil:fX [] []
 |cons (t:ak) (x:D) (l:List ak) (L:List D) (h:nQ t x) (hl:fX l L):fX (t::l) (x::L)
end
theorem fX.len:∀{l:List ak}{L:List D},fX l L→L.length=l.length
 |[],_,h=>by cases h;rfl
 |t::l,_,h=>by cases h with|cons _ _ _ _ _ hl=>simp[hl.len]
theorem fX.at_:∀{l:List ak}{L:List D},fX l L→∀{i:Nat}{t:ak},l[i]? =some t→∃y,L[i]? =some y∧nQ t y
 |[],_,_,i,t,h=>by simp at h
 |t::l,_,h,0,u,hu=>by cases h with|cons _ x _ _ h hl=>simp at hu;subst hu;exact⟨x,rfl,h⟩
 |t::l,_,h,i+1,u,hu=>by cases h with|cons _ _ _ _ _ hl=>simpa using hl.at_ (by simpa using hu)
theorem ak.A3:∀{l:List ak}{i:Nat}{t:ak},l[i]? =some t→t.sz≤ak.dY l
 |[],i,t,h=>by simp at h
 |u::l,0,t,h=>by simp at h;subst h;simp[ak.dY]
 |u::l,i+1,t,h=>by
  have:=ak.A3 (l:=l) (i:=i) (t:=t) (by simpa using h)
  simp only[ak.dY];omega
theorem ak.rq:∀(l:List ak),l.length≤ak.dY l
 |[]=>by simp
 | .mk s a b::l=>by
   have:=ak.rq l
   simp only[List.length_cons,ak.dY,ak.sz];omega
theorem ak.Cn(t:ak):t.sz=1+ak.dY t.th+ak.dY t.el:=by cases t;rfl
structure TC(t:ak)(x:D)(c:List SV)(cC al yt ye:D)(Lt Le:List D):Prop where
 is:rS t.s x
 load:aI true 55 (.aT x 0)=some (.d x)
 cells:az (.d x)=some c
 len:c.length=55
 p0:ah false 1 0 c=some (.d (.int .i64 t.s.kind))
 BL:ah false 1 53 c=some (.d yt)
 BM:ah false 1 54 c=some (.d ye)
 whole:ah true 55 0 c=some (.d x)
 l0:aI false 1 (.aT x 0)=some (.d (.int .i64 t.s.kind))
 l7:aI false 1 (.aT x 7)=some (.d cC)
 l8:aI false 1 (.aT x 8)=some (.d al)
 l53:aI false 1 (.aT x 53)=some (.d yt)
 l54:aI false 1 (.aT x 54)=some (.d ye)
 Dt:aW 1 (cf t.s.list) cC
 LN:aW 1 (cf t.s.iT) al
 mQ:aW 55 Lt yt
 gD:aW 55 Le ye
 lF:fX t.th Lt
 lq:fX t.el Le
theorem nQ.out{t:ak}{x:D}(h:nQ t x):∃c cC al yt ye Lt Le,TC t x c cC al yt ye Lt Le:=by
 cases h with
 |mk s th el r5 r6 cC al rest yt ye Lt Le h hl ha ht he ML D1 lF lq=>
  have hs:rS s (.agg (lL s r5 r6 cC al rest)):=.mk r5 r6 cC al rest h hl ha
  have Hg:(lL s r5 r6 cC al rest)[53]? =some yt:=ht
  have Hh:(lL s r5 r6 cC al rest)[54]? =some ye:=he
  have c53:(gw s r5 r6 cC al rest)[53]? =some (.d yt):=by
   show(rest.map SV.d)[44]? =_
   rw[List.getElem?_map,ht];rfl
  have c54:(gw s r5 r6 cC al rest)[54]? =some (.d ye):=by
   show(rest.map SV.d)[45]? =_
   rw[List.getElem?_map,he];rfl
  exact⟨gw s r5 r6 cC al rest,cC,al,yt,ye,Lt,Le,hs,hs.load,rfl,by rw[gN,h],rfl,by rw[ah,cond_false,c53],by rw[ah,cond_false,c54],lO s r5 r6 cC al rest h,rfl,
   EW _ 7 _ rfl,EW _ 8 _ rfl,EW _ 53 _ Hg,EW _ 54 _ Hh,hl,ha,ML,D1,lF,lq⟩
theorem pn(x:D)(n:Nat):bZ (.aT x 0) n=some (.aT x n):=by simp[bZ]
theorem wP{z c:List SV}{n:Nat}(hz:z.length=n)(h:c.length=n):setAt z 0 c=c:=OP (by rw[h,hz])
mutual
def ak.nb:ak→Nat
 | .mk s a b=>if s.kind==18 then 1+ak.cD a+ak.cD b else 0
def ak.cD:List ak→Nat
 |[]=>0
 |t::l=>t.nb+ak.cD l
end
theorem ak.F9(t:ak):t.nb=if t.s.kind==18 then 1+ak.cD t.th+ak.cD t.el else 0:=by cases t;rfl
theorem ak.AK(l:List ak):ak.cD l=(l.map ak.nb).sum :=by
 induction l with
 |nil=>rfl
 |cons t l ih=>simp[ak.cD,ih]
theorem ak.Qn{l:List ak}{i:Nat}{t:ak}(h:l[i]? =some t):ak.cD (l.take (i+1))=ak.cD (l.take i)+t.nb:=by
 rw[dZ h,ak.AK,ak.AK];simp
mutual
theorem ak.aeu:∀(t:ak),t.nb≤t.sz
 | .mk s a b=>by
   have h1:=ak.uZ a
   have h2:=ak.uZ b
   simp only[ak.nb,ak.sz]
   split<;>omega
theorem ak.uZ:∀(l:List ak),ak.cD l≤ak.dY l
 |[]=>by simp[ak.cD]
 |t::l=>by
  have h1:=ak.aeu t
  have h2:=ak.uZ l
  simp only[ak.cD,ak.dY];omega
end
theorem H0:∀(n:Nat)(ts:List ak){L:List D}{x:D},ak.dY ts≤n→aW 55 L x→fX ts L→ak.dY ts≤2^30→aD Try.prog gl 37 [.d x] (.d (.int .i64 (ak.cD ts:Int)))
 |0,ts,L,x,hn,hx,hs,hb=>by
  have h0:=ak.rq ts
  have:ts=[]:=List.length_eq_zero_iff.1 (by omega)
  subst this
  cases hs
  refine cE bA (bV (fn:=Try.f37) (by kernel_rfl) (by kernel_rfl) (by kernel_rfl)) (h:=Mz) ?_;rw[RG];intro bC
  simp only[hx.len,sS,sT,sZ]
  refine gj (fun i=>[.d (.int .i64 0),.d x,.d (.int .i64 ((0:Nat):Int)),.d (.int .i64 ((i:Nat):Int))]) (fun i=>[]) 0 (fun i hi I hI=>absurd hi (by omega)) (fun I=>?_)
  simp only[sS,sT,sZ]
  refine And.intro (fun h=>absurd h (by simp)) (fun _=>?_)
  rfl
 |n+1,ts,L,x,hn,hx,hs,hb=>by
  have h0:=ak.rq ts
  have cH:ts.length≤maxLen:=Nat.le_trans (Nat.le_trans h0 hb) (by decide)
  refine cE bA (bV (fn:=Try.f37) (by kernel_rfl) (by kernel_rfl) (by kernel_rfl)) (h:=Mz) ?_;rw[RG];intro bC
  simp only[hx.len,hs.len,sS,sT,sZ]
  refine gj (fun i=>[.d (.int .i64 (ak.cD (ts.take i):Int)),.d x,.d (.int .i64 (ts.length:Int)),.d (.int .i64 ((i:Nat):Int))]) (fun i=>[]) ts.length (fun i hi I hI=>?_) (fun I=>?_)
  ·simp only[sS,sT,sZ]
   refine And.intro (fun _=>?_) (fun h=>absurd h (by simp;omega))
   obtain⟨t,ht⟩:=get_some hi
   obtain⟨y,hy,iC⟩:=hs.at_ ht
   obtain⟨c,cC,al,yt,ye,Lt,Le,hc⟩:=iC.out
   have eY:=wP (z:=ga) (c:=c) rfl hc.len
   simp only[sZ]at eY
   have hz:=ak.A3 ht
   have DU:=t.Cn
   have gp:=ak.Qn ht
   have Hi:=ak.uZ (ts.take (i+1))
   rw[gp]at hI
   have hle:ak.cD (ts.take (i+1))≤ak.cD ts:=by
    rw[ak.AK,ak.AK,←List.take_append_drop (i+1) ts,List.map_append,List.sum_append,List.take_append_drop];omega
   have agG:=ak.uZ ts
   rw[t.F9]at hI gp
   simp only[hx.at hy,hc.load,hc.cells,hc.len,eY,hc.p0,sS,sT,sZ]
   refine And.intro (fun hk=>?_) (fun hk=>?_)
   ·rw[if_pos hk]at hI gp
    have k1:=H0 n t.th (by omega) hc.mQ hc.lF (by omega)
    have k2:=H0 n t.el (by omega) hc.gD hc.lq (by omega)
    simp only[hc.BL,hc.BM,sS,sT,sZ]
    refine dG k1 ?_
    refine aP (Cv (m:=1) (n:=ak.cD t.th) (by omega)) ?_
    refine dG k2 ?_
    refine aP (Cv (m:=1+ak.cD t.th) (n:=ak.cD t.el) (by omega)) ?_
    refine aP (Cv (m:=ak.cD (ts.take i)) (n:=1+ak.cD t.th+ak.cD t.el) (by omega)) ?_
    refine aP (aY hi cH) ?_
    exact hI
   ·rw[if_neg (by rw[hk];simp),Nat.add_zero]at hI
    refine aP (aY hi cH) ?_
    exact hI
  ·simp only[sS,sT,sZ]
   refine And.intro (fun h=>absurd h (by simp)) (fun _=>?_)
   rw[List.take_length]
end Go.Proofs.Ytimbllcalipehaa.Ab
namespace Go.Proofs.Ytimbllcalipehaa.Ab
open Go
set_option linter.unusedVariables false
set_option maxRecDepth 4000
theorem Fz{α β:Type}{f:α→List β}{c:Nat}:∀{l:List α},(∀x∈l,(f x).length ≤c)→(l.flatMap f).length ≤l.length*c
 |[],_=>by simp
 |x::l,h=>by
  have h1:=h x (by simp)
  have h2:=Fz (l:=l) fun y hy=>h y (by simp[hy])
  rw[List.flatMap_cons,List.length_append,List.length_cons,Nat.succ_mul]
  omega
theorem QW{c:Nat}:∀{W:List aj},(∀x∈W,x.perms.length≤c)→ct W≤W.length*c
 |[],_=>by simp[ct]
 |x::W,h=>by
  have h1:=h x (by simp)
  have h2:=QW (W:=W) fun y hy=>h y (by simp[hy])
  unfold ct at h2 ⊢
  rw[List.map_cons,List.sum_cons,List.length_cons,Nat.succ_mul]
  omega
theorem It(s:fp)(h1:s.list.length≤40)(h2:s.iT.length≤40):(bJ s).length ≤41∧∀x∈bJ s,x.perms.length≤40:=by
 have hd:=Im s.list
 constructor
 ·unfold bJ
  split
  ·rw[List.length_cons]
   split
   ·rw[List.length_map];omega
   ·simp
  ·split
   ·simp
   ·split
    ·rw[List.length_map];omega
    ·simp
 ·intro x h
  unfold bJ at h
  split at h
  ·rcases List.mem_cons.1 h with rfl|h
   ·show(if g9 s.kind==1 then dedup s.list else []).length ≤40
    split
    ·omega
    ·simp
   ·split at h
    ·obtain⟨a,_,rfl⟩:=List.mem_map.1 h
     simp
    ·cases h
  ·split at h
   ·rcases List.mem_cons.1 h with rfl|h
    ·show(dedup s.list).length ≤40
     omega
    ·cases h
   ·split at h
    ·obtain⟨a,_,rfl⟩:=List.mem_map.1 h
     simp
    ·cases h
mutual
def ak.qS:ak→Nat→Option Nat
 | .mk s a b,n=>match n with
   |0=>none
   |n+1=>if 30<s.list.length then none else if 30<s.iT.length then none else(ak.gS a n).bind (ak.gS b)
def ak.gS:List ak→Nat→Option Nat
 |[],n=>some n
 |t::l,n=>(t.qS n).bind (ak.gS l)
end
theorem ak.Sr(t:ak):t.qS 0=none:=by cases t;rfl
theorem ak.adx(t:ak)(n:Nat):t.qS (n+1)=if 30<t.s.list.length then none else if 30<t.s.iT.length then none else(ak.gS t.th n).bind (ak.gS t.el):=by cases t;rfl
theorem ak.Jg:∀(a b:List ak)(n:Nat),ak.gS (a++b) n=(ak.gS a n).bind (ak.gS b)
 |[],b,n=>rfl
 |t::a,b,n=>by
  rw[List.cons_append,ak.gS,ak.gS]
  cases t.qS n with
  |none=>rfl
  |some m=>exact ak.Jg a b m
theorem ak.YA{l:List ak}{i:Nat}{t:ak}(h:l[i]? =some t)(n:Nat):ak.gS (l.take (i+1)) n=(ak.gS (l.take i) n).bind t.qS:=by
 rw[dZ h,ak.Jg]
 congr 1
 funext m
 rw[ak.gS]
 cases t.qS m<;>rfl
theorem ak.ZR{l:List ak}{i n:Nat}(h:ak.gS (l.take i) n=none):ak.gS l n=none:=by
 rw[←List.take_append_drop i l,ak.Jg,h];rfl
mutual
def ak.ok:ak→Prop
 | .mk s a b=>s.list.length≤30∧s.iT.length≤30∧ak.qT a∧ak.qT b
def ak.qT:List ak→Prop
 |[]=>True
 |t::l=>t.ok∧ak.qT l
end
theorem ak.ok_eq(t:ak):t.ok=(t.s.list.length≤30∧t.s.iT.length≤30∧ak.qT t.th∧ak.qT t.el):=by cases t;rfl
theorem ak.FT:∀{l:List ak},ak.qT l→∀t∈l,t.ok
 |[],_,t,h=>by simp at h
 |u::l,h,t,ht=>by
  simp only[ak.qT]at h
  rcases List.mem_cons.1 ht with rfl|ht
  ·exact h.1
  ·exact ak.FT h.2 t ht
mutual
theorem ak.ady:∀(t:ak)(n m:Nat),t.qS n=some m→m+t.sz=n∧t.ok
 |t,0,m,h=>by rw[ak.Sr]at h;cases h
 | .mk s a b,n+1,m,h=>by
   simp only[ak.qS]at h
   split at h
   ·cases h
   ·split at h
    ·cases h
    ·obtain⟨k,h1,h2⟩:=Option.bind_eq_some_iff.1 h
     have k1:=ak.Az a n k h1
     have k2:=ak.Az b k m h2
     simp only[ak.sz,ak.ok]
     exact⟨by omega,by omega,by omega,k1.2,k2.2⟩
theorem ak.Az:∀(l:List ak)(n m:Nat),ak.gS l n=some m→m+ak.dY l=n∧ak.qT l
 |[],n,m,h=>by simp[ak.gS]at h;simp[ak.dY,ak.qT,h]
 |t::l,n,m,h=>by
  simp only[ak.gS]at h
  obtain⟨k,h1,h2⟩:=Option.bind_eq_some_iff.1 h
  have k1:=ak.ady t n k h1
  have k2:=ak.Az l k m h2
  simp only[ak.dY,ak.qT]
  exact⟨by omega,k1.2,k2.2⟩
end
theorem aW.Gv{sz:Nat}{L:List D}{x:D}(h:aW sz L x)(hw:x.Wf):L.length≤maxLen:=by
 cases h with
 |nil s h=>subst h;simp
 |ro=>exact hw.1
theorem sub_one{n:Nat}(h1:n+1≤2^40):ag none .sub (.d (.int .i64 ((n+1:Nat):Int))) (.d (.int .i64 1))=some (.d (.int .i64 (n:Int))):=by
 have h2:(2^40:Nat)=1099511627776:=by decide
 have hw:IntKind.i64.wrap (((n+1:Nat):Int)-1)=(n:Int):=by
  rw[wrap_i64 (by omega) (by omega)];omega
 simp only[ag,fg,iH,hw,↓reduceIte]
theorem CC(o:Option Nat):decide (orM o<0)=o.isNone:=by
 cases o with
 |none=>decide
 |some k=>exact decide_eq_false (by simp only[orM];omega)
theorem IM:∀(N:Nat)(ts:List ak){L:List D}{x:D}(n:Nat),ak.dY ts≤N→aW 55 L x→fX ts L→n≤2^40→aD Try.prog gl 28 [.d x,.d (.int .i64 (n:Int))] (.d (.int .i64 (orM (ak.gS ts n))))
 |0,ts,L,x,n,hN,hx,hs,hn=>by
  have h0:=ak.rq ts
  have:ts=[]:=List.length_eq_zero_iff.1 (by omega)
  subst this
  cases hs
  refine cE bA (bV (fn:=Try.f28) (by kernel_rfl) (by kernel_rfl) (by kernel_rfl)) (h:=My) ?_;rw[RF];intro bC
  simp only[hx.len,sS,sT,sZ]
  refine gj (fun i=>[.d x,.d (.int .i64 (n:Int)),.d (.int .i64 ((0:Nat):Int)),.d (.int .i64 ((i:Nat):Int))]) (fun i=>[]) 0 (fun i hi I hI=>absurd hi (by omega)) (fun I=>?_)
  simp only[sS,sT,sZ]
  refine And.intro (fun h=>absurd h (by simp)) (fun _=>?_)
  rfl
 |N+1,ts,L,x,n,hN,hx,hs,hn=>by
  refine cE bA (bV (fn:=Try.f28) (by kernel_rfl) (by kernel_rfl) (by kernel_rfl)) (h:=My) ?_;rw[RF];intro bC
  have cH:ts.length≤maxLen:=by
   rw[←hs.len]
   exact hx.Gv bC.1
  simp only[hx.len,hs.len,sS,sT,sZ]
  refine tj (α:=Nat) (fun i m=>ak.gS (ts.take i) n=some m) (fun i m=>[.d x,.d (.int .i64 (m:Int)),.d (.int .i64 (ts.length:Int)),.d (.int .i64 ((i:Nat):Int))]) (fun i m=>[]) ts.length n rfl (fun i m hi hJ I hI=>?_) (fun m hJ I=>?_)
  ·simp only[sS,sT,sZ]
   refine And.intro (fun _=>?_) (fun h=>absurd h (by simp;omega))
   obtain⟨t,ht⟩:=get_some hi
   obtain⟨y,hy,iC⟩:=hs.at_ ht
   obtain⟨c,cC,al,yt,ye,Lt,Le,hc⟩:=iC.out
   have hz:=ak.A3 ht
   have DU:=t.Cn
   have kp:=ak.YA ht n
   have En:=fun h=>ak.ZR (l:=ts) (i:=i+1) (n:=n) h
   have zT:=(ak.Az _ _ _ hJ).1
   rw[hJ,Option.bind_some]at kp
   cases m with
   |zero=>
    rw[ak.Sr]at kp
    refine And.intro (fun _=>?_) (fun h=>absurd h (by decide))
    rw[En kp]
    rfl
   |succ m=>
   refine And.intro (fun h=>absurd h (by simp;omega)) (fun _=>?_)
   rw[t.adx]at kp
   simp only[hx.at hy,pn,hc.l7,hc.l8,hc.l53,hc.l54,hc.Dt.len,hc.LN.len,iF,sS,sT,sZ]
   refine And.intro (fun h=>?_) (fun h=>?_)
   ·rw[if_pos (by simp at h;omega)]at kp
    rw[En kp]
    rfl
   rw[if_neg (by simp at h;omega)]at kp
   refine And.intro (fun h=>?_) (fun h=>?_)
   ·rw[if_pos (by simp at h;omega)]at kp
    rw[En kp]
    rfl
   rw[if_neg (by simp at h;omega)]at kp
   refine aP (sub_one (by omega)) ?_
   refine dG (IM N t.th m (by omega) hc.mQ hc.lF (by omega)) ?_
   cases h1:ak.gS t.th m with
   |none=>
    rw[h1]at kp
    rw[En kp]
    simp only[wU,CC,Option.isSome_none,Option.isNone_none,sS,sT,sZ]
    exact⟨fun h=>absurd h (by decide),fun _=>⟨fun _=>rfl,fun h=>absurd h (by decide)⟩⟩
   |some k=>
    have hk:=(ak.Az _ _ _ h1).1
    rw[h1,Option.bind_some]at kp
    simp only[wU,CC,Option.isSome_some,Option.isNone_some,sS,sT,sZ]
    refine⟨fun _=>?_,fun h=>absurd h (by decide)⟩
    refine dG (IM N t.el k (by omega) hc.gD hc.lq (by omega)) ?_
    cases h2:ak.gS t.el k with
    |none=>
     rw[h2]at kp
     rw[En kp]
     simp only[wU,CC,Option.isSome_none,Option.isNone_none,sS,sT,sZ]
     exact⟨fun _=>rfl,fun h=>absurd h (by decide)⟩
    |some k2=>
     rw[h2]at kp
     simp only[wU,CC,Option.isSome_some,Option.isNone_some,sS,sT,sZ]
     refine⟨fun h=>absurd h (by decide),fun _=>?_⟩
     refine aP (aY hi cH) ?_
     exact hI k2 kp
  ·simp only[sS,sT,sZ]
   refine And.intro (fun h=>absurd h (by simp)) (fun _=>?_)
   rw[List.take_length]at hJ
   rw[hJ]
   rfl
structure bH where
 name:List UInt8
 zS:Int
 aG:List ak
inductive kh(m:bH):D→Prop
 |mk (xs:D) (L:List D) (hx:aW 55 L xs) (hs:fX m.aG L):kh m (.agg [.str m.name,.int .i64 m.zS,xs])
structure po(l:List bH)(L:List D):Prop where
 len:L.length=l.length
 at_:∀{i:Nat}{m:bH},l[i]? =some m→∃y,L[i]? =some y∧kh m y
def o8(l:List bH):Bool:=decide (l.length≤8)&&l.all fun m=>(ak.gS m.aG 120).isSome
theorem RO(a b c:D):aI false 1 (.aT (.agg [a,b,c]) 2)=some (.d c):=rfl
theorem Wz{l:List bH}{L:List D}{x:D}(hx:aW 3 L x)(hl:po l L):aD Try.prog gl 9 [.d x] (.d (.bool (o8 l))):=by
 refine cE bA (bV (fn:=Try.f9) (by kernel_rfl) (by kernel_rfl) (by kernel_rfl)) (h:=h9) ?_;rw[aei];intro bC
 have cH:l.length≤maxLen:=by
  rw[←hl.len]
  exact hx.Gv bC.1
 simp only[hx.len,hl.len,sS,sT,sZ]
 refine And.intro (fun h=>?_) (fun h=>?_)
 ·have:o8 l=false:=by unfold o8;rw[decide_eq_false (by simp at h;omega)];rfl
  rw[this]
 have h8:decide (l.length≤8)=true:=decide_eq_true (by simp at h;omega)
 refine mz (fun i=>∀j m,j<i→l[j]? =some m→(ak.gS m.aG 120).isSome =true) (fun i=>[.d x,.d (.int .i64 (l.length:Int)),.d (.int .i64 ((i:Nat):Int))]) (fun i=>[]) l.length (fun j m hj _=>by omega) (fun i hi hJ I hI=>?_) (fun hJ I=>?_)
 ·simp only[sS,sT,sZ]
  refine And.intro (fun _=>?_) (fun h=>absurd h (by simp;omega))
  obtain⟨m,hm⟩:=get_some hi
  obtain⟨y,hy,kS⟩:=hl.at_ hm
  cases kS with
  |mk xs Lm uz cZ=>
  simp only[hx.at hy,pn,RO,sS,sT,sZ]
  refine dG (IM _ m.aG 120 (Nat.le_refl _) uz cZ (by decide)) ?_
  simp only[CC,sS,sT,sZ]
  refine And.intro (fun h=>?_) (fun h=>?_)
  ·have:o8 l=false:=by
    unfold o8
    rw[Bool.and_eq_false_iff]
    right
    rw[List.all_eq_false]
    exact⟨m,List.mem_of_getElem? hm,by cases hc:ak.gS m.aG 120<;>simp_all⟩
   rw[this]
  ·refine aP (aY hi cH) ?_
   refine hI fun j m' hj mf=>?_
   rcases Nat.lt_or_ge j i with h2|h2
   ·exact hJ j m' h2 mf
   ·have:j=i:=by omega
    subst this
    rw[hm]at mf
    cases mf
    cases hc:ak.gS m.aG 120<;>simp_all
 ·simp only[sS,sT,sZ]
  refine And.intro (fun h=>absurd h (by simp)) (fun _=>?_)
  have:o8 l=true:=by
   unfold o8
   rw[h8,Bool.true_and,List.all_eq_true]
   intro m hm
   obtain⟨j,hj⟩:=List.mem_iff_getElem?.1 hm
   exact hJ j m (List.getElem?_eq_some_iff.1 hj).1 hj
  rw[this]
structure dL(ts:List ak):Prop where
 sz:ak.dY ts≤120
 ok:ak.qT ts
theorem dL.of{ts:List ak}{m:Nat}(h:ak.gS ts 120=some m):dL ts:=by
 have:=ak.Az ts 120 m h
 exact⟨by omega,this.2⟩
theorem dL.th{ts:List ak}(h:dL ts){t:ak}(ht:t∈ts):dL t.th∧dL t.el:=by
 obtain⟨i,hi⟩:=List.mem_iff_getElem?.1 ht
 have h1:=ak.A3 hi
 have h2:=t.Cn
 have h3:=ak.FT h.ok t ht
 have h4:=h.sz
 rw[t.ok_eq]at h3
 exact⟨⟨by omega,h3.2.2.1⟩,⟨by omega,h3.2.2.2⟩⟩
def kL(ts:List ak):List aj:=(ts.map ak.s).flatMap bJ
theorem dL.syms{ts:List ak}(h:dL ts):(kL ts).length ≤4920∧ct (kL ts)≤196800:=by
 have hn:(ts.map ak.s).length ≤120:=by rw[List.length_map];exact Nat.le_trans (ak.rq ts) h.sz
 have hb:∀s∈ts.map ak.s,s.list.length≤40∧s.iT.length≤40:=fun s hs=>by
  obtain⟨t,ht,rfl⟩:=List.mem_map.1 hs
  have:=ak.FT h.ok t ht
  rw[t.ok_eq]at this
  omega
 have h1:(kL ts).length ≤(ts.map ak.s).length *41:=Fz fun s hs=>(It s (hb s hs).1 (hb s hs).2).1
 have h2:ct (kL ts)≤(kL ts).length *40:=QW fun x hx=>by
  obtain⟨s,hs,hx⟩:=List.mem_flatMap.1 hx
  exact(It s (hb s hs).1 (hb s hs).2).2 x hx
 omega
theorem dL.is{ts:List ak}(h:dL ts){L:List D}(hs:fX ts L):A1 (ts.map ak.s) L:=by
 refine⟨by rw[List.length_map];exact hs.len,fun i s hi=>?_⟩
 rw[List.getElem?_map]at hi
 obtain⟨t,ht,rfl⟩:=Option.map_eq_some_iff.1 hi
 obtain⟨y,hy,iC⟩:=hs.at_ ht
 obtain⟨c,cC,al,yt,ye,Lt,Le,hc⟩:=iC.out
 have:=ak.FT h.ok t (List.mem_of_getElem? ht)
 rw[t.ok_eq]at this
 have hz:=(It t.s (by omega) (by omega)).1
 exact⟨y,hy,hc.is,by omega,by omega,by omega⟩
theorem V1{ts:List ak}(h:dL ts){L:List D}{xs:D}(hx:aW 55 L xs)(hs:fX ts L):aD Try.prog gl 50 [.d xs] (oG (kL ts)):=by
 have h2:=h.syms
 have h0:=Nat.le_trans (ak.rq ts) h.sz
 exact Ob (ts.map ak.s) hx (h.is hs) (by rw[List.length_map];exact Nat.le_trans h0 (by decide)) (Nat.le_trans h2.1 (by decide)) (Nat.le_trans h2.2 (by decide))
theorem VN{ts:List ak}(h:dL ts){L:List D}{xs:D}(hx:aW 55 L xs)(hs:fX ts L):aD Try.prog gl 22 [.d xs] (xo (kL ts)):=by
 have h2:=h.syms
 have h0:=Nat.le_trans (ak.rq ts) h.sz
 exact NQ (ts.map ak.s) hx (h.is hs) (by rw[List.length_map];exact Nat.le_trans h0 (by decide)) (Nat.le_trans h2.1 (by decide)) (Nat.le_trans h2.2 (by decide))
def bH.d(m:bH):zR:=⟨m.name,m.zS,m.aG.map ak.s⟩
def bH.syms(m:bH):List aj:=kL m.aG
theorem kh.is{m:bH}(h:dL m.aG){d:D}(hd:kh m d):Gu m.d d:=by
 cases hd with
 |mk xs L hx hs=>exact .mk xs L hx (h.is hs)
theorem bH.UX{m:bH}(h:dL m.aG):Lh m.d:=by
 have h2:=h.syms
 have h0:=Nat.le_trans (ak.rq m.aG) h.sz
 exact⟨by show(m.aG.map ak.s).length ≤_;rw[List.length_map];exact Nat.le_trans h0 (by decide),Nat.le_trans h2.1 (by decide),Nat.le_trans h2.2 (by decide)⟩
theorem Nx{m:bH}(h:dL m.aG){d:D}(hd:kh m d):aD Try.prog gl 24 [.d d] (oG m.syms):=VM (hd.is h) (bH.UX h)
theorem Vt{m:bH}(h:dL m.aG){d:D}(hd:kh m d):aD Try.prog gl 21 [.d d] (xo m.syms):=VF (hd.is h) (bH.UX h)
theorem PF{l:List bH}(h:o8 l=true):l.length≤8∧∀m∈l,dL m.aG:=by
 unfold o8 at h
 rw[Bool.and_eq_true,List.all_eq_true]at h
 refine⟨of_decide_eq_true h.1,fun m hm=>?_⟩
 obtain⟨k,hk⟩:=Option.isSome_iff_exists.1 (h.2 m hm)
 exact .of hk
theorem NR{m:bH}{d:D}(hd:kh m d)(h:dL m.aG):aD Try.prog gl 13 [.d d] (.d (.int .i64 (ak.cD m.aG:Int))):=by
 cases hd with
 |mk xs L hx hs=>
 refine cE bA (bV (fn:=Try.f13) (by kernel_rfl) (by kernel_rfl) (by kernel_rfl)) (h:=TT) ?_;rw[acL];intro bC
 simp only[Au,zf,Cm,sS,sT,sZ]
 refine dG (H0 _ m.aG (Nat.le_refl _) hx hs (Nat.le_trans h.sz (by decide))) ?_
 simp only[sS,sT,sZ]
end Go.Proofs.Ytimbllcalipehaa.Ab
namespace Go.Proofs.Ytimbllcalipehaa.Ab
open Go
set_option linter.unusedVariables false
set_option maxRecDepth 4000
theorem CX(sz:Nat)(L:List D):aI false 1 (.aT (bz sz L) 0)=some (.d (bz sz L)):=by cases L<;>rfl
def iw(ss:List (List aj)):List D:=ss.map fun s=>bz 6 (aF s)
theorem uI(ss:List (List aj)):(iw ss).length =ss.length:=List.length_map ..
theorem FA{ss:List (List aj)}{i:Nat}{s:List aj}(h:ss[i]? =some s):(iw ss)[i]? =some (bz 6 (aF s)):=by simp[iw,h]
theorem Aj(sz:Nat)(L:List D):az (.d (bz sz L))=some [.d (bz sz L)]:=by cases L<;>rfl
theorem Qo(x:D)(h:x.one=true):bf 1 1 [(0,x)]=true:=by
 simp only[bf,D.wI h];rfl
theorem abm(sz:Nat)(L:List D):(bz sz L).one =true:=by cases L<;>rfl
theorem rv(x z:D):bj (br false [z]) [(0,x)] 1 0=[x]:=rfl
def oH(l:List bH):List (List aj):=l.map fun m=>vd m.syms
theorem yv(l:List bH):(oH l).length =l.length:=List.length_map ..
theorem Of(l:List aj):(g7 l l).length ≤l.length:=by
 have:=Io l l l.length
 rwa[List.take_length]at this
theorem ZS(l:List aj):(vd l).length ≤l.length:=by
 unfold vd
 split
 ·exact Of l
 ·simp
theorem YB{l:List aj}{c:Int}{s:aj}(h:gy [] l=some (c,s)):oG l=.aL [.d (.sl .nil 0 []),.d (.agg [.int .i64 c,.int .i64 s.line,.int .i64 s.fo,.str s.name])]:=by rw[oG,h]
theorem YC{l:List aj}(h:gy [] l=none):oG l=.aL [.d (bz 6 (aF (g7 l l))),.d (.agg [.int .i64 0,.int .i64 0,.int .i64 0,.str []])]:=by rw[oG,h]
theorem z4(c x y:Int)(n:List UInt8):setAt [(.d (.int .i64 0)),(.d (.int .i64 0)),(.d (.int .i64 0)),(.d (.str []))] 0 [.d (.int .i64 c),.d (.int .i64 x),.d (.int .i64 y),.d (.str n)]=[.d (.int .i64 c),.d (.int .i64 x),.d (.int .i64 y),.d (.str n)]:=rfl
theorem qb{c:Int}(h:c≠0):(c != 0)=true:=by simpa using h
theorem JB(a b c d e f:SV):setAt [a,b,c] 0 [d,e,f]=[d,e,f]:=rfl
theorem Fp(a b c:D):aI true 3 (.aT (.agg [a,b,c]) 0)=some (.d (.agg [a,b,c])):=Ff _ 3 rfl
theorem B3(L:List D):elems 1 (.full 1 L)=some L:=by simp[elems]
theorem Nr{l:List bH}{L:List D}{x:D}(hx:aW 3 L x)(hl:po l L)(h8:l.length≤8)(hm:∀m∈l,dL m.aG):aD Try.prog gl 38 [.d x] (bd 1 (iw (oH l))):=by
 refine cE bA (bV (fn:=Try.f38) (by kernel_rfl) (by kernel_rfl) (by kernel_rfl)) (h:=T2) ?_;rw[acR];intro bC
 have cH:l.length≤maxLen:=Nat.le_trans h8 (by decide)
 simp only[hx.len,hl.len,sS,sT,sZ]
 refine gj (fun i=>[bd 1 (iw (oH (l.take i))),.d x,.d (.int .i64 (l.length:Int)),.d (.int .i64 ((i:Nat):Int))]) (fun i=>[]) l.length (fun i hi I hI=>?_) (fun I=>?_)
 ·simp only[sS,sT,sZ]
  refine And.intro (fun _=>?_) (fun h=>absurd h (by simp;omega))
  obtain⟨m,iR⟩:=get_some hi
  obtain⟨y,hy,kS⟩:=hl.at_ iR
  have hS:=Nx (hm m (List.mem_of_getElem? iR)) kS
  have aev:iw (oH (l.take (i+1)))=iw (oH (l.take i))++[bz 6 (aF (vd m.syms))]:=by
   rw[dZ iR];simp[iw,oH]
  have hlen:(iw (oH (l.take i))).length =i:=by rw[uI,yv,List.length_take];omega
  rw[aev]at hI
  cases kS with
  |mk xs Lm uz cZ=>
  simp only[hx.at hy,Fp,Au,zf,JB,Jz,sS,sT,sZ]
  cases hc:gy [] m.syms with
  |some p=>
   obtain⟨c,s⟩:=p
   rw[YB hc]at hS
   refine call2 hS ?_
   have wu:=Fo _ _ _ _ hc
   simp only[dA,dF,z4,dB,ft,gK,fc,qb wu,sS,sT,sZ]
   refine And.intro (fun _=>?_) (fun h=>absurd h (by decide))
   have e:bz 6 (aF (vd m.syms))=.sl .nil 0 []:=by rw[vd,hc];rfl
   rw[e]at hI
   simp only[dr,Qo _ (show(D.sl .nil 0 []).one =true from rfl),rv,sS,sT,sZ]
   refine g4 (B3 _) (by simp only[hlen,List.length_singleton];omega) ?_
   refine aP (aY hi cH) ?_
   exact hI
  |none=>
   rw[YC hc]at hS
   refine call2 hS ?_
   simp only[dA,dF,z4,dB,ft,gK,fc,sS,sT,sZ]
   refine And.intro (fun h=>absurd h (by decide)) (fun _=>?_)
   have e:bz 6 (aF (vd m.syms))=bz 6 (aF (g7 m.syms m.syms)):=by rw[vd,hc]
   rw[e]at hI
   simp only[dr,Qo _ (abm _ _),rv,sS,sT,sZ]
   refine g4 (B3 _) (by simp only[hlen,List.length_singleton];omega) ?_
   refine aP (aY hi cH) ?_
   exact hI
 ·simp only[sS,sT,sZ]
  refine And.intro (fun h=>absurd h (by simp)) (fun _=>?_)
  rw[List.take_length]
  exact⟨k7 _ _,rfl⟩
end Go.Proofs.Ytimbllcalipehaa.Ab
namespace Go.Proofs.Ytimbllcalipehaa.Ab
open Go
set_option linter.unusedVariables false
set_option maxRecDepth 4000
def dT(n h:aj):Bool:= !h.b9&&(h.kind==n.kind&&h.name==n.name)
def DB(bm dJ:List aj):Bool:=dJ.any fun n=>n.b9&&bm.any (dT n)
theorem aew(s:aj):aI false 1 (.ref s.cells 0)=some (.d (.int .i64 s.kind)):=rfl
theorem aex(s:aj):aI false 1 (.ref s.cells 1)=some (.d (.str s.name)):=rfl
theorem afX(cs:List SV)(n:Nat):bZ (.ref cs 0) n=some (.ref cs n):=by simp[bZ]
theorem VO(h n:aj):aD Try.prog gl 78 [.d h.enc,.ref n.cells 0] (.d (.bool (dT n h))):=by
 refine cE bA (bV (fn:=Try.f78) (by kernel_rfl) (by kernel_rfl) (by kernel_rfl)) (h:=Up) ?_;rw[ac4];intro bC
 simp only[eV,eM,fJ,fE,fS,g6,Fm,afX,aew,aex,sS,sT,sZ]
 unfold dT
 refine And.intro (fun h1=>?_) (fun h1=>?_)
 ·refine And.intro (fun h2=>?_) (fun h2=>?_)
  ·have pH:(h.kind==n.kind)=true:=h2
   have h3:ag (some (false,[.str])) .eql (.d (.str h.name)) (.d (.str n.name))=some (.d (.bool (h.name==n.name))):=rfl
   simp only[h1,pH,h3,Bool.true_and,sS,sT,sZ]
  ·have pH:(h.kind==n.kind)=false:=h2
   rw[h1,pH]
   rfl
 ·have sd:(!h.b9)=false:=h1
  rw[sd]
  rfl
theorem V2(n:aj)(l:List aj){x:D}(hx:aW 6 (aF l) x)(hl:l.length≤maxLen):
  aD Try.prog gl 94 [.d x,.dg (.func 78) [] [.ref n.cells 0]] (.d (.int .i64 (orM (first (dT n) l)))):=by
 refine cE bA (bV (fn:=Try.f94) (by kernel_rfl) (by kernel_rfl) (by kernel_rfl)) (h:=UB) ?_;rw[acC];intro bC
 simp only[sS,sT,sZ,hx.len,dN,wO]
 refine mz (fun i=>∀(j:Nat)k,j<i→l[j]? =some k→(dT n k)=false) (fun i=>[.d x,.dg (.func 78) [] [.ref n.cells 0],.d (.int .i64 (l.length:Int)),.d (.int .i64 ((i:Nat):Int))]) (fun i=>[]) l.length (fun j k hj _=>by omega) (fun i hi hJ I hI=>?_) (fun hJ I=>?_)
 ·simp only[sS,sT,sZ,wO]
  refine And.intro (fun _=>?_) (fun h=>absurd h (by simp;omega))
  obtain⟨t,ht⟩:=get_some hi
  simp only[hx.at (k9 ht),p7,wO,Oc,List.nil_append,List.cons_append,sS,sT,sZ]
  refine dG (VO t n) ?_
  simp only[sS,sT,sZ]
  refine And.intro (fun h=>?_) (fun h=>?_)
  ·rw[ti ht (by simpa using h) hJ];rfl
  ·refine aP (aY hi hl) ?_
   refine hI fun j k' hj bK=>?_
   rcases Nat.lt_or_ge j i with h2|h2
   ·exact hJ j k' h2 bK
   ·have:j=i:=by omega
    subst this
    rw[ht]at bK
    cases bK
    simpa using h
 ·simp only[sS,sT,sZ]
  refine And.intro (fun h=>absurd h (by simp)) (fun _=>?_)
  rw[s3 fun j k bK=>hJ j k (List.getElem?_eq_some_iff.1 bK).1 bK]
  rfl
theorem Vu(n:aj)(l:List aj){x:D}(hx:aW 6 (aF l) x)(hl:l.length≤maxLen):
  aD Try.prog gl 79 [.d x,.dg (.func 78) [] [.ref n.cells 0]] (.d (.bool (l.any (dT n)))):=by
 refine cE bA (bV (fn:=Try.f79) (by kernel_rfl) (by kernel_rfl) (by kernel_rfl)) (h:=Uq) ?_;rw[acx];intro bC
 simp only[sS,sT,sZ,wO]
 refine dG (V2 n l hx hl) ?_
 have we:=EZ (dT n) l
 simp only[sS,sT,sZ,wU,we]
theorem adz{α:Type}{p:α→Bool}{l:List α}{i:Nat}{x:α}(h:l[i]? =some x)(hp:p x=true):l.any p=true:=List.any_eq_true.2 ⟨x,List.mem_of_getElem? h,hp⟩
theorem adA{α:Type}{p:α→Bool}{l:List α}(h:∀(j:Nat)x,l[j]? =some x→p x=false):l.any p=false:=by
 rw[List.any_eq_false]
 intro x hx
 obtain⟨j,hj⟩:=List.mem_iff_getElem?.1 hx
 simp[h j x hj]
theorem V3(a b:List aj){x y:D}(hx:aW 6 (aF a) x)(hy:aW 6 (aF b) y)(ha:a.length≤maxLen)(hb:b.length≤maxLen):aD Try.prog gl 57 [.d x,.d y] (.d (.bool (DB a b))):=by
 refine cE bA (bV (fn:=Try.f57) (by kernel_rfl) (by kernel_rfl) (by kernel_rfl)) (h:=Uc) ?_;rw[acY];intro bC
 simp only[sS,sT,sZ,hy.len,dN]
 refine mz (fun i=>∀(j:Nat)k,j<i→b[j]? =some k→(k.b9&&a.any (dT k))=false) (fun i=>[.d x,.d y,.d (.int .i64 (b.length:Int)),.d (.int .i64 ((i:Nat):Int))]) (fun i=>[]) b.length (fun j k hj _=>by omega) (fun i hi hJ I hI=>?_) (fun hJ I=>?_)
 ·simp only[sS,sT,sZ]
  refine And.intro (fun _=>?_) (fun h=>absurd h (by simp;omega))
  obtain⟨t,ht⟩:=get_some hi
  have step:(t.b9&&a.any (dT t))=false→∀(j:Nat)k,j<i+1→b[j]? =some k→(k.b9&&a.any (dT k))=false:=fun h j k' hj bK=>by
   rcases Nat.lt_or_ge j i with h2|h2
   ·exact hJ j k' h2 bK
   ·have:j=i:=by omega
    subst this
    rw[ht]at bK
    cases bK
    exact h
  simp only[hy.at (k9 ht),p7,eV,eM,fV,fS,Xu,sS,sT,sZ]
  refine And.intro (fun h=>?_) (fun h=>?_)
  ·refine dG (Vu t a hx ha) ?_
   simp only[sS,sT,sZ]
   refine And.intro (fun h2=>?_) (fun h2=>?_)
   ·rw[DB,adz ht (by rw[h,h2];rfl)]
   ·refine aP (aY hi hb) ?_
    exact hI (step (by rw[h2,Bool.and_false]))
  ·refine aP (aY hi hb) ?_
   exact hI (step (by rw[h,Bool.false_and]))
 ·simp only[sS,sT,sZ]
  refine And.intro (fun h=>absurd h (by simp)) (fun _=>?_)
  rw[DB,adA fun j k bK=>hJ j k (List.getElem?_eq_some_iff.1 bK).1 bK]
def dc(l:List Nat):List D:=l.map fun(k:Nat)=>.int .i64 (k:Int)
theorem mU(l:List Nat):(dc l).length =l.length:=List.length_map ..
theorem AA{l:List Nat}{i k:Nat}(h:l[i]? =some k):(dc l)[i]? =some (.int .i64 (k:Int)):=by simp[dc,h]
def w9(ss:List (List aj))(i k:Nat):Bool:= !(k==i)&&DB (ss.getD k []) (ss.getD i [])
def C7(ss:List (List aj))(i:Nat):List Nat:=(List.range ss.length).filter (w9 ss i)
def yI(ss:List (List aj))(i k:Nat):List Nat:=(List.range k).filter (w9 ss i)
theorem WA(ss:List (List aj))(i k:Nat):yI ss i (k+1)=yI ss i k++if w9 ss i k then [k]else []:=by
 rw[yI,List.range_succ,List.filter_append]
 by_cases h:w9 ss i k=true
 ·simp[yI,h]
 ·simp[yI,h]
theorem Xy(ss:List (List aj))(i k:Nat):(yI ss i k).length ≤k:=by
 have:=List.length_filter_le (w9 ss i) (List.range k)
 rwa[List.length_range]at this
theorem E1(l:List Nat)(k:Nat):dc (l++[k])=dc l++[.int .i64 (k:Int)]:=by simp[dc]
theorem E2(k:Nat):aN [(0,.v (.d (.int .i64 (k:Int))))]=some [(0,.int .i64 (k:Int))]:=rfl
theorem CD(a b:Nat):((a:Int) != (b:Int))= !(a==b):=by
 by_cases h:a=b
 ·subst h;simp
 ·have:¬((a:Int)=(b:Int)):=by omega
  rw[bne,beq_eq_false_iff_ne.2 this,beq_eq_false_iff_ne.2 h]
theorem FB(k:Nat):bf 1 1 [(0,.int .i64 (k:Int))]=true:=rfl
theorem Og{ss:List (List aj)}{x:D}(hx:aW 1 (iw ss) x)(hn:ss.length≤2^20)(hb:∀s∈ss,s.length≤maxLen){i:Nat}(v3:i<ss.length):aD Try.prog gl 39 [.d x,.d (.int .i64 (i:Int))] (bd 1 (dc (C7 ss i))):=by
 have cH:ss.length≤maxLen:=Nat.le_trans hn (by decide)
 refine cE bA (bV (fn:=Try.f39) (by kernel_rfl) (by kernel_rfl) (by kernel_rfl)) (h:=T3) ?_;rw[acS];intro bC
 simp only[sS,sT,sZ,hx.len,uI]
 refine gj (fun k=>[.d x,.d (.int .i64 (i:Int)),bd 1 (dc (yI ss i k)),.d (.int .i64 (ss.length:Int)),.d (.int .i64 ((k:Nat):Int))]) (fun i=>[]) ss.length (fun k hk I hI=>?_) (fun I=>?_)
 ·simp only[sS,sT,sZ]
  refine And.intro (fun _=>?_) (fun h=>absurd h (by simp;omega))
  obtain⟨si,mr⟩:=get_some v3
  obtain⟨sk,sn⟩:=get_some hk
  have aR:=WA ss i k
  have hlu:=Xy ss i k
  have hp:w9 ss i k=(!(k==i)&&DB sk si):=by
   rw[w9,List.getD_eq_getElem?_getD,List.getD_eq_getElem?_getD,mr,sn];rfl
  rw[aR]at hI
  simp only[fc,CD,sS,sT,sZ]
  refine And.intro (fun h=>?_) (fun h=>?_)
  ·simp only[hx.at (FA mr),hx.at (FA sn),CX,sS,sT,sZ]
   refine dG (V3 sk si (dC 6 _) (dC 6 _) (hb sk (List.mem_of_getElem? sn)) (hb si (List.mem_of_getElem? mr))) ?_
   simp only[sS,sT,sZ]
   refine And.intro (fun h2=>?_) (fun h2=>?_)
   ·rw[hp,h,h2]at hI
    simp only[E2,FB,rv,sS,sT,sZ]
    refine g4 (B3 _) (by simp only[mU,List.length_singleton];omega) ?_
    refine aP (aY hk cH) ?_
    rw[Bool.true_and,if_pos rfl,E1]at hI
    exact hI
   ·rw[hp,h,h2,Bool.and_false,if_neg (by decide),List.append_nil]at hI
    refine aP (aY hk cH) ?_
    exact hI
  ·rw[hp,h,Bool.false_and,if_neg (by decide),List.append_nil]at hI
   refine aP (aY hk cH) ?_
   exact hI
 ·simp only[sS,sT,sZ]
  refine And.intro (fun h=>absurd h (by simp)) (fun _=>?_)
  exact⟨k7 _ _,rfl⟩
theorem WB{m:bH}(h:dL m.aG):(vd m.syms).length ≤4920:=Nat.le_trans (ZS _) h.syms.1
theorem OV{l:List bH}(hm:∀m∈l,dL m.aG):∀s∈oH l,s.length≤maxLen:=fun s hs=>by
 obtain⟨m,vZ,rfl⟩:=List.mem_map.1 hs
 exact Nat.le_trans (WB (hm m vZ)) (by decide)
def J7(l:List bH)(i:Int):List Nat:=if i<0 then []else if(l.length:Int)≤i then []else C7 (oH l) i.toNat
theorem WC{l:List bH}{L:List D}{x:D}(hx:aW 3 L x)(hl:po l L)(h8:l.length≤8)(hm:∀m∈l,dL m.aG)(i:Int):aD Try.prog gl 19 [.d x,.d (.int .i64 i)] (bd 1 (dc (J7 l i))):=by
 refine cE bA (bV (fn:=Try.f19) (by kernel_rfl) (by kernel_rfl) (by kernel_rfl)) (h:=Ed) ?_;rw[acO];intro bC
 simp only[sS,sT,sZ,hx.len,hl.len]
 unfold J7
 refine And.intro (fun h=>?_) (fun h=>?_)
 ·rw[if_pos (by simpa using h)];rfl
 have h1:¬i<0:=by simpa using h
 rw[if_neg h1]
 refine And.intro (fun h=>?_) (fun h=>?_)
 ·rw[if_pos (by simpa using h)];rfl
 have h2:¬(l.length:Int)≤i:=by simp at h;omega
 rw[if_neg h2]
 refine cw (Nr hx hl h8 hm) (j3 _ _) ?_
 simp only[dM,sS,sT,sZ]
 obtain⟨n,rfl⟩:=Int.eq_ofNat_of_zero_le (by omega:0≤i)
 refine cw (Og (dC 1 _) (by rw[yv];omega) (OV hm) (by rw[yv];omega)) (j3 _ _) ?_
 exact⟨k7 _ _,rfl⟩
end Go.Proofs.Ytimbllcalipehaa.Ab
namespace Go.Proofs.Ytimbllcalipehaa.Ab
open Go
set_option linter.unusedVariables false
set_option maxRecDepth 4000
theorem Qp{α:Type}{p:α→Bool}{l:List α}{i:Nat}{x:α}(h:l[i]? =some x):(l.take (i+1)).any p=((l.take i).any p||p x):=by
 rw[dZ h,List.any_append];simp
end Go.Proofs.Ytimbllcalipehaa.Ab
