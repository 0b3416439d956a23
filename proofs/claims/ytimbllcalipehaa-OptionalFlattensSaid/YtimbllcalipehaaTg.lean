/-
  CONFLICTS: laws on values.
-/
import Derived.Test.YtimbllcalipehaaTf
import Derived.Test.YtimbllcalipehaaTe
import Derived.Test.YtimbllcalipehaaTd
set_option linter.unusedVariables false
set_option linter.unusedSimpArgs false
namespace Go.Proofs.Ytimbllcalipehaa.Ab
open Go
theorem sT:(∀p:Prop,(True∧p)=p)∧(∀{α β:Type}(f:α→β)(a:α)(l:List α),List.map f (a::l)=f a::List.map f l)∧(∀{α β:Type}(f:α→β),List.map f []=[])∧(∀(vs:List SV)(i:Nat),ae vs i=vs.getD i .undef)∧(∀(bs:List (List SV))(i:Nat),an bs i=bs.getD i [])∧
  (∀{α:Type}(a:α)(l:List α)(d:α),List.getD (a::l) 0 d=a)∧(∀{α:Type}(a:α)(l:List α)(d:α)(n:Nat),List.getD (a::l) (n+1) d=List.getD l n d)∧(∀cs:List SV,af.az (.cells cs)=cs)∧(∀l:List (MK×D),af.az (.map l)=[.mp l])∧(∀n:Int,dI n=.int .i64 n)∧(∀n:Nat,(n≤n)=True):=by
 refine⟨fun p=>true_and p,fun f a l=>rfl,fun f=>rfl,fun vs i=>rfl,fun bs i=>rfl,fun a l d=>rfl,fun a l d n=>rfl,fun cs=>rfl,fun l=>rfl,fun n=>rfl,fun n=>by simp⟩
theorem ajE(cs:List SV)(o:Nat):aa (.ref cs o)=.ref cs o:=rfl
def bl(n:Nat)(F:Nat→Bool):List D:=(List.range n).map fun i=>.bool (F i)
theorem Z2(b:Bool):aT [(0,.v (.d (.bool b)))]=some [(0,.bool b)]:=rfl
theorem uQ(b:Bool):bz 1 1 [(0,.bool b)]=true:=rfl
theorem so(x:D):cB (.d x)=some x:=rfl
theorem CM(l:List (MK×D)):mapOf [.mp l]=l:=rfl
theorem LS(b:Bool):aE (.d (.bool b))=some [.d (.bool b)]:=rfl
theorem al5(l:List (MK×D)):aa (.mp l)=.mp l:=rfl
theorem Lc(L:List D)(sz:Nat):elems sz (.d (bB sz L))=some L:=by
 cases L with
 |nil=>simp[bB,elems]
 |cons a L=>simp[bB,elems]
theorem Hk(x:D)(n:Nat):aa (.aX x n)=.aX x n:=rfl
def lN(out:List (List UInt8))(s:List UInt8):List (List UInt8):=if gr s out then out else out++[s]
def dedup(l:List (List UInt8)):List (List UInt8):=l.foldl lN []
theorem afu{l:List (List UInt8)}{i:Nat}{s:List UInt8}(h:l[i]? =some s):dedup (l.take (i+1))=lN (dedup (l.take i)) s:=by
 rw[dT h,dedup,List.foldl_append];rfl
theorem Yo(out:List (List UInt8))(s:List UInt8):(lN out s).length ≤out.length+1:=by
 unfold lN;split
 ·omega
 ·simp
theorem Ql:∀(l out:List (List UInt8)),(l.foldl lN out).length ≤out.length+l.length
 |[],out=>by simp
 |s::l,out=>by
  have h1:=Ql l (lN out s)
  have h2:=Yo out s
  simp only[List.foldl_cons,List.length_cons]
  omega
theorem ahX(l:List (List UInt8))(i:Nat):(dedup (l.take i)).length ≤i:=by
 have:=Ql (l.take i) []
 simp only[List.length_nil,Nat.zero_add,List.length_take]at this
 unfold dedup
 omega
def Fb(k:Int):Int:=if k==3 then 2 else if k==0 then 2 else k
theorem KM(k:Int):aF Try.prog gl 84 [.d (.int .i64 k)] (.d (.int .i64 (Fb k))):=by
 refine a8 (alB ..) fun br=>?_
 simp only[sS,sT,Fb]
 refine And.intro (fun h=>?_) (fun h=>?_)
 ·simp[h]
 ·refine And.intro (fun h2=>?_) (fun h2=>?_)
  ·simp[h,h2]
  ·simp[h,h2]
def Th:List UInt8:=[111,98,106,101,99,116,95,114]
def wo(k:Int)(s:List UInt8):Bool:=k==4&&s==Th
theorem Pp(k:Int)(s:List UInt8):aF Try.prog gl 69 [.d (.int .i64 k),.d (.str s)] (.d (.bool (wo k s))):=by
 refine a8 (alg ..) fun br=>?_
 simp only[sS,sT,wo,Bs]
 refine And.intro (fun h=>?_) (fun h=>?_)
 ·simp[h,Th]
 ·simp[h]
theorem CG{α:Type}{p:α→Bool}{l:List α}{k:Nat}(h:first p l=some k):∃x,l[k]? =some x∧p x=true:=by
 obtain⟨x,h1,h2,_⟩:=P0 h
 exact⟨x,h1,h2⟩
theorem CN{α:Type}{p:α→Bool}:∀{l:List α},first p l=none→∀(j:Nat)y,l[j]? =some y→p y=false
 |[],_,j,y,h=>by simp at h
 |x::l,h,j,y,hy=>by
  unfold first at h
  split at h
  ·cases h
  ·rename_i hx
   cases j with
   |zero=>simp at hy;subst hy;simpa using hx
   |succ j=>
    refine CN (l:=l) ?_ j y (by simpa using hy)
    cases hf:first p l with
    |none=>rfl
    |some k=>rw[hf]at h;cases h
set_option maxRecDepth 4000 in
theorem aew(l:List (List UInt8)){x:D}(hx:aL 1 (cA l) x)(hl:l.length≤maxLen)(s:List UInt8):aF Try.prog gl 96 [.d x,.d (.str s)] (.d (.int .i64 (orM (first (fun t=>s==t) l)))):=by
 refine a8 (alr ..) fun br=>?_
 simp only[sS,sT,hx.len,iu]
 refine n9 (fun i=>∀(j:Nat)k,j<i→l[j]? =some k→(s==k)=false) (fun i=>[.d x,.d (.str s),.d (.int .i64 (l.length:Int)),.d (.int .i64 ((i:Nat):Int))]) (fun i=>[]) l.length (fun j k hj _=>by omega) (fun i hi hJ I hI=>?_) (fun hJ I=>?_)
 ·simp only[sS,sT]
  refine And.intro (fun _=>?_) (fun h=>absurd h (by simp;omega))
  obtain⟨t,ht⟩:=get_some hi
  have vb:(cA l)[i]? =some (.str t):=by rw[cA,List.getElem?_map,ht];rfl
  simp only[hx.at vb,sS,sW,Bs]
  refine And.intro (fun h=>?_) (fun h=>?_)
  ·rw[xF ht (by simpa using h) hJ];rfl
  ·refine aS (bf hi hl) ?_
   refine hI fun j k' hj bY=>?_
   rcases Nat.lt_or_ge j i with h2|h2
   ·exact hJ j k' h2 bY
   ·have:j=i:=by omega
    subst this
    rw[ht]at bY
    cases bY
    simpa using h
 ·simp only[sS,sT]
  refine And.intro (fun h=>absurd h (by simp)) (fun _=>?_)
  rw[xu fun j k bY=>hJ j k (List.getElem?_eq_some_iff.1 bY).1 bY]
  rfl
theorem agC(s:List UInt8)(l:List (List UInt8)):(first (fun t=>s==t) l).isSome =gr s l:=by
 cases hf:first (fun t=>s==t) l with
 |some i=>
  obtain⟨t,h1,h2⟩:=CG hf
  have e:s=t:=by simpa using h2
  rw[Y9 h1 (by rw[e];simp)];rfl
 |none=>
  rw[Yn fun i t ht=>?_];rfl
  cases hs:(t==s)with
  |false=>rfl
  |true=>
   exfalso
   have h3:=CN hf i t ht
   have e:t=s:=by simpa using hs
   rw[e]at h3
   simp at h3
theorem Wb(l:List (List UInt8)){x:D}(hx:aL 1 (cA l) x)(hl:l.length≤maxLen)(s:List UInt8):aF Try.prog gl 85 [.d x,.d (.str s)] (.d (.bool (gr s l))):=by
 refine a8 (alm ..) fun br=>?_
 simp only[sS]
 refine eD (aew l hx hl s) ?_
 simp only[sS,sT,Bt,agC]
theorem Ld(l:List (List UInt8))(s:List UInt8):cA l++[.str s]=cA (l++[s]):=by simp[cA]
theorem Pm(l:List (List UInt8)){x:D}(hx:aL 1 (cA l) x)(hl:l.length≤2^40):aF Try.prog gl 70 [.d x] (aO 1 (cA (dedup l))):=by
 refine a8 (aly ..) fun br=>?_
 have J8:l.length≤maxLen:=Nat.le_trans hl (by decide)
 simp only[sS,sT,hx.len,iu]
 refine eX (fun i=>[aO 1 (cA (dedup (l.take i))),.d x,.d (.int .i64 (l.length:Int)),.d (.int .i64 ((i:Nat):Int))]) (fun i=>[]) l.length (fun i hi I hI=>?_) (fun I=>?_)
 ·simp only[sS,sT]
  refine And.intro (fun _=>?_) (fun h=>absurd h (by simp;omega))
  obtain⟨t,ht⟩:=get_some hi
  have yV:=ahX l i
  have hd:=afu ht
  simp only[hx.at (xL ht),sS,Bn,ej]
  refine eD (Wb (dedup (l.take i)) (cm 1 _) (by omega) t) ?_
  simp only[sS]
  refine And.intro (fun h=>?_) (fun h=>?_)
  ·simp only[sS,sT,Lx,Mr,Ly]
   refine gB (rK 1 _) (by rw[iu];simp only[List.length_singleton];omega) ?_
   refine aS (bf hi J8) ?_
   rw[Ld]
   rw[hd,lN,if_neg (by simpa using h)]at hI
   exact hI
  ·refine aS (bf hi J8) ?_
   rw[hd,lN,if_pos (by simpa using h)]at hI
   exact hI
 ·simp only[sS,sT]
  refine And.intro (fun h=>absurd h (by simp)) (fun _=>?_)
  simp only[jY,true_and]
  rw[List.take_of_length_le (Nat.le_refl _)]
theorem nil_eq(k:SK)(sz:Nat)(L:List D):aj (some (false,[])) .eql (.d (.sl k sz L)) (.d (.sl .nil 0 []))=some (.d (.bool (decide (k=SK.nil)))):=rfl
theorem aex(L:List D)(hl:L.length≤2^40):aF Try.prog gl 71 [.d (bB 1 L)] (aO 1 L):=by
 refine a8 (HW ..) fun br=>?_
 cases L with
 |nil=>
  simp only[sS,sT,bB,nil_eq,aO]
  refine And.intro (fun _=>?_) (fun h=>absurd h (by simp))
  trivial
 |cons a L=>
  simp only[sS,sT,bB,nil_eq,aO]
  refine And.intro (fun h=>absurd h (by simp)) (fun _=>?_)
  refine⟨rfl,Hi (sz:=1) (dh:=16) (L:=[]) (M:=a::L) (by simp[elems]) (by simp only[List.length_nil,Nat.zero_add];omega) ?_⟩
  simp[kC,SV.aA]
structure aq where
 kind:Int
 name:List UInt8
 cV:Bool
 perms:List (List UInt8)
 line:Int
 gH:Int
 deriving DecidableEq
def aq.enc(s:aq):D:=.agg [.int .i64 s.kind,.str s.name,.bool s.cV,bB 1 (cA s.perms),.int .i64 s.line,.int .i64 s.gH]
def aq.cells(s:aq):List SV:=[.d (.int .i64 s.kind),.d (.str s.name),.d (.bool s.cV),.d (bB 1 (cA s.perms)),.d (.int .i64 s.line),.d (.int .i64 s.gH)]
theorem ajF(sz:Nat)(L:List D):(bB sz L).cells =[bB sz L]:=by cases L<;>rfl
theorem gC(s:aq):aE (.d s.enc)=some s.cells:=rfl
theorem gn(s:aq):s.cells.length=6:=rfl
theorem fX(s:aq):ai true 6 0 s.cells=some (.d s.enc):=rfl
theorem iv(s:aq):ai false 1 0 s.cells=some (.d (.int .i64 s.kind)):=rfl
theorem ic(s:aq):ai false 1 1 s.cells=some (.d (.str s.name)):=rfl
theorem iI(s:aq):ai false 1 2 s.cells=some (.d (.bool s.cV)):=rfl
theorem lD(s:aq):ai false 1 3 s.cells=some (.d (bB 1 (cA s.perms))):=rfl
theorem ahY(s:aq):ai true 2 4 s.cells=some (.d (.agg [.int .i64 s.line,.int .i64 s.gH])):=rfl
theorem rS(s:aq):aH true 6 (.aX s.enc 0)=some (.d s.enc):=rfl
theorem iK(a b c d e f:SV)(s:aq):setAt [a,b,c,d,e,f] 0 s.cells=s.cells:=rfl
def aM(l:List aq):List D:=l.map aq.enc
theorem eG(l:List aq):(aM l).length =l.length:=List.length_map ..
theorem mP{l:List aq}{i:Nat}{s:aq}(h:l[i]? =some s):(aM l)[i]? =some s.enc:=by simp[aM,h]
structure gI where
 kind:Int
 op:Int
 line:Int
 gH:Int
 name:List UInt8
 list:List (List UInt8)
 jT:List (List UInt8)
def mE(s:gI)(r5 r6 bd al:D)(rest:List D):List D:=.int .i64 s.kind::.int .i64 s.op::.int .i64 s.line::.int .i64 s.gH::.str s.name::r5::r6::bd::al::rest
def jg(s:gI)(r5 r6 bd al:D)(rest:List D):List SV:=.d (.int .i64 s.kind)::.d (.int .i64 s.op)::.d (.int .i64 s.line)::.d (.int .i64 s.gH)::.d (.str s.name)::.d r5::.d r6::.d bd::.d al::rest.map .d
inductive wq(s:gI):D→Prop
 |mk (r5 r6 bd al:D) (rest:List D) (h:rest.length=46) (hl:aL 1 (cA s.list) bd) (ha:aL 1 (cA s.jT) al):wq s (.agg (mE s r5 r6 bd al rest))
section
variable(s:gI)(r5 r6 bd al:D)(rest:List D)
theorem kR:aE (.d (.agg (mE s r5 r6 bd al rest)))=some (jg s r5 r6 bd al rest):=rfl
theorem js:(jg s r5 r6 bd al rest).length =rest.length+9:=by simp[jg]
theorem lE:ai false 1 0 (jg s r5 r6 bd al rest)=some (.d (.int .i64 s.kind)):=rfl
theorem mJ:ai false 1 1 (jg s r5 r6 bd al rest)=some (.d (.int .i64 s.op)):=rfl
theorem mK:ai false 1 4 (jg s r5 r6 bd al rest)=some (.d (.str s.name)):=rfl
theorem mL:ai false 1 7 (jg s r5 r6 bd al rest)=some (.d bd):=rfl
theorem mM:ai false 1 8 (jg s r5 r6 bd al rest)=some (.d al):=rfl
theorem mN:ai true 2 2 (jg s r5 r6 bd al rest)=some (.d (.agg [.int .i64 s.line,.int .i64 s.gH])):=by
 unfold ai
 simp only[cond_true]
 rw[if_pos (by rw[js];omega)]
 rfl
theorem Ms:∀(l:List D),dC (l.map SV.d)=some l
 |[]=>rfl
 |x::l=>by simp[dC,cB,Ms l]
theorem oS(h:rest.length=46):ai true 55 0 (jg s r5 r6 bd al rest)=some (.d (.agg (mE s r5 r6 bd al rest))):=by
 unfold ai
 simp only[cond_true]
 rw[if_pos (by rw[js];omega)]
 have h1:jg s r5 r6 bd al rest=(mE s r5 r6 bd al rest).map SV.d:=rfl
 rw[List.drop_zero,List.take_of_length_le (by rw[js];omega),h1,Ms]
end
theorem wq.load{s:gI}{x:D}(h:wq s x):aH true 55 (.aX x 0)=some (.d x):=by
 cases h with
 |mk r5 r6 bd al rest h hl ha=>exact EL _ 55 (by simp[mE,h])
def jM(k:Int):Int:=if k==1 then 1 else if k==2 then 2 else if k==3 then 3 else if k==5 then 4 else if k==8 then 5 else if k==9 then 6 else if k==10 then 7 else if k==11 then 8 else 0
theorem adv{s:gI}{x:D}(hs:wq s x):aF Try.prog gl 95 [.d x] (.d (.int .i64 (jM s.kind))):=by
 cases hs with
 |mk r5 r6 bd al rest h hl ha=>
  refine a8 (alC ..) fun br=>?_
  simp only[sS,sT,kR,js,h,lE]
  unfold jM
  refine And.intro (fun h=>by rw[if_pos h]) (fun h=>?_)
  rw[if_neg (by rw[h];simp)]
  refine And.intro (fun h=>by rw[if_pos h]) (fun h=>?_)
  rw[if_neg (by rw[h];simp)]
  refine And.intro (fun h=>by rw[if_pos h]) (fun h=>?_)
  rw[if_neg (by rw[h];simp)]
  refine And.intro (fun h=>by rw[if_pos h]) (fun h=>?_)
  rw[if_neg (by rw[h];simp)]
  refine And.intro (fun h=>by rw[if_pos h]) (fun h=>?_)
  rw[if_neg (by rw[h];simp)]
  refine And.intro (fun h=>by rw[if_pos h]) (fun h=>?_)
  rw[if_neg (by rw[h];simp)]
  refine And.intro (fun h=>by rw[if_pos h]) (fun h=>?_)
  rw[if_neg (by rw[h];simp)]
  refine And.intro (fun h=>by rw[if_pos h]) (fun h=>?_)
  rw[if_neg (by rw[h];simp)]
theorem dG(x:D):aT [(0,.v (.d x))]=some [(0,x)]:=rfl
theorem lF(x y z:D)(i j k:Nat):aT [(i,.v (.d x)),(j,.v (.d y)),(k,.v (.d z))]=some [(i,x),(j,y),(k,z)]:=rfl
theorem CO(x y z u:D)(i j k l:Nat):aT [(i,.v (.d x)),(j,.v (.d y)),(k,.v (.d z)),(l,.v (.d u))]=some [(i,x),(j,y),(k,z),(l,u)]:=rfl
theorem EM(x y z u v:D)(i j k l m:Nat):aT [(i,.v (.d x)),(j,.v (.d y)),(k,.v (.d z)),(l,.v (.d u)),(m,.v (.d v))]=some [(i,x),(j,y),(k,z),(l,u),(m,v)]:=rfl
theorem kp(z x:D):bF z [(0,x)] 1 0=[x]:=rfl
theorem lK(s:aq):bz 6 1 [(0,s.enc)]=true:=rfl
theorem mI(k:Int)(n:List UInt8)(l c:Int):dF Try.prog 87 [(0,.int .i64 k),(1,.str n),(4,.agg [.int .i64 l,.int .i64 c])]=some (aq.enc ⟨k,n,false,[],l,c⟩):=by kernel_rfl
theorem EB(k:Int)(n:List UInt8)(l c:Int):dF Try.prog 87 [(0,.int .i64 k),(1,.str n),(2,.bool true),(4,.agg [.int .i64 l,.int .i64 c])]=some (aq.enc ⟨k,n,true,[],l,c⟩):=by kernel_rfl
theorem xy(sz:Nat)(L:List D):aE (.d (bB sz L))=some [.d (bB sz L)]:=by cases L<;>rfl
theorem j2(x:SV):[x].length =1:=rfl
theorem ahZ(k:Int)(n:List UInt8)(p:D)(hp:p.cells=[p])(l c:Int):vX (fun i=>[(0,1),(1,1),(2,1),(3,1),(4,2)][i]?) [.int .i64 0,.str [],.bool false,.sl .nil 0 [],.int .i64 0,.int .i64 0] [(0,.int .i64 k),(1,.str n),(2,.bool true),(3,p),(4,.agg [.int .i64 l,.int .i64 c])]
  =some [.int .i64 k,.str n,.bool true,p,.int .i64 l,.int .i64 c]:=by
 have h1:∀(k:IntKind)(n:Int),(D.int k n).cells =[.int k n]:=fun _ _=>rfl
 have h2:∀(s:List UInt8),(D.str s).cells =[.str s]:=fun _=>rfl
 have h3:∀(b:Bool),(D.bool b).cells =[.bool b]:=fun _=>rfl
 have h4:∀(l:List D),(D.agg l).cells =l:=fun _=>rfl
 simp[vX,h1,h2,h3,h4,hp]
theorem agD(ps:List (Nat×D)):dF Try.prog 87 ps=(match vX (fun i=>[(0,1),(1,1),(2,1),(3,1),(4,2)][i]?) [.int .i64 0,.str [],.bool false,.sl .nil 0 [],.int .i64 0,.int .i64 0] ps with|some cs=>some (.agg cs)|none=>none):=by kernel_rfl
theorem EC(k:Int)(n:List UInt8)(p:List (List UInt8))(l c:Int):dF Try.prog 87 [(0,.int .i64 k),(1,.str n),(2,.bool true),(3,bB 1 (cA p)),(4,.agg [.int .i64 l,.int .i64 c])]=some (aq.enc ⟨k,n,true,p,l,c⟩):=by
 rw[agD,ahZ _ _ _ (ajF _ _)];rfl
theorem set_perm(k:Int)(n:List UInt8)(b:Bool)(l c:Int)(p:List (List UInt8)):setAt (aq.cells ⟨k,n,b,[],l,c⟩) 3 [.d (bB 1 (cA p))]=aq.cells ⟨k,n,b,p,l,c⟩:=rfl
def cG(s:gI):List aq:=
 if jM s.kind != 0 then
  ⟨jM s.kind,s.name,false,if jM s.kind==1 then dedup s.list else [],s.line,s.gH⟩::(if jM s.kind==2 then s.jT.map fun a=>⟨jM s.kind,a,false,[],s.line,s.gH⟩else [])
 else if s.kind==19&&s.op==1 then [⟨s.op,s.name,true,dedup s.list,s.line,s.gH⟩]
 else if s.kind==19&&decide (s.op>1)&&decide (s.op≤8)then s.list.map fun a=>⟨s.op,a,true,[],s.line,s.gH⟩
 else []
theorem CP(l:List aq)(s:aq):aM l++[s.enc]=aM (l++[s]):=by simp[aM]
theorem afv(sz:Nat)(L M:List D):(kC sz L M).aA =true:=by unfold kC;split<;>rfl
theorem afw(sz:Nat)(L M:List D):vY (kC sz L M)=false:=by unfold kC;split<;>rfl
theorem Wk{α β:Type}(f:α→β){l:List α}{i:Nat}{x:α}(h:l[i]? =some x):(l.take (i+1)).map f=(l.take i).map f++[f x]:=by rw[dT h];simp
set_option maxRecDepth 4000 in
theorem adF{s:gI}{x:D}(hs:wq s x)(hl:s.list.length≤2^30)(ha:s.jT.length≤2^30):∃r,(jn 6 (aM (cG s)) (aa r)∧vY r=false)∧aF Try.prog gl 83 [.d x] r:=by
 refine K0 bw a7 ⟨aO 6 (aM (cG s)),by rw[ej];exact(cm 6 _).sv,jX _ _⟩ (h:=h83) ?_
 rw[alA];intro br
 have mr:=hs
 cases hs with
 |mk r5 r6 bd al rest h jQ oL=>
  simp only[sS,sT,sZ,kR,js,lE,mJ,mN,mK,mL,mM,dG,kp,h,oS _ _ _ _ _ _ h]
  refine eD (adv mr) ?_
  simp only[sS,sT,dG,lF,kp,lK,mI,gC,gn,fX,iK]
  unfold cG
  refine And.intro (fun hk=>?_) (fun hk=>?_)
  ·rw[if_pos (by simpa using hk)]
   refine And.intro (fun h1=>?_) (fun h1=>?_)
   ·have wF:jM s.kind=1:=by simpa using h1
    refine bH (Pm s.list jQ (by omega)) (jX _ _) ?_
    simp only[sS,sT,dG,kp,lK,xy,j2,set_perm,fX,ej,wF]
    refine⟨by decide,?_⟩
    refine And.intro (fun h2=>absurd h2 (by decide)) (fun _=>?_)
    exact⟨rfl,.full,rfl⟩
   ·have wF:(jM s.kind==1)=false:=h1
    simp only[wF,Bool.false_eq_true,if_false]
    refine And.intro (fun h2=>?_) (fun h2=>?_)
    ·simp only[h2,if_true]
     simp only[oL.len,iu,sS,agB]
     have ud:jM s.kind=2:=by simpa using h2
     rw[ud]
     refine eX (fun i=>[.d (.int .i64 2),kC 6 [aq.enc ⟨2,s.name,false,[],s.line,s.gH⟩] (aM ((s.jT.take i).map fun a=>⟨2,a,false,[],s.line,s.gH⟩)),.d al,.d (.int .i64 (s.jT.length:Int)),.d (.int .i64 ((i:Nat):Int))])
      (fun i=>[jg s r5 r6 bd al rest,aq.cells ⟨2,s.name,false,[],s.line,s.gH⟩]) s.jT.length (fun i hi I hI=>?_) (fun I=>?_)
     ·simp only[sS,sT]
      refine And.intro (fun _=>?_) (fun h=>absurd h (by simp;omega))
      obtain⟨t,ht⟩:=get_some hi
      simp only[oL.at (xL ht),sS,sT,mN,lF,lK,mI,Bn]
      refine ahW (rK 6 _) (by simp only[eG,List.length_map,List.length_take,List.length_singleton];omega) ?_
      refine aS (bf hi (by simp only[maxLen];omega)) ?_
      rw[CP,←Wk (fun a=>(⟨2,a,false,[],s.line,s.gH⟩:aq)) ht]
      exact hI
     ·simp only[sS,sT]
      refine And.intro (fun h=>absurd h (by simp)) (fun _=>?_)
      refine⟨afv _ _ _,?_,afw _ _ _⟩
      have:=ajx 6 [aq.enc ⟨2,s.name,false,[],s.line,s.gH⟩] (aM ((s.jT.take s.jT.length).map fun a=>⟨2,a,false,[],s.line,s.gH⟩))
      rw[List.take_length]at this
      rw[List.take_length]
      exact this
    ·simp only[h2,Bool.false_eq_true,if_false]
     exact⟨rfl,.full,rfl⟩
  ·rw[if_neg (by simpa using hk)]
   have leaf:∀b:Bool,b=false→(if b=true then([⟨s.op,s.name,true,dedup s.list,s.line,s.gH⟩]:List aq)else [])=[]:=fun b h=>by rw[h];rfl
   refine And.intro (fun h1=>?_) (fun h1=>?_)
   ·refine And.intro (fun h2=>?_) (fun h2=>?_)
    ·rw[if_pos (by rw[h1,h2];rfl)]
     refine bH (Pm s.list jQ (by omega)) (jX _ _) ?_
     simp only[sS,sT,EM,lK,EC,ej]
     exact⟨rfl,.full,rfl⟩
    ·rw[if_neg (by rw[h2];simp)]
     simp only[h1,Bool.true_and]
     refine And.intro (fun _=>?_) (fun h=>absurd h (by simp))
     refine And.intro (fun h3=>?_) (fun h3=>?_)
     ·simp only[h3,Bool.true_and]
      refine And.intro (fun h4=>?_) (fun h4=>?_)
      ·rw[if_pos h4]
       simp only[jQ.len,iu,sS,ahV 6]
       refine eX (fun i=>[aO 6 (aM ((s.list.take i).map fun a=>⟨s.op,a,true,[],s.line,s.gH⟩)),.d bd,.d (.int .i64 (s.list.length:Int)),.d (.int .i64 ((i:Nat):Int))])
        (fun i=>[jg s r5 r6 bd al rest]) s.list.length (fun i hi I hI=>?_) (fun I=>?_)
       ·simp only[sS,sT]
        refine And.intro (fun _=>?_) (fun h=>absurd h (by simp;omega))
        obtain⟨t,ht⟩:=get_some hi
        simp only[jQ.at (xL ht),sS,sT,mJ,mN,CO,lK,EB,Bn]
        refine gB (rK 6 _) (by simp only[eG,List.length_map,List.length_take,List.length_singleton];omega) ?_
        refine aS (bf hi (by simp only[maxLen];omega)) ?_
        rw[CP,←Wk (fun a=>(⟨s.op,a,true,[],s.line,s.gH⟩:aq)) ht]
        exact hI
       ·simp only[sS,sT]
        refine And.intro (fun h=>absurd h (by simp)) (fun _=>?_)
        refine⟨jY _ _,?_,jX _ _⟩
        rw[List.take_length,ej]
        exact(cm 6 _).sv
      ·rw[if_neg (by rw[h4];simp)]
       first|exact⟨rfl,.nil 0 rfl,rfl⟩|exact⟨.nil 0 rfl,rfl⟩
     ·simp only[h3,Bool.false_and,Bool.false_eq_true,if_false]
      first|exact⟨rfl,.nil 0 rfl,rfl⟩|exact⟨.nil 0 rfl,rfl⟩
   ·simp only[h1,Bool.false_and,Bool.false_eq_true,if_false]
    refine And.intro (fun h=>absurd h (by simp)) (fun _=>?_)
    first|exact⟨rfl,.nil 0 rfl,rfl⟩|exact⟨.nil 0 rfl,rfl⟩
def qA(x:aq):Bool→List aq→Int
 |tw,[]=>if tw then 12 else 0
 |tw,y::l=>if Fb y.kind != Fb x.kind then qA x tw l else if !(y.name==x.name)then qA x tw l else if y.kind != x.kind then 13 else qA x (tw||(!x.cV&& !y.cV)) l
def qB(l:List aq)(x:aq):Int:=qA x (!x.cV&&wo x.kind x.name) l
theorem zi{α:Type}{l:List α}{i:Nat}{x:α}(h:l[i]? =some x):l.drop i=x::l.drop (i+1):=by
 have hi:=(List.getElem?_eq_some_iff.1 h).1
 rw[List.drop_eq_getElem_cons hi,(List.getElem?_eq_some_iff.1 h).2]
set_option maxRecDepth 4000 in
theorem aey(l:List aq)(x:aq){y:D}(hy:aL 6 (aM l) y)(hl:l.length≤maxLen):aF Try.prog gl 68 [.d y,.d x.enc] (.d (.int .i64 (qB l x))):=by
 refine a8 (alx ..) fun br=>?_
 simp only[sS,sT,sZ,gC,gn,iI,iv,ic]
 have loop:∀tw:Bool,qA x tw l=qB l x→∀{F:List SV→List (List SV)→(List SV→List (List SV)→Prop)→Prop},(∀i tw,i<l.length→qA x tw (l.drop i)=qB l x→∀I:List SV→List (List SV)→Prop,(∀J9,qA x J9 (l.drop (i+1))=qB l x→I [.d (.bool J9),.d y,.d (.int .i64 (l.length:Int)),.d (.int .i64 ((i+1:Nat):Int))] [x.cells])→F [.d (.bool tw),.d y,.d (.int .i64 (l.length:Int)),.d (.int .i64 ((i:Nat):Int))] [x.cells] I)→
   (∀tw,qA x tw []=qB l x→∀I,F [.d (.bool tw),.d y,.d (.int .i64 (l.length:Int)),.d (.int .i64 (l.length:Int))] [x.cells] I)→bZ F [.d (.bool tw),.d y,.d (.int .i64 (l.length:Int)),.d (.int .i64 0)] [x.cells]:=by
  intro tw Ka F hs he
  exact xG (fun i tw=>qA x tw (l.drop i)=qB l x) (fun i tw=>[.d (.bool tw),.d y,.d (.int .i64 (l.length:Int)),.d (.int .i64 ((i:Nat):Int))]) (fun i _=>[x.cells]) l.length tw Ka (fun i tw hi hJ I hI=>hs i tw hi hJ I hI) (fun tw hJ I=>he tw (by rw[List.drop_length]at hJ;exact hJ) I)
 refine And.intro (fun h1=>?_) (fun h1=>?_)
 ·refine eD (Pp _ _) ?_
  simp only[sS,hy.len,eG]
  refine loop _ (by rw[qB,h1,Bool.true_and]) (fun i tw hi hJ I hI=>?_) (fun tw hJ I=>?_)
  ·simp only[sS,sT]
   refine And.intro (fun _=>?_) (fun h=>absurd h (by simp;omega))
   obtain⟨z,hz⟩:=get_some hi
   rw[zi hz,qA]at hJ
   simp only[hy.at (mP hz),sS,sT,rS,gC,gn,iK,iv,ic,iI,LR]
   refine eD (KM _) ?_
   simp only[sS]
   refine eD (KM _) ?_
   simp only[sS]
   refine And.intro (fun ha=>?_) (fun ha=>?_)
   ·rw[if_pos ha]at hJ
    refine aS (bf hi hl) ?_
    exact hI tw hJ
   ·rw[if_neg (by rw[ha];simp)]at hJ
    refine And.intro (fun hb=>?_) (fun hb=>?_)
    ·rw[if_pos hb]at hJ
     refine aS (bf hi hl) ?_
     exact hI tw hJ
    ·rw[if_neg (by rw[hb];simp)]at hJ
     refine And.intro (fun hc=>?_) (fun hc=>?_)
     ·rw[if_pos hc]at hJ
      rw[←hJ]
     ·rw[if_neg (by rw[hc];simp)]at hJ
      refine And.intro (fun ht=>?_) (fun ht=>?_)
      ·rw[ht,Bool.true_or]at hJ
       refine aS (bf hi hl) ?_
       exact hI true hJ
      ·rw[ht,Bool.false_or]at hJ
       refine And.intro (fun hx=>?_) (fun hx=>?_)
       ·rw[hx,Bool.true_and]at hJ
        refine aS (bf hi hl) ?_
        exact hI _ hJ
       ·rw[hx,Bool.false_and]at hJ
        refine aS (bf hi hl) ?_
        exact hI false hJ
  ·simp only[sS,sT]
   refine And.intro (fun h=>absurd h (by simp)) (fun _=>?_)
   rw[qA]at hJ
   refine And.intro (fun ht=>?_) (fun ht=>?_)
   ·rw[if_pos ht]at hJ
    rw[←hJ]
   ·rw[if_neg (by rw[ht];simp)]at hJ
    rw[←hJ]
 ·simp only[sS,hy.len,eG]
  refine loop _ (by rw[qB,h1,Bool.false_and]) (fun i tw hi hJ I hI=>?_) (fun tw hJ I=>?_)
  ·simp only[sS,sT]
   refine And.intro (fun _=>?_) (fun h=>absurd h (by simp;omega))
   obtain⟨z,hz⟩:=get_some hi
   rw[zi hz,qA]at hJ
   simp only[hy.at (mP hz),sS,sT,rS,gC,gn,iK,iv,ic,iI,LR]
   refine eD (KM _) ?_
   simp only[sS]
   refine eD (KM _) ?_
   simp only[sS]
   refine And.intro (fun ha=>?_) (fun ha=>?_)
   ·rw[if_pos ha]at hJ
    refine aS (bf hi hl) ?_
    exact hI tw hJ
   ·rw[if_neg (by rw[ha];simp)]at hJ
    refine And.intro (fun hb=>?_) (fun hb=>?_)
    ·rw[if_pos hb]at hJ
     refine aS (bf hi hl) ?_
     exact hI tw hJ
    ·rw[if_neg (by rw[hb];simp)]at hJ
     refine And.intro (fun hc=>?_) (fun hc=>?_)
     ·rw[if_pos hc]at hJ
      rw[←hJ]
     ·rw[if_neg (by rw[hc];simp)]at hJ
      refine And.intro (fun ht=>?_) (fun ht=>?_)
      ·rw[ht,Bool.true_or]at hJ
       refine aS (bf hi hl) ?_
       exact hI true hJ
      ·rw[ht,Bool.false_or]at hJ
       refine And.intro (fun hx=>?_) (fun hx=>?_)
       ·rw[hx,Bool.true_and]at hJ
        refine aS (bf hi hl) ?_
        exact hI _ hJ
       ·rw[hx,Bool.false_and]at hJ
        refine aS (bf hi hl) ?_
        exact hI false hJ
  ·simp only[sS,sT]
   refine And.intro (fun h=>absurd h (by simp)) (fun _=>?_)
   rw[qA]at hJ
   refine And.intro (fun ht=>?_) (fun ht=>?_)
   ·rw[if_pos ht]at hJ
    rw[←hJ]
   ·rw[if_neg (by rw[ht];simp)]at hJ
    rw[←hJ]
set_option maxRecDepth 100000
def jy:Hints:=⟨[],[],[]⟩
noncomputable def FQ:Code:=Try.f82.body.getD .skip
def sA:Code→Code| .seq a _=>a|c=>c
def sB:Code→Code| .seq _ b=>b|c=>c
def bk:Code→Code| .block _ b=>b| .loop b=>b|c=>c
def apB:Code→Array Oper| .region _ ops _=>ops|_=> #[]
def dfO:Oper:={dst:=none,op:=.move (.tmp 0),type:=0,pos:= "",after:= #[],guard:=none}
noncomputable def cO:Code:=bk (bk (sB FQ))
noncomputable def D8:Code:=bk (sA (sB (sB cO)))
noncomputable def cI:Code:=bk (bk (sB (sB D8)))
noncomputable def Kb:Code:=bk (sA (sB (sB cI)))
noncomputable def u2:Array Oper:=apB (sA (sB Kb))
noncomputable def o6(i:Nat):Oper:=u2.toList.getD i dfO
def Gx(yl:Nat)(x:D)(xs:D)(m i:SV):List Slot:=[.v (.d (.fn (.yield yl))),.v (.aX x 0),.v .undef,.v .undef,.v .undef,.v .undef,.v .undef,.v (.d xs),.v m,.v i]++List.replicate 16 (.v .undef)
def shP(yl:Nat)(x:D)(xs:D)(m i u v:SV):List Slot:=[.v (.d (.fn (.yield yl))),.v (.aX x 0),.v .undef,.v .undef,.p 0 0,.v .undef,.v .undef,.v (.d xs),.v m,.v i,.v .undef,.v u,.v v]++List.replicate 13 (.v .undef)
def D9(yl:Nat)(x:D)(xs:D)(m i:SV)(ys:SV)(k j:SV):List Slot:=[.v (.d (.fn (.yield yl))),.v (.aX x 0),.v .undef,.v .undef,.v .undef,.v .undef,.v .undef,.v (.d xs),.v m,.v i,.v .undef,.v .undef,.v .undef,.v .undef,.v ys,.v k,.v j]++List.replicate 9 (.v .undef)
def OC(yl:Nat)(x:D)(xs:D)(m i:SV)(ys:SV)(k j u v t20 t21 t22:SV):List Slot:=[.v (.d (.fn (.yield yl))),.v (.aX x 0),.v .undef,.v .undef,.v .undef,.v .undef,.p 0 0,.v (.d xs),.v m,.v i,.v .undef,.v .undef,.v .undef,.v .undef,.v ys,.v k,.v j,.v .undef,.v u,.v v,.v t20,.v t21,.v t22,.v .undef,.v .undef,.v .undef]
set_option maxHeartbeats 1000000 in
theorem pi0(C:bu)(yl:Nat)(x:D)(Q:Ex→Env→Prop):aw Try.prog gl C jy (sA FQ) Q (enter 26 [.d (.fn (.yield yl)),.aX x 0])=(
 ab (aH false 1 (.aX x 0)) fun r0=>
 ab (ba (aa r0)) fun r1=>
 (Q Ex.normal (Env.mk [.v (.d (.fn (.yield yl))),.v (.aX x 0),c8,c8,c8,c8,c8,.v r0,.v r1,.v a9,c8,c8,c8,c8,c8,c8,c8,c8,c8,c8,c8,c8,c8,c8,c8,c8] []))):=by kernel_rfl
set_option maxHeartbeats 1000000 in
theorem pi1(C:bu)(yl:Nat)(x xs:D)(m i:SV)(Q:Ex→Env→Prop):aw Try.prog gl C jy (sA cO) Q ⟨Gx yl x xs m i,[]⟩=(
 ab (aj none .lss (aa i) (aa m)) fun r0=>
 (Q Ex.normal (Env.mk [.v (.d (.fn (.yield yl))),.v (.aX x 0),c8,c8,c8,c8,c8,.v (.d xs),.v m,.v i,.v r0,c8,c8,c8,c8,c8,c8,c8,c8,c8,c8,c8,c8,c8,c8,c8] []))):=by kernel_rfl
set_option maxHeartbeats 1000000 in
theorem pi2(C:bu)(yl:Nat)(x xs:D)(m i:SV)(Q:Ex→Env→Prop):aw Try.prog gl C jy (sA D8) Q ⟨Gx yl x xs m i,[]⟩=(
 ab (aJ 55 (.d xs) (aa i)) fun r0=>
 ab (aH true 55 (aa r0)) fun r1=>
 ab (aE (aa r1)) fun r2=>
 r2.length=55∧
 55≤55∧
 (Q Ex.normal (Env.mk [.v (.d (.fn (.yield yl))),.v (.aX x 0),c8,c8,.p (0+0) 0,c8,c8,.v (.d xs),.v m,.v i,c8,.v r0,.v r1,c8,c8,c8,c8,c8,c8,c8,c8,c8,c8,c8,c8,c8] [af.cells (setAt [a9,a9,a9,a9,c6,c6,c6,c7,c7,ca,ca,ca,c7,c7,ca,ca,ca,c7,c7,ca,ca,ca,c7,c7,ca,ca,ca,c7,c7,a9,a9,a9,a9,c7,.d (.int .u64 0),.d (.int .u64 0),.d (.int .u64 0),.d (.int .u64 0),c7,c6,c7,c6,c7,c6,c7,c6,c6,c6,c6,c7,c6,c7,ca,c7,c7] 0 r2)]))):=by kernel_rfl
set_option maxHeartbeats 1000000 in
theorem pi3(C:bu)(yl:Nat)(x xs:D)(m i u v:SV)(cs:List SV)(Q:Ex→Env→Prop):aw Try.prog gl C jy (sA (sB D8)) Q ⟨shP yl x xs m i u v,[.cells cs]⟩=(
 ab (ai true 55 0 cs) fun r0=>
 aU C 83 [aa (aa (aa r0))] fun r1=>
 ab (ba (aa r1)) fun r2=>
 (Q Ex.normal (Env.mk [.v (.d (.fn (.yield yl))),.v (.aX x 0),c8,c8,.p 0 0,c8,c8,.v (.d xs),.v m,.v i,c8,.v u,.v v,.v (aa r0),.v r1,.v r2,.v a9,c8,c8,c8,c8,c8,c8,c8,c8,c8] [af.cells cs]))):=by kernel_rfl
set_option maxHeartbeats 1000000 in
theorem pi4(C:bu)(yl:Nat)(x xs:D)(m i:SV)(ys:SV)(k j:SV)(Q:Ex→Env→Prop):aw Try.prog gl C jy (sA cI) Q ⟨D9 yl x xs m i ys k j,[]⟩=(
 ab (aj none .lss (aa j) (aa k)) fun r0=>
 (Q Ex.normal (Env.mk [.v (.d (.fn (.yield yl))),.v (.aX x 0),c8,c8,c8,c8,c8,.v (.d xs),.v m,.v i,c8,c8,c8,c8,.v ys,.v k,.v j,.v r0,c8,c8,c8,c8,c8,c8,c8,c8] []))):=by kernel_rfl
set_option maxHeartbeats 1000000 in
theorem pi5(C:bu)(yl:Nat)(x xs:D)(m i:SV)(ys:SV)(k j:SV)(Q:Ex→Env→Prop):aw Try.prog gl C jy (sA Kb) Q ⟨D9 yl x xs m i ys k j,[]⟩=(
 ab (aJ 6 (aa ys) (aa j)) fun r0=>
 ab (aH true 6 (aa r0)) fun r1=>
 ab (aE (aa r1)) fun r2=>
 r2.length=6∧
 6≤6∧
 (Q Ex.normal (Env.mk [.v (.d (.fn (.yield yl))),.v (.aX x 0),c8,c8,c8,c8,.p (0+0) 0,.v (.d xs),.v m,.v i,c8,c8,c8,c8,.v ys,.v k,.v j,c8,.v r0,.v r1,c8,c8,c8,c8,c8,c8] [af.cells (setAt [a9,c6,ca,c7,a9,a9] 0 r2)]))):=by kernel_rfl
set_option maxHeartbeats 1000000 in
theorem apC(C:bu)(yl:Nat)(x xs:D)(m i:SV)(ys:SV)(k j u v:SV)(cs:List SV)(Q:Env→Prop):pO Try.prog gl C u2.toList 0 false (o6 0) ⟨OC yl x xs m i ys k j u v .undef .undef .undef,[.cells cs]⟩ Q=(
 (Q (Env.mk [.v (.d (.fn (.yield yl))),.v (.aX x 0),c8,c8,c8,c8,.p 0 0,.v (.d xs),.v m,.v i,c8,c8,c8,c8,.v ys,.v k,.v j,c8,.v u,.v v,.v (.d (.fn (.yield yl))),c8,c8,c8,c8,c8] [af.cells cs]))):=by kernel_rfl
set_option maxHeartbeats 1000000 in
theorem apD(C:bu)(yl:Nat)(x xs:D)(m i:SV)(ys:SV)(k j u v t20:SV)(cs:List SV)(Q:Env→Prop):pO Try.prog gl C u2.toList 0 false (o6 1) ⟨OC yl x xs m i ys k j u v t20 .undef .undef,[.cells cs]⟩ Q=(
 ab (ai true 6 0 cs) fun r0=>
 (Q (Env.mk [.v (.d (.fn (.yield yl))),.v (.aX x 0),c8,c8,c8,c8,.p 0 0,.v (.d xs),.v m,.v i,c8,c8,c8,c8,.v ys,.v k,.v j,c8,.v u,.v v,.v t20,.v (aa r0),c8,c8,c8,c8] [af.cells cs]))):=by kernel_rfl
set_option maxHeartbeats 1000000 in
theorem acG(C:bu)(yl:Nat)(x xs:D)(m i:SV)(ys:SV)(k j u v t20 t21:SV)(b:Bool)(cs:List SV)(Q:Env→Prop):pO Try.prog gl C u2.toList 0 false (o6 3) ⟨OC yl x xs m i ys k j u v t20 t21 (.d (.bool b)),[.cells cs]⟩ Q=(
 ab (eP .not (.d (.bool b))) fun r0=>
 (Q (Env.mk [.v (.d (.fn (.yield yl))),.v (.aX x 0),c8,c8,c8,c8,.p 0 0,.v (.d xs),.v m,.v i,c8,c8,c8,c8,.v ys,.v k,.v j,c8,.v u,.v v,.v t20,.v t21,.v (.d (.bool b)),.v r0,c8,c8] [af.cells cs]))):=by kernel_rfl
set_option maxHeartbeats 1000000 in
theorem pi7(C:bu)(yl:Nat)(x xs:D)(m i:SV)(ys:SV)(k j:SV)(Q:Ex→Env→Prop):aw Try.prog gl C jy (sB (sB (sB cI))) Q ⟨D9 yl x xs m i ys k j,[]⟩=(
 ab (aj none .add (aa j) bo) fun r0=>
 (Q Ex.normal (Env.mk [.v (.d (.fn (.yield yl))),.v (.aX x 0),c8,c8,c8,c8,c8,.v (.d xs),.v m,.v i,c8,c8,c8,c8,.v ys,.v k,.v (aa r0),c8,c8,c8,c8,c8,c8,c8,.v r0,c8] []))):=by kernel_rfl
set_option maxHeartbeats 1000000 in
theorem pi8(C:bu)(yl:Nat)(x xs:D)(m i:SV)(Q:Ex→Env→Prop):aw Try.prog gl C jy (sB (sB (sB cO))) Q ⟨Gx yl x xs m i,[]⟩=(
 ab (aj none .add (aa i) bo) fun r0=>
 (Q Ex.normal (Env.mk [.v (.d (.fn (.yield yl))),.v (.aX x 0),c8,c8,c8,c8,c8,.v (.d xs),.v m,.v (aa r0),c8,c8,c8,c8,c8,c8,c8,c8,c8,c8,c8,c8,c8,c8,c8,.v r0] []))):=by kernel_rfl
set_option maxRecDepth 4000
theorem ajG:FQ=.seq (sA FQ) (.block 0 (.loop cO)):=by kernel_rfl
theorem anP:cO=.seq (sA cO) (.seq (.cond (.tmp 10) .skip (.exit 0)) (.seq (.block 1 D8) (sB (sB (sB cO))))):=by kernel_rfl
theorem al6:D8=.seq (sA D8) (.seq (sA (sB D8)) (.block 2 (.loop cI))):=by kernel_rfl
theorem anQ:cI=.seq (sA cI) (.seq (.cond (.tmp 17) .skip (.exit 2)) (.seq (.block 3 Kb) (sB (sB (sB cI))))):=by kernel_rfl
theorem al7:Kb=.seq (sA Kb) (.seq (.region 6 u2 false) (.cond (.tmp 23) .ret .skip)):=by kernel_rfl
theorem agE:u2.size=4:=by kernel_rfl
theorem apE:u2[0]? =some (o6 0):=by kernel_rfl
theorem apF:u2[1]? =some (o6 1):=by kernel_rfl
theorem apG:u2[2]? =some (o6 2):=by kernel_rfl
theorem acH:u2[3]? =some (o6 3):=by kernel_rfl
theorem anR:(o6 2).guard =none:=by kernel_rfl
theorem anS:(o6 2).dst =some 22:=by kernel_rfl
theorem anT:(o6 2).op =.call {callee:=.value (.tmp 20),args:= #[.tmp 21],argTypes:= #[87]}:=by kernel_rfl
theorem agF(yl:Nat)(x xs m i k j z:D)(ys:SV)(tY:ys.sF=true)(yN:ys.aA=true)(cs:List SV)(h1:SV.tN cs=true)(h2:SV.iZ cs=true):Mq ⟨OC yl x xs (.d m) (.d i) ys (.d k) (.d j) (.aX z 0) (.d z) (.d (.fn (.yield yl))) (.d z) .undef,[.cells cs]⟩:=by
 refine⟨?_,?_⟩
 ·show ∀s∈[_,_,_,_,_,_,_,_,_,_,_,_,_,_,_,_,_,_,_,_,_,_,_,_,_,_],Plain s
  repeat (refine List.forall_mem_cons.2 ⟨?_,?_⟩;·first|exact .v _ rfl rfl|exact .p _ _|exact .v _ tY yN)
  intro s hs;cases hs
 ·intro bx hb
  rw[List.mem_singleton.1 hb]
  exact⟨h1,h2⟩
theorem Za(s:aq):SV.tN s.cells=true∧SV.iZ s.cells=true:=⟨rfl,rfl⟩
section
variable{x xs m i:D}{ys:SV}
theorem ah0(C:wS Try.prog gl)(pre ss rest:List aq)(hL:C.L=aM (pre++ss++rest))(hy:jn 6 (aM ss) ys)(hn:ss.length≤maxLen){e:Env}(hw:BJ (D9 C.l x xs (.d m) (.d i) ys (.d (.int .i64 (ss.length:Int))) (.d (.int .i64 ((0:Nat):Int)))) e.ak):
  IW C 0 (.loop cI) (fun ex e' log q=>(ex=.exit 2∧q=none∧log=aM (pre++ss)∧BJ (Gx C.l x xs (.d m) (.d i)) e'.ak)∨(ex=.ret ∧q=some ())) e (aM pre) none:=by
 refine IW.loop (fun k e log q=>∃j,k+j=ss.length∧q=none∧log=aM (pre++ss.take j)∧BJ (D9 C.l x xs (.d m) (.d i) ys (.d (.int .i64 (ss.length:Int))) (.d (.int .i64 ((j:Nat):Int)))) e.ak) ?_ ss.length e _ _ ⟨0,by omega,rfl,by simp,hw⟩
 rintro k e log q ⟨j,hk,rfl,rfl,hw⟩
 rw[anQ]
 refine IW.Ft hw ?_
 refine IW.seq (IW.aw (hh:=jy) bw ?_)
 rw[pi4]
 simp only[sS]
 refine IW.seq (IW.cond (b:=decide ((j:Int)<(ss.length:Int))) rfl ?_)
 by_cases hj:j<ss.length
 ·rw[if_pos (by simpa using hj)]
  refine IW.aw (hh:=jy) bw ?_
  show IW C 0 _ _ _ _ _
  refine IW.seq (IW.block ?_)
  refine IW.Ft (sh:=D9 C.l x xs (.d m) (.d i) ys (.d (.int .i64 (ss.length:Int))) (.d (.int .i64 ((j:Nat):Int)))) (by((repeat (refine And.intro ?_ ?_;·first|exact .inl rfl|exact .inr ⟨_,rfl,rfl⟩|exact .inr ⟨_,rfl,congrArg Slot.v (jn.nT (by assumption)).symm⟩));exact trivial)) ?_
  rw[al7]
  refine IW.seq (IW.aw (hh:=jy) bw ?_)
  rw[pi5]
  have hyp:ys.sF=true∧ys.aA=true:=by cases hy<;>exact⟨rfl,rfl⟩
  obtain⟨s,hs⟩:=get_some hj
  simp only[hy.nT,hy.at (mP hs),sS,sT,rS,gC,gn,iK]
  refine IW.seq (IW.region ?_)
  rw[agE]
  show OW C 0 u2 _ [0,1,2,3] _ _ _
  refine OW.step (id:=0) (aI:=false) apE ?_
  refine(apC _ C.l x xs (.d m) (.d i) ys (.d (.int .i64 (ss.length:Int))) (.d (.int .i64 ((j:Nat):Int))) (.aX s.enc 0) (.d s.enc) s.cells _).mpr ?_
  refine OW.step (id:=0) (aI:=false) apF ?_
  refine(apD _ C.l x xs (.d m) (.d i) ys (.d (.int .i64 (ss.length:Int))) (.d (.int .i64 ((j:Nat):Int))) (.aX s.enc 0) (.d s.enc) (.d (.fn (.yield C.l))) s.cells _).mpr ?_
  rw[fX]
  show OW C 0 u2 _ [2,3] _ _ _
  have apH:C.L[(aM (pre++ss.take j)).length]? =some s.enc:=by
   rw[hL,eG]
   refine mP ?_
   rw[List.length_append,List.length_take,Nat.min_eq_left (by omega),List.append_assoc,List.getElem?_append_right (by omega)]
   rw[Nat.add_sub_cancel_left,List.getElem?_append_left hj,hs]
  have abU:aM (pre++ss.take j)++[s.enc]=aM (pre++ss.take (j+1)):=by
   rw[dT hs,←List.append_assoc,←CP]
  refine OW.yield apG anR anT rfl rfl anS rfl rfl apH (agF C.l x xs m i _ _ s.enc ys hyp.1 hyp.2 s.cells (Za s).1 (Za s).2) ?_ ?_
  ·refine OW.step (id:=0) (aI:=false) acH ?_
   refine(acG _ C.l x xs (.d m) (.d i) ys (.d (.int .i64 (ss.length:Int))) (.d (.int .i64 ((j:Nat):Int))) (.aX s.enc 0) (.d s.enc) (.d (.fn (.yield C.l))) (.d s.enc) true s.cells _).mpr ?_
   refine OW.nil ?_
   show IW C 0 _ _ _ _ _
   refine IW.cond (b:=false) rfl ?_
   rw[if_neg (by simp)]
   refine IW.aw (hh:=jy) bw ?_
   show IW C 0 _ _ _ _ _
   refine IW.Ft (sh:=D9 C.l x xs (.d m) (.d i) ys (.d (.int .i64 (ss.length:Int))) (.d (.int .i64 ((j:Nat):Int)))) (by((repeat (refine And.intro ?_ ?_;·first|exact .inl rfl|exact .inr ⟨_,rfl,rfl⟩|exact .inr ⟨_,rfl,congrArg Slot.v (jn.nT (by assumption)).symm⟩));exact trivial)) ?_
   refine IW.aw (hh:=jy) bw ?_
   rw[pi7]
   simp only[sS,sT]
   refine aS (bf hj hn) ?_
   refine⟨k-1,by omega,j+1,by omega,?_⟩
   first|exact⟨rfl,abU,by((repeat (refine And.intro ?_ ?_;·first|exact .inl rfl|exact .inr ⟨_,rfl,rfl⟩|exact .inr ⟨_,rfl,congrArg Slot.v (jn.nT (by assumption)).symm⟩));exact trivial)⟩|exact⟨abU,by((repeat (refine And.intro ?_ ?_;·first|exact .inl rfl|exact .inr ⟨_,rfl,rfl⟩|exact .inr ⟨_,rfl,congrArg Slot.v (jn.nT (by assumption)).symm⟩));exact trivial)⟩
  ·refine OW.step (id:=0) (aI:=false) acH ?_
   refine(acG _ C.l x xs (.d m) (.d i) ys (.d (.int .i64 (ss.length:Int))) (.d (.int .i64 ((j:Nat):Int))) (.aX s.enc 0) (.d s.enc) (.d (.fn (.yield C.l))) (.d s.enc) false s.cells _).mpr ?_
   refine OW.nil ?_
   show IW C 0 _ _ _ _ _
   refine IW.cond (b:=true) rfl ?_
   rw[if_pos rfl]
   refine IW.aw (hh:=jy) bw ?_
   first|exact .inr ⟨rfl,rfl⟩|exact .inr rfl
 ·rw[if_neg (by simpa using hj)]
  refine IW.aw (hh:=jy) bw ?_
  have hje:j=ss.length:=by omega
  refine .inl ⟨rfl,rfl,by rw[hje,List.take_length],?_⟩
  ((repeat (refine And.intro ?_ ?_;·first|exact .inl rfl|exact .inr ⟨_,rfl,rfl⟩|exact .inr ⟨_,rfl,congrArg Slot.v (jn.nT (by assumption)).symm⟩));exact trivial)
end
structure Fv(ax:List gI)(L:List D):Prop where
 len:L.length=ax.length
 at_:∀(i:Nat)s,ax[i]? =some s→∃y,L[i]? =some y∧wq s y∧s.list.length≤2^30∧s.jT.length≤2^30∧(cG s).length ≤2^40
theorem XA{cs l:List SV}(h:l.length=cs.length):setAt cs 0 l=l:=by
 rw[Ew l cs 0 (by omega)]
 simp[←h]
theorem PJ{ax:List gI}{i:Nat}{s:gI}(h:ax[i]? =some s):ax.flatMap cG=(ax.take i).flatMap cG++cG s++(ax.drop (i+1)).flatMap cG:=by
 have:=List.take_append_drop i ax
 conv=>lhs;rw[←this,zi h]
 simp[List.flatMap_append,List.append_assoc]
theorem adV(ax:List gI){L:List D}{xs:D}(hx:aL 55 L xs)(hs:Fv ax L)(hn:ax.length≤maxLen):Iter Try.prog gl 82 [.aX xs 0] (aM (ax.flatMap cG)):=by
 refine ajg bw (fn:=Try.f82) (c:=FQ) rfl rfl a7 rfl fun C hL _=>?_
 rw[ajG]
 refine IW.seq (IW.aw (hh:=jy) bw ?_)
 show aw Try.prog gl _ jy (sA FQ) _ (enter 26 _)
 rw[pi0]
 have OD:aH false 1 (.aX xs 0)=some (.d xs):=by cases hx<;>rfl
 simp only[OD,sS,hx.len]
 refine IW.block ?_
 refine IW.mono (Q:=fun ex e' log q=>(ex=.exit 0∧q=none∧log=aM (ax.flatMap cG))∨(ex=.ret ∧q=some ())) ?_ ?_
 rotate_left
 ·rintro ex e l q (⟨rfl,rfl,rfl⟩|⟨rfl,rfl⟩)
  ·exact⟨.inl rfl,fun _=>rfl⟩
  ·exact⟨.inr rfl,fun h=>by cases h⟩
 refine IW.loop (fun k e log q=>∃i,k+i=ax.length∧q=none∧log=aM ((ax.take i).flatMap cG)∧BJ (Gx C.l xs xs (.d (.int .i64 (ax.length:Int))) (.d (.int .i64 ((i:Nat):Int)))) e.ak) ?_ ax.length _ _ _ ⟨0,by omega,rfl,rfl,?_⟩
 rotate_left
 ·rw[←hs.len];((repeat (refine And.intro ?_ ?_;·first|exact .inl rfl|exact .inr ⟨_,rfl,rfl⟩|exact .inr ⟨_,rfl,congrArg Slot.v (jn.nT (by assumption)).symm⟩));exact trivial)
 rintro k e log q ⟨i,hk,rfl,rfl,hw⟩
 rw[anP]
 refine IW.Ft hw ?_
 refine IW.seq (IW.aw (hh:=jy) bw ?_)
 rw[pi1]
 simp only[sS]
 refine IW.seq (IW.cond (b:=decide ((i:Int)<(ax.length:Int))) rfl ?_)
 by_cases hi:i<ax.length
 ·rw[if_pos (by simpa using hi)]
  refine IW.aw (hh:=jy) bw ?_
  show IW C 0 _ _ _ _ _
  refine IW.seq (IW.block ?_)
  refine IW.Ft (sh:=Gx C.l xs xs (.d (.int .i64 (ax.length:Int))) (.d (.int .i64 ((i:Nat):Int)))) (by((repeat (refine And.intro ?_ ?_;·first|exact .inl rfl|exact .inr ⟨_,rfl,rfl⟩|exact .inr ⟨_,rfl,congrArg Slot.v (jn.nT (by assumption)).symm⟩));exact trivial)) ?_
  rw[al6]
  refine IW.seq (IW.aw (hh:=jy) bw ?_)
  rw[pi2]
  obtain⟨s,pB⟩:=get_some hi
  obtain⟨y,hy,bc,g9,jE,Cm⟩:=hs.at_ i s pB
  have wh:=bc
  have OD:=bc.load
  cases bc with
  |mk r5 r6 bd al rest h jQ oL=>
  simp only[hx.at hy,sS,sT,OD,kR,js,h]
  rw[XA (by simp[jg,h])]
  refine IW.seq (IW.aw (hh:=jy) bw ?_)
  refine(pi3 _ C.l xs xs (.d (.int .i64 (ax.length:Int))) (.d (.int .i64 ((i:Nat):Int))) (.aX _ 0) (.d _) (jg s r5 r6 bd al rest) _).mpr ?_
  simp only[oS _ _ _ _ _ _ h,sS]
  obtain⟨r,⟨Gj,hr2⟩,UI⟩:=adF wh g9 jE
  refine bH UI hr2 ?_
  simp only[Gj.len,eG,sS]
  refine IW.block (IW.mono (ah0 (x:=xs) (xs:=xs) (m:=.int .i64 (ax.length:Int)) (i:=.int .i64 ((i:Nat):Int)) C ((ax.take i).flatMap cG) (cG s) ((ax.drop (i+1)).flatMap cG) (by rw[hL,PJ pB]) Gj (by simp only[maxLen];omega) (by((repeat (refine And.intro ?_ ?_;·first|exact .inl rfl|exact .inr ⟨_,rfl,rfl⟩|exact .inr ⟨_,rfl,congrArg Slot.v (jn.nT (by assumption)).symm⟩));exact trivial))) ?_)
  rintro ex e2 l2 q2 (⟨rfl,rfl,rfl,hw2⟩|⟨rfl,rfl⟩)
  ·show IW C 0 _ _ _ _ _
   refine IW.Ft hw2 ?_
   refine IW.aw (hh:=jy) bw ?_
   rw[pi8]
   simp only[sS,sT]
   refine aS (bf hi hn) ?_
   refine⟨k-1,by omega,i+1,by omega,?_⟩
   have pn:aM ((ax.take i).flatMap cG++cG s)=aM ((ax.take (i+1)).flatMap cG):=by rw[dT pB];simp
   first|exact⟨rfl,pn,by((repeat (refine And.intro ?_ ?_;·first|exact .inl rfl|exact .inr ⟨_,rfl,rfl⟩|exact .inr ⟨_,rfl,congrArg Slot.v (jn.nT (by assumption)).symm⟩));exact trivial)⟩|exact⟨pn,by((repeat (refine And.intro ?_ ?_;·first|exact .inl rfl|exact .inr ⟨_,rfl,rfl⟩|exact .inr ⟨_,rfl,congrArg Slot.v (jn.nT (by assumption)).symm⟩));exact trivial)⟩
  ·first|exact .inr ⟨rfl,rfl⟩|exact .inr rfl
 ·rw[if_neg (by simpa using hi)]
  refine IW.aw (hh:=jy) bw ?_
  have Um:i=ax.length:=by omega
  exact .inl ⟨rfl,rfl,by rw[Um,List.take_length]⟩
set_option maxRecDepth 100000
def w4:Hints:=⟨[(8,0),(8,3),(8,4),(20,10),(22,0),(22,3),(22,4)],[(14,[8,44,45,46],[2,3,4,5,9,43])],[(7,[]),(12,[.emp 8]),(13,[.tV 5 []]),(20,[.box 8 6]),(21,[.box 8 6]),(22,[.jP 8 true 6 [96]]),(23,[.jP 8 true 6 [80,82,84,85,92,93]]),(24,[.kF 8])]⟩
noncomputable def Ag:Code:=Try.f50.body.getD .skip
noncomputable def Ti:Code:=Try.f67.body.getD .skip
def OE:Code→Code| .block _ (.rangeFunc _ _ a _)=>a|c=>c
def OF:Code→Code| .block _ (.rangeFunc _ _ _ b)=>b|c=>c
noncomputable def BK:Code:=(iz Ag).getD 4 .skip
def v9:List Slot:=[.v .undef,.v .undef,.p 0 0,.p 1 0,.p 2 0,.p 4 0]++List.replicate 99 (.v .undef)
def MT(al:SV)(m:List (MK×D)):List af:=[.cells [.d (.sl .nil 0 [])],.cells [.d (.int .i64 0),.d (.int .i64 0),.d (.int .i64 0),.d (.str [])],.cells [al],.map m,.one (.m 3)]
set_option maxHeartbeats 1000000 in
theorem al8(f1 f2 f3 f4:D)(al:SV)(m:List (MK×D))(K:SV→Prop):finish Try.prog Try.f50 ⟨v9,[.cells [.d (.sl .nil 0 [])],.cells [.d f1,.d f2,.d f3,.d f4],.cells [al],.map m,.one (.m 3)]⟩ K=(ab (ai false 1 0 [c7]) fun r0=>(SV.aA (aa r0))=true∧ab (ai true 4 0 [.d f1,.d f2,.d f3,.d f4]) fun r1=>(SV.aA (aa r1))=true∧(K (.aK [aa r0,aa r1]))):=by kernel_rfl
set_option maxHeartbeats 1000000 in
theorem al9(C:bu)(x:D)(Q:Ex→Env→Prop):aw Try.prog gl C jy Ti Q (enter 4 [.d x])=(ab (aE (.d x)) fun r0=>r0.length=1∧(Q Ex.ret (Env.mk [.v (.d x),.p (0+0) 0,.c (.func 82) [] [.p (0+0) 0],.c (.func 82) [] [.p (0+0) 0]] [af.cells r0]))):=by kernel_rfl
set_option maxHeartbeats 1000000 in
theorem ama(C:bu)(x0:SV)(Q:Ex→Env→Prop):nq Try.prog gl C w4 ((iz Ag).take 4) Q (enter 105 [x0])=(aU C 67 [aa (aa (aa x0))] fun r0=>(Q Ex.normal (Env.mk ([.v x0,c8,.p (0+0) 0,.p (0+1) 0,.p ((List.length [af.cells [c7],af.cells [a9,a9,a9,c6]])+0) 0,.p ((List.length [af.cells [c7],af.cells [a9,a9,a9,c6],af.cells [c7]])+1) 0,c8,c8,c8,c8,c8,c8,c8,c8,c8,.m ((List.length [af.cells [c7],af.cells [a9,a9,a9,c6],af.cells [c7]])+0),.v (aa x0),.v r0]++List.replicate 87 c8) [af.cells [c7],af.cells [a9,a9,a9,c6],af.cells [c7],af.map [],af.one (.m ((List.length [af.cells [c7],af.cells [a9,a9,a9,c6],af.cells [c7]])+0))]))):=by kernel_rfl
set_option maxHeartbeats 1000000 in
theorem amb(C:bu)(d:D)(al:SV)(m:List (MK×D))(Q:Ex→List af→Prop):aw Try.prog gl C w4 (OE BK) (fun x e1=>x=.normal ∧aw Try.prog gl C w4 (OF BK) (fun x e2=>Q x (e2.boxes.take 5)) e1) ⟨de v9 (some 18) (.v (.d d)),MT al m⟩=(ab (aE (.d d)) fun r0=>r0.length=6∧6≤6∧Ex.normal=Ex.normal∧ab (ai false 1 0 [al]) fun r1=>ab (ai true 6 0 (setAt [a9,c6,ca,c7,a9,a9] 0 r0)) fun r2=>aU C 68 [aa (aa (aa r1)),aa (aa (aa r2))] fun r3=>ab (aj c9 .neq (aa (aa (aa r3))) a9) fun r4=>ar r4 (ab (ai true 2 4 (setAt [a9,c6,ca,c7,a9,a9] 0 r0)) fun r5=>ab (ai false 1 1 (setAt [a9,c6,ca,c7,a9,a9] 0 r0)) fun r6=>ab (aT [(0,(.v (aa (aa (aa r3))))),(1,(.v (aa (aa r5)))),(2,(.v (aa (aa r6))))]) fun r7=>ab (dF Try.prog 30 r7) fun r8=>ab (aE c7) fun r9=>r9.length=1∧1≤1∧ab (aE (.d r8)) fun bE=>bE.length=4∧4≤4∧((ab (ai true 2 4 (setAt [a9,c6,ca,c7,a9,a9] 0 r0)) fun bT=>(ab (ai false 1 1 (setAt [a9,c6,ca,c7,a9,a9] 0 r0)) fun bU=>ab (aT [(0,(.v (aa (aa (aa r3))))),(1,(.v (aa (aa bT)))),(2,(.v (aa (aa bU))))]) fun bV=>ab (dF Try.prog 30 bV) fun bJ=>ab (aE c7) fun bW=>bW.length=1∧1≤1∧ab (aE (.d bJ)) fun bM=>bM.length=4∧4≤4∧(Eq (Env.mk ([c8,c8,.p 0 0,.p 1 0,.p 2 0,.p 4 0,.p ((List.length [af.cells [c7],af.cells [a9,a9,a9,c6],af.cells [al],af.map m,af.one (.m 3)])+0) 0,.v (aa r3),c8,c8,c8,c8,c8,c8,c8,c8,c8,c8,.v (.d d),.v (aa r1),.v (aa r2),.v r3,.v (aa (aa r3)),.v c5,.v (aa (aa r3)),.p ((List.length [af.cells [c7],af.cells [a9,a9,a9,c6],af.cells [al],af.map m,af.one (.m 3)])+0) 4,.v (aa bT),.p ((List.length [af.cells [c7],af.cells [a9,a9,a9,c6],af.cells [al],af.map m,af.one (.m 3)])+0) 1,.v (aa bU),.v (.d bJ)]++List.replicate 75 c8) [af.cells (setAt [c7] 0 bW),af.cells (setAt [a9,a9,a9,c6] 0 bM),af.cells [al],af.map m,af.one (.m 3),af.cells (setAt [a9,c6,ca,c7,a9,a9] 0 r0)]) (Env.mk ([c8,c8,.p 0 0,.p 1 0,.p 2 0,.p 4 0,.p ((List.length [af.cells [c7],af.cells [a9,a9,a9,c6],af.cells [al],af.map m,af.one (.m 3)])+0) 0,.v (aa r3),c8,c8,c8,c8,c8,c8,c8,c8,c8,c8,.v (.d d),.v (aa r1),.v (aa r2),.v r3,.v (aa (aa r3)),.v c5,.v (aa (aa r3)),.p ((List.length [af.cells [c7],af.cells [a9,a9,a9,c6],af.cells [al],af.map m,af.one (.m 3)])+0) 4,.v (aa r5),.p ((List.length [af.cells [c7],af.cells [a9,a9,a9,c6],af.cells [al],af.map m,af.one (.m 3)])+0) 1,.v (aa r6),.v (.d r8)]++List.replicate 75 c8) [af.cells (setAt [c7] 0 r9),af.cells (setAt [a9,a9,a9,c6] 0 bE),af.cells [al],af.map m,af.one (.m 3),af.cells (setAt [a9,c6,ca,c7,a9,a9] 0 r0)])))∧ab (aE c7) fun ck=>ck.length=1∧1≤1∧ab (ai false 1 1 (setAt [a9,c6,ca,c7,a9,a9] 0 r0)) fun cf=>ab (aT [(0,(.v (aa (aa (aa r3))))),(1,(.v (aa (aa bT)))),(2,(.v (aa (aa cf))))]) fun di=>ab (dF Try.prog 30 di) fun cP=>ab (aE (.d cP)) fun cj=>cj.length=4∧4≤4∧(Eq (Env.mk ([c8,c8,.p 0 0,.p 1 0,.p 2 0,.p 4 0,.p ((List.length [af.cells [c7],af.cells [a9,a9,a9,c6],af.cells [al],af.map m,af.one (.m 3)])+0) 0,.v (aa r3),c8,c8,c8,c8,c8,c8,c8,c8,c8,c8,.v (.d d),.v (aa r1),.v (aa r2),.v r3,.v (aa (aa r3)),.v c5,.v (aa (aa r3)),.p ((List.length [af.cells [c7],af.cells [a9,a9,a9,c6],af.cells [al],af.map m,af.one (.m 3)])+0) 4,.v (aa bT),.p ((List.length [af.cells [c7],af.cells [a9,a9,a9,c6],af.cells [al],af.map m,af.one (.m 3)])+0) 1,.v (aa cf),.v (.d cP)]++List.replicate 75 c8) [af.cells (setAt [c7] 0 ck),af.cells (setAt [a9,a9,a9,c6] 0 cj),af.cells [al],af.map m,af.one (.m 3),af.cells (setAt [a9,c6,ca,c7,a9,a9] 0 r0)]) (Env.mk ([c8,c8,.p 0 0,.p 1 0,.p 2 0,.p 4 0,.p ((List.length [af.cells [c7],af.cells [a9,a9,a9,c6],af.cells [al],af.map m,af.one (.m 3)])+0) 0,.v (aa r3),c8,c8,c8,c8,c8,c8,c8,c8,c8,c8,.v (.d d),.v (aa r1),.v (aa r2),.v r3,.v (aa (aa r3)),.v c5,.v (aa (aa r3)),.p ((List.length [af.cells [c7],af.cells [a9,a9,a9,c6],af.cells [al],af.map m,af.one (.m 3)])+0) 4,.v (aa r5),.p ((List.length [af.cells [c7],af.cells [a9,a9,a9,c6],af.cells [al],af.map m,af.one (.m 3)])+0) 1,.v (aa r6),.v (.d r8)]++List.replicate 75 c8) [af.cells (setAt [c7] 0 r9),af.cells (setAt [a9,a9,a9,c6] 0 bE),af.cells [al],af.map m,af.one (.m 3),af.cells (setAt [a9,c6,ca,c7,a9,a9] 0 r0)])))∧(ab (ai false 1 1 (setAt [a9,c6,ca,c7,a9,a9] 0 r0)) fun cw=>(ab (ai true 2 4 (setAt [a9,c6,ca,c7,a9,a9] 0 r0)) fun cJ=>ab (aT [(0,(.v (aa (aa (aa r3))))),(1,(.v (aa (aa cJ)))),(2,(.v (aa (aa cw))))]) fun cX=>ab (dF Try.prog 30 cX) fun cY=>ab (aE c7) fun dE=>dE.length=1∧1≤1∧ab (aE (.d cY)) fun dO=>dO.length=4∧4≤4∧(Eq (Env.mk ([c8,c8,.p 0 0,.p 1 0,.p 2 0,.p 4 0,.p ((List.length [af.cells [c7],af.cells [a9,a9,a9,c6],af.cells [al],af.map m,af.one (.m 3)])+0) 0,.v (aa r3),c8,c8,c8,c8,c8,c8,c8,c8,c8,c8,.v (.d d),.v (aa r1),.v (aa r2),.v r3,.v (aa (aa r3)),.v c5,.v (aa (aa r3)),.p ((List.length [af.cells [c7],af.cells [a9,a9,a9,c6],af.cells [al],af.map m,af.one (.m 3)])+0) 4,.v (aa cJ),.p ((List.length [af.cells [c7],af.cells [a9,a9,a9,c6],af.cells [al],af.map m,af.one (.m 3)])+0) 1,.v (aa cw),.v (.d cY)]++List.replicate 75 c8) [af.cells (setAt [c7] 0 dE),af.cells (setAt [a9,a9,a9,c6] 0 dO),af.cells [al],af.map m,af.one (.m 3),af.cells (setAt [a9,c6,ca,c7,a9,a9] 0 r0)]) (Env.mk ([c8,c8,.p 0 0,.p 1 0,.p 2 0,.p 4 0,.p ((List.length [af.cells [c7],af.cells [a9,a9,a9,c6],af.cells [al],af.map m,af.one (.m 3)])+0) 0,.v (aa r3),c8,c8,c8,c8,c8,c8,c8,c8,c8,c8,.v (.d d),.v (aa r1),.v (aa r2),.v r3,.v (aa (aa r3)),.v c5,.v (aa (aa r3)),.p ((List.length [af.cells [c7],af.cells [a9,a9,a9,c6],af.cells [al],af.map m,af.one (.m 3)])+0) 4,.v (aa r5),.p ((List.length [af.cells [c7],af.cells [a9,a9,a9,c6],af.cells [al],af.map m,af.one (.m 3)])+0) 1,.v (aa r6),.v (.d r8)]++List.replicate 75 c8) [af.cells (setAt [c7] 0 r9),af.cells (setAt [a9,a9,a9,c6] 0 bE),af.cells [al],af.map m,af.one (.m 3),af.cells (setAt [a9,c6,ca,c7,a9,a9] 0 r0)])))∧ab (aE c7) fun du=>du.length=1∧1≤1∧ab (ai true 2 4 (setAt [a9,c6,ca,c7,a9,a9] 0 r0)) fun cS=>ab (aT [(0,(.v (aa (aa (aa r3))))),(1,(.v (aa (aa cS)))),(2,(.v (aa (aa cw))))]) fun dp=>ab (dF Try.prog 30 dp) fun dA=>ab (aE (.d dA)) fun dL=>dL.length=4∧4≤4∧(Eq (Env.mk ([c8,c8,.p 0 0,.p 1 0,.p 2 0,.p 4 0,.p ((List.length [af.cells [c7],af.cells [a9,a9,a9,c6],af.cells [al],af.map m,af.one (.m 3)])+0) 0,.v (aa r3),c8,c8,c8,c8,c8,c8,c8,c8,c8,c8,.v (.d d),.v (aa r1),.v (aa r2),.v r3,.v (aa (aa r3)),.v c5,.v (aa (aa r3)),.p ((List.length [af.cells [c7],af.cells [a9,a9,a9,c6],af.cells [al],af.map m,af.one (.m 3)])+0) 4,.v (aa cS),.p ((List.length [af.cells [c7],af.cells [a9,a9,a9,c6],af.cells [al],af.map m,af.one (.m 3)])+0) 1,.v (aa cw),.v (.d dA)]++List.replicate 75 c8) [af.cells (setAt [c7] 0 du),af.cells (setAt [a9,a9,a9,c6] 0 dL),af.cells [al],af.map m,af.one (.m 3),af.cells (setAt [a9,c6,ca,c7,a9,a9] 0 r0)]) (Env.mk ([c8,c8,.p 0 0,.p 1 0,.p 2 0,.p 4 0,.p ((List.length [af.cells [c7],af.cells [a9,a9,a9,c6],af.cells [al],af.map m,af.one (.m 3)])+0) 0,.v (aa r3),c8,c8,c8,c8,c8,c8,c8,c8,c8,c8,.v (.d d),.v (aa r1),.v (aa r2),.v r3,.v (aa (aa r3)),.v c5,.v (aa (aa r3)),.p ((List.length [af.cells [c7],af.cells [a9,a9,a9,c6],af.cells [al],af.map m,af.one (.m 3)])+0) 4,.v (aa r5),.p ((List.length [af.cells [c7],af.cells [a9,a9,a9,c6],af.cells [al],af.map m,af.one (.m 3)])+0) 1,.v (aa r6),.v (.d r8)]++List.replicate 75 c8) [af.cells (setAt [c7] 0 r9),af.cells (setAt [a9,a9,a9,c6] 0 bE),af.cells [al],af.map m,af.one (.m 3),af.cells (setAt [a9,c6,ca,c7,a9,a9] 0 r0)])))∧ab (aE c7) fun dM=>dM.length=1∧1≤1∧ab (ai true 2 4 (setAt [a9,c6,ca,c7,a9,a9] 0 r0)) fun ei=>ab (ai false 1 1 (setAt [a9,c6,ca,c7,a9,a9] 0 r0)) fun eh=>ab (aT [(0,(.v (aa (aa (aa r3))))),(1,(.v (aa (aa ei)))),(2,(.v (aa (aa eh))))]) fun eQ=>ab (dF Try.prog 30 eQ) fun fH=>ab (aE (.d fH)) fun eZ=>eZ.length=4∧4≤4∧(Eq (Env.mk ([c8,c8,.p 0 0,.p 1 0,.p 2 0,.p 4 0,.p ((List.length [af.cells [c7],af.cells [a9,a9,a9,c6],af.cells [al],af.map m,af.one (.m 3)])+0) 0,.v (aa r3),c8,c8,c8,c8,c8,c8,c8,c8,c8,c8,.v (.d d),.v (aa r1),.v (aa r2),.v r3,.v (aa (aa r3)),.v c5,.v (aa (aa r3)),.p ((List.length [af.cells [c7],af.cells [a9,a9,a9,c6],af.cells [al],af.map m,af.one (.m 3)])+0) 4,.v (aa ei),.p ((List.length [af.cells [c7],af.cells [a9,a9,a9,c6],af.cells [al],af.map m,af.one (.m 3)])+0) 1,.v (aa eh),.v (.d fH)]++List.replicate 75 c8) [af.cells (setAt [c7] 0 dM),af.cells (setAt [a9,a9,a9,c6] 0 eZ),af.cells [al],af.map m,af.one (.m 3),af.cells (setAt [a9,c6,ca,c7,a9,a9] 0 r0)]) (Env.mk ([c8,c8,.p 0 0,.p 1 0,.p 2 0,.p 4 0,.p ((List.length [af.cells [c7],af.cells [a9,a9,a9,c6],af.cells [al],af.map m,af.one (.m 3)])+0) 0,.v (aa r3),c8,c8,c8,c8,c8,c8,c8,c8,c8,c8,.v (.d d),.v (aa r1),.v (aa r2),.v r3,.v (aa (aa r3)),.v c5,.v (aa (aa r3)),.p ((List.length [af.cells [c7],af.cells [a9,a9,a9,c6],af.cells [al],af.map m,af.one (.m 3)])+0) 4,.v (aa r5),.p ((List.length [af.cells [c7],af.cells [a9,a9,a9,c6],af.cells [al],af.map m,af.one (.m 3)])+0) 1,.v (aa r6),.v (.d r8)]++List.replicate 75 c8) [af.cells (setAt [c7] 0 r9),af.cells (setAt [a9,a9,a9,c6] 0 bE),af.cells [al],af.map m,af.one (.m 3),af.cells (setAt [a9,c6,ca,c7,a9,a9] 0 r0)])))∧(Q Ex.ret [af.cells (setAt [c7] 0 r9),af.cells (setAt [a9,a9,a9,c6] 0 bE),af.cells [al],af.map m,af.one (.m 3)])) (ab (ai true 6 0 (setAt [a9,c6,ca,c7,a9,a9] 0 r0)) fun fa=>ab (aT [(0,(.v (aa (aa fa))))]) fun gN=>(bz 6 1 gN)=true∧cb 6 72 al (.full 6 (bF (bI true [qY,qZ,rb,nw,qY,qY]) gN 1 0)) fun gv=>ab (aE gv) fun gw=>gw.length=1∧0<(List.length [aa al])∧ab (ai false 1 2 (setAt [a9,c6,ca,c7,a9,a9] 0 r0)) fun fW=>ab (eP .not (aa (aa fW))) fun fh=>ar fh (ab (ai false 1 0 (setAt [a9,c6,ca,c7,a9,a9] 0 r0)) fun gb=>ab (ai false 1 1 (setAt [a9,c6,ca,c7,a9,a9] 0 r0)) fun fb=>ab (aT [(0,(.v (aa (aa gb)))),(1,(.v (aa (aa fb))))]) fun gx=>ab (dF Try.prog 126 gx) fun gW=>ab (oq (some [.int,.str]) (.d gW)) fun gz=>ab (cB c5) fun im=>ab (sr m gz im) fun iq=>(Q Ex.normal [af.cells [c7],af.cells [a9,a9,a9,c6],af.cells (setAt [aa al] 0 gw),af.map iq,af.one (.m 3)])) ((Q Ex.normal [af.cells [c7],af.cells [a9,a9,a9,c6],af.cells (setAt [aa al] 0 gw),af.map m,af.one (.m 3)])))):=by kernel_rfl
set_option maxHeartbeats 1000000 in
theorem amc(C:bu)(al:SV)(m:List (MK×D))(K:SV→Prop):nq Try.prog gl C w4 ((iz Ag).drop 5) (FG Try.prog Try.f50 K) ⟨v9,MT al m⟩=(ab (o9 c7) fun r0=>ab (ai false 1 0 [al]) fun r1=>ab (ba (aa (aa r1))) fun r2=>bZ (fun bK dc I5=>ab (aj none .lss (aa (ae bK 3)) (aa (ae bK 2))) fun r6=>ar r6 (ab (aJ 6 (aa (ae bK 1)) (aa (ae bK 3))) fun r7=>ab (aH true 6 (aa r7)) fun r8=>ab (aE (aa r8)) fun r9=>r9.length=6∧6≤6∧ab (ai false 1 0 (setAt [a9,c6,ca,c7,a9,a9] 0 r9)) fun bE=>ab (ai false 1 1 (setAt [a9,c6,ca,c7,a9,a9] 0 r9)) fun bT=>ab (aT [(0,(.v (aa (aa bE)))),(1,(.v (aa (aa bT))))]) fun bU=>ab (dF Try.prog 126 bU) fun bV=>ab (aE (.d bV)) fun bJ=>bJ.length=2∧2≤2∧ab (ai false 1 2 (setAt [a9,c6,ca,c7,a9,a9] 0 r9)) fun bW=>ar (aa (aa bW)) (ab (ai false 1 0 (an dc 4)) fun bM=>ab (ai true 2 0 (setAt [a9,c6] 0 bJ)) fun ck=>ab (vZ (some [.int,.str]) rb (aa (aa bM)) (aa (aa ck))) fun cf=>ar (.d cf.1) (ab (aj none .add (aa (ae bK 3)) bo) fun di=>(I5 [ae bK 0,ae bK 1,ae bK 2,aa di] [af.az (af.cells (an dc 0)),af.az (af.cells (an dc 1)),af.az (af.cells (an dc 2)),[.undef],af.az (af.cells (an dc 4)),[.mp (mapOf (an dc 5))]])) (ab (ai false 1 0 (setAt [a9,c6,ca,c7,a9,a9] 0 r9)) fun cP=>ab (ai false 1 1 (setAt [a9,c6,ca,c7,a9,a9] 0 r9)) fun cj=>aU C 69 [aa (aa (aa cP)),aa (aa (aa cj))] fun cw=>ar (aa (aa cw)) (ab (aj none .add (aa (ae bK 3)) bo) fun cJ=>(I5 [ae bK 0,ae bK 1,ae bK 2,aa cJ] [af.az (af.cells (an dc 0)),af.az (af.cells (an dc 1)),af.az (af.cells (an dc 2)),[.undef],af.az (af.cells (an dc 4)),[.mp (mapOf (an dc 5))]])) (ab (ai true 2 0 (setAt [a9,c6] 0 bJ)) fun cX=>ab (vZ (some [.int,.str]) qY (.mp (mapOf (an dc 5))) (aa (aa cX))) fun cY=>ar (.d (.bool (Prod.snd cY))) (ab (ai false 1 2 (setAt [a9,c6,ca,c7,a9,a9] 0 r9)) fun dE=>ar (aa (aa dE)) (ij (ae bK 0) 6 (fun Gy=>ab (da (.d cY.1) Gy.length) fun du=>ab (ai false 1 ((du*6)+3) (bj Gy)) fun cS=>aU C 71 [aa (aa (aa cS))] fun dp=>ab (ai false 1 3 (setAt [a9,c6,ca,c7,a9,a9] 0 r9)) fun dA=>cb 1 16 dp (aa (aa dA)) fun dL=>aU C 70 [aa (aa dL)] fun dM=>ab (da (.d cY.1) Gy.length) fun ei=>ab (aE (aa dM)) fun eh=>eh.length=1∧(((ei*6)+3)+1)≤(List.length (bj Gy))∧ab (dC (setAt (bj Gy) ((ei*6)+3) eh)) fun eQ=>ab (fc true 6 Gy.length eQ) fun fH=>ab (aj none .add (aa (ae bK 3)) bo) fun eZ=>(I5 [.bh 6 fH,ae bK 1,ae bK 2,aa eZ] [af.az (af.cells (an dc 0)),af.az (af.cells (an dc 1)),af.az (af.cells (an dc 2)),[.undef],af.az (af.cells (an dc 4)),[.mp (mapOf (an dc 5))]])) (ab (aJ 6 (aa (aa (ae bK 0))) (.d cY.1)) fun fa=>ab (bR (aa fa) 3) fun gN=>ab (aH false 1 (aa gN)) fun gv=>aU C 71 [aa (aa gv)] fun gw=>ab (ai false 1 3 (setAt [a9,c6,ca,c7,a9,a9] 0 r9)) fun fW=>cb 1 16 gw (aa (aa fW)) fun fh=>aU C 70 [aa (aa fh)] fun gb=>ab (aJ 6 (aa (aa (ae bK 0))) (.d cY.1)) fun fb=>ab (bR (aa fb) 3) fun gx=>False)) (ij (ae bK 0) 6 (fun Vf=>ab (ai true 2 0 (setAt [a9,c6] 0 bJ)) fun gz=>ab (oq (some [.int,.str]) (aa (aa gz))) fun im=>ab (cB (.d (.int .i64 (Nat.cast Vf.length)))) fun iq=>ab (sr (mapOf (an dc 5)) im iq) fun ir=>ab (dC (bj Vf)) fun iS=>ab (fc true 6 Vf.length iS) fun iE=>ab (ai true 6 0 (setAt [a9,c6,ca,c7,a9,a9] 0 r9)) fun iF=>ab (aT [(0,(.v (aa (aa iF))))]) fun jG=>(bz 6 1 jG)=true∧cb 6 72 (.bh 6 iE) (.full 6 (bF (bI true [qY,qZ,rb,nw,qY,qY]) jG 1 0)) fun jH=>ab (aj none .add (aa (ae bK 3)) bo) fun kL=>(I5 [jH,ae bK 1,ae bK 2,aa kL] [af.az (af.cells (an dc 0)),af.az (af.cells (an dc 1)),af.az (af.cells (an dc 2)),[.undef],af.az (af.cells (an dc 4)),[.mp ir]])) (ab (ai true 2 0 (setAt [a9,c6] 0 bJ)) fun kg=>ab (ba (aa (aa (ae bK 0)))) fun kh=>ab (oq (some [.int,.str]) (aa (aa kg))) fun km=>ab (cB (aa kh)) fun nr=>ab (sr (mapOf (an dc 5)) km nr) fun ns=>ab (ai true 6 0 (setAt [a9,c6,ca,c7,a9,a9] 0 r9)) fun lX=>ab (aT [(0,(.v (aa (aa lX))))]) fun lq=>(bz 6 1 lq)=true∧cb 6 72 (ae bK 0) (.full 6 (bF (bI true [qY,qZ,rb,nw,qY,qY]) lq 1 0)) fun lY=>ab (aj none .add (aa (ae bK 3)) bo) fun nt=>(I5 [lY,ae bK 1,ae bK 2,aa nt] [af.az (af.cells (an dc 0)),af.az (af.cells (an dc 1)),af.az (af.cells (an dc 2)),[.undef],af.az (af.cells (an dc 4)),[.mp ns]])))) (ij (ae bK 0) 6 (fun Vg=>ab (ai true 2 0 (setAt [a9,c6] 0 bJ)) fun oN=>ab (oq (some [.int,.str]) (aa (aa oN))) fun nU=>ab (cB (.d (.int .i64 (Nat.cast Vg.length)))) fun pw=>ab (sr (mapOf (an dc 5)) nU pw) fun pz=>ab (dC (bj Vg)) fun wT=>ab (fc true 6 Vg.length wT) fun y8=>ab (ai true 6 0 (setAt [a9,c6,ca,c7,a9,a9] 0 r9)) fun rB=>ab (aT [(0,(.v (aa (aa rB))))]) fun qe=>(bz 6 1 qe)=true∧cb 6 72 (.bh 6 y8) (.full 6 (bF (bI true [qY,qZ,rb,nw,qY,qY]) qe 1 0)) fun mD=>ab (aj none .add (aa (ae bK 3)) bo) fun vp=>(I5 [mD,ae bK 1,ae bK 2,aa vp] [af.az (af.cells (an dc 0)),af.az (af.cells (an dc 1)),af.az (af.cells (an dc 2)),[.undef],af.az (af.cells (an dc 4)),[.mp pz]])) (ab (ai true 2 0 (setAt [a9,c6] 0 bJ)) fun vq=>ab (ba (aa (aa (ae bK 0)))) fun wU=>ab (oq (some [.int,.str]) (aa (aa vq))) fun vr=>ab (cB (aa wU)) fun uj=>ab (sr (mapOf (an dc 5)) vr uj) fun sX=>ab (ai true 6 0 (setAt [a9,c6,ca,c7,a9,a9] 0 r9)) fun uk=>ab (aT [(0,(.v (aa (aa uk))))]) fun um=>(bz 6 1 um)=true∧cb 6 72 (ae bK 0) (.full 6 (bF (bI true [qY,qZ,rb,nw,qY,qY]) um 1 0)) fun vt=>ab (aj none .add (aa (ae bK 3)) bo) fun wV=>(I5 [vt,ae bK 1,ae bK 2,aa wV] [af.az (af.cells (an dc 0)),af.az (af.cells (an dc 1)),af.az (af.cells (an dc 2)),[.undef],af.az (af.cells (an dc 4)),[.mp sX]])))))) (ab (ai true 2 0 (setAt [a9,c6] 0 bJ)) fun za=>ab (vZ (some [.int,.str]) qY (.mp (mapOf (an dc 5))) (aa (aa za))) fun oO=>ar (.d (.bool (Prod.snd oO))) (ab (ai false 1 2 (setAt [a9,c6,ca,c7,a9,a9] 0 r9)) fun uo=>ar (aa (aa uo)) (ij (ae bK 0) 6 (fun Gz=>ab (da (.d oO.1) Gz.length) fun wW=>ab (ai false 1 ((wW*6)+3) (bj Gz)) fun wX=>aU C 71 [aa (aa (aa wX))] fun wY=>ab (ai false 1 3 (setAt [a9,c6,ca,c7,a9,a9] 0 r9)) fun vv=>cb 1 16 wY (aa (aa vv)) fun y9=>aU C 70 [aa (aa y9)] fun vw=>ab (da (.d oO.1) Gz.length) fun wZ=>ab (aE (aa vw)) fun AU=>AU.length=1∧(((wZ*6)+3)+1)≤(List.length (bj Gz))∧ab (dC (setAt (bj Gz) ((wZ*6)+3) AU)) fun Dy=>ab (fc true 6 Gz.length Dy) fun yB=>ab (aj none .add (aa (ae bK 3)) bo) fun yC=>(I5 [.bh 6 yB,ae bK 1,ae bK 2,aa yC] [af.az (af.cells (an dc 0)),af.az (af.cells (an dc 1)),af.az (af.cells (an dc 2)),[.undef],af.az (af.cells (an dc 4)),[.mp (mapOf (an dc 5))]])) (ab (aJ 6 (aa (aa (ae bK 0))) (.d oO.1)) fun yD=>ab (bR (aa yD) 3) fun yE=>ab (aH false 1 (aa yE)) fun Aa=>aU C 71 [aa (aa Aa)] fun yF=>ab (ai false 1 3 (setAt [a9,c6,ca,c7,a9,a9] 0 r9)) fun yG=>cb 1 16 yF (aa (aa yG)) fun wm=>aU C 70 [aa (aa wm)] fun BV=>ab (aJ 6 (aa (aa (ae bK 0))) (.d oO.1)) fun Ac=>ab (bR (aa Ac) 3) fun BW=>False)) (ij (ae bK 0) 6 (fun Tj=>ab (ai true 2 0 (setAt [a9,c6] 0 bJ)) fun BY=>ab (oq (some [.int,.str]) (aa (aa BY))) fun BZ=>ab (cB (.d (.int .i64 (Nat.cast Tj.length)))) fun yH=>ab (sr (mapOf (an dc 5)) BZ yH) fun Ad=>ab (dC (bj Tj)) fun yI=>ab (fc true 6 Tj.length yI) fun Ae=>ab (ai true 6 0 (setAt [a9,c6,ca,c7,a9,a9] 0 r9)) fun BX=>ab (aT [(0,(.v (aa (aa BX))))]) fun tS=>(bz 6 1 tS)=true∧cb 6 72 (.bh 6 Ae) (.full 6 (bF (bI true [qY,qZ,rb,nw,qY,qY]) tS 1 0)) fun Af=>ab (aj none .add (aa (ae bK 3)) bo) fun IV=>(I5 [Af,ae bK 1,ae bK 2,aa IV] [af.az (af.cells (an dc 0)),af.az (af.cells (an dc 1)),af.az (af.cells (an dc 2)),[.undef],af.az (af.cells (an dc 4)),[.mp Ad]])) (ab (ai true 2 0 (setAt [a9,c6] 0 bJ)) fun FL=>ab (ba (aa (aa (ae bK 0)))) fun IX=>ab (oq (some [.int,.str]) (aa (aa FL))) fun IY=>ab (cB (aa IX)) fun IZ=>ab (sr (mapOf (an dc 5)) IY IZ) fun I0=>ab (ai true 6 0 (setAt [a9,c6,ca,c7,a9,a9] 0 r9)) fun Ja=>ab (aT [(0,(.v (aa (aa Ja))))]) fun FM=>(bz 6 1 FM)=true∧cb 6 72 (ae bK 0) (.full 6 (bF (bI true [qY,qZ,rb,nw,qY,qY]) FM 1 0)) fun FN=>ab (aj none .add (aa (ae bK 3)) bo) fun FO=>(I5 [FN,ae bK 1,ae bK 2,aa FO] [af.az (af.cells (an dc 0)),af.az (af.cells (an dc 1)),af.az (af.cells (an dc 2)),[.undef],af.az (af.cells (an dc 4)),[.mp I0]])))) (ij (ae bK 0) 6 (fun Tk=>ab (ai true 2 0 (setAt [a9,c6] 0 bJ)) fun FP=>ab (oq (some [.int,.str]) (aa (aa FP))) fun Tl=>ab (cB (.d (.int .i64 (Nat.cast Tk.length)))) fun Tm=>ab (sr (mapOf (an dc 5)) Tl Tm) fun Tn=>ab (dC (bj Tk)) fun Nr=>ab (fc true 6 Tk.length Nr) fun Ns=>ab (ai true 6 0 (setAt [a9,c6,ca,c7,a9,a9] 0 r9)) fun To=>ab (aT [(0,(.v (aa (aa To))))]) fun Nt=>(bz 6 1 Nt)=true∧cb 6 72 (.bh 6 Ns) (.full 6 (bF (bI true [qY,qZ,rb,nw,qY,qY]) Nt 1 0)) fun Tp=>ab (aj none .add (aa (ae bK 3)) bo) fun Tq=>(I5 [Tp,ae bK 1,ae bK 2,aa Tq] [af.az (af.cells (an dc 0)),af.az (af.cells (an dc 1)),af.az (af.cells (an dc 2)),[.undef],af.az (af.cells (an dc 4)),[.mp Tn]])) (ab (ai true 2 0 (setAt [a9,c6] 0 bJ)) fun apI=>ab (ba (aa (aa (ae bK 0)))) fun apJ=>ab (oq (some [.int,.str]) (aa (aa apI))) fun apK=>ab (cB (aa apJ)) fun Tr=>ab (sr (mapOf (an dc 5)) apK Tr) fun Ts=>ab (ai true 6 0 (setAt [a9,c6,ca,c7,a9,a9] 0 r9)) fun apL=>ab (aT [(0,(.v (aa (aa apL))))]) fun acI=>(bz 6 1 acI)=true∧cb 6 72 (ae bK 0) (.full 6 (bF (bI true [qY,qZ,rb,nw,qY,qY]) acI 1 0)) fun apM=>ab (aj none .add (aa (ae bK 3)) bo) fun Tt=>(I5 [apM,ae bK 1,ae bK 2,aa Tt] [af.az (af.cells (an dc 0)),af.az (af.cells (an dc 1)),af.az (af.cells (an dc 2)),[.undef],af.az (af.cells (an dc 4)),[.mp Ts]]))))) (ab (pT (ae bK 0)) fun Tu=>ab (aT []) fun Tv=>ab (dF Try.prog 30 Tv) fun Nu=>ab (aE (aa (aa Tu))) fun Nv=>Nv.length=1∧1≤(List.length (an dc 0))∧ab (aE (.d Nu)) fun Nw=>Nw.length=4∧4≤(List.length (an dc 1))∧ab (ai false 1 0 (setAt (an dc 0) 0 Nv)) fun Nx=>(SV.aA (aa Nx))=true∧ab (ai true 4 0 (setAt (an dc 1) 0 Nw)) fun Ny=>(SV.aA (aa Ny))=true∧(K (.aK [aa Nx,aa Ny])))) [r0,aa r1,r2,a9] [[c7],[a9,a9,a9,c6],[al],[.undef],[.mp m],[.mp []]]):=by kernel_rfl
def pg(s:aq):MK:=.s [.int .i64 s.kind,.str s.name]
def iM(y s:aq):Bool:=y.kind==s.kind&&y.name==s.name
theorem Lz(y s:aq):pg y=pg s↔iM y s=true:=by
 simp[pg,iM]
def Fc(m:List (MK×D)):Prop:=∀x∈m,∃k n,x.1=MK.s [.int .i64 k,.str n]
theorem PK{m:List (MK×D)}(h:Fc m)(s:aq):xQ m (pg s)=true:=by
 unfold xQ
 rw[List.all_eq_true]
 intro x hx
 obtain⟨k,n,hk⟩:=h x hx
 rw[hk]
 rfl
theorem P1:∀(m:List (MK×D))(n k:MK)(d:D),oh (ot m n d) k=if k=n then some d else oh m k
 |[],n,k,d=>by by_cases h:k=n<;>simp[ot,oh,h]
 |x::m,n,k,d=>by
  rw[ot]
  by_cases h:n=x.1
  ·rw[if_pos h,oh,oh]
   by_cases hk:k=n
   ·simp[hk]
   ·rw[if_neg hk,if_neg hk,if_neg (by rw[←h];exact hk)]
  ·rw[if_neg h,oh,oh,P1 m n k d]
   by_cases hk:k=n
   ·rw[if_pos hk,if_neg (by rw[hk];exact h)]
    simp[hk]
   ·simp[hk]
theorem XB{m:List (MK×D)}(h:Fc m)(s:aq)(d:D):Fc (ot m (pg s) d):=by
 induction m with
 |nil=>intro x hx;rw[ot,List.mem_singleton]at hx;subst hx;exact⟨_,_,rfl⟩
 |cons y m ih=>
  intro x hx
  rw[ot]at hx
  split at hx
  ·rcases List.mem_cons.1 hx with rfl|hx
   ·exact⟨_,_,rfl⟩
   ·exact h x (by simp[hx])
  ·rcases List.mem_cons.1 hx with rfl|hx
   ·exact h _ (by simp)
   ·exact ih (fun z hz=>h z (by simp[hz])) x hx
def lO(l:List aq)(s:aq):Bool:=l.any fun y=> !y.cV&&iM y s
def u3(m:List (MK×D))(l:List aq):Prop:=Fc m∧∀s,oh m (pg s)=if lO l s then some (.bool true)else none
theorem u3.nil:u3 [] []:=⟨fun x h=>by simp at h,fun s=>rfl⟩
theorem u3.cV{m:List (MK×D)}{l:List aq}(h:u3 m l){s:aq}(hs:s.cV=true):u3 m (l++[s]):=by
 refine⟨h.1,fun t=>?_⟩
 rw[h.2 t]
 simp[lO,hs]
theorem u3.dec{m:List (MK×D)}{l:List aq}(h:u3 m l){s:aq}(hs:s.cV=false):u3 (ot m (pg s) (.bool true)) (l++[s]):=by
 refine⟨XB h.1 s _,fun t=>?_⟩
 rw[P1,h.2 t]
 by_cases hk:pg t=pg s
 ·have:iM s t=true:=(Lz s t).1 hk.symm
  simp[hk,lO,hs,this]
 ·have:iM s t=false:=by
   cases hc:iM s t with
   |false=>rfl
   |true=>exact absurd ((Lz s t).2 hc).symm hk
  simp[hk,lO,this]
theorem ah1{m:List (MK×D)}{l:List aq}(h:u3 m l)(s:aq):vZ (some [.int,.str]) (.bool false) (.mp m) (.d (.agg [.int .i64 s.kind,.str s.name]))=some (.bool (lO l s),lO l s):=by
 have h1:oq (some [.int,.str]) (.d (.agg [.int .i64 s.kind,.str s.name]))=some (pg s):=rfl
 simp only[vZ,h1,PK h.1 s,cond_true,h.2 s]
 cases lO l s<;>rfl
def jN(s:aq):List aq→Option Nat
 |[]=>none
 |y::l=>match jN s l with|some j=>some (j+1)|none=>if iM y s then some 0 else none
theorem XC(s y:aq):∀(l:List aq),jN s (l++[y])=if iM y s then some l.length else jN s l
 |[]=>by simp[jN]
 |z::l=>by
  rw[List.cons_append,jN,XC s y l]
  by_cases h:iM y s=true
  ·simp[h]
  ·simp[h,jN]
theorem LA{s:aq}:∀{l:List aq}{j:Nat},jN s l=some j→∃y,l[j]? =some y∧iM y s=true
 |[],j,h=>by simp[jN]at h
 |z::l,j,h=>by
  rw[jN]at h
  split at h
  ·rename_i k hk
   cases h
   obtain⟨y,h1,h2⟩:=LA hk
   exact⟨y,by simpa using h1,h2⟩
  ·split at h
   ·rename_i hz;cases h;exact⟨z,by simp,hz⟩
   ·cases h
theorem Yp(s:aq):∀(l:List aq)(j:Nat)(y y':aq),l[j]? =some y→y'.kind=y.kind→y'.name=y.name→jN s (l.set j y')=jN s l
 |[],j,y,y',h,_,_=>by simp at h
 |z::l,0,y,y',h,h1,h2=>by
  simp at h;subst h
  have:iM y' s=iM z s:=by simp[iM,h1,h2]
  simp only[List.set_cons_zero,jN,this]
 |z::l,j+1,y,y',h,h1,h2=>by
  simp only[List.set_cons_succ,jN,Yp s l j y y' (by simpa using h) h1 h2]
def w5(m:List (MK×D))(out:List aq):Prop:=Fc m∧∀s,oh m (pg s)=(jN s out).map fun(j:Nat)=>D.int .i64 (j:Int)
theorem w5.nil:w5 [] []:=⟨fun x h=>by simp at h,fun s=>rfl⟩
theorem w5.snoc{m:List (MK×D)}{out:List aq}(h:w5 m out)(s:aq):w5 (ot m (pg s) (.int .i64 (out.length:Int))) (out++[s]):=by
 refine⟨XB h.1 s _,fun t=>?_⟩
 rw[P1,h.2 t,XC]
 by_cases hk:pg t=pg s
 ·have:iM s t=true:=(Lz s t).1 hk.symm
  simp[hk,this]
 ·have:¬iM s t=true:=fun hc=>hk ((Lz s t).2 hc).symm
  simp[hk,this]
theorem w5.set{m:List (MK×D)}{out:List aq}(h:w5 m out){j:Nat}{y y':aq}(hj:out[j]? =some y)(h1:y'.kind=y.kind)(h2:y'.name=y.name):w5 m (out.set j y'):=
 ⟨h.1,fun t=>by rw[h.2 t,Yp t out j y y' hj h1 h2]⟩
theorem ajH{m:List (MK×D)}{out:List aq}(h:w5 m out)(s:aq):vZ (some [.int,.str]) (.int .i64 0) (.mp m) (.d (.agg [.int .i64 s.kind,.str s.name]))=some (match jN s out with|some j=>(D.int .i64 (j:Int),true)|none=>(.int .i64 0,false)):=by
 have h1:oq (some [.int,.str]) (.d (.agg [.int .i64 s.kind,.str s.name]))=some (pg s):=rfl
 simp only[vZ,h1,PK h.1 s,cond_true,h.2 s]
 cases jN s out<;>rfl
def Bw(y:aq)(s:aq):aq:={y with perms:=dedup (y.perms++s.perms)}
def tt(all out:List aq)(s:aq):List aq:=
 if s.cV&&(lO all s||wo s.kind s.name)then out else
 match jN s out with
 |some j=>if s.cV then(match out[j]? with|some y=>out.set j (Bw y s)|none=>out)else out++[s]
 |none=>out++[s]
def jL(all:List aq)(l:List aq):List aq:=l.foldl (tt all) []
theorem KN{all l:List aq}{i:Nat}{s:aq}(h:l[i]? =some s):jL all (l.take (i+1))=tt all (jL all (l.take i)) s:=by
 rw[dT h,jL,jL,List.foldl_append];rfl
def dt(l:List aq):Nat:=(l.map fun s=>s.perms.length).sum
theorem Cz{l:List aq}{i:Nat}{s:aq}(h:l[i]? =some s):dt (l.take (i+1))=dt (l.take i)+s.perms.length:=by
 rw[dT h];simp[dt]
theorem Ey(l:List aq)(i:Nat):dt (l.take i)≤dt l:=by
 have h:dt (l.take i++l.drop i)=dt (l.take i)+dt (l.drop i):=by
  unfold dt
  rw[List.map_append,List.sum_append]
 rw[List.take_append_drop]at h
 omega
theorem P2(l:List (List UInt8)):(dedup l).length ≤l.length:=by
 have:=Ql l []
 simpa[dedup]using this
theorem aez(all out:List aq)(s:aq):(tt all out s).length ≤out.length+1:=by
 unfold tt
 repeat' split
 all_goals simp
theorem P3(all l:List aq)(i:Nat):(jL all (l.take i)).length ≤i:=by
 induction i with
 |zero=>simp[jL]
 |succ i ih=>
  cases h:l[i]? with
  |none=>
   rw[List.take_of_length_le (by have:=List.getElem?_eq_none_iff.1 h;omega)]at ih ⊢
   omega
  |some s=>
   rw[KN h]
   have:=aez all (jL all (l.take i)) s
   omega
theorem adG{all out:List aq}{s:aq}{n:Nat}(h:∀y∈out,y.perms.length≤n):∀y∈tt all out s,y.perms.length≤n+s.perms.length:=by
 intro y hy
 unfold tt at hy
 split at hy
 ·have:=h y hy;omega
 ·have app:y∈out++[s]→y.perms.length≤n+s.perms.length:=fun hy=>by
   rcases List.mem_append.1 hy with hy|hy
   ·have:=h y hy;omega
   ·rw[List.mem_singleton.1 hy];omega
  split at hy
  ·split at hy
   ·split at hy
    ·rename_i j _ _ z hz
     rcases List.mem_or_eq_of_mem_set hy with hy|hy
     ·have:=h y hy;omega
     ·subst hy
      have h1:=h z (List.mem_of_getElem? hz)
      have h2:=P2 (z.perms++s.perms)
      simp only[Bw,List.length_append]at h2 ⊢
      omega
    ·have:=h y hy;omega
   ·exact app hy
  ·exact app hy
theorem Wv(all l:List aq)(i:Nat):∀y∈jL all (l.take i),y.perms.length≤dt (l.take i):=by
 induction i with
 |zero=>intro y hy;simp[jL]at hy
 |succ i ih=>
  cases h:l[i]? with
  |none=>
   have h1:l.length≤i:=List.getElem?_eq_none_iff.1 h
   rw[List.take_of_length_le h1]at ih
   rw[List.take_of_length_le (by omega)]
   exact ih
  |some s=>
   rw[KN h,Cz h]
   exact adG ih
def ja:List aq→List aq→Option (Int×aq)
 |_,[]=>none
 |pre,s::l=>if qB pre s=0 then ja (pre++[s]) l else some (qB pre s,s)
def sI(out:List aq):SV:=match out with
 |[]=>.d (.sl .nil ji [])
 |out=>.bh 6 (aM out)
theorem G6:∀(cs:List D){l:List SV}{r:List D},dC l=some r→dC (cs.map SV.d++l)=some (cs++r)
 |[],l,r,h=>h
 |c::cs,l,r,h=>by
  simp only[List.map_cons,List.cons_append,dC,cB,G6 cs h]
def kE(s:aq):List D:=[.int .i64 s.kind,.str s.name,.bool s.cV,bB 1 (cA s.perms),.int .i64 s.line,.int .i64 s.gH]
theorem CH(s:aq)(l:List aq):bj (aM (s::l))=(kE s).map .d ++bj (aM l):=rfl
theorem Bj:∀(l:List aq),dC (bj (aM l))=some (l.flatMap kE)
 |[]=>rfl
 |s::l=>by rw[CH,List.flatMap_cons];exact G6 _ (Bj l)
theorem QN:∀(l:List aq),(bj (aM l)).length =l.length*6
 |[]=>rfl
 |s::l=>by rw[CH,List.length_append,QN l,List.length_cons];simp[kE];omega
theorem Bg:∀(l:List aq),fc true 6 l.length (l.flatMap kE)=some (aM l)
 |[]=>rfl
 |s::l=>by
  have ih:=Bg l
  have h1:((s::l).flatMap kE).drop 6=l.flatMap kE:=rfl
  have h2:((s::l).flatMap kE).take 6=kE s:=rfl
  have h3:6≤((s::l).flatMap kE).length :=by simp[kE]
  simp only[List.length_cons,fc,h1,h2,ih,if_pos h3]
  rfl
theorem Qm:∀(l:List aq)(j:Nat)(y:aq),l[j]? =some y→(bj (aM l))[j*6+3]? =some (.d (bB 1 (cA y.perms)))
 |[],j,y,h=>by simp at h
 |s::l,0,y,h=>by simp at h;subst h;rfl
 |s::l,j+1,y,h=>by
  rw[CH,List.getElem?_append_right (by simp[kE];omega)]
  have:(j+1)*6+3-((kE s).map SV.d).length =j*6+3:=by simp[kE];omega
  rw[this]
  exact Qm l j y (by simpa using h)
theorem QO:∀(l:List aq)(j:Nat)(y:aq)(p:List (List UInt8)),l[j]? =some y→(bj (aM l)).set (j*6+3) (.d (bB 1 (cA p)))=bj (aM (l.set j {y with perms:=p}))
 |[],j,y,p,h=>by simp at h
 |s::l,0,y,p,h=>by simp at h;subst h;rfl
 |s::l,j+1,y,p,h=>by
  rw[CH,List.set_append_right _ _ (by simp[kE];omega)]
  have:(j+1)*6+3-((kE s).map SV.d).length =j*6+3:=by simp[kE];omega
  rw[this,QO l j y p (by simpa using h)]
  rfl
set_option maxRecDepth 4000
theorem adH{x:D}(h1:x.cells=[x])(cD:x.one=true):aF Try.prog gl 67 [.d x] (.ef (.func 82) [] [.aX x 0]):=by
 refine agn bw (fn:=Try.f67) (c:=Ti) rfl rfl a7 cD rfl (b:=0) (t:=2) (hh:=jy) (fun _=>?_)
 show aw Try.prog gl _ jy Ti _ (enter 4 _)
 rw[al9]
 have h2:aE (.d x)=some [.d x]:=by simp[aE,h1]
 simp only[h2,sS]
 first|exact⟨rfl,.inr rfl,rfl,rfl⟩|exact⟨.inr trivial,rfl,rfl⟩|exact⟨rfl,.inr trivial,rfl,rfl⟩
theorem LB(x y:D)(i j:Nat):aT [(i,.v (.d x)),(j,.v (.d y))]=some [(i,x),(j,y)]:=rfl
theorem CV{m:List (MK×D)}(h:Fc m)(s:aq)(d:D):sr m (.s [.int .i64 s.kind,.str s.name]) d=some (ot m (pg s) d):=by
 have:=PK h s
 unfold sr
 show cond (xQ m (pg s)) _ _=_
 rw[this];rfl
theorem Hl(x:SV):ai false 1 0 [x]=some x:=rfl
theorem WS(c l k:Int)(n:List UInt8):dF Try.prog 30 [(0,.int .i64 c),(1,.agg [.int .i64 l,.int .i64 k]),(2,.str n)]=some (.agg [.int .i64 c,.int .i64 l,.int .i64 k,.str n]):=by kernel_rfl
theorem uB:dF Try.prog 30 []=some (.agg [.int .i64 0,.int .i64 0,.int .i64 0,.str []]):=by kernel_rfl
theorem Yq(k:Int)(n:List UInt8):dF Try.prog 126 [(0,.int .i64 k),(1,.str n)]=some (.agg [.int .i64 k,.str n]):=by kernel_rfl
theorem De(k:Int)(n:List UInt8):oq (some [.int,.str]) (.d (.agg [.int .i64 k,.str n]))=some (.s [.int .i64 k,.str n]):=rfl
def OG(f:List SV)(al:SV)(m:List (MK×D)):List af:=[.cells [.d (.sl .nil 0 [])],.cells f,.cells [al],.map m,.one (.m 3)]
def rI(l:List aq)(k:Nat)(aG:List af):Prop:=∃m,aG=MT (aO 6 (aM (l.take k))) m∧u3 m (l.take k)∧ja (l.take k) (l.drop k)=ja [] l
def rX(l:List aq)(x:Ex)(aG:List af):Prop:=x=.ret ∧∃c s m al,ja [] l=some (c,s)∧aG=OG [.d (.int .i64 c),.d (.int .i64 s.line),.d (.int .i64 s.gH),.d (.str s.name)] al m
theorem RU(f:List SV)(hf:(f.all fun x=>x.sF&&x.aA)=true)(al:SV)(ha:(al.sF&&al.aA)=true)(m:List (MK×D)):(OG f al m).all (nJ 5)=true:=by
 simp only[OG,List.all_cons,List.all_nil,nJ,hf,ha,Bool.and_true,Bool.true_and]
 rfl
theorem ED(sz:Nat)(L:List D):(aO sz L).sF =true∧(aO sz L).aA =true:=by cases L<;>exact⟨rfl,rfl⟩
theorem afx:aE (.d (.sl .nil 0 []))=some [.d (.sl .nil 0 [])]:=rfl
theorem dv(a b c d:D):aE (.d (.agg [a,b,c,d]))=some [.d a,.d b,.d c,.d d]:=rfl
theorem aa5(a b:SV):setAt [a] 0 [b]=[b]:=rfl
theorem fu(a b c d e f g h:SV):setAt [a,b,c,d] 0 [e,f,g,h]=[e,f,g,h]:=rfl
theorem dw{α:Type}(a b c d:α):[a,b,c,d].length =4:=rfl
theorem ah2(l:List aq)(hl:l.length≤2^30)(k:Nat)(d:D)(aG:List af)(hI:rI l k aG)(hd:(aM l)[k]? =some d):
  aw Try.prog gl (aF Try.prog gl) w4 (OE BK) (fun x e1=>x=.normal ∧aw Try.prog gl (aF Try.prog gl) w4 (OF BK) (fun x e2=>(e2.boxes.take 5).all (nJ 5)=true∧BR (rI l) (rX l) (k+1) x (e2.boxes.take 5)) e1) ⟨de v9 (some 18) (.v (.d d)),aG⟩:=by
 obtain⟨m,rfl,hm,dJ⟩:=hI
 obtain⟨s,hs,rfl⟩:∃s,l[k]? =some s∧d=s.enc:=by
  rw[aM,List.getElem?_map,Option.map_eq_some_iff]at hd
  obtain⟨s,h1,h2⟩:=hd
  exact⟨s,h1,h2.symm⟩
 have hk:k<l.length:=(List.getElem?_eq_some_iff.1 hs).1
 rw[zi hs,ja]at dJ
 refine(amb _ s.enc (aO 6 (aM (l.take k))) m (fun x bs=>bs.all (nJ 5)=true∧BR (rI l) (rX l) (k+1) x bs)).mpr ?_
 simp only[sS,sT,gC,gn,iK,Hl,fX,ej]
 refine eD (aey (l.take k) s (cm 6 _) (by simp only[maxLen,List.length_take];omega)) ?_
 simp only[sS]
 refine And.intro (fun hc=>?_) (fun hc=>?_)
 ·rw[if_neg (by simpa using hc)]at dJ
  simp only[ahY,ic,lF,sS,WS]
  simp only[afx,dv,sS,sT,aa5,fu,j2,dw,and_self]
  refine⟨RU _ rfl _ (by rw[(ED _ _).1,(ED _ _).2];rfl) m,rfl,qB (l.take k) s,s,m,_,dJ.symm,rfl⟩
 ·rw[if_pos (by simpa using hc)]at dJ
  have hb:((aM (l.take k)).length +[s.enc].length)*72≤140737488355328:=by simp only[eG,List.length_take,List.length_singleton];omega
  simp only[dG,lK,kp,sS,sT]
  refine gB (rK 6 _) hb ?_
  simp only[K4,j2,iI,iJ,sS,sT]
  have Of:aM (l.take k)++[s.enc]=aM (l.take (k+1)):=by rw[CP,dT hs]
  rw[Of]
  refine⟨Nat.zero_lt_one,And.intro (fun hr=>?_) (fun hr=>?_)⟩
  ·have hr:s.cV=false:=by simpa using hr
   simp only[iv,ic,LB,Yq,De,sS]
   have ht:cB (.d (.bool true))=some (.bool true):=rfl
   simp only[ht,CV hm.1 s,sS]
   refine⟨RU _ rfl _ (by rw[(ED _ _).1,(ED _ _).2];rfl) _,_,rfl,?_,?_⟩
   ·rw[dT hs];exact hm.dec hr
   ·rw[dT hs];exact dJ
  ·have hr:s.cV=true:=by simpa using hr
   refine⟨RU _ rfl _ (by rw[(ED _ _).1,(ED _ _).2];rfl) m,m,rfl,?_,?_⟩
   ·rw[dT hs];exact hm.cV hr
   ·rw[dT hs];exact dJ
def RV(l:List aq)(m a:List (MK×D)):List (List SV):=[[.d (.sl .nil 0 [])],[.d (.int .i64 0),.d (.int .i64 0),.d (.int .i64 0),.d (.str [])],[aO 6 (aM l)],[.undef],[.mp m],[.mp a]]
theorem Zb:o9 (.d (.sl .nil 0 []))=some (sI []):=rfl
theorem amd(a b c d:SV):setAt [a,b] 0 [c,d]=[c,d]:=rfl
theorem ah3(a b:D):aE (.d (.agg [a,b]))=some [.d a,.d b]:=rfl
theorem ajI(a b:D):ai true 2 0 [.d a,.d b]=some (.d (.agg [a,b])):=rfl
theorem apN{α:Type}(a b:α):[a,b].length =2:=rfl
theorem Hm{out:List aq}{A:List D→Prop}{B:Prop}(h1:out≠[]→A (aM out))(h2:out=[]→B):ij (sI out) 6 A B:=by
 cases out with
 |nil=>exact h2 rfl
 |cons y l=>exact⟨rfl,h1 (by simp)⟩
theorem Rg{out:List aq}(h:out≠[]):sI out=.bh 6 (aM out):=by
 cases out with
 |nil=>exact absurd rfl h
 |cons y l=>rfl
theorem Hn{out:List aq}{s:aq}{k:SV→Prop}(hb:(out.length+1)*72≤140737488355328)(hk:k (sI (out++[s]))):cb 6 72 (.bh 6 (aM out)) (.full 6 [s.enc]) k:=by
 unfold cb mc
 rw[rK]
 refine⟨by simpa[eG]using hb,?_⟩
 rw[Rg (by simp),←CP]at hk
 exact hk
theorem G9{s:aq}{k:SV→Prop}(hk:k (sI [s])):cb 6 72 (sI []) (.full 6 [s.enc]) k:=by
 unfold cb mc
 rw[rK]
 exact⟨by simp,hk⟩
theorem Zc(out:List aq):pT (sI out)=some (aO 6 (aM out)):=by cases out<;>rfl
theorem dH(a b c d:D):ai true 4 0 [.d a,.d b,.d c,.d d]=some (.d (.agg [a,b,c,d])):=rfl
theorem ET(n:Int):cB (.d (.int .i64 n))=some (.int .i64 n):=rfl
theorem Qn:ba (sI [])=some (.d (.int .i64 0)):=rfl
theorem Lf:aa (sI [])=sI []:=rfl
theorem Rh(cs:List SV)(i:Nat):ai false 1 i cs=cs[i]? :=rfl
theorem Z3(cs:List SV)(i:Nat)(v:SV):setAt cs i [v]=cs.set i v:=rfl
theorem ajJ(l:List aq)(hl:l.length≤2^30)(hp:dt l≤2^30)(m:List (MK×D))(hm:u3 m l)(K:SV→Prop)(hK:K (.aK [.d (bB 6 (aM (jL l l))),.d (.agg [.int .i64 0,.int .i64 0,.int .i64 0,.str []])])):
  nq Try.prog gl (aF Try.prog gl) w4 ((iz Ag).drop 5) (FG Try.prog Try.f50 K) ⟨v9,MT (aO 6 (aM l)) m⟩:=by
 rw[amc]
 simp only[Hl,ej,sS,sT,(cm 6 (aM l)).len,eG,Zb]
 refine xG (fun i a=>w5 a (jL l (l.take i))) (fun i a=>[sI (jL l (l.take i)),.d (bB 6 (aM l)),.d (.int .i64 (l.length:Int)),.d (.int .i64 ((i:Nat):Int))]) (fun i a=>RV l m a) l.length [] w5.nil (fun i a hi hJ I hI=>?_) (fun a hJ I=>?_)
 ·simp only[RV,sS,sT]
  refine And.intro (fun _=>?_) (fun h=>absurd h (by simp;omega))
  obtain⟨s,hs⟩:=get_some hi
  simp only[(cm 6 (aM l)).at (mP hs),rS,gC,gn,iK,iv,ic,iI,LB,Yq,ah3,amd,ajI,apN,Hl,al5,CM,ah1 hm s,ajH hJ s,sS,sT]
  rw[KN hs]at hI
  have hlen:=P3 l l i
  have FR:=Wv l l i
  have apQ:=Ey l i
  have ml:s.perms.length≤dt l:=by
   have h1:=Cz hs
   have h2:=Ey l (i+1)
   omega
  generalize jL l (l.take i)=out at hI hJ hlen FR ⊢
  unfold tt at hI
  refine And.intro (fun hr=>?_) (fun hr=>?_)
  ·refine And.intro (fun hd=>?_) (fun hd=>?_)
   ·rw[if_pos (by simp[hr,hd])]at hI
    refine aS (bf hi (by simp only[maxLen];omega)) ?_
    exact hI _ hJ
   ·refine eD (Pp _ _) ?_
    simp only[sS]
    refine And.intro (fun ho=>?_) (fun ho=>?_)
    ·rw[if_pos (by simp[hr,ho])]at hI
     refine aS (bf hi (by simp only[maxLen];omega)) ?_
     exact hI _ hJ
    ·rw[if_neg (by simp[hr,hd,ho])]at hI
     cases BG:jN s out with
     |none=>
      simp only[BG]at hI ⊢
      refine And.intro (fun h=>absurd h (by simp)) (fun _=>?_)
      refine Hm (fun bg=>?_) (fun he=>?_)
      ·simp only[eG,De,ET,CV hJ.1 s,Bj,Bg,fX,dG,lK,kp,sS,sT]
       refine Hn (by omega) ?_
       refine aS (bf hi (by simp only[maxLen];omega)) ?_
       exact hI _ (hJ.snoc s)
      ·subst he
       simp only[Lf,Qn,De,ET,CV hJ.1 s,fX,dG,lK,kp,sS,sT]
       refine G9 ?_
       refine aS (bf hi (by simp only[maxLen];omega)) ?_
       exact hI _ (hJ.snoc s)
     |some j=>
      obtain⟨y,hy,GA⟩:=LA BG
      have hj:j<out.length:=(List.getElem?_eq_some_iff.1 hy).1
      have hyp:=FR y (List.mem_of_getElem? hy)
      simp only[BG,if_pos hr,hy]at hI ⊢
      refine And.intro (fun _=>?_) (fun h=>absurd h (by simp))
      refine And.intro (fun _=>?_) (fun h=>absurd h (by simp[hr]))
      refine Hm (fun bg=>?_) (fun he=>absurd hj (by rw[he];simp))
      simp only[eG,jJ hj,Rh,Qm out j y hy,sS]
      refine bH (aex (cA y.perms) (by rw[iu];omega)) (jX _ _) ?_
      rw[←Rh,lD]
      simp only[sS]
      refine gB (ajy (cm 1 _).sv) (by simp only[iu];omega) ?_
      have Ah:cA y.perms++cA s.perms=cA (y.perms++s.perms):=by simp[cA]
      rw[Ah]
      simp only[ej,sS]
      refine bH (Pm _ (cm 1 _) (by rw[List.length_append];omega)) (jX _ _) ?_
      have hg:=Bg (out.set j (Bw y s))
      rw[List.length_set]at hg
      have bc:=QO out j y (dedup (y.perms++s.perms)) hy
      simp only[ej,xy,sS,sT,Z3,j2]
      rw[bc]
      refine⟨by rw[QN];omega,?_⟩
      simp only[Bj,sS]
      refine aS hg ?_
      refine aS (bf hi (by simp only[maxLen];omega)) ?_
      have:=hI a (hJ.set hy rfl rfl)
      rw[Rg (by intro h;have h2:=congrArg List.length h;simp only[List.length_set,List.length_nil]at h2;omega)]at this
      exact this
  ·rw[if_neg (by simp[hr])]at hI
   cases BG:jN s out with
   |none=>
    simp only[BG]at hI ⊢
    refine And.intro (fun h=>absurd h (by simp)) (fun _=>?_)
    refine Hm (fun bg=>?_) (fun he=>?_)
    ·simp only[eG,De,ET,CV hJ.1 s,Bj,Bg,fX,dG,lK,kp,sS,sT]
     refine Hn (by omega) ?_
     refine aS (bf hi (by simp only[maxLen];omega)) ?_
     exact hI _ (hJ.snoc s)
    ·subst he
     simp only[Lf,Qn,De,ET,CV hJ.1 s,fX,dG,lK,kp,sS,sT]
     refine G9 ?_
     refine aS (bf hi (by simp only[maxLen];omega)) ?_
     exact hI _ (hJ.snoc s)
   |some j=>
    simp only[BG,if_neg (show ¬s.cV=true by simp[hr])]at hI ⊢
    refine And.intro (fun _=>?_) (fun h=>absurd h (by simp))
    refine And.intro (fun h=>absurd h (by simp[hr])) (fun _=>?_)
    refine Hm (fun bg=>?_) (fun he=>?_)
    ·simp only[eG,De,ET,CV hJ.1 s,Bj,Bg,fX,dG,lK,kp,sS,sT]
     refine Hn (by omega) ?_
     refine aS (bf hi (by simp only[maxLen];omega)) ?_
     exact hI _ (hJ.snoc s)
    ·subst he
     simp only[Lf,Qn,De,ET,CV hJ.1 s,fX,dG,lK,kp,sS,sT]
     refine G9 ?_
     refine aS (bf hi (by simp only[maxLen];omega)) ?_
     exact hI _ (hJ.snoc s)
 ·simp only[RV,sS,sT]
  refine And.intro (fun h=>absurd h (by simp)) (fun _=>?_)
  rw[List.take_length]
  simp only[Zc,ej,uB,xy,dv,j2,dw,aa5,fu,Hl,dH,sS,sT]
  exact hK
def sJ(l:List aq):SV:=match ja [] l with
 |some (c,s)=>.aK [.d (.sl .nil 0 []),.d (.agg [.int .i64 c,.int .i64 s.line,.int .i64 s.gH,.str s.name])]
 |none=>.aK [.d (bB 6 (aM (jL l l))),.d (.agg [.int .i64 0,.int .i64 0,.int .i64 0,.str []])]
theorem ah4:iz Ag=(iz Ag).take 4++.block 0 (.rangeFunc (.tmp 17) #[18] (OE BK) (OF BK))::(iz Ag).drop 5:=by kernel_rfl
theorem ame:((dr w4.gh (OE BK)).all fun t=> !([2,3,4,5].contains t))=true:=by kernel_rfl
theorem amf:((dr w4.gh (OF BK)).all fun t=> !([2,3,4,5].contains t))=true:=by kernel_rfl
theorem agG(t:Nat)(s:Slot)(h:v9[t]? =some s)(hp:IP s=true):t∈[2,3,4,5]:=by
 by_cases h6:t<6
 ·rcases t with _|_|_|_|_|_|t
  ·cases h;cases hp
  ·cases h;cases hp
  ·simp
  ·simp
  ·simp
  ·simp
  ·omega
 ·exfalso
  unfold v9 at h
  rw[List.getElem?_append_right (by simp;omega)]at h
  have:=(List.mem_replicate.1 (List.mem_of_getElem? h)).2
  subst this
  cases hp
theorem amg(f1 f2 f3 f4:D)(h:(f1.one&&f2.one&&f3.one&&f4.one)=true)(al:SV)(m:List (MK×D))(K:SV→Prop)(hK:K (.aK [.d (.sl .nil 0 []),.d (.agg [f1,f2,f3,f4])])):finish Try.prog Try.f50 ⟨v9,OG [.d f1,.d f2,.d f3,.d f4] al m⟩ K:=by
 show finish Try.prog Try.f50 ⟨v9,[.cells [.d (.sl .nil 0 [])],.cells [.d f1,.d f2,.d f3,.d f4],.cells [al],.map m,.one (.m 3)]⟩ K
 rw[al8]
 simp only[Hl,dH,sS,sT]
 exact hK
theorem WT(ax:List gI){L:List D}{xs:D}(hx:aL 55 L xs)(hs:Fv ax L)(hn:ax.length≤maxLen)(hl:(ax.flatMap cG).length ≤2^30)(hp:dt (ax.flatMap cG)≤2^30):
  aF Try.prog gl 50 [.d xs] (sJ (ax.flatMap cG)):=by
 have jB:xs.cells=[xs]:=by cases hx<;>rfl
 have jD:xs.one=true:=by cases hx<;>rfl
 refine aes bw (fn:=Try.f50) (c:=Ag) rfl rfl a7 (hh:=w4) ah4 (adV ax hx hs hn) rfl (fun br=>?_)
 show nq Try.prog gl _ w4 ((iz Ag).take 4) _ (enter 105 _)
 rw[ama]
 simp only[sS,sT]
 refine bH (adH jB jD) rfl ?_
 refine⟨rfl,v9,rI (ax.flatMap cG),rX (ax.flatMap cG),rfl,fun i s hi=>?_,rfl,rfl,fun t s ht hp=>?_,?_,fun k d aG hI hd hb=>?_,fun aG hI hb=>?_,fun x aG bg hX hb=>?_⟩
 ·by_cases h6:i<6
  ·rcases i with _|_|_|_|_|_|i
   ·cases hi;exact .inl rfl
   ·cases hi;exact .inl rfl
   ·cases hi;exact .inr ⟨_,rfl,.inl rfl⟩
   ·cases hi;exact .inr ⟨_,rfl,.inl rfl⟩
   ·cases hi;exact .inr ⟨_,rfl,.inl rfl⟩
   ·cases hi;exact .inr ⟨_,rfl,.inl rfl⟩
   ·omega
  ·left
   unfold v9 at hi
   rw[List.getElem?_append_right (by simp;omega)]at hi
   exact(List.mem_replicate.1 (List.mem_of_getElem? hi)).2
 ·have hm:=agG t s ht hp
  have h1:=List.all_eq_true.1 ame
  have h2:=List.all_eq_true.1 amf
  refine⟨fun h=>?_,fun h=>?_,fun h=>?_⟩
  ·have:=h1 t h;simp at this;simp_all
  ·have:=h2 t h;simp at this;simp_all
  ·subst h;simp at hm
 ·exact⟨[],rfl,u3.nil,rfl⟩
 ·exact ah2 _ hl k d aG hI hd
 ·obtain⟨m,rfl,hm,dJ⟩:=hI
  rw[eG,List.drop_length]at dJ
  rw[eG,List.take_length]at hm ⊢
  refine ajJ _ hl hp m hm _ ?_
  unfold sJ
  rw[←dJ]
  rfl
 ·obtain⟨rfl,c,s,m,al,hc,rfl⟩:=hX
  refine⟨rfl,?_⟩
  have hr:sJ (ax.flatMap cG)=.aK [.d (.sl .nil 0 []),.d (.agg [.int .i64 c,.int .i64 s.line,.int .i64 s.gH,.str s.name])]:=by unfold sJ;rw[hc]
  exact amg _ _ _ _ rfl al m _ hr.symm
theorem Bo(f:Fn)(a b:List SV):aa (.ef f a b)=.ef f a b:=rfl
theorem WU(f:FuncId)(a b args:List SV)(k:FuncId→List SV→Prop):withFn (.ef (.func f) a b) args k=k f (a++args++b):=rfl
theorem LC(cs:List SV)(o:Nat):aa (.ref cs o)=.ref cs o:=rfl
theorem afy(s:aq):s.cells.map aa=s.cells:=rfl
theorem Lg{α:Type}(p:α→Bool)(l:List α):(first p l).isSome =l.any p:=by
 cases h:first p l with
 |some k=>
  obtain⟨x,h1,h2⟩:=CG h
  exact(List.any_eq_true.2 ⟨x,List.mem_of_getElem? h1,h2⟩).symm
 |none=>
  have:=CN h
  symm
  rw[Option.isSome_none,List.any_eq_false]
  intro x hx
  obtain⟨j,hj⟩:=List.mem_iff_getElem?.1 hx
  simp[this j x hj]
def GB(k:Int):Int:=if k==3 then 2 else k
structure Ea where
 name:List UInt8
 nv:Int
 ax:List gI
inductive Nz(m:Ea):D→Prop
 |mk (xs:D) (L:List D) (hx:aL 55 L xs) (hs:Fv m.ax L):Nz m (.agg [.str m.name,.int .i64 m.nv,xs])
def Ea.syms(m:Ea):List aq:=m.ax.flatMap cG
structure Tw(m:Ea):Prop where
 n:m.ax.length≤2^30
 l:m.syms.length≤2^30
 p:dt m.syms≤2^30
theorem EN(a b c:D):aE (.d (.agg [a,b,c]))=some [.d a,.d b,.d c]:=rfl
theorem Dz{α:Type}(a b c:α):[a,b,c].length =3:=rfl
theorem Ho(a b c:SV):ai false 1 2 [a,b,c]=some c:=rfl
theorem Ri(a b c:D):ai true 3 0 [.d a,.d b,.d c]=some (.d (.agg [a,b,c])):=rfl
theorem gf(a b c d:SV):ai false 1 0 [a,b,c,d]=some a:=rfl
theorem LD:∀(l pre:List aq)(c:Int)(s:aq),ja pre l=some (c,s)→c≠0
 |[],pre,c,s,h=>by simp[ja]at h
 |y::l,pre,c,s,h=>by
  rw[ja]at h
  split at h
  ·exact LD l _ c s h
  ·rename_i hc
   cases h
   exact hc
theorem adI{m:Ea}{d:D}(hd:Nz m d)(hm:Tw m):aF Try.prog gl 24 [.d d] (sJ m.syms):=by
 cases hd with
 |mk xs L hx hs=>
 refine a8 (akX ..) fun br=>?_
 simp only[EN,Dz,Ho,sS,sT,sZ]
 have hB:=WT m.ax hx hs (Nat.le_trans hm.n (by decide)) hm.l hm.p
 have e:m.ax.flatMap cG=m.syms:=rfl
 rw[e]at hB
 unfold sJ at hB ⊢
 cases hc:ja [] m.syms with
 |none=>
  simp only[hc]at hB ⊢
  refine call2 hB ?_
  simp only[dv,dw,fu,dH,sS,sT]
 |some p=>
  obtain⟨c,s⟩:=p
  simp only[hc]at hB ⊢
  refine call2 hB ?_
  simp only[dv,dw,fu,dH,sS,sT]
def zP(l:List aq):List aq:=match ja [] l with|none=>jL l l|some _=>[]
theorem KL(k:Int):aF Try.prog gl 81 [.d (.int .i64 k)] (.d (.int .i64 (GB k))):=by
 refine a8 (alk ..) fun br=>?_
 simp only[sS,sT,GB]
 refine And.intro (fun h=>?_) (fun h=>?_)
 ·simp only[h,if_true]
 ·simp only[h,Bool.false_eq_true,if_false]
theorem Yr(l:List (List UInt8)){x:D}(hx:aL 1 (cA l) x)(hl:l.length≤maxLen)(s:List UInt8):aF Try.prog gl 49 [.d x,.d (.str s)] (.d (.bool (gr s l))):=by
 refine a8 (ak6 ..) fun br=>?_
 refine n9 (fun i=>∀(j:Nat)t,j<i→l[j]? =some t→(t==s)=false) (fun i=>[.d x,.d (.str s),.d (.int .i64 ((i:Nat):Int))]) (fun i=>[]) l.length (fun j t hj=>by omega) (fun i hi hJ I hI=>?_) (fun hJ I=>?_)
 ·simp only[sS,sT,hx.len,iu]
  refine And.intro (fun _=>?_) (fun h=>absurd h (by simp;omega))
  obtain⟨t,ht⟩:=get_some hi
  simp only[hx.at (xL ht),sS,Bn,Bs]
  refine And.intro (fun h=>?_) (fun h=>?_)
  ·rw[Y9 ht h]
  ·refine aS (bf hi hl) ?_
   refine hI fun j t' hj vb=>?_
   rcases Nat.lt_or_ge j i with h2|h2
   ·exact hJ j t' h2 vb
   ·have:j=i:=by omega
    subst this
    rw[ht]at vb
    cases vb
    exact h
 ·simp only[sS,sT,hx.len,iu]
  refine And.intro (fun h=>absurd h (by simp)) (fun _=>?_)
  rw[Yn fun i t ht=>hJ i t (List.getElem?_eq_some_iff.1 ht).1 ht]
def jO(l m:List (List UInt8)):List (List UInt8):=m.foldl lN l
theorem afz{l m:List (List UInt8)}{i:Nat}{s:List UInt8}(h:m[i]? =some s):jO l (m.take (i+1))=lN (jO l (m.take i)) s:=by
 rw[dT h,jO,List.foldl_append];rfl
theorem Zd(l m:List (List UInt8))(i:Nat):(jO l (m.take i)).length ≤l.length+m.length:=by
 have key:∀(m:List (List UInt8))(l:List (List UInt8)),(jO l m).length ≤l.length+m.length:=by
  intro m
  induction m with
  |nil=>intro l;exact Nat.le_refl _
  |cons s m ih=>
   intro l
   have h1:=ih (lN l s)
   have h2:=Yo l s
   rw[show jO l (s::m)=jO (lN l s) m from rfl,List.length_cons]
   omega
 have:=key (m.take i) l
 rw[List.length_take]at this
 omega
theorem WV{sz dh:Nat}{M:List D}{x:SV}{k:SV→Prop}(hx:elems sz x=some M)(hb:M.length*dh≤140737488355328)(hk:k (aO sz M)):cb sz dh (.d (.sl .nil 0 [])) x k:=by
 have:=gB (sz:=sz) (dh:=dh) (L:=[]) (M:=M) (x:=x) (k:=k) hx (by simpa using hb) (by simpa using hk)
 exact this
theorem Py(l m:List (List UInt8)){x y:D}(hx:aL 1 (cA l) x)(hy:aL 1 (cA m) y)(hl:l.length≤2^40)(hm:m.length≤2^40):aF Try.prog gl 48 [.d x,.d y] (aO 1 (cA (jO l m))):=by
 refine a8 (ak5 ..) fun br=>?_
 have J8:m.length≤maxLen:=Nat.le_trans hm (by decide)
 simp only[sS,sT]
 refine WV (hx.sv.elems.1) (by rw[iu];omega) ?_
 refine eX (fun i=>[.d y,aO 1 (cA (jO l (m.take i))),.d (.int .i64 ((i:Nat):Int))]) (fun i=>[]) m.length (fun i hi I hI=>?_) (fun I=>?_)
 ·simp only[sS,sT,hy.len,iu]
  refine And.intro (fun _=>?_) (fun h=>absurd h (by simp;omega))
  obtain⟨t,ht⟩:=get_some hi
  have yV:=Zd l m i
  have hd:=afz (l:=l) ht
  simp only[hy.at (xL ht),sS,Bn,ej]
  refine eD (Yr (jO l (m.take i)) (cm 1 _) (by simp only[maxLen];omega) t) ?_
  simp only[sS]
  refine And.intro (fun h=>?_) (fun h=>?_)
  ·simp only[sS,sT,Lx,Mr,Ly]
   refine gB (rK 1 _) (by rw[iu];simp only[List.length_singleton];omega) ?_
   refine aS (bf hi J8) ?_
   rw[Ld]
   rw[hd,lN,if_neg (by simpa using h)]at hI
   exact hI
  ·refine aS (bf hi J8) ?_
   rw[hd,lN,if_pos (by simpa using h)]at hI
   exact hI
 ·simp only[sS,sT,hy.len,iu]
  refine And.intro (fun h=>absurd h (by simp)) (fun _=>?_)
  simp only[jY,true_and]
  rw[List.take_of_length_le (Nat.le_refl _)]
theorem adW{s:gI}{x:D}(hs:wq s x):aF Try.prog gl 80 [.d x] (.d (.int .i64 (jM s.kind))):=by
 cases hs with
 |mk r5 r6 bd al rest h hl ha=>
  refine a8 (alz ..) fun br=>?_
  simp only[sS,sT,kR,js,h,lE]
  unfold jM
  refine And.intro (fun h=>by rw[if_pos h]) (fun h=>?_)
  rw[if_neg (by rw[h];simp)]
  refine And.intro (fun h=>by rw[if_pos h]) (fun h=>?_)
  rw[if_neg (by rw[h];simp)]
  refine And.intro (fun h=>by rw[if_pos h]) (fun h=>?_)
  rw[if_neg (by rw[h];simp)]
  refine And.intro (fun h=>by rw[if_pos h]) (fun h=>?_)
  rw[if_neg (by rw[h];simp)]
  refine And.intro (fun h=>by rw[if_pos h]) (fun h=>?_)
  rw[if_neg (by rw[h];simp)]
  refine And.intro (fun h=>by rw[if_pos h]) (fun h=>?_)
  rw[if_neg (by rw[h];simp)]
  refine And.intro (fun h=>by rw[if_pos h]) (fun h=>?_)
  rw[if_neg (by rw[h];simp)]
  refine And.intro (fun h=>by rw[if_pos h]) (fun h=>?_)
  rw[if_neg (by rw[h];simp)]
theorem P4(s:aq):aF Try.prog gl 46 [.d s.enc] (.d (.bool (wo s.kind s.name))):=by
 refine a8 (ak4 ..) fun br=>?_
 simp only[sS,sT,gC,gn,iv,ic,wo,Bs]
 refine And.intro (fun h=>?_) (fun h=>?_)
 ·simp[h,Th]
 ·simp[h]
theorem HA(s:aq):bR (.aX s.enc 0) 0=some (.aX s.enc 0):=rfl
theorem HB(s:aq):bR (.aX s.enc 0) 1=some (.aX s.enc 1):=rfl
theorem HC(s:aq):bR (.aX s.enc 0) 2=some (.aX s.enc 2):=rfl
theorem HE(s:aq):bR (.aX s.enc 0) 4=some (.aX s.enc 4):=rfl
theorem HX(s:aq):aH false 1 (.aX s.enc 0)=some (.d (.int .i64 s.kind)):=rfl
theorem HY(s:aq):aH false 1 (.aX s.enc 1)=some (.d (.str s.name)):=rfl
theorem HZ(s:aq):aH false 1 (.aX s.enc 2)=some (.d (.bool s.cV)):=rfl
theorem H0(s:aq):aH false 1 (.aX s.enc 3)=some (.d (bB 1 (cA s.perms))):=rfl
theorem H3(s:aq):aH true 2 (.aX s.enc 4)=some (.d (.agg [.int .i64 s.line,.int .i64 s.gH])):=rfl
def qv(x:aq):Bool→List aq→Int
 |tw,[]=>if tw then 12 else 0
 |tw,y::l=>if GB y.kind != GB x.kind then qv x tw l else if !(y.name==x.name)then qv x tw l else if y.kind != x.kind then 13 else qv x (tw||(!y.cV&& !x.cV)) l
def xV(l:List aq)(x:aq):Int:=qv x (wo x.kind x.name&& !x.cV) l
theorem adX(l:List aq)(x:aq){y:D}(hy:aL 6 (aM l) y)(hl:l.length≤maxLen):aF Try.prog gl 66 [.d y,.d x.enc] (.d (.int .i64 (xV l x))):=by
 refine a8 (alf ..) fun br=>?_
 simp only[sS,sT,gC,gn,fX,iI]
 have loop:∀tw:Bool,qv x tw l=xV l x→∀{F:List SV→List (List SV)→(List SV→List (List SV)→Prop)→Prop},(∀i tw,i<l.length→qv x tw (l.drop i)=xV l x→∀I:List SV→List (List SV)→Prop,(∀J9,qv x J9 (l.drop (i+1))=xV l x→I [.d y,.d (.bool J9),.d (.int .i64 ((i+1:Nat):Int))] [x.cells])→F [.d y,.d (.bool tw),.d (.int .i64 ((i:Nat):Int))] [x.cells] I)→
   (∀tw,qv x tw []=xV l x→∀I,F [.d y,.d (.bool tw),.d (.int .i64 (l.length:Int))] [x.cells] I)→bZ F [.d y,.d (.bool tw),.d (.int .i64 0)] [x.cells]:=by
  intro tw Ka F hs he
  exact xG (fun i tw=>qv x tw (l.drop i)=xV l x) (fun i tw=>[.d y,.d (.bool tw),.d (.int .i64 ((i:Nat):Int))]) (fun i _=>[x.cells]) l.length tw Ka (fun i tw hi hJ I hI=>hs i tw hi hJ I hI) (fun tw hJ I=>he tw (by rw[List.drop_length]at hJ;exact hJ) I)
 refine eD (P4 x) ?_
 simp only[sS]
 refine And.intro (fun h1=>?_) (fun h1=>?_)
 ·refine loop _ (by rw[xV,h1,Bool.true_and]) (fun i tw hi hJ I hI=>?_) (fun tw hJ I=>?_)
  ·simp only[sS,sT,hy.len,eG]
   refine And.intro (fun _=>?_) (fun h=>absurd h (by simp;omega))
   obtain⟨z,hz⟩:=get_some hi
   rw[zi hz,qv]at hJ
   simp only[hy.at (mP hz),sS,HA,HB,HC,HX,HY,HZ,iv,ic,iI,LR]
   refine eD (KL _) ?_
   simp only[sS]
   refine eD (KL _) ?_
   simp only[sS]
   refine And.intro (fun ha=>?_) (fun ha=>?_)
   ·rw[if_pos ha]at hJ
    refine aS (bf hi hl) ?_
    exact hI tw hJ
   ·rw[if_neg (by rw[ha];simp)]at hJ
    refine And.intro (fun hb=>?_) (fun hb=>?_)
    ·rw[if_pos hb]at hJ
     refine aS (bf hi hl) ?_
     exact hI tw hJ
    ·rw[if_neg (by rw[hb];simp)]at hJ
     refine And.intro (fun hc=>?_) (fun hc=>?_)
     ·rw[if_pos hc]at hJ
      rw[←hJ]
     ·rw[if_neg (by rw[hc];simp)]at hJ
      refine And.intro (fun ht=>?_) (fun ht=>?_)
      ·rw[ht,Bool.true_or]at hJ
       refine aS (bf hi hl) ?_
       exact hI true hJ
      ·rw[ht,Bool.false_or]at hJ
       refine And.intro (fun hx=>?_) (fun hx=>?_)
       ·rw[hx,Bool.true_and]at hJ
        refine aS (bf hi hl) ?_
        exact hI _ hJ
       ·rw[hx,Bool.false_and]at hJ
        refine aS (bf hi hl) ?_
        exact hI false hJ
  ·simp only[sS,sT,hy.len,eG]
   refine And.intro (fun h=>absurd h (by simp)) (fun _=>?_)
   rw[qv]at hJ
   refine And.intro (fun ht=>?_) (fun ht=>?_)
   ·rw[if_pos ht]at hJ
    rw[←hJ]
   ·rw[if_neg (by rw[ht];simp)]at hJ
    rw[←hJ]
 ·refine loop _ (by rw[xV,h1,Bool.false_and]) (fun i tw hi hJ I hI=>?_) (fun tw hJ I=>?_)
  ·simp only[sS,sT,hy.len,eG]
   refine And.intro (fun _=>?_) (fun h=>absurd h (by simp;omega))
   obtain⟨z,hz⟩:=get_some hi
   rw[zi hz,qv]at hJ
   simp only[hy.at (mP hz),sS,HA,HB,HC,HX,HY,HZ,iv,ic,iI,LR]
   refine eD (KL _) ?_
   simp only[sS]
   refine eD (KL _) ?_
   simp only[sS]
   refine And.intro (fun ha=>?_) (fun ha=>?_)
   ·rw[if_pos ha]at hJ
    refine aS (bf hi hl) ?_
    exact hI tw hJ
   ·rw[if_neg (by rw[ha];simp)]at hJ
    refine And.intro (fun hb=>?_) (fun hb=>?_)
    ·rw[if_pos hb]at hJ
     refine aS (bf hi hl) ?_
     exact hI tw hJ
    ·rw[if_neg (by rw[hb];simp)]at hJ
     refine And.intro (fun hc=>?_) (fun hc=>?_)
     ·rw[if_pos hc]at hJ
      rw[←hJ]
     ·rw[if_neg (by rw[hc];simp)]at hJ
      refine And.intro (fun ht=>?_) (fun ht=>?_)
      ·rw[ht,Bool.true_or]at hJ
       refine aS (bf hi hl) ?_
       exact hI true hJ
      ·rw[ht,Bool.false_or]at hJ
       refine And.intro (fun hx=>?_) (fun hx=>?_)
       ·rw[hx,Bool.true_and]at hJ
        refine aS (bf hi hl) ?_
        exact hI _ hJ
       ·rw[hx,Bool.false_and]at hJ
        refine aS (bf hi hl) ?_
        exact hI false hJ
  ·simp only[sS,sT,hy.len,eG]
   refine And.intro (fun h=>absurd h (by simp)) (fun _=>?_)
   rw[qv]at hJ
   refine And.intro (fun ht=>?_) (fun ht=>?_)
   ·rw[if_pos ht]at hJ
    rw[←hJ]
   ·rw[if_neg (by rw[ht];simp)]at hJ
    rw[←hJ]
def yi(k:Int)(n:List UInt8)(r:Bool)(l:List aq):Int:=orM (first (fun y=>y.kind==k&&(y.name==n&&y.cV==r)) l)
theorem XD(l:List aq){y:D}(hy:aL 6 (aM l) y)(hl:l.length≤maxLen)(k:Int)(n:List UInt8)(r:Bool):aF Try.prog gl 47 [.d y,.d (.int .i64 k),.d (.str n),.d (.bool r)] (.d (.int .i64 (yi k n r l))):=by
 refine a8 (aaY ..) fun br=>?_
 refine n9 (fun i=>∀(j:Nat)z,j<i→l[j]? =some z→(z.kind==k&&(z.name==n&&z.cV==r))=false) (fun i=>[.d y,.d (.int .i64 k),.d (.str n),.d (.bool r),.d (.int .i64 ((i:Nat):Int))]) (fun i=>[]) l.length (fun j t hj=>by omega) (fun i hi hJ I hI=>?_) (fun hJ I=>?_)
 ·simp only[sS,sT,hy.len,eG]
  refine And.intro (fun _=>?_) (fun h=>absurd h (by simp;omega))
  obtain⟨z,hz⟩:=get_some hi
  have nx:(z.kind==k&&(z.name==n&&z.cV==r))=false→∀(j:Nat)z,j<i+1→l[j]? =some z→(z.kind==k&&(z.name==n&&z.cV==r))=false:=fun h j z' hj je=>by
   rcases Nat.lt_or_ge j i with h2|h2
   ·exact hJ j z' h2 je
   ·have:j=i:=by omega
    subst this
    rw[hz]at je;cases je;exact h
  simp only[hy.at (mP hz),sS,HA,HB,HC,HX,HY,HZ,Bs]
  refine And.intro (fun h1=>?_) (fun h1=>?_)
  ·refine And.intro (fun h2=>?_) (fun h2=>?_)
   ·refine And.intro (fun h3=>?_) (fun h3=>?_)
    ·rw[yi,xF hz (by rw[h1,h2,h3];rfl) hJ];rfl
    ·refine aS (bf hi hl) ?_
     exact hI (nx (by rw[h3,Bool.and_false,Bool.and_false]))
   ·refine aS (bf hi hl) ?_
    exact hI (nx (by rw[h2,Bool.false_and,Bool.and_false]))
  ·refine aS (bf hi hl) ?_
   exact hI (nx (by rw[h1,Bool.false_and]))
 ·simp only[sS,sT,hy.len,eG]
  refine And.intro (fun h=>absurd h (by simp)) (fun _=>?_)
  rw[yi,xu fun j z hz=>hJ j z (List.getElem?_eq_some_iff.1 hz).1 hz]
  rfl
set_option maxRecDepth 100000
def w6:Hints:=⟨[(9,0),(9,3),(9,4),(17,0),(17,3),(17,4),(18,0),(18,1)],[(14,[3,5,6,7],[1,4,10,12,15,20,25,29,31,32,33,36,39,40,47,56,60]),(2000004,[3,5,28],[1,4,10,12,15,29,31,32,33,36,39,40,47,56,60]),(1000005,[3,5],[1,4,10,12,15,20,25,33,36,39,40,47,56,60]),(1000007,[3,5],[1,4,10,12,15,20,25,29,31,32,33,40,47,56,60]),(2000008,[3,5,51],[1,4,10,12,15,20,25,29,31,32,33,36,39,56,60]),(1000009,[3,5],[1,4,10,12,15,20,25,29,31,32,33,36,39,40,47,56,60]),(1000012,[3,5,6],[1,4,10,12,15,20,25,29,31,32,33,36,39,40,47,56]),(2000014,[3,5,6,7,78],[1,4,10,12,15,20,25,29,31,32,33,36,39,40,47,56,60])],[]⟩
noncomputable def qf:Code:=Try.f65.body.getD .skip
def acJ(a b:SV):List Slot:=[.v .undef,.p 0 0,.v .undef,.v a,.p 1 0,.v b,.v .undef,.v .undef,.v .undef,.v .undef,.p 0 4,.v .undef,.p 0 2,.v .undef,.v .undef,.p 0 0]++List.replicate 75 (.v .undef)
def abV(a b:SV):List Slot:=[.v .undef,.p 0 0,.v .undef,.v a,.p 1 0,.v b,.v .undef,.v .undef,.v .undef,.v .undef,.p 0 4,.v .undef,.p 0 2,.v .undef,.v .undef,.p 0 0]++(List.replicate 17 (.v .undef)++.p 1 0::List.replicate 57 (.v .undef))
set_option maxHeartbeats 1000000 in
theorem anV(C:bu)(x0:SV)(Q:Ex→Env→Prop):nq Try.prog gl C w6 ((iz qf).take 6) Q (enter 91 [x0])=(
 ab (aE (aa x0)) fun r0=>
 r0.length=55∧
 ab (ai true 55 0 r0) fun r1=>
 aU C 80 [aa (aa (aa r1))] fun r2=>
 ab (ai false 1 4 r0) fun r3=>
 ab (ai true 2 2 r0) fun r4=>
 ab (aT [(0,(.v (aa r2))),(1,(.v (aa (aa r3)))),(4,(.v (aa (aa r4))))]) fun r5=>
 ab (dF Try.prog 87 r5) fun r6=>
 ab (aE (.d r6)) fun r7=>
 r7.length=6∧
 6≤6∧
 ab (ai false 1 0 r0) fun r8=>
 ab (aj c9 .eql (aa (aa r8)) (.d (.int .i64 19))) fun r9=>
 sj (fun Vh=>
  ar (aa (aa (aa r9)))
   (ab (ai false 1 1 r0) fun bV=>
   ab (aj none .geq (aa (aa bV)) bo) fun bJ=>
   ar (aa (aa bJ))
    (ab (ai false 1 1 r0) fun bW=>
    ab (aj none .leq (aa (aa bW)) (.d (.int .i64 8))) fun bM=>
    (Vh [c7,aa r9,aa bM] [af.az (af.cells r0),af.az (af.cells (setAt [a9,c6,ca,c7,a9,a9] 0 r7))]))
    ((Vh [c7,aa r9,ca] [af.az (af.cells r0),af.az (af.cells (setAt [a9,c6,ca,c7,a9,a9] 0 r7))])))
   ((Vh [c7,aa r9,ca] [af.az (af.cells r0),af.az (af.cells (setAt [a9,c6,ca,c7,a9,a9] 0 r7))]))) (fun eH jx=>
  sj (fun Gv=>
   ar (ae eH 2)
    (ab (ai false 1 1 (an jx 0)) fun cP=>
    ab (aE (aa (aa cP))) fun cj=>
    cj.length=1∧
    1≤(List.length (an jx 1))∧
    ab (aE c5) fun cw=>
    cw.length=1∧
    3≤(List.length (setAt (an jx 1) 0 cj))∧
    (Gv [ae eH 0,ae eH 1] [af.az (af.cells (an jx 0)),af.az (af.cells (setAt (setAt (an jx 1) 0 cj) 2 cw))]))
    ((Gv [ae eH 0,ae eH 1] [af.az (af.again (an jx 0) (af.cells r0)),af.az (af.again (an jx 1) (af.cells (setAt [a9,c6,ca,c7,a9,a9] 0 r7)))]))) (fun kW jw=>
   (Q Ex.normal (Env.mk ([c8,.p (0+0) 0,c8,.v (ae kW 0),.p ((List.length [af.cells r0])+0) 0,.v (ae kW 1),c8,c8,c8,c8,.p (0+0) 4,c8,.p (0+0) 2,c8,c8,.p (0+0) 0]++List.replicate 75 c8) [af.again (an jw 0) (af.again (an jx 0) (af.cells r0)),af.again (an jw 1) (af.again (an jx 1) (af.cells (setAt [a9,c6,ca,c7,a9,a9] 0 r7)))]))))):=by kernel_rfl
set_option maxHeartbeats 1000000 in
theorem anW(C:bu)(a b:SV)(vz w7:List SV)(Q:Ex→Env→Prop):nq Try.prog gl C w6 (((iz qf).drop 6).take 4) Q ⟨acJ a b,[.cells vz,.cells w7]⟩=(
 ab (ai false 1 0 w7) fun r0=>
 ab (aj c9 .eql (aa (aa r0)) bo) fun r1=>
 sj (fun J4=>
  ar r1
   (ab (ai false 1 7 vz) fun r5=>
   aU C 48 [c7,aa (aa (aa r5))] fun r6=>
   ab (aE (aa r6)) fun r7=>
   r7.length=1∧
   4≤w7.length∧
   (J4 [a,b] [af.az (af.cells vz),af.az (af.cells (setAt w7 3 r7))]))
   ((J4 [a,b] [af.az (af.cells vz),af.az (af.cells w7)]))) (fun cM iU=>
  sj (fun Vi=>
   ab (ai false 1 0 (an iU 1)) fun bT=>
   ab (aj c9 .neq (aa (aa bT)) a9) fun bU=>
   ar (aa bU)
    (ab (eP .not (aa (aa (ae cM 1)))) fun bV=>
    ar (aa bV)
     ((Vi [ae cM 0,ae cM 1,c5] [af.az (af.cells (an iU 0)),af.az (af.cells (an iU 1))]))
     (ab (ai false 1 0 (an iU 1)) fun bJ=>
     ab (aj c9 .eql (aa (aa bJ)) bo) fun bW=>
     (Vi [ae cM 0,ae cM 1,aa (aa bW)] [af.az (af.cells (an iU 0)),af.az (af.cells (an iU 1))])))
    ((Vi [ae cM 0,ae cM 1,ca] [af.az (af.cells (an iU 0)),af.az (af.cells (an iU 1))]))) (fun fM pA=>
   sj (fun J18=>
    ar (ae fM 2)
     (ab (ai true 6 0 (an pA 1)) fun di=>
     ab (aT [(0,(.v (aa (aa di))))]) fun cP=>
     (bz 6 1 cP)=true∧
     cb 6 72 (ae fM 0) (.full 6 (bF (bI true [qY,qZ,rb,nw,qY,qY]) cP 1 0)) fun cj=>
     (J18 [cj,ae fM 1] [af.az (af.cells (an pA 0)),af.az (af.cells (an pA 1))]))
     ((J18 [ae fM 0,ae fM 1] [af.az (af.again (an pA 0) (af.again (an iU 0) (af.cells vz))),af.az (af.again (an pA 1) (af.again (an iU 1) (af.cells w7)))]))) (fun eu wi=>
    (Q Ex.normal (Env.mk ([c8,.p 0 0,c8,.v (ae eu 0),.p 1 0,.v (ae eu 1),c8,c8,c8,c8,.p 0 4,c8,.p 0 2,c8,c8,.p 0 0,c8,c8,c8,c8,c8,c8,c8,c8,c8,c8,c8,c8,c8,c8,c8,c8,c8,.p 1 0]++List.replicate 57 c8) [af.again (an wi 0) (af.again (an pA 0) (af.again (an iU 0) (af.cells vz))),af.again (an wi 1) (af.again (an pA 1) (af.again (an iU 1) (af.cells w7)))])))))):=by kernel_rfl
set_option maxHeartbeats 1000000 in
theorem anX(C:bu)(a b:SV)(vz w7:List SV)(K:SV→Prop):nq Try.prog gl C w6 ((iz qf).drop 10) (FG Try.prog Try.f65 K) ⟨abV a b,[.cells vz,.cells w7]⟩=(
 ab (ai false 1 7 vz) fun r0=>
 ab (eP .not (aa (aa b))) fun r1=>
 sj (fun J4=>
  ar r1
   (ab (ai false 1 8 vz) fun r5=>
   (J4 [a,b,aa (aa r5)] [af.az (af.cells vz),af.az (af.cells w7)]))
   ((J4 [a,b,aa (aa r0)] [af.az (af.cells vz),af.az (af.cells w7)]))) (fun cM iU=>
  bZ (fun nV w8 I8=>
   sj (fun OH=>
    ab (ba (aa (aa (ae nV 2)))) fun bU=>
    ab (aj none .lss (aa (aa (ae nV 3))) (aa bU)) fun bV=>
    ar (aa bV)
     (ar (aa (aa (ae nV 1)))
       (ab (ai false 1 0 (an w8 1)) fun bJ=>
       ab (aj none .gtr (aa (aa bJ)) bo) fun bW=>
       ar (aa (aa bW))
        ((OH [ae nV 0,ae nV 1,ae nV 2,ae nV 3,c5] [af.az (af.cells (an w8 0)),af.az (af.cells (an w8 1))]))
        (ab (ai false 1 0 (an w8 0)) fun bM=>
        ab (aj c9 .eql (aa (aa bM)) (.d (.int .i64 2))) fun ck=>
        (OH [ae nV 0,ae nV 1,ae nV 2,ae nV 3,aa (aa ck)] [af.az (af.cells (an w8 0)),af.az (af.cells (an w8 1))])))
       (ab (ai false 1 0 (an w8 0)) fun cf=>
       ab (aj c9 .eql (aa (aa cf)) (.d (.int .i64 2))) fun di=>
       (OH [ae nV 0,ae nV 1,ae nV 2,ae nV 3,aa (aa di)] [af.az (af.cells (an w8 0)),af.az (af.cells (an w8 1))])))
     ((OH [ae nV 0,ae nV 1,ae nV 2,ae nV 3,ca] [af.az (af.cells (an w8 0)),af.az (af.cells (an w8 1))]))) (fun ke tR=>
    ar (ae ke 4)
     (ab (aJ 1 (aa (aa (ae ke 2))) (aa (aa (ae ke 3)))) fun cP=>
     ab (aH false 1 (aa cP)) fun cj=>
     ab (aE (aa cj)) fun cw=>
     cw.length=1∧
     2≤(List.length (an tR 1))∧
     ab (ai true 6 0 (setAt (an tR 1) 1 cw)) fun cJ=>
     ab (aT [(0,(.v (aa (aa cJ))))]) fun cX=>
     (bz 6 1 cX)=true∧
     cb 6 72 (ae ke 0) (.full 6 (bF (bI true [qY,qZ,rb,nw,qY,qY]) cX 1 0)) fun cY=>
     ab (aj none .add (aa (aa (ae ke 3))) bo) fun dE=>
     (I8 [cY,ae ke 1,ae ke 2,aa dE] [af.az (af.cells (an tR 0)),af.az (af.cells (setAt (an tR 1) 1 cw))]))
     ((SV.aA (ae ke 0))=true∧
     (K (ae ke 0)))))
  [ae cM 0,ae cM 1,ae cM 2,a9] [af.az (af.cells (an iU 0)),af.az (af.cells (an iU 1))])):=by kernel_rfl
set_option maxRecDepth 4000
section
variable{P:Program}{gl:Nat→Option D}{C:bu}{h:Hints}
def nx(P:Program)(gl:Nat→Option D)(C:bu)(h:Hints)(m:List Code)(Q:Ex→Env→Prop)(x:Ex)(e:Env):Prop:=match x with| .normal =>nq P gl C h m Q e| .exit i=>Q (.exit i) e| .ret =>Q .ret e
theorem LU:∀(l m:List Code)(Q:Ex→Env→Prop)(e:Env),nq P gl C h (l++m) Q e=nq P gl C h l (nx P gl C h m Q) e
 |[],m,Q,e=>rfl
 |c::l,m,Q,e=>by
  show aw P gl C h c _ e=aw P gl C h c _ e
  congr 1
  funext x e'
  cases x with
  |normal=>exact LU l m Q e'
  |exit i=>rfl
  |ret=>rfl
theorem uI(c:Code)(Q:Ex→Env→Prop)(e:Env):aw P gl C h c Q e=nq P gl C h [c] Q e:=by
 show aw P gl C h c _ e=aw P gl C h c _ e
 congr 1
 funext x e'
 cases x<;>rfl
theorem Rj:∀(c:Code)(Q:Ex→Env→Prop)(e:Env),aw P gl C h c Q e=nq P gl C h (iz c) Q e
 | .seq a b,Q,e=>by
   show aw P gl C h a _ e=nq P gl C h (iz a++iz b) Q e
   rw[LU,←Rj a]
   congr 1
   funext x e'
   cases x with
   |normal=>exact Rj b Q e'
   |exit i=>rfl
   |ret=>rfl
 | .skip,Q,e=>uI _ _ _
 | .region ..,Q,e=>uI _ _ _
 | .cond ..,Q,e=>uI _ _ _
 | .block ..,Q,e=>uI _ _ _
 | .loop ..,Q,e=>uI _ _ _
 | .exit _,Q,e=>uI _ _ _
 | .ret,Q,e=>uI _ _ _
 | .goto _,Q,e=>uI _ _ _
 | .label _,Q,e=>uI _ _ _
 | .scope _,Q,e=>uI _ _ _
 | .rangeFunc ..,Q,e=>uI _ _ _
 | .refuse _,Q,e=>uI _ _ _
end
theorem apR:Try.prog.funcs[65]? =some Try.f65:=by kernel_rfl
theorem apS:Try.f65.body=some qf:=by kernel_rfl
theorem amh(C:bu)(x0:SV)(K:SV→Prop):body Try.prog gl C w6 65 [x0] K=ct [x0] (nq Try.prog gl C w6 ((iz qf).take 6) (nx Try.prog gl C w6 (((iz qf).drop 6).take 4) (nx Try.prog gl C w6 ((iz qf).drop 10) (FG Try.prog Try.f65 K))) (enter 91 [x0])):=by
 unfold body
 rw[apR]
 simp only[]
 rw[apS]
 simp only[]
 show ct [x0] (aw Try.prog gl C w6 qf (FG Try.prog Try.f65 K) (enter 91 [x0]))=_
 rw[Rj,←LU,←LU,List.append_assoc]
 have:(iz qf).take 6++(((iz qf).drop 6).take 4++(iz qf).drop 10)=iz qf:=by
  have h1:(iz qf).drop 10=((iz qf).drop 6).drop 4:=by rw[List.drop_drop]
  rw[h1,List.take_append_drop,List.take_append_drop]
 rw[this]
theorem uG{A:(List SV→List (List SV)→Prop)→Prop}{F:List SV→List (List SV)→Prop}(vs:List SV)(bs:List (List SV))(hA:∀J:List SV→List (List SV)→Prop,J vs bs→A J)(hF:F vs bs):sj A F:=hA F hF
theorem afA(l:List (List UInt8)):jO [] l=dedup l:=rfl
def sY(s:gI):aq:=if s.kind==19&&(decide (s.op≥1)&&decide (s.op≤8))then⟨s.op,s.name,true,[],s.line,s.gH⟩else⟨jM s.kind,s.name,false,[],s.line,s.gH⟩
def fN(s:gI):aq:=if(sY s).kind ==1 then{sY s with perms:=dedup s.list}else sY s
def nz(s:gI):Bool:=(fN s).kind != 0&&(!(s.kind==19)||(fN s).kind ==1)
def pC(s:gI):List (List UInt8):=if !(s.kind==19)then s.jT else s.list
def oP(s:gI):Bool:=(s.kind==19&&decide ((fN s).kind >1))||s.kind==2
def uq(x:aq)(n:List UInt8):aq:=⟨x.kind,n,x.cV,x.perms,x.line,x.gH⟩
def w9(s:gI):List aq:=(if nz s then [fN s]else [])++(if oP s then(pC s).map fun a=>uq (fN s) a else [])
theorem ah5(s:aq)(n:List UInt8):setAt (aq.cells s) 1 [.d (.str n)]=aq.cells (uq s n):=rfl
theorem ami(k:Int)(n:List UInt8)(b:Bool)(l c:Int)(p:List (List UInt8))(k':Int):setAt (setAt (aq.cells ⟨k,n,b,p,l,c⟩) 0 [.d (.int .i64 k')]) 2 [.d (.bool true)]=aq.cells ⟨k',n,true,p,l,c⟩:=rfl
theorem amj(k:Int)(n:List UInt8)(b:Bool)(l c:Int)(p:List (List UInt8))(k':Int):(setAt (aq.cells ⟨k,n,b,p,l,c⟩) 0 [.d (.int .i64 k')]).length =6:=rfl
theorem ajK(s:aq)(p:List (List UInt8)):setAt (aq.cells s) 3 [.d (bB 1 (cA p))]=aq.cells {s with perms:=p}:=rfl
theorem rL(b:Bool):aE (.d (.bool b))=some [.d (.bool b)]:=rfl
theorem rM(n:Int):aE (.d (.int .i64 n))=some [.d (.int .i64 n)]:=rfl
theorem qo(n:List UInt8):aE (.d (.str n))=some [.d (.str n)]:=rfl
def FT(s:gI):Nat→List UInt8
 |0=>(fN s).name
 |i+1=>(pC s).getD i []
theorem rT(x y:List SV):af.again x (.cells y)=.cells x:=rfl
theorem agH(l:List aq)(x:aq):aM l++[x.enc]=aM (l++[x]):=CP l x
theorem adw{s:gI}{x:D}(hs:wq s x)(hl:s.list.length≤2^30)(ha:s.jT.length≤2^30):aF Try.prog gl 65 [.d x] (aO 6 (aM (w9 s))):=by
 have hk:=adW hs
 cases hs with
 |mk r5 r6 bd al rest h jQ oL=>
  refine a8 (amh ..) fun br=>?_
  rw[anV]
  simp only[sS,sT,rT,kR,js,lE,mJ,mN,mK,oS,rL,j2,h]
  refine eD hk ?_
  simp only[sS,sT,gC,gn,iK,lF,mI]
  refine uG [.d (.sl .nil 0 []),.d (.bool (s.kind==19)),.d (.bool (s.kind==19&&(decide (s.op≥1)&&decide (s.op≤8))))] [jg s r5 r6 bd al rest,aq.cells ⟨jM s.kind,s.name,false,[],s.line,s.gH⟩] (fun J hJ=>?_) ?_
  ·refine And.intro (fun h1=>?_) (fun h1=>?_)
   ·refine And.intro (fun h2=>?_) (fun h2=>?_)
    ·simpa only[h1,h2,Bool.true_and]using hJ
    ·simpa only[h1,h2,Bool.true_and,Bool.false_and]using hJ
   ·simpa only[h1,Bool.false_and]using hJ
  simp only[sS,sT,mJ,gn,rM,j2]
  refine uG [.d (.sl .nil 0 []),.d (.bool (s.kind==19))] [jg s r5 r6 bd al rest,(sY s).cells] (fun J hJ=>?_) ?_
  ·refine And.intro (fun h1=>?_) (fun h1=>?_)
   ·simp only[sY,if_pos h1]at hJ
    simp only[ami,amj]
    exact⟨by decide,by decide,hJ⟩
   ·rw[sY,if_neg (by rw[h1];simp)]at hJ
    exact hJ
  show nq Try.prog gl _ w6 (((iz qf).drop 6).take 4) _ ⟨acJ (.d (.sl .nil 0 [])) (.d (.bool (s.kind==19))),[.cells (jg s r5 r6 bd al rest),.cells (sY s).cells]⟩
  rw[anW]
  simp only[sS,sT,rT,mL,gn,iv]
  refine uG [.d (.sl .nil 0 []),.d (.bool (s.kind==19))] [jg s r5 r6 bd al rest,(fN s).cells] (fun J hJ=>?_) ?_
  ·refine And.intro (fun h1=>?_) (fun h1=>?_)
   ·rw[fN,if_pos h1]at hJ
    refine bH (Py [] s.list (.nil 0 rfl) jQ (by decide) (by omega)) (jX _ _) ?_
    simp only[ej,xy,ajK,afA,sS,sT,j2]
    exact⟨by decide,hJ⟩
   ·rw[fN,if_neg (by rw[h1];simp)]at hJ
    exact hJ
  simp only[sS,sT,iv]
  refine uG [.d (.sl .nil 0 []),.d (.bool (s.kind==19)),.d (.bool (nz s))] [jg s r5 r6 bd al rest,(fN s).cells] (fun J hJ=>?_) ?_
  ·unfold nz at hJ
   refine And.intro (fun h1=>?_) (fun h1=>?_)
   ·refine And.intro (fun h2=>?_) (fun h2=>?_)
    ·simpa only[h1,h2,Bool.true_and,Bool.true_or]using hJ
    ·simpa only[h1,h2,Bool.true_and,Bool.false_or]using hJ
   ·simpa only[h1,Bool.false_and]using hJ
  simp only[sS,sT,fX]
  refine uG [aO 6 (aM (if nz s then [fN s]else [])),.d (.bool (s.kind==19))] [jg s r5 r6 bd al rest,(fN s).cells] (fun J hJ=>?_) ?_
  ·refine And.intro (fun h1=>?_) (fun h1=>?_)
   ·rw[if_pos h1]at hJ
    simp only[dG,lK,kp,sS,sT]
    exact WV (rK 6 _) (by show 1*72≤140737488355328;decide) hJ
   ·rw[if_neg (by rw[h1];simp)]at hJ
    exact hJ
  show nq Try.prog gl _ w6 ((iz qf).drop 10) _ ⟨abV (aO 6 (aM (if nz s then [fN s]else []))) (.d (.bool (s.kind==19))),[.cells (jg s r5 r6 bd al rest),.cells (fN s).cells]⟩
  rw[anX]
  simp only[iJ,sS,sT,mL,mM]
  have hM:∃mx,aL 1 (cA (pC s)) mx∧(s.kind==19)=false→mx=al:=⟨al,fun h=>rfl⟩
  obtain⟨mx,bX,hm⟩:∃mx,aL 1 (cA (pC s)) mx∧mx=(if !(s.kind==19)then al else bd):=by
   refine⟨_,?_,rfl⟩
   unfold pC
   cases (s.kind==19)<;>assumption
  have rD:(pC s).length ≤2^30:=by unfold pC;split<;>assumption
  refine uG [aO 6 (aM (if nz s then [fN s]else [])),.d (.bool (s.kind==19)),.d mx] [jg s r5 r6 bd al rest,(fN s).cells] (fun J hJ=>?_) ?_
  ·rw[hm]at hJ
   refine And.intro (fun h1=>?_) (fun h1=>?_)
   ·simp only[h1,if_true]at hJ;exact hJ
   ·simp only[h1,Bool.false_eq_true,if_false]at hJ;exact hJ
  clear hM hm
  simp only[sT]
  have nW:(if nz s then [fN s]else []).length ≤1:=by split<;>simp
  have bc:(fN s).cells =aq.cells (uq (fN s) (FT s 0)):=rfl
  rw[bc]
  have F9:aO 6 (aM (if nz s then [fN s]else []))=aO 6 (aM ((if nz s then [fN s]else [])++((pC s).take 0).map fun a=>uq (fN s) a)):=by simp
  rw[F9]
  refine eX (fun i=>[aO 6 (aM ((if nz s then [fN s]else [])++((pC s).take i).map fun a=>uq (fN s) a)),.d (.bool (s.kind==19)),.d mx,.d (.int .i64 ((i:Nat):Int))]) (fun i=>[jg s r5 r6 bd al rest,aq.cells (uq (fN s) (FT s i))]) (if oP s then(pC s).length else 0) (fun i hi I hI=>?_) (fun I=>?_)
  ·have hC:oP s=true:=by
    cases h:oP s with
    |true=>rfl
    |false=>rw[h]at hi;simp at hi
   rw[hC,if_pos rfl]at hi
   simp only[bX.len,iu,sS,sT,lE,iv]
   refine uG [aO 6 (aM ((if nz s then [fN s]else [])++((pC s).take i).map fun a=>uq (fN s) a)),.d (.bool (s.kind==19)),.d mx,.d (.int .i64 ((i:Nat):Int)),.d (.bool true)] [jg s r5 r6 bd al rest,aq.cells (uq (fN s) (FT s i))] (fun J hJ=>?_) ?_
   ·refine And.intro (fun _=>?_) (fun h=>absurd h (by simp;omega))
    unfold oP at hC
    refine And.intro (fun h1=>?_) (fun h1=>?_)
    ·rw[h1,Bool.true_and]at hC
     refine And.intro (fun h2=>?_) (fun h2=>?_)
     ·exact hJ
     ·have h2:decide ((fN s).kind >1)=false:=h2
      rw[h2,Bool.false_or]at hC
      rw[hC];exact hJ
    ·rw[h1,Bool.false_and,Bool.false_or]at hC
     rw[hC];exact hJ
   simp only[sS,sT,gn]
   refine And.intro (fun _=>?_) (fun h=>absurd h (by simp))
   obtain⟨t,ht⟩:=get_some hi
   have sU:FT s (i+1)=t:=by simp[FT,List.getD_eq_getElem?_getD,ht]
   simp only[bX.at (xL ht),Bn,ah5,fX,qo,dG,lK,kp,sS,sT,fX,qo,j2]
   refine⟨by decide,?_⟩
   refine gB (rK 6 _) (by simp only[eG,List.length_append,List.length_map,List.length_take,List.length_singleton];omega) ?_
   refine aS (bf hi (by simp only[maxLen];omega)) ?_
   rw[dT ht,List.map_append,←List.append_assoc,List.map_cons,List.map_nil,←agH,sU]at hI
   exact hI
  ·simp only[bX.len,iu,sS,sT,lE,iv]
   have fin:∀n:Nat,n=(if oP s then(pC s).length else 0)→aO 6 (aM ((if nz s then [fN s]else [])++((pC s).take n).map fun a=>uq (fN s) a))=aO 6 (aM (w9 s)):=fun n hn=>by
    subst hn
    unfold w9
    cases oP s<;>simp
   generalize hn:(if oP s then(pC s).length else 0)=n
   have fin:=fin n hn.symm
   refine uG [aO 6 (aM ((if nz s then [fN s]else [])++((pC s).take n).map fun a=>uq (fN s) a)),.d (.bool (s.kind==19)),.d mx,.d (.int .i64 (n:Int)),.d (.bool false)] [jg s r5 r6 bd al rest,aq.cells (uq (fN s) (FT s n))] (fun J hJ=>?_) ?_
   ·refine And.intro (fun aP=>?_) (fun _=>hJ)
    have aP:=of_decide_eq_true aP
    have hC:oP s=false:=by
     cases h:oP s with
     |false=>rfl
     |true=>rw[h,if_pos rfl]at hn;omega
    unfold oP at hC
    simp only[Bool.or_eq_false_iff]at hC
    refine And.intro (fun h1=>?_) (fun h1=>?_)
    ·rw[h1,Bool.true_and]at hC
     refine And.intro (fun h2=>?_) (fun h2=>?_)
     ·have h2:decide ((fN s).kind >1)=true:=h2
      rw[h2]at hC;cases hC.1
     ·rw[hC.2];exact hJ
    ·rw[hC.2];exact hJ
   simp only[sS,sT,gn]
   refine And.intro (fun h=>absurd h (by simp)) (fun _=>?_)
   simp only[jY,true_and]
   rw[fin]
theorem amk(s:gI):w9 s=cG s:=by
 obtain⟨kind,op,line,gH,name,list,jT⟩:=s
 by_cases JZ:kind=19
 ·subst JZ
  have d0:jM 19=0:=by decide
  by_cases h1:op=1
  ·subst h1
   simp[w9,nz,oP,fN,sY,cG,d0]
  ·by_cases h2:op>1∧op≤8
   ·have e1:decide (op≥1)=true:=by simp;omega
    have e2:decide (op≤8)=true:=by simp;omega
    have e3:decide (op>1)=true:=by simp;omega
    have e4:(op==1)=false:=by simp[h1]
    have e5:(op != 0)=true:=by simp;omega
    simp[w9,nz,oP,pC,fN,sY,cG,d0,uq,e1,e4,e5,h2.1,h2.2]
   ·have e1:(decide (op≥1)&&decide (op≤8))=false:=by simp;omega
    have e2:(decide (op>1)&&decide (op≤8))=false:=by simp;omega
    have e4:(op==1)=false:=by simp[h1]
    simp only[w9,nz,oP,fN,sY,cG,d0,e1,e4,Bool.and_assoc,e2,Bool.and_false,Bool.false_eq_true,if_false]
    simp
 ·have Vj:(kind==19)=false:=by simp[JZ]
  by_cases h2:kind=2
  ·subst h2
   have d2:jM 2=2:=by decide
   simp[w9,nz,oP,pC,fN,sY,cG,d2,uq]
  ·have k2:(kind==2)=false:=by simp[h2]
   have d2:(jM kind==2)=false:=by
    unfold jM
    simp only[k2]
    split
    ·decide
    ·simp only[Bool.false_eq_true,if_false]
     repeat' split
     all_goals decide
   by_cases hd:jM kind=0
   ·have lb:(jM kind != 0)=false:=by simp[hd]
    simp[w9,nz,oP,fN,sY,cG,Vj,k2,hd]
   ·have lb:(jM kind != 0)=true:=by simp[hd]
    by_cases AG:jM kind=1
    ·simp[w9,nz,oP,fN,sY,cG,Vj,k2,AG]
    ·have apT:(jM kind==1)=false:=by simp[AG]
     simp[w9,nz,oP,fN,sY,cG,Vj,k2,lb,d2,apT]
theorem Lh{s:gI}{x:aq}(h:x∈cG s):x.kind≠0:=by
 unfold cG at h
 split at h
 ·rename_i hd
  have hd:jM s.kind≠0:=by simpa using hd
  rcases List.mem_cons.1 h with rfl|h
  ·exact hd
  ·split at h
   ·obtain⟨a,_,rfl⟩:=List.mem_map.1 h
    exact hd
   ·cases h
 ·split at h
  ·rename_i hk
   simp only[Bool.and_eq_true,beq_iff_eq]at hk
   rcases List.mem_cons.1 h with rfl|h
   ·show s.op≠0
    rw[hk.2];decide
   ·cases h
  ·split at h
   ·rename_i hk
    simp only[Bool.and_eq_true,beq_iff_eq,decide_eq_true_eq]at hk
    obtain⟨a,_,rfl⟩:=List.mem_map.1 h
    show s.op≠0
    omega
   ·cases h
theorem aa6{k:Int}(h:k≠0):Fb k=GB k:=by
 unfold Fb GB
 have:(k==0)=false:=by simp[h]
 rw[this];simp
theorem XE{x:aq}(hx:x.kind≠0):∀{l:List aq}(tw:Bool),(∀y∈l,y.kind≠0)→qv x tw l=qA x tw l
 |[],tw,_=>rfl
 |y::l,tw,h=>by
  rw[qv,qA,aa6 hx,aa6 (h y (by simp))]
  have ih:=fun tw=>XE hx (l:=l) tw (fun z hz=>h z (by simp[hz]))
  rw[ih,ih,Bool.and_comm (!y.cV)]
theorem agI{x:aq}(hx:x.kind≠0){l:List aq}(h:∀y∈l,y.kind≠0):xV l x=qB l x:=by
 rw[xV,qB,XE hx _ h,Bool.and_comm]
def aa7(c:Int)(s:aq):D:=.agg [.int .i64 c,.int .i64 s.line,.int .i64 s.gH,.str s.name]
def aa8:D:=.agg [.int .i64 0,.int .i64 0,.int .i64 0,.str []]
def Mu(W:List aq):SV:=match ja [] W with
 |some (c,s)=>.aK [.d (.sl .nil 0 []),.d (aa7 c s)]
 |none=>.aK [aO 6 (aM W),.d aa8]
theorem HF(a b c d:D):aE (.d (.agg [a,b,c,d]))=some [.d a,.d b,.d c,.d d]:=rfl
theorem Iq{α:Type}(a b c d:α):[a,b,c,d].length =4:=rfl
theorem Ir(a b c d:SV)(x y z u:SV):setAt [a,b,c,d] 0 [x,y,z,u]=[x,y,z,u]:=rfl
theorem H4(a b c d:D):ai true 4 0 [.d a,.d b,.d c,.d d]=some (.d (.agg [a,b,c,d])):=rfl
theorem afB{ax:List gI}{i:Nat}{s:gI}(h:ax[i]? =some s):((ax.take i).flatMap cG).length +(cG s).length ≤(ax.flatMap cG).length :=by
 rw[PJ h,List.length_append,List.length_append];omega
theorem agJ(ax:List gI){L:List D}{xs:D}(hx:aL 55 L xs)(hs:Fv ax L)(hn:ax.length≤maxLen)(hl:(ax.flatMap cG).length ≤2^30):
  aF Try.prog gl 45 [.d xs] (Mu (ax.flatMap cG)):=by
 refine a8 (ak3 ..) fun br=>?_
 have hlen:=hs.len
 have kinds:∀x∈ax.flatMap cG,x.kind≠0:=fun x hx=>by
  obtain⟨s,_,h⟩:=List.mem_flatMap.1 hx
  exact Lh h
 generalize hW:ax.flatMap cG=W at kinds hl ⊢
 have hWW:W=ax.flatMap cG:=hW.symm
 refine n9 (fun i=>ja [] W=ja ((ax.take i).flatMap cG) ((ax.drop i).flatMap cG)) (fun i=>[.d xs,aO 6 (aM ((ax.take i).flatMap cG)),.d (.int .i64 ((i:Nat):Int))]) (fun i=>[[.d (.int .i64 0),.d (.int .i64 0),.d (.int .i64 0),.d (.str [])]]) ax.length (by rw[List.take_zero,List.drop_zero,hW];rfl) (fun i hi hJ I hI=>?_) (fun hJ I=>?_)
 ·simp only[sS,sT,sZ,hx.len,hlen]
  refine And.intro (fun _=>?_) (fun h=>absurd h (by simp;omega))
  obtain⟨s,pB⟩:=get_some hi
  obtain⟨y,hy,bc,b1,b2,b3⟩:=hs.at_ i s pB
  have hle:=afB pB
  rw[hW]at hle
  have RQ:=PJ pB
  rw[hW]at RQ
  simp only[hx.at hy,bc.load,sS]
  refine bH (adw bc b1 b2) (jX _ _) ?_
  rw[amk]
  simp only[ej]
  have hv:=cm 6 (aM (cG s))
  generalize bB 6 (aM (cG s))=v at hv ⊢
  have anY:(ax.drop i).flatMap cG=cG s++(ax.drop (i+1)).flatMap cG:=by rw[zi pB,List.flatMap_cons]
  have wh:aO 6 (aM ((ax.take i).flatMap cG))=aO 6 (aM ((ax.take i).flatMap cG++(cG s).take 0)):=by rw[List.take_zero,List.append_nil]
  rw[wh]
  refine n9 (fun k=>ja [] W=ja ((ax.take i).flatMap cG++(cG s).take k) ((cG s).drop k++(ax.drop (i+1)).flatMap cG)) (fun k=>[.d xs,aO 6 (aM ((ax.take i).flatMap cG++(cG s).take k)),.d (.int .i64 (i:Int)),.d v,.d (.int .i64 ((k:Nat):Int))]) (fun k=>[[.d (.int .i64 0),.d (.int .i64 0),.d (.int .i64 0),.d (.str [])]]) (cG s).length (by rw[List.take_zero,List.append_nil,List.drop_zero,hJ,anY]) (fun k hk lW I2 cF=>?_) (fun lW I2=>?_)
  ·simp only[sS,sT,hv.len,eG,ej]
   refine And.intro (fun _=>?_) (fun h=>absurd h (by simp;omega))
   obtain⟨z,hz⟩:=get_some hk
   simp only[hv.at (mP hz),rS,sS]
   have gG:((ax.take i).flatMap cG++(cG s).take k).length ≤2^30:=by rw[List.length_append,List.length_take];omega
   have qT:z.kind≠0:=Lh (List.mem_of_getElem? hz)
   have hpk:∀y∈(ax.take i).flatMap cG++(cG s).take k,y.kind≠0:=fun y hy=>by
    rcases List.mem_append.1 hy with h|h
    ·obtain⟨s',_,h⟩:=List.mem_flatMap.1 h
     exact Lh h
    ·exact Lh (List.mem_of_mem_take h)
   refine eD (adX ((ax.take i).flatMap cG++(cG s).take k) z (cm 6 _) (by simp only[maxLen];omega)) ?_
   rw[agI qT hpk]
   rw[zi hz,List.cons_append,ja]at lW
   simp only[sS]
   refine And.intro (fun h=>?_) (fun h=>?_)
   ·have bg:¬qB ((ax.take i).flatMap cG++(cG s).take k) z=0:=by simpa using h
    rw[if_neg bg]at lW
    simp only[HB,HE,HY,H3,Hk,sS,sT,lF,WS,HF,Iq,Ir,H4]
    rw[Mu,lW]
    rfl
   ·have he:qB ((ax.take i).flatMap cG++(cG s).take k) z=0:=by simpa using h
    rw[if_pos he]at lW
    simp only[sS,sT,dG,lK,kp]
    refine gB (rK 6 _) (by rw[eG];simp only[List.length_singleton];omega) ?_
    refine aS (bf hk (by simp only[maxLen];omega)) ?_
    rw[CP]
    rw[dT hz,←List.append_assoc]at cF
    refine cF ?_
    exact lW
  ·simp only[sS,sT,hv.len,eG]
   refine And.intro (fun h=>absurd h (by simp)) (fun _=>?_)
   refine aS (bf hi hn) ?_
   rw[List.take_length]at lW ⊢
   rw[List.drop_length,List.nil_append]at lW
   have e:(ax.take (i+1)).flatMap cG=(ax.take i).flatMap cG++cG s:=by rw[dT pB,List.flatMap_append];simp
   rw[e]at hI
   exact hI lW
 ·simp only[sS,sT,sZ,hx.len,hlen]
  refine And.intro (fun h=>absurd h (by simp)) (fun _=>?_)
  rw[List.drop_length,List.take_length,hW,List.flatMap_nil,ja]at hJ
  simp only[uB,HF,Iq,Ir,H4,sS,sT]
  rw[Mu,hJ,List.take_length,hW]
  simp only[jY,true_and]
  rfl
def DD(l:List (List UInt8)):Prop:=dedup l=l
theorem Ze:∀(l acc:List (List UInt8)),acc.Nodup→(l.foldl lN acc).Nodup
 |[],acc,h=>h
 |s::l,acc,h=>by
  rw[List.foldl_cons]
  refine Ze l _ ?_
  unfold lN
  split
  ·exact h
  ·rename_i hs
   rw[List.nodup_append]
   refine⟨h,by simp,fun a ha b hb=>?_⟩
   have:b=s:=by simpa using hb
   subst this
   intro he
   subst he
   exact hs (Hj.2 ha)
theorem WW(l:List (List UInt8)):(dedup l).Nodup :=Ze l [] List.nodup_nil
theorem Zf:∀(l acc:List (List UInt8)),(acc++l).Nodup →l.foldl lN acc=acc++l
 |[],acc,h=>by simp
 |s::l,acc,h=>by
  have hs:gr s acc=false:=by
   cases hh:gr s acc with
   |false=>rfl
   |true=>
    have h1:=Hj.1 hh
    have h2:=(List.nodup_append.1 h).2.2 s h1 s (by simp)
    exact absurd rfl h2
  rw[List.foldl_cons,lN,hs,if_neg (by simp),Zf l (acc++[s]) (by rw[List.append_assoc];exact h)]
  simp
theorem aml{l:List (List UInt8)}:DD l↔l.Nodup:=by
 constructor
 ·intro h;rw[←h];exact WW l
 ·intro h;exact Zf l [] (by simpa using h)
theorem QP(l:List (List UInt8)):DD (dedup l):=aml.2 (WW l)
theorem ajL{l m:List (List UInt8)}(h:DD l):jO l m=dedup (l++m):=by
 unfold dedup jO
 rw[List.foldl_append]
 have:l.foldl lN []=l:=h
 rw[this]
theorem ajM{s:gI}{x:aq}(h:x∈cG s):DD x.perms:=by
 unfold cG at h
 split at h
 ·rcases List.mem_cons.1 h with rfl|h
  ·show DD (if jM s.kind==1 then dedup s.list else [])
   split
   ·exact QP _
   ·exact rfl
  ·split at h
   ·obtain⟨a,_,rfl⟩:=List.mem_map.1 h
    exact rfl
   ·cases h
 ·split at h
  ·rcases List.mem_cons.1 h with rfl|h
   ·exact QP _
   ·cases h
  ·split at h
   ·obtain⟨a,_,rfl⟩:=List.mem_map.1 h
    exact rfl
   ·cases h
def DA(s:aq)(out:List aq):Option Nat:=first (fun y=>y.kind==s.kind&&(y.name==s.name&&y.cV==true)) out
def BL(all:List aq)(s:aq):Bool:=s.cV&&(wo s.kind s.name||decide (yi s.kind s.name false all≥0))
def Kc(y:aq)(p:List (List UInt8)):aq:=⟨y.kind,y.name,y.cV,p,y.line,y.gH⟩
def vM(all out:List aq)(s:aq):List aq:=
 if BL all s then out else
 if s.cV then(match DA s out with
  |some j=>(match out[j]? with|some y=>out.set j (Kc y (jO y.perms s.perms))|none=>out)
  |none=>out++[s])
 else out++[s]
def zp(all:List aq)(l:List aq):List aq:=l.foldl (vM all) []
theorem ah6{α:Type}(p:α→Bool)(l:List α):(first p l).isSome =l.any p:=by
 induction l with
 |nil=>rfl
 |cons x l ih=>
  unfold first
  split
  ·rename_i h;simp[h]
  ·rename_i h
   have h:p x=false:=by simpa using h
   rw[List.any_cons,h,Bool.false_or,←ih]
   cases first p l<;>rfl
theorem ah7(o:Option Nat):decide (orM o≥0)=o.isSome:=by
 cases o with
 |none=>rfl
 |some j=>simp[orM]
theorem agK(all:List aq)(s:aq):decide (yi s.kind s.name false all≥0)=lO all s:=by
 rw[yi,ah7,ah6,lO]
 congr 1
 funext y
 unfold iM
 cases y.cV<;>cases (y.kind==s.kind)<;>cases (y.name==s.name)<;>rfl
structure B2(all out:List aq):Prop where
 dd:∀y∈out,DD y.perms
 dec:∀y∈out,y.cV=false→lO all y=true
 cV:∀y∈out,y.cV=true→lO all y=false
 one:∀(i j:Nat)y z,out[i]? =some y→out[j]? =some z→y.cV=true→iM z y=true→i=j
theorem XF{all:List aq}{y z:aq}(h:iM y z=true):lO all y=lO all z:=by
 simp only[iM,Bool.and_eq_true,beq_iff_eq]at h
 simp only[lO,iM,h.1,h.2]
theorem P5{s:aq}:∀{l:List aq},jN s l=none→∀y∈l,iM y s=false
 |[],_,y,h=>by simp at h
 |z::l,h,y,hy=>by
  rw[jN]at h
  cases hl:jN s l with
  |some j=>rw[hl]at h;cases h
  |none=>
   rw[hl]at h
   simp only at h
   split at h
   ·cases h
   ·rename_i hz
    rcases List.mem_cons.1 hy with rfl|hy
    ·simpa using hz
    ·exact P5 hl y hy
theorem agL{all out:List aq}(hB:B2 all out){s:aq}(hs:lO all s=false):DA s out=jN s out:=by
 cases hl:jN s out with
 |some j=>
  obtain⟨y,hy,ui⟩:=LA hl
  have mu:y.cV=true:=by
   cases h:y.cV with
   |true=>rfl
   |false=>
    have:=hB.dec y (List.mem_of_getElem? hy) h
    rw[XF ui,hs]at this
    cases this
  simp only[iM,Bool.and_eq_true,beq_iff_eq]at ui
  refine xF hy (by rw[ui.1,ui.2,mu];simp) fun i z hi hz=>?_
  cases iC:(z.kind==s.kind&&(z.name==s.name&&z.cV==true))with
  |false=>rfl
  |true=>
   exfalso
   simp only[Bool.and_eq_true,beq_iff_eq]at iC
   have:=hB.one j i y z hy hz mu (by simp[iM,ui.1,ui.2,iC.1,iC.2.1])
   omega
 |none=>
  refine xu fun i z hz=>?_
  have:=P5 hl z (List.mem_of_getElem? hz)
  unfold iM at this
  cases h1:(z.kind==s.kind)with
  |false=>rfl
  |true=>
   rw[h1,Bool.true_and]at this
   rw[this];rfl
theorem step_eq{all out:List aq}(hB:B2 all out){s:aq}(pY:s∈all)(Kd:DD s.perms):vM all out s=tt all out s∧B2 all (tt all out s):=by
 have anZ:BL all s=(s.cV&&(lO all s||wo s.kind s.name)):=by rw[BL,agK,Bool.or_comm]
 unfold vM tt
 rw[anZ]
 cases hk:(s.cV&&(lO all s||wo s.kind s.name))with
 |true=>exact⟨rfl,by simpa using hB⟩
 |false=>
  simp only[Bool.false_eq_true,if_false]
  have snoc:(∀y∈out,iM y s=true→y.cV=false∧s.cV=false)→(s.cV=true→lO all s=false)→B2 all (out++[s]):=fun ff hd=>by
   refine⟨fun y hy=>?_,fun y hy hr=>?_,fun y hy hr=>?_,fun i j y z hy hz hr cE=>?_⟩
   ·rcases List.mem_append.1 hy with h|h
    ·exact hB.dd y h
    ·have:y=s:=by simpa using h
     subst this;exact Kd
   ·rcases List.mem_append.1 hy with h|h
    ·exact hB.dec y h hr
    ·have:y=s:=by simpa using h
     subst this
     rw[lO,List.any_eq_true]
     exact⟨y,pY,by simp[hr,iM]⟩
   ·rcases List.mem_append.1 hy with h|h
    ·exact hB.cV y h hr
    ·have:y=s:=by simpa using h
     subst this;exact hd hr
   ·rcases Nat.lt_or_ge i out.length with hi|hi<;>rcases Nat.lt_or_ge j out.length with hj|hj
    ·rw[List.getElem?_append_left hi]at hy
     rw[List.getElem?_append_left hj]at hz
     exact hB.one i j y z hy hz hr cE
    ·exfalso
     rw[List.getElem?_append_left hi]at hy
     rw[List.getElem?_append_right hj]at hz
     have iC:z=s:=by
      have:=List.mem_of_getElem? hz
      simpa using this
     subst iC
     have h1:=ff y (List.mem_of_getElem? hy) (by simp only[iM,Bool.and_eq_true,beq_iff_eq]at cE ⊢;exact⟨cE.1.symm,cE.2.symm⟩)
     rw[hr]at h1;cases h1.1
    ·exfalso
     rw[List.getElem?_append_right hi]at hy
     rw[List.getElem?_append_left hj]at hz
     have ui:y=s:=by
      have:=List.mem_of_getElem? hy
      simpa using this
     subst ui
     have h1:=ff z (List.mem_of_getElem? hz) cE
     rw[hr]at h1;cases h1.2
    ·have h1:=(List.getElem?_eq_some_iff.1 hy).1
     have h2:=(List.getElem?_eq_some_iff.1 hz).1
     simp at h1 h2
     omega
  cases hr:s.cV with
  |false=>
   have cE:∀y∈out,iM y s=true→y.cV=false∧s.cV=false:=fun y hy hs=>by
    refine⟨?_,hr⟩
    cases h:y.cV with
    |false=>rfl
    |true=>
     have h1:=hB.cV y hy h
     rw[XF hs]at h1
     have:lO all s=true:=by
      rw[lO,List.any_eq_true]
      exact⟨s,pY,by simp[hr,iM]⟩
     rw[this]at h1;cases h1
   have mU:=snoc cE (fun h=>by rw[hr]at h;cases h)
   cases jN s out with
   |none=>exact⟨by simp,mU⟩
   |some j=>exact⟨by simp,by simpa using mU⟩
  |true=>
   rw[hr,Bool.true_and,Bool.or_eq_false_iff]at hk
   rw[agL hB hk.1]
   simp only[if_true]
   cases hl:jN s out with
   |none=>
    exact⟨rfl,snoc (fun y hy hs=>by rw[P5 hl y hy]at hs;cases hs) (fun _=>hk.1)⟩
   |some j=>
    obtain⟨y,hy,ui⟩:=LA hl
    have JE:=hB.dd y (List.mem_of_getElem? hy)
    have lg:=(List.getElem?_eq_some_iff.1 hy).1
    simp only[hy]
    have hm:Kc y (jO y.perms s.perms)=Bw y s:=by rw[ajL JE];rfl
    rw[hm]
    refine⟨rfl,?_⟩
    have mem:∀z∈out.set j (Bw y s),z∈out∨z=Bw y s:=fun z hz=>List.mem_or_eq_of_mem_set hz
    refine⟨fun z hz=>?_,fun z hz nR=>?_,fun z hz nR=>?_,fun i k z u hz hu nR cE=>?_⟩
    ·rcases mem z hz with h|rfl
     ·exact hB.dd z h
     ·exact QP _
    ·rcases mem z hz with h|rfl
     ·exact hB.dec z h nR
     ·exact hB.dec y (List.mem_of_getElem? hy) nR
    ·rcases mem z hz with h|rfl
     ·exact hB.cV z h nR
     ·exact hB.cV y (List.mem_of_getElem? hy) nR
    ·have back:∀(i:Nat)z,(out.set j (Bw y s))[i]? =some z→∃z',out[i]? =some z'∧z'.cV=z.cV∧z'.kind=z.kind∧z'.name=z.name:=fun i z hz=>by
      rw[List.getElem?_set]at hz
      split at hz
      ·rename_i nh
       subst nh
       cases hz
       exact⟨y,hy,rfl,rfl,rfl⟩
      ·exact⟨z,hz,rfl,rfl,rfl⟩
     obtain⟨z',a1,a2,a3,a4⟩:=back i z hz
     obtain⟨u',b1,b2,b3,b4⟩:=back k u hu
     refine hB.one i k z' u' a1 b1 (by rw[a2];exact nR) ?_
     unfold iM at cE ⊢
     rw[b3,b4,a3,a4];exact cE
theorem aa9{all:List aq}:∀(l out:List aq),(∀s∈l,s∈all∧DD s.perms)→B2 all out→l.foldl (vM all) out=l.foldl (tt all) out
 |[],out,_,_=>rfl
 |s::l,out,h,hB=>by
  have:=step_eq hB (h s (by simp)).1 (h s (by simp)).2
  rw[List.foldl_cons,List.foldl_cons,this.1]
  exact aa9 l _ (fun t ht=>h t (by simp[ht])) this.2
theorem B2.nil(all:List aq):B2 all []:=⟨fun y h=>by simp at h,fun y h=>by simp at h,fun y h=>by simp at h,fun i j y z h=>by simp at h⟩
theorem Yt{all l:List aq}(h:∀s∈l,s∈all∧DD s.perms):zp all l=jL all l:=aa9 l [] h (B2.nil all)
theorem ah8(l:List aq):(bj (aM l)).map aa=bj (aM l):=by
 induction l with
 |nil=>rfl
 |cons s l ih=>rw[CH,List.map_append,ih];rfl
theorem LV(k:Nat)(hk:k<6):∀(l:List aq)(j:Nat)(y:aq),l[j]? =some y→(bj (aM l))[j*6+k]? =((kE y).map SV.d)[k]?
 |[],j,y,h=>by simp at h
 |s::l,0,y,h=>by
  simp at h;subst h
  rw[CH,Nat.zero_mul,Nat.zero_add,List.getElem?_append_left (by simp[kE];omega)]
 |s::l,j+1,y,h=>by
  rw[CH,List.getElem?_append_right (by simp[kE];omega)]
  have:(j+1)*6+k-((kE s).map SV.d).length =j*6+k:=by simp[kE];omega
  rw[this]
  exact LV k hk l j y (by simpa using h)
theorem Zg(n sz:Nat)(cs:List SV):ba (.dg n sz cs)=some (.d (.int .i64 n)):=rfl
theorem Zh(n sz:Nat)(cs:List SV):aa (.dg n sz cs)=.dg n sz cs:=rfl
theorem ajN{n sz i:Nat}{cs:List SV}(h:i<n):aJ sz (.dg n sz cs) (.d (.int .i64 (i:Int)))=some (.ref cs (i*sz)):=by
 simp only[aJ,jJ h,if_true]
theorem ah9(cs:List SV)(o n:Nat):bR (.ref cs o) n=some (.ref cs (o+n)):=rfl
theorem ajO(cs:List SV)(o:Nat):aH false 1 (.ref cs o)=(match cs[o]? with|some z=>some (aa z)|none=>none):=rfl
theorem aeA(l:List aq)(hl:l.length≤maxLen)(k:Int)(n:List UInt8)(r:Bool):aF Try.prog gl 47 [.dg l.length 6 (bj (aM l)),.d (.int .i64 k),.d (.str n),.d (.bool r)] (.d (.int .i64 (yi k n r l))):=by
 refine a8 (aaY ..) fun br=>?_
 refine n9 (fun i=>∀(j:Nat)z,j<i→l[j]? =some z→(z.kind==k&&(z.name==n&&z.cV==r))=false) (fun i=>[.dg l.length 6 (bj (aM l)),.d (.int .i64 k),.d (.str n),.d (.bool r),.d (.int .i64 ((i:Nat):Int))]) (fun i=>[]) l.length (fun j t hj=>by omega) (fun i hi hJ I hI=>?_) (fun hJ I=>?_)
 ·simp only[sS,sT,Zh,Zg]
  refine And.intro (fun _=>?_) (fun h=>absurd h (by simp;omega))
  obtain⟨z,hz⟩:=get_some hi
  have nx:(z.kind==k&&(z.name==n&&z.cV==r))=false→∀(j:Nat)z,j<i+1→l[j]? =some z→(z.kind==k&&(z.name==n&&z.cV==r))=false:=fun h j z' hj je=>by
   rcases Nat.lt_or_ge j i with h2|h2
   ·exact hJ j z' h2 je
   ·have:j=i:=by omega
    subst this
    rw[hz]at je;cases je;exact h
  have c0:=LV 0 (by decide) l i z hz
  have c1:=LV 1 (by decide) l i z hz
  have c2:=LV 2 (by decide) l i z hz
  have d0:((kE z).map SV.d)[0]? =some (.d (.int .i64 z.kind)):=rfl
  have d1:((kE z).map SV.d)[1]? =some (.d (.str z.name)):=rfl
  have d2:((kE z).map SV.d)[2]? =some (.d (.bool z.cV)):=rfl
  rw[d0]at c0
  rw[d1]at c1
  rw[d2]at c2
  rw[Nat.add_zero]at c0
  generalize bj (aM l)=cs at hI c0 c1 c2 ⊢
  simp only[ajN hi,ajE,ah9,Nat.add_zero,ajO,c0,c1,c2,sS,Bs]
  refine And.intro (fun h1=>?_) (fun h1=>?_)
  ·refine And.intro (fun h2=>?_) (fun h2=>?_)
   ·refine And.intro (fun h3=>?_) (fun h3=>?_)
    ·rw[yi,xF hz (by rw[h1,h2,h3];rfl) hJ];rfl
    ·refine aS (bf hi hl) ?_
     exact hI (nx (by rw[h3,Bool.and_false,Bool.and_false]))
   ·refine aS (bf hi hl) ?_
    exact hI (nx (by rw[h2,Bool.false_and,Bool.and_false]))
  ·refine aS (bf hi hl) ?_
   exact hI (nx (by rw[h1,Bool.false_and]))
 ·simp only[sS,sT,Zh,Zg]
  refine And.intro (fun h=>absurd h (by simp)) (fun _=>?_)
  rw[yi,xu fun j z hz=>hJ j z (List.getElem?_eq_some_iff.1 hz).1 hz]
  rfl
theorem Yu(s:aq)(out:List aq):yi s.kind s.name true out=orM (DA s out):=rfl
theorem aia{W:List aq}{s:aq}(h:s∈W):s.perms.length≤dt W:=by
 obtain⟨i,hi⟩:=List.mem_iff_getElem?.1 h
 have h1:=Cz hi
 have h2:=Ey W (i+1)
 omega
theorem stepR_skip{W out:List aq}{s:aq}(h:BL W s=true):vM W out s=out:=by rw[vM,if_pos h]
theorem Qo{W out:List aq}{s:aq}(h:BL W s=false)(hn:s.cV=true→DA s out=none):vM W out s=out++[s]:=by
 rw[vM,if_neg (by rw[h];simp)]
 cases hr:s.cV with
 |false=>simp
 |true=>rw[if_pos rfl,hn hr]
theorem agM{W out:List aq}{s y:aq}{j:Nat}(h:BL W s=false)(hr:s.cV=true)(hq:DA s out=some j)(hy:out[j]? =some y):vM W out s=out.set j (Kc y (jO y.perms s.perms)):=by
 rw[vM,if_neg (by rw[h];simp),if_pos hr,hq]
 simp only[hy]
def B3(l:List aq):SV:=match ja [] l with
 |some (c,s)=>.aK [.d (.sl .nil 0 []),.d (.agg [.int .i64 c,.int .i64 s.line,.int .i64 s.gH,.str s.name])]
 |none=>.aK [aO 6 (aM (jL l l)),.d (.agg [.int .i64 0,.int .i64 0,.int .i64 0,.str []])]
theorem Ww(ax:List gI){L:List D}{xs:D}(hx:aL 55 L xs)(hs:Fv ax L)(hn:ax.length≤maxLen)(hl:(ax.flatMap cG).length ≤2^30)(hp:dt (ax.flatMap cG)≤2^30):
  aF Try.prog gl 22 [.d xs] (B3 (ax.flatMap cG)):=by
 refine a8 (akV ..) fun br=>?_
 have fO:=agJ ax hx hs hn hl
 have Kd:∀s∈ax.flatMap cG,s∈ax.flatMap cG∧DD s.perms:=fun s h=>⟨h,by obtain⟨t,_,ht⟩:=List.mem_flatMap.1 h;exact ajM ht⟩
 generalize ax.flatMap cG=W at fO Kd hl hp ⊢
 have eC:W.length≤maxLen:=by simp only[maxLen];omega
 unfold Mu at fO
 unfold B3
 simp only[sS,sT,sZ]
 cases hc:ja [] W with
 |some cs=>
  obtain⟨c,s⟩:=cs
  rw[hc]at fO
  refine call2 fO ?_
  have bg:=LD W [] c s hc
  simp only[sS,sT,aa7,HF,Iq,Ir,H4,gf]
  refine And.intro (fun _=>?_) (fun h=>absurd h (by simp[bg]))
  first|rfl|exact⟨rfl,rfl⟩|trivial
 |none=>
  rw[hc]at fO
  refine call2 fO ?_
  simp only[sS,sT,aa8,HF,Iq,Ir,H4,gf,ej,Zb]
  refine And.intro (fun h=>absurd h (by simp)) (fun _=>?_)
  let fz:List SV:=[.d (.int .i64 0),.d (.int .i64 0),.d (.int .i64 0),.d (.str [])]
  refine eX (fun i=>[.d (bB 6 (aM W)),sI (zp W (W.take i)),.d (.int .i64 ((i:Nat):Int))]) (fun i=>[fz,fz]) W.length (fun i hi I hI=>?_) (fun I=>?_)
  ·simp only[sS,sT,(cm 6 (aM W)).len,eG]
   refine And.intro (fun _=>?_) (fun h=>absurd h (by simp;omega))
   obtain⟨s,pB⟩:=get_some hi
   have xa:=bf hi eC
   simp only[(cm 6 (aM W)).at (mP pB),rS,gC,gn,iK,fX,iv,ic,iI,sS,sT]
   have jt:zp W (W.take (i+1))=vM W (zp W (W.take i)) s:=by rw[dT pB,zp,zp,List.foldl_append];rfl
   have heq:zp W (W.take i)=jL W (W.take i):=Yt fun t ht=>Kd t (List.mem_of_mem_take ht)
   have hlen:=P3 W W i
   have FR:=Wv W W i
   have apQ:=Ey W i
   have ml:=aia (List.mem_of_getElem? pB)
   rw[←heq]at hlen FR
   rw[jt]at hI
   generalize zp W (W.take i)=out at hI hlen FR ⊢
   refine uG [.d (bB 6 (aM W)),sI out,.d (.int .i64 (i:Int)),.d (.bool (BL W s))] [fz,fz,s.cells] (fun J hJ=>?_) ?_
   ·unfold BL at hJ
    refine And.intro (fun h1=>?_) (fun h1=>?_)
    ·refine eD (P4 s) ?_
     simp only[sS]
     refine And.intro (fun h2=>?_) (fun h2=>?_)
     ·rw[h1,h2]at hJ;exact hJ
     ·refine eD (XD W (cm 6 _) eC _ _ _) ?_
      rw[h1,h2,Bool.true_and,Bool.false_or]at hJ
      simp only[sS]
      exact hJ
    ·rw[h1,Bool.false_and]at hJ;exact hJ
   simp only[sS,sT]
   refine And.intro (fun hk=>?_) (fun hk=>?_)
   ·rw[stepR_skip hk]at hI
    refine aS xa ?_
    exact hI
   refine Hm (fun bg=>?_) (fun he=>?_)
   ·simp only[iv,ic,iI,lD,fX,ah8,eG,sS]
    refine eD (aeA out (by simp only[maxLen];omega) _ _ _) ?_
    rw[Yu]
    simp only[sS]
    refine And.intro (fun hr=>?_) (fun hr=>?_)
    ·cases hq:DA s out with
     |none=>
      simp only[orM]
      refine And.intro (fun h=>absurd h (by decide)) (fun _=>?_)
      simp only[Bj,Bg,dG,lK,kp,sS,sT]
      refine Hn (by omega) ?_
      refine aS xa ?_
      rw[Qo hk (fun _=>hq)]at hI
      exact hI
     |some j=>
      obtain⟨y,hy,_⟩:=CG hq
      have hj:j<out.length:=(List.getElem?_eq_some_iff.1 hy).1
      have hyp:=FR y (List.mem_of_getElem? hy)
      rw[agM hk hr hq hy]at hI
      simp only[orM]
      refine And.intro (fun _=>?_) (fun h=>absurd h (by simp))
      simp only[jJ hj,Rh,Qm out j y hy,sS]
      refine bH (Py y.perms s.perms (cm 1 _) (cm 1 _) (by omega) (by omega)) (jX _ _) ?_
      have hg:=Bg (out.set j (Kc y (jO y.perms s.perms)))
      rw[List.length_set]at hg
      have bc:(bj (aM out)).set (j*6+3) (.d (bB 1 (cA (jO y.perms s.perms))))=bj (aM (out.set j (Kc y (jO y.perms s.perms)))):=QO out j y (jO y.perms s.perms) hy
      simp only[ej,xy,sS,sT,Z3,j2]
      rw[bc]
      refine⟨by rw[QN];omega,?_⟩
      simp only[Bj,sS]
      refine aS hg ?_
      refine aS xa ?_
      rw[Rg (by intro h;have h2:=congrArg List.length h;simp only[List.length_set,List.length_nil]at h2;omega)]at hI
      exact hI
    ·simp only[Bj,Bg,dG,lK,kp,sS,sT]
     refine Hn (by omega) ?_
     refine aS xa ?_
     rw[Qo hk (fun h=>by rw[hr]at h;cases h)]at hI
     exact hI
   ·subst he
    simp only[iv,ic,iI,lD,fX,Lf,sS]
    refine eD (XD [] (.nil ji rfl) (by decide) _ _ _) ?_
    have hq:DA s []=none:=rfl
    rw[Yu,hq]
    have cF:I [.d (bB 6 (aM W)),sI [s],.d (.int .i64 ((i+1:Nat):Int))] [fz,fz]:=by
     rw[Qo hk (fun _=>hq)]at hI
     exact hI
    simp only[orM,sS]
    refine And.intro (fun hr=>?_) (fun hr=>?_)
    ·refine And.intro (fun h=>absurd h (by decide)) (fun _=>?_)
     simp only[dG,lK,kp,sS,sT]
     refine G9 ?_
     refine aS xa ?_
     exact cF
    ·simp only[dG,lK,kp,sS,sT]
     refine G9 ?_
     refine aS xa ?_
     exact cF
  ·simp only[sS,sT,(cm 6 (aM W)).len,eG]
   refine And.intro (fun h=>absurd h (by simp)) (fun _=>?_)
   have heq:zp W (W.take W.length)=jL W W:=by rw[List.take_length];exact Yt Kd
   rw[heq]
   simp only[Zc,uB,HF,Iq,sS,sT]
   refine⟨Nat.le_refl 4,jY _ _,?_⟩
   exact And.intro rfl rfl
theorem adx{m:Ea}{d:D}(hd:Nz m d)(hm:Tw m):aF Try.prog gl 21 [.d d] (B3 m.syms):=by
 cases hd with
 |mk xs L hx hs=>
 refine a8 (akU ..) fun br=>?_
 simp only[EN,Dz,Ho,sS,sT,sZ]
 have hB:=Ww m.ax hx hs (Nat.le_trans hm.n (by decide)) hm.l hm.p
 have e:m.ax.flatMap cG=m.syms:=rfl
 rw[e]at hB
 unfold B3 at hB ⊢
 cases hc:ja [] m.syms with
 |none=>
  simp only[hc]at hB ⊢
  refine call2 hB ?_
  simp only[dv,dw,fu,dH,jY,sS,sT]
 |some p=>
  obtain⟨c,s⟩:=p
  simp only[hc]at hB ⊢
  refine call2 hB ?_
  simp only[dv,dw,fu,dH,sS,sT]
inductive ah where
 |mk (s:gI) (th el:List ah)
def ah.s:ah→gI| .mk s _ _=>s
def ah.th:ah→List ah| .mk _ a _=>a
def ah.el:ah→List ah| .mk _ _ b=>b
mutual
def ah.sz:ah→Nat
 | .mk _ a b=>1+ah.bQ a+ah.bQ b
def ah.bQ:List ah→Nat
 |[]=>0
 |t::l=>t.sz+ah.bQ l
end
mutual
inductive l6:ah→D→Prop
 |mk (s:gI) (th el:List ah) (r5 r6 bd al:D) (rest:List D) (yt ye:D) (Lt Le:List D) (h:rest.length=46) (hl:aL 1 (cA s.list) bd) (ha:aL 1 (cA s.jT) al) (ht:rest[44]? =some yt) (he:rest[45]? =some ye)
   (OI:aL 55 Lt yt) (Gl:aL 55 Le ye) (fL:fm th Lt) (fG:fm el Le):l6 (.mk s th el) (.agg (mE s r5 r6 bd al rest))
inductive fm:List ah→List D→Prop
 |nil:fm [] []
 |cons (t:ah) (x:D) (l:List ah) (L:List D) (h:l6 t x) (hl:fm l L):fm (t::l) (x::L)
end
theorem fm.len:∀{l:List ah}{L:List D},fm l L→L.length=l.length
 |[],_,h=>by cases h;rfl
 |t::l,_,h=>by cases h with|cons _ _ _ _ _ hl=>simp[hl.len]
theorem fm.at_:∀{l:List ah}{L:List D},fm l L→∀{i:Nat}{t:ah},l[i]? =some t→∃y,L[i]? =some y∧l6 t y
 |[],_,_,i,t,h=>by simp at h
 |t::l,_,h,0,u,hu=>by cases h with|cons _ x _ _ h hl=>simp at hu;subst hu;exact⟨x,rfl,h⟩
 |t::l,_,h,i+1,u,hu=>by cases h with|cons _ _ _ _ _ hl=>simpa using hl.at_ (by simpa using hu)
theorem ah.BM:∀{l:List ah}{i:Nat}{t:ah},l[i]? =some t→t.sz≤ah.bQ l
 |[],i,t,h=>by simp at h
 |u::l,0,t,h=>by simp at h;subst h;simp[ah.bQ]
 |u::l,i+1,t,h=>by
  have:=ah.BM (l:=l) (i:=i) (t:=t) (by simpa using h)
  simp only[ah.bQ];omega
theorem ah.tz:∀(l:List ah),l.length≤ah.bQ l
 |[]=>by simp
 | .mk s a b::l=>by
   have:=ah.tz l
   simp only[List.length_cons,ah.bQ,ah.sz];omega
theorem ah.zj(t:ah):t.sz=1+ah.bQ t.th+ah.bQ t.el:=by cases t;rfl
structure TC(t:ah)(x:D)(c:List SV)(bd al yt ye:D)(Lt Le:List D):Prop where
 is:wq t.s x
 load:aH true 55 (.aX x 0)=some (.d x)
 cells:aE (.d x)=some c
 len:c.length=55
 p0:ai false 1 0 c=some (.d (.int .i64 t.s.kind))
 Ke:ai false 1 53 c=some (.d yt)
 Kf:ai false 1 54 c=some (.d ye)
 whole:ai true 55 0 c=some (.d x)
 l0:aH false 1 (.aX x 0)=some (.d (.int .i64 t.s.kind))
 l7:aH false 1 (.aX x 7)=some (.d bd)
 l8:aH false 1 (.aX x 8)=some (.d al)
 GC:aH false 1 (.aX x 53)=some (.d yt)
 GD:aH false 1 (.aX x 54)=some (.d ye)
 IS:aL 1 (cA t.s.list) bd
 Ge:aL 1 (cA t.s.jT) al
 iV:aL 55 Lt yt
 fo:aL 55 Le ye
 fL:fm t.th Lt
 fG:fm t.el Le
theorem l6.out{t:ah}{x:D}(h:l6 t x):∃c bd al yt ye Lt Le,TC t x c bd al yt ye Lt Le:=by
 cases h with
 |mk s th el r5 r6 bd al rest yt ye Lt Le h hl ha ht he OI Gl fL fG=>
  have hs:wq s (.agg (mE s r5 r6 bd al rest)):=.mk r5 r6 bd al rest h hl ha
  have Eb:(mE s r5 r6 bd al rest)[53]? =some yt:=ht
  have Ec:(mE s r5 r6 bd al rest)[54]? =some ye:=he
  have c53:(jg s r5 r6 bd al rest)[53]? =some (.d yt):=by
   show(rest.map SV.d)[44]? =_
   rw[List.getElem?_map,ht];rfl
  have c54:(jg s r5 r6 bd al rest)[54]? =some (.d ye):=by
   show(rest.map SV.d)[45]? =_
   rw[List.getElem?_map,he];rfl
  exact⟨jg s r5 r6 bd al rest,bd,al,yt,ye,Lt,Le,hs,hs.load,rfl,by rw[js,h],rfl,by rw[ai,cond_false,c53],by rw[ai,cond_false,c54],oS s r5 r6 bd al rest h,rfl,
   xw _ 7 _ rfl,xw _ 8 _ rfl,xw _ 53 _ Eb,xw _ 54 _ Ec,hl,ha,OI,Gl,fL,fG⟩
theorem jl(x:D)(n:Nat):bR (.aX x 0) n=some (.aX x n):=by simp[bR]
theorem vN{z c:List SV}{n:Nat}(hz:z.length=n)(h:c.length=n):setAt z 0 c=c:=XA (by rw[h,hz])
mutual
def ah.nb:ah→Nat
 | .mk s a b=>if s.kind==18 then 1+ah.aB a+ah.aB b else 0
def ah.aB:List ah→Nat
 |[]=>0
 |t::l=>t.nb+ah.aB l
end
theorem ah.zQ(t:ah):t.nb=if t.s.kind==18 then 1+ah.aB t.th+ah.aB t.el else 0:=by cases t;rfl
theorem ah.Bx(l:List ah):ah.aB l=(l.map ah.nb).sum :=by
 induction l with
 |nil=>rfl
 |cons t l ih=>simp[ah.aB,ih]
theorem ah.QQ{l:List ah}{i:Nat}{t:ah}(h:l[i]? =some t):ah.aB (l.take (i+1))=ah.aB (l.take i)+t.nb:=by
 rw[dT h,ah.Bx,ah.Bx];simp
mutual
theorem ah.an0:∀(t:ah),t.nb≤t.sz
 | .mk s a b=>by
   have h1:=ah.qC a
   have h2:=ah.qC b
   simp only[ah.nb,ah.sz]
   split<;>omega
theorem ah.qC:∀(l:List ah),ah.aB l≤ah.bQ l
 |[]=>by simp[ah.aB]
 |t::l=>by
  have h1:=ah.an0 t
  have h2:=ah.qC l
  simp only[ah.aB,ah.bQ];omega
end
theorem PL:∀(n:Nat)(ts:List ah){L:List D}{x:D},ah.bQ ts≤n→aL 55 L x→fm ts L→ah.bQ ts≤2^30→aF Try.prog gl 37 [.d x] (.d (.int .i64 (ah.aB ts:Int)))
 |0,ts,L,x,hn,hx,hs,hb=>by
  have h0:=ah.tz ts
  have:ts=[]:=List.length_eq_zero_iff.1 (by omega)
  subst this
  cases hs
  refine a8 (aa0 ..) fun br=>?_
  simp only[hx.len,sS,sT,sZ]
  refine eX (fun i=>[.d (.int .i64 0),.d x,.d (.int .i64 ((0:Nat):Int)),.d (.int .i64 ((i:Nat):Int))]) (fun i=>[]) 0 (fun i hi I hI=>absurd hi (by omega)) (fun I=>?_)
  simp only[sS,sT]
  refine And.intro (fun h=>absurd h (by simp)) (fun _=>?_)
  rfl
 |n+1,ts,L,x,hn,hx,hs,hb=>by
  have h0:=ah.tz ts
  have bX:ts.length≤maxLen:=Nat.le_trans (Nat.le_trans h0 hb) (by decide)
  refine a8 (aa0 ..) fun br=>?_
  simp only[hx.len,hs.len,sS,sT,sZ]
  refine eX (fun i=>[.d (.int .i64 (ah.aB (ts.take i):Int)),.d x,.d (.int .i64 (ts.length:Int)),.d (.int .i64 ((i:Nat):Int))]) (fun i=>[]) ts.length (fun i hi I hI=>?_) (fun I=>?_)
  ·simp only[sS,sT]
   refine And.intro (fun _=>?_) (fun h=>absurd h (by simp;omega))
   obtain⟨t,ht⟩:=get_some hi
   obtain⟨y,hy,eU⟩:=hs.at_ ht
   obtain⟨c,bd,al,yt,ye,Lt,Le,hc⟩:=eU.out
   have fk:=vN (z:=ik) (c:=c) rfl hc.len
   simp only[sZ]at fk
   have hz:=ah.BM ht
   have AE:=t.zj
   have fZ:=ah.QQ ht
   have xb:=ah.qC (ts.take (i+1))
   rw[fZ]at hI
   have hle:ah.aB (ts.take (i+1))≤ah.aB ts:=by
    rw[ah.Bx,ah.Bx,←List.take_append_drop (i+1) ts,List.map_append,List.sum_append,List.take_append_drop];omega
   have asi:=ah.qC ts
   rw[t.zQ]at hI fZ
   simp only[hx.at hy,hc.load,hc.cells,hc.len,fk,hc.p0,sS,sT]
   refine And.intro (fun hk=>?_) (fun hk=>?_)
   ·rw[if_pos hk]at hI fZ
    have k1:=PL n t.th (by omega) hc.iV hc.fL (by omega)
    have k2:=PL n t.el (by omega) hc.fo hc.fG (by omega)
    simp only[hc.Ke,hc.Kf,sS]
    refine eD k1 ?_
    refine aS (ES (m:=1) (n:=ah.aB t.th) (by omega)) ?_
    refine eD k2 ?_
    refine aS (ES (m:=1+ah.aB t.th) (n:=ah.aB t.el) (by omega)) ?_
    refine aS (ES (m:=ah.aB (ts.take i)) (n:=1+ah.aB t.th+ah.aB t.el) (by omega)) ?_
    refine aS (bf hi bX) ?_
    exact hI
   ·rw[if_neg (by rw[hk];simp),Nat.add_zero]at hI
    refine aS (bf hi bX) ?_
    exact hI
  ·simp only[sS,sT]
   refine And.intro (fun h=>absurd h (by simp)) (fun _=>?_)
   rw[List.take_length]
theorem LX{α β:Type}{f:α→List β}{c:Nat}:∀{l:List α},(∀x∈l,(f x).length ≤c)→(l.flatMap f).length ≤l.length*c
 |[],_=>by simp
 |x::l,h=>by
  have h1:=h x (by simp)
  have h2:=LX (l:=l) fun y hy=>h y (by simp[hy])
  rw[List.flatMap_cons,List.length_append,List.length_cons,Nat.succ_mul]
  omega
theorem Z4{c:Nat}:∀{W:List aq},(∀x∈W,x.perms.length≤c)→dt W≤W.length*c
 |[],_=>by simp[dt]
 |x::W,h=>by
  have h1:=h x (by simp)
  have h2:=Z4 (W:=W) fun y hy=>h y (by simp[hy])
  unfold dt at h2 ⊢
  rw[List.map_cons,List.sum_cons,List.length_cons,Nat.succ_mul]
  omega
theorem P6(s:gI)(h1:s.list.length≤40)(h2:s.jT.length≤40):(cG s).length ≤41∧∀x∈cG s,x.perms.length≤40:=by
 have hd:=P2 s.list
 constructor
 ·unfold cG
  split
  ·rw[List.length_cons]
   split
   ·rw[List.length_map];omega
   ·simp
  ·split
   ·simp
   ·split
    ·rw[List.length_map];omega
    ·simp
 ·intro x h
  unfold cG at h
  split at h
  ·rcases List.mem_cons.1 h with rfl|h
   ·show(if jM s.kind==1 then dedup s.list else []).length ≤40
    split
    ·omega
    ·simp
   ·split at h
    ·obtain⟨a,_,rfl⟩:=List.mem_map.1 h
     simp
    ·cases h
  ·split at h
   ·rcases List.mem_cons.1 h with rfl|h
    ·show(dedup s.list).length ≤40
     omega
    ·cases h
   ·split at h
    ·obtain⟨a,_,rfl⟩:=List.mem_map.1 h
     simp
    ·cases h
mutual
def ah.vA:ah→Nat→Option Nat
 | .mk s a b,n=>match n with
   |0=>none
   |n+1=>if 30<s.list.length then none else if 30<s.jT.length then none else(ah.jz a n).bind (ah.jz b)
def ah.jz:List ah→Nat→Option Nat
 |[],n=>some n
 |t::l,n=>(t.vA n).bind (ah.jz l)
end
theorem ah.abW(t:ah):t.vA 0=none:=by cases t;rfl
theorem ah.amm(t:ah)(n:Nat):t.vA (n+1)=if 30<t.s.list.length then none else if 30<t.s.jT.length then none else(ah.jz t.th n).bind (ah.jz t.el):=by cases t;rfl
theorem ah.QR:∀(a b:List ah)(n:Nat),ah.jz (a++b) n=(ah.jz a n).bind (ah.jz b)
 |[],b,n=>rfl
 |t::a,b,n=>by
  rw[List.cons_append,ah.jz,ah.jz]
  cases t.vA n with
  |none=>rfl
  |some m=>exact ah.QR a b m
theorem ah.agN{l:List ah}{i:Nat}{t:ah}(h:l[i]? =some t)(n:Nat):ah.jz (l.take (i+1)) n=(ah.jz (l.take i) n).bind t.vA:=by
 rw[dT h,ah.QR]
 congr 1
 funext m
 rw[ah.jz]
 cases t.vA m<;>rfl
theorem ah.aib{l:List ah}{i n:Nat}(h:ah.jz (l.take i) n=none):ah.jz l n=none:=by
 rw[←List.take_append_drop i l,ah.QR,h];rfl
mutual
def ah.ok:ah→Prop
 | .mk s a b=>s.list.length≤30∧s.jT.length≤30∧ah.tc a∧ah.tc b
def ah.tc:List ah→Prop
 |[]=>True
 |t::l=>t.ok∧ah.tc l
end
theorem ah.ok_eq(t:ah):t.ok=(t.s.list.length≤30∧t.s.jT.length≤30∧ah.tc t.th∧ah.tc t.el):=by cases t;rfl
theorem ah.C5:∀{l:List ah},ah.tc l→∀t∈l,t.ok
 |[],_,t,h=>by simp at h
 |u::l,h,t,ht=>by
  simp only[ah.tc]at h
  rcases List.mem_cons.1 ht with rfl|ht
  ·exact h.1
  ·exact ah.C5 h.2 t ht
mutual
theorem ah.amn:∀(t:ah)(n m:Nat),t.vA n=some m→m+t.sz=n∧t.ok
 |t,0,m,h=>by rw[ah.abW]at h;cases h
 | .mk s a b,n+1,m,h=>by
   simp only[ah.vA]at h
   split at h
   ·cases h
   ·split at h
    ·cases h
    ·obtain⟨k,h1,h2⟩:=Option.bind_eq_some_iff.1 h
     have k1:=ah.EU a n k h1
     have k2:=ah.EU b k m h2
     simp only[ah.sz,ah.ok]
     exact⟨by omega,by omega,by omega,k1.2,k2.2⟩
theorem ah.EU:∀(l:List ah)(n m:Nat),ah.jz l n=some m→m+ah.bQ l=n∧ah.tc l
 |[],n,m,h=>by simp[ah.jz]at h;simp[ah.bQ,ah.tc,h]
 |t::l,n,m,h=>by
  simp only[ah.jz]at h
  obtain⟨k,h1,h2⟩:=Option.bind_eq_some_iff.1 h
  have k1:=ah.amn t n k h1
  have k2:=ah.EU l k m h2
  simp only[ah.bQ,ah.tc]
  exact⟨by omega,k1.2,k2.2⟩
end
theorem aL.Ai{sz:Nat}{L:List D}{x:D}(h:aL sz L x)(hw:x.Wf):L.length≤maxLen:=by
 cases h with
 |nil s h=>subst h;simp
 |ro=>exact hw.1
theorem sub_one{n:Nat}(h1:n+1≤2^40):aj none .sub (.d (.int .i64 ((n+1:Nat):Int))) (.d (.int .i64 1))=some (.d (.int .i64 (n:Int))):=by
 have h2:(2^40:Nat)=1099511627776:=by decide
 have hw:IntKind.i64.wrap (((n+1:Nat):Int)-1)=(n:Int):=by
  rw[wrap_i64 (by omega) (by omega)];omega
 simp only[aj,gZ,lJ,hw,↓reduceIte]
theorem HG(o:Option Nat):decide (orM o<0)=o.isNone:=by
 cases o with
 |none=>decide
 |some k=>exact decide_eq_false (by simp only[orM];omega)
theorem Qp:∀(N:Nat)(ts:List ah){L:List D}{x:D}(n:Nat),ah.bQ ts≤N→aL 55 L x→fm ts L→n≤2^40→aF Try.prog gl 28 [.d x,.d (.int .i64 (n:Int))] (.d (.int .i64 (orM (ah.jz ts n))))
 |0,ts,L,x,n,hN,hx,hs,hn=>by
  have h0:=ah.tz ts
  have:ts=[]:=List.length_eq_zero_iff.1 (by omega)
  subst this
  cases hs
  refine a8 (aaZ ..) fun br=>?_
  simp only[hx.len,sS,sT]
  refine eX (fun i=>[.d x,.d (.int .i64 (n:Int)),.d (.int .i64 ((0:Nat):Int)),.d (.int .i64 ((i:Nat):Int))]) (fun i=>[]) 0 (fun i hi I hI=>absurd hi (by omega)) (fun I=>?_)
  simp only[sS,sT]
  refine And.intro (fun h=>absurd h (by simp)) (fun _=>?_)
  rfl
 |N+1,ts,L,x,n,hN,hx,hs,hn=>by
  refine a8 (aaZ ..) fun br=>?_
  have bX:ts.length≤maxLen:=by
   rw[←hs.len]
   exact hx.Ai br.1
  simp only[hx.len,hs.len,sS,sT]
  refine xG (α:=Nat) (fun i m=>ah.jz (ts.take i) n=some m) (fun i m=>[.d x,.d (.int .i64 (m:Int)),.d (.int .i64 (ts.length:Int)),.d (.int .i64 ((i:Nat):Int))]) (fun i m=>[]) ts.length n rfl (fun i m hi hJ I hI=>?_) (fun m hJ I=>?_)
  ·simp only[sS,sT]
   refine And.intro (fun _=>?_) (fun h=>absurd h (by simp;omega))
   obtain⟨t,ht⟩:=get_some hi
   obtain⟨y,hy,eU⟩:=hs.at_ ht
   obtain⟨c,bd,al,yt,ye,Lt,Le,hc⟩:=eU.out
   have hz:=ah.BM ht
   have AE:=t.zj
   have nk:=ah.agN ht n
   have Kg:=fun h=>ah.aib (l:=ts) (i:=i+1) (n:=n) h
   have rD:=(ah.EU _ _ _ hJ).1
   rw[hJ,Option.bind_some]at nk
   cases m with
   |zero=>
    rw[ah.abW]at nk
    refine And.intro (fun _=>?_) (fun h=>absurd h (by decide))
    rw[Kg nk]
    rfl
   |succ m=>
   refine And.intro (fun h=>absurd h (by simp;omega)) (fun _=>?_)
   rw[t.amm]at nk
   simp only[hx.at hy,jl,hc.l7,hc.l8,hc.GC,hc.GD,hc.IS.len,hc.Ge.len,iu,sS]
   refine And.intro (fun h=>?_) (fun h=>?_)
   ·rw[if_pos (by simp at h;omega)]at nk
    rw[Kg nk]
    rfl
   rw[if_neg (by simp at h;omega)]at nk
   refine And.intro (fun h=>?_) (fun h=>?_)
   ·rw[if_pos (by simp at h;omega)]at nk
    rw[Kg nk]
    rfl
   rw[if_neg (by simp at h;omega)]at nk
   refine aS (sub_one (by omega)) ?_
   refine eD (Qp N t.th m (by omega) hc.iV hc.fL (by omega)) ?_
   cases h1:ah.jz t.th m with
   |none=>
    rw[h1]at nk
    rw[Kg nk]
    simp only[Bt,HG,Option.isSome_none,Option.isNone_none,sS]
    exact⟨fun h=>absurd h (by decide),fun _=>⟨fun _=>rfl,fun h=>absurd h (by decide)⟩⟩
   |some k=>
    have hk:=(ah.EU _ _ _ h1).1
    rw[h1,Option.bind_some]at nk
    simp only[Bt,HG,Option.isSome_some,Option.isNone_some,sS]
    refine⟨fun _=>?_,fun h=>absurd h (by decide)⟩
    refine eD (Qp N t.el k (by omega) hc.fo hc.fG (by omega)) ?_
    cases h2:ah.jz t.el k with
    |none=>
     rw[h2]at nk
     rw[Kg nk]
     simp only[HG,Option.isNone_none,sS]
     exact⟨fun _=>rfl,fun h=>absurd h (by decide)⟩
    |some k2=>
     rw[h2]at nk
     simp only[HG,Option.isNone_some,sS]
     refine⟨fun h=>absurd h (by decide),fun _=>?_⟩
     refine aS (bf hi bX) ?_
     exact hI k2 nk
  ·simp only[sS,sT]
   refine And.intro (fun h=>absurd h (by simp)) (fun _=>?_)
   rw[List.take_length]at hJ
   rw[hJ]
   rfl
structure bt where
 name:List UInt8
 nv:Int
 ax:List ah
inductive mW(m:bt):D→Prop
 |mk (xs:D) (L:List D) (hx:aL 55 L xs) (hs:fm m.ax L):mW m (.agg [.str m.name,.int .i64 m.nv,xs])
structure sq(l:List bt)(L:List D):Prop where
 len:L.length=l.length
 at_:∀{i:Nat}{m:bt},l[i]? =some m→∃y,L[i]? =some y∧mW m y
def tA(l:List bt):Bool:=decide (l.length≤8)&&l.all fun m=>(ah.jz m.ax 120).isSome
theorem Mv(a b c:D):aH false 1 (.aX (.agg [a,b,c]) 2)=some (.d c):=rfl
theorem aeB{l:List bt}{L:List D}{x:D}(hx:aL 3 L x)(hl:sq l L):aF Try.prog gl 9 [.d x] (.d (.bool (tA l))):=by
 refine a8 (anO ..) fun br=>?_
 have bX:l.length≤maxLen:=by
  rw[←hl.len]
  exact hx.Ai br.1
 simp only[hx.len,hl.len,sS,sT]
 refine And.intro (fun h=>?_) (fun h=>?_)
 ·have:tA l=false:=by unfold tA;rw[decide_eq_false (by simp at h;omega)];rfl
  rw[this]
 have h8:decide (l.length≤8)=true:=decide_eq_true (by simp at h;omega)
 refine n9 (fun i=>∀j m,j<i→l[j]? =some m→(ah.jz m.ax 120).isSome =true) (fun i=>[.d x,.d (.int .i64 (l.length:Int)),.d (.int .i64 ((i:Nat):Int))]) (fun i=>[]) l.length (fun j m hj _=>by omega) (fun i hi hJ I hI=>?_) (fun hJ I=>?_)
 ·simp only[sS,sT]
  refine And.intro (fun _=>?_) (fun h=>absurd h (by simp;omega))
  obtain⟨m,hm⟩:=get_some hi
  obtain⟨y,hy,hZ⟩:=hl.at_ hm
  cases hZ with
  |mk xs Lm zb cE=>
  simp only[hx.at hy,jl,Mv,sS]
  refine eD (Qp _ m.ax 120 (Nat.le_refl _) zb cE (by decide)) ?_
  simp only[HG,sS]
  refine And.intro (fun h=>?_) (fun h=>?_)
  ·have:tA l=false:=by
    unfold tA
    rw[Bool.and_eq_false_iff]
    right
    rw[List.all_eq_false]
    exact⟨m,List.mem_of_getElem? hm,by cases hc:ah.jz m.ax 120<;>simp_all⟩
   rw[this]
  ·refine aS (bf hi bX) ?_
   refine hI fun j m' hj mz=>?_
   rcases Nat.lt_or_ge j i with h2|h2
   ·exact hJ j m' h2 mz
   ·have:j=i:=by omega
    subst this
    rw[hm]at mz
    cases mz
    cases hc:ah.jz m.ax 120<;>simp_all
 ·simp only[sS,sT]
  refine And.intro (fun h=>absurd h (by simp)) (fun _=>?_)
  have:tA l=true:=by
   unfold tA
   rw[h8,Bool.true_and,List.all_eq_true]
   intro m hm
   obtain⟨j,hj⟩:=List.mem_iff_getElem?.1 hm
   exact hJ j m (List.getElem?_eq_some_iff.1 hj).1 hj
  rw[this]
structure dk(ts:List ah):Prop where
 sz:ah.bQ ts≤120
 ok:ah.tc ts
theorem dk.of{ts:List ah}{m:Nat}(h:ah.jz ts 120=some m):dk ts:=by
 have:=ah.EU ts 120 m h
 exact⟨by omega,this.2⟩
theorem dk.th{ts:List ah}(h:dk ts){t:ah}(ht:t∈ts):dk t.th∧dk t.el:=by
 obtain⟨i,hi⟩:=List.mem_iff_getElem?.1 ht
 have h1:=ah.BM hi
 have h2:=t.zj
 have h3:=ah.C5 h.ok t ht
 have h4:=h.sz
 rw[t.ok_eq]at h3
 exact⟨⟨by omega,h3.2.2.1⟩,⟨by omega,h3.2.2.2⟩⟩
def oz(ts:List ah):List aq:=(ts.map ah.s).flatMap cG
theorem dk.syms{ts:List ah}(h:dk ts):(oz ts).length ≤4920∧dt (oz ts)≤196800:=by
 have hn:(ts.map ah.s).length ≤120:=by rw[List.length_map];exact Nat.le_trans (ah.tz ts) h.sz
 have hb:∀s∈ts.map ah.s,s.list.length≤40∧s.jT.length≤40:=fun s hs=>by
  obtain⟨t,ht,rfl⟩:=List.mem_map.1 hs
  have:=ah.C5 h.ok t ht
  rw[t.ok_eq]at this
  omega
 have h1:(oz ts).length ≤(ts.map ah.s).length *41:=LX fun s hs=>(P6 s (hb s hs).1 (hb s hs).2).1
 have h2:dt (oz ts)≤(oz ts).length *40:=Z4 fun x hx=>by
  obtain⟨s,hs,hx⟩:=List.mem_flatMap.1 hx
  exact(P6 s (hb s hs).1 (hb s hs).2).2 x hx
 omega
theorem dk.is{ts:List ah}(h:dk ts){L:List D}(hs:fm ts L):Fv (ts.map ah.s) L:=by
 refine⟨by rw[List.length_map];exact hs.len,fun i s hi=>?_⟩
 rw[List.getElem?_map]at hi
 obtain⟨t,ht,rfl⟩:=Option.map_eq_some_iff.1 hi
 obtain⟨y,hy,eU⟩:=hs.at_ ht
 obtain⟨c,bd,al,yt,ye,Lt,Le,hc⟩:=eU.out
 have:=ah.C5 h.ok t (List.mem_of_getElem? ht)
 rw[t.ok_eq]at this
 have hz:=(P6 t.s (by omega) (by omega)).1
 exact⟨y,hy,hc.is,by omega,by omega,by omega⟩
theorem adY{ts:List ah}(h:dk ts){L:List D}{xs:D}(hx:aL 55 L xs)(hs:fm ts L):aF Try.prog gl 50 [.d xs] (sJ (oz ts)):=by
 have h2:=h.syms
 have h0:=Nat.le_trans (ah.tz ts) h.sz
 exact WT (ts.map ah.s) hx (h.is hs) (by rw[List.length_map];exact Nat.le_trans h0 (by decide)) (Nat.le_trans h2.1 (by decide)) (Nat.le_trans h2.2 (by decide))
theorem adJ{ts:List ah}(h:dk ts){L:List D}{xs:D}(hx:aL 55 L xs)(hs:fm ts L):aF Try.prog gl 22 [.d xs] (B3 (oz ts)):=by
 have h2:=h.syms
 have h0:=Nat.le_trans (ah.tz ts) h.sz
 exact Ww (ts.map ah.s) hx (h.is hs) (by rw[List.length_map];exact Nat.le_trans h0 (by decide)) (Nat.le_trans h2.1 (by decide)) (Nat.le_trans h2.2 (by decide))
def bt.d(m:bt):Ea:=⟨m.name,m.nv,m.ax.map ah.s⟩
def bt.syms(m:bt):List aq:=oz m.ax
theorem mW.is{m:bt}(h:dk m.ax){d:D}(hd:mW m d):Nz m.d d:=by
 cases hd with
 |mk xs L hx hs=>exact .mk xs L hx (h.is hs)
theorem bt.okd{m:bt}(h:dk m.ax):Tw m.d:=by
 have h2:=h.syms
 have h0:=Nat.le_trans (ah.tz m.ax) h.sz
 exact⟨by show(m.ax.map ah.s).length ≤_;rw[List.length_map];exact Nat.le_trans h0 (by decide),Nat.le_trans h2.1 (by decide),Nat.le_trans h2.2 (by decide)⟩
theorem Wc{m:bt}(h:dk m.ax){d:D}(hd:mW m d):aF Try.prog gl 24 [.d d] (sJ m.syms):=adI (hd.is h) (bt.okd h)
theorem adk{m:bt}(h:dk m.ax){d:D}(hd:mW m d):aF Try.prog gl 21 [.d d] (B3 m.syms):=adx (hd.is h) (bt.okd h)
theorem Yv{l:List bt}(h:tA l=true):l.length≤8∧∀m∈l,dk m.ax:=by
 unfold tA at h
 rw[Bool.and_eq_true,List.all_eq_true]at h
 refine⟨of_decide_eq_true h.1,fun m hm=>?_⟩
 obtain⟨k,hk⟩:=Option.isSome_iff_exists.1 (h.2 m hm)
 exact .of hk
theorem Wx{m:bt}{d:D}(hd:mW m d)(h:dk m.ax):aF Try.prog gl 13 [.d d] (.d (.int .i64 (ah.aB m.ax:Int))):=by
 cases hd with
 |mk xs L hx hs=>
 refine a8 (alE ..) fun br=>?_
 simp only[EN,Dz,Ho,sS,sT]
 refine eD (PL _ m.ax (Nat.le_refl _) hx hs (Nat.le_trans h.sz (by decide))) ?_
 simp only[sS,sT]
theorem zC(sz:Nat)(L:List D):aH false 1 (.aX (bB sz L) 0)=some (.d (bB sz L)):=by cases L<;>rfl
def wu(ss:List (List aq)):List D:=ss.map fun s=>bB 6 (aM s)
theorem Zi(ss:List (List aq)):(wu ss).length =ss.length:=List.length_map ..
theorem Z5{ss:List (List aq)}{i:Nat}{s:List aq}(h:ss[i]? =some s):(wu ss)[i]? =some (bB 6 (aM s)):=by simp[wu,h]
theorem CC(sz:Nat)(L:List D):aE (.d (bB sz L))=some [.d (bB sz L)]:=by cases L<;>rfl
theorem LF(x:D)(h:x.one=true):bz 1 1 [(0,x)]=true:=by
 simp only[bz,D.vL h];rfl
theorem Z6(sz:Nat)(L:List D):(bB sz L).one =true:=by cases L<;>rfl
theorem xW(x z:D):bF (bI false [z]) [(0,x)] 1 0=[x]:=rfl
def sK(l:List bt):List (List aq):=l.map fun m=>zP m.syms
theorem CQ(l:List bt):(sK l).length =l.length:=List.length_map ..
theorem WX(l:List aq):(jL l l).length ≤l.length:=by
 have:=P3 l l l.length
 rwa[List.take_length]at this
theorem aic(l:List aq):(zP l).length ≤l.length:=by
 unfold zP
 split
 ·exact WX l
 ·simp
theorem agO{l:List aq}{c:Int}{s:aq}(h:ja [] l=some (c,s)):sJ l=.aK [.d (.sl .nil 0 []),.d (.agg [.int .i64 c,.int .i64 s.line,.int .i64 s.gH,.str s.name])]:=by rw[sJ,h]
theorem agQ{l:List aq}(h:ja [] l=none):sJ l=.aK [.d (bB 6 (aM (jL l l))),.d (.agg [.int .i64 0,.int .i64 0,.int .i64 0,.str []])]:=by rw[sJ,h]
theorem z4(c x y:Int)(n:List UInt8):setAt [(.d (.int .i64 0)),(.d (.int .i64 0)),(.d (.int .i64 0)),(.d (.str []))] 0 [.d (.int .i64 c),.d (.int .i64 x),.d (.int .i64 y),.d (.str n)]=[.d (.int .i64 c),.d (.int .i64 x),.d (.int .i64 y),.d (.str n)]:=rfl
theorem oe{c:Int}(h:c≠0):(c != 0)=true:=by simpa using h
theorem Rk(a b c d e f:SV):setAt [a,b,c] 0 [d,e,f]=[d,e,f]:=rfl
theorem Hp(a b c:D):aH true 3 (.aX (.agg [a,b,c]) 0)=some (.d (.agg [a,b,c])):=EL _ 3 rfl
theorem xr(L:List D):elems 1 (.full 1 L)=some L:=by simp[elems]
theorem V6{l:List bt}{L:List D}{x:D}(hx:aL 3 L x)(hl:sq l L)(h8:l.length≤8)(hm:∀m∈l,dk m.ax):aF Try.prog gl 38 [.d x] (aO 1 (wu (sK l))):=by
 refine a8 (alL ..) fun br=>?_
 have bX:l.length≤maxLen:=Nat.le_trans h8 (by decide)
 simp only[hx.len,hl.len,sS,sT,sZ]
 refine eX (fun i=>[aO 1 (wu (sK (l.take i))),.d x,.d (.int .i64 (l.length:Int)),.d (.int .i64 ((i:Nat):Int))]) (fun i=>[]) l.length (fun i hi I hI=>?_) (fun I=>?_)
 ·simp only[sS,sT]
  refine And.intro (fun _=>?_) (fun h=>absurd h (by simp;omega))
  obtain⟨m,cN⟩:=get_some hi
  obtain⟨y,hy,hZ⟩:=hl.at_ cN
  have hS:=Wc (hm m (List.mem_of_getElem? cN)) hZ
  have an1:wu (sK (l.take (i+1)))=wu (sK (l.take i))++[bB 6 (aM (zP m.syms))]:=by
   rw[dT cN];simp[wu,sK]
  have hlen:(wu (sK (l.take i))).length =i:=by rw[Zi,CQ,List.length_take];omega
  rw[an1]at hI
  cases hZ with
  |mk xs Lm zb cE=>
  simp only[hx.at hy,Hp,EN,Dz,Rk,Ri,sS,sT]
  cases hc:ja [] m.syms with
  |some p=>
   obtain⟨c,s⟩:=p
   rw[agO hc]at hS
   refine call2 hS ?_
   have AV:=LD _ _ _ _ hc
   simp only[dv,dw,fu,gf,ek,oe AV,sS,sT]
   refine And.intro (fun _=>?_) (fun h=>absurd h (by decide))
   have e:bB 6 (aM (zP m.syms))=.sl .nil 0 []:=by rw[zP,hc];rfl
   rw[e]at hI
   simp only[dG,LF _ (show(D.sl .nil 0 []).one =true from rfl),xW,sS,sT]
   refine gB (xr _) (by simp only[hlen,List.length_singleton];omega) ?_
   refine aS (bf hi bX) ?_
   exact hI
  |none=>
   rw[agQ hc]at hS
   refine call2 hS ?_
   simp only[dv,dw,fu,gf,ek,sS,sT]
   refine And.intro (fun h=>absurd h (by decide)) (fun _=>?_)
   have e:bB 6 (aM (zP m.syms))=bB 6 (aM (jL m.syms m.syms)):=by rw[zP,hc]
   rw[e]at hI
   simp only[dG,LF _ (Z6 _ _),xW,sS,sT]
   refine gB (xr _) (by simp only[hlen,List.length_singleton];omega) ?_
   refine aS (bf hi bX) ?_
   exact hI
 ·simp only[sS,sT]
  refine And.intro (fun h=>absurd h (by simp)) (fun _=>?_)
  rw[List.take_length]
  exact⟨jY _ _,rfl⟩
def fe(n h:aq):Bool:= !h.cV&&(h.kind==n.kind&&h.name==n.name)
def Jb(bN eN:List aq):Bool:=eN.any fun n=>n.cV&&bN.any (fe n)
theorem an2(s:aq):aH false 1 (.ref s.cells 0)=some (.d (.int .i64 s.kind)):=rfl
theorem an3(s:aq):aH false 1 (.ref s.cells 1)=some (.d (.str s.name)):=rfl
theorem apU(cs:List SV)(n:Nat):bR (.ref cs 0) n=some (.ref cs n):=by simp[bR]
theorem adK(h n:aq):aF Try.prog gl 78 [.d h.enc,.ref n.cells 0] (.d (.bool (fe n h))):=by
 refine a8 (alY ..) fun br=>?_
 simp only[gC,gn,iv,ic,iI,iJ,LC,apU,an2,an3,sS,sT]
 unfold fe
 refine And.intro (fun h1=>?_) (fun h1=>?_)
 ·refine And.intro (fun h2=>?_) (fun h2=>?_)
  ·have ud:(h.kind==n.kind)=true:=h2
   have h3:aj (some (false,[.str])) .eql (.d (.str h.name)) (.d (.str n.name))=some (.d (.bool (h.name==n.name))):=rfl
   simp only[h1,ud,h3,Bool.true_and,sS,sT]
  ·have ud:(h.kind==n.kind)=false:=h2
   rw[h1,ud]
   rfl
 ·have wF:(!h.cV)=false:=h1
  rw[wF]
  rfl
theorem adZ(n:aq)(l:List aq){x:D}(hx:aL 6 (aM l) x)(hl:l.length≤maxLen):
  aF Try.prog gl 94 [.d x,.ef (.func 78) [] [.ref n.cells 0]] (.d (.int .i64 (orM (first (fe n) l)))):=by
 refine a8 (alq ..) fun br=>?_
 simp only[sS,sT,hx.len,eG]
 refine n9 (fun i=>∀(j:Nat)k,j<i→l[j]? =some k→(fe n k)=false) (fun i=>[.d x,.ef (.func 78) [] [.ref n.cells 0],.d (.int .i64 (l.length:Int)),.d (.int .i64 ((i:Nat):Int))]) (fun i=>[]) l.length (fun j k hj _=>by omega) (fun i hi hJ I hI=>?_) (fun hJ I=>?_)
 ·simp only[sS,sT,Bo]
  refine And.intro (fun _=>?_) (fun h=>absurd h (by simp;omega))
  obtain⟨t,ht⟩:=get_some hi
  simp only[hx.at (mP ht),rS,WU,List.nil_append,List.cons_append,sS]
  refine eD (adK t n) ?_
  simp only[sS]
  refine And.intro (fun h=>?_) (fun h=>?_)
  ·rw[xF ht (by simpa using h) hJ];rfl
  ·refine aS (bf hi hl) ?_
   refine hI fun j k' hj bY=>?_
   rcases Nat.lt_or_ge j i with h2|h2
   ·exact hJ j k' h2 bY
   ·have:j=i:=by omega
    subst this
    rw[ht]at bY
    cases bY
    simpa using h
 ·simp only[sS,sT]
  refine And.intro (fun h=>absurd h (by simp)) (fun _=>?_)
  rw[xu fun j k bY=>hJ j k (List.getElem?_eq_some_iff.1 bY).1 bY]
  rfl
theorem adl(n:aq)(l:List aq){x:D}(hx:aL 6 (aM l) x)(hl:l.length≤maxLen):
  aF Try.prog gl 79 [.d x,.ef (.func 78) [] [.ref n.cells 0]] (.d (.bool (l.any (fe n)))):=by
 refine a8 (alj ..) fun br=>?_
 simp only[sS,Bo]
 refine eD (adZ n l hx hl) ?_
 have sV:=Lg (fe n) l
 simp only[sS,sT,Bt,sV]
theorem amo{α:Type}{p:α→Bool}{l:List α}{i:Nat}{x:α}(h:l[i]? =some x)(hp:p x=true):l.any p=true:=List.any_eq_true.2 ⟨x,List.mem_of_getElem? h,hp⟩
theorem amp{α:Type}{p:α→Bool}{l:List α}(h:∀(j:Nat)x,l[j]? =some x→p x=false):l.any p=false:=by
 rw[List.any_eq_false]
 intro x hx
 obtain⟨j,hj⟩:=List.mem_iff_getElem?.1 hx
 simp[h j x hj]
theorem ad0(a b:List aq){x y:D}(hx:aL 6 (aM a) x)(hy:aL 6 (aM b) y)(ha:a.length≤maxLen)(hb:b.length≤maxLen):aF Try.prog gl 57 [.d x,.d y] (.d (.bool (Jb a b))):=by
 refine a8 (alS ..) fun br=>?_
 simp only[sS,sT,sZ,hy.len,eG]
 refine n9 (fun i=>∀(j:Nat)k,j<i→b[j]? =some k→(k.cV&&a.any (fe k))=false) (fun i=>[.d x,.d y,.d (.int .i64 (b.length:Int)),.d (.int .i64 ((i:Nat):Int))]) (fun i=>[]) b.length (fun j k hj _=>by omega) (fun i hi hJ I hI=>?_) (fun hJ I=>?_)
 ·simp only[sS,sT]
  refine And.intro (fun _=>?_) (fun h=>absurd h (by simp;omega))
  obtain⟨t,ht⟩:=get_some hi
  have step:(t.cV&&a.any (fe t))=false→∀(j:Nat)k,j<i+1→b[j]? =some k→(k.cV&&a.any (fe k))=false:=fun h j k' hj bY=>by
   rcases Nat.lt_or_ge j i with h2|h2
   ·exact hJ j k' h2 bY
   ·have:j=i:=by omega
    subst this
    rw[ht]at bY
    cases bY
    exact h
  simp only[hy.at (mP ht),rS,gC,gn,iK,iI,afy,sS,sT]
  refine And.intro (fun h=>?_) (fun h=>?_)
  ·refine eD (adl t a hx ha) ?_
   simp only[sS]
   refine And.intro (fun h2=>?_) (fun h2=>?_)
   ·rw[Jb,amo ht (by rw[h,h2];rfl)]
   ·refine aS (bf hi hb) ?_
    exact hI (step (by rw[h2,Bool.and_false]))
  ·refine aS (bf hi hb) ?_
   exact hI (step (by rw[h,Bool.false_and]))
 ·simp only[sS,sT]
  refine And.intro (fun h=>absurd h (by simp)) (fun _=>?_)
  rw[Jb,amp fun j k bY=>hJ j k (List.getElem?_eq_some_iff.1 bY).1 bY]
def db(l:List Nat):List D:=l.map fun(k:Nat)=>.int .i64 (k:Int)
theorem oa(l:List Nat):(db l).length =l.length:=List.length_map ..
theorem CW{l:List Nat}{i k:Nat}(h:l[i]? =some k):(db l)[i]? =some (.int .i64 (k:Int)):=by simp[db,h]
def BN(ss:List (List aq))(i k:Nat):Bool:= !(k==i)&&Jb (ss.getD k []) (ss.getD i [])
def It(ss:List (List aq))(i:Nat):List Nat:=(List.range ss.length).filter (BN ss i)
def C6(ss:List (List aq))(i k:Nat):List Nat:=(List.range k).filter (BN ss i)
theorem aeC(ss:List (List aq))(i k:Nat):C6 ss i (k+1)=C6 ss i k++if BN ss i k then [k]else []:=by
 rw[C6,List.range_succ,List.filter_append]
 by_cases h:BN ss i k=true
 ·simp[C6,h]
 ·simp[C6,h]
theorem afC(ss:List (List aq))(i k:Nat):(C6 ss i k).length ≤k:=by
 have:=List.length_filter_le (BN ss i) (List.range k)
 rwa[List.length_range]at this
theorem Li(l:List Nat)(k:Nat):db (l++[k])=db l++[.int .i64 (k:Int)]:=by simp[db]
theorem Lj(k:Nat):aT [(0,.v (.d (.int .i64 (k:Int))))]=some [(0,.int .i64 (k:Int))]:=rfl
theorem HH(a b:Nat):((a:Int) != (b:Int))= !(a==b):=by
 by_cases h:a=b
 ·subst h;simp
 ·have:¬((a:Int)=(b:Int)):=by omega
  rw[bne,beq_eq_false_iff_ne.2 this,beq_eq_false_iff_ne.2 h]
theorem LY(k:Nat):bz 1 1 [(0,.int .i64 (k:Int))]=true:=rfl
theorem WY{ss:List (List aq)}{x:D}(hx:aL 1 (wu ss) x)(hn:ss.length≤2^20)(hb:∀s∈ss,s.length≤maxLen){i:Nat}(AB:i<ss.length):aF Try.prog gl 39 [.d x,.d (.int .i64 (i:Int))] (aO 1 (db (It ss i))):=by
 have bX:ss.length≤maxLen:=Nat.le_trans hn (by decide)
 refine a8 (alM ..) fun br=>?_
 simp only[sS,sT,hx.len,Zi]
 refine eX (fun k=>[.d x,.d (.int .i64 (i:Int)),aO 1 (db (C6 ss i k)),.d (.int .i64 (ss.length:Int)),.d (.int .i64 ((k:Nat):Int))]) (fun i=>[]) ss.length (fun k hk I hI=>?_) (fun I=>?_)
 ·simp only[sS,sT]
  refine And.intro (fun _=>?_) (fun h=>absurd h (by simp;omega))
  obtain⟨si,pB⟩:=get_some AB
  obtain⟨sk,wJ⟩:=get_some hk
  have bc:=aeC ss i k
  have hlu:=afC ss i k
  have hp:BN ss i k=(!(k==i)&&Jb sk si):=by
   rw[BN,List.getD_eq_getElem?_getD,List.getD_eq_getElem?_getD,pB,wJ];rfl
  rw[bc]at hI
  simp only[HH]
  refine And.intro (fun h=>?_) (fun h=>?_)
  ·simp only[hx.at (Z5 pB),hx.at (Z5 wJ),zC,sS]
   refine eD (ad0 sk si (cm 6 _) (cm 6 _) (hb sk (List.mem_of_getElem? wJ)) (hb si (List.mem_of_getElem? pB))) ?_
   simp only[sS]
   refine And.intro (fun h2=>?_) (fun h2=>?_)
   ·rw[hp,h,h2]at hI
    simp only[Lj,LY,xW,sS,sT]
    refine gB (xr _) (by simp only[oa,List.length_singleton];omega) ?_
    refine aS (bf hk bX) ?_
    rw[Bool.true_and,if_pos rfl,Li]at hI
    exact hI
   ·rw[hp,h,h2,Bool.and_false,if_neg (by decide),List.append_nil]at hI
    refine aS (bf hk bX) ?_
    exact hI
  ·rw[hp,h,Bool.false_and,if_neg (by decide),List.append_nil]at hI
   refine aS (bf hk bX) ?_
   exact hI
 ·simp only[sS,sT]
  refine And.intro (fun h=>absurd h (by simp)) (fun _=>?_)
  exact⟨jY _ _,rfl⟩
theorem aeD{m:bt}(h:dk m.ax):(zP m.syms).length ≤4920:=Nat.le_trans (aic _) h.syms.1
theorem XG{l:List bt}(hm:∀m∈l,dk m.ax):∀s∈sK l,s.length≤maxLen:=fun s hs=>by
 obtain⟨m,ld,rfl⟩:=List.mem_map.1 hs
 exact Nat.le_trans (aeD (hm m ld)) (by decide)
def RW(l:List bt)(i:Int):List Nat:=if i<0 then []else if(l.length:Int)≤i then []else It (sK l) i.toNat
theorem aeE{l:List bt}{L:List D}{x:D}(hx:aL 3 L x)(hl:sq l L)(h8:l.length≤8)(hm:∀m∈l,dk m.ax)(i:Int):aF Try.prog gl 19 [.d x,.d (.int .i64 i)] (aO 1 (db (RW l i))):=by
 refine a8 (alH ..) fun br=>?_
 simp only[sS,sT,hx.len,hl.len]
 unfold RW
 refine And.intro (fun h=>?_) (fun h=>?_)
 ·rw[if_pos (by simpa using h)];rfl
 have h1:¬i<0:=by simpa using h
 rw[if_neg h1]
 refine And.intro (fun h=>?_) (fun h=>?_)
 ·rw[if_pos (by simpa using h)];rfl
 have h2:¬(l.length:Int)≤i:=by simp at h;omega
 rw[if_neg h2]
 refine bH (V6 hx hl h8 hm) (jX _ _) ?_
 simp only[ej,sS]
 obtain⟨n,rfl⟩:=Int.eq_ofNat_of_zero_le (by omega:0≤i)
 refine bH (WY (cm 1 _) (by rw[CQ];omega) (XG hm) (by rw[CQ];omega)) (jX _ _) ?_
 exact⟨jY _ _,rfl⟩
theorem Zj{α:Type}{p:α→Bool}{l:List α}{i:Nat}{x:α}(h:l[i]? =some x):(l.take (i+1)).any p=((l.take i).any p||p x):=by
 rw[dT h,List.any_append];simp
end Go.Proofs.Ytimbllcalipehaa.Ab
