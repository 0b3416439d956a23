/-
  ORDERS: what is there; the next one in a cycle.
-/
import Derived.Test.YtimbllcalipehaaTg
import Derived.Test.YtimbllcalipehaaTf
set_option linter.unusedVariables false
set_option linter.unusedSimpArgs false
namespace Go.Proofs.Ytimbllcalipehaa.Ab
open Go
set_option linter.unusedVariables false
set_option maxRecDepth 4000
theorem Oz{α:Type}{F:List SV→List (List SV)→(List SV→List (List SV)→Prop)→Prop}(μ:α→Nat)(J:α→Prop)(st:α→List SV)(sb:α→List (List SV))
  (jD:∀a,J a→∀I:List SV→List (List SV)→Prop,(∀a',J a'→μ a'<μ a→I (st a') (sb a'))→F (st a) (sb a) I)(a:α)(ha:J a):bT F (st a) (sb a):=by
 intro I hI
 have key:∀n a,μ a<n→J a→I (st a) (sb a):=by
  intro n
  induction n with
  |zero=>intro a h;omega
  |succ n ih=>exact fun a h hj=>hI _ _ (jD a hj I fun a' oG hm=>ih a' (by omega) oG)
 exact key (μ a+1) a (by omega) ha
def bL(b:List Bool):List SV:=b.map fun v=>.d (.bool v)
def lD(b:List Bool):SV:=.cU b.length 1 (bL b)
theorem aiM(b:List Bool):(bL b).length =b.length:=List.length_map ..
theorem YY{b:List Bool}{i:Nat}{v:Bool}(h:b[i]? =some v):(bL b)[i]? =some (.d (.bool v)):=by simp[bL,h]
theorem Yi(b:List Bool):(bL b).map aa=bL b:=by simp[bL,aa]
theorem Am(b:List Bool):aa (lD b)=lD b:=rfl
theorem PC{b:List Bool}{i:Nat}(hi:i<b.length):aL 1 (lD b) (.d (.int .i64 (i:Int)))=some (.ref (bL b) (i*1)):=by
 have h1:cN (.d (.int .i64 (i:Int))) b.length=some i:=je hi
 simp only[aL,lD,h1,if_true]
theorem P8{b:List Bool}{i:Nat}{v:Bool}(h:b[i]? =some v):aI false 1 (.ref (bL b) (i*1))=some (.d (.bool v)):=by
 simp only[aI,aj,cond_false,Nat.mul_one,YY h,aa]
theorem YZ(b:List Bool):aI false 1 (.ref [lD b] 0)=some (lD b):=rfl
theorem Wu(b:List Bool):aB (lD b)=some [lD b]:=rfl
def nd(b:List Bool)(k:Nat):Bool:= !b.getD k false
theorem G0{b:List Bool}{k:Nat}{v:Bool}(h:b[k]? =some v):nd b k= !v:=by simp[nd,h]
theorem aaT(b:List Bool){k:Nat}(hk:k<b.length):aG Try.prog gl 59 [.d (.int .i64 (k:Int)),.ref [lD b] 0] (.d (.bool (nd b k))):=by
 obtain⟨v,hv⟩:=get_some hk
 refine cM bG (cb (fn:=Try.f59) (by kernel_rfl) (by kernel_rfl) (by kernel_rfl)) (h:=h59) ?_;rw[aib];intro bJ
 simp only[JR,YZ,Am,PC hk,P8 hv,iC,G0 hv,sS,sT,sZ]
theorem aaU(b:List Bool){k:Nat}(hk:k<b.length):aG Try.prog gl 63 [.d (.int .i64 (k:Int)),.ref [lD b] 0] (.d (.bool (nd b k))):=by
 obtain⟨v,hv⟩:=get_some hk
 refine cM bG (cb (fn:=Try.f63) (by kernel_rfl) (by kernel_rfl) (by kernel_rfl)) (h:=h63) ?_;rw[aic];intro bJ
 simp only[JR,YZ,Am,PC hk,P8 hv,iC,G0 hv,sS,sT,sZ]
theorem Ky(k:Int):aI false 1 (.aX (.int .i64 k) 0)=some (.d (.int .i64 k)):=rfl
theorem TT(b:List Bool)(f:FuncId)(hf:∀{k:Nat},k<b.length→aG Try.prog gl f [.d (.int .i64 (k:Int)),.ref [lD b] 0] (.d (.bool (nd b k))))(l:List Nat){x:D}(hx:aW 1 (cQ l) x)(hl:l.length≤maxLen)(hb:∀k∈l,k<b.length):
  aG Try.prog gl 62 [.d x,.dT (.func f) [] [.ref [lD b] 0]] (.d (.int .i64 (orM (first (nd b) l)))):=by
 refine cM bG (cb (fn:=Try.f62) (by kernel_rfl) (by kernel_rfl) (by kernel_rfl)) (h:=h62) ?_;rw[ahE];intro bJ
 simp only[sS,sT,sZ,hx.len,nq,Af]
 refine np (fun i=>∀(j:Nat)k,j<i→l[j]? =some k→nd b k=false) (fun i=>[.d x,.dT (.func f) [] [.ref [lD b] 0],.d (.int .i64 (l.length:Int)),.d (.int .i64 ((i:Nat):Int))]) (fun i=>[]) l.length (fun j k hj _=>by omega) (fun i hi hJ I hI=>?_) (fun hJ I=>?_)
 ·simp only[sS,sT,sZ,Af]
  refine And.intro (fun _=>?_) (fun h=>absurd h (by simp;omega))
  obtain⟨t,ht⟩:=get_some hi
  simp only[hx.at (BQ ht),Ky,Af,Ue,List.nil_append,List.cons_append,sS,sT,sZ]
  refine dZ (hf (hb t (List.mem_of_getElem? ht))) ?_
  simp only[sS,sT,sZ]
  refine And.intro (fun h=>?_) (fun h=>?_)
  ·rw[wC ht (by simpa using h) hJ];rfl
  ·refine aU (br hi hl) ?_
   refine hI fun j k' hj bU=>?_
   rcases Nat.lt_or_ge j i with h2|h2
   ·exact hJ j k' h2 bU
   ·have:j=i:=by omega
    subst this
    rw[ht]at bU
    cases bU
    simpa using h
 ·simp only[sS,sT,sZ]
  refine And.intro (fun h=>absurd h (by simp)) (fun _=>?_)
  rw[wj fun j k bU=>hJ j k (List.getElem?_eq_some_iff.1 bU).1 bU]
  rfl
def Ix(b:List Bool)(l:List Nat):Bool:=l.all fun k=>b.getD k false
theorem Xh(b:List Bool)(l:List Nat):Ix b l= !l.any (nd b):=by
 rw[Ix,List.any_eq_not_all_not,Bool.not_not]
 simp[nd]
theorem abv(b:List Bool)(l:List Nat){x:D}(hx:aW 1 (cQ l) x)(hl:l.length≤maxLen)(hb:∀k∈l,k<b.length):aG Try.prog gl 40 [.d x,lD b] (.d (.bool (Ix b l))):=by
 have Mh:aG Try.prog gl 58 [.d x,.dT (.func 59) [] [.ref [lD b] 0]] (.d (.bool (l.any (nd b)))):=by
  refine cM bG (cb (fn:=Try.f58) (by kernel_rfl) (by kernel_rfl) (by kernel_rfl)) (h:=Mh) ?_;rw[ahB];intro bJ
  simp only[sS,sT,sZ,Af]
  refine dZ (TT b _ (fun hk=>aaT b hk) l hx hl hb) ?_
  have rK:=Jx (nd b) l
  simp only[sS,sT,sZ,Al,rK]
 refine cM bG (cb (fn:=Try.f40) (by kernel_rfl) (by kernel_rfl) (by kernel_rfl)) (h:=h40) ?_;rw[ah5];intro bJ
 simp only[Am,Wu,List.map_cons,List.map_nil,sS,sT,sZ]
 refine⟨rfl,?_⟩
 refine dZ Mh ?_
 simp only[iC,Xh,sS,sT,sZ]
theorem aaV(b:List Bool)(hl:b.length≤maxLen):aG Try.prog gl 60 [lD b,.d (.bool false)] (.d (.int .i64 (orM (first (fun v=> !v) b)))):=by
 refine cM bG (cb (fn:=Try.f60) (by kernel_rfl) (by kernel_rfl) (by kernel_rfl)) (h:=h60) ?_;rw[ahC];intro bJ
 have hlen:bm (lD b)=some (.d (.int .i64 (b.length:Int))):=rfl
 simp only[Am,hlen,sS,sT,sZ]
 refine np (fun i=>∀(j:Nat)k,j<i→b[j]? =some k→(!k)=false) (fun i=>[lD b,.d (.bool false),.d (.int .i64 (b.length:Int)),.d (.int .i64 ((i:Nat):Int))]) (fun i=>[]) b.length (fun j k hj _=>by omega) (fun i hi hJ I hI=>?_) (fun hJ I=>?_)
 ·simp only[Am,sS,sT,sZ]
  refine And.intro (fun _=>?_) (fun h=>absurd h (by simp;omega))
  obtain⟨t,ht⟩:=get_some hi
  have e1:ai (some (false,[.bool])) .eql (.d (.bool false)) (.d (.bool t))=some (.d (.bool (!t))):=by cases t<;>rfl
  simp only[PC hi,P8 ht,JR,e1,sS,sT,sZ]
  refine And.intro (fun h=>?_) (fun h=>?_)
  ·rw[wC ht (by simpa using h) hJ];rfl
  ·refine aU (br hi hl) ?_
   refine hI fun j k' hj bU=>?_
   rcases Nat.lt_or_ge j i with h2|h2
   ·exact hJ j k' h2 bU
   ·have:j=i:=by omega
    subst this
    rw[ht]at bU
    cases bU
    simpa using h
 ·simp only[sS,sT,sZ]
  refine And.intro (fun h=>absurd h (by simp)) (fun _=>?_)
  rw[wj fun j k bU=>hJ j k (List.getElem?_eq_some_iff.1 bU).1 bU]
  rfl
theorem TU(l:List Nat)(a:Nat){x:D}(hx:aW 1 (cQ l) x)(hl:l.length≤maxLen):aG Try.prog gl 64 [.d x,.d (.int .i64 (a:Int))] (.d (.int .i64 (orM (first (fun k=>k==a) l)))):=by
 refine cM bG (cb (fn:=Try.f64) (by kernel_rfl) (by kernel_rfl) (by kernel_rfl)) (h:=h64) ?_;rw[ahF];intro bJ
 simp only[sS,sT,sZ,hx.len,nq]
 refine np (fun i=>∀(j:Nat)k,j<i→l[j]? =some k→(k==a)=false) (fun i=>[.d x,.d (.int .i64 (a:Int)),.d (.int .i64 (l.length:Int)),.d (.int .i64 ((i:Nat):Int))]) (fun i=>[]) l.length (fun j k hj _=>by omega) (fun i hi hJ I hI=>?_) (fun hJ I=>?_)
 ·simp only[sS,sT,sZ]
  refine And.intro (fun _=>?_) (fun h=>absurd h (by simp;omega))
  obtain⟨t,ht⟩:=get_some hi
  have e1:((a:Int)==(t:Int))=(t==a):=by
   by_cases h:t=a
   ·subst h;simp
   ·rw[beq_eq_false_iff_ne.2 h,beq_eq_false_iff_ne.2 (by omega)]
  simp only[hx.at (BQ ht),Ky,ke,e1,sS,sT,sZ]
  refine And.intro (fun h=>?_) (fun h=>?_)
  ·rw[wC ht (by simpa using h) hJ];rfl
  ·refine aU (br hi hl) ?_
   refine hI fun j k' hj bU=>?_
   rcases Nat.lt_or_ge j i with h2|h2
   ·exact hJ j k' h2 bU
   ·have:j=i:=by omega
    subst this
    rw[ht]at bU
    cases bU
    simpa using h
 ·simp only[sS,sT,sZ]
  refine And.intro (fun h=>absurd h (by simp)) (fun _=>?_)
  rw[wj fun j k bU=>hJ j k (List.getElem?_eq_some_iff.1 bU).1 bU]
  rfl
theorem aae(l:List Nat)(a:Nat){x:D}(hx:aW 1 (cQ l) x)(hl:l.length≤maxLen):aG Try.prog gl 61 [.d x,.d (.int .i64 (a:Int))] (.d (.bool (l.any fun k=>k==a))):=by
 refine cM bG (cb (fn:=Try.f61) (by kernel_rfl) (by kernel_rfl) (by kernel_rfl)) (h:=h61) ?_;rw[ahD];intro bJ
 simp only[sS,sT,sZ]
 refine dZ (TU l a hx hl) ?_
 have rK:=Jx (fun k=>k==a) l
 simp only[sS,sT,sZ,Al,rK]
end Go.Proofs.Ytimbllcalipehaa.Ab
namespace Go.Proofs.Ytimbllcalipehaa.Ab
open Go
set_option linter.unusedVariables false
set_option maxRecDepth 4000
def nxt(N:Nat→List Nat)(b:List Bool)(a:Nat):Nat:=((N a).find? (nd b)).getD 0
def Bj(N:Nat→List Nat)(b:List Bool):Nat→List Nat→Nat→List Nat
 |0,_,_=>[]
 |f+1,path,a=>match first (fun k=>k==a) path with|some k=>path.drop k|none=>Bj N b f (path++[a]) (nxt N b a)
structure P9(n:Nat)(N:Nat→List Nat)(b:List Bool):Prop where
 len:b.length=n
 some_:∀a,a<n→nd b a=true→∃k∈N a,nd b k=true
 lt:∀a,a<n→∀k∈N a,k<n
theorem JU:∀(n:Nat){l:List Nat},l.Nodup→(∀k∈l,k<n)→l.length≤n
 |0,l,_,h=>by
  cases l with
  |nil=>simp
  |cons a l=>exact absurd (h a (by simp)) (by omega)
 |n+1,l,hn,h=>by
  by_cases hm:n∈l
  ·have h1:=JU n (l:=l.erase n) (hn.erase n) (fun k hk=>by
    have:=(hn.mem_erase_iff).1 hk
    have:=h k this.2
    omega)
   have h2:=List.length_erase_of_mem hm
   omega
  ·have:=JU n hn (fun k hk=>by
    have h1:=h k hk
    have h2:k≠n:=fun he=>hm (he▸hk)
    omega)
   omega
theorem acq{p:Nat→Bool}{l:List Nat}{k:Nat}(h:first p l=some k):∃x,l[k]? =some x∧l.find? p=some x∧p x=true:=by
 obtain⟨x,h1,h2,h3⟩:=ND h
 refine⟨x,h1,?_,h2⟩
 rw[List.find?_eq_some_iff_getElem]
 have hk:=(List.getElem?_eq_some_iff.1 h1)
 refine⟨h2,k,hk.1,hk.2,fun j hj=>?_⟩
 have kH:j<l.length:=by have:=hk.1;omega
 have:=h3 j l[j] hj (by simp)
 simp[this]
structure Bk(n:Nat)(N:Nat→List Nat)(b:List Bool)(R:List Nat)(s:List Nat×Nat):Prop where
 lt:s.2<n
 nd_:nd b s.2=true
 all:∀k∈s.1,k<n
 nodup:s.1.Nodup
 eq:Bj N b (n+1-s.1.length) s.1 s.2=R
theorem Bk.len{n:Nat}{N:Nat→List Nat}{b:List Bool}{R:List Nat}{s:List Nat×Nat}(h:Bk n N b R s):s.1.length≤n:=JU n h.nodup h.all
theorem abw{l:List Nat}{a:Nat}(h:first (fun k=>k==a) l=none):a∉l:=fun hm=>by
 obtain⟨j,hj⟩:=List.mem_iff_getElem?.1 hm
 have:=BF h j a hj
 simp at this
theorem Bk.next{n:Nat}{N:Nat→List Nat}{b:List Bool}{R:List Nat}{p:List Nat}{a:Nat}(h:Bk n N b R (p,a))(hc:P9 n N b)(hf:first (fun k=>k==a) p=none):
  p.length<n∧∃k x,first (nd b) (N a)=some k∧(N a)[k]? =some x∧(N a).find? (nd b)=some x∧x<n∧Bk n N b R (p++[a],x):=by
 have rH:=abw hf
 have nF:(p++[a]).Nodup :=by
  rw[List.nodup_append]
  exact⟨h.nodup,by simp,fun x hx y hy=>by simp at hy;subst hy;exact fun he=>rH (he▸hx)⟩
 have fJ:∀k∈p++[a],k<n:=fun k hk=>by
  rcases List.mem_append.1 hk with hk|hk
  ·exact h.all k hk
  ·simp at hk;subst hk;exact h.lt
 have hlen:=JU n nF fJ
 rw[List.length_append,List.length_singleton]at hlen
 obtain⟨q,hq,hq2⟩:=hc.some_ a h.lt h.nd_
 cases hff:first (nd b) (N a)with
 |none=>
  obtain⟨j,hj⟩:=List.mem_iff_getElem?.1 hq
  rw[BF hff j q hj]at hq2;cases hq2
 |some k=>
  obtain⟨x,h1,h2,h3⟩:=acq hff
  have hx:x<n:=hc.lt a h.lt x (List.mem_of_getElem? h1)
  refine⟨by omega,k,x,rfl,h1,h2,hx,hx,h3,fJ,nF,?_⟩
  have he:=h.eq
  simp only at he
  rw[show n+1-p.length=(n+1-(p++[a]).length)+1 by rw[List.length_append,List.length_singleton];omega,Bj,hf]at he
  simp only[nxt,h2,Option.getD_some]at he
  exact he
theorem Bk.fin{n:Nat}{N:Nat→List Nat}{b:List Bool}{R:List Nat}{p:List Nat}{a k:Nat}(h:Bk n N b R (p,a))(hf:first (fun k=>k==a) p=some k):p.drop k=R:=by
 have he:=h.eq
 have hl:=h.len
 simp only at he hl
 rw[show n+1-p.length=(n-p.length)+1 by omega,Bj,hf]at he
 exact he
def nL(N:Nat→List Nat)(n:Nat):List D:=(List.range n).map fun i=>bB 1 (cQ (N i))
theorem aiN(N:Nat→List Nat)(n:Nat):(nL N n).length =n:=by simp[nL]
theorem Y0{N:Nat→List Nat}{n a:Nat}(h:a<n):(nL N n)[a]? =some (bB 1 (cQ (N a))):=by simp[nL,h]
theorem agq(p:Nat→Bool)(l:List Nat):l.any p=(first p l).isSome :=(Jx p l).symm
theorem Yj{sz:Nat}{L:List D}(h:L≠[]):bB sz L=.sl .ro sz L:=by
 cases L with
 |nil=>exact absurd rfl h
 |cons=>rfl
theorem acr{l:List Nat}{k:Nat}(hk:k<l.length)(hl:l.length≤maxLen):Pq 1 (.d (bB 1 (cQ l))) (some (.d (.int .i64 (k:Int)))) none none=some (.d (bB 1 (cQ (l.drop k)))):=by
 have bf:cQ l≠[]:=fun h=>by
  have:=nq l
  rw[h]at this
  simp at this
  omega
 have hdn:cQ (l.drop k)≠[]:=fun h=>by
  have:=nq (l.drop k)
  rw[h,List.length_drop]at this
  simp at this
  omega
 have hd:(cQ l).drop k=cQ (l.drop k):=by simp[cQ,List.map_drop]
 have h1:cN (.d (.int .i64 (k:Int))) ((cQ l).length +1)=some k:=je (by rw[nq];omega)
 rw[Yj bf,Yj hdn]
 simp only[Pq,dA,GN,B7,yN,h1,List.take_length,hd,if_true]
theorem abx{n:Nat}{N:Nat→List Nat}{b:List Bool}(hc:P9 n N b){x:D}(hx:aW 1 (nL N n) x)(hn:n≤2^20)(hN:∀a,a<n→(N a).length ≤n){a0:Nat}(ha:first (fun v=> !v) b=some a0):
  aG Try.prog gl 41 [.d x,lD b] (.d (bB 1 (cQ (Bj N b (n+1) [] a0)))):=by
 have ct:n≤maxLen:=Nat.le_trans hn (by decide)
 refine cM bG (cb (fn:=Try.f41) (by kernel_rfl) (by kernel_rfl) (by kernel_rfl)) (h:=h41) ?_;rw[ah6];intro bJ
 simp only[Am,Wu,sS,sT,sZ]
 refine⟨rfl,?_⟩
 have hp0:aj false 1 0 [lD b]=some (lD b):=rfl
 simp only[hp0,Am,sS,sT,sZ]
 refine dZ (aaV b (by rw[hc.len];exact ct)) ?_
 rw[ha]
 obtain⟨v,CO,Be⟩:=Bz ha
 have ha0:a0<n:=by rw[←hc.len];exact(List.getElem?_eq_some_iff.1 CO).1
 simp only[orM,sS,sT,sZ]
 refine Oz (α:=List Nat×Nat) (fun s=>n+1-s.1.length) (Bk n N b (Bj N b (n+1) [] a0)) (fun s=>[.d x,.d (.int .i64 (s.2:Int)),aQ 1 (cQ s.1)]) (fun s=>[[lD b]]) (fun s hJ I hI=>?_) ([],a0) ⟨ha0,by rw[G0 CO];exact Be,fun k hk=>by simp at hk,List.nodup_nil,rfl⟩
 obtain⟨p,a⟩:=s
 have gv:=hJ.len
 simp only at gv
 have p8:p.length≤maxLen:=Nat.le_trans gv ct
 simp only[ez,sS,sT,sZ]
 refine dZ (aae p a (cK 1 _) p8) ?_
 rw[agq]
 cases hf:first (fun k=>k==a) p with
 |none=>
  obtain⟨aO,k,y,h1,h2,h3,h4,h5⟩:=hJ.next hc hf
  simp only[Option.isSome_none,iC,Bool.not_false,sS,sT,sZ]
  refine And.intro (fun _=>?_) (fun h=>absurd h (by decide))
  simp only[JA,J9,wP,sS,sT,sZ]
  refine gN (wh _) (by simp only[nq,List.length_singleton];omega) ?_
  simp only[hx.at (Y0 hJ.lt),yy,Am,List.map_cons,List.map_nil,sS,sT,sZ]
  refine dZ (TT b _ (fun hk=>aaU b hk) (N a) (cK 1 _) (Nat.le_trans (hN a hJ.lt) ct) (fun k hk=>by rw[hc.len];exact hc.lt a hJ.lt k hk)) ?_
  rw[h1]
  simp only[orM,(cK 1 (cQ (N a))).at (BQ h2),Ky,sS,sT,sZ]
  have:=hI (p++[a],y) h5 (by simp only[List.length_append,List.length_singleton];omega)
  simp only[Jz]at this
  exact this
 |some k=>
  have HO:k<p.length:=by obtain⟨_,h1,_⟩:=Bz hf;exact(List.getElem?_eq_some_iff.1 h1).1
  simp only[Option.isSome_some,iC,Bool.not_true,sS,sT,sZ]
  refine And.intro (fun h=>absurd h (by decide)) (fun _=>?_)
  refine dZ (TU p a (cK 1 _) p8) ?_
  rw[hf]
  simp only[orM,acr HO p8,hJ.fin hf,sS,sT,sZ]
end Go.Proofs.Ytimbllcalipehaa.Ab
namespace Go.Proofs.Ytimbllcalipehaa.Ab
open Go
set_option linter.unusedVariables false
set_option maxRecDepth 4000
def Nf(l:List bg)(a:Nat):List Nat:=GZ (rn l) a
theorem Yk(l:List bg)(a:Nat):(Nf l a).length ≤l.length:=by
 have:=List.length_filter_le (AB (rn l) a) (List.range (rn l).length)
 rw[List.length_range]at this
 rw[Nf,GZ,←BK l];exact this
theorem Y5{l:List bg}{a k:Nat}(h:k∈Nf l a):k<l.length:=by
 have:=(List.mem_filter.1 h).1
 rw[List.mem_range,BK]at this
 exact this
end Go.Proofs.Ytimbllcalipehaa.Ab
namespace Go.Proofs.Ytimbllcalipehaa.Ab
open Go
set_option linter.unusedVariables false
set_option maxRecDepth 4000
def rd(N:Nat→List Nat)(b:List Bool)(i:Nat):Bool:=nd b i&&Ix b (N i)
def ord(N:Nat→List Nat)(n:Nat):Nat→List Bool→List Nat→List Nat×Bool
 |0,_,out=>(out,true)
 |f+1,b,out=>match first (rd N b) (List.range n)with
  |none=>(Bj N b (n+1) [] ((first (fun v=> !v) b).getD 0),false)
  |some i=>ord N n f (b.set i true) (out++[i])
def oR(r:List Nat×Bool):SV:=.aJ [bif r.2 then aQ 1 (cQ r.1)else .d (bB 1 (cQ r.1)),.d (.int .i64 (bif r.2 then 0 else 17))]
def AU(b:List Bool):Nat:=b.count false
theorem Wv:∀{b:List Bool}{i:Nat},b[i]? =some false→AU (b.set i true)+1=AU b
 |[],i,h=>by simp at h
 |v::b,0,h=>by simp at h;subst h;simp[AU]
 |v::b,i+1,h=>by
  have:=Wv (b:=b) (i:=i) (by simpa using h)
  simp only[AU,List.set_cons_succ,List.count_cons]at this ⊢
  omega
theorem aeV{b:List Bool}(h:0<AU b):∃i,first (fun v=> !v) b=some i∧b[i]? =some false:=by
 cases hf:first (fun v=> !v) b with
 |some i=>
  obtain⟨v,h1,h2⟩:=Bz hf
  refine⟨i,rfl,?_⟩
  have:v=false:=by simpa using h2
  rw[this]at h1;exact h1
 |none=>
  exfalso
  have:b.count false=0:=by
   rw[List.count_eq_zero]
   intro hm
   obtain⟨j,hj⟩:=List.mem_iff_getElem?.1 hm
   have:=BF hf j _ hj
   simp at this
  unfold AU at h
  omega
theorem FV{n i:Nat}(h:i<n):(List.range n)[i]? =some i:=by simp[h]
structure OJ(l:List bg)(R:List Nat×Bool)(s:List Bool×List Nat):Prop where
 len:s.1.length=l.length
 uB:AU s.1+s.2.length=l.length
 eq:ord (Nf l) l.length (l.length-s.2.length) s.1 s.2=R
theorem OJ.step{l:List bg}{R:List Nat×Bool}{b:List Bool}{out:List Nat}(h:OJ l R (b,out))(aO:out.length<l.length){i:Nat}(hf:first (rd (Nf l) b) (List.range l.length)=some i):
  i<l.length∧b[i]? =some false∧OJ l R (b.set i true,out++[i]):=by
 obtain⟨x,h1,h2⟩:=Bz hf
 have hi:i<l.length:=by
  have:=(List.getElem?_eq_some_iff.1 h1).1
  simpa using this
 rw[FV hi]at h1
 cases h1
 have eh:=h.len
 simp only at eh
 obtain⟨v,hv⟩:=get_some (by omega:i<b.length)
 have Ia:v=false:=by
  rw[rd,Bool.and_eq_true]at h2
  have:=h2.1
  rw[G0 hv]at this
  simpa using this
 subst Ia
 have hc:=Wv hv
 have zL:=h.uB
 have he:=h.eq
 simp only at zL he
 refine⟨hi,hv,by simpa using eh,?_,?_⟩
 ·simp only[List.length_append,List.length_singleton];omega
 ·rw[show l.length-out.length=(l.length-(out++[i]).length)+1 by rw[List.length_append,List.length_singleton];omega,ord,hf]at he
  exact he
theorem OJ.stuck{l:List bg}{R:List Nat×Bool}{b:List Bool}{out:List Nat}(h:OJ l R (b,out))(aO:out.length<l.length)(hf:first (rd (Nf l) b) (List.range l.length)=none):
  ∃a0,first (fun v=> !v) b=some a0∧P9 l.length (Nf l) b∧R=(Bj (Nf l) b (l.length+1) [] a0,false):=by
 have zL:=h.uB
 have he:=h.eq
 simp only at zL he
 obtain⟨a0,h1,h2⟩:=aeV (b:=b) (by omega)
 refine⟨a0,h1,⟨h.len,fun a ha Ro=>?_,fun a ha k hk=>Y5 hk⟩,?_⟩
 ·have:=BF hf a a (FV ha)
  rw[rd,Ro,Bool.true_and,Xh]at this
  have:(Nf l a).any (nd b)=true:=by simpa using this
  obtain⟨k,jr,jd⟩:=List.any_eq_true.1 this
  exact⟨k,jr,jd⟩
 ·rw[show l.length-out.length=(l.length-out.length-1)+1 by omega,ord,hf,h1]at he
  exact he.symm
theorem OJ.fin{l:List bg}{R:List Nat×Bool}{b:List Bool}{out:List Nat}(h:OJ l R (b,out))(aO:¬out.length<l.length):R=(out,true):=by
 have he:=h.eq
 simp only at he
 rw[show l.length-out.length=0 by omega,ord]at he
 exact he.symm
theorem OJ.le{l:List bg}{R:List Nat×Bool}{s:List Bool×List Nat}(h:OJ l R s):s.2.length≤l.length:=by
 have:=h.uB;omega
def Ht(l:List bg):List Nat×Bool:=ord (Nf l) l.length l.length (List.replicate l.length false) []
theorem OJ.init(l:List bg):OJ l (Ht l) (List.replicate l.length false,[]):=⟨by simp,by simp[AU],rfl⟩
theorem JB(d:D)(h:d.one=true):∀n,bc (List.replicate n d)=List.replicate n (.d d)
 |0=>rfl
 |n+1=>by
  rw[List.replicate_succ,bc,JB d h n,D.uP h];rfl
theorem aiO(n:Nat):bL (List.replicate n false)=List.replicate n (.d (.bool false)):=by simp[bL]
theorem aiP(b:List Bool)(i:Nat)(v:Bool):setAt (bL b) (i*1) [.d (.bool v)]=bL (b.set i v):=by
 simp only[setAt,Nat.mul_one,bL,List.map_set]
theorem agr{b:List Bool}{i:Nat}{v:Bool}(h:b[i]? =some v):aj false 1 (i*1) (bL b)=some (.d (.bool v)):=by
 simp only[aj,cond_false,Nat.mul_one,YY h]
theorem ags(i:Nat):decide ((i:Int)<0)=false:=decide_eq_false (by omega)
theorem ajZ{l:List bg}{b:List Bool}{i:Nat}{v:Bool}(h:b[i]? =some v):rd (Nf l) b i=(!v&&Ix b (Nf l i)):=by rw[rd,G0 h]
end Go.Proofs.Ytimbllcalipehaa.Ab
namespace Go.Proofs.Ytimbllcalipehaa.Ab
open Go
set_option linter.unusedVariables false
set_option maxRecDepth 4000
def w7(N:Nat→List Nat)(n i:Nat):List SV:=(List.range n).map fun j=>if j<i then .d (bB 1 (cQ (N j)))else .d (.sl .nil 0 [])
theorem VJ(N:Nat→List Nat)(n i:Nat):(w7 N n i).length =n:=by simp[w7]
theorem agt(N:Nat→List Nat)(n:Nat):List.replicate n (SV.d (.sl .nil 0 []))=w7 N n 0:=by
 apply List.ext_getElem?
 intro j
 simp only[w7,List.getElem?_replicate,List.getElem?_map]
 by_cases h:j<n
 ·simp[h]
 ·simp[h]
theorem adB{N:Nat→List Nat}{n i:Nat}(h:i<n):setAt (w7 N n i) (i*1) [.d (bB 1 (cQ (N i)))]=w7 N n (i+1):=by
 simp only[setAt,Nat.mul_one]
 apply List.ext_getElem?
 intro j
 rw[List.getElem?_set,VJ]
 simp only[w7,List.getElem?_map]
 by_cases hj:j<n
 ·by_cases eY:i=j
  ·subst eY
   simp[hj]
  ·simp only[eY,if_false,List.getElem?_range hj,Option.map_some]
   congr 1
   by_cases h2:j<i
   ·rw[if_pos h2,if_pos (by omega)]
   ·rw[if_neg h2,if_neg (by omega)]
 ·have:i≠j:=by omega
  simp[this,hj]
theorem adC(N:Nat→List Nat)(n:Nat):w7 N n n=(nL N n).map SV.d:=by
 apply List.ext_getElem?
 intro j
 simp only[w7,nL,List.getElem?_map]
 by_cases hj:j<n
 ·simp[hj]
 ·simp[hj]
theorem Uj{l:List bg}{L:List D}{x:D}(hx:aW 3 L x)(hl:o9 l L)(h8:l.length≤8)(hm:∀m∈l,de m.ay):aG Try.prog gl 16 [.d x] (oR (Ht l)):=by
 have ct:l.length≤maxLen:=Nat.le_trans h8 (by decide)
 refine cM bG (cb (fn:=Try.f16) (by kernel_rfl) (by kernel_rfl) (by kernel_rfl)) (h:=h16) ?_;rw[ahZ];intro bJ
 simp only[sS,sT,sZ]
 refine cV (Tr hx hl h8 hm) (ka _ _) ?_
 simp only[ez,hx.len,hl.len,Dn,JB (D.sl .nil 0 []) rfl,JB (D.bool false) rfl,List.length_replicate,sS,sT,sZ]
 refine⟨by omega,?_⟩
 rw[agt (Nf l)]
 refine fV (fun i=>[.d x,.d (bB 1 (vn (rn l))),.d (.int .i64 (l.length:Int)),.d (.int .i64 ((i:Nat):Int))]) (fun i=>[w7 (Nf l) l.length i]) l.length (fun i hi I hI=>?_) (fun I=>?_)
 ·simp only[sS,sT,sZ]
  refine And.intro (fun _=>?_) (fun h=>absurd h (by simp;omega))
  have lJ:cN (.d (.int .i64 (i:Int))) l.length=some i:=je hi
  refine cV (Ui (cK 1 _) (by rw[BK];omega) (U0 hm) (i:=i) (by rw[BK];omega)) (ka _ _) ?_
  simp only[lJ,ez,Bv,VJ,sS,sT,sZ]
  refine⟨rfl,by omega,?_⟩
  refine aU (br hi ct) ?_
  have:=adB (N:=Nf l) hi
  rw[show bB 1 (cQ (GZ (rn l) i))=bB 1 (cQ (Nf l i)) from rfl,this]
  exact hI
 ·simp only[sS,sT,sZ]
  refine And.intro (fun h=>absurd h (by simp)) (fun _=>?_)
  rw[adC]
  simp only[Ku,hx.len,hl.len,Dn,List.length_map,aiN,JB (D.bool false) rfl,List.length_replicate,sS,sT,sZ]
  refine⟨by omega,?_⟩
  rw[←aiO]
  have G1:lE l.length l.length (.d (.sl .ro 1 (nL (Nf l) l.length)))=.d (.sl .ro 1 (nL (Nf l) l.length)):=by simp[lE]
  have hN:aW 1 (nL (Nf l) l.length) (.sl .ro 1 (nL (Nf l) l.length)):=.ro
  rw[G1]
  generalize D.sl .ro 1 (nL (Nf l) l.length)=nx at hN ⊢
  refine Oz (α:=List Bool×List Nat) (fun s=>l.length-s.2.length) (OJ l (Ht l)) (fun s=>[.d x,.d nx,aQ 1 (cQ s.2)]) (fun s=>[[.undef],bL s.1]) (fun s hJ I hI=>?_) (List.replicate l.length false,[]) (OJ.init l)
  obtain⟨b,out⟩:=s
  have hle:=hJ.le
  have eh:=hJ.len
  simp only at hle eh
  have hom:out.length≤maxLen:=Nat.le_trans hle ct
  simp only[ez,(cK 1 (cQ out)).len,nq,hx.len,hl.len,sS,sT,sZ]
  refine And.intro (fun h=>?_) (fun h=>?_)
  ·have aO:out.length<l.length:=by simp at h;omega
   refine np (fun i=>∀j,j<i→rd (Nf l) b j=false) (fun i=>[.d x,.d nx,aQ 1 (cQ out),.d (.int .i64 (-1)),.d (.int .i64 (l.length:Int)),.d (.int .i64 ((i:Nat):Int))]) (fun i=>[[.undef],bL b]) l.length (fun j hj=>by omega) (fun i hi Mx I2 cq=>?_) (fun Mx I2=>?_)
   ·simp only[sS,sT,sZ]
    refine And.intro (fun _=>?_) (fun h=>absurd h (by simp;omega))
    have lJ:cN (.d (.int .i64 (i:Int))) l.length=some i:=je hi
    obtain⟨v,hv⟩:=get_some (by omega:i<b.length)
    have fu:=ajZ (l:=l) hv
    have aY:rd (Nf l) b i=false→∀j,j<i+1→rd (Nf l) b j=false:=fun h j hj=>by
     rcases Nat.lt_or_ge j i with h2|h2
     ·exact Mx j h2
     ·rw[show j=i by omega];exact h
    simp only[lJ,agr hv,iC,Yi,sS,sT,sZ]
    refine And.intro (fun h2=>?_) (fun h2=>?_)
    ·rw[h2,Bool.true_and]at fu
     simp only[hN.at (Y0 hi),yy,sS,sT,sZ]
     refine dZ (show aG _ gl _ [.d (bB 1 (cQ (Nf l i))),.cU l.length 1 (bL b)] _ from(by rw[←eh];exact abv b (Nf l i) (cK 1 _) (Nat.le_trans (Yk l i) ct) (fun k hk=>by rw[eh];exact Y5 hk))) ?_
     rw[←fu]
     simp only[sS,sT,sZ]
     refine And.intro (fun h3=>?_) (fun h3=>?_)
     ·have hf:first (rd (Nf l) b) (List.range l.length)=some i:=wC (FV hi) h3 (fun j y hj hy=>by
       rw[FV (by omega)]at hy;cases hy;exact Mx j hj)
      obtain⟨_,Ia,hJ'⟩:=hJ.step aO hf
      simp only[ags,lJ,J5,aiM,sS,sT,sZ]
      refine And.intro (fun h=>absurd h (by decide)) (fun _=>?_)
      refine⟨rfl,by rw[eh];omega,?_⟩
      simp only[JA,J9,wP,sS,sT,sZ]
      refine gN (wh _) (by simp only[nq,List.length_singleton];omega) ?_
      have:=hI (b.set i true,out++[i]) hJ' (by simp only[List.length_append,List.length_singleton];omega)
      rw[aiP]
      simp only[Jz]at this
      exact this
     ·refine aU (br hi ct) ?_
      exact cq (aY h3)
    ·rw[h2,Bool.false_and]at fu
     refine aU (br hi ct) ?_
     exact cq (aY fu)
   ·simp only[sS,sT,sZ]
    refine And.intro (fun h=>absurd h (by simp)) (fun _=>?_)
    refine And.intro (fun _=>?_) (fun h=>absurd h (by decide))
    have hf:first (rd (Nf l) b) (List.range l.length)=none:=wj fun j y hy=>by
     have hj:j<l.length:=by have:=(List.getElem?_eq_some_iff.1 hy).1;simpa using this
     rw[FV hj]at hy;cases hy;exact Mx j hj
    obtain⟨a0,h1,h2,h3⟩:=hJ.stuck aO hf
    simp only[Yi,sS,sT,sZ]
    refine dZ (show aG _ gl _ [.d nx,.cU l.length 1 (bL b)] _ from(by rw[←eh];exact abx h2 hN (by omega) (fun a _=>Yk l a) h1)) ?_
    rw[h3]
    exact⟨rfl,rfl⟩
  ·have aO:¬out.length<l.length:=by simp at h;omega
   have:=hJ.fin aO
   rw[this]
   exact⟨kS _ _,rfl⟩
theorem acs(a b:List Nat){x y:D}(hx:aW 1 (cQ a) x)(hy:aW 1 (cQ b) y):aG Try.prog gl 18 [.d x,.d y] (.d (.bool (a==b))):=by
 refine cM bG (cb (fn:=Try.f18) (by kernel_rfl) (by kernel_rfl) (by kernel_rfl)) (h:=h18) ?_;rw[ahn];intro bJ
 have ct:a.length≤maxLen:=by
  have:=hx.Lx bJ.1
  rwa[nq]at this
 simp only[hx.len,hy.len,nq,eQ,Gi,sS,sT,sZ]
 refine And.intro (fun h=>?_) (fun h=>?_)
 ·have bf:a≠b:=fun he=>by subst he;simp at h
  rw[beq_eq_false_iff_ne.2 bf]
 have hle:a.length=b.length:=by simpa using h
 refine np (fun i=>a.take i=b.take i) (fun i=>[.d x,.d y,.d (.int .i64 ((i:Nat):Int))]) (fun i=>[]) a.length rfl (fun i hi hJ I hI=>?_) (fun hJ I=>?_)
 ·simp only[hx.len,nq,sS,sT,sZ]
  refine And.intro (fun _=>?_) (fun h=>absurd h (by simp;omega))
  obtain⟨p,hp⟩:=get_some hi
  obtain⟨q,hq⟩:=get_some (by omega:i<b.length)
  simp only[hx.at (BQ hp),hy.at (BQ hq),Ky,eQ,Gi,sS,sT,sZ]
  refine And.intro (fun h=>?_) (fun h=>?_)
  ·have bf:a≠b:=fun he=>by
    subst he
    rw[hp]at hq;cases hq
    simp at h
   rw[beq_eq_false_iff_ne.2 bf]
  ·refine aU (br hi ct) ?_
   have:p=q:=by simpa using h
   subst this
   exact hI (by rw[dX hp,dX hq,hJ])
 ·simp only[hx.len,nq,sS,sT,sZ]
  refine And.intro (fun h=>absurd h (by simp)) (fun _=>?_)
  rw[List.take_length,hle,List.take_length]at hJ
  rw[hJ];simp
end Go.Proofs.Ytimbllcalipehaa.Ab
namespace Go.Proofs.Ytimbllcalipehaa.Ab
open Go
set_option linter.unusedVariables false
set_option maxRecDepth 4000
structure az where
 (mo up:Int)
 uD:Bool
 (th el:List aq)
 (mark here:Bool)
def oD(b:az):List D:=[.int .i64 b.mo,.int .i64 b.up,.bool b.uD,bB 6 (aK b.th),bB 6 (aK b.el),.bool b.mark,.bool b.here]
def az.enc(b:az):D:=.agg (oD b)
def az.cells(b:az):List SV:=(oD b).map .d
def dR(l:List az):List D:=l.map az.enc
theorem qG(l:List az):(dR l).length =l.length:=List.length_map ..
theorem Xi{l:List az}{i:Nat}{b:az}(h:l[i]? =some b):(dR l)[i]? =some b.enc:=by simp[dR,h]
theorem yf(s:az)(l:List az):bc (dR (s::l))=s.cells++bc (dR l):=rfl
theorem yg:∀(l:List az),dK (bc (dR l))=some (l.flatMap oD)
 |[]=>rfl
 |s::l=>by rw[yf,List.flatMap_cons];exact FF _ (yg l)
theorem DT:∀(l:List az),(bc (dR l)).length =l.length*7
 |[]=>rfl
 |s::l=>by rw[yf,List.length_append,DT l,List.length_cons];simp[az.cells,oD];omega
theorem xZ:∀(l:List az),eR true 7 l.length (l.flatMap oD)=some (dR l)
 |[]=>rfl
 |s::l=>by
  have ih:=xZ l
  have h1:((s::l).flatMap oD).drop 7=l.flatMap oD:=rfl
  have h2:((s::l).flatMap oD).take 7=oD s:=rfl
  have h3:7≤((s::l).flatMap oD).length :=by simp[oD]
  simp only[List.length_cons,eR,h1,h2,ih,if_pos h3]
  rfl
theorem Y6(k:Nat)(hk:k<7):∀(l:List az)(j:Nat)(y:az),l[j]? =some y→(bc (dR l))[j*7+k]? =y.cells[k]?
 |[],j,y,h=>by simp at h
 |s::l,0,y,h=>by
  simp at h;subst h
  rw[yf,Nat.zero_mul,Nat.zero_add,List.getElem?_append_left (by simp[az.cells,oD];omega)]
 |s::l,j+1,y,h=>by
  rw[yf,List.getElem?_append_right (by simp[az.cells,oD];omega)]
  have:(j+1)*7+k-s.cells.length=j*7+k:=by simp[az.cells,oD];omega
  rw[this]
  exact Y6 k hk l j y (by simpa using h)
theorem Kz(k:Nat)(v:D)(y':az):∀(l:List az)(j:Nat)(y:az),l[j]? =some y→k<7→y.cells.set k (.d v)=y'.cells→setAt (bc (dR l)) (j*7+k) [.d v]=bc (dR (l.set j y')):=by
 intro l
 induction l with
 |nil=>intro j y h;simp at h
 |cons s l ih=>
  intro j y h hk he
  cases j with
  |zero=>
   simp at h;subst h
   rw[setAt,setAt,Nat.zero_mul,Nat.zero_add,yf,List.set_append_left _ _ (by simp[az.cells,oD];omega),he]
   rfl
  |succ j=>
   have:=ih j y (by simpa using h) hk he
   rw[setAt,setAt]at this
   rw[setAt,setAt,yf,List.set_append_right _ _ (by simp[az.cells,oD];omega)]
   have e:(j+1)*7+k-s.cells.length=j*7+k:=by simp[az.cells,oD];omega
   rw[e,this]
   rfl
theorem Gj{k:Nat}{l:List az}{j:Nat}{y:az}(h:l[j]? =some y)(hk:k<7):aj false 1 (j*7+k) (bc (dR l))=y.cells[k]? :=by
 rw[aj,cond_false,Y6 k hk l j y h]
theorem Xj(b:az):aI true 7 (.aX b.enc 0)=some (.d b.enc):=JL _ 7 rfl
theorem JV(b:az):aB (.d b.enc)=some b.cells:=rfl
theorem G2(b:az):b.cells.length=7:=rfl
theorem agu{z:List SV}(hz:z.length=7)(b:az):setAt z 0 b.cells=b.cells:=BJ hz (G2 b)
theorem Ly(a b c d e f g:SV)(x:az):setAt [a,b,c,d,e,f,g] 0 x.cells=x.cells:=agu rfl x
theorem Y7(b:az):aj false 1 3 b.cells=some (.d (bB 6 (aK b.th))):=rfl
theorem aj0(b:az):aj false 1 4 b.cells=some (.d (bB 6 (aK b.el))):=rfl
theorem KR(b:az):aj false 1 5 b.cells=some (.d (.bool b.mark)):=rfl
theorem Qa(b:az):aj false 1 6 b.cells=some (.d (.bool b.here)):=rfl
theorem aj1(b:az):aj false 1 0 b.cells=some (.d (.int .i64 b.mo)):=rfl
theorem agv(b:az):bu 7 1 [(0,b.enc)]=true:=rfl
theorem adD(m u:Int)(t:Bool):dz Try.prog 79 [(0,.int .i64 m),(1,.int .i64 u),(2,.bool t),(5,.bool true)]=some (az.enc ⟨m,u,t,[],[],true,false⟩):=by kernel_rfl
theorem Ao(z x:D):bz z [(0,x)] 1 0=[x]:=rfl
def iw(l:List az):SV:=match l with
 |[]=>.d (.sl .nil iN [])
 |l=>.aZ 7 (dR l)
theorem wQ{l:List az}(h:l≠[]):iw l=.aZ 7 (dR l):=by
 cases l with
 |nil=>exact absurd rfl h
 |cons y l=>rfl
theorem agw(l:List az):oo (iw l)=some (iw l):=by cases l<;>rfl
theorem adE(l:List az):wW (iw l)=false:=by cases l<;>rfl
theorem BB(l:List az):(iw l).aD =true:=by cases l<;>rfl
theorem Xk(l:List az):om (iw l)=some (aQ 7 (dR l)):=by cases l<;>rfl
theorem DI{out:List az}{A:List D→Prop}{B:Prop}(h1:out≠[]→A (dR out))(h2:out=[]→B):gI (iw out) 7 A B:=by
 cases out with
 |nil=>exact h2 rfl
 |cons y l=>exact⟨rfl,h1 (by simp)⟩
theorem agx{out:List az}{s:az}{cX:Nat}{k:SV→Prop}(hb:(out.length+1)*cX≤140737488355328)(hk:k (iw (out++[s]))):bR 7 cX (iw out) (.full 7 [s.enc]) k:=by
 cases out with
 |nil=>
  unfold bR lG
  simp only[elems,if_true]
  exact⟨by simpa using hb,hk⟩
 |cons y l=>
  unfold bR lG
  simp only[elems,if_true]
  refine⟨by simpa[qG]using hb,?_⟩
  have:dR (y::l)++[s.enc]=dR (y::l++[s]):=by simp[dR]
  rw[this]
  exact hk
def Cp(l:List az):SV:=match l with
 |[]=>.d (.sl .nil iN [])
 |_=>.undef
theorem BR(l:List az):aa (iw l)=Cp l:=by cases l<;>rfl
theorem Ww(l:List az):aa (Cp l)=Cp l:=by cases l<;>rfl
end Go.Proofs.Ytimbllcalipehaa.Ab
namespace Go.Proofs.Ytimbllcalipehaa.Ab
open Go
set_option linter.unusedVariables false
set_option maxRecDepth 4000
abbrev mH:=Int×aq
def ff(ts:List ah):Except mH (List aq):=match iD [] (nC ts)with
 |some p=>.error p
 |none=>.ok (jf (nC ts) (nC ts))
def jE(o:List az)(n:Nat)(sy:List aq):List az:=match o[n]? with
 |some b=>o.set n {b with el:=sy}
 |none=>o
mutual
def gT:ah→List az→Int→Int→Bool→Except mH (List az)
 | .mk s a b,out,m,u,th=>if s.kind==18 then
    (match ff a with
    | .error e=>.error e
    | .ok sy=>(match gL a (out++[⟨m,u,th,sy,[],true,false⟩]) m out.length true with
      | .error e=>.error e
      | .ok o2=>(match ff b with
        | .error e=>.error e
        | .ok kQ=>gL b (jE o2 out.length kQ) m out.length false)))
   else .ok out
def gL:List ah→List az→Int→Int→Bool→Except mH (List az)
 |[],out,_,_,_=>.ok out
 |t::l,out,m,u,th=>(match gT t out m u th with
  | .error e=>.error e
  | .ok o=>gL l o m u th)
end
theorem aj2{t:ah}(h:(t.s.kind==18)=false)(out:List az)(m u:Int)(th:Bool):gT t out m u th=.ok out:=by
 cases t with
 |mk s a b=>
  have h:(s.kind==18)=false:=h
  simp only[gT,h];rfl
theorem aiQ{t:ah}(h:(t.s.kind==18)=true)(out:List az)(m u:Int)(th:Bool):gT t out m u th=(match ff t.th with
   | .error e=>.error e
   | .ok sy=>(match gL t.th (out++[⟨m,u,th,sy,[],true,false⟩]) m out.length true with
     | .error e=>.error e
     | .ok o2=>(match ff t.el with
       | .error e=>.error e
       | .ok kQ=>gL t.el (jE o2 out.length kQ) m out.length false))):=by
 cases t with
 |mk s a b=>
  have h:(s.kind==18)=true:=h
  simp only[gT,h];rfl
theorem PD:∀(a b:List ah)(out:List az)(m u:Int)(th:Bool),gL (a++b) out m u th=(match gL a out m u th with| .error e=>.error e| .ok o=>gL b o m u th)
 |[],b,out,m,u,th=>rfl
 |t::a,b,out,m,u,th=>by
  rw[List.cons_append,gL,gL]
  cases gT t out m u th with
  |error e=>rfl
  |ok o=>exact PD a b o m u th
theorem agy{l:List ah}{i:Nat}{t:ah}(h:l[i]? =some t){out o:List az}{m u:Int}{th:Bool}(ho:gL (l.take i) out m u th=.ok o):gL (l.take (i+1)) out m u th=gT t o m u th:=by
 rw[dX h,PD,ho]
 simp only[gL]
 cases gT t o m u th<;>rfl
theorem KA{l:List ah}{i:Nat}{out:List az}{m u:Int}{th:Bool}{e:mH}(ho:gL (l.take i) out m u th=.error e):gL l out m u th=.error e:=by
 rw[←List.take_append_drop i l,PD,ho]
theorem Ds(o:List az)(n:Nat)(sy:List aq):(jE o n sy).length =o.length:=by
 unfold jE
 split<;>simp
theorem Wx{o:List az}{n j:Nat}(sy:List aq)(h:j≠n):(jE o n sy)[j]? =o[j]? :=by
 unfold jE
 split
 ·rw[List.getElem?_set_ne (fun hh=>h hh.symm)]
 ·rfl
def Q2(out o:List az)(n:Nat):Prop:=o.length=out.length+n∧∀(j:Nat),j<out.length→o[j]? =out[j]?
mutual
theorem Ka:∀(t:ah){out o:List az}{m u:Int}{th:Bool},gT t out m u th=.ok o→Q2 out o t.nb
 | .mk s a b,out,o,m,u,th,h=>by
   simp only[gT]at h
   simp only[ah.nb]
   split at h
   ·rename_i hk
    rw[if_pos hk]
    split at h
    ·cases h
    ·split at h
     ·cases h
     ·rename_i o2 h2
      split at h
      ·cases h
      ·have k1:=qK a h2
       have k2:=qK b h
       refine⟨?_,fun j hj=>?_⟩
       ·rw[k2.1,Ds,k1.1,List.length_append,List.length_singleton];omega
       ·rw[k2.2 j (by rw[Ds,k1.1,List.length_append];omega),Wx _ (by omega),k1.2 j (by rw[List.length_append];omega),List.getElem?_append_left hj]
   ·rename_i hk
    rw[if_neg hk]
    cases h
    exact⟨rfl,fun _ _=>rfl⟩
theorem qK:∀(l:List ah){out o:List az}{m u:Int}{th:Bool},gL l out m u th=.ok o→Q2 out o (ah.aE l)
 |[],out,o,m,u,th,h=>by
  simp only[gL]at h
  cases h
  exact⟨rfl,fun _ _=>rfl⟩
 |t::l,out,o,m,u,th,h=>by
  simp only[gL]at h
  simp only[ah.aE]
  split at h
  ·cases h
  ·rename_i o1 h1
   have k1:=Ka t h1
   have k2:=qK l h
   exact⟨by rw[k2.1,k1.1];omega,fun j hj=>by rw[k2.2 j (by rw[k1.1];omega),k1.2 j hj]⟩
end
def jl(c:Int)(s:aq):D:=.agg [.int .i64 c,.int .i64 s.line,.int .i64 s.gn,.str s.name]
def eI:D:=.agg [.int .i64 0,.int .i64 0,.int .i64 0,.str []]
def gR(r:Except mH (List az)):List SV:=match r with
 | .error (c,s)=>[.d (.sl .nil 0 []),.d (jl c s)]
 | .ok o=>[iw o,.d eI]
def GH(ts:List ah):Prop:=∀{L:List D}{x:D}(out:List az)(m u:Int)(th:Bool),aW 55 L x→fe ts L→de ts→out.length+ah.dE ts≤2^20→
 aG Try.prog gl 74 (pM 0 [iw out,.d x,.d (.int .i64 m),.d (.int .i64 u),.d (.bool th)]) (.aJ (Cp out::gR (gL ts out m u th)))
theorem Yl{ts:List ah}(h:de ts){L:List D}{xs:D}(hx:aW 55 L xs)(hs:fe ts L):aG Try.prog gl 50 [.d xs] (match ff ts with| .error (c,s)=>.aJ [.d (.sl .nil 0 []),.d (jl c s)]| .ok sy=>.aJ [.d (bB 6 (aK sy)),.d eI]):=by
 have:=aaQ h hx hs
 unfold ff
 unfold rl at this
 cases hc:iD [] (nC ts)with
 |some p=>obtain⟨c,s⟩:=p;rw[hc]at this;exact this
 |none=>rw[hc]at this;exact this
theorem yh{ts:List ah}{c:Int}{s:aq}(h:ff ts=.error (c,s)):c≠0:=by
 unfold ff at h
 split at h
 ·rename_i p hp
  cases h
  exact JS _ _ _ _ hp
 ·cases h
theorem w8{P:Program}{gl:Nat→Option D}{f:FuncId}{args:List SV}{bk y:SV}{r1 r2:SV}{k:SV→SV→SV→Prop}(hH:aG P gl f args (.aJ [bk,r1,r2]))(hd:aa bk=y)(hk:k r1 r2 bk):∃a b c,aG P gl f args (.aJ [c,a,b])∧aa c=y∧k a b c:=⟨r1,r2,bk,hH,hd,hk⟩
theorem ah.Ap(l:List ah):ah.dE l=(l.map ah.sz).sum :=by
 induction l with
 |nil=>rfl
 |cons t l ih=>simp[ah.dE,ih]
theorem ah.OA{l:List ah}{i:Nat}{t:ah}(h:l[i]? =some t):ah.aE (l.take i)+t.sz≤ah.dE l:=by
 have h1:=ah.qQ (l.take i)
 have h2:ah.dE (l.take (i+1))=ah.dE (l.take i)+t.sz:=by
  rw[dX h,ah.Ap,ah.Ap];simp
 have h3:ah.dE (l.take (i+1))≤ah.dE l:=by
  rw[ah.Ap,ah.Ap,←List.take_append_drop (i+1) l,List.map_append,List.sum_append,List.take_append_drop];omega
 omega
theorem Xl{l:List az}(h:l≠[]):Cp l=.undef :=by
 cases l with
 |nil=>exact absurd rfl h
 |cons y l=>rfl
mutual
theorem aj3:∀(t:ah){out:List az}{m u:Int}{th:Bool}{c:Int}{s:aq},gT t out m u th=.error (c,s)→c≠0
 | .mk s a b,out,m,u,th,c,sy,h=>by
   simp only[gT]at h
   split at h
   ·split at h
    ·rename_i h1;cases h;exact yh h1
    ·split at h
     ·rename_i h1;cases h;exact AD a h1
     ·split at h
      ·rename_i h1;cases h;exact yh h1
      ·exact AD b h
   ·cases h
theorem AD:∀(l:List ah){out:List az}{m u:Int}{th:Bool}{c:Int}{s:aq},gL l out m u th=.error (c,s)→c≠0
 |[],out,m,u,th,c,s,h=>by simp[gL]at h
 |t::l,out,m,u,th,c,s,h=>by
  simp only[gL]at h
  split at h
  ·rename_i h1;cases h;exact aj3 t h1
  ·exact AD l h
end
theorem yz:aS []=some []:=rfl
theorem adF(x y:D):bm (.full 1 [x,y])=some (.d (.int .i64 2)):=rfl
theorem N8(x y:D):aa (.full 1 [x,y])=.full 1 [x,y]:=rfl
theorem agz:aL 1 (.full 1 [.bool true,.bool false]) (.d (.int .i64 0))=some (.aX (.bool true) 0):=rfl
theorem agA:aL 1 (.full 1 [.bool true,.bool false]) (.d (.int .i64 1))=some (.aX (.bool false) 0):=rfl
theorem yi(v:Bool):aI false 1 (.aX (.bool v) 0)=some (.d (.bool v)):=rfl
theorem agB:bz (bE false [.bool false]) [(0,.bool true),(1,.bool false)] 2 0=[.bool true,.bool false]:=rfl
theorem aeW:bu 1 2 [(0,.bool true),(1,.bool false)]=true:=rfl
theorem jx(x y:D)(i j:Nat):aS [(i,.v (.d x)),(j,.v (.d y))]=some [(i,x),(j,y)]:=rfl
theorem aby(ts:List ah)(IH:∀js,ah.dE js<ah.dE ts→GH js):GH ts:=by
 intro L x out m u th hx hs cm aM
 have h0:=ah.tG ts
 have ct:ts.length≤maxLen:=Nat.le_trans (Nat.le_trans h0 cm.sz) (by decide)
 have Ci:∀r∈gR (gL ts out m u th),wW r=false:=by
  intro r hr
  unfold gR at hr
  split at hr
  ·simp at hr;rcases hr with rfl|rfl<;>rfl
  ·simp at hr;rcases hr with rfl|rfl
   ·exact adE _
   ·rfl
 rw[←BR]
 refine FE bG (cb (fn:=Try.f74) (by kernel_rfl) (by kernel_rfl) (by kernel_rfl)) (hh:=h74) (by simp[SV.iB,BB,SV.aD]) rfl Ci ?_
 rw[aid]
 intro bJ
 have hK:∀r1 r2,gR (gL ts out m u th)=[r1,r2]→QE (gR (gL ts out m u th))=.aJ [r1,r2]:=fun r1 r2 h=>by rw[h];rfl
 simp only[agw,hx.len,hs.len,sS,sT,sZ]
 refine Ae (α:=List az) (fun i o=>gL (ts.take i) out m u th=.ok o) (fun i o=>[iw o,.d (.int .i64 m),.d (.int .i64 u),.d (.bool th),.d x,.d (.int .i64 (ts.length:Int)),.d (.int .i64 ((i:Nat):Int))]) (fun i o=>[[.d (.int .i64 0),.d (.int .i64 0),.d (.int .i64 0),.d (.str [])]]) ts.length out rfl (fun i o hi hJ I hI=>?_) (fun o hJ I=>?_)
 ·simp only[sS,sT,sZ]
  refine And.intro (fun _=>?_) (fun h=>absurd h (by simp;omega))
  obtain⟨t,ht⟩:=get_some hi
  obtain⟨y,hy,eU⟩:=hs.at_ ht
  obtain⟨c,cD,al,yt,ye,Lt,Le,hc⟩:=eU.out
  have eW:=BJ (z:=jH) (c:=c) rfl hc.len
  simp only[sZ]at eW
  have hz:=ah.AA ht
  have Bb:=t.Ag
  have aY:=agy ht hJ
  have My:=qK _ hJ
  have fW:=ah.OA ht
  have qv:=cm.th (List.mem_of_getElem? ht)
  simp only[hx.at hy,hc.load,hc.cells,hc.len,eW,hc.p0,eQ,sS,sT,sZ]
  refine And.intro (fun hk=>?_) (fun hk=>?_)
  ·have bU:(t.s.kind==18)=false:=by simpa[bne]using hk
   rw[aj2 bU]at aY
   refine aU (br hi ct) ?_
   exact hI o aY
  have bU:(t.s.kind==18)=true:=by simpa[bne]using hk
  rw[aiQ bU]at aY
  refine tC [iw o,.d (.int .i64 m),.d (.int .i64 u),.d (.bool th),.d (.int .i64 (o.length:Int)),.d x,.d (.int .i64 (ts.length:Int)),.d (.int .i64 ((i:Nat):Int))] [[.d (.int .i64 0),.d (.int .i64 0),.d (.int .i64 0),.d (.str [])],c] (fun J lz=>?_) ?_
  ·refine DI (fun bf=>?_) (fun he=>?_)
   ·simp only[yg,xZ,qG,sS,sT,sZ]
    rw[←wQ bf]
    exact lz
   ·subst he
    exact lz
  ·have rJ:o.length≤2^20:=by rw[My.1];omega
   simp only[BG,adD,dG,agv,Ao,sS,sT,sZ]
   refine agx (by omega) ?_
   simp only[jx,aeW,agB,adF,N8,sS,sT,sZ]
   intro I3 gm
   refine gm _ _ ?_
   simp only[agz,yi,hc.Ir,hc.It,N8,sS,sT,sZ]
   refine And.intro (fun _=>?_) (fun h=>absurd h (by decide))
   refine And.intro (fun _=>?_) (fun h=>absurd h (by decide))
   have pr:=Yl qv.1 hc.jN hc.kM
   have ua:=fun c s=>yh (ts:=t.th) (c:=c) (s:=s)
   cases gV:ff t.th with
   |error e=>
    obtain⟨c0,s0⟩:=e
    rw[gV]at pr aY
    dsimp only at aY pr
    refine call2 pr ?_
    simp only[jl,dq,dr,z4,dC,fZ,eQ,n9 (ua c0 s0 gV),sS,sT,sZ]
    refine And.intro (fun _=>?_) (fun h=>absurd h (by decide))
    rw[KA aY]
    rfl
   |ok sy=>
   rw[gV]at pr aY
   dsimp only at aY pr
   refine call2 pr ?_
   simp only[eI,dq,dr,z4,dC,fZ,eQ,sS,sT,sZ]
   refine And.intro (fun h=>absurd h (by decide)) (fun _=>?_)
   refine And.intro (fun _=>?_) (fun h=>absurd h (by decide))
   refine DI (fun _=>?_) (fun he=>absurd he (by simp))
   have lJ:cN (.d (.int .i64 (o.length:Int))) (dR (o++[az.mk m u th [] [] true false])).length =some o.length:=je (by rw[qG,List.length_append,List.length_singleton];omega)
   have gk:setAt (bc (dR (o++[az.mk m u th [] [] true false]))) (o.length*7+3) [.d (bB 6 (aK sy))]=bc (dR (o++[az.mk m u th sy [] true false])):=by
    rw[Kz 3 (bB 6 (aK sy)) (az.mk m u th sy [] true false) _ o.length (az.mk m u th [] [] true false) (by simp) (by omega) rfl]
    simp
   have hg1:=xZ (o++[az.mk m u th sy [] true false])
   rw[List.length_append,List.length_singleton]at hg1
   simp only[lJ,Bv,gk,yg,DT,sS,sT,sZ]
   refine⟨rfl,by simp only[List.length_append,List.length_singleton];omega,?_⟩
   simp only[qG,List.length_append,List.length_singleton,hg1,sS,sT,sZ]
   have H1:=IH t.th (by omega) (o++[az.mk m u th sy [] true false]) m (o.length:Int) true hc.jN hc.kM qv.1 (by rw[List.length_append,List.length_singleton,My.1];omega)
   rw[wQ (by simp:o++[az.mk m u th sy [] true false]≠[]),Xl (by simp)]at H1
   cases hg:gL t.th (o++[az.mk m u th sy [] true false]) m (o.length:Int) true with
   |error e=>
    obtain⟨c0,s0⟩:=e
    rw[hg]at H1 aY
    dsimp only at aY
    have zL:=AD _ hg
    refine w8 H1 rfl ?_
    simp only[jl,dq,dr,z4,dC,fZ,eQ,n9 zL,sS,sT,sZ]
    refine And.intro (fun _=>?_) (fun h=>absurd h (by decide))
    rw[KA aY]
    rfl
   |ok o2=>
   rw[hg]at H1 aY
   dsimp only at aY
   have CQ:=qK _ hg
   have ZF:=CQ.1
   rw[List.length_append,List.length_singleton]at ZF
   refine w8 H1 rfl ?_
   simp only[eI,dq,dr,z4,dC,fZ,eQ,sS,sT,sZ]
   refine And.intro (fun h=>absurd h (by decide)) (fun _=>?_)
   refine aU (show ai none .add (.d (.int .i64 0)) (.d (.int .i64 1))=some (.d (.int .i64 1)) from rfl) ?_
   refine gm _ _ ?_
   simp only[agA,yi,hc.Ir,hc.It,N8,sS,sT,sZ]
   refine And.intro (fun _=>?_) (fun h=>absurd h (by decide))
   refine And.intro (fun h=>absurd h (by decide)) (fun _=>?_)
   have pt:=Yl qv.2 hc.fU hc.j1
   cases jo:ff t.el with
   |error e=>
    obtain⟨c0,s0⟩:=e
    rw[jo]at pt aY
    dsimp only at aY pt
    refine call2 pt ?_
    simp only[jl,dq,dr,z4,dC,fZ,eQ,n9 (yh jo),sS,sT,sZ]
    refine And.intro (fun _=>?_) (fun h=>absurd h (by decide))
    rw[KA aY]
    rfl
   |ok kQ=>
   rw[jo]at pt aY
   dsimp only at aY pt
   have rO:o2[o.length]? =some (az.mk m u th sy [] true false):=by
    rw[CQ.2 o.length (by rw[List.length_append,List.length_singleton];omega)]
    simp
   have SD:jE o2 o.length kQ=o2.set o.length (az.mk m u th sy kQ true false):=by unfold jE;rw[rO]
   rw[SD]at aY
   have Mz:o2≠[]:=fun he=>by rw[he]at rO;simp at rO
   have ho3:o2.set o.length (az.mk m u th sy kQ true false)≠[]:=fun he=>by
    have:=congrArg List.length he
    simp at this
    exact Mz this
   refine call2 pt ?_
   simp only[eI,dq,dr,z4,dC,fZ,eQ,sS,sT,sZ]
   refine And.intro (fun h=>absurd h (by decide)) (fun _=>?_)
   refine And.intro (fun h=>absurd h (by decide)) (fun _=>?_)
   refine DI (fun _=>?_) (fun he=>absurd he Mz)
   have aj4:cN (.d (.int .i64 (o.length:Int))) (dR o2).length =some o.length:=je (by rw[qG];omega)
   have lR:setAt (bc (dR o2)) (o.length*7+4) [.d (bB 6 (aK kQ))]=bc (dR (o2.set o.length (az.mk m u th sy kQ true false))):=
    Kz 4 (bB 6 (aK kQ)) (az.mk m u th sy kQ true false) _ o.length _ rO (by omega) rfl
   have hg3:=xZ (o2.set o.length (az.mk m u th sy kQ true false))
   rw[List.length_set]at hg3
   simp only[aj4,Bv,lR,yg,DT,sS,sT,sZ]
   refine⟨rfl,by omega,?_⟩
   simp only[qG,hg3,sS,sT,sZ]
   have hnn:=ah.qQ t.th
   have H2:=IH t.el (by omega) (o2.set o.length (az.mk m u th sy kQ true false)) m (o.length:Int) false hc.fU hc.j1 qv.2 (by rw[List.length_set,ZF,My.1];omega)
   rw[wQ ho3,Xl ho3]at H2
   cases SE:gL t.el (o2.set o.length (az.mk m u th sy kQ true false)) m (o.length:Int) false with
   |error e=>
    obtain⟨c0,s0⟩:=e
    rw[SE]at H2 aY
    have zL:=AD _ SE
    refine w8 H2 rfl ?_
    simp only[jl,dq,dr,z4,dC,fZ,eQ,n9 zL,sS,sT,sZ]
    refine And.intro (fun _=>?_) (fun h=>absurd h (by decide))
    rw[KA aY]
    rfl
   |ok o4=>
   rw[SE]at H2 aY
   refine w8 H2 rfl ?_
   simp only[eI,dq,dr,z4,dC,fZ,eQ,sS,sT,sZ]
   refine And.intro (fun h=>absurd h (by decide)) (fun _=>?_)
   refine aU (show ai none .add (.d (.int .i64 1)) (.d (.int .i64 1))=some (.d (.int .i64 2)) from rfl) ?_
   refine gm _ _ ?_
   simp only[sS,sT,sZ]
   refine And.intro (fun h=>absurd h (by decide)) (fun _=>?_)
   refine aU (br hi ct) ?_
   exact hI o4 aY
 ·simp only[sS,sT,sZ]
  refine And.intro (fun h=>absurd h (by simp)) (fun _=>?_)
  rw[List.take_length]at hJ
  simp only[yz,uM,dq,dr,fE,dC,sS,sT,sZ]
  rw[hJ]
  exact⟨BB _,rfl⟩
theorem aaW(ts:List ah):GH ts:=by
 have key:∀n ts,ah.dE ts<n→GH ts:=by
  intro n
  induction n with
  |zero=>intro ts h;omega
  |succ n ih=>exact fun ts h=>aby ts fun js h'=>ih js (by omega)
 exact fun{L x}=>key _ ts (Nat.lt_succ_self _)
end Go.Proofs.Ytimbllcalipehaa.Ab
namespace Go.Proofs.Ytimbllcalipehaa.Ab
open Go
set_option linter.unusedVariables false
set_option maxRecDepth 4000
def gz:List bg→Nat→List az→List aq→Except mH (List az×List aq)
 |[],_,out,os=>.ok (out,os)
 |m::l,i,out,os=>(match ff m.ay with
  | .error e=>.error e
  | .ok sy=>(match gL m.ay out (i:Int) (-1) true with
    | .error e=>.error e
    | .ok o=>gz l (i+1) o (os++sy)))
theorem O0:∀(a b:List bg)(i:Nat)(out:List az)(os:List aq),gz (a++b) i out os=(match gz a i out os with| .error e=>.error e| .ok r=>gz b (i+a.length) r.1 r.2)
 |[],b,i,out,os=>rfl
 |m::a,b,i,out,os=>by
  rw[List.cons_append,gz,gz]
  cases ff m.ay with
  |error e=>rfl
  |ok sy=>
   dsimp only
   cases gL m.ay out (i:Int) (-1) true with
   |error e=>rfl
   |ok o=>
    dsimp only
    rw[O0 a b (i+1) o (os++sy),List.length_cons,show i+1+a.length=i+(a.length+1) by omega]
theorem aeX{l:List bg}{i:Nat}{m:bg}(h:l[i]? =some m){o:List az}{os:List aq}(ho:gz (l.take i) 0 [] []=.ok (o,os)):gz (l.take (i+1)) 0 [] []=(match ff m.ay with
  | .error e=>.error e
  | .ok sy=>(match gL m.ay o (i:Int) (-1) true with
    | .error e=>.error e
    | .ok o2=>.ok (o2,os++sy))):=by
 have hi:=(List.getElem?_eq_some_iff.1 h).1
 rw[dX h,O0,ho]
 dsimp only
 rw[List.length_take,Nat.zero_add,Nat.min_eq_left (by omega),gz]
 cases ff m.ay with
 |error e=>rfl
 |ok sy=>
  dsimp only
  cases gL m.ay o (i:Int) (-1) true<;>rfl
theorem Xm{l:List bg}{i:Nat}{e:mH}(h:gz (l.take i) 0 [] []=.error e):gz l 0 [] []=.error e:=by
 rw[←List.take_append_drop i l,O0,h]
def svR(r:Except mH (List az×List aq)):SV:=match r with
 | .error (c,s)=>.aJ [.d (.sl .nil 0 []),.d (.sl .nil 0 []),.d (jl c s)]
 | .ok (o,os)=>.aJ [iw o,aQ 6 (aK os),.d eI]
theorem aiR{m:bg}(h:de m.ay){d:D}(hd:lj m d):aG Try.prog gl 24 [.d d] (match ff m.ay with| .error (c,s)=>.aJ [.d (.sl .nil 0 []),.d (jl c s)]| .ok sy=>.aJ [.d (bB 6 (aK sy)),.d eI]):=by
 have:=Tx h hd
 unfold ff
 unfold rl bg.syms at this
 cases hc:iD [] (nC m.ay)with
 |some p=>obtain⟨c,s⟩:=p;rw[hc]at this;exact this
 |none=>rw[hc]at this;exact this
theorem DC{ts:List ah}(h:de ts){sy:List aq}(hs:ff ts=.ok sy):sy.length≤4920:=by
 unfold ff at hs
 split at hs
 ·cases hs
 ·cases hs;exact Nat.le_trans (Uh _) h.syms.1
theorem Ym{P:Program}{gl:Nat→Option D}{f:FuncId}{args:List SV}{bk y:SV}{r1 r2:SV}{k:SV→SV→SV→Prop}(hH:aG P gl f args (.aJ [bk,r1,r2]))(hd:aa bk=y)(hk:k r1 r2 bk):∃a b c,aG P gl f args (.aJ [c,a,b])∧aa c=y∧k a b c:=⟨r1,r2,bk,hH,hd,hk⟩
theorem Wy{P:Program}{gl:Nat→Option D}{f:FuncId}{args:List SV}{r1 r2 r3:SV}{k:SV→SV→SV→Prop}(hH:aG P gl f args (.aJ [r1,r2,r3]))(hk:k r1 r2 r3):∃a b c,aG P gl f args (.aJ [a,b,c])∧k a b c:=⟨r1,r2,r3,hH,hk⟩
theorem Xn(a b:List aq):aK a++aK b=aK (a++b):=by simp[aK]
theorem aaX{l:List bg}{L:List D}{x:D}(hx:aW 3 L x)(hl:o9 l L)(h8:l.length≤8)(hm:∀m∈l,de m.ay):aG Try.prog gl 54 [.d x] (svR (gz l 0 [] [])):=by
 have ct:l.length≤maxLen:=Nat.le_trans h8 (by decide)
 refine cM bG (cb (fn:=Try.f54) (by kernel_rfl) (by kernel_rfl) (by kernel_rfl)) (h:=h54) ?_;rw[ah8];intro bJ
 have Iy:oo (.d (.sl .nil 0 []))=some (iw []):=rfl
 simp only[Iy,hx.len,hl.len,sS,sT,sZ]
 refine Ae (α:=List az×List aq) (fun i a=>gz (l.take i) 0 [] []=.ok a∧a.1.length≤120*i∧a.2.length≤4920*i) (fun i a=>[iw a.1,aQ 6 (aK a.2),.d x,.d (.int .i64 (l.length:Int)),.d (.int .i64 ((i:Nat):Int))]) (fun i a=>[[.d (.int .i64 0),.d (.int .i64 0),.d (.int .i64 0),.d (.str [])]]) l.length ([],[]) ⟨rfl,by simp,by simp⟩ (fun i a hi hJ I hI=>?_) (fun a hJ I=>?_)
 ·obtain⟨o,os⟩:=a
  obtain⟨hJ,SF,Mz⟩:=hJ
  dsimp only at SF Mz
  simp only[sS,sT,sZ]
  refine And.intro (fun _=>?_) (fun h=>absurd h (by simp;omega))
  obtain⟨m,dc⟩:=get_some hi
  obtain⟨y,hy,gM⟩:=hl.at_ dc
  have cm:=hm m (List.mem_of_getElem? dc)
  have hS:=aiR cm gM
  have aY:=aeX dc hJ
  cases gM with
  |mk xs Lm C4 Q3=>
  simp only[hx.at hy,DB,BI,AR,OZ,OX,DA,sS,sT,sZ]
  cases gV:ff m.ay with
  |error e=>
   obtain⟨c0,s0⟩:=e
   rw[gV]at hS aY
   dsimp only at hS aY
   refine call2 hS ?_
   simp only[jl,dq,dr,z4,dC,fZ,eQ,n9 (yh gV),sS,sT,sZ]
   refine And.intro (fun _=>?_) (fun h=>absurd h (by decide))
   rw[Xm aY]
   rfl
  |ok sy=>
   have Fc:=DC cm gV
   rw[gV]at hS aY
   dsimp only at hS aY
   refine call2 hS ?_
   simp only[eI,dq,dr,z4,dC,fZ,eQ,sS,sT,sZ]
   refine And.intro (fun h=>absurd h (by decide)) (fun _=>?_)
   refine gN (Jt _ _) (by simp only[eA];omega) ?_
   have aM:=cm.sz
   have H1:=aaW m.ay o (i:Int) (-1) true C4 Q3 cm (by omega)
   cases hg:gL m.ay o (i:Int) (-1) true with
   |error e=>
    obtain⟨c0,s0⟩:=e
    rw[hg]at H1 aY
    dsimp only at aY
    refine Ym H1 (by rw[BR,Ww]) ?_
    simp only[jl,dq,dr,z4,fE,dC,fZ,eQ,n9 (AD _ hg),sS,sT,sZ]
    refine And.intro (fun _=>?_) (fun h=>absurd h (by decide))
    rw[Xm aY]
    rfl
   |ok o2=>
    rw[hg]at H1 aY
    dsimp only at aY
    have My:=(qK _ hg).1
    have fW:=ah.qQ m.ay
    refine Ym H1 (by rw[BR,Ww]) ?_
    simp only[eI,dq,dr,z4,fE,dC,fZ,eQ,sS,sT,sZ]
    refine And.intro (fun h=>absurd h (by decide)) (fun _=>?_)
    refine aU (br hi ct) ?_
    have:=hI (o2,os++sy) ⟨aY,by dsimp only;omega,by simp only[List.length_append];omega⟩
    rw[Xn]
    exact this
 ·obtain⟨o,os⟩:=a
  simp only[sS,sT,sZ]
  refine And.intro (fun h=>absurd h (by simp)) (fun _=>?_)
  have h1:=hJ.1
  rw[List.take_length]at h1
  simp only[yz,uM,dq,dr,fE,dC,sS,sT,sZ]
  rw[h1]
  exact⟨BB _,kS _ _,rfl⟩
end Go.Proofs.Ytimbllcalipehaa.Ab
namespace Go.Proofs.Ytimbllcalipehaa.Ab
open Go
set_option linter.unusedVariables false
set_option maxRecDepth 4000
def sg(l:List az)(b:az):Bool:=if b.up<0 then true else(match l[b.up.toNat]? with
 |some p=>p.here&&(p.mark==b.uD)
 |none=>false)
def yA(l:List az)(i:Nat):List az:=match l[i]? with
 |some b=>l.set i {b with here:=sg l b}
 |none=>l
def kz(l:List az)(i:Nat):List az:=(List.range i).foldl yA l
def aV(l:List az):List az:=kz l l.length
theorem acu(l:List az)(i:Nat):(yA l i).length =l.length:=by
 unfold yA
 split<;>simp
theorem JC(l:List az)(i:Nat):kz l (i+1)=yA (kz l i) i:=by
 rw[kz,List.range_succ,List.foldl_append];rfl
theorem BL(l:List az):∀i,(kz l i).length =l.length
 |0=>rfl
 |i+1=>by rw[JC,acu,BL l i]
def az.same(a b:az):Prop:=a.mo=b.mo∧a.up=b.up∧a.uD=b.uD∧a.th=b.th∧a.el=b.el∧a.mark=b.mark
theorem adG{l:List az}{i j:Nat}{b:az}(h:(yA l i)[j]? =some b):∃b',l[j]? =some b'∧b.same b':=by
 unfold yA at h
 split at h
 ·rename_i c hc
  rw[List.getElem?_set]at h
  split at h
  ·rename_i eY
   subst eY
   split at h
   ·cases h
    exact⟨c,hc,rfl,rfl,rfl,rfl,rfl,rfl⟩
   ·cases h
  ·exact⟨b,h,rfl,rfl,rfl,rfl,rfl,rfl⟩
 ·exact⟨b,h,rfl,rfl,rfl,rfl,rfl,rfl⟩
theorem az.acv{a b c:az}(h:a.same b)(k:b.same c):a.same c:=
 ⟨h.1.trans k.1,h.2.1.trans k.2.1,h.2.2.1.trans k.2.2.1,h.2.2.2.1.trans k.2.2.2.1,h.2.2.2.2.1.trans k.2.2.2.2.1,h.2.2.2.2.2.trans k.2.2.2.2.2⟩
theorem O3{l:List az}:∀{i j:Nat}{b:az},(kz l i)[j]? =some b→∃b',l[j]? =some b'∧b.same b'
 |0,j,b,h=>⟨b,h,rfl,rfl,rfl,rfl,rfl,rfl⟩
 |i+1,j,b,h=>by
  rw[JC]at h
  obtain⟨b1,h1,h2⟩:=adG h
  obtain⟨b2,h3,h4⟩:=O3 h1
  exact⟨b2,h3,az.acv h2 h4⟩
def Hu(l:List az):Prop:=∀b∈l,b.up<0∨b.up<l.length
theorem Hu.pl{l:List az}(h:Hu l)(i:Nat):Hu (kz l i):=fun b hb=>by
 obtain⟨j,hj⟩:=List.mem_iff_getElem?.1 hb
 obtain⟨b',h1,h2⟩:=O3 hj
 rw[BL,h2.2.1]
 exact h b' (List.mem_of_getElem? h1)
theorem Y8(b:az):b.cells[1]? =some (.d (.int .i64 b.up)):=rfl
theorem aj5(b:az):b.cells[2]? =some (.d (.bool b.uD)):=rfl
theorem aj6(b:az):b.cells[5]? =some (.d (.bool b.mark)):=rfl
theorem aj7(b:az):b.cells[6]? =some (.d (.bool b.here)):=rfl
theorem aj8(a b:Bool):ai (some (false,[.bool])) .eql (.d (.bool a)) (.d (.bool b))=some (.d (.bool (a==b))):=rfl
theorem Uk{l:List az}(hu:Hu l)(hl:l.length≤2^20):aG Try.prog gl 75 (pM 0 [iw l]) (.aJ [iw (aV l)]):=by
 cases H5:l with
 |nil=>
  refine Jm bG (cb (fn:=Try.f75) (by kernel_rfl) (by kernel_rfl) (by kernel_rfl)) (hh:=Zy) rfl (by decide) (fun h=>by cases h) ?_
  rw[agd]
  intro bJ
  have e0:iw []=.d (.sl .nil iN []):=rfl
  have e1:bm (.d (.sl .nil iN []))=some (.d (.int .i64 0)):=rfl
  rw[e0]
  simp only[e1,sS,sT,sZ]
  intro I hI
  refine hI _ _ ?_
  simp only[sS,sT,sZ]
  refine And.intro (fun h=>absurd h (by decide)) (fun _=>?_)
  rfl
 |cons b0 l0=>
 rw[←H5]
 have bf:l≠[]:=by rw[H5];simp
 have ct:l.length≤maxLen:=Nat.le_trans hl (by decide)
 refine Jm bG (cb (fn:=Try.f75) (by kernel_rfl) (by kernel_rfl) (by kernel_rfl)) (hh:=h75) (by simp[SV.iB,BB]) (by simp) (fun h=>?_) ?_
 ·have SG:aV l≠[]:=fun he=>by
   have:=BL l l.length
   rw[show kz l l.length=aV l from rfl,he]at this
   simp at this;exact bf (List.length_eq_zero_iff.1 this.symm)
  rw[wQ SG]at h
  cases h
 rw[aie]
 intro bJ
 refine DI (fun _=>?_) (fun he=>absurd he bf)
 rw[show bc (dR l)=bc (dR (kz l 0)) from rfl]
 simp only[qG]
 refine fV (fun i=>[.d (.int .i64 (l.length:Int)),.d (.int .i64 ((i:Nat):Int))]) (fun i=>[bc (dR (kz l i))]) l.length (fun i hi I hI=>?_) (fun I=>?_)
 ·simp only[qG,sS,sT,sZ]
  refine And.intro (fun _=>?_) (fun h=>absurd h (by simp;omega))
  have lJ:cN (.d (.int .i64 (i:Int))) l.length=some i:=je hi
  have hlen:=BL l i
  have vZ:=hu.pl i
  rw[JC]at hI
  generalize kz l i=q at hlen vZ hI ⊢
  obtain⟨b,hb⟩:=get_some (by omega:i<q.length)
  have aY:yA q i=q.set i {b with here:=sg q b}:=by unfold yA;rw[hb]
  rw[aY]at hI
  have eW:∀v,setAt (bc (dR q)) (i*7+6) [.d (.bool v)]=bc (dR (q.set i {b with here:=v})):=fun v=>Kz 6 (.bool v) {b with here:=v} q i b hb (by omega) rfl
  simp only[lJ,Gj hb (by omega:1<7),Y8,sS,sT,sZ]
  have hle:i*7+6+1≤(bc (dR q)).length :=by rw[DT,hlen];omega
  refine And.intro (fun h=>?_) (fun h=>?_)
  ·have hh:sg q b=true:=by unfold sg;rw[if_pos (by simpa using h)]
   rw[hh]at hI
   simp only[J5,sS,sT,sZ]
   refine⟨rfl,hle,?_⟩
   refine aU (br hi ct) ?_
   rw[eW]
   exact hI
  ·have hn:¬b.up<0:=by simpa using h
   have aO:b.up<q.length:=(vZ b (List.mem_of_getElem? hb)).resolve_left hn
   obtain⟨k,hk⟩:=Int.eq_ofNat_of_zero_le (by omega:0≤b.up)
   have ES:k<q.length:=by omega
   obtain⟨p,hp⟩:=get_some ES
   have alu:cN (.d (.int .i64 b.up)) l.length=some k:=by rw[hk,←hlen];exact je ES
   have hh:sg q b=(p.here&&(p.mark==b.uD)):=by
    unfold sg
    rw[if_neg hn,hk,Int.toNat_natCast,hp]
   rw[hh]at hI
   simp only[alu,Gj hp (by omega:6<7),Gj hp (by omega:5<7),Gj hb (by omega:1<7),Gj hb (by omega:2<7),Y8,aj5,aj6,aj7,aj8,J5,sS,sT,sZ]
   refine And.intro (fun h=>?_) (fun h=>?_)
   ·rw[h,Bool.true_and]at hI
    refine⟨rfl,hle,?_⟩
    refine aU (br hi ct) ?_
    rw[eW]
    exact hI
   ·rw[h,Bool.false_and]at hI
    refine⟨rfl,hle,?_⟩
    refine aU (br hi ct) ?_
    rw[eW]
    exact hI
 ·simp only[qG,sS,sT,sZ]
  refine And.intro (fun h=>absurd h (by simp)) (fun _=>?_)
  have hlen:=BL l l.length
  have hg:=xZ (kz l l.length)
  rw[hlen]at hg
  simp only[yg,hg,sS,sT,sZ]
  have SG:aV l≠[]:=fun he=>by
   rw[show kz l l.length=aV l from rfl,he]at hlen
   simp at hlen;exact bf (List.length_eq_zero_iff.1 hlen.symm)
  rw[wQ SG]
  rfl
end Go.Proofs.Ytimbllcalipehaa.Ab
namespace Go.Proofs.Ytimbllcalipehaa.Ab
open Go
set_option linter.unusedVariables false
set_option maxRecDepth 4000
theorem aaY(L:List D)(hl:L.length≤2^40):aG Try.prog gl 93 [.d (bB 6 L)] (aQ 6 L):=by
 refine cM bG (cb (fn:=Try.f93) (by kernel_rfl) (by kernel_rfl) (by kernel_rfl)) (h:=h93) ?_;rw[ahN];intro bJ
 cases L with
 |nil=>
  simp only[sS,sT,sZ,bB,nil_eq,aQ]
  refine And.intro (fun _=>?_) (fun h=>absurd h (by simp))
  trivial
 |cons a L=>
  simp only[sS,sT,sZ,bB,nil_eq,aQ]
  refine And.intro (fun h=>absurd h (by simp)) (fun _=>?_)
  refine⟨rfl,Ot (sz:=6) (cX:=72) (L:=[]) (M:=a::L) (by simp[elems]) (by simp only[List.length_nil,Nat.zero_add];omega) ?_⟩
  simp[kq,SV.aD]
structure Q4(l:List az)(x:SV):Prop where
 mW:aa x=x
 len:bm x=some (.d (.int .i64 (l.length:Int)))
 at_:∀{i:Nat}{b:az},l[i]? =some b→∃p,aL 7 x (.d (.int .i64 (i:Int)))=some p∧aa p=p∧aI true 7 p=some (.d b.enc)
theorem Xo:∀(l:List az)(j:Nat),(bc (dR l)).drop (j*7)=bc (dR (l.drop j))
 |[],j=>by simp[dR,bc]
 |s::l,0=>rfl
 |s::l,j+1=>by
  rw[yf,List.drop_append]
  have h1:s.cells.length=7:=rfl
  rw[h1,show(j+1)*7-7=j*7 by omega,List.drop_of_length_le (by rw[h1];omega),Xo l j]
  rfl
theorem Wz{l:List az}{j:Nat}{y:az}(h:l[j]? =some y):aj true 7 (j*7) (bc (dR l))=some (.d y.enc):=by
 have hj:=(List.getElem?_eq_some_iff.1 h).1
 unfold aj
 rw[cond_true,if_pos (by rw[DT];omega),Xo,xY h,yf]
 rfl
theorem Yn:∀(l:List az),(bc (dR l)).map aa=bc (dR l)
 |[]=>rfl
 |s::l=>by rw[yf,List.map_append,Yn l];rfl
def Qb(l:List az):SV:=.cU l.length 7 (bc (dR l))
theorem adH(l:List az):Q4 l (Qb l):=by
 refine⟨rfl,rfl,fun{i b}hb=>⟨.ref (bc (dR l)) (i*7),?_,rfl,?_⟩⟩
 ·have h1:cN (.d (.int .i64 (i:Int))) l.length=some i:=je (List.getElem?_eq_some_iff.1 hb).1
  simp only[aL,Qb,h1,if_true]
 ·simp only[aI,Wz hb,aa]
theorem aeY(s:Nat):Q4 [] (.d (.sl .nil s [])):=⟨rfl,rfl,fun{i b}hb=>by simp at hb⟩
def nf(b:az):List aq:=if b.here then(if b.mark then b.th else b.el)else []
def g9(l:List az)(os:List aq):List aq:=os++l.flatMap nf
theorem abz{l:List az}{i:Nat}{b:az}(h:l[i]? =some b)(os:List aq):g9 (l.take (i+1)) os=g9 (l.take i) os++nf b:=by
 rw[dX h,g9,g9,List.flatMap_append];simp
theorem VK{l:List az}{os:List aq}{c:Nat}(hb:∀b∈l,b.th.length≤c∧b.el.length≤c):(g9 l os).length ≤os.length+l.length*c:=by
 have:(l.flatMap nf).length ≤l.length*c:=J8 fun b eC=>by
  unfold nf
  have:=hb b eC
  split
  ·split<;>omega
  ·simp
 rw[g9,List.length_append];omega
theorem Ul{l:List az}{x:SV}(hx:Q4 l x)(ZG:ou [x]=none){os:List aq}{c:Nat}(hb:∀b∈l,b.th.length≤c∧b.el.length≤c)(hc:os.length+l.length*c≤2^30)(hl:l.length≤2^20):aG Try.prog gl 76 [x,.d (bB 6 (aK os))] (aQ 6 (aK (g9 l os))):=by
 have ct:l.length≤maxLen:=Nat.le_trans hl (by decide)
 have aj9:ou [x,.d (bB 6 (aK os))]=none:=by
  unfold ou at ZG ⊢
  cases x with
  |aJ vs=>cases vs with
   |nil=>rfl
   |cons v vs=>cases v<;>first|rfl|cases ZG
  |_=>rfl
 refine cM bG (cb (fn:=Try.f76) (by kernel_rfl) (by kernel_rfl) (by kernel_rfl)) (h:=h76) ?_ aj9
 rw[aif]
 intro bJ
 simp only[sS,sT,sZ]
 refine cV (aaY (aK os) (by rw[eA];omega)) (ka _ _) ?_
 simp only[hx.mW,hx.len,sS,sT,sZ]
 rw[show aQ 6 (aK os)=aQ 6 (aK (g9 (l.take 0) os)) by simp[g9]]
 refine fV (fun i=>[aQ 6 (aK (g9 (l.take i) os)),x,.d (.int .i64 (l.length:Int)),.d (.int .i64 ((i:Nat):Int))]) (fun i=>[]) l.length (fun i hi I hI=>?_) (fun I=>?_)
 ·simp only[hx.mW,sS,sT,sZ]
  refine And.intro (fun _=>?_) (fun h=>absurd h (by simp;omega))
  obtain⟨b,kJ⟩:=get_some hi
  obtain⟨p,SH,MA,hp3⟩:=hx.at_ kJ
  have LV:=hb b (List.mem_of_getElem? kJ)
  have hle:=VK (l:=l.take i) (os:=os) (c:=c) (fun b' h'=>hb b' (List.mem_of_mem_take h'))
  have aO:(l.take i).length =i:=by rw[List.length_take];omega
  rw[aO]at hle
  have xH:(i+1)*c≤l.length*c:=Nat.mul_le_mul_right _ hi
  rw[Nat.succ_mul]at xH
  rw[abz kJ,←Xn]at hI
  unfold nf at hI
  simp only[SH,MA,hp3,JV,G2,Ly,Y7,aj0,KR,Qa,sS,sT,sZ]
  refine And.intro (fun h=>?_) (fun h=>?_)
  ·rw[h,if_pos rfl]at hI
   refine And.intro (fun h2=>?_) (fun h2=>?_)
   ·rw[h2,if_pos rfl]at hI
    refine gN (Jt _ _) (by simp only[eA];omega) ?_
    refine aU (br hi ct) ?_
    exact hI
   ·rw[h2,if_neg (by decide)]at hI
    try simp only[h,sS,sT,sZ]
    refine And.intro (fun _=>?_) (fun h3=>absurd h3 (by simp[h]))
    refine gN (Jt _ _) (by simp only[eA];omega) ?_
    refine aU (br hi ct) ?_
    exact hI
  ·rw[h,if_neg (by decide)]at hI
   try simp only[h,sS,sT,sZ]
   refine And.intro (fun h3=>absurd h3 (by simp[h])) (fun _=>?_)
   refine aU (br hi ct) ?_
   simp only[aK,List.map_nil,List.append_nil]at hI
   exact hI
 ·simp only[sS,sT,sZ]
  refine And.intro (fun h=>absurd h (by simp)) (fun _=>?_)
  rw[List.take_length]
  exact⟨kS _ _,rfl⟩
end Go.Proofs.Ytimbllcalipehaa.Ab
namespace Go.Proofs.Ytimbllcalipehaa.Ab
open Go
set_option linter.unusedVariables false
set_option maxRecDepth 4000
def j6(bF:List aq)(x:aq):List (List UInt8):=(bF.filter (eS x)).flatMap aq.perms
def pJ(bF:List aq)(x:aq):List (List UInt8):=x.perms.filter fun p=> !fR p (j6 bF x)
def xw(bF:List aq)(x:aq):List aq:=if !x.cJ||vf x.kind x.name then []else
 if !bF.any (eS x)||decide (0<(pJ bF x).length)then [{x with perms:=pJ bF x}]else []
def fF(eF bF:List aq):List aq:=eF.flatMap (xw bF)
theorem WA{l:List aq}{i:Nat}{y:aq}(h:l[i]? =some y)(x:aq):j6 (l.take (i+1)) x=j6 (l.take i) x++if eS x y then y.perms else []:=by
 rw[dX h,j6,j6,List.filter_append,List.flatMap_append]
 by_cases hd:eS x y=true<;>simp[hd]
theorem Yo(l:List aq)(x:aq):(j6 l x).length ≤db l:=by
 induction l with
 |nil=>simp[j6,db]
 |cons y l ih=>
  have:j6 (y::l) x=(if eS x y then y.perms else [])++j6 l x:=by
   unfold j6
   by_cases hd:eS x y=true
   ·simp[List.filter_cons_of_pos hd,hd]
   ·simp[List.filter_cons_of_neg hd,hd]
  rw[this,List.length_append]
  have h2:db (y::l)=y.perms.length+db l:=by simp[db]
  rw[h2]
  split
  ·omega
  ·simp;omega
theorem TV{p:List UInt8→Bool}{l:List (List UInt8)}{i:Nat}{k:List UInt8}(h:l[i]? =some k):(l.take (i+1)).filter p=(l.take i).filter p++if p k then [k]else []:=by
 rw[dX h,List.filter_append]
 by_cases hp:p k=true<;>simp[hp]
theorem aeZ(bF:List aq)(x:aq):(xw bF x).length ≤1:=by
 unfold xw
 split
 ·simp
 ·split<;>simp
theorem VL{l:List aq}{i:Nat}{y:aq}(h:l[i]? =some y)(bF:List aq):fF (l.take (i+1)) bF=fF (l.take i) bF++xw bF y:=by
 rw[dX h,fF,fF,List.flatMap_append];simp
theorem WB(l bF:List aq):(fF l bF).length ≤l.length:=by
 have:=J8 (l:=l) (f:=xw bF) (c:=1) fun x _=>aeZ bF x
 rw[Nat.mul_one]at this
 exact this
theorem ZH(x:aq)(p:List (List UInt8)):setAt x.cells 3 [.d (bB 1 (cP p))]=aq.cells {x with perms:=p}:=rfl
theorem Kb(s:aq):bu 6 1 [(0,s.enc)]=true:=rfl
theorem ae0(a b:List (List UInt8)):cP a++cP b=cP (a++b):=by simp[cP]
theorem Xq(s:List UInt8):aI false 1 (.aX (.str s) 0)=some (.d (.str s)):=rfl
theorem aaB(eF bF:List aq){x y:D}(hx:aW 6 (aK eF) x)(hy:aW 6 (aK bF) y)(hn:eF.length≤2^30)(hh:bF.length≤2^30)(hp:db bF≤2^30)(SI:∀s∈eF,s.perms.length≤2^30):
  aG Try.prog gl 77 [.d x,.d y] (aQ 6 (aK (fF eF bF))):=by
 have rH:eF.length≤maxLen:=Nat.le_trans hn (by decide)
 have Iz:bF.length≤maxLen:=Nat.le_trans hh (by decide)
 refine cM bG (cb (fn:=Try.f77) (by kernel_rfl) (by kernel_rfl) (by kernel_rfl)) (h:=h77) ?_;rw[ahI];intro bJ
 simp only[hx.len,eA,sS,sT,sZ]
 refine fV (fun i=>[.d y,aQ 6 (aK (fF (eF.take i) bF)),.d x,.d (.int .i64 (eF.length:Int)),.d (.int .i64 ((i:Nat):Int))]) (fun i=>[]) eF.length (fun i hi I hI=>?_) (fun I=>?_)
 ·simp only[sS,sT,sZ]
  refine And.intro (fun _=>?_) (fun h=>absurd h (by simp;omega))
  obtain⟨s,hs⟩:=get_some hi
  have lL:=SI s (List.mem_of_getElem? hs)
  have Hv:s.perms.length≤maxLen:=Nat.le_trans lL (by decide)
  have tm:=WB (eF.take i) bF
  rw[List.length_take]at tm
  rw[VL hs]at hI
  simp only[hx.at (mf hs),qI,ga,fN,g8,gO,gE,g7,iC,sS,sT,sZ]
  unfold xw at hI
  refine And.intro (fun h=>?_) (fun h=>?_)
  ·have h':(!s.cJ)=true:=h
   rw[h',Bool.true_or,if_pos rfl,List.append_nil]at hI
   refine aU (br hi rH) ?_
   exact hI
  have h':(!s.cJ)=false:=h
  rw[h',Bool.false_or]at hI
  refine dZ (M6 s.kind s.name) ?_
  simp only[sS,sT,sZ]
  refine And.intro (fun h2=>?_) (fun h2=>?_)
  ·rw[if_pos h2,List.append_nil]at hI
   refine aU (br hi rH) ?_
   exact hI
  rw[if_neg (by rw[h2];simp)]at hI
  simp only[hy.len,eA,sS,sT,sZ]
  refine fV (fun k=>[.d y,aQ 6 (aK (fF (eF.take i) bF)),.d (.bool ((bF.take k).any (eS s))),aQ 1 (cP (j6 (bF.take k) s)),.d x,.d (.int .i64 (eF.length:Int)),.d (.int .i64 ((i:Nat):Int)),.d y,.d (.int .i64 (bF.length:Int)),.d (.int .i64 ((k:Nat):Int))]) (fun k=>[s.cells]) bF.length (fun k hk I2 cq=>?_) (fun I2=>?_)
  ·simp only[sS,sT,sZ]
   refine And.intro (fun _=>?_) (fun h=>absurd h (by simp;omega))
   obtain⟨t,ht⟩:=get_some hk
   have gv:=Yo (bF.take k) s
   have HH:=Br ht
   have alv:=Dl bF (k+1)
   rw[Wt ht,WA ht]at cq
   simp only[hy.at (mf ht),qI,ga,fN,g8,gO,gE,g7,kV,iC,sS,sT,sZ]
   have skip:eS s t=false→ab (ai none .add (.d (.int .i64 ((k:Nat):Int))) (.d (.int .i64 1))) fun r=>I2 [.d y,aQ 6 (aK (fF (eF.take i) bF)),.d (.bool ((bF.take k).any (eS s))),aQ 1 (cP (j6 (bF.take k) s)),.d x,.d (.int .i64 (eF.length:Int)),.d (.int .i64 ((i:Nat):Int)),.d y,.d (.int .i64 (bF.length:Int)),aa r] [s.cells]:=fun hd=>by
    rw[hd,Bool.or_false,if_neg (by decide),List.append_nil]at cq
    refine aU (br hk Iz) ?_
    exact cq
   refine And.intro (fun h3=>?_) (fun h3=>?_)
   ·refine And.intro (fun h4=>?_) (fun h4=>?_)
    ·have h5:ai (some (false,[.str])) .eql (.d (.str t.name)) (.d (.str s.name))=some (.d (.bool (t.name==s.name))):=Aj _ _
     simp only[h5,sS,sT,sZ]
     refine And.intro (fun h6=>?_) (fun h6=>?_)
     ·have hd:eS s t=true:=by rw[eS,show(!t.cJ)=true from h3,show(t.kind==s.kind)=true from h4,h6];rfl
      rw[hd,Bool.or_true,if_pos rfl,←ae0]at cq
      refine gN (Jt _ _) (by simp only[jP];omega) ?_
      refine aU (br hk Iz) ?_
      exact cq
     ·exact skip (by rw[eS,show(!t.cJ)=true from h3,show(t.kind==s.kind)=true from h4,h6];rfl)
    ·exact skip (by rw[eS,show(!t.cJ)=true from h3,show(t.kind==s.kind)=false from h4];rfl)
   ·exact skip (by rw[eS,show(!t.cJ)=false from h3];rfl)
  ·simp only[sS,sT,sZ]
   refine And.intro (fun h=>absurd h (by simp)) (fun _=>?_)
   rw[List.take_length]
   have gv:=Yo bF s
   have p8:(j6 bF s).length ≤maxLen:=Nat.le_trans (Nat.le_trans gv hp) (by decide)
   simp only[kV,(cK 1 (cP s.perms)).len,jP,sS,sT,sZ]
   refine fV (fun k=>[.d y,aQ 6 (aK (fF (eF.take i) bF)),.d (.bool (bF.any (eS s))),aQ 1 (cP (j6 bF s)),aQ 1 (cP ((s.perms.take k).filter fun p=> !fR p (j6 bF s))),.d x,.d (.int .i64 (eF.length:Int)),.d (.int .i64 ((i:Nat):Int)),.d (bB 1 (cP s.perms)),.d (.int .i64 (s.perms.length:Int)),.d (.int .i64 ((k:Nat):Int))]) (fun k=>[s.cells]) s.perms.length (fun k hk I3 gm=>?_) (fun I3=>?_)
   ·simp only[sS,sT,sZ]
    refine And.intro (fun _=>?_) (fun h=>absurd h (by simp;omega))
    obtain⟨t,ht⟩:=get_some hk
    have rG:=List.length_filter_le (fun p=> !fR p (j6 bF s)) (s.perms.take k)
    rw[List.length_take]at rG
    rw[TV ht]at gm
    simp only[(cK 1 (cP s.perms)).at (Ak ht),Xq,ez,sS,sT,sZ]
    refine dZ (Tw (j6 bF s) (cK 1 _) p8 t) ?_
    simp only[iC,sS,sT,sZ]
    refine And.intro (fun h3=>?_) (fun h3=>?_)
    ·have kI:(!fR t (j6 bF s))=true:=h3
     rw[if_pos kI,←Ju]at gm
     simp only[JM,Ks,JN,sS,sT,sZ]
     refine gN (qB 1 _) (by rw[jP];simp only[List.length_singleton];omega) ?_
     refine aU (br hk Hv) ?_
     exact gm
    ·have kI:(!fR t (j6 bF s))=false:=h3
     rw[if_neg (by rw[kI];simp),List.append_nil]at gm
     refine aU (br hk Hv) ?_
     exact gm
   ·simp only[sS,sT,sZ]
    refine And.intro (fun h=>absurd h (by simp)) (fun _=>?_)
    rw[List.take_length]
    have p7:(s.perms.filter fun p=> !fR p (j6 bF s))=pJ bF s:=rfl
    rw[p7]
    simp only[iC,ez,Bv,ZH,fD,sS,sT,sZ]
    have fin:(!bF.any (eS s)||decide (0<(pJ bF s).length))=true→bR 6 72 (aQ 6 (aK (fF (eF.take i) bF))) (.full 6 [aq.enc {s with perms:=pJ bF s}]) fun r=>ab (ai none .add (.d (.int .i64 ((i:Nat):Int))) (.d (.int .i64 1))) fun r2=>I [.d y,r,.d x,.d (.int .i64 (eF.length:Int)),aa r2] []:=fun hc=>by
     rw[if_pos hc]at hI
     refine gN (qB 6 _) (by simp only[eA,List.length_singleton];omega) ?_
     refine aU (br hi rH) ?_
     have e:aK (fF (eF.take i) bF)++[aq.enc {s with perms:=pJ bF s}]=aK (fF (eF.take i) bF++[{s with perms:=pJ bF s}]):=by simp[aK]
     rw[e]
     exact hI
    refine And.intro (fun h3=>?_) (fun h3=>?_)
    ·have kI:(!bF.any (eS s))=true:=h3
     refine⟨rfl,by simp only[fN];decide,?_⟩
     simp only[dG,Kb,jQ,sS,sT,sZ]
     exact fin (by rw[kI];rfl)
    ·have kI:(!bF.any (eS s))=false:=h3
     simp only[(cK 1 (cP (pJ bF s))).len,jP,sS,sT,sZ]
     refine And.intro (fun h4=>?_) (fun h4=>?_)
     ·refine⟨rfl,by simp only[fN];decide,?_⟩
      simp only[dG,Kb,jQ,sS,sT,sZ]
      exact fin (by rw[kI,Bool.false_or];simp at h4 ⊢;omega)
     ·rw[if_neg (by rw[kI,Bool.false_or];simp at h4 ⊢;omega),List.append_nil]at hI
      refine aU (br hi rH) ?_
      exact hI
 ·simp only[sS,sT,sZ]
  refine And.intro (fun h=>absurd h (by simp)) (fun _=>?_)
  rw[List.take_length]
  exact⟨kS _ _,rfl⟩
end Go.Proofs.Ytimbllcalipehaa.Ab
namespace Go.Proofs.Ytimbllcalipehaa.Ab
open Go
set_option linter.unusedVariables false
set_option maxRecDepth 4000
def gr(l:List az)(hv:List aq)(i:Nat):Bool:=match l[i]? with
 |some b=>b.here&&(b.mark&&decide (0<(fF b.th hv).length))
 |none=>false
def lF(l:List az)(hv:List aq):List Nat:=(List.range l.length).filter (gr l hv)
def wR(l:List az)(hv:List aq)(i:Nat):List Nat:=(List.range i).filter (gr l hv)
theorem abA(l:List az)(hv:List aq)(i:Nat):wR l hv (i+1)=wR l hv i++if gr l hv i then [i]else []:=by
 rw[wR,List.range_succ,List.filter_append]
 by_cases h:gr l hv i=true<;>simp[wR,h]
theorem U1(l:List az)(hv:List aq)(i:Nat):(wR l hv i).length ≤i:=by
 have:=List.length_filter_le (gr l hv) (List.range i)
 rwa[List.length_range]at this
theorem adI{l:List az}{hv:List aq}{i k:Nat}(h:k∈wR l hv i):k<i:=by
 have:=(List.mem_filter.1 h).1
 rwa[List.mem_range]at this
def lK(l:List az)(i:Nat):List az:=match l[i]? with
 |some b=>l.set i {b with mark:=false}
 |none=>l
def jt(l:List az)(q:List Nat):List az:=q.foldl lK l
theorem WC(l:List az)(i:Nat):(lK l i).length =l.length:=by
 unfold lK;split<;>simp
theorem Gk:∀(q:List Nat)(l:List az),(jt l q).length =l.length
 |[],l=>rfl
 |i::q,l=>by rw[jt,List.foldl_cons];exact(Gk q (lK l i)).trans (WC l i)
theorem ae1{l:List az}{q:List Nat}{j k:Nat}(h:q[j]? =some k):jt l (q.take (j+1))=lK (jt l (q.take j)) k:=by
 rw[dX h,jt,jt,List.foldl_append];rfl
def rP:Nat→List az→List aq→List az
 |0,l,_=>l
 |f+1,l,os=>if lF (aV l) (g9 (aV l) os)=[]then aV l else rP f (jt (aV l) (lF (aV l) (g9 (aV l) os))) os
def pF(l:List az)(os:List aq):List az:=rP (l.length+1) l os
structure Fg(b:az):Prop where
 th:b.th.length≤4920
 el:b.el.length≤4920
 IA:db b.th≤196800
 SJ:db b.el≤196800
structure vo(l:List az)(os:List aq):Prop where
 len:l.length≤960
 up:Hu l
 ok:∀b∈l,Fg b
 MB:os.length≤39360
 pos:db os≤1574400
def jO(l l':List az):Prop:=l'.length=l.length∧∀(j:Nat)b',l'[j]? =some b'→∃b,l[j]? =some b∧b'.up=b.up∧b'.th=b.th∧b'.el=b.el∧b'.mo=b.mo∧b'.uD=b.uD
theorem vo.xR{l l':List az}{os:List aq}(h:vo l os)(hs:jO l l'):vo l' os:=by
 refine⟨by rw[hs.1];exact h.len,fun b hb=>?_,fun b hb=>?_,h.MB,h.pos⟩
 ·obtain⟨j,hj⟩:=List.mem_iff_getElem?.1 hb
  obtain⟨b',h1,h2,_⟩:=hs.2 j b hj
  rw[h2,hs.1]
  exact h.up b' (List.mem_of_getElem? h1)
 ·obtain⟨j,hj⟩:=List.mem_iff_getElem?.1 hb
  obtain⟨b',h1,h2,h3,h4,_⟩:=hs.2 j b hj
  have:=h.ok b' (List.mem_of_getElem? h1)
  exact⟨by rw[h3];exact this.th,by rw[h4];exact this.el,by rw[h3];exact this.IA,by rw[h4];exact this.SJ⟩
theorem jO.trans{a b c:List az}(h:jO a b)(k:jO b c):jO a c:=by
 refine⟨k.1.trans h.1,fun j x hx=>?_⟩
 obtain⟨y,h1,h2,h3,h4,h5,h6⟩:=k.2 j x hx
 obtain⟨z,k1,k2,k3,k4,k5,k6⟩:=h.2 j y h1
 exact⟨z,k1,h2.trans k2,h3.trans k3,h4.trans k4,h5.trans k5,h6.trans k6⟩
theorem uQ(l:List az):jO l (aV l):=by
 refine⟨BL l _,fun j b hb=>?_⟩
 obtain⟨b',h1,h2⟩:=O3 hb
 exact⟨b',h1,h2.2.1,h2.2.2.2.1,h2.2.2.2.2.1,h2.1,h2.2.2.1⟩
theorem ae2(l:List az)(i:Nat):jO l (lK l i):=by
 refine⟨WC l i,fun j b hb=>?_⟩
 unfold lK at hb
 split at hb
 ·rename_i c hc
  rw[List.getElem?_set]at hb
  split at hb
  ·rename_i eY
   subst eY
   split at hb
   ·cases hb;exact⟨c,hc,rfl,rfl,rfl,rfl,rfl⟩
   ·cases hb
  ·exact⟨b,hb,rfl,rfl,rfl,rfl,rfl⟩
 ·exact⟨b,hb,rfl,rfl,rfl,rfl,rfl⟩
theorem jO.refl(l:List az):jO l l:=⟨rfl,fun j b h=>⟨b,h,rfl,rfl,rfl,rfl,rfl⟩⟩
theorem Gl:∀(q:List Nat)(l:List az),jO l (jt l q)
 |[],l=>jO.refl l
 |i::q,l=>(ae2 l i).trans (Gl q (lK l i))
theorem FC(a b:List aq):db (a++b)=db a+db b:=by simp[db]
theorem Um{l:List aq}{s:aq}(h:s∈l):s.perms.length≤db l:=by
 induction l with
 |nil=>simp at h
 |cons y l ih=>
  have h2:db (y::l)=y.perms.length+db l:=by simp[db]
  rcases List.mem_cons.1 h with rfl|h
  ·omega
  ·have:=ih h;omega
theorem vo.there{l:List az}{os:List aq}(h:vo l os):(g9 l os).length ≤2^30∧db (g9 l os)≤2^30:=by
 have h1:=VK (l:=l) (os:=os) (c:=4920) fun b hb=>⟨(h.ok b hb).th,(h.ok b hb).el⟩
 have hl:=h.len
 have hp:∀q:List az,(∀b∈q,Fg b)→db (q.flatMap nf)≤q.length*196800:=by
  intro q
  induction q with
  |nil=>intro _;simp[db]
  |cons b q ih=>
   intro hq
   have hb:=hq b (by simp)
   have:=ih fun x hx=>hq x (by simp[hx])
   rw[List.flatMap_cons,FC,List.length_cons,Nat.succ_mul]
   have h2:db (nf b)≤196800:=by
    unfold nf
    split
    ·split
     ·exact hb.IA
     ·exact hb.SJ
    ·simp[db]
   omega
 have h3:=hp l h.ok
 have h4:=h.MB
 have h5:=h.pos
 have h6:l.length*4920≤960*4920:=Nat.mul_le_mul_right _ hl
 have h7:l.length*196800≤960*196800:=Nat.mul_le_mul_right _ hl
 rw[show db (g9 l os)=db os+db (l.flatMap nf) from FC _ _]
 constructor<;>omega
def xS(x:SV)(q:List Nat):Prop:=(x=.d (.sl .nil iN [])∧q=[])∨x=.aZ 1 (cQ q)
theorem VM:yS Try.prog 38 (.d (.sl .nil iN []))=some (.d (.sl .nil iN [])):=by kernel_rfl
theorem aka(L:List D):yS Try.prog 38 (.aZ 1 L)=some (.aZ 1 (L.map fun _=>.int .i64 0)):=by kernel_rfl
theorem VN:yT Try.prog 38 (.d (.sl .nil iN []))=some (.d (.sl .nil iN [])):=by kernel_rfl
theorem akb(L:List D):yT Try.prog 38 (.aZ 1 L)=some (.aZ 1 []):=by kernel_rfl
theorem xS.cut{x:SV}{q:List Nat}(h:xS x q):∃y z,yS Try.prog 38 x=some y∧yT Try.prog 38 y=some z∧xS z []:=by
 rcases h with⟨rfl,rfl⟩|rfl
 ·exact⟨_,_,VM,VN,.inl ⟨rfl,rfl⟩⟩
 ·exact⟨_,_,aka _,akb _,.inr rfl⟩
theorem xS.app{x:SV}{q:List Nat}(h:xS x q){i cX:Nat}{k:SV→Prop}(hb:(q.length+1)*cX≤140737488355328)(hk:∀y,xS y (q++[i])→k y):bR 1 cX x (.full 1 [.int .i64 (i:Int)]) k:=by
 rcases h with⟨rfl,rfl⟩|rfl
 ·unfold bR lG
  simp only[elems,if_true]
  exact⟨by simpa using hb,hk _ (.inr rfl)⟩
 ·unfold bR lG
  simp only[elems,if_true]
  refine⟨by simpa[nq]using hb,hk _ (.inr ?_)⟩
  rw[Jz]
theorem xS.box{x:SV}{q:List Nat}(h:xS x q){A:List D→Prop}{B:Prop}(h1:A (cQ q))(h2:q=[]→x=.d (.sl .nil iN [])→B):gI x 1 A B:=by
 rcases h with⟨rfl,hq⟩|rfl
 ·exact h2 hq rfl
 ·exact⟨rfl,h1⟩
theorem OB:∀(q:List Nat),bc (cQ q)=(cQ q).map SV.d
 |[]=>rfl
 |k::q=>by
  have:=OB q
  show(D.int .i64 (k:Int)).cells.map SV.d++bc (cQ q)=_
  rw[this];rfl
theorem Xr:∀(q:List Nat),eR false 1 q.length (cQ q)=some (cQ q)
 |[]=>rfl
 |k::q=>by
  have h1:cQ (k::q)=.int .i64 (k:Int)::cQ q:=rfl
  rw[h1]
  simp only[List.length_cons,eR,List.drop_one,List.tail_cons,Xr q,List.take_succ_cons,List.take_zero]
  rw[if_pos (by omega)]
  rfl
theorem ae3{q:List Nat}{j k:Nat}(h:q[j]? =some k):aj false 1 (j*1) (bc (cQ q))=some (.d (.int .i64 (k:Int))):=by
 rw[OB,aj,cond_false,Nat.mul_one,List.getElem?_map,BQ h];rfl
end Go.Proofs.Ytimbllcalipehaa.Ab
namespace Go.Proofs.Ytimbllcalipehaa.Ab
open Go
set_option linter.unusedVariables false
set_option maxRecDepth 4000
theorem Qc{P:Program}{gl:Nat→Option D}{f:FuncId}{args:List SV}{bk y:SV}{k:SV→Prop}(hH:aG P gl f args (.aJ [bk]))(hd:aa bk=y)(hk:k bk):∃c,aG P gl f args (.aJ [c])∧aa c=y∧k c:=⟨bk,hH,hd,hk⟩
theorem Xs{a b:List az}(h:a.length=b.length):Cp a=Cp b:=by
 cases a<;>cases b<;>first|rfl|simp at h
theorem ae4{l:List az}{k:Nat}{b:az}(h:l[k]? =some b):setAt (bc (dR l)) (k*7+5) [.d (.bool false)]=bc (dR (lK l k)):=by
 have:lK l k=l.set k {b with mark:=false}:=by unfold lK;rw[h]
 rw[this]
 exact Kz 5 (.bool false) {b with mark:=false} l k b h (by omega) rfl
theorem ae5(n:Nat)(A:List D→Prop)(B:Prop):gI (.d (.sl .nil iN [])) n A B=B:=rfl
theorem acw{os:List aq}(ho:os.length≤2^30):aG Try.prog gl 55 (pM 0 [iw [],.d (bB 6 (aK os))]) (.aJ [iw (pF [] os)]):=by
 have hcf:pF [] os=[]:=by simp[pF,rP,lF,aV,kz]
 rw[hcf]
 refine Jm bG (cb (fn:=Try.f55) (by kernel_rfl) (by kernel_rfl) (by kernel_rfl)) (hh:=Zx) (by simp[SV.iB,BB,SV.aD]) (by simp) (fun h=>by cases h) ?_
 rw[agc]
 intro bJ
 have Iy:oo (.d (.sl .nil 0 []))=some (.d (.sl .nil iN [])):=rfl
 have e0:iw []=.d (.sl .nil iN []):=rfl
 have e1:bm (.d (.sl .nil iN []))=some (.d (.int .i64 0)):=rfl
 have e2:ai none .add (.d (.int .i64 0)) (.d (.int .i64 1))=some (.d (.int .i64 1)):=rfl
 simp only[Iy,e0,e1,e2,sS,sT,sZ]
 intro I hI
 refine hI _ _ ?_
 simp only[sS,sT,sZ]
 refine And.intro (fun _=>?_) (fun h=>absurd h (by decide))
 refine Qc (show aG _ gl _ _ _ from Uk (l:=[]) (fun b hb=>by simp at hb) (by simp)) rfl ?_
 have Rr:iw (aV [])=.d (.sl .nil iN []):=rfl
 simp only[Rr,sS,sT,sZ]
 refine cV (Ul (l:=[]) (x:=.d (.sl .nil iN [])) (aeY _) rfl (os:=os) (c:=0) (fun b hb=>by simp at hb) (by simp only[List.length_nil];omega) (by simp)) (ka _ _) ?_
 simp only[VM,VN,e1,ez,sS,sT,sZ]
 intro I2 cq
 refine cq _ _ ?_
 simp only[sS,sT,sZ]
 refine And.intro (fun h=>absurd h (by decide)) (fun _=>?_)
 rw[ae5]
 simp only[e1,ke,sS,sT,sZ]
 refine And.intro (fun _=>?_) (fun h=>absurd h (by decide))
 trivial
theorem aaZ{l:List az}{os:List aq}(hc:vo l os):aG Try.prog gl 55 (pM 0 [iw l,.d (bB 6 (aK os))]) (.aJ [iw (pF l os)]):=by
 by_cases bf:l=[]
 ·subst bf
  exact acw (by have:=hc.MB;omega)
 have hl9:=hc.len
 have ct:l.length≤maxLen:=Nat.le_trans hl9 (by decide)
 have akc:∀f q,q≠[]→rP f q os≠[]:=by
  intro f
  induction f with
  |zero=>intro q h;exact h
  |succ f ih=>
   intro q h
   rw[rP]
   have hp:aV q≠[]:=fun he=>by
    have:=(uQ q).1
    rw[he]at this;exact h (List.length_eq_zero_iff.1 this.symm)
   split
   ·exact hp
   ·refine ih _ fun he=>?_
    have:=Gk (lF (aV q) (g9 (aV q) os)) (aV q)
    rw[he]at this;exact hp (List.length_eq_zero_iff.1 this.symm)
 refine Jm bG (cb (fn:=Try.f55) (by kernel_rfl) (by kernel_rfl) (by kernel_rfl)) (hh:=h55) (by simp[SV.iB,BB,SV.aD]) (by simp) (fun h=>?_) ?_
 ·unfold pF at h;rw[wQ (akc _ l bf)]at h;cases h
 rw[ah9]
 intro bJ
 refine tC [iw l,.d (bB 6 (aK os)),.d (.sl .nil iN []),.d (.int .i64 ((l.length+1:Nat):Int)),.d (.int .i64 0)] [] (fun J hJ=>?_) ?_
 ·have Iy:oo (.d (.sl .nil 0 []))=some (.d (.sl .nil iN [])):=rfl
  simp only[Iy,sS,sT,sZ]
  refine DI (fun _=>?_) (fun he=>absurd he bf)
  simp only[qG,sS,sT,sZ]
  refine aU (F9 (m:=l.length) (n:=1) (by omega)) ?_
  simp only[yg,xZ,sS,sT,sZ]
  rw[←wQ bf]
  exact hJ
 ·refine Ae (α:=List az×SV×List Nat) (fun k a=>jO l a.1∧xS a.2.1 a.2.2∧rP (l.length+1-k) a.1 os=pF l os) (fun k a=>[iw a.1,.d (bB 6 (aK os)),a.2.1,.d (.int .i64 ((l.length+1:Nat):Int)),.d (.int .i64 ((k:Nat):Int))]) (fun k a=>[]) (l.length+1) (l,.d (.sl .nil iN []),[]) ⟨jO.refl l,.inl ⟨rfl,rfl⟩,rfl⟩ (fun k a hk hJ I hI=>?_) (fun a hJ I=>?_)
  ·obtain⟨b,xs,q⟩:=a
   obtain⟨gk,nI,rQ⟩:=hJ
   dsimp only at gk nI rQ
   simp only[sS,sT,sZ]
   refine And.intro (fun _=>?_) (fun h=>absurd h (by simp;omega))
   have IB:=hc.xR gk
   have gv:=Uk IB.up (Nat.le_trans IB.len (by decide))
   have lR:=gk.trans (uQ b)
   have v7:=hc.xR lR
   have ui:aa (iw (aV b))=aa (iw b):=by rw[BR,BR];exact Xs (uQ b).1
   rw[show l.length+1-k=(l.length-k)+1 by omega,rP]at rQ
   refine Qc gv ui ?_
   have Qd:=lR.1
   generalize aV b=p at lR v7 rQ Qd ⊢
   have Lz:p≠[]:=fun he=>by rw[he]at Qd;exact bf (List.length_eq_zero_iff.1 Qd.symm)
   refine DI (fun _=>?_) (fun he=>absurd he Lz)
   have jN:=v7.there
   have dv:=v7.len
   have e5:SV.cU (dR p).length 7 (List.map aa (bc (dR p)))=Qb p:=by rw[qG,Yn];rfl
   rw[e5]
   refine cV (Ul (adH p) rfl (os:=os) (c:=4920) (fun b hb=>⟨(v7.ok b hb).th,(v7.ok b hb).el⟩) (by have:=v7.MB;omega) (by omega)) (ka _ _) ?_
   obtain⟨y,z,hy,hz,hlz⟩:=nI.cut
   simp only[hy,hz,ez,qG,sS,sT,sZ]
   generalize g9 p os=hv at jN rQ ⊢
   refine Ae (α:=SV) (fun i x=>xS x (wR p hv i)) (fun i x=>[.d (bB 6 (aK os)),x,.d (bB 6 (aK hv)),.d (.int .i64 ((l.length+1:Nat):Int)),.d (.int .i64 ((k:Nat):Int)),.d (.int .i64 (p.length:Int)),.d (.int .i64 ((i:Nat):Int))]) (fun i x=>[bc (dR p)]) p.length z hlz (fun i x hi IC I2 cq=>?_) (fun x IC I2=>?_)
   ·simp only[sS,sT,sZ]
    refine And.intro (fun _=>?_) (fun h=>absurd h (by simp;omega))
    obtain⟨c,ei⟩:=get_some hi
    have hbo:=v7.ok c (List.mem_of_getElem? ei)
    have lJ:cN (.d (.int .i64 (i:Int))) p.length=some i:=je hi
    have p8:p.length≤maxLen:=Nat.le_trans dv (by decide)
    have LJ:=U1 p hv i
    have Fh:gr p hv i=(c.here&&(c.mark&&decide (0<(fF c.th hv).length))):=by unfold gr;rw[ei]
    have jD:=abA p hv i
    rw[Fh]at jD
    simp only[lJ,Wz ei,JV,G2,Ly,Y7,KR,Qa,sS,sT,sZ]
    have skip:wR p hv (i+1)=wR p hv i→ab (ai none .add (.d (.int .i64 ((i:Nat):Int))) (.d (.int .i64 1))) fun r=>I2 [.d (bB 6 (aK os)),x,.d (bB 6 (aK hv)),.d (.int .i64 ((l.length+1:Nat):Int)),.d (.int .i64 ((k:Nat):Int)),.d (.int .i64 (p.length:Int)),aa r] [bc (dR p)]:=fun he=>by
     refine aU (br hi p8) ?_
     exact cq x (by rw[he];exact IC)
    refine And.intro (fun h1=>?_) (fun h1=>?_)
    ·rw[h1,Bool.true_and]at jD
     refine And.intro (fun h2=>?_) (fun h2=>?_)
     ·rw[h2,Bool.true_and]at jD
      refine cV (aaB c.th hv (cK 6 _) (cK 6 _) (Nat.le_trans hbo.th (by decide)) jN.1 jN.2 (fun s hs=>Nat.le_trans (Um hs) (Nat.le_trans hbo.IA (by decide)))) (ka _ _) ?_
      simp only[ez,(cK 6 (aK (fF c.th hv))).len,eA,sS,sT,sZ]
      refine And.intro (fun h3=>?_) (fun h3=>?_)
      ·have kI:decide (0<(fF c.th hv).length)=true:=by simp at h3 ⊢;omega
       rw[kI,if_pos rfl]at jD
       simp only[JA,J9,wP,sS,sT,sZ]
       refine IC.app (by omega) fun y' rB=>?_
       refine aU (br hi p8) ?_
       exact cq y' (by rw[jD];exact rB)
      ·have kI:decide (0<(fF c.th hv).length)=false:=by simp at h3 ⊢;omega
       rw[kI,if_neg (by decide),List.append_nil]at jD
       exact skip jD
     ·rw[h2,Bool.false_and,if_neg (by decide),List.append_nil]at jD
      exact skip jD
    ·rw[h1,Bool.false_and,if_neg (by decide),List.append_nil]at jD
     exact skip jD
   ·simp only[sS,sT,sZ]
    refine And.intro (fun h=>absurd h (by simp)) (fun _=>?_)
    have Y9:wR p hv p.length=lF p hv:=rfl
    rw[Y9]at IC
    refine IC.box ?_ (fun he hx=>?_)
    ·simp only[nq,ke,sS,sT,sZ]
     have SL:=U1 p hv p.length
     rw[Y9]at SL
     have Bf:∀{j i:Nat},(lF p hv)[j]? =some i→i<p.length:=fun h=>adI (List.mem_of_getElem? h)
     generalize lF p hv=q at rQ SL Bf ⊢
     refine And.intro (fun h0=>?_) (fun h0=>?_)
     ·have HQ:q=[]:=by cases q with
       |nil=>rfl
       |cons _ _=>simp at h0;omega
      rw[if_pos HQ]at rQ
      have hg:=xZ p
      simp only[yg,hg,sS,sT,sZ]
      rw[←rQ,wQ Lz]
     ·have HQ:q≠[]:=fun he=>by subst he;simp at h0
      rw[if_neg HQ]at rQ
      refine fV (fun j=>[.d (bB 6 (aK os)),.d (.int .i64 ((l.length+1:Nat):Int)),.d (.int .i64 ((k:Nat):Int)),.d (.int .i64 (q.length:Int)),.d (.int .i64 ((j:Nat):Int))]) (fun j=>[bc (dR (jt p (q.take j))),bc (cQ q)]) q.length (fun j hj I3 gm=>?_) (fun I3=>?_)
      ·simp only[sS,sT,sZ]
       refine And.intro (fun _=>?_) (fun h=>absurd h (by simp;omega))
       obtain⟨i,hi⟩:=get_some hj
       have lJ:cN (.d (.int .i64 (j:Int))) q.length=some j:=je hj
       have alw:cN (.d (.int .i64 (i:Int))) p.length=some i:=je (Bf hi)
       have Fi:=Gk (q.take j) p
       have hle:i*7+5+1≤(bc (dR (jt p (q.take j)))).length :=by rw[DT,Fi];have:=Bf hi;omega
       rw[ae1 hi]at gm
       obtain⟨c,ei⟩:=get_some (l:=jt p (q.take j)) (i:=i) (by rw[Fi];exact Bf hi)
       simp only[lJ,ae3 hi,alw,J5,sS,sT,sZ]
       refine⟨rfl,hle,?_⟩
       refine aU (br hj (Nat.le_trans SL (Nat.le_trans dv (by decide)))) ?_
       rw[ae4 ei]
       exact gm
      ·simp only[sS,sT,sZ]
       refine And.intro (fun h=>absurd h (by simp)) (fun _=>?_)
       have Fi:=Gk q p
       have hg:=xZ (jt p q)
       rw[Fi]at hg
       have gX:dK (bc (cQ q))=some (cQ q):=by rw[OB,Ku]
       simp only[List.take_length,yg,hg,gX,Xr,sS,sT,sZ]
       refine aU (br hk (Nat.le_trans (Nat.succ_le_succ hl9) (by decide))) ?_
       have vZ:jt p q≠[]:=fun he=>by rw[he]at Fi;exact Lz (List.length_eq_zero_iff.1 Fi.symm)
       have:=hI (jt p q,.aZ 1 (cQ q),q) ⟨lR.trans (Gl q p),.inr rfl,by rw[show l.length+1-(k+1)=l.length-k by omega];exact rQ⟩
       rw[wQ vZ]at this
       exact this
    ·rw[if_pos he]at rQ
     subst hx
     have e1:bm (.d (.sl .nil iN []))=some (.d (.int .i64 0)):=rfl
     simp only[e1,ke,sS,sT,sZ]
     refine And.intro (fun _=>?_) (fun h=>absurd h (by decide))
     simp only[yg,xZ,qG,sS,sT,sZ]
     rw[←rQ,wQ Lz]
  ·obtain⟨b,xs,q⟩:=a
   simp only[sS,sT,sZ]
   refine And.intro (fun h=>absurd h (by simp)) (fun _=>?_)
   have:=hJ.2.2
   rw[Nat.sub_self,rP]at this
   rw[←this]
end Go.Proofs.Ytimbllcalipehaa.Ab
namespace Go.Proofs.Ytimbllcalipehaa.Ab
open Go
set_option linter.unusedVariables false
set_option maxRecDepth 4000
theorem Un:∀{l:List aq}{j:Nat}{y y':aq}{n:Nat},l[j]? =some y→y'.perms.length≤y.perms.length+n→db (l.set j y')≤db l+n
 |[],j,y,y',n,h,_=>by simp at h
 |z::l,0,y,y',n,h,h1=>by
  simp at h;subst h
  simp only[db,List.set_cons_zero,List.map_cons,List.sum_cons];omega
 |z::l,j+1,y,y',n,h,h1=>by
  have:=Un (l:=l) (j:=j) (by simpa using h) h1
  simp only[db,List.set_cons_succ,List.map_cons,List.sum_cons]at this ⊢;omega
theorem abB(all out:List aq)(s:aq):db (sa all out s)≤db out+s.perms.length:=by
 have app:db (out++[s])≤db out+s.perms.length:=by rw[FC];simp[db]
 unfold sa
 split
 ·omega
 ·split
  ·split
   ·split
    ·rename_i z hz
     refine Un hz ?_
     have h2:=NG (z.perms++s.perms)
     simp only[An,List.length_append]at h2 ⊢
     omega
    ·omega
   ·exact app
  ·exact app
theorem acx(all l:List aq)(i:Nat):db (jf all (l.take i))≤db (l.take i):=by
 induction i with
 |zero=>simp[jf,db]
 |succ i ih=>
  cases h:l[i]? with
  |none=>
   have h1:l.length≤i:=List.getElem?_eq_none_iff.1 h
   rw[List.take_of_length_le h1]at ih
   rw[List.take_of_length_le (by omega)]
   exact ih
  |some s=>
   rw[Ja h,Br h]
   have:=abB all (jf all (l.take i)) s
   omega
theorem JW{ts:List ah}(h:de ts){sy:List aq}(hs:ff ts=.ok sy):db sy≤196800:=by
 unfold ff at hs
 split at hs
 ·cases hs
 ·cases hs
  have:=acx (nC ts) (nC ts) (nC ts).length
  rw[List.take_length]at this
  exact Nat.le_trans this h.syms.2
theorem de.tail{t:ah}{l:List ah}(h:de (t::l)):de l:=by
 have h1:=h.sz
 have h2:=h.ok
 simp only[ah.dE]at h1
 simp only[ah.uC]at h2
 exact⟨by omega,h2.2⟩
def tY(l:List az):Prop:=∀b∈l,Fg b∧(b.up<0∨b.up<l.length)
theorem tY.app{l:List az}(h:tY l){m u:Int}{th:Bool}{sy:List aq}(hu:u<0∨u<l.length)(h1:sy.length≤4920)(h2:db sy≤196800):tY (l++[⟨m,u,th,sy,[],true,false⟩]):=by
 intro b hb
 rw[List.length_append,List.length_singleton]
 rcases List.mem_append.1 hb with hb|hb
 ·have:=h b hb
  exact⟨this.1,by omega⟩
 ·rw[List.mem_singleton.1 hb]
  exact⟨⟨h1,by simp,h2,by simp[db]⟩,by dsimp only;omega⟩
theorem tY.jE{l:List az}(h:tY l)(n:Nat){sy:List aq}(h1:sy.length≤4920)(h2:db sy≤196800):tY (jE l n sy):=by
 intro b hb
 rw[Ds]
 unfold Ab.jE at hb
 split at hb
 ·rename_i c hc
  rcases List.mem_or_eq_of_mem_set hb with hb|hb
  ·exact h b hb
  ·subst hb
   have:=h c (List.mem_of_getElem? hc)
   exact⟨⟨this.1.th,h1,this.1.IA,h2⟩,this.2⟩
 ·exact h b hb
mutual
theorem akd:∀(t:ah){out o:List az}{m u:Int}{th:Bool},de t.th→de t.el→tY out→(u<0∨u<out.length)→gT t out m u th=.ok o→tY o
 | .mk s a b,out,o,m,u,th,ha,hb,ho,hu,h=>by
   simp only[gT]at h
   split at h
   ·split at h
    ·cases h
    ·rename_i sy h1
     split at h
     ·cases h
     ·rename_i o2 h2
      split at h
      ·cases h
      ·rename_i kQ h3
       have k1:=KT a ha (ho.app hu (DC ha h1) (JW ha h1)) (.inr (by rw[List.length_append,List.length_singleton];omega)) h2
       have kl:=(qK a h2).1
       rw[List.length_append,List.length_singleton]at kl
       exact KT b hb (k1.jE out.length (DC hb h3) (JW hb h3)) (.inr (by rw[Ds];omega)) h
   ·cases h;exact ho
theorem KT:∀(l:List ah){out o:List az}{m u:Int}{th:Bool},de l→tY out→(u<0∨u<out.length)→gL l out m u th=.ok o→tY o
 |[],out,o,m,u,th,hl,ho,hu,h=>by
  simp only[gL]at h
  cases h
  exact ho
 |t::l,out,o,m,u,th,hl,ho,hu,h=>by
  simp only[gL]at h
  split at h
  ·cases h
  ·rename_i o1 h1
   have ht:=hl.th (t:=t) (by simp)
   have k1:=akd t ht.1 ht.2 ho hu h1
   have kl:=(Ka t h1).1
   exact KT l (hl.tail) k1 (by omega) h
end
theorem Yp:∀(l:List bg)(i:Nat){out o:List az}{os nV:List aq},(∀m∈l,de m.ay)→tY out→out.length≤120*i→os.length≤4920*i→db os≤196800*i→gz l i out os=.ok (o,nV)→tY o∧o.length≤120*(i+l.length)∧nV.length≤4920*(i+l.length)∧db nV≤196800*(i+l.length)
 |[],i,out,o,os,nV,hm,ho,h1,h2,h3,h=>by
  simp only[gz]at h
  cases h
  exact⟨ho,h1,h2,h3⟩
 |m::l,i,out,o,os,nV,hm,ho,h1,h2,h3,h=>by
  simp only[gz]at h
  have cm:=hm m (by simp)
  split at h
  ·cases h
  ·rename_i sy hb
   split at h
   ·cases h
   ·rename_i o1 hg
    have k1:=KT _ cm ho (.inl (by omega)) hg
    have kl:=(qK _ hg).1
    have kn:=ah.qQ m.ay
    have ks:=cm.sz
    have e1:=DC cm hb
    have e2:=JW cm hb
    have:=Yp l (i+1) (fun x hx=>hm x (by simp[hx])) k1 (by omega) (by rw[List.length_append];omega) (by rw[FC];omega) h
    rw[List.length_cons,show i+(l.length+1)=i+1+l.length by omega]
    exact this
theorem vo.of{l:List bg}(h8:l.length≤8)(hm:∀m∈l,de m.ay){o:List az}{os:List aq}(h:gz l 0 [] []=.ok (o,os)):vo o os:=by
 obtain⟨h1,h2,h3,h4⟩:=Yp l 0 hm (fun b hb=>by simp at hb) (by simp) (by simp) (by simp[db]) h
 exact⟨by omega,fun b hb=>(h1 b hb).2,fun b hb=>(h1 b hb).1,by omega,by omega⟩
def rp(l:List bg):Except mH (List az):=match gz l 0 [] []with
 | .error e=>.error e
 | .ok (o,os)=>.ok (pF o os)
theorem KB:∀(l:List bg){i:Nat}{out:List az}{os:List aq}{c:Int}{s:aq},gz l i out os=.error (c,s)→c≠0
 |[],i,out,os,c,s,h=>by simp[gz]at h
 |m::l,i,out,os,c,s,h=>by
  simp only[gz]at h
  split at h
  ·rename_i h1;cases h;exact yh h1
  ·split at h
   ·rename_i h1;cases h;exact AD _ h1
   ·exact KB l h
theorem Yq:∀(f:Nat)(l:List az)(os:List aq),jO l (rP f l os)
 |0,l,os=>jO.refl l
 |f+1,l,os=>by
  rw[rP]
  split
  ·exact uQ l
  ·exact((uQ l).trans (Gl _ _)).trans (Yq f _ os)
theorem Jn(l:List az)(os:List aq):jO l (pF l os):=Yq _ _ _
theorem TH{l:List bg}{L:List D}{x:D}(hx:aW 3 L x)(hl:o9 l L)(h8:l.length≤8)(hm:∀m∈l,de m.ay):aG Try.prog gl 32 [.d x] (.aJ (gR (rp l))):=by
 have hS:=aaX hx hl h8 hm
 refine cM bG (cb (fn:=Try.f32) (by kernel_rfl) (by kernel_rfl) (by kernel_rfl)) (h:=h32) ?_;rw[ah2];intro bJ
 unfold rp
 cases hs:gz l 0 [] []with
 |error e=>
  obtain⟨c,s⟩:=e
  rw[hs]at hS
  refine Wy hS ?_
  simp only[jl,dq,dr,z4,fE,dC,fZ,eQ,n9 (KB _ hs),sS,sT,sZ]
  refine And.intro (fun _=>?_) (fun h=>absurd h (by decide))
  rfl
 |ok a=>
  obtain⟨o,os⟩:=a
  rw[hs]at hS
  refine Wy hS ?_
  simp only[eI,dq,dr,z4,fE,dC,fZ,eQ,ez,sS,sT,sZ]
  refine And.intro (fun h=>absurd h (by decide)) (fun _=>?_)
  refine Qc (aaZ (vo.of h8 hm hs)) (by rw[BR,BR];exact Xs (Jn o os).1) ?_
  simp only[yz,uM,dq,dr,z4,fE,dC,sS,sT,sZ]
  exact⟨BB _,rfl⟩
end Go.Proofs.Ytimbllcalipehaa.Ab
namespace Go.Proofs.Ytimbllcalipehaa.Ab
open Go
set_option linter.unusedVariables false
set_option maxRecDepth 4000
def cj(l:List Bool):List D:=l.map .bool
theorem sc(l:List Bool):(cj l).length =l.length:=List.length_map ..
theorem agC(a b:List Bool):cj a++cj b=cj (a++b):=by simp[cj]
def az.on(b:az):Bool:=b.here&&b.mark
def lk(bs:List az)(i:Nat):List Bool:=(bs.filter fun b=>b.mo==(i:Int)).map az.on
def uE(n:Nat)(bs:List az):List (List Bool):=(List.range n).map (lk bs)
theorem Xt(n:Nat)(bs:List az):(uE n bs).length =n:=by simp[uE]
def rq(l:List Bool):SV:=aQ 1 (cj l)
def oE(l:List Bool):D:=bB 1 (cj l)
def pv(n:Nat)(bs:List az):List SV:=(uE n bs).map rq
theorem BS(n:Nat)(bs:List az):(pv n bs).length =n:=by simp[pv,Xt]
theorem DU{n:Nat}{bs:List az}{i:Nat}(h:i<n):(pv n bs)[i]? =some (rq (lk bs i)):=by
 simp[pv,uE,h]
theorem ae6{n:Nat}{bs:List az}{k:Nat}{b:az}(hb:bs[k]? =some b){j:Nat}(hj:b.mo=(j:Int))(hn:j<n):(pv n (bs.take k)).set j (rq (lk (bs.take k) j++[b.on]))=pv n (bs.take (k+1)):=by
 refine List.ext_getElem? fun i=>?_
 rw[List.getElem?_set]
 by_cases hi:i<n
 ·rw[DU hi]
  by_cases eY:j=i
  ·subst eY
   rw[if_pos rfl,if_pos (by rw[BS];exact hi),DU hi,dX hb]
   simp[lk,hj]
  ·rw[if_neg eY,DU hi,dX hb]
   have:¬(b.mo==(i:Int))=true:=by rw[hj];simp;omega
   simp[lk,this]
 ·rw[List.getElem?_eq_none (by rw[BS];omega),if_neg (by omega:¬j=i),List.getElem?_eq_none (by rw[BS];omega)]
theorem ae7(n:Nat)(bs:List az):dK (pv n bs)=some ((uE n bs).map oE):=by
 unfold pv
 generalize uE n bs=l
 induction l with
 |nil=>rfl
 |cons x l ih=>
  have h1:dA (rq x)=some (oE x):=by unfold rq oE;cases x<;>rfl
  simp only[List.map_cons,dK,h1,ih]
theorem agD(n:Nat):bc (List.replicate n (D.sl .nil 0 []))=pv n []:=by
 have h1:pv n []=List.replicate n (.d (.sl .nil 0 [])):=by
  refine List.ext_getElem? fun i=>?_
  by_cases hi:i<n
  ·rw[DU hi];simp[hi,lk,rq,cj,aQ]
  ·rw[List.getElem?_eq_none (by rw[BS];omega),List.getElem?_eq_none (by rw[List.length_replicate];omega)]
 rw[h1]
 induction n with
 |zero=>rfl
 |succ n ih=>
  have:=ih (by
   refine List.ext_getElem? fun i=>?_
   by_cases hi:i<n
   ·rw[DU hi];simp[hi,lk,rq,cj,aQ]
   ·rw[List.getElem?_eq_none (by rw[BS];omega),List.getElem?_eq_none (by rw[List.length_replicate];omega)])
  rw[List.replicate_succ,List.replicate_succ,←this];rfl
def pw(n:Nat)(l:List az):Prop:=∀b∈l,∃j,b.mo=((j:Nat):Int)∧j<n
theorem pw.jE{n:Nat}{l:List az}(h:pw n l)(k:Nat)(sy:List aq):pw n (jE l k sy):=by
 intro b hb
 unfold Ab.jE at hb
 split at hb
 ·rename_i c hc
  rcases List.mem_or_eq_of_mem_set hb with hb|hb
  ·exact h b hb
  ·subst hb
   exact h c (List.mem_of_getElem? hc)
 ·exact h b hb
theorem pw.app{n:Nat}{l:List az}(h:pw n l){b:az}(hb:∃j,b.mo=((j:Nat):Int)∧j<n):pw n (l++[b]):=by
 intro c hc
 rcases List.mem_append.1 hc with hc|hc
 ·exact h c hc
 ·rw[List.mem_singleton.1 hc];exact hb
mutual
theorem ake:∀(t:ah){out o:List az}{m u:Int}{th:Bool}{n:Nat},(∃j,m=((j:Nat):Int)∧j<n)→pw n out→gT t out m u th=.ok o→pw n o
 | .mk s a b,out,o,m,u,th,n,hm,ho,h=>by
   simp only[gT]at h
   split at h
   ·split at h
    ·cases h
    ·split at h
     ·cases h
     ·rename_i o2 h2
      split at h
      ·cases h
      ·have k1:=KU a hm (ho.app (b:=⟨m,u,th,_,[],true,false⟩) hm) h2
       exact KU b hm (k1.jE _ _) h
   ·cases h;exact ho
theorem KU:∀(l:List ah){out o:List az}{m u:Int}{th:Bool}{n:Nat},(∃j,m=((j:Nat):Int)∧j<n)→pw n out→gL l out m u th=.ok o→pw n o
 |[],out,o,m,u,th,n,hm,ho,h=>by
  simp only[gL]at h
  cases h
  exact ho
 |t::l,out,o,m,u,th,n,hm,ho,h=>by
  simp only[gL]at h
  split at h
  ·cases h
  ·rename_i o1 h1
   exact KU l hm (ake t hm ho h1) h
end
theorem Yr:∀(l:List bg)(i:Nat){n:Nat}{out o:List az}{os nV:List aq},i+l.length≤n→pw n out→gz l i out os=.ok (o,nV)→pw n o
 |[],i,n,out,o,os,nV,hn,ho,h=>by
  simp only[gz]at h
  cases h
  exact ho
 |m::l,i,n,out,o,os,nV,hn,ho,h=>by
  simp only[gz]at h
  rw[List.length_cons]at hn
  split at h
  ·cases h
  ·split at h
   ·cases h
   ·rename_i o1 hg
    exact Yr l (i+1) (by omega) (KU _ ⟨i,rfl,by omega⟩ ho hg) h
theorem pw.xR{n:Nat}{a b:List az}(h:pw n a)(hs:jO a b):pw n b:=fun x hx=>by
 obtain⟨j,hj⟩:=List.mem_iff_getElem?.1 hx
 obtain⟨y,h1,h2,h3,h4,h5,h6⟩:=hs.2 j x hj
 rw[h5]
 exact h y (List.mem_of_getElem? h1)
theorem O4{l:List bg}(h8:l.length≤8)(hm:∀m∈l,de m.ay){o:List az}(h:rp l=.ok o):pw l.length o∧o.length≤960:=by
 unfold rp at h
 split at h
 ·cases h
 ·rename_i o1 os hs
  cases h
  have h1:=vo.of h8 hm hs
  exact⟨(Yr l 0 (by omega) (fun b hb=>by simp at hb) hs).xR (Jn _ _),by rw[(Jn o1 os).1];exact h1.len⟩
theorem Ys{l:List bg}{c:Int}{s:aq}(h:rp l=.error (c,s)):c≠0:=by
 unfold rp at h
 split at h
 ·rename_i h1;cases h;exact KB _ h1
 ·cases h
theorem Xu{L:List D}{i:Nat}{y:D}(h:L[i]? =some y):aL 7 (.d (bB 7 L)) (.d (.int .i64 (i:Int)))=some (.aX y 0):=(cK 7 L).at h
def uF(l:List bg):Except mH (List (List Bool)):=match rp l with
 | .error e=>.error e
 | .ok o=>.ok (uE l.length o)
def enR(r:Except mH (List (List Bool))):SV:=match r with
 | .error (c,s)=>.aJ [.d (.sl .nil 0 []),.d (jl c s)]
 | .ok o=>.aJ [.d (.sl .ro 1 (o.map oE)),.d eI]
theorem IV{l:List bg}{L:List D}{x:D}(hx:aW 3 L x)(hl:o9 l L)(h8:l.length≤8)(hm:∀m∈l,de m.ay):aG Try.prog gl 11 [.d x] (enR (uF l)):=by
 have hD:=TH hx hl h8 hm
 refine cM bG (cb (fn:=Try.f11) (by kernel_rfl) (by kernel_rfl) (by kernel_rfl)) (h:=Rl) ?_;rw[ahW];intro bJ
 unfold uF
 cases hd:rp l with
 |error e=>
  obtain⟨c,s⟩:=e
  rw[hd]at hD
  refine call2 hD ?_
  simp only[jl,dq,dr,z4,fE,dC,fZ,eQ,n9 (Ys hd),sS,sT,sZ]
  refine And.intro (fun _=>?_) (fun h=>absurd h (by decide))
  rfl
 |ok o=>
  obtain⟨hmo,rJ⟩:=O4 h8 hm hd
  rw[hd]at hD
  refine call2 hD ?_
  simp only[eI,dq,dr,z4,fE,dC,fZ,eQ,sS,sT,sZ]
  refine And.intro (fun h=>absurd h (by decide)) (fun _=>?_)
  have hlg:bm (.d (bB 7 (dR o)))=some (.d (.int .i64 (o.length:Int))):=by rw[(cK 7 (dR o)).len,qG]
  have ct:o.length≤maxLen:=Nat.le_trans rJ (by decide)
  simp only[Xk,ez,hx.len,hl.len,hlg,Dn,agD,List.length_replicate,sS,sT,sZ]
  refine⟨by omega,?_⟩
  refine fV (fun k=>[.d (bB 7 (dR o)),.d (.int .i64 (o.length:Int)),.d (.int .i64 ((k:Nat):Int))]) (fun k=>[[.d (.int .i64 0),.d (.int .i64 0),.d (.int .i64 0),.d (.str [])],[.d (.int .i64 0),.d (.int .i64 0),.d (.int .i64 0),.d (.str [])],pv l.length (o.take k)]) o.length (fun k hk I hI=>?_) (fun I=>?_)
  ·simp only[sS,sT,sZ]
   refine And.intro (fun _=>?_) (fun h=>absurd h (by simp;omega))
   obtain⟨b,hb⟩:=get_some hk
   obtain⟨j,hj,ID⟩:=hmo b (List.mem_of_getElem? hb)
   have rO:=Xu (Xi hb)
   have eY:cN (.d (.int .i64 b.mo)) l.length=some j:=by rw[hj];exact je ID
   have Fj:=DU (n:=l.length) (bs:=o.take k) ID
   have aY:=ae6 hb hj ID
   have hlen:(lk (o.take k) j).length ≤960:=by
    have h1:=List.length_filter_le (fun b:az=>b.mo==(j:Int)) (o.take k)
    rw[lk,List.length_map]
    rw[List.length_take]at h1;omega
   have fin:∀y v,setAt ((pv l.length (o.take k)).set j y) j [rq (lk (o.take k) j++[v])]=(pv l.length (o.take k)).set j (rq (lk (o.take k) j++[v])):=fun y v=>by
    show(((pv l.length (o.take k)).set j y).set j _)=_
    rw[List.set_set]
   have tail:∀v,b.on=v→bR 1 1 (rq (lk (o.take k) j)) (.full 1 [.bool v]) fun dL=>
     ab (aB dL) fun dB=>dB.length=1∧j<((pv l.length (o.take k)).set j (aa (rq (lk (o.take k) j)))).length ∧
      ab (ai none .add (.d (.int .i64 ((k:Nat):Int))) (.d (.int .i64 1))) fun cZ=>
       I [.d (bB 7 (dR o)),.d (.int .i64 (o.length:Int)),aa cZ] [[.d (.int .i64 0),.d (.int .i64 0),.d (.int .i64 0),.d (.str [])],[.d (.int .i64 0),.d (.int .i64 0),.d (.int .i64 0),.d (.str [])],setAt ((pv l.length (o.take k)).set j (aa (rq (lk (o.take k) j)))) j dB]:=fun v hv=>by
    refine gN (M:=[.bool v]) rfl (by rw[sc];simp;omega) ?_
    have hc:aB (aQ 1 (cj (lk (o.take k) j)++[.bool v]))=some [rq (lk (o.take k) j++[v])]:=by
     rw[US,show cj (lk (o.take k) j)++[D.bool v]=cj (lk (o.take k) j++[v]) from agC _ [v]];rfl
    rw[hc]
    refine⟨rfl,by rw[List.length_set,BS];omega,?_⟩
    refine aU (br hk ct) ?_
    have h1:=fin (aa (rq (lk (o.take k) j))) v
    rw[←hv,aY,hv]at h1
    rw[h1]
    exact hI
   simp only[rO,Xj,JV,G2,Ly,aj1,KR,Qa,eY,Nat.mul_one,Fj,sS,sT,sZ]
   refine And.intro (fun h=>?_) (fun h=>?_)
   ·simp only[Xc,tL,wP,sS,sT,sZ]
    exact tail b.mark (by rw[az.on,h,Bool.true_and])
   ·simp only[Xc,tL,wP,sS,sT,sZ]
    exact tail false (by rw[az.on,h,Bool.false_and])
  ·simp only[ae7,sS,sT,sZ]
   refine And.intro (fun h=>absurd h (by simp)) (fun _=>?_)
   rw[List.take_length]
   refine⟨BS _ _,?_⟩
   simp only[yz,uM,dq,dr,fE,dC,lE,if_true,sS,sT,sZ]
   rfl
end Go.Proofs.Ytimbllcalipehaa.Ab
namespace Go.Proofs.Ytimbllcalipehaa.Ab
open Go
set_option linter.unusedVariables false
set_option maxRecDepth 4000
def Bl:D→List D
 | .sl _ _ L=>L
 |_=>[]
theorem aW.Bl{n:Nat}{L:List D}{x:D}(h:aW n L x):Bl x=L:=by
 cases h with
 |nil s h=>subst h;rfl
 |ro=>rfl
def G3(k:Nat)(x:D):D:=x.cells.getD k (.int .i64 0)
def zM(x:D):List D:=Bl (G3 53 x)
def C5(x:D):List D:=Bl (G3 54 x)
theorem na.zM{t:ah}{x:D}(h:na t x){c:List SV}{cD al yt ye:D}{Lt Le:List D}(hc:TC t x c cD al yt ye Lt Le):zM x=Lt∧C5 x=Le:=by
 have h1:=hc.Ir
 have h2:=hc.It
 cases h with
 |mk s th el r5 r6 AV Bm rest MC MD Lt' Le' h hl ha ht he Mw EU kM j1=>
  have ei:aB (.d (.agg (mF s r5 r6 AV Bm rest)))=some ((mF s r5 r6 AV Bm rest).map SV.d):=rfl
  have:=hc.cells
  rw[ei]at this
  cases this
  have C2:(mF s r5 r6 AV Bm rest)[53]? =some MC:=ht
  have C3:(mF s r5 r6 AV Bm rest)[54]? =some MD:=he
  have k1:G3 53 (.agg (mF s r5 r6 AV Bm rest))=MC:=by
   show(mF s r5 r6 AV Bm rest).getD 53 _=_
   rw[List.getD_eq_getElem?_getD,C2];rfl
  have k2:G3 54 (.agg (mF s r5 r6 AV Bm rest))=MD:=by
   show(mF s r5 r6 AV Bm rest).getD 54 _=_
   rw[List.getD_eq_getElem?_getD,C3];rfl
  rw[aj,cond_false,List.getElem?_map,C2]at h1
  rw[aj,cond_false,List.getElem?_map,C3]at h2
  cases h1
  cases h2
  unfold Ab.zM Ab.C5
  rw[k1,k2]
  exact⟨hc.jN.Bl,hc.fU.Bl⟩
def AW(bs:List az)(n:Nat):Bool:=match bs[n]? with
 |some b=>b.mark
 |none=>false
mutual
def Bn(cp:D→D):ah→D→List az→Nat→Bool→List D
 | .mk s a b,x,bs,n,k=>if s.kind==18 then j7 cp a (zM x) bs (n+1) (k&&AW bs n)++j7 cp b (C5 x) bs (n+1+ah.aE a) (k&& !AW bs n)
   else if k then [cp x]else []
def j7(cp:D→D):List ah→List D→List az→Nat→Bool→List D
 |t::l,x::L,bs,n,k=>Bn cp t x bs n k++j7 cp l L bs (n+t.nb) k
 |_,_,_,_,_=>[]
end
mutual
def Fk(H:D→Prop):ah→D→Prop
 | .mk s a b,x=>if s.kind==18 then uG H a (zM x)∧uG H b (C5 x)else H x
def uG(H:D→Prop):List ah→List D→Prop
 |t::l,x::L=>Fk H t x∧uG H l L
 |_,_=>True
end
theorem agE{H:D→Prop}{t:ah}{x:D}(h:(t.s.kind==18)=true)(hc:Fk H t x):uG H t.th (zM x)∧uG H t.el (C5 x):=by
 cases t with
 |mk s a b=>
  have h:(s.kind==18)=true:=h
  simp only[Fk,h,if_true]at hc
  exact hc
theorem aiS{H:D→Prop}{t:ah}{x:D}(h:(t.s.kind==18)=false)(hc:Fk H t x):H x:=by
 cases t with
 |mk s a b=>
  have h:(s.kind==18)=false:=h
  simp only[Fk,h]at hc
  exact hc
theorem Yt{H:D→Prop}:∀{l:List ah}{L:List D}{i:Nat}{t:ah}{x:D},uG H l L→l[i]? =some t→L[i]? =some x→Fk H t x
 |[],_,_,_,_,_,h,_=>by simp at h
 |_::_,[],_,_,_,_,_,h=>by simp at h
 |u::l,y::L,0,t,x,hc,h1,h2=>by simp at h1 h2;subst h1;subst h2;simp only[uG]at hc;exact hc.1
 |u::l,y::L,i+1,t,x,hc,h1,h2=>by simp only[uG]at hc;exact Yt hc.2 (by simpa using h1) (by simpa using h2)
theorem agF{cp:D→D}{t:ah}{x:D}(h:(t.s.kind==18)=true)(bs:List az)(n:Nat)(k:Bool):Bn cp t x bs n k=j7 cp t.th (zM x) bs (n+1) (k&&AW bs n)++j7 cp t.el (C5 x) bs (n+1+ah.aE t.th) (k&& !AW bs n):=by
 cases t with
 |mk s a b=>
  have h:(s.kind==18)=true:=h
  simp only[Bn,h,if_true];rfl
theorem aiT{cp:D→D}{t:ah}{x:D}(h:(t.s.kind==18)=false)(bs:List az)(n:Nat)(k:Bool):Bn cp t x bs n k=if k then [cp x]else []:=by
 cases t with
 |mk s a b=>
  have h:(s.kind==18)=false:=h
  simp only[Bn,h];rfl
theorem WD{cp:D→D}{bs:List az}{k:Bool}:∀{l:List ah}{L:List D}{i:Nat}{t:ah}{x:D}(n:Nat),l[i]? =some t→L[i]? =some x→j7 cp (l.take (i+1)) (L.take (i+1)) bs n k=j7 cp (l.take i) (L.take i) bs n k++Bn cp t x bs (n+ah.aE (l.take i)) k
 |[],_,_,_,_,_,h,_=>by simp at h
 |_::_,[],_,_,_,_,_,h=>by simp at h
 |u::l,y::L,0,t,x,n,h1,h2=>by
  simp at h1 h2;subst h1;subst h2
  simp[j7,ah.aE]
 |u::l,y::L,i+1,t,x,n,h1,h2=>by
  have:=WD (cp:=cp) (bs:=bs) (k:=k) (n+u.nb) (l:=l) (L:=L) (i:=i) (by simpa using h1) (by simpa using h2)
  simp only[List.take_succ_cons,j7,ah.aE]at this ⊢
  rw[this,List.append_assoc,show n+u.nb+ah.aE (l.take i)=n+(u.nb+ah.aE (l.take i)) by omega]
mutual
theorem agG{cp:D→D}:∀(t:ah)(x:D)(bs:List az)(n:Nat)(k:Bool),(Bn cp t x bs n k).length ≤t.sz
 | .mk s a b,x,bs,n,k=>by
   simp only[Bn,ah.sz]
   split
   ·rw[List.length_append]
    have h1:=Gm (cp:=cp) a (zM x) bs (n+1) (k&&AW bs n)
    have h2:=Gm (cp:=cp) b (C5 x) bs (n+1+ah.aE a) (k&& !AW bs n)
    omega
   ·split<;>simp<;>omega
theorem Gm{cp:D→D}:∀(l:List ah)(L:List D)(bs:List az)(n:Nat)(k:Bool),(j7 cp l L bs n k).length ≤ah.dE l
 |[],_,bs,n,k=>by simp[j7]
 |t::l,[],bs,n,k=>by simp[j7]
 |t::l,x::L,bs,n,k=>by
  simp only[j7,ah.dE,List.length_append]
  have h1:=agG (cp:=cp) t x bs n k
  have h2:=Gm (cp:=cp) l L bs (n+t.nb) k
  omega
end
def IE(cp:D→D)(x:D):Prop:=aG Try.prog gl 72 [.d x] (.d (cp x))∧(cp x).cells.length =55
def Fl(cp:D→D)(ts:List ah):Prop:=∀{L:List D}{x:D}(out:List D)(bs:List az)(n:Nat)(k:Bool)(K:SV→Prop),aW 55 L x→fe ts L→de ts→out.length+ah.dE ts≤2^20→n+ah.aE ts≤bs.length→bs.length≤2^20→uG (IE cp) ts L→
 K (.aJ [aQ 55 (out++j7 cp ts L bs n k),.d (.int .i64 ((n+ah.aE ts:Nat):Int))])→
 body Try.prog gl (aG Try.prog gl) Mg 51 [aQ 55 out,.d x,.d (bB 7 (dR bs)),.d (.int .i64 (n:Int)),.d (.bool k)] K
theorem VO{cp:D→D}{ts:List ah}(H:Fl cp ts){L:List D}{x:D}(out:List D)(bs:List az)(n:Nat)(k:Bool)(h1:aW 55 L x)(h2:fe ts L)(h3:de ts)(h4:out.length+ah.dE ts≤2^20)(h5:n+ah.aE ts≤bs.length)(h6:bs.length≤2^20)(h7:uG (IE cp) ts L):
  aG Try.prog gl 51 (pM 0 [aQ 55 out,.d x,.d (bB 7 (dR bs)),.d (.int .i64 (n:Int)),.d (.bool k)]) (.aJ [.d (bB 55 out),aQ 55 (out++j7 cp ts L bs n k),.d (.int .i64 ((n+ah.aE ts:Nat):Int))]):=by
 rw[←ez 55 out]
 refine FE bG (cb (fn:=Try.f51) (by kernel_rfl) (by kernel_rfl) (by kernel_rfl)) (hh:=Mg) (by simp only[SV.iB,kS,SV.aD,Bool.and_true]) rfl (fun r hr=>?_) ?_
 ·simp at hr
  rcases hr with rfl|rfl
  ·exact ka _ _
  ·rfl
 ·exact H out bs n k _ h1 h2 h3 h4 h5 h6 h7 rfl
theorem ae8{cp:D→D}{ts:List ah}(H:Fl cp ts){L:List D}{x:D}(bs:List az)(n:Nat)(k:Bool)(h1:aW 55 L x)(h2:fe ts L)(h3:de ts)(h4:ah.dE ts≤2^20)(h5:n+ah.aE ts≤bs.length)(h6:bs.length≤2^20)(h7:uG (IE cp) ts L):
  aG Try.prog gl 51 [.d (.sl .nil 0 []),.d x,.d (bB 7 (dR bs)),.d (.int .i64 (n:Int)),.d (.bool k)] (.aJ [aQ 55 (j7 cp ts L bs n k),.d (.int .i64 ((n+ah.aE ts:Nat):Int))]):=
 cM bG (cb (fn:=Try.f51) (by kernel_rfl) (by kernel_rfl) (by kernel_rfl)) (h:=Mg) (H [] bs n k _ h1 h2 h3 (by simpa using h4) h5 h6 h7 rfl)
theorem rv(z x:D):bz z [(0,x)] 1 0=[x]:=rfl
theorem akf{x:D}(h:x.cells.length=55):bu 55 1 [(0,x)]=true:=by simp[bu,h]
theorem adJ(cp:D→D)(ts:List ah)(IH:∀js,ah.dE js<ah.dE ts→Fl cp js):Fl cp ts:=by
 intro L x out bs n k K hx hs cm aM fW eh v7 hK
 have h0:=ah.tG ts
 have ct:ts.length≤maxLen:=Nat.le_trans (Nat.le_trans h0 cm.sz) (by decide)
 rw[ah7]
 intro bJ
 simp only[hx.len,hs.len,sS,sT,sZ]
 rw[show aQ 55 out=aQ 55 (out++j7 cp (ts.take 0) (L.take 0) bs n k) from by simp[j7],show((n:Nat):Int)=((n+ah.aE (ts.take 0):Nat):Int) from by simp[ah.aE]]
 refine fV (fun i=>[aQ 55 (out++j7 cp (ts.take i) (L.take i) bs n k),.d (bB 7 (dR bs)),.d (.int .i64 ((n+ah.aE (ts.take i):Nat):Int)),.d (.bool k),.d x,.d (.int .i64 (ts.length:Int)),.d (.int .i64 ((i:Nat):Int))]) (fun i=>[]) ts.length (fun i hi I hI=>?_) (fun I=>?_)
 ·simp only[sS,sT,sZ]
  refine And.intro (fun _=>?_) (fun h=>absurd h (by simp;omega))
  obtain⟨t,ht⟩:=get_some hi
  obtain⟨y,hy,eU⟩:=hs.at_ ht
  obtain⟨c,cD,al,yt,ye,Lt,Le,hc⟩:=eU.out
  obtain⟨jN,fU⟩:=eU.zM hc
  have eW:=BJ (z:=jH) (c:=c) rfl hc.len
  simp only[sZ]at eW
  have hz:=ah.AA ht
  have Bb:=t.Ag
  have Ff:=ah.Wr ht
  have ane:=ah.OA ht
  have qv:=cm.th (List.mem_of_getElem? ht)
  have hct:=Yt v7 ht hy
  have LJ:=Gm (cp:=cp) (ts.take i) (L.take i) bs n k
  have aO:ah.dE (ts.take i)+t.sz≤ah.dE ts:=by
   have h2:ah.dE (ts.take (i+1))=ah.dE (ts.take i)+t.sz:=by
    rw[dX ht,ah.Ap,ah.Ap];simp
   have h3:ah.dE (ts.take (i+1))≤ah.dE ts:=by
    rw[ah.Ap,ah.Ap,←List.take_append_drop (i+1) ts,List.map_append,List.sum_append,List.take_append_drop];omega
   omega
  have anf:ah.aE (ts.take i)+t.nb≤ah.aE ts:=by
   rw[←Ff,ah.DS,ah.DS,←List.take_append_drop (i+1) ts,List.map_append,List.sum_append,List.take_append_drop];omega
  have jD:=WD (cp:=cp) (bs:=bs) (k:=k) n ht hy
  simp only[jD]at hI
  have hzp:0<t.sz:=by omega
  simp only[hx.at hy,hc.load,hc.cells,hc.len,eW,hc.p0,hc.Ir,hc.It,hc.whole,eQ,sS,sT,sZ]
  refine And.intro (fun hk=>?_) (fun hk=>?_)
  ·have bU:(t.s.kind==18)=false:=by simpa[bne]using hk
   rw[aiT bU]at hI
   have alx:t.nb=0:=by rw[t.D9,bU];rfl
   rw[Ff,alx,Nat.add_zero]at hI
   refine And.intro (fun mQ=>?_) (fun mQ=>?_)
   ·rw[mQ,if_pos rfl]at hI
    obtain⟨hH,aly⟩:=aiS bU hct
    refine cV hH rfl ?_
    simp only[dG,akf aly,rv,sS,sT,sZ]
    refine gN (M:=[cp y]) rfl (by simp only[List.length_append,List.length_singleton];omega) ?_
    refine aU (br hi ct) ?_
    rw[List.append_assoc,mQ]
    exact hI
   ·rw[mQ,if_neg (by decide),List.append_nil]at hI
    refine aU (br hi ct) ?_
    rw[mQ]
    exact hI
  have bU:(t.s.kind==18)=true:=by simpa[bne]using hk
  rw[agF bU]at hI
  have ang:t.nb=1+ah.aE t.th+ah.aE t.el:=by rw[t.D9,if_pos bU]
  have Q5:=agE bU hct
  rw[jN,fU]at hI Q5
  obtain⟨b,hb⟩:=get_some (l:=bs) (i:=n+ah.aE (ts.take i)) (by omega)
  have mz:AW bs (n+ah.aE (ts.take i))=b.mark:=by unfold AW;rw[hb]
  rw[mz]at hI
  have rO:=Xu (Xi hb)
  have had:ai none .add (.d (.int .i64 ((n+ah.aE (ts.take i):Nat):Int))) (.d (.int .i64 1))=some (.d (.int .i64 ((n+ah.aE (ts.take i)+1:Nat):Int))):=F9 (n:=1) (by omega)
  simp only[rO,Xj,JV,G2,Ly,KR,had,sS,sT,sZ]
  have M1:=fun k'=>VO (IH t.th (by omega)) (out++j7 cp (ts.take i) (L.take i) bs n k) bs (n+ah.aE (ts.take i)+1) k' hc.jN hc.kM qv.1 (by rw[List.length_append];omega) (by omega) eh Q5.1
  have M2:=fun k' k''=>VO (IH t.el (by omega)) (out++j7 cp (ts.take i) (L.take i) bs n k++j7 cp t.th Lt bs (n+ah.aE (ts.take i)+1) k') bs (n+ah.aE (ts.take i)+1+ah.aE t.th) k'' hc.fU hc.j1 qv.2 (by
   have:=Gm (cp:=cp) t.th Lt bs (n+ah.aE (ts.take i)+1) k'
   rw[List.length_append,List.length_append];omega) (by omega) eh Q5.2
  have CH:n+ah.aE (ts.take (i+1))=n+ah.aE (ts.take i)+1+ah.aE t.th+ah.aE t.el:=by omega
  rw[CH]at hI
  rw[←List.append_assoc,←List.append_assoc]at hI
  have td:∀v,fg .not (.d (.bool v))=some (.d (.bool (!v))):=fun v=>by cases v<;>rfl
  refine And.intro (fun mQ=>?_) (fun mQ=>?_)
  ·simp only[mQ,Bool.true_and]at hI
   refine w8 (M1 b.mark) (by rw[ez];rfl) ?_
   refine And.intro (fun _=>?_) (fun h=>absurd (mQ.symm.trans h) (by decide))
   simp only[td,sS,sT,sZ]
   refine w8 (M2 b.mark (!b.mark)) (by rw[ez];rfl) ?_
   refine aU (br hi ct) ?_
   rw[mQ]
   exact hI
  ·simp only[mQ,Bool.false_and]at hI
   refine w8 (M1 false) (by rw[ez];rfl) ?_
   refine And.intro (fun h=>absurd (mQ.symm.trans h) (by decide)) (fun _=>?_)
   refine w8 (M2 false false) (by rw[ez];rfl) ?_
   refine aU (br hi ct) ?_
   rw[mQ]
   exact hI
 ·simp only[sS,sT,sZ]
  refine And.intro (fun h=>absurd h (by simp)) (fun _=>?_)
  refine⟨kS _ _,?_⟩
  rw[List.take_length,show L.take ts.length=L by rw[←hs.len,List.take_length]]
  exact hK
theorem ae9(cp:D→D)(ts:List ah):Fl cp ts:=by
 have key:∀n ts,ah.dE ts<n→Fl cp ts:=by
  intro n
  induction n with
  |zero=>intro ts h;omega
  |succ n ih=>exact fun ts h=>adJ cp ts fun js h'=>ih js (by omega)
 exact fun{L x}=>key _ ts (Nat.lt_succ_self _)
end Go.Proofs.Ytimbllcalipehaa.Ab
namespace Go.Proofs.Ytimbllcalipehaa.Ab
open Go
set_option linter.unusedVariables false
set_option maxRecDepth 4000
def ME(x:D):List D:=Bl (G3 2 x)
def lX:List bg→Nat
 |[]=>0
 |m::l=>ah.aE m.ay+lX l
theorem O5:∀(a b:List bg),lX (a++b)=lX a+lX b
 |[],b=>by simp[lX]
 |m::a,b=>by simp only[List.cons_append,lX,O5 a b];omega
theorem afa{l:List bg}{i:Nat}{m:bg}(h:l[i]? =some m):lX (l.take (i+1))=lX (l.take i)+ah.aE m.ay:=by
 rw[dX h,O5];simp[lX]
theorem aiU(l:List bg)(i:Nat):lX (l.take i)≤lX l:=by
 have h:=O5 (l.take i) (l.drop i)
 rw[List.take_append_drop]at h;omega
theorem Yu:∀(l:List bg){i:Nat}{out o:List az}{os nV:List aq},gz l i out os=.ok (o,nV)→o.length=out.length+lX l
 |[],i,out,o,os,nV,h=>by
  simp only[gz]at h
  cases h
  rfl
 |m::l,i,out,o,os,nV,h=>by
  simp only[gz]at h
  split at h
  ·cases h
  ·split at h
   ·cases h
   ·rename_i o1 hg
    have:=Yu l h
    rw[this,(qK _ hg).1,lX];omega
theorem agH{l:List bg}{o:List az}(h:rp l=.ok o):o.length=lX l:=by
 unfold rp at h
 split at h
 ·cases h
 ·rename_i o1 os hs
  cases h
  rw[(Jn o1 os).1,Yu l hs];simp
def v8(cp:D→D):List bg→List D→List az→Nat→List D
 |m::l,x::L,bs,n=>.agg [.str m.name,.int .i64 m.vU,bB 55 (j7 cp m.ay (ME x) bs n true)]::v8 cp l L bs (n+ah.aE m.ay)
 |_,_,_,_=>[]
theorem WE{cp:D→D}{bs:List az}:∀{l:List bg}{L:List D}{i:Nat}{m:bg}{x:D}(n:Nat),l[i]? =some m→L[i]? =some x→v8 cp (l.take (i+1)) (L.take (i+1)) bs n=v8 cp (l.take i) (L.take i) bs n++[.agg [.str m.name,.int .i64 m.vU,bB 55 (j7 cp m.ay (ME x) bs (n+lX (l.take i)) true)]]
 |[],_,_,_,_,_,h,_=>by simp at h
 |_::_,[],_,_,_,_,_,h=>by simp at h
 |u::l,y::L,0,t,x,n,h1,h2=>by
  simp at h1 h2;subst h1;subst h2
  simp[v8,lX]
 |u::l,y::L,i+1,t,x,n,h1,h2=>by
  have:=WE (cp:=cp) (bs:=bs) (n+ah.aE u.ay) (l:=l) (L:=L) (i:=i) (by simpa using h1) (by simpa using h2)
  simp only[List.take_succ_cons,v8,lX]at this ⊢
  rw[this,List.cons_append,show n+ah.aE u.ay+lX (l.take i)=n+(ah.aE u.ay+lX (l.take i)) by omega]
theorem Xv{cp:D→D}:∀(l:List bg)(L:List D)(bs:List az)(n:Nat),(v8 cp l L bs n).length ≤l.length
 |[],_,bs,n=>by simp[v8]
 |t::l,[],bs,n=>by simp[v8]
 |t::l,x::L,bs,n=>by
  simp only[v8,List.length_cons]
  have:=Xv (cp:=cp) l L bs (n+ah.aE t.ay)
  omega
def CpM(H:D→Prop)(l:List bg)(L:List D):Prop:=∀(i:Nat)m x,l[i]? =some m→L[i]? =some x→uG H m.ay (ME x)
def SM(cp:D→D)(l:List bg)(L:List D):Except mH (List D):=match rp l with
 | .error e=>.error e
 | .ok o=>.ok (v8 cp l L o 0)
def ftR(r:Except mH (List D)):SV:=match r with
 | .error (c,s)=>.aJ [.d (.sl .nil 0 []),.d (jl c s)]
 | .ok o=>.aJ [aQ 3 o,.d eI]
theorem acy(n:List UInt8)(v:Int):dz Try.prog 36 [(0,.str n),(1,.int .i64 v)]=some (.agg [.str n,.int .i64 v,.sl .nil 0 []]):=by kernel_rfl
theorem adK(a b c:D):aj false 1 0 [.d a,.d b,.d c]=some (.d a):=rfl
theorem adL(a b c:D):aj false 1 1 [.d a,.d b,.d c]=some (.d b):=rfl
theorem agI(a b c d:SV):setAt [a,b,c] 2 [d]=[a,b,d]:=rfl
theorem adM(a b c:D):aj true 3 0 [.d a,.d b,.d c]=some (.d (.agg [a,b,c])):=rfl
theorem akg(z x:D):bz z [(0,x)] 1 0=[x]:=rfl
theorem aiV(a b c:D):bu 3 1 [(0,.agg [a,b,c])]=true:=rfl
theorem aaC(cp:D→D){l:List bg}{L:List D}{x:D}(hx:aW 3 L x)(hl:o9 l L)(h8:l.length≤8)(hm:∀m∈l,de m.ay)(v7:CpM (IE cp) l L):aG Try.prog gl 25 [.d x] (ftR (SM cp l L)):=by
 have ct:l.length≤maxLen:=Nat.le_trans h8 (by decide)
 have hD:=TH hx hl h8 hm
 refine cM bG (cb (fn:=Try.f25) (by kernel_rfl) (by kernel_rfl) (by kernel_rfl)) (h:=h25) ?_;rw[ah1];intro bJ
 unfold SM
 cases hd:rp l with
 |error e=>
  obtain⟨c,s⟩:=e
  rw[hd]at hD
  refine call2 hD ?_
  simp only[jl,dq,dr,z4,fE,dC,fZ,eQ,n9 (Ys hd),sS,sT,sZ]
  refine And.intro (fun _=>?_) (fun h=>absurd h (by decide))
  rfl
 |ok o=>
  obtain⟨hmo,rJ⟩:=O4 h8 hm hd
  have fW:=agH hd
  rw[hd]at hD
  refine call2 hD ?_
  simp only[eI,dq,dr,z4,fE,dC,fZ,eQ,Xk,hx.len,hl.len,sS,sT,sZ]
  refine And.intro (fun h=>absurd h (by decide)) (fun _=>?_)
  refine fV (fun i=>[aQ 7 (dR o),aQ 3 (v8 cp (l.take i) (L.take i) o 0),.d (.int .i64 ((lX (l.take i):Nat):Int)),.d x,.d (.int .i64 (l.length:Int)),.d (.int .i64 ((i:Nat):Int))]) (fun i=>[[.d (.int .i64 0),.d (.int .i64 0),.d (.int .i64 0),.d (.str [])],[.d (.int .i64 0),.d (.int .i64 0),.d (.int .i64 0),.d (.str [])]]) l.length (fun i hi I hI=>?_) (fun I=>?_)
  ·simp only[sS,sT,sZ]
   refine And.intro (fun _=>?_) (fun h=>absurd h (by simp;omega))
   obtain⟨m,dc⟩:=get_some hi
   obtain⟨y,hy,gM⟩:=hl.at_ dc
   have cm:=hm m (List.mem_of_getElem? dc)
   have gB:=v7 i m y dc hy
   have aY:=WE (cp:=cp) (bs:=o) 0 dc hy
   rw[Nat.zero_add]at aY
   have Cy:=afa dc
   have Ff:=aiU l (i+1)
   have rG:=Xv (cp:=cp) (l.take i) (L.take i) o 0
   rw[List.length_take]at rG
   rw[aY,Cy]at hI
   cases gM with
   |mk xs Lm C4 Q3=>
   have tm:ME (.agg [.str m.name,.int .i64 m.vU,xs])=Lm:=C4.Bl
   rw[tm]at hI gB
   have aM:=cm.sz
   simp only[hx.at hy,DB,BI,AR,OZ,OX,DA,adK,adL,JQ,acy,ez,sS,sT,sZ]
   refine call2 (ae8 (ae9 cp m.ay) o (lX (l.take i)) true C4 Q3 cm (by omega) (by omega) (by omega) gB) ?_
   simp only[ez,Bv,agI,AR,sS,sT,sZ]
   refine⟨rfl,?_⟩
   simp only[adM,dG,aiV,akg,sS,sT,sZ]
   refine gN (M:=[_]) rfl (by simp only[List.length_singleton];omega) ?_
   refine aU (br hi ct) ?_
   exact hI
  ·simp only[yz,uM,dq,dr,fE,dC,sS,sT,sZ]
   refine And.intro (fun h=>absurd h (by simp)) (fun _=>?_)
   refine⟨kS _ _,?_⟩
   rw[List.take_length,show L.take l.length=L by rw[←hl.len,List.take_length]]
   rfl
end Go.Proofs.Ytimbllcalipehaa.Ab
namespace Go.Proofs.Ytimbllcalipehaa.Ab
open Go
set_option linter.unusedVariables false
set_option maxRecDepth 4000
theorem Xw:ai (some (false,[])) .eql (.d (.sl .nil 0 [])) (.d (.sl .nil 0 []))=some (.d (.bool true)):=rfl
theorem Dt:aG Try.prog gl 71 [.d (.sl .nil 0 [])] (.d (.sl .nil 0 [])):=by
 refine cM bG (cb (fn:=Try.f71) (by kernel_rfl) (by kernel_rfl) (by kernel_rfl)) (h:=Mi) ?_;rw[Px];intro bJ
 simp only[Xw,sS,sT,sZ]
 exact⟨fun _=>trivial,fun h=>absurd h (by decide)⟩
theorem Jb:aG Try.prog gl 88 [.d (.sl .nil 0 [])] (.d (.sl .nil 0 [])):=by
 refine cM bG (cb (fn:=Try.f88) (by kernel_rfl) (by kernel_rfl) (by kernel_rfl)) (h:=h88) ?_;rw[ahM];intro bJ
 simp only[Xw,sS,sT,sZ]
 exact⟨fun _=>trivial,fun h=>absurd h (by decide)⟩
def tn:D:=.agg [.bool false,.bool false,.bool false,.sl .nil 0 [],.sl .nil 0 []]
def C6:D:=.agg [.int .i64 0,.int .i64 0,.int .i64 0,.int .i64 0,.sl .nil 0 [],.int .u64 0,.int .u64 0,.int .u64 0,.int .u64 0,.sl .nil 0 []]
def zN:D:=.agg [.str [],.sl .nil 0 [],.str [],.sl .nil 0 []]
theorem zU:aG Try.prog gl 86 [.d tn] (.d tn):=by
 refine cM bG (cb (fn:=Try.f86) (by kernel_rfl) (by kernel_rfl) (by kernel_rfl)) (h:=h86) ?_;rw[aii];intro bJ
 have e:aB (.d tn)=some [.d (.bool false),.d (.bool false),.d (.bool false),.d (.sl .nil 0 []),.d (.sl .nil 0 [])]:=rfl
 have p3:∀a b c d e:D,aj false 1 3 [.d a,.d b,.d c,.d d,.d e]=some (.d d):=fun _ _ _ _ _=>rfl
 have p4:∀a b c d e:D,aj false 1 4 [.d a,.d b,.d c,.d d,.d e]=some (.d e):=fun _ _ _ _ _=>rfl
 simp only[e,p3,p4,sS,sT,sZ]
 refine⟨rfl,?_⟩
 refine cV Dt rfl ?_
 refine cV Dt rfl ?_
 exact⟨rfl,by decide,rfl,by decide,rfl,rfl,rfl⟩
theorem Jc:aG Try.prog gl 89 [.d zN] (.d zN):=by
 refine cM bG (cb (fn:=Try.f89) (by kernel_rfl) (by kernel_rfl) (by kernel_rfl)) (h:=h89) ?_;rw[aik];intro bJ
 have e:aB (.d zN)=some [.d (.str []),.d (.sl .nil 0 []),.d (.str []),.d (.sl .nil 0 [])]:=rfl
 have p3:∀a b c d:D,aj false 1 3 [.d a,.d b,.d c,.d d]=some (.d d):=fun _ _ _ _=>rfl
 have p4:∀a b c d:D,aj false 1 1 [.d a,.d b,.d c,.d d]=some (.d b):=fun _ _ _ _=>rfl
 simp only[e,p3,p4,sS,sT,sZ]
 refine⟨rfl,?_⟩
 refine cV Jb rfl ?_
 refine cV Jb rfl ?_
 exact⟨rfl,by decide,rfl,by decide,rfl,rfl,rfl⟩
theorem IT:aG Try.prog gl 90 [.d (.sl .nil 0 [])] (.d (.sl .nil 0 [])):=by
 refine cM bG (cb (fn:=Try.f90) (by kernel_rfl) (by kernel_rfl) (by kernel_rfl)) (h:=h90) ?_;rw[ail];intro bJ
 have hn:=aW.nil (sz:=55) (L:=[]) 0 rfl
 simp only[hn.len,sS,sT,sZ]
 intro I hI
 refine hI _ _ ?_
 simp only[sS,sT,sZ]
 refine And.intro (fun h=>absurd h (by decide)) (fun _=>?_)
 trivial
theorem Tp:aG Try.prog gl 87 [.d C6] (.d C6):=by
 refine cM bG (cb (fn:=Try.f87) (by kernel_rfl) (by kernel_rfl) (by kernel_rfl)) (h:=h87) ?_;rw[aij];intro bJ
 have e:aB (.d C6)=some [.d (.int .i64 0),.d (.int .i64 0),.d (.int .i64 0),.d (.int .i64 0),.d (.sl .nil 0 []),.d (.int .u64 0),.d (.int .u64 0),.d (.int .u64 0),.d (.int .u64 0),.d (.sl .nil 0 [])]:=rfl
 have p3:∀a b c d e f g h i j:D,aj false 1 9 [.d a,.d b,.d c,.d d,.d e,.d f,.d g,.d h,.d i,.d j]=some (.d j):=fun _ _ _ _ _ _ _ _ _ _=>rfl
 have p4:∀a b c d e f g h i j:D,aj false 1 4 [.d a,.d b,.d c,.d d,.d e,.d f,.d g,.d h,.d i,.d j]=some (.d e):=fun _ _ _ _ _ _ _ _ _ _=>rfl
 have hn:=aW.nil (sz:=10) (L:=[]) 0 rfl
 have ec:aB (.d (.sl .nil 0 []))=some [.d (.sl .nil 0 [])]:=rfl
 simp only[e,p3,p4,ec,hn.len,sS,sT,sZ]
 refine⟨rfl,?_⟩
 refine cV Dt rfl ?_
 refine⟨rfl,by decide,rfl,by decide,?_⟩
 intro I hI
 refine hI _ _ ?_
 simp only[sS,sT,sZ]
 refine And.intro (fun h=>absurd h (by decide)) (fun _=>?_)
 exact⟨rfl,by decide,rfl,rfl⟩
def KV(t e:D):List D:=(qq.drop 9).take 44++[t,e]
def ju(k o:Int)(n:List UInt8)(l t e:D):D:=.agg ([.int .i64 k,.int .i64 o,.int .i64 0,.int .i64 0,.str n,.str [],.str [],l,.sl .nil 0 []]++KV t e)
theorem qE(k:Int)(n:List UInt8):dz Try.prog 65 [(0,.int .i64 k),(3,.str n)]=some (ju k 0 n (.sl .nil 0 []) (.sl .nil 0 []) (.sl .nil 0 [])):=by kernel_rfl
theorem acz(k o:Int)(L:List D):dz Try.prog 65 [(0,.int .i64 k),(1,.int .i64 o),(6,.sl .ro 1 L)]=some (ju k o [] (.sl .ro 1 L) (.sl .nil 0 []) (.sl .nil 0 [])):=by kernel_rfl
theorem abC(k:Int)(L:List D):dz Try.prog 65 [(0,.int .i64 k),(17,.sl .ro 55 L)]=some (ju k 0 [] (.sl .nil 0 []) (.sl .ro 55 L) (.sl .nil 0 [])):=by kernel_rfl
def Bo(k o:Int)(n:List UInt8)(l t e:D):List SV:=[.d (.int .i64 k),.d (.int .i64 o),.d (.int .i64 0),.d (.int .i64 0),.d (.str n),.d (.str []),.d (.str []),.d l,.d (.sl .nil 0 [])]++(KV t e).map .d
theorem oW(k o:Int)(n:List UInt8)(l t e:D):aB (.d (ju k o n l t e))=some (Bo k o n l t e):=rfl
theorem pa(k o:Int)(n:List UInt8)(l t e:D):(Bo k o n l t e).length =55:=rfl
theorem pb(k o:Int)(n:List UInt8)(l t e:D):setAt jH 0 (Bo k o n l t e)=Bo k o n l t e:=BJ rfl rfl
theorem oX(k o:Int)(n:List UInt8)(l t e:D):aj true 55 0 (Bo k o n l t e)=some (.d (ju k o n l t e)):=rfl
theorem FJ(n:List UInt8):aG Try.prog gl 31 [.d (.str n)] (.d (ju 2 0 n (.sl .nil 0 []) (.sl .nil 0 []) (.sl .nil 0 []))):=by
 refine cM bG (cb (fn:=Try.f31) (by kernel_rfl) (by kernel_rfl) (by kernel_rfl)) (h:=h31) ?_;rw[aip];intro bJ
 have eW:=pb
 simp only[sZ]at eW
 simp only[JQ,qE,oW,pa,eW,oX,sS,sT,sZ]
theorem adN(a b:D)(L:List D):aS [(0,.v (.d a)),(1,.v (.d b)),(6,.v (.full 1 L))]=some [(0,a),(1,b),(6,.sl .ro 1 L)]:=rfl
theorem agJ(n:List UInt8):bu 1 1 [(0,D.str n)]=true:=rfl
theorem FG(n:List UInt8):aG Try.prog gl 30 [.d (.str n)] (.d (ju 19 2 [] (.sl .ro 1 [.str n]) (.sl .nil 0 []) (.sl .nil 0 []))):=by
 refine cM bG (cb (fn:=Try.f30) (by kernel_rfl) (by kernel_rfl) (by kernel_rfl)) (h:=h30) ?_;rw[aio];intro bJ
 have eW:=pb
 simp only[sZ]at eW
 simp only[dG,wP,agJ,adN,acz,oW,pa,eW,oX,sS,sT,sZ]
theorem Nq(L:List D):aG Try.prog gl 29 [.full 55 L] (.d (ju 18 0 [] (.sl .nil 0 []) (.sl .ro 55 L) (.sl .nil 0 []))):=by
 refine cM bG (cb (fn:=Try.f29) (by kernel_rfl) (by kernel_rfl) (by kernel_rfl)) (h:=h29) ?_;rw[ain];intro bJ
 have eW:=pb
 have ed:aa (.full 55 L)=.full 55 L:=rfl
 have ep:∀a:D,aS [(0,.v (.d a)),(17,.v (.full 55 L))]=some [(0,a),(17,.sl .ro 55 L)]:=fun _=>rfl
 simp only[sZ]at eW
 simp only[ed,ep,abC,oW,pa,eW,oX,sS,sT,sZ]
def fq(k:Int)(n:List UInt8):List SV:=Bo k 0 n (.sl .nil 0 []) (.sl .nil 0 []) (.sl .nil 0 [])
def tZ:List SV:=[.d (.bool false),.d (.bool false),.d (.bool false),.d (.sl .nil 0 []),.d (.sl .nil 0 [])]
def Ez:List SV:=[.d (.int .i64 0),.d (.int .i64 0),.d (.int .i64 0),.d (.int .i64 0),.d (.sl .nil 0 []),.d (.int .u64 0),.d (.int .u64 0),.d (.int .u64 0),.d (.int .u64 0),.d (.sl .nil 0 [])]
def AX:List SV:=[.d (.str []),.d (.sl .nil 0 []),.d (.str []),.d (.sl .nil 0 [])]
theorem acA(k:Int)(n:List UInt8):aG Try.prog gl 72 [.d (ju k 0 n (.sl .nil 0 []) (.sl .nil 0 []) (.sl .nil 0 []))] (.d (ju k 0 n (.sl .nil 0 []) (.sl .nil 0 []) (.sl .nil 0 []))):=by
 refine cM bG (cb (fn:=Try.f72) (by kernel_rfl) (by kernel_rfl) (by kernel_rfl)) (h:=Su) ?_;rw[Yc];intro bJ
 have e0:aB (.d (ju k 0 n (.sl .nil 0 []) (.sl .nil 0 []) (.sl .nil 0 [])))=some (fq k n):=rfl
 have el:(fq k n).length =55:=rfl
 have eW:setAt jH 0 (fq k n)=fq k n:=BJ rfl rfl
 simp only[sZ]at eW
 have ew:aj true 55 0 (fq k n)=some (.d (ju k 0 n (.sl .nil 0 []) (.sl .nil 0 []) (.sl .nil 0 []))):=rfl
 have en:aB (.d (.sl .nil 0 []))=some [.d (.sl .nil 0 [])]:=rfl
 have e7:aj false 1 7 (fq k n)=some (.d (.sl .nil 0 [])):=rfl
 have e8:aj false 1 8 (fq k n)=some (.d (.sl .nil 0 [])):=rfl
 have SN:aj false 1 40 (fq k n)=some (.d (.sl .nil 0 [])):=rfl
 have SO:aj false 1 53 (fq k n)=some (.d (.sl .nil 0 [])):=rfl
 have SP:aj false 1 54 (fq k n)=some (.d (.sl .nil 0 [])):=rfl
 have e9:aj true 5 9 (fq k n)=some (.d tn):=rfl
 have SQ:aj true 5 14 (fq k n)=some (.d tn):=rfl
 have SR:aj true 5 19 (fq k n)=some (.d tn):=rfl
 have SS:aj true 5 24 (fq k n)=some (.d tn):=rfl
 have SU:aj true 10 29 (fq k n)=some (.d C6):=rfl
 have SW:aj true 4 41 (fq k n)=some (.d zN):=rfl
 have SX:aj true 4 48 (fq k n)=some (.d zN):=rfl
 have s7:setAt (fq k n) 7 [.d (.sl .nil 0 [])]=fq k n:=rfl
 have s8:setAt (fq k n) 8 [.d (.sl .nil 0 [])]=fq k n:=rfl
 have SY:setAt (fq k n) 40 [.d (.sl .nil 0 [])]=fq k n:=rfl
 have SZ:setAt (fq k n) 53 [.d (.sl .nil 0 [])]=fq k n:=rfl
 have S6:setAt (fq k n) 54 [.d (.sl .nil 0 [])]=fq k n:=rfl
 have s9:setAt (fq k n) 9 tZ=fq k n:=rfl
 have S7:setAt (fq k n) 14 tZ=fq k n:=rfl
 have S8:setAt (fq k n) 19 tZ=fq k n:=rfl
 have S9:setAt (fq k n) 24 tZ=fq k n:=rfl
 have Ta:setAt (fq k n) 29 Ez=fq k n:=rfl
 have Tb:setAt (fq k n) 41 AX=fq k n:=rfl
 have Tc:setAt (fq k n) 48 AX=fq k n:=rfl
 have cn:aB (.d tn)=some tZ:=rfl
 have ce:aB (.d C6)=some Ez:=rfl
 have cr:aB (.d zN)=some AX:=rfl
 have ln:tZ.length=5:=rfl
 have le:Ez.length=10:=rfl
 have lr:AX.length=4:=rfl
 simp only[e0,el,e7,e8,sS,sT,sZ]
 refine cV Dt rfl ?_
 refine cV Dt rfl ?_
 simp only[en,s7,s8,el,e9,SQ,SR,SS,sS,sT,sZ]
 refine⟨rfl,by decide,rfl,by decide,?_⟩
 refine cV zU rfl ?_
 refine cV zU rfl ?_
 refine cV zU rfl ?_
 refine cV zU rfl ?_
 simp only[cn,ln,s9,S7,S8,S9,el,SU,sS,sT,sZ]
 refine⟨by decide,by decide,by decide,by decide,?_⟩
 refine cV Tp rfl ?_
 simp only[ce,le,Ta,el,SN,sS,sT,sZ]
 refine⟨by decide,?_⟩
 refine cV Jb rfl ?_
 simp only[en,SY,el,SW,SX,sS,sT,sZ]
 refine⟨rfl,by decide,?_⟩
 refine cV Jc rfl ?_
 refine cV Jc rfl ?_
 simp only[cr,lr,Tb,Tc,el,SO,SP,sS,sT,sZ]
 refine⟨by decide,by decide,?_⟩
 refine cV IT rfl ?_
 refine cV IT rfl ?_
 simp only[en,SZ,S6,el,ew,e0,eW,sS,sT,sZ]
 exact⟨rfl,by decide,rfl,by decide⟩
def AY(n:List UInt8):List SV:=Bo 19 2 [] (.sl .ro 1 [.str n]) (.sl .nil 0 []) (.sl .nil 0 [])
def gq(n:List UInt8):List SV:=[.d (.int .i64 19),.d (.int .i64 2),.d (.int .i64 0),.d (.int .i64 0),.d (.str []),.d (.str []),.d (.str []),.own 1 [.str n],.d (.sl .nil 0 [])]++(KV (.sl .nil 0 []) (.sl .nil 0 [])).map .d
theorem adO(n:List UInt8):aG Try.prog gl 71 [.d (.sl .ro 1 [.str n])] (.own 1 [.str n]):=by
 refine cM bG (cb (fn:=Try.f71) (by kernel_rfl) (by kernel_rfl) (by kernel_rfl)) (h:=Mi) ?_;rw[Px];intro bJ
 have e:ai (some (false,[])) .eql (.d (.sl .ro 1 [.str n])) (.d (.sl .nil 0 []))=some (.d (.bool false)):=rfl
 simp only[e,yz,sS,sT,sZ]
 refine And.intro (fun h=>absurd h (by decide)) (fun _=>?_)
 exact⟨rfl,(show 1*16≤140737488355328 by decide),rfl,rfl⟩
theorem abD(n:List UInt8):aG Try.prog gl 72 [.d (ju 19 2 [] (.sl .ro 1 [.str n]) (.sl .nil 0 []) (.sl .nil 0 []))] (.d (ju 19 2 [] (.sl .ro 1 [.str n]) (.sl .nil 0 []) (.sl .nil 0 []))):=by
 refine cM bG (cb (fn:=Try.f72) (by kernel_rfl) (by kernel_rfl) (by kernel_rfl)) (h:=Su) ?_;rw[Yc];intro bJ
 have e0:aB (.d (ju 19 2 [] (.sl .ro 1 [.str n]) (.sl .nil 0 []) (.sl .nil 0 [])))=some (AY n):=rfl
 have el:(gq n).length =55:=rfl
 have eW:setAt jH 0 (AY n)=AY n:=BJ rfl rfl
 have ew0:aj true 55 0 (AY n)=some (.d (ju 19 2 [] (.sl .ro 1 [.str n]) (.sl .nil 0 []) (.sl .nil 0 []))):=rfl
 simp only[sZ]at eW
 have ew:aj true 55 0 (gq n)=some (.d (ju 19 2 [] (.sl .ro 1 [.str n]) (.sl .nil 0 []) (.sl .nil 0 []))):=rfl
 have en:aB (.d (.sl .nil 0 []))=some [.d (.sl .nil 0 [])]:=rfl
 have e7:aj false 1 7 (AY n)=some (.d (.sl .ro 1 [.str n])):=rfl
 have e8:aj false 1 8 (AY n)=some (.d (.sl .nil 0 [])):=rfl
 have SN:aj false 1 40 (gq n)=some (.d (.sl .nil 0 [])):=rfl
 have SO:aj false 1 53 (gq n)=some (.d (.sl .nil 0 [])):=rfl
 have SP:aj false 1 54 (gq n)=some (.d (.sl .nil 0 [])):=rfl
 have e9:aj true 5 9 (gq n)=some (.d tn):=rfl
 have SQ:aj true 5 14 (gq n)=some (.d tn):=rfl
 have SR:aj true 5 19 (gq n)=some (.d tn):=rfl
 have SS:aj true 5 24 (gq n)=some (.d tn):=rfl
 have SU:aj true 10 29 (gq n)=some (.d C6):=rfl
 have SW:aj true 4 41 (gq n)=some (.d zN):=rfl
 have SX:aj true 4 48 (gq n)=some (.d zN):=rfl
 have s7:setAt (AY n) 7 [.own 1 [.str n]]=gq n:=rfl
 have Td:(AY n).length =55:=rfl
 have eo:aB (.own 1 [.str n])=some [.own 1 [.str n]]:=rfl
 have s8:setAt (gq n) 8 [.d (.sl .nil 0 [])]=gq n:=rfl
 have SY:setAt (gq n) 40 [.d (.sl .nil 0 [])]=gq n:=rfl
 have SZ:setAt (gq n) 53 [.d (.sl .nil 0 [])]=gq n:=rfl
 have S6:setAt (gq n) 54 [.d (.sl .nil 0 [])]=gq n:=rfl
 have s9:setAt (gq n) 9 tZ=gq n:=rfl
 have S7:setAt (gq n) 14 tZ=gq n:=rfl
 have S8:setAt (gq n) 19 tZ=gq n:=rfl
 have S9:setAt (gq n) 24 tZ=gq n:=rfl
 have Ta:setAt (gq n) 29 Ez=gq n:=rfl
 have Tb:setAt (gq n) 41 AX=gq n:=rfl
 have Tc:setAt (gq n) 48 AX=gq n:=rfl
 have cn:aB (.d tn)=some tZ:=rfl
 have ce:aB (.d C6)=some Ez:=rfl
 have cr:aB (.d zN)=some AX:=rfl
 have ln:tZ.length=5:=rfl
 have le:Ez.length=10:=rfl
 have lr:AX.length=4:=rfl
 simp only[e0,Td,e7,e8,sS,sT,sZ]
 refine cV (adO n) rfl ?_
 refine cV Dt rfl ?_
 simp only[en,eo,s7,s8,el,Td,e9,SQ,SR,SS,sS,sT,sZ]
 refine⟨rfl,by decide,rfl,by decide,?_⟩
 refine cV zU rfl ?_
 refine cV zU rfl ?_
 refine cV zU rfl ?_
 refine cV zU rfl ?_
 simp only[cn,ln,s9,S7,S8,S9,el,SU,sS,sT,sZ]
 refine⟨by decide,by decide,by decide,by decide,?_⟩
 refine cV Tp rfl ?_
 simp only[ce,le,Ta,el,SN,sS,sT,sZ]
 refine⟨by decide,?_⟩
 refine cV Jb rfl ?_
 simp only[en,SY,el,SW,SX,sS,sT,sZ]
 refine⟨rfl,by decide,?_⟩
 refine cV Jc rfl ?_
 refine cV Jc rfl ?_
 simp only[cr,lr,Tb,Tc,el,SO,SP,sS,sT,sZ]
 refine⟨by decide,by decide,?_⟩
 refine cV IT rfl ?_
 refine cV IT rfl ?_
 simp only[en,SZ,S6,el,Td,ew,ew0,e0,eW,sS,sT,sZ]
 exact⟨rfl,by decide,rfl,by decide⟩
end Go.Proofs.Ytimbllcalipehaa.Ab
namespace Go.Proofs.Ytimbllcalipehaa.Ab
open Go
set_option linter.unusedVariables false
set_option maxRecDepth 4000
def G4:SV→SV
 | .full sz L=>.d (.sl .ro sz L)
 |x=>x
theorem acB{w:World}{St:Nat→Nat→Prop}{base:Nat}{O:Nat→Nat→Nat→Prop}{x:SV}{v:Value}(h:aP w St base O x v):aP w St base O (G4 x) v:=by
 cases h with
 |full _ sz L a h=>exact .d _ _ _ h
 |d _ x v h=>exact .d _ _ _ h
 |own _ sz L g cap h bM ho=>exact .own _ _ _ _ _ h bM ho
 |ref _ cs off b o vs hb aR hc=>exact .ref _ _ _ _ _ _ hb aR hc
 |cU _ n sz cs b cap vs hb hn hm aR hc=>exact .cU _ _ _ _ _ _ _ hb hn hm aR hc
 |aX _ x off b o vs hf aR hc=>exact .aX _ _ _ _ _ _ hf aR hc
 |dT _ f first cap fv cv hf hc rf rc=>exact .dT _ _ _ _ _ _ hf hc rf rc
 |aZ _ sz L g cap vs bM hm aM hf ho aR hc=>exact .aZ _ _ _ _ _ _ bM hm aM hf ho aR hc
 |mp _ l r es clock hh hs hl hc=>exact .mp _ _ _ _ _ hh hs hl hc
 |nest _ LL gg cap bk cp h1 h2 h3 h4 h5 h6=>exact .nest _ LL gg cap bk cp h1 h2 h3 h4 h5 h6
 |undef _ v=>exact .undef _ _
theorem xU{P:Program}{gl:Nat→Option D}{f:FuncId}{args:List SV}{r:SV}(h:aG P gl f (args.map G4) r)(h1:ou args=none:=by rfl)(h2:ou (args.map G4)=none:=by rfl):aG P gl f args r:=by
 have e1:aG P gl f args r=Gt P gl f args r:=by unfold aG;rw[h1]
 have e2:aG P gl f (args.map G4) r=Gt P gl f (args.map G4) r:=by unfold aG;rw[h2]
 rw[e1]
 rw[e2]at h
 refine⟨h.1,fun w St vs hb hg hl ha=>h.2 w St vs hb hg (by rw[List.length_map];exact hl) fun i x v hx hv=>?_⟩
 rw[List.getElem?_map]at hx
 obtain⟨y,hy,rfl⟩:=Option.map_eq_some_iff.1 hx
 exact acB (ha i y v hy hv)
structure zc(a:List (List Bool))(L:List D):Prop where
 len:L.length=a.length
 at_:∀{i:Nat}{r:List Bool},a[i]? =some r→∃y,L[i]? =some y∧aW 1 (cj r) y
theorem WG(a:List (List Bool)):zc a (a.map oE):=
 ⟨List.length_map ..,fun{i r}h=>⟨oE r,by simp[h],cK 1 _⟩⟩
theorem sj{r:List Bool}{i:Nat}{v:Bool}(h:r[i]? =some v):(cj r)[i]? =some (.bool v):=by simp[cj,h]
theorem KC(y:D)(L:List D)(h:aW 1 L y):aI false 1 (.aX y 0)=some (.d y):=by cases h<;>rfl
theorem Uo{a b:List (List Bool)}{La Lb:List D}{x y:D}(hx:aW 1 La x)(hy:aW 1 Lb y)(ha:zc a La)(hb:zc b Lb)(v9:∀r∈a,r.length≤maxLen):aG Try.prog gl 15 [.d x,.d y] (.d (.bool (a==b))):=by
 refine cM bG (cb (fn:=Try.f15) (by kernel_rfl) (by kernel_rfl) (by kernel_rfl)) (h:=h15) ?_;rw[ahY];intro bJ
 have ct:a.length≤maxLen:=by rw[←ha.len];exact hx.Lx bJ.1
 simp only[hx.len,hy.len,ha.len,hb.len,eQ,Gi,sS,sT,sZ]
 refine And.intro (fun h=>?_) (fun h=>?_)
 ·have bf:a≠b:=fun he=>by subst he;simp at h
  rw[beq_eq_false_iff_ne.2 bf]
 have hle:a.length=b.length:=by simpa using h
 refine np (fun i=>a.take i=b.take i) (fun i=>[.d x,.d y,.d (.int .i64 (a.length:Int)),.d (.int .i64 ((i:Nat):Int))]) (fun i=>[]) a.length rfl (fun i hi hJ I hI=>?_) (fun hJ I=>?_)
 ·simp only[sS,sT,sZ]
  refine And.intro (fun _=>?_) (fun h=>absurd h (by simp;omega))
  obtain⟨p,hp⟩:=get_some hi
  obtain⟨q,hq⟩:=get_some (by omega:i<b.length)
  obtain⟨yp,hyp,MF⟩:=ha.at_ hp
  obtain⟨yq,hyq,MG⟩:=hb.at_ hq
  have p8:=v9 p (List.mem_of_getElem? hp)
  simp only[hx.at hyp,hy.at hyq,KC _ _ MF,KC _ _ MG,MF.len,MG.len,sc,eQ,Gi,sS,sT,sZ]
  refine And.intro (fun h=>?_) (fun h=>?_)
  ·have bf:a≠b:=fun he=>by
    subst he
    rw[hp]at hq;cases hq
    simp at h
   rw[beq_eq_false_iff_ne.2 bf]
  have sQ:p.length=q.length:=by simpa using h
  refine np (fun j=>p.take j=q.take j) (fun j=>[.d x,.d y,.d (.int .i64 ((i:Nat):Int)),.d (.int .i64 (a.length:Int)),.d (.int .i64 ((i:Nat):Int)),.d (.int .i64 (p.length:Int)),.d (.int .i64 ((j:Nat):Int))]) (fun j=>[]) p.length rfl (fun j hj lz I2 cq=>?_) (fun lz I2=>?_)
  ·simp only[sS,sT,sZ]
   refine And.intro (fun _=>?_) (fun h=>absurd h (by simp;omega))
   obtain⟨u,hu⟩:=get_some hj
   obtain⟨v,hv⟩:=get_some (by omega:j<q.length)
   have fW:ai (some (false,[.bool])) .neq (.d (.bool u)) (.d (.bool v))=some (.d (.bool (u != v))):=rfl
   simp only[hx.at hyp,hy.at hyq,KC _ _ MF,KC _ _ MG,MF.at (sj hu),MG.at (sj hv),yi,fW,sS,sT,sZ]
   refine And.intro (fun h=>?_) (fun h=>?_)
   ·have bf:a≠b:=fun he=>by
     subst he
     rw[hp]at hq;cases hq
     rw[hu]at hv;cases hv
     simp at h
    rw[beq_eq_false_iff_ne.2 bf]
   ·have huv:u=v:=by simpa using h
    refine aU (br hj p8) ?_
    exact cq (by rw[dX hu,dX hv,lz,huv])
  ·simp only[sS,sT,sZ]
   refine And.intro (fun h=>absurd h (by simp)) (fun _=>?_)
   rw[List.take_length,sQ,List.take_length]at lz
   refine aU (br hi ct) ?_
   exact hI (by rw[dX hp,dX hq,hJ,lz])
 ·simp only[sS,sT,sZ]
  refine And.intro (fun h=>absurd h (by simp)) (fun _=>?_)
  rw[List.take_length,hle,List.take_length]at hJ
  rw[hJ];simp
end Go.Proofs.Ytimbllcalipehaa.Ab
namespace Go.Proofs.Ytimbllcalipehaa.Ab
open Go
set_option linter.unusedVariables false
set_option maxRecDepth 4000
def Fm(n:List UInt8):ah:=.mk ⟨2,0,0,0,n,[],[]⟩ [] []
def Fo(n:List UInt8):ah:=.mk ⟨19,2,0,0,[],[n],[]⟩ [] []
def atT(n:List UInt8):ah:=.mk ⟨3,0,0,0,n,[],[]⟩ [] []
def IF(t e:List ah):ah:=.mk ⟨18,0,0,0,[],[],[]⟩ t e
def zO:bg:=⟨[97],0,[Fm [116]]⟩
def xy:bg:=⟨[98],0,[IF [Fo [116]] [atT [120]]]⟩
def MH:bg:=⟨[99],0,[IF [Fo [116],Fm [117]] []]⟩
def LA:bg:=⟨[100],0,[IF [Fo [117],Fm [116]] []]⟩
def zP:bg:=⟨[101],0,[Fo [116],Fm [118]]⟩
def MI:bg:=⟨[122],0,[Fm [116],Fo [118]]⟩
theorem alz:uF [zO,xy]=.ok [[],[true]]:=by kernel_rfl
theorem alA:uF [xy]=.ok [[false]]:=by kernel_rfl
theorem alB:uF [MH,LA]=.ok [[true],[true]]:=by kernel_rfl
theorem alC:Ht [zP,zO]=([1,0],true):=by kernel_rfl
theorem alD:Ht [zP,MI]=([0,1],false):=by kernel_rfl
def Fp(n:List UInt8):D:=ju 2 0 n (.sl .nil 0 []) (.sl .nil 0 []) (.sl .nil 0 [])
def Fq(n:List UInt8):D:=ju 19 2 [] (.sl .ro 1 [.str n]) (.sl .nil 0 []) (.sl .nil 0 [])
def Bp(n:List UInt8):D:=ju 3 0 n (.sl .nil 0 []) (.sl .nil 0 []) (.sl .nil 0 [])
def Te(L:List D):D:=ju 18 0 [] (.sl .nil 0 []) (.sl .ro 55 L) (.sl .nil 0 [])
def MJ(L M:List D):D:=ju 18 0 [] (.sl .nil 0 []) (.sl .ro 55 L) (.sl .ro 55 M)
def tp(n:List UInt8)(L:List D):D:=.agg [.str n,.int .i64 0,.sl .ro 55 L]
theorem G5(k o:Int)(n:List UInt8)(names:List (List UInt8))(th el:List ah){l t e:D}{Lt Le:List D}(hl:aW 1 (cP names) l)(ht:aW 55 Lt t)(he:aW 55 Le e)(kM:fe th Lt)(j1:fe el Le):na (.mk ⟨k,o,0,0,n,names,[]⟩ th el) (ju k o n l t e):=
 .mk ⟨k,o,0,0,n,names,[]⟩ th el (.str []) (.str []) l (.sl .nil 0 []) (KV t e) t e Lt Le rfl hl (.nil 0 rfl) rfl rfl ht he kM j1
theorem B6:aW 55 [] (.sl .nil 0 []):=.nil 0 rfl
theorem LB:aW 1 (cP []) (.sl .nil 0 []):=.nil 0 rfl
theorem GF(n:List UInt8):na (Fm n) (Fp n):=G5 2 0 n [] [] [] LB B6 B6 .nil .nil
theorem aiW(n:List UInt8):na (atT n) (Bp n):=G5 3 0 n [] [] [] LB B6 B6 .nil .nil
theorem GG(n:List UInt8):na (Fo n) (Fq n):=G5 19 2 [] [n] [] [] .ro B6 B6 .nil .nil
theorem Yv{th:List ah}{L:List D}(h:fe th L):na (IF th []) (Te L):=G5 18 0 [] [] th [] LB .ro B6 h .nil
theorem agK{th el:List ah}{L M:List D}(h:fe th L)(k:fe el M):na (IF th el) (MJ L M):=G5 18 0 [] [] th el LB .ro .ro h k
theorem DV{n:List UInt8}{ts:List ah}{L:List D}(h:fe ts L):lj ⟨n,0,ts⟩ (tp n L):=.mk (.sl .ro 55 L) L .ro h
def ML:D:=tp [97] [Fp [116]]
def C7:D:=tp [98] [MJ [Fq [116]] [Bp [120]]]
def daC:D:=tp [99] [Te [Fq [116],Fp [117]]]
def ZI:D:=tp [100] [Te [Fq [117],Fp [116]]]
def MM:D:=tp [101] [Fq [116],Fp [118]]
def daZ:D:=tp [122] [Fp [116],Fq [118]]
theorem Q6:lj zO ML:=DV (.cons _ _ _ _ (GF _) .nil)
theorem LC:lj xy C7:=DV (.cons _ _ _ _ (agK (.cons _ _ _ _ (GG _) .nil) (.cons _ _ _ _ (aiW _) .nil)) .nil)
theorem alE:lj MH daC:=DV (.cons _ _ _ _ (Yv (.cons _ _ _ _ (GG _) (.cons _ _ _ _ (GF _) .nil))) .nil)
theorem akh:lj LA ZI:=DV (.cons _ _ _ _ (Yv (.cons _ _ _ _ (GG _) (.cons _ _ _ _ (GF _) .nil))) .nil)
theorem Q7:lj zP MM:=DV (.cons _ _ _ _ (GG _) (.cons _ _ _ _ (GF _) .nil))
theorem alF:lj MI daZ:=DV (.cons _ _ _ _ (GF _) (.cons _ _ _ _ (GG _) .nil))
theorem Xx{m:bg}{d:D}(h:lj m d):o9 [m] [d]:=⟨rfl,fun{i m'}hm=>by
 cases i with
 |zero=>simp at hm;subst hm;exact⟨d,rfl,h⟩
 |succ i=>simp at hm⟩
theorem Gn{m m2:bg}{d d2:D}(h:lj m d)(h2:lj m2 d2):o9 [m,m2] [d,d2]:=⟨rfl,fun{i m'}hm=>by
 cases i with
 |zero=>simp at hm;subst hm;exact⟨d,rfl,h⟩
 |succ i=>cases i with
  |zero=>simp at hm;subst hm;exact⟨d2,rfl,h2⟩
  |succ i=>simp at hm⟩
theorem DW:sf [zO,xy]=true∧sf [MH,LA]=true∧sf [zP,MI]=true:=by decide
theorem EA{a b:bg}(h:sf [a,b]=true):∀m∈[a,b],de m.ay:=(VI h).2
theorem ZJ:de zO.ay:=EA DW.1 _ (by simp)
theorem Q8:de xy.ay:=EA DW.1 _ (by simp)
theorem ZK:de zP.ay:=EA DW.2.2 _ (by simp)
theorem En1:aG Try.prog gl 11 [.full 3 [ML,C7]] (.aJ [.d (.sl .ro 1 ([[],[true]].map oE)),.d eI]):=by
 have:=IV (l:=[zO,xy]) .ro (Gn Q6 LC) (by decide) (EA DW.1)
 rw[alz]at this
 exact xU this
theorem En2:aG Try.prog gl 11 [.full 3 [C7]] (.aJ [.d (.sl .ro 1 ([[false]].map oE)),.d eI]):=by
 have:=IV (l:=[xy]) .ro (Xx LC) (by decide) (by intro m hm;rw[List.mem_singleton.1 hm];exact Q8)
 rw[alA]at this
 exact xU this
theorem En3:aG Try.prog gl 11 [.full 3 [daC,ZI]] (.aJ [.d (.sl .ro 1 ([[true],[true]].map oE)),.d eI]):=by
 have:=IV (l:=[MH,LA]) .ro (Gn alE akh) (by decide) (EA DW.2.1)
 rw[alB]at this
 exact xU this
theorem Od1:aG Try.prog gl 16 [.full 3 [MM,ML]] (.aJ [.own 1 [.int .i64 1,.int .i64 0],.d (.int .i64 0)]):=by
 have:=Uj (l:=[zP,zO]) .ro (Gn Q7 Q6) (by decide) (by
  intro m hm
  rcases List.mem_cons.1 hm with rfl|hm
  ·exact ZK
  ·rw[List.mem_singleton.1 hm];exact ZJ)
 rw[alC]at this
 exact xU this
theorem Od2:aG Try.prog gl 16 [.full 3 [MM,daZ]] (.aJ [.d (.sl .ro 1 [.int .i64 0,.int .i64 1]),.d (.int .i64 17)]):=by
 have:=Uj (l:=[zP,MI]) .ro (Gn Q7 alF) (by decide) (EA DW.2.2)
 rw[alD]at this
 exact xU this
theorem Bk1:aG Try.prog gl 13 [.d C7] (.d (.int .i64 1)):=TS LC Q8
theorem alG:CpM (IE fun x=>x) [xy] [C7]:=by
 intro i m x hm hx
 cases i with
 |zero=>
  simp at hm hx
  subst hm;subst hx
  exact⟨⟨⟨⟨abD _,rfl⟩,trivial⟩,⟨⟨acA _ _,rfl⟩,trivial⟩⟩,trivial⟩
 |succ i=>simp at hm
def Fs:D:=.agg [.str [98],.int .i64 0,.sl .ro 55 [Bp [120]]]
theorem alH:SM (fun x=>x) [xy] [C7]=.ok [Fs]:=by kernel_rfl
theorem Fl1:aG Try.prog gl 25 [.full 3 [C7]] (.aJ [.own 3 [Fs],.d eI]):=by
 have:=aaC (fun x=>x) (l:=[xy]) .ro (Xx LC) (by decide) (by intro m hm;rw[List.mem_singleton.1 hm];exact Q8) alG
 rw[alH]at this
 exact xU this
theorem alI:PB [zP,zO] 0=[1]:=by kernel_rfl
theorem Nd1:aG Try.prog gl 19 [.full 3 [MM,ML],.d (.int .i64 0)] (.own 1 [.int .i64 1]):=by
 have:=abu (l:=[zP,zO]) .ro (Gn Q7 Q6) (by decide) (by
  intro m hm
  rcases List.mem_cons.1 hm with rfl|hm
  ·exact ZK
  ·rw[List.mem_singleton.1 hm];exact ZJ) 0
 rw[alI]at this
 exact xU this
theorem Tf(a:List Nat):aG Try.prog gl 18 [.d (.sl .ro 1 (cQ a)),.full 1 (cQ a)] (.d (.bool true)):=by
 have:=acs a a (x:=.sl .ro 1 (cQ a)) (y:=.sl .ro 1 (cQ a)) .ro .ro
 rw[show(a==a)=true from by simp]at this
 exact xU this
theorem Tg(a:List (List Bool))(L:List D)(h:zc a L)(ha:∀r∈a,r.length≤maxLen):aG Try.prog gl 15 [.d (.sl .ro 1 (a.map oE)),.full 1 L] (.d (.bool true)):=by
 have:=Uo (a:=a) (b:=a) (x:=.sl .ro 1 (a.map oE)) (y:=.sl .ro 1 L) .ro .ro (WG a) h ha
 rw[show(a==a)=true from by simp]at this
 exact xU this
end Go.Proofs.Ytimbllcalipehaa.Ab
namespace Go.Proofs.Ytimbllcalipehaa.Ab
open Go
set_option linter.unusedVariables false
set_option maxRecDepth 8000
theorem DX{P:Program}{gl:Nat→Option D}{f:FuncId}{args:List SV}{r1 r2:SV}{k:SV→SV→Prop}(hH:aG P gl f args (.aJ [r1,r2]))(hk:k r1 r2):∃a b,aG P gl f args (.aJ [a,b])∧k a b:=⟨r1,r2,hH,hk⟩
def C8(n:List UInt8)(L:List D):List SV:=[.d (.str n),.d (.int .i64 0),.d (.sl .ro 55 L)]
theorem rY(n:List UInt8)(L:List D):dz Try.prog 36 [(0,.str n),(2,.sl .ro 55 L)]=some (tp n L):=by kernel_rfl
theorem rU(x:D)(L:List D):aS [(0,.v (.d x)),(2,.v (.full 55 L))]=some [(0,x),(2,.sl .ro 55 L)]:=rfl
theorem kY(n:List UInt8)(L:List D):aB (.d (tp n L))=some (C8 n L):=rfl
theorem sn(n:List UInt8)(L:List D):(C8 n L).length =3:=rfl
theorem k9(a b c:SV)(n:List UInt8)(L:List D):setAt [a,b,c] 0 (C8 n L)=C8 n L:=rfl
theorem kZ(n:List UInt8)(L:List D):aj true 3 0 (C8 n L)=some (.d (tp n L)):=rfl
theorem so(n:List UInt8)(L:List D):bu 3 1 [(0,tp n L)]=true:=rfl
theorem k0(n n2:List UInt8)(L L2:List D):bu 3 2 [(0,tp n L),(1,tp n2 L2)]=true:=rfl
theorem la(z x y:D):bz z [(0,x),(1,y)] 2 0=[x,y]:=rfl
theorem sq(k o:Int)(n:List UInt8)(l t e:D):bu 55 1 [(0,ju k o n l t e)]=true:=rfl
theorem sd(k o:Int)(n:List UInt8)(l t e:D)(k2 o2:Int)(n2:List UInt8)(l2 t2 e2:D):bu 55 2 [(0,ju k o n l t e),(1,ju k2 o2 n2 l2 t2 e2)]=true:=rfl
def Th(L M:List D):List SV:=[.d (.int .i64 18),.d (.int .i64 0),.d (.int .i64 0),.d (.int .i64 0),.d (.str []),.d (.str []),.d (.str []),.d (.sl .nil 0 []),.d (.sl .nil 0 [])]++((qq.drop 9).take 44).map .d ++[.d (.sl .ro 55 L),.full 55 M]
theorem sr(L M:List D):setAt (Bo 18 0 [] (.sl .nil 0 []) (.sl .ro 55 L) (.sl .nil 0 [])) 54 [.full 55 M]=Th L M:=rfl
theorem su(L M:List D):(Th L M).length =55:=rfl
theorem rZ(L M:List D):aj true 55 0 (Th L M)=some (.d (MJ L M)):=rfl
theorem rV(L:List D):aB (.full 55 L)=some [.full 55 L]:=rfl
theorem uW:aj true 4 0 (setAt dg 0 [.d (.int .i64 0),.d (.int .i64 0),.d (.int .i64 0),.d (.str [])])=some (.d eI):=rfl
theorem uX:dz Try.prog 30 []=some eI:=by kernel_rfl
theorem u5:ai (some (true,[.int,.int,.int,.str])) .eql (.d eI) (.d eI)=some (.d (.bool true)):=rfl
theorem wq(L:List D):aS [(0,.v (.full 1 L))]=some [(0,.sl .ro 1 L)]:=rfl
theorem wu(L M:List D):aS [(0,.v (.full 1 L)),(1,.v (.full 1 M))]=some [(0,.sl .ro 1 L),(1,.sl .ro 1 M)]:=rfl
theorem w9:bu 1 0 []=true:=rfl
theorem wS(L:List D):bu 1 1 [(0,D.sl .ro 1 L)]=true:=rfl
theorem wH(L M:List D):bu 1 2 [(0,D.sl .ro 1 L),(1,D.sl .ro 1 M)]=true:=rfl
theorem xz(z:D):bz z [] 0 0=[]:=rfl
theorem aiX(r:List Bool):zc [r] [.sl .ro 1 (cj r)]:=⟨rfl,fun{i s}h=>by
 cases i with
 |zero=>simp at h;subst h;exact⟨_,rfl,.ro⟩
 |succ i=>simp at h⟩
theorem Yw(r s:List Bool):zc [r,s] [.sl .ro 1 (cj r),.sl .ro 1 (cj s)]:=⟨rfl,fun{i t}h=>by
 cases i with
 |zero=>simp at h;subst h;exact⟨_,rfl,.ro⟩
 |succ i=>cases i with
  |zero=>simp at h;subst h;exact⟨_,rfl,.ro⟩
  |succ i=>simp at h⟩
theorem zd:bm (.d (.sl .ro 3 [Fs]))=some (.d (.int .i64 1)):=rfl
theorem ze:ai (some (false,[.int])) .eql (.d (.int .i64 1)) (.d (.int .i64 1))=some (.d (.bool true)):=rfl
theorem zf:aL 3 (.d (.sl .ro 3 [Fs])) (.d (.int .i64 0))=some (.aX Fs 0):=rfl
theorem zg:aI false 1 (.aX Fs 2)=some (.d (.sl .ro 55 [Bp [120]])):=rfl
theorem zh:bm (.d (.sl .ro 55 [Bp [120]]))=some (.d (.int .i64 1)):=rfl
theorem zi:aL 55 (.d (.sl .ro 55 [Bp [120]])) (.d (.int .i64 0))=some (.aX (Bp [120]) 0):=rfl
theorem zj:aI false 1 (.aX (Bp [120]) 4)=some (.d (.str [120])):=rfl
theorem zk:ai (some (false,[.str])) .eql (.d (.str [120])) (.d (.str [120]))=some (.d (.bool true)):=rfl
theorem yB(a b:Int):bu 1 2 [(0,.int .i64 a),(1,.int .i64 b)]=true:=rfl
theorem yj(z x:D):bz z [(0,x)] 1 0=[x]:=rfl
theorem yC(z x y:D):bz z [(0,x),(1,y)] 2 0=[x,y]:=rfl
theorem x7(a:Int):bu 1 1 [(0,.int .i64 a)]=true:=rfl
theorem yk(n:List UInt8)(L:List D):setAt [.d (.str []),.d (.int .i64 0),.d (.sl .nil 0 [])] 0 (C8 n L)=C8 n L:=rfl
theorem Fg1:aG Try.prog gl 15 [.d (.sl .ro 1 [oE [],oE [true]]),.full 1 [.sl .ro 1 [],.sl .ro 1 [.bool true]]] (.d (.bool true)):=Tg [[],[true]] _ (Yw [] [true]) (by decide)
theorem Fg2:aG Try.prog gl 15 [.d (.sl .ro 1 [oE [false]]),.full 1 [.sl .ro 1 [.bool false]]] (.d (.bool true)):=Tg [[false]] _ (aiX [false]) (by decide)
theorem Fg3:aG Try.prog gl 15 [.d (.sl .ro 1 [oE [true],oE [true]]),.full 1 [.sl .ro 1 [.bool true],.sl .ro 1 [.bool true]]] (.d (.bool true)):=Tg [[true],[true]] _ (Yw [true] [true]) (by decide)
theorem sC(L M:List D):bu 55 1 [(0,MJ L M)]=true:=rfl
theorem kg(n:Nat)(L:List D):aa (.own n L)=.d (.sl .ro n L):=rfl
theorem Up:aG Try.prog gl 10 [] (.d (.bool true)):=by
 refine cM bG (cb (fn:=Try.f10) (by kernel_rfl) (by kernel_rfl) (by kernel_rfl)) (h:=Rk) ?_;rw[aim];intro bJ
 refine cV (FG [116]) rfl ?_
 simp only[dG,jx,rU,rv,la,sq,sd,sC,so,k0,qE,rY,oW,pa,pb,oX,kY,sn,k9,kZ,sr,su,rZ,rV,eI,dq,dr,z4,fE,dC,kg,sS,sT]
 refine cV (Nq _) rfl ?_
 simp only[dG,jx,rU,rv,la,sq,sd,sC,so,k0,qE,rY,oW,pa,pb,oX,kY,sn,k9,kZ,sr,su,rZ,rV,eI,dq,dr,z4,fE,dC,kg,sS,sT]
 refine⟨rfl,?_⟩
 refine cV (FJ [116]) rfl ?_
 simp only[dG,jx,rU,rv,la,sq,sd,sC,so,k0,qE,rY,oW,pa,pb,oX,kY,sn,k9,kZ,sr,su,rZ,rV,eI,dq,dr,z4,fE,dC,kg,sS,sT]
 refine DX En1 ?_
 simp only[dG,jx,rU,rv,la,sq,sd,sC,so,k0,qE,rY,oW,pa,pb,oX,kY,sn,k9,kZ,sr,su,rZ,rV,eI,dq,dr,z4,fE,dC,kg,sS,sT]
 refine DX En2 ?_
 simp only[dG,jx,rU,rv,la,sq,sd,sC,so,k0,qE,rY,oW,pa,pb,oX,kY,sn,k9,kZ,sr,su,rZ,rV,eI,dq,dr,z4,fE,dC,kg,sS,sT]
 refine DX Fl1 ?_
 simp only[dG,jx,rU,rv,la,sq,sd,sC,so,k0,qE,rY,oW,pa,pb,oX,kY,sn,k9,kZ,sr,su,rZ,rV,eI,dq,dr,z4,fE,dC,kg,sS,sT]
 refine cV (FG [116]) rfl ?_
 refine cV (FJ [117]) rfl ?_
 simp only[dG,jx,rU,rv,la,sq,sd,sC,so,k0,qE,rY,oW,pa,pb,oX,kY,sn,k9,kZ,sr,su,rZ,rV,eI,dq,dr,z4,fE,dC,kg,sS,sT]
 refine cV (Nq _) rfl ?_
 simp only[dG,jx,rU,rv,la,sq,sd,sC,so,k0,qE,rY,oW,pa,pb,oX,kY,sn,k9,kZ,sr,su,rZ,rV,eI,dq,dr,z4,fE,dC,kg,sS,sT]
 refine cV (FG [117]) rfl ?_
 refine cV (FJ [116]) rfl ?_
 simp only[dG,jx,rU,rv,la,sq,sd,sC,so,k0,qE,rY,oW,pa,pb,oX,kY,sn,k9,kZ,sr,su,rZ,rV,eI,dq,dr,z4,fE,dC,kg,sS,sT]
 refine cV (Nq _) rfl ?_
 simp only[dG,jx,rU,rv,la,sq,sd,sC,so,k0,qE,rY,oW,pa,pb,oX,kY,sn,k9,kZ,sr,su,rZ,rV,eI,dq,dr,z4,fE,dC,kg,sS,sT]
 refine DX En3 ?_
 simp only[dG,jx,rU,rv,la,sq,sd,sC,so,k0,qE,rY,oW,pa,pb,oX,kY,sn,k9,kZ,sr,su,rZ,rV,eI,dq,dr,z4,fE,dC,kg,sS,sT]
 refine cV (FG [116]) rfl ?_
 refine cV (FJ [118]) rfl ?_
 simp only[dG,jx,rU,rv,la,sq,sd,sC,so,k0,qE,rY,oW,pa,pb,oX,kY,sn,k9,kZ,sr,su,rZ,rV,eI,dq,dr,z4,fE,dC,kg,sS,sT]
 refine DX Od1 ?_
 refine cV (FJ [116]) rfl ?_
 refine cV (FG [118]) rfl ?_
 simp only[dG,jx,rU,rv,la,sq,sd,sC,so,k0,qE,rY,oW,pa,pb,oX,kY,sn,k9,kZ,sr,su,rZ,rV,eI,dq,dr,z4,fE,dC,kg,sS,sT]
 refine DX Od2 ?_
 simp only[List.map,uW,uX,u5,uW,uX,u5,wq,wu,w9,wS,wH,tL,xz,wP,kg,sS,sT]
 refine And.intro (fun _=>?_) (fun h=>absurd h (by decide))
 simp only[uW,uX,u5,dG,jx,wq,wu,w9,wS,wH,tL,yB,x7,xz,yj,yC,kg,kZ,k9,kY,la,k0,zd,ze,zf,zg,zh,zi,zj,zk,km,yk,sS,sT]
 refine cV Fg1 rfl ?_
 simp only[uW,uX,u5,dG,jx,wq,wu,w9,wS,wH,tL,yB,x7,xz,yj,yC,kg,kZ,k9,kY,la,k0,zd,ze,zf,zg,zh,zi,zj,zk,km,yk,sS,sT]
 refine And.intro (fun _=>?_) (fun h=>absurd h (by decide))
 refine And.intro (fun _=>?_) (fun h=>absurd h (by decide))
 refine cV Fg2 rfl ?_
 simp only[uW,uX,u5,dG,jx,wq,wu,w9,wS,wH,tL,yB,x7,xz,yj,yC,kg,kZ,k9,kY,la,k0,zd,ze,zf,zg,zh,zi,zj,zk,km,yk,sS,sT]
 refine And.intro (fun _=>?_) (fun h=>absurd h (by decide))
 refine And.intro (fun _=>?_) (fun h=>absurd h (by decide))
 refine And.intro (fun _=>?_) (fun h=>absurd h (by decide))
 refine And.intro (fun _=>?_) (fun h=>absurd h (by decide))
 refine And.intro (fun _=>?_) (fun h=>absurd h (by decide))
 refine And.intro (fun _=>?_) (fun h=>absurd h (by decide))
 refine cV Fg3 rfl ?_
 simp only[uW,uX,u5,dG,jx,wq,wu,w9,wS,wH,tL,yB,x7,xz,yj,yC,kg,kZ,k9,kY,la,k0,zd,ze,zf,zg,zh,zi,zj,zk,km,yk,sS,sT]
 refine And.intro (fun _=>?_) (fun h=>absurd h (by decide))
 refine And.intro (fun _=>?_) (fun h=>absurd h (by decide))
 refine cV (Tf [1,0]) rfl ?_
 simp only[uW,uX,u5,dG,jx,wq,wu,w9,wS,wH,tL,yB,x7,xz,yj,yC,kg,kZ,k9,kY,la,k0,zd,ze,zf,zg,zh,zi,zj,zk,km,yk,sS,sT]
 refine And.intro (fun _=>?_) (fun h=>absurd h (by decide))
 refine And.intro (fun _=>?_) (fun h=>absurd h (by decide))
 refine cV (Tf [0,1]) rfl ?_
 simp only[uW,uX,u5,dG,jx,wq,wu,w9,wS,wH,tL,yB,x7,xz,yj,yC,kg,kZ,k9,kY,la,k0,zd,ze,zf,zg,zh,zi,zj,zk,km,yk,sS,sT]
 refine And.intro (fun _=>?_) (fun h=>absurd h (by decide))
 refine cV Bk1 rfl ?_
 simp only[uW,uX,u5,dG,jx,wq,wu,w9,wS,wH,tL,yB,x7,xz,yj,yC,kg,kZ,k9,kY,la,k0,zd,ze,zf,zg,zh,zi,zj,zk,km,yk,sS,sT]
 refine And.intro (fun _=>?_) (fun h=>absurd h (by decide))
 refine cV Nd1 rfl ?_
 simp only[uW,uX,u5,dG,jx,wq,wu,w9,wS,wH,tL,yB,x7,xz,yj,yC,kg,kZ,k9,kY,la,k0,zd,ze,zf,zg,zh,zi,zj,zk,km,yk,sS,sT]
 refine cV (Tf [1]) rfl ?_
 simp only[uW,uX,u5,dG,jx,wq,wu,w9,wS,wH,tL,yB,x7,xz,yj,yC,kg,kZ,k9,kY,la,k0,zd,ze,zf,zg,zh,zi,zj,zk,km,yk,sS,sT]
end Go.Proofs.Ytimbllcalipehaa.Ab
namespace Go.Proofs.Ytimbllcalipehaa.Ab
open Go
set_option linter.unusedVariables false
set_option maxRecDepth 4000
theorem aki(v:Bool):fg .not (.d (.bool v))=some (.d (.bool (!v))):=by cases v<;>rfl
end Go.Proofs.Ytimbllcalipehaa.Ab
namespace Go.Proofs.Ytimbllcalipehaa.Ab
open Go
set_option linter.unusedVariables false
set_option maxRecDepth 4000
def Qe(N:Nat→List Nat)(p:List Nat):Prop:=∀(i:Nat)x y,p[i]? =some x→p[i+1]? =some y→y∈N x
theorem Qe.snoc{N:Nat→List Nat}{p:List Nat}{a x:Nat}(h:Qe N (p++[a]))(hx:x∈N a):Qe N (p++[a]++[x]):=by
 intro i u v hu hv
 rcases Nat.lt_trichotomy (i+1) (p++[a]).length with h1|h1|h1
 ·rw[List.getElem?_append_left (by omega)]at hu
  rw[List.getElem?_append_left h1]at hv
  exact h i u v hu hv
 ·rw[List.length_append,List.length_singleton]at h1
  rw[List.getElem?_append_right (by rw[List.length_append,List.length_singleton];omega)]at hv
  rw[List.getElem?_append_left (by rw[List.length_append,List.length_singleton];omega),List.getElem?_append_right (by omega)]at hu
  have e1:i+1-(p++[a]).length =0:=by rw[List.length_append,List.length_singleton];omega
  have e2:i-p.length=0:=by omega
  rw[e1]at hv
  rw[e2]at hu
  cases hv
  cases hu
  exact hx
 ·rw[List.getElem?_append_right (by omega)]at hv
  have:¬i+1-(p++[a]).length <[x].length :=by rw[List.length_singleton];omega
  rw[List.getElem?_eq_none (by omega)]at hv
  cases hv
end Go.Proofs.Ytimbllcalipehaa.Ab
namespace Go.Proofs.Ytimbllcalipehaa.Ab
open Go
set_option linter.unusedVariables false
set_option maxRecDepth 4000
theorem OC(p:List UInt8)(l m:List (List UInt8)):fR p (l++m)=(fR p l||fR p m):=by
 unfold fR;rw[List.any_append]
theorem acC(p s:List UInt8)(l:List (List UInt8)):fR p (lb l s)=(fR p l||fR p [s]):=by
 unfold lb
 split
 ·rename_i h
  by_cases hp:fR p [s]=true
  ·have:s=p:=by simpa[fR]using hp
   subst this
   rw[hp,Bool.or_true];exact h
  ·rw[Bool.eq_false_iff.2 hp,Bool.or_false]
 ·exact OC _ _ _
theorem VP(p:List UInt8):∀(m l:List (List UInt8)),fR p (ji l m)=(fR p l||fR p m)
 |[],l=>by simp[ji,fR]
 |s::m,l=>by
  rw[show ji l (s::m)=ji (lb l s) m from rfl,VP p m,acC,Bool.or_assoc,←OC];rfl
def lY(bF:List aq)(x:aq):List (List UInt8):=(bF.filter (eS x)).foldl (fun a s=>ji a s.perms) []
theorem OD{l:List aq}{i:Nat}{y:aq}(h:l[i]? =some y)(x:aq):lY (l.take (i+1)) x=if eS x y then ji (lY (l.take i) x) y.perms else lY (l.take i) x:=by
 rw[dX h,lY,lY,List.filter_append,List.foldl_append]
 by_cases hd:eS x y=true<;>simp[hd]
theorem PE(l:List aq)(x:aq):∀i,(lY (l.take i) x).length ≤db (l.take i)
 |0=>by simp[lY]
 |i+1=>by
  have ih:=PE l x i
  cases h:l[i]? with
  |none=>
   have h1:l.length≤i:=List.getElem?_eq_none_iff.1 h
   rw[List.take_of_length_le (by omega)]
   rwa[List.take_of_length_le h1]at ih
  |some s=>
   rw[OD h,Br h]
   split
   ·have:=Wm (lY (l.take i) x) s.perms s.perms.length
    rw[List.take_length]at this
    omega
   ·omega
theorem Xy(p:List UInt8)(x:aq)(l:List aq):∀i,fR p (lY (l.take i) x)=fR p (j6 (l.take i) x)
 |0=>by simp[lY,j6]
 |i+1=>by
  have ih:=Xy p x l i
  cases h:l[i]? with
  |none=>
   have h1:l.length≤i:=List.getElem?_eq_none_iff.1 h
   rw[List.take_of_length_le (by omega)]
   rwa[List.take_of_length_le h1]at ih
  |some s=>
   rw[OD h,WA h,OC]
   by_cases hd:eS x s=true
   ·rw[if_pos hd,if_pos hd,VP,ih]
   ·rw[if_neg hd,if_neg hd,ih];simp[fR]
theorem afb(bF:List aq)(x:aq):(x.perms.filter fun p=> !fR p (lY bF x))=pJ bF x:=by
 unfold pJ
 congr 1
 funext p
 have:=Xy p x bF bF.length
 rw[List.take_length]at this
 rw[this]
theorem aaq(eF bF:List aq){x y:D}(hx:aW 6 (aK eF) x)(hy:aW 6 (aK bF) y)(hn:eF.length≤2^30)(hh:bF.length≤2^30)(hp:db bF≤2^30)(SI:∀s∈eF,s.perms.length≤2^30):
  aG Try.prog gl 23 [.d x,.d y] (aQ 6 (aK (fF eF bF))):=by
 have rH:eF.length≤maxLen:=Nat.le_trans hn (by decide)
 have Iz:bF.length≤maxLen:=Nat.le_trans hh (by decide)
 refine cM bG (cb (fn:=Try.f23) (by kernel_rfl) (by kernel_rfl) (by kernel_rfl)) (h:=h23) ?_;rw[ahq];intro bJ
 refine fV (fun i=>[.d x,.d y,aQ 6 (aK (fF (eF.take i) bF)),.d (.int .i64 ((i:Nat):Int))]) (fun i=>[]) eF.length (fun i hi I hI=>?_) (fun I=>?_)
 ·simp only[hx.len,eA,sS,sT,sZ]
  refine And.intro (fun _=>?_) (fun h=>absurd h (by simp;omega))
  obtain⟨s,hs⟩:=get_some hi
  have lL:=SI s (List.mem_of_getElem? hs)
  have Hv:s.perms.length≤maxLen:=Nat.le_trans lL (by decide)
  have tm:=WB (eF.take i) bF
  rw[List.length_take]at tm
  rw[VL hs]at hI
  simp only[hx.at (mf hs),qI,ga,fN,g8,fD,gO,gE,g7,iC,sS,sT,sZ]
  unfold xw at hI
  refine And.intro (fun h=>?_) (fun h=>?_)
  ·have h':(!s.cJ)=true:=h
   rw[h',Bool.true_or,if_pos rfl,List.append_nil]at hI
   refine aU (br hi rH) ?_
   exact hI
  have h':(!s.cJ)=false:=h
  rw[h',Bool.false_or]at hI
  refine dZ (NI s) ?_
  simp only[sS,sT,sZ]
  refine And.intro (fun h2=>?_) (fun h2=>?_)
  ·rw[if_pos h2,List.append_nil]at hI
   refine aU (br hi rH) ?_
   exact hI
  rw[if_neg (by rw[h2];simp)]at hI
  refine fV (fun k=>[.d x,.d y,aQ 6 (aK (fF (eF.take i) bF)),.d (.int .i64 ((i:Nat):Int)),.d (.bool ((bF.take k).any (eS s))),.d (bB 1 (cP (lY (bF.take k) s))),.d (.sl .nil 0 []),.d (.int .i64 ((k:Nat):Int))]) (fun k=>[s.cells]) bF.length (fun k hk I2 cq=>?_) (fun I2=>?_)
  ·simp only[hy.len,eA,sS,sT,sZ]
   refine And.intro (fun _=>?_) (fun h=>absurd h (by simp;omega))
   obtain⟨t,ht⟩:=get_some hk
   have gv:=PE bF s k
   have HH:=Br ht
   have alv:=Dl bF (k+1)
   rw[Wt ht,OD ht]at cq
   simp only[hy.at (mf ht),km,gO,gE,iC,Ga,Gb,Gc,Gd,Ge,Gy,Gz,GA,GB,GC,FQ,sS,sT,sZ]
   have skip:eS s t=false→ab (ai none .add (.d (.int .i64 ((k:Nat):Int))) (.d (.int .i64 1))) fun r=>I2 [.d x,.d y,aQ 6 (aK (fF (eF.take i) bF)),.d (.int .i64 ((i:Nat):Int)),.d (.bool ((bF.take k).any (eS s))),.d (bB 1 (cP (lY (bF.take k) s))),.d (.sl .nil 0 []),aa r] [s.cells]:=fun hd=>by
    rw[hd,Bool.or_false,if_neg (by decide)]at cq
    refine aU (br hk Iz) ?_
    exact cq
   refine And.intro (fun h4=>?_) (fun h4=>?_)
   ·have h5:ai (some (false,[.str])) .eql (.d (.str t.name)) (.d (.str s.name))=some (.d (.bool (t.name==s.name))):=Aj _ _
    simp only[h5,sS,sT,sZ]
    refine And.intro (fun h6=>?_) (fun h6=>?_)
    ·refine And.intro (fun h3=>?_) (fun h3=>?_)
     ·have hd:eS s t=true:=by rw[eS,show(!t.cJ)=true from h3,show(t.kind==s.kind)=true from h4,h6];rfl
      rw[hd,Bool.or_true,if_pos rfl]at cq
      refine cV (Nb (lY (bF.take k) s) t.perms (cK 1 _) (cK 1 _) (by omega) (by omega)) (ka _ _) ?_
      simp only[ez,sS,sT,sZ]
      refine aU (br hk Iz) ?_
      exact cq
     ·exact skip (by rw[eS,show(!t.cJ)=false from h3];rfl)
    ·exact skip (by rw[eS,h6,Bool.and_false,Bool.and_false])
   ·exact skip (by rw[eS,show(t.kind==s.kind)=false from h4,Bool.false_and,Bool.and_false])
  ·simp only[hy.len,eA,sS,sT,sZ]
   refine And.intro (fun h=>absurd h (by simp)) (fun _=>?_)
   rw[List.take_length]
   have gv:=PE bF s bF.length
   rw[List.take_length]at gv
   have p8:(lY bF s).length ≤maxLen:=Nat.le_trans (Nat.le_trans gv hp) (by decide)
   refine fV (fun k=>[.d x,.d y,aQ 6 (aK (fF (eF.take i) bF)),.d (.int .i64 ((i:Nat):Int)),.d (.bool (bF.any (eS s))),.d (bB 1 (cP (lY bF s))),aQ 1 (cP ((s.perms.take k).filter fun p=> !fR p (lY bF s))),.d (.int .i64 ((k:Nat):Int))]) (fun k=>[s.cells]) s.perms.length (fun k hk I3 gm=>?_) (fun I3=>?_)
   ·simp only[kV,(cK 1 (cP s.perms)).len,jP,sS,sT,sZ]
    refine And.intro (fun _=>?_) (fun h=>absurd h (by simp;omega))
    obtain⟨t,ht⟩:=get_some hk
    have rG:=List.length_filter_le (fun p=> !fR p (lY bF s)) (s.perms.take k)
    rw[List.length_take]at rG
    rw[TV ht]at gm
    simp only[(cK 1 (cP s.perms)).at (Ak ht),Xq,sS,sT,sZ]
    refine dZ (VE (lY bF s) (cK 1 _) p8 t) ?_
    simp only[iC,sS,sT,sZ]
    refine And.intro (fun h3=>?_) (fun h3=>?_)
    ·have kI:(!fR t (lY bF s))=true:=h3
     rw[if_pos kI,←Ju]at gm
     simp only[JM,Ks,JN,sS,sT,sZ]
     refine gN (qB 1 _) (by rw[jP];simp only[List.length_singleton];omega) ?_
     refine aU (br hk Hv) ?_
     exact gm
    ·have kI:(!fR t (lY bF s))=false:=h3
     rw[if_neg (by rw[kI];simp),List.append_nil]at gm
     refine aU (br hk Hv) ?_
     exact gm
   ·simp only[kV,(cK 1 (cP s.perms)).len,jP,sS,sT,sZ]
    refine And.intro (fun h=>absurd h (by simp)) (fun _=>?_)
    rw[List.take_length,afb]
    simp only[iC,ez,Bv,ZH,fD,sS,sT,sZ]
    have fin:(!bF.any (eS s)||decide (0<(pJ bF s).length))=true→bR 6 72 (aQ 6 (aK (fF (eF.take i) bF))) (.full 6 [aq.enc {s with perms:=pJ bF s}]) fun r=>ab (ai none .add (.d (.int .i64 ((i:Nat):Int))) (.d (.int .i64 1))) fun r2=>I [.d x,.d y,r,aa r2] []:=fun hc=>by
     rw[if_pos hc]at hI
     refine gN (qB 6 _) (by simp only[eA,List.length_singleton];omega) ?_
     refine aU (br hi rH) ?_
     have e:aK (fF (eF.take i) bF)++[aq.enc {s with perms:=pJ bF s}]=aK (fF (eF.take i) bF++[{s with perms:=pJ bF s}]):=by simp[aK]
     rw[e]
     exact hI
    refine And.intro (fun h3=>?_) (fun h3=>?_)
    ·have kI:(!bF.any (eS s))=true:=h3
     refine⟨rfl,by simp only[fN];decide,?_⟩
     simp only[dG,Kb,jQ,sS,sT,sZ]
     exact fin (by rw[kI];rfl)
    ·have kI:(!bF.any (eS s))=false:=h3
     simp only[(cK 1 (cP (pJ bF s))).len,jP,sS,sT,sZ]
     refine And.intro (fun h4=>?_) (fun h4=>?_)
     ·refine⟨rfl,by simp only[fN];decide,?_⟩
      simp only[dG,Kb,jQ,sS,sT,sZ]
      exact fin (by rw[kI,Bool.false_or];simp at h4 ⊢;omega)
     ·rw[if_neg (by rw[kI,Bool.false_or];simp at h4 ⊢;omega),List.append_nil]at hI
      refine aU (br hi rH) ?_
      exact hI
 ·simp only[hx.len,eA,sS,sT,sZ]
  refine And.intro (fun h=>absurd h (by simp)) (fun _=>?_)
  rw[List.take_length]
  exact⟨kS _ _,rfl⟩
end Go.Proofs.Ytimbllcalipehaa.Ab
namespace Go.Proofs.Ytimbllcalipehaa.Ab
open Go
def ZL:Hints:=⟨[(1,3),(1,4),(1,6)],[],[(2,[.jG 3])]⟩
def ZM:Hints:=⟨[(10,6),(10,7),(10,8),(10,9),(10,10),(11,0),(11,3),(11,4),(12,0),(12,3),(12,4),(13,3),(18,0),(18,3),(18,4),(31,0),(31,6),(31,7),(32,18),(32,19),(33,0),(33,3),(33,4),(38,8),(38,9),(38,10),(40,8),(40,9),(40,10),(55,18),(55,19),(60,0),(60,3),(60,4),(61,0),(61,2)],[(8,[0,5,6,7,8],[3,4,18,31,119,254]),(15,[0,5,6,7,8,12],[3,4,11,18,31,60,71,119,254]),(20,[0,5,6,7,13],[3,4,11,31,60,62,67,69,71,254]),(25,[0,5,6,7,13,14,15,16],[3,4,11,31,60,62,67,69,71,254]),(29,[0,5,6,7,13,14,15,16,17,19],[3,4,11,18,31,60,62,67,69,71,119,254]),(35,[0,5,6,7,13,14,15,16,20,21],[3,4,11,18,31,60,62,67,69,71,119,254]),(42,[0,5,6,7,13,14,15,22],[3,4,11,18,31,60,62,67,69,71,119,254]),(45,[0,5,6,7,13,14,15,22,23],[3,4,11,18,31,60,62,67,69,71,119,254]),(53,[0,5,6,7,25,26],[3,4,11,18,31,60,62,67,69,71,119]),(57,[0,5,6,7,25,26,28],[3,4,11,18,27,31,60,62,67,69,71,119,254])],[(11,[.jG 9]),(14,[.box 11 1]),(18,[.jm 11 false 1 [60,62,67,69]]),(5000032,[.mq 0 [20,20]]),(5000055,[.mq 0 [20,27]]),(5000037,[.mq 0 [13,143]]),(5000039,[.mq 0 [14,167]]),(5000045,[.mq 0 [7,190]]),(5000048,[.mq 0 [23,224]]),(5000059,[.mq 2 [13,276]]),(6000018,[.emp 0]),(6000049,[.emp 0]),(33,[.jG 20]),(56,[.box 27 1]),(60,[.jm 27 false 1 [257,262,264,277],.jG 27])]⟩
theorem aiY(C:bA)(x0:SV)(K:SV→Prop):body Go.Proofs.Try.prog gl C ZM 12 [x0] K=(cA [x0] (ba C 33 [(aa (aa (aa x0)))] fun r0=>ab (aB (aa r0)) fun r1=>(List.length r1)=4∧4≤4∧ab (aj false 1 0 (setAt [(.d (.int .i64 0)),(.d (.int .i64 0)),(.d (.int .i64 0)),(.d (.str []))] 0 r1)) fun r2=>ab (ai (some (false,[.int])) .neq (aa (aa r2)) (.d (.int .i64 0))) fun r3=>au r3 (ab (aj true 4 0 (setAt [(.d (.int .i64 0)),(.d (.int .i64 0)),(.d (.int .i64 0)),(.d (.str []))] 0 r1)) fun r4=>ab (aB (aa (aa r4))) fun r5=>(List.length r5)=4∧4≤4∧(SV.aD (.d (.sl .nil 0 [])))=true∧ab (aj true 4 0 (setAt [(.d (.int .i64 0)),(.d (.int .i64 0)),(.d (.int .i64 0)),(.d (.str []))] 0 r5)) fun r6=>(SV.aD (aa r6))=true∧(K (.aJ [(.d (.sl .nil 0 [])),(aa r6)]))) (bT (fun eV lC I9=>ab (bm (aa (aa (ae eV 0)))) fun bK=>ab (ai none .lss (aa (aa (ae eV 4))) (aa bK)) fun cB=>au cB (ab (aL 3 (aa (aa (ae eV 0))) (aa (aa (ae eV 4)))) fun cw=>ab (bP (aa cw) 2) fun cz=>ab (aI false 1 (aa cz)) fun bO=>∃bX,∃bN,((C 34 [(aa (aa bO)),(.d (.sl .nil 0 []))] (.aJ [bX,bN])))∧ab (om bX) fun bZ=>ab (aS [(0,(.v (aa (aa bZ))))]) fun bV=>(bu 1 1 bV)=true∧bR 1 24 (ae eV 1) (.full 1 (bz (bE false [(.sl .nil 0 [])]) bV 1 0)) fun dp=>ab (aS [(0,(.v (aa (aa bN))))]) fun cY=>(bu 1 1 cY)=true∧bR 1 24 (ae eV 2) (.full 1 (bz (bE false [(.sl .nil 0 [])]) cY 1 0)) fun cf=>ab (bm (aa (aa bZ))) fun cg=>ab (lenOf (aa cg) (aa cg)) fun cG=>(cG*1)≤140737488355328∧1=1∧bT (fun sN Cq I26=>ab (ai none .lss (aa (aa (ae sN 5))) (.d (.int .i64 (Nat.cast (List.length (List.replicate cG (D.bool false))))))) fun ek=>au ek (ab (cN (aa (aa (ae sN 5))) (List.length (List.replicate cG (D.bool false)))) fun dB=>ab (aB (.d (.bool true))) fun cZ=>(List.length cZ)=1∧((dB*1)+1)≤(List.length (an Cq 2))∧ab (ai none .add (aa (aa (ae sN 5))) (.d (.int .i64 1))) fun dt=>(I26 [(ae sN 0),(ae sN 1),(ae sN 2),(ae sN 3),(ae sN 4),(aa dt)] [(af.ax (af.cells (an Cq 0))),(af.ax (af.cells (an Cq 1))),(af.ax (af.cells (setAt (an Cq 2) (dB*1) cZ)))])) (ab (dK (an Cq 2)) fun dO=>ab (eR false 1 (List.length (List.replicate cG (D.bool false))) dO) fun dV=>Ar 24 (ae sN 3) (.aZ 1 dV) fun dY=>ab (ai none .add (aa (aa (ae sN 4))) (.d (.int .i64 1))) fun eP=>(I9 [(ae sN 0),(ae sN 1),(ae sN 2),dY,(aa eP)] [(af.ax (af.cells (an Cq 0))),(af.ax (af.cells (an Cq 1)))]))) [(ae eV 0),dp,cf,(ae eV 3),(ae eV 4),(.d (.int .i64 0))] [(af.ax (af.cells (an lC 0))),(af.ax (af.cells (an lC 1))),(af.ax (af.cells (bc (List.replicate cG (D.bool false)))))]) (bT (fun eO nB zJ=>au (aa (ae eO 4)) (bT (fun eX rj CX=>ab (bm (aa (aa (ae eX 0)))) fun gf=>ab (ai none .lss (aa (aa (ae eX 7))) (aa gf)) fun gx=>au gx (ab (aL 3 (aa (aa (ae eX 0))) (aa (aa (ae eX 7)))) fun fY=>ab (aI true 3 (aa fY)) fun fB=>∃gi,∃fC,((C 21 [(aa (aa fB))] (.aJ [gi,fC])))∧ab (aB (aa (aa (aa fC)))) fun gy=>(List.length gy)=4∧4≤4∧bT (fun ig EB I50=>ab (bm (aa (aa (ae ig 8)))) fun iq=>ab (ai none .lss (aa (aa (ae ig 9))) (aa iq)) fun ir=>au ir (ab (aL 6 (aa (aa (ae ig 8))) (aa (aa (ae ig 9)))) fun iT=>ab (aI true 6 (aa iT)) fun iK=>ab (aS [(0,(.v (aa iK)))]) fun iL=>(bu 6 1 iL)=true∧bR 6 72 (ae ig 5) (.full 6 (bz (bE true [(.int .i64 0),(.str []),(.bool false),(.sl .nil 0 []),(.int .i64 0),(.int .i64 0)]) iL 1 0)) fun jJ=>ab (ai none .add (aa (aa (ae ig 9))) (.d (.int .i64 1))) fun jK=>(I50 [(ae ig 0),(ae ig 1),(ae ig 2),(ae ig 3),(ae ig 4),jJ,(ae ig 6),(ae ig 7),(ae ig 8),(aa jK)] [(af.ax (af.cells (an EB 0))),(af.ax (af.cells (an EB 1))),(af.ax (af.cells (an EB 2)))])) (ab (aL 1 (aa (aa (di (ae ig 1)))) (aa (aa (di (ae ig 7))))) fun lB=>ab (aI false 1 (aa lB)) fun kN=>ab (aL 1 (aa (aa (di (ae ig 2)))) (aa (aa (di (ae ig 7))))) fun kO=>ab (aI false 1 (aa kO)) fun kP=>ab (aL 1 (aa (aa (di (ae ig 3)))) (aa (aa (di (ae ig 7))))) fun nP=>ab (aI false 1 (aa nP)) fun nQ=>ab (aL 1 (aa (aa (di (ae ig 1)))) (aa (aa (di (ae ig 7))))) fun mD=>ab (aI false 1 (aa mD)) fun lU=>ab (bm (aa lU)) fun mE=>ab (lenOf (aa mE) (aa mE)) fun nR=>(nR*1)≤140737488355328∧∃oM,∃nS,((C 35 [(.aJ [(.cU 3 0 [])]),(aa (aa kN)),(aa (aa kP)),(aa (aa nQ)),(.aZ 1 (List.replicate nR (D.bool false)))] (.aJ [nS,oM])))∧(aa nS)=.undef ∧((kE oM))∧ab (om (pO oM)) fun mY=>ab (aS [(0,(.v (aa (aa mY))))]) fun oN=>(bu 1 1 oN)=true∧bR 1 24 (ae ig 6) (.full 1 (bz (bE false [(.sl .nil 0 [])]) oN 1 0)) fun oO=>bT (fun bd iF zQ=>ab (bm (aa (aa (ae bd 8)))) fun po=>ab (ai none .lss (aa (aa (ae bd 9))) (aa po)) fun lV=>au lV (ab (aL 1 (aa (aa (di (ae bd 8)))) (aa (aa (di (ae bd 9))))) fun uq=>ab (aI false 1 (aa uq)) fun ur=>au (aa ur) (ab (aL 1 (aa (aa (di (ae bd 3)))) (aa (aa (di (ae bd 7))))) fun vM=>ab (aI false 1 (aa vM)) fun uv=>ab (aL 1 (aa uv) (aa (aa (di (ae bd 9))))) fun tg=>ab (aI false 1 (aa tg)) fun rL=>((kE (aa rL)))∧au (pO (aa rL)) (ab (aL 1 (aa (aa (ae bd 1))) (aa (aa (ae bd 7)))) fun ti=>ab (aI false 1 (aa ti)) fun tj=>ab (aL 4 (aa tj) (aa (aa (ae bd 9)))) fun uw=>ab (bP (aa uw) 0) fun vN=>ab (aI false 1 (aa vN)) fun xQ=>∃nT,∃tk,((C 36 [(.aJ [(.cU 1 0 [])]),(aa (aa xQ)),(ae bd 5)] (.aJ [tk,nT])))∧(aa tk)=(aa (ae bd 5))∧ab (aL 1 (aa (aa (di (ae bd 8)))) (aa (aa (di (ae bd 9))))) fun ux=>ab (aI false 1 (aa ux)) fun vO=>au (aa vO) (ab (aL 1 (aa (aa (di (ae bd 3)))) (aa (aa (di (ae bd 7))))) fun vP=>ab (aI false 1 (aa vP)) fun vQ=>ab (aL 1 (aa vQ) (aa (aa (di (ae bd 9))))) fun uy=>ab (aI false 1 (aa uy)) fun xP=>ab (fg .not (aa xP)) fun uz=>((kE (aa uz)))∧au (pO (aa uz)) (ab (aL 1 (aa (aa (ae bd 1))) (aa (aa (ae bd 7)))) fun vR=>ab (aI false 1 (aa vR)) fun zK=>ab (aL 4 (aa zK) (aa (aa (ae bd 9)))) fun Cn=>ab (bP (aa Cn) 1) fun xn=>ab (aI false 1 (aa xn)) fun xo=>∃xp,∃xq,((C 36 [(.aJ [(.cU 1 0 [])]),(aa (aa xo)),nT] (.aJ [xq,xp])))∧(aa xq)=(aa nT)∧ab (ai none .add (aa (aa (ae bd 9))) (.d (.int .i64 1))) fun y5=>(zQ [(ae bd 0),(ae bd 1),(ae bd 2),(ae bd 3),(ae bd 4),xp,(ae bd 6),(ae bd 7),(ae bd 8),(aa y5)] [(af.ax (af.cells (an iF 0))),(af.ax (af.cells (an iF 1))),(af.ax (af.cells (an iF 2)))])) (ab (ai none .add (aa (aa (ae bd 9))) (.d (.int .i64 1))) fun xr=>(zQ [(ae bd 0),(ae bd 1),(ae bd 2),(ae bd 3),(ae bd 4),nT,(ae bd 6),(ae bd 7),(ae bd 8),(aa xr)] [(af.ax (af.cells (an iF 0))),(af.ax (af.cells (an iF 1))),(af.ax (af.cells (an iF 2)))]))) (((kE (.d (.bool false))))∧ab (ai none .add (aa (aa (ae bd 9))) (.d (.int .i64 1))) fun xt=>(zQ [(ae bd 0),(ae bd 1),(ae bd 2),(ae bd 3),(ae bd 4),nT,(ae bd 6),(ae bd 7),(ae bd 8),(aa xt)] [(af.ax (af.cells (an iF 0))),(af.ax (af.cells (an iF 1))),(af.ax (af.cells (an iF 2)))]))) (ab (aL 1 (aa (aa (di (ae bd 8)))) (aa (aa (di (ae bd 9))))) fun ve=>ab (aI false 1 (aa ve)) fun AK=>au (aa AK) (ab (aL 1 (aa (aa (di (ae bd 3)))) (aa (aa (di (ae bd 7))))) fun y6=>ab (aI false 1 (aa y6)) fun AL=>ab (aL 1 (aa AL) (aa (aa (di (ae bd 9))))) fun Eo=>ab (aI false 1 (aa Eo)) fun AN=>ab (fg .not (aa AN)) fun AO=>((kE (aa AO)))∧au (pO (aa AO)) (ab (aL 1 (aa (aa (ae bd 1))) (aa (aa (ae bd 7)))) fun xu=>ab (aI false 1 (aa xu)) fun y7=>ab (aL 4 (aa y7) (aa (aa (ae bd 9)))) fun xv=>ab (bP (aa xv) 1) fun y8=>ab (aI false 1 (aa y8)) fun AM=>∃sM,∃y9,((C 36 [(.aJ [(.cU 1 0 [])]),(aa (aa AM)),(ae bd 5)] (.aJ [y9,sM])))∧(aa y9)=(aa (ae bd 5))∧ab (ai none .add (aa (aa (ae bd 9))) (.d (.int .i64 1))) fun Hm=>(zQ [(ae bd 0),(ae bd 1),(ae bd 2),(ae bd 3),(ae bd 4),sM,(ae bd 6),(ae bd 7),(ae bd 8),(aa Hm)] [(af.ax (af.cells (an iF 0))),(af.ax (af.cells (an iF 1))),(af.ax (af.cells (an iF 2)))])) (ab (ai none .add (aa (aa (ae bd 9))) (.d (.int .i64 1))) fun Ep=>(zQ [(ae bd 0),(ae bd 1),(ae bd 2),(ae bd 3),(ae bd 4),(ae bd 5),(ae bd 6),(ae bd 7),(ae bd 8),(aa Ep)] [(af.ax (af.cells (an iF 0))),(af.ax (af.cells (an iF 1))),(af.ax (af.cells (an iF 2)))]))) (((kE (.d (.bool false))))∧ab (ai none .add (aa (aa (ae bd 9))) (.d (.int .i64 1))) fun Hn=>(zQ [(ae bd 0),(ae bd 1),(ae bd 2),(ae bd 3),(ae bd 4),(ae bd 5),(ae bd 6),(ae bd 7),(ae bd 8),(aa Hn)] [(af.ax (af.cells (an iF 0))),(af.ax (af.cells (an iF 1))),(af.ax (af.cells (an iF 2)))])))) (((kE (.d (.bool false))))∧ab (aL 1 (aa (aa (di (ae bd 8)))) (aa (aa (di (ae bd 9))))) fun Ho=>ab (aI false 1 (aa Ho)) fun Hp=>au (aa Hp) (ab (aL 1 (aa (aa (di (ae bd 3)))) (aa (aa (di (ae bd 7))))) fun Hq=>ab (aI false 1 (aa Hq)) fun Hr=>ab (aL 1 (aa Hr) (aa (aa (di (ae bd 9))))) fun Er=>ab (aI false 1 (aa Er)) fun Es=>ab (fg .not (aa Es)) fun Et=>((kE (aa Et)))∧au (pO (aa Et)) (ab (aL 1 (aa (aa (ae bd 1))) (aa (aa (ae bd 7)))) fun Lk=>ab (aI false 1 (aa Lk)) fun Eu=>ab (aL 4 (aa Eu) (aa (aa (ae bd 9)))) fun QQ=>ab (bP (aa QQ) 1) fun QR=>ab (aI false 1 (aa QR)) fun QS=>∃Ll,∃Ln,((C 36 [(.aJ [(.cU 1 0 [])]),(aa (aa QS)),(ae bd 5)] (.aJ [Ln,Ll])))∧(aa Ln)=(aa (ae bd 5))∧ab (ai none .add (aa (aa (ae bd 9))) (.d (.int .i64 1))) fun QT=>(zQ [(ae bd 0),(ae bd 1),(ae bd 2),(ae bd 3),(ae bd 4),Ll,(ae bd 6),(ae bd 7),(ae bd 8),(aa QT)] [(af.ax (af.cells (an iF 0))),(af.ax (af.cells (an iF 1))),(af.ax (af.cells (an iF 2)))])) (ab (ai none .add (aa (aa (ae bd 9))) (.d (.int .i64 1))) fun Lo=>(zQ [(ae bd 0),(ae bd 1),(ae bd 2),(ae bd 3),(ae bd 4),(ae bd 5),(ae bd 6),(ae bd 7),(ae bd 8),(aa Lo)] [(af.ax (af.cells (an iF 0))),(af.ax (af.cells (an iF 1))),(af.ax (af.cells (an iF 2)))]))) (((kE (.d (.bool false))))∧ab (ai none .add (aa (aa (ae bd 9))) (.d (.int .i64 1))) fun QU=>(zQ [(ae bd 0),(ae bd 1),(ae bd 2),(ae bd 3),(ae bd 4),(ae bd 5),(ae bd 6),(ae bd 7),(ae bd 8),(aa QU)] [(af.ax (af.cells (an iF 0))),(af.ax (af.cells (an iF 1))),(af.ax (af.cells (an iF 2)))])))) (ab (ai none .add (aa (aa (ae bd 7))) (.d (.int .i64 1))) fun QV=>(CX [(ae bd 0),(ae bd 1),(ae bd 2),(ae bd 3),(ae bd 4),(ae bd 5),(ae bd 6),(aa QV)] [(af.ax (af.cells (an iF 0))),(af.ax (af.cells (an iF 1)))]))) [(ae ig 0),(ae ig 1),(ae ig 2),(ae ig 3),(ae ig 4),(ae ig 5),oO,(ae ig 7),mY,(.d (.int .i64 0))] [(af.ax (af.cells (an EB 0))),(af.ax (af.cells (an EB 1))),(af.ax (af.cells (an EB 2)))])) [(ae eX 0),(ae eX 1),(ae eX 2),(ae eX 3),(ae eX 4),(ae eX 5),(ae eX 6),(ae eX 7),(aa (aa (aa gi))),(.d (.int .i64 0))] [(af.ax (af.cells (an rj 0))),(af.ax (af.cells (an rj 1))),(af.ax (af.cells (setAt [(.d (.int .i64 0)),(.d (.int .i64 0)),(.d (.int .i64 0)),(.d (.str []))] 0 gy)))]) (bT (fun pK KW alJ=>ab (bm (aa (aa (ae pK 0)))) fun QW=>ab (ai none .lss (aa (aa (ae pK 7))) (aa QW)) fun QX=>au QX (bT (fun dJ xa LD=>ab (aL 1 (aa (aa (di (ae dJ 3)))) (aa (aa (di (ae dJ 7))))) fun QY=>ab (aI false 1 (aa QY)) fun QZ=>ab (bm (aa QZ)) fun Q0=>ab (ai none .lss (aa (aa (di (ae dJ 8)))) (aa Q0)) fun Lp=>((kE Lp))∧au (pO Lp) (ab (aL 1 (aa (aa (ae dJ 1))) (aa (aa (ae dJ 7)))) fun Lq=>ab (aI false 1 (aa Lq)) fun Lr=>ab (aL 4 (aa Lr) (aa (aa (ae dJ 8)))) fun Lu=>ab (bP (aa Lu) 0) fun Lv=>ab (aI false 1 (aa Lv)) fun alK=>ba C 36 [(aa (aa alK)),(.d (.sl .nil 0 []))] fun alL=>ab (aL 1 (aa (aa (di (ae dJ 6)))) (aa (aa (di (ae dJ 7))))) fun alM=>ab (aI false 1 (aa alM)) fun alN=>ab (aL 1 (aa alN) (aa (aa (di (ae dJ 8))))) fun alO=>ab (aI false 1 (aa alO)) fun alP=>au (aa alP) (ab (aL 1 (aa (aa (di (ae dJ 3)))) (aa (aa (di (ae dJ 7))))) fun alQ=>ab (aI false 1 (aa alQ)) fun alR=>ab (aL 1 (aa alR) (aa (aa (di (ae dJ 8))))) fun alS=>ab (aI false 1 (aa alS)) fun alT=>au (aa (aa alT)) (ba C 23 [(aa (aa (aa (di (aa alL))))),(aa (aa (aa (di (ae dJ 5)))))] fun alU=>ab (bm (aa alU)) fun alV=>ab (ai none .gtr (aa alV) (.d (.int .i64 0))) fun ZN=>((kE (aa ZN)))∧au (pO (aa ZN)) (yG (ae dJ 3) (ae dJ 7) (ae dJ 8) false fun alW=>ab (ai none .add (aa (aa (ae dJ 8))) (.d (.int .i64 1))) fun alX=>(LD [(ae dJ 0),(ae dJ 1),(ae dJ 2),alW,(.d (.bool true)),(ae dJ 5),(ae dJ 6),(ae dJ 7),(aa alX)] [(af.ax (af.cells (an xa 0))),(af.ax (af.cells (an xa 1)))])) (ab (ai none .add (aa (aa (ae dJ 8))) (.d (.int .i64 1))) fun alY=>(LD [(ae dJ 0),(ae dJ 1),(ae dJ 2),(ae dJ 3),(ae dJ 4),(ae dJ 5),(ae dJ 6),(ae dJ 7),(aa alY)] [(af.ax (af.cells (an xa 0))),(af.ax (af.cells (an xa 1)))]))) (((kE (.d (.bool false))))∧ab (ai none .add (aa (aa (ae dJ 8))) (.d (.int .i64 1))) fun alZ=>(LD [(ae dJ 0),(ae dJ 1),(ae dJ 2),(ae dJ 3),(ae dJ 4),(ae dJ 5),(ae dJ 6),(ae dJ 7),(aa alZ)] [(af.ax (af.cells (an xa 0))),(af.ax (af.cells (an xa 1)))]))) (((kE (.d (.bool false))))∧ab (ai none .add (aa (aa (ae dJ 8))) (.d (.int .i64 1))) fun al0=>(LD [(ae dJ 0),(ae dJ 1),(ae dJ 2),(ae dJ 3),(ae dJ 4),(ae dJ 5),(ae dJ 6),(ae dJ 7),(aa al0)] [(af.ax (af.cells (an xa 0))),(af.ax (af.cells (an xa 1)))]))) (ab (ai none .add (aa (aa (ae dJ 7))) (.d (.int .i64 1))) fun al1=>(alJ [(ae dJ 0),(ae dJ 1),(ae dJ 2),(ae dJ 3),(ae dJ 4),(ae dJ 5),(ae dJ 6),(aa al1)] [(af.ax (af.cells (an xa 0))),(af.ax (af.cells (an xa 1)))]))) [(ae pK 0),(ae pK 1),(ae pK 2),(ae pK 3),(ae pK 4),(ae pK 5),(ae pK 6),(ae pK 7),(.d (.int .i64 0))] [(af.ax (af.cells (an KW 0))),(af.ax (af.cells (an KW 1)))]) ((zJ [(ae pK 0),(ae pK 1),(ae pK 2),(ae pK 3),(ae pK 4)] [(af.ax (af.cells (an KW 0))),(af.ax (af.cells (an KW 1)))]))) [(ae eX 0),(ae eX 1),(ae eX 2),(ae eX 3),(ae eX 4),(ae eX 5),(ae eX 6),(.d (.int .i64 0))] [(af.ax (af.cells (an rj 0))),(af.ax (af.cells (an rj 1)))])) [(ae eO 0),(ae eO 1),(ae eO 2),(ae eO 3),(.d (.bool false)),(.d (.sl .nil 0 [])),(.d (.sl .nil 0 [])),(.d (.int .i64 0))] [(af.ax (af.cells (an nB 0))),(af.ax (af.cells (an nB 1)))]) (bT (fun jW Ea ZO=>ab (bm (aa (aa (ae jW 0)))) fun al2=>ab (ai none .lss (aa (aa (ae jW 5))) (aa al2)) fun al3=>au al3 (ab (aL 1 (aa (aa (di (ae jW 1)))) (aa (aa (di (ae jW 5))))) fun al4=>ab (aI false 1 (aa al4)) fun al5=>ab (aL 1 (aa (aa (di (ae jW 2)))) (aa (aa (di (ae jW 5))))) fun al6=>ab (aI false 1 (aa al6)) fun al7=>ab (aL 1 (aa (aa (di (ae jW 3)))) (aa (aa (di (ae jW 5))))) fun al8=>ab (aI false 1 (aa al8)) fun al9=>ab (aL 1 (aa (aa (di (ae jW 1)))) (aa (aa (di (ae jW 5))))) fun ama=>ab (aI false 1 (aa ama)) fun amb=>ab (bm (aa amb)) fun ZP=>ab (lenOf (aa ZP) (aa ZP)) fun ZQ=>(ZQ*1)≤140737488355328∧∃Q9,∃ZR,((C 35 [(.aJ [(.cU 3 0 [])]),(aa (aa al5)),(aa (aa al7)),(aa (aa al9)),(.aZ 1 (List.replicate ZQ (D.bool false)))] (.aJ [ZR,Q9])))∧(aa ZR)=.undef ∧((kE Q9))∧gI (pO Q9) 1 (fun EC=>bT (fun iV tM ZS=>ab (ai none .lss (aa (aa (ae iV 6))) (.d (.int .i64 (Nat.cast (List.length EC))))) fun amc=>au amc (ab (aL 1 (aa (aa (GP (List.length EC) 1 (an tM 2)))) (aa (aa (di (ae iV 6))))) fun amd=>ab (aI false 1 (aa amd)) fun ame=>au (aa ame) (ab (aL 1 (aa (aa (di (ae iV 3)))) (aa (aa (di (ae iV 5))))) fun amf=>ab (aI false 1 (aa amf)) fun amg=>ab (aL 1 (aa amg) (aa (aa (di (ae iV 6))))) fun amh=>ab (aI false 1 (aa amh)) fun ZT=>((kE (aa ZT)))∧ab (cN (aa (aa (ae iV 6))) (List.length EC)) fun ZU=>ab (aB (aa (pO (aa ZT)))) fun ZV=>(List.length ZV)=1∧((ZU*1)+1)≤(List.length (an tM 2))∧ab (ai none .add (aa (aa (ae iV 6))) (.d (.int .i64 1))) fun ami=>(ZS [(ae iV 0),(ae iV 1),(ae iV 2),(ae iV 3),(ae iV 4),(ae iV 5),(aa ami)] [(af.ax (af.cells (an tM 0))),(af.ax (af.cells (an tM 1))),(af.ax (af.cells (setAt (an tM 2) (ZU*1) ZV)))])) (((kE (.d (.bool false))))∧ab (cN (aa (aa (ae iV 6))) (List.length EC)) fun ZW=>ab (aB (.d (.bool false))) fun ZX=>(List.length ZX)=1∧((ZW*1)+1)≤(List.length (an tM 2))∧ab (ai none .add (aa (aa (ae iV 6))) (.d (.int .i64 1))) fun amj=>(ZS [(ae iV 0),(ae iV 1),(ae iV 2),(ae iV 3),(ae iV 4),(ae iV 5),(aa amj)] [(af.ax (af.cells (an tM 0))),(af.ax (af.cells (an tM 1))),(af.ax (af.cells (setAt (an tM 2) (ZW*1) ZX)))]))) (ab (dK (an tM 2)) fun amk=>ab (eR false 1 (List.length EC) amk) fun aml=>ab (om (.aZ 1 aml)) fun amm=>ab (aS [(0,(.v (aa (aa amm))))]) fun ZY=>(bu 1 1 ZY)=true∧bR 1 24 (ae iV 4) (.full 1 (bz (bE false [(.sl .nil 0 [])]) ZY 1 0)) fun amn=>ab (ai none .add (aa (aa (ae iV 5))) (.d (.int .i64 1))) fun amo=>(ZO [(ae iV 0),(ae iV 1),(ae iV 2),(ae iV 3),amn,(aa amo)] [(af.ax (af.cells (an tM 0))),(af.ax (af.cells (an tM 1)))]))) [(ae jW 0),(ae jW 1),(ae jW 2),(ae jW 3),(ae jW 4),(ae jW 5),(.d (.int .i64 0))] [(af.ax (af.cells (an Ea 0))),(af.ax (af.cells (an Ea 1))),(af.ax (af.cells (bc EC)))]) (bT (fun sI Za anh=>ab (bm .undef) fun amp=>ab (ai none .lss (aa (aa (ae sI 6))) (aa amp)) fun amq=>au amq (ab (aL 1 .undef (aa (aa (di (ae sI 6))))) fun amr=>ab (aI false 1 (aa amr)) fun ams=>au (aa ams) (ab (aL 1 (aa (aa (di (ae sI 3)))) (aa (aa (di (ae sI 5))))) fun amt=>ab (aI false 1 (aa amt)) fun amu=>ab (aL 1 (aa amu) (aa (aa (di (ae sI 6))))) fun amv=>ab (aI false 1 (aa amv)) fun amw=>((kE (aa amw)))∧ab (aL 1 .undef (aa (aa (ae sI 6)))) fun ani=>False) (((kE (.d (.bool false))))∧ab (aL 1 .undef (aa (aa (ae sI 6)))) fun anj=>False)) (ab (om .undef) fun amx=>ab (aS [(0,(.v (aa (aa amx))))]) fun ZZ=>(bu 1 1 ZZ)=true∧bR 1 24 (ae sI 4) (.full 1 (bz (bE false [(.sl .nil 0 [])]) ZZ 1 0)) fun amy=>ab (ai none .add (aa (aa (ae sI 5))) (.d (.int .i64 1))) fun amz=>(ZO [(ae sI 0),(ae sI 1),(ae sI 2),(ae sI 3),amy,(aa amz)] [(af.ax (af.cells (an Za 0))),(af.ax (af.cells (an Za 1)))]))) [(ae jW 0),(ae jW 1),(ae jW 2),(ae jW 3),(ae jW 4),(ae jW 5),(.d (.int .i64 0))] [(af.ax (af.cells (an Ea 0))),(af.ax (af.cells (an Ea 1)))])) (ab (aS []) fun amA=>ab (dz Proofs.Try.prog 30 amA) fun amB=>ab (aB (.d amB)) fun Z0=>(List.length Z0)=4∧4≤(List.length (an Ea 0))∧(SV.aD (ae jW 4))=true∧ab (aj true 4 0 (setAt (an Ea 0) 0 Z0)) fun Z1=>(SV.aD (aa Z1))=true∧(K (.aJ [(ae jW 4),(aa Z1)])))) [(ae eO 0),(ae eO 1),(ae eO 2),(ae eO 3),(.d (.sl .nil 0 [])),(.d (.int .i64 0))] [(af.ax (af.cells (an nB 0))),(af.ax (af.cells (an nB 1)))])) [(ae eV 0),(ae eV 1),(ae eV 2),(ae eV 3),(.d (.bool true))] [(af.ax (af.cells (an lC 0))),(af.ax (af.cells (an lC 1)))])) [x0,(.d (.sl .nil 0 [])),(.d (.sl .nil 0 [])),(.d (.sl .nil 0 [])),(.d (.int .i64 0))] [[(.d (.int .i64 0)),(.d (.int .i64 0)),(.d (.int .i64 0)),(.d (.str []))],(af.ax (af.cells (setAt [(.d (.int .i64 0)),(.d (.int .i64 0)),(.d (.int .i64 0)),(.d (.str []))] 0 r1)))]))):=by kernel_rfl
theorem agL(C:bA)(x0:SV)(K:SV→Prop):body Go.Proofs.Try.prog gl C ZL 14 [x0] K=(cA [x0] (ab (aB (aa x0)) fun r0=>(List.length r0)=3∧ab (aj false 1 2 r0) fun r1=>∃r2,∃r3,((C 34 [(aa (aa (aa r1))),(.d (.sl .nil 0 []))] (.aJ [r2,r3])))∧ab (om r2) fun r4=>ab (bm (aa (aa r4))) fun r5=>(SV.aD (aa r5))=true∧(K (aa r5)))):=by kernel_rfl
end Go.Proofs.Ytimbllcalipehaa.Ab
namespace Go.Proofs.Ytimbllcalipehaa.Ab
open Go
set_option linter.unusedVariables false
set_option maxRecDepth 4000
structure RE where
 (ya yb:D)
 (inn out:List Nat)
def rz(b:RE):List D:=[b.ya,b.yb,bB 1 (cQ b.inn),bB 1 (cQ b.out)]
def RE.enc(b:RE):D:=.agg (rz b)
def RE.cells(b:RE):List SV:=(rz b).map .d
def gZ(l:List RE):List D:=l.map RE.enc
theorem ym(l:List RE):(gZ l).length =l.length:=List.length_map ..
theorem GI{l:List RE}{i:Nat}{b:RE}(h:l[i]? =some b):(gZ l)[i]? =some b.enc:=by simp[gZ,h]
theorem Kc(s:RE)(l:List RE):bc (gZ (s::l))=s.cells++bc (gZ l):=rfl
theorem O6:∀(l:List RE),dK (bc (gZ l))=some (l.flatMap rz)
 |[]=>rfl
 |s::l=>by rw[Kc,List.flatMap_cons];exact FF _ (O6 l)
theorem Yx:∀(l:List RE),(bc (gZ l)).length =l.length*4
 |[]=>rfl
 |s::l=>by rw[Kc,List.length_append,Yx l,List.length_cons];simp[RE.cells,rz];omega
theorem OE:∀(l:List RE),eR true 4 l.length (l.flatMap rz)=some (gZ l)
 |[]=>rfl
 |s::l=>by
  have ih:=OE l
  have h1:((s::l).flatMap rz).drop 4=l.flatMap rz:=rfl
  have h2:((s::l).flatMap rz).take 4=rz s:=rfl
  have h3:4≤((s::l).flatMap rz).length :=by simp[rz]
  simp only[List.length_cons,eR,h1,h2,ih,if_pos h3]
  rfl
theorem Yy(k:Nat)(v:D)(y':RE):∀(l:List RE)(j:Nat)(y:RE),l[j]? =some y→k<4→y.cells.set k (.d v)=y'.cells→setAt (bc (gZ l)) (j*4+k) [.d v]=bc (gZ (l.set j y')):=by
 intro l
 induction l with
 |nil=>intro j y h;simp at h
 |cons s l ih=>
  intro j y h hk he
  cases j with
  |zero=>
   simp at h;subst h
   rw[setAt,setAt,Nat.zero_mul,Nat.zero_add,Kc,List.set_append_left _ _ (by simp[RE.cells,rz];omega),he]
   rfl
  |succ j=>
   have:=ih j y (by simpa using h) hk he
   rw[setAt,setAt]at this
   rw[setAt,setAt,Kc,List.set_append_right _ _ (by simp[RE.cells,rz];omega)]
   have e:(j+1)*4+k-s.cells.length=j*4+k:=by simp[RE.cells,rz];omega
   rw[e,this]
   rfl
def mI(l:List RE):SV:=match l with
 |[]=>.d (.sl .nil iN [])
 |l=>.aZ 4 (gZ l)
theorem Yz{l:List RE}(h:l≠[]):mI l=.aZ 4 (gZ l):=by
 cases l with
 |nil=>exact absurd rfl h
 |cons y l=>rfl
theorem agM(l:List RE):oo (mI l)=some (mI l):=by cases l<;>rfl
theorem adP(l:List RE):wW (mI l)=false:=by cases l<;>rfl
theorem VQ(l:List RE):(mI l).aD =true:=by cases l<;>rfl
theorem Xz(l:List RE):om (mI l)=some (aQ 4 (gZ l)):=by cases l<;>rfl
theorem XA{out:List RE}{A:List D→Prop}{B:Prop}(h1:out≠[]→A (gZ out))(h2:out=[]→B):gI (mI out) 4 A B:=by
 cases out with
 |nil=>exact h2 rfl
 |cons y l=>exact⟨rfl,h1 (by simp)⟩
theorem agN{out:List RE}{s:RE}{cX:Nat}{k:SV→Prop}(hb:(out.length+1)*cX≤140737488355328)(hk:k (mI (out++[s]))):bR 4 cX (mI out) (.full 4 [s.enc]) k:=by
 cases out with
 |nil=>
  unfold bR lG
  simp only[elems,if_true]
  exact⟨by simpa using hb,hk⟩
 |cons y l=>
  unfold bR lG
  simp only[elems,if_true]
  refine⟨by simpa[ym]using hb,?_⟩
  have:gZ (y::l)++[s.enc]=gZ (y::l++[s]):=by simp[gZ]
  rw[this]
  exact hk
def Ra(l:List RE):SV:=match l with
 |[]=>.d (.sl .nil iN [])
 |_=>.undef
theorem O7(l:List RE):aa (mI l)=Ra l:=by cases l<;>rfl
theorem Kd{l:List RE}(h:l≠[]):Ra l=.undef :=by
 cases l with
 |nil=>exact absurd rfl h
 |cons y l=>rfl
def eg:List ah→Nat→List Nat
 |[],_=>[]
 |t::l,k=>(if t.s.kind==18 then [k]else [])++eg l (k+t.nb)
theorem WH:∀(a b:List ah)(k:Nat),eg (a++b) k=eg a k++eg b (k+ah.aE a)
 |[],b,k=>by simp[eg,ah.aE]
 |t::a,b,k=>by
  rw[List.cons_append,eg,eg,WH a b,List.append_assoc]
  simp only[ah.aE]
  rw[Nat.add_assoc]
theorem adQ{l:List ah}{i:Nat}{t:ah}(h:l[i]? =some t)(k:Nat):eg (l.take (i+1)) k=eg (l.take i) k++if t.s.kind==18 then [k+ah.aE (l.take i)]else []:=by
 rw[dX h,WH]
 simp[eg]
theorem OF:∀(l:List ah)(k:Nat),(eg l k).length ≤ah.aE l
 |[],k=>by simp[eg]
 |t::l,k=>by
  have:=OF l (k+t.nb)
  simp only[eg,ah.aE,List.length_append]
  rw[t.D9]
  rw[t.D9]at this
  split<;>simp_all<;>omega
def Cr(x:D):List D:=match x with
 | .sl _ _ L=>L
 |_=>[]
theorem aW.el{sz:Nat}{L:List D}{x:D}(h:aW sz L x):Cr x=L:=by
 cases h with
 |nil s h=>subst h;rfl
 |ro=>rfl
theorem aW.Zb{sz:Nat}{L:List D}{x:D}(h:aW sz L x):x.cells=[x]:=by
 cases h<;>rfl
def oS(x:D)(n:Nat):D:=match x with
 | .agg cs=>cs.getD n .nZ
 |_=>.nZ
mutual
def cT:ah→D→Nat→List RE
 | .mk s a b,x,k=>if s.kind==18 then⟨oS x 53,oS x 54,eg a (k+1),eg b (k+1+ah.aE a)⟩::(cL a (Cr (oS x 53)) (k+1)++cL b (Cr (oS x 54)) (k+1+ah.aE a))else []
def cL:List ah→List D→Nat→List RE
 |[],_,_=>[]
 |t::l,L,k=>cT t (L.headD .nZ) k++cL l L.tail (k+t.nb)
end
theorem YA{t:ah}(h:(t.s.kind==18)=true)(x:D)(k:Nat):cT t x k=⟨oS x 53,oS x 54,eg t.th (k+1),eg t.el (k+1+ah.aE t.th)⟩::(cL t.th (Cr (oS x 53)) (k+1)++cL t.el (Cr (oS x 54)) (k+1+ah.aE t.th)):=by
 cases t with
 |mk s a b=>
  have h:(s.kind==18)=true:=h
  simp only[cT,h];rfl
theorem akj{t:ah}(h:(t.s.kind==18)=false)(x:D)(k:Nat):cT t x k=[]:=by
 cases t with
 |mk s a b=>
  have h:(s.kind==18)=false:=h
  simp only[cT,h];rfl
mutual
theorem PF:∀(t:ah)(x:D)(k:Nat),(cT t x k).length =t.nb
 | .mk s a b,x,k=>by
   simp only[cT,ah.nb]
   split
   ·rw[List.length_cons,List.length_append,oa a,oa b];omega
   ·rfl
theorem oa:∀(l:List ah)(L:List D)(k:Nat),(cL l L k).length =ah.aE l
 |[],_,_=>rfl
 |t::l,L,k=>by simp only[cL,ah.aE,List.length_append];rw[PF t,oa l]
end
theorem XB:∀{l:List ah}{L:List D}{i:Nat}{t:ah}{y:D}(k:Nat),l[i]? =some t→L[i]? =some y→cL (l.take (i+1)) L k=cL (l.take i) L k++cT t y (k+ah.aE (l.take i))
 |[],L,i,t,y,k,h,hy=>by simp at h
 |u::l,[],i,t,y,k,h,hy=>by simp at hy
 |u::l,z::L,0,t,y,k,h,hy=>by
  simp at h hy
  subst h hy
  simp[cL,ah.aE]
 |u::l,z::L,i+1,t,y,k,h,hy=>by
  have ih:=XB (l:=l) (L:=L) (i:=i) (t:=t) (y:=y) (k+u.nb) (by simpa using h) (by simpa using hy)
  simp only[List.take_succ_cons,cL,List.tail_cons,List.headD_cons,ih,ah.aE,List.append_assoc]
  rw[Nat.add_assoc]
theorem agO:oT Try.prog 91=some [.sl .nil 0 [],.sl .nil 0 [],.sl .nil 0 [],.sl .nil 0 []]:=by kernel_rfl
theorem adR:Nc Try.prog 91=some fun i=>[(0,1),(1,1),(2,1),(3,1)][i]? :=by kernel_rfl
theorem afc{x y:D}(hx:x.cells=[x])(hy:y.cells=[y]):dz Try.prog 91 [(0,x),(1,y)]=some (RE.enc ⟨x,y,[],[]⟩):=by
 unfold dz
 rw[agO,adR]
 simp[uZ,hx,hy]
 rfl
theorem aiZ(b:RE):bu 4 1 [(0,b.enc)]=true:=rfl
theorem RE.c2{a b:D}{i o:List Nat}(v:List Nat):(RE.cells ⟨a,b,i,o⟩).set 2 (.d (bB 1 (cQ v)))=RE.cells ⟨a,b,v,o⟩:=rfl
theorem RE.c3{a b:D}{i o:List Nat}(v:List Nat):(RE.cells ⟨a,b,i,o⟩).set 3 (.d (bB 1 (cQ v)))=RE.cells ⟨a,b,i,v⟩:=rfl
theorem TC.Ti{t:ah}{x:D}{c:List SV}{cD al yt ye:D}{Lt Le:List D}(h:TC t x c cD al yt ye Lt Le)(eU:na t x):oS x 53=yt∧oS x 54=ye:=by
 cases eU with
 |mk s th el r5 r6 cD al rest MC MD Lt' Le' hr hl ha ht he Mw EU kM j1=>
  have h1:=h.Iu
  have h2:=h.Iv
  have C2:(mF s r5 r6 cD al rest)[53]? =some MC:=ht
  have C3:(mF s r5 r6 cD al rest)[54]? =some MD:=he
  rw[wm _ 53 _ C2]at h1
  rw[wm _ 54 _ C3]at h2
  cases h1;cases h2
  simp only[oS,List.getD_eq_getElem?_getD,C2,C3]
  exact⟨rfl,rfl⟩
def Tj(ts:List ah):Prop:=∀{L:List D}{x:D}(out:List RE),aW 55 L x→fe ts L→de ts→out.length+ah.dE ts≤2^20→
 aG Try.prog gl 34 (pM 1 [.d x,mI out]) (.aJ [Ra out,mI (out++cL ts L out.length),aQ 1 (cQ (eg ts out.length))])
theorem acD(a:List Nat)(n:Nat):cQ a++[.int .i64 (n:Int)]=cQ (a++[n]):=by simp[cQ]
theorem TW(ts:List ah)(IH:∀js,ah.dE js<ah.dE ts→Tj js){L:List D}{x:D}(x1:SV)(out:List RE)(jb:oo x1=some (mI out))(hx:aW 55 L x)(hs:fe ts L)(cm:de ts)(aM:out.length+ah.dE ts≤2^20):
  body Try.prog gl (aG Try.prog gl) Me 34 [.d x,x1] (fun r=>r=.aJ [mI (out++cL ts L out.length),aQ 1 (cQ (eg ts out.length))]):=by
 have h0:=ah.tG ts
 have ct:ts.length≤maxLen:=Nat.le_trans (Nat.le_trans h0 cm.sz) (by decide)
 rw[aht]
 intro bJ
 simp only[jb,sS,sT,sZ]
 have e0:mI out=mI (out++cL (ts.take 0) L out.length):=by simp[cL]
 rw[e0]
 refine fV (fun i=>[.d x,mI (out++cL (ts.take i) L out.length),aQ 1 (cQ (eg (ts.take i) out.length)),.d (.int .i64 ((i:Nat):Int))]) (fun i=>[]) ts.length (fun i hi I hI=>?_) (fun I=>?_)
 ·simp only[hx.len,hs.len,sS,sT,sZ]
  refine And.intro (fun _=>?_) (fun h=>absurd h (by simp;omega))
  obtain⟨t,ht⟩:=get_some hi
  obtain⟨y,hy,eU⟩:=hs.at_ ht
  obtain⟨c,cD,al,yt,ye,Lt,Le,hc⟩:=eU.out
  obtain⟨zR,v9⟩:=hc.Ti eU
  have hz:=ah.AA ht
  have Bb:=t.Ag
  have fW:=ah.OA ht
  have qv:=cm.th (List.mem_of_getElem? ht)
  have ck:=XB out.length ht hy
  have mR:=adQ ht out.length
  rw[ck,mR]at hI
  have hlen:(out++cL (ts.take i) L out.length).length =out.length+ah.aE (ts.take i):=by rw[List.length_append,oa]
  simp only[hx.at hy,km,hc.l0,eQ,sS,sT,sZ]
  refine And.intro (fun hk=>?_) (fun hk=>?_)
  ·have bU:(t.s.kind==18)=false:=by simpa[bne]using hk
   rw[akj bU,bU]at hI
   simp only[List.append_nil,Bool.false_eq_true,if_false]at hI
   refine aU (br hi ct) ?_
   exact hI
  have bU:(t.s.kind==18)=true:=by simpa[bne]using hk
  rw[YA bU,bU,zR,v9,hc.jN.el,hc.fU.el]at hI
  simp only[if_true]at hI
  rw[←hlen]at hI
  generalize ho:out++cL (ts.take i) L out.length=o at hI hlen ⊢
  refine tC [.d x,mI o,aQ 1 (cQ (eg (ts.take i) out.length)),.d (.int .i64 ((i:Nat):Int)),.d (.int .i64 (o.length:Int))] [] (fun J lz=>?_) ?_
  ·refine XA (fun bf=>?_) (fun he=>?_)
   ·simp only[O6,OE,ym,sS,sT,sZ]
    rw[←Yz bf]
    exact lz
   ·subst he
    exact lz
  ·have rJ:o.length≤2^20:=by omega
   have xI:=OF (ts.take i) out.length
   simp only[dG,jx,JT,Ao,sS,sT,sZ]
   refine⟨rfl,gN (wh _) (by simp only[nq,List.length_singleton];omega) ?_⟩
   simp only[hx.at hy,km,hc.Iu,hc.Iv,dG,jx,afc hc.jN.Zb hc.fU.Zb,aiZ,Ao,acD,sS,sT,sZ]
   refine agN (by omega) ?_
   have Fj:o++[RE.mk yt ye [] []]≠[]:=by simp
   have Rb:(o++[RE.mk yt ye [] []]).length =o.length+1:=by simp
   have H1:=IH t.th (by omega) (o++[RE.mk yt ye [] []]) hc.jN hc.kM qv.1 (by rw[Rb];omega)
   rw[Kd Fj,Rb]at H1
   refine w8 H1 (by rw[O7,Kd Fj];rfl) ?_
   have hnn:=ah.qQ t.th
   have Z2:o++[RE.mk yt ye [] []]++cL t.th Lt (o.length+1)≠[]:=by simp
   have Hw:(o++[RE.mk yt ye [] []]++cL t.th Lt (o.length+1)).length =o.length+1+ah.aE t.th:=by rw[List.length_append,oa,Rb]
   have H2:=IH t.el (by omega) (o++[RE.mk yt ye [] []]++cL t.th Lt (o.length+1)) hc.fU hc.j1 qv.2 (by rw[Hw];omega)
   rw[Kd Z2,Hw]at H2
   refine w8 H2 (by rw[O7,Kd Z2];rfl) ?_
   have amC:o++[RE.mk yt ye [] []]++cL t.th Lt (o.length+1)++cL t.el Le (o.length+1+ah.aE t.th)≠[]:=by simp
   have rO:(o++[RE.mk yt ye [] []]++cL t.th Lt (o.length+1)++cL t.el Le (o.length+1+ah.aE t.th))[o.length]? =some (RE.mk yt ye [] []):=by simp
   have eW:(o++[RE.mk yt ye [] []]++cL t.th Lt (o.length+1)++cL t.el Le (o.length+1+ah.aE t.th)).set o.length (RE.mk yt ye (eg t.th (o.length+1)) [])=o++[RE.mk yt ye (eg t.th (o.length+1)) []]++cL t.th Lt (o.length+1)++cL t.el Le (o.length+1+ah.aE t.th):=by simp
   have amD:(o++[RE.mk yt ye (eg t.th (o.length+1)) []]++cL t.th Lt (o.length+1)++cL t.el Le (o.length+1+ah.aE t.th))[o.length]? =some (RE.mk yt ye (eg t.th (o.length+1)) []):=by simp
   have akk:(o++[RE.mk yt ye (eg t.th (o.length+1)) []]++cL t.th Lt (o.length+1)++cL t.el Le (o.length+1+ah.aE t.th)).set o.length (RE.mk yt ye (eg t.th (o.length+1)) (eg t.el (o.length+1+ah.aE t.th)))=o++[RE.mk yt ye (eg t.th (o.length+1)) (eg t.el (o.length+1+ah.aE t.th))]++cL t.th Lt (o.length+1)++cL t.el Le (o.length+1+ah.aE t.th):=by simp
   have ml:o++[RE.mk yt ye (eg t.th (o.length+1)) (eg t.el (o.length+1+ah.aE t.th))]++cL t.th Lt (o.length+1)++cL t.el Le (o.length+1+ah.aE t.th)=o++(RE.mk yt ye (eg t.th (o.length+1)) (eg t.el (o.length+1+ah.aE t.th))::(cL t.th Lt (o.length+1)++cL t.el Le (o.length+1+ah.aE t.th))):=by simp
   have gk:=Yy 2 (bB 1 (cQ (eg t.th (o.length+1)))) _ _ o.length _ rO (by omega) (RE.c2 _)
   rw[eW]at gk
   have lR:=Yy 3 (bB 1 (cQ (eg t.el (o.length+1+ah.aE t.th)))) _ _ o.length _ amD (by omega) (RE.c3 _)
   rw[akk,ml]at lR
   rw[←List.append_assoc,ho]at hI
   rw[←ml]at hI lR
   generalize SF:o++[RE.mk yt ye [] []]++cL t.th Lt (o.length+1)++cL t.el Le (o.length+1+ah.aE t.th)=o1 at*
   have rD:o1.length=o.length+1+ah.aE t.th+ah.aE t.el:=by rw[←SF,List.length_append,Hw,oa]
   refine XA (fun _=>?_) (fun he=>absurd he amC)
   have lJ:cN (.d (.int .i64 (o.length:Int))) (gZ o1).length =some o.length:=je (by rw[ym];omega)
   have rG:(o++[RE.mk yt ye (eg t.th (o.length+1)) (eg t.el (o.length+1+ah.aE t.th))]++cL t.th Lt (o.length+1)++cL t.el Le (o.length+1+ah.aE t.th)).length =o1.length:=by
    rw[rD,List.length_append,List.length_append,oa,oa];simp
   have hfn:o++[RE.mk yt ye (eg t.th (o.length+1)) (eg t.el (o.length+1+ah.aE t.th))]++cL t.th Lt (o.length+1)++cL t.el Le (o.length+1+ah.aE t.th)≠[]:=by simp
   have hg:=OE (o++[RE.mk yt ye (eg t.th (o.length+1)) (eg t.el (o.length+1+ah.aE t.th))]++cL t.th Lt (o.length+1)++cL t.el Le (o.length+1+ah.aE t.th))
   rw[rG]at hg
   rw[ym]at lJ
   simp only[lJ,ez,Bv,gk,lR,O6,Yx,ym,hg,sS,sT,sZ]
   refine⟨rfl,by omega,rfl,?_,?_⟩
   ·rw[List.length_append,List.length_append,oa,oa];simp only[List.length_append,List.length_singleton];omega
   ·refine aU (br hi ct) ?_
    rw[←Yz hfn]
    exact hI
 ·simp only[hx.len,hs.len,sS,sT,sZ]
  refine And.intro (fun h=>absurd h (by simp)) (fun _=>?_)
  rw[List.take_length]
  exact⟨VQ _,kS _ _,rfl⟩
theorem aaD(ts:List ah):Tj ts:=by
 have key:∀n ts,ah.dE ts<n→Tj ts:=by
  intro n
  induction n with
  |zero=>intro ts h;omega
  |succ n ih=>
   intro ts h L x out hx hs cm aM
   rw[←O7]
   refine FE bG (cb (fn:=Try.f34) (by kernel_rfl) (by kernel_rfl) (by kernel_rfl)) (hh:=Me) (by simp[SV.iB,VQ,SV.aD]) rfl (fun r hr=>?_) (TW ts (fun js h'=>ih js (by omega)) (mI out) out (agM out) hx hs cm aM)
   simp at hr;rcases hr with rfl|rfl
   ·exact adP _
   ·exact ka _ _
 exact fun{L x}=>key _ ts (Nat.lt_succ_self _)
theorem Ty{ts:List ah}{L:List D}{x:D}(hx:aW 55 L x)(hs:fe ts L)(cm:de ts)(aM:ah.dE ts≤2^20):aG Try.prog gl 34 [.d x,.d (.sl .nil 0 [])] (.aJ [mI (cL ts L 0),aQ 1 (cQ (eg ts 0))]):=by
 refine cM bG (cb (fn:=Try.f34) (by kernel_rfl) (by kernel_rfl) (by kernel_rfl)) (h:=Me) ?_
 exact TW ts (fun js _=>fun{L x}=>aaD js) (.d (.sl .nil 0 [])) [] rfl hx hs cm (by simpa using aM)
theorem aaE{m:bg}{d:D}(hd:lj m d)(h:de m.ay):aG Try.prog gl 14 [.d d] (.d (.int .i64 (ah.aE m.ay:Int))):=by
 cases hd with
 |mk xs L hx hs=>
  refine cM bG (cb (fn:=Try.f14) (by kernel_rfl) (by kernel_rfl) (by kernel_rfl)) (h:=ZL) ?_;rw[agL];intro bJ
  simp only[BI,AR,DA,sS,sT,sZ]
  refine call2 (Ty hx hs h (Nat.le_trans h.sz (by decide))) ?_
  simp only[Xz,sS,sT,sZ]
  have hl:(gZ (cL m.ay L 0)).length =ah.aE m.ay:=by rw[ym,oa]
  simp only[ez,(cK 4 (gZ (cL m.ay L 0))).len,hl,sS,sT,sZ]
end Go.Proofs.Ytimbllcalipehaa.Ab
namespace Go.Proofs.Ytimbllcalipehaa.Ab
open Go
set_option linter.unusedVariables false
set_option maxRecDepth 4000
mutual
def qw:ah→Nat→List Bool→List Bool→List Bool
 | .mk s a b,k,mk,out=>if s.kind==18 then(if mk.getD k false then qz a (k+1) mk (out.set k true)else qz b (k+1+ah.aE a) mk (out.set k true))else out
def qz:List ah→Nat→List Bool→List Bool→List Bool
 |[],_,_,out=>out
 |t::l,k,mk,out=>qz l (k+t.nb) mk (qw t k mk out)
end
theorem XC{t:ah}(h:(t.s.kind==18)=true)(k:Nat)(mk out:List Bool):qw t k mk out=if mk.getD k false then qz t.th (k+1) mk (out.set k true)else qz t.el (k+1+ah.aE t.th) mk (out.set k true):=by
 cases t with
 |mk s a b=>
  have h:(s.kind==18)=true:=h
  simp only[qw,h,if_true];rfl
theorem YB{t:ah}(h:(t.s.kind==18)=false)(k:Nat)(mk out:List Bool):qw t k mk out=out:=by
 cases t with
 |mk s a b=>
  have h:(s.kind==18)=false:=h
  simp only[qw,h];rfl
mutual
theorem O8:∀(t:ah)(k:Nat)(mk out:List Bool),(qw t k mk out).length =out.length
 | .mk s a b,k,mk,out=>by
   simp only[qw]
   split
   ·split
    ·rw[Gp a];simp
    ·rw[Gp b];simp
   ·rfl
theorem Gp:∀(l:List ah)(k:Nat)(mk out:List Bool),(qz l k mk out).length =out.length
 |[],_,_,_=>rfl
 |t::l,k,mk,out=>by rw[qz,Gp l,O8 t]
end
def oF:List ah→Nat→List (ah×Nat)
 |[],_=>[]
 |t::l,k=>(if t.s.kind==18 then [(t,k)]else [])++oF l (k+t.nb)
theorem OG:∀(l:List ah)(k:Nat),(oF l k).map Prod.snd=eg l k
 |[],_=>rfl
 |t::l,k=>by
  rw[oF,eg,List.map_append,OG l]
  split<;>rfl
theorem WI:∀(l:List ah)(k:Nat)(mk out:List Bool),qz l k mk out=(oF l k).foldl (fun o p=>qw p.1 p.2 mk o) out
 |[],_,_,_=>rfl
 |t::l,k,mk,out=>by
  rw[qz,oF,List.foldl_append,WI l]
  by_cases h:(t.s.kind==18)=true
  ·rw[if_pos h];rfl
  ·rw[if_neg h,YB (by simpa using h)];rfl
def tq{α:Type}(all:List α)(k:Nat)(l:List α):Prop:=∀j,j<l.length→all[k+j]? =l[j]?
theorem tq.app{α:Type}{all:List α}{k:Nat}{a b:List α}(h:tq all k (a++b)):tq all k a∧tq all (k+a.length) b:=by
 refine⟨fun j hj=>?_,fun j hj=>?_⟩
 ·rw[h j (by rw[List.length_append];omega),List.getElem?_append_left hj]
 ·rw[Nat.add_assoc,h (a.length+j) (by rw[List.length_append];omega),List.getElem?_append_right (by omega)]
  congr 1;omega
theorem tq.self{α:Type}(l:List α):tq l 0 l:=fun j _=>by rw[Nat.zero_add]
theorem XD:∀{l:List ah}{L:List D}{k:Nat}{all:List RE},fe l L→tq all k (cL l L k)→∀{i:Nat}{t:ah}{kk:Nat},(oF l k)[i]? =some (t,kk)→
  ∃y,na t y∧tq all kk (cT t y kk)∧kk+t.nb≤k+ah.aE l∧t.sz≤ah.dE l∧(t.s.kind==18)=true∧t∈l
 |[],_,k,all,h,hs,i,t,kk,hi=>by simp[oF]at hi
 |u::l,_,k,all,h,hs,i,t,kk,hi=>by
  cases h with
  |cons _ x _ L h hl=>
   simp only[cL,List.headD_cons,List.tail_cons]at hs
   obtain⟨gk,lR⟩:=hs.app
   rw[PF]at lR
   rw[oF]at hi
   have rest:∀{j:Nat},(oF l (k+u.nb))[j]? =some (t,kk)→∃y,na t y∧tq all kk (cT t y kk)∧kk+t.nb≤k+ah.aE (u::l)∧t.sz≤ah.dE (u::l)∧(t.s.kind==18)=true∧t∈u::l:=fun hj=>by
    obtain⟨y,h1,h2,h3,h4,h5,h6⟩:=XD hl lR hj
    refine⟨y,h1,h2,?_,?_,h5,List.mem_cons_of_mem _ h6⟩
    ·simp only[ah.aE];omega
    ·simp only[ah.dE];omega
   by_cases hk:(u.s.kind==18)=true
   ·rw[if_pos hk]at hi
    cases i with
    |zero=>
     simp at hi
     obtain⟨rfl,rfl⟩:=hi
     exact⟨x,h,gk,by simp only[ah.aE];omega,by simp only[ah.dE];omega,hk,by simp⟩
    |succ i=>exact rest (j:=i) (by simpa using hi)
   ·rw[if_neg hk]at hi
    exact rest (j:=i) (by simpa using hi)
theorem DJ:∀(l:List Bool),dK (bc (cj l))=some (cj l)
 |[]=>rfl
 |b::l=>by
  have h1:bc (cj (b::l))=[SV.d (.bool b)]++bc (cj l):=rfl
  have h2:cj (b::l)=[D.bool b]++cj l:=rfl
  rw[h1,h2];exact FF [D.bool b] (DJ l)
theorem Ke:∀(l:List Bool),bc (cj l)=(cj l).map .d
 |[]=>rfl
 |b::l=>by
  have h1:bc (cj (b::l))=[SV.d (.bool b)]++bc (cj l):=rfl
  rw[h1,Ke l];rfl
theorem O9(l:List Bool):(bc (cj l)).length =l.length:=by rw[Ke,List.length_map,sc]
theorem JX:∀(l:List Bool),eR false 1 l.length (cj l)=some (cj l)
 |[]=>rfl
 |b::l=>by
  have ih:=JX l
  have h2:cj (b::l)=D.bool b::cj l:=rfl
  rw[h2,List.length_cons,eR]
  simp only[List.drop_succ_cons,List.drop_zero,ih,List.length_cons,Nat.le_add_left,if_true]
  rfl
theorem GJ(l:List Bool)(k:Nat)(b:Bool):setAt (bc (cj l)) (k*1) [.d (.bool b)]=bc (cj (l.set k b)):=by
 rw[Ke,Ke,Nat.mul_one]
 simp only[setAt,cj,List.map_set]
theorem PG(n:Nat):List.replicate n (D.bool false)=cj (List.replicate n false):=by simp[cj]
theorem cb1(b:Bool):List.map SV.d (D.bool b).cells =[.d (.bool b)]:=rfl
theorem ai0(n:Int):aI false 1 (.aX (.int .i64 n) 0)=some (.d (.int .i64 n)):=rfl
theorem Eb{P:Program}{gl:Nat→Option D}{f:FuncId}{args:List SV}{bk y:SV}{r:SV}{k:SV→SV→Prop}(hH:aG P gl f args (.aJ [bk,r]))(hd:aa bk=y)(hk:k r bk):∃a b,aG P gl f args (.aJ [b,a])∧aa b=y∧k a b:=⟨r,bk,hH,hd,hk⟩
theorem KX(b:RE):aI false 1 (.aX b.enc 0)=some (.d b.ya):=wm _ 0 _ rfl
theorem Qf(b:RE):aI false 1 (.aX b.enc 1)=some (.d b.yb):=wm _ 1 _ rfl
theorem akl(b:RE):aI false 1 (.aX b.enc 2)=some (.d (bB 1 (cQ b.inn))):=wm _ 2 _ rfl
theorem akm(b:RE):aI false 1 (.aX b.enc 3)=some (.d (bB 1 (cQ b.out))):=wm _ 3 _ rfl
def MN(ts:List ah):Prop:=∀{L:List D}{x y z:D}(k:Nat)(all:List RE)(mk out:List Bool),fe ts L→tq all k (cL ts L k)→aW 4 (gZ all) x→aW 1 (cQ (eg ts k)) y→aW 1 (cj mk) z→k+ah.aE ts≤all.length→mk.length=all.length→out.length=all.length→all.length≤2^20→
 aG Try.prog gl 35 (pM 3 [.d x,.d y,.d z,.aZ 1 (cj out)]) (.aJ [.undef,.aZ 1 (cj (qz ts k mk out))])
theorem aa0(ts:List ah)(IH:∀js,ah.dE js<ah.dE ts→MN js):MN ts:=by
 intro L x y z k all mk out hs amE hx hy hz hk tm rJ EL
 have xI:(eg ts k).length =(oF ts k).length :=by rw[←OG,List.length_map]
 have ct:(oF ts k).length ≤maxLen:=by
  have:=OF ts k
  rw[xI]at this
  exact Nat.le_trans (by omega:(oF ts k).length ≤2^20) (by decide)
 refine FE bG (cb (fn:=Try.f35) (by kernel_rfl) (by kernel_rfl) (by kernel_rfl)) (hh:=h35) (p:=3) (y:=.aZ 1 (cj out)) (rs:=[.aZ 1 (cj (qz ts k mk out))]) (by rfl) rfl (fun r hr=>by simp at hr;subst hr;rfl) ?_
 rw[ahu]
 intro bJ
 simp only[sS,sT,sZ]
 have e0:cj out=cj (((oF ts k).take 0).foldl (fun o p=>qw p.1 p.2 mk o) out):=rfl
 rw[e0]
 refine fV (fun i=>[.d x,.d y,.d z,.aZ 1 (cj (((oF ts k).take i).foldl (fun o p=>qw p.1 p.2 mk o) out)),.d (.int .i64 ((i:Nat):Int))]) (fun i=>[]) (oF ts k).length (fun i hi I hI=>?_) (fun I=>?_)
 ·have fA:=hi
  obtain⟨⟨t,kk⟩,hp⟩:=get_some hi
  obtain⟨yt,eU,Tk,hle,aM,pY,eL⟩:=XD hs amE hp
  have hd:(eg ts k)[i]? =some kk:=by rw[←OG,List.getElem?_map,hp];rfl
  rw[dX hp,List.foldl_append]at hI
  simp only[List.foldl_cons,List.foldl_nil]at hI
  have Hw:(((oF ts k).take i).foldl (fun o p=>qw p.1 p.2 mk o) out).length =all.length:=by
   have:∀(l:List (ah×Nat))(o:List Bool),(l.foldl (fun o p=>qw p.1 p.2 mk o) o).length =o.length:=by
    intro l
    induction l with
    |nil=>intro o;rfl
    |cons p l ih=>intro o;rw[List.foldl_cons,ih,O8]
   rw[this];exact rJ
  generalize ((oF ts k).take i).foldl (fun o p=>qw p.1 p.2 mk o) out=o at hI Hw ⊢
  obtain⟨c,cD,al,ya,yb,La,Lb,hc⟩:=eU.out
  obtain⟨zR,v9⟩:=hc.Ti eU
  rw[YA pY,zR,v9,hc.jN.el,hc.fU.el]at Tk
  rw[XC pY]at hI
  have fW:t.nb=1+ah.aE t.th+ah.aE t.el:=by rw[t.D9,if_pos pY]
  have Bb:=t.Ag
  have HO:kk<all.length:=by omega
  have rO:all[kk]? =some (RE.mk ya yb (eg t.th (kk+1)) (eg t.el (kk+1+ah.aE t.th))):=by
   have:=Tk 0 (by simp)
   simpa using this
  have amF:tq all (kk+1) (cL t.th La (kk+1)++cL t.el Lb (kk+1+ah.aE t.th)):=fun j hj=>by
   have:=Tk (j+1) (by simpa using hj)
   rw[show kk+1+j=kk+(j+1) by omega,this];rfl
  obtain⟨hsa,LX⟩:=amF.app
  rw[oa]at LX
  obtain⟨b,hb⟩:=get_some (show kk<mk.length by omega)
  have LQ:mk.getD kk false=b:=by rw[List.getD_eq_getElem?_getD,hb];rfl
  rw[LQ]at hI
  simp only[hy.len,nq,xI,sS,sT,sZ]
  refine And.intro (fun _=>?_) (fun h=>absurd h (by simp;omega))
  have lJ:cN (.d (.int .i64 (kk:Int))) o.length=some kk:=je (by omega)
  simp only[hy.at (BQ hd),ai0,sS,sT,sZ]
  refine⟨rfl,?_⟩
  have hg:=JX (o.set kk true)
  rw[List.length_set]at hg
  simp only[sc,lJ,cb1,GJ,DJ,O9,hg,hz.at (sj hb),yi,hx.at (GI rO),km,akl,akm,sS,sT,sZ]
  refine⟨rfl,by omega,?_⟩
  rw[show List.map SV.d (D.bool true).cells =[.d (.bool true)] from rfl,GJ,DJ]
  simp only[hg,sS,sT,sZ]
  refine And.intro (fun hbt=>?_) (fun hbf=>?_)
  ·subst hbt
   have H:=IH t.th (by omega) (kk+1) all mk (o.set kk true) hc.kM hsa hx (cK 1 _) hz (by omega) tm (by rw[List.length_set];omega) EL
   refine Eb H rfl ?_
   refine aU (br hi ct) ?_
   exact hI
  ·subst hbf
   have H:=IH t.el (by omega) (kk+1+ah.aE t.th) all mk (o.set kk true) hc.j1 LX hx (cK 1 _) hz (by omega) tm (by rw[List.length_set];omega) EL
   refine Eb H rfl ?_
   refine aU (br hi ct) ?_
   exact hI
 ·simp only[hy.len,nq,xI,sS,sT,sZ]
  refine And.intro (fun h=>absurd h (by simp)) (fun _=>?_)
  rw[List.take_length,←WI]
  exact⟨rfl,rfl⟩
theorem TI(ts:List ah):MN ts:=by
 have key:∀n ts,ah.dE ts<n→MN ts:=by
  intro n
  induction n with
  |zero=>intro ts h;omega
  |succ n ih=>exact fun ts h=>aa0 ts fun js h'=>ih js (by omega)
 exact fun{L x y z}=>key _ ts (Nat.lt_succ_self _)
end Go.Proofs.Ytimbllcalipehaa.Ab
