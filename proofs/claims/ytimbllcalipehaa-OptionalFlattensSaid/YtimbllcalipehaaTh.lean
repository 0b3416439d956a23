/-
  ORDERS: what is there; the next one in a cycle.
-/
import Derived.Test.YtimbllcalipehaaTg
import Derived.Test.YtimbllcalipehaaTf
set_option linter.unusedVariables false
set_option linter.unusedSimpArgs false
namespace Go.Proofs.Ytimbllcalipehaa.Ab
open Go
set_option maxRecDepth 4000
theorem QS{α:Type}{F:List SV→List (List SV)→(List SV→List (List SV)→Prop)→Prop}(μ:α→Nat)(J:α→Prop)(st:α→List SV)(sb:α→List (List SV))
  (jt:∀a,J a→∀I:List SV→List (List SV)→Prop,(∀a',J a'→μ a'<μ a→I (st a') (sb a'))→F (st a) (sb a) I)(a:α)(ha:J a):bZ F (st a) (sb a):=by
 intro I hI
 have key:∀n a,μ a<n→J a→I (st a) (sb a):=by
  intro n
  induction n with
  |zero=>intro a h;omega
  |succ n ih=>exact fun a h hj=>hI _ _ (jt a hj I fun a' po hm=>ih a' (by omega) po)
 exact key (μ a+1) a (by omega) ha
def bL(b:List Bool):List SV:=b.map fun v=>.d (.bool v)
def l9(b:List Bool):SV:=.dg b.length 1 (bL b)
theorem amq(b:List Bool):(bL b).length =b.length:=List.length_map ..
theorem abX{b:List Bool}{i:Nat}{v:Bool}(h:b[i]? =some v):(bL b)[i]? =some (.d (.bool v)):=by simp[bL,h]
theorem aba(b:List Bool):(bL b).map aa=bL b:=by simp[bL,aa]
theorem Bu(b:List Bool):aa (l9 b)=l9 b:=rfl
theorem RX{b:List Bool}{i:Nat}(hi:i<b.length):aJ 1 (l9 b) (.d (.int .i64 (i:Int)))=some (.ref (bL b) (i*1)):=by
 have h1:da (.d (.int .i64 (i:Int))) b.length=some i:=jJ hi
 simp only[aJ,l9,h1,if_true]
theorem Sv{b:List Bool}{i:Nat}{v:Bool}(h:b[i]? =some v):aH false 1 (.ref (bL b) (i*1))=some (.d (.bool v)):=by
 simp only[aH,ai,cond_false,Nat.mul_one,abX h,aa]
theorem abY(b:List Bool):aH false 1 (.ref [l9 b] 0)=some (l9 b):=rfl
theorem Zk(b:List Bool):aE (l9 b)=some [l9 b]:=rfl
def nd(b:List Bool)(k:Nat):Bool:= !b.getD k false
theorem Iu{b:List Bool}{k:Nat}{v:Bool}(h:b[k]? =some v):nd b k= !v:=by simp[nd,h]
theorem ad1(b:List Bool){k:Nat}(hk:k<b.length):aF Try.prog gl 59 [.d (.int .i64 (k:Int)),.ref [l9 b] 0] (.d (.bool (nd b k))):=by
 obtain⟨v,hv⟩:=get_some hk
 refine a8 (alT ..) fun br=>?_
 simp only[LC,abY,Bu,RX hk,Sv hv,iJ,Iu hv,sS,sT]
theorem ad2(b:List Bool){k:Nat}(hk:k<b.length):aF Try.prog gl 63 [.d (.int .i64 (k:Int)),.ref [l9 b] 0] (.d (.bool (nd b k))):=by
 obtain⟨v,hv⟩:=get_some hk
 refine a8 (alU ..) fun br=>?_
 simp only[LC,abY,Bu,RX hk,Sv hv,iJ,Iu hv,sS,sT]
theorem Mw(k:Int):aH false 1 (.aX (.int .i64 k) 0)=some (.d (.int .i64 k)):=rfl
theorem Wy(b:List Bool)(f:FuncId)(hf:∀{k:Nat},k<b.length→aF Try.prog gl f [.d (.int .i64 (k:Int)),.ref [l9 b] 0] (.d (.bool (nd b k))))(l:List Nat){x:D}(hx:aL 1 (db l) x)(hl:l.length≤maxLen)(hb:∀k∈l,k<b.length):
  aF Try.prog gl 62 [.d x,.ef (.func f) [] [.ref [l9 b] 0]] (.d (.int .i64 (orM (first (nd b) l)))):=by
 refine a8 (ald ..) fun br=>?_
 simp only[sS,sT,hx.len,oa]
 refine n9 (fun i=>∀(j:Nat)k,j<i→l[j]? =some k→nd b k=false) (fun i=>[.d x,.ef (.func f) [] [.ref [l9 b] 0],.d (.int .i64 (l.length:Int)),.d (.int .i64 ((i:Nat):Int))]) (fun i=>[]) l.length (fun j k hj _=>by omega) (fun i hi hJ I hI=>?_) (fun hJ I=>?_)
 ·simp only[sS,sT,Bo]
  refine And.intro (fun _=>?_) (fun h=>absurd h (by simp;omega))
  obtain⟨t,ht⟩:=get_some hi
  simp only[hx.at (CW ht),Mw,WU,List.nil_append,List.cons_append,sS]
  refine eD (hf (hb t (List.mem_of_getElem? ht))) ?_
  simp only[sS]
  refine And.intro (fun h=>?_) (fun h=>?_)
  ·rw[xF ht (by simpa using h) hJ];rfl
  ·refine aS (bf hi hl) ?_
   refine hI fun j k' hj bY=>?_
   rcases Nat.lt_or_ge j i with h2|h2
   ·exact hJ j k' h2 bY
   ·have:j=i:=by omega
    subst this
    rw[ht]at bY
    cases bY
    simpa using h
 ·simp only[sS,sT]
  refine And.intro (fun h=>absurd h (by simp)) (fun _=>?_)
  rw[xu fun j k bY=>hJ j k (List.getElem?_eq_some_iff.1 bY).1 bY]
  rfl
def Kh(b:List Bool)(l:List Nat):Bool:=l.all fun k=>b.getD k false
theorem Z7(b:List Bool)(l:List Nat):Kh b l= !l.any (nd b):=by
 rw[Kh,List.any_eq_not_all_not,Bool.not_not]
 simp[nd]
theorem aeF(b:List Bool)(l:List Nat){x:D}(hx:aL 1 (db l) x)(hl:l.length≤maxLen)(hb:∀k∈l,k<b.length):aF Try.prog gl 40 [.d x,l9 b] (.d (.bool (Kh b l))):=by
 have On:aF Try.prog gl 58 [.d x,.ef (.func 59) [] [.ref [l9 b] 0]] (.d (.bool (l.any (nd b)))):=by
  refine a8 (ala ..) fun br=>?_
  simp only[sS,Bo]
  refine eD (Wy b _ (fun hk=>ad1 b hk) l hx hl hb) ?_
  have sV:=Lg (nd b) l
  simp only[sS,sT,Bt,sV]
 refine a8 (alN ..) fun br=>?_
 simp only[Bu,Zk,List.map_cons,List.map_nil,sS]
 refine⟨rfl,?_⟩
 refine eD On ?_
 simp only[iJ,Z7,sS,sT]
theorem ad3(b:List Bool)(hl:b.length≤maxLen):aF Try.prog gl 60 [l9 b,.d (.bool false)] (.d (.int .i64 (orM (first (fun v=> !v) b)))):=by
 refine a8 (alb ..) fun br=>?_
 have hlen:ba (l9 b)=some (.d (.int .i64 (b.length:Int))):=rfl
 simp only[Bu,hlen,sS,sT]
 refine n9 (fun i=>∀(j:Nat)k,j<i→b[j]? =some k→(!k)=false) (fun i=>[l9 b,.d (.bool false),.d (.int .i64 (b.length:Int)),.d (.int .i64 ((i:Nat):Int))]) (fun i=>[]) b.length (fun j k hj _=>by omega) (fun i hi hJ I hI=>?_) (fun hJ I=>?_)
 ·simp only[Bu,sS,sT]
  refine And.intro (fun _=>?_) (fun h=>absurd h (by simp;omega))
  obtain⟨t,ht⟩:=get_some hi
  have e1:aj (some (false,[.bool])) .eql (.d (.bool false)) (.d (.bool t))=some (.d (.bool (!t))):=by cases t<;>rfl
  simp only[RX hi,Sv ht,LC,e1,sS]
  refine And.intro (fun h=>?_) (fun h=>?_)
  ·rw[xF ht (by simpa using h) hJ];rfl
  ·refine aS (bf hi hl) ?_
   refine hI fun j k' hj bY=>?_
   rcases Nat.lt_or_ge j i with h2|h2
   ·exact hJ j k' h2 bY
   ·have:j=i:=by omega
    subst this
    rw[ht]at bY
    cases bY
    simpa using h
 ·simp only[sS,sT]
  refine And.intro (fun h=>absurd h (by simp)) (fun _=>?_)
  rw[xu fun j k bY=>hJ j k (List.getElem?_eq_some_iff.1 bY).1 bY]
  rfl
theorem Wz(l:List Nat)(a:Nat){x:D}(hx:aL 1 (db l) x)(hl:l.length≤maxLen):aF Try.prog gl 64 [.d x,.d (.int .i64 (a:Int))] (.d (.int .i64 (orM (first (fun k=>k==a) l)))):=by
 refine a8 (ale ..) fun br=>?_
 simp only[sS,sT,hx.len,oa]
 refine n9 (fun i=>∀(j:Nat)k,j<i→l[j]? =some k→(k==a)=false) (fun i=>[.d x,.d (.int .i64 (a:Int)),.d (.int .i64 (l.length:Int)),.d (.int .i64 ((i:Nat):Int))]) (fun i=>[]) l.length (fun j k hj _=>by omega) (fun i hi hJ I hI=>?_) (fun hJ I=>?_)
 ·simp only[sS,sT]
  refine And.intro (fun _=>?_) (fun h=>absurd h (by simp;omega))
  obtain⟨t,ht⟩:=get_some hi
  have e1:((a:Int)==(t:Int))=(t==a):=by
   by_cases h:t=a
   ·subst h;simp
   ·rw[beq_eq_false_iff_ne.2 h,beq_eq_false_iff_ne.2 (by omega)]
  simp only[hx.at (CW ht),Mw,j4,e1,sS]
  refine And.intro (fun h=>?_) (fun h=>?_)
  ·rw[xF ht (by simpa using h) hJ];rfl
  ·refine aS (bf hi hl) ?_
   refine hI fun j k' hj bY=>?_
   rcases Nat.lt_or_ge j i with h2|h2
   ·exact hJ j k' h2 bY
   ·have:j=i:=by omega
    subst this
    rw[ht]at bY
    cases bY
    simpa using h
 ·simp only[sS,sT]
  refine And.intro (fun h=>absurd h (by simp)) (fun _=>?_)
  rw[xu fun j k bY=>hJ j k (List.getElem?_eq_some_iff.1 bY).1 bY]
  rfl
theorem adm(l:List Nat)(a:Nat){x:D}(hx:aL 1 (db l) x)(hl:l.length≤maxLen):aF Try.prog gl 61 [.d x,.d (.int .i64 (a:Int))] (.d (.bool (l.any fun k=>k==a))):=by
 refine a8 (alc ..) fun br=>?_
 simp only[sS]
 refine eD (Wz l a hx hl) ?_
 have sV:=Lg (fun k=>k==a) l
 simp only[sS,sT,Bt,sV]
def nxt(N:Nat→List Nat)(b:List Bool)(a:Nat):Nat:=((N a).find? (nd b)).getD 0
def Cq(N:Nat→List Nat)(b:List Bool):Nat→List Nat→Nat→List Nat
 |0,_,_=>[]
 |f+1,path,a=>match first (fun k=>k==a) path with|some k=>path.drop k|none=>Cq N b f (path++[a]) (nxt N b a)
structure Sw(n:Nat)(N:Nat→List Nat)(b:List Bool):Prop where
 len:b.length=n
 some_:∀a,a<n→nd b a=true→∃k∈N a,nd b k=true
 lt:∀a,a<n→∀k∈N a,k<n
theorem LG:∀(n:Nat){l:List Nat},l.Nodup→(∀k∈l,k<n)→l.length≤n
 |0,l,_,h=>by
  cases l with
  |nil=>simp
  |cons a l=>exact absurd (h a (by simp)) (by omega)
 |n+1,l,hn,h=>by
  by_cases hm:n∈l
  ·have h1:=LG n (l:=l.erase n) (hn.erase n) (fun k hk=>by
    have:=(hn.mem_erase_iff).1 hk
    have:=h k this.2
    omega)
   have h2:=List.length_erase_of_mem hm
   omega
  ·have:=LG n hn (fun k hk=>by
    have h1:=h k hk
    have h2:k≠n:=fun he=>hm (he▸hk)
    omega)
   omega
theorem afD{p:Nat→Bool}{l:List Nat}{k:Nat}(h:first p l=some k):∃x,l[k]? =some x∧l.find? p=some x∧p x=true:=by
 obtain⟨x,h1,h2,h3⟩:=P0 h
 refine⟨x,h1,?_,h2⟩
 rw[List.find?_eq_some_iff_getElem]
 have hk:=(List.getElem?_eq_some_iff.1 h1)
 refine⟨h2,k,hk.1,hk.2,fun j hj=>?_⟩
 have lg:j<l.length:=by have:=hk.1;omega
 have:=h3 j l[j] hj (by simp)
 simp[this]
structure Cr(n:Nat)(N:Nat→List Nat)(b:List Bool)(R:List Nat)(s:List Nat×Nat):Prop where
 lt:s.2<n
 nd_:nd b s.2=true
 all:∀k∈s.1,k<n
 nodup:s.1.Nodup
 eq:Cq N b (n+1-s.1.length) s.1 s.2=R
theorem Cr.len{n:Nat}{N:Nat→List Nat}{b:List Bool}{R:List Nat}{s:List Nat×Nat}(h:Cr n N b R s):s.1.length≤n:=LG n h.nodup h.all
theorem aeG{l:List Nat}{a:Nat}(h:first (fun k=>k==a) l=none):a∉l:=fun hm=>by
 obtain⟨j,hj⟩:=List.mem_iff_getElem?.1 hm
 have:=CN h j a hj
 simp at this
theorem Cr.next{n:Nat}{N:Nat→List Nat}{b:List Bool}{R:List Nat}{p:List Nat}{a:Nat}(h:Cr n N b R (p,a))(hc:Sw n N b)(hf:first (fun k=>k==a) p=none):
  p.length<n∧∃k x,first (nd b) (N a)=some k∧(N a)[k]? =some x∧(N a).find? (nd b)=some x∧x<n∧Cr n N b R (p++[a],x):=by
 have sU:=aeG hf
 have oC:(p++[a]).Nodup :=by
  rw[List.nodup_append]
  exact⟨h.nodup,by simp,fun x hx y hy=>by simp at hy;subst hy;exact fun he=>sU (he▸hx)⟩
 have fO:∀k∈p++[a],k<n:=fun k hk=>by
  rcases List.mem_append.1 hk with hk|hk
  ·exact h.all k hk
  ·simp at hk;subst hk;exact h.lt
 have hlen:=LG n oC fO
 rw[List.length_append,List.length_singleton]at hlen
 obtain⟨q,hq,hq2⟩:=hc.some_ a h.lt h.nd_
 cases hff:first (nd b) (N a)with
 |none=>
  obtain⟨j,hj⟩:=List.mem_iff_getElem?.1 hq
  rw[CN hff j q hj]at hq2;cases hq2
 |some k=>
  obtain⟨x,h1,h2,h3⟩:=afD hff
  have hx:x<n:=hc.lt a h.lt x (List.mem_of_getElem? h1)
  refine⟨by omega,k,x,rfl,h1,h2,hx,hx,h3,fO,oC,?_⟩
  have he:=h.eq
  simp only at he
  rw[show n+1-p.length=(n+1-(p++[a]).length)+1 by rw[List.length_append,List.length_singleton];omega,Cq,hf]at he
  simp only[nxt,h2,Option.getD_some]at he
  exact he
theorem Cr.fin{n:Nat}{N:Nat→List Nat}{b:List Bool}{R:List Nat}{p:List Nat}{a k:Nat}(h:Cr n N b R (p,a))(hf:first (fun k=>k==a) p=some k):p.drop k=R:=by
 have he:=h.eq
 have hl:=h.len
 simp only at he hl
 rw[show n+1-p.length=(n-p.length)+1 by omega,Cq,hf]at he
 exact he
def nL(N:Nat→List Nat)(n:Nat):List D:=(List.range n).map fun i=>bB 1 (db (N i))
theorem amr(N:Nat→List Nat)(n:Nat):(nL N n).length =n:=by simp[nL]
theorem abZ{N:Nat→List Nat}{n a:Nat}(h:a<n):(nL N n)[a]? =some (bB 1 (db (N a))):=by simp[nL,h]
theorem ajP(p:Nat→Bool)(l:List Nat):l.any p=(first p l).isSome :=(Lg p l).symm
theorem abb{sz:Nat}{L:List D}(h:L≠[]):bB sz L=.sl .ro sz L:=by
 cases L with
 |nil=>exact absurd rfl h
 |cons=>rfl
theorem afE{l:List Nat}{k:Nat}(hk:k<l.length)(hl:l.length≤maxLen):RN 1 (.d (bB 1 (db l))) (some (.d (.int .i64 (k:Int)))) none none=some (.d (bB 1 (db (l.drop k)))):=by
 have bg:db l≠[]:=fun h=>by
  have:=oa l
  rw[h]at this
  simp at this
  omega
 have hdn:db (l.drop k)≠[]:=fun h=>by
  have:=oa (l.drop k)
  rw[h,List.length_drop]at this
  simp at this
  omega
 have hd:(db l).drop k=db (l.drop k):=by simp[db,List.map_drop]
 have h1:da (.d (.int .i64 (k:Int))) ((db l).length +1)=some k:=jJ (by rw[oa];omega)
 rw[abb bg,abb hdn]
 simp only[RN,cB,Ig,Dg,zR,h1,List.take_length,hd,if_true]
theorem aeH{n:Nat}{N:Nat→List Nat}{b:List Bool}(hc:Sw n N b){x:D}(hx:aL 1 (nL N n) x)(hn:n≤2^20)(hN:∀a,a<n→(N a).length ≤n){a0:Nat}(ha:first (fun v=> !v) b=some a0):
  aF Try.prog gl 41 [.d x,l9 b] (.d (bB 1 (db (Cq N b (n+1) [] a0)))):=by
 have bX:n≤maxLen:=Nat.le_trans hn (by decide)
 refine a8 (alO ..) fun br=>?_
 simp only[Bu,Zk,sS,sT]
 refine⟨rfl,?_⟩
 have hp0:ai false 1 0 [l9 b]=some (l9 b):=rfl
 simp only[hp0,Bu,sS]
 refine eD (ad3 b (by rw[hc.len];exact bX)) ?_
 rw[ha]
 obtain⟨v,AI,yW⟩:=CG ha
 have ha0:a0<n:=by rw[←hc.len];exact(List.getElem?_eq_some_iff.1 AI).1
 simp only[orM,sS]
 refine QS (α:=List Nat×Nat) (fun s=>n+1-s.1.length) (Cr n N b (Cq N b (n+1) [] a0)) (fun s=>[.d x,.d (.int .i64 (s.2:Int)),aO 1 (db s.1)]) (fun s=>[[l9 b]]) (fun s hJ I hI=>?_) ([],a0) ⟨ha0,by rw[Iu AI];exact yW,fun k hk=>by simp at hk,List.nodup_nil,rfl⟩
 obtain⟨p,a⟩:=s
 have gG:=hJ.len
 simp only at gG
 have my:p.length≤maxLen:=Nat.le_trans gG bX
 simp only[ej,sS,sT]
 refine eD (adm p a (cm 1 _) my) ?_
 rw[ajP]
 cases hf:first (fun k=>k==a) p with
 |none=>
  obtain⟨aP,k,y,h1,h2,h3,h4,h5⟩:=hJ.next hc hf
  simp only[Option.isSome_none,iJ,Bool.not_false,sS]
  refine And.intro (fun _=>?_) (fun h=>absurd h (by decide))
  simp only[Lj,LY,xW,sS,sT]
  refine gB (xr _) (by simp only[oa,List.length_singleton];omega) ?_
  simp only[hx.at (abZ hJ.lt),zC,Bu,sS]
  refine eD (Wy b _ (fun hk=>ad2 b hk) (N a) (cm 1 _) (Nat.le_trans (hN a hJ.lt) bX) (fun k hk=>by rw[hc.len];exact hc.lt a hJ.lt k hk)) ?_
  rw[h1]
  simp only[orM,(cm 1 (db (N a))).at (CW h2),Mw,sS]
  have:=hI (p++[a],y) h5 (by simp only[List.length_append,List.length_singleton];omega)
  simp only[Li]at this
  exact this
 |some k=>
  have JD:k<p.length:=by obtain⟨_,h1,_⟩:=CG hf;exact(List.getElem?_eq_some_iff.1 h1).1
  simp only[Option.isSome_some,iJ,Bool.not_true,sS]
  refine And.intro (fun h=>absurd h (by decide)) (fun _=>?_)
  refine eD (Wz p a (cm 1 _) my) ?_
  rw[hf]
  simp only[orM,afE JD my,hJ.fin hf,sS,sT]
def Nf(l:List bt)(a:Nat):List Nat:=It (sK l) a
theorem abc(l:List bt)(a:Nat):(Nf l a).length ≤l.length:=by
 have:=List.length_filter_le (BN (sK l) a) (List.range (sK l).length)
 rw[List.length_range]at this
 rw[Nf,It,←CQ l];exact this
theorem ab0{l:List bt}{a k:Nat}(h:k∈Nf l a):k<l.length:=by
 have:=(List.mem_filter.1 h).1
 rw[List.mem_range,CQ]at this
 exact this
def rd(N:Nat→List Nat)(b:List Bool)(i:Nat):Bool:=nd b i&&Kh b (N i)
def ord(N:Nat→List Nat)(n:Nat):Nat→List Bool→List Nat→List Nat×Bool
 |0,_,out=>(out,true)
 |f+1,b,out=>match first (rd N b) (List.range n)with
  |none=>(Cq N b (n+1) [] ((first (fun v=> !v) b).getD 0),false)
  |some i=>ord N n f (b.set i true) (out++[i])
def oR(r:List Nat×Bool):SV:=.aK [bif r.2 then aO 1 (db r.1)else .d (bB 1 (db r.1)),.d (.int .i64 (bif r.2 then 0 else 17))]
def B4(b:List Bool):Nat:=b.count false
theorem Zl:∀{b:List Bool}{i:Nat},b[i]? =some false→B4 (b.set i true)+1=B4 b
 |[],i,h=>by simp at h
 |v::b,0,h=>by simp at h;subst h;simp[B4]
 |v::b,i+1,h=>by
  have:=Zl (b:=b) (i:=i) (by simpa using h)
  simp only[B4,List.set_cons_succ,List.count_cons]at this ⊢
  omega
theorem aid{b:List Bool}(h:0<B4 b):∃i,first (fun v=> !v) b=some i∧b[i]? =some false:=by
 cases hf:first (fun v=> !v) b with
 |some i=>
  obtain⟨v,h1,h2⟩:=CG hf
  refine⟨i,rfl,?_⟩
  have:v=false:=by simpa using h2
  rw[this]at h1;exact h1
 |none=>
  exfalso
  have:b.count false=0:=by
   rw[List.count_eq_zero]
   intro hm
   obtain⟨j,hj⟩:=List.mem_iff_getElem?.1 hm
   have:=CN hf j _ hj
   simp at this
  unfold B4 at h
  omega
theorem Hq{n i:Nat}(h:i<n):(List.range n)[i]? =some i:=by simp[h]
structure OJ(l:List bt)(R:List Nat×Bool)(s:List Bool×List Nat):Prop where
 len:s.1.length=l.length
 vA:B4 s.1+s.2.length=l.length
 eq:ord (Nf l) l.length (l.length-s.2.length) s.1 s.2=R
theorem OJ.step{l:List bt}{R:List Nat×Bool}{b:List Bool}{out:List Nat}(h:OJ l R (b,out))(aP:out.length<l.length){i:Nat}(hf:first (rd (Nf l) b) (List.range l.length)=some i):
  i<l.length∧b[i]? =some false∧OJ l R (b.set i true,out++[i]):=by
 obtain⟨x,h1,h2⟩:=CG hf
 have hi:i<l.length:=by
  have:=(List.getElem?_eq_some_iff.1 h1).1
  simpa using this
 rw[Hq hi]at h1
 cases h1
 have eg:=h.len
 simp only at eg
 obtain⟨v,hv⟩:=get_some (by omega:i<b.length)
 have JU:v=false:=by
  rw[rd,Bool.and_eq_true]at h2
  have:=h2.1
  rw[Iu hv]at this
  simpa using this
 subst JU
 have hc:=Zl hv
 have AV:=h.vA
 have he:=h.eq
 simp only at AV he
 refine⟨hi,hv,by simpa using eg,?_,?_⟩
 ·simp only[List.length_append,List.length_singleton];omega
 ·rw[show l.length-out.length=(l.length-(out++[i]).length)+1 by rw[List.length_append,List.length_singleton];omega,ord,hf]at he
  exact he
theorem OJ.stuck{l:List bt}{R:List Nat×Bool}{b:List Bool}{out:List Nat}(h:OJ l R (b,out))(aP:out.length<l.length)(hf:first (rd (Nf l) b) (List.range l.length)=none):
  ∃a0,first (fun v=> !v) b=some a0∧Sw l.length (Nf l) b∧R=(Cq (Nf l) b (l.length+1) [] a0,false):=by
 have AV:=h.vA
 have he:=h.eq
 simp only at AV he
 obtain⟨a0,h1,h2⟩:=aid (b:=b) (by omega)
 refine⟨a0,h1,⟨h.len,fun a ha T0=>?_,fun a ha k hk=>ab0 hk⟩,?_⟩
 ·have:=CN hf a a (Hq ha)
  rw[rd,T0,Bool.true_and,Z7]at this
  have:(Nf l a).any (nd b)=true:=by simpa using this
  obtain⟨k,jS,jf⟩:=List.any_eq_true.1 this
  exact⟨k,jS,jf⟩
 ·rw[show l.length-out.length=(l.length-out.length-1)+1 by omega,ord,hf,h1]at he
  exact he.symm
theorem OJ.fin{l:List bt}{R:List Nat×Bool}{b:List Bool}{out:List Nat}(h:OJ l R (b,out))(aP:¬out.length<l.length):R=(out,true):=by
 have he:=h.eq
 simp only at he
 rw[show l.length-out.length=0 by omega,ord]at he
 exact he.symm
theorem OJ.le{l:List bt}{R:List Nat×Bool}{s:List Bool×List Nat}(h:OJ l R s):s.2.length≤l.length:=by
 have:=h.vA;omega
def Jc(l:List bt):List Nat×Bool:=ord (Nf l) l.length l.length (List.replicate l.length false) []
theorem OJ.init(l:List bt):OJ l (Jc l) (List.replicate l.length false,[]):=⟨by simp,by simp[B4],rfl⟩
theorem Lk(d:D)(h:d.one=true):∀n,bj (List.replicate n d)=List.replicate n (.d d)
 |0=>rfl
 |n+1=>by
  rw[List.replicate_succ,bj,Lk d h n,D.vL h];rfl
theorem ams(n:Nat):bL (List.replicate n false)=List.replicate n (.d (.bool false)):=by simp[bL]
theorem amt(b:List Bool)(i:Nat)(v:Bool):setAt (bL b) (i*1) [.d (.bool v)]=bL (b.set i v):=by
 simp only[setAt,Nat.mul_one,bL,List.map_set]
theorem ajQ{b:List Bool}{i:Nat}{v:Bool}(h:b[i]? =some v):ai false 1 (i*1) (bL b)=some (.d (.bool v)):=by
 simp only[ai,cond_false,Nat.mul_one,abX h]
theorem ajR(i:Nat):decide ((i:Int)<0)=false:=decide_eq_false (by omega)
theorem an4{l:List bt}{b:List Bool}{i:Nat}{v:Bool}(h:b[i]? =some v):rd (Nf l) b i=(!v&&Kh b (Nf l i)):=by rw[rd,Iu h]
def yj(N:Nat→List Nat)(n i:Nat):List SV:=(List.range n).map fun j=>if j<i then .d (bB 1 (db (N j)))else .d (.sl .nil 0 [])
theorem Yw(N:Nat→List Nat)(n i:Nat):(yj N n i).length =n:=by simp[yj]
theorem ajS(N:Nat→List Nat)(n:Nat):List.replicate n (SV.d (.sl .nil 0 []))=yj N n 0:=by
 apply List.ext_getElem?
 intro j
 simp only[yj,List.getElem?_replicate,List.getElem?_map]
 by_cases h:j<n
 ·simp[h]
 ·simp[h]
theorem agR{N:Nat→List Nat}{n i:Nat}(h:i<n):setAt (yj N n i) (i*1) [.d (bB 1 (db (N i)))]=yj N n (i+1):=by
 simp only[setAt,Nat.mul_one]
 apply List.ext_getElem?
 intro j
 rw[List.getElem?_set,Yw]
 simp only[yj,List.getElem?_map]
 by_cases hj:j<n
 ·by_cases fp:i=j
  ·subst fp
   simp[hj]
  ·simp only[fp,if_false,List.getElem?_range hj,Option.map_some]
   congr 1
   by_cases h2:j<i
   ·rw[if_pos h2,if_pos (by omega)]
   ·rw[if_neg h2,if_neg (by omega)]
 ·have:i≠j:=by omega
  simp[this,hj]
theorem agS(N:Nat→List Nat)(n:Nat):yj N n n=(nL N n).map SV.d:=by
 apply List.ext_getElem?
 intro j
 simp only[yj,nL,List.getElem?_map]
 by_cases hj:j<n
 ·simp[hj]
 ·simp[hj]
theorem WZ{l:List bt}{L:List D}{x:D}(hx:aL 3 L x)(hl:sq l L)(h8:l.length≤8)(hm:∀m∈l,dk m.ax):aF Try.prog gl 16 [.d x] (oR (Jc l)):=by
 have bX:l.length≤maxLen:=Nat.le_trans h8 (by decide)
 refine a8 (alG ..) fun br=>?_
 simp only[sS,sT]
 refine bH (V6 hx hl h8 hm) (jX _ _) ?_
 simp only[ej,hx.len,hl.len,EA,Lk (D.sl .nil 0 []) rfl,Lk (D.bool false) rfl,List.length_replicate,sS]
 refine⟨by omega,?_⟩
 rw[ajS (Nf l)]
 refine eX (fun i=>[.d x,.d (bB 1 (wu (sK l))),.d (.int .i64 (l.length:Int)),.d (.int .i64 ((i:Nat):Int))]) (fun i=>[yj (Nf l) l.length i]) l.length (fun i hi I hI=>?_) (fun I=>?_)
 ·simp only[sS,sT]
  refine And.intro (fun _=>?_) (fun h=>absurd h (by simp;omega))
  have mg:da (.d (.int .i64 (i:Int))) l.length=some i:=jJ hi
  refine bH (WY (cm 1 _) (by rw[CQ];omega) (XG hm) (i:=i) (by rw[CQ];omega)) (jX _ _) ?_
  simp only[mg,ej,CC,Yw,sS]
  refine⟨rfl,by omega,?_⟩
  refine aS (bf hi bX) ?_
  have:=agR (N:=Nf l) hi
  rw[show bB 1 (db (It (sK l) i))=bB 1 (db (Nf l i)) from rfl,this]
  exact hI
 ·simp only[sS,sT]
  refine And.intro (fun h=>absurd h (by simp)) (fun _=>?_)
  rw[agS]
  simp only[Ms,hx.len,hl.len,EA,List.length_map,amr,sS,sT]
  refine⟨by omega,?_⟩
  rw[←ams]
  have Iv:ma l.length l.length (.d (.sl .ro 1 (nL (Nf l) l.length)))=.d (.sl .ro 1 (nL (Nf l) l.length)):=by simp[ma]
  have hN:aL 1 (nL (Nf l) l.length) (.sl .ro 1 (nL (Nf l) l.length)):=.ro
  rw[Iv]
  generalize D.sl .ro 1 (nL (Nf l) l.length)=nx at hN ⊢
  refine QS (α:=List Bool×List Nat) (fun s=>l.length-s.2.length) (OJ l (Jc l)) (fun s=>[.d x,.d nx,aO 1 (db s.2)]) (fun s=>[[.undef],bL s.1]) (fun s hJ I hI=>?_) (List.replicate l.length false,[]) (OJ.init l)
  obtain⟨b,out⟩:=s
  have hle:=hJ.le
  have eg:=hJ.len
  simp only at hle eg
  have hom:out.length≤maxLen:=Nat.le_trans hle bX
  simp only[ej,(cm 1 (db out)).len,oa,hx.len,hl.len,sS,sT]
  refine And.intro (fun h=>?_) (fun h=>?_)
  ·have aP:out.length<l.length:=by simp at h;omega
   refine n9 (fun i=>∀j,j<i→rd (Nf l) b j=false) (fun i=>[.d x,.d nx,aO 1 (db out),.d (.int .i64 (-1)),.d (.int .i64 (l.length:Int)),.d (.int .i64 ((i:Nat):Int))]) (fun i=>[[.undef],bL b]) l.length (fun j hj=>by omega) (fun i hi OK I2 cF=>?_) (fun OK I2=>?_)
   ·simp only[sS,sT]
    refine And.intro (fun _=>?_) (fun h=>absurd h (by simp;omega))
    have mg:da (.d (.int .i64 (i:Int))) l.length=some i:=jJ hi
    obtain⟨v,hv⟩:=get_some (by omega:i<b.length)
    have fT:=an4 (l:=l) hv
    have bc:rd (Nf l) b i=false→∀j,j<i+1→rd (Nf l) b j=false:=fun h j hj=>by
     rcases Nat.lt_or_ge j i with h2|h2
     ·exact OK j h2
     ·rw[show j=i by omega];exact h
    simp only[mg,ajQ hv,iJ,aba,sS]
    refine And.intro (fun h2=>?_) (fun h2=>?_)
    ·rw[h2,Bool.true_and]at fT
     simp only[hN.at (abZ hi),zC,sS]
     refine eD (show aF _ gl _ [.d (bB 1 (db (Nf l i))),.dg l.length 1 (bL b)] _ from(by rw[←eg];exact aeF b (Nf l i) (cm 1 _) (Nat.le_trans (abc l i) bX) (fun k hk=>by rw[eg];exact ab0 hk))) ?_
     rw[←fT]
     simp only[sS]
     refine And.intro (fun h3=>?_) (fun h3=>?_)
     ·have hf:first (rd (Nf l) b) (List.range l.length)=some i:=xF (Hq hi) h3 (fun j y hj hy=>by
       rw[Hq (by omega)]at hy;cases hy;exact OK j hj)
      obtain⟨_,JU,hJ'⟩:=hJ.step aP hf
      simp only[ajR,LS,amq,sS]
      refine And.intro (fun h=>absurd h (by decide)) (fun _=>?_)
      refine⟨rfl,by rw[eg];omega,?_⟩
      simp only[Lj,LY,xW,sS,sT]
      refine gB (xr _) (by simp only[oa,List.length_singleton];omega) ?_
      have:=hI (b.set i true,out++[i]) hJ' (by simp only[List.length_append,List.length_singleton];omega)
      rw[amt]
      simp only[Li]at this
      exact this
     ·refine aS (bf hi bX) ?_
      exact cF (bc h3)
    ·rw[h2,Bool.false_and]at fT
     refine aS (bf hi bX) ?_
     exact cF (bc fT)
   ·simp only[sS,sT]
    refine And.intro (fun h=>absurd h (by simp)) (fun _=>?_)
    refine And.intro (fun _=>?_) (fun h=>absurd h (by decide))
    have hf:first (rd (Nf l) b) (List.range l.length)=none:=xu fun j y hy=>by
     have hj:j<l.length:=by have:=(List.getElem?_eq_some_iff.1 hy).1;simpa using this
     rw[Hq hj]at hy;cases hy;exact OK j hj
    obtain⟨a0,h1,h2,h3⟩:=hJ.stuck aP hf
    simp only[aba]
    refine eD (show aF _ gl _ [.d nx,.dg l.length 1 (bL b)] _ from(by rw[←eg];exact aeH h2 hN (by omega) (fun a _=>abc l a) h1)) ?_
    rw[h3]
    exact⟨rfl,rfl⟩
  ·have aP:¬out.length<l.length:=by simp at h;omega
   have:=hJ.fin aP
   rw[this]
   exact⟨jY _ _,rfl⟩
theorem afF(a b:List Nat){x y:D}(hx:aL 1 (db a) x)(hy:aL 1 (db b) y):aF Try.prog gl 18 [.d x,.d y] (.d (.bool (a==b))):=by
 refine a8 (akT ..) fun br=>?_
 have bX:a.length≤maxLen:=by
  have:=hx.Ai br.1
  rwa[oa]at this
 simp only[hx.len,hy.len,oa,ek,HH,sS,sT]
 refine And.intro (fun h=>?_) (fun h=>?_)
 ·have bg:a≠b:=fun he=>by subst he;simp at h
  rw[beq_eq_false_iff_ne.2 bg]
 have hle:a.length=b.length:=by simpa using h
 refine n9 (fun i=>a.take i=b.take i) (fun i=>[.d x,.d y,.d (.int .i64 ((i:Nat):Int))]) (fun i=>[]) a.length rfl (fun i hi hJ I hI=>?_) (fun hJ I=>?_)
 ·simp only[hx.len,oa,sS,sT]
  refine And.intro (fun _=>?_) (fun h=>absurd h (by simp;omega))
  obtain⟨p,hp⟩:=get_some hi
  obtain⟨q,hq⟩:=get_some (by omega:i<b.length)
  simp only[hx.at (CW hp),hy.at (CW hq),Mw,ek,HH,sS]
  refine And.intro (fun h=>?_) (fun h=>?_)
  ·have bg:a≠b:=fun he=>by
    subst he
    rw[hp]at hq;cases hq
    simp at h
   rw[beq_eq_false_iff_ne.2 bg]
  ·refine aS (bf hi bX) ?_
   have:p=q:=by simpa using h
   subst this
   exact hI (by rw[dT hp,dT hq,hJ])
 ·simp only[hx.len,oa,sS,sT]
  refine And.intro (fun h=>absurd h (by simp)) (fun _=>?_)
  rw[List.take_length,hle,List.take_length]at hJ
  rw[hJ];simp
structure ay where
 (mo up:Int)
 vB:Bool
 (th el:List aq)
 (mark here:Bool)
def ph(b:ay):List D:=[.int .i64 b.mo,.int .i64 b.up,.bool b.vB,bB 6 (aM b.th),bB 6 (aM b.el),.bool b.mark,.bool b.here]
def ay.enc(b:ay):D:=.agg (ph b)
def ay.cells(b:ay):List SV:=(ph b).map .d
def ee(l:List ay):List D:=l.map ay.enc
theorem rQ(l:List ay):(ee l).length =l.length:=List.length_map ..
theorem Z8{l:List ay}{i:Nat}{b:ay}(h:l[i]? =some b):(ee l)[i]? =some b.enc:=by simp[ee,h]
theorem zq(s:ay)(l:List ay):bj (ee (s::l))=s.cells++bj (ee l):=rfl
theorem zr:∀(l:List ay),dC (bj (ee l))=some (l.flatMap ph)
 |[]=>rfl
 |s::l=>by rw[zq,List.flatMap_cons];exact G6 _ (zr l)
theorem Fe:∀(l:List ay),(bj (ee l)).length =l.length*7
 |[]=>rfl
 |s::l=>by rw[zq,List.length_append,Fe l,List.length_cons];simp[ay.cells,ph];omega
theorem zk:∀(l:List ay),fc true 7 l.length (l.flatMap ph)=some (ee l)
 |[]=>rfl
 |s::l=>by
  have ih:=zk l
  have h1:((s::l).flatMap ph).drop 7=l.flatMap ph:=rfl
  have h2:((s::l).flatMap ph).take 7=ph s:=rfl
  have h3:7≤((s::l).flatMap ph).length :=by simp[ph]
  simp only[List.length_cons,fc,h1,h2,ih,if_pos h3]
  rfl
theorem ab1(k:Nat)(hk:k<7):∀(l:List ay)(j:Nat)(y:ay),l[j]? =some y→(bj (ee l))[j*7+k]? =y.cells[k]?
 |[],j,y,h=>by simp at h
 |s::l,0,y,h=>by
  simp at h;subst h
  rw[zq,Nat.zero_mul,Nat.zero_add,List.getElem?_append_left (by simp[ay.cells,ph];omega)]
 |s::l,j+1,y,h=>by
  rw[zq,List.getElem?_append_right (by simp[ay.cells,ph];omega)]
  have:(j+1)*7+k-s.cells.length=j*7+k:=by simp[ay.cells,ph];omega
  rw[this]
  exact ab1 k hk l j y (by simpa using h)
theorem Mx(k:Nat)(v:D)(y':ay):∀(l:List ay)(j:Nat)(y:ay),l[j]? =some y→k<7→y.cells.set k (.d v)=y'.cells→setAt (bj (ee l)) (j*7+k) [.d v]=bj (ee (l.set j y')):=by
 intro l
 induction l with
 |nil=>intro j y h;simp at h
 |cons s l ih=>
  intro j y h hk he
  cases j with
  |zero=>
   simp at h;subst h
   rw[setAt,setAt,Nat.zero_mul,Nat.zero_add,zq,List.set_append_left _ _ (by simp[ay.cells,ph];omega),he]
   rfl
  |succ j=>
   have:=ih j y (by simpa using h) hk he
   rw[setAt,setAt]at this
   rw[setAt,setAt,zq,List.set_append_right _ _ (by simp[ay.cells,ph];omega)]
   have e:(j+1)*7+k-s.cells.length=j*7+k:=by simp[ay.cells,ph];omega
   rw[e,this]
   rfl
theorem HI{k:Nat}{l:List ay}{j:Nat}{y:ay}(h:l[j]? =some y)(hk:k<7):ai false 1 (j*7+k) (bj (ee l))=y.cells[k]? :=by
 rw[ai,cond_false,ab1 k hk l j y h]
theorem Z9(b:ay):aH true 7 (.aX b.enc 0)=some (.d b.enc):=EL _ 7 rfl
theorem LH(b:ay):aE (.d b.enc)=some b.cells:=rfl
theorem Iw(b:ay):b.cells.length=7:=rfl
theorem ajT{z:List SV}(hz:z.length=7)(b:ay):setAt z 0 b.cells=b.cells:=vN hz (Iw b)
theorem NA(a b c d e f g:SV)(x:ay):setAt [a,b,c,d,e,f,g] 0 x.cells=x.cells:=ajT rfl x
theorem ab2(b:ay):ai false 1 3 b.cells=some (.d (bB 6 (aM b.th))):=rfl
theorem an5(b:ay):ai false 1 4 b.cells=some (.d (bB 6 (aM b.el))):=rfl
theorem MU(b:ay):ai false 1 5 b.cells=some (.d (.bool b.mark)):=rfl
theorem Sx(b:ay):ai false 1 6 b.cells=some (.d (.bool b.here)):=rfl
theorem an6(b:ay):ai false 1 0 b.cells=some (.d (.int .i64 b.mo)):=rfl
theorem ajU(b:ay):bz 7 1 [(0,b.enc)]=true:=rfl
theorem agT(m u:Int)(t:Bool):dF Try.prog 79 [(0,.int .i64 m),(1,.int .i64 u),(2,.bool t),(5,.bool true)]=some (ay.enc ⟨m,u,t,[],[],true,false⟩):=by kernel_rfl
theorem By(z x:D):bF z [(0,x)] 1 0=[x]:=rfl
def iW(l:List ay):SV:=match l with
 |[]=>.d (.sl .nil ji [])
 |l=>.bh 7 (ee l)
theorem xX{l:List ay}(h:l≠[]):iW l=.bh 7 (ee l):=by
 cases l with
 |nil=>exact absurd rfl h
 |cons y l=>rfl
theorem ajV(l:List ay):o9 (iW l)=some (iW l):=by cases l<;>rfl
theorem agU(l:List ay):vY (iW l)=false:=by cases l<;>rfl
theorem CI(l:List ay):(iW l).aA =true:=by cases l<;>rfl
theorem aaa(l:List ay):pT (iW l)=some (aO 7 (ee l)):=by cases l<;>rfl
theorem EV{out:List ay}{A:List D→Prop}{B:Prop}(h1:out≠[]→A (ee out))(h2:out=[]→B):ij (iW out) 7 A B:=by
 cases out with
 |nil=>exact h2 rfl
 |cons y l=>exact⟨rfl,h1 (by simp)⟩
theorem ajW{out:List ay}{s:ay}{dh:Nat}{k:SV→Prop}(hb:(out.length+1)*dh≤140737488355328)(hk:k (iW (out++[s]))):cb 7 dh (iW out) (.full 7 [s.enc]) k:=by
 cases out with
 |nil=>
  unfold cb mc
  simp only[elems,if_true]
  exact⟨by simpa using hb,hk⟩
 |cons y l=>
  unfold cb mc
  simp only[elems,if_true]
  refine⟨by simpa[rQ]using hb,?_⟩
  have:ee (y::l)++[s.enc]=ee (y::l++[s]):=by simp[ee]
  rw[this]
  exact hk
def DB(l:List ay):SV:=match l with
 |[]=>.d (.sl .nil ji [])
 |_=>.undef
theorem CX(l:List ay):aa (iW l)=DB l:=by cases l<;>rfl
theorem Zm(l:List ay):aa (DB l)=DB l:=by cases l<;>rfl
abbrev nA:=Int×aq
def fF(ts:List ah):Except nA (List aq):=match ja [] (oz ts)with
 |some p=>.error p
 |none=>.ok (jL (oz ts) (oz ts))
def j7(o:List ay)(n:Nat)(sy:List aq):List ay:=match o[n]? with
 |some b=>o.set n {b with el:=sy}
 |none=>o
mutual
def gT:ah→List ay→Int→Int→Bool→Except nA (List ay)
 | .mk s a b,out,m,u,th=>if s.kind==18 then
    (match fF a with
    | .error e=>.error e
    | .ok sy=>(match gL a (out++[⟨m,u,th,sy,[],true,false⟩]) m out.length true with
      | .error e=>.error e
      | .ok o2=>(match fF b with
        | .error e=>.error e
        | .ok lu=>gL b (j7 o2 out.length lu) m out.length false)))
   else .ok out
def gL:List ah→List ay→Int→Int→Bool→Except nA (List ay)
 |[],out,_,_,_=>.ok out
 |t::l,out,m,u,th=>(match gT t out m u th with
  | .error e=>.error e
  | .ok o=>gL l o m u th)
end
theorem an7{t:ah}(h:(t.s.kind==18)=false)(out:List ay)(m u:Int)(th:Bool):gT t out m u th=.ok out:=by
 cases t with
 |mk s a b=>
  have h:(s.kind==18)=false:=h
  simp only[gT,h];rfl
theorem amu{t:ah}(h:(t.s.kind==18)=true)(out:List ay)(m u:Int)(th:Bool):gT t out m u th=(match fF t.th with
   | .error e=>.error e
   | .ok sy=>(match gL t.th (out++[⟨m,u,th,sy,[],true,false⟩]) m out.length true with
     | .error e=>.error e
     | .ok o2=>(match fF t.el with
       | .error e=>.error e
       | .ok lu=>gL t.el (j7 o2 out.length lu) m out.length false))):=by
 cases t with
 |mk s a b=>
  have h:(s.kind==18)=true:=h
  simp only[gT,h];rfl
theorem RY:∀(a b:List ah)(out:List ay)(m u:Int)(th:Bool),gL (a++b) out m u th=(match gL a out m u th with| .error e=>.error e| .ok o=>gL b o m u th)
 |[],b,out,m,u,th=>rfl
 |t::a,b,out,m,u,th=>by
  rw[List.cons_append,gL,gL]
  cases gT t out m u th with
  |error e=>rfl
  |ok o=>exact RY a b o m u th
theorem ajX{l:List ah}{i:Nat}{t:ah}(h:l[i]? =some t){out o:List ay}{m u:Int}{th:Bool}(ho:gL (l.take i) out m u th=.ok o):gL (l.take (i+1)) out m u th=gT t o m u th:=by
 rw[dT h,RY,ho]
 simp only[gL]
 cases gT t o m u th<;>rfl
theorem My{l:List ah}{i:Nat}{out:List ay}{m u:Int}{th:Bool}{e:nA}(ho:gL (l.take i) out m u th=.error e):gL l out m u th=.error e:=by
 rw[←List.take_append_drop i l,RY,ho]
theorem EE(o:List ay)(n:Nat)(sy:List aq):(j7 o n sy).length =o.length:=by
 unfold j7
 split<;>simp
theorem Zn{o:List ay}{n j:Nat}(sy:List aq)(h:j≠n):(j7 o n sy)[j]? =o[j]? :=by
 unfold j7
 split
 ·rw[List.getElem?_set_ne (fun hh=>h hh.symm)]
 ·rfl
def Tx(out o:List ay)(n:Nat):Prop:=o.length=out.length+n∧∀(j:Nat),j<out.length→o[j]? =out[j]?
mutual
theorem LZ:∀(t:ah){out o:List ay}{m u:Int}{th:Bool},gT t out m u th=.ok o→Tx out o t.nb
 | .mk s a b,out,o,m,u,th,h=>by
   simp only[gT]at h
   simp only[ah.nb]
   split at h
   ·rename_i hk
    rw[if_pos hk]
    split at h
    ·cases h
    ·split at h
     ·cases h
     ·rename_i o2 h2
      split at h
      ·cases h
      ·have k1:=rU a h2
       have k2:=rU b h
       refine⟨?_,fun j hj=>?_⟩
       ·rw[k2.1,EE,k1.1,List.length_append,List.length_singleton];omega
       ·rw[k2.2 j (by rw[EE,k1.1,List.length_append];omega),Zn _ (by omega),k1.2 j (by rw[List.length_append];omega),List.getElem?_append_left hj]
   ·rename_i hk
    rw[if_neg hk]
    cases h
    exact⟨rfl,fun _ _=>rfl⟩
theorem rU:∀(l:List ah){out o:List ay}{m u:Int}{th:Bool},gL l out m u th=.ok o→Tx out o (ah.aB l)
 |[],out,o,m,u,th,h=>by
  simp only[gL]at h
  cases h
  exact⟨rfl,fun _ _=>rfl⟩
 |t::l,out,o,m,u,th,h=>by
  simp only[gL]at h
  simp only[ah.aB]
  split at h
  ·cases h
  ·rename_i o1 h1
   have k1:=LZ t h1
   have k2:=rU l h
   exact⟨by rw[k2.1,k1.1];omega,fun j hj=>by rw[k2.2 j (by rw[k1.1];omega),k1.2 j hj]⟩
end
def jA(c:Int)(s:aq):D:=.agg [.int .i64 c,.int .i64 s.line,.int .i64 s.gH,.str s.name]
def eO:D:=.agg [.int .i64 0,.int .i64 0,.int .i64 0,.str []]
def gR(r:Except nA (List ay)):List SV:=match r with
 | .error (c,s)=>[.d (.sl .nil 0 []),.d (jA c s)]
 | .ok o=>[iW o,.d eO]
def GH(ts:List ah):Prop:=∀{L:List D}{x:D}(out:List ay)(m u:Int)(th:Bool),aL 55 L x→fm ts L→dk ts→out.length+ah.bQ ts≤2^20→
 aF Try.prog gl 74 (qG 0 [iW out,.d x,.d (.int .i64 m),.d (.int .i64 u),.d (.bool th)]) (.aK (DB out::gR (gL ts out m u th)))
theorem abd{ts:List ah}(h:dk ts){L:List D}{xs:D}(hx:aL 55 L xs)(hs:fm ts L):aF Try.prog gl 50 [.d xs] (match fF ts with| .error (c,s)=>.aK [.d (.sl .nil 0 []),.d (jA c s)]| .ok sy=>.aK [.d (bB 6 (aM sy)),.d eO]):=by
 have:=adY h hx hs
 unfold fF
 unfold sJ at this
 cases hc:ja [] (oz ts)with
 |some p=>obtain⟨c,s⟩:=p;rw[hc]at this;exact this
 |none=>rw[hc]at this;exact this
theorem zt{ts:List ah}{c:Int}{s:aq}(h:fF ts=.error (c,s)):c≠0:=by
 unfold fF at h
 split at h
 ·rename_i p hp
  cases h
  exact LD _ _ _ _ hp
 ·cases h
theorem yk{P:Program}{gl:Nat→Option D}{f:FuncId}{args:List SV}{bk y:SV}{r1 r2:SV}{k:SV→SV→SV→Prop}(hH:aF P gl f args (.aK [bk,r1,r2]))(hd:aa bk=y)(hk:k r1 r2 bk):∃a b c,aF P gl f args (.aK [c,a,b])∧aa c=y∧k a b c:=⟨r1,r2,bk,hH,hd,hk⟩
theorem ah.uK(l:List ah):ah.bQ l=(l.map ah.sz).sum :=by
 induction l with
 |nil=>rfl
 |cons t l ih=>simp[ah.bQ,ih]
theorem ah.QT{l:List ah}{i:Nat}{t:ah}(h:l[i]? =some t):ah.aB (l.take i)+t.sz≤ah.bQ l:=by
 have h1:=ah.qC (l.take i)
 have h2:ah.bQ (l.take (i+1))=ah.bQ (l.take i)+t.sz:=by
  rw[dT h,ah.uK,ah.uK];simp
 have h3:ah.bQ (l.take (i+1))≤ah.bQ l:=by
  rw[ah.uK,ah.uK,←List.take_append_drop (i+1) l,List.map_append,List.sum_append,List.take_append_drop];omega
 omega
theorem aab{l:List ay}(h:l≠[]):DB l=.undef :=by
 cases l with
 |nil=>exact absurd rfl h
 |cons y l=>rfl
mutual
theorem an8:∀(t:ah){out:List ay}{m u:Int}{th:Bool}{c:Int}{s:aq},gT t out m u th=.error (c,s)→c≠0
 | .mk s a b,out,m,u,th,c,sy,h=>by
   simp only[gT]at h
   split at h
   ·split at h
    ·rename_i h1;cases h;exact zt h1
    ·split at h
     ·rename_i h1;cases h;exact BO a h1
     ·split at h
      ·rename_i h1;cases h;exact zt h1
      ·exact BO b h
   ·cases h
theorem BO:∀(l:List ah){out:List ay}{m u:Int}{th:Bool}{c:Int}{s:aq},gL l out m u th=.error (c,s)→c≠0
 |[],out,m,u,th,c,s,h=>by simp[gL]at h
 |t::l,out,m,u,th,c,s,h=>by
  simp only[gL]at h
  split at h
  ·rename_i h1;cases h;exact an8 t h1
  ·exact BO l h
end
theorem uL:aT []=some []:=rfl
theorem agV(x y:D):ba (.full 1 [x,y])=some (.d (.int .i64 2)):=rfl
theorem Qq(x y:D):aa (.full 1 [x,y])=.full 1 [x,y]:=rfl
theorem ajY:aJ 1 (.full 1 [.bool true,.bool false]) (.d (.int .i64 0))=some (.aX (.bool true) 0):=rfl
theorem ajZ:aJ 1 (.full 1 [.bool true,.bool false]) (.d (.int .i64 1))=some (.aX (.bool false) 0):=rfl
theorem xM(v:Bool):aH false 1 (.aX (.bool v) 0)=some (.d (.bool v)):=rfl
theorem aj0:bF (bI false [.bool false]) [(0,.bool true),(1,.bool false)] 2 0=[.bool true,.bool false]:=rfl
theorem aie:bz 1 2 [(0,.bool true),(1,.bool false)]=true:=rfl
theorem j0(x y:D)(i j:Nat):aT [(i,.v (.d x)),(j,.v (.d y))]=some [(i,x),(j,y)]:=rfl
theorem aeI(ts:List ah)(IH:∀iG,ah.bQ iG<ah.bQ ts→GH iG):GH ts:=by
 intro L x out m u th hx hs cE aN
 have h0:=ah.tz ts
 have bX:ts.length≤maxLen:=Nat.le_trans (Nat.le_trans h0 cE.sz) (by decide)
 have Ds:∀r∈gR (gL ts out m u th),vY r=false:=by
  intro r hr
  unfold gR at hr
  split at hr
  ·simp at hr;rcases hr with rfl|rfl<;>rfl
  ·simp at hr;rcases hr with rfl|rfl
   ·exact agU _
   ·rfl
 rw[←CX]
 refine G5 bw a7 (hh:=h74) (by simp[SV.iZ,CI,SV.aA]) rfl Ds ?_
 rw[alV]
 intro br
 have hK:∀r1 r2,gR (gL ts out m u th)=[r1,r2]→S8 (gR (gL ts out m u th))=.aK [r1,r2]:=fun r1 r2 h=>by rw[h];rfl
 simp only[ajV,hx.len,hs.len,sS,sT,sZ]
 refine xG (α:=List ay) (fun i o=>gL (ts.take i) out m u th=.ok o) (fun i o=>[iW o,.d (.int .i64 m),.d (.int .i64 u),.d (.bool th),.d x,.d (.int .i64 (ts.length:Int)),.d (.int .i64 ((i:Nat):Int))]) (fun i o=>[[.d (.int .i64 0),.d (.int .i64 0),.d (.int .i64 0),.d (.str [])]]) ts.length out rfl (fun i o hi hJ I hI=>?_) (fun o hJ I=>?_)
 ·simp only[sS,sT]
  refine And.intro (fun _=>?_) (fun h=>absurd h (by simp;omega))
  obtain⟨t,ht⟩:=get_some hi
  obtain⟨y,hy,eU⟩:=hs.at_ ht
  obtain⟨c,bd,al,yt,ye,Lt,Le,hc⟩:=eU.out
  have fk:=vN (z:=ik) (c:=c) rfl hc.len
  simp only[sZ]at fk
  have hz:=ah.BM ht
  have AE:=t.zj
  have bc:=ajX ht hJ
  have OL:=rU _ hJ
  have fZ:=ah.QT ht
  have nB:=cE.th (List.mem_of_getElem? ht)
  simp only[hx.at hy,hc.load,hc.cells,hc.len,fk,hc.p0,ek,sS,sT]
  refine And.intro (fun hk=>?_) (fun hk=>?_)
  ·have bY:(t.s.kind==18)=false:=by simpa[bne]using hk
   rw[an7 bY]at bc
   refine aS (bf hi bX) ?_
   exact hI o bc
  have bY:(t.s.kind==18)=true:=by simpa[bne]using hk
  rw[amu bY]at bc
  refine uG [iW o,.d (.int .i64 m),.d (.int .i64 u),.d (.bool th),.d (.int .i64 (o.length:Int)),.d x,.d (.int .i64 (ts.length:Int)),.d (.int .i64 ((i:Nat):Int))] [[.d (.int .i64 0),.d (.int .i64 0),.d (.int .i64 0),.d (.str [])],c] (fun J lW=>?_) ?_
  ·refine EV (fun bg=>?_) (fun he=>?_)
   ·simp only[zr,zk,rQ,sS]
    rw[←xX bg]
    exact lW
   ·subst he
    exact lW
  ·have qW:o.length≤2^20:=by rw[OL.1];omega
   simp only[CO,agT,dG,ajU,By,sS,sT]
   refine ajW (by omega) ?_
   simp only[j0,aie,aj0,agV,sS,sT]
   intro I3 gK
   refine gK _ _ ?_
   simp only[ajY,xM,hc.Ke,hc.Kf,Qq,sS,sT]
   refine And.intro (fun _=>?_) (fun h=>absurd h (by decide))
   refine And.intro (fun _=>?_) (fun h=>absurd h (by decide))
   have nW:=abd nB.1 hc.iV hc.fL
   have u9:=fun c s=>zt (ts:=t.th) (c:=c) (s:=s)
   cases g9:fF t.th with
   |error e=>
    obtain⟨c0,s0⟩:=e
    rw[g9]at nW bc
    dsimp only at bc nW
    refine call2 nW ?_
    simp only[jA,dv,dw,z4,dH,gf,ek,oe (u9 c0 s0 g9),sS,sT]
    refine And.intro (fun _=>?_) (fun h=>absurd h (by decide))
    rw[My bc]
    rfl
   |ok sy=>
   rw[g9]at nW bc
   dsimp only at bc nW
   refine call2 nW ?_
   simp only[eO,dv,dw,z4,dH,gf,ek,sS,sT]
   refine And.intro (fun h=>absurd h (by decide)) (fun _=>?_)
   refine And.intro (fun _=>?_) (fun h=>absurd h (by decide))
   refine EV (fun _=>?_) (fun he=>absurd he (by simp))
   have mg:da (.d (.int .i64 (o.length:Int))) (ee (o++[ay.mk m u th [] [] true false])).length =some o.length:=jJ (by rw[rQ,List.length_append,List.length_singleton];omega)
   have fg:setAt (bj (ee (o++[ay.mk m u th [] [] true false]))) (o.length*7+3) [.d (bB 6 (aM sy))]=bj (ee (o++[ay.mk m u th sy [] true false])):=by
    rw[Mx 3 (bB 6 (aM sy)) (ay.mk m u th sy [] true false) _ o.length (ay.mk m u th [] [] true false) (by simp) (by omega) rfl]
    simp
   have Ki:=zk (o++[ay.mk m u th sy [] true false])
   rw[List.length_append,List.length_singleton]at Ki
   simp only[mg,CC,fg,zr,Fe,sS]
   refine⟨rfl,by simp only[List.length_append,List.length_singleton];omega,?_⟩
   simp only[rQ,List.length_append,List.length_singleton,Ki,sS]
   have H1:=IH t.th (by omega) (o++[ay.mk m u th sy [] true false]) m (o.length:Int) true hc.iV hc.fL nB.1 (by rw[List.length_append,List.length_singleton,OL.1];omega)
   rw[xX (by simp:o++[ay.mk m u th sy [] true false]≠[]),aab (by simp)]at H1
   cases hg:gL t.th (o++[ay.mk m u th sy [] true false]) m (o.length:Int) true with
   |error e=>
    obtain⟨c0,s0⟩:=e
    rw[hg]at H1 bc
    dsimp only at bc
    have AV:=BO _ hg
    refine yk H1 rfl ?_
    simp only[jA,dv,dw,z4,dH,gf,ek,oe AV,sS,sT]
    refine And.intro (fun _=>?_) (fun h=>absurd h (by decide))
    rw[My bc]
    rfl
   |ok o2=>
   rw[hg]at H1 bc
   dsimp only at bc
   have yX:=rU _ hg
   have acK:=yX.1
   rw[List.length_append,List.length_singleton]at acK
   refine yk H1 rfl ?_
   simp only[eO,dv,dw,z4,dH,gf,ek,sS,sT]
   refine And.intro (fun h=>absurd h (by decide)) (fun _=>?_)
   refine aS (show aj none .add (.d (.int .i64 0)) (.d (.int .i64 1))=some (.d (.int .i64 1)) from rfl) ?_
   refine gK _ _ ?_
   simp only[ajZ,xM,hc.Ke,hc.Kf,Qq,sS,sT]
   refine And.intro (fun _=>?_) (fun h=>absurd h (by decide))
   refine And.intro (fun h=>absurd h (by decide)) (fun _=>?_)
   have pD:=abd nB.2 hc.fo hc.fG
   cases jE:fF t.el with
   |error e=>
    obtain⟨c0,s0⟩:=e
    rw[jE]at pD bc
    dsimp only at bc pD
    refine call2 pD ?_
    simp only[jA,dv,dw,z4,dH,gf,ek,oe (zt jE),sS,sT]
    refine And.intro (fun _=>?_) (fun h=>absurd h (by decide))
    rw[My bc]
    rfl
   |ok lu=>
   rw[jE]at pD bc
   dsimp only at bc pD
   have td:o2[o.length]? =some (ay.mk m u th sy [] true false):=by
    rw[yX.2 o.length (by rw[List.length_append,List.length_singleton];omega)]
    simp
   have Vk:j7 o2 o.length lu=o2.set o.length (ay.mk m u th sy lu true false):=by unfold j7;rw[td]
   rw[Vk]at bc
   have OM:o2≠[]:=fun he=>by rw[he]at td;simp at td
   have ho3:o2.set o.length (ay.mk m u th sy lu true false)≠[]:=fun he=>by
    have:=congrArg List.length he
    simp at this
    exact OM this
   refine call2 pD ?_
   simp only[eO,dv,dw,z4,dH,gf,ek,sS,sT]
   refine And.intro (fun h=>absurd h (by decide)) (fun _=>?_)
   refine And.intro (fun h=>absurd h (by decide)) (fun _=>?_)
   refine EV (fun _=>?_) (fun he=>absurd he OM)
   have an9:da (.d (.int .i64 (o.length:Int))) (ee o2).length =some o.length:=jJ (by rw[rQ];omega)
   have ka:setAt (bj (ee o2)) (o.length*7+4) [.d (bB 6 (aM lu))]=bj (ee (o2.set o.length (ay.mk m u th sy lu true false))):=
    Mx 4 (bB 6 (aM lu)) (ay.mk m u th sy lu true false) _ o.length _ td (by omega) rfl
   have hg3:=zk (o2.set o.length (ay.mk m u th sy lu true false))
   rw[List.length_set]at hg3
   simp only[an9,CC,ka,zr,Fe,sS]
   refine⟨rfl,by omega,?_⟩
   simp only[rQ,hg3,sS]
   have hnn:=ah.qC t.th
   have H2:=IH t.el (by omega) (o2.set o.length (ay.mk m u th sy lu true false)) m (o.length:Int) false hc.fo hc.fG nB.2 (by rw[List.length_set,acK,OL.1];omega)
   rw[xX ho3,aab ho3]at H2
   cases Vl:gL t.el (o2.set o.length (ay.mk m u th sy lu true false)) m (o.length:Int) false with
   |error e=>
    obtain⟨c0,s0⟩:=e
    rw[Vl]at H2 bc
    have AV:=BO _ Vl
    refine yk H2 rfl ?_
    simp only[jA,dv,dw,z4,dH,gf,ek,oe AV,sS,sT]
    refine And.intro (fun _=>?_) (fun h=>absurd h (by decide))
    rw[My bc]
    rfl
   |ok o4=>
   rw[Vl]at H2 bc
   refine yk H2 rfl ?_
   simp only[eO,dv,dw,z4,dH,gf,ek,sS,sT]
   refine And.intro (fun h=>absurd h (by decide)) (fun _=>?_)
   refine aS (show aj none .add (.d (.int .i64 1)) (.d (.int .i64 1))=some (.d (.int .i64 2)) from rfl) ?_
   refine gK _ _ ?_
   simp only[sS,sT]
   refine And.intro (fun h=>absurd h (by decide)) (fun _=>?_)
   refine aS (bf hi bX) ?_
   exact hI o4 bc
 ·simp only[sS,sT]
  refine And.intro (fun h=>absurd h (by simp)) (fun _=>?_)
  rw[List.take_length]at hJ
  simp only[uB,dv,dw,fu,dH,sS,sT]
  rw[hJ]
  exact⟨CI _,rfl⟩
theorem ad4(ts:List ah):GH ts:=by
 have key:∀n ts,ah.bQ ts<n→GH ts:=by
  intro n
  induction n with
  |zero=>intro ts h;omega
  |succ n ih=>exact fun ts h=>aeI ts fun iG h'=>ih iG (by omega)
 exact fun{L x}=>key _ ts (Nat.lt_succ_self _)
def gX:List bt→Nat→List ay→List aq→Except nA (List ay×List aq)
 |[],_,out,os=>.ok (out,os)
 |m::l,i,out,os=>(match fF m.ax with
  | .error e=>.error e
  | .ok sy=>(match gL m.ax out (i:Int) (-1) true with
    | .error e=>.error e
    | .ok o=>gX l (i+1) o (os++sy)))
theorem Rl:∀(a b:List bt)(i:Nat)(out:List ay)(os:List aq),gX (a++b) i out os=(match gX a i out os with| .error e=>.error e| .ok r=>gX b (i+a.length) r.1 r.2)
 |[],b,i,out,os=>rfl
 |m::a,b,i,out,os=>by
  rw[List.cons_append,gX,gX]
  cases fF m.ax with
  |error e=>rfl
  |ok sy=>
   dsimp only
   cases gL m.ax out (i:Int) (-1) true with
   |error e=>rfl
   |ok o=>
    dsimp only
    rw[Rl a b (i+1) o (os++sy),List.length_cons,show i+1+a.length=i+(a.length+1) by omega]
theorem aif{l:List bt}{i:Nat}{m:bt}(h:l[i]? =some m){o:List ay}{os:List aq}(ho:gX (l.take i) 0 [] []=.ok (o,os)):gX (l.take (i+1)) 0 [] []=(match fF m.ax with
  | .error e=>.error e
  | .ok sy=>(match gL m.ax o (i:Int) (-1) true with
    | .error e=>.error e
    | .ok o2=>.ok (o2,os++sy))):=by
 have hi:=(List.getElem?_eq_some_iff.1 h).1
 rw[dT h,Rl,ho]
 dsimp only
 rw[List.length_take,Nat.zero_add,Nat.min_eq_left (by omega),gX]
 cases fF m.ax with
 |error e=>rfl
 |ok sy=>
  dsimp only
  cases gL m.ax o (i:Int) (-1) true<;>rfl
theorem aac{l:List bt}{i:Nat}{e:nA}(h:gX (l.take i) 0 [] []=.error e):gX l 0 [] []=.error e:=by
 rw[←List.take_append_drop i l,Rl,h]
def svR(r:Except nA (List ay×List aq)):SV:=match r with
 | .error (c,s)=>.aK [.d (.sl .nil 0 []),.d (.sl .nil 0 []),.d (jA c s)]
 | .ok (o,os)=>.aK [iW o,aO 6 (aM os),.d eO]
theorem amv{m:bt}(h:dk m.ax){d:D}(hd:mW m d):aF Try.prog gl 24 [.d d] (match fF m.ax with| .error (c,s)=>.aK [.d (.sl .nil 0 []),.d (jA c s)]| .ok sy=>.aK [.d (bB 6 (aM sy)),.d eO]):=by
 have:=Wc h hd
 unfold fF
 unfold sJ bt.syms at this
 cases hc:ja [] (oz m.ax)with
 |some p=>obtain⟨c,s⟩:=p;rw[hc]at this;exact this
 |none=>rw[hc]at this;exact this
theorem EO{ts:List ah}(h:dk ts){sy:List aq}(hs:fF ts=.ok sy):sy.length≤4920:=by
 unfold fF at hs
 split at hs
 ·cases hs
 ·cases hs;exact Nat.le_trans (WX _) h.syms.1
theorem abe{P:Program}{gl:Nat→Option D}{f:FuncId}{args:List SV}{bk y:SV}{r1 r2:SV}{k:SV→SV→SV→Prop}(hH:aF P gl f args (.aK [bk,r1,r2]))(hd:aa bk=y)(hk:k r1 r2 bk):∃a b c,aF P gl f args (.aK [c,a,b])∧aa c=y∧k a b c:=⟨r1,r2,bk,hH,hd,hk⟩
theorem Zo{P:Program}{gl:Nat→Option D}{f:FuncId}{args:List SV}{r1 r2 r3:SV}{k:SV→SV→SV→Prop}(hH:aF P gl f args (.aK [r1,r2,r3]))(hk:k r1 r2 r3):∃a b c,aF P gl f args (.aK [a,b,c])∧k a b c:=⟨r1,r2,r3,hH,hk⟩
theorem aad(a b:List aq):aM a++aM b=aM (a++b):=by simp[aM]
theorem ad5{l:List bt}{L:List D}{x:D}(hx:aL 3 L x)(hl:sq l L)(h8:l.length≤8)(hm:∀m∈l,dk m.ax):aF Try.prog gl 54 [.d x] (svR (gX l 0 [] [])):=by
 have bX:l.length≤maxLen:=Nat.le_trans h8 (by decide)
 refine a8 (alQ ..) fun br=>?_
 have Ed:o9 (.d (.sl .nil 0 []))=some (iW []):=rfl
 simp only[Ed,hx.len,hl.len,sS,sT,sZ]
 refine xG (α:=List ay×List aq) (fun i a=>gX (l.take i) 0 [] []=.ok a∧a.1.length≤120*i∧a.2.length≤4920*i) (fun i a=>[iW a.1,aO 6 (aM a.2),.d x,.d (.int .i64 (l.length:Int)),.d (.int .i64 ((i:Nat):Int))]) (fun i a=>[[.d (.int .i64 0),.d (.int .i64 0),.d (.int .i64 0),.d (.str [])]]) l.length ([],[]) ⟨rfl,by simp,by simp⟩ (fun i a hi hJ I hI=>?_) (fun a hJ I=>?_)
 ·obtain⟨o,os⟩:=a
  obtain⟨hJ,Vm,OM⟩:=hJ
  dsimp only at Vm OM
  simp only[sS,sT]
  refine And.intro (fun _=>?_) (fun h=>absurd h (by simp;omega))
  obtain⟨m,cN⟩:=get_some hi
  obtain⟨y,hy,hZ⟩:=hl.at_ cN
  have cE:=hm m (List.mem_of_getElem? cN)
  have hS:=amv cE hZ
  have bc:=aif cN hJ
  cases hZ with
  |mk xs Lm zb Jd=>
  simp only[hx.at hy,Hp,EN,Dz,Rk,Ri,Ho,sS,sT]
  cases g9:fF m.ax with
  |error e=>
   obtain⟨c0,s0⟩:=e
   rw[g9]at hS bc
   dsimp only at hS bc
   refine call2 hS ?_
   simp only[jA,dv,dw,z4,dH,gf,ek,oe (zt g9),sS,sT]
   refine And.intro (fun _=>?_) (fun h=>absurd h (by decide))
   rw[aac bc]
   rfl
  |ok sy=>
   have GA:=EO cE g9
   rw[g9]at hS bc
   dsimp only at hS bc
   refine call2 hS ?_
   simp only[eO,dv,dw,z4,dH,gf,ek,sS,sT]
   refine And.intro (fun h=>absurd h (by decide)) (fun _=>?_)
   refine gB (Lc _ _) (by simp only[eG];omega) ?_
   have aN:=cE.sz
   have H1:=ad4 m.ax o (i:Int) (-1) true zb Jd cE (by omega)
   cases hg:gL m.ax o (i:Int) (-1) true with
   |error e=>
    obtain⟨c0,s0⟩:=e
    rw[hg]at H1 bc
    dsimp only at bc
    refine abe H1 (by rw[CX,Zm]) ?_
    simp only[jA,dv,dw,fu,dH,gf,ek,oe (BO _ hg),sS,sT]
    refine And.intro (fun _=>?_) (fun h=>absurd h (by decide))
    rw[aac bc]
    rfl
   |ok o2=>
    rw[hg]at H1 bc
    dsimp only at bc
    have OL:=(rU _ hg).1
    have fZ:=ah.qC m.ax
    refine abe H1 (by rw[CX,Zm]) ?_
    simp only[eO,dv,dw,fu,dH,gf,ek,sS,sT]
    refine And.intro (fun h=>absurd h (by decide)) (fun _=>?_)
    refine aS (bf hi bX) ?_
    have:=hI (o2,os++sy) ⟨bc,by dsimp only;omega,by simp only[List.length_append];omega⟩
    rw[aad]
    exact this
 ·obtain⟨o,os⟩:=a
  simp only[sS,sT]
  refine And.intro (fun h=>absurd h (by simp)) (fun _=>?_)
  have h1:=hJ.1
  rw[List.take_length]at h1
  simp only[uB,dv,dw,fu,dH,sS,sT]
  rw[h1]
  exact⟨CI _,jY _ _,rfl⟩
def tB(l:List ay)(b:ay):Bool:=if b.up<0 then true else(match l[b.up.toNat]? with
 |some p=>p.here&&(p.mark==b.vB)
 |none=>false)
def zD(l:List ay)(i:Nat):List ay:=match l[i]? with
 |some b=>l.set i {b with here:=tB l b}
 |none=>l
def kY(l:List ay)(i:Nat):List ay:=(List.range i).foldl zD l
def aY(l:List ay):List ay:=kY l l.length
theorem afG(l:List ay)(i:Nat):(zD l i).length =l.length:=by
 unfold zD
 split<;>simp
theorem Ll(l:List ay)(i:Nat):kY l (i+1)=zD (kY l i) i:=by
 rw[kY,List.range_succ,List.foldl_append];rfl
theorem CR(l:List ay):∀i,(kY l i).length =l.length
 |0=>rfl
 |i+1=>by rw[Ll,afG,CR l i]
def ay.same(a b:ay):Prop:=a.mo=b.mo∧a.up=b.up∧a.vB=b.vB∧a.th=b.th∧a.el=b.el∧a.mark=b.mark
theorem agW{l:List ay}{i j:Nat}{b:ay}(h:(zD l i)[j]? =some b):∃b',l[j]? =some b'∧b.same b':=by
 unfold zD at h
 split at h
 ·rename_i c hc
  rw[List.getElem?_set]at h
  split at h
  ·rename_i fp
   subst fp
   split at h
   ·cases h
    exact⟨c,hc,rfl,rfl,rfl,rfl,rfl,rfl⟩
   ·cases h
  ·exact⟨b,h,rfl,rfl,rfl,rfl,rfl,rfl⟩
 ·exact⟨b,h,rfl,rfl,rfl,rfl,rfl,rfl⟩
theorem ay.afH{a b c:ay}(h:a.same b)(k:b.same c):a.same c:=
 ⟨h.1.trans k.1,h.2.1.trans k.2.1,h.2.2.1.trans k.2.2.1,h.2.2.2.1.trans k.2.2.2.1,h.2.2.2.2.1.trans k.2.2.2.2.1,h.2.2.2.2.2.trans k.2.2.2.2.2⟩
theorem Rm{l:List ay}:∀{i j:Nat}{b:ay},(kY l i)[j]? =some b→∃b',l[j]? =some b'∧b.same b'
 |0,j,b,h=>⟨b,h,rfl,rfl,rfl,rfl,rfl,rfl⟩
 |i+1,j,b,h=>by
  rw[Ll]at h
  obtain⟨b1,h1,h2⟩:=agW h
  obtain⟨b2,h3,h4⟩:=Rm h1
  exact⟨b2,h3,ay.afH h2 h4⟩
def Je(l:List ay):Prop:=∀b∈l,b.up<0∨b.up<l.length
theorem Je.pl{l:List ay}(h:Je l)(i:Nat):Je (kY l i):=fun b hb=>by
 obtain⟨j,hj⟩:=List.mem_iff_getElem?.1 hb
 obtain⟨b',h1,h2⟩:=Rm hj
 rw[CR,h2.2.1]
 exact h b' (List.mem_of_getElem? h1)
theorem ab3(b:ay):b.cells[1]? =some (.d (.int .i64 b.up)):=rfl
theorem aoa(b:ay):b.cells[2]? =some (.d (.bool b.vB)):=rfl
theorem aob(b:ay):b.cells[5]? =some (.d (.bool b.mark)):=rfl
theorem aoc(b:ay):b.cells[6]? =some (.d (.bool b.here)):=rfl
theorem aod(a b:Bool):aj (some (false,[.bool])) .eql (.d (.bool a)) (.d (.bool b))=some (.d (.bool (a==b))):=rfl
theorem W0{l:List ay}(hu:Je l)(hl:l.length≤2^20):aF Try.prog gl 75 (qG 0 [iW l]) (.aK [iW (aY l)]):=by
 cases JW:l with
 |nil=>
  refine K3 bw a7 (hh:=acD) rfl (by decide) (fun h=>by cases h) ?_
  rw[ajD]
  intro br
  have e0:iW []=.d (.sl .nil ji []):=rfl
  have e1:ba (.d (.sl .nil ji []))=some (.d (.int .i64 0)):=rfl
  rw[e0]
  simp only[e1,sS,sT]
  intro I hI
  refine hI _ _ ?_
  simp only[sS,sT]
  refine And.intro (fun h=>absurd h (by decide)) (fun _=>?_)
  rfl
 |cons b0 l0=>
 rw[←JW]
 have bg:l≠[]:=by rw[JW];simp
 have bX:l.length≤maxLen:=Nat.le_trans hl (by decide)
 refine K3 bw a7 (hh:=h75) (by simp[SV.iZ,CI]) (by simp) (fun h=>?_) ?_
 ·have Vn:aY l≠[]:=fun he=>by
   have:=CR l l.length
   rw[show kY l l.length=aY l from rfl,he]at this
   simp at this;exact bg (List.length_eq_zero_iff.1 this.symm)
  rw[xX Vn]at h
  cases h
 rw[alW]
 intro br
 refine EV (fun _=>?_) (fun he=>absurd he bg)
 rw[show bj (ee l)=bj (ee (kY l 0)) from rfl]
 simp only[rQ]
 refine eX (fun i=>[.d (.int .i64 (l.length:Int)),.d (.int .i64 ((i:Nat):Int))]) (fun i=>[bj (ee (kY l i))]) l.length (fun i hi I hI=>?_) (fun I=>?_)
 ·simp only[sS,sT]
  refine And.intro (fun _=>?_) (fun h=>absurd h (by simp;omega))
  have mg:da (.d (.int .i64 (i:Int))) l.length=some i:=jJ hi
  have hlen:=CR l i
  have xa:=hu.pl i
  rw[Ll]at hI
  generalize kY l i=q at hlen xa hI ⊢
  obtain⟨b,hb⟩:=get_some (by omega:i<q.length)
  have bc:zD q i=q.set i {b with here:=tB q b}:=by unfold zD;rw[hb]
  rw[bc]at hI
  have fk:∀v,setAt (bj (ee q)) (i*7+6) [.d (.bool v)]=bj (ee (q.set i {b with here:=v})):=fun v=>Mx 6 (.bool v) {b with here:=v} q i b hb (by omega) rfl
  simp only[mg,HI hb (by omega:1<7),ab3,sS]
  have hle:i*7+6+1≤(bj (ee q)).length :=by rw[Fe,hlen];omega
  refine And.intro (fun h=>?_) (fun h=>?_)
  ·have hh:tB q b=true:=by unfold tB;rw[if_pos (by simpa using h)]
   rw[hh]at hI
   simp only[LS,sS]
   refine⟨rfl,hle,?_⟩
   refine aS (bf hi bX) ?_
   rw[fk]
   exact hI
  ·have hn:¬b.up<0:=by simpa using h
   have aP:b.up<q.length:=(xa b (List.mem_of_getElem? hb)).resolve_left hn
   obtain⟨k,hk⟩:=Int.eq_ofNat_of_zero_le (by omega:0≤b.up)
   have Gk:k<q.length:=by omega
   obtain⟨p,hp⟩:=get_some Gk
   have apV:da (.d (.int .i64 b.up)) l.length=some k:=by rw[hk,←hlen];exact jJ Gk
   have hh:tB q b=(p.here&&(p.mark==b.vB)):=by
    unfold tB
    rw[if_neg hn,hk,Int.toNat_natCast,hp]
   rw[hh]at hI
   simp only[apV,HI hp (by omega:6<7),HI hp (by omega:5<7),HI hb (by omega:2<7),aoa,aob,aoc,aod,LS,sS]
   refine And.intro (fun h=>?_) (fun h=>?_)
   ·rw[h,Bool.true_and]at hI
    refine⟨rfl,hle,?_⟩
    refine aS (bf hi bX) ?_
    rw[fk]
    exact hI
   ·rw[h,Bool.false_and]at hI
    refine⟨rfl,hle,?_⟩
    refine aS (bf hi bX) ?_
    rw[fk]
    exact hI
 ·simp only[sS,sT]
  refine And.intro (fun h=>absurd h (by simp)) (fun _=>?_)
  have hlen:=CR l l.length
  have hg:=zk (kY l l.length)
  rw[hlen]at hg
  simp only[zr,hg,sS]
  have Vn:aY l≠[]:=fun he=>by
   rw[show kY l l.length=aY l from rfl,he]at hlen
   simp at hlen;exact bg (List.length_eq_zero_iff.1 hlen.symm)
  rw[xX Vn]
  rfl
theorem ad6(L:List D)(hl:L.length≤2^40):aF Try.prog gl 93 [.d (bB 6 L)] (aO 6 L):=by
 refine a8 (alp ..) fun br=>?_
 cases L with
 |nil=>
  simp only[sS,sT,sZ,bB,nil_eq,aO]
  refine And.intro (fun _=>?_) (fun h=>absurd h (by simp))
  trivial
 |cons a L=>
  simp only[sS,sT,sZ,bB,nil_eq,aO]
  refine And.intro (fun h=>absurd h (by simp)) (fun _=>?_)
  refine⟨rfl,Hi (sz:=6) (dh:=72) (L:=[]) (M:=a::L) (by simp[elems]) (by simp only[List.length_nil,Nat.zero_add];omega) ?_⟩
  simp[kC,SV.aA]
structure Ty(l:List ay)(x:SV):Prop where
 nT:aa x=x
 len:ba x=some (.d (.int .i64 (l.length:Int)))
 at_:∀{i:Nat}{b:ay},l[i]? =some b→∃p,aJ 7 x (.d (.int .i64 (i:Int)))=some p∧aa p=p∧aH true 7 p=some (.d b.enc)
theorem aae:∀(l:List ay)(j:Nat),(bj (ee l)).drop (j*7)=bj (ee (l.drop j))
 |[],j=>by simp[ee,bj]
 |s::l,0=>rfl
 |s::l,j+1=>by
  rw[zq,List.drop_append]
  have h1:s.cells.length=7:=rfl
  rw[h1,show(j+1)*7-7=j*7 by omega,List.drop_of_length_le (by rw[h1];omega),aae l j]
  rfl
theorem Zp{l:List ay}{j:Nat}{y:ay}(h:l[j]? =some y):ai true 7 (j*7) (bj (ee l))=some (.d y.enc):=by
 have hj:=(List.getElem?_eq_some_iff.1 h).1
 unfold ai
 rw[cond_true,if_pos (by rw[Fe];omega),aae,zi h,zq]
 rfl
theorem abf:∀(l:List ay),(bj (ee l)).map aa=bj (ee l)
 |[]=>rfl
 |s::l=>by rw[zq,List.map_append,abf l];rfl
def Sy(l:List ay):SV:=.dg l.length 7 (bj (ee l))
theorem agX(l:List ay):Ty l (Sy l):=by
 refine⟨rfl,rfl,fun{i b}hb=>⟨.ref (bj (ee l)) (i*7),?_,rfl,?_⟩⟩
 ·have h1:da (.d (.int .i64 (i:Int))) l.length=some i:=jJ (List.getElem?_eq_some_iff.1 hb).1
  simp only[aJ,Sy,h1,if_true]
 ·simp only[aH,Zp hb,aa]
theorem aih(s:Nat):Ty [] (.d (.sl .nil s [])):=⟨rfl,rfl,fun{i b}hb=>by simp at hb⟩
def nX(b:ay):List aq:=if b.here then(if b.mark then b.th else b.el)else []
def iw(l:List ay)(os:List aq):List aq:=os++l.flatMap nX
theorem aeJ{l:List ay}{i:Nat}{b:ay}(h:l[i]? =some b)(os:List aq):iw (l.take (i+1)) os=iw (l.take i) os++nX b:=by
 rw[dT h,iw,iw,List.flatMap_append];simp
theorem Yx{l:List ay}{os:List aq}{c:Nat}(hb:∀b∈l,b.th.length≤c∧b.el.length≤c):(iw l os).length ≤os.length+l.length*c:=by
 have:(l.flatMap nX).length ≤l.length*c:=LX fun b eA=>by
  unfold nX
  have:=hb b eA
  split
  ·split<;>omega
  ·simp
 rw[iw,List.length_append];omega
theorem W3{l:List ay}{x:SV}(hx:Ty l x)(acL:pc [x]=none){os:List aq}{c:Nat}(hb:∀b∈l,b.th.length≤c∧b.el.length≤c)(hc:os.length+l.length*c≤2^30)(hl:l.length≤2^20):aF Try.prog gl 76 [x,.d (bB 6 (aM os))] (aO 6 (aM (iw l os))):=by
 have bX:l.length≤maxLen:=Nat.le_trans hl (by decide)
 have aoe:pc [x,.d (bB 6 (aM os))]=none:=by
  unfold pc at acL ⊢
  cases x with
  |aK vs=>cases vs with
   |nil=>rfl
   |cons v vs=>cases v<;>first|rfl|cases acL
  |_=>rfl
 refine cz bw a7 (h:=h76) ?_ aoe
 rw[alX]
 intro br
 simp only[sS,sT,sZ]
 refine bH (ad6 (aM os) (by rw[eG];omega)) (jX _ _) ?_
 simp only[hx.nT,hx.len,sS]
 rw[show aO 6 (aM os)=aO 6 (aM (iw (l.take 0) os)) by simp[iw]]
 refine eX (fun i=>[aO 6 (aM (iw (l.take i) os)),x,.d (.int .i64 (l.length:Int)),.d (.int .i64 ((i:Nat):Int))]) (fun i=>[]) l.length (fun i hi I hI=>?_) (fun I=>?_)
 ·simp only[hx.nT,sS,sT]
  refine And.intro (fun _=>?_) (fun h=>absurd h (by simp;omega))
  obtain⟨b,lj⟩:=get_some hi
  obtain⟨p,Kj,Kl,hp3⟩:=hx.at_ lj
  have NX:=hb b (List.mem_of_getElem? lj)
  have hle:=Yx (l:=l.take i) (os:=os) (c:=c) (fun b' h'=>hb b' (List.mem_of_mem_take h'))
  have aP:(l.take i).length =i:=by rw[List.length_take];omega
  rw[aP]at hle
  have yT:(i+1)*c≤l.length*c:=Nat.mul_le_mul_right _ hi
  rw[Nat.succ_mul]at yT
  rw[aeJ lj,←aad]at hI
  unfold nX at hI
  simp only[Kj,Kl,hp3,LH,Iw,NA,ab2,an5,MU,Sx,sS,sT]
  refine And.intro (fun h=>?_) (fun h=>?_)
  ·rw[h,if_pos rfl]at hI
   refine And.intro (fun h2=>?_) (fun h2=>?_)
   ·rw[h2,if_pos rfl]at hI
    refine gB (Lc _ _) (by simp only[eG];omega) ?_
    refine aS (bf hi bX) ?_
    exact hI
   ·rw[h2,if_neg (by decide)]at hI
    try simp only[h]
    refine And.intro (fun _=>?_) (fun h3=>absurd h3 (by simp))
    refine gB (Lc _ _) (by simp only[eG];omega) ?_
    refine aS (bf hi bX) ?_
    exact hI
  ·rw[h,if_neg (by decide)]at hI
   try simp only[h]
   refine And.intro (fun h3=>absurd h3 (by simp)) (fun _=>?_)
   refine aS (bf hi bX) ?_
   simp only[aM,List.map_nil,List.append_nil]at hI
   exact hI
 ·simp only[sS,sT]
  refine And.intro (fun h=>absurd h (by simp)) (fun _=>?_)
  rw[List.take_length]
  exact⟨jY _ _,rfl⟩
def kN(bN:List aq)(x:aq):List (List UInt8):=(bN.filter (fe x)).flatMap aq.perms
def qD(bN:List aq)(x:aq):List (List UInt8):=x.perms.filter fun p=> !gr p (kN bN x)
def yJ(bN:List aq)(x:aq):List aq:=if !x.cV||wo x.kind x.name then []else
 if !bN.any (fe x)||decide (0<(qD bN x).length)then [{x with perms:=qD bN x}]else []
def fY(eN bN:List aq):List aq:=eN.flatMap (yJ bN)
theorem Zq{l:List aq}{i:Nat}{y:aq}(h:l[i]? =some y)(x:aq):kN (l.take (i+1)) x=kN (l.take i) x++if fe x y then y.perms else []:=by
 rw[dT h,kN,kN,List.filter_append,List.flatMap_append]
 by_cases hd:fe x y=true<;>simp[hd]
theorem abg(l:List aq)(x:aq):(kN l x).length ≤dt l:=by
 induction l with
 |nil=>simp[kN,dt]
 |cons y l ih=>
  have:kN (y::l) x=(if fe x y then y.perms else [])++kN l x:=by
   unfold kN
   by_cases hd:fe x y=true
   ·simp[List.filter_cons_of_pos hd,hd]
   ·simp[List.filter_cons_of_neg hd,hd]
  rw[this,List.length_append]
  have h2:dt (y::l)=y.perms.length+dt l:=by simp[dt]
  rw[h2]
  split
  ·omega
  ·simp;omega
theorem WA{p:List UInt8→Bool}{l:List (List UInt8)}{i:Nat}{k:List UInt8}(h:l[i]? =some k):(l.take (i+1)).filter p=(l.take i).filter p++if p k then [k]else []:=by
 rw[dT h,List.filter_append]
 by_cases hp:p k=true<;>simp[hp]
theorem aii(bN:List aq)(x:aq):(yJ bN x).length ≤1:=by
 unfold yJ
 split
 ·simp
 ·split<;>simp
theorem Yy{l:List aq}{i:Nat}{y:aq}(h:l[i]? =some y)(bN:List aq):fY (l.take (i+1)) bN=fY (l.take i) bN++yJ bN y:=by
 rw[dT h,fY,fY,List.flatMap_append];simp
theorem Zr(l bN:List aq):(fY l bN).length ≤l.length:=by
 have:=LX (l:=l) (f:=yJ bN) (c:=1) fun x _=>aii bN x
 rw[Nat.mul_one]at this
 exact this
theorem acM(x:aq)(p:List (List UInt8)):setAt x.cells 3 [.d (bB 1 (cA p))]=aq.cells {x with perms:=p}:=rfl
theorem L3(s:aq):bz 6 1 [(0,s.enc)]=true:=rfl
theorem aij(a b:List (List UInt8)):cA a++cA b=cA (a++b):=by simp[cA]
theorem Rn(s:List UInt8):aH false 1 (.aX (.str s) 0)=some (.d (.str s)):=rfl
theorem adL(eN bN:List aq){x y:D}(hx:aL 6 (aM eN) x)(hy:aL 6 (aM bN) y)(hn:eN.length≤2^30)(hh:bN.length≤2^30)(hp:dt bN≤2^30)(Vo:∀s∈eN,s.perms.length≤2^30):
  aF Try.prog gl 77 [.d x,.d y] (aO 6 (aM (fY eN bN))):=by
 have sU:eN.length≤maxLen:=Nat.le_trans hn (by decide)
 have Km:bN.length≤maxLen:=Nat.le_trans hh (by decide)
 refine a8 (ali ..) fun br=>?_
 simp only[hx.len,eG,sS,sT,sZ]
 refine eX (fun i=>[.d y,aO 6 (aM (fY (eN.take i) bN)),.d x,.d (.int .i64 (eN.length:Int)),.d (.int .i64 ((i:Nat):Int))]) (fun i=>[]) eN.length (fun i hi I hI=>?_) (fun I=>?_)
 ·simp only[sS,sT]
  refine And.intro (fun _=>?_) (fun h=>absurd h (by simp;omega))
  obtain⟨s,hs⟩:=get_some hi
  have ml:=Vo s (List.mem_of_getElem? hs)
  have Jf:s.perms.length≤maxLen:=Nat.le_trans ml (by decide)
  have rD:=Zr (eN.take i) bN
  rw[List.length_take]at rD
  rw[Yy hs]at hI
  simp only[hx.at (mP hs),rS,gC,gn,iK,iv,ic,iI,iJ,sS,sT]
  unfold yJ at hI
  refine And.intro (fun h=>?_) (fun h=>?_)
  ·have h':(!s.cV)=true:=h
   rw[h',Bool.true_or,if_pos rfl,List.append_nil]at hI
   refine aS (bf hi sU) ?_
   exact hI
  have h':(!s.cV)=false:=h
  rw[h',Bool.false_or]at hI
  refine eD (Pp s.kind s.name) ?_
  simp only[sS]
  refine And.intro (fun h2=>?_) (fun h2=>?_)
  ·rw[if_pos h2,List.append_nil]at hI
   refine aS (bf hi sU) ?_
   exact hI
  rw[if_neg (by rw[h2];simp)]at hI
  simp only[hy.len,eG,sS]
  refine eX (fun k=>[.d y,aO 6 (aM (fY (eN.take i) bN)),.d (.bool ((bN.take k).any (fe s))),aO 1 (cA (kN (bN.take k) s)),.d x,.d (.int .i64 (eN.length:Int)),.d (.int .i64 ((i:Nat):Int)),.d y,.d (.int .i64 (bN.length:Int)),.d (.int .i64 ((k:Nat):Int))]) (fun k=>[s.cells]) bN.length (fun k hk I2 cF=>?_) (fun I2=>?_)
  ·simp only[sS,sT]
   refine And.intro (fun _=>?_) (fun h=>absurd h (by simp;omega))
   obtain⟨t,ht⟩:=get_some hk
   have gG:=abg (bN.take k) s
   have Jw:=Cz ht
   have apW:=Ey bN (k+1)
   rw[Zj ht,Zq ht]at cF
   simp only[hy.at (mP ht),rS,gC,gn,iK,iv,ic,iI,lD,iJ,sS,sT]
   have skip:fe s t=false→ab (aj none .add (.d (.int .i64 ((k:Nat):Int))) (.d (.int .i64 1))) fun r=>I2 [.d y,aO 6 (aM (fY (eN.take i) bN)),.d (.bool ((bN.take k).any (fe s))),aO 1 (cA (kN (bN.take k) s)),.d x,.d (.int .i64 (eN.length:Int)),.d (.int .i64 ((i:Nat):Int)),.d y,.d (.int .i64 (bN.length:Int)),aa r] [s.cells]:=fun hd=>by
    rw[hd,Bool.or_false,if_neg (by decide),List.append_nil]at cF
    refine aS (bf hk Km) ?_
    exact cF
   refine And.intro (fun h3=>?_) (fun h3=>?_)
   ·refine And.intro (fun h4=>?_) (fun h4=>?_)
    ·have h5:aj (some (false,[.str])) .eql (.d (.str t.name)) (.d (.str s.name))=some (.d (.bool (t.name==s.name))):=Bs _ _
     simp only[h5,sS]
     refine And.intro (fun h6=>?_) (fun h6=>?_)
     ·have hd:fe s t=true:=by rw[fe,show(!t.cV)=true from h3,show(t.kind==s.kind)=true from h4,h6];rfl
      rw[hd,Bool.or_true,if_pos rfl,←aij]at cF
      refine gB (Lc _ _) (by simp only[iu];omega) ?_
      refine aS (bf hk Km) ?_
      exact cF
     ·exact skip (by rw[fe,show(!t.cV)=true from h3,show(t.kind==s.kind)=true from h4,h6];rfl)
    ·exact skip (by rw[fe,show(!t.cV)=true from h3,show(t.kind==s.kind)=false from h4];rfl)
   ·exact skip (by rw[fe,show(!t.cV)=false from h3];rfl)
  ·simp only[sS,sT]
   refine And.intro (fun h=>absurd h (by simp)) (fun _=>?_)
   rw[List.take_length]
   have gG:=abg bN s
   have my:(kN bN s).length ≤maxLen:=Nat.le_trans (Nat.le_trans gG hp) (by decide)
   simp only[lD,(cm 1 (cA s.perms)).len,iu,sS]
   refine eX (fun k=>[.d y,aO 6 (aM (fY (eN.take i) bN)),.d (.bool (bN.any (fe s))),aO 1 (cA (kN bN s)),aO 1 (cA ((s.perms.take k).filter fun p=> !gr p (kN bN s))),.d x,.d (.int .i64 (eN.length:Int)),.d (.int .i64 ((i:Nat):Int)),.d (bB 1 (cA s.perms)),.d (.int .i64 (s.perms.length:Int)),.d (.int .i64 ((k:Nat):Int))]) (fun k=>[s.cells]) s.perms.length (fun k hk I3 gK=>?_) (fun I3=>?_)
   ·simp only[sS,sT]
    refine And.intro (fun _=>?_) (fun h=>absurd h (by simp;omega))
    obtain⟨t,ht⟩:=get_some hk
    have oF:=List.length_filter_le (fun p=> !gr p (kN bN s)) (s.perms.take k)
    rw[List.length_take]at oF
    rw[WA ht]at gK
    simp only[(cm 1 (cA s.perms)).at (xL ht),Rn,ej,sS]
    refine eD (Wb (kN bN s) (cm 1 _) my t) ?_
    simp only[iJ,sS]
    refine And.intro (fun h3=>?_) (fun h3=>?_)
    ·have lh:(!gr t (kN bN s))=true:=h3
     rw[if_pos lh,←Ld]at gK
     simp only[Lx,Mr,Ly,sS,sT]
     refine gB (rK 1 _) (by rw[iu];simp only[List.length_singleton];omega) ?_
     refine aS (bf hk Jf) ?_
     exact gK
    ·have lh:(!gr t (kN bN s))=false:=h3
     rw[if_neg (by rw[lh];simp),List.append_nil]at gK
     refine aS (bf hk Jf) ?_
     exact gK
   ·simp only[sS,sT]
    refine And.intro (fun h=>absurd h (by simp)) (fun _=>?_)
    rw[List.take_length]
    have qU:(s.perms.filter fun p=> !gr p (kN bN s))=qD bN s:=rfl
    rw[qU]
    simp only[ej,CC,acM,fX,sS]
    have fin:(!bN.any (fe s)||decide (0<(qD bN s).length))=true→cb 6 72 (aO 6 (aM (fY (eN.take i) bN))) (.full 6 [aq.enc {s with perms:=qD bN s}]) fun r=>ab (aj none .add (.d (.int .i64 ((i:Nat):Int))) (.d (.int .i64 1))) fun r2=>I [.d y,r,.d x,.d (.int .i64 (eN.length:Int)),aa r2] []:=fun hc=>by
     rw[if_pos hc]at hI
     refine gB (rK 6 _) (by simp only[eG,List.length_singleton];omega) ?_
     refine aS (bf hi sU) ?_
     have e:aM (fY (eN.take i) bN)++[aq.enc {s with perms:=qD bN s}]=aM (fY (eN.take i) bN++[{s with perms:=qD bN s}]):=by simp[aM]
     rw[e]
     exact hI
    refine And.intro (fun h3=>?_) (fun h3=>?_)
    ·have lh:(!bN.any (fe s))=true:=h3
     refine⟨rfl,by simp only[gn];decide,?_⟩
     simp only[dG,L3,kp,sS,sT]
     exact fin (by rw[lh];rfl)
    ·have lh:(!bN.any (fe s))=false:=h3
     simp only[(cm 1 (cA (qD bN s))).len,iu,sS]
     refine And.intro (fun h4=>?_) (fun h4=>?_)
     ·refine⟨rfl,by simp only[gn];decide,?_⟩
      simp only[dG,L3,kp,sS,sT]
      exact fin (by rw[lh,Bool.false_or];simp at h4 ⊢;omega)
     ·rw[if_neg (by rw[lh,Bool.false_or];simp at h4 ⊢;omega),List.append_nil]at hI
      refine aS (bf hi sU) ?_
      exact hI
 ·simp only[sS,sT]
  refine And.intro (fun h=>absurd h (by simp)) (fun _=>?_)
  rw[List.take_length]
  exact⟨jY _ _,rfl⟩
def gS(l:List ay)(hv:List aq)(i:Nat):Bool:=match l[i]? with
 |some b=>b.here&&(b.mark&&decide (0<(fY b.th hv).length))
 |none=>false
def lP(l:List ay)(hv:List aq):List Nat:=(List.range l.length).filter (gS l hv)
def xY(l:List ay)(hv:List aq)(i:Nat):List Nat:=(List.range i).filter (gS l hv)
theorem aeK(l:List ay)(hv:List aq)(i:Nat):xY l hv (i+1)=xY l hv i++if gS l hv i then [i]else []:=by
 rw[xY,List.range_succ,List.filter_append]
 by_cases h:gS l hv i=true<;>simp[xY,h]
theorem XH(l:List ay)(hv:List aq)(i:Nat):(xY l hv i).length ≤i:=by
 have:=List.length_filter_le (gS l hv) (List.range i)
 rwa[List.length_range]at this
theorem agY{l:List ay}{hv:List aq}{i k:Nat}(h:k∈xY l hv i):k<i:=by
 have:=(List.mem_filter.1 h).1
 rwa[List.mem_range]at this
def mh(l:List ay)(i:Nat):List ay:=match l[i]? with
 |some b=>l.set i {b with mark:=false}
 |none=>l
def jU(l:List ay)(q:List Nat):List ay:=q.foldl mh l
theorem Zs(l:List ay)(i:Nat):(mh l i).length =l.length:=by
 unfold mh;split<;>simp
theorem HJ:∀(q:List Nat)(l:List ay),(jU l q).length =l.length
 |[],l=>rfl
 |i::q,l=>by rw[jU,List.foldl_cons];exact(HJ q (mh l i)).trans (Zs l i)
theorem aik{l:List ay}{q:List Nat}{j k:Nat}(h:q[j]? =some k):jU l (q.take (j+1))=mh (jU l (q.take j)) k:=by
 rw[dT h,jU,jU,List.foldl_append];rfl
def qg:Nat→List ay→List aq→List ay
 |0,l,_=>l
 |f+1,l,os=>if lP (aY l) (iw (aY l) os)=[]then aY l else qg f (jU (aY l) (lP (aY l) (iw (aY l) os))) os
def qw(l:List ay)(os:List aq):List ay:=qg (l.length+1) l os
structure GF(b:ay):Prop where
 th:b.th.length≤4920
 el:b.el.length≤4920
 Kn:dt b.th≤196800
 Vp:dt b.el≤196800
structure wv(l:List ay)(os:List aq):Prop where
 len:l.length≤960
 up:Je l
 ok:∀b∈l,GF b
 ON:os.length≤39360
 pos:dt os≤1574400
def ko(l l':List ay):Prop:=l'.length=l.length∧∀(j:Nat)b',l'[j]? =some b'→∃b,l[j]? =some b∧b'.up=b.up∧b'.th=b.th∧b'.el=b.el∧b'.mo=b.mo∧b'.vB=b.vB
theorem wv.ur{l l':List ay}{os:List aq}(h:wv l os)(hs:ko l l'):wv l' os:=by
 refine⟨by rw[hs.1];exact h.len,fun b hb=>?_,fun b hb=>?_,h.ON,h.pos⟩
 ·obtain⟨j,hj⟩:=List.mem_iff_getElem?.1 hb
  obtain⟨b',h1,h2,_⟩:=hs.2 j b hj
  rw[h2,hs.1]
  exact h.up b' (List.mem_of_getElem? h1)
 ·obtain⟨j,hj⟩:=List.mem_iff_getElem?.1 hb
  obtain⟨b',h1,h2,h3,h4,_⟩:=hs.2 j b hj
  have:=h.ok b' (List.mem_of_getElem? h1)
  exact⟨by rw[h3];exact this.th,by rw[h4];exact this.el,by rw[h3];exact this.Kn,by rw[h4];exact this.Vp⟩
theorem ko.trans{a b c:List ay}(h:ko a b)(k:ko b c):ko a c:=by
 refine⟨k.1.trans h.1,fun j x hx=>?_⟩
 obtain⟨y,h1,h2,h3,h4,h5,h6⟩:=k.2 j x hx
 obtain⟨z,k1,k2,k3,k4,k5,k6⟩:=h.2 j y h1
 exact⟨z,k1,h2.trans k2,h3.trans k3,h4.trans k4,h5.trans k5,h6.trans k6⟩
theorem tk(l:List ay):ko l (aY l):=by
 refine⟨CR l _,fun j b hb=>?_⟩
 obtain⟨b',h1,h2⟩:=Rm hb
 exact⟨b',h1,h2.2.1,h2.2.2.2.1,h2.2.2.2.2.1,h2.1,h2.2.2.1⟩
theorem ail(l:List ay)(i:Nat):ko l (mh l i):=by
 refine⟨Zs l i,fun j b hb=>?_⟩
 unfold mh at hb
 split at hb
 ·rename_i c hc
  rw[List.getElem?_set]at hb
  split at hb
  ·rename_i fp
   subst fp
   split at hb
   ·cases hb;exact⟨c,hc,rfl,rfl,rfl,rfl,rfl⟩
   ·cases hb
  ·exact⟨b,hb,rfl,rfl,rfl,rfl,rfl⟩
 ·exact⟨b,hb,rfl,rfl,rfl,rfl,rfl⟩
theorem ko.refl(l:List ay):ko l l:=⟨rfl,fun j b h=>⟨b,h,rfl,rfl,rfl,rfl,rfl⟩⟩
theorem EW:∀(q:List Nat)(l:List ay),ko l (jU l q)
 |[],l=>ko.refl l
 |i::q,l=>(ail l i).trans (EW q (mh l i))
theorem G2(a b:List aq):dt (a++b)=dt a+dt b:=by simp[dt]
theorem W5{l:List aq}{s:aq}(h:s∈l):s.perms.length≤dt l:=by
 induction l with
 |nil=>simp at h
 |cons y l ih=>
  have h2:dt (y::l)=y.perms.length+dt l:=by simp[dt]
  rcases List.mem_cons.1 h with rfl|h
  ·omega
  ·have:=ih h;omega
theorem wv.there{l:List ay}{os:List aq}(h:wv l os):(iw l os).length ≤2^30∧dt (iw l os)≤2^30:=by
 have h1:=Yx (l:=l) (os:=os) (c:=4920) fun b hb=>⟨(h.ok b hb).th,(h.ok b hb).el⟩
 have hl:=h.len
 have hp:∀q:List ay,(∀b∈q,GF b)→dt (q.flatMap nX)≤q.length*196800:=by
  intro q
  induction q with
  |nil=>intro _;simp[dt]
  |cons b q ih=>
   intro hq
   have hb:=hq b (by simp)
   have:=ih fun x hx=>hq x (by simp[hx])
   rw[List.flatMap_cons,G2,List.length_cons,Nat.succ_mul]
   have h2:dt (nX b)≤196800:=by
    unfold nX
    split
    ·split
     ·exact hb.Kn
     ·exact hb.Vp
    ·simp[dt]
   omega
 have h3:=hp l h.ok
 have h4:=h.ON
 have h5:=h.pos
 have h6:l.length*4920≤960*4920:=Nat.mul_le_mul_right _ hl
 have h7:l.length*196800≤960*196800:=Nat.mul_le_mul_right _ hl
 rw[show dt (iw l os)=dt os+dt (l.flatMap nX) from G2 _ _]
 constructor<;>omega
def zc(x:SV)(q:List Nat):Prop:=(x=.d (.sl .nil ji [])∧q=[])∨x=.bh 1 (db q)
theorem Yz:zW Try.prog 38 (.d (.sl .nil ji []))=some (.d (.sl .nil ji [])):=by kernel_rfl
theorem aof(L:List D):zW Try.prog 38 (.bh 1 L)=some (.bh 1 (L.map fun _=>.int .i64 0)):=by kernel_rfl
theorem YA:zX Try.prog 38 (.d (.sl .nil ji []))=some (.d (.sl .nil ji [])):=by kernel_rfl
theorem aog(L:List D):zX Try.prog 38 (.bh 1 L)=some (.bh 1 []):=by kernel_rfl
theorem zc.cut{x:SV}{q:List Nat}(h:zc x q):∃y z,zW Try.prog 38 x=some y∧zX Try.prog 38 y=some z∧zc z []:=by
 rcases h with⟨rfl,rfl⟩|rfl
 ·exact⟨_,_,Yz,YA,.inl ⟨rfl,rfl⟩⟩
 ·exact⟨_,_,aof _,aog _,.inr rfl⟩
theorem zc.app{x:SV}{q:List Nat}(h:zc x q){i dh:Nat}{k:SV→Prop}(hb:(q.length+1)*dh≤140737488355328)(hk:∀y,zc y (q++[i])→k y):cb 1 dh x (.full 1 [.int .i64 (i:Int)]) k:=by
 rcases h with⟨rfl,rfl⟩|rfl
 ·unfold cb mc
  simp only[elems,if_true]
  exact⟨by simpa using hb,hk _ (.inr rfl)⟩
 ·unfold cb mc
  simp only[elems,if_true]
  refine⟨by simpa[oa]using hb,hk _ (.inr ?_)⟩
  rw[Li]
theorem zc.box{x:SV}{q:List Nat}(h:zc x q){A:List D→Prop}{B:Prop}(h1:A (db q))(h2:q=[]→x=.d (.sl .nil ji [])→B):ij x 1 A B:=by
 rcases h with⟨rfl,hq⟩|rfl
 ·exact h2 hq rfl
 ·exact⟨rfl,h1⟩
theorem QU:∀(q:List Nat),bj (db q)=(db q).map SV.d
 |[]=>rfl
 |k::q=>by
  have:=QU q
  show(D.int .i64 (k:Int)).cells.map SV.d++bj (db q)=_
  rw[this];rfl
theorem aaf:∀(q:List Nat),fc false 1 q.length (db q)=some (db q)
 |[]=>rfl
 |k::q=>by
  have h1:db (k::q)=.int .i64 (k:Int)::db q:=rfl
  rw[h1]
  simp only[List.length_cons,fc,List.drop_one,List.tail_cons,aaf q,List.take_succ_cons,List.take_zero]
  rw[if_pos (by omega)]
  rfl
theorem aim{q:List Nat}{j k:Nat}(h:q[j]? =some k):ai false 1 (j*1) (bj (db q))=some (.d (.int .i64 (k:Int))):=by
 rw[QU,ai,cond_false,Nat.mul_one,List.getElem?_map,CW h];rfl
theorem Sz{P:Program}{gl:Nat→Option D}{f:FuncId}{args:List SV}{bk y:SV}{k:SV→Prop}(hH:aF P gl f args (.aK [bk]))(hd:aa bk=y)(hk:k bk):∃c,aF P gl f args (.aK [c])∧aa c=y∧k c:=⟨bk,hH,hd,hk⟩
theorem aag{a b:List ay}(h:a.length=b.length):DB a=DB b:=by
 cases a<;>cases b<;>first|rfl|simp at h
theorem ain{l:List ay}{k:Nat}{b:ay}(h:l[k]? =some b):setAt (bj (ee l)) (k*7+5) [.d (.bool false)]=bj (ee (mh l k)):=by
 have:mh l k=l.set k {b with mark:=false}:=by unfold mh;rw[h]
 rw[this]
 exact Mx 5 (.bool false) {b with mark:=false} l k b h (by omega) rfl
theorem aio(n:Nat)(A:List D→Prop)(B:Prop):ij (.d (.sl .nil ji [])) n A B=B:=rfl
theorem afI{os:List aq}(ho:os.length≤2^30):aF Try.prog gl 55 (qG 0 [iW [],.d (bB 6 (aM os))]) (.aK [iW (qw [] os)]):=by
 have hcf:qw [] os=[]:=by simp[qw,qg,lP,aY,kY]
 rw[hcf]
 refine K3 bw a7 (hh:=acC) (by simp[SV.iZ,CI,SV.aA]) (by simp) (fun h=>by cases h) ?_
 rw[ajC]
 intro br
 have Ed:o9 (.d (.sl .nil 0 []))=some (.d (.sl .nil ji [])):=rfl
 have e0:iW []=.d (.sl .nil ji []):=rfl
 have e1:ba (.d (.sl .nil ji []))=some (.d (.int .i64 0)):=rfl
 have e2:aj none .add (.d (.int .i64 0)) (.d (.int .i64 1))=some (.d (.int .i64 1)):=rfl
 simp only[Ed,e0,e1,e2,sS,sT,sZ]
 intro I hI
 refine hI _ _ ?_
 simp only[sS,sT]
 refine And.intro (fun _=>?_) (fun h=>absurd h (by decide))
 refine Sz (show aF _ gl _ _ _ from W0 (l:=[]) (fun b hb=>by simp at hb) (by simp)) rfl ?_
 have T6:iW (aY [])=.d (.sl .nil ji []):=rfl
 simp only[T6,sS]
 refine bH (W3 (l:=[]) (x:=.d (.sl .nil ji [])) (aih _) rfl (os:=os) (c:=0) (fun b hb=>by simp at hb) (by simp only[List.length_nil];omega) (by simp)) (jX _ _) ?_
 simp only[Yz,YA,e1,ej,sS]
 intro I2 cF
 refine cF _ _ ?_
 simp only[sS,sT]
 refine And.intro (fun h=>absurd h (by decide)) (fun _=>?_)
 rw[aio]
 simp only[e1,j4,sS]
 refine And.intro (fun _=>?_) (fun h=>absurd h (by decide))
 trivial
theorem ad7{l:List ay}{os:List aq}(hc:wv l os):aF Try.prog gl 55 (qG 0 [iW l,.d (bB 6 (aM os))]) (.aK [iW (qw l os)]):=by
 by_cases bg:l=[]
 ·subst bg
  exact afI (by have:=hc.ON;omega)
 have hl9:=hc.len
 have bX:l.length≤maxLen:=Nat.le_trans hl9 (by decide)
 have aoh:∀f q,q≠[]→qg f q os≠[]:=by
  intro f
  induction f with
  |zero=>intro q h;exact h
  |succ f ih=>
   intro q h
   rw[qg]
   have hp:aY q≠[]:=fun he=>by
    have:=(tk q).1
    rw[he]at this;exact h (List.length_eq_zero_iff.1 this.symm)
   split
   ·exact hp
   ·refine ih _ fun he=>?_
    have:=HJ (lP (aY q) (iw (aY q) os)) (aY q)
    rw[he]at this;exact hp (List.length_eq_zero_iff.1 this.symm)
 refine K3 bw a7 (hh:=h55) (by simp[SV.iZ,CI,SV.aA]) (by simp) (fun h=>?_) ?_
 ·unfold qw at h;rw[xX (aoh _ l bg)]at h;cases h
 rw[alR]
 intro br
 refine uG [iW l,.d (bB 6 (aM os)),.d (.sl .nil ji []),.d (.int .i64 ((l.length+1:Nat):Int)),.d (.int .i64 0)] [] (fun J hJ=>?_) ?_
 ·have Ed:o9 (.d (.sl .nil 0 []))=some (.d (.sl .nil ji [])):=rfl
  simp only[Ed,sS]
  refine EV (fun _=>?_) (fun he=>absurd he bg)
  simp only[rQ]
  refine aS (ES (m:=l.length) (n:=1) (by omega)) ?_
  simp only[zr,zk,sS]
  rw[←xX bg]
  exact hJ
 ·refine xG (α:=List ay×SV×List Nat) (fun k a=>ko l a.1∧zc a.2.1 a.2.2∧qg (l.length+1-k) a.1 os=qw l os) (fun k a=>[iW a.1,.d (bB 6 (aM os)),a.2.1,.d (.int .i64 ((l.length+1:Nat):Int)),.d (.int .i64 ((k:Nat):Int))]) (fun k a=>[]) (l.length+1) (l,.d (.sl .nil ji []),[]) ⟨ko.refl l,.inl ⟨rfl,rfl⟩,rfl⟩ (fun k a hk hJ I hI=>?_) (fun a hJ I=>?_)
  ·obtain⟨b,xs,q⟩:=a
   obtain⟨fg,oH,tf⟩:=hJ
   dsimp only at fg oH tf
   simp only[sS,sT,sZ]
   refine And.intro (fun _=>?_) (fun h=>absurd h (by simp;omega))
   have Ko:=hc.ur fg
   have gG:=W0 Ko.up (Nat.le_trans Ko.len (by decide))
   have ka:=fg.trans (tk b)
   have xc:=hc.ur ka
   have ve:aa (iW (aY b))=aa (iW b):=by rw[CX,CX];exact aag (tk b).1
   rw[show l.length+1-k=(l.length-k)+1 by omega,qg]at tf
   refine Sz gG ve ?_
   have SA:=ka.1
   generalize aY b=p at ka xc tf SA ⊢
   have NB:p≠[]:=fun he=>by rw[he]at SA;exact bg (List.length_eq_zero_iff.1 SA.symm)
   refine EV (fun _=>?_) (fun he=>absurd he NB)
   have iV:=xc.there
   have dJ:=xc.len
   have e5:SV.dg (ee p).length 7 (List.map aa (bj (ee p)))=Sy p:=by rw[rQ,abf];rfl
   rw[e5]
   refine bH (W3 (agX p) rfl (os:=os) (c:=4920) (fun b hb=>⟨(xc.ok b hb).th,(xc.ok b hb).el⟩) (by have:=xc.ON;omega) (by omega)) (jX _ _) ?_
   obtain⟨y,z,hy,hz,hlz⟩:=oH.cut
   simp only[hy,hz,ej,rQ,sS]
   generalize iw p os=hv at iV tf ⊢
   refine xG (α:=SV) (fun i x=>zc x (xY p hv i)) (fun i x=>[.d (bB 6 (aM os)),x,.d (bB 6 (aM hv)),.d (.int .i64 ((l.length+1:Nat):Int)),.d (.int .i64 ((k:Nat):Int)),.d (.int .i64 (p.length:Int)),.d (.int .i64 ((i:Nat):Int))]) (fun i x=>[bj (ee p)]) p.length z hlz (fun i x hi Kp I2 cF=>?_) (fun x Kp I2=>?_)
   ·simp only[sS,sT]
    refine And.intro (fun _=>?_) (fun h=>absurd h (by simp;omega))
    obtain⟨c,eB⟩:=get_some hi
    have hbo:=xc.ok c (List.mem_of_getElem? eB)
    have mg:da (.d (.int .i64 (i:Int))) p.length=some i:=jJ hi
    have my:p.length≤maxLen:=Nat.le_trans dJ (by decide)
    have F7:=XH p hv i
    have GG:gS p hv i=(c.here&&(c.mark&&decide (0<(fY c.th hv).length))):=by unfold gS;rw[eB]
    have jt:=aeK p hv i
    rw[GG]at jt
    simp only[mg,Zp eB,LH,Iw,NA,ab2,MU,Sx,sS,sT]
    have skip:xY p hv (i+1)=xY p hv i→ab (aj none .add (.d (.int .i64 ((i:Nat):Int))) (.d (.int .i64 1))) fun r=>I2 [.d (bB 6 (aM os)),x,.d (bB 6 (aM hv)),.d (.int .i64 ((l.length+1:Nat):Int)),.d (.int .i64 ((k:Nat):Int)),.d (.int .i64 (p.length:Int)),aa r] [bj (ee p)]:=fun he=>by
     refine aS (bf hi my) ?_
     exact cF x (by rw[he];exact Kp)
    refine And.intro (fun h1=>?_) (fun h1=>?_)
    ·rw[h1,Bool.true_and]at jt
     refine And.intro (fun h2=>?_) (fun h2=>?_)
     ·rw[h2,Bool.true_and]at jt
      refine bH (adL c.th hv (cm 6 _) (cm 6 _) (Nat.le_trans hbo.th (by decide)) iV.1 iV.2 (fun s hs=>Nat.le_trans (W5 hs) (Nat.le_trans hbo.Kn (by decide)))) (jX _ _) ?_
      simp only[ej,(cm 6 (aM (fY c.th hv))).len,eG,sS]
      refine And.intro (fun h3=>?_) (fun h3=>?_)
      ·have lh:decide (0<(fY c.th hv).length)=true:=by simp at h3 ⊢;omega
       rw[lh,if_pos rfl]at jt
       simp only[Lj,LY,xW,sS,sT]
       refine Kp.app (by omega) fun y' mq=>?_
       refine aS (bf hi my) ?_
       exact cF y' (by rw[jt];exact mq)
      ·have lh:decide (0<(fY c.th hv).length)=false:=by simp at h3 ⊢;omega
       rw[lh,if_neg (by decide),List.append_nil]at jt
       exact skip jt
     ·rw[h2,Bool.false_and,if_neg (by decide),List.append_nil]at jt
      exact skip jt
    ·rw[h1,Bool.false_and,if_neg (by decide),List.append_nil]at jt
     exact skip jt
   ·simp only[sS,sT]
    refine And.intro (fun h=>absurd h (by simp)) (fun _=>?_)
    have ab4:xY p hv p.length=lP p hv:=rfl
    rw[ab4]at Kp
    refine Kp.box ?_ (fun he hx=>?_)
    ·simp only[oa]
     have Vq:=XH p hv p.length
     rw[ab4]at Vq
     have Cl:∀{j i:Nat},(lP p hv)[j]? =some i→i<p.length:=fun h=>agY (List.mem_of_getElem? h)
     generalize lP p hv=q at tf Vq Cl ⊢
     refine And.intro (fun h0=>?_) (fun h0=>?_)
     ·have JF:q=[]:=by cases q with
       |nil=>rfl
       |cons _ _=>simp at h0;omega
      rw[if_pos JF]at tf
      have hg:=zk p
      simp only[zr,hg,sS]
      rw[←tf,xX NB]
     ·have JF:q≠[]:=fun he=>by subst he;simp at h0
      rw[if_neg JF]at tf
      refine eX (fun j=>[.d (bB 6 (aM os)),.d (.int .i64 ((l.length+1:Nat):Int)),.d (.int .i64 ((k:Nat):Int)),.d (.int .i64 (q.length:Int)),.d (.int .i64 ((j:Nat):Int))]) (fun j=>[bj (ee (jU p (q.take j))),bj (db q)]) q.length (fun j hj I3 gK=>?_) (fun I3=>?_)
      ·simp only[sS,sT]
       refine And.intro (fun _=>?_) (fun h=>absurd h (by simp;omega))
       obtain⟨i,hi⟩:=get_some hj
       have mg:da (.d (.int .i64 (j:Int))) q.length=some j:=jJ hj
       have apX:da (.d (.int .i64 (i:Int))) p.length=some i:=jJ (Cl hi)
       have GI:=HJ (q.take j) p
       have hle:i*7+5+1≤(bj (ee (jU p (q.take j)))).length :=by rw[Fe,GI];have:=Cl hi;omega
       rw[aik hi]at gK
       obtain⟨c,eB⟩:=get_some (l:=jU p (q.take j)) (i:=i) (by rw[GI];exact Cl hi)
       simp only[mg,aim hi,apX,LS,sS]
       refine⟨rfl,hle,?_⟩
       refine aS (bf hj (Nat.le_trans Vq (Nat.le_trans dJ (by decide)))) ?_
       rw[ain eB]
       exact gK
      ·simp only[sS,sT]
       refine And.intro (fun h=>absurd h (by simp)) (fun _=>?_)
       have GI:=HJ q p
       have hg:=zk (jU p q)
       rw[GI]at hg
       have iD:dC (bj (db q))=some (db q):=by rw[QU,Ms]
       simp only[List.take_length,zr,hg,iD,aaf,sS]
       refine aS (bf hk (Nat.le_trans (Nat.succ_le_succ hl9) (by decide))) ?_
       have xa:jU p q≠[]:=fun he=>by rw[he]at GI;exact NB (List.length_eq_zero_iff.1 GI.symm)
       have:=hI (jU p q,.bh 1 (db q),q) ⟨ka.trans (EW q p),.inr rfl,by rw[show l.length+1-(k+1)=l.length-k by omega];exact tf⟩
       rw[xX xa]at this
       exact this
    ·rw[if_pos he]at tf
     subst hx
     have e1:ba (.d (.sl .nil ji []))=some (.d (.int .i64 0)):=rfl
     simp only[e1,j4,sS]
     refine And.intro (fun _=>?_) (fun h=>absurd h (by decide))
     simp only[zr,zk,sS]
     rw[←tf,xX NB]
  ·obtain⟨b,xs,q⟩:=a
   simp only[sS,sT,sZ]
   refine And.intro (fun h=>absurd h (by simp)) (fun _=>?_)
   have:=hJ.2.2
   rw[Nat.sub_self,qg]at this
   rw[←this]
theorem W6:∀{l:List aq}{j:Nat}{y y':aq}{n:Nat},l[j]? =some y→y'.perms.length≤y.perms.length+n→dt (l.set j y')≤dt l+n
 |[],j,y,y',n,h,_=>by simp at h
 |z::l,0,y,y',n,h,h1=>by
  simp at h;subst h
  simp only[dt,List.set_cons_zero,List.map_cons,List.sum_cons];omega
 |z::l,j+1,y,y',n,h,h1=>by
  have:=W6 (l:=l) (j:=j) (by simpa using h) h1
  simp only[dt,List.set_cons_succ,List.map_cons,List.sum_cons]at this ⊢;omega
theorem aeL(all out:List aq)(s:aq):dt (tt all out s)≤dt out+s.perms.length:=by
 have app:dt (out++[s])≤dt out+s.perms.length:=by rw[G2];simp[dt]
 unfold tt
 split
 ·omega
 ·split
  ·split
   ·split
    ·rename_i z hz
     refine W6 hz ?_
     have h2:=P2 (z.perms++s.perms)
     simp only[Bw,List.length_append]at h2 ⊢
     omega
    ·omega
   ·exact app
  ·exact app
theorem afJ(all l:List aq)(i:Nat):dt (jL all (l.take i))≤dt (l.take i):=by
 induction i with
 |zero=>simp[jL,dt]
 |succ i ih=>
  cases h:l[i]? with
  |none=>
   have h1:l.length≤i:=List.getElem?_eq_none_iff.1 h
   rw[List.take_of_length_le h1]at ih
   rw[List.take_of_length_le (by omega)]
   exact ih
  |some s=>
   rw[KN h,Cz h]
   have:=aeL all (jL all (l.take i)) s
   omega
theorem LI{ts:List ah}(h:dk ts){sy:List aq}(hs:fF ts=.ok sy):dt sy≤196800:=by
 unfold fF at hs
 split at hs
 ·cases hs
 ·cases hs
  have:=afJ (oz ts) (oz ts) (oz ts).length
  rw[List.take_length]at this
  exact Nat.le_trans this h.syms.2
theorem dk.tail{t:ah}{l:List ah}(h:dk (t::l)):dk l:=by
 have h1:=h.sz
 have h2:=h.ok
 simp only[ah.bQ]at h1
 simp only[ah.tc]at h2
 exact⟨by omega,h2.2⟩
def u4(l:List ay):Prop:=∀b∈l,GF b∧(b.up<0∨b.up<l.length)
theorem u4.app{l:List ay}(h:u4 l){m u:Int}{th:Bool}{sy:List aq}(hu:u<0∨u<l.length)(h1:sy.length≤4920)(h2:dt sy≤196800):u4 (l++[⟨m,u,th,sy,[],true,false⟩]):=by
 intro b hb
 rw[List.length_append,List.length_singleton]
 rcases List.mem_append.1 hb with hb|hb
 ·have:=h b hb
  exact⟨this.1,by omega⟩
 ·rw[List.mem_singleton.1 hb]
  exact⟨⟨h1,by simp,h2,by simp[dt]⟩,by dsimp only;omega⟩
theorem u4.j7{l:List ay}(h:u4 l)(n:Nat){sy:List aq}(h1:sy.length≤4920)(h2:dt sy≤196800):u4 (j7 l n sy):=by
 intro b hb
 rw[EE]
 unfold Ab.j7 at hb
 split at hb
 ·rename_i c hc
  rcases List.mem_or_eq_of_mem_set hb with hb|hb
  ·exact h b hb
  ·subst hb
   have:=h c (List.mem_of_getElem? hc)
   exact⟨⟨this.1.th,h1,this.1.Kn,h2⟩,this.2⟩
 ·exact h b hb
mutual
theorem aoi:∀(t:ah){out o:List ay}{m u:Int}{th:Bool},dk t.th→dk t.el→u4 out→(u<0∨u<out.length)→gT t out m u th=.ok o→u4 o
 | .mk s a b,out,o,m,u,th,ha,hb,ho,hu,h=>by
   simp only[gT]at h
   split at h
   ·split at h
    ·cases h
    ·rename_i sy h1
     split at h
     ·cases h
     ·rename_i o2 h2
      split at h
      ·cases h
      ·rename_i lu h3
       have k1:=MV a ha (ho.app hu (EO ha h1) (LI ha h1)) (.inr (by rw[List.length_append,List.length_singleton];omega)) h2
       have kl:=(rU a h2).1
       rw[List.length_append,List.length_singleton]at kl
       exact MV b hb (k1.j7 out.length (EO hb h3) (LI hb h3)) (.inr (by rw[EE];omega)) h
   ·cases h;exact ho
theorem MV:∀(l:List ah){out o:List ay}{m u:Int}{th:Bool},dk l→u4 out→(u<0∨u<out.length)→gL l out m u th=.ok o→u4 o
 |[],out,o,m,u,th,hl,ho,hu,h=>by
  simp only[gL]at h
  cases h
  exact ho
 |t::l,out,o,m,u,th,hl,ho,hu,h=>by
  simp only[gL]at h
  split at h
  ·cases h
  ·rename_i o1 h1
   have ht:=hl.th (t:=t) (by simp)
   have k1:=aoi t ht.1 ht.2 ho hu h1
   have kl:=(LZ t h1).1
   exact MV l (hl.tail) k1 (by omega) h
end
theorem abh:∀(l:List bt)(i:Nat){out o:List ay}{os oQ:List aq},(∀m∈l,dk m.ax)→u4 out→out.length≤120*i→os.length≤4920*i→dt os≤196800*i→gX l i out os=.ok (o,oQ)→u4 o∧o.length≤120*(i+l.length)∧oQ.length≤4920*(i+l.length)∧dt oQ≤196800*(i+l.length)
 |[],i,out,o,os,oQ,hm,ho,h1,h2,h3,h=>by
  simp only[gX]at h
  cases h
  exact⟨ho,h1,h2,h3⟩
 |m::l,i,out,o,os,oQ,hm,ho,h1,h2,h3,h=>by
  simp only[gX]at h
  have cE:=hm m (by simp)
  split at h
  ·cases h
  ·rename_i sy hb
   split at h
   ·cases h
   ·rename_i o1 hg
    have k1:=MV _ cE ho (.inl (by omega)) hg
    have kl:=(rU _ hg).1
    have kn:=ah.qC m.ax
    have ks:=cE.sz
    have e1:=EO cE hb
    have e2:=LI cE hb
    have:=abh l (i+1) (fun x hx=>hm x (by simp[hx])) k1 (by omega) (by rw[List.length_append];omega) (by rw[G2];omega) h
    rw[List.length_cons,show i+(l.length+1)=i+1+l.length by omega]
    exact this
theorem wv.of{l:List bt}(h8:l.length≤8)(hm:∀m∈l,dk m.ax){o:List ay}{os:List aq}(h:gX l 0 [] []=.ok (o,os)):wv o os:=by
 obtain⟨h1,h2,h3,h4⟩:=abh l 0 hm (fun b hb=>by simp at hb) (by simp) (by simp) (by simp[dt]) h
 exact⟨by omega,fun b hb=>(h1 b hb).2,fun b hb=>(h1 b hb).1,by omega,by omega⟩
def nK(l:List bt):Except nA (List ay):=match gX l 0 [] []with
 | .error e=>.error e
 | .ok (o,os)=>.ok (qw o os)
theorem Mz:∀(l:List bt){i:Nat}{out:List ay}{os:List aq}{c:Int}{s:aq},gX l i out os=.error (c,s)→c≠0
 |[],i,out,os,c,s,h=>by simp[gX]at h
 |m::l,i,out,os,c,s,h=>by
  simp only[gX]at h
  split at h
  ·rename_i h1;cases h;exact zt h1
  ·split at h
   ·rename_i h1;cases h;exact BO _ h1
   ·exact Mz l h
theorem abi:∀(f:Nat)(l:List ay)(os:List aq),ko l (qg f l os)
 |0,l,os=>ko.refl l
 |f+1,l,os=>by
  rw[qg]
  split
  ·exact tk l
  ·exact((tk l).trans (EW _ _)).trans (abi f _ os)
theorem K5(l:List ay)(os:List aq):ko l (qw l os):=abi _ _ _
theorem Wl{l:List bt}{L:List D}{x:D}(hx:aL 3 L x)(hl:sq l L)(h8:l.length≤8)(hm:∀m∈l,dk m.ax):aF Try.prog gl 32 [.d x] (.aK (gR (nK l))):=by
 have hS:=ad5 hx hl h8 hm
 refine a8 (alK ..) fun br=>?_
 unfold nK
 cases hs:gX l 0 [] []with
 |error e=>
  obtain⟨c,s⟩:=e
  rw[hs]at hS
  refine Zo hS ?_
  simp only[jA,dv,dw,fu,dH,gf,ek,oe (Mz _ hs),sS,sT,sZ]
  refine And.intro (fun _=>?_) (fun h=>absurd h (by decide))
  rfl
 |ok a=>
  obtain⟨o,os⟩:=a
  rw[hs]at hS
  refine Zo hS ?_
  simp only[eO,dv,dw,fu,dH,gf,ek,ej,sS,sT,sZ]
  refine And.intro (fun h=>absurd h (by decide)) (fun _=>?_)
  refine Sz (ad7 (wv.of h8 hm hs)) (by rw[CX,CX];exact aag (K5 o os).1) ?_
  simp only[uB,dv,dw,fu,dH,sS,sT]
  exact⟨CI _,rfl⟩
def cH(l:List Bool):List D:=l.map .bool
theorem tu(l:List Bool):(cH l).length =l.length:=List.length_map ..
theorem aj1(a b:List Bool):cH a++cH b=cH (a++b):=by simp[cH]
def ay.on(b:ay):Bool:=b.here&&b.mark
def mj(bs:List ay)(i:Nat):List Bool:=(bs.filter fun b=>b.mo==(i:Int)).map ay.on
def xd(n:Nat)(bs:List ay):List (List Bool):=(List.range n).map (mj bs)
theorem aah(n:Nat)(bs:List ay):(xd n bs).length =n:=by simp[xd]
def sL(l:List Bool):SV:=aO 1 (cH l)
def pV(l:List Bool):D:=bB 1 (cH l)
def qi(n:Nat)(bs:List ay):List SV:=(xd n bs).map sL
theorem CY(n:Nat)(bs:List ay):(qi n bs).length =n:=by simp[qi,aah]
theorem Ff{n:Nat}{bs:List ay}{i:Nat}(h:i<n):(qi n bs)[i]? =some (sL (mj bs i)):=by
 simp[qi,xd,h]
theorem aip{n:Nat}{bs:List ay}{k:Nat}{b:ay}(hb:bs[k]? =some b){j:Nat}(hj:b.mo=(j:Int))(hn:j<n):(qi n (bs.take k)).set j (sL (mj (bs.take k) j++[b.on]))=qi n (bs.take (k+1)):=by
 refine List.ext_getElem? fun i=>?_
 rw[List.getElem?_set]
 by_cases hi:i<n
 ·rw[Ff hi]
  by_cases fp:j=i
  ·subst fp
   rw[if_pos rfl,if_pos (by rw[CY];exact hi),Ff hi,dT hb]
   simp[mj,hj]
  ·rw[if_neg fp,Ff hi,dT hb]
   have:¬(b.mo==(i:Int))=true:=by rw[hj];simp;omega
   simp[mj,this]
 ·rw[List.getElem?_eq_none (by rw[CY];omega),if_neg (by omega:¬j=i),List.getElem?_eq_none (by rw[CY];omega)]
theorem aiq(n:Nat)(bs:List ay):dC (qi n bs)=some ((xd n bs).map pV):=by
 unfold qi
 generalize xd n bs=l
 induction l with
 |nil=>rfl
 |cons x l ih=>
  have h1:cB (sL x)=some (pV x):=by unfold sL pV;cases x<;>rfl
  simp only[List.map_cons,dC,h1,ih]
theorem aj2(n:Nat):bj (List.replicate n (D.sl .nil 0 []))=qi n []:=by
 have h1:qi n []=List.replicate n (.d (.sl .nil 0 [])):=by
  refine List.ext_getElem? fun i=>?_
  by_cases hi:i<n
  ·rw[Ff hi];simp[hi,mj,sL,cH,aO]
  ·rw[List.getElem?_eq_none (by rw[CY];omega),List.getElem?_eq_none (by rw[List.length_replicate];omega)]
 rw[h1]
 induction n with
 |zero=>rfl
 |succ n ih=>
  have:=ih (by
   refine List.ext_getElem? fun i=>?_
   by_cases hi:i<n
   ·rw[Ff hi];simp[hi,mj,sL,cH,aO]
   ·rw[List.getElem?_eq_none (by rw[CY];omega),List.getElem?_eq_none (by rw[List.length_replicate];omega)])
  rw[List.replicate_succ,List.replicate_succ,←this];rfl
def qj(n:Nat)(l:List ay):Prop:=∀b∈l,∃j,b.mo=((j:Nat):Int)∧j<n
theorem qj.j7{n:Nat}{l:List ay}(h:qj n l)(k:Nat)(sy:List aq):qj n (j7 l k sy):=by
 intro b hb
 unfold Ab.j7 at hb
 split at hb
 ·rename_i c hc
  rcases List.mem_or_eq_of_mem_set hb with hb|hb
  ·exact h b hb
  ·subst hb
   exact h c (List.mem_of_getElem? hc)
 ·exact h b hb
theorem qj.app{n:Nat}{l:List ay}(h:qj n l){b:ay}(hb:∃j,b.mo=((j:Nat):Int)∧j<n):qj n (l++[b]):=by
 intro c hc
 rcases List.mem_append.1 hc with hc|hc
 ·exact h c hc
 ·rw[List.mem_singleton.1 hc];exact hb
mutual
theorem aoj:∀(t:ah){out o:List ay}{m u:Int}{th:Bool}{n:Nat},(∃j,m=((j:Nat):Int)∧j<n)→qj n out→gT t out m u th=.ok o→qj n o
 | .mk s a b,out,o,m,u,th,n,hm,ho,h=>by
   simp only[gT]at h
   split at h
   ·split at h
    ·cases h
    ·split at h
     ·cases h
     ·rename_i o2 h2
      split at h
      ·cases h
      ·have k1:=MW a hm (ho.app (b:=⟨m,u,th,_,[],true,false⟩) hm) h2
       exact MW b hm (k1.j7 _ _) h
   ·cases h;exact ho
theorem MW:∀(l:List ah){out o:List ay}{m u:Int}{th:Bool}{n:Nat},(∃j,m=((j:Nat):Int)∧j<n)→qj n out→gL l out m u th=.ok o→qj n o
 |[],out,o,m,u,th,n,hm,ho,h=>by
  simp only[gL]at h
  cases h
  exact ho
 |t::l,out,o,m,u,th,n,hm,ho,h=>by
  simp only[gL]at h
  split at h
  ·cases h
  ·rename_i o1 h1
   exact MW l hm (aoj t hm ho h1) h
end
theorem abj:∀(l:List bt)(i:Nat){n:Nat}{out o:List ay}{os oQ:List aq},i+l.length≤n→qj n out→gX l i out os=.ok (o,oQ)→qj n o
 |[],i,n,out,o,os,oQ,hn,ho,h=>by
  simp only[gX]at h
  cases h
  exact ho
 |m::l,i,n,out,o,os,oQ,hn,ho,h=>by
  simp only[gX]at h
  rw[List.length_cons]at hn
  split at h
  ·cases h
  ·split at h
   ·cases h
   ·rename_i o1 hg
    exact abj l (i+1) (by omega) (MW _ ⟨i,rfl,by omega⟩ ho hg) h
theorem qj.ur{n:Nat}{a b:List ay}(h:qj n a)(hs:ko a b):qj n b:=fun x hx=>by
 obtain⟨j,hj⟩:=List.mem_iff_getElem?.1 hx
 obtain⟨y,h1,h2,h3,h4,h5,h6⟩:=hs.2 j x hj
 rw[h5]
 exact h y (List.mem_of_getElem? h1)
theorem Ro{l:List bt}(h8:l.length≤8)(hm:∀m∈l,dk m.ax){o:List ay}(h:nK l=.ok o):qj l.length o∧o.length≤960:=by
 unfold nK at h
 split at h
 ·cases h
 ·rename_i o1 os hs
  cases h
  have h1:=wv.of h8 hm hs
  exact⟨(abj l 0 (by omega) (fun b hb=>by simp at hb) hs).ur (K5 _ _),by rw[(K5 o1 os).1];exact h1.len⟩
theorem MA{l:List bt}{c:Int}{s:aq}(h:nK l=.error (c,s)):c≠0:=by
 unfold nK at h
 split at h
 ·rename_i h1;cases h;exact Mz _ h1
 ·cases h
theorem aai{L:List D}{i:Nat}{y:D}(h:L[i]? =some y):aJ 7 (.d (bB 7 L)) (.d (.int .i64 (i:Int)))=some (.aX y 0):=(cm 7 L).at h
def xe(l:List bt):Except nA (List (List Bool)):=match nK l with
 | .error e=>.error e
 | .ok o=>.ok (xd l.length o)
def enR(r:Except nA (List (List Bool))):SV:=match r with
 | .error (c,s)=>.aK [.d (.sl .nil 0 []),.d (jA c s)]
 | .ok o=>.aK [.d (.sl .ro 1 (o.map pV)),.d eO]
theorem Pq{l:List bt}{L:List D}{x:D}(hx:aL 3 L x)(hl:sq l L)(h8:l.length≤8)(hm:∀m∈l,dk m.ax):aF Try.prog gl 11 [.d x] (enR (xe l)):=by
 have hD:=Wl hx hl h8 hm
 refine a8 (alD ..) fun br=>?_
 unfold xe
 cases hd:nK l with
 |error e=>
  obtain⟨c,s⟩:=e
  rw[hd]at hD
  refine call2 hD ?_
  simp only[jA,dv,dw,fu,dH,gf,ek,oe (MA hd),sS,sT,sZ]
  refine And.intro (fun _=>?_) (fun h=>absurd h (by decide))
  rfl
 |ok o=>
  obtain⟨hmo,qW⟩:=Ro h8 hm hd
  rw[hd]at hD
  refine call2 hD ?_
  simp only[eO,dv,dw,fu,dH,gf,ek,sS,sT,sZ]
  refine And.intro (fun h=>absurd h (by decide)) (fun _=>?_)
  have hlg:ba (.d (bB 7 (ee o)))=some (.d (.int .i64 (o.length:Int))):=by rw[(cm 7 (ee o)).len,rQ]
  have bX:o.length≤maxLen:=Nat.le_trans qW (by decide)
  simp only[aaa,ej,hx.len,hl.len,hlg,EA,aj2,List.length_replicate,sS]
  refine⟨by omega,?_⟩
  refine eX (fun k=>[.d (bB 7 (ee o)),.d (.int .i64 (o.length:Int)),.d (.int .i64 ((k:Nat):Int))]) (fun k=>[[.d (.int .i64 0),.d (.int .i64 0),.d (.int .i64 0),.d (.str [])],[.d (.int .i64 0),.d (.int .i64 0),.d (.int .i64 0),.d (.str [])],qi l.length (o.take k)]) o.length (fun k hk I hI=>?_) (fun I=>?_)
  ·simp only[sS,sT]
   refine And.intro (fun _=>?_) (fun h=>absurd h (by simp;omega))
   obtain⟨b,hb⟩:=get_some hk
   obtain⟨j,hj,Kq⟩:=hmo b (List.mem_of_getElem? hb)
   have td:=aai (Z8 hb)
   have fp:da (.d (.int .i64 b.mo)) l.length=some j:=by rw[hj];exact jJ Kq
   have xf:=Ff (n:=l.length) (bs:=o.take k) Kq
   have bc:=aip hb hj Kq
   have hlen:(mj (o.take k) j).length ≤960:=by
    have h1:=List.length_filter_le (fun b:ay=>b.mo==(j:Int)) (o.take k)
    rw[mj,List.length_map]
    rw[List.length_take]at h1;omega
   have fin:∀y v,setAt ((qi l.length (o.take k)).set j y) j [sL (mj (o.take k) j++[v])]=(qi l.length (o.take k)).set j (sL (mj (o.take k) j++[v])):=fun y v=>by
    show(((qi l.length (o.take k)).set j y).set j _)=_
    rw[List.set_set]
   have tail:∀v,b.on=v→cb 1 1 (sL (mj (o.take k) j)) (.full 1 [.bool v]) fun dE=>
     ab (aE dE) fun du=>du.length=1∧j<((qi l.length (o.take k)).set j (aa (sL (mj (o.take k) j)))).length ∧
      ab (aj none .add (.d (.int .i64 ((k:Nat):Int))) (.d (.int .i64 1))) fun cS=>
       I [.d (bB 7 (ee o)),.d (.int .i64 (o.length:Int)),aa cS] [[.d (.int .i64 0),.d (.int .i64 0),.d (.int .i64 0),.d (.str [])],[.d (.int .i64 0),.d (.int .i64 0),.d (.int .i64 0),.d (.str [])],setAt ((qi l.length (o.take k)).set j (aa (sL (mj (o.take k) j)))) j du]:=fun v hv=>by
    refine gB (M:=[.bool v]) rfl (by rw[tu];simp;omega) ?_
    have hc:aE (aO 1 (cH (mj (o.take k) j)++[.bool v]))=some [sL (mj (o.take k) j++[v])]:=by
     rw[K4,show cH (mj (o.take k) j)++[D.bool v]=cH (mj (o.take k) j++[v]) from aj1 _ [v]];rfl
    rw[hc]
    refine⟨rfl,by rw[List.length_set,CY];omega,?_⟩
    refine aS (bf hk bX) ?_
    have h1:=fin (aa (sL (mj (o.take k) j))) v
    rw[←hv,bc,hv]at h1
    rw[h1]
    exact hI
   simp only[td,Z9,LH,Iw,NA,an6,MU,Sx,fp,Nat.mul_one,xf,sS,sT]
   refine And.intro (fun h=>?_) (fun h=>?_)
   ·simp only[Z2,uQ,xW,sS,sT]
    exact tail b.mark (by rw[ay.on,h,Bool.true_and])
   ·simp only[Z2,uQ,xW,sS,sT]
    exact tail false (by rw[ay.on,h,Bool.false_and])
  ·simp only[aiq,sS,sT]
   refine And.intro (fun h=>absurd h (by simp)) (fun _=>?_)
   rw[List.take_length]
   refine⟨CY _ _,?_⟩
   simp only[uB,dv,dw,fu,dH,ma,if_true,sS,sT]
   rfl
def qk:D→List D
 | .sl _ _ L=>L
 |_=>[]
theorem aL.qk{n:Nat}{L:List D}{x:D}(h:aL n L x):qk x=L:=by
 cases h with
 |nil s h=>subst h;rfl
 |ro=>rfl
def Ix(k:Nat)(x:D):D:=x.cells.getD k (.int .i64 0)
def ql(x:D):List D:=qk (Ix 53 x)
def vC(x:D):List D:=qk (Ix 54 x)
theorem l6.ql{t:ah}{x:D}(h:l6 t x){c:List SV}{bd al yt ye:D}{Lt Le:List D}(hc:TC t x c bd al yt ye Lt Le):ql x=Lt∧vC x=Le:=by
 have h1:=hc.Ke
 have h2:=hc.Kf
 cases h with
 |mk s th el r5 r6 B5 Cs rest OO OP Lt' Le' h hl ha ht he OI Gl fL fG=>
  have eB:aE (.d (.agg (mE s r5 r6 B5 Cs rest)))=some ((mE s r5 r6 B5 Cs rest).map SV.d):=rfl
  have:=hc.cells
  rw[eB]at this
  cases this
  have Eb:(mE s r5 r6 B5 Cs rest)[53]? =some OO:=ht
  have Ec:(mE s r5 r6 B5 Cs rest)[54]? =some OP:=he
  have k1:Ix 53 (.agg (mE s r5 r6 B5 Cs rest))=OO:=by
   show(mE s r5 r6 B5 Cs rest).getD 53 _=_
   rw[List.getD_eq_getElem?_getD,Eb];rfl
  have k2:Ix 54 (.agg (mE s r5 r6 B5 Cs rest))=OP:=by
   show(mE s r5 r6 B5 Cs rest).getD 54 _=_
   rw[List.getD_eq_getElem?_getD,Ec];rfl
  rw[ai,cond_false,List.getElem?_map,Eb]at h1
  rw[ai,cond_false,List.getElem?_map,Ec]at h2
  cases h1
  cases h2
  unfold Ab.ql Ab.vC
  rw[k1,k2]
  exact⟨hc.iV.qk,hc.fo.qk⟩
def tT(bs:List ay)(n:Nat):Bool:=match bs[n]? with
 |some b=>b.mark
 |none=>false
mutual
def pE(cp:D→D):ah→D→List ay→Nat→Bool→List D
 | .mk s a b,x,bs,n,k=>if s.kind==18 then ft cp a (ql x) bs (n+1) (k&&tT bs n)++ft cp b (vC x) bs (n+1+ah.aB a) (k&& !tT bs n)
   else if k then [cp x]else []
def ft(cp:D→D):List ah→List D→List ay→Nat→Bool→List D
 |t::l,x::L,bs,n,k=>pE cp t x bs n k++ft cp l L bs (n+t.nb) k
 |_,_,_,_,_=>[]
end
mutual
def Ct(H:D→Prop):ah→D→Prop
 | .mk s a b,x=>if s.kind==18 then rE H a (ql x)∧rE H b (vC x)else H x
def rE(H:D→Prop):List ah→List D→Prop
 |t::l,x::L=>Ct H t x∧rE H l L
 |_,_=>True
end
theorem aj3{H:D→Prop}{t:ah}{x:D}(h:(t.s.kind==18)=true)(hc:Ct H t x):rE H t.th (ql x)∧rE H t.el (vC x):=by
 cases t with
 |mk s a b=>
  have h:(s.kind==18)=true:=h
  simp only[Ct,h,if_true]at hc
  exact hc
theorem amw{H:D→Prop}{t:ah}{x:D}(h:(t.s.kind==18)=false)(hc:Ct H t x):H x:=by
 cases t with
 |mk s a b=>
  have h:(s.kind==18)=false:=h
  simp only[Ct,h]at hc
  exact hc
theorem abk{H:D→Prop}:∀{l:List ah}{L:List D}{i:Nat}{t:ah}{x:D},rE H l L→l[i]? =some t→L[i]? =some x→Ct H t x
 |[],_,_,_,_,_,h,_=>by simp at h
 |_::_,[],_,_,_,_,_,h=>by simp at h
 |u::l,y::L,0,t,x,hc,h1,h2=>by simp at h1 h2;subst h1;subst h2;simp only[rE]at hc;exact hc.1
 |u::l,y::L,i+1,t,x,hc,h1,h2=>by simp only[rE]at hc;exact abk hc.2 (by simpa using h1) (by simpa using h2)
theorem aj4{cp:D→D}{t:ah}{x:D}(h:(t.s.kind==18)=true)(bs:List ay)(n:Nat)(k:Bool):pE cp t x bs n k=ft cp t.th (ql x) bs (n+1) (k&&tT bs n)++ft cp t.el (vC x) bs (n+1+ah.aB t.th) (k&& !tT bs n):=by
 cases t with
 |mk s a b=>
  have h:(s.kind==18)=true:=h
  simp only[pE,h,if_true];rfl
theorem abl{cp:D→D}{t:ah}{x:D}(h:(t.s.kind==18)=false)(bs:List ay)(n:Nat)(k:Bool):pE cp t x bs n k=if k then [cp x]else []:=by
 cases t with
 |mk s a b=>
  have h:(s.kind==18)=false:=h
  simp only[pE,h];rfl
theorem Zt{cp:D→D}{bs:List ay}{k:Bool}:∀{l:List ah}{L:List D}{i:Nat}{t:ah}{x:D}(n:Nat),l[i]? =some t→L[i]? =some x→ft cp (l.take (i+1)) (L.take (i+1)) bs n k=ft cp (l.take i) (L.take i) bs n k++pE cp t x bs (n+ah.aB (l.take i)) k
 |[],_,_,_,_,_,h,_=>by simp at h
 |_::_,[],_,_,_,_,_,h=>by simp at h
 |u::l,y::L,0,t,x,n,h1,h2=>by
  simp at h1 h2;subst h1;subst h2
  simp[ft,ah.aB]
 |u::l,y::L,i+1,t,x,n,h1,h2=>by
  have:=Zt (cp:=cp) (bs:=bs) (k:=k) (n+u.nb) (l:=l) (L:=L) (i:=i) (by simpa using h1) (by simpa using h2)
  simp only[List.take_succ_cons,ft,ah.aB]at this ⊢
  rw[this,List.append_assoc,show n+u.nb+ah.aB (l.take i)=n+(u.nb+ah.aB (l.take i)) by omega]
mutual
theorem aj5{cp:D→D}:∀(t:ah)(x:D)(bs:List ay)(n:Nat)(k:Bool),(pE cp t x bs n k).length ≤t.sz
 | .mk s a b,x,bs,n,k=>by
   simp only[pE,ah.sz]
   split
   ·rw[List.length_append]
    have h1:=HK (cp:=cp) a (ql x) bs (n+1) (k&&tT bs n)
    have h2:=HK (cp:=cp) b (vC x) bs (n+1+ah.aB a) (k&& !tT bs n)
    omega
   ·split<;>simp<;>omega
theorem HK{cp:D→D}:∀(l:List ah)(L:List D)(bs:List ay)(n:Nat)(k:Bool),(ft cp l L bs n k).length ≤ah.bQ l
 |[],_,bs,n,k=>by simp[ft]
 |t::l,[],bs,n,k=>by simp[ft]
 |t::l,x::L,bs,n,k=>by
  simp only[ft,ah.bQ,List.length_append]
  have h1:=aj5 (cp:=cp) t x bs n k
  have h2:=HK (cp:=cp) l L bs (n+t.nb) k
  omega
end
def AW(cp:D→D)(x:D):Prop:=aF Try.prog gl 72 [.d x] (.d (cp x))∧(cp x).cells.length =55
def GJ(cp:D→D)(ts:List ah):Prop:=∀{L:List D}{x:D}(out:List D)(bs:List ay)(n:Nat)(k:Bool)(K:SV→Prop),aL 55 L x→fm ts L→dk ts→out.length+ah.bQ ts≤2^20→n+ah.aB ts≤bs.length→bs.length≤2^20→rE (AW cp) ts L→
 K (.aK [aO 55 (out++ft cp ts L bs n k),.d (.int .i64 ((n+ah.aB ts:Nat):Int))])→
 body Try.prog gl (aF Try.prog gl) Om 51 [aO 55 out,.d x,.d (bB 7 (ee bs)),.d (.int .i64 (n:Int)),.d (.bool k)] K
theorem YB{cp:D→D}{ts:List ah}(H:GJ cp ts){L:List D}{x:D}(out:List D)(bs:List ay)(n:Nat)(k:Bool)(h1:aL 55 L x)(h2:fm ts L)(h3:dk ts)(h4:out.length+ah.bQ ts≤2^20)(h5:n+ah.aB ts≤bs.length)(h6:bs.length≤2^20)(h7:rE (AW cp) ts L):
  aF Try.prog gl 51 (qG 0 [aO 55 out,.d x,.d (bB 7 (ee bs)),.d (.int .i64 (n:Int)),.d (.bool k)]) (.aK [.d (bB 55 out),aO 55 (out++ft cp ts L bs n k),.d (.int .i64 ((n+ah.aB ts:Nat):Int))]):=by
 rw[←ej 55 out]
 refine G5 bw a7 (hh:=Om) (by simp only[SV.iZ,jY,SV.aA,Bool.and_true]) rfl (fun r hr=>?_) ?_
 ·simp at hr
  rcases hr with rfl|rfl
  ·exact jX _ _
  ·rfl
 ·exact H out bs n k _ h1 h2 h3 h4 h5 h6 h7 rfl
theorem air{cp:D→D}{ts:List ah}(H:GJ cp ts){L:List D}{x:D}(bs:List ay)(n:Nat)(k:Bool)(h1:aL 55 L x)(h2:fm ts L)(h3:dk ts)(h4:ah.bQ ts≤2^20)(h5:n+ah.aB ts≤bs.length)(h6:bs.length≤2^20)(h7:rE (AW cp) ts L):
  aF Try.prog gl 51 [.d (.sl .nil 0 []),.d x,.d (bB 7 (ee bs)),.d (.int .i64 (n:Int)),.d (.bool k)] (.aK [aO 55 (ft cp ts L bs n k),.d (.int .i64 ((n+ah.aB ts:Nat):Int))]):=
 cz bw a7 (h:=Om) (H [] bs n k _ h1 h2 h3 (by simpa using h4) h5 h6 h7 rfl)
theorem pj(z x:D):bF z [(0,x)] 1 0=[x]:=rfl
theorem MX{x:D}(h:x.cells.length=55):bz 55 1 [(0,x)]=true:=by simp[bz,h]
theorem agZ(cp:D→D)(ts:List ah)(IH:∀iG,ah.bQ iG<ah.bQ ts→GJ cp iG):GJ cp ts:=by
 intro L x out bs n k K hx hs cE aN fZ eg xc hK
 have h0:=ah.tz ts
 have bX:ts.length≤maxLen:=Nat.le_trans (Nat.le_trans h0 cE.sz) (by decide)
 rw[alP]
 intro br
 simp only[hx.len,hs.len,sS,sT,sZ]
 rw[show aO 55 out=aO 55 (out++ft cp (ts.take 0) (L.take 0) bs n k) from by simp[ft],show((n:Nat):Int)=((n+ah.aB (ts.take 0):Nat):Int) from by simp[ah.aB]]
 refine eX (fun i=>[aO 55 (out++ft cp (ts.take i) (L.take i) bs n k),.d (bB 7 (ee bs)),.d (.int .i64 ((n+ah.aB (ts.take i):Nat):Int)),.d (.bool k),.d x,.d (.int .i64 (ts.length:Int)),.d (.int .i64 ((i:Nat):Int))]) (fun i=>[]) ts.length (fun i hi I hI=>?_) (fun I=>?_)
 ·simp only[sS,sT]
  refine And.intro (fun _=>?_) (fun h=>absurd h (by simp;omega))
  obtain⟨t,ht⟩:=get_some hi
  obtain⟨y,hy,eU⟩:=hs.at_ ht
  obtain⟨c,bd,al,yt,ye,Lt,Le,hc⟩:=eU.out
  obtain⟨iV,fo⟩:=eU.ql hc
  have fk:=vN (z:=ik) (c:=c) rfl hc.len
  simp only[sZ]at fk
  have hz:=ah.BM ht
  have AE:=t.zj
  have xb:=ah.QQ ht
  have asj:=ah.QT ht
  have nB:=cE.th (List.mem_of_getElem? ht)
  have hct:=abk xc ht hy
  have F7:=HK (cp:=cp) (ts.take i) (L.take i) bs n k
  have aP:ah.bQ (ts.take i)+t.sz≤ah.bQ ts:=by
   have h2:ah.bQ (ts.take (i+1))=ah.bQ (ts.take i)+t.sz:=by
    rw[dT ht,ah.uK,ah.uK];simp
   have h3:ah.bQ (ts.take (i+1))≤ah.bQ ts:=by
    rw[ah.uK,ah.uK,←List.take_append_drop (i+1) ts,List.map_append,List.sum_append,List.take_append_drop];omega
   omega
  have apY:ah.aB (ts.take i)+t.nb≤ah.aB ts:=by
   rw[←xb,ah.Bx,ah.Bx,←List.take_append_drop (i+1) ts,List.map_append,List.sum_append,List.take_append_drop];omega
  have jt:=Zt (cp:=cp) (bs:=bs) (k:=k) n ht hy
  simp only[jt]at hI
  have hzp:0<t.sz:=by omega
  simp only[hx.at hy,hc.load,hc.cells,hc.len,fk,hc.p0,hc.Ke,hc.Kf,hc.whole,ek,sS,sT]
  refine And.intro (fun hk=>?_) (fun hk=>?_)
  ·have bY:(t.s.kind==18)=false:=by simpa[bne]using hk
   rw[abl bY]at hI
   have Tz:t.nb=0:=by rw[t.zQ,bY];rfl
   rw[xb,Tz,Nat.add_zero]at hI
   refine And.intro (fun nO=>?_) (fun nO=>?_)
   ·rw[nO,if_pos rfl]at hI
    obtain⟨hH,apZ⟩:=amw bY hct
    refine bH hH rfl ?_
    simp only[dG,MX apZ,pj,sS,sT]
    refine gB (M:=[cp y]) rfl (by simp only[List.length_append,List.length_singleton];omega) ?_
    refine aS (bf hi bX) ?_
    rw[List.append_assoc,nO]
    exact hI
   ·rw[nO,if_neg (by decide),List.append_nil]at hI
    refine aS (bf hi bX) ?_
    rw[nO]
    exact hI
  have bY:(t.s.kind==18)=true:=by simpa[bne]using hk
  rw[aj4 bY]at hI
  have ap0:t.nb=1+ah.aB t.th+ah.aB t.el:=by rw[t.zQ,if_pos bY]
  have TA:=aj3 bY hct
  rw[iV,fo]at hI TA
  obtain⟨b,hb⟩:=get_some (l:=bs) (i:=n+ah.aB (ts.take i)) (by omega)
  have kH:tT bs (n+ah.aB (ts.take i))=b.mark:=by unfold tT;rw[hb]
  rw[kH]at hI
  have td:=aai (Z8 hb)
  have Vr:aj none .add (.d (.int .i64 ((n+ah.aB (ts.take i):Nat):Int))) (.d (.int .i64 1))=some (.d (.int .i64 ((n+ah.aB (ts.take i)+1:Nat):Int))):=ES (n:=1) (by omega)
  simp only[td,Z9,LH,Iw,NA,MU,Vr,sS,sT]
  have M1:=fun k'=>YB (IH t.th (by omega)) (out++ft cp (ts.take i) (L.take i) bs n k) bs (n+ah.aB (ts.take i)+1) k' hc.iV hc.fL nB.1 (by rw[List.length_append];omega) (by omega) eg TA.1
  have M2:=fun k' k''=>YB (IH t.el (by omega)) (out++ft cp (ts.take i) (L.take i) bs n k++ft cp t.th Lt bs (n+ah.aB (ts.take i)+1) k') bs (n+ah.aB (ts.take i)+1+ah.aB t.th) k'' hc.fo hc.fG nB.2 (by
   have:=HK (cp:=cp) t.th Lt bs (n+ah.aB (ts.take i)+1) k'
   rw[List.length_append,List.length_append];omega) (by omega) eg TA.2
  have AF:n+ah.aB (ts.take (i+1))=n+ah.aB (ts.take i)+1+ah.aB t.th+ah.aB t.el:=by omega
  rw[AF]at hI
  rw[←List.append_assoc,←List.append_assoc]at hI
  have uh:∀v,eP .not (.d (.bool v))=some (.d (.bool (!v))):=fun v=>by cases v<;>rfl
  refine And.intro (fun nO=>?_) (fun nO=>?_)
  ·simp only[nO,Bool.true_and]at hI
   refine yk (M1 b.mark) (by rw[ej];rfl) ?_
   refine And.intro (fun _=>?_) (fun h=>absurd (nO.symm.trans h) (by decide))
   simp only[sS]
   refine yk (M2 b.mark (!b.mark)) (by rw[ej];rfl) ?_
   refine aS (bf hi bX) ?_
   rw[nO]
   exact hI
  ·simp only[nO,Bool.false_and]at hI
   refine yk (M1 false) (by rw[ej];rfl) ?_
   refine And.intro (fun h=>absurd (nO.symm.trans h) (by decide)) (fun _=>?_)
   refine yk (M2 false false) (by rw[ej];rfl) ?_
   refine aS (bf hi bX) ?_
   rw[nO]
   exact hI
 ·simp only[sS,sT]
  refine And.intro (fun h=>absurd h (by simp)) (fun _=>?_)
  refine⟨jY _ _,?_⟩
  rw[List.take_length,show L.take ts.length=L by rw[←hs.len,List.take_length]]
  exact hK
theorem ais(cp:D→D)(ts:List ah):GJ cp ts:=by
 have key:∀n ts,ah.bQ ts<n→GJ cp ts:=by
  intro n
  induction n with
  |zero=>intro ts h;omega
  |succ n ih=>exact fun ts h=>agZ cp ts fun iG h'=>ih iG (by omega)
 exact fun{L x}=>key _ ts (Nat.lt_succ_self _)
def Cu(x:D):List D:=qk (Ix 2 x)
def lz:List bt→Nat
 |[]=>0
 |m::l=>ah.aB m.ax+lz l
theorem Rp:∀(a b:List bt),lz (a++b)=lz a+lz b
 |[],b=>by simp[lz]
 |m::a,b=>by simp only[List.cons_append,lz,Rp a b];omega
theorem ait{l:List bt}{i:Nat}{m:bt}(h:l[i]? =some m):lz (l.take (i+1))=lz (l.take i)+ah.aB m.ax:=by
 rw[dT h,Rp];simp[lz]
theorem amx(l:List bt)(i:Nat):lz (l.take i)≤lz l:=by
 have h:=Rp (l.take i) (l.drop i)
 rw[List.take_append_drop]at h;omega
theorem abm:∀(l:List bt){i:Nat}{out o:List ay}{os oQ:List aq},gX l i out os=.ok (o,oQ)→o.length=out.length+lz l
 |[],i,out,o,os,oQ,h=>by
  simp only[gX]at h
  cases h
  rfl
 |m::l,i,out,o,os,oQ,h=>by
  simp only[gX]at h
  split at h
  ·cases h
  ·split at h
   ·cases h
   ·rename_i o1 hg
    have:=abm l h
    rw[this,(rU _ hg).1,lz];omega
theorem aj6{l:List bt}{o:List ay}(h:nK l=.ok o):o.length=lz l:=by
 unfold nK at h
 split at h
 ·cases h
 ·rename_i o1 os hs
  cases h
  rw[(K5 o1 os).1,abm l hs];simp
def mF(cp:D→D):List bt→List D→List ay→Nat→List D
 |m::l,x::L,bs,n=>.agg [.str m.name,.int .i64 m.nv,bB 55 (ft cp m.ax (Cu x) bs n true)]::mF cp l L bs (n+ah.aB m.ax)
 |_,_,_,_=>[]
theorem QV{cp:D→D}{bs:List ay}:∀{l:List bt}{L:List D}{i:Nat}{m:bt}{x:D}(n:Nat),l[i]? =some m→L[i]? =some x→mF cp (l.take (i+1)) (L.take (i+1)) bs n=mF cp (l.take i) (L.take i) bs n++[.agg [.str m.name,.int .i64 m.nv,bB 55 (ft cp m.ax (Cu x) bs (n+lz (l.take i)) true)]]
 |[],_,_,_,_,_,h,_=>by simp at h
 |_::_,[],_,_,_,_,_,h=>by simp at h
 |u::l,y::L,0,t,x,n,h1,h2=>by
  simp at h1 h2;subst h1;subst h2
  simp[mF,lz]
 |u::l,y::L,i+1,t,x,n,h1,h2=>by
  have:=QV (cp:=cp) (bs:=bs) (n+ah.aB u.ax) (l:=l) (L:=L) (i:=i) (by simpa using h1) (by simpa using h2)
  simp only[List.take_succ_cons,mF,lz]at this ⊢
  rw[this,List.cons_append,show n+ah.aB u.ax+lz (l.take i)=n+(ah.aB u.ax+lz (l.take i)) by omega]
theorem Rq{cp:D→D}:∀(l:List bt)(L:List D)(bs:List ay)(n:Nat),(mF cp l L bs n).length ≤l.length
 |[],_,bs,n=>by simp[mF]
 |t::l,[],bs,n=>by simp[mF]
 |t::l,x::L,bs,n=>by
  simp only[mF,List.length_cons]
  have:=Rq (cp:=cp) l L bs (n+ah.aB t.ax)
  omega
def Vs(H:D→Prop)(l:List bt)(L:List D):Prop:=∀(i:Nat)m x,l[i]? =some m→L[i]? =some x→rE H m.ax (Cu x)
def Ee(cp:D→D)(l:List bt)(L:List D):Except nA (List D):=match nK l with
 | .error e=>.error e
 | .ok o=>.ok (mF cp l L o 0)
def ftR(r:Except nA (List D)):SV:=match r with
 | .error (c,s)=>.aK [.d (.sl .nil 0 []),.d (jA c s)]
 | .ok o=>.aK [aO 3 o,.d eO]
theorem afK(n:List UInt8)(v:Int):dF Try.prog 36 [(0,.str n),(1,.int .i64 v)]=some (.agg [.str n,.int .i64 v,.sl .nil 0 []]):=by kernel_rfl
theorem ag0(a b c:D):ai false 1 0 [.d a,.d b,.d c]=some (.d a):=rfl
theorem ag1(a b c:D):ai false 1 1 [.d a,.d b,.d c]=some (.d b):=rfl
theorem aj7(a b c d:SV):setAt [a,b,c] 2 [d]=[a,b,d]:=rfl
theorem ag2(a b c:D):ai true 3 0 [.d a,.d b,.d c]=some (.d (.agg [a,b,c])):=rfl
theorem ab5(z x:D):bF z [(0,x)] 1 0=[x]:=rfl
theorem abn(a b c:D):bz 3 1 [(0,.agg [a,b,c])]=true:=rfl
theorem Pr(cp:D→D){l:List bt}{L:List D}{x:D}(hx:aL 3 L x)(hl:sq l L)(h8:l.length≤8)(hm:∀m∈l,dk m.ax)(xc:Vs (AW cp) l L):aF Try.prog gl 25 [.d x] (ftR (Ee cp l L)):=by
 have bX:l.length≤maxLen:=Nat.le_trans h8 (by decide)
 have hD:=Wl hx hl h8 hm
 refine a8 (alI ..) fun br=>?_
 unfold Ee
 cases hd:nK l with
 |error e=>
  obtain⟨c,s⟩:=e
  rw[hd]at hD
  refine call2 hD ?_
  simp only[jA,dv,dw,fu,dH,gf,ek,oe (MA hd),sS,sT,sZ]
  refine And.intro (fun _=>?_) (fun h=>absurd h (by decide))
  rfl
 |ok o=>
  obtain⟨hmo,qW⟩:=Ro h8 hm hd
  have fZ:=aj6 hd
  rw[hd]at hD
  refine call2 hD ?_
  simp only[eO,dv,dw,fu,dH,gf,ek,aaa,hx.len,hl.len,sS,sT,sZ]
  refine And.intro (fun h=>absurd h (by decide)) (fun _=>?_)
  refine eX (fun i=>[aO 7 (ee o),aO 3 (mF cp (l.take i) (L.take i) o 0),.d (.int .i64 ((lz (l.take i):Nat):Int)),.d x,.d (.int .i64 (l.length:Int)),.d (.int .i64 ((i:Nat):Int))]) (fun i=>[[.d (.int .i64 0),.d (.int .i64 0),.d (.int .i64 0),.d (.str [])],[.d (.int .i64 0),.d (.int .i64 0),.d (.int .i64 0),.d (.str [])]]) l.length (fun i hi I hI=>?_) (fun I=>?_)
  ·simp only[sS,sT]
   refine And.intro (fun _=>?_) (fun h=>absurd h (by simp;omega))
   obtain⟨m,cN⟩:=get_some hi
   obtain⟨y,hy,hZ⟩:=hl.at_ cN
   have cE:=hm m (List.mem_of_getElem? cN)
   have g8:=xc i m y cN hy
   have bc:=QV (cp:=cp) (bs:=o) 0 cN hy
   rw[Nat.zero_add]at bc
   have DI:=ait cN
   have xb:=amx l (i+1)
   have oF:=Rq (cp:=cp) (l.take i) (L.take i) o 0
   rw[List.length_take]at oF
   rw[bc,DI]at hI
   cases hZ with
   |mk xs Lm zb Jd=>
   have rD:Cu (.agg [.str m.name,.int .i64 m.nv,xs])=Lm:=zb.qk
   rw[rD]at hI g8
   have aN:=cE.sz
   simp only[hx.at hy,Hp,EN,Dz,Rk,Ho,ag0,ag1,LB,afK,ej,sS,sT]
   refine call2 (air (ais cp m.ax) o (lz (l.take i)) true zb Jd cE (by omega) (by omega) (by omega) g8) ?_
   simp only[ej,CC,aj7,sS]
   refine⟨rfl,?_⟩
   simp only[ag2,dG,abn,ab5,sS,sT]
   refine gB (M:=[_]) rfl (by simp only[List.length_singleton];omega) ?_
   refine aS (bf hi bX) ?_
   exact hI
  ·simp only[uB,dv,dw,fu,dH,sS,sT]
   refine And.intro (fun h=>absurd h (by simp)) (fun _=>?_)
   refine⟨jY _ _,?_⟩
   rw[List.take_length,show L.take l.length=L by rw[←hl.len,List.take_length]]
   rfl
theorem aaj:aj (some (false,[])) .eql (.d (.sl .nil 0 [])) (.d (.sl .nil 0 []))=some (.d (.bool true)):=rfl
theorem EF:aF Try.prog gl 71 [.d (.sl .nil 0 [])] (.d (.sl .nil 0 [])):=by
 refine a8 (HW ..) fun br=>?_
 simp only[aaj,sS,sT]
 exact⟨fun _=>trivial,fun h=>absurd h (by decide)⟩
theorem KO:aF Try.prog gl 88 [.d (.sl .nil 0 [])] (.d (.sl .nil 0 [])):=by
 refine a8 (RS ..) fun br=>?_
 simp only[aaj,sS,sT]
 exact⟨fun _=>trivial,fun h=>absurd h (by decide)⟩
def uu:D:=.agg [.bool false,.bool false,.bool false,.sl .nil 0 [],.sl .nil 0 []]
def Ef:D:=.agg [.int .i64 0,.int .i64 0,.int .i64 0,.int .i64 0,.sl .nil 0 [],.int .u64 0,.int .u64 0,.int .u64 0,.int .u64 0,.sl .nil 0 []]
def AX:D:=.agg [.str [],.sl .nil 0 [],.str [],.sl .nil 0 []]
theorem A6:aF Try.prog gl 86 [.d uu] (.d uu):=by
 refine a8 (aa1 ..) fun br=>?_
 have e:aE (.d uu)=some [.d (.bool false),.d (.bool false),.d (.bool false),.d (.sl .nil 0 []),.d (.sl .nil 0 [])]:=rfl
 have p3:∀a b c d e:D,ai false 1 3 [.d a,.d b,.d c,.d d,.d e]=some (.d d):=fun _ _ _ _ _=>rfl
 have p4:∀a b c d e:D,ai false 1 4 [.d a,.d b,.d c,.d d,.d e]=some (.d e):=fun _ _ _ _ _=>rfl
 simp only[e,p3,p4,sS,sT]
 refine⟨rfl,?_⟩
 refine bH EF rfl ?_
 refine bH EF rfl ?_
 exact⟨rfl,by decide,rfl,by decide,rfl,rfl,rfl⟩
theorem KP:aF Try.prog gl 89 [.d AX] (.d AX):=by
 refine a8 (aa3 ..) fun br=>?_
 have e:aE (.d AX)=some [.d (.str []),.d (.sl .nil 0 []),.d (.str []),.d (.sl .nil 0 [])]:=rfl
 have p3:∀a b c d:D,ai false 1 3 [.d a,.d b,.d c,.d d]=some (.d d):=fun _ _ _ _=>rfl
 have p4:∀a b c d:D,ai false 1 1 [.d a,.d b,.d c,.d d]=some (.d b):=fun _ _ _ _=>rfl
 simp only[e,p3,p4,sS,sT]
 refine⟨rfl,?_⟩
 refine bH KO rfl ?_
 refine bH KO rfl ?_
 exact⟨rfl,by decide,rfl,by decide,rfl,rfl,rfl⟩
theorem KG:aF Try.prog gl 90 [.d (.sl .nil 0 [])] (.d (.sl .nil 0 [])):=by
 refine a8 (aa4 ..) fun br=>?_
 have hn:=aL.nil (sz:=55) (L:=[]) 0 rfl
 simp only[hn.len,sS,sT,sZ]
 intro I hI
 refine hI _ _ ?_
 simp only[sS,sT]
 refine And.intro (fun h=>absurd h (by decide)) (fun _=>?_)
 trivial
theorem V3:aF Try.prog gl 87 [.d Ef] (.d Ef):=by
 refine a8 (aa2 ..) fun br=>?_
 have e:aE (.d Ef)=some [.d (.int .i64 0),.d (.int .i64 0),.d (.int .i64 0),.d (.int .i64 0),.d (.sl .nil 0 []),.d (.int .u64 0),.d (.int .u64 0),.d (.int .u64 0),.d (.int .u64 0),.d (.sl .nil 0 [])]:=rfl
 have p3:∀a b c d e f g h i j:D,ai false 1 9 [.d a,.d b,.d c,.d d,.d e,.d f,.d g,.d h,.d i,.d j]=some (.d j):=fun _ _ _ _ _ _ _ _ _ _=>rfl
 have p4:∀a b c d e f g h i j:D,ai false 1 4 [.d a,.d b,.d c,.d d,.d e,.d f,.d g,.d h,.d i,.d j]=some (.d e):=fun _ _ _ _ _ _ _ _ _ _=>rfl
 have hn:=aL.nil (sz:=10) (L:=[]) 0 rfl
 have ec:aE (.d (.sl .nil 0 []))=some [.d (.sl .nil 0 [])]:=rfl
 simp only[e,p3,p4,ec,hn.len,sS,sT]
 refine⟨rfl,?_⟩
 refine bH EF rfl ?_
 refine⟨rfl,by decide,rfl,by decide,?_⟩
 intro I hI
 refine hI _ _ ?_
 simp only[sS,sT]
 refine And.intro (fun h=>absurd h (by decide)) (fun _=>?_)
 exact⟨rfl,by decide,rfl,rfl⟩
def MY(t e:D):List D:=(oM.drop 9).take 44++[t,e]
def jV(k o:Int)(n:List UInt8)(l t e:D):D:=.agg ([.int .i64 k,.int .i64 o,.int .i64 0,.int .i64 0,.str n,.str [],.str [],l,.sl .nil 0 []]++MY t e)
theorem rO(k:Int)(n:List UInt8):dF Try.prog 65 [(0,.int .i64 k),(3,.str n)]=some (jV k 0 n nw nw nw):=by kernel_rfl
theorem afL(k o:Int)(L:List D):dF Try.prog 65 [(0,.int .i64 k),(1,.int .i64 o),(6,.sl .ro 1 L)]=some (jV k o [] (.sl .ro 1 L) nw nw):=by kernel_rfl
theorem aeM(k:Int)(L:List D):dF Try.prog 65 [(0,.int .i64 k),(17,.sl .ro 55 L)]=some (jV k 0 [] nw (.sl .ro 55 L) nw):=by kernel_rfl
def Cv(k o:Int)(n:List UInt8)(l t e:D):List SV:=[.d (.int .i64 k),.d (.int .i64 o),.d (.int .i64 0),.d (.int .i64 0),.d (.str n),.d (.str []),.d (.str []),.d l,.d (.sl .nil 0 [])]++(MY t e).map .d
theorem pJ(k o:Int)(n:List UInt8)(l t e:D):aE (.d (jV k o n l t e))=some (Cv k o n l t e):=rfl
theorem pP(k o:Int)(n:List UInt8)(l t e:D):(Cv k o n l t e).length =55:=rfl
theorem pQ(k o:Int)(n:List UInt8)(l t e:D):setAt ik 0 (Cv k o n l t e)=Cv k o n l t e:=vN rfl rfl
theorem pK(k o:Int)(n:List UInt8)(l t e:D):ai true 55 0 (Cv k o n l t e)=some (.d (jV k o n l t e)):=rfl
theorem Ha(n:List UInt8):aF Try.prog gl 31 [.d (.str n)] (.d (jV 2 0 n (.sl .nil 0 []) (.sl .nil 0 []) (.sl .nil 0 []))):=by
 refine a8 (al3 ..) fun br=>?_
 have fk:=pQ
 simp only[sZ]at fk
 simp only[LB,rO,pJ,pP,fk,pK,sS,sT,sZ]
theorem ag3(a b:D)(L:List D):aT [(0,.v (.d a)),(1,.v (.d b)),(6,.v (.full 1 L))]=some [(0,a),(1,b),(6,.sl .ro 1 L)]:=rfl
theorem aj8(n:List UInt8):bz 1 1 [(0,D.str n)]=true:=rfl
theorem G7(n:List UInt8):aF Try.prog gl 30 [.d (.str n)] (.d (jV 19 2 [] (.sl .ro 1 [.str n]) (.sl .nil 0 []) (.sl .nil 0 []))):=by
 refine a8 (al1 ..) fun br=>?_
 have fk:=pQ
 simp only[sZ]at fk
 simp only[dG,xW,aj8,ag3,afL,pJ,pP,fk,pK,sS,sT,sZ]
theorem PM(L:List D):aF Try.prog gl 29 [.full 55 L] (.d (jV 18 0 [] (.sl .nil 0 []) (.sl .ro 55 L) (.sl .nil 0 []))):=by
 refine a8 (al0 ..) fun br=>?_
 have fk:=pQ
 have ed:aa (.full 55 L)=.full 55 L:=rfl
 have ep:∀a:D,aT [(0,.v (.d a)),(17,.v (.full 55 L))]=some [(0,a),(17,.sl .ro 55 L)]:=fun _=>rfl
 simp only[sZ]at fk
 simp only[ed,ep,aeM,pJ,pP,fk,pK,sS,sT,sZ]
def fQ(k:Int)(n:List UInt8):List SV:=Cv k 0 n (.sl .nil 0 []) (.sl .nil 0 []) (.sl .nil 0 [])
def u5:List SV:=[.d rb,.d rb,.d rb,.d nw,.d nw]
def FU:List SV:=[.d qY,.d qY,.d qY,.d qY,.d nw,.d (.int .u64 0),.d (.int .u64 0),.d (.int .u64 0),.d (.int .u64 0),.d nw]
def B6:List SV:=[.d qZ,.d nw,.d qZ,.d nw]
theorem afM(k:Int)(n:List UInt8):aF Try.prog gl 72 [.d (jV k 0 n (.sl .nil 0 []) (.sl .nil 0 []) (.sl .nil 0 []))] (.d (jV k 0 n (.sl .nil 0 []) (.sl .nil 0 []) (.sl .nil 0 []))):=by
 refine a8 (RT ..) fun br=>?_
 have e0:aE (.d (jV k 0 n (.sl .nil 0 []) (.sl .nil 0 []) (.sl .nil 0 [])))=some (fQ k n):=rfl
 have el:(fQ k n).length =55:=rfl
 have fk:setAt ik 0 (fQ k n)=fQ k n:=vN rfl rfl
 simp only[sZ]at fk
 have ew:ai true 55 0 (fQ k n)=some (.d (jV k 0 n (.sl .nil 0 []) (.sl .nil 0 []) (.sl .nil 0 []))):=rfl
 have en:aE (.d (.sl .nil 0 []))=some [.d (.sl .nil 0 [])]:=rfl
 have e7:ai false 1 7 (fQ k n)=some (.d (.sl .nil 0 [])):=rfl
 have e8:ai false 1 8 (fQ k n)=some (.d (.sl .nil 0 [])):=rfl
 have Vt:ai false 1 40 (fQ k n)=some (.d (.sl .nil 0 [])):=rfl
 have Vu:ai false 1 53 (fQ k n)=some (.d (.sl .nil 0 [])):=rfl
 have Vv:ai false 1 54 (fQ k n)=some (.d (.sl .nil 0 [])):=rfl
 have e9:ai true 5 9 (fQ k n)=some (.d uu):=rfl
 have Vw:ai true 5 14 (fQ k n)=some (.d uu):=rfl
 have Vx:ai true 5 19 (fQ k n)=some (.d uu):=rfl
 have Vy:ai true 5 24 (fQ k n)=some (.d uu):=rfl
 have Vz:ai true 10 29 (fQ k n)=some (.d Ef):=rfl
 have VA:ai true 4 41 (fQ k n)=some (.d AX):=rfl
 have VB:ai true 4 48 (fQ k n)=some (.d AX):=rfl
 have s7:setAt (fQ k n) 7 [.d (.sl .nil 0 [])]=fQ k n:=rfl
 have s8:setAt (fQ k n) 8 [.d (.sl .nil 0 [])]=fQ k n:=rfl
 have VC:setAt (fQ k n) 40 [.d (.sl .nil 0 [])]=fQ k n:=rfl
 have VD:setAt (fQ k n) 53 [.d (.sl .nil 0 [])]=fQ k n:=rfl
 have VE:setAt (fQ k n) 54 [.d (.sl .nil 0 [])]=fQ k n:=rfl
 have s9:setAt (fQ k n) 9 u5=fQ k n:=rfl
 have VF:setAt (fQ k n) 14 u5=fQ k n:=rfl
 have VG:setAt (fQ k n) 19 u5=fQ k n:=rfl
 have VH:setAt (fQ k n) 24 u5=fQ k n:=rfl
 have VI:setAt (fQ k n) 29 FU=fQ k n:=rfl
 have VJ:setAt (fQ k n) 41 B6=fQ k n:=rfl
 have VK:setAt (fQ k n) 48 B6=fQ k n:=rfl
 have cn:aE (.d uu)=some u5:=rfl
 have ce:aE (.d Ef)=some FU:=rfl
 have cr:aE (.d AX)=some B6:=rfl
 have ln:u5.length=5:=rfl
 have le:FU.length=10:=rfl
 have lr:B6.length=4:=rfl
 simp only[e0,el,e7,e8,sS,sT,sZ]
 refine bH EF rfl ?_
 refine bH EF rfl ?_
 simp only[en,s7,s8,el,e9,Vw,Vx,Vy,sS]
 refine⟨rfl,by decide,rfl,by decide,?_⟩
 refine bH A6 rfl ?_
 refine bH A6 rfl ?_
 refine bH A6 rfl ?_
 refine bH A6 rfl ?_
 simp only[cn,ln,s9,VF,VG,VH,el,Vz,sS,sT]
 refine⟨by decide,by decide,by decide,by decide,?_⟩
 refine bH V3 rfl ?_
 simp only[ce,le,VI,el,Vt,sS,sT]
 refine⟨by decide,?_⟩
 refine bH KO rfl ?_
 simp only[en,VC,el,VA,VB,sS]
 refine⟨rfl,by decide,?_⟩
 refine bH KP rfl ?_
 refine bH KP rfl ?_
 simp only[cr,lr,VJ,VK,el,Vu,Vv,sS,sT]
 refine⟨by decide,by decide,?_⟩
 refine bH KG rfl ?_
 refine bH KG rfl ?_
 simp only[en,VD,VE,el,ew,e0,fk,sS,sT]
 exact⟨rfl,by decide,rfl,by decide⟩
def B7(n:List UInt8):List SV:=Cv 19 2 [] (.sl .ro 1 [.str n]) (.sl .nil 0 []) (.sl .nil 0 [])
def gO(n:List UInt8):List SV:=[.d (.int .i64 19),.d (.int .i64 2),.d (.int .i64 0),.d (.int .i64 0),.d (.str []),.d (.str []),.d (.str []),.own 1 [.str n],.d (.sl .nil 0 [])]++(MY (.sl .nil 0 []) (.sl .nil 0 [])).map .d
theorem ag4(n:List UInt8):aF Try.prog gl 71 [.d (.sl .ro 1 [.str n])] (.own 1 [.str n]):=by
 refine a8 (HW ..) fun br=>?_
 have e:aj (some (false,[])) .eql (.d (.sl .ro 1 [.str n])) (.d (.sl .nil 0 []))=some (.d (.bool false)):=rfl
 simp only[e,uL,sS,sT]
 refine And.intro (fun h=>absurd h (by decide)) (fun _=>?_)
 exact⟨rfl,(show 1*16≤140737488355328 by decide),rfl,rfl⟩
theorem aeN(n:List UInt8):aF Try.prog gl 72 [.d (jV 19 2 [] (.sl .ro 1 [.str n]) (.sl .nil 0 []) (.sl .nil 0 []))] (.d (jV 19 2 [] (.sl .ro 1 [.str n]) (.sl .nil 0 []) (.sl .nil 0 []))):=by
 refine a8 (RT ..) fun br=>?_
 have e0:aE (.d (jV 19 2 [] (.sl .ro 1 [.str n]) (.sl .nil 0 []) (.sl .nil 0 [])))=some (B7 n):=rfl
 have el:(gO n).length =55:=rfl
 have fk:setAt ik 0 (B7 n)=B7 n:=vN rfl rfl
 have ew0:ai true 55 0 (B7 n)=some (.d (jV 19 2 [] (.sl .ro 1 [.str n]) (.sl .nil 0 []) (.sl .nil 0 []))):=rfl
 simp only[sZ]at fk
 have ew:ai true 55 0 (gO n)=some (.d (jV 19 2 [] (.sl .ro 1 [.str n]) (.sl .nil 0 []) (.sl .nil 0 []))):=rfl
 have en:aE (.d (.sl .nil 0 []))=some [.d (.sl .nil 0 [])]:=rfl
 have e7:ai false 1 7 (B7 n)=some (.d (.sl .ro 1 [.str n])):=rfl
 have e8:ai false 1 8 (B7 n)=some (.d (.sl .nil 0 [])):=rfl
 have Vt:ai false 1 40 (gO n)=some (.d (.sl .nil 0 [])):=rfl
 have Vu:ai false 1 53 (gO n)=some (.d (.sl .nil 0 [])):=rfl
 have Vv:ai false 1 54 (gO n)=some (.d (.sl .nil 0 [])):=rfl
 have e9:ai true 5 9 (gO n)=some (.d uu):=rfl
 have Vw:ai true 5 14 (gO n)=some (.d uu):=rfl
 have Vx:ai true 5 19 (gO n)=some (.d uu):=rfl
 have Vy:ai true 5 24 (gO n)=some (.d uu):=rfl
 have Vz:ai true 10 29 (gO n)=some (.d Ef):=rfl
 have VA:ai true 4 41 (gO n)=some (.d AX):=rfl
 have VB:ai true 4 48 (gO n)=some (.d AX):=rfl
 have s7:setAt (B7 n) 7 [.own 1 [.str n]]=gO n:=rfl
 have VL:(B7 n).length =55:=rfl
 have eo:aE (.own 1 [.str n])=some [.own 1 [.str n]]:=rfl
 have s8:setAt (gO n) 8 [.d (.sl .nil 0 [])]=gO n:=rfl
 have VC:setAt (gO n) 40 [.d (.sl .nil 0 [])]=gO n:=rfl
 have VD:setAt (gO n) 53 [.d (.sl .nil 0 [])]=gO n:=rfl
 have VE:setAt (gO n) 54 [.d (.sl .nil 0 [])]=gO n:=rfl
 have s9:setAt (gO n) 9 u5=gO n:=rfl
 have VF:setAt (gO n) 14 u5=gO n:=rfl
 have VG:setAt (gO n) 19 u5=gO n:=rfl
 have VH:setAt (gO n) 24 u5=gO n:=rfl
 have VI:setAt (gO n) 29 FU=gO n:=rfl
 have VJ:setAt (gO n) 41 B6=gO n:=rfl
 have VK:setAt (gO n) 48 B6=gO n:=rfl
 have cn:aE (.d uu)=some u5:=rfl
 have ce:aE (.d Ef)=some FU:=rfl
 have cr:aE (.d AX)=some B6:=rfl
 have ln:u5.length=5:=rfl
 have le:FU.length=10:=rfl
 have lr:B6.length=4:=rfl
 simp only[e0,VL,e7,e8,sS,sT,sZ]
 refine bH (ag4 n) rfl ?_
 refine bH EF rfl ?_
 simp only[en,eo,s7,s8,el,e9,Vw,Vx,Vy,sS]
 refine⟨rfl,by decide,rfl,by decide,?_⟩
 refine bH A6 rfl ?_
 refine bH A6 rfl ?_
 refine bH A6 rfl ?_
 refine bH A6 rfl ?_
 simp only[cn,ln,s9,VF,VG,VH,el,Vz,sS,sT]
 refine⟨by decide,by decide,by decide,by decide,?_⟩
 refine bH V3 rfl ?_
 simp only[ce,le,VI,el,Vt,sS,sT]
 refine⟨by decide,?_⟩
 refine bH KO rfl ?_
 simp only[en,VC,el,VA,VB,sS]
 refine⟨rfl,by decide,?_⟩
 refine bH KP rfl ?_
 refine bH KP rfl ?_
 simp only[cr,lr,VJ,VK,el,Vu,Vv,sS,sT]
 refine⟨by decide,by decide,?_⟩
 refine bH KG rfl ?_
 refine bH KG rfl ?_
 simp only[en,VD,VE,el,VL,ew,ew0,e0,fk,sS,sT]
 exact⟨rfl,by decide,rfl,by decide⟩
def Iy:SV→SV
 | .full sz L=>.d (.sl .ro sz L)
 |x=>x
theorem afN{w:World}{St:Nat→Nat→Prop}{base:Nat}{O:Nat→Nat→Nat→Prop}{x:SV}{v:Value}(h:aR w St base O x v):aR w St base O (Iy x) v:=by
 cases h with
 |full _ sz L a h=>exact .d _ _ _ h
 |d _ x v h=>exact .d _ _ _ h
 |own _ sz L g cap h cd ho=>exact .own _ _ _ _ _ h cd ho
 |ref _ cs off b o vs hb aW hc=>exact .ref _ _ _ _ _ _ hb aW hc
 |dg _ n sz cs b cap vs hb hn hm aW hc=>exact .dg _ _ _ _ _ _ _ hb hn hm aW hc
 |aX _ x off b o vs hf aW hc=>exact .aX _ _ _ _ _ _ hf aW hc
 |ef _ f first cap fv cv hf hc rf rc=>exact .ef _ _ _ _ _ _ hf hc rf rc
 |bh _ sz L g cap vs cd hm aN hf ho aW hc=>exact .bh _ _ _ _ _ _ cd hm aN hf ho aW hc
 |mp _ l r es clock hh hs hl hc=>exact .mp _ _ _ _ _ hh hs hl hc
 |nest _ LL gg cap bk cp h1 h2 h3 h4 h5 h6=>exact .nest _ LL gg cap bk cp h1 h2 h3 h4 h5 h6
 |undef _ v=>exact .undef _ _
theorem ze{P:Program}{gl:Nat→Option D}{f:FuncId}{args:List SV}{r:SV}(h:aF P gl f (args.map Iy) r)(h1:pc args=none:=by rfl)(h2:pc (args.map Iy)=none:=by rfl):aF P gl f args r:=by
 have e1:aF P gl f args r=HQ P gl f args r:=by unfold aF;rw[h1]
 have e2:aF P gl f (args.map Iy) r=HQ P gl f (args.map Iy) r:=by unfold aF;rw[h2]
 rw[e1]
 rw[e2]at h
 refine⟨h.1,fun w St vs hb hg hl ha=>h.2 w St vs hb hg (by rw[List.length_map];exact hl) fun i x v hx hv=>?_⟩
 rw[List.getElem?_map]at hx
 obtain⟨y,hy,rfl⟩:=Option.map_eq_some_iff.1 hx
 exact afN (ha i y v hy hv)
structure FV(a:List (List Bool))(L:List D):Prop where
 len:L.length=a.length
 at_:∀{i:Nat}{r:List Bool},a[i]? =some r→∃y,L[i]? =some y∧aL 1 (cH r) y
theorem aiu(a:List (List Bool)):FV a (a.map pV):=
 ⟨List.length_map ..,fun{i r}h=>⟨pV r,by simp[h],cm 1 _⟩⟩
theorem sc{r:List Bool}{i:Nat}{v:Bool}(h:r[i]? =some v):(cH r)[i]? =some (.bool v):=by simp[cH,h]
theorem MB(y:D)(L:List D)(h:aL 1 L y):aH false 1 (.aX y 0)=some (.d y):=by cases h<;>rfl
theorem aeO{a b:List (List Bool)}{La Lb:List D}{x y:D}(hx:aL 1 La x)(hy:aL 1 Lb y)(ha:FV a La)(hb:FV b Lb)(xg:∀r∈a,r.length≤maxLen):aF Try.prog gl 15 [.d x,.d y] (.d (.bool (a==b))):=by
 refine a8 (alF ..) fun br=>?_
 have bX:a.length≤maxLen:=by rw[←ha.len];exact hx.Ai br.1
 simp only[hx.len,hy.len,ha.len,hb.len,ek,HH,sS,sT]
 refine And.intro (fun h=>?_) (fun h=>?_)
 ·have bg:a≠b:=fun he=>by subst he;simp at h
  rw[beq_eq_false_iff_ne.2 bg]
 have hle:a.length=b.length:=by simpa using h
 refine n9 (fun i=>a.take i=b.take i) (fun i=>[.d x,.d y,.d (.int .i64 (a.length:Int)),.d (.int .i64 ((i:Nat):Int))]) (fun i=>[]) a.length rfl (fun i hi hJ I hI=>?_) (fun hJ I=>?_)
 ·simp only[sS,sT]
  refine And.intro (fun _=>?_) (fun h=>absurd h (by simp;omega))
  obtain⟨p,hp⟩:=get_some hi
  obtain⟨q,hq⟩:=get_some (by omega:i<b.length)
  obtain⟨yp,hyp,OQ⟩:=ha.at_ hp
  obtain⟨yq,hyq,OR⟩:=hb.at_ hq
  have my:=xg p (List.mem_of_getElem? hp)
  simp only[hx.at hyp,hy.at hyq,MB _ _ OQ,MB _ _ OR,OQ.len,OR.len,tu,ek,HH,sS]
  refine And.intro (fun h=>?_) (fun h=>?_)
  ·have bg:a≠b:=fun he=>by
    subst he
    rw[hp]at hq;cases hq
    simp at h
   rw[beq_eq_false_iff_ne.2 bg]
  have pn:p.length=q.length:=by simpa using h
  refine n9 (fun j=>p.take j=q.take j) (fun j=>[.d x,.d y,.d (.int .i64 ((i:Nat):Int)),.d (.int .i64 (a.length:Int)),.d (.int .i64 ((i:Nat):Int)),.d (.int .i64 (p.length:Int)),.d (.int .i64 ((j:Nat):Int))]) (fun j=>[]) p.length rfl (fun j hj lW I2 cF=>?_) (fun lW I2=>?_)
  ·simp only[sS,sT]
   refine And.intro (fun _=>?_) (fun h=>absurd h (by simp;omega))
   obtain⟨u,hu⟩:=get_some hj
   obtain⟨v,hv⟩:=get_some (by omega:j<q.length)
   have fZ:aj (some (false,[.bool])) .neq (.d (.bool u)) (.d (.bool v))=some (.d (.bool (u != v))):=rfl
   simp only[hx.at hyp,hy.at hyq,MB _ _ OQ,MB _ _ OR,OQ.at (sc hu),OR.at (sc hv),xM,fZ,sS]
   refine And.intro (fun h=>?_) (fun h=>?_)
   ·have bg:a≠b:=fun he=>by
     subst he
     rw[hp]at hq;cases hq
     rw[hu]at hv;cases hv
     simp at h
    rw[beq_eq_false_iff_ne.2 bg]
   ·have huv:u=v:=by simpa using h
    refine aS (bf hj my) ?_
    exact cF (by rw[dT hu,dT hv,lW,huv])
  ·simp only[sS,sT]
   refine And.intro (fun h=>absurd h (by simp)) (fun _=>?_)
   rw[List.take_length,pn,List.take_length]at lW
   refine aS (bf hi bX) ?_
   exact hI (by rw[dT hp,dT hq,hJ,lW])
 ·simp only[sS,sT]
  refine And.intro (fun h=>absurd h (by simp)) (fun _=>?_)
  rw[List.take_length,hle,List.take_length]at hJ
  rw[hJ];simp
def GK(n:List UInt8):ah:=.mk ⟨2,0,0,0,n,[],[]⟩ [] []
def GL(n:List UInt8):ah:=.mk ⟨19,2,0,0,[],[n],[]⟩ [] []
def atT(n:List UInt8):ah:=.mk ⟨3,0,0,0,n,[],[]⟩ [] []
def Kr(t e:List ah):ah:=.mk ⟨18,0,0,0,[],[],[]⟩ t e
def AY:bt:=⟨[97],0,[GK [116]]⟩
def yK:bt:=⟨[98],0,[Kr [GL [116]] [atT [120]]]⟩
def OT:bt:=⟨[99],0,[Kr [GL [116],GK [117]] []]⟩
def NC:bt:=⟨[100],0,[Kr [GL [117],GK [116]] []]⟩
def AZ:bt:=⟨[101],0,[GL [116],GK [118]]⟩
def OU:bt:=⟨[122],0,[GK [116],GL [118]]⟩
theorem ap1:xe [AY,yK]=.ok [[],[true]]:=by kernel_rfl
theorem ap2:xe [yK]=.ok [[false]]:=by kernel_rfl
theorem ap3:xe [OT,NC]=.ok [[true],[true]]:=by kernel_rfl
theorem ap4:Jc [AZ,AY]=([1,0],true):=by kernel_rfl
theorem ap5:Jc [AZ,OU]=([0,1],false):=by kernel_rfl
def GM(n:List UInt8):D:=jV 2 0 n (.sl .nil 0 []) (.sl .nil 0 []) (.sl .nil 0 [])
def GN(n:List UInt8):D:=jV 19 2 [] (.sl .ro 1 [.str n]) (.sl .nil 0 []) (.sl .nil 0 [])
def Cw(n:List UInt8):D:=jV 3 0 n (.sl .nil 0 []) (.sl .nil 0 []) (.sl .nil 0 [])
def VM(L:List D):D:=jV 18 0 [] (.sl .nil 0 []) (.sl .ro 55 L) (.sl .nil 0 [])
def OV(L M:List D):D:=jV 18 0 [] (.sl .nil 0 []) (.sl .ro 55 L) (.sl .ro 55 M)
def uv(n:List UInt8)(L:List D):D:=.agg [.str n,.int .i64 0,.sl .ro 55 L]
theorem Iz(k o:Int)(n:List UInt8)(names:List (List UInt8))(th el:List ah){l t e:D}{Lt Le:List D}(hl:aL 1 (cA names) l)(ht:aL 55 Lt t)(he:aL 55 Le e)(fL:fm th Lt)(fG:fm el Le):l6 (.mk ⟨k,o,0,0,n,names,[]⟩ th el) (jV k o n l t e):=
 .mk ⟨k,o,0,0,n,names,[]⟩ th el (.str []) (.str []) l (.sl .nil 0 []) (MY t e) t e Lt Le rfl hl (.nil 0 rfl) rfl rfl ht he fL fG
theorem Df:aL 55 [] (.sl .nil 0 []):=.nil 0 rfl
theorem ND:aL 1 (cA []) (.sl .nil 0 []):=.nil 0 rfl
theorem H5(n:List UInt8):l6 (GK n) (GM n):=Iz 2 0 n [] [] [] ND Df Df .nil .nil
theorem amy(n:List UInt8):l6 (atT n) (Cw n):=Iz 3 0 n [] [] [] ND Df Df .nil .nil
theorem H6(n:List UInt8):l6 (GL n) (GN n):=Iz 19 2 [] [n] [] [] .ro Df Df .nil .nil
theorem abo{th:List ah}{L:List D}(h:fm th L):l6 (Kr th []) (VM L):=Iz 18 0 [] [] th [] ND .ro Df h .nil
theorem aj9{th el:List ah}{L M:List D}(h:fm th L)(k:fm el M):l6 (Kr th el) (OV L M):=Iz 18 0 [] [] th el ND .ro .ro h k
theorem Fg{n:List UInt8}{ts:List ah}{L:List D}(h:fm ts L):mW ⟨n,0,ts⟩ (uv n L):=.mk (.sl .ro 55 L) L .ro h
def OX:D:=uv [97] [GM [116]]
def Eg:D:=uv [98] [OV [GN [116]] [Cw [120]]]
def daC:D:=uv [99] [VM [GN [116],GM [117]]]
def acN:D:=uv [100] [VM [GN [117],GM [116]]]
def OY:D:=uv [101] [GN [116],GM [118]]
def daZ:D:=uv [122] [GM [116],GN [118]]
theorem TB:mW AY OX:=Fg (.cons _ _ _ _ (H5 _) .nil)
theorem NF:mW yK Eg:=Fg (.cons _ _ _ _ (aj9 (.cons _ _ _ _ (H6 _) .nil) (.cons _ _ _ _ (amy _) .nil)) .nil)
theorem ap6:mW OT daC:=Fg (.cons _ _ _ _ (abo (.cons _ _ _ _ (H6 _) (.cons _ _ _ _ (H5 _) .nil))) .nil)
theorem aok:mW NC acN:=Fg (.cons _ _ _ _ (abo (.cons _ _ _ _ (H6 _) (.cons _ _ _ _ (H5 _) .nil))) .nil)
theorem TD:mW AZ OY:=Fg (.cons _ _ _ _ (H6 _) (.cons _ _ _ _ (H5 _) .nil))
theorem ap7:mW OU daZ:=Fg (.cons _ _ _ _ (H5 _) (.cons _ _ _ _ (H6 _) .nil))
theorem aak{m:bt}{d:D}(h:mW m d):sq [m] [d]:=⟨rfl,fun{i m'}hm=>by
 cases i with
 |zero=>simp at hm;subst hm;exact⟨d,rfl,h⟩
 |succ i=>simp at hm⟩
theorem HL{m m2:bt}{d d2:D}(h:mW m d)(h2:mW m2 d2):sq [m,m2] [d,d2]:=⟨rfl,fun{i m'}hm=>by
 cases i with
 |zero=>simp at hm;subst hm;exact⟨d,rfl,h⟩
 |succ i=>cases i with
  |zero=>simp at hm;subst hm;exact⟨d2,rfl,h2⟩
  |succ i=>simp at hm⟩
theorem Fh:tA [AY,yK]=true∧tA [OT,NC]=true∧tA [AZ,OU]=true:=by decide
theorem FX{a b:bt}(h:tA [a,b]=true):∀m∈[a,b],dk m.ax:=(Yv h).2
theorem acO:dk AY.ax:=FX Fh.1 _ (by simp)
theorem TE:dk yK.ax:=FX Fh.1 _ (by simp)
theorem acP:dk AZ.ax:=FX Fh.2.2 _ (by simp)
theorem En1:aF Try.prog gl 11 [.full 3 [OX,Eg]] (.aK [.d (.sl .ro 1 ([[],[true]].map pV)),.d eO]):=by
 have:=Pq (l:=[AY,yK]) .ro (HL TB NF) (by decide) (FX Fh.1)
 rw[ap1]at this
 exact ze this
theorem En2:aF Try.prog gl 11 [.full 3 [Eg]] (.aK [.d (.sl .ro 1 ([[false]].map pV)),.d eO]):=by
 have:=Pq (l:=[yK]) .ro (aak NF) (by decide) (by intro m hm;rw[List.mem_singleton.1 hm];exact TE)
 rw[ap2]at this
 exact ze this
theorem En3:aF Try.prog gl 11 [.full 3 [daC,acN]] (.aK [.d (.sl .ro 1 ([[true],[true]].map pV)),.d eO]):=by
 have:=Pq (l:=[OT,NC]) .ro (HL ap6 aok) (by decide) (FX Fh.2.1)
 rw[ap3]at this
 exact ze this
theorem Od1:aF Try.prog gl 16 [.full 3 [OY,OX]] (.aK [.own 1 [.int .i64 1,.int .i64 0],.d (.int .i64 0)]):=by
 have:=WZ (l:=[AZ,AY]) .ro (HL TD TB) (by decide) (by
  intro m hm
  rcases List.mem_cons.1 hm with rfl|hm
  ·exact acP
  ·rw[List.mem_singleton.1 hm];exact acO)
 rw[ap4]at this
 exact ze this
theorem Od2:aF Try.prog gl 16 [.full 3 [OY,daZ]] (.aK [.d (.sl .ro 1 [.int .i64 0,.int .i64 1]),.d (.int .i64 17)]):=by
 have:=WZ (l:=[AZ,OU]) .ro (HL TD ap7) (by decide) (FX Fh.2.2)
 rw[ap5]at this
 exact ze this
theorem Bk1:aF Try.prog gl 13 [.d Eg] (.d (.int .i64 1)):=Wx NF TE
theorem ap8:Vs (AW fun x=>x) [yK] [Eg]:=by
 intro i m x hm hx
 cases i with
 |zero=>
  simp at hm hx
  subst hm;subst hx
  exact⟨⟨⟨⟨aeN _,rfl⟩,trivial⟩,⟨⟨afM _ _,rfl⟩,trivial⟩⟩,trivial⟩
 |succ i=>simp at hm
def GO:D:=.agg [.str [98],.int .i64 0,.sl .ro 55 [Cw [120]]]
theorem ap9:Ee (fun x=>x) [yK] [Eg]=.ok [GO]:=by kernel_rfl
theorem Fl1:aF Try.prog gl 25 [.full 3 [Eg]] (.aK [.own 3 [GO],.d eO]):=by
 have:=Pr (fun x=>x) (l:=[yK]) .ro (aak NF) (by decide) (by intro m hm;rw[List.mem_singleton.1 hm];exact TE) ap8
 rw[ap9]at this
 exact ze this
theorem aqa:RW [AZ,AY] 0=[1]:=by kernel_rfl
theorem Nd1:aF Try.prog gl 19 [.full 3 [OY,OX],.d (.int .i64 0)] (.own 1 [.int .i64 1]):=by
 have:=aeE (l:=[AZ,AY]) .ro (HL TD TB) (by decide) (by
  intro m hm
  rcases List.mem_cons.1 hm with rfl|hm
  ·exact acP
  ·rw[List.mem_singleton.1 hm];exact acO) 0
 rw[aqa]at this
 exact ze this
theorem VN(a:List Nat):aF Try.prog gl 18 [.d (.sl .ro 1 (db a)),.full 1 (db a)] (.d (.bool true)):=by
 have:=afF a a (x:=.sl .ro 1 (db a)) (y:=.sl .ro 1 (db a)) .ro .ro
 rw[show(a==a)=true from by simp]at this
 exact ze this
theorem VO(a:List (List Bool))(L:List D)(h:FV a L)(ha:∀r∈a,r.length≤maxLen):aF Try.prog gl 15 [.d (.sl .ro 1 (a.map pV)),.full 1 L] (.d (.bool true)):=by
 have:=aeO (a:=a) (b:=a) (x:=.sl .ro 1 (a.map pV)) (y:=.sl .ro 1 L) .ro .ro (aiu a) h ha
 rw[show(a==a)=true from by simp]at this
 exact ze this
set_option maxRecDepth 8000
theorem Fi{P:Program}{gl:Nat→Option D}{f:FuncId}{args:List SV}{r1 r2:SV}{k:SV→SV→Prop}(hH:aF P gl f args (.aK [r1,r2]))(hk:k r1 r2):∃a b,aF P gl f args (.aK [a,b])∧k a b:=⟨r1,r2,hH,hk⟩
def Eh(n:List UInt8)(L:List D):List SV:=[.d (.str n),.d (.int .i64 0),.d (.sl .ro 55 L)]
theorem tp(n:List UInt8)(L:List D):dF Try.prog 36 [(0,.str n),(2,.sl .ro 55 L)]=some (uv n L):=by kernel_rfl
theorem tl(x:D)(L:List D):aT [(0,.v (.d x)),(2,.v (.full 55 L))]=some [(0,x),(2,.sl .ro 55 L)]:=rfl
theorem lG(n:List UInt8)(L:List D):aE (.d (uv n L))=some (Eh n L):=rfl
theorem tC(n:List UInt8)(L:List D):(Eh n L).length =3:=rfl
theorem lL(a b c:SV)(n:List UInt8)(L:List D):setAt [a,b,c] 0 (Eh n L)=Eh n L:=rfl
theorem lH(n:List UInt8)(L:List D):ai true 3 0 (Eh n L)=some (.d (uv n L)):=rfl
theorem tD(n:List UInt8)(L:List D):bz 3 1 [(0,uv n L)]=true:=rfl
theorem lI(n n2:List UInt8)(L L2:List D):bz 3 2 [(0,uv n L),(1,uv n2 L2)]=true:=rfl
theorem lM(z x y:D):bF z [(0,x),(1,y)] 2 0=[x,y]:=rfl
theorem tE(k o:Int)(n:List UInt8)(l t e:D):bz 55 1 [(0,jV k o n l t e)]=true:=rfl
theorem tx(k o:Int)(n:List UInt8)(l t e:D)(k2 o2:Int)(n2:List UInt8)(l2 t2 e2:D):bz 55 2 [(0,jV k o n l t e),(1,jV k2 o2 n2 l2 t2 e2)]=true:=rfl
def VP(L M:List D):List SV:=[.d (.int .i64 18),.d (.int .i64 0),.d (.int .i64 0),.d (.int .i64 0),.d (.str []),.d (.str []),.d (.str []),.d (.sl .nil 0 []),.d (.sl .nil 0 [])]++((oM.drop 9).take 44).map .d ++[.d (.sl .ro 55 L),.full 55 M]
theorem tF(L M:List D):setAt (Cv 18 0 [] (.sl .nil 0 []) (.sl .ro 55 L) (.sl .nil 0 [])) 54 [.full 55 M]=VP L M:=rfl
theorem tq(L M:List D):ai true 55 0 (VP L M)=some (.d (OV L M)):=rfl
theorem tm(L:List D):aE (.full 55 L)=some [.full 55 L]:=rfl
theorem vT:ai true 4 0 (setAt cW 0 [.d (.int .i64 0),.d (.int .i64 0),.d (.int .i64 0),.d (.str [])])=some (.d eO):=rfl
theorem vU:dF Try.prog 30 []=some eO:=by kernel_rfl
theorem wa:aj (some (true,[.int,.int,.int,.str])) .eql (.d eO) (.d eO)=some (.d (.bool true)):=rfl
theorem xh{A B:Prop}(h:A):ar (.d (.bool true)) A B:=by
 rw[ZX];exact⟨fun _=>h,fun h=>absurd h (by decide)⟩
theorem xz(L:List D):aT [(0,.v (.full 1 L))]=some [(0,.sl .ro 1 L)]:=rfl
theorem xA(L M:List D):aT [(0,.v (.full 1 L)),(1,.v (.full 1 M))]=some [(0,.sl .ro 1 L),(1,.sl .ro 1 M)]:=rfl
theorem ym:bz 1 0 []=true:=rfl
theorem xZ(L:List D):bz 1 1 [(0,D.sl .ro 1 L)]=true:=rfl
theorem xN(L M:List D):bz 1 2 [(0,D.sl .ro 1 L),(1,D.sl .ro 1 M)]=true:=rfl
theorem u6(z:D):bF z [] 0 0=[]:=rfl
theorem amz(r:List Bool):FV [r] [.sl .ro 1 (cH r)]:=⟨rfl,fun{i s}h=>by
 cases i with
 |zero=>simp at h;subst h;exact⟨_,rfl,.ro⟩
 |succ i=>simp at h⟩
theorem abp(r s:List Bool):FV [r,s] [.sl .ro 1 (cH r),.sl .ro 1 (cH s)]:=⟨rfl,fun{i t}h=>by
 cases i with
 |zero=>simp at h;subst h;exact⟨_,rfl,.ro⟩
 |succ i=>cases i with
  |zero=>simp at h;subst h;exact⟨_,rfl,.ro⟩
  |succ i=>simp at h⟩
theorem Aj:ba (.d (.sl .ro 3 [GO]))=some (.d (.int .i64 1)):=rfl
theorem Al:aJ 3 (.d (.sl .ro 3 [GO])) (.d (.int .i64 0))=some (.aX GO 0):=rfl
theorem Am:aH false 1 (.aX GO 2)=some (.d (.sl .ro 55 [Cw [120]])):=rfl
theorem An:ba (.d (.sl .ro 55 [Cw [120]]))=some (.d (.int .i64 1)):=rfl
theorem Ao:aJ 55 (.d (.sl .ro 55 [Cw [120]])) (.d (.int .i64 0))=some (.aX (Cw [120]) 0):=rfl
theorem Ap:aH false 1 (.aX (Cw [120]) 4)=some (.d (.str [120])):=rfl
theorem Aq:aj (some (false,[.str])) .eql (.d (.str [120])) (.d (.str [120]))=some (.d (.bool true)):=rfl
theorem zE(a b:Int):bz 1 2 [(0,.int .i64 a),(1,.int .i64 b)]=true:=rfl
theorem vR(z x:D):bF z [(0,x)] 1 0=[x]:=rfl
theorem zF(z x y:D):bF z [(0,x),(1,y)] 2 0=[x,y]:=rfl
theorem zl(a:Int):bz 1 1 [(0,.int .i64 a)]=true:=rfl
theorem Fg1:aF Try.prog gl 15 [.d (.sl .ro 1 [pV [],pV [true]]),.full 1 [.sl .ro 1 [],.sl .ro 1 [.bool true]]] (.d (.bool true)):=VO [[],[true]] _ (abp [] [true]) (by decide)
theorem Fg2:aF Try.prog gl 15 [.d (.sl .ro 1 [pV [false]]),.full 1 [.sl .ro 1 [.bool false]]] (.d (.bool true)):=VO [[false]] _ (amz [false]) (by decide)
theorem Fg3:aF Try.prog gl 15 [.d (.sl .ro 1 [pV [true],pV [true]]),.full 1 [.sl .ro 1 [.bool true],.sl .ro 1 [.bool true]]] (.d (.bool true)):=VO [[true],[true]] _ (abp [true] [true]) (by decide)
theorem tH(L M:List D):bz 55 1 [(0,OV L M)]=true:=rfl
theorem kS(n:Nat)(L:List D):aa (.own n L)=.d (.sl .ro n L):=rfl
theorem W7:aF Try.prog gl 10 [] (.d (.bool true)):=by
 refine a8 (alZ ..) fun br=>?_
 refine bH (G7 [116]) rfl ?_
 simp only[dG,j0,tl,pj,lM,tE,tD,lI,rO,tp,lG,tC,lL,lH,tm,sS,sT]
 refine bH (PM _) rfl ?_
 simp only[dG,pj,tH,pJ,pP,pQ,tF,tq,sS,sT]
 refine⟨rfl,?_⟩
 refine bH (Ha [116]) rfl ?_
 simp only[dG,pj,tE,sS,sT]
 refine Fi En1 ?_
 simp only[eO,dv,dw,sS,sT]
 refine Fi En2 ?_
 simp only[eO,dv,dw,sS,sT]
 refine Fi Fl1 ?_
 simp only[eO,dv,dw,kS,sS,sT]
 refine bH (G7 [116]) rfl ?_
 refine bH (Ha [117]) rfl ?_
 simp only[j0,lM,tx,sS,sT]
 refine bH (PM _) rfl ?_
 simp only[dG,pj,tE,sS,sT]
 refine bH (G7 [117]) rfl ?_
 refine bH (Ha [116]) rfl ?_
 simp only[j0,lM,tx,sS,sT]
 refine bH (PM _) rfl ?_
 simp only[dG,pj,tE,sS,sT]
 refine Fi En3 ?_
 simp only[eO,dv,dw,sS,sT]
 refine bH (G7 [116]) rfl ?_
 refine bH (Ha [118]) rfl ?_
 simp only[j0,lM,tx,sS,sT]
 refine Fi Od1 ?_
 refine bH (Ha [116]) rfl ?_
 refine bH (G7 [118]) rfl ?_
 simp only[j0,lM,tx,kS,sS,sT]
 refine Fi Od2 ?_
 simp only[vT,vU,wa,vT,vU,wa,xz,xA,ym,xZ,xN,uQ,u6,xW,sS,sT]
 refine And.intro (fun _=>?_) (fun h=>absurd h (by decide))
 simp only[zE,zl,zF,Aj,Al,Am,An,Ao,Ap,Aq,jl,sS,sT]
 refine bH Fg1 rfl ?_
 simp only[sS]
 refine And.intro (fun _=>?_) (fun h=>absurd h (by decide))
 refine And.intro (fun _=>?_) (fun h=>absurd h (by decide))
 refine bH Fg2 rfl ?_
 simp only[sS]
 refine And.intro (fun _=>?_) (fun h=>absurd h (by decide))
 refine And.intro (fun _=>?_) (fun h=>absurd h (by decide))
 refine And.intro (fun _=>?_) (fun h=>absurd h (by decide))
 refine And.intro (fun _=>?_) (fun h=>absurd h (by decide))
 refine And.intro (fun _=>?_) (fun h=>absurd h (by decide))
 refine And.intro (fun _=>?_) (fun h=>absurd h (by decide))
 refine bH Fg3 rfl ?_
 simp only[sS]
 refine And.intro (fun _=>?_) (fun h=>absurd h (by decide))
 refine And.intro (fun _=>?_) (fun h=>absurd h (by decide))
 refine bH (VN [1,0]) rfl ?_
 simp only[sS]
 refine And.intro (fun _=>?_) (fun h=>absurd h (by decide))
 refine And.intro (fun _=>?_) (fun h=>absurd h (by decide))
 refine bH (VN [0,1]) rfl ?_
 simp only[sS]
 refine And.intro (fun _=>?_) (fun h=>absurd h (by decide))
 refine bH Bk1 rfl ?_
 simp only[sS]
 refine And.intro (fun _=>?_) (fun h=>absurd h (by decide))
 refine bH Nd1 rfl ?_
 simp only[kS,sS]
 refine bH (VN [1]) rfl ?_
 simp only[sS,sT]
set_option maxRecDepth 4000
theorem ab6(v:Bool):eP .not (.d (.bool v))=some (.d (.bool (!v))):=by cases v<;>rfl
theorem QW(p:List UInt8)(l m:List (List UInt8)):gr p (l++m)=(gr p l||gr p m):=by
 unfold gr;rw[List.any_append]
theorem afO(p s:List UInt8)(l:List (List UInt8)):gr p (lN l s)=(gr p l||gr p [s]):=by
 unfold lN
 split
 ·rename_i h
  by_cases hp:gr p [s]=true
  ·have:s=p:=by simpa[gr]using hp
   subst this
   rw[hp,Bool.or_true];exact h
  ·rw[Bool.eq_false_iff.2 hp,Bool.or_false]
 ·exact QW _ _ _
theorem YC(p:List UInt8):∀(m l:List (List UInt8)),gr p (jO l m)=(gr p l||gr p m)
 |[],l=>by simp[jO,gr]
 |s::m,l=>by
  rw[show jO l (s::m)=jO (lN l s) m from rfl,YC p m,afO,Bool.or_assoc,←QW];rfl
def mG(bN:List aq)(x:aq):List (List UInt8):=(bN.filter (fe x)).foldl (fun a s=>jO a s.perms) []
theorem QX{l:List aq}{i:Nat}{y:aq}(h:l[i]? =some y)(x:aq):mG (l.take (i+1)) x=if fe x y then jO (mG (l.take i) x) y.perms else mG (l.take i) x:=by
 rw[dT h,mG,mG,List.filter_append,List.foldl_append]
 by_cases hd:fe x y=true<;>simp[hd]
theorem RZ(l:List aq)(x:aq):∀i,(mG (l.take i) x).length ≤dt (l.take i)
 |0=>by simp[mG]
 |i+1=>by
  have ih:=RZ l x i
  cases h:l[i]? with
  |none=>
   have h1:l.length≤i:=List.getElem?_eq_none_iff.1 h
   rw[List.take_of_length_le (by omega)]
   rwa[List.take_of_length_le h1]at ih
  |some s=>
   rw[QX h,Cz h]
   split
   ·have:=Zd (mG (l.take i) x) s.perms s.perms.length
    rw[List.take_length]at this
    omega
   ·omega
theorem aal(p:List UInt8)(x:aq)(l:List aq):∀i,gr p (mG (l.take i) x)=gr p (kN (l.take i) x)
 |0=>by simp[mG,kN]
 |i+1=>by
  have ih:=aal p x l i
  cases h:l[i]? with
  |none=>
   have h1:l.length≤i:=List.getElem?_eq_none_iff.1 h
   rw[List.take_of_length_le (by omega)]
   rwa[List.take_of_length_le h1]at ih
  |some s=>
   rw[QX h,Zq h,QW]
   by_cases hd:fe x s=true
   ·rw[if_pos hd,if_pos hd,YC,ih]
   ·rw[if_neg hd,if_neg hd,ih];simp[gr]
theorem aiv(bN:List aq)(x:aq):(x.perms.filter fun p=> !gr p (mG bN x))=qD bN x:=by
 unfold qD
 congr 1
 funext p
 have:=aal p x bN bN.length
 rw[List.take_length]at this
 rw[this]
theorem ady(eN bN:List aq){x y:D}(hx:aL 6 (aM eN) x)(hy:aL 6 (aM bN) y)(hn:eN.length≤2^30)(hh:bN.length≤2^30)(hp:dt bN≤2^30)(Vo:∀s∈eN,s.perms.length≤2^30):
  aF Try.prog gl 23 [.d x,.d y] (aO 6 (aM (fY eN bN))):=by
 have sU:eN.length≤maxLen:=Nat.le_trans hn (by decide)
 have Km:bN.length≤maxLen:=Nat.le_trans hh (by decide)
 refine a8 (akW ..) fun br=>?_
 refine eX (fun i=>[.d x,.d y,aO 6 (aM (fY (eN.take i) bN)),.d (.int .i64 ((i:Nat):Int))]) (fun i=>[]) eN.length (fun i hi I hI=>?_) (fun I=>?_)
 ·simp only[hx.len,eG,sS,sT,sZ]
  refine And.intro (fun _=>?_) (fun h=>absurd h (by simp;omega))
  obtain⟨s,hs⟩:=get_some hi
  have ml:=Vo s (List.mem_of_getElem? hs)
  have Jf:s.perms.length≤maxLen:=Nat.le_trans ml (by decide)
  have rD:=Zr (eN.take i) bN
  rw[List.length_take]at rD
  rw[Yy hs]at hI
  simp only[hx.at (mP hs),rS,gC,gn,iK,fX,iI,iJ,sS,sT]
  unfold yJ at hI
  refine And.intro (fun h=>?_) (fun h=>?_)
  ·have h':(!s.cV)=true:=h
   rw[h',Bool.true_or,if_pos rfl,List.append_nil]at hI
   refine aS (bf hi sU) ?_
   exact hI
  have h':(!s.cV)=false:=h
  rw[h',Bool.false_or]at hI
  refine eD (P4 s) ?_
  simp only[sS]
  refine And.intro (fun h2=>?_) (fun h2=>?_)
  ·rw[if_pos h2,List.append_nil]at hI
   refine aS (bf hi sU) ?_
   exact hI
  rw[if_neg (by rw[h2];simp)]at hI
  refine eX (fun k=>[.d x,.d y,aO 6 (aM (fY (eN.take i) bN)),.d (.int .i64 ((i:Nat):Int)),.d (.bool ((bN.take k).any (fe s))),.d (bB 1 (cA (mG (bN.take k) s))),.d (.sl .nil 0 []),.d (.int .i64 ((k:Nat):Int))]) (fun k=>[s.cells]) bN.length (fun k hk I2 cF=>?_) (fun I2=>?_)
  ·simp only[hy.len,eG,sS,sT]
   refine And.intro (fun _=>?_) (fun h=>absurd h (by simp;omega))
   obtain⟨t,ht⟩:=get_some hk
   have gG:=RZ bN s k
   have Jw:=Cz ht
   have apW:=Ey bN (k+1)
   rw[Zj ht,QX ht]at cF
   simp only[hy.at (mP ht),jl,iv,ic,iJ,HX,HY,HZ,H0,Hk,sS]
   have skip:fe s t=false→ab (aj none .add (.d (.int .i64 ((k:Nat):Int))) (.d (.int .i64 1))) fun r=>I2 [.d x,.d y,aO 6 (aM (fY (eN.take i) bN)),.d (.int .i64 ((i:Nat):Int)),.d (.bool ((bN.take k).any (fe s))),.d (bB 1 (cA (mG (bN.take k) s))),.d (.sl .nil 0 []),aa r] [s.cells]:=fun hd=>by
    rw[hd,Bool.or_false,if_neg (by decide)]at cF
    refine aS (bf hk Km) ?_
    exact cF
   refine And.intro (fun h4=>?_) (fun h4=>?_)
   ·have h5:aj (some (false,[.str])) .eql (.d (.str t.name)) (.d (.str s.name))=some (.d (.bool (t.name==s.name))):=Bs _ _
    simp only[h5,sS]
    refine And.intro (fun h6=>?_) (fun h6=>?_)
    ·refine And.intro (fun h3=>?_) (fun h3=>?_)
     ·have hd:fe s t=true:=by rw[fe,show(!t.cV)=true from h3,show(t.kind==s.kind)=true from h4,h6];rfl
      rw[hd,Bool.or_true,if_pos rfl]at cF
      refine bH (Py (mG (bN.take k) s) t.perms (cm 1 _) (cm 1 _) (by omega) (by omega)) (jX _ _) ?_
      simp only[ej]
      refine aS (bf hk Km) ?_
      exact cF
     ·exact skip (by rw[fe,show(!t.cV)=false from h3];rfl)
    ·exact skip (by rw[fe,h6,Bool.and_false,Bool.and_false])
   ·exact skip (by rw[fe,show(t.kind==s.kind)=false from h4,Bool.false_and,Bool.and_false])
  ·simp only[hy.len,eG,sS,sT]
   refine And.intro (fun h=>absurd h (by simp)) (fun _=>?_)
   rw[List.take_length]
   have gG:=RZ bN s bN.length
   rw[List.take_length]at gG
   have my:(mG bN s).length ≤maxLen:=Nat.le_trans (Nat.le_trans gG hp) (by decide)
   refine eX (fun k=>[.d x,.d y,aO 6 (aM (fY (eN.take i) bN)),.d (.int .i64 ((i:Nat):Int)),.d (.bool (bN.any (fe s))),.d (bB 1 (cA (mG bN s))),aO 1 (cA ((s.perms.take k).filter fun p=> !gr p (mG bN s))),.d (.int .i64 ((k:Nat):Int))]) (fun k=>[s.cells]) s.perms.length (fun k hk I3 gK=>?_) (fun I3=>?_)
   ·simp only[lD,(cm 1 (cA s.perms)).len,iu,sS,sT]
    refine And.intro (fun _=>?_) (fun h=>absurd h (by simp;omega))
    obtain⟨t,ht⟩:=get_some hk
    have oF:=List.length_filter_le (fun p=> !gr p (mG bN s)) (s.perms.take k)
    rw[List.length_take]at oF
    rw[WA ht]at gK
    simp only[(cm 1 (cA s.perms)).at (xL ht),Rn,sS]
    refine eD (Yr (mG bN s) (cm 1 _) my t) ?_
    simp only[iJ,sS]
    refine And.intro (fun h3=>?_) (fun h3=>?_)
    ·have lh:(!gr t (mG bN s))=true:=h3
     rw[if_pos lh,←Ld]at gK
     simp only[Lx,Mr,Ly,sS,sT]
     refine gB (rK 1 _) (by rw[iu];simp only[List.length_singleton];omega) ?_
     refine aS (bf hk Jf) ?_
     exact gK
    ·have lh:(!gr t (mG bN s))=false:=h3
     rw[if_neg (by rw[lh];simp),List.append_nil]at gK
     refine aS (bf hk Jf) ?_
     exact gK
   ·simp only[lD,(cm 1 (cA s.perms)).len,iu,sS,sT]
    refine And.intro (fun h=>absurd h (by simp)) (fun _=>?_)
    rw[List.take_length,aiv]
    simp only[ej,CC,acM,fX,sS]
    have fin:(!bN.any (fe s)||decide (0<(qD bN s).length))=true→cb 6 72 (aO 6 (aM (fY (eN.take i) bN))) (.full 6 [aq.enc {s with perms:=qD bN s}]) fun r=>ab (aj none .add (.d (.int .i64 ((i:Nat):Int))) (.d (.int .i64 1))) fun r2=>I [.d x,.d y,r,aa r2] []:=fun hc=>by
     rw[if_pos hc]at hI
     refine gB (rK 6 _) (by simp only[eG,List.length_singleton];omega) ?_
     refine aS (bf hi sU) ?_
     have e:aM (fY (eN.take i) bN)++[aq.enc {s with perms:=qD bN s}]=aM (fY (eN.take i) bN++[{s with perms:=qD bN s}]):=by simp[aM]
     rw[e]
     exact hI
    refine And.intro (fun h3=>?_) (fun h3=>?_)
    ·have lh:(!bN.any (fe s))=true:=h3
     refine⟨rfl,by simp only[gn];decide,?_⟩
     simp only[dG,L3,kp,sS,sT]
     exact fin (by rw[lh];rfl)
    ·have lh:(!bN.any (fe s))=false:=h3
     simp only[(cm 1 (cA (qD bN s))).len,iu,sS]
     refine And.intro (fun h4=>?_) (fun h4=>?_)
     ·refine⟨rfl,by simp only[gn];decide,?_⟩
      simp only[dG,L3,kp,sS,sT]
      exact fin (by rw[lh,Bool.false_or];simp at h4 ⊢;omega)
     ·rw[if_neg (by rw[lh,Bool.false_or];simp at h4 ⊢;omega),List.append_nil]at hI
      refine aS (bf hi sU) ?_
      exact hI
 ·simp only[hx.len,eG,sS,sT,sZ]
  refine And.intro (fun h=>absurd h (by simp)) (fun _=>?_)
  rw[List.take_length]
  exact⟨jY _ _,rfl⟩
def acQ:Hints:=⟨[(10,6),(10,7),(10,8),(10,9),(10,10),(11,0),(11,3),(11,4),(12,0),(12,3),(12,4),(13,3),(18,0),(18,3),(18,4),(31,0),(31,6),(31,7),(32,18),(32,19),(33,0),(33,3),(33,4),(38,8),(38,9),(38,10),(40,8),(40,9),(40,10),(55,18),(55,19),(60,0),(60,3),(60,4),(61,0),(61,2)],[(8,[0,5,6,7,8],[3,4,18,31,119,254]),(15,[0,5,6,7,8,12],[3,4,11,18,31,60,71,119,254]),(20,[0,5,6,7,13],[3,4,11,31,60,62,67,69,71,254]),(25,[0,5,6,7,13,14,15,16],[3,4,11,31,60,62,67,69,71,254]),(29,[0,5,6,7,13,14,15,16,17,19],[3,4,11,18,31,60,62,67,69,71,119,254]),(35,[0,5,6,7,13,14,15,16,20,21],[3,4,11,18,31,60,62,67,69,71,119,254]),(42,[0,5,6,7,13,14,15,22],[3,4,11,18,31,60,62,67,69,71,119,254]),(45,[0,5,6,7,13,14,15,22,23],[3,4,11,18,31,60,62,67,69,71,119,254]),(53,[0,5,6,7,25,26],[3,4,11,18,31,60,62,67,69,71,119]),(57,[0,5,6,7,25,26,28],[3,4,11,18,27,31,60,62,67,69,71,119,254])],[(11,[.kF 9]),(14,[.box 11 1]),(18,[.jP 11 false 1 [60,62,67,69]]),(5000032,[.mX 0 [20,20]]),(5000055,[.mX 0 [20,27]]),(5000037,[.mX 0 [13,143]]),(5000039,[.mX 0 [14,167]]),(5000045,[.mX 0 [7,190]]),(5000048,[.mX 0 [23,224]]),(5000059,[.mX 2 [13,276]]),(6000018,[.emp 0]),(6000049,[.emp 0]),(33,[.kF 20]),(56,[.box 27 1]),(60,[.jP 27 false 1 [257,262,264,277],.kF 27])]⟩
theorem amA(C:bu)(x0:SV)(K:SV→Prop):body Try.prog gl C acQ 12 [x0] K=(ct [x0] (aU C 33 [aa (aa (aa x0))] fun r0=>ab (aE (aa r0)) fun r1=>r1.length=4∧4≤4∧ab (ai false 1 0 (setAt [a9,a9,a9,c6] 0 r1)) fun r2=>ab (aj c9 .neq (aa (aa r2)) a9) fun r3=>ar r3 (ab (ai true 4 0 (setAt [a9,a9,a9,c6] 0 r1)) fun r4=>ab (aE (aa (aa r4))) fun r5=>r5.length=4∧4≤4∧(SV.aA c7)=true∧ab (ai true 4 0 (setAt [a9,a9,a9,c6] 0 r5)) fun r6=>(SV.aA (aa r6))=true∧(K (.aK [c7,aa r6]))) (bZ (fun fj l5 I9=>ab (ba (aa (aa (ae fj 0)))) fun bE=>ab (aj none .lss (aa (aa (ae fj 4))) (aa bE)) fun bT=>ar bT (ab (aJ 3 (aa (aa (ae fj 0))) (aa (aa (ae fj 4)))) fun bU=>ab (bR (aa bU) 2) fun bV=>ab (aH false 1 (aa bV)) fun bJ=>∃bW,∃bM,((C 34 [aa (aa bJ),c7] (.aK [bW,bM])))∧ab (pT bW) fun ck=>ab (aT [(0,(.v (aa (aa ck))))]) fun cf=>(bz 1 1 cf)=true∧cb 1 24 (ae fj 1) (.full 1 (bF (bI false [nw]) cf 1 0)) fun di=>ab (aT [(0,(.v (aa (aa bM))))]) fun cP=>(bz 1 1 cP)=true∧cb 1 24 (ae fj 2) (.full 1 (bF (bI false [nw]) cP 1 0)) fun cj=>ab (ba (aa (aa ck))) fun cw=>ab (lenOf (aa cw) (aa cw)) fun cJ=>(cJ*1)≤140737488355328∧1=1∧bZ (fun tU DC I26=>ab (aj none .lss (aa (aa (ae tU 5))) (.d (.int .i64 (Nat.cast (List.length (List.replicate cJ (D.bool false))))))) fun dO=>ar dO (ab (da (aa (aa (ae tU 5))) (List.length (List.replicate cJ (D.bool false)))) fun du=>ab (aE c5) fun cS=>cS.length=1∧((du*1)+1)≤(List.length (an DC 2))∧ab (aj none .add (aa (aa (ae tU 5))) bo) fun dp=>(I26 [ae tU 0,ae tU 1,ae tU 2,ae tU 3,ae tU 4,aa dp] [af.az (af.cells (an DC 0)),af.az (af.cells (an DC 1)),af.az (af.cells (setAt (an DC 2) (du*1) cS))])) (ab (dC (an DC 2)) fun dA=>ab (fc false 1 (List.length (List.replicate cJ (D.bool false))) dA) fun dL=>BD 24 (ae tU 3) (.bh 1 dL) fun dM=>ab (aj none .add (aa (aa (ae tU 4))) bo) fun ei=>(I9 [ae tU 0,ae tU 1,ae tU 2,dM,aa ei] [af.az (af.cells (an DC 0)),af.az (af.cells (an DC 1))]))) [ae fj 0,di,cj,ae fj 3,ae fj 4,a9] [af.az (af.cells (an l5 0)),af.az (af.cells (an l5 1)),af.az (af.cells (bj (List.replicate cJ (D.bool false))))]) (bZ (fun eY ou AT=>ar (aa (ae eY 4)) (bZ (fun fl sH D6=>ab (ba (aa (aa (ae fl 0)))) fun gv=>ab (aj none .lss (aa (aa (ae fl 7))) (aa gv)) fun gw=>ar gw (ab (aJ 3 (aa (aa (ae fl 0))) (aa (aa (ae fl 7)))) fun fW=>ab (aH true 3 (aa fW)) fun fh=>∃gb,∃fb,((C 21 [aa (aa fh)] (.aK [gb,fb])))∧ab (aE (aa (aa (aa fb)))) fun gx=>gx.length=4∧4≤4∧bZ (fun iO FY I50=>ab (ba (aa (aa (ae iO 8)))) fun iq=>ab (aj none .lss (aa (aa (ae iO 9))) (aa iq)) fun ir=>ar ir (ab (aJ 6 (aa (aa (ae iO 8))) (aa (aa (ae iO 9)))) fun iS=>ab (aH true 6 (aa iS)) fun iE=>ab (aT [(0,(.v (aa iE)))]) fun iF=>(bz 6 1 iF)=true∧cb 6 72 (ae iO 5) (.full 6 (bF (bI true [qY,qZ,rb,nw,qY,qY]) iF 1 0)) fun jG=>ab (aj none .add (aa (aa (ae iO 9))) bo) fun jH=>(I50 [ae iO 0,ae iO 1,ae iO 2,ae iO 3,ae iO 4,jG,ae iO 6,ae iO 7,ae iO 8,aa jH] [af.az (af.cells (an FY 0)),af.az (af.cells (an FY 1)),af.az (af.cells (an FY 2))])) (ab (aJ 1 (aa (aa (dz (ae iO 1)))) (aa (aa (dz (ae iO 7))))) fun kL=>ab (aH false 1 (aa kL)) fun kg=>ab (aJ 1 (aa (aa (dz (ae iO 2)))) (aa (aa (dz (ae iO 7))))) fun kh=>ab (aH false 1 (aa kh)) fun km=>ab (aJ 1 (aa (aa (dz (ae iO 3)))) (aa (aa (dz (ae iO 7))))) fun nr=>ab (aH false 1 (aa nr)) fun ns=>ab (aJ 1 (aa (aa (dz (ae iO 1)))) (aa (aa (dz (ae iO 7))))) fun lX=>ab (aH false 1 (aa lX)) fun lq=>ab (ba (aa lq)) fun lY=>ab (lenOf (aa lY) (aa lY)) fun nt=>(nt*1)≤140737488355328∧∃nu,∃oN,((C 35 [.aK [.dg 3 0 []],aa (aa kg),aa (aa km),aa (aa ns),.bh 1 (List.replicate nt (D.bool false))] (.aK [oN,nu])))∧(aa oN)=.undef ∧((k9 nu))∧ab (pT (qI nu)) fun nU=>ab (aT [(0,(.v (aa (aa nU))))]) fun pw=>(bz 1 1 pw)=true∧cb 1 24 (ae iO 6) (.full 1 (bF (bI false [nw]) pw 1 0)) fun pz=>bZ (fun bm jc A0=>ab (ba (aa (aa (ae bm 8)))) fun qe=>ab (aj none .lss (aa (aa (ae bm 9))) (aa qe)) fun mD=>ar mD (ab (aJ 1 (aa (aa (dz (ae bm 8)))) (aa (aa (dz (ae bm 9))))) fun vp=>ab (aH false 1 (aa vp)) fun vq=>ar (aa vq) (ab (aJ 1 (aa (aa (dz (ae bm 3)))) (aa (aa (dz (ae bm 7))))) fun wU=>ab (aH false 1 (aa wU)) fun vr=>ab (aJ 1 (aa vr) (aa (aa (dz (ae bm 9))))) fun uj=>ab (aH false 1 (aa uj)) fun sX=>((k9 (aa sX)))∧ar (qI (aa sX)) (ab (aJ 1 (aa (aa (ae bm 1))) (aa (aa (ae bm 7)))) fun uk=>ab (aH false 1 (aa uk)) fun um=>ab (aJ 4 (aa um) (aa (aa (ae bm 9)))) fun vt=>ab (bR (aa vt) 0) fun wV=>ab (aH false 1 (aa wV)) fun za=>∃oO,∃uo,((C 36 [.aK [.dg 1 0 []],aa (aa za),ae bm 5] (.aK [uo,oO])))∧(aa uo)=(aa (ae bm 5))∧ab (aJ 1 (aa (aa (dz (ae bm 8)))) (aa (aa (dz (ae bm 9))))) fun vu=>ab (aH false 1 (aa vu)) fun wW=>ar (aa wW) (ab (aJ 1 (aa (aa (dz (ae bm 3)))) (aa (aa (dz (ae bm 7))))) fun wX=>ab (aH false 1 (aa wX)) fun wY=>ab (aJ 1 (aa wY) (aa (aa (dz (ae bm 9))))) fun vv=>ab (aH false 1 (aa vv)) fun y9=>ab (eP .not (aa y9)) fun vw=>((k9 (aa vw)))∧ar (qI (aa vw)) (ab (aJ 1 (aa (aa (ae bm 1))) (aa (aa (ae bm 7)))) fun wZ=>ab (aH false 1 (aa wZ)) fun AU=>ab (aJ 4 (aa AU) (aa (aa (ae bm 9)))) fun Dy=>ab (bR (aa Dy) 1) fun yB=>ab (aH false 1 (aa yB)) fun yC=>∃yD,∃yE,((C 36 [.aK [.dg 1 0 []],aa (aa yC),oO] (.aK [yE,yD])))∧(aa yE)=(aa oO)∧ab (aj none .add (aa (aa (ae bm 9))) bo) fun Aa=>(A0 [ae bm 0,ae bm 1,ae bm 2,ae bm 3,ae bm 4,yD,ae bm 6,ae bm 7,ae bm 8,aa Aa] [af.az (af.cells (an jc 0)),af.az (af.cells (an jc 1)),af.az (af.cells (an jc 2))])) (ab (aj none .add (aa (aa (ae bm 9))) bo) fun yF=>(A0 [ae bm 0,ae bm 1,ae bm 2,ae bm 3,ae bm 4,oO,ae bm 6,ae bm 7,ae bm 8,aa yF] [af.az (af.cells (an jc 0)),af.az (af.cells (an jc 1)),af.az (af.cells (an jc 2))]))) (((k9 ca))∧ab (aj none .add (aa (aa (ae bm 9))) bo) fun yG=>(A0 [ae bm 0,ae bm 1,ae bm 2,ae bm 3,ae bm 4,oO,ae bm 6,ae bm 7,ae bm 8,aa yG] [af.az (af.cells (an jc 0)),af.az (af.cells (an jc 1)),af.az (af.cells (an jc 2))]))) (ab (aJ 1 (aa (aa (dz (ae bm 8)))) (aa (aa (dz (ae bm 9))))) fun wm=>ab (aH false 1 (aa wm)) fun BV=>ar (aa BV) (ab (aJ 1 (aa (aa (dz (ae bm 3)))) (aa (aa (dz (ae bm 7))))) fun Ac=>ab (aH false 1 (aa Ac)) fun BW=>ab (aJ 1 (aa BW) (aa (aa (dz (ae bm 9))))) fun FK=>ab (aH false 1 (aa FK)) fun BY=>ab (eP .not (aa BY)) fun BZ=>((k9 (aa BZ)))∧ar (qI (aa BZ)) (ab (aJ 1 (aa (aa (ae bm 1))) (aa (aa (ae bm 7)))) fun yH=>ab (aH false 1 (aa yH)) fun Ad=>ab (aJ 4 (aa Ad) (aa (aa (ae bm 9)))) fun yI=>ab (bR (aa yI) 1) fun Ae=>ab (aH false 1 (aa Ae)) fun BX=>∃tS,∃Af,((C 36 [.aK [.dg 1 0 []],aa (aa BX),ae bm 5] (.aK [Af,tS])))∧(aa Af)=(aa (ae bm 5))∧ab (aj none .add (aa (aa (ae bm 9))) bo) fun IV=>(A0 [ae bm 0,ae bm 1,ae bm 2,ae bm 3,ae bm 4,tS,ae bm 6,ae bm 7,ae bm 8,aa IV] [af.az (af.cells (an jc 0)),af.az (af.cells (an jc 1)),af.az (af.cells (an jc 2))])) (ab (aj none .add (aa (aa (ae bm 9))) bo) fun FL=>(A0 [ae bm 0,ae bm 1,ae bm 2,ae bm 3,ae bm 4,ae bm 5,ae bm 6,ae bm 7,ae bm 8,aa FL] [af.az (af.cells (an jc 0)),af.az (af.cells (an jc 1)),af.az (af.cells (an jc 2))]))) (((k9 ca))∧ab (aj none .add (aa (aa (ae bm 9))) bo) fun IX=>(A0 [ae bm 0,ae bm 1,ae bm 2,ae bm 3,ae bm 4,ae bm 5,ae bm 6,ae bm 7,ae bm 8,aa IX] [af.az (af.cells (an jc 0)),af.az (af.cells (an jc 1)),af.az (af.cells (an jc 2))])))) (((k9 ca))∧ab (aJ 1 (aa (aa (dz (ae bm 8)))) (aa (aa (dz (ae bm 9))))) fun IY=>ab (aH false 1 (aa IY)) fun IZ=>ar (aa IZ) (ab (aJ 1 (aa (aa (dz (ae bm 3)))) (aa (aa (dz (ae bm 7))))) fun I0=>ab (aH false 1 (aa I0)) fun Ja=>ab (aJ 1 (aa Ja) (aa (aa (dz (ae bm 9))))) fun FM=>ab (aH false 1 (aa FM)) fun FN=>ab (eP .not (aa FN)) fun FO=>((k9 (aa FO)))∧ar (qI (aa FO)) (ab (aJ 1 (aa (aa (ae bm 1))) (aa (aa (ae bm 7)))) fun Nq=>ab (aH false 1 (aa Nq)) fun FP=>ab (aJ 4 (aa FP) (aa (aa (ae bm 9)))) fun Tl=>ab (bR (aa Tl) 1) fun Tm=>ab (aH false 1 (aa Tm)) fun Tn=>∃Nr,∃Ns,((C 36 [.aK [.dg 1 0 []],aa (aa Tn),ae bm 5] (.aK [Ns,Nr])))∧(aa Ns)=(aa (ae bm 5))∧ab (aj none .add (aa (aa (ae bm 9))) bo) fun To=>(A0 [ae bm 0,ae bm 1,ae bm 2,ae bm 3,ae bm 4,Nr,ae bm 6,ae bm 7,ae bm 8,aa To] [af.az (af.cells (an jc 0)),af.az (af.cells (an jc 1)),af.az (af.cells (an jc 2))])) (ab (aj none .add (aa (aa (ae bm 9))) bo) fun Nt=>(A0 [ae bm 0,ae bm 1,ae bm 2,ae bm 3,ae bm 4,ae bm 5,ae bm 6,ae bm 7,ae bm 8,aa Nt] [af.az (af.cells (an jc 0)),af.az (af.cells (an jc 1)),af.az (af.cells (an jc 2))]))) (((k9 ca))∧ab (aj none .add (aa (aa (ae bm 9))) bo) fun Tp=>(A0 [ae bm 0,ae bm 1,ae bm 2,ae bm 3,ae bm 4,ae bm 5,ae bm 6,ae bm 7,ae bm 8,aa Tp] [af.az (af.cells (an jc 0)),af.az (af.cells (an jc 1)),af.az (af.cells (an jc 2))])))) (ab (aj none .add (aa (aa (ae bm 7))) bo) fun Tq=>(D6 [ae bm 0,ae bm 1,ae bm 2,ae bm 3,ae bm 4,ae bm 5,ae bm 6,aa Tq] [af.az (af.cells (an jc 0)),af.az (af.cells (an jc 1))]))) [ae iO 0,ae iO 1,ae iO 2,ae iO 3,ae iO 4,ae iO 5,pz,ae iO 7,nU,a9] [af.az (af.cells (an FY 0)),af.az (af.cells (an FY 1)),af.az (af.cells (an FY 2))])) [ae fl 0,ae fl 1,ae fl 2,ae fl 3,ae fl 4,ae fl 5,ae fl 6,ae fl 7,aa (aa (aa gb)),a9] [af.az (af.cells (an sH 0)),af.az (af.cells (an sH 1)),af.az (af.cells (setAt [a9,a9,a9,c6] 0 gx))]) (bZ (fun qE MZ aqb=>ab (ba (aa (aa (ae qE 0)))) fun Tr=>ab (aj none .lss (aa (aa (ae qE 7))) (aa Tr)) fun Ts=>ar Ts (bZ (fun dV yn NG=>ab (aJ 1 (aa (aa (dz (ae dV 3)))) (aa (aa (dz (ae dV 7))))) fun Tt=>ab (aH false 1 (aa Tt)) fun Tu=>ab (ba (aa Tu)) fun Tv=>ab (aj none .lss (aa (aa (dz (ae dV 8)))) (aa Tv)) fun Nu=>((k9 Nu))∧ar (qI Nu) (ab (aJ 1 (aa (aa (ae dV 1))) (aa (aa (ae dV 7)))) fun Nv=>ab (aH false 1 (aa Nv)) fun Nw=>ab (aJ 4 (aa Nw) (aa (aa (ae dV 8)))) fun Nx=>ab (bR (aa Nx) 0) fun Ny=>ab (aH false 1 (aa Ny)) fun aqc=>aU C 36 [aa (aa aqc),c7] fun aqd=>ab (aJ 1 (aa (aa (dz (ae dV 6)))) (aa (aa (dz (ae dV 7))))) fun aqe=>ab (aH false 1 (aa aqe)) fun aqf=>ab (aJ 1 (aa aqf) (aa (aa (dz (ae dV 8))))) fun aqg=>ab (aH false 1 (aa aqg)) fun aqh=>ar (aa aqh) (ab (aJ 1 (aa (aa (dz (ae dV 3)))) (aa (aa (dz (ae dV 7))))) fun aqi=>ab (aH false 1 (aa aqi)) fun aqj=>ab (aJ 1 (aa aqj) (aa (aa (dz (ae dV 8))))) fun aqk=>ab (aH false 1 (aa aqk)) fun aql=>ar (aa (aa aql)) (aU C 23 [aa (aa (aa (dz (aa aqd)))),aa (aa (aa (dz (ae dV 5))))] fun aqm=>ab (ba (aa aqm)) fun aqn=>ab (aj none .gtr (aa aqn) a9) fun acR=>((k9 (aa acR)))∧ar (qI (aa acR)) (zJ (ae dV 3) (ae dV 7) (ae dV 8) false fun aqo=>ab (aj none .add (aa (aa (ae dV 8))) bo) fun aqp=>(NG [ae dV 0,ae dV 1,ae dV 2,aqo,c5,ae dV 5,ae dV 6,ae dV 7,aa aqp] [af.az (af.cells (an yn 0)),af.az (af.cells (an yn 1))])) (ab (aj none .add (aa (aa (ae dV 8))) bo) fun aqq=>(NG [ae dV 0,ae dV 1,ae dV 2,ae dV 3,ae dV 4,ae dV 5,ae dV 6,ae dV 7,aa aqq] [af.az (af.cells (an yn 0)),af.az (af.cells (an yn 1))]))) (((k9 ca))∧ab (aj none .add (aa (aa (ae dV 8))) bo) fun aqr=>(NG [ae dV 0,ae dV 1,ae dV 2,ae dV 3,ae dV 4,ae dV 5,ae dV 6,ae dV 7,aa aqr] [af.az (af.cells (an yn 0)),af.az (af.cells (an yn 1))]))) (((k9 ca))∧ab (aj none .add (aa (aa (ae dV 8))) bo) fun aqs=>(NG [ae dV 0,ae dV 1,ae dV 2,ae dV 3,ae dV 4,ae dV 5,ae dV 6,ae dV 7,aa aqs] [af.az (af.cells (an yn 0)),af.az (af.cells (an yn 1))]))) (ab (aj none .add (aa (aa (ae dV 7))) bo) fun aqt=>(aqb [ae dV 0,ae dV 1,ae dV 2,ae dV 3,ae dV 4,ae dV 5,ae dV 6,aa aqt] [af.az (af.cells (an yn 0)),af.az (af.cells (an yn 1))]))) [ae qE 0,ae qE 1,ae qE 2,ae qE 3,ae qE 4,ae qE 5,ae qE 6,ae qE 7,a9] [af.az (af.cells (an MZ 0)),af.az (af.cells (an MZ 1))]) ((AT [ae qE 0,ae qE 1,ae qE 2,ae qE 3,ae qE 4] [af.az (af.cells (an MZ 0)),af.az (af.cells (an MZ 1))]))) [ae fl 0,ae fl 1,ae fl 2,ae fl 3,ae fl 4,ae fl 5,ae fl 6,a9] [af.az (af.cells (an sH 0)),af.az (af.cells (an sH 1))])) [ae eY 0,ae eY 1,ae eY 2,ae eY 3,ca,c7,c7,a9] [af.az (af.cells (an ou 0)),af.az (af.cells (an ou 1))]) (bZ (fun kA Fw acS=>ab (ba (aa (aa (ae kA 0)))) fun aqu=>ab (aj none .lss (aa (aa (ae kA 5))) (aa aqu)) fun aqv=>ar aqv (ab (aJ 1 (aa (aa (dz (ae kA 1)))) (aa (aa (dz (ae kA 5))))) fun aqw=>ab (aH false 1 (aa aqw)) fun aqx=>ab (aJ 1 (aa (aa (dz (ae kA 2)))) (aa (aa (dz (ae kA 5))))) fun aqy=>ab (aH false 1 (aa aqy)) fun aqz=>ab (aJ 1 (aa (aa (dz (ae kA 3)))) (aa (aa (dz (ae kA 5))))) fun aqA=>ab (aH false 1 (aa aqA)) fun aqB=>ab (aJ 1 (aa (aa (dz (ae kA 1)))) (aa (aa (dz (ae kA 5))))) fun aqC=>ab (aH false 1 (aa aqC)) fun aqD=>ab (ba (aa aqD)) fun acT=>ab (lenOf (aa acT) (aa acT)) fun acU=>(acU*1)≤140737488355328∧∃TF,∃acV,((C 35 [.aK [.dg 3 0 []],aa (aa aqx),aa (aa aqz),aa (aa aqB),.bh 1 (List.replicate acU (D.bool false))] (.aK [acV,TF])))∧(aa acV)=.undef ∧((k9 TF))∧ij (qI TF) 1 (fun FZ=>bZ (fun ju uR acW=>ab (aj none .lss (aa (aa (ae ju 6))) (.d (.int .i64 (Nat.cast FZ.length)))) fun aqE=>ar aqE (ab (aJ 1 (aa (aa (Ii FZ.length 1 (an uR 2)))) (aa (aa (dz (ae ju 6))))) fun aqF=>ab (aH false 1 (aa aqF)) fun aqG=>ar (aa aqG) (ab (aJ 1 (aa (aa (dz (ae ju 3)))) (aa (aa (dz (ae ju 5))))) fun aqH=>ab (aH false 1 (aa aqH)) fun aqI=>ab (aJ 1 (aa aqI) (aa (aa (dz (ae ju 6))))) fun aqJ=>ab (aH false 1 (aa aqJ)) fun acX=>((k9 (aa acX)))∧ab (da (aa (aa (ae ju 6))) FZ.length) fun acY=>ab (aE (aa (qI (aa acX)))) fun acZ=>acZ.length=1∧((acY*1)+1)≤(List.length (an uR 2))∧ab (aj none .add (aa (aa (ae ju 6))) bo) fun aqK=>(acW [ae ju 0,ae ju 1,ae ju 2,ae ju 3,ae ju 4,ae ju 5,aa aqK] [af.az (af.cells (an uR 0)),af.az (af.cells (an uR 1)),af.az (af.cells (setAt (an uR 2) (acY*1) acZ))])) (((k9 ca))∧ab (da (aa (aa (ae ju 6))) FZ.length) fun ac0=>ab (aE ca) fun ac1=>ac1.length=1∧((ac0*1)+1)≤(List.length (an uR 2))∧ab (aj none .add (aa (aa (ae ju 6))) bo) fun aqL=>(acW [ae ju 0,ae ju 1,ae ju 2,ae ju 3,ae ju 4,ae ju 5,aa aqL] [af.az (af.cells (an uR 0)),af.az (af.cells (an uR 1)),af.az (af.cells (setAt (an uR 2) (ac0*1) ac1))]))) (ab (dC (an uR 2)) fun aqM=>ab (fc false 1 FZ.length aqM) fun aqN=>ab (pT (.bh 1 aqN)) fun aqO=>ab (aT [(0,(.v (aa (aa aqO))))]) fun ac2=>(bz 1 1 ac2)=true∧cb 1 24 (ae ju 4) (.full 1 (bF (bI false [nw]) ac2 1 0)) fun aqP=>ab (aj none .add (aa (aa (ae ju 5))) bo) fun aqQ=>(acS [ae ju 0,ae ju 1,ae ju 2,ae ju 3,aqP,aa aqQ] [af.az (af.cells (an uR 0)),af.az (af.cells (an uR 1))]))) [ae kA 0,ae kA 1,ae kA 2,ae kA 3,ae kA 4,ae kA 5,a9] [af.az (af.cells (an Fw 0)),af.az (af.cells (an Fw 1)),af.az (af.cells (bj FZ))]) (bZ (fun tO ab7 asl=>ab (ba .undef) fun aqR=>ab (aj none .lss (aa (aa (ae tO 6))) (aa aqR)) fun aqS=>ar aqS (ab (aJ 1 .undef (aa (aa (dz (ae tO 6))))) fun aqT=>ab (aH false 1 (aa aqT)) fun aqU=>ar (aa aqU) (ab (aJ 1 (aa (aa (dz (ae tO 3)))) (aa (aa (dz (ae tO 5))))) fun aqV=>ab (aH false 1 (aa aqV)) fun aqW=>ab (aJ 1 (aa aqW) (aa (aa (dz (ae tO 6))))) fun aqX=>ab (aH false 1 (aa aqX)) fun aqY=>((k9 (aa aqY)))∧ab (aJ 1 .undef (aa (aa (ae tO 6)))) fun asm=>False) (((k9 ca))∧ab (aJ 1 .undef (aa (aa (ae tO 6)))) fun asn=>False)) (ab (pT .undef) fun aqZ=>ab (aT [(0,(.v (aa (aa aqZ))))]) fun ac3=>(bz 1 1 ac3)=true∧cb 1 24 (ae tO 4) (.full 1 (bF (bI false [nw]) ac3 1 0)) fun aq0=>ab (aj none .add (aa (aa (ae tO 5))) bo) fun aq1=>(acS [ae tO 0,ae tO 1,ae tO 2,ae tO 3,aq0,aa aq1] [af.az (af.cells (an ab7 0)),af.az (af.cells (an ab7 1))]))) [ae kA 0,ae kA 1,ae kA 2,ae kA 3,ae kA 4,ae kA 5,a9] [af.az (af.cells (an Fw 0)),af.az (af.cells (an Fw 1))])) (ab (aT []) fun aq2=>ab (dF Try.prog 30 aq2) fun aq3=>ab (aE (.d aq3)) fun ac4=>ac4.length=4∧4≤(List.length (an Fw 0))∧(SV.aA (ae kA 4))=true∧ab (ai true 4 0 (setAt (an Fw 0) 0 ac4)) fun ac5=>(SV.aA (aa ac5))=true∧(K (.aK [ae kA 4,aa ac5])))) [ae eY 0,ae eY 1,ae eY 2,ae eY 3,c7,a9] [af.az (af.cells (an ou 0)),af.az (af.cells (an ou 1))])) [ae fj 0,ae fj 1,ae fj 2,ae fj 3,c5] [af.az (af.cells (an l5 0)),af.az (af.cells (an l5 1))])) [x0,c7,c7,c7,a9] [[a9,a9,a9,c6],af.az (af.cells (setAt [a9,a9,a9,c6] 0 r1))]))):=by kernel_rfl
structure RE where
 (ya yb:D)
 (cZ out:List Nat)
def sM(b:RE):List D:=[b.ya,b.yb,bB 1 (db b.cZ),bB 1 (db b.out)]
def RE.enc(b:RE):D:=.agg (sM b)
def RE.cells(b:RE):List SV:=(sM b).map .d
def jh(l:List RE):List D:=l.map RE.enc
theorem Bv(l:List RE):(jh l).length =l.length:=List.length_map ..
theorem H7{l:List RE}{i:Nat}{b:RE}(h:l[i]? =some b):(jh l)[i]? =some b.enc:=by simp[jh,h]
theorem L5(s:RE)(l:List RE):bj (jh (s::l))=s.cells++bj (jh l):=rfl
theorem Rr:∀(l:List RE),dC (bj (jh l))=some (l.flatMap sM)
 |[]=>rfl
 |s::l=>by rw[L5,List.flatMap_cons];exact G6 _ (Rr l)
theorem abq:∀(l:List RE),(bj (jh l)).length =l.length*4
 |[]=>rfl
 |s::l=>by rw[L5,List.length_append,abq l,List.length_cons];simp[RE.cells,sM];omega
theorem QY:∀(l:List RE),fc true 4 l.length (l.flatMap sM)=some (jh l)
 |[]=>rfl
 |s::l=>by
  have ih:=QY l
  have h1:((s::l).flatMap sM).drop 4=l.flatMap sM:=rfl
  have h2:((s::l).flatMap sM).take 4=sM s:=rfl
  have h3:4≤((s::l).flatMap sM).length :=by simp[sM]
  simp only[List.length_cons,fc,h1,h2,ih,if_pos h3]
  rfl
theorem abr(k:Nat)(v:D)(y':RE):∀(l:List RE)(j:Nat)(y:RE),l[j]? =some y→k<4→y.cells.set k (.d v)=y'.cells→setAt (bj (jh l)) (j*4+k) [.d v]=bj (jh (l.set j y')):=by
 intro l
 induction l with
 |nil=>intro j y h;simp at h
 |cons s l ih=>
  intro j y h hk he
  cases j with
  |zero=>
   simp at h;subst h
   rw[setAt,setAt,Nat.zero_mul,Nat.zero_add,L5,List.set_append_left _ _ (by simp[RE.cells,sM];omega),he]
   rfl
  |succ j=>
   have:=ih j y (by simpa using h) hk he
   rw[setAt,setAt]at this
   rw[setAt,setAt,L5,List.set_append_right _ _ (by simp[RE.cells,sM];omega)]
   have e:(j+1)*4+k-s.cells.length=j*4+k:=by simp[RE.cells,sM];omega
   rw[e,this]
   rfl
def nC(l:List RE):SV:=match l with
 |[]=>.d (.sl .nil ji [])
 |l=>.bh 4 (jh l)
theorem abt{l:List RE}(h:l≠[]):nC l=.bh 4 (jh l):=by
 cases l with
 |nil=>exact absurd rfl h
 |cons y l=>rfl
theorem aka(l:List RE):o9 (nC l)=some (nC l):=by cases l<;>rfl
theorem ag5(l:List RE):vY (nC l)=false:=by cases l<;>rfl
theorem YD(l:List RE):(nC l).aA =true:=by cases l<;>rfl
theorem akb(l:List RE):pT (nC l)=some (aO 4 (jh l)):=by cases l<;>rfl
theorem aam{out:List RE}{A:List D→Prop}{B:Prop}(h1:out≠[]→A (jh out))(h2:out=[]→B):ij (nC out) 4 A B:=by
 cases out with
 |nil=>exact h2 rfl
 |cons y l=>exact⟨rfl,h1 (by simp)⟩
theorem akc{out:List RE}{s:RE}{dh:Nat}{k:SV→Prop}(hb:(out.length+1)*dh≤140737488355328)(hk:k (nC (out++[s]))):cb 4 dh (nC out) (.full 4 [s.enc]) k:=by
 cases out with
 |nil=>
  unfold cb mc
  simp only[elems,if_true]
  exact⟨by simpa using hb,hk⟩
 |cons y l=>
  unfold cb mc
  simp only[elems,if_true]
  refine⟨by simpa[Bv]using hb,?_⟩
  have:jh (y::l)++[s.enc]=jh (y::l++[s]):=by simp[jh]
  rw[this]
  exact hk
def TG(l:List RE):SV:=match l with
 |[]=>.d (.sl .nil ji [])
 |_=>.undef
theorem Rs(l:List RE):aa (nC l)=TG l:=by cases l<;>rfl
theorem L6{l:List RE}(h:l≠[]):TG l=.undef :=by
 cases l with
 |nil=>exact absurd rfl h
 |cons y l=>rfl
def ez:List ah→Nat→List Nat
 |[],_=>[]
 |t::l,k=>(if t.s.kind==18 then [k]else [])++ez l (k+t.nb)
theorem Zu:∀(a b:List ah)(k:Nat),ez (a++b) k=ez a k++ez b (k+ah.aB a)
 |[],b,k=>by simp[ez,ah.aB]
 |t::a,b,k=>by
  rw[List.cons_append,ez,ez,Zu a b,List.append_assoc]
  simp only[ah.aB]
  rw[Nat.add_assoc]
theorem ag6{l:List ah}{i:Nat}{t:ah}(h:l[i]? =some t)(k:Nat):ez (l.take (i+1)) k=ez (l.take i) k++if t.s.kind==18 then [k+ah.aB (l.take i)]else []:=by
 rw[dT h,Zu]
 simp[ez]
theorem QZ:∀(l:List ah)(k:Nat),(ez l k).length ≤ah.aB l
 |[],k=>by simp[ez]
 |t::l,k=>by
  have:=QZ l (k+t.nb)
  simp only[ez,ah.aB,List.length_append]
  rw[t.zQ]
  rw[t.zQ]at this
  split<;>simp_all<;>omega
def DE(x:D):List D:=match x with
 | .sl _ _ L=>L
 |_=>[]
theorem aL.el{sz:Nat}{L:List D}{x:D}(h:aL sz L x):DE x=L:=by
 cases h with
 |nil s h=>subst h;rfl
 |ro=>rfl
theorem aL.ab8{sz:Nat}{L:List D}{x:D}(h:aL sz L x):x.cells=[x]:=by
 cases h<;>rfl
def pF(x:D)(n:Nat):D:=match x with
 | .agg cs=>cs.getD n .oV
 |_=>.oV
mutual
def cT:ah→D→Nat→List RE
 | .mk s a b,x,k=>if s.kind==18 then⟨pF x 53,pF x 54,ez a (k+1),ez b (k+1+ah.aB a)⟩::(cL a (DE (pF x 53)) (k+1)++cL b (DE (pF x 54)) (k+1+ah.aB a))else []
def cL:List ah→List D→Nat→List RE
 |[],_,_=>[]
 |t::l,L,k=>cT t (L.headD .oV) k++cL l L.tail (k+t.nb)
end
theorem abu{t:ah}(h:(t.s.kind==18)=true)(x:D)(k:Nat):cT t x k=⟨pF x 53,pF x 54,ez t.th (k+1),ez t.el (k+1+ah.aB t.th)⟩::(cL t.th (DE (pF x 53)) (k+1)++cL t.el (DE (pF x 54)) (k+1+ah.aB t.th)):=by
 cases t with
 |mk s a b=>
  have h:(s.kind==18)=true:=h
  simp only[cT,h];rfl
theorem aol{t:ah}(h:(t.s.kind==18)=false)(x:D)(k:Nat):cT t x k=[]:=by
 cases t with
 |mk s a b=>
  have h:(s.kind==18)=false:=h
  simp only[cT,h];rfl
mutual
theorem R0:∀(t:ah)(x:D)(k:Nat),(cT t x k).length =t.nb
 | .mk s a b,x,k=>by
   simp only[cT,ah.nb]
   split
   ·rw[List.length_cons,List.length_append,pL a,pL b];omega
   ·rfl
theorem pL:∀(l:List ah)(L:List D)(k:Nat),(cL l L k).length =ah.aB l
 |[],_,_=>rfl
 |t::l,L,k=>by simp only[cL,ah.aB,List.length_append];rw[R0 t,pL l]
end
theorem aan:∀{l:List ah}{L:List D}{i:Nat}{t:ah}{y:D}(k:Nat),l[i]? =some t→L[i]? =some y→cL (l.take (i+1)) L k=cL (l.take i) L k++cT t y (k+ah.aB (l.take i))
 |[],L,i,t,y,k,h,hy=>by simp at h
 |u::l,[],i,t,y,k,h,hy=>by simp at hy
 |u::l,z::L,0,t,y,k,h,hy=>by
  simp at h hy
  subst h hy
  simp[cL,ah.aB]
 |u::l,z::L,i+1,t,y,k,h,hy=>by
  have ih:=aan (l:=l) (L:=L) (i:=i) (t:=t) (y:=y) (k+u.nb) (by simpa using h) (by simpa using hy)
  simp only[List.take_succ_cons,cL,List.tail_cons,List.headD_cons,ih,ah.aB,List.append_assoc]
  rw[Nat.add_assoc]
theorem akd:pG Try.prog 91=some [.sl .nil 0 [],.sl .nil 0 [],.sl .nil 0 [],.sl .nil 0 []]:=by kernel_rfl
theorem ag7:PA Try.prog 91=some fun i=>[(0,1),(1,1),(2,1),(3,1)][i]? :=by kernel_rfl
theorem aiw{x y:D}(hx:x.cells=[x])(hy:y.cells=[y]):dF Try.prog 91 [(0,x),(1,y)]=some (RE.enc ⟨x,y,[],[]⟩):=by
 unfold dF
 rw[akd,ag7]
 simp[vX,hx,hy]
 rfl
theorem amB(b:RE):bz 4 1 [(0,b.enc)]=true:=rfl
theorem RE.c2{a b:D}{i o:List Nat}(v:List Nat):(RE.cells ⟨a,b,i,o⟩).set 2 (.d (bB 1 (db v)))=RE.cells ⟨a,b,v,o⟩:=rfl
theorem RE.c3{a b:D}{i o:List Nat}(v:List Nat):(RE.cells ⟨a,b,i,o⟩).set 3 (.d (bB 1 (db v)))=RE.cells ⟨a,b,i,v⟩:=rfl
theorem TC.VQ{t:ah}{x:D}{c:List SV}{bd al yt ye:D}{Lt Le:List D}(h:TC t x c bd al yt ye Lt Le)(eU:l6 t x):pF x 53=yt∧pF x 54=ye:=by
 cases eU with
 |mk s th el r5 r6 bd al rest OO OP Lt' Le' hr hl ha ht he OI Gl fL fG=>
  have h1:=h.GC
  have h2:=h.GD
  have Eb:(mE s r5 r6 bd al rest)[53]? =some OO:=ht
  have Ec:(mE s r5 r6 bd al rest)[54]? =some OP:=he
  rw[xw _ 53 _ Eb]at h1
  rw[xw _ 54 _ Ec]at h2
  cases h1;cases h2
  simp only[pF,List.getD_eq_getElem?_getD,Eb,Ec]
  exact⟨rfl,rfl⟩
def VR(ts:List ah):Prop:=∀{L:List D}{x:D}(out:List RE),aL 55 L x→fm ts L→dk ts→out.length+ah.bQ ts≤2^20→
 aF Try.prog gl 34 (qG 1 [.d x,nC out]) (.aK [TG out,nC (out++cL ts L out.length),aO 1 (db (ez ts out.length))])
theorem afP(a:List Nat)(n:Nat):db a++[.int .i64 (n:Int)]=db (a++[n]):=by simp[db]
theorem WB(ts:List ah)(IH:∀iG,ah.bQ iG<ah.bQ ts→VR iG){L:List D}{x:D}(x1:SV)(out:List RE)(jD:o9 x1=some (nC out))(hx:aL 55 L x)(hs:fm ts L)(cE:dk ts)(aN:out.length+ah.bQ ts≤2^20):
  body Try.prog gl (aF Try.prog gl) Ok 34 [.d x,x1] (fun r=>r=.aK [nC (out++cL ts L out.length),aO 1 (db (ez ts out.length))]):=by
 have h0:=ah.tz ts
 have bX:ts.length≤maxLen:=Nat.le_trans (Nat.le_trans h0 cE.sz) (by decide)
 rw[ak0]
 intro br
 simp only[jD,sS,sT]
 have e0:nC out=nC (out++cL (ts.take 0) L out.length):=by simp[cL]
 rw[e0]
 refine eX (fun i=>[.d x,nC (out++cL (ts.take i) L out.length),aO 1 (db (ez (ts.take i) out.length)),.d (.int .i64 ((i:Nat):Int))]) (fun i=>[]) ts.length (fun i hi I hI=>?_) (fun I=>?_)
 ·simp only[hx.len,hs.len,sS,sT]
  refine And.intro (fun _=>?_) (fun h=>absurd h (by simp;omega))
  obtain⟨t,ht⟩:=get_some hi
  obtain⟨y,hy,eU⟩:=hs.at_ ht
  obtain⟨c,bd,al,yt,ye,Lt,Le,hc⟩:=eU.out
  obtain⟨A1,xg⟩:=hc.VQ eU
  have hz:=ah.BM ht
  have AE:=t.zj
  have fZ:=ah.QT ht
  have nB:=cE.th (List.mem_of_getElem? ht)
  have cK:=aan out.length ht hy
  have nP:=ag6 ht out.length
  rw[cK,nP]at hI
  have hlen:(out++cL (ts.take i) L out.length).length =out.length+ah.aB (ts.take i):=by rw[List.length_append,pL]
  simp only[hx.at hy,jl,hc.l0,ek,sS]
  refine And.intro (fun hk=>?_) (fun hk=>?_)
  ·have bY:(t.s.kind==18)=false:=by simpa[bne]using hk
   rw[aol bY,bY]at hI
   simp only[List.append_nil,Bool.false_eq_true,if_false]at hI
   refine aS (bf hi bX) ?_
   exact hI
  have bY:(t.s.kind==18)=true:=by simpa[bne]using hk
  rw[abu bY,bY,A1,xg,hc.iV.el,hc.fo.el]at hI
  simp only[if_true]at hI
  rw[←hlen]at hI
  generalize ho:out++cL (ts.take i) L out.length=o at hI hlen ⊢
  refine uG [.d x,nC o,aO 1 (db (ez (ts.take i) out.length)),.d (.int .i64 ((i:Nat):Int)),.d (.int .i64 (o.length:Int))] [] (fun J lW=>?_) ?_
  ·refine aam (fun bg=>?_) (fun he=>?_)
   ·simp only[Rr,QY,Bv,sS]
    rw[←abt bg]
    exact lW
   ·subst he
    exact lW
  ·have qW:o.length≤2^20:=by omega
   have yV:=QZ (ts.take i) out.length
   simp only[dG,By,sS,sT]
   refine⟨rfl,gB (xr _) (by simp only[oa,List.length_singleton];omega) ?_⟩
   simp only[hx.at hy,jl,hc.GC,hc.GD,j0,aiw hc.iV.ab8 hc.fo.ab8,amB,afP,sS,sT]
   refine akc (by omega) ?_
   have xf:o++[RE.mk yt ye [] []]≠[]:=by simp
   have TH:(o++[RE.mk yt ye [] []]).length =o.length+1:=by simp
   have H1:=IH t.th (by omega) (o++[RE.mk yt ye [] []]) hc.iV hc.fL nB.1 (by rw[TH];omega)
   rw[L6 xf,TH]at H1
   refine yk H1 (by rw[Rs,L6 xf];rfl) ?_
   have hnn:=ah.qC t.th
   have ac6:o++[RE.mk yt ye [] []]++cL t.th Lt (o.length+1)≠[]:=by simp
   have Jg:(o++[RE.mk yt ye [] []]++cL t.th Lt (o.length+1)).length =o.length+1+ah.aB t.th:=by rw[List.length_append,pL,TH]
   have H2:=IH t.el (by omega) (o++[RE.mk yt ye [] []]++cL t.th Lt (o.length+1)) hc.fo hc.fG nB.2 (by rw[Jg];omega)
   rw[L6 ac6,Jg]at H2
   refine yk H2 (by rw[Rs,L6 ac6];rfl) ?_
   have aq4:o++[RE.mk yt ye [] []]++cL t.th Lt (o.length+1)++cL t.el Le (o.length+1+ah.aB t.th)≠[]:=by simp
   have td:(o++[RE.mk yt ye [] []]++cL t.th Lt (o.length+1)++cL t.el Le (o.length+1+ah.aB t.th))[o.length]? =some (RE.mk yt ye [] []):=by simp
   have fk:(o++[RE.mk yt ye [] []]++cL t.th Lt (o.length+1)++cL t.el Le (o.length+1+ah.aB t.th)).set o.length (RE.mk yt ye (ez t.th (o.length+1)) [])=o++[RE.mk yt ye (ez t.th (o.length+1)) []]++cL t.th Lt (o.length+1)++cL t.el Le (o.length+1+ah.aB t.th):=by simp
   have aq5:(o++[RE.mk yt ye (ez t.th (o.length+1)) []]++cL t.th Lt (o.length+1)++cL t.el Le (o.length+1+ah.aB t.th))[o.length]? =some (RE.mk yt ye (ez t.th (o.length+1)) []):=by simp
   have aom:(o++[RE.mk yt ye (ez t.th (o.length+1)) []]++cL t.th Lt (o.length+1)++cL t.el Le (o.length+1+ah.aB t.th)).set o.length (RE.mk yt ye (ez t.th (o.length+1)) (ez t.el (o.length+1+ah.aB t.th)))=o++[RE.mk yt ye (ez t.th (o.length+1)) (ez t.el (o.length+1+ah.aB t.th))]++cL t.th Lt (o.length+1)++cL t.el Le (o.length+1+ah.aB t.th):=by simp
   have mU:o++[RE.mk yt ye (ez t.th (o.length+1)) (ez t.el (o.length+1+ah.aB t.th))]++cL t.th Lt (o.length+1)++cL t.el Le (o.length+1+ah.aB t.th)=o++(RE.mk yt ye (ez t.th (o.length+1)) (ez t.el (o.length+1+ah.aB t.th))::(cL t.th Lt (o.length+1)++cL t.el Le (o.length+1+ah.aB t.th))):=by simp
   have fg:=abr 2 (bB 1 (db (ez t.th (o.length+1)))) _ _ o.length _ td (by omega) (RE.c2 _)
   rw[fk]at fg
   have ka:=abr 3 (bB 1 (db (ez t.el (o.length+1+ah.aB t.th)))) _ _ o.length _ aq5 (by omega) (RE.c3 _)
   rw[aom,mU]at ka
   rw[←List.append_assoc,ho]at hI
   rw[←mU]at hI ka
   generalize Vm:o++[RE.mk yt ye [] []]++cL t.th Lt (o.length+1)++cL t.el Le (o.length+1+ah.aB t.th)=o1 at*
   have qa:o1.length=o.length+1+ah.aB t.th+ah.aB t.el:=by rw[←Vm,List.length_append,Jg,pL]
   refine aam (fun _=>?_) (fun he=>absurd he aq4)
   have mg:da (.d (.int .i64 (o.length:Int))) (jh o1).length =some o.length:=jJ (by rw[Bv];omega)
   have oF:(o++[RE.mk yt ye (ez t.th (o.length+1)) (ez t.el (o.length+1+ah.aB t.th))]++cL t.th Lt (o.length+1)++cL t.el Le (o.length+1+ah.aB t.th)).length =o1.length:=by
    rw[qa,List.length_append,List.length_append,pL,pL];simp
   have hfn:o++[RE.mk yt ye (ez t.th (o.length+1)) (ez t.el (o.length+1+ah.aB t.th))]++cL t.th Lt (o.length+1)++cL t.el Le (o.length+1+ah.aB t.th)≠[]:=by simp
   have hg:=QY (o++[RE.mk yt ye (ez t.th (o.length+1)) (ez t.el (o.length+1+ah.aB t.th))]++cL t.th Lt (o.length+1)++cL t.el Le (o.length+1+ah.aB t.th))
   rw[oF]at hg
   rw[Bv]at mg
   simp only[mg,ej,CC,fg,ka,Rr,abq,Bv,hg,sS]
   refine⟨rfl,by omega,rfl,?_,?_⟩
   ·rw[List.length_append,List.length_append,pL,pL];simp only[List.length_append,List.length_singleton];omega
   ·refine aS (bf hi bX) ?_
    rw[←abt hfn]
    exact hI
 ·simp only[hx.len,hs.len,sS,sT]
  refine And.intro (fun h=>absurd h (by simp)) (fun _=>?_)
  rw[List.take_length]
  exact⟨YD _,jY _ _,rfl⟩
theorem adM(ts:List ah):VR ts:=by
 have key:∀n ts,ah.bQ ts<n→VR ts:=by
  intro n
  induction n with
  |zero=>intro ts h;omega
  |succ n ih=>
   intro ts h L x out hx hs cE aN
   rw[←Rs]
   refine G5 bw a7 (hh:=Ok) (by simp[SV.iZ,YD,SV.aA]) rfl (fun r hr=>?_) (WB ts (fun iG h'=>ih iG (by omega)) (nC out) out (aka out) hx hs cE aN)
   simp at hr;rcases hr with rfl|rfl
   ·exact ag5 _
   ·exact jX _ _
 exact fun{L x}=>key _ ts (Nat.lt_succ_self _)
theorem adz{ts:List ah}{L:List D}{x:D}(hx:aL 55 L x)(hs:fm ts L)(cE:dk ts)(aN:ah.bQ ts≤2^20):aF Try.prog gl 34 [.d x,.d (.sl .nil 0 [])] (.aK [nC (cL ts L 0),aO 1 (db (ez ts 0))]):=by
 refine cz bw a7 (h:=Ok) ?_
 exact WB ts (fun iG _=>fun{L x}=>adM iG) (.d (.sl .nil 0 [])) [] rfl hx hs cE (by simpa using aN)
mutual
def rF:ah→Nat→List Bool→List Bool→List Bool
 | .mk s a b,k,mk,out=>if s.kind==18 then(if mk.getD k false then rG a (k+1) mk (out.set k true)else rG b (k+1+ah.aB a) mk (out.set k true))else out
def rG:List ah→Nat→List Bool→List Bool→List Bool
 |[],_,_,out=>out
 |t::l,k,mk,out=>rG l (k+t.nb) mk (rF t k mk out)
end
theorem aao{t:ah}(h:(t.s.kind==18)=true)(k:Nat)(mk out:List Bool):rF t k mk out=if mk.getD k false then rG t.th (k+1) mk (out.set k true)else rG t.el (k+1+ah.aB t.th) mk (out.set k true):=by
 cases t with
 |mk s a b=>
  have h:(s.kind==18)=true:=h
  simp only[rF,h,if_true];rfl
theorem abv{t:ah}(h:(t.s.kind==18)=false)(k:Nat)(mk out:List Bool):rF t k mk out=out:=by
 cases t with
 |mk s a b=>
  have h:(s.kind==18)=false:=h
  simp only[rF,h];rfl
mutual
theorem Rt:∀(t:ah)(k:Nat)(mk out:List Bool),(rF t k mk out).length =out.length
 | .mk s a b,k,mk,out=>by
   simp only[rF]
   split
   ·split
    ·rw[HM a];simp
    ·rw[HM b];simp
   ·rfl
theorem HM:∀(l:List ah)(k:Nat)(mk out:List Bool),(rG l k mk out).length =out.length
 |[],_,_,_=>rfl
 |t::l,k,mk,out=>by rw[rG,HM l,Rt t]
end
def pk:List ah→Nat→List (ah×Nat)
 |[],_=>[]
 |t::l,k=>(if t.s.kind==18 then [(t,k)]else [])++pk l (k+t.nb)
theorem Q0:∀(l:List ah)(k:Nat),(pk l k).map Prod.snd=ez l k
 |[],_=>rfl
 |t::l,k=>by
  rw[pk,ez,List.map_append,Q0 l]
  split<;>rfl
theorem Zv:∀(l:List ah)(k:Nat)(mk out:List Bool),rG l k mk out=(pk l k).foldl (fun o p=>rF p.1 p.2 mk o) out
 |[],_,_,_=>rfl
 |t::l,k,mk,out=>by
  rw[rG,pk,List.foldl_append,Zv l]
  by_cases h:(t.s.kind==18)=true
  ·rw[if_pos h];rfl
  ·rw[if_neg h,abv (by simpa using h)];rfl
def uw{α:Type}(all:List α)(k:Nat)(l:List α):Prop:=∀j,j<l.length→all[k+j]? =l[j]?
theorem uw.app{α:Type}{all:List α}{k:Nat}{a b:List α}(h:uw all k (a++b)):uw all k a∧uw all (k+a.length) b:=by
 refine⟨fun j hj=>?_,fun j hj=>?_⟩
 ·rw[h j (by rw[List.length_append];omega),List.getElem?_append_left hj]
 ·rw[Nat.add_assoc,h (a.length+j) (by rw[List.length_append];omega),List.getElem?_append_right (by omega)]
  congr 1;omega
theorem uw.self{α:Type}(l:List α):uw l 0 l:=fun j _=>by rw[Nat.zero_add]
theorem aap:∀{l:List ah}{L:List D}{k:Nat}{all:List RE},fm l L→uw all k (cL l L k)→∀{i:Nat}{t:ah}{kk:Nat},(pk l k)[i]? =some (t,kk)→
  ∃y,l6 t y∧uw all kk (cT t y kk)∧kk+t.nb≤k+ah.aB l∧t.sz≤ah.bQ l∧(t.s.kind==18)=true∧t∈l
 |[],_,k,all,h,hs,i,t,kk,hi=>by simp[pk]at hi
 |u::l,_,k,all,h,hs,i,t,kk,hi=>by
  cases h with
  |cons _ x _ L h hl=>
   simp only[cL,List.headD_cons,List.tail_cons]at hs
   obtain⟨fg,ka⟩:=hs.app
   rw[R0]at ka
   rw[pk]at hi
   have rest:∀{j:Nat},(pk l (k+u.nb))[j]? =some (t,kk)→∃y,l6 t y∧uw all kk (cT t y kk)∧kk+t.nb≤k+ah.aB (u::l)∧t.sz≤ah.bQ (u::l)∧(t.s.kind==18)=true∧t∈u::l:=fun hj=>by
    obtain⟨y,h1,h2,h3,h4,h5,h6⟩:=aap hl ka hj
    refine⟨y,h1,h2,?_,?_,h5,List.mem_cons_of_mem _ h6⟩
    ·simp only[ah.aB];omega
    ·simp only[ah.bQ];omega
   by_cases hk:(u.s.kind==18)=true
   ·rw[if_pos hk]at hi
    cases i with
    |zero=>
     simp at hi
     obtain⟨rfl,rfl⟩:=hi
     exact⟨x,h,fg,by simp only[ah.aB];omega,by simp only[ah.bQ];omega,hk,by simp⟩
    |succ i=>exact rest (j:=i) (by simpa using hi)
   ·rw[if_neg hk]at hi
    exact rest (j:=i) (by simpa using hi)
theorem EX:∀(l:List Bool),dC (bj (cH l))=some (cH l)
 |[]=>rfl
 |b::l=>by
  have h1:bj (cH (b::l))=[SV.d (.bool b)]++bj (cH l):=rfl
  have h2:cH (b::l)=[D.bool b]++cH l:=rfl
  rw[h1,h2];exact G6 [D.bool b] (EX l)
theorem L8:∀(l:List Bool),bj (cH l)=(cH l).map .d
 |[]=>rfl
 |b::l=>by
  have h1:bj (cH (b::l))=[SV.d (.bool b)]++bj (cH l):=rfl
  rw[h1,L8 l];rfl
theorem Ru(l:List Bool):(bj (cH l)).length =l.length:=by rw[L8,List.length_map,tu]
theorem LJ:∀(l:List Bool),fc false 1 l.length (cH l)=some (cH l)
 |[]=>rfl
 |b::l=>by
  have ih:=LJ l
  have h2:cH (b::l)=D.bool b::cH l:=rfl
  rw[h2,List.length_cons,fc]
  simp only[List.drop_succ_cons,List.drop_zero,ih,List.length_cons,Nat.le_add_left,if_true]
  rfl
theorem H8(l:List Bool)(k:Nat)(b:Bool):setAt (bj (cH l)) (k*1) [.d (.bool b)]=bj (cH (l.set k b)):=by
 rw[L8,L8,Nat.mul_one]
 simp only[setAt,cH,List.map_set]
theorem R1(n:Nat):List.replicate n (D.bool false)=cH (List.replicate n false):=by simp[cH]
theorem amC(n:Int):aH false 1 (.aX (.int .i64 n) 0)=some (.d (.int .i64 n)):=rfl
theorem Fx{P:Program}{gl:Nat→Option D}{f:FuncId}{args:List SV}{bk y:SV}{r:SV}{k:SV→SV→Prop}(hH:aF P gl f args (.aK [bk,r]))(hd:aa bk=y)(hk:k r bk):∃a b,aF P gl f args (.aK [b,a])∧aa b=y∧k a b:=⟨r,bk,hH,hd,hk⟩
theorem M3(b:RE):aH false 1 (.aX b.enc 0)=some (.d b.ya):=xw _ 0 _ rfl
theorem SC(b:RE):aH false 1 (.aX b.enc 1)=some (.d b.yb):=xw _ 1 _ rfl
theorem aon(b:RE):aH false 1 (.aX b.enc 2)=some (.d (bB 1 (db b.cZ))):=xw _ 2 _ rfl
theorem aoo(b:RE):aH false 1 (.aX b.enc 3)=some (.d (bB 1 (db b.out))):=xw _ 3 _ rfl
def OZ(ts:List ah):Prop:=∀{L:List D}{x y z:D}(k:Nat)(all:List RE)(mk out:List Bool),fm ts L→uw all k (cL ts L k)→aL 4 (jh all) x→aL 1 (db (ez ts k)) y→aL 1 (cH mk) z→k+ah.aB ts≤all.length→mk.length=all.length→out.length=all.length→all.length≤2^20→
 aF Try.prog gl 35 (qG 3 [.d x,.d y,.d z,.bh 1 (cH out)]) (.aK [.undef,.bh 1 (cH (rG ts k mk out))])
theorem ad8(ts:List ah)(IH:∀iG,ah.bQ iG<ah.bQ ts→OZ iG):OZ ts:=by
 intro L x y z k all mk out hs aq6 hx hy hz hk rD qW Ge
 have yV:(ez ts k).length =(pk ts k).length :=by rw[←Q0,List.length_map]
 have bX:(pk ts k).length ≤maxLen:=by
  have:=QZ ts k
  rw[yV]at this
  exact Nat.le_trans (by omega:(pk ts k).length ≤2^20) (by decide)
 refine G5 bw a7 (hh:=h35) (p:=3) (y:=.bh 1 (cH out)) (rs:=[.bh 1 (cH (rG ts k mk out))]) (by rfl) rfl (fun r hr=>by simp at hr;subst hr;rfl) ?_
 rw[ak1]
 intro br
 simp only[sT]
 have e0:cH out=cH (((pk ts k).take 0).foldl (fun o p=>rF p.1 p.2 mk o) out):=rfl
 rw[e0]
 refine eX (fun i=>[.d x,.d y,.d z,.bh 1 (cH (((pk ts k).take i).foldl (fun o p=>rF p.1 p.2 mk o) out)),.d (.int .i64 ((i:Nat):Int))]) (fun i=>[]) (pk ts k).length (fun i hi I hI=>?_) (fun I=>?_)
 ·have fU:=hi
  obtain⟨⟨t,kk⟩,hp⟩:=get_some hi
  obtain⟨yt,eU,VS,hle,aN,qR,eM⟩:=aap hs aq6 hp
  have hd:(ez ts k)[i]? =some kk:=by rw[←Q0,List.getElem?_map,hp];rfl
  rw[dT hp,List.foldl_append]at hI
  simp only[List.foldl_cons,List.foldl_nil]at hI
  have Jg:(((pk ts k).take i).foldl (fun o p=>rF p.1 p.2 mk o) out).length =all.length:=by
   have:∀(l:List (ah×Nat))(o:List Bool),(l.foldl (fun o p=>rF p.1 p.2 mk o) o).length =o.length:=by
    intro l
    induction l with
    |nil=>intro o;rfl
    |cons p l ih=>intro o;rw[List.foldl_cons,ih,Rt]
   rw[this];exact qW
  generalize ((pk ts k).take i).foldl (fun o p=>rF p.1 p.2 mk o) out=o at hI Jg ⊢
  obtain⟨c,bd,al,ya,yb,La,Lb,hc⟩:=eU.out
  obtain⟨A1,xg⟩:=hc.VQ eU
  rw[abu qR,A1,xg,hc.iV.el,hc.fo.el]at VS
  rw[aao qR]at hI
  have fZ:t.nb=1+ah.aB t.th+ah.aB t.el:=by rw[t.zQ,if_pos qR]
  have AE:=t.zj
  have JD:kk<all.length:=by omega
  have td:all[kk]? =some (RE.mk ya yb (ez t.th (kk+1)) (ez t.el (kk+1+ah.aB t.th))):=by
   have:=VS 0 (by simp)
   simpa using this
  have aq7:uw all (kk+1) (cL t.th La (kk+1)++cL t.el Lb (kk+1+ah.aB t.th)):=fun j hj=>by
   have:=VS (j+1) (by simpa using hj)
   rw[show kk+1+j=kk+(j+1) by omega,this];rfl
  obtain⟨hsa,NY⟩:=aq7.app
  rw[pL]at NY
  obtain⟨b,hb⟩:=get_some (show kk<mk.length by omega)
  have NT:mk.getD kk false=b:=by rw[List.getD_eq_getElem?_getD,hb];rfl
  rw[NT]at hI
  simp only[hy.len,oa,yV,sS,sT]
  refine And.intro (fun _=>?_) (fun h=>absurd h (by simp;omega))
  have mg:da (.d (.int .i64 (kk:Int))) o.length=some kk:=jJ (by omega)
  simp only[hy.at (CW hd),amC,sS]
  refine⟨rfl,?_⟩
  have hg:=LJ (o.set kk true)
  rw[List.length_set]at hg
  simp only[tu,mg,Ru,hz.at (sc hb),xM,hx.at (H7 td),jl,aon,aoo,sS]
  refine⟨rfl,by omega,?_⟩
  rw[show List.map SV.d (D.bool true).cells =[.d (.bool true)] from rfl,H8,EX]
  simp only[hg,sS]
  refine And.intro (fun hbt=>?_) (fun Ks=>?_)
  ·subst hbt
   have H:=IH t.th (by omega) (kk+1) all mk (o.set kk true) hc.fL hsa hx (cm 1 _) hz (by omega) rD (by rw[List.length_set];omega) Ge
   refine Fx H rfl ?_
   refine aS (bf hi bX) ?_
   exact hI
  ·subst Ks
   have H:=IH t.el (by omega) (kk+1+ah.aB t.th) all mk (o.set kk true) hc.fG NY hx (cm 1 _) hz (by omega) rD (by rw[List.length_set];omega) Ge
   refine Fx H rfl ?_
   refine aS (bf hi bX) ?_
   exact hI
 ·simp only[hy.len,oa,yV,sS,sT]
  refine And.intro (fun h=>absurd h (by simp)) (fun _=>?_)
  rw[List.take_length,←Zv]
  exact⟨rfl,rfl⟩
theorem Wm(ts:List ah):OZ ts:=by
 have key:∀n ts,ah.bQ ts<n→OZ ts:=by
  intro n
  induction n with
  |zero=>intro ts h;omega
  |succ n ih=>exact fun ts h=>ad8 ts fun iG h'=>ih iG (by omega)
 exact fun{L x y z}=>key _ ts (Nat.lt_succ_self _)
end Go.Proofs.Ytimbllcalipehaa.Ab
