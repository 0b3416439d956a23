/-
  SCOPE: what Block computes, in plain terms; its maps.
-/
import Derived.Test.YtaknajjmldngiaaGreatTh
import Derived.Test.YtaknajjmldngiaaGreatTc
import Derived.Test.YtaknajjmldngiaaGreatProg
import Derived.KernelRfl
import Derived.Test.YtaknajjmldngiaaGreatTd
set_option linter.unusedVariables false
set_option linter.unusedSimpArgs false
namespace Go.Proofs.YtaknajjmldngiaaGreat.Ab
open Go
set_option linter.unusedVariables false
def lz(s:aX):MK:=.s [.int .i64 s.kind,.str s.name]
def mz(y s:aX):Bool:=y.kind==s.kind&&y.name==s.name
theorem Dl(y s:aX):lz y=lz s↔mz y s=true:=by
 simp[lz,mz]
def yZ(m:List (MK×D)):Prop:=∀x∈m,∃k n,x.1=MK.s [.int .i64 k,.str n]
theorem F5{m:List (MK×D)}(h:yZ m)(s:aX):nz m (lz s)=true:=by
 unfold nz
 rw[List.all_eq_true]
 intro x hx
 obtain⟨k,n,hk⟩:=h x hx
 rw[hk]
 rfl
theorem Gq:∀(m:List (MK×D))(n k:MK)(d:D),eH (gK m n d) k=if k=n then some d else eH m k
 |[],n,k,d=>by by_cases h:k=n<;>simp[gK,eH,h]
 |x::m,n,k,d=>by
  rw[gK]
  by_cases h:n=x.1
  ·rw[if_pos h,eH,eH]
   by_cases hk:k=n
   ·simp[hk]
   ·rw[if_neg hk,if_neg hk,if_neg (by rw[←h];exact hk)]
  ·rw[if_neg h,eH,eH,Gq m n k d]
   by_cases hk:k=n
   ·rw[if_pos hk,if_neg (by rw[hk];exact h)]
    simp[hk]
   ·simp[hk]
theorem Me{m:List (MK×D)}(h:yZ m)(s:aX)(d:D):yZ (gK m (lz s) d):=by
 induction m with
 |nil=>intro x hx;rw[gK,List.mem_singleton]at hx;subst hx;exact⟨_,_,rfl⟩
 |cons y m ih=>
  intro x hx
  rw[gK]at hx
  split at hx
  ·rcases List.mem_cons.1 hx with rfl|hx
   ·exact⟨_,_,rfl⟩
   ·exact h x (by simp[hx])
  ·rcases List.mem_cons.1 hx with rfl|hx
   ·exact h _ (by simp)
   ·exact ih (fun z hz=>h z (by simp[hz])) x hx
def vA(l:List aX)(s:aX):Bool:=l.any fun y=> !y.gG&&mz y s
def pE(m:List (MK×D))(l:List aX):Prop:=yZ m∧∀s,eH m (lz s)=if vA l s then some (.bool true)else none
theorem pE.nil:pE [] []:=⟨fun x h=>by simp at h,fun s=>rfl⟩
theorem pE.gG{m:List (MK×D)}{l:List aX}(h:pE m l){s:aX}(hs:s.gG=true):pE m (l++[s]):=by
 refine⟨h.1,fun t=>?_⟩
 rw[h.2 t]
 simp[vA,hs]
theorem pE.dec{m:List (MK×D)}{l:List aX}(h:pE m l){s:aX}(hs:s.gG=false):pE (gK m (lz s) (.bool true)) (l++[s]):=by
 refine⟨Me h.1 s _,fun t=>?_⟩
 rw[Gq,h.2 t]
 by_cases hk:lz t=lz s
 ·have:mz s t=true:=(Dl s t).1 hk.symm
  simp[hk,vA,hs,this]
 ·have:mz s t=false:=by
   cases hc:mz s t with
   |false=>rfl
   |true=>exact absurd ((Dl s t).2 hc).symm hk
  simp[hk,vA,this]
theorem XV{m:List (MK×D)}{l:List aX}(h:pE m l)(s:aX):lR (some [.int,.str]) (.bool false) (.mp m) (.d (.agg [.int .i64 s.kind,.str s.name]))=some (.bool (vA l s),vA l s):=by
 have h1:jn (some [.int,.str]) (.d (.agg [.int .i64 s.kind,.str s.name]))=some (lz s):=rfl
 simp only[lR,h1,F5 h.1 s,cond_true,h.2 s]
 cases vA l s<;>rfl
def kb(s:aX):List aX→Option Nat
 |[]=>none
 |y::l=>match kb s l with|some j=>some (j+1)|none=>if mz y s then some 0 else none
theorem Mf(s y:aX):∀(l:List aX),kb s (l++[y])=if mz y s then some l.length else kb s l
 |[]=>by simp[kb]
 |z::l=>by
  rw[List.cons_append,kb,Mf s y l]
  by_cases h:mz y s=true
  ·simp[h]
  ·simp[h,kb]
theorem NG{s:aX}:∀{l:List aX}{j:Nat},kb s l=some j→∃y,l[j]? =some y∧mz y s=true
 |[],j,h=>by simp[kb]at h
 |z::l,j,h=>by
  rw[kb]at h
  split at h
  ·rename_i k hk
   cases h
   obtain⟨y,h1,h2⟩:=NG hk
   exact⟨y,by simpa using h1,h2⟩
  ·split at h
   ·rename_i hz;cases h;exact⟨z,by simp,hz⟩
   ·cases h
theorem MX(s:aX):∀(l:List aX)(j:Nat)(y y':aX),l[j]? =some y→y'.kind=y.kind→y'.name=y.name→kb s (l.set j y')=kb s l
 |[],j,y,y',h,_,_=>by simp at h
 |z::l,0,y,y',h,h1,h2=>by
  simp at h;subst h
  have:mz y' s=mz z s:=by simp[mz,h1,h2]
  simp only[List.set_cons_zero,kb,this]
 |z::l,j+1,y,y',h,h1,h2=>by
  simp only[List.set_cons_succ,kb,MX s l j y y' (by simpa using h) h1 h2]
def rl(m:List (MK×D))(out:List aX):Prop:=yZ m∧∀s,eH m (lz s)=(kb s out).map fun(j:Nat)=>D.int .i64 (j:Int)
theorem rl.nil:rl [] []:=⟨fun x h=>by simp at h,fun s=>rfl⟩
theorem rl.snoc{m:List (MK×D)}{out:List aX}(h:rl m out)(s:aX):rl (gK m (lz s) (.int .i64 (out.length:Int))) (out++[s]):=by
 refine⟨Me h.1 s _,fun t=>?_⟩
 rw[Gq,h.2 t,Mf]
 by_cases hk:lz t=lz s
 ·have:mz s t=true:=(Dl s t).1 hk.symm
  simp[hk,this]
 ·have:¬mz s t=true:=fun hc=>hk ((Dl s t).2 hc).symm
  simp[hk,this]
theorem rl.set{m:List (MK×D)}{out:List aX}(h:rl m out){j:Nat}{y y':aX}(hj:out[j]? =some y)(h1:y'.kind=y.kind)(h2:y'.name=y.name):rl m (out.set j y'):=
 ⟨h.1,fun t=>by rw[h.2 t,MX t out j y y' hj h1 h2]⟩
theorem ZB{m:List (MK×D)}{out:List aX}(h:rl m out)(s:aX):lR (some [.int,.str]) (.int .i64 0) (.mp m) (.d (.agg [.int .i64 s.kind,.str s.name]))=some (match kb s out with|some j=>(D.int .i64 (j:Int),true)|none=>(.int .i64 0,false)):=by
 have h1:jn (some [.int,.str]) (.d (.agg [.int .i64 s.kind,.str s.name]))=some (lz s):=rfl
 simp only[lR,h1,F5 h.1 s,cond_true,h.2 s]
 cases kb s out<;>rfl
def HX(y:aX)(s:aX):aX:={y with perms:=dedup (y.perms++s.perms)}
def wC(all out:List aX)(s:aX):List aX:=
 if s.gG&&(vA all s||EK s.kind s.name)then out else
 match kb s out with
 |some j=>if s.gG then(match out[j]? with|some y=>out.set j (HX y s)|none=>out)else out++[s]
 |none=>out++[s]
def gI(all:List aX)(l:List aX):List aX:=l.foldl (wC all) []
theorem F6{all l:List aX}{i:Nat}{s:aX}(h:l[i]? =some s):gI all (l.take (i+1))=wC all (gI all (l.take i)) s:=by
 rw[iT h,gI,gI,List.foldl_append];rfl
def ns(l:List aX):Nat:=(l.map fun s=>s.perms.length).sum
theorem Lr{l:List aX}{i:Nat}{s:aX}(h:l[i]? =some s):ns (l.take (i+1))=ns (l.take i)+s.perms.length:=by
 rw[iT h];simp[ns]
theorem Mg(l:List aX)(i:Nat):ns (l.take i)≤ns l:=by
 have h:ns (l.take i++l.drop i)=ns (l.take i)+ns (l.drop i):=by
  unfold ns
  rw[List.map_append,List.sum_append]
 rw[List.take_append_drop]at h
 omega
theorem VC(l:List (List UInt8)):(dedup l).length ≤l.length:=by
 have:=GF l []
 simpa[dedup]using this
theorem UQ(all out:List aX)(s:aX):(wC all out s).length ≤out.length+1:=by
 unfold wC
 repeat' split
 all_goals simp
theorem Mh(all l:List aX)(i:Nat):(gI all (l.take i)).length ≤i:=by
 induction i with
 |zero=>simp[gI]
 |succ i ih=>
  cases h:l[i]? with
  |none=>
   rw[List.take_of_length_le (by have:=List.getElem?_eq_none_iff.1 h;omega)]at ih ⊢
   omega
  |some s=>
   rw[F6 h]
   have:=UQ all (gI all (l.take i)) s
   omega
theorem TU{all out:List aX}{s:aX}{n:Nat}(h:∀y∈out,y.perms.length≤n):∀y∈wC all out s,y.perms.length≤n+s.perms.length:=by
 intro y hy
 unfold wC at hy
 split at hy
 ·have:=h y hy;omega
 ·have app:y∈out++[s]→y.perms.length≤n+s.perms.length:=fun hy=>by
   rcases List.mem_append.1 hy with hy|hy
   ·have:=h y hy;omega
   ·rw[List.mem_singleton.1 hy];omega
  split at hy
  ·split at hy
   ·split at hy
    ·rename_i j _ _ z hz
     rcases List.mem_or_eq_of_mem_set hy with hy|hy
     ·have:=h y hy;omega
     ·subst hy
      have h1:=h z (List.mem_of_getElem? hz)
      have h2:=VC (z.perms++s.perms)
      simp only[HX,List.length_append]at h2 ⊢
      omega
    ·have:=h y hy;omega
   ·exact app hy
  ·exact app hy
theorem Ls(all l:List aX)(i:Nat):∀y∈gI all (l.take i),y.perms.length≤ns (l.take i):=by
 induction i with
 |zero=>intro y hy;simp[gI]at hy
 |succ i ih=>
  cases h:l[i]? with
  |none=>
   have h1:l.length≤i:=List.getElem?_eq_none_iff.1 h
   rw[List.take_of_length_le h1]at ih
   rw[List.take_of_length_le (by omega)]
   exact ih
  |some s=>
   rw[F6 h,Lr h]
   exact TU ih
def pe:List aX→List aX→Option (Int×aX)
 |_,[]=>none
 |pre,s::l=>if qc pre s=0 then pe (pre++[s]) l else some (qc pre s,s)
def qG(out:List aX):SV:=match out with
 |[]=>.d (.sl .nil AE [])
 |out=>.cA 6 (dC out)
theorem Mi:∀(cs:List D){l:List SV}{r:List D},eP l=some r→eP (cs.map SV.d++l)=some (cs++r)
 |[],l,r,h=>h
 |c::cs,l,r,h=>by
  simp only[List.map_cons,List.cons_append,eP,cS,Mi cs h]
def lW(s:aX):List D:=[.int .i64 s.kind,.str s.name,.bool s.gG,cU 1 (bT s.perms),.int .i64 s.line,.int .i64 s.eV]
theorem C4(s:aX)(l:List aX):fc (dC (s::l))=(lW s).map .d ++fc (dC l):=rfl
theorem Ar:∀(l:List aX),eP (fc (dC l))=some (l.flatMap lW)
 |[]=>rfl
 |s::l=>by rw[C4,List.flatMap_cons];exact Mi _ (Ar l)
theorem NH:∀(l:List aX),(fc (dC l)).length =l.length*6
 |[]=>rfl
 |s::l=>by rw[C4,List.length_append,NH l,List.length_cons];simp[lW];omega
theorem An:∀(l:List aX),mq true 6 l.length (l.flatMap lW)=some (dC l)
 |[]=>rfl
 |s::l=>by
  have ih:=An l
  have h1:((s::l).flatMap lW).drop 6=l.flatMap lW:=rfl
  have h2:((s::l).flatMap lW).take 6=lW s:=rfl
  have h3:6≤((s::l).flatMap lW).length :=by simp[lW]
  simp only[List.length_cons,mq,h1,h2,ih,if_pos h3]
  rfl
theorem MY:∀(l:List aX)(j:Nat)(y:aX),l[j]? =some y→(fc (dC l))[j*6+3]? =some (.d (cU 1 (bT y.perms)))
 |[],j,y,h=>by simp at h
 |s::l,0,y,h=>by simp at h;subst h;rfl
 |s::l,j+1,y,h=>by
  rw[C4,List.getElem?_append_right (by simp[lW];omega)]
  have:(j+1)*6+3-((lW s).map SV.d).length =j*6+3:=by simp[lW];omega
  rw[this]
  exact MY l j y (by simpa using h)
theorem NI:∀(l:List aX)(j:Nat)(y:aX)(p:List (List UInt8)),l[j]? =some y→(fc (dC l)).set (j*6+3) (.d (cU 1 (bT p)))=fc (dC (l.set j {y with perms:=p}))
 |[],j,y,p,h=>by simp at h
 |s::l,0,y,p,h=>by simp at h;subst h;rfl
 |s::l,j+1,y,p,h=>by
  rw[C4,List.set_append_right _ _ (by simp[lW];omega)]
  have:(j+1)*6+3-((lW s).map SV.d).length =j*6+3:=by simp[lW];omega
  rw[this,NI l j y p (by simpa using h)]
  rfl
end Go.Proofs.YtaknajjmldngiaaGreat.Ab
namespace Go.Proofs.YtaknajjmldngiaaGreat.Ab
open Go
set_option linter.unusedVariables false
set_option maxRecDepth 4000
theorem TV{x:D}(h1:x.cells=[x])(ct:x.one=true):aF Tryz.prog gl 112 [.d x] (.dX (.func 120) [] [.aA x 0]):=by
 refine Wb aT (fn:=Tryz.f112) (c:=Ju) rfl rfl (bp (fn:=Tryz.f112) (by kernel_rfl) (by kernel_rfl) (by kernel_rfl)) ct rfl (b:=0) (t:=2) (hh:=gR) (fun _=>?_)
 show aw Tryz.prog gl _ gR Ju _ (enter 4 _)
 rw[acL]
 have h2:ax (.d x)=some [.d x]:=by simp[ax,h1]
 simp only[h2,sS,sT,sZ]
 first|exact⟨rfl,.inr rfl,rfl,rfl⟩|exact⟨.inr trivial,rfl,rfl⟩|exact⟨rfl,.inr trivial,rfl,rfl⟩
theorem wu(x y:D)(i j:Nat):aM [(i,.v (.d x)),(j,.v (.d y))]=some [(i,x),(j,y)]:=rfl
theorem wD{m:List (MK×D)}(h:yZ m)(s:aX)(d:D):ln m (.s [.int .i64 s.kind,.str s.name]) d=some (gK m (lz s) d):=by
 have:=F5 h s
 unfold ln
 show cond (nz m (lz s)) _ _=_
 rw[this];rfl
theorem AB(x:SV):ag false 1 0 [x]=some x:=rfl
theorem UR(c l k:Int)(n:List UInt8):bZ Tryz.prog 173 [(0,.int .i64 c),(1,.agg [.int .i64 l,.int .i64 k]),(2,.str n)]=some (.agg [.int .i64 c,.int .i64 l,.int .i64 k,.str n]):=by kernel_rfl
theorem Uf:bZ Tryz.prog 173 []=some (.agg [.int .i64 0,.int .i64 0,.int .i64 0,.str []]):=by kernel_rfl
theorem MZ(k:Int)(n:List UInt8):bZ Tryz.prog 199 [(0,.int .i64 k),(1,.str n)]=some (.agg [.int .i64 k,.str n]):=by kernel_rfl
theorem wP(k:Int)(n:List UInt8):jn (some [.int,.str]) (.d (.agg [.int .i64 k,.str n]))=some (.s [.int .i64 k,.str n]):=rfl
def Fw(f:List SV)(al:SV)(m:List (MK×D)):List af:=[.cells [.d (.sl .nil 0 [])],.cells f,.cells [al],.map m,.one (.m 3)]
def rI(l:List aX)(k:Nat)(au:List af):Prop:=∃m,au=Em (aJ 6 (dC (l.take k))) m∧pE m (l.take k)∧pe (l.take k) (l.drop k)=pe [] l
def rX(l:List aX)(x:Ex)(au:List af):Prop:=x=.ret ∧∃c s m al,pe [] l=some (c,s)∧au=Fw [.d (.int .i64 c),.d (.int .i64 s.line),.d (.int .i64 s.eV),.d (.str s.name)] al m
theorem HY(f:List SV)(hf:(f.all fun x=>x.nK&&x.aj)=true)(al:SV)(ha:(al.nK&&al.aj)=true)(m:List (MK×D)):(Fw f al m).all (kc 5)=true:=by
 simp only[Fw,List.all_cons,List.all_nil,kc,hf,ha,Bool.and_true,Bool.true_and]
 rfl
theorem yp(sz:Nat)(L:List D):(aJ sz L).nK =true∧(aJ sz L).aj =true:=by cases L<;>exact⟨rfl,rfl⟩
theorem acP(k:IntKind)(a b:Int):ah (some (false,[.int])) .neq (.d (.int k a)) (.d (.int k b))=some (.d (.bool (a != b))):=by simp[ah,ej,gp]
theorem Gr:ax (.d (.sl .nil 0 []))=some [.d (.sl .nil 0 [])]:=rfl
theorem yD(a b c d:D):ax (.d (.agg [a,b,c,d]))=some [.d a,.d b,.d c,.d d]:=rfl
theorem OT(a b:SV):setAt [a] 0 [b]=[b]:=rfl
theorem y2(a b c d e f g h:SV):setAt [a,b,c,d] 0 [e,f,g,h]=[e,f,g,h]:=rfl
theorem aee(a b c d e f:af):[a,b,c,d,e,f].take 5=[a,b,c,d,e]:=rfl
theorem zC{α:Type}(a b c d:α):[a,b,c,d].length =4:=rfl
theorem XW(l:List aX)(hl:l.length≤2^30)(k:Nat)(d:D)(au:List af)(hI:rI l k au)(hd:(dC l)[k]? =some d):
  aw Tryz.prog gl (aF Tryz.prog gl) qF (Fu vz) (fun x e1=>x=.normal ∧aw Tryz.prog gl (aF Tryz.prog gl) qF (Fv vz) (fun x e2=>(e2.boxes.take 5).all (kc 5)=true∧vC (rI l) (rX l) (k+1) x (e2.boxes.take 5)) e1) ⟨cz ql (some 18) (.v (.d d)),au⟩:=by
 obtain⟨m,rfl,hm,dw⟩:=hI
 obtain⟨s,hs,rfl⟩:∃s,l[k]? =some s∧d=s.enc:=by
  rw[dC,List.getElem?_map,Option.map_eq_some_iff]at hd
  obtain⟨s,h1,h2⟩:=hd
  exact⟨s,h1,h2.symm⟩
 have hk:k<l.length:=(List.getElem?_eq_some_iff.1 hs).1
 rw[AA hs,pe]at dw
 refine(acN _ s.enc (aJ 6 (dC (l.take k))) m (fun x bs=>bs.all (kc 5)=true∧vC (rI l) (rX l) (k+1) x bs)).mpr ?_
 simp only[sS,sT,sZ,mj,mu,od,AB,lN,ev]
 refine aO (UO (l.take k) s (ed 6 _) (by simp only[maxLen,List.length_take];omega)) ?_
 simp only[sS,sT,sZ,acP]
 refine And.intro (fun hc=>?_) (fun hc=>?_)
 ·rw[if_neg (by simpa using hc)]at dw
  simp only[XS,wk,wm,sS,sT,sZ,UR]
  simp only[Gr,yD,sS,sT,sZ,OT,y2,oZ,zC,and_self,aee]
  refine⟨HY _ rfl _ (by rw[(yp _ _).1,(yp _ _).2];rfl) m,rfl,qc (l.take k) s,s,m,_,dw.symm,rfl⟩
 ·rw[if_pos (by simpa using hc)]at dw
  have hb:((dC (l.take k)).length +[s.enc].length)*72≤140737488355328:=by simp only[lO,List.length_take,List.length_singleton];omega
  simp only[iU,oh,iV,sS,sT,sZ]
  refine eN (jk 6 _) hb ?_
  simp only[Ak,oZ,yz,jH,sS,sT,sZ]
  have qV:dC (l.take k)++[s.enc]=dC (l.take (k+1)):=by rw[Az,iT hs]
  rw[qV]
  refine⟨Nat.zero_lt_one,And.intro (fun hr=>?_) (fun hr=>?_)⟩
  ·have hr:s.gG=false:=by simpa using hr
   simp only[yy,wk,wu,MZ,wP,sS,sT,sZ]
   have ht:cS (.d (.bool true))=some (.bool true):=rfl
   simp only[ht,wD hm.1 s,sS,sT,sZ]
   refine⟨HY _ rfl _ (by rw[(yp _ _).1,(yp _ _).2];rfl) _,_,rfl,?_,?_⟩
   ·rw[iT hs];exact hm.dec hr
   ·rw[iT hs];exact dw
  ·have hr:s.gG=true:=by simpa using hr
   refine⟨HY _ rfl _ (by rw[(yp _ _).1,(yp _ _).2];rfl) m,m,rfl,?_,?_⟩
   ·rw[iT hs];exact hm.gG hr
   ·rw[iT hs];exact dw
def HZ(l:List aX)(m a:List (MK×D)):List (List SV):=[[.d (.sl .nil 0 [])],[.d (.int .i64 0),.d (.int .i64 0),.d (.int .i64 0),.d (.str [])],[aJ 6 (dC l)],[.undef],[.mp m],[.mp a]]
theorem XX:Bi (.d (.sl .nil 0 []))=some (qG []):=rfl
theorem OU(a b c d:SV):setAt [a,b] 0 [c,d]=[c,d]:=rfl
theorem NJ(a b:D):ax (.d (.agg [a,b]))=some [.d a,.d b]:=rfl
theorem Oe(a b:D):ag true 2 0 [.d a,.d b]=some (.d (.agg [a,b])):=rfl
theorem Qv{α:Type}(a b:α):[a,b].length =2:=rfl
theorem Dm{out:List aX}{A:List D→Prop}{B:Prop}(h1:out≠[]→A (dC out))(h2:out=[]→B):ou (qG out) 6 A B:=by
 cases out with
 |nil=>exact h2 rfl
 |cons y l=>exact⟨rfl,h1 (by simp)⟩
theorem Of{out:List aX}(h:out≠[]):qG out=.cA 6 (dC out):=by
 cases out with
 |nil=>exact absurd rfl h
 |cons y l=>rfl
theorem G4{out:List aX}{s:aX}{k:SV→Prop}(hb:(out.length+1)*72≤140737488355328)(hk:k (qG (out++[s]))):cm 6 72 (.cA 6 (dC out)) (.full 6 [s.enc]) k:=by
 unfold cm kH
 rw[jk]
 refine⟨by simpa[lO]using hb,?_⟩
 rw[Of (by simp),←Az]at hk
 exact hk
theorem GG{s:aX}{k:SV→Prop}(hk:k (qG [s])):cm 6 72 (qG []) (.full 6 [s.enc]) k:=by
 unfold cm kH
 rw[jk]
 exact⟨by simp,hk⟩
theorem XY(out:List aX):Bh (qG out)=some (.d (cU 6 (dC out))):=by cases out<;>rfl
theorem yK(a b c d:D):ag true 4 0 [.d a,.d b,.d c,.d d]=some (.d (.agg [a,b,c,d])):=rfl
theorem agn(x:SV):1≤[x].length :=Nat.le_refl _
theorem ago(a b c d:SV):4≤[a,b,c,d].length :=Nat.le_refl _
theorem yL(n:Int):cS (.d (.int .i64 n))=some (.int .i64 n):=rfl
theorem GH:aD (qG [])=some (.d (.int .i64 0)):=rfl
theorem GI:aa (qG [])=qG []:=rfl
theorem Og(cs:List SV)(i:Nat):ag false 1 i cs=cs[i]? :=rfl
theorem ZC(cs:List SV)(i:Nat)(v:SV):setAt cs i [v]=cs.set i v:=rfl
theorem ZD(l:List aX)(hl:l.length≤2^30)(hp:ns l≤2^30)(m:List (MK×D))(hm:pE m l)(K:SV→Prop)(hK:K (.cR [.d (cU 6 (dC (gI l l))),.d (.agg [.int .i64 0,.int .i64 0,.int .i64 0,.str []])])):
  qX Tryz.prog gl (aF Tryz.prog gl) qF ((gb tR).drop 5) (Bz Tryz.prog Tryz.f100 K) ⟨ql,Em (aJ 6 (dC l)) m⟩:=by
 rw[acO]
 simp only[AB,ev,sS,sT,sZ,(ed 6 (dC l)).len,lO,XX]
 refine Aw (fun i a=>rl a (gI l (l.take i))) (fun i a=>[qG (gI l (l.take i)),.d (cU 6 (dC l)),.d (.int .i64 (l.length:Int)),.d (.int .i64 ((i:Nat):Int))]) (fun i a=>HZ l m a) l.length [] rl.nil (fun i a hi hJ I hI=>?_) (fun a hJ I=>?_)
 ·simp only[HZ,sS,sT,sZ]
  refine And.intro (fun _=>?_) (fun h=>absurd h (by simp;omega))
  obtain⟨s,hs⟩:=get_some hi
  simp only[(ed 6 (dC l)).at (yY hs),AO,mj,mu,od,yy,wk,yz,wu,MZ,NJ,OU,Oe,Qv,AB,HW,p9,XV hm s,ZB hJ s,sS,sT,sZ]
  rw[F6 hs]at hI
  have hlen:=Mh l l i
  have Qw:=Ls l l i
  have agQ:=Mg l i
  have nO:s.perms.length≤ns l:=by
   have h1:=Lr hs
   have h2:=Mg l (i+1)
   omega
  generalize gI l (l.take i)=out at hI hJ hlen Qw ⊢
  unfold wC at hI
  refine And.intro (fun hr=>?_) (fun hr=>?_)
  ·refine And.intro (fun hd=>?_) (fun hd=>?_)
   ·rw[if_pos (by simp[hr,hd])]at hI
    refine bL (ba hi (by simp only[maxLen];omega)) ?_
    exact hI _ hJ
   ·refine aO (Lg _ _) ?_
    simp only[sS,sT,sZ]
    refine And.intro (fun ho=>?_) (fun ho=>?_)
    ·rw[if_pos (by simp[hr,ho])]at hI
     refine bL (ba hi (by simp only[maxLen];omega)) ?_
     exact hI _ hJ
    ·rw[if_neg (by simp[hr,hd,ho])]at hI
     cases zi:kb s out with
     |none=>
      simp only[zi]at hI ⊢
      refine And.intro (fun h=>absurd h (by simp)) (fun _=>?_)
      refine Dm (fun ck=>?_) (fun he=>?_)
      ·simp only[lO,wP,yL,wD hJ.1 s,Ar,An,lN,iU,oh,iV,sS,sT,sZ,p9]
       refine G4 (by omega) ?_
       refine bL (ba hi (by simp only[maxLen];omega)) ?_
       exact hI _ (hJ.snoc s)
      ·subst he
       simp only[GI,GH,wP,yL,wD hJ.1 s,lN,iU,oh,iV,sS,sT,sZ,p9]
       refine GG ?_
       refine bL (ba hi (by simp only[maxLen];omega)) ?_
       exact hI _ (hJ.snoc s)
     |some j=>
      obtain⟨y,hy,hsy⟩:=NG zi
      have hj:j<out.length:=(List.getElem?_eq_some_iff.1 hy).1
      have hyp:=Qw y (List.mem_of_getElem? hy)
      simp only[zi,if_pos hr,hy]at hI ⊢
      refine And.intro (fun _=>?_) (fun h=>absurd h (by simp))
      refine And.intro (fun _=>?_) (fun h=>absurd h (by simp[hr]))
      refine Dm (fun ck=>?_) (fun he=>absurd hj (by rw[he];simp))
      simp only[lO,kU hj,Og,MY out j y hy,sS,sT,sZ]
      refine ec (UN (bT y.perms) (by rw[fO];omega)) (fb _ _) ?_
      rw[←Og,NC]
      simp only[sS,sT,sZ]
      refine eN (Hn (ed 1 _).sv) (by simp only[fO];omega) ?_
      have agp:bT y.perms++bT s.perms=bT (y.perms++s.perms):=by simp[bT]
      rw[agp]
      simp only[ev,sS,sT,sZ]
      refine ec (FN _ (ed 1 _) (by rw[List.length_append];omega)) (fb _ _) ?_
      have hg:=An (out.set j (HX y s))
      rw[List.length_set]at hg
      have b4:=NI out j y (dedup (y.perms++s.perms)) hy
      simp only[ev,u2,kU hj,sS,sT,sZ,ZC,oZ]
      rw[b4]
      refine⟨by rw[NH];omega,?_⟩
      simp only[Ar,sS,sT,sZ]
      refine bL hg ?_
      refine bL (ba hi (by simp only[maxLen];omega)) ?_
      have:=hI a (hJ.set hy rfl rfl)
      rw[Of (by intro h;have h2:=congrArg List.length h;simp only[List.length_set,List.length_nil]at h2;omega)]at this
      exact this
  ·rw[if_neg (by simp[hr])]at hI
   cases zi:kb s out with
   |none=>
    simp only[zi]at hI ⊢
    refine And.intro (fun h=>absurd h (by simp)) (fun _=>?_)
    refine Dm (fun ck=>?_) (fun he=>?_)
    ·simp only[lO,wP,yL,wD hJ.1 s,Ar,An,lN,iU,oh,iV,sS,sT,sZ,p9]
     refine G4 (by omega) ?_
     refine bL (ba hi (by simp only[maxLen];omega)) ?_
     exact hI _ (hJ.snoc s)
    ·subst he
     simp only[GI,GH,wP,yL,wD hJ.1 s,lN,iU,oh,iV,sS,sT,sZ,p9]
     refine GG ?_
     refine bL (ba hi (by simp only[maxLen];omega)) ?_
     exact hI _ (hJ.snoc s)
   |some j=>
    simp only[zi,if_neg (show ¬s.gG=true by simp[hr])]at hI ⊢
    refine And.intro (fun _=>?_) (fun h=>absurd h (by simp))
    refine And.intro (fun h=>absurd h (by simp[hr])) (fun _=>?_)
    refine Dm (fun ck=>?_) (fun he=>?_)
    ·simp only[lO,wP,yL,wD hJ.1 s,Ar,An,lN,iU,oh,iV,sS,sT,sZ,p9]
     refine G4 (by omega) ?_
     refine bL (ba hi (by simp only[maxLen];omega)) ?_
     exact hI _ (hJ.snoc s)
    ·subst he
     simp only[GI,GH,wP,yL,wD hJ.1 s,lN,iU,oh,iV,sS,sT,sZ,p9]
     refine GG ?_
     refine bL (ba hi (by simp only[maxLen];omega)) ?_
     exact hI _ (hJ.snoc s)
 ·simp only[HZ,sS,sT,sZ]
  refine And.intro (fun h=>absurd h (by simp)) (fun _=>?_)
  rw[List.take_length]
  simp only[XY,Uf,u2,yD,oZ,zC,agn,ago,OT,y2,AB,yK,sS,sT,sZ]
  exact hK
end Go.Proofs.YtaknajjmldngiaaGreat.Ab
namespace Go.Proofs.YtaknajjmldngiaaGreat.Ab
open Go
set_option linter.unusedVariables false
set_option maxRecDepth 4000
def xg(l:List aX):SV:=match pe [] l with
 |some (c,s)=>.cR [.d (.sl .nil 0 []),.d (.agg [.int .i64 c,.int .i64 s.line,.int .i64 s.eV,.str s.name])]
 |none=>.cR [.d (cU 6 (dC (gI l l))),.d (.agg [.int .i64 0,.int .i64 0,.int .i64 0,.str []])]
theorem XZ:gb tR=(gb tR).take 4++.block 0 (.rangeFunc (.tmp 17) #[18] (Fu vz) (Fv vz))::(gb tR).drop 5:=by kernel_rfl
theorem acQ:((du qF.gh (Fu vz)).all fun t=> !([2,3,4,5].contains t))=true:=by kernel_rfl
theorem acR:((du qF.gh (Fv vz)).all fun t=> !([2,3,4,5].contains t))=true:=by kernel_rfl
theorem WM(t:Nat)(s:Slot)(h:ql[t]? =some s)(hp:Bw s=true):t∈[2,3,4,5]:=by
 by_cases h6:t<6
 ·rcases t with _|_|_|_|_|_|t
  ·cases h;cases hp
  ·cases h;cases hp
  ·simp
  ·simp
  ·simp
  ·simp
  ·omega
 ·exfalso
  unfold ql at h
  rw[List.getElem?_append_right (by simp;omega)]at h
  have:=(List.mem_replicate.1 (List.mem_of_getElem? h)).2
  subst this
  cases hp
theorem acS(f1 f2 f3 f4:D)(h:(f1.one&&f2.one&&f3.one&&f4.one)=true)(al:SV)(m:List (MK×D))(K:SV→Prop)(hK:K (.cR [.d (.sl .nil 0 []),.d (.agg [f1,f2,f3,f4])])):finish Tryz.prog Tryz.f100 ⟨ql,Fw [.d f1,.d f2,.d f3,.d f4] al m⟩ K:=by
 show finish Tryz.prog Tryz.f100 ⟨ql,[.cells [.d (.sl .nil 0 [])],.cells [.d f1,.d f2,.d f3,.d f4],.cells [al],.map m,.one (.m 3)]⟩ K
 rw[acK]
 simp only[AB,yK,sS,sT,sZ]
 exact hK
theorem US(cW:List lJ){L:List D}{xs:D}(hx:cw 55 L xs)(hs:El cW L)(hn:cW.length≤maxLen)(hl:(cW.flatMap gQ).length ≤2^30)(hp:ns (cW.flatMap gQ)≤2^30):
  aF Tryz.prog gl 100 [.d xs] (xg (cW.flatMap gQ)):=by
 have iZ:xs.cells=[xs]:=by cases hx<;>rfl
 have gi:xs.one=true:=by cases hx<;>rfl
 refine UA aT (fn:=Tryz.f100) (c:=tR) rfl rfl (bp (fn:=Tryz.f100) (by kernel_rfl) (by kernel_rfl) (by kernel_rfl)) (hh:=qF) XZ (Ue cW hx hs hn) rfl (fun aW=>?_)
 show qX Tryz.prog gl _ qF ((gb tR).take 4) _ (enter 105 _)
 rw[acM]
 simp only[sS,sT,sZ]
 refine ec (TV iZ gi) rfl ?_
 refine⟨rfl,ql,rI (cW.flatMap gQ),rX (cW.flatMap gQ),rfl,fun i s hi=>?_,rfl,rfl,fun t s ht hp=>?_,?_,fun k d au hI hd hb=>?_,fun au hI hb=>?_,fun x au ck hX hb=>?_⟩
 ·by_cases h6:i<6
  ·rcases i with _|_|_|_|_|_|i
   ·cases hi;exact .inl rfl
   ·cases hi;exact .inl rfl
   ·cases hi;exact .inr ⟨_,rfl,.inl rfl⟩
   ·cases hi;exact .inr ⟨_,rfl,.inl rfl⟩
   ·cases hi;exact .inr ⟨_,rfl,.inl rfl⟩
   ·cases hi;exact .inr ⟨_,rfl,.inl rfl⟩
   ·omega
  ·left
   unfold ql at hi
   rw[List.getElem?_append_right (by simp;omega)]at hi
   exact(List.mem_replicate.1 (List.mem_of_getElem? hi)).2
 ·have hm:=WM t s ht hp
  have h1:=List.all_eq_true.1 acQ
  have h2:=List.all_eq_true.1 acR
  refine⟨fun h=>?_,fun h=>?_,fun h=>?_⟩
  ·have:=h1 t h;simp at this;simp_all
  ·have:=h2 t h;simp at this;simp_all
  ·subst h;simp at hm
 ·exact⟨[],rfl,pE.nil,rfl⟩
 ·exact XW _ hl k d au hI hd
 ·obtain⟨m,rfl,hm,dw⟩:=hI
  rw[lO,List.drop_length]at dw
  rw[lO,List.take_length]at hm ⊢
  refine ZD _ hl hp m hm _ ?_
  unfold xg
  rw[←dw]
  rfl
 ·obtain⟨rfl,c,s,m,al,hc,rfl⟩:=hX
  refine⟨rfl,?_⟩
  have hr:xg (cW.flatMap gQ)=.cR [.d (.sl .nil 0 []),.d (.agg [.int .i64 c,.int .i64 s.line,.int .i64 s.eV,.str s.name])]:=by unfold xg;rw[hc]
  exact acS _ _ _ _ rfl al m _ hr.symm
end Go.Proofs.YtaknajjmldngiaaGreat.Ab
namespace Go.Proofs.YtaknajjmldngiaaGreat.Ab
open Go
set_option linter.unusedVariables false
set_option maxRecDepth 4000
theorem Dn(f:Fn)(a b:List SV):aa (.dX f a b)=.dX f a b:=rfl
theorem UT(f:FuncId)(a b args:List SV)(k:FuncId→List SV→Prop):withFn (.dX (.func f) a b) args k=k f (a++args++b):=rfl
theorem X0(cs:List SV)(o:Nat):aa (.ref cs o)=.ref cs o:=rfl
def y3(d r:List (List UInt8)):Bool:=r.any fun p=> !iY p d
theorem VD(s:aX):s.cells.map aa=s.cells:=rfl
theorem Ug(s:aX)(hl:s.perms.length≤maxLen)(p:List UInt8):aF Tryz.prog gl 102 [.d (.str p),.ref s.cells 0] (.d (.bool (!iY p s.perms))):=by
 refine cG aT (bp (fn:=Tryz.f102) (by kernel_rfl) (by kernel_rfl) (by kernel_rfl)) (h:=PR) ?_;rw[Y5];intro aW
 have h1:dT (.ref s.cells 0) 3=some (.ref s.cells 3):=rfl
 have h2:az false 1 (.ref s.cells 3)=some (.d (cU 1 (bT s.perms))):=rfl
 simp only[X0,h1,h2,sS,sT,sZ]
 refine aO (K4 s.perms (ed 1 _) hl p) ?_
 simp only[jH,sS,sT,sZ]
theorem WN{α:Type}(p:α→Bool)(l:List α):(first p l).isSome =l.any p:=by
 cases h:first p l with
 |some k=>
  obtain⟨x,h1,h2⟩:=MW h
  exact(List.any_eq_true.2 ⟨x,List.mem_of_getElem? h1,h2⟩).symm
 |none=>
  have:=G3 h
  symm
  rw[Option.isSome_none,List.any_eq_false]
  intro x hx
  obtain⟨j,hj⟩:=List.mem_iff_getElem?.1 hx
  simp[this j x hj]
theorem Uh(s:aX)(hs:s.perms.length≤maxLen)(l:List (List UInt8)){x:D}(hx:cw 1 (bT l) x)(hl:l.length≤maxLen):
  aF Tryz.prog gl 117 [.d x,.dX (.func 102) [] [.ref s.cells 0]] (.d (.int .i64 (orM (first (fun p=> !iY p s.perms) l)))):=by
 refine cG aT (bp (fn:=Tryz.f117) (by kernel_rfl) (by kernel_rfl) (by kernel_rfl)) (h:=P1) ?_;rw[Zb];intro aW
 simp only[sS,sT,sZ,hx.len,fO,Dn]
 refine iS (fun i=>∀(j:Nat)k,j<i→l[j]? =some k→(!iY k s.perms)=false) (fun i=>[.d x,.dX (.func 102) [] [.ref s.cells 0],.d (.int .i64 (l.length:Int)),.d (.int .i64 ((i:Nat):Int))]) (fun i=>[]) l.length (fun j k hj _=>by omega) (fun i hi hJ I hI=>?_) (fun hJ I=>?_)
 ·simp only[sS,sT,sZ,Dn]
  refine And.intro (fun _=>?_) (fun h=>absurd h (by simp;omega))
  obtain⟨t,ht⟩:=get_some hi
  have fq:(bT l)[i]? =some (.str t):=by rw[bT,List.getElem?_map,ht];rfl
  simp only[hx.at fq,sS,sT,sZ,sW,Nat.zero_add,u6,Dn,UT,List.nil_append,List.cons_append]
  refine aO (Ug s hs t) ?_
  simp only[sS,sT,sZ]
  refine And.intro (fun h=>?_) (fun h=>?_)
  ·rw[GZ ht (by simpa using h) hJ];rfl
  ·refine bL (ba hi hl) ?_
   refine hI fun j k' hj ef=>?_
   rcases Nat.lt_or_ge j i with h2|h2
   ·exact hJ j k' h2 ef
   ·have:j=i:=by omega
    subst this
    rw[ht]at ef
    cases ef
    simpa using h
 ·simp only[sS,sT,sZ]
  refine And.intro (fun h=>absurd h (by simp)) (fun _=>?_)
  rw[Gn fun j k ef=>hJ j k (List.getElem?_eq_some_iff.1 ef).1 ef]
  rfl
theorem LN(d r:aX)(hd:d.perms.length≤maxLen)(hr:r.perms.length≤maxLen):aF Tryz.prog gl 87 [.d d.enc,.d r.enc] (.d (.bool (y3 d.perms r.perms))):=by
 have EF:aF Tryz.prog gl 101 [.d (cU 1 (bT r.perms)),.dX (.func 102) [] [.ref d.cells 0]] (.d (.bool (y3 d.perms r.perms))):=by
  refine cG aT (bp (fn:=Tryz.f101) (by kernel_rfl) (by kernel_rfl) (by kernel_rfl)) (h:=EF) ?_;rw[Y4];intro aW
  simp only[sS,sT,sZ,Dn]
  refine aO (Uh d hd r.perms (ed 1 _) hr) ?_
  have Kb:=WN (fun p=> !iY p d.perms) r.perms
  simp only[sS,sT,sZ,N5,Kb]
  rfl
 refine cG aT (bp (fn:=Tryz.f87) (by kernel_rfl) (by kernel_rfl) (by kernel_rfl)) (h:=Sy) ?_;rw[abS];intro aW
 simp only[mj,mu,NC,VD,sS,sT,sZ]
 refine aO EF ?_
 simp only[sS,sT,sZ]
structure fM where
 sym:aX
 st:Int
def nh(t:fM):D:=.agg [.int .i64 t.sym.kind,.str t.sym.name,.bool t.sym.gG,cU 1 (bT t.sym.perms),.int .i64 t.sym.line,.int .i64 t.sym.eV,.int .i64 t.st]
def pW(t:fM):List SV:=[.d (.int .i64 t.sym.kind),.d (.str t.sym.name),.d (.bool t.sym.gG),.d (cU 1 (bT t.sym.perms)),.d (.int .i64 t.sym.line),.d (.int .i64 t.sym.eV),.d (.int .i64 t.st)]
theorem yE(t:fM):ax (.d (nh t))=some (pW t):=rfl
theorem y4(t:fM):(pW t).length =7:=rfl
theorem Hz(t:fM):ag true 7 0 (pW t)=some (.d (nh t)):=rfl
theorem X1(t:fM):ag true 6 0 (pW t)=some (.d t.sym.enc):=rfl
theorem X2(t:fM):ag false 1 0 (pW t)=some (.d (.int .i64 t.sym.kind)):=rfl
theorem NK(t:fM):ag false 1 1 (pW t)=some (.d (.str t.sym.name)):=rfl
theorem NL(t:fM):ag true 2 4 (pW t)=some (.d (.agg [.int .i64 t.sym.line,.int .i64 t.sym.eV])):=rfl
theorem X3(t:fM):ag false 1 6 (pW t)=some (.d (.int .i64 t.st)):=rfl
theorem DX(a b c d e f g:SV)(t:fM):setAt [a,b,c,d,e,f,g] 0 (pW t)=pW t:=rfl
theorem DC(t:fM):az true 7 (.aA (nh t) 0)=some (.d (nh t)):=rfl
theorem X4(a b:Int):bZ Tryz.prog 176 [(0,.int .i64 a),(1,.int .i64 b)]=some (.agg [.int .i64 a,.int .i64 b]):=by kernel_rfl
def xS(k:Int):Int:=if k==3 then 2 else k
theorem Li(t:fM):aF Tryz.prog gl 86 [.d (nh t)] (.d (.agg [.int .i64 t.st,.int .i64 (xS t.sym.kind)])):=by
 refine cG aT (bp (P:=Tryz.prog) (f:=86) rfl rfl rfl) (h:=Sx) ?_
 rw[abR];intro aW
 simp only[yE,y4,X2,X3,pb,wu,X4,NJ,OU,Oe,Qv,sS,sT,sZ]
 refine And.intro (fun h=>?_) (fun h=>?_)
 ·simp only[xS,h,if_true]
 ·simp only[xS,h,Bool.false_eq_true,if_false]
theorem acT(a b c d:Int):ah (some (true,[.int,.int])) .neq (.d (.agg [.int .i64 a,.int .i64 b])) (.d (.agg [.int .i64 c,.int .i64 d]))=some (.d (.bool (!(a==c&&b==d)))):=by
 simp[ah,ej,dO,eW,jG]
def yM(a b:fM):Int:=
 if !(a.st==b.st&&xS a.sym.kind==xS b.sym.kind)then 0 else
 if !(a.sym.name==b.sym.name)then 0 else
 if a.sym.kind != b.sym.kind then 13 else
 if !a.sym.gG&& !b.sym.gG then 12 else
 if a.sym.gG==b.sym.gG then 0 else
 if a.sym.kind != 1 then 0 else
 if(a.sym.gG&&y3 b.sym.perms a.sym.perms)||(b.sym.gG&&y3 a.sym.perms b.sym.perms)then 21 else 0
theorem Lt(a b:fM)(ha:a.sym.perms.length≤maxLen)(hb:b.sym.perms.length≤maxLen):aF Tryz.prog gl 59 [.d (nh a),.d (nh b)] (.d (.int .i64 (yM a b))):=by
 refine cG aT (bp (fn:=Tryz.f59) (by kernel_rfl) (by kernel_rfl) (by kernel_rfl)) (h:=R5) ?_;rw[abF];intro aW
 have mP:=LN b.sym a.sym hb ha
 have S4:=LN a.sym b.sym ha hb
 simp only[yE,y4,Hz,X1,mj,mu,od,sS,sT,sZ]
 refine aO (Li a) ?_
 simp only[sS,sT,sZ]
 refine aO (Li b) ?_
 simp only[acT,yy,wk,yz,lN,yJ,Dy,jH,Nt,sS,sT,sZ]
 unfold yM
 generalize (!(a.st==b.st&&xS a.sym.kind==xS b.sym.kind))=c1
 generalize (!(a.sym.name==b.sym.name))=c2
 generalize (a.sym.kind != b.sym.kind)=c3
 generalize (a.sym.kind != 1)=c4
 generalize y3 b.sym.perms a.sym.perms=c5 at mP ⊢
 generalize y3 a.sym.perms b.sym.perms=c6 at S4 ⊢
 generalize a.sym.gG=r1
 generalize b.sym.gG=r2
 repeat' first
  |with_reducible refine And.intro (fun h=>?_) (fun h=>?_)
  |(with_reducible refine aO mP ?_;simp only[sS,sT,sZ])
  |(with_reducible refine aO S4 ?_;simp only[sS,sT,sZ])
 all_goals (simp_all;done)
end Go.Proofs.YtaknajjmldngiaaGreat.Ab
namespace Go.Proofs.YtaknajjmldngiaaGreat.Ab
open Go
set_option linter.unusedVariables false
set_option maxRecDepth 4000
structure fN where
 name:List UInt8
 v3:Int
 cW:List lJ
inductive zD(m:fN):D→Prop
 |mk (xs:D) (L:List D) (hx:cw 55 L xs) (hs:El m.cW L):zD m (.agg [.str m.name,.int .i64 m.v3,xs])
def fN.syms(m:fN):List aX:=m.cW.flatMap gQ
structure xh(m:fN):Prop where
 n:m.cW.length≤2^30
 l:m.syms.length≤2^30
 p:ns m.syms≤2^30
theorem G5(a b c:D):ax (.d (.agg [a,b,c]))=some [.d a,.d b,.d c]:=rfl
theorem Jy{α:Type}(a b c:α):[a,b,c].length =3:=rfl
theorem G6(a b c:SV):ag false 1 2 [a,b,c]=some c:=rfl
theorem Oh(a b c:D):ag true 3 0 [.d a,.d b,.d c]=some (.d (.agg [a,b,c])):=rfl
theorem Mj(a b c d:SV):ag false 1 0 [a,b,c,d]=some a:=rfl
theorem NM:∀(l pre:List aX)(c:Int)(s:aX),pe pre l=some (c,s)→c≠0
 |[],pre,c,s,h=>by simp[pe]at h
 |y::l,pre,c,s,h=>by
  rw[pe]at h
  split at h
  ·exact NM l _ c s h
  ·rename_i hc
   cases h
   exact hc
theorem TW{m:fN}{d:D}(hd:zD m d)(hm:xh m):aF Tryz.prog gl 85 [.d d] (xg m.syms):=by
 cases hd with
 |mk xs L hx hs=>
 refine cG aT (bp (fn:=Tryz.f85) (by kernel_rfl) (by kernel_rfl) (by kernel_rfl)) (h:=Sw) ?_;rw[abQ];intro aW
 simp only[G5,Jy,G6,sS,sT,sZ]
 have hB:=US m.cW hx hs (Nat.le_trans hm.n (by decide)) hm.l hm.p
 have e:m.cW.flatMap gQ=m.syms:=rfl
 rw[e]at hB
 unfold xg at hB ⊢
 cases hc:pe [] m.syms with
 |none=>
  simp only[hc]at hB ⊢
  refine call2 hB ?_
  simp only[yD,zC,y2,yK,sS,sT,sZ]
 |some p=>
  obtain⟨c,s⟩:=p
  simp only[hc]at hB ⊢
  refine call2 hB ?_
  simp only[yD,zC,y2,yK,sS,sT,sZ]
def Bc(l:List aX):List aX:=match pe [] l with|none=>gI l l|some _=>[]
def kL(s:lJ):List fM:=if s.kind==20||s.kind==23 then [⟨⟨0,s.name,false,[],s.line,s.eV⟩,s.kind⟩]else []
def cN(m:fN):List fM:=(Bc m.syms).map (fun s=>⟨s,0⟩)++m.cW.flatMap kL
def e5(l:List fM):List D:=l.map nh
theorem G7(l:List fM)(t:fM):e5 l++[nh t]=e5 (l++[t]):=by simp[e5]
theorem DD(l:List fM):(e5 l).length =l.length:=List.length_map ..
theorem Dp:∀(l:List lJ),(l.flatMap kL).length ≤l.length
 |[]=>Nat.le_refl _
 |s::l=>by
  have:=Dp l
  rw[List.flatMap_cons,List.length_append,List.length_cons]
  have:(kL s).length ≤1:=by unfold kL;split<;>simp
  omega
theorem M0(n:List UInt8)(l c:Int):bZ Tryz.prog 135 [(1,.str n),(4,.agg [.int .i64 l,.int .i64 c])]=some (aX.enc ⟨0,n,false,[],l,c⟩):=by kernel_rfl
theorem Mk(ps:List (Nat×D)):bZ Tryz.prog 137 ps=(match qg (fun i=>[(0,6),(6,1)][i]?) [.int .i64 0,.str [],.bool false,.sl .nil 0 [],.int .i64 0,.int .i64 0,.int .i64 0] ps with|some cs=>some (.agg cs)|none=>none):=by kernel_rfl
theorem WO(s:aX):bZ Tryz.prog 137 [(0,s.enc)]=some (nh ⟨s,0⟩):=by rw[Mk];rfl
theorem M1(s:aX)(k:Int):bZ Tryz.prog 137 [(0,s.enc),(1,.int .i64 k)]=some (nh ⟨s,k⟩):=by rw[Mk];rfl
theorem H0(t:fM):bY 7 1 [(0,nh t)]=true:=rfl
theorem Ml(l:List aX):(gI l l).length ≤l.length:=by
 have:=Mh l l l.length
 rwa[List.take_length]at this
theorem Ui{m:fN}{d:D}(hd:zD m d)(hm:xh m):aF Tryz.prog gl 58 [.d d] (aJ 7 (e5 (cN m))):=by
 have hS:=TW hd hm
 cases hd with
 |mk xs L hx hs=>
 refine cG aT (bp (fn:=Tryz.f58) (by kernel_rfl) (by kernel_rfl) (by kernel_rfl)) (h:=R4) ?_;rw[abE];intro aW
 have hn:m.cW.length≤maxLen:=Nat.le_trans hm.n (by decide)
 have lA:=hm.n
 have zP:=hm.l
 simp only[G5,Jy,Oh,sS,sT,sZ]
 unfold xg at hS
 cases hc:pe [] m.syms with
 |none=>
  simp only[hc]at hS
  refine call2 hS ?_
  have JO:=Ml m.syms
  simp only[yD,zC,y2,yK,Mj,pb,sS,sT,sZ,beq_self_eq_true]
  refine And.intro (fun _=>?_) (fun h=>absurd h (by simp))
  simp only[(ed 6 (dC (gI m.syms m.syms))).len,lO,sS,sT,sZ]
  refine de (fun i=>[aJ 7 (e5 (((gI m.syms m.syms).take i).map fun s=>⟨s,0⟩)),.d (cU 6 (dC (gI m.syms m.syms))),.d (.int .i64 ((gI m.syms m.syms).length :Int)),.d (.int .i64 ((i:Nat):Int))])
   (fun i=>[[.d (.str m.name),.d (.int .i64 m.v3),.d xs],[.d (.int .i64 0),.d (.int .i64 0),.d (.int .i64 0),.d (.str [])]]) (gI m.syms m.syms).length (fun i hi I hI=>?_) (fun I=>?_)
  ·simp only[sS,sT,sZ]
   refine And.intro (fun _=>?_) (fun h=>absurd h (by simp;omega))
   obtain⟨s,pV⟩:=get_some hi
   simp only[(ed 6 (dC (gI m.syms m.syms))).at (yY pV),AO,mj,mu,od,lN,iU,WO,H0,iV,sS,sT,sZ]
   refine eN (jk 7 _) (by simp only[e5,List.length_map,List.length_take,List.length_singleton];omega) ?_
   refine bL (ba hi (by simp only[maxLen];omega)) ?_
   rw[G7]
   rw[iT pV,List.map_append]at hI
   exact hI
  ·simp only[sS,sT,sZ]
   refine And.intro (fun h=>absurd h (by simp)) (fun _=>?_)
   simp only[G6,hx.len,hs.len,sS,sT,sZ,List.take_length]
   rw[show aJ 7 (e5 ((gI m.syms m.syms).map fun s=>(⟨s,0⟩:fM)))=aJ 7 (e5 ((gI m.syms m.syms).map (fun s=>(⟨s,0⟩:fM))++(m.cW.take 0).flatMap kL)) by simp]
   refine de (fun i=>[aJ 7 (e5 ((gI m.syms m.syms).map (fun s=>⟨s,0⟩)++(m.cW.take i).flatMap kL)),.d xs,.d (.int .i64 (m.cW.length:Int)),.d (.int .i64 ((i:Nat):Int))])
    (fun i=>[[.d (.str m.name),.d (.int .i64 m.v3),.d xs],[.d (.int .i64 0),.d (.int .i64 0),.d (.int .i64 0),.d (.str [])]]) m.cW.length (fun i hi I hI=>?_) (fun I=>?_)
   ·simp only[sS,sT,sZ]
    refine And.intro (fun _=>?_) (fun h=>absurd h (by simp;omega))
    obtain⟨s,pV⟩:=get_some hi
    obtain⟨y,hy,b4,pH,pI,Cj⟩:=hs.at_ i s pV
    have jE:=b4.load
    cases b4 with
    |mk r5 r6 fL al rest vW fU iI=>
    simp only[hx.at hy,sS,sT,sZ,jE,rE,oe,vW]
    rw[CV (by simp[lK,vW])]
    simp only[th,u7,u9,pb,wu,iU,M0,M1,H0,iV,sS,sT,sZ]
    have qV:(m.cW.take (i+1)).flatMap kL=(m.cW.take i).flatMap kL++kL s:=by rw[iT pV];simp
    rw[qV]at hI
    have hlen:=Dp (m.cW.take i)
    have aef:(m.cW.take i).length ≤i:=by simp;omega
    unfold kL at hI
    have fin:∀b:Bool,(s.kind==20||s.kind==23)=b→∀L:List fM,L=(gI m.syms m.syms).map (fun s=>⟨s,0⟩)++(m.cW.take i).flatMap kL→(b=true→cm 7 80 (aJ 7 (e5 L)) (.full 7 [nh ⟨⟨0,s.name,false,[],s.line,s.eV⟩,s.kind⟩]) (fun r=>ab (ah none .add (.d (.int .i64 ((i:Nat):Int))) (.d (.int .i64 1))) fun r2=>I [r,.d xs,.d (.int .i64 (m.cW.length:Int)),aa r2] [[.d (.str m.name),.d (.int .i64 m.v3),.d xs],[.d (.int .i64 0),.d (.int .i64 0),.d (.int .i64 0),.d (.str [])]]))∧(b=false→ab (ah none .add (.d (.int .i64 ((i:Nat):Int))) (.d (.int .i64 1))) fun r2=>I [aJ 7 (e5 L),.d xs,.d (.int .i64 (m.cW.length:Int)),aa r2] [[.d (.str m.name),.d (.int .i64 m.v3),.d xs],[.d (.int .i64 0),.d (.int .i64 0),.d (.int .i64 0),.d (.str [])]]):=by
     intro b hb L hL
     subst hL
     refine⟨fun h=>?_,fun h=>?_⟩
     ·rw[hb,if_pos h]at hI
      refine eN (jk 7 _) (by simp only[e5,List.length_map,List.length_append,List.length_singleton,List.length_nil];have:=JO;omega) ?_
      refine bL (ba hi hn) ?_
      rw[G7]
      rw[←List.append_assoc]at hI
      exact hI
     ·rw[hb,if_neg (by rw[h];simp),List.append_nil]at hI
      refine bL (ba hi hn) ?_
      exact hI
    refine And.intro (fun pR=>?_) (fun pR=>?_)
    ·exact(fin true (by rw[pR,Bool.true_or]) _ rfl).1 rfl
    ·refine And.intro (fun xT=>?_) (fun xT=>?_)
     ·exact(fin true (by rw[pR,xT];rfl) _ rfl).1 rfl
     ·exact(fin false (by rw[pR,xT];rfl) _ rfl).2 rfl
   ·simp only[sS,sT,sZ]
    refine And.intro (fun h=>absurd h (by simp)) (fun _=>?_)
    refine⟨gx _ _,?_⟩
    rw[List.take_length]
    unfold cN Bc
    rw[hc]
 |some p=>
  obtain⟨c,s0⟩:=p
  simp only[hc]at hS
  refine call2 hS ?_
  have mb:=NM _ _ _ _ hc
  simp only[yD,zC,y2,yK,Mj,pb,sS,sT,sZ]
  refine And.intro (fun h=>absurd h (by simp[mb])) (fun _=>?_)
  simp only[G6,hx.len,hs.len,sS,sT,sZ]
  ·refine de (fun i=>[aJ 7 (e5 ([]++(m.cW.take i).flatMap kL)),.d xs,.d (.int .i64 (m.cW.length:Int)),.d (.int .i64 ((i:Nat):Int))])
    (fun i=>[[.d (.str m.name),.d (.int .i64 m.v3),.d xs],[.d (.int .i64 c),.d (.int .i64 s0.line),.d (.int .i64 s0.eV),.d (.str s0.name)]]) m.cW.length (fun i hi I hI=>?_) (fun I=>?_)
   ·simp only[sS,sT,sZ]
    refine And.intro (fun _=>?_) (fun h=>absurd h (by simp;omega))
    obtain⟨s,pV⟩:=get_some hi
    obtain⟨y,hy,b4,pH,pI,Cj⟩:=hs.at_ i s pV
    have jE:=b4.load
    cases b4 with
    |mk r5 r6 fL al rest vW fU iI=>
    simp only[hx.at hy,sS,sT,sZ,jE,rE,oe,vW]
    rw[CV (by simp[lK,vW])]
    simp only[th,u7,u9,pb,wu,iU,M0,M1,H0,iV,sS,sT,sZ]
    have qV:(m.cW.take (i+1)).flatMap kL=(m.cW.take i).flatMap kL++kL s:=by rw[iT pV];simp
    rw[qV]at hI
    have hlen:=Dp (m.cW.take i)
    have aef:(m.cW.take i).length ≤i:=by simp;omega
    unfold kL at hI
    have fin:∀b:Bool,(s.kind==20||s.kind==23)=b→∀L:List fM,L=[]++(m.cW.take i).flatMap kL→(b=true→cm 7 80 (aJ 7 (e5 L)) (.full 7 [nh ⟨⟨0,s.name,false,[],s.line,s.eV⟩,s.kind⟩]) (fun r=>ab (ah none .add (.d (.int .i64 ((i:Nat):Int))) (.d (.int .i64 1))) fun r2=>I [r,.d xs,.d (.int .i64 (m.cW.length:Int)),aa r2] [[.d (.str m.name),.d (.int .i64 m.v3),.d xs],[.d (.int .i64 c),.d (.int .i64 s0.line),.d (.int .i64 s0.eV),.d (.str s0.name)]]))∧(b=false→ab (ah none .add (.d (.int .i64 ((i:Nat):Int))) (.d (.int .i64 1))) fun r2=>I [aJ 7 (e5 L),.d xs,.d (.int .i64 (m.cW.length:Int)),aa r2] [[.d (.str m.name),.d (.int .i64 m.v3),.d xs],[.d (.int .i64 c),.d (.int .i64 s0.line),.d (.int .i64 s0.eV),.d (.str s0.name)]]):=by
     intro b hb L hL
     subst hL
     refine⟨fun h=>?_,fun h=>?_⟩
     ·rw[hb,if_pos h]at hI
      refine eN (jk 7 _) (by simp only[e5,List.length_map,List.length_append,List.length_singleton,List.length_nil];have:=lA;omega) ?_
      refine bL (ba hi hn) ?_
      rw[G7]
      rw[←List.append_assoc]at hI
      exact hI
     ·rw[hb,if_neg (by rw[h];simp),List.append_nil]at hI
      refine bL (ba hi hn) ?_
      exact hI
    refine And.intro (fun pR=>?_) (fun pR=>?_)
    ·exact(fin true (by rw[pR,Bool.true_or]) _ rfl).1 rfl
    ·refine And.intro (fun xT=>?_) (fun xT=>?_)
     ·exact(fin true (by rw[pR,xT];rfl) _ rfl).1 rfl
     ·exact(fin false (by rw[pR,xT];rfl) _ rfl).2 rfl
   ·simp only[sS,sT,sZ]
    refine And.intro (fun h=>absurd h (by simp)) (fun _=>?_)
    refine⟨gx _ _,?_⟩
    rw[List.take_length]
    unfold cN Bc
    rw[hc]
    rfl
end Go.Proofs.YtaknajjmldngiaaGreat.Ab
namespace Go.Proofs.YtaknajjmldngiaaGreat.Ab
open Go
set_option linter.unusedVariables false
set_option maxRecDepth 4000
theorem z7{α β:Type}{l:List α}{f:α→List β}{p:Nat}{x:α}(h:l[p]? =some x):((l.take p).flatMap f).length +(f x).length ≤(l.flatMap f).length :=by
 have h1:l=l.take p++x::l.drop (p+1):=by rw[←AA h,List.take_append_drop]
 have h2:(l.flatMap f).length =((l.take p++x::l.drop (p+1)).flatMap f).length :=by rw[←h1]
 rw[h2,List.flatMap_append,List.flatMap_cons,List.length_append,List.length_append]
 omega
theorem K5{β:Type}(f:Nat→List β){k n:Nat}(h:k<n):((List.range k).flatMap f).length +(f k).length ≤((List.range n).flatMap f).length :=by
 have:=z7 (l:=List.range n) (f:=f) (p:=k) (x:=k) (by rw[List.getElem?_range h])
 rwa[List.take_range,Nat.min_eq_left (by omega)]at this
def ni(code:Int)(i k:Nat)(la ca lb cb:Int)(nm:List UInt8):D:=.agg [.int .i64 code,.int .i64 (i:Int),.int .i64 (k:Int),.int .i64 la,.int .i64 ca,.int .i64 lb,.int .i64 cb,.str nm]
def yF(i k:Nat)(x y:fM):List D:=if yM x y=0 then []else [ni (yM x y) i k x.sym.line x.sym.eV y.sym.line y.sym.eV x.sym.name]
def xF(i k:Nat)(B:List fM)(x:fM):List D:=B.flatMap (yF i k x)
def Po(i k:Nat)(a b:fN):List D:=if a.name==b.name then [ni 12 i k 0 0 0 0 a.name]else []
def Bd(i k:Nat)(a b:fN):List D:=Po i k a b++(cN a).flatMap (xF i k (cN b))
def gM(l:List fN)(i k:Nat):List D:=if i<k then(match l[i]?,l[k]? with|some a,some b=>Bd i k a b|_,_=>[])else []
def fR(l:List fN)(i n:Nat):List D:=(List.range n).flatMap (gM l i)
def EL(l:List fN):List D:=(List.range l.length).flatMap fun i=>fR l i l.length
theorem Pp{l:List fN}{i k:Nat}{a b:fN}(h:i<k)(ha:l[i]? =some a)(hb:l[k]? =some b):gM l i k=Bd i k a b:=by unfold gM;rw[if_pos h,ha,hb]
theorem VE(l:List fN)(i:Nat):fR l i (i+1)=[]:=by
 unfold fR
 rw[List.flatMap_eq_nil_iff]
 intro k hk
 have:=List.mem_range.1 hk
 unfold gM
 rw[if_neg (by omega)]
theorem WQ{l:List fN}{i k:Nat}{a b:fN}(h:i<k)(ha:l[i]? =some a)(hb:l[k]? =some b):fR l i (k+1)=fR l i k++Bd i k a b:=by
 unfold fR
 rw[List.range_succ,List.flatMap_append,List.flatMap_singleton,Pp h ha hb]
theorem ZE{l:List fN}{i k:Nat}{a b:fN}(h:i<k)(hk:k<l.length)(ha:l[i]? =some a)(hb:l[k]? =some b):(fR l i k).length +(Bd i k a b).length ≤(fR l i l.length).length :=by
 have:=K5 (gM l i) hk
 rwa[Pp h ha hb]at this
def ig(l:List fN)(i:Nat):List D:=(List.range i).flatMap fun i=>fR l i l.length
theorem VF(l:List fN)(i:Nat):ig l (i+1)=ig l i++fR l i l.length:=by
 unfold ig
 rw[List.range_succ,List.flatMap_append,List.flatMap_singleton]
theorem X5{l:List fN}{i:Nat}(h:i<l.length):(ig l i).length +(fR l i l.length).length ≤(EL l).length :=K5 (fun i=>fR l i l.length) h
theorem NN(x y z u v w:D)(i j k l m n:Nat):aM [(i,.v (.d x)),(j,.v (.d y)),(k,.v (.d z)),(l,.v (.d u)),(m,.v (.d v)),(n,.v (.d w))]=some [(i,x),(j,y),(k,z),(l,u),(m,v),(n,w)]:=rfl
theorem M3(c:Int)(i k:Nat)(la ca lb cb:Int)(nm:List UInt8):bZ Tryz.prog 55 [(0,.int .i64 c),(1,.int .i64 (i:Int)),(2,.int .i64 (k:Int)),(3,.agg [.int .i64 la,.int .i64 ca]),(4,.agg [.int .i64 lb,.int .i64 cb]),(5,.str nm)]=some (ni c i k la ca lb cb nm):=by kernel_rfl
theorem WR(c:Int)(i k:Nat)(nm:List UInt8):bZ Tryz.prog 55 [(0,.int .i64 c),(1,.int .i64 (i:Int)),(2,.int .i64 (k:Int)),(5,.str nm)]=some (ni c i k 0 0 0 0 nm):=by kernel_rfl
theorem H2(c:Int)(i k:Nat)(la ca lb cb:Int)(nm:List UInt8):bY 8 1 [(0,ni c i k la ca lb cb nm)]=true:=rfl
theorem ZF(n:Nat)(L:List D):bY 1 1 [(0,cU n L)]=true:=by cases L<;>rfl
theorem DY(n:Nat)(L:List D):az false 1 (.aA (cU n L) 0)=some (.d (cU n L)):=by cases L<;>rfl
theorem DZ{l:List fM}{i:Nat}{t:fM}(h:l[i]? =some t):(e5 l)[i]? =some (nh t):=by simp[e5,h]
theorem agq(x:D):dT (.aA x 0) 0=some (.aA x 0):=rfl
theorem acU(a b c d e f:SV):setAt [a,b,c] 0 [d,e,f]=[d,e,f]:=rfl
theorem ZG(a b c:D):az true 3 (.aA (.agg [a,b,c]) 0)=some (.d (.agg [a,b,c])):=rfl
theorem X6(a b c:D):az false 1 (.aA (.agg [a,b,c]) 0)=some (.d a):=rfl
def v5(l:List fN):List D:=l.map fun m=>cU 7 (e5 (cN m))
theorem OV{l:List fN}{i:Nat}{m:fN}(h:l[i]? =some m):(v5 l)[i]? =some (cU 7 (e5 (cN m))):=by simp[v5,h]
structure Pq(l:List fN)(L:List D):Prop where
 len:L.length=l.length
 at_:∀(i:Nat)m,l[i]? =some m→∃d,L[i]? =some d∧zD m d∧xh m
theorem Uj{m:fN}(hm:xh m):∀t∈cN m,t.sym.perms.length≤maxLen:=by
 intro t ht
 unfold cN Bc at ht
 rcases List.mem_append.1 ht with h|h
 ·obtain⟨s,hs,rfl⟩:=List.mem_map.1 h
  split at hs
  ·have:=Ls m.syms m.syms m.syms.length
   rw[List.take_length]at this
   have h1:=this s hs
   have h2:=hm.p
   simp only[maxLen];omega
  ·cases hs
 ·obtain⟨s,hs,h⟩:=List.mem_flatMap.1 h
  unfold kL at h
  split at h
  ·rw[List.mem_singleton.1 h];simp[maxLen]
  ·cases h
theorem VG{m:fN}(hm:xh m):(cN m).length ≤2^32:=by
 have h1:=Dp m.cW
 have h2:=Ml m.syms
 have h3:=hm.n
 have h4:=hm.l
 unfold cN Bc
 rw[List.length_append,List.length_map]
 split
 ·omega
 ·rw[List.length_nil];omega
theorem ZH(a b:List UInt8):ah (some (false,[.str])) .eql (.d (.str a)) (.d (.str b))=some (.d (.bool (a==b))):=yI a b
theorem TX{l:List fN}{L:List D}{x:D}(hx:cw 3 L x)(hl:Pq l L)(KB:l.length≤2^30)(hF:(EL l).length ≤2^40):aF Tryz.prog gl 24 [.d x] (aJ 8 (EL l)):=by
 have hn:l.length≤maxLen:=Nat.le_trans KB (by decide)
 have Fx:∀(i:Nat)a,l[i]? =some a→∀t∈cN a,t.sym.perms.length≤maxLen:=fun i a ha=>by
  obtain⟨_,_,_,h⟩:=hl.at_ i a ha
  exact Uj h
 have S5:∀(i:Nat)a,l[i]? =some a→(cN a).length ≤maxLen:=fun i a ha=>by
  obtain⟨_,_,_,h⟩:=hl.at_ i a ha
  exact Nat.le_trans (VG h) (by decide)
 refine cG aT (bp (fn:=Tryz.f24) (by kernel_rfl) (by kernel_rfl) (by kernel_rfl)) (h:=JE) ?_;rw[abl];intro aW
 simp only[hx.len,hl.len,sS,sT,sZ]
 refine de (fun i=>[.d x,aJ 1 (v5 (l.take i)),.d x,.d (.int .i64 (l.length:Int)),.d (.int .i64 ((i:Nat):Int))]) (fun i=>[]) l.length (fun i hi I hI=>?_) (fun I=>?_)
 ·simp only[sS,sT,sZ]
  refine And.intro (fun _=>?_) (fun h=>absurd h (by simp;omega))
  obtain⟨m,hm⟩:=get_some hi
  obtain⟨d,hd,S6,di⟩:=hl.at_ i m hm
  have hth:=Ui S6 di
  cases S6 with
  |mk xs L' dE gT=>
  simp only[hx.at hd,ZG,G5,Jy,acU,Oh,sS,sT,sZ]
  refine ec hth (fb _ _) ?_
  simp only[ev,iU,ZF,iV,sS,sT,sZ]
  refine eN (jk 1 _) (by simp only[v5,List.length_map,List.length_take,List.length_singleton];omega) ?_
  refine bL (ba hi hn) ?_
  rw[iT hm,show v5 (l.take i++[m])=v5 (l.take i)++[cU 7 (e5 (cN m))] by simp[v5]]at hI
  exact hI
 ·simp only[sS,sT,sZ]
  refine And.intro (fun h=>absurd h (by simp)) (fun _=>?_)
  rw[List.take_length]
  generalize S7:v5 l=AL
  simp only[hx.len,hl.len,sS,sT,sZ]
  refine de (fun i=>[.d x,aJ 1 AL,aJ 8 (ig l i),.d (.int .i64 (l.length:Int)),.d (.int .i64 ((i:Nat):Int))]) (fun i=>[]) l.length (fun i hi I hI=>?_) (fun I=>?_)
  ·simp only[sS,sT,sZ]
   refine And.intro (fun _=>?_) (fun h=>absurd h (by simp;omega))
   obtain⟨a,ha⟩:=get_some hi
   have hmu:=X5 hi
   refine bL (ba hi hn) ?_
   simp only[sS,sT,sZ]
   rw[show aJ 8 (ig l i)=aJ 8 (ig l i++fR l i (i+1)) by rw[VE,List.append_nil]]
   refine de (fun j=>[.d x,aJ 1 AL,aJ 8 (ig l i++fR l i (i+1+j)),.d (.int .i64 ((i:Nat):Int)),.d (.int .i64 ((i+1+j:Nat):Int)),.d (.int .i64 (l.length:Int)),.d (.int .i64 ((i:Nat):Int))]) (fun j=>[]) (l.length-(i+1)) (fun j hj I1 dz=>?_) (fun I1=>?_)
   ·simp only[sS,sT,sZ,hx.len,hl.len]
    have hk:i+1+j<l.length:=by omega
    have iK:i<i+1+j:=by omega
    rw[show i+1+(j+1)=i+1+j+1 by omega]at dz
    generalize i+1+j=k at hk iK dz ⊢
    refine And.intro (fun _=>?_) (fun h=>absurd h (by simp;omega))
    obtain⟨b,hb⟩:=get_some hk
    have gf:=ZE iK hk ha hb
    rw[WQ iK ha hb]at dz
    have S8:AL[i]? =some (cU 7 (e5 (cN a))):=by rw[←S7];exact OV ha
    have uh:AL[k]? =some (cU 7 (e5 (cN b))):=by rw[←S7];exact OV hb
    have Qx:=S5 i a ha
    have EM:=S5 k b hb
    obtain⟨da,hda,KI,_⟩:=hl.at_ i a ha
    obtain⟨db,hdb,hmb,_⟩:=hl.at_ k b hb
    cases KI with
    |mk xa La E6 hsa=>
    cases hmb with
    |mk xb Lb hxb QS=>
    simp only[hx.at hda,hx.at hdb,agq,X6,ZH,sS,sT,sZ]
    unfold Bd Po at dz gf
    rw[←List.append_assoc,←List.append_assoc]at dz
    refine And.intro (fun pP=>?_) (fun pP=>?_)
    ·rw[if_pos pP]at dz gf
     simp only[List.length_append,List.length_singleton]at gf
     have KJ:=dz
     simp only[wo,WR,iU,H2,iV,sS,sT,sZ]
     refine eN (jk 8 _) (by simp only[List.length_append,List.length_singleton];omega) ?_
     simp only[(ed 1 AL).at S8,DY,(ed 7 (e5 (cN a))).len,DD,sS,sT,sZ,ev]
     have hO:ig l i++fR l i k++[ni 12 i k 0 0 0 0 a.name]=ig l i++fR l i k++[ni 12 i k 0 0 0 0 a.name]++((cN a).take 0).flatMap (xF i k (cN b)):=by simp
     rw[show aJ 8 (ig l i++fR l i k++[ni 12 i k 0 0 0 0 a.name])=aJ 8 (ig l i++fR l i k++[ni 12 i k 0 0 0 0 a.name]++((cN a).take 0).flatMap (xF i k (cN b))) by simp]
     refine de (fun p=>[.d x,aJ 1 AL,aJ 8 (ig l i++fR l i k++[ni 12 i k 0 0 0 0 a.name]++((cN a).take p).flatMap (xF i k (cN b))),.d (.int .i64 ((i:Nat):Int)),.d (.int .i64 ((k:Nat):Int)),.d (.int .i64 (l.length:Int)),.d (.int .i64 ((i:Nat):Int)),.d (cU 7 (e5 (cN a))),.d (.int .i64 ((cN a).length :Int)),.d (.int .i64 ((p:Nat):Int))]) (fun p=>[]) (cN a).length (fun p hp I2 cD=>?_) (fun I2=>?_)
     ·simp only[sS,sT,sZ]
      refine And.intro (fun _=>?_) (fun h=>absurd h (by simp;omega))
      obtain⟨t,ht⟩:=get_some hp
      have Ch:=Fx i a ha t (List.mem_of_getElem? ht)
      have E0:=z7 (f:=xF i k (cN b)) ht
      simp only[(ed 7 (e5 (cN a))).at (DZ ht),DC,yE,y4,DX,(ed 1 AL).at uh,DY,(ed 7 (e5 (cN b))).len,DD,sS,sT,sZ,ev]
      rw[show aJ 8 (ig l i++fR l i k++[ni 12 i k 0 0 0 0 a.name]++((cN a).take p).flatMap (xF i k (cN b)))=aJ 8 (ig l i++fR l i k++[ni 12 i k 0 0 0 0 a.name]++((cN a).take p).flatMap (xF i k (cN b))++((cN b).take 0).flatMap (yF i k t)) by simp]
      refine de (fun q=>[.d x,aJ 1 AL,aJ 8 (ig l i++fR l i k++[ni 12 i k 0 0 0 0 a.name]++((cN a).take p).flatMap (xF i k (cN b))++((cN b).take q).flatMap (yF i k t)),.d (.int .i64 ((i:Nat):Int)),.d (.int .i64 ((k:Nat):Int)),.d (.int .i64 (l.length:Int)),.d (.int .i64 ((i:Nat):Int)),.d (cU 7 (e5 (cN a))),.d (.int .i64 ((cN a).length :Int)),.d (.int .i64 ((p:Nat):Int)),.d (cU 7 (e5 (cN b))),.d (.int .i64 ((cN b).length :Int)),.d (.int .i64 ((q:Nat):Int))]) (fun q=>[pW t]) (cN b).length (fun q hq I3 jh=>?_) (fun I3=>?_)
      ·simp only[sS,sT,sZ]
       refine And.intro (fun _=>?_) (fun h=>absurd h (by simp;omega))
       obtain⟨u,hu⟩:=get_some hq
       have KL:=Fx k b hb u (List.mem_of_getElem? hu)
       have Cg:=z7 (f:=yF i k t) hu
       simp only[(ed 7 (e5 (cN b))).at (DZ hu),DC,yE,y4,DX,Hz,sS,sT,sZ]
       refine aO (Lt t u Ch KL) ?_
       rw[iT hu,List.flatMap_append,←List.append_assoc]at jh
       simp only[Dy,sS,sT,sZ]
       refine And.intro (fun hc=>?_) (fun hc=>?_)
       ·have xU:[u].flatMap (yF i k t)=[ni (yM t u) i k t.sym.line t.sym.eV u.sym.line u.sym.eV t.sym.name]:=by
         rw[List.flatMap_singleton,yF,if_neg (by simpa using hc)]
        rw[xU]at jh
        simp only[NL,NK,NN,M3,iU,H2,iV,sS,sT,sZ]
        refine eN (jk 8 _) (by simp only[List.length_append,List.length_singleton];simp only[xF]at E0 ⊢;omega) ?_
        refine bL (ba hq EM) ?_
        exact jh
       ·have xU:[u].flatMap (yF i k t)=[]:=by
         rw[List.flatMap_singleton,yF,if_pos (by simpa using hc)]
        rw[xU,List.append_nil]at jh
        refine bL (ba hq EM) ?_
        exact jh
      ·simp only[sS,sT,sZ]
       refine And.intro (fun h=>absurd h (by simp)) (fun _=>?_)
       refine bL (ba hp Qx) ?_
       rw[iT ht,List.flatMap_append,←List.append_assoc,List.flatMap_singleton]at cD
       rw[List.take_length]
       exact cD
     ·simp only[sS,sT,sZ]
      refine And.intro (fun h=>absurd h (by simp)) (fun _=>?_)
      refine bL (ba hk hn) ?_
      rw[List.take_length]
      exact KJ
    ·rw[if_neg (by rw[pP];simp),List.append_nil]at dz
     rw[if_neg (by rw[pP];simp)]at gf
     simp only[List.length_append,List.length_nil]at gf
     have KJ:=dz
     simp only[(ed 1 AL).at S8,DY,(ed 7 (e5 (cN a))).len,DD,sS,sT,sZ,ev]
     have hO:ig l i++fR l i k=ig l i++fR l i k++((cN a).take 0).flatMap (xF i k (cN b)):=by simp
     rw[show aJ 8 (ig l i++fR l i k)=aJ 8 (ig l i++fR l i k++((cN a).take 0).flatMap (xF i k (cN b))) by simp]
     refine de (fun p=>[.d x,aJ 1 AL,aJ 8 (ig l i++fR l i k++((cN a).take p).flatMap (xF i k (cN b))),.d (.int .i64 ((i:Nat):Int)),.d (.int .i64 ((k:Nat):Int)),.d (.int .i64 (l.length:Int)),.d (.int .i64 ((i:Nat):Int)),.d (cU 7 (e5 (cN a))),.d (.int .i64 ((cN a).length :Int)),.d (.int .i64 ((p:Nat):Int))]) (fun p=>[]) (cN a).length (fun p hp I2 cD=>?_) (fun I2=>?_)
     ·simp only[sS,sT,sZ]
      refine And.intro (fun _=>?_) (fun h=>absurd h (by simp;omega))
      obtain⟨t,ht⟩:=get_some hp
      have Ch:=Fx i a ha t (List.mem_of_getElem? ht)
      have E0:=z7 (f:=xF i k (cN b)) ht
      simp only[(ed 7 (e5 (cN a))).at (DZ ht),DC,yE,y4,DX,(ed 1 AL).at uh,DY,(ed 7 (e5 (cN b))).len,DD,sS,sT,sZ,ev]
      rw[show aJ 8 (ig l i++fR l i k++((cN a).take p).flatMap (xF i k (cN b)))=aJ 8 (ig l i++fR l i k++((cN a).take p).flatMap (xF i k (cN b))++((cN b).take 0).flatMap (yF i k t)) by simp]
      refine de (fun q=>[.d x,aJ 1 AL,aJ 8 (ig l i++fR l i k++((cN a).take p).flatMap (xF i k (cN b))++((cN b).take q).flatMap (yF i k t)),.d (.int .i64 ((i:Nat):Int)),.d (.int .i64 ((k:Nat):Int)),.d (.int .i64 (l.length:Int)),.d (.int .i64 ((i:Nat):Int)),.d (cU 7 (e5 (cN a))),.d (.int .i64 ((cN a).length :Int)),.d (.int .i64 ((p:Nat):Int)),.d (cU 7 (e5 (cN b))),.d (.int .i64 ((cN b).length :Int)),.d (.int .i64 ((q:Nat):Int))]) (fun q=>[pW t]) (cN b).length (fun q hq I3 jh=>?_) (fun I3=>?_)
      ·simp only[sS,sT,sZ]
       refine And.intro (fun _=>?_) (fun h=>absurd h (by simp;omega))
       obtain⟨u,hu⟩:=get_some hq
       have KL:=Fx k b hb u (List.mem_of_getElem? hu)
       have Cg:=z7 (f:=yF i k t) hu
       simp only[(ed 7 (e5 (cN b))).at (DZ hu),DC,yE,y4,DX,Hz,sS,sT,sZ]
       refine aO (Lt t u Ch KL) ?_
       rw[iT hu,List.flatMap_append,←List.append_assoc]at jh
       simp only[Dy,sS,sT,sZ]
       refine And.intro (fun hc=>?_) (fun hc=>?_)
       ·have xU:[u].flatMap (yF i k t)=[ni (yM t u) i k t.sym.line t.sym.eV u.sym.line u.sym.eV t.sym.name]:=by
         rw[List.flatMap_singleton,yF,if_neg (by simpa using hc)]
        rw[xU]at jh
        simp only[NL,NK,NN,M3,iU,H2,iV,sS,sT,sZ]
        refine eN (jk 8 _) (by simp only[List.length_append,List.length_singleton];simp only[xF]at E0 ⊢;omega) ?_
        refine bL (ba hq EM) ?_
        exact jh
       ·have xU:[u].flatMap (yF i k t)=[]:=by
         rw[List.flatMap_singleton,yF,if_pos (by simpa using hc)]
        rw[xU,List.append_nil]at jh
        refine bL (ba hq EM) ?_
        exact jh
      ·simp only[sS,sT,sZ]
       refine And.intro (fun h=>absurd h (by simp)) (fun _=>?_)
       refine bL (ba hp Qx) ?_
       rw[iT ht,List.flatMap_append,←List.append_assoc,List.flatMap_singleton]at cD
       rw[List.take_length]
       exact cD
     ·simp only[sS,sT,sZ]
      refine And.intro (fun h=>absurd h (by simp)) (fun _=>?_)
      refine bL (ba hk hn) ?_
      rw[List.take_length]
      exact KJ
   ·simp only[sS,sT,sZ,hx.len,hl.len]
    refine And.intro (fun h=>absurd h (by simp;omega)) (fun _=>?_)
    refine bL (ba hi hn) ?_
    rw[show i+1+(l.length-(i+1))=l.length by omega,←VF]
    exact hI
  ·simp only[sS,sT,sZ]
   refine And.intro (fun h=>absurd h (by simp)) (fun _=>?_)
   exact⟨gx _ _,rfl⟩
end Go.Proofs.YtaknajjmldngiaaGreat.Ab
namespace Go.Proofs.YtaknajjmldngiaaGreat.Ab
open Go
def aeg:List (Nat×Hints):=[(10,⟨[],[(4,[0,1,5],[])],[]⟩),
 (11,⟨[(2,4)],[],[]⟩),
 (13,⟨[(1,3),(2,0),(2,4),(2,5)],[],[]⟩),
 (15,⟨[(1,3)],[],[]⟩),
 (17,⟨[(1,4),(1,5),(2,0),(2,3),(2,4)],[],[]⟩),
 (23,⟨[],[],[]⟩),
 (25,⟨[(8,2)],[(4,[4,18,19,20],[1,2,3,11,12,17,53]),(10,[4,18,19,20,35,36],[1,2,3,6,9,11,12,17,25,26,33,34,48,49,51,53])],[(9,[.box 9 1]),(14,[.lX 9 [9,34]]),(16,[.lX 3 [3,11]])]⟩),
 (26,⟨[(11,0),(11,3),(11,4),(13,0),(13,1)],[(3,[0,1,5,11,12],[]),(6,[0,1,5,6,7,11,12],[])],[]⟩),
 (27,⟨[],[],[]⟩),
 (28,⟨[],[],[]⟩),
 (29,⟨[],[(2,[0,1,7,8],[])],[]⟩),
 (33,⟨[(11,0),(11,3),(11,4),(13,0),(13,1)],[(3,[0,1,5,11,12],[]),(6,[0,1,5,6,7,11,12],[])],[]⟩),
 (34,⟨[],[],[]⟩),
 (35,⟨[(11,0),(11,3),(11,4),(13,0),(13,1)],[(3,[0,1,5,11,12],[]),(6,[0,1,5,6,7,11,12],[])],[]⟩),
 (36,⟨[],[],[]⟩),
 (37,⟨[(11,0),(11,3),(11,4),(13,0),(13,1)],[(3,[0,1,5,11,12],[]),(6,[0,1,5,6,7,11,12],[])],[]⟩),
 (38,⟨[],[],[]⟩),
 (55,⟨[],[(3,[0,4],[2,3])],[]⟩),
 (56,⟨[],[],[]⟩),
 (57,⟨[],[],[]⟩),
 (60,⟨[],[],[]⟩),
 (61,⟨[],[(2,[6],[2,3,4])],[]⟩),
 (65,⟨[],[],[]⟩),
 (84,⟨[],[],[]⟩),
 (88,⟨[],[],[]⟩),
 (104,⟨[],[],[]⟩)]
def Pr:List (Nat×Hints)→Nat→Hints
 |[],_=>⟨[],[],[]⟩
 |(i,h)::l,n=>bif Nat.beq i n then h else Pr l n
def mL:FuncId→Hints:=Pr aeg
end Go.Proofs.YtaknajjmldngiaaGreat.Ab
set_option maxRecDepth 100000
namespace Go.Proofs.YtaknajjmldngiaaGreat.Ab
open Go
def h9:Hints:=⟨[(7,2),(7,4),(8,2)],[],[]⟩
noncomputable def c9:Code:=Go.Proofs.Tryz.f9.body.getD .skip
def v7:List Slot:=[.v .undef,.p 0 0,.p 1 0,.p 2 0,.p 3 0]++List.replicate 56 (.v .undef)
theorem pk8(C:aP)(ds:List D)(Q:Ex→Env→Prop):aw Go.Proofs.Tryz.prog gl C h9 ((gb c9).getD 8 .skip) Q ⟨(List.replicate 61 (.v .undef)).set 4 (.v (.aA (.agg ds) 0)),[]⟩=(
 ab (az true 17 (.aA (.agg ds) 0)) fun r0=>
 aB C 11 [(aa (aa r0))] fun r1=>
 (Q Ex.normal (Env.mk [(.v .undef),(.v .undef),(.v .undef),(.v .undef),(.v (.aA (.agg ds) 0)),(.v .undef),(.v .undef),(.v r1),(.v .undef),(.v .undef),(.v .undef),(.v .undef),(.v .undef),(.v .undef),(.v .undef),(.v .undef),(.v .undef),(.v .undef),(.v .undef),(.v .undef),(.v .undef),(.v .undef),(.v .undef),(.v .undef),(.v .undef),(.v .undef),(.v .undef),(.v .undef),(.v r0),(.v (aa r1)),(.v .undef),(.v .undef),(.v .undef),(.v .undef),(.v .undef),(.v .undef),(.v .undef),(.v .undef),(.v .undef),(.v .undef),(.v .undef),(.v .undef),(.v .undef),(.v .undef),(.v .undef),(.v .undef),(.v .undef),(.v .undef),(.v .undef),(.v .undef),(.v .undef),(.v .undef),(.v .undef),(.v .undef),(.v .undef),(.v .undef),(.v .undef),(.v .undef),(.v .undef),(.v .undef),(.v .undef)] []))):=by kernel_rfl
theorem agr(C:aP)(c0 c1 c2 c3 c4 c5:List SV)(M:List D)(K:SV→Prop):qX Go.Proofs.Tryz.prog gl C h9 ((gb c9).drop 10) (Bz Go.Proofs.Tryz.prog Go.Proofs.Tryz.f9 K) ⟨v7.set 7 (.v (.own 8 M)),[.cells c0,.cells c1,.cells c2,.cells c3,.cells c4,.cells c5]⟩=(
 ab (ag true 3 0 c1) fun r0=>
 ab (ag true 3 0 c2) fun r1=>
 ab (aM [(0,(.v (aa (aa r0)))),(1,(.v (aa (aa r1))))]) fun r2=>
 (bY 3 2 r2)=true∧
 aB C 24 [(.full 3 (bW (cf true [(.str []),(.int .i64 0),(.sl .nil 0 [])]) r2 2 0))] fun r3=>
 ab (ag true 2 0 c0) fun r4=>
 ab (ag true 2 0 c0) fun r5=>
 ab (aM [(0,(.v (.d (.int .i64 13)))),(2,(.v (.d (.int .i64 1)))),(3,(.v (aa (aa r4)))),(4,(.v (aa (aa r5)))),(5,(.v (.d (.str [116]))))]) fun r6=>
 ab (bZ Proofs.Tryz.prog 55 r6) fun r7=>
 ab (aM [(0,(.v (.d r7)))]) fun r8=>
 (bY 8 1 r8)=true∧
 aB C 10 [(aa (aa r3)),(.full 8 (bW (cf true [(.int .i64 0),(.int .i64 0),(.int .i64 0),(.int .i64 0),(.int .i64 0),(.int .i64 0),(.int .i64 0),(.str [])]) r8 1 0))] fun r9=>
 ai (aa r9)
  (ab (aM [(0,(.v (.d (.int .i64 16)))),(2,(.v (.d (.int .i64 1))))]) fun aI=>
  ab (bZ Proofs.Tryz.prog 55 aI) fun aS=>
  ab (aM [(0,(.v (.d aS)))]) fun aR=>
  (bY 8 1 aR)=true∧
  aB C 10 [(.d (.sl .ro 8 M)),(.full 8 (bW (cf true [(.int .i64 0),(.int .i64 0),(.int .i64 0),(.int .i64 0),(.int .i64 0),(.int .i64 0),(.int .i64 0),(.str [])]) aR 1 0))] fun aG=>
  ai (aa (aa aG))
   (ab (ag true 17 0 c3) fun aU=>
   aB C 11 [(aa (aa (aa aU)))] fun bm=>
   ab (aD (aa bm)) fun bf=>
   ab (ah (some (false,[.int])) .eql (aa bf) (.d (.int .i64 0))) fun bg=>
   ai (aa (aa bg))
    (aB C 23 [] fun bQ=>
    aB C 17 [(aa (aa bQ))] fun bB=>
    ab (aD (aa bB)) fun bC=>
    ab (ah (some (false,[.int])) .eql (aa bC) (.d (.int .i64 0))) fun bK=>
    (SV.aj (aa (aa bK)))=true∧
    (K (aa (aa bK))))
    ((SV.aj (.d (.bool false)))=true∧
    (K (.d (.bool false)))))
   ((SV.aj (.d (.bool false)))=true∧
   (K (.d (.bool false)))))
  ((SV.aj (.d (.bool false)))=true∧
  (K (.d (.bool false))))):=by kernel_rfl
end Go.Proofs.YtaknajjmldngiaaGreat.Ab
namespace Go.Proofs.YtaknajjmldngiaaGreat.Ab
open Go Go.RowKit
set_option linter.unusedVariables false
noncomputable def BS(lf n:Nat):List Code→Env→Option Env
 |[],e=>some e
 |c::l,e=>match jT Tryz.prog gl (qv Tryz.prog gl mL lf n) h9 lf c e with
  |some (.normal,e')=>BS lf n l e'
  |_=>none
theorem Mm{lf n:Nat}:∀(l:List Code)(e e':Env)(Q:Ex→Env→Prop),BS lf n l e=some e'→Q .normal e'→qX Tryz.prog gl (aF Tryz.prog gl) h9 l Q e
 |[],e,e',Q,h,hQ=>by cases h;exact hQ
 |c::l,e,e',Q,h,hQ=>by
  rw[BS]at h
  split at h
  ·rename_i e1 he1
   exact uY (uP aT mL lf n) c e (.normal,e1) _ he1 (Mm l e1 e' Q h hQ)
  ·cases h
noncomputable def E8:Env:=(BS 300 30 ((gb c9).take 8) (enter 61 [])).getD ⟨[],[]⟩
noncomputable def fg(i:Nat):List SV:=match(E8.boxes[i]? :Option af)with|some (.cells cs)=>cs|_=>[]
noncomputable def L8:List D:=match((fg 3)[10]? :Option SV)with|some (.cA _ L)=>L|_=>[]
noncomputable def x8:D:=(L8[1]?).getD .qe
noncomputable def x9:D:=.agg (x8.cells.set 12 (.int .i64 (-1)))
noncomputable def Ct:List D:=(eP ((fg 3).set 10 (.d (.sl .ro 13 L8)))).getD []
noncomputable def S9:List D:=(eP (((fg 3).set 10 (.cA 13 (L8.set 1 x9))).set 10 (.d (.sl .ro 13 (L8.set 1 x9))))).getD []
def sX:D:=.agg [.int .i64 16,.int .i64 0,.int .i64 1,.int .i64 0,.int .i64 0,.int .i64 0,.int .i64 0,.str []]
theorem acV:BS 300 30 ((gb c9).take 8) (enter 61 [])=some E8:=by kernel_rfl
theorem acW:E8.boxes=[.cells (fg 0),.cells (fg 1),.cells (fg 2),.cells (fg 3),.cells (fg 4),.cells (fg 5)]:=by kernel_rfl
theorem acX:E8.an.length=61:=by kernel_rfl
theorem aeh:E8.an[1]? =some (.p 0 0):=by kernel_rfl
theorem aei:E8.an[2]? =some (.p 1 0):=by kernel_rfl
theorem aej:E8.an[3]? =some (.p 2 0):=by kernel_rfl
theorem aek:E8.an[4]? =some (.p 3 0):=by kernel_rfl
theorem Ps:(fg 3)[10]? =some (.cA 13 L8):=by kernel_rfl
theorem ags:L8[1]? =some x8:=by kernel_rfl
theorem ael:eP ((fg 3).set 10 (.d (.sl .ro 13 L8)))=some Ct:=by kernel_rfl
theorem ZI:Ct.length=17:=by kernel_rfl
theorem aem:qv Tryz.prog gl mL 300 30 11 [.d (.agg Ct)]=some (.own 8 [sX]):=by kernel_rfl
theorem acY:qv Tryz.prog gl mL 300 30 11 [.d (.agg S9)]=some (.d (.sl .nil 0 [])):=by kernel_rfl
theorem acZ:qv Tryz.prog gl mL 300 30 10 [.d (.sl .ro 8 [.agg [.int .i64 13,.int .i64 0,.int .i64 1,.int .i64 1,.int .i64 13,.int .i64 1,.int .i64 13,.str [116]]]),.full 8 [.agg [.int .i64 13,.int .i64 0,.int .i64 1,.int .i64 1,.int .i64 13,.int .i64 1,.int .i64 13,.str [116]]]]=some (.d (.bool true)):=by kernel_rfl
theorem ac0:qv Tryz.prog gl mL 300 30 10 [.d (.sl .ro 8 [sX]),.full 8 [sX]]=some (.d (.bool true)):=by kernel_rfl
noncomputable def KM:SV:=(qv Tryz.prog gl mL 300 30 23 []).getD .undef
theorem aen:qv Tryz.prog gl mL 300 30 23 []=some KM:=by kernel_rfl
theorem aeo:tp KM=false:=by kernel_rfl
theorem aep:qv Tryz.prog gl mL 300 30 17 [aa (aa KM)]=some (.d (.sl .nil 0 [])):=by kernel_rfl
end Go.Proofs.YtaknajjmldngiaaGreat.Ab
namespace Go.Proofs.YtaknajjmldngiaaGreat.Ab
open Go Go.RowKit
set_option linter.unusedVariables false
set_option maxRecDepth 4000
theorem VH{P:Program}{gl:Nat→Option D}{f:FuncId}{sz:Nat}{L:List D}{r:SV}(h:aF P gl f [.d (.sl .ro sz L)] r):aF P gl f [.full sz L] r:=by
 obtain⟨hE,h⟩:=h
 refine⟨hE,fun w St vs mc hg hl fp=>h w St vs mc hg (by simpa using hl) fun i x v hx hv=>?_⟩
 cases i with
 |succ i=>simp at hx
 |zero=>
  simp at hx;subst hx
  have:=fp 0 _ v rfl hv
  cases this with
  |full _ _ _ ad hd=>exact .d _ _ _ hd
def xV(k:Int):lJ:=⟨k,0,1,13,[116],[],[]⟩
def Cu:fN:=⟨[97],0,[xV 2]⟩
def Cv:fN:=⟨[98],0,[xV 3]⟩
noncomputable def Ix:List D:=((j0 Tryz.prog 83).getD []).drop 9
theorem WS:Ix.length=46:=by kernel_rfl
noncomputable def z6(k:Int):D:=.agg (z1 (xV k) (.str []) (.str []) (.sl .nil 0 []) (.sl .nil 0 []) Ix)
noncomputable def uJ:D:=.agg [.str [97],.int .i64 0,.sl .ro 55 [z6 2]]
noncomputable def uK:D:=.agg [.str [98],.int .i64 0,.sl .ro 55 [z6 3]]
theorem agt:ag true 3 0 (fg 1)=some (.d uJ):=by kernel_rfl
theorem agu:ag true 3 0 (fg 2)=some (.d uK):=by kernel_rfl
theorem agv:ag true 2 0 (fg 0)=some (.d (.agg [.int .i64 1,.int .i64 13])):=by kernel_rfl
theorem OX(k:Int)(h:(gQ (xV k)).length ≤2^40):El [xV k] [z6 k]:=by
 refine⟨rfl,fun i s hs=>?_⟩
 cases i with
 |succ i=>simp at hs
 |zero=>
  simp at hs;subst hs
  exact⟨z6 k,rfl,.mk _ _ _ _ Ix WS (.nil 0 rfl) (.nil 0 rfl),by simp[xV],by simp[xV],h⟩
theorem aeq:zD Cu uJ:=.mk _ [z6 2] .ro (OX 2 (by decide))
theorem aer:zD Cv uK:=.mk _ [z6 3] .ro (OX 3 (by decide))
theorem ac1:xh Cu:=⟨by decide,by decide,by decide⟩
theorem ac2:xh Cv:=⟨by decide,by decide,by decide⟩
theorem ac3:Pq [Cu,Cv] [uJ,uK]:=by
 refine⟨rfl,fun i m hm=>?_⟩
 rcases i with _|_|i
 ·simp at hm;subst hm;exact⟨uJ,rfl,aeq,ac1⟩
 ·simp at hm;subst hm;exact⟨uK,rfl,aer,ac2⟩
 ·simp at hm
theorem Pu:EL [Cu,Cv]=[.agg [.int .i64 13,.int .i64 0,.int .i64 1,.int .i64 1,.int .i64 13,.int .i64 1,.int .i64 13,.str [116]]]:=by kernel_rfl
theorem aes:aF Tryz.prog gl 24 [.full 3 [uJ,uK]] (.own 8 [.agg [.int .i64 13,.int .i64 0,.int .i64 1,.int .i64 1,.int .i64 13,.int .i64 1,.int .i64 13,.str [116]]]):=by
 have:=TX (l:=[Cu,Cv]) (x:=.sl .ro 3 [uJ,uK]) .ro ac3 (by decide) (by rw[Pu];decide)
 rw[Pu]at this
 exact VH this
theorem X7(z:D):bW z [(0,uJ),(1,uK)] 2 0=[uJ,uK]:=rfl
theorem ac4:bY 3 2 [(0,uJ),(1,uK)]=true:=by kernel_rfl
theorem X8:bZ Tryz.prog 55 [(0,.int .i64 13),(2,.int .i64 1),(3,.agg [.int .i64 1,.int .i64 13]),(4,.agg [.int .i64 1,.int .i64 13]),(5,.str [116])]=some (.agg [.int .i64 13,.int .i64 0,.int .i64 1,.int .i64 1,.int .i64 13,.int .i64 1,.int .i64 13,.str [116]]):=by kernel_rfl
theorem X9:bZ Tryz.prog 55 [(0,.int .i64 16),(2,.int .i64 1)]=some sX:=by kernel_rfl
theorem aet(a b c d e f g h:D):bY 8 1 [(0,.agg [a,b,c,d,e,f,g,h])]=true:=rfl
theorem ac5:bY 8 1 [(0,sX)]=true:=rfl
theorem NO:aD (.d (.sl .nil 0 []))=some (.d (.int .i64 0)):=rfl
noncomputable def BT:Array Oper:=Qk ((gb c9).getD 9 .skip)
noncomputable def o9(i:Nat):Oper:=BT.toList.getD i S3
theorem ac6:gb c9=(gb c9).take 8++(gb c9).getD 8 .skip ::.region 9 BT false::(gb c9).drop 10:=by kernel_rfl
theorem wr9:du h9.gh ((gb c9).getD 8 .skip)=[28,29,7]:=by kernel_rfl
theorem ZJ(i:Nat)(s:Slot)(h:v7[i]? =some s):s=.v .undef ∨E8.an[i]? =some s:=by
 by_cases h5:i<5
 ·rcases i with _|_|_|_|_|i
  ·cases h;exact .inl rfl
  ·cases h;exact .inr aeh
  ·cases h;exact .inr aei
  ·cases h;exact .inr aej
  ·cases h;exact .inr aek
  ·omega
 ·left
  unfold v7 at h
  rw[List.getElem?_append_right (by simp;omega)]at h
  exact(List.mem_replicate.1 (List.mem_of_getElem? h)).2
theorem aeu:∃fd,kz Tryz.prog 39 10=some fd∧dm Tryz.prog fd.type=some 1∧fd.offset=10:=by
 cases h:kz Tryz.prog 39 10 with
 |none=>exact absurd (show(kz Tryz.prog 39 10).isSome =true by kernel_rfl) (by rw[h];simp)
 |some fd=>
  have h1:((kz Tryz.prog 39 10).map fun fd=>(dm Tryz.prog fd.type,fd.offset))=some (some 1,10):=by kernel_rfl
  rw[h]at h1
  simp at h1
  exact⟨fd,rfl,h1.1,h1.2⟩
theorem agw:∃fd,kz Tryz.prog 50 6=some fd∧dm Tryz.prog fd.type=some 1∧fd.offset=12:=by
 cases h:kz Tryz.prog 50 6 with
 |none=>exact absurd (show(kz Tryz.prog 50 6).isSome =true by kernel_rfl) (by rw[h];simp)
 |some fd=>
  have h1:((kz Tryz.prog 50 6).map fun fd=>(dm Tryz.prog fd.type,fd.offset))=some (some 1,12):=by kernel_rfl
  rw[h]at h1
  simp at h1
  exact⟨fd,rfl,h1.1,h1.2⟩
theorem aev:qX Tryz.prog gl (aF Tryz.prog gl) h9 ((gb c9).drop 10) (Bz Tryz.prog Tryz.f9 (fun x=>x=.d (.bool true))) ⟨v7.set 7 (.v (.own 8 [sX])),[.cells (fg 0),.cells (fg 1),.cells (fg 2),.cells (((fg 3).set 10 (.cA 13 (L8.set 1 x9))).set 10 (.d (.sl .ro 13 (L8.set 1 x9)))),.cells (fg 4),.cells (fg 5)]⟩:=by
 rw[agr]
 have hp3:ag true 17 0 (((fg 3).set 10 (.cA 13 (L8.set 1 x9))).set 10 (.d (.sl .ro 13 (L8.set 1 x9))))=some (.d (.agg S9)):=by kernel_rfl
 simp only[agt,agu,agv,hp3,wu,ac4,X7,sS,sT,sZ]
 refine ec aes rfl ?_
 simp only[wq,X8,iU,aet,iV,sS,sT,sZ]
 refine ec (uP aT mL 300 30 10 _ _ acZ) rfl ?_
 simp only[wu,X9,iU,ac5,iV,sS,sT,sZ]
 refine And.intro (fun _=>?_) (fun h=>absurd h (by simp))
 refine ec (uP aT mL 300 30 10 _ _ ac0) rfl ?_
 simp only[sS,sT,sZ]
 refine And.intro (fun _=>?_) (fun h=>absurd h (by simp))
 refine ec (uP aT mL 300 30 11 _ _ acY) rfl ?_
 simp only[NO,pb,sS,sT,sZ]
 refine And.intro (fun _=>?_) (fun h=>absurd h (by simp))
 refine ec (uP aT mL 300 30 23 _ _ aen) aeo ?_
 refine ec (uP aT mL 300 30 17 _ _ aep) rfl ?_
 simp only[NO,pb,sS,sT,sZ]
 rfl
theorem agx{w0:World}{S:S0}{a:Act}{w:World}{g:Gh}(jh:Inv gl w0 S ⟨v7.set 7 (.v (.own 8 [sX])),[.cells (fg 0),.cells (fg 1),.cells (fg 2),.cells (fg 3),.cells (fg 4),.cells (fg 5)]⟩ a w g){Q:Exit→Act→World→Prop}
  (hQ:∀a' w' g',Inv gl w0 S ⟨v7.set 7 (.v (.own 8 [sX])),[.cells (fg 0),.cells (fg 1),.cells (fg 2),.cells ((fg 3).set 10 (.cA 13 (L8.set 1 x9))),.cells (fg 4),.cells (fg 5)]⟩ a' w' g'→Q .normal a' w'):(Code.region 9 BT false).wpIn Fence.wide 0 Tryz.prog Q a w:=by
 obtain⟨fd,q0,q1,q2⟩:=aeu
 obtain⟨nS,r0,r1,r2⟩:=agw
 refine UC jh (ops:=BT) (by kernel_rfl) (o0:=o9 0) (o1:=o9 1) (o2:=o9 2) (o3:=o9 3) (o4:=o9 4) (by kernel_rfl) (by kernel_rfl) (by kernel_rfl) (by kernel_rfl) (by kernel_rfl) (by kernel_rfl) (by kernel_rfl) (by kernel_rfl) (by kernel_rfl) (by kernel_rfl)
  (p:=4) (t0:=30) (t1:=31) (t2:=32) (t3:=33) (by kernel_rfl) (by kernel_rfl) (by kernel_rfl) (by kernel_rfl) (by kernel_rfl) (T:=39) (ST:=31) (ET:=50) (FT:=3) (f:=10) (fi:=6) (ix:=1) (v:=.int .i64 (-1)) (by kernel_rfl) (by kernel_rfl) (by kernel_rfl) (by kernel_rfl) (by kernel_rfl)
  q0 q1 (by decide) (by kernel_rfl) (by kernel_rfl) (sz:=13) (by kernel_rfl) r0 r1 (by decide) (by kernel_rfl) rfl rfl (b:=3) (j:=10) (cs:=fg 3) (L:=L8) (x:=x8) (x':=x9) (d:=.int .i64 (-1)) rfl rfl q2 Ps ags (fun w St=>.int _ _ (by decide)) rfl (by rw[r2];rfl) (by rw[r2];decide) rfl rfl rfl rfl ⟨by decide,by decide⟩ hQ
theorem rz:aF Tryz.prog gl 9 [] (.d (.bool true)):=by
 refine⟨bp (fn:=Tryz.f9) (by kernel_rfl) (by kernel_rfl) (by kernel_rfl),fun w St vs mc nP hlen fp=>(callsIn_wide (n:=0)).1 (callsIn_of_wp (fn:=Tryz.f9) (c:=c9) rfl rfl trivial ?_)⟩
 have hI:=C1 (fn:=Tryz.f9) mc nP hlen fp
 refine C0 c9 _ w ?_
 rw[ac6]
 refine Gl _ _ _ _ ?_
 refine Af (r:=none) (n:=0) (ds:=[]) (hh:=h9) aT ((gb c9).take 8) hI (Mm _ _ E8 (fun x e=>x=.normal ∧e=E8) acV ⟨rfl,rfl⟩) ?_
 rintro x e a1 w1 g1 dz ⟨rfl,rfl⟩
 rw[nD dz.defers]
 have cD:=dz.drop (an:=E8.an) (au:=E8.boxes) (sh:=v7) (by rw[acX];rfl) (fun i s hs=>(ZJ i s hs).imp id fun h=>⟨s,h,.inl rfl⟩)
 rw[acW]at cD
 obtain⟨ao,_,c7⟩:=(cD.an 4 (.p 3 0) rfl).jJ
 obtain⟨gB,dQ,_,hB⟩:=cD.PK (b:=3) (j:=10) rfl c7 Ps
 show Code.wpIn Fence.wide 0 Tryz.prog ((gb c9).getD 8 .skip) _ a1 w1
 refine Vo (hh:=h9) aT cD hB dQ (b:=3) (t:=4) (cs:=(fg 3).set 10 (.d (.sl .ro 13 L8))) (ds:=Ct) rfl rfl rfl (by rw[dQ];exact c7) ael (d:=7) (sz:=8) (M:=[sX]) ?_ (by show 7<v7.length;decide) ?_ ?_ ?_
 ·intro x hx k hk
  rw[List.mem_singleton.1 hx]at hk
  simp only[sX,D.cells,List.mem_cons,List.not_mem_nil,or_false]at hk
  rcases hk with rfl|rfl|rfl|rfl|rfl|rfl|rfl|rfl<;>rfl
 ·intro t ht htd s hs
  rw[wr9]at ht
  simp only[List.mem_cons,List.not_mem_nil,or_false]at ht
  rcases ht with rfl|rfl|rfl
  ·cases hs;rfl
  ·cases hs;rfl
  ·exact absurd rfl htd
 ·show aw Tryz.prog gl _ h9 _ _ ⟨(List.replicate 61 (.v .undef)).set 4 (.v (.aA (.agg Ct) 0)),[]⟩
  rw[pk8]
  simp only[GY _ 17 ZI,sS,sT,sZ]
  refine ec (uP aT mL 300 30 11 _ _ aem) rfl ?_
  first|exact⟨rfl,rfl⟩|rfl
 intro a2 w2 g2 jh
 show Code.wpIn Fence.wide 0 Tryz.prog (.region 9 BT false) _ a2 w2
 refine agx jh ?_
 intro a3 w3 g3 vU
 obtain⟨iB,_,Eg⟩:=(vU.an 4 (.p 3 0) rfl).jJ
 have xi:((fg 3).set 10 (.cA 13 (L8.set 1 x9)))[10]? =some (.cA 13 (L8.set 1 x9)):=by kernel_rfl
 obtain⟨g4,_,_,uq⟩:=vU.PK (b:=3) (j:=10) rfl Eg xi
 show oO Fence.wide 0 Tryz.prog ((gb c9).drop 10) _ a3 w3
 have hwd:=nD uq.defers
 rw[←hwd]
 refine Af (r:=none) (n:=0) (ds:=[]) (hh:=h9) aT ((gb c9).drop 10) uq aev ?_
 intro x e' a' W' g' bJ hx
 rw[nD bJ.defers]
 have fin:∀x:Ex,(x=.normal ∨x=.ret)→finish Tryz.prog Tryz.f9 e' (fun x=>x=.d (.bool true))→bodyPost Tryz.prog Tryz.f9 (fun e w'=>∃v,e=.returned v∧Below w.heap.size w w'∧∃cK ow,(∀b o,St b o→cK b o)∧(∀b o,cK b o→St b o∨(w.heap.size≤b∧b<w'.heap.size))∧rO w.heap.size w' cK ow (.d (.bool true)) v) x.to a' W':=by
  intro x hx tN
  obtain⟨r',v,jg,bz,bt⟩:=Gi bJ tN
  subst jg
  have h:=(⟨bJ.defers,v,bz,v,rfl,bJ.below,g'.St,_,bJ.fT,fun b o h=>(bJ.cP b o h).1.imp (fun h=>h) fun h1=>⟨h1,(bJ.cP b o h).2.2⟩,bt⟩:
   a'.defers=[]∧∃v,(results Tryz.f9 a'.tmps).run Tryz.prog W'=.ok v W'∧(∃v',(Ending.returned v)=.returned v'∧Below w.heap.size w W'∧∃cK ow,(∀b o,St b o→cK b o)∧(∀b o,cK b o→St b o∨(w.heap.size≤b∧b<W'.heap.size))∧rO w.heap.size W' cK ow (.d (.bool true)) v'))
  rcases hx with rfl|rfl<;>exact h
 cases x with
 |normal=>exact fin .normal (.inl rfl) hx
 |ret=>exact fin .ret (.inr rfl) hx
 |exit i=>exact hx.elim
end Go.Proofs.YtaknajjmldngiaaGreat.Ab
namespace Go.Proofs.YtaknajjmldngiaaGreat.Ab
open Go
set_option linter.unusedVariables false
set_option maxRecDepth 4000
def xW(p:aq):aq:={p with ru:=[],qY:=.sl .nil 0 [],Km:=.nil 0 rfl,ruM:=Nat.zero_le _,cs:=[],rb:=.sl .nil 0 [],Kp:=.nil 0 rfl,csM:=Nat.zero_le _,si:=[],re:=.sl .nil 0 [],Kq:=.nil 0 rfl,siM:=Nat.zero_le _,mX:=[],qA:=.sl .nil 0 [],Jd:=.nil 0 rfl,ae3:=Nat.zero_le _}
theorem ZK(p:aq):setAt (setAt (setAt (setAt (bG p) 9 [.d (.sl .nil 0 [])]) 13 [.d (.sl .nil 0 [])]) 14 [.d (.sl .nil 0 [])]) 16 [.d (.sl .nil 0 [])]=bG (xW p):=rfl
theorem ac7(p:aq):lI (xW p)=lI p:=by
 funext x y
 unfold lI
 rfl
theorem ZL(p:aq):lT (xW p)=lT p:=by
 unfold lT jM
 rw[ac7]
 rfl
theorem M4(a b c d e f g h i j k l m n o q r:SV)(p:aq):setAt [a,b,c,d,e,f,g,h,i,j,k,l,m,n,o,q,r] 0 (bG p)=bG p:=CV rfl
theorem M5(p:aq):(bG p).length =17:=rfl
theorem GJ:∀(l cs:List SV)(o:Nat),(setAt cs o l).length =cs.length
 |[],cs,o=>rfl
 |v::l,cs,o=>by rw[setAt,GJ l];simp
theorem ZM{T:Nat→Nat→Bool}{c:Nat→Nat→D}{n:Nat}{x:D}(h:x∈jC T c n):∃i k,x=c i k:=by
 unfold jC dc at h
 obtain⟨i,_,h⟩:=List.mem_flatMap.1 h
 unfold ei at h
 obtain⟨k,_,h⟩:=List.mem_filterMap.1 h
 split at h
 ·cases h;exact⟨i,k,rfl⟩
 ·cases h
theorem va{T:Nat→Nat→Bool}{c:Nat→Nat→D}{n:Nat}(h:∀i k,∃a b d s,c i k=bH a b d s):pC (jC T c n):=fun x hx=>by
 obtain⟨i,k,rfl⟩:=ZM hx
 exact h i k
theorem Dq{L M:List D}(h:pC L)(k:pC M):pC (L++M):=fun x hx=>(List.mem_append.1 hx).elim (h x) (k x)
theorem G8(p:aq):pC (lT p):=Dq (Dq (va fun i k=>⟨_,_,_,_,rfl⟩) (Dq (va fun i k=>⟨_,_,_,_,rfl⟩) (va fun i k=>⟨_,_,_,_,rfl⟩))) (va fun i k=>⟨_,_,_,_,rfl⟩)
theorem WT(p:aq):aF Tryz.prog gl 7 [.d (dv p)] (.d (.bool true)):=by
 refine cG aT (bp (fn:=Tryz.f7) (by kernel_rfl) (by kernel_rfl) (by kernel_rfl)) (h:=h7) ?_;rw[adZ];intro aW
 obtain⟨b,hb,hB⟩:=Am p
 simp only[sS,sT,sZ,sP]
 refine aO hB ?_
 simp only[jH,sS,sT,sZ]
 refine And.intro (fun h=>?_) (fun h=>?_)
 ·refine aO rz ?_
  simp only[sS,sT,sZ]
 ·have di:=hb (by simpa using h)
  have fk:xO p:=⟨Nat.le_trans di.1.tr (by decide),Nat.le_trans di.1.rt (by decide),Nat.le_trans di.1.ra (by decide),Nat.le_trans di.1.fi (by decide)⟩
  have agy:xO (xW p):=⟨fk.tr,fk.rt,fk.ra,fk.fi⟩
  simp only[sS,sT,sZ,sP,Gr,oZ,M4,ZK,GJ,M5]
  refine⟨by decide,by decide,by decide,?_⟩
  refine ec (Ac p fk) (fb _ _) ?_
  simp only[sS,sT,sZ,sP,ev]
  refine ec (Ac (xW p) agy) (fb _ _) ?_
  simp only[sS,sT,sZ,sP,ev]
  obtain⟨c,hc,hS⟩:=Md (ed 8 (lT p)) (ed 8 (lT (xW p))) (G8 p) (G8 (xW p)) (by obtain⟨a1,a2,a3,a4⟩:=wj fk;simp only[lT,List.length_append,maxLen];omega)
  refine aO hS ?_
  rw[hc (ZL p).symm]
  simp only[sS,sT,sZ]
  refine And.intro (fun _=>?_) (fun h=>absurd h (by simp))
  refine aO rz ?_
  simp only[sS,sT,sZ]
theorem VI(p:aq):aF Tryz.prog gl 7 [.d (dv p)] (.d (.bool true)):=WT p
end Go.Proofs.YtaknajjmldngiaaGreat.Ab
namespace Go.Proofs.YtaknajjmldngiaaGreat.Ab
open Go
set_option maxRecDepth 4000
def qH(w v:Nat→BitVec 64):Bool:=decide (((kF (fun k=>w k&&& v k) 256).length :Int)>0)
def nj(p:aq)(c:Int)(n:Nat):Bool:=fQ (gz (kQ p.bo.length n)) p.co c
def rn(p:aq)(a b:aN):Bool:=decide (a.kind=b.kind)&&decide (a.cls=b.cls)&&(a.name==b.name)&& !decide (a.res=b.res)&&qH a.sw b.sw&&qH a.tw b.tw&&pB (2^p.bo.length) (nj p a.cond) (nj p b.cond)
def sY(a b:bU):Bool:=decide (a.cls=b.cls)&& !decide (a.res=b.res)&&qH a.rw b.rw&&qH a.tw b.tw
def s5(a b:bA):Bool:=decide (a.cls=b.cls)&& !EJ a.rg b.rg&&qH a.sw b.sw&&qH a.tw b.tw
theorem As(c a b:Int)(s:List UInt8):aM [(0,.v (.d (.int .i64 c))),(1,.v (.d (.int .i64 a))),(2,.v (.d (.int .i64 b))),(5,.v (.d (.str s)))]=some [(0,.int .i64 c),(1,.int .i64 a),(2,.int .i64 b),(5,.str s)]:=rfl
theorem At(a b:Int)(s:List UInt8):bZ Tryz.prog 55 [(0,.int .i64 16),(1,.int .i64 a),(2,.int .i64 b),(5,.str s)]=some (bH 16 a b s):=by kernel_rfl
theorem y5{T:Nat→Nat→Bool}{c:Nat→Nat→D}{i j:Nat}(h:i<i+1+j)(hT:T i (i+1+j)=false):ei T c i (i+1+(j+1))=ei T c i (i+1+j):=by
 rw[←Nat.add_assoc,uU T c h,hT];simp
theorem AP{T:Nat→Nat→Bool}{c:Nat→Nat→D}{i j:Nat}(h:i<i+1+j)(hT:T i (i+1+j)=true):ei T c i (i+1+(j+1))=ei T c i (i+1+j)++[c i (i+1+j)]:=by
 rw[←Nat.add_assoc,uU T c h,hT];simp
theorem Dr(x:D):elems 8 (.full 8 [x])=some [x]:=by simp[elems]
theorem Lu(p:aq)(hm:p.fi.length≤1000):aF Tryz.prog gl 16 [.d (dv p)] (aJ 8 (oD p)):=by
 refine cG aT (bp (fn:=Tryz.f16) (by kernel_rfl) (by kernel_rfl) (by kernel_rfl)) (h:=Fm) ?_;rw[abg];intro aW
 simp only[sS,sT,sZ,sP]
 let T:Nat→Nat→Bool:=fun i k=>pU (p.fi.getD i nW) (p.fi.getD k nW)
 let c:Nat→Nat→D:=fun i k=>bH 16 i k (p.fi.getD i nW).pat
 have hM:p.fi.length≤maxLen:=by simp only[maxLen];omega
 refine de (fun i=>[aJ 8 (dc T c p.fi.length i),.d (.int .i64 ((i:Nat):Int))]) (fun i=>[bG p]) p.fi.length (fun i hi I hI=>?_) (fun I=>?_)
 ·simp only[sS,sT,sZ,sP]
  refine And.intro (fun _=>?_) (fun h=>absurd h (by simp;omega))
  refine bL (ba hi hM) ?_
  obtain⟨a,ha⟩:=get_some hi
  have hle:=rD T c p.fi.length i
  have xf:i*p.fi.length≤1000*1000:=Nat.mul_le_mul (by omega) hm
  have b4:aJ 8 (dc T c p.fi.length i)=aJ 8 (dc T c p.fi.length i++ei T c i (i+1)):=by rw[rq,List.append_nil]
  rw[b4]
  refine de (fun j=>[aJ 8 (dc T c p.fi.length i++ei T c i (i+1+j)),.d (.int .i64 (i:Int)),.d (.int .i64 ((i+1+j:Nat):Int))]) (fun j=>[bG p]) (p.fi.length-(i+1)) (fun j hj I2 cD=>?_) (fun I2=>?_)
  ·have hk:i+1+j<p.fi.length:=by omega
   simp only[sS,sT,sZ,sP]
   refine And.intro (fun _=>?_) (fun h=>absurd (of_decide_eq_false h) (by omega))
   obtain⟨b,hb⟩:=get_some hk
   have ma:=tf T c i (i+1+j)
   have hT:T i (i+1+j)=pU a b:=by simp only[T,getD_some ha,getD_some hb]
   have hc:c i (i+1+j)=bH 16 i (i+1+j:Nat) a.pat:=by simp only[c,getD_some ha]
   have no:pU a b=false→I2 [aJ 8 (dc T c p.fi.length i++ei T c i (i+1+j)),.d (.int .i64 (i:Int)),.d (.int .i64 ((i+1+j+1:Nat):Int))] [bG p]:=fun h=>by
    have h2:=cD
    rw[y5 (by omega) (hT.trans h)]at h2
    exact h2
   have ya:pU a b=true→I2 [aJ 8 (dc T c p.fi.length i++(ei T c i (i+1+j)++[bH 16 i (i+1+j:Nat) a.pat])),.d (.int .i64 (i:Int)),.d (.int .i64 ((i+1+j+1:Nat):Int))] [bG p]:=fun h=>by
    have h2:=cD
    rw[AP (by omega) (hT.trans h),hc]at h2
    exact h2
   clear hI cD hT hc
   have gU:=ba hk hM
   simp only[p.EE ha,p.EE hb,sS,sT,sZ,sP,nn,kD,nq,nE,seq,zh,yX,gU,As,At,ve,vu,vf]
   clear ha hb
   repeat' first|with_reducible refine And.intro (fun h=>?_) (fun h=>?_)
   all_goals first
    |exact no (by unfold pU;simp_all)
    |(have hy:pU a b=true:=by unfold pU;simp_all
      have ya:=ya hy
      clear no
      refine eN (Dr _) (by simp only[List.length_append,List.length_singleton];omega) ?_
      simp only[List.append_assoc]at ya ⊢;exact ya)
  ·have e:i+1+(p.fi.length-(i+1))=p.fi.length:=by omega
   simp only[sS,sT,sZ,sP,e]
   refine And.intro (fun h=>absurd h (by simp)) (fun _=>?_)
   refine bL (ba hi hM) ?_
   rw[←n7]
   exact hI
 ·simp only[sS,sT,sZ,sP]
  refine And.intro (fun h=>absurd h (by simp)) (fun _=>?_)
  simp only[gx,true_and]
  rfl
def mA(p:aq):List D:=jC (fun i k=>sY (p.rt.getD i oT) (p.rt.getD k oT)) (fun i k=>bH 16 i k ot) p.rt.length
def Be(p:aq):List D:=jC (fun i k=>s5 (p.ra.getD i oU) (p.ra.getD k oU)) (fun i k=>bH 16 i k oa) p.ra.length
def Bf(p:aq):List D:=jC (fun i k=>rn p (p.tr.getD i jZ) (p.tr.getD k jZ)) (fun i k=>bH 16 i k (p.tr.getD i jZ).name) p.tr.length
theorem Lv(p:aq)(zN:p.rt.length≤1000)(KI:p.ra.length≤1000):aF Tryz.prog gl 14 [.d (dv p)] (aJ 8 (mA p++Be p)):=by
 refine cG aT (bp (fn:=Tryz.f14) (by kernel_rfl) (by kernel_rfl) (by kernel_rfl)) (h:=Fk) ?_;rw[abe];intro aW
 simp only[sS,sT,sZ,sP]
 have hR:(mA p).length ≤1000000:=rL _ _ _ zN
 let T:Nat→Nat→Bool:=fun i k=>sY (p.rt.getD i oT) (p.rt.getD k oT)
 let c:Nat→Nat→D:=fun i k=>bH 16 i k ot
 have hm:=zN
 have hM:p.rt.length≤maxLen:=by simp only[maxLen];omega
 refine de (fun i=>[aJ 8 (dc T c p.rt.length i),.d (.int .i64 ((i:Nat):Int))]) (fun i=>[bG p]) p.rt.length (fun i hi I hI=>?_) (fun I=>?_)
 ·simp only[sS,sT,sZ,sP]
  refine And.intro (fun _=>?_) (fun h=>absurd h (by simp;omega))
  refine bL (ba hi hM) ?_
  obtain⟨a,ha⟩:=get_some hi
  have hle:=rD T c p.rt.length i
  have xf:i*p.rt.length≤1000*1000:=Nat.mul_le_mul (by omega) hm
  have b4:aJ 8 (dc T c p.rt.length i)=aJ 8 (dc T c p.rt.length i++ei T c i (i+1)):=by rw[rq,List.append_nil]
  rw[b4]
  refine de (fun j=>[aJ 8 (dc T c p.rt.length i++ei T c i (i+1+j)),.d (.int .i64 (i:Int)),.d (.int .i64 ((i+1+j:Nat):Int))]) (fun j=>[bG p]) (p.rt.length-(i+1)) (fun j hj I2 cD=>?_) (fun I2=>?_)
  ·have hk:i+1+j<p.rt.length:=by omega
   simp only[sS,sT,sZ,sP]
   refine And.intro (fun _=>?_) (fun h=>absurd (of_decide_eq_false h) (by omega))
   obtain⟨b,hb⟩:=get_some hk
   have ma:=tf T c i (i+1+j)
   have hT:T i (i+1+j)=sY a b:=by simp only[T,getD_some ha,getD_some hb]
   have hc:c i (i+1+j)=bH 16 i (i+1+j:Nat) ot:=by simp only[c,getD_some ha]
   have no:sY a b=false→I2 [aJ 8 (dc T c p.rt.length i++ei T c i (i+1+j)),.d (.int .i64 (i:Int)),.d (.int .i64 ((i+1+j+1:Nat):Int))] [bG p]:=fun h=>by
    have h2:=cD
    rw[y5 (by omega) (hT.trans h)]at h2
    exact h2
   have ya:sY a b=true→I2 [aJ 8 (dc T c p.rt.length i++(ei T c i (i+1+j)++[bH 16 i (i+1+j:Nat) ot])),.d (.int .i64 (i:Int)),.d (.int .i64 ((i+1+j+1:Nat):Int))] [bG p]:=fun h=>by
    have h2:=cD
    rw[AP (by omega) (hT.trans h),hc]at h2
    exact h2
   clear hI cD hT hc
   have gU:=ba hk hM
   simp only[p.EC ha,p.EC hb,sS,sT,sZ,sP,nn,kD,nq,nE,seq,zh,yX,gU,As,At,ve,vu,vf]
   clear ha hb
   repeat' first|with_reducible refine And.intro (fun h=>?_) (fun h=>?_)|(with_reducible refine aO (FX _ _) ?_;simp only[sS,sT,sZ,sP];rw[←qH])
   all_goals first
    |exact no (by unfold sY;simp_all)
    |(have hy:sY a b=true:=by unfold sY;simp_all
      have ya:=ya hy
      clear no
      refine eN (Dr _) (by simp only[List.length_append,List.length_singleton];omega) ?_
      simp only[List.append_assoc]at ya ⊢;exact ya)
  ·have e:i+1+(p.rt.length-(i+1))=p.rt.length:=by omega
   simp only[sS,sT,sZ,sP,e]
   refine And.intro (fun h=>absurd h (by simp)) (fun _=>?_)
   refine bL (ba hi hM) ?_
   rw[←n7]
   exact hI
 ·simp only[sS,sT,sZ,sP]
  refine And.intro (fun h=>absurd h (by simp)) (fun _=>?_)
  have hT:dc T c p.rt.length p.rt.length=mA p:=rfl
  rw[hT]
  clear hT hM hm
  clear T c
  let T:Nat→Nat→Bool:=fun i k=>s5 (p.ra.getD i oU) (p.ra.getD k oU)
  let c:Nat→Nat→D:=fun i k=>bH 16 i k oa
  have hm:=KI
  have oz:aJ 8 (mA p)=aJ 8 (mA p++dc T c p.ra.length 0):=by rw[show dc T c p.ra.length 0=[] from rfl,List.append_nil]
  rw[oz]
  have hM:p.ra.length≤maxLen:=by simp only[maxLen];omega
  refine de (fun i=>[aJ 8 (mA p++dc T c p.ra.length i),.d (.int .i64 ((i:Nat):Int))]) (fun i=>[bG p]) p.ra.length (fun i hi I hI=>?_) (fun I=>?_)
  ·simp only[sS,sT,sZ,sP]
   refine And.intro (fun _=>?_) (fun h=>absurd h (by simp;omega))
   refine bL (ba hi hM) ?_
   obtain⟨a,ha⟩:=get_some hi
   have hle:=rD T c p.ra.length i
   have xf:i*p.ra.length≤1000*1000:=Nat.mul_le_mul (by omega) hm
   have b4:aJ 8 (mA p++dc T c p.ra.length i)=aJ 8 (mA p++dc T c p.ra.length i++ei T c i (i+1)):=by rw[rq,List.append_nil]
   rw[b4]
   refine de (fun j=>[aJ 8 (mA p++dc T c p.ra.length i++ei T c i (i+1+j)),.d (.int .i64 (i:Int)),.d (.int .i64 ((i+1+j:Nat):Int))]) (fun j=>[bG p]) (p.ra.length-(i+1)) (fun j hj I2 cD=>?_) (fun I2=>?_)
   ·have hk:i+1+j<p.ra.length:=by omega
    simp only[sS,sT,sZ,sP]
    refine And.intro (fun _=>?_) (fun h=>absurd (of_decide_eq_false h) (by omega))
    obtain⟨b,hb⟩:=get_some hk
    have ma:=tf T c i (i+1+j)
    have hT:T i (i+1+j)=s5 a b:=by simp only[T,getD_some ha,getD_some hb]
    have hc:c i (i+1+j)=bH 16 i (i+1+j:Nat) oa:=by simp only[c,getD_some ha]
    have no:s5 a b=false→I2 [aJ 8 (mA p++dc T c p.ra.length i++ei T c i (i+1+j)),.d (.int .i64 (i:Int)),.d (.int .i64 ((i+1+j+1:Nat):Int))] [bG p]:=fun h=>by
     have h2:=cD
     rw[y5 (by omega) (hT.trans h)]at h2
     exact h2
    have ya:s5 a b=true→I2 [aJ 8 (mA p++dc T c p.ra.length i++(ei T c i (i+1+j)++[bH 16 i (i+1+j:Nat) oa])),.d (.int .i64 (i:Int)),.d (.int .i64 ((i+1+j+1:Nat):Int))] [bG p]:=fun h=>by
     have h2:=cD
     rw[AP (by omega) (hT.trans h),hc]at h2
     exact h2
    clear hI cD hT hc
    have gU:=ba hk hM
    simp only[p.ED ha,p.ED hb,sS,sT,sZ,sP,nn,kD,nq,nE,seq,zh,yX,gU,As,At,ve,vu,vf]
    clear ha hb
    repeat' first|with_reducible refine And.intro (fun h=>?_) (fun h=>?_)|(with_reducible refine aO (FX _ _) ?_;simp only[sS,sT,sZ,sP];rw[←qH])
    all_goals first
     |exact no (by unfold s5;simp_all)
     |(have hy:s5 a b=true:=by unfold s5;simp_all
       have ya:=ya hy
       clear no
       refine eN (Dr _) (by simp only[List.length_append,List.length_singleton];omega) ?_
       simp only[List.append_assoc]at ya ⊢;exact ya)
   ·have e:i+1+(p.ra.length-(i+1))=p.ra.length:=by omega
    simp only[sS,sT,sZ,sP,e]
    refine And.intro (fun h=>absurd h (by simp)) (fun _=>?_)
    refine bL (ba hi hM) ?_
    rw[List.append_assoc,←n7]
    exact hI
  ·simp only[sS,sT,sZ,sP]
   refine And.intro (fun h=>absurd h (by simp)) (fun _=>?_)
   simp only[gx,true_and]
   rfl
def pX(p:aq)(n:Nat):List D:=(p.tr.take n).map fun t=>cU 1 (bl (2^p.bo.length) (nj p t.cond))
theorem ZN(p:aq){n:Nat}(h:n≤p.tr.length):(pX p n).length =n:=by simp[pX];omega
theorem Ya(p:aq){n:Nat}{t:aN}(h:p.tr[n]? =some t):pX p (n+1)=pX p n++[cU 1 (bl (2^p.bo.length) (nj p t.cond))]:=by
 simp only[pX,List.take_add_one,h,List.map_append,Option.toList_some,List.map_cons,List.map_nil]
theorem Oi(p:aq){i:Nat}{t:aN}(h:p.tr[i]? =some t):(pX p p.tr.length)[i]? =some (cU 1 (bl (2^p.bo.length) (nj p t.cond))):=by
 simp only[pX,List.take_length,List.getElem?_map,h,Option.map_some]
theorem ZO(x:D):aM [(0,.v (.d x))]=some [(0,x)]:=rfl
theorem aew(L:List D):bY 1 1 [(0,cU 1 L)]=true:=by cases L<;>rfl
theorem ZP(z x:D):bW z [(0,x)] 1 0=[x]:=rfl
theorem Yb(x:D):elems 1 (.full 1 [x])=some [x]:=by simp[elems]
theorem agz(L:List D):az false 1 (.aA (cU 1 L) 0)=some (.d (cU 1 L)):=by cases L<;>rfl
theorem KR(p:aq)(hb:p.bo.length≤16)(hm:p.tr.length≤1000):aF Tryz.prog gl 12 [.d (dv p)] (aJ 8 (Bf p)):=by
 refine cG aT (bp (fn:=Tryz.f12) (by kernel_rfl) (by kernel_rfl) (by kernel_rfl)) (h:=Fi) ?_;rw[abc];intro aW
 have hN:2^p.bo.length≤65536:=A0 hb
 have Cw:2^p.bo.length≤maxLen:=by simp only[maxLen];omega
 simp only[sS,sT,sZ,sP]
 refine de (fun i=>[.d (.sl .nil 0 []),aJ 1 (pX p i),.d (.int .i64 ((i:Nat):Int))]) (fun i=>[bG p]) p.tr.length (fun i hi I hI=>?_) (fun I=>?_)
 ·simp only[sS,sT,sZ,sP]
  refine And.intro (fun _=>?_) (fun h=>absurd h (by simp;omega))
  obtain⟨a,ha⟩:=get_some hi
  simp only[p.sg ha,sS,sT,sZ,sP]
  refine ec (UL p a.cond hb) (fb _ _) ?_
  have ht:(fun n=>fQ (gz (kQ p.bo.length n)) p.co a.cond)=nj p a.cond:=rfl
  simp only[ht,ev,sS,sT,sZ,ZO,aew,ZP]
  have:=ZN p (Nat.le_of_lt hi)
  refine eN (Yb _) (by simp only[List.length_singleton];omega) ?_
  rw[←Ya p ha]
  refine bL (ba hi (by simp only[maxLen];omega)) ?_
  exact hI
 ·simp only[sS,sT,sZ,sP]
  refine And.intro (fun h=>absurd h (by simp)) (fun _=>?_)
  let T:Nat→Nat→Bool:=fun i k=>rn p (p.tr.getD i jZ) (p.tr.getD k jZ)
  let c:Nat→Nat→D:=fun i k=>bH 16 i k (p.tr.getD i jZ).name
  have oz:(SV.d (.sl .nil 0 []):SV)=aJ 8 (dc T c p.tr.length 0):=rfl
  rw[oz]
  have hM:p.tr.length≤maxLen:=by simp only[maxLen];omega
  refine de (fun i=>[aJ 8 (dc T c p.tr.length i),aJ 1 (pX p p.tr.length),.d (.int .i64 ((i:Nat):Int))]) (fun i=>[bG p]) p.tr.length (fun i hi I hI=>?_) (fun I=>?_)
  ·simp only[sS,sT,sZ,sP]
   refine And.intro (fun _=>?_) (fun h=>absurd h (by simp;omega))
   refine bL (ba hi hM) ?_
   obtain⟨a,ha⟩:=get_some hi
   have hle:=rD T c p.tr.length i
   have xf:i*p.tr.length≤1000*1000:=Nat.mul_le_mul (by omega) hm
   have b4:aJ 8 (dc T c p.tr.length i)=aJ 8 (dc T c p.tr.length i++ei T c i (i+1)):=by rw[rq,List.append_nil]
   rw[b4]
   refine de (fun j=>[aJ 8 (dc T c p.tr.length i++ei T c i (i+1+j)),aJ 1 (pX p p.tr.length),.d (.int .i64 (i:Int)),.d (.int .i64 ((i+1+j:Nat):Int))]) (fun j=>[bG p]) (p.tr.length-(i+1)) (fun j hj I2 cD=>?_) (fun I2=>?_)
   ·have hk:i+1+j<p.tr.length:=by omega
    simp only[sS,sT,sZ,sP]
    refine And.intro (fun _=>?_) (fun h=>absurd (of_decide_eq_false h) (by omega))
    obtain⟨b,hb⟩:=get_some hk
    have ma:=tf T c i (i+1+j)
    have hT:T i (i+1+j)=rn p a b:=by simp only[T,getD_some ha,getD_some hb]
    have hc:c i (i+1+j)=bH 16 i (i+1+j:Nat) a.name:=by simp only[c,getD_some ha]
    have no:rn p a b=false→I2 [aJ 8 (dc T c p.tr.length i++ei T c i (i+1+j)),aJ 1 (pX p p.tr.length),.d (.int .i64 (i:Int)),.d (.int .i64 ((i+1+j+1:Nat):Int))] [bG p]:=fun h=>by
     have h2:=cD
     rw[y5 (by omega) (hT.trans h)]at h2
     exact h2
    have ya:rn p a b=true→I2 [aJ 8 (dc T c p.tr.length i++(ei T c i (i+1+j)++[bH 16 i (i+1+j:Nat) a.name])),aJ 1 (pX p p.tr.length),.d (.int .i64 (i:Int)),.d (.int .i64 ((i+1+j+1:Nat):Int))] [bG p]:=fun h=>by
     have h2:=cD
     rw[AP (by omega) (hT.trans h),hc]at h2
     exact h2
    clear hI cD hT hc
    have gU:=ba hk hM
    have hwa:=(ed 1 _).at (Oi p ha)
    have hwb:=(ed 1 _).at (Oi p hb)
    simp only[p.sg ha,p.sg hb,sS,sT,sZ,sP,nn,kD,nq,nE,seq,zh,yX,gU,As,At,ve,vu,vf,ev,hwa,hwb,agz]
    clear ha hb
    repeat' first|with_reducible refine And.intro (fun h=>?_) (fun h=>?_)|(with_reducible refine aO (FX _ _) ?_;simp only[sS,sT,sZ,sP];rw[←qH])|(with_reducible refine aO (Vy _ _ _ (ed 1 _) (ed 1 _) Cw) ?_;simp only[sS,sT,sZ,sP])
    all_goals first
     |exact no (by unfold rn;simp_all)
     |(have hy:rn p a b=true:=by unfold rn;simp_all
       have ya:=ya hy
       clear no
       refine eN (Dr _) (by simp only[List.length_append,List.length_singleton];omega) ?_
       simp only[List.append_assoc]at ya ⊢;exact ya)
   ·have e:i+1+(p.tr.length-(i+1))=p.tr.length:=by omega
    simp only[sS,sT,sZ,sP,e]
    refine And.intro (fun h=>absurd h (by simp)) (fun _=>?_)
    refine bL (ba hi hM) ?_
    rw[←n7]
    exact hI
  ·simp only[sS,sT,sZ,sP]
   refine And.intro (fun h=>absurd h (by simp)) (fun _=>?_)
   simp only[gx,true_and]
   rfl
def H3(p:aq):List D:=Bf p++(mA p++Be p)++oD p
theorem TY(p:aq)(hb:p.bo.length≤16)(hm:xO p):aF Tryz.prog gl 18 [.d (dv p)] (aJ 8 (H3 p)):=by
 refine cG aT (bp (fn:=Tryz.f18) (by kernel_rfl) (by kernel_rfl) (by kernel_rfl)) (h:=Rw) ?_;rw[abi];intro aW
 simp only[sS,sT,sZ,sP]
 have a1:(Bf p).length ≤1000000:=rL _ _ _ hm.tr
 have a2:(mA p).length ≤1000000:=rL _ _ _ hm.rt
 have a3:(Be p).length ≤1000000:=rL _ _ _ hm.ra
 have a4:=(wj hm).2.2.2
 refine ec (KR p hb hm.tr) (fb _ _) ?_
 refine ec (Lv p hm.rt hm.ra) (fb _ _) ?_
 simp only[sS,sT,sZ,sP,ev]
 refine eN (Aq _ _) (by rw[List.length_append];omega) ?_
 refine ec (Lu p hm.fi) (fb _ _) ?_
 simp only[sS,sT,sZ,sP,ev]
 refine eN (Aq _ _) (by simp only[List.length_append];omega) ?_
 simp only[gx,true_and]
 rfl
end Go.Proofs.YtaknajjmldngiaaGreat.Ab
namespace Go.Proofs.YtaknajjmldngiaaGreat.Ab
open Go
theorem M6(w:Nat→BitVec 64):∀i,kF w i=[]↔∀n,n<i→ik w n=false
 |0=>by simp[kF]
 |i+1=>by
  rw[kF,List.append_eq_nil_iff,M6 w i]
  constructor
  ·rintro⟨h1,h2⟩ n hn
   rcases Nat.lt_or_ge n i with h|h
   ·exact h1 n h
   ·have:n=i:=by omega
    subst this
    cases hh:ik w n with
    |false=>rfl
    |true=>rw[hh]at h2;simp at h2
  ·intro h
   refine⟨fun n hn=>h n (by omega),?_⟩
   rw[h i (by omega)];simp
theorem WU{x:BitVec 64}(h:∀k,k<64→x.getLsbD k=false):x=0:=by
 apply BitVec.eq_of_getLsbD_eq
 intro i hi
 rw[h i hi];simp
theorem G9(w:Nat→BitVec 64):g9 w zW=true↔∀n,n<256→ik w n=false:=by
 constructor
 ·intro h n hn
  simp only[g9,zW,Bool.and_eq_true,beq_iff_eq]at h
  obtain⟨h0,h1,h2,h3,_⟩:=h
  unfold ik
  have hd:n / 64<4:=by omega
  have:w (n / 64)=0:=by
   match n / 64,hd with
   |0,_=>exact h0
   |1,_=>exact h1
   |2,_=>exact h2
   |3,_=>exact h3
  rw[this];simp
 ·intro h
  have key:∀j,j<4→w j=0:=fun j hj=>WU fun k hk=>by
   have:=h (64*j+k) (by omega)
   unfold ik at this
   rwa[show(64*j+k) / 64=j by omega,show(64*j+k) % 64=k by omega]at this
  simp only[g9,zW,key 0 (by decide),key 1 (by decide),key 2 (by decide),key 3 (by decide),beq_self_eq_true,Bool.and_self]
theorem vn(w v:Nat→BitVec 64):qH w v= !g9 (fun k=>w k&&& v k) zW:=by
 have h1:=M6 (fun k=>w k&&& v k) 256
 have h2:=G9 (fun k=>w k&&& v k)
 unfold qH
 generalize g9 (fun k=>w k&&& v k) zW=b at h2 ⊢
 generalize kF (fun k=>w k&&& v k) 256=l at h1 ⊢
 cases l with
 |nil=>rw[h2.2 (h1.1 rfl)];rfl
 |cons x l=>
  cases b with
  |true=>exact absurd (h1.2 (h2.1 rfl)) (by simp)
  |false=>simp
theorem Oj{p:aq}(KD:EI p){n:Nat}(hn:n<2^p.bo.length)(c:Int):fQ (gz (kQ p.bo.length n)) p.co c=fQ (e7 n) p.co c:=by
 have key:∀i,i<p.co.length→gz (kQ p.bo.length n) ((p.co.map gF.e).getD i (.mk 0 0 0 0 [] zW []))=e7 n ((p.co.map gF.e).getD i (.mk 0 0 0 0 [] zW [])):=by
  intro i hi
  have e:(p.co.map gF.e).getD i (.mk 0 0 0 0 [] zW [])=p.co[i].e :=by simp[List.getD_eq_getElem?_getD,hi]
  rw[e]
  have h0:=KD i _ (List.getElem?_eq_getElem hi)
  unfold zf at h0
  split at h0
  ·cases h0
  ·exact Oa hn _ _ (Nat.le_refl _) h0
 unfold fQ
 split
 ·rfl
 split
 ·cases h:decide (c≤(p.co.length:Int))with
  |false=>rfl
  |true=>
   rename_i h1 h2
   have h2:=of_decide_eq_true h2
   have h:=of_decide_eq_true h
   rw[key _ (by omega)]
 ·cases h:decide (c≥ -(p.co.length:Int))with
  |false=>rfl
  |true=>
   rename_i h1 h2
   have h2:¬c>0:=by simpa using h2
   have h1:¬c=0:=by simpa using h1
   have h:=of_decide_eq_true h
   rw[key _ (by omega)]
theorem WV{n:Nat}{F G F' G':Nat→Bool}(h:∀i,i<n→F i=F' i)(k:∀i,i<n→G i=G' i):pB n F G=pB n F' G':=by
 unfold pB
 rw[Bool.eq_iff_iff,List.any_eq_true,List.any_eq_true]
 constructor
 ·rintro⟨i,hi,hh⟩
  have:=List.mem_range.1 hi
  exact⟨i,hi,by rw[←h i this,←k i this];exact hh⟩
 ·rintro⟨i,hi,hh⟩
  have:=List.mem_range.1 hi
  exact⟨i,hi,by rw[h i this,k i this];exact hh⟩
theorem Ok{p:aq}(hs:qE p)(di:zg p):rn p=lI p:=by
 funext a b
 unfold rn lI
 rw[vn,vn,show min p.bo.length 16=p.bo.length by have:=hs.bo;omega]
 congr 1
 exact WV (fun i hi=>Oj di.co hi _) (fun i hi=>Oj di.co hi _)
theorem ZQ:sY=vY:=by
 funext a b
 unfold sY vY
 rw[vn,vn]
theorem ZR:s5=vZ:=by
 funext a b
 unfold s5 vZ
 rw[vn,vn]
theorem M7{p:aq}(hs:qE p)(di:zg p):Bf p=jM p:=by unfold Bf jM;rw[Ok hs di]
theorem M8(p:aq):mA p=mJ p:=by unfold mA mJ;rw[ZQ]
theorem M9(p:aq):Be p=mK p:=by unfold Be mK;rw[ZR]
theorem VJ{p:aq}(hs:qE p)(di:zg p):H3 p=lT p:=by unfold H3 lT;rw[M7 hs di,M8,M9]
theorem D0{p:aq}(hs:qE p):xO p:=⟨Nat.le_trans hs.tr (by decide),Nat.le_trans hs.rt (by decide),Nat.le_trans hs.ra (by decide),Nat.le_trans hs.fi (by decide)⟩
end Go.Proofs.YtaknajjmldngiaaGreat.Ab
namespace Go.Proofs.YtaknajjmldngiaaGreat.Ab
open Go
set_option linter.unusedVariables false
set_option maxRecDepth 4000
theorem C5{L M:List D}(hL:pC L)(hLM:M=L)(hm:L.length≤maxLen):aF Tryz.prog gl 10 [.d (cU 8 L),.d (cU 8 M)] (.d (.bool true)):=by
 subst hLM
 obtain⟨c,hc,hS⟩:=Md (ed 8 M) (ed 8 M) hL hL hm
 rw[←hc rfl]
 exact hS
theorem Ol(p:aq):pC (jM p):=va fun i k=>⟨_,_,_,_,rfl⟩
theorem Om(p:aq):pC (mJ p++mK p):=Dq (va fun i k=>⟨_,_,_,_,rfl⟩) (va fun i k=>⟨_,_,_,_,rfl⟩)
theorem On(p:aq):pC (oD p):=va fun i k=>⟨_,_,_,_,rfl⟩
theorem VK(p:aq):aF Tryz.prog gl 3 [.d (dv p)] (.d (.bool true)):=by
 refine cG aT (bp (fn:=Tryz.f3) (by kernel_rfl) (by kernel_rfl) (by kernel_rfl)) (h:=h3) ?_;rw[adV];intro aW
 obtain⟨b,hb,hB⟩:=Am p
 simp only[sS,sT,sZ,sP]
 refine aO hB ?_
 simp only[jH,sS,sT,sZ]
 refine And.intro (fun h=>?_) (fun h=>?_)
 ·refine aO rz ?_
  simp only[sS,sT,sZ]
 ·have di:=hb (by simpa using h)
  have fk:=D0 di.1
  obtain⟨a1,a2,a3,a4⟩:=wj fk
  refine ec (Cx p fk.tr) (fb _ _) ?_
  refine ec (KR p (Nat.le_trans di.1.bo (by decide)) fk.tr) (fb _ _) ?_
  simp only[sS,sT,sZ,ev]
  refine aO (C5 (Ol p) (M7 di.1 di.2) (by simp only[maxLen];omega)) ?_
  simp only[sS,sT,sZ]
  refine And.intro (fun _=>?_) (fun h=>absurd h (by simp))
  refine aO rz ?_
  simp only[sS,sT,sZ]
end Go.Proofs.YtaknajjmldngiaaGreat.Ab
namespace Go.Proofs.YtaknajjmldngiaaGreat.Ab
open Go
set_option maxRecDepth 4000
def mM(n:Nat)(f:Nat→Bool):Bool:=(List.range n).any f
theorem Ha{n:Nat}{f:Nat→Bool}{i:Nat}(h:i<n)(hf:f i=true):mM n f=true:=by
 simp only[mM,List.any_eq_true,List.mem_range]
 exact⟨i,h,hf⟩
theorem HA{n:Nat}{f:Nat→Bool}(h:∀i,i<n→f i=false):mM n f=false:=by
 rw[mM,List.any_eq_false]
 intro i hi
 rw[h i (List.mem_range.1 hi)];simp
theorem Hb{n:Nat}{f:Nat→Bool}:mM n f=true↔∃i,i<n∧f i=true:=by
 simp only[mM,List.any_eq_true,List.mem_range]
theorem Bg{f:Nat→Bool}{i:Nat}(h:∀j,j<i→f j=false)(hi:f i=false):∀j,j<i+1→f j=false:=fun j hj=>by
 rcases Nat.lt_or_ge j i with h2|h2
 ·exact h j h2
 ·have:j=i:=by omega
  subst this;exact hi
def qn(a b:aN)(s t:Nat):Bool:=nN a.sw s&&(nN b.sw s&&(nN a.tw t&&nN b.tw t))
def zE(p:aq)(a b:aN):Bool:=mM p.ty.length fun s=>mM p.ty.length fun t=>qn a b s t
def qd(p:aq)(a b:aN)(n:Nat):Bool:=nj p a.cond n&&(nj p b.cond n&&zE p a b)
def tS(p:aq)(a b:aN):Bool:=decide (a.kind=b.kind)&&(decide (a.cls=b.cls)&&((a.name==b.name)&&(!decide (a.res=b.res)&&mM (2^p.bo.length) (qd p a b))))
theorem TC(p:aq)(a b:aN)(hb:p.bo.length≤16):aF Tryz.prog gl 19 [.d (dv p),.d a.enc,.d b.enc] (.d (.bool (tS p a b))):=by
 refine cG aT (bp (fn:=Tryz.f19) (by kernel_rfl) (by kernel_rfl) (by kernel_rfl)) (h:=Rx) ?_;rw[abj];intro aW
 clear aW
 have hN:2^p.bo.length≤65536:=A0 hb
 have Cw:2^p.bo.length≤maxLen:=by simp only[maxLen];omega
 simp only[sS,sT,sZ,sP,yJ]
 refine And.intro (fun h=>?_) (fun h1=>?_)
 ·unfold tS;simp_all
 refine And.intro (fun h=>?_) (fun h2=>?_)
 ·unfold tS;simp_all
 refine And.intro (fun h=>?_) (fun h3=>?_)
 ·unfold tS;simp_all
 refine And.intro (fun h=>?_) (fun h4=>?_)
 ·unfold tS;simp_all
 have hD:tS p a b=mM (2^p.bo.length) (qd p a b):=by unfold tS;simp_all
 rw[hD]
 clear hD h1 h2 h3 h4
 refine iS (fun n=>∀j,j<n→qd p a b j=false) (fun n=>[.d (.int .i64 ((n:Nat):Int))]) (fun n=>[bG p,a.cells,b.cells]) (2^p.bo.length) (fun j hj=>by omega) (fun n hn hJ I hI=>?_) (fun hJ I=>?_)
 ·simp only[sS,sT,sZ,sP]
  rw[yv _ (by omega)]
  simp only[sS,sT,sZ]
  rw[AM _ _ (by omega)]
  simp only[sS,sT,sZ,sP]
  refine And.intro (fun _=>?_) (fun h=>absurd (of_decide_eq_false h) (by have:=hn;omega))
  have gU:=ba hn Cw
  refine ec (UK p n (by omega) (by omega)) (fb _ _) ?_
  have hs:cw 1 ((kQ p.bo.length n).map D.bool) (cU 1 (bl p.bo.length n.testBit)):=by rw[OQ];exact ed 1 _
  simp only[ev,sS,sT,sZ,sP]
  refine aO (FM p _ hs _) ?_
  simp only[jH,sS,sT,sZ,sP]
  refine And.intro (fun h=>?_) (fun h1=>?_)
  ·simp only[sS,sT,sZ,gU]
   exact hI (Bg hJ (by unfold qd nj;simp_all))
  refine aO (FM p _ hs _) ?_
  simp only[jH,sS,sT,sZ,sP]
  refine And.intro (fun h=>?_) (fun h2=>?_)
  ·simp only[sS,sT,sZ,gU]
   exact hI (Bg hJ (by unfold qd nj;simp_all))
  have b4:qd p a b n=zE p a b:=by unfold qd nj;simp_all
  have Ta:p.ty.length≤maxLen:=p.tyM
  refine iS (fun s=>∀j,j<s→(mM p.ty.length fun t=>qn a b j t)=false) (fun s=>[.d (.int .i64 (n:Int)),.d (.int .i64 ((s:Nat):Int))]) (fun s=>[bG p,a.cells,b.cells]) p.ty.length (fun j hj=>by omega) (fun s hs sJ I2 cD=>?_) (fun sJ I2=>?_)
  ·simp only[sS,sT,sZ,sP]
   refine And.intro (fun _=>?_) (fun h=>absurd h (by simp;omega))
   have agA:=ba hs Ta
   refine iS (fun t=>∀j,j<t→qn a b s j=false) (fun t=>[.d (.int .i64 (n:Int)),.d (.int .i64 (s:Int)),.d (.int .i64 ((t:Nat):Int))]) (fun t=>[bG p,a.cells,b.cells]) p.ty.length (fun j hj=>by omega) (fun t ht oM I3 jh=>?_) (fun oM I3=>?_)
   ·simp only[sS,sT,sZ,sP]
    refine And.intro (fun _=>?_) (fun h=>absurd h (by simp;omega))
    have EN:=ba ht Ta
    have no:qn a b s t=false→I3 [.d (.int .i64 (n:Int)),.d (.int .i64 (s:Int)),.d (.int .i64 ((t+1:Nat):Int))] [bG p,a.cells,b.cells]:=fun h=>jh (Bg oM h)
    have ya:qn a b s t=true→mM (2^p.bo.length) (qd p a b)=true:=fun h=>Ha hn (by rw[b4];exact Ha hs (Ha ht h))
    clear hI cD jh hJ sJ oM
    refine aO (oV _ _) ?_
    simp only[sS,sT,sZ,sP]
    refine And.intro (fun k1=>?_) (fun k1=>?_)
    rotate_left 1
    ·simp only[EN,sS,sT,sZ]
     exact no (by unfold qn;simp_all)
    refine aO (oV _ _) ?_
    simp only[sS,sT,sZ,sP]
    refine And.intro (fun k2=>?_) (fun k2=>?_)
    rotate_left 1
    ·simp only[EN,sS,sT,sZ]
     exact no (by unfold qn;simp_all)
    refine aO (oV _ _) ?_
    simp only[sS,sT,sZ,sP]
    refine And.intro (fun k3=>?_) (fun k3=>?_)
    rotate_left 1
    ·simp only[EN,sS,sT,sZ]
     exact no (by unfold qn;simp_all)
    refine aO (oV _ _) ?_
    simp only[sS,sT,sZ,sP]
    refine And.intro (fun k4=>?_) (fun k4=>?_)
    ·rw[ya (by unfold qn;simp_all)]
    ·simp only[EN,sS,sT,sZ]
     exact no (by unfold qn;simp_all)
   ·simp only[sS,sT,sZ,sP]
    refine And.intro (fun h=>absurd h (by simp)) (fun _=>?_)
    simp only[agA,sS,sT,sZ]
    exact cD (Bg sJ (HA oM))
  ·simp only[sS,sT,sZ,sP]
   refine And.intro (fun h=>absurd h (by simp)) (fun _=>?_)
   simp only[gU,sS,sT,sZ]
   exact hI (Bg hJ (by rw[b4];exact HA sJ))
 ·simp only[sS,sT,sZ,sP]
  rw[yv _ (by omega)]
  simp only[sS,sT,sZ]
  rw[AM _ _ (by omega)]
  simp only[sS,sT,sZ,sP]
  refine And.intro (fun h=>absurd h (by simp)) (fun _=>?_)
  rw[HA hJ]
end Go.Proofs.YtaknajjmldngiaaGreat.Ab
namespace Go.Proofs.YtaknajjmldngiaaGreat.Ab
open Go
theorem Yc(w:Nat→BitVec 64)(n:Int)(m:Nat)(hm:m<256):ik (wO w n) m=(ik w m||decide ((m:Int)=n)):=by
 unfold wO
 by_cases h:0≤n∧n<256
 ·rw[if_pos h]
  obtain⟨j,rfl⟩:=Int.eq_ofNat_of_zero_le h.1
  have hj:j<256:=by omega
  simp only[Int.toNat_natCast]
  unfold ik zU
  by_cases hq:m / 64=j / 64
  ·rw[if_pos hq,BitVec.getLsbD_or,hq]
   congr 1
   rw[BitVec.getLsbD_shiftLeft,BitVec.getLsbD_one]
   by_cases he:m=j
   ·subst he
    have:m % 64<64:=Nat.mod_lt _ (by decide)
    simp[this]
   ·have h1:m % 64≠j % 64:=by omega
    have h2:¬((m:Int)=(j:Int)):=by omega
    rcases Nat.lt_or_ge (m % 64) (j % 64)with h3|h3
    ·simp[h2,h3]
    ·have:¬(m % 64-j % 64=0):=by omega
     simp[h2,this]
  ·rw[if_neg hq]
   have h2:¬((m:Int)=(j:Int)):=by omega
   simp[h2]
 ·rw[if_neg h]
  have h2:¬((m:Int)=n):=by omega
  simp[h2]
theorem ZS(m:Nat)(n:Nat)(hn:n<256):ik (js m) n=decide (n<m):=by
 induction m with
 |zero=>simp[js,ik]
 |succ i ih=>
  rw[js,Yc _ _ _ hn,ih]
  by_cases h:n<i
  ·have:n<i+1:=by omega
   simp[h,this]
  ·by_cases h2:n=i
   ·subst h2;simp
   ·have h3:¬n<i+1:=by omega
    have h4:¬((n:Int)=(i:Int)):=by omega
    simp[h,h3,h4]
theorem Oo(w v:Nat→BitVec 64)(n:Nat):ik (fun k=>w k&&& v k) n=(ik w n&&ik v n):=by
 unfold ik;rw[BitVec.getLsbD_and]
theorem ZT{w:Nat→BitVec 64}{m:Nat}(h:vE w (js m)=true){n:Nat}(hn:n<256)(hw:ik w n=true):n<m:=by
 have:=(G9 _).1 h n hn
 have h2:ik (fun k=>w k&&& ~~~ js m k) n=(ik w n&& !ik (js m) n):=by
  unfold ik
  rw[BitVec.getLsbD_and,BitVec.getLsbD_not]
  have:n % 64<64:=Nat.mod_lt _ (by decide)
  simp[this]
 rw[h2,hw,ZS m n hn]at this
 simpa using this
theorem NP{w v:Nat→BitVec 64}{m:Nat}(hw:vE w (js m)=true)(hm:m≤256):(!g9 (fun k=>w k&&& v k) zW)=true↔∃n,n<m∧nN w (n:Int)=true∧nN v (n:Int)=true:=by
 rw[Bool.not_eq_true',←Bool.not_eq_true,G9]
 constructor
 ·intro h
  have⟨n,hn⟩:=Classical.not_forall.1 h
  rw[Classical.not_imp]at hn
  obtain⟨hn,hb⟩:=hn
  have hb:ik (fun k=>w k&&& v k) n=true:=by simpa using hb
  rw[Oo,Bool.and_eq_true]at hb
  exact⟨n,ZT hw hn hb.1,by rw[Ay w hn];exact hb.1,by rw[Ay v hn];exact hb.2⟩
 ·rintro⟨n,hn,h1,h2⟩ h
  have h0:n<256:=by omega
  have:=h n h0
  rw[Ay w h0]at h1
  rw[Ay v h0]at h2
  rw[Oo,h1,h2]at this
  cases this
theorem ac8{p:aq}(hs:qE p){a b:aN}(ha:Cr p a):zE p a b=(!g9 (fun k=>a.sw k&&& b.sw k) zW&& !g9 (fun k=>a.tw k&&& b.tw k) zW):=by
 have hc:clip (p.ty.length:Int)=p.ty.length:=by have:=hs.ty;unfold clip;omega
 have h1:=ha.src
 have h2:=ha.tgt
 rw[hc]at h1 h2
 have hm:p.ty.length≤256:=Nat.le_trans hs.ty (by decide)
 rw[Bool.eq_iff_iff,Bool.and_eq_true,NP h1 hm,NP h2 hm]
 simp only[zE,Hb,qn,Bool.and_eq_true]
 constructor
 ·rintro⟨s,hs,t,ht,q1,q2,q3,q4⟩
  exact⟨⟨s,hs,q1,q2⟩,t,ht,q3,q4⟩
 ·rintro⟨⟨s,hs,q1,q2⟩,t,ht,q3,q4⟩
  exact⟨s,hs,t,ht,q1,q2,q3,q4⟩
theorem ZU{n:Nat}{f:Nat→Bool}{c:Bool}:(mM n fun i=>f i&&c)=(mM n f&&c):=by
 rw[Bool.eq_iff_iff,Bool.and_eq_true,Hb,Hb]
 simp only[Bool.and_eq_true]
 constructor
 ·rintro⟨i,h,q,r⟩;exact⟨⟨i,h,q⟩,r⟩
 ·rintro⟨⟨i,h,q⟩,r⟩;exact⟨i,h,q,r⟩
theorem ac9{p:aq}(hs:qE p)(di:zg p){a b:aN}(ha:Cr p a):tS p a b=lI p a b:=by
 have h1:mM (2^p.bo.length) (qd p a b)=(pB (2^p.bo.length) (nj p a.cond) (nj p b.cond)&&zE p a b):=by
  have:qd p a b=fun n=>(nj p a.cond n&&nj p b.cond n)&&zE p a b:=by funext n;unfold qd;rw[Bool.and_assoc]
  rw[this,ZU];rfl
 rw[←Ok hs di]
 unfold tS rn
 rw[h1,vn,vn,ac8 hs ha]
 cases decide (a.kind=b.kind)<;>cases decide (a.cls=b.cls)<;>cases (a.name==b.name)<;>cases decide (a.res=b.res)<;>cases g9 (fun k=>a.sw k&&& b.sw k) zW<;>cases g9 (fun k=>a.tw k&&& b.tw k) zW<;>simp
theorem Oq(T:Nat→Nat→Bool)(c:Nat→Nat→D){i k:Nat}(h:i<k):∀d,∃R,ei T c i (k+d)=ei T c i k++R
 |0=>⟨[],by simp⟩
 |d+1=>by
  obtain⟨R,hR⟩:=Oq T c h d
  rw[←Nat.add_assoc,uU T c (show i<k+d by omega),hR]
  exact⟨_,List.append_assoc _ _ _⟩
theorem OY(T:Nat→Nat→Bool)(c:Nat→Nat→D)(N i:Nat):∀d,∃R,dc T c N (i+d)=dc T c N i++R
 |0=>⟨[],by simp⟩
 |d+1=>by
  obtain⟨R,hR⟩:=OY T c N i d
  rw[←Nat.add_assoc,n7,hR]
  exact⟨_,List.append_assoc _ _ _⟩
theorem OZ{T:Nat→Nat→Bool}{c:Nat→Nat→D}{N i k:Nat}(iK:i<k)(hk:k<N)(hT:T i k=true):(jC T c N)[(dc T c N i++ei T c i k).length]? =some (c i k):=by
 obtain⟨R,hR⟩:=OY T c N (i+1) (N-(i+1))
 rw[show i+1+(N-(i+1))=N by omega,n7]at hR
 obtain⟨R2,zT⟩:=Oq T c (show i<k+1 by omega) (N-(k+1))
 rw[show k+1+(N-(k+1))=N by omega,uU T c iK,hT,if_pos rfl]at zT
 have:jC T c N=(dc T c N i++ei T c i k)++(c i k::(R2++R)):=by
  show dc T c N N=_
  rw[hR,zT];simp
 rw[this,List.getElem?_append_right (Nat.le_refl _)]
 simp
end Go.Proofs.YtaknajjmldngiaaGreat.Ab
