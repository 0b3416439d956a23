/-
  THE ABSTRACT WALK: regions.
-/
import Derived.Test.YtimbllcalipehaaTb
import Derived.ChangeStays
import Derived.ChangeSame
import Derived.OpenShut
import Derived.Carry
import Derived.Lib.LaidTab
import Derived.ControlIn
import Derived.OrdersIn
import Derived.TacticsIn
import Derived.RangeFuncCalls
import Derived.RangeFuncNested
set_option linter.unusedVariables false
set_option linter.unusedSimpArgs false
namespace Go.Proofs.Ytimbllcalipehaa.Ab
open Go Go.RowKit
theorem Im:∀(l:List Oper)(acc:List Nat)(k:Nat),k<acc.length→(reach acc l)[k]? =acc[k]?
 |[],acc,k,_=>rfl
 |o::l,acc,k,h=>by
  rw[reach,Im l _ k (by simp;omega),List.getElem?_append_left h]
theorem Pd(acc:List Nat)(i:Nat):∀(es:List Edge)(s:Nat),(es.foldl (fun s e=>bif Region.binds .any e then s|||2^e.on|||acc.getD e.on 0 else s) s).testBit i=true→
  s.testBit i=true∨∃e∈es,Region.binds .any e=true∧(e.on=i∨(acc.getD e.on 0).testBit i=true)
 |[],s,h=>.inl h
 |e::es,s,h=>by
  rw[List.foldl_cons]at h
  rcases Pd acc i es _ h with h|⟨e',he,hb,h⟩
  ·cases hb:Region.binds .any e with
   |false=>rw[hb]at h;exact .inl h
   |true=>
    rw[hb]at h
    simp only[cond_true,Nat.testBit_or,Bool.or_eq_true]at h
    rcases h with(h|h)|h
    ·exact .inl h
    ·refine .inr ⟨e,by simp,hb,.inl ?_⟩
     simpa[Nat.testBit_two_pow]using h
    ·exact .inr ⟨e,by simp,hb,.inr h⟩
  ·exact .inr ⟨e',by simp[he],hb,h⟩
theorem Oi:∀(l:List Oper)(acc:List Nat)(k i:Nat),acc.length≤k→((reach acc l).getD k 0).testBit i=true→
  ∃o,l[k-acc.length]? =some o∧∃e∈o.after.toList,Region.binds .any e=true∧(e.on=i∨(e.on<k∧((reach acc l).getD e.on 0).testBit i=true))
 |[],acc,k,i,hk,h=>by
  rw[reach,List.getD_eq_getElem?_getD,List.getElem?_eq_none hk]at h
  simp at h
 |o::l,acc,k,i,hk,h=>by
  rw[reach]at h ⊢
  rcases Nat.eq_or_lt_of_le hk with bR|bR
  ·subst bR
   refine⟨o,by simp,?_⟩
   rw[List.getD_eq_getElem?_getD,Im l _ acc.length (by simp),List.getElem?_append_right (Nat.le_refl _)]at h
   simp only[Nat.sub_self,List.getElem?_cons_zero,Option.getD_some]at h
   rcases Pd acc i _ 0 h with h|⟨e,he,hb,h⟩
   ·simp at h
   ·refine⟨e,he,hb,h.imp id fun h=>?_⟩
    have aF:e.on<acc.length:=by
     rcases Nat.lt_or_ge e.on acc.length with h'|h'
     ·exact h'
     ·rw[List.getD_eq_getElem?_getD,List.getElem?_eq_none h']at h;simp at h
    refine⟨aF,?_⟩
    rw[List.getD_eq_getElem?_getD,Im l _ e.on (by simp;omega),List.getElem?_append_left aF,←List.getD_eq_getElem?_getD]
    exact h
  ·obtain⟨p,hp,hr⟩:=Oi l _ k i (by simp;omega) h
   refine⟨p,?_,hr⟩
   rw[←hp]
   have:k-acc.length=(k-(acc++[o.after.toList.foldl (fun s e=>bif Region.binds .any e then s|||2^e.on|||acc.getD e.on 0 else s) 0]).length)+1:=by simp;omega
   rw[this,List.getElem?_cons_succ]
section
variable{P:Program}{gl:Nat→Option D}{ops:Array Oper}{aE:Nat→Bool}{base:Nat}
def tg(ops:Array Oper)(bz:Array Bool):Prop:=∀(j:Nat)o,ops[j]? =some o→bz.getD j false=true→∀e∈o.after,Region.binds .any e=true→bz.getD e.on false=true
theorem tg.waits{bz:Array Bool}(hc:tg ops bz){i:Nat}:∀(j:Nat)o,ops[j]? =some o→(∀e∈o.after,Region.binds .any e=true→bz.getD e.on false=true)→
  ((reach [] ops.toList).getD j 0).testBit i=true→bz.getD i false=true:=by
 intro j
 induction j using Nat.strongRecOn with
 |_ j ih=>
  intro o ho ek h
  obtain⟨o',bO,e,he,hb,h⟩:=Oi ops.toList [] j i (Nat.zero_le _) h
  simp only[List.length_nil,Nat.sub_zero,Array.getElem?_toList]at bO
  rw[ho]at bO
  cases bO
  have hl:=ek e (by simpa using he) hb
  rcases h with h|⟨aF,h⟩
  ·rw[←h];exact hl
  ·have hex:∃p,ops[e.on]? =some p:=by
    have:=(Array.getElem?_eq_some_iff.1 ho).1
    exact⟨ops[e.on],by simp[show e.on<ops.size by omega]⟩
   obtain⟨p,hp⟩:=hex
   exact ih e.on aF p hp (hc e.on p hp hl) h
theorem tg.set{bz:Array Bool}(hc:tg ops bz){j:Nat}(hj:j∈Region.ready .any ops bz):tg ops (bz.setIfInBounds j true):=by
 obtain⟨_,o,ho,ek⟩:=mem_ready.1 hj
 intro k p hk hl e he hb
 by_cases DN:j=k
 ·subst DN
  rw[ho]at hk;cases hk
  exact getD_set_true (ek e he hb)
 ·rw[getD_set_ne false DN]at hl
  exact getD_set_true (hc k p hk hl e he hb)
def wX(P:Program)(gl:Nat→Option D)(ops:Array Oper)(aE:Nat→Bool)(base:Nat)(Q:Env→Prop):Nat→Array Bool→Env→Prop
 |0,bz,e=>Region.ready .any ops bz=[]∧Q e
 |fuel+1,bz,e=>
  (Region.ready .any ops bz=[]→Q e)∧
  ∀i∈Region.ready .any ops bz,∃o,ops[i]? =some o∧mO P gl (aD P gl) ops.toList (base+fK ops.toList i) (aE i) o e (wX P gl ops aE base Q fuel (bz.setIfInBounds i true))
theorem EX{w0:World}{ao:S0}{e:Env}{a:Act}{w:World}{g:Gh}(hI:Inv gl w0 ao e a w g){o:Oper}{c:Bool}(h:rF ops.toList o e=some c):Region.wanted o (yielded ops a.tmps)=c:=by
 unfold rF at h
 unfold Region.wanted
 split at h
 ·rename_i hg;rw[hg];exact(Option.some.inj h)
 ·rename_i j want hg
  rw[hg]
  simp only
  unfold yielded
  split at h
  ·rename_i t ht
   have qv:(ops[j]?).bind (·.dst)=some t:=by
    rw[Array.getElem?_toList]at ht
    cases hj:ops[j]? with
    |none=>rw[hj]at ht;cases ht
    |some q=>rw[hj]at ht;exact ht
   rw[qv]
   have hs:=jz hI t
   have aF:∀{s},e.ai.getD t (.v .undef)=s→s≠.v .undef →a.tmps[t]? =some (a.tmps.getD t undef):=by
    intro s h1 h2
    have:t<e.ai.length:=by
     rcases Nat.lt_or_ge t e.ai.length with h|h
     ·exact h
     ·rw[List.getD_eq_getElem?_getD,List.getElem?_eq_none h]at h1;exact absurd h1.symm h2
    rw[←hI.size]at this
    simp[this]
   split at h
   ·rename_i c' hx
    rw[hx]at hs
    have hv:=hs.jB.data.sU
    have h1:=aF hx (by simp)
    simp only[Act.eval]at hv
    rw[hv]at h1
    simp only[Option.bind_some,h1]
    cases h
    cases c'<;>cases want<;>rfl
   ·rename_i vs hx
    rw[hx]at hs
    obtain⟨tv,hv,_⟩:=hs.J5
    have h1:=aF hx (by simp)
    simp only[Act.eval]at hv
    rw[hv]at h1
    simp only[Option.bind_some,h1]
    cases h
    rfl
   ·cases h
  ·cases h
theorem PJ{w0:World}{ao:S0}{e:Env}{a:Act}{w:World}{g:Gh}(hI:Inv gl w0 ao e a w g)(dst:Option Nat):Inv gl w0 ao ⟨cz e.ai dst (.t []),e.boxes⟩ (a.put dst undef) w g:=
 hI.value (.t _ [] #[] rfl (fun j x v h=>by simp at h))
theorem IN{w0:World}{ao:S0}{e:Env}{a:Act}{w:World}{g:Gh}(hI:Inv gl w0 ao e a w g){i id:Nat}{l:Bool}{o:Oper}(ho:ops[i]? =some o){k:Env→Prop}
  (h:mO P gl (aD P gl) ops.toList id l o e k){next:Act→World→Prop}{Q:Exit→Act→World→Prop}(hn:∀e' a' w' g',Inv gl w0 ao e' a' w' g'→k e'→next a' w'):wpOp P ops Q i next a w:=by
 have h':=z5.1 h
 unfold wpOp
 simp only[ho]
 split at h'
 ·rename_i hg
  rw[if_pos (EX hI hg)]
  exact .inl (O7 hI h' next Q fun e' v w' g' hinv hk=>hn e' _ w' g' hinv hk)
 ·rename_i hg
  rw[if_neg (by rw[EX hI hg];simp)]
  exact hn _ _ _ _ (PJ hI o.dst) h'
 ·exact h'.elim
theorem Io{e e':Env}(hG:Good gl e){i id:Nat}{l:Bool}{o:Oper}(ho:ops[i]? =some o)(h:mO P gl (aD P gl) ops.toList id l o e (fun x=>x=e')):Good gl e':=by
 obtain⟨w0,ao,a,w,g,hI⟩:=hG
 have:=IN (Q:=fun _ _ _=>False) hI ho h (next:=fun a' w'=>∃g',Inv gl w0 ao e' a' w' g') (fun kY a' w' g' hinv hk=>⟨g',hk▸hinv⟩)
 have aby:∀{next:Act→World→Prop},o.wp P a w next (fun _ _ _=>False)→∃a' w',next a' w':=by
  intro next h
  unfold Oper.wp at h
  generalize (execOp a.eval o).run P w=r at h
  cases r with
  |ok n w'=>
   cases n<;>simp only[Oper.upon]at h
   case value v=>exact⟨_,_,h⟩
   case skip=>exact⟨_,_,h⟩
   case defer d=>exact⟨_,_,h⟩
   case enter f args=>
    obtain⟨e,Gv,fr,hR,_⟩:=h []
    cases e with
    |returned v=>exact⟨_,_,hR⟩
    |panicked c=>exact hR.elim
    |outgrown=>obtain⟨_,_,hf⟩:=hR;exact hf.elim
   case row row args=>
    obtain⟨v,Gv,hR,_⟩:=h default []
    exact⟨_,_,hR⟩
  |halt x w'=>cases x<;>simp only[Oper.upon]at h
 unfold wpOp at this
 simp only[ho]at this
 have Bd:∃a' w',∃g',Inv gl w0 ao e' a' w' g':=by
  split at this
  ·rcases this with h|⟨_,_,_,hf⟩
   ·exact aby h
   ·exact hf.elim
  ·exact⟨_,_,this⟩
 obtain⟨a',w',g',hinv⟩:=Bd
 exact⟨w0,ao,a',w',g',hinv⟩
def Js(ops:Array Oper)(aE:Nat→Bool)(base:Nat)(K:Nat→Prop)(E:Option (List Nat))(bz:Array Bool)(e:Env):Prop:=
 ∀A,E=some A→A=j1 ops.toList∧yV ops aE∧Jv ops base K bz e
theorem Js.step{C:bd}{K:Nat→Prop}{E:Option (List Nat)}{bz:Array Bool}{e e':Env}(h:Js ops aE base K E bz e){i:Nat}{o:Oper}(ho:ops[i]? =some o)
  (hs:mO P gl C ops.toList (base+fK ops.toList i) (aE i) o e (fun x=>x=e')):Js ops aE base K E (bz.setIfInBounds i true) e':=fun A hA=>by
 obtain⟨h1,h2,h3⟩:=h A hA
 exact⟨h1,h2,h3.step h2 ho hs⟩
theorem Qq{bz:Array Bool}(hE:yV ops aE)(hc:tg ops bz){i:Nat}{o:Oper}(ho:ops[i]? =some o)(hr:i∈Region.ready .any ops bz):Made ops bz o:=by
 intro a ha k ok hk BE
 obtain⟨_,o',bO,ek⟩:=mem_ready.1 hr
 rw[ho]at bO;cases bO
 exact hc.waits i o ho ek (hE.waits i o a ho ha k ok hk BE)
theorem WT{K:Nat→Prop}{E:Option (List Nat)}{bz:Array Bool}{e:Env}(hJ:Js ops aE base K E bz e)(hc:tg ops bz){i j:Nat}{x y:Oper}(hx:ops[i]? =some x)(hy:ops[j]? =some y)
  (zo:i∈Region.ready .any ops bz)(LB:j∈Region.ready .any ops bz)(h:AB E ops (aE i) (aE j) x y=true):
  FU ops (aE i) (aE j) x y∧(KA (aE i) (aE j) x y∨(yD gl (aE i) x y e∧yD gl (aE j) y x e)):=by
 simp only[AB,Bool.or_eq_true]at h
 rcases h with h|h
 ·obtain⟨h1,h2⟩:=XC h
  exact⟨h1,.inl h2⟩
 ·cases hE:E with
  |none=>rw[hE]at h;cases h
  |some A=>
   rw[hE]at h
   obtain⟨rfl,h2,h3⟩:=hJ A hE
   obtain⟨h4,h5⟩:=WS h
   exact⟨h4,.inr (YN h2 h3 hx hy h5 (Qq h2 hc hx zo) (Qq h2 hc hy LB))⟩
theorem Pe{K:Nat→Prop}{E:Option (List Nat)}{Q:Env→Prop}{i:Nat}{oi:Oper}(hi:ops[i]? =some oi):∀(fuel:Nat)(bz:Array Bool)(e:Env)(src:Option (Nat×Slot))(s:Slot)(U:Option (Nat×af)),
  (∀(j:Nat)oj,ops[j]? =some oj→j≠i→bz.getD j true=false→((reach [] ops.toList).getD j 0).testBit i=false→AB E ops (aE i) (aE j) oi oj=true)→
  tg ops bz→i∈Region.ready .any ops bz→Good gl e→Js ops aE base K E bz e→Out P gl (aD P gl) ops (base+fK ops.toList i) (aE i) oi e src s U→
  wX P gl ops aE base Q fuel (bz.setIfInBounds i true) (fin oi src s U e)→wX P gl ops aE base Q (fuel+1) bz e:=by
 intro fuel
 induction fuel with
 |zero=>
  intro bz e src s U _ _ hr _ _ hO H
  refine⟨fun h=>(by rw[h]at hr;cases hr),fun j hj=>?_⟩
  by_cases lS:j=i
  ·subst lS;exact⟨oi,hi,hO.run H⟩
  ·have:=ready_mono hj lS
   rw[H.1]at this
   cases this
 |succ fuel ih=>
  intro bz e src s U RZ hc hr hG vO hO H
  refine⟨fun h=>(by rw[h]at hr;cases hr),fun j hj=>?_⟩
  by_cases lS:j=i
  ·subst lS;exact⟨oi,hi,hO.run H⟩
  ·obtain⟨oj,iZ,h1⟩:=H.2 j (ready_mono hj lS)
   obtain⟨Sl,oj',Sm,ek⟩:=mem_ready.1 hj
   rw[iZ]at Sm
   cases Sm
   have LC:((reach [] ops.toList).getD j 0).testBit i=false:=by
    cases hb:((reach [] ops.toList).getD j 0).testBit i with
    |false=>rfl
    |true=>
     have h2:=hc.waits j oj iZ ek hb
     have h0:=(mem_ready.1 hr).1
     rcases Nat.lt_or_ge i bz.size with h'|h'
     ·simp[h']at h0 h2;rw[h0]at h2;cases h2
     ·simp[Array.getElem?_eq_none h']at h2
   obtain⟨aeB,eb⟩:=WT vO hc hi iZ hr hj (RZ j oj iZ lS Sl LC)
   obtain⟨afS,s',U',hk,hO',_⟩:=xU h1
   obtain⟨d1,d2,d3⟩:=Z6 hG aeB eb hO hO'
   refine⟨oj,iZ,d1.run ?_⟩
   rw[Array.setIfInBounds_comm _ _ (Ne.symm lS)]at hk
   refine ih (bz.setIfInBounds j true) _ src s U (fun k ok hk hki pt eh=>?_) (hc.set hj) (ready_mono hr (Ne.symm lS)) (Io hG iZ (d1.run rfl)) (vO.step iZ (d1.run rfl)) d2 (by rw[←d3];exact hk)
   refine RZ k ok hk hki ?_ eh
   by_cases DN:j=k
   ·subst DN;exact Sl
   ·rw[getD_set_ne true DN]at pt;exact pt
theorem NT{E:Option (List Nat)}{R:List Nat}{i:Nat}{o:Oper}:∀{l:List Oper}{j:Nat},Fy E ops aE R i o l j=true→∀(n:Nat)p,l[n]? =some p→(R.getD (j+n) 0).testBit i=true∨AB E ops (aE i) (aE (j+n)) o p=true
 |[],j,_,n,p,h=>by simp at h
 |q::l,j,h,n,p,hp=>by
  simp only[Fy,Bool.and_eq_true,Bool.or_eq_true]at h
  cases n with
  |zero=>simp at hp;subst hp;exact h.1
  |succ n=>
   have:=NT h.2 n p (by simpa using hp)
   rw[show j+(n+1)=j+1+n by omega]
   exact this
theorem Ag{all:List Oper}{C:bd}(o:Oper)(rest:List Oper)(i:Nat)(e:Env)(k:Env→Prop):
 kS P gl C aE all base (o::rest) i e k=mO P gl C all (base+fK all i) (aE i) o e (fun kY=>kS P gl C aE all base rest (i+1) kY k):=rfl
theorem Jl{KK:Nat→Prop}{E:Option (List Nat)}{K:Env→Prop}:∀(l:List Oper)(i:Nat)(bz:Array Bool)(e:Env),(∀j,l[j]? =ops[i+j]?)→(∀j,j<i→bz.getD j false=true)→(∀j,i≤j→j<ops.size→bz.getD j true=false)→bz.size=ops.size→
  tg ops bz→Good gl e→Js ops aE base KK E bz e→yj E ops aE (reach [] ops.toList) l i=true→kS P gl (aD P gl) aE ops.toList base l i e K→wX P gl ops aE base K l.length bz e
 |[],i,bz,e,hl,h1,h2,aM,_,_,_,_,h=>by
  refine⟨?_,h⟩
  rw[List.eq_nil_iff_forall_not_mem]
  intro j hj
  obtain⟨pt,o,ho,_⟩:=mem_ready.1 hj
  have aF:j<ops.size:=(Array.getElem?_eq_some_iff.1 ho).1
  have hle:ops.size≤i:=by
   have:=hl 0
   simp only[List.getElem?_nil,Nat.add_zero]at this
   exact Array.getElem?_eq_none_iff.1 this.symm
  have:=h1 j (by omega)
  simp[aM,aF]at this pt
  rw[this]at pt;cases pt
 |o::l,i,bz,e,hl,h1,h2,aM,hc,hG,vO,hB,h=>by
  have h0:ops[i]? =some o:=by simpa using(hl 0).symm
  have aF:i<ops.size:=(Array.getElem?_eq_some_iff.1 h0).1
  simp only[yj,Bool.and_eq_true]at hB
  obtain⟨⟨hr,hp⟩,hB'⟩:=hB
  have Rc:i∈Region.ready .any ops bz:=by
   refine mem_ready.2 ⟨h2 i (Nat.le_refl _) aF,o,h0,fun e he hb=>?_⟩
   have:=List.all_eq_true.1 hr e (by simpa using he)
   rw[hb]at this
   simp only[Bool.not_true,Bool.false_or]at this
   exact h1 e.on (Nat.lt_of_succ_le (Nat.le_of_ble_eq_true this))
  rw[Ag]at h
  obtain⟨src,s,U,hk,hO,_⟩:=xU h
  refine Pe h0 l.length bz e src s U (fun j oj iZ lS pt eh=>?_) hc Rc hG vO hO ?_
  ·have ju:j<ops.size:=(Array.getElem?_eq_some_iff.1 iZ).1
   have fO:i<j:=by
    rcases Nat.lt_or_ge i j with h|h
    ·exact h
    ·exfalso
     have:=h1 j (by omega)
     simp[aM,ju]at this pt
     rw[this]at pt;cases pt
   have zm:l[j-(i+1)]? =some oj:=by
    have:=hl (j-i)
    rw[show i+(j-i)=j by omega,iZ]at this
    rw[show j-i=(j-(i+1))+1 by omega]at this
    simpa using this
   have:=NT hp (j-(i+1)) oj zm
   rw[show i+1+(j-(i+1))=j by omega,eh]at this
   simpa using this
  ·refine Jl l (i+1) _ _ (fun j=>?_) (fun j hj=>?_) (fun j hj hjs=>?_) (by simpa using aM) (hc.set Rc) (Io hG h0 (hO.run rfl)) (vO.step h0 (hO.run rfl)) hB' hk
   ·have:=hl (j+1)
    simpa[Nat.add_assoc,Nat.add_comm 1 j]using this
   ·by_cases fO:i=j
    ·subst fO
     simp[aM,aF]
    ·exact getD_set_true (h1 j (by omega))
   ·rw[getD_set_ne true (by omega)]
    exact h2 j (by omega) hjs
theorem JM{w0:World}{ao:S0}{K:Env→Prop}{Q:Exit→Act→World→Prop}(hQ:∀e a w g,Inv gl w0 ao e a w g→K e→Q .normal a w):∀(fuel:Nat)(bz:Array Bool)(e:Env)(a:Act)(w:World)(g:Gh),
  Inv gl w0 ao e a w g→wX P gl ops aE base K fuel bz e→wpAny P .any ops Q fuel bz a w
 |0,_,e,a,w,g,hI,h=>⟨h.1,hQ e a w g hI h.2⟩
 |fuel+1,_,e,a,w,g,hI,h=>⟨fun h0=>hQ e a w g hI (h.1 h0),fun i hi=>by
   obtain⟨o,ho,hs⟩:=h.2 i hi
   exact IN hI ho hs fun e' a' w' g' hinv hk=>JM hQ fuel _ e' a' w' g' hinv hk⟩
theorem Qr{w0:World}{ao:S0}{K:Env→Prop}{Q:Exit→Act→World→Prop}(hQ:∀e a w g,Inv gl w0 ao e a w g→K e→Q .normal a w):∀(l:List Oper)(i:Nat)(e:Env)(a:Act)(w:World)(g:Gh),
  (∀j,l[j]? =ops[i+j]?)→Inv gl w0 ao e a w g→kS P gl (aD P gl) aE ops.toList base l i e K→wpOps P ops Q (List.range' i l.length) a w
 |[],_,e,a,w,g,_,hI,h=>hQ e a w g hI h
 |o::l,i,e,a,w,g,hl,hI,h=>by
  have h0:ops[i]? =some o:=by simpa using(hl 0).symm
  rw[List.length_cons,List.range'_succ,wpOps_cons]
  rw[Ag]at h
  exact IN hI h0 h fun e' a' w' g' hinv hk=>Qr hQ l (i+1) e' a' w' g' (fun j=>by have:=hl (j+1);simpa[Nat.add_assoc,Nat.add_comm 1 j]using this) hinv hk
theorem Oj{m:Nat}:∀(l:List Oper)(i j:Nat),j∈nQ m l i↔i≤j∧m.testBit j=false∧∃o,l[j-i]? =some o∧∀e∈o.after,Region.binds .any e=true→m.testBit e.on=true
 |[],i,j=>by simp[nQ]
 |o::l,i,j=>by
  have ih:=Oj (m:=m) l (i+1) j
  have aU:i+1≤j→(o::l)[j-i]? =l[j-(i+1)]? :=fun h=>by rw[show j-i=(j-(i+1))+1 by omega,List.getElem?_cons_succ]
  rw[nQ]
  cases hc:(!Nat.testBit m i&&o.after.toList.all (fun e=> !Region.binds .any e||Nat.testBit m e.on))with
  |true=>
   simp only[Bool.and_eq_true,Bool.not_eq_true',List.all_eq_true,Bool.or_eq_true]at hc
   simp only[cond_true,List.mem_cons,ih]
   constructor
   ·rintro(rfl|⟨h1,h2,p,h3,h4⟩)
    ·refine⟨Nat.le_refl _,hc.1,o,by simp,fun e he hb=>?_⟩
     rcases hc.2 e (by simpa using he)with h|h
     ·rw[hb]at h;cases h
     ·exact h
    ·exact⟨by omega,h2,p,(aU h1).trans h3,h4⟩
   ·rintro⟨h1,h2,p,h3,h4⟩
    rcases Nat.eq_or_lt_of_le h1 with h|h
    ·exact .inl h.symm
    ·exact .inr ⟨h,h2,p,(aU h).symm.trans h3,h4⟩
  |false=>
   simp only[cond_false,ih]
   constructor
   ·rintro⟨h1,h2,p,h3,h4⟩
    exact⟨by omega,h2,p,(aU h1).trans h3,h4⟩
   ·rintro⟨h1,h2,p,h3,h4⟩
    rcases Nat.eq_or_lt_of_le h1 with h|h
    ·subst h
     exfalso
     simp only[Nat.sub_self,List.getElem?_cons_zero,Option.some.injEq]at h3
     subst h3
     have:(!Nat.testBit m i&&o.after.toList.all (fun e=> !Region.binds .any e||Nat.testBit m e.on))=true:=by
      simp only[Bool.and_eq_true,Bool.not_eq_true',List.all_eq_true,Bool.or_eq_true]
      refine⟨h2,fun e he=>?_⟩
      cases hb:Region.binds .any e with
      |false=>exact .inl rfl
      |true=>exact .inr (h4 e (by simpa using he) hb)
     rw[this]at hc;cases hc
    ·exact⟨h,h2,p,(aU h).symm.trans h3,h4⟩
theorem Ca{m:Nat}{bz:Array Bool}(hm:∀j,m.testBit j=bz.getD j false)(hs:bz.size=ops.size){j:Nat}:j∈nQ m ops.toList 0↔j∈Region.ready .any ops bz:=by
 rw[Oj,mem_ready]
 simp only[Nat.zero_le,true_and,Nat.sub_zero,Array.getElem?_toList]
 constructor
 ·rintro⟨h1,o,h2,h3⟩
  refine⟨?_,o,h2,fun e he hb=>(hm e.on).symm.trans (h3 e he hb)⟩
  have hj:j<bz.size:=by rw[hs];exact(Array.getElem?_eq_some_iff.1 h2).1
  rw[hm]at h1
  simp only[Array.getD_eq_getD_getElem?,Array.getElem?_eq_getElem hj,Option.getD_some]at h1 ⊢
  exact h1
 ·rintro⟨h1,o,h2,h3⟩
  refine⟨?_,o,h2,fun e he hb=>(hm e.on).trans (h3 e he hb)⟩
  have hj:j<bz.size:=by rw[hs];exact(Array.getElem?_eq_some_iff.1 h2).1
  rw[hm]
  simp only[Array.getD_eq_getD_getElem?,Array.getElem?_eq_getElem hj,Option.getD_some]at h1 ⊢
  exact h1
theorem Ok{R:List Nat}{m i:Nat}{o:Oper}:∀{l:List Oper}{j:Nat},FQ ops aE R m i o l j=true→∀(n:Nat)p,l[n]? =some p→
  i=j+n∨m.testBit (j+n)=true∨(R.getD (j+n) 0).testBit i=true∨indep ops (aE i) (aE (j+n)) o p=true
 |[],j,_,n,p,h=>by simp at h
 |q::l,j,h,n,p,hp=>by
  simp only[FQ,Bool.and_eq_true,Bool.or_eq_true]at h
  cases n with
  |zero=>
   simp at hp;subst hp
   rcases h.1 with((h|h)|h)|h
   ·exact .inl (Nat.eq_of_beq_eq_true h)
   ·exact .inr (.inl h)
   ·exact .inr (.inr (.inl h))
   ·exact .inr (.inr (.inr h))
  |succ n=>
   have:=Ok h.2 n p (by simpa using hp)
   rw[show j+(n+1)=j+1+n by omega]
   exact this
theorem Nm{R:List Nat}{m i:Nat}:∀{l:List Nat},firstFree ops aE R m l=some i→i∈l∧Fz ops aE R m i=true
 |[],h=>by simp[firstFree]at h
 |k::l,h=>by
  rw[firstFree]at h
  cases hk:Fz ops aE R m k with
  |true=>rw[hk]at h;cases h;exact⟨by simp,hk⟩
  |false=>rw[hk]at h;have:=Nm h;exact⟨by simp[this.1],this.2⟩
theorem PK{f:Nat→Prop}:∀{l:List Nat},F7 f l→∀i∈l,f i
 |[],_,i,h=>by cases h
 |[j],hf,i,h=>by
  simp only[List.mem_cons,List.not_mem_nil,or_false]at h
  subst h;exact hf
 |j::k::l,hf,i,h=>by
  have hf:f j∧F7 f (k::l):=hf
  rcases List.mem_cons.1 h with h|h
  ·subst h;exact hf.1
  ·exact PK hf.2 i h
theorem Vk{m i j:Nat}:(m|||2^i).testBit j=(m.testBit j||decide (i=j)):=by
 rw[Nat.testBit_or,Nat.testBit_two_pow]
theorem H4{K:Env→Prop}:∀(n m:Nat)(bz:Array Bool)(e:Env),(∀j,m.testBit j=bz.getD j false)→bz.size=ops.size→tg ops bz→Good gl e→
  yN P gl (aD P gl) ops aE (reach [] ops.toList) base K n m e→wX P gl ops aE base K n bz e
 |0,m,bz,e,hm,hs,hc,hG,h=>by
  rw[yN]at h
  cases hr:(nQ m ops.toList 0).isEmpty with
  |false=>rw[hr]at h;exact h.elim
  |true=>
   rw[hr]at h
   refine⟨?_,h⟩
   rw[List.eq_nil_iff_forall_not_mem]
   intro j hj
   have:=(Ca hm hs).2 hj
   rw[List.isEmpty_iff.1 hr]at this
   cases this
 |n+1,m,bz,e,hm,hs,hc,hG,h=>by
  rw[yN]at h
  cases hr:(nQ m ops.toList 0).isEmpty with
  |true=>
   rw[hr]at h
   refine⟨fun _=>h,fun i hi=>?_⟩
   have:=(Ca hm hs).2 hi
   rw[List.isEmpty_iff.1 hr]at this
   cases this
  |false=>
   rw[hr,cond_false]at h
   have lT:∀{i:Nat},i∈Region.ready .any ops bz→∀j,(m|||2^i).testBit j=(bz.setIfInBounds i true).getD j false:=by
    intro i hi j
    rw[Vk,hm]
    have m0:i<bz.size:=by
     obtain⟨_,o,ho,_⟩:=mem_ready.1 hi
     rw[hs];exact(Array.getElem?_eq_some_iff.1 ho).1
    by_cases fO:i=j
    ·subst fO;simp[m0]
    ·rw[getD_set_ne false fO];simp[fO]
   have step:∀{i:Nat}{o:Oper},i∈Region.ready .any ops bz→ops[i]? =some o→
     mO P gl (aD P gl) ops.toList (base+fK ops.toList i) (aE i) o e (fun e'=>yN P gl (aD P gl) ops aE (reach [] ops.toList) base K n (m|||2^i) e')→
     ∃src s U,Out P gl (aD P gl) ops (base+fK ops.toList i) (aE i) o e src s U∧wX P gl ops aE base K n (bz.setIfInBounds i true) (fin o src s U e):=by
    intro i o hi ho h1
    obtain⟨src,s,U,hk,hO,_⟩:=xU h1
    exact⟨src,s,U,hO,H4 n _ _ _ (lT hi) (by simpa using hs) (hc.set hi) (Io hG ho (hO.run rfl)) hk⟩
   have ek:=PK h
   unfold RS at ek
   cases hf:firstFree ops aE (reach [] ops.toList) m (nQ m ops.toList 0)with
   |some i=>
    rw[hf]at ek
    obtain⟨him,vP⟩:=Nm hf
    have hi:=(Ca hm hs).1 him
    obtain⟨pt,o,ho,_⟩:=mem_ready.1 hi
    have h1:=ek i (by simp)
    simp only[Array.getElem?_toList,ho]at h1
    obtain⟨src,s,U,hO,hA⟩:=step hi ho h1
    unfold Fz at vP
    simp only[Array.getElem?_toList,ho]at vP
    refine Pe (E:=none) (K:=fun _=>False) ho n bz e src s U (fun j oj iZ lS KB eh=>?_) hc hi hG (fun A hA=>by cases hA) hO hA
    have:=Ok vP j oj (by rw[Array.getElem?_toList];exact iZ)
    rw[Nat.zero_add]at this
    rcases this with h|h|h|h
    ·exact absurd h.symm lS
    ·exfalso
     have ju:j<bz.size:=by rw[hs];exact(Array.getElem?_eq_some_iff.1 iZ).1
     rw[hm]at h
     simp only[Array.getD_eq_getD_getElem?,Array.getElem?_eq_getElem ju,Option.getD_some]at h KB
     rw[h]at KB;cases KB
    ·rw[eh]at h;cases h
    ·simp[AB,h]
   |none=>
    rw[hf]at ek
    refine⟨fun h0=>?_,fun i hi=>?_⟩
    ·exfalso
     cases hl:nQ m ops.toList 0 with
     |nil=>rw[hl]at hr;cases hr
     |cons i l=>
      have:=(Ca hm hs (j:=i)).1 (by rw[hl];simp)
      rw[h0]at this;cases this
    ·have h1:=ek i ((Ca hm hs).2 hi)
     obtain⟨_,o,ho,_⟩:=mem_ready.1 hi
     simp only[Array.getElem?_toList,ho]at h1
     obtain⟨src,s,U,hO,hA⟩:=step hi ho h1
     exact⟨o,ho,hO.run hA⟩
theorem H5{all:List Oper}{K:Env→Prop}:∀(l:List Oper)(i:Nat)(e:Env),kS P gl (aD P gl) aE all base l i e K→∃e',K e'
 |[],_,e,h=>⟨e,h⟩
 |o::l,i,e,h=>by
  rw[Ag]at h
  have ek:all=all.toArray.toList:=by simp
  rw[ek]at h
  obtain⟨src,s,U,hk,hO,_⟩:=xU h
  rw[←ek]at hk
  exact H5 l (i+1) _ hk
theorem Inv.E8{w0:World}{ao:S0}{e:Env}{a:Act}{w:World}{g:Gh}(hI:Inv gl w0 ao e a w g)(n:Nat):
  Inv gl w0 ao ⟨e.ai,e.boxes++List.replicate n .none⟩ a w {g with bx:=g.bx++List.replicate n none}:=by
 have eb:∀b,some b∈g.bx++List.replicate n (none:Option Nat)→some b∈g.bx:=fun b h=>by
  rcases List.mem_append.1 h with h|h
  ·exact h
  ·have:=(List.mem_replicate.1 h).2;cases this
 have jn:∀(i:Nat)aj,(g.bx++List.replicate n (none:Option Nat))[i]? =some (some aj)→g.bx[i]? =some (some aj):=fun i aj h=>by
  rw[List.getElem?_append]at h
  split at h
  ·exact h
  ·have:=(List.mem_replicate.1 (List.mem_of_getElem? h)).2;cases this
 have hX:Ext w0.heap.size w g w {g with bx:=g.bx++List.replicate n none} (fun _=>False):=by
  refine⟨fun _ _ hb ho h=>⟨h,fun hm=>hb (eb _ hm),ho,fun _ h=>h⟩,fun _ _ h=>(by first|exact⟨h,rfl⟩|exact⟨h,.refl _ _ _⟩),fun _ _ _=>rfl,fun i aj h=>?_,fun p b a' c _ ho=>?_,.refl _⟩
  ·simp only;rw[List.getElem?_append_left (List.getElem?_eq_some_iff.1 h).1];exact h
  ·obtain⟨h1,h2,h3,h4,h5⟩:=ho
   exact⟨⟨h1,h2,fun h=>h3 (eb b h),h4,h5⟩,.refl _ _ _⟩
 refine⟨hI.below,hI.size,fun i s hs=>hX.slot (fun _ h=>h) (hI.ai i s hs),by simp[hI.eX],fun b bx aj h1 h2=>?_,fun i j aj h1 h2=>hI.nodup i j aj (jn i aj h1) (jn j aj h2),hI.fN,
  fun b o h=>⟨(hI.cE b o h).1,fun hm=>(hI.cE b o h).2.1 (eb b hm),(hI.cE b o h).2.2⟩,fun b h=>hI.dn b (eb b h),hI.j3.ext hX,hI.defers,fun D o hD=>(have h:=hI.eN D o hD;⟨fun hm=>h.1 (eb D hm),h.2⟩),hI.cls,hI.jq⟩
 have pq:=jn b aj h2
 simp only at h1
 rw[List.getElem?_append_left (by rw[←hI.eX];exact(List.getElem?_eq_some_iff.1 pq).1)]at h1
 exact hX.box (fun _ h=>h) rfl (hI.boxes b bx aj h1 pq)
theorem Inv.drew{w0:World}{ao:S0}{e:Env}{a:Act}{w:World}{g:Gh}(hI:Inv gl w0 ao e a w g):Inv gl w0 ao e a {w with drawn:=w.drawn+1} g:=by
 have hX:Ext w0.heap.size w g {w with drawn:=w.drawn+1} g (fun _=>False):=⟨fun _ _ hb ho h=>⟨h,hb,ho,fun _ h=>h⟩,fun _ _ h=>(by first|exact⟨h,rfl⟩|exact⟨h,.refl _ _ _⟩),fun _ _ _=>rfl,fun _ _ h=>h,fun _ _ _ _ _ h=>⟨h,.refl _ _ _⟩,fun _ c ty _ h=>⟨c,ty,h,rfl⟩⟩
 refine⟨⟨hI.below.os,hI.below.tape,hI.below.output,hI.below.size,hI.below.block⟩,hI.size,fun i s hs=>hX.slot (fun _ h=>h) (hI.ai i s hs),hI.eX,fun b bx aj h1 h2=>hX.box (fun _ h=>h) rfl (hI.boxes b bx aj h1 h2),hI.nodup,hI.fN,hI.cE,hI.dn,hI.j3.ext hX,hI.defers,hI.eN,hI.cls,hI.jq⟩
theorem Inv.R0{w0:World}{ao:S0}{e:Env}{a:Act}{w:World}{g:Gh}(hI:Inv gl w0 ao e a w g)(n:Nat){e':Env}(he:e'=⟨e.ai,e.boxes++List.replicate n .none⟩):
  Jv ops e.boxes.length (fun b=>∃aj,g.bx[b]? =some (some aj)) (Array.replicate ops.size false) e':=by
 subst he
 have iQ:∀{O:Nat→Nat→Nat→Nat→Prop}{s:Slot}{v:Value},cg w0.heap.size w g O s v→dC (fun b=>∃aj,g.bx[b]? =some (some aj)) s:=by
  intro O s v h
  induction h with
  |v O x y h=>exact .v _
  |t O xs vs hl hc=>exact .t _
  |p O b off aj h=>exact .p _ _ ⟨aj,h⟩
  |a O b n sz v hm h=>obtain⟨aj,cap,h1,_⟩:=h;exact .a _ _ _ ⟨aj,h1⟩
  |m O b aj h=>exact .m _ ⟨aj,h⟩
  |c O f first cap fv cv hf hc _ _ iV iW=>
   refine .c _ _ _ (fun s hs=>?_) (fun s hs=>?_)
   ·obtain⟨i,hi,rfl⟩:=List.mem_iff_getElem.1 hs
    exact iV i _ (fv[i]'(by omega)) (by simp) (by simp)
   ·obtain⟨i,hi,rfl⟩:=List.mem_iff_getElem.1 hs
    exact iW i _ (cv[i]'(by omega)) (by simp) (by simp)
 refine⟨fun b⟨aj,hb⟩=>by rw[←hI.eX];exact(List.getElem?_eq_some_iff.1 hb).1,fun t _=>?_,fun b s hb hs=>?_,fun i o a' _ _ hl=>?_⟩
 ·exact iQ (jz hI t)
 ·simp only at hs
  rw[List.getElem?_append]at hs
  split at hs
  ·rename_i aF
   rcases hb with⟨aj,hb⟩|hb
   ·obtain⟨_,c,t,hc,_,aM,hr⟩:=hI.boxes b _ aj hs hb
    have oE:c[0]? =some (c[0]'(by omega)):=by simp
    exact iQ (hr _ oE)
   ·omega
  ·have:=(List.mem_replicate.1 (List.mem_of_getElem? hs)).2;cases this
 ·exfalso
  rcases Nat.lt_or_ge i ops.size with h|h
  ·simp[h]at hl
  ·simp[h]at hl
theorem XD{w0:World}{ao:S0}{e:Env}{a:Act}{w:World}{g:Gh}(hI:Inv gl w0 ao e a w g){id:Nat}{draw:Bool}{K:Env→Prop}{Q:Exit→Act→World→Prop}(hm:P.follows .mixedOrders =true)
  (h:Ae P gl (aD P gl) aE ops.toList e (u5 P gl (aD P gl) (!draw||rv aE ops) ops aE e K))(hQ:∀e a w g,Inv gl w0 ao e a w g→K e→Q .normal a w):(Code.region id ops draw).wp P Q a w:=by
 unfold Ae at h
 cases fo:(!draw||rv aE ops)with
 |false=>
  rw[fo]at h
  obtain⟨e',KC,hK⟩:=H5 _ _ _ h
  have hd:draw=true:=by cases draw<;>simp_all
  subst hd
  refine wp_region_any hm ?_
  have bG:=(hI.E8 (fK ops.toList ops.toList.length)).drew
  have:=H4 (P:=P) (gl:=gl) (aE:=aE) (K:=fun x=>x=e') _ 0 (Array.replicate ops.size false) _ (fun j=>by simp[Array.getElem?_replicate];split<;>rfl) (by simp) (fun j o ho hl=>by
   have hj:j<ops.size:=(Array.getElem?_eq_some_iff.1 ho).1
   simp[hj]at hl) ⟨w0,ao,a,_,_,bG⟩ KC
  have h2:=JM (Q:=Q) (K:=fun x=>x=e') (fun e1 a1 w1 g1 hinv hk=>hQ e1 a1 w1 g1 hinv (by rw[hk];exact hK)) _ _ _ _ _ _ bG this
  simpa using h2
 |true=>
 rw[fo]at h
 replace h:kS P gl (aD P gl) aE ops.toList e.boxes.length ops.toList 0 ⟨e.ai,e.boxes++List.replicate (fK ops.toList ops.toList.length) .none⟩ K:=h
 have bh:=hI.E8 (fK ops.toList ops.toList.length)
 cases draw with
 |false=>
  refine wp_region ?_
  have:=Qr (base:=e.boxes.length) (aE:=aE) hQ ops.toList 0 _ a w _ (fun j=>by simp) bh h
  rw[List.range_eq_range']
  simpa using this
 |true=>
  simp only[Bool.not_true,Bool.false_or]at fo
  refine wp_region_any hm ?_
  have bG:=bh.drew
  have aM:(Array.replicate ops.size false).size =ops.size:=by simp
  have LD:=hI.R0 (ops:=ops) (fK ops.toList ops.toList.length) rfl
  obtain⟨E,vO,fo⟩:∃E,Js ops aE e.boxes.length _ E (Array.replicate ops.size false) ⟨e.ai,e.boxes++List.replicate (fK ops.toList ops.toList.length) .none⟩∧yj E ops aE (reach [] ops.toList) ops.toList 0=true:=by
   unfold rv at fo
   cases jt:eligible ops.toList aE (reach [] ops.toList)with
   |true=>rw[jt]at fo;exact⟨_,fun A hA=>by cases hA;exact⟨rfl,Qp jt,LD⟩,fo⟩
   |false=>rw[jt]at fo;exact⟨none,fun A hA=>(by cases hA),fo⟩
  have:=Jl (P:=P) (gl:=gl) (base:=e.boxes.length) (aE:=aE) ops.toList 0 (Array.replicate ops.size false) _ (fun j=>by simp) (fun j hj=>by omega) (fun j _ hj=>by simp[hj]) aM
   (fun j o ho hl=>by
     have hj:j<ops.size:=(Array.getElem?_eq_some_iff.1 ho).1
     simp[hj]at hl) ⟨w0,ao,a,_,_,bG⟩ vO fo h
  have h2:=JM hQ _ _ _ _ _ _ bG this
  simpa using h2
end
end Go.Proofs.Ytimbllcalipehaa.Ab
namespace Go.Proofs.Ytimbllcalipehaa.Ab
open Go Go.RowKit
def pV(n:Nat)(e e':Env):Prop:=∀i,i<n→e'.boxes.getD i .none =.none ∨(e.boxes.getD i .none ≠.none ∧(e'.boxes.getD i .none).isMap =(e.boxes.getD i .none).isMap)
theorem pV.refl(n:Nat)(e:Env):pV n e e:=fun i _=>by
 by_cases h:e.boxes.getD i .none =.none
 ·exact .inl h
 ·exact .inr ⟨h,rfl⟩
theorem pV.trans{n m:Nat}{e e1 e2:Env}(pv:n≤m)(h1:pV n e e1)(h2:pV m e1 e2):pV n e e2:=fun i hi=>by
 rcases h2 i (by omega)with h|⟨h3,h4⟩
 ·exact .inl h
 ·rcases h1 i hi with h|⟨h5,h6⟩
  ·exact absurd h h3
  ·exact .inr ⟨h5,h4.trans h6⟩
section
variable{P:Program}{gl:Nat→Option D}{w0:World}{ao:S0}{e:Env}{a:Act}{w:World}{g:Gh}
theorem Pf{sz:Nat}:∀{L:List D}{i j:Nat}{x c:D},(∀x∈L,x.cells.length=sz)→L[i]? =some x→x.cells[j]? =some c→(bl L)[i*sz+j]? =some (.d c)
 |[],i,j,x,c,_,h,_=>by simp at h
 |y::L,0,j,x,c,hs,h,hc=>by
  simp at h;subst h
  simp only[bl,Nat.zero_mul,Nat.zero_add]
  rw[List.getElem?_append_left (by simp[(List.getElem?_eq_some_iff.1 hc).1]),List.getElem?_map,hc];rfl
 |y::L,i+1,j,x,c,hs,h,hc=>by
  have hy:=hs y (by simp)
  simp only[bl]
  rw[List.getElem?_append_right (by simp[hy,Nat.succ_mul];omega)]
  have:(i+1)*sz+j-(y.cells.map SV.d).length =i*sz+j:=by simp[hy,Nat.succ_mul];omega
  rw[this]
  exact Pf (fun x hx=>hs x (by simp[hx])) (by simpa using h) hc
theorem HH{sz:Nat}:∀{L:List D},(∀x∈L,x.cells.length=sz)→(bl L).length =L.length*sz
 |[],_=>by simp[bl]
 |y::L,hs=>by
  simp only[bl,List.length_append,List.length_map,List.length_cons,hs y (by simp),Nat.succ_mul]
  rw[HH fun x hx=>hs x (by simp[hx])];omega
theorem PL{sz:Nat}{L:List D}(hs:∀x∈L,x.cells.length=sz){o:Nat}{y:SV}(h:(bl L)[o]? =some y):∃i x j c,L[i]? =some x∧x.cells[j]? =some c∧o=i*sz+j∧y=.d c:=by
 have ho:o<L.length*sz:=by rw[←HH hs];exact(List.getElem?_eq_some_iff.1 h).1
 have aM:0<sz:=by
  rcases Nat.eq_zero_or_pos sz with h0|h0
  ·subst h0;simp at ho
  ·exact h0
 have hq:o / sz<L.length:=Nat.div_lt_of_lt_mul (by rw[Nat.mul_comm];exact ho)
 have yS:=Nat.mod_lt o aM
 have hc:(L[o / sz]).cells[o % sz]? =some ((L[o / sz]).cells[o % sz]'(by rw[hs _ (List.getElem_mem hq)];exact yS)):=by simp
 have heq:o / sz*sz+o % sz=o:=by rw[Nat.mul_comm];exact Nat.div_add_mod o sz
 refine⟨o / sz,L[o / sz],o % sz,_,List.getElem?_eq_getElem hq,hc,heq.symm,?_⟩
 have:=Pf hs (List.getElem?_eq_getElem hq) hc
 rw[heq,h]at this
 exact Option.some.inj this
theorem Z7(hI:Inv gl w0 ao e a w g){t:Nat}{x:SV}(hx:e.ai.getD t (.v .undef)=.v x)(hm:∃sz L,x=.bt sz L):
  ∃sz L g',x=.bt sz L∧Inv gl w0 ao ⟨e.ai.set t (.a e.boxes.length L.length sz),e.boxes++[.cells (bl L)]⟩ a w g':=by
 have hs:=jz hI t
 rw[hx]at hs
 have hv:=hs.jB
 have FV:∀(y:Option Nat)(i:Nat)aj,(g.bx++[y])[i]? =some (some aj)→(i<e.boxes.length∧g.bx[i]? =some (some aj))∨(i=e.boxes.length∧y=some aj):=by
  intro y i aj h
  rw[List.getElem?_append,hI.eX]at h
  split at h
  ·exact .inl ⟨by assumption,h⟩
  ·rename_i hi
   right
   have:i-e.boxes.length=0:=by
    rcases Nat.eq_zero_or_pos (i-e.boxes.length)with h0|h0
    ·exact h0
    ·rw[List.getElem?_eq_none (by simp;omega)]at h;cases h
   rw[this]at h
   simp at h
   exact⟨by omega,h⟩
 have build:∀(L:List D)(sz:Nat)(y:Option Nat)(g':Gh),g'.bx=g.bx++[y]→g'.St=g.St→Ext w0.heap.size w g w g' (fun p=>∃j,p=.s t j)→
   (∀(i j:Nat)aj,g'.bx[i]? =some (some aj)→g'.bx[j]? =some (some aj)→i=j)→(∀b,y=some b→w0.heap.size≤b∧b<w.heap.size∧∀o,¬g.St b o)→
   cg w0.heap.size w g' (eW w0.heap.size w g' t) (.a e.boxes.length L.length sz) (a.tmps.getD t undef)→(∀aj,y=some aj→nX w0.heap.size w g' e.boxes.length (.cells (bl L)) aj)→
   Inv gl w0 ao ⟨e.ai.set t (.a e.boxes.length L.length sz),e.boxes++[.cells (bl L)]⟩ a w g':=by
  intro L sz y g' dA aS hX gm hy mN aeC
  refine⟨hI.below,by simp[hI.size],fun i s ml=>?_,by rw[dA];simp[hI.eX],fun b bx aj h1 h2=>?_,gm,fun b o h=>by rw[aS];exact hI.fN b o h,fun b o h=>?_,fun b h=>?_,hI.j3.ext hX,hI.defers,fun D o hD=>(have h:=hI.eN D o hD;have k:=hX.df D o h.1 h.2.1 h.2.2.1;⟨k.2.1,k.2.2.1,k.1,fun x hx=>h.2.2.2 x (k.2.2.2 x hx)⟩),fun b o v hv=>(have h:=hI.cls b o v hv;⟨(hX.st b o h.1).1,(hX.st b o h.1).2.1.trans h.2⟩),hI.jq⟩
  ·rw[List.getElem?_set]at ml
   split at ml
   ·rename_i gH
    subst gH
    split at ml
    ·cases ml;exact mN
    ·cases ml
   ·rename_i gH
    exact hX.slot (fun j=>by rintro⟨j',hj⟩;cases hj;exact gH rfl) (hI.ai i s ml)
  ·rw[dA]at h2
   rcases FV y b aj h2 with⟨aF,h3⟩|⟨rfl,h3⟩
   ·simp only at h1
    rw[List.getElem?_append_left aF]at h1
    exact hX.box (fun j=>by rintro⟨j',hj⟩;cases hj) rfl (hI.boxes b bx aj h1 h3)
   ·simp at h1
    subst h1
    exact aeC aj h3
  ·rw[aS]at h
   refine⟨(hI.cE b o h).1,fun hm=>?_,(hI.cE b o h).2.2⟩
   rw[dA]at hm
   rcases List.mem_append.1 hm with hm|hm
   ·exact(hI.cE b o h).2.1 hm
   ·simp at hm
    exact(hy b hm.symm).2.2 o h
  ·rw[dA]at h
   rcases List.mem_append.1 h with h|h
   ·exact hI.dn b h
   ·simp at h
    exact⟨(hy b h.symm).1,(hy b h.symm).2.1⟩
 obtain⟨sz,L,rfl⟩:=hm
 have lU:a.eval (.tmp t)=a.tmps.getD t undef:=rfl
 rw[lU]at hv
 generalize hZ:a.tmps.getD t undef=v at hv
 cases hv with
 |bt _ _ _ gg cap vs bJ hm aM hf ho aP hc=>
  obtain⟨o1,o2,o3,⟨cur,te,o4,qq⟩,o5⟩:=ho
  let g':Gh:={g with bx:=g.bx++[some gg]}
  have hX:Ext w0.heap.size w g w g' (fun p=>∃j,p=.s t j):=by
   refine⟨fun D ob hb eh h=>⟨h,(fun hm=>by
    rcases List.mem_append.1 hm with hm|hm
    ·exact hb hm
    ·simp at hm
     subst hm
     rw[o1]at eh
     cases eh),eh,fun _ h=>h⟩,fun _ _ h=>⟨h,.refl _ _ _⟩,fun _ _ _=>rfl,fun i aj h=>?_,fun p b a' c hp bO=>⟨?_,.refl _ _ _⟩,.refl _⟩
   ·show(g.bx++[some gg])[i]? =_
    rw[List.getElem?_append_left (List.getElem?_eq_some_iff.1 h).1];exact h
   ·obtain⟨p1,p2,p3,p4,p5⟩:=bO
    refine⟨p1,p2,fun hm=>?_,p4,p5⟩
    rcases List.mem_append.1 hm with hm|hm
    ·exact p3 hm
    ·simp at hm
     subst hm
     rw[o1]at p1
     cases p1
     exact hp ⟨0,rfl⟩
  have hlen:(bl L).length =L.length*sz:=HH aM
  have aeD:L.length*sz≤cap*sz:=Nat.mul_le_mul_right _ bJ
  refine⟨sz,L,g',rfl,build L sz (some gg) g' rfl rfl hX ?_ ?_ ?_ ?_⟩
  ·intro i j aj h1 h2
   have no:∀(i:Nat),g.bx[i]? =some (some gg)→False:=fun i h=>o3 (List.mem_of_getElem? h)
   rcases FV (some gg) i aj h1 with⟨h3,h4⟩|⟨h3,h4⟩
   ·rcases FV (some gg) j aj h2 with⟨h5,h6⟩|⟨h5,h6⟩
    ·exact hI.nodup i j aj h4 h6
    ·cases h6;exact(no i h4).elim
   ·rcases FV (some gg) j aj h2 with⟨h5,h6⟩|⟨h5,h6⟩
    ·cases h4;exact(no j h6).elim
    ·omega
  ·intro b hb
   cases hb
   exact⟨o2,(Array.getElem?_eq_some_iff.1 o4).1,fun o=>o5 o (Nat.zero_le _)⟩
  ·rw[hZ]
   refine .a _ _ _ _ _ (Nat.le_trans bJ hm) ⟨gg,cap,?_,bJ,rfl,hm,cur,te,o4,qq⟩
   show(g.bx++[some gg])[e.boxes.length]? =_
   rw[←hI.eX];simp
  ·intro aj dk
   cases dk
   have mY:∀(o:Nat)y,o<(bl L).length →cur[o]? =some y→y=vs o:=by
    intro o y ho hy
    have h1:=aP o (by rw[←hlen];exact ho)
    rw[cell_of_row w gg o cur te (0,0) o4,hy]at h1
    exact Option.some.inj h1
   refine⟨o2,cur,te,o4,fun j y hj hy=>?_,by rw[hlen,qq];exact aeD,fun j x y hx hy=>?_⟩
   ·have oC:j<(bl L).length :=hj
    obtain⟨i,x,k,c,h1,h2,rfl,_⟩:=PL aM (List.getElem?_eq_getElem oC)
    rw[mY _ y oC hy]
    exact(hc i x k c h1 h2).rb (hf x (List.mem_of_getElem? h1) c (List.mem_of_getElem? h2))
   ·have oC:=(List.getElem?_eq_some_iff.1 hx).1
    obtain⟨i,x',k,c,h1,h2,rfl,rfl⟩:=PL aM hx
    rw[mY _ y oC hy]
    exact .d _ _ _ (hc i x' k c h1 h2)
theorem EY(b:Nat)(r:Nat→SV)(rm:SV)(ts:List Nat):∀(l:List Slot)(k i:Nat),(lB b r rm ts l k)[i]? =(l[i]?).map fun s=>bif ts.contains (k+i)then AW b r rm s else s
 |[],_,_=>by simp[lB]
 |s::l,k,i=>by
  cases i with
  |zero=>simp[lB]
  |succ i=>
   simp only[lB,List.getElem?_cons_succ]
   rw[EY b r rm ts l (k+1) i,show k+1+i=k+(i+1) by omega]
theorem zX(b:Nat)(r:Nat→SV)(rm:SV)(ts:List Nat):∀(l:List Slot)(k:Nat),(lB b r rm ts l k).length =l.length
 |[],_=>rfl
 |_::l,k=>by simp[lB,zX b r rm ts l (k+1)]
theorem Ol{b:Nat}{ts:List Nat}:∀{l:List Slot}{k:Nat},tx b ts l k=true→∀(i:Nat)s,l[i]? =some s→ts.contains (k+i)=false→s.has b=false
 |[],_,_,i,s,h,_=>by simp at h
 |s'::l,k,hk,i,s,h,hc=>by
  simp only[tx,Bool.and_eq_true]at hk
  cases i with
  |zero=>
   simp at h;subst h
   have:=hk.1
   rw[Nat.add_zero]at hc
   rw[hc]at this
   simpa using this
  |succ i=>exact Ol hk.2 i s (by simpa using h) (by rw[show k+1+i=k+(i+1) by omega];exact hc)
theorem EP{b:Nat}:∀{l:List af},pY b l=true→∀(i:Nat)s,l[i]? =some (.one s)→s.has b=false
 |[],_,i,s,h=>by simp at h
 |x::l,hk,i,s,h=>by
  cases i with
  |zero=>
   simp at h;subst h
   simp only[pY,Bool.and_eq_true]at hk
   simpa using hk.1
  |succ i=>
   have bR:pY b l=true:=by cases x<;>simp only[pY,Bool.and_eq_true]at hk<;>first|exact hk|exact hk.2
   exact EP bR i s (by simpa using h)
theorem H6{b:Nat}:∀{l:List Slot},Slot.u2 b l=false→∀(i:Nat)s,l[i]? =some s→s.has b=false
 |[],_,i,s,h=>by simp at h
 |x::l,hk,i,s,h=>by
  simp only[Slot.u2,Bool.or_eq_false_iff]at hk
  cases i with
  |zero=>simp at h;subst h;exact hk.1
  |succ i=>exact H6 hk.2 i s (by simpa using h)
theorem cg.R1{base:Nat}{g':Gh}{b:Nat}(aS:∀b' o,g.St b' o→g'.St b' o)(dA:∀(i:Nat)aj,i≠b→g.bx[i]? =some (some aj)→g'.bx[i]? =some (some aj)){O:Nat→Nat→Nat→Nat→Prop}{s:Slot}{v:Value}
  (r:cg base w g O s v):∀{O':Nat→Nat→Nat→Nat→Prop},(∀j b a c,O j b a c→O' j b a c)→s.has b=false→cg base w g' O' s v:=by
 induction r with
 |v O x y h=>intro O' hO _;exact .v _ _ _ (h.mono (fun b o h=>⟨aS b o h,.refl _ _ _⟩) (fun _ _ _=>rfl) _ (fun _ _ _ h=>⟨hO 0 _ _ _ h,.refl _ _ _⟩))
 |p O b' off aj h=>intro O' _ hh;exact .p _ _ _ _ (dA _ _ (by simpa[Slot.has]using hh) h)
 |a O b' n sz v hm h=>intro O' _ hh;exact .a _ _ _ _ _ hm (by obtain⟨aj,cap,h1,h2,h3⟩:=h;exact⟨aj,cap,dA _ _ (by simpa[Slot.has]using hh) h1,h2,h3⟩)
 |m O b' aj h=>intro O' _ hh;exact .m _ _ _ (dA _ _ (by simpa[Slot.has]using hh) h)
 |c O f first cap fv cv hf hc _ _ iV iW=>
  intro O' _ hh
  simp only[Slot.has,Bool.or_eq_false_iff]at hh
  exact .c _ f first cap fv cv hf hc (fun i x v h1 h2=>iV i x v h1 h2 (fun _ _ _ _ h=>h) (H6 hh.1 i x h1)) (fun i x v h1 h2=>iW i x v h1 h2 (fun _ _ _ _ h=>h) (H6 hh.2 i x h1))
 |t O xs vs hl hc=>intro O' hO _;exact .t _ xs vs hl fun j x v h1 h2=>(hc j x v h1 h2).mono (fun b o h=>⟨aS b o h,.refl _ _ _⟩) (fun _ _ _=>rfl) _ (fun _ _ _ h=>⟨hO j _ _ _ h,.refl _ _ _⟩)
def zp(l:List Slot):Option (Nat×SV)→List Slot
 |none=>l
 |some (t,x)=>l.set t (.v x)
theorem Ip(hI:Inv gl w0 ao e a w g){b:Nat}{ts:List Nat}{r:Nat→SV}{rm:SV}(gr:tx b ts e.ai 0=true){S:Nat→Nat→Prop}(hS:∀b' o,S b' o→g.bx[b]? =some (some b'))
  {dg:List af}(dB:dg.length=e.boxes.length){ov:Option (Nat×SV)}{BF:Nat→Option Pos}(qw:∀b',some b'∉g.bx→BF b'=g.ow b')(g':Gh)(ie:g'={St:=fun b' o=>g.St b' o∨S b' o,bx:=g.bx.set b none,ow:=BF})
  (abz:∀(i:Nat)bx aj,i≠b→dg[i]? =some bx→g.bx[i]? =some (some aj)→(e.boxes[i]? =some bx∧∀s,bx=.one s→s.has b=false)∨nX w0.heap.size w g' i bx aj)
  (LF:∀t x,ov=some (t,x)→aJ w g'.St w0.heap.size (eW w0.heap.size w g' t 0) x (a.tmps.getD t undef))
  (hr:(∀(n sz:Nat)(v:Value),cg w0.heap.size w g (fun _ _ _ _=>False) (Slot.a b n sz) v→aJ w g'.St w0.heap.size (fun _ _ _=>False) (r n) v)∧
    (∀(v:Value),cg w0.heap.size w g (fun _ _ _ _=>False) (Slot.m b) v→aJ w g'.St w0.heap.size (fun _ _ _=>False) rm v)):
  Inv gl w0 ao ⟨(zp (lB b r rm ts e.ai 0) ov),dg⟩ a w g':=by
 subst ie
 let g':Gh:={St:=fun b' o=>g.St b' o∨S b' o,bx:=g.bx.set b none,ow:=BF}
 have LG:∀b' o,S b' o→some b'∈g.bx:=fun b' o h=>List.mem_of_getElem? (hS b' o h)
 have dA:∀(i:Nat)aj,i≠b→g.bx[i]? =some (some aj)→g'.bx[i]? =some (some aj):=fun i aj hi h=>by
  show(g.bx.set b none)[i]? =_
  rw[List.getElem?_set_ne (fun h=>hi h.symm)];exact h
 have Dh:∀(i:Nat)aj,g'.bx[i]? =some (some aj)→i≠b∧g.bx[i]? =some (some aj):=fun i aj h=>by
  have h:(g.bx.set b none)[i]? =some (some aj):=h
  rw[List.getElem?_set]at h
  split at h
  ·split at h<;>simp at h
  ·rename_i hi;exact⟨fun h=>hi h.symm,h⟩
 have eb:∀b',some b'∈g'.bx→some b'∈g.bx:=fun b' h=>by
  obtain⟨i,hi⟩:=List.mem_iff_getElem?.1 h
  exact List.mem_of_getElem? (Dh i b' hi).2
 have hY:∀p b' a' c,eJ w0.heap.size w g p b' a' c→eJ w0.heap.size w g' p b' a' c:=by
  rintro p b' a' c ⟨h1,h2,h3,h4,h5⟩
  exact⟨(qw b' h3).trans h1,h2,fun hm=>h3 (eb b' hm),h4,fun o ho=>by rintro(h|h);exact h5 o ho h;exact h3 (LG b' o h)⟩
 have aS:∀b' o,g.St b' o→g'.St b' o:=fun _ _ h=>.inl h
 have jr:(zp (lB b r rm ts e.ai 0) ov).length =e.ai.length:=by
  cases ov with
  |none=>exact zX _ _ _ _ _ _
  |some p=>simp[zp,zX]
 refine⟨hI.below,by rw[jr];exact hI.size,fun i s hs=>?_,by simp[hI.eX,dB],fun i bx aj h1 h2=>?_,fun i j aj h1 h2=>hI.nodup i j aj (Dh i aj h1).2 (Dh j aj h2).2,fun b' o h=>.inl (hI.fN b' o h),fun b' o h=>?_,fun b' h=>hI.dn b' (eb b' h),?_,hI.defers,fun D o hD=>(have h:=hI.eN D o hD;⟨fun hm=>h.1 (eb D hm),(qw D h.1).trans h.2.1,h.2.2.1,fun x hx=>h.2.2.2 x (hx.elim id fun e=>absurd (LG D x e) h.1)⟩),fun b o v hv=>(have h:=hI.cls b o v hv;⟨.inl h.1,h.2⟩),hI.jq⟩
 ·have hs:(∃x,ov=some (i,x)∧s=.v x)∨(lB b r rm ts e.ai 0)[i]? =some s:=by
   cases Sn:ov with
   |none=>rw[Sn]at hs;exact .inr hs
   |some p=>
    obtain⟨t,x⟩:=p
    rw[Sn]at hs
    simp only[zp,List.getElem?_set]at hs
    split at hs
    ·rename_i gH
     subst gH
     split at hs
     ·cases hs;exact .inl ⟨x,rfl,rfl⟩
     ·cases hs
    ·exact .inr hs
  rcases hs with⟨x,hx,rfl⟩|hs
  ·exact .v _ _ _ (LF i x hx)
  simp only[EY,Option.map_eq_some_iff,Nat.zero_add]at hs
  obtain⟨s0,lQ,rfl⟩:=hs
  have h0:=hI.ai i s0 lQ
  have eM:s0.has b=false→cg w0.heap.size w g' (eW w0.heap.size w g' i) s0 (a.tmps.getD i undef):=fun hh=>h0.R1 aS dA (fun j b' a' c ho=>hY _ b' a' c ho) hh
  cases hc:ts.contains i with
  |false=>exact eM (Ol gr i s0 lQ (by simpa using hc))
  |true=>
   simp only[cond_true]
   have Rd:∀v,cg w0.heap.size w g' (eW w0.heap.size w g' i) (.v .undef) v:=fun v=>.v _ _ _ (.undef _ _)
   have lift:∀{x v},aJ w g'.St w0.heap.size (fun _ _ _=>False) x v→cg w0.heap.size w g' (eW w0.heap.size w g' i) (.v x) v:=fun h=>.v _ _ _ (h.mono (fun _ _ h=>⟨h,.refl _ _ _⟩) (fun _ _ _=>rfl) _ (fun _ _ _ h=>h.elim))
   cases s0 with
   |v x=>exact eM rfl
   |t x=>exact eM rfl
   |p b' off=>
    simp only[AW]
    cases hb:b'==b with
    |true=>exact Rd _
    |false=>exact eM (by simp[Slot.has,hb])
   |a b' n sz=>
    simp only[AW]
    cases hb:b'==b with
    |true=>
     have:=beq_iff_eq.1 hb
     subst this
     exact lift (hr.1 n sz _ h0.aa)
    |false=>exact eM (by simp[Slot.has,hb])
   |m b'=>
    simp only[AW]
    cases hb:b'==b with
    |true=>
     have:=beq_iff_eq.1 hb
     subst this
     exact lift (hr.2 _ h0.aa)
    |false=>exact eM (by simp[Slot.has,hb])
   |c f x y=>
    simp only[AW]
    cases hb:(Slot.u2 b x||Slot.u2 b y)with
    |true=>exact Rd _
    |false=>exact eM (by simp only[Slot.has,hb])
 ·obtain⟨bg,pq⟩:=Dh i aj h2
  rcases abz i bx aj bg h1 pq with⟨rY,hsb⟩|hb
  rotate_left
  ·exact hb
  have hb:=hI.boxes i bx aj rY pq
  cases bx with
  |none=>exact hb.elim
  |cells cs=>
   obtain⟨q0,c,t,q1,q2,q3⟩:=hb
   exact⟨q0,c,t,q1,q2,q3.1,fun j x y hx hy=>(q3.2 j x y hx hy).mono (fun b' o h=>⟨aS b' o h,.refl _ _ _⟩) (fun _ _ _=>rfl) _ (fun _ _ _ h=>⟨hY _ _ _ _ h,.refl _ _ _⟩)⟩
  |one s=>
   obtain⟨q0,c,t,q1,q2,q3⟩:=hb
   exact⟨q0,c,t,q1,q2,q3.1,fun y hy=>(q3.2 y hy).R1 aS dA (fun _ _ _ _ h=>hY _ _ _ _ h) (hsb s rfl)⟩
  |map l=>
   obtain⟨q0,es,clock,q1,q2,q3⟩:=hb
   exact⟨q0,es,clock,q1,q2,fun j x y hx hy=>⟨(q3 j x y hx hy).1,(q3 j x y hx hy).2.1,(q3 j x y hx hy).2.2.mono fun b' o h=>⟨aS b' o h,rfl⟩⟩⟩
 ·rcases h with h|h
  ·exact⟨(hI.cE b' o h).1,fun hm=>(hI.cE b' o h).2.1 (eb b' hm),(hI.cE b' o h).2.2⟩
  ·have hm:=LG b' o h
   have aF:=hI.dn b' hm
   refine⟨.inr aF.1,fun lT=>?_,aF.2⟩
   obtain⟨i,hi⟩:=List.mem_iff_getElem?.1 lT
   obtain⟨bg,eE⟩:=Dh i b' hi
   exact bg (hI.nodup i b b' eE (hS b' o h))
 ·intro n x hx
  obtain⟨q0,vs,q1,q2⟩:=hI.j3 n x hx
  exact⟨q0,vs,fun i hi=>⟨(q1 i hi).1,aS _ _ (q1 i hi).2⟩,fun i c hc=>(q2 i c hc).mono fun b' o h=>⟨aS b' o h,rfl⟩⟩
theorem PM(hI:Inv gl w0 ao e a w g){b:Nat}{ts:List Nat}{r:Nat→SV}{rm:SV}(dF:mb b ts e=true){S:Nat→Nat→Prop}(hS:∀b' o,S b' o→g.bx[b]? =some (some b'))
  (bc:∀(g':Gh),g'.St=(fun b' o=>g.St b' o∨S b' o)→(∀(n sz:Nat)(v:Value),cg w0.heap.size w g (fun _ _ _ _=>False) (Slot.a b n sz) v→aJ w g'.St w0.heap.size (fun _ _ _=>False) (r n) v)∧
    (∀(v:Value),cg w0.heap.size w g (fun _ _ _ _=>False) (Slot.m b) v→aJ w g'.St w0.heap.size (fun _ _ _=>False) rm v)):
  ∃g',Inv gl w0 ao (tz b r rm ts e) a w g':=by
 simp only[mb,Bool.and_eq_true]at dF
 refine⟨_,Ip hI dF.1 hS (dg:=e.boxes.set b .none) (by simp) (ov:=none) (BF:=g.ow) (fun _ _=>rfl) _ rfl (fun i bx aj bg h1 h2=>.inl ?_) (fun t x h=>by cases h) (bc _ rfl)⟩
 rw[List.getElem?_set_ne (fun h=>bg h.symm)]at h1
 exact⟨h1,fun s hs=>by subst hs;exact EP dF.2 i s h1⟩
theorem Inv.JN(hI:Inv gl w0 ao e a w g){t:Nat}{s:Slot}(hs:cg w0.heap.size w g (eW w0.heap.size w g t) s (a.tmps.getD t undef)):Inv gl w0 ao ⟨e.ai.set t s,e.boxes⟩ a w g:=by
 refine⟨hI.below,by simp[hI.size],fun i x hx=>?_,hI.eX,hI.boxes,hI.nodup,hI.fN,hI.cE,hI.dn,hI.j3,hI.defers,hI.eN,hI.cls,hI.jq⟩
 simp only[List.getElem?_set]at hx
 split at hx
 ·rename_i gH
  subst gH
  split at hx
  ·cases hx;exact hs
  ·cases hx
 ·exact hI.ai i x hx
theorem XE{x y:SV}(h:nW x=some y){St:Nat→Nat→Prop}{base:Nat}{O:Nat→Nat→Nat→Prop}{v:Value}(r:aJ w St base O x v):aJ w St base O y v:=by
 unfold nW at h
 split at h
 ·cases h
  have:=r.data
  cases this
  exact .d _ _ _ (.ir _)
 ·cases h;exact r
 ·cases h
theorem Z8(hI:Inv gl w0 ao e a w g){t:Nat}{x y:SV}(hx:e.ai.getD t (.v .undef)=.v x)(h:u3 x=some y):∃g',Inv gl w0 ao ⟨e.ai.set t (.v y),e.boxes⟩ a w g':=by
 have hs:=jz hI t
 rw[hx]at hs
 have hv:=hs.jB
 have lU:a.eval (.tmp t)=a.tmps.getD t undef:=rfl
 rw[lU]at hv
 unfold u3 at h
 split at h
 ·rename_i sz L
  cases h
  generalize hZ:a.tmps.getD t undef=v at hv
  cases hv with
  |bt _ _ _ gg cap vs bJ hm aM hf ho aP hc=>
   obtain⟨o1,o2,o3,⟨cur,te,o4,qq⟩,o5⟩:=ho
   let g':Gh:={g with St:=fun b o=>g.St b o∨(b=gg∧o<L.length*sz)}
   have hX:Ext w0.heap.size w g w g' (fun p=>∃j,p=.s t j):=by
    refine⟨fun D ob hb eh h=>⟨h,hb,eh,fun x hx=>hx.elim id fun e=>(by rw[e.1]at eh;rw[o1]at eh;cases eh)⟩,fun _ _ h=>⟨.inl h,.refl _ _ _⟩,fun _ _ _=>rfl,fun _ _ h=>h,fun p b a' c hp bO=>⟨?_,.refl _ _ _⟩,.refl _⟩
    obtain⟨p1,p2,p3,p4,p5⟩:=bO
    refine⟨p1,p2,p3,p4,fun o ho=>?_⟩
    rintro(h|⟨rfl,_⟩)
    ·exact p5 o ho h
    ·rw[o1]at p1;cases p1;exact hp ⟨0,rfl⟩
   refine⟨g',hI.stepG (dst:=none) (s:=.t []) (v:=undef) (ai:=e.ai.set t (.v (.own sz L))) hX (Below.refl _ _) (by simp) (fun i x hx _=>?_) (fun d hd=>by cases hd) hI.eX (fun b bx aj h1 h2=>hX.box (fun j=>by rintro⟨j',h⟩;cases h) rfl (hI.boxes b bx aj h1 h2)) hI.nodup hI.dn (fun b o h=>?_)⟩
   ·rw[List.getElem?_set]at hx
    split at hx
    ·rename_i gH
     subst gH
     split at hx
     ·cases hx
      rw[hZ]
      refine .v _ _ _ (.own _ sz L gg cap (.sl sz L gg 0 cap vs bJ (Nat.le_trans bJ hm) aM hf (fun o ho=>⟨by rw[Nat.zero_add];exact aP o ho,.inr ⟨rfl,by omega⟩⟩) (fun i x j c h1 h2=>(hc i x j c h1 h2).mono fun b o h=>⟨.inl h,rfl⟩)) hm ⟨o1,o2,o3,⟨cur,te,o4,qq⟩,fun o ho=>?_⟩)
      rintro(h|⟨_,h⟩)
      ·exact o5 o (by omega) h
      ·omega
     ·cases hx
    ·rename_i gH
     exact hX.slot (fun j=>by rintro⟨j',h⟩;cases h;exact gH rfl) (hI.ai i x hx)
   ·rcases h with h|⟨rfl,_⟩
    ·exact hI.cE b o h
    ·exact⟨.inr o2,o3,(Array.getElem?_eq_some_iff.1 o4).1⟩
 ·cases h
  refine⟨g,hI.JN (.v _ _ _ ?_)⟩
  have:=hv.data
  generalize a.tmps.getD t undef=v at this ⊢
  cases this
  exact .d _ _ _ (.ir _)
 ·cases h
  exact⟨g,hI.JN (.v _ _ _ (.d _ _ _ hv.data))⟩
 ·cases h
theorem NU{agg:Bool}{sz:Nat}(Di:agg=false→sz=1):∀{n:Nat}{l:List D}{L:List D},eP agg sz n l=some L→(∀d∈l,d.one=true)→L.length=n∧l.length=n*sz∧(∀x∈L,x.cells.length=sz∧∀c∈x.cells,c.one=true)∧
  ∀(i:Nat)x(j:Nat)c,L[i]? =some x→x.cells[j]? =some c→l[i*sz+j]? =some c
 |0,[],L,h,_=>by simp only[eP,Option.some.injEq]at h;subst h;simp
 |0,_::_,L,h,_=>by simp[eP]at h
 |n+1,l,L,h,cq=>by
  simp only[eP]at h
  split at h
  ·rename_i hle
   split at h
   ·rename_i r hr
    cases h
    obtain⟨h1,h2,h3,h4⟩:=NU Di hr (fun d hd=>cq d (List.mem_of_mem_drop hd))
    have Tj:(br agg (l.take sz)).cells =l.take sz:=Ny (fun d hd=>cq d (List.mem_of_mem_take hd)) (fun h=>by rw[List.length_take,Di h];have:=Di h;omega)
    simp only[List.length_drop]at h2
    refine⟨by simp[h1],by rw[Nat.succ_mul];omega,fun x hx=>?_,fun i x j c hx hc=>?_⟩
    ·rcases List.mem_cons.1 hx with rfl|hx
     ·rw[Tj]
      exact⟨by rw[List.length_take];omega,fun c hc=>cq c (List.mem_of_mem_take hc)⟩
     ·exact h3 x hx
    ·cases i with
     |zero=>
      simp at hx;subst hx
      rw[Tj]at hc
      rw[List.getElem?_take]at hc
      split at hc
      ·simpa using hc
      ·cases hc
     |succ i=>
      have:=h4 i x j c (by simpa using hx) hc
      rw[List.getElem?_drop]at this
      rw[Nat.succ_mul,show i*sz+sz+j=sz+(i*sz+j) by omega]
      exact this
   ·cases h
  ·cases h
theorem IP:∀{cs:List SV}{ds:List D},dG cs=some ds→ds.length=cs.length∧∀(i:Nat)d,ds[i]? =some d→∃x,cs[i]? =some x∧cT x=some d
 |[],ds,h=>by cases h;exact⟨rfl,fun i d h=>by simp at h⟩
 |x::cs,ds,h=>by
  simp only[dG]at h
  split at h
  ·rename_i y hy
   split at h
   ·rename_i r hr
    cases h
    obtain⟨h1,h2⟩:=IP hr
    refine⟨by simp[h1],fun i d hd=>?_⟩
    cases i with
    |zero=>simp at hd;subst hd;exact⟨x,rfl,hy⟩
    |succ i=>exact h2 i d (by simpa using hd)
   ·cases h
  ·cases h
theorem aY.Re{St:Nat→Nat→Prop}{d:D}{v:Value}(r:aY w St d v)(h:v.oneCell'=true):d.one=true:=by
 cases r<;>first|rfl|simp[Value.oneCell']at h
def qc(ws:List Nat)(e e':Env):Prop:=e'.ai.length=e.ai.length∧e.boxes.length≤e'.boxes.length∧(∀t,t∉ws→e'.ai.getD t (.v .undef)=e.ai.getD t (.v .undef))∧pV e.boxes.length e e'
theorem PN{b:Nat}{r:Nat→SV}{rm:SV}{ts:List Nat}:qc ts e (tz b r rm ts e):=by
 refine⟨by simp[tz,zX],by simp[tz],fun t ht=>?_,fun i hi=>?_⟩
 ·simp only[tz,List.getD_eq_getElem?_getD,EY,Nat.zero_add]
  have:ts.contains t=false:=by simpa using ht
  rw[this]
  cases e.ai[t]? <;>rfl
 ·simp only[tz,List.getD_eq_getElem?_getD,List.getElem?_set]
  by_cases hb:b=i
  ·subst hb
   simp[hi]
  ·simp only[hb,if_false]
   by_cases h:(e.boxes[i]?).getD .none =.none
   ·exact .inl h
   ·exact .inr ⟨h,trivial⟩
theorem FC{y:SV}{t:Nat}:qc [t] e ⟨e.ai.set t (.v y),e.boxes⟩:=⟨by simp,Nat.le_refl _,fun u hu=>by
 simp only[List.mem_singleton]at hu
 simp only
 rw[eD (fun h=>hu h.symm)],.refl _ _⟩
theorem Fm{b:Nat}{ts:List Nat}{r:Nat→SV}{rm:SV}{dg:List af}(hl:dg.length=e.boxes.length)(hk:∀i,dg.getD i .none =.none ∨(e.boxes.getD i .none ≠.none ∧(dg.getD i .none).isMap =(e.boxes.getD i .none).isMap)){ov:Option (Nat×SV)}(LF:∀t x,ov=some (t,x)→t∈ts):
  qc ts e ⟨zp (lB b r rm ts e.ai 0) ov,dg⟩:=by
 have GL:∀t,t∉ts→(lB b r rm ts e.ai 0).getD t (.v .undef)=e.ai.getD t (.v .undef):=fun t ht=>by
  simp only[List.getD_eq_getElem?_getD,EY,Nat.zero_add]
  have:ts.contains t=false:=by simpa using ht
  rw[this]
  cases e.ai[t]? <;>rfl
 refine⟨?_,by simp[hl],fun t ht=>?_,fun i _=>hk i⟩
 ·cases ov with
  |none=>exact zX _ _ _ _ _ _
  |some p=>simp[zp,zX]
 ·cases ov with
  |none=>exact GL t ht
  |some p=>
   obtain⟨t',x⟩:=p
   have:=LF t' x rfl
   simp only[zp]
   rw[eD (fun h=>ht (by first|(rw[←h];exact this)|(rw[h];exact this)))]
   exact GL t ht
theorem IQ{b:Nat}{l:List af}:∀i,(l.set b .none).getD i .none =.none ∨(l.getD i .none ≠.none ∧((l.set b .none).getD i .none).isMap =(l.getD i .none).isMap):=fun i=>by
 simp only[List.getD_eq_getElem?_getD,List.getElem?_set]
 by_cases hb:b=i
 ·subst hb
  by_cases hi:b<l.length
  ·simp[hi]
  ·simp[hi]
 ·simp only[hb,if_false]
  by_cases h:(l[i]?).getD .none =.none
  ·exact .inl h
  ·exact .inr ⟨h,trivial⟩
theorem PO{b c:Nat}{x:Slot}{l:List (MK×D)}{bs:List af}(hc:bs[c]? =some (.one x)):∀i,((bs.set b .none).set c (.cells [.mp l])).getD i .none =.none ∨(bs.getD i .none ≠.none ∧(((bs.set b .none).set c (.cells [.mp l])).getD i .none).isMap =(bs.getD i .none).isMap):=fun i=>by
 by_cases hi:c=i
 ·subst hi
  right
  have hl:=(List.getElem?_eq_some_iff.1 hc).1
  simp only[List.getD_eq_getElem?_getD,hc,Option.getD_some]
  rw[List.getElem?_set_self (by simpa using hl)]
  exact⟨by simp,rfl⟩
 ·have:=IQ (b:=b) (l:=bs) i
  simp only[List.getD_eq_getElem?_getD]at this ⊢
  rw[List.getElem?_set_ne hi]
  exact this
theorem Z9{n:Nat}(h:Nat.blt 0 n=true):0<n:=Nat.lt_of_succ_le (Nat.le_of_ble_eq_true h)
theorem aaa(hI:Inv gl w0 ao e a w g){t:Nat}{agg:Bool}{sz:Nat}{ts:List Nat}{b n:Nat}(hs:e.ai.getD t (.v .undef)=.a b n sz){cs:List SV}(cf:e.boxes[b]? =some (.cells cs))(dF:mb b (t::ts) e=true)
  (aM:0<sz)(Di:agg=false→sz=1){ds:List D}(mW:dG cs=some ds){L:List D}(hL:eP agg sz n ds=some L):
  ∃g',Inv gl w0 ao ⟨(lB b (fun _=>.undef) .undef (t::ts) e.ai 0).set t (.v (.bt sz L)),e.boxes.set b .none⟩ a w g':=by
 have mN:=jz hI t
 rw[hs]at mN
 have lU:a.eval (.tmp t)=a.tmps.getD t undef:=rfl
 rw[lU]at mN
 obtain⟨bQ,gn⟩:=mN.AZ
 obtain⟨aj,cap,hb,bJ,hZ,fD,c0,ty0,oE,aeE⟩:=gn
 obtain⟨q0,c,ty,q1,q2,q3,q4⟩:=hI.boxes b _ aj cf hb
 have dq:c=c0∧ty=ty0:=by rw[q1]at oE;cases oE;exact⟨rfl,rfl⟩
 obtain⟨rfl,rfl⟩:=dq
 obtain⟨d1,d2⟩:=IP mW
 have cq:∀d∈ds,d.one=true:=by
  intro d hd
  obtain⟨j,hj⟩:=List.mem_iff_getElem?.1 hd
  obtain⟨x,hx,zq⟩:=d2 j d hj
  have ju:=(List.getElem?_eq_some_iff.1 hx).1
  have hjc:j<c.size:=Nat.lt_of_lt_of_le ju q3
  exact((q4 j x c[j] hx (by simp)).cT zq).Re (q2 j c[j] ju (by simp))
 obtain⟨l1,l2,l3,l4⟩:=NU Di hL cq
 simp only[mb,Bool.and_eq_true]at dF
 have xp:some aj∈g.bx:=List.mem_of_getElem? hb
 refine⟨_,Ip hI (r:=fun _=>.undef) (rm:=.undef) dF.1 (S:=fun _ _=>False) (fun _ _ h=>h.elim) (dg:=e.boxes.set b .none) (by simp) (ov:=some (t,.bt sz L)) (BF:=fun b'=>if b'=aj then some (.s t 0)else g.ow b') (fun b' eg=>if_neg (fun h=>eg (by rw[h];exact xp))) _ rfl (fun i bx nY bg h1 h2=>.inl ?_) (fun t' x h=>?_) ⟨fun _ _ _ _=>.undef _ _,fun _ _=>.undef _ _⟩⟩
 ·rw[List.getElem?_set_ne (fun h=>bg h.symm)]at h1
  exact⟨h1,fun s hs=>by subst hs;exact EP dF.2 i s h1⟩
 ·cases h
  rw[hZ,←l1]
  refine .bt _ sz L aj cap (fun o=>c.getD o undef) (by omega) fD (fun x hx=>(l3 x hx).1) (fun x hx=>(l3 x hx).2) ⟨by simp,q0,fun hm=>?_,⟨c,ty,q1,aeE⟩,fun o _ h=>?_⟩ (fun o ho=>?_) (fun i x j d hx hc=>?_)
  ·obtain⟨i,hi⟩:=List.mem_iff_getElem?.1 hm
   simp only[List.getElem?_set]at hi
   split at hi
   ·split at hi<;>simp at hi
   ·rename_i zk
    exact zk (hI.nodup b i aj hb hi)
  ·rcases h with h|h
   ·exact(hI.cE aj o h).2.1 xp
   ·exact h
  ·rw[cell_of_row w aj o c ty (0,0) q1]
   have:o<c.size:=by rw[l1]at ho;omega
   simp[this]
  ·obtain⟨y,hy,DO⟩:=d2 _ d (l4 i x j d hx hc)
   have m0:=(List.getElem?_eq_some_iff.1 hy).1
   have DP:i*sz+j<c.size:=Nat.lt_of_lt_of_le m0 q3
   have hr:=(q4 _ y c[i*sz+j] hy (by simp)).cT DO
   have hg:(c.getD (i*sz+j) undef)=c[i*sz+j]:=by simp[DP]
   show aY w _ d (c.getD (i*sz+j) undef)
   rw[hg]
   exact hr.mono fun b' o h=>⟨.inl h,rfl⟩
theorem aab(hI:Inv gl w0 ao e a w g){ts:List Nat}{c b:Nat}(hc:e.boxes[c]? =some (.one (.m b))){l:List (MK×D)}(hl:e.boxes[b]? =some (.map l))(bg:b≠c)(gr:tx b ts e.ai 0=true)
  (qz:pY b (e.boxes.set c .none)=true):∃g',Inv gl w0 ao ⟨lB b (fun _=>.undef) .undef ts e.ai 0,(e.boxes.set b .none).set c (.cells [.mp l])⟩ a w g':=by
 refine⟨_,Ip hI (r:=fun _=>.undef) (rm:=.undef) gr (S:=fun b' o=>g.bx[b]? =some (some b')∧o=0) (fun b' o h=>h.1) (dg:=(e.boxes.set b .none).set c (.cells [.mp l])) (by simp) (ov:=none) (BF:=g.ow) (fun _ _=>rfl) _ rfl
  (fun i bx nY LH h1 h2=>?_) (fun t x h=>by cases h) ⟨fun _ _ _ _=>.undef _ _,fun _ _=>.undef _ _⟩⟩
 by_cases LI:c=i
 ·right
  subst LI
  obtain⟨q0,cc,ty,q1,q2,q3,q4⟩:=hI.boxes c _ nY hc h2
  rw[List.getElem?_set_self (by simp;exact(List.getElem?_eq_some_iff.1 hc).1)]at h1
  cases h1
  have rR:cc[0]? =some cc[0]:=by simp
  have hr:=q4 _ rR
  generalize DQ:cc[0]=y at hr rR
  cases hr with
  |m _ _ aj hb=>
   obtain⟨_,es,clock,p1,p2,p3⟩:=hI.boxes b _ aj hl hb
   refine⟨q0,cc,ty,q1,fun j y hj=>q2 j y hj,q3,fun j x y hx hy=>?_⟩
   cases j with
   |succ j=>simp at hx
   |zero=>
    simp at hx;subst hx
    rw[rR]at hy;cases hy
    exact .mp _ l aj es clock p1 (.inr ⟨hb,rfl⟩) p2 fun i x y hx hy=>⟨(p3 i x y hx hy).1,(p3 i x y hx hy).2.1,(p3 i x y hx hy).2.2.mono fun b' o h=>⟨.inl h,rfl⟩⟩
 ·left
  rw[List.getElem?_set_ne LI,List.getElem?_set_ne (fun h=>LH h.symm)]at h1
  exact⟨h1,fun s hs=>by
   subst hs
   exact EP qz i s (by rw[List.getElem?_set_ne LI];exact h1)⟩
theorem aac(hI:Inv gl w0 ao e a w g){x:gS}{k:Env→Prop}(h:ff e k x):∃e' g',Inv gl w0 ao e' a w g'∧k e'∧qc (fj [x]) e e':=by
 cases x with
 |box t By=>
  simp only[ff]at h
  split at h
  ·rename_i x hx
   unfold gB at h
   split at h
   rotate_left
   ·exact⟨e,g,hI,h,rfl,Nat.le_refl _,fun _ _=>rfl,.refl _ _⟩
   ·exact h.elim
   rename_i sz0 L0
   obtain⟨aeF,h⟩:=h
   subst aeF
   obtain⟨sz,L,g',he,bh⟩:=Z7 hI hx ⟨_,_,rfl⟩
   cases he
   refine⟨_,g',bh,h,by simp,by simp,fun u hu=>?_,fun i hi=>?_⟩
   ·simp only[fj,List.mem_singleton]at hu
    simp only
    rw[eD (fun h=>hu h.symm)]
   ·simp only[List.getD_eq_getElem?_getD]
    rw[List.getElem?_append_left hi]
    by_cases h:(e.boxes[i]?).getD .none =.none
    ·exact .inl h
    ·exact .inr ⟨h,rfl⟩
  ·exact h.elim
 |qn t ts=>
  have fr:∀{b r rm},qc (fj [.qn t ts]) e (tz b r rm ts e):=by
   intro b r rm
   have:fj [.qn t ts]=ts:=by simp[fj]
   rw[this];exact PN
  simp only[ff]at h
  split at h
  ·rename_i b n sz0 hs
   split at h
   ·rename_i cs cf
    cases dF:mb b ts e with
    |false=>rw[dF]at h;exact h.elim
    |true=>
     rw[dF,cond_true]at h
     obtain⟨ds,mW,hlen,hk⟩:=aI h
     obtain⟨d1,d2⟩:=IP mW
     refine Exists.elim (PM hI (b:=b) (ts:=ts) (r:=fun m=>jA m n (.d (.sl .ro 1 ds))) (rm:=.undef) dF (S:=fun b' o=>g.bx[b]? =some (some b')∧o<n) (fun b' o h=>h.1) (fun g' ie=>⟨fun m By v hv=>?_,fun v hv=>.undef _ _⟩)) fun g' bh=>⟨_,g',bh,hk,fr⟩
     ·unfold jA
      split
      ·rename_i BG
       subst BG
       obtain⟨bQ,gn⟩:=hv.AZ
       have LJ:ds.length=m:=d1.trans hlen
       obtain⟨aj,cap,hb,bJ,rfl,_⟩:=gn
       obtain⟨q0,c,ty,q1,q2,q3,q4⟩:=hI.boxes b _ aj cf hb
       have cq:∀d∈ds,d.one=true:=by
        intro d hd
        obtain⟨j,hj⟩:=List.mem_iff_getElem?.1 hd
        obtain⟨x,hx,zq⟩:=d2 j d hj
        have ju:=(List.getElem?_eq_some_iff.1 hx).1
        have hjc:j<c.size:=Nat.lt_of_lt_of_le ju q3
        exact((q4 j x c[j] hx (by simp)).cT zq).Re (q2 j c[j] ju (by simp))
       have de:∀d∈ds,d.cells=[d]:=fun d hd=>D.wk (cq d hd)
       have:=aY.sl (w:=w) (St:=g'.St) 1 ds aj 0 cap (fun o=>c.getD o undef) (by omega) (by omega) (fun d hd=>by rw[de d hd];rfl)
        (fun d hd x hx=>by rw[de d hd]at hx;rw[List.mem_singleton.1 hx];exact cq d hd) (fun o ho=>⟨by
          rw[cell_of_row w aj (0+o) c ty (0,0) q1]
          have:o<c.size:=by omega
          simp[this],by rw[ie];exact .inr ⟨hb,by omega⟩⟩) (fun i d j x hd hx=>by
          rw[de d (List.mem_of_getElem? hd)]at hx
          have hj:j=0:=by
           cases j with
           |zero=>rfl
           |succ j=>simp at hx
          subst hj
          simp at hx;subst hx
          obtain⟨y,hy,DO⟩:=d2 i d hd
          have m0:=(List.getElem?_eq_some_iff.1 hy).1
          have DP:i<c.size:=Nat.lt_of_lt_of_le m0 q3
          have hr:=(q4 i y c[i] hy (by simp)).cT DO
          simp only[Nat.mul_one,Nat.add_zero]
          simp[DP]
          exact hr.mono fun b' o h=>⟨by rw[ie];exact .inl h,rfl⟩)
       rw[LJ]at this
       exact .d _ _ _ this
      ·exact .undef _ _
   ·exact h.elim
  ·rename_i b hs
   split at h
   ·rename_i l hl
    cases dF:mb b ts e with
    |false=>rw[dF]at h;exact h.elim
    |true=>
     rw[dF,cond_true]at h
     refine Exists.elim (PM hI (b:=b) (ts:=ts) (r:=fun _=>.undef) (rm:=.mp l) dF (S:=fun b' o=>g.bx[b]? =some (some b')∧o=0) (fun b' o h=>h.1) (fun g' ie=>⟨fun m By v hv=>.undef _ _,fun v hv=>?_⟩)) fun g' bh=>⟨_,g',bh,h,fr⟩
     ·cases hv with
      |m _ _ aj hb=>
       obtain⟨q0,es,clock,q1,q2,q3⟩:=hI.boxes b _ aj hl hb
       exact .mp _ l aj es clock q1 (by rw[ie];exact .inr ⟨hb,rfl⟩) q2 fun i x y hx hy=>⟨(q3 i x y hx hy).1,(q3 i x y hx hy).2.1,(q3 i x y hx hy).2.2.mono fun b' o h=>⟨by rw[ie];exact .inl h,rfl⟩⟩
   ·exact h.elim
  ·exact⟨e,g,hI,h,rfl,Nat.le_refl _,fun _ _=>rfl,.refl _ _⟩
  ·exact h.elim
 |jE t agg sz ts=>
  simp only[ff]at h
  split at h
  ·rename_i b n s0 hs
   split at h
   ·rename_i cs cf
    cases dF:(mb b (t::ts) e&&Nat.beq s0 sz&&Nat.blt 0 sz&&(agg||Nat.beq sz 1))with
    |false=>rw[dF]at h;exact h.elim
    |true=>
     rw[dF,cond_true]at h
     simp only[Bool.and_eq_true]at dF
     obtain⟨⟨⟨h1,h2⟩,h3⟩,h4⟩:=dF
     have h2:=Nat.eq_of_beq_eq_true h2
     subst h2
     obtain⟨ds,mW,h⟩:=aI h
     obtain⟨L,hL,hk⟩:=aI h
     obtain⟨g',bh⟩:=aaa hI hs cf h1 (Z9 h3) (agg:=agg) (fun ha=>by subst ha;exact Nat.eq_of_beq_eq_true (by simpa using h4)) mW hL
     refine⟨_,g',bh,hk,?_⟩
     have LK:fj [.jE t agg s0 ts]=t::ts:=by simp[fj]
     rw[LK]
     exact Fm (ov:=some (t,.bt s0 L)) List.length_set IQ (fun t' x h=>by cases h;simp)
   ·exact h.elim
  ·exact⟨e,g,hI,h,rfl,Nat.le_refl _,fun _ _=>rfl,.refl _ _⟩
  ·exact h.elim
 |emp t=>
  simp only[ff]at h
  split at h
  ·rename_i x hx
   obtain⟨y,hy,hk⟩:=aI h
   have hs:=jz hI t
   rw[hx]at hs
   exact⟨_,g,hI.JN (.v _ _ _ (XE hy hs.jB)),hk,FC⟩
  ·exact h.elim
 |jF t=>
  simp only[ff]at h
  split at h
  ·rename_i x hx
   obtain⟨y,hy,hk⟩:=aI h
   obtain⟨g',bh⟩:=Z8 hI hx hy
   exact⟨_,g',bh,hk,FC⟩
  ·exact h.elim
 |ph t ts=>
  simp only[ff]at h
  split at h
  ·rename_i c hs
   split at h
   ·rename_i b hb
    split at h
    ·rename_i l hl
     cases dF:(!(Nat.beq b c)&&tx b ts e.ai 0&&pY b (e.boxes.set c .none))with
     |false=>rw[dF]at h;exact h.elim
     |true=>
      rw[dF,cond_true]at h
      simp only[Bool.and_eq_true,Bool.not_eq_true']at dF
      obtain⟨⟨h1,h2⟩,h3⟩:=dF
      have bg:b≠c:=fun e=>by subst e;simp at h1
      obtain⟨g',bh⟩:=aab hI hb hl bg h2 h3
      refine⟨_,g',bh,h,?_⟩
      have:fj [.ph t ts]=ts:=by simp[fj]
      rw[this]
      exact Fm (ov:=none) (by simp) (PO hb) (fun t' x h=>by cases h)
    ·exact h.elim
   ·exact h.elim
  ·exact h.elim
theorem PQ{k k':Env→Prop}(hk:∀e,k e→k' e){e:Env}{x:gS}(h:ff e k x):ff e k' x:=by
 cases x with
 |box t By=>
  simp only[ff]at h ⊢
  split at h
  ·unfold gB at h ⊢
   split at h
   ·exact⟨h.1,hk _ h.2⟩
   ·exact hk _ h
   ·exact h.elim
  ·exact h.elim
 |qn t ts=>
  simp only[ff]at h ⊢
  split at h
  ·split at h
   ·rename_i cs cf
    cases dF:mb _ ts e with
    |false=>rw[dF]at h;exact h.elim
    |true=>
     rw[dF,cond_true]at h
     obtain⟨ds,mW,hl,h⟩:=aI h
     simp only[mW,ab]
     exact⟨hl,hk _ h⟩
   ·exact h.elim
  ·split at h
   ·rename_i l hl
    cases dF:mb _ ts e with
    |false=>rw[dF]at h;exact h.elim
    |true=>
     rw[dF,cond_true]at h
     exact hk _ h
   ·exact h.elim
  ·exact hk _ h
  ·exact h.elim
 |jE t agg sz ts=>
  simp only[ff]at h ⊢
  split at h
  ·split at h
   ·rename_i cs cf
    cases dF:(mb _ (t::ts) e&&Nat.beq _ sz&&Nat.blt 0 sz&&(agg||Nat.beq sz 1))with
    |false=>rw[dF]at h;exact h.elim
    |true=>
     rw[dF,cond_true]at h
     obtain⟨ds,mW,h⟩:=aI h
     obtain⟨L,hL,h⟩:=aI h
     simp only[cond_true,mW,ab,hL]
     exact hk _ h
   ·exact h.elim
  ·exact hk _ h
  ·exact h.elim
 |emp t=>
  simp only[ff]at h ⊢
  split at h
  ·obtain⟨y,hy,h⟩:=aI h
   simp only[hy,ab]
   exact hk _ h
  ·exact h.elim
 |jF t=>
  simp only[ff]at h ⊢
  split at h
  ·obtain⟨y,hy,h⟩:=aI h
   simp only[hy,ab]
   exact hk _ h
  ·exact h.elim
 |ph t ts=>
  simp only[ff]at h ⊢
  split at h
  ·split at h
   ·rename_i b hb
    split at h
    ·rename_i l hl
     cases dF:(!(Nat.beq b _)&&tx b ts e.ai 0&&pY b (e.boxes.set _ .none))with
     |false=>rw[dF]at h;exact h.elim
     |true=>
      rw[dF,cond_true]at h
      simp only[cond_true]
      exact hk _ h
    ·exact h.elim
   ·exact h.elim
  ·exact h.elim
theorem XF{k:Env→Prop}{e:Env}{x:gS}(h:ff e k x):ff e (fun e'=>k e'∧qc (fj [x]) e e') x:=by
 cases x with
 |box t By=>
  simp only[ff]at h ⊢
  split at h
  ·unfold gB at h ⊢
   split at h
   ·refine⟨h.1,h.2,by simp,by simp,fun u hu=>?_,fun i hi=>?_⟩
    ·simp only[fj,List.mem_singleton]at hu
     simp only
     rw[eD (fun h=>hu h.symm)]
    ·simp only[List.getD_eq_getElem?_getD]
     rw[List.getElem?_append_left hi]
     by_cases h:(e.boxes[i]?).getD .none =.none
     ·exact .inl h
     ·exact .inr ⟨h,rfl⟩
   ·exact⟨h,rfl,Nat.le_refl _,fun _ _=>rfl,.refl _ _⟩
   ·exact h.elim
  ·exact h.elim
 |qn t ts=>
  have fr:∀{b r rm},qc (fj [.qn t ts]) e (tz b r rm ts e):=by
   intro b r rm
   have:fj [.qn t ts]=ts:=by simp[fj]
   rw[this];exact PN
  simp only[ff]at h ⊢
  split at h
  ·split at h
   ·rename_i cs cf
    cases dF:mb _ ts e with
    |false=>rw[dF]at h;exact h.elim
    |true=>
     rw[dF,cond_true]at h
     obtain⟨ds,mW,hl,h⟩:=aI h
     simp only[mW,ab]
     exact⟨hl,h,fr⟩
   ·exact h.elim
  ·split at h
   ·rename_i l hl
    cases dF:mb _ ts e with
    |false=>rw[dF]at h;exact h.elim
    |true=>
     rw[dF,cond_true]at h
     exact⟨h,fr⟩
   ·exact h.elim
  ·exact⟨h,rfl,Nat.le_refl _,fun _ _=>rfl,.refl _ _⟩
  ·exact h.elim
 |jE t agg sz ts=>
  simp only[ff]at h ⊢
  split at h
  ·split at h
   ·rename_i cs cf
    cases dF:(mb _ (t::ts) e&&Nat.beq _ sz&&Nat.blt 0 sz&&(agg||Nat.beq sz 1))with
    |false=>rw[dF]at h;exact h.elim
    |true=>
     rw[dF,cond_true]at h
     obtain⟨ds,mW,h⟩:=aI h
     obtain⟨L,hL,h⟩:=aI h
     simp only[cond_true,mW,ab,hL]
     refine⟨h,?_⟩
     have LK:fj [.jE t agg sz ts]=t::ts:=by simp[fj]
     rw[LK]
     exact Fm (ov:=some (t,.bt sz L)) List.length_set IQ (fun t' x h=>by cases h;simp)
   ·exact h.elim
  ·exact⟨h,rfl,Nat.le_refl _,fun _ _=>rfl,.refl _ _⟩
  ·exact h.elim
 |emp t=>
  simp only[ff]at h ⊢
  split at h
  ·obtain⟨y,hy,h⟩:=aI h
   simp only[hy,ab]
   exact⟨h,FC⟩
  ·exact h.elim
 |jF t=>
  simp only[ff]at h ⊢
  split at h
  ·obtain⟨y,hy,h⟩:=aI h
   simp only[hy,ab]
   exact⟨h,FC⟩
  ·exact h.elim
 |ph t ts=>
  simp only[ff]at h ⊢
  split at h
  ·split at h
   ·rename_i b hb
    split at h
    ·rename_i l hl
     cases dF:(!(Nat.beq b _)&&tx b ts e.ai 0&&pY b (e.boxes.set _ .none))with
     |false=>rw[dF]at h;exact h.elim
     |true=>
      rw[dF,cond_true]at h
      simp only[cond_true]
      exact⟨h,by
       have:fj [.ph t ts]=ts:=by simp[fj]
       rw[this]
       exact Fm (ov:=none) (by simp) (PO hb) (fun t' x h=>by cases h)⟩
    ·exact h.elim
   ·exact h.elim
  ·exact h.elim
theorem XG(x:gS)(l:List gS):fj (x::l)=fj [x]++fj l:=by cases x<;>simp[fj]
theorem qc.trans{ws vs:List Nat}{e e1 e2:Env}(h1:qc ws e e1)(h2:qc vs e1 e2):qc (ws++vs) e e2:=
 ⟨h2.1.trans h1.1,Nat.le_trans h1.2.1 h2.2.1,fun t ht=>(h2.2.2.1 t fun h=>ht (List.mem_append_right _ h)).trans (h1.2.2.1 t fun h=>ht (List.mem_append_left _ h)),h1.2.2.2.trans h1.2.1 h2.2.2.2⟩
theorem xY{k k':Env→Prop}(hk:∀e,k e→k' e):∀{l:List gS}{e:Env},gA l e k→gA l e k'
 |[],_,h=>hk _ h
 |x::l,e,h=>PQ (fun e'=>xY hk (l:=l)) (show ff e (fun e'=>gA l e' k) x from h)
theorem H7{k:Env→Prop}:∀{l:List gS}{e:Env},gA l e k→gA l e fun e'=>k e'∧qc (fj l) e e'
 |[],e,h=>⟨h,rfl,Nat.le_refl _,fun _ _=>rfl,.refl _ _⟩
 |x::l,e,h=>PQ (fun _⟨h1,h2⟩=>xY (fun e2⟨h3,h4⟩=>⟨h3,by rw[XG];exact h2.trans h4⟩) (H7 (l:=l) h1)) (XF (show ff e (fun e'=>gA l e' k) x from h))
theorem Ah:∀{l:List gS}{e:Env}{g:Gh}{k:Env→Prop},Inv gl w0 ao e a w g→gA l e k→∃e' g',Inv gl w0 ao e' a w g'∧k e'
 |[],e,g,k,hI,h=>⟨e,g,hI,h⟩
 |x::l,e,g,k,hI,h=>by
  obtain⟨e',g',bh,h',_⟩:=aac hI (show ff e (fun e'=>gA l e' k) x from h)
  exact Ah bh h'
end
end Go.Proofs.Ytimbllcalipehaa.Ab
set_option linter.unusedVariables false
set_option linter.unusedSimpArgs false
namespace Go.Proofs.Ytimbllcalipehaa.Ab
open Go Go.RowKit
section
variable{P:Program}{gl:Nat→Option D}{w0:World}{ao:S0}{e:Env}{a:Act}{w:World}{g:Gh}
def mR(P:Program):List Oper→Act→World→(Act→World→Prop)→Prop
 |[],a,w,R=>R a w
 |o::l,a,w,R=>o.guard=none∧(∀c,o.op≠.defer c)∧∀(next:Act→World→Prop)(Q:Exit→Act→World→Prop),(∀v w1,(a.put o.dst v).defers =[]→mR P l (a.put o.dst v) w1 R→next (a.put o.dst v) w1)→o.wp P a w next Q
theorem mR.val{o:Oper}{l:List Oper}{a:Act}{w:World}{R:Act→World→Prop}{v:Value}{w1:World}(hg:o.guard=none)(gm:∀c,o.op≠.defer c)(hd:a.defers=[])(hr:(execOp a.eval o).run P w=.ok (.value v) w1)(h:mR P l (a.put o.dst v) w1 R):mR P (o::l) a w R:=
 ⟨hg,gm,fun next Q hn=>by unfold Oper.wp;rw[hr];exact hn v w1 ((put_defers a o.dst v).trans hd) h⟩
theorem YO(x:SV):Ab.aa (Ab.aa x)=Ab.aa x:=by cases x<;>rfl
theorem aY.Qs{St:Nat→Nat→Prop}{sz:Nat}{L:List D}{v:Value}(h:aY w St (.sl .nil sz L) v):v=.slice none 0 0∧L=[]:=by
 cases h;exact⟨rfl,rfl⟩
theorem um{a:Act}{d t:Nat}{v:Value}(h:t≠d):(a.put (some d) v).tmps.getD t undef=a.tmps.getD t undef:=by
 simp only[Act.put,Array.getD_eq_getD_getElem?]
 rw[Array.getElem?_setIfInBounds_ne (fun hh=>h hh.symm)]
theorem Inv.aad(hI:Inv gl w0 ao e a w g){t:Nat}{s n:Nat}{L L':List D}{gg cap:Nat}(ht:t<e.ai.length)(hs:eJ w0.heap.size w g (.s t 0) gg 0 (cap*s)){cur n8:Array Value}{te:TypeId}(hc:w.heap[gg]? =some (.cells cur te (0,0)))
  (aM:n8.size=cur.size)(ku:∀(w':World)(St:Nat→Nat→Prop),w'.heap[gg]? =some (.cells n8 te (0,0))→eJ w0.heap.size w' g (.s t 0) gg 0 (cap*s)→(∀d v,aY w g.St d v→aY w' g.St d v)→aJ w' g.St w0.heap.size (eW w0.heap.size w' g t 0) (.bt s L') (a.tmps.getD t undef)):
  Inv gl w0 ao ⟨e.ai.set t (.v (.bt s L')),e.boxes⟩ a (w.setRow gg n8) g:=by
 obtain⟨o1,o2,o3,⟨cu,ty,o4,qq⟩,o5⟩:=hs
 rw[hc]at o4;cases o4
 have hn:=setRow_heap w gg cur n8 te (0,0) hc
 have dZ:=fun k(hk:k≠gg)=>setRow_other w gg k n8 hk
 have adH:∀b' o,g.St b' o→b'≠gg:=fun b' o h he=>o5 o (Nat.zero_le _) (he▸h)
 have hX:Ext w0.heap.size w g (w.setRow gg n8) g (fun p=>p=.s t 0):=by
  refine⟨fun D ob js eh h=>⟨(dZ D (fun he=>by subst he;rw[o1]at eh;cases eh)).trans h,js,eh,fun _ h=>h⟩,fun b' o h=>⟨h,.qV (dZ b' (adH b' o h))⟩,fun b' o h=>World.cell?_of_block (dZ b' (by omega)),fun _ _ h=>h,fun p b' a' c' hp bO=>?_,fun b' c' rQ lT eg=>⟨c',rQ,(dZ b' (fun he=>o3 (he▸lT))).trans eg,rfl⟩⟩
  obtain⟨p1,p2,p3,⟨cu,t',p4,p4'⟩,p5⟩:=bO
  have bg:b'≠gg:=fun he=>by subst he;rw[o1]at p1;cases p1;exact hp rfl
  exact⟨⟨p1,p2,p3,⟨cu,t',(dZ b' bg).trans p4,p4'⟩,p5⟩,fun _=>dZ b' bg⟩
 have adI:eJ w0.heap.size (w.setRow gg n8) g (.s t 0) gg 0 (cap*s):=⟨o1,o2,o3,⟨n8,te,hn,aM.trans qq⟩,o5⟩
 have dB:Below w0.heap.size w (w.setRow gg n8):=⟨rfl,rfl,rfl,by simp[World.setRow],fun k hk=>dZ k (by omega)⟩
 have:=hI.stepG (dst:=none) (s:=.t []) (v:=undef) (ai:=e.ai.set t (.v (.bt s L'))) (aA:=e.boxes) hX dB (by simp) (fun i x hx _=>?_) (fun d hd=>by cases hd) hI.eX
  (fun b' bx aj h1 h2=>hX.box (fun j hh=>by cases hh) (dZ aj (fun he=>o3 (by rw[←he];exact List.mem_of_getElem? h2))) (hI.boxes b' bx aj h1 h2)) hI.nodup (fun b' lT=>by have:=hI.dn b' lT;exact⟨this.1,by simpa[World.setRow]using this.2⟩) (fun b' o h=>by have:=hI.cE b' o h;exact⟨this.1,this.2.1,by simpa[World.setRow]using this.2.2⟩)
 ·exact this
 ·rw[List.getElem?_set]at hx
  split at hx
  ·rename_i gH
   subst gH
   simp only[ht,↓reduceIte,Option.some.injEq]at hx
   subst hx
   exact .v _ _ _ (ku _ (fun _ _=>False) hn adI (fun d v hr=>hX.A9 hr))
  ·rename_i gH
   refine hX.slot (fun j=>?_) (hI.ai i x hx)
   intro hh;cases hh;exact gH rfl
theorem Inv.So(hI:Inv gl w0 ao e a w g){t:Nat}{y:SV}(h:aJ w g.St w0.heap.size (eW w0.heap.size w g t 0) y (a.tmps.getD t undef)):Inv gl w0 ao ⟨e.ai.set t (.v y),e.boxes⟩ a w g:=by
 refine⟨hI.below,by simpa using hI.size,fun i s hs=>?_,hI.eX,hI.boxes,hI.nodup,hI.fN,hI.cE,hI.dn,hI.j3,hI.defers,hI.eN,hI.cls,hI.jq⟩
 rw[List.getElem?_set]at hs
 split at hs
 ·rename_i gH
  subst gH
  split at hs
  ·cases hs;exact .v _ _ _ h
  ·cases hs
 ·exact hI.ai i s hs
theorem XH(hI:Inv gl w0 ao e a w g){t:Nat}{ty:TypeId}{x y:SV}(hx:e.ai.getD t (.v .undef)=.v x)(hy:u7 P ty x=some y)(rQ:TypeId):
  ∃w',(Builtin.clear_ #[ty] rQ #[a.tmps.getD t undef]).run P w=.ok (.tuple #[]) w'∧Inv gl w0 ao ⟨e.ai.set t (.v y),e.boxes⟩ a w' g:=by
 have hr:aJ w g.St w0.heap.size (eW w0.heap.size w g t 0) x (a.tmps.getD t undef):=by
  have:=jz hI t
  rw[hx]at this
  exact this.jB
 unfold u7 at hy
 split at hy
 ·rename_i e' he
  have hu:=B9 he
  split at hy
  ·rename_i z aM hz
   split at hy
   ·rename_i s L
    cases hy
    obtain⟨hv,hL⟩:=hr.data.Qs
    subst hL
    refine⟨w,?_,hI.So (by rw[hv];exact .d _ _ _ (.ir _))⟩
    rw[hv]
    simp[Builtin.clear_,run_underlying hu]
   ·rename_i s L
    split at hy
    ·rename_i gr
     subst gr
     cases hy
     have BA:t<e.ai.length:=by
      rcases Nat.lt_or_ge t e.ai.length with h|h
      ·exact h
      ·rw[List.getD_eq_getElem?_getD,List.getElem?_eq_none h]at hx;cases hx
     generalize hv:a.tmps.getD t undef=v at hr
     cases hr with
     |bt _ _ _ gg cap vs bJ hm Sp hf ho aP hc=>
      rcases Nat.eq_zero_or_pos L.length with h0|h0
      ·have:L=[]:=List.length_eq_zero_iff.1 h0
       subst this
       refine⟨w,?_,?_⟩
       ·rw[List.length_nil]
        simp[Builtin.clear_,run_underlying hu]
       ·refine hI.So ?_
        rw[hv]
        exact .bt _ _ _ gg cap vs bJ hm Sp hf ho aP hc
      ·obtain⟨zv,tT,kC⟩:=OY hz
       obtain⟨i,zv',hzi,hzz,tV,Tb,afT⟩:=O6 hz
       have wM:zv.oneCell'=true:=(kC w (fun _ _=>False)).rb tV
       have pW:zv.cells= #[zv]:=by
        have hh:=tT w
        unfold tc at hz
        rw[hzi]at hz
        simp only at hz
        cases zv<;>first|rfl|simp[Value.oneCell']at wM
       obtain⟨cur,te,o4,qq⟩:=ho.2.2.2.1
       have mY:(Builtin.zeroCells zv.cells L.length).toList =List.replicate L.length zv:=by
        rw[pW]
        apply List.ext_getElem?
        intro i
        simp only[Builtin.zeroCells,Array.toList_map,List.getElem?_map,Array.getElem?_toList,List.getElem?_replicate]
        by_cases hi:i<L.length
        ·simp[hi,Nat.mod_one]
        ·simp[hi]
       have aS:=run_storeCells_at P gg 0 te (List.replicate L.length zv) 0 cur w o4 (by simp;rw[qq];omega) (fun v gn=>by rw[(List.mem_replicate.1 gn).2];exact wM)
       simp only[Nat.add_zero,Nat.zero_add,List.length_replicate,List.take_zero,List.nil_append]at aS
       refine⟨w.setRow gg (List.replicate L.length zv++cur.toList.drop L.length).toArray,?_,?_⟩
       ·have bg:L.length≠0:=by omega
        obtain⟨m,lT⟩:=Nat.exists_eq_succ_of_ne_zero bg
        have Sq:=mY
        rw[lT]at Sq aS ⊢
        simp only[Builtin.clear_,List.getElem?_toArray,List.getElem?_cons_zero,Sem.run_bind,run_underlying hu,Result.andThen_ok,tT,Sq,aS,Sem.run_pure]
       ·have:=hI.aad (t:=t) (s:=1) (n:=0) (L:=L) (L':=L.map fun _=>z) (gg:=gg) (cap:=cap) BA ho o4 (n8:=(List.replicate L.length zv++cur.toList.drop L.length).toArray) (by simp;omega) (fun w' St h1 h2 h3=>?_)
        ·exact this
        ·rw[hv]
         have jn:∀i,i<L.length→(List.replicate L.length zv++cur.toList.drop L.length).toArray[i]? =some zv:=fun i hi=>by
          simp only[List.getElem?_toArray]
          rw[List.getElem?_append_left (by simpa using hi)]
          simp[hi]
         have hlen:(L.map fun _=>z).length =L.length:=by simp
         rw[←hlen]
         refine .bt _ 1 _ gg cap (fun _=>zv) (by simpa using bJ) hm (fun x hx=>?_) (fun x hx c fD=>?_) h2 (fun o bO=>?_) (fun i x j c hx gF=>?_)
         ·obtain⟨_,_,rfl⟩:=List.mem_map.1 hx
          rw[D.wk tV];rfl
         ·obtain⟨_,_,rfl⟩:=List.mem_map.1 hx
          rw[D.wk tV]at fD
          simp at fD;subst fD;exact tV
         ·have DR:o<L.length:=by simpa using bO
          rw[show o=0+o by omega,cell_of_row w' gg (0+o) _ te (0,0) h1]
          rw[Nat.zero_add]
          exact jn o DR
         ·obtain⟨z',_,fm⟩:=List.mem_map.1 (List.mem_of_getElem? hx)
          subst fm
          rw[D.wk tV]at gF
          cases j with
          |zero=>simp at gF;subst gF;exact kC _ _
          |succ j=>simp at gF
    ·cases hy
   ·cases hy
  ·cases hy
 ·cases hy
inductive ym(P:Program):Spec→List Oper→Prop
 |vB (t d:Nat) (ty:TypeId) (o1 o2:Oper) (c:Call) (h1:o1.op=.move (.tmp t)) (d1:o1.dst=some d) (g1:o1.guard=none) (h2:o2.op=.call c) (d2:o2.dst=none) (g2:o2.guard=none) (hc:c.callee=.builtin .clear) (ha:c.args.toList=[.tmp d]) (ht:c.argTypes.toList=[ty]) (bg:t≠d):
   ym P (.vB t d ty) [o1,o2]
 |cut (t d1 d2:Nat) (ty:TypeId) (o1 o2 o3:Oper) (h1:o1.op=.move (.tmp t)) (e1:o1.dst=some d1) (g1:o1.guard=none) (h2:o2.op=.slice ty (.tmp d1) none (some (.const (.int .i64 0))) none) (e2:o2.dst=some d2) (g2:o2.guard=none)
   (h3:o3.op=.assign (.tmp d2)) (e3:o3.dst=some t) (g3:o3.guard=none) (n1:t≠d1) (n2:t≠d2) (n3:d1≠d2):ym P (.cut t d1 d2 ty) [o1,o2,o3]
 |u6 (t d:Nat) (f:FuncId) (u:Nat) (o1 o2:Oper) (c:Call) (h1:o1.op=.move (.tmp t)) (d1:o1.dst=some d) (g1:o1.guard=none) (h2:o2.op=.call c) (d2:o2.dst=some u) (g2:o2.guard=none) (hc:c.callee=.value (.func f)) (ha:c.args.toList=[.tmp d]) (h0:arity P o2.type=0)
   (n1:t≠d) (n2:u≠d) (n3:u≠t):ym P (.u6 t d f u) [o1,o2]
 |uU (t d t2 e2:Nat) (f:FuncId) (u:Nat) (o1 o2 o3:Oper) (c:Call) (h1:o1.op=.move (.tmp t)) (d1:o1.dst=some d) (g1:o1.guard=none) (h2:o2.op=.move (.tmp t2)) (d2:o2.dst=some e2) (g2:o2.guard=none) (h3:o3.op=.call c) (d3:o3.dst=some u) (g3:o3.guard=none) (hc:c.callee=.value (.func f)) (ha:c.args.toList=[.tmp d,.tmp e2]) (h0:arity P o3.type=0)
   (n1:t≠d) (n2:u≠d) (n3:u≠t) (n4:e2≠d) (n5:e2≠t) (n6:t2≠d):ym P (.uU t d t2 e2 f u) [o1,o2,o3]
theorem HN{draw:Bool}{ops:List Oper}{s:Spec}(h:uK P draw ops=some s):draw=false∧ym P s ops:=by
 unfold uK at h
 cases draw with
 |true=>cases h
 |false=>
  refine⟨rfl,?_⟩
  simp only[cond_false]at h
  split at h
  ·rename_i o1 o2
   split at h
   ·rename_i t d c h1 e1 g1 h2 e2 g2
    split at h
    ·rename_i d' ty hc ha ht
     cases hb:(Nat.beq d d'&& !(Nat.beq t d))with
     |false=>rw[hb]at h;cases h
     |true=>
      rw[hb]at h
      cases h
      simp only[Bool.and_eq_true,Bool.not_eq_true']at hb
      have hd:=Nat.eq_of_beq_eq_true hb.1
      subst hd
      exact .vB t d ty o1 o2 c h1 e1 g1 h2 e2 g2 hc ha ht (Nat.ne_of_beq_eq_false hb.2)
    ·cases h
   ·rename_i t d c u h1 e1 g1 h2 e2 g2
    split at h
    ·rename_i f d' hc ha
     cases hb:(Nat.beq (arity P o2.type) 0&&(Nat.beq d d'&& !(Nat.beq t d)&& !(Nat.beq u d)&& !(Nat.beq u t)))with
     |false=>rw[hb]at h;cases h
     |true=>
      rw[hb]at h
      cases h
      simp only[Bool.and_eq_true,Bool.not_eq_true']at hb
      obtain⟨b0,⟨⟨b1,b2⟩,b3⟩,b4⟩:=hb
      have hd:=Nat.eq_of_beq_eq_true b1
      subst hd
      exact .u6 t d f u o1 o2 c h1 e1 g1 h2 e2 g2 hc ha (Nat.eq_of_beq_eq_true b0) (Nat.ne_of_beq_eq_false b2) (Nat.ne_of_beq_eq_false b3) (Nat.ne_of_beq_eq_false b4)
    ·cases h
   ·cases h
  ·rename_i o1 o2 o3
   split at h
   ·rename_i t d1 ty Lf d2 ze t' h1 e1 g1 h2 e2 g2 h3 e3 g3
    cases hb:(Nat.beq d1 Lf&&Nat.beq d2 ze&&Nat.beq t t'&& !(Nat.beq t d1)&& !(Nat.beq t d2)&& !(Nat.beq d1 d2))with
    |false=>rw[hb]at h;cases h
    |true=>
     rw[hb]at h
     cases h
     simp only[Bool.and_eq_true,Bool.not_eq_true']at hb
     obtain⟨⟨⟨⟨⟨b1,b2⟩,b3⟩,b4⟩,b5⟩,b6⟩:=hb
     have DS:=Nat.eq_of_beq_eq_true b1
     have hd2:=Nat.eq_of_beq_eq_true b2
     have hd3:=Nat.eq_of_beq_eq_true b3
     subst DS hd2 hd3
     exact .cut t d1 d2 ty o1 o2 o3 h1 e1 g1 h2 e2 g2 h3 e3 g3 (Nat.ne_of_beq_eq_false b4) (Nat.ne_of_beq_eq_false b5) (Nat.ne_of_beq_eq_false b6)
   ·rename_i t d t2 d2 c u h1 e1 g1 h2 e2 g2 h3 e3 g3
    split at h
    ·rename_i f d' ze hc ha
     cases hb:(Nat.beq (arity P o3.type) 0&&(Nat.beq d d'&&Nat.beq d2 ze&& !(Nat.beq t d)&& !(Nat.beq u d)&& !(Nat.beq u t)&& !(Nat.beq d2 d)&& !(Nat.beq d2 t)&& !(Nat.beq t2 d)))with
     |false=>rw[hb]at h;cases h
     |true=>
      rw[hb]at h
      cases h
      simp only[Bool.and_eq_true,Bool.not_eq_true']at hb
      obtain⟨b0,⟨⟨⟨⟨⟨⟨b1,b1'⟩,b2⟩,b3⟩,b4⟩,b5⟩,b6⟩,b7⟩:=hb
      have hd:=Nat.eq_of_beq_eq_true b1
      have ic:=Nat.eq_of_beq_eq_true b1'
      subst hd ic
      exact .uU t d t2 d2 f u o1 o2 o3 c h1 e1 g1 h2 e2 g2 h3 e3 g3 hc ha (Nat.eq_of_beq_eq_true b0) (Nat.ne_of_beq_eq_false b2) (Nat.ne_of_beq_eq_false b3) (Nat.ne_of_beq_eq_false b4) (Nat.ne_of_beq_eq_false b5) (Nat.ne_of_beq_eq_false b6) (Nat.ne_of_beq_eq_false b7)
    ·cases h
   ·cases h
  ·cases h
theorem Cl{a:Act}{d:Nat}{v:Value}(h:d<a.tmps.size):(a.put (some d) v).eval (.tmp d)=v:=by
 show(a.put (some d) v).tmps.getD d undef=v
 rw[IG a (some d) v d h,if_pos rfl]
theorem pN{b:Bool}{A:Prop}(h:cond b A False):b=true∧A:=by cases b;exact h.elim;exact⟨rfl,h⟩
theorem aae{St:Nat→Nat→Prop}{base:Nat}{O:Nat→Nat→Nat→Prop}{ty:TypeId}{x y:SV}{v:Value}(hr:aJ w St base O x v)(hy:u9 P ty x=some y):
  ∃v2,(Instr.sliceAt ty v none (some (.int .i64 0)) none).run P w=.ok v2 w∧aJ w St base O y v2:=by
 unfold u9 at hy
 split at hy
 ·rename_i e' he
  have hu:=B9 he
  split at hy
  ·rename_i sz aM
   split at hy
   ·rename_i s L
    cases hy
    obtain⟨hv,hL⟩:=hr.data.Qs
    subst hv
    refine⟨.slice none 0 0,?_,.d _ _ _ (.ir _)⟩
    simp[Instr.sliceAt,run_underlying hu,Instr.slice,Instr.sliceBounds,Instr.sliceBound,asIntOf,jy aM]
   ·rename_i s L
    split at hy
    ·rename_i hs
     subst hs
     cases hy
     cases hr with
     |bt _ _ _ gg cap vs bJ hm Sp hf ho aP hc=>
      refine⟨.slice (some ⟨gg,0,none⟩) 0 cap,?_,?_⟩
      ·have:=pQ gg 0 0
       simp[Instr.sliceAt,run_underlying hu,Instr.slice,Instr.sliceBounds,Instr.sliceBound,asIntOf,jy aM,this]
      ·exact .bt O s [] gg cap vs (Nat.zero_le _) hm (fun x hx=>by cases hx) (fun x hx=>by cases hx) ho (fun o bO=>by simp at bO) (fun i x j c hx=>by simp at hx)
    ·cases hy
   ·cases hy
  ·cases hy
 ·cases hy
theorem IS(hI:Inv gl w0 ao e a w g){t d:Nat}:Inv gl w0 ao ⟨(e.ai.set t (e.ai.getD t (.v .undef)).aa).set d (e.ai.getD t (.v .undef)),e.boxes⟩ (a.put (some d) (a.tmps.getD t undef)) w (g.k9 t (fun j=>.s d j)):=by
 have:=hI.hand (Ik e t (some d)) (Ext.k9 t (fun j=>.s d j) _ (fun j=>⟨t,j,rfl,.inl rfl⟩)) (Below.refl _ _) (s:=e.ai.getD t (.v .undef)) (v:=a.tmps.getD t undef) (dst:=some d) (g':=g.k9 t (fun j=>.s d j)) (fun d' hd=>?_) rfl (fun _ _=>rfl) (fun b o' aS=>hI.cE b o' aS)
 ·exact this
 ·cases hd
  exact(jz hI t).mono (fun _ _ h=>⟨h,.refl _ _ _⟩) (fun _ _ _=>rfl) (fun _ _ h=>h) (.refl _) (fun j b a' c ho=>⟨Jj (q:=fun j=>.s d j) ho,.refl _ _ _⟩)
theorem YP{a:Act}{t:Nat}{v:Value}(h:v=a.tmps.getD t undef):a.put (some t) v=a:=by
 subst h
 simp only[Act.put]
 have:a.tmps.setIfInBounds t (a.tmps.getD t undef)=a.tmps:=by
  apply Array.ext_getElem?
  intro i
  rw[Array.getElem?_setIfInBounds]
  split
  ·rename_i h
   subst h
   split
   ·rename_i hl;simp[hl]
   ·rename_i hl;simp[Array.getElem?_eq_none (by omega:a.tmps.size≤t)]
  ·rfl
 rw[this]
theorem PR(hI:Inv gl w0 ao e a w g){t d:Nat}{bk:SV}(hd:e.ai.getD d (.v .undef)=.v bk)(he:a.tmps.getD d undef=a.tmps.getD t undef):
  Inv gl w0 ao ⟨(e.ai.set d (.v (Ab.aa bk))).set t (.v bk),e.boxes⟩ a w (g.k9 d (fun j=>.s t j)):=by
 have h1:=IS hI (t:=d) (d:=t)
 rw[hd,YP he]at h1
 exact h1
theorem PS(hI:Inv gl w0 ao e a w g){ops:List Oper}{s:Spec}{K:Env→Prop}(hs:ym P s ops)(h:iu P (aD P gl) e K s):mR P ops a w (fun a' w'=>∃e' g',Inv gl w0 ao e' a' w' g'∧K e'):=by
 cases hs with
 |vB t d ty o1 o2 c h1 d1 g1 h2 d2 g2 hc ha ht bg=>
  simp only[iu]at h
  split at h
  ·rename_i x hx
   obtain⟨aF,h⟩:=pN h
   have aF:=Nat.lt_of_succ_le (Nat.le_of_ble_eq_true aF)
   obtain⟨y,hy,hk⟩:=aI h
   let v:=a.tmps.getD t undef
   have cY:Inv gl w0 ao ⟨e.ai.set d (.v .undef),e.boxes⟩ (a.put (some d) v) w g:=by
    have:=hI.value (dst:=some d) (s:=.v .undef) (v:=v) (.v _ _ _ (.undef _ _))
    exact this
   have ib:(e.ai.set d (.v .undef)).getD t (.v .undef)=.v x:=by
    rw[List.getD_eq_getElem?_getD,List.getElem?_set_ne (fun hh=>bg hh.symm),←List.getD_eq_getElem?_getD];exact hx
   obtain⟨w',ba,bG⟩:=XH (P:=P) cY ib hy o2.type
   have lU:(a.put (some d) v).tmps.getD t undef=v:=um bg
   rw[lU]at ba
   have hdv:(a.put (some d) v).tmps.getD d undef=v:=by
    exact Cl (by rw[hI.size];exact aF)
   refine mR.val (v:=v) (w1:=w) g1 (fun c hc=>by rw[h1]at hc;cases hc) hI.defers (by simp[execOp,h1,Act.eval,v]) (mR.val (v:=.tuple #[]) (w1:=w') g2 (fun c hc=>by rw[h2]at hc;cases hc) (by rw[d1];exact cY.defers) ?_ ⟨_,g,?_,hk⟩)
   ·rw[d1]
    have e1:c.args.map (a.put (some d) v).eval = #[v]:=by
     apply Array.ext'
     rw[Array.toList_map,ha]
     show [(a.put (some d) v).tmps.getD d undef]=_
     rw[hdv]
    have e2:c.argTypes= #[ty]:=by apply Array.ext';rw[ht]
    simp[execOp,h2,resolve,hc,invoke,builtin,e1,e2,ba]
   ·rw[d1,d2]
    exact bG
  ·exact h.elim
 |cut t d1 d2 ty o1 o2 o3 h1 e1 g1 h2 e2 g2 h3 e3 g3 n1 n2 n3=>
  simp only[iu]at h
  split at h
  ·rename_i x hx
   obtain⟨aF,h⟩:=pN h
   simp only[Bool.and_eq_true]at aF
   have Gc:=Nat.le_of_ble_eq_true aF.1
   have Dj:=Nat.le_of_ble_eq_true aF.2
   obtain⟨y,hy,hk⟩:=aI h
   let v:=a.tmps.getD t undef
   have hr:aJ w g.St w0.heap.size (eW w0.heap.size w g t 0) x v:=by
    have:=jz hI t
    rw[hx]at this
    exact this.jB
   obtain⟨v2,ba,bc⟩:=aae (P:=P) hr hy
   have cY:Inv gl w0 ao ⟨e.ai.set d1 (.v .undef),e.boxes⟩ (a.put (some d1) v) w g:=hI.value (dst:=some d1) (s:=.v .undef) (v:=v) (.v _ _ _ (.undef _ _))
   have bG:Inv gl w0 ao ⟨(e.ai.set d1 (.v .undef)).set d2 (.v .undef),e.boxes⟩ ((a.put (some d1) v).put (some d2) v2) w g:=cY.value (dst:=some d2) (s:=.v .undef) (v:=v2) (.v _ _ _ (.undef _ _))
   have j9:Inv gl w0 ao ⟨((e.ai.set d1 (.v .undef)).set d2 (.v .undef)).set t (.v y),e.boxes⟩ (((a.put (some d1) v).put (some d2) v2).put (some t) v2) w g:=by
    have:=bG.stepG (dst:=some t) (s:=.v y) (v:=v2) (w':=w) (g':=g) (lost:=fun _=>False) (ai:=(e.ai.set d1 (.v .undef)).set d2 (.v .undef)) (aA:=e.boxes) (Ext.refl _ _ _) (Below.refl _ _) rfl (fun i x hx _=>bG.ai i x hx) (fun d hd=>by cases hd;exact .v _ _ _ bc) bG.eX bG.boxes bG.nodup bG.dn bG.cE
    exact this
   refine mR.val (v:=v) (w1:=w) g1 (fun c hc=>by rw[h1]at hc;cases hc) hI.defers (by simp[execOp,h1,Act.eval,v]) (mR.val (v:=v2) (w1:=w) g2 (fun c hc=>by rw[h2]at hc;cases hc) (by rw[e1];exact cY.defers) ?_ (mR.val (v:=v2) (w1:=w) g3 (fun c hc=>by rw[h3]at hc;cases hc) (by rw[e1,e2];exact bG.defers) ?_ ⟨_,g,?_,hk⟩))
   ·rw[e1]
    have:(a.put (some d1) v).eval (.tmp d1)=v:=Cl (by rw[hI.size];exact Gc)
    simp only[execOp,h2,this,Option.map_some,Option.map_none]
    have hz:(a.put (some d1) v).eval (.const (.int .i64 0))=.int .i64 0:=rfl
    rw[hz]
    simp[ba]
   ·rw[e1,e2]
    have:((a.put (some d1) v).put (some d2) v2).eval (.tmp d2)=v2:=Cl (by rw[Ck,hI.size];exact Dj)
    simp[execOp,h3,this]
   ·rw[e1,e2,e3];exact j9
  ·exact h.elim
 |u6 t d f u o1 o2 c h1 d1 g1 h2 d2 g2 hc ha h0 n1 n2 n3=>
  simp only[iu]at h
  split at h
  ·rename_i x hx
   obtain⟨aF,bk,hC,DT,hk⟩:=pN h
   have aF:=Nat.lt_of_succ_le (Nat.le_of_ble_eq_true aF)
   let v:=a.tmps.getD t undef
   have cY:Inv gl w0 ao ⟨(e.ai.set t (.v (Ab.aa x))).set d (.v x),e.boxes⟩ (a.put (some d) v) w (g.k9 t (fun j=>.s d j)):=by
    have:=IS hI (t:=t) (d:=d)
    rw[hx]at this
    exact this
   refine mR.val (v:=v) (w1:=w) g1 (fun c hc=>by rw[h1]at hc;cases hc) hI.defers (by simp[execOp,h1,Act.eval,v]) ⟨g2,(fun c hc=>by rw[h2]at hc;cases hc),fun next Q hn=>?_⟩
   rw[d1]at hn ⊢
   have zq:((e.ai.set t (.v (Ab.aa x))).set d (.v x)).getD d (.v .undef)=.v x:=by
    rw[List.getD_eq_getElem?_getD,List.getElem?_set_self (by simpa using aF)];rfl
   refine Ij cY h2 hc (t:=d) (p:=0) (by rw[ha];rfl) (f':=f) rfl (y:=x) zq (n:=0) (k:=fun e'=>e'=⟨cz (((e.ai.set t (.v (Ab.aa x))).set d (.v x)).set d (.v bk)) o2.dst (.t []),e.boxes⟩) ⟨bk,?_,DT,rfl⟩ next Q fun e' v' w' g' bh tY=>?_
   ·rw[ha];exact hC
   ·subst tY
    refine hn v' w' (by rw[put_defers];exact cY.defers) ⟨_,_,PR bh (t:=t) (d:=d) (bk:=bk) ?_ ?_,?_⟩
    ·rw[d2]
     show((((e.ai.set t (.v (Ab.aa x))).set d (.v x)).set d (.v bk)).set u (.t [])).getD d (.v .undef)=.v bk
     rw[eD n2,List.getD_eq_getElem?_getD,List.getElem?_set_self (by simpa using aF)];rfl
    ·rw[d2,um (fun hh=>n2 hh.symm),um (fun hh=>n3 hh.symm),um n1]
     exact Cl (by rw[hI.size];exact aF)
    ·rw[d2];exact hk
  ·exact h.elim
 |uU t d t2 e2 f u o1 o2 o3 c h1 d1 g1 h2 d2 g2 h3 d3 g3 hc ha h0 n1 n2 n3 n4 n5 n6=>
  simp only[iu]at h
  split at h
  ·rename_i x hx
   obtain⟨aF,bk,hC,DT,hk⟩:=pN h
   simp only[Bool.and_eq_true,Bool.not_eq_true']at aF
   obtain⟨⟨aF,Dj⟩,n7⟩:=aF
   have aF:=Nat.lt_of_succ_le (Nat.le_of_ble_eq_true aF)
   have Dj:=Nat.lt_of_succ_le (Nat.le_of_ble_eq_true Dj)
   have n7:=Nat.ne_of_beq_eq_false n7
   let v:=a.tmps.getD t undef
   have cY:Inv gl w0 ao ⟨(e.ai.set t (.v (Ab.aa x))).set d (.v x),e.boxes⟩ (a.put (some d) v) w (g.k9 t (fun j=>.s d j)):=by
    have:=IS hI (t:=t) (d:=d)
    rw[hx]at this
    exact this
   have qz:((e.ai.set t (.v (Ab.aa x))).set d (.v x)).getD t2 (.v .undef)=e.ai.getD t2 (.v .undef):=by
    rw[eD (fun hh=>n6 hh.symm),eD (fun hh=>n7 hh.symm)]
   have bG:Inv gl w0 ao ⟨((e.ai.set t (.v (Ab.aa x))).set d (.v x)).set e2 (e.ai.getD t2 (.v .undef)).aa,e.boxes⟩ ((a.put (some d) v).put (some e2) ((a.put (some d) v).eval (.tmp t2))) w (g.k9 t (fun j=>.s d j)):=by
    have hr:=(jz cY t2).aa (O':=fun _ _ _ _=>False)
    have:=cY.value (dst:=some e2) hr
    rw[qz]at this
    exact this
   refine mR.val (v:=v) (w1:=w) g1 (fun c hc=>by rw[h1]at hc;cases hc) hI.defers (by simp[execOp,h1,Act.eval,v]) (mR.val (v:=(a.put (some d) v).eval (.tmp t2)) (w1:=w) g2 (fun c hc=>by rw[h2]at hc;cases hc) (by rw[d1];exact cY.defers) (by rw[d1];simp[execOp,h2]) ⟨g3,(fun c hc=>by rw[h3]at hc;cases hc),fun next Q hn=>?_⟩)
   rw[d1,d2]at hn ⊢
   have zq:(((e.ai.set t (.v (Ab.aa x))).set d (.v x)).set e2 (e.ai.getD t2 (.v .undef)).aa).getD d (.v .undef)=.v x:=by
    rw[eD n4,List.getD_eq_getElem?_getD,List.getElem?_set_self (by simpa using aF)];rfl
   have DU:(((e.ai.set t (.v (Ab.aa x))).set d (.v x)).set e2 (e.ai.getD t2 (.v .undef)).aa).getD e2 (.v .undef)=(e.ai.getD t2 (.v .undef)).aa :=by
    rw[List.getD_eq_getElem?_getD,List.getElem?_set_self (by simpa using Dj)];rfl
   refine Ij bG h3 hc (t:=d) (p:=0) (by rw[ha];rfl) (f':=f) rfl (y:=x) zq (n:=0) (k:=fun e'=>e'=⟨cz ((((e.ai.set t (.v (Ab.aa x))).set d (.v x)).set e2 (e.ai.getD t2 (.v .undef)).aa).set d (.v bk)) o3.dst (.t []),e.boxes⟩) ⟨bk,?_,DT,rfl⟩ next Q fun e' v' w' g' bh tY=>?_
   ·rw[ha]
    have:∀s:Slot,s.aa.aa=s.aa:=fun s=>by cases s<;>simp[Slot.aa,YO]
    simp only[iq,Ab.aV,DU,this,List.set_cons_zero]
    exact hC
   ·subst tY
    refine hn v' w' (by rw[put_defers];exact bG.defers) ⟨_,_,PR bh (t:=t) (d:=d) (bk:=bk) ?_ ?_,?_⟩
    ·rw[d3]
     show(((((e.ai.set t (.v (Ab.aa x))).set d (.v x)).set e2 (e.ai.getD t2 (.v .undef)).aa).set d (.v bk)).set u (.t [])).getD d (.v .undef)=.v bk
     rw[eD n2,List.getD_eq_getElem?_getD,List.getElem?_set_self (by simpa using aF)];rfl
    ·rw[d3,um (fun hh=>n2 hh.symm),um (fun hh=>n3 hh.symm),um (fun hh=>n4 hh.symm),um (fun hh=>n5 hh.symm),um n1]
     exact Cl (by rw[hI.size];exact aF)
    ·rw[d3];exact hk
  ·exact h.elim
theorem Om{C:bd}{K K':Env→Prop}(hk:∀e,K e→K' e){s:Spec}(h:iu P C e K s):iu P C e K' s:=by
 cases s with
 |vB t d ty=>
  simp only[iu]at h ⊢
  split at h
  ·obtain⟨hb,h⟩:=pN h
   obtain⟨y,hy,h⟩:=aI h
   rw[hb,cond_true,hy]
   exact hk _ h
  ·exact h.elim
 |cut t d1 d2 ty=>
  simp only[iu]at h ⊢
  split at h
  ·obtain⟨hb,h⟩:=pN h
   obtain⟨y,hy,h⟩:=aI h
   rw[hb,cond_true,hy]
   exact hk _ h
  ·exact h.elim
 |u6 t d f u=>
  simp only[iu]at h ⊢
  split at h
  ·obtain⟨hb,bk,h1,h2,h⟩:=pN h
   rw[hb,cond_true]
   exact⟨bk,h1,h2,hk _ h⟩
  ·exact h.elim
 |uU t d t2 d2 f u=>
  simp only[iu]at h ⊢
  split at h
  ·obtain⟨hb,bk,h1,h2,h⟩:=pN h
   rw[hb,cond_true]
   exact⟨bk,h1,h2,hk _ h⟩
  ·exact h.elim
def KD(ws:List Nat)(e e':Env):Prop:=e'.ai.length=e.ai.length∧e.boxes.length≤e'.boxes.length∧(∀t,t∉ws→(e'.ai.getD t (.v .undef)).stays =(e.ai.getD t (.v .undef)).stays)∧pV e.boxes.length e e'
theorem On{l:List Slot}{t u:Nat}{x y:SV}(hx:l.getD t (.v .undef)=.v x):((l.set t (.v y)).getD u (.v .undef)).stays =(l.getD u (.v .undef)).stays :=by
 by_cases h:t=u
 ·subst h
  rw[hx]
  rcases Nat.lt_or_ge t l.length with hl|hl
  ·rw[List.getD_eq_getElem?_getD,List.getElem?_set_self hl];rfl
  ·rw[List.set_eq_of_length_le hl,hx]
 ·rw[eD h]
theorem V6{C:bd}{ops:List Oper}{s:Spec}(hs:ym P s ops){K:Env→Prop}(h:iu P C e K s):iu P C e (fun e'=>K e'∧KD (ops.filterMap (·.dst)) e e') s:=by
 cases hs with
 |vB t d ty o1 o2 c h1 d1 g1 h2 d2 g2 hc ha ht bg=>
  simp only[iu]at h ⊢
  split at h
  ·rename_i x hx
   obtain⟨hb,h⟩:=pN h
   obtain⟨y,hy,h⟩:=aI h
   rw[hb,cond_true,hy]
   refine⟨h,by simp,Nat.le_refl _,fun u hu=>?_,.refl _ _⟩
   have hud:d≠u:=fun hh=>hu (by rw[←hh];simp[d1,d2])
   have ib:(e.ai.set d (.v .undef)).getD t (.v .undef)=.v x:=by rw[eD (fun hh=>bg hh.symm)];exact hx
   rw[On ib,eD hud]
  ·exact h.elim
 |cut t d1 d2 ty o1 o2 o3 h1 e1 g1 h2 e2 g2 h3 e3 g3 n1 n2 n3=>
  simp only[iu]at h ⊢
  split at h
  ·rename_i x hx
   obtain⟨hb,h⟩:=pN h
   obtain⟨y,hy,h⟩:=aI h
   rw[hb,cond_true,hy]
   refine⟨h,by simp,Nat.le_refl _,fun u hu=>?_,.refl _ _⟩
   have xr:d1≠u:=fun hh=>hu (by rw[←hh];simp[e1,e2,e3])
   have hu2:d2≠u:=fun hh=>hu (by rw[←hh];simp[e1,e2,e3])
   have ib:((e.ai.set d1 (.v .undef)).set d2 (.v .undef)).getD t (.v .undef)=.v x:=by rw[eD (fun hh=>n2 hh.symm),eD (fun hh=>n1 hh.symm)];exact hx
   rw[On ib,eD hu2,eD xr]
  ·exact h.elim
 |u6 t d f u o1 o2 c h1 d1 g1 h2 d2 g2 hc ha h0 n1 n2 n3=>
  simp only[iu]at h ⊢
  split at h
  ·rename_i x hx
   obtain⟨hb,bk,k1,k2,h⟩:=pN h
   rw[hb,cond_true]
   refine⟨bk,k1,k2,h,by simp,Nat.le_refl _,fun v hv=>?_,.refl _ _⟩
   have zr:d≠v:=fun hh=>hv (by rw[←hh];simp[d1,d2])
   have LL:u≠v:=fun hh=>hv (by rw[←hh];simp[d1,d2])
   by_cases lU:t=v
   ·subst lU
    rw[hx]
    rcases Nat.lt_or_ge t e.ai.length with hl|hl
    ·rw[List.getD_eq_getElem?_getD,List.getElem?_set_self (by simpa using hl)];rfl
    ·rw[List.getD_eq_getElem?_getD,List.getElem?_eq_none (by simpa using hl)];rfl
   ·rw[eD lU,eD zr,eD LL,eD zr,eD zr,eD lU]
  ·exact h.elim
 |uU t d t2 e2 f u o1 o2 o3 c h1 d1 g1 h2 d2 g2 h3 d3 g3 hc ha h0 n1 n2 n3 n4 n5 n6=>
  simp only[iu]at h ⊢
  split at h
  ·rename_i x hx
   obtain⟨hb,bk,k1,k2,h⟩:=pN h
   rw[hb,cond_true]
   refine⟨bk,k1,k2,h,by simp,Nat.le_refl _,fun v hv=>?_,.refl _ _⟩
   have zr:d≠v:=fun hh=>hv (by rw[←hh];simp[d1,d2,d3])
   have LL:u≠v:=fun hh=>hv (by rw[←hh];simp[d1,d2,d3])
   have hve:e2≠v:=fun hh=>hv (by rw[←hh];simp[d1,d2,d3])
   by_cases lU:t=v
   ·subst lU
    rw[hx]
    rcases Nat.lt_or_ge t e.ai.length with hl|hl
    ·rw[List.getD_eq_getElem?_getD,List.getElem?_set_self (by simpa using hl)];rfl
    ·rw[List.getD_eq_getElem?_getD,List.getElem?_eq_none (by simpa using hl)];rfl
   ·rw[eD lU,eD zr,eD LL,eD zr,eD hve,eD zr,eD lU]
  ·exact h.elim
theorem Qt{ops:Array Oper}{Q:Exit→Act→World→Prop}{R:Act→World→Prop}(hR:∀a w,R a w→Q .normal a w):∀(l:List Oper)(i:Nat){a:Act}{w:World},(∀j,l[j]? =ops[i+j]?)→mR P l a w R→wpOps P ops Q (List.range' i l.length) a w
 |[],_,_,_,_,h=>hR _ _ h
 |o::l,i,a,w,hl,h=>by
  obtain⟨hg,gm,h⟩:=h
  have h0:ops[i]? =some o:=by simpa using(hl 0).symm
  rw[List.length_cons,List.range'_succ]
  unfold wpOps
  simp only[h0]
  rw[if_pos (by simp[Region.wanted,hg])]
  exact .inl (h _ _ fun v w1 _ h1=>Qt hR l (i+1) (fun j=>by have:=hl (j+1);simpa[Nat.add_assoc,Nat.add_comm 1 j]using this) h1)
end
end Go.Proofs.Ytimbllcalipehaa.Ab
namespace Go.Proofs.Ytimbllcalipehaa.Ab
open Go Go.RowKit
def Ex.to:Ex→Exit
 | .normal =>.normal
 | .exit i=>.exit i
 | .ret =>.ret
def Fr(gh:List (Nat×List gS))(c:Code)(e e':Env):Prop:=e'.ai.length=e.ai.length∧e.boxes.length≤e'.boxes.length∧
 (∀t,t∉cD gh c→(e'.ai.getD t (.v .undef)).stays =(e.ai.getD t (.v .undef)).stays)∧pV e.boxes.length e e'
theorem qU{b:Bool}{A:Prop}(h:cond b A False):b=true∧A:=by cases b;exact h.elim;exact⟨rfl,h⟩
theorem z6{b:Bool}{A:Prop}(hb:b=true)(h:A):cond b A False:=by subst hb;exact h
section
variable{P:Program}{gl:Nat→Option D}{h:Hints}
theorem ER{all:List Oper}{aE:Nat→Bool}{base:Nat}{K K':Env→Prop}(hk:∀e,K e→K' e):∀(l:List Oper)(i:Nat)(e:Env),
  kS P gl (aD P gl) aE all base l i e K→kS P gl (aD P gl) aE all base l i e K'
 |[],_,_,h=>hk _ h
 |o::l,i,e,h=>by
  rw[Ag]at h ⊢
  have ek:all=all.toArray.toList:=by simp
  rw[ek]at h ⊢
  obtain⟨src,s,U,bR,hO,_⟩:=xU h
  refine hO.run ?_
  rw[←ek]at bR ⊢
  exact ER hk l (i+1) _ bR
theorem NV{all:List Oper}{aE:Nat→Bool}{base:Nat}{K:Env→Prop}:∀(l:List Oper)(i:Nat)(e:Env),
  kS P gl (aD P gl) aE all base l i e K→kS P gl (aD P gl) aE all base l i e fun e'=>K e'∧e'.ai.length=e.ai.length∧e'.boxes.length=e.boxes.length∧
   (∀t,t∉l.filterMap (·.dst)→(e'.ai.getD t (.v .undef)).stays =(e.ai.getD t (.v .undef)).stays)∧pV base e e'
 |[],_,_,h=>⟨h,rfl,rfl,fun _ _=>rfl,.refl _ _⟩
 |o::l,i,e,h=>by
  rw[Ag]at h ⊢
  have ek:all=all.toArray.toList:=by simp
  rw[ek]at h ⊢
  obtain⟨src,s,U,bR,hO,aS⟩:=xU h
  refine hO.run ?_
  rw[←ek]at bR ⊢
  refine ER (fun e'⟨hK,h1,h2,h3,h5⟩=>⟨hK,?_,?_,fun t ht=>?_,fun j hj=>?_⟩) l (i+1) _ (NV l (i+1) _ bR)
  ·rw[h1];unfold fin iR;simp only[Hv];cases src<;>simp
  ·rw[h2];unfold fin lb;cases U<;>simp
  ·have hd:∀d,o.dst=some d→d≠t:=fun d hd hh=>by
    subst hh
    exact ht (List.mem_filterMap.2 ⟨o,by simp,hd⟩)
   have qv:t∉l.filterMap (·.dst):=fun hm=>by
    obtain⟨o',bO,ic⟩:=List.mem_filterMap.1 hm
    exact ht (List.mem_filterMap.2 ⟨o',by simp[bO],ic⟩)
   rw[h3 t qv]
   unfold fin cz iR
   simp only
   have fk:((match src with|none=>e.ai|some (t,s)=>e.ai.set t s).getD t (.v .undef)).stays =(e.ai.getD t (.v .undef)).stays :=by
    cases src with
    |none=>rfl
    |some p=>
     obtain⟨t',d⟩:=p
     simp only
     by_cases Tk:t'=t
     ·subst Tk
      have:=aS.1 t' d rfl
      rcases Nat.lt_or_ge t' e.ai.length with hl|hl
      ·rw[List.getD_eq_getElem?_getD,List.getElem?_set_self hl];exact this
      ·rw[List.set_eq_of_length_le hl]
     ·rw[eD Tk]
   cases ic:o.dst with
   |none=>exact fk
   |some d=>simp only;rw[eD (hd d ic)];exact fk
  ·have huf:=hO.uf
   have key:pV base e (fin o src s U e):=by
    intro j hj
    have same:e.boxes.getD j .none =.none ∨(e.boxes.getD j .none ≠.none ∧(e.boxes.getD j .none).isMap =(e.boxes.getD j .none).isMap):=pV.refl base e j hj
    unfold fin
    simp only
    cases huf with
    |none=>exact same
    |mk bx h hn hb=>
     simp only[lb,List.getD_eq_getElem?_getD]
     rw[List.getElem?_set_ne (by omega)]
     simpa using same
    |wr b bx gq h hw x hx off hp ho hold hb qb=>
     simp only[lb,List.getD_eq_getElem?_getD,List.getElem?_set]
     by_cases Tl:b=j
     ·subst Tl
      right
      rw[ho]
      simp[(List.getElem?_eq_some_iff.1 ho).1,hb.2,hold]
     ·simp only[Tl,if_false];simpa using same
   exact(key.trans (Nat.le_refl _) h5) j hj
theorem Pg{ok:Bool}{ops:Array Oper}{aE:Nat→Bool}{e1 e':Env}{K K':Env→Prop}(hk:∀e,K e→K' e)(h:u5 P gl (aD P gl) ok ops aE e1 K e'):u5 P gl (aD P gl) ok ops aE e1 K' e':=by
 cases ok
 ·exact⟨h.1,hk _ h.2⟩
 ·exact hk _ h
theorem YQ{ok:Bool}{ops:Array Oper}{aE:Nat→Bool}{e1 e':Env}{K:Env→Prop}{X:Env→Prop}(h:u5 P gl (aD P gl) ok ops aE e1 K e')(hx:X e'):u5 P gl (aD P gl) ok ops aE e1 (fun e'=>K e'∧X e') e':=by
 cases ok
 ·exact⟨h.1,h.2,hx⟩
 ·exact⟨h,hx⟩
theorem HO{e:Env}{c:Operand}{A B A' B':Env→Prop}(hA:A e→A' e)(hB:B e→B' e)(h:nU e c A B):nU e c A' B':=by
 cases c with
 |tmp t=>
  simp only[nU]at h ⊢
  cases hx:e.ai.getD t (.v .undef)with
  |v x=>
   rw[hx]at h
   obtain⟨b,rfl,h1,h2⟩:=Af h
   cases b
   ·have:=h2 rfl
    rw[uv hx]at this
    show B' _
    rw[uv hx]
    exact hB this
   ·have:=h1 rfl
    rw[uv hx]at this
    show A' _
    rw[uv hx]
    exact hA this
  |_=>rw[hx]at h;exact h.elim
 |const v=>
  cases v with
  |bool b=>cases b;exact hB h;exact hA h
  |_=>exact h.elim
 |_=>exact h.elim
theorem Oo{e:Env}{c:Operand}{A B A' B':Env→Prop}(hA:∀e,A e→A' e)(hB:∀e,B e→B' e)(h:nU e c A B):nU e c A' B':=HO (hA e) (hB e) h
theorem Oq{key:Nat}{c:Code}{e:Env}{Q Q':Ex→Env→Prop}{T:(Ex→Env→Prop)→Prop}(hT:∀Q Q':Ex→Env→Prop,(∀x e,Q x e→Q' x e)→T Q→T Q')(hq:∀x e,Q x e→Q' x e)(hh:pZ h key c e Q T):pZ h key c e Q' T:=by
 unfold pZ at hh ⊢
 generalize mK h.eM key=kk at hh ⊢
 obtain⟨vars,consts⟩:=kk
 cases vars<;>cases consts
 ·exact hT _ _ hq hh
 all_goals
  obtain⟨hb,hh⟩:=qU (hh:cond _ _ False)
  exact z6 hb (hT _ _ (fun x e' hx=>by cases x<;>first|exact hq _ _ hx|exact hq .normal _ hx) hh)
theorem Iq{id:Nat}{ops:Array Oper}{draw:Bool}{e:Env}{K K':Env→Prop}(hk:∀e,K e→K' e)(hh:lD P gl (aD P gl) h id ops draw e K):lD P gl (aD P gl) h id ops draw e K':=by
 unfold lD at hh ⊢
 obtain⟨hb,hh⟩:=qU hh
 refine z6 hb (xY (fun e1 h1=>?_) hh)
 cases hs:uK P draw ops.toList with
 |some s=>simp only[hs]at h1 ⊢;exact Om (fun e2 h2=>xY hk h2) h1
 |none=>simp only[hs]at h1 ⊢;exact ER (fun e2 h2=>Pg (fun e3 h3=>xY hk h3) h2) _ _ _ h1
theorem Ot{id:Nat}{ops:Array Oper}{draw:Bool}{e:Env}{K:Env→Prop}(hh:lD P gl (aD P gl) h id ops draw e K):lD P gl (aD P gl) h id ops draw e (fun e'=>K e'∧Fr h.gh (.region id ops draw) e e'):=by
 unfold lD at hh ⊢
 obtain⟨hb,hh⟩:=qU hh
 refine z6 hb (xY (fun e1⟨h1,hg⟩=>?_) (H7 hh))
 have key:∀e2,KD (ops.toList.filterMap (·.dst)) e1 e2→gA (kj h.gh (4000000+id)) e2 K→gA (kj h.gh (4000000+id)) e2 (fun e'=>K e'∧Fr h.gh (.region id ops draw) e e'):=fun e2 ho h2=>by
  refine xY (fun e3⟨h3,zt⟩=>⟨h3,zt.1.trans (ho.1.trans hg.1),Nat.le_trans hg.2.1 (Nat.le_trans ho.2.1 zt.2.1),fun t ht=>?_,?_⟩) (H7 h2)
  ·simp only[cD,List.mem_append,not_or]at ht
   rw[zt.2.2.1 t ht.2.1,ho.2.2.1 t ht.2.2,hg.2.2.1 t ht.1]
  ·exact(hg.2.2.2.trans hg.2.1 ho.2.2.2).trans (Nat.le_trans hg.2.1 ho.2.1) zt.2.2.2
 cases hs:uK P draw ops.toList with
 |some s=>
  simp only[hs]at h1 ⊢
  exact Om (fun e2⟨h2,ho⟩=>key e2 ho h2) (V6 (HN hs).2 h1)
 |none=>
  simp only[hs]at h1 ⊢
  refine ER (fun e'⟨h1,h2,h3,h4,h5⟩=>Pg (fun e2⟨k1,k2⟩=>key e2 k2 k1) (YQ (X:=fun e'=>KD (ops.toList.filterMap (·.dst)) e1 e') h1 ⟨h2,?_,h4,fun i hi=>?_⟩)) _ _ _ (NV _ _ _ h1)
  ·rw[h3];simp
  ·have:=h5 i hi
   simp only[List.getD_eq_getElem?_getD]at this ⊢
   rw[List.getElem?_append_left hi]at this
   exact this
theorem kO:∀(c:Code){Q Q':Ex→Env→Prop}{e:Env},(∀x e,Q x e→Q' x e)→aw P gl (aD P gl) h c Q e→aw P gl (aD P gl) h c Q' e
 | .skip,_,_,_,hq,hh=>hq _ _ hh
 | .region id ops draw,Q,Q',e,hq,hh=>by
   simp only[aw]at hh ⊢
   exact Oq (fun Q Q' hq hh=>Iq (hq .normal) hh) hq hh
 | .seq a b,Q,Q',e,hq,hh=>by
   simp only[aw]at hh ⊢
   refine kO a (fun x e' hx=>?_) hh
   cases x with
   |normal=>exact kO b hq hx
   |exit i=>exact hq _ _ hx
   |ret=>exact hq _ _ hx
 | .cond c a b,Q,Q',e,hq,hh=>by
   simp only[aw]at hh ⊢
   exact Oq (fun Q Q' hq hh=>Oo (fun e'=>kO a hq) (fun e'=>kO b hq) hh) hq hh
 | .block id b,Q,Q',e,hq,hh=>by
   simp only[aw]at hh ⊢
   refine kO b (fun x e' hx=>?_) hh
   cases x with
   |normal=>exact hq _ _ hx
   |exit i=>
    have dK:cond (i==id) (Q .normal e') (Q (.exit i) e'):=hx
    show cond (i==id) (Q' .normal e') (Q' (.exit i) e')
    cases hb:(i==id)<;>rw[hb]at dK<;>exact hq _ _ dK
   |ret=>exact hq _ _ hx
 | .loop b,Q,Q',e,hq,hh=>by
   obtain⟨hb,hh⟩:=qU (hh:cond _ _ False)
   refine z6 hb fun I hI=>hh I fun vs bs hF=>hI vs bs (kO b (fun x e' hx=>?_) hF)
   cases x with
   |normal=>exact hx
   |exit i=>exact hq _ _ hx
   |ret=>exact hq _ _ hx
 | .exit id,_,_,_,hq,hh=>hq _ _ hh
 | .ret,_,_,_,hq,hh=>hq _ _ hh
 | .goto _,_,_,_,_,hh=>hh
 | .label _,_,_,_,hq,hh=>hq _ _ hh
 | .scope _,_,_,_,_,hh=>hh
 | .rangeFunc _ _ _ _,_,_,_,_,hh=>hh
 | .refuse _,_,_,_,_,hh=>hh
theorem Fr.refl(c:Code)(e:Env):Fr h.gh c e e:=⟨rfl,Nat.le_refl _,fun _ _=>rfl,.refl _ _⟩
theorem Fr.trans{a b c:Code}{e e1 e2:Env}(h1:Fr h.gh a e e1)(h2:Fr h.gh b e1 e2)(ha:∀t,t∈cD h.gh a→t∈cD h.gh c)(hb:∀t,t∈cD h.gh b→t∈cD h.gh c):Fr h.gh c e e2:=
 ⟨h2.1.trans h1.1,Nat.le_trans h1.2.1 h2.2.1,fun t ht=>(h2.2.2.1 t fun hm=>ht (hb t hm)).trans (h1.2.2.1 t fun hm=>ht (ha t hm)),h1.2.2.2.trans h1.2.1 h2.2.2.2⟩
theorem Fr.mono{a c:Code}{e e1:Env}(h1:Fr h.gh a e e1)(ha:∀t,t∈cD h.gh a→t∈cD h.gh c):Fr h.gh c e e1:=⟨h1.1,h1.2.1,fun t ht=>h1.2.2.1 t fun hm=>ht (ha t hm),h1.2.2.2⟩
theorem Ht(vars consts:List Nat)(vs:List SV):∀(l:List Slot)(t i:Nat),(qQ vars consts vs l t)[i]? =(l[i]?).map fun s=>match place (t+i) vars 0 with
  |some j=>.v (ae vs j)
  |none=>bif consts.contains (t+i)then s.stays else .v .undef
 |[],_,_=>by simp[qQ]
 |s::l,t,i=>by
  cases i with
  |zero=>simp only[qQ,List.getElem?_cons_zero,Option.map_some,Nat.add_zero];cases place t vars 0<;>rfl
  |succ i=>
   simp only[qQ,List.getElem?_cons_succ]
   rw[Ht vars consts vs l (t+1) i,show t+1+i=t+(i+1) by omega]
theorem Hr(vars consts:List Nat)(vs:List SV):∀(l:List Slot)(t:Nat),(qQ vars consts vs l t).length =l.length
 |[],_=>rfl
 |_::l,t=>by simp[qQ,Hr vars consts vs l (t+1)]
theorem Hu(bs:List (List SV)):∀(l:List af)(t i:Nat),(qR bs l t)[i]? =(l[i]?).map fun x=>af.again (an bs (t+i)) x
 |[],_,_=>by simp[qR]
 |s::l,t,i=>by
  cases i with
  |zero=>simp[qR]
  |succ i=>
   simp only[qR,List.getElem?_cons_succ]
   rw[Hu bs l (t+1) i,show t+1+i=t+(i+1) by omega]
theorem Hs(bs:List (List SV)):∀(l:List af)(t:Nat),(qR bs l t).length =l.length
 |[],_=>rfl
 |_::l,t=>by simp[qR,Hs bs l (t+1)]
theorem Ou{t:Nat}:∀{l:List Nat}{i j:Nat},place t l i=some j→i≤j∧l[j-i]? =some t
 |[],i,j,h=>by cases h
 |v::l,i,j,h=>by
  simp only[place]at h
  cases hv:v==t with
  |true=>
   rw[hv]at h
   simp only[cond_true,Option.some.injEq]at h
   subst h
   have:=beq_iff_eq.1 hv
   subst this
   simp
  |false=>
   rw[hv]at h
   obtain⟨h1,h2⟩:=Ou (l:=l) h
   refine⟨by omega,?_⟩
   rw[show j-i=(j-(i+1))+1 by omega,List.getElem?_cons_succ]
   exact h2
theorem Ov{t:Nat}:∀{l:List Nat}{i:Nat},l.contains t=false→place t l i=none
 |[],_,_=>rfl
 |v::l,i,h=>by
  simp only[List.contains_cons,Bool.or_eq_false_iff]at h
  simp only[place]
  have:(v==t)=false:=by rw[beq_eq_false_iff_ne]at*;exact fun hh=>h.1 hh.symm
  rw[this]
  exact Ov h.2
theorem NC{ws vars consts:List Nat}:∀{l:List Slot}{t:Nat},Ap ws vars consts l t=true→∀(i:Nat)s,l[i]? =some s→(t+i)∉ws→s.stays=.v .undef ∨(vars.contains (t+i)=false∧consts.contains (t+i)=true)
 |[],_,_,i,s,h,_=>by simp at h
 |s'::l,t,hk,i,s,h,hw=>by
  simp only[Ap,Bool.and_eq_true]at hk
  cases i with
  |zero=>
   simp at h
   subst h
   have jw:=hk.1
   cases s' with
   |v x=>exact .inl rfl
   |t x=>exact .inl rfl
   |_=>
    refine .inr ?_
    simp only[Bool.or_eq_true,Bool.and_eq_true,Bool.not_eq_true']at jw
    rcases jw with h|h
    ·exact absurd (by simpa using h) hw
    ·exact h
  |succ i=>
   have:=NC hk.2 i s (by simpa using h) (by rw[show t+1+i=t+(i+1) by omega];exact hw)
   rw[show t+1+i=t+(i+1) by omega]at this
   exact this
theorem V7(s:Slot):s.stays.stays=s.stays:=by cases s<;>rfl
def again(vars consts:List Nat)(vs:List SV)(bs:List (List SV))(e:Env):Env:=⟨qQ vars consts vs e.ai 0,qR bs e.boxes 0⟩
theorem E9{b:Code}{vars consts:List Nat}{vs:List SV}{bs:List (List SV)}{e:Env}(hk:Ap (cD h.gh b) vars consts e.ai 0=true):Fr h.gh b e (again vars consts vs bs e):=by
 refine⟨Hr _ _ _ _ _,by simp[again,Hs],fun t ht=>?_,fun i hi=>?_⟩
 rotate_left
 ·simp only[again,List.getD_eq_getElem?_getD,Hu,List.getElem?_eq_getElem hi,Option.map_some,Option.getD_some]
  cases e.boxes[i]<;>first|exact .inl rfl|exact .inr ⟨by simp,rfl⟩
 simp only[again,List.getD_eq_getElem?_getD,Ht]
 cases hs:e.ai[t]? with
 |none=>rfl
 |some s=>
  simp only[Option.map_some,Option.getD_some,Nat.zero_add]
  rcases NC hk t s hs (by simpa using ht)with h|⟨h1,h2⟩
  ·rw[h]
   split
   ·rfl
   ·cases consts.contains t<;>simp[h,Slot.stays]
  ·rw[Nat.zero_add]at h1 h2
   rw[Ov h1]
   simp only[h2,cond_true,V7]
theorem NW{key:Nat}{c:Code}{e:Env}{Q:Ex→Env→Prop}{T:(Ex→Env→Prop)→Prop}(hT:∀Q Q':Ex→Env→Prop,(∀x e,Q x e→Q' x e)→T Q→T Q')
  (hF:∀Q,T Q→T (fun x e'=>Q x e'∧Fr h.gh c e e'))(hh:pZ h key c e Q T):pZ h key c e (fun x e'=>Q x e'∧Fr h.gh c e e') T:=by
 unfold pZ at hh ⊢
 generalize mK h.eM key=kk at hh ⊢
 obtain⟨vars,consts⟩:=kk
 cases vars<;>cases consts
 ·exact hF _ hh
 all_goals
  obtain⟨hb,hh⟩:=qU (hh:cond _ _ False)
  have hk:=(Bool.and_eq_true _ _▸hb).2
  refine z6 hb (hT _ _ (fun x e' hx=>?_) (hF _ hh))
  obtain⟨hx,hf⟩:=hx
  cases x with
  |normal=>exact⟨hx,E9 (b:=c) hk⟩
  |exit i=>exact⟨hx,hf⟩
  |ret=>exact⟨hx,hf⟩
theorem pR:∀(c:Code){Q:Ex→Env→Prop}{e:Env},aw P gl (aD P gl) h c Q e→aw P gl (aD P gl) h c (fun x e'=>Q x e'∧Fr h.gh c e e') e
 | .skip,_,e,hh=>⟨hh,Fr.refl _ _⟩
 | .region id ops draw,Q,e,hh=>by
   simp only[aw]at hh ⊢
   refine NW (fun Q Q' hq hh=>Iq (hq .normal) hh) (fun Q hh=>?_) hh
   exact Iq (fun e' hx=>hx) (Ot hh)
 | .seq a b,Q,e,hh=>by
   refine kO a (fun x e' hx=>?_) (pR a hh)
   obtain⟨hx,hf⟩:=hx
   cases x with
   |normal=>exact kO b (fun y e2 hy=>⟨hy.1,hf.trans hy.2 (fun t ht=>by simp[cD,ht]) (fun t ht=>by simp[cD,ht])⟩) (pR b hx)
   |exit i=>exact⟨hx,hf.mono fun t ht=>by simp[cD,ht]⟩
   |ret=>exact⟨hx,hf.mono fun t ht=>by simp[cD,ht]⟩
 | .cond c a b,Q,e,hh=>
   NW (fun Q Q' hq hh=>Oo (fun e'=>kO a hq) (fun e'=>kO b hq) hh) (fun Q hh=>HO (A:=aw P gl (aD P gl) h a Q) (B:=aw P gl (aD P gl) h b Q)
    (fun ha=>kO a (fun y e2 hy=>⟨hy.1,hy.2.mono fun t ht=>by simp[cD,ht]⟩) (pR a ha)) (fun hb=>kO b (fun y e2 hy=>⟨hy.1,hy.2.mono fun t ht=>by simp[cD,ht]⟩) (pR b hb)) hh) hh
 | .block id b,Q,e,hh=>by
   refine kO b (fun x e' hx=>?_) (pR b hh)
   obtain⟨hx,hf⟩:=hx
   have kB:Fr h.gh (.block id b) e e':=hf
   cases x with
   |normal=>exact⟨hx,kB⟩
   |exit i=>
    have dK:cond (i==id) (Q .normal e') (Q (.exit i) e'):=hx
    show cond (i==id) (Q .normal e'∧Fr h.gh (.block id b) e e') (Q (.exit i) e'∧Fr h.gh (.block id b) e e')
    cases hb:(i==id)<;>rw[hb]at dK<;>exact⟨dK,kB⟩
   |ret=>exact⟨hx,kB⟩
 | .loop b,Q,e,hh=>by
   obtain⟨hb,hh⟩:=qU (hh:cond _ _ False)
   have hk:=(Bool.and_eq_true _ _▸hb).2
   refine z6 hb fun I hI=>?_
   refine hh I fun vs bs hF=>hI vs bs (kO b (fun x e' hx=>?_) (pR b hF))
   obtain⟨hx,hf⟩:=hx
   have kB:Fr h.gh (.loop b) e e':=(E9 (vs:=vs) (bs:=bs) hk).trans (b:=b) hf (fun t ht=>ht) (fun t ht=>ht)
   cases x with
   |normal=>exact hx
   |exit i=>exact⟨hx,kB⟩
   |ret=>exact⟨hx,kB⟩
 | .exit id,_,e,hh=>⟨hh,Fr.refl _ _⟩
 | .ret,_,e,hh=>⟨hh,Fr.refl _ _⟩
 | .goto _,_,_,hh=>hh
 | .label _,_,e,hh=>⟨hh,Fr.refl _ _⟩
 | .scope _,_,_,hh=>hh
 | .rangeFunc _ _ _ _,_,_,hh=>hh
 | .refuse _,_,_,hh=>hh
end
end Go.Proofs.Ytimbllcalipehaa.Ab
namespace Go.Proofs.Ytimbllcalipehaa.Ab
open Go Go.RowKit
section
variable{P:Program}{gl:Nat→Option D}{h:Hints}
def Gh.cut(g:Gh)(n:Nat):Gh:={g with bx:=g.bx.take n}
theorem CA{g:Gh}{n i:Nat}{x:Option Nat}(hi:i<n):(g.cut n).bx[i]? =some x↔g.bx[i]? =some x:=by
 simp only[Gh.cut];rw[List.getElem?_take,if_pos hi]
theorem z0{g:Gh}{n i:Nat}{x:Option Nat}(h:(g.cut n).bx[i]? =some x):i<n∧g.bx[i]? =some x:=by
 simp only[Gh.cut]at h
 rw[List.getElem?_take]at h
 split at h
 ·exact⟨by assumption,h⟩
 ·cases h
theorem uB{g:Gh}{n:Nat}{x:Option Nat}(h:x∈(g.cut n).bx):x∈g.bx:=List.mem_of_mem_take h
theorem Jm{base:Nat}{w:World}{g:Gh}{n:Nat}{p:Pos}{b a c:Nat}(h:eJ base w g p b a c):eJ base w (g.cut n) p b a c:=
 ⟨h.1,h.2.1,fun hm=>h.2.2.1 (uB hm),h.2.2.2⟩
theorem Cm{base A1:Nat}{w w1:World}{g g1:Gh}{s:Slot}{v v1:Value}{O O1:Nat→Nat→Nat→Nat→Prop}(h0:cg A1 w g O s v)(h1:cg base w1 g1 O1 s v1){n:Nat}(hn:g.bx.length≤n):
  ∀O2,(∀x,s≠.v x)→(∀x,s≠.t x)→cg base w1 (g1.cut n) O2 s v1:=by
 have key:∀{s:Slot}{v1:Value}{O1:Nat→Nat→Nat→Nat→Prop},cg base w1 g1 O1 s v1→∀{O v},cg A1 w g O s v→∀O2,(∀j b a c,O1 j b a c→O2 j b a c)→cg base w1 (g1.cut n) O2 s v1:=by
  intro s v1 O1 h1
  induction h1 with
  |v O1 x y hx=>intro O v _ O2 hO;exact .v _ _ _ (hx.mono (fun _ _ h=>(by first|exact⟨h,rfl⟩|exact⟨h,.refl _ _ _⟩)) (fun _ _ _=>rfl) _ (fun b a c h=>⟨hO 0 b a c h,.refl _ _ _⟩))
  |p O1 b off aj hb=>
   intro O v h0 O2 hO
   obtain⟨Sr,_,sg⟩:=h0.mc
   have:=(List.getElem?_eq_some_iff.1 sg).1
   exact .p _ b off aj ((CA (by omega)).2 hb)
  |a O1 b n1 DV v hm hb=>
   intro O v h0 O2 hO
   cases h0 with
   |a _ _ _ _ _ _ sg=>
    obtain⟨Sr,_,sg,_⟩:=sg
    obtain⟨aj,cap,hb,h2,h3⟩:=hb
    have:=(List.getElem?_eq_some_iff.1 sg).1
    exact .a _ b n1 DV _ hm ⟨aj,cap,(CA (by omega)).2 hb,h2,h3⟩
  |m O1 b aj hb=>
   intro O v h0 O2 hO
   cases h0 with
   |m _ _ Sr sg=>
    have:=(List.getElem?_eq_some_iff.1 sg).1
    exact .m _ b aj ((CA (by omega)).2 hb)
  |c O1 f first cap fv cv hf hc _ _ iV iW=>
   intro O v h0 O2 hO
   cases h0 with
   |c _ _ _ _ Tm Tn LM oE rf0 rc0=>
    refine .c _ f first cap fv cv hf hc (fun i x v hx hv=>?_) (fun i x v hx hv=>?_)
    ·have hi:i<Tm.size:=by rw[←LM];exact(List.getElem?_eq_some_iff.1 hx).1
     exact iV i x v hx hv (rf0 i x Tm[i] hx (by simp)) _ (fun _ _ _ _ h=>h)
    ·have hi:i<Tn.size:=by rw[←oE];exact(List.getElem?_eq_some_iff.1 hx).1
     exact iW i x v hx hv (rc0 i x Tn[i] hx (by simp)) _ (fun _ _ _ _ h=>h)
  |t O1 xs vs hl hc=>
   intro O v _ O2 hO
   exact .t _ xs vs hl fun j x v a b=>(hc j x v a b).mono (fun _ _ h=>(by first|exact⟨h,rfl⟩|exact⟨h,.refl _ _ _⟩)) (fun _ _ _=>rfl) _ (fun b a c h=>⟨hO j b a c h,.refl _ _ _⟩)
 intro O2 hv ht
 cases h1 with
 |v _ x _ _=>exact absurd rfl (hv x)
 |t _ x _ _ _=>exact absurd rfl (ht x)
 |p _ b off aj hb=>exact key (.p O2 b off aj hb) h0 _ (fun _ _ _ _ h=>h)
 |a _ b n1 DV _ hm hb=>exact key (.a O2 b n1 DV _ hm hb) h0 _ (fun _ _ _ _ h=>h)
 |m _ b aj hb=>exact key (.m O2 b aj hb) h0 _ (fun _ _ _ _ h=>h)
 |c _ f first cap fv cv hf hc rf rc=>exact key (.c O2 f first cap fv cv hf hc rf rc) h0 _ (fun _ _ _ _ h=>h)
theorem Ir{w0:World}{ao:S0}{e e1:Env}{a a1:Act}{w w1:World}{g g1:Gh}(hI:Inv gl w0 ao e a w g)(cY:Inv gl w0 ao e1 a1 w1 g1){b:Code}(hf:Fr h.gh b e e1){vars consts:List Nat}
  (hc:∀t∈consts,t∉cD h.gh b):Inv gl w0 ao (again vars consts (td e1 vars) (sX e.boxes.length e1) e) a1 w1 (g1.cut e.boxes.length):=by
 have hX:Ext w0.heap.size w1 g1 w1 {g1 with bx:=g1.bx} (fun _=>False):=⟨fun _ _ hb ho h=>⟨h,hb,ho,fun _ h=>h⟩,fun _ _ h=>(by first|exact⟨h,rfl⟩|exact⟨h,.refl _ _ _⟩),fun _ _ _=>rfl,fun _ _ h=>h,fun _ _ _ _ _ h=>⟨h,.refl _ _ _⟩,.refl _⟩
 refine⟨cY.below,?_,?_,?_,?_,?_,cY.fN,?_,?_,?_,cY.defers,fun D o hD=>(have h:=cY.eN D o hD;⟨fun hm=>h.1 (uB hm),h.2⟩),cY.cls,cY.jq⟩
 ·rw[cY.size,hf.1];simp[again,Hr]
 ·intro i s hs
  simp only[again,Ht,Option.map_eq_some_iff,Nat.zero_add]at hs
  obtain⟨s0,lQ,rfl⟩:=hs
  have h1:=jz cY i
  simp only[Act.eval]at h1
  split
  ·rename_i j hj
   obtain⟨_,tU⟩:=Ou hj
   simp only[Nat.sub_zero]at tU
   have hv:ae (td e1 vars) j=(e1.ai.getD i (.v .undef)).bU :=by
    simp[ae,td,List.getD_eq_getElem?_getD,List.getElem?_map,tU]
   rw[hv]
   cases jr:e1.ai.getD i (.v .undef)with
   |v x=>
    rw[jr]at h1
    exact .v _ _ _ (h1.jB.mono (fun _ _ h=>(by first|exact⟨h,rfl⟩|exact⟨h,.refl _ _ _⟩)) (fun _ _ _=>rfl) _ (fun _ _ _ h=>⟨Jm h,.refl _ _ _⟩))
   |_=>exact .v _ _ _ (.undef _ _)
  ·cases dq:consts.contains i with
   |false=>exact .v _ _ _ (.undef _ _)
   |true=>
    have LC:=hc i (by simpa using dq)
    have aS:=hf.2.2.1 i LC
    have aeG:e.ai.getD i (.v .undef)=s0:=by rw[List.getD_eq_getElem?_getD,lQ];rfl
    rw[aeG]at aS
    have h0:=hI.ai i s0 lQ
    cases s0 with
    |v x=>exact .v _ _ _ (.undef _ _)
    |t x=>exact .v _ _ _ (.undef _ _)
    |p b' off=>
     have gr:e1.ai.getD i (.v .undef)=.p b' off:=by
      revert aS
      cases e1.ai.getD i (.v .undef)<;>simp[Slot.stays]
     rw[gr]at h1
     exact Cm h0 h1 (by rw[hI.eX];exact Nat.le_refl _) _ (by simp) (by simp)
    |a b' n1 DV=>
     have gr:e1.ai.getD i (.v .undef)=.a b' n1 DV:=by
      revert aS
      cases e1.ai.getD i (.v .undef)<;>simp[Slot.stays]
     rw[gr]at h1
     exact Cm h0 h1 (by rw[hI.eX];exact Nat.le_refl _) _ (by simp) (by simp)
    |m b'=>
     have gr:e1.ai.getD i (.v .undef)=.m b':=by
      revert aS
      cases e1.ai.getD i (.v .undef)<;>simp[Slot.stays]
     rw[gr]at h1
     exact Cm h0 h1 (by rw[hI.eX];exact Nat.le_refl _) _ (by simp) (by simp)
    |c f first cap=>
     have gr:e1.ai.getD i (.v .undef)=.c f first cap:=by
      revert aS
      cases e1.ai.getD i (.v .undef)<;>simp[Slot.stays]<;>intros<;>simp_all
     rw[gr]at h1
     exact Cm h0 h1 (by rw[hI.eX];exact Nat.le_refl _) _ (by simp) (by simp)
 ·simp only[again,Hs,Gh.cut,List.length_take,cY.eX]
  have:=hf.2.1
  omega
 ·intro b' bx aj h1 h2
  obtain⟨aF,h2⟩:=z0 h2
  simp only[again,Hu,Option.map_eq_some_iff,Nat.zero_add]at h1
  obtain⟨DW,aeH,rfl⟩:=h1
  have Gc:b'<e1.boxes.length:=by rw[←cY.eX];exact(List.getElem?_eq_some_iff.1 h2).1
  have hr:=cY.boxes b' e1.boxes[b'] aj (by simp) h2
  have wO:=hf.2.2.2 b' aF
  rw[List.getD_eq_getElem?_getD,List.getD_eq_getElem?_getD,aeH,List.getElem?_eq_getElem Gc,Option.getD_some,Option.getD_some]at wO
  have adJ:an (sX e.boxes.length e1) b'=e1.boxes[b'].ay :=by
   simp[an,sX,List.getD_eq_getElem?_getD,List.getElem?_map,List.getElem?_take,aF,Gc]
  rw[adJ]
  generalize e1.boxes[b']=LN at hr wO
  have wO:DW≠.none ∧LN.isMap=DW.isMap:=by
   rcases wO with h|h
   ·subst h;exact hr.elim
   ·exact h
  have pW:∀cs,LN.isMap=false→af.again cs DW=.cells cs:=fun cs h=>by
   rw[h]at wO
   cases DW<;>first|rfl|exact absurd rfl wO.1|exact absurd wO.2 (by simp[af.isMap])
  cases LN with
  |none=>exact hr.elim
  |cells cs=>
   rw[pW _ rfl]
   obtain⟨r1,c,t,r2,r3,r4⟩:=hr
   exact⟨r1,c,t,r2,r3,r4.1,fun j x y hx hy=>(r4.2 j x y hx hy).mono (fun _ _ h=>(by first|exact⟨h,rfl⟩|exact⟨h,.refl _ _ _⟩)) (fun _ _ _=>rfl) _ (fun _ _ _ h=>⟨Jm h,.refl _ _ _⟩)⟩
  |one s=>
   rw[pW _ rfl]
   obtain⟨r1,c,t,r2,r3,r4⟩:=hr
   refine⟨r1,c,t,r2,r3,Nat.succ_le_of_lt r4.1,fun j x y hx hy=>?_⟩
   have:x=.undef :=by
    cases j<;>simp[af.ay]at hx
    exact hx.symm
   subst this
   exact .undef _ _
  |map l=>
   cases DW with
   |map l0=>
    obtain⟨r1,es,clock,r2,r3,r4⟩:=hr
    exact⟨r1,es,clock,r2,r3,r4⟩
   |_=>exact absurd wO.2 (by simp[af.isMap])
 ·intro i j aj h1 h2
  exact cY.nodup i j aj (z0 h1).2 (z0 h2).2
 ·intro b' o h'
  exact⟨(cY.cE b' o h').1,fun hm=>(cY.cE b' o h').2.1 (uB hm),(cY.cE b' o h').2.2⟩
 ·intro b' h'
  exact cY.dn b' (uB h')
 ·exact cY.j3
theorem ES{w0:World}{ao:S0}{e:Env}{a:Act}{w:World}{g:Gh}(hI:Inv gl w0 ao e a w g){key:Nat}{c:Code}{QA:Ex→Env→Prop}{T:(Ex→Env→Prop)→Prop}
  (hF:∀Q,T Q→T (fun ex e'=>Q ex e'∧Fr h.gh c e e'))(hh:pZ h key c e QA T):
  ∃tZ,T tZ∧∀ex e' a' w' g',Inv gl w0 ao e' a' w' g'→tZ ex e'→∃kY vQ,Inv gl w0 ao kY a' w' vQ∧QA ex kY:=by
 unfold pZ at hh
 generalize mK h.eM key=kk at hh
 obtain⟨vars,consts⟩:=kk
 cases vars<;>cases consts
 ·exact⟨_,hh,fun ex e' a' w' g' h1 h2=>⟨e',g',h1,h2⟩⟩
 all_goals
  obtain⟨hb,hh⟩:=qU (hh:cond _ _ False)
  simp only[Bool.and_eq_true,List.all_eq_true,Bool.not_eq_true',List.contains_eq_mem,decide_eq_false_iff_not]at hb
  refine⟨_,hF _ hh,fun ex e' a' w' g' h1 h2=>?_⟩
  obtain⟨h2,hf⟩:=h2
  cases ex with
  |normal=>exact⟨_,_,Ir hI h1 hf hb.1,h2⟩
  |exit i=>exact⟨e',g',h1,h2⟩
  |ret=>exact⟨e',g',h1,h2⟩
theorem ND{id:Nat}{ops:Array Oper}{draw:Bool}{e:Env}(Q:Ex→Env→Prop)(hh:lD P gl (aD P gl) h id ops draw e (Q .normal)):
 lD P gl (aD P gl) h id ops draw e (fun e2=>Q .normal e2∧Fr h.gh (.region id ops draw) e e2):=Ot hh
theorem aaf{w0:World}{ao:S0}{e:Env}{a:Act}{w:World}{g:Gh}(hI:Inv gl w0 ao e a w g){id:Nat}{ops:Array Oper}{draw:Bool}{K:Env→Prop}{Q:Exit→Act→World→Prop}(hm:P.follows .mixedOrders =true)
  (hh:lD P gl (aD P gl) h id ops draw e K)(hQ:∀e a w g,Inv gl w0 ao e a w g→K e→Q .normal a w):(Code.region id ops draw).wp P Q a w:=by
 unfold lD at hh
 obtain⟨hb,hh⟩:=qU hh
 obtain⟨e1,g1,cY,h1⟩:=Ah hI hh
 have vR:∀e a w g,Inv gl w0 ao e a w g→gA (kj h.gh (4000000+id)) e K→Q .normal a w:=fun e a w g h1 h2=>by
  obtain⟨e2,g2,bG,h3⟩:=Ah h1 h2
  exact hQ e2 a w g2 bG h3
 cases hs:uK P draw ops.toList with
 |some s=>
  simp only[hs]at h1
  obtain⟨hd,LO⟩:=HN hs
  subst hd
  have hr:=PS cY LO h1
  refine wp_region ?_
  have:=Qt (ops:=ops) (Q:=Q) (fun a' w'⟨e',g',bh,hk⟩=>vR e' a' w' g' bh hk) ops.toList 0 (fun j=>by simp) hr
  rw[List.range_eq_range']
  simpa using this
 |none=>
  simp only[hs]at h1
  exact XD cY hm h1 fun e' a' w' g' bh hk=>vR e' a' w' g' bh hk
theorem Ow{c:Operand}{a b:Code}{e:Env}(Q:Ex→Env→Prop)(hh:nU e c (aw P gl (aD P gl) h a Q) (aw P gl (aD P gl) h b Q)):
  nU e c (aw P gl (aD P gl) h a fun x e'=>Q x e'∧Fr h.gh (.cond c a b) e e') (aw P gl (aD P gl) h b fun x e'=>Q x e'∧Fr h.gh (.cond c a b) e e'):=
 HO (A:=aw P gl (aD P gl) h a Q) (B:=aw P gl (aD P gl) h b Q)
     (fun ha=>kO a (fun y e2 hy=>⟨hy.1,hy.2.mono fun t ht=>by simp[cD,ht]⟩) (pR a ha)) (fun hb=>kO b (fun y e2 hy=>⟨hy.1,hy.2.mono fun t ht=>by simp[cD,ht]⟩) (pR b hb)) hh
theorem sV(hm:P.follows .mixedOrders =true):∀(c:Code){w0:World}{ao:S0}{QA:Ex→Env→Prop}{e:Env}{a:Act}{w:World}{g:Gh}{Q:Exit→Act→World→Prop},
  Inv gl w0 ao e a w g→aw P gl (aD P gl) h c QA e→(∀x e' a' w' g',Inv gl w0 ao e' a' w' g'→QA x e'→Q x.to a' w')→c.wp P Q a w
 | .skip,_,_,_,_,_,_,_,_,hI,hh,hQ=>wp_skip (hQ .normal _ _ _ _ hI hh)
 | .region id ops draw,w0,ao,QA,e,a,w,g,Q,hI,hh,hQ=>by
   obtain⟨tZ,hh,hj⟩:=ES hI (c:=.region id ops draw) (T:=fun Q=>lD P gl (aD P gl) h id ops draw e (Q .normal)) (fun Q hh=>ND Q hh) hh
   have hQ:∀x e' a' w' g',Inv gl w0 ao e' a' w' g'→tZ x e'→Q x.to a' w':=fun x e' a' w' g' h1 h2=>(by
    obtain⟨kY,vQ,h3,h4⟩:=hj x e' a' w' g' h1 h2
    exact hQ x kY a' w' vQ h3 h4)
   clear hj
   exact aaf hI hm hh fun e' a' w' g' bh hk=>hQ .normal e' a' w' g' bh hk
 | .seq x y,w0,ao,QA,e,a,w,g,Q,hI,hh,hQ=>by
   refine wp_seq (sV hm x hI hh fun ex e' a' w' g' bh hk=>?_)
   cases ex with
   |normal=>exact sV hm y bh hk hQ
   |exit i=>exact hQ (.exit i) e' a' w' g' bh hk
   |ret=>exact hQ .ret e' a' w' g' bh hk
 | .cond c x y,w0,ao,QA,e,a,w,g,Q,hI,hh,hQ=>by
   obtain⟨tZ,hh,hj⟩:=ES hI (c:=.cond c x y) (T:=fun Q=>nU e c (aw P gl (aD P gl) h x Q) (aw P gl (aD P gl) h y Q)) (fun Q hh=>Ow Q hh) hh
   have hQ:∀x e' a' w' g',Inv gl w0 ao e' a' w' g'→tZ x e'→Q x.to a' w':=fun x e' a' w' g' h1 h2=>(by
    obtain⟨kY,vQ,h3,h4⟩:=hj x e' a' w' g' h1 h2
    exact hQ x kY a' w' vQ h3 h4)
   clear hj
   cases c with
   |tmp t=>
    simp only[nU]at hh
    have hs:=jz hI t
    cases hx:e.ai.getD t (.v .undef)with
    |v z=>
     rw[hx]at hh hs
     obtain⟨b,rfl,h1,h2⟩:=Af hh
     have hv:=hs.jB.data.sU
     refine wp_cond_split hv (fun hb=>?_) (fun hb=>?_)
     ·have:=h1 hb
      subst hb
      rw[uv hx]at this
      exact sV hm x hI this hQ
     ·have:=h2 hb
      subst hb
      rw[uv hx]at this
      exact sV hm y hI this hQ
    |_=>rw[hx]at hh;exact hh.elim
   |const v=>
    cases v with
    |bool b=>
     refine wp_cond_split (t:=b) rfl (fun hb=>?_) (fun hb=>?_)
     ·subst hb;exact sV hm x hI hh hQ
     ·subst hb;exact sV hm y hI hh hQ
    |_=>exact hh.elim
   |_=>exact hh.elim
 | .block id b,w0,ao,QA,e,a,w,g,Q,hI,hh,hQ=>by
   refine wp_block (sV hm b hI hh fun ex e' a' w' g' bh hk=>?_)
   cases ex with
   |normal=>exact hQ .normal e' a' w' g' bh hk
   |exit i=>
    have bR:cond (i==id) (QA .normal e') (QA (.exit i) e'):=hk
    show(if i=id then Q .normal a' w' else Q (.exit i) a' w')
    cases hb:(i==id)with
    |true=>
     rw[hb]at bR
     rw[if_pos (beq_iff_eq.1 hb)]
     exact hQ .normal e' a' w' g' bh bR
    |false=>
     rw[hb]at bR
     rw[if_neg (beq_eq_false_iff_ne.1 hb)]
     exact hQ (.exit i) e' a' w' g' bh bR
   |ret=>exact hQ .ret e' a' w' g' bh hk
 | .loop b,w0,ao,QA,e,a,w,g,Q,hI,hh,hQ=>by
   obtain⟨hb,hh⟩:=qU (hh:cond _ _ False)
   simp only[Bool.and_eq_true,List.all_eq_true,Bool.not_eq_true',List.contains_eq_mem,decide_eq_false_iff_not]at hb
   obtain⟨KE,hk⟩:=hb
   let LW:Act→World→Prop:=fun a1 w1=>∀(fr:Frame)(k:List Item)(cs:List Frame),∃ex a' w',Q ex a' w'∧Arrives P (lone (fr.at a1 (.code b::.inLoop b::k)) cs w1) fr k cs ex a' w'
   let I:List SV→List (List SV)→Prop:=fun vs bs=>∀e1 a1 w1 g1,Inv gl w0 ao e1 a1 w1 g1→Fr h.gh b e e1→td e1 (mK h.eM (l6 b)).1=vs→sX e.boxes.length e1=bs→LW a1 w1
   have key:I _ _:=hh I fun vs bs hF e1 a1 w1 g1 cY vP jG gI=>by
    subst jG gI
    have LP:=Ir hI cY vP (vars:=(mK h.eM (l6 b)).1) KE
    have iP:=sV hm b (Q:=fun ex a' w'=>match ex with| .normal =>LW a' w'|ex=>Q ex a' w') LP (pR b hF) (fun ex e' a' w' g' bh bR=>by
     obtain⟨jw,kG⟩:=bR
     cases ex with
     |normal=>exact jw e' a' w' g' bh ((E9 hk).trans kG (fun t ht=>ht) (fun t ht=>ht)) rfl rfl
     |exit i=>exact hQ (.exit i) e' a' w' g' bh jw
     |ret=>exact hQ .ret e' a' w' g' bh jw)
    intro fr k cs
    obtain⟨ex,a2,w2,hq,lH⟩:=iP fr (.inLoop b::k) cs
    cases ex with
    |normal=>
     obtain⟨e₂,a₂,w₂,LQ,Kb⟩:=hq fr k cs
     exact⟨e₂,a₂,w₂,LQ,.of_steps (Steps.trans lH (.one step_inLoop)) Kb⟩
    |exit id=>exact⟨_,a2,w2,hq,.pass (x:=.inLoop b) rfl (fun _ _=>.inl (by simp)) lH⟩
    |goto l=>exact⟨_,a2,w2,hq,.pass (x:=.inLoop b) rfl (fun _ _=>.inl (by simp)) lH⟩
    |ret=>exact⟨_,a2,w2,hq,.pass (x:=.inLoop b) rfl (fun _ _=>.inl (by simp)) lH⟩
    |panic ch=>exact⟨_,a2,w2,hq,.pass (x:=.inLoop b) rfl (fun _ _=>.inl (by simp)) lH⟩
    |outgrown=>exact⟨_,a2,w2,hq,.pass (x:=.inLoop b) rfl (fun _ _=>.inl (by simp)) lH⟩
   have LR:LW a w:=key e a w g hI (Fr.refl _ _) rfl rfl
   intro fr k cs
   obtain⟨ex,a',w',hq,lH⟩:=LR fr k cs
   exact⟨ex,a',w',hq,.of_steps (.one step_loop) lH⟩
 | .exit id,_,_,_,_,_,_,_,_,hI,hh,hQ=>wp_exit (hQ (.exit id) _ _ _ _ hI hh)
 | .ret,_,_,_,_,_,_,_,_,hI,hh,hQ=>wp_ret (hQ .ret _ _ _ _ hI hh)
 | .goto _,_,_,_,_,_,_,_,_,_,hh,_=>hh.elim
 | .label _,_,_,_,_,_,_,_,_,hI,hh,hQ=>wp_label (hQ .normal _ _ _ _ hI hh)
 | .scope _,_,_,_,_,_,_,_,_,_,hh,_=>hh.elim
 | .rangeFunc _ _ _ _,_,_,_,_,_,_,_,_,_,hh,_=>hh.elim
 | .refuse _,_,_,_,_,_,_,_,_,_,hh,_=>hh.elim
end
end Go.Proofs.Ytimbllcalipehaa.Ab
namespace Go.Proofs.Ytimbllcalipehaa.Ab
open Go Go.RowKit
section
variable{P:Program}{gl:Nat→Option D}{h:Hints}
theorem XI{f:FuncId}{fn:Func}{c:Code}(hf:P.funcs[f]? =some fn)(Kc:(fn.name== "runtime.NumGoroutine")=false)(hb:fn.body=some c):lu P f:=by
 intro args w
 have h1:fn.name≠ "runtime.NumGoroutine" :=by simpa using Kc
 simp[callFunc,hf,h1,hb]
theorem aJ.A1{w:World}{St:Nat→Nat→Prop}{base:Nat}{O:Nat→Nat→Nat→Prop}{x:SV}{v:Value}(r:aJ w St base O x v)(hx:x.ax=true):aJ w St 0 O x v:=by
 have hL:∀{l:List SV},SV.gy l=true→∀(i:Nat)y,l[i]? =some y→y.ax=true:=by
  intro l
  induction l with
  |nil=>intro _ i y h;simp at h
  |cons z l ih=>
   intro h i y hy
   simp only[SV.gy,Bool.and_eq_true]at h
   cases i with
   |zero=>simp at hy;subst hy;exact h.1
   |succ i=>exact ih h.2 i y (by simpa using hy)
 induction r with
 |d O x v hd=>exact .d O x v hd
 |own O sz L g cap hd bJ ho=>exact .own O sz L g cap hd bJ ho
 |full O sz L a hd=>exact .full O sz L a hd
 |ref=>simp[SV.ax]at hx
 |cG=>simp[SV.ax]at hx
 |aT O x off b o vs hf aP hc=>exact .aT O x off b o vs hf aP hc
 |di O f first cap fv cv hf hc _ _ iV iW=>
  simp only[SV.ax,Bool.and_eq_true]at hx
  exact .di O f first cap fv cv hf hc (fun i x v a b=>iV i x v a b (hL hx.1 i x a)) (fun i x v a b=>iW i x v a b (hL hx.2 i x a))
 |bt O sz L g cap vs h1 h2 h3 h4 h5 h6 h7=>exact .bt O sz L g cap vs h1 h2 h3 h4 h5 h6 h7
 |mp O l r es clock hh hs hl hc=>exact .mp O l r es clock hh hs hl hc
 |undef O v=>exact .undef O v
theorem aJ.aag{w:World}{St:Nat→Nat→Prop}{base:Nat}{O:Nat→Nat→Nat→Prop}{l:List SV}{v:Value}(r:aJ w St base O (.aH l) v):False:=by cases r
def xZ(r:ResultVar)(tmps:Array Value):Sem Value:=match r with
 | .tmp t=>pure (tmps.getD t undef)
 | .cell a t=>do loadVar t (←asAddr (tmps.getD a undef))
theorem WU(fn:Func)(tmps:Array Value):results fn tmps=(fn.results.mapM fun r=>xZ r tmps)>>=fun vs=>pure (if h:vs.size=1 then vs[0]else .tuple vs):=by
 unfold results
 congr 1
def Rf(rs:List ResultVar):Pos→Option Nat
 | .s t 0=>rs.findIdx? fun r=>match r with| .tmp u=>u==t|_=>false
 |_=>none
def uY(g:Gh)(rs:List ResultVar)(b:Nat):Option Nat:=(g.ow b).bind (Rf rs)
theorem PT{w0:World}{ao:S0}{e:Env}{a:Act}{w:World}{g:Gh}(hI:Inv gl w0 ao e a w g){rs:List ResultVar}{used:List Nat}{j:Nat}{r:ResultVar}(hr:rs[j]? =some r)
  (adK:∀i u,i<j→rs[i]? =some (.tmp u)→u∈used){k:SV→Prop}(hh:yO P e used r k):
  ∃x v,k x∧(xZ r a.tmps).run P w=.ok v w∧aJ w g.St 0 (va w0.heap.size w g.St (uY g rs) j) x v:=by
 cases r with
 |tmp t=>
  simp only[yO]at hh
  have hs:=jz hI t
  cases hx:e.ai.getD t (.v .undef)with
  |v x=>
   rw[hx]at hh hs
   obtain⟨hn,hk⟩:=hh
   refine⟨_,a.tmps.getD t undef,hk,rfl,?_⟩
   have hv:aJ w g.St 0 (eW w0.heap.size w g t 0) x (a.tmps.getD t undef):=hs.jB.A1 hn
   cases hu:used.contains t with
   |true=>exact hv.aa
   |false=>
    refine hv.mono (fun _ _ h=>(by first|exact⟨h,rfl⟩|exact⟨h,.refl _ _ _⟩)) (fun _ _ _=>rfl) _ fun b a' c ho=>⟨?_,.refl _ _ _⟩
    obtain⟨o1,o2,_,o4,o5⟩:=ho
    refine⟨?_,o2,o4,o5⟩
    simp only[uY,o1,Option.bind_some,Rf]
    rw[List.findIdx?_eq_some_iff_getElem]
    have hj:j<rs.length:=(List.getElem?_eq_some_iff.1 hr).1
    have LB:rs[j]=.tmp t:=(List.getElem?_eq_some_iff.1 hr).2
    refine⟨hj,by simp[LB],fun i hi=>?_⟩
    have m0:i<rs.length:=by omega
    cases zo:rs[i]with
    |tmp u=>
     have:=adK i u hi (by rw[List.getElem?_eq_getElem m0,zo])
     have bg:u≠t:=by
      rintro rfl
      simp at hu
      exact hu this
     simpa using bg
    |cell _ _=>simp
  |_=>rw[hx]at hh;exact hh.elim
 |cell c t=>
  simp only[yO]at hh
  obtain⟨ly,hl,hh⟩:=aI hh
  obtain⟨b0,n⟩:=ly
  have hs:=jz hI c
  cases hx:e.ai.getD c (.v .undef)with
  |p bn off=>
   rw[hx]at hh hs
   obtain⟨aj,hv,dk⟩:=hs.mc
   simp only[Act.eval]at hv
   change pS b0 n bn off e.boxes _ at hh
   unfold pS at hh
   split at hh
   ·rename_i cs cf
    obtain⟨y,hy,hn,hk⟩:=aI hh
    obtain⟨h0,cc,ty,hc,cq,hlen,bc⟩:=hI.boxes bn _ aj cf dk
    obtain⟨v,h1,h2⟩:=HW (w:=w) (off:=off) (St:=g.St) (O:=fun j=>rD w0.heap.size w g bn j) hl hy aj 0 (fun i=>cc.getD i undef) (fun i hi=>by
     rw[cell_of_row w aj (0+i) cc ty (0,0) hc];simp[Nat.lt_of_lt_of_le hi hlen]) (fun i d hd=>by
     have hi:=(List.getElem?_eq_some_iff.1 hd).1
     exact bc i d _ hd (by simp[Nat.lt_of_lt_of_le hi hlen])) (fun i hi=>by
     have eE:i<cc.size:=Nat.lt_of_lt_of_le hi hlen
     simp[eE];exact cq i _ hi (by simp))
    simp only[Nat.zero_add]at h1
    refine⟨_,v,hk,?_,(h2.aa (O':=fun _ _ _=>False)).A1 hn |>.mono (fun _ _ h=>(by first|exact⟨h,rfl⟩|exact⟨h,.refl _ _ _⟩)) (fun _ _ _=>rfl) _ (fun _ _ _ h=>h.elim)⟩
    simp[xZ,hv,asAddr,h1]
   ·rename_i s ml
    cases b0 with
    |true=>exact hh.elim
    |false=>
     simp only[cond_false]at hh
     split at hh
     ·obtain⟨h0,cc,ty,hc,cq,aM,bc⟩:=hI.boxes bn _ aj ml dk
      have Dw:cc[0]? =some (cc[0]'(by omega)):=by simp
      have hd:=(bc _ Dw).aa (O':=fun _ _ _ _=>False)
      split at hh
      ·rename_i x dK
       obtain⟨hn,hk⟩:=hh
       rw[dK]at hd
       refine⟨x,cc[0]'(by omega),hk,?_,hd.jB.A1 hn |>.mono (fun _ _ h=>(by first|exact⟨h,rfl⟩|exact⟨h,.refl _ _ _⟩)) (fun _ _ _=>rfl) _ (fun _ _ _ h=>h.elim)⟩
       have ba:=xS (P:=P) (w:=w) (vs:=fun _=>cc[0]'(by omega)) hl aj 0 (fun j hj=>by
        simp at hj;subst hj
        rw[cell_of_row w aj (0+0) cc ty (0,0) hc];exact Dw)
       simp[xZ,hv,asAddr,ba]
      ·exact hh.elim
     ·exact hh.elim
   ·exact hh.elim
  |_=>rw[hx]at hh;exact hh.elim
theorem Ph{w0:World}{ao:S0}{e:Env}{a:Act}{w:World}{g:Gh}(hI:Inv gl w0 ao e a w g){rs:List ResultVar}:∀(l:List ResultVar)(used:List Nat)(j:Nat)(k:List SV→Prop),(∀i,l[i]? =rs[j+i]?)→
  (∀i u,i<j→rs[i]? =some (.tmp u)→u∈used)→yA P e used l k→
  ∃xs vs,k xs∧xs.length=l.length∧(l.mapM fun r=>xZ r a.tmps).run P w=.ok vs w∧vs.length=l.length∧∀(i:Nat)x v,xs[i]? =some x→vs[i]? =some v→aJ w g.St 0 (va w0.heap.size w g.St (uY g rs) (j+i)) x v
 |[],_,_,k,_,_,hh=>⟨[],[],hh,rfl,by simp,rfl,fun i x v h=>by simp at h⟩
 |r::l,used,j,k,hl,hu,hh=>by
  simp only[yA]at hh
  have hr:rs[j]? =some r:=by simpa using(hl 0).symm
  obtain⟨x,v,hk,ba,bc⟩:=PT hI hr hu hh
  obtain⟨xs,vs,bR,LS,adL,zu,FT⟩:=Ph hI l (FA used r) (j+1) _ (fun i=>by have:=hl (i+1);simpa[Nat.add_assoc,Nat.add_comm 1 i]using this) (fun i u hi zo=>by
   rcases Nat.lt_or_ge i j with h'|h'
   ·have:=hu i u h' zo
    cases r<;>simp[FA,this]
   ·have:i=j:=by omega
    subst this
    rw[hr]at zo
    cases zo
    simp[FA]) hk
  refine⟨x::xs,v::vs,bR,by simp[LS],?_,by simp[zu],fun i y u hy hv=>?_⟩
  ·simp[List.mapM_cons,ba,adL]
  ·cases i with
   |zero=>simp at hy hv;subst hy hv;exact bc
   |succ i=>
    have:=FT i y u (by simpa using hy) (by simpa using hv)
    rw[show j+(i+1)=j+1+i by omega]
    exact this
theorem B6{fn:Func}{tmps:Array Value}{vs:List Value}{w:World}(hh:(fn.results.toList.mapM fun r=>xZ r tmps).run P w=.ok vs w):
  (results fn tmps).run P w=.ok (match vs with|[v]=>v|vs=>.tuple vs.toArray) w:=by
 rw[WU,Array.mapM_eq_mapM_toList]
 simp only[Sem.run_bind,map_eq_pure_bind,hh,Result.andThen_ok,Sem.run_pure]
 match vs with
 |[]=>simp
 |[v]=>simp
 |v::u::l=>simp
theorem H8{w0:World}{ao:S0}{e:Env}{a:Act}{w:World}{g:Gh}(hI:Inv gl w0 ao e a w g){fn:Func}{K:SV→Prop}(hh:finish P fn e K):
  ∃r v,K r∧(results fn a.tmps).run P w=.ok v w∧uL w0.heap.size w g.St (uY g fn.results.toList) r v:=by
 unfold finish at hh
 split at hh
 ·rename_i r hr
  have LU:fn.results.toList[0]? =some r:=by rw[hr];rfl
  obtain⟨x,v,hk,ba,bc⟩:=PT hI LU (fun i u hi=>by omega) hh
  refine⟨x,v,hk,?_,?_⟩
  ·have:=B6 (P:=P) (fn:=fn) (tmps:=a.tmps) (w:=w) (vs:=[v]) (by rw[hr];simp[ba])
   exact this
  ·cases x with
   |aH l=>exact bc.aag.elim
   |_=>exact bc
 ·rename_i bg
  obtain⟨xs,vs,hk,LS,ba,zu,bc⟩:=Ph hI (rs:=fn.results.toList) fn.results.toList [] 0 _ (fun i=>by simp) (fun i u hi=>by omega) hh
  refine⟨.aH xs,.tuple vs.toArray,hk,?_,vs.toArray,rfl,by simp[LS,zu],fun j x y hx hy=>?_⟩
  ·rw[B6 ba]
   split
   ·rename_i v
    exfalso
    match LV:fn.results.toList with
    |[]=>rw[LV]at zu;simp at zu
    |[r]=>exact bg r LV
    |_::_::_=>rw[LV]at zu;simp at zu
   ·rfl
  ·have:=bc j x y hx (by simpa using hy)
   simpa using this
theorem cw(hm:P.follows .mixedOrders =true){f:FuncId}{args:List SV}{r:SV}(hE:lu P f)(hh:body P gl (aD P gl) h f args fun x=>x=r)(ha:lE args=none:=by rfl):aD P gl f args r:=by
 rw[xW ha]
 refine⟨hE,fun w St vs m5 oD hlen eF=>?_⟩
 unfold body at hh
 split at hh
 ·rename_i fn hf
  split at hh
  ·rename_i c hb
   have bA:SV.gb args:=by
    rw[SV.ki]
    intro x hx
    obtain⟨i,hi,rfl⟩:=List.mem_iff_getElem.1 hx
    exact(eF i _ (vs[i]'(by omega)) (by simp) (by simp)).wf
   have hh:=hh bA
   have hI:Inv gl w {St:=St,df:=fun _ _=>False,cl:=fun _ _ _=>False} (enter fn.ntmps args) {tmps:=vs++Array.replicate (fn.ntmps-vs.size) undef,defers:=[]} w ⟨St,[],fun _=>none⟩:=by
    refine⟨Below.refl _ _,by simp[enter,hlen],fun i s hs=>?_,rfl,fun b bx aj h1=>by simp[enter]at h1,fun i j aj h1=>by simp at h1,fun _ _ h=>h,fun b o hb=>⟨.inl hb,by simp,m5 b o hb⟩,fun b hb=>by simp at hb,oD,rfl,fun D o hD=>hD.elim,fun b o v hv=>hv.elim,Nat.zero_le _⟩
    simp only[enter]at hs
    rw[List.getElem?_append]at hs
    split at hs
    ·rename_i hi
     simp only[List.length_map]at hi
     simp only[List.getElem?_map,Option.map_eq_some_iff]at hs
     obtain⟨x,hx,rfl⟩:=hs
     have DX:i<vs.size:=by omega
     have:=eF i x vs[i] hx (by simp)
     have jn:(vs++Array.replicate (fn.ntmps-vs.size) undef).getD i undef=vs[i]:=by
      simp[Array.getElem?_append,DX]
     rw[jn]
     exact .v _ _ _ (this.mono (fun _ _ h=>(by first|exact⟨h,rfl⟩|exact⟨h,.refl _ _ _⟩)) (fun _ _ _=>rfl) _ (fun _ _ _ h=>h.elim))
    ·have:=(List.mem_replicate.1 (List.mem_of_getElem? hs)).2
     subst this
     exact .v _ _ _ (.undef _ _)
   refine calls_of_wp hf hb (sV hm c hI hh fun ex e' a' w' g' bh hk=>?_)
   have Bd:∀{K},finish P fn e' K→(∀x,K x→x=r)→a'.defers=[]∧∃v,(results fn a'.tmps).run P w'=.ok v w'∧(∃v',(Ending.returned v)=.returned v'∧Below w.heap.size w w'∧∃bH ow,(∀b o,St b o→bH b o)∧
     (∀b o,bH b o→St b o∨(w.heap.size≤b∧b<w'.heap.size))∧uL w.heap.size w' bH ow r v'):=by
    intro K hk hKr
    obtain⟨r',v,jw,ba,bc⟩:=H8 bh hk
    have:=hKr r' jw
    subst this
    exact⟨bh.defers,v,ba,v,rfl,bh.below,g'.St,_,bh.fN,fun b o h=>(bh.cE b o h).1.imp id fun h1=>⟨h1,(bh.cE b o h).2.2⟩,bc⟩
   cases ex with
   |normal=>exact Bd hk fun x hx=>hx
   |exit i=>exact hk.elim
   |ret=>exact Bd hk fun x hx=>hx
  ·exact hh.elim
 ·exact hh.elim
end
end Go.Proofs.Ytimbllcalipehaa.Ab
namespace Go.Proofs.Ytimbllcalipehaa.Ab
open Go
def aW(x:SV):Option SV:=match x with| .cG n _ _=>some (.d (.int .i64 n))|x=>(match Cj x with|some L=>some (.d (.int .i64 L.length))|none=>none)
def FD(s:Nat)(x:SV)(lo hi mx:Option SV):Option SV:=match cT x with
 |some (.sl k sz L)=>(match CW L lo hi,mx with
  |some r,none=>(match k with| .nil =>some (.d (.sl .nil s []))| .ro =>if sz=s then some (.d (.sl .ro sz r))else none)
  |some r,some m=>(match hi,cA m (L.length+1)with
   |some h,some _=>(match h,m with
    | .d (.int _ a),.d (.int _ b)=>if a=b then(match k with| .nil =>some (.d (.sl .nil s []))| .ro =>if sz=s then some (.full sz r)else none)else none
    |_,_=>none)
   |_,_=>none)
  |none,_=>none)
 |_=>none
def aO:List (Nat×Slot)→Option (List (Nat×D))
 |[]=>some []
 |(i,s)::l=>match s with
  | .v y=>(match cT y with
    |some z=>(match aO l with|some r=>some ((i,z)::r)|none=>none)
    |none=>none)
  |_=>none
end Go.Proofs.Ytimbllcalipehaa.Ab
namespace Go.Proofs.Ytimbllcalipehaa.Ab
open Go Go.RowKit Go.ChangeShapes Go.WideShapes
inductive RL{α β:Type}(R:α→β→Prop):List α→List β→Prop
 |nil:RL R [] []
 |cons {a:α} {b:β} {l:List α} {m:List β} (h:R a b) (t:RL R l m):RL R (a::l) (b::m)
section
variable{α β:Type}{R S:α→β→Prop}
theorem RL.length{l:List α}{m:List β}(h:RL R l m):l.length=m.length:=by induction h<;>simp_all
theorem RL.append{l l':List α}{m m':List β}(h:RL R l m)(h':RL R l' m'):RL R (l++l') (m++m'):=by
 induction h with
 |nil=>exact h'
 |cons h _ ih=>exact .cons h ih
theorem RL.mono(hm:∀a b,R a b→S a b){l:List α}{m:List β}(h:RL R l m):RL S l m:=by
 induction h with
 |nil=>exact .nil
 |cons h _ ih=>exact .cons (hm _ _ h) ih
theorem RL.get{l:List α}{m:List β}(h:RL R l m):∀(i:Nat)(a:α)(b:β),l[i]? =some a→m[i]? =some b→R a b:=by
 induction h with
 |nil=>intro i a b h;simp at h
 |cons h _ ih=>
  intro i a b ha hb
  cases i with
  |zero=>simp at ha hb;subst ha hb;exact h
  |succ i=>exact ih i a b (by simpa using ha) (by simpa using hb)
end
def pack(b:Bool)(xs:List D):D:=match b,xs with
 |true,xs=>.agg xs
 |false,[x]=>x
 |false,_=>.nN
inductive Is(P:Program):TypeId→List D→Prop
 |bool {t:TypeId} (h:P.underlying t=some .bool) (b:Bool):Is P t [.bool b]
 |int {t:TypeId} {k:IntKind} (h:P.underlying t=some (.int k)) (n:Int) (hn:ga k n=true):Is P t [.int k n]
 |str {t:TypeId} (h:P.underlying t=some .string) (s:List UInt8) (hs:s.length≤maxLen):Is P t [.str s]
 |ir {t e:TypeId} (h:P.underlying t=some (.slice e)):Is P t [.sl .nil 0 []]
 |sl {t e:TypeId} (h:P.underlying t=some (.slice e)) (b:Bool) (hb:dJ P e=some b) (L:List (List D)) (hm:L.length≤maxLen) (hL:∀x∈L,Is P e x):
   Is P t [.sl .ro (P.cellsOf e) (L.map (pack b))]
 |struct {t:TypeId} {fs:Array Field} (h:P.underlying t=some (.struct fs)) (parts:List (List D)) (hl:parts.length=fs.size)
   (hp:∀(i:Nat)f p,fs[i]? =some f→parts[i]? =some p→Is P f.type p):Is P t parts.flatten
 |array {t e:TypeId} {n:Nat} (h:P.underlying t=some (.array n e)) (parts:List (List D)) (hl:parts.length=n) (hp:∀p∈parts,Is P e p):Is P t parts.flatten
section
variable{P:Program}{t:TypeId}{xs:List D}
theorem Is.sU(ht:P.underlying t=some .bool)(h:Is P t xs):∃b,xs=[.bool b]:=by
 cases h with
 |bool _ b=>exact⟨b,rfl⟩
 |_=>simp_all
theorem Is.re{k:IntKind}(ht:P.underlying t=some (.int k))(h:Is P t xs):∃n,xs=[.int k n]∧ga k n=true:=by
 cases h with
 |int h n hn=>rw[ht]at h;cases h;exact⟨n,rfl,hn⟩
 |_=>simp_all
theorem Is.uA(ht:P.underlying t=some .string)(h:Is P t xs):∃s,xs=[.str s]∧s.length≤maxLen:=by
 cases h with
 |str h s hs=>exact⟨s,rfl,hs⟩
 |_=>simp_all
theorem Is.JO{e:TypeId}{b:Bool}(ht:P.underlying t=some (.slice e))(hb:dJ P e=some b)(h:Is P t xs):
  xs=[.sl .nil 0 []]∨∃L:List (List D),xs=[.sl .ro (P.cellsOf e) (L.map (pack b))]∧L.length≤maxLen∧∀x∈L,Is P e x:=by
 cases h with
 |ir h=>exact .inl rfl
 |sl h b' eg L hm hL=>rw[ht]at h;cases h;rw[hb]at eg;cases eg;exact .inr ⟨L,rfl,hm,hL⟩
 |_=>simp_all
theorem Is.xV{fs:Array Field}(ht:P.underlying t=some (.struct fs))(h:Is P t xs):
  ∃parts:List (List D),xs=parts.flatten∧parts.length=fs.size∧∀(i:Nat)f p,fs[i]? =some f→parts[i]? =some p→Is P f.type p:=by
 cases h with
 |struct h parts hl hp=>rw[ht]at h;cases h;exact⟨parts,rfl,hl,hp⟩
 |_=>simp_all
theorem Is.XJ{e:TypeId}{n:Nat}(ht:P.underlying t=some (.array n e))(h:Is P t xs):∃parts:List (List D),xs=parts.flatten∧parts.length=n∧∀p∈parts,Is P e p:=by
 cases h with
 |array h parts hl hp=>rw[ht]at h;cases h;exact⟨parts,rfl,hl,hp⟩
 |_=>simp_all
end
def tB(P:Program):List Field→Nat→Option Nat
 |[],n=>some n
 |f::fs,n=>bif Nat.beq f.offset n then tB P fs (n+P.cellsOf f.type)else none
def sn(P:Program)(L:List Nat)(t:TypeId):Bool:=match P.underlying t with
 |some .bool =>Nat.beq (P.cellsOf t) 1
 |some (.int _)=>Nat.beq (P.cellsOf t) 1
 |some .string =>Nat.beq (P.cellsOf t) 1
 |some (.slice e)=>Nat.beq (P.cellsOf t) 1&&L.contains e&&Nat.ble 1 (P.cellsOf e)
 |some (.array n e)=>L.contains e&&Nat.beq (P.cellsOf t) (n*P.cellsOf e)
 |some (.struct fs)=>fs.toList.all (fun f=>L.contains f.type)&&(match tB P fs.toList 0 with|some n=>Nat.beq n (P.cellsOf t)|none=>false)
 |_=>false
def s4(P:Program)(L:List Nat):Bool:=L.all (sn P L)
section
variable{P:Program}{L:List Nat}
theorem IT:∀(fs:List Field)(n m:Nat),tB P fs n=some m→m=n+(fs.map fun f=>P.cellsOf f.type).sum
 |[],n,m,h=>by simp[tB]at h;simp[h]
 |f::fs,n,m,h=>by
  simp only[tB]at h
  cases hb:Nat.beq f.offset n<;>rw[hb]at h
  ·cases h
  ·have:=IT fs _ _ h
   simp only[List.map_cons,List.sum_cons]
   omega
theorem PU:∀(fs:List Field)(n m:Nat),tB P fs n=some m→∀(j:Nat)f,fs[j]? =some f→f.offset=n+((fs.take j).map fun f=>P.cellsOf f.type).sum
 |[],n,m,h,j,f,hj=>by simp at hj
 |f::fs,n,m,h,j,g,hj=>by
  simp only[tB]at h
  cases hb:Nat.beq f.offset n<;>rw[hb]at h
  ·cases h
  ·have hn:=Nat.eq_of_beq_eq_true hb
   cases j with
   |zero=>simp at hj;subst hj;simp[hn]
   |succ j=>
    have:=PU fs _ _ h j g (by simpa using hj)
    simp only[List.take_succ_cons,List.map_cons,List.sum_cons]
    omega
theorem uw(h:s4 P L=true){t:TypeId}(ht:t∈L):sn P L t=true:=List.all_eq_true.1 h t ht
theorem V8(h:s4 P L=true):Kids P (· ∈L) where
 pointer:=fun{t e}ht hu=>by have:=uw h ht;simp[sn,hu]at this
 slice:=fun{t e}ht hu=>by have:=uw h ht;simp[sn,hu]at this;exact this.1.2
 array:=fun{t e n}ht hu=>by
  have:=uw h ht
  simp only[sn,hu,Bool.and_eq_true]at this
  exact⟨by simpa using this.1,Nat.eq_of_beq_eq_true this.2⟩
 struct:=fun{t fs}ht hu=>by
  have:=uw h ht
  simp only[sn,hu,Bool.and_eq_true]at this
  refine⟨fun f hf=>by simpa using List.all_eq_true.1 this.1 f hf,?_⟩
  have h2:=this.2
  split at h2
  ·rename_i n hn
   have e:=Nat.eq_of_beq_eq_true h2
   refine⟨by rw[←e,IT _ _ _ hn];omega,fun j f hj=>by rw[PU _ _ _ hn j f hj];omega⟩
  ·cases h2
 map:=fun{t k e}ht hu=>by have:=uw h ht;simp[sn,hu]at this
theorem WV(h:s4 P L=true){t e:TypeId}(ht:t∈L)(hu:P.underlying t=some (.slice e)):0<P.cellsOf e:=by
 have:=uw h ht
 simp[sn,hu]at this
 omega
theorem Ox{β:Type}(cs:List β):∀(fs:List Field)(n m:Nat),tB P fs n=some m→cs.length=m→cs.drop n=(fs.map fun f=>(cs.drop f.offset).take (P.cellsOf f.type)).flatten
 |[],n,m,h,hm=>by simp[tB]at h;simp;omega
 |f::fs,n,m,h,hm=>by
  simp only[tB]at h
  cases hb:Nat.beq f.offset n<;>rw[hb]at h
  ·cases h
  ·have hn:=Nat.eq_of_beq_eq_true hb
   have ih:=Ox cs fs _ _ h hm
   simp only[List.map_cons,List.flatten_cons,←ih,hn]
   rw[←List.drop_drop,List.take_append_drop]
theorem Pj{β:Type}(s:Nat):∀(n:Nat)(cs:List β),cs.length=n*s→cs=((List.range n).map fun i=>(cs.drop (i*s)).take s).flatten
 |0,cs,h=>by simp at h;subst h;rfl
 |n+1,cs,h=>by
  rw[List.range_succ_eq_map,List.map_cons,List.flatten_cons,List.map_map]
  have ih:=Pj s n (cs.drop s) (by rw[List.length_drop,h,Nat.add_mul];omega)
  have:((fun i=>(cs.drop (i*s)).take s) ∘ Nat.succ)=fun i=>((cs.drop s).drop (i*s)).take s:=by
   funext i
   simp only[Function.comp,List.drop_drop]
   rw[Nat.succ_mul,Nat.add_comm]
  rw[this,←ih]
  simp
end
section
variable{H:Type}{enc:TypeId×Value→H}{P:Program}{w:World}{L:List Nat}
def vf(ps:List MemPlace)(b o:Nat):Prop:=MemPlace.cell b o∈ps
def tH(w:World)(ps:List MemPlace)(c:D)(v:Value):Prop:=c.one=true∧aY w (vf ps) c v
theorem tH.mono{ps qs:List MemPlace}(h:∀p∈ps,p∈qs)(c:D)(v:Value)(r:tH w ps c v):tH w qs c v:=⟨r.1,r.2.mono fun b o hb=>⟨h _ hb,rfl⟩⟩
theorem WW{b:Bool}{e:TypeId}(hL:s4 P L=true)(he:e∈L)(hb:dJ P e=some b){x:List D}(hx:Is P e x):(pack b x).cells =x∨∃y,x=[y]∧b=false:=by
 cases b with
 |true=>exact .inl rfl
 |false=>
  right
  unfold dJ at hb
  cases hx with
  |bool h b=>exact⟨_,rfl,rfl⟩
  |int h n hn=>exact⟨_,rfl,rfl⟩
  |str h s hs=>exact⟨_,rfl,rfl⟩
  |ir h=>exact⟨_,rfl,rfl⟩
  |sl h=>exact⟨_,rfl,rfl⟩
  |struct h=>rw[h]at hb;cases hb
  |array h=>rw[h]at hb;cases hb
theorem V9{b:Bool}{e:TypeId}(hL:s4 P L=true)(he:e∈L)(hb:dJ P e=some b){x:List D}(hx:Is P e x)(h1:∀c∈x,c.one=true):(pack b x).cells =x:=by
 rcases WW hL he hb hx with h|⟨y,rfl,rfl⟩
 ·exact h
 ·have:=h1 y (by simp)
  cases y<;>first|rfl|simp[D.one]at this
theorem aah(hL:s4 P L=true):∀(fuel:Nat)(t:TypeId)(cs:List Value)(x:DataW H×List MemPlace),t∈L→DataW.trod enc P w 0 (fun _=>true) true fuel t cs=some x→
  ∃xs:List D,Is P t xs∧xs.length=P.cellsOf t∧RL (tH w x.2) xs cs:=by
 intro fuel
 induction fuel with
 |zero=>intro t cs x _ h;simp[DataW.trod]at h
 |succ fuel ih=>
  intro t cs x ht h
  have gu:=uw hL ht
  unfold sn at gu
  split at gu
  ·rename_i hu
   obtain⟨b,rfl,rfl⟩:=DataW.trod_bool hu h
   exact⟨[.bool b],.bool hu b,(Nat.eq_of_beq_eq_true gu).symm,.cons ⟨rfl,.bool b⟩ .nil⟩
  ·rename_i k hu
   obtain⟨n,rfl,rfl,hw⟩:=DataW.trod_int hu h
   exact⟨[.int k n],.int hu n hw,(Nat.eq_of_beq_eq_true gu).symm,.cons ⟨rfl,.int k n hw⟩ .nil⟩
  ·rename_i hu
   obtain⟨s,rfl,rfl,hs⟩:=DataW.trod_string hu h
   exact⟨[.str s.data.toList],.str hu _ (by simpa using hs),(Nat.eq_of_beq_eq_true gu).symm,.cons ⟨rfl,.str s hs⟩ .nil⟩
  ·rename_i e hu
   simp only[Bool.and_eq_true]at gu
   obtain⟨⟨h1,he⟩,Gd⟩:=gu
   have he:e∈L:=by simpa using he
   have h1:=Nat.eq_of_beq_eq_true h1
   have Gd:=Nat.le_of_ble_eq_true Gd
   obtain⟨bb,ef⟩:∃bb,dJ P e=some bb:=by
    have:=uw hL he
    unfold sn at this
    unfold dJ
    split at this<;>simp_all
   rcases DataW.trod_slice hu h with⟨rfl,rfl⟩|⟨a,len,cap,elems,rest,n,hn,rfl,rfl,_,LX,fD,jt,aeI,_,_⟩
   ·exact⟨[.sl .nil 0 []],.ir hu,by rw[h1];rfl,.cons ⟨rfl,.ir 0⟩ .nil⟩
   ·cases hn
    have key:∀k,k≤len→∃M:List (List D),M.length=k∧∀i,i<k→∃y eH,M[i]? =some y∧w.cells? 0 (a.add (i*P.cellsOf e)) (P.cellsOf e)=some eH∧Is P e y∧y.length=P.cellsOf e∧
      RL (tH w ((elems++rest).flatMap (·.2))) y eH:=by
     intro k
     induction k with
     |zero=>intro _;exact⟨[],rfl,fun i hi=>by omega⟩
     |succ k DY=>
      intro hk
      obtain⟨M,hM,kE⟩:=DY (by omega)
      have hq:=aeI k (by omega)
      have kD:elems[k]? =some (elems[k]'(by omega)):=List.getElem?_eq_getElem (by omega)
      rw[kD]at hq
      obtain⟨eH,iY,dK⟩:=Option.bind_eq_some_iff.1 hq
      obtain⟨y,hy,LY,jH⟩:=ih e eH _ he dK
      refine⟨M++[y],by simp[hM],fun i hi=>?_⟩
      rcases Nat.lt_or_ge i k with h|h
      ·obtain⟨y',aeJ,q1,q2⟩:=kE i h
       exact⟨y',aeJ,by rw[List.getElem?_append_left (by omega)];exact q1,q2⟩
      ·have:i=k:=by omega
       subst this
       refine⟨y,eH,by rw[List.getElem?_append_right (by omega),hM];simp,iY,hy,LY,jH.mono (tH.mono fun p hp=>?_)⟩
       exact List.mem_flatMap.2 ⟨_,List.mem_append_left _ (List.getElem_mem (by omega)),hp⟩
    obtain⟨M,hM,kE⟩:=key len (Nat.le_refl _)
    have DZ:∀y∈M,Is P e y∧y.length=P.cellsOf e∧∀c∈y,c.one=true:=by
     intro y hy
     obtain⟨i,hi,rfl⟩:=List.mem_iff_getElem.1 hy
     obtain⟨y',eH,q1,_,q2,q3,q4⟩:=kE i (by omega)
     rw[List.getElem?_eq_getElem hi]at q1
     cases q1
     refine⟨q2,q3,fun c hc=>?_⟩
     obtain⟨j,hj,rfl⟩:=List.mem_iff_getElem.1 hc
     have:=q4.length
     exact(q4.get j _ (eH[j]'(by omega)) (List.getElem?_eq_getElem hj) (List.getElem?_eq_getElem (by omega))).1
    have LZ:∀y∈M,(pack bb y).cells =y:=fun y hy=>V9 hL he ef (DZ y hy).1 (DZ y hy).2.2
    refine⟨[.sl .ro (P.cellsOf e) (M.map (pack bb))],.sl hu bb ef M (by omega) (fun y hy=>(DZ y hy).1),by rw[h1];rfl,.cons ⟨rfl,?_⟩ .nil⟩
    have hlen:(M.map (pack bb)).length =len:=by simp[hM]
    by_cases lP:a.spot=none
    ·obtain⟨b,off,spot⟩:=a
     simp only at lP
     subst lP
     have aP:∀o,o<len*P.cellsOf e→∃v,w.cell? ⟨b,off+o,none⟩=some v:=by
      intro o ho
      have hq:o / P.cellsOf e<len:=Nat.div_lt_of_lt_mul (by rw[Nat.mul_comm];exact ho)
      have yS:=Nat.mod_lt o Gd
      obtain⟨y,eH,q1,q2,q3,q4,q5⟩:=kE _ hq
      obtain⟨_,l1,l2⟩:=World.cells?_some q2
      have:=l2 (o % P.cellsOf e) yS
      refine⟨eH[o % P.cellsOf e]'(by omega),?_⟩
      rw[List.getElem?_eq_getElem (by omega)]at this
      rw[←this]
      simp only[add_plain]
      congr 2
      rw[Nat.add_assoc]
      congr 1
      rw[Nat.mul_comm]
      exact(Nat.div_add_mod _ _).symm
     have hv:∀o,o<len*P.cellsOf e→w.cell? ⟨b,off+o,none⟩=some ((w.cell? ⟨b,off+o,none⟩).getD (.bool false)):=fun o ho=>by
      obtain⟨v,hv⟩:=aP o ho
      rw[hv];rfl
     have:=aY.sl (w:=w) (St:=vf (MemPlace.row ⟨b,off,none⟩ ((elems.length+rest.length)*P.cellsOf e)++(elems++rest).flatMap (·.2))) (P.cellsOf e) (M.map (pack bb)) b off cap
      (fun o=>(w.cell? ⟨b,off+o,none⟩).getD (.bool false)) (by omega) (by omega) (fun x hx=>by
        obtain⟨y,hy,rfl⟩:=List.mem_map.1 hx
        rw[LZ y hy]
        exact(DZ y hy).2.1) (fun x hx c hc=>by
        obtain⟨y,hy,rfl⟩:=List.mem_map.1 hx
        rw[LZ y hy]at hc
        exact(DZ y hy).2.2 c hc) (fun o ho=>by
        rw[hlen]at ho
        refine⟨hv o ho,List.mem_append_left _ (MemPlace.mem_row.2 ⟨o,?_,rfl⟩)⟩
        rw[Nat.add_mul];rw[jt];omega) (fun i x j c hi hj=>by
        rw[List.getElem?_map]at hi
        obtain⟨y,hy,rfl⟩:=Option.map_eq_some_iff.1 hi
        have m0:i<M.length:=(List.getElem?_eq_some_iff.1 hy).1
        have hym:y∈M:=List.mem_of_getElem? hy
        rw[LZ y hym]at hj
        obtain⟨y',eH,q1,q2,q3,q4,q5⟩:=kE i (by omega)
        rw[hy]at q1
        cases q1
        obtain⟨_,l1,l2⟩:=World.cells?_some q2
        have ju:j<y.length:=(List.getElem?_eq_some_iff.1 hj).1
        have l3:=l2 j (by omega)
        rw[List.getElem?_eq_getElem (by omega)]at l3
        have hr:=(q5.get j c (eH[j]'(by omega)) hj (List.getElem?_eq_getElem (by omega))).2
        simp only[add_plain,Nat.add_assoc]at l3
        simp only[l3,Option.getD_some]
        exact hr.mono fun b' o' eg=>⟨List.mem_append_right _ eg,rfl⟩)
     rw[hlen]at this
     exact this
    ·have h0:len=0:=by
      rcases Nat.eq_zero_or_pos len with h|h
      ·exact h
      ·obtain⟨y,eH,q1,q2,q3,q4,q5⟩:=kE 0 h
       obtain⟨_,l1,l2⟩:=World.cells?_some q2
       have:=l2 0 Gd
       rw[List.getElem?_eq_getElem (by omega)]at this
       exact absurd (World.cell?_spot this) (by simpa[Addr.add]using lP)
     subst h0
     have:M=[]:=List.length_eq_zero_iff.1 hM
     subst this
     exact .j6 _ a cap lP
  ·rename_i n e hu
   simp only[Bool.and_eq_true]at gu
   obtain⟨he,hc⟩:=gu
   have he:e∈L:=by simpa using he
   have hc:=Nat.eq_of_beq_eq_true hc
   obtain⟨ys,m,hm,rfl,de,LY,pw⟩:=DataW.trod_array hu h
   cases hm
   have key:∀k,k≤n→∃M:List (List D),M.length=k∧(∀y∈M,Is P e y)∧M.flatten.length=k*P.cellsOf e∧RL (tH w (ys.flatMap (·.2))) M.flatten ((List.range k).map fun i=>(cs.drop (i*P.cellsOf e)).take (P.cellsOf e)).flatten :=by
    intro k
    induction k with
    |zero=>intro _;exact⟨[],rfl,by simp,by simp,by simp;exact .nil⟩
    |succ k DY=>
     intro hk
     obtain⟨M,hM,zw,xE,ua⟩:=DY (by omega)
     have hq:=pw k (by omega)
     have kD:ys[k]? =some (ys[k]'(by omega)):=List.getElem?_eq_getElem (by omega)
     rw[kD]at hq
     obtain⟨y,hy,KF,jH⟩:=ih e _ _ he hq
     refine⟨M++[y],by simp[hM],fun z hz=>?_,by simp[xE,KF,Nat.add_mul],?_⟩
     ·rcases List.mem_append.1 hz with h|h
      ·exact zw z h
      ·simp at h;subst h;exact hy
     ·rw[List.range_succ,List.map_append,List.flatten_append,List.flatten_append]
      refine ua.append ?_
      simp only[List.map_cons,List.map_nil,List.flatten_cons,List.flatten_nil,List.append_nil]
      exact jH.mono (tH.mono fun p hp=>List.mem_flatMap.2 ⟨_,List.getElem_mem (by omega),hp⟩)
   obtain⟨M,hM,zw,xE,ua⟩:=key n (Nat.le_refl _)
   refine⟨M.flatten,.array hu M hM zw,by rw[xE,hc],?_⟩
   rw[←Pj (P.cellsOf e) n cs (by rw[de,hc])]at ua
   exact ua
  ·rename_i fs hu
   simp only[Bool.and_eq_true]at gu
   obtain⟨Dz,tW⟩:=gu
   split at tW
   ·rename_i tot Ss
    have tW:=Nat.eq_of_beq_eq_true tW
    obtain⟨ys,m,hm,rfl,de,LY,pw⟩:=DataW.trod_struct hu h
    cases hm
    have key:∀k,k≤fs.size→∃M:List (List D),M.length=k∧(∀(i:Nat)f p,fs[i]? =some f→M[i]? =some p→Is P f.type p)∧M.flatten.length=((fs.toList.take k).map fun f=>P.cellsOf f.type).sum ∧
      RL (tH w (ys.flatMap (·.2))) M.flatten ((fs.toList.take k).map fun f=>(cs.drop f.offset).take (P.cellsOf f.type)).flatten :=by
     intro k
     induction k with
     |zero=>intro _;exact⟨[],rfl,fun i f p _ hp=>by simp at hp,by simp,by simp;exact .nil⟩
     |succ k DY=>
      intro hk
      obtain⟨M,hM,zw,xE,ua⟩:=DY (by omega)
      have vM:fs[k]? =some (fs[k]'(by omega)):=Array.getElem?_eq_getElem (by omega)
      have hq:=pw k _ vM
      have kD:ys[k]? =some (ys[k]'(by omega)):=List.getElem?_eq_getElem (by omega)
      rw[kD]at hq
      have hfm:(fs[k]'(by omega)).type ∈L:=by simpa using List.all_eq_true.1 Dz _ (by simp:fs[k]'(by omega)∈fs.toList)
      obtain⟨y,hy,KF,jH⟩:=ih _ _ _ hfm hq
      have GM:fs.toList.take (k+1)=fs.toList.take k++[fs[k]'(by omega)]:=by
       rw[List.take_add_one]
       simp[vM]
      refine⟨M++[y],by simp[hM],fun i f p hf hp=>?_,?_,?_⟩
      ·rcases Nat.lt_or_ge i k with h|h
       ·rw[List.getElem?_append_left (by omega)]at hp
        exact zw i f p hf hp
       ·rw[List.getElem?_append_right (by omega),hM]at hp
        have D0:i=k:=by
         have:=(List.getElem?_eq_some_iff.1 hp).1
         simp at this
         omega
        subst D0
        simp at hp
        subst hp
        rw[vM]at hf
        cases hf
        exact hy
      ·rw[GM]
       simp[xE,KF]
      ·rw[GM,List.map_append,List.flatten_append,List.flatten_append]
       refine ua.append ?_
       simp only[List.map_cons,List.map_nil,List.flatten_cons,List.flatten_nil,List.append_nil]
       exact jH.mono (tH.mono fun p hp=>List.mem_flatMap.2 ⟨_,List.getElem_mem (by omega),hp⟩)
    obtain⟨M,hM,zw,xE,ua⟩:=key fs.size (Nat.le_refl _)
    have hta:fs.toList.take fs.size=fs.toList:=List.take_of_length_le (by simp)
    rw[hta]at xE ua
    have BA:=IT _ _ _ Ss
    refine⟨M.flatten,.struct hu M hM zw,by rw[xE,←tW,BA];omega,?_⟩
    rw[←Ox cs fs.toList 0 tot Ss (by rw[de,tW]),List.drop_zero]at ua
    exact ua
   ·cases tW
  ·cases gu
end
end Go.Proofs.Ytimbllcalipehaa.Ab
namespace Go.Proofs.Ytimbllcalipehaa.Ab
open Go Go.RowKit Go.ChangeShapes Go.WideShapes
section
variable{H:Type}{enc:TypeId×Value→H}{P:Program}{W:World}{L:List Nat}
theorem Jn(hL:s4 P L=true){t:TypeId}{v:Value}{d:DataW H}{ps:List MemPlace}{b:Bool}{r:Reach}{b0:Nat}(ht:t∈L)(hb:dJ P t=some b)
  (hZ:Value.okWide P W r b0 t v)(h:DataW.Trod enc P W 0 (fun _=>true) true t v d ps):∃xs,Is P t xs∧aY W (vf ps) (pack b xs) v:=by
 obtain⟨fuel,hf⟩:=h
 obtain⟨xs,hi,hl,hr⟩:=aah hL fuel t _ _ ht hf
 refine⟨xs,hi,?_⟩
 have gu:=uw hL ht
 unfold dJ at hb
 cases b with
 |true=>
  have:∃cs,v=.agg cs:=by
   unfold Value.okWide at hZ
   split at hZ
   ·obtain⟨cs,h,_⟩:=hZ;exact⟨cs,h⟩
   ·obtain⟨cs,h,_⟩:=hZ;exact⟨cs,h⟩
   ·rename_i h1 h2
    split at hb
    ·rename_i fs hu;exact absurd hu (h1 fs)
    ·rename_i n e hu;exact absurd hu (h2 n e)
    ·cases hb
    ·cases hb
  obtain⟨cs,rfl⟩:=this
  simp only[Value.cells]at hr
  refine .agg xs cs (fun c hc=>?_) (by simpa using hr.length) (fun i c u hc hu=>(hr.get i c u hc (by simpa using hu)).2)
  obtain⟨j,hj,rfl⟩:=List.mem_iff_getElem.1 hc
  have ju:=hr.length
  exact(hr.get j _ (cs.toList[j]'(by omega)) (List.getElem?_eq_getElem hj) (List.getElem?_eq_getElem (by omega))).1
 |false=>
  have cq:∃y,xs=[y]:=by
   cases hi with
   |bool h b=>exact⟨_,rfl⟩
   |int h n hn=>exact⟨_,rfl⟩
   |str h s hs=>exact⟨_,rfl⟩
   |ir h=>exact⟨_,rfl⟩
   |sl h=>exact⟨_,rfl⟩
   |struct h=>rw[h]at hb;cases hb
   |array h=>rw[h]at hb;cases hb
  obtain⟨y,rfl⟩:=cq
  have hv:v.cells.toList=[v]:=by
   cases v with
   |agg cs=>
    exfalso
    unfold Value.okWide at hZ
    split at hZ
    ·rename_i h;rw[h]at hb;cases hb
    ·rename_i h;rw[h]at hb;cases hb
    ·unfold sn at gu
     unfold Cell.okWide at hZ
     split at hZ<;>simp_all [Cell.ok]
   |_=>rfl
  rw[hv]at hr
  cases hr with
  |cons h _=>exact h.2
theorem Nt(hL:s4 P L=true){W':World}(hb:Below W.heap.size W W'):∀{ts:List TypeId}{vs:List Value}{ds:List (DataW H)}{ps:List MemPlace},(∀t∈ts,t∈L)→
  DataW.TrodAll enc P W 0 (fun _=>true) true ts vs ds ps→(∀p∈ps,p.block<W.heap.size)→DataW.TrodAll enc P W' 0 (fun b=>decide (b<W.heap.size)) true ts vs ds ps
 |[],[],[],_,_,h,_=>h
 |t::ts,v::vs,d::ds,_,mu,⟨p,q,⟨fuel,hf⟩,h2,e⟩,aF=>by
  subst e
  refine⟨p,q,⟨fuel,?_⟩,Nt hL hb (fun t ht=>mu t (List.mem_cons_of_mem _ ht)) h2 (fun x hx=>aF x (List.mem_append_right _ hx)),rfl⟩
  exact DataW.trod_stays (V8 hL) (fun ht hu=>WV hL ht hu) (fun h=>by cases h) (mu t List.mem_cons_self) hf (fun x hx=>hb.same (aF x (List.mem_append_left _ hx))) (fun x hx=>by simpa using aF x (List.mem_append_left _ hx))
theorem Oz{gl:Nat→Option D}{To:FuncId}{f:Func}{s:ChangeSpec}{args:Array Value}{ds gs:List (DataW H)}{before:List MemPlace}{tb:TypeId}{St:Nat→Nat→Prop}{CZ:List SV}
  (hH:aD P gl To CZ (.d (.bool true)))(hL:s4 P L=true)(mu:∀t∈f.params.toList,t∈L)(DC:s.vars=[])
  (hW:DataW.Whole enc P f.params.toList s.vars false W args.toList ds gs before)
  (vP:(s.fn H (ds++gs)).results =[.lit (.bool true)])(zx:(s.fn H (ds++gs)).args =ds)(vF:(s.fn H (ds++gs)).vars =[])
  (yW:f.resultTypes= #[tb])(htb:P.underlying tb=some .bool)
  (aS:∀b o,St b o→b<W.heap.size)(hG:uJ gl W St)(hlen:CZ.length=args.size)
  (bc:∀(i:Nat)x v,CZ[i]? =some x→args[i]? =some v→aJ W St W.heap.size (fun _ _ _=>False) x v):
  Calls P To args W fun e W'=>∃v,e=.returned v∧s.post enc P f false true false false W args v W':=by
 rw[xW (YB (O:=fun _ _ _ _=>False) hlen bc)]at hH
 refine(hH.2 W St args aS hG hlen bc).mono ?_
 rintro e W' ⟨v,rfl,hb,bH,ow,_,_,hr⟩
 refine⟨v,rfl,?_⟩
 have hv:v=.bool true:=by
  have:=aJ.data (show aJ W' bH 0 (va W.heap.size W' bH ow 0) (.d (.bool true)) v from hr)
  cases this
  rfl
 subst hv
 have aF:=hW.lt
 refine⟨ds,gs,before,[],before,[],hW,?_,?_,?_,World.keptBut_mono (fun p hp=>⟨hp,.inr (.inl hp)⟩) (hb.frame _),fun h=>by cases h⟩
 ·rw[vP,yW]
  exact trodAll_cons_mk (shut_bool htb _) trodAll_mk0
 ·rw[zx]
  obtain⟨p,q,hA,hV,rfl,_,_⟩:=hW
  rw[DC]at hV
  have:q=[]:=by
   cases gs with
   |nil=>exact hV
   |cons _ _=>exact hV.elim
  subst this
  rw[List.append_nil]at aF ⊢
  exact Nt hL hb mu hA aF
 ·rw[vF,DC]
  rfl
theorem Jo{St:Nat→Nat→Prop}{ps:List MemPlace}{x:D}{v:Value}{base:Nat}{O:Nat→Nat→Nat→Prop}(h:aY W (vf ps) x v)(hs:∀b o,MemPlace.cell b o∈ps→St b o):aJ W St base O (.d x) v:=
 .d _ _ _ (h.mono fun b o hb=>⟨hs b o hb,rfl⟩)
end
end Go.Proofs.Ytimbllcalipehaa.Ab
namespace Go.Proofs.Ytimbllcalipehaa.Ab
open Go
def ob{α β:Type}(o:Option α)(k:α→Option β):Option β:=match o with|some x=>k x|none=>none
section
variable(P:Program)(gl:Nat→Option D)(call:FuncId→List SV→Option SV)
variable{P gl call}{C:bd}(hC:∀f args r,call f args=some r→C f args r)
include hC
end
end Go.Proofs.Ytimbllcalipehaa.Ab
namespace Go.Proofs.Ytimbllcalipehaa.Ab
open Go
section
variable{P:Program}{gl:Nat→Option D}{call:FuncId→List SV→Option SV}{C:bd}(hC:∀f args r,call f args=some r→C f args r)
end
end Go.Proofs.Ytimbllcalipehaa.Ab
namespace Go.Proofs.Ytimbllcalipehaa.Ab
open Go
section
variable(P:Program)(gl:Nat→Option D)(call:FuncId→List SV→Option SV)(h:Hints)
end
section
variable{P:Program}{gl:Nat→Option D}{call:FuncId→List SV→Option SV}{h:Hints}{C:bd}(hC:∀f args r,call f args=some r→C f args r)
end
end Go.Proofs.Ytimbllcalipehaa.Ab
namespace Go.Proofs.Ytimbllcalipehaa.Ab
open Go
def Pt{X:Type}(T:(X→Prop)→Prop):Prop:=∀Q,T Q→∃x,Q x∧∀Q',Q' x→T Q'
section
variable{X Y α:Type}
theorem Pt.false:Pt (fun _:X→Prop=>False):=fun _ h=>h.elim
theorem Pt.pure(x:X):Pt (fun Q:X→Prop=>Q x):=fun _ h=>⟨x,h,fun _ h'=>h'⟩
theorem Pt.ab{o:Option α}{T:α→(X→Prop)→Prop}(h:∀x,Pt (T x)):Pt (fun Q=>ab o fun x=>T x Q):=by
 intro Q hq
 cases o with
 |none=>exact hq.elim
 |some x=>exact h x Q hq
theorem Pt.au{x:SV}{A B:(X→Prop)→Prop}(hA:Pt A)(hB:Pt B):Pt (fun Q=>au x (A Q) (B Q)):=by
 intro Q hq
 obtain⟨b,rfl,h1,h2⟩:=Af hq
 cases b with
 |true=>exact hA Q (h1 rfl)
 |false=>exact hB Q (h2 rfl)
theorem Pt.and{p:Prop}{A:(X→Prop)→Prop}(hA:Pt A):Pt (fun Q=>p∧A Q):=by
 intro Q ⟨hp,hq⟩
 obtain⟨x,h1,h2⟩:=hA Q hq
 exact⟨x,h1,fun Q' h=>⟨hp,h2 Q' h⟩⟩
theorem Pt.ex{T:α→(X→Prop)→Prop}(h:∀a,Pt (T a)):Pt (fun Q=>∃a,T a Q):=by
 intro Q ⟨a,hq⟩
 obtain⟨x,h1,h2⟩:=h a Q hq
 exact⟨x,h1,fun Q' h=>⟨a,h2 Q' h⟩⟩
theorem Pt.cond{b:Bool}{A B:(X→Prop)→Prop}(hA:Pt A)(hB:Pt B):Pt (fun Q=>cond b (A Q) (B Q)):=by
 intro Q hq
 cases b with
 |true=>exact hA Q hq
 |false=>exact hB Q hq
theorem Pt.seq{T:(Y→Prop)→Prop}{S:Y→(X→Prop)→Prop}(hT:Pt T)(hS:∀y,Pt (S y)):Pt (fun Q=>T fun y=>S y Q):=by
 intro Q hq
 obtain⟨y,h1,h2⟩:=hT _ hq
 obtain⟨x,h3,h4⟩:=hS y Q h1
 exact⟨x,h3,fun Q' h=>h2 _ (h4 Q' h)⟩
theorem Pt.yX{β:Type}{T:(α→β→Prop)→Prop}{S:α→β→(X→Prop)→Prop}(hT:Pt (fun Q:α×β→Prop=>T fun a b=>Q (a,b)))(hS:∀a b,Pt (S a b)):Pt (fun Q=>T fun a b=>S a b Q):=by
 intro Q hq
 obtain⟨y,h1,h2⟩:=hT (fun y=>S y.1 y.2 Q) hq
 obtain⟨x,h3,h4⟩:=hS y.1 y.2 Q h1
 exact⟨x,h3,fun Q' h=>h2 (fun y=>S y.1 y.2 Q') (h4 Q' h)⟩
end
section
variable{P:Program}{gl:Nat→Option D}{C:bd}{h:Hints}{X:Type}
theorem YR{f:FuncId}{args:List SV}{T:SV→(X→Prop)→Prop}(hT:∀r,Pt (T r)):Pt (fun Q=>aR C f args fun r=>T r Q):=
 Pt.ex fun r=>Pt.and (Pt.and (hT r))
theorem JP:∀(n:Nat){T:List SV→(X→Prop)→Prop},(∀l,Pt (T l))→Pt (fun Q=>xm n fun l=>T l Q)
 |0,_,hT=>hT []
 |n+1,_,hT=>Pt.ex fun r=>JP n fun l=>hT (r::l)
theorem Fa{n:Nat}{aA:List af}{f:FuncId}{args:List SV}:Pt (fun Q:Slot×List af→Prop=>nT C n aA (fun s b=>Q (s,b)) f args):=by
 unfold nT
 split
 ·exact YR fun r=>Pt.pure _
 ·exact JP _ fun l=>Pt.and (Pt.pure _)
theorem Qu{sz cV:Nat}{x y:SV}{T:SV→(X→Prop)→Prop}(hT:∀r,Pt (T r)):Pt (fun Q=>bV sz cV x y fun r=>T r Q):=
 Pt.ab fun r=>Pt.and (hT r.1)
theorem OA{agg:Bool}{sz b off:Nat}{aA:List af}:Pt (fun Q:Slot×List af→Prop=>pS agg sz b off aA fun s b=>Q (s,b)):=by
 unfold pS
 cases aA[b]? with
 |none=>exact Pt.false
 |some x=>
  cases x with
  |none=>exact Pt.false
  |map l=>exact Pt.false
  |cells cs=>exact Pt.ab fun x=>Pt.pure _
  |one s=>
   refine Pt.cond Pt.false ?_
   cases off with
   |zero=>exact Pt.pure _
   |succ n=>exact Pt.false
theorem Wa{sz b off:Nat}{x:Slot}{aA:List af}{T:List af→(X→Prop)→Prop}(hT:∀r,Pt (T r)):Pt (fun Q=>sR sz b off x aA fun b=>T b Q):=by
 unfold sR
 cases aA[b]? with
 |none=>exact Pt.false
 |some y=>
  cases y with
  |none=>exact Pt.false
  |map l=>exact Pt.false
  |cells cs=>
   cases x with
   |v y=>exact Pt.ab fun l=>Pt.and (Pt.and (hT _))
   |t _=>exact Pt.false
   |_=>
    dsimp only
    split
    ·exact hT _
    ·exact Pt.false
  |one s=>
   dsimp only
   split
   ·cases x with
    |v y=>exact Pt.ab fun l=>Pt.and (hT _)
    |t _=>exact Pt.false
    |_=>exact hT _
   ·exact Pt.false
theorem abA{id:Nat}{o:Oper}{ρ:Operand→Slot}{aA:List af}:Pt (fun Q:Slot×List af→Prop=>cX P C id o ρ aA fun s b=>Q (s,b)):=by
 unfold cX
 cases o.op
 case move x=>exact Pt.pure _
 case assign x=>exact Pt.pure _
 case pick c a b=>
  dsimp only
  cases ρ c with
  |v x=>exact Pt.au (Pt.pure _) (Pt.pure _)
  |_=>exact Pt.false
 case alloc t=>
  dsimp only
  split
  ·exact Pt.ab fun z=>Pt.pure _
  ·exact Pt.false
 case box t x=>
  dsimp only
  split
  ·refine Pt.ab fun sz=>?_
   cases ρ x with
   |v y=>exact Pt.ab fun l=>Pt.and (Pt.pure _)
   |t _=>exact Pt.false
   |_=>
    dsimp only
    split
    ·exact Pt.pure _
    ·exact Pt.false
  ·exact Pt.false
 case build t ps=>exact Pt.ab fun l=>Pt.ab fun r=>Pt.pure _
 case buildSlice t n ps=>exact Pt.ab fun e=>Pt.ab fun ly=>Pt.ab fun z=>Pt.ab fun l=>Pt.cond (Pt.and (Pt.pure _)) Pt.false
 case load t a=>
  refine Pt.ab fun ly=>?_
  cases ρ a with
  |p b off=>exact OA
  |v x=>exact Pt.ab fun y=>Pt.pure _
  |_=>exact Pt.false
 case store t a x=>
  refine Pt.ab fun sz=>?_
  cases ρ a with
  |p b off=>
   cases o.dst with
   |none=>exact Wa fun r=>Pt.pure _
   |some _=>exact Pt.false
  |_=>exact Pt.false
 case nilCheck x=>
  dsimp only
  cases ρ x with
  |v y=>exact Pt.ab fun z=>Pt.pure _
  |t _=>exact Pt.false
  |c f first cap=>
   cases f with
   |func _=>exact Pt.pure _
   |method name=>
    dsimp only
    split
    ·exact Pt.ab fun _=>Pt.pure _
    ·exact Pt.false
   |_=>exact Pt.false
  |p b off=>exact Pt.pure _
  |a _ _ _=>exact Pt.false
  |m _=>exact Pt.false
 case binOp op t x y _=>exact Pt.ab fun r=>Pt.pure _
 case unOp op _ x=>exact Pt.ab fun r=>Pt.pure _
 case convert src dst x=>exact Pt.cond (Pt.ab fun r=>Pt.pure _) Pt.false
 case makeInterface t x=>exact Pt.cond Pt.false (Pt.ab fun r=>Pt.pure _)
 case makeFunc fn first cap=>exact Pt.pure _
 case slice t x lo hi mx=>exact Pt.ab fun r=>Pt.pure _
 case fieldAddr t x f=>
  refine Pt.ab fun fd=>Pt.ab fun sz=>Pt.cond Pt.false ?_
  cases ρ x with
  |p b off=>exact Pt.pure _
  |v y=>exact Pt.ab fun z=>Pt.pure _
  |_=>exact Pt.false
 case field t x f=>exact Pt.ab fun fd=>Pt.ab fun ly=>Pt.ab fun r=>Pt.pure _
 case indexAddr t x i=>
  dsimp only
  split
  ·refine Pt.ab fun sz=>?_
   cases ρ x with
   |a b n=>exact Pt.ab fun j=>Pt.pure _
   |_=>exact Pt.ab fun r=>Pt.pure _
  ·refine Pt.ab fun sz=>Pt.ab fun j=>?_
   cases ρ x with
   |p b off=>exact Pt.pure _
   |v y=>exact Pt.ab fun z=>Pt.pure _
   |_=>exact Pt.false
  ·exact Pt.false
 case index t x i=>
  dsimp only
  split
  ·exact Pt.ab fun ly=>Pt.ab fun r=>Pt.pure _
  ·exact Pt.ab fun r=>Pt.pure _
  ·exact Pt.false
 case extract x i=>
  dsimp only
  cases ρ x with
  |t vs=>
   dsimp only
   split
   ·exact Pt.pure _
   ·exact Pt.false
  |_=>exact Pt.false
 case lookup t m x Lx=>
  dsimp only
  cases Lx with
  |true=>exact Pt.ab fun et=>Pt.ab fun z=>Pt.ab fun r=>Pt.pure (X:=Slot×List af) (Slot.t [.d r.1,.d (.bool r.2)],aA)
  |false=>exact Pt.ab fun et=>Pt.ab fun z=>Pt.ab fun r=>Pt.pure (X:=Slot×List af) (Slot.v (.d r.1),aA)
 case makeSlice t n c=>exact Pt.ab fun e=>Pt.ab fun sz=>Pt.ab fun cV=>Pt.ab fun z=>Pt.cond (Pt.ab fun m=>Pt.and (Pt.pure _)) Pt.false
 case makeMap t hn=>
  dsimp only
  split
  ·exact Pt.pure _
  ·exact Pt.false
 case mapUpdate t m x y=>
  refine Pt.ab fun et=>?_
  split
  ·split
   ·exact Pt.ab fun n=>Pt.ab fun d=>Pt.ab fun l'=>Pt.pure _
   ·exact Pt.false
  ·exact Pt.false
 case call c=>
  dsimp only
  cases c.callee with
  |value f=>
   dsimp only
   cases ρ f with
   |v x=>
    dsimp only
    unfold withFn
    split
    ·exact Fa
    ·exact Fa
    ·exact Pt.false
   |c g first cap=>
    cases g with
    |func g=>exact Fa
    |_=>exact Pt.false
   |_=>exact Pt.false
  |invoke f name=>
   dsimp only
   cases ρ f with
   |v x=>
    dsimp only
    unfold wv
    split
    ·exact Pt.ab fun f=>Fa
    ·exact Pt.false
   |_=>exact Pt.false
  |builtin b=>
   dsimp only
   split
   ·rename_i x xs t ts _ _
    cases ρ x with
    |a b n=>exact Pt.cond (Pt.pure _) Pt.false
    |_=>exact Pt.ab fun r=>Pt.pure _
   ·exact Pt.cond (Pt.ab fun e=>Pt.ab fun sz=>Pt.ab fun cV=>Pt.ab fun z=>Pt.cond (Qu fun r=>Pt.pure _) Pt.false) Pt.false
   ·exact Pt.ab fun r=>Pt.pure _
   ·exact Pt.ab fun r=>Pt.pure _
   ·exact Pt.false
 all_goals exact Pt.false
theorem YS{o:Oper}{e:Env}:Pt (fun Q=>kR P gl C o e Q):=by
 unfold kR
 split
 ·exact Pt.pure _
 ·exact Pt.pure _
 ·split
  ·split
   ·exact Pt.pure _
   ·exact Pt.false
  ·exact Pt.false
 ·split
  ·refine Pt.ab fun ly=>Pt.cond Pt.false ?_
   split
   ·exact Pt.ab fun x=>Pt.pure _
   ·exact Pt.false
  ·exact Pt.false
 ·split
  ·refine Pt.ab fun sz=>Pt.cond ?_ Pt.false
   split
   ·exact Pt.ab fun l=>Pt.and (Pt.and (Pt.pure _))
   ·exact Pt.false
  ·exact Pt.false
 ·exact Pt.ab fun e'=>Pt.ab fun ly=>Pt.ab fun z=>Pt.ab fun l=>Pt.cond (Pt.and (Pt.pure _)) Pt.false
 ·split
  ·exact Pt.cond (Pt.ab fun e'=>Pt.ab fun sz=>Pt.ab fun cV=>Pt.ab fun z=>Pt.cond (Qu fun r=>Pt.pure _) Pt.false) Pt.false
  ·split
   ·split
    ·exact JP _ fun rs=>Pt.ex fun bk=>Pt.and (Pt.and (Pt.pure _))
    ·exact Pt.false
   ·exact Pt.false
  ·exact Pt.false
 ·exact Pt.false
theorem aai{id:Nat}{aE:Bool}{o:Oper}{e:Env}:Pt (fun Q=>mP P gl C id aE o e Q):=by
 unfold mP
 cases aE with
 |true=>exact YS
 |false=>exact Pt.yX (X:=Env) (S:=fun(r:Slot)(aA:List af)(Q:Env→Prop)=>Q ⟨cz e.ai o.dst r,aA⟩) abA fun a b=>Pt.pure (X:=Env) _
theorem XK{all:List Oper}{o:Oper}{e:Env}{A B:Env→(X→Prop)→Prop}(hA:∀e,Pt (A e))(hB:∀e,Pt (B e)):Pt (fun Q=>yx all o e (fun e=>A e Q) (fun e=>B e Q)):=by
 unfold yx
 split
 ·exact hA e
 ·rename_i j want _
  split
  ·split
   ·cases want with
    |true=>exact Pt.au (hA _) (hB _)
    |false=>exact Pt.au (hB _) (hA _)
   ·exact hB e
   ·exact Pt.false
  ·exact Pt.false
theorem IU{aE:Nat→Bool}{all:List Oper}{base:Nat}:∀(l:List Oper)(i:Nat)(e:Env),Pt (fun Q=>kS P gl C aE all base l i e Q)
 |[],i,e=>by unfold kS;exact Pt.pure _
 |o::rest,i,e=>by
  unfold kS
  exact XK (fun e=>Pt.seq aai fun e=>IU rest (i+1) e) (fun e=>IU rest (i+1) _)
theorem abB{e:Env}{x:gS}:Pt (fun Q:Env→Prop=>ff e Q x):=by
 cases x with
 |box t sz=>
  simp only[ff]
  split
  ·rename_i x _
   unfold gB
   cases x<;>first|exact Pt.pure _|exact Pt.false|exact Pt.and (Pt.pure _)
  ·exact Pt.false
 |qn t ts=>
  simp only[ff]
  split
  ·split
   ·exact Pt.cond (Pt.ab fun ds=>Pt.and (Pt.pure _)) Pt.false
   ·exact Pt.false
  ·split
   ·exact Pt.cond (Pt.pure _) Pt.false
   ·exact Pt.false
  ·exact Pt.pure _
  ·exact Pt.false
 |jE t agg sz ts=>
  simp only[ff]
  split
  ·split
   ·exact Pt.cond (Pt.ab fun ds=>Pt.ab fun L=>Pt.pure _) Pt.false
   ·exact Pt.false
  ·exact Pt.pure _
  ·exact Pt.false
 |emp t=>
  simp only[ff]
  split
  ·exact Pt.ab fun y=>Pt.pure _
  ·exact Pt.false
 |jF t=>
  simp only[ff]
  split
  ·exact Pt.ab fun y=>Pt.pure _
  ·exact Pt.false
 |ph t ts=>
  simp only[ff]
  split
  ·split
   ·split
    ·exact Pt.cond (Pt.pure _) Pt.false
    ·exact Pt.false
   ·exact Pt.false
  ·exact Pt.false
theorem Jp:∀(l:List gS)(e:Env),Pt (fun Q:Env→Prop=>gA l e Q)
 |[],e=>by unfold gA;exact Pt.pure _
 |x::l,e=>by unfold gA;exact Pt.seq (X:=Env) (S:=fun(e':Env)(Q:Env→Prop)=>gA l e' Q) abB fun e'=>Jp l e'
theorem YT{e:Env}{c:Operand}{A B:Env→(X→Prop)→Prop}(hA:∀e,Pt (A e))(hB:∀e,Pt (B e)):Pt (fun Q=>nU e c (fun e=>A e Q) (fun e=>B e Q)):=by
 unfold nU
 split
 ·split
  ·exact Pt.au (hA _) (hB _)
  ·exact Pt.false
 ·exact Pt.cond (hA _) (hB _)
 ·exact Pt.false
theorem YU{F:(X→Prop)→List SV→List (List SV)→(List SV→List (List SV)→Prop)→Prop}
  (hF:∀vs bs,Pt (fun Q:(List SV×List (List SV)) ⊕ X→Prop=>F (fun x=>Q (.inr x)) vs bs fun v b=>Q (.inl (v,b))))(vs:List SV)(bs:List (List SV)):Pt (fun Q=>bP (F Q) vs bs):=by
 intro Q hq
 refine hq (fun vs bs=>∃x,Q x∧∀Q',Q' x→bP (F Q') vs bs) fun vs bs hP=>?_
 obtain⟨y,h1,h2⟩:=hF vs bs (fun y=>match y with| .inl p=>∃x,Q x∧∀Q',Q' x→bP (F Q') p.1 p.2| .inr x=>Q x) hP
 cases y with
 |inl p=>
  obtain⟨x,hx,hl⟩:=h1
  refine⟨x,hx,fun Q' vR I hI=>hI _ _ ?_⟩
  exact h2 (fun y=>match y with| .inl p=>I p.1 p.2| .inr x=>Q' x) (hl Q' vR I hI)
 |inr x=>
  refine⟨x,h1,fun Q' vR I hI=>hI _ _ ?_⟩
  exact h2 (fun y=>match y with| .inl p=>I p.1 p.2| .inr x=>Q' x) vR
theorem PV{key:Nat}{c:Code}{e:Env}{T:(Ex→Env→Prop)→Prop}(hT:Pt (fun Q:Ex×Env→Prop=>T fun x e=>Q (x,e))):Pt (fun Q:Ex×Env→Prop=>pZ h key c e (fun x e=>Q (x,e)) T):=by
 unfold pZ
 generalize mK h.eM key=kk
 obtain⟨vars,consts⟩:=kk
 cases vars<;>cases consts
 ·exact hT
 all_goals
  refine Pt.cond ?_ Pt.false
  unfold o8
  refine Pt.yX (T:=T) (S:=fun(x:Ex)(e':Env)(Q:Ex×Env→Prop)=>match x with| .normal =>Q (Ex.normal,_)| .exit i=>Q (Ex.exit i,e')| .ret =>Q (Ex.ret,e')) hT fun x e'=>?_
  cases x<;>exact Pt.pure _
theorem YV{X:Type}{e:Env}{s:Spec}{T:Env→(X→Prop)→Prop}(hT:∀e,Pt (T e)):Pt (fun Q:X→Prop=>iu P C e (fun e'=>T e' Q) s):=by
 cases s with
 |vB t d ty=>
  unfold iu
  dsimp only
  split
  ·refine Pt.cond ?_ Pt.false
   exact Pt.ab fun y=>hT _
  ·exact Pt.false
 |cut t d1 d2 ty=>
  unfold iu
  dsimp only
  split
  ·refine Pt.cond ?_ Pt.false
   exact Pt.ab fun y=>hT _
  ·exact Pt.false
 |u6 t d f u=>
  unfold iu
  dsimp only
  split
  ·refine Pt.cond ?_ Pt.false
   exact Pt.ex fun bk=>Pt.and (Pt.and (hT _))
  ·exact Pt.false
 |uU t d t2 d2 f u=>
  unfold iu
  dsimp only
  split
  ·refine Pt.cond ?_ Pt.false
   exact Pt.ex fun bk=>Pt.and (Pt.and (hT _))
  ·exact Pt.false
theorem aaj{id:Nat}{ops:Array Oper}{draw:Bool}{e:Env}{T:Env→(Ex×Env→Prop)→Prop}(hT:∀e,Pt (T e)):Pt (fun Q:Ex×Env→Prop=>lD P gl C h id ops draw e (fun e'=>T e' Q)):=by
 unfold lD
 refine Pt.cond ?_ Pt.false
 have Kd:∀e,Pt (fun Q:Ex×Env→Prop=>gA (kj h.gh (4000000+id)) e (fun e'=>T e' Q)):=fun e=>Pt.seq (X:=Ex×Env) (S:=fun e' Q=>T e' Q) (Jp _ _) hT
 refine Pt.seq (X:=Ex×Env) (S:=fun(e1:Env)(Q:Ex×Env→Prop)=>match uK P draw ops.toList with
  |some s=>iu P C e1 (fun e2=>gA (kj h.gh (4000000+id)) e2 fun e'=>T e' Q) s
  |none=>Ae P gl C (tu h id) ops.toList e1 (u5 P gl C (!draw||rv (tu h id) ops) ops (tu h id) e1 fun e2=>gA (kj h.gh (4000000+id)) e2 fun e'=>T e' Q)) (Jp _ _) fun e1=>?_
 cases uK P draw ops.toList with
 |some s=>exact YV Kd
 |none=>
  refine Pt.seq (X:=Ex×Env) (S:=fun(e:Env)(Q:Ex×Env→Prop)=>u5 P gl C (!draw||rv (tu h id) ops) ops (tu h id) e1 (fun e2=>gA (kj h.gh (4000000+id)) e2 fun e'=>T e' Q) e) (IU _ _ _) fun e=>?_
  cases (!draw||rv (tu h id) ops)
  ·exact Pt.and (Kd _)
  ·exact Kd _
theorem yE:∀(c:Code)(e:Env),Pt (fun Q:Ex×Env→Prop=>aw P gl C h c (fun x e=>Q (x,e)) e)
 | .skip,e=>by unfold aw;exact Pt.pure _
 | .region id ops draw,e=>by
   unfold aw
   exact PV (aaj (T:=fun e(Q:Ex×Env→Prop)=>Q (Ex.normal,e)) fun e=>Pt.pure _)
 | .seq a b,e=>by
   unfold aw
   refine Pt.yX (T:=fun(k:Ex→Env→Prop)=>aw P gl C h a k e) (S:=fun(x:Ex)(e':Env)(Q:_→Prop)=>match x with| .normal =>aw P gl C h b (fun x e=>Q (x,e)) e'| .exit i=>Q (Ex.exit i,e')| .ret =>Q (Ex.ret,e')) (yE a e) fun x e'=>?_
   cases x with
   |normal=>exact yE b e'
   |exit i=>exact Pt.pure _
   |ret=>exact Pt.pure _
 | .cond c a b,e=>by
   unfold aw
   exact PV (YT (fun e=>yE a e) (fun e=>yE b e))
 | .block id b,e=>by
   unfold aw
   refine Pt.yX (T:=fun(k:Ex→Env→Prop)=>aw P gl C h b k e) (S:=fun(x:Ex)(e':Env)(Q:_→Prop)=>match x with| .normal =>Q (Ex.normal,e')| .exit i=>bif i==id then Q (Ex.normal,e')else Q (Ex.exit i,e')| .ret =>Q (Ex.ret,e')) (yE b e) fun x e'=>?_
   cases x with
   |normal=>exact Pt.pure _
   |exit i=>exact Pt.cond (Pt.pure _) (Pt.pure _)
   |ret=>exact Pt.pure _
 | .loop b,e=>by
   unfold aw
   refine Pt.cond ?_ Pt.false
   refine YU (F:=fun(Q:Ex×Env→Prop)vs bs I=>aw P gl C h b (fun x e'=>match x with| .normal =>I (td e' (mK h.eM (l6 b)).1) (sX e.boxes.length e')| .exit i=>Q (Ex.exit i,e')| .ret =>Q (Ex.ret,e'))
    ⟨qQ (mK h.eM (l6 b)).1 (mK h.eM (l6 b)).2 vs e.ai 0,qR bs e.boxes 0⟩) (fun vs bs=>?_) _ _
   refine Pt.yX (T:=fun(k:Ex→Env→Prop)=>aw P gl C h b k _) (S:=fun(x:Ex)(e':Env)(Q:_→Prop)=>match x with| .normal =>Q (Sum.inl (td e' (mK h.eM (l6 b)).1,sX e.boxes.length e'))| .exit i=>Q (Sum.inr (Ex.exit i,e'))| .ret =>Q (Sum.inr (Ex.ret,e'))) (yE b _) fun x e'=>?_
   cases x<;>exact Pt.pure _
 | .exit id,e=>by unfold aw;exact Pt.pure _
 | .ret,e=>by unfold aw;exact Pt.pure _
 | .scope _,e=>by unfold aw;exact Pt.false
 | .rangeFunc ..,e=>by unfold aw;exact Pt.false
 | .label ..,e=>by unfold aw;exact Pt.pure _
 | .goto ..,e=>by unfold aw;exact Pt.false
 | .refuse ..,e=>by unfold aw;exact Pt.false
theorem Qv{e:Env}{used:List Nat}{r:ResultVar}{T:SV→(X→Prop)→Prop}(hT:∀r,Pt (T r)):Pt (fun Q=>yO P e used r fun x=>T x Q):=by
 unfold yO
 cases r with
 |tmp t=>
  dsimp only
  split
  ·exact Pt.and (hT _)
  ·exact Pt.false
 |cell a t=>
  dsimp only
  refine Pt.ab fun ly=>?_
  split
  ·refine Pt.yX (S:=fun(s:Slot)(_:List af)Q=>match s with| .v x=>x.ax=true∧T x Q|_=>False) OA fun s b=>?_
   cases s with
   |v x=>exact Pt.and (hT x)
   |_=>exact Pt.false
  ·exact Pt.false
theorem PW{e:Env}:∀(l:List ResultVar)(used:List Nat){T:List SV→(X→Prop)→Prop},(∀r,Pt (T r))→Pt (fun Q=>yA P e used l fun x=>T x Q)
 |[],used,T,hT=>by unfold yA;exact hT []
 |r::l,used,T,hT=>by
  unfold yA
  exact Qv fun x=>PW l _ fun xs=>hT (x::xs)
theorem XL{fn:Func}{e:Env}:Pt (fun K:SV→Prop=>finish P fn e K):=by
 unfold finish
 split
 ·exact Qv fun x=>Pt.pure x
 ·exact PW _ _ fun xs=>Pt.pure _
theorem aak{f:FuncId}{args:List SV}(bA:SV.gb args):Pt (fun K:SV→Prop=>body P gl C h f args K):=by
 unfold body
 cases P.funcs[f]? with
 |none=>exact Pt.false
 |some fn=>
  dsimp only
  cases fn.body with
  |none=>exact Pt.false
  |some c=>
   have:Pt (fun K:SV→Prop=>aw P gl C h c (fun x e=>match x with| .normal =>finish P fn e K| .ret =>finish P fn e K| .exit _=>False) (enter fn.ntmps args)):=by
    refine Pt.yX (T:=fun(k:Ex→Env→Prop)=>aw P gl C h c k _) (S:=fun(x:Ex)(e:Env)K=>match x with| .normal =>finish P fn e K| .ret =>finish P fn e K| .exit _=>False) (yE c _) fun x e=>?_
    cases x with
    |exit i=>exact Pt.false
    |_=>exact XL
   intro Q hq
   obtain⟨x,h1,h2⟩:=this Q (hq bA)
   exact⟨x,h1,fun Q' h _=>h2 Q' h⟩
end
theorem XM{P:Program}{gl:Nat→Option D}{f:FuncId}{args:List SV}{r:SV}(hE:lu P f)(hw:¬SV.gb args)(ha:lE args=none:=by rfl):aD P gl f args r:=by
 rw[xW ha]
 refine⟨hE,fun w St vs m5 oD hlen eF=>absurd ?_ hw⟩
 rw[SV.ki]
 intro x hx
 obtain⟨i,hi,rfl⟩:=List.mem_iff_getElem.1 hx
 exact(eF i _ (vs[i]'(by omega)) (by simp) (by simp)).wf
theorem WX{P:Program}{gl:Nat→Option D}{h:Hints}(hm:P.follows .mixedOrders =true){f:FuncId}{args:List SV}{Q:SV→Prop}(hE:lu P f)(hQ:∃r,Q r)(hh:body P gl (aD P gl) h f args Q)(ha:lE args=none:=by rfl):∃r,Q r∧aD P gl f args r:=by
 by_cases hw:SV.gb args
 ·obtain⟨r,h1,h2⟩:=aak hw Q hh
  exact⟨r,h1,cw hm hE (h2 _ rfl) ha⟩
 ·obtain⟨r,hr⟩:=hQ
  exact⟨r,hr,XM hE hw ha⟩
end Go.Proofs.Ytimbllcalipehaa.Ab
namespace Go.Proofs.Ytimbllcalipehaa.Ab
open Go Go.RowKit
def FW(r:Option Nat):Fence:={Fence.wide with round:=r}
theorem aal(l:Nat):FW (some l)=Fence.wide.inRound l:=rfl
section
variable{P:Program}{gl:Nat→Option D}{ops:Array Oper}{aE:Nat→Bool}{base:Nat}{r:Option Nat}{n:Nat}{ds:List Deferred}
def wd(a:Act)(ds:List Deferred):Act:={a with defers:=ds}
theorem CQ(a:Act)(ds:List Deferred)(dst:Option Tmp)(v:Value):(wd a ds).put dst v=wd (a.put dst v) ds:=by cases dst<;>rfl
theorem yz{a:Act}(h:a.defers=[]):wd a []=a:=by cases a;simp only at h;subst h;rfl
theorem aam(a:Act)(ds:List Deferred):(wd a ds).eval =a.eval:=funext fun x=>by cases x<;>rfl
theorem aan{o:Oper}{a:Act}{next:Act→World→Prop}{Q:Exit→Act→World→Prop}{x:Result Next}
  (h:o.upon P a (fun a1 w1=>a1.defers=[]∧next (wd a1 ds) w1) (fun x a1 w1=>Q x (wd a1 ds) w1) x):o.uponIn (FW r) n P (wd a ds) next Q x:=by
 cases x with
 |ok nx w'=>
  cases nx with
  |enter f args=>
   refine⟨fun h=>(by cases h),?_⟩
   have h1:CallsIn Fence.wide (n-1) P f args w' _:=callsIn_wide.2 h
   refine CallsIn.mono (F:=FW r) h1 fun e w2 he=>?_
   cases e with
   |returned v=>show next ((wd a ds).put o.dst v) w2;rw[CQ];exact he.2
   |panicked ch=>exact he
   |outgrown=>obtain⟨b1,b2,b3⟩:=he;exact⟨wd b1 ds,b2,b3⟩
  |row row args=>
   refine⟨fun h=>(by cases h),fun c cs _=>?_⟩
   obtain⟨v,w2,h1,h2⟩:=h c cs
   exact⟨v,w2,by show next ((wd a ds).put o.dst v) w2;rw[CQ];exact h1.2,stepsIn_wide.2 h2⟩
  |value v=>rw[Oper.uponIn_value,CQ];exact h.2
  |skip=>rw[Oper.uponIn_skip,CQ];exact h.2
  |defer d=>
   obtain⟨h1,_⟩:=h
   rw[put_defers]at h1
   cases h1
  |_=>exact h.elim
 |halt x w'=>cases x<;>first|exact h|exact h.elim
theorem Qw{o:Oper}{a:Act}{w:World}{next:Act→World→Prop}{Q:Exit→Act→World→Prop}(gm:∀c,o.op≠.defer c)
  (h:o.wp P a w (fun a1 w1=>a1.defers=[]∧next (wd a1 ds) w1) (fun x a1 w1=>Q x (wd a1 ds) w1)):o.wpIn (FW r) n P (wd a ds) w next Q:=by
 refine⟨fun _ _=>trivial,?_⟩
 have hs:o.semAt (FW r).round (wd a ds).eval =execOp a.eval o:=by
  rw[aam]
  cases r with
  |none=>rfl
  |some l=>exact Oper.semAt_some l _ o gm
 rw[hs]
 exact aan h
theorem WY{C:bd}{id:Nat}{l:Bool}{o:Oper}{e:Env}{k:Env→Prop}(h:mP P gl C id l o e k):∀c,o.op≠.defer c:=by
 intro c hc
 unfold mP at h
 cases l with
 |true=>simp only[cond_true,kR,hc]at h
 |false=>simp only[cond_false,cX,hc]at h
theorem H9{w0:World}{ao:S0}{e:Env}{a:Act}{w:World}{g:Gh}(hI:Inv gl w0 ao e a w g){i id:Nat}{l:Bool}{o:Oper}(ho:ops[i]? =some o){k:Env→Prop}
  (h:mO P gl (aD P gl) ops.toList id l o e k){next:Act→World→Prop}{Q:Exit→Act→World→Prop}(hn:∀e' v w' g',Inv gl w0 ao e' (a.put o.dst v) w' g'→k e'→next (wd (a.put o.dst v) ds) w'):wpOpIn (FW r) n P ops Q i next (wd a ds) w:=by
 have h':=z5.1 h
 unfold wpOpIn
 simp only[ho]
 split at h'
 ·rename_i hg
  rw[if_pos (show Region.wanted o (yielded ops (wd a ds).tmps)=true from EX hI hg)]
  exact Qw (WY h') (O7 hI h' _ _ fun e' v w' g' hinv hk=>⟨hinv.defers,hn e' _ w' g' hinv hk⟩)
 ·rename_i hg
  rw[if_neg (by rw[show Region.wanted o (yielded ops (wd a ds).tmps)=false from EX hI hg];simp)]
  refine⟨fun _ _=>trivial,?_⟩
  rw[CQ]
  exact hn _ _ _ _ (PJ hI o.dst) h'
 ·exact h'.elim
def lf(l:List Oper)(a a':Act):Prop:=∀t,t∉l.filterMap (·.dst)→a'.tmps.getD t undef=a.tmps.getD t undef
theorem lf.refl(l:List Oper)(a:Act):lf l a a:=fun _ _=>rfl
theorem lf.put{l:List Oper}{a0 a:Act}{o:Oper}(h:lf l a0 a)(ho:o∈l)(hs:a.tmps.size=a0.tmps.size)(v:Value):lf l a0 (a.put o.dst v):=by
 intro t ht
 rw[←h t ht]
 cases hd:o.dst with
 |none=>rfl
 |some d=>
  have bg:d≠t:=fun hh=>ht (List.mem_filterMap.2 ⟨o,ho,by rw[hd,hh]⟩)
  simp only[Act.put,Array.getD_eq_getD_getElem?]
  rw[Array.getElem?_setIfInBounds_ne bg]
theorem IV{w0:World}{ao:S0}{K:Env→Prop}{Q:Exit→Act→World→Prop}{a0:Act}(hQ:∀e a w g,Inv gl w0 ao e a w g→K e→lf ops.toList a0 a→Q .normal (wd a ds) w):∀(fuel:Nat)(bz:Array Bool)(e:Env)(a:Act)(w:World)(g:Gh),
  Inv gl w0 ao e a w g→lf ops.toList a0 a→a.tmps.size=a0.tmps.size→wX P gl ops aE base K fuel bz e→wpAnyIn (FW r) n P .any ops Q fuel bz (wd a ds) w
 |0,_,e,a,w,g,hI,fp,_,h=>⟨h.1,hQ e a w g hI h.2 fp⟩
 |fuel+1,_,e,a,w,g,hI,fp,lQ,h=>⟨fun h0=>hQ e a w g hI (h.1 h0) fp,fun i hi=>by
   obtain⟨o,ho,hs⟩:=h.2 i hi
   exact H9 hI ho hs fun e' v w' g' hinv hk=>IV hQ fuel _ e' _ w' g' hinv (fp.put (by simpa using Array.mem_of_getElem? ho) lQ v) (by rw[Ck,lQ]) hk⟩
theorem Pk{w0:World}{ao:S0}{K:Env→Prop}{Q:Exit→Act→World→Prop}{a0:Act}(hQ:∀e a w g,Inv gl w0 ao e a w g→K e→lf ops.toList a0 a→Q .normal (wd a ds) w):∀(l:List Oper)(i:Nat)(e:Env)(a:Act)(w:World)(g:Gh),
  (∀j,l[j]? =ops[i+j]?)→Inv gl w0 ao e a w g→lf ops.toList a0 a→a.tmps.size=a0.tmps.size→kS P gl (aD P gl) aE ops.toList base l i e K→wpOpsIn (FW r) n P ops Q (List.range' i l.length) (wd a ds) w
 |[],_,e,a,w,g,_,hI,fp,_,h=>hQ e a w g hI h fp
 |o::l,i,e,a,w,g,hl,hI,fp,lQ,h=>by
  have h0:ops[i]? =some o:=by simpa using(hl 0).symm
  rw[List.length_cons,List.range'_succ,wpOpsIn_cons]
  rw[Ag]at h
  exact H9 hI h0 h fun e' v w' g' hinv hk=>Pk hQ l (i+1) e' _ w' g' (fun j=>by have:=hl (j+1);simpa[Nat.add_assoc,Nat.add_comm 1 j]using this) hinv (fp.put (by simpa using Array.mem_of_getElem? h0) lQ v) (by rw[Ck,lQ]) hk
theorem Wb{w0:World}{ao:S0}{e:Env}{a:Act}{w:World}{g:Gh}(hI:Inv gl w0 ao e a w g){id:Nat}{draw:Bool}{K:Env→Prop}{Q:Exit→Act→World→Prop}(hm:P.follows .mixedOrders =true)
  (h:Ae P gl (aD P gl) aE ops.toList e (u5 P gl (aD P gl) (!draw||rv aE ops) ops aE e K))(hQ:∀e a' w g,Inv gl w0 ao e a' w g→K e→lf ops.toList a a'→Q .normal (wd a' ds) w):(Code.region id ops draw).wpIn (FW r) n P Q (wd a ds) w:=by
 unfold Ae at h
 cases fo:(!draw||rv aE ops)with
 |false=>
  rw[fo]at h
  obtain⟨e',KC,hK⟩:=H5 _ _ _ h
  have hd:draw=true:=by cases draw<;>simp_all
  subst hd
  refine wpIn_region_any hm ?_
  have bG:=(hI.E8 (fK ops.toList ops.toList.length)).drew
  have:=H4 (P:=P) (gl:=gl) (aE:=aE) (K:=fun x=>x=e') _ 0 (Array.replicate ops.size false) _ (fun j=>by simp[Array.getElem?_replicate];split<;>rfl) (by simp) (fun j o ho hl=>by
   have hj:j<ops.size:=(Array.getElem?_eq_some_iff.1 ho).1
   simp[hj]at hl) ⟨w0,ao,a,_,_,bG⟩ KC
  have h2:=IV (r:=r) (n:=n) (Q:=Q) (K:=fun x=>x=e') (fun e1 a1 w1 g1 hinv hk=>hQ e1 a1 w1 g1 hinv (by rw[hk];exact hK)) _ _ _ _ _ _ bG (lf.refl _ _) rfl this
  simpa using h2
 |true=>
 rw[fo]at h
 replace h:kS P gl (aD P gl) aE ops.toList e.boxes.length ops.toList 0 ⟨e.ai,e.boxes++List.replicate (fK ops.toList ops.toList.length) .none⟩ K:=h
 have bh:=hI.E8 (fK ops.toList ops.toList.length)
 cases draw with
 |false=>
  refine wpIn_region ?_
  have:=Pk (r:=r) (n:=n) (base:=e.boxes.length) (aE:=aE) hQ ops.toList 0 _ a w _ (fun j=>by simp) bh (lf.refl _ _) rfl h
  rw[List.range_eq_range']
  simpa using this
 |true=>
  simp only[Bool.not_true,Bool.false_or]at fo
  refine wpIn_region_any hm ?_
  have bG:=bh.drew
  have aM:(Array.replicate ops.size false).size =ops.size:=by simp
  have LD:=hI.R0 (ops:=ops) (fK ops.toList ops.toList.length) rfl
  obtain⟨E,vO,fo⟩:∃E,Js ops aE e.boxes.length _ E (Array.replicate ops.size false) ⟨e.ai,e.boxes++List.replicate (fK ops.toList ops.toList.length) .none⟩∧yj E ops aE (reach [] ops.toList) ops.toList 0=true:=by
   unfold rv at fo
   cases jt:eligible ops.toList aE (reach [] ops.toList)with
   |true=>rw[jt]at fo;exact⟨_,fun A hA=>by cases hA;exact⟨rfl,Qp jt,LD⟩,fo⟩
   |false=>rw[jt]at fo;exact⟨none,fun A hA=>(by cases hA),fo⟩
  have:=Jl (P:=P) (gl:=gl) (base:=e.boxes.length) (aE:=aE) ops.toList 0 (Array.replicate ops.size false) _ (fun j=>by simp) (fun j hj=>by omega) (fun j _ hj=>by simp[hj]) aM
   (fun j o ho hl=>by
     have hj:j<ops.size:=(Array.getElem?_eq_some_iff.1 ho).1
     simp[hj]at hl) ⟨w0,ao,a,_,_,bG⟩ vO fo h
  have h2:=IV (r:=r) (n:=n) hQ _ _ _ _ _ _ bG (lf.refl _ _) rfl this
  simpa using h2
end
section
variable{P:Program}{gl:Nat→Option D}{h:Hints}{r:Option Nat}{n:Nat}{ds:List Deferred}
def Kt(gh:List (Nat×List gS))(c:Code)(a a':Act):Prop:=∀t,t∉cD gh c→a'.tmps.getD t undef=a.tmps.getD t undef
theorem Kt.refl(gh:List (Nat×List gS))(c:Code)(a:Act):Kt gh c a a:=fun _ _=>rfl
theorem Kt.trans{gh:List (Nat×List gS)}{x y c:Code}{a a1 a2:Act}(h1:Kt gh x a a1)(h2:Kt gh y a1 a2)(hx:∀t,t∈cD gh x→t∈cD gh c)(hy:∀t,t∈cD gh y→t∈cD gh c):Kt gh c a a2:=
 fun t ht=>(h2 t fun hm=>ht (hy t hm)).trans (h1 t fun hm=>ht (hx t hm))
theorem Kt.mono{gh:List (Nat×List gS)}{x c:Code}{a a1:Act}(h1:Kt gh x a a1)(hx:∀t,t∈cD gh x→t∈cD gh c):Kt gh c a a1:=fun t ht=>h1 t fun hm=>ht (hx t hm)
theorem Pl{ops:Array Oper}{Q:Exit→Act→World→Prop}{a0:Act}{R:Act→World→Prop}(hR:∀a w,R a w→lf ops.toList a0 a→Q .normal (wd a ds) w):∀(l:List Oper)(i:Nat){a:Act}{w:World},(∀j,l[j]? =ops[i+j]?)→mR P l a w R→lf ops.toList a0 a→a.tmps.size=a0.tmps.size→wpOpsIn (FW r) n P ops Q (List.range' i l.length) (wd a ds) w
 |[],_,_,_,_,h,hk,_=>hR _ _ h hk
 |o::l,i,a,w,hl,h,hk,aM=>by
  obtain⟨hg,gm,h⟩:=h
  have h0:ops[i]? =some o:=by simpa using(hl 0).symm
  rw[List.length_cons,List.range'_succ,wpOpsIn_cons]
  unfold wpOpIn
  simp only[h0]
  rw[if_pos (by simp[Region.wanted,hg])]
  exact Qw gm (h _ _ fun v w1 hd h1=>⟨hd,Pl hR l (i+1) (fun j=>by have:=hl (j+1);simpa[Nat.add_assoc,Nat.add_comm 1 j]using this) h1 (hk.put (by simpa using Array.mem_of_getElem? h0) aM v) (by rw[Ck,aM])⟩)
theorem XN{w0:World}{ao:S0}{e:Env}{a:Act}{w:World}{g:Gh}(hI:Inv gl w0 ao e a w g){id:Nat}{ops:Array Oper}{draw:Bool}{K:Env→Prop}{Q:Exit→Act→World→Prop}(hm:P.follows .mixedOrders =true)
  (hh:lD P gl (aD P gl) h id ops draw e K)(hQ:∀e a' w g,Inv gl w0 ao e a' w g→K e→lf ops.toList a a'→Q .normal (wd a' ds) w):(Code.region id ops draw).wpIn (FW r) n P Q (wd a ds) w:=by
 unfold lD at hh
 obtain⟨hb,hh⟩:=qU hh
 obtain⟨e1,g1,cY,h1⟩:=Ah hI hh
 have vR:∀e a' w g,Inv gl w0 ao e a' w g→gA (kj h.gh (4000000+id)) e K→lf ops.toList a a'→Q .normal (wd a' ds) w:=fun e a w g h1 h2 hk=>by
  obtain⟨e2,g2,bG,h3⟩:=Ah h1 h2
  exact hQ e2 a w g2 bG h3 hk
 cases hs:uK P draw ops.toList with
 |some s=>
  simp only[hs]at h1
  obtain⟨hd,LO⟩:=HN hs
  subst hd
  have hr:=PS cY LO h1
  refine wpIn_region ?_
  have:=Pl (r:=r) (n:=n) (ds:=ds) (ops:=ops) (Q:=Q) (a0:=a) (fun a' w'⟨e',g',bh,hk⟩fp=>vR e' a' w' g' bh hk fp) ops.toList 0 (fun j=>by simp) hr (lf.refl _ _) rfl
  rw[List.range_eq_range']
  simpa using this
 |none=>
  simp only[hs]at h1
  exact Wb cY hm h1 fun e' a' w' g' bh hk fp=>vR e' a' w' g' bh hk fp
theorem pO(hm:P.follows .mixedOrders =true):∀(c:Code){w0:World}{ao:S0}{QA:Ex→Env→Prop}{e:Env}{a:Act}{w:World}{g:Gh}{Q:Exit→Act→World→Prop},
  Inv gl w0 ao e a w g→aw P gl (aD P gl) h c QA e→(∀x e' a' w' g',Inv gl w0 ao e' a' w' g'→QA x e'→Kt [] c a a'→Q x.to (wd a' ds) w')→c.wpIn (FW r) n P Q (wd a ds) w
 | .skip,_,_,_,_,_,_,_,_,hI,hh,hQ=>wpIn_skip (hQ .normal _ _ _ _ hI hh (Kt.refl _ _ _))
 | .region id ops draw,w0,ao,QA,e,a,w,g,Q,hI,hh,hQ=>by
   obtain⟨tZ,hh,hj⟩:=ES hI (c:=.region id ops draw) (T:=fun Q=>lD P gl (aD P gl) h id ops draw e (Q .normal)) (fun Q hh=>ND Q hh) hh
   have hQ:∀ex e' a' w' g',Inv gl w0 ao e' a' w' g'→tZ ex e'→Kt [] (.region id ops draw) a a'→Q ex.to (wd a' ds) w':=fun ex e' a' w' g' h1 h2 h5=>(by
    obtain⟨kY,vQ,h3,h4⟩:=hj ex e' a' w' g' h1 h2
    exact hQ ex kY a' w' vQ h3 h4 h5)
   clear hj
   exact XN hI hm hh fun e' a' w' g' bh hk fp=>hQ .normal e' a' w' g' bh hk fun t ht=>fp t fun hm=>ht (by simp only[cD,List.mem_append];exact .inr (.inr hm))
 | .seq x y,w0,ao,QA,e,a,w,g,Q,hI,hh,hQ=>by
   have ib:∀t,t∈cD [] x→t∈cD [] (.seq x y):=fun t ht=>by simp[cD,ht]
   have tR:∀t,t∈cD [] y→t∈cD [] (.seq x y):=fun t ht=>by simp[cD,ht]
   refine wpIn_seq (pO hm x hI hh fun ex e' a' w' g' bh hk fp=>?_)
   cases ex with
   |normal=>exact pO hm y bh hk fun x2 e2 a2 w2 g2 bG kG vi=>hQ x2 e2 a2 w2 g2 bG kG (fp.trans vi ib tR)
   |exit i=>exact hQ (.exit i) e' a' w' g' bh hk (fp.mono ib)
   |ret=>exact hQ .ret e' a' w' g' bh hk (fp.mono ib)
 | .cond c x y,w0,ao,QA,e,a,w,g,Q,hI,hh,hQ=>by
   obtain⟨tZ,hh,hj⟩:=ES hI (c:=.cond c x y) (T:=fun Q=>nU e c (aw P gl (aD P gl) h x Q) (aw P gl (aD P gl) h y Q)) (fun Q hh=>Ow Q hh) hh
   have hQ:∀ex e' a' w' g',Inv gl w0 ao e' a' w' g'→tZ ex e'→Kt [] (.cond c x y) a a'→Q ex.to (wd a' ds) w':=fun ex e' a' w' g' h1 h2 h5=>(by
    obtain⟨kY,vQ,h3,h4⟩:=hj ex e' a' w' g' h1 h2
    exact hQ ex kY a' w' vQ h3 h4 h5)
   clear hj
   cases c with
   |tmp t=>
    simp only[nU]at hh
    have hs:=jz hI t
    cases hx:e.ai.getD t (.v .undef)with
    |v z=>
     rw[hx]at hh hs
     obtain⟨b,rfl,h1,h2⟩:=Af hh
     have hv:=hs.jB.data.sU
     refine wpIn_cond_split hv (fun hb=>?_) (fun hb=>?_)
     ·have:=h1 hb
      subst hb
      rw[uv hx]at this
      exact pO hm x hI this fun x2 e2 a2 w2 g2 bG kG vi=>hQ x2 e2 a2 w2 g2 bG kG (vi.mono fun t ht=>by simp[cD,ht])
     ·have:=h2 hb
      subst hb
      rw[uv hx]at this
      exact pO hm y hI this fun x2 e2 a2 w2 g2 bG kG vi=>hQ x2 e2 a2 w2 g2 bG kG (vi.mono fun t ht=>by simp[cD,ht])
    |_=>rw[hx]at hh;exact hh.elim
   |const v=>
    cases v with
    |bool b=>
     refine wpIn_cond_split (t:=b) rfl (fun hb=>?_) (fun hb=>?_)
     ·subst hb;exact pO hm x hI hh fun x2 e2 a2 w2 g2 bG kG vi=>hQ x2 e2 a2 w2 g2 bG kG (vi.mono fun t ht=>by simp[cD,ht])
     ·subst hb;exact pO hm y hI hh fun x2 e2 a2 w2 g2 bG kG vi=>hQ x2 e2 a2 w2 g2 bG kG (vi.mono fun t ht=>by simp[cD,ht])
    |_=>exact hh.elim
   |_=>exact hh.elim
 | .block id b,w0,ao,QA,e,a,w,g,Q,hI,hh,hQ=>by
   refine wpIn_block (pO hm b hI hh fun ex e' a' w' g' bh hk fp=>?_)
   cases ex with
   |normal=>exact hQ .normal e' a' w' g' bh hk fp
   |exit i=>
    have bR:cond (i==id) (QA .normal e') (QA (.exit i) e'):=hk
    show(if i=id then Q .normal (wd a' ds) w' else Q (.exit i) (wd a' ds) w')
    cases hb:(i==id)with
    |true=>
     rw[hb]at bR
     rw[if_pos (beq_iff_eq.1 hb)]
     exact hQ .normal e' a' w' g' bh bR fp
    |false=>
     rw[hb]at bR
     rw[if_neg (beq_eq_false_iff_ne.1 hb)]
     exact hQ (.exit i) e' a' w' g' bh bR fp
   |ret=>exact hQ .ret e' a' w' g' bh hk fp
 | .loop b,w0,ao,QA,e,a,w,g,Q,hI,hh,hQ=>by
   obtain⟨hb,hh⟩:=qU (hh:cond _ _ False)
   simp only[Bool.and_eq_true,List.all_eq_true,Bool.not_eq_true',List.contains_eq_mem,decide_eq_false_iff_not]at hb
   obtain⟨KE,hk⟩:=hb
   let LW:Act→World→Prop:=fun a1 w1=>∀(fr:Frame)(k:List Item)(cs:List Frame),fr.roundOf=(FW r).round →(FW r).fn fr.fn→(FW r).room (cs.length+1+n)→∃ex a' w',Q ex a' w'∧ArrivesIn (Machine.fenced P (FW r)) P (lone (fr.atR a1 (.code b::.inLoop b::k)) cs w1) fr k cs ex a' w'
   let I:List SV→List (List SV)→Prop:=fun vs bs=>∀e1 a1 w1 g1,Inv gl w0 ao e1 a1 w1 g1→Fr h.gh b e e1→Kt [] b a a1→td e1 (mK h.eM (l6 b)).1=vs→sX e.boxes.length e1=bs→LW (wd a1 ds) w1
   have key:I _ _:=hh I fun vs bs hF e1 a1 w1 g1 cY vP fp jG gI=>by
    subst jG gI
    have LP:=Ir hI cY vP (vars:=(mK h.eM (l6 b)).1) KE
    have iP:=pO hm b (Q:=fun ex a' w'=>match ex with| .normal =>LW a' w'|ex=>Q ex a' w') LP (pR b hF) (fun ex e' a' w' g' bh bR KG=>by
     obtain⟨jw,kG⟩:=bR
     cases ex with
     |normal=>exact jw e' a' w' g' bh ((E9 hk).trans kG (fun t ht=>ht) (fun t ht=>ht)) (fp.trans KG (fun t ht=>ht) (fun t ht=>ht)) rfl rfl
     |exit i=>exact hQ (.exit i) e' a' w' g' bh jw (fp.trans KG (fun t ht=>ht) (fun t ht=>ht))
     |ret=>exact hQ .ret e' a' w' g' bh jw (fp.trans KG (fun t ht=>ht) (fun t ht=>ht)))
    intro fr k cs GN hb hr
    obtain⟨ex,a2,w2,hq,lH⟩:=iP fr (.inLoop b::k) cs GN hb hr
    cases ex with
    |normal=>
     obtain⟨e₂,a₂,w₂,LQ,Kb⟩:=hq fr k cs GN hb hr
     exact⟨e₂,a₂,w₂,LQ,.of_steps (StepsIn.trans lH (.one (fenced_calm hb hr rfl) stepR_inLoop)) Kb⟩
    |exit id=>exact⟨_,a2,w2,hq,.pass (x:=.inLoop b) rfl (fun _ _=>.inl (by simp)) lH⟩
    |goto l=>exact⟨_,a2,w2,hq,.pass (x:=.inLoop b) rfl (fun _ _=>.inl (by simp)) lH⟩
    |ret=>exact⟨_,a2,w2,hq,.pass (x:=.inLoop b) rfl (fun _ _=>.inl (by simp)) lH⟩
    |panic ch=>exact⟨_,a2,w2,hq,.pass (x:=.inLoop b) rfl (fun _ _=>.inl (by simp)) lH⟩
    |outgrown=>exact⟨_,a2,w2,hq,.pass (x:=.inLoop b) rfl (fun _ _=>.inl (by simp)) lH⟩
   have LR:LW (wd a ds) w:=key e a w g hI (Fr.refl _ _) (Kt.refl _ _ _) rfl rfl
   intro fr k cs GN hb hr
   obtain⟨ex,a',w',hq,lH⟩:=LR fr k cs GN hb hr
   exact⟨ex,a',w',hq,.of_steps (.one (fenced_calm hb hr rfl) stepR_loop) lH⟩
 | .exit id,_,_,_,_,_,_,_,_,hI,hh,hQ=>wpIn_exit (hQ (.exit id) _ _ _ _ hI hh (Kt.refl _ _ _))
 | .ret,_,_,_,_,_,_,_,_,hI,hh,hQ=>wpIn_ret (hQ .ret _ _ _ _ hI hh (Kt.refl _ _ _))
 | .goto _,_,_,_,_,_,_,_,_,_,hh,_=>hh.elim
 | .label _,_,_,_,_,_,_,_,_,hI,hh,hQ=>wpIn_label (hQ .normal _ _ _ _ hI hh (Kt.refl _ _ _))
 | .scope _,_,_,_,_,_,_,_,_,_,hh,_=>hh.elim
 | .rangeFunc _ _ _ _,_,_,_,_,_,_,_,_,_,hh,_=>hh.elim
 | .refuse _,_,_,_,_,_,_,_,_,_,hh,_=>hh.elim
theorem wh{gh:List (Nat×List gS)}:∀(c:Code){t:Nat},t∈cD [] c→t∈cD gh c
 | .region id ops draw,t,h=>by
   simp only[cD,List.mem_append]at h ⊢
   rcases h with h|h|h
   ·simp[kj,fj]at h
   ·simp[kj,fj]at h
   ·exact .inr (.inr h)
 | .seq a b,t,h=>by
   simp only[cD,List.mem_append]at h ⊢
   exact h.imp (wh a) (wh b)
 | .cond c a b,t,h=>by
   simp only[cD,List.mem_append]at h ⊢
   exact h.imp (wh a) (wh b)
 | .block id b,t,h=>wh (gh:=gh) b h
 | .loop b,t,h=>wh (gh:=gh) b h
 | .scope b,t,h=>wh (gh:=gh) b h
 | .skip,t,h=>by simp[cD]at h
 | .exit _,t,h=>by simp[cD]at h
 | .ret,t,h=>by simp[cD]at h
 | .goto _,t,h=>by simp[cD]at h
 | .label _,t,h=>by simp[cD]at h
 | .rangeFunc ..,t,h=>by simp[cD]at h
 | .refuse ..,t,h=>by simp[cD]at h
theorem Kt.any{gh:List (Nat×List gS)}{c:Code}{a a':Act}(h:Kt [] c a a'):Kt gh c a a':=fun t ht=>h t fun hm=>ht (wh c hm)
theorem OB(hm:P.follows .mixedOrders =true)(c:Code){w0:World}{ao:S0}{QA:Ex→Env→Prop}{e:Env}{a:Act}{w:World}{g:Gh}{Q:Exit→Act→World→Prop}
  (hI:Inv gl w0 ao e a w g)(hh:aw P gl (aD P gl) h c QA e)(hQ:∀x e' a' w' g',Inv gl w0 ao e' a' w' g'→QA x e'→Q x.to (wd a' ds) w'):c.wpIn (FW r) n P Q (wd a ds) w:=
 pO hm c hI hh fun x e' a' w' g' h1 h2 _=>hQ x e' a' w' g' h1 h2
end
end Go.Proofs.Ytimbllcalipehaa.Ab
namespace Go.Proofs.Ytimbllcalipehaa.Ab
open Go Go.RowKit
mutual
def SV.n9:SV→Bool
 | .mp _=>false
 | .ref cs _=>SV.pa cs
 | .cG _ _ cs=>SV.pa cs
 | .di _ a b=>SV.pa a&&SV.pa b
 | .aH l=>SV.pa l
 |_=>true
def SV.pa:List SV→Bool
 |[]=>true
 |x::l=>SV.n9 x&&SV.pa l
end
theorem wm:∀{l:List SV},SV.pa l=true↔∀x∈l,SV.n9 x=true
 |[]=>by simp[SV.pa]
 |x::l=>by simp[SV.pa,wm (l:=l)]
end Go.Proofs.Ytimbllcalipehaa.Ab
namespace Go.Proofs.Ytimbllcalipehaa.Ab
open Go Go.RowKit
theorem qS:∀{l:List SV},SV.gy l=true↔∀x∈l,SV.ax x=true
 |[]=>by simp[SV.gy]
 |x::l=>by simp[SV.gy,qS (l:=l)]
section
variable{W W':World}{gl:Nat→Option D}
theorem aY.eM{St:Nat→Nat→Prop}(hc:∀b o v,St b o→W.cell? ⟨b,o,none⟩=some v→W'.cell? ⟨b,o,none⟩=some v){x:D}{v:Value}(r:aY W St x v):aY W' St x v:=by
 induction r with
 |bool b=>exact .bool b
 |int k n hk=>exact .int k n hk
 |str s hs=>exact .str s hs
 |agg ds vs hf hl _ ih=>exact .agg ds vs hf hl ih
 |ir sz=>exact .ir sz
 |sl sz L b off cap vs bJ hm aM hf aP _ ih=>exact .sl sz L b off cap vs bJ hm aM hf (fun o ho=>⟨hc _ _ _ (aP o ho).2 (aP o ho).1,(aP o ho).2⟩) ih
 |j6 sz a cap ha=>exact .j6 sz a cap ha
 |fn f=>exact .fn f
 |tp=>exact .tp
 |iface t x v _ ih=>exact .iface t x v ih
 |tq=>exact .tq
 |nN=>exact .nN
theorem aJ.eM{St:Nat→Nat→Prop}{base:Nat}(hc:∀b o v,St b o→W.cell? ⟨b,o,none⟩=some v→W'.cell? ⟨b,o,none⟩=some v){O:Nat→Nat→Nat→Prop}{x:SV}{v:Value}(r:aJ W St base O x v):
  ∀O':Nat→Nat→Nat→Prop,(∀g a c,O g a c→O' g a c∧W'.heap[g]? =W.heap[g]?)→x.n9=true→x.ax=true→aJ W' St base O' x v:=by
 induction r with
 |d O x v hd=>exact fun O' _ _ _=>.d O' x v (hd.eM hc)
 |own O sz L g cap hd bJ ho=>exact fun O' hO _ _=>.own O' sz L g cap (hd.eM hc) bJ (hO _ _ _ ho).1
 |full O sz L a hd=>exact fun O' _ _ _=>.full O' sz L a (hd.eM hc)
 |ref O cs off b o vs ef aP _ ih=>exact fun O' _ _ hr=>by cases hr
 |cG O n sz cs b cap vs ef hn hm aP _ ih=>exact fun O' _ _ hr=>by cases hr
 |aT O x off b o vs hf aP dq=>exact fun O' _ _ _=>.aT O' x off b o vs hf (fun i hi=>⟨hc _ _ _ (aP i hi).2 (aP i hi).1,(aP i hi).2⟩) fun i c hi=>(dq i c hi).eM hc
 |di O f first cap fv cv hf de _ _ iV iW=>
  intro O' _ hn hr
  simp only[SV.n9,SV.ax,Bool.and_eq_true]at hn hr
  exact .di O' f first cap fv cv hf de (fun i x v a b=>iV i x v a b _ (fun _ _ _ h=>h.elim) (wm.1 hn.1 x (List.mem_of_getElem? a)) (qS.1 hr.1 x (List.mem_of_getElem? a))) (fun i x v a b=>iW i x v a b _ (fun _ _ _ h=>h.elim) (wm.1 hn.2 x (List.mem_of_getElem? a)) (qS.1 hr.2 x (List.mem_of_getElem? a)))
 |bt O sz L g cap vs bJ hm aM hf ho aP dq=>
  exact fun O' hO _ _=>.bt O' sz L g cap vs bJ hm aM hf (hO _ _ _ ho).1 (fun o bO=>(World.cell?_of_block (hO _ _ _ ho).2).trans (aP o bO)) fun i x j c hx gF=>(dq i x j c hx gF).eM hc
 |mp O l r es clock hh hs hl dq=>exact fun O' _ hn=>by cases hn
 |undef O v=>exact fun O' _ _ _=>.undef O' v
inductive Plain:Slot→Prop
 |v (x:SV) (h:x.n9=true) (h2:x.ax=true):Plain (.v x)
 |t (l:List SV) (h:SV.pa l=true) (h2:SV.gy l=true):Plain (.t l)
 |p (b off:Nat):Plain (.p b off)
 |a (b n sz:Nat):Plain (.a b n sz)
 |m (b:Nat):Plain (.m b)
 |c (f:Fn) (first cap:List Slot) (h1:∀s∈first,Plain s) (h2:∀s∈cap,Plain s):Plain (.c f first cap)
structure FE(e:Env):Prop where
 s:∀s∈e.ai,Plain s
 b:∀bx∈e.boxes,match bx with| .cells cs=>SV.pa cs=true∧SV.gy cs=true| .one s=>Plain s|_=>True
theorem cg.eM{base:Nat}{g:Gh}(dA:∀b,some b∈g.bx→W'.heap[b]? =W.heap[b]?)(hc:∀b o v,g.St b o→W.cell? ⟨b,o,none⟩=some v→W'.cell? ⟨b,o,none⟩=some v){O:Nat→Nat→Nat→Nat→Prop}{s:Slot}{v:Value}(r:cg base W g O s v):
  ∀O':Nat→Nat→Nat→Nat→Prop,(∀j b a c,O j b a c→O' j b a c∧W'.heap[b]? =W.heap[b]?)→Plain s→cg base W' g O' s v:=by
 induction r with
 |v O x y h=>exact fun O' hO hn=>.v _ x y (by cases hn with|v _ h1 h2=>exact h.eM hc _ (hO 0) h1 h2)
 |p O b off aj h=>exact fun O' _ _=>.p _ b off aj h
 |a O b n sz v hm h=>exact fun O' _ _=>.a _ b n sz v hm (by obtain⟨aj,cap,h1,h2,h3,h4,c,ty,h5,h6⟩:=h;exact⟨aj,cap,h1,h2,h3,h4,c,ty,(dA aj (List.mem_of_getElem? h1)).trans h5,h6⟩)
 |m O b aj h=>exact fun O' _ _=>.m _ b aj h
 |c O f first cap fv cv hf de _ _ iV iW=>
  intro O' _ hn
  cases hn with
  |c _ _ _ h1 h2=>
   exact .c _ f first cap fv cv hf de (fun i x v a b=>iV i x v a b _ (fun _ _ _ _ h=>h.elim) (h1 x (List.mem_of_getElem? a))) (fun i x v a b=>iW i x v a b _ (fun _ _ _ _ h=>h.elim) (h2 x (List.mem_of_getElem? a)))
 |t O xs vs hl dq=>
  intro O' hO hn
  cases hn with
  |t _ h h2=>exact .t _ xs vs hl fun j x v a b=>(dq j x v a b).eM hc _ (hO j) (wm.1 h x (List.mem_of_getElem? a)) (qS.1 h2 x (List.mem_of_getElem? a))
def Dk(W:World)(n:Nat):World:={W with heap:=W.heap.extract 0 n}
theorem Pm{W:World}{n:Nat}(h:n≤W.heap.size):(Dk W n).heap.size =n:=by simp[Dk];omega
theorem Inv.move{w0 L1:World}{ao:S0}{e:Env}{a:Act}{g:Gh}(hI:Inv gl w0 ao e a W g)(hn:FE e)(h0:L1.heap.size=w0.heap.size)(hb:Below w0.heap.size L1 W')(hs:W.heap.size≤W'.heap.size)
  (hc:∀b o v,g.St b o→W.cell? ⟨b,o,none⟩=some v→W'.cell? ⟨b,o,none⟩=some v)
  (dA:∀b,some b∈g.bx→W'.heap[b]? =W.heap[b]?)(qw:∀b p,g.ow b=some p→w0.heap.size≤b→b<W.heap.size→W'.heap[b]? =W.heap[b]?)
  (jJ:∀D o,ao.df D o→W'.heap[D]? =W.heap[D]?):Inv gl L1 ao e a W' g:=by
 have hY:∀p b a' c,eJ w0.heap.size W g p b a' c→eJ w0.heap.size W' g p b a' c∧W'.heap[b]? =W.heap[b]? :=by
  rintro p b a' c ⟨h1,h2,h3,⟨cur,t,h4,h5⟩,h6⟩
  have:=qw b p h1 h2 (fJ h4)
  exact⟨⟨h1,h2,h3,⟨cur,t,this.trans h4,h5⟩,h6⟩,this⟩
 refine⟨by rw[h0];exact hb,hI.size,fun i s hs=>?_,hI.eX,fun b bx aj h1 h2=>?_,hI.nodup,hI.fN,fun b o h=>⟨by rw[h0];exact(hI.cE b o h).1,(hI.cE b o h).2.1,by have:=(hI.cE b o h).2.2;omega⟩,
  fun b h=>⟨by rw[h0];exact(hI.dn b h).1,by have:=(hI.dn b h).2;omega⟩,?_,hI.defers,
  fun D o hD=>(have h:=hI.eN D o hD;⟨h.1,h.2.1,(jJ D o hD).trans h.2.2.1,h.2.2.2⟩),fun b o v hv=>(have h:=hI.cls b o v hv;⟨h.1,hc _ _ _ h.1 h.2⟩),Nat.le_trans hI.jq hs⟩
 ·rw[h0]
  exact(hI.ai i s hs).eM dA hc _ (fun j b a' c h=>hY _ b a' c h) (hn.s s (List.mem_of_getElem? hs))
 ·rw[h0]
  have kH:=hI.boxes b bx aj h1 h2
  have js:=hn.b bx (List.mem_of_getElem? h1)
  have hb:=dA aj (List.mem_of_getElem? h2)
  cases bx with
  |none=>exact kH.elim
  |map l=>
   obtain⟨h0,es,clock,hh,hl,bc⟩:=kH
   exact⟨h0,es,clock,hb.trans hh,hl,fun i x y hx hy=>⟨(bc i x y hx hy).1,(bc i x y hx hy).2.1,(bc i x y hx hy).2.2.eM hc⟩⟩
  |cells cs=>
   obtain⟨h0,c,t,hh,cq,hl,bc⟩:=kH
   exact⟨h0,c,t,hb.trans hh,cq,hl,fun j x y hx hy=>(bc j x y hx hy).eM hc _ (fun b' a' c' h=>hY _ b' a' c' h) (wm.1 js.1 x (List.mem_of_getElem? hx)) (qS.1 js.2 x (List.mem_of_getElem? hx))⟩
  |one s=>
   obtain⟨h0,c,t,hh,cq,hl,bc⟩:=kH
   exact⟨h0,c,t,hb.trans hh,cq,hl,fun y hy=>(bc y hy).eM dA hc _ (fun _ b' a' c' h=>hY _ b' a' c' h) js⟩
 ·intro n x hx
  obtain⟨h0,vs,h1,h2⟩:=hI.j3 n x hx
  exact⟨h0,vs,fun i hi=>⟨hc _ _ _ (h1 i hi).2 (h1 i hi).1,(h1 i hi).2⟩,fun i c iY=>(h2 i c iY).eM hc⟩
theorem Inv.ub{w0:World}{ao yY:S0}{e:Env}{a:Act}{g:Gh}(hI:Inv gl w0 ao e a W g)(h0:∀b o,yY.St b o→g.St b o)(h1:∀b o,g.St b o→yY.St b o∨w0.heap.size≤b)
  (jJ:∀D o,yY.df D o→some D∉g.bx∧g.ow D=none∧W.heap[D]? =some o∧∀x,g.St D x→yY.St D x)(de:∀b o v,yY.cl b o v→g.St b o∧W.cell? ⟨b,o,none⟩=some v)
  (aM:yY.sz≤W.heap.size):Inv gl w0 yY e a W g:=
 ⟨hI.below,hI.size,hI.ai,hI.eX,hI.boxes,hI.nodup,h0,fun b o h=>⟨h1 b o h,(hI.cE b o h).2⟩,hI.dn,hI.j3,hI.defers,jJ,de,aM⟩
theorem aJ.Ke{St bH:Nat→Nat→Prop}(h:∀b o,St b o→bH b o){base:Nat}{O:Nat→Nat→Nat→Prop}{x:SV}{v:Value}(r:aJ W St base O x v){O':Nat→Nat→Nat→Prop}(hO:∀b a c,O b a c→O' b a c):aJ W bH base O' x v:=
 r.mono (fun b o hs=>⟨h b o hs,.refl _ _ _⟩) (fun _ _ _=>rfl) _ fun b a c ho=>⟨hO b a c ho,.refl _ _ _⟩
theorem Inv.abC{w0:World}{ao:S0}{e:Env}{a:Act}{g:Gh}(hI:Inv gl w0 ao e a W g){S:Nat→Nat→Prop}(hS:∀b o,S b o→g.St b o∨(w0.heap.size≤b∧b<W.heap.size∧some b∉g.bx∧g.ow b=none))
  (jJ:∀D o,ao.df D o→∀x,S D x→g.St D x):Inv gl w0 ao e a W {g with St:=fun b o=>g.St b o∨S b o}:=by
 have hY:∀p b a' c,eJ w0.heap.size W g p b a' c→eJ w0.heap.size W {g with St:=fun b o=>g.St b o∨S b o} p b a' c:=by
  rintro p b a' c ⟨h1,h2,h3,h4,h5⟩
  refine⟨h1,h2,h3,h4,fun o ho=>?_⟩
  rintro(h|h)
  ·exact h5 o ho h
  ·rcases hS b o h with h|⟨_,_,_,h⟩
   ·exact h5 o ho h
   ·rw[h1]at h;cases h
 refine⟨hI.below,hI.size,fun i s hs=>?_,hI.eX,fun b bx aj h1 h2=>?_,hI.nodup,fun b o h=>.inl (hI.fN b o h),fun b o h=>?_,hI.dn,?_,hI.defers,
  fun D o hD=>(have h:=hI.eN D o hD;⟨h.1,h.2.1,h.2.2.1,fun x hx=>h.2.2.2 x (hx.elim id (jJ D o hD x))⟩),fun b o v hv=>⟨.inl (hI.cls b o v hv).1,(hI.cls b o v hv).2⟩,hI.jq⟩
 ·exact(hI.ai i s hs).mono (fun b o h=>⟨.inl h,.refl _ _ _⟩) (fun _ _ _=>rfl) (fun _ _ h=>h) (.refl _) fun j b a' c h=>⟨hY _ b a' c h,.refl _ _ _⟩
 ·have kH:=hI.boxes b bx aj h1 h2
  cases bx with
  |none=>exact kH.elim
  |map l=>
   obtain⟨h0,es,clock,hh,hl,bc⟩:=kH
   exact⟨h0,es,clock,hh,hl,fun i x y hx hy=>⟨(bc i x y hx hy).1,(bc i x y hx hy).2.1,(bc i x y hx hy).2.2.mono fun b o h=>⟨.inl h,rfl⟩⟩⟩
  |cells cs=>
   obtain⟨h0,c,t,hh,cq,hl,bc⟩:=kH
   exact⟨h0,c,t,hh,cq,hl,fun j x y hx hy=>(bc j x y hx hy).Ke (fun _ _ h=>.inl h) (fun b' a' c' h=>hY _ b' a' c' h)⟩
  |one s=>
   obtain⟨h0,c,t,hh,cq,hl,bc⟩:=kH
   exact⟨h0,c,t,hh,cq,hl,fun y hy=>(bc y hy).mono (fun b o h=>⟨.inl h,.refl _ _ _⟩) (fun _ _ _=>rfl) (fun _ _ h=>h) (.refl _) fun _ b' a' c' h=>⟨hY _ b' a' c' h,.refl _ _ _⟩⟩
 ·rcases h with h|h
  ·exact hI.cE b o h
  ·rcases hS b o h with h|⟨h1,h2,h3,_⟩
   ·exact hI.cE b o h
   ·exact⟨.inr h1,h3,h2⟩
 ·intro n x hx
  obtain⟨h0,vs,h1,h2⟩:=hI.j3 n x hx
  exact⟨h0,vs,fun i hi=>⟨(h1 i hi).1,.inl (h1 i hi).2⟩,fun i c iY=>(h2 i c iY).mono fun b o h=>⟨.inl h,rfl⟩⟩
end
end Go.Proofs.Ytimbllcalipehaa.Ab
