/-
  THE ABSTRACT WALK: regions.
-/
import Derived.Test.YtimbllcalipehaaTb
import Derived.ChangeStays
import Derived.ChangeSame
import Derived.OpenShut
import Derived.Carry
import Derived.Lib.LaidTab
import Derived.ControlIn
import Derived.OrdersIn
import Derived.TacticsIn
import Derived.RangeFuncCalls
import Derived.RangeFuncNested
import Derived.RangeFuncRecord
set_option linter.unusedVariables false
set_option linter.unusedSimpArgs false
namespace Go.Proofs.Ytimbllcalipehaa.Ab
open Go Go.RowKit
theorem Hr:∀(l:List Oper)(acc:List Nat)(k:Nat),k<acc.length→(reach acc l)[k]? =acc[k]?
 |[],acc,k,_=>rfl
 |o::l,acc,k,h=>by
  rw[reach,Hr l _ k (by simp;omega),List.getElem?_append_left h]
theorem Oc(acc:List Nat)(i:Nat):∀(es:List Edge)(s:Nat),(es.foldl (fun s e=>bif Region.binds .any e then s|||2^e.on|||acc.getD e.on 0 else s) s).testBit i=true→
  s.testBit i=true∨∃e∈es,Region.binds .any e=true∧(e.on=i∨(acc.getD e.on 0).testBit i=true)
 |[],s,h=>.inl h
 |e::es,s,h=>by
  rw[List.foldl_cons]at h
  rcases Oc acc i es _ h with h|⟨e',he,hb,h⟩
  ·cases hb:Region.binds .any e with
   |false=>rw[hb]at h;exact .inl h
   |true=>
    rw[hb]at h
    simp only[cond_true,Nat.testBit_or,Bool.or_eq_true]at h
    rcases h with(h|h)|h
    ·exact .inl h
    ·refine .inr ⟨e,by simp,hb,.inl ?_⟩
     simpa[Nat.testBit_two_pow]using h
    ·exact .inr ⟨e,by simp,hb,.inr h⟩
  ·exact .inr ⟨e',by simp[he],hb,h⟩
theorem Nw:∀(l:List Oper)(acc:List Nat)(k i:Nat),acc.length≤k→((reach acc l).getD k 0).testBit i=true→
  ∃o,l[k-acc.length]? =some o∧∃e∈o.after.toList,Region.binds .any e=true∧(e.on=i∨(e.on<k∧((reach acc l).getD e.on 0).testBit i=true))
 |[],acc,k,i,hk,h=>by
  rw[reach,List.getD_eq_getElem?_getD,List.getElem?_eq_none hk]at h
  simp at h
 |o::l,acc,k,i,hk,h=>by
  rw[reach]at h ⊢
  rcases Nat.eq_or_lt_of_le hk with bI|bI
  ·subst bI
   refine⟨o,by simp,?_⟩
   rw[List.getD_eq_getElem?_getD,Hr l _ acc.length (by simp),List.getElem?_append_right (Nat.le_refl _)]at h
   simp only[Nat.sub_self,List.getElem?_cons_zero,Option.getD_some]at h
   rcases Oc acc i _ 0 h with h|⟨e,he,hb,h⟩
   ·simp at h
   ·refine⟨e,he,hb,h.imp id fun h=>?_⟩
    have aI:e.on<acc.length:=by
     rcases Nat.lt_or_ge e.on acc.length with h'|h'
     ·exact h'
     ·rw[List.getD_eq_getElem?_getD,List.getElem?_eq_none h']at h;simp at h
    refine⟨aI,?_⟩
    rw[List.getD_eq_getElem?_getD,Hr l _ e.on (by simp;omega),List.getElem?_append_left aI,←List.getD_eq_getElem?_getD]
    exact h
  ·obtain⟨p,hp,hr⟩:=Nw l _ k i (by simp;omega) h
   refine⟨p,?_,hr⟩
   rw[←hp]
   have:k-acc.length=(k-(acc++[o.after.toList.foldl (fun s e=>bif Region.binds .any e then s|||2^e.on|||acc.getD e.on 0 else s) 0]).length)+1:=by simp;omega
   rw[this,List.getElem?_cons_succ]
section
variable{P:Program}{gl:Nat→Option D}{ops:Array Oper}{aD:Nat→Bool}{base:Nat}
def qU(ops:Array Oper)(br:Array Bool):Prop:=∀(j:Nat)o,ops[j]? =some o→br.getD j false=true→∀e∈o.after,Region.binds .any e=true→br.getD e.on false=true
theorem qU.waits{br:Array Bool}(hc:qU ops br){i:Nat}:∀(j:Nat)o,ops[j]? =some o→(∀e∈o.after,Region.binds .any e=true→br.getD e.on false=true)→
  ((reach [] ops.toList).getD j 0).testBit i=true→br.getD i false=true:=by
 intro j
 induction j using Nat.strongRecOn with
 |_ j ih=>
  intro o ho e6 h
  obtain⟨o',bH,e,he,hb,h⟩:=Nw ops.toList [] j i (Nat.zero_le _) h
  simp only[List.length_nil,Nat.sub_zero,Array.getElem?_toList]at bH
  rw[ho]at bH
  cases bH
  have hl:=e6 e (by simpa using he) hb
  rcases h with h|⟨aI,h⟩
  ·rw[←h];exact hl
  ·have hex:∃p,ops[e.on]? =some p:=by
    have:=(Array.getElem?_eq_some_iff.1 ho).1
    exact⟨ops[e.on],by simp[show e.on<ops.size by omega]⟩
   obtain⟨p,hp⟩:=hex
   exact ih e.on aI p hp (hc e.on p hp hl) h
theorem qU.set{br:Array Bool}(hc:qU ops br){j:Nat}(hj:j∈Region.ready .any ops br):qU ops (br.setIfInBounds j true):=by
 obtain⟨_,o,ho,e6⟩:=mem_ready.1 hj
 intro k p hk hl e he hb
 by_cases CH:j=k
 ·subst CH
  rw[ho]at hk;cases hk
  exact getD_set_true (e6 e he hb)
 ·rw[getD_set_ne false CH]at hl
  exact getD_set_true (hc k p hk hl e he hb)
def vJ(P:Program)(gl:Nat→Option D)(ops:Array Oper)(aD:Nat→Bool)(base:Nat)(Q:Env→Prop):Nat→Array Bool→Env→Prop
 |0,br,e=>Region.ready .any ops br=[]∧Q e
 |fuel+1,br,e=>
  (Region.ready .any ops br=[]→Q e)∧
  ∀i∈Region.ready .any ops br,∃o,ops[i]? =some o∧lD P gl (aB P gl) ops.toList (base+fk ops.toList i) (aD i) o e (vJ P gl ops aD base Q fuel (br.setIfInBounds i true))
theorem DH{w0:World}{an:S0}{e:Env}{a:Act}{w:World}{g:Gh}(hI:Inv gl w0 an e a w g){o:Oper}{c:Bool}(h:pR ops.toList o e=some c):Region.wanted o (yielded ops a.tmps)=c:=by
 unfold pR at h
 unfold Region.wanted
 split at h
 ·rename_i hg;rw[hg];exact(Option.some.inj h)
 ·rename_i j want hg
  rw[hg]
  simp only
  unfold yielded
  split at h
  ·rename_i t ht
   have wq:(ops[j]?).bind (·.dst)=some t:=by
    rw[Array.getElem?_toList]at ht
    cases hj:ops[j]? with
    |none=>rw[hj]at ht;cases ht
    |some q=>rw[hj]at ht;exact ht
   rw[wq]
   have hs:=iI hI t
   have aI:∀{s},e.ai.getD t (.v .undef)=s→s≠.v .undef →a.tmps[t]? =some (a.tmps.getD t undef):=by
    intro s h1 h2
    have:t<e.ai.length:=by
     rcases Nat.lt_or_ge t e.ai.length with h|h
     ·exact h
     ·rw[List.getD_eq_getElem?_getD,List.getElem?_eq_none h]at h1;exact absurd h1.symm h2
    rw[←hI.size]at this
    simp[this]
   split at h
   ·rename_i c' hx
    rw[hx]at hs
    have hv:=hs.iK.data.qI
    have h1:=aI hx (by simp)
    simp only[Act.eval]at hv
    rw[hv]at h1
    simp only[Option.bind_some,h1]
    cases h
    cases c'<;>cases want<;>rfl
   ·rename_i vs hx
    rw[hx]at hs
    obtain⟨tv,hv,_⟩:=hs.Ja
    have h1:=aI hx (by simp)
    simp only[Act.eval]at hv
    rw[hv]at h1
    simp only[Option.bind_some,h1]
    cases h
    rfl
   ·cases h
  ·cases h
theorem OM{w0:World}{an:S0}{e:Env}{a:Act}{w:World}{g:Gh}(hI:Inv gl w0 an e a w g)(dst:Option Nat):Inv gl w0 an ⟨b8 e.ai dst (.t []),e.boxes⟩ (a.put dst undef) w g:=
 hI.value (.t _ [] #[] rfl (fun j x v h=>by simp at h))
theorem HP{w0:World}{an:S0}{e:Env}{a:Act}{w:World}{g:Gh}(hI:Inv gl w0 an e a w g){i id:Nat}{l:Bool}{o:Oper}(ho:ops[i]? =some o){k:Env→Prop}
  (h:lD P gl (aB P gl) ops.toList id l o e k){next:Act→World→Prop}{Q:Exit→Act→World→Prop}(hn:∀e' a' w' g',Inv gl w0 an e' a' w' g'→k e'→next a' w'):wpOp P ops Q i next a w:=by
 have h':=y7.1 h
 unfold wpOp
 simp only[ho]
 split at h'
 ·rename_i hg
  rw[if_pos (DH hI hg)]
  exact .inl (N6 hI h' next Q fun e' v w' g' hinv hk=>hn e' _ w' g' hinv hk)
 ·rename_i hg
  rw[if_neg (by rw[DH hI hg];simp)]
  exact hn _ _ _ _ (OM hI o.dst) h'
 ·exact h'.elim
theorem Hs{e e':Env}(hG:Good gl e){i id:Nat}{l:Bool}{o:Oper}(ho:ops[i]? =some o)(h:lD P gl (aB P gl) ops.toList id l o e (fun x=>x=e')):Good gl e':=by
 obtain⟨w0,an,a,w,g,hI⟩:=hG
 have:=HP (Q:=fun _ _ _=>False) hI ho h (next:=fun a' w'=>∃g',Inv gl w0 an e' a' w' g') (fun jS a' w' g' hinv hk=>⟨g',hk▸hinv⟩)
 have aaC:∀{next:Act→World→Prop},o.wp P a w next (fun _ _ _=>False)→∃a' w',next a' w':=by
  intro next h
  unfold Oper.wp at h
  generalize (execOp a.eval o).run P w=r at h
  cases r with
  |ok n w'=>
   cases n<;>simp only[Oper.upon]at h
   case value v=>exact⟨_,_,h⟩
   case skip=>exact⟨_,_,h⟩
   case defer d=>exact⟨_,_,h⟩
   case enter f args=>
    obtain⟨e,Fm,fr,hR,_⟩:=h []
    cases e with
    |returned v=>exact⟨_,_,hR⟩
    |panicked c=>exact hR.elim
    |outgrown=>obtain⟨_,_,hf⟩:=hR;exact hf.elim
   case row row args=>
    obtain⟨v,Fm,hR,_⟩:=h default []
    exact⟨_,_,hR⟩
  |halt x w'=>cases x<;>simp only[Oper.upon]at h
 unfold wpOp at this
 simp only[ho]at this
 have z5:∃a' w',∃g',Inv gl w0 an e' a' w' g':=by
  split at this
  ·rcases this with h|⟨_,_,_,hf⟩
   ·exact aaC h
   ·exact hf.elim
  ·exact⟨_,_,this⟩
 obtain⟨a',w',g',hinv⟩:=z5
 exact⟨w0,an,a',w',g',hinv⟩
def Js(ops:Array Oper)(aD:Nat→Bool)(base:Nat)(K:Nat→Prop)(E:Option (List Nat))(br:Array Bool)(e:Env):Prop:=
 ∀A,E=some A→A=iZ ops.toList∧xK ops aD∧Jv ops base K br e
theorem Js.step{C:bj}{K:Nat→Prop}{E:Option (List Nat)}{br:Array Bool}{e e':Env}(h:Js ops aD base K E br e){i:Nat}{o:Oper}(ho:ops[i]? =some o)
  (hs:lD P gl C ops.toList (base+fk ops.toList i) (aD i) o e (fun x=>x=e')):Js ops aD base K E (br.setIfInBounds i true) e':=fun A hA=>by
 obtain⟨h1,h2,h3⟩:=h A hA
 exact⟨h1,h2,h3.step h2 ho hs⟩
theorem Py{br:Array Bool}(hE:xK ops aD)(hc:qU ops br){i:Nat}{o:Oper}(ho:ops[i]? =some o)(hr:i∈Region.ready .any ops br):Made ops br o:=by
 intro a ha k ok hk Aw
 obtain⟨_,o',bH,e6⟩:=mem_ready.1 hr
 rw[ho]at bH;cases bH
 exact hc.waits i o ho e6 (hE.waits i o a ho ha k ok hk Aw)
theorem VW{K:Nat→Prop}{E:Option (List Nat)}{br:Array Bool}{e:Env}(hJ:Js ops aD base K E br e)(hc:qU ops br){i j:Nat}{x y:Oper}(hx:ops[i]? =some x)(hy:ops[j]? =some y)
  (yh:i∈Region.ready .any ops br)(KM:j∈Region.ready .any ops br)(h:zC E ops (aD i) (aD j) x y=true):
  EI ops (aD i) (aD j) x y∧(JJ (aD i) (aD j) x y∨(xt gl (aD i) x y e∧xt gl (aD j) y x e)):=by
 simp only[zC,Bool.or_eq_true]at h
 rcases h with h|h
 ·obtain⟨h1,h2⟩:=WD h
  exact⟨h1,.inl h2⟩
 ·cases hE:E with
  |none=>rw[hE]at h;cases h
  |some A=>
   rw[hE]at h
   obtain⟨rfl,h2,h3⟩:=hJ A hE
   obtain⟨h4,h5⟩:=VV h
   exact⟨h4,.inr (XL h2 h3 hx hy h5 (Py h2 hc hx yh) (Py h2 hc hy KM))⟩
theorem Od{K:Nat→Prop}{E:Option (List Nat)}{Q:Env→Prop}{i:Nat}{oi:Oper}(hi:ops[i]? =some oi):∀(fuel:Nat)(br:Array Bool)(e:Env)(src:Option (Nat×Slot))(s:Slot)(U:Option (Nat×af)),
  (∀(j:Nat)oj,ops[j]? =some oj→j≠i→br.getD j true=false→((reach [] ops.toList).getD j 0).testBit i=false→zC E ops (aD i) (aD j) oi oj=true)→
  qU ops br→i∈Region.ready .any ops br→Good gl e→Js ops aD base K E br e→Out P gl (aB P gl) ops (base+fk ops.toList i) (aD i) oi e src s U→
  vJ P gl ops aD base Q fuel (br.setIfInBounds i true) (fin oi src s U e)→vJ P gl ops aD base Q (fuel+1) br e:=by
 intro fuel
 induction fuel with
 |zero=>
  intro br e src s U _ _ hr _ _ hO H
  refine⟨fun h=>(by rw[h]at hr;cases hr),fun j hj=>?_⟩
  by_cases lP:j=i
  ·subst lP;exact⟨oi,hi,hO.run H⟩
  ·have:=ready_mono hj lP
   rw[H.1]at this
   cases this
 |succ fuel ih=>
  intro br e src s U Q5 hc hr hG uw hO H
  refine⟨fun h=>(by rw[h]at hr;cases hr),fun j hj=>?_⟩
  by_cases lP:j=i
  ·subst lP;exact⟨oi,hi,hO.run H⟩
  ·obtain⟨oj,hP,h1⟩:=H.2 j (ready_mono hj lP)
   obtain⟨Rq,oj',Rr,e6⟩:=mem_ready.1 hj
   rw[hP]at Rr
   cases Rr
   have CI:((reach [] ops.toList).getD j 0).testBit i=false:=by
    cases hb:((reach [] ops.toList).getD j 0).testBit i with
    |false=>rfl
    |true=>
     have h2:=hc.waits j oj hP e6 hb
     have h0:=(mem_ready.1 hr).1
     rcases Nat.lt_or_ge i br.size with h'|h'
     ·simp[h']at h0 h2;rw[h0]at h2;cases h2
     ·simp[Array.getElem?_eq_none h']at h2
   obtain⟨aef,dw⟩:=VW uw hc hi hP hr hj (Q5 j oj hP lP Rq CI)
   obtain⟨af3,s',U',hk,hO',_⟩:=wS h1
   obtain⟨d1,d2,d3⟩:=Y9 hG aef dw hO hO'
   refine⟨oj,hP,d1.run ?_⟩
   rw[Array.setIfInBounds_comm _ _ (Ne.symm lP)]at hk
   refine ih (br.setIfInBounds j true) _ src s U (fun k ok hk rS nZ eg=>?_) (hc.set hj) (ready_mono hr (Ne.symm lP)) (Hs hG hP (d1.run rfl)) (uw.step hP (d1.run rfl)) d2 (by rw[←d3];exact hk)
   refine Q5 k ok hk rS ?_ eg
   by_cases CH:j=k
   ·subst CH;exact Rq
   ·rw[getD_set_ne true CH]at nZ;exact nZ
theorem M8{E:Option (List Nat)}{R:List Nat}{i:Nat}{o:Oper}:∀{l:List Oper}{j:Nat},El E ops aD R i o l j=true→∀(n:Nat)p,l[n]? =some p→(R.getD (j+n) 0).testBit i=true∨zC E ops (aD i) (aD (j+n)) o p=true
 |[],j,_,n,p,h=>by simp at h
 |q::l,j,h,n,p,hp=>by
  simp only[El,Bool.and_eq_true,Bool.or_eq_true]at h
  cases n with
  |zero=>simp at hp;subst hp;exact h.1
  |succ n=>
   have:=M8 h.2 n p (by simpa using hp)
   rw[show j+(n+1)=j+1+n by omega]
   exact this
theorem zi{all:List Oper}{C:bj}(o:Oper)(rest:List Oper)(i:Nat)(e:Env)(k:Env→Prop):
 jN P gl C aD all base (o::rest) i e k=lD P gl C all (base+fk all i) (aD i) o e (fun jS=>jN P gl C aD all base rest (i+1) jS k):=rfl
theorem Ih{KK:Nat→Prop}{E:Option (List Nat)}{K:Env→Prop}:∀(l:List Oper)(i:Nat)(br:Array Bool)(e:Env),(∀j,l[j]? =ops[i+j]?)→(∀j,j<i→br.getD j false=true)→(∀j,i≤j→j<ops.size→br.getD j true=false)→br.size=ops.size→
  qU ops br→Good gl e→Js ops aD base KK E br e→xe E ops aD (reach [] ops.toList) l i=true→jN P gl (aB P gl) aD ops.toList base l i e K→vJ P gl ops aD base K l.length br e
 |[],i,br,e,hl,h1,h2,aH,_,_,_,_,h=>by
  refine⟨?_,h⟩
  rw[List.eq_nil_iff_forall_not_mem]
  intro j hj
  obtain⟨nZ,o,ho,_⟩:=mem_ready.1 hj
  have aI:j<ops.size:=(Array.getElem?_eq_some_iff.1 ho).1
  have hle:ops.size≤i:=by
   have:=hl 0
   simp only[List.getElem?_nil,Nat.add_zero]at this
   exact Array.getElem?_eq_none_iff.1 this.symm
  have:=h1 j (by omega)
  simp[aH,aI]at this nZ
  rw[this]at nZ;cases nZ
 |o::l,i,br,e,hl,h1,h2,aH,hc,hG,uw,hB,h=>by
  have h0:ops[i]? =some o:=by simpa using(hl 0).symm
  have aI:i<ops.size:=(Array.getElem?_eq_some_iff.1 h0).1
  simp only[xe,Bool.and_eq_true]at hB
  obtain⟨⟨hr,hp⟩,hB'⟩:=hB
  have Qp:i∈Region.ready .any ops br:=by
   refine mem_ready.2 ⟨h2 i (Nat.le_refl _) aI,o,h0,fun e he hb=>?_⟩
   have:=List.all_eq_true.1 hr e (by simpa using he)
   rw[hb]at this
   simp only[Bool.not_true,Bool.false_or]at this
   exact h1 e.on (Nat.lt_of_succ_le (Nat.le_of_ble_eq_true this))
  rw[zi]at h
  obtain⟨src,s,U,hk,hO,_⟩:=wS h
  refine Od h0 l.length br e src s U (fun j oj hP lP nZ eg=>?_) hc Qp hG uw hO ?_
  ·have jC:j<ops.size:=(Array.getElem?_eq_some_iff.1 hP).1
   have fq:i<j:=by
    rcases Nat.lt_or_ge i j with h|h
    ·exact h
    ·exfalso
     have:=h1 j (by omega)
     simp[aH,jC]at this nZ
     rw[this]at nZ;cases nZ
   have yf:l[j-(i+1)]? =some oj:=by
    have:=hl (j-i)
    rw[show i+(j-i)=j by omega,hP]at this
    rw[show j-i=(j-(i+1))+1 by omega]at this
    simpa using this
   have:=M8 hp (j-(i+1)) oj yf
   rw[show i+1+(j-(i+1))=j by omega,eg]at this
   simpa using this
  ·refine Ih l (i+1) _ _ (fun j=>?_) (fun j hj=>?_) (fun j hj hjs=>?_) (by simpa using aH) (hc.set Qp) (Hs hG h0 (hO.run rfl)) (uw.step h0 (hO.run rfl)) hB' hk
   ·have:=hl (j+1)
    simpa[Nat.add_assoc,Nat.add_comm 1 j]using this
   ·by_cases fq:i=j
    ·subst fq
     simp[aH,aI]
    ·exact getD_set_true (h1 j (by omega))
   ·rw[getD_set_ne true (by omega)]
    exact h2 j (by omega) hjs
theorem ID{w0:World}{an:S0}{K:Env→Prop}{Q:Exit→Act→World→Prop}(hQ:∀e a w g,Inv gl w0 an e a w g→K e→Q .normal a w):∀(fuel:Nat)(br:Array Bool)(e:Env)(a:Act)(w:World)(g:Gh),
  Inv gl w0 an e a w g→vJ P gl ops aD base K fuel br e→wpAny P .any ops Q fuel br a w
 |0,_,e,a,w,g,hI,h=>⟨h.1,hQ e a w g hI h.2⟩
 |fuel+1,_,e,a,w,g,hI,h=>⟨fun h0=>hQ e a w g hI (h.1 h0),fun i hi=>by
   obtain⟨o,ho,hs⟩:=h.2 i hi
   exact HP hI ho hs fun e' a' w' g' hinv hk=>ID hQ fuel _ e' a' w' g' hinv hk⟩
theorem Pz{w0:World}{an:S0}{K:Env→Prop}{Q:Exit→Act→World→Prop}(hQ:∀e a w g,Inv gl w0 an e a w g→K e→Q .normal a w):∀(l:List Oper)(i:Nat)(e:Env)(a:Act)(w:World)(g:Gh),
  (∀j,l[j]? =ops[i+j]?)→Inv gl w0 an e a w g→jN P gl (aB P gl) aD ops.toList base l i e K→wpOps P ops Q (List.range' i l.length) a w
 |[],_,e,a,w,g,_,hI,h=>hQ e a w g hI h
 |o::l,i,e,a,w,g,hl,hI,h=>by
  have h0:ops[i]? =some o:=by simpa using(hl 0).symm
  rw[List.length_cons,List.range'_succ,wpOps_cons]
  rw[zi]at h
  exact HP hI h0 h fun e' a' w' g' hinv hk=>Pz hQ l (i+1) e' a' w' g' (fun j=>by have:=hl (j+1);simpa[Nat.add_assoc,Nat.add_comm 1 j]using this) hinv hk
theorem Nx{m:Nat}:∀(l:List Oper)(i j:Nat),j∈mB m l i↔i≤j∧m.testBit j=false∧∃o,l[j-i]? =some o∧∀e∈o.after,Region.binds .any e=true→m.testBit e.on=true
 |[],i,j=>by simp[mB]
 |o::l,i,j=>by
  have ih:=Nx (m:=m) l (i+1) j
  have aO:i+1≤j→(o::l)[j-i]? =l[j-(i+1)]? :=fun h=>by rw[show j-i=(j-(i+1))+1 by omega,List.getElem?_cons_succ]
  rw[mB]
  cases hc:(!Nat.testBit m i&&o.after.toList.all (fun e=> !Region.binds .any e||Nat.testBit m e.on))with
  |true=>
   simp only[Bool.and_eq_true,Bool.not_eq_true',List.all_eq_true,Bool.or_eq_true]at hc
   simp only[cond_true,List.mem_cons,ih]
   constructor
   ·rintro(rfl|⟨h1,h2,p,h3,h4⟩)
    ·refine⟨Nat.le_refl _,hc.1,o,by simp,fun e he hb=>?_⟩
     rcases hc.2 e (by simpa using he)with h|h
     ·rw[hb]at h;cases h
     ·exact h
    ·exact⟨by omega,h2,p,(aO h1).trans h3,h4⟩
   ·rintro⟨h1,h2,p,h3,h4⟩
    rcases Nat.eq_or_lt_of_le h1 with h|h
    ·exact .inl h.symm
    ·exact .inr ⟨h,h2,p,(aO h).symm.trans h3,h4⟩
  |false=>
   simp only[cond_false,ih]
   constructor
   ·rintro⟨h1,h2,p,h3,h4⟩
    exact⟨by omega,h2,p,(aO h1).trans h3,h4⟩
   ·rintro⟨h1,h2,p,h3,h4⟩
    rcases Nat.eq_or_lt_of_le h1 with h|h
    ·subst h
     exfalso
     simp only[Nat.sub_self,List.getElem?_cons_zero,Option.some.injEq]at h3
     subst h3
     have:(!Nat.testBit m i&&o.after.toList.all (fun e=> !Region.binds .any e||Nat.testBit m e.on))=true:=by
      simp only[Bool.and_eq_true,Bool.not_eq_true',List.all_eq_true,Bool.or_eq_true]
      refine⟨h2,fun e he=>?_⟩
      cases hb:Region.binds .any e with
      |false=>exact .inl rfl
      |true=>exact .inr (h4 e (by simpa using he) hb)
     rw[this]at hc;cases hc
    ·exact⟨h,h2,p,(aO h).symm.trans h3,h4⟩
theorem A7{m:Nat}{br:Array Bool}(hm:∀j,m.testBit j=br.getD j false)(hs:br.size=ops.size){j:Nat}:j∈mB m ops.toList 0↔j∈Region.ready .any ops br:=by
 rw[Nx,mem_ready]
 simp only[Nat.zero_le,true_and,Nat.sub_zero,Array.getElem?_toList]
 constructor
 ·rintro⟨h1,o,h2,h3⟩
  refine⟨?_,o,h2,fun e he hb=>(hm e.on).symm.trans (h3 e he hb)⟩
  have hj:j<br.size:=by rw[hs];exact(Array.getElem?_eq_some_iff.1 h2).1
  rw[hm]at h1
  simp only[Array.getD_eq_getD_getElem?,Array.getElem?_eq_getElem hj,Option.getD_some]at h1 ⊢
  exact h1
 ·rintro⟨h1,o,h2,h3⟩
  refine⟨?_,o,h2,fun e he hb=>(hm e.on).trans (h3 e he hb)⟩
  have hj:j<br.size:=by rw[hs];exact(Array.getElem?_eq_some_iff.1 h2).1
  rw[hm]
  simp only[Array.getD_eq_getD_getElem?,Array.getElem?_eq_getElem hj,Option.getD_some]at h1 ⊢
  exact h1
theorem Ny{R:List Nat}{m i:Nat}{o:Oper}:∀{l:List Oper}{j:Nat},EF ops aD R m i o l j=true→∀(n:Nat)p,l[n]? =some p→
  i=j+n∨m.testBit (j+n)=true∨(R.getD (j+n) 0).testBit i=true∨indep ops (aD i) (aD (j+n)) o p=true
 |[],j,_,n,p,h=>by simp at h
 |q::l,j,h,n,p,hp=>by
  simp only[EF,Bool.and_eq_true,Bool.or_eq_true]at h
  cases n with
  |zero=>
   simp at hp;subst hp
   rcases h.1 with((h|h)|h)|h
   ·exact .inl (Nat.eq_of_beq_eq_true h)
   ·exact .inr (.inl h)
   ·exact .inr (.inr (.inl h))
   ·exact .inr (.inr (.inr h))
  |succ n=>
   have:=Ny h.2 n p (by simpa using hp)
   rw[show j+(n+1)=j+1+n by omega]
   exact this
theorem Mz{R:List Nat}{m i:Nat}:∀{l:List Nat},firstFree ops aD R m l=some i→i∈l∧Em ops aD R m i=true
 |[],h=>by simp[firstFree]at h
 |k::l,h=>by
  rw[firstFree]at h
  cases hk:Em ops aD R m k with
  |true=>rw[hk]at h;cases h;exact⟨by simp,hk⟩
  |false=>rw[hk]at h;have:=Mz h;exact⟨by simp[this.1],this.2⟩
theorem ON{f:Nat→Prop}:∀{l:List Nat},EW f l→∀i∈l,f i
 |[],_,i,h=>by cases h
 |[j],hf,i,h=>by
  simp only[List.mem_cons,List.not_mem_nil,or_false]at h
  subst h;exact hf
 |j::k::l,hf,i,h=>by
  have hf:f j∧EW f (k::l):=hf
  rcases List.mem_cons.1 h with h|h
  ·subst h;exact hf.1
  ·exact ON hf.2 i h
theorem Uk{m i j:Nat}:(m|||2^i).testBit j=(m.testBit j||decide (i=j)):=by
 rw[Nat.testBit_or,Nat.testBit_two_pow]
theorem Hb{K:Env→Prop}:∀(n m:Nat)(br:Array Bool)(e:Env),(∀j,m.testBit j=br.getD j false)→br.size=ops.size→qU ops br→Good gl e→
  xE P gl (aB P gl) ops aD (reach [] ops.toList) base K n m e→vJ P gl ops aD base K n br e
 |0,m,br,e,hm,hs,hc,hG,h=>by
  rw[xE]at h
  cases hr:(mB m ops.toList 0).isEmpty with
  |false=>rw[hr]at h;exact h.elim
  |true=>
   rw[hr]at h
   refine⟨?_,h⟩
   rw[List.eq_nil_iff_forall_not_mem]
   intro j hj
   have:=(A7 hm hs).2 hj
   rw[List.isEmpty_iff.1 hr]at this
   cases this
 |n+1,m,br,e,hm,hs,hc,hG,h=>by
  rw[xE]at h
  cases hr:(mB m ops.toList 0).isEmpty with
  |true=>
   rw[hr]at h
   refine⟨fun _=>h,fun i hi=>?_⟩
   have:=(A7 hm hs).2 hi
   rw[List.isEmpty_iff.1 hr]at this
   cases this
  |false=>
   rw[hr,cond_false]at h
   have kD:∀{i:Nat},i∈Region.ready .any ops br→∀j,(m|||2^i).testBit j=(br.setIfInBounds i true).getD j false:=by
    intro i hi j
    rw[Uk,hm]
    have lO:i<br.size:=by
     obtain⟨_,o,ho,_⟩:=mem_ready.1 hi
     rw[hs];exact(Array.getElem?_eq_some_iff.1 ho).1
    by_cases fq:i=j
    ·subst fq;simp[lO]
    ·rw[getD_set_ne false fq];simp[fq]
   have step:∀{i:Nat}{o:Oper},i∈Region.ready .any ops br→ops[i]? =some o→
     lD P gl (aB P gl) ops.toList (base+fk ops.toList i) (aD i) o e (fun e'=>xE P gl (aB P gl) ops aD (reach [] ops.toList) base K n (m|||2^i) e')→
     ∃src s U,Out P gl (aB P gl) ops (base+fk ops.toList i) (aD i) o e src s U∧vJ P gl ops aD base K n (br.setIfInBounds i true) (fin o src s U e):=by
    intro i o hi ho h1
    obtain⟨src,s,U,hk,hO,_⟩:=wS h1
    exact⟨src,s,U,hO,Hb n _ _ _ (kD hi) (by simpa using hs) (hc.set hi) (Hs hG ho (hO.run rfl)) hk⟩
   have e6:=ON h
   unfold QY at e6
   cases hf:firstFree ops aD (reach [] ops.toList) m (mB m ops.toList 0)with
   |some i=>
    rw[hf]at e6
    obtain⟨him,ux⟩:=Mz hf
    have hi:=(A7 hm hs).1 him
    obtain⟨nZ,o,ho,_⟩:=mem_ready.1 hi
    have h1:=e6 i (by simp)
    simp only[Array.getElem?_toList,ho]at h1
    obtain⟨src,s,U,hO,hA⟩:=step hi ho h1
    unfold Em at ux
    simp only[Array.getElem?_toList,ho]at ux
    refine Od (E:=none) (K:=fun _=>False) ho n br e src s U (fun j oj hP lP JK eg=>?_) hc hi hG (fun A hA=>by cases hA) hO hA
    have:=Ny ux j oj (by rw[Array.getElem?_toList];exact hP)
    rw[Nat.zero_add]at this
    rcases this with h|h|h|h
    ·exact absurd h.symm lP
    ·exfalso
     have jC:j<br.size:=by rw[hs];exact(Array.getElem?_eq_some_iff.1 hP).1
     rw[hm]at h
     simp only[Array.getD_eq_getD_getElem?,Array.getElem?_eq_getElem jC,Option.getD_some]at h JK
     rw[h]at JK;cases JK
    ·rw[eg]at h;cases h
    ·simp[zC,h]
   |none=>
    rw[hf]at e6
    refine⟨fun h0=>?_,fun i hi=>?_⟩
    ·exfalso
     cases hl:mB m ops.toList 0 with
     |nil=>rw[hl]at hr;cases hr
     |cons i l=>
      have:=(A7 hm hs (j:=i)).1 (by rw[hl];simp)
      rw[h0]at this;cases this
    ·have h1:=e6 i ((A7 hm hs).2 hi)
     obtain⟨_,o,ho,_⟩:=mem_ready.1 hi
     simp only[Array.getElem?_toList,ho]at h1
     obtain⟨src,s,U,hO,hA⟩:=step hi ho h1
     exact⟨o,ho,hO.run hA⟩
theorem Hc{all:List Oper}{K:Env→Prop}:∀(l:List Oper)(i:Nat)(e:Env),jN P gl (aB P gl) aD all base l i e K→∃e',K e'
 |[],_,e,h=>⟨e,h⟩
 |o::l,i,e,h=>by
  rw[zi]at h
  have e6:all=all.toArray.toList:=by simp
  rw[e6]at h
  obtain⟨src,s,U,hk,hO,_⟩:=wS h
  rw[←e6]at hk
  exact Hc l (i+1) _ hk
theorem Inv.DU{w0:World}{an:S0}{e:Env}{a:Act}{w:World}{g:Gh}(hI:Inv gl w0 an e a w g)(n:Nat):
  Inv gl w0 an ⟨e.ai,e.boxes++List.replicate n .none⟩ a w {g with bx:=g.bx++List.replicate n none}:=by
 have dw:∀b,some b∈g.bx++List.replicate n (none:Option Nat)→some b∈g.bx:=fun b h=>by
  rcases List.mem_append.1 h with h|h
  ·exact h
  ·have:=(List.mem_replicate.1 h).2;cases this
 have iw:∀(i:Nat)aj,(g.bx++List.replicate n (none:Option Nat))[i]? =some (some aj)→g.bx[i]? =some (some aj):=fun i aj h=>by
  rw[List.getElem?_append]at h
  split at h
  ·exact h
  ·have:=(List.mem_replicate.1 (List.mem_of_getElem? h)).2;cases this
 have hX:Ext w0.heap.size w g w {g with bx:=g.bx++List.replicate n none} (fun _=>False):=by
  refine⟨fun _ _ hb ho h=>⟨h,fun hm=>hb (dw _ hm),ho,fun _ h=>h⟩,fun _ _ h=>(by first|exact⟨h,rfl⟩|exact⟨h,.refl _ _ _⟩),fun _ _ _=>rfl,fun i aj h=>?_,fun p b a' c _ ho=>?_,.refl _⟩
  ·simp only;rw[List.getElem?_append_left (List.getElem?_eq_some_iff.1 h).1];exact h
  ·obtain⟨h1,h2,h3,h4,h5⟩:=ho
   exact⟨⟨h1,h2,fun h=>h3 (dw b h),h4,h5⟩,.refl _ _ _⟩
 refine⟨hI.below,hI.size,fun i s hs=>hX.slot (fun _ h=>h) (hI.ai i s hs),by simp[hI.eB],fun b bx aj h1 h2=>?_,fun i j aj h1 h2=>hI.nodup i j aj (iw i aj h1) (iw j aj h2),hI.fp,
  fun b o h=>⟨(hI.cm b o h).1,fun hm=>(hI.cm b o h).2.1 (dw b hm),(hI.cm b o h).2.2⟩,fun b h=>hI.cZ b (dw b h),hI.ja.ext hX,hI.defers,fun D o hD=>(have h:=hI.ek D o hD;⟨fun hm=>h.1 (dw D hm),h.2⟩),hI.cls,hI.iA⟩
 have nW:=iw b aj h2
 simp only at h1
 rw[List.getElem?_append_left (by rw[←hI.eB];exact(List.getElem?_eq_some_iff.1 nW).1)]at h1
 exact hX.box (fun _ h=>h) rfl (hI.boxes b bx aj h1 nW)
theorem Inv.drew{w0:World}{an:S0}{e:Env}{a:Act}{w:World}{g:Gh}(hI:Inv gl w0 an e a w g):Inv gl w0 an e a {w with drawn:=w.drawn+1} g:=by
 have hX:Ext w0.heap.size w g {w with drawn:=w.drawn+1} g (fun _=>False):=⟨fun _ _ hb ho h=>⟨h,hb,ho,fun _ h=>h⟩,fun _ _ h=>(by first|exact⟨h,rfl⟩|exact⟨h,.refl _ _ _⟩),fun _ _ _=>rfl,fun _ _ h=>h,fun _ _ _ _ _ h=>⟨h,.refl _ _ _⟩,fun _ c ty _ h=>⟨c,ty,h,rfl⟩⟩
 refine⟨⟨hI.below.os,hI.below.tape,hI.below.output,hI.below.size,hI.below.block⟩,hI.size,fun i s hs=>hX.slot (fun _ h=>h) (hI.ai i s hs),hI.eB,fun b bx aj h1 h2=>hX.box (fun _ h=>h) rfl (hI.boxes b bx aj h1 h2),hI.nodup,hI.fp,hI.cm,hI.cZ,hI.ja.ext hX,hI.defers,hI.ek,hI.cls,hI.iA⟩
theorem Inv.Q6{w0:World}{an:S0}{e:Env}{a:Act}{w:World}{g:Gh}(hI:Inv gl w0 an e a w g)(n:Nat){e':Env}(he:e'=⟨e.ai,e.boxes++List.replicate n .none⟩):
  Jv ops e.boxes.length (fun b=>∃aj,g.bx[b]? =some (some aj)) (Array.replicate ops.size false) e':=by
 subst he
 have gY:∀{O:Nat→Nat→Nat→Nat→Prop}{s:Slot}{v:Value},bP w0.heap.size w g O s v→dj (fun b=>∃aj,g.bx[b]? =some (some aj)) s:=by
  intro O s v h
  induction h with
  |v O x y h=>exact .v _
  |t O xs vs hl hc=>exact .t _
  |p O b off aj h=>exact .p _ _ ⟨aj,h⟩
  |a O b n sz v hm h=>obtain⟨aj,cap,h1,_⟩:=h;exact .a _ _ _ ⟨aj,h1⟩
  |m O b aj h=>exact .m _ ⟨aj,h⟩
  |c O f first cap fv cv hf hc _ _ g5 g6=>
   refine .c _ _ _ (fun s hs=>?_) (fun s hs=>?_)
   ·obtain⟨i,hi,rfl⟩:=List.mem_iff_getElem.1 hs
    exact g5 i _ (fv[i]'(by omega)) (by simp) (by simp)
   ·obtain⟨i,hi,rfl⟩:=List.mem_iff_getElem.1 hs
    exact g6 i _ (cv[i]'(by omega)) (by simp) (by simp)
 refine⟨fun b⟨aj,hb⟩=>by rw[←hI.eB];exact(List.getElem?_eq_some_iff.1 hb).1,fun t _=>?_,fun b s hb hs=>?_,fun i o a' _ _ hl=>?_⟩
 ·exact gY (iI hI t)
 ·simp only at hs
  rw[List.getElem?_append]at hs
  split at hs
  ·rename_i aI
   rcases hb with⟨aj,hb⟩|hb
   ·obtain⟨_,c,t,hc,_,aH,hr⟩:=hI.boxes b _ aj hs hb
    have mY:c[0]? =some (c[0]'(by omega)):=by simp
    exact gY (hr _ mY)
   ·omega
  ·have:=(List.mem_replicate.1 (List.mem_of_getElem? hs)).2;cases this
 ·exfalso
  rcases Nat.lt_or_ge i ops.size with h|h
  ·simp[h]at hl
  ·simp[h]at hl
theorem WE{w0:World}{an:S0}{e:Env}{a:Act}{w:World}{g:Gh}(hI:Inv gl w0 an e a w g){id:Nat}{draw:Bool}{K:Env→Prop}{Q:Exit→Act→World→Prop}(hm:P.follows .mixedOrders =true)
  (h:zg P gl (aB P gl) aD ops.toList e (tE P gl (aB P gl) (!draw||pI aD ops) ops aD e K))(hQ:∀e a w g,Inv gl w0 an e a w g→K e→Q .normal a w):(Code.region id ops draw).wp P Q a w:=by
 unfold zg at h
 cases gf:(!draw||pI aD ops)with
 |false=>
  rw[gf]at h
  obtain⟨e',JL,hK⟩:=Hc _ _ _ h
  have hd:draw=true:=by cases draw<;>simp_all
  subst hd
  refine wp_region_any hm ?_
  have cG:=(hI.DU (fk ops.toList ops.toList.length)).drew
  have:=Hb (P:=P) (gl:=gl) (aD:=aD) (K:=fun x=>x=e') _ 0 (Array.replicate ops.size false) _ (fun j=>by simp[Array.getElem?_replicate];split<;>rfl) (by simp) (fun j o ho hl=>by
   have hj:j<ops.size:=(Array.getElem?_eq_some_iff.1 ho).1
   simp[hj]at hl) ⟨w0,an,a,_,_,cG⟩ JL
  have h2:=ID (Q:=Q) (K:=fun x=>x=e') (fun e1 a1 w1 g1 hinv hk=>hQ e1 a1 w1 g1 hinv (by rw[hk];exact hK)) _ _ _ _ _ _ cG this
  simpa using h2
 |true=>
 rw[gf]at h
 replace h:jN P gl (aB P gl) aD ops.toList e.boxes.length ops.toList 0 ⟨e.ai,e.boxes++List.replicate (fk ops.toList ops.toList.length) .none⟩ K:=h
 have aX:=hI.DU (fk ops.toList ops.toList.length)
 cases draw with
 |false=>
  refine wp_region ?_
  have:=Pz (base:=e.boxes.length) (aD:=aD) hQ ops.toList 0 _ a w _ (fun j=>by simp) aX h
  rw[List.range_eq_range']
  simpa using this
 |true=>
  simp only[Bool.not_true,Bool.false_or]at gf
  refine wp_region_any hm ?_
  have cG:=aX.drew
  have aH:(Array.replicate ops.size false).size =ops.size:=by simp
  have KN:=hI.Q6 (ops:=ops) (fk ops.toList ops.toList.length) rfl
  obtain⟨E,uw,gf⟩:∃E,Js ops aD e.boxes.length _ E (Array.replicate ops.size false) ⟨e.ai,e.boxes++List.replicate (fk ops.toList ops.toList.length) .none⟩∧xe E ops aD (reach [] ops.toList) ops.toList 0=true:=by
   unfold pI at gf
   cases g9:eligible ops.toList aD (reach [] ops.toList)with
   |true=>rw[g9]at gf;exact⟨_,fun A hA=>by cases hA;exact⟨rfl,Px g9,KN⟩,gf⟩
   |false=>rw[g9]at gf;exact⟨none,fun A hA=>(by cases hA),gf⟩
  have:=Ih (P:=P) (gl:=gl) (base:=e.boxes.length) (aD:=aD) ops.toList 0 (Array.replicate ops.size false) _ (fun j=>by simp) (fun j hj=>by omega) (fun j _ hj=>by simp[hj]) aH
   (fun j o ho hl=>by
     have hj:j<ops.size:=(Array.getElem?_eq_some_iff.1 ho).1
     simp[hj]at hl) ⟨w0,an,a,_,_,cG⟩ uw gf h
  have h2:=ID hQ _ _ _ _ _ _ cG this
  simpa using h2
end
end Go.Proofs.Ytimbllcalipehaa.Ab
namespace Go.Proofs.Ytimbllcalipehaa.Ab
open Go Go.RowKit
def oA(n:Nat)(e e':Env):Prop:=∀i,i<n→e'.boxes.getD i .none =.none ∨(e.boxes.getD i .none ≠.none ∧(e'.boxes.getD i .none).isMap =(e.boxes.getD i .none).isMap)
theorem oA.refl(n:Nat)(e:Env):oA n e e:=fun i _=>by
 by_cases h:e.boxes.getD i .none =.none
 ·exact .inl h
 ·exact .inr ⟨h,rfl⟩
theorem oA.trans{n m:Nat}{e e1 e2:Env}(yi:n≤m)(h1:oA n e e1)(h2:oA m e1 e2):oA n e e2:=fun i hi=>by
 rcases h2 i (by omega)with h|⟨h3,h4⟩
 ·exact .inl h
 ·rcases h1 i hi with h|⟨h5,h6⟩
  ·exact absurd h h3
  ·exact .inr ⟨h5,h4.trans h6⟩
section
variable{P:Program}{gl:Nat→Option D}{w0:World}{an:S0}{e:Env}{a:Act}{w:World}{g:Gh}
theorem Oe{sz:Nat}:∀{L:List D}{i j:Nat}{x c:D},(∀x∈L,x.cells.length=sz)→L[i]? =some x→x.cells[j]? =some c→(bA L)[i*sz+j]? =some (.d c)
 |[],i,j,x,c,_,h,_=>by simp at h
 |y::L,0,j,x,c,hs,h,hc=>by
  simp at h;subst h
  simp only[bA,Nat.zero_mul,Nat.zero_add]
  rw[List.getElem?_append_left (by simp[(List.getElem?_eq_some_iff.1 hc).1]),List.getElem?_map,hc];rfl
 |y::L,i+1,j,x,c,hs,h,hc=>by
  have hy:=hs y (by simp)
  simp only[bA]
  rw[List.getElem?_append_right (by simp[hy,Nat.succ_mul];omega)]
  have:(i+1)*sz+j-(y.cells.map SV.d).length =i*sz+j:=by simp[hy,Nat.succ_mul];omega
  rw[this]
  exact Oe (fun x hx=>hs x (by simp[hx])) (by simpa using h) hc
theorem GQ{sz:Nat}:∀{L:List D},(∀x∈L,x.cells.length=sz)→(bA L).length =L.length*sz
 |[],_=>by simp[bA]
 |y::L,hs=>by
  simp only[bA,List.length_append,List.length_map,List.length_cons,hs y (by simp),Nat.succ_mul]
  rw[GQ fun x hx=>hs x (by simp[hx])];omega
theorem OO{sz:Nat}{L:List D}(hs:∀x∈L,x.cells.length=sz){o:Nat}{y:SV}(h:(bA L)[o]? =some y):∃i x j c,L[i]? =some x∧x.cells[j]? =some c∧o=i*sz+j∧y=.d c:=by
 have ho:o<L.length*sz:=by rw[←GQ hs];exact(List.getElem?_eq_some_iff.1 h).1
 have aH:0<sz:=by
  rcases Nat.eq_zero_or_pos sz with h0|h0
  ·subst h0;simp at ho
  ·exact h0
 have hq:o / sz<L.length:=Nat.div_lt_of_lt_mul (by rw[Nat.mul_comm];exact ho)
 have xI:=Nat.mod_lt o aH
 have hc:(L[o / sz]).cells[o % sz]? =some ((L[o / sz]).cells[o % sz]'(by rw[hs _ (List.getElem_mem hq)];exact xI)):=by simp
 have heq:o / sz*sz+o % sz=o:=by rw[Nat.mul_comm];exact Nat.div_add_mod o sz
 refine⟨o / sz,L[o / sz],o % sz,_,List.getElem?_eq_getElem hq,hc,heq.symm,?_⟩
 have:=Oe hs (List.getElem?_eq_getElem hq) hc
 rw[heq,h]at this
 exact Option.some.inj this
theorem Za(hI:Inv gl w0 an e a w g){t:Nat}{x:SV}(hx:e.ai.getD t (.v .undef)=.v x)(hm:∃sz L,x=.bt sz L):
  ∃sz L g',x=.bt sz L∧Inv gl w0 an ⟨e.ai.set t (.a e.boxes.length L.length sz),e.boxes++[.cells (bA L)]⟩ a w g':=by
 have hs:=iI hI t
 rw[hx]at hs
 have hv:=hs.iK
 have EJ:∀(y:Option Nat)(i:Nat)aj,(g.bx++[y])[i]? =some (some aj)→(i<e.boxes.length∧g.bx[i]? =some (some aj))∨(i=e.boxes.length∧y=some aj):=by
  intro y i aj h
  rw[List.getElem?_append,hI.eB]at h
  split at h
  ·exact .inl ⟨by assumption,h⟩
  ·rename_i hi
   right
   have:i-e.boxes.length=0:=by
    rcases Nat.eq_zero_or_pos (i-e.boxes.length)with h0|h0
    ·exact h0
    ·rw[List.getElem?_eq_none (by simp;omega)]at h;cases h
   rw[this]at h
   simp at h
   exact⟨by omega,h⟩
 have build:∀(L:List D)(sz:Nat)(y:Option Nat)(g':Gh),g'.bx=g.bx++[y]→g'.St=g.St→Ext w0.heap.size w g w g' (fun p=>∃j,p=.s t j)→
   (∀(i j:Nat)aj,g'.bx[i]? =some (some aj)→g'.bx[j]? =some (some aj)→i=j)→(∀b,y=some b→w0.heap.size≤b∧b<w.heap.size∧∀o,¬g.St b o)→
   bP w0.heap.size w g' (eA w0.heap.size w g' t) (.a e.boxes.length L.length sz) (a.tmps.getD t undef)→(∀aj,y=some aj→mJ w0.heap.size w g' e.boxes.length (.cells (bA L)) aj)→
   Inv gl w0 an ⟨e.ai.set t (.a e.boxes.length L.length sz),e.boxes++[.cells (bA L)]⟩ a w g':=by
  intro L sz y g' di aT hX kZ hy lC aeg
  refine⟨hI.below,by simp[hI.size],fun i s la=>?_,by rw[di];simp[hI.eB],fun b bx aj h1 h2=>?_,kZ,fun b o h=>by rw[aT];exact hI.fp b o h,fun b o h=>?_,fun b h=>?_,hI.ja.ext hX,hI.defers,fun D o hD=>(have h:=hI.ek D o hD;have k:=hX.df D o h.1 h.2.1 h.2.2.1;⟨k.2.1,k.2.2.1,k.1,fun x hx=>h.2.2.2 x (k.2.2.2 x hx)⟩),fun b o v hv=>(have h:=hI.cls b o v hv;⟨(hX.st b o h.1).1,(hX.st b o h.1).2.1.trans h.2⟩),hI.iA⟩
  ·rw[List.getElem?_set]at la
   split at la
   ·rename_i fU
    subst fU
    split at la
    ·cases la;exact lC
    ·cases la
   ·rename_i fU
    exact hX.slot (fun j=>by rintro⟨j',hj⟩;cases hj;exact fU rfl) (hI.ai i s la)
  ·rw[di]at h2
   rcases EJ y b aj h2 with⟨aI,h3⟩|⟨rfl,h3⟩
   ·simp only at h1
    rw[List.getElem?_append_left aI]at h1
    exact hX.box (fun j=>by rintro⟨j',hj⟩;cases hj) rfl (hI.boxes b bx aj h1 h3)
   ·simp at h1
    subst h1
    exact aeg aj h3
  ·rw[aT]at h
   refine⟨(hI.cm b o h).1,fun hm=>?_,(hI.cm b o h).2.2⟩
   rw[di]at hm
   rcases List.mem_append.1 hm with hm|hm
   ·exact(hI.cm b o h).2.1 hm
   ·simp at hm
    exact(hy b hm.symm).2.2 o h
  ·rw[di]at h
   rcases List.mem_append.1 h with h|h
   ·exact hI.cZ b h
   ·simp at h
    exact⟨(hy b h.symm).1,(hy b h.symm).2.1⟩
 obtain⟨sz,L,rfl⟩:=hm
 have kE:a.eval (.tmp t)=a.tmps.getD t undef:=rfl
 rw[kE]at hv
 generalize jv:a.tmps.getD t undef=v at hv
 cases hv with
 |bt _ _ _ gg cap vs bE hm aH hf ho aL hc=>
  obtain⟨o1,o2,o3,⟨cur,te,o4,o0⟩,o5⟩:=ho
  let g':Gh:={g with bx:=g.bx++[some gg]}
  have hX:Ext w0.heap.size w g w g' (fun p=>∃j,p=.s t j):=by
   refine⟨fun D ob hb eg h=>⟨h,(fun hm=>by
    rcases List.mem_append.1 hm with hm|hm
    ·exact hb hm
    ·simp at hm
     subst hm
     rw[o1]at eg
     cases eg),eg,fun _ h=>h⟩,fun _ _ h=>⟨h,.refl _ _ _⟩,fun _ _ _=>rfl,fun i aj h=>?_,fun p b a' c hp bH=>⟨?_,.refl _ _ _⟩,.refl _⟩
   ·show(g.bx++[some gg])[i]? =_
    rw[List.getElem?_append_left (List.getElem?_eq_some_iff.1 h).1];exact h
   ·obtain⟨p1,p2,p3,p4,p5⟩:=bH
    refine⟨p1,p2,fun hm=>?_,p4,p5⟩
    rcases List.mem_append.1 hm with hm|hm
    ·exact p3 hm
    ·simp at hm
     subst hm
     rw[o1]at p1
     cases p1
     exact hp ⟨0,rfl⟩
  have hlen:(bA L).length =L.length*sz:=GQ aH
  have aeh:L.length*sz≤cap*sz:=Nat.mul_le_mul_right _ bE
  refine⟨sz,L,g',rfl,build L sz (some gg) g' rfl rfl hX ?_ ?_ ?_ ?_⟩
  ·intro i j aj h1 h2
   have no:∀(i:Nat),g.bx[i]? =some (some gg)→False:=fun i h=>o3 (List.mem_of_getElem? h)
   rcases EJ (some gg) i aj h1 with⟨h3,h4⟩|⟨h3,h4⟩
   ·rcases EJ (some gg) j aj h2 with⟨h5,h6⟩|⟨h5,h6⟩
    ·exact hI.nodup i j aj h4 h6
    ·cases h6;exact(no i h4).elim
   ·rcases EJ (some gg) j aj h2 with⟨h5,h6⟩|⟨h5,h6⟩
    ·cases h4;exact(no j h6).elim
    ·omega
  ·intro b hb
   cases hb
   exact⟨o2,(Array.getElem?_eq_some_iff.1 o4).1,fun o=>o5 o (Nat.zero_le _)⟩
  ·rw[jv]
   refine .a _ _ _ _ _ (Nat.le_trans bE hm) ⟨gg,cap,?_,bE,rfl,hm,cur,te,o4,o0⟩
   show(g.bx++[some gg])[e.boxes.length]? =_
   rw[←hI.eB];simp
  ·intro aj cX
   cases cX
   have lM:∀(o:Nat)y,o<(bA L).length →cur[o]? =some y→y=vs o:=by
    intro o y ho hy
    have h1:=aL o (by rw[←hlen];exact ho)
    rw[cell_of_row w gg o cur te (0,0) o4,hy]at h1
    exact Option.some.inj h1
   refine⟨o2,cur,te,o4,fun j y hj hy=>?_,by rw[hlen,o0];exact aeh,fun j x y hx hy=>?_⟩
   ·have mW:j<(bA L).length :=hj
    obtain⟨i,x,k,c,h1,h2,rfl,_⟩:=OO aH (List.getElem?_eq_getElem mW)
    rw[lM _ y mW hy]
    exact(hc i x k c h1 h2).pw (hf x (List.mem_of_getElem? h1) c (List.mem_of_getElem? h2))
   ·have mW:=(List.getElem?_eq_some_iff.1 hx).1
    obtain⟨i,x',k,c,h1,h2,rfl,rfl⟩:=OO aH hx
    rw[lM _ y mW hy]
    exact .d _ _ _ (hc i x' k c h1 h2)
theorem DI(b:Nat)(r:Nat→SV)(rm:SV)(ts:List Nat):∀(l:List Slot)(k i:Nat),(ke b r rm ts l k)[i]? =(l[i]?).map fun s=>bif ts.contains (k+i)then zP b r rm s else s
 |[],_,_=>by simp[ke]
 |s::l,k,i=>by
  cases i with
  |zero=>simp[ke]
  |succ i=>
   simp only[ke,List.getElem?_cons_succ]
   rw[DI b r rm ts l (k+1) i,show k+1+i=k+(i+1) by omega]
theorem yT(b:Nat)(r:Nat→SV)(rm:SV)(ts:List Nat):∀(l:List Slot)(k:Nat),(ke b r rm ts l k).length =l.length
 |[],_=>rfl
 |_::l,k=>by simp[ke,yT b r rm ts l (k+1)]
theorem Nz{b:Nat}{ts:List Nat}:∀{l:List Slot}{k:Nat},rk b ts l k=true→∀(i:Nat)s,l[i]? =some s→ts.contains (k+i)=false→s.has b=false
 |[],_,_,i,s,h,_=>by simp at h
 |s'::l,k,hk,i,s,h,hc=>by
  simp only[rk,Bool.and_eq_true]at hk
  cases i with
  |zero=>
   simp at h;subst h
   have:=hk.1
   rw[Nat.add_zero]at hc
   rw[hc]at this
   simpa using this
  |succ i=>exact Nz hk.2 i s (by simpa using h) (by rw[show k+1+i=k+(i+1) by omega];exact hc)
theorem Dy{b:Nat}:∀{l:List af},oD b l=true→∀(i:Nat)s,l[i]? =some (.one s)→s.has b=false
 |[],_,i,s,h=>by simp at h
 |x::l,hk,i,s,h=>by
  cases i with
  |zero=>
   simp at h;subst h
   simp only[oD,Bool.and_eq_true]at hk
   simpa using hk.1
  |succ i=>
   have bI:oD b l=true:=by cases x<;>simp only[oD,Bool.and_eq_true]at hk<;>first|exact hk|exact hk.2
   exact Dy bI i s (by simpa using h)
theorem Hd{b:Nat}:∀{l:List Slot},Slot.tC b l=false→∀(i:Nat)s,l[i]? =some s→s.has b=false
 |[],_,i,s,h=>by simp at h
 |x::l,hk,i,s,h=>by
  simp only[Slot.tC,Bool.or_eq_false_iff]at hk
  cases i with
  |zero=>simp at h;subst h;exact hk.1
  |succ i=>exact Hd hk.2 i s (by simpa using h)
theorem bP.Q7{base:Nat}{g':Gh}{b:Nat}(aT:∀b' o,g.St b' o→g'.St b' o)(di:∀(i:Nat)aj,i≠b→g.bx[i]? =some (some aj)→g'.bx[i]? =some (some aj)){O:Nat→Nat→Nat→Nat→Prop}{s:Slot}{v:Value}
  (r:bP base w g O s v):∀{O':Nat→Nat→Nat→Nat→Prop},(∀j b a c,O j b a c→O' j b a c)→s.has b=false→bP base w g' O' s v:=by
 induction r with
 |v O x y h=>intro O' hO _;exact .v _ _ _ (h.mono (fun b o h=>⟨aT b o h,.refl _ _ _⟩) (fun _ _ _=>rfl) _ (fun _ _ _ h=>⟨hO 0 _ _ _ h,.refl _ _ _⟩))
 |p O b' off aj h=>intro O' _ hh;exact .p _ _ _ _ (di _ _ (by simpa[Slot.has]using hh) h)
 |a O b' n sz v hm h=>intro O' _ hh;exact .a _ _ _ _ _ hm (by obtain⟨aj,cap,h1,h2,h3⟩:=h;exact⟨aj,cap,di _ _ (by simpa[Slot.has]using hh) h1,h2,h3⟩)
 |m O b' aj h=>intro O' _ hh;exact .m _ _ _ (di _ _ (by simpa[Slot.has]using hh) h)
 |c O f first cap fv cv hf hc _ _ g5 g6=>
  intro O' _ hh
  simp only[Slot.has,Bool.or_eq_false_iff]at hh
  exact .c _ f first cap fv cv hf hc (fun i x v h1 h2=>g5 i x v h1 h2 (fun _ _ _ _ h=>h) (Hd hh.1 i x h1)) (fun i x v h1 h2=>g6 i x v h1 h2 (fun _ _ _ _ h=>h) (Hd hh.2 i x h1))
 |t O xs vs hl hc=>intro O' hO _;exact .t _ xs vs hl fun j x v h1 h2=>(hc j x v h1 h2).mono (fun b o h=>⟨aT b o h,.refl _ _ _⟩) (fun _ _ _=>rfl) _ (fun _ _ _ h=>⟨hO j _ _ _ h,.refl _ _ _⟩)
def yj(l:List Slot):Option (Nat×SV)→List Slot
 |none=>l
 |some (t,x)=>l.set t (.v x)
theorem Ht(hI:Inv gl w0 an e a w g){b:Nat}{ts:List Nat}{r:Nat→SV}{rm:SV}(er:rk b ts e.ai 0=true){S:Nat→Nat→Prop}(hS:∀b' o,S b' o→g.bx[b]? =some (some b'))
  {cP:List af}(dO:cP.length=e.boxes.length){ov:Option (Nat×SV)}{Ax:Nat→Option Pos}(o8:∀b',some b'∉g.bx→Ax b'=g.ow b')(g':Gh)(gz:g'={St:=fun b' o=>g.St b' o∨S b' o,bx:=g.bx.set b none,ow:=Ax})
  (aaD:∀(i:Nat)bx aj,i≠b→cP[i]? =some bx→g.bx[i]? =some (some aj)→(e.boxes[i]? =some bx∧∀s,bx=.one s→s.has b=false)∨mJ w0.heap.size w g' i bx aj)
  (KO:∀t x,ov=some (t,x)→aG w g'.St w0.heap.size (eA w0.heap.size w g' t 0) x (a.tmps.getD t undef))
  (hr:(∀(n sz:Nat)(v:Value),bP w0.heap.size w g (fun _ _ _ _=>False) (Slot.a b n sz) v→aG w g'.St w0.heap.size (fun _ _ _=>False) (r n) v)∧
    (∀(v:Value),bP w0.heap.size w g (fun _ _ _ _=>False) (Slot.m b) v→aG w g'.St w0.heap.size (fun _ _ _=>False) rm v)):
  Inv gl w0 an ⟨(yj (ke b r rm ts e.ai 0) ov),cP⟩ a w g':=by
 subst gz
 let g':Gh:={St:=fun b' o=>g.St b' o∨S b' o,bx:=g.bx.set b none,ow:=Ax}
 have KP:∀b' o,S b' o→some b'∈g.bx:=fun b' o h=>List.mem_of_getElem? (hS b' o h)
 have di:∀(i:Nat)aj,i≠b→g.bx[i]? =some (some aj)→g'.bx[i]? =some (some aj):=fun i aj hi h=>by
  show(g.bx.set b none)[i]? =_
  rw[List.getElem?_set_ne (fun h=>hi h.symm)];exact h
 have Ca:∀(i:Nat)aj,g'.bx[i]? =some (some aj)→i≠b∧g.bx[i]? =some (some aj):=fun i aj h=>by
  have h:(g.bx.set b none)[i]? =some (some aj):=h
  rw[List.getElem?_set]at h
  split at h
  ·split at h<;>simp at h
  ·rename_i hi;exact⟨fun h=>hi h.symm,h⟩
 have dw:∀b',some b'∈g'.bx→some b'∈g.bx:=fun b' h=>by
  obtain⟨i,hi⟩:=List.mem_iff_getElem?.1 h
  exact List.mem_of_getElem? (Ca i b' hi).2
 have gw:∀p b' a' c,ef w0.heap.size w g p b' a' c→ef w0.heap.size w g' p b' a' c:=by
  rintro p b' a' c ⟨h1,h2,h3,h4,h5⟩
  exact⟨(o8 b' h3).trans h1,h2,fun hm=>h3 (dw b' hm),h4,fun o ho=>by rintro(h|h);exact h5 o ho h;exact h3 (KP b' o h)⟩
 have aT:∀b' o,g.St b' o→g'.St b' o:=fun _ _ h=>.inl h
 have gM:(yj (ke b r rm ts e.ai 0) ov).length =e.ai.length:=by
  cases ov with
  |none=>exact yT _ _ _ _ _ _
  |some p=>simp[yj,yT]
 refine⟨hI.below,by rw[gM];exact hI.size,fun i s hs=>?_,by simp[hI.eB,dO],fun i bx aj h1 h2=>?_,fun i j aj h1 h2=>hI.nodup i j aj (Ca i aj h1).2 (Ca j aj h2).2,fun b' o h=>.inl (hI.fp b' o h),fun b' o h=>?_,fun b' h=>hI.cZ b' (dw b' h),?_,hI.defers,fun D o hD=>(have h:=hI.ek D o hD;⟨fun hm=>h.1 (dw D hm),(o8 D h.1).trans h.2.1,h.2.2.1,fun x hx=>h.2.2.2 x (hx.elim id fun e=>absurd (KP D x e) h.1)⟩),fun b o v hv=>(have h:=hI.cls b o v hv;⟨.inl h.1,h.2⟩),hI.iA⟩
 ·have hs:(∃x,ov=some (i,x)∧s=.v x)∨(ke b r rm ts e.ai 0)[i]? =some s:=by
   cases Rs:ov with
   |none=>rw[Rs]at hs;exact .inr hs
   |some p=>
    obtain⟨t,x⟩:=p
    rw[Rs]at hs
    simp only[yj,List.getElem?_set]at hs
    split at hs
    ·rename_i fU
     subst fU
     split at hs
     ·cases hs;exact .inl ⟨x,rfl,rfl⟩
     ·cases hs
    ·exact .inr hs
  rcases hs with⟨x,hx,rfl⟩|hs
  ·exact .v _ _ _ (KO i x hx)
  simp only[DI,Option.map_eq_some_iff,Nat.zero_add]at hs
  obtain⟨s0,kA,rfl⟩:=hs
  have h0:=hI.ai i s0 kA
  have ei:s0.has b=false→bP w0.heap.size w g' (eA w0.heap.size w g' i) s0 (a.tmps.getD i undef):=fun hh=>h0.Q7 aT di (fun j b' a' c ho=>gw _ b' a' c ho) hh
  cases hc:ts.contains i with
  |false=>exact ei (Nz er i s0 kA (by simpa using hc))
  |true=>
   simp only[cond_true]
   have Qq:∀v,bP w0.heap.size w g' (eA w0.heap.size w g' i) (.v .undef) v:=fun v=>.v _ _ _ (.undef _ _)
   have lift:∀{x v},aG w g'.St w0.heap.size (fun _ _ _=>False) x v→bP w0.heap.size w g' (eA w0.heap.size w g' i) (.v x) v:=fun h=>.v _ _ _ (h.mono (fun _ _ h=>⟨h,.refl _ _ _⟩) (fun _ _ _=>rfl) _ (fun _ _ _ h=>h.elim))
   cases s0 with
   |v x=>exact ei rfl
   |t x=>exact ei rfl
   |p b' off=>
    simp only[zP]
    cases hb:b'==b with
    |true=>exact Qq _
    |false=>exact ei (by simp[Slot.has,hb])
   |a b' n sz=>
    simp only[zP]
    cases hb:b'==b with
    |true=>
     have:=beq_iff_eq.1 hb
     subst this
     exact lift (hr.1 n sz _ h0.aa)
    |false=>exact ei (by simp[Slot.has,hb])
   |m b'=>
    simp only[zP]
    cases hb:b'==b with
    |true=>
     have:=beq_iff_eq.1 hb
     subst this
     exact lift (hr.2 _ h0.aa)
    |false=>exact ei (by simp[Slot.has,hb])
   |c f x y=>
    simp only[zP]
    cases hb:(Slot.tC b x||Slot.tC b y)with
    |true=>exact Qq _
    |false=>exact ei (by simp only[Slot.has,hb])
 ·obtain⟨bf,nW⟩:=Ca i aj h2
  rcases aaD i bx aj bf h1 nW with⟨qd,hsb⟩|hb
  rotate_left
  ·exact hb
  have hb:=hI.boxes i bx aj qd nW
  cases bx with
  |none=>exact hb.elim
  |cells cs=>
   obtain⟨q0,c,t,q1,q2,q3⟩:=hb
   exact⟨q0,c,t,q1,q2,q3.1,fun j x y hx hy=>(q3.2 j x y hx hy).mono (fun b' o h=>⟨aT b' o h,.refl _ _ _⟩) (fun _ _ _=>rfl) _ (fun _ _ _ h=>⟨gw _ _ _ _ h,.refl _ _ _⟩)⟩
  |one s=>
   obtain⟨q0,c,t,q1,q2,q3⟩:=hb
   exact⟨q0,c,t,q1,q2,q3.1,fun y hy=>(q3.2 y hy).Q7 aT di (fun _ _ _ _ h=>gw _ _ _ _ h) (hsb s rfl)⟩
  |map l=>
   obtain⟨q0,es,clock,q1,q2,q3⟩:=hb
   exact⟨q0,es,clock,q1,q2,fun j x y hx hy=>⟨(q3 j x y hx hy).1,(q3 j x y hx hy).2.1,(q3 j x y hx hy).2.2.mono fun b' o h=>⟨aT b' o h,rfl⟩⟩⟩
 ·rcases h with h|h
  ·exact⟨(hI.cm b' o h).1,fun hm=>(hI.cm b' o h).2.1 (dw b' hm),(hI.cm b' o h).2.2⟩
  ·have hm:=KP b' o h
   have aI:=hI.cZ b' hm
   refine⟨.inr aI.1,fun kD=>?_,aI.2⟩
   obtain⟨i,hi⟩:=List.mem_iff_getElem?.1 kD
   obtain⟨bf,dZ⟩:=Ca i b' hi
   exact bf (hI.nodup i b b' dZ (hS b' o h))
 ·intro n x hx
  obtain⟨q0,vs,q1,q2⟩:=hI.ja n x hx
  exact⟨q0,vs,fun i hi=>⟨(q1 i hi).1,aT _ _ (q1 i hi).2⟩,fun i c hc=>(q2 i c hc).mono fun b' o h=>⟨aT b' o h,rfl⟩⟩
theorem OP(hI:Inv gl w0 an e a w g){b:Nat}{ts:List Nat}{r:Nat→SV}{rm:SV}(dn:kP b ts e=true){S:Nat→Nat→Prop}(hS:∀b' o,S b' o→g.bx[b]? =some (some b'))
  (aW:∀(g':Gh),g'.St=(fun b' o=>g.St b' o∨S b' o)→(∀(n sz:Nat)(v:Value),bP w0.heap.size w g (fun _ _ _ _=>False) (Slot.a b n sz) v→aG w g'.St w0.heap.size (fun _ _ _=>False) (r n) v)∧
    (∀(v:Value),bP w0.heap.size w g (fun _ _ _ _=>False) (Slot.m b) v→aG w g'.St w0.heap.size (fun _ _ _=>False) rm v)):
  ∃g',Inv gl w0 an (rl b r rm ts e) a w g':=by
 simp only[kP,Bool.and_eq_true]at dn
 refine⟨_,Ht hI dn.1 hS (cP:=e.boxes.set b .none) (by simp) (ov:=none) (Ax:=g.ow) (fun _ _=>rfl) _ rfl (fun i bx aj bf h1 h2=>.inl ?_) (fun t x h=>by cases h) (aW _ rfl)⟩
 rw[List.getElem?_set_ne (fun h=>bf h.symm)]at h1
 exact⟨h1,fun s hs=>by subst hs;exact Dy dn.2 i s h1⟩
theorem Inv.IE(hI:Inv gl w0 an e a w g){t:Nat}{s:Slot}(hs:bP w0.heap.size w g (eA w0.heap.size w g t) s (a.tmps.getD t undef)):Inv gl w0 an ⟨e.ai.set t s,e.boxes⟩ a w g:=by
 refine⟨hI.below,by simp[hI.size],fun i x hx=>?_,hI.eB,hI.boxes,hI.nodup,hI.fp,hI.cm,hI.cZ,hI.ja,hI.defers,hI.ek,hI.cls,hI.iA⟩
 simp only[List.getElem?_set]at hx
 split at hx
 ·rename_i fU
  subst fU
  split at hx
  ·cases hx;exact hs
  ·cases hx
 ·exact hI.ai i x hx
theorem WG{x y:SV}(h:nH x=some y){St:Nat→Nat→Prop}{base:Nat}{O:Nat→Nat→Nat→Prop}{v:Value}(r:aG w St base O x v):aG w St base O y v:=by
 unfold nH at h
 split at h
 ·cases h
  have:=r.data
  cases this
  exact .d _ _ _ (.fD _)
 ·cases h;exact r
 ·cases h
theorem Zb(hI:Inv gl w0 an e a w g){t:Nat}{x y:SV}(hx:e.ai.getD t (.v .undef)=.v x)(h:vI x=some y):∃g',Inv gl w0 an ⟨e.ai.set t (.v y),e.boxes⟩ a w g':=by
 have hs:=iI hI t
 rw[hx]at hs
 have hv:=hs.iK
 have kE:a.eval (.tmp t)=a.tmps.getD t undef:=rfl
 rw[kE]at hv
 unfold vI at h
 split at h
 ·rename_i sz L
  cases h
  generalize jv:a.tmps.getD t undef=v at hv
  cases hv with
  |bt _ _ _ gg cap vs bE hm aH hf ho aL hc=>
   obtain⟨o1,o2,o3,⟨cur,te,o4,o0⟩,o5⟩:=ho
   let g':Gh:={g with St:=fun b o=>g.St b o∨(b=gg∧o<L.length*sz)}
   have hX:Ext w0.heap.size w g w g' (fun p=>∃j,p=.s t j):=by
    refine⟨fun D ob hb eg h=>⟨h,hb,eg,fun x hx=>hx.elim id fun e=>(by rw[e.1]at eg;rw[o1]at eg;cases eg)⟩,fun _ _ h=>⟨.inl h,.refl _ _ _⟩,fun _ _ _=>rfl,fun _ _ h=>h,fun p b a' c hp bH=>⟨?_,.refl _ _ _⟩,.refl _⟩
    obtain⟨p1,p2,p3,p4,p5⟩:=bH
    refine⟨p1,p2,p3,p4,fun o ho=>?_⟩
    rintro(h|⟨rfl,_⟩)
    ·exact p5 o ho h
    ·rw[o1]at p1;cases p1;exact hp ⟨0,rfl⟩
   refine⟨g',hI.stepG (dst:=none) (s:=.t []) (v:=undef) (ai:=e.ai.set t (.v (.own sz L))) hX (Below.refl _ _) (by simp) (fun i x hx _=>?_) (fun d hd=>by cases hd) hI.eB (fun b bx aj h1 h2=>hX.box (fun j=>by rintro⟨j',h⟩;cases h) rfl (hI.boxes b bx aj h1 h2)) hI.nodup hI.cZ (fun b o h=>?_)⟩
   ·rw[List.getElem?_set]at hx
    split at hx
    ·rename_i fU
     subst fU
     split at hx
     ·cases hx
      rw[jv]
      refine .v _ _ _ (.own _ sz L gg cap (.sl sz L gg 0 cap vs bE (Nat.le_trans bE hm) aH hf (fun o ho=>⟨by rw[Nat.zero_add];exact aL o ho,.inr ⟨rfl,by omega⟩⟩) (fun i x j c h1 h2=>(hc i x j c h1 h2).mono fun b o h=>⟨.inl h,rfl⟩)) hm ⟨o1,o2,o3,⟨cur,te,o4,o0⟩,fun o ho=>?_⟩)
      rintro(h|⟨_,h⟩)
      ·exact o5 o (by omega) h
      ·omega
     ·cases hx
    ·rename_i fU
     exact hX.slot (fun j=>by rintro⟨j',h⟩;cases h;exact fU rfl) (hI.ai i x hx)
   ·rcases h with h|⟨rfl,_⟩
    ·exact hI.cm b o h
    ·exact⟨.inr o2,o3,(Array.getElem?_eq_some_iff.1 o4).1⟩
 ·cases h
  refine⟨g,hI.IE (.v _ _ _ ?_)⟩
  have:=hv.data
  generalize a.tmps.getD t undef=v at this ⊢
  cases this
  exact .d _ _ _ (.fD _)
 ·cases h
  exact⟨g,hI.IE (.v _ _ _ (.d _ _ _ hv.data))⟩
 ·cases h
theorem M9{agg:Bool}{sz:Nat}(Cb:agg=false→sz=1):∀{n:Nat}{l:List D}{L:List D},eP agg sz n l=some L→(∀d∈l,d.one=true)→L.length=n∧l.length=n*sz∧(∀x∈L,x.cells.length=sz∧∀c∈x.cells,c.one=true)∧
  ∀(i:Nat)x(j:Nat)c,L[i]? =some x→x.cells[j]? =some c→l[i*sz+j]? =some c
 |0,[],L,h,_=>by simp only[eP,Option.some.injEq]at h;subst h;simp
 |0,_::_,L,h,_=>by simp[eP]at h
 |n+1,l,L,h,bV=>by
  simp only[eP]at h
  split at h
  ·rename_i hle
   split at h
   ·rename_i r hr
    cases h
    obtain⟨h1,h2,h3,h4⟩:=M9 Cb hr (fun d hd=>bV d (List.mem_of_mem_drop hd))
    have Su:(bD agg (l.take sz)).cells =l.take sz:=MO (fun d hd=>bV d (List.mem_of_mem_take hd)) (fun h=>by rw[List.length_take,Cb h];have:=Cb h;omega)
    simp only[List.length_drop]at h2
    refine⟨by simp[h1],by rw[Nat.succ_mul];omega,fun x hx=>?_,fun i x j c hx hc=>?_⟩
    ·rcases List.mem_cons.1 hx with rfl|hx
     ·rw[Su]
      exact⟨by rw[List.length_take];omega,fun c hc=>bV c (List.mem_of_mem_take hc)⟩
     ·exact h3 x hx
    ·cases i with
     |zero=>
      simp at hx;subst hx
      rw[Su]at hc
      rw[List.getElem?_take]at hc
      split at hc
      ·simpa using hc
      ·cases hc
     |succ i=>
      have:=h4 i x j c (by simpa using hx) hc
      rw[List.getElem?_drop]at this
      rw[Nat.succ_mul,show i*sz+sz+j=sz+(i*sz+j) by omega]
      exact this
   ·cases h
  ·cases h
theorem HQ:∀{cs:List SV}{ds:List D},cW cs=some ds→ds.length=cs.length∧∀(i:Nat)d,ds[i]? =some d→∃x,cs[i]? =some x∧bF x=some d
 |[],ds,h=>by cases h;exact⟨rfl,fun i d h=>by simp at h⟩
 |x::cs,ds,h=>by
  simp only[cW]at h
  split at h
  ·rename_i y hy
   split at h
   ·rename_i r hr
    cases h
    obtain⟨h1,h2⟩:=HQ hr
    refine⟨by simp[h1],fun i d hd=>?_⟩
    cases i with
    |zero=>simp at hd;subst hd;exact⟨x,rfl,hy⟩
    |succ i=>exact h2 i d (by simpa using hd)
   ·cases h
  ·cases h
theorem aU.Qr{St:Nat→Nat→Prop}{d:D}{v:Value}(r:aU w St d v)(h:v.oneCell'=true):d.one=true:=by
 cases r<;>first|rfl|simp[Value.oneCell']at h
def oL(ws:List Nat)(e e':Env):Prop:=e'.ai.length=e.ai.length∧e.boxes.length≤e'.boxes.length∧(∀t,t∉ws→e'.ai.getD t (.v .undef)=e.ai.getD t (.v .undef))∧oA e.boxes.length e e'
theorem OQ{b:Nat}{r:Nat→SV}{rm:SV}{ts:List Nat}:oL ts e (rl b r rm ts e):=by
 refine⟨by simp[rl,yT],by simp[rl],fun t ht=>?_,fun i hi=>?_⟩
 ·simp only[rl,List.getD_eq_getElem?_getD,DI,Nat.zero_add]
  have:ts.contains t=false:=by simpa using ht
  rw[this]
  cases e.ai[t]? <;>rfl
 ·simp only[rl,List.getD_eq_getElem?_getD,List.getElem?_set]
  by_cases hb:b=i
  ·subst hb
   simp[hi]
  ·simp only[hb,if_false]
   by_cases h:(e.boxes[i]?).getD .none =.none
   ·exact .inl h
   ·exact .inr ⟨h,trivial⟩
theorem Ep{y:SV}{t:Nat}:oL [t] e ⟨e.ai.set t (.v y),e.boxes⟩:=⟨by simp,Nat.le_refl _,fun u hu=>by
 simp only[List.mem_singleton]at hu
 simp only
 rw[dY (fun h=>hu h.symm)],.refl _ _⟩
theorem D9{b:Nat}{ts:List Nat}{r:Nat→SV}{rm:SV}{cP:List af}(hl:cP.length=e.boxes.length)(hk:∀i,cP.getD i .none =.none ∨(e.boxes.getD i .none ≠.none ∧(cP.getD i .none).isMap =(e.boxes.getD i .none).isMap)){ov:Option (Nat×SV)}(KO:∀t x,ov=some (t,x)→t∈ts):
  oL ts e ⟨yj (ke b r rm ts e.ai 0) ov,cP⟩:=by
 have FF:∀t,t∉ts→(ke b r rm ts e.ai 0).getD t (.v .undef)=e.ai.getD t (.v .undef):=fun t ht=>by
  simp only[List.getD_eq_getElem?_getD,DI,Nat.zero_add]
  have:ts.contains t=false:=by simpa using ht
  rw[this]
  cases e.ai[t]? <;>rfl
 refine⟨?_,by simp[hl],fun t ht=>?_,fun i _=>hk i⟩
 ·cases ov with
  |none=>exact yT _ _ _ _ _ _
  |some p=>simp[yj,yT]
 ·cases ov with
  |none=>exact FF t ht
  |some p=>
   obtain⟨t',x⟩:=p
   have:=KO t' x rfl
   simp only[yj]
   rw[dY (fun h=>ht (by first|(rw[←h];exact this)|(rw[h];exact this)))]
   exact FF t ht
theorem HR{b:Nat}{l:List af}:∀i,(l.set b .none).getD i .none =.none ∨(l.getD i .none ≠.none ∧((l.set b .none).getD i .none).isMap =(l.getD i .none).isMap):=fun i=>by
 simp only[List.getD_eq_getElem?_getD,List.getElem?_set]
 by_cases hb:b=i
 ·subst hb
  by_cases hi:b<l.length
  ·simp[hi]
  ·simp[hi]
 ·simp only[hb,if_false]
  by_cases h:(l[i]?).getD .none =.none
  ·exact .inl h
  ·exact .inr ⟨h,trivial⟩
theorem OR{b c:Nat}{x:Slot}{l:List (MK×D)}{bs:List af}(hc:bs[c]? =some (.one x)):∀i,((bs.set b .none).set c (.cells [.mp l])).getD i .none =.none ∨(bs.getD i .none ≠.none ∧(((bs.set b .none).set c (.cells [.mp l])).getD i .none).isMap =(bs.getD i .none).isMap):=fun i=>by
 by_cases hi:c=i
 ·subst hi
  right
  have hl:=(List.getElem?_eq_some_iff.1 hc).1
  simp only[List.getD_eq_getElem?_getD,hc,Option.getD_some]
  rw[List.getElem?_set_self (by simpa using hl)]
  exact⟨by simp,rfl⟩
 ·have:=HR (b:=b) (l:=bs) i
  simp only[List.getD_eq_getElem?_getD]at this ⊢
  rw[List.getElem?_set_ne hi]
  exact this
theorem Zc{n:Nat}(h:Nat.blt 0 n=true):0<n:=Nat.lt_of_succ_le (Nat.le_of_ble_eq_true h)
theorem Zd(hI:Inv gl w0 an e a w g){t:Nat}{agg:Bool}{sz:Nat}{ts:List Nat}{b n:Nat}(hs:e.ai.getD t (.v .undef)=.a b n sz){cs:List SV}(bO:e.boxes[b]? =some (.cells cs))(dn:kP b (t::ts) e=true)
  (aH:0<sz)(Cb:agg=false→sz=1){ds:List D}(lL:cW cs=some ds){L:List D}(hL:eP agg sz n ds=some L):
  ∃g',Inv gl w0 an ⟨(ke b (fun _=>.undef) .undef (t::ts) e.ai 0).set t (.v (.bt sz L)),e.boxes.set b .none⟩ a w g':=by
 have lC:=iI hI t
 rw[hs]at lC
 have kE:a.eval (.tmp t)=a.tmps.getD t undef:=rfl
 rw[kE]at lC
 obtain⟨bW,fI⟩:=lC.zS
 obtain⟨aj,cap,hb,bE,jv,fb,c0,ty0,mY,aei⟩:=fI
 obtain⟨q0,c,ty,q1,q2,q3,q4⟩:=hI.boxes b _ aj bO hb
 have da:c=c0∧ty=ty0:=by rw[q1]at mY;cases mY;exact⟨rfl,rfl⟩
 obtain⟨rfl,rfl⟩:=da
 obtain⟨d1,d2⟩:=HQ lL
 have bV:∀d∈ds,d.one=true:=by
  intro d hd
  obtain⟨j,hj⟩:=List.mem_iff_getElem?.1 hd
  obtain⟨x,hx,yk⟩:=d2 j d hj
  have jC:=(List.getElem?_eq_some_iff.1 hx).1
  have hjc:j<c.size:=Nat.lt_of_lt_of_le jC q3
  exact((q4 j x c[j] hx (by simp)).bF yk).Qr (q2 j c[j] jC (by simp))
 obtain⟨l1,l2,l3,l4⟩:=M9 Cb hL bV
 simp only[kP,Bool.and_eq_true]at dn
 have wa:some aj∈g.bx:=List.mem_of_getElem? hb
 refine⟨_,Ht hI (r:=fun _=>.undef) (rm:=.undef) dn.1 (S:=fun _ _=>False) (fun _ _ h=>h.elim) (cP:=e.boxes.set b .none) (by simp) (ov:=some (t,.bt sz L)) (Ax:=fun b'=>if b'=aj then some (.s t 0)else g.ow b') (fun b' dq=>if_neg (fun h=>dq (by rw[h];exact wa))) _ rfl (fun i bx mK bf h1 h2=>.inl ?_) (fun t' x h=>?_) ⟨fun _ _ _ _=>.undef _ _,fun _ _=>.undef _ _⟩⟩
 ·rw[List.getElem?_set_ne (fun h=>bf h.symm)]at h1
  exact⟨h1,fun s hs=>by subst hs;exact Dy dn.2 i s h1⟩
 ·cases h
  rw[jv,←l1]
  refine .bt _ sz L aj cap (fun o=>c.getD o undef) (by omega) fb (fun x hx=>(l3 x hx).1) (fun x hx=>(l3 x hx).2) ⟨by simp,q0,fun hm=>?_,⟨c,ty,q1,aei⟩,fun o _ h=>?_⟩ (fun o ho=>?_) (fun i x j d hx hc=>?_)
  ·obtain⟨i,hi⟩:=List.mem_iff_getElem?.1 hm
   simp only[List.getElem?_set]at hi
   split at hi
   ·split at hi<;>simp at hi
   ·rename_i x9
    exact x9 (hI.nodup b i aj hb hi)
  ·rcases h with h|h
   ·exact(hI.cm aj o h).2.1 wa
   ·exact h
  ·rw[cell_of_row w aj o c ty (0,0) q1]
   have:o<c.size:=by rw[l1]at ho;omega
   simp[this]
  ·obtain⟨y,hy,KQ⟩:=d2 _ d (l4 i x j d hx hc)
   have lO:=(List.getElem?_eq_some_iff.1 hy).1
   have CJ:i*sz+j<c.size:=Nat.lt_of_lt_of_le lO q3
   have hr:=(q4 _ y c[i*sz+j] hy (by simp)).bF KQ
   have hg:(c.getD (i*sz+j) undef)=c[i*sz+j]:=by simp[CJ]
   show aU w _ d (c.getD (i*sz+j) undef)
   rw[hg]
   exact hr.mono fun b' o h=>⟨.inl h,rfl⟩
theorem Ze(hI:Inv gl w0 an e a w g){ts:List Nat}{c b:Nat}(hc:e.boxes[c]? =some (.one (.m b))){l:List (MK×D)}(hl:e.boxes[b]? =some (.map l))(bf:b≠c)(er:rk b ts e.ai 0=true)
  (lR:oD b (e.boxes.set c .none)=true):∃g',Inv gl w0 an ⟨ke b (fun _=>.undef) .undef ts e.ai 0,(e.boxes.set b .none).set c (.cells [.mp l])⟩ a w g':=by
 refine⟨_,Ht hI (r:=fun _=>.undef) (rm:=.undef) er (S:=fun b' o=>g.bx[b]? =some (some b')∧o=0) (fun b' o h=>h.1) (cP:=(e.boxes.set b .none).set c (.cells [.mp l])) (by simp) (ov:=none) (Ax:=g.ow) (fun _ _=>rfl) _ rfl
  (fun i bx mK hni h1 h2=>?_) (fun t x h=>by cases h) ⟨fun _ _ _ _=>.undef _ _,fun _ _=>.undef _ _⟩⟩
 by_cases KR:c=i
 ·right
  subst KR
  obtain⟨q0,cc,ty,q1,q2,q3,q4⟩:=hI.boxes c _ mK hc h2
  rw[List.getElem?_set_self (by simp;exact(List.getElem?_eq_some_iff.1 hc).1)]at h1
  cases h1
  have nP:cc[0]? =some cc[0]:=by simp
  have hr:=q4 _ nP
  generalize hcy:cc[0]=y at hr nP
  cases hr with
  |m _ _ aj hb=>
   obtain⟨_,es,clock,p1,p2,p3⟩:=hI.boxes b _ aj hl hb
   refine⟨q0,cc,ty,q1,fun j y hj=>q2 j y hj,q3,fun j x y hx hy=>?_⟩
   cases j with
   |succ j=>simp at hx
   |zero=>
    simp at hx;subst hx
    rw[nP]at hy;cases hy
    exact .mp _ l aj es clock p1 (.inr ⟨hb,rfl⟩) p2 fun i x y hx hy=>⟨(p3 i x y hx hy).1,(p3 i x y hx hy).2.1,(p3 i x y hx hy).2.2.mono fun b' o h=>⟨.inl h,rfl⟩⟩
 ·left
  rw[List.getElem?_set_ne KR,List.getElem?_set_ne (fun h=>hni h.symm)]at h1
  exact⟨h1,fun s hs=>by
   subst hs
   exact Dy lR i s (by rw[List.getElem?_set_ne KR];exact h1)⟩
theorem Zf(hI:Inv gl w0 an e a w g){x:gd}{k:Env→Prop}(h:eJ e k x):∃e' g',Inv gl w0 an e' a w g'∧k e'∧oL (eR [x]) e e':=by
 cases x with
 |box t As=>
  simp only[eJ]at h
  split at h
  ·rename_i x hx
   unfold ga at h
   split at h
   rotate_left
   ·exact⟨e,g,hI,h,rfl,Nat.le_refl _,fun _ _=>rfl,.refl _ _⟩
   ·exact h.elim
   rename_i sz0 L0
   obtain⟨aej,h⟩:=h
   subst aej
   obtain⟨sz,L,g',he,aX⟩:=Za hI hx ⟨_,_,rfl⟩
   cases he
   refine⟨_,g',aX,h,by simp,by simp,fun u hu=>?_,fun i hi=>?_⟩
   ·simp only[eR,List.mem_singleton]at hu
    simp only
    rw[dY (fun h=>hu h.symm)]
   ·simp only[List.getD_eq_getElem?_getD]
    rw[List.getElem?_append_left hi]
    by_cases h:(e.boxes[i]?).getD .none =.none
    ·exact .inl h
    ·exact .inr ⟨h,rfl⟩
  ·exact h.elim
 |oX t ts=>
  have fr:∀{b r rm},oL (eR [.oX t ts]) e (rl b r rm ts e):=by
   intro b r rm
   have:eR [.oX t ts]=ts:=by simp[eR]
   rw[this];exact OQ
  simp only[eJ]at h
  split at h
  ·rename_i b n sz0 hs
   split at h
   ·rename_i cs bO
    cases dn:kP b ts e with
    |false=>rw[dn]at h;exact h.elim
    |true=>
     rw[dn,cond_true]at h
     obtain⟨ds,lL,hlen,hk⟩:=aF h
     obtain⟨d1,d2⟩:=HQ lL
     refine Exists.elim (OP hI (b:=b) (ts:=ts) (r:=fun m=>iJ m n (.d (.sl .ro 1 ds))) (rm:=.undef) dn (S:=fun b' o=>g.bx[b]? =some (some b')∧o<n) (fun b' o h=>h.1) (fun g' gz=>⟨fun m As v hv=>?_,fun v hv=>.undef _ _⟩)) fun g' aX=>⟨_,g',aX,hk,fr⟩
     ·unfold iJ
      split
      ·rename_i hmn
       subst hmn
       obtain⟨bW,fI⟩:=hv.zS
       have Sv:ds.length=m:=d1.trans hlen
       obtain⟨aj,cap,hb,bE,rfl,_⟩:=fI
       obtain⟨q0,c,ty,q1,q2,q3,q4⟩:=hI.boxes b _ aj bO hb
       have bV:∀d∈ds,d.one=true:=by
        intro d hd
        obtain⟨j,hj⟩:=List.mem_iff_getElem?.1 hd
        obtain⟨x,hx,yk⟩:=d2 j d hj
        have jC:=(List.getElem?_eq_some_iff.1 hx).1
        have hjc:j<c.size:=Nat.lt_of_lt_of_le jC q3
        exact((q4 j x c[j] hx (by simp)).bF yk).Qr (q2 j c[j] jC (by simp))
       have cN:∀d∈ds,d.cells=[d]:=fun d hd=>D.u3 (bV d hd)
       have:=aU.sl (w:=w) (St:=g'.St) 1 ds aj 0 cap (fun o=>c.getD o undef) (by omega) (by omega) (fun d hd=>by rw[cN d hd];rfl)
        (fun d hd x hx=>by rw[cN d hd]at hx;rw[List.mem_singleton.1 hx];exact bV d hd) (fun o ho=>⟨by
          rw[cell_of_row w aj (0+o) c ty (0,0) q1]
          have:o<c.size:=by omega
          simp[this],by rw[gz];exact .inr ⟨hb,by omega⟩⟩) (fun i d j x hd hx=>by
          rw[cN d (List.mem_of_getElem? hd)]at hx
          have hj:j=0:=by
           cases j with
           |zero=>rfl
           |succ j=>simp at hx
          subst hj
          simp at hx;subst hx
          obtain⟨y,hy,KQ⟩:=d2 i d hd
          have lO:=(List.getElem?_eq_some_iff.1 hy).1
          have CJ:i<c.size:=Nat.lt_of_lt_of_le lO q3
          have hr:=(q4 i y c[i] hy (by simp)).bF KQ
          simp only[Nat.mul_one,Nat.add_zero]
          simp[CJ]
          exact hr.mono fun b' o h=>⟨by rw[gz];exact .inl h,rfl⟩)
       rw[Sv]at this
       exact .d _ _ _ this
      ·exact .undef _ _
   ·exact h.elim
  ·rename_i b hs
   split at h
   ·rename_i l hl
    cases dn:kP b ts e with
    |false=>rw[dn]at h;exact h.elim
    |true=>
     rw[dn,cond_true]at h
     refine Exists.elim (OP hI (b:=b) (ts:=ts) (r:=fun _=>.undef) (rm:=.mp l) dn (S:=fun b' o=>g.bx[b]? =some (some b')∧o=0) (fun b' o h=>h.1) (fun g' gz=>⟨fun m As v hv=>.undef _ _,fun v hv=>?_⟩)) fun g' aX=>⟨_,g',aX,h,fr⟩
     ·cases hv with
      |m _ _ aj hb=>
       obtain⟨q0,es,clock,q1,q2,q3⟩:=hI.boxes b _ aj hl hb
       exact .mp _ l aj es clock q1 (by rw[gz];exact .inr ⟨hb,rfl⟩) q2 fun i x y hx hy=>⟨(q3 i x y hx hy).1,(q3 i x y hx hy).2.1,(q3 i x y hx hy).2.2.mono fun b' o h=>⟨by rw[gz];exact .inl h,rfl⟩⟩
   ·exact h.elim
  ·exact⟨e,g,hI,h,rfl,Nat.le_refl _,fun _ _=>rfl,.refl _ _⟩
  ·exact h.elim
 |jz t agg sz ts=>
  simp only[eJ]at h
  split at h
  ·rename_i b n s0 hs
   split at h
   ·rename_i cs bO
    cases dn:(kP b (t::ts) e&&Nat.beq s0 sz&&Nat.blt 0 sz&&(agg||Nat.beq sz 1))with
    |false=>rw[dn]at h;exact h.elim
    |true=>
     rw[dn,cond_true]at h
     simp only[Bool.and_eq_true]at dn
     obtain⟨⟨⟨h1,h2⟩,h3⟩,h4⟩:=dn
     have h2:=Nat.eq_of_beq_eq_true h2
     subst h2
     obtain⟨ds,lL,h⟩:=aF h
     obtain⟨L,hL,hk⟩:=aF h
     obtain⟨g',aX⟩:=Zd hI hs bO h1 (Zc h3) (agg:=agg) (fun ha=>by subst ha;exact Nat.eq_of_beq_eq_true (by simpa using h4)) lL hL
     refine⟨_,g',aX,hk,?_⟩
     have KT:eR [.jz t agg s0 ts]=t::ts:=by simp[eR]
     rw[KT]
     exact D9 (ov:=some (t,.bt s0 L)) List.length_set HR (fun t' x h=>by cases h;simp)
   ·exact h.elim
  ·exact⟨e,g,hI,h,rfl,Nat.le_refl _,fun _ _=>rfl,.refl _ _⟩
  ·exact h.elim
 |emp t=>
  simp only[eJ]at h
  split at h
  ·rename_i x hx
   obtain⟨y,hy,hk⟩:=aF h
   have hs:=iI hI t
   rw[hx]at hs
   exact⟨_,g,hI.IE (.v _ _ _ (WG hy hs.iK)),hk,Ep⟩
  ·exact h.elim
 |jc t=>
  simp only[eJ]at h
  split at h
  ·rename_i x hx
   obtain⟨y,hy,hk⟩:=aF h
   obtain⟨g',aX⟩:=Zb hI hx hy
   exact⟨_,g',aX,hk,Ep⟩
  ·exact h.elim
 |nN t ts=>
  simp only[eJ]at h
  split at h
  ·rename_i c hs
   split at h
   ·rename_i b hb
    split at h
    ·rename_i l hl
     cases dn:(!(Nat.beq b c)&&rk b ts e.ai 0&&oD b (e.boxes.set c .none))with
     |false=>rw[dn]at h;exact h.elim
     |true=>
      rw[dn,cond_true]at h
      simp only[Bool.and_eq_true,Bool.not_eq_true']at dn
      obtain⟨⟨h1,h2⟩,h3⟩:=dn
      have bf:b≠c:=fun e=>by subst e;simp at h1
      obtain⟨g',aX⟩:=Ze hI hb hl bf h2 h3
      refine⟨_,g',aX,h,?_⟩
      have:eR [.nN t ts]=ts:=by simp[eR]
      rw[this]
      exact D9 (ov:=none) (by simp) (OR hb) (fun t' x h=>by cases h)
    ·exact h.elim
   ·exact h.elim
  ·exact h.elim
theorem OS{k k':Env→Prop}(hk:∀e,k e→k' e){e:Env}{x:gd}(h:eJ e k x):eJ e k' x:=by
 cases x with
 |box t As=>
  simp only[eJ]at h ⊢
  split at h
  ·unfold ga at h ⊢
   split at h
   ·exact⟨h.1,hk _ h.2⟩
   ·exact hk _ h
   ·exact h.elim
  ·exact h.elim
 |oX t ts=>
  simp only[eJ]at h ⊢
  split at h
  ·split at h
   ·rename_i cs bO
    cases dn:kP _ ts e with
    |false=>rw[dn]at h;exact h.elim
    |true=>
     rw[dn,cond_true]at h
     obtain⟨ds,lL,hl,h⟩:=aF h
     simp only[lL,ab]
     exact⟨hl,hk _ h⟩
   ·exact h.elim
  ·split at h
   ·rename_i l hl
    cases dn:kP _ ts e with
    |false=>rw[dn]at h;exact h.elim
    |true=>
     rw[dn,cond_true]at h
     exact hk _ h
   ·exact h.elim
  ·exact hk _ h
  ·exact h.elim
 |jz t agg sz ts=>
  simp only[eJ]at h ⊢
  split at h
  ·split at h
   ·rename_i cs bO
    cases dn:(kP _ (t::ts) e&&Nat.beq _ sz&&Nat.blt 0 sz&&(agg||Nat.beq sz 1))with
    |false=>rw[dn]at h;exact h.elim
    |true=>
     rw[dn,cond_true]at h
     obtain⟨ds,lL,h⟩:=aF h
     obtain⟨L,hL,h⟩:=aF h
     simp only[cond_true,lL,ab,hL]
     exact hk _ h
   ·exact h.elim
  ·exact hk _ h
  ·exact h.elim
 |emp t=>
  simp only[eJ]at h ⊢
  split at h
  ·obtain⟨y,hy,h⟩:=aF h
   simp only[hy,ab]
   exact hk _ h
  ·exact h.elim
 |jc t=>
  simp only[eJ]at h ⊢
  split at h
  ·obtain⟨y,hy,h⟩:=aF h
   simp only[hy,ab]
   exact hk _ h
  ·exact h.elim
 |nN t ts=>
  simp only[eJ]at h ⊢
  split at h
  ·split at h
   ·rename_i b hb
    split at h
    ·rename_i l hl
     cases dn:(!(Nat.beq b _)&&rk b ts e.ai 0&&oD b (e.boxes.set _ .none))with
     |false=>rw[dn]at h;exact h.elim
     |true=>
      rw[dn,cond_true]at h
      simp only[cond_true]
      exact hk _ h
    ·exact h.elim
   ·exact h.elim
  ·exact h.elim
theorem WH{k:Env→Prop}{e:Env}{x:gd}(h:eJ e k x):eJ e (fun e'=>k e'∧oL (eR [x]) e e') x:=by
 cases x with
 |box t As=>
  simp only[eJ]at h ⊢
  split at h
  ·unfold ga at h ⊢
   split at h
   ·refine⟨h.1,h.2,by simp,by simp,fun u hu=>?_,fun i hi=>?_⟩
    ·simp only[eR,List.mem_singleton]at hu
     simp only
     rw[dY (fun h=>hu h.symm)]
    ·simp only[List.getD_eq_getElem?_getD]
     rw[List.getElem?_append_left hi]
     by_cases h:(e.boxes[i]?).getD .none =.none
     ·exact .inl h
     ·exact .inr ⟨h,rfl⟩
   ·exact⟨h,rfl,Nat.le_refl _,fun _ _=>rfl,.refl _ _⟩
   ·exact h.elim
  ·exact h.elim
 |oX t ts=>
  have fr:∀{b r rm},oL (eR [.oX t ts]) e (rl b r rm ts e):=by
   intro b r rm
   have:eR [.oX t ts]=ts:=by simp[eR]
   rw[this];exact OQ
  simp only[eJ]at h ⊢
  split at h
  ·split at h
   ·rename_i cs bO
    cases dn:kP _ ts e with
    |false=>rw[dn]at h;exact h.elim
    |true=>
     rw[dn,cond_true]at h
     obtain⟨ds,lL,hl,h⟩:=aF h
     simp only[lL,ab]
     exact⟨hl,h,fr⟩
   ·exact h.elim
  ·split at h
   ·rename_i l hl
    cases dn:kP _ ts e with
    |false=>rw[dn]at h;exact h.elim
    |true=>
     rw[dn,cond_true]at h
     exact⟨h,fr⟩
   ·exact h.elim
  ·exact⟨h,rfl,Nat.le_refl _,fun _ _=>rfl,.refl _ _⟩
  ·exact h.elim
 |jz t agg sz ts=>
  simp only[eJ]at h ⊢
  split at h
  ·split at h
   ·rename_i cs bO
    cases dn:(kP _ (t::ts) e&&Nat.beq _ sz&&Nat.blt 0 sz&&(agg||Nat.beq sz 1))with
    |false=>rw[dn]at h;exact h.elim
    |true=>
     rw[dn,cond_true]at h
     obtain⟨ds,lL,h⟩:=aF h
     obtain⟨L,hL,h⟩:=aF h
     simp only[cond_true,lL,ab,hL]
     refine⟨h,?_⟩
     have KT:eR [.jz t agg sz ts]=t::ts:=by simp[eR]
     rw[KT]
     exact D9 (ov:=some (t,.bt sz L)) List.length_set HR (fun t' x h=>by cases h;simp)
   ·exact h.elim
  ·exact⟨h,rfl,Nat.le_refl _,fun _ _=>rfl,.refl _ _⟩
  ·exact h.elim
 |emp t=>
  simp only[eJ]at h ⊢
  split at h
  ·obtain⟨y,hy,h⟩:=aF h
   simp only[hy,ab]
   exact⟨h,Ep⟩
  ·exact h.elim
 |jc t=>
  simp only[eJ]at h ⊢
  split at h
  ·obtain⟨y,hy,h⟩:=aF h
   simp only[hy,ab]
   exact⟨h,Ep⟩
  ·exact h.elim
 |nN t ts=>
  simp only[eJ]at h ⊢
  split at h
  ·split at h
   ·rename_i b hb
    split at h
    ·rename_i l hl
     cases dn:(!(Nat.beq b _)&&rk b ts e.ai 0&&oD b (e.boxes.set _ .none))with
     |false=>rw[dn]at h;exact h.elim
     |true=>
      rw[dn,cond_true]at h
      simp only[cond_true]
      exact⟨h,by
       have:eR [.nN t ts]=ts:=by simp[eR]
       rw[this]
       exact D9 (ov:=none) (by simp) (OR hb) (fun t' x h=>by cases h)⟩
    ·exact h.elim
   ·exact h.elim
  ·exact h.elim
theorem WI(x:gd)(l:List gd):eR (x::l)=eR [x]++eR l:=by cases x<;>simp[eR]
theorem oL.trans{ws vs:List Nat}{e e1 e2:Env}(h1:oL ws e e1)(h2:oL vs e1 e2):oL (ws++vs) e e2:=
 ⟨h2.1.trans h1.1,Nat.le_trans h1.2.1 h2.2.1,fun t ht=>(h2.2.2.1 t fun h=>ht (List.mem_append_right _ h)).trans (h1.2.2.1 t fun h=>ht (List.mem_append_left _ h)),h1.2.2.2.trans h1.2.1 h2.2.2.2⟩
theorem wW{k k':Env→Prop}(hk:∀e,k e→k' e):∀{l:List gd}{e:Env},fP l e k→fP l e k'
 |[],_,h=>hk _ h
 |x::l,e,h=>OS (fun e'=>wW hk (l:=l)) (show eJ e (fun e'=>fP l e' k) x from h)
theorem He{k:Env→Prop}:∀{l:List gd}{e:Env},fP l e k→fP l e fun e'=>k e'∧oL (eR l) e e'
 |[],e,h=>⟨h,rfl,Nat.le_refl _,fun _ _=>rfl,.refl _ _⟩
 |x::l,e,h=>OS (fun _⟨h1,h2⟩=>wW (fun e2⟨h3,h4⟩=>⟨h3,by rw[WI];exact h2.trans h4⟩) (He (l:=l) h1)) (WH (show eJ e (fun e'=>fP l e' k) x from h))
theorem zj:∀{l:List gd}{e:Env}{g:Gh}{k:Env→Prop},Inv gl w0 an e a w g→fP l e k→∃e' g',Inv gl w0 an e' a w g'∧k e'
 |[],e,g,k,hI,h=>⟨e,g,hI,h⟩
 |x::l,e,g,k,hI,h=>by
  obtain⟨e',g',aX,h',_⟩:=Zf hI (show eJ e (fun e'=>fP l e' k) x from h)
  exact zj aX h'
end
end Go.Proofs.Ytimbllcalipehaa.Ab
set_option linter.unusedVariables false
set_option linter.unusedSimpArgs false
namespace Go.Proofs.Ytimbllcalipehaa.Ab
open Go Go.RowKit
section
variable{P:Program}{gl:Nat→Option D}{w0:World}{an:S0}{e:Env}{a:Act}{w:World}{g:Gh}
def lG(P:Program):List Oper→Act→World→(Act→World→Prop)→Prop
 |[],a,w,R=>R a w
 |o::l,a,w,R=>o.guard=none∧(∀c,o.op≠.defer c)∧∀(next:Act→World→Prop)(Q:Exit→Act→World→Prop),(∀v w1,(a.put o.dst v).defers =[]→lG P l (a.put o.dst v) w1 R→next (a.put o.dst v) w1)→o.wp P a w next Q
theorem lG.val{o:Oper}{l:List Oper}{a:Act}{w:World}{R:Act→World→Prop}{v:Value}{w1:World}(hg:o.guard=none)(kZ:∀c,o.op≠.defer c)(hd:a.defers=[])(hr:(execOp a.eval o).run P w=.ok (.value v) w1)(h:lG P l (a.put o.dst v) w1 R):lG P (o::l) a w R:=
 ⟨hg,kZ,fun next Q hn=>by unfold Oper.wp;rw[hr];exact hn v w1 ((put_defers a o.dst v).trans hd) h⟩
theorem XM(x:SV):Ab.aa (Ab.aa x)=Ab.aa x:=by cases x<;>rfl
theorem aU.PA{St:Nat→Nat→Prop}{sz:Nat}{L:List D}{v:Value}(h:aU w St (.sl .nil sz L) v):v=.slice none 0 0∧L=[]:=by
 cases h;exact⟨rfl,rfl⟩
theorem sF{a:Act}{d t:Nat}{v:Value}(h:t≠d):(a.put (some d) v).tmps.getD t undef=a.tmps.getD t undef:=by
 simp only[Act.put,Array.getD_eq_getD_getElem?]
 rw[Array.getElem?_setIfInBounds_ne (fun hh=>h hh.symm)]
theorem Inv.Zg(hI:Inv gl w0 an e a w g){t:Nat}{s n:Nat}{L L':List D}{gg cap:Nat}(ht:t<e.ai.length)(hs:ef w0.heap.size w g (.s t 0) gg 0 (cap*s)){cur mM:Array Value}{te:TypeId}(hc:w.heap[gg]? =some (.cells cur te (0,0)))
  (aH:mM.size=cur.size)(ju:∀(w':World)(St:Nat→Nat→Prop),w'.heap[gg]? =some (.cells mM te (0,0))→ef w0.heap.size w' g (.s t 0) gg 0 (cap*s)→(∀d v,aU w g.St d v→aU w' g.St d v)→aG w' g.St w0.heap.size (eA w0.heap.size w' g t 0) (.bt s L') (a.tmps.getD t undef)):
  Inv gl w0 an ⟨e.ai.set t (.v (.bt s L')),e.boxes⟩ a (w.setRow gg mM) g:=by
 obtain⟨o1,o2,o3,⟨cu,ty,o4,o0⟩,o5⟩:=hs
 rw[hc]at o4;cases o4
 have hn:=setRow_heap w gg cur mM te (0,0) hc
 have dH:=fun k(hk:k≠gg)=>setRow_other w gg k mM hk
 have acS:∀b' o,g.St b' o→b'≠gg:=fun b' o h he=>o5 o (Nat.zero_le _) (he▸h)
 have hX:Ext w0.heap.size w g (w.setRow gg mM) g (fun p=>p=.s t 0):=by
  refine⟨fun D ob iB eg h=>⟨(dH D (fun he=>by subst he;rw[o1]at eg;cases eg)).trans h,iB,eg,fun _ h=>h⟩,fun b' o h=>⟨h,.pt (dH b' (acS b' o h))⟩,fun b' o h=>World.cell?_of_block (dH b' (by omega)),fun _ _ h=>h,fun p b' a' c' hp bH=>?_,fun b' c' pY kD dq=>⟨c',pY,(dH b' (fun he=>o3 (he▸kD))).trans dq,rfl⟩⟩
  obtain⟨p1,p2,p3,⟨cu,t',p4,p4'⟩,p5⟩:=bH
  have bf:b'≠gg:=fun he=>by subst he;rw[o1]at p1;cases p1;exact hp rfl
  exact⟨⟨p1,p2,p3,⟨cu,t',(dH b' bf).trans p4,p4'⟩,p5⟩,fun _=>dH b' bf⟩
 have acT:ef w0.heap.size (w.setRow gg mM) g (.s t 0) gg 0 (cap*s):=⟨o1,o2,o3,⟨mM,te,hn,aH.trans o0⟩,o5⟩
 have dO:Below w0.heap.size w (w.setRow gg mM):=⟨rfl,rfl,rfl,by simp[World.setRow],fun k hk=>dH k (by omega)⟩
 have:=hI.stepG (dst:=none) (s:=.t []) (v:=undef) (ai:=e.ai.set t (.v (.bt s L'))) (ax:=e.boxes) hX dO (by simp) (fun i x hx _=>?_) (fun d hd=>by cases hd) hI.eB
  (fun b' bx aj h1 h2=>hX.box (fun j hh=>by cases hh) (dH aj (fun he=>o3 (by rw[←he];exact List.mem_of_getElem? h2))) (hI.boxes b' bx aj h1 h2)) hI.nodup (fun b' kD=>by have:=hI.cZ b' kD;exact⟨this.1,by simpa[World.setRow]using this.2⟩) (fun b' o h=>by have:=hI.cm b' o h;exact⟨this.1,this.2.1,by simpa[World.setRow]using this.2.2⟩)
 ·exact this
 ·rw[List.getElem?_set]at hx
  split at hx
  ·rename_i fU
   subst fU
   simp only[ht,↓reduceIte,Option.some.injEq]at hx
   subst hx
   exact .v _ _ _ (ju _ (fun _ _=>False) hn acT (fun d v hr=>hX.z0 hr))
  ·rename_i fU
   refine hX.slot (fun j=>?_) (hI.ai i x hx)
   intro hh;cases hh;exact fU rfl
theorem Inv.Rt(hI:Inv gl w0 an e a w g){t:Nat}{y:SV}(h:aG w g.St w0.heap.size (eA w0.heap.size w g t 0) y (a.tmps.getD t undef)):Inv gl w0 an ⟨e.ai.set t (.v y),e.boxes⟩ a w g:=by
 refine⟨hI.below,by simpa using hI.size,fun i s hs=>?_,hI.eB,hI.boxes,hI.nodup,hI.fp,hI.cm,hI.cZ,hI.ja,hI.defers,hI.ek,hI.cls,hI.iA⟩
 rw[List.getElem?_set]at hs
 split at hs
 ·rename_i fU
  subst fU
  split at hs
  ·cases hs;exact .v _ _ _ h
  ·cases hs
 ·exact hI.ai i s hs
theorem WJ(hI:Inv gl w0 an e a w g){t:Nat}{ty:TypeId}{x y:SV}(hx:e.ai.getD t (.v .undef)=.v x)(hy:tG P ty x=some y)(pY:TypeId):
  ∃w',(Builtin.clear_ #[ty] pY #[a.tmps.getD t undef]).run P w=.ok (.tuple #[]) w'∧Inv gl w0 an ⟨e.ai.set t (.v y),e.boxes⟩ a w' g:=by
 have hr:aG w g.St w0.heap.size (eA w0.heap.size w g t 0) x (a.tmps.getD t undef):=by
  have:=iI hI t
  rw[hx]at this
  exact this.iK
 unfold tG at hy
 split at hy
 ·rename_i e' he
  have hu:=A6 he
  split at hy
  ·rename_i z aH hz
   split at hy
   ·rename_i s L
    cases hy
    obtain⟨hv,hL⟩:=hr.data.PA
    subst hL
    refine⟨w,?_,hI.Rt (by rw[hv];exact .d _ _ _ (.fD _))⟩
    rw[hv]
    simp[Builtin.clear_,run_underlying hu]
   ·rename_i s L
    split at hy
    ·rename_i er
     subst er
     cases hy
     have CE:t<e.ai.length:=by
      rcases Nat.lt_or_ge t e.ai.length with h|h
      ·exact h
      ·rw[List.getD_eq_getElem?_getD,List.getElem?_eq_none h]at hx;cases hx
     generalize hv:a.tmps.getD t undef=v at hr
     cases hr with
     |bt _ _ _ gg cap vs bE hm Ru hf ho aL hc=>
      rcases Nat.eq_zero_or_pos L.length with h0|h0
      ·have:L=[]:=List.length_eq_zero_iff.1 h0
       subst this
       refine⟨w,?_,?_⟩
       ·rw[List.length_nil]
        simp[Builtin.clear_,run_underlying hu]
       ·refine hI.Rt ?_
        rw[hv]
        exact .bt _ _ _ gg cap vs bE hm Ru hf ho aL hc
      ·obtain⟨zv,rN,qe⟩:=NZ hz
       obtain⟨i,zv',hzi,hzz,x7,Sl,af4⟩:=N5 hz
       have vw:zv.oneCell'=true:=(qe w (fun _ _=>False)).pw x7
       have oB:zv.cells= #[zv]:=by
        have hh:=rN w
        unfold qR at hz
        rw[hzi]at hz
        simp only at hz
        cases zv<;>first|rfl|simp[Value.oneCell']at vw
       obtain⟨cur,te,o4,o0⟩:=ho.2.2.2.1
       have lM:(Builtin.zeroCells zv.cells L.length).toList =List.replicate L.length zv:=by
        rw[oB]
        apply List.ext_getElem?
        intro i
        simp only[Builtin.zeroCells,Array.toList_map,List.getElem?_map,Array.getElem?_toList,List.getElem?_replicate]
        by_cases hi:i<L.length
        ·simp[hi,Nat.mod_one]
        ·simp[hi]
       have aT:=run_storeCells_at P gg 0 te (List.replicate L.length zv) 0 cur w o4 (by simp;rw[o0];omega) (fun v fI=>by rw[(List.mem_replicate.1 fI).2];exact vw)
       simp only[Nat.add_zero,Nat.zero_add,List.length_replicate,List.take_zero,List.nil_append]at aT
       refine⟨w.setRow gg (List.replicate L.length zv++cur.toList.drop L.length).toArray,?_,?_⟩
       ·have bf:L.length≠0:=by omega
        obtain⟨m,kD⟩:=Nat.exists_eq_succ_of_ne_zero bf
        have Rv:=lM
        rw[kD]at Rv aT ⊢
        simp only[Builtin.clear_,List.getElem?_toArray,List.getElem?_cons_zero,Sem.run_bind,run_underlying hu,Result.andThen_ok,rN,Rv,aT,Sem.run_pure]
       ·have:=hI.Zg (t:=t) (s:=1) (n:=0) (L:=L) (L':=L.map fun _=>z) (gg:=gg) (cap:=cap) CE ho o4 (mM:=(List.replicate L.length zv++cur.toList.drop L.length).toArray) (by simp;omega) (fun w' St h1 h2 h3=>?_)
        ·exact this
        ·rw[hv]
         have iw:∀i,i<L.length→(List.replicate L.length zv++cur.toList.drop L.length).toArray[i]? =some zv:=fun i hi=>by
          simp only[List.getElem?_toArray]
          rw[List.getElem?_append_left (by simpa using hi)]
          simp[hi]
         have hlen:(L.map fun _=>z).length =L.length:=by simp
         rw[←hlen]
         refine .bt _ 1 _ gg cap (fun _=>zv) (by simpa using bE) hm (fun x hx=>?_) (fun x hx c fb=>?_) h2 (fun o bH=>?_) (fun i x j c hx fR=>?_)
         ·obtain⟨_,_,rfl⟩:=List.mem_map.1 hx
          rw[D.u3 x7];rfl
         ·obtain⟨_,_,rfl⟩:=List.mem_map.1 hx
          rw[D.u3 x7]at fb
          simp at fb;subst fb;exact x7
         ·have CL:o<L.length:=by simpa using bH
          rw[show o=0+o by omega,cell_of_row w' gg (0+o) _ te (0,0) h1]
          rw[Nat.zero_add]
          exact iw o CL
         ·obtain⟨z',_,iO⟩:=List.mem_map.1 (List.mem_of_getElem? hx)
          subst iO
          rw[D.u3 x7]at fR
          cases j with
          |zero=>simp at fR;subst fR;exact qe _ _
          |succ j=>simp at fR
    ·cases hy
   ·cases hy
  ·cases hy
 ·cases hy
inductive xf(P:Program):Spec→List Oper→Prop
 |ue (t d:Nat) (ty:TypeId) (o1 o2:Oper) (c:Call) (h1:o1.op=.move (.tmp t)) (d1:o1.dst=some d) (g1:o1.guard=none) (h2:o2.op=.call c) (d2:o2.dst=none) (g2:o2.guard=none) (hc:c.callee=.builtin .clear) (ha:c.args.toList=[.tmp d]) (ht:c.argTypes.toList=[ty]) (bf:t≠d):
   xf P (.ue t d ty) [o1,o2]
 |cut (t d1 d2:Nat) (ty:TypeId) (o1 o2 o3:Oper) (h1:o1.op=.move (.tmp t)) (e1:o1.dst=some d1) (g1:o1.guard=none) (h2:o2.op=.slice ty (.tmp d1) none (some (.const (.int .i64 0))) none) (e2:o2.dst=some d2) (g2:o2.guard=none)
   (h3:o3.op=.assign (.tmp d2)) (e3:o3.dst=some t) (g3:o3.guard=none) (n1:t≠d1) (n2:t≠d2) (n3:d1≠d2):xf P (.cut t d1 d2 ty) [o1,o2,o3]
 |tF (t d:Nat) (f:FuncId) (u:Nat) (o1 o2:Oper) (c:Call) (h1:o1.op=.move (.tmp t)) (d1:o1.dst=some d) (g1:o1.guard=none) (h2:o2.op=.call c) (d2:o2.dst=some u) (g2:o2.guard=none) (hc:c.callee=.value (.func f)) (ha:c.args.toList=[.tmp d]) (h0:arity P o2.type=0)
   (n1:t≠d) (n2:u≠d) (n3:u≠t):xf P (.tF t d f u) [o1,o2]
 |tp (t d t2 e2:Nat) (f:FuncId) (u:Nat) (o1 o2 o3:Oper) (c:Call) (h1:o1.op=.move (.tmp t)) (d1:o1.dst=some d) (g1:o1.guard=none) (h2:o2.op=.move (.tmp t2)) (d2:o2.dst=some e2) (g2:o2.guard=none) (h3:o3.op=.call c) (d3:o3.dst=some u) (g3:o3.guard=none) (hc:c.callee=.value (.func f)) (ha:c.args.toList=[.tmp d,.tmp e2]) (h0:arity P o3.type=0)
   (n1:t≠d) (n2:u≠d) (n3:u≠t) (n4:e2≠d) (n5:e2≠t) (n6:t2≠d):xf P (.tp t d t2 e2 f u) [o1,o2,o3]
theorem GY{draw:Bool}{ops:List Oper}{s:Spec}(h:s6 P draw ops=some s):draw=false∧xf P s ops:=by
 unfold s6 at h
 cases draw with
 |true=>cases h
 |false=>
  refine⟨rfl,?_⟩
  simp only[cond_false]at h
  split at h
  ·rename_i o1 o2
   split at h
   ·rename_i t d c h1 e1 g1 h2 e2 g2
    split at h
    ·rename_i d' ty hc ha ht
     cases hb:(Nat.beq d d'&& !(Nat.beq t d))with
     |false=>rw[hb]at h;cases h
     |true=>
      rw[hb]at h
      cases h
      simp only[Bool.and_eq_true,Bool.not_eq_true']at hb
      have hd:=Nat.eq_of_beq_eq_true hb.1
      subst hd
      exact .ue t d ty o1 o2 c h1 e1 g1 h2 e2 g2 hc ha ht (Nat.ne_of_beq_eq_false hb.2)
    ·cases h
   ·rename_i t d c u h1 e1 g1 h2 e2 g2
    split at h
    ·rename_i f d' hc ha
     cases hb:(Nat.beq (arity P o2.type) 0&&(Nat.beq d d'&& !(Nat.beq t d)&& !(Nat.beq u d)&& !(Nat.beq u t)))with
     |false=>rw[hb]at h;cases h
     |true=>
      rw[hb]at h
      cases h
      simp only[Bool.and_eq_true,Bool.not_eq_true']at hb
      obtain⟨b0,⟨⟨b1,b2⟩,b3⟩,b4⟩:=hb
      have hd:=Nat.eq_of_beq_eq_true b1
      subst hd
      exact .tF t d f u o1 o2 c h1 e1 g1 h2 e2 g2 hc ha (Nat.eq_of_beq_eq_true b0) (Nat.ne_of_beq_eq_false b2) (Nat.ne_of_beq_eq_false b3) (Nat.ne_of_beq_eq_false b4)
    ·cases h
   ·cases h
  ·rename_i o1 o2 o3
   split at h
   ·rename_i t d1 ty Kr d2 xX t' h1 e1 g1 h2 e2 g2 h3 e3 g3
    cases hb:(Nat.beq d1 Kr&&Nat.beq d2 xX&&Nat.beq t t'&& !(Nat.beq t d1)&& !(Nat.beq t d2)&& !(Nat.beq d1 d2))with
    |false=>rw[hb]at h;cases h
    |true=>
     rw[hb]at h
     cases h
     simp only[Bool.and_eq_true,Bool.not_eq_true']at hb
     obtain⟨⟨⟨⟨⟨b1,b2⟩,b3⟩,b4⟩,b5⟩,b6⟩:=hb
     have hd1:=Nat.eq_of_beq_eq_true b1
     have FG:=Nat.eq_of_beq_eq_true b2
     have hd3:=Nat.eq_of_beq_eq_true b3
     subst hd1 FG hd3
     exact .cut t d1 d2 ty o1 o2 o3 h1 e1 g1 h2 e2 g2 h3 e3 g3 (Nat.ne_of_beq_eq_false b4) (Nat.ne_of_beq_eq_false b5) (Nat.ne_of_beq_eq_false b6)
   ·rename_i t d t2 d2 c u h1 e1 g1 h2 e2 g2 h3 e3 g3
    split at h
    ·rename_i f d' xX hc ha
     cases hb:(Nat.beq (arity P o3.type) 0&&(Nat.beq d d'&&Nat.beq d2 xX&& !(Nat.beq t d)&& !(Nat.beq u d)&& !(Nat.beq u t)&& !(Nat.beq d2 d)&& !(Nat.beq d2 t)&& !(Nat.beq t2 d)))with
     |false=>rw[hb]at h;cases h
     |true=>
      rw[hb]at h
      cases h
      simp only[Bool.and_eq_true,Bool.not_eq_true']at hb
      obtain⟨b0,⟨⟨⟨⟨⟨⟨b1,b1'⟩,b2⟩,b3⟩,b4⟩,b5⟩,b6⟩,b7⟩:=hb
      have hd:=Nat.eq_of_beq_eq_true b1
      have jf:=Nat.eq_of_beq_eq_true b1'
      subst hd jf
      exact .tp t d t2 d2 f u o1 o2 o3 c h1 e1 g1 h2 e2 g2 h3 e3 g3 hc ha (Nat.eq_of_beq_eq_true b0) (Nat.ne_of_beq_eq_false b2) (Nat.ne_of_beq_eq_false b3) (Nat.ne_of_beq_eq_false b4) (Nat.ne_of_beq_eq_false b5) (Nat.ne_of_beq_eq_false b6) (Nat.ne_of_beq_eq_false b7)
    ·cases h
   ·cases h
  ·cases h
theorem Bh{a:Act}{d:Nat}{v:Value}(h:d<a.tmps.size):(a.put (some d) v).eval (.tmp d)=v:=by
 show(a.put (some d) v).tmps.getD d undef=v
 rw[HJ a (some d) v d h,if_pos rfl]
theorem om{b:Bool}{A:Prop}(h:cond b A False):b=true∧A:=by cases b;exact h.elim;exact⟨rfl,h⟩
theorem Zh{St:Nat→Nat→Prop}{base:Nat}{O:Nat→Nat→Nat→Prop}{ty:TypeId}{x y:SV}{v:Value}(hr:aG w St base O x v)(hy:tH P ty x=some y):
  ∃v2,(Instr.sliceAt ty v none (some (.int .i64 0)) none).run P w=.ok v2 w∧aG w St base O y v2:=by
 unfold tH at hy
 split at hy
 ·rename_i e' he
  have hu:=A6 he
  split at hy
  ·rename_i sz aH
   split at hy
   ·rename_i s L
    cases hy
    obtain⟨hv,hL⟩:=hr.data.PA
    subst hv
    refine⟨.slice none 0 0,?_,.d _ _ _ (.fD _)⟩
    simp[Instr.sliceAt,run_underlying hu,Instr.slice,Instr.sliceBounds,Instr.sliceBound,asIntOf,iH aH]
   ·rename_i s L
    split at hy
    ·rename_i hs
     subst hs
     cases hy
     cases hr with
     |bt _ _ _ gg cap vs bE hm Ru hf ho aL hc=>
      refine⟨.slice (some ⟨gg,0,none⟩) 0 cap,?_,?_⟩
      ·have:=ot gg 0 0
       simp[Instr.sliceAt,run_underlying hu,Instr.slice,Instr.sliceBounds,Instr.sliceBound,asIntOf,iH aH,this]
      ·exact .bt O s [] gg cap vs (Nat.zero_le _) hm (fun x hx=>by cases hx) (fun x hx=>by cases hx) ho (fun o bH=>by simp at bH) (fun i x j c hx=>by simp at hx)
    ·cases hy
   ·cases hy
  ·cases hy
 ·cases hy
theorem HS(hI:Inv gl w0 an e a w g){t d:Nat}:Inv gl w0 an ⟨(e.ai.set t (e.ai.getD t (.v .undef)).aa).set d (e.ai.getD t (.v .undef)),e.boxes⟩ (a.put (some d) (a.tmps.getD t undef)) w (g.jY t (fun j=>.s d j)):=by
 have:=hI.hand (Hp e t (some d)) (Ext.jY t (fun j=>.s d j) _ (fun j=>⟨t,j,rfl,.inl rfl⟩)) (Below.refl _ _) (s:=e.ai.getD t (.v .undef)) (v:=a.tmps.getD t undef) (dst:=some d) (g':=g.jY t (fun j=>.s d j)) (fun d' hd=>?_) rfl (fun _ _=>rfl) (fun b o' aT=>hI.cm b o' aT)
 ·exact this
 ·cases hd
  exact(iI hI t).mono (fun _ _ h=>⟨h,.refl _ _ _⟩) (fun _ _ _=>rfl) (fun _ _ h=>h) (.refl _) (fun j b a' c ho=>⟨Ie (q:=fun j=>.s d j) ho,.refl _ _ _⟩)
theorem XN{a:Act}{t:Nat}{v:Value}(h:v=a.tmps.getD t undef):a.put (some t) v=a:=by
 subst h
 simp only[Act.put]
 have:a.tmps.setIfInBounds t (a.tmps.getD t undef)=a.tmps:=by
  apply Array.ext_getElem?
  intro i
  rw[Array.getElem?_setIfInBounds]
  split
  ·rename_i h
   subst h
   split
   ·rename_i hl;simp[hl]
   ·rename_i hl;simp[Array.getElem?_eq_none (by omega:a.tmps.size≤t)]
  ·rfl
 rw[this]
theorem OT(hI:Inv gl w0 an e a w g){t d:Nat}{bk:SV}(hd:e.ai.getD d (.v .undef)=.v bk)(he:a.tmps.getD d undef=a.tmps.getD t undef):
  Inv gl w0 an ⟨(e.ai.set d (.v (Ab.aa bk))).set t (.v bk),e.boxes⟩ a w (g.jY d (fun j=>.s t j)):=by
 have h1:=HS hI (t:=d) (d:=t)
 rw[hd,XN he]at h1
 exact h1
theorem OU(hI:Inv gl w0 an e a w g){ops:List Oper}{s:Spec}{K:Env→Prop}(hs:xf P s ops)(h:gF P (aB P gl) e K s):lG P ops a w (fun a' w'=>∃e' g',Inv gl w0 an e' a' w' g'∧K e'):=by
 cases hs with
 |ue t d ty o1 o2 c h1 d1 g1 h2 d2 g2 hc ha ht bf=>
  simp only[gF]at h
  split at h
  ·rename_i x hx
   obtain⟨aI,h⟩:=om h
   have aI:=Nat.lt_of_succ_le (Nat.le_of_ble_eq_true aI)
   obtain⟨y,hy,hk⟩:=aF h
   let v:=a.tmps.getD t undef
   have cK:Inv gl w0 an ⟨e.ai.set d (.v .undef),e.boxes⟩ (a.put (some d) v) w g:=by
    have:=hI.value (dst:=some d) (s:=.v .undef) (v:=v) (.v _ _ _ (.undef _ _))
    exact this
   have gx:(e.ai.set d (.v .undef)).getD t (.v .undef)=.v x:=by
    rw[List.getD_eq_getElem?_getD,List.getElem?_set_ne (fun hh=>bf hh.symm),←List.getD_eq_getElem?_getD];exact hx
   obtain⟨w',aV,cG⟩:=WJ (P:=P) cK gx hy o2.type
   have kE:(a.put (some d) v).tmps.getD t undef=v:=sF bf
   rw[kE]at aV
   have hdv:(a.put (some d) v).tmps.getD d undef=v:=by
    exact Bh (by rw[hI.size];exact aI)
   refine lG.val (v:=v) (w1:=w) g1 (fun c hc=>by rw[h1]at hc;cases hc) hI.defers (by simp[execOp,h1,Act.eval,v]) (lG.val (v:=.tuple #[]) (w1:=w') g2 (fun c hc=>by rw[h2]at hc;cases hc) (by rw[d1];exact cK.defers) ?_ ⟨_,g,?_,hk⟩)
   ·rw[d1]
    have e1:c.args.map (a.put (some d) v).eval = #[v]:=by
     apply Array.ext'
     rw[Array.toList_map,ha]
     show [(a.put (some d) v).tmps.getD d undef]=_
     rw[hdv]
    have e2:c.argTypes= #[ty]:=by apply Array.ext';rw[ht]
    simp[execOp,h2,resolve,hc,invoke,builtin,e1,e2,aV]
   ·rw[d1,d2]
    exact cG
  ·exact h.elim
 |cut t d1 d2 ty o1 o2 o3 h1 e1 g1 h2 e2 g2 h3 e3 g3 n1 n2 n3=>
  simp only[gF]at h
  split at h
  ·rename_i x hx
   obtain⟨aI,h⟩:=om h
   simp only[Bool.and_eq_true]at aI
   have E1:=Nat.le_of_ble_eq_true aI.1
   have Cc:=Nat.le_of_ble_eq_true aI.2
   obtain⟨y,hy,hk⟩:=aF h
   let v:=a.tmps.getD t undef
   have hr:aG w g.St w0.heap.size (eA w0.heap.size w g t 0) x v:=by
    have:=iI hI t
    rw[hx]at this
    exact this.iK
   obtain⟨v2,aV,aW⟩:=Zh (P:=P) hr hy
   have cK:Inv gl w0 an ⟨e.ai.set d1 (.v .undef),e.boxes⟩ (a.put (some d1) v) w g:=hI.value (dst:=some d1) (s:=.v .undef) (v:=v) (.v _ _ _ (.undef _ _))
   have cG:Inv gl w0 an ⟨(e.ai.set d1 (.v .undef)).set d2 (.v .undef),e.boxes⟩ ((a.put (some d1) v).put (some d2) v2) w g:=cK.value (dst:=some d2) (s:=.v .undef) (v:=v2) (.v _ _ _ (.undef _ _))
   have j2:Inv gl w0 an ⟨((e.ai.set d1 (.v .undef)).set d2 (.v .undef)).set t (.v y),e.boxes⟩ (((a.put (some d1) v).put (some d2) v2).put (some t) v2) w g:=by
    have:=cG.stepG (dst:=some t) (s:=.v y) (v:=v2) (w':=w) (g':=g) (lost:=fun _=>False) (ai:=(e.ai.set d1 (.v .undef)).set d2 (.v .undef)) (ax:=e.boxes) (Ext.refl _ _ _) (Below.refl _ _) rfl (fun i x hx _=>cG.ai i x hx) (fun d hd=>by cases hd;exact .v _ _ _ aW) cG.eB cG.boxes cG.nodup cG.cZ cG.cm
    exact this
   refine lG.val (v:=v) (w1:=w) g1 (fun c hc=>by rw[h1]at hc;cases hc) hI.defers (by simp[execOp,h1,Act.eval,v]) (lG.val (v:=v2) (w1:=w) g2 (fun c hc=>by rw[h2]at hc;cases hc) (by rw[e1];exact cK.defers) ?_ (lG.val (v:=v2) (w1:=w) g3 (fun c hc=>by rw[h3]at hc;cases hc) (by rw[e1,e2];exact cG.defers) ?_ ⟨_,g,?_,hk⟩))
   ·rw[e1]
    have:(a.put (some d1) v).eval (.tmp d1)=v:=Bh (by rw[hI.size];exact E1)
    simp only[execOp,h2,this,Option.map_some,Option.map_none]
    have hz:(a.put (some d1) v).eval (.const (.int .i64 0))=.int .i64 0:=rfl
    rw[hz]
    simp[aV]
   ·rw[e1,e2]
    have:((a.put (some d1) v).put (some d2) v2).eval (.tmp d2)=v2:=Bh (by rw[Bg,hI.size];exact Cc)
    simp[execOp,h3,this]
   ·rw[e1,e2,e3];exact j2
  ·exact h.elim
 |tF t d f u o1 o2 c h1 d1 g1 h2 d2 g2 hc ha h0 n1 n2 n3=>
  simp only[gF]at h
  split at h
  ·rename_i x hx
   obtain⟨aI,bk,hC,CM,hk⟩:=om h
   have aI:=Nat.lt_of_succ_le (Nat.le_of_ble_eq_true aI)
   let v:=a.tmps.getD t undef
   have cK:Inv gl w0 an ⟨(e.ai.set t (.v (Ab.aa x))).set d (.v x),e.boxes⟩ (a.put (some d) v) w (g.jY t (fun j=>.s d j)):=by
    have:=HS hI (t:=t) (d:=d)
    rw[hx]at this
    exact this
   refine lG.val (v:=v) (w1:=w) g1 (fun c hc=>by rw[h1]at hc;cases hc) hI.defers (by simp[execOp,h1,Act.eval,v]) ⟨g2,(fun c hc=>by rw[h2]at hc;cases hc),fun next Q hn=>?_⟩
   rw[d1]at hn ⊢
   have yk:((e.ai.set t (.v (Ab.aa x))).set d (.v x)).getD d (.v .undef)=.v x:=by
    rw[List.getD_eq_getElem?_getD,List.getElem?_set_self (by simpa using aI)];rfl
   refine Ho cK h2 hc (t:=d) (p:=0) (by rw[ha];rfl) (f':=f) rfl (y:=x) yk (n:=0) (k:=fun e'=>e'=⟨b8 (((e.ai.set t (.v (Ab.aa x))).set d (.v x)).set d (.v bk)) o2.dst (.t []),e.boxes⟩) ⟨bk,?_,CM,rfl⟩ next Q fun e' v' w' g' aX KU=>?_
   ·rw[ha];exact hC
   ·subst KU
    refine hn v' w' (by rw[put_defers];exact cK.defers) ⟨_,_,OT aX (t:=t) (d:=d) (bk:=bk) ?_ ?_,?_⟩
    ·rw[d2]
     show((((e.ai.set t (.v (Ab.aa x))).set d (.v x)).set d (.v bk)).set u (.t [])).getD d (.v .undef)=.v bk
     rw[dY n2,List.getD_eq_getElem?_getD,List.getElem?_set_self (by simpa using aI)];rfl
    ·rw[d2,sF (fun hh=>n2 hh.symm),sF (fun hh=>n3 hh.symm),sF n1]
     exact Bh (by rw[hI.size];exact aI)
    ·rw[d2];exact hk
  ·exact h.elim
 |tp t d t2 e2 f u o1 o2 o3 c h1 d1 g1 h2 d2 g2 h3 d3 g3 hc ha h0 n1 n2 n3 n4 n5 n6=>
  simp only[gF]at h
  split at h
  ·rename_i x hx
   obtain⟨aI,bk,hC,CM,hk⟩:=om h
   simp only[Bool.and_eq_true,Bool.not_eq_true']at aI
   obtain⟨⟨aI,Cc⟩,n7⟩:=aI
   have aI:=Nat.lt_of_succ_le (Nat.le_of_ble_eq_true aI)
   have Cc:=Nat.lt_of_succ_le (Nat.le_of_ble_eq_true Cc)
   have n7:=Nat.ne_of_beq_eq_false n7
   let v:=a.tmps.getD t undef
   have cK:Inv gl w0 an ⟨(e.ai.set t (.v (Ab.aa x))).set d (.v x),e.boxes⟩ (a.put (some d) v) w (g.jY t (fun j=>.s d j)):=by
    have:=HS hI (t:=t) (d:=d)
    rw[hx]at this
    exact this
   have lR:((e.ai.set t (.v (Ab.aa x))).set d (.v x)).getD t2 (.v .undef)=e.ai.getD t2 (.v .undef):=by
    rw[dY (fun hh=>n6 hh.symm),dY (fun hh=>n7 hh.symm)]
   have cG:Inv gl w0 an ⟨((e.ai.set t (.v (Ab.aa x))).set d (.v x)).set e2 (e.ai.getD t2 (.v .undef)).aa,e.boxes⟩ ((a.put (some d) v).put (some e2) ((a.put (some d) v).eval (.tmp t2))) w (g.jY t (fun j=>.s d j)):=by
    have hr:=(iI cK t2).aa (O':=fun _ _ _ _=>False)
    have:=cK.value (dst:=some e2) hr
    rw[lR]at this
    exact this
   refine lG.val (v:=v) (w1:=w) g1 (fun c hc=>by rw[h1]at hc;cases hc) hI.defers (by simp[execOp,h1,Act.eval,v]) (lG.val (v:=(a.put (some d) v).eval (.tmp t2)) (w1:=w) g2 (fun c hc=>by rw[h2]at hc;cases hc) (by rw[d1];exact cK.defers) (by rw[d1];simp[execOp,h2]) ⟨g3,(fun c hc=>by rw[h3]at hc;cases hc),fun next Q hn=>?_⟩)
   rw[d1,d2]at hn ⊢
   have yk:(((e.ai.set t (.v (Ab.aa x))).set d (.v x)).set e2 (e.ai.getD t2 (.v .undef)).aa).getD d (.v .undef)=.v x:=by
    rw[dY n4,List.getD_eq_getElem?_getD,List.getElem?_set_self (by simpa using aI)];rfl
   have CN:(((e.ai.set t (.v (Ab.aa x))).set d (.v x)).set e2 (e.ai.getD t2 (.v .undef)).aa).getD e2 (.v .undef)=(e.ai.getD t2 (.v .undef)).aa :=by
    rw[List.getD_eq_getElem?_getD,List.getElem?_set_self (by simpa using Cc)];rfl
   refine Ho cG h3 hc (t:=d) (p:=0) (by rw[ha];rfl) (f':=f) rfl (y:=x) yk (n:=0) (k:=fun e'=>e'=⟨b8 ((((e.ai.set t (.v (Ab.aa x))).set d (.v x)).set e2 (e.ai.getD t2 (.v .undef)).aa).set d (.v bk)) o3.dst (.t []),e.boxes⟩) ⟨bk,?_,CM,rfl⟩ next Q fun e' v' w' g' aX KU=>?_
   ·rw[ha]
    have:∀s:Slot,s.aa.aa=s.aa:=fun s=>by cases s<;>simp[Slot.aa,XM]
    simp only[gE,Ab.aQ,CN,this,List.set_cons_zero]
    exact hC
   ·subst KU
    refine hn v' w' (by rw[put_defers];exact cG.defers) ⟨_,_,OT aX (t:=t) (d:=d) (bk:=bk) ?_ ?_,?_⟩
    ·rw[d3]
     show(((((e.ai.set t (.v (Ab.aa x))).set d (.v x)).set e2 (e.ai.getD t2 (.v .undef)).aa).set d (.v bk)).set u (.t [])).getD d (.v .undef)=.v bk
     rw[dY n2,List.getD_eq_getElem?_getD,List.getElem?_set_self (by simpa using aI)];rfl
    ·rw[d3,sF (fun hh=>n2 hh.symm),sF (fun hh=>n3 hh.symm),sF (fun hh=>n4 hh.symm),sF (fun hh=>n5 hh.symm),sF n1]
     exact Bh (by rw[hI.size];exact aI)
    ·rw[d3];exact hk
  ·exact h.elim
theorem NA{C:bj}{K K':Env→Prop}(hk:∀e,K e→K' e){s:Spec}(h:gF P C e K s):gF P C e K' s:=by
 cases s with
 |ue t d ty=>
  simp only[gF]at h ⊢
  split at h
  ·obtain⟨hb,h⟩:=om h
   obtain⟨y,hy,h⟩:=aF h
   rw[hb,cond_true,hy]
   exact hk _ h
  ·exact h.elim
 |cut t d1 d2 ty=>
  simp only[gF]at h ⊢
  split at h
  ·obtain⟨hb,h⟩:=om h
   obtain⟨y,hy,h⟩:=aF h
   rw[hb,cond_true,hy]
   exact hk _ h
  ·exact h.elim
 |tF t d f u=>
  simp only[gF]at h ⊢
  split at h
  ·obtain⟨hb,bk,h1,h2,h⟩:=om h
   rw[hb,cond_true]
   exact⟨bk,h1,h2,hk _ h⟩
  ·exact h.elim
 |tp t d t2 d2 f u=>
  simp only[gF]at h ⊢
  split at h
  ·obtain⟨hb,bk,h1,h2,h⟩:=om h
   rw[hb,cond_true]
   exact⟨bk,h1,h2,hk _ h⟩
  ·exact h.elim
def JM(ws:List Nat)(e e':Env):Prop:=e'.ai.length=e.ai.length∧e.boxes.length≤e'.boxes.length∧(∀t,t∉ws→(e'.ai.getD t (.v .undef)).stays =(e.ai.getD t (.v .undef)).stays)∧oA e.boxes.length e e'
theorem NB{l:List Slot}{t u:Nat}{x y:SV}(hx:l.getD t (.v .undef)=.v x):((l.set t (.v y)).getD u (.v .undef)).stays =(l.getD u (.v .undef)).stays :=by
 by_cases h:t=u
 ·subst h
  rw[hx]
  rcases Nat.lt_or_ge t l.length with hl|hl
  ·rw[List.getD_eq_getElem?_getD,List.getElem?_set_self hl];rfl
  ·rw[List.set_eq_of_length_le hl,hx]
 ·rw[dY h]
theorem U4{C:bj}{ops:List Oper}{s:Spec}(hs:xf P s ops){K:Env→Prop}(h:gF P C e K s):gF P C e (fun e'=>K e'∧JM (ops.filterMap (·.dst)) e e') s:=by
 cases hs with
 |ue t d ty o1 o2 c h1 d1 g1 h2 d2 g2 hc ha ht bf=>
  simp only[gF]at h ⊢
  split at h
  ·rename_i x hx
   obtain⟨hb,h⟩:=om h
   obtain⟨y,hy,h⟩:=aF h
   rw[hb,cond_true,hy]
   refine⟨h,by simp,Nat.le_refl _,fun u hu=>?_,.refl _ _⟩
   have hud:d≠u:=fun hh=>hu (by rw[←hh];simp[d1,d2])
   have gx:(e.ai.set d (.v .undef)).getD t (.v .undef)=.v x:=by rw[dY (fun hh=>bf hh.symm)];exact hx
   rw[NB gx,dY hud]
  ·exact h.elim
 |cut t d1 d2 ty o1 o2 o3 h1 e1 g1 h2 e2 g2 h3 e3 g3 n1 n2 n3=>
  simp only[gF]at h ⊢
  split at h
  ·rename_i x hx
   obtain⟨hb,h⟩:=om h
   obtain⟨y,hy,h⟩:=aF h
   rw[hb,cond_true,hy]
   refine⟨h,by simp,Nat.le_refl _,fun u hu=>?_,.refl _ _⟩
   have we:d1≠u:=fun hh=>hu (by rw[←hh];simp[e1,e2,e3])
   have hu2:d2≠u:=fun hh=>hu (by rw[←hh];simp[e1,e2,e3])
   have gx:((e.ai.set d1 (.v .undef)).set d2 (.v .undef)).getD t (.v .undef)=.v x:=by rw[dY (fun hh=>n2 hh.symm),dY (fun hh=>n1 hh.symm)];exact hx
   rw[NB gx,dY hu2,dY we]
  ·exact h.elim
 |tF t d f u o1 o2 c h1 d1 g1 h2 d2 g2 hc ha h0 n1 n2 n3=>
  simp only[gF]at h ⊢
  split at h
  ·rename_i x hx
   obtain⟨hb,bk,k1,k2,h⟩:=om h
   rw[hb,cond_true]
   refine⟨bk,k1,k2,h,by simp,Nat.le_refl _,fun v hv=>?_,.refl _ _⟩
   have ym:d≠v:=fun hh=>hv (by rw[←hh];simp[d1,d2])
   have KV:u≠v:=fun hh=>hv (by rw[←hh];simp[d1,d2])
   by_cases kE:t=v
   ·subst kE
    rw[hx]
    rcases Nat.lt_or_ge t e.ai.length with hl|hl
    ·rw[List.getD_eq_getElem?_getD,List.getElem?_set_self (by simpa using hl)];rfl
    ·rw[List.getD_eq_getElem?_getD,List.getElem?_eq_none (by simpa using hl)];rfl
   ·rw[dY kE,dY ym,dY KV,dY ym,dY ym,dY kE]
  ·exact h.elim
 |tp t d t2 e2 f u o1 o2 o3 c h1 d1 g1 h2 d2 g2 h3 d3 g3 hc ha h0 n1 n2 n3 n4 n5 n6=>
  simp only[gF]at h ⊢
  split at h
  ·rename_i x hx
   obtain⟨hb,bk,k1,k2,h⟩:=om h
   rw[hb,cond_true]
   refine⟨bk,k1,k2,h,by simp,Nat.le_refl _,fun v hv=>?_,.refl _ _⟩
   have ym:d≠v:=fun hh=>hv (by rw[←hh];simp[d1,d2,d3])
   have KV:u≠v:=fun hh=>hv (by rw[←hh];simp[d1,d2,d3])
   have hve:e2≠v:=fun hh=>hv (by rw[←hh];simp[d1,d2,d3])
   by_cases kE:t=v
   ·subst kE
    rw[hx]
    rcases Nat.lt_or_ge t e.ai.length with hl|hl
    ·rw[List.getD_eq_getElem?_getD,List.getElem?_set_self (by simpa using hl)];rfl
    ·rw[List.getD_eq_getElem?_getD,List.getElem?_eq_none (by simpa using hl)];rfl
   ·rw[dY kE,dY ym,dY KV,dY ym,dY hve,dY ym,dY kE]
  ·exact h.elim
theorem PB{ops:Array Oper}{Q:Exit→Act→World→Prop}{R:Act→World→Prop}(hR:∀a w,R a w→Q .normal a w):∀(l:List Oper)(i:Nat){a:Act}{w:World},(∀j,l[j]? =ops[i+j]?)→lG P l a w R→wpOps P ops Q (List.range' i l.length) a w
 |[],_,_,_,_,h=>hR _ _ h
 |o::l,i,a,w,hl,h=>by
  obtain⟨hg,kZ,h⟩:=h
  have h0:ops[i]? =some o:=by simpa using(hl 0).symm
  rw[List.length_cons,List.range'_succ]
  unfold wpOps
  simp only[h0]
  rw[if_pos (by simp[Region.wanted,hg])]
  exact .inl (h _ _ fun v w1 _ h1=>PB hR l (i+1) (fun j=>by have:=hl (j+1);simpa[Nat.add_assoc,Nat.add_comm 1 j]using this) h1)
end
end Go.Proofs.Ytimbllcalipehaa.Ab
namespace Go.Proofs.Ytimbllcalipehaa.Ab
open Go Go.RowKit
def Ex.to:Ex→Exit
 | .normal =>.normal
 | .exit i=>.exit i
 | .ret =>.ret
def Fr(gh:List (Nat×List gd))(c:Code)(e e':Env):Prop:=e'.ai.length=e.ai.length∧e.boxes.length≤e'.boxes.length∧
 (∀t,t∉cj gh c→(e'.ai.getD t (.v .undef)).stays =(e.ai.getD t (.v .undef)).stays)∧oA e.boxes.length e e'
theorem pr{b:Bool}{A:Prop}(h:cond b A False):b=true∧A:=by cases b;exact h.elim;exact⟨rfl,h⟩
theorem y8{b:Bool}{A:Prop}(hb:b=true)(h:A):cond b A False:=by subst hb;exact h
section
variable{P:Program}{gl:Nat→Option D}{h:Hints}
theorem Dz{all:List Oper}{aD:Nat→Bool}{base:Nat}{K K':Env→Prop}(hk:∀e,K e→K' e):∀(l:List Oper)(i:Nat)(e:Env),
  jN P gl (aB P gl) aD all base l i e K→jN P gl (aB P gl) aD all base l i e K'
 |[],_,_,h=>hk _ h
 |o::l,i,e,h=>by
  rw[zi]at h ⊢
  have e6:all=all.toArray.toList:=by simp
  rw[e6]at h ⊢
  obtain⟨src,s,U,bI,hO,_⟩:=wS h
  refine hO.run ?_
  rw[←e6]at bI ⊢
  exact Dz hk l (i+1) _ bI
theorem Na{all:List Oper}{aD:Nat→Bool}{base:Nat}{K:Env→Prop}:∀(l:List Oper)(i:Nat)(e:Env),
  jN P gl (aB P gl) aD all base l i e K→jN P gl (aB P gl) aD all base l i e fun e'=>K e'∧e'.ai.length=e.ai.length∧e'.boxes.length=e.boxes.length∧
   (∀t,t∉l.filterMap (·.dst)→(e'.ai.getD t (.v .undef)).stays =(e.ai.getD t (.v .undef)).stays)∧oA base e e'
 |[],_,_,h=>⟨h,rfl,rfl,fun _ _=>rfl,.refl _ _⟩
 |o::l,i,e,h=>by
  rw[zi]at h ⊢
  have e6:all=all.toArray.toList:=by simp
  rw[e6]at h ⊢
  obtain⟨src,s,U,bI,hO,aT⟩:=wS h
  refine hO.run ?_
  rw[←e6]at bI ⊢
  refine Dz (fun e'⟨hK,h1,h2,h3,h5⟩=>⟨hK,?_,?_,fun t ht=>?_,fun j hj=>?_⟩) l (i+1) _ (Na l (i+1) _ bI)
  ·rw[h1];unfold fin gZ;simp only[GB];cases src<;>simp
  ·rw[h2];unfold fin j0;cases U<;>simp
  ·have hd:∀d,o.dst=some d→d≠t:=fun d hd hh=>by
    subst hh
    exact ht (List.mem_filterMap.2 ⟨o,by simp,hd⟩)
   have wq:t∉l.filterMap (·.dst):=fun hm=>by
    obtain⟨o',bH,jf⟩:=List.mem_filterMap.1 hm
    exact ht (List.mem_filterMap.2 ⟨o',by simp[bH],jf⟩)
   rw[h3 t wq]
   unfold fin b8 gZ
   simp only
   have eT:((match src with|none=>e.ai|some (t,s)=>e.ai.set t s).getD t (.v .undef)).stays =(e.ai.getD t (.v .undef)).stays :=by
    cases src with
    |none=>rfl
    |some p=>
     obtain⟨t',d⟩:=p
     simp only
     by_cases Sw:t'=t
     ·subst Sw
      have:=aT.1 t' d rfl
      rcases Nat.lt_or_ge t' e.ai.length with hl|hl
      ·rw[List.getD_eq_getElem?_getD,List.getElem?_set_self hl];exact this
      ·rw[List.set_eq_of_length_le hl]
     ·rw[dY Sw]
   cases jf:o.dst with
   |none=>exact eT
   |some d=>simp only;rw[dY (hd d jf)];exact eT
  ·have huf:=hO.uf
   have key:oA base e (fin o src s U e):=by
    intro j hj
    have same:e.boxes.getD j .none =.none ∨(e.boxes.getD j .none ≠.none ∧(e.boxes.getD j .none).isMap =(e.boxes.getD j .none).isMap):=oA.refl base e j hj
    unfold fin
    simp only
    cases huf with
    |none=>exact same
    |mk bx h hn hb=>
     simp only[j0,List.getD_eq_getElem?_getD]
     rw[List.getElem?_set_ne (by omega)]
     simpa using same
    |wr b bx fJ h hw x hx off hp ho hold hb oK=>
     simp only[j0,List.getD_eq_getElem?_getD,List.getElem?_set]
     by_cases Sx:b=j
     ·subst Sx
      right
      rw[ho]
      simp[(List.getElem?_eq_some_iff.1 ho).1,hb.2,hold]
     ·simp only[Sx,if_false];simpa using same
   exact(key.trans (Nat.le_refl _) h5) j hj
theorem Of{ok:Bool}{ops:Array Oper}{aD:Nat→Bool}{e1 e':Env}{K K':Env→Prop}(hk:∀e,K e→K' e)(h:tE P gl (aB P gl) ok ops aD e1 K e'):tE P gl (aB P gl) ok ops aD e1 K' e':=by
 cases ok
 ·exact⟨h.1,hk _ h.2⟩
 ·exact hk _ h
theorem XP{ok:Bool}{ops:Array Oper}{aD:Nat→Bool}{e1 e':Env}{K:Env→Prop}{X:Env→Prop}(h:tE P gl (aB P gl) ok ops aD e1 K e')(hx:X e'):tE P gl (aB P gl) ok ops aD e1 (fun e'=>K e'∧X e') e':=by
 cases ok
 ·exact⟨h.1,h.2,hx⟩
 ·exact⟨h,hx⟩
theorem GZ{e:Env}{c:Operand}{A B A' B':Env→Prop}(hA:A e→A' e)(hB:B e→B' e)(h:mF e c A B):mF e c A' B':=by
 cases c with
 |tmp t=>
  simp only[mF]at h ⊢
  cases hx:e.ai.getD t (.v .undef)with
  |v x=>
   rw[hx]at h
   obtain⟨b,rfl,h1,h2⟩:=zh h
   cases b
   ·have:=h2 rfl
    rw[sJ hx]at this
    show B' _
    rw[sJ hx]
    exact hB this
   ·have:=h1 rfl
    rw[sJ hx]at this
    show A' _
    rw[sJ hx]
    exact hA this
  |_=>rw[hx]at h;exact h.elim
 |const v=>
  cases v with
  |bool b=>cases b;exact hB h;exact hA h
  |_=>exact h.elim
 |_=>exact h.elim
theorem NC{e:Env}{c:Operand}{A B A' B':Env→Prop}(hA:∀e,A e→A' e)(hB:∀e,B e→B' e)(h:mF e c A B):mF e c A' B':=GZ (hA e) (hB e) h
theorem ND{key:Nat}{c:Code}{e:Env}{Q Q':Ex→Env→Prop}{T:(Ex→Env→Prop)→Prop}(hT:∀Q Q':Ex→Env→Prop,(∀x e,Q x e→Q' x e)→T Q→T Q')(hq:∀x e,Q x e→Q' x e)(hh:oE h key c e Q T):oE h key c e Q' T:=by
 unfold oE at hh ⊢
 generalize lB h.ei key=kk at hh ⊢
 obtain⟨vars,consts⟩:=kk
 cases vars<;>cases consts
 ·exact hT _ _ hq hh
 all_goals
  obtain⟨hb,hh⟩:=pr (hh:cond _ _ False)
  exact y8 hb (hT _ _ (fun x e' hx=>by cases x<;>first|exact hq _ _ hx|exact hq .normal _ hx) hh)
theorem Hu{id:Nat}{ops:Array Oper}{draw:Bool}{e:Env}{K K':Env→Prop}(hk:∀e,K e→K' e)(hh:kh P gl (aB P gl) h id ops draw e K):kh P gl (aB P gl) h id ops draw e K':=by
 unfold kh at hh ⊢
 obtain⟨hb,hh⟩:=pr hh
 refine y8 hb (wW (fun e1 h1=>?_) hh)
 cases hs:s6 P draw ops.toList with
 |some s=>simp only[hs]at h1 ⊢;exact NA (fun e2 h2=>wW hk h2) h1
 |none=>simp only[hs]at h1 ⊢;exact Dz (fun e2 h2=>Of (fun e3 h3=>wW hk h3) h2) _ _ _ h1
theorem NF{id:Nat}{ops:Array Oper}{draw:Bool}{e:Env}{K:Env→Prop}(hh:kh P gl (aB P gl) h id ops draw e K):kh P gl (aB P gl) h id ops draw e (fun e'=>K e'∧Fr h.gh (.region id ops draw) e e'):=by
 unfold kh at hh ⊢
 obtain⟨hb,hh⟩:=pr hh
 refine y8 hb (wW (fun e1⟨h1,hg⟩=>?_) (He hh))
 have key:∀e2,JM (ops.toList.filterMap (·.dst)) e1 e2→fP (jo h.gh (4000000+id)) e2 K→fP (jo h.gh (4000000+id)) e2 (fun e'=>K e'∧Fr h.gh (.region id ops draw) e e'):=fun e2 ho h2=>by
  refine wW (fun e3⟨h3,yn⟩=>⟨h3,yn.1.trans (ho.1.trans hg.1),Nat.le_trans hg.2.1 (Nat.le_trans ho.2.1 yn.2.1),fun t ht=>?_,?_⟩) (He h2)
  ·simp only[cj,List.mem_append,not_or]at ht
   rw[yn.2.2.1 t ht.2.1,ho.2.2.1 t ht.2.2,hg.2.2.1 t ht.1]
  ·exact(hg.2.2.2.trans hg.2.1 ho.2.2.2).trans (Nat.le_trans hg.2.1 ho.2.1) yn.2.2.2
 cases hs:s6 P draw ops.toList with
 |some s=>
  simp only[hs]at h1 ⊢
  exact NA (fun e2⟨h2,ho⟩=>key e2 ho h2) (U4 (GY hs).2 h1)
 |none=>
  simp only[hs]at h1 ⊢
  refine Dz (fun e'⟨h1,h2,h3,h4,h5⟩=>Of (fun e2⟨k1,k2⟩=>key e2 k2 k1) (XP (X:=fun e'=>JM (ops.toList.filterMap (·.dst)) e1 e') h1 ⟨h2,?_,h4,fun i hi=>?_⟩)) _ _ _ (Na _ _ _ h1)
  ·rw[h3];simp
  ·have:=h5 i hi
   simp only[List.getD_eq_getElem?_getD]at this ⊢
   rw[List.getElem?_append_left hi]at this
   exact this
theorem jJ:∀(c:Code){Q Q':Ex→Env→Prop}{e:Env},(∀x e,Q x e→Q' x e)→aw P gl (aB P gl) h c Q e→aw P gl (aB P gl) h c Q' e
 | .skip,_,_,_,hq,hh=>hq _ _ hh
 | .region id ops draw,Q,Q',e,hq,hh=>by
   simp only[aw]at hh ⊢
   exact ND (fun Q Q' hq hh=>Hu (hq .normal) hh) hq hh
 | .seq a b,Q,Q',e,hq,hh=>by
   simp only[aw]at hh ⊢
   refine jJ a (fun x e' hx=>?_) hh
   cases x with
   |normal=>exact jJ b hq hx
   |exit i=>exact hq _ _ hx
   |ret=>exact hq _ _ hx
 | .cond c a b,Q,Q',e,hq,hh=>by
   simp only[aw]at hh ⊢
   exact ND (fun Q Q' hq hh=>NC (fun e'=>jJ a hq) (fun e'=>jJ b hq) hh) hq hh
 | .block id b,Q,Q',e,hq,hh=>by
   simp only[aw]at hh ⊢
   refine jJ b (fun x e' hx=>?_) hh
   cases x with
   |normal=>exact hq _ _ hx
   |exit i=>
    have dp:cond (i==id) (Q .normal e') (Q (.exit i) e'):=hx
    show cond (i==id) (Q' .normal e') (Q' (.exit i) e')
    cases hb:(i==id)<;>rw[hb]at dp<;>exact hq _ _ dp
   |ret=>exact hq _ _ hx
 | .loop b,Q,Q',e,hq,hh=>by
   obtain⟨hb,hh⟩:=pr (hh:cond _ _ False)
   refine y8 hb fun I hI=>hh I fun vs bs hF=>hI vs bs (jJ b (fun x e' hx=>?_) hF)
   cases x with
   |normal=>exact hx
   |exit i=>exact hq _ _ hx
   |ret=>exact hq _ _ hx
 | .exit id,_,_,_,hq,hh=>hq _ _ hh
 | .ret,_,_,_,hq,hh=>hq _ _ hh
 | .goto _,_,_,_,_,hh=>hh
 | .label _,_,_,_,hq,hh=>hq _ _ hh
 | .scope _,_,_,_,_,hh=>hh
 | .rangeFunc _ _ _ _,_,_,_,_,hh=>hh
 | .refuse _,_,_,_,_,hh=>hh
theorem Fr.refl(c:Code)(e:Env):Fr h.gh c e e:=⟨rfl,Nat.le_refl _,fun _ _=>rfl,.refl _ _⟩
theorem Fr.trans{a b c:Code}{e e1 e2:Env}(h1:Fr h.gh a e e1)(h2:Fr h.gh b e1 e2)(ha:∀t,t∈cj h.gh a→t∈cj h.gh c)(hb:∀t,t∈cj h.gh b→t∈cj h.gh c):Fr h.gh c e e2:=
 ⟨h2.1.trans h1.1,Nat.le_trans h1.2.1 h2.2.1,fun t ht=>(h2.2.2.1 t fun hm=>ht (hb t hm)).trans (h1.2.2.1 t fun hm=>ht (ha t hm)),h1.2.2.2.trans h1.2.1 h2.2.2.2⟩
theorem Fr.mono{a c:Code}{e e1:Env}(h1:Fr h.gh a e e1)(ha:∀t,t∈cj h.gh a→t∈cj h.gh c):Fr h.gh c e e1:=⟨h1.1,h1.2.1,fun t ht=>h1.2.2.1 t fun hm=>ht (ha t hm),h1.2.2.2⟩
theorem Gz(vars consts:List Nat)(vs:List SV):∀(l:List Slot)(t i:Nat),(pn vars consts vs l t)[i]? =(l[i]?).map fun s=>match place (t+i) vars 0 with
  |some j=>.v (ae vs j)
  |none=>bif consts.contains (t+i)then s.stays else .v .undef
 |[],_,_=>by simp[pn]
 |s::l,t,i=>by
  cases i with
  |zero=>simp only[pn,List.getElem?_cons_zero,Option.map_some,Nat.add_zero];cases place t vars 0<;>rfl
  |succ i=>
   simp only[pn,List.getElem?_cons_succ]
   rw[Gz vars consts vs l (t+1) i,show t+1+i=t+(i+1) by omega]
theorem Gx(vars consts:List Nat)(vs:List SV):∀(l:List Slot)(t:Nat),(pn vars consts vs l t).length =l.length
 |[],_=>rfl
 |_::l,t=>by simp[pn,Gx vars consts vs l (t+1)]
theorem GA(bs:List (List SV)):∀(l:List af)(t i:Nat),(po bs l t)[i]? =(l[i]?).map fun x=>af.again (az bs (t+i)) x
 |[],_,_=>by simp[po]
 |s::l,t,i=>by
  cases i with
  |zero=>simp[po]
  |succ i=>
   simp only[po,List.getElem?_cons_succ]
   rw[GA bs l (t+1) i,show t+1+i=t+(i+1) by omega]
theorem Gy(bs:List (List SV)):∀(l:List af)(t:Nat),(po bs l t).length =l.length
 |[],_=>rfl
 |_::l,t=>by simp[po,Gy bs l (t+1)]
theorem NG{t:Nat}:∀{l:List Nat}{i j:Nat},place t l i=some j→i≤j∧l[j-i]? =some t
 |[],i,j,h=>by cases h
 |v::l,i,j,h=>by
  simp only[place]at h
  cases hv:v==t with
  |true=>
   rw[hv]at h
   simp only[cond_true,Option.some.injEq]at h
   subst h
   have:=beq_iff_eq.1 hv
   subst this
   simp
  |false=>
   rw[hv]at h
   obtain⟨h1,h2⟩:=NG (l:=l) h
   refine⟨by omega,?_⟩
   rw[show j-i=(j-(i+1))+1 by omega,List.getElem?_cons_succ]
   exact h2
theorem NH{t:Nat}:∀{l:List Nat}{i:Nat},l.contains t=false→place t l i=none
 |[],_,_=>rfl
 |v::l,i,h=>by
  simp only[List.contains_cons,Bool.or_eq_false_iff]at h
  simp only[place]
  have:(v==t)=false:=by rw[beq_eq_false_iff_ne]at*;exact fun hh=>h.1 hh.symm
  rw[this]
  exact NH h.2
theorem MS{ws vars consts:List Nat}:∀{l:List Slot}{t:Nat},zt ws vars consts l t=true→∀(i:Nat)s,l[i]? =some s→(t+i)∉ws→s.stays=.v .undef ∨(vars.contains (t+i)=false∧consts.contains (t+i)=true)
 |[],_,_,i,s,h,_=>by simp at h
 |s'::l,t,hk,i,s,h,hw=>by
  simp only[zt,Bool.and_eq_true]at hk
  cases i with
  |zero=>
   simp at h
   subst h
   have iE:=hk.1
   cases s' with
   |v x=>exact .inl rfl
   |t x=>exact .inl rfl
   |_=>
    refine .inr ?_
    simp only[Bool.or_eq_true,Bool.and_eq_true,Bool.not_eq_true']at iE
    rcases iE with h|h
    ·exact absurd (by simpa using h) hw
    ·exact h
  |succ i=>
   have:=MS hk.2 i s (by simpa using h) (by rw[show t+1+i=t+(i+1) by omega];exact hw)
   rw[show t+1+i=t+(i+1) by omega]at this
   exact this
theorem U5(s:Slot):s.stays.stays=s.stays:=by cases s<;>rfl
def again(vars consts:List Nat)(vs:List SV)(bs:List (List SV))(e:Env):Env:=⟨pn vars consts vs e.ai 0,po bs e.boxes 0⟩
theorem DV{b:Code}{vars consts:List Nat}{vs:List SV}{bs:List (List SV)}{e:Env}(hk:zt (cj h.gh b) vars consts e.ai 0=true):Fr h.gh b e (again vars consts vs bs e):=by
 refine⟨Gx _ _ _ _ _,by simp[again,Gy],fun t ht=>?_,fun i hi=>?_⟩
 rotate_left
 ·simp only[again,List.getD_eq_getElem?_getD,GA,List.getElem?_eq_getElem hi,Option.map_some,Option.getD_some]
  cases e.boxes[i]<;>first|exact .inl rfl|exact .inr ⟨by simp,rfl⟩
 simp only[again,List.getD_eq_getElem?_getD,Gz]
 cases hs:e.ai[t]? with
 |none=>rfl
 |some s=>
  simp only[Option.map_some,Option.getD_some,Nat.zero_add]
  rcases MS hk t s hs (by simpa using ht)with h|⟨h1,h2⟩
  ·rw[h]
   split
   ·rfl
   ·cases consts.contains t<;>simp[h,Slot.stays]
  ·rw[Nat.zero_add]at h1 h2
   rw[NH h1]
   simp only[h2,cond_true,U5]
theorem Nb{key:Nat}{c:Code}{e:Env}{Q:Ex→Env→Prop}{T:(Ex→Env→Prop)→Prop}(hT:∀Q Q':Ex→Env→Prop,(∀x e,Q x e→Q' x e)→T Q→T Q')
  (hF:∀Q,T Q→T (fun x e'=>Q x e'∧Fr h.gh c e e'))(hh:oE h key c e Q T):oE h key c e (fun x e'=>Q x e'∧Fr h.gh c e e') T:=by
 unfold oE at hh ⊢
 generalize lB h.ei key=kk at hh ⊢
 obtain⟨vars,consts⟩:=kk
 cases vars<;>cases consts
 ·exact hF _ hh
 all_goals
  obtain⟨hb,hh⟩:=pr (hh:cond _ _ False)
  have hk:=(Bool.and_eq_true _ _▸hb).2
  refine y8 hb (hT _ _ (fun x e' hx=>?_) (hF _ hh))
  obtain⟨hx,hf⟩:=hx
  cases x with
  |normal=>exact⟨hx,DV (b:=c) hk⟩
  |exit i=>exact⟨hx,hf⟩
  |ret=>exact⟨hx,hf⟩
theorem ou:∀(c:Code){Q:Ex→Env→Prop}{e:Env},aw P gl (aB P gl) h c Q e→aw P gl (aB P gl) h c (fun x e'=>Q x e'∧Fr h.gh c e e') e
 | .skip,_,e,hh=>⟨hh,Fr.refl _ _⟩
 | .region id ops draw,Q,e,hh=>by
   simp only[aw]at hh ⊢
   refine Nb (fun Q Q' hq hh=>Hu (hq .normal) hh) (fun Q hh=>?_) hh
   exact Hu (fun e' hx=>hx) (NF hh)
 | .seq a b,Q,e,hh=>by
   refine jJ a (fun x e' hx=>?_) (ou a hh)
   obtain⟨hx,hf⟩:=hx
   cases x with
   |normal=>exact jJ b (fun y e2 hy=>⟨hy.1,hf.trans hy.2 (fun t ht=>by simp[cj,ht]) (fun t ht=>by simp[cj,ht])⟩) (ou b hx)
   |exit i=>exact⟨hx,hf.mono fun t ht=>by simp[cj,ht]⟩
   |ret=>exact⟨hx,hf.mono fun t ht=>by simp[cj,ht]⟩
 | .cond c a b,Q,e,hh=>
   Nb (fun Q Q' hq hh=>NC (fun e'=>jJ a hq) (fun e'=>jJ b hq) hh) (fun Q hh=>GZ (A:=aw P gl (aB P gl) h a Q) (B:=aw P gl (aB P gl) h b Q)
    (fun ha=>jJ a (fun y e2 hy=>⟨hy.1,hy.2.mono fun t ht=>by simp[cj,ht]⟩) (ou a ha)) (fun hb=>jJ b (fun y e2 hy=>⟨hy.1,hy.2.mono fun t ht=>by simp[cj,ht]⟩) (ou b hb)) hh) hh
 | .block id b,Q,e,hh=>by
   refine jJ b (fun x e' hx=>?_) (ou b hh)
   obtain⟨hx,hf⟩:=hx
   have jA:Fr h.gh (.block id b) e e':=hf
   cases x with
   |normal=>exact⟨hx,jA⟩
   |exit i=>
    have dp:cond (i==id) (Q .normal e') (Q (.exit i) e'):=hx
    show cond (i==id) (Q .normal e'∧Fr h.gh (.block id b) e e') (Q (.exit i) e'∧Fr h.gh (.block id b) e e')
    cases hb:(i==id)<;>rw[hb]at dp<;>exact⟨dp,jA⟩
   |ret=>exact⟨hx,jA⟩
 | .loop b,Q,e,hh=>by
   obtain⟨hb,hh⟩:=pr (hh:cond _ _ False)
   have hk:=(Bool.and_eq_true _ _▸hb).2
   refine y8 hb fun I hI=>?_
   refine hh I fun vs bs hF=>hI vs bs (jJ b (fun x e' hx=>?_) (ou b hF))
   obtain⟨hx,hf⟩:=hx
   have jA:Fr h.gh (.loop b) e e':=(DV (vs:=vs) (bs:=bs) hk).trans (b:=b) hf (fun t ht=>ht) (fun t ht=>ht)
   cases x with
   |normal=>exact hx
   |exit i=>exact⟨hx,jA⟩
   |ret=>exact⟨hx,jA⟩
 | .exit id,_,e,hh=>⟨hh,Fr.refl _ _⟩
 | .ret,_,e,hh=>⟨hh,Fr.refl _ _⟩
 | .goto _,_,_,hh=>hh
 | .label _,_,e,hh=>⟨hh,Fr.refl _ _⟩
 | .scope _,_,_,hh=>hh
 | .rangeFunc _ _ _ _,_,_,hh=>hh
 | .refuse _,_,_,hh=>hh
end
end Go.Proofs.Ytimbllcalipehaa.Ab
namespace Go.Proofs.Ytimbllcalipehaa.Ab
open Go Go.RowKit
section
variable{P:Program}{gl:Nat→Option D}{h:Hints}
def Gh.cut(g:Gh)(n:Nat):Gh:={g with bx:=g.bx.take n}
theorem By{g:Gh}{n i:Nat}{x:Option Nat}(hi:i<n):(g.cut n).bx[i]? =some x↔g.bx[i]? =some x:=by
 simp only[Gh.cut];rw[List.getElem?_take,if_pos hi]
theorem yY{g:Gh}{n i:Nat}{x:Option Nat}(h:(g.cut n).bx[i]? =some x):i<n∧g.bx[i]? =some x:=by
 simp only[Gh.cut]at h
 rw[List.getElem?_take]at h
 split at h
 ·exact⟨by assumption,h⟩
 ·cases h
theorem sR{g:Gh}{n:Nat}{x:Option Nat}(h:x∈(g.cut n).bx):x∈g.bx:=List.mem_of_mem_take h
theorem Ii{base:Nat}{w:World}{g:Gh}{n:Nat}{p:Pos}{b a c:Nat}(h:ef base w g p b a c):ef base w (g.cut n) p b a c:=
 ⟨h.1,h.2.1,fun hm=>h.2.2.1 (sR hm),h.2.2.2⟩
theorem Bi{base zU:Nat}{w w1:World}{g g1:Gh}{s:Slot}{v v1:Value}{O O1:Nat→Nat→Nat→Nat→Prop}(h0:bP zU w g O s v)(h1:bP base w1 g1 O1 s v1){n:Nat}(hn:g.bx.length≤n):
  ∀O2,(∀x,s≠.v x)→(∀x,s≠.t x)→bP base w1 (g1.cut n) O2 s v1:=by
 have key:∀{s:Slot}{v1:Value}{O1:Nat→Nat→Nat→Nat→Prop},bP base w1 g1 O1 s v1→∀{O v},bP zU w g O s v→∀O2,(∀j b a c,O1 j b a c→O2 j b a c)→bP base w1 (g1.cut n) O2 s v1:=by
  intro s v1 O1 h1
  induction h1 with
  |v O1 x y hx=>intro O v _ O2 hO;exact .v _ _ _ (hx.mono (fun _ _ h=>(by first|exact⟨h,rfl⟩|exact⟨h,.refl _ _ _⟩)) (fun _ _ _=>rfl) _ (fun b a c h=>⟨hO 0 b a c h,.refl _ _ _⟩))
  |p O1 b off aj hb=>
   intro O v h0 O2 hO
   obtain⟨Rw,_,qk⟩:=h0.kQ
   have:=(List.getElem?_eq_some_iff.1 qk).1
   exact .p _ b off aj ((By (by omega)).2 hb)
  |a O1 b n1 CO v hm hb=>
   intro O v h0 O2 hO
   cases h0 with
   |a _ _ _ _ _ _ qk=>
    obtain⟨Rw,_,qk,_⟩:=qk
    obtain⟨aj,cap,hb,h2,h3⟩:=hb
    have:=(List.getElem?_eq_some_iff.1 qk).1
    exact .a _ b n1 CO _ hm ⟨aj,cap,(By (by omega)).2 hb,h2,h3⟩
  |m O1 b aj hb=>
   intro O v h0 O2 hO
   cases h0 with
   |m _ _ Rw qk=>
    have:=(List.getElem?_eq_some_iff.1 qk).1
    exact .m _ b aj ((By (by omega)).2 hb)
  |c O1 f first cap fv cv hf hc _ _ g5 g6=>
   intro O v h0 O2 hO
   cases h0 with
   |c _ _ _ _ Sy Sz hf0 mY rf0 rc0=>
    refine .c _ f first cap fv cv hf hc (fun i x v hx hv=>?_) (fun i x v hx hv=>?_)
    ·have hi:i<Sy.size:=by rw[←hf0];exact(List.getElem?_eq_some_iff.1 hx).1
     exact g5 i x v hx hv (rf0 i x Sy[i] hx (by simp)) _ (fun _ _ _ _ h=>h)
    ·have hi:i<Sz.size:=by rw[←mY];exact(List.getElem?_eq_some_iff.1 hx).1
     exact g6 i x v hx hv (rc0 i x Sz[i] hx (by simp)) _ (fun _ _ _ _ h=>h)
  |t O1 xs vs hl hc=>
   intro O v _ O2 hO
   exact .t _ xs vs hl fun j x v a b=>(hc j x v a b).mono (fun _ _ h=>(by first|exact⟨h,rfl⟩|exact⟨h,.refl _ _ _⟩)) (fun _ _ _=>rfl) _ (fun b a c h=>⟨hO j b a c h,.refl _ _ _⟩)
 intro O2 hv ht
 cases h1 with
 |v _ x _ _=>exact absurd rfl (hv x)
 |t _ x _ _ _=>exact absurd rfl (ht x)
 |p _ b off aj hb=>exact key (.p O2 b off aj hb) h0 _ (fun _ _ _ _ h=>h)
 |a _ b n1 CO _ hm hb=>exact key (.a O2 b n1 CO _ hm hb) h0 _ (fun _ _ _ _ h=>h)
 |m _ b aj hb=>exact key (.m O2 b aj hb) h0 _ (fun _ _ _ _ h=>h)
 |c _ f first cap fv cv hf hc rf rc=>exact key (.c O2 f first cap fv cv hf hc rf rc) h0 _ (fun _ _ _ _ h=>h)
theorem Hv{w0:World}{an:S0}{e e1:Env}{a a1:Act}{w w1:World}{g g1:Gh}(hI:Inv gl w0 an e a w g)(cK:Inv gl w0 an e1 a1 w1 g1){b:Code}(hf:Fr h.gh b e e1){vars consts:List Nat}
  (hc:∀t∈consts,t∉cj h.gh b):Inv gl w0 an (again vars consts (qS e1 vars) (qL e.boxes.length e1) e) a1 w1 (g1.cut e.boxes.length):=by
 have hX:Ext w0.heap.size w1 g1 w1 {g1 with bx:=g1.bx} (fun _=>False):=⟨fun _ _ hb ho h=>⟨h,hb,ho,fun _ h=>h⟩,fun _ _ h=>(by first|exact⟨h,rfl⟩|exact⟨h,.refl _ _ _⟩),fun _ _ _=>rfl,fun _ _ h=>h,fun _ _ _ _ _ h=>⟨h,.refl _ _ _⟩,.refl _⟩
 refine⟨cK.below,?_,?_,?_,?_,?_,cK.fp,?_,?_,?_,cK.defers,fun D o hD=>(have h:=cK.ek D o hD;⟨fun hm=>h.1 (sR hm),h.2⟩),cK.cls,cK.iA⟩
 ·rw[cK.size,hf.1];simp[again,Gx]
 ·intro i s hs
  simp only[again,Gz,Option.map_eq_some_iff,Nat.zero_add]at hs
  obtain⟨s0,kA,rfl⟩:=hs
  have h1:=iI cK i
  simp only[Act.eval]at h1
  split
  ·rename_i j hj
   obtain⟨_,rO⟩:=NG hj
   simp only[Nat.sub_zero]at rO
   have hv:ae (qS e1 vars) j=(e1.ai.getD i (.v .undef)).bJ :=by
    simp[ae,qS,List.getD_eq_getElem?_getD,List.getElem?_map,rO]
   rw[hv]
   cases gM:e1.ai.getD i (.v .undef)with
   |v x=>
    rw[gM]at h1
    exact .v _ _ _ (h1.iK.mono (fun _ _ h=>(by first|exact⟨h,rfl⟩|exact⟨h,.refl _ _ _⟩)) (fun _ _ _=>rfl) _ (fun _ _ _ h=>⟨Ii h,.refl _ _ _⟩))
   |_=>exact .v _ _ _ (.undef _ _)
  ·cases da:consts.contains i with
   |false=>exact .v _ _ _ (.undef _ _)
   |true=>
    have CI:=hc i (by simpa using da)
    have aT:=hf.2.2.1 i CI
    have aek:e.ai.getD i (.v .undef)=s0:=by rw[List.getD_eq_getElem?_getD,kA];rfl
    rw[aek]at aT
    have h0:=hI.ai i s0 kA
    cases s0 with
    |v x=>exact .v _ _ _ (.undef _ _)
    |t x=>exact .v _ _ _ (.undef _ _)
    |p b' off=>
     have er:e1.ai.getD i (.v .undef)=.p b' off:=by
      revert aT
      cases e1.ai.getD i (.v .undef)<;>simp[Slot.stays]
     rw[er]at h1
     exact Bi h0 h1 (by rw[hI.eB];exact Nat.le_refl _) _ (by simp) (by simp)
    |a b' n1 CO=>
     have er:e1.ai.getD i (.v .undef)=.a b' n1 CO:=by
      revert aT
      cases e1.ai.getD i (.v .undef)<;>simp[Slot.stays]
     rw[er]at h1
     exact Bi h0 h1 (by rw[hI.eB];exact Nat.le_refl _) _ (by simp) (by simp)
    |m b'=>
     have er:e1.ai.getD i (.v .undef)=.m b':=by
      revert aT
      cases e1.ai.getD i (.v .undef)<;>simp[Slot.stays]
     rw[er]at h1
     exact Bi h0 h1 (by rw[hI.eB];exact Nat.le_refl _) _ (by simp) (by simp)
    |c f first cap=>
     have er:e1.ai.getD i (.v .undef)=.c f first cap:=by
      revert aT
      cases e1.ai.getD i (.v .undef)<;>simp[Slot.stays]<;>intros<;>simp_all
     rw[er]at h1
     exact Bi h0 h1 (by rw[hI.eB];exact Nat.le_refl _) _ (by simp) (by simp)
 ·simp only[again,Gy,Gh.cut,List.length_take,cK.eB]
  have:=hf.2.1
  omega
 ·intro b' bx aj h1 h2
  obtain⟨aI,h2⟩:=yY h2
  simp only[again,GA,Option.map_eq_some_iff,Nat.zero_add]at h1
  obtain⟨CP,ael,rfl⟩:=h1
  have E1:b'<e1.boxes.length:=by rw[←cK.eB];exact(List.getElem?_eq_some_iff.1 h2).1
  have hr:=cK.boxes b' e1.boxes[b'] aj (by simp) h2
  have vA:=hf.2.2.2 b' aI
  rw[List.getD_eq_getElem?_getD,List.getD_eq_getElem?_getD,ael,List.getElem?_eq_getElem E1,Option.getD_some,Option.getD_some]at vA
  have acU:az (qL e.boxes.length e1) b'=e1.boxes[b'].aJ :=by
   simp[az,qL,List.getD_eq_getElem?_getD,List.getElem?_map,List.getElem?_take,aI,E1]
  rw[acU]
  generalize e1.boxes[b']=KW at hr vA
  have vA:CP≠.none ∧KW.isMap=CP.isMap:=by
   rcases vA with h|h
   ·subst h;exact hr.elim
   ·exact h
  have oB:∀cs,KW.isMap=false→af.again cs CP=.cells cs:=fun cs h=>by
   rw[h]at vA
   cases CP<;>first|rfl|exact absurd rfl vA.1|exact absurd vA.2 (by simp[af.isMap])
  cases KW with
  |none=>exact hr.elim
  |cells cs=>
   rw[oB _ rfl]
   obtain⟨r1,c,t,r2,r3,r4⟩:=hr
   exact⟨r1,c,t,r2,r3,r4.1,fun j x y hx hy=>(r4.2 j x y hx hy).mono (fun _ _ h=>(by first|exact⟨h,rfl⟩|exact⟨h,.refl _ _ _⟩)) (fun _ _ _=>rfl) _ (fun _ _ _ h=>⟨Ii h,.refl _ _ _⟩)⟩
  |one s=>
   rw[oB _ rfl]
   obtain⟨r1,c,t,r2,r3,r4⟩:=hr
   refine⟨r1,c,t,r2,r3,Nat.succ_le_of_lt r4.1,fun j x y hx hy=>?_⟩
   have:x=.undef :=by
    cases j<;>simp[af.aJ]at hx
    exact hx.symm
   subst this
   exact .undef _ _
  |map l=>
   cases CP with
   |map l0=>
    obtain⟨r1,es,clock,r2,r3,r4⟩:=hr
    exact⟨r1,es,clock,r2,r3,r4⟩
   |_=>exact absurd vA.2 (by simp[af.isMap])
 ·intro i j aj h1 h2
  exact cK.nodup i j aj (yY h1).2 (yY h2).2
 ·intro b' o h'
  exact⟨(cK.cm b' o h').1,fun hm=>(cK.cm b' o h').2.1 (sR hm),(cK.cm b' o h').2.2⟩
 ·intro b' h'
  exact cK.cZ b' (sR h')
 ·exact cK.ja
theorem DA{w0:World}{an:S0}{e:Env}{a:Act}{w:World}{g:Gh}(hI:Inv gl w0 an e a w g){key:Nat}{c:Code}{QA:Ex→Env→Prop}{T:(Ex→Env→Prop)→Prop}
  (hF:∀Q,T Q→T (fun ex e'=>Q ex e'∧Fr h.gh c e e'))(hh:oE h key c e QA T):
  ∃rT,T rT∧∀ex e' a' w' g',Inv gl w0 an e' a' w' g'→rT ex e'→∃jS uy,Inv gl w0 an jS a' w' uy∧QA ex jS:=by
 unfold oE at hh
 generalize lB h.ei key=kk at hh
 obtain⟨vars,consts⟩:=kk
 cases vars<;>cases consts
 ·exact⟨_,hh,fun ex e' a' w' g' h1 h2=>⟨e',g',h1,h2⟩⟩
 all_goals
  obtain⟨hb,hh⟩:=pr (hh:cond _ _ False)
  simp only[Bool.and_eq_true,List.all_eq_true,Bool.not_eq_true',List.contains_eq_mem,decide_eq_false_iff_not]at hb
  refine⟨_,hF _ hh,fun ex e' a' w' g' h1 h2=>?_⟩
  obtain⟨h2,hf⟩:=h2
  cases ex with
  |normal=>exact⟨_,_,Hv hI h1 hf hb.1,h2⟩
  |exit i=>exact⟨e',g',h1,h2⟩
  |ret=>exact⟨e',g',h1,h2⟩
theorem MT{id:Nat}{ops:Array Oper}{draw:Bool}{e:Env}(Q:Ex→Env→Prop)(hh:kh P gl (aB P gl) h id ops draw e (Q .normal)):
 kh P gl (aB P gl) h id ops draw e (fun e2=>Q .normal e2∧Fr h.gh (.region id ops draw) e e2):=NF hh
theorem Zi{w0:World}{an:S0}{e:Env}{a:Act}{w:World}{g:Gh}(hI:Inv gl w0 an e a w g){id:Nat}{ops:Array Oper}{draw:Bool}{K:Env→Prop}{Q:Exit→Act→World→Prop}(hm:P.follows .mixedOrders =true)
  (hh:kh P gl (aB P gl) h id ops draw e K)(hQ:∀e a w g,Inv gl w0 an e a w g→K e→Q .normal a w):(Code.region id ops draw).wp P Q a w:=by
 unfold kh at hh
 obtain⟨hb,hh⟩:=pr hh
 obtain⟨e1,g1,cK,h1⟩:=zj hI hh
 have uz:∀e a w g,Inv gl w0 an e a w g→fP (jo h.gh (4000000+id)) e K→Q .normal a w:=fun e a w g h1 h2=>by
  obtain⟨e2,g2,cG,h3⟩:=zj h1 h2
  exact hQ e2 a w g2 cG h3
 cases hs:s6 P draw ops.toList with
 |some s=>
  simp only[hs]at h1
  obtain⟨hd,KX⟩:=GY hs
  subst hd
  have hr:=OU cK KX h1
  refine wp_region ?_
  have:=PB (ops:=ops) (Q:=Q) (fun a' w'⟨e',g',aX,hk⟩=>uz e' a' w' g' aX hk) ops.toList 0 (fun j=>by simp) hr
  rw[List.range_eq_range']
  simpa using this
 |none=>
  simp only[hs]at h1
  exact WE cK hm h1 fun e' a' w' g' aX hk=>uz e' a' w' g' aX hk
theorem NI{c:Operand}{a b:Code}{e:Env}(Q:Ex→Env→Prop)(hh:mF e c (aw P gl (aB P gl) h a Q) (aw P gl (aB P gl) h b Q)):
  mF e c (aw P gl (aB P gl) h a fun x e'=>Q x e'∧Fr h.gh (.cond c a b) e e') (aw P gl (aB P gl) h b fun x e'=>Q x e'∧Fr h.gh (.cond c a b) e e'):=
 GZ (A:=aw P gl (aB P gl) h a Q) (B:=aw P gl (aB P gl) h b Q)
     (fun ha=>jJ a (fun y e2 hy=>⟨hy.1,hy.2.mono fun t ht=>by simp[cj,ht]⟩) (ou a ha)) (fun hb=>jJ b (fun y e2 hy=>⟨hy.1,hy.2.mono fun t ht=>by simp[cj,ht]⟩) (ou b hb)) hh
theorem qJ(hm:P.follows .mixedOrders =true):∀(c:Code){w0:World}{an:S0}{QA:Ex→Env→Prop}{e:Env}{a:Act}{w:World}{g:Gh}{Q:Exit→Act→World→Prop},
  Inv gl w0 an e a w g→aw P gl (aB P gl) h c QA e→(∀x e' a' w' g',Inv gl w0 an e' a' w' g'→QA x e'→Q x.to a' w')→c.wp P Q a w
 | .skip,_,_,_,_,_,_,_,_,hI,hh,hQ=>wp_skip (hQ .normal _ _ _ _ hI hh)
 | .region id ops draw,w0,an,QA,e,a,w,g,Q,hI,hh,hQ=>by
   obtain⟨rT,hh,hj⟩:=DA hI (c:=.region id ops draw) (T:=fun Q=>kh P gl (aB P gl) h id ops draw e (Q .normal)) (fun Q hh=>MT Q hh) hh
   have hQ:∀x e' a' w' g',Inv gl w0 an e' a' w' g'→rT x e'→Q x.to a' w':=fun x e' a' w' g' h1 h2=>(by
    obtain⟨jS,uy,h3,h4⟩:=hj x e' a' w' g' h1 h2
    exact hQ x jS a' w' uy h3 h4)
   clear hj
   exact Zi hI hm hh fun e' a' w' g' aX hk=>hQ .normal e' a' w' g' aX hk
 | .seq x y,w0,an,QA,e,a,w,g,Q,hI,hh,hQ=>by
   refine wp_seq (qJ hm x hI hh fun ex e' a' w' g' aX hk=>?_)
   cases ex with
   |normal=>exact qJ hm y aX hk hQ
   |exit i=>exact hQ (.exit i) e' a' w' g' aX hk
   |ret=>exact hQ .ret e' a' w' g' aX hk
 | .cond c x y,w0,an,QA,e,a,w,g,Q,hI,hh,hQ=>by
   obtain⟨rT,hh,hj⟩:=DA hI (c:=.cond c x y) (T:=fun Q=>mF e c (aw P gl (aB P gl) h x Q) (aw P gl (aB P gl) h y Q)) (fun Q hh=>NI Q hh) hh
   have hQ:∀x e' a' w' g',Inv gl w0 an e' a' w' g'→rT x e'→Q x.to a' w':=fun x e' a' w' g' h1 h2=>(by
    obtain⟨jS,uy,h3,h4⟩:=hj x e' a' w' g' h1 h2
    exact hQ x jS a' w' uy h3 h4)
   clear hj
   cases c with
   |tmp t=>
    simp only[mF]at hh
    have hs:=iI hI t
    cases hx:e.ai.getD t (.v .undef)with
    |v z=>
     rw[hx]at hh hs
     obtain⟨b,rfl,h1,h2⟩:=zh hh
     have hv:=hs.iK.data.qI
     refine wp_cond_split hv (fun hb=>?_) (fun hb=>?_)
     ·have:=h1 hb
      subst hb
      rw[sJ hx]at this
      exact qJ hm x hI this hQ
     ·have:=h2 hb
      subst hb
      rw[sJ hx]at this
      exact qJ hm y hI this hQ
    |_=>rw[hx]at hh;exact hh.elim
   |const v=>
    cases v with
    |bool b=>
     refine wp_cond_split (t:=b) rfl (fun hb=>?_) (fun hb=>?_)
     ·subst hb;exact qJ hm x hI hh hQ
     ·subst hb;exact qJ hm y hI hh hQ
    |_=>exact hh.elim
   |_=>exact hh.elim
 | .block id b,w0,an,QA,e,a,w,g,Q,hI,hh,hQ=>by
   refine wp_block (qJ hm b hI hh fun ex e' a' w' g' aX hk=>?_)
   cases ex with
   |normal=>exact hQ .normal e' a' w' g' aX hk
   |exit i=>
    have bI:cond (i==id) (QA .normal e') (QA (.exit i) e'):=hk
    show(if i=id then Q .normal a' w' else Q (.exit i) a' w')
    cases hb:(i==id)with
    |true=>
     rw[hb]at bI
     rw[if_pos (beq_iff_eq.1 hb)]
     exact hQ .normal e' a' w' g' aX bI
    |false=>
     rw[hb]at bI
     rw[if_neg (beq_eq_false_iff_ne.1 hb)]
     exact hQ (.exit i) e' a' w' g' aX bI
   |ret=>exact hQ .ret e' a' w' g' aX hk
 | .loop b,w0,an,QA,e,a,w,g,Q,hI,hh,hQ=>by
   obtain⟨hb,hh⟩:=pr (hh:cond _ _ False)
   simp only[Bool.and_eq_true,List.all_eq_true,Bool.not_eq_true',List.contains_eq_mem,decide_eq_false_iff_not]at hb
   obtain⟨JN,hk⟩:=hb
   let LW:Act→World→Prop:=fun a1 w1=>∀(fr:Frame)(k:List Item)(cs:List Frame),∃ex a' w',Q ex a' w'∧Arrives P (lone (fr.at a1 (.code b::.inLoop b::k)) cs w1) fr k cs ex a' w'
   let I:List SV→List (List SV)→Prop:=fun vs bs=>∀e1 a1 w1 g1,Inv gl w0 an e1 a1 w1 g1→Fr h.gh b e e1→qS e1 (lB h.ei (kL b)).1=vs→qL e.boxes.length e1=bs→LW a1 w1
   have key:I _ _:=hh I fun vs bs hF e1 a1 w1 g1 cK ux iM fW=>by
    subst iM fW
    have KY:=Hv hI cK ux (vars:=(lB h.ei (kL b)).1) JN
    have gW:=qJ hm b (Q:=fun ex a' w'=>match ex with| .normal =>LW a' w'|ex=>Q ex a' w') KY (ou b hF) (fun ex e' a' w' g' aX bI=>by
     obtain⟨iE,iP⟩:=bI
     cases ex with
     |normal=>exact iE e' a' w' g' aX ((DV hk).trans iP (fun t ht=>ht) (fun t ht=>ht)) rfl rfl
     |exit i=>exact hQ (.exit i) e' a' w' g' aX iE
     |ret=>exact hQ .ret e' a' w' g' aX iE)
    intro fr k cs
    obtain⟨ex,a2,w2,hq,ko⟩:=gW fr (.inLoop b::k) cs
    cases ex with
    |normal=>
     obtain⟨e₂,a₂,w₂,KZ,Jg⟩:=hq fr k cs
     exact⟨e₂,a₂,w₂,KZ,.of_steps (Steps.trans ko (.one step_inLoop)) Jg⟩
    |exit id=>exact⟨_,a2,w2,hq,.pass (x:=.inLoop b) rfl (fun _ _=>.inl (by simp)) ko⟩
    |goto l=>exact⟨_,a2,w2,hq,.pass (x:=.inLoop b) rfl (fun _ _=>.inl (by simp)) ko⟩
    |ret=>exact⟨_,a2,w2,hq,.pass (x:=.inLoop b) rfl (fun _ _=>.inl (by simp)) ko⟩
    |panic ch=>exact⟨_,a2,w2,hq,.pass (x:=.inLoop b) rfl (fun _ _=>.inl (by simp)) ko⟩
    |outgrown=>exact⟨_,a2,w2,hq,.pass (x:=.inLoop b) rfl (fun _ _=>.inl (by simp)) ko⟩
   have K0:LW a w:=key e a w g hI (Fr.refl _ _) rfl rfl
   intro fr k cs
   obtain⟨ex,a',w',hq,ko⟩:=K0 fr k cs
   exact⟨ex,a',w',hq,.of_steps (.one step_loop) ko⟩
 | .exit id,_,_,_,_,_,_,_,_,hI,hh,hQ=>wp_exit (hQ (.exit id) _ _ _ _ hI hh)
 | .ret,_,_,_,_,_,_,_,_,hI,hh,hQ=>wp_ret (hQ .ret _ _ _ _ hI hh)
 | .goto _,_,_,_,_,_,_,_,_,_,hh,_=>hh.elim
 | .label _,_,_,_,_,_,_,_,_,hI,hh,hQ=>wp_label (hQ .normal _ _ _ _ hI hh)
 | .scope _,_,_,_,_,_,_,_,_,_,hh,_=>hh.elim
 | .rangeFunc _ _ _ _,_,_,_,_,_,_,_,_,_,hh,_=>hh.elim
 | .refuse _,_,_,_,_,_,_,_,_,_,hh,_=>hh.elim
end
end Go.Proofs.Ytimbllcalipehaa.Ab
namespace Go.Proofs.Ytimbllcalipehaa.Ab
open Go Go.RowKit
section
variable{P:Program}{gl:Nat→Option D}{h:Hints}
theorem WK{f:FuncId}{fn:Func}{c:Code}(hf:P.funcs[f]? =some fn)(Jh:(fn.name== "runtime.NumGoroutine")=false)(hb:fn.body=some c):j9 P f:=by
 intro args w
 have h1:fn.name≠ "runtime.NumGoroutine" :=by simpa using Jh
 simp[callFunc,hf,h1,hb]
theorem aG.zU{w:World}{St:Nat→Nat→Prop}{base:Nat}{O:Nat→Nat→Nat→Prop}{x:SV}{v:Value}(r:aG w St base O x v)(hx:x.ar=true):aG w St 0 O x v:=by
 have hL:∀{l:List SV},SV.fO l=true→∀(i:Nat)y,l[i]? =some y→y.ar=true:=by
  intro l
  induction l with
  |nil=>intro _ i y h;simp at h
  |cons z l ih=>
   intro h i y hy
   simp only[SV.fO,Bool.and_eq_true]at h
   cases i with
   |zero=>simp at hy;subst hy;exact h.1
   |succ i=>exact ih h.2 i y (by simpa using hy)
 induction r with
 |d O x v hd=>exact .d O x v hd
 |own O sz L g cap hd bE ho=>exact .own O sz L g cap hd bE ho
 |full O sz L a hd=>exact .full O sz L a hd
 |ref=>simp[SV.ar]at hx
 |cM=>simp[SV.ar]at hx
 |aS O x off b o vs hf aL hc=>exact .aS O x off b o vs hf aL hc
 |cS O f first cap fv cv hf hc _ _ g5 g6=>
  simp only[SV.ar,Bool.and_eq_true]at hx
  exact .cS O f first cap fv cv hf hc (fun i x v a b=>g5 i x v a b (hL hx.1 i x a)) (fun i x v a b=>g6 i x v a b (hL hx.2 i x a))
 |bt O sz L g cap vs h1 h2 h3 h4 h5 h6 h7=>exact .bt O sz L g cap vs h1 h2 h3 h4 h5 h6 h7
 |mp O l r es clock hh hs hl hc=>exact .mp O l r es clock hh hs hl hc
 |undef O v=>exact .undef O v
theorem aG.Zj{w:World}{St:Nat→Nat→Prop}{base:Nat}{O:Nat→Nat→Nat→Prop}{l:List SV}{v:Value}(r:aG w St base O (.aK l) v):False:=by cases r
def wX(r:ResultVar)(tmps:Array Value):Sem Value:=match r with
 | .tmp t=>pure (tmps.getD t undef)
 | .cell a t=>do loadVar t (←asAddr (tmps.getD a undef))
theorem VX(fn:Func)(tmps:Array Value):results fn tmps=(fn.results.mapM fun r=>wX r tmps)>>=fun vs=>pure (if h:vs.size=1 then vs[0]else .tuple vs):=by
 unfold results
 congr 1
def Qs(rs:List ResultVar):Pos→Option Nat
 | .s t 0=>rs.findIdx? fun r=>match r with| .tmp u=>u==t|_=>false
 |_=>none
def tx(g:Gh)(rs:List ResultVar)(b:Nat):Option Nat:=(g.ow b).bind (Qs rs)
theorem OV{w0:World}{an:S0}{e:Env}{a:Act}{w:World}{g:Gh}(hI:Inv gl w0 an e a w g){rs:List ResultVar}{used:List Nat}{j:Nat}{r:ResultVar}(hr:rs[j]? =some r)
  (acV:∀i u,i<j→rs[i]? =some (.tmp u)→u∈used){k:SV→Prop}(hh:xF P e used r k):
  ∃x v,k x∧(wX r a.tmps).run P w=.ok v w∧aG w g.St 0 (tI w0.heap.size w g.St (tx g rs) j) x v:=by
 cases r with
 |tmp t=>
  simp only[xF]at hh
  have hs:=iI hI t
  cases hx:e.ai.getD t (.v .undef)with
  |v x=>
   rw[hx]at hh hs
   obtain⟨hn,hk⟩:=hh
   refine⟨_,a.tmps.getD t undef,hk,rfl,?_⟩
   have hv:aG w g.St 0 (eA w0.heap.size w g t 0) x (a.tmps.getD t undef):=hs.iK.zU hn
   cases hu:used.contains t with
   |true=>exact hv.aa
   |false=>
    refine hv.mono (fun _ _ h=>(by first|exact⟨h,rfl⟩|exact⟨h,.refl _ _ _⟩)) (fun _ _ _=>rfl) _ fun b a' c ho=>⟨?_,.refl _ _ _⟩
    obtain⟨o1,o2,_,o4,o5⟩:=ho
    refine⟨?_,o2,o4,o5⟩
    simp only[tx,o1,Option.bind_some,Qs]
    rw[List.findIdx?_eq_some_iff_getElem]
    have hj:j<rs.length:=(List.getElem?_eq_some_iff.1 hr).1
    have KM:rs[j]=.tmp t:=(List.getElem?_eq_some_iff.1 hr).2
    refine⟨hj,by simp[KM],fun i hi=>?_⟩
    have lO:i<rs.length:=by omega
    cases yh:rs[i]with
    |tmp u=>
     have:=acV i u hi (by rw[List.getElem?_eq_getElem lO,yh])
     have bf:u≠t:=by
      rintro rfl
      simp at hu
      exact hu this
     simpa using bf
    |cell _ _=>simp
  |_=>rw[hx]at hh;exact hh.elim
 |cell c t=>
  simp only[xF]at hh
  obtain⟨ly,hl,hh⟩:=aF hh
  obtain⟨b0,n⟩:=ly
  have hs:=iI hI c
  cases hx:e.ai.getD c (.v .undef)with
  |p bn off=>
   rw[hx]at hh hs
   obtain⟨aj,hv,cX⟩:=hs.kQ
   simp only[Act.eval]at hv
   change oz b0 n bn off e.boxes _ at hh
   unfold oz at hh
   split at hh
   ·rename_i cs bO
    obtain⟨y,hy,hn,hk⟩:=aF hh
    obtain⟨h0,cc,ty,hc,bV,hlen,aW⟩:=hI.boxes bn _ aj bO cX
    obtain⟨v,h1,h2⟩:=G5 (w:=w) (off:=off) (St:=g.St) (O:=fun j=>pP w0.heap.size w g bn j) hl hy aj 0 (fun i=>cc.getD i undef) (fun i hi=>by
     rw[cell_of_row w aj (0+i) cc ty (0,0) hc];simp[Nat.lt_of_lt_of_le hi hlen]) (fun i d hd=>by
     have hi:=(List.getElem?_eq_some_iff.1 hd).1
     exact aW i d _ hd (by simp[Nat.lt_of_lt_of_le hi hlen])) (fun i hi=>by
     have dZ:i<cc.size:=Nat.lt_of_lt_of_le hi hlen
     simp[dZ];exact bV i _ hi (by simp))
    simp only[Nat.zero_add]at h1
    refine⟨_,v,hk,?_,(h2.aa (O':=fun _ _ _=>False)).zU hn |>.mono (fun _ _ h=>(by first|exact⟨h,rfl⟩|exact⟨h,.refl _ _ _⟩)) (fun _ _ _=>rfl) _ (fun _ _ _ h=>h.elim)⟩
    simp[wX,hv,asAddr,h1]
   ·rename_i s la
    cases b0 with
    |true=>exact hh.elim
    |false=>
     simp only[cond_false]at hh
     split at hh
     ·obtain⟨h0,cc,ty,hc,bV,aH,aW⟩:=hI.boxes bn _ aj la cX
      have Cu:cc[0]? =some (cc[0]'(by omega)):=by simp
      have hd:=(aW _ Cu).aa (O':=fun _ _ _ _=>False)
      split at hh
      ·rename_i x dp
       obtain⟨hn,hk⟩:=hh
       rw[dp]at hd
       refine⟨x,cc[0]'(by omega),hk,?_,hd.iK.zU hn |>.mono (fun _ _ h=>(by first|exact⟨h,rfl⟩|exact⟨h,.refl _ _ _⟩)) (fun _ _ _=>rfl) _ (fun _ _ _ h=>h.elim)⟩
       have aV:=wQ (P:=P) (w:=w) (vs:=fun _=>cc[0]'(by omega)) hl aj 0 (fun j hj=>by
        simp at hj;subst hj
        rw[cell_of_row w aj (0+0) cc ty (0,0) hc];exact Cu)
       simp[wX,hv,asAddr,aV]
      ·exact hh.elim
     ·exact hh.elim
   ·exact hh.elim
  |_=>rw[hx]at hh;exact hh.elim
theorem Og{w0:World}{an:S0}{e:Env}{a:Act}{w:World}{g:Gh}(hI:Inv gl w0 an e a w g){rs:List ResultVar}:∀(l:List ResultVar)(used:List Nat)(j:Nat)(k:List SV→Prop),(∀i,l[i]? =rs[j+i]?)→
  (∀i u,i<j→rs[i]? =some (.tmp u)→u∈used)→xp P e used l k→
  ∃xs vs,k xs∧xs.length=l.length∧(l.mapM fun r=>wX r a.tmps).run P w=.ok vs w∧vs.length=l.length∧∀(i:Nat)x v,xs[i]? =some x→vs[i]? =some v→aG w g.St 0 (tI w0.heap.size w g.St (tx g rs) (j+i)) x v
 |[],_,_,k,_,_,hh=>⟨[],[],hh,rfl,by simp,rfl,fun i x v h=>by simp at h⟩
 |r::l,used,j,k,hl,hu,hh=>by
  simp only[xp]at hh
  have hr:rs[j]? =some r:=by simpa using(hl 0).symm
  obtain⟨x,v,hk,aV,aW⟩:=OV hI hr hu hh
  obtain⟨xs,vs,bI,K1,acW,yo,EH⟩:=Og hI l (En used r) (j+1) _ (fun i=>by have:=hl (i+1);simpa[Nat.add_assoc,Nat.add_comm 1 i]using this) (fun i u hi yh=>by
   rcases Nat.lt_or_ge i j with h'|h'
   ·have:=hu i u h' yh
    cases r<;>simp[En,this]
   ·have:i=j:=by omega
    subst this
    rw[hr]at yh
    cases yh
    simp[En]) hk
  refine⟨x::xs,v::vs,bI,by simp[K1],?_,by simp[yo],fun i y u hy hv=>?_⟩
  ·simp[List.mapM_cons,aV,acW]
  ·cases i with
   |zero=>simp at hy hv;subst hy hv;exact aW
   |succ i=>
    have:=EH i y u (by simpa using hy) (by simpa using hv)
    rw[show j+(i+1)=j+1+i by omega]
    exact this
theorem A2{fn:Func}{tmps:Array Value}{vs:List Value}{w:World}(hh:(fn.results.toList.mapM fun r=>wX r tmps).run P w=.ok vs w):
  (results fn tmps).run P w=.ok (match vs with|[v]=>v|vs=>.tuple vs.toArray) w:=by
 rw[VX,Array.mapM_eq_mapM_toList]
 simp only[Sem.run_bind,map_eq_pure_bind,hh,Result.andThen_ok,Sem.run_pure]
 match vs with
 |[]=>simp
 |[v]=>simp
 |v::u::l=>simp
theorem Hf{w0:World}{an:S0}{e:Env}{a:Act}{w:World}{g:Gh}(hI:Inv gl w0 an e a w g){fn:Func}{K:SV→Prop}(hh:finish P fn e K):
  ∃r v,K r∧(results fn a.tmps).run P w=.ok v w∧tc w0.heap.size w g.St (tx g fn.results.toList) r v:=by
 unfold finish at hh
 split at hh
 ·rename_i r hr
  have K2:fn.results.toList[0]? =some r:=by rw[hr];rfl
  obtain⟨x,v,hk,aV,aW⟩:=OV hI K2 (fun i u hi=>by omega) hh
  refine⟨x,v,hk,?_,?_⟩
  ·have:=A2 (P:=P) (fn:=fn) (tmps:=a.tmps) (w:=w) (vs:=[v]) (by rw[hr];simp[aV])
   exact this
  ·cases x with
   |aK l=>exact aW.Zj.elim
   |_=>exact aW
 ·rename_i bf
  obtain⟨xs,vs,hk,K1,aV,yo,aW⟩:=Og hI (rs:=fn.results.toList) fn.results.toList [] 0 _ (fun i=>by simp) (fun i u hi=>by omega) hh
  refine⟨.aK xs,.tuple vs.toArray,hk,?_,vs.toArray,rfl,by simp[K1,yo],fun j x y hx hy=>?_⟩
  ·rw[A2 aV]
   split
   ·rename_i v
    exfalso
    match K3:fn.results.toList with
    |[]=>rw[K3]at yo;simp at yo
    |[r]=>exact bf r K3
    |_::_::_=>rw[K3]at yo;simp at yo
   ·rfl
  ·have:=aW j x y hx (by simpa using hy)
   simpa using this
theorem bZ(hm:P.follows .mixedOrders =true){f:FuncId}{args:List SV}{r:SV}(hE:j9 P f)(hh:body P gl (aB P gl) h f args fun x=>x=r)(ha:ki args=none:=by rfl):aB P gl f args r:=by
 rw[wU ha]
 refine⟨hE,fun w St vs lS mX hlen ea=>?_⟩
 unfold body at hh
 split at hh
 ·rename_i fn hf
  split at hh
  ·rename_i c hb
   have ba:SV.fo args:=by
    rw[SV.iW]
    intro x hx
    obtain⟨i,hi,rfl⟩:=List.mem_iff_getElem.1 hx
    exact(ea i _ (vs[i]'(by omega)) (by simp) (by simp)).wf
   have hh:=hh ba
   have hI:Inv gl w {St:=St,df:=fun _ _=>False,cl:=fun _ _ _=>False} (enter fn.ntmps args) {tmps:=vs++Array.replicate (fn.ntmps-vs.size) undef,defers:=[]} w ⟨St,[],fun _=>none⟩:=by
    refine⟨Below.refl _ _,by simp[enter,hlen],fun i s hs=>?_,rfl,fun b bx aj h1=>by simp[enter]at h1,fun i j aj h1=>by simp at h1,fun _ _ h=>h,fun b o hb=>⟨.inl hb,by simp,lS b o hb⟩,fun b hb=>by simp at hb,mX,rfl,fun D o hD=>hD.elim,fun b o v hv=>hv.elim,Nat.zero_le _⟩
    simp only[enter]at hs
    rw[List.getElem?_append]at hs
    split at hs
    ·rename_i hi
     simp only[List.length_map]at hi
     simp only[List.getElem?_map,Option.map_eq_some_iff]at hs
     obtain⟨x,hx,rfl⟩:=hs
     have CQ:i<vs.size:=by omega
     have:=ea i x vs[i] hx (by simp)
     have iw:(vs++Array.replicate (fn.ntmps-vs.size) undef).getD i undef=vs[i]:=by
      simp[Array.getElem?_append,CQ]
     rw[iw]
     exact .v _ _ _ (this.mono (fun _ _ h=>(by first|exact⟨h,rfl⟩|exact⟨h,.refl _ _ _⟩)) (fun _ _ _=>rfl) _ (fun _ _ _ h=>h.elim))
    ·have:=(List.mem_replicate.1 (List.mem_of_getElem? hs)).2
     subst this
     exact .v _ _ _ (.undef _ _)
   refine calls_of_wp hf hb (qJ hm c hI hh fun ex e' a' w' g' aX hk=>?_)
   have z5:∀{K},finish P fn e' K→(∀x,K x→x=r)→a'.defers=[]∧∃v,(results fn a'.tmps).run P w'=.ok v w'∧(∃v',(Ending.returned v)=.returned v'∧Below w.heap.size w w'∧∃bz ow,(∀b o,St b o→bz b o)∧
     (∀b o,bz b o→St b o∨(w.heap.size≤b∧b<w'.heap.size))∧tc w.heap.size w' bz ow r v'):=by
    intro K hk hKr
    obtain⟨r',v,iE,aV,aW⟩:=Hf aX hk
    have:=hKr r' iE
    subst this
    exact⟨aX.defers,v,aV,v,rfl,aX.below,g'.St,_,aX.fp,fun b o h=>(aX.cm b o h).1.imp id fun h1=>⟨h1,(aX.cm b o h).2.2⟩,aW⟩
   cases ex with
   |normal=>exact z5 hk fun x hx=>hx
   |exit i=>exact hk.elim
   |ret=>exact z5 hk fun x hx=>hx
  ·exact hh.elim
 ·exact hh.elim
end
end Go.Proofs.Ytimbllcalipehaa.Ab
namespace Go.Proofs.Ytimbllcalipehaa.Ab
open Go
def bd(x:SV):Option SV:=match x with| .cM n _ _=>some (.d (.int .i64 n))|x=>(match Bf x with|some L=>some (.d (.int .i64 L.length))|none=>none)
def IF(s:Nat)(x:SV)(lo hi mx:Option SV):Option SV:=match bF x with
 |some (.sl k sz L)=>(match BR L lo hi,mx with
  |some r,none=>(match k with| .nil =>some (.d (.sl .nil s []))| .ro =>if sz=s then some (.d (.sl .ro sz r))else none)
  |some r,some m=>(match hi,cH m (L.length+1)with
   |some h,some _=>(match h,m with
    | .d (.int _ a),.d (.int _ b)=>if a=b then(match k with| .nil =>some (.d (.sl .nil s []))| .ro =>if sz=s then some (.full sz r)else none)else none
    |_,_=>none)
   |_,_=>none)
  |none,_=>none)
 |_=>none
def aR:List (Nat×Slot)→Option (List (Nat×D))
 |[]=>some []
 |(i,s)::l=>match s with
  | .v y=>(match bF y with
    |some z=>(match aR l with|some r=>some ((i,z)::r)|none=>none)
    |none=>none)
  |_=>none
end Go.Proofs.Ytimbllcalipehaa.Ab
namespace Go.Proofs.Ytimbllcalipehaa.Ab
open Go Go.RowKit Go.ChangeShapes Go.WideShapes
inductive RL{α β:Type}(R:α→β→Prop):List α→List β→Prop
 |nil:RL R [] []
 |cons {a:α} {b:β} {l:List α} {m:List β} (h:R a b) (t:RL R l m):RL R (a::l) (b::m)
section
variable{α β:Type}{R S:α→β→Prop}
theorem RL.length{l:List α}{m:List β}(h:RL R l m):l.length=m.length:=by induction h<;>simp_all
theorem RL.append{l l':List α}{m m':List β}(h:RL R l m)(h':RL R l' m'):RL R (l++l') (m++m'):=by
 induction h with
 |nil=>exact h'
 |cons h _ ih=>exact .cons h ih
theorem RL.mono(hm:∀a b,R a b→S a b){l:List α}{m:List β}(h:RL R l m):RL S l m:=by
 induction h with
 |nil=>exact .nil
 |cons h _ ih=>exact .cons (hm _ _ h) ih
theorem RL.get{l:List α}{m:List β}(h:RL R l m):∀(i:Nat)(a:α)(b:β),l[i]? =some a→m[i]? =some b→R a b:=by
 induction h with
 |nil=>intro i a b h;simp at h
 |cons h _ ih=>
  intro i a b ha hb
  cases i with
  |zero=>simp at ha hb;subst ha hb;exact h
  |succ i=>exact ih i a b (by simpa using ha) (by simpa using hb)
end
def pack(b:Bool)(xs:List D):D:=match b,xs with
 |true,xs=>.agg xs
 |false,[x]=>x
 |false,_=>.my
inductive Is(P:Program):TypeId→List D→Prop
 |bool {t:TypeId} (h:P.underlying t=some .bool) (b:Bool):Is P t [.bool b]
 |int {t:TypeId} {k:IntKind} (h:P.underlying t=some (.int k)) (n:Int) (hn:fm k n=true):Is P t [.int k n]
 |str {t:TypeId} (h:P.underlying t=some .string) (s:List UInt8) (hs:s.length≤maxLen):Is P t [.str s]
 |fD {t e:TypeId} (h:P.underlying t=some (.slice e)):Is P t [.sl .nil 0 []]
 |sl {t e:TypeId} (h:P.underlying t=some (.slice e)) (b:Bool) (hb:dm P e=some b) (L:List (List D)) (hm:L.length≤maxLen) (hL:∀x∈L,Is P e x):
   Is P t [.sl .ro (P.cellsOf e) (L.map (pack b))]
 |struct {t:TypeId} {fs:Array Field} (h:P.underlying t=some (.struct fs)) (parts:List (List D)) (hl:parts.length=fs.size)
   (hp:∀(i:Nat)f p,fs[i]? =some f→parts[i]? =some p→Is P f.type p):Is P t parts.flatten
 |array {t e:TypeId} {n:Nat} (h:P.underlying t=some (.array n e)) (parts:List (List D)) (hl:parts.length=n) (hp:∀p∈parts,Is P e p):Is P t parts.flatten
section
variable{P:Program}{t:TypeId}{xs:List D}
theorem Is.qI(ht:P.underlying t=some .bool)(h:Is P t xs):∃b,xs=[.bool b]:=by
 cases h with
 |bool _ b=>exact⟨b,rfl⟩
 |_=>simp_all
theorem Is.pz{k:IntKind}(ht:P.underlying t=some (.int k))(h:Is P t xs):∃n,xs=[.int k n]∧fm k n=true:=by
 cases h with
 |int h n hn=>rw[ht]at h;cases h;exact⟨n,rfl,hn⟩
 |_=>simp_all
theorem Is.sQ(ht:P.underlying t=some .string)(h:Is P t xs):∃s,xs=[.str s]∧s.length≤maxLen:=by
 cases h with
 |str h s hs=>exact⟨s,rfl,hs⟩
 |_=>simp_all
theorem Is.Er{e:TypeId}{b:Bool}(ht:P.underlying t=some (.slice e))(hb:dm P e=some b)(h:Is P t xs):
  xs=[.sl .nil 0 []]∨∃L:List (List D),xs=[.sl .ro (P.cellsOf e) (L.map (pack b))]∧L.length≤maxLen∧∀x∈L,Is P e x:=by
 cases h with
 |fD h=>exact .inl rfl
 |sl h b' dq L hm hL=>rw[ht]at h;cases h;rw[hb]at dq;cases dq;exact .inr ⟨L,rfl,hm,hL⟩
 |_=>simp_all
theorem Is.uZ{fs:Array Field}(ht:P.underlying t=some (.struct fs))(h:Is P t xs):
  ∃parts:List (List D),xs=parts.flatten∧parts.length=fs.size∧∀(i:Nat)f p,fs[i]? =some f→parts[i]? =some p→Is P f.type p:=by
 cases h with
 |struct h parts hl hp=>rw[ht]at h;cases h;exact⟨parts,rfl,hl,hp⟩
 |_=>simp_all
theorem Is.WL{e:TypeId}{n:Nat}(ht:P.underlying t=some (.array n e))(h:Is P t xs):∃parts:List (List D),xs=parts.flatten∧parts.length=n∧∀p∈parts,Is P e p:=by
 cases h with
 |array h parts hl hp=>rw[ht]at h;cases h;exact⟨parts,rfl,hl,hp⟩
 |_=>simp_all
end
def rp(P:Program):List Field→Nat→Option Nat
 |[],n=>some n
 |f::fs,n=>bif Nat.beq f.offset n then rp P fs (n+P.cellsOf f.type)else none
def qn(P:Program)(L:List Nat)(t:TypeId):Bool:=match P.underlying t with
 |some .bool =>Nat.beq (P.cellsOf t) 1
 |some (.int _)=>Nat.beq (P.cellsOf t) 1
 |some .string =>Nat.beq (P.cellsOf t) 1
 |some (.slice e)=>Nat.beq (P.cellsOf t) 1&&L.contains e&&Nat.ble 1 (P.cellsOf e)
 |some (.array n e)=>L.contains e&&Nat.beq (P.cellsOf t) (n*P.cellsOf e)
 |some (.struct fs)=>fs.toList.all (fun f=>L.contains f.type)&&(match rp P fs.toList 0 with|some n=>Nat.beq n (P.cellsOf t)|none=>false)
 |_=>false
def qO(P:Program)(L:List Nat):Bool:=L.all (qn P L)
section
variable{P:Program}{L:List Nat}
theorem HT:∀(fs:List Field)(n m:Nat),rp P fs n=some m→m=n+(fs.map fun f=>P.cellsOf f.type).sum
 |[],n,m,h=>by simp[rp]at h;simp[h]
 |f::fs,n,m,h=>by
  simp only[rp]at h
  cases hb:Nat.beq f.offset n<;>rw[hb]at h
  ·cases h
  ·have:=HT fs _ _ h
   simp only[List.map_cons,List.sum_cons]
   omega
theorem OX:∀(fs:List Field)(n m:Nat),rp P fs n=some m→∀(j:Nat)f,fs[j]? =some f→f.offset=n+((fs.take j).map fun f=>P.cellsOf f.type).sum
 |[],n,m,h,j,f,hj=>by simp at hj
 |f::fs,n,m,h,j,g,hj=>by
  simp only[rp]at h
  cases hb:Nat.beq f.offset n<;>rw[hb]at h
  ·cases h
  ·have hn:=Nat.eq_of_beq_eq_true hb
   cases j with
   |zero=>simp at hj;subst hj;simp[hn]
   |succ j=>
    have:=OX fs _ _ h j g (by simpa using hj)
    simp only[List.take_succ_cons,List.map_cons,List.sum_cons]
    omega
theorem sK(h:qO P L=true){t:TypeId}(ht:t∈L):qn P L t=true:=List.all_eq_true.1 h t ht
theorem U6(h:qO P L=true):Kids P (· ∈L) where
 pointer:=fun{t e}ht hu=>by have:=sK h ht;simp[qn,hu]at this
 slice:=fun{t e}ht hu=>by have:=sK h ht;simp[qn,hu]at this;exact this.1.2
 array:=fun{t e n}ht hu=>by
  have:=sK h ht
  simp only[qn,hu,Bool.and_eq_true]at this
  exact⟨by simpa using this.1,Nat.eq_of_beq_eq_true this.2⟩
 struct:=fun{t fs}ht hu=>by
  have:=sK h ht
  simp only[qn,hu,Bool.and_eq_true]at this
  refine⟨fun f hf=>by simpa using List.all_eq_true.1 this.1 f hf,?_⟩
  have h2:=this.2
  split at h2
  ·rename_i n hn
   have e:=Nat.eq_of_beq_eq_true h2
   refine⟨by rw[←e,HT _ _ _ hn];omega,fun j f hj=>by rw[OX _ _ _ hn j f hj];omega⟩
  ·cases h2
 map:=fun{t k e}ht hu=>by have:=sK h ht;simp[qn,hu]at this
theorem VY(h:qO P L=true){t e:TypeId}(ht:t∈L)(hu:P.underlying t=some (.slice e)):0<P.cellsOf e:=by
 have:=sK h ht
 simp[qn,hu]at this
 omega
theorem NJ{β:Type}(cs:List β):∀(fs:List Field)(n m:Nat),rp P fs n=some m→cs.length=m→cs.drop n=(fs.map fun f=>(cs.drop f.offset).take (P.cellsOf f.type)).flatten
 |[],n,m,h,hm=>by simp[rp]at h;simp;omega
 |f::fs,n,m,h,hm=>by
  simp only[rp]at h
  cases hb:Nat.beq f.offset n<;>rw[hb]at h
  ·cases h
  ·have hn:=Nat.eq_of_beq_eq_true hb
   have ih:=NJ cs fs _ _ h hm
   simp only[List.map_cons,List.flatten_cons,←ih,hn]
   rw[←List.drop_drop,List.take_append_drop]
theorem Oh{β:Type}(s:Nat):∀(n:Nat)(cs:List β),cs.length=n*s→cs=((List.range n).map fun i=>(cs.drop (i*s)).take s).flatten
 |0,cs,h=>by simp at h;subst h;rfl
 |n+1,cs,h=>by
  rw[List.range_succ_eq_map,List.map_cons,List.flatten_cons,List.map_map]
  have ih:=Oh s n (cs.drop s) (by rw[List.length_drop,h,Nat.add_mul];omega)
  have:((fun i=>(cs.drop (i*s)).take s) ∘ Nat.succ)=fun i=>((cs.drop s).drop (i*s)).take s:=by
   funext i
   simp only[Function.comp,List.drop_drop]
   rw[Nat.succ_mul,Nat.add_comm]
  rw[this,←ih]
  simp
end
section
variable{H:Type}{enc:TypeId×Value→H}{P:Program}{w:World}{L:List Nat}
def z6(ps:List MemPlace)(b o:Nat):Prop:=MemPlace.cell b o∈ps
def rC(w:World)(ps:List MemPlace)(c:D)(v:Value):Prop:=c.one=true∧aU w (z6 ps) c v
theorem rC.mono{ps qs:List MemPlace}(h:∀p∈ps,p∈qs)(c:D)(v:Value)(r:rC w ps c v):rC w qs c v:=⟨r.1,r.2.mono fun b o hb=>⟨h _ hb,rfl⟩⟩
theorem VZ{b:Bool}{e:TypeId}(hL:qO P L=true)(he:e∈L)(hb:dm P e=some b){x:List D}(hx:Is P e x):(pack b x).cells =x∨∃y,x=[y]∧b=false:=by
 cases b with
 |true=>exact .inl rfl
 |false=>
  right
  unfold dm at hb
  cases hx with
  |bool h b=>exact⟨_,rfl,rfl⟩
  |int h n hn=>exact⟨_,rfl,rfl⟩
  |str h s hs=>exact⟨_,rfl,rfl⟩
  |fD h=>exact⟨_,rfl,rfl⟩
  |sl h=>exact⟨_,rfl,rfl⟩
  |struct h=>rw[h]at hb;cases hb
  |array h=>rw[h]at hb;cases hb
theorem U7{b:Bool}{e:TypeId}(hL:qO P L=true)(he:e∈L)(hb:dm P e=some b){x:List D}(hx:Is P e x)(h1:∀c∈x,c.one=true):(pack b x).cells =x:=by
 rcases VZ hL he hb hx with h|⟨y,rfl,rfl⟩
 ·exact h
 ·have:=h1 y (by simp)
  cases y<;>first|rfl|simp[D.one]at this
end
end Go.Proofs.Ytimbllcalipehaa.Ab
namespace Go.Proofs.Ytimbllcalipehaa.Ab
open Go Go.RowKit Go.ChangeShapes Go.WideShapes
section
variable{H:Type}{enc:TypeId×Value→H}{P:Program}{W:World}{L:List Nat}
theorem MG(hL:qO P L=true){W':World}(hb:Below W.heap.size W W'):∀{ts:List TypeId}{vs:List Value}{ds:List (DataW H)}{ps:List MemPlace},(∀t∈ts,t∈L)→
  DataW.TrodAll enc P W 0 (fun _=>true) true ts vs ds ps→(∀p∈ps,p.block<W.heap.size)→DataW.TrodAll enc P W' 0 (fun b=>decide (b<W.heap.size)) true ts vs ds ps
 |[],[],[],_,_,h,_=>h
 |t::ts,v::vs,d::ds,_,fu,⟨p,q,⟨fuel,hf⟩,h2,e⟩,aI=>by
  subst e
  refine⟨p,q,⟨fuel,?_⟩,MG hL hb (fun t ht=>fu t (List.mem_cons_of_mem _ ht)) h2 (fun x hx=>aI x (List.mem_append_right _ hx)),rfl⟩
  exact DataW.trod_stays (U6 hL) (fun ht hu=>VY hL ht hu) (fun h=>by cases h) (fu t List.mem_cons_self) hf (fun x hx=>hb.same (aI x (List.mem_append_left _ hx))) (fun x hx=>by simpa using aI x (List.mem_append_left _ hx))
theorem V0{gl:Nat→Option D}{SA:FuncId}{f:Func}{s:ChangeSpec}{args:Array Value}{ds gs:List (DataW H)}{before:List MemPlace}{tb:TypeId}{St:Nat→Nat→Prop}{EK:List SV}
  (hH:aB P gl SA EK (.d (.bool true)))(hL:qO P L=true)(fu:∀t∈f.params.toList,t∈L)(Kx:s.vars=[])
  (hW:DataW.Whole enc P f.params.toList s.vars false W args.toList ds gs before)
  (ux:(s.fn H (ds++gs)).results =[.lit (.bool true)])(yr:(s.fn H (ds++gs)).args =ds)(ui:(s.fn H (ds++gs)).vars =[])
  (xL:f.resultTypes= #[tb])(K4:P.underlying tb=some .bool)
  (aT:∀b o,St b o→b<W.heap.size)(hG:s5 gl W St)(hlen:EK.length=args.size)
  (aW:∀(i:Nat)x v,EK[i]? =some x→args[i]? =some v→aG W St W.heap.size (fun _ _ _=>False) x v):
  Calls P SA args W fun e W'=>∃v,e=.returned v∧s.post enc P f false true false false W args v W':=by
 rw[wU (Xz (O:=fun _ _ _ _=>False) hlen aW)]at hH
 refine(hH.2 W St args aT hG hlen aW).mono ?_
 rintro e W' ⟨v,rfl,hb,bz,ow,_,_,hr⟩
 refine⟨v,rfl,?_⟩
 have hv:v=.bool true:=by
  have:=aG.data (show aG W' bz 0 (tI W.heap.size W' bz ow 0) (.d (.bool true)) v from hr)
  cases this
  rfl
 subst hv
 have aI:=hW.lt
 refine⟨ds,gs,before,[],before,[],hW,?_,?_,?_,World.keptBut_mono (fun p hp=>⟨hp,.inr (.inl hp)⟩) (hb.frame _),fun h=>by cases h⟩
 ·rw[ux,xL]
  exact trodAll_cons_mk (shut_bool K4 _) trodAll_mk0
 ·rw[yr]
  obtain⟨p,q,hA,hV,rfl,_,_⟩:=hW
  rw[Kx]at hV
  have:q=[]:=by
   cases gs with
   |nil=>exact hV
   |cons _ _=>exact hV.elim
  subst this
  rw[List.append_nil]at aI ⊢
  exact MG hL hb fu hA aI
 ·rw[ui,Kx]
  rfl
theorem Zk{St:Nat→Nat→Prop}{ps:List MemPlace}{x:D}{v:Value}{base:Nat}{O:Nat→Nat→Nat→Prop}(h:aU W (z6 ps) x v)(hs:∀b o,MemPlace.cell b o∈ps→St b o):aG W St base O (.d x) v:=
 .d _ _ _ (h.mono fun b o hb=>⟨hs b o hb,rfl⟩)
end
end Go.Proofs.Ytimbllcalipehaa.Ab
namespace Go.Proofs.Ytimbllcalipehaa.Ab
open Go
def ob{α β:Type}(o:Option α)(k:α→Option β):Option β:=match o with|some x=>k x|none=>none
section
variable(P:Program)(gl:Nat→Option D)(call:FuncId→List SV→Option SV)
variable{P gl call}{C:bj}(hC:∀f args r,call f args=some r→C f args r)
include hC
end
end Go.Proofs.Ytimbllcalipehaa.Ab
namespace Go.Proofs.Ytimbllcalipehaa.Ab
open Go
section
variable{P:Program}{gl:Nat→Option D}{call:FuncId→List SV→Option SV}{C:bj}(hC:∀f args r,call f args=some r→C f args r)
end
end Go.Proofs.Ytimbllcalipehaa.Ab
namespace Go.Proofs.Ytimbllcalipehaa.Ab
open Go
section
variable(P:Program)(gl:Nat→Option D)(call:FuncId→List SV→Option SV)(h:Hints)
end
section
variable{P:Program}{gl:Nat→Option D}{call:FuncId→List SV→Option SV}{h:Hints}{C:bj}(hC:∀f args r,call f args=some r→C f args r)
end
end Go.Proofs.Ytimbllcalipehaa.Ab
namespace Go.Proofs.Ytimbllcalipehaa.Ab
open Go
def Pt{X:Type}(T:(X→Prop)→Prop):Prop:=∀Q,T Q→∃x,Q x∧∀Q',Q' x→T Q'
section
variable{X Y α:Type}
theorem Pt.false:Pt (fun _:X→Prop=>False):=fun _ h=>h.elim
theorem Pt.pure(x:X):Pt (fun Q:X→Prop=>Q x):=fun _ h=>⟨x,h,fun _ h'=>h'⟩
theorem Pt.ab{o:Option α}{T:α→(X→Prop)→Prop}(h:∀x,Pt (T x)):Pt (fun Q=>ab o fun x=>T x Q):=by
 intro Q hq
 cases o with
 |none=>exact hq.elim
 |some x=>exact h x Q hq
theorem Pt.aq{x:SV}{A B:(X→Prop)→Prop}(hA:Pt A)(hB:Pt B):Pt (fun Q=>aq x (A Q) (B Q)):=by
 intro Q hq
 obtain⟨b,rfl,h1,h2⟩:=zh hq
 cases b with
 |true=>exact hA Q (h1 rfl)
 |false=>exact hB Q (h2 rfl)
theorem Pt.and{p:Prop}{A:(X→Prop)→Prop}(hA:Pt A):Pt (fun Q=>p∧A Q):=by
 intro Q ⟨hp,hq⟩
 obtain⟨x,h1,h2⟩:=hA Q hq
 exact⟨x,h1,fun Q' h=>⟨hp,h2 Q' h⟩⟩
theorem Pt.ex{T:α→(X→Prop)→Prop}(h:∀a,Pt (T a)):Pt (fun Q=>∃a,T a Q):=by
 intro Q ⟨a,hq⟩
 obtain⟨x,h1,h2⟩:=h a Q hq
 exact⟨x,h1,fun Q' h=>⟨a,h2 Q' h⟩⟩
theorem Pt.cond{b:Bool}{A B:(X→Prop)→Prop}(hA:Pt A)(hB:Pt B):Pt (fun Q=>cond b (A Q) (B Q)):=by
 intro Q hq
 cases b with
 |true=>exact hA Q hq
 |false=>exact hB Q hq
theorem Pt.seq{T:(Y→Prop)→Prop}{S:Y→(X→Prop)→Prop}(hT:Pt T)(hS:∀y,Pt (S y)):Pt (fun Q=>T fun y=>S y Q):=by
 intro Q hq
 obtain⟨y,h1,h2⟩:=hT _ hq
 obtain⟨x,h3,h4⟩:=hS y Q h1
 exact⟨x,h3,fun Q' h=>h2 _ (h4 Q' h)⟩
theorem Pt.xM{β:Type}{T:(α→β→Prop)→Prop}{S:α→β→(X→Prop)→Prop}(hT:Pt (fun Q:α×β→Prop=>T fun a b=>Q (a,b)))(hS:∀a b,Pt (S a b)):Pt (fun Q=>T fun a b=>S a b Q):=by
 intro Q hq
 obtain⟨y,h1,h2⟩:=hT (fun y=>S y.1 y.2 Q) hq
 obtain⟨x,h3,h4⟩:=hS y.1 y.2 Q h1
 exact⟨x,h3,fun Q' h=>h2 (fun y=>S y.1 y.2 Q') (h4 Q' h)⟩
end
section
variable{P:Program}{gl:Nat→Option D}{C:bj}{h:Hints}{X:Type}
theorem XQ{f:FuncId}{args:List SV}{T:SV→(X→Prop)→Prop}(hT:∀r,Pt (T r)):Pt (fun Q=>aN C f args fun r=>T r Q):=
 Pt.ex fun r=>Pt.and (Pt.and (hT r))
theorem IG:∀(n:Nat){T:List SV→(X→Prop)→Prop},(∀l,Pt (T l))→Pt (fun Q=>v8 n fun l=>T l Q)
 |0,_,hT=>hT []
 |n+1,_,hT=>Pt.ex fun r=>IG n fun l=>hT (r::l)
theorem DW{n:Nat}{ax:List af}{f:FuncId}{args:List SV}:Pt (fun Q:Slot×List af→Prop=>mE C n ax (fun s b=>Q (s,b)) f args):=by
 unfold mE
 split
 ·exact XQ fun r=>Pt.pure _
 ·exact IG _ fun l=>Pt.and (Pt.pure _)
theorem PC{sz cL:Nat}{x y:SV}{T:SV→(X→Prop)→Prop}(hT:∀r,Pt (T r)):Pt (fun Q=>ck sz cL x y fun r=>T r Q):=
 Pt.ab fun r=>Pt.and (hT r.1)
theorem NK{agg:Bool}{sz b off:Nat}{ax:List af}:Pt (fun Q:Slot×List af→Prop=>oz agg sz b off ax fun s b=>Q (s,b)):=by
 unfold oz
 cases ax[b]? with
 |none=>exact Pt.false
 |some x=>
  cases x with
  |none=>exact Pt.false
  |map l=>exact Pt.false
  |cells cs=>exact Pt.ab fun x=>Pt.pure _
  |one s=>
   refine Pt.cond Pt.false ?_
   cases off with
   |zero=>exact Pt.pure _
   |succ n=>exact Pt.false
theorem U8{sz b off:Nat}{x:Slot}{ax:List af}{T:List af→(X→Prop)→Prop}(hT:∀r,Pt (T r)):Pt (fun Q=>qH sz b off x ax fun b=>T b Q):=by
 unfold qH
 cases ax[b]? with
 |none=>exact Pt.false
 |some y=>
  cases y with
  |none=>exact Pt.false
  |map l=>exact Pt.false
  |cells cs=>
   cases x with
   |v y=>exact Pt.ab fun l=>Pt.and (Pt.and (hT _))
   |t _=>exact Pt.false
   |_=>
    dsimp only
    split
    ·exact hT _
    ·exact Pt.false
  |one s=>
   dsimp only
   split
   ·cases x with
    |v y=>exact Pt.ab fun l=>Pt.and (hT _)
    |t _=>exact Pt.false
    |_=>exact hT _
   ·exact Pt.false
theorem aaE{id:Nat}{o:Oper}{ρ:Operand→Slot}{ax:List af}:Pt (fun Q:Slot×List af→Prop=>cJ P C id o ρ ax fun s b=>Q (s,b)):=by
 unfold cJ
 cases o.op
 case move x=>exact Pt.pure _
 case assign x=>exact Pt.pure _
 case pick c a b=>
  dsimp only
  cases ρ c with
  |v x=>exact Pt.aq (Pt.pure _) (Pt.pure _)
  |_=>exact Pt.false
 case alloc t=>
  dsimp only
  split
  ·exact Pt.ab fun z=>Pt.pure _
  ·exact Pt.false
 case box t x=>
  dsimp only
  split
  ·refine Pt.ab fun sz=>?_
   cases ρ x with
   |v y=>exact Pt.ab fun l=>Pt.and (Pt.pure _)
   |t _=>exact Pt.false
   |_=>
    dsimp only
    split
    ·exact Pt.pure _
    ·exact Pt.false
  ·exact Pt.false
 case build t ps=>exact Pt.ab fun l=>Pt.ab fun r=>Pt.pure _
 case buildSlice t n ps=>exact Pt.ab fun e=>Pt.ab fun ly=>Pt.ab fun z=>Pt.ab fun l=>Pt.cond (Pt.and (Pt.pure _)) Pt.false
 case load t a=>
  refine Pt.ab fun ly=>?_
  cases ρ a with
  |p b off=>exact NK
  |v x=>exact Pt.ab fun y=>Pt.pure _
  |_=>exact Pt.false
 case store t a x=>
  refine Pt.ab fun sz=>?_
  cases ρ a with
  |p b off=>
   cases o.dst with
   |none=>exact U8 fun r=>Pt.pure _
   |some _=>exact Pt.false
  |_=>exact Pt.false
 case nilCheck x=>
  dsimp only
  cases ρ x with
  |v y=>exact Pt.ab fun z=>Pt.pure _
  |t _=>exact Pt.false
  |c f first cap=>
   cases f with
   |func _=>exact Pt.pure _
   |method name=>
    dsimp only
    split
    ·exact Pt.ab fun _=>Pt.pure _
    ·exact Pt.false
   |_=>exact Pt.false
  |p b off=>exact Pt.pure _
  |a _ _ _=>exact Pt.false
  |m _=>exact Pt.false
 case binOp op t x y _=>exact Pt.ab fun r=>Pt.pure _
 case unOp op _ x=>exact Pt.ab fun r=>Pt.pure _
 case convert src dst x=>exact Pt.cond (Pt.ab fun r=>Pt.pure _) Pt.false
 case makeInterface t x=>exact Pt.cond Pt.false (Pt.ab fun r=>Pt.pure _)
 case makeFunc fn first cap=>exact Pt.pure _
 case slice t x lo hi mx=>exact Pt.ab fun r=>Pt.pure _
 case fieldAddr t x f=>
  refine Pt.ab fun fd=>Pt.ab fun sz=>Pt.cond Pt.false ?_
  cases ρ x with
  |p b off=>exact Pt.pure _
  |v y=>exact Pt.ab fun z=>Pt.pure _
  |_=>exact Pt.false
 case field t x f=>exact Pt.ab fun fd=>Pt.ab fun ly=>Pt.ab fun r=>Pt.pure _
 case indexAddr t x i=>
  dsimp only
  split
  ·refine Pt.ab fun sz=>?_
   cases ρ x with
   |a b n=>exact Pt.ab fun j=>Pt.pure _
   |_=>exact Pt.ab fun r=>Pt.pure _
  ·refine Pt.ab fun sz=>Pt.ab fun j=>?_
   cases ρ x with
   |p b off=>exact Pt.pure _
   |v y=>exact Pt.ab fun z=>Pt.pure _
   |_=>exact Pt.false
  ·exact Pt.false
 case index t x i=>
  dsimp only
  split
  ·exact Pt.ab fun ly=>Pt.ab fun r=>Pt.pure _
  ·exact Pt.ab fun r=>Pt.pure _
  ·exact Pt.false
 case extract x i=>
  dsimp only
  cases ρ x with
  |t vs=>
   dsimp only
   split
   ·exact Pt.pure _
   ·exact Pt.false
  |_=>exact Pt.false
 case lookup t m x KF=>
  dsimp only
  cases KF with
  |true=>exact Pt.ab fun et=>Pt.ab fun z=>Pt.ab fun r=>Pt.pure (X:=Slot×List af) (Slot.t [.d r.1,.d (.bool r.2)],ax)
  |false=>exact Pt.ab fun et=>Pt.ab fun z=>Pt.ab fun r=>Pt.pure (X:=Slot×List af) (Slot.v (.d r.1),ax)
 case makeSlice t n c=>exact Pt.ab fun e=>Pt.ab fun sz=>Pt.ab fun cL=>Pt.ab fun z=>Pt.cond (Pt.ab fun m=>Pt.and (Pt.pure _)) Pt.false
 case makeMap t hn=>
  dsimp only
  split
  ·exact Pt.pure _
  ·exact Pt.false
 case mapUpdate t m x y=>
  refine Pt.ab fun et=>?_
  split
  ·split
   ·exact Pt.ab fun n=>Pt.ab fun d=>Pt.ab fun l'=>Pt.pure _
   ·exact Pt.false
  ·exact Pt.false
 case call c=>
  dsimp only
  cases c.callee with
  |value f=>
   dsimp only
   cases ρ f with
   |v x=>
    dsimp only
    unfold withFn
    split
    ·exact DW
    ·exact DW
    ·exact Pt.false
   |c g first cap=>
    cases g with
    |func g=>exact DW
    |_=>exact Pt.false
   |_=>exact Pt.false
  |invoke f name=>
   dsimp only
   cases ρ f with
   |v x=>
    dsimp only
    unfold u6
    split
    ·exact Pt.ab fun f=>DW
    ·exact Pt.false
   |_=>exact Pt.false
  |builtin b=>
   dsimp only
   split
   ·rename_i x xs t ts _ _
    cases ρ x with
    |a b n=>exact Pt.cond (Pt.pure _) Pt.false
    |_=>exact Pt.ab fun r=>Pt.pure _
   ·exact Pt.cond (Pt.ab fun e=>Pt.ab fun sz=>Pt.ab fun cL=>Pt.ab fun z=>Pt.cond (PC fun r=>Pt.pure _) Pt.false) Pt.false
   ·exact Pt.ab fun r=>Pt.pure _
   ·exact Pt.ab fun r=>Pt.pure _
   ·exact Pt.false
 all_goals exact Pt.false
theorem XR{o:Oper}{e:Env}:Pt (fun Q=>jM P gl C o e Q):=by
 unfold jM
 split
 ·exact Pt.pure _
 ·exact Pt.pure _
 ·split
  ·split
   ·exact Pt.pure _
   ·exact Pt.false
  ·exact Pt.false
 ·split
  ·refine Pt.ab fun ly=>Pt.cond Pt.false ?_
   split
   ·exact Pt.ab fun x=>Pt.pure _
   ·exact Pt.false
  ·exact Pt.false
 ·split
  ·refine Pt.ab fun sz=>Pt.cond ?_ Pt.false
   split
   ·exact Pt.ab fun l=>Pt.and (Pt.and (Pt.pure _))
   ·exact Pt.false
  ·exact Pt.false
 ·exact Pt.ab fun e'=>Pt.ab fun ly=>Pt.ab fun z=>Pt.ab fun l=>Pt.cond (Pt.and (Pt.pure _)) Pt.false
 ·split
  ·exact Pt.cond (Pt.ab fun e'=>Pt.ab fun sz=>Pt.ab fun cL=>Pt.ab fun z=>Pt.cond (PC fun r=>Pt.pure _) Pt.false) Pt.false
  ·split
   ·split
    ·exact IG _ fun rs=>Pt.ex fun bk=>Pt.and (Pt.and (Pt.pure _))
    ·exact Pt.false
   ·exact Pt.false
  ·exact Pt.false
 ·exact Pt.false
theorem Zl{id:Nat}{aD:Bool}{o:Oper}{e:Env}:Pt (fun Q=>lE P gl C id aD o e Q):=by
 unfold lE
 cases aD with
 |true=>exact XR
 |false=>exact Pt.xM (X:=Env) (S:=fun(r:Slot)(ax:List af)(Q:Env→Prop)=>Q ⟨b8 e.ai o.dst r,ax⟩) aaE fun a b=>Pt.pure (X:=Env) _
theorem WM{all:List Oper}{o:Oper}{e:Env}{A B:Env→(X→Prop)→Prop}(hA:∀e,Pt (A e))(hB:∀e,Pt (B e)):Pt (fun Q=>xk all o e (fun e=>A e Q) (fun e=>B e Q)):=by
 unfold xk
 split
 ·exact hA e
 ·rename_i j want _
  split
  ·split
   ·cases want with
    |true=>exact Pt.aq (hA _) (hB _)
    |false=>exact Pt.aq (hB _) (hA _)
   ·exact hB e
   ·exact Pt.false
  ·exact Pt.false
theorem HU{aD:Nat→Bool}{all:List Oper}{base:Nat}:∀(l:List Oper)(i:Nat)(e:Env),Pt (fun Q=>jN P gl C aD all base l i e Q)
 |[],i,e=>by unfold jN;exact Pt.pure _
 |o::rest,i,e=>by
  unfold jN
  exact WM (fun e=>Pt.seq Zl fun e=>HU rest (i+1) e) (fun e=>HU rest (i+1) _)
theorem aaF{e:Env}{x:gd}:Pt (fun Q:Env→Prop=>eJ e Q x):=by
 cases x with
 |box t sz=>
  simp only[eJ]
  split
  ·rename_i x _
   unfold ga
   cases x<;>first|exact Pt.pure _|exact Pt.false|exact Pt.and (Pt.pure _)
  ·exact Pt.false
 |oX t ts=>
  simp only[eJ]
  split
  ·split
   ·exact Pt.cond (Pt.ab fun ds=>Pt.and (Pt.pure _)) Pt.false
   ·exact Pt.false
  ·split
   ·exact Pt.cond (Pt.pure _) Pt.false
   ·exact Pt.false
  ·exact Pt.pure _
  ·exact Pt.false
 |jz t agg sz ts=>
  simp only[eJ]
  split
  ·split
   ·exact Pt.cond (Pt.ab fun ds=>Pt.ab fun L=>Pt.pure _) Pt.false
   ·exact Pt.false
  ·exact Pt.pure _
  ·exact Pt.false
 |emp t=>
  simp only[eJ]
  split
  ·exact Pt.ab fun y=>Pt.pure _
  ·exact Pt.false
 |jc t=>
  simp only[eJ]
  split
  ·exact Pt.ab fun y=>Pt.pure _
  ·exact Pt.false
 |nN t ts=>
  simp only[eJ]
  split
  ·split
   ·split
    ·exact Pt.cond (Pt.pure _) Pt.false
    ·exact Pt.false
   ·exact Pt.false
  ·exact Pt.false
theorem Ij:∀(l:List gd)(e:Env),Pt (fun Q:Env→Prop=>fP l e Q)
 |[],e=>by unfold fP;exact Pt.pure _
 |x::l,e=>by unfold fP;exact Pt.seq (X:=Env) (S:=fun(e':Env)(Q:Env→Prop)=>fP l e' Q) aaF fun e'=>Ij l e'
theorem XS{e:Env}{c:Operand}{A B:Env→(X→Prop)→Prop}(hA:∀e,Pt (A e))(hB:∀e,Pt (B e)):Pt (fun Q=>mF e c (fun e=>A e Q) (fun e=>B e Q)):=by
 unfold mF
 split
 ·split
  ·exact Pt.aq (hA _) (hB _)
  ·exact Pt.false
 ·exact Pt.cond (hA _) (hB _)
 ·exact Pt.false
theorem XT{F:(X→Prop)→List SV→List (List SV)→(List SV→List (List SV)→Prop)→Prop}
  (hF:∀vs bs,Pt (fun Q:(List SV×List (List SV)) ⊕ X→Prop=>F (fun x=>Q (.inr x)) vs bs fun v b=>Q (.inl (v,b))))(vs:List SV)(bs:List (List SV)):Pt (fun Q=>cw (F Q) vs bs):=by
 intro Q hq
 refine hq (fun vs bs=>∃x,Q x∧∀Q',Q' x→cw (F Q') vs bs) fun vs bs gX=>?_
 obtain⟨y,h1,h2⟩:=hF vs bs (fun y=>match y with| .inl p=>∃x,Q x∧∀Q',Q' x→cw (F Q') p.1 p.2| .inr x=>Q x) gX
 cases y with
 |inl p=>
  obtain⟨x,hx,hl⟩:=h1
  refine⟨x,hx,fun Q' uz I hI=>hI _ _ ?_⟩
  exact h2 (fun y=>match y with| .inl p=>I p.1 p.2| .inr x=>Q' x) (hl Q' uz I hI)
 |inr x=>
  refine⟨x,h1,fun Q' uz I hI=>hI _ _ ?_⟩
  exact h2 (fun y=>match y with| .inl p=>I p.1 p.2| .inr x=>Q' x) uz
theorem OY{key:Nat}{c:Code}{e:Env}{T:(Ex→Env→Prop)→Prop}(hT:Pt (fun Q:Ex×Env→Prop=>T fun x e=>Q (x,e))):Pt (fun Q:Ex×Env→Prop=>oE h key c e (fun x e=>Q (x,e)) T):=by
 unfold oE
 generalize lB h.ei key=kk
 obtain⟨vars,consts⟩:=kk
 cases vars<;>cases consts
 ·exact hT
 all_goals
  refine Pt.cond ?_ Pt.false
  unfold BT
  refine Pt.xM (T:=T) (S:=fun(x:Ex)(e':Env)(Q:Ex×Env→Prop)=>match x with| .normal =>Q (Ex.normal,_)| .exit i=>Q (Ex.exit i,e')| .ret =>Q (Ex.ret,e')) hT fun x e'=>?_
  cases x<;>exact Pt.pure _
theorem XU{X:Type}{e:Env}{s:Spec}{T:Env→(X→Prop)→Prop}(hT:∀e,Pt (T e)):Pt (fun Q:X→Prop=>gF P C e (fun e'=>T e' Q) s):=by
 cases s with
 |ue t d ty=>
  unfold gF
  dsimp only
  split
  ·refine Pt.cond ?_ Pt.false
   exact Pt.ab fun y=>hT _
  ·exact Pt.false
 |cut t d1 d2 ty=>
  unfold gF
  dsimp only
  split
  ·refine Pt.cond ?_ Pt.false
   exact Pt.ab fun y=>hT _
  ·exact Pt.false
 |tF t d f u=>
  unfold gF
  dsimp only
  split
  ·refine Pt.cond ?_ Pt.false
   exact Pt.ex fun bk=>Pt.and (Pt.and (hT _))
  ·exact Pt.false
 |tp t d t2 d2 f u=>
  unfold gF
  dsimp only
  split
  ·refine Pt.cond ?_ Pt.false
   exact Pt.ex fun bk=>Pt.and (Pt.and (hT _))
  ·exact Pt.false
theorem Zm{id:Nat}{ops:Array Oper}{draw:Bool}{e:Env}{T:Env→(Ex×Env→Prop)→Prop}(hT:∀e,Pt (T e)):Pt (fun Q:Ex×Env→Prop=>kh P gl C h id ops draw e (fun e'=>T e' Q)):=by
 unfold kh
 refine Pt.cond ?_ Pt.false
 have Ji:∀e,Pt (fun Q:Ex×Env→Prop=>fP (jo h.gh (4000000+id)) e (fun e'=>T e' Q)):=fun e=>Pt.seq (X:=Ex×Env) (S:=fun e' Q=>T e' Q) (Ij _ _) hT
 refine Pt.seq (X:=Ex×Env) (S:=fun(e1:Env)(Q:Ex×Env→Prop)=>match s6 P draw ops.toList with
  |some s=>gF P C e1 (fun e2=>fP (jo h.gh (4000000+id)) e2 fun e'=>T e' Q) s
  |none=>zg P gl C (rj h id) ops.toList e1 (tE P gl C (!draw||pI (rj h id) ops) ops (rj h id) e1 fun e2=>fP (jo h.gh (4000000+id)) e2 fun e'=>T e' Q)) (Ij _ _) fun e1=>?_
 cases s6 P draw ops.toList with
 |some s=>exact XU Ji
 |none=>
  refine Pt.seq (X:=Ex×Env) (S:=fun(e:Env)(Q:Ex×Env→Prop)=>tE P gl C (!draw||pI (rj h id) ops) ops (rj h id) e1 (fun e2=>fP (jo h.gh (4000000+id)) e2 fun e'=>T e' Q) e) (HU _ _ _) fun e=>?_
  cases (!draw||pI (rj h id) ops)
  ·exact Pt.and (Ji _)
  ·exact Ji _
theorem xu:∀(c:Code)(e:Env),Pt (fun Q:Ex×Env→Prop=>aw P gl C h c (fun x e=>Q (x,e)) e)
 | .skip,e=>by unfold aw;exact Pt.pure _
 | .region id ops draw,e=>by
   unfold aw
   exact OY (Zm (T:=fun e(Q:Ex×Env→Prop)=>Q (Ex.normal,e)) fun e=>Pt.pure _)
 | .seq a b,e=>by
   unfold aw
   refine Pt.xM (T:=fun(k:Ex→Env→Prop)=>aw P gl C h a k e) (S:=fun(x:Ex)(e':Env)(Q:_→Prop)=>match x with| .normal =>aw P gl C h b (fun x e=>Q (x,e)) e'| .exit i=>Q (Ex.exit i,e')| .ret =>Q (Ex.ret,e')) (xu a e) fun x e'=>?_
   cases x with
   |normal=>exact xu b e'
   |exit i=>exact Pt.pure _
   |ret=>exact Pt.pure _
 | .cond c a b,e=>by
   unfold aw
   exact OY (XS (fun e=>xu a e) (fun e=>xu b e))
 | .block id b,e=>by
   unfold aw
   refine Pt.xM (T:=fun(k:Ex→Env→Prop)=>aw P gl C h b k e) (S:=fun(x:Ex)(e':Env)(Q:_→Prop)=>match x with| .normal =>Q (Ex.normal,e')| .exit i=>bif i==id then Q (Ex.normal,e')else Q (Ex.exit i,e')| .ret =>Q (Ex.ret,e')) (xu b e) fun x e'=>?_
   cases x with
   |normal=>exact Pt.pure _
   |exit i=>exact Pt.cond (Pt.pure _) (Pt.pure _)
   |ret=>exact Pt.pure _
 | .loop b,e=>by
   unfold aw
   refine Pt.cond ?_ Pt.false
   refine XT (F:=fun(Q:Ex×Env→Prop)vs bs I=>aw P gl C h b (fun x e'=>match x with| .normal =>I (qS e' (lB h.ei (kL b)).1) (qL e.boxes.length e')| .exit i=>Q (Ex.exit i,e')| .ret =>Q (Ex.ret,e'))
    ⟨pn (lB h.ei (kL b)).1 (lB h.ei (kL b)).2 vs e.ai 0,po bs e.boxes 0⟩) (fun vs bs=>?_) _ _
   refine Pt.xM (T:=fun(k:Ex→Env→Prop)=>aw P gl C h b k _) (S:=fun(x:Ex)(e':Env)(Q:_→Prop)=>match x with| .normal =>Q (Sum.inl (qS e' (lB h.ei (kL b)).1,qL e.boxes.length e'))| .exit i=>Q (Sum.inr (Ex.exit i,e'))| .ret =>Q (Sum.inr (Ex.ret,e'))) (xu b _) fun x e'=>?_
   cases x<;>exact Pt.pure _
 | .exit id,e=>by unfold aw;exact Pt.pure _
 | .ret,e=>by unfold aw;exact Pt.pure _
 | .scope _,e=>by unfold aw;exact Pt.false
 | .rangeFunc ..,e=>by unfold aw;exact Pt.false
 | .label ..,e=>by unfold aw;exact Pt.pure _
 | .goto ..,e=>by unfold aw;exact Pt.false
 | .refuse ..,e=>by unfold aw;exact Pt.false
theorem PD{e:Env}{used:List Nat}{r:ResultVar}{T:SV→(X→Prop)→Prop}(hT:∀r,Pt (T r)):Pt (fun Q=>xF P e used r fun x=>T x Q):=by
 unfold xF
 cases r with
 |tmp t=>
  dsimp only
  split
  ·exact Pt.and (hT _)
  ·exact Pt.false
 |cell a t=>
  dsimp only
  refine Pt.ab fun ly=>?_
  split
  ·refine Pt.xM (S:=fun(s:Slot)(_:List af)Q=>match s with| .v x=>x.ar=true∧T x Q|_=>False) NK fun s b=>?_
   cases s with
   |v x=>exact Pt.and (hT x)
   |_=>exact Pt.false
  ·exact Pt.false
theorem OZ{e:Env}:∀(l:List ResultVar)(used:List Nat){T:List SV→(X→Prop)→Prop},(∀r,Pt (T r))→Pt (fun Q=>xp P e used l fun x=>T x Q)
 |[],used,T,hT=>by unfold xp;exact hT []
 |r::l,used,T,hT=>by
  unfold xp
  exact PD fun x=>OZ l _ fun xs=>hT (x::xs)
theorem WN{fn:Func}{e:Env}:Pt (fun K:SV→Prop=>finish P fn e K):=by
 unfold finish
 split
 ·exact PD fun x=>Pt.pure x
 ·exact OZ _ _ fun xs=>Pt.pure _
theorem Zn{f:FuncId}{args:List SV}(ba:SV.fo args):Pt (fun K:SV→Prop=>body P gl C h f args K):=by
 unfold body
 cases P.funcs[f]? with
 |none=>exact Pt.false
 |some fn=>
  dsimp only
  cases fn.body with
  |none=>exact Pt.false
  |some c=>
   have:Pt (fun K:SV→Prop=>aw P gl C h c (fun x e=>match x with| .normal =>finish P fn e K| .ret =>finish P fn e K| .exit _=>False) (enter fn.ntmps args)):=by
    refine Pt.xM (T:=fun(k:Ex→Env→Prop)=>aw P gl C h c k _) (S:=fun(x:Ex)(e:Env)K=>match x with| .normal =>finish P fn e K| .ret =>finish P fn e K| .exit _=>False) (xu c _) fun x e=>?_
    cases x with
    |exit i=>exact Pt.false
    |_=>exact WN
   intro Q hq
   obtain⟨x,h1,h2⟩:=this Q (hq ba)
   exact⟨x,h1,fun Q' h _=>h2 Q' h⟩
end
theorem WO{P:Program}{gl:Nat→Option D}{f:FuncId}{args:List SV}{r:SV}(hE:j9 P f)(hw:¬SV.fo args)(ha:ki args=none:=by rfl):aB P gl f args r:=by
 rw[wU ha]
 refine⟨hE,fun w St vs lS mX hlen ea=>absurd ?_ hw⟩
 rw[SV.iW]
 intro x hx
 obtain⟨i,hi,rfl⟩:=List.mem_iff_getElem.1 hx
 exact(ea i _ (vs[i]'(by omega)) (by simp) (by simp)).wf
theorem DB{P:Program}{gl:Nat→Option D}{h:Hints}(hm:P.follows .mixedOrders =true){f:FuncId}{args:List SV}{Q:SV→Prop}(hE:j9 P f)(hQ:∃r,Q r)(hh:body P gl (aB P gl) h f args Q)(ha:ki args=none:=by rfl):∃r,Q r∧aB P gl f args r:=by
 by_cases hw:SV.fo args
 ·obtain⟨r,h1,h2⟩:=Zn hw Q hh
  exact⟨r,h1,bZ hm hE (h2 _ rfl) ha⟩
 ·obtain⟨r,hr⟩:=hQ
  exact⟨r,hr,WO hE hw ha⟩
end Go.Proofs.Ytimbllcalipehaa.Ab
namespace Go.Proofs.Ytimbllcalipehaa.Ab
open Go Go.RowKit
def FW(r:Option Nat):Fence:={Fence.wide with round:=r}
theorem Zo(l:Nat):FW (some l)=Fence.wide.inRound l:=rfl
section
variable{P:Program}{gl:Nat→Option D}{ops:Array Oper}{aD:Nat→Bool}{base:Nat}{r:Option Nat}{n:Nat}{ds:List Deferred}
def wd(a:Act)(ds:List Deferred):Act:={a with defers:=ds}
theorem BK(a:Act)(ds:List Deferred)(dst:Option Tmp)(v:Value):(wd a ds).put dst v=wd (a.put dst v) ds:=by cases dst<;>rfl
theorem xm{a:Act}(h:a.defers=[]):wd a []=a:=by cases a;simp only at h;subst h;rfl
theorem Zp(a:Act)(ds:List Deferred):(wd a ds).eval =a.eval:=funext fun x=>by cases x<;>rfl
theorem Zq{o:Oper}{a:Act}{next:Act→World→Prop}{Q:Exit→Act→World→Prop}{x:Result Next}
  (h:o.upon P a (fun a1 w1=>a1.defers=[]∧next (wd a1 ds) w1) (fun x a1 w1=>Q x (wd a1 ds) w1) x):o.uponIn (FW r) n P (wd a ds) next Q x:=by
 cases x with
 |ok nx w'=>
  cases nx with
  |enter f args=>
   refine⟨fun h=>(by cases h),?_⟩
   have h1:CallsIn Fence.wide (n-1) P f args w' _:=callsIn_wide.2 h
   refine CallsIn.mono (F:=FW r) h1 fun e w2 he=>?_
   cases e with
   |returned v=>show next ((wd a ds).put o.dst v) w2;rw[BK];exact he.2
   |panicked ch=>exact he
   |outgrown=>obtain⟨b1,b2,b3⟩:=he;exact⟨wd b1 ds,b2,b3⟩
  |row row args=>
   refine⟨fun h=>(by cases h),fun c cs _=>?_⟩
   obtain⟨v,w2,h1,h2⟩:=h c cs
   exact⟨v,w2,by show next ((wd a ds).put o.dst v) w2;rw[BK];exact h1.2,stepsIn_wide.2 h2⟩
  |value v=>rw[Oper.uponIn_value,BK];exact h.2
  |skip=>rw[Oper.uponIn_skip,BK];exact h.2
  |defer d=>
   obtain⟨h1,_⟩:=h
   rw[put_defers]at h1
   cases h1
  |_=>exact h.elim
 |halt x w'=>cases x<;>first|exact h|exact h.elim
theorem PE{o:Oper}{a:Act}{w:World}{next:Act→World→Prop}{Q:Exit→Act→World→Prop}(kZ:∀c,o.op≠.defer c)
  (h:o.wp P a w (fun a1 w1=>a1.defers=[]∧next (wd a1 ds) w1) (fun x a1 w1=>Q x (wd a1 ds) w1)):o.wpIn (FW r) n P (wd a ds) w next Q:=by
 refine⟨fun _ _=>trivial,?_⟩
 have hs:o.semAt (FW r).round (wd a ds).eval =execOp a.eval o:=by
  rw[Zp]
  cases r with
  |none=>rfl
  |some l=>exact Oper.semAt_some l _ o kZ
 rw[hs]
 exact Zq h
theorem V1{C:bj}{id:Nat}{l:Bool}{o:Oper}{e:Env}{k:Env→Prop}(h:lE P gl C id l o e k):∀c,o.op≠.defer c:=by
 intro c hc
 unfold lE at h
 cases l with
 |true=>simp only[cond_true,jM,hc]at h
 |false=>simp only[cond_false,cJ,hc]at h
theorem Hg{w0:World}{an:S0}{e:Env}{a:Act}{w:World}{g:Gh}(hI:Inv gl w0 an e a w g){i id:Nat}{l:Bool}{o:Oper}(ho:ops[i]? =some o){k:Env→Prop}
  (h:lD P gl (aB P gl) ops.toList id l o e k){next:Act→World→Prop}{Q:Exit→Act→World→Prop}(hn:∀e' v w' g',Inv gl w0 an e' (a.put o.dst v) w' g'→k e'→next (wd (a.put o.dst v) ds) w'):wpOpIn (FW r) n P ops Q i next (wd a ds) w:=by
 have h':=y7.1 h
 unfold wpOpIn
 simp only[ho]
 split at h'
 ·rename_i hg
  rw[if_pos (show Region.wanted o (yielded ops (wd a ds).tmps)=true from DH hI hg)]
  exact PE (V1 h') (N6 hI h' _ _ fun e' v w' g' hinv hk=>⟨hinv.defers,hn e' _ w' g' hinv hk⟩)
 ·rename_i hg
  rw[if_neg (by rw[show Region.wanted o (yielded ops (wd a ds).tmps)=false from DH hI hg];simp)]
  refine⟨fun _ _=>trivial,?_⟩
  rw[BK]
  exact hn _ _ _ _ (OM hI o.dst) h'
 ·exact h'.elim
def j3(l:List Oper)(a a':Act):Prop:=∀t,t∉l.filterMap (·.dst)→a'.tmps.getD t undef=a.tmps.getD t undef
theorem j3.refl(l:List Oper)(a:Act):j3 l a a:=fun _ _=>rfl
theorem j3.put{l:List Oper}{a0 a:Act}{o:Oper}(h:j3 l a0 a)(ho:o∈l)(hs:a.tmps.size=a0.tmps.size)(v:Value):j3 l a0 (a.put o.dst v):=by
 intro t ht
 rw[←h t ht]
 cases hd:o.dst with
 |none=>rfl
 |some d=>
  have bf:d≠t:=fun hh=>ht (List.mem_filterMap.2 ⟨o,ho,by rw[hd,hh]⟩)
  simp only[Act.put,Array.getD_eq_getD_getElem?]
  rw[Array.getElem?_setIfInBounds_ne bf]
theorem HV{w0:World}{an:S0}{K:Env→Prop}{Q:Exit→Act→World→Prop}{a0:Act}(hQ:∀e a w g,Inv gl w0 an e a w g→K e→j3 ops.toList a0 a→Q .normal (wd a ds) w):∀(fuel:Nat)(br:Array Bool)(e:Env)(a:Act)(w:World)(g:Gh),
  Inv gl w0 an e a w g→j3 ops.toList a0 a→a.tmps.size=a0.tmps.size→vJ P gl ops aD base K fuel br e→wpAnyIn (FW r) n P .any ops Q fuel br (wd a ds) w
 |0,_,e,a,w,g,hI,eZ,_,h=>⟨h.1,hQ e a w g hI h.2 eZ⟩
 |fuel+1,_,e,a,w,g,hI,eZ,kA,h=>⟨fun h0=>hQ e a w g hI (h.1 h0) eZ,fun i hi=>by
   obtain⟨o,ho,hs⟩:=h.2 i hi
   exact Hg hI ho hs fun e' v w' g' hinv hk=>HV hQ fuel _ e' _ w' g' hinv (eZ.put (by simpa using Array.mem_of_getElem? ho) kA v) (by rw[Bg,kA]) hk⟩
theorem Oi{w0:World}{an:S0}{K:Env→Prop}{Q:Exit→Act→World→Prop}{a0:Act}(hQ:∀e a w g,Inv gl w0 an e a w g→K e→j3 ops.toList a0 a→Q .normal (wd a ds) w):∀(l:List Oper)(i:Nat)(e:Env)(a:Act)(w:World)(g:Gh),
  (∀j,l[j]? =ops[i+j]?)→Inv gl w0 an e a w g→j3 ops.toList a0 a→a.tmps.size=a0.tmps.size→jN P gl (aB P gl) aD ops.toList base l i e K→wpOpsIn (FW r) n P ops Q (List.range' i l.length) (wd a ds) w
 |[],_,e,a,w,g,_,hI,eZ,_,h=>hQ e a w g hI h eZ
 |o::l,i,e,a,w,g,hl,hI,eZ,kA,h=>by
  have h0:ops[i]? =some o:=by simpa using(hl 0).symm
  rw[List.length_cons,List.range'_succ,wpOpsIn_cons]
  rw[zi]at h
  exact Hg hI h0 h fun e' v w' g' hinv hk=>Oi hQ l (i+1) e' _ w' g' (fun j=>by have:=hl (j+1);simpa[Nat.add_assoc,Nat.add_comm 1 j]using this) hinv (eZ.put (by simpa using Array.mem_of_getElem? h0) kA v) (by rw[Bg,kA]) hk
theorem U9{w0:World}{an:S0}{e:Env}{a:Act}{w:World}{g:Gh}(hI:Inv gl w0 an e a w g){id:Nat}{draw:Bool}{K:Env→Prop}{Q:Exit→Act→World→Prop}(hm:P.follows .mixedOrders =true)
  (h:zg P gl (aB P gl) aD ops.toList e (tE P gl (aB P gl) (!draw||pI aD ops) ops aD e K))(hQ:∀e a' w g,Inv gl w0 an e a' w g→K e→j3 ops.toList a a'→Q .normal (wd a' ds) w):(Code.region id ops draw).wpIn (FW r) n P Q (wd a ds) w:=by
 unfold zg at h
 cases gf:(!draw||pI aD ops)with
 |false=>
  rw[gf]at h
  obtain⟨e',JL,hK⟩:=Hc _ _ _ h
  have hd:draw=true:=by cases draw<;>simp_all
  subst hd
  refine wpIn_region_any hm ?_
  have cG:=(hI.DU (fk ops.toList ops.toList.length)).drew
  have:=Hb (P:=P) (gl:=gl) (aD:=aD) (K:=fun x=>x=e') _ 0 (Array.replicate ops.size false) _ (fun j=>by simp[Array.getElem?_replicate];split<;>rfl) (by simp) (fun j o ho hl=>by
   have hj:j<ops.size:=(Array.getElem?_eq_some_iff.1 ho).1
   simp[hj]at hl) ⟨w0,an,a,_,_,cG⟩ JL
  have h2:=HV (r:=r) (n:=n) (Q:=Q) (K:=fun x=>x=e') (fun e1 a1 w1 g1 hinv hk=>hQ e1 a1 w1 g1 hinv (by rw[hk];exact hK)) _ _ _ _ _ _ cG (j3.refl _ _) rfl this
  simpa using h2
 |true=>
 rw[gf]at h
 replace h:jN P gl (aB P gl) aD ops.toList e.boxes.length ops.toList 0 ⟨e.ai,e.boxes++List.replicate (fk ops.toList ops.toList.length) .none⟩ K:=h
 have aX:=hI.DU (fk ops.toList ops.toList.length)
 cases draw with
 |false=>
  refine wpIn_region ?_
  have:=Oi (r:=r) (n:=n) (base:=e.boxes.length) (aD:=aD) hQ ops.toList 0 _ a w _ (fun j=>by simp) aX (j3.refl _ _) rfl h
  rw[List.range_eq_range']
  simpa using this
 |true=>
  simp only[Bool.not_true,Bool.false_or]at gf
  refine wpIn_region_any hm ?_
  have cG:=aX.drew
  have aH:(Array.replicate ops.size false).size =ops.size:=by simp
  have KN:=hI.Q6 (ops:=ops) (fk ops.toList ops.toList.length) rfl
  obtain⟨E,uw,gf⟩:∃E,Js ops aD e.boxes.length _ E (Array.replicate ops.size false) ⟨e.ai,e.boxes++List.replicate (fk ops.toList ops.toList.length) .none⟩∧xe E ops aD (reach [] ops.toList) ops.toList 0=true:=by
   unfold pI at gf
   cases g9:eligible ops.toList aD (reach [] ops.toList)with
   |true=>rw[g9]at gf;exact⟨_,fun A hA=>by cases hA;exact⟨rfl,Px g9,KN⟩,gf⟩
   |false=>rw[g9]at gf;exact⟨none,fun A hA=>(by cases hA),gf⟩
  have:=Ih (P:=P) (gl:=gl) (base:=e.boxes.length) (aD:=aD) ops.toList 0 (Array.replicate ops.size false) _ (fun j=>by simp) (fun j hj=>by omega) (fun j _ hj=>by simp[hj]) aH
   (fun j o ho hl=>by
     have hj:j<ops.size:=(Array.getElem?_eq_some_iff.1 ho).1
     simp[hj]at hl) ⟨w0,an,a,_,_,cG⟩ uw gf h
  have h2:=HV (r:=r) (n:=n) hQ _ _ _ _ _ _ cG (j3.refl _ _) rfl this
  simpa using h2
end
section
variable{P:Program}{gl:Nat→Option D}{h:Hints}{r:Option Nat}{n:Nat}{ds:List Deferred}
def Kt(gh:List (Nat×List gd))(c:Code)(a a':Act):Prop:=∀t,t∉cj gh c→a'.tmps.getD t undef=a.tmps.getD t undef
theorem Kt.refl(gh:List (Nat×List gd))(c:Code)(a:Act):Kt gh c a a:=fun _ _=>rfl
theorem Kt.trans{gh:List (Nat×List gd)}{x y c:Code}{a a1 a2:Act}(h1:Kt gh x a a1)(h2:Kt gh y a1 a2)(hx:∀t,t∈cj gh x→t∈cj gh c)(hy:∀t,t∈cj gh y→t∈cj gh c):Kt gh c a a2:=
 fun t ht=>(h2 t fun hm=>ht (hy t hm)).trans (h1 t fun hm=>ht (hx t hm))
theorem Kt.mono{gh:List (Nat×List gd)}{x c:Code}{a a1:Act}(h1:Kt gh x a a1)(hx:∀t,t∈cj gh x→t∈cj gh c):Kt gh c a a1:=fun t ht=>h1 t fun hm=>ht (hx t hm)
theorem Oj{ops:Array Oper}{Q:Exit→Act→World→Prop}{a0:Act}{R:Act→World→Prop}(hR:∀a w,R a w→j3 ops.toList a0 a→Q .normal (wd a ds) w):∀(l:List Oper)(i:Nat){a:Act}{w:World},(∀j,l[j]? =ops[i+j]?)→lG P l a w R→j3 ops.toList a0 a→a.tmps.size=a0.tmps.size→wpOpsIn (FW r) n P ops Q (List.range' i l.length) (wd a ds) w
 |[],_,_,_,_,h,hk,_=>hR _ _ h hk
 |o::l,i,a,w,hl,h,hk,aH=>by
  obtain⟨hg,kZ,h⟩:=h
  have h0:ops[i]? =some o:=by simpa using(hl 0).symm
  rw[List.length_cons,List.range'_succ,wpOpsIn_cons]
  unfold wpOpIn
  simp only[h0]
  rw[if_pos (by simp[Region.wanted,hg])]
  exact PE kZ (h _ _ fun v w1 hd h1=>⟨hd,Oj hR l (i+1) (fun j=>by have:=hl (j+1);simpa[Nat.add_assoc,Nat.add_comm 1 j]using this) h1 (hk.put (by simpa using Array.mem_of_getElem? h0) aH v) (by rw[Bg,aH])⟩)
theorem WQ{w0:World}{an:S0}{e:Env}{a:Act}{w:World}{g:Gh}(hI:Inv gl w0 an e a w g){id:Nat}{ops:Array Oper}{draw:Bool}{K:Env→Prop}{Q:Exit→Act→World→Prop}(hm:P.follows .mixedOrders =true)
  (hh:kh P gl (aB P gl) h id ops draw e K)(hQ:∀e a' w g,Inv gl w0 an e a' w g→K e→j3 ops.toList a a'→Q .normal (wd a' ds) w):(Code.region id ops draw).wpIn (FW r) n P Q (wd a ds) w:=by
 unfold kh at hh
 obtain⟨hb,hh⟩:=pr hh
 obtain⟨e1,g1,cK,h1⟩:=zj hI hh
 have uz:∀e a' w g,Inv gl w0 an e a' w g→fP (jo h.gh (4000000+id)) e K→j3 ops.toList a a'→Q .normal (wd a' ds) w:=fun e a w g h1 h2 hk=>by
  obtain⟨e2,g2,cG,h3⟩:=zj h1 h2
  exact hQ e2 a w g2 cG h3 hk
 cases hs:s6 P draw ops.toList with
 |some s=>
  simp only[hs]at h1
  obtain⟨hd,KX⟩:=GY hs
  subst hd
  have hr:=OU cK KX h1
  refine wpIn_region ?_
  have:=Oj (r:=r) (n:=n) (ds:=ds) (ops:=ops) (Q:=Q) (a0:=a) (fun a' w'⟨e',g',aX,hk⟩eZ=>uz e' a' w' g' aX hk eZ) ops.toList 0 (fun j=>by simp) hr (j3.refl _ _) rfl
  rw[List.range_eq_range']
  simpa using this
 |none=>
  simp only[hs]at h1
  exact U9 cK hm h1 fun e' a' w' g' aX hk eZ=>uz e' a' w' g' aX hk eZ
theorem oo(hm:P.follows .mixedOrders =true):∀(c:Code){w0:World}{an:S0}{QA:Ex→Env→Prop}{e:Env}{a:Act}{w:World}{g:Gh}{Q:Exit→Act→World→Prop},
  Inv gl w0 an e a w g→aw P gl (aB P gl) h c QA e→(∀x e' a' w' g',Inv gl w0 an e' a' w' g'→QA x e'→Kt [] c a a'→Q x.to (wd a' ds) w')→c.wpIn (FW r) n P Q (wd a ds) w
 | .skip,_,_,_,_,_,_,_,_,hI,hh,hQ=>wpIn_skip (hQ .normal _ _ _ _ hI hh (Kt.refl _ _ _))
 | .region id ops draw,w0,an,QA,e,a,w,g,Q,hI,hh,hQ=>by
   obtain⟨rT,hh,hj⟩:=DA hI (c:=.region id ops draw) (T:=fun Q=>kh P gl (aB P gl) h id ops draw e (Q .normal)) (fun Q hh=>MT Q hh) hh
   have hQ:∀ex e' a' w' g',Inv gl w0 an e' a' w' g'→rT ex e'→Kt [] (.region id ops draw) a a'→Q ex.to (wd a' ds) w':=fun ex e' a' w' g' h1 h2 h5=>(by
    obtain⟨jS,uy,h3,h4⟩:=hj ex e' a' w' g' h1 h2
    exact hQ ex jS a' w' uy h3 h4 h5)
   clear hj
   exact WQ hI hm hh fun e' a' w' g' aX hk eZ=>hQ .normal e' a' w' g' aX hk fun t ht=>eZ t fun hm=>ht (by simp only[cj,List.mem_append];exact .inr (.inr hm))
 | .seq x y,w0,an,QA,e,a,w,g,Q,hI,hh,hQ=>by
   have gx:∀t,t∈cj [] x→t∈cj [] (.seq x y):=fun t ht=>by simp[cj,ht]
   have nQ:∀t,t∈cj [] y→t∈cj [] (.seq x y):=fun t ht=>by simp[cj,ht]
   refine wpIn_seq (oo hm x hI hh fun ex e' a' w' g' aX hk eZ=>?_)
   cases ex with
   |normal=>exact oo hm y aX hk fun x2 e2 a2 w2 g2 cG iP tO=>hQ x2 e2 a2 w2 g2 cG iP (eZ.trans tO gx nQ)
   |exit i=>exact hQ (.exit i) e' a' w' g' aX hk (eZ.mono gx)
   |ret=>exact hQ .ret e' a' w' g' aX hk (eZ.mono gx)
 | .cond c x y,w0,an,QA,e,a,w,g,Q,hI,hh,hQ=>by
   obtain⟨rT,hh,hj⟩:=DA hI (c:=.cond c x y) (T:=fun Q=>mF e c (aw P gl (aB P gl) h x Q) (aw P gl (aB P gl) h y Q)) (fun Q hh=>NI Q hh) hh
   have hQ:∀ex e' a' w' g',Inv gl w0 an e' a' w' g'→rT ex e'→Kt [] (.cond c x y) a a'→Q ex.to (wd a' ds) w':=fun ex e' a' w' g' h1 h2 h5=>(by
    obtain⟨jS,uy,h3,h4⟩:=hj ex e' a' w' g' h1 h2
    exact hQ ex jS a' w' uy h3 h4 h5)
   clear hj
   cases c with
   |tmp t=>
    simp only[mF]at hh
    have hs:=iI hI t
    cases hx:e.ai.getD t (.v .undef)with
    |v z=>
     rw[hx]at hh hs
     obtain⟨b,rfl,h1,h2⟩:=zh hh
     have hv:=hs.iK.data.qI
     refine wpIn_cond_split hv (fun hb=>?_) (fun hb=>?_)
     ·have:=h1 hb
      subst hb
      rw[sJ hx]at this
      exact oo hm x hI this fun x2 e2 a2 w2 g2 cG iP tO=>hQ x2 e2 a2 w2 g2 cG iP (tO.mono fun t ht=>by simp[cj,ht])
     ·have:=h2 hb
      subst hb
      rw[sJ hx]at this
      exact oo hm y hI this fun x2 e2 a2 w2 g2 cG iP tO=>hQ x2 e2 a2 w2 g2 cG iP (tO.mono fun t ht=>by simp[cj,ht])
    |_=>rw[hx]at hh;exact hh.elim
   |const v=>
    cases v with
    |bool b=>
     refine wpIn_cond_split (t:=b) rfl (fun hb=>?_) (fun hb=>?_)
     ·subst hb;exact oo hm x hI hh fun x2 e2 a2 w2 g2 cG iP tO=>hQ x2 e2 a2 w2 g2 cG iP (tO.mono fun t ht=>by simp[cj,ht])
     ·subst hb;exact oo hm y hI hh fun x2 e2 a2 w2 g2 cG iP tO=>hQ x2 e2 a2 w2 g2 cG iP (tO.mono fun t ht=>by simp[cj,ht])
    |_=>exact hh.elim
   |_=>exact hh.elim
 | .block id b,w0,an,QA,e,a,w,g,Q,hI,hh,hQ=>by
   refine wpIn_block (oo hm b hI hh fun ex e' a' w' g' aX hk eZ=>?_)
   cases ex with
   |normal=>exact hQ .normal e' a' w' g' aX hk eZ
   |exit i=>
    have bI:cond (i==id) (QA .normal e') (QA (.exit i) e'):=hk
    show(if i=id then Q .normal (wd a' ds) w' else Q (.exit i) (wd a' ds) w')
    cases hb:(i==id)with
    |true=>
     rw[hb]at bI
     rw[if_pos (beq_iff_eq.1 hb)]
     exact hQ .normal e' a' w' g' aX bI eZ
    |false=>
     rw[hb]at bI
     rw[if_neg (beq_eq_false_iff_ne.1 hb)]
     exact hQ (.exit i) e' a' w' g' aX bI eZ
   |ret=>exact hQ .ret e' a' w' g' aX hk eZ
 | .loop b,w0,an,QA,e,a,w,g,Q,hI,hh,hQ=>by
   obtain⟨hb,hh⟩:=pr (hh:cond _ _ False)
   simp only[Bool.and_eq_true,List.all_eq_true,Bool.not_eq_true',List.contains_eq_mem,decide_eq_false_iff_not]at hb
   obtain⟨JN,hk⟩:=hb
   let LW:Act→World→Prop:=fun a1 w1=>∀(fr:Frame)(k:List Item)(cs:List Frame),fr.roundOf=(FW r).round →(FW r).fn fr.fn→(FW r).room (cs.length+1+n)→∃ex a' w',Q ex a' w'∧ArrivesIn (Machine.fenced P (FW r)) P (lone (fr.atR a1 (.code b::.inLoop b::k)) cs w1) fr k cs ex a' w'
   let I:List SV→List (List SV)→Prop:=fun vs bs=>∀e1 a1 w1 g1,Inv gl w0 an e1 a1 w1 g1→Fr h.gh b e e1→Kt [] b a a1→qS e1 (lB h.ei (kL b)).1=vs→qL e.boxes.length e1=bs→LW (wd a1 ds) w1
   have key:I _ _:=hh I fun vs bs hF e1 a1 w1 g1 cK ux eZ iM fW=>by
    subst iM fW
    have KY:=Hv hI cK ux (vars:=(lB h.ei (kL b)).1) JN
    have gW:=oo hm b (Q:=fun ex a' w'=>match ex with| .normal =>LW a' w'|ex=>Q ex a' w') KY (ou b hF) (fun ex e' a' w' g' aX bI JO=>by
     obtain⟨iE,iP⟩:=bI
     cases ex with
     |normal=>exact iE e' a' w' g' aX ((DV hk).trans iP (fun t ht=>ht) (fun t ht=>ht)) (eZ.trans JO (fun t ht=>ht) (fun t ht=>ht)) rfl rfl
     |exit i=>exact hQ (.exit i) e' a' w' g' aX iE (eZ.trans JO (fun t ht=>ht) (fun t ht=>ht))
     |ret=>exact hQ .ret e' a' w' g' aX iE (eZ.trans JO (fun t ht=>ht) (fun t ht=>ht)))
    intro fr k cs FH hb hr
    obtain⟨ex,a2,w2,hq,ko⟩:=gW fr (.inLoop b::k) cs FH hb hr
    cases ex with
    |normal=>
     obtain⟨e₂,a₂,w₂,KZ,Jg⟩:=hq fr k cs FH hb hr
     exact⟨e₂,a₂,w₂,KZ,.of_steps (StepsIn.trans ko (.one (fenced_calm hb hr rfl) stepR_inLoop)) Jg⟩
    |exit id=>exact⟨_,a2,w2,hq,.pass (x:=.inLoop b) rfl (fun _ _=>.inl (by simp)) ko⟩
    |goto l=>exact⟨_,a2,w2,hq,.pass (x:=.inLoop b) rfl (fun _ _=>.inl (by simp)) ko⟩
    |ret=>exact⟨_,a2,w2,hq,.pass (x:=.inLoop b) rfl (fun _ _=>.inl (by simp)) ko⟩
    |panic ch=>exact⟨_,a2,w2,hq,.pass (x:=.inLoop b) rfl (fun _ _=>.inl (by simp)) ko⟩
    |outgrown=>exact⟨_,a2,w2,hq,.pass (x:=.inLoop b) rfl (fun _ _=>.inl (by simp)) ko⟩
   have K0:LW (wd a ds) w:=key e a w g hI (Fr.refl _ _) (Kt.refl _ _ _) rfl rfl
   intro fr k cs FH hb hr
   obtain⟨ex,a',w',hq,ko⟩:=K0 fr k cs FH hb hr
   exact⟨ex,a',w',hq,.of_steps (.one (fenced_calm hb hr rfl) stepR_loop) ko⟩
 | .exit id,_,_,_,_,_,_,_,_,hI,hh,hQ=>wpIn_exit (hQ (.exit id) _ _ _ _ hI hh (Kt.refl _ _ _))
 | .ret,_,_,_,_,_,_,_,_,hI,hh,hQ=>wpIn_ret (hQ .ret _ _ _ _ hI hh (Kt.refl _ _ _))
 | .goto _,_,_,_,_,_,_,_,_,_,hh,_=>hh.elim
 | .label _,_,_,_,_,_,_,_,_,hI,hh,hQ=>wpIn_label (hQ .normal _ _ _ _ hI hh (Kt.refl _ _ _))
 | .scope _,_,_,_,_,_,_,_,_,_,hh,_=>hh.elim
 | .rangeFunc _ _ _ _,_,_,_,_,_,_,_,_,_,hh,_=>hh.elim
 | .refuse _,_,_,_,_,_,_,_,_,_,hh,_=>hh.elim
theorem uY{gh:List (Nat×List gd)}:∀(c:Code){t:Nat},t∈cj [] c→t∈cj gh c
 | .region id ops draw,t,h=>by
   simp only[cj,List.mem_append]at h ⊢
   rcases h with h|h|h
   ·simp[jo,eR]at h
   ·simp[jo,eR]at h
   ·exact .inr (.inr h)
 | .seq a b,t,h=>by
   simp only[cj,List.mem_append]at h ⊢
   exact h.imp (uY a) (uY b)
 | .cond c a b,t,h=>by
   simp only[cj,List.mem_append]at h ⊢
   exact h.imp (uY a) (uY b)
 | .block id b,t,h=>uY (gh:=gh) b h
 | .loop b,t,h=>uY (gh:=gh) b h
 | .scope b,t,h=>uY (gh:=gh) b h
 | .skip,t,h=>by simp[cj]at h
 | .exit _,t,h=>by simp[cj]at h
 | .ret,t,h=>by simp[cj]at h
 | .goto _,t,h=>by simp[cj]at h
 | .label _,t,h=>by simp[cj]at h
 | .rangeFunc ..,t,h=>by simp[cj]at h
 | .refuse ..,t,h=>by simp[cj]at h
theorem Kt.any{gh:List (Nat×List gd)}{c:Code}{a a':Act}(h:Kt [] c a a'):Kt gh c a a':=fun t ht=>h t fun hm=>ht (uY c hm)
theorem NL(hm:P.follows .mixedOrders =true)(c:Code){w0:World}{an:S0}{QA:Ex→Env→Prop}{e:Env}{a:Act}{w:World}{g:Gh}{Q:Exit→Act→World→Prop}
  (hI:Inv gl w0 an e a w g)(hh:aw P gl (aB P gl) h c QA e)(hQ:∀x e' a' w' g',Inv gl w0 an e' a' w' g'→QA x e'→Q x.to (wd a' ds) w'):c.wpIn (FW r) n P Q (wd a ds) w:=
 oo hm c hI hh fun x e' a' w' g' h1 h2 _=>hQ x e' a' w' g' h1 h2
end
end Go.Proofs.Ytimbllcalipehaa.Ab
namespace Go.Proofs.Ytimbllcalipehaa.Ab
open Go Go.RowKit
mutual
def SV.mN:SV→Bool
 | .mp _=>false
 | .ref cs _=>SV.nE cs
 | .cM _ _ cs=>SV.nE cs
 | .cS _ a b=>SV.nE a&&SV.nE b
 | .aK l=>SV.nE l
 |_=>true
def SV.nE:List SV→Bool
 |[]=>true
 |x::l=>SV.mN x&&SV.nE l
end
theorem u4:∀{l:List SV},SV.nE l=true↔∀x∈l,SV.mN x=true
 |[]=>by simp[SV.nE]
 |x::l=>by simp[SV.nE,u4 (l:=l)]
end Go.Proofs.Ytimbllcalipehaa.Ab
namespace Go.Proofs.Ytimbllcalipehaa.Ab
open Go Go.RowKit
theorem pq:∀{l:List SV},SV.fO l=true↔∀x∈l,SV.ar x=true
 |[]=>by simp[SV.fO]
 |x::l=>by simp[SV.fO,pq (l:=l)]
section
variable{W W':World}{gl:Nat→Option D}
theorem aU.ei{St:Nat→Nat→Prop}(hc:∀b o v,St b o→W.cell? ⟨b,o,none⟩=some v→W'.cell? ⟨b,o,none⟩=some v){x:D}{v:Value}(r:aU W St x v):aU W' St x v:=by
 induction r with
 |bool b=>exact .bool b
 |int k n hk=>exact .int k n hk
 |str s hs=>exact .str s hs
 |agg ds vs hf hl _ ih=>exact .agg ds vs hf hl ih
 |fD sz=>exact .fD sz
 |sl sz L b off cap vs bE hm aH hf aL _ ih=>exact .sl sz L b off cap vs bE hm aH hf (fun o ho=>⟨hc _ _ _ (aL o ho).2 (aL o ho).1,(aL o ho).2⟩) ih
 |jd sz a cap ha=>exact .jd sz a cap ha
 |fn f=>exact .fn f
 |qZ=>exact .qZ
 |iface t x v _ ih=>exact .iface t x v ih
 |rb=>exact .rb
 |my=>exact .my
theorem aG.ei{St:Nat→Nat→Prop}{base:Nat}(hc:∀b o v,St b o→W.cell? ⟨b,o,none⟩=some v→W'.cell? ⟨b,o,none⟩=some v){O:Nat→Nat→Nat→Prop}{x:SV}{v:Value}(r:aG W St base O x v):
  ∀O':Nat→Nat→Nat→Prop,(∀g a c,O g a c→O' g a c∧W'.heap[g]? =W.heap[g]?)→x.mN=true→x.ar=true→aG W' St base O' x v:=by
 induction r with
 |d O x v hd=>exact fun O' _ _ _=>.d O' x v (hd.ei hc)
 |own O sz L g cap hd bE ho=>exact fun O' hO _ _=>.own O' sz L g cap (hd.ei hc) bE (hO _ _ _ ho).1
 |full O sz L a hd=>exact fun O' _ _ _=>.full O' sz L a (hd.ei hc)
 |ref O cs off b o vs dN aL _ ih=>exact fun O' _ _ hr=>by cases hr
 |cM O n sz cs b cap vs dN hn hm aL _ ih=>exact fun O' _ _ hr=>by cases hr
 |aS O x off b o vs hf aL da=>exact fun O' _ _ _=>.aS O' x off b o vs hf (fun i hi=>⟨hc _ _ _ (aL i hi).2 (aL i hi).1,(aL i hi).2⟩) fun i c hi=>(da i c hi).ei hc
 |cS O f first cap fv cv hf cN _ _ g5 g6=>
  intro O' _ hn hr
  simp only[SV.mN,SV.ar,Bool.and_eq_true]at hn hr
  exact .cS O' f first cap fv cv hf cN (fun i x v a b=>g5 i x v a b _ (fun _ _ _ h=>h.elim) (u4.1 hn.1 x (List.mem_of_getElem? a)) (pq.1 hr.1 x (List.mem_of_getElem? a))) (fun i x v a b=>g6 i x v a b _ (fun _ _ _ h=>h.elim) (u4.1 hn.2 x (List.mem_of_getElem? a)) (pq.1 hr.2 x (List.mem_of_getElem? a)))
 |bt O sz L g cap vs bE hm aH hf ho aL da=>
  exact fun O' hO _ _=>.bt O' sz L g cap vs bE hm aH hf (hO _ _ _ ho).1 (fun o bH=>(World.cell?_of_block (hO _ _ _ ho).2).trans (aL o bH)) fun i x j c hx fR=>(da i x j c hx fR).ei hc
 |mp O l r es clock hh hs hl da=>exact fun O' _ hn=>by cases hn
 |undef O v=>exact fun O' _ _ _=>.undef O' v
inductive Plain:Slot→Prop
 |v (x:SV) (h:x.mN=true) (h2:x.ar=true):Plain (.v x)
 |t (l:List SV) (h:SV.nE l=true) (h2:SV.fO l=true):Plain (.t l)
 |p (b off:Nat):Plain (.p b off)
 |a (b n sz:Nat):Plain (.a b n sz)
 |m (b:Nat):Plain (.m b)
 |c (f:Fn) (first cap:List Slot) (h1:∀s∈first,Plain s) (h2:∀s∈cap,Plain s):Plain (.c f first cap)
structure Es(e:Env):Prop where
 s:∀s∈e.ai,Plain s
 b:∀bx∈e.boxes,match bx with| .cells cs=>SV.nE cs=true∧SV.fO cs=true| .one s=>Plain s|_=>True
theorem bP.ei{base:Nat}{g:Gh}(di:∀b,some b∈g.bx→W'.heap[b]? =W.heap[b]?)(hc:∀b o v,g.St b o→W.cell? ⟨b,o,none⟩=some v→W'.cell? ⟨b,o,none⟩=some v){O:Nat→Nat→Nat→Nat→Prop}{s:Slot}{v:Value}(r:bP base W g O s v):
  ∀O':Nat→Nat→Nat→Nat→Prop,(∀j b a c,O j b a c→O' j b a c∧W'.heap[b]? =W.heap[b]?)→Plain s→bP base W' g O' s v:=by
 induction r with
 |v O x y h=>exact fun O' hO hn=>.v _ x y (by cases hn with|v _ h1 h2=>exact h.ei hc _ (hO 0) h1 h2)
 |p O b off aj h=>exact fun O' _ _=>.p _ b off aj h
 |a O b n sz v hm h=>exact fun O' _ _=>.a _ b n sz v hm (by obtain⟨aj,cap,h1,h2,h3,h4,c,ty,h5,h6⟩:=h;exact⟨aj,cap,h1,h2,h3,h4,c,ty,(di aj (List.mem_of_getElem? h1)).trans h5,h6⟩)
 |m O b aj h=>exact fun O' _ _=>.m _ b aj h
 |c O f first cap fv cv hf cN _ _ g5 g6=>
  intro O' _ hn
  cases hn with
  |c _ _ _ h1 h2=>
   exact .c _ f first cap fv cv hf cN (fun i x v a b=>g5 i x v a b _ (fun _ _ _ _ h=>h.elim) (h1 x (List.mem_of_getElem? a))) (fun i x v a b=>g6 i x v a b _ (fun _ _ _ _ h=>h.elim) (h2 x (List.mem_of_getElem? a)))
 |t O xs vs hl da=>
  intro O' hO hn
  cases hn with
  |t _ h h2=>exact .t _ xs vs hl fun j x v a b=>(da j x v a b).ei hc _ (hO j) (u4.1 h x (List.mem_of_getElem? a)) (pq.1 h2 x (List.mem_of_getElem? a))
def Cd(W:World)(n:Nat):World:={W with heap:=W.heap.extract 0 n}
theorem Ok{W:World}{n:Nat}(h:n≤W.heap.size):(Cd W n).heap.size =n:=by simp[Cd];omega
theorem Inv.move{w0 K5:World}{an:S0}{e:Env}{a:Act}{g:Gh}(hI:Inv gl w0 an e a W g)(hn:Es e)(h0:K5.heap.size=w0.heap.size)(hb:Below w0.heap.size K5 W')(hs:W.heap.size≤W'.heap.size)
  (hc:∀b o v,g.St b o→W.cell? ⟨b,o,none⟩=some v→W'.cell? ⟨b,o,none⟩=some v)
  (di:∀b,some b∈g.bx→W'.heap[b]? =W.heap[b]?)(o8:∀b p,g.ow b=some p→w0.heap.size≤b→b<W.heap.size→W'.heap[b]? =W.heap[b]?)
  (iQ:∀D o,an.df D o→W'.heap[D]? =W.heap[D]?):Inv gl K5 an e a W' g:=by
 have gw:∀p b a' c,ef w0.heap.size W g p b a' c→ef w0.heap.size W' g p b a' c∧W'.heap[b]? =W.heap[b]? :=by
  rintro p b a' c ⟨h1,h2,h3,⟨cur,t,h4,h5⟩,h6⟩
  have:=o8 b p h1 h2 (fj h4)
  exact⟨⟨h1,h2,h3,⟨cur,t,this.trans h4,h5⟩,h6⟩,this⟩
 refine⟨by rw[h0];exact hb,hI.size,fun i s hs=>?_,hI.eB,fun b bx aj h1 h2=>?_,hI.nodup,hI.fp,fun b o h=>⟨by rw[h0];exact(hI.cm b o h).1,(hI.cm b o h).2.1,by have:=(hI.cm b o h).2.2;omega⟩,
  fun b h=>⟨by rw[h0];exact(hI.cZ b h).1,by have:=(hI.cZ b h).2;omega⟩,?_,hI.defers,
  fun D o hD=>(have h:=hI.ek D o hD;⟨h.1,h.2.1,(iQ D o hD).trans h.2.2.1,h.2.2.2⟩),fun b o v hv=>(have h:=hI.cls b o v hv;⟨h.1,hc _ _ _ h.1 h.2⟩),Nat.le_trans hI.iA hs⟩
 ·rw[h0]
  exact(hI.ai i s hs).ei di hc _ (fun j b a' c h=>gw _ b a' c h) (hn.s s (List.mem_of_getElem? hs))
 ·rw[h0]
  have jE:=hI.boxes b bx aj h1 h2
  have iB:=hn.b bx (List.mem_of_getElem? h1)
  have hb:=di aj (List.mem_of_getElem? h2)
  cases bx with
  |none=>exact jE.elim
  |map l=>
   obtain⟨h0,es,clock,hh,hl,aW⟩:=jE
   exact⟨h0,es,clock,hb.trans hh,hl,fun i x y hx hy=>⟨(aW i x y hx hy).1,(aW i x y hx hy).2.1,(aW i x y hx hy).2.2.ei hc⟩⟩
  |cells cs=>
   obtain⟨h0,c,t,hh,bV,hl,aW⟩:=jE
   exact⟨h0,c,t,hb.trans hh,bV,hl,fun j x y hx hy=>(aW j x y hx hy).ei hc _ (fun b' a' c' h=>gw _ b' a' c' h) (u4.1 iB.1 x (List.mem_of_getElem? hx)) (pq.1 iB.2 x (List.mem_of_getElem? hx))⟩
  |one s=>
   obtain⟨h0,c,t,hh,bV,hl,aW⟩:=jE
   exact⟨h0,c,t,hb.trans hh,bV,hl,fun y hy=>(aW y hy).ei di hc _ (fun _ b' a' c' h=>gw _ b' a' c' h) iB⟩
 ·intro n x hx
  obtain⟨h0,vs,h1,h2⟩:=hI.ja n x hx
  exact⟨h0,vs,fun i hi=>⟨hc _ _ _ (h1 i hi).2 (h1 i hi).1,(h1 i hi).2⟩,fun i c g8=>(h2 i c g8).ei hc⟩
theorem Inv.rU{w0:World}{an xN:S0}{e:Env}{a:Act}{g:Gh}(hI:Inv gl w0 an e a W g)(h0:∀b o,xN.St b o→g.St b o)(h1:∀b o,g.St b o→xN.St b o∨w0.heap.size≤b)
  (iQ:∀D o,xN.df D o→some D∉g.bx∧g.ow D=none∧W.heap[D]? =some o∧∀x,g.St D x→xN.St D x)(cN:∀b o v,xN.cl b o v→g.St b o∧W.cell? ⟨b,o,none⟩=some v)
  (aH:xN.sz≤W.heap.size):Inv gl w0 xN e a W g:=
 ⟨hI.below,hI.size,hI.ai,hI.eB,hI.boxes,hI.nodup,h0,fun b o h=>⟨h1 b o h,(hI.cm b o h).2⟩,hI.cZ,hI.ja,hI.defers,iQ,cN,aH⟩
theorem aG.Jj{St bz:Nat→Nat→Prop}(h:∀b o,St b o→bz b o){base:Nat}{O:Nat→Nat→Nat→Prop}{x:SV}{v:Value}(r:aG W St base O x v){O':Nat→Nat→Nat→Prop}(hO:∀b a c,O b a c→O' b a c):aG W bz base O' x v:=
 r.mono (fun b o hs=>⟨h b o hs,.refl _ _ _⟩) (fun _ _ _=>rfl) _ fun b a c ho=>⟨hO b a c ho,.refl _ _ _⟩
theorem Inv.aaG{w0:World}{an:S0}{e:Env}{a:Act}{g:Gh}(hI:Inv gl w0 an e a W g){S:Nat→Nat→Prop}(hS:∀b o,S b o→g.St b o∨(w0.heap.size≤b∧b<W.heap.size∧some b∉g.bx∧g.ow b=none))
  (iQ:∀D o,an.df D o→∀x,S D x→g.St D x):Inv gl w0 an e a W {g with St:=fun b o=>g.St b o∨S b o}:=by
 have gw:∀p b a' c,ef w0.heap.size W g p b a' c→ef w0.heap.size W {g with St:=fun b o=>g.St b o∨S b o} p b a' c:=by
  rintro p b a' c ⟨h1,h2,h3,h4,h5⟩
  refine⟨h1,h2,h3,h4,fun o ho=>?_⟩
  rintro(h|h)
  ·exact h5 o ho h
  ·rcases hS b o h with h|⟨_,_,_,h⟩
   ·exact h5 o ho h
   ·rw[h1]at h;cases h
 refine⟨hI.below,hI.size,fun i s hs=>?_,hI.eB,fun b bx aj h1 h2=>?_,hI.nodup,fun b o h=>.inl (hI.fp b o h),fun b o h=>?_,hI.cZ,?_,hI.defers,
  fun D o hD=>(have h:=hI.ek D o hD;⟨h.1,h.2.1,h.2.2.1,fun x hx=>h.2.2.2 x (hx.elim id (iQ D o hD x))⟩),fun b o v hv=>⟨.inl (hI.cls b o v hv).1,(hI.cls b o v hv).2⟩,hI.iA⟩
 ·exact(hI.ai i s hs).mono (fun b o h=>⟨.inl h,.refl _ _ _⟩) (fun _ _ _=>rfl) (fun _ _ h=>h) (.refl _) fun j b a' c h=>⟨gw _ b a' c h,.refl _ _ _⟩
 ·have jE:=hI.boxes b bx aj h1 h2
  cases bx with
  |none=>exact jE.elim
  |map l=>
   obtain⟨h0,es,clock,hh,hl,aW⟩:=jE
   exact⟨h0,es,clock,hh,hl,fun i x y hx hy=>⟨(aW i x y hx hy).1,(aW i x y hx hy).2.1,(aW i x y hx hy).2.2.mono fun b o h=>⟨.inl h,rfl⟩⟩⟩
  |cells cs=>
   obtain⟨h0,c,t,hh,bV,hl,aW⟩:=jE
   exact⟨h0,c,t,hh,bV,hl,fun j x y hx hy=>(aW j x y hx hy).Jj (fun _ _ h=>.inl h) (fun b' a' c' h=>gw _ b' a' c' h)⟩
  |one s=>
   obtain⟨h0,c,t,hh,bV,hl,aW⟩:=jE
   exact⟨h0,c,t,hh,bV,hl,fun y hy=>(aW y hy).mono (fun b o h=>⟨.inl h,.refl _ _ _⟩) (fun _ _ _=>rfl) (fun _ _ h=>h) (.refl _) fun _ b' a' c' h=>⟨gw _ b' a' c' h,.refl _ _ _⟩⟩
 ·rcases h with h|h
  ·exact hI.cm b o h
  ·rcases hS b o h with h|⟨h1,h2,h3,_⟩
   ·exact hI.cm b o h
   ·exact⟨.inr h1,h3,h2⟩
 ·intro n x hx
  obtain⟨h0,vs,h1,h2⟩:=hI.ja n x hx
  exact⟨h0,vs,fun i hi=>⟨(h1 i hi).1,.inl (h1 i hi).2⟩,fun i c g8=>(h2 i c g8).mono fun b o h=>⟨.inl h,rfl⟩⟩
end
end Go.Proofs.Ytimbllcalipehaa.Ab
set_option linter.unusedVariables false
set_option linter.unusedSimpArgs false
namespace Go.Proofs.Ytimbllcalipehaa.Ab
open Go Go.RowKit
structure td(Fr:Nat→Prop)(cC:Nat→Nat→Prop)(W W':World):Prop where
 os:W'.os=W.os
 tape:W'.tape=W.tape
 output:W'.output=W.output
 size:W.heap.size≤W'.heap.size
 aj:∀b,b<W.heap.size→¬Fr b→W'.heap[b]? =W.heap[b]?
 jc:∀b o v,cC b o→W.cell? ⟨b,o,none⟩=some v→W'.cell? ⟨b,o,none⟩=some v
def Iter(P:Program)(gl:Nat→Option D)(f:FuncId)(cap:List SV)(L:List D):Prop:=j9 P f∧
 ∀(w:World)(St:Nat→Nat→Prop)(l:Nat)(vs:Array Value),(∀b o,St b o→b<w.heap.size)→s5 gl w St→cap.length=vs.size→
  (∀(i:Nat)x v,cap[i]? =some x→vs[i]? =some v→aG w St w.heap.size (fun _ _ _=>False) x v)→
  ∀(J:Option Unit→(Nat→Prop)→(Nat→Nat→Prop)→List D→World→Prop),
   (∀q Fr cC pre W W' lb oM,J q Fr cC pre W→td Fr cC W W'→(∀b,lb b→Fr b∨(W.heap.size≤b∧b<W'.heap.size))→(∀b,Fr b→lb b)→(∀b o,cC b o→oM b o)→
     (∀b o,oM b o→(cC b o∨lb b)∧b<W'.heap.size)→J q lb oM pre W')→
   (∀Fr cC pre d v W,J none Fr cC pre W→aU W cC d v→L[pre.length]? =some d→∃fn tmps assign body,(Instr.yield l #[v]).run P W=.ok (.round l fn tmps assign body) W∧
     ∀n,RoundIn Fence.wide n P l fn tmps assign body W fun e W'=>∃b,e=.returned (.bool b)∧td (fun b=>¬Fr b) cC W W'∧J (bif b then none else some ()) Fr cC (pre++[d]) W')→
   J none (fun _=>False) St [] w→
   Calls P f (#[.func (.yield l) #[] #[]]++vs) w fun e W'=>(∃v,e=.returned v)∧∃Fr cC pre q,J q Fr cC pre W'∧(q=none→pre=L)
def FI(o:Obj):Prop:=o.isCells=false∧∀es c,o≠.map es c
section
variable{W:World}{gl:Nat→Option D}
theorem XV{l:Nat}{o o':Obj}(h:W.heap[l]? =some o)(ho:o.isCells=false)(bH:o'.isCells=false)(b off:Nat):(W.putObj l o').cell? ⟨b,off,none⟩=W.cell? ⟨b,off,none⟩:=by
 by_cases hb:b=l
 ·subst hb
  have h1:=World.putObj_heap_same (w:=W) (o:=o') (fj h)
  simp only[World.cell?,h,h1]
  cases o<;>cases o'<;>first|rfl|exact absurd (show true=false from ho) (by decide)|exact absurd (show true=false from bH) (by decide)
 ·exact World.cell?_of_block (World.putObj_heap_other hb)
theorem Inv.other{w0:World}{an:S0}{e:Env}{a:Act}{g:Gh}(hI:Inv gl w0 an e a W g){l:Nat}{o o':Obj}(h:W.heap[l]? =some o)(ho:FI o)(bH:FI o')(hl:w0.heap.size≤l)(iQ:∀D ob,an.df D ob→D≠l):
  Inv gl w0 an e a (W.putObj l o') g:=by
 have aL:=XV h ho.1 bH.1
 have dH:∀b,b≠l→(W.putObj l o').heap[b]? =W.heap[b]? :=fun b hb=>World.putObj_heap_other hb
 have oB:∀(b:Nat)(c:Array Value)(t:TypeId)(p:Nat×Nat),W.heap[b]? =some (Obj.cells c t p)→(W.putObj l o').heap[b]? =some (Obj.cells c t p):=fun b c t p hb=>(dH b (fun e=>by subst e;rw[h]at hb;cases hb;exact absurd (show true=false from ho.1) (by decide))).trans hb
 have Ce:∀(b:Nat)(es:Array MapEntry)(c:Nat),W.heap[b]? =some (Obj.map es c)→(W.putObj l o').heap[b]? =some (Obj.map es c):=fun b es c hb=>(dH b (fun e=>by subst e;rw[h]at hb;cases hb;exact absurd rfl (ho.2 es c))).trans hb
 have fe:∀b off,mw W (W.putObj l o') b off:=fun b off=>⟨aL b off,fun es c hm=>Ce b es c hm⟩
 have aO:pB g W (W.putObj l o'):=fun b c ty _ hb=>⟨c,ty,oB b c ty _ hb,rfl⟩
 have gw:∀p b a' c,ef w0.heap.size W g p b a' c→ef w0.heap.size (W.putObj l o') g p b a' c∧qM W (W.putObj l o') b a':=by
  rintro p b a' c ⟨h1,h2,h3,⟨cur,t,h4,h5⟩,h6⟩
  exact⟨⟨h1,h2,h3,⟨cur,t,oB b _ _ _ h4,h5⟩,h6⟩,fun _=>(oB b _ _ _ h4).trans h4.symm⟩
 refine⟨hI.below.trans ⟨rfl,rfl,rfl,by simp,fun k hk=>dH k (by omega)⟩,hI.size,fun i s hs=>?_,hI.eB,fun b bx aj h1 h2=>?_,hI.nodup,hI.fp,fun b o h=>?_,fun b h=>?_,?_,hI.defers,
  fun D ob hD=>(have h:=hI.ek D ob hD;⟨h.1,h.2.1,(dH D (iQ D ob hD)).trans h.2.2.1,h.2.2.2⟩),fun b o v hv=>⟨(hI.cls b o v hv).1,(aL b o).trans (hI.cls b o v hv).2⟩,by simp;exact hI.iA⟩
 ·exact(hI.ai i s hs).mono (fun b o h=>⟨h,fe b o⟩) (fun b o _=>aL b o) (fun _ _ h=>h) aO fun j b a' c h=>gw _ b a' c h
 ·have jE:=hI.boxes b bx aj h1 h2
  cases bx with
  |none=>exact jE.elim
  |map l=>
   obtain⟨h0,es,clock,hh,hl,aW⟩:=jE
   exact⟨h0,es,clock,Ce _ _ _ hh,hl,fun i x y hx hy=>⟨(aW i x y hx hy).1,(aW i x y hx hy).2.1,(aW i x y hx hy).2.2.mono fun b o h=>⟨h,aL b o⟩⟩⟩
  |cells cs=>
   obtain⟨h0,c,t,hh,bV,hl,aW⟩:=jE
   exact⟨h0,c,t,oB _ _ _ _ hh,bV,hl,fun j x y hx hy=>(aW j x y hx hy).mono (fun b o h=>⟨h,fe b o⟩) (fun b o _=>aL b o) _ fun b' a' c' h=>gw _ b' a' c' h⟩
  |one s=>
   obtain⟨h0,c,t,hh,bV,hl,aW⟩:=jE
   exact⟨h0,c,t,oB _ _ _ _ hh,bV,hl,fun y hy=>(aW y hy).mono (fun b o h=>⟨h,fe b o⟩) (fun b o _=>aL b o) (fun _ _ h=>h) aO fun _ b' a' c' h=>gw _ b' a' c' h⟩
 ·have:=hI.cm b o h
  exact⟨this.1,this.2.1,by simp;exact this.2.2⟩
 ·have:=hI.cZ b h
  exact⟨this.1,by simp;exact this.2⟩
 ·intro n x hx
  obtain⟨h0,vs,h1,h2⟩:=hI.ja n x hx
  exact⟨h0,vs,fun i hi=>⟨(aL _ _).trans (h1 i hi).1,(h1 i hi).2⟩,fun i c g8=>(h2 i c g8).mono fun b o h=>⟨h,aL b o⟩⟩
theorem Inv.norm{w0:World}{an:S0}{e:Env}{a:Act}{g:Gh}(hI:Inv gl w0 an e a W g):Inv gl w0 an e a W {g with ow:=fun b=>if b<W.heap.size then g.ow b else none}:=by
 have gw:∀p b a' c,ef w0.heap.size W g p b a' c→ef w0.heap.size W {g with ow:=fun b=>if b<W.heap.size then g.ow b else none} p b a' c:=by
  rintro p b a' c ⟨h1,h2,h3,h4,h5⟩
  have aI:b<W.heap.size:=by obtain⟨cur,t,h,_⟩:=h4;exact fj h
  exact⟨by simp only;rw[if_pos aI];exact h1,h2,h3,h4,h5⟩
 refine⟨hI.below,hI.size,fun i s hs=>?_,hI.eB,fun b bx aj h1 h2=>?_,hI.nodup,hI.fp,hI.cm,hI.cZ,hI.ja,hI.defers,fun D ob hD=>(have h:=hI.ek D ob hD;⟨h.1,by simp only;split;exact h.2.1;rfl,h.2.2⟩),hI.cls,hI.iA⟩
 ·exact(hI.ai i s hs).mono (fun b o h=>⟨h,.refl _ _ _⟩) (fun _ _ _=>rfl) (fun _ _ h=>h) (.refl _) fun j b a' c h=>⟨gw _ b a' c h,.refl _ _ _⟩
 ·have jE:=hI.boxes b bx aj h1 h2
  cases bx with
  |none=>exact jE.elim
  |map l=>exact jE
  |cells cs=>
   obtain⟨h0,c,t,hh,bV,hl,aW⟩:=jE
   exact⟨h0,c,t,hh,bV,hl,fun j x y hx hy=>(aW j x y hx hy).Jj (fun _ _ h=>h) (fun b' a' c' h=>gw _ b' a' c' h)⟩
  |one s=>
   obtain⟨h0,c,t,hh,bV,hl,aW⟩:=jE
   exact⟨h0,c,t,hh,bV,hl,fun y hy=>(aW y hy).mono (fun b o h=>⟨h,.refl _ _ _⟩) (fun _ _ _=>rfl) (fun _ _ h=>h) (.refl _) fun _ b' a' c' h=>⟨gw _ b' a' c' h,.refl _ _ _⟩⟩
def PF:SV→Bool
 | .own _ _=>false
 | .bt _ _=>false
 |_=>true
theorem aG.free{w:World}{St:Nat→Nat→Prop}{base:Nat}{O O':Nat→Nat→Nat→Prop}{x:SV}{v:Value}(r:aG w St base O x v)(h:PF x=true):aG w St base O' x v:=by
 cases r with
 |d _ x v hd=>exact .d _ x v hd
 |own=>cases h
 |full _ sz L g hd=>exact .full _ sz L g hd
 |ref _ cs off b o vs dN aL hc=>exact .ref _ cs off b o vs dN aL hc
 |cM _ n sz cs b cap vs dN hn hm aL hc=>exact .cM _ n sz cs b cap vs dN hn hm aL hc
 |aS _ x off b o vs hf aL hc=>exact .aS _ x off b o vs hf aL hc
 |cS _ f first cap fv cv hf hc rf rc=>exact .cS _ f first cap fv cv hf hc rf rc
 |bt=>cases h
 |mp _ l r es clock hh hs hl hc=>exact .mp _ l r es clock hh hs hl hc
 |undef _ v=>exact .undef _ _
def tz(n:Nat):Slot→Bool
 | .v x=>PF x&&x.mN&&x.ar
 | .p b _=>Nat.blt b n
 | .m b=>Nat.blt b n
 |_=>false
def jw(n:Nat):af→Bool
 | .one (.p b _)=>Nat.blt b n
 | .one (.m b)=>Nat.blt b n
 | .one _=>false
 | .cells cs=>cs.all fun x=>x.mN&&x.ar
 |_=>true
def Cf:Slot→Bool
 | .v _=>false
 |_=>true
end
end Go.Proofs.Ytimbllcalipehaa.Ab
