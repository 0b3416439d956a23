/-
  THE ABSTRACT WALK: regions.
-/
import Derived.Test.YtimbllcalipehaaTb
import Derived.ChangeStays
import Derived.ChangeSame
import Derived.OpenShut
import Derived.Carry
import Derived.Lib.LaidTab
import Derived.ControlIn
import Derived.OrdersIn
import Derived.TacticsIn
import Derived.RangeFuncCalls
import Derived.RangeFuncNested
set_option linter.unusedVariables false
set_option linter.unusedSimpArgs false
namespace Go.Proofs.Ytimbllcalipehaa.Ab
open Go Go.RowKit
theorem Iz:∀(l:List Oper)(acc:List Nat)(k:Nat),k<acc.length→(reach acc l)[k]? =acc[k]?
 |[],acc,k,_=>rfl
 |o::l,acc,k,h=>by
  rw[reach,Iz l _ k (by simp;omega),List.getElem?_append_left h]
theorem Pk(acc:List Nat)(i:Nat):∀(es:List Edge)(s:Nat),(es.foldl (fun s e=>bif Region.binds .any e then s|||2^e.on|||acc.getD e.on 0 else s) s).testBit i=true→
  s.testBit i=true∨∃e∈es,Region.binds .any e=true∧(e.on=i∨(acc.getD e.on 0).testBit i=true)
 |[],s,h=>.inl h
 |e::es,s,h=>by
  rw[List.foldl_cons]at h
  rcases Pk acc i es _ h with h|⟨e',he,hb,h⟩
  ·cases hb:Region.binds .any e with
   |false=>rw[hb]at h;exact .inl h
   |true=>
    rw[hb]at h
    simp only[cond_true,Nat.testBit_or,Bool.or_eq_true]at h
    rcases h with(h|h)|h
    ·exact .inl h
    ·refine .inr ⟨e,by simp,hb,.inl ?_⟩
     simpa[Nat.testBit_two_pow]using h
    ·exact .inr ⟨e,by simp,hb,.inr h⟩
  ·exact .inr ⟨e',by simp[he],hb,h⟩
theorem Ov:∀(l:List Oper)(acc:List Nat)(k i:Nat),acc.length≤k→((reach acc l).getD k 0).testBit i=true→
  ∃o,l[k-acc.length]? =some o∧∃e∈o.after.toList,Region.binds .any e=true∧(e.on=i∨(e.on<k∧((reach acc l).getD e.on 0).testBit i=true))
 |[],acc,k,i,hk,h=>by
  rw[reach,List.getD_eq_getElem?_getD,List.getElem?_eq_none hk]at h
  simp at h
 |o::l,acc,k,i,hk,h=>by
  rw[reach]at h ⊢
  rcases Nat.eq_or_lt_of_le hk with bK|bK
  ·subst bK
   refine⟨o,by simp,?_⟩
   rw[List.getD_eq_getElem?_getD,Iz l _ acc.length (by simp),List.getElem?_append_right (Nat.le_refl _)]at h
   simp only[Nat.sub_self,List.getElem?_cons_zero,Option.getD_some]at h
   rcases Pk acc i _ 0 h with h|⟨e,he,hb,h⟩
   ·simp at h
   ·refine⟨e,he,hb,h.imp id fun h=>?_⟩
    have aK:e.on<acc.length:=by
     rcases Nat.lt_or_ge e.on acc.length with h'|h'
     ·exact h'
     ·rw[List.getD_eq_getElem?_getD,List.getElem?_eq_none h']at h;simp at h
    refine⟨aK,?_⟩
    rw[List.getD_eq_getElem?_getD,Iz l _ e.on (by simp;omega),List.getElem?_append_left aK,←List.getD_eq_getElem?_getD]
    exact h
  ·obtain⟨p,hp,hr⟩:=Ov l _ k i (by simp;omega) h
   refine⟨p,?_,hr⟩
   rw[←hp]
   have:k-acc.length=(k-(acc++[o.after.toList.foldl (fun s e=>bif Region.binds .any e then s|||2^e.on|||acc.getD e.on 0 else s) 0]).length)+1:=by simp;omega
   rw[this,List.getElem?_cons_succ]
section
variable{P:Program}{gl:Nat→Option D}{ops:Array Oper}{aE:Nat→Bool}{base:Nat}
def tz(ops:Array Oper)(bw:Array Bool):Prop:=∀(j:Nat)o,ops[j]? =some o→bw.getD j false=true→∀e∈o.after,Region.binds .any e=true→bw.getD e.on false=true
theorem tz.waits{bw:Array Bool}(hc:tz ops bw){i:Nat}:∀(j:Nat)o,ops[j]? =some o→(∀e∈o.after,Region.binds .any e=true→bw.getD e.on false=true)→
  ((reach [] ops.toList).getD j 0).testBit i=true→bw.getD i false=true:=by
 intro j
 induction j using Nat.strongRecOn with
 |_ j ih=>
  intro o ho eO h
  obtain⟨o',bN,e,he,hb,h⟩:=Ov ops.toList [] j i (Nat.zero_le _) h
  simp only[List.length_nil,Nat.sub_zero,Array.getElem?_toList]at bN
  rw[ho]at bN
  cases bN
  have hl:=eO e (by simpa using he) hb
  rcases h with h|⟨aK,h⟩
  ·rw[←h];exact hl
  ·have hex:∃p,ops[e.on]? =some p:=by
    have:=(Array.getElem?_eq_some_iff.1 ho).1
    exact⟨ops[e.on],by simp[show e.on<ops.size by omega]⟩
   obtain⟨p,hp⟩:=hex
   exact ih e.on aK p hp (hc e.on p hp hl) h
theorem tz.set{bw:Array Bool}(hc:tz ops bw){j:Nat}(hj:j∈Region.ready .any ops bw):tz ops (bw.setIfInBounds j true):=by
 obtain⟨_,o,ho,eO⟩:=mem_ready.1 hj
 intro k p hk hl e he hb
 by_cases DV:j=k
 ·subst DV
  rw[ho]at hk;cases hk
  exact getD_set_true (eO e he hb)
 ·rw[getD_set_ne false DV]at hl
  exact getD_set_true (hc k p hk hl e he hb)
def xc(P:Program)(gl:Nat→Option D)(ops:Array Oper)(aE:Nat→Bool)(base:Nat)(Q:Env→Prop):Nat→Array Bool→Env→Prop
 |0,bw,e=>Region.ready .any ops bw=[]∧Q e
 |fuel+1,bw,e=>
  (Region.ready .any ops bw=[]→Q e)∧
  ∀i∈Region.ready .any ops bw,∃o,ops[i]? =some o∧m5 P gl (aD P gl) ops.toList (base+fU ops.toList i) (aE i) o e (xc P gl ops aE base Q fuel (bw.setIfInBounds i true))
theorem EU{w0:World}{aq:S0}{e:Env}{a:Act}{w:World}{g:Gh}(hI:Inv gl w0 aq e a w g){o:Oper}{c:Bool}(h:rL ops.toList o e=some c):Region.wanted o (yielded ops a.tmps)=c:=by
 unfold rL at h
 unfold Region.wanted
 split at h
 ·rename_i hg;rw[hg];exact(Option.some.inj h)
 ·rename_i j want hg
  rw[hg]
  simp only
  unfold yielded
  split at h
  ·rename_i t ht
   have qF:(ops[j]?).bind (·.dst)=some t:=by
    rw[Array.getElem?_toList]at ht
    cases hj:ops[j]? with
    |none=>rw[hj]at ht;cases ht
    |some q=>rw[hj]at ht;exact ht
   rw[qF]
   have hs:=jQ hI t
   have aK:∀{s},e.ai.getD t (.v .undef)=s→s≠.v .undef →a.tmps[t]? =some (a.tmps.getD t undef):=by
    intro s h1 h2
    have:t<e.ai.length:=by
     rcases Nat.lt_or_ge t e.ai.length with h|h
     ·exact h
     ·rw[List.getD_eq_getElem?_getD,List.getElem?_eq_none h]at h1;exact absurd h1.symm h2
    rw[←hI.size]at this
    simp[this]
   split at h
   ·rename_i c' hx
    rw[hx]at hs
    have hv:=hs.jT.data.tf
    have h1:=aK hx (by simp)
    simp only[Act.eval]at hv
    rw[hv]at h1
    simp only[Option.bind_some,h1]
    cases h
    cases c'<;>cases want<;>rfl
   ·rename_i vs hx
    rw[hx]at hs
    obtain⟨tv,hv,_⟩:=hs.Ki
    have h1:=aK hx (by simp)
    simp only[Act.eval]at hv
    rw[hv]at h1
    simp only[Option.bind_some,h1]
    cases h
    rfl
   ·cases h
  ·cases h
theorem PX{w0:World}{aq:S0}{e:Env}{a:Act}{w:World}{g:Gh}(hI:Inv gl w0 aq e a w g)(dst:Option Nat):Inv gl w0 aq ⟨cq e.ai dst (.t []),e.boxes⟩ (a.put dst undef) w g:=
 hI.value (.t _ [] #[] rfl (fun j x v h=>by simp at h))
theorem IY{w0:World}{aq:S0}{e:Env}{a:Act}{w:World}{g:Gh}(hI:Inv gl w0 aq e a w g){i id:Nat}{l:Bool}{o:Oper}(ho:ops[i]? =some o){k:Env→Prop}
  (h:m5 P gl (aD P gl) ops.toList id l o e k){next:Act→World→Prop}{Q:Exit→Act→World→Prop}(hn:∀e' a' w' g',Inv gl w0 aq e' a' w' g'→k e'→next a' w'):wpOp P ops Q i next a w:=by
 have h':=Ag.1 h
 unfold wpOp
 simp only[ho]
 split at h'
 ·rename_i hg
  rw[if_pos (EU hI hg)]
  exact .inl (Pd hI h' next Q fun e' v w' g' hinv hk=>hn e' _ w' g' hinv hk)
 ·rename_i hg
  rw[if_neg (by rw[EU hI hg];simp)]
  exact hn _ _ _ _ (PX hI o.dst) h'
 ·exact h'.elim
theorem IA{e e':Env}(hG:Good gl e){i id:Nat}{l:Bool}{o:Oper}(ho:ops[i]? =some o)(h:m5 P gl (aD P gl) ops.toList id l o e (fun x=>x=e')):Good gl e':=by
 obtain⟨w0,aq,a,w,g,hI⟩:=hG
 have:=IY (Q:=fun _ _ _=>False) hI ho h (next:=fun a' w'=>∃g',Inv gl w0 aq e' a' w' g') (fun lp a' w' g' hinv hk=>⟨g',hk▸hinv⟩)
 have ab2:∀{next:Act→World→Prop},o.wp P a w next (fun _ _ _=>False)→∃a' w',next a' w':=by
  intro next h
  unfold Oper.wp at h
  generalize (execOp a.eval o).run P w=r at h
  cases r with
  |ok n w'=>
   cases n<;>simp only[Oper.upon]at h
   case value v=>exact⟨_,_,h⟩
   case skip=>exact⟨_,_,h⟩
   case defer d=>exact⟨_,_,h⟩
   case enter f args=>
    obtain⟨e,GB,fr,hR,_⟩:=h []
    cases e with
    |returned v=>exact⟨_,_,hR⟩
    |panicked c=>exact hR.elim
    |outgrown=>obtain⟨_,_,hf⟩:=hR;exact hf.elim
   case row row args=>
    obtain⟨v,GB,hR,_⟩:=h default []
    exact⟨_,_,hR⟩
  |halt x w'=>cases x<;>simp only[Oper.upon]at h
 unfold wpOp at this
 simp only[ho]at this
 have A8:∃a' w',∃g',Inv gl w0 aq e' a' w' g':=by
  split at this
  ·rcases this with h|⟨_,_,_,hf⟩
   ·exact ab2 h
   ·exact hf.elim
  ·exact⟨_,_,this⟩
 obtain⟨a',w',g',hinv⟩:=A8
 exact⟨w0,aq,a',w',g',hinv⟩
def Js(ops:Array Oper)(aE:Nat→Bool)(base:Nat)(K:Nat→Prop)(E:Option (List Nat))(bw:Array Bool)(e:Env):Prop:=
 ∀A,E=some A→A=kc ops.toList∧y4 ops aE∧Jv ops base K bw e
theorem Js.step{C:bl}{K:Nat→Prop}{E:Option (List Nat)}{bw:Array Bool}{e e':Env}(h:Js ops aE base K E bw e){i:Nat}{o:Oper}(ho:ops[i]? =some o)
  (hs:m5 P gl C ops.toList (base+fU ops.toList i) (aE i) o e (fun x=>x=e')):Js ops aE base K E (bw.setIfInBounds i true) e':=fun A hA=>by
 obtain⟨h1,h2,h3⟩:=h A hA
 exact⟨h1,h2,h3.step h2 ho hs⟩
theorem QI{bw:Array Bool}(hE:y4 ops aE)(hc:tz ops bw){i:Nat}{o:Oper}(ho:ops[i]? =some o)(hr:i∈Region.ready .any ops bw):Made ops bw o:=by
 intro a ha k ok hk Bx
 obtain⟨_,o',bN,eO⟩:=mem_ready.1 hr
 rw[ho]at bN;cases bN
 exact hc.waits i o ho eO (hE.waits i o a ho ha k ok hk Bx)
theorem Xd{K:Nat→Prop}{E:Option (List Nat)}{bw:Array Bool}{e:Env}(hJ:Js ops aE base K E bw e)(hc:tz ops bw){i j:Nat}{x y:Oper}(hx:ops[i]? =some x)(hy:ops[j]? =some y)
  (qG:i∈Region.ready .any ops bw)(LP:j∈Region.ready .any ops bw)(h:AE E ops (aE i) (aE j) x y=true):
  F4 ops (aE i) (aE j) x y∧(KR (aE i) (aE j) x y∨(yO gl (aE i) x y e∧yO gl (aE j) y x e)):=by
 simp only[AE,Bool.or_eq_true]at h
 rcases h with h|h
 ·obtain⟨h1,h2⟩:=XY h
  exact⟨h1,.inl h2⟩
 ·cases hE:E with
  |none=>rw[hE]at h;cases h
  |some A=>
   rw[hE]at h
   obtain⟨rfl,h2,h3⟩:=hJ A hE
   obtain⟨h4,h5⟩:=Xc h
   exact⟨h4,.inr (Y9 h2 h3 hx hy h5 (QI h2 hc hx qG) (QI h2 hc hy LP))⟩
theorem Pl{K:Nat→Prop}{E:Option (List Nat)}{Q:Env→Prop}{i:Nat}{oi:Oper}(hi:ops[i]? =some oi):∀(fuel:Nat)(bw:Array Bool)(e:Env)(src:Option (Nat×Slot))(s:Slot)(U:Option (Nat×af)),
  (∀(j:Nat)oj,ops[j]? =some oj→j≠i→bw.getD j true=false→((reach [] ops.toList).getD j 0).testBit i=false→AE E ops (aE i) (aE j) oi oj=true)→
  tz ops bw→i∈Region.ready .any ops bw→Good gl e→Js ops aE base K E bw e→Out P gl (aD P gl) ops (base+fU ops.toList i) (aE i) oi e src s U→
  xc P gl ops aE base Q fuel (bw.setIfInBounds i true) (fin oi src s U e)→xc P gl ops aE base Q (fuel+1) bw e:=by
 intro fuel
 induction fuel with
 |zero=>
  intro bw e src s U _ _ hr _ _ hO H
  refine⟨fun h=>(by rw[h]at hr;cases hr),fun j hj=>?_⟩
  by_cases me:j=i
  ·subst me;exact⟨oi,hi,hO.run H⟩
  ·have:=ready_mono hj me
   rw[H.1]at this
   cases this
 |succ fuel ih=>
  intro bw e src s U Sj hc hr hG v9 hO H
  refine⟨fun h=>(by rw[h]at hr;cases hr),fun j hj=>?_⟩
  by_cases me:j=i
  ·subst me;exact⟨oi,hi,hO.run H⟩
  ·obtain⟨oj,jo,h1⟩:=H.2 j (ready_mono hj me)
   obtain⟨SF,oj',SG,eO⟩:=mem_ready.1 hj
   rw[jo]at SG
   cases SG
   have LQ:((reach [] ops.toList).getD j 0).testBit i=false:=by
    cases hb:((reach [] ops.toList).getD j 0).testBit i with
    |false=>rfl
    |true=>
     have h2:=hc.waits j oj jo eO hb
     have h0:=(mem_ready.1 hr).1
     rcases Nat.lt_or_ge i bw.size with h'|h'
     ·simp[h']at h0 h2;rw[h0]at h2;cases h2
     ·simp[Array.getElem?_eq_none h']at h2
   obtain⟨ae3,ef⟩:=Xd v9 hc hi jo hr hj (Sj j oj jo me SF LQ)
   obtain⟨agt,s',U',hk,hO',_⟩:=x7 h1
   obtain⟨d1,d2,d3⟩:=aau hG ae3 ef hO hO'
   refine⟨oj,jo,d1.run ?_⟩
   rw[Array.setIfInBounds_comm _ _ (Ne.symm me)]at hk
   refine ih (bw.setIfInBounds j true) _ src s U (fun k ok hk hki pJ ez=>?_) (hc.set hj) (ready_mono hr (Ne.symm me)) (IA hG jo (d1.run rfl)) (v9.step jo (d1.run rfl)) d2 (by rw[←d3];exact hk)
   refine Sj k ok hk hki ?_ ez
   by_cases DV:j=k
   ·subst DV;exact SF
   ·rw[getD_set_ne true DV]at pJ;exact pJ
theorem N4{E:Option (List Nat)}{R:List Nat}{i:Nat}{o:Oper}:∀{l:List Oper}{j:Nat},FI E ops aE R i o l j=true→∀(n:Nat)p,l[n]? =some p→(R.getD (j+n) 0).testBit i=true∨AE E ops (aE i) (aE (j+n)) o p=true
 |[],j,_,n,p,h=>by simp at h
 |q::l,j,h,n,p,hp=>by
  simp only[FI,Bool.and_eq_true,Bool.or_eq_true]at h
  cases n with
  |zero=>simp at hp;subst hp;exact h.1
  |succ n=>
   have:=N4 h.2 n p (by simpa using hp)
   rw[show j+(n+1)=j+1+n by omega]
   exact this
theorem Ar{all:List Oper}{C:bl}(o:Oper)(rest:List Oper)(i:Nat)(e:Env)(k:Env→Prop):
 ld P gl C aE all base (o::rest) i e k=m5 P gl C all (base+fU all i) (aE i) o e (fun lp=>ld P gl C aE all base rest (i+1) lp k):=rfl
theorem Jt{KK:Nat→Prop}{E:Option (List Nat)}{K:Env→Prop}:∀(l:List Oper)(i:Nat)(bw:Array Bool)(e:Env),(∀j,l[j]? =ops[i+j]?)→(∀j,j<i→bw.getD j false=true)→(∀j,i≤j→j<ops.size→bw.getD j true=false)→bw.size=ops.size→
  tz ops bw→Good gl e→Js ops aE base KK E bw e→yz E ops aE (reach [] ops.toList) l i=true→ld P gl (aD P gl) aE ops.toList base l i e K→xc P gl ops aE base K l.length bw e
 |[],i,bw,e,hl,h1,h2,aM,_,_,_,_,h=>by
  refine⟨?_,h⟩
  rw[List.eq_nil_iff_forall_not_mem]
  intro j hj
  obtain⟨pJ,o,ho,_⟩:=mem_ready.1 hj
  have aK:j<ops.size:=(Array.getElem?_eq_some_iff.1 ho).1
  have hle:ops.size≤i:=by
   have:=hl 0
   simp only[List.getElem?_nil,Nat.add_zero]at this
   exact Array.getElem?_eq_none_iff.1 this.symm
  have:=h1 j (by omega)
  simp[aM,aK]at this pJ
  rw[this]at pJ;cases pJ
 |o::l,i,bw,e,hl,h1,h2,aM,hc,hG,v9,hB,h=>by
  have h0:ops[i]? =some o:=by simpa using(hl 0).symm
  have aK:i<ops.size:=(Array.getElem?_eq_some_iff.1 h0).1
  simp only[yz,Bool.and_eq_true]at hB
  obtain⟨⟨hr,hp⟩,hB'⟩:=hB
  have Ry:i∈Region.ready .any ops bw:=by
   refine mem_ready.2 ⟨h2 i (Nat.le_refl _) aK,o,h0,fun e he hb=>?_⟩
   have:=List.all_eq_true.1 hr e (by simpa using he)
   rw[hb]at this
   simp only[Bool.not_true,Bool.false_or]at this
   exact h1 e.on (Nat.lt_of_succ_le (Nat.le_of_ble_eq_true this))
  rw[Ar]at h
  obtain⟨src,s,U,hk,hO,_⟩:=x7 h
  refine Pl h0 l.length bw e src s U (fun j oj jo me pJ ez=>?_) hc Ry hG v9 hO ?_
  ·have ko:j<ops.size:=(Array.getElem?_eq_some_iff.1 jo).1
   have eT:i<j:=by
    rcases Nat.lt_or_ge i j with h|h
    ·exact h
    ·exfalso
     have:=h1 j (by omega)
     simp[aM,ko]at this pJ
     rw[this]at pJ;cases pJ
   have zy:l[j-(i+1)]? =some oj:=by
    have:=hl (j-i)
    rw[show i+(j-i)=j by omega,jo]at this
    rw[show j-i=(j-(i+1))+1 by omega]at this
    simpa using this
   have:=N4 hp (j-(i+1)) oj zy
   rw[show i+1+(j-(i+1))=j by omega,ez]at this
   simpa using this
  ·refine Jt l (i+1) _ _ (fun j=>?_) (fun j hj=>?_) (fun j hj hjs=>?_) (by simpa using aM) (hc.set Ry) (IA hG h0 (hO.run rfl)) (v9.step h0 (hO.run rfl)) hB' hk
   ·have:=hl (j+1)
    simpa[Nat.add_assoc,Nat.add_comm 1 j]using this
   ·by_cases eT:i=j
    ·subst eT
     simp[aM,aK]
    ·exact getD_set_true (h1 j (by omega))
   ·rw[getD_set_ne true (by omega)]
    exact h2 j (by omega) hjs
theorem JU{w0:World}{aq:S0}{K:Env→Prop}{Q:Exit→Act→World→Prop}(hQ:∀e a w g,Inv gl w0 aq e a w g→K e→Q .normal a w):∀(fuel:Nat)(bw:Array Bool)(e:Env)(a:Act)(w:World)(g:Gh),
  Inv gl w0 aq e a w g→xc P gl ops aE base K fuel bw e→wpAny P .any ops Q fuel bw a w
 |0,_,e,a,w,g,hI,h=>⟨h.1,hQ e a w g hI h.2⟩
 |fuel+1,_,e,a,w,g,hI,h=>⟨fun h0=>hQ e a w g hI (h.1 h0),fun i hi=>by
   obtain⟨o,ho,hs⟩:=h.2 i hi
   exact IY hI ho hs fun e' a' w' g' hinv hk=>JU hQ fuel _ e' a' w' g' hinv hk⟩
theorem QJ{w0:World}{aq:S0}{K:Env→Prop}{Q:Exit→Act→World→Prop}(hQ:∀e a w g,Inv gl w0 aq e a w g→K e→Q .normal a w):∀(l:List Oper)(i:Nat)(e:Env)(a:Act)(w:World)(g:Gh),
  (∀j,l[j]? =ops[i+j]?)→Inv gl w0 aq e a w g→ld P gl (aD P gl) aE ops.toList base l i e K→wpOps P ops Q (List.range' i l.length) a w
 |[],_,e,a,w,g,_,hI,h=>hQ e a w g hI h
 |o::l,i,e,a,w,g,hl,hI,h=>by
  have h0:ops[i]? =some o:=by simpa using(hl 0).symm
  rw[List.length_cons,List.range'_succ,wpOps_cons]
  rw[Ar]at h
  exact IY hI h0 h fun e' a' w' g' hinv hk=>QJ hQ l (i+1) e' a' w' g' (fun j=>by have:=hl (j+1);simpa[Nat.add_assoc,Nat.add_comm 1 j]using this) hinv hk
theorem Ow{m:Nat}:∀(l:List Oper)(i j:Nat),j∈oh m l i↔i≤j∧m.testBit j=false∧∃o,l[j-i]? =some o∧∀e∈o.after,Region.binds .any e=true→m.testBit e.on=true
 |[],i,j=>by simp[oh]
 |o::l,i,j=>by
  have ih:=Ow (m:=m) l (i+1) j
  have aU:i+1≤j→(o::l)[j-i]? =l[j-(i+1)]? :=fun h=>by rw[show j-i=(j-(i+1))+1 by omega,List.getElem?_cons_succ]
  rw[oh]
  cases hc:(!Nat.testBit m i&&o.after.toList.all (fun e=> !Region.binds .any e||Nat.testBit m e.on))with
  |true=>
   simp only[Bool.and_eq_true,Bool.not_eq_true',List.all_eq_true,Bool.or_eq_true]at hc
   simp only[cond_true,List.mem_cons,ih]
   constructor
   ·rintro(rfl|⟨h1,h2,p,h3,h4⟩)
    ·refine⟨Nat.le_refl _,hc.1,o,by simp,fun e he hb=>?_⟩
     rcases hc.2 e (by simpa using he)with h|h
     ·rw[hb]at h;cases h
     ·exact h
    ·exact⟨by omega,h2,p,(aU h1).trans h3,h4⟩
   ·rintro⟨h1,h2,p,h3,h4⟩
    rcases Nat.eq_or_lt_of_le h1 with h|h
    ·exact .inl h.symm
    ·exact .inr ⟨h,h2,p,(aU h).symm.trans h3,h4⟩
  |false=>
   simp only[cond_false,ih]
   constructor
   ·rintro⟨h1,h2,p,h3,h4⟩
    exact⟨by omega,h2,p,(aU h1).trans h3,h4⟩
   ·rintro⟨h1,h2,p,h3,h4⟩
    rcases Nat.eq_or_lt_of_le h1 with h|h
    ·subst h
     exfalso
     simp only[Nat.sub_self,List.getElem?_cons_zero,Option.some.injEq]at h3
     subst h3
     have:(!Nat.testBit m i&&o.after.toList.all (fun e=> !Region.binds .any e||Nat.testBit m e.on))=true:=by
      simp only[Bool.and_eq_true,Bool.not_eq_true',List.all_eq_true,Bool.or_eq_true]
      refine⟨h2,fun e he=>?_⟩
      cases hb:Region.binds .any e with
      |false=>exact .inl rfl
      |true=>exact .inr (h4 e (by simpa using he) hb)
     rw[this]at hc;cases hc
    ·exact⟨h,h2,p,(aU h).symm.trans h3,h4⟩
theorem B6{m:Nat}{bw:Array Bool}(hm:∀j,m.testBit j=bw.getD j false)(hs:bw.size=ops.size){j:Nat}:j∈oh m ops.toList 0↔j∈Region.ready .any ops bw:=by
 rw[Ow,mem_ready]
 simp only[Nat.zero_le,true_and,Nat.sub_zero,Array.getElem?_toList]
 constructor
 ·rintro⟨h1,o,h2,h3⟩
  refine⟨?_,o,h2,fun e he hb=>(hm e.on).symm.trans (h3 e he hb)⟩
  have hj:j<bw.size:=by rw[hs];exact(Array.getElem?_eq_some_iff.1 h2).1
  rw[hm]at h1
  simp only[Array.getD_eq_getD_getElem?,Array.getElem?_eq_getElem hj,Option.getD_some]at h1 ⊢
  exact h1
 ·rintro⟨h1,o,h2,h3⟩
  refine⟨?_,o,h2,fun e he hb=>(hm e.on).trans (h3 e he hb)⟩
  have hj:j<bw.size:=by rw[hs];exact(Array.getElem?_eq_some_iff.1 h2).1
  rw[hm]
  simp only[Array.getD_eq_getD_getElem?,Array.getElem?_eq_getElem hj,Option.getD_some]at h1 ⊢
  exact h1
theorem Ox{R:List Nat}{m i:Nat}{o:Oper}:∀{l:List Oper}{j:Nat},F1 ops aE R m i o l j=true→∀(n:Nat)p,l[n]? =some p→
  i=j+n∨m.testBit (j+n)=true∨(R.getD (j+n) 0).testBit i=true∨indep ops (aE i) (aE (j+n)) o p=true
 |[],j,_,n,p,h=>by simp at h
 |q::l,j,h,n,p,hp=>by
  simp only[F1,Bool.and_eq_true,Bool.or_eq_true]at h
  cases n with
  |zero=>
   simp at hp;subst hp
   rcases h.1 with((h|h)|h)|h
   ·exact .inl (Nat.eq_of_beq_eq_true h)
   ·exact .inr (.inl h)
   ·exact .inr (.inr (.inl h))
   ·exact .inr (.inr (.inr h))
  |succ n=>
   have:=Ox h.2 n p (by simpa using hp)
   rw[show j+(n+1)=j+1+n by omega]
   exact this
theorem Nv{R:List Nat}{m i:Nat}:∀{l:List Nat},firstFree ops aE R m l=some i→i∈l∧FJ ops aE R m i=true
 |[],h=>by simp[firstFree]at h
 |k::l,h=>by
  rw[firstFree]at h
  cases hk:FJ ops aE R m k with
  |true=>rw[hk]at h;cases h;exact⟨by simp,hk⟩
  |false=>rw[hk]at h;have:=Nv h;exact⟨by simp[this.1],this.2⟩
theorem PY{f:Nat→Prop}:∀{l:List Nat},Gf f l→∀i∈l,f i
 |[],_,i,h=>by cases h
 |[j],hf,i,h=>by
  simp only[List.mem_cons,List.not_mem_nil,or_false]at h
  subst h;exact hf
 |j::k::l,hf,i,h=>by
  have hf:f j∧Gf f (k::l):=hf
  rcases List.mem_cons.1 h with h|h
  ·subst h;exact hf.1
  ·exact PY hf.2 i h
theorem VB{m i j:Nat}:(m|||2^i).testBit j=(m.testBit j||decide (i=j)):=by
 rw[Nat.testBit_or,Nat.testBit_two_pow]
theorem Ic{K:Env→Prop}:∀(n m:Nat)(bw:Array Bool)(e:Env),(∀j,m.testBit j=bw.getD j false)→bw.size=ops.size→tz ops bw→Good gl e→
  yX P gl (aD P gl) ops aE (reach [] ops.toList) base K n m e→xc P gl ops aE base K n bw e
 |0,m,bw,e,hm,hs,hc,hG,h=>by
  rw[yX]at h
  cases hr:(oh m ops.toList 0).isEmpty with
  |false=>rw[hr]at h;exact h.elim
  |true=>
   rw[hr]at h
   refine⟨?_,h⟩
   rw[List.eq_nil_iff_forall_not_mem]
   intro j hj
   have:=(B6 hm hs).2 hj
   rw[List.isEmpty_iff.1 hr]at this
   cases this
 |n+1,m,bw,e,hm,hs,hc,hG,h=>by
  rw[yX]at h
  cases hr:(oh m ops.toList 0).isEmpty with
  |true=>
   rw[hr]at h
   refine⟨fun _=>h,fun i hi=>?_⟩
   have:=(B6 hm hs).2 hi
   rw[List.isEmpty_iff.1 hr]at this
   cases this
  |false=>
   rw[hr,cond_false]at h
   have mf:∀{i:Nat},i∈Region.ready .any ops bw→∀j,(m|||2^i).testBit j=(bw.setIfInBounds i true).getD j false:=by
    intro i hi j
    rw[VB,hm]
    have nq:i<bw.size:=by
     obtain⟨_,o,ho,_⟩:=mem_ready.1 hi
     rw[hs];exact(Array.getElem?_eq_some_iff.1 ho).1
    by_cases eT:i=j
    ·subst eT;simp[nq]
    ·rw[getD_set_ne false eT];simp[eT]
   have step:∀{i:Nat}{o:Oper},i∈Region.ready .any ops bw→ops[i]? =some o→
     m5 P gl (aD P gl) ops.toList (base+fU ops.toList i) (aE i) o e (fun e'=>yX P gl (aD P gl) ops aE (reach [] ops.toList) base K n (m|||2^i) e')→
     ∃src s U,Out P gl (aD P gl) ops (base+fU ops.toList i) (aE i) o e src s U∧xc P gl ops aE base K n (bw.setIfInBounds i true) (fin o src s U e):=by
    intro i o hi ho h1
    obtain⟨src,s,U,hk,hO,_⟩:=x7 h1
    exact⟨src,s,U,hO,Ic n _ _ _ (mf hi) (by simpa using hs) (hc.set hi) (IA hG ho (hO.run rfl)) hk⟩
   have eO:=PY h
   unfold Sc at eO
   cases hf:firstFree ops aE (reach [] ops.toList) m (oh m ops.toList 0)with
   |some i=>
    rw[hf]at eO
    obtain⟨xJ,wa⟩:=Nv hf
    have hi:=(B6 hm hs).1 xJ
    obtain⟨pJ,o,ho,_⟩:=mem_ready.1 hi
    have h1:=eO i (by simp)
    simp only[Array.getElem?_toList,ho]at h1
    obtain⟨src,s,U,hO,hA⟩:=step hi ho h1
    unfold FJ at wa
    simp only[Array.getElem?_toList,ho]at wa
    refine Pl (E:=none) (K:=fun _=>False) ho n bw e src s U (fun j oj jo me KT ez=>?_) hc hi hG (fun A hA=>by cases hA) hO hA
    have:=Ox wa j oj (by rw[Array.getElem?_toList];exact jo)
    rw[Nat.zero_add]at this
    rcases this with h|h|h|h
    ·exact absurd h.symm me
    ·exfalso
     have ko:j<bw.size:=by rw[hs];exact(Array.getElem?_eq_some_iff.1 jo).1
     rw[hm]at h
     simp only[Array.getD_eq_getD_getElem?,Array.getElem?_eq_getElem ko,Option.getD_some]at h KT
     rw[h]at KT;cases KT
    ·rw[ez]at h;cases h
    ·simp[AE,h]
   |none=>
    rw[hf]at eO
    refine⟨fun h0=>?_,fun i hi=>?_⟩
    ·exfalso
     cases hl:oh m ops.toList 0 with
     |nil=>rw[hl]at hr;cases hr
     |cons i l=>
      have:=(B6 hm hs (j:=i)).1 (by rw[hl];simp)
      rw[h0]at this;cases this
    ·have h1:=eO i ((B6 hm hs).2 hi)
     obtain⟨_,o,ho,_⟩:=mem_ready.1 hi
     simp only[Array.getElem?_toList,ho]at h1
     obtain⟨src,s,U,hO,hA⟩:=step hi ho h1
     exact⟨o,ho,hO.run hA⟩
theorem Ie{all:List Oper}{K:Env→Prop}:∀(l:List Oper)(i:Nat)(e:Env),ld P gl (aD P gl) aE all base l i e K→∃e',K e'
 |[],_,e,h=>⟨e,h⟩
 |o::l,i,e,h=>by
  rw[Ar]at h
  have eO:all=all.toArray.toList:=by simp
  rw[eO]at h
  obtain⟨src,s,U,hk,hO,_⟩:=x7 h
  rw[←eO]at hk
  exact Ie l (i+1) _ hk
theorem Inv.Fa{w0:World}{aq:S0}{e:Env}{a:Act}{w:World}{g:Gh}(hI:Inv gl w0 aq e a w g)(n:Nat):
  Inv gl w0 aq ⟨e.ai,e.boxes++List.replicate n .none⟩ a w {g with bx:=g.bx++List.replicate n none}:=by
 have ef:∀b,some b∈g.bx++List.replicate n (none:Option Nat)→some b∈g.bx:=fun b h=>by
  rcases List.mem_append.1 h with h|h
  ·exact h
  ·have:=(List.mem_replicate.1 h).2;cases this
 have jF:∀(i:Nat)an,(g.bx++List.replicate n (none:Option Nat))[i]? =some (some an)→g.bx[i]? =some (some an):=fun i an h=>by
  rw[List.getElem?_append]at h
  split at h
  ·exact h
  ·have:=(List.mem_replicate.1 (List.mem_of_getElem? h)).2;cases this
 have hX:Ext w0.heap.size w g w {g with bx:=g.bx++List.replicate n none} (fun _=>False):=by
  refine⟨fun _ _ hb ho h=>⟨h,fun hm=>hb (ef _ hm),ho,fun _ h=>h⟩,fun _ _ h=>(by first|exact⟨h,rfl⟩|exact⟨h,.refl _ _ _⟩),fun _ _ _=>rfl,fun i an h=>?_,fun p b a' c _ ho=>?_,.refl _⟩
  ·simp only;rw[List.getElem?_append_left (List.getElem?_eq_some_iff.1 h).1];exact h
  ·obtain⟨h1,h2,h3,h4,h5⟩:=ho
   exact⟨⟨h1,h2,fun h=>h3 (ef b h),h4,h5⟩,.refl _ _ _⟩
 refine⟨hI.below,hI.size,fun i s hs=>hX.slot (fun _ h=>h) (hI.ai i s hs),by simp[hI.ff],fun b bx an h1 h2=>?_,fun i j an h1 h2=>hI.nodup i j an (jF i an h1) (jF j an h2),hI.fY,
  fun b o h=>⟨(hI.cG b o h).1,fun hm=>(hI.cG b o h).2.1 (ef b hm),(hI.cG b o h).2.2⟩,fun b h=>hI.dj b (ef b h),hI.ke.ext hX,hI.defers,fun D o hD=>(have h:=hI.eR D o hD;⟨fun hm=>h.1 (ef D hm),h.2⟩),hI.cls,hI.jH⟩
 have pH:=jF b an h2
 simp only at h1
 rw[List.getElem?_append_left (by rw[←hI.ff];exact(List.getElem?_eq_some_iff.1 pH).1)]at h1
 exact hX.box (fun _ h=>h) rfl (hI.boxes b bx an h1 pH)
theorem Inv.drew{w0:World}{aq:S0}{e:Env}{a:Act}{w:World}{g:Gh}(hI:Inv gl w0 aq e a w g):Inv gl w0 aq e a {w with drawn:=w.drawn+1} g:=by
 have hX:Ext w0.heap.size w g {w with drawn:=w.drawn+1} g (fun _=>False):=⟨fun _ _ hb ho h=>⟨h,hb,ho,fun _ h=>h⟩,fun _ _ h=>(by first|exact⟨h,rfl⟩|exact⟨h,.refl _ _ _⟩),fun _ _ _=>rfl,fun _ _ h=>h,fun _ _ _ _ _ h=>⟨h,.refl _ _ _⟩,fun _ c ty _ h=>⟨c,ty,h,rfl⟩⟩
 refine⟨⟨hI.below.os,hI.below.tape,hI.below.output,hI.below.size,hI.below.block⟩,hI.size,fun i s hs=>hX.slot (fun _ h=>h) (hI.ai i s hs),hI.ff,fun b bx an h1 h2=>hX.box (fun _ h=>h) rfl (hI.boxes b bx an h1 h2),hI.nodup,hI.fY,hI.cG,hI.dj,hI.ke.ext hX,hI.defers,hI.eR,hI.cls,hI.jH⟩
theorem Inv.Sk{w0:World}{aq:S0}{e:Env}{a:Act}{w:World}{g:Gh}(hI:Inv gl w0 aq e a w g)(n:Nat){e':Env}(he:e'=⟨e.ai,e.boxes++List.replicate n .none⟩):
  Jv ops e.boxes.length (fun b=>∃an,g.bx[b]? =some (some an)) (Array.replicate ops.size false) e':=by
 subst he
 have je:∀{O:Nat→Nat→Nat→Nat→Prop}{s:Slot}{v:Value},bW w0.heap.size w g O s v→du (fun b=>∃an,g.bx[b]? =some (some an)) s:=by
  intro O s v h
  induction h with
  |v O x y h=>exact .v _
  |t O xs vs hl hc=>exact .t _
  |p O b off an h=>exact .p _ _ ⟨an,h⟩
  |a O b n sz v hm h=>obtain⟨an,cap,h1,_⟩:=h;exact .a _ _ _ ⟨an,h1⟩
  |m O b an h=>exact .m _ ⟨an,h⟩
  |c O f first cap fv cv hf hc _ _ jh ji=>
   refine .c _ _ _ (fun s hs=>?_) (fun s hs=>?_)
   ·obtain⟨i,hi,rfl⟩:=List.mem_iff_getElem.1 hs
    exact jh i _ (fv[i]'(by omega)) (by simp) (by simp)
   ·obtain⟨i,hi,rfl⟩:=List.mem_iff_getElem.1 hs
    exact ji i _ (cv[i]'(by omega)) (by simp) (by simp)
 refine⟨fun b⟨an,hb⟩=>by rw[←hI.ff];exact(List.getElem?_eq_some_iff.1 hb).1,fun t _=>?_,fun b s hb hs=>?_,fun i o a' _ _ hl=>?_⟩
 ·exact je (jQ hI t)
 ·simp only at hs
  rw[List.getElem?_append]at hs
  split at hs
  ·rename_i aK
   rcases hb with⟨an,hb⟩|hb
   ·obtain⟨_,c,t,hc,_,aM,hr⟩:=hI.boxes b _ an hs hb
    have oP:c[0]? =some (c[0]'(by omega)):=by simp
    exact je (hr _ oP)
   ·omega
  ·have:=(List.mem_replicate.1 (List.mem_of_getElem? hs)).2;cases this
 ·exfalso
  rcases Nat.lt_or_ge i ops.size with h|h
  ·simp[h]at hl
  ·simp[h]at hl
theorem XZ{w0:World}{aq:S0}{e:Env}{a:Act}{w:World}{g:Gh}(hI:Inv gl w0 aq e a w g){id:Nat}{draw:Bool}{K:Env→Prop}{Q:Exit→Act→World→Prop}(hm:P.follows .mixedOrders =true)
  (h:Ap P gl (aD P gl) aE ops.toList e (vn P gl (aD P gl) (!draw||rD aE ops) ops aE e K))(hQ:∀e a w g,Inv gl w0 aq e a w g→K e→Q .normal a w):(Code.region id ops draw).wp P Q a w:=by
 unfold Ap at h
 cases gr:(!draw||rD aE ops)with
 |false=>
  rw[gr]at h
  obtain⟨e',KU,hK⟩:=Ie _ _ _ h
  have hd:draw=true:=by cases draw<;>simp_all
  subst hd
  refine wp_region_any hm ?_
  have bO:=(hI.Fa (fU ops.toList ops.toList.length)).drew
  have:=Ic (P:=P) (gl:=gl) (aE:=aE) (K:=fun x=>x=e') _ 0 (Array.replicate ops.size false) _ (fun j=>by simp[Array.getElem?_replicate];split<;>rfl) (by simp) (fun j o ho hl=>by
   have hj:j<ops.size:=(Array.getElem?_eq_some_iff.1 ho).1
   simp[hj]at hl) ⟨w0,aq,a,_,_,bO⟩ KU
  have h2:=JU (Q:=Q) (K:=fun x=>x=e') (fun e1 a1 w1 g1 hinv hk=>hQ e1 a1 w1 g1 hinv (by rw[hk];exact hK)) _ _ _ _ _ _ bO this
  simpa using h2
 |true=>
 rw[gr]at h
 replace h:ld P gl (aD P gl) aE ops.toList e.boxes.length ops.toList 0 ⟨e.ai,e.boxes++List.replicate (fU ops.toList ops.toList.length) .none⟩ K:=h
 have bh:=hI.Fa (fU ops.toList ops.toList.length)
 cases draw with
 |false=>
  refine wp_region ?_
  have:=QJ (base:=e.boxes.length) (aE:=aE) hQ ops.toList 0 _ a w _ (fun j=>by simp) bh h
  rw[List.range_eq_range']
  simpa using this
 |true=>
  simp only[Bool.not_true,Bool.false_or]at gr
  refine wp_region_any hm ?_
  have bO:=bh.drew
  have aM:(Array.replicate ops.size false).size =ops.size:=by simp
  have LR:=hI.Sk (ops:=ops) (fU ops.toList ops.toList.length) rfl
  obtain⟨E,v9,gr⟩:∃E,Js ops aE e.boxes.length _ E (Array.replicate ops.size false) ⟨e.ai,e.boxes++List.replicate (fU ops.toList ops.toList.length) .none⟩∧yz E ops aE (reach [] ops.toList) ops.toList 0=true:=by
   unfold rD at gr
   cases gD:eligible ops.toList aE (reach [] ops.toList)with
   |true=>rw[gD]at gr;exact⟨_,fun A hA=>by cases hA;exact⟨rfl,QH gD,LR⟩,gr⟩
   |false=>rw[gD]at gr;exact⟨none,fun A hA=>(by cases hA),gr⟩
  have:=Jt (P:=P) (gl:=gl) (base:=e.boxes.length) (aE:=aE) ops.toList 0 (Array.replicate ops.size false) _ (fun j=>by simp) (fun j hj=>by omega) (fun j _ hj=>by simp[hj]) aM
   (fun j o ho hl=>by
     have hj:j<ops.size:=(Array.getElem?_eq_some_iff.1 ho).1
     simp[hj]at hl) ⟨w0,aq,a,_,_,bO⟩ v9 gr h
  have h2:=JU hQ _ _ _ _ _ _ bO this
  simpa using h2
end
end Go.Proofs.Ytimbllcalipehaa.Ab
namespace Go.Proofs.Ytimbllcalipehaa.Ab
open Go Go.RowKit
def p9(n:Nat)(e e':Env):Prop:=∀i,i<n→e'.boxes.getD i .none =.none ∨(e.boxes.getD i .none ≠.none ∧(e'.boxes.getD i .none).isMap =(e.boxes.getD i .none).isMap)
theorem p9.refl(n:Nat)(e:Env):p9 n e e:=fun i _=>by
 by_cases h:e.boxes.getD i .none =.none
 ·exact .inl h
 ·exact .inr ⟨h,rfl⟩
theorem p9.trans{n m:Nat}{e e1 e2:Env}(oQ:n≤m)(h1:p9 n e e1)(h2:p9 m e1 e2):p9 n e e2:=fun i hi=>by
 rcases h2 i (by omega)with h|⟨h3,h4⟩
 ·exact .inl h
 ·rcases h1 i hi with h|⟨h5,h6⟩
  ·exact absurd h h3
  ·exact .inr ⟨h5,h4.trans h6⟩
section
variable{P:Program}{gl:Nat→Option D}{w0:World}{aq:S0}{e:Env}{a:Act}{w:World}{g:Gh}
theorem Pm{sz:Nat}:∀{L:List D}{i j:Nat}{x c:D},(∀x∈L,x.cells.length=sz)→L[i]? =some x→x.cells[j]? =some c→(bq L)[i*sz+j]? =some (.d c)
 |[],i,j,x,c,_,h,_=>by simp at h
 |y::L,0,j,x,c,hs,h,hc=>by
  simp at h;subst h
  simp only[bq,Nat.zero_mul,Nat.zero_add]
  rw[List.getElem?_append_left (by simp[(List.getElem?_eq_some_iff.1 hc).1]),List.getElem?_map,hc];rfl
 |y::L,i+1,j,x,c,hs,h,hc=>by
  have hy:=hs y (by simp)
  simp only[bq]
  rw[List.getElem?_append_right (by simp[hy,Nat.succ_mul];omega)]
  have:(i+1)*sz+j-(y.cells.map SV.d).length =i*sz+j:=by simp[hy,Nat.succ_mul];omega
  rw[this]
  exact Pm (fun x hx=>hs x (by simp[hx])) (by simpa using h) hc
theorem HO{sz:Nat}:∀{L:List D},(∀x∈L,x.cells.length=sz)→(bq L).length =L.length*sz
 |[],_=>by simp[bq]
 |y::L,hs=>by
  simp only[bq,List.length_append,List.length_map,List.length_cons,hs y (by simp),Nat.succ_mul]
  rw[HO fun x hx=>hs x (by simp[hx])];omega
theorem PZ{sz:Nat}{L:List D}(hs:∀x∈L,x.cells.length=sz){o:Nat}{y:SV}(h:(bq L)[o]? =some y):∃i x j c,L[i]? =some x∧x.cells[j]? =some c∧o=i*sz+j∧y=.d c:=by
 have ho:o<L.length*sz:=by rw[←HO hs];exact(List.getElem?_eq_some_iff.1 h).1
 have aM:0<sz:=by
  rcases Nat.eq_zero_or_pos sz with h0|h0
  ·subst h0;simp at ho
  ·exact h0
 have hq:o / sz<L.length:=Nat.div_lt_of_lt_mul (by rw[Nat.mul_comm];exact ho)
 have y2:=Nat.mod_lt o aM
 have hc:(L[o / sz]).cells[o % sz]? =some ((L[o / sz]).cells[o % sz]'(by rw[hs _ (List.getElem_mem hq)];exact y2)):=by simp
 have heq:o / sz*sz+o % sz=o:=by rw[Nat.mul_comm];exact Nat.div_add_mod o sz
 refine⟨o / sz,L[o / sz],o % sz,_,List.getElem?_eq_getElem hq,hc,heq.symm,?_⟩
 have:=Pm hs (List.getElem?_eq_getElem hq) hc
 rw[heq,h]at this
 exact Option.some.inj this
theorem aav(hI:Inv gl w0 aq e a w g){t:Nat}{x:SV}(hx:e.ai.getD t (.v .undef)=.v x)(hm:∃sz L,x=.bt sz L):
  ∃sz L g',x=.bt sz L∧Inv gl w0 aq ⟨e.ai.set t (.a e.boxes.length L.length sz),e.boxes++[.cells (bq L)]⟩ a w g':=by
 have hs:=jQ hI t
 rw[hx]at hs
 have hv:=hs.jT
 have F5:∀(y:Option Nat)(i:Nat)an,(g.bx++[y])[i]? =some (some an)→(i<e.boxes.length∧g.bx[i]? =some (some an))∨(i=e.boxes.length∧y=some an):=by
  intro y i an h
  rw[List.getElem?_append,hI.ff]at h
  split at h
  ·exact .inl ⟨by assumption,h⟩
  ·rename_i hi
   right
   have:i-e.boxes.length=0:=by
    rcases Nat.eq_zero_or_pos (i-e.boxes.length)with h0|h0
    ·exact h0
    ·rw[List.getElem?_eq_none (by simp;omega)]at h;cases h
   rw[this]at h
   simp at h
   exact⟨by omega,h⟩
 have build:∀(L:List D)(sz:Nat)(y:Option Nat)(g':Gh),g'.bx=g.bx++[y]→g'.St=g.St→Ext w0.heap.size w g w g' (fun p=>∃j,p=.s t j)→
   (∀(i j:Nat)an,g'.bx[i]? =some (some an)→g'.bx[j]? =some (some an)→i=j)→(∀b,y=some b→w0.heap.size≤b∧b<w.heap.size∧∀o,¬g.St b o)→
   bW w0.heap.size w g' (fe w0.heap.size w g' t) (.a e.boxes.length L.length sz) (a.tmps.getD t undef)→(∀an,y=some an→oz w0.heap.size w g' e.boxes.length (.cells (bq L)) an)→
   Inv gl w0 aq ⟨e.ai.set t (.a e.boxes.length L.length sz),e.boxes++[.cells (bq L)]⟩ a w g':=by
  intro L sz y g' dt aR hX mI hy m4 ae4
  refine⟨hI.below,by simp[hI.size],fun i s mK=>?_,by rw[dt];simp[hI.ff],fun b bx an h1 h2=>?_,mI,fun b o h=>by rw[aR];exact hI.fY b o h,fun b o h=>?_,fun b h=>?_,hI.ke.ext hX,hI.defers,fun D o hD=>(have h:=hI.eR D o hD;have k:=hX.df D o h.1 h.2.1 h.2.2.1;⟨k.2.1,k.2.2.1,k.1,fun x hx=>h.2.2.2 x (k.2.2.2 x hx)⟩),fun b o v hv=>(have h:=hI.cls b o v hv;⟨(hX.st b o h.1).1,(hX.st b o h.1).2.1.trans h.2⟩),hI.jH⟩
  ·rw[List.getElem?_set]at mK
   split at mK
   ·rename_i gW
    subst gW
    split at mK
    ·cases mK;exact m4
    ·cases mK
   ·rename_i gW
    exact hX.slot (fun j=>by rintro⟨j',hj⟩;cases hj;exact gW rfl) (hI.ai i s mK)
  ·rw[dt]at h2
   rcases F5 y b an h2 with⟨aK,h3⟩|⟨rfl,h3⟩
   ·simp only at h1
    rw[List.getElem?_append_left aK]at h1
    exact hX.box (fun j=>by rintro⟨j',hj⟩;cases hj) rfl (hI.boxes b bx an h1 h3)
   ·simp at h1
    subst h1
    exact ae4 an h3
  ·rw[aR]at h
   refine⟨(hI.cG b o h).1,fun hm=>?_,(hI.cG b o h).2.2⟩
   rw[dt]at hm
   rcases List.mem_append.1 hm with hm|hm
   ·exact(hI.cG b o h).2.1 hm
   ·simp at hm
    exact(hy b hm.symm).2.2 o h
  ·rw[dt]at h
   rcases List.mem_append.1 h with h|h
   ·exact hI.dj b h
   ·simp at h
    exact⟨(hy b h.symm).1,(hy b h.symm).2.1⟩
 obtain⟨sz,L,rfl⟩:=hm
 have mg:a.eval (.tmp t)=a.tmps.getD t undef:=rfl
 rw[mg]at hv
 generalize kJ:a.tmps.getD t undef=v at hv
 cases hv with
 |bt _ _ _ gg cap vs bF hm aM hf ho aO hc=>
  obtain⟨o1,o2,o3,⟨cur,te,o4,qE⟩,o5⟩:=ho
  let g':Gh:={g with bx:=g.bx++[some gg]}
  have hX:Ext w0.heap.size w g w g' (fun p=>∃j,p=.s t j):=by
   refine⟨fun D ob hb ez h=>⟨h,(fun hm=>by
    rcases List.mem_append.1 hm with hm|hm
    ·exact hb hm
    ·simp at hm
     subst hm
     rw[o1]at ez
     cases ez),ez,fun _ h=>h⟩,fun _ _ h=>⟨h,.refl _ _ _⟩,fun _ _ _=>rfl,fun i an h=>?_,fun p b a' c hp bN=>⟨?_,.refl _ _ _⟩,.refl _⟩
   ·show(g.bx++[some gg])[i]? =_
    rw[List.getElem?_append_left (List.getElem?_eq_some_iff.1 h).1];exact h
   ·obtain⟨p1,p2,p3,p4,p5⟩:=bN
    refine⟨p1,p2,fun hm=>?_,p4,p5⟩
    rcases List.mem_append.1 hm with hm|hm
    ·exact p3 hm
    ·simp at hm
     subst hm
     rw[o1]at p1
     cases p1
     exact hp ⟨0,rfl⟩
  have hlen:(bq L).length =L.length*sz:=HO aM
  have ae5:L.length*sz≤cap*sz:=Nat.mul_le_mul_right _ bF
  refine⟨sz,L,g',rfl,build L sz (some gg) g' rfl rfl hX ?_ ?_ ?_ ?_⟩
  ·intro i j an h1 h2
   have no:∀(i:Nat),g.bx[i]? =some (some gg)→False:=fun i h=>o3 (List.mem_of_getElem? h)
   rcases F5 (some gg) i an h1 with⟨h3,h4⟩|⟨h3,h4⟩
   ·rcases F5 (some gg) j an h2 with⟨h5,h6⟩|⟨h5,h6⟩
    ·exact hI.nodup i j an h4 h6
    ·cases h6;exact(no i h4).elim
   ·rcases F5 (some gg) j an h2 with⟨h5,h6⟩|⟨h5,h6⟩
    ·cases h4;exact(no j h6).elim
    ·omega
  ·intro b hb
   cases hb
   exact⟨o2,(Array.getElem?_eq_some_iff.1 o4).1,fun o=>o5 o (Nat.zero_le _)⟩
  ·rw[kJ]
   refine .a _ _ _ _ _ (Nat.le_trans bF hm) ⟨gg,cap,?_,bF,rfl,hm,cur,te,o4,qE⟩
   show(g.bx++[some gg])[e.boxes.length]? =_
   rw[←hI.ff];simp
  ·intro an dh
   cases dh
   have nk:∀(o:Nat)y,o<(bq L).length →cur[o]? =some y→y=vs o:=by
    intro o y ho hy
    have h1:=aO o (by rw[←hlen];exact ho)
    rw[cell_of_row w gg o cur te (0,0) o4,hy]at h1
    exact Option.some.inj h1
   refine⟨o2,cur,te,o4,fun j y hj hy=>?_,by rw[hlen,qE];exact ae5,fun j x y hx hy=>?_⟩
   ·have oN:j<(bq L).length :=hj
    obtain⟨i,x,k,c,h1,h2,rfl,_⟩:=PZ aM (List.getElem?_eq_getElem oN)
    rw[nk _ y oN hy]
    exact(hc i x k c h1 h2).rl (hf x (List.mem_of_getElem? h1) c (List.mem_of_getElem? h2))
   ·have oN:=(List.getElem?_eq_some_iff.1 hx).1
    obtain⟨i,x',k,c,h1,h2,rfl,rfl⟩:=PZ aM hx
    rw[nk _ y oN hy]
    exact .d _ _ _ (hc i x' k c h1 h2)
theorem EV(b:Nat)(r:Nat→SV)(rm:SV)(ts:List Nat):∀(l:List Slot)(k i:Nat),(lS b r rm ts l k)[i]? =(l[i]?).map fun s=>bif ts.contains (k+i)then AS b r rm s else s
 |[],_,_=>by simp[lS]
 |s::l,k,i=>by
  cases i with
  |zero=>simp[lS]
  |succ i=>
   simp only[lS,List.getElem?_cons_succ]
   rw[EV b r rm ts l (k+1) i,show k+1+i=k+(i+1) by omega]
theorem z7(b:Nat)(r:Nat→SV)(rm:SV)(ts:List Nat):∀(l:List Slot)(k:Nat),(lS b r rm ts l k).length =l.length
 |[],_=>rfl
 |_::l,k=>by simp[lS,z7 b r rm ts l (k+1)]
theorem Oz{b:Nat}{ts:List Nat}:∀{l:List Slot}{k:Nat},tJ b ts l k=true→∀(i:Nat)s,l[i]? =some s→ts.contains (k+i)=false→s.has b=false
 |[],_,_,i,s,h,_=>by simp at h
 |s'::l,k,hk,i,s,h,hc=>by
  simp only[tJ,Bool.and_eq_true]at hk
  cases i with
  |zero=>
   simp at h;subst h
   have:=hk.1
   rw[Nat.add_zero]at hc
   rw[hc]at this
   simpa using this
  |succ i=>exact Oz hk.2 i s (by simpa using h) (by rw[show k+1+i=k+(i+1) by omega];exact hc)
theorem EO{b:Nat}:∀{l:List af},qc b l=true→∀(i:Nat)s,l[i]? =some (.one s)→s.has b=false
 |[],_,i,s,h=>by simp at h
 |x::l,hk,i,s,h=>by
  cases i with
  |zero=>
   simp at h;subst h
   simp only[qc,Bool.and_eq_true]at hk
   simpa using hk.1
  |succ i=>
   have bK:qc b l=true:=by cases x<;>simp only[qc,Bool.and_eq_true]at hk<;>first|exact hk|exact hk.2
   exact EO bK i s (by simpa using h)
theorem Ig{b:Nat}:∀{l:List Slot},Slot.vi b l=false→∀(i:Nat)s,l[i]? =some s→s.has b=false
 |[],_,i,s,h=>by simp at h
 |x::l,hk,i,s,h=>by
  simp only[Slot.vi,Bool.or_eq_false_iff]at hk
  cases i with
  |zero=>simp at h;subst h;exact hk.1
  |succ i=>exact Ig hk.2 i s (by simpa using h)
theorem bW.Sl{base:Nat}{g':Gh}{b:Nat}(aR:∀b' o,g.St b' o→g'.St b' o)(dt:∀(i:Nat)an,i≠b→g.bx[i]? =some (some an)→g'.bx[i]? =some (some an)){O:Nat→Nat→Nat→Nat→Prop}{s:Slot}{v:Value}
  (r:bW base w g O s v):∀{O':Nat→Nat→Nat→Nat→Prop},(∀j b a c,O j b a c→O' j b a c)→s.has b=false→bW base w g' O' s v:=by
 induction r with
 |v O x y h=>intro O' hO _;exact .v _ _ _ (h.mono (fun b o h=>⟨aR b o h,.refl _ _ _⟩) (fun _ _ _=>rfl) _ (fun _ _ _ h=>⟨hO 0 _ _ _ h,.refl _ _ _⟩))
 |p O b' off an h=>intro O' _ hh;exact .p _ _ _ _ (dt _ _ (by simpa[Slot.has]using hh) h)
 |a O b' n sz v hm h=>intro O' _ hh;exact .a _ _ _ _ _ hm (by obtain⟨an,cap,h1,h2,h3⟩:=h;exact⟨an,cap,dt _ _ (by simpa[Slot.has]using hh) h1,h2,h3⟩)
 |m O b' an h=>intro O' _ hh;exact .m _ _ _ (dt _ _ (by simpa[Slot.has]using hh) h)
 |c O f first cap fv cv hf hc _ _ jh ji=>
  intro O' _ hh
  simp only[Slot.has,Bool.or_eq_false_iff]at hh
  exact .c _ f first cap fv cv hf hc (fun i x v h1 h2=>jh i x v h1 h2 (fun _ _ _ _ h=>h) (Ig hh.1 i x h1)) (fun i x v h1 h2=>ji i x v h1 h2 (fun _ _ _ _ h=>h) (Ig hh.2 i x h1))
 |t O xs vs hl hc=>intro O' hO _;exact .t _ xs vs hl fun j x v h1 h2=>(hc j x v h1 h2).mono (fun b o h=>⟨aR b o h,.refl _ _ _⟩) (fun _ _ _=>rfl) _ (fun _ _ _ h=>⟨hO j _ _ _ h,.refl _ _ _⟩)
def zA(l:List Slot):Option (Nat×SV)→List Slot
 |none=>l
 |some (t,x)=>l.set t (.v x)
theorem IB(hI:Inv gl w0 aq e a w g){b:Nat}{ts:List Nat}{r:Nat→SV}{rm:SV}(gE:tJ b ts e.ai 0=true){S:Nat→Nat→Prop}(hS:∀b' o,S b' o→g.bx[b]? =some (some b'))
  {db:List af}(dP:db.length=e.boxes.length){ov:Option (Nat×SV)}{By:Nat→Option Pos}(qH:∀b',some b'∉g.bx→By b'=g.ow b')(g':Gh)(iB:g'={St:=fun b' o=>g.St b' o∨S b' o,bx:=g.bx.set b none,ow:=By})
  (ab3:∀(i:Nat)bx an,i≠b→db[i]? =some bx→g.bx[i]? =some (some an)→(e.boxes[i]? =some bx∧∀s,bx=.one s→s.has b=false)∨oz w0.heap.size w g' i bx an)
  (LS:∀t x,ov=some (t,x)→aJ w g'.St w0.heap.size (fe w0.heap.size w g' t 0) x (a.tmps.getD t undef))
  (hr:(∀(n sz:Nat)(v:Value),bW w0.heap.size w g (fun _ _ _ _=>False) (Slot.a b n sz) v→aJ w g'.St w0.heap.size (fun _ _ _=>False) (r n) v)∧
    (∀(v:Value),bW w0.heap.size w g (fun _ _ _ _=>False) (Slot.m b) v→aJ w g'.St w0.heap.size (fun _ _ _=>False) rm v)):
  Inv gl w0 aq ⟨(zA (lS b r rm ts e.ai 0) ov),db⟩ a w g':=by
 subst iB
 let g':Gh:={St:=fun b' o=>g.St b' o∨S b' o,bx:=g.bx.set b none,ow:=By}
 have LU:∀b' o,S b' o→some b'∈g.bx:=fun b' o h=>List.mem_of_getElem? (hS b' o h)
 have dt:∀(i:Nat)an,i≠b→g.bx[i]? =some (some an)→g'.bx[i]? =some (some an):=fun i an hi h=>by
  show(g.bx.set b none)[i]? =_
  rw[List.getElem?_set_ne (fun h=>hi h.symm)];exact h
 have Dl:∀(i:Nat)an,g'.bx[i]? =some (some an)→i≠b∧g.bx[i]? =some (some an):=fun i an h=>by
  have h:(g.bx.set b none)[i]? =some (some an):=h
  rw[List.getElem?_set]at h
  split at h
  ·split at h<;>simp at h
  ·rename_i hi;exact⟨fun h=>hi h.symm,h⟩
 have ef:∀b',some b'∈g'.bx→some b'∈g.bx:=fun b' h=>by
  obtain⟨i,hi⟩:=List.mem_iff_getElem?.1 h
  exact List.mem_of_getElem? (Dl i b' hi).2
 have iv:∀p b' a' c,eN w0.heap.size w g p b' a' c→eN w0.heap.size w g' p b' a' c:=by
  rintro p b' a' c ⟨h1,h2,h3,h4,h5⟩
  exact⟨(qH b' h3).trans h1,h2,fun hm=>h3 (ef b' hm),h4,fun o ho=>by rintro(h|h);exact h5 o ho h;exact h3 (LU b' o h)⟩
 have aR:∀b' o,g.St b' o→g'.St b' o:=fun _ _ h=>.inl h
 have jI:(zA (lS b r rm ts e.ai 0) ov).length =e.ai.length:=by
  cases ov with
  |none=>exact z7 _ _ _ _ _ _
  |some p=>simp[zA,z7]
 refine⟨hI.below,by rw[jI];exact hI.size,fun i s hs=>?_,by simp[hI.ff,dP],fun i bx an h1 h2=>?_,fun i j an h1 h2=>hI.nodup i j an (Dl i an h1).2 (Dl j an h2).2,fun b' o h=>.inl (hI.fY b' o h),fun b' o h=>?_,fun b' h=>hI.dj b' (ef b' h),?_,hI.defers,fun D o hD=>(have h:=hI.eR D o hD;⟨fun hm=>h.1 (ef D hm),(qH D h.1).trans h.2.1,h.2.2.1,fun x hx=>h.2.2.2 x (hx.elim id fun e=>absurd (LU D x e) h.1)⟩),fun b o v hv=>(have h:=hI.cls b o v hv;⟨.inl h.1,h.2⟩),hI.jH⟩
 ·have hs:(∃x,ov=some (i,x)∧s=.v x)∨(lS b r rm ts e.ai 0)[i]? =some s:=by
   cases SH:ov with
   |none=>rw[SH]at hs;exact .inr hs
   |some p=>
    obtain⟨t,x⟩:=p
    rw[SH]at hs
    simp only[zA,List.getElem?_set]at hs
    split at hs
    ·rename_i gW
     subst gW
     split at hs
     ·cases hs;exact .inl ⟨x,rfl,rfl⟩
     ·cases hs
    ·exact .inr hs
  rcases hs with⟨x,hx,rfl⟩|hs
  ·exact .v _ _ _ (LS i x hx)
  simp only[EV,Option.map_eq_some_iff,Nat.zero_add]at hs
  obtain⟨s0,ma,rfl⟩:=hs
  have h0:=hI.ai i s0 ma
  have eQ:s0.has b=false→bW w0.heap.size w g' (fe w0.heap.size w g' i) s0 (a.tmps.getD i undef):=fun hh=>h0.Sl aR dt (fun j b' a' c ho=>iv _ b' a' c ho) hh
  cases hc:ts.contains i with
  |false=>exact eQ (Oz gE i s0 ma (by simpa using hc))
  |true=>
   simp only[cond_true]
   have Rz:∀v,bW w0.heap.size w g' (fe w0.heap.size w g' i) (.v .undef) v:=fun v=>.v _ _ _ (.undef _ _)
   have lift:∀{x v},aJ w g'.St w0.heap.size (fun _ _ _=>False) x v→bW w0.heap.size w g' (fe w0.heap.size w g' i) (.v x) v:=fun h=>.v _ _ _ (h.mono (fun _ _ h=>⟨h,.refl _ _ _⟩) (fun _ _ _=>rfl) _ (fun _ _ _ h=>h.elim))
   cases s0 with
   |v x=>exact eQ rfl
   |t x=>exact eQ rfl
   |p b' off=>
    simp only[AS]
    cases hb:b'==b with
    |true=>exact Rz _
    |false=>exact eQ (by simp[Slot.has,hb])
   |a b' n sz=>
    simp only[AS]
    cases hb:b'==b with
    |true=>
     have:=beq_iff_eq.1 hb
     subst this
     exact lift (hr.1 n sz _ h0.aa)
    |false=>exact eQ (by simp[Slot.has,hb])
   |m b'=>
    simp only[AS]
    cases hb:b'==b with
    |true=>
     have:=beq_iff_eq.1 hb
     subst this
     exact lift (hr.2 _ h0.aa)
    |false=>exact eQ (by simp[Slot.has,hb])
   |c f x y=>
    simp only[AS]
    cases hb:(Slot.vi b x||Slot.vi b y)with
    |true=>exact Rz _
    |false=>exact eQ (by simp only[Slot.has,hb])
 ·obtain⟨bg,pH⟩:=Dl i an h2
  rcases ab3 i bx an bg h1 pH with⟨sd,hsb⟩|hb
  rotate_left
  ·exact hb
  have hb:=hI.boxes i bx an sd pH
  cases bx with
  |none=>exact hb.elim
  |cells cs=>
   obtain⟨q0,c,t,q1,q2,q3⟩:=hb
   exact⟨q0,c,t,q1,q2,q3.1,fun j x y hx hy=>(q3.2 j x y hx hy).mono (fun b' o h=>⟨aR b' o h,.refl _ _ _⟩) (fun _ _ _=>rfl) _ (fun _ _ _ h=>⟨iv _ _ _ _ h,.refl _ _ _⟩)⟩
  |one s=>
   obtain⟨q0,c,t,q1,q2,q3⟩:=hb
   exact⟨q0,c,t,q1,q2,q3.1,fun y hy=>(q3.2 y hy).Sl aR dt (fun _ _ _ _ h=>iv _ _ _ _ h) (hsb s rfl)⟩
  |map l=>
   obtain⟨q0,es,clock,q1,q2,q3⟩:=hb
   exact⟨q0,es,clock,q1,q2,fun j x y hx hy=>⟨(q3 j x y hx hy).1,(q3 j x y hx hy).2.1,(q3 j x y hx hy).2.2.mono fun b' o h=>⟨aR b' o h,rfl⟩⟩⟩
 ·rcases h with h|h
  ·exact⟨(hI.cG b' o h).1,fun hm=>(hI.cG b' o h).2.1 (ef b' hm),(hI.cG b' o h).2.2⟩
  ·have hm:=LU b' o h
   have aK:=hI.dj b' hm
   refine⟨.inr aK.1,fun mf=>?_,aK.2⟩
   obtain⟨i,hi⟩:=List.mem_iff_getElem?.1 mf
   obtain⟨bg,eH⟩:=Dl i b' hi
   exact bg (hI.nodup i b b' eH (hS b' o h))
 ·intro n x hx
  obtain⟨q0,vs,q1,q2⟩:=hI.ke n x hx
  exact⟨q0,vs,fun i hi=>⟨(q1 i hi).1,aR _ _ (q1 i hi).2⟩,fun i c hc=>(q2 i c hc).mono fun b' o h=>⟨aR b' o h,rfl⟩⟩
theorem P0(hI:Inv gl w0 aq e a w g){b:Nat}{ts:List Nat}{r:Nat→SV}{rm:SV}(dD:mD b ts e=true){S:Nat→Nat→Prop}(hS:∀b' o,S b' o→g.bx[b]? =some (some b'))
  (bc:∀(g':Gh),g'.St=(fun b' o=>g.St b' o∨S b' o)→(∀(n sz:Nat)(v:Value),bW w0.heap.size w g (fun _ _ _ _=>False) (Slot.a b n sz) v→aJ w g'.St w0.heap.size (fun _ _ _=>False) (r n) v)∧
    (∀(v:Value),bW w0.heap.size w g (fun _ _ _ _=>False) (Slot.m b) v→aJ w g'.St w0.heap.size (fun _ _ _=>False) rm v)):
  ∃g',Inv gl w0 aq (tK b r rm ts e) a w g':=by
 simp only[mD,Bool.and_eq_true]at dD
 refine⟨_,IB hI dD.1 hS (db:=e.boxes.set b .none) (by simp) (ov:=none) (By:=g.ow) (fun _ _=>rfl) _ rfl (fun i bx an bg h1 h2=>.inl ?_) (fun t x h=>by cases h) (bc _ rfl)⟩
 rw[List.getElem?_set_ne (fun h=>bg h.symm)]at h1
 exact⟨h1,fun s hs=>by subst hs;exact EO dD.2 i s h1⟩
theorem Inv.JV(hI:Inv gl w0 aq e a w g){t:Nat}{s:Slot}(hs:bW w0.heap.size w g (fe w0.heap.size w g t) s (a.tmps.getD t undef)):Inv gl w0 aq ⟨e.ai.set t s,e.boxes⟩ a w g:=by
 refine⟨hI.below,by simp[hI.size],fun i x hx=>?_,hI.ff,hI.boxes,hI.nodup,hI.fY,hI.cG,hI.dj,hI.ke,hI.defers,hI.eR,hI.cls,hI.jH⟩
 simp only[List.getElem?_set]at hx
 split at hx
 ·rename_i gW
  subst gW
  split at hx
  ·cases hx;exact hs
  ·cases hx
 ·exact hI.ai i x hx
theorem X0{x y:SV}(h:ou x=some y){St:Nat→Nat→Prop}{base:Nat}{O:Nat→Nat→Nat→Prop}{v:Value}(r:aJ w St base O x v):aJ w St base O y v:=by
 unfold ou at h
 split at h
 ·cases h
  have:=r.data
  cases this
  exact .d _ _ _ (.iJ _)
 ·cases h;exact r
 ·cases h
theorem aaw(hI:Inv gl w0 aq e a w g){t:Nat}{x y:SV}(hx:e.ai.getD t (.v .undef)=.v x)(h:vj x=some y):∃g',Inv gl w0 aq ⟨e.ai.set t (.v y),e.boxes⟩ a w g':=by
 have hs:=jQ hI t
 rw[hx]at hs
 have hv:=hs.jT
 have mg:a.eval (.tmp t)=a.tmps.getD t undef:=rfl
 rw[mg]at hv
 unfold vj at h
 split at h
 ·rename_i sz L
  cases h
  generalize kJ:a.tmps.getD t undef=v at hv
  cases hv with
  |bt _ _ _ gg cap vs bF hm aM hf ho aO hc=>
   obtain⟨o1,o2,o3,⟨cur,te,o4,qE⟩,o5⟩:=ho
   let g':Gh:={g with St:=fun b o=>g.St b o∨(b=gg∧o<L.length*sz)}
   have hX:Ext w0.heap.size w g w g' (fun p=>∃j,p=.s t j):=by
    refine⟨fun D ob hb ez h=>⟨h,hb,ez,fun x hx=>hx.elim id fun e=>(by rw[e.1]at ez;rw[o1]at ez;cases ez)⟩,fun _ _ h=>⟨.inl h,.refl _ _ _⟩,fun _ _ _=>rfl,fun _ _ h=>h,fun p b a' c hp bN=>⟨?_,.refl _ _ _⟩,.refl _⟩
    obtain⟨p1,p2,p3,p4,p5⟩:=bN
    refine⟨p1,p2,p3,p4,fun o ho=>?_⟩
    rintro(h|⟨rfl,_⟩)
    ·exact p5 o ho h
    ·rw[o1]at p1;cases p1;exact hp ⟨0,rfl⟩
   refine⟨g',hI.stepG (dst:=none) (s:=.t []) (v:=undef) (ai:=e.ai.set t (.v (.own sz L))) hX (Below.refl _ _) (by simp) (fun i x hx _=>?_) (fun d hd=>by cases hd) hI.ff (fun b bx an h1 h2=>hX.box (fun j=>by rintro⟨j',h⟩;cases h) rfl (hI.boxes b bx an h1 h2)) hI.nodup hI.dj (fun b o h=>?_)⟩
   ·rw[List.getElem?_set]at hx
    split at hx
    ·rename_i gW
     subst gW
     split at hx
     ·cases hx
      rw[kJ]
      refine .v _ _ _ (.own _ sz L gg cap (.sl sz L gg 0 cap vs bF (Nat.le_trans bF hm) aM hf (fun o ho=>⟨by rw[Nat.zero_add];exact aO o ho,.inr ⟨rfl,by omega⟩⟩) (fun i x j c h1 h2=>(hc i x j c h1 h2).mono fun b o h=>⟨.inl h,rfl⟩)) hm ⟨o1,o2,o3,⟨cur,te,o4,qE⟩,fun o ho=>?_⟩)
      rintro(h|⟨_,h⟩)
      ·exact o5 o (by omega) h
      ·omega
     ·cases hx
    ·rename_i gW
     exact hX.slot (fun j=>by rintro⟨j',h⟩;cases h;exact gW rfl) (hI.ai i x hx)
   ·rcases h with h|⟨rfl,_⟩
    ·exact hI.cG b o h
    ·exact⟨.inr o2,o3,(Array.getElem?_eq_some_iff.1 o4).1⟩
 ·cases h
  refine⟨g,hI.JV (.v _ _ _ ?_)⟩
  have:=hv.data
  generalize a.tmps.getD t undef=v at this ⊢
  cases this
  exact .d _ _ _ (.iJ _)
 ·cases h
  exact⟨g,hI.JV (.v _ _ _ (.d _ _ _ hv.data))⟩
 ·cases h
theorem N5{agg:Bool}{sz:Nat}(Dm:agg=false→sz=1):∀{n:Nat}{l:List D}{L:List D},eW agg sz n l=some L→(∀d∈l,d.one=true)→L.length=n∧l.length=n*sz∧(∀x∈L,x.cells.length=sz∧∀c∈x.cells,c.one=true)∧
  ∀(i:Nat)x(j:Nat)c,L[i]? =some x→x.cells[j]? =some c→l[i*sz+j]? =some c
 |0,[],L,h,_=>by simp only[eW,Option.some.injEq]at h;subst h;simp
 |0,_::_,L,h,_=>by simp[eW]at h
 |n+1,l,L,h,cg=>by
  simp only[eW]at h
  split at h
  ·rename_i hle
   split at h
   ·rename_i r hr
    cases h
    obtain⟨h1,h2,h3,h4⟩:=N5 Dm hr (fun d hd=>cg d (List.mem_of_mem_drop hd))
    have TD:(br agg (l.take sz)).cells =l.take sz:=NJ (fun d hd=>cg d (List.mem_of_mem_take hd)) (fun h=>by rw[List.length_take,Dm h];have:=Dm h;omega)
    simp only[List.length_drop]at h2
    refine⟨by simp[h1],by rw[Nat.succ_mul];omega,fun x hx=>?_,fun i x j c hx hc=>?_⟩
    ·rcases List.mem_cons.1 hx with rfl|hx
     ·rw[TD]
      exact⟨by rw[List.length_take];omega,fun c hc=>cg c (List.mem_of_mem_take hc)⟩
     ·exact h3 x hx
    ·cases i with
     |zero=>
      simp at hx;subst hx
      rw[TD]at hc
      rw[List.getElem?_take]at hc
      split at hc
      ·simpa using hc
      ·cases hc
     |succ i=>
      have:=h4 i x j c (by simpa using hx) hc
      rw[List.getElem?_drop]at this
      rw[Nat.succ_mul,show i*sz+sz+j=sz+(i*sz+j) by omega]
      exact this
   ·cases h
  ·cases h
theorem IZ:∀{cs:List SV}{ds:List D},dE cs=some ds→ds.length=cs.length∧∀(i:Nat)d,ds[i]? =some d→∃x,cs[i]? =some x∧cN x=some d
 |[],ds,h=>by cases h;exact⟨rfl,fun i d h=>by simp at h⟩
 |x::cs,ds,h=>by
  simp only[dE]at h
  split at h
  ·rename_i y hy
   split at h
   ·rename_i r hr
    cases h
    obtain⟨h1,h2⟩:=IZ hr
    refine⟨by simp[h1],fun i d hd=>?_⟩
    cases i with
    |zero=>simp at hd;subst hd;exact⟨x,rfl,hy⟩
    |succ i=>exact h2 i d (by simpa using hd)
   ·cases h
  ·cases h
theorem aZ.RA{St:Nat→Nat→Prop}{d:D}{v:Value}(r:aZ w St d v)(h:v.oneCell'=true):d.one=true:=by
 cases r<;>first|rfl|simp[Value.oneCell']at h
def ql(ws:List Nat)(e e':Env):Prop:=e'.ai.length=e.ai.length∧e.boxes.length≤e'.boxes.length∧(∀t,t∉ws→e'.ai.getD t (.v .undef)=e.ai.getD t (.v .undef))∧p9 e.boxes.length e e'
theorem P1{b:Nat}{r:Nat→SV}{rm:SV}{ts:List Nat}:ql ts e (tK b r rm ts e):=by
 refine⟨by simp[tK,z7],by simp[tK],fun t ht=>?_,fun i hi=>?_⟩
 ·simp only[tK,List.getD_eq_getElem?_getD,EV,Nat.zero_add]
  have:ts.contains t=false:=by simpa using ht
  rw[this]
  cases e.ai[t]? <;>rfl
 ·simp only[tK,List.getD_eq_getElem?_getD,List.getElem?_set]
  by_cases hb:b=i
  ·subst hb
   simp[hi]
  ·simp only[hb,if_false]
   by_cases h:(e.boxes[i]?).getD .none =.none
   ·exact .inl h
   ·exact .inr ⟨h,trivial⟩
theorem FM{y:SV}{t:Nat}:ql [t] e ⟨e.ai.set t (.v y),e.boxes⟩:=⟨by simp,Nat.le_refl _,fun u hu=>by
 simp only[List.mem_singleton]at hu
 simp only
 rw[eD (fun h=>hu h.symm)],.refl _ _⟩
theorem Fu{b:Nat}{ts:List Nat}{r:Nat→SV}{rm:SV}{db:List af}(hl:db.length=e.boxes.length)(hk:∀i,db.getD i .none =.none ∨(e.boxes.getD i .none ≠.none ∧(db.getD i .none).isMap =(e.boxes.getD i .none).isMap)){ov:Option (Nat×SV)}(LS:∀t x,ov=some (t,x)→t∈ts):
  ql ts e ⟨zA (lS b r rm ts e.ai 0) ov,db⟩:=by
 have zB:∀t,t∉ts→(lS b r rm ts e.ai 0).getD t (.v .undef)=e.ai.getD t (.v .undef):=fun t ht=>by
  simp only[List.getD_eq_getElem?_getD,EV,Nat.zero_add]
  have:ts.contains t=false:=by simpa using ht
  rw[this]
  cases e.ai[t]? <;>rfl
 refine⟨?_,by simp[hl],fun t ht=>?_,fun i _=>hk i⟩
 ·cases ov with
  |none=>exact z7 _ _ _ _ _ _
  |some p=>simp[zA,z7]
 ·cases ov with
  |none=>exact zB t ht
  |some p=>
   obtain⟨t',x⟩:=p
   have:=LS t' x rfl
   simp only[zA]
   rw[eD (fun h=>ht (by first|(rw[←h];exact this)|(rw[h];exact this)))]
   exact zB t ht
theorem I0{b:Nat}{l:List af}:∀i,(l.set b .none).getD i .none =.none ∨(l.getD i .none ≠.none ∧((l.set b .none).getD i .none).isMap =(l.getD i .none).isMap):=fun i=>by
 simp only[List.getD_eq_getElem?_getD,List.getElem?_set]
 by_cases hb:b=i
 ·subst hb
  by_cases hi:b<l.length
  ·simp[hi]
  ·simp[hi]
 ·simp only[hb,if_false]
  by_cases h:(l[i]?).getD .none =.none
  ·exact .inl h
  ·exact .inr ⟨h,trivial⟩
theorem P2{b c:Nat}{x:Slot}{l:List (MK×D)}{bs:List af}(hc:bs[c]? =some (.one x)):∀i,((bs.set b .none).set c (.cells [.mp l])).getD i .none =.none ∨(bs.getD i .none ≠.none ∧(((bs.set b .none).set c (.cells [.mp l])).getD i .none).isMap =(bs.getD i .none).isMap):=fun i=>by
 by_cases hi:c=i
 ·subst hi
  right
  have hl:=(List.getElem?_eq_some_iff.1 hc).1
  simp only[List.getD_eq_getElem?_getD,hc,Option.getD_some]
  rw[List.getElem?_set_self (by simpa using hl)]
  exact⟨by simp,rfl⟩
 ·have:=I0 (b:=b) (l:=bs) i
  simp only[List.getD_eq_getElem?_getD]at this ⊢
  rw[List.getElem?_set_ne hi]
  exact this
theorem aax{n:Nat}(h:Nat.blt 0 n=true):0<n:=Nat.lt_of_succ_le (Nat.le_of_ble_eq_true h)
theorem aay(hI:Inv gl w0 aq e a w g){t:Nat}{agg:Bool}{sz:Nat}{ts:List Nat}{b n:Nat}(hs:e.ai.getD t (.v .undef)=.a b n sz){cs:List SV}(bS:e.boxes[b]? =some (.cells cs))(dD:mD b (t::ts) e=true)
  (aM:0<sz)(Dm:agg=false→sz=1){ds:List D}(nj:dE cs=some ds){L:List D}(hL:eW agg sz n ds=some L):
  ∃g',Inv gl w0 aq ⟨(lS b (fun _=>.undef) .undef (t::ts) e.ai 0).set t (.v (.bt sz L)),e.boxes.set b .none⟩ a w g':=by
 have m4:=jQ hI t
 rw[hs]at m4
 have mg:a.eval (.tmp t)=a.tmps.getD t undef:=rfl
 rw[mg]at m4
 obtain⟨cH,gA⟩:=m4.AV
 obtain⟨an,cap,hb,bF,kJ,fC,c0,ty0,oP,ae6⟩:=gA
 obtain⟨q0,c,ty,q1,q2,q3,q4⟩:=hI.boxes b _ an bS hb
 have dm:c=c0∧ty=ty0:=by rw[q1]at oP;cases oP;exact⟨rfl,rfl⟩
 obtain⟨rfl,rfl⟩:=dm
 obtain⟨d1,d2⟩:=IZ nj
 have cg:∀d∈ds,d.one=true:=by
  intro d hd
  obtain⟨j,hj⟩:=List.mem_iff_getElem?.1 hd
  obtain⟨x,hx,zC⟩:=d2 j d hj
  have ko:=(List.getElem?_eq_some_iff.1 hx).1
  have hjc:j<c.size:=Nat.lt_of_lt_of_le ko q3
  exact((q4 j x c[j] hx (by simp)).cN zC).RA (q2 j c[j] ko (by simp))
 obtain⟨l1,l2,l3,l4⟩:=N5 Dm hL cg
 simp only[mD,Bool.and_eq_true]at dD
 have uh:some an∈g.bx:=List.mem_of_getElem? hb
 refine⟨_,IB hI (r:=fun _=>.undef) (rm:=.undef) dD.1 (S:=fun _ _=>False) (fun _ _ h=>h.elim) (db:=e.boxes.set b .none) (by simp) (ov:=some (t,.bt sz L)) (By:=fun b'=>if b'=an then some (.s t 0)else g.ow b') (fun b' ei=>if_neg (fun h=>ei (by rw[h];exact uh))) _ rfl (fun i bx oA bg h1 h2=>.inl ?_) (fun t' x h=>?_) ⟨fun _ _ _ _=>.undef _ _,fun _ _=>.undef _ _⟩⟩
 ·rw[List.getElem?_set_ne (fun h=>bg h.symm)]at h1
  exact⟨h1,fun s hs=>by subst hs;exact EO dD.2 i s h1⟩
 ·cases h
  rw[kJ,←l1]
  refine .bt _ sz L an cap (fun o=>c.getD o undef) (by omega) fC (fun x hx=>(l3 x hx).1) (fun x hx=>(l3 x hx).2) ⟨by simp,q0,fun hm=>?_,⟨c,ty,q1,ae6⟩,fun o _ h=>?_⟩ (fun o ho=>?_) (fun i x j d hx hc=>?_)
  ·obtain⟨i,hi⟩:=List.mem_iff_getElem?.1 hm
   simp only[List.getElem?_set]at hi
   split at hi
   ·split at hi<;>simp at hi
   ·rename_i zw
    exact zw (hI.nodup b i an hb hi)
  ·rcases h with h|h
   ·exact(hI.cG an o h).2.1 uh
   ·exact h
  ·rw[cell_of_row w an o c ty (0,0) q1]
   have:o<c.size:=by rw[l1]at ho;omega
   simp[this]
  ·obtain⟨y,hy,DW⟩:=d2 _ d (l4 i x j d hx hc)
   have nq:=(List.getElem?_eq_some_iff.1 hy).1
   have DX:i*sz+j<c.size:=Nat.lt_of_lt_of_le nq q3
   have hr:=(q4 _ y c[i*sz+j] hy (by simp)).cN DW
   have hg:(c.getD (i*sz+j) undef)=c[i*sz+j]:=by simp[DX]
   show aZ w _ d (c.getD (i*sz+j) undef)
   rw[hg]
   exact hr.mono fun b' o h=>⟨.inl h,rfl⟩
theorem aaz(hI:Inv gl w0 aq e a w g){ts:List Nat}{c b:Nat}(hc:e.boxes[c]? =some (.one (.m b))){l:List (MK×D)}(hl:e.boxes[b]? =some (.map l))(bg:b≠c)(gE:tJ b ts e.ai 0=true)
  (oS:qc b (e.boxes.set c .none)=true):∃g',Inv gl w0 aq ⟨lS b (fun _=>.undef) .undef ts e.ai 0,(e.boxes.set b .none).set c (.cells [.mp l])⟩ a w g':=by
 refine⟨_,IB hI (r:=fun _=>.undef) (rm:=.undef) gE (S:=fun b' o=>g.bx[b]? =some (some b')∧o=0) (fun b' o h=>h.1) (db:=(e.boxes.set b .none).set c (.cells [.mp l])) (by simp) (ov:=none) (By:=g.ow) (fun _ _=>rfl) _ rfl
  (fun i bx oA hni h1 h2=>?_) (fun t x h=>by cases h) ⟨fun _ _ _ _=>.undef _ _,fun _ _=>.undef _ _⟩⟩
 by_cases LV:c=i
 ·right
  subst LV
  obtain⟨q0,cc,ty,q1,q2,q3,q4⟩:=hI.boxes c _ oA hc h2
  rw[List.getElem?_set_self (by simp;exact(List.getElem?_eq_some_iff.1 hc).1)]at h1
  cases h1
  have rV:cc[0]? =some cc[0]:=by simp
  have hr:=q4 _ rV
  generalize hcy:cc[0]=y at hr rV
  cases hr with
  |m _ _ an hb=>
   obtain⟨_,es,clock,p1,p2,p3⟩:=hI.boxes b _ an hl hb
   refine⟨q0,cc,ty,q1,fun j y hj=>q2 j y hj,q3,fun j x y hx hy=>?_⟩
   cases j with
   |succ j=>simp at hx
   |zero=>
    simp at hx;subst hx
    rw[rV]at hy;cases hy
    exact .mp _ l an es clock p1 (.inr ⟨hb,rfl⟩) p2 fun i x y hx hy=>⟨(p3 i x y hx hy).1,(p3 i x y hx hy).2.1,(p3 i x y hx hy).2.2.mono fun b' o h=>⟨.inl h,rfl⟩⟩
 ·left
  rw[List.getElem?_set_ne LV,List.getElem?_set_ne (fun h=>hni h.symm)]at h1
  exact⟨h1,fun s hs=>by
   subst hs
   exact EO oS i s (by rw[List.getElem?_set_ne LV];exact h1)⟩
theorem aaA(hI:Inv gl w0 aq e a w g){x:ib}{k:Env→Prop}(h:fu e k x):∃e' g',Inv gl w0 aq e' a w g'∧k e'∧ql (fB [x]) e e':=by
 cases x with
 |box t Bs=>
  simp only[fu]at h
  split at h
  ·rename_i x hx
   unfold gP at h
   split at h
   rotate_left
   ·exact⟨e,g,hI,h,rfl,Nat.le_refl _,fun _ _=>rfl,.refl _ _⟩
   ·exact h.elim
   rename_i sz0 L0
   obtain⟨ae7,h⟩:=h
   subst ae7
   obtain⟨sz,L,g',he,bh⟩:=aav hI hx ⟨_,_,rfl⟩
   cases he
   refine⟨_,g',bh,h,by simp,by simp,fun u hu=>?_,fun i hi=>?_⟩
   ·simp only[fB,List.mem_singleton]at hu
    simp only
    rw[eD (fun h=>hu h.symm)]
   ·simp only[List.getD_eq_getElem?_getD]
    rw[List.getElem?_append_left hi]
    by_cases h:(e.boxes[i]?).getD .none =.none
    ·exact .inl h
    ·exact .inr ⟨h,rfl⟩
  ·exact h.elim
 |qB t ts=>
  have fr:∀{b r rm},ql (fB [.qB t ts]) e (tK b r rm ts e):=by
   intro b r rm
   have:fB [.qB t ts]=ts:=by simp[fB]
   rw[this];exact P1
  simp only[fu]at h
  split at h
  ·rename_i b n sz0 hs
   split at h
   ·rename_i cs bS
    cases dD:mD b ts e with
    |false=>rw[dD]at h;exact h.elim
    |true=>
     rw[dD,cond_true]at h
     obtain⟨ds,nj,hlen,hk⟩:=aH h
     obtain⟨d1,d2⟩:=IZ nj
     refine Exists.elim (P0 hI (b:=b) (ts:=ts) (r:=fun m=>jS m n (.d (.sl .ro 1 ds))) (rm:=.undef) dD (S:=fun b' o=>g.bx[b]? =some (some b')∧o<n) (fun b' o h=>h.1) (fun g' iB=>⟨fun m Bs v hv=>?_,fun v hv=>.undef _ _⟩)) fun g' bh=>⟨_,g',bh,hk,fr⟩
     ·unfold jS
      split
      ·rename_i hmn
       subst hmn
       obtain⟨cH,gA⟩:=hv.AV
       have LX:ds.length=m:=d1.trans hlen
       obtain⟨an,cap,hb,bF,rfl,_⟩:=gA
       obtain⟨q0,c,ty,q1,q2,q3,q4⟩:=hI.boxes b _ an bS hb
       have cg:∀d∈ds,d.one=true:=by
        intro d hd
        obtain⟨j,hj⟩:=List.mem_iff_getElem?.1 hd
        obtain⟨x,hx,zC⟩:=d2 j d hj
        have ko:=(List.getElem?_eq_some_iff.1 hx).1
        have hjc:j<c.size:=Nat.lt_of_lt_of_le ko q3
        exact((q4 j x c[j] hx (by simp)).cN zC).RA (q2 j c[j] ko (by simp))
       have cY:∀d∈ds,d.cells=[d]:=fun d hd=>D.wI (cg d hd)
       have:=aZ.sl (w:=w) (St:=g'.St) 1 ds an 0 cap (fun o=>c.getD o undef) (by omega) (by omega) (fun d hd=>by rw[cY d hd];rfl)
        (fun d hd x hx=>by rw[cY d hd]at hx;rw[List.mem_singleton.1 hx];exact cg d hd) (fun o ho=>⟨by
          rw[cell_of_row w an (0+o) c ty (0,0) q1]
          have:o<c.size:=by omega
          simp[this],by rw[iB];exact .inr ⟨hb,by omega⟩⟩) (fun i d j x hd hx=>by
          rw[cY d (List.mem_of_getElem? hd)]at hx
          have hj:j=0:=by
           cases j with
           |zero=>rfl
           |succ j=>simp at hx
          subst hj
          simp at hx;subst hx
          obtain⟨y,hy,DW⟩:=d2 i d hd
          have nq:=(List.getElem?_eq_some_iff.1 hy).1
          have DX:i<c.size:=Nat.lt_of_lt_of_le nq q3
          have hr:=(q4 i y c[i] hy (by simp)).cN DW
          simp only[Nat.mul_one,Nat.add_zero]
          simp[DX]
          exact hr.mono fun b' o h=>⟨by rw[iB];exact .inl h,rfl⟩)
       rw[LX]at this
       exact .d _ _ _ this
      ·exact .undef _ _
   ·exact h.elim
  ·rename_i b hs
   split at h
   ·rename_i l hl
    cases dD:mD b ts e with
    |false=>rw[dD]at h;exact h.elim
    |true=>
     rw[dD,cond_true]at h
     refine Exists.elim (P0 hI (b:=b) (ts:=ts) (r:=fun _=>.undef) (rm:=.mp l) dD (S:=fun b' o=>g.bx[b]? =some (some b')∧o=0) (fun b' o h=>h.1) (fun g' iB=>⟨fun m Bs v hv=>.undef _ _,fun v hv=>?_⟩)) fun g' bh=>⟨_,g',bh,h,fr⟩
     ·cases hv with
      |m _ _ an hb=>
       obtain⟨q0,es,clock,q1,q2,q3⟩:=hI.boxes b _ an hl hb
       exact .mp _ l an es clock q1 (by rw[iB];exact .inr ⟨hb,rfl⟩) q2 fun i x y hx hy=>⟨(q3 i x y hx hy).1,(q3 i x y hx hy).2.1,(q3 i x y hx hy).2.2.mono fun b' o h=>⟨by rw[iB];exact .inl h,rfl⟩⟩
   ·exact h.elim
  ·exact⟨e,g,hI,h,rfl,Nat.le_refl _,fun _ _=>rfl,.refl _ _⟩
  ·exact h.elim
 |jV t agg sz ts=>
  simp only[fu]at h
  split at h
  ·rename_i b n s0 hs
   split at h
   ·rename_i cs bS
    cases dD:(mD b (t::ts) e&&Nat.beq s0 sz&&Nat.blt 0 sz&&(agg||Nat.beq sz 1))with
    |false=>rw[dD]at h;exact h.elim
    |true=>
     rw[dD,cond_true]at h
     simp only[Bool.and_eq_true]at dD
     obtain⟨⟨⟨h1,h2⟩,h3⟩,h4⟩:=dD
     have h2:=Nat.eq_of_beq_eq_true h2
     subst h2
     obtain⟨ds,nj,h⟩:=aH h
     obtain⟨L,hL,hk⟩:=aH h
     obtain⟨g',bh⟩:=aay hI hs bS h1 (aax h3) (agg:=agg) (fun ha=>by subst ha;exact Nat.eq_of_beq_eq_true (by simpa using h4)) nj hL
     refine⟨_,g',bh,hk,?_⟩
     have LY:fB [.jV t agg s0 ts]=t::ts:=by simp[fB]
     rw[LY]
     exact Fu (ov:=some (t,.bt s0 L)) List.length_set I0 (fun t' x h=>by cases h;simp)
   ·exact h.elim
  ·exact⟨e,g,hI,h,rfl,Nat.le_refl _,fun _ _=>rfl,.refl _ _⟩
  ·exact h.elim
 |emp t=>
  simp only[fu]at h
  split at h
  ·rename_i x hx
   obtain⟨y,hy,hk⟩:=aH h
   have hs:=jQ hI t
   rw[hx]at hs
   exact⟨_,g,hI.JV (.v _ _ _ (X0 hy hs.jT)),hk,FM⟩
  ·exact h.elim
 |jW t=>
  simp only[fu]at h
  split at h
  ·rename_i x hx
   obtain⟨y,hy,hk⟩:=aH h
   obtain⟨g',bh⟩:=aaw hI hx hy
   exact⟨_,g',bh,hk,FM⟩
  ·exact h.elim
 |pC t ts=>
  simp only[fu]at h
  split at h
  ·rename_i c hs
   split at h
   ·rename_i b hb
    split at h
    ·rename_i l hl
     cases dD:(!(Nat.beq b c)&&tJ b ts e.ai 0&&qc b (e.boxes.set c .none))with
     |false=>rw[dD]at h;exact h.elim
     |true=>
      rw[dD,cond_true]at h
      simp only[Bool.and_eq_true,Bool.not_eq_true']at dD
      obtain⟨⟨h1,h2⟩,h3⟩:=dD
      have bg:b≠c:=fun e=>by subst e;simp at h1
      obtain⟨g',bh⟩:=aaz hI hb hl bg h2 h3
      refine⟨_,g',bh,h,?_⟩
      have:fB [.pC t ts]=ts:=by simp[fB]
      rw[this]
      exact Fu (ov:=none) (by simp) (P2 hb) (fun t' x h=>by cases h)
    ·exact h.elim
   ·exact h.elim
  ·exact h.elim
theorem P3{k k':Env→Prop}(hk:∀e,k e→k' e){e:Env}{x:ib}(h:fu e k x):fu e k' x:=by
 cases x with
 |box t Bs=>
  simp only[fu]at h ⊢
  split at h
  ·unfold gP at h ⊢
   split at h
   ·exact⟨h.1,hk _ h.2⟩
   ·exact hk _ h
   ·exact h.elim
  ·exact h.elim
 |qB t ts=>
  simp only[fu]at h ⊢
  split at h
  ·split at h
   ·rename_i cs bS
    cases dD:mD _ ts e with
    |false=>rw[dD]at h;exact h.elim
    |true=>
     rw[dD,cond_true]at h
     obtain⟨ds,nj,hl,h⟩:=aH h
     simp only[nj,ab]
     exact⟨hl,hk _ h⟩
   ·exact h.elim
  ·split at h
   ·rename_i l hl
    cases dD:mD _ ts e with
    |false=>rw[dD]at h;exact h.elim
    |true=>
     rw[dD,cond_true]at h
     exact hk _ h
   ·exact h.elim
  ·exact hk _ h
  ·exact h.elim
 |jV t agg sz ts=>
  simp only[fu]at h ⊢
  split at h
  ·split at h
   ·rename_i cs bS
    cases dD:(mD _ (t::ts) e&&Nat.beq _ sz&&Nat.blt 0 sz&&(agg||Nat.beq sz 1))with
    |false=>rw[dD]at h;exact h.elim
    |true=>
     rw[dD,cond_true]at h
     obtain⟨ds,nj,h⟩:=aH h
     obtain⟨L,hL,h⟩:=aH h
     simp only[cond_true,nj,ab,hL]
     exact hk _ h
   ·exact h.elim
  ·exact hk _ h
  ·exact h.elim
 |emp t=>
  simp only[fu]at h ⊢
  split at h
  ·obtain⟨y,hy,h⟩:=aH h
   simp only[hy,ab]
   exact hk _ h
  ·exact h.elim
 |jW t=>
  simp only[fu]at h ⊢
  split at h
  ·obtain⟨y,hy,h⟩:=aH h
   simp only[hy,ab]
   exact hk _ h
  ·exact h.elim
 |pC t ts=>
  simp only[fu]at h ⊢
  split at h
  ·split at h
   ·rename_i b hb
    split at h
    ·rename_i l hl
     cases dD:(!(Nat.beq b _)&&tJ b ts e.ai 0&&qc b (e.boxes.set _ .none))with
     |false=>rw[dD]at h;exact h.elim
     |true=>
      rw[dD,cond_true]at h
      simp only[cond_true]
      exact hk _ h
    ·exact h.elim
   ·exact h.elim
  ·exact h.elim
theorem X1{k:Env→Prop}{e:Env}{x:ib}(h:fu e k x):fu e (fun e'=>k e'∧ql (fB [x]) e e') x:=by
 cases x with
 |box t Bs=>
  simp only[fu]at h ⊢
  split at h
  ·unfold gP at h ⊢
   split at h
   ·refine⟨h.1,h.2,by simp,by simp,fun u hu=>?_,fun i hi=>?_⟩
    ·simp only[fB,List.mem_singleton]at hu
     simp only
     rw[eD (fun h=>hu h.symm)]
    ·simp only[List.getD_eq_getElem?_getD]
     rw[List.getElem?_append_left hi]
     by_cases h:(e.boxes[i]?).getD .none =.none
     ·exact .inl h
     ·exact .inr ⟨h,rfl⟩
   ·exact⟨h,rfl,Nat.le_refl _,fun _ _=>rfl,.refl _ _⟩
   ·exact h.elim
  ·exact h.elim
 |qB t ts=>
  have fr:∀{b r rm},ql (fB [.qB t ts]) e (tK b r rm ts e):=by
   intro b r rm
   have:fB [.qB t ts]=ts:=by simp[fB]
   rw[this];exact P1
  simp only[fu]at h ⊢
  split at h
  ·split at h
   ·rename_i cs bS
    cases dD:mD _ ts e with
    |false=>rw[dD]at h;exact h.elim
    |true=>
     rw[dD,cond_true]at h
     obtain⟨ds,nj,hl,h⟩:=aH h
     simp only[nj,ab]
     exact⟨hl,h,fr⟩
   ·exact h.elim
  ·split at h
   ·rename_i l hl
    cases dD:mD _ ts e with
    |false=>rw[dD]at h;exact h.elim
    |true=>
     rw[dD,cond_true]at h
     exact⟨h,fr⟩
   ·exact h.elim
  ·exact⟨h,rfl,Nat.le_refl _,fun _ _=>rfl,.refl _ _⟩
  ·exact h.elim
 |jV t agg sz ts=>
  simp only[fu]at h ⊢
  split at h
  ·split at h
   ·rename_i cs bS
    cases dD:(mD _ (t::ts) e&&Nat.beq _ sz&&Nat.blt 0 sz&&(agg||Nat.beq sz 1))with
    |false=>rw[dD]at h;exact h.elim
    |true=>
     rw[dD,cond_true]at h
     obtain⟨ds,nj,h⟩:=aH h
     obtain⟨L,hL,h⟩:=aH h
     simp only[cond_true,nj,ab,hL]
     refine⟨h,?_⟩
     have LY:fB [.jV t agg sz ts]=t::ts:=by simp[fB]
     rw[LY]
     exact Fu (ov:=some (t,.bt sz L)) List.length_set I0 (fun t' x h=>by cases h;simp)
   ·exact h.elim
  ·exact⟨h,rfl,Nat.le_refl _,fun _ _=>rfl,.refl _ _⟩
  ·exact h.elim
 |emp t=>
  simp only[fu]at h ⊢
  split at h
  ·obtain⟨y,hy,h⟩:=aH h
   simp only[hy,ab]
   exact⟨h,FM⟩
  ·exact h.elim
 |jW t=>
  simp only[fu]at h ⊢
  split at h
  ·obtain⟨y,hy,h⟩:=aH h
   simp only[hy,ab]
   exact⟨h,FM⟩
  ·exact h.elim
 |pC t ts=>
  simp only[fu]at h ⊢
  split at h
  ·split at h
   ·rename_i b hb
    split at h
    ·rename_i l hl
     cases dD:(!(Nat.beq b _)&&tJ b ts e.ai 0&&qc b (e.boxes.set _ .none))with
     |false=>rw[dD]at h;exact h.elim
     |true=>
      rw[dD,cond_true]at h
      simp only[cond_true]
      exact⟨h,by
       have:fB [.pC t ts]=ts:=by simp[fB]
       rw[this]
       exact Fu (ov:=none) (by simp) (P2 hb) (fun t' x h=>by cases h)⟩
    ·exact h.elim
   ·exact h.elim
  ·exact h.elim
theorem X2(x:ib)(l:List ib):fB (x::l)=fB [x]++fB l:=by cases x<;>simp[fB]
theorem ql.trans{ws vs:List Nat}{e e1 e2:Env}(h1:ql ws e e1)(h2:ql vs e1 e2):ql (ws++vs) e e2:=
 ⟨h2.1.trans h1.1,Nat.le_trans h1.2.1 h2.2.1,fun t ht=>(h2.2.2.1 t fun h=>ht (List.mem_append_right _ h)).trans (h1.2.2.1 t fun h=>ht (List.mem_append_left _ h)),h1.2.2.2.trans h1.2.1 h2.2.2.2⟩
theorem yd{k k':Env→Prop}(hk:∀e,k e→k' e):∀{l:List ib}{e:Env},gO l e k→gO l e k'
 |[],_,h=>hk _ h
 |x::l,e,h=>P3 (fun e'=>yd hk (l:=l)) (show fu e (fun e'=>gO l e' k) x from h)
theorem Ih{k:Env→Prop}:∀{l:List ib}{e:Env},gO l e k→gO l e fun e'=>k e'∧ql (fB l) e e'
 |[],e,h=>⟨h,rfl,Nat.le_refl _,fun _ _=>rfl,.refl _ _⟩
 |x::l,e,h=>P3 (fun _⟨h1,h2⟩=>yd (fun e2⟨h3,h4⟩=>⟨h3,by rw[X2];exact h2.trans h4⟩) (Ih (l:=l) h1)) (X1 (show fu e (fun e'=>gO l e' k) x from h))
theorem As:∀{l:List ib}{e:Env}{g:Gh}{k:Env→Prop},Inv gl w0 aq e a w g→gO l e k→∃e' g',Inv gl w0 aq e' a w g'∧k e'
 |[],e,g,k,hI,h=>⟨e,g,hI,h⟩
 |x::l,e,g,k,hI,h=>by
  obtain⟨e',g',bh,h',_⟩:=aaA hI (show fu e (fun e'=>gO l e' k) x from h)
  exact As bh h'
end
end Go.Proofs.Ytimbllcalipehaa.Ab
set_option linter.unusedVariables false
set_option linter.unusedSimpArgs false
namespace Go.Proofs.Ytimbllcalipehaa.Ab
open Go Go.RowKit
section
variable{P:Program}{gl:Nat→Option D}{w0:World}{aq:S0}{e:Env}{a:Act}{w:World}{g:Gh}
def m9(P:Program):List Oper→Act→World→(Act→World→Prop)→Prop
 |[],a,w,R=>R a w
 |o::l,a,w,R=>o.guard=none∧(∀c,o.op≠.defer c)∧∀(next:Act→World→Prop)(Q:Exit→Act→World→Prop),(∀v w1,(a.put o.dst v).defers =[]→m9 P l (a.put o.dst v) w1 R→next (a.put o.dst v) w1)→o.wp P a w next Q
theorem m9.val{o:Oper}{l:List Oper}{a:Act}{w:World}{R:Act→World→Prop}{v:Value}{w1:World}(hg:o.guard=none)(mI:∀c,o.op≠.defer c)(hd:a.defers=[])(hr:(execOp a.eval o).run P w=.ok (.value v) w1)(h:m9 P l (a.put o.dst v) w1 R):m9 P (o::l) a w R:=
 ⟨hg,mI,fun next Q hn=>by unfold Oper.wp;rw[hr];exact hn v w1 ((put_defers a o.dst v).trans hd) h⟩
theorem Za(x:SV):Ab.aa (Ab.aa x)=Ab.aa x:=by cases x<;>rfl
theorem aZ.QK{St:Nat→Nat→Prop}{sz:Nat}{L:List D}{v:Value}(h:aZ w St (.sl .nil sz L) v):v=.slice none 0 0∧L=[]:=by
 cases h;exact⟨rfl,rfl⟩
theorem uC{a:Act}{d t:Nat}{v:Value}(h:t≠d):(a.put (some d) v).tmps.getD t undef=a.tmps.getD t undef:=by
 simp only[Act.put,Array.getD_eq_getD_getElem?]
 rw[Array.getElem?_setIfInBounds_ne (fun hh=>h hh.symm)]
theorem Inv.aaB(hI:Inv gl w0 aq e a w g){t:Nat}{s n:Nat}{L L':List D}{gg cap:Nat}(ht:t<e.ai.length)(hs:eN w0.heap.size w g (.s t 0) gg 0 (cap*s)){cur oC:Array Value}{te:TypeId}(hc:w.heap[gg]? =some (.cells cur te (0,0)))
  (aM:oC.size=cur.size)(kI:∀(w':World)(St:Nat→Nat→Prop),w'.heap[gg]? =some (.cells oC te (0,0))→eN w0.heap.size w' g (.s t 0) gg 0 (cap*s)→(∀d v,aZ w g.St d v→aZ w' g.St d v)→aJ w' g.St w0.heap.size (fe w0.heap.size w' g t 0) (.bt s L') (a.tmps.getD t undef)):
  Inv gl w0 aq ⟨e.ai.set t (.v (.bt s L')),e.boxes⟩ a (w.setRow gg oC) g:=by
 obtain⟨o1,o2,o3,⟨cu,ty,o4,qE⟩,o5⟩:=hs
 rw[hc]at o4;cases o4
 have hn:=setRow_heap w gg cur oC te (0,0) hc
 have eb:=fun k(hk:k≠gg)=>setRow_other w gg k oC hk
 have ad9:∀b' o,g.St b' o→b'≠gg:=fun b' o h he=>o5 o (Nat.zero_le _) (he▸h)
 have hX:Ext w0.heap.size w g (w.setRow gg oC) g (fun p=>p=.s t 0):=by
  refine⟨fun D ob gp ez h=>⟨(eb D (fun he=>by subst he;rw[o1]at ez;cases ez)).trans h,gp,ez,fun _ h=>h⟩,fun b' o h=>⟨h,.ri (eb b' (ad9 b' o h))⟩,fun b' o h=>World.cell?_of_block (eb b' (by omega)),fun _ _ h=>h,fun p b' a' c' hp bN=>?_,fun b' c' rU mf ei=>⟨c',rU,(eb b' (fun he=>o3 (he▸mf))).trans ei,rfl⟩⟩
  obtain⟨p1,p2,p3,⟨cu,t',p4,p4'⟩,p5⟩:=bN
  have bg:b'≠gg:=fun he=>by subst he;rw[o1]at p1;cases p1;exact hp rfl
  exact⟨⟨p1,p2,p3,⟨cu,t',(eb b' bg).trans p4,p4'⟩,p5⟩,fun _=>eb b' bg⟩
 have aea:eN w0.heap.size (w.setRow gg oC) g (.s t 0) gg 0 (cap*s):=⟨o1,o2,o3,⟨oC,te,hn,aM.trans qE⟩,o5⟩
 have dP:Below w0.heap.size w (w.setRow gg oC):=⟨rfl,rfl,rfl,by simp[World.setRow],fun k hk=>eb k (by omega)⟩
 have:=hI.stepG (dst:=none) (s:=.t []) (v:=undef) (ai:=e.ai.set t (.v (.bt s L'))) (aA:=e.boxes) hX dP (by simp) (fun i x hx _=>?_) (fun d hd=>by cases hd) hI.ff
  (fun b' bx an h1 h2=>hX.box (fun j hh=>by cases hh) (eb an (fun he=>o3 (by rw[←he];exact List.mem_of_getElem? h2))) (hI.boxes b' bx an h1 h2)) hI.nodup (fun b' mf=>by have:=hI.dj b' mf;exact⟨this.1,by simpa[World.setRow]using this.2⟩) (fun b' o h=>by have:=hI.cG b' o h;exact⟨this.1,this.2.1,by simpa[World.setRow]using this.2.2⟩)
 ·exact this
 ·rw[List.getElem?_set]at hx
  split at hx
  ·rename_i gW
   subst gW
   simp only[ht,↓reduceIte,Option.some.injEq]at hx
   subst hx
   exact .v _ _ _ (kI _ (fun _ _=>False) hn aea (fun d v hr=>hX.A4 hr))
  ·rename_i gW
   refine hX.slot (fun j=>?_) (hI.ai i x hx)
   intro hh;cases hh;exact gW rfl
theorem Inv.SI(hI:Inv gl w0 aq e a w g){t:Nat}{y:SV}(h:aJ w g.St w0.heap.size (fe w0.heap.size w g t 0) y (a.tmps.getD t undef)):Inv gl w0 aq ⟨e.ai.set t (.v y),e.boxes⟩ a w g:=by
 refine⟨hI.below,by simpa using hI.size,fun i s hs=>?_,hI.ff,hI.boxes,hI.nodup,hI.fY,hI.cG,hI.dj,hI.ke,hI.defers,hI.eR,hI.cls,hI.jH⟩
 rw[List.getElem?_set]at hs
 split at hs
 ·rename_i gW
  subst gW
  split at hs
  ·cases hs;exact .v _ _ _ h
  ·cases hs
 ·exact hI.ai i s hs
theorem X3(hI:Inv gl w0 aq e a w g){t:Nat}{ty:TypeId}{x y:SV}(hx:e.ai.getD t (.v .undef)=.v x)(hy:vp P ty x=some y)(rU:TypeId):
  ∃w',(Builtin.clear_ #[ty] rU #[a.tmps.getD t undef]).run P w=.ok (.tuple #[]) w'∧Inv gl w0 aq ⟨e.ai.set t (.v y),e.boxes⟩ a w' g:=by
 have hr:aJ w g.St w0.heap.size (fe w0.heap.size w g t 0) x (a.tmps.getD t undef):=by
  have:=jQ hI t
  rw[hx]at this
  exact this.jT
 unfold vp at hy
 split at hy
 ·rename_i e' he
  have hu:=B5 he
  split at hy
  ·rename_i z aM hz
   split at hy
   ·rename_i s L
    cases hy
    obtain⟨hv,hL⟩:=hr.data.QK
    subst hL
    refine⟨w,?_,hI.SI (by rw[hv];exact .d _ _ _ (.iJ _))⟩
    rw[hv]
    simp[Builtin.clear_,run_underlying hu]
   ·rename_i s L
    split at hy
    ·rename_i gE
     subst gE
     cases hy
     have DQ:t<e.ai.length:=by
      rcases Nat.lt_or_ge t e.ai.length with h|h
      ·exact h
      ·rw[List.getD_eq_getElem?_getD,List.getElem?_eq_none h]at hx;cases hx
     generalize hv:a.tmps.getD t undef=v at hr
     cases hr with
     |bt _ _ _ gg cap vs bF hm SJ hf ho aO hc=>
      rcases Nat.eq_zero_or_pos L.length with h0|h0
      ·have:L=[]:=List.length_eq_zero_iff.1 h0
       subst this
       refine⟨w,?_,?_⟩
       ·rw[List.length_nil]
        simp[Builtin.clear_,run_underlying hu]
       ·refine hI.SI ?_
        rw[hv]
        exact .bt _ _ _ gg cap vs bF hm SJ hf ho aO hc
      ·obtain⟨zv,ui,kP⟩:=O6 hz
       obtain⟨i,zv',hzi,hzz,zt,Tu,agu⟩:=Pc hz
       have wZ:zv.oneCell'=true:=(kP w (fun _ _=>False)).rl zt
       have qa:zv.cells= #[zv]:=by
        have hh:=ui w
        unfold tt at hz
        rw[hzi]at hz
        simp only at hz
        cases zv<;>first|rfl|simp[Value.oneCell']at wZ
       obtain⟨cur,te,o4,qE⟩:=ho.2.2.2.1
       have nk:(Builtin.zeroCells zv.cells L.length).toList =List.replicate L.length zv:=by
        rw[qa]
        apply List.ext_getElem?
        intro i
        simp only[Builtin.zeroCells,Array.toList_map,List.getElem?_map,Array.getElem?_toList,List.getElem?_replicate]
        by_cases hi:i<L.length
        ·simp[hi,Nat.mod_one]
        ·simp[hi]
       have aR:=run_storeCells_at P gg 0 te (List.replicate L.length zv) 0 cur w o4 (by simp;rw[qE];omega) (fun v gA=>by rw[(List.mem_replicate.1 gA).2];exact wZ)
       simp only[Nat.add_zero,Nat.zero_add,List.length_replicate,List.take_zero,List.nil_append]at aR
       refine⟨w.setRow gg (List.replicate L.length zv++cur.toList.drop L.length).toArray,?_,?_⟩
       ·have bg:L.length≠0:=by omega
        obtain⟨m,mf⟩:=Nat.exists_eq_succ_of_ne_zero bg
        have SL:=nk
        rw[mf]at SL aR ⊢
        simp only[Builtin.clear_,List.getElem?_toArray,List.getElem?_cons_zero,Sem.run_bind,run_underlying hu,Result.andThen_ok,ui,SL,aR,Sem.run_pure]
       ·have:=hI.aaB (t:=t) (s:=1) (n:=0) (L:=L) (L':=L.map fun _=>z) (gg:=gg) (cap:=cap) DQ ho o4 (oC:=(List.replicate L.length zv++cur.toList.drop L.length).toArray) (by simp;omega) (fun w' St h1 h2 h3=>?_)
        ·exact this
        ·rw[hv]
         have jF:∀i,i<L.length→(List.replicate L.length zv++cur.toList.drop L.length).toArray[i]? =some zv:=fun i hi=>by
          simp only[List.getElem?_toArray]
          rw[List.getElem?_append_left (by simpa using hi)]
          simp[hi]
         have hlen:(L.map fun _=>z).length =L.length:=by simp
         rw[←hlen]
         refine .bt _ 1 _ gg cap (fun _=>zv) (by simpa using bF) hm (fun x hx=>?_) (fun x hx c fC=>?_) h2 (fun o bN=>?_) (fun i x j c hx gU=>?_)
         ·obtain⟨_,_,rfl⟩:=List.mem_map.1 hx
          rw[D.wI zt];rfl
         ·obtain⟨_,_,rfl⟩:=List.mem_map.1 hx
          rw[D.wI zt]at fC
          simp at fC;subst fC;exact zt
         ·have DY:o<L.length:=by simpa using bN
          rw[show o=0+o by omega,cell_of_row w' gg (0+o) _ te (0,0) h1]
          rw[Nat.zero_add]
          exact jF o DY
         ·obtain⟨z',_,gq⟩:=List.mem_map.1 (List.mem_of_getElem? hx)
          subst gq
          rw[D.wI zt]at gU
          cases j with
          |zero=>simp at gU;subst gU;exact kP _ _
          |succ j=>simp at gU
    ·cases hy
   ·cases hy
  ·cases hy
 ·cases hy
inductive yA(P:Program):Spec→List Oper→Prop
 |vQ (t d:Nat) (ty:TypeId) (o1 o2:Oper) (c:Call) (h1:o1.op=.move (.tmp t)) (d1:o1.dst=some d) (g1:o1.guard=none) (h2:o2.op=.call c) (d2:o2.dst=none) (g2:o2.guard=none) (hc:c.callee=.builtin .clear) (ha:c.args.toList=[.tmp d]) (ht:c.argTypes.toList=[ty]) (bg:t≠d):
   yA P (.vQ t d ty) [o1,o2]
 |cut (t d1 d2:Nat) (ty:TypeId) (o1 o2 o3:Oper) (h1:o1.op=.move (.tmp t)) (e1:o1.dst=some d1) (g1:o1.guard=none) (h2:o2.op=.slice ty (.tmp d1) none (some (.const (.int .i64 0))) none) (e2:o2.dst=some d2) (g2:o2.guard=none)
   (h3:o3.op=.assign (.tmp d2)) (e3:o3.dst=some t) (g3:o3.guard=none) (n1:t≠d1) (n2:t≠d2) (n3:d1≠d2):yA P (.cut t d1 d2 ty) [o1,o2,o3]
 |vo (t d:Nat) (f:FuncId) (u:Nat) (o1 o2:Oper) (c:Call) (h1:o1.op=.move (.tmp t)) (d1:o1.dst=some d) (g1:o1.guard=none) (h2:o2.op=.call c) (d2:o2.dst=some u) (g2:o2.guard=none) (hc:c.callee=.value (.func f)) (ha:c.args.toList=[.tmp d]) (h0:arity P o2.type=0)
   (n1:t≠d) (n2:u≠d) (n3:u≠t):yA P (.vo t d f u) [o1,o2]
 |u6 (t d t2 e2:Nat) (f:FuncId) (u:Nat) (o1 o2 o3:Oper) (c:Call) (h1:o1.op=.move (.tmp t)) (d1:o1.dst=some d) (g1:o1.guard=none) (h2:o2.op=.move (.tmp t2)) (d2:o2.dst=some e2) (g2:o2.guard=none) (h3:o3.op=.call c) (d3:o3.dst=some u) (g3:o3.guard=none) (hc:c.callee=.value (.func f)) (ha:c.args.toList=[.tmp d,.tmp e2]) (h0:arity P o3.type=0)
   (n1:t≠d) (n2:u≠d) (n3:u≠t) (n4:e2≠d) (n5:e2≠t) (n6:t2≠d):yA P (.u6 t d t2 e2 f u) [o1,o2,o3]
theorem HV{draw:Bool}{ops:List Oper}{s:Spec}(h:uV P draw ops=some s):draw=false∧yA P s ops:=by
 unfold uV at h
 cases draw with
 |true=>cases h
 |false=>
  refine⟨rfl,?_⟩
  simp only[cond_false]at h
  split at h
  ·rename_i o1 o2
   split at h
   ·rename_i t d c h1 e1 g1 h2 e2 g2
    split at h
    ·rename_i d' ty hc ha ht
     cases hb:(Nat.beq d d'&& !(Nat.beq t d))with
     |false=>rw[hb]at h;cases h
     |true=>
      rw[hb]at h
      cases h
      simp only[Bool.and_eq_true,Bool.not_eq_true']at hb
      have hd:=Nat.eq_of_beq_eq_true hb.1
      subst hd
      exact .vQ t d ty o1 o2 c h1 e1 g1 h2 e2 g2 hc ha ht (Nat.ne_of_beq_eq_false hb.2)
    ·cases h
   ·rename_i t d c u h1 e1 g1 h2 e2 g2
    split at h
    ·rename_i f d' hc ha
     cases hb:(Nat.beq (arity P o2.type) 0&&(Nat.beq d d'&& !(Nat.beq t d)&& !(Nat.beq u d)&& !(Nat.beq u t)))with
     |false=>rw[hb]at h;cases h
     |true=>
      rw[hb]at h
      cases h
      simp only[Bool.and_eq_true,Bool.not_eq_true']at hb
      obtain⟨b0,⟨⟨b1,b2⟩,b3⟩,b4⟩:=hb
      have hd:=Nat.eq_of_beq_eq_true b1
      subst hd
      exact .vo t d f u o1 o2 c h1 e1 g1 h2 e2 g2 hc ha (Nat.eq_of_beq_eq_true b0) (Nat.ne_of_beq_eq_false b2) (Nat.ne_of_beq_eq_false b3) (Nat.ne_of_beq_eq_false b4)
    ·cases h
   ·cases h
  ·rename_i o1 o2 o3
   split at h
   ·rename_i t d1 ty Lp d2 zj t' h1 e1 g1 h2 e2 g2 h3 e3 g3
    cases hb:(Nat.beq d1 Lp&&Nat.beq d2 zj&&Nat.beq t t'&& !(Nat.beq t d1)&& !(Nat.beq t d2)&& !(Nat.beq d1 d2))with
    |false=>rw[hb]at h;cases h
    |true=>
     rw[hb]at h
     cases h
     simp only[Bool.and_eq_true,Bool.not_eq_true']at hb
     obtain⟨⟨⟨⟨⟨b1,b2⟩,b3⟩,b4⟩,b5⟩,b6⟩:=hb
     have DZ:=Nat.eq_of_beq_eq_true b1
     have hd2:=Nat.eq_of_beq_eq_true b2
     have hd3:=Nat.eq_of_beq_eq_true b3
     subst DZ hd2 hd3
     exact .cut t d1 d2 ty o1 o2 o3 h1 e1 g1 h2 e2 g2 h3 e3 g3 (Nat.ne_of_beq_eq_false b4) (Nat.ne_of_beq_eq_false b5) (Nat.ne_of_beq_eq_false b6)
   ·rename_i t d t2 d2 c u h1 e1 g1 h2 e2 g2 h3 e3 g3
    split at h
    ·rename_i f d' zj hc ha
     cases hb:(Nat.beq (arity P o3.type) 0&&(Nat.beq d d'&&Nat.beq d2 zj&& !(Nat.beq t d)&& !(Nat.beq u d)&& !(Nat.beq u t)&& !(Nat.beq d2 d)&& !(Nat.beq d2 t)&& !(Nat.beq t2 d)))with
     |false=>rw[hb]at h;cases h
     |true=>
      rw[hb]at h
      cases h
      simp only[Bool.and_eq_true,Bool.not_eq_true']at hb
      obtain⟨b0,⟨⟨⟨⟨⟨⟨b1,b1'⟩,b2⟩,b3⟩,b4⟩,b5⟩,b6⟩,b7⟩:=hb
      have hd:=Nat.eq_of_beq_eq_true b1
      have jm:=Nat.eq_of_beq_eq_true b1'
      subst hd jm
      exact .u6 t d t2 d2 f u o1 o2 o3 c h1 e1 g1 h2 e2 g2 h3 e3 g3 hc ha (Nat.eq_of_beq_eq_true b0) (Nat.ne_of_beq_eq_false b2) (Nat.ne_of_beq_eq_false b3) (Nat.ne_of_beq_eq_false b4) (Nat.ne_of_beq_eq_false b5) (Nat.ne_of_beq_eq_false b6) (Nat.ne_of_beq_eq_false b7)
    ·cases h
   ·cases h
  ·cases h
theorem Cf{a:Act}{d:Nat}{v:Value}(h:d<a.tmps.size):(a.put (some d) v).eval (.tmp d)=v:=by
 show(a.put (some d) v).tmps.getD d undef=v
 rw[IQ a (some d) v d h,if_pos rfl]
theorem pV{b:Bool}{A:Prop}(h:cond b A False):b=true∧A:=by cases b;exact h.elim;exact⟨rfl,h⟩
theorem aaC{St:Nat→Nat→Prop}{base:Nat}{O:Nat→Nat→Nat→Prop}{ty:TypeId}{x y:SV}{v:Value}(hr:aJ w St base O x v)(hy:vq P ty x=some y):
  ∃v2,(Instr.sliceAt ty v none (some (.int .i64 0)) none).run P w=.ok v2 w∧aJ w St base O y v2:=by
 unfold vq at hy
 split at hy
 ·rename_i e' he
  have hu:=B5 he
  split at hy
  ·rename_i sz aM
   split at hy
   ·rename_i s L
    cases hy
    obtain⟨hv,hL⟩:=hr.data.QK
    subst hv
    refine⟨.slice none 0 0,?_,.d _ _ _ (.iJ _)⟩
    simp[Instr.sliceAt,run_underlying hu,Instr.slice,Instr.sliceBounds,Instr.sliceBound,asIntOf,jP aM]
   ·rename_i s L
    split at hy
    ·rename_i hs
     subst hs
     cases hy
     cases hr with
     |bt _ _ _ gg cap vs bF hm SJ hf ho aO hc=>
      refine⟨.slice (some ⟨gg,0,none⟩) 0 cap,?_,?_⟩
      ·have:=pY gg 0 0
       simp[Instr.sliceAt,run_underlying hu,Instr.slice,Instr.sliceBounds,Instr.sliceBound,asIntOf,jP aM,this]
      ·exact .bt O s [] gg cap vs (Nat.zero_le _) hm (fun x hx=>by cases hx) (fun x hx=>by cases hx) ho (fun o bN=>by simp at bN) (fun i x j c hx=>by simp at hx)
    ·cases hy
   ·cases hy
  ·cases hy
 ·cases hy
theorem I1(hI:Inv gl w0 aq e a w g){t d:Nat}:Inv gl w0 aq ⟨(e.ai.set t (e.ai.getD t (.v .undef)).aa).set d (e.ai.getD t (.v .undef)),e.boxes⟩ (a.put (some d) (a.tmps.getD t undef)) w (g.lB t (fun j=>.s d j)):=by
 have:=hI.hand (Ix e t (some d)) (Ext.lB t (fun j=>.s d j) _ (fun j=>⟨t,j,rfl,.inl rfl⟩)) (Below.refl _ _) (s:=e.ai.getD t (.v .undef)) (v:=a.tmps.getD t undef) (dst:=some d) (g':=g.lB t (fun j=>.s d j)) (fun d' hd=>?_) rfl (fun _ _=>rfl) (fun b o' aR=>hI.cG b o' aR)
 ·exact this
 ·cases hd
  exact(jQ hI t).mono (fun _ _ h=>⟨h,.refl _ _ _⟩) (fun _ _ _=>rfl) (fun _ _ h=>h) (.refl _) (fun j b a' c ho=>⟨Jp (q:=fun j=>.s d j) ho,.refl _ _ _⟩)
theorem Zb{a:Act}{t:Nat}{v:Value}(h:v=a.tmps.getD t undef):a.put (some t) v=a:=by
 subst h
 simp only[Act.put]
 have:a.tmps.setIfInBounds t (a.tmps.getD t undef)=a.tmps:=by
  apply Array.ext_getElem?
  intro i
  rw[Array.getElem?_setIfInBounds]
  split
  ·rename_i h
   subst h
   split
   ·rename_i hl;simp[hl]
   ·rename_i hl;simp[Array.getElem?_eq_none (by omega:a.tmps.size≤t)]
  ·rfl
 rw[this]
theorem P4(hI:Inv gl w0 aq e a w g){t d:Nat}{bk:SV}(hd:e.ai.getD d (.v .undef)=.v bk)(he:a.tmps.getD d undef=a.tmps.getD t undef):
  Inv gl w0 aq ⟨(e.ai.set d (.v (Ab.aa bk))).set t (.v bk),e.boxes⟩ a w (g.lB d (fun j=>.s t j)):=by
 have h1:=I1 hI (t:=d) (d:=t)
 rw[hd,Zb he]at h1
 exact h1
theorem P5(hI:Inv gl w0 aq e a w g){ops:List Oper}{s:Spec}{K:Env→Prop}(hs:yA P s ops)(h:iK P (aD P gl) e K s):m9 P ops a w (fun a' w'=>∃e' g',Inv gl w0 aq e' a' w' g'∧K e'):=by
 cases hs with
 |vQ t d ty o1 o2 c h1 d1 g1 h2 d2 g2 hc ha ht bg=>
  simp only[iK]at h
  split at h
  ·rename_i x hx
   obtain⟨aK,h⟩:=pV h
   have aK:=Nat.lt_of_succ_le (Nat.le_of_ble_eq_true aK)
   obtain⟨y,hy,hk⟩:=aH h
   let v:=a.tmps.getD t undef
   have cU:Inv gl w0 aq ⟨e.ai.set d (.v .undef),e.boxes⟩ (a.put (some d) v) w g:=by
    have:=hI.value (dst:=some d) (s:=.v .undef) (v:=v) (.v _ _ _ (.undef _ _))
    exact this
   have iA:(e.ai.set d (.v .undef)).getD t (.v .undef)=.v x:=by
    rw[List.getD_eq_getElem?_getD,List.getElem?_set_ne (fun hh=>bg hh.symm),←List.getD_eq_getElem?_getD];exact hx
   obtain⟨w',ba,bO⟩:=X3 (P:=P) cU iA hy o2.type
   have mg:(a.put (some d) v).tmps.getD t undef=v:=uC bg
   rw[mg]at ba
   have hdv:(a.put (some d) v).tmps.getD d undef=v:=by
    exact Cf (by rw[hI.size];exact aK)
   refine m9.val (v:=v) (w1:=w) g1 (fun c hc=>by rw[h1]at hc;cases hc) hI.defers (by simp[execOp,h1,Act.eval,v]) (m9.val (v:=.tuple #[]) (w1:=w') g2 (fun c hc=>by rw[h2]at hc;cases hc) (by rw[d1];exact cU.defers) ?_ ⟨_,g,?_,hk⟩)
   ·rw[d1]
    have e1:c.args.map (a.put (some d) v).eval = #[v]:=by
     apply Array.ext'
     rw[Array.toList_map,ha]
     show [(a.put (some d) v).tmps.getD d undef]=_
     rw[hdv]
    have e2:c.argTypes= #[ty]:=by apply Array.ext';rw[ht]
    simp[execOp,h2,resolve,hc,invoke,builtin,e1,e2,ba]
   ·rw[d1,d2]
    exact bO
  ·exact h.elim
 |cut t d1 d2 ty o1 o2 o3 h1 e1 g1 h2 e2 g2 h3 e3 g3 n1 n2 n3=>
  simp only[iK]at h
  split at h
  ·rename_i x hx
   obtain⟨aK,h⟩:=pV h
   simp only[Bool.and_eq_true]at aK
   have Gl:=Nat.le_of_ble_eq_true aK.1
   have Dn:=Nat.le_of_ble_eq_true aK.2
   obtain⟨y,hy,hk⟩:=aH h
   let v:=a.tmps.getD t undef
   have hr:aJ w g.St w0.heap.size (fe w0.heap.size w g t 0) x v:=by
    have:=jQ hI t
    rw[hx]at this
    exact this.jT
   obtain⟨v2,ba,bc⟩:=aaC (P:=P) hr hy
   have cU:Inv gl w0 aq ⟨e.ai.set d1 (.v .undef),e.boxes⟩ (a.put (some d1) v) w g:=hI.value (dst:=some d1) (s:=.v .undef) (v:=v) (.v _ _ _ (.undef _ _))
   have bO:Inv gl w0 aq ⟨(e.ai.set d1 (.v .undef)).set d2 (.v .undef),e.boxes⟩ ((a.put (some d1) v).put (some d2) v2) w g:=cU.value (dst:=some d2) (s:=.v .undef) (v:=v2) (.v _ _ _ (.undef _ _))
   have eL:Inv gl w0 aq ⟨((e.ai.set d1 (.v .undef)).set d2 (.v .undef)).set t (.v y),e.boxes⟩ (((a.put (some d1) v).put (some d2) v2).put (some t) v2) w g:=by
    have:=bO.stepG (dst:=some t) (s:=.v y) (v:=v2) (w':=w) (g':=g) (lost:=fun _=>False) (ai:=(e.ai.set d1 (.v .undef)).set d2 (.v .undef)) (aA:=e.boxes) (Ext.refl _ _ _) (Below.refl _ _) rfl (fun i x hx _=>bO.ai i x hx) (fun d hd=>by cases hd;exact .v _ _ _ bc) bO.ff bO.boxes bO.nodup bO.dj bO.cG
    exact this
   refine m9.val (v:=v) (w1:=w) g1 (fun c hc=>by rw[h1]at hc;cases hc) hI.defers (by simp[execOp,h1,Act.eval,v]) (m9.val (v:=v2) (w1:=w) g2 (fun c hc=>by rw[h2]at hc;cases hc) (by rw[e1];exact cU.defers) ?_ (m9.val (v:=v2) (w1:=w) g3 (fun c hc=>by rw[h3]at hc;cases hc) (by rw[e1,e2];exact bO.defers) ?_ ⟨_,g,?_,hk⟩))
   ·rw[e1]
    have:(a.put (some d1) v).eval (.tmp d1)=v:=Cf (by rw[hI.size];exact Gl)
    simp only[execOp,h2,this,Option.map_some,Option.map_none]
    have hz:(a.put (some d1) v).eval (.const (.int .i64 0))=.int .i64 0:=rfl
    rw[hz]
    simp[ba]
   ·rw[e1,e2]
    have:((a.put (some d1) v).put (some d2) v2).eval (.tmp d2)=v2:=Cf (by rw[Ce,hI.size];exact Dn)
    simp[execOp,h3,this]
   ·rw[e1,e2,e3];exact eL
  ·exact h.elim
 |vo t d f u o1 o2 c h1 d1 g1 h2 d2 g2 hc ha h0 n1 n2 n3=>
  simp only[iK]at h
  split at h
  ·rename_i x hx
   obtain⟨aK,bk,hC,D0,hk⟩:=pV h
   have aK:=Nat.lt_of_succ_le (Nat.le_of_ble_eq_true aK)
   let v:=a.tmps.getD t undef
   have cU:Inv gl w0 aq ⟨(e.ai.set t (.v (Ab.aa x))).set d (.v x),e.boxes⟩ (a.put (some d) v) w (g.lB t (fun j=>.s d j)):=by
    have:=I1 hI (t:=t) (d:=d)
    rw[hx]at this
    exact this
   refine m9.val (v:=v) (w1:=w) g1 (fun c hc=>by rw[h1]at hc;cases hc) hI.defers (by simp[execOp,h1,Act.eval,v]) ⟨g2,(fun c hc=>by rw[h2]at hc;cases hc),fun next Q hn=>?_⟩
   rw[d1]at hn ⊢
   have zC:((e.ai.set t (.v (Ab.aa x))).set d (.v x)).getD d (.v .undef)=.v x:=by
    rw[List.getD_eq_getElem?_getD,List.getElem?_set_self (by simpa using aK)];rfl
   refine Iw cU h2 hc (t:=d) (p:=0) (by rw[ha];rfl) (f':=f) rfl (y:=x) zC (n:=0) (k:=fun e'=>e'=⟨cq (((e.ai.set t (.v (Ab.aa x))).set d (.v x)).set d (.v bk)) o2.dst (.t []),e.boxes⟩) ⟨bk,?_,D0,rfl⟩ next Q fun e' v' w' g' bh Bz=>?_
   ·rw[ha];exact hC
   ·subst Bz
    refine hn v' w' (by rw[put_defers];exact cU.defers) ⟨_,_,P4 bh (t:=t) (d:=d) (bk:=bk) ?_ ?_,?_⟩
    ·rw[d2]
     show((((e.ai.set t (.v (Ab.aa x))).set d (.v x)).set d (.v bk)).set u (.t [])).getD d (.v .undef)=.v bk
     rw[eD n2,List.getD_eq_getElem?_getD,List.getElem?_set_self (by simpa using aK)];rfl
    ·rw[d2,uC (fun hh=>n2 hh.symm),uC (fun hh=>n3 hh.symm),uC n1]
     exact Cf (by rw[hI.size];exact aK)
    ·rw[d2];exact hk
  ·exact h.elim
 |u6 t d t2 e2 f u o1 o2 o3 c h1 d1 g1 h2 d2 g2 h3 d3 g3 hc ha h0 n1 n2 n3 n4 n5 n6=>
  simp only[iK]at h
  split at h
  ·rename_i x hx
   obtain⟨aK,bk,hC,D0,hk⟩:=pV h
   simp only[Bool.and_eq_true,Bool.not_eq_true']at aK
   obtain⟨⟨aK,Dn⟩,n7⟩:=aK
   have aK:=Nat.lt_of_succ_le (Nat.le_of_ble_eq_true aK)
   have Dn:=Nat.lt_of_succ_le (Nat.le_of_ble_eq_true Dn)
   have n7:=Nat.ne_of_beq_eq_false n7
   let v:=a.tmps.getD t undef
   have cU:Inv gl w0 aq ⟨(e.ai.set t (.v (Ab.aa x))).set d (.v x),e.boxes⟩ (a.put (some d) v) w (g.lB t (fun j=>.s d j)):=by
    have:=I1 hI (t:=t) (d:=d)
    rw[hx]at this
    exact this
   have oS:((e.ai.set t (.v (Ab.aa x))).set d (.v x)).getD t2 (.v .undef)=e.ai.getD t2 (.v .undef):=by
    rw[eD (fun hh=>n6 hh.symm),eD (fun hh=>n7 hh.symm)]
   have bO:Inv gl w0 aq ⟨((e.ai.set t (.v (Ab.aa x))).set d (.v x)).set e2 (e.ai.getD t2 (.v .undef)).aa,e.boxes⟩ ((a.put (some d) v).put (some e2) ((a.put (some d) v).eval (.tmp t2))) w (g.lB t (fun j=>.s d j)):=by
    have hr:=(jQ cU t2).aa (O':=fun _ _ _ _=>False)
    have:=cU.value (dst:=some e2) hr
    rw[oS]at this
    exact this
   refine m9.val (v:=v) (w1:=w) g1 (fun c hc=>by rw[h1]at hc;cases hc) hI.defers (by simp[execOp,h1,Act.eval,v]) (m9.val (v:=(a.put (some d) v).eval (.tmp t2)) (w1:=w) g2 (fun c hc=>by rw[h2]at hc;cases hc) (by rw[d1];exact cU.defers) (by rw[d1];simp[execOp,h2]) ⟨g3,(fun c hc=>by rw[h3]at hc;cases hc),fun next Q hn=>?_⟩)
   rw[d1,d2]at hn ⊢
   have zC:(((e.ai.set t (.v (Ab.aa x))).set d (.v x)).set e2 (e.ai.getD t2 (.v .undef)).aa).getD d (.v .undef)=.v x:=by
    rw[eD n4,List.getD_eq_getElem?_getD,List.getElem?_set_self (by simpa using aK)];rfl
   have D1:(((e.ai.set t (.v (Ab.aa x))).set d (.v x)).set e2 (e.ai.getD t2 (.v .undef)).aa).getD e2 (.v .undef)=(e.ai.getD t2 (.v .undef)).aa :=by
    rw[List.getD_eq_getElem?_getD,List.getElem?_set_self (by simpa using Dn)];rfl
   refine Iw bO h3 hc (t:=d) (p:=0) (by rw[ha];rfl) (f':=f) rfl (y:=x) zC (n:=0) (k:=fun e'=>e'=⟨cq ((((e.ai.set t (.v (Ab.aa x))).set d (.v x)).set e2 (e.ai.getD t2 (.v .undef)).aa).set d (.v bk)) o3.dst (.t []),e.boxes⟩) ⟨bk,?_,D0,rfl⟩ next Q fun e' v' w' g' bh Bz=>?_
   ·rw[ha]
    have:∀s:Slot,s.aa.aa=s.aa:=fun s=>by cases s<;>simp[Slot.aa,Za]
    simp only[iI,Ab.aV,D1,this,List.set_cons_zero]
    exact hC
   ·subst Bz
    refine hn v' w' (by rw[put_defers];exact bO.defers) ⟨_,_,P4 bh (t:=t) (d:=d) (bk:=bk) ?_ ?_,?_⟩
    ·rw[d3]
     show(((((e.ai.set t (.v (Ab.aa x))).set d (.v x)).set e2 (e.ai.getD t2 (.v .undef)).aa).set d (.v bk)).set u (.t [])).getD d (.v .undef)=.v bk
     rw[eD n2,List.getD_eq_getElem?_getD,List.getElem?_set_self (by simpa using aK)];rfl
    ·rw[d3,uC (fun hh=>n2 hh.symm),uC (fun hh=>n3 hh.symm),uC (fun hh=>n4 hh.symm),uC (fun hh=>n5 hh.symm),uC n1]
     exact Cf (by rw[hI.size];exact aK)
    ·rw[d3];exact hk
  ·exact h.elim
theorem OA{C:bl}{K K':Env→Prop}(hk:∀e,K e→K' e){s:Spec}(h:iK P C e K s):iK P C e K' s:=by
 cases s with
 |vQ t d ty=>
  simp only[iK]at h ⊢
  split at h
  ·obtain⟨hb,h⟩:=pV h
   obtain⟨y,hy,h⟩:=aH h
   rw[hb,cond_true,hy]
   exact hk _ h
  ·exact h.elim
 |cut t d1 d2 ty=>
  simp only[iK]at h ⊢
  split at h
  ·obtain⟨hb,h⟩:=pV h
   obtain⟨y,hy,h⟩:=aH h
   rw[hb,cond_true,hy]
   exact hk _ h
  ·exact h.elim
 |vo t d f u=>
  simp only[iK]at h ⊢
  split at h
  ·obtain⟨hb,bk,h1,h2,h⟩:=pV h
   rw[hb,cond_true]
   exact⟨bk,h1,h2,hk _ h⟩
  ·exact h.elim
 |u6 t d t2 d2 f u=>
  simp only[iK]at h ⊢
  split at h
  ·obtain⟨hb,bk,h1,h2,h⟩:=pV h
   rw[hb,cond_true]
   exact⟨bk,h1,h2,hk _ h⟩
  ·exact h.elim
def KV(ws:List Nat)(e e':Env):Prop:=e'.ai.length=e.ai.length∧e.boxes.length≤e'.boxes.length∧(∀t,t∉ws→(e'.ai.getD t (.v .undef)).stays =(e.ai.getD t (.v .undef)).stays)∧p9 e.boxes.length e e'
theorem OB{l:List Slot}{t u:Nat}{x y:SV}(hx:l.getD t (.v .undef)=.v x):((l.set t (.v y)).getD u (.v .undef)).stays =(l.getD u (.v .undef)).stays :=by
 by_cases h:t=u
 ·subst h
  rw[hx]
  rcases Nat.lt_or_ge t l.length with hl|hl
  ·rw[List.getD_eq_getElem?_getD,List.getElem?_set_self hl];rfl
  ·rw[List.set_eq_of_length_le hl,hx]
 ·rw[eD h]
theorem Wk{C:bl}{ops:List Oper}{s:Spec}(hs:yA P s ops){K:Env→Prop}(h:iK P C e K s):iK P C e (fun e'=>K e'∧KV (ops.filterMap (·.dst)) e e') s:=by
 cases hs with
 |vQ t d ty o1 o2 c h1 d1 g1 h2 d2 g2 hc ha ht bg=>
  simp only[iK]at h ⊢
  split at h
  ·rename_i x hx
   obtain⟨hb,h⟩:=pV h
   obtain⟨y,hy,h⟩:=aH h
   rw[hb,cond_true,hy]
   refine⟨h,by simp,Nat.le_refl _,fun u hu=>?_,.refl _ _⟩
   have hud:d≠u:=fun hh=>hu (by rw[←hh];simp[d1,d2])
   have iA:(e.ai.set d (.v .undef)).getD t (.v .undef)=.v x:=by rw[eD (fun hh=>bg hh.symm)];exact hx
   rw[OB iA,eD hud]
  ·exact h.elim
 |cut t d1 d2 ty o1 o2 o3 h1 e1 g1 h2 e2 g2 h3 e3 g3 n1 n2 n3=>
  simp only[iK]at h ⊢
  split at h
  ·rename_i x hx
   obtain⟨hb,h⟩:=pV h
   obtain⟨y,hy,h⟩:=aH h
   rw[hb,cond_true,hy]
   refine⟨h,by simp,Nat.le_refl _,fun u hu=>?_,.refl _ _⟩
   have xz:d1≠u:=fun hh=>hu (by rw[←hh];simp[e1,e2,e3])
   have hu2:d2≠u:=fun hh=>hu (by rw[←hh];simp[e1,e2,e3])
   have iA:((e.ai.set d1 (.v .undef)).set d2 (.v .undef)).getD t (.v .undef)=.v x:=by rw[eD (fun hh=>n2 hh.symm),eD (fun hh=>n1 hh.symm)];exact hx
   rw[OB iA,eD hu2,eD xz]
  ·exact h.elim
 |vo t d f u o1 o2 c h1 d1 g1 h2 d2 g2 hc ha h0 n1 n2 n3=>
  simp only[iK]at h ⊢
  split at h
  ·rename_i x hx
   obtain⟨hb,bk,k1,k2,h⟩:=pV h
   rw[hb,cond_true]
   refine⟨bk,k1,k2,h,by simp,Nat.le_refl _,fun v hv=>?_,.refl _ _⟩
   have zD:d≠v:=fun hh=>hv (by rw[←hh];simp[d1,d2])
   have LZ:u≠v:=fun hh=>hv (by rw[←hh];simp[d1,d2])
   by_cases mg:t=v
   ·subst mg
    rw[hx]
    rcases Nat.lt_or_ge t e.ai.length with hl|hl
    ·rw[List.getD_eq_getElem?_getD,List.getElem?_set_self (by simpa using hl)];rfl
    ·rw[List.getD_eq_getElem?_getD,List.getElem?_eq_none (by simpa using hl)];rfl
   ·rw[eD mg,eD zD,eD LZ,eD zD,eD zD,eD mg]
  ·exact h.elim
 |u6 t d t2 e2 f u o1 o2 o3 c h1 d1 g1 h2 d2 g2 h3 d3 g3 hc ha h0 n1 n2 n3 n4 n5 n6=>
  simp only[iK]at h ⊢
  split at h
  ·rename_i x hx
   obtain⟨hb,bk,k1,k2,h⟩:=pV h
   rw[hb,cond_true]
   refine⟨bk,k1,k2,h,by simp,Nat.le_refl _,fun v hv=>?_,.refl _ _⟩
   have zD:d≠v:=fun hh=>hv (by rw[←hh];simp[d1,d2,d3])
   have LZ:u≠v:=fun hh=>hv (by rw[←hh];simp[d1,d2,d3])
   have hve:e2≠v:=fun hh=>hv (by rw[←hh];simp[d1,d2,d3])
   by_cases mg:t=v
   ·subst mg
    rw[hx]
    rcases Nat.lt_or_ge t e.ai.length with hl|hl
    ·rw[List.getD_eq_getElem?_getD,List.getElem?_set_self (by simpa using hl)];rfl
    ·rw[List.getD_eq_getElem?_getD,List.getElem?_eq_none (by simpa using hl)];rfl
   ·rw[eD mg,eD zD,eD LZ,eD zD,eD hve,eD zD,eD mg]
  ·exact h.elim
theorem QL{ops:Array Oper}{Q:Exit→Act→World→Prop}{R:Act→World→Prop}(hR:∀a w,R a w→Q .normal a w):∀(l:List Oper)(i:Nat){a:Act}{w:World},(∀j,l[j]? =ops[i+j]?)→m9 P l a w R→wpOps P ops Q (List.range' i l.length) a w
 |[],_,_,_,_,h=>hR _ _ h
 |o::l,i,a,w,hl,h=>by
  obtain⟨hg,mI,h⟩:=h
  have h0:ops[i]? =some o:=by simpa using(hl 0).symm
  rw[List.length_cons,List.range'_succ]
  unfold wpOps
  simp only[h0]
  rw[if_pos (by simp[Region.wanted,hg])]
  exact .inl (h _ _ fun v w1 _ h1=>QL hR l (i+1) (fun j=>by have:=hl (j+1);simpa[Nat.add_assoc,Nat.add_comm 1 j]using this) h1)
end
end Go.Proofs.Ytimbllcalipehaa.Ab
namespace Go.Proofs.Ytimbllcalipehaa.Ab
open Go Go.RowKit
def Ex.to:Ex→Exit
 | .normal =>.normal
 | .exit i=>.exit i
 | .ret =>.ret
def Fr(gh:List (Nat×List ib))(c:Code)(e e':Env):Prop:=e'.ai.length=e.ai.length∧e.boxes.length≤e'.boxes.length∧
 (∀t,t∉cF gh c→(e'.ai.getD t (.v .undef)).stays =(e.ai.getD t (.v .undef)).stays)∧p9 e.boxes.length e e'
theorem re{b:Bool}{A:Prop}(h:cond b A False):b=true∧A:=by cases b;exact h.elim;exact⟨rfl,h⟩
theorem Ah{b:Bool}{A:Prop}(hb:b=true)(h:A):cond b A False:=by subst hb;exact h
section
variable{P:Program}{gl:Nat→Option D}{h:Hints}
theorem EP{all:List Oper}{aE:Nat→Bool}{base:Nat}{K K':Env→Prop}(hk:∀e,K e→K' e):∀(l:List Oper)(i:Nat)(e:Env),
  ld P gl (aD P gl) aE all base l i e K→ld P gl (aD P gl) aE all base l i e K'
 |[],_,_,h=>hk _ h
 |o::l,i,e,h=>by
  rw[Ar]at h ⊢
  have eO:all=all.toArray.toList:=by simp
  rw[eO]at h ⊢
  obtain⟨src,s,U,bK,hO,_⟩:=x7 h
  refine hO.run ?_
  rw[←eO]at bK ⊢
  exact EP hk l (i+1) _ bK
theorem N6{all:List Oper}{aE:Nat→Bool}{base:Nat}{K:Env→Prop}:∀(l:List Oper)(i:Nat)(e:Env),
  ld P gl (aD P gl) aE all base l i e K→ld P gl (aD P gl) aE all base l i e fun e'=>K e'∧e'.ai.length=e.ai.length∧e'.boxes.length=e.boxes.length∧
   (∀t,t∉l.filterMap (·.dst)→(e'.ai.getD t (.v .undef)).stays =(e.ai.getD t (.v .undef)).stays)∧p9 base e e'
 |[],_,_,h=>⟨h,rfl,rfl,fun _ _=>rfl,.refl _ _⟩
 |o::l,i,e,h=>by
  rw[Ar]at h ⊢
  have eO:all=all.toArray.toList:=by simp
  rw[eO]at h ⊢
  obtain⟨src,s,U,bK,hO,aR⟩:=x7 h
  refine hO.run ?_
  rw[←eO]at bK ⊢
  refine EP (fun e'⟨hK,h1,h2,h3,h5⟩=>⟨hK,?_,?_,fun t ht=>?_,fun j hj=>?_⟩) l (i+1) _ (N6 l (i+1) _ bK)
  ·rw[h1];unfold fin jf;simp only[HD];cases src<;>simp
  ·rw[h2];unfold fin lD;cases U<;>simp
  ·have hd:∀d,o.dst=some d→d≠t:=fun d hd hh=>by
    subst hh
    exact ht (List.mem_filterMap.2 ⟨o,by simp,hd⟩)
   have qF:t∉l.filterMap (·.dst):=fun hm=>by
    obtain⟨o',bN,jm⟩:=List.mem_filterMap.1 hm
    exact ht (List.mem_filterMap.2 ⟨o',by simp[bN],jm⟩)
   rw[h3 t qF]
   unfold fin cq jf
   simp only
   have eY:((match src with|none=>e.ai|some (t,s)=>e.ai.set t s).getD t (.v .undef)).stays =(e.ai.getD t (.v .undef)).stays :=by
    cases src with
    |none=>rfl
    |some p=>
     obtain⟨t',d⟩:=p
     simp only
     by_cases TE:t'=t
     ·subst TE
      have:=aR.1 t' d rfl
      rcases Nat.lt_or_ge t' e.ai.length with hl|hl
      ·rw[List.getD_eq_getElem?_getD,List.getElem?_set_self hl];exact this
      ·rw[List.set_eq_of_length_le hl]
     ·rw[eD TE]
   cases jm:o.dst with
   |none=>exact eY
   |some d=>simp only;rw[eD (hd d jm)];exact eY
  ·have huf:=hO.uf
   have key:p9 base e (fin o src s U e):=by
    intro j hj
    have same:e.boxes.getD j .none =.none ∨(e.boxes.getD j .none ≠.none ∧(e.boxes.getD j .none).isMap =(e.boxes.getD j .none).isMap):=p9.refl base e j hj
    unfold fin
    simp only
    cases huf with
    |none=>exact same
    |mk bx h hn hb=>
     simp only[lD,List.getD_eq_getElem?_getD]
     rw[List.getElem?_set_ne (by omega)]
     simpa using same
    |wr b bx gC h hw x hx off hp ho hold hb qk=>
     simp only[lD,List.getD_eq_getElem?_getD,List.getElem?_set]
     by_cases TF:b=j
     ·subst TF
      right
      rw[ho]
      simp[(List.getElem?_eq_some_iff.1 ho).1,hb.2,hold]
     ·simp only[TF,if_false];simpa using same
   exact(key.trans (Nat.le_refl _) h5) j hj
theorem Pn{ok:Bool}{ops:Array Oper}{aE:Nat→Bool}{e1 e':Env}{K K':Env→Prop}(hk:∀e,K e→K' e)(h:vn P gl (aD P gl) ok ops aE e1 K e'):vn P gl (aD P gl) ok ops aE e1 K' e':=by
 cases ok
 ·exact⟨h.1,hk _ h.2⟩
 ·exact hk _ h
theorem Zc{ok:Bool}{ops:Array Oper}{aE:Nat→Bool}{e1 e':Env}{K:Env→Prop}{X:Env→Prop}(h:vn P gl (aD P gl) ok ops aE e1 K e')(hx:X e'):vn P gl (aD P gl) ok ops aE e1 (fun e'=>K e'∧X e') e':=by
 cases ok
 ·exact⟨h.1,h.2,hx⟩
 ·exact⟨h,hx⟩
theorem HW{e:Env}{c:Operand}{A B A' B':Env→Prop}(hA:A e→A' e)(hB:B e→B' e)(h:oq e c A B):oq e c A' B':=by
 cases c with
 |tmp t=>
  simp only[oq]at h ⊢
  cases hx:e.ai.getD t (.v .undef)with
  |v x=>
   rw[hx]at h
   obtain⟨b,rfl,h1,h2⟩:=Aq h
   cases b
   ·have:=h2 rfl
    rw[uF hx]at this
    show B' _
    rw[uF hx]
    exact hB this
   ·have:=h1 rfl
    rw[uF hx]at this
    show A' _
    rw[uF hx]
    exact hA this
  |_=>rw[hx]at h;exact h.elim
 |const v=>
  cases v with
  |bool b=>cases b;exact hB h;exact hA h
  |_=>exact h.elim
 |_=>exact h.elim
theorem OC{e:Env}{c:Operand}{A B A' B':Env→Prop}(hA:∀e,A e→A' e)(hB:∀e,B e→B' e)(h:oq e c A B):oq e c A' B':=HW (hA e) (hB e) h
theorem OD{key:Nat}{c:Code}{e:Env}{Q Q':Ex→Env→Prop}{T:(Ex→Env→Prop)→Prop}(hT:∀Q Q':Ex→Env→Prop,(∀x e,Q x e→Q' x e)→T Q→T Q')(hq:∀x e,Q x e→Q' x e)(hh:qd h key c e Q T):qd h key c e Q' T:=by
 unfold qd at hh ⊢
 generalize mY h.eQ key=kk at hh ⊢
 obtain⟨vars,consts⟩:=kk
 cases vars<;>cases consts
 ·exact hT _ _ hq hh
 all_goals
  obtain⟨hb,hh⟩:=re (hh:cond _ _ False)
  exact Ah hb (hT _ _ (fun x e' hx=>by cases x<;>first|exact hq _ _ hx|exact hq .normal _ hx) hh)
theorem IC{id:Nat}{ops:Array Oper}{draw:Bool}{e:Env}{K K':Env→Prop}(hk:∀e,K e→K' e)(hh:lU P gl (aD P gl) h id ops draw e K):lU P gl (aD P gl) h id ops draw e K':=by
 unfold lU at hh ⊢
 obtain⟨hb,hh⟩:=re hh
 refine Ah hb (yd (fun e1 h1=>?_) hh)
 cases hs:uV P draw ops.toList with
 |some s=>simp only[hs]at h1 ⊢;exact OA (fun e2 h2=>yd hk h2) h1
 |none=>simp only[hs]at h1 ⊢;exact EP (fun e2 h2=>Pn (fun e3 h3=>yd hk h3) h2) _ _ _ h1
theorem OE{id:Nat}{ops:Array Oper}{draw:Bool}{e:Env}{K:Env→Prop}(hh:lU P gl (aD P gl) h id ops draw e K):lU P gl (aD P gl) h id ops draw e (fun e'=>K e'∧Fr h.gh (.region id ops draw) e e'):=by
 unfold lU at hh ⊢
 obtain⟨hb,hh⟩:=re hh
 refine Ah hb (yd (fun e1⟨h1,hg⟩=>?_) (Ih hh))
 have key:∀e2,KV (ops.toList.filterMap (·.dst)) e1 e2→gO (kD h.gh (4000000+id)) e2 K→gO (kD h.gh (4000000+id)) e2 (fun e'=>K e'∧Fr h.gh (.region id ops draw) e e'):=fun e2 ho h2=>by
  refine yd (fun e3⟨h3,zE⟩=>⟨h3,zE.1.trans (ho.1.trans hg.1),Nat.le_trans hg.2.1 (Nat.le_trans ho.2.1 zE.2.1),fun t ht=>?_,?_⟩) (Ih h2)
  ·simp only[cF,List.mem_append,not_or]at ht
   rw[zE.2.2.1 t ht.2.1,ho.2.2.1 t ht.2.2,hg.2.2.1 t ht.1]
  ·exact(hg.2.2.2.trans hg.2.1 ho.2.2.2).trans (Nat.le_trans hg.2.1 ho.2.1) zE.2.2.2
 cases hs:uV P draw ops.toList with
 |some s=>
  simp only[hs]at h1 ⊢
  exact OA (fun e2⟨h2,ho⟩=>key e2 ho h2) (Wk (HV hs).2 h1)
 |none=>
  simp only[hs]at h1 ⊢
  refine EP (fun e'⟨h1,h2,h3,h4,h5⟩=>Pn (fun e2⟨k1,k2⟩=>key e2 k2 k1) (Zc (X:=fun e'=>KV (ops.toList.filterMap (·.dst)) e1 e') h1 ⟨h2,?_,h4,fun i hi=>?_⟩)) _ _ _ (N6 _ _ _ h1)
  ·rw[h3];simp
  ·have:=h5 i hi
   simp only[List.getD_eq_getElem?_getD]at this ⊢
   rw[List.getElem?_append_left hi]at this
   exact this
theorem k8:∀(c:Code){Q Q':Ex→Env→Prop}{e:Env},(∀x e,Q x e→Q' x e)→aw P gl (aD P gl) h c Q e→aw P gl (aD P gl) h c Q' e
 | .skip,_,_,_,hq,hh=>hq _ _ hh
 | .region id ops draw,Q,Q',e,hq,hh=>by
   simp only[aw]at hh ⊢
   exact OD (fun Q Q' hq hh=>IC (hq .normal) hh) hq hh
 | .seq a b,Q,Q',e,hq,hh=>by
   simp only[aw]at hh ⊢
   refine k8 a (fun x e' hx=>?_) hh
   cases x with
   |normal=>exact k8 b hq hx
   |exit i=>exact hq _ _ hx
   |ret=>exact hq _ _ hx
 | .cond c a b,Q,Q',e,hq,hh=>by
   simp only[aw]at hh ⊢
   exact OD (fun Q Q' hq hh=>OC (fun e'=>k8 a hq) (fun e'=>k8 b hq) hh) hq hh
 | .block id b,Q,Q',e,hq,hh=>by
   simp only[aw]at hh ⊢
   refine k8 b (fun x e' hx=>?_) hh
   cases x with
   |normal=>exact hq _ _ hx
   |exit i=>
    have dK:cond (i==id) (Q .normal e') (Q (.exit i) e'):=hx
    show cond (i==id) (Q' .normal e') (Q' (.exit i) e')
    cases hb:(i==id)<;>rw[hb]at dK<;>exact hq _ _ dK
   |ret=>exact hq _ _ hx
 | .loop b,Q,Q',e,hq,hh=>by
   obtain⟨hb,hh⟩:=re (hh:cond _ _ False)
   refine Ah hb fun I hI=>hh I fun vs bs hF=>hI vs bs (k8 b (fun x e' hx=>?_) hF)
   cases x with
   |normal=>exact hx
   |exit i=>exact hq _ _ hx
   |ret=>exact hq _ _ hx
 | .exit id,_,_,_,hq,hh=>hq _ _ hh
 | .ret,_,_,_,hq,hh=>hq _ _ hh
 | .goto _,_,_,_,_,hh=>hh
 | .label _,_,_,_,hq,hh=>hq _ _ hh
 | .scope _,_,_,_,_,hh=>hh
 | .rangeFunc _ _ _ _,_,_,_,_,hh=>hh
 | .refuse _,_,_,_,_,hh=>hh
theorem Fr.refl(c:Code)(e:Env):Fr h.gh c e e:=⟨rfl,Nat.le_refl _,fun _ _=>rfl,.refl _ _⟩
theorem Fr.trans{a b c:Code}{e e1 e2:Env}(h1:Fr h.gh a e e1)(h2:Fr h.gh b e1 e2)(ha:∀t,t∈cF h.gh a→t∈cF h.gh c)(hb:∀t,t∈cF h.gh b→t∈cF h.gh c):Fr h.gh c e e2:=
 ⟨h2.1.trans h1.1,Nat.le_trans h1.2.1 h2.2.1,fun t ht=>(h2.2.2.1 t fun hm=>ht (hb t hm)).trans (h1.2.2.1 t fun hm=>ht (ha t hm)),h1.2.2.2.trans h1.2.1 h2.2.2.2⟩
theorem Fr.mono{a c:Code}{e e1:Env}(h1:Fr h.gh a e e1)(ha:∀t,t∈cF h.gh a→t∈cF h.gh c):Fr h.gh c e e1:=⟨h1.1,h1.2.1,fun t ht=>h1.2.2.1 t fun hm=>ht (ha t hm),h1.2.2.2⟩
theorem HB(vars consts:List Nat)(vs:List SV):∀(l:List Slot)(t i:Nat),(qY vars consts vs l t)[i]? =(l[i]?).map fun s=>match place (t+i) vars 0 with
  |some j=>.v (ae vs j)
  |none=>bif consts.contains (t+i)then s.stays else .v .undef
 |[],_,_=>by simp[qY]
 |s::l,t,i=>by
  cases i with
  |zero=>simp only[qY,List.getElem?_cons_zero,Option.map_some,Nat.add_zero];cases place t vars 0<;>rfl
  |succ i=>
   simp only[qY,List.getElem?_cons_succ]
   rw[HB vars consts vs l (t+1) i,show t+1+i=t+(i+1) by omega]
theorem Hz(vars consts:List Nat)(vs:List SV):∀(l:List Slot)(t:Nat),(qY vars consts vs l t).length =l.length
 |[],_=>rfl
 |_::l,t=>by simp[qY,Hz vars consts vs l (t+1)]
theorem HC(bs:List (List SV)):∀(l:List af)(t i:Nat),(qZ bs l t)[i]? =(l[i]?).map fun x=>af.again (ao bs (t+i)) x
 |[],_,_=>by simp[qZ]
 |s::l,t,i=>by
  cases i with
  |zero=>simp[qZ]
  |succ i=>
   simp only[qZ,List.getElem?_cons_succ]
   rw[HC bs l (t+1) i,show t+1+i=t+(i+1) by omega]
theorem HA(bs:List (List SV)):∀(l:List af)(t:Nat),(qZ bs l t).length =l.length
 |[],_=>rfl
 |_::l,t=>by simp[qZ,HA bs l (t+1)]
theorem OF{t:Nat}:∀{l:List Nat}{i j:Nat},place t l i=some j→i≤j∧l[j-i]? =some t
 |[],i,j,h=>by cases h
 |v::l,i,j,h=>by
  simp only[place]at h
  cases hv:v==t with
  |true=>
   rw[hv]at h
   simp only[cond_true,Option.some.injEq]at h
   subst h
   have:=beq_iff_eq.1 hv
   subst this
   simp
  |false=>
   rw[hv]at h
   obtain⟨h1,h2⟩:=OF (l:=l) h
   refine⟨by omega,?_⟩
   rw[show j-i=(j-(i+1))+1 by omega,List.getElem?_cons_succ]
   exact h2
theorem OG{t:Nat}:∀{l:List Nat}{i:Nat},l.contains t=false→place t l i=none
 |[],_,_=>rfl
 |v::l,i,h=>by
  simp only[List.contains_cons,Bool.or_eq_false_iff]at h
  simp only[place]
  have:(v==t)=false:=by rw[beq_eq_false_iff_ne]at*;exact fun hh=>h.1 hh.symm
  rw[this]
  exact OG h.2
theorem NN{ws vars consts:List Nat}:∀{l:List Slot}{t:Nat},Ax ws vars consts l t=true→∀(i:Nat)s,l[i]? =some s→(t+i)∉ws→s.stays=.v .undef ∨(vars.contains (t+i)=false∧consts.contains (t+i)=true)
 |[],_,_,i,s,h,_=>by simp at h
 |s'::l,t,hk,i,s,h,hw=>by
  simp only[Ax,Bool.and_eq_true]at hk
  cases i with
  |zero=>
   simp at h
   subst h
   have iS:=hk.1
   cases s' with
   |v x=>exact .inl rfl
   |t x=>exact .inl rfl
   |_=>
    refine .inr ?_
    simp only[Bool.or_eq_true,Bool.and_eq_true,Bool.not_eq_true']at iS
    rcases iS with h|h
    ·exact absurd (by simpa using h) hw
    ·exact h
  |succ i=>
   have:=NN hk.2 i s (by simpa using h) (by rw[show t+1+i=t+(i+1) by omega];exact hw)
   rw[show t+1+i=t+(i+1) by omega]at this
   exact this
theorem Wl(s:Slot):s.stays.stays=s.stays:=by cases s<;>rfl
def again(vars consts:List Nat)(vs:List SV)(bs:List (List SV))(e:Env):Env:=⟨qY vars consts vs e.ai 0,qZ bs e.boxes 0⟩
theorem Fb{b:Code}{vars consts:List Nat}{vs:List SV}{bs:List (List SV)}{e:Env}(hk:Ax (cF h.gh b) vars consts e.ai 0=true):Fr h.gh b e (again vars consts vs bs e):=by
 refine⟨Hz _ _ _ _ _,by simp[again,HA],fun t ht=>?_,fun i hi=>?_⟩
 rotate_left
 ·simp only[again,List.getD_eq_getElem?_getD,HC,List.getElem?_eq_getElem hi,Option.map_some,Option.getD_some]
  cases e.boxes[i]<;>first|exact .inl rfl|exact .inr ⟨by simp,rfl⟩
 simp only[again,List.getD_eq_getElem?_getD,HB]
 cases hs:e.ai[t]? with
 |none=>rfl
 |some s=>
  simp only[Option.map_some,Option.getD_some,Nat.zero_add]
  rcases NN hk t s hs (by simpa using ht)with h|⟨h1,h2⟩
  ·rw[h]
   split
   ·rfl
   ·cases consts.contains t<;>simp[h,Slot.stays]
  ·rw[Nat.zero_add]at h1 h2
   rw[OG h1]
   simp only[h2,cond_true,Wl]
theorem N7{key:Nat}{c:Code}{e:Env}{Q:Ex→Env→Prop}{T:(Ex→Env→Prop)→Prop}(hT:∀Q Q':Ex→Env→Prop,(∀x e,Q x e→Q' x e)→T Q→T Q')
  (hF:∀Q,T Q→T (fun x e'=>Q x e'∧Fr h.gh c e e'))(hh:qd h key c e Q T):qd h key c e (fun x e'=>Q x e'∧Fr h.gh c e e') T:=by
 unfold qd at hh ⊢
 generalize mY h.eQ key=kk at hh ⊢
 obtain⟨vars,consts⟩:=kk
 cases vars<;>cases consts
 ·exact hF _ hh
 all_goals
  obtain⟨hb,hh⟩:=re (hh:cond _ _ False)
  have hk:=(Bool.and_eq_true _ _▸hb).2
  refine Ah hb (hT _ _ (fun x e' hx=>?_) (hF _ hh))
  obtain⟨hx,hf⟩:=hx
  cases x with
  |normal=>exact⟨hx,Fb (b:=c) hk⟩
  |exit i=>exact⟨hx,hf⟩
  |ret=>exact⟨hx,hf⟩
theorem pZ:∀(c:Code){Q:Ex→Env→Prop}{e:Env},aw P gl (aD P gl) h c Q e→aw P gl (aD P gl) h c (fun x e'=>Q x e'∧Fr h.gh c e e') e
 | .skip,_,e,hh=>⟨hh,Fr.refl _ _⟩
 | .region id ops draw,Q,e,hh=>by
   simp only[aw]at hh ⊢
   refine N7 (fun Q Q' hq hh=>IC (hq .normal) hh) (fun Q hh=>?_) hh
   exact IC (fun e' hx=>hx) (OE hh)
 | .seq a b,Q,e,hh=>by
   refine k8 a (fun x e' hx=>?_) (pZ a hh)
   obtain⟨hx,hf⟩:=hx
   cases x with
   |normal=>exact k8 b (fun y e2 hy=>⟨hy.1,hf.trans hy.2 (fun t ht=>by simp[cF,ht]) (fun t ht=>by simp[cF,ht])⟩) (pZ b hx)
   |exit i=>exact⟨hx,hf.mono fun t ht=>by simp[cF,ht]⟩
   |ret=>exact⟨hx,hf.mono fun t ht=>by simp[cF,ht]⟩
 | .cond c a b,Q,e,hh=>
   N7 (fun Q Q' hq hh=>OC (fun e'=>k8 a hq) (fun e'=>k8 b hq) hh) (fun Q hh=>HW (A:=aw P gl (aD P gl) h a Q) (B:=aw P gl (aD P gl) h b Q)
    (fun ha=>k8 a (fun y e2 hy=>⟨hy.1,hy.2.mono fun t ht=>by simp[cF,ht]⟩) (pZ a ha)) (fun hb=>k8 b (fun y e2 hy=>⟨hy.1,hy.2.mono fun t ht=>by simp[cF,ht]⟩) (pZ b hb)) hh) hh
 | .block id b,Q,e,hh=>by
   refine k8 b (fun x e' hx=>?_) (pZ b hh)
   obtain⟨hx,hf⟩:=hx
   have kO:Fr h.gh (.block id b) e e':=hf
   cases x with
   |normal=>exact⟨hx,kO⟩
   |exit i=>
    have dK:cond (i==id) (Q .normal e') (Q (.exit i) e'):=hx
    show cond (i==id) (Q .normal e'∧Fr h.gh (.block id b) e e') (Q (.exit i) e'∧Fr h.gh (.block id b) e e')
    cases hb:(i==id)<;>rw[hb]at dK<;>exact⟨dK,kO⟩
   |ret=>exact⟨hx,kO⟩
 | .loop b,Q,e,hh=>by
   obtain⟨hb,hh⟩:=re (hh:cond _ _ False)
   have hk:=(Bool.and_eq_true _ _▸hb).2
   refine Ah hb fun I hI=>?_
   refine hh I fun vs bs hF=>hI vs bs (k8 b (fun x e' hx=>?_) (pZ b hF))
   obtain⟨hx,hf⟩:=hx
   have kO:Fr h.gh (.loop b) e e':=(Fb (vs:=vs) (bs:=bs) hk).trans (b:=b) hf (fun t ht=>ht) (fun t ht=>ht)
   cases x with
   |normal=>exact hx
   |exit i=>exact⟨hx,kO⟩
   |ret=>exact⟨hx,kO⟩
 | .exit id,_,e,hh=>⟨hh,Fr.refl _ _⟩
 | .ret,_,e,hh=>⟨hh,Fr.refl _ _⟩
 | .goto _,_,_,hh=>hh
 | .label _,_,e,hh=>⟨hh,Fr.refl _ _⟩
 | .scope _,_,_,hh=>hh
 | .rangeFunc _ _ _ _,_,_,hh=>hh
 | .refuse _,_,_,hh=>hh
end
end Go.Proofs.Ytimbllcalipehaa.Ab
namespace Go.Proofs.Ytimbllcalipehaa.Ab
open Go Go.RowKit
section
variable{P:Program}{gl:Nat→Option D}{h:Hints}
def Gh.cut(g:Gh)(n:Nat):Gh:={g with bx:=g.bx.take n}
theorem Cu{g:Gh}{n i:Nat}{x:Option Nat}(hi:i<n):(g.cut n).bx[i]? =some x↔g.bx[i]? =some x:=by
 simp only[Gh.cut];rw[List.getElem?_take,if_pos hi]
theorem Aa{g:Gh}{n i:Nat}{x:Option Nat}(h:(g.cut n).bx[i]? =some x):i<n∧g.bx[i]? =some x:=by
 simp only[Gh.cut]at h
 rw[List.getElem?_take]at h
 split at h
 ·exact⟨by assumption,h⟩
 ·cases h
theorem uM{g:Gh}{n:Nat}{x:Option Nat}(h:x∈(g.cut n).bx):x∈g.bx:=List.mem_of_mem_take h
theorem Ju{base:Nat}{w:World}{g:Gh}{n:Nat}{p:Pos}{b a c:Nat}(h:eN base w g p b a c):eN base w (g.cut n) p b a c:=
 ⟨h.1,h.2.1,fun hm=>h.2.2.1 (uM hm),h.2.2.2⟩
theorem Cg{base AX:Nat}{w w1:World}{g g1:Gh}{s:Slot}{v v1:Value}{O O1:Nat→Nat→Nat→Nat→Prop}(h0:bW AX w g O s v)(h1:bW base w1 g1 O1 s v1){n:Nat}(hn:g.bx.length≤n):
  ∀O2,(∀x,s≠.v x)→(∀x,s≠.t x)→bW base w1 (g1.cut n) O2 s v1:=by
 have key:∀{s:Slot}{v1:Value}{O1:Nat→Nat→Nat→Nat→Prop},bW base w1 g1 O1 s v1→∀{O v},bW AX w g O s v→∀O2,(∀j b a c,O1 j b a c→O2 j b a c)→bW base w1 (g1.cut n) O2 s v1:=by
  intro s v1 O1 h1
  induction h1 with
  |v O1 x y hx=>intro O v _ O2 hO;exact .v _ _ _ (hx.mono (fun _ _ h=>(by first|exact⟨h,rfl⟩|exact⟨h,.refl _ _ _⟩)) (fun _ _ _=>rfl) _ (fun b a c h=>⟨hO 0 b a c h,.refl _ _ _⟩))
  |p O1 b off an hb=>
   intro O v h0 O2 hO
   obtain⟨SM,_,so⟩:=h0.mE
   have:=(List.getElem?_eq_some_iff.1 so).1
   exact .p _ b off an ((Cu (by omega)).2 hb)
  |a O1 b n1 D2 v hm hb=>
   intro O v h0 O2 hO
   cases h0 with
   |a _ _ _ _ _ _ so=>
    obtain⟨SM,_,so,_⟩:=so
    obtain⟨an,cap,hb,h2,h3⟩:=hb
    have:=(List.getElem?_eq_some_iff.1 so).1
    exact .a _ b n1 D2 _ hm ⟨an,cap,(Cu (by omega)).2 hb,h2,h3⟩
  |m O1 b an hb=>
   intro O v h0 O2 hO
   cases h0 with
   |m _ _ SM so=>
    have:=(List.getElem?_eq_some_iff.1 so).1
    exact .m _ b an ((Cu (by omega)).2 hb)
  |c O1 f first cap fv cv hf hc _ _ jh ji=>
   intro O v h0 O2 hO
   cases h0 with
   |c _ _ _ _ TG TH hf0 oP rf0 rc0=>
    refine .c _ f first cap fv cv hf hc (fun i x v hx hv=>?_) (fun i x v hx hv=>?_)
    ·have hi:i<TG.size:=by rw[←hf0];exact(List.getElem?_eq_some_iff.1 hx).1
     exact jh i x v hx hv (rf0 i x TG[i] hx (by simp)) _ (fun _ _ _ _ h=>h)
    ·have hi:i<TH.size:=by rw[←oP];exact(List.getElem?_eq_some_iff.1 hx).1
     exact ji i x v hx hv (rc0 i x TH[i] hx (by simp)) _ (fun _ _ _ _ h=>h)
  |t O1 xs vs hl hc=>
   intro O v _ O2 hO
   exact .t _ xs vs hl fun j x v a b=>(hc j x v a b).mono (fun _ _ h=>(by first|exact⟨h,rfl⟩|exact⟨h,.refl _ _ _⟩)) (fun _ _ _=>rfl) _ (fun b a c h=>⟨hO j b a c h,.refl _ _ _⟩)
 intro O2 hv ht
 cases h1 with
 |v _ x _ _=>exact absurd rfl (hv x)
 |t _ x _ _ _=>exact absurd rfl (ht x)
 |p _ b off an hb=>exact key (.p O2 b off an hb) h0 _ (fun _ _ _ _ h=>h)
 |a _ b n1 D2 _ hm hb=>exact key (.a O2 b n1 D2 _ hm hb) h0 _ (fun _ _ _ _ h=>h)
 |m _ b an hb=>exact key (.m O2 b an hb) h0 _ (fun _ _ _ _ h=>h)
 |c _ f first cap fv cv hf hc rf rc=>exact key (.c O2 f first cap fv cv hf hc rf rc) h0 _ (fun _ _ _ _ h=>h)
theorem ID{w0:World}{aq:S0}{e e1:Env}{a a1:Act}{w w1:World}{g g1:Gh}(hI:Inv gl w0 aq e a w g)(cU:Inv gl w0 aq e1 a1 w1 g1){b:Code}(hf:Fr h.gh b e e1){vars consts:List Nat}
  (hc:∀t∈consts,t∉cF h.gh b):Inv gl w0 aq (again vars consts (tu e1 vars) (tk e.boxes.length e1) e) a1 w1 (g1.cut e.boxes.length):=by
 have hX:Ext w0.heap.size w1 g1 w1 {g1 with bx:=g1.bx} (fun _=>False):=⟨fun _ _ hb ho h=>⟨h,hb,ho,fun _ h=>h⟩,fun _ _ h=>(by first|exact⟨h,rfl⟩|exact⟨h,.refl _ _ _⟩),fun _ _ _=>rfl,fun _ _ h=>h,fun _ _ _ _ _ h=>⟨h,.refl _ _ _⟩,.refl _⟩
 refine⟨cU.below,?_,?_,?_,?_,?_,cU.fY,?_,?_,?_,cU.defers,fun D o hD=>(have h:=cU.eR D o hD;⟨fun hm=>h.1 (uM hm),h.2⟩),cU.cls,cU.jH⟩
 ·rw[cU.size,hf.1];simp[again,Hz]
 ·intro i s hs
  simp only[again,HB,Option.map_eq_some_iff,Nat.zero_add]at hs
  obtain⟨s0,ma,rfl⟩:=hs
  have h1:=jQ cU i
  simp only[Act.eval]at h1
  split
  ·rename_i j hj
   obtain⟨_,uj⟩:=OF hj
   simp only[Nat.sub_zero]at uj
   have hv:ae (tu e1 vars) j=(e1.ai.getD i (.v .undef)).bP :=by
    simp[ae,tu,List.getD_eq_getElem?_getD,List.getElem?_map,uj]
   rw[hv]
   cases jI:e1.ai.getD i (.v .undef)with
   |v x=>
    rw[jI]at h1
    exact .v _ _ _ (h1.jT.mono (fun _ _ h=>(by first|exact⟨h,rfl⟩|exact⟨h,.refl _ _ _⟩)) (fun _ _ _=>rfl) _ (fun _ _ _ h=>⟨Ju h,.refl _ _ _⟩))
   |_=>exact .v _ _ _ (.undef _ _)
  ·cases dm:consts.contains i with
   |false=>exact .v _ _ _ (.undef _ _)
   |true=>
    have LQ:=hc i (by simpa using dm)
    have aR:=hf.2.2.1 i LQ
    have ae8:e.ai.getD i (.v .undef)=s0:=by rw[List.getD_eq_getElem?_getD,ma];rfl
    rw[ae8]at aR
    have h0:=hI.ai i s0 ma
    cases s0 with
    |v x=>exact .v _ _ _ (.undef _ _)
    |t x=>exact .v _ _ _ (.undef _ _)
    |p b' off=>
     have gE:e1.ai.getD i (.v .undef)=.p b' off:=by
      revert aR
      cases e1.ai.getD i (.v .undef)<;>simp[Slot.stays]
     rw[gE]at h1
     exact Cg h0 h1 (by rw[hI.ff];exact Nat.le_refl _) _ (by simp) (by simp)
    |a b' n1 D2=>
     have gE:e1.ai.getD i (.v .undef)=.a b' n1 D2:=by
      revert aR
      cases e1.ai.getD i (.v .undef)<;>simp[Slot.stays]
     rw[gE]at h1
     exact Cg h0 h1 (by rw[hI.ff];exact Nat.le_refl _) _ (by simp) (by simp)
    |m b'=>
     have gE:e1.ai.getD i (.v .undef)=.m b':=by
      revert aR
      cases e1.ai.getD i (.v .undef)<;>simp[Slot.stays]
     rw[gE]at h1
     exact Cg h0 h1 (by rw[hI.ff];exact Nat.le_refl _) _ (by simp) (by simp)
    |c f first cap=>
     have gE:e1.ai.getD i (.v .undef)=.c f first cap:=by
      revert aR
      cases e1.ai.getD i (.v .undef)<;>simp[Slot.stays]<;>intros<;>simp_all
     rw[gE]at h1
     exact Cg h0 h1 (by rw[hI.ff];exact Nat.le_refl _) _ (by simp) (by simp)
 ·simp only[again,HA,Gh.cut,List.length_take,cU.ff]
  have:=hf.2.1
  omega
 ·intro b' bx an h1 h2
  obtain⟨aK,h2⟩:=Aa h2
  simp only[again,HC,Option.map_eq_some_iff,Nat.zero_add]at h1
  obtain⟨D3,ae9,rfl⟩:=h1
  have Gl:b'<e1.boxes.length:=by rw[←cU.ff];exact(List.getElem?_eq_some_iff.1 h2).1
  have hr:=cU.boxes b' e1.boxes[b'] an (by simp) h2
  have w5:=hf.2.2.2 b' aK
  rw[List.getD_eq_getElem?_getD,List.getD_eq_getElem?_getD,ae9,List.getElem?_eq_getElem Gl,Option.getD_some,Option.getD_some]at w5
  have aeb:ao (tk e.boxes.length e1) b'=e1.boxes[b'].aB :=by
   simp[ao,tk,List.getD_eq_getElem?_getD,List.getElem?_map,List.getElem?_take,aK,Gl]
  rw[aeb]
  generalize e1.boxes[b']=L1 at hr w5
  have w5:D3≠.none ∧L1.isMap=D3.isMap:=by
   rcases w5 with h|h
   ·subst h;exact hr.elim
   ·exact h
  have qa:∀cs,L1.isMap=false→af.again cs D3=.cells cs:=fun cs h=>by
   rw[h]at w5
   cases D3<;>first|rfl|exact absurd rfl w5.1|exact absurd w5.2 (by simp[af.isMap])
  cases L1 with
  |none=>exact hr.elim
  |cells cs=>
   rw[qa _ rfl]
   obtain⟨r1,c,t,r2,r3,r4⟩:=hr
   exact⟨r1,c,t,r2,r3,r4.1,fun j x y hx hy=>(r4.2 j x y hx hy).mono (fun _ _ h=>(by first|exact⟨h,rfl⟩|exact⟨h,.refl _ _ _⟩)) (fun _ _ _=>rfl) _ (fun _ _ _ h=>⟨Ju h,.refl _ _ _⟩)⟩
  |one s=>
   rw[qa _ rfl]
   obtain⟨r1,c,t,r2,r3,r4⟩:=hr
   refine⟨r1,c,t,r2,r3,Nat.succ_le_of_lt r4.1,fun j x y hx hy=>?_⟩
   have:x=.undef :=by
    cases j<;>simp[af.aB]at hx
    exact hx.symm
   subst this
   exact .undef _ _
  |map l=>
   cases D3 with
   |map l0=>
    obtain⟨r1,es,clock,r2,r3,r4⟩:=hr
    exact⟨r1,es,clock,r2,r3,r4⟩
   |_=>exact absurd w5.2 (by simp[af.isMap])
 ·intro i j an h1 h2
  exact cU.nodup i j an (Aa h1).2 (Aa h2).2
 ·intro b' o h'
  exact⟨(cU.cG b' o h').1,fun hm=>(cU.cG b' o h').2.1 (uM hm),(cU.cG b' o h').2.2⟩
 ·intro b' h'
  exact cU.dj b' (uM h')
 ·exact cU.ke
theorem ER{w0:World}{aq:S0}{e:Env}{a:Act}{w:World}{g:Gh}(hI:Inv gl w0 aq e a w g){key:Nat}{c:Code}{QA:Ex→Env→Prop}{T:(Ex→Env→Prop)→Prop}
  (hF:∀Q,T Q→T (fun ex e'=>Q ex e'∧Fr h.gh c e e'))(hh:qd h key c e QA T):
  ∃uo,T uo∧∀ex e' a' w' g',Inv gl w0 aq e' a' w' g'→uo ex e'→∃lp wb,Inv gl w0 aq lp a' w' wb∧QA ex lp:=by
 unfold qd at hh
 generalize mY h.eQ key=kk at hh
 obtain⟨vars,consts⟩:=kk
 cases vars<;>cases consts
 ·exact⟨_,hh,fun ex e' a' w' g' h1 h2=>⟨e',g',h1,h2⟩⟩
 all_goals
  obtain⟨hb,hh⟩:=re (hh:cond _ _ False)
  simp only[Bool.and_eq_true,List.all_eq_true,Bool.not_eq_true',List.contains_eq_mem,decide_eq_false_iff_not]at hb
  refine⟨_,hF _ hh,fun ex e' a' w' g' h1 h2=>?_⟩
  obtain⟨h2,hf⟩:=h2
  cases ex with
  |normal=>exact⟨_,_,ID hI h1 hf hb.1,h2⟩
  |exit i=>exact⟨e',g',h1,h2⟩
  |ret=>exact⟨e',g',h1,h2⟩
theorem NO{id:Nat}{ops:Array Oper}{draw:Bool}{e:Env}(Q:Ex→Env→Prop)(hh:lU P gl (aD P gl) h id ops draw e (Q .normal)):
 lU P gl (aD P gl) h id ops draw e (fun e2=>Q .normal e2∧Fr h.gh (.region id ops draw) e e2):=OE hh
theorem aaD{w0:World}{aq:S0}{e:Env}{a:Act}{w:World}{g:Gh}(hI:Inv gl w0 aq e a w g){id:Nat}{ops:Array Oper}{draw:Bool}{K:Env→Prop}{Q:Exit→Act→World→Prop}(hm:P.follows .mixedOrders =true)
  (hh:lU P gl (aD P gl) h id ops draw e K)(hQ:∀e a w g,Inv gl w0 aq e a w g→K e→Q .normal a w):(Code.region id ops draw).wp P Q a w:=by
 unfold lU at hh
 obtain⟨hb,hh⟩:=re hh
 obtain⟨e1,g1,cU,h1⟩:=As hI hh
 have wc:∀e a w g,Inv gl w0 aq e a w g→gO (kD h.gh (4000000+id)) e K→Q .normal a w:=fun e a w g h1 h2=>by
  obtain⟨e2,g2,bO,h3⟩:=As h1 h2
  exact hQ e2 a w g2 bO h3
 cases hs:uV P draw ops.toList with
 |some s=>
  simp only[hs]at h1
  obtain⟨hd,L3⟩:=HV hs
  subst hd
  have hr:=P5 cU L3 h1
  refine wp_region ?_
  have:=QL (ops:=ops) (Q:=Q) (fun a' w'⟨e',g',bh,hk⟩=>wc e' a' w' g' bh hk) ops.toList 0 (fun j=>by simp) hr
  rw[List.range_eq_range']
  simpa using this
 |none=>
  simp only[hs]at h1
  exact XZ cU hm h1 fun e' a' w' g' bh hk=>wc e' a' w' g' bh hk
theorem OH{c:Operand}{a b:Code}{e:Env}(Q:Ex→Env→Prop)(hh:oq e c (aw P gl (aD P gl) h a Q) (aw P gl (aD P gl) h b Q)):
  oq e c (aw P gl (aD P gl) h a fun x e'=>Q x e'∧Fr h.gh (.cond c a b) e e') (aw P gl (aD P gl) h b fun x e'=>Q x e'∧Fr h.gh (.cond c a b) e e'):=
 HW (A:=aw P gl (aD P gl) h a Q) (B:=aw P gl (aD P gl) h b Q)
     (fun ha=>k8 a (fun y e2 hy=>⟨hy.1,hy.2.mono fun t ht=>by simp[cF,ht]⟩) (pZ a ha)) (fun hb=>k8 b (fun y e2 hy=>⟨hy.1,hy.2.mono fun t ht=>by simp[cF,ht]⟩) (pZ b hb)) hh
theorem tg(hm:P.follows .mixedOrders =true):∀(c:Code){w0:World}{aq:S0}{QA:Ex→Env→Prop}{e:Env}{a:Act}{w:World}{g:Gh}{Q:Exit→Act→World→Prop},
  Inv gl w0 aq e a w g→aw P gl (aD P gl) h c QA e→(∀x e' a' w' g',Inv gl w0 aq e' a' w' g'→QA x e'→Q x.to a' w')→c.wp P Q a w
 | .skip,_,_,_,_,_,_,_,_,hI,hh,hQ=>wp_skip (hQ .normal _ _ _ _ hI hh)
 | .region id ops draw,w0,aq,QA,e,a,w,g,Q,hI,hh,hQ=>by
   obtain⟨uo,hh,hj⟩:=ER hI (c:=.region id ops draw) (T:=fun Q=>lU P gl (aD P gl) h id ops draw e (Q .normal)) (fun Q hh=>NO Q hh) hh
   have hQ:∀x e' a' w' g',Inv gl w0 aq e' a' w' g'→uo x e'→Q x.to a' w':=fun x e' a' w' g' h1 h2=>(by
    obtain⟨lp,wb,h3,h4⟩:=hj x e' a' w' g' h1 h2
    exact hQ x lp a' w' wb h3 h4)
   clear hj
   exact aaD hI hm hh fun e' a' w' g' bh hk=>hQ .normal e' a' w' g' bh hk
 | .seq x y,w0,aq,QA,e,a,w,g,Q,hI,hh,hQ=>by
   refine wp_seq (tg hm x hI hh fun ex e' a' w' g' bh hk=>?_)
   cases ex with
   |normal=>exact tg hm y bh hk hQ
   |exit i=>exact hQ (.exit i) e' a' w' g' bh hk
   |ret=>exact hQ .ret e' a' w' g' bh hk
 | .cond c x y,w0,aq,QA,e,a,w,g,Q,hI,hh,hQ=>by
   obtain⟨uo,hh,hj⟩:=ER hI (c:=.cond c x y) (T:=fun Q=>oq e c (aw P gl (aD P gl) h x Q) (aw P gl (aD P gl) h y Q)) (fun Q hh=>OH Q hh) hh
   have hQ:∀x e' a' w' g',Inv gl w0 aq e' a' w' g'→uo x e'→Q x.to a' w':=fun x e' a' w' g' h1 h2=>(by
    obtain⟨lp,wb,h3,h4⟩:=hj x e' a' w' g' h1 h2
    exact hQ x lp a' w' wb h3 h4)
   clear hj
   cases c with
   |tmp t=>
    simp only[oq]at hh
    have hs:=jQ hI t
    cases hx:e.ai.getD t (.v .undef)with
    |v z=>
     rw[hx]at hh hs
     obtain⟨b,rfl,h1,h2⟩:=Aq hh
     have hv:=hs.jT.data.tf
     refine wp_cond_split hv (fun hb=>?_) (fun hb=>?_)
     ·have:=h1 hb
      subst hb
      rw[uF hx]at this
      exact tg hm x hI this hQ
     ·have:=h2 hb
      subst hb
      rw[uF hx]at this
      exact tg hm y hI this hQ
    |_=>rw[hx]at hh;exact hh.elim
   |const v=>
    cases v with
    |bool b=>
     refine wp_cond_split (t:=b) rfl (fun hb=>?_) (fun hb=>?_)
     ·subst hb;exact tg hm x hI hh hQ
     ·subst hb;exact tg hm y hI hh hQ
    |_=>exact hh.elim
   |_=>exact hh.elim
 | .block id b,w0,aq,QA,e,a,w,g,Q,hI,hh,hQ=>by
   refine wp_block (tg hm b hI hh fun ex e' a' w' g' bh hk=>?_)
   cases ex with
   |normal=>exact hQ .normal e' a' w' g' bh hk
   |exit i=>
    have bK:cond (i==id) (QA .normal e') (QA (.exit i) e'):=hk
    show(if i=id then Q .normal a' w' else Q (.exit i) a' w')
    cases hb:(i==id)with
    |true=>
     rw[hb]at bK
     rw[if_pos (beq_iff_eq.1 hb)]
     exact hQ .normal e' a' w' g' bh bK
    |false=>
     rw[hb]at bK
     rw[if_neg (beq_eq_false_iff_ne.1 hb)]
     exact hQ (.exit i) e' a' w' g' bh bK
   |ret=>exact hQ .ret e' a' w' g' bh hk
 | .loop b,w0,aq,QA,e,a,w,g,Q,hI,hh,hQ=>by
   obtain⟨hb,hh⟩:=re (hh:cond _ _ False)
   simp only[Bool.and_eq_true,List.all_eq_true,Bool.not_eq_true',List.contains_eq_mem,decide_eq_false_iff_not]at hb
   obtain⟨KW,hk⟩:=hb
   let LW:Act→World→Prop:=fun a1 w1=>∀(fr:Frame)(k:List Item)(cs:List Frame),∃ex a' w',Q ex a' w'∧Arrives P (lone (fr.at a1 (.code b::.inLoop b::k)) cs w1) fr k cs ex a' w'
   let I:List SV→List (List SV)→Prop:=fun vs bs=>∀e1 a1 w1 g1,Inv gl w0 aq e1 a1 w1 g1→Fr h.gh b e e1→tu e1 (mY h.eQ (mA b)).1=vs→tk e.boxes.length e1=bs→LW a1 w1
   have key:I _ _:=hh I fun vs bs hF e1 a1 w1 g1 cU wa jX gX=>by
    subst jX gX
    have L5:=ID hI cU wa (vars:=(mY h.eQ (mA b)).1) KW
    have jd:=tg hm b (Q:=fun ex a' w'=>match ex with| .normal =>LW a' w'|ex=>Q ex a' w') L5 (pZ b hF) (fun ex e' a' w' g' bh bK=>by
     obtain⟨iS,kT⟩:=bK
     cases ex with
     |normal=>exact iS e' a' w' g' bh ((Fb hk).trans kT (fun t ht=>ht) (fun t ht=>ht)) rfl rfl
     |exit i=>exact hQ (.exit i) e' a' w' g' bh iS
     |ret=>exact hQ .ret e' a' w' g' bh iS)
    intro fr k cs
    obtain⟨ex,a2,w2,hq,lY⟩:=jd fr (.inLoop b::k) cs
    cases ex with
    |normal=>
     obtain⟨e₂,a₂,w₂,L6,Ko⟩:=hq fr k cs
     exact⟨e₂,a₂,w₂,L6,.of_steps (Steps.trans lY (.one step_inLoop)) Ko⟩
    |exit id=>exact⟨_,a2,w2,hq,.pass (x:=.inLoop b) rfl (fun _ _=>.inl (by simp)) lY⟩
    |goto l=>exact⟨_,a2,w2,hq,.pass (x:=.inLoop b) rfl (fun _ _=>.inl (by simp)) lY⟩
    |ret=>exact⟨_,a2,w2,hq,.pass (x:=.inLoop b) rfl (fun _ _=>.inl (by simp)) lY⟩
    |panic ch=>exact⟨_,a2,w2,hq,.pass (x:=.inLoop b) rfl (fun _ _=>.inl (by simp)) lY⟩
    |outgrown=>exact⟨_,a2,w2,hq,.pass (x:=.inLoop b) rfl (fun _ _=>.inl (by simp)) lY⟩
   have L7:LW a w:=key e a w g hI (Fr.refl _ _) rfl rfl
   intro fr k cs
   obtain⟨ex,a',w',hq,lY⟩:=L7 fr k cs
   exact⟨ex,a',w',hq,.of_steps (.one step_loop) lY⟩
 | .exit id,_,_,_,_,_,_,_,_,hI,hh,hQ=>wp_exit (hQ (.exit id) _ _ _ _ hI hh)
 | .ret,_,_,_,_,_,_,_,_,hI,hh,hQ=>wp_ret (hQ .ret _ _ _ _ hI hh)
 | .goto _,_,_,_,_,_,_,_,_,_,hh,_=>hh.elim
 | .label _,_,_,_,_,_,_,_,_,hI,hh,hQ=>wp_label (hQ .normal _ _ _ _ hI hh)
 | .scope _,_,_,_,_,_,_,_,_,_,hh,_=>hh.elim
 | .rangeFunc _ _ _ _,_,_,_,_,_,_,_,_,_,hh,_=>hh.elim
 | .refuse _,_,_,_,_,_,_,_,_,_,hh,_=>hh.elim
end
end Go.Proofs.Ytimbllcalipehaa.Ab
namespace Go.Proofs.Ytimbllcalipehaa.Ab
open Go Go.RowKit
section
variable{P:Program}{gl:Nat→Option D}{h:Hints}
theorem X4{f:FuncId}{fn:Func}{c:Code}(hf:P.funcs[f]? =some fn)(Kp:(fn.name== "runtime.NumGoroutine")=false)(hb:fn.body=some c):lQ P f:=by
 intro args w
 have h1:fn.name≠ "runtime.NumGoroutine" :=by simpa using Kp
 simp[callFunc,hf,h1,hb]
theorem aJ.AX{w:World}{St:Nat→Nat→Prop}{base:Nat}{O:Nat→Nat→Nat→Prop}{x:SV}{v:Value}(r:aJ w St base O x v)(hx:x.ay=true):aJ w St 0 O x v:=by
 have hL:∀{l:List SV},SV.gM l=true→∀(i:Nat)y,l[i]? =some y→y.ay=true:=by
  intro l
  induction l with
  |nil=>intro _ i y h;simp at h
  |cons z l ih=>
   intro h i y hy
   simp only[SV.gM,Bool.and_eq_true]at h
   cases i with
   |zero=>simp at hy;subst hy;exact h.1
   |succ i=>exact ih h.2 i y (by simpa using hy)
 induction r with
 |d O x v hd=>exact .d O x v hd
 |own O sz L g cap hd bF ho=>exact .own O sz L g cap hd bF ho
 |full O sz L a hd=>exact .full O sz L a hd
 |ref=>simp[SV.ay]at hx
 |cJ=>simp[SV.ay]at hx
 |aT O x off b o vs hf aO hc=>exact .aT O x off b o vs hf aO hc
 |dg O f first cap fv cv hf hc _ _ jh ji=>
  simp only[SV.ay,Bool.and_eq_true]at hx
  exact .dg O f first cap fv cv hf hc (fun i x v a b=>jh i x v a b (hL hx.1 i x a)) (fun i x v a b=>ji i x v a b (hL hx.2 i x a))
 |bt O sz L g cap vs h1 h2 h3 h4 h5 h6 h7=>exact .bt O sz L g cap vs h1 h2 h3 h4 h5 h6 h7
 |mp O l r es clock hh hs hl hc=>exact .mp O l r es clock hh hs hl hc
 |undef O v=>exact .undef O v
theorem aJ.aaE{w:World}{St:Nat→Nat→Prop}{base:Nat}{O:Nat→Nat→Nat→Prop}{l:List SV}{v:Value}(r:aJ w St base O (.aL l) v):False:=by cases r
def yf(r:ResultVar)(tmps:Array Value):Sem Value:=match r with
 | .tmp t=>pure (tmps.getD t undef)
 | .cell a t=>do loadVar t (←asAddr (tmps.getD a undef))
theorem Xe(fn:Func)(tmps:Array Value):results fn tmps=(fn.results.mapM fun r=>yf r tmps)>>=fun vs=>pure (if h:vs.size=1 then vs[0]else .tuple vs):=by
 unfold results
 congr 1
def RB(rs:List ResultVar):Pos→Option Nat
 | .s t 0=>rs.findIdx? fun r=>match r with| .tmp u=>u==t|_=>false
 |_=>none
def vb(g:Gh)(rs:List ResultVar)(b:Nat):Option Nat:=(g.ow b).bind (RB rs)
theorem P6{w0:World}{aq:S0}{e:Env}{a:Act}{w:World}{g:Gh}(hI:Inv gl w0 aq e a w g){rs:List ResultVar}{used:List Nat}{j:Nat}{r:ResultVar}(hr:rs[j]? =some r)
  (aec:∀i u,i<j→rs[i]? =some (.tmp u)→u∈used){k:SV→Prop}(hh:yY P e used r k):
  ∃x v,k x∧(yf r a.tmps).run P w=.ok v w∧aJ w g.St 0 (vr w0.heap.size w g.St (vb g rs) j) x v:=by
 cases r with
 |tmp t=>
  simp only[yY]at hh
  have hs:=jQ hI t
  cases hx:e.ai.getD t (.v .undef)with
  |v x=>
   rw[hx]at hh hs
   obtain⟨hn,hk⟩:=hh
   refine⟨_,a.tmps.getD t undef,hk,rfl,?_⟩
   have hv:aJ w g.St 0 (fe w0.heap.size w g t 0) x (a.tmps.getD t undef):=hs.jT.AX hn
   cases hu:used.contains t with
   |true=>exact hv.aa
   |false=>
    refine hv.mono (fun _ _ h=>(by first|exact⟨h,rfl⟩|exact⟨h,.refl _ _ _⟩)) (fun _ _ _=>rfl) _ fun b a' c ho=>⟨?_,.refl _ _ _⟩
    obtain⟨o1,o2,_,o4,o5⟩:=ho
    refine⟨?_,o2,o4,o5⟩
    simp only[vb,o1,Option.bind_some,RB]
    rw[List.findIdx?_eq_some_iff_getElem]
    have hj:j<rs.length:=(List.getElem?_eq_some_iff.1 hr).1
    have LP:rs[j]=.tmp t:=(List.getElem?_eq_some_iff.1 hr).2
    refine⟨hj,by simp[LP],fun i hi=>?_⟩
    have nq:i<rs.length:=by omega
    cases qG:rs[i]with
    |tmp u=>
     have:=aec i u hi (by rw[List.getElem?_eq_getElem nq,qG])
     have bg:u≠t:=by
      rintro rfl
      simp at hu
      exact hu this
     simpa using bg
    |cell _ _=>simp
  |_=>rw[hx]at hh;exact hh.elim
 |cell c t=>
  simp only[yY]at hh
  obtain⟨ly,hl,hh⟩:=aH hh
  obtain⟨b0,n⟩:=ly
  have hs:=jQ hI c
  cases hx:e.ai.getD c (.v .undef)with
  |p bn off=>
   rw[hx]at hh hs
   obtain⟨an,hv,dh⟩:=hs.mE
   simp only[Act.eval]at hv
   change p6 b0 n bn off e.boxes _ at hh
   unfold p6 at hh
   split at hh
   ·rename_i cs bS
    obtain⟨y,hy,hn,hk⟩:=aH hh
    obtain⟨h0,cc,ty,hc,cg,hlen,bc⟩:=hI.boxes bn _ an bS dh
    obtain⟨v,h1,h2⟩:=H6 (w:=w) (off:=off) (St:=g.St) (O:=fun j=>rJ w0.heap.size w g bn j) hl hy an 0 (fun i=>cc.getD i undef) (fun i hi=>by
     rw[cell_of_row w an (0+i) cc ty (0,0) hc];simp[Nat.lt_of_lt_of_le hi hlen]) (fun i d hd=>by
     have hi:=(List.getElem?_eq_some_iff.1 hd).1
     exact bc i d _ hd (by simp[Nat.lt_of_lt_of_le hi hlen])) (fun i hi=>by
     have eH:i<cc.size:=Nat.lt_of_lt_of_le hi hlen
     simp[eH];exact cg i _ hi (by simp))
    simp only[Nat.zero_add]at h1
    refine⟨_,v,hk,?_,(h2.aa (O':=fun _ _ _=>False)).AX hn |>.mono (fun _ _ h=>(by first|exact⟨h,rfl⟩|exact⟨h,.refl _ _ _⟩)) (fun _ _ _=>rfl) _ (fun _ _ _ h=>h.elim)⟩
    simp[yf,hv,asAddr,h1]
   ·rename_i s mK
    cases b0 with
    |true=>exact hh.elim
    |false=>
     simp only[cond_false]at hh
     split at hh
     ·obtain⟨h0,cc,ty,hc,cg,aM,bc⟩:=hI.boxes bn _ an mK dh
      have DI:cc[0]? =some (cc[0]'(by omega)):=by simp
      have hd:=(bc _ DI).aa (O':=fun _ _ _ _=>False)
      split at hh
      ·rename_i x dK
       obtain⟨hn,hk⟩:=hh
       rw[dK]at hd
       refine⟨x,cc[0]'(by omega),hk,?_,hd.jT.AX hn |>.mono (fun _ _ h=>(by first|exact⟨h,rfl⟩|exact⟨h,.refl _ _ _⟩)) (fun _ _ _=>rfl) _ (fun _ _ _ h=>h.elim)⟩
       have ba:=x5 (P:=P) (w:=w) (vs:=fun _=>cc[0]'(by omega)) hl an 0 (fun j hj=>by
        simp at hj;subst hj
        rw[cell_of_row w an (0+0) cc ty (0,0) hc];exact DI)
       simp[yf,hv,asAddr,ba]
      ·exact hh.elim
     ·exact hh.elim
   ·exact hh.elim
  |_=>rw[hx]at hh;exact hh.elim
theorem Po{w0:World}{aq:S0}{e:Env}{a:Act}{w:World}{g:Gh}(hI:Inv gl w0 aq e a w g){rs:List ResultVar}:∀(l:List ResultVar)(used:List Nat)(j:Nat)(k:List SV→Prop),(∀i,l[i]? =rs[j+i]?)→
  (∀i u,i<j→rs[i]? =some (.tmp u)→u∈used)→yL P e used l k→
  ∃xs vs,k xs∧xs.length=l.length∧(l.mapM fun r=>yf r a.tmps).run P w=.ok vs w∧vs.length=l.length∧∀(i:Nat)x v,xs[i]? =some x→vs[i]? =some v→aJ w g.St 0 (vr w0.heap.size w g.St (vb g rs) (j+i)) x v
 |[],_,_,k,_,_,hh=>⟨[],[],hh,rfl,by simp,rfl,fun i x v h=>by simp at h⟩
 |r::l,used,j,k,hl,hu,hh=>by
  simp only[yL]at hh
  have hr:rs[j]? =some r:=by simpa using(hl 0).symm
  obtain⟨x,v,hk,ba,bc⟩:=P6 hI hr hu hh
  obtain⟨xs,vs,bK,L8,aed,zF,F3⟩:=Po hI l (FK used r) (j+1) _ (fun i=>by have:=hl (i+1);simpa[Nat.add_assoc,Nat.add_comm 1 i]using this) (fun i u hi qG=>by
   rcases Nat.lt_or_ge i j with h'|h'
   ·have:=hu i u h' qG
    cases r<;>simp[FK,this]
   ·have:i=j:=by omega
    subst this
    rw[hr]at qG
    cases qG
    simp[FK]) hk
  refine⟨x::xs,v::vs,bK,by simp[L8],?_,by simp[zF],fun i y u hy hv=>?_⟩
  ·simp[List.mapM_cons,ba,aed]
  ·cases i with
   |zero=>simp at hy hv;subst hy hv;exact bc
   |succ i=>
    have:=F3 i y u (by simpa using hy) (by simpa using hv)
    rw[show j+(i+1)=j+1+i by omega]
    exact this
theorem B2{fn:Func}{tmps:Array Value}{vs:List Value}{w:World}(hh:(fn.results.toList.mapM fun r=>yf r tmps).run P w=.ok vs w):
  (results fn tmps).run P w=.ok (match vs with|[v]=>v|vs=>.tuple vs.toArray) w:=by
 rw[Xe,Array.mapM_eq_mapM_toList]
 simp only[Sem.run_bind,map_eq_pure_bind,hh,Result.andThen_ok,Sem.run_pure]
 match vs with
 |[]=>simp
 |[v]=>simp
 |v::u::l=>simp
theorem Ii{w0:World}{aq:S0}{e:Env}{a:Act}{w:World}{g:Gh}(hI:Inv gl w0 aq e a w g){fn:Func}{K:SV→Prop}(hh:finish P fn e K):
  ∃r v,K r∧(results fn a.tmps).run P w=.ok v w∧uW w0.heap.size w g.St (vb g fn.results.toList) r v:=by
 unfold finish at hh
 split at hh
 ·rename_i r hr
  have L9:fn.results.toList[0]? =some r:=by rw[hr];rfl
  obtain⟨x,v,hk,ba,bc⟩:=P6 hI L9 (fun i u hi=>by omega) hh
  refine⟨x,v,hk,?_,?_⟩
  ·have:=B2 (P:=P) (fn:=fn) (tmps:=a.tmps) (w:=w) (vs:=[v]) (by rw[hr];simp[ba])
   exact this
  ·cases x with
   |aL l=>exact bc.aaE.elim
   |_=>exact bc
 ·rename_i bg
  obtain⟨xs,vs,hk,L8,ba,zF,bc⟩:=Po hI (rs:=fn.results.toList) fn.results.toList [] 0 _ (fun i=>by simp) (fun i u hi=>by omega) hh
  refine⟨.aL xs,.tuple vs.toArray,hk,?_,vs.toArray,rfl,by simp[L8,zF],fun j x y hx hy=>?_⟩
  ·rw[B2 ba]
   split
   ·rename_i v
    exfalso
    match Ma:fn.results.toList with
    |[]=>rw[Ma]at zF;simp at zF
    |[r]=>exact bg r Ma
    |_::_::_=>rw[Ma]at zF;simp at zF
   ·rfl
  ·have:=bc j x y hx (by simpa using hy)
   simpa using this
theorem cE(hm:P.follows .mixedOrders =true){f:FuncId}{args:List SV}{r:SV}(hE:lQ P f)(hh:body P gl (aD P gl) h f args fun x=>x=r)(ha:lV args=none:=by rfl):aD P gl f args r:=by
 rw[x9 ha]
 refine⟨hE,fun w St vs nt oO hlen eI=>?_⟩
 unfold body at hh
 split at hh
 ·rename_i fn hf
  split at hh
  ·rename_i c hb
   have bC:SV.gn args:=by
    rw[SV.kC]
    intro x hx
    obtain⟨i,hi,rfl⟩:=List.mem_iff_getElem.1 hx
    exact(eI i _ (vs[i]'(by omega)) (by simp) (by simp)).wf
   have hh:=hh bC
   have hI:Inv gl w {St:=St,df:=fun _ _=>False,cl:=fun _ _ _=>False} (enter fn.ntmps args) {tmps:=vs++Array.replicate (fn.ntmps-vs.size) undef,defers:=[]} w ⟨St,[],fun _=>none⟩:=by
    refine⟨Below.refl _ _,by simp[enter,hlen],fun i s hs=>?_,rfl,fun b bx an h1=>by simp[enter]at h1,fun i j an h1=>by simp at h1,fun _ _ h=>h,fun b o hb=>⟨.inl hb,by simp,nt b o hb⟩,fun b hb=>by simp at hb,oO,rfl,fun D o hD=>hD.elim,fun b o v hv=>hv.elim,Nat.zero_le _⟩
    simp only[enter]at hs
    rw[List.getElem?_append]at hs
    split at hs
    ·rename_i hi
     simp only[List.length_map]at hi
     simp only[List.getElem?_map,Option.map_eq_some_iff]at hs
     obtain⟨x,hx,rfl⟩:=hs
     have D4:i<vs.size:=by omega
     have:=eI i x vs[i] hx (by simp)
     have jF:(vs++Array.replicate (fn.ntmps-vs.size) undef).getD i undef=vs[i]:=by
      simp[Array.getElem?_append,D4]
     rw[jF]
     exact .v _ _ _ (this.mono (fun _ _ h=>(by first|exact⟨h,rfl⟩|exact⟨h,.refl _ _ _⟩)) (fun _ _ _=>rfl) _ (fun _ _ _ h=>h.elim))
    ·have:=(List.mem_replicate.1 (List.mem_of_getElem? hs)).2
     subst this
     exact .v _ _ _ (.undef _ _)
   refine calls_of_wp hf hb (tg hm c hI hh fun ex e' a' w' g' bh hk=>?_)
   have A8:∀{K},finish P fn e' K→(∀x,K x→x=r)→a'.defers=[]∧∃v,(results fn a'.tmps).run P w'=.ok v w'∧(∃v',(Ending.returned v)=.returned v'∧Below w.heap.size w w'∧∃bE ow,(∀b o,St b o→bE b o)∧
     (∀b o,bE b o→St b o∨(w.heap.size≤b∧b<w'.heap.size))∧uW w.heap.size w' bE ow r v'):=by
    intro K hk hKr
    obtain⟨r',v,iS,ba,bc⟩:=Ii bh hk
    have:=hKr r' iS
    subst this
    exact⟨bh.defers,v,ba,v,rfl,bh.below,g'.St,_,bh.fY,fun b o h=>(bh.cG b o h).1.imp id fun h1=>⟨h1,(bh.cG b o h).2.2⟩,bc⟩
   cases ex with
   |normal=>exact A8 hk fun x hx=>hx
   |exit i=>exact hk.elim
   |ret=>exact A8 hk fun x hx=>hx
  ·exact hh.elim
 ·exact hh.elim
end
end Go.Proofs.Ytimbllcalipehaa.Ab
namespace Go.Proofs.Ytimbllcalipehaa.Ab
open Go
def aX(x:SV):Option SV:=match x with| .cJ n _ _=>some (.d (.int .i64 n))|x=>(match Cd x with|some L=>some (.d (.int .i64 L.length))|none=>none)
def JW(s:Nat)(x:SV)(lo hi mx:Option SV):Option SV:=match cN x with
 |some (.sl k sz L)=>(match C0 L lo hi,mx with
  |some r,none=>(match k with| .nil =>some (.d (.sl .nil s []))| .ro =>if sz=s then some (.d (.sl .ro sz r))else none)
  |some r,some m=>(match hi,cM m (L.length+1)with
   |some h,some _=>(match h,m with
    | .d (.int _ a),.d (.int _ b)=>if a=b then(match k with| .nil =>some (.d (.sl .nil s []))| .ro =>if sz=s then some (.full sz r)else none)else none
    |_,_=>none)
   |_,_=>none)
  |none,_=>none)
 |_=>none
def aN:List (Nat×Slot)→Option (List (Nat×D))
 |[]=>some []
 |(i,s)::l=>match s with
  | .v y=>(match cN y with
    |some z=>(match aN l with|some r=>some ((i,z)::r)|none=>none)
    |none=>none)
  |_=>none
end Go.Proofs.Ytimbllcalipehaa.Ab
namespace Go.Proofs.Ytimbllcalipehaa.Ab
open Go Go.RowKit Go.ChangeShapes Go.WideShapes
inductive RL{α β:Type}(R:α→β→Prop):List α→List β→Prop
 |nil:RL R [] []
 |cons {a:α} {b:β} {l:List α} {m:List β} (h:R a b) (t:RL R l m):RL R (a::l) (b::m)
section
variable{α β:Type}{R S:α→β→Prop}
theorem RL.length{l:List α}{m:List β}(h:RL R l m):l.length=m.length:=by induction h<;>simp_all
theorem RL.append{l l':List α}{m m':List β}(h:RL R l m)(h':RL R l' m'):RL R (l++l') (m++m'):=by
 induction h with
 |nil=>exact h'
 |cons h _ ih=>exact .cons h ih
theorem RL.mono(hm:∀a b,R a b→S a b){l:List α}{m:List β}(h:RL R l m):RL S l m:=by
 induction h with
 |nil=>exact .nil
 |cons h _ ih=>exact .cons (hm _ _ h) ih
theorem RL.get{l:List α}{m:List β}(h:RL R l m):∀(i:Nat)(a:α)(b:β),l[i]? =some a→m[i]? =some b→R a b:=by
 induction h with
 |nil=>intro i a b h;simp at h
 |cons h _ ih=>
  intro i a b ha hb
  cases i with
  |zero=>simp at ha hb;subst ha hb;exact h
  |succ i=>exact ih i a b (by simpa using ha) (by simpa using hb)
end
def pack(b:Bool)(xs:List D):D:=match b,xs with
 |true,xs=>.agg xs
 |false,[x]=>x
 |false,_=>.oa
inductive Is(P:Program):TypeId→List D→Prop
 |bool {t:TypeId} (h:P.underlying t=some .bool) (b:Bool):Is P t [.bool b]
 |int {t:TypeId} {k:IntKind} (h:P.underlying t=some (.int k)) (n:Int) (hn:gm k n=true):Is P t [.int k n]
 |str {t:TypeId} (h:P.underlying t=some .string) (s:List UInt8) (hs:s.length≤maxLen):Is P t [.str s]
 |iJ {t e:TypeId} (h:P.underlying t=some (.slice e)):Is P t [.sl .nil 0 []]
 |sl {t e:TypeId} (h:P.underlying t=some (.slice e)) (b:Bool) (hb:dO P e=some b) (L:List (List D)) (hm:L.length≤maxLen) (hL:∀x∈L,Is P e x):
   Is P t [.sl .ro (P.cellsOf e) (L.map (pack b))]
 |struct {t:TypeId} {fs:Array Field} (h:P.underlying t=some (.struct fs)) (parts:List (List D)) (hl:parts.length=fs.size)
   (hp:∀(i:Nat)f p,fs[i]? =some f→parts[i]? =some p→Is P f.type p):Is P t parts.flatten
 |array {t e:TypeId} {n:Nat} (h:P.underlying t=some (.array n e)) (parts:List (List D)) (hl:parts.length=n) (hp:∀p∈parts,Is P e p):Is P t parts.flatten
section
variable{P:Program}{t:TypeId}{xs:List D}
theorem Is.tf(ht:P.underlying t=some .bool)(h:Is P t xs):∃b,xs=[.bool b]:=by
 cases h with
 |bool _ b=>exact⟨b,rfl⟩
 |_=>simp_all
theorem Is.rn{k:IntKind}(ht:P.underlying t=some (.int k))(h:Is P t xs):∃n,xs=[.int k n]∧gm k n=true:=by
 cases h with
 |int h n hn=>rw[ht]at h;cases h;exact⟨n,rfl,hn⟩
 |_=>simp_all
theorem Is.uL(ht:P.underlying t=some .string)(h:Is P t xs):∃s,xs=[.str s]∧s.length≤maxLen:=by
 cases h with
 |str h s hs=>exact⟨s,rfl,hs⟩
 |_=>simp_all
theorem Is.JX{e:TypeId}{b:Bool}(ht:P.underlying t=some (.slice e))(hb:dO P e=some b)(h:Is P t xs):
  xs=[.sl .nil 0 []]∨∃L:List (List D),xs=[.sl .ro (P.cellsOf e) (L.map (pack b))]∧L.length≤maxLen∧∀x∈L,Is P e x:=by
 cases h with
 |iJ h=>exact .inl rfl
 |sl h b' ei L hm hL=>rw[ht]at h;cases h;rw[hb]at ei;cases ei;exact .inr ⟨L,rfl,hm,hL⟩
 |_=>simp_all
theorem Is.x8{fs:Array Field}(ht:P.underlying t=some (.struct fs))(h:Is P t xs):
  ∃parts:List (List D),xs=parts.flatten∧parts.length=fs.size∧∀(i:Nat)f p,fs[i]? =some f→parts[i]? =some p→Is P f.type p:=by
 cases h with
 |struct h parts hl hp=>rw[ht]at h;cases h;exact⟨parts,rfl,hl,hp⟩
 |_=>simp_all
theorem Is.X5{e:TypeId}{n:Nat}(ht:P.underlying t=some (.array n e))(h:Is P t xs):∃parts:List (List D),xs=parts.flatten∧parts.length=n∧∀p∈parts,Is P e p:=by
 cases h with
 |array h parts hl hp=>rw[ht]at h;cases h;exact⟨parts,rfl,hl,hp⟩
 |_=>simp_all
end
def tM(P:Program):List Field→Nat→Option Nat
 |[],n=>some n
 |f::fs,n=>bif Nat.beq f.offset n then tM P fs (n+P.cellsOf f.type)else none
def sr(P:Program)(L:List Nat)(t:TypeId):Bool:=match P.underlying t with
 |some .bool =>Nat.beq (P.cellsOf t) 1
 |some (.int _)=>Nat.beq (P.cellsOf t) 1
 |some .string =>Nat.beq (P.cellsOf t) 1
 |some (.slice e)=>Nat.beq (P.cellsOf t) 1&&L.contains e&&Nat.ble 1 (P.cellsOf e)
 |some (.array n e)=>L.contains e&&Nat.beq (P.cellsOf t) (n*P.cellsOf e)
 |some (.struct fs)=>fs.toList.all (fun f=>L.contains f.type)&&(match tM P fs.toList 0 with|some n=>Nat.beq n (P.cellsOf t)|none=>false)
 |_=>false
def tn(P:Program)(L:List Nat):Bool:=L.all (sr P L)
section
variable{P:Program}{L:List Nat}
theorem Ja:∀(fs:List Field)(n m:Nat),tM P fs n=some m→m=n+(fs.map fun f=>P.cellsOf f.type).sum
 |[],n,m,h=>by simp[tM]at h;simp[h]
 |f::fs,n,m,h=>by
  simp only[tM]at h
  cases hb:Nat.beq f.offset n<;>rw[hb]at h
  ·cases h
  ·have:=Ja fs _ _ h
   simp only[List.map_cons,List.sum_cons]
   omega
theorem P7:∀(fs:List Field)(n m:Nat),tM P fs n=some m→∀(j:Nat)f,fs[j]? =some f→f.offset=n+((fs.take j).map fun f=>P.cellsOf f.type).sum
 |[],n,m,h,j,f,hj=>by simp at hj
 |f::fs,n,m,h,j,g,hj=>by
  simp only[tM]at h
  cases hb:Nat.beq f.offset n<;>rw[hb]at h
  ·cases h
  ·have hn:=Nat.eq_of_beq_eq_true hb
   cases j with
   |zero=>simp at hj;subst hj;simp[hn]
   |succ j=>
    have:=P7 fs _ _ h j g (by simpa using hj)
    simp only[List.take_succ_cons,List.map_cons,List.sum_cons]
    omega
theorem uG(h:tn P L=true){t:TypeId}(ht:t∈L):sr P L t=true:=List.all_eq_true.1 h t ht
theorem Wm(h:tn P L=true):Kids P (· ∈L) where
 pointer:=fun{t e}ht hu=>by have:=uG h ht;simp[sr,hu]at this
 slice:=fun{t e}ht hu=>by have:=uG h ht;simp[sr,hu]at this;exact this.1.2
 array:=fun{t e n}ht hu=>by
  have:=uG h ht
  simp only[sr,hu,Bool.and_eq_true]at this
  exact⟨by simpa using this.1,Nat.eq_of_beq_eq_true this.2⟩
 struct:=fun{t fs}ht hu=>by
  have:=uG h ht
  simp only[sr,hu,Bool.and_eq_true]at this
  refine⟨fun f hf=>by simpa using List.all_eq_true.1 this.1 f hf,?_⟩
  have h2:=this.2
  split at h2
  ·rename_i n hn
   have e:=Nat.eq_of_beq_eq_true h2
   refine⟨by rw[←e,Ja _ _ _ hn];omega,fun j f hj=>by rw[P7 _ _ _ hn j f hj];omega⟩
  ·cases h2
 map:=fun{t k e}ht hu=>by have:=uG h ht;simp[sr,hu]at this
theorem Xf(h:tn P L=true){t e:TypeId}(ht:t∈L)(hu:P.underlying t=some (.slice e)):0<P.cellsOf e:=by
 have:=uG h ht
 simp[sr,hu]at this
 omega
theorem OI{β:Type}(cs:List β):∀(fs:List Field)(n m:Nat),tM P fs n=some m→cs.length=m→cs.drop n=(fs.map fun f=>(cs.drop f.offset).take (P.cellsOf f.type)).flatten
 |[],n,m,h,hm=>by simp[tM]at h;simp;omega
 |f::fs,n,m,h,hm=>by
  simp only[tM]at h
  cases hb:Nat.beq f.offset n<;>rw[hb]at h
  ·cases h
  ·have hn:=Nat.eq_of_beq_eq_true hb
   have ih:=OI cs fs _ _ h hm
   simp only[List.map_cons,List.flatten_cons,←ih,hn]
   rw[←List.drop_drop,List.take_append_drop]
theorem Pp{β:Type}(s:Nat):∀(n:Nat)(cs:List β),cs.length=n*s→cs=((List.range n).map fun i=>(cs.drop (i*s)).take s).flatten
 |0,cs,h=>by simp at h;subst h;rfl
 |n+1,cs,h=>by
  rw[List.range_succ_eq_map,List.map_cons,List.flatten_cons,List.map_map]
  have ih:=Pp s n (cs.drop s) (by rw[List.length_drop,h,Nat.add_mul];omega)
  have:((fun i=>(cs.drop (i*s)).take s) ∘ Nat.succ)=fun i=>((cs.drop s).drop (i*s)).take s:=by
   funext i
   simp only[Function.comp,List.drop_drop]
   rw[Nat.succ_mul,Nat.add_comm]
  rw[this,←ih]
  simp
end
section
variable{H:Type}{enc:TypeId×Value→H}{P:Program}{w:World}{L:List Nat}
def A9(ps:List MemPlace)(b o:Nat):Prop:=MemPlace.cell b o∈ps
def tS(w:World)(ps:List MemPlace)(c:D)(v:Value):Prop:=c.one=true∧aZ w (A9 ps) c v
theorem tS.mono{ps qs:List MemPlace}(h:∀p∈ps,p∈qs)(c:D)(v:Value)(r:tS w ps c v):tS w qs c v:=⟨r.1,r.2.mono fun b o hb=>⟨h _ hb,rfl⟩⟩
theorem Xg{b:Bool}{e:TypeId}(hL:tn P L=true)(he:e∈L)(hb:dO P e=some b){x:List D}(hx:Is P e x):(pack b x).cells =x∨∃y,x=[y]∧b=false:=by
 cases b with
 |true=>exact .inl rfl
 |false=>
  right
  unfold dO at hb
  cases hx with
  |bool h b=>exact⟨_,rfl,rfl⟩
  |int h n hn=>exact⟨_,rfl,rfl⟩
  |str h s hs=>exact⟨_,rfl,rfl⟩
  |iJ h=>exact⟨_,rfl,rfl⟩
  |sl h=>exact⟨_,rfl,rfl⟩
  |struct h=>rw[h]at hb;cases hb
  |array h=>rw[h]at hb;cases hb
theorem Wn{b:Bool}{e:TypeId}(hL:tn P L=true)(he:e∈L)(hb:dO P e=some b){x:List D}(hx:Is P e x)(h1:∀c∈x,c.one=true):(pack b x).cells =x:=by
 rcases Xg hL he hb hx with h|⟨y,rfl,rfl⟩
 ·exact h
 ·have:=h1 y (by simp)
  cases y<;>first|rfl|simp[D.one]at this
theorem aaF(hL:tn P L=true):∀(fuel:Nat)(t:TypeId)(cs:List Value)(x:DataW H×List MemPlace),t∈L→DataW.trod enc P w 0 (fun _=>true) true fuel t cs=some x→
  ∃xs:List D,Is P t xs∧xs.length=P.cellsOf t∧RL (tS w x.2) xs cs:=by
 intro fuel
 induction fuel with
 |zero=>intro t cs x _ h;simp[DataW.trod]at h
 |succ fuel ih=>
  intro t cs x ht h
  have iC:=uG hL ht
  unfold sr at iC
  split at iC
  ·rename_i hu
   obtain⟨b,rfl,rfl⟩:=DataW.trod_bool hu h
   exact⟨[.bool b],.bool hu b,(Nat.eq_of_beq_eq_true iC).symm,.cons ⟨rfl,.bool b⟩ .nil⟩
  ·rename_i k hu
   obtain⟨n,rfl,rfl,hw⟩:=DataW.trod_int hu h
   exact⟨[.int k n],.int hu n hw,(Nat.eq_of_beq_eq_true iC).symm,.cons ⟨rfl,.int k n hw⟩ .nil⟩
  ·rename_i hu
   obtain⟨s,rfl,rfl,hs⟩:=DataW.trod_string hu h
   exact⟨[.str s.data.toList],.str hu _ (by simpa using hs),(Nat.eq_of_beq_eq_true iC).symm,.cons ⟨rfl,.str s hs⟩ .nil⟩
  ·rename_i e hu
   simp only[Bool.and_eq_true]at iC
   obtain⟨⟨h1,he⟩,Gm⟩:=iC
   have he:e∈L:=by simpa using he
   have h1:=Nat.eq_of_beq_eq_true h1
   have Gm:=Nat.le_of_ble_eq_true Gm
   obtain⟨bb,eh⟩:∃bb,dO P e=some bb:=by
    have:=uG hL he
    unfold sr at this
    unfold dO
    split at this<;>simp_all
   rcases DataW.trod_slice hu h with⟨rfl,rfl⟩|⟨a,len,cap,elems,rest,n,hn,rfl,rfl,_,Mb,fC,gD,afa,_,_⟩
   ·exact⟨[.sl .nil 0 []],.iJ hu,by rw[h1];rfl,.cons ⟨rfl,.iJ 0⟩ .nil⟩
   ·cases hn
    have key:∀k,k≤len→∃M:List (List D),M.length=k∧∀i,i<k→∃y eK,M[i]? =some y∧w.cells? 0 (a.add (i*P.cellsOf e)) (P.cellsOf e)=some eK∧Is P e y∧y.length=P.cellsOf e∧
      RL (tS w ((elems++rest).flatMap (·.2))) y eK:=by
     intro k
     induction k with
     |zero=>intro _;exact⟨[],rfl,fun i hi=>by omega⟩
     |succ k D5=>
      intro hk
      obtain⟨M,hM,kQ⟩:=D5 (by omega)
      have hq:=afa k (by omega)
      have mb:elems[k]? =some (elems[k]'(by omega)):=List.getElem?_eq_getElem (by omega)
      rw[mb]at hq
      obtain⟨eK,jl,dK⟩:=Option.bind_eq_some_iff.1 hq
      obtain⟨y,hy,Mc,jY⟩:=ih e eK _ he dK
      refine⟨M++[y],by simp[hM],fun i hi=>?_⟩
      rcases Nat.lt_or_ge i k with h|h
      ·obtain⟨y',afb,q1,q2⟩:=kQ i h
       exact⟨y',afb,by rw[List.getElem?_append_left (by omega)];exact q1,q2⟩
      ·have:i=k:=by omega
       subst this
       refine⟨y,eK,by rw[List.getElem?_append_right (by omega),hM];simp,jl,hy,Mc,jY.mono (tS.mono fun p hp=>?_)⟩
       exact List.mem_flatMap.2 ⟨_,List.mem_append_left _ (List.getElem_mem (by omega)),hp⟩
    obtain⟨M,hM,kQ⟩:=key len (Nat.le_refl _)
    have D6:∀y∈M,Is P e y∧y.length=P.cellsOf e∧∀c∈y,c.one=true:=by
     intro y hy
     obtain⟨i,hi,rfl⟩:=List.mem_iff_getElem.1 hy
     obtain⟨y',eK,q1,_,q2,q3,q4⟩:=kQ i (by omega)
     rw[List.getElem?_eq_getElem hi]at q1
     cases q1
     refine⟨q2,q3,fun c hc=>?_⟩
     obtain⟨j,hj,rfl⟩:=List.mem_iff_getElem.1 hc
     have:=q4.length
     exact(q4.get j _ (eK[j]'(by omega)) (List.getElem?_eq_getElem hj) (List.getElem?_eq_getElem (by omega))).1
    have Md:∀y∈M,(pack bb y).cells =y:=fun y hy=>Wn hL he eh (D6 y hy).1 (D6 y hy).2.2
    refine⟨[.sl .ro (P.cellsOf e) (M.map (pack bb))],.sl hu bb eh M (by omega) (fun y hy=>(D6 y hy).1),by rw[h1];rfl,.cons ⟨rfl,?_⟩ .nil⟩
    have hlen:(M.map (pack bb)).length =len:=by simp[hM]
    by_cases kN:a.spot=none
    ·obtain⟨b,off,spot⟩:=a
     simp only at kN
     subst kN
     have aO:∀o,o<len*P.cellsOf e→∃v,w.cell? ⟨b,off+o,none⟩=some v:=by
      intro o ho
      have hq:o / P.cellsOf e<len:=Nat.div_lt_of_lt_mul (by rw[Nat.mul_comm];exact ho)
      have y2:=Nat.mod_lt o Gm
      obtain⟨y,eK,q1,q2,q3,q4,q5⟩:=kQ _ hq
      obtain⟨_,l1,l2⟩:=World.cells?_some q2
      have:=l2 (o % P.cellsOf e) y2
      refine⟨eK[o % P.cellsOf e]'(by omega),?_⟩
      rw[List.getElem?_eq_getElem (by omega)]at this
      rw[←this]
      simp only[add_plain]
      congr 2
      rw[Nat.add_assoc]
      congr 1
      rw[Nat.mul_comm]
      exact(Nat.div_add_mod _ _).symm
     have hv:∀o,o<len*P.cellsOf e→w.cell? ⟨b,off+o,none⟩=some ((w.cell? ⟨b,off+o,none⟩).getD (.bool false)):=fun o ho=>by
      obtain⟨v,hv⟩:=aO o ho
      rw[hv];rfl
     have:=aZ.sl (w:=w) (St:=A9 (MemPlace.row ⟨b,off,none⟩ ((elems.length+rest.length)*P.cellsOf e)++(elems++rest).flatMap (·.2))) (P.cellsOf e) (M.map (pack bb)) b off cap
      (fun o=>(w.cell? ⟨b,off+o,none⟩).getD (.bool false)) (by omega) (by omega) (fun x hx=>by
        obtain⟨y,hy,rfl⟩:=List.mem_map.1 hx
        rw[Md y hy]
        exact(D6 y hy).2.1) (fun x hx c hc=>by
        obtain⟨y,hy,rfl⟩:=List.mem_map.1 hx
        rw[Md y hy]at hc
        exact(D6 y hy).2.2 c hc) (fun o ho=>by
        rw[hlen]at ho
        refine⟨hv o ho,List.mem_append_left _ (MemPlace.mem_row.2 ⟨o,?_,rfl⟩)⟩
        rw[Nat.add_mul];rw[gD];omega) (fun i x j c hi hj=>by
        rw[List.getElem?_map]at hi
        obtain⟨y,hy,rfl⟩:=Option.map_eq_some_iff.1 hi
        have nq:i<M.length:=(List.getElem?_eq_some_iff.1 hy).1
        have hym:y∈M:=List.mem_of_getElem? hy
        rw[Md y hym]at hj
        obtain⟨y',eK,q1,q2,q3,q4,q5⟩:=kQ i (by omega)
        rw[hy]at q1
        cases q1
        obtain⟨_,l1,l2⟩:=World.cells?_some q2
        have ko:j<y.length:=(List.getElem?_eq_some_iff.1 hj).1
        have l3:=l2 j (by omega)
        rw[List.getElem?_eq_getElem (by omega)]at l3
        have hr:=(q5.get j c (eK[j]'(by omega)) hj (List.getElem?_eq_getElem (by omega))).2
        simp only[add_plain,Nat.add_assoc]at l3
        simp only[l3,Option.getD_some]
        exact hr.mono fun b' o' ei=>⟨List.mem_append_right _ ei,rfl⟩)
     rw[hlen]at this
     exact this
    ·have h0:len=0:=by
      rcases Nat.eq_zero_or_pos len with h|h
      ·exact h
      ·obtain⟨y,eK,q1,q2,q3,q4,q5⟩:=kQ 0 h
       obtain⟨_,l1,l2⟩:=World.cells?_some q2
       have:=l2 0 Gm
       rw[List.getElem?_eq_getElem (by omega)]at this
       exact absurd (World.cell?_spot this) (by simpa[Addr.add]using kN)
     subst h0
     have:M=[]:=List.length_eq_zero_iff.1 hM
     subst this
     exact .ki _ a cap kN
  ·rename_i n e hu
   simp only[Bool.and_eq_true]at iC
   obtain⟨he,hc⟩:=iC
   have he:e∈L:=by simpa using he
   have hc:=Nat.eq_of_beq_eq_true hc
   obtain⟨ys,m,hm,rfl,cY,Mc,pK⟩:=DataW.trod_array hu h
   cases hm
   have key:∀k,k≤n→∃M:List (List D),M.length=k∧(∀y∈M,Is P e y)∧M.flatten.length=k*P.cellsOf e∧RL (tS w (ys.flatMap (·.2))) M.flatten ((List.range k).map fun i=>(cs.drop (i*P.cellsOf e)).take (P.cellsOf e)).flatten :=by
    intro k
    induction k with
    |zero=>intro _;exact⟨[],rfl,by simp,by simp,by simp;exact .nil⟩
    |succ k D5=>
     intro hk
     obtain⟨M,hM,zG,xK,uq⟩:=D5 (by omega)
     have hq:=pK k (by omega)
     have mb:ys[k]? =some (ys[k]'(by omega)):=List.getElem?_eq_getElem (by omega)
     rw[mb]at hq
     obtain⟨y,hy,KX,jY⟩:=ih e _ _ he hq
     refine⟨M++[y],by simp[hM],fun z hz=>?_,by simp[xK,KX,Nat.add_mul],?_⟩
     ·rcases List.mem_append.1 hz with h|h
      ·exact zG z h
      ·simp at h;subst h;exact hy
     ·rw[List.range_succ,List.map_append,List.flatten_append,List.flatten_append]
      refine uq.append ?_
      simp only[List.map_cons,List.map_nil,List.flatten_cons,List.flatten_nil,List.append_nil]
      exact jY.mono (tS.mono fun p hp=>List.mem_flatMap.2 ⟨_,List.getElem_mem (by omega),hp⟩)
   obtain⟨M,hM,zG,xK,uq⟩:=key n (Nat.le_refl _)
   refine⟨M.flatten,.array hu M hM zG,by rw[xK,hc],?_⟩
   rw[←Pp (P.cellsOf e) n cs (by rw[cY,hc])]at uq
   exact uq
  ·rename_i fs hu
   simp only[Bool.and_eq_true]at iC
   obtain⟨DK,uk⟩:=iC
   split at uk
   ·rename_i tot KY
    have uk:=Nat.eq_of_beq_eq_true uk
    obtain⟨ys,m,hm,rfl,cY,Mc,pK⟩:=DataW.trod_struct hu h
    cases hm
    have key:∀k,k≤fs.size→∃M:List (List D),M.length=k∧(∀(i:Nat)f p,fs[i]? =some f→M[i]? =some p→Is P f.type p)∧M.flatten.length=((fs.toList.take k).map fun f=>P.cellsOf f.type).sum ∧
      RL (tS w (ys.flatMap (·.2))) M.flatten ((fs.toList.take k).map fun f=>(cs.drop f.offset).take (P.cellsOf f.type)).flatten :=by
     intro k
     induction k with
     |zero=>intro _;exact⟨[],rfl,fun i f p _ hp=>by simp at hp,by simp,by simp;exact .nil⟩
     |succ k D5=>
      intro hk
      obtain⟨M,hM,zG,xK,uq⟩:=D5 (by omega)
      have v7:fs[k]? =some (fs[k]'(by omega)):=Array.getElem?_eq_getElem (by omega)
      have hq:=pK k _ v7
      have mb:ys[k]? =some (ys[k]'(by omega)):=List.getElem?_eq_getElem (by omega)
      rw[mb]at hq
      have hfm:(fs[k]'(by omega)).type ∈L:=by simpa using List.all_eq_true.1 DK _ (by simp:fs[k]'(by omega)∈fs.toList)
      obtain⟨y,hy,KX,jY⟩:=ih _ _ _ hfm hq
      have GS:fs.toList.take (k+1)=fs.toList.take k++[fs[k]'(by omega)]:=by
       rw[List.take_add_one]
       simp[v7]
      refine⟨M++[y],by simp[hM],fun i f p hf hp=>?_,?_,?_⟩
      ·rcases Nat.lt_or_ge i k with h|h
       ·rw[List.getElem?_append_left (by omega)]at hp
        exact zG i f p hf hp
       ·rw[List.getElem?_append_right (by omega),hM]at hp
        have hik:i=k:=by
         have:=(List.getElem?_eq_some_iff.1 hp).1
         simp at this
         omega
        subst hik
        simp at hp
        subst hp
        rw[v7]at hf
        cases hf
        exact hy
      ·rw[GS]
       simp[xK,KX]
      ·rw[GS,List.map_append,List.flatten_append,List.flatten_append]
       refine uq.append ?_
       simp only[List.map_cons,List.map_nil,List.flatten_cons,List.flatten_nil,List.append_nil]
       exact jY.mono (tS.mono fun p hp=>List.mem_flatMap.2 ⟨_,List.getElem_mem (by omega),hp⟩)
    obtain⟨M,hM,zG,xK,uq⟩:=key fs.size (Nat.le_refl _)
    have hta:fs.toList.take fs.size=fs.toList:=List.take_of_length_le (by simp)
    rw[hta]at xK uq
    have DQ:=Ja _ _ _ KY
    refine⟨M.flatten,.struct hu M hM zG,by rw[xK,←uk,DQ];omega,?_⟩
    rw[←OI cs fs.toList 0 tot KY (by rw[cY,uk]),List.drop_zero]at uq
    exact uq
   ·cases uk
  ·cases iC
end
end Go.Proofs.Ytimbllcalipehaa.Ab
namespace Go.Proofs.Ytimbllcalipehaa.Ab
open Go Go.RowKit Go.ChangeShapes Go.WideShapes
section
variable{H:Type}{enc:TypeId×Value→H}{P:Program}{W:World}{L:List Nat}
theorem aaG(hL:tn P L=true){t:TypeId}{v:Value}{d:DataW H}{ps:List MemPlace}{b:Bool}{r:Reach}{b0:Nat}(ht:t∈L)(hb:dO P t=some b)
  (kJ:Value.okWide P W r b0 t v)(h:DataW.Trod enc P W 0 (fun _=>true) true t v d ps):∃xs,Is P t xs∧aZ W (A9 ps) (pack b xs) v:=by
 obtain⟨fuel,hf⟩:=h
 obtain⟨xs,hi,hl,hr⟩:=aaF hL fuel t _ _ ht hf
 refine⟨xs,hi,?_⟩
 have iC:=uG hL ht
 unfold dO at hb
 cases b with
 |true=>
  have:∃cs,v=.agg cs:=by
   unfold Value.okWide at kJ
   split at kJ
   ·obtain⟨cs,h,_⟩:=kJ;exact⟨cs,h⟩
   ·obtain⟨cs,h,_⟩:=kJ;exact⟨cs,h⟩
   ·rename_i h1 h2
    split at hb
    ·rename_i fs hu;exact absurd hu (h1 fs)
    ·rename_i n e hu;exact absurd hu (h2 n e)
    ·cases hb
    ·cases hb
  obtain⟨cs,rfl⟩:=this
  simp only[Value.cells]at hr
  refine .agg xs cs (fun c hc=>?_) (by simpa using hr.length) (fun i c u hc hu=>(hr.get i c u hc (by simpa using hu)).2)
  obtain⟨j,hj,rfl⟩:=List.mem_iff_getElem.1 hc
  have ko:=hr.length
  exact(hr.get j _ (cs.toList[j]'(by omega)) (List.getElem?_eq_getElem hj) (List.getElem?_eq_getElem (by omega))).1
 |false=>
  have cg:∃y,xs=[y]:=by
   cases hi with
   |bool h b=>exact⟨_,rfl⟩
   |int h n hn=>exact⟨_,rfl⟩
   |str h s hs=>exact⟨_,rfl⟩
   |iJ h=>exact⟨_,rfl⟩
   |sl h=>exact⟨_,rfl⟩
   |struct h=>rw[h]at hb;cases hb
   |array h=>rw[h]at hb;cases hb
  obtain⟨y,rfl⟩:=cg
  have hv:v.cells.toList=[v]:=by
   cases v with
   |agg cs=>
    exfalso
    unfold Value.okWide at kJ
    split at kJ
    ·rename_i h;rw[h]at hb;cases hb
    ·rename_i h;rw[h]at hb;cases hb
    ·unfold sr at iC
     unfold Cell.okWide at kJ
     split at kJ<;>simp_all [Cell.ok]
   |_=>rfl
  rw[hv]at hr
  cases hr with
  |cons h _=>exact h.2
theorem ND(hL:tn P L=true){W':World}(hb:Below W.heap.size W W'):∀{ts:List TypeId}{vs:List Value}{ds:List (DataW H)}{ps:List MemPlace},(∀t∈ts,t∈L)→
  DataW.TrodAll enc P W 0 (fun _=>true) true ts vs ds ps→(∀p∈ps,p.block<W.heap.size)→DataW.TrodAll enc P W' 0 (fun b=>decide (b<W.heap.size)) true ts vs ds ps
 |[],[],[],_,_,h,_=>h
 |t::ts,v::vs,d::ds,_,lF,⟨p,q,⟨fuel,hf⟩,h2,e⟩,aK=>by
  subst e
  refine⟨p,q,⟨fuel,?_⟩,ND hL hb (fun t ht=>lF t (List.mem_cons_of_mem _ ht)) h2 (fun x hx=>aK x (List.mem_append_right _ hx)),rfl⟩
  exact DataW.trod_stays (Wm hL) (fun ht hu=>Xf hL ht hu) (fun h=>by cases h) (lF t List.mem_cons_self) hf (fun x hx=>hb.same (aK x (List.mem_append_left _ hx))) (fun x hx=>by simpa using aK x (List.mem_append_left _ hx))
theorem Xh{gl:Nat→Option D}{TI:FuncId}{f:Func}{s:ChangeSpec}{args:Array Value}{ds gs:List (DataW H)}{before:List MemPlace}{tb:TypeId}{St:Nat→Nat→Prop}{F6:List SV}
  (hH:aD P gl TI F6 (.d (.bool true)))(hL:tn P L=true)(lF:∀t∈f.params.toList,t∈L)(Ly:s.vars=[])
  (hW:DataW.Whole enc P f.params.toList s.vars false W args.toList ds gs before)
  (wa:(s.fn H (ds++gs)).results =[.lit (.bool true)])(we:(s.fn H (ds++gs)).args =ds)(vU:(s.fn H (ds++gs)).vars =[])
  (y5:f.resultTypes= #[tb])(htb:P.underlying tb=some .bool)
  (aR:∀b o,St b o→b<W.heap.size)(hG:uU gl W St)(hlen:F6.length=args.size)
  (bc:∀(i:Nat)x v,F6[i]? =some x→args[i]? =some v→aJ W St W.heap.size (fun _ _ _=>False) x v):
  Calls P TI args W fun e W'=>∃v,e=.returned v∧s.post enc P f false true false false W args v W':=by
 rw[x9 (YX (O:=fun _ _ _ _=>False) hlen bc)]at hH
 refine(hH.2 W St args aR hG hlen bc).mono ?_
 rintro e W' ⟨v,rfl,hb,bE,ow,_,_,hr⟩
 refine⟨v,rfl,?_⟩
 have hv:v=.bool true:=by
  have:=aJ.data (show aJ W' bE 0 (vr W.heap.size W' bE ow 0) (.d (.bool true)) v from hr)
  cases this
  rfl
 subst hv
 have aK:=hW.lt
 refine⟨ds,gs,before,[],before,[],hW,?_,?_,?_,World.keptBut_mono (fun p hp=>⟨hp,.inr (.inl hp)⟩) (hb.frame _),fun h=>by cases h⟩
 ·rw[wa,y5]
  exact trodAll_cons_mk (shut_bool htb _) trodAll_mk0
 ·rw[we]
  obtain⟨p,q,hA,hV,rfl,_,_⟩:=hW
  rw[Ly]at hV
  have:q=[]:=by
   cases gs with
   |nil=>exact hV
   |cons _ _=>exact hV.elim
  subst this
  rw[List.append_nil]at aK ⊢
  exact ND hL hb lF hA aK
 ·rw[vU,Ly]
  rfl
theorem aaH{St:Nat→Nat→Prop}{ps:List MemPlace}{x:D}{v:Value}{base:Nat}{O:Nat→Nat→Nat→Prop}(h:aZ W (A9 ps) x v)(hs:∀b o,MemPlace.cell b o∈ps→St b o):aJ W St base O (.d x) v:=
 .d _ _ _ (h.mono fun b o hb=>⟨hs b o hb,rfl⟩)
end
end Go.Proofs.Ytimbllcalipehaa.Ab
namespace Go.Proofs.Ytimbllcalipehaa.Ab
open Go
def ob{α β:Type}(o:Option α)(k:α→Option β):Option β:=match o with|some x=>k x|none=>none
section
variable(P:Program)(gl:Nat→Option D)(call:FuncId→List SV→Option SV)
variable{P gl call}{C:bl}(hC:∀f args r,call f args=some r→C f args r)
include hC
end
end Go.Proofs.Ytimbllcalipehaa.Ab
namespace Go.Proofs.Ytimbllcalipehaa.Ab
open Go
section
variable{P:Program}{gl:Nat→Option D}{call:FuncId→List SV→Option SV}{C:bl}(hC:∀f args r,call f args=some r→C f args r)
end
end Go.Proofs.Ytimbllcalipehaa.Ab
namespace Go.Proofs.Ytimbllcalipehaa.Ab
open Go
section
variable(P:Program)(gl:Nat→Option D)(call:FuncId→List SV→Option SV)(h:Hints)
end
section
variable{P:Program}{gl:Nat→Option D}{call:FuncId→List SV→Option SV}{h:Hints}{C:bl}(hC:∀f args r,call f args=some r→C f args r)
end
end Go.Proofs.Ytimbllcalipehaa.Ab
namespace Go.Proofs.Ytimbllcalipehaa.Ab
open Go
def Pt{X:Type}(T:(X→Prop)→Prop):Prop:=∀Q,T Q→∃x,Q x∧∀Q',Q' x→T Q'
section
variable{X Y α:Type}
theorem Pt.false:Pt (fun _:X→Prop=>False):=fun _ h=>h.elim
theorem Pt.pure(x:X):Pt (fun Q:X→Prop=>Q x):=fun _ h=>⟨x,h,fun _ h'=>h'⟩
theorem Pt.ab{o:Option α}{T:α→(X→Prop)→Prop}(h:∀x,Pt (T x)):Pt (fun Q=>ab o fun x=>T x Q):=by
 intro Q hq
 cases o with
 |none=>exact hq.elim
 |some x=>exact h x Q hq
theorem Pt.ar{x:SV}{A B:(X→Prop)→Prop}(hA:Pt A)(hB:Pt B):Pt (fun Q=>ar x (A Q) (B Q)):=by
 intro Q hq
 obtain⟨b,rfl,h1,h2⟩:=Aq hq
 cases b with
 |true=>exact hA Q (h1 rfl)
 |false=>exact hB Q (h2 rfl)
theorem Pt.and{p:Prop}{A:(X→Prop)→Prop}(hA:Pt A):Pt (fun Q=>p∧A Q):=by
 intro Q ⟨hp,hq⟩
 obtain⟨x,h1,h2⟩:=hA Q hq
 exact⟨x,h1,fun Q' h=>⟨hp,h2 Q' h⟩⟩
theorem Pt.ex{T:α→(X→Prop)→Prop}(h:∀a,Pt (T a)):Pt (fun Q=>∃a,T a Q):=by
 intro Q ⟨a,hq⟩
 obtain⟨x,h1,h2⟩:=h a Q hq
 exact⟨x,h1,fun Q' h=>⟨a,h2 Q' h⟩⟩
theorem Pt.cond{b:Bool}{A B:(X→Prop)→Prop}(hA:Pt A)(hB:Pt B):Pt (fun Q=>cond b (A Q) (B Q)):=by
 intro Q hq
 cases b with
 |true=>exact hA Q hq
 |false=>exact hB Q hq
theorem Pt.seq{T:(Y→Prop)→Prop}{S:Y→(X→Prop)→Prop}(hT:Pt T)(hS:∀y,Pt (S y)):Pt (fun Q=>T fun y=>S y Q):=by
 intro Q hq
 obtain⟨y,h1,h2⟩:=hT _ hq
 obtain⟨x,h3,h4⟩:=hS y Q h1
 exact⟨x,h3,fun Q' h=>h2 _ (h4 Q' h)⟩
theorem Pt.y6{β:Type}{T:(α→β→Prop)→Prop}{S:α→β→(X→Prop)→Prop}(hT:Pt (fun Q:α×β→Prop=>T fun a b=>Q (a,b)))(hS:∀a b,Pt (S a b)):Pt (fun Q=>T fun a b=>S a b Q):=by
 intro Q hq
 obtain⟨y,h1,h2⟩:=hT (fun y=>S y.1 y.2 Q) hq
 obtain⟨x,h3,h4⟩:=hS y.1 y.2 Q h1
 exact⟨x,h3,fun Q' h=>h2 (fun y=>S y.1 y.2 Q') (h4 Q' h)⟩
end
section
variable{P:Program}{gl:Nat→Option D}{C:bl}{h:Hints}{X:Type}
theorem Zd{f:FuncId}{args:List SV}{T:SV→(X→Prop)→Prop}(hT:∀r,Pt (T r)):Pt (fun Q=>aS C f args fun r=>T r Q):=
 Pt.ex fun r=>Pt.and (Pt.and (hT r))
theorem JY:∀(n:Nat){T:List SV→(X→Prop)→Prop},(∀l,Pt (T l))→Pt (fun Q=>xv n fun l=>T l Q)
 |0,_,hT=>hT []
 |n+1,_,hT=>Pt.ex fun r=>JY n fun l=>hT (r::l)
theorem Fc{n:Nat}{aA:List af}{f:FuncId}{args:List SV}:Pt (fun Q:Slot×List af→Prop=>oo C n aA (fun s b=>Q (s,b)) f args):=by
 unfold oo
 split
 ·exact Zd fun r=>Pt.pure _
 ·exact JY _ fun l=>Pt.and (Pt.pure _)
theorem QM{sz cP:Nat}{x y:SV}{T:SV→(X→Prop)→Prop}(hT:∀r,Pt (T r)):Pt (fun Q=>bI sz cP x y fun r=>T r Q):=
 Pt.ab fun r=>Pt.and (hT r.1)
theorem OK{agg:Bool}{sz b off:Nat}{aA:List af}:Pt (fun Q:Slot×List af→Prop=>p6 agg sz b off aA fun s b=>Q (s,b)):=by
 unfold p6
 cases aA[b]? with
 |none=>exact Pt.false
 |some x=>
  cases x with
  |none=>exact Pt.false
  |map l=>exact Pt.false
  |cells cs=>exact Pt.ab fun x=>Pt.pure _
  |one s=>
   refine Pt.cond Pt.false ?_
   cases off with
   |zero=>exact Pt.pure _
   |succ n=>exact Pt.false
theorem Wo{sz b off:Nat}{x:Slot}{aA:List af}{T:List af→(X→Prop)→Prop}(hT:∀r,Pt (T r)):Pt (fun Q=>td sz b off x aA fun b=>T b Q):=by
 unfold td
 cases aA[b]? with
 |none=>exact Pt.false
 |some y=>
  cases y with
  |none=>exact Pt.false
  |map l=>exact Pt.false
  |cells cs=>
   cases x with
   |v y=>exact Pt.ab fun l=>Pt.and (Pt.and (hT _))
   |t _=>exact Pt.false
   |_=>
    dsimp only
    split
    ·exact hT _
    ·exact Pt.false
  |one s=>
   dsimp only
   split
   ·cases x with
    |v y=>exact Pt.ab fun l=>Pt.and (hT _)
    |t _=>exact Pt.false
    |_=>exact hT _
   ·exact Pt.false
theorem ab4{id:Nat}{o:Oper}{ρ:Operand→Slot}{aA:List af}:Pt (fun Q:Slot×List af→Prop=>cT P C id o ρ aA fun s b=>Q (s,b)):=by
 unfold cT
 cases o.op
 case move x=>exact Pt.pure _
 case assign x=>exact Pt.pure _
 case pick c a b=>
  dsimp only
  cases ρ c with
  |v x=>exact Pt.ar (Pt.pure _) (Pt.pure _)
  |_=>exact Pt.false
 case alloc t=>
  dsimp only
  split
  ·exact Pt.ab fun z=>Pt.pure _
  ·exact Pt.false
 case box t x=>
  dsimp only
  split
  ·refine Pt.ab fun sz=>?_
   cases ρ x with
   |v y=>exact Pt.ab fun l=>Pt.and (Pt.pure _)
   |t _=>exact Pt.false
   |_=>
    dsimp only
    split
    ·exact Pt.pure _
    ·exact Pt.false
  ·exact Pt.false
 case build t ps=>exact Pt.ab fun l=>Pt.ab fun r=>Pt.pure _
 case buildSlice t n ps=>exact Pt.ab fun e=>Pt.ab fun ly=>Pt.ab fun z=>Pt.ab fun l=>Pt.cond (Pt.and (Pt.pure _)) Pt.false
 case load t a=>
  refine Pt.ab fun ly=>?_
  cases ρ a with
  |p b off=>exact OK
  |v x=>exact Pt.ab fun y=>Pt.pure _
  |_=>exact Pt.false
 case store t a x=>
  refine Pt.ab fun sz=>?_
  cases ρ a with
  |p b off=>
   cases o.dst with
   |none=>exact Wo fun r=>Pt.pure _
   |some _=>exact Pt.false
  |_=>exact Pt.false
 case nilCheck x=>
  dsimp only
  cases ρ x with
  |v y=>exact Pt.ab fun z=>Pt.pure _
  |t _=>exact Pt.false
  |c f first cap=>
   cases f with
   |func _=>exact Pt.pure _
   |method name=>
    dsimp only
    split
    ·exact Pt.ab fun _=>Pt.pure _
    ·exact Pt.false
   |_=>exact Pt.false
  |p b off=>exact Pt.pure _
  |a _ _ _=>exact Pt.false
  |m _=>exact Pt.false
 case binOp op t x y _=>exact Pt.ab fun r=>Pt.pure _
 case unOp op _ x=>exact Pt.ab fun r=>Pt.pure _
 case convert src dst x=>exact Pt.cond (Pt.ab fun r=>Pt.pure _) Pt.false
 case makeInterface t x=>exact Pt.cond Pt.false (Pt.ab fun r=>Pt.pure _)
 case makeFunc fn first cap=>exact Pt.pure _
 case slice t x lo hi mx=>exact Pt.ab fun r=>Pt.pure _
 case fieldAddr t x f=>
  refine Pt.ab fun fd=>Pt.ab fun sz=>Pt.cond Pt.false ?_
  cases ρ x with
  |p b off=>exact Pt.pure _
  |v y=>exact Pt.ab fun z=>Pt.pure _
  |_=>exact Pt.false
 case field t x f=>exact Pt.ab fun fd=>Pt.ab fun ly=>Pt.ab fun r=>Pt.pure _
 case indexAddr t x i=>
  dsimp only
  split
  ·refine Pt.ab fun sz=>?_
   cases ρ x with
   |a b n=>exact Pt.ab fun j=>Pt.pure _
   |_=>exact Pt.ab fun r=>Pt.pure _
  ·refine Pt.ab fun sz=>Pt.ab fun j=>?_
   cases ρ x with
   |p b off=>exact Pt.pure _
   |v y=>exact Pt.ab fun z=>Pt.pure _
   |_=>exact Pt.false
  ·exact Pt.false
 case index t x i=>
  dsimp only
  split
  ·exact Pt.ab fun ly=>Pt.ab fun r=>Pt.pure _
  ·exact Pt.ab fun r=>Pt.pure _
  ·exact Pt.false
 case extract x i=>
  dsimp only
  cases ρ x with
  |t vs=>
   dsimp only
   split
   ·exact Pt.pure _
   ·exact Pt.false
  |_=>exact Pt.false
 case lookup t m x LJ=>
  dsimp only
  cases LJ with
  |true=>exact Pt.ab fun et=>Pt.ab fun z=>Pt.ab fun r=>Pt.pure (X:=Slot×List af) (Slot.t [.d r.1,.d (.bool r.2)],aA)
  |false=>exact Pt.ab fun et=>Pt.ab fun z=>Pt.ab fun r=>Pt.pure (X:=Slot×List af) (Slot.v (.d r.1),aA)
 case makeSlice t n c=>exact Pt.ab fun e=>Pt.ab fun sz=>Pt.ab fun cP=>Pt.ab fun z=>Pt.cond (Pt.ab fun m=>Pt.and (Pt.pure _)) Pt.false
 case makeMap t hn=>
  dsimp only
  split
  ·exact Pt.pure _
  ·exact Pt.false
 case mapUpdate t m x y=>
  refine Pt.ab fun et=>?_
  split
  ·split
   ·exact Pt.ab fun n=>Pt.ab fun d=>Pt.ab fun l'=>Pt.pure _
   ·exact Pt.false
  ·exact Pt.false
 case call c=>
  dsimp only
  cases c.callee with
  |value f=>
   dsimp only
   cases ρ f with
   |v x=>
    dsimp only
    unfold withFn
    split
    ·exact Fc
    ·exact Fc
    ·exact Pt.false
   |c g first cap=>
    cases g with
    |func g=>exact Fc
    |_=>exact Pt.false
   |_=>exact Pt.false
  |invoke f name=>
   dsimp only
   cases ρ f with
   |v x=>
    dsimp only
    unfold wL
    split
    ·exact Pt.ab fun f=>Fc
    ·exact Pt.false
   |_=>exact Pt.false
  |builtin b=>
   dsimp only
   split
   ·rename_i x xs t ts _ _
    cases ρ x with
    |a b n=>exact Pt.cond (Pt.pure _) Pt.false
    |_=>exact Pt.ab fun r=>Pt.pure _
   ·exact Pt.cond (Pt.ab fun e=>Pt.ab fun sz=>Pt.ab fun cP=>Pt.ab fun z=>Pt.cond (QM fun r=>Pt.pure _) Pt.false) Pt.false
   ·exact Pt.ab fun r=>Pt.pure _
   ·exact Pt.ab fun r=>Pt.pure _
   ·exact Pt.false
 all_goals exact Pt.false
theorem Ze{o:Oper}{e:Env}:Pt (fun Q=>lb P gl C o e Q):=by
 unfold lb
 split
 ·exact Pt.pure _
 ·exact Pt.pure _
 ·split
  ·split
   ·exact Pt.pure _
   ·exact Pt.false
  ·exact Pt.false
 ·split
  ·refine Pt.ab fun ly=>Pt.cond Pt.false ?_
   split
   ·exact Pt.ab fun x=>Pt.pure _
   ·exact Pt.false
  ·exact Pt.false
 ·split
  ·refine Pt.ab fun sz=>Pt.cond ?_ Pt.false
   split
   ·exact Pt.ab fun l=>Pt.and (Pt.and (Pt.pure _))
   ·exact Pt.false
  ·exact Pt.false
 ·exact Pt.ab fun e'=>Pt.ab fun ly=>Pt.ab fun z=>Pt.ab fun l=>Pt.cond (Pt.and (Pt.pure _)) Pt.false
 ·split
  ·exact Pt.cond (Pt.ab fun e'=>Pt.ab fun sz=>Pt.ab fun cP=>Pt.ab fun z=>Pt.cond (QM fun r=>Pt.pure _) Pt.false) Pt.false
  ·split
   ·split
    ·exact JY _ fun rs=>Pt.ex fun bk=>Pt.and (Pt.and (Pt.pure _))
    ·exact Pt.false
   ·exact Pt.false
  ·exact Pt.false
 ·exact Pt.false
theorem aaI{id:Nat}{aE:Bool}{o:Oper}{e:Env}:Pt (fun Q=>m7 P gl C id aE o e Q):=by
 unfold m7
 cases aE with
 |true=>exact Ze
 |false=>exact Pt.y6 (X:=Env) (S:=fun(r:Slot)(aA:List af)(Q:Env→Prop)=>Q ⟨cq e.ai o.dst r,aA⟩) ab4 fun a b=>Pt.pure (X:=Env) _
theorem X6{all:List Oper}{o:Oper}{e:Env}{A B:Env→(X→Prop)→Prop}(hA:∀e,Pt (A e))(hB:∀e,Pt (B e)):Pt (fun Q=>yF all o e (fun e=>A e Q) (fun e=>B e Q)):=by
 unfold yF
 split
 ·exact hA e
 ·rename_i j want _
  split
  ·split
   ·cases want with
    |true=>exact Pt.ar (hA _) (hB _)
    |false=>exact Pt.ar (hB _) (hA _)
   ·exact hB e
   ·exact Pt.false
  ·exact Pt.false
theorem Jb{aE:Nat→Bool}{all:List Oper}{base:Nat}:∀(l:List Oper)(i:Nat)(e:Env),Pt (fun Q=>ld P gl C aE all base l i e Q)
 |[],i,e=>by unfold ld;exact Pt.pure _
 |o::rest,i,e=>by
  unfold ld
  exact X6 (fun e=>Pt.seq aaI fun e=>Jb rest (i+1) e) (fun e=>Jb rest (i+1) _)
theorem ab5{e:Env}{x:ib}:Pt (fun Q:Env→Prop=>fu e Q x):=by
 cases x with
 |box t sz=>
  simp only[fu]
  split
  ·rename_i x _
   unfold gP
   cases x<;>first|exact Pt.pure _|exact Pt.false|exact Pt.and (Pt.pure _)
  ·exact Pt.false
 |qB t ts=>
  simp only[fu]
  split
  ·split
   ·exact Pt.cond (Pt.ab fun ds=>Pt.and (Pt.pure _)) Pt.false
   ·exact Pt.false
  ·split
   ·exact Pt.cond (Pt.pure _) Pt.false
   ·exact Pt.false
  ·exact Pt.pure _
  ·exact Pt.false
 |jV t agg sz ts=>
  simp only[fu]
  split
  ·split
   ·exact Pt.cond (Pt.ab fun ds=>Pt.ab fun L=>Pt.pure _) Pt.false
   ·exact Pt.false
  ·exact Pt.pure _
  ·exact Pt.false
 |emp t=>
  simp only[fu]
  split
  ·exact Pt.ab fun y=>Pt.pure _
  ·exact Pt.false
 |jW t=>
  simp only[fu]
  split
  ·exact Pt.ab fun y=>Pt.pure _
  ·exact Pt.false
 |pC t ts=>
  simp only[fu]
  split
  ·split
   ·split
    ·exact Pt.cond (Pt.pure _) Pt.false
    ·exact Pt.false
   ·exact Pt.false
  ·exact Pt.false
theorem Jw:∀(l:List ib)(e:Env),Pt (fun Q:Env→Prop=>gO l e Q)
 |[],e=>by unfold gO;exact Pt.pure _
 |x::l,e=>by unfold gO;exact Pt.seq (X:=Env) (S:=fun(e':Env)(Q:Env→Prop)=>gO l e' Q) ab5 fun e'=>Jw l e'
theorem Zf{e:Env}{c:Operand}{A B:Env→(X→Prop)→Prop}(hA:∀e,Pt (A e))(hB:∀e,Pt (B e)):Pt (fun Q=>oq e c (fun e=>A e Q) (fun e=>B e Q)):=by
 unfold oq
 split
 ·split
  ·exact Pt.ar (hA _) (hB _)
  ·exact Pt.false
 ·exact Pt.cond (hA _) (hB _)
 ·exact Pt.false
theorem Zg{F:(X→Prop)→List SV→List (List SV)→(List SV→List (List SV)→Prop)→Prop}
  (hF:∀vs bs,Pt (fun Q:(List SV×List (List SV)) ⊕ X→Prop=>F (fun x=>Q (.inr x)) vs bs fun v b=>Q (.inl (v,b))))(vs:List SV)(bs:List (List SV)):Pt (fun Q=>bR (F Q) vs bs):=by
 intro Q hq
 refine hq (fun vs bs=>∃x,Q x∧∀Q',Q' x→bR (F Q') vs bs) fun vs bs iu=>?_
 obtain⟨y,h1,h2⟩:=hF vs bs (fun y=>match y with| .inl p=>∃x,Q x∧∀Q',Q' x→bR (F Q') p.1 p.2| .inr x=>Q x) iu
 cases y with
 |inl p=>
  obtain⟨x,hx,hl⟩:=h1
  refine⟨x,hx,fun Q' wc I hI=>hI _ _ ?_⟩
  exact h2 (fun y=>match y with| .inl p=>I p.1 p.2| .inr x=>Q' x) (hl Q' wc I hI)
 |inr x=>
  refine⟨x,h1,fun Q' wc I hI=>hI _ _ ?_⟩
  exact h2 (fun y=>match y with| .inl p=>I p.1 p.2| .inr x=>Q' x) wc
theorem P8{key:Nat}{c:Code}{e:Env}{T:(Ex→Env→Prop)→Prop}(hT:Pt (fun Q:Ex×Env→Prop=>T fun x e=>Q (x,e))):Pt (fun Q:Ex×Env→Prop=>qd h key c e (fun x e=>Q (x,e)) T):=by
 unfold qd
 generalize mY h.eQ key=kk
 obtain⟨vars,consts⟩:=kk
 cases vars<;>cases consts
 ·exact hT
 all_goals
  refine Pt.cond ?_ Pt.false
  unfold pg
  refine Pt.y6 (T:=T) (S:=fun(x:Ex)(e':Env)(Q:Ex×Env→Prop)=>match x with| .normal =>Q (Ex.normal,_)| .exit i=>Q (Ex.exit i,e')| .ret =>Q (Ex.ret,e')) hT fun x e'=>?_
  cases x<;>exact Pt.pure _
theorem Zh{X:Type}{e:Env}{s:Spec}{T:Env→(X→Prop)→Prop}(hT:∀e,Pt (T e)):Pt (fun Q:X→Prop=>iK P C e (fun e'=>T e' Q) s):=by
 cases s with
 |vQ t d ty=>
  unfold iK
  dsimp only
  split
  ·refine Pt.cond ?_ Pt.false
   exact Pt.ab fun y=>hT _
  ·exact Pt.false
 |cut t d1 d2 ty=>
  unfold iK
  dsimp only
  split
  ·refine Pt.cond ?_ Pt.false
   exact Pt.ab fun y=>hT _
  ·exact Pt.false
 |vo t d f u=>
  unfold iK
  dsimp only
  split
  ·refine Pt.cond ?_ Pt.false
   exact Pt.ex fun bk=>Pt.and (Pt.and (hT _))
  ·exact Pt.false
 |u6 t d t2 d2 f u=>
  unfold iK
  dsimp only
  split
  ·refine Pt.cond ?_ Pt.false
   exact Pt.ex fun bk=>Pt.and (Pt.and (hT _))
  ·exact Pt.false
theorem aaJ{id:Nat}{ops:Array Oper}{draw:Bool}{e:Env}{T:Env→(Ex×Env→Prop)→Prop}(hT:∀e,Pt (T e)):Pt (fun Q:Ex×Env→Prop=>lU P gl C h id ops draw e (fun e'=>T e' Q)):=by
 unfold lU
 refine Pt.cond ?_ Pt.false
 have Kq:∀e,Pt (fun Q:Ex×Env→Prop=>gO (kD h.gh (4000000+id)) e (fun e'=>T e' Q)):=fun e=>Pt.seq (X:=Ex×Env) (S:=fun e' Q=>T e' Q) (Jw _ _) hT
 refine Pt.seq (X:=Ex×Env) (S:=fun(e1:Env)(Q:Ex×Env→Prop)=>match uV P draw ops.toList with
  |some s=>iK P C e1 (fun e2=>gO (kD h.gh (4000000+id)) e2 fun e'=>T e' Q) s
  |none=>Ap P gl C (tI h id) ops.toList e1 (vn P gl C (!draw||rD (tI h id) ops) ops (tI h id) e1 fun e2=>gO (kD h.gh (4000000+id)) e2 fun e'=>T e' Q)) (Jw _ _) fun e1=>?_
 cases uV P draw ops.toList with
 |some s=>exact Zh Kq
 |none=>
  refine Pt.seq (X:=Ex×Env) (S:=fun(e:Env)(Q:Ex×Env→Prop)=>vn P gl C (!draw||rD (tI h id) ops) ops (tI h id) e1 (fun e2=>gO (kD h.gh (4000000+id)) e2 fun e'=>T e' Q) e) (Jb _ _ _) fun e=>?_
  cases (!draw||rD (tI h id) ops)
  ·exact Pt.and (Kq _)
  ·exact Kq _
theorem yP:∀(c:Code)(e:Env),Pt (fun Q:Ex×Env→Prop=>aw P gl C h c (fun x e=>Q (x,e)) e)
 | .skip,e=>by unfold aw;exact Pt.pure _
 | .region id ops draw,e=>by
   unfold aw
   exact P8 (aaJ (T:=fun e(Q:Ex×Env→Prop)=>Q (Ex.normal,e)) fun e=>Pt.pure _)
 | .seq a b,e=>by
   unfold aw
   refine Pt.y6 (T:=fun(k:Ex→Env→Prop)=>aw P gl C h a k e) (S:=fun(x:Ex)(e':Env)(Q:_→Prop)=>match x with| .normal =>aw P gl C h b (fun x e=>Q (x,e)) e'| .exit i=>Q (Ex.exit i,e')| .ret =>Q (Ex.ret,e')) (yP a e) fun x e'=>?_
   cases x with
   |normal=>exact yP b e'
   |exit i=>exact Pt.pure _
   |ret=>exact Pt.pure _
 | .cond c a b,e=>by
   unfold aw
   exact P8 (Zf (fun e=>yP a e) (fun e=>yP b e))
 | .block id b,e=>by
   unfold aw
   refine Pt.y6 (T:=fun(k:Ex→Env→Prop)=>aw P gl C h b k e) (S:=fun(x:Ex)(e':Env)(Q:_→Prop)=>match x with| .normal =>Q (Ex.normal,e')| .exit i=>bif i==id then Q (Ex.normal,e')else Q (Ex.exit i,e')| .ret =>Q (Ex.ret,e')) (yP b e) fun x e'=>?_
   cases x with
   |normal=>exact Pt.pure _
   |exit i=>exact Pt.cond (Pt.pure _) (Pt.pure _)
   |ret=>exact Pt.pure _
 | .loop b,e=>by
   unfold aw
   refine Pt.cond ?_ Pt.false
   refine Zg (F:=fun(Q:Ex×Env→Prop)vs bs I=>aw P gl C h b (fun x e'=>match x with| .normal =>I (tu e' (mY h.eQ (mA b)).1) (tk e.boxes.length e')| .exit i=>Q (Ex.exit i,e')| .ret =>Q (Ex.ret,e'))
    ⟨qY (mY h.eQ (mA b)).1 (mY h.eQ (mA b)).2 vs e.ai 0,qZ bs e.boxes 0⟩) (fun vs bs=>?_) _ _
   refine Pt.y6 (T:=fun(k:Ex→Env→Prop)=>aw P gl C h b k _) (S:=fun(x:Ex)(e':Env)(Q:_→Prop)=>match x with| .normal =>Q (Sum.inl (tu e' (mY h.eQ (mA b)).1,tk e.boxes.length e'))| .exit i=>Q (Sum.inr (Ex.exit i,e'))| .ret =>Q (Sum.inr (Ex.ret,e'))) (yP b _) fun x e'=>?_
   cases x<;>exact Pt.pure _
 | .exit id,e=>by unfold aw;exact Pt.pure _
 | .ret,e=>by unfold aw;exact Pt.pure _
 | .scope _,e=>by unfold aw;exact Pt.false
 | .rangeFunc ..,e=>by unfold aw;exact Pt.false
 | .label ..,e=>by unfold aw;exact Pt.pure _
 | .goto ..,e=>by unfold aw;exact Pt.false
 | .refuse ..,e=>by unfold aw;exact Pt.false
theorem QN{e:Env}{used:List Nat}{r:ResultVar}{T:SV→(X→Prop)→Prop}(hT:∀r,Pt (T r)):Pt (fun Q=>yY P e used r fun x=>T x Q):=by
 unfold yY
 cases r with
 |tmp t=>
  dsimp only
  split
  ·exact Pt.and (hT _)
  ·exact Pt.false
 |cell a t=>
  dsimp only
  refine Pt.ab fun ly=>?_
  split
  ·refine Pt.y6 (S:=fun(s:Slot)(_:List af)Q=>match s with| .v x=>x.ay=true∧T x Q|_=>False) OK fun s b=>?_
   cases s with
   |v x=>exact Pt.and (hT x)
   |_=>exact Pt.false
  ·exact Pt.false
theorem P9{e:Env}:∀(l:List ResultVar)(used:List Nat){T:List SV→(X→Prop)→Prop},(∀r,Pt (T r))→Pt (fun Q=>yL P e used l fun x=>T x Q)
 |[],used,T,hT=>by unfold yL;exact hT []
 |r::l,used,T,hT=>by
  unfold yL
  exact QN fun x=>P9 l _ fun xs=>hT (x::xs)
theorem X7{fn:Func}{e:Env}:Pt (fun K:SV→Prop=>finish P fn e K):=by
 unfold finish
 split
 ·exact QN fun x=>Pt.pure x
 ·exact P9 _ _ fun xs=>Pt.pure _
theorem aaK{f:FuncId}{args:List SV}(bC:SV.gn args):Pt (fun K:SV→Prop=>body P gl C h f args K):=by
 unfold body
 cases P.funcs[f]? with
 |none=>exact Pt.false
 |some fn=>
  dsimp only
  cases fn.body with
  |none=>exact Pt.false
  |some c=>
   have:Pt (fun K:SV→Prop=>aw P gl C h c (fun x e=>match x with| .normal =>finish P fn e K| .ret =>finish P fn e K| .exit _=>False) (enter fn.ntmps args)):=by
    refine Pt.y6 (T:=fun(k:Ex→Env→Prop)=>aw P gl C h c k _) (S:=fun(x:Ex)(e:Env)K=>match x with| .normal =>finish P fn e K| .ret =>finish P fn e K| .exit _=>False) (yP c _) fun x e=>?_
    cases x with
    |exit i=>exact Pt.false
    |_=>exact X7
   intro Q hq
   obtain⟨x,h1,h2⟩:=this Q (hq bC)
   exact⟨x,h1,fun Q' h _=>h2 Q' h⟩
end
theorem X8{P:Program}{gl:Nat→Option D}{f:FuncId}{args:List SV}{r:SV}(hE:lQ P f)(hw:¬SV.gn args)(ha:lV args=none:=by rfl):aD P gl f args r:=by
 rw[x9 ha]
 refine⟨hE,fun w St vs nt oO hlen eI=>absurd ?_ hw⟩
 rw[SV.kC]
 intro x hx
 obtain⟨i,hi,rfl⟩:=List.mem_iff_getElem.1 hx
 exact(eI i _ (vs[i]'(by omega)) (by simp) (by simp)).wf
theorem Xi{P:Program}{gl:Nat→Option D}{h:Hints}(hm:P.follows .mixedOrders =true){f:FuncId}{args:List SV}{Q:SV→Prop}(hE:lQ P f)(hQ:∃r,Q r)(hh:body P gl (aD P gl) h f args Q)(ha:lV args=none:=by rfl):∃r,Q r∧aD P gl f args r:=by
 by_cases hw:SV.gn args
 ·obtain⟨r,h1,h2⟩:=aaK hw Q hh
  exact⟨r,h1,cE hm hE (h2 _ rfl) ha⟩
 ·obtain⟨r,hr⟩:=hQ
  exact⟨r,hr,X8 hE hw ha⟩
end Go.Proofs.Ytimbllcalipehaa.Ab
namespace Go.Proofs.Ytimbllcalipehaa.Ab
open Go Go.RowKit
def FW(r:Option Nat):Fence:={Fence.wide with round:=r}
theorem aaL(l:Nat):FW (some l)=Fence.wide.inRound l:=rfl
section
variable{P:Program}{gl:Nat→Option D}{ops:Array Oper}{aE:Nat→Bool}{base:Nat}{r:Option Nat}{n:Nat}{ds:List Deferred}
def wd(a:Act)(ds:List Deferred):Act:={a with defers:=ds}
theorem CP(a:Act)(ds:List Deferred)(dst:Option Tmp)(v:Value):(wd a ds).put dst v=wd (a.put dst v) ds:=by cases dst<;>rfl
theorem yH{a:Act}(h:a.defers=[]):wd a []=a:=by cases a;simp only at h;subst h;rfl
theorem aaM(a:Act)(ds:List Deferred):(wd a ds).eval =a.eval:=funext fun x=>by cases x<;>rfl
theorem aaN{o:Oper}{a:Act}{next:Act→World→Prop}{Q:Exit→Act→World→Prop}{x:Result Next}
  (h:o.upon P a (fun a1 w1=>a1.defers=[]∧next (wd a1 ds) w1) (fun x a1 w1=>Q x (wd a1 ds) w1) x):o.uponIn (FW r) n P (wd a ds) next Q x:=by
 cases x with
 |ok nx w'=>
  cases nx with
  |enter f args=>
   refine⟨fun h=>(by cases h),?_⟩
   have h1:CallsIn Fence.wide (n-1) P f args w' _:=callsIn_wide.2 h
   refine CallsIn.mono (F:=FW r) h1 fun e w2 he=>?_
   cases e with
   |returned v=>show next ((wd a ds).put o.dst v) w2;rw[CP];exact he.2
   |panicked ch=>exact he
   |outgrown=>obtain⟨b1,b2,b3⟩:=he;exact⟨wd b1 ds,b2,b3⟩
  |row row args=>
   refine⟨fun h=>(by cases h),fun c cs _=>?_⟩
   obtain⟨v,w2,h1,h2⟩:=h c cs
   exact⟨v,w2,by show next ((wd a ds).put o.dst v) w2;rw[CP];exact h1.2,stepsIn_wide.2 h2⟩
  |value v=>rw[Oper.uponIn_value,CP];exact h.2
  |skip=>rw[Oper.uponIn_skip,CP];exact h.2
  |defer d=>
   obtain⟨h1,_⟩:=h
   rw[put_defers]at h1
   cases h1
  |_=>exact h.elim
 |halt x w'=>cases x<;>first|exact h|exact h.elim
theorem QO{o:Oper}{a:Act}{w:World}{next:Act→World→Prop}{Q:Exit→Act→World→Prop}(mI:∀c,o.op≠.defer c)
  (h:o.wp P a w (fun a1 w1=>a1.defers=[]∧next (wd a1 ds) w1) (fun x a1 w1=>Q x (wd a1 ds) w1)):o.wpIn (FW r) n P (wd a ds) w next Q:=by
 refine⟨fun _ _=>trivial,?_⟩
 have hs:o.semAt (FW r).round (wd a ds).eval =execOp a.eval o:=by
  rw[aaM]
  cases r with
  |none=>rfl
  |some l=>exact Oper.semAt_some l _ o mI
 rw[hs]
 exact aaN h
theorem Xj{C:bl}{id:Nat}{l:Bool}{o:Oper}{e:Env}{k:Env→Prop}(h:m7 P gl C id l o e k):∀c,o.op≠.defer c:=by
 intro c hc
 unfold m7 at h
 cases l with
 |true=>simp only[cond_true,lb,hc]at h
 |false=>simp only[cond_false,cT,hc]at h
theorem Ij{w0:World}{aq:S0}{e:Env}{a:Act}{w:World}{g:Gh}(hI:Inv gl w0 aq e a w g){i id:Nat}{l:Bool}{o:Oper}(ho:ops[i]? =some o){k:Env→Prop}
  (h:m5 P gl (aD P gl) ops.toList id l o e k){next:Act→World→Prop}{Q:Exit→Act→World→Prop}(hn:∀e' v w' g',Inv gl w0 aq e' (a.put o.dst v) w' g'→k e'→next (wd (a.put o.dst v) ds) w'):wpOpIn (FW r) n P ops Q i next (wd a ds) w:=by
 have h':=Ag.1 h
 unfold wpOpIn
 simp only[ho]
 split at h'
 ·rename_i hg
  rw[if_pos (show Region.wanted o (yielded ops (wd a ds).tmps)=true from EU hI hg)]
  exact QO (Xj h') (Pd hI h' _ _ fun e' v w' g' hinv hk=>⟨hinv.defers,hn e' _ w' g' hinv hk⟩)
 ·rename_i hg
  rw[if_neg (by rw[show Region.wanted o (yielded ops (wd a ds).tmps)=false from EU hI hg];simp)]
  refine⟨fun _ _=>trivial,?_⟩
  rw[CP]
  exact hn _ _ _ _ (PX hI o.dst) h'
 ·exact h'.elim
def lG(l:List Oper)(a a':Act):Prop:=∀t,t∉l.filterMap (·.dst)→a'.tmps.getD t undef=a.tmps.getD t undef
theorem lG.refl(l:List Oper)(a:Act):lG l a a:=fun _ _=>rfl
theorem lG.put{l:List Oper}{a0 a:Act}{o:Oper}(h:lG l a0 a)(ho:o∈l)(hs:a.tmps.size=a0.tmps.size)(v:Value):lG l a0 (a.put o.dst v):=by
 intro t ht
 rw[←h t ht]
 cases hd:o.dst with
 |none=>rfl
 |some d=>
  have bg:d≠t:=fun hh=>ht (List.mem_filterMap.2 ⟨o,ho,by rw[hd,hh]⟩)
  simp only[Act.put,Array.getD_eq_getD_getElem?]
  rw[Array.getElem?_setIfInBounds_ne bg]
theorem Jc{w0:World}{aq:S0}{K:Env→Prop}{Q:Exit→Act→World→Prop}{a0:Act}(hQ:∀e a w g,Inv gl w0 aq e a w g→K e→lG ops.toList a0 a→Q .normal (wd a ds) w):∀(fuel:Nat)(bw:Array Bool)(e:Env)(a:Act)(w:World)(g:Gh),
  Inv gl w0 aq e a w g→lG ops.toList a0 a→a.tmps.size=a0.tmps.size→xc P gl ops aE base K fuel bw e→wpAnyIn (FW r) n P .any ops Q fuel bw (wd a ds) w
 |0,_,e,a,w,g,hI,fG,_,h=>⟨h.1,hQ e a w g hI h.2 fG⟩
 |fuel+1,_,e,a,w,g,hI,fG,ma,h=>⟨fun h0=>hQ e a w g hI (h.1 h0) fG,fun i hi=>by
   obtain⟨o,ho,hs⟩:=h.2 i hi
   exact Ij hI ho hs fun e' v w' g' hinv hk=>Jc hQ fuel _ e' _ w' g' hinv (fG.put (by simpa using Array.mem_of_getElem? ho) ma v) (by rw[Ce,ma]) hk⟩
theorem Pq{w0:World}{aq:S0}{K:Env→Prop}{Q:Exit→Act→World→Prop}{a0:Act}(hQ:∀e a w g,Inv gl w0 aq e a w g→K e→lG ops.toList a0 a→Q .normal (wd a ds) w):∀(l:List Oper)(i:Nat)(e:Env)(a:Act)(w:World)(g:Gh),
  (∀j,l[j]? =ops[i+j]?)→Inv gl w0 aq e a w g→lG ops.toList a0 a→a.tmps.size=a0.tmps.size→ld P gl (aD P gl) aE ops.toList base l i e K→wpOpsIn (FW r) n P ops Q (List.range' i l.length) (wd a ds) w
 |[],_,e,a,w,g,_,hI,fG,_,h=>hQ e a w g hI h fG
 |o::l,i,e,a,w,g,hl,hI,fG,ma,h=>by
  have h0:ops[i]? =some o:=by simpa using(hl 0).symm
  rw[List.length_cons,List.range'_succ,wpOpsIn_cons]
  rw[Ar]at h
  exact Ij hI h0 h fun e' v w' g' hinv hk=>Pq hQ l (i+1) e' _ w' g' (fun j=>by have:=hl (j+1);simpa[Nat.add_assoc,Nat.add_comm 1 j]using this) hinv (fG.put (by simpa using Array.mem_of_getElem? h0) ma v) (by rw[Ce,ma]) hk
theorem Wp{w0:World}{aq:S0}{e:Env}{a:Act}{w:World}{g:Gh}(hI:Inv gl w0 aq e a w g){id:Nat}{draw:Bool}{K:Env→Prop}{Q:Exit→Act→World→Prop}(hm:P.follows .mixedOrders =true)
  (h:Ap P gl (aD P gl) aE ops.toList e (vn P gl (aD P gl) (!draw||rD aE ops) ops aE e K))(hQ:∀e a' w g,Inv gl w0 aq e a' w g→K e→lG ops.toList a a'→Q .normal (wd a' ds) w):(Code.region id ops draw).wpIn (FW r) n P Q (wd a ds) w:=by
 unfold Ap at h
 cases gr:(!draw||rD aE ops)with
 |false=>
  rw[gr]at h
  obtain⟨e',KU,hK⟩:=Ie _ _ _ h
  have hd:draw=true:=by cases draw<;>simp_all
  subst hd
  refine wpIn_region_any hm ?_
  have bO:=(hI.Fa (fU ops.toList ops.toList.length)).drew
  have:=Ic (P:=P) (gl:=gl) (aE:=aE) (K:=fun x=>x=e') _ 0 (Array.replicate ops.size false) _ (fun j=>by simp[Array.getElem?_replicate];split<;>rfl) (by simp) (fun j o ho hl=>by
   have hj:j<ops.size:=(Array.getElem?_eq_some_iff.1 ho).1
   simp[hj]at hl) ⟨w0,aq,a,_,_,bO⟩ KU
  have h2:=Jc (r:=r) (n:=n) (Q:=Q) (K:=fun x=>x=e') (fun e1 a1 w1 g1 hinv hk=>hQ e1 a1 w1 g1 hinv (by rw[hk];exact hK)) _ _ _ _ _ _ bO (lG.refl _ _) rfl this
  simpa using h2
 |true=>
 rw[gr]at h
 replace h:ld P gl (aD P gl) aE ops.toList e.boxes.length ops.toList 0 ⟨e.ai,e.boxes++List.replicate (fU ops.toList ops.toList.length) .none⟩ K:=h
 have bh:=hI.Fa (fU ops.toList ops.toList.length)
 cases draw with
 |false=>
  refine wpIn_region ?_
  have:=Pq (r:=r) (n:=n) (base:=e.boxes.length) (aE:=aE) hQ ops.toList 0 _ a w _ (fun j=>by simp) bh (lG.refl _ _) rfl h
  rw[List.range_eq_range']
  simpa using this
 |true=>
  simp only[Bool.not_true,Bool.false_or]at gr
  refine wpIn_region_any hm ?_
  have bO:=bh.drew
  have aM:(Array.replicate ops.size false).size =ops.size:=by simp
  have LR:=hI.Sk (ops:=ops) (fU ops.toList ops.toList.length) rfl
  obtain⟨E,v9,gr⟩:∃E,Js ops aE e.boxes.length _ E (Array.replicate ops.size false) ⟨e.ai,e.boxes++List.replicate (fU ops.toList ops.toList.length) .none⟩∧yz E ops aE (reach [] ops.toList) ops.toList 0=true:=by
   unfold rD at gr
   cases gD:eligible ops.toList aE (reach [] ops.toList)with
   |true=>rw[gD]at gr;exact⟨_,fun A hA=>by cases hA;exact⟨rfl,QH gD,LR⟩,gr⟩
   |false=>rw[gD]at gr;exact⟨none,fun A hA=>(by cases hA),gr⟩
  have:=Jt (P:=P) (gl:=gl) (base:=e.boxes.length) (aE:=aE) ops.toList 0 (Array.replicate ops.size false) _ (fun j=>by simp) (fun j hj=>by omega) (fun j _ hj=>by simp[hj]) aM
   (fun j o ho hl=>by
     have hj:j<ops.size:=(Array.getElem?_eq_some_iff.1 ho).1
     simp[hj]at hl) ⟨w0,aq,a,_,_,bO⟩ v9 gr h
  have h2:=Jc (r:=r) (n:=n) hQ _ _ _ _ _ _ bO (lG.refl _ _) rfl this
  simpa using h2
end
section
variable{P:Program}{gl:Nat→Option D}{h:Hints}{r:Option Nat}{n:Nat}{ds:List Deferred}
def Kt(gh:List (Nat×List ib))(c:Code)(a a':Act):Prop:=∀t,t∉cF gh c→a'.tmps.getD t undef=a.tmps.getD t undef
theorem Kt.refl(gh:List (Nat×List ib))(c:Code)(a:Act):Kt gh c a a:=fun _ _=>rfl
theorem Kt.trans{gh:List (Nat×List ib)}{x y c:Code}{a a1 a2:Act}(h1:Kt gh x a a1)(h2:Kt gh y a1 a2)(hx:∀t,t∈cF gh x→t∈cF gh c)(hy:∀t,t∈cF gh y→t∈cF gh c):Kt gh c a a2:=
 fun t ht=>(h2 t fun hm=>ht (hy t hm)).trans (h1 t fun hm=>ht (hx t hm))
theorem Kt.mono{gh:List (Nat×List ib)}{x c:Code}{a a1:Act}(h1:Kt gh x a a1)(hx:∀t,t∈cF gh x→t∈cF gh c):Kt gh c a a1:=fun t ht=>h1 t fun hm=>ht (hx t hm)
theorem Pr{ops:Array Oper}{Q:Exit→Act→World→Prop}{a0:Act}{R:Act→World→Prop}(hR:∀a w,R a w→lG ops.toList a0 a→Q .normal (wd a ds) w):∀(l:List Oper)(i:Nat){a:Act}{w:World},(∀j,l[j]? =ops[i+j]?)→m9 P l a w R→lG ops.toList a0 a→a.tmps.size=a0.tmps.size→wpOpsIn (FW r) n P ops Q (List.range' i l.length) (wd a ds) w
 |[],_,_,_,_,h,hk,_=>hR _ _ h hk
 |o::l,i,a,w,hl,h,hk,aM=>by
  obtain⟨hg,mI,h⟩:=h
  have h0:ops[i]? =some o:=by simpa using(hl 0).symm
  rw[List.length_cons,List.range'_succ,wpOpsIn_cons]
  unfold wpOpIn
  simp only[h0]
  rw[if_pos (by simp[Region.wanted,hg])]
  exact QO mI (h _ _ fun v w1 hd h1=>⟨hd,Pr hR l (i+1) (fun j=>by have:=hl (j+1);simpa[Nat.add_assoc,Nat.add_comm 1 j]using this) h1 (hk.put (by simpa using Array.mem_of_getElem? h0) aM v) (by rw[Ce,aM])⟩)
theorem X9{w0:World}{aq:S0}{e:Env}{a:Act}{w:World}{g:Gh}(hI:Inv gl w0 aq e a w g){id:Nat}{ops:Array Oper}{draw:Bool}{K:Env→Prop}{Q:Exit→Act→World→Prop}(hm:P.follows .mixedOrders =true)
  (hh:lU P gl (aD P gl) h id ops draw e K)(hQ:∀e a' w g,Inv gl w0 aq e a' w g→K e→lG ops.toList a a'→Q .normal (wd a' ds) w):(Code.region id ops draw).wpIn (FW r) n P Q (wd a ds) w:=by
 unfold lU at hh
 obtain⟨hb,hh⟩:=re hh
 obtain⟨e1,g1,cU,h1⟩:=As hI hh
 have wc:∀e a' w g,Inv gl w0 aq e a' w g→gO (kD h.gh (4000000+id)) e K→lG ops.toList a a'→Q .normal (wd a' ds) w:=fun e a w g h1 h2 hk=>by
  obtain⟨e2,g2,bO,h3⟩:=As h1 h2
  exact hQ e2 a w g2 bO h3 hk
 cases hs:uV P draw ops.toList with
 |some s=>
  simp only[hs]at h1
  obtain⟨hd,L3⟩:=HV hs
  subst hd
  have hr:=P5 cU L3 h1
  refine wpIn_region ?_
  have:=Pr (r:=r) (n:=n) (ds:=ds) (ops:=ops) (Q:=Q) (a0:=a) (fun a' w'⟨e',g',bh,hk⟩fG=>wc e' a' w' g' bh hk fG) ops.toList 0 (fun j=>by simp) hr (lG.refl _ _) rfl
  rw[List.range_eq_range']
  simpa using this
 |none=>
  simp only[hs]at h1
  exact Wp cU hm h1 fun e' a' w' g' bh hk fG=>wc e' a' w' g' bh hk fG
theorem pW(hm:P.follows .mixedOrders =true):∀(c:Code){w0:World}{aq:S0}{QA:Ex→Env→Prop}{e:Env}{a:Act}{w:World}{g:Gh}{Q:Exit→Act→World→Prop},
  Inv gl w0 aq e a w g→aw P gl (aD P gl) h c QA e→(∀x e' a' w' g',Inv gl w0 aq e' a' w' g'→QA x e'→Kt [] c a a'→Q x.to (wd a' ds) w')→c.wpIn (FW r) n P Q (wd a ds) w
 | .skip,_,_,_,_,_,_,_,_,hI,hh,hQ=>wpIn_skip (hQ .normal _ _ _ _ hI hh (Kt.refl _ _ _))
 | .region id ops draw,w0,aq,QA,e,a,w,g,Q,hI,hh,hQ=>by
   obtain⟨uo,hh,hj⟩:=ER hI (c:=.region id ops draw) (T:=fun Q=>lU P gl (aD P gl) h id ops draw e (Q .normal)) (fun Q hh=>NO Q hh) hh
   have hQ:∀ex e' a' w' g',Inv gl w0 aq e' a' w' g'→uo ex e'→Kt [] (.region id ops draw) a a'→Q ex.to (wd a' ds) w':=fun ex e' a' w' g' h1 h2 h5=>(by
    obtain⟨lp,wb,h3,h4⟩:=hj ex e' a' w' g' h1 h2
    exact hQ ex lp a' w' wb h3 h4 h5)
   clear hj
   exact X9 hI hm hh fun e' a' w' g' bh hk fG=>hQ .normal e' a' w' g' bh hk fun t ht=>fG t fun hm=>ht (by simp only[cF,List.mem_append];exact .inr (.inr hm))
 | .seq x y,w0,aq,QA,e,a,w,g,Q,hI,hh,hQ=>by
   have iA:∀t,t∈cF [] x→t∈cF [] (.seq x y):=fun t ht=>by simp[cF,ht]
   have zm:∀t,t∈cF [] y→t∈cF [] (.seq x y):=fun t ht=>by simp[cF,ht]
   refine wpIn_seq (pW hm x hI hh fun ex e' a' w' g' bh hk fG=>?_)
   cases ex with
   |normal=>exact pW hm y bh hk fun x2 e2 a2 w2 g2 bO kT vz=>hQ x2 e2 a2 w2 g2 bO kT (fG.trans vz iA zm)
   |exit i=>exact hQ (.exit i) e' a' w' g' bh hk (fG.mono iA)
   |ret=>exact hQ .ret e' a' w' g' bh hk (fG.mono iA)
 | .cond c x y,w0,aq,QA,e,a,w,g,Q,hI,hh,hQ=>by
   obtain⟨uo,hh,hj⟩:=ER hI (c:=.cond c x y) (T:=fun Q=>oq e c (aw P gl (aD P gl) h x Q) (aw P gl (aD P gl) h y Q)) (fun Q hh=>OH Q hh) hh
   have hQ:∀ex e' a' w' g',Inv gl w0 aq e' a' w' g'→uo ex e'→Kt [] (.cond c x y) a a'→Q ex.to (wd a' ds) w':=fun ex e' a' w' g' h1 h2 h5=>(by
    obtain⟨lp,wb,h3,h4⟩:=hj ex e' a' w' g' h1 h2
    exact hQ ex lp a' w' wb h3 h4 h5)
   clear hj
   cases c with
   |tmp t=>
    simp only[oq]at hh
    have hs:=jQ hI t
    cases hx:e.ai.getD t (.v .undef)with
    |v z=>
     rw[hx]at hh hs
     obtain⟨b,rfl,h1,h2⟩:=Aq hh
     have hv:=hs.jT.data.tf
     refine wpIn_cond_split hv (fun hb=>?_) (fun hb=>?_)
     ·have:=h1 hb
      subst hb
      rw[uF hx]at this
      exact pW hm x hI this fun x2 e2 a2 w2 g2 bO kT vz=>hQ x2 e2 a2 w2 g2 bO kT (vz.mono fun t ht=>by simp[cF,ht])
     ·have:=h2 hb
      subst hb
      rw[uF hx]at this
      exact pW hm y hI this fun x2 e2 a2 w2 g2 bO kT vz=>hQ x2 e2 a2 w2 g2 bO kT (vz.mono fun t ht=>by simp[cF,ht])
    |_=>rw[hx]at hh;exact hh.elim
   |const v=>
    cases v with
    |bool b=>
     refine wpIn_cond_split (t:=b) rfl (fun hb=>?_) (fun hb=>?_)
     ·subst hb;exact pW hm x hI hh fun x2 e2 a2 w2 g2 bO kT vz=>hQ x2 e2 a2 w2 g2 bO kT (vz.mono fun t ht=>by simp[cF,ht])
     ·subst hb;exact pW hm y hI hh fun x2 e2 a2 w2 g2 bO kT vz=>hQ x2 e2 a2 w2 g2 bO kT (vz.mono fun t ht=>by simp[cF,ht])
    |_=>exact hh.elim
   |_=>exact hh.elim
 | .block id b,w0,aq,QA,e,a,w,g,Q,hI,hh,hQ=>by
   refine wpIn_block (pW hm b hI hh fun ex e' a' w' g' bh hk fG=>?_)
   cases ex with
   |normal=>exact hQ .normal e' a' w' g' bh hk fG
   |exit i=>
    have bK:cond (i==id) (QA .normal e') (QA (.exit i) e'):=hk
    show(if i=id then Q .normal (wd a' ds) w' else Q (.exit i) (wd a' ds) w')
    cases hb:(i==id)with
    |true=>
     rw[hb]at bK
     rw[if_pos (beq_iff_eq.1 hb)]
     exact hQ .normal e' a' w' g' bh bK fG
    |false=>
     rw[hb]at bK
     rw[if_neg (beq_eq_false_iff_ne.1 hb)]
     exact hQ (.exit i) e' a' w' g' bh bK fG
   |ret=>exact hQ .ret e' a' w' g' bh hk fG
 | .loop b,w0,aq,QA,e,a,w,g,Q,hI,hh,hQ=>by
   obtain⟨hb,hh⟩:=re (hh:cond _ _ False)
   simp only[Bool.and_eq_true,List.all_eq_true,Bool.not_eq_true',List.contains_eq_mem,decide_eq_false_iff_not]at hb
   obtain⟨KW,hk⟩:=hb
   let LW:Act→World→Prop:=fun a1 w1=>∀(fr:Frame)(k:List Item)(cs:List Frame),fr.roundOf=(FW r).round →(FW r).fn fr.fn→(FW r).room (cs.length+1+n)→∃ex a' w',Q ex a' w'∧ArrivesIn (Machine.fenced P (FW r)) P (lone (fr.atR a1 (.code b::.inLoop b::k)) cs w1) fr k cs ex a' w'
   let I:List SV→List (List SV)→Prop:=fun vs bs=>∀e1 a1 w1 g1,Inv gl w0 aq e1 a1 w1 g1→Fr h.gh b e e1→Kt [] b a a1→tu e1 (mY h.eQ (mA b)).1=vs→tk e.boxes.length e1=bs→LW (wd a1 ds) w1
   have key:I _ _:=hh I fun vs bs hF e1 a1 w1 g1 cU wa fG jX gX=>by
    subst jX gX
    have L5:=ID hI cU wa (vars:=(mY h.eQ (mA b)).1) KW
    have jd:=pW hm b (Q:=fun ex a' w'=>match ex with| .normal =>LW a' w'|ex=>Q ex a' w') L5 (pZ b hF) (fun ex e' a' w' g' bh bK KZ=>by
     obtain⟨iS,kT⟩:=bK
     cases ex with
     |normal=>exact iS e' a' w' g' bh ((Fb hk).trans kT (fun t ht=>ht) (fun t ht=>ht)) (fG.trans KZ (fun t ht=>ht) (fun t ht=>ht)) rfl rfl
     |exit i=>exact hQ (.exit i) e' a' w' g' bh iS (fG.trans KZ (fun t ht=>ht) (fun t ht=>ht))
     |ret=>exact hQ .ret e' a' w' g' bh iS (fG.trans KZ (fun t ht=>ht) (fun t ht=>ht)))
    intro fr k cs GU hb hr
    obtain⟨ex,a2,w2,hq,lY⟩:=jd fr (.inLoop b::k) cs GU hb hr
    cases ex with
    |normal=>
     obtain⟨e₂,a₂,w₂,L6,Ko⟩:=hq fr k cs GU hb hr
     exact⟨e₂,a₂,w₂,L6,.of_steps (StepsIn.trans lY (.one (fenced_calm hb hr rfl) stepR_inLoop)) Ko⟩
    |exit id=>exact⟨_,a2,w2,hq,.pass (x:=.inLoop b) rfl (fun _ _=>.inl (by simp)) lY⟩
    |goto l=>exact⟨_,a2,w2,hq,.pass (x:=.inLoop b) rfl (fun _ _=>.inl (by simp)) lY⟩
    |ret=>exact⟨_,a2,w2,hq,.pass (x:=.inLoop b) rfl (fun _ _=>.inl (by simp)) lY⟩
    |panic ch=>exact⟨_,a2,w2,hq,.pass (x:=.inLoop b) rfl (fun _ _=>.inl (by simp)) lY⟩
    |outgrown=>exact⟨_,a2,w2,hq,.pass (x:=.inLoop b) rfl (fun _ _=>.inl (by simp)) lY⟩
   have L7:LW (wd a ds) w:=key e a w g hI (Fr.refl _ _) (Kt.refl _ _ _) rfl rfl
   intro fr k cs GU hb hr
   obtain⟨ex,a',w',hq,lY⟩:=L7 fr k cs GU hb hr
   exact⟨ex,a',w',hq,.of_steps (.one (fenced_calm hb hr rfl) stepR_loop) lY⟩
 | .exit id,_,_,_,_,_,_,_,_,hI,hh,hQ=>wpIn_exit (hQ (.exit id) _ _ _ _ hI hh (Kt.refl _ _ _))
 | .ret,_,_,_,_,_,_,_,_,hI,hh,hQ=>wpIn_ret (hQ .ret _ _ _ _ hI hh (Kt.refl _ _ _))
 | .goto _,_,_,_,_,_,_,_,_,_,hh,_=>hh.elim
 | .label _,_,_,_,_,_,_,_,_,hI,hh,hQ=>wpIn_label (hQ .normal _ _ _ _ hI hh (Kt.refl _ _ _))
 | .scope _,_,_,_,_,_,_,_,_,_,hh,_=>hh.elim
 | .rangeFunc _ _ _ _,_,_,_,_,_,_,_,_,_,hh,_=>hh.elim
 | .refuse _,_,_,_,_,_,_,_,_,_,hh,_=>hh.elim
theorem wF{gh:List (Nat×List ib)}:∀(c:Code){t:Nat},t∈cF [] c→t∈cF gh c
 | .region id ops draw,t,h=>by
   simp only[cF,List.mem_append]at h ⊢
   rcases h with h|h|h
   ·simp[kD,fB]at h
   ·simp[kD,fB]at h
   ·exact .inr (.inr h)
 | .seq a b,t,h=>by
   simp only[cF,List.mem_append]at h ⊢
   exact h.imp (wF a) (wF b)
 | .cond c a b,t,h=>by
   simp only[cF,List.mem_append]at h ⊢
   exact h.imp (wF a) (wF b)
 | .block id b,t,h=>wF (gh:=gh) b h
 | .loop b,t,h=>wF (gh:=gh) b h
 | .scope b,t,h=>wF (gh:=gh) b h
 | .skip,t,h=>by simp[cF]at h
 | .exit _,t,h=>by simp[cF]at h
 | .ret,t,h=>by simp[cF]at h
 | .goto _,t,h=>by simp[cF]at h
 | .label _,t,h=>by simp[cF]at h
 | .rangeFunc ..,t,h=>by simp[cF]at h
 | .refuse ..,t,h=>by simp[cF]at h
theorem Kt.any{gh:List (Nat×List ib)}{c:Code}{a a':Act}(h:Kt [] c a a'):Kt gh c a a':=fun t ht=>h t fun hm=>ht (wF c hm)
theorem OL(hm:P.follows .mixedOrders =true)(c:Code){w0:World}{aq:S0}{QA:Ex→Env→Prop}{e:Env}{a:Act}{w:World}{g:Gh}{Q:Exit→Act→World→Prop}
  (hI:Inv gl w0 aq e a w g)(hh:aw P gl (aD P gl) h c QA e)(hQ:∀x e' a' w' g',Inv gl w0 aq e' a' w' g'→QA x e'→Q x.to (wd a' ds) w'):c.wpIn (FW r) n P Q (wd a ds) w:=
 pW hm c hI hh fun x e' a' w' g' h1 h2 _=>hQ x e' a' w' g' h1 h2
end
end Go.Proofs.Ytimbllcalipehaa.Ab
namespace Go.Proofs.Ytimbllcalipehaa.Ab
open Go Go.RowKit
mutual
def SV.oD:SV→Bool
 | .mp _=>false
 | .ref cs _=>SV.pj cs
 | .cJ _ _ cs=>SV.pj cs
 | .dg _ a b=>SV.pj a&&SV.pj b
 | .aL l=>SV.pj l
 |_=>true
def SV.pj:List SV→Bool
 |[]=>true
 |x::l=>SV.oD x&&SV.pj l
end
theorem wJ:∀{l:List SV},SV.pj l=true↔∀x∈l,SV.oD x=true
 |[]=>by simp[SV.pj]
 |x::l=>by simp[SV.pj,wJ (l:=l)]
end Go.Proofs.Ytimbllcalipehaa.Ab
namespace Go.Proofs.Ytimbllcalipehaa.Ab
open Go Go.RowKit
theorem rb:∀{l:List SV},SV.gM l=true↔∀x∈l,SV.ay x=true
 |[]=>by simp[SV.gM]
 |x::l=>by simp[SV.gM,rb (l:=l)]
section
variable{W W':World}{gl:Nat→Option D}
theorem aZ.eQ{St:Nat→Nat→Prop}(hc:∀b o v,St b o→W.cell? ⟨b,o,none⟩=some v→W'.cell? ⟨b,o,none⟩=some v){x:D}{v:Value}(r:aZ W St x v):aZ W' St x v:=by
 induction r with
 |bool b=>exact .bool b
 |int k n hk=>exact .int k n hk
 |str s hs=>exact .str s hs
 |agg ds vs hf hl _ ih=>exact .agg ds vs hf hl ih
 |iJ sz=>exact .iJ sz
 |sl sz L b off cap vs bF hm aM hf aO _ ih=>exact .sl sz L b off cap vs bF hm aM hf (fun o ho=>⟨hc _ _ _ (aO o ho).2 (aO o ho).1,(aO o ho).2⟩) ih
 |ki sz a cap ha=>exact .ki sz a cap ha
 |fn f=>exact .fn f
 |tF=>exact .tF
 |iface t x v _ ih=>exact .iface t x v ih
 |tG=>exact .tG
 |oa=>exact .oa
theorem aJ.eQ{St:Nat→Nat→Prop}{base:Nat}(hc:∀b o v,St b o→W.cell? ⟨b,o,none⟩=some v→W'.cell? ⟨b,o,none⟩=some v){O:Nat→Nat→Nat→Prop}{x:SV}{v:Value}(r:aJ W St base O x v):
  ∀O':Nat→Nat→Nat→Prop,(∀g a c,O g a c→O' g a c∧W'.heap[g]? =W.heap[g]?)→x.oD=true→x.ay=true→aJ W' St base O' x v:=by
 induction r with
 |d O x v hd=>exact fun O' _ _ _=>.d O' x v (hd.eQ hc)
 |own O sz L g cap hd bF ho=>exact fun O' hO _ _=>.own O' sz L g cap (hd.eQ hc) bF (hO _ _ _ ho).1
 |full O sz L a hd=>exact fun O' _ _ _=>.full O' sz L a (hd.eQ hc)
 |ref O cs off b o vs eh aO _ ih=>exact fun O' _ _ hr=>by cases hr
 |cJ O n sz cs b cap vs eh hn hm aO _ ih=>exact fun O' _ _ hr=>by cases hr
 |aT O x off b o vs hf aO dm=>exact fun O' _ _ _=>.aT O' x off b o vs hf (fun i hi=>⟨hc _ _ _ (aO i hi).2 (aO i hi).1,(aO i hi).2⟩) fun i c hi=>(dm i c hi).eQ hc
 |dg O f first cap fv cv hf cY _ _ jh ji=>
  intro O' _ hn hr
  simp only[SV.oD,SV.ay,Bool.and_eq_true]at hn hr
  exact .dg O' f first cap fv cv hf cY (fun i x v a b=>jh i x v a b _ (fun _ _ _ h=>h.elim) (wJ.1 hn.1 x (List.mem_of_getElem? a)) (rb.1 hr.1 x (List.mem_of_getElem? a))) (fun i x v a b=>ji i x v a b _ (fun _ _ _ h=>h.elim) (wJ.1 hn.2 x (List.mem_of_getElem? a)) (rb.1 hr.2 x (List.mem_of_getElem? a)))
 |bt O sz L g cap vs bF hm aM hf ho aO dm=>
  exact fun O' hO _ _=>.bt O' sz L g cap vs bF hm aM hf (hO _ _ _ ho).1 (fun o bN=>(World.cell?_of_block (hO _ _ _ ho).2).trans (aO o bN)) fun i x j c hx gU=>(dm i x j c hx gU).eQ hc
 |mp O l r es clock hh hs hl dm=>exact fun O' _ hn=>by cases hn
 |undef O v=>exact fun O' _ _ _=>.undef O' v
inductive Plain:Slot→Prop
 |v (x:SV) (h:x.oD=true) (h2:x.ay=true):Plain (.v x)
 |t (l:List SV) (h:SV.pj l=true) (h2:SV.gM l=true):Plain (.t l)
 |p (b off:Nat):Plain (.p b off)
 |a (b n sz:Nat):Plain (.a b n sz)
 |m (b:Nat):Plain (.m b)
 |c (f:Fn) (first cap:List Slot) (h1:∀s∈first,Plain s) (h2:∀s∈cap,Plain s):Plain (.c f first cap)
structure FN(e:Env):Prop where
 s:∀s∈e.ai,Plain s
 b:∀bx∈e.boxes,match bx with| .cells cs=>SV.pj cs=true∧SV.gM cs=true| .one s=>Plain s|_=>True
theorem bW.eQ{base:Nat}{g:Gh}(dt:∀b,some b∈g.bx→W'.heap[b]? =W.heap[b]?)(hc:∀b o v,g.St b o→W.cell? ⟨b,o,none⟩=some v→W'.cell? ⟨b,o,none⟩=some v){O:Nat→Nat→Nat→Nat→Prop}{s:Slot}{v:Value}(r:bW base W g O s v):
  ∀O':Nat→Nat→Nat→Nat→Prop,(∀j b a c,O j b a c→O' j b a c∧W'.heap[b]? =W.heap[b]?)→Plain s→bW base W' g O' s v:=by
 induction r with
 |v O x y h=>exact fun O' hO hn=>.v _ x y (by cases hn with|v _ h1 h2=>exact h.eQ hc _ (hO 0) h1 h2)
 |p O b off an h=>exact fun O' _ _=>.p _ b off an h
 |a O b n sz v hm h=>exact fun O' _ _=>.a _ b n sz v hm (by obtain⟨an,cap,h1,h2,h3,h4,c,ty,h5,h6⟩:=h;exact⟨an,cap,h1,h2,h3,h4,c,ty,(dt an (List.mem_of_getElem? h1)).trans h5,h6⟩)
 |m O b an h=>exact fun O' _ _=>.m _ b an h
 |c O f first cap fv cv hf cY _ _ jh ji=>
  intro O' _ hn
  cases hn with
  |c _ _ _ h1 h2=>
   exact .c _ f first cap fv cv hf cY (fun i x v a b=>jh i x v a b _ (fun _ _ _ _ h=>h.elim) (h1 x (List.mem_of_getElem? a))) (fun i x v a b=>ji i x v a b _ (fun _ _ _ _ h=>h.elim) (h2 x (List.mem_of_getElem? a)))
 |t O xs vs hl dm=>
  intro O' hO hn
  cases hn with
  |t _ h h2=>exact .t _ xs vs hl fun j x v a b=>(dm j x v a b).eQ hc _ (hO j) (wJ.1 h x (List.mem_of_getElem? a)) (rb.1 h2 x (List.mem_of_getElem? a))
def Dp(W:World)(n:Nat):World:={W with heap:=W.heap.extract 0 n}
theorem Ps{W:World}{n:Nat}(h:n≤W.heap.size):(Dp W n).heap.size =n:=by simp[Dp];omega
theorem Inv.move{w0 Me:World}{aq:S0}{e:Env}{a:Act}{g:Gh}(hI:Inv gl w0 aq e a W g)(hn:FN e)(h0:Me.heap.size=w0.heap.size)(hb:Below w0.heap.size Me W')(hs:W.heap.size≤W'.heap.size)
  (hc:∀b o v,g.St b o→W.cell? ⟨b,o,none⟩=some v→W'.cell? ⟨b,o,none⟩=some v)
  (dt:∀b,some b∈g.bx→W'.heap[b]? =W.heap[b]?)(qH:∀b p,g.ow b=some p→w0.heap.size≤b→b<W.heap.size→W'.heap[b]? =W.heap[b]?)
  (jZ:∀D o,aq.df D o→W'.heap[D]? =W.heap[D]?):Inv gl Me aq e a W' g:=by
 have iv:∀p b a' c,eN w0.heap.size W g p b a' c→eN w0.heap.size W' g p b a' c∧W'.heap[b]? =W.heap[b]? :=by
  rintro p b a' c ⟨h1,h2,h3,⟨cur,t,h4,h5⟩,h6⟩
  have:=qH b p h1 h2 (fT h4)
  exact⟨⟨h1,h2,h3,⟨cur,t,this.trans h4,h5⟩,h6⟩,this⟩
 refine⟨by rw[h0];exact hb,hI.size,fun i s hs=>?_,hI.ff,fun b bx an h1 h2=>?_,hI.nodup,hI.fY,fun b o h=>⟨by rw[h0];exact(hI.cG b o h).1,(hI.cG b o h).2.1,by have:=(hI.cG b o h).2.2;omega⟩,
  fun b h=>⟨by rw[h0];exact(hI.dj b h).1,by have:=(hI.dj b h).2;omega⟩,?_,hI.defers,
  fun D o hD=>(have h:=hI.eR D o hD;⟨h.1,h.2.1,(jZ D o hD).trans h.2.2.1,h.2.2.2⟩),fun b o v hv=>(have h:=hI.cls b o v hv;⟨h.1,hc _ _ _ h.1 h.2⟩),Nat.le_trans hI.jH hs⟩
 ·rw[h0]
  exact(hI.ai i s hs).eQ dt hc _ (fun j b a' c h=>iv _ b a' c h) (hn.s s (List.mem_of_getElem? hs))
 ·rw[h0]
  have kU:=hI.boxes b bx an h1 h2
  have gp:=hn.b bx (List.mem_of_getElem? h1)
  have hb:=dt an (List.mem_of_getElem? h2)
  cases bx with
  |none=>exact kU.elim
  |map l=>
   obtain⟨h0,es,clock,hh,hl,bc⟩:=kU
   exact⟨h0,es,clock,hb.trans hh,hl,fun i x y hx hy=>⟨(bc i x y hx hy).1,(bc i x y hx hy).2.1,(bc i x y hx hy).2.2.eQ hc⟩⟩
  |cells cs=>
   obtain⟨h0,c,t,hh,cg,hl,bc⟩:=kU
   exact⟨h0,c,t,hb.trans hh,cg,hl,fun j x y hx hy=>(bc j x y hx hy).eQ hc _ (fun b' a' c' h=>iv _ b' a' c' h) (wJ.1 gp.1 x (List.mem_of_getElem? hx)) (rb.1 gp.2 x (List.mem_of_getElem? hx))⟩
  |one s=>
   obtain⟨h0,c,t,hh,cg,hl,bc⟩:=kU
   exact⟨h0,c,t,hb.trans hh,cg,hl,fun y hy=>(bc y hy).eQ dt hc _ (fun _ b' a' c' h=>iv _ b' a' c' h) gp⟩
 ·intro n x hx
  obtain⟨h0,vs,h1,h2⟩:=hI.ke n x hx
  exact⟨h0,vs,fun i hi=>⟨hc _ _ _ (h1 i hi).2 (h1 i hi).1,(h1 i hi).2⟩,fun i c jl=>(h2 i c jl).eQ hc⟩
theorem Inv.ur{w0:World}{aq y7:S0}{e:Env}{a:Act}{g:Gh}(hI:Inv gl w0 aq e a W g)(h0:∀b o,y7.St b o→g.St b o)(h1:∀b o,g.St b o→y7.St b o∨w0.heap.size≤b)
  (jZ:∀D o,y7.df D o→some D∉g.bx∧g.ow D=none∧W.heap[D]? =some o∧∀x,g.St D x→y7.St D x)(cY:∀b o v,y7.cl b o v→g.St b o∧W.cell? ⟨b,o,none⟩=some v)
  (aM:y7.sz≤W.heap.size):Inv gl w0 y7 e a W g:=
 ⟨hI.below,hI.size,hI.ai,hI.ff,hI.boxes,hI.nodup,h0,fun b o h=>⟨h1 b o h,(hI.cG b o h).2⟩,hI.dj,hI.ke,hI.defers,jZ,cY,aM⟩
theorem aJ.Kr{St bE:Nat→Nat→Prop}(h:∀b o,St b o→bE b o){base:Nat}{O:Nat→Nat→Nat→Prop}{x:SV}{v:Value}(r:aJ W St base O x v){O':Nat→Nat→Nat→Prop}(hO:∀b a c,O b a c→O' b a c):aJ W bE base O' x v:=
 r.mono (fun b o hs=>⟨h b o hs,.refl _ _ _⟩) (fun _ _ _=>rfl) _ fun b a c ho=>⟨hO b a c ho,.refl _ _ _⟩
theorem Inv.ab6{w0:World}{aq:S0}{e:Env}{a:Act}{g:Gh}(hI:Inv gl w0 aq e a W g){S:Nat→Nat→Prop}(hS:∀b o,S b o→g.St b o∨(w0.heap.size≤b∧b<W.heap.size∧some b∉g.bx∧g.ow b=none))
  (jZ:∀D o,aq.df D o→∀x,S D x→g.St D x):Inv gl w0 aq e a W {g with St:=fun b o=>g.St b o∨S b o}:=by
 have iv:∀p b a' c,eN w0.heap.size W g p b a' c→eN w0.heap.size W {g with St:=fun b o=>g.St b o∨S b o} p b a' c:=by
  rintro p b a' c ⟨h1,h2,h3,h4,h5⟩
  refine⟨h1,h2,h3,h4,fun o ho=>?_⟩
  rintro(h|h)
  ·exact h5 o ho h
  ·rcases hS b o h with h|⟨_,_,_,h⟩
   ·exact h5 o ho h
   ·rw[h1]at h;cases h
 refine⟨hI.below,hI.size,fun i s hs=>?_,hI.ff,fun b bx an h1 h2=>?_,hI.nodup,fun b o h=>.inl (hI.fY b o h),fun b o h=>?_,hI.dj,?_,hI.defers,
  fun D o hD=>(have h:=hI.eR D o hD;⟨h.1,h.2.1,h.2.2.1,fun x hx=>h.2.2.2 x (hx.elim id (jZ D o hD x))⟩),fun b o v hv=>⟨.inl (hI.cls b o v hv).1,(hI.cls b o v hv).2⟩,hI.jH⟩
 ·exact(hI.ai i s hs).mono (fun b o h=>⟨.inl h,.refl _ _ _⟩) (fun _ _ _=>rfl) (fun _ _ h=>h) (.refl _) fun j b a' c h=>⟨iv _ b a' c h,.refl _ _ _⟩
 ·have kU:=hI.boxes b bx an h1 h2
  cases bx with
  |none=>exact kU.elim
  |map l=>
   obtain⟨h0,es,clock,hh,hl,bc⟩:=kU
   exact⟨h0,es,clock,hh,hl,fun i x y hx hy=>⟨(bc i x y hx hy).1,(bc i x y hx hy).2.1,(bc i x y hx hy).2.2.mono fun b o h=>⟨.inl h,rfl⟩⟩⟩
  |cells cs=>
   obtain⟨h0,c,t,hh,cg,hl,bc⟩:=kU
   exact⟨h0,c,t,hh,cg,hl,fun j x y hx hy=>(bc j x y hx hy).Kr (fun _ _ h=>.inl h) (fun b' a' c' h=>iv _ b' a' c' h)⟩
  |one s=>
   obtain⟨h0,c,t,hh,cg,hl,bc⟩:=kU
   exact⟨h0,c,t,hh,cg,hl,fun y hy=>(bc y hy).mono (fun b o h=>⟨.inl h,.refl _ _ _⟩) (fun _ _ _=>rfl) (fun _ _ h=>h) (.refl _) fun _ b' a' c' h=>⟨iv _ b' a' c' h,.refl _ _ _⟩⟩
 ·rcases h with h|h
  ·exact hI.cG b o h
  ·rcases hS b o h with h|⟨h1,h2,h3,_⟩
   ·exact hI.cG b o h
   ·exact⟨.inr h1,h3,h2⟩
 ·intro n x hx
  obtain⟨h0,vs,h1,h2⟩:=hI.ke n x hx
  exact⟨h0,vs,fun i hi=>⟨(h1 i hi).1,.inl (h1 i hi).2⟩,fun i c jl=>(h2 i c jl).mono fun b o h=>⟨.inl h,rfl⟩⟩
end
end Go.Proofs.Ytimbllcalipehaa.Ab
