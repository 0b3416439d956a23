/-
  THE ABSTRACT WALK: regions.
-/
import Derived.Test.YtimbllcalipehaaTb
import Derived.ChangeStays
import Derived.ChangeSame
import Derived.OpenShut
import Derived.Carry
import Derived.Lib.LaidTab
set_option linter.unusedVariables false
set_option linter.unusedSimpArgs false
namespace Go.Proofs.Ytimbllcalipehaa.Ab
open Go Go.RowKit
theorem Qe:∀(l:List Oper)(acc:List Nat)(k:Nat),k<acc.length→(reach acc l)[k]? =acc[k]?
 |[],acc,k,_=>rfl
 |o::l,acc,k,h=>by
  rw[reach,Qe l _ k (by simp;omega),List.getElem?_append_left h]
theorem X4(acc:List Nat)(i:Nat):∀(es:List Edge)(s:Nat),(es.foldl (fun s e=>bif Region.binds .any e then s|||2^e.on|||acc.getD e.on 0 else s) s).testBit i=true→
  s.testBit i=true∨∃e∈es,Region.binds .any e=true∧(e.on=i∨(acc.getD e.on 0).testBit i=true)
 |[],s,h=>.inl h
 |e::es,s,h=>by
  rw[List.foldl_cons]at h
  rcases X4 acc i es _ h with h|⟨e',he,hb,h⟩
  ·cases hb:Region.binds .any e with
   |false=>rw[hb]at h;exact .inl h
   |true=>
    rw[hb]at h
    simp only[cond_true,Nat.testBit_or,Bool.or_eq_true]at h
    rcases h with(h|h)|h
    ·exact .inl h
    ·refine .inr ⟨e,by simp,hb,.inl ?_⟩
     simpa[Nat.testBit_two_pow]using h
    ·exact .inr ⟨e,by simp,hb,.inr h⟩
  ·exact .inr ⟨e',by simp[he],hb,h⟩
theorem Xh:∀(l:List Oper)(acc:List Nat)(k i:Nat),acc.length≤k→((reach acc l).getD k 0).testBit i=true→
  ∃o,l[k-acc.length]? =some o∧∃e∈o.after.toList,Region.binds .any e=true∧(e.on=i∨(e.on<k∧((reach acc l).getD e.on 0).testBit i=true))
 |[],acc,k,i,hk,h=>by
  rw[reach,List.getD_eq_getElem?_getD,List.getElem?_eq_none hk]at h
  simp at h
 |o::l,acc,k,i,hk,h=>by
  rw[reach]at h ⊢
  rcases Nat.eq_or_lt_of_le hk with bY|bY
  ·subst bY
   refine⟨o,by simp,?_⟩
   rw[List.getD_eq_getElem?_getD,Qe l _ acc.length (by simp),List.getElem?_append_right (Nat.le_refl _)]at h
   simp only[Nat.sub_self,List.getElem?_cons_zero,Option.getD_some]at h
   rcases X4 acc i _ 0 h with h|⟨e,he,hb,h⟩
   ·simp at h
   ·refine⟨e,he,hb,h.imp id fun h=>?_⟩
    have aP:e.on<acc.length:=by
     rcases Nat.lt_or_ge e.on acc.length with h'|h'
     ·exact h'
     ·rw[List.getD_eq_getElem?_getD,List.getElem?_eq_none h']at h;simp at h
    refine⟨aP,?_⟩
    rw[List.getD_eq_getElem?_getD,Qe l _ e.on (by simp;omega),List.getElem?_append_left aP,←List.getD_eq_getElem?_getD]
    exact h
  ·obtain⟨p,hp,hr⟩:=Xh l _ k i (by simp;omega) h
   refine⟨p,?_,hr⟩
   rw[←hp]
   have:k-acc.length=(k-(acc++[o.after.toList.foldl (fun s e=>bif Region.binds .any e then s|||2^e.on|||acc.getD e.on 0 else s) 0]).length)+1:=by simp;omega
   rw[this,List.getElem?_cons_succ]
section
variable{P:Program}{gl:Nat→Option D}{ops:Array Oper}{aI:Nat→Bool}{base:Nat}
def xU(ops:Array Oper)(bS:Array Bool):Prop:=∀(j:Nat)o,ops[j]? =some o→bS.getD j false=true→∀e∈o.after,Region.binds .any e=true→bS.getD e.on false=true
theorem xU.waits{bS:Array Bool}(hc:xU ops bS){i:Nat}:∀(j:Nat)o,ops[j]? =some o→(∀e∈o.after,Region.binds .any e=true→bS.getD e.on false=true)→
  ((reach [] ops.toList).getD j 0).testBit i=true→bS.getD i false=true:=by
 intro j
 induction j using Nat.strongRecOn with
 |_ j ih=>
  intro o ho fO h
  obtain⟨o',cg,e,he,hb,h⟩:=Xh ops.toList [] j i (Nat.zero_le _) h
  simp only[List.length_nil,Nat.sub_zero,Array.getElem?_toList]at cg
  rw[ho]at cg
  cases cg
  have hl:=fO e (by simpa using he) hb
  rcases h with h|⟨aP,h⟩
  ·rw[←h];exact hl
  ·have hex:∃p,ops[e.on]? =some p:=by
    have:=(Array.getElem?_eq_some_iff.1 ho).1
    exact⟨ops[e.on],by simp[show e.on<ops.size by omega]⟩
   obtain⟨p,hp⟩:=hex
   exact ih e.on aP p hp (hc e.on p hp hl) h
theorem xU.set{bS:Array Bool}(hc:xU ops bS){j:Nat}(hj:j∈Region.ready .any ops bS):xU ops (bS.setIfInBounds j true):=by
 obtain⟨_,o,ho,fO⟩:=mem_ready.1 hj
 intro k p hk hl e he hb
 by_cases lp:j=k
 ·subst lp
  rw[ho]at hk;cases hk
  exact getD_set_true (fO e he hb)
 ·rw[getD_set_ne false lp]at hl
  exact getD_set_true (hc k p hk hl e he hb)
def yv(P:Program)(gl:Nat→Option D)(ops:Array Oper)(aI:Nat→Bool)(base:Nat)(Q:Env→Prop):Nat→Array Bool→Env→Prop
 |0,bS,e=>Region.ready .any ops bS=[]∧Q e
 |fuel+1,bS,e=>
  (Region.ready .any ops bS=[]→Q e)∧
  ∀i∈Region.ready .any ops bS,∃o,ops[i]? =some o∧pO P gl (aF P gl) ops.toList (base+gm ops.toList i) (aI i) o e (yv P gl ops aI base Q fuel (bS.setIfInBounds i true))
theorem Ez{w0:World}{au:S0}{e:Env}{a:Act}{w:World}{g:Gh}(hI:Inv gl w0 au e a w g){o:Oper}{c:Bool}(h:wg ops.toList o e=some c):Region.wanted o (yielded ops a.tmps)=c:=by
 unfold wg at h
 unfold Region.wanted
 split at h
 ·rename_i hg;rw[hg];exact(Option.some.inj h)
 ·rename_i j want hg
  rw[hg]
  simp only
  unfold yielded
  split at h
  ·rename_i t ht
   have vb:(ops[j]?).bind (·.dst)=some t:=by
    rw[Array.getElem?_toList]at ht
    cases hj:ops[j]? with
    |none=>rw[hj]at ht;cases ht
    |some q=>rw[hj]at ht;exact ht
   rw[vb]
   have hs:=kQ hI t
   have aP:∀{s},e.ak.getD t (.v .undef)=s→s≠.v .undef →a.tmps[t]? =some (a.tmps.getD t undef):=by
    intro s h1 h2
    have:t<e.ak.length:=by
     rcases Nat.lt_or_ge t e.ak.length with h|h
     ·exact h
     ·rw[List.getD_eq_getElem?_getD,List.getElem?_eq_none h]at h1;exact absurd h1.symm h2
    rw[←hI.size]at this
    simp[this]
   split at h
   ·rename_i c' hx
    rw[hx]at hs
    have hv:=hs.kz.data.xD
    have h1:=aP hx (by simp)
    simp only[Act.eval]at hv
    rw[hv]at h1
    simp only[Option.bind_some,h1]
    cases h
    cases c'<;>cases want<;>rfl
   ·rename_i vs hx
    rw[hx]at hs
    obtain⟨tv,hv,_⟩:=hs.Sf
    have h1:=aP hx (by simp)
    simp only[Act.eval]at hv
    rw[hv]at h1
    simp only[Option.bind_some,h1]
    cases h
    rfl
   ·cases h
  ·cases h
theorem QF{w0:World}{au:S0}{e:Env}{a:Act}{w:World}{g:Gh}(hI:Inv gl w0 au e a w g)(dst:Option Nat):Inv gl w0 au ⟨de e.ak dst (.t []),e.boxes⟩ (a.put dst undef) w g:=
 hI.value (.t _ [] #[] rfl (fun j x v h=>by simp at h))
theorem QG{w0:World}{au:S0}{e:Env}{a:Act}{w:World}{g:Gh}(hI:Inv gl w0 au e a w g){i id:Nat}{l:Bool}{o:Oper}(ho:ops[i]? =some o){k:Env→Prop}
  (h:pO P gl (aF P gl) ops.toList id l o e k){next:Act→World→Prop}{Q:Exit→Act→World→Prop}(hn:∀e' a' w' g',Inv gl w0 au e' a' w' g'→k e'→next a' w'):wpOp P ops Q i next a w:=by
 have h':=CA.1 h
 unfold wpOp
 simp only[ho]
 split at h'
 ·rename_i hg
  rw[if_pos (Ez hI hg)]
  exact .inl (Qc hI h' next Q fun e' v w' g' hinv hk=>hn e' _ w' g' hinv hk)
 ·rename_i hg
  rw[if_neg (by rw[Ez hI hg];simp)]
  exact hn _ _ _ _ (QF hI o.dst) h'
 ·exact h'.elim
theorem Qf{e e':Env}(hG:Good gl e){i id:Nat}{l:Bool}{o:Oper}(ho:ops[i]? =some o)(h:pO P gl (aF P gl) ops.toList id l o e (fun x=>x=e')):Good gl e':=by
 obtain⟨w0,au,a,w,g,hI⟩:=hG
 have:=QG (Q:=fun _ _ _=>False) hI ho h (next:=fun a' w'=>∃g',Inv gl w0 au e' a' w' g') (fun oA a' w' g' hinv hk=>⟨g',hk▸hinv⟩)
 have akH:∀{next:Act→World→Prop},o.wp P a w next (fun _ _ _=>False)→∃a' w',next a' w':=by
  intro next h
  unfold Oper.wp at h
  generalize (execOp a.eval o).run P w=r at h
  cases r with
  |ok n w'=>
   cases n<;>simp only[Oper.upon]at h
   case value v=>exact⟨_,_,h⟩
   case skip=>exact⟨_,_,h⟩
   case defer d=>exact⟨_,_,h⟩
   case enter f args=>
    obtain⟨e,NL,fr,hR,_⟩:=h []
    cases e with
    |returned v=>exact⟨_,_,hR⟩
    |panicked c=>exact hR.elim
    |outgrown=>obtain⟨_,_,hf⟩:=hR;exact hf.elim
   case row row args=>
    obtain⟨v,NL,hR,_⟩:=h default []
    exact⟨_,_,hR⟩
  |halt x w'=>cases x<;>simp only[Oper.upon]at h
 unfold wpOp at this
 simp only[ho]at this
 have FB:∃a' w',∃g',Inv gl w0 au e' a' w' g':=by
  split at this
  ·rcases this with h|⟨_,_,_,hf⟩
   ·exact akH h
   ·exact hf.elim
  ·exact⟨_,_,this⟩
 obtain⟨a',w',g',hinv⟩:=FB
 exact⟨w0,au,a',w',g',hinv⟩
def Js(ops:Array Oper)(aI:Nat→Bool)(base:Nat)(K:Nat→Prop)(E:Option (List Nat))(bS:Array Bool)(e:Env):Prop:=
 ∀A,E=some A→A=mQ ops.toList∧Dq ops aI∧Jv ops base K bS e
theorem Js.step{C:bu}{K:Nat→Prop}{E:Option (List Nat)}{bS:Array Bool}{e e':Env}(h:Js ops aI base K E bS e){i:Nat}{o:Oper}(ho:ops[i]? =some o)
  (hs:pO P gl C ops.toList (base+gm ops.toList i) (aI i) o e (fun x=>x=e')):Js ops aI base K E (bS.setIfInBounds i true) e':=fun A hA=>by
 obtain⟨h1,h2,h3⟩:=h A hA
 exact⟨h1,h2,h3.step h2 ho hs⟩
theorem ZN{bS:Array Bool}(hE:Dq ops aI)(hc:xU ops bS){i:Nat}{o:Oper}(ho:ops[i]? =some o)(hr:i∈Region.ready .any ops bS):Made ops bS o:=by
 intro a ha k ok hk Gf
 obtain⟨_,o',cg,fO⟩:=mem_ready.1 hr
 rw[ho]at cg;cases cg
 exact hc.waits i o ho fO (hE.waits i o a ho ha k ok hk Gf)
theorem aff{K:Nat→Prop}{E:Option (List Nat)}{bS:Array Bool}{e:Env}(hJ:Js ops aI base K E bS e)(hc:xU ops bS){i j:Nat}{x y:Oper}(hx:ops[i]? =some x)(hy:ops[j]? =some y)
  (mA:i∈Region.ready .any ops bS)(Uf:j∈Region.ready .any ops bS)(h:E0 E ops (aI i) (aI j) x y=true):
  MN ops (aI i) (aI j) x y∧(SS (aI i) (aI j) x y∨(Db gl (aI i) x y e∧Db gl (aI j) y x e)):=by
 simp only[E0,Bool.or_eq_true]at h
 rcases h with h|h
 ·obtain⟨h1,h2⟩:=af9 h
  exact⟨h1,.inl h2⟩
 ·cases hE:E with
  |none=>rw[hE]at h;cases h
  |some A=>
   rw[hE]at h
   obtain⟨rfl,h2,h3⟩:=hJ A hE
   obtain⟨h4,h5⟩:=afe h
   exact⟨h4,.inr (ahn h2 h3 hx hy h5 (ZN h2 hc hx mA) (ZN h2 hc hy Uf))⟩
theorem X5{K:Nat→Prop}{E:Option (List Nat)}{Q:Env→Prop}{i:Nat}{oi:Oper}(hi:ops[i]? =some oi):∀(fuel:Nat)(bS:Array Bool)(e:Env)(src:Option (Nat×Slot))(s:Slot)(U:Option (Nat×af)),
  (∀(j:Nat)oj,ops[j]? =some oj→j≠i→bS.getD j true=false→((reach [] ops.toList).getD j 0).testBit i=false→E0 E ops (aI i) (aI j) oi oj=true)→
  xU ops bS→i∈Region.ready .any ops bS→Good gl e→Js ops aI base K E bS e→Out P gl (aF P gl) ops (base+gm ops.toList i) (aI i) oi e src s U→
  yv P gl ops aI base Q fuel (bS.setIfInBounds i true) (fin oi src s U e)→yv P gl ops aI base Q (fuel+1) bS e:=by
 intro fuel
 induction fuel with
 |zero=>
  intro bS e src s U _ _ hr _ _ hO H
  refine⟨fun h=>(by rw[h]at hr;cases hr),fun j hj=>?_⟩
  by_cases nh:j=i
  ·subst nh;exact⟨oi,hi,hO.run H⟩
  ·have:=ready_mono hj nh
   rw[H.1]at this
   cases this
 |succ fuel ih=>
  intro bS e src s U abQ hc hr hG wN hO H
  refine⟨fun h=>(by rw[h]at hr;cases hr),fun j hj=>?_⟩
  by_cases nh:j=i
  ·subst nh;exact⟨oi,hi,hO.run H⟩
  ·obtain⟨oj,lk,h1⟩:=H.2 j (ready_mono hj nh)
   obtain⟨ack,oj',acm,fO⟩:=mem_ready.1 hj
   rw[lk]at acm
   cases acm
   have JB:((reach [] ops.toList).getD j 0).testBit i=false:=by
    cases hb:((reach [] ops.toList).getD j 0).testBit i with
    |false=>rfl
    |true=>
     have h2:=hc.waits j oj lk fO hb
     have h0:=(mem_ready.1 hr).1
     rcases Nat.lt_or_ge i bS.size with h'|h'
     ·simp[h']at h0 h2;rw[h0]at h2;cases h2
     ·simp[Array.getElem?_eq_none h']at h2
   obtain⟨ao3,eM⟩:=aff wN hc hi lk hr hj (abQ j oj lk nh ack JB)
   obtain⟨ar3,s',U',hk,hO',_⟩:=CB h1
   obtain⟨d1,d2,d3⟩:=aiX hG ao3 eM hO hO'
   refine⟨oj,lk,d1.run ?_⟩
   rw[Array.setIfInBounds_comm _ _ (Ne.symm nh)]at hk
   refine ih (bS.setIfInBounds j true) _ src s U (fun k ok hk qV uh ff=>?_) (hc.set hj) (ready_mono hr (Ne.symm nh)) (Qf hG lk (d1.run rfl)) (wN.step lk (d1.run rfl)) d2 (by rw[←d3];exact hk)
   refine abQ k ok hk qV ?_ ff
   by_cases lp:j=k
   ·subst lp;exact ack
   ·rw[getD_set_ne true lp]at uh;exact uh
theorem WM{E:Option (List Nat)}{R:List Nat}{i:Nat}{o:Oper}:∀{l:List Oper}{j:Nat},Mj E ops aI R i o l j=true→∀(n:Nat)p,l[n]? =some p→(R.getD (j+n) 0).testBit i=true∨E0 E ops (aI i) (aI (j+n)) o p=true
 |[],j,_,n,p,h=>by simp at h
 |q::l,j,h,n,p,hp=>by
  simp only[Mj,Bool.and_eq_true,Bool.or_eq_true]at h
  cases n with
  |zero=>simp at hp;subst hp;exact h.1
  |succ n=>
   have:=WM h.2 n p (by simpa using hp)
   rw[show j+(n+1)=j+1+n by omega]
   exact this
theorem Bm{all:List Oper}{C:bu}(o:Oper)(rest:List Oper)(i:Nat)(e:Env)(k:Env→Prop):
 jb P gl C aI all base (o::rest) i e k=pO P gl C all (base+gm all i) (aI i) o e (fun oA=>jb P gl C aI all base rest (i+1) oA k):=rfl
theorem LO{KK:Nat→Prop}{E:Option (List Nat)}{K:Env→Prop}:∀(l:List Oper)(i:Nat)(bS:Array Bool)(e:Env),(∀j,l[j]? =ops[i+j]?)→(∀j,j<i→bS.getD j false=true)→(∀j,i≤j→j<ops.size→bS.getD j true=false)→bS.size=ops.size→
  xU ops bS→Good gl e→Js ops aI base KK E bS e→Br E ops aI (reach [] ops.toList) l i=true→jb P gl (aF P gl) aI ops.toList base l i e K→yv P gl ops aI base K l.length bS e
 |[],i,bS,e,hl,h1,h2,aN,_,_,_,_,h=>by
  refine⟨?_,h⟩
  rw[List.eq_nil_iff_forall_not_mem]
  intro j hj
  obtain⟨uh,o,ho,_⟩:=mem_ready.1 hj
  have aP:j<ops.size:=(Array.getElem?_eq_some_iff.1 ho).1
  have hle:ops.size≤i:=by
   have:=hl 0
   simp only[List.getElem?_nil,Nat.add_zero]at this
   exact Array.getElem?_eq_none_iff.1 this.symm
  have:=h1 j (by omega)
  simp[aN,aP]at this uh
  rw[this]at uh;cases uh
 |o::l,i,bS,e,hl,h1,h2,aN,hc,hG,wN,hB,h=>by
  have h0:ops[i]? =some o:=by simpa using(hl 0).symm
  have aP:i<ops.size:=(Array.getElem?_eq_some_iff.1 h0).1
  simp only[Br,Bool.and_eq_true]at hB
  obtain⟨⟨hr,hp⟩,hB'⟩:=hB
  have aaP:i∈Region.ready .any ops bS:=by
   refine mem_ready.2 ⟨h2 i (Nat.le_refl _) aP,o,h0,fun e he hb=>?_⟩
   have:=List.all_eq_true.1 hr e (by simpa using he)
   rw[hb]at this
   simp only[Bool.not_true,Bool.false_or]at this
   exact h1 e.on (Nat.lt_of_succ_le (Nat.le_of_ble_eq_true this))
  rw[Bm]at h
  obtain⟨src,s,U,hk,hO,_⟩:=CB h
  refine X5 h0 l.length bS e src s U (fun j oj lk nh uh ff=>?_) hc aaP hG wN hO ?_
  ·have lg:j<ops.size:=(Array.getElem?_eq_some_iff.1 lk).1
   have fp:i<j:=by
    rcases Nat.lt_or_ge i j with h|h
    ·exact h
    ·exfalso
     have:=h1 j (by omega)
     simp[aN,lg]at this uh
     rw[this]at uh;cases uh
   have DP:l[j-(i+1)]? =some oj:=by
    have:=hl (j-i)
    rw[show i+(j-i)=j by omega,lk]at this
    rw[show j-i=(j-(i+1))+1 by omega]at this
    simpa using this
   have:=WM hp (j-(i+1)) oj DP
   rw[show i+1+(j-(i+1))=j by omega,ff]at this
   simpa using this
  ·refine LO l (i+1) _ _ (fun j=>?_) (fun j hj=>?_) (fun j hj hjs=>?_) (by simpa using aN) (hc.set aaP) (Qf hG h0 (hO.run rfl)) (wN.step h0 (hO.run rfl)) hB' hk
   ·have:=hl (j+1)
    simpa[Nat.add_assoc,Nat.add_comm 1 j]using this
   ·by_cases fp:i=j
    ·subst fp
     simp[aN,aP]
    ·exact getD_set_true (h1 j (by omega))
   ·rw[getD_set_ne true (by omega)]
    exact h2 j (by omega) hjs
theorem RK{w0:World}{au:S0}{K:Env→Prop}{Q:Exit→Act→World→Prop}(hQ:∀e a w g,Inv gl w0 au e a w g→K e→Q .normal a w):∀(fuel:Nat)(bS:Array Bool)(e:Env)(a:Act)(w:World)(g:Gh),
  Inv gl w0 au e a w g→yv P gl ops aI base K fuel bS e→wpAny P .any ops Q fuel bS a w
 |0,_,e,a,w,g,hI,h=>⟨h.1,hQ e a w g hI h.2⟩
 |fuel+1,_,e,a,w,g,hI,h=>⟨fun h0=>hQ e a w g hI (h.1 h0),fun i hi=>by
   obtain⟨o,ho,hs⟩:=h.2 i hi
   exact QG hI ho hs fun e' a' w' g' hinv hk=>RK hQ fuel _ e' a' w' g' hinv hk⟩
theorem ZO{w0:World}{au:S0}{K:Env→Prop}{Q:Exit→Act→World→Prop}(hQ:∀e a w g,Inv gl w0 au e a w g→K e→Q .normal a w):∀(l:List Oper)(i:Nat)(e:Env)(a:Act)(w:World)(g:Gh),
  (∀j,l[j]? =ops[i+j]?)→Inv gl w0 au e a w g→jb P gl (aF P gl) aI ops.toList base l i e K→wpOps P ops Q (List.range' i l.length) a w
 |[],_,e,a,w,g,_,hI,h=>hQ e a w g hI h
 |o::l,i,e,a,w,g,hl,hI,h=>by
  have h0:ops[i]? =some o:=by simpa using(hl 0).symm
  rw[List.length_cons,List.range'_succ,wpOps_cons]
  rw[Bm]at h
  exact QG hI h0 h fun e' a' w' g' hinv hk=>ZO hQ l (i+1) e' a' w' g' (fun j=>by have:=hl (j+1);simpa[Nat.add_assoc,Nat.add_comm 1 j]using this) hinv hk
theorem Xi{m:Nat}:∀(l:List Oper)(i j:Nat),j∈rY m l i↔i≤j∧m.testBit j=false∧∃o,l[j-i]? =some o∧∀e∈o.after,Region.binds .any e=true→m.testBit e.on=true
 |[],i,j=>by simp[rY]
 |o::l,i,j=>by
  have ih:=Xi (m:=m) l (i+1) j
  have bq:i+1≤j→(o::l)[j-i]? =l[j-(i+1)]? :=fun h=>by rw[show j-i=(j-(i+1))+1 by omega,List.getElem?_cons_succ]
  rw[rY]
  cases hc:(!Nat.testBit m i&&o.after.toList.all (fun e=> !Region.binds .any e||Nat.testBit m e.on))with
  |true=>
   simp only[Bool.and_eq_true,Bool.not_eq_true',List.all_eq_true,Bool.or_eq_true]at hc
   simp only[cond_true,List.mem_cons,ih]
   constructor
   ·rintro(rfl|⟨h1,h2,p,h3,h4⟩)
    ·refine⟨Nat.le_refl _,hc.1,o,by simp,fun e he hb=>?_⟩
     rcases hc.2 e (by simpa using he)with h|h
     ·rw[hb]at h;cases h
     ·exact h
    ·exact⟨by omega,h2,p,(bq h1).trans h3,h4⟩
   ·rintro⟨h1,h2,p,h3,h4⟩
    rcases Nat.eq_or_lt_of_le h1 with h|h
    ·exact .inl h.symm
    ·exact .inr ⟨h,h2,p,(bq h).symm.trans h3,h4⟩
  |false=>
   simp only[cond_false,ih]
   constructor
   ·rintro⟨h1,h2,p,h3,h4⟩
    exact⟨by omega,h2,p,(bq h1).trans h3,h4⟩
   ·rintro⟨h1,h2,p,h3,h4⟩
    rcases Nat.eq_or_lt_of_le h1 with h|h
    ·subst h
     exfalso
     simp only[Nat.sub_self,List.getElem?_cons_zero,Option.some.injEq]at h3
     subst h3
     have:(!Nat.testBit m i&&o.after.toList.all (fun e=> !Region.binds .any e||Nat.testBit m e.on))=true:=by
      simp only[Bool.and_eq_true,Bool.not_eq_true',List.all_eq_true,Bool.or_eq_true]
      refine⟨h2,fun e he=>?_⟩
      cases hb:Region.binds .any e with
      |false=>exact .inl rfl
      |true=>exact .inr (h4 e (by simpa using he) hb)
     rw[this]at hc;cases hc
    ·exact⟨h,h2,p,(bq h).symm.trans h3,h4⟩
theorem G4{m:Nat}{bS:Array Bool}(hm:∀j,m.testBit j=bS.getD j false)(hs:bS.size=ops.size){j:Nat}:j∈rY m ops.toList 0↔j∈Region.ready .any ops bS:=by
 rw[Xi,mem_ready]
 simp only[Nat.zero_le,true_and,Nat.sub_zero,Array.getElem?_toList]
 constructor
 ·rintro⟨h1,o,h2,h3⟩
  refine⟨?_,o,h2,fun e he hb=>(hm e.on).symm.trans (h3 e he hb)⟩
  have hj:j<bS.size:=by rw[hs];exact(Array.getElem?_eq_some_iff.1 h2).1
  rw[hm]at h1
  simp only[Array.getD_eq_getD_getElem?,Array.getElem?_eq_getElem hj,Option.getD_some]at h1 ⊢
  exact h1
 ·rintro⟨h1,o,h2,h3⟩
  refine⟨?_,o,h2,fun e he hb=>(hm e.on).trans (h3 e he hb)⟩
  have hj:j<bS.size:=by rw[hs];exact(Array.getElem?_eq_some_iff.1 h2).1
  rw[hm]
  simp only[Array.getD_eq_getD_getElem?,Array.getElem?_eq_getElem hj,Option.getD_some]at h1 ⊢
  exact h1
theorem Xj{R:List Nat}{m i:Nat}{o:Oper}:∀{l:List Oper}{j:Nat},MJ ops aI R m i o l j=true→∀(n:Nat)p,l[n]? =some p→
  i=j+n∨m.testBit (j+n)=true∨(R.getD (j+n) 0).testBit i=true∨indep ops (aI i) (aI (j+n)) o p=true
 |[],j,_,n,p,h=>by simp at h
 |q::l,j,h,n,p,hp=>by
  simp only[MJ,Bool.and_eq_true,Bool.or_eq_true]at h
  cases n with
  |zero=>
   simp at hp;subst hp
   rcases h.1 with((h|h)|h)|h
   ·exact .inl (Nat.eq_of_beq_eq_true h)
   ·exact .inr (.inl h)
   ·exact .inr (.inr (.inl h))
   ·exact .inr (.inr (.inr h))
  |succ n=>
   have:=Xj h.2 n p (by simpa using hp)
   rw[show j+(n+1)=j+1+n by omega]
   exact this
theorem Wa{R:List Nat}{m i:Nat}:∀{l:List Nat},firstFree ops aI R m l=some i→i∈l∧Mk ops aI R m i=true
 |[],h=>by simp[firstFree]at h
 |k::l,h=>by
  rw[firstFree]at h
  cases hk:Mk ops aI R m k with
  |true=>rw[hk]at h;cases h;exact⟨by simp,hk⟩
  |false=>rw[hk]at h;have:=Wa h;exact⟨by simp[this.1],this.2⟩
theorem YQ{f:Nat→Prop}:∀{l:List Nat},M9 f l→∀i∈l,f i
 |[],_,i,h=>by cases h
 |[j],hf,i,h=>by
  simp only[List.mem_cons,List.not_mem_nil,or_false]at h
  subst h;exact hf
 |j::k::l,hf,i,h=>by
  have hf:f j∧M9 f (k::l):=hf
  rcases List.mem_cons.1 h with h|h
  ·subst h;exact hf.1
  ·exact YQ hf.2 i h
theorem adt{m i j:Nat}:(m|||2^i).testBit j=(m.testBit j||decide (i=j)):=by
 rw[Nat.testBit_or,Nat.testBit_two_pow]
theorem PV{K:Env→Prop}:∀(n m:Nat)(bS:Array Bool)(e:Env),(∀j,m.testBit j=bS.getD j false)→bS.size=ops.size→xU ops bS→Good gl e→
  Dj P gl (aF P gl) ops aI (reach [] ops.toList) base K n m e→yv P gl ops aI base K n bS e
 |0,m,bS,e,hm,hs,hc,hG,h=>by
  rw[Dj]at h
  cases hr:(rY m ops.toList 0).isEmpty with
  |false=>rw[hr]at h;exact h.elim
  |true=>
   rw[hr]at h
   refine⟨?_,h⟩
   rw[List.eq_nil_iff_forall_not_mem]
   intro j hj
   have:=(G4 hm hs).2 hj
   rw[List.isEmpty_iff.1 hr]at this
   cases this
 |n+1,m,bS,e,hm,hs,hc,hG,h=>by
  rw[Dj]at h
  cases hr:(rY m ops.toList 0).isEmpty with
  |true=>
   rw[hr]at h
   refine⟨fun _=>h,fun i hi=>?_⟩
   have:=(G4 hm hs).2 hi
   rw[List.isEmpty_iff.1 hr]at this
   cases this
  |false=>
   rw[hr,cond_false]at h
   have mz:∀{i:Nat},i∈Region.ready .any ops bS→∀j,(m|||2^i).testBit j=(bS.setIfInBounds i true).getD j false:=by
    intro i hi j
    rw[adt,hm]
    have qS:i<bS.size:=by
     obtain⟨_,o,ho,_⟩:=mem_ready.1 hi
     rw[hs];exact(Array.getElem?_eq_some_iff.1 ho).1
    by_cases fp:i=j
    ·subst fp;simp[qS]
    ·rw[getD_set_ne false fp];simp[fp]
   have step:∀{i:Nat}{o:Oper},i∈Region.ready .any ops bS→ops[i]? =some o→
     pO P gl (aF P gl) ops.toList (base+gm ops.toList i) (aI i) o e (fun e'=>Dj P gl (aF P gl) ops aI (reach [] ops.toList) base K n (m|||2^i) e')→
     ∃src s U,Out P gl (aF P gl) ops (base+gm ops.toList i) (aI i) o e src s U∧yv P gl ops aI base K n (bS.setIfInBounds i true) (fin o src s U e):=by
    intro i o hi ho h1
    obtain⟨src,s,U,hk,hO,_⟩:=CB h1
    exact⟨src,s,U,hO,PV n _ _ _ (mz hi) (by simpa using hs) (hc.set hi) (Qf hG ho (hO.run rfl)) hk⟩
   have fO:=YQ h
   unfold abI at fO
   cases hf:firstFree ops aI (reach [] ops.toList) m (rY m ops.toList 0)with
   |some i=>
    rw[hf]at fO
    obtain⟨him,np⟩:=Wa hf
    have hi:=(G4 hm hs).1 him
    obtain⟨uh,o,ho,_⟩:=mem_ready.1 hi
    have h1:=fO i (by simp)
    simp only[Array.getElem?_toList,ho]at h1
    obtain⟨src,s,U,hO,hA⟩:=step hi ho h1
    unfold Mk at np
    simp only[Array.getElem?_toList,ho]at np
    refine X5 (E:=none) (K:=fun _=>False) ho n bS e src s U (fun j oj lk nh SU ff=>?_) hc hi hG (fun A hA=>by cases hA) hO hA
    have:=Xj np j oj (by rw[Array.getElem?_toList];exact lk)
    rw[Nat.zero_add]at this
    rcases this with h|h|h|h
    ·exact absurd h.symm nh
    ·exfalso
     have lg:j<bS.size:=by rw[hs];exact(Array.getElem?_eq_some_iff.1 lk).1
     rw[hm]at h
     simp only[Array.getD_eq_getD_getElem?,Array.getElem?_eq_getElem lg,Option.getD_some]at h SU
     rw[h]at SU;cases SU
    ·rw[ff]at h;cases h
    ·simp[E0,h]
   |none=>
    rw[hf]at fO
    refine⟨fun h0=>?_,fun i hi=>?_⟩
    ·exfalso
     cases hl:rY m ops.toList 0 with
     |nil=>rw[hl]at hr;cases hr
     |cons i l=>
      have:=(G4 hm hs (j:=i)).1 (by rw[hl];simp)
      rw[h0]at this;cases this
    ·have h1:=fO i ((G4 hm hs).2 hi)
     obtain⟨_,o,ho,_⟩:=mem_ready.1 hi
     simp only[Array.getElem?_toList,ho]at h1
     obtain⟨src,s,U,hO,hA⟩:=step hi ho h1
     exact⟨o,ho,hO.run hA⟩
theorem PW{all:List Oper}{K:Env→Prop}:∀(l:List Oper)(i:Nat)(e:Env),jb P gl (aF P gl) aI all base l i e K→∃e',K e'
 |[],_,e,h=>⟨e,h⟩
 |o::l,i,e,h=>by
  rw[Bm]at h
  have fO:all=all.toArray.toList:=by simp
  rw[fO]at h
  obtain⟨src,s,U,hk,hO,_⟩:=CB h
  rw[←fO]at hk
  exact PW l (i+1) _ hk
theorem Inv.Hd{w0:World}{au:S0}{e:Env}{a:Act}{w:World}{g:Gh}(hI:Inv gl w0 au e a w g)(n:Nat):
  Inv gl w0 au ⟨e.ak,e.boxes++List.replicate n .none⟩ a w {g with bx:=g.bx++List.replicate n none}:=by
 have eM:∀b,some b∈g.bx++List.replicate n (none:Option Nat)→some b∈g.bx:=fun b h=>by
  rcases List.mem_append.1 h with h|h
  ·exact h
  ·have:=(List.mem_replicate.1 h).2;cases this
 have j8:∀(i:Nat)ao,(g.bx++List.replicate n (none:Option Nat))[i]? =some (some ao)→g.bx[i]? =some (some ao):=fun i ao h=>by
  rw[List.getElem?_append]at h
  split at h
  ·exact h
  ·have:=(List.mem_replicate.1 (List.mem_of_getElem? h)).2;cases this
 have hX:Ext w0.heap.size w g w {g with bx:=g.bx++List.replicate n none} (fun _=>False):=by
  refine⟨fun _ _ hb ho h=>⟨h,fun hm=>hb (eM _ hm),ho,fun _ h=>h⟩,fun _ _ h=>(by first|exact⟨h,rfl⟩|exact⟨h,.refl _ _ _⟩),fun _ _ _=>rfl,fun i ao h=>?_,fun p b a' c _ ho=>?_,.refl _⟩
  ·simp only;rw[List.getElem?_append_left (List.getElem?_eq_some_iff.1 h).1];exact h
  ·obtain⟨h1,h2,h3,h4,h5⟩:=ho
   exact⟨⟨h1,h2,fun h=>h3 (eM b h),h4,h5⟩,.refl _ _ _⟩
 refine⟨hI.below,hI.size,fun i s hs=>hX.slot (fun _ h=>h) (hI.ak i s hs),by simp[hI.gq],fun b bx ao h1 h2=>?_,fun i j ao h1 h2=>hI.nodup i j ao (j8 i ao h1) (j8 j ao h2),hI.iB,
  fun b o h=>⟨(hI.dj b o h).1,fun hm=>(hI.dj b o h).2.1 (eM b hm),(hI.dj b o h).2.2⟩,fun b h=>hI.dP b (eM b h),hI.lS.ext hX,hI.defers,fun D o hD=>(have h:=hI.gu D o hD;⟨fun hm=>h.1 (eM D hm),h.2⟩),hI.cls,hI.k8⟩
 have ud:=j8 b ao h2
 simp only at h1
 rw[List.getElem?_append_left (by rw[←hI.gq];exact(List.getElem?_eq_some_iff.1 ud).1)]at h1
 exact hX.box (fun _ h=>h) rfl (hI.boxes b bx ao h1 ud)
theorem Inv.drew{w0:World}{au:S0}{e:Env}{a:Act}{w:World}{g:Gh}(hI:Inv gl w0 au e a w g):Inv gl w0 au e a {w with drawn:=w.drawn+1} g:=by
 have hX:Ext w0.heap.size w g {w with drawn:=w.drawn+1} g (fun _=>False):=⟨fun _ _ hb ho h=>⟨h,hb,ho,fun _ h=>h⟩,fun _ _ h=>(by first|exact⟨h,rfl⟩|exact⟨h,.refl _ _ _⟩),fun _ _ _=>rfl,fun _ _ h=>h,fun _ _ _ _ _ h=>⟨h,.refl _ _ _⟩,fun _ c ty _ h=>⟨c,ty,h,rfl⟩⟩
 refine⟨⟨hI.below.os,hI.below.tape,hI.below.output,hI.below.size,hI.below.block⟩,hI.size,fun i s hs=>hX.slot (fun _ h=>h) (hI.ak i s hs),hI.gq,fun b bx ao h1 h2=>hX.box (fun _ h=>h) rfl (hI.boxes b bx ao h1 h2),hI.nodup,hI.iB,hI.dj,hI.dP,hI.lS.ext hX,hI.defers,hI.gu,hI.cls,hI.k8⟩
theorem Inv.Sl{w0:World}{au:S0}{e:Env}{a:Act}{w:World}{g:Gh}(hI:Inv gl w0 au e a w g)(n:Nat){e':Env}(he:e'=⟨e.ak,e.boxes++List.replicate n .none⟩):
  Jv ops e.boxes.length (fun b=>∃ao,g.bx[b]? =some (some ao)) (Array.replicate ops.size false) e':=by
 subst he
 have kU:∀{O:Nat→Nat→Nat→Nat→Prop}{s:Slot}{v:Value},cQ w0.heap.size w g O s v→eJ (fun b=>∃ao,g.bx[b]? =some (some ao)) s:=by
  intro O s v h
  induction h with
  |v O x y h=>exact .v _
  |t O xs vs hl hc=>exact .t _
  |p O b off ao h=>exact .p _ _ ⟨ao,h⟩
  |a O b n sz v hm h=>obtain⟨ao,cap,h1,_⟩:=h;exact .a _ _ _ ⟨ao,h1⟩
  |m O b ao h=>exact .m _ ⟨ao,h⟩
  |c O f first cap fv cv hf hc _ _ kZ k7=>
   refine .c _ _ _ (fun s hs=>?_) (fun s hs=>?_)
   ·obtain⟨i,hi,rfl⟩:=List.mem_iff_getElem.1 hs
    exact kZ i _ (fv[i]'(by omega)) (by simp) (by simp)
   ·obtain⟨i,hi,rfl⟩:=List.mem_iff_getElem.1 hs
    exact k7 i _ (cv[i]'(by omega)) (by simp) (by simp)
 refine⟨fun b⟨ao,hb⟩=>by rw[←hI.gq];exact(List.getElem?_eq_some_iff.1 hb).1,fun t _=>?_,fun b s hb hs=>?_,fun i o a' _ _ hl=>?_⟩
 ·exact kU (kQ hI t)
 ·simp only at hs
  rw[List.getElem?_append]at hs
  split at hs
  ·rename_i aP
   rcases hb with⟨ao,hb⟩|hb
   ·obtain⟨_,c,t,hc,_,aN,hr⟩:=hI.boxes b _ ao hs hb
    have sQ:c[0]? =some (c[0]'(by omega)):=by simp
    exact kU (hr _ sQ)
   ·omega
  ·have:=(List.mem_replicate.1 (List.mem_of_getElem? hs)).2;cases this
 ·exfalso
  rcases Nat.lt_or_ge i ops.size with h|h
  ·simp[h]at hl
  ·simp[h]at hl
theorem aga{w0:World}{au:S0}{e:Env}{a:Act}{w:World}{g:Gh}(hI:Inv gl w0 au e a w g){id:Nat}{draw:Bool}{K:Env→Prop}{Q:Exit→Act→World→Prop}(hm:P.follows .mixedOrders =true)
  (h:EH P gl (aF P gl) aI ops.toList e (zU P gl (aF P gl) (!draw||o0 aI ops) ops aI e K))(hQ:∀e a w g,Inv gl w0 au e a w g→K e→Q .normal a w):(Code.region id ops draw).wp P Q a w:=by
 unfold EH at h
 cases eC:(!draw||o0 aI ops)with
 |false=>
  rw[eC]at h
  obtain⟨e',Dr,hK⟩:=PW _ _ _ h
  have hd:draw=true:=by cases draw<;>simp_all
  subst hd
  refine wp_region_any hm ?_
  have cF:=(hI.Hd (gm ops.toList ops.toList.length)).drew
  have:=PV (P:=P) (gl:=gl) (aI:=aI) (K:=fun x=>x=e') _ 0 (Array.replicate ops.size false) _ (fun j=>by simp[Array.getElem?_replicate];split<;>rfl) (by simp) (fun j o ho hl=>by
   have hj:j<ops.size:=(Array.getElem?_eq_some_iff.1 ho).1
   simp[hj]at hl) ⟨w0,au,a,_,_,cF⟩ Dr
  have h2:=RK (Q:=Q) (K:=fun x=>x=e') (fun e1 a1 w1 g1 hinv hk=>hQ e1 a1 w1 g1 hinv (by rw[hk];exact hK)) _ _ _ _ _ _ cF this
  simpa using h2
 |true=>
 rw[eC]at h
 replace h:jb P gl (aF P gl) aI ops.toList e.boxes.length ops.toList 0 ⟨e.ak,e.boxes++List.replicate (gm ops.toList ops.toList.length) .none⟩ K:=h
 have bD:=hI.Hd (gm ops.toList ops.toList.length)
 cases draw with
 |false=>
  refine wp_region ?_
  have:=ZO (base:=e.boxes.length) (aI:=aI) hQ ops.toList 0 _ a w _ (fun j=>by simp) bD h
  rw[List.range_eq_range']
  simpa using this
 |true=>
  simp only[Bool.not_true,Bool.false_or]at eC
  refine wp_region_any hm ?_
  have cF:=bD.drew
  have aN:(Array.replicate ops.size false).size =ops.size:=by simp
  have JC:=hI.Sl (ops:=ops) (gm ops.toList ops.toList.length) rfl
  obtain⟨E,wN,eC⟩:∃E,Js ops aI e.boxes.length _ E (Array.replicate ops.size false) ⟨e.ak,e.boxes++List.replicate (gm ops.toList ops.toList.length) .none⟩∧Br E ops aI (reach [] ops.toList) ops.toList 0=true:=by
   unfold o0 at eC
   cases fo:eligible ops.toList aI (reach [] ops.toList)with
   |true=>rw[fo]at eC;exact⟨_,fun A hA=>by cases hA;exact⟨rfl,Rc fo,JC⟩,eC⟩
   |false=>rw[fo]at eC;exact⟨none,fun A hA=>(by cases hA),eC⟩
  have:=LO (P:=P) (gl:=gl) (base:=e.boxes.length) (aI:=aI) ops.toList 0 (Array.replicate ops.size false) _ (fun j=>by simp) (fun j hj=>by omega) (fun j _ hj=>by simp[hj]) aN
   (fun j o ho hl=>by
     have hj:j<ops.size:=(Array.getElem?_eq_some_iff.1 ho).1
     simp[hj]at hl) ⟨w0,au,a,_,_,cF⟩ wN eC h
  have h2:=RK hQ _ _ _ _ _ _ cF this
  simpa using h2
end
def sa(n:Nat)(e e':Env):Prop:=∀i,i<n→e'.boxes.getD i .none =.none ∨(e.boxes.getD i .none ≠.none ∧(e'.boxes.getD i .none).isMap =(e.boxes.getD i .none).isMap)
theorem sa.refl(n:Nat)(e:Env):sa n e e:=fun i _=>by
 by_cases h:e.boxes.getD i .none =.none
 ·exact .inl h
 ·exact .inr ⟨h,rfl⟩
theorem sa.trans{n m:Nat}{e e1 e2:Env}(sU:n≤m)(h1:sa n e e1)(h2:sa m e1 e2):sa n e e2:=fun i hi=>by
 rcases h2 i (by omega)with h|⟨h3,h4⟩
 ·exact .inl h
 ·rcases h1 i hi with h|⟨h5,h6⟩
  ·exact absurd h h3
  ·exact .inr ⟨h5,h4.trans h6⟩
section
variable{P:Program}{gl:Nat→Option D}{w0:World}{au:S0}{e:Env}{a:Act}{w:World}{g:Gh}
theorem X6{sz:Nat}:∀{L:List D}{i j:Nat}{x c:D},(∀x∈L,x.cells.length=sz)→L[i]? =some x→x.cells[j]? =some c→(bj L)[i*sz+j]? =some (.d c)
 |[],i,j,x,c,_,h,_=>by simp at h
 |y::L,0,j,x,c,hs,h,hc=>by
  simp at h;subst h
  simp only[bj,Nat.zero_mul,Nat.zero_add]
  rw[List.getElem?_append_left (by simp[(List.getElem?_eq_some_iff.1 hc).1]),List.getElem?_map,hc];rfl
 |y::L,i+1,j,x,c,hs,h,hc=>by
  have hy:=hs y (by simp)
  simp only[bj]
  rw[List.getElem?_append_right (by simp[hy,Nat.succ_mul];omega)]
  have:(i+1)*sz+j-(y.cells.map SV.d).length =i*sz+j:=by simp[hy,Nat.succ_mul];omega
  rw[this]
  exact X6 (fun x hx=>hs x (by simp[hx])) (by simpa using h) hc
theorem Pw{sz:Nat}:∀{L:List D},(∀x∈L,x.cells.length=sz)→(bj L).length =L.length*sz
 |[],_=>by simp[bj]
 |y::L,hs=>by
  simp only[bj,List.length_append,List.length_map,List.length_cons,hs y (by simp),Nat.succ_mul]
  rw[Pw fun x hx=>hs x (by simp[hx])];omega
theorem YR{sz:Nat}{L:List D}(hs:∀x∈L,x.cells.length=sz){o:Nat}{y:SV}(h:(bj L)[o]? =some y):∃i x j c,L[i]? =some x∧x.cells[j]? =some c∧o=i*sz+j∧y=.d c:=by
 have ho:o<L.length*sz:=by rw[←Pw hs];exact(List.getElem?_eq_some_iff.1 h).1
 have aN:0<sz:=by
  rcases Nat.eq_zero_or_pos sz with h0|h0
  ·subst h0;simp at ho
  ·exact h0
 have hq:o / sz<L.length:=Nat.div_lt_of_lt_mul (by rw[Nat.mul_comm];exact ho)
 have Dn:=Nat.mod_lt o aN
 have hc:(L[o / sz]).cells[o % sz]? =some ((L[o / sz]).cells[o % sz]'(by rw[hs _ (List.getElem_mem hq)];exact Dn)):=by simp
 have heq:o / sz*sz+o % sz=o:=by rw[Nat.mul_comm];exact Nat.div_add_mod o sz
 refine⟨o / sz,L[o / sz],o % sz,_,List.getElem?_eq_getElem hq,hc,heq.symm,?_⟩
 have:=X6 hs (List.getElem?_eq_getElem hq) hc
 rw[heq,h]at this
 exact Option.some.inj this
theorem aiY(hI:Inv gl w0 au e a w g){t:Nat}{x:SV}(hx:e.ak.getD t (.v .undef)=.v x)(hm:∃sz L,x=.bh sz L):
  ∃sz L g',x=.bh sz L∧Inv gl w0 au ⟨e.ak.set t (.a e.boxes.length L.length sz),e.boxes++[.cells (bj L)]⟩ a w g':=by
 have hs:=kQ hI t
 rw[hx]at hs
 have hv:=hs.kz
 have MO:∀(y:Option Nat)(i:Nat)ao,(g.bx++[y])[i]? =some (some ao)→(i<e.boxes.length∧g.bx[i]? =some (some ao))∨(i=e.boxes.length∧y=some ao):=by
  intro y i ao h
  rw[List.getElem?_append,hI.gq]at h
  split at h
  ·exact .inl ⟨by assumption,h⟩
  ·rename_i hi
   right
   have:i-e.boxes.length=0:=by
    rcases Nat.eq_zero_or_pos (i-e.boxes.length)with h0|h0
    ·exact h0
    ·rw[List.getElem?_eq_none (by simp;omega)]at h;cases h
   rw[this]at h
   simp at h
   exact⟨by omega,h⟩
 have build:∀(L:List D)(sz:Nat)(y:Option Nat)(g':Gh),g'.bx=g.bx++[y]→g'.St=g.St→Ext w0.heap.size w g w g' (fun p=>∃j,p=.s t j)→
   (∀(i j:Nat)ao,g'.bx[i]? =some (some ao)→g'.bx[j]? =some (some ao)→i=j)→(∀b,y=some b→w0.heap.size≤b∧b<w.heap.size∧∀o,¬g.St b o)→
   cQ w0.heap.size w g' (gp w0.heap.size w g' t) (.a e.boxes.length L.length sz) (a.tmps.getD t undef)→(∀ao,y=some ao→su w0.heap.size w g' e.boxes.length (.cells (bj L)) ao)→
   Inv gl w0 au ⟨e.ak.set t (.a e.boxes.length L.length sz),e.boxes++[.cells (bj L)]⟩ a w g':=by
  intro L sz y g' eI bc hX oC hy oo ao4
  refine⟨hI.below,by simp[hI.size],fun i s pZ=>?_,by rw[eI];simp[hI.gq],fun b bx ao h1 h2=>?_,oC,fun b o h=>by rw[bc];exact hI.iB b o h,fun b o h=>?_,fun b h=>?_,hI.lS.ext hX,hI.defers,fun D o hD=>(have h:=hI.gu D o hD;have k:=hX.df D o h.1 h.2.1 h.2.2.1;⟨k.2.1,k.2.2.1,k.1,fun x hx=>h.2.2.2 x (k.2.2.2 x hx)⟩),fun b o v hv=>(have h:=hI.cls b o v hv;⟨(hX.st b o h.1).1,(hX.st b o h.1).2.1.trans h.2⟩),hI.k8⟩
  ·rw[List.getElem?_set]at pZ
   split at pZ
   ·rename_i iD
    subst iD
    split at pZ
    ·cases pZ;exact oo
    ·cases pZ
   ·rename_i iD
    exact hX.slot (fun j=>by rintro⟨j',hj⟩;cases hj;exact iD rfl) (hI.ak i s pZ)
  ·rw[eI]at h2
   rcases MO y b ao h2 with⟨aP,h3⟩|⟨rfl,h3⟩
   ·simp only at h1
    rw[List.getElem?_append_left aP]at h1
    exact hX.box (fun j=>by rintro⟨j',hj⟩;cases hj) rfl (hI.boxes b bx ao h1 h3)
   ·simp at h1
    subst h1
    exact ao4 ao h3
  ·rw[bc]at h
   refine⟨(hI.dj b o h).1,fun hm=>?_,(hI.dj b o h).2.2⟩
   rw[eI]at hm
   rcases List.mem_append.1 hm with hm|hm
   ·exact(hI.dj b o h).2.1 hm
   ·simp at hm
    exact(hy b hm.symm).2.2 o h
  ·rw[eI]at h
   rcases List.mem_append.1 h with h|h
   ·exact hI.dP b h
   ·simp at h
    exact⟨(hy b h.symm).1,(hy b h.symm).2.1⟩
 obtain⟨sz,L,rfl⟩:=hm
 have pv:a.eval (.tmp t)=a.tmps.getD t undef:=rfl
 rw[pv]at hv
 generalize nI:a.tmps.getD t undef=v at hv
 cases hv with
 |bh _ _ _ gg cap vs cd hm aN hf ho aW hc=>
  obtain⟨o1,o2,o3,⟨cur,te,o4,mw⟩,o5⟩:=ho
  let g':Gh:={g with bx:=g.bx++[some gg]}
  have hX:Ext w0.heap.size w g w g' (fun p=>∃j,p=.s t j):=by
   refine⟨fun D ob hb ff h=>⟨h,(fun hm=>by
    rcases List.mem_append.1 hm with hm|hm
    ·exact hb hm
    ·simp at hm
     subst hm
     rw[o1]at ff
     cases ff),ff,fun _ h=>h⟩,fun _ _ h=>⟨h,.refl _ _ _⟩,fun _ _ _=>rfl,fun i ao h=>?_,fun p b a' c hp cg=>⟨?_,.refl _ _ _⟩,.refl _⟩
   ·show(g.bx++[some gg])[i]? =_
    rw[List.getElem?_append_left (List.getElem?_eq_some_iff.1 h).1];exact h
   ·obtain⟨p1,p2,p3,p4,p5⟩:=cg
    refine⟨p1,p2,fun hm=>?_,p4,p5⟩
    rcases List.mem_append.1 hm with hm|hm
    ·exact p3 hm
    ·simp at hm
     subst hm
     rw[o1]at p1
     cases p1
     exact hp ⟨0,rfl⟩
  have hlen:(bj L).length =L.length*sz:=Pw aN
  have ao5:L.length*sz≤cap*sz:=Nat.mul_le_mul_right _ cd
  refine⟨sz,L,g',rfl,build L sz (some gg) g' rfl rfl hX ?_ ?_ ?_ ?_⟩
  ·intro i j ao h1 h2
   have no:∀(i:Nat),g.bx[i]? =some (some gg)→False:=fun i h=>o3 (List.mem_of_getElem? h)
   rcases MO (some gg) i ao h1 with⟨h3,h4⟩|⟨h3,h4⟩
   ·rcases MO (some gg) j ao h2 with⟨h5,h6⟩|⟨h5,h6⟩
    ·exact hI.nodup i j ao h4 h6
    ·cases h6;exact(no i h4).elim
   ·rcases MO (some gg) j ao h2 with⟨h5,h6⟩|⟨h5,h6⟩
    ·cases h4;exact(no j h6).elim
    ·omega
  ·intro b hb
   cases hb
   exact⟨o2,(Array.getElem?_eq_some_iff.1 o4).1,fun o=>o5 o (Nat.zero_le _)⟩
  ·rw[nI]
   refine .a _ _ _ _ _ (Nat.le_trans cd hm) ⟨gg,cap,?_,cd,rfl,hm,cur,te,o4,mw⟩
   show(g.bx++[some gg])[e.boxes.length]? =_
   rw[←hI.gq];simp
  ·intro ao dX
   cases dX
   have qP:∀(o:Nat)y,o<(bj L).length →cur[o]? =some y→y=vs o:=by
    intro o y ho hy
    have h1:=aW o (by rw[←hlen];exact ho)
    rw[cell_of_row w gg o cur te (0,0) o4,hy]at h1
    exact Option.some.inj h1
   refine⟨o2,cur,te,o4,fun j y hj hy=>?_,by rw[hlen,mw];exact ao5,fun j x y hx hy=>?_⟩
   ·have po:j<(bj L).length :=hj
    obtain⟨i,x,k,c,h1,h2,rfl,_⟩:=YR aN (List.getElem?_eq_getElem po)
    rw[qP _ y po hy]
    exact(hc i x k c h1 h2).vO (hf x (List.mem_of_getElem? h1) c (List.mem_of_getElem? h2))
   ·have po:=(List.getElem?_eq_some_iff.1 hx).1
    obtain⟨i,x',k,c,h1,h2,rfl,rfl⟩:=YR aN hx
    rw[qP _ y po hy]
    exact .d _ _ _ (hc i x' k c h1 h2)
theorem K8(b:Nat)(r:Nat→SV)(rm:SV)(ts:List Nat):∀(l:List Slot)(k i:Nat),(oZ b r rm ts l k)[i]? =(l[i]?).map fun s=>bif ts.contains (k+i)then Fm b r rm s else s
 |[],_,_=>by simp[oZ]
 |s::l,k,i=>by
  cases i with
  |zero=>simp[oZ]
  |succ i=>
   simp only[oZ,List.getElem?_cons_succ]
   rw[K8 b r rm ts l (k+1) i,show k+1+i=k+(i+1) by omega]
theorem Ep(b:Nat)(r:Nat→SV)(rm:SV)(ts:List Nat):∀(l:List Slot)(k:Nat),(oZ b r rm ts l k).length =l.length
 |[],_=>rfl
 |_::l,k=>by simp[oZ,Ep b r rm ts l (k+1)]
theorem Xk{b:Nat}{ts:List Nat}:∀{l:List Slot}{k:Nat},yc b ts l k=true→∀(i:Nat)s,l[i]? =some s→ts.contains (k+i)=false→s.has b=false
 |[],_,_,i,s,h,_=>by simp at h
 |s'::l,k,hk,i,s,h,hc=>by
  simp only[yc,Bool.and_eq_true]at hk
  cases i with
  |zero=>
   simp at h;subst h
   have:=hk.1
   rw[Nat.add_zero]at hc
   rw[hc]at this
   simpa using this
  |succ i=>exact Xk hk.2 i s (by simpa using h) (by rw[show k+1+i=k+(i+1) by omega];exact hc)
theorem KW{b:Nat}:∀{l:List af},uM b l=true→∀(i:Nat)s,l[i]? =some (.one s)→s.has b=false
 |[],_,i,s,h=>by simp at h
 |x::l,hk,i,s,h=>by
  cases i with
  |zero=>
   simp at h;subst h
   simp only[uM,Bool.and_eq_true]at hk
   simpa using hk.1
  |succ i=>
   have bY:uM b l=true:=by cases x<;>simp only[uM,Bool.and_eq_true]at hk<;>first|exact hk|exact hk.2
   exact KW bY i s (by simpa using h)
theorem PX{b:Nat}:∀{l:List Slot},Slot.zS b l=false→∀(i:Nat)s,l[i]? =some s→s.has b=false
 |[],_,i,s,h=>by simp at h
 |x::l,hk,i,s,h=>by
  simp only[Slot.zS,Bool.or_eq_false_iff]at hk
  cases i with
  |zero=>simp at h;subst h;exact hk.1
  |succ i=>exact PX hk.2 i s (by simpa using h)
theorem cQ.abR{base:Nat}{g':Gh}{b:Nat}(bc:∀b' o,g.St b' o→g'.St b' o)(eI:∀(i:Nat)ao,i≠b→g.bx[i]? =some (some ao)→g'.bx[i]? =some (some ao)){O:Nat→Nat→Nat→Nat→Prop}{s:Slot}{v:Value}
  (r:cQ base w g O s v):∀{O':Nat→Nat→Nat→Nat→Prop},(∀j b a c,O j b a c→O' j b a c)→s.has b=false→cQ base w g' O' s v:=by
 induction r with
 |v O x y h=>intro O' hO _;exact .v _ _ _ (h.mono (fun b o h=>⟨bc b o h,.refl _ _ _⟩) (fun _ _ _=>rfl) _ (fun _ _ _ h=>⟨hO 0 _ _ _ h,.refl _ _ _⟩))
 |p O b' off ao h=>intro O' _ hh;exact .p _ _ _ _ (eI _ _ (by simpa[Slot.has]using hh) h)
 |a O b' n sz v hm h=>intro O' _ hh;exact .a _ _ _ _ _ hm (by obtain⟨ao,cap,h1,h2,h3⟩:=h;exact⟨ao,cap,eI _ _ (by simpa[Slot.has]using hh) h1,h2,h3⟩)
 |m O b' ao h=>intro O' _ hh;exact .m _ _ _ (eI _ _ (by simpa[Slot.has]using hh) h)
 |c O f first cap fv cv hf hc _ _ kZ k7=>
  intro O' _ hh
  simp only[Slot.has,Bool.or_eq_false_iff]at hh
  exact .c _ f first cap fv cv hf hc (fun i x v h1 h2=>kZ i x v h1 h2 (fun _ _ _ _ h=>h) (PX hh.1 i x h1)) (fun i x v h1 h2=>k7 i x v h1 h2 (fun _ _ _ _ h=>h) (PX hh.2 i x h1))
 |t O xs vs hl hc=>intro O' hO _;exact .t _ xs vs hl fun j x v h1 h2=>(hc j x v h1 h2).mono (fun b o h=>⟨bc b o h,.refl _ _ _⟩) (fun _ _ _=>rfl) _ (fun _ _ _ h=>⟨hO j _ _ _ h,.refl _ _ _⟩)
def DQ(l:List Slot):Option (Nat×SV)→List Slot
 |none=>l
 |some (t,x)=>l.set t (.v x)
theorem Qg(hI:Inv gl w0 au e a w g){b:Nat}{ts:List Nat}{r:Nat→SV}{rm:SV}(fg:yc b ts e.ak 0=true){S:Nat→Nat→Prop}(hS:∀b' o,S b' o→g.bx[b]? =some (some b'))
  {dY:List af}(eg:dY.length=e.boxes.length){ov:Option (Nat×SV)}{Gg:Nat→Option Pos}(vc:∀b',some b'∉g.bx→Gg b'=g.ow b')(g':Gh)(hY:g'={St:=fun b' o=>g.St b' o∨S b' o,bx:=g.bx.set b none,ow:=Gg})
  (akI:∀(i:Nat)bx ao,i≠b→dY[i]? =some bx→g.bx[i]? =some (some ao)→(e.boxes[i]? =some bx∧∀s,bx=.one s→s.has b=false)∨su w0.heap.size w g' i bx ao)
  (Ug:∀t x,ov=some (t,x)→aR w g'.St w0.heap.size (gp w0.heap.size w g' t 0) x (a.tmps.getD t undef))
  (hr:(∀(n sz:Nat)(v:Value),cQ w0.heap.size w g (fun _ _ _ _=>False) (Slot.a b n sz) v→aR w g'.St w0.heap.size (fun _ _ _=>False) (r n) v)∧
    (∀(v:Value),cQ w0.heap.size w g (fun _ _ _ _=>False) (Slot.m b) v→aR w g'.St w0.heap.size (fun _ _ _=>False) rm v)):
  Inv gl w0 au ⟨(DQ (oZ b r rm ts e.ak 0) ov),dY⟩ a w g':=by
 subst hY
 let g':Gh:={St:=fun b' o=>g.St b' o∨S b' o,bx:=g.bx.set b none,ow:=Gg}
 have Uh:∀b' o,S b' o→some b'∈g.bx:=fun b' o h=>List.mem_of_getElem? (hS b' o h)
 have eI:∀(i:Nat)ao,i≠b→g.bx[i]? =some (some ao)→g'.bx[i]? =some (some ao):=fun i ao hi h=>by
  show(g.bx.set b none)[i]? =_
  rw[List.getElem?_set_ne (fun h=>hi h.symm)];exact h
 have IJ:∀(i:Nat)ao,g'.bx[i]? =some (some ao)→i≠b∧g.bx[i]? =some (some ao):=fun i ao h=>by
  have h:(g.bx.set b none)[i]? =some (some ao):=h
  rw[List.getElem?_set]at h
  split at h
  ·split at h<;>simp at h
  ·rename_i hi;exact⟨fun h=>hi h.symm,h⟩
 have eM:∀b',some b'∈g'.bx→some b'∈g.bx:=fun b' h=>by
  obtain⟨i,hi⟩:=List.mem_iff_getElem?.1 h
  exact List.mem_of_getElem? (IJ i b' hi).2
 have jm:∀p b' a' c,fA w0.heap.size w g p b' a' c→fA w0.heap.size w g' p b' a' c:=by
  rintro p b' a' c ⟨h1,h2,h3,h4,h5⟩
  exact⟨(vc b' h3).trans h1,h2,fun hm=>h3 (eM b' hm),h4,fun o ho=>by rintro(h|h);exact h5 o ho h;exact h3 (Uh b' o h)⟩
 have bc:∀b' o,g.St b' o→g'.St b' o:=fun _ _ h=>.inl h
 have jR:(DQ (oZ b r rm ts e.ak 0) ov).length =e.ak.length:=by
  cases ov with
  |none=>exact Ep _ _ _ _ _ _
  |some p=>simp[DQ,Ep]
 refine⟨hI.below,by rw[jR];exact hI.size,fun i s hs=>?_,by simp[hI.gq,eg],fun i bx ao h1 h2=>?_,fun i j ao h1 h2=>hI.nodup i j ao (IJ i ao h1).2 (IJ j ao h2).2,fun b' o h=>.inl (hI.iB b' o h),fun b' o h=>?_,fun b' h=>hI.dP b' (eM b' h),?_,hI.defers,fun D o hD=>(have h:=hI.gu D o hD;⟨fun hm=>h.1 (eM D hm),(vc D h.1).trans h.2.1,h.2.2.1,fun x hx=>h.2.2.2 x (hx.elim id fun e=>absurd (Uh D x e) h.1)⟩),fun b o v hv=>(have h:=hI.cls b o v hv;⟨.inl h.1,h.2⟩),hI.k8⟩
 ·have hs:(∃x,ov=some (i,x)∧s=.v x)∨(oZ b r rm ts e.ak 0)[i]? =some s:=by
   cases acn:ov with
   |none=>rw[acn]at hs;exact .inr hs
   |some p=>
    obtain⟨t,x⟩:=p
    rw[acn]at hs
    simp only[DQ,List.getElem?_set]at hs
    split at hs
    ·rename_i iD
     subst iD
     split at hs
     ·cases hs;exact .inl ⟨x,rfl,rfl⟩
     ·cases hs
    ·exact .inr hs
  rcases hs with⟨x,hx,rfl⟩|hs
  ·exact .v _ _ _ (Ug i x hx)
  simp only[K8,Option.map_eq_some_iff,Nat.zero_add]at hs
  obtain⟨s0,mr,rfl⟩:=hs
  have h0:=hI.ak i s0 mr
  have fI:s0.has b=false→cQ w0.heap.size w g' (gp w0.heap.size w g' i) s0 (a.tmps.getD i undef):=fun hh=>h0.abR bc eI (fun j b' a' c ho=>jm _ b' a' c ho) hh
  cases hc:ts.contains i with
  |false=>exact fI (Xk fg i s0 mr (by simpa using hc))
  |true=>
   simp only[cond_true]
   have aaQ:∀v,cQ w0.heap.size w g' (gp w0.heap.size w g' i) (.v .undef) v:=fun v=>.v _ _ _ (.undef _ _)
   have lift:∀{x v},aR w g'.St w0.heap.size (fun _ _ _=>False) x v→cQ w0.heap.size w g' (gp w0.heap.size w g' i) (.v x) v:=fun h=>.v _ _ _ (h.mono (fun _ _ h=>⟨h,.refl _ _ _⟩) (fun _ _ _=>rfl) _ (fun _ _ _ h=>h.elim))
   cases s0 with
   |v x=>exact fI rfl
   |t x=>exact fI rfl
   |p b' off=>
    simp only[Fm]
    cases hb:b'==b with
    |true=>exact aaQ _
    |false=>exact fI (by simp[Slot.has,hb])
   |a b' n sz=>
    simp only[Fm]
    cases hb:b'==b with
    |true=>
     have:=beq_iff_eq.1 hb
     subst this
     exact lift (hr.1 n sz _ h0.aa)
    |false=>exact fI (by simp[Slot.has,hb])
   |m b'=>
    simp only[Fm]
    cases hb:b'==b with
    |true=>
     have:=beq_iff_eq.1 hb
     subst this
     exact lift (hr.2 _ h0.aa)
    |false=>exact fI (by simp[Slot.has,hb])
   |c f x y=>
    simp only[Fm]
    cases hb:(Slot.zS b x||Slot.zS b y)with
    |true=>exact aaQ _
    |false=>exact fI (by simp only[Slot.has,hb])
 ·obtain⟨bg,ud⟩:=IJ i ao h2
  rcases akI i bx ao bg h1 ud with⟨wF,NY⟩|hb
  rotate_left
  ·exact hb
  have hb:=hI.boxes i bx ao wF ud
  cases bx with
  |none=>exact hb.elim
  |cells cs=>
   obtain⟨q0,c,t,q1,q2,q3⟩:=hb
   exact⟨q0,c,t,q1,q2,q3.1,fun j x y hx hy=>(q3.2 j x y hx hy).mono (fun b' o h=>⟨bc b' o h,.refl _ _ _⟩) (fun _ _ _=>rfl) _ (fun _ _ _ h=>⟨jm _ _ _ _ h,.refl _ _ _⟩)⟩
  |one s=>
   obtain⟨q0,c,t,q1,q2,q3⟩:=hb
   exact⟨q0,c,t,q1,q2,q3.1,fun y hy=>(q3.2 y hy).abR bc eI (fun _ _ _ _ h=>jm _ _ _ _ h) (NY s rfl)⟩
  |map l=>
   obtain⟨q0,es,clock,q1,q2,q3⟩:=hb
   exact⟨q0,es,clock,q1,q2,fun j x y hx hy=>⟨(q3 j x y hx hy).1,(q3 j x y hx hy).2.1,(q3 j x y hx hy).2.2.mono fun b' o h=>⟨bc b' o h,rfl⟩⟩⟩
 ·rcases h with h|h
  ·exact⟨(hI.dj b' o h).1,fun hm=>(hI.dj b' o h).2.1 (eM b' hm),(hI.dj b' o h).2.2⟩
  ·have hm:=Uh b' o h
   have aP:=hI.dP b' hm
   refine⟨.inr aP.1,fun mz=>?_,aP.2⟩
   obtain⟨i,hi⟩:=List.mem_iff_getElem?.1 mz
   obtain⟨bg,fU⟩:=IJ i b' hi
   exact bg (hI.nodup i b b' fU (hS b' o h))
 ·intro n x hx
  obtain⟨q0,vs,q1,q2⟩:=hI.lS n x hx
  exact⟨q0,vs,fun i hi=>⟨(q1 i hi).1,bc _ _ (q1 i hi).2⟩,fun i c hc=>(q2 i c hc).mono fun b' o h=>⟨bc b' o h,rfl⟩⟩
theorem YS(hI:Inv gl w0 au e a w g){b:Nat}{ts:List Nat}{r:Nat→SV}{rm:SV}(eL:pM b ts e=true){S:Nat→Nat→Prop}(hS:∀b' o,S b' o→g.bx[b]? =some (some b'))
  (bG:∀(g':Gh),g'.St=(fun b' o=>g.St b' o∨S b' o)→(∀(n sz:Nat)(v:Value),cQ w0.heap.size w g (fun _ _ _ _=>False) (Slot.a b n sz) v→aR w g'.St w0.heap.size (fun _ _ _=>False) (r n) v)∧
    (∀(v:Value),cQ w0.heap.size w g (fun _ _ _ _=>False) (Slot.m b) v→aR w g'.St w0.heap.size (fun _ _ _=>False) rm v)):
  ∃g',Inv gl w0 au (yd b r rm ts e) a w g':=by
 simp only[pM,Bool.and_eq_true]at eL
 refine⟨_,Qg hI eL.1 hS (dY:=e.boxes.set b .none) (by simp) (ov:=none) (Gg:=g.ow) (fun _ _=>rfl) _ rfl (fun i bx ao bg h1 h2=>.inl ?_) (fun t x h=>by cases h) (bG _ rfl)⟩
 rw[List.getElem?_set_ne (fun h=>bg h.symm)]at h1
 exact⟨h1,fun s hs=>by subst hs;exact KW eL.2 i s h1⟩
theorem Inv.RM(hI:Inv gl w0 au e a w g){t:Nat}{s:Slot}(hs:cQ w0.heap.size w g (gp w0.heap.size w g t) s (a.tmps.getD t undef)):Inv gl w0 au ⟨e.ak.set t s,e.boxes⟩ a w g:=by
 refine⟨hI.below,by simp[hI.size],fun i x hx=>?_,hI.gq,hI.boxes,hI.nodup,hI.iB,hI.dj,hI.dP,hI.lS,hI.defers,hI.gu,hI.cls,hI.k8⟩
 simp only[List.getElem?_set]at hx
 split at hx
 ·rename_i iD
  subst iD
  split at hx
  ·cases hx;exact hs
  ·cases hx
 ·exact hI.ak i x hx
theorem agb{x y:SV}(h:o9 x=some y){St:Nat→Nat→Prop}{base:Nat}{O:Nat→Nat→Nat→Prop}{v:Value}(r:aR w St base O x v):aR w St base O y v:=by
 unfold o9 at h
 split at h
 ·cases h
  have:=r.data
  cases this
  exact .d _ _ _ (.jk _)
 ·cases h;exact r
 ·cases h
theorem aiZ(hI:Inv gl w0 au e a w g){t:Nat}{x y:SV}(hx:e.ak.getD t (.v .undef)=.v x)(h:pT x=some y):∃g',Inv gl w0 au ⟨e.ak.set t (.v y),e.boxes⟩ a w g':=by
 have hs:=kQ hI t
 rw[hx]at hs
 have hv:=hs.kz
 have pv:a.eval (.tmp t)=a.tmps.getD t undef:=rfl
 rw[pv]at hv
 unfold pT at h
 split at h
 ·rename_i sz L
  cases h
  generalize nI:a.tmps.getD t undef=v at hv
  cases hv with
  |bh _ _ _ gg cap vs cd hm aN hf ho aW hc=>
   obtain⟨o1,o2,o3,⟨cur,te,o4,mw⟩,o5⟩:=ho
   let g':Gh:={g with St:=fun b o=>g.St b o∨(b=gg∧o<L.length*sz)}
   have hX:Ext w0.heap.size w g w g' (fun p=>∃j,p=.s t j):=by
    refine⟨fun D ob hb ff h=>⟨h,hb,ff,fun x hx=>hx.elim id fun e=>(by rw[e.1]at ff;rw[o1]at ff;cases ff)⟩,fun _ _ h=>⟨.inl h,.refl _ _ _⟩,fun _ _ _=>rfl,fun _ _ h=>h,fun p b a' c hp cg=>⟨?_,.refl _ _ _⟩,.refl _⟩
    obtain⟨p1,p2,p3,p4,p5⟩:=cg
    refine⟨p1,p2,p3,p4,fun o ho=>?_⟩
    rintro(h|⟨rfl,_⟩)
    ·exact p5 o ho h
    ·rw[o1]at p1;cases p1;exact hp ⟨0,rfl⟩
   refine⟨g',hI.stepG (dst:=none) (s:=.t []) (v:=undef) (ak:=e.ak.set t (.v (.own sz L))) hX (Below.refl _ _) (by simp) (fun i x hx _=>?_) (fun d hd=>by cases hd) hI.gq (fun b bx ao h1 h2=>hX.box (fun j=>by rintro⟨j',h⟩;cases h) rfl (hI.boxes b bx ao h1 h2)) hI.nodup hI.dP (fun b o h=>?_)⟩
   ·rw[List.getElem?_set]at hx
    split at hx
    ·rename_i iD
     subst iD
     split at hx
     ·cases hx
      rw[nI]
      refine .v _ _ _ (.own _ sz L gg cap (.sl sz L gg 0 cap vs cd (Nat.le_trans cd hm) aN hf (fun o ho=>⟨by rw[Nat.zero_add];exact aW o ho,.inr ⟨rfl,by omega⟩⟩) (fun i x j c h1 h2=>(hc i x j c h1 h2).mono fun b o h=>⟨.inl h,rfl⟩)) hm ⟨o1,o2,o3,⟨cur,te,o4,mw⟩,fun o ho=>?_⟩)
      rintro(h|⟨_,h⟩)
      ·exact o5 o (by omega) h
      ·omega
     ·cases hx
    ·rename_i iD
     exact hX.slot (fun j=>by rintro⟨j',h⟩;cases h;exact iD rfl) (hI.ak i x hx)
   ·rcases h with h|⟨rfl,_⟩
    ·exact hI.dj b o h
    ·exact⟨.inr o2,o3,(Array.getElem?_eq_some_iff.1 o4).1⟩
 ·cases h
  refine⟨g,hI.RM (.v _ _ _ ?_)⟩
  have:=hv.data
  generalize a.tmps.getD t undef=v at this ⊢
  cases this
  exact .d _ _ _ (.jk _)
 ·cases h
  exact⟨g,hI.RM (.v _ _ _ (.d _ _ _ hv.data))⟩
 ·cases h
theorem WN{agg:Bool}{sz:Nat}(IK:agg=false→sz=1):∀{n:Nat}{l:List D}{L:List D},fc agg sz n l=some L→(∀d∈l,d.one=true)→L.length=n∧l.length=n*sz∧(∀x∈L,x.cells.length=sz∧∀c∈x.cells,c.one=true)∧
  ∀(i:Nat)x(j:Nat)c,L[i]? =some x→x.cells[j]? =some c→l[i*sz+j]? =some c
 |0,[],L,h,_=>by simp only[fc,Option.some.injEq]at h;subst h;simp
 |0,_::_,L,h,_=>by simp[fc]at h
 |n+1,l,L,h,cD=>by
  simp only[fc]at h
  split at h
  ·rename_i hle
   split at h
   ·rename_i r hr
    cases h
    obtain⟨h1,h2,h3,h4⟩:=WN IK hr (fun d hd=>cD d (List.mem_of_mem_drop hd))
    have hce:(bI agg (l.take sz)).cells =l.take sz:=Wp (fun d hd=>cD d (List.mem_of_mem_take hd)) (fun h=>by rw[List.length_take,IK h];have:=IK h;omega)
    simp only[List.length_drop]at h2
    refine⟨by simp[h1],by rw[Nat.succ_mul];omega,fun x hx=>?_,fun i x j c hx hc=>?_⟩
    ·rcases List.mem_cons.1 hx with rfl|hx
     ·rw[hce]
      exact⟨by rw[List.length_take];omega,fun c hc=>cD c (List.mem_of_mem_take hc)⟩
     ·exact h3 x hx
    ·cases i with
     |zero=>
      simp at hx;subst hx
      rw[hce]at hc
      rw[List.getElem?_take]at hc
      split at hc
      ·simpa using hc
      ·cases hc
     |succ i=>
      have:=h4 i x j c (by simpa using hx) hc
      rw[List.getElem?_drop]at this
      rw[Nat.succ_mul,show i*sz+sz+j=sz+(i*sz+j) by omega]
      exact this
   ·cases h
  ·cases h
theorem QH:∀{cs:List SV}{ds:List D},dC cs=some ds→ds.length=cs.length∧∀(i:Nat)d,ds[i]? =some d→∃x,cs[i]? =some x∧cB x=some d
 |[],ds,h=>by cases h;exact⟨rfl,fun i d h=>by simp at h⟩
 |x::cs,ds,h=>by
  simp only[dC]at h
  split at h
  ·rename_i y hy
   split at h
   ·rename_i r hr
    cases h
    obtain⟨h1,h2⟩:=QH hr
    refine⟨by simp[h1],fun i d hd=>?_⟩
    cases i with
    |zero=>simp at hd;subst hd;exact⟨x,rfl,hy⟩
    |succ i=>exact h2 i d (by simpa using hd)
   ·cases h
  ·cases h
theorem bp.aaR{St:Nat→Nat→Prop}{d:D}{v:Value}(r:bp w St d v)(h:v.oneCell'=true):d.one=true:=by
 cases r<;>first|rfl|simp[Value.oneCell']at h
def uX(ws:List Nat)(e e':Env):Prop:=e'.ak.length=e.ak.length∧e.boxes.length≤e'.boxes.length∧(∀t,t∉ws→e'.ak.getD t (.v .undef)=e.ak.getD t (.v .undef))∧sa e.boxes.length e e'
theorem YT{b:Nat}{r:Nat→SV}{rm:SV}{ts:List Nat}:uX ts e (yd b r rm ts e):=by
 refine⟨by simp[yd,Ep],by simp[yd],fun t ht=>?_,fun i hi=>?_⟩
 ·simp only[yd,List.getD_eq_getElem?_getD,K8,Nat.zero_add]
  have:ts.contains t=false:=by simpa using ht
  rw[this]
  cases e.ak[t]? <;>rfl
 ·simp only[yd,List.getD_eq_getElem?_getD,List.getElem?_set]
  by_cases hb:b=i
  ·subst hb
   simp[hi]
  ·simp only[hb,if_false]
   by_cases h:(e.boxes[i]?).getD .none =.none
   ·exact .inl h
   ·exact .inr ⟨h,trivial⟩
theorem Mn{y:SV}{t:Nat}:uX [t] e ⟨e.ak.set t (.v y),e.boxes⟩:=⟨by simp,Nat.le_refl _,fun u hu=>by
 simp only[List.mem_singleton]at hu
 simp only
 rw[dB (fun h=>hu h.symm)],.refl _ _⟩
theorem LP{b:Nat}{ts:List Nat}{r:Nat→SV}{rm:SV}{dY:List af}(hl:dY.length=e.boxes.length)(hk:∀i,dY.getD i .none =.none ∨(e.boxes.getD i .none ≠.none ∧(dY.getD i .none).isMap =(e.boxes.getD i .none).isMap)){ov:Option (Nat×SV)}(Ug:∀t x,ov=some (t,x)→t∈ts):
  uX ts e ⟨DQ (oZ b r rm ts e.ak 0) ov,dY⟩:=by
 have JD:∀t,t∉ts→(oZ b r rm ts e.ak 0).getD t (.v .undef)=e.ak.getD t (.v .undef):=fun t ht=>by
  simp only[List.getD_eq_getElem?_getD,K8,Nat.zero_add]
  have:ts.contains t=false:=by simpa using ht
  rw[this]
  cases e.ak[t]? <;>rfl
 refine⟨?_,by simp[hl],fun t ht=>?_,fun i _=>hk i⟩
 ·cases ov with
  |none=>exact Ep _ _ _ _ _ _
  |some p=>simp[DQ,Ep]
 ·cases ov with
  |none=>exact JD t ht
  |some p=>
   obtain⟨t',x⟩:=p
   have:=Ug t' x rfl
   simp only[DQ]
   rw[dB (fun h=>ht (by first|(rw[←h];exact this)|(rw[h];exact this)))]
   exact JD t ht
theorem QI{b:Nat}{l:List af}:∀i,(l.set b .none).getD i .none =.none ∨(l.getD i .none ≠.none ∧((l.set b .none).getD i .none).isMap =(l.getD i .none).isMap):=fun i=>by
 simp only[List.getD_eq_getElem?_getD,List.getElem?_set]
 by_cases hb:b=i
 ·subst hb
  by_cases hi:b<l.length
  ·simp[hi]
  ·simp[hi]
 ·simp only[hb,if_false]
  by_cases h:(l[i]?).getD .none =.none
  ·exact .inl h
  ·exact .inr ⟨h,trivial⟩
theorem YU{b c:Nat}{x:Slot}{l:List (MK×D)}{bs:List af}(hc:bs[c]? =some (.one x)):∀i,((bs.set b .none).set c (.cells [.mp l])).getD i .none =.none ∨(bs.getD i .none ≠.none ∧(((bs.set b .none).set c (.cells [.mp l])).getD i .none).isMap =(bs.getD i .none).isMap):=fun i=>by
 by_cases hi:c=i
 ·subst hi
  right
  have hl:=(List.getElem?_eq_some_iff.1 hc).1
  simp only[List.getD_eq_getElem?_getD,hc,Option.getD_some]
  rw[List.getElem?_set_self (by simpa using hl)]
  exact⟨by simp,rfl⟩
 ·have:=QI (b:=b) (l:=bs) i
  simp only[List.getD_eq_getElem?_getD]at this ⊢
  rw[List.getElem?_set_ne hi]
  exact this
theorem ai0{n:Nat}(h:Nat.blt 0 n=true):0<n:=Nat.lt_of_succ_le (Nat.le_of_ble_eq_true h)
theorem ai1(hI:Inv gl w0 au e a w g){t:Nat}{agg:Bool}{sz:Nat}{ts:List Nat}{b n:Nat}(hs:e.ak.getD t (.v .undef)=.a b n sz){cs:List SV}(cK:e.boxes[b]? =some (.cells cs))(eL:pM b (t::ts) e=true)
  (aN:0<sz)(IK:agg=false→sz=1){ds:List D}(nP:dC cs=some ds){L:List D}(hL:fc agg sz n ds=some L):
  ∃g',Inv gl w0 au ⟨(oZ b (fun _=>.undef) .undef (t::ts) e.ak 0).set t (.v (.bh sz L)),e.boxes.set b .none⟩ a w g':=by
 have oo:=kQ hI t
 rw[hs]at oo
 have pv:a.eval (.tmp t)=a.tmps.getD t undef:=rfl
 rw[pv]at oo
 obtain⟨bX,jq⟩:=oo.C9
 obtain⟨ao,cap,hb,cd,nI,g8,c0,ty0,sQ,ao6⟩:=jq
 obtain⟨q0,c,ty,q1,q2,q3,q4⟩:=hI.boxes b _ ao cK hb
 have eB:c=c0∧ty=ty0:=by rw[q1]at sQ;cases sQ;exact⟨rfl,rfl⟩
 obtain⟨rfl,rfl⟩:=eB
 obtain⟨d1,d2⟩:=QH nP
 have cD:∀d∈ds,d.one=true:=by
  intro d hd
  obtain⟨j,hj⟩:=List.mem_iff_getElem?.1 hd
  obtain⟨x,hx,DR⟩:=d2 j d hj
  have lg:=(List.getElem?_eq_some_iff.1 hx).1
  have hjc:j<c.size:=Nat.lt_of_lt_of_le lg q3
  exact((q4 j x c[j] hx (by simp)).cB DR).aaR (q2 j c[j] lg (by simp))
 obtain⟨l1,l2,l3,l4⟩:=WN IK hL cD
 simp only[pM,Bool.and_eq_true]at eL
 have nN:some ao∈g.bx:=List.mem_of_getElem? hb
 refine⟨_,Qg hI (r:=fun _=>.undef) (rm:=.undef) eL.1 (S:=fun _ _=>False) (fun _ _ h=>h.elim) (dY:=e.boxes.set b .none) (by simp) (ov:=some (t,.bh sz L)) (Gg:=fun b'=>if b'=ao then some (.s t 0)else g.ow b') (fun b' eA=>if_neg (fun h=>eA (by rw[h];exact nN))) _ rfl (fun i bx sC bg h1 h2=>.inl ?_) (fun t' x h=>?_) ⟨fun _ _ _ _=>.undef _ _,fun _ _=>.undef _ _⟩⟩
 ·rw[List.getElem?_set_ne (fun h=>bg h.symm)]at h1
  exact⟨h1,fun s hs=>by subst hs;exact KW eL.2 i s h1⟩
 ·cases h
  rw[nI,←l1]
  refine .bh _ sz L ao cap (fun o=>c.getD o undef) (by omega) g8 (fun x hx=>(l3 x hx).1) (fun x hx=>(l3 x hx).2) ⟨by simp,q0,fun hm=>?_,⟨c,ty,q1,ao6⟩,fun o _ h=>?_⟩ (fun o ho=>?_) (fun i x j d hx hc=>?_)
  ·obtain⟨i,hi⟩:=List.mem_iff_getElem?.1 hm
   simp only[List.getElem?_set]at hi
   split at hi
   ·split at hi<;>simp at hi
   ·rename_i lj
    exact lj (hI.nodup b i ao hb hi)
  ·rcases h with h|h
   ·exact(hI.dj ao o h).2.1 nN
   ·exact h
  ·rw[cell_of_row w ao o c ty (0,0) q1]
   have:o<c.size:=by rw[l1]at ho;omega
   simp[this]
  ·obtain⟨y,hy,JE⟩:=d2 _ d (l4 i x j d hx hc)
   have qS:=(List.getElem?_eq_some_iff.1 hy).1
   have yT:i*sz+j<c.size:=Nat.lt_of_lt_of_le qS q3
   have hr:=(q4 _ y c[i*sz+j] hy (by simp)).cB JE
   have hg:(c.getD (i*sz+j) undef)=c[i*sz+j]:=by simp[yT]
   show bp w _ d (c.getD (i*sz+j) undef)
   rw[hg]
   exact hr.mono fun b' o h=>⟨.inl h,rfl⟩
theorem ai2(hI:Inv gl w0 au e a w g){ts:List Nat}{c b:Nat}(hc:e.boxes[c]? =some (.one (.m b))){l:List (MK×D)}(hl:e.boxes[b]? =some (.map l))(bg:b≠c)(fg:yc b ts e.ak 0=true)
  (ka:uM b (e.boxes.set c .none)=true):∃g',Inv gl w0 au ⟨oZ b (fun _=>.undef) .undef ts e.ak 0,(e.boxes.set b .none).set c (.cells [.mp l])⟩ a w g':=by
 refine⟨_,Qg hI (r:=fun _=>.undef) (rm:=.undef) fg (S:=fun b' o=>g.bx[b]? =some (some b')∧o=0) (fun b' o h=>h.1) (dY:=(e.boxes.set b .none).set c (.cells [.mp l])) (by simp) (ov:=none) (Gg:=g.ow) (fun _ _=>rfl) _ rfl
  (fun i bx sC hni h1 h2=>?_) (fun t x h=>by cases h) ⟨fun _ _ _ _=>.undef _ _,fun _ _=>.undef _ _⟩⟩
 by_cases Gi:c=i
 ·right
  subst Gi
  obtain⟨q0,cc,ty,q1,q2,q3,q4⟩:=hI.boxes c _ sC hc h2
  rw[List.getElem?_set_self (by simp;exact(List.getElem?_eq_some_iff.1 hc).1)]at h1
  cases h1
  have tX:cc[0]? =some cc[0]:=by simp
  have hr:=q4 _ tX
  generalize hcy:cc[0]=y at hr tX
  cases hr with
  |m _ _ ao hb=>
   obtain⟨_,es,clock,p1,p2,p3⟩:=hI.boxes b _ ao hl hb
   refine⟨q0,cc,ty,q1,fun j y hj=>q2 j y hj,q3,fun j x y hx hy=>?_⟩
   cases j with
   |succ j=>simp at hx
   |zero=>
    simp at hx;subst hx
    rw[tX]at hy;cases hy
    exact .mp _ l ao es clock p1 (.inr ⟨hb,rfl⟩) p2 fun i x y hx hy=>⟨(p3 i x y hx hy).1,(p3 i x y hx hy).2.1,(p3 i x y hx hy).2.2.mono fun b' o h=>⟨.inl h,rfl⟩⟩
 ·left
  rw[List.getElem?_set_ne Gi,List.getElem?_set_ne (fun h=>hni h.symm)]at h1
  exact⟨h1,fun s hs=>by
   subst hs
   exact KW ka i s (by rw[List.getElem?_set_ne Gi];exact h1)⟩
theorem ai3(hI:Inv gl w0 au e a w g){x:jo}{k:Env→Prop}(h:gU e k x):∃e' g',Inv gl w0 au e' a w g'∧k e'∧uX (g7 [x]) e e':=by
 cases x with
 |box t F8=>
  simp only[gU]at h
  split at h
  ·rename_i x hx
   unfold ij at h
   split at h
   rotate_left
   ·exact⟨e,g,hI,h,rfl,Nat.le_refl _,fun _ _=>rfl,.refl _ _⟩
   ·exact h.elim
   rename_i sz0 L0
   obtain⟨ao7,h⟩:=h
   subst ao7
   obtain⟨sz,L,g',he,bD⟩:=aiY hI hx ⟨_,_,rfl⟩
   cases he
   refine⟨_,g',bD,h,by simp,by simp,fun u hu=>?_,fun i hi=>?_⟩
   ·simp only[g7,List.mem_singleton]at hu
    simp only
    rw[dB (fun h=>hu h.symm)]
   ·simp only[List.getD_eq_getElem?_getD]
    rw[List.getElem?_append_left hi]
    by_cases h:(e.boxes[i]?).getD .none =.none
    ·exact .inl h
    ·exact .inr ⟨h,rfl⟩
  ·exact h.elim
 |mX t ts=>
  have fr:∀{b r rm},uX (g7 [.mX t ts]) e (yd b r rm ts e):=by
   intro b r rm
   have:g7 [.mX t ts]=ts:=by simp[g7]
   rw[this];exact YT
  simp only[gU]at h
  split at h
  ·rename_i b n sz0 hs
   split at h
   ·rename_i cs cK
    cases eL:pM b ts e with
    |false=>rw[eL]at h;exact h.elim
    |true=>
     rw[eL,cond_true]at h
     obtain⟨ds,nP,hlen,hk⟩:=aQ h
     obtain⟨d1,d2⟩:=QH nP
     refine Exists.elim (YS hI (b:=b) (ts:=ts) (r:=fun m=>ma m n (.d (.sl .ro 1 ds))) (rm:=.undef) eL (S:=fun b' o=>g.bx[b]? =some (some b')∧o<n) (fun b' o h=>h.1) (fun g' hY=>⟨fun m F8 v hv=>?_,fun v hv=>.undef _ _⟩)) fun g' bD=>⟨_,g',bD,hk,fr⟩
     ·unfold ma
      split
      ·rename_i hmn
       subst hmn
       obtain⟨bX,jq⟩:=hv.C9
       have yV:ds.length=m:=d1.trans hlen
       obtain⟨ao,cap,hb,cd,rfl,_⟩:=jq
       obtain⟨q0,c,ty,q1,q2,q3,q4⟩:=hI.boxes b _ ao cK hb
       have cD:∀d∈ds,d.one=true:=by
        intro d hd
        obtain⟨j,hj⟩:=List.mem_iff_getElem?.1 hd
        obtain⟨x,hx,DR⟩:=d2 j d hj
        have lg:=(List.getElem?_eq_some_iff.1 hx).1
        have hjc:j<c.size:=Nat.lt_of_lt_of_le lg q3
        exact((q4 j x c[j] hx (by simp)).cB DR).aaR (q2 j c[j] lg (by simp))
       have dJ:∀d∈ds,d.cells=[d]:=fun d hd=>D.vL (cD d hd)
       have:=bp.sl (w:=w) (St:=g'.St) 1 ds ao 0 cap (fun o=>c.getD o undef) (by omega) (by omega) (fun d hd=>by rw[dJ d hd];rfl)
        (fun d hd x hx=>by rw[dJ d hd]at hx;rw[List.mem_singleton.1 hx];exact cD d hd) (fun o ho=>⟨by
          rw[cell_of_row w ao (0+o) c ty (0,0) q1]
          have:o<c.size:=by omega
          simp[this],by rw[hY];exact .inr ⟨hb,by omega⟩⟩) (fun i d j x hd hx=>by
          rw[dJ d (List.mem_of_getElem? hd)]at hx
          have hj:j=0:=by
           cases j with
           |zero=>rfl
           |succ j=>simp at hx
          subst hj
          simp at hx;subst hx
          obtain⟨y,hy,JE⟩:=d2 i d hd
          have qS:=(List.getElem?_eq_some_iff.1 hy).1
          have yT:i<c.size:=Nat.lt_of_lt_of_le qS q3
          have hr:=(q4 i y c[i] hy (by simp)).cB JE
          simp only[Nat.mul_one,Nat.add_zero]
          simp[yT]
          exact hr.mono fun b' o h=>⟨by rw[hY];exact .inl h,rfl⟩)
       rw[yV]at this
       exact .d _ _ _ this
      ·exact .undef _ _
   ·exact h.elim
  ·rename_i b hs
   split at h
   ·rename_i l hl
    cases eL:pM b ts e with
    |false=>rw[eL]at h;exact h.elim
    |true=>
     rw[eL,cond_true]at h
     refine Exists.elim (YS hI (b:=b) (ts:=ts) (r:=fun _=>.undef) (rm:=.mp l) eL (S:=fun b' o=>g.bx[b]? =some (some b')∧o=0) (fun b' o h=>h.1) (fun g' hY=>⟨fun m F8 v hv=>.undef _ _,fun v hv=>?_⟩)) fun g' bD=>⟨_,g',bD,h,fr⟩
     ·cases hv with
      |m _ _ ao hb=>
       obtain⟨q0,es,clock,q1,q2,q3⟩:=hI.boxes b _ ao hl hb
       exact .mp _ l ao es clock q1 (by rw[hY];exact .inr ⟨hb,rfl⟩) q2 fun i x y hx hy=>⟨(q3 i x y hx hy).1,(q3 i x y hx hy).2.1,(q3 i x y hx hy).2.2.mono fun b' o h=>⟨by rw[hY];exact .inl h,rfl⟩⟩
   ·exact h.elim
  ·exact⟨e,g,hI,h,rfl,Nat.le_refl _,fun _ _=>rfl,.refl _ _⟩
  ·exact h.elim
 |jP t agg sz ts=>
  simp only[gU]at h
  split at h
  ·rename_i b n s0 hs
   split at h
   ·rename_i cs cK
    cases eL:(pM b (t::ts) e&&Nat.beq s0 sz&&Nat.blt 0 sz&&(agg||Nat.beq sz 1))with
    |false=>rw[eL]at h;exact h.elim
    |true=>
     rw[eL,cond_true]at h
     simp only[Bool.and_eq_true]at eL
     obtain⟨⟨⟨h1,h2⟩,h3⟩,h4⟩:=eL
     have h2:=Nat.eq_of_beq_eq_true h2
     subst h2
     obtain⟨ds,nP,h⟩:=aQ h
     obtain⟨L,hL,hk⟩:=aQ h
     obtain⟨g',bD⟩:=ai1 hI hs cK h1 (ai0 h3) (agg:=agg) (fun ha=>by subst ha;exact Nat.eq_of_beq_eq_true (by simpa using h4)) nP hL
     refine⟨_,g',bD,hk,?_⟩
     have Ui:g7 [.jP t agg s0 ts]=t::ts:=by simp[g7]
     rw[Ui]
     exact LP (ov:=some (t,.bh s0 L)) List.length_set QI (fun t' x h=>by cases h;simp)
   ·exact h.elim
  ·exact⟨e,g,hI,h,rfl,Nat.le_refl _,fun _ _=>rfl,.refl _ _⟩
  ·exact h.elim
 |emp t=>
  simp only[gU]at h
  split at h
  ·rename_i x hx
   obtain⟨y,hy,hk⟩:=aQ h
   have hs:=kQ hI t
   rw[hx]at hs
   exact⟨_,g,hI.RM (.v _ _ _ (agb hy hs.kz)),hk,Mn⟩
  ·exact h.elim
 |kF t=>
  simp only[gU]at h
  split at h
  ·rename_i x hx
   obtain⟨y,hy,hk⟩:=aQ h
   obtain⟨g',bD⟩:=aiZ hI hx hy
   exact⟨_,g',bD,hk,Mn⟩
  ·exact h.elim
 |tV t ts=>
  simp only[gU]at h
  split at h
  ·rename_i c hs
   split at h
   ·rename_i b hb
    split at h
    ·rename_i l hl
     cases eL:(!(Nat.beq b c)&&yc b ts e.ak 0&&uM b (e.boxes.set c .none))with
     |false=>rw[eL]at h;exact h.elim
     |true=>
      rw[eL,cond_true]at h
      simp only[Bool.and_eq_true,Bool.not_eq_true']at eL
      obtain⟨⟨h1,h2⟩,h3⟩:=eL
      have bg:b≠c:=fun e=>by subst e;simp at h1
      obtain⟨g',bD⟩:=ai2 hI hb hl bg h2 h3
      refine⟨_,g',bD,h,?_⟩
      have:g7 [.tV t ts]=ts:=by simp[g7]
      rw[this]
      exact LP (ov:=none) (by simp) (YU hb) (fun t' x h=>by cases h)
    ·exact h.elim
   ·exact h.elim
  ·exact h.elim
theorem YV{k k':Env→Prop}(hk:∀e,k e→k' e){e:Env}{x:jo}(h:gU e k x):gU e k' x:=by
 cases x with
 |box t F8=>
  simp only[gU]at h ⊢
  split at h
  ·unfold ij at h ⊢
   split at h
   ·exact⟨h.1,hk _ h.2⟩
   ·exact hk _ h
   ·exact h.elim
  ·exact h.elim
 |mX t ts=>
  simp only[gU]at h ⊢
  split at h
  ·split at h
   ·rename_i cs cK
    cases eL:pM _ ts e with
    |false=>rw[eL]at h;exact h.elim
    |true=>
     rw[eL,cond_true]at h
     obtain⟨ds,nP,hl,h⟩:=aQ h
     simp only[nP,ab]
     exact⟨hl,hk _ h⟩
   ·exact h.elim
  ·split at h
   ·rename_i l hl
    cases eL:pM _ ts e with
    |false=>rw[eL]at h;exact h.elim
    |true=>
     rw[eL,cond_true]at h
     exact hk _ h
   ·exact h.elim
  ·exact hk _ h
  ·exact h.elim
 |jP t agg sz ts=>
  simp only[gU]at h ⊢
  split at h
  ·split at h
   ·rename_i cs cK
    cases eL:(pM _ (t::ts) e&&Nat.beq _ sz&&Nat.blt 0 sz&&(agg||Nat.beq sz 1))with
    |false=>rw[eL]at h;exact h.elim
    |true=>
     rw[eL,cond_true]at h
     obtain⟨ds,nP,h⟩:=aQ h
     obtain⟨L,hL,h⟩:=aQ h
     simp only[cond_true,nP,ab,hL]
     exact hk _ h
   ·exact h.elim
  ·exact hk _ h
  ·exact h.elim
 |emp t=>
  simp only[gU]at h ⊢
  split at h
  ·obtain⟨y,hy,h⟩:=aQ h
   simp only[hy,ab]
   exact hk _ h
  ·exact h.elim
 |kF t=>
  simp only[gU]at h ⊢
  split at h
  ·obtain⟨y,hy,h⟩:=aQ h
   simp only[hy,ab]
   exact hk _ h
  ·exact h.elim
 |tV t ts=>
  simp only[gU]at h ⊢
  split at h
  ·split at h
   ·rename_i b hb
    split at h
    ·rename_i l hl
     cases eL:(!(Nat.beq b _)&&yc b ts e.ak 0&&uM b (e.boxes.set _ .none))with
     |false=>rw[eL]at h;exact h.elim
     |true=>
      rw[eL,cond_true]at h
      simp only[cond_true]
      exact hk _ h
    ·exact h.elim
   ·exact h.elim
  ·exact h.elim
theorem agc{k:Env→Prop}{e:Env}{x:jo}(h:gU e k x):gU e (fun e'=>k e'∧uX (g7 [x]) e e') x:=by
 cases x with
 |box t F8=>
  simp only[gU]at h ⊢
  split at h
  ·unfold ij at h ⊢
   split at h
   ·refine⟨h.1,h.2,by simp,by simp,fun u hu=>?_,fun i hi=>?_⟩
    ·simp only[g7,List.mem_singleton]at hu
     simp only
     rw[dB (fun h=>hu h.symm)]
    ·simp only[List.getD_eq_getElem?_getD]
     rw[List.getElem?_append_left hi]
     by_cases h:(e.boxes[i]?).getD .none =.none
     ·exact .inl h
     ·exact .inr ⟨h,rfl⟩
   ·exact⟨h,rfl,Nat.le_refl _,fun _ _=>rfl,.refl _ _⟩
   ·exact h.elim
  ·exact h.elim
 |mX t ts=>
  have fr:∀{b r rm},uX (g7 [.mX t ts]) e (yd b r rm ts e):=by
   intro b r rm
   have:g7 [.mX t ts]=ts:=by simp[g7]
   rw[this];exact YT
  simp only[gU]at h ⊢
  split at h
  ·split at h
   ·rename_i cs cK
    cases eL:pM _ ts e with
    |false=>rw[eL]at h;exact h.elim
    |true=>
     rw[eL,cond_true]at h
     obtain⟨ds,nP,hl,h⟩:=aQ h
     simp only[nP,ab]
     exact⟨hl,h,fr⟩
   ·exact h.elim
  ·split at h
   ·rename_i l hl
    cases eL:pM _ ts e with
    |false=>rw[eL]at h;exact h.elim
    |true=>
     rw[eL,cond_true]at h
     exact⟨h,fr⟩
   ·exact h.elim
  ·exact⟨h,rfl,Nat.le_refl _,fun _ _=>rfl,.refl _ _⟩
  ·exact h.elim
 |jP t agg sz ts=>
  simp only[gU]at h ⊢
  split at h
  ·split at h
   ·rename_i cs cK
    cases eL:(pM _ (t::ts) e&&Nat.beq _ sz&&Nat.blt 0 sz&&(agg||Nat.beq sz 1))with
    |false=>rw[eL]at h;exact h.elim
    |true=>
     rw[eL,cond_true]at h
     obtain⟨ds,nP,h⟩:=aQ h
     obtain⟨L,hL,h⟩:=aQ h
     simp only[cond_true,nP,ab,hL]
     refine⟨h,?_⟩
     have Ui:g7 [.jP t agg sz ts]=t::ts:=by simp[g7]
     rw[Ui]
     exact LP (ov:=some (t,.bh sz L)) List.length_set QI (fun t' x h=>by cases h;simp)
   ·exact h.elim
  ·exact⟨h,rfl,Nat.le_refl _,fun _ _=>rfl,.refl _ _⟩
  ·exact h.elim
 |emp t=>
  simp only[gU]at h ⊢
  split at h
  ·obtain⟨y,hy,h⟩:=aQ h
   simp only[hy,ab]
   exact⟨h,Mn⟩
  ·exact h.elim
 |kF t=>
  simp only[gU]at h ⊢
  split at h
  ·obtain⟨y,hy,h⟩:=aQ h
   simp only[hy,ab]
   exact⟨h,Mn⟩
  ·exact h.elim
 |tV t ts=>
  simp only[gU]at h ⊢
  split at h
  ·split at h
   ·rename_i b hb
    split at h
    ·rename_i l hl
     cases eL:(!(Nat.beq b _)&&yc b ts e.ak 0&&uM b (e.boxes.set _ .none))with
     |false=>rw[eL]at h;exact h.elim
     |true=>
      rw[eL,cond_true]at h
      simp only[cond_true]
      exact⟨h,by
       have:g7 [.tV t ts]=ts:=by simp[g7]
       rw[this]
       exact LP (ov:=none) (by simp) (YU hb) (fun t' x h=>by cases h)⟩
    ·exact h.elim
   ·exact h.elim
  ·exact h.elim
theorem agd(x:jo)(l:List jo):g7 (x::l)=g7 [x]++g7 l:=by cases x<;>simp[g7]
theorem uX.trans{ws vs:List Nat}{e e1 e2:Env}(h1:uX ws e e1)(h2:uX vs e1 e2):uX (ws++vs) e e2:=
 ⟨h2.1.trans h1.1,Nat.le_trans h1.2.1 h2.2.1,fun t ht=>(h2.2.2.1 t fun h=>ht (List.mem_append_right _ h)).trans (h1.2.2.1 t fun h=>ht (List.mem_append_left _ h)),h1.2.2.2.trans h1.2.1 h2.2.2.2⟩
theorem Bh{k k':Env→Prop}(hk:∀e,k e→k' e):∀{l:List jo}{e:Env},iL l e k→iL l e k'
 |[],_,h=>hk _ h
 |x::l,e,h=>YV (fun e'=>Bh hk (l:=l)) (show gU e (fun e'=>iL l e' k) x from h)
theorem PY{k:Env→Prop}:∀{l:List jo}{e:Env},iL l e k→iL l e fun e'=>k e'∧uX (g7 l) e e'
 |[],e,h=>⟨h,rfl,Nat.le_refl _,fun _ _=>rfl,.refl _ _⟩
 |x::l,e,h=>YV (fun _⟨h1,h2⟩=>Bh (fun e2⟨h3,h4⟩=>⟨h3,by rw[agd];exact h2.trans h4⟩) (PY (l:=l) h1)) (agc (show gU e (fun e'=>iL l e' k) x from h))
theorem EJ:∀{l:List jo}{e:Env}{g:Gh}{k:Env→Prop},Inv gl w0 au e a w g→iL l e k→∃e' g',Inv gl w0 au e' a w g'∧k e'
 |[],e,g,k,hI,h=>⟨e,g,hI,h⟩
 |x::l,e,g,k,hI,h=>by
  obtain⟨e',g',bD,h',_⟩:=ai3 hI (show gU e (fun e'=>iL l e' k) x from h)
  exact EJ bD h'
theorem KX{x:D}(h:x.qF=true):x.cells=[x]:=by cases x<;>first|rfl|cases h
theorem aho{x:D}(h:x.qF=true):x.one=true:=by cases x<;>first|rfl|cases h
theorem Inv.push(hI:Inv gl w0 au e a w g){t u:Nat}(bg:t≠u){LL:List (List D)}{L:List D}(Ck:∀x∈L,x.qF=true){v2:Value}{q cap:Nat}{cur:Array Value}{te:TypeId}{w2:World}(bk cp:Nat→Nat)
  (pa:∀(i:Nat)M,LL[i]? =some M→fA w0.heap.size w g (.s t 0) (bk i) 0 (cp i)∧M.length≤cp i∧cp i≤maxLen∧bk i≠q∧(∀x∈M,x.qF=true)∧∀(j:Nat)x,M[j]? =some x→∃v,w.cell? ⟨bk i,j,none⟩=some v∧bp w g.St x v)
  (uS:∀(i j:Nat)M N,LL[i]? =some M→LL[j]? =some N→bk i=bk j→i=j)
  (hL:aR w g.St w0.heap.size (gp w0.heap.size w g u 0) (.bh 1 L) v2)
  (mS:w2.heap[q]? =some (.cells cur te (0,0)))(cK:cur.size=cap)(hn:LL.length<cap)(hm:cap≤maxLen)
  (aW:∀(i:Nat)M,LL[i]? =some M→cur[i]? =some (.slice (some ⟨bk i,0,none⟩) M.length (cp i)))(BG:cur[LL.length]? =some v2)
  (hq:q<w.heap.size→g.ow q=some (.s t 0))(JF:w0.heap.size≤q)(Uj:some q∉g.bx)(hqs:∀o,¬g.St q o)
  (BH:∀k,k<w.heap.size→k≠q→w2.heap[k]? =w.heap[k]?)(eg:Below w0.heap.size w w2):
  ∃g2,Inv gl w0 au ⟨(e.ak.set u (.v .undef)).set t (.v (.nest (LL++[L]))),e.boxes⟩ (a.put (some t) (.slice (some ⟨q,0,none⟩) (LL.length+1) cap)) w2 g2:=by
 cases hL with
 |bh _ _ _ gg c vs h1 h2 h3 h4 ho h6 h7=>
  obtain⟨o1,o2,o3,⟨cu,ty,o4,mw⟩,o5⟩:=ho
  have pq:gg<w.heap.size:=gk o4
  have Uk:gg≠q:=fun he=>by
   subst he
   rw[hq pq]at o1;cases o1;exact bg rfl
  let g2:Gh:={St:=g.St,bx:=g.bx,ow:=fun b=>if b=q∨g.ow b=some (.s u 0)then some (.s t 0)else g.ow b}
  have hX:Ext w0.heap.size w g w2 g2 (fun p=>p=.s u 0∨p=.s t 0):=by
   refine⟨fun D o hb hn h=>?_,fun b o h=>⟨h,.rP (BH b (hI.me h) (fun he=>hqs o (he▸h)))⟩,fun b o hb=>World.cell?_of_block (BH b (Nat.lt_of_lt_of_le hb hI.below.size) (by omega)),fun _ _ h=>h,fun p b a' c' hp cg=>?_,fun b c ty hm hb=>⟨c,ty,(BH b (gk hb) (fun he=>Uj (he▸hm))).trans hb,rfl⟩⟩
   ·have hDq:D≠q:=fun he=>by subst he;rw[hq (gk h)]at hn;cases hn
    refine⟨(BH D (gk h) hDq).trans h,hb,?_,fun _ h=>h⟩
    show(if D=q∨g.ow D=some (.s u 0)then some (Pos.s t 0)else g.ow D)=none
    rw[if_neg (by rw[hn];simp[hDq])];exact hn
   ·have aP:=cg.lt
    obtain⟨p1,p2,p3,⟨Ul,t',p4,vd⟩,p5⟩:=cg
    have NZ:b≠q:=fun he=>by subst he;rw[hq aP]at p1;cases p1;exact hp (.inr rfl)
    have hh:=BH b aP NZ
    refine⟨⟨?_,p2,p3,⟨Ul,t',hh.trans p4,vd⟩,p5⟩,fun _=>hh⟩
    show(if b=q∨g.ow b=some (.s u 0)then some (Pos.s t 0)else g.ow b)=some p
    rw[if_neg (by rw[p1];rintro(h|h);exact NZ h;cases h;exact hp (.inl rfl))];exact p1
  have ar0:w2.heap[gg]? =w.heap[gg]? :=BH gg pq Uk
  have jm:∀{b cc:Nat}{p:Pos},fA w0.heap.size w g p b 0 cc→(p=.s u 0∨p=.s t 0)→b≠q→fA w0.heap.size w2 g2 (.s t 0) b 0 cc∧w2.heap[b]? =w.heap[b]? :=by
   intro b cc p cg hp NZ
   have aP:=cg.lt
   obtain⟨p1,p2,p3,⟨Ul,t',p4,vd⟩,p5⟩:=cg
   have hh:=BH b aP NZ
   refine⟨⟨?_,p2,p3,⟨Ul,t',hh.trans p4,vd⟩,p5⟩,hh⟩
   show(if b=q∨g.ow b=some (.s u 0)then some (Pos.s t 0)else g.ow b)=some (.s t 0)
   rcases hp with rfl|rfl
   ·rw[if_pos (.inr p1)]
   ·split
    ·rfl
    ·exact p1
  refine⟨g2,?_⟩
  have:=hI.stepG (dst:=some t) (s:=.v (.nest (LL++[L]))) (v:=.slice (some ⟨q,0,none⟩) (LL.length+1) cap) (ak:=e.ak.set u (.v .undef)) (aG:=e.boxes) hX eg (by simp) (fun i x hx hd=>?_) (fun d hd=>?_) hI.gq
   (fun b bx ao k1 k2=>?_) hI.nodup (fun b hb=>(have:=hI.dP b hb;⟨this.1,Nat.lt_of_lt_of_le this.2 eg.size⟩)) (fun b o h=>(have:=hI.dj b o h;⟨this.1,this.2.1,Nat.lt_of_lt_of_le this.2.2 eg.size⟩))
  ·exact this
  ·rw[List.getElem?_set]at hx
   split at hx
   ·rename_i hui
    split at hx
    ·cases hx;exact .v _ _ _ (.undef _ _)
    ·cases hx
   ·rename_i hui
    refine hX.slot (fun j hl=>?_) (hI.ak i x hx)
    rcases hl with hl|hl
    ·cases hl;exact hui rfl
    ·cases hl;exact hd rfl
  ·cases hd
   refine .v _ _ _ ?_
   have hlen:(LL++[L]).length =LL.length+1:=by simp
   rw[←hlen]
   have get:∀{i:Nat}{M:List D},(LL++[L])[i]? =some M→(i<LL.length∧LL[i]? =some M)∨(i=LL.length∧M=L):=by
    intro i M hM
    rw[List.getElem?_append]at hM
    split at hM
    ·rename_i hi;exact .inl ⟨hi,hM⟩
    ·rename_i hi
     have:i-LL.length=0:=by
      have:=(List.getElem?_eq_some_iff.1 hM).1
      simp only[List.length_singleton]at this;omega
     rw[this]at hM
     simp at hM
     exact .inr ⟨by omega,hM.symm⟩
   have hqc:∀i,w2.cell? ⟨q,i,none⟩=cur[i]? :=fun i=>cell_of_row w2 q i cur te (0,0) mS
   refine .nest _ (LL++[L]) q cap (fun i=>if i<LL.length then bk i else gg) (fun i=>if i<LL.length then cp i else c) (by omega) hm ⟨?_,JF,Uj,⟨cur,te,mS,cK⟩,fun o _=>hqs o⟩ (fun i M hM=>?_) (fun i M hM=>?_) (fun i j M N hM hN fp=>?_)
   ·show(if q=q∨g.ow q=some (.s u 0)then some (Pos.s t 0)else g.ow q)=some (.s t 0)
    rw[if_pos (.inl rfl)]
   ·rcases get hM with⟨hi,wO⟩|⟨rfl,rfl⟩
    ·simp only[hi,if_true]
     rw[hqc];exact aW i M wO
    ·simp only[Nat.lt_irrefl,if_false]
     rw[hqc];exact BG
   ·rcases get hM with⟨hi,wO⟩|⟨rfl,rfl⟩
    ·obtain⟨r1,r2,r3,r4,r5,r6⟩:=pa i M wO
     obtain⟨s1,s2⟩:=jm r1 (.inr rfl) r4
     simp only[hi,if_true]
     refine⟨s1,r2,r3,r4,r5,fun j x hx=>?_⟩
     obtain⟨v,k1,k2⟩:=r6 j x hx
     exact⟨v,(World.cell?_of_block s2).trans k1,hX.yr k2⟩
    ·obtain⟨s1,s2⟩:=jm (p:=.s u 0) (b:=gg) (cc:=c*1) ⟨o1,o2,o3,⟨cu,ty,o4,mw⟩,o5⟩ (.inl rfl) Uk
     simp only[Nat.lt_irrefl,if_false]
     rw[Nat.mul_one]at s1
     refine⟨s1,h1,h2,Uk,Ck,fun j x hx=>?_⟩
     have hj:=(List.getElem?_eq_some_iff.1 hx).1
     refine⟨vs j,(World.cell?_of_block s2).trans (h6 j (by omega)),?_⟩
     have:=h7 j x 0 x hx (by rw[KX (Ck x (List.mem_of_getElem? hx))];rfl)
     rw[Nat.mul_one,Nat.add_zero]at this
     exact hX.yr this
   ·have ug:∀{i:Nat}{M:List D},LL[i]? =some M→bk i≠gg:=fun hM he=>by
     have:=(pa _ _ hM).1.1
     rw[he,o1]at this;cases this;exact bg rfl
    rcases get hM with⟨hi,wO⟩|⟨rfl,rfl⟩
    ·rcases get hN with⟨hj,JG⟩|⟨rfl,rfl⟩
     ·simp only[hi,hj,if_true]at fp;exact uS i j M N wO JG fp
     ·simp only[hi,Nat.lt_irrefl,if_true,if_false]at fp;exact absurd fp (ug wO)
    ·rcases get hN with⟨hj,JG⟩|⟨rfl,rfl⟩
     ·simp only[hj,Nat.lt_irrefl,if_true,if_false]at fp;exact absurd fp.symm (ug JG)
     ·rfl
  ·exact hX.box (fun j hl=>by rcases hl with hl|hl<;>cases hl) (BH ao (hI.dP ao (List.mem_of_getElem? k2)).2 (fun he=>Uj (by rw[←he];exact List.mem_of_getElem? k2))) (hI.boxes b bx ao k1 k2)
theorem He(hI:Inv gl w0 au e a w g){t:Nat}{x:SV}(hx:e.ak.getD t (.v .undef)=.v x):aR w g.St w0.heap.size (gp w0.heap.size w g t 0) x (a.tmps.getD t undef):=by
 have:=kQ hI t
 rw[hx]at this
 exact this.kz
theorem ai4(w:World)(t e:TypeId)(len:Nat)(parts:Array (Nat×Value))(cells:Array Value)(ie:TypeInfo)(z:Value)
  (hu:P.underlying t=some (.slice e))(Um:P.info? e=some ie)(hz:ie.zero=some z)(akJ:¬len*ie.size>2^24)(FD:¬len*ie.size=0)
  (h:Instr.fill (fun i=>some (i*ie.size,ie.size)) ((Array.range (len*ie.size)).map (z.cells[· % z.cells.size]!)) parts.toList=some cells):
  (Instr.buildSlice t len parts).run P w=.ok (.slice (some ⟨w.heap.size,0,none⟩) len len) (w.alloc (.cells cells e)):=by
 simp[Instr.buildSlice,run_underlying hu,sizeOf,typeInfo,zeroValue,Um,hz,akJ,FD,h,newRow]
theorem ahp(hI:Inv gl w0 au e a w g){t u:Nat}(bg:t≠u){x y:SV}(hx:e.ak.getD t (.v .undef)=.v x)(hy:e.ak.getD u (.v .undef)=.v y){r:List (List D)×List D}(hp:Se x y=some r)
  {ty:TypeId}{n:Nat}(eU:RF P ty=some n)(hb:(r.1.length+1)*n≤140737488355328)(Ck:∀x∈r.2,x.qF=true)(N0:TypeId):
  ∃w1,(Instr.buildSlice ty 1 #[(0,a.tmps.getD u undef)]).run P w=.ok (.slice (some ⟨w.heap.size,0,none⟩) 1 1) w1∧∃v4 w2,
   (Builtin.append_ #[ty,ty] N0 #[a.tmps.getD t undef,.slice (some ⟨w.heap.size,0,none⟩) 1 1]).run P w1=.ok v4 w2∧
   ∀e' a',Inv gl w0 au e' a' w g→∃g2,Inv gl w0 au ⟨(e'.ak.set u (.v .undef)).set t (.v (.nest (r.1++[r.2]))),e'.boxes⟩ (a'.put (some t) v4) w2 g2:=by
 have rx:=He hI hx
 have ry:=He hI hy
 generalize a.tmps.getD t undef=v1 at rx ⊢
 generalize a.tmps.getD u undef=v2 at ry ⊢
 unfold RF at eU
 split at eU
 rotate_left
 ·cases eU
 rename_i e1 he
 split at eU
 rotate_left
 ·cases eU
 rename_i dh z ao8 nf hz
 cases hc:(Nat.blt 0 dh&&Nat.beq z.length 1)with
 |false=>rw[hc]at eU;cases eU
 |true=>
  rw[hc]at eU
  have AF:dh=n:=Option.some.inj eU
  subst AF
  simp only[Bool.and_eq_true]at hc
  have aco:0<dh:=Nat.lt_of_succ_le (Nat.le_of_ble_eq_true hc.1)
  have Cd:=Nat.eq_of_beq_eq_true hc.2
  have hu:=Ba he
  obtain⟨i,zv,hi,N6,iC⟩:=Xc hz
  have aN:i.size=1:=by have:=(Hx ao8).2.1;simpa[eF,hi]using this
  have hib:i.bytes=dh:=by simpa[xC,hi]using nf
  subst hib
  unfold Se at hp
  split at hp
  rotate_left
  ·cases hp
  rename_i s L
  split at hp
  rotate_left
  ·cases hp
  rename_i fg
  subst fg
  have yW:∃gg c,v2=.slice (some ⟨gg,0,none⟩) L.length c:=by cases ry;exact⟨_,_,rfl⟩
  obtain⟨g3,c3,yW⟩:=yW
  have ao9:v2.cells= #[v2]:=by rw[yW];rfl
  have apa:v2.oneCell'=true:=by rw[yW];rfl
  have hle:w0.heap.size≤w.heap.size:=hI.below.size
  have hold:=fun b(hb:b<w.heap.size)=>jZ w (.cells #[v2] e1) b hb
  have mf:=vK w (.cells #[v2] e1)
  have apb:=A9 w (.cells #[v2] e1)
  have anC:Instr.fill (fun j=>some (j*i.size,i.size)) ((Array.range (1*i.size)).map (zv.cells[· % zv.cells.size]!)) [(0,v2)]=some #[v2]:=by
   rw[aN]
   have Gj:∀f:Nat→Value,(Array.range (1*1)).map f= #[f 0]:=fun f=>Array.ext' (by simp[List.range_succ])
   rw[Gj]
   simp[Instr.fill,ao9]
  refine⟨w.alloc (.cells #[v2] e1),?_,?_⟩
  ·exact ai4 w ty e1 1 #[(0,v2)] #[v2] i zv hu hi N6 (by rw[aN];omega) (by rw[aN];omega) anC
  ·have Ik:∀(j:Nat)(u':Value),[v2][j]? =some u'→(w.alloc (.cells #[v2] e1)).cell? ((⟨w.heap.size,0,none⟩:Addr).add j)=some u':=fun j u' hj=>by
    have Ca:j=0:=by have:=(List.getElem?_eq_some_iff.1 hj).1;simp at this;omega
    subst Ca
    simp at hj;subst hj
    rw[qq,cell_of_row _ w.heap.size (0+0) _ e1 (0,0) mf]
    rfl
   have ar4:∀{w2:World},w2.drawn=w2.drawn→True:=fun _=>trivial
   split at hp
   ·
    rename_i LL
    cases hp
    cases rx with
    |nest _ _ q cap bk cp cd hm ho aW pa uS=>
     obtain⟨o1,o2,o3,⟨cur,te,o4,mw⟩,o5⟩:=ho
     have Cl:q<w.heap.size:=gk o4
     have hcq:∀(j:Nat)M,LL[j]? =some M→cur[j]? =some (.slice (some ⟨bk j,0,none⟩) M.length (cp j)):=fun j M hM=>by
      have:=aW j M hM
      rw[cell_of_row w q j cur te (0,0) o4]at this
      exact this
     by_cases tK:LL.length+1≤cap
     ·have bC:=Pd (P:=P) (w:=w.alloc (.cells #[v2] e1)) (ty:=N0) hu hi ((hold q Cl).trans o4) (ad:=⟨w.heap.size,0,none⟩) (m:=1) (c:=1) (n:=LL.length) (cap:=cap) [v2] (by simp[aN]) Ik (by intro u' oE;simp at oE;subst oE;exact apa) tK (by rw[aN,Nat.mul_one,mw];simpa using tK)
      refine⟨_,_,bC,fun e' a' bD=>?_⟩
      have dJ:cur.toList.length=cap:=by simpa using mw
      refine bD.push (LL:=LL) (L:=L) (q:=q) (cap:=cap) (cur:=(cur.toList.take (LL.length*i.size)++[v2]++cur.toList.drop (LL.length*i.size+[v2].length)).toArray) (te:=te) bg Ck bk cp (fun j M hM=>?_) uS ry ?_ ?_ tK hm (fun j M hM=>?_) ?_ (fun _=>o1) o2 o3 (fun o=>o5 o (Nat.zero_le _)) (fun k hk Gk=>?_) ⟨rfl,rfl,rfl,by simp[World.setRow,apb],fun k hk=>?_⟩
      ·obtain⟨r1,r2,r3,r4,r5,r6⟩:=pa j M hM
       exact⟨r1,r2,r3,r4,r5,r6⟩
      ·exact setRow_heap _ q cur _ te (0,0) ((hold q Cl).trans o4)
      ·simp only[aN,Nat.mul_one,List.size_toArray,List.length_append,List.length_take,List.length_drop,List.length_singleton,dJ];omega
      ·have hj:=(List.getElem?_eq_some_iff.1 hM).1
       have:=uC cur.toList [v2] LL.length (by simp[dJ];omega) j
       simp only[aN,Nat.mul_one,List.getElem?_toArray]
       rw[this,if_pos hj]
       simpa using hcq j M hM
      ·have:=uC cur.toList [v2] LL.length (by simp[dJ];omega) LL.length
       simp only[aN,Nat.mul_one,List.getElem?_toArray]
       rw[this];simp
      ·exact(setRow_other _ q k _ Gk).trans (hold k hk)
      ·exact(setRow_other _ q k _ (by omega)).trans (hold k (by omega))
     ·obtain⟨fB,ol,oc,og⟩:=Bc (w:=w.alloc (.cells #[v2] e1)) (b:=q) (off:=0) (St:=fun _ _=>True) (n:=LL.length) (sz:=i.size) (vs:=fun j=>.slice (some ⟨bk j,0,none⟩) (LL.getD j []).length (cp j)) (fun o ho=>⟨by
       rw[aN,Nat.mul_one]at ho
       rw[Nat.zero_add,World.cell?_of_block (hold q Cl)]
       have:=aW o _ (List.getElem?_eq_getElem ho)
       rw[this];simp[ho],trivial⟩)
      have bw:(LL.length+1)*1≤(LL.length+1)*i.bytes:=Nat.mul_le_mul_left _ aco
      have nH:LL.length+1≤maxLen:=by simp only[maxLen];simp only at hb;omega
      have bC:=run_append_grow (P:=P) (w.alloc (.cells #[v2] e1)) ty N0 e1 i zv hu hi N6 ⟨q,0,none⟩ LL.length cap fB ol oc ⟨w.heap.size,0,none⟩ 1 1 [v2] (by simp[aN]) Ik (by omega) (by simp only at hb;omega) (growslice_fits (by omega) hb)
      obtain⟨rest,qQ,pt⟩:=En zv.cells (grownCap (w.alloc (.cells #[v2] e1)) (LL.length+1) cap e1-(LL.length+1))
      rw[qQ]at bC
      have lf:=grownCap_ge (w.alloc (.cells #[v2] e1)) (LL.length+1) cap e1
      have JH:=grownCap_le_maxLen (w.alloc (.cells #[v2] e1)) (LL.length+1) cap e1 nH
      generalize grownCap (w.alloc (.cells #[v2] e1)) (LL.length+1) cap e1=SW at bC qQ pt lf JH
      refine⟨_,_,bC,fun e' a' bD=>?_⟩
      have qW:fB.length=LL.length:=by rw[ol,aN,Nat.mul_one]
      have Un:(w.alloc (.cells #[v2] e1)).drew.heap =(w.alloc (.cells #[v2] e1)).heap :=rfl
      have Il:=fun b(hb:b<(w.alloc (.cells #[v2] e1)).heap.size)=>jZ (w.alloc (.cells #[v2] e1)).drew (.cells (fB.toArray++[v2].toArray ++rest.toArray) e1) b hb
      have Im:=vK (w.alloc (.cells #[v2] e1)).drew (.cells (fB.toArray++[v2].toArray ++rest.toArray) e1)
      have SX:=A9 (w.alloc (.cells #[v2] e1)).drew (.cells (fB.toArray++[v2].toArray ++rest.toArray) e1)
      rw[Un]at Im SX
      have j8:∀j,(fB.toArray++[v2].toArray ++rest.toArray)[j]? =(fB++[v2]++rest)[j]? :=fun j=>by rw[←Array.getElem?_toList,Array.toList_append,Array.toList_append]
      refine bD.push (LL:=LL) (L:=L) (q:=(w.alloc (.cells #[v2] e1)).heap.size) (cap:=SW) (te:=e1) bg Ck bk cp (fun j M hM=>?_) uS ry Im ?_ (by omega) JH (fun j M hM=>?_) ?_ (fun aP=>by omega) (by omega) (fun hb=>by have:=(hI.dP _ hb).2;omega) (fun o hs=>by have:=hI.me hs;omega) (fun k hk Gk=>?_) ⟨rfl,rfl,rfl,by omega,fun k hk=>?_⟩
      ·obtain⟨r1,r2,r3,r4,r5,r6⟩:=pa j M hM
       exact⟨r1,r2,r3,by have:=r1.lt;omega,r5,r6⟩
      ·simp only[Array.size_append,List.size_toArray,qW,pt,iC,Cd,List.length_singleton];omega
      ·have hj:=(List.getElem?_eq_some_iff.1 hM).1
       rw[j8,List.append_assoc,List.getElem?_append_left (by omega),og j (by rw[aN];omega)]
       have hg:LL.getD j []=M:=by rw[List.getD_eq_getElem?_getD,hM];rfl
       rw[hg]
      ·rw[j8,List.append_assoc,List.getElem?_append_right (by omega),qW,Nat.sub_self];rfl
      ·exact(Il k (by omega)).trans (hold k hk)
      ·exact(Il k (by omega)).trans (hold k (by omega))
   ·
    cases hp
    have hd:=rx.data
    cases hd
    have bw:1*1≤1*i.bytes:=Nat.mul_le_mul_left _ aco
    have bC:=run_append_nil (P:=P) (w.alloc (.cells #[v2] e1)) ty N0 e1 i zv hu hi N6 ⟨w.heap.size,0,none⟩ 1 1 [v2] (by simp[aN]) Ik (by omega) (by omega) (by simp only[List.length_nil]at hb;omega)
    obtain⟨rest,qQ,pt⟩:=En zv.cells (grownCap (w.alloc (.cells #[v2] e1)) 1 0 e1-1)
    rw[qQ]at bC
    have lf:=grownCap_ge (w.alloc (.cells #[v2] e1)) 1 0 e1
    have JH:=grownCap_le_maxLen (w.alloc (.cells #[v2] e1)) 1 0 e1 (by simp[maxLen])
    generalize grownCap (w.alloc (.cells #[v2] e1)) 1 0 e1=SW at bC qQ pt lf JH
    refine⟨_,_,bC,fun e' a' bD=>?_⟩
    have Un:(w.alloc (.cells #[v2] e1)).drew.heap =(w.alloc (.cells #[v2] e1)).heap :=rfl
    have Il:=fun b(hb:b<(w.alloc (.cells #[v2] e1)).heap.size)=>jZ (w.alloc (.cells #[v2] e1)).drew (.cells ([v2].toArray ++rest.toArray) e1) b hb
    have Im:=vK (w.alloc (.cells #[v2] e1)).drew (.cells ([v2].toArray ++rest.toArray) e1)
    have SX:=A9 (w.alloc (.cells #[v2] e1)).drew (.cells ([v2].toArray ++rest.toArray) e1)
    rw[Un]at Im SX
    refine bD.push (LL:=[]) (q:=(w.alloc (.cells #[v2] e1)).heap.size) (cap:=SW) (te:=e1) bg Ck (fun _=>0) (fun _=>0) (fun j M hM=>by simp at hM) (fun i j M N hM=>by simp at hM) ry Im ?_ lf JH (fun j M hM=>by simp at hM) (by simp) (fun aP=>by omega) (by omega) (fun hb=>by have:=(hI.dP _ hb).2;omega) (fun o hs=>by have:=hI.me hs;omega) (fun k hk Gk=>?_) ⟨rfl,rfl,rfl,by omega,fun k hk=>?_⟩
    ·simp only[Array.size_append,List.size_toArray,pt,iC,Cd,List.length_singleton];omega
    ·exact(Il k (by omega)).trans (hold k hk)
    ·exact(Il k (by omega)).trans (hold k (by omega))
   ·cases hp
theorem Inv.uT(hI:Inv gl w0 au e a w g){t:Nat}{LL:List (List D)}(hx:e.ak.getD t (.v .undef)=.v (.nest LL)){i j:Nat}{L:List D}(hL:LL[i]? =some L)(hj:j<L.length)(b:Bool):
  ∃q cap bk cp cur te,a.tmps.getD t undef=.slice (some ⟨q,0,none⟩) LL.length cap∧w.cell? ⟨q,i,none⟩=some (.slice (some ⟨bk,0,none⟩) L.length cp)∧w.heap[bk]? =some (.cells cur te (0,0))∧j<cur.size∧
   Inv gl w0 au ⟨e.ak.set t (.v (.nest (LL.set i (L.set j (.bool b))))),e.boxes⟩ a (w.setRow bk (cur.toList.take j++[Value.bool b]++cur.toList.drop (j+1)).toArray) g:=by
 have ht:t<e.ak.length:=by
  rcases Nat.lt_or_ge t e.ak.length with h|h
  ·exact h
  ·rw[List.getD_eq_getElem?_getD,List.getElem?_eq_none h]at hx;cases hx
 have hr:=He hI hx
 generalize hv:a.tmps.getD t undef=v at hr
 cases hr with
 |nest _ _ q cap bk cp cd hm ho aW pa uS=>
  obtain⟨r1,r2,r3,r4,r5,r6⟩:=pa i L hL
  obtain⟨o1,o2,o3,⟨cur,te,o4,mw⟩,o5⟩:=r1
  let jv:Array Value:=(cur.toList.take j++[Value.bool b]++cur.toList.drop (j+1)).toArray
  have dJ:cur.toList.length=cp i:=by simpa using mw
  have hjc:j<cp i:=by omega
  have aN:jv.size=cur.size:=by
   simp only[jv,List.size_toArray,List.length_append,List.length_take,List.length_drop,List.length_singleton,dJ,mw];omega
  refine⟨q,cap,bk i,cp i,cur,te,rfl,aW i L hL,o4,by omega,?_⟩
  have hn:=setRow_heap w (bk i) cur jv te (0,0) o4
  have dZ:=fun k(hk:k≠bk i)=>setRow_other w (bk i) k jv hk
  have Sm:∀b' o,g.St b' o→b'≠bk i:=fun b' o h he=>o5 o (Nat.zero_le _) (he▸h)
  have hX:Ext w0.heap.size w g (w.setRow (bk i) jv) g (fun p=>p=.s t 0):=by
   refine⟨fun D ob fZ ff h=>⟨(dZ D (fun he=>by subst he;rw[o1]at ff;cases ff)).trans h,fZ,ff,fun _ h=>h⟩,fun b' o h=>⟨h,.rP (dZ b' (Sm b' o h))⟩,fun b' o h=>World.cell?_of_block (dZ b' (by omega)),fun _ _ h=>h,fun p b' a' c' hp cg=>?_,fun b' c' oB mz eA=>⟨c',oB,(dZ b' (fun he=>o3 (he▸mz))).trans eA,rfl⟩⟩
   obtain⟨p1,p2,p3,⟨cu,t',p4,vd⟩,p5⟩:=cg
   have bg:b'≠bk i:=fun he=>by subst he;rw[o1]at p1;cases p1;exact hp rfl
   exact⟨⟨p1,p2,p3,⟨cu,t',(dZ b' bg).trans p4,vd⟩,p5⟩,fun _=>dZ b' bg⟩
  have eg:Below w0.heap.size w (w.setRow (bk i) jv):=⟨rfl,rfl,rfl,by simp[World.setRow],fun k hk=>dZ k (by omega)⟩
  have:=hI.stepG (dst:=none) (s:=.t []) (v:=undef) (ak:=e.ak.set t (.v (.nest (LL.set i (L.set j (.bool b)))))) (aG:=e.boxes) hX eg (by simp) (fun k x er _=>?_) (fun d hd=>by cases hd) hI.gq
   (fun b' bx ao h1 h2=>hX.box (fun j hh=>by cases hh) (dZ ao (fun he=>o3 (by rw[←he];exact List.mem_of_getElem? h2))) (hI.boxes b' bx ao h1 h2)) hI.nodup (fun b' mz=>by have:=hI.dP b' mz;exact⟨this.1,by simpa[World.setRow]using this.2⟩) (fun b' o h=>by have:=hI.dj b' o h;exact⟨this.1,this.2.1,by simpa[World.setRow]using this.2.2⟩)
  ·exact this
  ·rw[List.getElem?_set]at er
   split at er
   ·rename_i iD
    subst iD
    simp only[Option.some.injEq]at er
    subst er
    refine .v _ _ _ ?_
    rw[hv]
    have hlen:(LL.set i (L.set j (.bool b))).length =LL.length:=by simp
    have get:∀{k:Nat}{M:List D},(LL.set i (L.set j (.bool b)))[k]? =some M→(k=i∧M=L.set j (.bool b))∨(k≠i∧LL[k]? =some M):=by
     intro k M hM
     rw[List.getElem?_set]at hM
     split at hM
     ·rename_i JI
      split at hM
      ·cases hM;exact .inl ⟨JI.symm,rfl⟩
      ·cases hM
     ·rename_i JI;exact .inr ⟨fun h=>JI h.symm,hM⟩
    have hold:∀{k:Nat}{M:List D},(LL.set i (L.set j (.bool b)))[k]? =some M→∃N,LL[k]? =some N∧N.length=M.length:=by
     intro k M hM
     rcases get hM with⟨rfl,rfl⟩|⟨_,h⟩
     ·exact⟨L,hL,by simp⟩
     ·exact⟨M,h,rfl⟩
    have own:∀{k:Nat}{c:Nat},fA w0.heap.size w g (.s t 0) k 0 c→fA w0.heap.size (w.setRow (bk i) jv) g (.s t 0) k 0 c:=by
     intro k c hk
     obtain⟨p1,p2,p3,⟨cu,t',p4,vd⟩,p5⟩:=hk
     by_cases qV:k=bk i
     ·subst qV
      rw[o4]at p4;cases p4
      exact⟨p1,p2,p3,⟨jv,te,hn,aN.trans vd⟩,p5⟩
     ·exact⟨p1,p2,p3,⟨cu,t',(dZ k qV).trans p4,vd⟩,p5⟩
    rw[←hlen]
    refine .nest _ _ q cap bk cp (by omega) hm (own ho) (fun k M hM=>?_) (fun k M hM=>?_) (fun k k' M N hM hN nO=>?_)
    ·obtain⟨N,hN,hl⟩:=hold hM
     rw[World.cell?_of_block (dZ q (fun he=>r4 he.symm)),←hl]
     exact aW k N hN
    ·rcases get hM with⟨rfl,rfl⟩|⟨qV,wO⟩
     ·refine⟨own ⟨o1,o2,o3,⟨cur,te,o4,mw⟩,o5⟩,by simpa using r2,r3,r4,fun x hx=>?_,fun jj x hx=>?_⟩
      ·rcases List.mem_or_eq_of_mem_set hx with h|h
       ·exact r5 x h
       ·subst h;rfl
      ·rw[cell_of_row _ (bk k) jj jv te (0,0) hn]
       have ml:=uC cur.toList [Value.bool b] j (by simp[dJ];omega) jj
       have jd:jv[jj]? =if jj<j then cur.toList[jj]? else if jj<j+1 then [Value.bool b][jj-j]? else cur.toList[jj]? :=by
        simp only[jv,List.getElem?_toArray];exact ml
       rw[List.getElem?_set]at hx
       split at hx
       ·rename_i N7
        subst N7
        have yM:some (D.bool b)=some x:=by simpa[hj]using hx
        cases yM
        refine⟨.bool b,?_,.bool b⟩
        rw[jd];simp
       ·rename_i N7
        obtain⟨v',k1,k2⟩:=r6 jj x hx
        refine⟨v',?_,hX.yr k2⟩
        rw[cell_of_row w (bk k) jj cur te (0,0) o4]at k1
        rw[jd]
        split
        ·simpa using k1
        ·rw[if_neg (by omega)];simpa using k1
     ·obtain⟨s1,s2,s3,s4,s5,s6⟩:=pa k M wO
      have wM:bk k≠bk i:=fun he=>qV (uS k i M L wO hL he)
      refine⟨own s1,s2,s3,s4,s5,fun jj x hx=>?_⟩
      obtain⟨v',k1,k2⟩:=s6 jj x hx
      exact⟨v',(World.cell?_of_block (dZ (bk k) wM)).trans k1,hX.yr k2⟩
    ·obtain⟨M',wO,_⟩:=hold hM
     obtain⟨N',JG,_⟩:=hold hN
     exact uS k k' M' N' wO JG nO
   ·rename_i iD
    refine hX.slot (fun j=>?_) (hI.ak k x er)
    intro hh;cases hh;exact iD rfl
def iN(P:Program):List Oper→Act→World→(Act→World→Prop)→Prop
 |[],a,w,R=>R a w
 |o::l,a,w,R=>o.guard=none∧(∀c,o.op≠.defer c)∧∀(next:Act→World→Prop)(Q:Exit→Act→World→Prop),(∀v w1,(a.put o.dst v).defers =[]→iN P l (a.put o.dst v) w1 R→next (a.put o.dst v) w1)→o.wp P a w next Q
theorem iN.val{o:Oper}{l:List Oper}{a:Act}{w:World}{R:Act→World→Prop}{v:Value}{w1:World}(hg:o.guard=none)(oC:∀c,o.op≠.defer c)(hd:a.defers=[])(hr:(execOp a.eval o).run P w=.ok (.value v) w1)(h:iN P l (a.put o.dst v) w1 R):iN P (o::l) a w R:=
 ⟨hg,oC,fun next Q hn=>by unfold Oper.wp;rw[hr];exact hn v w1 ((put_defers a o.dst v).trans hd) h⟩
theorem iN.skip{o:Oper}{l:List Oper}{a:Act}{w:World}{R:Act→World→Prop}{w1:World}(hg:o.guard=none)(oC:∀c,o.op≠.defer c)(ho:o.dst=none)(hd:a.defers=[])(hr:(execOp a.eval o).run P w=.ok .skip w1)(h:iN P l a w1 R):iN P (o::l) a w R:=
 ⟨hg,oC,fun next Q hn=>by unfold Oper.wp;rw[hr];exact hn undef w1 (by rw[ho];exact hd) (by rw[ho];exact h)⟩
theorem ahq(x:SV):Ab.aa (Ab.aa x)=Ab.aa x:=by cases x<;>rfl
theorem bp.ZP{St:Nat→Nat→Prop}{sz:Nat}{L:List D}{v:Value}(h:bp w St (.sl .nil sz L) v):v=.slice none 0 0∧L=[]:=by
 cases h;exact⟨rfl,rfl⟩
theorem jW{a:Act}{d t:Nat}{v:Value}(h:t≠d):(a.put (some d) v).tmps.getD t undef=a.tmps.getD t undef:=by
 simp only[Act.put,Array.getD_eq_getD_getElem?]
 rw[Array.getElem?_setIfInBounds_ne (fun hh=>h hh.symm)]
theorem Inv.ai5(hI:Inv gl w0 au e a w g){t:Nat}{s n:Nat}{L L':List D}{gg cap:Nat}(ht:t<e.ak.length)(hs:fA w0.heap.size w g (.s t 0) gg 0 (cap*s)){cur jv:Array Value}{te:TypeId}(hc:w.heap[gg]? =some (.cells cur te (0,0)))
  (aN:jv.size=cur.size)(mf:∀(w':World)(St:Nat→Nat→Prop),w'.heap[gg]? =some (.cells jv te (0,0))→fA w0.heap.size w' g (.s t 0) gg 0 (cap*s)→(∀d v,bp w g.St d v→bp w' g.St d v)→aR w' g.St w0.heap.size (gp w0.heap.size w' g t 0) (.bh s L') (a.tmps.getD t undef)):
  Inv gl w0 au ⟨e.ak.set t (.v (.bh s L')),e.boxes⟩ a (w.setRow gg jv) g:=by
 obtain⟨o1,o2,o3,⟨cu,ty,o4,mw⟩,o5⟩:=hs
 rw[hc]at o4;cases o4
 have hn:=setRow_heap w gg cur jv te (0,0) hc
 have dZ:=fun k(hk:k≠gg)=>setRow_other w gg k jv hk
 have Sm:∀b' o,g.St b' o→b'≠gg:=fun b' o h he=>o5 o (Nat.zero_le _) (he▸h)
 have hX:Ext w0.heap.size w g (w.setRow gg jv) g (fun p=>p=.s t 0):=by
  refine⟨fun D ob fZ ff h=>⟨(dZ D (fun he=>by subst he;rw[o1]at ff;cases ff)).trans h,fZ,ff,fun _ h=>h⟩,fun b' o h=>⟨h,.rP (dZ b' (Sm b' o h))⟩,fun b' o h=>World.cell?_of_block (dZ b' (by omega)),fun _ _ h=>h,fun p b' a' c' hp cg=>?_,fun b' c' oB mz eA=>⟨c',oB,(dZ b' (fun he=>o3 (he▸mz))).trans eA,rfl⟩⟩
  obtain⟨p1,p2,p3,⟨cu,t',p4,vd⟩,p5⟩:=cg
  have bg:b'≠gg:=fun he=>by subst he;rw[o1]at p1;cases p1;exact hp rfl
  exact⟨⟨p1,p2,p3,⟨cu,t',(dZ b' bg).trans p4,vd⟩,p5⟩,fun _=>dZ b' bg⟩
 have anD:fA w0.heap.size (w.setRow gg jv) g (.s t 0) gg 0 (cap*s):=⟨o1,o2,o3,⟨jv,te,hn,aN.trans mw⟩,o5⟩
 have eg:Below w0.heap.size w (w.setRow gg jv):=⟨rfl,rfl,rfl,by simp[World.setRow],fun k hk=>dZ k (by omega)⟩
 have:=hI.stepG (dst:=none) (s:=.t []) (v:=undef) (ak:=e.ak.set t (.v (.bh s L'))) (aG:=e.boxes) hX eg (by simp) (fun i x hx _=>?_) (fun d hd=>by cases hd) hI.gq
  (fun b' bx ao h1 h2=>hX.box (fun j hh=>by cases hh) (dZ ao (fun he=>o3 (by rw[←he];exact List.mem_of_getElem? h2))) (hI.boxes b' bx ao h1 h2)) hI.nodup (fun b' mz=>by have:=hI.dP b' mz;exact⟨this.1,by simpa[World.setRow]using this.2⟩) (fun b' o h=>by have:=hI.dj b' o h;exact⟨this.1,this.2.1,by simpa[World.setRow]using this.2.2⟩)
 ·exact this
 ·rw[List.getElem?_set]at hx
  split at hx
  ·rename_i iD
   subst iD
   simp only[Option.some.injEq]at hx
   subst hx
   exact .v _ _ _ (mf _ (fun _ _=>False) hn anD (fun d v hr=>hX.yr hr))
  ·rename_i iD
   refine hX.slot (fun j=>?_) (hI.ak i x hx)
   intro hh;cases hh;exact iD rfl
theorem Inv.acp(hI:Inv gl w0 au e a w g){t:Nat}{y:SV}(h:aR w g.St w0.heap.size (gp w0.heap.size w g t 0) y (a.tmps.getD t undef)):Inv gl w0 au ⟨e.ak.set t (.v y),e.boxes⟩ a w g:=by
 refine⟨hI.below,by simpa using hI.size,fun i s hs=>?_,hI.gq,hI.boxes,hI.nodup,hI.iB,hI.dj,hI.dP,hI.lS,hI.defers,hI.gu,hI.cls,hI.k8⟩
 rw[List.getElem?_set]at hs
 split at hs
 ·rename_i iD
  subst iD
  split at hs
  ·cases hs;exact .v _ _ _ h
  ·cases hs
 ·exact hI.ak i s hs
theorem age(hI:Inv gl w0 au e a w g){t:Nat}{ty:TypeId}{x y:SV}(hx:e.ak.getD t (.v .undef)=.v x)(hy:zW P ty x=some y)(oB:TypeId):
  ∃w',(Builtin.clear_ #[ty] oB #[a.tmps.getD t undef]).run P w=.ok (.tuple #[]) w'∧Inv gl w0 au ⟨e.ak.set t (.v y),e.boxes⟩ a w' g:=by
 have hr:aR w g.St w0.heap.size (gp w0.heap.size w g t 0) x (a.tmps.getD t undef):=by
  have:=kQ hI t
  rw[hx]at this
  exact this.kz
 unfold zW at hy
 split at hy
 ·rename_i e' he
  have hu:=Ba he
  split at hy
  ·rename_i z aN hz
   split at hy
   ·rename_i s L
    cases hy
    obtain⟨hv,hL⟩:=hr.data.ZP
    subst hL
    refine⟨w,?_,hI.acp (by rw[hv];exact .d _ _ _ (.jk _))⟩
    rw[hv]
    simp[Builtin.clear_,run_underlying hu]
   ·rename_i s L
    split at hy
    ·rename_i fg
     subst fg
     cases hy
     have Jy:t<e.ak.length:=by
      rcases Nat.lt_or_ge t e.ak.length with h|h
      ·exact h
      ·rw[List.getD_eq_getElem?_getD,List.getElem?_eq_none h]at hx;cases hx
     generalize hv:a.tmps.getD t undef=v at hr
     cases hr with
     |bh _ _ _ gg cap vs cd hm acq hf ho aW hc=>
      rcases Nat.eq_zero_or_pos L.length with h0|h0
      ·have:L=[]:=List.length_eq_zero_iff.1 h0
       subst this
       refine⟨w,?_,?_⟩
       ·rw[List.length_nil]
        simp[Builtin.clear_,run_underlying hu]
       ·refine hI.acp ?_
        rw[hv]
        exact .bh _ _ _ gg cap vs cd hm acq hf ho aW hc
      ·obtain⟨zv,yP,nR⟩:=XR hz
       obtain⟨i,zv',hzi,N6,DJ,hzc,ar5⟩:=XX hz
       have BE:zv.oneCell'=true:=(nR w (fun _ _=>False)).vO DJ
       have uJ:zv.cells= #[zv]:=by
        have hh:=yP w
        unfold xR at hz
        rw[hzi]at hz
        simp only at hz
        cases zv<;>first|rfl|simp[Value.oneCell']at BE
       obtain⟨cur,te,o4,mw⟩:=ho.2.2.2.1
       have qP:(Builtin.zeroCells zv.cells L.length).toList =List.replicate L.length zv:=by
        rw[uJ]
        apply List.ext_getElem?
        intro i
        simp only[Builtin.zeroCells,Array.toList_map,List.getElem?_map,Array.getElem?_toList,List.getElem?_replicate]
        by_cases hi:i<L.length
        ·simp[hi,Nat.mod_one]
        ·simp[hi]
       have bc:=run_storeCells_at P gg 0 te (List.replicate L.length zv) 0 cur w o4 (by simp;rw[mw];omega) (fun v jq=>by rw[(List.mem_replicate.1 jq).2];exact BE)
       simp only[Nat.add_zero,Nat.zero_add,List.length_replicate,List.take_zero,List.nil_append]at bc
       refine⟨w.setRow gg (List.replicate L.length zv++cur.toList.drop L.length).toArray,?_,?_⟩
       ·have bg:L.length≠0:=by omega
        obtain⟨m,mz⟩:=Nat.exists_eq_succ_of_ne_zero bg
        have acr:=qP
        rw[mz]at acr bc ⊢
        simp only[Builtin.clear_,List.getElem?_toArray,List.getElem?_cons_zero,Sem.run_bind,run_underlying hu,Result.andThen_ok,yP,acr,bc,Sem.run_pure]
       ·have:=hI.ai5 (t:=t) (s:=1) (n:=0) (L:=L) (L':=L.map fun _=>z) (gg:=gg) (cap:=cap) Jy ho o4 (jv:=(List.replicate L.length zv++cur.toList.drop L.length).toArray) (by simp;omega) (fun w' St h1 h2 h3=>?_)
        ·exact this
        ·rw[hv]
         have j8:∀i,i<L.length→(List.replicate L.length zv++cur.toList.drop L.length).toArray[i]? =some zv:=fun i hi=>by
          simp only[List.getElem?_toArray]
          rw[List.getElem?_append_left (by simpa using hi)]
          simp[hi]
         have hlen:(L.map fun _=>z).length =L.length:=by simp
         rw[←hlen]
         refine .bh _ 1 _ gg cap (fun _=>zv) (by simpa using cd) hm (fun x hx=>?_) (fun x hx c g8=>?_) h2 (fun o cg=>?_) (fun i x j c hx jB=>?_)
         ·obtain⟨_,_,rfl⟩:=List.mem_map.1 hx
          rw[D.vL DJ];rfl
         ·obtain⟨_,_,rfl⟩:=List.mem_map.1 hx
          rw[D.vL DJ]at g8
          simp at g8;subst g8;exact DJ
         ·have qW:o<L.length:=by simpa using cg
          rw[show o=0+o by omega,cell_of_row w' gg (0+o) _ te (0,0) h1]
          rw[Nat.zero_add]
          exact j8 o qW
         ·obtain⟨z',_,je⟩:=List.mem_map.1 (List.mem_of_getElem? hx)
          subst je
          rw[D.vL DJ]at jB
          cases j with
          |zero=>simp at jB;subst jB;exact nR _ _
          |succ j=>simp at jB
    ·cases hy
   ·cases hy
  ·cases hy
 ·cases hy
inductive vQ(P:Program):Spec→List Oper→Prop
 |At (t d:Nat) (ty:TypeId) (o1 o2:Oper) (c:Call) (h1:o1.op=.move (.tmp t)) (d1:o1.dst=some d) (g1:o1.guard=none) (h2:o2.op=.call c) (d2:o2.dst=none) (g2:o2.guard=none) (hc:c.callee=.builtin .clear) (ha:c.args.toList=[.tmp d]) (ht:c.argTypes.toList=[ty]) (bg:t≠d):
   vQ P (.At t d ty) [o1,o2]
 |cut (t d1 d2:Nat) (ty:TypeId) (o1 o2 o3:Oper) (h1:o1.op=.move (.tmp t)) (e1:o1.dst=some d1) (g1:o1.guard=none) (h2:o2.op=.slice ty (.tmp d1) none (some (.const (.int .i64 0))) none) (e2:o2.dst=some d2) (g2:o2.guard=none)
   (h3:o3.op=.assign (.tmp d2)) (e3:o3.dst=some t) (g3:o3.guard=none) (n1:t≠d1) (n2:t≠d2) (n3:d1≠d2):vQ P (.cut t d1 d2 ty) [o1,o2,o3]
 |zV (t d:Nat) (f:FuncId) (u:Nat) (o1 o2:Oper) (c:Call) (h1:o1.op=.move (.tmp t)) (d1:o1.dst=some d) (g1:o1.guard=none) (h2:o2.op=.call c) (d2:o2.dst=some u) (g2:o2.guard=none) (hc:c.callee=.value (.func f)) (ha:c.args.toList=[.tmp d]) (h0:arity P o2.type=0)
   (n1:t≠d) (n2:u≠d) (n3:u≠t):vQ P (.zV t d f u) [o1,o2]
 |zI (t d t2 e2:Nat) (f:FuncId) (u:Nat) (o1 o2 o3:Oper) (c:Call) (h1:o1.op=.move (.tmp t)) (d1:o1.dst=some d) (g1:o1.guard=none) (h2:o2.op=.move (.tmp t2)) (d2:o2.dst=some e2) (g2:o2.guard=none) (h3:o3.op=.call c) (d3:o3.dst=some u) (g3:o3.guard=none) (hc:c.callee=.value (.func f)) (ha:c.args.toList=[.tmp d,.tmp e2]) (h0:arity P o3.type=0)
   (n1:t≠d) (n2:u≠d) (n3:u≠t) (n4:e2≠d) (n5:e2≠t) (n6:t2≠d):vQ P (.zI t d t2 e2 f u) [o1,o2,o3]
 |push (t u d1 d2 d3 d4:Nat) (ty:TypeId) (o1 o2 o3 o4 o5:Oper) (h1:uU o1=some (t,d1)) (h2:uU o2=some (u,d2)) (h3:Nb o3=some (ty,d2,d3)) (h4:Nc o4=some (ty,d1,d3,d4)) (h5:Na o5=some (d4,t))
   (q1:∀d∈[u,d1,d2,d3,d4],t≠d) (q2:∀d∈[d1,d2,d3,d4],u≠d) (q3:∀d∈[d2,d3,d4],d1≠d) (q4:∀d∈[d3,d4],d2≠d) (q5:∀d∈[d4],d3≠d):vQ P (.push t u d1 d2 d3 d4 ty) [o1,o2,o3,o4,o5]
 |uT (t i j d1 d2 d3 d4 d5 d6:Nat) (qM nM qN:TypeId) (b:Bool) (o1 o2 o3 o4 o5 o6 o7:Oper) (h1:uU o1=some (t,d1)) (h2:uU o2=some (i,d2)) (h3:Fy o3=some (qM,d1,d2,d3)) (h4:Nd o4=some (nM,d3,d4)) (h5:uU o5=some (j,d5)) (h6:Fy o6=some (nM,d4,d5,d6)) (h7:Ng o7=some (qN,d6,b))
   (q1:∀d∈[d1,d2,d3,d4,d5,d6],t≠d) (q2:∀d∈[d1,d2,d3,d4,d5,d6],i≠d) (q3:∀d∈[d1,d2,d3,d4,d5,d6],j≠d) (q4:∀d∈[d2,d3,d4,d5,d6],d1≠d) (q5:∀d∈[d3,d4,d5,d6],d2≠d) (q6:∀d∈[d4,d5,d6],d3≠d) (q7:∀d∈[d5,d6],d4≠d) (q8:∀d∈[d6],d5≠d):
   vQ P (.uT t i j d1 d2 d3 d4 d5 d6 qM nM qN b) [o1,o2,o3,o4,o5,o6,o7]
theorem ti{t:Nat}{l:List Nat}(h:distinct t l=true):∀d∈l,t≠d:=fun d hd=>by
 have:=List.all_eq_true.1 h d hd
 simp only[Bool.not_eq_true']at this
 exact Nat.ne_of_beq_eq_false this
theorem xv{o:Oper}{t d:Nat}(h:uU o=some (t,d)):o.op=.move (.tmp t)∧o.dst=some d∧o.guard=none:=by
 unfold uU at h
 split at h
 ·rename_i h1 h2 h3;cases h;exact⟨h1,h2,h3⟩
 ·cases h
theorem X7{o:Oper}{t d:Nat}(h:Na o=some (t,d)):o.op=.assign (.tmp t)∧o.dst=some d∧o.guard=none:=by
 unfold Na at h
 split at h
 ·rename_i h1 h2 h3;cases h;exact⟨h1,h2,h3⟩
 ·cases h
theorem X8{o:Oper}{ty t d:Nat}(h:Nb o=some (ty,t,d)):o.op=.buildSlice ty 1 #[(0,.tmp t)]∧o.dst=some d∧o.guard=none:=by
 unfold Nb at h
 split at h
 ·rename_i oB n ps d' h1 h2 h3
  split at h
  ·rename_i t' hp
   cases h
   have:ps= #[(0,.tmp t)]:=Array.ext' (by rw[hp])
   subst this
   exact⟨h1,h2,h3⟩
  ·cases h
 ·cases h
theorem X9{o:Oper}{ty x y d:Nat}(h:Nc o=some (ty,x,y,d)):∃c,o.op=.call c∧c.callee=.builtin .append ∧c.args= #[.tmp x,.tmp y]∧c.argTypes= #[ty,ty]∧o.dst=some d∧o.guard=none:=by
 unfold Nc at h
 split at h
 ·rename_i c d' h1 h2 h3
  split at h
  ·rename_i x' y' t u k1 k2 k3
   cases hb:Nat.beq t u with
   |false=>rw[hb]at h;cases h
   |true=>
    rw[hb]at h
    have hb:=Nat.eq_of_beq_eq_true hb
    subst hb
    cases h
    exact⟨c,h1,k1,Array.ext' (by rw[k2]),Array.ext' (by rw[k3]),h2,h3⟩
  ·cases h
 ·cases h
theorem K9{o:Oper}{ty x i d:Nat}(h:Fy o=some (ty,x,i,d)):o.op=.indexAddr ty (.tmp x) (.tmp i)∧o.dst=some d∧o.guard=none:=by
 unfold Fy at h
 split at h
 ·rename_i h1 h2 h3;cases h;exact⟨h1,h2,h3⟩
 ·cases h
theorem Ya{o:Oper}{ty x d:Nat}(h:Nd o=some (ty,x,d)):o.op=.load ty (.tmp x)∧o.dst=some d∧o.guard=none:=by
 unfold Nd at h
 split at h
 ·rename_i h1 h2 h3;cases h;exact⟨h1,h2,h3⟩
 ·cases h
theorem Yb{o:Oper}{ty x:Nat}{b:Bool}(h:Ng o=some (ty,x,b)):o.op=.store ty (.tmp x) (.const (.bool b))∧o.dst=none∧o.guard=none:=by
 unfold Ng at h
 split at h
 ·rename_i h1 h2 h3;cases h;exact⟨h1,h2,h3⟩
 ·cases h
theorem YW{α:Type}{b:Bool}{x y:α}(h:(bif b then some x else none)=some y):b=true∧x=y:=by
 cases b
 ·cases h
 ·exact⟨rfl,Option.some.inj h⟩
theorem afg{o1 o2 o3 o4 o5:Oper}{s:Spec}(h:Sc o1 o2 o3 o4 o5=some s):vQ P s [o1,o2,o3,o4,o5]:=by
 unfold Sc at h
 split at h
 ·rename_i t d1 u d2 ty x2 d3 oB x1 x3 d4 x4 t' h1 h2 h3 h4 h5
  obtain⟨hb,hs⟩:=YW h
  subst hs
  simp only[Bool.and_eq_true]at hb
  obtain⟨⟨⟨⟨⟨⟨⟨⟨⟨⟨b1,b2⟩,b3⟩,b4⟩,b5⟩,b6⟩,b7⟩,b8⟩,b9⟩,Uo⟩,Up⟩:=hb
  have e1:=Nat.eq_of_beq_eq_true b1
  have e2:=Nat.eq_of_beq_eq_true b2
  have e3:=Nat.eq_of_beq_eq_true b3
  have e4:=Nat.eq_of_beq_eq_true b4
  have e5:=Nat.eq_of_beq_eq_true b5
  have e6:=Nat.eq_of_beq_eq_true b6
  subst e1 e2 e3 e4 e5 e6
  exact .push _ _ _ _ _ _ _ _ _ _ _ _ h1 h2 h3 h4 h5 (ti b7) (ti b8) (ti b9) (ti Uo) (ti Up)
 ·cases h
theorem afh{o1 o2 o3 o4 o5 o6 o7:Oper}{s:Spec}(h:Sd o1 o2 o3 o4 o5 o6 o7=some s):vQ P s [o1,o2,o3,o4,o5,o6,o7]:=by
 unfold Sd at h
 split at h
 ·rename_i t d1 i d2 qM x1 x2 d3 nM x3 d4 j d5 acg x4 x5 d6 qN x6 b h1 h2 h3 h4 h5 h6 h7
  obtain⟨hb,hs⟩:=YW h
  subst hs
  simp only[Bool.and_eq_true]at hb
  obtain⟨⟨⟨⟨⟨⟨⟨⟨⟨⟨⟨⟨⟨⟨b1,b2⟩,b3⟩,b4⟩,b5⟩,b6⟩,b7⟩,b8⟩,b9⟩,Uo⟩,Up⟩,b12⟩,b13⟩,b14⟩,b15⟩:=hb
  have e1:=Nat.eq_of_beq_eq_true b1
  have e2:=Nat.eq_of_beq_eq_true b2
  have e3:=Nat.eq_of_beq_eq_true b3
  have e4:=Nat.eq_of_beq_eq_true b4
  have e5:=Nat.eq_of_beq_eq_true b5
  have e6:=Nat.eq_of_beq_eq_true b6
  have e7:=Nat.eq_of_beq_eq_true b7
  subst e1 e2 e3 e4 e5 e6 e7
  exact .uT _ _ _ _ _ _ _ _ _ _ _ _ _ _ _ _ _ _ _ _ h1 h2 h3 h4 h5 h6 h7 (ti b8) (ti b9) (ti Uo) (ti Up) (ti b12) (ti b13) (ti b14) (ti b15)
 ·cases h
theorem PG{pu draw:Bool}{ops:List Oper}{s:Spec}(h:zy P pu draw ops=some s):draw=false∧vQ P s ops:=by
 unfold zy at h
 cases draw with
 |true=>cases h
 |false=>
  refine⟨rfl,?_⟩
  simp only[cond_false]at h
  split at h
  ·rename_i o1 o2
   split at h
   ·rename_i t d c h1 e1 g1 h2 e2 g2
    split at h
    ·rename_i d' ty hc ha ht
     cases hb:(Nat.beq d d'&& !(Nat.beq t d))with
     |false=>rw[hb]at h;cases h
     |true=>
      rw[hb]at h
      cases h
      simp only[Bool.and_eq_true,Bool.not_eq_true']at hb
      have hd:=Nat.eq_of_beq_eq_true hb.1
      subst hd
      exact .At t d ty o1 o2 c h1 e1 g1 h2 e2 g2 hc ha ht (Nat.ne_of_beq_eq_false hb.2)
    ·cases h
   ·rename_i t d c u h1 e1 g1 h2 e2 g2
    split at h
    ·rename_i f d' hc ha
     cases hb:(Nat.beq (arity P o2.type) 0&&(Nat.beq d d'&& !(Nat.beq t d)&& !(Nat.beq u d)&& !(Nat.beq u t)))with
     |false=>rw[hb]at h;cases h
     |true=>
      rw[hb]at h
      cases h
      simp only[Bool.and_eq_true,Bool.not_eq_true']at hb
      obtain⟨b0,⟨⟨b1,b2⟩,b3⟩,b4⟩:=hb
      have hd:=Nat.eq_of_beq_eq_true b1
      subst hd
      exact .zV t d f u o1 o2 c h1 e1 g1 h2 e2 g2 hc ha (Nat.eq_of_beq_eq_true b0) (Nat.ne_of_beq_eq_false b2) (Nat.ne_of_beq_eq_false b3) (Nat.ne_of_beq_eq_false b4)
    ·cases h
   ·cases h
  ·rename_i o1 o2 o3
   split at h
   ·rename_i t d1 ty TX d2 DF t' h1 e1 g1 h2 e2 g2 h3 e3 g3
    cases hb:(Nat.beq d1 TX&&Nat.beq d2 DF&&Nat.beq t t'&& !(Nat.beq t d1)&& !(Nat.beq t d2)&& !(Nat.beq d1 d2))with
    |false=>rw[hb]at h;cases h
    |true=>
     rw[hb]at h
     cases h
     simp only[Bool.and_eq_true,Bool.not_eq_true']at hb
     obtain⟨⟨⟨⟨⟨b1,b2⟩,b3⟩,b4⟩,b5⟩,b6⟩:=hb
     have AG:=Nat.eq_of_beq_eq_true b1
     have AH:=Nat.eq_of_beq_eq_true b2
     have hd3:=Nat.eq_of_beq_eq_true b3
     subst AG AH hd3
     exact .cut t d1 d2 ty o1 o2 o3 h1 e1 g1 h2 e2 g2 h3 e3 g3 (Nat.ne_of_beq_eq_false b4) (Nat.ne_of_beq_eq_false b5) (Nat.ne_of_beq_eq_false b6)
   ·rename_i t d t2 d2 c u h1 e1 g1 h2 e2 g2 h3 e3 g3
    split at h
    ·rename_i f d' DF hc ha
     cases hb:(Nat.beq (arity P o3.type) 0&&(Nat.beq d d'&&Nat.beq d2 DF&& !(Nat.beq t d)&& !(Nat.beq u d)&& !(Nat.beq u t)&& !(Nat.beq d2 d)&& !(Nat.beq d2 t)&& !(Nat.beq t2 d)))with
     |false=>rw[hb]at h;cases h
     |true=>
      rw[hb]at h
      cases h
      simp only[Bool.and_eq_true,Bool.not_eq_true']at hb
      obtain⟨b0,⟨⟨⟨⟨⟨⟨b1,b1'⟩,b2⟩,b3⟩,b4⟩,b5⟩,b6⟩,b7⟩:=hb
      have hd:=Nat.eq_of_beq_eq_true b1
      have lb:=Nat.eq_of_beq_eq_true b1'
      subst hd lb
      exact .zI t d t2 d2 f u o1 o2 o3 c h1 e1 g1 h2 e2 g2 h3 e3 g3 hc ha (Nat.eq_of_beq_eq_true b0) (Nat.ne_of_beq_eq_false b2) (Nat.ne_of_beq_eq_false b3) (Nat.ne_of_beq_eq_false b4) (Nat.ne_of_beq_eq_false b5) (Nat.ne_of_beq_eq_false b6) (Nat.ne_of_beq_eq_false b7)
    ·cases h
   ·cases h
  ·cases pu with
   |true=>exact afg h
   |false=>cases h
  ·cases pu with
   |true=>exact afh h
   |false=>cases h
  ·cases h
theorem qt{a:Act}{d:Nat}{v:Value}(h:d<a.tmps.size):(a.put (some d) v).eval (.tmp d)=v:=by
 show(a.put (some d) v).tmps.getD d undef=v
 rw[Qy a (some d) v d h,if_pos rfl]
theorem n8{b:Bool}{A:Prop}(h:cond b A False):b=true∧A:=by cases b;exact h.elim;exact⟨rfl,h⟩
theorem ai6{St:Nat→Nat→Prop}{base:Nat}{O:Nat→Nat→Nat→Prop}{ty:TypeId}{x y:SV}{v:Value}(hr:aR w St base O x v)(hy:zX P ty x=some y):
  ∃v2,(Instr.sliceAt ty v none (some (.int .i64 0)) none).run P w=.ok v2 w∧aR w St base O y v2:=by
 unfold zX at hy
 split at hy
 ·rename_i e' he
  have hu:=Ba he
  split at hy
  ·rename_i sz aN
   split at hy
   ·rename_i s L
    cases hy
    obtain⟨hv,hL⟩:=hr.data.ZP
    subst hv
    refine⟨.slice none 0 0,?_,.d _ _ _ (.jk _)⟩
    simp[Instr.sliceAt,run_underlying hu,Instr.slice,Instr.sliceBounds,Instr.sliceBound,asIntOf,kP aN]
   ·rename_i s L
    split at hy
    ·rename_i hs
     subst hs
     cases hy
     cases hr with
     |bh _ _ _ gg cap vs cd hm acq hf ho aW hc=>
      refine⟨.slice (some ⟨gg,0,none⟩) 0 cap,?_,?_⟩
      ·have:=qq gg 0 0
       simp[Instr.sliceAt,run_underlying hu,Instr.slice,Instr.sliceBounds,Instr.sliceBound,asIntOf,kP aN,this]
      ·exact .bh O s [] gg cap vs (Nat.zero_le _) hm (fun x hx=>by cases hx) (fun x hx=>by cases hx) ho (fun o cg=>by simp at cg) (fun i x j c hx=>by simp at hx)
    ·cases hy
   ·cases hy
  ·cases hy
 ·cases hy
theorem QJ(hI:Inv gl w0 au e a w g){t d:Nat}:Inv gl w0 au ⟨(e.ak.set t (e.ak.getD t (.v .undef)).aa).set d (e.ak.getD t (.v .undef)),e.boxes⟩ (a.put (some d) (a.tmps.getD t undef)) w (g.oI t (fun j=>.s d j)):=by
 have:=hI.hand (Qb e t (some d)) (Ext.oI t (fun j=>.s d j) _ (fun j=>⟨t,j,rfl,.inl rfl⟩)) (Below.refl _ _) (s:=e.ak.getD t (.v .undef)) (v:=a.tmps.getD t undef) (dst:=some d) (g':=g.oI t (fun j=>.s d j)) (fun d' hd=>?_) rfl (fun _ _=>rfl) (fun b o' bc=>hI.dj b o' bc)
 ·exact this
 ·cases hd
  exact(kQ hI t).mono (fun _ _ h=>⟨h,.refl _ _ _⟩) (fun _ _ _=>rfl) (fun _ _ h=>h) (.refl _) (fun j b a' c ho=>⟨Rb (q:=fun j=>.s d j) ho,.refl _ _ _⟩)
theorem ahr{a:Act}{t:Nat}{v:Value}(h:v=a.tmps.getD t undef):a.put (some t) v=a:=by
 subst h
 simp only[Act.put]
 have:a.tmps.setIfInBounds t (a.tmps.getD t undef)=a.tmps:=by
  apply Array.ext_getElem?
  intro i
  rw[Array.getElem?_setIfInBounds]
  split
  ·rename_i h
   subst h
   split
   ·rename_i hl;simp[hl]
   ·rename_i hl;simp[Array.getElem?_eq_none (by omega:a.tmps.size≤t)]
  ·rfl
 rw[this]
theorem YX(hI:Inv gl w0 au e a w g){t d:Nat}{bk:SV}(hd:e.ak.getD d (.v .undef)=.v bk)(he:a.tmps.getD d undef=a.tmps.getD t undef):
  Inv gl w0 au ⟨(e.ak.set d (.v (Ab.aa bk))).set t (.v bk),e.boxes⟩ a w (g.oI d (fun j=>.s t j)):=by
 have h1:=QJ hI (t:=d) (d:=t)
 rw[hd,ahr he]at h1
 exact h1
theorem YY(hI:Inv gl w0 au e a w g){ops:List Oper}{s:Spec}{K:Env→Prop}(hs:vQ P s ops)(h:ig P (aF P gl) e K s):iN P ops a w (fun a' w'=>∃e' g',Inv gl w0 au e' a' w' g'∧K e'):=by
 cases hs with
 |At t d ty o1 o2 c h1 d1 g1 h2 d2 g2 hc ha ht bg=>
  simp only[ig]at h
  split at h
  ·rename_i x hx
   obtain⟨aP,h⟩:=n8 h
   have aP:=Nat.lt_of_succ_le (Nat.le_of_ble_eq_true aP)
   obtain⟨y,hy,hk⟩:=aQ h
   let v:=a.tmps.getD t undef
   have dD:Inv gl w0 au ⟨e.ak.set d (.v .undef),e.boxes⟩ (a.put (some d) v) w g:=by
    have:=hI.value (dst:=some d) (s:=.v .undef) (v:=v) (.v _ _ _ (.undef _ _))
    exact this
   have jD:(e.ak.set d (.v .undef)).getD t (.v .undef)=.v x:=by
    rw[List.getD_eq_getElem?_getD,List.getElem?_set_ne (fun hh=>bg hh.symm),←List.getD_eq_getElem?_getD];exact hx
   obtain⟨w',bC,cF⟩:=age (P:=P) dD jD hy o2.type
   have pv:(a.put (some d) v).tmps.getD t undef=v:=jW bg
   rw[pv]at bC
   have hdv:(a.put (some d) v).tmps.getD d undef=v:=by
    exact qt (by rw[hI.size];exact aP)
   refine iN.val (v:=v) (w1:=w) g1 (fun c hc=>by rw[h1]at hc;cases hc) hI.defers (by simp[execOp,h1,Act.eval,v]) (iN.val (v:=.tuple #[]) (w1:=w') g2 (fun c hc=>by rw[h2]at hc;cases hc) (by rw[d1];exact dD.defers) ?_ ⟨_,g,?_,hk⟩)
   ·rw[d1]
    have e1:c.args.map (a.put (some d) v).eval = #[v]:=by
     apply Array.ext'
     rw[Array.toList_map,ha]
     show [(a.put (some d) v).tmps.getD d undef]=_
     rw[hdv]
    have e2:c.argTypes= #[ty]:=by apply Array.ext';rw[ht]
    simp[execOp,h2,resolve,hc,invoke,builtin,e1,e2,bC]
   ·rw[d1,d2]
    exact cF
  ·exact h.elim
 |cut t d1 d2 ty o1 o2 o3 h1 e1 g1 h2 e2 g2 h3 e3 g3 n1 n2 n3=>
  simp only[ig]at h
  split at h
  ·rename_i x hx
   obtain⟨aP,h⟩:=n8 h
   simp only[Bool.and_eq_true]at aP
   have Nl:=Nat.le_of_ble_eq_true aP.1
   have IL:=Nat.le_of_ble_eq_true aP.2
   obtain⟨y,hy,hk⟩:=aQ h
   let v:=a.tmps.getD t undef
   have hr:aR w g.St w0.heap.size (gp w0.heap.size w g t 0) x v:=by
    have:=kQ hI t
    rw[hx]at this
    exact this.kz
   obtain⟨v2,bC,bG⟩:=ai6 (P:=P) hr hy
   have dD:Inv gl w0 au ⟨e.ak.set d1 (.v .undef),e.boxes⟩ (a.put (some d1) v) w g:=hI.value (dst:=some d1) (s:=.v .undef) (v:=v) (.v _ _ _ (.undef _ _))
   have cF:Inv gl w0 au ⟨(e.ak.set d1 (.v .undef)).set d2 (.v .undef),e.boxes⟩ ((a.put (some d1) v).put (some d2) v2) w g:=dD.value (dst:=some d2) (s:=.v .undef) (v:=v2) (.v _ _ _ (.undef _ _))
   have gK:Inv gl w0 au ⟨((e.ak.set d1 (.v .undef)).set d2 (.v .undef)).set t (.v y),e.boxes⟩ (((a.put (some d1) v).put (some d2) v2).put (some t) v2) w g:=by
    have:=cF.stepG (dst:=some t) (s:=.v y) (v:=v2) (w':=w) (g':=g) (lost:=fun _=>False) (ak:=(e.ak.set d1 (.v .undef)).set d2 (.v .undef)) (aG:=e.boxes) (Ext.refl _ _ _) (Below.refl _ _) rfl (fun i x hx _=>cF.ak i x hx) (fun d hd=>by cases hd;exact .v _ _ _ bG) cF.gq cF.boxes cF.nodup cF.dP cF.dj
    exact this
   refine iN.val (v:=v) (w1:=w) g1 (fun c hc=>by rw[h1]at hc;cases hc) hI.defers (by simp[execOp,h1,Act.eval,v]) (iN.val (v:=v2) (w1:=w) g2 (fun c hc=>by rw[h2]at hc;cases hc) (by rw[e1];exact dD.defers) ?_ (iN.val (v:=v2) (w1:=w) g3 (fun c hc=>by rw[h3]at hc;cases hc) (by rw[e1,e2];exact cF.defers) ?_ ⟨_,g,?_,hk⟩))
   ·rw[e1]
    have:(a.put (some d1) v).eval (.tmp d1)=v:=qt (by rw[hI.size];exact Nl)
    simp only[execOp,h2,this,Option.map_some,Option.map_none]
    have hz:(a.put (some d1) v).eval (.const (.int .i64 0))=.int .i64 0:=rfl
    rw[hz]
    simp[bC]
   ·rw[e1,e2]
    have:((a.put (some d1) v).put (some d2) v2).eval (.tmp d2)=v2:=qt (by rw[tn,hI.size];exact IL)
    simp[execOp,h3,this]
   ·rw[e1,e2,e3];exact gK
  ·exact h.elim
 |zV t d f u o1 o2 c h1 d1 g1 h2 d2 g2 hc ha h0 n1 n2 n3=>
  simp only[ig]at h
  split at h
  ·rename_i x hx
   obtain⟨aP,bk,hC,ve,hk⟩:=n8 h
   have aP:=Nat.lt_of_succ_le (Nat.le_of_ble_eq_true aP)
   let v:=a.tmps.getD t undef
   have dD:Inv gl w0 au ⟨(e.ak.set t (.v (Ab.aa x))).set d (.v x),e.boxes⟩ (a.put (some d) v) w (g.oI t (fun j=>.s d j)):=by
    have:=QJ hI (t:=t) (d:=d)
    rw[hx]at this
    exact this
   refine iN.val (v:=v) (w1:=w) g1 (fun c hc=>by rw[h1]at hc;cases hc) hI.defers (by simp[execOp,h1,Act.eval,v]) ⟨g2,(fun c hc=>by rw[h2]at hc;cases hc),fun next Q hn=>?_⟩
   rw[d1]at hn ⊢
   have DR:((e.ak.set t (.v (Ab.aa x))).set d (.v x)).getD d (.v .undef)=.v x:=by
    rw[List.getD_eq_getElem?_getD,List.getElem?_set_self (by simpa using aP)];rfl
   refine Qa dD h2 hc (t:=d) (p:=0) (by rw[ha];rfl) (f':=f) rfl (y:=x) DR (n:=0) (k:=fun e'=>e'=⟨de (((e.ak.set t (.v (Ab.aa x))).set d (.v x)).set d (.v bk)) o2.dst (.t []),e.boxes⟩) ⟨bk,?_,ve,rfl⟩ next Q fun e' v' w' g' bD N8=>?_
   ·rw[ha];exact hC
   ·subst N8
    refine hn v' w' (by rw[put_defers];exact dD.defers) ⟨_,_,YX bD (t:=t) (d:=d) (bk:=bk) ?_ ?_,?_⟩
    ·rw[d2]
     show((((e.ak.set t (.v (Ab.aa x))).set d (.v x)).set d (.v bk)).set u (.t [])).getD d (.v .undef)=.v bk
     rw[dB n2,List.getD_eq_getElem?_getD,List.getElem?_set_self (by simpa using aP)];rfl
    ·rw[d2,jW (fun hh=>n2 hh.symm),jW (fun hh=>n3 hh.symm),jW n1]
     exact qt (by rw[hI.size];exact aP)
    ·rw[d2];exact hk
  ·exact h.elim
 |zI t d t2 e2 f u o1 o2 o3 c h1 d1 g1 h2 d2 g2 h3 d3 g3 hc ha h0 n1 n2 n3 n4 n5 n6=>
  simp only[ig]at h
  split at h
  ·rename_i x hx
   obtain⟨aP,bk,hC,ve,hk⟩:=n8 h
   simp only[Bool.and_eq_true,Bool.not_eq_true']at aP
   obtain⟨⟨aP,IL⟩,n7⟩:=aP
   have aP:=Nat.lt_of_succ_le (Nat.le_of_ble_eq_true aP)
   have IL:=Nat.lt_of_succ_le (Nat.le_of_ble_eq_true IL)
   have n7:=Nat.ne_of_beq_eq_false n7
   let v:=a.tmps.getD t undef
   have dD:Inv gl w0 au ⟨(e.ak.set t (.v (Ab.aa x))).set d (.v x),e.boxes⟩ (a.put (some d) v) w (g.oI t (fun j=>.s d j)):=by
    have:=QJ hI (t:=t) (d:=d)
    rw[hx]at this
    exact this
   have ka:((e.ak.set t (.v (Ab.aa x))).set d (.v x)).getD t2 (.v .undef)=e.ak.getD t2 (.v .undef):=by
    rw[dB (fun hh=>n6 hh.symm),dB (fun hh=>n7 hh.symm)]
   have cF:Inv gl w0 au ⟨((e.ak.set t (.v (Ab.aa x))).set d (.v x)).set e2 (e.ak.getD t2 (.v .undef)).aa,e.boxes⟩ ((a.put (some d) v).put (some e2) ((a.put (some d) v).eval (.tmp t2))) w (g.oI t (fun j=>.s d j)):=by
    have hr:=(kQ dD t2).aa (O':=fun _ _ _ _=>False)
    have:=dD.value (dst:=some e2) hr
    rw[ka]at this
    exact this
   refine iN.val (v:=v) (w1:=w) g1 (fun c hc=>by rw[h1]at hc;cases hc) hI.defers (by simp[execOp,h1,Act.eval,v]) (iN.val (v:=(a.put (some d) v).eval (.tmp t2)) (w1:=w) g2 (fun c hc=>by rw[h2]at hc;cases hc) (by rw[d1];exact dD.defers) (by rw[d1];simp[execOp,h2]) ⟨g3,(fun c hc=>by rw[h3]at hc;cases hc),fun next Q hn=>?_⟩)
   rw[d1,d2]at hn ⊢
   have DR:(((e.ak.set t (.v (Ab.aa x))).set d (.v x)).set e2 (e.ak.getD t2 (.v .undef)).aa).getD d (.v .undef)=.v x:=by
    rw[dB n4,List.getD_eq_getElem?_getD,List.getElem?_set_self (by simpa using aP)];rfl
   have Gl:(((e.ak.set t (.v (Ab.aa x))).set d (.v x)).set e2 (e.ak.getD t2 (.v .undef)).aa).getD e2 (.v .undef)=(e.ak.getD t2 (.v .undef)).aa :=by
    rw[List.getD_eq_getElem?_getD,List.getElem?_set_self (by simpa using IL)];rfl
   refine Qa cF h3 hc (t:=d) (p:=0) (by rw[ha];rfl) (f':=f) rfl (y:=x) DR (n:=0) (k:=fun e'=>e'=⟨de ((((e.ak.set t (.v (Ab.aa x))).set d (.v x)).set e2 (e.ak.getD t2 (.v .undef)).aa).set d (.v bk)) o3.dst (.t []),e.boxes⟩) ⟨bk,?_,ve,rfl⟩ next Q fun e' v' w' g' bD N8=>?_
   ·rw[ha]
    have:∀s:Slot,s.aa.aa=s.aa:=fun s=>by cases s<;>simp[Slot.aa,ahq]
    simp only[kq,Ab.bA,Gl,this,List.set_cons_zero]
    exact hC
   ·subst N8
    refine hn v' w' (by rw[put_defers];exact cF.defers) ⟨_,_,YX bD (t:=t) (d:=d) (bk:=bk) ?_ ?_,?_⟩
    ·rw[d3]
     show(((((e.ak.set t (.v (Ab.aa x))).set d (.v x)).set e2 (e.ak.getD t2 (.v .undef)).aa).set d (.v bk)).set u (.t [])).getD d (.v .undef)=.v bk
     rw[dB n2,List.getD_eq_getElem?_getD,List.getElem?_set_self (by simpa using aP)];rfl
    ·rw[d3,jW (fun hh=>n2 hh.symm),jW (fun hh=>n3 hh.symm),jW (fun hh=>n4 hh.symm),jW (fun hh=>n5 hh.symm),jW n1]
     exact qt (by rw[hI.size];exact aP)
    ·rw[d3];exact hk
  ·exact h.elim
 |push t u d1 d2 d3 d4 ty o1 o2 o3 o4 o5 h1 h2 h3 h4 h5 q1 q2 q3 q4 q5=>
  simp only[ig]at h
  split at h
  ·rename_i x y hx hy
   obtain⟨aP,h⟩:=n8 h
   obtain⟨n,hn,h⟩:=aQ h
   unfold BD at h
   obtain⟨r,hr,hb,Ck,hk⟩:=aQ h
   have mR:∀d∈[d1,d2,d3,d4],d<a.tmps.size:=fun d hd=>by
    rw[hI.size];exact Nat.lt_of_succ_le (Nat.le_of_ble_eq_true (List.all_eq_true.1 aP d hd))
   simp only[List.forall_mem_cons,List.not_mem_nil,false_implies,implies_true,and_true]at q1 q2 q3 q4 q5 mR
   obtain⟨m1,m2,m3⟩:=xv h1
   obtain⟨m4,m5,m6⟩:=xv h2
   obtain⟨m7,m8,m9⟩:=X8 h3
   obtain⟨c,DS,Gm,JJ,Gn,DT,JK⟩:=X9 h4
   obtain⟨DU,DV,JL⟩:=X7 h5
   obtain⟨w1,apc,v4,w2,apd,fin⟩:=ahp (P:=P) hI q1.1 hx hy hr hn hb Ck o4.type
   have I1:Inv gl w0 au ⟨e.ak.set d1 (.v .undef),e.boxes⟩ (a.put (some d1) (a.tmps.getD t undef)) w g:=hI.value (dst:=some d1) (s:=.v .undef) (v:=a.tmps.getD t undef) (.v _ _ _ (.undef _ _))
   generalize AI:a.tmps.getD t undef=v1 at*
   generalize yW:a.tmps.getD u undef=v2 at*
   have E1:(a.put (some d1) v1).tmps.getD u undef=v2:=by rw[jW q2.1,yW]
   have F1:(a.put (some d1) v1).tmps.getD d1 undef=v1:=qt mR.1
   have S1:(a.put (some d1) v1).tmps.size =a.tmps.size:=tn _ _ _
   generalize Uq:a.put (some d1) v1=a1 at*
   have I2:Inv gl w0 au ⟨(e.ak.set d1 (.v .undef)).set d2 (.v .undef),e.boxes⟩ (a1.put (some d2) v2) w g:=I1.value (dst:=some d2) (s:=.v .undef) (v:=v2) (.v _ _ _ (.undef _ _))
   have E2:(a1.put (some d2) v2).tmps.getD d2 undef=v2:=qt (by rw[S1];exact mR.2.1)
   have F2:(a1.put (some d2) v2).tmps.getD d1 undef=v1:=by rw[jW q3.1,F1]
   have S2:(a1.put (some d2) v2).tmps.size =a.tmps.size:=(tn _ _ _).trans S1
   generalize Ur:a1.put (some d2) v2=a2 at*
   generalize hv3:Value.slice (some ⟨w.heap.size,0,none⟩) 1 1=v3 at*
   have I3:Inv gl w0 au ⟨((e.ak.set d1 (.v .undef)).set d2 (.v .undef)).set d3 (.v .undef),e.boxes⟩ (a2.put (some d3) v3) w g:=I2.value (dst:=some d3) (s:=.v .undef) (v:=v3) (.v _ _ _ (.undef _ _))
   have E3:(a2.put (some d3) v3).tmps.getD d3 undef=v3:=qt (by rw[S2];exact mR.2.2.1)
   have F3:(a2.put (some d3) v3).tmps.getD d1 undef=v1:=by rw[jW q3.2.1,F2]
   have S3:(a2.put (some d3) v3).tmps.size =a.tmps.size:=(tn _ _ _).trans S2
   generalize hA3:a2.put (some d3) v3=a3 at*
   have I4:Inv gl w0 au ⟨(((e.ak.set d1 (.v .undef)).set d2 (.v .undef)).set d3 (.v .undef)).set d4 (.v .undef),e.boxes⟩ (a3.put (some d4) v4) w g:=I3.value (dst:=some d4) (s:=.v .undef) (v:=v4) (.v _ _ _ (.undef _ _))
   have E4:(a3.put (some d4) v4).tmps.getD d4 undef=v4:=qt (by rw[S3];exact mR.2.2.2)
   generalize hA4:a3.put (some d4) v4=a4 at*
   obtain⟨g2,I5⟩:=fin _ _ I4
   have ev:∀(a:Act)(x:Nat),a.eval (.tmp x)=a.tmps.getD x undef:=fun _ _=>rfl
   refine iN.val (v:=v1) (w1:=w) m3 (fun c hc=>by rw[m1]at hc;cases hc) hI.defers (by simp[execOp,m1,ev,AI]) ?_
   rw[m2,Uq]
   refine iN.val (v:=v2) (w1:=w) m6 (fun c hc=>by rw[m4]at hc;cases hc) I1.defers (by simp[execOp,m4,ev,E1]) ?_
   rw[m5,Ur]
   refine iN.val (v:=v3) (w1:=w1) m9 (fun c hc=>by rw[m7]at hc;cases hc) I2.defers (by simp[execOp,m7,ev,E2,apc]) ?_
   rw[m8,hA3]
   refine iN.val (v:=v4) (w1:=w2) JK (fun c hc=>by rw[DS]at hc;cases hc) I3.defers (by simp[execOp,DS,resolve,Gm,invoke,builtin,JJ,Gn,ev,E3,F3,apd]) ?_
   rw[DT,hA4]
   refine iN.val (v:=v4) (w1:=w2) JL (fun c hc=>by rw[DU]at hc;cases hc) I4.defers (by simp[execOp,DU,ev,E4]) ?_
   rw[DV]
   exact⟨_,g2,I5,hk⟩
  ·exact h.elim
 |uT t i j d1 d2 d3 d4 d5 d6 qM nM qN b o1 o2 o3 o4 o5 o6 o7 h1 h2 h3 h4 h5 h6 h7 q1 q2 q3 q4 q5 q6 q7 q8=>
  simp only[ig]at h
  split at h
  ·rename_i x xi xj hx hxi hxj
   obtain⟨aP,h⟩:=n8 h
   simp only[Bool.and_eq_true]at aP
   obtain⟨eC,aP⟩:=aP
   have mR:∀d∈[d1,d2,d3,d4,d5,d6],d<a.tmps.size:=fun d hd=>by
    rw[hI.size];exact Nat.lt_of_succ_le (Nat.le_of_ble_eq_true (List.all_eq_true.1 aP d hd))
   unfold zJ at h
   obtain⟨LL,rfl⟩:∃LL,x=.nest LL:=by cases x<;>first|exact⟨_,rfl⟩|exact h.elim
   simp only at h
   obtain⟨ii,DN,h⟩:=aQ h
   obtain⟨L,hL,h⟩:=aQ h
   obtain⟨jj,N7,hk⟩:=aQ h
   simp only[List.forall_mem_cons,List.not_mem_nil,false_implies,implies_true,and_true]at q1 q2 q3 q4 q5 q6 q7 q8 mR
   obtain⟨m1,m2,m3⟩:=xv h1
   obtain⟨m4,m5,m6⟩:=xv h2
   obtain⟨m7,m8,m9⟩:=K9 h3
   obtain⟨DS,Gm,JJ⟩:=Ya h4
   obtain⟨Gn,DT,JK⟩:=xv h5
   obtain⟨DU,DV,JL⟩:=K9 h6
   obtain⟨Us,Ut,m21⟩:=Yb h7
   obtain⟨e1,e2,he1,he2,z1,z2,z3,z4⟩:∃e1 e2,nE P qM=some e1∧nE P nM=some e2∧eF P e1=some 1∧lR P nM=some (false,1)∧eF P e2=some 1∧eF P qN=some 1:=by
    unfold aaH at eC
    split at eC
    ·rename_i e1 e2 k1 k2
     split at eC
     ·rename_i k3 k4 k5 k6;exact⟨e1,e2,k1,k2,k3,k4,k5,k6⟩
     ·cases eC
    ·cases eC
   have sO:=Ba he1
   have DW:=Ba he2
   obtain⟨ki,ni,ape,hi1,B9,hi3⟩:=uA DN
   obtain⟨kj,nj,apf,hj1,sN,hj3⟩:=uA N7
   subst ape apf
   have vi:=(He hI hxi).int
   have vj:=(He hI hxj).int
   have lg:jj<L.length:=by omega
   generalize AI:a.tmps.getD t undef=v1 at*
   have ev:∀(a:Act)(x:Nat),a.eval (.tmp x)=a.tmps.getD x undef:=fun _ _=>rfl
   have I1:Inv gl w0 au ⟨e.ak.set d1 (.v .undef),e.boxes⟩ (a.put (some d1) v1) w g:=hI.value (dst:=some d1) (s:=.v .undef) (v:=v1) (.v _ _ _ (.undef _ _))
   have T1:(a.put (some d1) v1).tmps.getD t undef=v1:=by rw[jW q1.1,AI]
   have X1:(a.put (some d1) v1).tmps.getD i undef=.int ki ni:=by rw[jW q2.1,vi]
   have Y1:(a.put (some d1) v1).tmps.getD j undef=.int kj nj:=by rw[jW q3.1,vj]
   have D1:(a.put (some d1) v1).tmps.getD d1 undef=v1:=qt mR.1
   have S1:(a.put (some d1) v1).tmps.size =a.tmps.size:=tn _ _ _
   generalize Uq:a.put (some d1) v1=a1 at*
   have I2:Inv gl w0 au ⟨(e.ak.set d1 (.v .undef)).set d2 (.v .undef),e.boxes⟩ (a1.put (some d2) (.int ki ni)) w g:=I1.value (dst:=some d2) (s:=.v .undef) (v:=.int ki ni) (.v _ _ _ (.undef _ _))
   have T2:(a1.put (some d2) (.int ki ni)).tmps.getD t undef=v1:=by rw[jW q1.2.1,T1]
   have Y2:(a1.put (some d2) (.int ki ni)).tmps.getD j undef=.int kj nj:=by rw[jW q3.2.1,Y1]
   have D2:(a1.put (some d2) (.int ki ni)).tmps.getD d1 undef=v1:=by rw[jW q4.1,D1]
   have E2:(a1.put (some d2) (.int ki ni)).tmps.getD d2 undef=.int ki ni:=qt (by rw[S1];exact mR.2.1)
   have S2:(a1.put (some d2) (.int ki ni)).tmps.size =a.tmps.size:=(tn _ _ _).trans S1
   generalize Ur:a1.put (some d2) (.int ki ni)=a2 at*
   have key:∀(v3 v4 v6:Value),Inv gl w0 au ⟨(((((e.ak.set d1 (.v .undef)).set d2 (.v .undef)).set d3 (.v .undef)).set d4 (.v .undef)).set d5 (.v .undef)).set d6 (.v .undef),e.boxes⟩ ((((a2.put (some d3) v3).put (some d4) v4).put (some d5) (.int kj nj)).put (some d6) v6) w g∧
     ((((a2.put (some d3) v3).put (some d4) v4).put (some d5) (.int kj nj)).put (some d6) v6).tmps.getD t undef=v1:=fun v3 v4 v6=>by
    have I3:=I2.value (dst:=some d3) (s:=.v .undef) (v:=v3) (.v _ _ _ (.undef _ _))
    have I4:=I3.value (dst:=some d4) (s:=.v .undef) (v:=v4) (.v _ _ _ (.undef _ _))
    have I5:=I4.value (dst:=some d5) (s:=.v .undef) (v:=.int kj nj) (.v _ _ _ (.undef _ _))
    have I6:=I5.value (dst:=some d6) (s:=.v .undef) (v:=v6) (.v _ _ _ (.undef _ _))
    refine⟨I6,?_⟩
    rw[jW q1.2.2.2.2.2,jW q1.2.2.2.2.1,jW q1.2.2.2.1,jW q1.2.2.1,T2]
   have oo:((((((e.ak.set d1 (.v .undef)).set d2 (.v .undef)).set d3 (.v .undef)).set d4 (.v .undef)).set d5 (.v .undef)).set d6 (.v .undef)).getD t (.v .undef)=.v (.nest LL):=by
    rw[dB (fun hh=>q1.2.2.2.2.2 hh.symm),dB (fun hh=>q1.2.2.2.2.1 hh.symm),dB (fun hh=>q1.2.2.2.1 hh.symm),dB (fun hh=>q1.2.2.1 hh.symm),dB (fun hh=>q1.2.1 hh.symm),dB (fun hh=>q1.1 hh.symm)]
    exact hx
   obtain⟨q,cap,bk,cp,cur,te,N1,N2,N3,N4,_⟩:=(key undef undef undef).1.uT oo hL lg b
   rw[(key undef undef undef).2]at N1
   obtain⟨q',ar6,bk',cp',jv,te',N1',N2',N3',N4',N5⟩:=(key (.pointer (some ⟨q,ii,none⟩)) (.slice (some ⟨bk,0,none⟩) L.length cp) (.pointer (some ⟨bk,jj,none⟩))).1.uT oo hL lg b
   rw[(key _ _ _).2,N1]at N1'
   cases N1'
   rw[N2]at N2'
   cases N2'
   rw[N3]at N3'
   cases N3'
   refine iN.val (v:=v1) (w1:=w) m3 (fun c hc=>by rw[m1]at hc;cases hc) hI.defers (by simp[execOp,m1,ev,AI]) ?_
   rw[m2,Uq]
   refine iN.val (v:=.int ki ni) (w1:=w) m6 (fun c hc=>by rw[m4]at hc;cases hc) I1.defers (by simp[execOp,m4,ev,X1]) ?_
   rw[m5,Ur]
   have apg:ni.toNat=ii:=by omega
   have aph:nj.toNat=jj:=by omega
   have I3:=I2.value (dst:=some d3) (s:=.v .undef) (v:=.pointer (some ⟨q,ii,none⟩)) (.v _ _ _ (.undef _ _))
   refine iN.val (v:=.pointer (some ⟨q,ii,none⟩)) (w1:=w) m9 (fun c hc=>by rw[m7]at hc;cases hc) I2.defers ?_ ?_
   ·have:=qq q 0 (ii*1)
    rw[Nat.zero_add,Nat.mul_one]at this
    simp[execOp,m7,Instr.indexAt,ev,E2,D2,asIntOf,run_underlying sO,N1,hi1,B9,kP z1,apg,this]
   rw[m8]
   have Y3:(a2.put (some d3) (.pointer (some ⟨q,ii,none⟩))).tmps.getD j undef=.int kj nj:=by rw[jW q3.2.2.1,Y2]
   have E3:(a2.put (some d3) (.pointer (some ⟨q,ii,none⟩))).tmps.getD d3 undef=.pointer (some ⟨q,ii,none⟩):=qt (by rw[S2];exact mR.2.2.1)
   have S3:(a2.put (some d3) (.pointer (some ⟨q,ii,none⟩))).tmps.size =a.tmps.size:=(tn _ _ _).trans S2
   generalize hA3:a2.put (some d3) (.pointer (some ⟨q,ii,none⟩))=a3 at*
   have I4:=I3.value (dst:=some d4) (s:=.v .undef) (v:=.slice (some ⟨bk,0,none⟩) L.length cp) (.v _ _ _ (.undef _ _))
   refine iN.val (v:=.slice (some ⟨bk,0,none⟩) L.length cp) (w1:=w) JJ (fun c hc=>by rw[DS]at hc;cases hc) I3.defers ?_ ?_
   ·have hl:=A7 (w:=w) z2 q ii (fun _=>.slice (some ⟨bk,0,none⟩) L.length cp) (fun j' po=>by
     simp at po;subst po
     exact N2)
    simp only[Bool.false_eq_true,if_false]at hl
    simp[execOp,DS,Instr.loadAt,Instr.sureAddr,ev,E3,hl]
   rw[Gm]
   have Y4:(a3.put (some d4) (.slice (some ⟨bk,0,none⟩) L.length cp)).tmps.getD j undef=.int kj nj:=by rw[jW q3.2.2.2.1,Y3]
   have E4:(a3.put (some d4) (.slice (some ⟨bk,0,none⟩) L.length cp)).tmps.getD d4 undef=.slice (some ⟨bk,0,none⟩) L.length cp:=qt (by rw[S3];exact mR.2.2.2.1)
   have S4:(a3.put (some d4) (.slice (some ⟨bk,0,none⟩) L.length cp)).tmps.size =a.tmps.size:=(tn _ _ _).trans S3
   generalize hA4:a3.put (some d4) (.slice (some ⟨bk,0,none⟩) L.length cp)=a4 at*
   have I5:=I4.value (dst:=some d5) (s:=.v .undef) (v:=.int kj nj) (.v _ _ _ (.undef _ _))
   refine iN.val (v:=.int kj nj) (w1:=w) JK (fun c hc=>by rw[Gn]at hc;cases hc) I4.defers (by simp[execOp,Gn,ev,Y4]) ?_
   rw[DT]
   have E5:(a4.put (some d5) (.int kj nj)).tmps.getD d5 undef=.int kj nj:=qt (by rw[S4];exact mR.2.2.2.2.1)
   have F5:(a4.put (some d5) (.int kj nj)).tmps.getD d4 undef=.slice (some ⟨bk,0,none⟩) L.length cp:=by rw[jW q7.1,E4]
   have S5:(a4.put (some d5) (.int kj nj)).tmps.size =a.tmps.size:=(tn _ _ _).trans S4
   generalize hA5:a4.put (some d5) (.int kj nj)=a5 at*
   have I6:=I5.value (dst:=some d6) (s:=.v .undef) (v:=.pointer (some ⟨bk,jj,none⟩)) (.v _ _ _ (.undef _ _))
   refine iN.val (v:=.pointer (some ⟨bk,jj,none⟩)) (w1:=w) JL (fun c hc=>by rw[DU]at hc;cases hc) I5.defers ?_ ?_
   ·have:=qq bk 0 (jj*1)
    rw[Nat.zero_add,Nat.mul_one]at this
    simp[execOp,DU,Instr.indexAt,ev,E5,F5,asIntOf,run_underlying DW,hj1,sN,kP z3,aph,this]
   rw[DV]
   have E6:(a5.put (some d6) (.pointer (some ⟨bk,jj,none⟩))).tmps.getD d6 undef=.pointer (some ⟨bk,jj,none⟩):=qt (by rw[S5];exact mR.2.2.2.2.2)
   generalize hA6:a5.put (some d6) (.pointer (some ⟨bk,jj,none⟩))=a6 at*
   refine iN.skip (w1:=w.setRow bk (cur.toList.take jj++[Value.bool b]++cur.toList.drop (jj+1)).toArray) m21 (fun c hc=>by rw[Us]at hc;cases hc) Ut I6.defers ?_ ?_
   ·have bc:=GX (P:=P) z4 (off:=jj) N3 (v:=.bool b) rfl (by simp[Value.cells,Value.oneCell']) (by omega)
    have hc:a6.eval (.const (.bool b))=.bool b:=rfl
    simp only[Value.cells,List.append_assoc]at bc ⊢
    simp[execOp,Us,Instr.storeAt,Instr.sureAddr,ev,E6,hc,bc]
   ·exact⟨_,g,N5,hk⟩
  ·exact h.elim
theorem Xl{n:Nat}{x y:SV}{k k':SV→Prop}(hk:∀r,k r→k' r)(h:BD n x y k):BD n x y k':=by
 unfold BD at h ⊢
 obtain⟨r,hr,h1,h2,h⟩:=aQ h
 rw[hr]
 exact⟨h1,h2,hk _ h⟩
theorem Xm{x xi xj:SV}{b:Bool}{k k':SV→Prop}(hk:∀r,k r→k' r)(h:zJ x xi xj b k):zJ x xi xj b k':=by
 unfold zJ at h ⊢
 split at h
 ·obtain⟨i,hi,h⟩:=aQ h
  obtain⟨L,hL,h⟩:=aQ h
  obtain⟨j,hj,h⟩:=aQ h
  simp only[hi,hL,hj,ab]
  exact hk _ h
 ·exact h.elim
theorem Xn{C:bu}{K K':Env→Prop}(hk:∀e,K e→K' e){s:Spec}(h:ig P C e K s):ig P C e K' s:=by
 cases s with
 |At t d ty=>
  simp only[ig]at h ⊢
  split at h
  ·obtain⟨hb,h⟩:=n8 h
   obtain⟨y,hy,h⟩:=aQ h
   rw[hb,cond_true,hy]
   exact hk _ h
  ·exact h.elim
 |cut t d1 d2 ty=>
  simp only[ig]at h ⊢
  split at h
  ·obtain⟨hb,h⟩:=n8 h
   obtain⟨y,hy,h⟩:=aQ h
   rw[hb,cond_true,hy]
   exact hk _ h
  ·exact h.elim
 |zV t d f u=>
  simp only[ig]at h ⊢
  split at h
  ·obtain⟨hb,bk,h1,h2,h⟩:=n8 h
   rw[hb,cond_true]
   exact⟨bk,h1,h2,hk _ h⟩
  ·exact h.elim
 |zI t d t2 d2 f u=>
  simp only[ig]at h ⊢
  split at h
  ·obtain⟨hb,bk,h1,h2,h⟩:=n8 h
   rw[hb,cond_true]
   exact⟨bk,h1,h2,hk _ h⟩
  ·exact h.elim
 |push t u d1 d2 d3 d4 ty=>
  simp only[ig]at h ⊢
  split at h
  ·obtain⟨hb,h⟩:=n8 h
   obtain⟨n,hn,h⟩:=aQ h
   rw[hb,cond_true,hn]
   exact Xl (fun r hr=>hk _ hr) h
  ·exact h.elim
 |uT t i j d1 d2 d3 d4 d5 d6 qM nM qN b=>
  simp only[ig]at h ⊢
  split at h
  ·obtain⟨hb,h⟩:=n8 h
   rw[hb,cond_true]
   exact Xm (fun r hr=>hk _ hr) h
  ·exact h.elim
def Nm(ws:List Nat)(e e':Env):Prop:=e'.ak.length=e.ak.length∧e.boxes.length≤e'.boxes.length∧(∀t,t∉ws→(e'.ak.getD t (.v .undef)).stays =(e.ak.getD t (.v .undef)).stays)∧sa e.boxes.length e e'
theorem KY{l:List Slot}{t u:Nat}{x y:SV}(hx:l.getD t (.v .undef)=.v x):((l.set t (.v y)).getD u (.v .undef)).stays =(l.getD u (.v .undef)).stays :=by
 by_cases h:t=u
 ·subst h
  rw[hx]
  rcases Nat.lt_or_ge t l.length with hl|hl
  ·rw[List.getD_eq_getElem?_getD,List.getElem?_set_self hl];rfl
  ·rw[List.set_eq_of_length_le hl,hx]
 ·rw[dB h]
theorem ael{C:bu}{ops:List Oper}{s:Spec}(hs:vQ P s ops){K:Env→Prop}(h:ig P C e K s):ig P C e (fun e'=>K e'∧Nm (ops.filterMap (·.dst)) e e') s:=by
 cases hs with
 |At t d ty o1 o2 c h1 d1 g1 h2 d2 g2 hc ha ht bg=>
  simp only[ig]at h ⊢
  split at h
  ·rename_i x hx
   obtain⟨hb,h⟩:=n8 h
   obtain⟨y,hy,h⟩:=aQ h
   rw[hb,cond_true,hy]
   refine⟨h,by simp,Nat.le_refl _,fun u hu=>?_,.refl _ _⟩
   have hud:d≠u:=fun hh=>hu (by rw[←hh];simp[d1,d2])
   have jD:(e.ak.set d (.v .undef)).getD t (.v .undef)=.v x:=by rw[dB (fun hh=>bg hh.symm)];exact hx
   rw[KY jD,dB hud]
  ·exact h.elim
 |cut t d1 d2 ty o1 o2 o3 h1 e1 g1 h2 e2 g2 h3 e3 g3 n1 n2 n3=>
  simp only[ig]at h ⊢
  split at h
  ·rename_i x hx
   obtain⟨hb,h⟩:=n8 h
   obtain⟨y,hy,h⟩:=aQ h
   rw[hb,cond_true,hy]
   refine⟨h,by simp,Nat.le_refl _,fun u hu=>?_,.refl _ _⟩
   have sO:d1≠u:=fun hh=>hu (by rw[←hh];simp[e1,e2,e3])
   have DW:d2≠u:=fun hh=>hu (by rw[←hh];simp[e1,e2,e3])
   have jD:((e.ak.set d1 (.v .undef)).set d2 (.v .undef)).getD t (.v .undef)=.v x:=by rw[dB (fun hh=>n2 hh.symm),dB (fun hh=>n1 hh.symm)];exact hx
   rw[KY jD,dB DW,dB sO]
  ·exact h.elim
 |zV t d f u o1 o2 c h1 d1 g1 h2 d2 g2 hc ha h0 n1 n2 n3=>
  simp only[ig]at h ⊢
  split at h
  ·rename_i x hx
   obtain⟨hb,bk,k1,k2,h⟩:=n8 h
   rw[hb,cond_true]
   refine⟨bk,k1,k2,h,by simp,Nat.le_refl _,fun v hv=>?_,.refl _ _⟩
   have DX:d≠v:=fun hh=>hv (by rw[←hh];simp[d1,d2])
   have Uu:u≠v:=fun hh=>hv (by rw[←hh];simp[d1,d2])
   by_cases pv:t=v
   ·subst pv
    rw[hx]
    rcases Nat.lt_or_ge t e.ak.length with hl|hl
    ·rw[List.getD_eq_getElem?_getD,List.getElem?_set_self (by simpa using hl)];rfl
    ·rw[List.getD_eq_getElem?_getD,List.getElem?_eq_none (by simpa using hl)];rfl
   ·rw[dB pv,dB DX,dB Uu,dB DX,dB DX,dB pv]
  ·exact h.elim
 |zI t d t2 e2 f u o1 o2 o3 c h1 d1 g1 h2 d2 g2 h3 d3 g3 hc ha h0 n1 n2 n3 n4 n5 n6=>
  simp only[ig]at h ⊢
  split at h
  ·rename_i x hx
   obtain⟨hb,bk,k1,k2,h⟩:=n8 h
   rw[hb,cond_true]
   refine⟨bk,k1,k2,h,by simp,Nat.le_refl _,fun v hv=>?_,.refl _ _⟩
   have DX:d≠v:=fun hh=>hv (by rw[←hh];simp[d1,d2,d3])
   have Uu:u≠v:=fun hh=>hv (by rw[←hh];simp[d1,d2,d3])
   have hve:e2≠v:=fun hh=>hv (by rw[←hh];simp[d1,d2,d3])
   by_cases pv:t=v
   ·subst pv
    rw[hx]
    rcases Nat.lt_or_ge t e.ak.length with hl|hl
    ·rw[List.getD_eq_getElem?_getD,List.getElem?_set_self (by simpa using hl)];rfl
    ·rw[List.getD_eq_getElem?_getD,List.getElem?_eq_none (by simpa using hl)];rfl
   ·rw[dB pv,dB DX,dB Uu,dB DX,dB hve,dB DX,dB pv]
  ·exact h.elim
 |push t u d1 d2 d3 d4 ty o1 o2 o3 o4 o5 h1 h2 h3 h4 h5 q1 q2 q3 q4 q5=>
  simp only[ig]at h ⊢
  split at h
  ·rename_i x y hx hy
   obtain⟨hb,h⟩:=n8 h
   obtain⟨n,hn,h⟩:=aQ h
   rw[hb,cond_true,hn]
   simp only[List.forall_mem_cons,List.not_mem_nil,false_implies,implies_true,and_true]at q1 q2 q3 q4 q5
   obtain⟨m1,m2,m3⟩:=xv h1
   obtain⟨m4,m5,m6⟩:=xv h2
   obtain⟨m7,m8,m9⟩:=X8 h3
   obtain⟨c,DS,Gm,JJ,Gn,DT,JK⟩:=X9 h4
   obtain⟨DU,DV,JL⟩:=X7 h5
   simp only[ab]
   refine Xl (fun r hr=>⟨hr,by simp,Nat.le_refl _,fun v hv=>?_,.refl _ _⟩) h
   simp only[List.filterMap_cons,m2,m5,m8,DT,DV,List.filterMap_nil,List.mem_cons,List.not_mem_nil,or_false,not_or]at hv
   obtain⟨v1,v2,v3,v4,v5⟩:=hv
   have hu4:((((e.ak.set d1 (.v .undef)).set d2 (.v .undef)).set d3 (.v .undef)).set d4 (.v .undef)).getD u (.v .undef)=.v y:=by
    rw[dB (fun hh=>q2.2.2.2 hh.symm),dB (fun hh=>q2.2.2.1 hh.symm),dB (fun hh=>q2.2.1 hh.symm),dB (fun hh=>q2.1 hh.symm)];exact hy
   rw[dB (fun hh=>v5 hh.symm),KY hu4,dB (fun hh=>v4 hh.symm),dB (fun hh=>v3 hh.symm),dB (fun hh=>v2 hh.symm),dB (fun hh=>v1 hh.symm)]
  ·exact h.elim
 |uT t i j d1 d2 d3 d4 d5 d6 qM nM qN b o1 o2 o3 o4 o5 o6 o7 h1 h2 h3 h4 h5 h6 h7 q1 q2 q3 q4 q5 q6 q7 q8=>
  simp only[ig]at h ⊢
  split at h
  ·rename_i x xi xj hx hxi hxj
   obtain⟨hb,h⟩:=n8 h
   rw[hb,cond_true]
   simp only[List.forall_mem_cons,List.not_mem_nil,false_implies,implies_true,and_true]at q1
   obtain⟨m1,m2,m3⟩:=xv h1
   obtain⟨m4,m5,m6⟩:=xv h2
   obtain⟨m7,m8,m9⟩:=K9 h3
   obtain⟨DS,Gm,JJ⟩:=Ya h4
   obtain⟨Gn,DT,JK⟩:=xv h5
   obtain⟨DU,DV,JL⟩:=K9 h6
   obtain⟨Us,Ut,m21⟩:=Yb h7
   refine Xm (fun r hr=>⟨hr,by simp,Nat.le_refl _,fun v hv=>?_,.refl _ _⟩) h
   simp only[List.filterMap_cons,m2,m5,m8,Gm,DT,DV,Ut,List.filterMap_nil,List.mem_cons,List.not_mem_nil,or_false,not_or]at hv
   obtain⟨v1,v2,v3,v4,v5,v6⟩:=hv
   have ht6:((((((e.ak.set d1 (.v .undef)).set d2 (.v .undef)).set d3 (.v .undef)).set d4 (.v .undef)).set d5 (.v .undef)).set d6 (.v .undef)).getD t (.v .undef)=.v x:=by
    rw[dB (fun hh=>q1.2.2.2.2.2 hh.symm),dB (fun hh=>q1.2.2.2.2.1 hh.symm),dB (fun hh=>q1.2.2.2.1 hh.symm),dB (fun hh=>q1.2.2.1 hh.symm),dB (fun hh=>q1.2.1 hh.symm),dB (fun hh=>q1.1 hh.symm)]
    exact hx
   rw[KY ht6,dB (fun hh=>v6 hh.symm),dB (fun hh=>v5 hh.symm),dB (fun hh=>v4 hh.symm),dB (fun hh=>v3 hh.symm),dB (fun hh=>v2 hh.symm),dB (fun hh=>v1 hh.symm)]
  ·exact h.elim
theorem ZQ{ops:Array Oper}{Q:Exit→Act→World→Prop}{R:Act→World→Prop}(hR:∀a w,R a w→Q .normal a w):∀(l:List Oper)(i:Nat){a:Act}{w:World},(∀j,l[j]? =ops[i+j]?)→iN P l a w R→wpOps P ops Q (List.range' i l.length) a w
 |[],_,_,_,_,h=>hR _ _ h
 |o::l,i,a,w,hl,h=>by
  obtain⟨hg,oC,h⟩:=h
  have h0:ops[i]? =some o:=by simpa using(hl 0).symm
  rw[List.length_cons,List.range'_succ]
  unfold wpOps
  simp only[h0]
  rw[if_pos (by simp[Region.wanted,hg])]
  exact .inl (h _ _ fun v w1 _ h1=>ZQ hR l (i+1) (fun j=>by have:=hl (j+1);simpa[Nat.add_assoc,Nat.add_comm 1 j]using this) h1)
end
def Ex.to:Ex→Exit
 | .normal =>.normal
 | .exit i=>.exit i
 | .ret =>.ret
def Fr(gh:List (Nat×List jo))(c:Code)(e e':Env):Prop:=e'.ak.length=e.ak.length∧e.boxes.length≤e'.boxes.length∧
 (∀t,t∉dr gh c→(e'.ak.getD t (.v .undef)).stays =(e.ak.getD t (.v .undef)).stays)∧sa e.boxes.length e e'
theorem qp{b:Bool}{A:Prop}(h:cond b A False):b=true∧A:=by cases b;exact h.elim;exact⟨rfl,h⟩
theorem Be{b:Bool}{A:Prop}(hb:b=true)(h:A):cond b A False:=by subst hb;exact h
section
variable{P:Program}{gl:Nat→Option D}{h:Hints}
theorem xt{all:List Oper}{aI:Nat→Bool}{base:Nat}{K K':Env→Prop}(hk:∀e,K e→K' e):∀(l:List Oper)(i:Nat)(e:Env),
  jb P gl (aF P gl) aI all base l i e K→jb P gl (aF P gl) aI all base l i e K'
 |[],_,_,h=>hk _ h
 |o::l,i,e,h=>by
  rw[Bm]at h ⊢
  have fO:all=all.toArray.toList:=by simp
  rw[fO]at h ⊢
  obtain⟨src,s,U,bY,hO,_⟩:=CB h
  refine hO.run ?_
  rw[←fO]at bY ⊢
  exact xt hk l (i+1) _ bY
theorem zd{all:List Oper}{aI:Nat→Bool}{base:Nat}{K:Env→Prop}:∀(l:List Oper)(i:Nat)(e:Env),
  jb P gl (aF P gl) aI all base l i e K→jb P gl (aF P gl) aI all base l i e fun e'=>K e'∧e'.ak.length=e.ak.length∧e'.boxes.length=e.boxes.length∧
   (∀t,t∉l.filterMap (·.dst)→(e'.ak.getD t (.v .undef)).stays =(e.ak.getD t (.v .undef)).stays)∧sa base e e'
 |[],_,_,h=>⟨h,rfl,rfl,fun _ _=>rfl,.refl _ _⟩
 |o::l,i,e,h=>by
  rw[Bm]at h ⊢
  have fO:all=all.toArray.toList:=by simp
  rw[fO]at h ⊢
  obtain⟨src,s,U,bY,hO,bc⟩:=CB h
  refine hO.run ?_
  rw[←fO]at bY ⊢
  refine xt (fun e'⟨hK,h1,h2,h3,h5⟩=>⟨hK,?_,?_,fun t ht=>?_,fun j hj=>?_⟩) l (i+1) _ (zd l (i+1) _ bY)
  ·rw[h1];unfold fin kV;simp only[Pf];cases src<;>simp
  ·rw[h2];unfold fin oK;cases U<;>simp
  ·have hd:∀d,o.dst=some d→d≠t:=fun d hd hh=>by
    subst hh
    exact ht (List.mem_filterMap.2 ⟨o,by simp,hd⟩)
   have vb:t∉l.filterMap (·.dst):=fun hm=>by
    obtain⟨o',cg,lb⟩:=List.mem_filterMap.1 hm
    exact ht (List.mem_filterMap.2 ⟨o',by simp[cg],lb⟩)
   rw[h3 t vb]
   unfold fin de kV
   simp only
   have fk:((match src with|none=>e.ak|some (t,s)=>e.ak.set t s).getD t (.v .undef)).stays =(e.ak.getD t (.v .undef)).stays :=by
    cases src with
    |none=>rfl
    |some p=>
     obtain⟨t',d⟩:=p
     simp only
     by_cases htt:t'=t
     ·subst htt
      have:=bc.1 t' d rfl
      rcases Nat.lt_or_ge t' e.ak.length with hl|hl
      ·rw[List.getD_eq_getElem?_getD,List.getElem?_set_self hl];exact this
      ·rw[List.set_eq_of_length_le hl]
     ·rw[dB htt]
   cases lb:o.dst with
   |none=>exact fk
   |some d=>simp only;rw[dB (hd d lb)];exact fk
  ·have huf:=hO.uf
   have key:sa base e (fin o src s U e):=by
    intro j hj
    have same:e.boxes.getD j .none =.none ∨(e.boxes.getD j .none ≠.none ∧(e.boxes.getD j .none).isMap =(e.boxes.getD j .none).isMap):=sa.refl base e j hj
    unfold fin
    simp only
    cases huf with
    |none=>exact same
    |mk bx h hn hb=>
     simp only[oK,List.getD_eq_getElem?_getD]
     rw[List.getElem?_set_ne (by omega)]
     simpa using same
    |wr b bx jr h hw x hx off hp ho hold hb uW=>
     simp only[oK,List.getD_eq_getElem?_getD,List.getElem?_set]
     by_cases JM:b=j
     ·subst JM
      right
      rw[ho]
      simp[(List.getElem?_eq_some_iff.1 ho).1,hb.2,hold]
     ·simp only[JM,if_false];simpa using same
   exact(key.trans (Nat.le_refl _) h5) j hj
theorem Yc{ok:Bool}{ops:Array Oper}{aI:Nat→Bool}{e1 e':Env}{K K':Env→Prop}(hk:∀e,K e→K' e)(h:zU P gl (aF P gl) ok ops aI e1 K e'):zU P gl (aF P gl) ok ops aI e1 K' e':=by
 cases ok
 ·exact⟨h.1,hk _ h.2⟩
 ·exact hk _ h
theorem ahs{ok:Bool}{ops:Array Oper}{aI:Nat→Bool}{e1 e':Env}{K:Env→Prop}{X:Env→Prop}(h:zU P gl (aF P gl) ok ops aI e1 K e')(hx:X e'):zU P gl (aF P gl) ok ops aI e1 (fun e'=>K e'∧X e') e':=by
 cases ok
 ·exact⟨h.1,h.2,hx⟩
 ·exact⟨h,hx⟩
theorem PH{e:Env}{c:Operand}{A B A' B':Env→Prop}(hA:A e→A' e)(hB:B e→B' e)(h:sg e c A B):sg e c A' B':=by
 cases c with
 |tmp t=>
  simp only[sg]at h ⊢
  cases hx:e.ak.getD t (.v .undef)with
  |v x=>
   rw[hx]at h
   obtain⟨b,rfl,h1,h2⟩:=EI h
   cases b
   ·have:=h2 rfl
    rw[zg hx]at this
    show B' _
    rw[zg hx]
    exact hB this
   ·have:=h1 rfl
    rw[zg hx]at this
    show A' _
    rw[zg hx]
    exact hA this
  |_=>rw[hx]at h;exact h.elim
 |const v=>
  cases v with
  |bool b=>cases b;exact hB h;exact hA h
  |_=>exact h.elim
 |_=>exact h.elim
theorem Xo{e:Env}{c:Operand}{A B A' B':Env→Prop}(hA:∀e,A e→A' e)(hB:∀e,B e→B' e)(h:sg e c A B):sg e c A' B':=PH (hA e) (hB e) h
theorem Xq{key:Nat}{c:Code}{e:Env}{Q Q':Ex→Env→Prop}{T:(Ex→Env→Prop)→Prop}(hT:∀Q Q':Ex→Env→Prop,(∀x e,Q x e→Q' x e)→T Q→T Q')(hq:∀x e,Q x e→Q' x e)(hh:uN h key c e Q T):uN h key c e Q' T:=by
 unfold uN at hh ⊢
 generalize qz h.fI key=kk at hh ⊢
 obtain⟨vars,consts⟩:=kk
 cases vars<;>cases consts
 ·exact hT _ _ hq hh
 all_goals
  obtain⟨hb,hh⟩:=qp (hh:cond _ _ False)
  exact Be hb (hT _ _ (fun x e' hx=>by cases x<;>first|exact hq _ _ hx|exact hq .normal _ hx) hh)
theorem QK{e:Env}{X Y:Prop}(hk:X→Y):∀(T:List Nat),Au e X T→Au e Y T
 |[],h=>hk h
 |_::T,h=>⟨h.1,QK hk T h.2⟩
theorem Hf{e:Env}{X:Prop}:∀(T:List Nat),Au e X T→X∧∀t∈T,k9 (e.ak.getD t (.v .undef)).cC
 |[],h=>⟨h,by simp⟩
 |_::T,h=>by
  obtain⟨h1,h2⟩:=Hf T h.2
  exact⟨h1,fun t ht=>by rcases List.mem_cons.1 ht with rfl|ht;exact h.1;exact h2 t ht⟩
theorem Pe{ws T:List Nat}{f:Nat→Slot}:∀(l:List Slot)(i:Nat),(Bl ws T f l i).length =l.length
 |[],_=>rfl
 |_::l,i=>by simp[Bl,Pe l (i+1)]
theorem Px{ws T:List Nat}{f:Nat→Slot}:∀(l:List Slot)(i j:Nat),(Bl ws T f l i)[j]? =(l[j]?).map fun s=>bif T.contains (i+j)then .v (qI (f (i+j)).cC)else bif ws.contains (i+j)then .v .undef else s
 |[],_,_=>by simp[Bl]
 |s::l,i,j=>by
  cases j with
  |zero=>simp[Bl]
  |succ j=>
   simp only[Bl,List.getElem?_cons_succ]
   rw[Px l (i+1) j,show i+1+j=i+(j+1) by omega]
theorem afi{ws T:List Nat}{e e':Env}{t:Nat}(hw:t∉ws)(hT:∀t∈T,t∈ws):((uV ws T e e').ak.getD t (.v .undef)).stays =(e.ak.getD t (.v .undef)).stays :=by
 simp only[uV,List.getD_eq_getElem?_getD,Px,Nat.zero_add]
 have h1:T.contains t=false:=by
  rw[Bool.eq_false_iff];intro h;exact hw (hT t (by simpa using h))
 have h2:ws.contains t=false:=by
  rw[Bool.eq_false_iff];intro h;exact hw (by simpa using h)
 rw[h1,h2]
 cases e.ak[t]? <;>rfl
theorem KJ{ops:Array Oper}{draw ok:Bool}{m0 m1:Nat}{T:List Nat}(h:CU ops draw ok m0 m1 T=true):gm ops.toList ops.toList.length=0∧((m0=0∧m1=ops.toList.length)∨draw=false)∧ok=true∧m0+m1≤ops.toList.length∧∀t∈T,t∈(((ops.toList.drop m0).take m1).filterMap (·.dst)):=by
 unfold CU at h
 simp only[Bool.and_eq_true,Bool.or_eq_true,Bool.not_eq_true',List.all_eq_true,List.contains_eq_mem,decide_eq_true_eq]at h
 obtain⟨⟨⟨⟨h1,h2⟩,h3⟩,h4⟩,h5⟩:=h
 refine⟨Nat.eq_of_beq_eq_true h1,?_,h3,Nat.le_of_ble_eq_true h4,h5⟩
 rcases h2 with h2|h2
 ·exact .inl ⟨Nat.eq_of_beq_eq_true h2.1,Nat.eq_of_beq_eq_true h2.2⟩
 ·exact .inr h2
theorem Xr{m0 m1:Nat}{T:List Nat}{ops:List Oper}{aI:Nat→Bool}{e:Env}{K K':Env→Prop}(hk:∀e,K e→K' e)(h:sn P gl (aF P gl) m0 m1 T ops aI e K):sn P gl (aF P gl) m0 m1 T ops aI e K':=
 xt (fun _ h1=>xt (fun _ h2=>QK (xt hk _ _ _) T h2) _ _ _ h1) _ _ _ h
theorem aem{m0 m1:Nat}{T:List Nat}{ops:List Oper}{aI:Nat→Bool}{e:Env}{K:Env→Prop}(hT:∀t∈T,t∈(((ops.drop m0).take m1).filterMap (·.dst)))(h:sn P gl (aF P gl) m0 m1 T ops aI e K):sn P gl (aF P gl) m0 m1 T ops aI e (fun e'=>K e'∧Nm (ops.filterMap (·.dst)) e e'):=by
 refine xt (fun e1⟨h1,a1,a2,a3,a4⟩=>xt (fun e2⟨h2,b1,b2,b3,b4⟩=>QK (fun h3=>?_) T h2) _ _ _ (zd _ _ _ h1)) _ _ _ (zd _ _ _ h)
 refine xt (fun e3⟨h4,c1,c2,c3,c4⟩=>⟨h4,?_,?_,fun t ht=>?_,?_⟩) _ _ _ (zd _ _ _ h3)
 ·rw[c1];simp only[uV,Pe];exact a1
 ·rw[c2];simp only[uV];omega
 ·have hm:∀{l:List Oper},(∀o,o∈l→o∈ops)→t∉l.filterMap (·.dst):=fun hl hm=>by
   obtain⟨o,ho,hd⟩:=List.mem_filterMap.1 hm
   exact ht (List.mem_filterMap.2 ⟨o,hl o ho,hd⟩)
  rw[c3 t (hm fun o ho=>List.mem_of_mem_drop (List.mem_of_mem_drop ho)),afi (hm fun o ho=>List.mem_of_mem_drop (List.mem_of_mem_take ho)) hT,a3 t (hm fun o ho=>List.mem_of_mem_take ho)]
 ·have:sa e.boxes.length e1 (uV (((ops.drop m0).take m1).filterMap (·.dst)) T e1 e2):=fun i hi=>sa.refl e.boxes.length e1 i hi
  exact(a4.trans (Nat.le_refl _) this).trans (Nat.le_refl _) c4
theorem Qh{id:Nat}{ops:Array Oper}{draw:Bool}{e:Env}{K K':Env→Prop}(hk:∀e,K e→K' e)(hh:pb P gl (aF P gl) h id ops draw e K):pb P gl (aF P gl) h id ops draw e K':=by
 unfold pb at hh ⊢
 obtain⟨hb,hh⟩:=qp hh
 refine Be hb (Bh (fun e1 h1=>?_) hh)
 cases hl:E7 h.gh id with
 |some mT=>
  simp only[hl]at h1 ⊢
  obtain⟨hf,h1⟩:=qp h1
  exact Be hf (Xr (fun e2 h2=>Bh hk h2) h1)
 |none=>
 simp only[hl]at h1 ⊢
 cases hs:zy P (C2 h.gh id) draw ops.toList with
 |some s=>simp only[hs]at h1 ⊢;exact Xn (fun e2 h2=>Bh hk h2) h1
 |none=>simp only[hs]at h1 ⊢;exact xt (fun e2 h2=>Yc (fun e3 h3=>Bh hk h3) h2) _ _ _ h1
theorem Xs{id:Nat}{ops:Array Oper}{draw:Bool}{e:Env}{K:Env→Prop}(hh:pb P gl (aF P gl) h id ops draw e K):pb P gl (aF P gl) h id ops draw e (fun e'=>K e'∧Fr h.gh (.region id ops draw) e e'):=by
 unfold pb at hh ⊢
 obtain⟨hb,hh⟩:=qp hh
 refine Be hb (Bh (fun e1⟨h1,hg⟩=>?_) (PY hh))
 have key:∀e2,Nm (ops.toList.filterMap (·.dst)) e1 e2→iL (ku h.gh (4000000+id)) e2 K→iL (ku h.gh (4000000+id)) e2 (fun e'=>K e'∧Fr h.gh (.region id ops draw) e e'):=fun e2 ho h2=>by
  refine Bh (fun e3⟨h3,yX⟩=>⟨h3,yX.1.trans (ho.1.trans hg.1),Nat.le_trans hg.2.1 (Nat.le_trans ho.2.1 yX.2.1),fun t ht=>?_,?_⟩) (PY h2)
  ·simp only[dr,List.mem_append,not_or]at ht
   rw[yX.2.2.1 t ht.2.1,ho.2.2.1 t ht.2.2,hg.2.2.1 t ht.1]
  ·exact(hg.2.2.2.trans hg.2.1 ho.2.2.2).trans (Nat.le_trans hg.2.1 ho.2.1) yX.2.2.2
 cases hl:E7 h.gh id with
 |some mT=>
  simp only[hl]at h1 ⊢
  obtain⟨hf,h1⟩:=qp h1
  exact Be hf (Xr (fun e2⟨h2,ho⟩=>key e2 ho h2) (aem (KJ hf).2.2.2.2 h1))
 |none=>
 simp only[hl]at h1 ⊢
 cases hs:zy P (C2 h.gh id) draw ops.toList with
 |some s=>
  simp only[hs]at h1 ⊢
  exact Xn (fun e2⟨h2,ho⟩=>key e2 ho h2) (ael (PG hs).2 h1)
 |none=>
  simp only[hs]at h1 ⊢
  refine xt (fun e'⟨h1,h2,h3,h4,h5⟩=>Yc (fun e2⟨k1,k2⟩=>key e2 k2 k1) (ahs (X:=fun e'=>Nm (ops.toList.filterMap (·.dst)) e1 e') h1 ⟨h2,?_,h4,fun i hi=>?_⟩)) _ _ _ (zd _ _ _ h1)
  ·rw[h3];simp
  ·have:=h5 i hi
   simp only[List.getD_eq_getElem?_getD]at this ⊢
   rw[List.getElem?_append_left hi]at this
   exact this
theorem od:∀(c:Code){Q Q':Ex→Env→Prop}{e:Env},(∀x e,Q x e→Q' x e)→aw P gl (aF P gl) h c Q e→aw P gl (aF P gl) h c Q' e
 | .skip,_,_,_,hq,hh=>hq _ _ hh
 | .region id ops draw,Q,Q',e,hq,hh=>by
   simp only[aw]at hh ⊢
   exact Xq (fun Q Q' hq hh=>Qh (hq .normal) hh) hq hh
 | .seq a b,Q,Q',e,hq,hh=>by
   simp only[aw]at hh ⊢
   refine od a (fun x e' hx=>?_) hh
   cases x with
   |normal=>exact od b hq hx
   |exit i=>exact hq _ _ hx
   |ret=>exact hq _ _ hx
 | .cond c a b,Q,Q',e,hq,hh=>by
   simp only[aw]at hh ⊢
   exact Xq (fun Q Q' hq hh=>Xo (fun e'=>od a hq) (fun e'=>od b hq) hh) hq hh
 | .block id b,Q,Q',e,hq,hh=>by
   simp only[aw]at hh ⊢
   refine od b (fun x e' hx=>?_) hh
   cases x with
   |normal=>exact hq _ _ hx
   |exit i=>
    have er:cond (i==id) (Q .normal e') (Q (.exit i) e'):=hx
    show cond (i==id) (Q' .normal e') (Q' (.exit i) e')
    cases hb:(i==id)<;>rw[hb]at er<;>exact hq _ _ er
   |ret=>exact hq _ _ hx
 | .loop b,Q,Q',e,hq,hh=>by
   obtain⟨hb,hh⟩:=qp (hh:cond _ _ False)
   refine Be hb fun I hI=>hh I fun vs bs hF=>hI vs bs (od b (fun x e' hx=>?_) hF)
   cases x with
   |normal=>exact hx
   |exit i=>exact hq _ _ hx
   |ret=>exact hq _ _ hx
 | .exit id,_,_,_,hq,hh=>hq _ _ hh
 | .ret,_,_,_,hq,hh=>hq _ _ hh
 | .goto _,_,_,_,_,hh=>hh
 | .label _,_,_,_,hq,hh=>hq _ _ hh
 | .scope _,_,_,_,_,hh=>hh
 | .rangeFunc _ _ _ _,_,_,_,_,hh=>hh
 | .refuse _,_,_,_,_,hh=>hh
theorem Fr.refl(c:Code)(e:Env):Fr h.gh c e e:=⟨rfl,Nat.le_refl _,fun _ _=>rfl,.refl _ _⟩
theorem Fr.trans{a b c:Code}{e e1 e2:Env}(h1:Fr h.gh a e e1)(h2:Fr h.gh b e1 e2)(ha:∀t,t∈dr h.gh a→t∈dr h.gh c)(hb:∀t,t∈dr h.gh b→t∈dr h.gh c):Fr h.gh c e e2:=
 ⟨h2.1.trans h1.1,Nat.le_trans h1.2.1 h2.2.1,fun t ht=>(h2.2.2.1 t fun hm=>ht (hb t hm)).trans (h1.2.2.1 t fun hm=>ht (ha t hm)),h1.2.2.2.trans h1.2.1 h2.2.2.2⟩
theorem Fr.mono{a c:Code}{e e1:Env}(h1:Fr h.gh a e e1)(ha:∀t,t∈dr h.gh a→t∈dr h.gh c):Fr h.gh c e e1:=⟨h1.1,h1.2.1,fun t ht=>h1.2.2.1 t fun hm=>ht (ha t hm),h1.2.2.2⟩
theorem Pb(vars consts:List Nat)(vs:List SV):∀(l:List Slot)(t i:Nat),(vH vars consts vs l t)[i]? =(l[i]?).map fun s=>match place (t+i) vars 0 with
  |some j=>.v (ae vs j)
  |none=>bif consts.contains (t+i)then s.stays else .v .undef
 |[],_,_=>by simp[vH]
 |s::l,t,i=>by
  cases i with
  |zero=>simp only[vH,List.getElem?_cons_zero,Option.map_some,Nat.add_zero];cases place t vars 0<;>rfl
  |succ i=>
   simp only[vH,List.getElem?_cons_succ]
   rw[Pb vars consts vs l (t+1) i,show t+1+i=t+(i+1) by omega]
theorem O9(vars consts:List Nat)(vs:List SV):∀(l:List Slot)(t:Nat),(vH vars consts vs l t).length =l.length
 |[],_=>rfl
 |_::l,t=>by simp[vH,O9 vars consts vs l (t+1)]
theorem Pc(bs:List (List SV)):∀(l:List af)(t i:Nat),(vI bs l t)[i]? =(l[i]?).map fun x=>af.again (an bs (t+i)) x
 |[],_,_=>by simp[vI]
 |s::l,t,i=>by
  cases i with
  |zero=>simp[vI]
  |succ i=>
   simp only[vI,List.getElem?_cons_succ]
   rw[Pc bs l (t+1) i,show t+1+i=t+(i+1) by omega]
theorem Pa(bs:List (List SV)):∀(l:List af)(t:Nat),(vI bs l t).length =l.length
 |[],_=>rfl
 |_::l,t=>by simp[vI,Pa bs l (t+1)]
theorem Xt{t:Nat}:∀{l:List Nat}{i j:Nat},place t l i=some j→i≤j∧l[j-i]? =some t
 |[],i,j,h=>by cases h
 |v::l,i,j,h=>by
  simp only[place]at h
  cases hv:v==t with
  |true=>
   rw[hv]at h
   simp only[cond_true,Option.some.injEq]at h
   subst h
   have:=beq_iff_eq.1 hv
   subst this
   simp
  |false=>
   rw[hv]at h
   obtain⟨h1,h2⟩:=Xt (l:=l) h
   refine⟨by omega,?_⟩
   rw[show j-i=(j-(i+1))+1 by omega,List.getElem?_cons_succ]
   exact h2
theorem Xu{t:Nat}:∀{l:List Nat}{i:Nat},l.contains t=false→place t l i=none
 |[],_,_=>rfl
 |v::l,i,h=>by
  simp only[List.contains_cons,Bool.or_eq_false_iff]at h
  simp only[place]
  have:(v==t)=false:=by rw[beq_eq_false_iff_ne]at*;exact fun hh=>h.1 hh.symm
  rw[this]
  exact Xu h.2
theorem Wt{ws vars consts:List Nat}:∀{l:List Slot}{t:Nat},ER ws vars consts l t=true→∀(i:Nat)s,l[i]? =some s→(t+i)∉ws→s.stays=.v .undef ∨(vars.contains (t+i)=false∧consts.contains (t+i)=true)
 |[],_,_,i,s,h,_=>by simp at h
 |s'::l,t,hk,i,s,h,hw=>by
  simp only[ER,Bool.and_eq_true]at hk
  cases i with
  |zero=>
   simp at h
   subst h
   have jS:=hk.1
   cases s' with
   |v x=>exact .inl rfl
   |t x=>exact .inl rfl
   |_=>
    refine .inr ?_
    simp only[Bool.or_eq_true,Bool.and_eq_true,Bool.not_eq_true']at jS
    rcases jS with h|h
    ·exact absurd (by simpa using h) hw
    ·exact h
  |succ i=>
   have:=Wt hk.2 i s (by simpa using h) (by rw[show t+1+i=t+(i+1) by omega];exact hw)
   rw[show t+1+i=t+(i+1) by omega]at this
   exact this
theorem aen(s:Slot):s.stays.stays=s.stays:=by cases s<;>rfl
def again(vars consts:List Nat)(vs:List SV)(bs:List (List SV))(e:Env):Env:=⟨vH vars consts vs e.ak 0,vI bs e.boxes 0⟩
theorem Lq{b:Code}{vars consts:List Nat}{vs:List SV}{bs:List (List SV)}{e:Env}(hk:ER (dr h.gh b) vars consts e.ak 0=true):Fr h.gh b e (again vars consts vs bs e):=by
 refine⟨O9 _ _ _ _ _,by simp[again,Pa],fun t ht=>?_,fun i hi=>?_⟩
 rotate_left
 ·simp only[again,List.getD_eq_getElem?_getD,Pc,List.getElem?_eq_getElem hi,Option.map_some,Option.getD_some]
  cases e.boxes[i]<;>first|exact .inl rfl|exact .inr ⟨by simp,rfl⟩
 simp only[again,List.getD_eq_getElem?_getD,Pb]
 cases hs:e.ak[t]? with
 |none=>rfl
 |some s=>
  simp only[Option.map_some,Option.getD_some,Nat.zero_add]
  rcases Wt hk t s hs (by simpa using ht)with h|⟨h1,h2⟩
  ·rw[h]
   split
   ·rfl
   ·cases consts.contains t<;>simp[Slot.stays]
  ·rw[Nat.zero_add]at h1 h2
   rw[Xu h1]
   simp only[h2,cond_true,aen]
theorem WO{key:Nat}{c:Code}{e:Env}{Q:Ex→Env→Prop}{T:(Ex→Env→Prop)→Prop}(hT:∀Q Q':Ex→Env→Prop,(∀x e,Q x e→Q' x e)→T Q→T Q')
  (hF:∀Q,T Q→T (fun x e'=>Q x e'∧Fr h.gh c e e'))(hh:uN h key c e Q T):uN h key c e (fun x e'=>Q x e'∧Fr h.gh c e e') T:=by
 unfold uN at hh ⊢
 generalize qz h.fI key=kk at hh ⊢
 obtain⟨vars,consts⟩:=kk
 cases vars<;>cases consts
 ·exact hF _ hh
 all_goals
  obtain⟨hb,hh⟩:=qp (hh:cond _ _ False)
  have hk:=(Bool.and_eq_true _ _▸hb).2
  refine Be hb (hT _ _ (fun x e' hx=>?_) (hF _ hh))
  obtain⟨hx,hf⟩:=hx
  cases x with
  |normal=>exact⟨hx,Lq (b:=c) hk⟩
  |exit i=>exact⟨hx,hf⟩
  |ret=>exact⟨hx,hf⟩
theorem uF:∀(c:Code){Q:Ex→Env→Prop}{e:Env},aw P gl (aF P gl) h c Q e→aw P gl (aF P gl) h c (fun x e'=>Q x e'∧Fr h.gh c e e') e
 | .skip,_,e,hh=>⟨hh,Fr.refl _ _⟩
 | .region id ops draw,Q,e,hh=>by
   simp only[aw]at hh ⊢
   refine WO (fun Q Q' hq hh=>Qh (hq .normal) hh) (fun Q hh=>?_) hh
   exact Qh (fun e' hx=>hx) (Xs hh)
 | .seq a b,Q,e,hh=>by
   refine od a (fun x e' hx=>?_) (uF a hh)
   obtain⟨hx,hf⟩:=hx
   cases x with
   |normal=>exact od b (fun y e2 hy=>⟨hy.1,hf.trans hy.2 (fun t ht=>by simp[dr,ht]) (fun t ht=>by simp[dr,ht])⟩) (uF b hx)
   |exit i=>exact⟨hx,hf.mono fun t ht=>by simp[dr,ht]⟩
   |ret=>exact⟨hx,hf.mono fun t ht=>by simp[dr,ht]⟩
 | .cond c a b,Q,e,hh=>
   WO (fun Q Q' hq hh=>Xo (fun e'=>od a hq) (fun e'=>od b hq) hh) (fun Q hh=>PH (A:=aw P gl (aF P gl) h a Q) (B:=aw P gl (aF P gl) h b Q)
    (fun ha=>od a (fun y e2 hy=>⟨hy.1,hy.2.mono fun t ht=>by simp[dr,ht]⟩) (uF a ha)) (fun hb=>od b (fun y e2 hy=>⟨hy.1,hy.2.mono fun t ht=>by simp[dr,ht]⟩) (uF b hb)) hh) hh
 | .block id b,Q,e,hh=>by
   refine od b (fun x e' hx=>?_) (uF b hh)
   obtain⟨hx,hf⟩:=hx
   have nQ:Fr h.gh (.block id b) e e':=hf
   cases x with
   |normal=>exact⟨hx,nQ⟩
   |exit i=>
    have er:cond (i==id) (Q .normal e') (Q (.exit i) e'):=hx
    show cond (i==id) (Q .normal e'∧Fr h.gh (.block id b) e e') (Q (.exit i) e'∧Fr h.gh (.block id b) e e')
    cases hb:(i==id)<;>rw[hb]at er<;>exact⟨er,nQ⟩
   |ret=>exact⟨hx,nQ⟩
 | .loop b,Q,e,hh=>by
   obtain⟨hb,hh⟩:=qp (hh:cond _ _ False)
   have hk:=(Bool.and_eq_true _ _▸hb).2
   refine Be hb fun I hI=>?_
   refine hh I fun vs bs hF=>hI vs bs (od b (fun x e' hx=>?_) (uF b hF))
   obtain⟨hx,hf⟩:=hx
   have nQ:Fr h.gh (.loop b) e e':=(Lq (vs:=vs) (bs:=bs) hk).trans (b:=b) hf (fun t ht=>ht) (fun t ht=>ht)
   cases x with
   |normal=>exact hx
   |exit i=>exact⟨hx,nQ⟩
   |ret=>exact⟨hx,nQ⟩
 | .exit id,_,e,hh=>⟨hh,Fr.refl _ _⟩
 | .ret,_,e,hh=>⟨hh,Fr.refl _ _⟩
 | .goto _,_,_,hh=>hh
 | .label _,_,e,hh=>⟨hh,Fr.refl _ _⟩
 | .scope _,_,_,hh=>hh
 | .rangeFunc _ _ _ _,_,_,hh=>hh
 | .refuse _,_,_,hh=>hh
end
section
variable{P:Program}{gl:Nat→Option D}{w0:World}{au:S0}{e:Env}{a:Act}{w:World}{g:Gh}
theorem bp.qF{St cq:Nat→Nat→Prop}{w':World}{x:D}{v:Value}(r:bp w St x v)(h:x.qF=true):bp w' cq x v:=by
 cases r with
 |bool b=>exact .bool b
 |int k n hk=>exact .int k n hk
 |str s hs=>exact .str s hs
 |_=>cases h
def ga(l:List Oper)(a a':Act):Prop:=∀t,t∉l.filterMap (·.dst)→a'.tmps.getD t undef=a.tmps.getD t undef
theorem ga.refl(l:List Oper)(a:Act):ga l a a:=fun _ _=>rfl
theorem ga.put{l:List Oper}{a0 a:Act}{o:Oper}(h:ga l a0 a)(ho:o∈l)(hs:a.tmps.size=a0.tmps.size)(v:Value):ga l a0 (a.put o.dst v):=by
 intro t ht
 rw[←h t ht]
 cases hd:o.dst with
 |none=>rfl
 |some d=>
  have bg:d≠t:=fun hh=>ht (List.mem_filterMap.2 ⟨o,ho,by rw[hd,hh]⟩)
  simp only[Act.put,Array.getD_eq_getD_getElem?]
  rw[Array.getElem?_setIfInBounds_ne bg]
def N9(w:World):S0:={St:=fun b _=>b<w.heap.size,df:=fun _ _=>False,cl:=fun _ _ _=>False}
theorem agf{St:Nat→Nat→Prop}(bc:∀b o,St b o→b<w.heap.size){base zL:Nat}{O O':Nat→Nat→Nat→Prop}(hO:∀b a c,O b a c→b<w.heap.size){x:SV}{v:Value}(r:aR w St base O x v):
  aR w (fun b _=>b<w.heap.size) zL O' (dz x) v:=by
 have up:∀{d:D}{v:Value},bp w St d v→bp w (fun b _=>b<w.heap.size) d v:=fun h=>h.mono fun b o hs=>⟨bc b o hs,rfl⟩
 cases r with
 |d _ x v hd=>exact .d _ _ _ (up hd)
 |own _ sz L g cap hd cd ho=>exact .d _ _ _ (up hd)
 |full _ sz L a hd=>exact .d _ _ _ (up hd)
 |bh _ sz L gg cap vs cd hm aN hf ho aW hc=>
  exact .d _ _ _ (.sl sz L gg 0 cap vs cd (Nat.le_trans cd hm) aN hf (fun o h=>⟨by rw[Nat.zero_add];exact aW o h,hO _ _ _ ho⟩) (fun i x j c h1 h2=>up (hc i x j c h1 h2)))
 |nest _ LL q cap bk cp cd hm ho aW pa uS=>
  have hl:(LL.map fun L=>D.sl .ro 1 L).length =LL.length:=by simp
  have fo:∀{i:Nat}{x:D},(LL.map fun L=>D.sl .ro 1 L)[i]? =some x→∃L,LL[i]? =some L∧x=.sl .ro 1 L:=by
   intro i x hx
   simp only[List.getElem?_map,Option.map_eq_some_iff]at hx
   obtain⟨L,h1,rfl⟩:=hx
   exact⟨L,h1,rfl⟩
  have eM:∀x∈(LL.map fun L=>D.sl .ro 1 L),∃L,x=.sl .ro 1 L:=by
   intro x hx
   obtain⟨L,_,rfl⟩:=List.mem_map.1 hx
   exact⟨L,rfl⟩
  have:=bp.sl (w:=w) (St:=fun b _=>b<w.heap.size) 1 (LL.map fun L=>D.sl .ro 1 L) q 0 cap (fun i=>.slice (some ⟨bk i,0,none⟩) (LL.getD i []).length (cp i)) (by omega) (by omega)
   (fun x hx=>by obtain⟨L,rfl⟩:=eM x hx;rfl) (fun x hx c hc=>by obtain⟨L,rfl⟩:=eM x hx;simp[D.cells]at hc;subst hc;rfl)
   (fun o h=>by
     have cg:o<LL.length:=by rw[hl]at h;omega
     rw[Nat.zero_add]
     refine⟨?_,hO _ _ _ ho⟩
     rw[aW o _ (List.getElem?_eq_getElem cg)];simp[cg])
   (fun i x j c h1 h2=>by
     obtain⟨L,hL,rfl⟩:=fo h1
     have hj:j=0:=by have:=(List.getElem?_eq_some_iff.1 h2).1;simp[D.cells]at this;omega
     subst hj
     simp[D.cells]at h2
     subst h2
     obtain⟨r1,r2,r3,r4,r5,r6⟩:=pa i L hL
     have hg:LL.getD (i*1+0) []=L:=by rw[Nat.mul_one,Nat.add_zero,List.getD_eq_getElem?_getD,hL];rfl
     simp only[hg]
     rw[Nat.mul_one,Nat.add_zero]
     refine .sl 1 L (bk i) 0 (cp i) (fun o=>(w.cell? ⟨bk i,o,none⟩).getD undef) r2 (by omega) (fun x hx=>by rw[KX (r5 x hx)];rfl) (fun x hx c hc=>by rw[KX (r5 x hx)]at hc;simp at hc;subst hc;exact aho (r5 c hx)) (fun o h=>?_) (fun k x j c hk hc=>?_)
     ·have Uv:o<L.length:=by omega
      obtain⟨v',k1,_⟩:=r6 o _ (List.getElem?_eq_getElem Uv)
      rw[Nat.zero_add,k1]
      exact⟨rfl,hO _ _ _ r1⟩
     ·rw[KX (r5 x (List.mem_of_getElem? hk))]at hc
      have hj:j=0:=by have:=(List.getElem?_eq_some_iff.1 hc).1;simp at this;omega
      subst hj
      simp at hc
      subst hc
      obtain⟨v',k1,k2⟩:=r6 k x hk
      rw[Nat.mul_one,Nat.add_zero,k1]
      exact up k2)
  rw[hl]at this
  exact .d _ _ _ this
 |_=>exact .undef _ _
theorem Inv.MP(hI:Inv gl w0 au e a w g):Inv gl w (N9 w) (tJ e) a w ⟨fun b _=>b<w.heap.size,[],fun _=>none⟩:=by
 have up:∀{d:D}{v:Value},bp w g.St d v→bp w (fun b _=>b<w.heap.size) d v:=fun h=>h.mono fun b o hs=>⟨hI.me hs,rfl⟩
 refine⟨Below.refl _ _,by simp[tJ,hI.size],fun i s hs=>?_,rfl,fun b bx ao h1=>by simp[tJ]at h1,fun i j ao h1=>by simp at h1,fun _ _ h=>h,fun b' o h=>⟨.inl h,by simp,h⟩,fun b hb=>by simp at hb,fun n x hx=>?_,hI.defers,fun D o hD=>hD.elim,fun b o v hv=>hv.elim,Nat.zero_le _⟩
 ·simp only[tJ,List.getElem?_map,Option.map_eq_some_iff]at hs
  obtain⟨s0,mr,rfl⟩:=hs
  have h:=hI.ak i s0 mr
  cases s0 with
  |v x=>exact .v _ _ _ (agf (fun b o h=>hI.me h) (O:=gp w0.heap.size w g i 0) (fun b a c h=>h.lt) h.kz)
  |a b n sz=>
   simp only[abJ]
   cases hb:e.boxes[b]? with
   |none=>exact .v _ _ _ (.undef _ _)
   |some bx=>
    cases bx with
    |cells cs=>
     refine .v _ _ _ ?_
     obtain⟨hm,ao,cap,dX,hle,hv,g8,c,ty,hc,cK⟩:=h.C9
     rw[hv]
     unfold Ii
     cases nP:dC cs with
     |none=>exact .undef _ _
     |some L=>
      simp only
      cases yg:(Nat.beq sz 1&&Nat.beq L.length n)with
      |false=>exact .undef _ _
      |true=>
       simp only[Bool.and_eq_true]at yg
       have h1:=Nat.eq_of_beq_eq_true yg.1
       have h2:=Nat.eq_of_beq_eq_true yg.2
       subst h1 h2
       obtain⟨b0,c',oB,jd,cD,hlen,bG⟩:=hI.boxes b _ ao hb dX
       rw[hc]at jd;cases jd
       obtain⟨yV,api⟩:=P9 nP
       have JN:∀(i:Nat)d,L[i]? =some d→i<c.size∧bp w g.St d (c.getD i undef)∧d.one=true:=fun i d hd=>by
        have hi:i<cs.length:=by rw[←yV];exact(List.getElem?_eq_some_iff.1 hd).1
        have yT:i<c.size:=by omega
        have Gi:cs[i]? =some cs[i]:=by simp[hi]
        have hy:c[i]? =some (c[i]'yT):=by simp
        have hr:=(bG i _ _ Gi hy).cB (api i _ d Gi hd)
        have hg:c.getD i undef=c[i]'yT:=by simp[yT]
        rw[hg]
        exact⟨yT,hr,hr.adn (cD i _ (by simpa[af.size]using hi) hy)⟩
       have aP:=gk hc
       refine .d _ _ _ (.sl 1 L ao 0 cap (fun i=>c.getD i undef) hle hm (fun x hx=>?_) (fun x hx k hk=>?_) (fun o ho=>?_) (fun i x j k hx hk=>?_))
       ·obtain⟨i,hi⟩:=List.mem_iff_getElem?.1 hx
        rw[D.vL (JN i x hi).2.2];rfl
       ·obtain⟨i,hi⟩:=List.mem_iff_getElem?.1 hx
        rw[D.vL (JN i x hi).2.2]at hk
        simp at hk;subst hk;exact(JN i _ hi).2.2
       ·have Uv:o<L.length:=by omega
        obtain⟨k1,_,_⟩:=JN o _ (List.getElem?_eq_getElem Uv)
        rw[cell_of_row w ao (0+o) c ty (0,0) hc,Nat.zero_add]
        exact⟨by simp[k1],aP⟩
       ·obtain⟨k1,k2,k3⟩:=JN i x hx
        rw[D.vL k3]at hk
        have hj:j=0:=by have:=(List.getElem?_eq_some_iff.1 hk).1;simp at this;omega
        subst hj
        simp at hk;subst hk
        rw[Nat.mul_one,Nat.add_zero]
        exact up k2
    |_=>exact .v _ _ _ (.undef _ _)
  |_=>exact .v _ _ _ (.undef _ _)
 ·obtain⟨g0,vs,g1,g2⟩:=hI.lS n x hx
  exact⟨g0,vs,fun i hi=>⟨(g1 i hi).1,hI.me (g1 i hi).2⟩,fun i c hc=>up (g2 i c hc)⟩
theorem Inv.Mo(hI:Inv gl w0 au e a w g){ws T:List Nat}{e2:Env}{a2:Act}{w2:World}{g2:Gh}(hL:Inv gl w (N9 w) e2 a2 w2 g2)(hlen:e2.ak.length=e.ak.length)(hk:∀t,t∉ws→a2.tmps.getD t undef=a.tmps.getD t undef)
  (hT:∀t∈T,k9 (e2.ak.getD t (.v .undef)).cC):∃g',Inv gl w0 au (uV ws T e e2) a2 w2 g':=by
 have hb:=hL.below
 have hle:w0.heap.size≤w.heap.size:=hI.below.size
 let g':Gh:={St:=g.St,bx:=g.bx,ow:=fun b=>if b<w.heap.size then g.ow b else g2.ow b}
 have hX:Ext w0.heap.size w g w2 g' (fun _=>False):=by
  refine⟨fun D o fZ ho h=>⟨(hb.block D (gk h)).trans h,fZ,?_,fun _ h=>h⟩,fun b o h=>⟨h,.rP (hb.block b (hI.me h))⟩,fun b o h=>World.cell?_of_block (hb.block b (by omega)),fun _ _ h=>h,fun p b a' c' _ ho=>?_,.of fun b h=>hb.block b h⟩
  ·show(if D<w.heap.size then g.ow D else g2.ow D)=none
   rw[if_pos (gk h)];exact ho
  ·have aP:=ho.lt
   obtain⟨p1,p2,p3,⟨cu,t',p4,vd⟩,p5⟩:=ho
   refine⟨⟨?_,p2,p3,⟨cu,t',(hb.block b aP).trans p4,vd⟩,p5⟩,fun _=>hb.block b aP⟩
   show(if b<w.heap.size then g.ow b else g2.ow b)=some p
   rw[if_pos aP];exact p1
 have eg:Below w0.heap.size w w2:=⟨hb.os,hb.tape,hb.output,hb.size,fun k hk=>hb.block k (by omega)⟩
 refine⟨g',hI.below.trans eg,?_,fun i s hs=>?_,hI.gq,fun b bx ao k1 k2=>hX.box (fun j h=>h) (hb.block ao (hI.dP ao (List.mem_of_getElem? k2)).2) (hI.boxes b bx ao k1 k2),hI.nodup,fun b o h=>hI.iB b o h,fun b o h=>(have:=hI.dj b o h;⟨this.1,this.2.1,Nat.lt_of_lt_of_le this.2.2 hb.size⟩),fun b h=>(have:=hI.dP b h;⟨this.1,Nat.lt_of_lt_of_le this.2 hb.size⟩),hI.lS.ext hX,hL.defers,fun D o hD=>(have h:=hI.gu D o hD;have k:=hX.df D o h.1 h.2.1 h.2.2.1;⟨k.2.1,k.2.2.1,k.1,fun x hx=>h.2.2.2 x (k.2.2.2 x hx)⟩),fun b o v hv=>(have h:=hI.cls b o v hv;⟨(hX.st b o h.1).1,(hX.st b o h.1).2.1.trans h.2⟩),Nat.le_trans hI.k8 eg.size⟩
 ·rw[hL.size,hlen];simp[uV,Pe]
 ·simp only[uV,Px,Nat.zero_add,Option.map_eq_some_iff]at hs
  obtain⟨s0,mr,rfl⟩:=hs
  cases hTi:T.contains i with
  |true=>
   simp only[cond_true]
   have eC:=hT i (by simpa using hTi)
   have hr:=kQ hL i
   simp only[Act.eval]at hr
   cases jR:e2.ak.getD i (.v .undef)with
   |v x=>
    rw[jR]at hr eC
    have hr:=hr.kz
    simp only[Slot.cC]at eC ⊢
    refine .v _ _ _ ?_
    cases x with
    |d x=>
     simp only[qI]
     cases hx:x.qF with
     |true=>exact .d _ _ _ (hr.data.qF hx)
     |false=>exact .undef _ _
    |bh sz L=>
     simp only[qI]
     generalize a2.tmps.getD i undef=v at hr ⊢
     cases hr with
     |bh _ _ _ gg cap vs h1 h2 h3 h4 ho h6 h7=>
      obtain⟨o1,o2,o3,o4,o5⟩:=ho
      refine .bh _ sz L gg cap vs h1 h2 h3 h4 ⟨?_,by omega,fun hm=>by have:=(hI.dP _ hm).2;omega,o4,fun o _ hs=>by have:=hI.me hs;omega⟩ h6 (fun k x j c hx hc=>(h7 k x j c hx hc).qF (eC x (List.mem_of_getElem? hx) c (List.mem_of_getElem? hc)))
      show(if gg<w.heap.size then g.ow gg else g2.ow gg)=some (.s i 0)
      rw[if_neg (by omega)];exact o1
    |_=>exact .undef _ _
   |_=>exact .v _ _ _ (.undef _ _)
  |false=>
   simp only[cond_false]
   cases hwi:ws.contains i with
   |true=>exact .v _ _ _ (.undef _ _)
   |false=>
    simp only[cond_false]
    rw[hk i (by simpa using hwi)]
    exact hX.slot (fun j h=>h) (hI.ak i s0 mr)
variable{ops:Array Oper}{aI:Nat→Bool}{base:Nat}
theorem ga.SY{l:List Oper}{a0 a:Act}{o:Oper}(h:ga l a0 a)(ho:o∈l)(v:Value):ga l a0 (a.put o.dst v):=by
 intro t ht
 rw[←h t ht]
 cases hd:o.dst with
 |none=>rfl
 |some d=>
  have bg:d≠t:=fun hh=>ht (List.mem_filterMap.2 ⟨o,ho,by rw[hd,hh]⟩)
  simp only[Act.put,Array.getD_eq_getD_getElem?]
  rw[Array.getElem?_setIfInBounds_ne bg]
theorem Yd(hI:Inv gl w0 au e a w g){i id:Nat}{l:Bool}{o:Oper}(ho:ops[i]? =some o){k:Env→Prop}
  (h:pO P gl (aF P gl) ops.toList id l o e k){next:Act→World→Prop}{Q:Exit→Act→World→Prop}(hn:∀e' v w' g',Inv gl w0 au e' (a.put o.dst v) w' g'→k e'→next (a.put o.dst v) w'):wpOp P ops Q i next a w:=by
 have h':=CA.1 h
 unfold wpOp
 simp only[ho]
 split at h'
 ·rename_i hg
  rw[if_pos (Ez hI hg)]
  exact .inl (Qc hI h' next Q fun e' v w' g' hinv hk=>hn e' _ w' g' hinv hk)
 ·rename_i hg
  rw[if_neg (by rw[Ez hI hg];simp)]
  exact hn _ _ _ _ (QF hI o.dst) h'
 ·exact h'.elim
theorem ZR{K:Env→Prop}{Q:Exit→Act→World→Prop}{a0:Act}(hQ:∀e a w g,Inv gl w0 au e a w g→K e→ga ops.toList a0 a→Q .normal a w):∀(fuel:Nat)(bS:Array Bool)(e:Env)(a:Act)(w:World)(g:Gh),
  Inv gl w0 au e a w g→ga ops.toList a0 a→yv P gl ops aI base K fuel bS e→wpAny P .any ops Q fuel bS a w
 |0,_,e,a,w,g,hI,eE,h=>⟨h.1,hQ e a w g hI h.2 eE⟩
 |fuel+1,_,e,a,w,g,hI,eE,h=>⟨fun h0=>hQ e a w g hI (h.1 h0) eE,fun i hi=>by
   obtain⟨o,ho,hs⟩:=h.2 i hi
   exact Yd hI ho hs fun e' v w' g' hinv hk=>ZR hQ fuel _ e' _ w' g' hinv (eE.SY (by simpa using Array.mem_of_getElem? ho) v) hk⟩
theorem Lr{l0:List Oper}{K:Env→Prop}{Q:Exit→Act→World→Prop}{a0:Act}{rest:List Nat}(hQ:∀e a w g,Inv gl w0 au e a w g→K e→ga l0 a0 a→wpOps P ops Q rest a w):∀(l:List Oper)(i:Nat)(e:Env)(a:Act)(w:World)(g:Gh),
  (∀j,j<l.length→l[j]? =ops[i+j]?)→(∀o∈l,o∈l0)→Inv gl w0 au e a w g→ga l0 a0 a→jb P gl (aF P gl) aI ops.toList base l i e K→wpOps P ops Q (List.range' i l.length++rest) a w
 |[],_,e,a,w,g,_,_,hI,eE,h=>hQ e a w g hI h eE
 |o::l,i,e,a,w,g,hl,hm,hI,eE,h=>by
  have h0:ops[i]? =some o:=by simpa using(hl 0 (by simp)).symm
  rw[List.length_cons,List.range'_succ,List.cons_append,wpOps_cons]
  rw[Bm]at h
  exact Yd hI h0 h fun e' v w' g' hinv hk=>Lr hQ l (i+1) e' _ w' g' (fun j hj=>by have:=hl (j+1) (by simpa using hj);simpa[Nat.add_assoc,Nat.add_comm 1 j]using this) (fun o ho=>hm o (List.mem_cons_of_mem _ ho)) hinv (eE.SY (hm o (by simp)) v) hk
theorem aaS(hI:Inv gl w0 au e a w g)(eC:o0 aI ops=true)(mB:gm ops.toList ops.toList.length=0){K:Env→Prop}(h:jb P gl (aF P gl) aI ops.toList e.boxes.length ops.toList 0 e K):
  ∃g2,Inv gl w0 au e a {w with drawn:=w.drawn+1} g2∧yv P gl ops aI e.boxes.length K ops.size (Array.replicate ops.size false) e:=by
 have bD:=hI.Hd (gm ops.toList ops.toList.length)
 have JC:=hI.Sl (ops:=ops) (gm ops.toList ops.toList.length) rfl
 have he:(⟨e.ak,e.boxes++List.replicate (gm ops.toList ops.toList.length) .none⟩:Env)=e:=by rw[mB];cases e;simp
 have cF:=bD.drew
 have aN:(Array.replicate ops.size false).size =ops.size:=by simp
 obtain⟨E,wN,eC⟩:∃E,Js ops aI e.boxes.length _ E (Array.replicate ops.size false) ⟨e.ak,e.boxes++List.replicate (gm ops.toList ops.toList.length) .none⟩∧Br E ops aI (reach [] ops.toList) ops.toList 0=true:=by
  unfold o0 at eC
  cases fo:eligible ops.toList aI (reach [] ops.toList)with
  |true=>rw[fo]at eC;exact⟨_,fun A hA=>by cases hA;exact⟨rfl,Rc fo,JC⟩,eC⟩
  |false=>rw[fo]at eC;exact⟨none,fun A hA=>(by cases hA),eC⟩
 have:=LO (P:=P) (gl:=gl) (base:=e.boxes.length) (aI:=aI) ops.toList 0 (Array.replicate ops.size false) _ (fun j=>by simp) (fun j hj=>by omega) (fun j _ hj=>by simp[hj]) aN
  (fun j o ho hl=>by
    have hj:j<ops.size:=(Array.getElem?_eq_some_iff.1 ho).1
    simp[hj]at hl) ⟨w0,au,a,_,_,cF⟩ wN eC (by rw[he];exact h)
 rw[he]at cF this
 exact⟨_,cF,by simpa using this⟩
theorem Ye{draw ok:Bool}{m0 m1:Nat}{T:List Nat}(hf:CU ops draw ok m0 m1 T=true)(hd:draw=true){K:Env→Prop}(h:sn P gl (aF P gl) m0 m1 T ops.toList aI e K):
  ok=true∧gm ops.toList ops.toList.length=0∧jb P gl (aF P gl) aI ops.toList 0 ops.toList 0 (tJ e) (fun e2=>Au e2 (K (uV (ops.toList.filterMap (·.dst)) T e e2)) T):=by
 obtain⟨h1,h2,h3,h4,h5⟩:=KJ hf
 rcases h2 with⟨rfl,rfl⟩|h2
 ·refine⟨h3,h1,?_⟩
  unfold sn at h
  simp only[List.take_zero,List.drop_zero,List.take_length,List.drop_length,jb]at h
  exact h
 ·rw[hd]at h2;cases h2
theorem aht(hI:Inv gl w0 au e a w g){id:Nat}{draw ok:Bool}(eC:ok=(!draw||o0 aI ops)){m0 m1:Nat}{T:List Nat}(hf:CU ops draw ok m0 m1 T=true){K:Env→Prop}{Q:Exit→Act→World→Prop}(hm:P.follows .mixedOrders =true)
  (h:sn P gl (aF P gl) m0 m1 T ops.toList aI e K)(hQ:∀e a w g,Inv gl w0 au e a w g→K e→Q .normal a w):(Code.region id ops draw).wp P Q a w:=by
 cases draw with
 |true=>
  obtain⟨h1,h2,h3⟩:=Ye hf rfl h
  rw[h1]at eC
  refine wp_region_any hm ?_
  have hlen:∀{e2:Env},e2.ak.length=(tJ e).ak.length →e2.ak.length=e.ak.length:=fun h=>by rw[h];simp[tJ]
  have hID:Inv gl w0 au e a {w with drawn:=w.drawn+1} g:=hI.drew
  obtain⟨g2,cF,Dr⟩:=aaS hI.MP (by simpa using eC.symm) h2 (zd _ _ _ h3)
  have bc:N9 {w with drawn:=w.drawn+1}=N9 w:=rfl
  refine ZR (a0:=a) (fun e2 a2 w2 g2 hinv hk eE=>?_) _ _ _ _ _ _ cF (ga.refl _ _) Dr
  obtain⟨hk,np,_⟩:=hk
  obtain⟨hK,hT⟩:=Hf _ hk
  obtain⟨g',hY⟩:=hI.Mo (ws:=ops.toList.filterMap (fun o:Oper=>o.dst)) (T:=T) hinv (hlen np) eE hT
  exact hQ _ _ _ _ hY hK
 |false=>
  obtain⟨h1,_,_,h4,h5⟩:=KJ hf
  unfold sn at h
  refine wp_region ?_
  have aN:ops.toList.length=ops.size:=by simp
  have hr:List.range ops.size=List.range' 0 (ops.toList.take m0).length ++(List.range' m0 ((ops.toList.drop m0).take m1).length ++(List.range' (m0+m1) ((ops.toList.drop m0).drop m1).length ++[])):=by
   rw[List.range_eq_range',List.append_nil]
   simp only[List.length_take,List.length_drop]
   rw[show min m0 ops.toList.length=m0 by omega,show min m1 (ops.toList.length-m0)=m1 by omega]
   have:=List.range'_append_1 (s:=m0) (m:=m1) (n:=ops.toList.length-m0-m1)
   rw[this]
   have:=List.range'_append_1 (s:=0) (m:=m0) (n:=m1+(ops.toList.length-m0-m1))
   rw[Nat.zero_add]at this
   rw[this]
   congr 1;omega
  rw[hr]
  refine Lr (l0:=ops.toList.take m0) (a0:=a) (fun e1 a1 w1 g1 dD jS _=>?_) _ 0 e a w g (fun j hj=>?_) (fun _ h=>h) hI (ga.refl _ _) h
  ·refine Lr (l0:=(ops.toList.drop m0).take m1) (a0:=a1) (fun e2 a2 w2 g2 cF jf sE=>?_) _ m0 _ a1 w1 _ (fun j hj=>?_) (fun _ h=>h) dD.MP (ga.refl _ _) (zd _ _ _ jS)
   ·obtain⟨jf,np,_⟩:=jf
    obtain⟨hK,hT⟩:=Hf _ jf
    obtain⟨g',hY⟩:=dD.Mo (ws:=((ops.toList.drop m0).take m1).filterMap (fun o:Oper=>o.dst)) (T:=T) cF (by rw[np];simp[tJ]) sE hT
    refine Lr (P:=P) (Q:=Q) (rest:=[]) (l0:=(ops.toList.drop m0).drop m1) (a0:=a2) (fun e3 a3 w3 g3 gK Uw _=>hQ _ _ _ _ gK Uw) _ _ _ a2 w2 g' (fun j hj=>?_) (fun _ h=>h) hY (ga.refl _ _) hK
    rw[List.getElem?_drop,List.getElem?_drop,Array.getElem?_toList]
    congr 1;omega
   ·simp only[List.length_take]at hj
    rw[List.getElem?_take,if_pos (by omega),List.getElem?_drop,Array.getElem?_toList]
  ·simp only[List.length_take]at hj
   rw[List.getElem?_take,if_pos (by omega),Array.getElem?_toList,Nat.zero_add]
end
section
variable{P:Program}{gl:Nat→Option D}{h:Hints}
def Gh.cut(g:Gh)(n:Nat):Gh:={g with bx:=g.bx.take n}
theorem Hz{g:Gh}{n i:Nat}{x:Option Nat}(hi:i<n):(g.cut n).bx[i]? =some x↔g.bx[i]? =some x:=by
 simp only[Gh.cut];rw[List.getElem?_take,if_pos hi]
theorem Et{g:Gh}{n i:Nat}{x:Option Nat}(h:(g.cut n).bx[i]? =some x):i<n∧g.bx[i]? =some x:=by
 simp only[Gh.cut]at h
 rw[List.getElem?_take]at h
 split at h
 ·exact⟨by assumption,h⟩
 ·cases h
theorem zo{g:Gh}{n:Nat}{x:Option Nat}(h:x∈(g.cut n).bx):x∈g.bx:=List.mem_of_mem_take h
theorem Re{base:Nat}{w:World}{g:Gh}{n:Nat}{p:Pos}{b a c:Nat}(h:fA base w g p b a c):fA base w (g.cut n) p b a c:=
 ⟨h.1,h.2.1,fun hm=>h.2.2.1 (zo hm),h.2.2.2⟩
theorem Hg{base Fq:Nat}{w w1:World}{g g1:Gh}{s:Slot}{v v1:Value}{O O1:Nat→Nat→Nat→Nat→Prop}(h0:cQ Fq w g O s v)(h1:cQ base w1 g1 O1 s v1){n:Nat}(hn:g.bx.length≤n):
  ∀O2,(∀x,s≠.v x)→(∀x,s≠.t x)→cQ base w1 (g1.cut n) O2 s v1:=by
 have key:∀{s:Slot}{v1:Value}{O1:Nat→Nat→Nat→Nat→Prop},cQ base w1 g1 O1 s v1→∀{O v},cQ Fq w g O s v→∀O2,(∀j b a c,O1 j b a c→O2 j b a c)→cQ base w1 (g1.cut n) O2 s v1:=by
  intro s v1 O1 h1
  induction h1 with
  |v O1 x y hx=>intro O v _ O2 hO;exact .v _ _ _ (hx.mono (fun _ _ h=>(by first|exact⟨h,rfl⟩|exact⟨h,.refl _ _ _⟩)) (fun _ _ _=>rfl) _ (fun b a c h=>⟨hO 0 b a c h,.refl _ _ _⟩))
  |p O1 b off ao hb=>
   intro O v h0 O2 hO
   obtain⟨acs,_,wK⟩:=h0.pN
   have:=(List.getElem?_eq_some_iff.1 wK).1
   exact .p _ b off ao ((Hz (by omega)).2 hb)
  |a O1 b n1 JO v hm hb=>
   intro O v h0 O2 hO
   cases h0 with
   |a _ _ _ _ _ _ wK=>
    obtain⟨acs,_,wK,_⟩:=wK
    obtain⟨ao,cap,hb,h2,h3⟩:=hb
    have:=(List.getElem?_eq_some_iff.1 wK).1
    exact .a _ b n1 JO _ hm ⟨ao,cap,(Hz (by omega)).2 hb,h2,h3⟩
  |m O1 b ao hb=>
   intro O v h0 O2 hO
   cases h0 with
   |m _ _ acs wK=>
    have:=(List.getElem?_eq_some_iff.1 wK).1
    exact .m _ b ao ((Hz (by omega)).2 hb)
  |c O1 f first cap fv cv hf hc _ _ kZ k7=>
   intro O v h0 O2 hO
   cases h0 with
   |c _ _ _ _ fv0 cv0 hf0 sQ rf0 rc0=>
    refine .c _ f first cap fv cv hf hc (fun i x v hx hv=>?_) (fun i x v hx hv=>?_)
    ·have hi:i<fv0.size:=by rw[←hf0];exact(List.getElem?_eq_some_iff.1 hx).1
     exact kZ i x v hx hv (rf0 i x fv0[i] hx (by simp)) _ (fun _ _ _ _ h=>h)
    ·have hi:i<cv0.size:=by rw[←sQ];exact(List.getElem?_eq_some_iff.1 hx).1
     exact k7 i x v hx hv (rc0 i x cv0[i] hx (by simp)) _ (fun _ _ _ _ h=>h)
  |t O1 xs vs hl hc=>
   intro O v _ O2 hO
   exact .t _ xs vs hl fun j x v a b=>(hc j x v a b).mono (fun _ _ h=>(by first|exact⟨h,rfl⟩|exact⟨h,.refl _ _ _⟩)) (fun _ _ _=>rfl) _ (fun b a c h=>⟨hO j b a c h,.refl _ _ _⟩)
 intro O2 hv ht
 cases h1 with
 |v _ x _ _=>exact absurd rfl (hv x)
 |t _ x _ _ _=>exact absurd rfl (ht x)
 |p _ b off ao hb=>exact key (.p O2 b off ao hb) h0 _ (fun _ _ _ _ h=>h)
 |a _ b n1 JO _ hm hb=>exact key (.a O2 b n1 JO _ hm hb) h0 _ (fun _ _ _ _ h=>h)
 |m _ b ao hb=>exact key (.m O2 b ao hb) h0 _ (fun _ _ _ _ h=>h)
 |c _ f first cap fv cv hf hc rf rc=>exact key (.c O2 f first cap fv cv hf hc rf rc) h0 _ (fun _ _ _ _ h=>h)
theorem Qi{w0:World}{au:S0}{e e1:Env}{a a1:Act}{w w1:World}{g g1:Gh}(hI:Inv gl w0 au e a w g)(dD:Inv gl w0 au e1 a1 w1 g1){b:Code}(hf:Fr h.gh b e e1){vars consts:List Nat}
  (hc:∀t∈consts,t∉dr h.gh b):Inv gl w0 au (again vars consts (xS e1 vars) (xH e.boxes.length e1) e) a1 w1 (g1.cut e.boxes.length):=by
 have hX:Ext w0.heap.size w1 g1 w1 {g1 with bx:=g1.bx} (fun _=>False):=⟨fun _ _ hb ho h=>⟨h,hb,ho,fun _ h=>h⟩,fun _ _ h=>(by first|exact⟨h,rfl⟩|exact⟨h,.refl _ _ _⟩),fun _ _ _=>rfl,fun _ _ h=>h,fun _ _ _ _ _ h=>⟨h,.refl _ _ _⟩,.refl _⟩
 refine⟨dD.below,?_,?_,?_,?_,?_,dD.iB,?_,?_,?_,dD.defers,fun D o hD=>(have h:=dD.gu D o hD;⟨fun hm=>h.1 (zo hm),h.2⟩),dD.cls,dD.k8⟩
 ·rw[dD.size,hf.1];simp[again,O9]
 ·intro i s hs
  simp only[again,Pb,Option.map_eq_some_iff,Nat.zero_add]at hs
  obtain⟨s0,mr,rfl⟩:=hs
  have h1:=kQ dD i
  simp only[Act.eval]at h1
  split
  ·rename_i j hj
   obtain⟨_,sN⟩:=Xt hj
   simp only[Nat.sub_zero]at sN
   have hv:ae (xS e1 vars) j=(e1.ak.getD i (.v .undef)).cC :=by
    simp[ae,xS,List.getD_eq_getElem?_getD,List.getElem?_map,sN]
   rw[hv]
   cases jR:e1.ak.getD i (.v .undef)with
   |v x=>
    rw[jR]at h1
    exact .v _ _ _ (h1.kz.mono (fun _ _ h=>(by first|exact⟨h,rfl⟩|exact⟨h,.refl _ _ _⟩)) (fun _ _ _=>rfl) _ (fun _ _ _ h=>⟨Re h,.refl _ _ _⟩))
   |_=>exact .v _ _ _ (.undef _ _)
  ·cases eB:consts.contains i with
   |false=>exact .v _ _ _ (.undef _ _)
   |true=>
    have JB:=hc i (by simpa using eB)
    have bc:=hf.2.2.1 i JB
    have apj:e.ak.getD i (.v .undef)=s0:=by rw[List.getD_eq_getElem?_getD,mr];rfl
    rw[apj]at bc
    have h0:=hI.ak i s0 mr
    cases s0 with
    |v x=>exact .v _ _ _ (.undef _ _)
    |t x=>exact .v _ _ _ (.undef _ _)
    |p b' off=>
     have fg:e1.ak.getD i (.v .undef)=.p b' off:=by
      revert bc
      cases e1.ak.getD i (.v .undef)<;>simp[Slot.stays]
     rw[fg]at h1
     exact Hg h0 h1 (by rw[hI.gq];exact Nat.le_refl _) _ (by simp) (by simp)
    |a b' n1 JO=>
     have fg:e1.ak.getD i (.v .undef)=.a b' n1 JO:=by
      revert bc
      cases e1.ak.getD i (.v .undef)<;>simp[Slot.stays]
     rw[fg]at h1
     exact Hg h0 h1 (by rw[hI.gq];exact Nat.le_refl _) _ (by simp) (by simp)
    |m b'=>
     have fg:e1.ak.getD i (.v .undef)=.m b':=by
      revert bc
      cases e1.ak.getD i (.v .undef)<;>simp[Slot.stays]
     rw[fg]at h1
     exact Hg h0 h1 (by rw[hI.gq];exact Nat.le_refl _) _ (by simp) (by simp)
    |c f first cap=>
     have fg:e1.ak.getD i (.v .undef)=.c f first cap:=by
      revert bc
      cases e1.ak.getD i (.v .undef)<;>simp[Slot.stays]<;>intros<;>simp_all
     rw[fg]at h1
     exact Hg h0 h1 (by rw[hI.gq];exact Nat.le_refl _) _ (by simp) (by simp)
 ·simp only[again,Pa,Gh.cut,List.length_take,dD.gq]
  have:=hf.2.1
  omega
 ·intro b' bx ao h1 h2
  obtain⟨aP,h2⟩:=Et h2
  simp only[again,Pc,Option.map_eq_some_iff,Nat.zero_add]at h1
  obtain⟨JP,apk,rfl⟩:=h1
  have Nl:b'<e1.boxes.length:=by rw[←dD.gq];exact(List.getElem?_eq_some_iff.1 h2).1
  have hr:=dD.boxes b' e1.boxes[b'] ao (by simp) h2
  have BI:=hf.2.2.2 b' aP
  rw[List.getD_eq_getElem?_getD,List.getD_eq_getElem?_getD,apk,List.getElem?_eq_getElem Nl,Option.getD_some,Option.getD_some]at BI
  have anE:an (xH e.boxes.length e1) b'=e1.boxes[b'].az :=by
   simp[an,xH,List.getD_eq_getElem?_getD,aP,Nl]
  rw[anE]
  generalize e1.boxes[b']=Uz at hr BI
  have BI:JP≠.none ∧Uz.isMap=JP.isMap:=by
   rcases BI with h|h
   ·subst h;exact hr.elim
   ·exact h
  have uJ:∀cs,Uz.isMap=false→af.again cs JP=.cells cs:=fun cs h=>by
   rw[h]at BI
   cases JP<;>first|rfl|exact absurd rfl BI.1|exact absurd BI.2 (by simp[af.isMap])
  cases Uz with
  |none=>exact hr.elim
  |cells cs=>
   rw[uJ _ rfl]
   obtain⟨r1,c,t,r2,r3,r4⟩:=hr
   exact⟨r1,c,t,r2,r3,r4.1,fun j x y hx hy=>(r4.2 j x y hx hy).mono (fun _ _ h=>(by first|exact⟨h,rfl⟩|exact⟨h,.refl _ _ _⟩)) (fun _ _ _=>rfl) _ (fun _ _ _ h=>⟨Re h,.refl _ _ _⟩)⟩
  |one s=>
   rw[uJ _ rfl]
   obtain⟨r1,c,t,r2,r3,r4⟩:=hr
   refine⟨r1,c,t,r2,r3,Nat.succ_le_of_lt r4.1,fun j x y hx hy=>?_⟩
   have:x=.undef :=by
    cases j<;>simp[af.az]at hx
    exact hx.symm
   subst this
   exact .undef _ _
  |map l=>
   cases JP with
   |map l0=>
    obtain⟨r1,es,clock,r2,r3,r4⟩:=hr
    exact⟨r1,es,clock,r2,r3,r4⟩
   |_=>exact absurd BI.2 (by simp[af.isMap])
 ·intro i j ao h1 h2
  exact dD.nodup i j ao (Et h1).2 (Et h2).2
 ·intro b' o h'
  exact⟨(dD.dj b' o h').1,fun hm=>(dD.dj b' o h').2.1 (zo hm),(dD.dj b' o h').2.2⟩
 ·intro b' h'
  exact dD.dP b' (zo h')
 ·exact dD.lS
theorem KZ{w0:World}{au:S0}{e:Env}{a:Act}{w:World}{g:Gh}(hI:Inv gl w0 au e a w g){key:Nat}{c:Code}{QA:Ex→Env→Prop}{T:(Ex→Env→Prop)→Prop}
  (hF:∀Q,T Q→T (fun ex e'=>Q ex e'∧Fr h.gh c e e'))(hh:uN h key c e QA T):
  ∃yY,T yY∧∀ex e' a' w' g',Inv gl w0 au e' a' w' g'→yY ex e'→∃oA AJ,Inv gl w0 au oA a' w' AJ∧QA ex oA:=by
 unfold uN at hh
 generalize qz h.fI key=kk at hh
 obtain⟨vars,consts⟩:=kk
 cases vars<;>cases consts
 ·exact⟨_,hh,fun ex e' a' w' g' h1 h2=>⟨e',g',h1,h2⟩⟩
 all_goals
  obtain⟨hb,hh⟩:=qp (hh:cond _ _ False)
  simp only[Bool.and_eq_true,List.all_eq_true,Bool.not_eq_true',List.contains_eq_mem,decide_eq_false_iff_not]at hb
  refine⟨_,hF _ hh,fun ex e' a' w' g' h1 h2=>?_⟩
  obtain⟨h2,hf⟩:=h2
  cases ex with
  |normal=>exact⟨_,_,Qi hI h1 hf hb.1,h2⟩
  |exit i=>exact⟨e',g',h1,h2⟩
  |ret=>exact⟨e',g',h1,h2⟩
theorem Wu{id:Nat}{ops:Array Oper}{draw:Bool}{e:Env}(Q:Ex→Env→Prop)(hh:pb P gl (aF P gl) h id ops draw e (Q .normal)):
 pb P gl (aF P gl) h id ops draw e (fun e2=>Q .normal e2∧Fr h.gh (.region id ops draw) e e2):=Xs hh
theorem ai7{w0:World}{au:S0}{e:Env}{a:Act}{w:World}{g:Gh}(hI:Inv gl w0 au e a w g){id:Nat}{ops:Array Oper}{draw:Bool}{K:Env→Prop}{Q:Exit→Act→World→Prop}(hm:P.follows .mixedOrders =true)
  (hh:pb P gl (aF P gl) h id ops draw e K)(hQ:∀e a w g,Inv gl w0 au e a w g→K e→Q .normal a w):(Code.region id ops draw).wp P Q a w:=by
 unfold pb at hh
 obtain⟨hb,hh⟩:=qp hh
 obtain⟨e1,g1,dD,h1⟩:=EJ hI hh
 have wP:∀e a w g,Inv gl w0 au e a w g→iL (ku h.gh (4000000+id)) e K→Q .normal a w:=fun e a w g h1 h2=>by
  obtain⟨e2,g2,cF,h3⟩:=EJ h1 h2
  exact hQ e2 a w g2 cF h3
 cases hl:E7 h.gh id with
 |some mT=>
  simp only[hl]at h1
  obtain⟨hf,h1⟩:=qp h1
  exact aht dD rfl hf hm h1 fun e' a' w' g' bD hk=>wP e' a' w' g' bD hk
 |none=>
 simp only[hl]at h1
 cases hs:zy P (C2 h.gh id) draw ops.toList with
 |some s=>
  simp only[hs]at h1
  obtain⟨hd,UA⟩:=PG hs
  subst hd
  have hr:=YY dD UA h1
  refine wp_region ?_
  have:=ZQ (ops:=ops) (Q:=Q) (fun a' w'⟨e',g',bD,hk⟩=>wP e' a' w' g' bD hk) ops.toList 0 (fun j=>by simp) hr
  rw[List.range_eq_range']
  simpa using this
 |none=>
  simp only[hs]at h1
  exact aga dD hm h1 fun e' a' w' g' bD hk=>wP e' a' w' g' bD hk
theorem Xv{c:Operand}{a b:Code}{e:Env}(Q:Ex→Env→Prop)(hh:sg e c (aw P gl (aF P gl) h a Q) (aw P gl (aF P gl) h b Q)):
  sg e c (aw P gl (aF P gl) h a fun x e'=>Q x e'∧Fr h.gh (.cond c a b) e e') (aw P gl (aF P gl) h b fun x e'=>Q x e'∧Fr h.gh (.cond c a b) e e'):=
 PH (A:=aw P gl (aF P gl) h a Q) (B:=aw P gl (aF P gl) h b Q)
     (fun ha=>od a (fun y e2 hy=>⟨hy.1,hy.2.mono fun t ht=>by simp[dr,ht]⟩) (uF a ha)) (fun hb=>od b (fun y e2 hy=>⟨hy.1,hy.2.mono fun t ht=>by simp[dr,ht]⟩) (uF b hb)) hh
theorem xE(hm:P.follows .mixedOrders =true):∀(c:Code){w0:World}{au:S0}{QA:Ex→Env→Prop}{e:Env}{a:Act}{w:World}{g:Gh}{Q:Exit→Act→World→Prop},
  Inv gl w0 au e a w g→aw P gl (aF P gl) h c QA e→(∀x e' a' w' g',Inv gl w0 au e' a' w' g'→QA x e'→Q x.to a' w')→c.wp P Q a w
 | .skip,_,_,_,_,_,_,_,_,hI,hh,hQ=>wp_skip (hQ .normal _ _ _ _ hI hh)
 | .region id ops draw,w0,au,QA,e,a,w,g,Q,hI,hh,hQ=>by
   obtain⟨yY,hh,hj⟩:=KZ hI (c:=.region id ops draw) (T:=fun Q=>pb P gl (aF P gl) h id ops draw e (Q .normal)) (fun Q hh=>Wu Q hh) hh
   have hQ:∀x e' a' w' g',Inv gl w0 au e' a' w' g'→yY x e'→Q x.to a' w':=fun x e' a' w' g' h1 h2=>(by
    obtain⟨oA,AJ,h3,h4⟩:=hj x e' a' w' g' h1 h2
    exact hQ x oA a' w' AJ h3 h4)
   clear hj
   exact ai7 hI hm hh fun e' a' w' g' bD hk=>hQ .normal e' a' w' g' bD hk
 | .seq x y,w0,au,QA,e,a,w,g,Q,hI,hh,hQ=>by
   refine wp_seq (xE hm x hI hh fun ex e' a' w' g' bD hk=>?_)
   cases ex with
   |normal=>exact xE hm y bD hk hQ
   |exit i=>exact hQ (.exit i) e' a' w' g' bD hk
   |ret=>exact hQ .ret e' a' w' g' bD hk
 | .cond c x y,w0,au,QA,e,a,w,g,Q,hI,hh,hQ=>by
   obtain⟨yY,hh,hj⟩:=KZ hI (c:=.cond c x y) (T:=fun Q=>sg e c (aw P gl (aF P gl) h x Q) (aw P gl (aF P gl) h y Q)) (fun Q hh=>Xv Q hh) hh
   have hQ:∀x e' a' w' g',Inv gl w0 au e' a' w' g'→yY x e'→Q x.to a' w':=fun x e' a' w' g' h1 h2=>(by
    obtain⟨oA,AJ,h3,h4⟩:=hj x e' a' w' g' h1 h2
    exact hQ x oA a' w' AJ h3 h4)
   clear hj
   cases c with
   |tmp t=>
    simp only[sg]at hh
    have hs:=kQ hI t
    cases hx:e.ak.getD t (.v .undef)with
    |v z=>
     rw[hx]at hh hs
     obtain⟨b,rfl,h1,h2⟩:=EI hh
     have hv:=hs.kz.data.xD
     refine wp_cond_split hv (fun hb=>?_) (fun hb=>?_)
     ·have:=h1 hb
      subst hb
      rw[zg hx]at this
      exact xE hm x hI this hQ
     ·have:=h2 hb
      subst hb
      rw[zg hx]at this
      exact xE hm y hI this hQ
    |_=>rw[hx]at hh;exact hh.elim
   |const v=>
    cases v with
    |bool b=>
     refine wp_cond_split (t:=b) rfl (fun hb=>?_) (fun hb=>?_)
     ·subst hb;exact xE hm x hI hh hQ
     ·subst hb;exact xE hm y hI hh hQ
    |_=>exact hh.elim
   |_=>exact hh.elim
 | .block id b,w0,au,QA,e,a,w,g,Q,hI,hh,hQ=>by
   refine wp_block (xE hm b hI hh fun ex e' a' w' g' bD hk=>?_)
   cases ex with
   |normal=>exact hQ .normal e' a' w' g' bD hk
   |exit i=>
    have bY:cond (i==id) (QA .normal e') (QA (.exit i) e'):=hk
    show(if i=id then Q .normal a' w' else Q (.exit i) a' w')
    cases hb:(i==id)with
    |true=>
     rw[hb]at bY
     rw[if_pos (beq_iff_eq.1 hb)]
     exact hQ .normal e' a' w' g' bD bY
    |false=>
     rw[hb]at bY
     rw[if_neg (beq_eq_false_iff_ne.1 hb)]
     exact hQ (.exit i) e' a' w' g' bD bY
   |ret=>exact hQ .ret e' a' w' g' bD hk
 | .loop b,w0,au,QA,e,a,w,g,Q,hI,hh,hQ=>by
   obtain⟨hb,hh⟩:=qp (hh:cond _ _ False)
   simp only[Bool.and_eq_true,List.all_eq_true,Bool.not_eq_true',List.contains_eq_mem,decide_eq_false_iff_not]at hb
   obtain⟨SZ,hk⟩:=hb
   let LW:Act→World→Prop:=fun a1 w1=>∀(fr:Frame)(k:List Item)(cs:List Frame),∃ex a' w',Q ex a' w'∧Arrives P (lone (fr.at a1 (.code b::.inLoop b::k)) cs w1) fr k cs ex a' w'
   let I:List SV→List (List SV)→Prop:=fun vs bs=>∀e1 a1 w1 g1,Inv gl w0 au e1 a1 w1 g1→Fr h.gh b e e1→xS e1 (qz h.fI (pI b)).1=vs→xH e.boxes.length e1=bs→LW a1 w1
   have key:I _ _:=hh I fun vs bs hF e1 a1 w1 g1 dD np mn jF=>by
    subst mn jF
    have UB:=Qi hI dD np (vars:=(qz h.fI (pI b)).1) SZ
    have kT:=xE hm b (Q:=fun ex a' w'=>match ex with| .normal =>LW a' w'|ex=>Q ex a' w') UB (uF b hF) (fun ex e' a' w' g' bD bY=>by
     obtain⟨jS,jf⟩:=bY
     cases ex with
     |normal=>exact jS e' a' w' g' bD ((Lq hk).trans jf (fun t ht=>ht) (fun t ht=>ht)) rfl rfl
     |exit i=>exact hQ (.exit i) e' a' w' g' bD jS
     |ret=>exact hQ .ret e' a' w' g' bD jS)
    intro fr k cs
    obtain⟨ex,a2,w2,hq,pd⟩:=kT fr (.inLoop b::k) cs
    cases ex with
    |normal=>
     obtain⟨e₂,a₂,w₂,UC,Sn⟩:=hq fr k cs
     exact⟨e₂,a₂,w₂,UC,.of_steps (Steps.trans pd (.one step_inLoop)) Sn⟩
    |exit id=>exact⟨_,a2,w2,hq,.pass (x:=.inLoop b) rfl (fun _ _=>.inl (by simp)) pd⟩
    |goto l=>exact⟨_,a2,w2,hq,.pass (x:=.inLoop b) rfl (fun _ _=>.inl (by simp)) pd⟩
    |ret=>exact⟨_,a2,w2,hq,.pass (x:=.inLoop b) rfl (fun _ _=>.inl (by simp)) pd⟩
    |panic ch=>exact⟨_,a2,w2,hq,.pass (x:=.inLoop b) rfl (fun _ _=>.inl (by simp)) pd⟩
    |outgrown=>exact⟨_,a2,w2,hq,.pass (x:=.inLoop b) rfl (fun _ _=>.inl (by simp)) pd⟩
   have UD:LW a w:=key e a w g hI (Fr.refl _ _) rfl rfl
   intro fr k cs
   obtain⟨ex,a',w',hq,pd⟩:=UD fr k cs
   exact⟨ex,a',w',hq,.of_steps (.one step_loop) pd⟩
 | .exit id,_,_,_,_,_,_,_,_,hI,hh,hQ=>wp_exit (hQ (.exit id) _ _ _ _ hI hh)
 | .ret,_,_,_,_,_,_,_,_,hI,hh,hQ=>wp_ret (hQ .ret _ _ _ _ hI hh)
 | .goto _,_,_,_,_,_,_,_,_,_,hh,_=>hh.elim
 | .label _,_,_,_,_,_,_,_,_,hI,hh,hQ=>wp_label (hQ .normal _ _ _ _ hI hh)
 | .scope _,_,_,_,_,_,_,_,_,_,hh,_=>hh.elim
 | .rangeFunc _ _ _ _,_,_,_,_,_,_,_,_,_,hh,_=>hh.elim
 | .refuse _,_,_,_,_,_,_,_,_,_,hh,_=>hh.elim
theorem agh{f:FuncId}{fn:Func}{c:Code}(hf:P.funcs[f]? =some fn)(So:(fn.name== "runtime.NumGoroutine")=false)(hb:fn.body=some c):oX P f:=by
 intro args w
 have h1:fn.name≠ "runtime.NumGoroutine" :=by simpa using So
 simp[callFunc,hf,h1,hb]
theorem aR.Fq{w:World}{St:Nat→Nat→Prop}{base:Nat}{O:Nat→Nat→Nat→Prop}{x:SV}{v:Value}(r:aR w St base O x v)(hx:x.aA=true):aR w St 0 O x v:=by
 have hL:∀{l:List SV},SV.iZ l=true→∀(i:Nat)y,l[i]? =some y→y.aA=true:=by
  intro l
  induction l with
  |nil=>intro _ i y h;simp at h
  |cons z l ih=>
   intro h i y hy
   simp only[SV.iZ,Bool.and_eq_true]at h
   cases i with
   |zero=>simp at hy;subst hy;exact h.1
   |succ i=>exact ih h.2 i y (by simpa using hy)
 induction r with
 |d O x v hd=>exact .d O x v hd
 |own O sz L g cap hd cd ho=>exact .own O sz L g cap hd cd ho
 |full O sz L a hd=>exact .full O sz L a hd
 |ref=>simp[SV.aA]at hx
 |dg=>simp[SV.aA]at hx
 |aX O x off b o vs hf aW hc=>exact .aX O x off b o vs hf aW hc
 |ef O f first cap fv cv hf hc _ _ kZ k7=>
  simp only[SV.aA,Bool.and_eq_true]at hx
  exact .ef O f first cap fv cv hf hc (fun i x v a b=>kZ i x v a b (hL hx.1 i x a)) (fun i x v a b=>k7 i x v a b (hL hx.2 i x a))
 |bh O sz L g cap vs h1 h2 h3 h4 h5 h6 h7=>exact .bh O sz L g cap vs h1 h2 h3 h4 h5 h6 h7
 |mp O l r es clock hh hs hl hc=>exact .mp O l r es clock hh hs hl hc
 |nest O LL gg cap bk cp h1 h2 h3 h4 h5 h6=>exact .nest O LL gg cap bk cp h1 h2 h3 h4 h5 h6
 |undef O v=>exact .undef O v
theorem aR.ai8{w:World}{St:Nat→Nat→Prop}{base:Nat}{O:Nat→Nat→Nat→Prop}{l:List SV}{v:Value}(r:aR w St base O (.aK l) v):False:=by cases r
def CF(r:ResultVar)(tmps:Array Value):Sem Value:=match r with
 | .tmp t=>pure (tmps.getD t undef)
 | .cell a t=>do loadVar t (←asAddr (tmps.getD a undef))
theorem afj(fn:Func)(tmps:Array Value):results fn tmps=(fn.results.mapM fun r=>CF r tmps)>>=fun vs=>pure (if h:vs.size=1 then vs[0]else .tuple vs):=by
 unfold results
 congr 1
def aaT(rs:List ResultVar):Pos→Option Nat
 | .s t 0=>rs.findIdx? fun r=>match r with| .tmp u=>u==t|_=>false
 |_=>none
def zN(g:Gh)(rs:List ResultVar)(b:Nat):Option Nat:=(g.ow b).bind (aaT rs)
theorem YZ{w0:World}{au:S0}{e:Env}{a:Act}{w:World}{g:Gh}(hI:Inv gl w0 au e a w g){rs:List ResultVar}{used:List Nat}{j:Nat}{r:ResultVar}(hr:rs[j]? =some r)
  (anF:∀i u,i<j→rs[i]? =some (.tmp u)→u∈used){k:SV→Prop}(hh:Dk P e used r k):
  ∃x v,k x∧(CF r a.tmps).run P w=.ok v w∧aR w g.St 0 (zY w0.heap.size w g.St (zN g rs) j) x v:=by
 cases r with
 |tmp t=>
  simp only[Dk]at hh
  have hs:=kQ hI t
  cases hx:e.ak.getD t (.v .undef)with
  |v x=>
   rw[hx]at hh hs
   obtain⟨hn,hk⟩:=hh
   refine⟨_,a.tmps.getD t undef,hk,rfl,?_⟩
   have hv:aR w g.St 0 (gp w0.heap.size w g t 0) x (a.tmps.getD t undef):=hs.kz.Fq hn
   cases hu:used.contains t with
   |true=>exact hv.aa
   |false=>
    refine hv.mono (fun _ _ h=>(by first|exact⟨h,rfl⟩|exact⟨h,.refl _ _ _⟩)) (fun _ _ _=>rfl) _ fun b a' c ho=>⟨?_,.refl _ _ _⟩
    obtain⟨o1,o2,_,o4,o5⟩:=ho
    refine⟨?_,o2,o4,o5⟩
    simp only[zN,o1,Option.bind_some,aaT]
    rw[List.findIdx?_eq_some_iff_getElem]
    have hj:j<rs.length:=(List.getElem?_eq_some_iff.1 hr).1
    have Uf:rs[j]=.tmp t:=(List.getElem?_eq_some_iff.1 hr).2
    refine⟨hj,by simp[Uf],fun i hi=>?_⟩
    have qS:i<rs.length:=by omega
    cases mA:rs[i]with
    |tmp u=>
     have:=anF i u hi (by rw[List.getElem?_eq_getElem qS,mA])
     have bg:u≠t:=by
      rintro rfl
      simp at hu
      exact hu this
     simpa using bg
    |cell _ _=>simp
  |_=>rw[hx]at hh;exact hh.elim
 |cell c t=>
  simp only[Dk]at hh
  obtain⟨ly,hl,hh⟩:=aQ hh
  obtain⟨b0,n⟩:=ly
  have hs:=kQ hI c
  cases hx:e.ak.getD c (.v .undef)with
  |p bn off=>
   rw[hx]at hh hs
   obtain⟨ao,hv,dX⟩:=hs.pN
   simp only[Act.eval]at hv
   change uH b0 n bn off e.boxes _ at hh
   unfold uH at hh
   split at hh
   ·rename_i cs cK
    obtain⟨y,hy,hn,hk⟩:=aQ hh
    obtain⟨h0,cc,ty,hc,cD,hlen,bG⟩:=hI.boxes bn _ ao cK dX
    obtain⟨v,h1,h2⟩:=PO (w:=w) (off:=off) (St:=g.St) (O:=fun j=>wc w0.heap.size w g bn j) hl hy ao 0 (fun i=>cc.getD i undef) (fun i hi=>by
     rw[cell_of_row w ao (0+i) cc ty (0,0) hc];simp[Nat.lt_of_lt_of_le hi hlen]) (fun i d hd=>by
     have hi:=(List.getElem?_eq_some_iff.1 hd).1
     exact bG i d _ hd (by simp[Nat.lt_of_lt_of_le hi hlen])) (fun i hi=>by
     have fU:i<cc.size:=Nat.lt_of_lt_of_le hi hlen
     simp[fU];exact cD i _ hi (by simp))
    simp only[Nat.zero_add]at h1
    refine⟨_,v,hk,?_,(h2.aa (O':=fun _ _ _=>False)).Fq hn |>.mono (fun _ _ h=>(by first|exact⟨h,rfl⟩|exact⟨h,.refl _ _ _⟩)) (fun _ _ _=>rfl) _ (fun _ _ _ h=>h.elim)⟩
    simp[CF,hv,asAddr,h1]
   ·rename_i s pZ
    cases b0 with
    |true=>exact hh.elim
    |false=>
     simp only[cond_false]at hh
     split at hh
     ·obtain⟨h0,cc,ty,hc,cD,aN,bG⟩:=hI.boxes bn _ ao pZ dX
      have Jn:cc[0]? =some (cc[0]'(by omega)):=by simp
      have hd:=(bG _ Jn).aa (O':=fun _ _ _ _=>False)
      split at hh
      ·rename_i x er
       obtain⟨hn,hk⟩:=hh
       rw[er]at hd
       refine⟨x,cc[0]'(by omega),hk,?_,hd.kz.Fq hn |>.mono (fun _ _ h=>(by first|exact⟨h,rfl⟩|exact⟨h,.refl _ _ _⟩)) (fun _ _ _=>rfl) _ (fun _ _ _ h=>h.elim)⟩
       have bC:=A7 (P:=P) (w:=w) (vs:=fun _=>cc[0]'(by omega)) hl ao 0 (fun j hj=>by
        simp at hj;subst hj
        rw[cell_of_row w ao (0+0) cc ty (0,0) hc];exact Jn)
       simp[CF,hv,asAddr,bC]
      ·exact hh.elim
     ·exact hh.elim
   ·exact hh.elim
  |_=>rw[hx]at hh;exact hh.elim
theorem Yf{w0:World}{au:S0}{e:Env}{a:Act}{w:World}{g:Gh}(hI:Inv gl w0 au e a w g){rs:List ResultVar}:∀(l:List ResultVar)(used:List Nat)(j:Nat)(k:List SV→Prop),(∀i,l[i]? =rs[j+i]?)→
  (∀i u,i<j→rs[i]? =some (.tmp u)→u∈used)→C8 P e used l k→
  ∃xs vs,k xs∧xs.length=l.length∧(l.mapM fun r=>CF r a.tmps).run P w=.ok vs w∧vs.length=l.length∧∀(i:Nat)x v,xs[i]? =some x→vs[i]? =some v→aR w g.St 0 (zY w0.heap.size w g.St (zN g rs) (j+i)) x v
 |[],_,_,k,_,_,hh=>⟨[],[],hh,rfl,by simp,rfl,fun i x v h=>by simp at h⟩
 |r::l,used,j,k,hl,hu,hh=>by
  simp only[C8]at hh
  have hr:rs[j]? =some r:=by simpa using(hl 0).symm
  obtain⟨x,v,hk,bC,bG⟩:=YZ hI hr hu hh
  obtain⟨xs,vs,bY,UE,anG,DY,MM⟩:=Yf hI l (Ml used r) (j+1) _ (fun i=>by have:=hl (i+1);simpa[Nat.add_assoc,Nat.add_comm 1 i]using this) (fun i u hi mA=>by
   rcases Nat.lt_or_ge i j with h'|h'
   ·have:=hu i u h' mA
    cases r<;>simp[Ml,this]
   ·have:i=j:=by omega
    subst this
    rw[hr]at mA
    cases mA
    simp[Ml]) hk
  refine⟨x::xs,v::vs,bY,by simp[UE],?_,by simp[DY],fun i y u hy hv=>?_⟩
  ·simp[List.mapM_cons,bC,anG]
  ·cases i with
   |zero=>simp at hy hv;subst hy hv;exact bG
   |succ i=>
    have:=MM i y u (by simpa using hy) (by simpa using hv)
    rw[show j+(i+1)=j+1+i by omega]
    exact this
theorem G1{fn:Func}{tmps:Array Value}{vs:List Value}{w:World}(hh:(fn.results.toList.mapM fun r=>CF r tmps).run P w=.ok vs w):
  (results fn tmps).run P w=.ok (match vs with|[v]=>v|vs=>.tuple vs.toArray) w:=by
 rw[afj,Array.mapM_eq_mapM_toList]
 simp only[Sem.run_bind,map_eq_pure_bind,hh,Result.andThen_ok,Sem.run_pure]
 match vs with
 |[]=>simp
 |[v]=>simp
 |v::u::l=>simp
theorem PZ{w0:World}{au:S0}{e:Env}{a:Act}{w:World}{g:Gh}(hI:Inv gl w0 au e a w g){fn:Func}{K:SV→Prop}(hh:finish P fn e K):
  ∃r v,K r∧(results fn a.tmps).run P w=.ok v w∧zz w0.heap.size w g.St (zN g fn.results.toList) r v:=by
 unfold finish at hh
 split at hh
 ·rename_i r hr
  have UF:fn.results.toList[0]? =some r:=by rw[hr];rfl
  obtain⟨x,v,hk,bC,bG⟩:=YZ hI UF (fun i u hi=>by omega) hh
  refine⟨x,v,hk,?_,?_⟩
  ·have:=G1 (P:=P) (fn:=fn) (tmps:=a.tmps) (w:=w) (vs:=[v]) (by rw[hr];simp[bC])
   exact this
  ·cases x with
   |aK l=>exact bG.ai8.elim
   |_=>exact bG
 ·rename_i bg
  obtain⟨xs,vs,hk,UE,bC,DY,bG⟩:=Yf hI (rs:=fn.results.toList) fn.results.toList [] 0 _ (fun i=>by simp) (fun i u hi=>by omega) hh
  refine⟨.aK xs,.tuple vs.toArray,hk,?_,vs.toArray,rfl,by simp[UE,DY],fun j x y hx hy=>?_⟩
  ·rw[G1 bC]
   split
   ·rename_i v
    exfalso
    match JQ:fn.results.toList with
    |[]=>rw[JQ]at DY;simp at DY
    |[r]=>exact bg r JQ
    |_::_::_=>rw[JQ]at DY;simp at DY
   ·rfl
  ·have:=bG j x y hx (by simpa using hy)
   simpa using this
theorem cz(hm:P.follows .mixedOrders =true){f:FuncId}{args:List SV}{r:SV}(hE:oX P f)(hh:body P gl (aF P gl) h f args fun x=>x=r)(ha:pc args=none:=by rfl):aF P gl f args r:=by
 rw[CD ha]
 refine⟨hE,fun w St vs qX pq hlen gi=>?_⟩
 unfold body at hh
 split at hh
 ·rename_i fn hf
  split at hh
  ·rename_i c hb
   have br:SV.iQ args:=by
    rw[SV.mO]
    intro x hx
    obtain⟨i,hi,rfl⟩:=List.mem_iff_getElem.1 hx
    exact(gi i _ (vs[i]'(by omega)) (by simp) (by simp)).wf
   have hh:=hh br
   have hI:Inv gl w {St:=St,df:=fun _ _=>False,cl:=fun _ _ _=>False} (enter fn.ntmps args) {tmps:=vs++Array.replicate (fn.ntmps-vs.size) undef,defers:=[]} w ⟨St,[],fun _=>none⟩:=by
    refine⟨Below.refl _ _,by simp[enter,hlen],fun i s hs=>?_,rfl,fun b bx ao h1=>by simp[enter]at h1,fun i j ao h1=>by simp at h1,fun _ _ h=>h,fun b o hb=>⟨.inl hb,by simp,qX b o hb⟩,fun b hb=>by simp at hb,pq,rfl,fun D o hD=>hD.elim,fun b o v hv=>hv.elim,Nat.zero_le _⟩
    simp only[enter]at hs
    rw[List.getElem?_append]at hs
    split at hs
    ·rename_i hi
     simp only[List.length_map]at hi
     simp only[List.getElem?_map,Option.map_eq_some_iff]at hs
     obtain⟨x,hx,rfl⟩:=hs
     have JR:i<vs.size:=by omega
     have:=gi i x vs[i] hx (by simp)
     have j8:(vs++Array.replicate (fn.ntmps-vs.size) undef).getD i undef=vs[i]:=by
      simp[Array.getElem?_append,JR]
     rw[j8]
     exact .v _ _ _ (this.mono (fun _ _ h=>(by first|exact⟨h,rfl⟩|exact⟨h,.refl _ _ _⟩)) (fun _ _ _=>rfl) _ (fun _ _ _ h=>h.elim))
    ·have:=(List.mem_replicate.1 (List.mem_of_getElem? hs)).2
     subst this
     exact .v _ _ _ (.undef _ _)
   refine calls_of_wp hf hb (xE hm c hI hh fun ex e' a' w' g' bD hk=>?_)
   have FB:∀{K},finish P fn e' K→(∀x,K x→x=r)→a'.defers=[]∧∃v,(results fn a'.tmps).run P w'=.ok v w'∧(∃v',(Ending.returned v)=.returned v'∧Below w.heap.size w w'∧∃cq ow,(∀b o,St b o→cq b o)∧
     (∀b o,cq b o→St b o∨(w.heap.size≤b∧b<w'.heap.size))∧zz w.heap.size w' cq ow r v'):=by
    intro K hk hKr
    obtain⟨r',v,jS,bC,bG⟩:=PZ bD hk
    have:=hKr r' jS
    subst this
    exact⟨bD.defers,v,bC,v,rfl,bD.below,g'.St,_,bD.iB,fun b o h=>(bD.dj b o h).1.imp id fun h1=>⟨h1,(bD.dj b o h).2.2⟩,bG⟩
   cases ex with
   |normal=>exact FB hk fun x hx=>hx
   |exit i=>exact hk.elim
   |ret=>exact FB hk fun x hx=>hx
  ·exact hh.elim
 ·exact hh.elim
end
def ba(x:SV):Option SV:=match x with| .dg n _ _=>some (.d (.int .i64 n))|x=>(match Hc x with|some L=>some (.d (.int .i64 L.length))|none=>none)
def RN(s:Nat)(x:SV)(lo hi mx:Option SV):Option SV:=match cB x with
 |some (.sl k sz L)=>(match Ig L lo hi,mx with
  |some r,none=>(match k with| .nil =>some (.d (.sl .nil s []))| .ro =>if sz=s then some (.d (.sl .ro sz r))else none)
  |some r,some m=>(match hi,da m (L.length+1)with
   |some h,some _=>(match h,m with
    | .d (.int _ a),.d (.int _ b)=>if a=b then(match k with| .nil =>some (.d (.sl .nil s []))| .ro =>if sz=s then some (.full sz r)else none)else none
    |_,_=>none)
   |_,_=>none)
  |none,_=>none)
 |_=>none
def aT:List (Nat×Slot)→Option (List (Nat×D))
 |[]=>some []
 |(i,s)::l=>match s with
  | .v y=>(match cB y with
    |some z=>(match aT l with|some r=>some ((i,z)::r)|none=>none)
    |none=>none)
  |_=>none
open Go.ChangeShapes Go.WideShapes
inductive RL{α β:Type}(R:α→β→Prop):List α→List β→Prop
 |nil:RL R [] []
 |cons {a:α} {b:β} {l:List α} {m:List β} (h:R a b) (t:RL R l m):RL R (a::l) (b::m)
section
variable{α β:Type}{R S:α→β→Prop}
theorem RL.length{l:List α}{m:List β}(h:RL R l m):l.length=m.length:=by induction h<;>simp_all
theorem RL.append{l l':List α}{m m':List β}(h:RL R l m)(h':RL R l' m'):RL R (l++l') (m++m'):=by
 induction h with
 |nil=>exact h'
 |cons h _ ih=>exact .cons h ih
theorem RL.mono(hm:∀a b,R a b→S a b){l:List α}{m:List β}(h:RL R l m):RL S l m:=by
 induction h with
 |nil=>exact .nil
 |cons h _ ih=>exact .cons (hm _ _ h) ih
theorem RL.get{l:List α}{m:List β}(h:RL R l m):∀(i:Nat)(a:α)(b:β),l[i]? =some a→m[i]? =some b→R a b:=by
 induction h with
 |nil=>intro i a b h;simp at h
 |cons h _ ih=>
  intro i a b ha hb
  cases i with
  |zero=>simp at ha hb;subst ha hb;exact h
  |succ i=>exact ih i a b (by simpa using ha) (by simpa using hb)
end
def pack(b:Bool)(xs:List D):D:=match b,xs with
 |true,xs=>.agg xs
 |false,[x]=>x
 |false,_=>.oV
inductive Is(P:Program):TypeId→List D→Prop
 |bool {t:TypeId} (h:P.underlying t=some .bool) (b:Bool):Is P t [.bool b]
 |int {t:TypeId} {k:IntKind} (h:P.underlying t=some (.int k)) (n:Int) (hn:iP k n=true):Is P t [.int k n]
 |str {t:TypeId} (h:P.underlying t=some .string) (s:List UInt8) (hs:s.length≤maxLen):Is P t [.str s]
 |jk {t e:TypeId} (h:P.underlying t=some (.slice e)):Is P t [.sl .nil 0 []]
 |sl {t e:TypeId} (h:P.underlying t=some (.slice e)) (b:Bool) (hb:eK P e=some b) (L:List (List D)) (hm:L.length≤maxLen) (hL:∀x∈L,Is P e x):
   Is P t [.sl .ro (P.cellsOf e) (L.map (pack b))]
 |struct {t:TypeId} {fs:Array Field} (h:P.underlying t=some (.struct fs)) (parts:List (List D)) (hl:parts.length=fs.size)
   (hp:∀(i:Nat)f p,fs[i]? =some f→parts[i]? =some p→Is P f.type p):Is P t parts.flatten
 |array {t e:TypeId} {n:Nat} (h:P.underlying t=some (.array n e)) (parts:List (List D)) (hl:parts.length=n) (hp:∀p∈parts,Is P e p):Is P t parts.flatten
section
variable{P:Program}{t:TypeId}{xs:List D}
theorem Is.xD(ht:P.underlying t=some .bool)(h:Is P t xs):∃b,xs=[.bool b]:=by
 cases h with
 |bool _ b=>exact⟨b,rfl⟩
 |_=>simp_all
theorem Is.vP{k:IntKind}(ht:P.underlying t=some (.int k))(h:Is P t xs):∃n,xs=[.int k n]∧iP k n=true:=by
 cases h with
 |int h n hn=>rw[ht]at h;cases h;exact⟨n,rfl,hn⟩
 |_=>simp_all
theorem Is.zm(ht:P.underlying t=some .string)(h:Is P t xs):∃s,xs=[.str s]∧s.length≤maxLen:=by
 cases h with
 |str h s hs=>exact⟨s,rfl,hs⟩
 |_=>simp_all
theorem Is.Bf{fs:Array Field}(ht:P.underlying t=some (.struct fs))(h:Is P t xs):
  ∃parts:List (List D),xs=parts.flatten∧parts.length=fs.size∧∀(i:Nat)f p,fs[i]? =some f→parts[i]? =some p→Is P f.type p:=by
 cases h with
 |struct h parts hl hp=>rw[ht]at h;cases h;exact⟨parts,rfl,hl,hp⟩
 |_=>simp_all
theorem Is.agi{e:TypeId}{n:Nat}(ht:P.underlying t=some (.array n e))(h:Is P t xs):∃parts:List (List D),xs=parts.flatten∧parts.length=n∧∀p∈parts,Is P e p:=by
 cases h with
 |array h parts hl hp=>rw[ht]at h;cases h;exact⟨parts,rfl,hl,hp⟩
 |_=>simp_all
end
def yh(P:Program):List Field→Nat→Option Nat
 |[],n=>some n
 |f::fs,n=>bif Nat.beq f.offset n then yh P fs (n+P.cellsOf f.type)else none
def wQ(P:Program)(L:List Nat)(t:TypeId):Bool:=match P.underlying t with
 |some .bool =>Nat.beq (P.cellsOf t) 1
 |some (.int _)=>Nat.beq (P.cellsOf t) 1
 |some .string =>Nat.beq (P.cellsOf t) 1
 |some (.slice e)=>Nat.beq (P.cellsOf t) 1&&L.contains e&&Nat.ble 1 (P.cellsOf e)
 |some (.array n e)=>L.contains e&&Nat.beq (P.cellsOf t) (n*P.cellsOf e)
 |some (.struct fs)=>fs.toList.all (fun f=>L.contains f.type)&&(match yh P fs.toList 0 with|some n=>Nat.beq n (P.cellsOf t)|none=>false)
 |_=>false
def xK(P:Program)(L:List Nat):Bool:=L.all (wQ P L)
section
variable{P:Program}{L:List Nat}
theorem QL:∀(fs:List Field)(n m:Nat),yh P fs n=some m→m=n+(fs.map fun f=>P.cellsOf f.type).sum
 |[],n,m,h=>by simp[yh]at h;simp[h]
 |f::fs,n,m,h=>by
  simp only[yh]at h
  cases hb:Nat.beq f.offset n<;>rw[hb]at h
  ·cases h
  ·have:=QL fs _ _ h
   simp only[List.map_cons,List.sum_cons]
   omega
theorem Y0:∀(fs:List Field)(n m:Nat),yh P fs n=some m→∀(j:Nat)f,fs[j]? =some f→f.offset=n+((fs.take j).map fun f=>P.cellsOf f.type).sum
 |[],n,m,h,j,f,hj=>by simp at hj
 |f::fs,n,m,h,j,g,hj=>by
  simp only[yh]at h
  cases hb:Nat.beq f.offset n<;>rw[hb]at h
  ·cases h
  ·have hn:=Nat.eq_of_beq_eq_true hb
   cases j with
   |zero=>simp at hj;subst hj;simp[hn]
   |succ j=>
    have:=Y0 fs _ _ h j g (by simpa using hj)
    simp only[List.take_succ_cons,List.map_cons,List.sum_cons]
    omega
theorem zh(h:xK P L=true){t:TypeId}(ht:t∈L):wQ P L t=true:=List.all_eq_true.1 h t ht
theorem aeo(h:xK P L=true):Kids P (· ∈L) where
 pointer:=fun{t e}ht hu=>by have:=zh h ht;simp[wQ,hu]at this
 slice:=fun{t e}ht hu=>by have:=zh h ht;simp[wQ,hu]at this;exact this.1.2
 array:=fun{t e n}ht hu=>by
  have:=zh h ht
  simp only[wQ,hu,Bool.and_eq_true]at this
  exact⟨by simpa using this.1,Nat.eq_of_beq_eq_true this.2⟩
 struct:=fun{t fs}ht hu=>by
  have:=zh h ht
  simp only[wQ,hu,Bool.and_eq_true]at this
  refine⟨fun f hf=>by simpa using List.all_eq_true.1 this.1 f hf,?_⟩
  have h2:=this.2
  split at h2
  ·rename_i n hn
   have e:=Nat.eq_of_beq_eq_true h2
   refine⟨by rw[←e,QL _ _ _ hn];omega,fun j f hj=>by rw[Y0 _ _ _ hn j f hj];omega⟩
  ·cases h2
 map:=fun{t k e}ht hu=>by have:=zh h ht;simp[wQ,hu]at this
theorem afk(h:xK P L=true){t e:TypeId}(ht:t∈L)(hu:P.underlying t=some (.slice e)):0<P.cellsOf e:=by
 have:=zh h ht
 simp[wQ,hu]at this
 omega
theorem Xw{β:Type}(cs:List β):∀(fs:List Field)(n m:Nat),yh P fs n=some m→cs.length=m→cs.drop n=(fs.map fun f=>(cs.drop f.offset).take (P.cellsOf f.type)).flatten
 |[],n,m,h,hm=>by simp[yh]at h;simp;omega
 |f::fs,n,m,h,hm=>by
  simp only[yh]at h
  cases hb:Nat.beq f.offset n<;>rw[hb]at h
  ·cases h
  ·have hn:=Nat.eq_of_beq_eq_true hb
   have ih:=Xw cs fs _ _ h hm
   simp only[List.map_cons,List.flatten_cons,←ih,hn]
   rw[←List.drop_drop,List.take_append_drop]
theorem Yg{β:Type}(s:Nat):∀(n:Nat)(cs:List β),cs.length=n*s→cs=((List.range n).map fun i=>(cs.drop (i*s)).take s).flatten
 |0,cs,h=>by simp at h;subst h;rfl
 |n+1,cs,h=>by
  rw[List.range_succ_eq_map,List.map_cons,List.flatten_cons,List.map_map]
  have ih:=Yg s n (cs.drop s) (by rw[List.length_drop,h,Nat.add_mul];omega)
  have:((fun i=>(cs.drop (i*s)).take s) ∘ Nat.succ)=fun i=>((cs.drop s).drop (i*s)).take s:=by
   funext i
   simp only[Function.comp,List.drop_drop]
   rw[Nat.succ_mul,Nat.add_comm]
  rw[this,←ih]
  simp
end
section
variable{H:Type}{enc:TypeId×Value→H}{P:Program}{w:World}{L:List Nat}
def FE(ps:List MemPlace)(b o:Nat):Prop:=MemPlace.cell b o∈ps
def yw(w:World)(ps:List MemPlace)(c:D)(v:Value):Prop:=c.one=true∧bp w (FE ps) c v
theorem yw.mono{ps qs:List MemPlace}(h:∀p∈ps,p∈qs)(c:D)(v:Value)(r:yw w ps c v):yw w qs c v:=⟨r.1,r.2.mono fun b o hb=>⟨h _ hb,rfl⟩⟩
theorem afl{b:Bool}{e:TypeId}(hL:xK P L=true)(he:e∈L)(hb:eK P e=some b){x:List D}(hx:Is P e x):(pack b x).cells =x∨∃y,x=[y]∧b=false:=by
 cases b with
 |true=>exact .inl rfl
 |false=>
  right
  unfold eK at hb
  cases hx with
  |bool h b=>exact⟨_,rfl,rfl⟩
  |int h n hn=>exact⟨_,rfl,rfl⟩
  |str h s hs=>exact⟨_,rfl,rfl⟩
  |jk h=>exact⟨_,rfl,rfl⟩
  |sl h=>exact⟨_,rfl,rfl⟩
  |struct h=>rw[h]at hb;cases hb
  |array h=>rw[h]at hb;cases hb
theorem aep{b:Bool}{e:TypeId}(hL:xK P L=true)(he:e∈L)(hb:eK P e=some b){x:List D}(hx:Is P e x)(h1:∀c∈x,c.one=true):(pack b x).cells =x:=by
 rcases afl hL he hb hx with h|⟨y,rfl,rfl⟩
 ·exact h
 ·have:=h1 y (by simp)
  cases y<;>first|rfl|simp[D.one]at this
end
end Go.Proofs.Ytimbllcalipehaa.Ab
