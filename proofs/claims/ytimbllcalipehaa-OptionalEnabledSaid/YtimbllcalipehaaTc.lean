/-
  THE ABSTRACT WALK: regions.
-/
import Derived.Test.YtimbllcalipehaaTb
set_option linter.unusedVariables false
set_option linter.unusedSimpArgs false
namespace Go.Proofs.Ytimbllcalipehaa.Ab
open Go Go.RowKit
theorem NR:∀(l:List Oper)(acc:List Nat)(k:Nat),k<acc.length→(reach acc l)[k]? =acc[k]?
 |[],acc,k,_=>rfl
 |o::l,acc,k,h=>by
  rw[reach,NR l _ k (by simp;omega),List.getElem?_append_left h]
theorem Vh(acc:List Nat)(i:Nat):∀(es:List Edge)(s:Nat),(es.foldl (fun s e=>bif Region.binds .any e then s|||2^e.on|||acc.getD e.on 0 else s) s).testBit i=true→
  s.testBit i=true∨∃e∈es,Region.binds .any e=true∧(e.on=i∨(acc.getD e.on 0).testBit i=true)
 |[],s,h=>.inl h
 |e::es,s,h=>by
  rw[List.foldl_cons]at h
  rcases Vh acc i es _ h with h|⟨e',he,hb,h⟩
  ·cases hb:Region.binds .any e with
   |false=>rw[hb]at h;exact .inl h
   |true=>
    rw[hb]at h
    simp only[cond_true,Nat.testBit_or,Bool.or_eq_true]at h
    rcases h with(h|h)|h
    ·exact .inl h
    ·refine .inr ⟨e,by simp,hb,.inl ?_⟩
     simpa[Nat.testBit_two_pow]using h
    ·exact .inr ⟨e,by simp,hb,.inr h⟩
  ·exact .inr ⟨e',by simp[he],hb,h⟩
theorem UA:∀(l:List Oper)(acc:List Nat)(k i:Nat),acc.length≤k→((reach acc l).getD k 0).testBit i=true→
  ∃o,l[k-acc.length]? =some o∧∃e∈o.after.toList,Region.binds .any e=true∧(e.on=i∨(e.on<k∧((reach acc l).getD e.on 0).testBit i=true))
 |[],acc,k,i,hk,h=>by
  rw[reach,List.getD_eq_getElem?_getD,List.getElem?_eq_none hk]at h
  simp at h
 |o::l,acc,k,i,hk,h=>by
  rw[reach]at h ⊢
  rcases Nat.eq_or_lt_of_le hk with bU|bU
  ·subst bU
   refine⟨o,by simp,?_⟩
   rw[List.getD_eq_getElem?_getD,NR l _ acc.length (by simp),List.getElem?_append_right (Nat.le_refl _)]at h
   simp only[Nat.sub_self,List.getElem?_cons_zero,Option.getD_some]at h
   rcases Vh acc i _ 0 h with h|⟨e,he,hb,h⟩
   ·simp at h
   ·refine⟨e,he,hb,h.imp id fun h=>?_⟩
    have aO:e.on<acc.length:=by
     rcases Nat.lt_or_ge e.on acc.length with h'|h'
     ·exact h'
     ·rw[List.getD_eq_getElem?_getD,List.getElem?_eq_none h']at h;simp at h
    refine⟨aO,?_⟩
    rw[List.getD_eq_getElem?_getD,NR l _ e.on (by simp;omega),List.getElem?_append_left aO,←List.getD_eq_getElem?_getD]
    exact h
  ·obtain⟨p,hp,hr⟩:=UA l _ k i (by simp;omega) h
   refine⟨p,?_,hr⟩
   rw[←hp]
   have:k-acc.length=(k-(acc++[o.after.toList.foldl (fun s e=>bif Region.binds .any e then s|||2^e.on|||acc.getD e.on 0 else s) 0]).length)+1:=by simp;omega
   rw[this,List.getElem?_cons_succ]
section
variable{P:Program}{gl:Nat→Option D}{ops:Array Oper}{aH:Nat→Bool}{base:Nat}
def wN(ops:Array Oper)(bI:Array Bool):Prop:=∀(j:Nat)o,ops[j]? =some o→bI.getD j false=true→∀e∈o.after,Region.binds .any e=true→bI.getD e.on false=true
theorem wN.waits{bI:Array Bool}(hc:wN ops bI){i:Nat}:∀(j:Nat)o,ops[j]? =some o→(∀e∈o.after,Region.binds .any e=true→bI.getD e.on false=true)→
  ((reach [] ops.toList).getD j 0).testBit i=true→bI.getD i false=true:=by
 intro j
 induction j using Nat.strongRecOn with
 |_ j ih=>
  intro o ho fJ h
  obtain⟨o',bQ,e,he,hb,h⟩:=UA ops.toList [] j i (Nat.zero_le _) h
  simp only[List.length_nil,Nat.sub_zero,Array.getElem?_toList]at bQ
  rw[ho]at bQ
  cases bQ
  have hl:=fJ e (by simpa using he) hb
  rcases h with h|⟨aO,h⟩
  ·rw[←h];exact hl
  ·have hex:∃p,ops[e.on]? =some p:=by
    have:=(Array.getElem?_eq_some_iff.1 ho).1
    exact⟨ops[e.on],by simp[show e.on<ops.size by omega]⟩
   obtain⟨p,hp⟩:=hex
   exact ih e.on aO p hp (hc e.on p hp hl) h
theorem wN.set{bI:Array Bool}(hc:wN ops bI){j:Nat}(hj:j∈Region.ready .any ops bI):wN ops (bI.setIfInBounds j true):=by
 obtain⟨_,o,ho,fJ⟩:=mem_ready.1 hj
 intro k p hk hl e he hb
 by_cases kL:j=k
 ·subst kL
  rw[ho]at hk;cases hk
  exact getD_set_true (fJ e he hb)
 ·rw[getD_set_ne false kL]at hl
  exact getD_set_true (hc k p hk hl e he hb)
def xf(P:Program)(gl:Nat→Option D)(ops:Array Oper)(aH:Nat→Bool)(base:Nat)(Q:Env→Prop):Nat→Array Bool→Env→Prop
 |0,bI,e=>Region.ready .any ops bI=[]∧Q e
 |fuel+1,bI,e=>
  (Region.ready .any ops bI=[]→Q e)∧
  ∀i∈Region.ready .any ops bI,∃o,ops[i]? =some o∧o8 P gl (aG P gl) ops.toList (base+fM ops.toList i) (aH i) o e (xf P gl ops aH base Q fuel (bI.setIfInBounds i true))
theorem Dm{w0:World}{ar:S0}{e:Env}{a:Act}{w:World}{g:Gh}(hI:Inv gl w0 ar e a w g){o:Oper}{c:Bool}(h:u9 ops.toList o e=some c):Region.wanted o (yielded ops a.tmps)=c:=by
 unfold u9 at h
 unfold Region.wanted
 split at h
 ·rename_i hg;rw[hg];exact(Option.some.inj h)
 ·rename_i j want hg
  rw[hg]
  simp only
  unfold yielded
  split at h
  ·rename_i t ht
   have ud:(ops[j]?).bind (·.dst)=some t:=by
    rw[Array.getElem?_toList]at ht
    cases hj:ops[j]? with
    |none=>rw[hj]at ht;cases ht
    |some q=>rw[hj]at ht;exact ht
   rw[ud]
   have hs:=kb hI t
   have aO:∀{s},e.ak.getD t (.v .undef)=s→s≠.v .undef →a.tmps[t]? =some (a.tmps.getD t undef):=by
    intro s h1 h2
    have:t<e.ak.length:=by
     rcases Nat.lt_or_ge t e.ak.length with h|h
     ·exact h
     ·rw[List.getD_eq_getElem?_getD,List.getElem?_eq_none h]at h1;exact absurd h1.symm h2
    rw[←hI.size]at this
    simp[this]
   split at h
   ·rename_i c' hx
    rw[hx]at hs
    have hv:=hs.jV.data.wA
    have h1:=aO hx (by simp)
    simp only[Act.eval]at hv
    rw[hv]at h1
    simp only[Option.bind_some,h1]
    cases h
    cases c'<;>cases want<;>rfl
   ·rename_i vs hx
    rw[hx]at hs
    obtain⟨tv,hv,_⟩:=hs.PU
    have h1:=aO hx (by simp)
    simp only[Act.eval]at hv
    rw[hv]at h1
    simp only[Option.bind_some,h1]
    cases h
    rfl
   ·cases h
  ·cases h
theorem Oj{w0:World}{ar:S0}{e:Env}{a:Act}{w:World}{g:Gh}(hI:Inv gl w0 ar e a w g)(dst:Option Nat):Inv gl w0 ar ⟨cS e.ak dst (.t []),e.boxes⟩ (a.put dst undef) w g:=
 hI.value (.t _ [] #[] rfl (fun j x v h=>by simp at h))
theorem Ok{w0:World}{ar:S0}{e:Env}{a:Act}{w:World}{g:Gh}(hI:Inv gl w0 ar e a w g){i id:Nat}{l:Bool}{o:Oper}(ho:ops[i]? =some o){k:Env→Prop}
  (h:o8 P gl (aG P gl) ops.toList id l o e k){next:Act→World→Prop}{Q:Exit→Act→World→Prop}(hn:∀e' a' w' g',Inv gl w0 ar e' a' w' g'→k e'→next a' w'):wpOp P ops Q i next a w:=by
 have h':=Bs.1 h
 unfold wpOp
 simp only[ho]
 split at h'
 ·rename_i hg
  rw[if_pos (Dm hI hg)]
  exact .inl (NP hI h' next Q fun e' v w' g' hinv hk=>hn e' _ w' g' hinv hk)
 ·rename_i hg
  rw[if_neg (by rw[Dm hI hg];simp)]
  exact hn _ _ _ _ (Oj hI o.dst) h'
 ·exact h'.elim
theorem NS{e e':Env}(hG:Good gl e){i id:Nat}{l:Bool}{o:Oper}(ho:ops[i]? =some o)(h:o8 P gl (aG P gl) ops.toList id l o e (fun x=>x=e')):Good gl e':=by
 obtain⟨w0,ar,a,w,g,hI⟩:=hG
 have:=Ok (Q:=fun _ _ _=>False) hI ho h (next:=fun a' w'=>∃g',Inv gl w0 ar e' a' w' g') (fun nD a' w' g' hinv hk=>⟨g',hk▸hinv⟩)
 have ahb:∀{next:Act→World→Prop},o.wp P a w next (fun _ _ _=>False)→∃a' w',next a' w':=by
  intro next h
  unfold Oper.wp at h
  generalize (execOp a.eval o).run P w=r at h
  cases r with
  |ok n w'=>
   cases n<;>simp only[Oper.upon]at h
   case value v=>exact⟨_,_,h⟩
   case skip=>exact⟨_,_,h⟩
   case defer d=>exact⟨_,_,h⟩
   case enter f args=>
    obtain⟨e,LG,fr,hR,_⟩:=h []
    cases e with
    |returned v=>exact⟨_,_,hR⟩
    |panicked c=>exact hR.elim
    |outgrown=>obtain⟨_,_,hf⟩:=hR;exact hf.elim
   case row row args=>
    obtain⟨v,LG,hR,_⟩:=h default []
    exact⟨_,_,hR⟩
  |halt x w'=>cases x<;>simp only[Oper.upon]at h
 unfold wpOp at this
 simp only[ho]at this
 have Ef:∃a' w',∃g',Inv gl w0 ar e' a' w' g':=by
  split at this
  ·rcases this with h|⟨_,_,_,hf⟩
   ·exact ahb h
   ·exact hf.elim
  ·exact⟨_,_,this⟩
 obtain⟨a',w',g',hinv⟩:=Ef
 exact⟨w0,ar,a',w',g',hinv⟩
def Js(ops:Array Oper)(aH:Nat→Bool)(base:Nat)(K:Nat→Prop)(E:Option (List Nat))(bI:Array Bool)(e:Env):Prop:=
 ∀A,E=some A→A=mg ops.toList∧Cg ops aH∧Jv ops base K bI e
theorem Js.step{C:bA}{K:Nat→Prop}{E:Option (List Nat)}{bI:Array Bool}{e e':Env}(h:Js ops aH base K E bI e){i:Nat}{o:Oper}(ho:ops[i]? =some o)
  (hs:o8 P gl C ops.toList (base+fM ops.toList i) (aH i) o e (fun x=>x=e')):Js ops aH base K E (bI.setIfInBounds i true) e':=fun A hA=>by
 obtain⟨h1,h2,h3⟩:=h A hA
 exact⟨h1,h2,h3.step h2 ho hs⟩
theorem WW{bI:Array Bool}(hE:Cg ops aH)(hc:wN ops bI){i:Nat}{o:Oper}(ho:ops[i]? =some o)(hr:i∈Region.ready .any ops bI):Made ops bI o:=by
 intro a ha k ok hk EM
 obtain⟨_,o',bQ,fJ⟩:=mem_ready.1 hr
 rw[ho]at bQ;cases bQ
 exact hc.waits i o ho fJ (hE.waits i o a ho ha k ok hk EM)
theorem abZ{K:Nat→Prop}{E:Option (List Nat)}{bI:Array Bool}{e:Env}(hJ:Js ops aH base K E bI e)(hc:wN ops bI){i j:Nat}{x y:Oper}(hx:ops[i]? =some x)(hy:ops[j]? =some y)
  (nO:i∈Region.ready .any ops bI)(RA:j∈Region.ready .any ops bI)(h:DL E ops (aH i) (aH j) x y=true):
  KJ ops (aH i) (aH j) x y∧(Qu (aH i) (aH j) x y∨(B3 gl (aH i) x y e∧B3 gl (aH j) y x e)):=by
 simp only[DL,Bool.or_eq_true]at h
 rcases h with h|h
 ·obtain⟨h1,h2⟩:=acT h
  exact⟨h1,.inl h2⟩
 ·cases hE:E with
  |none=>rw[hE]at h;cases h
  |some A=>
   rw[hE]at h
   obtain⟨rfl,h2,h3⟩:=hJ A hE
   obtain⟨h4,h5⟩:=abY h
   exact⟨h4,.inr (ad6 h2 h3 hx hy h5 (WW h2 hc hx nO) (WW h2 hc hy RA))⟩
theorem Vi{K:Nat→Prop}{E:Option (List Nat)}{Q:Env→Prop}{i:Nat}{oi:Oper}(hi:ops[i]? =some oi):∀(fuel:Nat)(bI:Array Bool)(e:Env)(src:Option (Nat×Slot))(s:Slot)(U:Option (Nat×af)),
  (∀(j:Nat)oj,ops[j]? =some oj→j≠i→bI.getD j true=false→((reach [] ops.toList).getD j 0).testBit i=false→DL E ops (aH i) (aH j) oi oj=true)→
  wN ops bI→i∈Region.ready .any ops bI→Good gl e→Js ops aH base K E bI e→Out P gl (aG P gl) ops (base+fM ops.toList i) (aH i) oi e src s U→
  xf P gl ops aH base Q fuel (bI.setIfInBounds i true) (fin oi src s U e)→xf P gl ops aH base Q (fuel+1) bI e:=by
 intro fuel
 induction fuel with
 |zero=>
  intro bI e src s U _ _ hr _ _ hO H
  refine⟨fun h=>(by rw[h]at hr;cases hr),fun j hj=>?_⟩
  by_cases mA:j=i
  ·subst mA;exact⟨oi,hi,hO.run H⟩
  ·have:=ready_mono hj mA
   rw[H.1]at this
   cases this
 |succ fuel ih=>
  intro bI e src s U YR hc hr hG vE hO H
  refine⟨fun h=>(by rw[h]at hr;cases hr),fun j hj=>?_⟩
  by_cases mA:j=i
  ·subst mA;exact⟨oi,hi,hO.run H⟩
  ·obtain⟨oj,kK,h1⟩:=H.2 j (ready_mono hj mA)
   obtain⟨Zk,oj',Zl,fJ⟩:=mem_ready.1 hj
   rw[kK]at Zl
   cases Zl
   have RB:((reach [] ops.toList).getD j 0).testBit i=false:=by
    cases hb:((reach [] ops.toList).getD j 0).testBit i with
    |false=>rfl
    |true=>
     have h2:=hc.waits j oj kK fJ hb
     have h0:=(mem_ready.1 hr).1
     rcases Nat.lt_or_ge i bI.size with h'|h'
     ·simp[h']at h0 h2;rw[h0]at h2;cases h2
     ·simp[Array.getElem?_eq_none h']at h2
   obtain⟨akB,eL⟩:=abZ vE hc hi kK hr hj (YR j oj kK mA Zk RB)
   obtain⟨amX,s',U',hk,hO',_⟩:=Bt h1
   obtain⟨d1,d2,d3⟩:=afw hG akB eL hO hO'
   refine⟨oj,kK,d1.run ?_⟩
   rw[Array.setIfInBounds_comm _ _ (Ne.symm mA)]at hk
   refine ih (bI.setIfInBounds j true) _ src s U (fun k ok hk EN td eT=>?_) (hc.set hj) (ready_mono hr (Ne.symm mA)) (NS hG kK (d1.run rfl)) (vE.step kK (d1.run rfl)) d2 (by rw[←d3];exact hk)
   refine YR k ok hk EN ?_ eT
   by_cases kL:j=k
   ·subst kL;exact Zk
   ·rw[getD_set_ne true kL]at td;exact td
theorem T7{E:Option (List Nat)}{R:List Nat}{i:Nat}{o:Oper}:∀{l:List Oper}{j:Nat},Kl E ops aH R i o l j=true→∀(n:Nat)p,l[n]? =some p→(R.getD (j+n) 0).testBit i=true∨DL E ops (aH i) (aH (j+n)) o p=true
 |[],j,_,n,p,h=>by simp at h
 |q::l,j,h,n,p,hp=>by
  simp only[Kl,Bool.and_eq_true,Bool.or_eq_true]at h
  cases n with
  |zero=>simp at hp;subst hp;exact h.1
  |succ n=>
   have:=T7 h.2 n p (by simpa using hp)
   rw[show j+(n+1)=j+1+n by omega]
   exact this
theorem Ac{all:List Oper}{C:bA}(o:Oper)(rest:List Oper)(i:Nat)(e:Env)(k:Env→Prop):
 iE P gl C aH all base (o::rest) i e k=o8 P gl C all (base+fM all i) (aH i) o e (fun nD=>iE P gl C aH all base rest (i+1) nD k):=rfl
theorem JZ{KK:Nat→Prop}{E:Option (List Nat)}{K:Env→Prop}:∀(l:List Oper)(i:Nat)(bI:Array Bool)(e:Env),(∀j,l[j]? =ops[i+j]?)→(∀j,j<i→bI.getD j false=true)→(∀j,i≤j→j<ops.size→bI.getD j true=false)→bI.size=ops.size→
  wN ops bI→Good gl e→Js ops aH base KK E bI e→Ai E ops aH (reach [] ops.toList) l i=true→iE P gl (aG P gl) aH ops.toList base l i e K→xf P gl ops aH base K l.length bI e
 |[],i,bI,e,hl,h1,h2,aM,_,_,_,_,h=>by
  refine⟨?_,h⟩
  rw[List.eq_nil_iff_forall_not_mem]
  intro j hj
  obtain⟨td,o,ho,_⟩:=mem_ready.1 hj
  have aO:j<ops.size:=(Array.getElem?_eq_some_iff.1 ho).1
  have hle:ops.size≤i:=by
   have:=hl 0
   simp only[List.getElem?_nil,Nat.add_zero]at this
   exact Array.getElem?_eq_none_iff.1 this.symm
  have:=h1 j (by omega)
  simp[aM,aO]at this td
  rw[this]at td;cases td
 |o::l,i,bI,e,hl,h1,h2,aM,hc,hG,vE,hB,h=>by
  have h0:ops[i]? =some o:=by simpa using(hl 0).symm
  have aO:i<ops.size:=(Array.getElem?_eq_some_iff.1 h0).1
  simp only[Ai,Bool.and_eq_true]at hB
  obtain⟨⟨hr,hp⟩,hB'⟩:=hB
  have X0:i∈Region.ready .any ops bI:=by
   refine mem_ready.2 ⟨h2 i (Nat.le_refl _) aO,o,h0,fun e he hb=>?_⟩
   have:=List.all_eq_true.1 hr e (by simpa using he)
   rw[hb]at this
   simp only[Bool.not_true,Bool.false_or]at this
   exact h1 e.on (Nat.lt_of_succ_le (Nat.le_of_ble_eq_true this))
  rw[Ac]at h
  obtain⟨src,s,U,hk,hO,_⟩:=Bt h
  refine Vi h0 l.length bI e src s U (fun j oj kK mA td eT=>?_) hc X0 hG vE hO ?_
  ·have kH:j<ops.size:=(Array.getElem?_eq_some_iff.1 kK).1
   have eY:i<j:=by
    rcases Nat.lt_or_ge i j with h|h
    ·exact h
    ·exfalso
     have:=h1 j (by omega)
     simp[aM,kH]at this td
     rw[this]at td;cases td
   have CE:l[j-(i+1)]? =some oj:=by
    have:=hl (j-i)
    rw[show i+(j-i)=j by omega,kK]at this
    rw[show j-i=(j-(i+1))+1 by omega]at this
    simpa using this
   have:=T7 hp (j-(i+1)) oj CE
   rw[show i+1+(j-(i+1))=j by omega,eT]at this
   simpa using this
  ·refine JZ l (i+1) _ _ (fun j=>?_) (fun j hj=>?_) (fun j hj hjs=>?_) (by simpa using aM) (hc.set X0) (NS hG h0 (hO.run rfl)) (vE.step h0 (hO.run rfl)) hB' hk
   ·have:=hl (j+1)
    simpa[Nat.add_assoc,Nat.add_comm 1 j]using this
   ·by_cases eY:i=j
    ·subst eY
     simp[aM,aO]
    ·exact getD_set_true (h1 j (by omega))
   ·rw[getD_set_ne true (by omega)]
    exact h2 j (by omega) hjs
theorem Po{w0:World}{ar:S0}{K:Env→Prop}{Q:Exit→Act→World→Prop}(hQ:∀e a w g,Inv gl w0 ar e a w g→K e→Q .normal a w):∀(fuel:Nat)(bI:Array Bool)(e:Env)(a:Act)(w:World)(g:Gh),
  Inv gl w0 ar e a w g→xf P gl ops aH base K fuel bI e→wpAny P .any ops Q fuel bI a w
 |0,_,e,a,w,g,hI,h=>⟨h.1,hQ e a w g hI h.2⟩
 |fuel+1,_,e,a,w,g,hI,h=>⟨fun h0=>hQ e a w g hI (h.1 h0),fun i hi=>by
   obtain⟨o,ho,hs⟩:=h.2 i hi
   exact Ok hI ho hs fun e' a' w' g' hinv hk=>Po hQ fuel _ e' a' w' g' hinv hk⟩
theorem WX{w0:World}{ar:S0}{K:Env→Prop}{Q:Exit→Act→World→Prop}(hQ:∀e a w g,Inv gl w0 ar e a w g→K e→Q .normal a w):∀(l:List Oper)(i:Nat)(e:Env)(a:Act)(w:World)(g:Gh),
  (∀j,l[j]? =ops[i+j]?)→Inv gl w0 ar e a w g→iE P gl (aG P gl) aH ops.toList base l i e K→wpOps P ops Q (List.range' i l.length) a w
 |[],_,e,a,w,g,_,hI,h=>hQ e a w g hI h
 |o::l,i,e,a,w,g,hl,hI,h=>by
  have h0:ops[i]? =some o:=by simpa using(hl 0).symm
  rw[List.length_cons,List.range'_succ,wpOps_cons]
  rw[Ac]at h
  exact Ok hI h0 h fun e' a' w' g' hinv hk=>WX hQ l (i+1) e' a' w' g' (fun j=>by have:=hl (j+1);simpa[Nat.add_assoc,Nat.add_comm 1 j]using this) hinv hk
theorem UB{m:Nat}:∀(l:List Oper)(i j:Nat),j∈qN m l i↔i≤j∧m.testBit j=false∧∃o,l[j-i]? =some o∧∀e∈o.after,Region.binds .any e=true→m.testBit e.on=true
 |[],i,j=>by simp[qN]
 |o::l,i,j=>by
  have ih:=UB (m:=m) l (i+1) j
  have bj:i+1≤j→(o::l)[j-i]? =l[j-(i+1)]? :=fun h=>by rw[show j-i=(j-(i+1))+1 by omega,List.getElem?_cons_succ]
  rw[qN]
  cases hc:(!Nat.testBit m i&&o.after.toList.all (fun e=> !Region.binds .any e||Nat.testBit m e.on))with
  |true=>
   simp only[Bool.and_eq_true,Bool.not_eq_true',List.all_eq_true,Bool.or_eq_true]at hc
   simp only[cond_true,List.mem_cons,ih]
   constructor
   ·rintro(rfl|⟨h1,h2,p,h3,h4⟩)
    ·refine⟨Nat.le_refl _,hc.1,o,by simp,fun e he hb=>?_⟩
     rcases hc.2 e (by simpa using he)with h|h
     ·rw[hb]at h;cases h
     ·exact h
    ·exact⟨by omega,h2,p,(bj h1).trans h3,h4⟩
   ·rintro⟨h1,h2,p,h3,h4⟩
    rcases Nat.eq_or_lt_of_le h1 with h|h
    ·exact .inl h.symm
    ·exact .inr ⟨h,h2,p,(bj h).symm.trans h3,h4⟩
  |false=>
   simp only[cond_false,ih]
   constructor
   ·rintro⟨h1,h2,p,h3,h4⟩
    exact⟨by omega,h2,p,(bj h1).trans h3,h4⟩
   ·rintro⟨h1,h2,p,h3,h4⟩
    rcases Nat.eq_or_lt_of_le h1 with h|h
    ·subst h
     exfalso
     simp only[Nat.sub_self,List.getElem?_cons_zero,Option.some.injEq]at h3
     subst h3
     have:(!Nat.testBit m i&&o.after.toList.all (fun e=> !Region.binds .any e||Nat.testBit m e.on))=true:=by
      simp only[Bool.and_eq_true,Bool.not_eq_true',List.all_eq_true,Bool.or_eq_true]
      refine⟨h2,fun e he=>?_⟩
      cases hb:Region.binds .any e with
      |false=>exact .inl rfl
      |true=>exact .inr (h4 e (by simpa using he) hb)
     rw[this]at hc;cases hc
    ·exact⟨h,h2,p,(bj h).symm.trans h3,h4⟩
theorem FD{m:Nat}{bI:Array Bool}(hm:∀j,m.testBit j=bI.getD j false)(hs:bI.size=ops.size){j:Nat}:j∈qN m ops.toList 0↔j∈Region.ready .any ops bI:=by
 rw[UB,mem_ready]
 simp only[Nat.zero_le,true_and,Nat.sub_zero,Array.getElem?_toList]
 constructor
 ·rintro⟨h1,o,h2,h3⟩
  refine⟨?_,o,h2,fun e he hb=>(hm e.on).symm.trans (h3 e he hb)⟩
  have hj:j<bI.size:=by rw[hs];exact(Array.getElem?_eq_some_iff.1 h2).1
  rw[hm]at h1
  simp only[Array.getD_eq_getD_getElem?,Array.getElem?_eq_getElem hj,Option.getD_some]at h1 ⊢
  exact h1
 ·rintro⟨h1,o,h2,h3⟩
  refine⟨?_,o,h2,fun e he hb=>(hm e.on).trans (h3 e he hb)⟩
  have hj:j<bI.size:=by rw[hs];exact(Array.getElem?_eq_some_iff.1 h2).1
  rw[hm]
  simp only[Array.getD_eq_getD_getElem?,Array.getElem?_eq_getElem hj,Option.getD_some]at h1 ⊢
  exact h1
theorem UC{R:List Nat}{m i:Nat}{o:Oper}:∀{l:List Oper}{j:Nat},KG ops aH R m i o l j=true→∀(n:Nat)p,l[n]? =some p→
  i=j+n∨m.testBit (j+n)=true∨(R.getD (j+n) 0).testBit i=true∨indep ops (aH i) (aH (j+n)) o p=true
 |[],j,_,n,p,h=>by simp at h
 |q::l,j,h,n,p,hp=>by
  simp only[KG,Bool.and_eq_true,Bool.or_eq_true]at h
  cases n with
  |zero=>
   simp at hp;subst hp
   rcases h.1 with((h|h)|h)|h
   ·exact .inl (Nat.eq_of_beq_eq_true h)
   ·exact .inr (.inl h)
   ·exact .inr (.inr (.inl h))
   ·exact .inr (.inr (.inr h))
  |succ n=>
   have:=UC h.2 n p (by simpa using hp)
   rw[show j+(n+1)=j+1+n by omega]
   exact this
theorem Tv{R:List Nat}{m i:Nat}:∀{l:List Nat},firstFree ops aH R m l=some i→i∈l∧Km ops aH R m i=true
 |[],h=>by simp[firstFree]at h
 |k::l,h=>by
  rw[firstFree]at h
  cases hk:Km ops aH R m k with
  |true=>rw[hk]at h;cases h;exact⟨by simp,hk⟩
  |false=>rw[hk]at h;have:=Tv h;exact⟨by simp[this.1],this.2⟩
theorem V1{f:Nat→Prop}:∀{l:List Nat},K1 f l→∀i∈l,f i
 |[],_,i,h=>by cases h
 |[j],hf,i,h=>by
  simp only[List.mem_cons,List.not_mem_nil,or_false]at h
  subst h;exact hf
 |j::k::l,hf,i,h=>by
  have hf:f j∧K1 f (k::l):=hf
  rcases List.mem_cons.1 h with h|h
  ·subst h;exact hf.1
  ·exact V1 hf.2 i h
theorem aal{m i j:Nat}:(m|||2^i).testBit j=(m.testBit j||decide (i=j)):=by
 rw[Nat.testBit_or,Nat.testBit_two_pow]
theorem Ny{K:Env→Prop}:∀(n m:Nat)(bI:Array Bool)(e:Env),(∀j,m.testBit j=bI.getD j false)→bI.size=ops.size→wN ops bI→Good gl e→
  Ca P gl (aG P gl) ops aH (reach [] ops.toList) base K n m e→xf P gl ops aH base K n bI e
 |0,m,bI,e,hm,hs,hc,hG,h=>by
  rw[Ca]at h
  cases hr:(qN m ops.toList 0).isEmpty with
  |false=>rw[hr]at h;exact h.elim
  |true=>
   rw[hr]at h
   refine⟨?_,h⟩
   rw[List.eq_nil_iff_forall_not_mem]
   intro j hj
   have:=(FD hm hs).2 hj
   rw[List.isEmpty_iff.1 hr]at this
   cases this
 |n+1,m,bI,e,hm,hs,hc,hG,h=>by
  rw[Ca]at h
  cases hr:(qN m ops.toList 0).isEmpty with
  |true=>
   rw[hr]at h
   refine⟨fun _=>h,fun i hi=>?_⟩
   have:=(FD hm hs).2 hi
   rw[List.isEmpty_iff.1 hr]at this
   cases this
  |false=>
   rw[hr,cond_false]at h
   have lQ:∀{i:Nat},i∈Region.ready .any ops bI→∀j,(m|||2^i).testBit j=(bI.setIfInBounds i true).getD j false:=by
    intro i hi j
    rw[aal,hm]
    have pZ:i<bI.size:=by
     obtain⟨_,o,ho,_⟩:=mem_ready.1 hi
     rw[hs];exact(Array.getElem?_eq_some_iff.1 ho).1
    by_cases eY:i=j
    ·subst eY;simp[pZ]
    ·rw[getD_set_ne false eY];simp[eY]
   have step:∀{i:Nat}{o:Oper},i∈Region.ready .any ops bI→ops[i]? =some o→
     o8 P gl (aG P gl) ops.toList (base+fM ops.toList i) (aH i) o e (fun e'=>Ca P gl (aG P gl) ops aH (reach [] ops.toList) base K n (m|||2^i) e')→
     ∃src s U,Out P gl (aG P gl) ops (base+fM ops.toList i) (aH i) o e src s U∧xf P gl ops aH base K n (bI.setIfInBounds i true) (fin o src s U e):=by
    intro i o hi ho h1
    obtain⟨src,s,U,hk,hO,_⟩:=Bt h1
    exact⟨src,s,U,hO,Ny n _ _ _ (lQ hi) (by simpa using hs) (hc.set hi) (NS hG ho (hO.run rfl)) hk⟩
   have fJ:=V1 h
   unfold YJ at fJ
   cases hf:firstFree ops aH (reach [] ops.toList) m (qN m ops.toList 0)with
   |some i=>
    rw[hf]at fJ
    obtain⟨him,oK⟩:=Tv hf
    have hi:=(FD hm hs).1 him
    obtain⟨td,o,ho,_⟩:=mem_ready.1 hi
    have h1:=fJ i (by simp)
    simp only[Array.getElem?_toList,ho]at h1
    obtain⟨src,s,U,hO,hA⟩:=step hi ho h1
    unfold Km at oK
    simp only[Array.getElem?_toList,ho]at oK
    refine Vi (E:=none) (K:=fun _=>False) ho n bI e src s U (fun j oj kK mA Qv eT=>?_) hc hi hG (fun A hA=>by cases hA) hO hA
    have:=UC oK j oj (by rw[Array.getElem?_toList];exact kK)
    rw[Nat.zero_add]at this
    rcases this with h|h|h|h
    ·exact absurd h.symm mA
    ·exfalso
     have kH:j<bI.size:=by rw[hs];exact(Array.getElem?_eq_some_iff.1 kK).1
     rw[hm]at h
     simp only[Array.getD_eq_getD_getElem?,Array.getElem?_eq_getElem kH,Option.getD_some]at h Qv
     rw[h]at Qv;cases Qv
    ·rw[eT]at h;cases h
    ·simp[DL,h]
   |none=>
    rw[hf]at fJ
    refine⟨fun h0=>?_,fun i hi=>?_⟩
    ·exfalso
     cases hl:qN m ops.toList 0 with
     |nil=>rw[hl]at hr;cases hr
     |cons i l=>
      have:=(FD hm hs (j:=i)).1 (by rw[hl];simp)
      rw[h0]at this;cases this
    ·have h1:=fJ i ((FD hm hs).2 hi)
     obtain⟨_,o,ho,_⟩:=mem_ready.1 hi
     simp only[Array.getElem?_toList,ho]at h1
     obtain⟨src,s,U,hO,hA⟩:=step hi ho h1
     exact⟨o,ho,hO.run hA⟩
theorem Nz{all:List Oper}{K:Env→Prop}:∀(l:List Oper)(i:Nat)(e:Env),iE P gl (aG P gl) aH all base l i e K→∃e',K e'
 |[],_,e,h=>⟨e,h⟩
 |o::l,i,e,h=>by
  rw[Ac]at h
  have fJ:all=all.toArray.toList:=by simp
  rw[fJ]at h
  obtain⟨src,s,U,hk,hO,_⟩:=Bt h
  rw[←fJ]at hk
  exact Nz l (i+1) _ hk
theorem Inv.FL{w0:World}{ar:S0}{e:Env}{a:Act}{w:World}{g:Gh}(hI:Inv gl w0 ar e a w g)(n:Nat):
  Inv gl w0 ar ⟨e.ak,e.boxes++List.replicate n .none⟩ a w {g with bx:=g.bx++List.replicate n none}:=by
 have eL:∀b,some b∈g.bx++List.replicate n (none:Option Nat)→some b∈g.bx:=fun b h=>by
  rcases List.mem_append.1 h with h|h
  ·exact h
  ·have:=(List.mem_replicate.1 h).2;cases this
 have jF:∀(i:Nat)ao,(g.bx++List.replicate n (none:Option Nat))[i]? =some (some ao)→g.bx[i]? =some (some ao):=fun i ao h=>by
  rw[List.getElem?_append]at h
  split at h
  ·exact h
  ·have:=(List.mem_replicate.1 (List.mem_of_getElem? h)).2;cases this
 have hX:Ext w0.heap.size w g w {g with bx:=g.bx++List.replicate n none} (fun _=>False):=by
  refine⟨fun _ _ hb ho h=>⟨h,fun hm=>hb (eL _ hm),ho,fun _ h=>h⟩,fun _ _ h=>(by first|exact⟨h,rfl⟩|exact⟨h,.refl _ _ _⟩),fun _ _ _=>rfl,fun i ao h=>?_,fun p b a' c _ ho=>?_,.refl _⟩
  ·simp only;rw[List.getElem?_append_left (List.getElem?_eq_some_iff.1 h).1];exact h
  ·obtain⟨h1,h2,h3,h4,h5⟩:=ho
   exact⟨⟨h1,h2,fun h=>h3 (eL b h),h4,h5⟩,.refl _ _ _⟩
 refine⟨hI.below,hI.size,fun i s hs=>hX.slot (fun _ h=>h) (hI.ak i s hs),by simp[hI.fQ],fun b bx ao h1 h2=>?_,fun i j ao h1 h2=>hI.nodup i j ao (jF i ao h1) (jF j ao h2),hI.gU,
  fun b o h=>⟨(hI.cW b o h).1,fun hm=>(hI.cW b o h).2.1 (eL b hm),(hI.cW b o h).2.2⟩,fun b h=>hI.dF b (eL b h),hI.lg.ext hX,hI.defers,fun D o hD=>(have h:=hI.fT D o hD;⟨fun hm=>h.1 (eL D hm),h.2⟩),hI.cls,hI.kD⟩
 have sY:=jF b ao h2
 simp only at h1
 rw[List.getElem?_append_left (by rw[←hI.fQ];exact(List.getElem?_eq_some_iff.1 sY).1)]at h1
 exact hX.box (fun _ h=>h) rfl (hI.boxes b bx ao h1 sY)
theorem Inv.drew{w0:World}{ar:S0}{e:Env}{a:Act}{w:World}{g:Gh}(hI:Inv gl w0 ar e a w g):Inv gl w0 ar e a {w with drawn:=w.drawn+1} g:=by
 have hX:Ext w0.heap.size w g {w with drawn:=w.drawn+1} g (fun _=>False):=⟨fun _ _ hb ho h=>⟨h,hb,ho,fun _ h=>h⟩,fun _ _ h=>(by first|exact⟨h,rfl⟩|exact⟨h,.refl _ _ _⟩),fun _ _ _=>rfl,fun _ _ h=>h,fun _ _ _ _ _ h=>⟨h,.refl _ _ _⟩,fun _ c ty _ h=>⟨c,ty,h,rfl⟩⟩
 refine⟨⟨hI.below.os,hI.below.tape,hI.below.output,hI.below.size,hI.below.block⟩,hI.size,fun i s hs=>hX.slot (fun _ h=>h) (hI.ak i s hs),hI.fQ,fun b bx ao h1 h2=>hX.box (fun _ h=>h) rfl (hI.boxes b bx ao h1 h2),hI.nodup,hI.gU,hI.cW,hI.dF,hI.lg.ext hX,hI.defers,hI.fT,hI.cls,hI.kD⟩
theorem Inv.P0{w0:World}{ar:S0}{e:Env}{a:Act}{w:World}{g:Gh}(hI:Inv gl w0 ar e a w g)(n:Nat){e':Env}(he:e'=⟨e.ak,e.boxes++List.replicate n .none⟩):
  Jv ops e.boxes.length (fun b=>∃ao,g.bx[b]? =some (some ao)) (Array.replicate ops.size false) e':=by
 subst he
 have ko:∀{O:Nat→Nat→Nat→Nat→Prop}{s:Slot}{v:Value},cE w0.heap.size w g O s v→eD (fun b=>∃ao,g.bx[b]? =some (some ao)) s:=by
  intro O s v h
  induction h with
  |v O x y h=>exact .v _
  |t O xs vs hl hc=>exact .t _
  |p O b off ao h=>exact .p _ _ ⟨ao,h⟩
  |a O b n sz v hm h=>obtain⟨ao,cap,h1,_⟩:=h;exact .a _ _ _ ⟨ao,h1⟩
  |m O b ao h=>exact .m _ ⟨ao,h⟩
  |c O f first cap fv cv hf hc _ _ kB kC=>
   refine .c _ _ _ (fun s hs=>?_) (fun s hs=>?_)
   ·obtain⟨i,hi,rfl⟩:=List.mem_iff_getElem.1 hs
    exact kB i _ (fv[i]'(by omega)) (by simp) (by simp)
   ·obtain⟨i,hi,rfl⟩:=List.mem_iff_getElem.1 hs
    exact kC i _ (cv[i]'(by omega)) (by simp) (by simp)
 refine⟨fun b⟨ao,hb⟩=>by rw[←hI.fQ];exact(List.getElem?_eq_some_iff.1 hb).1,fun t _=>?_,fun b s hb hs=>?_,fun i o a' _ _ hl=>?_⟩
 ·exact ko (kb hI t)
 ·simp only at hs
  rw[List.getElem?_append]at hs
  split at hs
  ·rename_i aO
   rcases hb with⟨ao,hb⟩|hb
   ·obtain⟨_,c,t,hc,_,aM,hr⟩:=hI.boxes b _ ao hs hb
    have rE:c[0]? =some (c[0]'(by omega)):=by simp
    exact ko (hr _ rE)
   ·omega
  ·have:=(List.mem_replicate.1 (List.mem_of_getElem? hs)).2;cases this
 ·exfalso
  rcases Nat.lt_or_ge i ops.size with h|h
  ·simp[h]at hl
  ·simp[h]at hl
theorem acU{w0:World}{ar:S0}{e:Env}{a:Act}{w:World}{g:Gh}(hI:Inv gl w0 ar e a w g){id:Nat}{draw:Bool}{K:Env→Prop}{Q:Exit→Act→World→Prop}(hm:P.follows .mixedOrders =true)
  (h:Dv P gl (aG P gl) aH ops.toList e (yQ P gl (aG P gl) (!draw||oe aH ops) ops aH e K))(hQ:∀e a w g,Inv gl w0 ar e a w g→K e→Q .normal a w):(Code.region id ops draw).wp P Q a w:=by
 unfold Dv at h
 cases ej:(!draw||oe aH ops)with
 |false=>
  rw[ej]at h
  obtain⟨e',Ch,hK⟩:=Nz _ _ _ h
  have hd:draw=true:=by cases draw<;>simp_all
  subst hd
  refine wp_region_any hm ?_
  have cq:=(hI.FL (fM ops.toList ops.toList.length)).drew
  have:=Ny (P:=P) (gl:=gl) (aH:=aH) (K:=fun x=>x=e') _ 0 (Array.replicate ops.size false) _ (fun j=>by simp[Array.getElem?_replicate];split<;>rfl) (by simp) (fun j o ho hl=>by
   have hj:j<ops.size:=(Array.getElem?_eq_some_iff.1 ho).1
   simp[hj]at hl) ⟨w0,ar,a,_,_,cq⟩ Ch
  have h2:=Po (Q:=Q) (K:=fun x=>x=e') (fun e1 a1 w1 g1 hinv hk=>hQ e1 a1 w1 g1 hinv (by rw[hk];exact hK)) _ _ _ _ _ _ cq this
  simpa using h2
 |true=>
 rw[ej]at h
 replace h:iE P gl (aG P gl) aH ops.toList e.boxes.length ops.toList 0 ⟨e.ak,e.boxes++List.replicate (fM ops.toList ops.toList.length) .none⟩ K:=h
 have bt:=hI.FL (fM ops.toList ops.toList.length)
 cases draw with
 |false=>
  refine wp_region ?_
  have:=WX (base:=e.boxes.length) (aH:=aH) hQ ops.toList 0 _ a w _ (fun j=>by simp) bt h
  rw[List.range_eq_range']
  simpa using this
 |true=>
  simp only[Bool.not_true,Bool.false_or]at ej
  refine wp_region_any hm ?_
  have cq:=bt.drew
  have aM:(Array.replicate ops.size false).size =ops.size:=by simp
  have HN:=hI.P0 (ops:=ops) (fM ops.toList ops.toList.length) rfl
  obtain⟨E,vE,ej⟩:∃E,Js ops aH e.boxes.length _ E (Array.replicate ops.size false) ⟨e.ak,e.boxes++List.replicate (fM ops.toList ops.toList.length) .none⟩∧Ai E ops aH (reach [] ops.toList) ops.toList 0=true:=by
   unfold oe at ej
   cases fU:eligible ops.toList aH (reach [] ops.toList)with
   |true=>rw[fU]at ej;exact⟨_,fun A hA=>by cases hA;exact⟨rfl,OQ fU,HN⟩,ej⟩
   |false=>rw[fU]at ej;exact⟨none,fun A hA=>(by cases hA),ej⟩
  have:=JZ (P:=P) (gl:=gl) (base:=e.boxes.length) (aH:=aH) ops.toList 0 (Array.replicate ops.size false) _ (fun j=>by simp) (fun j hj=>by omega) (fun j _ hj=>by simp[hj]) aM
   (fun j o ho hl=>by
     have hj:j<ops.size:=(Array.getElem?_eq_some_iff.1 ho).1
     simp[hj]at hl) ⟨w0,ar,a,_,_,cq⟩ vE ej h
  have h2:=Po hQ _ _ _ _ _ _ cq this
  simpa using h2
end
end Go.Proofs.Ytimbllcalipehaa.Ab
namespace Go.Proofs.Ytimbllcalipehaa.Ab
open Go Go.RowKit
def qP(n:Nat)(e e':Env):Prop:=∀i,i<n→e'.boxes.getD i .none =.none ∨(e.boxes.getD i .none ≠.none ∧(e'.boxes.getD i .none).isMap =(e.boxes.getD i .none).isMap)
theorem qP.refl(n:Nat)(e:Env):qP n e e:=fun i _=>by
 by_cases h:e.boxes.getD i .none =.none
 ·exact .inl h
 ·exact .inr ⟨h,rfl⟩
theorem qP.trans{n m:Nat}{e e1 e2:Env}(rH:n≤m)(h1:qP n e e1)(h2:qP m e1 e2):qP n e e2:=fun i hi=>by
 rcases h2 i (by omega)with h|⟨h3,h4⟩
 ·exact .inl h
 ·rcases h1 i hi with h|⟨h5,h6⟩
  ·exact absurd h h3
  ·exact .inr ⟨h5,h4.trans h6⟩
section
variable{P:Program}{gl:Nat→Option D}{w0:World}{ar:S0}{e:Env}{a:Act}{w:World}{g:Gh}
theorem Vj{sz:Nat}:∀{L:List D}{i j:Nat}{x c:D},(∀x∈L,x.cells.length=sz)→L[i]? =some x→x.cells[j]? =some c→(bc L)[i*sz+j]? =some (.d c)
 |[],i,j,x,c,_,h,_=>by simp at h
 |y::L,0,j,x,c,hs,h,hc=>by
  simp at h;subst h
  simp only[bc,Nat.zero_mul,Nat.zero_add]
  rw[List.getElem?_append_left (by simp[(List.getElem?_eq_some_iff.1 hc).1]),List.getElem?_map,hc];rfl
 |y::L,i+1,j,x,c,hs,h,hc=>by
  have hy:=hs y (by simp)
  simp only[bc]
  rw[List.getElem?_append_right (by simp[hy,Nat.succ_mul];omega)]
  have:(i+1)*sz+j-(y.cells.map SV.d).length =i*sz+j:=by simp[hy,Nat.succ_mul];omega
  rw[this]
  exact Vj (fun x hx=>hs x (by simp[hx])) (by simpa using h) hc
theorem M9{sz:Nat}:∀{L:List D},(∀x∈L,x.cells.length=sz)→(bc L).length =L.length*sz
 |[],_=>by simp[bc]
 |y::L,hs=>by
  simp only[bc,List.length_append,List.length_map,List.length_cons,hs y (by simp),Nat.succ_mul]
  rw[M9 fun x hx=>hs x (by simp[hx])];omega
theorem V2{sz:Nat}{L:List D}(hs:∀x∈L,x.cells.length=sz){o:Nat}{y:SV}(h:(bc L)[o]? =some y):∃i x j c,L[i]? =some x∧x.cells[j]? =some c∧o=i*sz+j∧y=.d c:=by
 have ho:o<L.length*sz:=by rw[←M9 hs];exact(List.getElem?_eq_some_iff.1 h).1
 have aM:0<sz:=by
  rcases Nat.eq_zero_or_pos sz with h0|h0
  ·subst h0;simp at ho
  ·exact h0
 have hq:o / sz<L.length:=Nat.div_lt_of_lt_mul (by rw[Nat.mul_comm];exact ho)
 have Ce:=Nat.mod_lt o aM
 have hc:(L[o / sz]).cells[o % sz]? =some ((L[o / sz]).cells[o % sz]'(by rw[hs _ (List.getElem_mem hq)];exact Ce)):=by simp
 have heq:o / sz*sz+o % sz=o:=by rw[Nat.mul_comm];exact Nat.div_add_mod o sz
 refine⟨o / sz,L[o / sz],o % sz,_,List.getElem?_eq_getElem hq,hc,heq.symm,?_⟩
 have:=Vj hs (List.getElem?_eq_getElem hq) hc
 rw[heq,h]at this
 exact Option.some.inj this
theorem afx(hI:Inv gl w0 ar e a w g){t:Nat}{x:SV}(hx:e.ak.getD t (.v .undef)=.v x)(hm:∃sz L,x=.aZ sz L):
  ∃sz L g',x=.aZ sz L∧Inv gl w0 ar ⟨e.ak.set t (.a e.boxes.length L.length sz),e.boxes++[.cells (bc L)]⟩ a w g':=by
 have hs:=kb hI t
 rw[hx]at hs
 have hv:=hs.jV
 have KL:∀(y:Option Nat)(i:Nat)ao,(g.bx++[y])[i]? =some (some ao)→(i<e.boxes.length∧g.bx[i]? =some (some ao))∨(i=e.boxes.length∧y=some ao):=by
  intro y i ao h
  rw[List.getElem?_append,hI.fQ]at h
  split at h
  ·exact .inl ⟨by assumption,h⟩
  ·rename_i hi
   right
   have:i-e.boxes.length=0:=by
    rcases Nat.eq_zero_or_pos (i-e.boxes.length)with h0|h0
    ·exact h0
    ·rw[List.getElem?_eq_none (by simp;omega)]at h;cases h
   rw[this]at h
   simp at h
   exact⟨by omega,h⟩
 have build:∀(L:List D)(sz:Nat)(y:Option Nat)(g':Gh),g'.bx=g.bx++[y]→g'.St=g.St→Ext w0.heap.size w g w g' (fun p=>∃j,p=.s t j)→
   (∀(i j:Nat)ao,g'.bx[i]? =some (some ao)→g'.bx[j]? =some (some ao)→i=j)→(∀b,y=some b→w0.heap.size≤b∧b<w.heap.size∧∀o,¬g.St b o)→
   cE w0.heap.size w g' (fO w0.heap.size w g' t) (.a e.boxes.length L.length sz) (a.tmps.getD t undef)→(∀ao,y=some ao→qX w0.heap.size w g' e.boxes.length (.cells (bc L)) ao)→
   Inv gl w0 ar ⟨e.ak.set t (.a e.boxes.length L.length sz),e.boxes++[.cells (bc L)]⟩ a w g':=by
  intro L sz y g' eB aY hX nF hy nv akC
  refine⟨hI.below,by simp[hI.size],fun i s ph=>?_,by rw[eB];simp[hI.fQ],fun b bx ao h1 h2=>?_,nF,fun b o h=>by rw[aY];exact hI.gU b o h,fun b o h=>?_,fun b h=>?_,hI.lg.ext hX,hI.defers,fun D o hD=>(have h:=hI.fT D o hD;have k:=hX.df D o h.1 h.2.1 h.2.2.1;⟨k.2.1,k.2.2.1,k.1,fun x hx=>h.2.2.2 x (k.2.2.2 x hx)⟩),fun b o v hv=>(have h:=hI.cls b o v hv;⟨(hX.st b o h.1).1,(hX.st b o h.1).2.1.trans h.2⟩),hI.kD⟩
  ·rw[List.getElem?_set]at ph
   split at ph
   ·rename_i gX
    subst gX
    split at ph
    ·cases ph;exact nv
    ·cases ph
   ·rename_i gX
    exact hX.slot (fun j=>by rintro⟨j',hj⟩;cases hj;exact gX rfl) (hI.ak i s ph)
  ·rw[eB]at h2
   rcases KL y b ao h2 with⟨aO,h3⟩|⟨rfl,h3⟩
   ·simp only at h1
    rw[List.getElem?_append_left aO]at h1
    exact hX.box (fun j=>by rintro⟨j',hj⟩;cases hj) rfl (hI.boxes b bx ao h1 h3)
   ·simp at h1
    subst h1
    exact akC ao h3
  ·rw[aY]at h
   refine⟨(hI.cW b o h).1,fun hm=>?_,(hI.cW b o h).2.2⟩
   rw[eB]at hm
   rcases List.mem_append.1 hm with hm|hm
   ·exact(hI.cW b o h).2.1 hm
   ·simp at hm
    exact(hy b hm.symm).2.2 o h
  ·rw[eB]at h
   rcases List.mem_append.1 h with h|h
   ·exact hI.dF b h
   ·simp at h
    exact⟨(hy b h.symm).1,(hy b h.symm).2.1⟩
 obtain⟨sz,L,rfl⟩:=hm
 have oL:a.eval (.tmp t)=a.tmps.getD t undef:=rfl
 rw[oL]at hv
 generalize mN:a.tmps.getD t undef=v at hv
 cases hv with
 |aZ _ _ _ gg cap vs bM hm aM hf ho aR hc=>
  obtain⟨o1,o2,o3,⟨cur,te,o4,lP⟩,o5⟩:=ho
  let g':Gh:={g with bx:=g.bx++[some gg]}
  have hX:Ext w0.heap.size w g w g' (fun p=>∃j,p=.s t j):=by
   refine⟨fun D ob hb eT h=>⟨h,(fun hm=>by
    rcases List.mem_append.1 hm with hm|hm
    ·exact hb hm
    ·simp at hm
     subst hm
     rw[o1]at eT
     cases eT),eT,fun _ h=>h⟩,fun _ _ h=>⟨h,.refl _ _ _⟩,fun _ _ _=>rfl,fun i ao h=>?_,fun p b a' c hp bQ=>⟨?_,.refl _ _ _⟩,.refl _⟩
   ·show(g.bx++[some gg])[i]? =_
    rw[List.getElem?_append_left (List.getElem?_eq_some_iff.1 h).1];exact h
   ·obtain⟨p1,p2,p3,p4,p5⟩:=bQ
    refine⟨p1,p2,fun hm=>?_,p4,p5⟩
    rcases List.mem_append.1 hm with hm|hm
    ·exact p3 hm
    ·simp at hm
     subst hm
     rw[o1]at p1
     cases p1
     exact hp ⟨0,rfl⟩
  have hlen:(bc L).length =L.length*sz:=M9 aM
  have akD:L.length*sz≤cap*sz:=Nat.mul_le_mul_right _ bM
  refine⟨sz,L,g',rfl,build L sz (some gg) g' rfl rfl hX ?_ ?_ ?_ ?_⟩
  ·intro i j ao h1 h2
   have no:∀(i:Nat),g.bx[i]? =some (some gg)→False:=fun i h=>o3 (List.mem_of_getElem? h)
   rcases KL (some gg) i ao h1 with⟨h3,h4⟩|⟨h3,h4⟩
   ·rcases KL (some gg) j ao h2 with⟨h5,h6⟩|⟨h5,h6⟩
    ·exact hI.nodup i j ao h4 h6
    ·cases h6;exact(no i h4).elim
   ·rcases KL (some gg) j ao h2 with⟨h5,h6⟩|⟨h5,h6⟩
    ·cases h4;exact(no j h6).elim
    ·omega
  ·intro b hb
   cases hb
   exact⟨o2,(Array.getElem?_eq_some_iff.1 o4).1,fun o=>o5 o (Nat.zero_le _)⟩
  ·rw[mN]
   refine .a _ _ _ _ _ (Nat.le_trans bM hm) ⟨gg,cap,?_,bM,rfl,hm,cur,te,o4,lP⟩
   show(g.bx++[some gg])[e.boxes.length]? =_
   rw[←hI.fQ];simp
  ·intro ao dM
   cases dM
   have pU:∀(o:Nat)y,o<(bc L).length →cur[o]? =some y→y=vs o:=by
    intro o y ho hy
    have h1:=aR o (by rw[←hlen];exact ho)
    rw[cell_of_row w gg o cur te (0,0) o4,hy]at h1
    exact Option.some.inj h1
   refine⟨o2,cur,te,o4,fun j y hj hy=>?_,by rw[hlen,lP];exact akD,fun j x y hx hy=>?_⟩
   ·have oG:j<(bc L).length :=hj
    obtain⟨i,x,k,c,h1,h2,rfl,_⟩:=V2 aM (List.getElem?_eq_getElem oG)
    rw[pU _ y oG hy]
    exact(hc i x k c h1 h2).uS (hf x (List.mem_of_getElem? h1) c (List.mem_of_getElem? h2))
   ·have oG:=(List.getElem?_eq_some_iff.1 hx).1
    obtain⟨i,x',k,c,h1,h2,rfl,rfl⟩:=V2 aM hx
    rw[pU _ y oG hy]
    exact .d _ _ _ (hc i x' k c h1 h2)
theorem Jq(b:Nat)(r:Nat→SV)(rm:SV)(ts:List Nat):∀(l:List Slot)(k i:Nat),(od b r rm ts l k)[i]? =(l[i]?).map fun s=>bif ts.contains (k+i)then DZ b r rm s else s
 |[],_,_=>by simp[od]
 |s::l,k,i=>by
  cases i with
  |zero=>simp[od]
  |succ i=>
   simp only[od,List.getElem?_cons_succ]
   rw[Jq b r rm ts l (k+1) i,show k+1+i=k+(i+1) by omega]
theorem De(b:Nat)(r:Nat→SV)(rm:SV)(ts:List Nat):∀(l:List Slot)(k:Nat),(od b r rm ts l k).length =l.length
 |[],_=>rfl
 |_::l,k=>by simp[od,De b r rm ts l (k+1)]
theorem UD{b:Nat}{ts:List Nat}:∀{l:List Slot}{k:Nat},wX b ts l k=true→∀(i:Nat)s,l[i]? =some s→ts.contains (k+i)=false→s.has b=false
 |[],_,_,i,s,h,_=>by simp at h
 |s'::l,k,hk,i,s,h,hc=>by
  simp only[wX,Bool.and_eq_true]at hk
  cases i with
  |zero=>
   simp at h;subst h
   have:=hk.1
   rw[Nat.add_zero]at hc
   rw[hc]at this
   simpa using this
  |succ i=>exact UD hk.2 i s (by simpa using h) (by rw[show k+1+i=k+(i+1) by omega];exact hc)
theorem Jg{b:Nat}:∀{l:List af},tH b l=true→∀(i:Nat)s,l[i]? =some (.one s)→s.has b=false
 |[],_,i,s,h=>by simp at h
 |x::l,hk,i,s,h=>by
  cases i with
  |zero=>
   simp at h;subst h
   simp only[tH,Bool.and_eq_true]at hk
   simpa using hk.1
  |succ i=>
   have bU:tH b l=true:=by cases x<;>simp only[tH,Bool.and_eq_true]at hk<;>first|exact hk|exact hk.2
   exact Jg bU i s (by simpa using h)
theorem NA{b:Nat}:∀{l:List Slot},Slot.yO b l=false→∀(i:Nat)s,l[i]? =some s→s.has b=false
 |[],_,i,s,h=>by simp at h
 |x::l,hk,i,s,h=>by
  simp only[Slot.yO,Bool.or_eq_false_iff]at hk
  cases i with
  |zero=>simp at h;subst h;exact hk.1
  |succ i=>exact NA hk.2 i s (by simpa using h)
theorem cE.YS{base:Nat}{g':Gh}{b:Nat}(aY:∀b' o,g.St b' o→g'.St b' o)(eB:∀(i:Nat)ao,i≠b→g.bx[i]? =some (some ao)→g'.bx[i]? =some (some ao)){O:Nat→Nat→Nat→Nat→Prop}{s:Slot}{v:Value}
  (r:cE base w g O s v):∀{O':Nat→Nat→Nat→Nat→Prop},(∀j b a c,O j b a c→O' j b a c)→s.has b=false→cE base w g' O' s v:=by
 induction r with
 |v O x y h=>intro O' hO _;exact .v _ _ _ (h.mono (fun b o h=>⟨aY b o h,.refl _ _ _⟩) (fun _ _ _=>rfl) _ (fun _ _ _ h=>⟨hO 0 _ _ _ h,.refl _ _ _⟩))
 |p O b' off ao h=>intro O' _ hh;exact .p _ _ _ _ (eB _ _ (by simpa[Slot.has]using hh) h)
 |a O b' n sz v hm h=>intro O' _ hh;exact .a _ _ _ _ _ hm (by obtain⟨ao,cap,h1,h2,h3⟩:=h;exact⟨ao,cap,eB _ _ (by simpa[Slot.has]using hh) h1,h2,h3⟩)
 |m O b' ao h=>intro O' _ hh;exact .m _ _ _ (eB _ _ (by simpa[Slot.has]using hh) h)
 |c O f first cap fv cv hf hc _ _ kB kC=>
  intro O' _ hh
  simp only[Slot.has,Bool.or_eq_false_iff]at hh
  exact .c _ f first cap fv cv hf hc (fun i x v h1 h2=>kB i x v h1 h2 (fun _ _ _ _ h=>h) (NA hh.1 i x h1)) (fun i x v h1 h2=>kC i x v h1 h2 (fun _ _ _ _ h=>h) (NA hh.2 i x h1))
 |t O xs vs hl hc=>intro O' hO _;exact .t _ xs vs hl fun j x v h1 h2=>(hc j x v h1 h2).mono (fun b o h=>⟨aY b o h,.refl _ _ _⟩) (fun _ _ _=>rfl) _ (fun _ _ _ h=>⟨hO j _ _ _ h,.refl _ _ _⟩)
def CF(l:List Slot):Option (Nat×SV)→List Slot
 |none=>l
 |some (t,x)=>l.set t (.v x)
theorem NT(hI:Inv gl w0 ar e a w g){b:Nat}{ts:List Nat}{r:Nat→SV}{rm:SV}(gk:wX b ts e.ak 0=true){S:Nat→Nat→Prop}(hS:∀b' o,S b' o→g.bx[b]? =some (some b'))
  {dP:List af}(eh:dP.length=e.boxes.length){ov:Option (Nat×SV)}{EO:Nat→Option Pos}(ue:∀b',some b'∉g.bx→EO b'=g.ow b')(g':Gh)(gC:g'={St:=fun b' o=>g.St b' o∨S b' o,bx:=g.bx.set b none,ow:=EO})
  (ahc:∀(i:Nat)bx ao,i≠b→dP[i]? =some bx→g.bx[i]? =some (some ao)→(e.boxes[i]? =some bx∧∀s,bx=.one s→s.has b=false)∨qX w0.heap.size w g' i bx ao)
  (RC:∀t x,ov=some (t,x)→aP w g'.St w0.heap.size (fO w0.heap.size w g' t 0) x (a.tmps.getD t undef))
  (hr:(∀(n sz:Nat)(v:Value),cE w0.heap.size w g (fun _ _ _ _=>False) (Slot.a b n sz) v→aP w g'.St w0.heap.size (fun _ _ _=>False) (r n) v)∧
    (∀(v:Value),cE w0.heap.size w g (fun _ _ _ _=>False) (Slot.m b) v→aP w g'.St w0.heap.size (fun _ _ _=>False) rm v)):
  Inv gl w0 ar ⟨(CF (od b r rm ts e.ak 0) ov),dP⟩ a w g':=by
 subst gC
 let g':Gh:={St:=fun b' o=>g.St b' o∨S b' o,bx:=g.bx.set b none,ow:=EO}
 have RD:∀b' o,S b' o→some b'∈g.bx:=fun b' o h=>List.mem_of_getElem? (hS b' o h)
 have eB:∀(i:Nat)ao,i≠b→g.bx[i]? =some (some ao)→g'.bx[i]? =some (some ao):=fun i ao hi h=>by
  show(g.bx.set b none)[i]? =_
  rw[List.getElem?_set_ne (fun h=>hi h.symm)];exact h
 have Hd:∀(i:Nat)ao,g'.bx[i]? =some (some ao)→i≠b∧g.bx[i]? =some (some ao):=fun i ao h=>by
  have h:(g.bx.set b none)[i]? =some (some ao):=h
  rw[List.getElem?_set]at h
  split at h
  ·split at h<;>simp at h
  ·rename_i hi;exact⟨fun h=>hi h.symm,h⟩
 have eL:∀b',some b'∈g'.bx→some b'∈g.bx:=fun b' h=>by
  obtain⟨i,hi⟩:=List.mem_iff_getElem?.1 h
  exact List.mem_of_getElem? (Hd i b' hi).2
 have iO:∀p b' a' c,fa w0.heap.size w g p b' a' c→fa w0.heap.size w g' p b' a' c:=by
  rintro p b' a' c ⟨h1,h2,h3,h4,h5⟩
  exact⟨(ue b' h3).trans h1,h2,fun hm=>h3 (eL b' hm),h4,fun o ho=>by rintro(h|h);exact h5 o ho h;exact h3 (RD b' o h)⟩
 have aY:∀b' o,g.St b' o→g'.St b' o:=fun _ _ h=>.inl h
 have jq:(CF (od b r rm ts e.ak 0) ov).length =e.ak.length:=by
  cases ov with
  |none=>exact De _ _ _ _ _ _
  |some p=>simp[CF,De]
 refine⟨hI.below,by rw[jq];exact hI.size,fun i s hs=>?_,by simp[hI.fQ,eh],fun i bx ao h1 h2=>?_,fun i j ao h1 h2=>hI.nodup i j ao (Hd i ao h1).2 (Hd j ao h2).2,fun b' o h=>.inl (hI.gU b' o h),fun b' o h=>?_,fun b' h=>hI.dF b' (eL b' h),?_,hI.defers,fun D o hD=>(have h:=hI.fT D o hD;⟨fun hm=>h.1 (eL D hm),(ue D h.1).trans h.2.1,h.2.2.1,fun x hx=>h.2.2.2 x (hx.elim id fun e=>absurd (RD D x e) h.1)⟩),fun b o v hv=>(have h:=hI.cls b o v hv;⟨.inl h.1,h.2⟩),hI.kD⟩
 ·have hs:(∃x,ov=some (i,x)∧s=.v x)∨(od b r rm ts e.ak 0)[i]? =some s:=by
   cases Zm:ov with
   |none=>rw[Zm]at hs;exact .inr hs
   |some p=>
    obtain⟨t,x⟩:=p
    rw[Zm]at hs
    simp only[CF,List.getElem?_set]at hs
    split at hs
    ·rename_i gX
     subst gX
     split at hs
     ·cases hs;exact .inl ⟨x,rfl,rfl⟩
     ·cases hs
    ·exact .inr hs
  rcases hs with⟨x,hx,rfl⟩|hs
  ·exact .v _ _ _ (RC i x hx)
  simp only[Jq,Option.map_eq_some_iff,Nat.zero_add]at hs
  obtain⟨s0,lN,rfl⟩:=hs
  have h0:=hI.ak i s0 lN
  have fk:s0.has b=false→cE w0.heap.size w g' (fO w0.heap.size w g' i) s0 (a.tmps.getD i undef):=fun hh=>h0.YS aY eB (fun j b' a' c ho=>iO _ b' a' c ho) hh
  cases hc:ts.contains i with
  |false=>exact fk (UD gk i s0 lN (by simpa using hc))
  |true=>
   simp only[cond_true]
   have X2:∀v,cE w0.heap.size w g' (fO w0.heap.size w g' i) (.v .undef) v:=fun v=>.v _ _ _ (.undef _ _)
   have lift:∀{x v},aP w g'.St w0.heap.size (fun _ _ _=>False) x v→cE w0.heap.size w g' (fO w0.heap.size w g' i) (.v x) v:=fun h=>.v _ _ _ (h.mono (fun _ _ h=>⟨h,.refl _ _ _⟩) (fun _ _ _=>rfl) _ (fun _ _ _ h=>h.elim))
   cases s0 with
   |v x=>exact fk rfl
   |t x=>exact fk rfl
   |p b' off=>
    simp only[DZ]
    cases hb:b'==b with
    |true=>exact X2 _
    |false=>exact fk (by simp[Slot.has,hb])
   |a b' n sz=>
    simp only[DZ]
    cases hb:b'==b with
    |true=>
     have:=beq_iff_eq.1 hb
     subst this
     exact lift (hr.1 n sz _ h0.aa)
    |false=>exact fk (by simp[Slot.has,hb])
   |m b'=>
    simp only[DZ]
    cases hb:b'==b with
    |true=>
     have:=beq_iff_eq.1 hb
     subst this
     exact lift (hr.2 _ h0.aa)
    |false=>exact fk (by simp[Slot.has,hb])
   |c f x y=>
    simp only[DZ]
    cases hb:(Slot.yO b x||Slot.yO b y)with
    |true=>exact X2 _
    |false=>exact fk (by simp only[Slot.has,hb])
 ·obtain⟨bf,sY⟩:=Hd i ao h2
  rcases ahc i bx ao bf h1 sY with⟨vv,LX⟩|hb
  rotate_left
  ·exact hb
  have hb:=hI.boxes i bx ao vv sY
  cases bx with
  |none=>exact hb.elim
  |cells cs=>
   obtain⟨q0,c,t,q1,q2,q3⟩:=hb
   exact⟨q0,c,t,q1,q2,q3.1,fun j x y hx hy=>(q3.2 j x y hx hy).mono (fun b' o h=>⟨aY b' o h,.refl _ _ _⟩) (fun _ _ _=>rfl) _ (fun _ _ _ h=>⟨iO _ _ _ _ h,.refl _ _ _⟩)⟩
  |one s=>
   obtain⟨q0,c,t,q1,q2,q3⟩:=hb
   exact⟨q0,c,t,q1,q2,q3.1,fun y hy=>(q3.2 y hy).YS aY eB (fun _ _ _ _ h=>iO _ _ _ _ h) (LX s rfl)⟩
  |map l=>
   obtain⟨q0,es,clock,q1,q2,q3⟩:=hb
   exact⟨q0,es,clock,q1,q2,fun j x y hx hy=>⟨(q3 j x y hx hy).1,(q3 j x y hx hy).2.1,(q3 j x y hx hy).2.2.mono fun b' o h=>⟨aY b' o h,rfl⟩⟩⟩
 ·rcases h with h|h
  ·exact⟨(hI.cW b' o h).1,fun hm=>(hI.cW b' o h).2.1 (eL b' hm),(hI.cW b' o h).2.2⟩
  ·have hm:=RD b' o h
   have aO:=hI.dF b' hm
   refine⟨.inr aO.1,fun lQ=>?_,aO.2⟩
   obtain⟨i,hi⟩:=List.mem_iff_getElem?.1 lQ
   obtain⟨bf,fA⟩:=Hd i b' hi
   exact bf (hI.nodup i b b' fA (hS b' o h))
 ·intro n x hx
  obtain⟨q0,vs,q1,q2⟩:=hI.lg n x hx
  exact⟨q0,vs,fun i hi=>⟨(q1 i hi).1,aY _ _ (q1 i hi).2⟩,fun i c hc=>(q2 i c hc).mono fun b' o h=>⟨aY b' o h,rfl⟩⟩
theorem V3(hI:Inv gl w0 ar e a w g){b:Nat}{ts:List Nat}{r:Nat→SV}{rm:SV}(eE:oZ b ts e=true){S:Nat→Nat→Prop}(hS:∀b' o,S b' o→g.bx[b]? =some (some b'))
  (bw:∀(g':Gh),g'.St=(fun b' o=>g.St b' o∨S b' o)→(∀(n sz:Nat)(v:Value),cE w0.heap.size w g (fun _ _ _ _=>False) (Slot.a b n sz) v→aP w g'.St w0.heap.size (fun _ _ _=>False) (r n) v)∧
    (∀(v:Value),cE w0.heap.size w g (fun _ _ _ _=>False) (Slot.m b) v→aP w g'.St w0.heap.size (fun _ _ _=>False) rm v)):
  ∃g',Inv gl w0 ar (wY b r rm ts e) a w g':=by
 simp only[oZ,Bool.and_eq_true]at eE
 refine⟨_,NT hI eE.1 hS (dP:=e.boxes.set b .none) (by simp) (ov:=none) (EO:=g.ow) (fun _ _=>rfl) _ rfl (fun i bx ao bf h1 h2=>.inl ?_) (fun t x h=>by cases h) (bw _ rfl)⟩
 rw[List.getElem?_set_ne (fun h=>bf h.symm)]at h1
 exact⟨h1,fun s hs=>by subst hs;exact Jg eE.2 i s h1⟩
theorem Inv.Pp(hI:Inv gl w0 ar e a w g){t:Nat}{s:Slot}(hs:cE w0.heap.size w g (fO w0.heap.size w g t) s (a.tmps.getD t undef)):Inv gl w0 ar ⟨e.ak.set t s,e.boxes⟩ a w g:=by
 refine⟨hI.below,by simp[hI.size],fun i x hx=>?_,hI.fQ,hI.boxes,hI.nodup,hI.gU,hI.cW,hI.dF,hI.lg,hI.defers,hI.fT,hI.cls,hI.kD⟩
 simp only[List.getElem?_set]at hx
 split at hx
 ·rename_i gX
  subst gX
  split at hx
  ·cases hx;exact hs
  ·cases hx
 ·exact hI.ak i x hx
theorem acV{x y:SV}(h:oo x=some y){St:Nat→Nat→Prop}{base:Nat}{O:Nat→Nat→Nat→Prop}{v:Value}(r:aP w St base O x v):aP w St base O y v:=by
 unfold oo at h
 split at h
 ·cases h
  have:=r.data
  cases this
  exact .d _ _ _ (.jU _)
 ·cases h;exact r
 ·cases h
theorem afy(hI:Inv gl w0 ar e a w g){t:Nat}{x y:SV}(hx:e.ak.getD t (.v .undef)=.v x)(h:om x=some y):∃g',Inv gl w0 ar ⟨e.ak.set t (.v y),e.boxes⟩ a w g':=by
 have hs:=kb hI t
 rw[hx]at hs
 have hv:=hs.jV
 have oL:a.eval (.tmp t)=a.tmps.getD t undef:=rfl
 rw[oL]at hv
 unfold om at h
 split at h
 ·rename_i sz L
  cases h
  generalize mN:a.tmps.getD t undef=v at hv
  cases hv with
  |aZ _ _ _ gg cap vs bM hm aM hf ho aR hc=>
   obtain⟨o1,o2,o3,⟨cur,te,o4,lP⟩,o5⟩:=ho
   let g':Gh:={g with St:=fun b o=>g.St b o∨(b=gg∧o<L.length*sz)}
   have hX:Ext w0.heap.size w g w g' (fun p=>∃j,p=.s t j):=by
    refine⟨fun D ob hb eT h=>⟨h,hb,eT,fun x hx=>hx.elim id fun e=>(by rw[e.1]at eT;rw[o1]at eT;cases eT)⟩,fun _ _ h=>⟨.inl h,.refl _ _ _⟩,fun _ _ _=>rfl,fun _ _ h=>h,fun p b a' c hp bQ=>⟨?_,.refl _ _ _⟩,.refl _⟩
    obtain⟨p1,p2,p3,p4,p5⟩:=bQ
    refine⟨p1,p2,p3,p4,fun o ho=>?_⟩
    rintro(h|⟨rfl,_⟩)
    ·exact p5 o ho h
    ·rw[o1]at p1;cases p1;exact hp ⟨0,rfl⟩
   refine⟨g',hI.stepG (dst:=none) (s:=.t []) (v:=undef) (ak:=e.ak.set t (.v (.own sz L))) hX (Below.refl _ _) (by simp) (fun i x hx _=>?_) (fun d hd=>by cases hd) hI.fQ (fun b bx ao h1 h2=>hX.box (fun j=>by rintro⟨j',h⟩;cases h) rfl (hI.boxes b bx ao h1 h2)) hI.nodup hI.dF (fun b o h=>?_)⟩
   ·rw[List.getElem?_set]at hx
    split at hx
    ·rename_i gX
     subst gX
     split at hx
     ·cases hx
      rw[mN]
      refine .v _ _ _ (.own _ sz L gg cap (.sl sz L gg 0 cap vs bM (Nat.le_trans bM hm) aM hf (fun o ho=>⟨by rw[Nat.zero_add];exact aR o ho,.inr ⟨rfl,by omega⟩⟩) (fun i x j c h1 h2=>(hc i x j c h1 h2).mono fun b o h=>⟨.inl h,rfl⟩)) hm ⟨o1,o2,o3,⟨cur,te,o4,lP⟩,fun o ho=>?_⟩)
      rintro(h|⟨_,h⟩)
      ·exact o5 o (by omega) h
      ·omega
     ·cases hx
    ·rename_i gX
     exact hX.slot (fun j=>by rintro⟨j',h⟩;cases h;exact gX rfl) (hI.ak i x hx)
   ·rcases h with h|⟨rfl,_⟩
    ·exact hI.cW b o h
    ·exact⟨.inr o2,o3,(Array.getElem?_eq_some_iff.1 o4).1⟩
 ·cases h
  refine⟨g,hI.Pp (.v _ _ _ ?_)⟩
  have:=hv.data
  generalize a.tmps.getD t undef=v at this ⊢
  cases this
  exact .d _ _ _ (.jU _)
 ·cases h
  exact⟨g,hI.Pp (.v _ _ _ (.d _ _ _ hv.data))⟩
 ·cases h
theorem T8{agg:Bool}{sz:Nat}(He:agg=false→sz=1):∀{n:Nat}{l:List D}{L:List D},eR agg sz n l=some L→(∀d∈l,d.one=true)→L.length=n∧l.length=n*sz∧(∀x∈L,x.cells.length=sz∧∀c∈x.cells,c.one=true)∧
  ∀(i:Nat)x(j:Nat)c,L[i]? =some x→x.cells[j]? =some c→l[i*sz+j]? =some c
 |0,[],L,h,_=>by simp only[eR,Option.some.injEq]at h;subst h;simp
 |0,_::_,L,h,_=>by simp[eR]at h
 |n+1,l,L,h,bY=>by
  simp only[eR]at h
  split at h
  ·rename_i hle
   split at h
   ·rename_i r hr
    cases h
    obtain⟨h1,h2,h3,h4⟩:=T8 He hr (fun d hd=>bY d (List.mem_of_mem_drop hd))
    have hce:(bE agg (l.take sz)).cells =l.take sz:=TK (fun d hd=>bY d (List.mem_of_mem_take hd)) (fun h=>by rw[List.length_take,He h];have:=He h;omega)
    simp only[List.length_drop]at h2
    refine⟨by simp[h1],by rw[Nat.succ_mul];omega,fun x hx=>?_,fun i x j c hx hc=>?_⟩
    ·rcases List.mem_cons.1 hx with rfl|hx
     ·rw[hce]
      exact⟨by rw[List.length_take];omega,fun c hc=>bY c (List.mem_of_mem_take hc)⟩
     ·exact h3 x hx
    ·cases i with
     |zero=>
      simp at hx;subst hx
      rw[hce]at hc
      rw[List.getElem?_take]at hc
      split at hc
      ·simpa using hc
      ·cases hc
     |succ i=>
      have:=h4 i x j c (by simpa using hx) hc
      rw[List.getElem?_drop]at this
      rw[Nat.succ_mul,show i*sz+sz+j=sz+(i*sz+j) by omega]
      exact this
   ·cases h
  ·cases h
theorem Ol:∀{cs:List SV}{ds:List D},dK cs=some ds→ds.length=cs.length∧∀(i:Nat)d,ds[i]? =some d→∃x,cs[i]? =some x∧dA x=some d
 |[],ds,h=>by cases h;exact⟨rfl,fun i d h=>by simp at h⟩
 |x::cs,ds,h=>by
  simp only[dK]at h
  split at h
  ·rename_i y hy
   split at h
   ·rename_i r hr
    cases h
    obtain⟨h1,h2⟩:=Ol hr
    refine⟨by simp[h1],fun i d hd=>?_⟩
    cases i with
    |zero=>simp at hd;subst hd;exact⟨x,rfl,hy⟩
    |succ i=>exact h2 i d (by simpa using hd)
   ·cases h
  ·cases h
theorem bh.X3{St:Nat→Nat→Prop}{d:D}{v:Value}(r:bh w St d v)(h:v.oneCell'=true):d.one=true:=by
 cases r<;>first|rfl|simp[Value.oneCell']at h
def tS(ws:List Nat)(e e':Env):Prop:=e'.ak.length=e.ak.length∧e.boxes.length≤e'.boxes.length∧(∀t,t∉ws→e'.ak.getD t (.v .undef)=e.ak.getD t (.v .undef))∧qP e.boxes.length e e'
theorem V4{b:Nat}{r:Nat→SV}{rm:SV}{ts:List Nat}:tS ts e (wY b r rm ts e):=by
 refine⟨by simp[wY,De],by simp[wY],fun t ht=>?_,fun i hi=>?_⟩
 ·simp only[wY,List.getD_eq_getElem?_getD,Jq,Nat.zero_add]
  have:ts.contains t=false:=by simpa using ht
  rw[this]
  cases e.ak[t]? <;>rfl
 ·simp only[wY,List.getD_eq_getElem?_getD,List.getElem?_set]
  by_cases hb:b=i
  ·subst hb
   simp[hi]
  ·simp only[hb,if_false]
   by_cases h:(e.boxes[i]?).getD .none =.none
   ·exact .inl h
   ·exact .inr ⟨h,trivial⟩
theorem Kp{y:SV}{t:Nat}:tS [t] e ⟨e.ak.set t (.v y),e.boxes⟩:=⟨by simp,Nat.le_refl _,fun u hu=>by
 simp only[List.mem_singleton]at hu
 simp only
 rw[dk (fun h=>hu h.symm)],.refl _ _⟩
theorem J0{b:Nat}{ts:List Nat}{r:Nat→SV}{rm:SV}{dP:List af}(hl:dP.length=e.boxes.length)(hk:∀i,dP.getD i .none =.none ∨(e.boxes.getD i .none ≠.none ∧(dP.getD i .none).isMap =(e.boxes.getD i .none).isMap)){ov:Option (Nat×SV)}(RC:∀t x,ov=some (t,x)→t∈ts):
  tS ts e ⟨CF (od b r rm ts e.ak 0) ov,dP⟩:=by
 have HO:∀t,t∉ts→(od b r rm ts e.ak 0).getD t (.v .undef)=e.ak.getD t (.v .undef):=fun t ht=>by
  simp only[List.getD_eq_getElem?_getD,Jq,Nat.zero_add]
  have:ts.contains t=false:=by simpa using ht
  rw[this]
  cases e.ak[t]? <;>rfl
 refine⟨?_,by simp[hl],fun t ht=>?_,fun i _=>hk i⟩
 ·cases ov with
  |none=>exact De _ _ _ _ _ _
  |some p=>simp[CF,De]
 ·cases ov with
  |none=>exact HO t ht
  |some p=>
   obtain⟨t',x⟩:=p
   have:=RC t' x rfl
   simp only[CF]
   rw[dk (fun h=>ht (by first|(rw[←h];exact this)|(rw[h];exact this)))]
   exact HO t ht
theorem Om{b:Nat}{l:List af}:∀i,(l.set b .none).getD i .none =.none ∨(l.getD i .none ≠.none ∧((l.set b .none).getD i .none).isMap =(l.getD i .none).isMap):=fun i=>by
 simp only[List.getD_eq_getElem?_getD,List.getElem?_set]
 by_cases hb:b=i
 ·subst hb
  by_cases hi:b<l.length
  ·simp[hi]
  ·simp[hi]
 ·simp only[hb,if_false]
  by_cases h:(l[i]?).getD .none =.none
  ·exact .inl h
  ·exact .inr ⟨h,trivial⟩
theorem V5{b c:Nat}{x:Slot}{l:List (MK×D)}{bs:List af}(hc:bs[c]? =some (.one x)):∀i,((bs.set b .none).set c (.cells [.mp l])).getD i .none =.none ∨(bs.getD i .none ≠.none ∧(((bs.set b .none).set c (.cells [.mp l])).getD i .none).isMap =(bs.getD i .none).isMap):=fun i=>by
 by_cases hi:c=i
 ·subst hi
  right
  have hl:=(List.getElem?_eq_some_iff.1 hc).1
  simp only[List.getD_eq_getElem?_getD,hc,Option.getD_some]
  rw[List.getElem?_set_self (by simpa using hl)]
  exact⟨by simp,rfl⟩
 ·have:=Om (b:=b) (l:=bs) i
  simp only[List.getD_eq_getElem?_getD]at this ⊢
  rw[List.getElem?_set_ne hi]
  exact this
theorem afz{n:Nat}(h:Nat.blt 0 n=true):0<n:=Nat.lt_of_succ_le (Nat.le_of_ble_eq_true h)
theorem afA(hI:Inv gl w0 ar e a w g){t:Nat}{agg:Bool}{sz:Nat}{ts:List Nat}{b n:Nat}(hs:e.ak.getD t (.v .undef)=.a b n sz){cs:List SV}(ck:e.boxes[b]? =some (.cells cs))(eE:oZ b (t::ts) e=true)
  (aM:0<sz)(He:agg=false→sz=1){ds:List D}(mR:dK cs=some ds){L:List D}(hL:eR agg sz n ds=some L):
  ∃g',Inv gl w0 ar ⟨(od b (fun _=>.undef) .undef (t::ts) e.ak 0).set t (.v (.aZ sz L)),e.boxes.set b .none⟩ a w g':=by
 have nv:=kb hI t
 rw[hs]at nv
 have oL:a.eval (.tmp t)=a.tmps.getD t undef:=rfl
 rw[oL]at nv
 obtain⟨ct,iR⟩:=nv.B1
 obtain⟨ao,cap,hb,bM,mN,gB,c0,ty0,rE,akE⟩:=iR
 obtain⟨q0,c,ty,q1,q2,q3,q4⟩:=hI.boxes b _ ao ck hb
 have ei:c=c0∧ty=ty0:=by rw[q1]at rE;cases rE;exact⟨rfl,rfl⟩
 obtain⟨rfl,rfl⟩:=ei
 obtain⟨d1,d2⟩:=Ol mR
 have bY:∀d∈ds,d.one=true:=by
  intro d hd
  obtain⟨j,hj⟩:=List.mem_iff_getElem?.1 hd
  obtain⟨x,hx,CG⟩:=d2 j d hj
  have kH:=(List.getElem?_eq_some_iff.1 hx).1
  have hjc:j<c.size:=Nat.lt_of_lt_of_le kH q3
  exact((q4 j x c[j] hx (by simp)).dA CG).X3 (q2 j c[j] kH (by simp))
 obtain⟨l1,l2,l3,l4⟩:=T8 He hL bY
 simp only[oZ,Bool.and_eq_true]at eE
 have pf:some ao∈g.bx:=List.mem_of_getElem? hb
 refine⟨_,NT hI (r:=fun _=>.undef) (rm:=.undef) eE.1 (S:=fun _ _=>False) (fun _ _ h=>h.elim) (dP:=e.boxes.set b .none) (by simp) (ov:=some (t,.aZ sz L)) (EO:=fun b'=>if b'=ao then some (.s t 0)else g.ow b') (fun b' eC=>if_neg (fun h=>eC (by rw[h];exact pf))) _ rfl (fun i bx qY bf h1 h2=>.inl ?_) (fun t' x h=>?_) ⟨fun _ _ _ _=>.undef _ _,fun _ _=>.undef _ _⟩⟩
 ·rw[List.getElem?_set_ne (fun h=>bf h.symm)]at h1
  exact⟨h1,fun s hs=>by subst hs;exact Jg eE.2 i s h1⟩
 ·cases h
  rw[mN,←l1]
  refine .aZ _ sz L ao cap (fun o=>c.getD o undef) (by omega) gB (fun x hx=>(l3 x hx).1) (fun x hx=>(l3 x hx).2) ⟨by simp,q0,fun hm=>?_,⟨c,ty,q1,akE⟩,fun o _ h=>?_⟩ (fun o ho=>?_) (fun i x j d hx hc=>?_)
  ·obtain⟨i,hi⟩:=List.mem_iff_getElem?.1 hm
   simp only[List.getElem?_set]at hi
   split at hi
   ·split at hi<;>simp at hi
   ·rename_i kJ
    exact kJ (hI.nodup b i ao hb hi)
  ·rcases h with h|h
   ·exact(hI.cW ao o h).2.1 pf
   ·exact h
  ·rw[cell_of_row w ao o c ty (0,0) q1]
   have:o<c.size:=by rw[l1]at ho;omega
   simp[this]
  ·obtain⟨y,hy,HP⟩:=d2 _ d (l4 i x j d hx hc)
   have pZ:=(List.getElem?_eq_some_iff.1 hy).1
   have xH:i*sz+j<c.size:=Nat.lt_of_lt_of_le pZ q3
   have hr:=(q4 _ y c[i*sz+j] hy (by simp)).dA HP
   have hg:(c.getD (i*sz+j) undef)=c[i*sz+j]:=by simp[xH]
   show bh w _ d (c.getD (i*sz+j) undef)
   rw[hg]
   exact hr.mono fun b' o h=>⟨.inl h,rfl⟩
theorem afB(hI:Inv gl w0 ar e a w g){ts:List Nat}{c b:Nat}(hc:e.boxes[c]? =some (.one (.m b))){l:List (MK×D)}(hl:e.boxes[b]? =some (.map l))(bf:b≠c)(gk:wX b ts e.ak 0=true)
  (lR:tH b (e.boxes.set c .none)=true):∃g',Inv gl w0 ar ⟨od b (fun _=>.undef) .undef ts e.ak 0,(e.boxes.set b .none).set c (.cells [.mp l])⟩ a w g':=by
 refine⟨_,NT hI (r:=fun _=>.undef) (rm:=.undef) gk (S:=fun b' o=>g.bx[b]? =some (some b')∧o=0) (fun b' o h=>h.1) (dP:=(e.boxes.set b .none).set c (.cells [.mp l])) (by simp) (ov:=none) (EO:=g.ow) (fun _ _=>rfl) _ rfl
  (fun i bx qY hni h1 h2=>?_) (fun t x h=>by cases h) ⟨fun _ _ _ _=>.undef _ _,fun _ _=>.undef _ _⟩⟩
 by_cases EP:c=i
 ·right
  subst EP
  obtain⟨q0,cc,ty,q1,q2,q3,q4⟩:=hI.boxes c _ qY hc h2
  rw[List.getElem?_set_self (by simp;exact(List.getElem?_eq_some_iff.1 hc).1)]at h1
  cases h1
  have vp:cc[0]? =some cc[0]:=by simp
  have hr:=q4 _ vp
  generalize hcy:cc[0]=y at hr vp
  cases hr with
  |m _ _ ao hb=>
   obtain⟨_,es,clock,p1,p2,p3⟩:=hI.boxes b _ ao hl hb
   refine⟨q0,cc,ty,q1,fun j y hj=>q2 j y hj,q3,fun j x y hx hy=>?_⟩
   cases j with
   |succ j=>simp at hx
   |zero=>
    simp at hx;subst hx
    rw[vp]at hy;cases hy
    exact .mp _ l ao es clock p1 (.inr ⟨hb,rfl⟩) p2 fun i x y hx hy=>⟨(p3 i x y hx hy).1,(p3 i x y hx hy).2.1,(p3 i x y hx hy).2.2.mono fun b' o h=>⟨.inl h,rfl⟩⟩
 ·left
  rw[List.getElem?_set_ne EP,List.getElem?_set_ne (fun h=>hni h.symm)]at h1
  exact⟨h1,fun s hs=>by
   subst hs
   exact Jg lR i s (by rw[List.getElem?_set_ne EP];exact h1)⟩
theorem afC(hI:Inv gl w0 ar e a w g){x:iQ}{k:Env→Prop}(h:gu e k x):∃e' g',Inv gl w0 ar e' a w g'∧k e'∧tS (gA [x]) e e':=by
 cases x with
 |box t EG=>
  simp only[gu]at h
  split at h
  ·rename_i x hx
   unfold gI at h
   split at h
   rotate_left
   ·exact⟨e,g,hI,h,rfl,Nat.le_refl _,fun _ _=>rfl,.refl _ _⟩
   ·exact h.elim
   rename_i sz0 L0
   obtain⟨akF,h⟩:=h
   subst akF
   obtain⟨sz,L,g',he,bt⟩:=afx hI hx ⟨_,_,rfl⟩
   cases he
   refine⟨_,g',bt,h,by simp,by simp,fun u hu=>?_,fun i hi=>?_⟩
   ·simp only[gA,List.mem_singleton]at hu
    simp only
    rw[dk (fun h=>hu h.symm)]
   ·simp only[List.getD_eq_getElem?_getD]
    rw[List.getElem?_append_left hi]
    by_cases h:(e.boxes[i]?).getD .none =.none
    ·exact .inl h
    ·exact .inr ⟨h,rfl⟩
  ·exact h.elim
 |mq t ts=>
  have fr:∀{b r rm},tS (gA [.mq t ts]) e (wY b r rm ts e):=by
   intro b r rm
   have:gA [.mq t ts]=ts:=by simp[gA]
   rw[this];exact V4
  simp only[gu]at h
  split at h
  ·rename_i b n sz0 hs
   split at h
   ·rename_i cs ck
    cases eE:oZ b ts e with
    |false=>rw[eE]at h;exact h.elim
    |true=>
     rw[eE,cond_true]at h
     obtain⟨ds,mR,hlen,hk⟩:=aN h
     obtain⟨d1,d2⟩:=Ol mR
     refine Exists.elim (V3 hI (b:=b) (ts:=ts) (r:=fun m=>lE m n (.d (.sl .ro 1 ds))) (rm:=.undef) eE (S:=fun b' o=>g.bx[b]? =some (some b')∧o<n) (fun b' o h=>h.1) (fun g' gC=>⟨fun m EG v hv=>?_,fun v hv=>.undef _ _⟩)) fun g' bt=>⟨_,g',bt,hk,fr⟩
     ·unfold lE
      split
      ·rename_i hmn
       subst hmn
       obtain⟨ct,iR⟩:=hv.B1
       have xI:ds.length=m:=d1.trans hlen
       obtain⟨ao,cap,hb,bM,rfl,_⟩:=iR
       obtain⟨q0,c,ty,q1,q2,q3,q4⟩:=hI.boxes b _ ao ck hb
       have bY:∀d∈ds,d.one=true:=by
        intro d hd
        obtain⟨j,hj⟩:=List.mem_iff_getElem?.1 hd
        obtain⟨x,hx,CG⟩:=d2 j d hj
        have kH:=(List.getElem?_eq_some_iff.1 hx).1
        have hjc:j<c.size:=Nat.lt_of_lt_of_le kH q3
        exact((q4 j x c[j] hx (by simp)).dA CG).X3 (q2 j c[j] kH (by simp))
       have dv:∀d∈ds,d.cells=[d]:=fun d hd=>D.uP (bY d hd)
       have:=bh.sl (w:=w) (St:=g'.St) 1 ds ao 0 cap (fun o=>c.getD o undef) (by omega) (by omega) (fun d hd=>by rw[dv d hd];rfl)
        (fun d hd x hx=>by rw[dv d hd]at hx;rw[List.mem_singleton.1 hx];exact bY d hd) (fun o ho=>⟨by
          rw[cell_of_row w ao (0+o) c ty (0,0) q1]
          have:o<c.size:=by omega
          simp[this],by rw[gC];exact .inr ⟨hb,by omega⟩⟩) (fun i d j x hd hx=>by
          rw[dv d (List.mem_of_getElem? hd)]at hx
          have hj:j=0:=by
           cases j with
           |zero=>rfl
           |succ j=>simp at hx
          subst hj
          simp at hx;subst hx
          obtain⟨y,hy,HP⟩:=d2 i d hd
          have pZ:=(List.getElem?_eq_some_iff.1 hy).1
          have xH:i<c.size:=Nat.lt_of_lt_of_le pZ q3
          have hr:=(q4 i y c[i] hy (by simp)).dA HP
          simp only[Nat.mul_one,Nat.add_zero]
          simp[xH]
          exact hr.mono fun b' o h=>⟨by rw[gC];exact .inl h,rfl⟩)
       rw[xI]at this
       exact .d _ _ _ this
      ·exact .undef _ _
   ·exact h.elim
  ·rename_i b hs
   split at h
   ·rename_i l hl
    cases eE:oZ b ts e with
    |false=>rw[eE]at h;exact h.elim
    |true=>
     rw[eE,cond_true]at h
     refine Exists.elim (V3 hI (b:=b) (ts:=ts) (r:=fun _=>.undef) (rm:=.mp l) eE (S:=fun b' o=>g.bx[b]? =some (some b')∧o=0) (fun b' o h=>h.1) (fun g' gC=>⟨fun m EG v hv=>.undef _ _,fun v hv=>?_⟩)) fun g' bt=>⟨_,g',bt,h,fr⟩
     ·cases hv with
      |m _ _ ao hb=>
       obtain⟨q0,es,clock,q1,q2,q3⟩:=hI.boxes b _ ao hl hb
       exact .mp _ l ao es clock q1 (by rw[gC];exact .inr ⟨hb,rfl⟩) q2 fun i x y hx hy=>⟨(q3 i x y hx hy).1,(q3 i x y hx hy).2.1,(q3 i x y hx hy).2.2.mono fun b' o h=>⟨by rw[gC];exact .inl h,rfl⟩⟩
   ·exact h.elim
  ·exact⟨e,g,hI,h,rfl,Nat.le_refl _,fun _ _=>rfl,.refl _ _⟩
  ·exact h.elim
 |jm t agg sz ts=>
  simp only[gu]at h
  split at h
  ·rename_i b n s0 hs
   split at h
   ·rename_i cs ck
    cases eE:(oZ b (t::ts) e&&Nat.beq s0 sz&&Nat.blt 0 sz&&(agg||Nat.beq sz 1))with
    |false=>rw[eE]at h;exact h.elim
    |true=>
     rw[eE,cond_true]at h
     simp only[Bool.and_eq_true]at eE
     obtain⟨⟨⟨h1,h2⟩,h3⟩,h4⟩:=eE
     have h2:=Nat.eq_of_beq_eq_true h2
     subst h2
     obtain⟨ds,mR,h⟩:=aN h
     obtain⟨L,hL,hk⟩:=aN h
     obtain⟨g',bt⟩:=afA hI hs ck h1 (afz h3) (agg:=agg) (fun ha=>by subst ha;exact Nat.eq_of_beq_eq_true (by simpa using h4)) mR hL
     refine⟨_,g',bt,hk,?_⟩
     have RF:gA [.jm t agg s0 ts]=t::ts:=by simp[gA]
     rw[RF]
     exact J0 (ov:=some (t,.aZ s0 L)) List.length_set Om (fun t' x h=>by cases h;simp)
   ·exact h.elim
  ·exact⟨e,g,hI,h,rfl,Nat.le_refl _,fun _ _=>rfl,.refl _ _⟩
  ·exact h.elim
 |emp t=>
  simp only[gu]at h
  split at h
  ·rename_i x hx
   obtain⟨y,hy,hk⟩:=aN h
   have hs:=kb hI t
   rw[hx]at hs
   exact⟨_,g,hI.Pp (.v _ _ _ (acV hy hs.jV)),hk,Kp⟩
  ·exact h.elim
 |jG t=>
  simp only[gu]at h
  split at h
  ·rename_i x hx
   obtain⟨y,hy,hk⟩:=aN h
   obtain⟨g',bt⟩:=afy hI hx hy
   exact⟨_,g',bt,hk,Kp⟩
  ·exact h.elim
 |sO t ts=>
  simp only[gu]at h
  split at h
  ·rename_i c hs
   split at h
   ·rename_i b hb
    split at h
    ·rename_i l hl
     cases eE:(!(Nat.beq b c)&&wX b ts e.ak 0&&tH b (e.boxes.set c .none))with
     |false=>rw[eE]at h;exact h.elim
     |true=>
      rw[eE,cond_true]at h
      simp only[Bool.and_eq_true,Bool.not_eq_true']at eE
      obtain⟨⟨h1,h2⟩,h3⟩:=eE
      have bf:b≠c:=fun e=>by subst e;simp at h1
      obtain⟨g',bt⟩:=afB hI hb hl bf h2 h3
      refine⟨_,g',bt,h,?_⟩
      have:gA [.sO t ts]=ts:=by simp[gA]
      rw[this]
      exact J0 (ov:=none) (by simp) (V5 hb) (fun t' x h=>by cases h)
    ·exact h.elim
   ·exact h.elim
  ·exact h.elim
theorem V6{k k':Env→Prop}(hk:∀e,k e→k' e){e:Env}{x:iQ}(h:gu e k x):gu e k' x:=by
 cases x with
 |box t EG=>
  simp only[gu]at h ⊢
  split at h
  ·unfold gI at h ⊢
   split at h
   ·exact⟨h.1,hk _ h.2⟩
   ·exact hk _ h
   ·exact h.elim
  ·exact h.elim
 |mq t ts=>
  simp only[gu]at h ⊢
  split at h
  ·split at h
   ·rename_i cs ck
    cases eE:oZ _ ts e with
    |false=>rw[eE]at h;exact h.elim
    |true=>
     rw[eE,cond_true]at h
     obtain⟨ds,mR,hl,h⟩:=aN h
     simp only[mR,ab]
     exact⟨hl,hk _ h⟩
   ·exact h.elim
  ·split at h
   ·rename_i l hl
    cases eE:oZ _ ts e with
    |false=>rw[eE]at h;exact h.elim
    |true=>
     rw[eE,cond_true]at h
     exact hk _ h
   ·exact h.elim
  ·exact hk _ h
  ·exact h.elim
 |jm t agg sz ts=>
  simp only[gu]at h ⊢
  split at h
  ·split at h
   ·rename_i cs ck
    cases eE:(oZ _ (t::ts) e&&Nat.beq _ sz&&Nat.blt 0 sz&&(agg||Nat.beq sz 1))with
    |false=>rw[eE]at h;exact h.elim
    |true=>
     rw[eE,cond_true]at h
     obtain⟨ds,mR,h⟩:=aN h
     obtain⟨L,hL,h⟩:=aN h
     simp only[cond_true,mR,ab,hL]
     exact hk _ h
   ·exact h.elim
  ·exact hk _ h
  ·exact h.elim
 |emp t=>
  simp only[gu]at h ⊢
  split at h
  ·obtain⟨y,hy,h⟩:=aN h
   simp only[hy,ab]
   exact hk _ h
  ·exact h.elim
 |jG t=>
  simp only[gu]at h ⊢
  split at h
  ·obtain⟨y,hy,h⟩:=aN h
   simp only[hy,ab]
   exact hk _ h
  ·exact h.elim
 |sO t ts=>
  simp only[gu]at h ⊢
  split at h
  ·split at h
   ·rename_i b hb
    split at h
    ·rename_i l hl
     cases eE:(!(Nat.beq b _)&&wX b ts e.ak 0&&tH b (e.boxes.set _ .none))with
     |false=>rw[eE]at h;exact h.elim
     |true=>
      rw[eE,cond_true]at h
      simp only[cond_true]
      exact hk _ h
    ·exact h.elim
   ·exact h.elim
  ·exact h.elim
theorem acW{k:Env→Prop}{e:Env}{x:iQ}(h:gu e k x):gu e (fun e'=>k e'∧tS (gA [x]) e e') x:=by
 cases x with
 |box t EG=>
  simp only[gu]at h ⊢
  split at h
  ·unfold gI at h ⊢
   split at h
   ·refine⟨h.1,h.2,by simp,by simp,fun u hu=>?_,fun i hi=>?_⟩
    ·simp only[gA,List.mem_singleton]at hu
     simp only
     rw[dk (fun h=>hu h.symm)]
    ·simp only[List.getD_eq_getElem?_getD]
     rw[List.getElem?_append_left hi]
     by_cases h:(e.boxes[i]?).getD .none =.none
     ·exact .inl h
     ·exact .inr ⟨h,rfl⟩
   ·exact⟨h,rfl,Nat.le_refl _,fun _ _=>rfl,.refl _ _⟩
   ·exact h.elim
  ·exact h.elim
 |mq t ts=>
  have fr:∀{b r rm},tS (gA [.mq t ts]) e (wY b r rm ts e):=by
   intro b r rm
   have:gA [.mq t ts]=ts:=by simp[gA]
   rw[this];exact V4
  simp only[gu]at h ⊢
  split at h
  ·split at h
   ·rename_i cs ck
    cases eE:oZ _ ts e with
    |false=>rw[eE]at h;exact h.elim
    |true=>
     rw[eE,cond_true]at h
     obtain⟨ds,mR,hl,h⟩:=aN h
     simp only[mR,ab]
     exact⟨hl,h,fr⟩
   ·exact h.elim
  ·split at h
   ·rename_i l hl
    cases eE:oZ _ ts e with
    |false=>rw[eE]at h;exact h.elim
    |true=>
     rw[eE,cond_true]at h
     exact⟨h,fr⟩
   ·exact h.elim
  ·exact⟨h,rfl,Nat.le_refl _,fun _ _=>rfl,.refl _ _⟩
  ·exact h.elim
 |jm t agg sz ts=>
  simp only[gu]at h ⊢
  split at h
  ·split at h
   ·rename_i cs ck
    cases eE:(oZ _ (t::ts) e&&Nat.beq _ sz&&Nat.blt 0 sz&&(agg||Nat.beq sz 1))with
    |false=>rw[eE]at h;exact h.elim
    |true=>
     rw[eE,cond_true]at h
     obtain⟨ds,mR,h⟩:=aN h
     obtain⟨L,hL,h⟩:=aN h
     simp only[cond_true,mR,ab,hL]
     refine⟨h,?_⟩
     have RF:gA [.jm t agg sz ts]=t::ts:=by simp[gA]
     rw[RF]
     exact J0 (ov:=some (t,.aZ sz L)) List.length_set Om (fun t' x h=>by cases h;simp)
   ·exact h.elim
  ·exact⟨h,rfl,Nat.le_refl _,fun _ _=>rfl,.refl _ _⟩
  ·exact h.elim
 |emp t=>
  simp only[gu]at h ⊢
  split at h
  ·obtain⟨y,hy,h⟩:=aN h
   simp only[hy,ab]
   exact⟨h,Kp⟩
  ·exact h.elim
 |jG t=>
  simp only[gu]at h ⊢
  split at h
  ·obtain⟨y,hy,h⟩:=aN h
   simp only[hy,ab]
   exact⟨h,Kp⟩
  ·exact h.elim
 |sO t ts=>
  simp only[gu]at h ⊢
  split at h
  ·split at h
   ·rename_i b hb
    split at h
    ·rename_i l hl
     cases eE:(!(Nat.beq b _)&&wX b ts e.ak 0&&tH b (e.boxes.set _ .none))with
     |false=>rw[eE]at h;exact h.elim
     |true=>
      rw[eE,cond_true]at h
      simp only[cond_true]
      exact⟨h,by
       have:gA [.sO t ts]=ts:=by simp[gA]
       rw[this]
       exact J0 (ov:=none) (by simp) (V5 hb) (fun t' x h=>by cases h)⟩
    ·exact h.elim
   ·exact h.elim
  ·exact h.elim
theorem acX(x:iQ)(l:List iQ):gA (x::l)=gA [x]++gA l:=by cases x<;>simp[gA]
theorem tS.trans{ws vs:List Nat}{e e1 e2:Env}(h1:tS ws e e1)(h2:tS vs e1 e2):tS (ws++vs) e e2:=
 ⟨h2.1.trans h1.1,Nat.le_trans h1.2.1 h2.2.1,fun t ht=>(h2.2.2.1 t fun h=>ht (List.mem_append_right _ h)).trans (h1.2.2.1 t fun h=>ht (List.mem_append_left _ h)),h1.2.2.2.trans h1.2.1 h2.2.2.2⟩
theorem z6{k k':Env→Prop}(hk:∀e,k e→k' e):∀{l:List iQ}{e:Env},hY l e k→hY l e k'
 |[],_,h=>hk _ h
 |x::l,e,h=>V6 (fun e'=>z6 hk (l:=l)) (show gu e (fun e'=>hY l e' k) x from h)
theorem NB{k:Env→Prop}:∀{l:List iQ}{e:Env},hY l e k→hY l e fun e'=>k e'∧tS (gA l) e e'
 |[],e,h=>⟨h,rfl,Nat.le_refl _,fun _ _=>rfl,.refl _ _⟩
 |x::l,e,h=>V6 (fun _⟨h1,h2⟩=>z6 (fun e2⟨h3,h4⟩=>⟨h3,by rw[acX];exact h2.trans h4⟩) (NB (l:=l) h1)) (acW (show gu e (fun e'=>hY l e' k) x from h))
theorem Dx:∀{l:List iQ}{e:Env}{g:Gh}{k:Env→Prop},Inv gl w0 ar e a w g→hY l e k→∃e' g',Inv gl w0 ar e' a w g'∧k e'
 |[],e,g,k,hI,h=>⟨e,g,hI,h⟩
 |x::l,e,g,k,hI,h=>by
  obtain⟨e',g',bt,h',_⟩:=afC hI (show gu e (fun e'=>hY l e' k) x from h)
  exact Dx bt h'
end
end Go.Proofs.Ytimbllcalipehaa.Ab
set_option linter.unusedVariables false
set_option linter.unusedSimpArgs false
namespace Go.Proofs.Ytimbllcalipehaa.Ab
open Go Go.RowKit
section
variable{P:Program}{gl:Nat→Option D}{w0:World}{ar:S0}{e:Env}{a:Act}{w:World}{g:Gh}
theorem Jh{x:D}(h:x.pL=true):x.cells=[x]:=by cases x<;>first|rfl|cases h
theorem ad7{x:D}(h:x.pL=true):x.one=true:=by cases x<;>first|rfl|cases h
theorem Inv.push(hI:Inv gl w0 ar e a w g){t u:Nat}(bf:t≠u){LL:List (List D)}{L:List D}(Bc:∀x∈L,x.pL=true){v2:Value}{q cap:Nat}{cur:Array Value}{te:TypeId}{w2:World}(bk cp:Nat→Nat)
  (oq:∀(i:Nat)M,LL[i]? =some M→fa w0.heap.size w g (.s t 0) (bk i) 0 (cp i)∧M.length≤cp i∧cp i≤maxLen∧bk i≠q∧(∀x∈M,x.pL=true)∧∀(j:Nat)x,M[j]? =some x→∃v,w.cell? ⟨bk i,j,none⟩=some v∧bh w g.St x v)
  (tN:∀(i j:Nat)M N,LL[i]? =some M→LL[j]? =some N→bk i=bk j→i=j)
  (hL:aP w g.St w0.heap.size (fO w0.heap.size w g u 0) (.aZ 1 L) v2)
  (mj:w2.heap[q]? =some (.cells cur te (0,0)))(ck:cur.size=cap)(hn:LL.length<cap)(hm:cap≤maxLen)
  (aR:∀(i:Nat)M,LL[i]? =some M→cur[i]? =some (.slice (some ⟨bk i,0,none⟩) M.length (cp i)))(Au:cur[LL.length]? =some v2)
  (hq:q<w.heap.size→g.ow q=some (.s t 0))(HQ:w0.heap.size≤q)(RG:some q∉g.bx)(hqs:∀o,¬g.St q o)
  (Av:∀k,k<w.heap.size→k≠q→w2.heap[k]? =w.heap[k]?)(eh:Below w0.heap.size w w2):
  ∃g2,Inv gl w0 ar ⟨(e.ak.set u (.v .undef)).set t (.v (.nest (LL++[L]))),e.boxes⟩ (a.put (some t) (.slice (some ⟨q,0,none⟩) (LL.length+1) cap)) w2 g2:=by
 cases hL with
 |aZ _ _ _ gg c vs h1 h2 h3 h4 ho h6 h7=>
  obtain⟨o1,o2,o3,⟨cu,ty,o4,lP⟩,o5⟩:=ho
  have oH:gg<w.heap.size:=fL o4
  have RH:gg≠q:=fun he=>by
   subst he
   rw[hq oH]at o1;cases o1;exact bf rfl
  let g2:Gh:={St:=g.St,bx:=g.bx,ow:=fun b=>if b=q∨g.ow b=some (.s u 0)then some (.s t 0)else g.ow b}
  have hX:Ext w0.heap.size w g w2 g2 (fun p=>p=.s u 0∨p=.s t 0):=by
   refine⟨fun D o hb hn h=>?_,fun b o h=>⟨h,.qF (Av b (hI.lH h) (fun he=>hqs o (he▸h)))⟩,fun b o hb=>World.cell?_of_block (Av b (Nat.lt_of_lt_of_le hb hI.below.size) (by omega)),fun _ _ h=>h,fun p b a' c' hp bQ=>?_,fun b c ty hm hb=>⟨c,ty,(Av b (fL hb) (fun he=>RG (he▸hm))).trans hb,rfl⟩⟩
   ·have hDq:D≠q:=fun he=>by subst he;rw[hq (fL h)]at hn;cases hn
    refine⟨(Av D (fL h) hDq).trans h,hb,?_,fun _ h=>h⟩
    show(if D=q∨g.ow D=some (.s u 0)then some (Pos.s t 0)else g.ow D)=none
    rw[if_neg (by rw[hn];simp[hDq])];exact hn
   ·have aO:=bQ.lt
    obtain⟨p1,p2,p3,⟨RI,t',p4,uh⟩,p5⟩:=bQ
    have LY:b≠q:=fun he=>by subst he;rw[hq aO]at p1;cases p1;exact hp (.inr rfl)
    have hh:=Av b aO LY
    refine⟨⟨?_,p2,p3,⟨RI,t',hh.trans p4,uh⟩,p5⟩,fun _=>hh⟩
    show(if b=q∨g.ow b=some (.s u 0)then some (Pos.s t 0)else g.ow b)=some p
    rw[if_neg (by rw[p1];rintro(h|h);exact LY h;cases h;exact hp (.inl rfl))];exact p1
  have amU:w2.heap[gg]? =w.heap[gg]? :=Av gg oH RH
  have iO:∀{b cc:Nat}{p:Pos},fa w0.heap.size w g p b 0 cc→(p=.s u 0∨p=.s t 0)→b≠q→fa w0.heap.size w2 g2 (.s t 0) b 0 cc∧w2.heap[b]? =w.heap[b]? :=by
   intro b cc p bQ hp LY
   have aO:=bQ.lt
   obtain⟨p1,p2,p3,⟨RI,t',p4,uh⟩,p5⟩:=bQ
   have hh:=Av b aO LY
   refine⟨⟨?_,p2,p3,⟨RI,t',hh.trans p4,uh⟩,p5⟩,hh⟩
   show(if b=q∨g.ow b=some (.s u 0)then some (Pos.s t 0)else g.ow b)=some (.s t 0)
   rcases hp with rfl|rfl
   ·rw[if_pos (.inr p1)]
   ·split
    ·rfl
    ·exact p1
  refine⟨g2,?_⟩
  have:=hI.stepG (dst:=some t) (s:=.v (.nest (LL++[L]))) (v:=.slice (some ⟨q,0,none⟩) (LL.length+1) cap) (ak:=e.ak.set u (.v .undef)) (aF:=e.boxes) hX eh (by simp) (fun i x hx hd=>?_) (fun d hd=>?_) hI.fQ
   (fun b bx ao k1 k2=>?_) hI.nodup (fun b hb=>(have:=hI.dF b hb;⟨this.1,Nat.lt_of_lt_of_le this.2 eh.size⟩)) (fun b o h=>(have:=hI.cW b o h;⟨this.1,this.2.1,Nat.lt_of_lt_of_le this.2.2 eh.size⟩))
  ·exact this
  ·rw[List.getElem?_set]at hx
   split at hx
   ·rename_i hui
    split at hx
    ·cases hx;exact .v _ _ _ (.undef _ _)
    ·cases hx
   ·rename_i hui
    refine hX.slot (fun j hl=>?_) (hI.ak i x hx)
    rcases hl with hl|hl
    ·cases hl;exact hui rfl
    ·cases hl;exact hd rfl
  ·cases hd
   refine .v _ _ _ ?_
   have hlen:(LL++[L]).length =LL.length+1:=by simp
   rw[←hlen]
   have get:∀{i:Nat}{M:List D},(LL++[L])[i]? =some M→(i<LL.length∧LL[i]? =some M)∨(i=LL.length∧M=L):=by
    intro i M hM
    rw[List.getElem?_append]at hM
    split at hM
    ·rename_i hi;exact .inl ⟨hi,hM⟩
    ·rename_i hi
     have:i-LL.length=0:=by
      have:=(List.getElem?_eq_some_iff.1 hM).1
      simp only[List.length_singleton]at this;omega
     rw[this]at hM
     simp at hM
     exact .inr ⟨by omega,hM.symm⟩
   have hqc:∀i,w2.cell? ⟨q,i,none⟩=cur[i]? :=fun i=>cell_of_row w2 q i cur te (0,0) mj
   refine .nest _ (LL++[L]) q cap (fun i=>if i<LL.length then bk i else gg) (fun i=>if i<LL.length then cp i else c) (by omega) hm ⟨?_,HQ,RG,⟨cur,te,mj,ck⟩,fun o _=>hqs o⟩ (fun i M hM=>?_) (fun i M hM=>?_) (fun i j M N hM hN eY=>?_)
   ·show(if q=q∨g.ow q=some (.s u 0)then some (Pos.s t 0)else g.ow q)=some (.s t 0)
    rw[if_pos (.inl rfl)]
   ·rcases get hM with⟨hi,vF⟩|⟨rfl,rfl⟩
    ·simp only[hi,if_true]
     rw[hqc];exact aR i M vF
    ·simp only[Nat.lt_irrefl,if_false]
     rw[hqc];exact Au
   ·rcases get hM with⟨hi,vF⟩|⟨rfl,rfl⟩
    ·obtain⟨r1,r2,r3,r4,r5,r6⟩:=oq i M vF
     obtain⟨s1,s2⟩:=iO r1 (.inr rfl) r4
     simp only[hi,if_true]
     refine⟨s1,r2,r3,r4,r5,fun j x hx=>?_⟩
     obtain⟨v,k1,k2⟩:=r6 j x hx
     exact⟨v,(World.cell?_of_block s2).trans k1,hX.xd k2⟩
    ·obtain⟨s1,s2⟩:=iO (p:=.s u 0) (b:=gg) (cc:=c*1) ⟨o1,o2,o3,⟨cu,ty,o4,lP⟩,o5⟩ (.inl rfl) RH
     simp only[Nat.lt_irrefl,if_false]
     rw[Nat.mul_one]at s1
     refine⟨s1,h1,h2,RH,Bc,fun j x hx=>?_⟩
     have hj:=(List.getElem?_eq_some_iff.1 hx).1
     refine⟨vs j,(World.cell?_of_block s2).trans (h6 j (by omega)),?_⟩
     have:=h7 j x 0 x hx (by rw[Jh (Bc x (List.mem_of_getElem? hx))];rfl)
     rw[Nat.mul_one,Nat.add_zero]at this
     exact hX.xd this
   ·have ug:∀{i:Nat}{M:List D},LL[i]? =some M→bk i≠gg:=fun hM he=>by
     have:=(oq _ _ hM).1.1
     rw[he,o1]at this;cases this;exact bf rfl
    rcases get hM with⟨hi,vF⟩|⟨rfl,rfl⟩
    ·rcases get hN with⟨hj,HR⟩|⟨rfl,rfl⟩
     ·simp only[hi,hj,if_true]at eY;exact tN i j M N vF HR eY
     ·simp only[hi,Nat.lt_irrefl,if_true,if_false]at eY;exact absurd eY (ug vF)
    ·rcases get hN with⟨hj,HR⟩|⟨rfl,rfl⟩
     ·simp only[hj,Nat.lt_irrefl,if_true,if_false]at eY;exact absurd eY.symm (ug HR)
     ·rfl
  ·exact hX.box (fun j hl=>by rcases hl with hl|hl<;>cases hl) (Av ao (hI.dF ao (List.mem_of_getElem? k2)).2 (fun he=>RG (by rw[←he];exact List.mem_of_getElem? k2))) (hI.boxes b bx ao k1 k2)
theorem FM(hI:Inv gl w0 ar e a w g){t:Nat}{x:SV}(hx:e.ak.getD t (.v .undef)=.v x):aP w g.St w0.heap.size (fO w0.heap.size w g t 0) x (a.tmps.getD t undef):=by
 have:=kb hI t
 rw[hx]at this
 exact this.jV
theorem afD(w:World)(t e:TypeId)(len:Nat)(parts:Array (Nat×Value))(cells:Array Value)(ie:TypeInfo)(z:Value)
  (hu:P.underlying t=some (.slice e))(RJ:P.info? e=some ie)(hz:ie.zero=some z)(ahd:¬len*ie.size>2^24)(Eg:¬len*ie.size=0)
  (h:Instr.fill (fun i=>some (i*ie.size,ie.size)) ((Array.range (len*ie.size)).map (z.cells[· % z.cells.size]!)) parts.toList=some cells):
  (Instr.buildSlice t len parts).run P w=.ok (.slice (some ⟨w.heap.size,0,none⟩) len len) (w.alloc (.cells cells e)):=by
 simp[Instr.buildSlice,run_underlying hu,sizeOf,typeInfo,zeroValue,RJ,hz,ahd,Eg,h,newRow]
theorem ad8(hI:Inv gl w0 ar e a w g){t u:Nat}(bf:t≠u){x y:SV}(hx:e.ak.getD t (.v .undef)=.v x)(hy:e.ak.getD u (.v .undef)=.v y){r:List (List D)×List D}(hp:PT x y=some r)
  {ty:TypeId}{n:Nat}(eU:Ph P ty=some n)(hb:(r.1.length+1)*n≤140737488355328)(Bc:∀x∈r.2,x.pL=true)(LZ:TypeId):
  ∃w1,(Instr.buildSlice ty 1 #[(0,a.tmps.getD u undef)]).run P w=.ok (.slice (some ⟨w.heap.size,0,none⟩) 1 1) w1∧∃v4 w2,
   (Builtin.append_ #[ty,ty] LZ #[a.tmps.getD t undef,.slice (some ⟨w.heap.size,0,none⟩) 1 1]).run P w1=.ok v4 w2∧
   ∀e' a',Inv gl w0 ar e' a' w g→∃g2,Inv gl w0 ar ⟨(e'.ak.set u (.v .undef)).set t (.v (.nest (r.1++[r.2]))),e'.boxes⟩ (a'.put (some t) v4) w2 g2:=by
 have rx:=FM hI hx
 have ry:=FM hI hy
 generalize a.tmps.getD t undef=v1 at rx ⊢
 generalize a.tmps.getD u undef=v2 at ry ⊢
 unfold Ph at eU
 split at eU
 rotate_left
 ·cases eU
 rename_i e1 he
 split at eU
 rotate_left
 ·cases eU
 rename_i cX z akG my hz
 cases hc:(Nat.blt 0 cX&&Nat.beq z.length 1)with
 |false=>rw[hc]at eU;cases eU
 |true=>
  rw[hc]at eU
  have CH:cX=n:=Option.some.inj eU
  subst CH
  simp only[Bool.and_eq_true]at hc
  have Zn:0<cX:=Nat.lt_of_succ_le (Nat.le_of_ble_eq_true hc.1)
  have A4:=Nat.eq_of_beq_eq_true hc.2
  have hu:=zY he
  obtain⟨i,zv,hi,L3,gW⟩:=Ut hz
  have aM:i.size=1:=by have:=(F6 akG).2.1;simpa[eu,hi]using this
  have hib:i.bytes=cX:=by simpa[wz,hi]using my
  subst hib
  unfold PT at hp
  split at hp
  rotate_left
  ·cases hp
  rename_i s L
  split at hp
  rotate_left
  ·cases hp
  rename_i gk
  subst gk
  have Be:∃gg c,v2=.slice (some ⟨gg,0,none⟩) L.length c:=by cases ry;exact⟨_,_,rfl⟩
  obtain⟨g3,c3,Be⟩:=Be
  have akH:v2.cells= #[v2]:=by rw[Be];rfl
  have akI:v2.oneCell'=true:=by rw[Be];rfl
  have hle:w0.heap.size≤w.heap.size:=hI.below.size
  have hold:=fun b(hb:b<w.heap.size)=>jw w (.cells #[v2] e1) b hb
  have lI:=uO w (.cells #[v2] e1)
  have akJ:=zX w (.cells #[v2] e1)
  have ajB:Instr.fill (fun j=>some (j*i.size,i.size)) ((Array.range (1*i.size)).map (zv.cells[· % zv.cells.size]!)) [(0,v2)]=some #[v2]:=by
   rw[aM]
   have ER:∀f:Nat→Value,(Array.range (1*1)).map f= #[f 0]:=fun f=>Array.ext' (by simp[List.range_succ])
   rw[ER]
   simp[Instr.fill,akH]
  refine⟨w.alloc (.cells #[v2] e1),?_,?_⟩
  ·exact afD w ty e1 1 #[(0,v2)] #[v2] i zv hu hi L3 (by rw[aM];omega) (by rw[aM];omega) ajB
  ·have GR:∀(j:Nat)(u':Value),[v2][j]? =some u'→(w.alloc (.cells #[v2] e1)).cell? ((⟨w.heap.size,0,none⟩:Addr).add j)=some u':=fun j u' hj=>by
    have A1:j=0:=by have:=(List.getElem?_eq_some_iff.1 hj).1;simp at this;omega
    subst A1
    simp at hj;subst hj
    rw[pB,cell_of_row _ w.heap.size (0+0) _ e1 (0,0) lI]
    rfl
   have amY:∀{w2:World},w2.drawn=w2.drawn→True:=fun _=>trivial
   split at hp
   ·
    rename_i LL
    cases hp
    cases rx with
    |nest _ _ q cap bk cp bM hm ho aR oq tN=>
     obtain⟨o1,o2,o3,⟨cur,te,o4,lP⟩,o5⟩:=ho
     have Bf:q<w.heap.size:=fL o4
     have hcq:∀(j:Nat)M,LL[j]? =some M→cur[j]? =some (.slice (some ⟨bk j,0,none⟩) M.length (cp j)):=fun j M hM=>by
      have:=aR j M hM
      rw[cell_of_row w q j cur te (0,0) o4]at this
      exact this
     by_cases sF:LL.length+1≤cap
     ·have bq:=MU (P:=P) (w:=w.alloc (.cells #[v2] e1)) (ty:=LZ) hu hi ((hold q Bf).trans o4) (ad:=⟨w.heap.size,0,none⟩) (m:=1) (c:=1) (n:=LL.length) (cap:=cap) [v2] (by simp[aM]) GR (by intro u' nH;simp at nH;subst nH;exact akI) sF (by rw[aM,Nat.mul_one,lP];simpa using sF)
      refine⟨_,_,bq,fun e' a' bt=>?_⟩
      have dv:cur.toList.length=cap:=by simpa using lP
      refine bt.push (LL:=LL) (L:=L) (q:=q) (cap:=cap) (cur:=(cur.toList.take (LL.length*i.size)++[v2]++cur.toList.drop (LL.length*i.size+[v2].length)).toArray) (te:=te) bf Bc bk cp (fun j M hM=>?_) tN ry ?_ ?_ sF hm (fun j M hM=>?_) ?_ (fun _=>o1) o2 o3 (fun o=>o5 o (Nat.zero_le _)) (fun k hk ES=>?_) ⟨rfl,rfl,rfl,by simp[World.setRow,akJ],fun k hk=>?_⟩
      ·obtain⟨r1,r2,r3,r4,r5,r6⟩:=oq j M hM
       exact⟨r1,r2,r3,r4,r5,r6⟩
      ·exact setRow_heap _ q cur _ te (0,0) ((hold q Bf).trans o4)
      ·simp only[aM,Nat.mul_one,List.size_toArray,List.length_append,List.length_take,List.length_drop,List.length_singleton,dv];omega
      ·have hj:=(List.getElem?_eq_some_iff.1 hM).1
       have:=tx cur.toList [v2] LL.length (by simp[dv];omega) j
       simp only[aM,Nat.mul_one,List.getElem?_toArray]
       rw[this,if_pos hj]
       simpa using hcq j M hM
      ·have:=tx cur.toList [v2] LL.length (by simp[dv];omega) LL.length
       simp only[aM,Nat.mul_one,List.getElem?_toArray]
       rw[this];simp
      ·exact(setRow_other _ q k _ ES).trans (hold k hk)
      ·exact(setRow_other _ q k _ (by omega)).trans (hold k (by omega))
     ·obtain⟨fb,ol,oc,og⟩:=zZ (w:=w.alloc (.cells #[v2] e1)) (b:=q) (off:=0) (St:=fun _ _=>True) (n:=LL.length) (sz:=i.size) (vs:=fun j=>.slice (some ⟨bk j,0,none⟩) (LL.getD j []).length (cp j)) (fun o ho=>⟨by
       rw[aM,Nat.mul_one]at ho
       rw[Nat.zero_add,World.cell?_of_block (hold q Bf)]
       have:=aR o _ (List.getElem?_eq_getElem ho)
       rw[this];simp[ho],trivial⟩)
      have bG:(LL.length+1)*1≤(LL.length+1)*i.bytes:=Nat.mul_le_mul_left _ Zn
      have mM:LL.length+1≤maxLen:=by simp only[maxLen];simp only at hb;omega
      have bq:=run_append_grow (P:=P) (w.alloc (.cells #[v2] e1)) ty LZ e1 i zv hu hi L3 ⟨q,0,none⟩ LL.length cap fb ol oc ⟨w.heap.size,0,none⟩ 1 1 [v2] (by simp[aM]) GR (by omega) (by simp only at hb;omega) (growslice_fits (by omega) hb)
      obtain⟨rest,pX,oJ⟩:=Db zv.cells (grownCap (w.alloc (.cells #[v2] e1)) (LL.length+1) cap e1-(LL.length+1))
      rw[pX]at bq
      have lq:=grownCap_ge (w.alloc (.cells #[v2] e1)) (LL.length+1) cap e1
      have HS:=grownCap_le_maxLen (w.alloc (.cells #[v2] e1)) (LL.length+1) cap e1 mM
      generalize grownCap (w.alloc (.cells #[v2] e1)) (LL.length+1) cap e1=Qw at bq pX oJ lq HS
      refine⟨_,_,bq,fun e' a' bt=>?_⟩
      have rJ:fb.length=LL.length:=by rw[ol,aM,Nat.mul_one]
      have RK:(w.alloc (.cells #[v2] e1)).drew.heap =(w.alloc (.cells #[v2] e1)).heap :=rfl
      have GS:=fun b(hb:b<(w.alloc (.cells #[v2] e1)).heap.size)=>jw (w.alloc (.cells #[v2] e1)).drew (.cells (fb.toArray++[v2].toArray ++rest.toArray) e1) b hb
      have GU:=uO (w.alloc (.cells #[v2] e1)).drew (.cells (fb.toArray++[v2].toArray ++rest.toArray) e1)
      have Qx:=zX (w.alloc (.cells #[v2] e1)).drew (.cells (fb.toArray++[v2].toArray ++rest.toArray) e1)
      rw[RK]at GU Qx
      have jF:∀j,(fb.toArray++[v2].toArray ++rest.toArray)[j]? =(fb++[v2]++rest)[j]? :=fun j=>by rw[←Array.getElem?_toList,Array.toList_append,Array.toList_append]
      refine bt.push (LL:=LL) (L:=L) (q:=(w.alloc (.cells #[v2] e1)).heap.size) (cap:=Qw) (te:=e1) bf Bc bk cp (fun j M hM=>?_) tN ry GU ?_ (by omega) HS (fun j M hM=>?_) ?_ (fun aO=>by omega) (by omega) (fun hb=>by have:=(hI.dF _ hb).2;omega) (fun o hs=>by have:=hI.lH hs;omega) (fun k hk ES=>?_) ⟨rfl,rfl,rfl,by omega,fun k hk=>?_⟩
      ·obtain⟨r1,r2,r3,r4,r5,r6⟩:=oq j M hM
       exact⟨r1,r2,r3,by have:=r1.lt;omega,r5,r6⟩
      ·simp only[Array.size_append,List.size_toArray,rJ,oJ,gW,A4,List.length_singleton];omega
      ·have hj:=(List.getElem?_eq_some_iff.1 hM).1
       rw[jF,List.append_assoc,List.getElem?_append_left (by omega),og j (by rw[aM];omega)]
       have hg:LL.getD j []=M:=by rw[List.getD_eq_getElem?_getD,hM];rfl
       rw[hg]
      ·rw[jF,List.append_assoc,List.getElem?_append_right (by omega),rJ,Nat.sub_self];rfl
      ·exact(GS k (by omega)).trans (hold k hk)
      ·exact(GS k (by omega)).trans (hold k (by omega))
   ·
    cases hp
    have hd:=rx.data
    cases hd
    have bG:1*1≤1*i.bytes:=Nat.mul_le_mul_left _ Zn
    have bq:=run_append_nil (P:=P) (w.alloc (.cells #[v2] e1)) ty LZ e1 i zv hu hi L3 ⟨w.heap.size,0,none⟩ 1 1 [v2] (by simp[aM]) GR (by omega) (by omega) (by simp only[List.length_nil]at hb;omega)
    obtain⟨rest,pX,oJ⟩:=Db zv.cells (grownCap (w.alloc (.cells #[v2] e1)) 1 0 e1-1)
    rw[pX]at bq
    have lq:=grownCap_ge (w.alloc (.cells #[v2] e1)) 1 0 e1
    have HS:=grownCap_le_maxLen (w.alloc (.cells #[v2] e1)) 1 0 e1 (by simp[maxLen])
    generalize grownCap (w.alloc (.cells #[v2] e1)) 1 0 e1=Qw at bq pX oJ lq HS
    refine⟨_,_,bq,fun e' a' bt=>?_⟩
    have RK:(w.alloc (.cells #[v2] e1)).drew.heap =(w.alloc (.cells #[v2] e1)).heap :=rfl
    have GS:=fun b(hb:b<(w.alloc (.cells #[v2] e1)).heap.size)=>jw (w.alloc (.cells #[v2] e1)).drew (.cells ([v2].toArray ++rest.toArray) e1) b hb
    have GU:=uO (w.alloc (.cells #[v2] e1)).drew (.cells ([v2].toArray ++rest.toArray) e1)
    have Qx:=zX (w.alloc (.cells #[v2] e1)).drew (.cells ([v2].toArray ++rest.toArray) e1)
    rw[RK]at GU Qx
    refine bt.push (LL:=[]) (q:=(w.alloc (.cells #[v2] e1)).heap.size) (cap:=Qw) (te:=e1) bf Bc (fun _=>0) (fun _=>0) (fun j M hM=>by simp at hM) (fun i j M N hM=>by simp at hM) ry GU ?_ lq HS (fun j M hM=>by simp at hM) (by simp) (fun aO=>by omega) (by omega) (fun hb=>by have:=(hI.dF _ hb).2;omega) (fun o hs=>by have:=hI.lH hs;omega) (fun k hk ES=>?_) ⟨rfl,rfl,rfl,by omega,fun k hk=>?_⟩
    ·simp only[Array.size_append,List.size_toArray,oJ,gW,A4,List.length_singleton];omega
    ·exact(GS k (by omega)).trans (hold k hk)
    ·exact(GS k (by omega)).trans (hold k (by omega))
   ·cases hp
theorem Inv.tO(hI:Inv gl w0 ar e a w g){t:Nat}{LL:List (List D)}(hx:e.ak.getD t (.v .undef)=.v (.nest LL)){i j:Nat}{L:List D}(hL:LL[i]? =some L)(hj:j<L.length)(b:Bool):
  ∃q cap bk cp cur te,a.tmps.getD t undef=.slice (some ⟨q,0,none⟩) LL.length cap∧w.cell? ⟨q,i,none⟩=some (.slice (some ⟨bk,0,none⟩) L.length cp)∧w.heap[bk]? =some (.cells cur te (0,0))∧j<cur.size∧
   Inv gl w0 ar ⟨e.ak.set t (.v (.nest (LL.set i (L.set j (.bool b))))),e.boxes⟩ a (w.setRow bk (cur.toList.take j++[Value.bool b]++cur.toList.drop (j+1)).toArray) g:=by
 have ht:t<e.ak.length:=by
  rcases Nat.lt_or_ge t e.ak.length with h|h
  ·exact h
  ·rw[List.getD_eq_getElem?_getD,List.getElem?_eq_none h]at hx;cases hx
 have hr:=FM hI hx
 generalize hv:a.tmps.getD t undef=v at hr
 cases hr with
 |nest _ _ q cap bk cp bM hm ho aR oq tN=>
  obtain⟨r1,r2,r3,r4,r5,r6⟩:=oq i L hL
  obtain⟨o1,o2,o3,⟨cur,te,o4,lP⟩,o5⟩:=r1
  let iW:Array Value:=(cur.toList.take j++[Value.bool b]++cur.toList.drop (j+1)).toArray
  have dv:cur.toList.length=cp i:=by simpa using lP
  have hjc:j<cp i:=by omega
  have aM:iW.size=cur.size:=by
   simp only[iW,List.size_toArray,List.length_append,List.length_take,List.length_drop,List.length_singleton,dv,lP];omega
  refine⟨q,cap,bk i,cp i,cur,te,rfl,aR i L hL,o4,by omega,?_⟩
  have hn:=setRow_heap w (bk i) cur iW te (0,0) o4
  have dQ:=fun k(hk:k≠bk i)=>setRow_other w (bk i) k iW hk
  have P1:∀b' o,g.St b' o→b'≠bk i:=fun b' o h he=>o5 o (Nat.zero_le _) (he▸h)
  have hX:Ext w0.heap.size w g (w.setRow (bk i) iW) g (fun p=>p=.s t 0):=by
   refine⟨fun D ob fW eT h=>⟨(dQ D (fun he=>by subst he;rw[o1]at eT;cases eT)).trans h,fW,eT,fun _ h=>h⟩,fun b' o h=>⟨h,.qF (dQ b' (P1 b' o h))⟩,fun b' o h=>World.cell?_of_block (dQ b' (by omega)),fun _ _ h=>h,fun p b' a' c' hp bQ=>?_,fun b' c' nE lQ eC=>⟨c',nE,(dQ b' (fun he=>o3 (he▸lQ))).trans eC,rfl⟩⟩
   obtain⟨p1,p2,p3,⟨cu,t',p4,uh⟩,p5⟩:=bQ
   have bf:b'≠bk i:=fun he=>by subst he;rw[o1]at p1;cases p1;exact hp rfl
   exact⟨⟨p1,p2,p3,⟨cu,t',(dQ b' bf).trans p4,uh⟩,p5⟩,fun _=>dQ b' bf⟩
  have eh:Below w0.heap.size w (w.setRow (bk i) iW):=⟨rfl,rfl,rfl,by simp[World.setRow],fun k hk=>dQ k (by omega)⟩
  have:=hI.stepG (dst:=none) (s:=.t []) (v:=undef) (ak:=e.ak.set t (.v (.nest (LL.set i (L.set j (.bool b)))))) (aF:=e.boxes) hX eh (by simp) (fun k x ee _=>?_) (fun d hd=>by cases hd) hI.fQ
   (fun b' bx ao h1 h2=>hX.box (fun j hh=>by cases hh) (dQ ao (fun he=>o3 (by rw[←he];exact List.mem_of_getElem? h2))) (hI.boxes b' bx ao h1 h2)) hI.nodup (fun b' lQ=>by have:=hI.dF b' lQ;exact⟨this.1,by simpa[World.setRow]using this.2⟩) (fun b' o h=>by have:=hI.cW b' o h;exact⟨this.1,this.2.1,by simpa[World.setRow]using this.2.2⟩)
  ·exact this
  ·rw[List.getElem?_set]at ee
   split at ee
   ·rename_i gX
    subst gX
    simp only[ht,↓reduceIte,Option.some.injEq]at ee
    subst ee
    refine .v _ _ _ ?_
    rw[hv]
    have hlen:(LL.set i (L.set j (.bool b))).length =LL.length:=by simp
    have get:∀{k:Nat}{M:List D},(LL.set i (L.set j (.bool b)))[k]? =some M→(k=i∧M=L.set j (.bool b))∨(k≠i∧LL[k]? =some M):=by
     intro k M hM
     rw[List.getElem?_set]at hM
     split at hM
     ·rename_i HT
      split at hM
      ·cases hM;exact .inl ⟨HT.symm,rfl⟩
      ·cases hM
     ·rename_i HT;exact .inr ⟨fun h=>HT h.symm,hM⟩
    have hold:∀{k:Nat}{M:List D},(LL.set i (L.set j (.bool b)))[k]? =some M→∃N,LL[k]? =some N∧N.length=M.length:=by
     intro k M hM
     rcases get hM with⟨rfl,rfl⟩|⟨_,h⟩
     ·exact⟨L,hL,by simp⟩
     ·exact⟨M,h,rfl⟩
    have own:∀{k:Nat}{c:Nat},fa w0.heap.size w g (.s t 0) k 0 c→fa w0.heap.size (w.setRow (bk i) iW) g (.s t 0) k 0 c:=by
     intro k c hk
     obtain⟨p1,p2,p3,⟨cu,t',p4,uh⟩,p5⟩:=hk
     by_cases EN:k=bk i
     ·subst EN
      rw[o4]at p4;cases p4
      exact⟨p1,p2,p3,⟨iW,te,hn,aM.trans uh⟩,p5⟩
     ·exact⟨p1,p2,p3,⟨cu,t',(dQ k EN).trans p4,uh⟩,p5⟩
    rw[←hlen]
    refine .nest _ _ q cap bk cp (by omega) hm (own ho) (fun k M hM=>?_) (fun k M hM=>?_) (fun k k' M N hM hN mQ=>?_)
    ·obtain⟨N,hN,hl⟩:=hold hM
     rw[World.cell?_of_block (dQ q (fun he=>r4 he.symm)),←hl]
     exact aR k N hN
    ·rcases get hM with⟨rfl,rfl⟩|⟨EN,vF⟩
     ·refine⟨own ⟨o1,o2,o3,⟨cur,te,o4,lP⟩,o5⟩,by simpa using r2,r3,r4,fun x hx=>?_,fun jj x hx=>?_⟩
      ·rcases List.mem_or_eq_of_mem_set hx with h|h
       ·exact r5 x h
       ·subst h;rfl
      ·rw[cell_of_row _ (bk k) jj iW te (0,0) hn]
       have lL:=tx cur.toList [Value.bool b] j (by simp[dv];omega) jj
       have iI:iW[jj]? =if jj<j then cur.toList[jj]? else if jj<j+1 then [Value.bool b][jj-j]? else cur.toList[jj]? :=by
        simp only[iW,List.getElem?_toArray];exact lL
       rw[List.getElem?_set]at hx
       split at hx
       ·rename_i L5
        subst L5
        have xB:some (D.bool b)=some x:=by simpa[hj]using hx
        cases xB
        refine⟨.bool b,?_,.bool b⟩
        rw[iI];simp
       ·rename_i L5
        obtain⟨v',k1,k2⟩:=r6 jj x hx
        refine⟨v',?_,hX.xd k2⟩
        rw[cell_of_row w (bk k) jj cur te (0,0) o4]at k1
        rw[iI]
        split
        ·simpa using k1
        ·rw[if_neg (by omega)];simpa using k1
     ·obtain⟨s1,s2,s3,s4,s5,s6⟩:=oq k M vF
      have vD:bk k≠bk i:=fun he=>EN (tN k i M L vF hL he)
      refine⟨own s1,s2,s3,s4,s5,fun jj x hx=>?_⟩
      obtain⟨v',k1,k2⟩:=s6 jj x hx
      exact⟨v',(World.cell?_of_block (dQ (bk k) vD)).trans k1,hX.xd k2⟩
    ·obtain⟨M',vF,_⟩:=hold hM
     obtain⟨N',HR,_⟩:=hold hN
     exact tN k k' M' N' vF HR mQ
   ·rename_i gX
    refine hX.slot (fun j=>?_) (hI.ak k x ee)
    intro hh;cases hh;exact gX rfl
end
end Go.Proofs.Ytimbllcalipehaa.Ab
set_option linter.unusedVariables false
set_option linter.unusedSimpArgs false
namespace Go.Proofs.Ytimbllcalipehaa.Ab
open Go Go.RowKit
section
variable{P:Program}{gl:Nat→Option D}{w0:World}{ar:S0}{e:Env}{a:Act}{w:World}{g:Gh}
def ic(P:Program):List Oper→Act→World→(Act→World→Prop)→Prop
 |[],a,w,R=>R a w
 |o::l,a,w,R=>o.guard=none∧(∀c,o.op≠.defer c)∧∀(next:Act→World→Prop)(Q:Exit→Act→World→Prop),(∀v w1,(a.put o.dst v).defers =[]→ic P l (a.put o.dst v) w1 R→next (a.put o.dst v) w1)→o.wp P a w next Q
theorem ic.val{o:Oper}{l:List Oper}{a:Act}{w:World}{R:Act→World→Prop}{v:Value}{w1:World}(hg:o.guard=none)(nF:∀c,o.op≠.defer c)(hd:a.defers=[])(hr:(execOp a.eval o).run P w=.ok (.value v) w1)(h:ic P l (a.put o.dst v) w1 R):ic P (o::l) a w R:=
 ⟨hg,nF,fun next Q hn=>by unfold Oper.wp;rw[hr];exact hn v w1 ((put_defers a o.dst v).trans hd) h⟩
theorem ic.skip{o:Oper}{l:List Oper}{a:Act}{w:World}{R:Act→World→Prop}{w1:World}(hg:o.guard=none)(nF:∀c,o.op≠.defer c)(ho:o.dst=none)(hd:a.defers=[])(hr:(execOp a.eval o).run P w=.ok .skip w1)(h:ic P l a w1 R):ic P (o::l) a w R:=
 ⟨hg,nF,fun next Q hn=>by unfold Oper.wp;rw[hr];exact hn undef w1 (by rw[ho];exact hd) (by rw[ho];exact h)⟩
theorem ad9(x:SV):Ab.aa (Ab.aa x)=Ab.aa x:=by cases x<;>rfl
theorem bh.WY{St:Nat→Nat→Prop}{sz:Nat}{L:List D}{v:Value}(h:bh w St (.sl .nil sz L) v):v=.slice none 0 0∧L=[]:=by
 cases h;exact⟨rfl,rfl⟩
theorem jv{a:Act}{d t:Nat}{v:Value}(h:t≠d):(a.put (some d) v).tmps.getD t undef=a.tmps.getD t undef:=by
 simp only[Act.put,Array.getD_eq_getD_getElem?]
 rw[Array.getElem?_setIfInBounds_ne (fun hh=>h hh.symm)]
theorem Inv.afE(hI:Inv gl w0 ar e a w g){t:Nat}{s n:Nat}{L L':List D}{gg cap:Nat}(ht:t<e.ak.length)(hs:fa w0.heap.size w g (.s t 0) gg 0 (cap*s)){cur iW:Array Value}{te:TypeId}(hc:w.heap[gg]? =some (.cells cur te (0,0)))
  (aM:iW.size=cur.size)(lI:∀(w':World)(St:Nat→Nat→Prop),w'.heap[gg]? =some (.cells iW te (0,0))→fa w0.heap.size w' g (.s t 0) gg 0 (cap*s)→(∀d v,bh w g.St d v→bh w' g.St d v)→aP w' g.St w0.heap.size (fO w0.heap.size w' g t 0) (.aZ s L') (a.tmps.getD t undef)):
  Inv gl w0 ar ⟨e.ak.set t (.v (.aZ s L')),e.boxes⟩ a (w.setRow gg iW) g:=by
 obtain⟨o1,o2,o3,⟨cu,ty,o4,lP⟩,o5⟩:=hs
 rw[hc]at o4;cases o4
 have hn:=setRow_heap w gg cur iW te (0,0) hc
 have dQ:=fun k(hk:k≠gg)=>setRow_other w gg k iW hk
 have P1:∀b' o,g.St b' o→b'≠gg:=fun b' o h he=>o5 o (Nat.zero_le _) (he▸h)
 have hX:Ext w0.heap.size w g (w.setRow gg iW) g (fun p=>p=.s t 0):=by
  refine⟨fun D ob fW eT h=>⟨(dQ D (fun he=>by subst he;rw[o1]at eT;cases eT)).trans h,fW,eT,fun _ h=>h⟩,fun b' o h=>⟨h,.qF (dQ b' (P1 b' o h))⟩,fun b' o h=>World.cell?_of_block (dQ b' (by omega)),fun _ _ h=>h,fun p b' a' c' hp bQ=>?_,fun b' c' nE lQ eC=>⟨c',nE,(dQ b' (fun he=>o3 (he▸lQ))).trans eC,rfl⟩⟩
  obtain⟨p1,p2,p3,⟨cu,t',p4,uh⟩,p5⟩:=bQ
  have bf:b'≠gg:=fun he=>by subst he;rw[o1]at p1;cases p1;exact hp rfl
  exact⟨⟨p1,p2,p3,⟨cu,t',(dQ b' bf).trans p4,uh⟩,p5⟩,fun _=>dQ b' bf⟩
 have ajC:fa w0.heap.size (w.setRow gg iW) g (.s t 0) gg 0 (cap*s):=⟨o1,o2,o3,⟨iW,te,hn,aM.trans lP⟩,o5⟩
 have eh:Below w0.heap.size w (w.setRow gg iW):=⟨rfl,rfl,rfl,by simp[World.setRow],fun k hk=>dQ k (by omega)⟩
 have:=hI.stepG (dst:=none) (s:=.t []) (v:=undef) (ak:=e.ak.set t (.v (.aZ s L'))) (aF:=e.boxes) hX eh (by simp) (fun i x hx _=>?_) (fun d hd=>by cases hd) hI.fQ
  (fun b' bx ao h1 h2=>hX.box (fun j hh=>by cases hh) (dQ ao (fun he=>o3 (by rw[←he];exact List.mem_of_getElem? h2))) (hI.boxes b' bx ao h1 h2)) hI.nodup (fun b' lQ=>by have:=hI.dF b' lQ;exact⟨this.1,by simpa[World.setRow]using this.2⟩) (fun b' o h=>by have:=hI.cW b' o h;exact⟨this.1,this.2.1,by simpa[World.setRow]using this.2.2⟩)
 ·exact this
 ·rw[List.getElem?_set]at hx
  split at hx
  ·rename_i gX
   subst gX
   simp only[ht,↓reduceIte,Option.some.injEq]at hx
   subst hx
   exact .v _ _ _ (lI _ (fun _ _=>False) hn ajC (fun d v hr=>hX.xd hr))
  ·rename_i gX
   refine hX.slot (fun j=>?_) (hI.ak i x hx)
   intro hh;cases hh;exact gX rfl
theorem Inv.Zo(hI:Inv gl w0 ar e a w g){t:Nat}{y:SV}(h:aP w g.St w0.heap.size (fO w0.heap.size w g t 0) y (a.tmps.getD t undef)):Inv gl w0 ar ⟨e.ak.set t (.v y),e.boxes⟩ a w g:=by
 refine⟨hI.below,by simpa using hI.size,fun i s hs=>?_,hI.fQ,hI.boxes,hI.nodup,hI.gU,hI.cW,hI.dF,hI.lg,hI.defers,hI.fT,hI.cls,hI.kD⟩
 rw[List.getElem?_set]at hs
 split at hs
 ·rename_i gX
  subst gX
  split at hs
  ·cases hs;exact .v _ _ _ h
  ·cases hs
 ·exact hI.ak i s hs
theorem acY(hI:Inv gl w0 ar e a w g){t:Nat}{ty:TypeId}{x y:SV}(hx:e.ak.getD t (.v .undef)=.v x)(hy:yS P ty x=some y)(nE:TypeId):
  ∃w',(Builtin.clear_ #[ty] nE #[a.tmps.getD t undef]).run P w=.ok (.tuple #[]) w'∧Inv gl w0 ar ⟨e.ak.set t (.v y),e.boxes⟩ a w' g:=by
 have hr:aP w g.St w0.heap.size (fO w0.heap.size w g t 0) x (a.tmps.getD t undef):=by
  have:=kb hI t
  rw[hx]at this
  exact this.jV
 unfold yS at hy
 split at hy
 ·rename_i e' he
  have hu:=zY he
  split at hy
  ·rename_i z aM hz
   split at hy
   ·rename_i s L
    cases hy
    obtain⟨hv,hL⟩:=hr.data.WY
    subst hL
    refine⟨w,?_,hI.Zo (by rw[hv];exact .d _ _ _ (.jU _))⟩
    rw[hv]
    simp[Builtin.clear_,run_underlying hu]
   ·rename_i s L
    split at hy
    ·rename_i gk
     subst gk
     cases hy
     have HJ:t<e.ak.length:=by
      rcases Nat.lt_or_ge t e.ak.length with h|h
      ·exact h
      ·rw[List.getD_eq_getElem?_getD,List.getElem?_eq_none h]at hx;cases hx
     generalize hv:a.tmps.getD t undef=v at hr
     cases hr with
     |aZ _ _ _ gg cap vs bM hm Zp hf ho aR hc=>
      rcases Nat.eq_zero_or_pos L.length with h0|h0
      ·have:L=[]:=List.length_eq_zero_iff.1 h0
       subst this
       refine⟨w,?_,?_⟩
       ·rw[List.length_nil]
        simp[Builtin.clear_,run_underlying hu]
       ·refine hI.Zo ?_
        rw[hv]
        exact .aZ _ _ _ gg cap vs bM hm Zp hf ho aR hc
      ·obtain⟨zv,xD,mU⟩:=U5 hz
       obtain⟨i,zv',hzi,L3,Cz,hzc,amZ⟩:=Vb hz
       have As:zv.oneCell'=true:=(mU w (fun _ _=>False)).uS Cz
       have tF:zv.cells= #[zv]:=by
        have hh:=xD w
        unfold wK at hz
        rw[hzi]at hz
        simp only at hz
        cases zv<;>first|rfl|simp[Value.oneCell']at As
       obtain⟨cur,te,o4,lP⟩:=ho.2.2.2.1
       have pU:(Builtin.zeroCells zv.cells L.length).toList =List.replicate L.length zv:=by
        rw[tF]
        apply List.ext_getElem?
        intro i
        simp only[Builtin.zeroCells,Array.toList_map,List.getElem?_map,Array.getElem?_toList,List.getElem?_replicate]
        by_cases hi:i<L.length
        ·simp[hi,Nat.mod_one]
        ·simp[hi]
       have aY:=run_storeCells_at P gg 0 te (List.replicate L.length zv) 0 cur w o4 (by simp;rw[lP];omega) (fun v iR=>by rw[(List.mem_replicate.1 iR).2];exact As)
       simp only[Nat.add_zero,Nat.zero_add,List.length_replicate,List.take_zero,List.nil_append]at aY
       refine⟨w.setRow gg (List.replicate L.length zv++cur.toList.drop L.length).toArray,?_,?_⟩
       ·have bf:L.length≠0:=by omega
        obtain⟨m,lQ⟩:=Nat.exists_eq_succ_of_ne_zero bf
        have Zq:=pU
        rw[lQ]at Zq aY ⊢
        simp only[Builtin.clear_,List.getElem?_toArray,List.getElem?_cons_zero,Sem.run_bind,run_underlying hu,Result.andThen_ok,xD,Zq,aY,Sem.run_pure]
       ·have:=hI.afE (t:=t) (s:=1) (n:=0) (L:=L) (L':=L.map fun _=>z) (gg:=gg) (cap:=cap) HJ ho o4 (iW:=(List.replicate L.length zv++cur.toList.drop L.length).toArray) (by simp;omega) (fun w' St h1 h2 h3=>?_)
        ·exact this
        ·rw[hv]
         have jF:∀i,i<L.length→(List.replicate L.length zv++cur.toList.drop L.length).toArray[i]? =some zv:=fun i hi=>by
          simp only[List.getElem?_toArray]
          rw[List.getElem?_append_left (by simpa using hi)]
          simp[hi]
         have hlen:(L.map fun _=>z).length =L.length:=by simp
         rw[←hlen]
         refine .aZ _ 1 _ gg cap (fun _=>zv) (by simpa using bM) hm (fun x hx=>?_) (fun x hx c gB=>?_) h2 (fun o bQ=>?_) (fun i x j c hx iZ=>?_)
         ·obtain⟨_,_,rfl⟩:=List.mem_map.1 hx
          rw[D.uP Cz];rfl
         ·obtain⟨_,_,rfl⟩:=List.mem_map.1 hx
          rw[D.uP Cz]at gB
          simp at gB;subst gB;exact Cz
         ·have rJ:o<L.length:=by simpa using bQ
          rw[show o=0+o by omega,cell_of_row w' gg (0+o) _ te (0,0) h1]
          rw[Nat.zero_add]
          exact jF o rJ
         ·obtain⟨z',_,iJ⟩:=List.mem_map.1 (List.mem_of_getElem? hx)
          subst iJ
          rw[D.uP Cz]at iZ
          cases j with
          |zero=>simp at iZ;subst iZ;exact mU _ _
          |succ j=>simp at iZ
    ·cases hy
   ·cases hy
  ·cases hy
 ·cases hy
inductive uU(P:Program):Spec→List Oper→Prop
 |zm (t d:Nat) (ty:TypeId) (o1 o2:Oper) (c:Call) (h1:o1.op=.move (.tmp t)) (d1:o1.dst=some d) (g1:o1.guard=none) (h2:o2.op=.call c) (d2:o2.dst=none) (g2:o2.guard=none) (hc:c.callee=.builtin .clear) (ha:c.args.toList=[.tmp d]) (ht:c.argTypes.toList=[ty]) (bf:t≠d):
   uU P (.zm t d ty) [o1,o2]
 |cut (t d1 d2:Nat) (ty:TypeId) (o1 o2 o3:Oper) (h1:o1.op=.move (.tmp t)) (e1:o1.dst=some d1) (g1:o1.guard=none) (h2:o2.op=.slice ty (.tmp d1) none (some (.const (.int .i64 0))) none) (e2:o2.dst=some d2) (g2:o2.guard=none)
   (h3:o3.op=.assign (.tmp d2)) (e3:o3.dst=some t) (g3:o3.guard=none) (n1:t≠d1) (n2:t≠d2) (n3:d1≠d2):uU P (.cut t d1 d2 ty) [o1,o2,o3]
 |yR (t d:Nat) (f:FuncId) (u:Nat) (o1 o2:Oper) (c:Call) (h1:o1.op=.move (.tmp t)) (d1:o1.dst=some d) (g1:o1.guard=none) (h2:o2.op=.call c) (d2:o2.dst=some u) (g2:o2.guard=none) (hc:c.callee=.value (.func f)) (ha:c.args.toList=[.tmp d]) (h0:arity P o2.type=0)
   (n1:t≠d) (n2:u≠d) (n3:u≠t):uU P (.yR t d f u) [o1,o2]
 |yF (t d t2 e2:Nat) (f:FuncId) (u:Nat) (o1 o2 o3:Oper) (c:Call) (h1:o1.op=.move (.tmp t)) (d1:o1.dst=some d) (g1:o1.guard=none) (h2:o2.op=.move (.tmp t2)) (d2:o2.dst=some e2) (g2:o2.guard=none) (h3:o3.op=.call c) (d3:o3.dst=some u) (g3:o3.guard=none) (hc:c.callee=.value (.func f)) (ha:c.args.toList=[.tmp d,.tmp e2]) (h0:arity P o3.type=0)
   (n1:t≠d) (n2:u≠d) (n3:u≠t) (n4:e2≠d) (n5:e2≠t) (n6:t2≠d):uU P (.yF t d t2 e2 f u) [o1,o2,o3]
 |push (t u d1 d2 d3 d4:Nat) (ty:TypeId) (o1 o2 o3 o4 o5:Oper) (h1:tP o1=some (t,d1)) (h2:tP o2=some (u,d2)) (h3:K3 o3=some (ty,d2,d3)) (h4:K4 o4=some (ty,d1,d3,d4)) (h5:K2 o5=some (d4,t))
   (q1:∀d∈[u,d1,d2,d3,d4],t≠d) (q2:∀d∈[d1,d2,d3,d4],u≠d) (q3:∀d∈[d2,d3,d4],d1≠d) (q4:∀d∈[d3,d4],d2≠d) (q5:∀d∈[d4],d3≠d):uU P (.push t u d1 d2 d3 d4 ty) [o1,o2,o3,o4,o5]
 |tO (t i j d1 d2 d3 d4 d5 d6:Nat) (pR mP pS:TypeId) (b:Bool) (o1 o2 o3 o4 o5 o6 o7:Oper) (h1:tP o1=some (t,d1)) (h2:tP o2=some (i,d2)) (h3:Ec o3=some (pR,d1,d2,d3)) (h4:K5 o4=some (mP,d3,d4)) (h5:tP o5=some (j,d5)) (h6:Ec o6=some (mP,d4,d5,d6)) (h7:K6 o7=some (pS,d6,b))
   (q1:∀d∈[d1,d2,d3,d4,d5,d6],t≠d) (q2:∀d∈[d1,d2,d3,d4,d5,d6],i≠d) (q3:∀d∈[d1,d2,d3,d4,d5,d6],j≠d) (q4:∀d∈[d2,d3,d4,d5,d6],d1≠d) (q5:∀d∈[d3,d4,d5,d6],d2≠d) (q6:∀d∈[d4,d5,d6],d3≠d) (q7:∀d∈[d5,d6],d4≠d) (q8:∀d∈[d6],d5≠d):
   uU P (.tO t i j d1 d2 d3 d4 d5 d6 pR mP pS b) [o1,o2,o3,o4,o5,o6,o7]
theorem rS{t:Nat}{l:List Nat}(h:distinct t l=true):∀d∈l,t≠d:=fun d hd=>by
 have:=List.all_eq_true.1 h d hd
 simp only[Bool.not_eq_true']at this
 exact Nat.ne_of_beq_eq_false this
theorem wk{o:Oper}{t d:Nat}(h:tP o=some (t,d)):o.op=.move (.tmp t)∧o.dst=some d∧o.guard=none:=by
 unfold tP at h
 split at h
 ·rename_i h1 h2 h3;cases h;exact⟨h1,h2,h3⟩
 ·cases h
theorem Vk{o:Oper}{t d:Nat}(h:K2 o=some (t,d)):o.op=.assign (.tmp t)∧o.dst=some d∧o.guard=none:=by
 unfold K2 at h
 split at h
 ·rename_i h1 h2 h3;cases h;exact⟨h1,h2,h3⟩
 ·cases h
theorem Vl{o:Oper}{ty t d:Nat}(h:K3 o=some (ty,t,d)):o.op=.buildSlice ty 1 #[(0,.tmp t)]∧o.dst=some d∧o.guard=none:=by
 unfold K3 at h
 split at h
 ·rename_i nE n ps d' h1 h2 h3
  split at h
  ·rename_i t' hp
   cases h
   have:ps= #[(0,.tmp t)]:=Array.ext' (by rw[hp])
   subst this
   exact⟨h1,h2,h3⟩
  ·cases h
 ·cases h
theorem Vm{o:Oper}{ty x y d:Nat}(h:K4 o=some (ty,x,y,d)):∃c,o.op=.call c∧c.callee=.builtin .append ∧c.args= #[.tmp x,.tmp y]∧c.argTypes= #[ty,ty]∧o.dst=some d∧o.guard=none:=by
 unfold K4 at h
 split at h
 ·rename_i c d' h1 h2 h3
  split at h
  ·rename_i x' y' t u k1 k2 k3
   cases hb:Nat.beq t u with
   |false=>rw[hb]at h;cases h
   |true=>
    rw[hb]at h
    have hb:=Nat.eq_of_beq_eq_true hb
    subst hb
    cases h
    exact⟨c,h1,k1,Array.ext' (by rw[k2]),Array.ext' (by rw[k3]),h2,h3⟩
  ·cases h
 ·cases h
theorem Jr{o:Oper}{ty x i d:Nat}(h:Ec o=some (ty,x,i,d)):o.op=.indexAddr ty (.tmp x) (.tmp i)∧o.dst=some d∧o.guard=none:=by
 unfold Ec at h
 split at h
 ·rename_i h1 h2 h3;cases h;exact⟨h1,h2,h3⟩
 ·cases h
theorem Vn{o:Oper}{ty x d:Nat}(h:K5 o=some (ty,x,d)):o.op=.load ty (.tmp x)∧o.dst=some d∧o.guard=none:=by
 unfold K5 at h
 split at h
 ·rename_i h1 h2 h3;cases h;exact⟨h1,h2,h3⟩
 ·cases h
theorem Vo{o:Oper}{ty x:Nat}{b:Bool}(h:K6 o=some (ty,x,b)):o.op=.store ty (.tmp x) (.const (.bool b))∧o.dst=none∧o.guard=none:=by
 unfold K6 at h
 split at h
 ·rename_i h1 h2 h3;cases h;exact⟨h1,h2,h3⟩
 ·cases h
theorem V7{α:Type}{b:Bool}{x y:α}(h:(bif b then some x else none)=some y):b=true∧x=y:=by
 cases b
 ·cases h
 ·exact⟨rfl,Option.some.inj h⟩
theorem ab0{o1 o2 o3 o4 o5:Oper}{s:Spec}(h:PR o1 o2 o3 o4 o5=some s):uU P s [o1,o2,o3,o4,o5]:=by
 unfold PR at h
 split at h
 ·rename_i t d1 u d2 ty x2 d3 nE x1 x3 d4 x4 t' h1 h2 h3 h4 h5
  obtain⟨hb,hs⟩:=V7 h
  subst hs
  simp only[Bool.and_eq_true]at hb
  obtain⟨⟨⟨⟨⟨⟨⟨⟨⟨⟨b1,b2⟩,b3⟩,b4⟩,b5⟩,b6⟩,b7⟩,b8⟩,b9⟩,RM⟩,RN⟩:=hb
  have e1:=Nat.eq_of_beq_eq_true b1
  have e2:=Nat.eq_of_beq_eq_true b2
  have e3:=Nat.eq_of_beq_eq_true b3
  have e4:=Nat.eq_of_beq_eq_true b4
  have e5:=Nat.eq_of_beq_eq_true b5
  have e6:=Nat.eq_of_beq_eq_true b6
  subst e1 e2 e3 e4 e5 e6
  exact .push _ _ _ _ _ _ _ _ _ _ _ _ h1 h2 h3 h4 h5 (rS b7) (rS b8) (rS b9) (rS RM) (rS RN)
 ·cases h
theorem ab1{o1 o2 o3 o4 o5 o6 o7:Oper}{s:Spec}(h:PS o1 o2 o3 o4 o5 o6 o7=some s):uU P s [o1,o2,o3,o4,o5,o6,o7]:=by
 unfold PS at h
 split at h
 ·rename_i t d1 i d2 pR x1 x2 d3 mP x3 d4 j d5 Zg x4 x5 d6 pS x6 b h1 h2 h3 h4 h5 h6 h7
  obtain⟨hb,hs⟩:=V7 h
  subst hs
  simp only[Bool.and_eq_true]at hb
  obtain⟨⟨⟨⟨⟨⟨⟨⟨⟨⟨⟨⟨⟨⟨b1,b2⟩,b3⟩,b4⟩,b5⟩,b6⟩,b7⟩,b8⟩,b9⟩,RM⟩,RN⟩,b12⟩,b13⟩,b14⟩,b15⟩:=hb
  have e1:=Nat.eq_of_beq_eq_true b1
  have e2:=Nat.eq_of_beq_eq_true b2
  have e3:=Nat.eq_of_beq_eq_true b3
  have e4:=Nat.eq_of_beq_eq_true b4
  have e5:=Nat.eq_of_beq_eq_true b5
  have e6:=Nat.eq_of_beq_eq_true b6
  have e7:=Nat.eq_of_beq_eq_true b7
  subst e1 e2 e3 e4 e5 e6 e7
  exact .tO _ _ _ _ _ _ _ _ _ _ _ _ _ _ _ _ _ _ _ _ h1 h2 h3 h4 h5 h6 h7 (rS b8) (rS b9) (rS RM) (rS RN) (rS b12) (rS b13) (rS b14) (rS b15)
 ·cases h
theorem Nk{pu draw:Bool}{ops:List Oper}{s:Spec}(h:yu P pu draw ops=some s):draw=false∧uU P s ops:=by
 unfold yu at h
 cases draw with
 |true=>cases h
 |false=>
  refine⟨rfl,?_⟩
  simp only[cond_false]at h
  split at h
  ·rename_i o1 o2
   split at h
   ·rename_i t d c h1 e1 g1 h2 e2 g2
    split at h
    ·rename_i d' ty hc ha ht
     cases hb:(Nat.beq d d'&& !(Nat.beq t d))with
     |false=>rw[hb]at h;cases h
     |true=>
      rw[hb]at h
      cases h
      simp only[Bool.and_eq_true,Bool.not_eq_true']at hb
      have hd:=Nat.eq_of_beq_eq_true hb.1
      subst hd
      exact .zm t d ty o1 o2 c h1 e1 g1 h2 e2 g2 hc ha ht (Nat.ne_of_beq_eq_false hb.2)
    ·cases h
   ·rename_i t d c u h1 e1 g1 h2 e2 g2
    split at h
    ·rename_i f d' hc ha
     cases hb:(Nat.beq (arity P o2.type) 0&&(Nat.beq d d'&& !(Nat.beq t d)&& !(Nat.beq u d)&& !(Nat.beq u t)))with
     |false=>rw[hb]at h;cases h
     |true=>
      rw[hb]at h
      cases h
      simp only[Bool.and_eq_true,Bool.not_eq_true']at hb
      obtain⟨b0,⟨⟨b1,b2⟩,b3⟩,b4⟩:=hb
      have hd:=Nat.eq_of_beq_eq_true b1
      subst hd
      exact .yR t d f u o1 o2 c h1 e1 g1 h2 e2 g2 hc ha (Nat.eq_of_beq_eq_true b0) (Nat.ne_of_beq_eq_false b2) (Nat.ne_of_beq_eq_false b3) (Nat.ne_of_beq_eq_false b4)
    ·cases h
   ·cases h
  ·rename_i o1 o2 o3
   split at h
   ·rename_i t d1 ty Rj d2 Ct t' h1 e1 g1 h2 e2 g2 h3 e3 g3
    cases hb:(Nat.beq d1 Rj&&Nat.beq d2 Ct&&Nat.beq t t'&& !(Nat.beq t d1)&& !(Nat.beq t d2)&& !(Nat.beq d1 d2))with
    |false=>rw[hb]at h;cases h
    |true=>
     rw[hb]at h
     cases h
     simp only[Bool.and_eq_true,Bool.not_eq_true']at hb
     obtain⟨⟨⟨⟨⟨b1,b2⟩,b3⟩,b4⟩,b5⟩,b6⟩:=hb
     have zA:=Nat.eq_of_beq_eq_true b1
     have ET:=Nat.eq_of_beq_eq_true b2
     have hd3:=Nat.eq_of_beq_eq_true b3
     subst zA ET hd3
     exact .cut t d1 d2 ty o1 o2 o3 h1 e1 g1 h2 e2 g2 h3 e3 g3 (Nat.ne_of_beq_eq_false b4) (Nat.ne_of_beq_eq_false b5) (Nat.ne_of_beq_eq_false b6)
   ·rename_i t d t2 d2 c u h1 e1 g1 h2 e2 g2 h3 e3 g3
    split at h
    ·rename_i f d' Ct hc ha
     cases hb:(Nat.beq (arity P o3.type) 0&&(Nat.beq d d'&&Nat.beq d2 Ct&& !(Nat.beq t d)&& !(Nat.beq u d)&& !(Nat.beq u t)&& !(Nat.beq d2 d)&& !(Nat.beq d2 t)&& !(Nat.beq t2 d)))with
     |false=>rw[hb]at h;cases h
     |true=>
      rw[hb]at h
      cases h
      simp only[Bool.and_eq_true,Bool.not_eq_true']at hb
      obtain⟨b0,⟨⟨⟨⟨⟨⟨b1,b1'⟩,b2⟩,b3⟩,b4⟩,b5⟩,b6⟩,b7⟩:=hb
      have hd:=Nat.eq_of_beq_eq_true b1
      have kG:=Nat.eq_of_beq_eq_true b1'
      subst hd kG
      exact .yF t d t2 d2 f u o1 o2 o3 c h1 e1 g1 h2 e2 g2 h3 e3 g3 hc ha (Nat.eq_of_beq_eq_true b0) (Nat.ne_of_beq_eq_false b2) (Nat.ne_of_beq_eq_false b3) (Nat.ne_of_beq_eq_false b4) (Nat.ne_of_beq_eq_false b5) (Nat.ne_of_beq_eq_false b6) (Nat.ne_of_beq_eq_false b7)
    ·cases h
   ·cases h
  ·cases pu with
   |true=>exact ab0 h
   |false=>cases h
  ·cases pu with
   |true=>exact ab1 h
   |false=>cases h
  ·cases h
theorem pC{a:Act}{d:Nat}{v:Value}(h:d<a.tmps.size):(a.put (some d) v).eval (.tmp d)=v:=by
 show(a.put (some d) v).tmps.getD d undef=v
 rw[Od a (some d) v d h,if_pos rfl]
theorem nn{b:Bool}{A:Prop}(h:cond b A False):b=true∧A:=by cases b;exact h.elim;exact⟨rfl,h⟩
theorem afF{St:Nat→Nat→Prop}{base:Nat}{O:Nat→Nat→Nat→Prop}{ty:TypeId}{x y:SV}{v:Value}(hr:aP w St base O x v)(hy:yT P ty x=some y):
  ∃v2,(Instr.sliceAt ty v none (some (.int .i64 0)) none).run P w=.ok v2 w∧aP w St base O y v2:=by
 unfold yT at hy
 split at hy
 ·rename_i e' he
  have hu:=zY he
  split at hy
  ·rename_i sz aM
   split at hy
   ·rename_i s L
    cases hy
    obtain⟨hv,hL⟩:=hr.data.WY
    subst hv
    refine⟨.slice none 0 0,?_,.d _ _ _ (.jU _)⟩
    simp[Instr.sliceAt,run_underlying hu,Instr.slice,Instr.sliceBounds,Instr.sliceBound,asIntOf,j9 aM]
   ·rename_i s L
    split at hy
    ·rename_i hs
     subst hs
     cases hy
     cases hr with
     |aZ _ _ _ gg cap vs bM hm Zp hf ho aR hc=>
      refine⟨.slice (some ⟨gg,0,none⟩) 0 cap,?_,?_⟩
      ·have:=pB gg 0 0
       simp[Instr.sliceAt,run_underlying hu,Instr.slice,Instr.sliceBounds,Instr.sliceBound,asIntOf,j9 aM,this]
      ·exact .aZ O s [] gg cap vs (Nat.zero_le _) hm (fun x hx=>by cases hx) (fun x hx=>by cases hx) ho (fun o bQ=>by simp at bQ) (fun i x j c hx=>by simp at hx)
    ·cases hy
   ·cases hy
  ·cases hy
 ·cases hy
theorem On(hI:Inv gl w0 ar e a w g){t d:Nat}:Inv gl w0 ar ⟨(e.ak.set t (e.ak.getD t (.v .undef)).aa).set d (e.ak.getD t (.v .undef)),e.boxes⟩ (a.put (some d) (a.tmps.getD t undef)) w (g.nJ t (fun j=>.s d j)):=by
 have:=hI.hand (NO e t (some d)) (Ext.nJ t (fun j=>.s d j) _ (fun j=>⟨t,j,rfl,.inl rfl⟩)) (Below.refl _ _) (s:=e.ak.getD t (.v .undef)) (v:=a.tmps.getD t undef) (dst:=some d) (g':=g.nJ t (fun j=>.s d j)) (fun d' hd=>?_) rfl (fun _ _=>rfl) (fun b o' aY=>hI.cW b o' aY)
 ·exact this
 ·cases hd
  exact(kb hI t).mono (fun _ _ h=>⟨h,.refl _ _ _⟩) (fun _ _ _=>rfl) (fun _ _ h=>h) (.refl _) (fun j b a' c ho=>⟨OP (q:=fun j=>.s d j) ho,.refl _ _ _⟩)
theorem aea{a:Act}{t:Nat}{v:Value}(h:v=a.tmps.getD t undef):a.put (some t) v=a:=by
 subst h
 simp only[Act.put]
 have:a.tmps.setIfInBounds t (a.tmps.getD t undef)=a.tmps:=by
  apply Array.ext_getElem?
  intro i
  rw[Array.getElem?_setIfInBounds]
  split
  ·rename_i h
   subst h
   split
   ·rename_i hl;simp[hl]
   ·rename_i hl;simp[Array.getElem?_eq_none (by omega:a.tmps.size≤t)]
  ·rfl
 rw[this]
theorem V8(hI:Inv gl w0 ar e a w g){t d:Nat}{bk:SV}(hd:e.ak.getD d (.v .undef)=.v bk)(he:a.tmps.getD d undef=a.tmps.getD t undef):
  Inv gl w0 ar ⟨(e.ak.set d (.v (Ab.aa bk))).set t (.v bk),e.boxes⟩ a w (g.nJ d (fun j=>.s t j)):=by
 have h1:=On hI (t:=d) (d:=t)
 rw[hd,aea he]at h1
 exact h1
theorem V9(hI:Inv gl w0 ar e a w g){ops:List Oper}{s:Spec}{K:Env→Prop}(hs:uU P s ops)(h:gG P (aG P gl) e K s):ic P ops a w (fun a' w'=>∃e' g',Inv gl w0 ar e' a' w' g'∧K e'):=by
 cases hs with
 |zm t d ty o1 o2 c h1 d1 g1 h2 d2 g2 hc ha ht bf=>
  simp only[gG]at h
  split at h
  ·rename_i x hx
   obtain⟨aO,h⟩:=nn h
   have aO:=Nat.lt_of_succ_le (Nat.le_of_ble_eq_true aO)
   obtain⟨y,hy,hk⟩:=aN h
   let v:=a.tmps.getD t undef
   have dn:Inv gl w0 ar ⟨e.ak.set d (.v .undef),e.boxes⟩ (a.put (some d) v) w g:=by
    have:=hI.value (dst:=some d) (s:=.v .undef) (v:=v) (.v _ _ _ (.undef _ _))
    exact this
   have jb:(e.ak.set d (.v .undef)).getD t (.v .undef)=.v x:=by
    rw[List.getD_eq_getElem?_getD,List.getElem?_set_ne (fun hh=>bf hh.symm),←List.getD_eq_getElem?_getD];exact hx
   obtain⟨w',bq,cq⟩:=acY (P:=P) dn jb hy o2.type
   have oL:(a.put (some d) v).tmps.getD t undef=v:=jv bf
   rw[oL]at bq
   have hdv:(a.put (some d) v).tmps.getD d undef=v:=by
    exact pC (by rw[hI.size];exact aO)
   refine ic.val (v:=v) (w1:=w) g1 (fun c hc=>by rw[h1]at hc;cases hc) hI.defers (by simp[execOp,h1,Act.eval,v]) (ic.val (v:=.tuple #[]) (w1:=w') g2 (fun c hc=>by rw[h2]at hc;cases hc) (by rw[d1];exact dn.defers) ?_ ⟨_,g,?_,hk⟩)
   ·rw[d1]
    have e1:c.args.map (a.put (some d) v).eval = #[v]:=by
     apply Array.ext'
     rw[Array.toList_map,ha]
     show [(a.put (some d) v).tmps.getD d undef]=_
     rw[hdv]
    have e2:c.argTypes= #[ty]:=by apply Array.ext';rw[ht]
    simp[execOp,h2,resolve,hc,invoke,builtin,e1,e2,bq]
   ·rw[d1,d2]
    exact cq
  ·exact h.elim
 |cut t d1 d2 ty o1 o2 o3 h1 e1 g1 h2 e2 g2 h3 e3 g3 n1 n2 n3=>
  simp only[gG]at h
  split at h
  ·rename_i x hx
   obtain⟨aO,h⟩:=nn h
   simp only[Bool.and_eq_true]at aO
   have Ld:=Nat.le_of_ble_eq_true aO.1
   have Hf:=Nat.le_of_ble_eq_true aO.2
   obtain⟨y,hy,hk⟩:=aN h
   let v:=a.tmps.getD t undef
   have hr:aP w g.St w0.heap.size (fO w0.heap.size w g t 0) x v:=by
    have:=kb hI t
    rw[hx]at this
    exact this.jV
   obtain⟨v2,bq,bw⟩:=afF (P:=P) hr hy
   have dn:Inv gl w0 ar ⟨e.ak.set d1 (.v .undef),e.boxes⟩ (a.put (some d1) v) w g:=hI.value (dst:=some d1) (s:=.v .undef) (v:=v) (.v _ _ _ (.undef _ _))
   have cq:Inv gl w0 ar ⟨(e.ak.set d1 (.v .undef)).set d2 (.v .undef),e.boxes⟩ ((a.put (some d1) v).put (some d2) v2) w g:=dn.value (dst:=some d2) (s:=.v .undef) (v:=v2) (.v _ _ _ (.undef _ _))
   have gm:Inv gl w0 ar ⟨((e.ak.set d1 (.v .undef)).set d2 (.v .undef)).set t (.v y),e.boxes⟩ (((a.put (some d1) v).put (some d2) v2).put (some t) v2) w g:=by
    have:=cq.stepG (dst:=some t) (s:=.v y) (v:=v2) (w':=w) (g':=g) (lost:=fun _=>False) (ak:=(e.ak.set d1 (.v .undef)).set d2 (.v .undef)) (aF:=e.boxes) (Ext.refl _ _ _) (Below.refl _ _) rfl (fun i x hx _=>cq.ak i x hx) (fun d hd=>by cases hd;exact .v _ _ _ bw) cq.fQ cq.boxes cq.nodup cq.dF cq.cW
    exact this
   refine ic.val (v:=v) (w1:=w) g1 (fun c hc=>by rw[h1]at hc;cases hc) hI.defers (by simp[execOp,h1,Act.eval,v]) (ic.val (v:=v2) (w1:=w) g2 (fun c hc=>by rw[h2]at hc;cases hc) (by rw[e1];exact dn.defers) ?_ (ic.val (v:=v2) (w1:=w) g3 (fun c hc=>by rw[h3]at hc;cases hc) (by rw[e1,e2];exact cq.defers) ?_ ⟨_,g,?_,hk⟩))
   ·rw[e1]
    have:(a.put (some d1) v).eval (.tmp d1)=v:=pC (by rw[hI.size];exact Ld)
    simp only[execOp,h2,this,Option.map_some,Option.map_none]
    have hz:(a.put (some d1) v).eval (.const (.int .i64 0))=.int .i64 0:=rfl
    rw[hz]
    simp[bq]
   ·rw[e1,e2]
    have:((a.put (some d1) v).put (some d2) v2).eval (.tmp d2)=v2:=pC (by rw[rW,hI.size];exact Hf)
    simp[execOp,h3,this]
   ·rw[e1,e2,e3];exact gm
  ·exact h.elim
 |yR t d f u o1 o2 c h1 d1 g1 h2 d2 g2 hc ha h0 n1 n2 n3=>
  simp only[gG]at h
  split at h
  ·rename_i x hx
   obtain⟨aO,bk,hC,ui,hk⟩:=nn h
   have aO:=Nat.lt_of_succ_le (Nat.le_of_ble_eq_true aO)
   let v:=a.tmps.getD t undef
   have dn:Inv gl w0 ar ⟨(e.ak.set t (.v (Ab.aa x))).set d (.v x),e.boxes⟩ (a.put (some d) v) w (g.nJ t (fun j=>.s d j)):=by
    have:=On hI (t:=t) (d:=d)
    rw[hx]at this
    exact this
   refine ic.val (v:=v) (w1:=w) g1 (fun c hc=>by rw[h1]at hc;cases hc) hI.defers (by simp[execOp,h1,Act.eval,v]) ⟨g2,(fun c hc=>by rw[h2]at hc;cases hc),fun next Q hn=>?_⟩
   rw[d1]at hn ⊢
   have CG:((e.ak.set t (.v (Ab.aa x))).set d (.v x)).getD d (.v .undef)=.v x:=by
    rw[List.getD_eq_getElem?_getD,List.getElem?_set_self (by simpa using aO)];rfl
   refine NN dn h2 hc (t:=d) (p:=0) (by rw[ha];rfl) (f':=f) rfl (y:=x) CG (n:=0) (k:=fun e'=>e'=⟨cS (((e.ak.set t (.v (Ab.aa x))).set d (.v x)).set d (.v bk)) o2.dst (.t []),e.boxes⟩) ⟨bk,?_,ui,rfl⟩ next Q fun e' v' w' g' bt CI=>?_
   ·rw[ha];exact hC
   ·subst CI
    refine hn v' w' (by rw[put_defers];exact dn.defers) ⟨_,_,V8 bt (t:=t) (d:=d) (bk:=bk) ?_ ?_,?_⟩
    ·rw[d2]
     show((((e.ak.set t (.v (Ab.aa x))).set d (.v x)).set d (.v bk)).set u (.t [])).getD d (.v .undef)=.v bk
     rw[dk n2,List.getD_eq_getElem?_getD,List.getElem?_set_self (by simpa using aO)];rfl
    ·rw[d2,jv (fun hh=>n2 hh.symm),jv (fun hh=>n3 hh.symm),jv n1]
     exact pC (by rw[hI.size];exact aO)
    ·rw[d2];exact hk
  ·exact h.elim
 |yF t d t2 e2 f u o1 o2 o3 c h1 d1 g1 h2 d2 g2 h3 d3 g3 hc ha h0 n1 n2 n3 n4 n5 n6=>
  simp only[gG]at h
  split at h
  ·rename_i x hx
   obtain⟨aO,bk,hC,ui,hk⟩:=nn h
   simp only[Bool.and_eq_true,Bool.not_eq_true']at aO
   obtain⟨⟨aO,Hf⟩,n7⟩:=aO
   have aO:=Nat.lt_of_succ_le (Nat.le_of_ble_eq_true aO)
   have Hf:=Nat.lt_of_succ_le (Nat.le_of_ble_eq_true Hf)
   have n7:=Nat.ne_of_beq_eq_false n7
   let v:=a.tmps.getD t undef
   have dn:Inv gl w0 ar ⟨(e.ak.set t (.v (Ab.aa x))).set d (.v x),e.boxes⟩ (a.put (some d) v) w (g.nJ t (fun j=>.s d j)):=by
    have:=On hI (t:=t) (d:=d)
    rw[hx]at this
    exact this
   have lR:((e.ak.set t (.v (Ab.aa x))).set d (.v x)).getD t2 (.v .undef)=e.ak.getD t2 (.v .undef):=by
    rw[dk (fun hh=>n6 hh.symm),dk (fun hh=>n7 hh.symm)]
   have cq:Inv gl w0 ar ⟨((e.ak.set t (.v (Ab.aa x))).set d (.v x)).set e2 (e.ak.getD t2 (.v .undef)).aa,e.boxes⟩ ((a.put (some d) v).put (some e2) ((a.put (some d) v).eval (.tmp t2))) w (g.nJ t (fun j=>.s d j)):=by
    have hr:=(kb dn t2).aa (O':=fun _ _ _ _=>False)
    have:=dn.value (dst:=some e2) hr
    rw[lR]at this
    exact this
   refine ic.val (v:=v) (w1:=w) g1 (fun c hc=>by rw[h1]at hc;cases hc) hI.defers (by simp[execOp,h1,Act.eval,v]) (ic.val (v:=(a.put (some d) v).eval (.tmp t2)) (w1:=w) g2 (fun c hc=>by rw[h2]at hc;cases hc) (by rw[d1];exact dn.defers) (by rw[d1];simp[execOp,h2]) ⟨g3,(fun c hc=>by rw[h3]at hc;cases hc),fun next Q hn=>?_⟩)
   rw[d1,d2]at hn ⊢
   have CG:(((e.ak.set t (.v (Ab.aa x))).set d (.v x)).set e2 (e.ak.getD t2 (.v .undef)).aa).getD d (.v .undef)=.v x:=by
    rw[dk n4,List.getD_eq_getElem?_getD,List.getElem?_set_self (by simpa using aO)];rfl
   have EU:(((e.ak.set t (.v (Ab.aa x))).set d (.v x)).set e2 (e.ak.getD t2 (.v .undef)).aa).getD e2 (.v .undef)=(e.ak.getD t2 (.v .undef)).aa :=by
    rw[List.getD_eq_getElem?_getD,List.getElem?_set_self (by simpa using Hf)];rfl
   refine NN cq h3 hc (t:=d) (p:=0) (by rw[ha];rfl) (f':=f) rfl (y:=x) CG (n:=0) (k:=fun e'=>e'=⟨cS ((((e.ak.set t (.v (Ab.aa x))).set d (.v x)).set e2 (e.ak.getD t2 (.v .undef)).aa).set d (.v bk)) o3.dst (.t []),e.boxes⟩) ⟨bk,?_,ui,rfl⟩ next Q fun e' v' w' g' bt CI=>?_
   ·rw[ha]
    have:∀s:Slot,s.aa.aa=s.aa:=fun s=>by cases s<;>simp[Slot.aa,ad9]
    simp only[jS,Ab.bp,EU,this,List.set_cons_zero]
    exact hC
   ·subst CI
    refine hn v' w' (by rw[put_defers];exact cq.defers) ⟨_,_,V8 bt (t:=t) (d:=d) (bk:=bk) ?_ ?_,?_⟩
    ·rw[d3]
     show(((((e.ak.set t (.v (Ab.aa x))).set d (.v x)).set e2 (e.ak.getD t2 (.v .undef)).aa).set d (.v bk)).set u (.t [])).getD d (.v .undef)=.v bk
     rw[dk n2,List.getD_eq_getElem?_getD,List.getElem?_set_self (by simpa using aO)];rfl
    ·rw[d3,jv (fun hh=>n2 hh.symm),jv (fun hh=>n3 hh.symm),jv (fun hh=>n4 hh.symm),jv (fun hh=>n5 hh.symm),jv n1]
     exact pC (by rw[hI.size];exact aO)
    ·rw[d3];exact hk
  ·exact h.elim
 |push t u d1 d2 d3 d4 ty o1 o2 o3 o4 o5 h1 h2 h3 h4 h5 q1 q2 q3 q4 q5=>
  simp only[gG]at h
  split at h
  ·rename_i x y hx hy
   obtain⟨aO,h⟩:=nn h
   obtain⟨n,hn,h⟩:=aN h
   unfold Ar at h
   obtain⟨r,hr,hb,Bc,hk⟩:=aN h
   have mh:∀d∈[d1,d2,d3,d4],d<a.tmps.size:=fun d hd=>by
    rw[hI.size];exact Nat.lt_of_succ_le (Nat.le_of_ble_eq_true (List.all_eq_true.1 aO d hd))
   simp only[List.forall_mem_cons,List.not_mem_nil,false_implies,implies_true,and_true]at q1 q2 q3 q4 q5 mh
   obtain⟨m1,m2,m3⟩:=wk h1
   obtain⟨m4,m5,m6⟩:=wk h2
   obtain⟨m7,m8,m9⟩:=Vl h3
   obtain⟨c,CJ,EV,HU,EW,CL,HW⟩:=Vm h4
   obtain⟨CM,CN,HX⟩:=Vk h5
   obtain⟨w1,akK,v4,w2,akL,fin⟩:=ad8 (P:=P) hI q1.1 hx hy hr hn hb Bc o4.type
   have I1:Inv gl w0 ar ⟨e.ak.set d1 (.v .undef),e.boxes⟩ (a.put (some d1) (a.tmps.getD t undef)) w g:=hI.value (dst:=some d1) (s:=.v .undef) (v:=a.tmps.getD t undef) (.v _ _ _ (.undef _ _))
   generalize CO:a.tmps.getD t undef=v1 at*
   generalize Be:a.tmps.getD u undef=v2 at*
   have E1:(a.put (some d1) v1).tmps.getD u undef=v2:=by rw[jv q2.1,Be]
   have F1:(a.put (some d1) v1).tmps.getD d1 undef=v1:=pC mh.1
   have S1:(a.put (some d1) v1).tmps.size =a.tmps.size:=rW _ _ _
   generalize RO:a.put (some d1) v1=a1 at*
   have I2:Inv gl w0 ar ⟨(e.ak.set d1 (.v .undef)).set d2 (.v .undef),e.boxes⟩ (a1.put (some d2) v2) w g:=I1.value (dst:=some d2) (s:=.v .undef) (v:=v2) (.v _ _ _ (.undef _ _))
   have E2:(a1.put (some d2) v2).tmps.getD d2 undef=v2:=pC (by rw[S1];exact mh.2.1)
   have F2:(a1.put (some d2) v2).tmps.getD d1 undef=v1:=by rw[jv q3.1,F1]
   have S2:(a1.put (some d2) v2).tmps.size =a.tmps.size:=(rW _ _ _).trans S1
   generalize RP:a1.put (some d2) v2=a2 at*
   generalize hv3:Value.slice (some ⟨w.heap.size,0,none⟩) 1 1=v3 at*
   have I3:Inv gl w0 ar ⟨((e.ak.set d1 (.v .undef)).set d2 (.v .undef)).set d3 (.v .undef),e.boxes⟩ (a2.put (some d3) v3) w g:=I2.value (dst:=some d3) (s:=.v .undef) (v:=v3) (.v _ _ _ (.undef _ _))
   have E3:(a2.put (some d3) v3).tmps.getD d3 undef=v3:=pC (by rw[S2];exact mh.2.2.1)
   have F3:(a2.put (some d3) v3).tmps.getD d1 undef=v1:=by rw[jv q3.2.1,F2]
   have S3:(a2.put (some d3) v3).tmps.size =a.tmps.size:=(rW _ _ _).trans S2
   generalize hA3:a2.put (some d3) v3=a3 at*
   have I4:Inv gl w0 ar ⟨(((e.ak.set d1 (.v .undef)).set d2 (.v .undef)).set d3 (.v .undef)).set d4 (.v .undef),e.boxes⟩ (a3.put (some d4) v4) w g:=I3.value (dst:=some d4) (s:=.v .undef) (v:=v4) (.v _ _ _ (.undef _ _))
   have E4:(a3.put (some d4) v4).tmps.getD d4 undef=v4:=pC (by rw[S3];exact mh.2.2.2)
   generalize hA4:a3.put (some d4) v4=a4 at*
   obtain⟨g2,I5⟩:=fin _ _ I4
   have ev:∀(a:Act)(x:Nat),a.eval (.tmp x)=a.tmps.getD x undef:=fun _ _=>rfl
   refine ic.val (v:=v1) (w1:=w) m3 (fun c hc=>by rw[m1]at hc;cases hc) hI.defers (by simp[execOp,m1,ev,CO]) ?_
   rw[m2,RO]
   refine ic.val (v:=v2) (w1:=w) m6 (fun c hc=>by rw[m4]at hc;cases hc) I1.defers (by simp[execOp,m4,ev,E1]) ?_
   rw[m5,RP]
   refine ic.val (v:=v3) (w1:=w1) m9 (fun c hc=>by rw[m7]at hc;cases hc) I2.defers (by simp[execOp,m7,ev,E2,akK]) ?_
   rw[m8,hA3]
   refine ic.val (v:=v4) (w1:=w2) HW (fun c hc=>by rw[CJ]at hc;cases hc) I3.defers (by simp[execOp,CJ,resolve,EV,invoke,builtin,HU,EW,ev,E3,F3,akL]) ?_
   rw[CL,hA4]
   refine ic.val (v:=v4) (w1:=w2) HX (fun c hc=>by rw[CM]at hc;cases hc) I4.defers (by simp[execOp,CM,ev,E4]) ?_
   rw[CN]
   exact⟨_,g2,I5,hk⟩
  ·exact h.elim
 |tO t i j d1 d2 d3 d4 d5 d6 pR mP pS b o1 o2 o3 o4 o5 o6 o7 h1 h2 h3 h4 h5 h6 h7 q1 q2 q3 q4 q5 q6 q7 q8=>
  simp only[gG]at h
  split at h
  ·rename_i x xi xj hx hxi hxj
   obtain⟨aO,h⟩:=nn h
   simp only[Bool.and_eq_true]at aO
   obtain⟨ej,aO⟩:=aO
   have mh:∀d∈[d1,d2,d3,d4,d5,d6],d<a.tmps.size:=fun d hd=>by
    rw[hI.size];exact Nat.lt_of_succ_le (Nat.le_of_ble_eq_true (List.all_eq_true.1 aO d hd))
   unfold yG at h
   obtain⟨LL,rfl⟩:∃LL,x=.nest LL:=by cases x<;>first|exact⟨_,rfl⟩|exact h.elim
   simp only at h
   obtain⟨ii,CD,h⟩:=aN h
   obtain⟨L,hL,h⟩:=aN h
   obtain⟨jj,L5,hk⟩:=aN h
   simp only[List.forall_mem_cons,List.not_mem_nil,false_implies,implies_true,and_true]at q1 q2 q3 q4 q5 q6 q7 q8 mh
   obtain⟨m1,m2,m3⟩:=wk h1
   obtain⟨m4,m5,m6⟩:=wk h2
   obtain⟨m7,m8,m9⟩:=Jr h3
   obtain⟨CJ,EV,HU⟩:=Vn h4
   obtain⟨EW,CL,HW⟩:=wk h5
   obtain⟨CM,CN,HX⟩:=Jr h6
   obtain⟨RQ,RR,m21⟩:=Vo h7
   obtain⟨e1,e2,he1,he2,z1,z2,z3,z4⟩:∃e1 e2,mJ P pR=some e1∧mJ P mP=some e2∧eu P e1=some 1∧lf P mP=some (false,1)∧eu P e2=some 1∧eu P pS=some 1:=by
    unfold XS at ej
    split at ej
    ·rename_i e1 e2 k1 k2
     split at ej
     ·rename_i k3 k4 k5 k6;exact⟨e1,e2,k1,k2,k3,k4,k5,k6⟩
     ·cases ej
    ·cases ej
   have xE:=zY he1
   have RS:=zY he2
   obtain⟨ki,ni,akM,hi1,A0,hi3⟩:=tu CD
   obtain⟨kj,nj,akN,hj1,rC,hj3⟩:=tu L5
   subst akM akN
   have vi:=(FM hI hxi).int
   have vj:=(FM hI hxj).int
   have kH:jj<L.length:=by omega
   generalize CO:a.tmps.getD t undef=v1 at*
   have ev:∀(a:Act)(x:Nat),a.eval (.tmp x)=a.tmps.getD x undef:=fun _ _=>rfl
   have I1:Inv gl w0 ar ⟨e.ak.set d1 (.v .undef),e.boxes⟩ (a.put (some d1) v1) w g:=hI.value (dst:=some d1) (s:=.v .undef) (v:=v1) (.v _ _ _ (.undef _ _))
   have T1:(a.put (some d1) v1).tmps.getD t undef=v1:=by rw[jv q1.1,CO]
   have X1:(a.put (some d1) v1).tmps.getD i undef=.int ki ni:=by rw[jv q2.1,vi]
   have Y1:(a.put (some d1) v1).tmps.getD j undef=.int kj nj:=by rw[jv q3.1,vj]
   have D1:(a.put (some d1) v1).tmps.getD d1 undef=v1:=pC mh.1
   have S1:(a.put (some d1) v1).tmps.size =a.tmps.size:=rW _ _ _
   generalize RO:a.put (some d1) v1=a1 at*
   have I2:Inv gl w0 ar ⟨(e.ak.set d1 (.v .undef)).set d2 (.v .undef),e.boxes⟩ (a1.put (some d2) (.int ki ni)) w g:=I1.value (dst:=some d2) (s:=.v .undef) (v:=.int ki ni) (.v _ _ _ (.undef _ _))
   have T2:(a1.put (some d2) (.int ki ni)).tmps.getD t undef=v1:=by rw[jv q1.2.1,T1]
   have Y2:(a1.put (some d2) (.int ki ni)).tmps.getD j undef=.int kj nj:=by rw[jv q3.2.1,Y1]
   have D2:(a1.put (some d2) (.int ki ni)).tmps.getD d1 undef=v1:=by rw[jv q4.1,D1]
   have E2:(a1.put (some d2) (.int ki ni)).tmps.getD d2 undef=.int ki ni:=pC (by rw[S1];exact mh.2.1)
   have S2:(a1.put (some d2) (.int ki ni)).tmps.size =a.tmps.size:=(rW _ _ _).trans S1
   generalize RP:a1.put (some d2) (.int ki ni)=a2 at*
   have key:∀(v3 v4 v6:Value),Inv gl w0 ar ⟨(((((e.ak.set d1 (.v .undef)).set d2 (.v .undef)).set d3 (.v .undef)).set d4 (.v .undef)).set d5 (.v .undef)).set d6 (.v .undef),e.boxes⟩ ((((a2.put (some d3) v3).put (some d4) v4).put (some d5) (.int kj nj)).put (some d6) v6) w g∧
     ((((a2.put (some d3) v3).put (some d4) v4).put (some d5) (.int kj nj)).put (some d6) v6).tmps.getD t undef=v1:=fun v3 v4 v6=>by
    have I3:=I2.value (dst:=some d3) (s:=.v .undef) (v:=v3) (.v _ _ _ (.undef _ _))
    have I4:=I3.value (dst:=some d4) (s:=.v .undef) (v:=v4) (.v _ _ _ (.undef _ _))
    have I5:=I4.value (dst:=some d5) (s:=.v .undef) (v:=.int kj nj) (.v _ _ _ (.undef _ _))
    have I6:=I5.value (dst:=some d6) (s:=.v .undef) (v:=v6) (.v _ _ _ (.undef _ _))
    refine⟨I6,?_⟩
    rw[jv q1.2.2.2.2.2,jv q1.2.2.2.2.1,jv q1.2.2.2.1,jv q1.2.2.1,T2]
   have nv:((((((e.ak.set d1 (.v .undef)).set d2 (.v .undef)).set d3 (.v .undef)).set d4 (.v .undef)).set d5 (.v .undef)).set d6 (.v .undef)).getD t (.v .undef)=.v (.nest LL):=by
    rw[dk (fun hh=>q1.2.2.2.2.2 hh.symm),dk (fun hh=>q1.2.2.2.2.1 hh.symm),dk (fun hh=>q1.2.2.2.1 hh.symm),dk (fun hh=>q1.2.2.1 hh.symm),dk (fun hh=>q1.2.1 hh.symm),dk (fun hh=>q1.1 hh.symm)]
    exact hx
   obtain⟨q,cap,bk,cp,cur,te,N1,N2,N3,N4,_⟩:=(key undef undef undef).1.tO nv hL kH b
   rw[(key undef undef undef).2]at N1
   obtain⟨q',am0,bk',cp',iW,te',N1',N2',N3',N4',N5⟩:=(key (.pointer (some ⟨q,ii,none⟩)) (.slice (some ⟨bk,0,none⟩) L.length cp) (.pointer (some ⟨bk,jj,none⟩))).1.tO nv hL kH b
   rw[(key _ _ _).2,N1]at N1'
   cases N1'
   rw[N2]at N2'
   cases N2'
   rw[N3]at N3'
   cases N3'
   refine ic.val (v:=v1) (w1:=w) m3 (fun c hc=>by rw[m1]at hc;cases hc) hI.defers (by simp[execOp,m1,ev,CO]) ?_
   rw[m2,RO]
   refine ic.val (v:=.int ki ni) (w1:=w) m6 (fun c hc=>by rw[m4]at hc;cases hc) I1.defers (by simp[execOp,m4,ev,X1]) ?_
   rw[m5,RP]
   have akO:ni.toNat=ii:=by omega
   have akP:nj.toNat=jj:=by omega
   have I3:=I2.value (dst:=some d3) (s:=.v .undef) (v:=.pointer (some ⟨q,ii,none⟩)) (.v _ _ _ (.undef _ _))
   refine ic.val (v:=.pointer (some ⟨q,ii,none⟩)) (w1:=w) m9 (fun c hc=>by rw[m7]at hc;cases hc) I2.defers ?_ ?_
   ·have:=pB q 0 (ii*1)
    rw[Nat.zero_add,Nat.mul_one]at this
    simp[execOp,m7,Instr.indexAt,ev,E2,D2,asIntOf,run_underlying xE,N1,hi1,A0,j9 z1,akO,this]
   rw[m8]
   have Y3:(a2.put (some d3) (.pointer (some ⟨q,ii,none⟩))).tmps.getD j undef=.int kj nj:=by rw[jv q3.2.2.1,Y2]
   have E3:(a2.put (some d3) (.pointer (some ⟨q,ii,none⟩))).tmps.getD d3 undef=.pointer (some ⟨q,ii,none⟩):=pC (by rw[S2];exact mh.2.2.1)
   have S3:(a2.put (some d3) (.pointer (some ⟨q,ii,none⟩))).tmps.size =a.tmps.size:=(rW _ _ _).trans S2
   generalize hA3:a2.put (some d3) (.pointer (some ⟨q,ii,none⟩))=a3 at*
   have I4:=I3.value (dst:=some d4) (s:=.v .undef) (v:=.slice (some ⟨bk,0,none⟩) L.length cp) (.v _ _ _ (.undef _ _))
   refine ic.val (v:=.slice (some ⟨bk,0,none⟩) L.length cp) (w1:=w) HU (fun c hc=>by rw[CJ]at hc;cases hc) I3.defers ?_ ?_
   ·have hl:=zV (w:=w) z2 q ii (fun _=>.slice (some ⟨bk,0,none⟩) L.length cp) (fun j' oG=>by
     simp at oG;subst oG
     exact N2)
    simp only[Bool.false_eq_true,if_false]at hl
    simp[execOp,CJ,Instr.loadAt,Instr.sureAddr,ev,E3,hl]
   rw[EV]
   have Y4:(a3.put (some d4) (.slice (some ⟨bk,0,none⟩) L.length cp)).tmps.getD j undef=.int kj nj:=by rw[jv q3.2.2.2.1,Y3]
   have E4:(a3.put (some d4) (.slice (some ⟨bk,0,none⟩) L.length cp)).tmps.getD d4 undef=.slice (some ⟨bk,0,none⟩) L.length cp:=pC (by rw[S3];exact mh.2.2.2.1)
   have S4:(a3.put (some d4) (.slice (some ⟨bk,0,none⟩) L.length cp)).tmps.size =a.tmps.size:=(rW _ _ _).trans S3
   generalize hA4:a3.put (some d4) (.slice (some ⟨bk,0,none⟩) L.length cp)=a4 at*
   have I5:=I4.value (dst:=some d5) (s:=.v .undef) (v:=.int kj nj) (.v _ _ _ (.undef _ _))
   refine ic.val (v:=.int kj nj) (w1:=w) HW (fun c hc=>by rw[EW]at hc;cases hc) I4.defers (by simp[execOp,EW,ev,Y4]) ?_
   rw[CL]
   have E5:(a4.put (some d5) (.int kj nj)).tmps.getD d5 undef=.int kj nj:=pC (by rw[S4];exact mh.2.2.2.2.1)
   have F5:(a4.put (some d5) (.int kj nj)).tmps.getD d4 undef=.slice (some ⟨bk,0,none⟩) L.length cp:=by rw[jv q7.1,E4]
   have S5:(a4.put (some d5) (.int kj nj)).tmps.size =a.tmps.size:=(rW _ _ _).trans S4
   generalize hA5:a4.put (some d5) (.int kj nj)=a5 at*
   have I6:=I5.value (dst:=some d6) (s:=.v .undef) (v:=.pointer (some ⟨bk,jj,none⟩)) (.v _ _ _ (.undef _ _))
   refine ic.val (v:=.pointer (some ⟨bk,jj,none⟩)) (w1:=w) HX (fun c hc=>by rw[CM]at hc;cases hc) I5.defers ?_ ?_
   ·have:=pB bk 0 (jj*1)
    rw[Nat.zero_add,Nat.mul_one]at this
    simp[execOp,CM,Instr.indexAt,ev,E5,F5,asIntOf,run_underlying RS,hj1,rC,j9 z3,akP,this]
   rw[CN]
   have E6:(a5.put (some d6) (.pointer (some ⟨bk,jj,none⟩))).tmps.getD d6 undef=.pointer (some ⟨bk,jj,none⟩):=pC (by rw[S5];exact mh.2.2.2.2.2)
   generalize hA6:a5.put (some d6) (.pointer (some ⟨bk,jj,none⟩))=a6 at*
   refine ic.skip (w1:=w.setRow bk (cur.toList.take jj++[Value.bool b]++cur.toList.drop (jj+1)).toArray) m21 (fun c hc=>by rw[RQ]at hc;cases hc) RR I6.defers ?_ ?_
   ·have aY:=Fy (P:=P) z4 (off:=jj) N3 (v:=.bool b) rfl (by simp[Value.cells,Value.oneCell']) (by omega)
    have hc:a6.eval (.const (.bool b))=.bool b:=rfl
    simp only[Value.cells,List.append_assoc]at aY ⊢
    simp[execOp,RQ,Instr.storeAt,Instr.sureAddr,ev,E6,hc,aY]
   ·exact⟨_,g,N5,hk⟩
  ·exact h.elim
theorem UE{n:Nat}{x y:SV}{k k':SV→Prop}(hk:∀r,k r→k' r)(h:Ar n x y k):Ar n x y k':=by
 unfold Ar at h ⊢
 obtain⟨r,hr,h1,h2,h⟩:=aN h
 rw[hr]
 exact⟨h1,h2,hk _ h⟩
theorem UF{x xi xj:SV}{b:Bool}{k k':SV→Prop}(hk:∀r,k r→k' r)(h:yG x xi xj b k):yG x xi xj b k':=by
 unfold yG at h ⊢
 split at h
 ·obtain⟨i,hi,h⟩:=aN h
  obtain⟨L,hL,h⟩:=aN h
  obtain⟨j,hj,h⟩:=aN h
  simp only[hi,hL,hj,ab]
  exact hk _ h
 ·exact h.elim
theorem UG{C:bA}{K K':Env→Prop}(hk:∀e,K e→K' e){s:Spec}(h:gG P C e K s):gG P C e K' s:=by
 cases s with
 |zm t d ty=>
  simp only[gG]at h ⊢
  split at h
  ·obtain⟨hb,h⟩:=nn h
   obtain⟨y,hy,h⟩:=aN h
   rw[hb,cond_true,hy]
   exact hk _ h
  ·exact h.elim
 |cut t d1 d2 ty=>
  simp only[gG]at h ⊢
  split at h
  ·obtain⟨hb,h⟩:=nn h
   obtain⟨y,hy,h⟩:=aN h
   rw[hb,cond_true,hy]
   exact hk _ h
  ·exact h.elim
 |yR t d f u=>
  simp only[gG]at h ⊢
  split at h
  ·obtain⟨hb,bk,h1,h2,h⟩:=nn h
   rw[hb,cond_true]
   exact⟨bk,h1,h2,hk _ h⟩
  ·exact h.elim
 |yF t d t2 d2 f u=>
  simp only[gG]at h ⊢
  split at h
  ·obtain⟨hb,bk,h1,h2,h⟩:=nn h
   rw[hb,cond_true]
   exact⟨bk,h1,h2,hk _ h⟩
  ·exact h.elim
 |push t u d1 d2 d3 d4 ty=>
  simp only[gG]at h ⊢
  split at h
  ·obtain⟨hb,h⟩:=nn h
   obtain⟨n,hn,h⟩:=aN h
   rw[hb,cond_true,hn]
   exact UE (fun r hr=>hk _ hr) h
  ·exact h.elim
 |tO t i j d1 d2 d3 d4 d5 d6 pR mP pS b=>
  simp only[gG]at h ⊢
  split at h
  ·obtain⟨hb,h⟩:=nn h
   rw[hb,cond_true]
   exact UF (fun r hr=>hk _ hr) h
  ·exact h.elim
def Lf(ws:List Nat)(e e':Env):Prop:=e'.ak.length=e.ak.length∧e.boxes.length≤e'.boxes.length∧(∀t,t∉ws→(e'.ak.getD t (.v .undef)).stays =(e.ak.getD t (.v .undef)).stays)∧qP e.boxes.length e e'
theorem Ji{l:List Slot}{t u:Nat}{x y:SV}(hx:l.getD t (.v .undef)=.v x):((l.set t (.v y)).getD u (.v .undef)).stays =(l.getD u (.v .undef)).stays :=by
 by_cases h:t=u
 ·subst h
  rw[hx]
  rcases Nat.lt_or_ge t l.length with hl|hl
  ·rw[List.getD_eq_getElem?_getD,List.getElem?_set_self hl];rfl
  ·rw[List.set_eq_of_length_le hl,hx]
 ·rw[dk h]
theorem aba{C:bA}{ops:List Oper}{s:Spec}(hs:uU P s ops){K:Env→Prop}(h:gG P C e K s):gG P C e (fun e'=>K e'∧Lf (ops.filterMap (·.dst)) e e') s:=by
 cases hs with
 |zm t d ty o1 o2 c h1 d1 g1 h2 d2 g2 hc ha ht bf=>
  simp only[gG]at h ⊢
  split at h
  ·rename_i x hx
   obtain⟨hb,h⟩:=nn h
   obtain⟨y,hy,h⟩:=aN h
   rw[hb,cond_true,hy]
   refine⟨h,by simp,Nat.le_refl _,fun u hu=>?_,.refl _ _⟩
   have hud:d≠u:=fun hh=>hu (by rw[←hh];simp[d1,d2])
   have jb:(e.ak.set d (.v .undef)).getD t (.v .undef)=.v x:=by rw[dk (fun hh=>bf hh.symm)];exact hx
   rw[Ji jb,dk hud]
  ·exact h.elim
 |cut t d1 d2 ty o1 o2 o3 h1 e1 g1 h2 e2 g2 h3 e3 g3 n1 n2 n3=>
  simp only[gG]at h ⊢
  split at h
  ·rename_i x hx
   obtain⟨hb,h⟩:=nn h
   obtain⟨y,hy,h⟩:=aN h
   rw[hb,cond_true,hy]
   refine⟨h,by simp,Nat.le_refl _,fun u hu=>?_,.refl _ _⟩
   have xE:d1≠u:=fun hh=>hu (by rw[←hh];simp[e1,e2,e3])
   have RS:d2≠u:=fun hh=>hu (by rw[←hh];simp[e1,e2,e3])
   have jb:((e.ak.set d1 (.v .undef)).set d2 (.v .undef)).getD t (.v .undef)=.v x:=by rw[dk (fun hh=>n2 hh.symm),dk (fun hh=>n1 hh.symm)];exact hx
   rw[Ji jb,dk RS,dk xE]
  ·exact h.elim
 |yR t d f u o1 o2 c h1 d1 g1 h2 d2 g2 hc ha h0 n1 n2 n3=>
  simp only[gG]at h ⊢
  split at h
  ·rename_i x hx
   obtain⟨hb,bk,k1,k2,h⟩:=nn h
   rw[hb,cond_true]
   refine⟨bk,k1,k2,h,by simp,Nat.le_refl _,fun v hv=>?_,.refl _ _⟩
   have CP:d≠v:=fun hh=>hv (by rw[←hh];simp[d1,d2])
   have RT:u≠v:=fun hh=>hv (by rw[←hh];simp[d1,d2])
   by_cases oL:t=v
   ·subst oL
    rw[hx]
    rcases Nat.lt_or_ge t e.ak.length with hl|hl
    ·rw[List.getD_eq_getElem?_getD,List.getElem?_set_self (by simpa using hl)];rfl
    ·rw[List.getD_eq_getElem?_getD,List.getElem?_eq_none (by simpa using hl)];rfl
   ·rw[dk oL,dk CP,dk RT,dk CP,dk CP,dk oL]
  ·exact h.elim
 |yF t d t2 e2 f u o1 o2 o3 c h1 d1 g1 h2 d2 g2 h3 d3 g3 hc ha h0 n1 n2 n3 n4 n5 n6=>
  simp only[gG]at h ⊢
  split at h
  ·rename_i x hx
   obtain⟨hb,bk,k1,k2,h⟩:=nn h
   rw[hb,cond_true]
   refine⟨bk,k1,k2,h,by simp,Nat.le_refl _,fun v hv=>?_,.refl _ _⟩
   have CP:d≠v:=fun hh=>hv (by rw[←hh];simp[d1,d2,d3])
   have RT:u≠v:=fun hh=>hv (by rw[←hh];simp[d1,d2,d3])
   have hve:e2≠v:=fun hh=>hv (by rw[←hh];simp[d1,d2,d3])
   by_cases oL:t=v
   ·subst oL
    rw[hx]
    rcases Nat.lt_or_ge t e.ak.length with hl|hl
    ·rw[List.getD_eq_getElem?_getD,List.getElem?_set_self (by simpa using hl)];rfl
    ·rw[List.getD_eq_getElem?_getD,List.getElem?_eq_none (by simpa using hl)];rfl
   ·rw[dk oL,dk CP,dk RT,dk CP,dk hve,dk CP,dk oL]
  ·exact h.elim
 |push t u d1 d2 d3 d4 ty o1 o2 o3 o4 o5 h1 h2 h3 h4 h5 q1 q2 q3 q4 q5=>
  simp only[gG]at h ⊢
  split at h
  ·rename_i x y hx hy
   obtain⟨hb,h⟩:=nn h
   obtain⟨n,hn,h⟩:=aN h
   rw[hb,cond_true,hn]
   simp only[List.forall_mem_cons,List.not_mem_nil,false_implies,implies_true,and_true]at q1 q2 q3 q4 q5
   obtain⟨m1,m2,m3⟩:=wk h1
   obtain⟨m4,m5,m6⟩:=wk h2
   obtain⟨m7,m8,m9⟩:=Vl h3
   obtain⟨c,CJ,EV,HU,EW,CL,HW⟩:=Vm h4
   obtain⟨CM,CN,HX⟩:=Vk h5
   simp only[ab]
   refine UE (fun r hr=>⟨hr,by simp,Nat.le_refl _,fun v hv=>?_,.refl _ _⟩) h
   simp only[List.filterMap_cons,m2,m5,m8,CL,CN,List.filterMap_nil,List.mem_cons,List.not_mem_nil,or_false,not_or]at hv
   obtain⟨v1,v2,v3,v4,v5⟩:=hv
   have hu4:((((e.ak.set d1 (.v .undef)).set d2 (.v .undef)).set d3 (.v .undef)).set d4 (.v .undef)).getD u (.v .undef)=.v y:=by
    rw[dk (fun hh=>q2.2.2.2 hh.symm),dk (fun hh=>q2.2.2.1 hh.symm),dk (fun hh=>q2.2.1 hh.symm),dk (fun hh=>q2.1 hh.symm)];exact hy
   rw[dk (fun hh=>v5 hh.symm),Ji hu4,dk (fun hh=>v4 hh.symm),dk (fun hh=>v3 hh.symm),dk (fun hh=>v2 hh.symm),dk (fun hh=>v1 hh.symm)]
  ·exact h.elim
 |tO t i j d1 d2 d3 d4 d5 d6 pR mP pS b o1 o2 o3 o4 o5 o6 o7 h1 h2 h3 h4 h5 h6 h7 q1 q2 q3 q4 q5 q6 q7 q8=>
  simp only[gG]at h ⊢
  split at h
  ·rename_i x xi xj hx hxi hxj
   obtain⟨hb,h⟩:=nn h
   rw[hb,cond_true]
   simp only[List.forall_mem_cons,List.not_mem_nil,false_implies,implies_true,and_true]at q1
   obtain⟨m1,m2,m3⟩:=wk h1
   obtain⟨m4,m5,m6⟩:=wk h2
   obtain⟨m7,m8,m9⟩:=Jr h3
   obtain⟨CJ,EV,HU⟩:=Vn h4
   obtain⟨EW,CL,HW⟩:=wk h5
   obtain⟨CM,CN,HX⟩:=Jr h6
   obtain⟨RQ,RR,m21⟩:=Vo h7
   refine UF (fun r hr=>⟨hr,by simp,Nat.le_refl _,fun v hv=>?_,.refl _ _⟩) h
   simp only[List.filterMap_cons,m2,m5,m8,EV,CL,CN,RR,List.filterMap_nil,List.mem_cons,List.not_mem_nil,or_false,not_or]at hv
   obtain⟨v1,v2,v3,v4,v5,v6⟩:=hv
   have ht6:((((((e.ak.set d1 (.v .undef)).set d2 (.v .undef)).set d3 (.v .undef)).set d4 (.v .undef)).set d5 (.v .undef)).set d6 (.v .undef)).getD t (.v .undef)=.v x:=by
    rw[dk (fun hh=>q1.2.2.2.2.2 hh.symm),dk (fun hh=>q1.2.2.2.2.1 hh.symm),dk (fun hh=>q1.2.2.2.1 hh.symm),dk (fun hh=>q1.2.2.1 hh.symm),dk (fun hh=>q1.2.1 hh.symm),dk (fun hh=>q1.1 hh.symm)]
    exact hx
   rw[Ji ht6,dk (fun hh=>v6 hh.symm),dk (fun hh=>v5 hh.symm),dk (fun hh=>v4 hh.symm),dk (fun hh=>v3 hh.symm),dk (fun hh=>v2 hh.symm),dk (fun hh=>v1 hh.symm)]
  ·exact h.elim
theorem WZ{ops:Array Oper}{Q:Exit→Act→World→Prop}{R:Act→World→Prop}(hR:∀a w,R a w→Q .normal a w):∀(l:List Oper)(i:Nat){a:Act}{w:World},(∀j,l[j]? =ops[i+j]?)→ic P l a w R→wpOps P ops Q (List.range' i l.length) a w
 |[],_,_,_,_,h=>hR _ _ h
 |o::l,i,a,w,hl,h=>by
  obtain⟨hg,nF,h⟩:=h
  have h0:ops[i]? =some o:=by simpa using(hl 0).symm
  rw[List.length_cons,List.range'_succ]
  unfold wpOps
  simp only[h0]
  rw[if_pos (by simp[Region.wanted,hg])]
  exact .inl (h _ _ fun v w1 _ h1=>WZ hR l (i+1) (fun j=>by have:=hl (j+1);simpa[Nat.add_assoc,Nat.add_comm 1 j]using this) h1)
end
end Go.Proofs.Ytimbllcalipehaa.Ab
namespace Go.Proofs.Ytimbllcalipehaa.Ab
open Go Go.RowKit
def Ex.to:Ex→Exit
 | .normal =>.normal
 | .exit i=>.exit i
 | .ret =>.ret
def Fr(gh:List (Nat×List iQ))(c:Code)(e e':Env):Prop:=e'.ak.length=e.ak.length∧e.boxes.length≤e'.boxes.length∧
 (∀t,t∉da gh c→(e'.ak.getD t (.v .undef)).stays =(e.ak.getD t (.v .undef)).stays)∧qP e.boxes.length e e'
theorem pA{b:Bool}{A:Prop}(h:cond b A False):b=true∧A:=by cases b;exact h.elim;exact⟨rfl,h⟩
theorem z0{b:Bool}{A:Prop}(hb:b=true)(h:A):cond b A False:=by subst hb;exact h
section
variable{P:Program}{gl:Nat→Option D}{h:Hints}
theorem wi{all:List Oper}{aH:Nat→Bool}{base:Nat}{K K':Env→Prop}(hk:∀e,K e→K' e):∀(l:List Oper)(i:Nat)(e:Env),
  iE P gl (aG P gl) aH all base l i e K→iE P gl (aG P gl) aH all base l i e K'
 |[],_,_,h=>hk _ h
 |o::l,i,e,h=>by
  rw[Ac]at h ⊢
  have fJ:all=all.toArray.toList:=by simp
  rw[fJ]at h ⊢
  obtain⟨src,s,U,bU,hO,_⟩:=Bt h
  refine hO.run ?_
  rw[←fJ]at bU ⊢
  exact wi hk l (i+1) _ bU
theorem xT{all:List Oper}{aH:Nat→Bool}{base:Nat}{K:Env→Prop}:∀(l:List Oper)(i:Nat)(e:Env),
  iE P gl (aG P gl) aH all base l i e K→iE P gl (aG P gl) aH all base l i e fun e'=>K e'∧e'.ak.length=e.ak.length∧e'.boxes.length=e.boxes.length∧
   (∀t,t∉l.filterMap (·.dst)→(e'.ak.getD t (.v .undef)).stays =(e.ak.getD t (.v .undef)).stays)∧qP base e e'
 |[],_,_,h=>⟨h,rfl,rfl,fun _ _=>rfl,.refl _ _⟩
 |o::l,i,e,h=>by
  rw[Ac]at h ⊢
  have fJ:all=all.toArray.toList:=by simp
  rw[fJ]at h ⊢
  obtain⟨src,s,U,bU,hO,aY⟩:=Bt h
  refine hO.run ?_
  rw[←fJ]at bU ⊢
  refine wi (fun e'⟨hK,h1,h2,h3,h5⟩=>⟨hK,?_,?_,fun t ht=>?_,fun j hj=>?_⟩) l (i+1) _ (xT l (i+1) _ bU)
  ·rw[h1];unfold fin kp;simp only[MW];cases src<;>simp
  ·rw[h2];unfold fin nM;cases U<;>simp
  ·have hd:∀d,o.dst=some d→d≠t:=fun d hd hh=>by
    subst hh
    exact ht (List.mem_filterMap.2 ⟨o,by simp,hd⟩)
   have ud:t∉l.filterMap (·.dst):=fun hm=>by
    obtain⟨o',bQ,kG⟩:=List.mem_filterMap.1 hm
    exact ht (List.mem_filterMap.2 ⟨o',by simp[bQ],kG⟩)
   rw[h3 t ud]
   unfold fin cS kp
   simp only
   have eW:((match src with|none=>e.ak|some (t,s)=>e.ak.set t s).getD t (.v .undef)).stays =(e.ak.getD t (.v .undef)).stays :=by
    cases src with
    |none=>rfl
    |some p=>
     obtain⟨t',d⟩:=p
     simp only
     by_cases htt:t'=t
     ·subst htt
      have:=aY.1 t' d rfl
      rcases Nat.lt_or_ge t' e.ak.length with hl|hl
      ·rw[List.getD_eq_getElem?_getD,List.getElem?_set_self hl];exact this
      ·rw[List.set_eq_of_length_le hl]
     ·rw[dk htt]
   cases kG:o.dst with
   |none=>exact eW
   |some d=>simp only;rw[dk (hd d kG)];exact eW
  ·have huf:=hO.uf
   have key:qP base e (fin o src s U e):=by
    intro j hj
    have same:e.boxes.getD j .none =.none ∨(e.boxes.getD j .none ≠.none ∧(e.boxes.getD j .none).isMap =(e.boxes.getD j .none).isMap):=qP.refl base e j hj
    unfold fin
    simp only
    cases huf with
    |none=>exact same
    |mk bx h hn hb=>
     simp only[nM,List.getD_eq_getElem?_getD]
     rw[List.getElem?_set_ne (by omega)]
     simpa using same
    |wr b bx iS h hw x hx off hp ho hold hb tR=>
     simp only[nM,List.getD_eq_getElem?_getD,List.getElem?_set]
     by_cases HY:b=j
     ·subst HY
      right
      rw[ho]
      simp[(List.getElem?_eq_some_iff.1 ho).1,hb.2,hold]
     ·simp only[HY,if_false];simpa using same
   exact(key.trans (Nat.le_refl _) h5) j hj
theorem Vp{ok:Bool}{ops:Array Oper}{aH:Nat→Bool}{e1 e':Env}{K K':Env→Prop}(hk:∀e,K e→K' e)(h:yQ P gl (aG P gl) ok ops aH e1 K e'):yQ P gl (aG P gl) ok ops aH e1 K' e':=by
 cases ok
 ·exact⟨h.1,hk _ h.2⟩
 ·exact hk _ h
theorem aeb{ok:Bool}{ops:Array Oper}{aH:Nat→Bool}{e1 e':Env}{K:Env→Prop}{X:Env→Prop}(h:yQ P gl (aG P gl) ok ops aH e1 K e')(hx:X e'):yQ P gl (aG P gl) ok ops aH e1 (fun e'=>K e'∧X e') e':=by
 cases ok
 ·exact⟨h.1,h.2,hx⟩
 ·exact⟨h,hx⟩
theorem Nl{e:Env}{c:Operand}{A B A' B':Env→Prop}(hA:A e→A' e)(hB:B e→B' e)(h:qT e c A B):qT e c A' B':=by
 cases c with
 |tmp t=>
  simp only[qT]at h ⊢
  cases hx:e.ak.getD t (.v .undef)with
  |v x=>
   rw[hx]at h
   obtain⟨b,rfl,h1,h2⟩:=Dw h
   cases b
   ·have:=h2 rfl
    rw[xW hx]at this
    show B' _
    rw[xW hx]
    exact hB this
   ·have:=h1 rfl
    rw[xW hx]at this
    show A' _
    rw[xW hx]
    exact hA this
  |_=>rw[hx]at h;exact h.elim
 |const v=>
  cases v with
  |bool b=>cases b;exact hB h;exact hA h
  |_=>exact h.elim
 |_=>exact h.elim
theorem UH{e:Env}{c:Operand}{A B A' B':Env→Prop}(hA:∀e,A e→A' e)(hB:∀e,B e→B' e)(h:qT e c A B):qT e c A' B':=Nl (hA e) (hB e) h
theorem UI{key:Nat}{c:Code}{e:Env}{Q Q':Ex→Env→Prop}{T:(Ex→Env→Prop)→Prop}(hT:∀Q Q':Ex→Env→Prop,(∀x e,Q x e→Q' x e)→T Q→T Q')(hq:∀x e,Q x e→Q' x e)(hh:tI h key c e Q T):tI h key c e Q' T:=by
 unfold tI at hh ⊢
 generalize pG h.fk key=kk at hh ⊢
 obtain⟨vars,consts⟩:=kk
 cases vars<;>cases consts
 ·exact hT _ _ hq hh
 all_goals
  obtain⟨hb,hh⟩:=pA (hh:cond _ _ False)
  exact z0 hb (hT _ _ (fun x e' hx=>by cases x<;>first|exact hq _ _ hx|exact hq .normal _ hx) hh)
theorem Oo{e:Env}{X Y:Prop}(hk:X→Y):∀(T:List Nat),zn e X T→zn e Y T
 |[],h=>hk h
 |_::T,h=>⟨h.1,Oo hk T h.2⟩
theorem FN{e:Env}{X:Prop}:∀(T:List Nat),zn e X T→X∧∀t∈T,kE (e.ak.getD t (.v .undef)).bW
 |[],h=>⟨h,by simp⟩
 |_::T,h=>by
  obtain⟨h1,h2⟩:=FN T h.2
  exact⟨h1,fun t ht=>by rcases List.mem_cons.1 ht with rfl|ht;exact h.1;exact h2 t ht⟩
theorem MV{ws T:List Nat}{f:Nat→Slot}:∀(l:List Slot)(i:Nat),(Aa ws T f l i).length =l.length
 |[],_=>rfl
 |_::l,i=>by simp[Aa,MV l (i+1)]
theorem Na{ws T:List Nat}{f:Nat→Slot}:∀(l:List Slot)(i j:Nat),(Aa ws T f l i)[j]? =(l[j]?).map fun s=>bif T.contains (i+j)then .v (pO (f (i+j)).bW)else bif ws.contains (i+j)then .v .undef else s
 |[],_,_=>by simp[Aa]
 |s::l,i,j=>by
  cases j with
  |zero=>simp[Aa]
  |succ j=>
   simp only[Aa,List.getElem?_cons_succ]
   rw[Na l (i+1) j,show i+1+j=i+(j+1) by omega]
theorem ab2{ws T:List Nat}{e e':Env}{t:Nat}(hw:t∉ws)(hT:∀t∈T,t∈ws):((tQ ws T e e').ak.getD t (.v .undef)).stays =(e.ak.getD t (.v .undef)).stays :=by
 simp only[tQ,List.getD_eq_getElem?_getD,Na,Nat.zero_add]
 have h1:T.contains t=false:=by
  rw[Bool.eq_false_iff];intro h;exact hw (hT t (by simpa using h))
 have h2:ws.contains t=false:=by
  rw[Bool.eq_false_iff];intro h;exact hw (by simpa using h)
 rw[h1,h2]
 cases e.ak[t]? <;>rfl
theorem IY{ops:Array Oper}{draw ok:Bool}{m0 m1:Nat}{T:List Nat}(h:BO ops draw ok m0 m1 T=true):fM ops.toList ops.toList.length=0∧((m0=0∧m1=ops.toList.length)∨draw=false)∧ok=true∧m0+m1≤ops.toList.length∧∀t∈T,t∈(((ops.toList.drop m0).take m1).filterMap (·.dst)):=by
 unfold BO at h
 simp only[Bool.and_eq_true,Bool.or_eq_true,Bool.not_eq_true',List.all_eq_true,List.contains_eq_mem,decide_eq_true_eq]at h
 obtain⟨⟨⟨⟨h1,h2⟩,h3⟩,h4⟩,h5⟩:=h
 refine⟨Nat.eq_of_beq_eq_true h1,?_,h3,Nat.le_of_ble_eq_true h4,h5⟩
 rcases h2 with h2|h2
 ·exact .inl ⟨Nat.eq_of_beq_eq_true h2.1,Nat.eq_of_beq_eq_true h2.2⟩
 ·exact .inr h2
theorem UJ{m0 m1:Nat}{T:List Nat}{ops:List Oper}{aH:Nat→Bool}{e:Env}{K K':Env→Prop}(hk:∀e,K e→K' e)(h:qV P gl (aG P gl) m0 m1 T ops aH e K):qV P gl (aG P gl) m0 m1 T ops aH e K':=
 wi (fun _ h1=>wi (fun _ h2=>Oo (wi hk _ _ _) T h2) _ _ _ h1) _ _ _ h
theorem abb{m0 m1:Nat}{T:List Nat}{ops:List Oper}{aH:Nat→Bool}{e:Env}{K:Env→Prop}(hT:∀t∈T,t∈(((ops.drop m0).take m1).filterMap (·.dst)))(h:qV P gl (aG P gl) m0 m1 T ops aH e K):qV P gl (aG P gl) m0 m1 T ops aH e (fun e'=>K e'∧Lf (ops.filterMap (·.dst)) e e'):=by
 refine wi (fun e1⟨h1,a1,a2,a3,a4⟩=>wi (fun e2⟨h2,b1,b2,b3,b4⟩=>Oo (fun h3=>?_) T h2) _ _ _ (xT _ _ _ h1)) _ _ _ (xT _ _ _ h)
 refine wi (fun e3⟨h4,c1,c2,c3,c4⟩=>⟨h4,?_,?_,fun t ht=>?_,?_⟩) _ _ _ (xT _ _ _ h3)
 ·rw[c1];simp only[tQ,MV];exact a1
 ·rw[c2];simp only[tQ];omega
 ·have hm:∀{l:List Oper},(∀o,o∈l→o∈ops)→t∉l.filterMap (·.dst):=fun hl hm=>by
   obtain⟨o,ho,hd⟩:=List.mem_filterMap.1 hm
   exact ht (List.mem_filterMap.2 ⟨o,hl o ho,hd⟩)
  rw[c3 t (hm fun o ho=>List.mem_of_mem_drop (List.mem_of_mem_drop ho)),ab2 (hm fun o ho=>List.mem_of_mem_drop (List.mem_of_mem_take ho)) hT,a3 t (hm fun o ho=>List.mem_of_mem_take ho)]
 ·have:qP e.boxes.length e1 (tQ (((ops.drop m0).take m1).filterMap (·.dst)) T e1 e2):=fun i hi=>qP.refl e.boxes.length e1 i hi
  exact(a4.trans (Nat.le_refl _) this).trans (Nat.le_refl _) c4
theorem NU{id:Nat}{ops:Array Oper}{draw:Bool}{e:Env}{K K':Env→Prop}(hk:∀e,K e→K' e)(hh:ot P gl (aG P gl) h id ops draw e K):ot P gl (aG P gl) h id ops draw e K':=by
 unfold ot at hh ⊢
 obtain⟨hb,hh⟩:=pA hh
 refine z0 hb (z6 (fun e1 h1=>?_) hh)
 cases hl:DM h.gh id with
 |some mT=>
  simp only[hl]at h1 ⊢
  obtain⟨hf,h1⟩:=pA h1
  exact z0 hf (UJ (fun e2 h2=>z6 hk h2) h1)
 |none=>
 simp only[hl]at h1 ⊢
 cases hs:yu P (BW h.gh id) draw ops.toList with
 |some s=>simp only[hs]at h1 ⊢;exact UG (fun e2 h2=>z6 hk h2) h1
 |none=>simp only[hs]at h1 ⊢;exact wi (fun e2 h2=>Vp (fun e3 h3=>z6 hk h3) h2) _ _ _ h1
theorem UK{id:Nat}{ops:Array Oper}{draw:Bool}{e:Env}{K:Env→Prop}(hh:ot P gl (aG P gl) h id ops draw e K):ot P gl (aG P gl) h id ops draw e (fun e'=>K e'∧Fr h.gh (.region id ops draw) e e'):=by
 unfold ot at hh ⊢
 obtain⟨hb,hh⟩:=pA hh
 refine z0 hb (z6 (fun e1⟨h1,hg⟩=>?_) (NB hh))
 have key:∀e2,Lf (ops.toList.filterMap (·.dst)) e1 e2→hY (jT h.gh (4000000+id)) e2 K→hY (jT h.gh (4000000+id)) e2 (fun e'=>K e'∧Fr h.gh (.region id ops draw) e e'):=fun e2 ho h2=>by
  refine z6 (fun e3⟨h3,CQ⟩=>⟨h3,CQ.1.trans (ho.1.trans hg.1),Nat.le_trans hg.2.1 (Nat.le_trans ho.2.1 CQ.2.1),fun t ht=>?_,?_⟩) (NB h2)
  ·simp only[da,List.mem_append,not_or]at ht
   rw[CQ.2.2.1 t ht.2.1,ho.2.2.1 t ht.2.2,hg.2.2.1 t ht.1]
  ·exact(hg.2.2.2.trans hg.2.1 ho.2.2.2).trans (Nat.le_trans hg.2.1 ho.2.1) CQ.2.2.2
 cases hl:DM h.gh id with
 |some mT=>
  simp only[hl]at h1 ⊢
  obtain⟨hf,h1⟩:=pA h1
  exact z0 hf (UJ (fun e2⟨h2,ho⟩=>key e2 ho h2) (abb (IY hf).2.2.2.2 h1))
 |none=>
 simp only[hl]at h1 ⊢
 cases hs:yu P (BW h.gh id) draw ops.toList with
 |some s=>
  simp only[hs]at h1 ⊢
  exact UG (fun e2⟨h2,ho⟩=>key e2 ho h2) (aba (Nk hs).2 h1)
 |none=>
  simp only[hs]at h1 ⊢
  refine wi (fun e'⟨h1,h2,h3,h4,h5⟩=>Vp (fun e2⟨k1,k2⟩=>key e2 k2 k1) (aeb (X:=fun e'=>Lf (ops.toList.filterMap (·.dst)) e1 e') h1 ⟨h2,?_,h4,fun i hi=>?_⟩)) _ _ _ (xT _ _ _ h1)
  ·rw[h3];simp
  ·have:=h5 i hi
   simp only[List.getD_eq_getElem?_getD]at this ⊢
   rw[List.getElem?_append_left hi]at this
   exact this
theorem nr:∀(c:Code){Q Q':Ex→Env→Prop}{e:Env},(∀x e,Q x e→Q' x e)→aw P gl (aG P gl) h c Q e→aw P gl (aG P gl) h c Q' e
 | .skip,_,_,_,hq,hh=>hq _ _ hh
 | .region id ops draw,Q,Q',e,hq,hh=>by
   simp only[aw]at hh ⊢
   exact UI (fun Q Q' hq hh=>NU (hq .normal) hh) hq hh
 | .seq a b,Q,Q',e,hq,hh=>by
   simp only[aw]at hh ⊢
   refine nr a (fun x e' hx=>?_) hh
   cases x with
   |normal=>exact nr b hq hx
   |exit i=>exact hq _ _ hx
   |ret=>exact hq _ _ hx
 | .cond c a b,Q,Q',e,hq,hh=>by
   simp only[aw]at hh ⊢
   exact UI (fun Q Q' hq hh=>UH (fun e'=>nr a hq) (fun e'=>nr b hq) hh) hq hh
 | .block id b,Q,Q',e,hq,hh=>by
   simp only[aw]at hh ⊢
   refine nr b (fun x e' hx=>?_) hh
   cases x with
   |normal=>exact hq _ _ hx
   |exit i=>
    have ee:cond (i==id) (Q .normal e') (Q (.exit i) e'):=hx
    show cond (i==id) (Q' .normal e') (Q' (.exit i) e')
    cases hb:(i==id)<;>rw[hb]at ee<;>exact hq _ _ ee
   |ret=>exact hq _ _ hx
 | .loop b,Q,Q',e,hq,hh=>by
   obtain⟨hb,hh⟩:=pA (hh:cond _ _ False)
   refine z0 hb fun I hI=>hh I fun vs bs hF=>hI vs bs (nr b (fun x e' hx=>?_) hF)
   cases x with
   |normal=>exact hx
   |exit i=>exact hq _ _ hx
   |ret=>exact hq _ _ hx
 | .exit id,_,_,_,hq,hh=>hq _ _ hh
 | .ret,_,_,_,hq,hh=>hq _ _ hh
 | .goto _,_,_,_,_,hh=>hh
 | .label _,_,_,_,hq,hh=>hq _ _ hh
 | .scope _,_,_,_,_,hh=>hh
 | .rangeFunc _ _ _ _,_,_,_,_,hh=>hh
 | .refuse _,_,_,_,_,hh=>hh
theorem Fr.refl(c:Code)(e:Env):Fr h.gh c e e:=⟨rfl,Nat.le_refl _,fun _ _=>rfl,.refl _ _⟩
theorem Fr.trans{a b c:Code}{e e1 e2:Env}(h1:Fr h.gh a e e1)(h2:Fr h.gh b e1 e2)(ha:∀t,t∈da h.gh a→t∈da h.gh c)(hb:∀t,t∈da h.gh b→t∈da h.gh c):Fr h.gh c e e2:=
 ⟨h2.1.trans h1.1,Nat.le_trans h1.2.1 h2.2.1,fun t ht=>(h2.2.2.1 t fun hm=>ht (hb t hm)).trans (h1.2.2.1 t fun hm=>ht (ha t hm)),h1.2.2.2.trans h1.2.1 h2.2.2.2⟩
theorem Fr.mono{a c:Code}{e e1:Env}(h1:Fr h.gh a e e1)(ha:∀t,t∈da h.gh a→t∈da h.gh c):Fr h.gh c e e1:=⟨h1.1,h1.2.1,fun t ht=>h1.2.2.1 t fun hm=>ht (ha t hm),h1.2.2.2⟩
theorem MS(vars consts:List Nat)(vs:List SV):∀(l:List Slot)(t i:Nat),(uK vars consts vs l t)[i]? =(l[i]?).map fun s=>match place (t+i) vars 0 with
  |some j=>.v (ae vs j)
  |none=>bif consts.contains (t+i)then s.stays else .v .undef
 |[],_,_=>by simp[uK]
 |s::l,t,i=>by
  cases i with
  |zero=>simp only[uK,List.getElem?_cons_zero,Option.map_some,Nat.add_zero];cases place t vars 0<;>rfl
  |succ i=>
   simp only[uK,List.getElem?_cons_succ]
   rw[MS vars consts vs l (t+1) i,show t+1+i=t+(i+1) by omega]
theorem MQ(vars consts:List Nat)(vs:List SV):∀(l:List Slot)(t:Nat),(uK vars consts vs l t).length =l.length
 |[],_=>rfl
 |_::l,t=>by simp[uK,MQ vars consts vs l (t+1)]
theorem MT(bs:List (List SV)):∀(l:List af)(t i:Nat),(uL bs l t)[i]? =(l[i]?).map fun x=>af.again (an bs (t+i)) x
 |[],_,_=>by simp[uL]
 |s::l,t,i=>by
  cases i with
  |zero=>simp[uL]
  |succ i=>
   simp only[uL,List.getElem?_cons_succ]
   rw[MT bs l (t+1) i,show t+1+i=t+(i+1) by omega]
theorem MR(bs:List (List SV)):∀(l:List af)(t:Nat),(uL bs l t).length =l.length
 |[],_=>rfl
 |_::l,t=>by simp[uL,MR bs l (t+1)]
theorem UL{t:Nat}:∀{l:List Nat}{i j:Nat},place t l i=some j→i≤j∧l[j-i]? =some t
 |[],i,j,h=>by cases h
 |v::l,i,j,h=>by
  simp only[place]at h
  cases hv:v==t with
  |true=>
   rw[hv]at h
   simp only[cond_true,Option.some.injEq]at h
   subst h
   have:=beq_iff_eq.1 hv
   subst this
   simp
  |false=>
   rw[hv]at h
   obtain⟨h1,h2⟩:=UL (l:=l) h
   refine⟨by omega,?_⟩
   rw[show j-i=(j-(i+1))+1 by omega,List.getElem?_cons_succ]
   exact h2
theorem UM{t:Nat}:∀{l:List Nat}{i:Nat},l.contains t=false→place t l i=none
 |[],_,_=>rfl
 |v::l,i,h=>by
  simp only[List.contains_cons,Bool.or_eq_false_iff]at h
  simp only[place]
  have:(v==t)=false:=by rw[beq_eq_false_iff_ne]at*;exact fun hh=>h.1 hh.symm
  rw[this]
  exact UM h.2
theorem TO{ws vars consts:List Nat}:∀{l:List Slot}{t:Nat},DF ws vars consts l t=true→∀(i:Nat)s,l[i]? =some s→(t+i)∉ws→s.stays=.v .undef ∨(vars.contains (t+i)=false∧consts.contains (t+i)=true)
 |[],_,_,i,s,h,_=>by simp at h
 |s'::l,t,hk,i,s,h,hw=>by
  simp only[DF,Bool.and_eq_true]at hk
  cases i with
  |zero=>
   simp at h
   subst h
   have jr:=hk.1
   cases s' with
   |v x=>exact .inl rfl
   |t x=>exact .inl rfl
   |_=>
    refine .inr ?_
    simp only[Bool.or_eq_true,Bool.and_eq_true,Bool.not_eq_true']at jr
    rcases jr with h|h
    ·exact absurd (by simpa using h) hw
    ·exact h
  |succ i=>
   have:=TO hk.2 i s (by simpa using h) (by rw[show t+1+i=t+(i+1) by omega];exact hw)
   rw[show t+1+i=t+(i+1) by omega]at this
   exact this
theorem abc(s:Slot):s.stays.stays=s.stays:=by cases s<;>rfl
def again(vars consts:List Nat)(vs:List SV)(bs:List (List SV))(e:Env):Env:=⟨uK vars consts vs e.ak 0,uL bs e.boxes 0⟩
theorem JG{b:Code}{vars consts:List Nat}{vs:List SV}{bs:List (List SV)}{e:Env}(hk:DF (da h.gh b) vars consts e.ak 0=true):Fr h.gh b e (again vars consts vs bs e):=by
 refine⟨MQ _ _ _ _ _,by simp[again,MR],fun t ht=>?_,fun i hi=>?_⟩
 rotate_left
 ·simp only[again,List.getD_eq_getElem?_getD,MT,List.getElem?_eq_getElem hi,Option.map_some,Option.getD_some]
  cases e.boxes[i]<;>first|exact .inl rfl|exact .inr ⟨by simp,rfl⟩
 simp only[again,List.getD_eq_getElem?_getD,MS]
 cases hs:e.ak[t]? with
 |none=>rfl
 |some s=>
  simp only[Option.map_some,Option.getD_some,Nat.zero_add]
  rcases TO hk t s hs (by simpa using ht)with h|⟨h1,h2⟩
  ·rw[h]
   split
   ·rfl
   ·cases consts.contains t<;>simp[h,Slot.stays]
  ·rw[Nat.zero_add]at h1 h2
   rw[UM h1]
   simp only[h2,cond_true,abc]
theorem T9{key:Nat}{c:Code}{e:Env}{Q:Ex→Env→Prop}{T:(Ex→Env→Prop)→Prop}(hT:∀Q Q':Ex→Env→Prop,(∀x e,Q x e→Q' x e)→T Q→T Q')
  (hF:∀Q,T Q→T (fun x e'=>Q x e'∧Fr h.gh c e e'))(hh:tI h key c e Q T):tI h key c e (fun x e'=>Q x e'∧Fr h.gh c e e') T:=by
 unfold tI at hh ⊢
 generalize pG h.fk key=kk at hh ⊢
 obtain⟨vars,consts⟩:=kk
 cases vars<;>cases consts
 ·exact hF _ hh
 all_goals
  obtain⟨hb,hh⟩:=pA (hh:cond _ _ False)
  have hk:=(Bool.and_eq_true _ _▸hb).2
  refine z0 hb (hT _ _ (fun x e' hx=>?_) (hF _ hh))
  obtain⟨hx,hf⟩:=hx
  cases x with
  |normal=>exact⟨hx,JG (b:=c) hk⟩
  |exit i=>exact⟨hx,hf⟩
  |ret=>exact⟨hx,hf⟩
theorem tB:∀(c:Code){Q:Ex→Env→Prop}{e:Env},aw P gl (aG P gl) h c Q e→aw P gl (aG P gl) h c (fun x e'=>Q x e'∧Fr h.gh c e e') e
 | .skip,_,e,hh=>⟨hh,Fr.refl _ _⟩
 | .region id ops draw,Q,e,hh=>by
   simp only[aw]at hh ⊢
   refine T9 (fun Q Q' hq hh=>NU (hq .normal) hh) (fun Q hh=>?_) hh
   exact NU (fun e' hx=>hx) (UK hh)
 | .seq a b,Q,e,hh=>by
   refine nr a (fun x e' hx=>?_) (tB a hh)
   obtain⟨hx,hf⟩:=hx
   cases x with
   |normal=>exact nr b (fun y e2 hy=>⟨hy.1,hf.trans hy.2 (fun t ht=>by simp[da,ht]) (fun t ht=>by simp[da,ht])⟩) (tB b hx)
   |exit i=>exact⟨hx,hf.mono fun t ht=>by simp[da,ht]⟩
   |ret=>exact⟨hx,hf.mono fun t ht=>by simp[da,ht]⟩
 | .cond c a b,Q,e,hh=>
   T9 (fun Q Q' hq hh=>UH (fun e'=>nr a hq) (fun e'=>nr b hq) hh) (fun Q hh=>Nl (A:=aw P gl (aG P gl) h a Q) (B:=aw P gl (aG P gl) h b Q)
    (fun ha=>nr a (fun y e2 hy=>⟨hy.1,hy.2.mono fun t ht=>by simp[da,ht]⟩) (tB a ha)) (fun hb=>nr b (fun y e2 hy=>⟨hy.1,hy.2.mono fun t ht=>by simp[da,ht]⟩) (tB b hb)) hh) hh
 | .block id b,Q,e,hh=>by
   refine nr b (fun x e' hx=>?_) (tB b hh)
   obtain⟨hx,hf⟩:=hx
   have mS:Fr h.gh (.block id b) e e':=hf
   cases x with
   |normal=>exact⟨hx,mS⟩
   |exit i=>
    have ee:cond (i==id) (Q .normal e') (Q (.exit i) e'):=hx
    show cond (i==id) (Q .normal e'∧Fr h.gh (.block id b) e e') (Q (.exit i) e'∧Fr h.gh (.block id b) e e')
    cases hb:(i==id)<;>rw[hb]at ee<;>exact⟨ee,mS⟩
   |ret=>exact⟨hx,mS⟩
 | .loop b,Q,e,hh=>by
   obtain⟨hb,hh⟩:=pA (hh:cond _ _ False)
   have hk:=(Bool.and_eq_true _ _▸hb).2
   refine z0 hb fun I hI=>?_
   refine hh I fun vs bs hF=>hI vs bs (nr b (fun x e' hx=>?_) (tB b hF))
   obtain⟨hx,hf⟩:=hx
   have mS:Fr h.gh (.loop b) e e':=(JG (vs:=vs) (bs:=bs) hk).trans (b:=b) hf (fun t ht=>ht) (fun t ht=>ht)
   cases x with
   |normal=>exact hx
   |exit i=>exact⟨hx,mS⟩
   |ret=>exact⟨hx,mS⟩
 | .exit id,_,e,hh=>⟨hh,Fr.refl _ _⟩
 | .ret,_,e,hh=>⟨hh,Fr.refl _ _⟩
 | .goto _,_,_,hh=>hh
 | .label _,_,e,hh=>⟨hh,Fr.refl _ _⟩
 | .scope _,_,_,hh=>hh
 | .rangeFunc _ _ _ _,_,_,hh=>hh
 | .refuse _,_,_,hh=>hh
end
end Go.Proofs.Ytimbllcalipehaa.Ab
set_option linter.unusedVariables false
set_option linter.unusedSimpArgs false
namespace Go.Proofs.Ytimbllcalipehaa.Ab
open Go Go.RowKit
section
variable{P:Program}{gl:Nat→Option D}{w0:World}{ar:S0}{e:Env}{a:Act}{w:World}{g:Gh}
theorem bh.pL{St bS:Nat→Nat→Prop}{w':World}{x:D}{v:Value}(r:bh w St x v)(h:x.pL=true):bh w' bS x v:=by
 cases r with
 |bool b=>exact .bool b
 |int k n hk=>exact .int k n hk
 |str s hs=>exact .str s hs
 |_=>cases h
def fG(l:List Oper)(a a':Act):Prop:=∀t,t∉l.filterMap (·.dst)→a'.tmps.getD t undef=a.tmps.getD t undef
theorem fG.refl(l:List Oper)(a:Act):fG l a a:=fun _ _=>rfl
theorem fG.put{l:List Oper}{a0 a:Act}{o:Oper}(h:fG l a0 a)(ho:o∈l)(hs:a.tmps.size=a0.tmps.size)(v:Value):fG l a0 (a.put o.dst v):=by
 intro t ht
 rw[←h t ht]
 cases hd:o.dst with
 |none=>rfl
 |some d=>
  have bf:d≠t:=fun hh=>ht (List.mem_filterMap.2 ⟨o,ho,by rw[hd,hh]⟩)
  simp only[Act.put,Array.getD_eq_getD_getElem?]
  rw[Array.getElem?_setIfInBounds_ne bf]
def L6(w:World):S0:={St:=fun b _=>b<w.heap.size,df:=fun _ _=>False,cl:=fun _ _ _=>False}
theorem acZ{St:Nat→Nat→Prop}(aY:∀b o,St b o→b<w.heap.size){base yI:Nat}{O O':Nat→Nat→Nat→Prop}(hO:∀b a c,O b a c→b<w.heap.size){x:SV}{v:Value}(r:aP w St base O x v):
  aP w (fun b _=>b<w.heap.size) yI O' (di x) v:=by
 have up:∀{d:D}{v:Value},bh w St d v→bh w (fun b _=>b<w.heap.size) d v:=fun h=>h.mono fun b o hs=>⟨aY b o hs,rfl⟩
 cases r with
 |d _ x v hd=>exact .d _ _ _ (up hd)
 |own _ sz L g cap hd bM ho=>exact .d _ _ _ (up hd)
 |full _ sz L a hd=>exact .d _ _ _ (up hd)
 |aZ _ sz L gg cap vs bM hm aM hf ho aR hc=>
  exact .d _ _ _ (.sl sz L gg 0 cap vs bM (Nat.le_trans bM hm) aM hf (fun o h=>⟨by rw[Nat.zero_add];exact aR o h,hO _ _ _ ho⟩) (fun i x j c h1 h2=>up (hc i x j c h1 h2)))
 |nest _ LL q cap bk cp bM hm ho aR oq tN=>
  have hl:(LL.map fun L=>D.sl .ro 1 L).length =LL.length:=by simp
  have fU:∀{i:Nat}{x:D},(LL.map fun L=>D.sl .ro 1 L)[i]? =some x→∃L,LL[i]? =some L∧x=.sl .ro 1 L:=by
   intro i x hx
   simp only[List.getElem?_map,Option.map_eq_some_iff]at hx
   obtain⟨L,h1,rfl⟩:=hx
   exact⟨L,h1,rfl⟩
  have eL:∀x∈(LL.map fun L=>D.sl .ro 1 L),∃L,x=.sl .ro 1 L:=by
   intro x hx
   obtain⟨L,_,rfl⟩:=List.mem_map.1 hx
   exact⟨L,rfl⟩
  have:=bh.sl (w:=w) (St:=fun b _=>b<w.heap.size) 1 (LL.map fun L=>D.sl .ro 1 L) q 0 cap (fun i=>.slice (some ⟨bk i,0,none⟩) (LL.getD i []).length (cp i)) (by omega) (by omega)
   (fun x hx=>by obtain⟨L,rfl⟩:=eL x hx;rfl) (fun x hx c hc=>by obtain⟨L,rfl⟩:=eL x hx;simp[D.cells]at hc;subst hc;rfl)
   (fun o h=>by
     have bQ:o<LL.length:=by rw[hl]at h;omega
     rw[Nat.zero_add]
     refine⟨?_,hO _ _ _ ho⟩
     rw[aR o _ (List.getElem?_eq_getElem bQ)];simp[bQ])
   (fun i x j c h1 h2=>by
     obtain⟨L,hL,rfl⟩:=fU h1
     have hj:j=0:=by have:=(List.getElem?_eq_some_iff.1 h2).1;simp[D.cells]at this;omega
     subst hj
     simp[D.cells]at h2
     subst h2
     obtain⟨r1,r2,r3,r4,r5,r6⟩:=oq i L hL
     have hg:LL.getD (i*1+0) []=L:=by rw[Nat.mul_one,Nat.add_zero,List.getD_eq_getElem?_getD,hL];rfl
     simp only[hg]
     rw[Nat.mul_one,Nat.add_zero]
     refine .sl 1 L (bk i) 0 (cp i) (fun o=>(w.cell? ⟨bk i,o,none⟩).getD undef) r2 (by omega) (fun x hx=>by rw[Jh (r5 x hx)];rfl) (fun x hx c hc=>by rw[Jh (r5 x hx)]at hc;simp at hc;subst hc;exact ad7 (r5 c hx)) (fun o h=>?_) (fun k x j c hk hc=>?_)
     ·have RU:o<L.length:=by omega
      obtain⟨v',k1,_⟩:=r6 o _ (List.getElem?_eq_getElem RU)
      rw[Nat.zero_add,k1]
      exact⟨rfl,hO _ _ _ r1⟩
     ·rw[Jh (r5 x (List.mem_of_getElem? hk))]at hc
      have hj:j=0:=by have:=(List.getElem?_eq_some_iff.1 hc).1;simp at this;omega
      subst hj
      simp at hc
      subst hc
      obtain⟨v',k1,k2⟩:=r6 k x hk
      rw[Nat.mul_one,Nat.add_zero,k1]
      exact up k2)
  rw[hl]at this
  exact .d _ _ _ this
 |_=>exact .undef _ _
theorem Inv.KM(hI:Inv gl w0 ar e a w g):Inv gl w (L6 w) (sE e) a w ⟨fun b _=>b<w.heap.size,[],fun _=>none⟩:=by
 have up:∀{d:D}{v:Value},bh w g.St d v→bh w (fun b _=>b<w.heap.size) d v:=fun h=>h.mono fun b o hs=>⟨hI.lH hs,rfl⟩
 refine⟨Below.refl _ _,by simp[sE,hI.size],fun i s hs=>?_,rfl,fun b bx ao h1=>by simp[sE]at h1,fun i j ao h1=>by simp at h1,fun _ _ h=>h,fun b' o h=>⟨.inl h,by simp,h⟩,fun b hb=>by simp at hb,fun n x hx=>?_,hI.defers,fun D o hD=>hD.elim,fun b o v hv=>hv.elim,Nat.zero_le _⟩
 ·simp only[sE,List.getElem?_map,Option.map_eq_some_iff]at hs
  obtain⟨s0,lN,rfl⟩:=hs
  have h:=hI.ak i s0 lN
  cases s0 with
  |v x=>exact .v _ _ _ (acZ (fun b o h=>hI.lH h) (O:=fO w0.heap.size w g i 0) (fun b a c h=>h.lt) h.jV)
  |a b n sz=>
   simp only[YK]
   cases hb:e.boxes[b]? with
   |none=>exact .v _ _ _ (.undef _ _)
   |some bx=>
    cases bx with
    |cells cs=>
     refine .v _ _ _ ?_
     obtain⟨hm,ao,cap,dM,hle,hv,gB,c,ty,hc,ck⟩:=h.B1
     rw[hv]
     unfold GP
     cases mR:dK cs with
     |none=>exact .undef _ _
     |some L=>
      simp only
      cases w4:(Nat.beq sz 1&&Nat.beq L.length n)with
      |false=>exact .undef _ _
      |true=>
       simp only[Bool.and_eq_true]at w4
       have h1:=Nat.eq_of_beq_eq_true w4.1
       have h2:=Nat.eq_of_beq_eq_true w4.2
       subst h1 h2
       obtain⟨b0,c',nE,iI,bY,hlen,bw⟩:=hI.boxes b _ ao hb dM
       rw[hc]at iI;cases iI
       obtain⟨xI,akQ⟩:=NM mR
       have HZ:∀(i:Nat)d,L[i]? =some d→i<c.size∧bh w g.St d (c.getD i undef)∧d.one=true:=fun i d hd=>by
        have hi:i<cs.length:=by rw[←xI];exact(List.getElem?_eq_some_iff.1 hd).1
        have xH:i<c.size:=by omega
        have EP:cs[i]? =some cs[i]:=by simp[hi]
        have hy:c[i]? =some (c[i]'xH):=by simp
        have hr:=(bw i _ _ EP hy).dA (akQ i _ d EP hd)
        have hg:c.getD i undef=c[i]'xH:=by simp[xH]
        rw[hg]
        exact⟨xH,hr,hr.aaf (bY i _ (by simpa[af.size]using hi) hy)⟩
       have aO:=fL hc
       refine .d _ _ _ (.sl 1 L ao 0 cap (fun i=>c.getD i undef) hle hm (fun x hx=>?_) (fun x hx k hk=>?_) (fun o ho=>?_) (fun i x j k hx hk=>?_))
       ·obtain⟨i,hi⟩:=List.mem_iff_getElem?.1 hx
        rw[D.uP (HZ i x hi).2.2];rfl
       ·obtain⟨i,hi⟩:=List.mem_iff_getElem?.1 hx
        rw[D.uP (HZ i x hi).2.2]at hk
        simp at hk;subst hk;exact(HZ i _ hi).2.2
       ·have RU:o<L.length:=by omega
        obtain⟨k1,_,_⟩:=HZ o _ (List.getElem?_eq_getElem RU)
        rw[cell_of_row w ao (0+o) c ty (0,0) hc,Nat.zero_add]
        exact⟨by simp[k1],aO⟩
       ·obtain⟨k1,k2,k3⟩:=HZ i x hx
        rw[D.uP k3]at hk
        have hj:j=0:=by have:=(List.getElem?_eq_some_iff.1 hk).1;simp at this;omega
        subst hj
        simp at hk;subst hk
        rw[Nat.mul_one,Nat.add_zero]
        exact up k2
    |_=>exact .v _ _ _ (.undef _ _)
  |_=>exact .v _ _ _ (.undef _ _)
 ·obtain⟨g0,vs,g1,g2⟩:=hI.lg n x hx
  exact⟨g0,vs,fun i hi=>⟨(g1 i hi).1,hI.lH (g1 i hi).2⟩,fun i c hc=>up (g2 i c hc)⟩
theorem Inv.Kq(hI:Inv gl w0 ar e a w g){ws T:List Nat}{e2:Env}{a2:Act}{w2:World}{g2:Gh}(hL:Inv gl w (L6 w) e2 a2 w2 g2)(hlen:e2.ak.length=e.ak.length)(hk:∀t,t∉ws→a2.tmps.getD t undef=a.tmps.getD t undef)
  (hT:∀t∈T,kE (e2.ak.getD t (.v .undef)).bW):∃g',Inv gl w0 ar (tQ ws T e e2) a2 w2 g':=by
 have hb:=hL.below
 have hle:w0.heap.size≤w.heap.size:=hI.below.size
 let g':Gh:={St:=g.St,bx:=g.bx,ow:=fun b=>if b<w.heap.size then g.ow b else g2.ow b}
 have hX:Ext w0.heap.size w g w2 g' (fun _=>False):=by
  refine⟨fun D o fW ho h=>⟨(hb.block D (fL h)).trans h,fW,?_,fun _ h=>h⟩,fun b o h=>⟨h,.qF (hb.block b (hI.lH h))⟩,fun b o h=>World.cell?_of_block (hb.block b (by omega)),fun _ _ h=>h,fun p b a' c' _ ho=>?_,.of fun b h=>hb.block b h⟩
  ·show(if D<w.heap.size then g.ow D else g2.ow D)=none
   rw[if_pos (fL h)];exact ho
  ·have aO:=ho.lt
   obtain⟨p1,p2,p3,⟨cu,t',p4,uh⟩,p5⟩:=ho
   refine⟨⟨?_,p2,p3,⟨cu,t',(hb.block b aO).trans p4,uh⟩,p5⟩,fun _=>hb.block b aO⟩
   show(if b<w.heap.size then g.ow b else g2.ow b)=some p
   rw[if_pos aO];exact p1
 have eh:Below w0.heap.size w w2:=⟨hb.os,hb.tape,hb.output,hb.size,fun k hk=>hb.block k (by omega)⟩
 refine⟨g',hI.below.trans eh,?_,fun i s hs=>?_,hI.fQ,fun b bx ao k1 k2=>hX.box (fun j h=>h) (hb.block ao (hI.dF ao (List.mem_of_getElem? k2)).2) (hI.boxes b bx ao k1 k2),hI.nodup,fun b o h=>hI.gU b o h,fun b o h=>(have:=hI.cW b o h;⟨this.1,this.2.1,Nat.lt_of_lt_of_le this.2.2 hb.size⟩),fun b h=>(have:=hI.dF b h;⟨this.1,Nat.lt_of_lt_of_le this.2 hb.size⟩),hI.lg.ext hX,hL.defers,fun D o hD=>(have h:=hI.fT D o hD;have k:=hX.df D o h.1 h.2.1 h.2.2.1;⟨k.2.1,k.2.2.1,k.1,fun x hx=>h.2.2.2 x (k.2.2.2 x hx)⟩),fun b o v hv=>(have h:=hI.cls b o v hv;⟨(hX.st b o h.1).1,(hX.st b o h.1).2.1.trans h.2⟩),Nat.le_trans hI.kD eh.size⟩
 ·rw[hL.size,hlen];simp[tQ,MV]
 ·simp only[tQ,Na,Nat.zero_add,Option.map_eq_some_iff]at hs
  obtain⟨s0,lN,rfl⟩:=hs
  cases hTi:T.contains i with
  |true=>
   simp only[cond_true]
   have ej:=hT i (by simpa using hTi)
   have hr:=kb hL i
   simp only[Act.eval]at hr
   cases jq:e2.ak.getD i (.v .undef)with
   |v x=>
    rw[jq]at hr ej
    have hr:=hr.jV
    simp only[Slot.bW]at ej ⊢
    refine .v _ _ _ ?_
    cases x with
    |d x=>
     simp only[pO]
     cases hx:x.pL with
     |true=>exact .d _ _ _ (hr.data.pL hx)
     |false=>exact .undef _ _
    |aZ sz L=>
     simp only[pO]
     generalize a2.tmps.getD i undef=v at hr ⊢
     cases hr with
     |aZ _ _ _ gg cap vs h1 h2 h3 h4 ho h6 h7=>
      obtain⟨o1,o2,o3,o4,o5⟩:=ho
      refine .aZ _ sz L gg cap vs h1 h2 h3 h4 ⟨?_,by omega,fun hm=>by have:=(hI.dF _ hm).2;omega,o4,fun o _ hs=>by have:=hI.lH hs;omega⟩ h6 (fun k x j c hx hc=>(h7 k x j c hx hc).pL (ej x (List.mem_of_getElem? hx) c (List.mem_of_getElem? hc)))
      show(if gg<w.heap.size then g.ow gg else g2.ow gg)=some (.s i 0)
      rw[if_neg (by omega)];exact o1
    |_=>exact .undef _ _
   |_=>exact .v _ _ _ (.undef _ _)
  |false=>
   simp only[cond_false]
   cases hwi:ws.contains i with
   |true=>exact .v _ _ _ (.undef _ _)
   |false=>
    simp only[cond_false]
    rw[hk i (by simpa using hwi)]
    exact hX.slot (fun j h=>h) (hI.ak i s0 lN)
variable{ops:Array Oper}{aH:Nat→Bool}{base:Nat}
theorem fG.Qy{l:List Oper}{a0 a:Act}{o:Oper}(h:fG l a0 a)(ho:o∈l)(v:Value):fG l a0 (a.put o.dst v):=by
 intro t ht
 rw[←h t ht]
 cases hd:o.dst with
 |none=>rfl
 |some d=>
  have bf:d≠t:=fun hh=>ht (List.mem_filterMap.2 ⟨o,ho,by rw[hd,hh]⟩)
  simp only[Act.put,Array.getD_eq_getD_getElem?]
  rw[Array.getElem?_setIfInBounds_ne bf]
theorem Vq(hI:Inv gl w0 ar e a w g){i id:Nat}{l:Bool}{o:Oper}(ho:ops[i]? =some o){k:Env→Prop}
  (h:o8 P gl (aG P gl) ops.toList id l o e k){next:Act→World→Prop}{Q:Exit→Act→World→Prop}(hn:∀e' v w' g',Inv gl w0 ar e' (a.put o.dst v) w' g'→k e'→next (a.put o.dst v) w'):wpOp P ops Q i next a w:=by
 have h':=Bs.1 h
 unfold wpOp
 simp only[ho]
 split at h'
 ·rename_i hg
  rw[if_pos (Dm hI hg)]
  exact .inl (NP hI h' next Q fun e' v w' g' hinv hk=>hn e' _ w' g' hinv hk)
 ·rename_i hg
  rw[if_neg (by rw[Dm hI hg];simp)]
  exact hn _ _ _ _ (Oj hI o.dst) h'
 ·exact h'.elim
theorem W0{K:Env→Prop}{Q:Exit→Act→World→Prop}{a0:Act}(hQ:∀e a w g,Inv gl w0 ar e a w g→K e→fG ops.toList a0 a→Q .normal a w):∀(fuel:Nat)(bI:Array Bool)(e:Env)(a:Act)(w:World)(g:Gh),
  Inv gl w0 ar e a w g→fG ops.toList a0 a→xf P gl ops aH base K fuel bI e→wpAny P .any ops Q fuel bI a w
 |0,_,e,a,w,g,hI,er,h=>⟨h.1,hQ e a w g hI h.2 er⟩
 |fuel+1,_,e,a,w,g,hI,er,h=>⟨fun h0=>hQ e a w g hI (h.1 h0) er,fun i hi=>by
   obtain⟨o,ho,hs⟩:=h.2 i hi
   exact Vq hI ho hs fun e' v w' g' hinv hk=>W0 hQ fuel _ e' _ w' g' hinv (er.Qy (by simpa using Array.mem_of_getElem? ho) v) hk⟩
theorem JH{l0:List Oper}{K:Env→Prop}{Q:Exit→Act→World→Prop}{a0:Act}{rest:List Nat}(hQ:∀e a w g,Inv gl w0 ar e a w g→K e→fG l0 a0 a→wpOps P ops Q rest a w):∀(l:List Oper)(i:Nat)(e:Env)(a:Act)(w:World)(g:Gh),
  (∀j,j<l.length→l[j]? =ops[i+j]?)→(∀o∈l,o∈l0)→Inv gl w0 ar e a w g→fG l0 a0 a→iE P gl (aG P gl) aH ops.toList base l i e K→wpOps P ops Q (List.range' i l.length++rest) a w
 |[],_,e,a,w,g,_,_,hI,er,h=>hQ e a w g hI h er
 |o::l,i,e,a,w,g,hl,hm,hI,er,h=>by
  have h0:ops[i]? =some o:=by simpa using(hl 0 (by simp)).symm
  rw[List.length_cons,List.range'_succ,List.cons_append,wpOps_cons]
  rw[Ac]at h
  exact Vq hI h0 h fun e' v w' g' hinv hk=>JH hQ l (i+1) e' _ w' g' (fun j hj=>by have:=hl (j+1) (by simpa using hj);simpa[Nat.add_assoc,Nat.add_comm 1 j]using this) (fun o ho=>hm o (List.mem_cons_of_mem _ ho)) hinv (er.Qy (hm o (by simp)) v) hk
theorem X4(hI:Inv gl w0 ar e a w g)(ej:oe aH ops=true)(lS:fM ops.toList ops.toList.length=0){K:Env→Prop}(h:iE P gl (aG P gl) aH ops.toList e.boxes.length ops.toList 0 e K):
  ∃g2,Inv gl w0 ar e a {w with drawn:=w.drawn+1} g2∧xf P gl ops aH e.boxes.length K ops.size (Array.replicate ops.size false) e:=by
 have bt:=hI.FL (fM ops.toList ops.toList.length)
 have HN:=hI.P0 (ops:=ops) (fM ops.toList ops.toList.length) rfl
 have he:(⟨e.ak,e.boxes++List.replicate (fM ops.toList ops.toList.length) .none⟩:Env)=e:=by rw[lS];cases e;simp
 have cq:=bt.drew
 have aM:(Array.replicate ops.size false).size =ops.size:=by simp
 obtain⟨E,vE,ej⟩:∃E,Js ops aH e.boxes.length _ E (Array.replicate ops.size false) ⟨e.ak,e.boxes++List.replicate (fM ops.toList ops.toList.length) .none⟩∧Ai E ops aH (reach [] ops.toList) ops.toList 0=true:=by
  unfold oe at ej
  cases fU:eligible ops.toList aH (reach [] ops.toList)with
  |true=>rw[fU]at ej;exact⟨_,fun A hA=>by cases hA;exact⟨rfl,OQ fU,HN⟩,ej⟩
  |false=>rw[fU]at ej;exact⟨none,fun A hA=>(by cases hA),ej⟩
 have:=JZ (P:=P) (gl:=gl) (base:=e.boxes.length) (aH:=aH) ops.toList 0 (Array.replicate ops.size false) _ (fun j=>by simp) (fun j hj=>by omega) (fun j _ hj=>by simp[hj]) aM
  (fun j o ho hl=>by
    have hj:j<ops.size:=(Array.getElem?_eq_some_iff.1 ho).1
    simp[hj]at hl) ⟨w0,ar,a,_,_,cq⟩ vE ej (by rw[he];exact h)
 rw[he]at cq this
 exact⟨_,cq,by simpa using this⟩
theorem Vr{draw ok:Bool}{m0 m1:Nat}{T:List Nat}(hf:BO ops draw ok m0 m1 T=true)(hd:draw=true){K:Env→Prop}(h:qV P gl (aG P gl) m0 m1 T ops.toList aH e K):
  ok=true∧fM ops.toList ops.toList.length=0∧iE P gl (aG P gl) aH ops.toList 0 ops.toList 0 (sE e) (fun e2=>zn e2 (K (tQ (ops.toList.filterMap (·.dst)) T e e2)) T):=by
 obtain⟨h1,h2,h3,h4,h5⟩:=IY hf
 rcases h2 with⟨rfl,rfl⟩|h2
 ·refine⟨h3,h1,?_⟩
  unfold qV at h
  simp only[List.take_zero,List.drop_zero,List.take_length,List.drop_length,iE]at h
  exact h
 ·rw[hd]at h2;cases h2
theorem aec(hI:Inv gl w0 ar e a w g){id:Nat}{draw ok:Bool}(ej:ok=(!draw||oe aH ops)){m0 m1:Nat}{T:List Nat}(hf:BO ops draw ok m0 m1 T=true){K:Env→Prop}{Q:Exit→Act→World→Prop}(hm:P.follows .mixedOrders =true)
  (h:qV P gl (aG P gl) m0 m1 T ops.toList aH e K)(hQ:∀e a w g,Inv gl w0 ar e a w g→K e→Q .normal a w):(Code.region id ops draw).wp P Q a w:=by
 cases draw with
 |true=>
  obtain⟨h1,h2,h3⟩:=Vr hf rfl h
  rw[h1]at ej
  refine wp_region_any hm ?_
  have hlen:∀{e2:Env},e2.ak.length=(sE e).ak.length →e2.ak.length=e.ak.length:=fun h=>by rw[h];simp[sE]
  have hID:Inv gl w0 ar e a {w with drawn:=w.drawn+1} g:=hI.drew
  obtain⟨g2,cq,Ch⟩:=X4 hI.KM (by simpa using ej.symm) h2 (xT _ _ _ h3)
  have aY:L6 {w with drawn:=w.drawn+1}=L6 w:=rfl
  refine W0 (a0:=a) (fun e2 a2 w2 g2 hinv hk er=>?_) _ _ _ _ _ _ cq (fG.refl _ _) Ch
  obtain⟨hk,oK,_⟩:=hk
  obtain⟨hK,hT⟩:=FN _ hk
  obtain⟨g',gC⟩:=hI.Kq (ws:=ops.toList.filterMap (fun o:Oper=>o.dst)) (T:=T) hinv (hlen oK) er hT
  exact hQ _ _ _ _ gC hK
 |false=>
  obtain⟨h1,_,_,h4,h5⟩:=IY hf
  unfold qV at h
  refine wp_region ?_
  have aM:ops.toList.length=ops.size:=by simp
  have hr:List.range ops.size=List.range' 0 (ops.toList.take m0).length ++(List.range' m0 ((ops.toList.drop m0).take m1).length ++(List.range' (m0+m1) ((ops.toList.drop m0).drop m1).length ++[])):=by
   rw[List.range_eq_range',List.append_nil]
   simp only[List.length_take,List.length_drop]
   rw[show min m0 ops.toList.length=m0 by omega,show min m1 (ops.toList.length-m0)=m1 by omega]
   have:=List.range'_append_1 (s:=m0) (m:=m1) (n:=ops.toList.length-m0-m1)
   rw[this]
   have:=List.range'_append_1 (s:=0) (m:=m0) (n:=m1+(ops.toList.length-m0-m1))
   rw[Nat.zero_add]at this
   rw[this]
   congr 1;omega
  rw[hr]
  refine JH (l0:=ops.toList.take m0) (a0:=a) (fun e1 a1 w1 g1 dn jr _=>?_) _ 0 e a w g (fun j hj=>?_) (fun _ h=>h) hI (fG.refl _ _) h
  ·refine JH (l0:=(ops.toList.drop m0).take m1) (a0:=a1) (fun e2 a2 w2 g2 cq jd rb=>?_) _ m0 _ a1 w1 _ (fun j hj=>?_) (fun _ h=>h) dn.KM (fG.refl _ _) (xT _ _ _ jr)
   ·obtain⟨jd,oK,_⟩:=jd
    obtain⟨hK,hT⟩:=FN _ jd
    obtain⟨g',gC⟩:=dn.Kq (ws:=((ops.toList.drop m0).take m1).filterMap (fun o:Oper=>o.dst)) (T:=T) cq (by rw[oK];simp[sE]) rb hT
    refine JH (P:=P) (Q:=Q) (rest:=[]) (l0:=(ops.toList.drop m0).drop m1) (a0:=a2) (fun e3 a3 w3 g3 gm RV _=>hQ _ _ _ _ gm RV) _ _ _ a2 w2 g' (fun j hj=>?_) (fun _ h=>h) gC (fG.refl _ _) hK
    rw[List.getElem?_drop,List.getElem?_drop,Array.getElem?_toList]
    congr 1;omega
   ·simp only[List.length_take]at hj
    rw[List.getElem?_take,if_pos (by omega),List.getElem?_drop,Array.getElem?_toList]
  ·simp only[List.length_take]at hj
   rw[List.getElem?_take,if_pos (by omega),Array.getElem?_toList,Nat.zero_add]
end
end Go.Proofs.Ytimbllcalipehaa.Ab
namespace Go.Proofs.Ytimbllcalipehaa.Ab
open Go Go.RowKit
section
variable{P:Program}{gl:Nat→Option D}{h:Hints}
def Gh.cut(g:Gh)(n:Nat):Gh:={g with bx:=g.bx.take n}
theorem F8{g:Gh}{n i:Nat}{x:Option Nat}(hi:i<n):(g.cut n).bx[i]? =some x↔g.bx[i]? =some x:=by
 simp only[Gh.cut];rw[List.getElem?_take,if_pos hi]
theorem Dh{g:Gh}{n i:Nat}{x:Option Nat}(h:(g.cut n).bx[i]? =some x):i<n∧g.bx[i]? =some x:=by
 simp only[Gh.cut]at h
 rw[List.getElem?_take]at h
 split at h
 ·exact⟨by assumption,h⟩
 ·cases h
theorem yc{g:Gh}{n:Nat}{x:Option Nat}(h:x∈(g.cut n).bx):x∈g.bx:=List.mem_of_mem_take h
theorem OT{base:Nat}{w:World}{g:Gh}{n:Nat}{p:Pos}{b a c:Nat}(h:fa base w g p b a c):fa base w (g.cut n) p b a c:=
 ⟨h.1,h.2.1,fun hm=>h.2.2.1 (yc hm),h.2.2.2⟩
theorem FO{base D4:Nat}{w w1:World}{g g1:Gh}{s:Slot}{v v1:Value}{O O1:Nat→Nat→Nat→Nat→Prop}(h0:cE D4 w g O s v)(h1:cE base w1 g1 O1 s v1){n:Nat}(hn:g.bx.length≤n):
  ∀O2,(∀x,s≠.v x)→(∀x,s≠.t x)→cE base w1 (g1.cut n) O2 s v1:=by
 have key:∀{s:Slot}{v1:Value}{O1:Nat→Nat→Nat→Nat→Prop},cE base w1 g1 O1 s v1→∀{O v},cE D4 w g O s v→∀O2,(∀j b a c,O1 j b a c→O2 j b a c)→cE base w1 (g1.cut n) O2 s v1:=by
  intro s v1 O1 h1
  induction h1 with
  |v O1 x y hx=>intro O v _ O2 hO;exact .v _ _ _ (hx.mono (fun _ _ h=>(by first|exact⟨h,rfl⟩|exact⟨h,.refl _ _ _⟩)) (fun _ _ _=>rfl) _ (fun b a c h=>⟨hO 0 b a c h,.refl _ _ _⟩))
  |p O1 b off ao hb=>
   intro O v h0 O2 hO
   obtain⟨Zr,_,vB⟩:=h0.o0
   have:=(List.getElem?_eq_some_iff.1 vB).1
   exact .p _ b off ao ((F8 (by omega)).2 hb)
  |a O1 b n1 H0 v hm hb=>
   intro O v h0 O2 hO
   cases h0 with
   |a _ _ _ _ _ _ vB=>
    obtain⟨Zr,_,vB,_⟩:=vB
    obtain⟨ao,cap,hb,h2,h3⟩:=hb
    have:=(List.getElem?_eq_some_iff.1 vB).1
    exact .a _ b n1 H0 _ hm ⟨ao,cap,(F8 (by omega)).2 hb,h2,h3⟩
  |m O1 b ao hb=>
   intro O v h0 O2 hO
   cases h0 with
   |m _ _ Zr vB=>
    have:=(List.getElem?_eq_some_iff.1 vB).1
    exact .m _ b ao ((F8 (by omega)).2 hb)
  |c O1 f first cap fv cv hf hc _ _ kB kC=>
   intro O v h0 O2 hO
   cases h0 with
   |c _ _ _ _ fv0 cv0 hf0 rE rf0 rc0=>
    refine .c _ f first cap fv cv hf hc (fun i x v hx hv=>?_) (fun i x v hx hv=>?_)
    ·have hi:i<fv0.size:=by rw[←hf0];exact(List.getElem?_eq_some_iff.1 hx).1
     exact kB i x v hx hv (rf0 i x fv0[i] hx (by simp)) _ (fun _ _ _ _ h=>h)
    ·have hi:i<cv0.size:=by rw[←rE];exact(List.getElem?_eq_some_iff.1 hx).1
     exact kC i x v hx hv (rc0 i x cv0[i] hx (by simp)) _ (fun _ _ _ _ h=>h)
  |t O1 xs vs hl hc=>
   intro O v _ O2 hO
   exact .t _ xs vs hl fun j x v a b=>(hc j x v a b).mono (fun _ _ h=>(by first|exact⟨h,rfl⟩|exact⟨h,.refl _ _ _⟩)) (fun _ _ _=>rfl) _ (fun b a c h=>⟨hO j b a c h,.refl _ _ _⟩)
 intro O2 hv ht
 cases h1 with
 |v _ x _ _=>exact absurd rfl (hv x)
 |t _ x _ _ _=>exact absurd rfl (ht x)
 |p _ b off ao hb=>exact key (.p O2 b off ao hb) h0 _ (fun _ _ _ _ h=>h)
 |a _ b n1 H0 _ hm hb=>exact key (.a O2 b n1 H0 _ hm hb) h0 _ (fun _ _ _ _ h=>h)
 |m _ b ao hb=>exact key (.m O2 b ao hb) h0 _ (fun _ _ _ _ h=>h)
 |c _ f first cap fv cv hf hc rf rc=>exact key (.c O2 f first cap fv cv hf hc rf rc) h0 _ (fun _ _ _ _ h=>h)
theorem NV{w0:World}{ar:S0}{e e1:Env}{a a1:Act}{w w1:World}{g g1:Gh}(hI:Inv gl w0 ar e a w g)(dn:Inv gl w0 ar e1 a1 w1 g1){b:Code}(hf:Fr h.gh b e e1){vars consts:List Nat}
  (hc:∀t∈consts,t∉da h.gh b):Inv gl w0 ar (again vars consts (wL e1 vars) (wD e.boxes.length e1) e) a1 w1 (g1.cut e.boxes.length):=by
 have hX:Ext w0.heap.size w1 g1 w1 {g1 with bx:=g1.bx} (fun _=>False):=⟨fun _ _ hb ho h=>⟨h,hb,ho,fun _ h=>h⟩,fun _ _ h=>(by first|exact⟨h,rfl⟩|exact⟨h,.refl _ _ _⟩),fun _ _ _=>rfl,fun _ _ h=>h,fun _ _ _ _ _ h=>⟨h,.refl _ _ _⟩,.refl _⟩
 refine⟨dn.below,?_,?_,?_,?_,?_,dn.gU,?_,?_,?_,dn.defers,fun D o hD=>(have h:=dn.fT D o hD;⟨fun hm=>h.1 (yc hm),h.2⟩),dn.cls,dn.kD⟩
 ·rw[dn.size,hf.1];simp[again,MQ]
 ·intro i s hs
  simp only[again,MS,Option.map_eq_some_iff,Nat.zero_add]at hs
  obtain⟨s0,lN,rfl⟩:=hs
  have h1:=kb dn i
  simp only[Act.eval]at h1
  split
  ·rename_i j hj
   obtain⟨_,rC⟩:=UL hj
   simp only[Nat.sub_zero]at rC
   have hv:ae (wL e1 vars) j=(e1.ak.getD i (.v .undef)).bW :=by
    simp[ae,wL,List.getD_eq_getElem?_getD,List.getElem?_map,rC]
   rw[hv]
   cases jq:e1.ak.getD i (.v .undef)with
   |v x=>
    rw[jq]at h1
    exact .v _ _ _ (h1.jV.mono (fun _ _ h=>(by first|exact⟨h,rfl⟩|exact⟨h,.refl _ _ _⟩)) (fun _ _ _=>rfl) _ (fun _ _ _ h=>⟨OT h,.refl _ _ _⟩))
   |_=>exact .v _ _ _ (.undef _ _)
  ·cases ei:consts.contains i with
   |false=>exact .v _ _ _ (.undef _ _)
   |true=>
    have RB:=hc i (by simpa using ei)
    have aY:=hf.2.2.1 i RB
    have akR:e.ak.getD i (.v .undef)=s0:=by rw[List.getD_eq_getElem?_getD,lN];rfl
    rw[akR]at aY
    have h0:=hI.ak i s0 lN
    cases s0 with
    |v x=>exact .v _ _ _ (.undef _ _)
    |t x=>exact .v _ _ _ (.undef _ _)
    |p b' off=>
     have gk:e1.ak.getD i (.v .undef)=.p b' off:=by
      revert aY
      cases e1.ak.getD i (.v .undef)<;>simp[Slot.stays]
     rw[gk]at h1
     exact FO h0 h1 (by rw[hI.fQ];exact Nat.le_refl _) _ (by simp) (by simp)
    |a b' n1 H0=>
     have gk:e1.ak.getD i (.v .undef)=.a b' n1 H0:=by
      revert aY
      cases e1.ak.getD i (.v .undef)<;>simp[Slot.stays]
     rw[gk]at h1
     exact FO h0 h1 (by rw[hI.fQ];exact Nat.le_refl _) _ (by simp) (by simp)
    |m b'=>
     have gk:e1.ak.getD i (.v .undef)=.m b':=by
      revert aY
      cases e1.ak.getD i (.v .undef)<;>simp[Slot.stays]
     rw[gk]at h1
     exact FO h0 h1 (by rw[hI.fQ];exact Nat.le_refl _) _ (by simp) (by simp)
    |c f first cap=>
     have gk:e1.ak.getD i (.v .undef)=.c f first cap:=by
      revert aY
      cases e1.ak.getD i (.v .undef)<;>simp[Slot.stays]<;>intros<;>simp_all
     rw[gk]at h1
     exact FO h0 h1 (by rw[hI.fQ];exact Nat.le_refl _) _ (by simp) (by simp)
 ·simp only[again,MR,Gh.cut,List.length_take,dn.fQ]
  have:=hf.2.1
  omega
 ·intro b' bx ao h1 h2
  obtain⟨aO,h2⟩:=Dh h2
  simp only[again,MT,Option.map_eq_some_iff,Nat.zero_add]at h1
  obtain⟨H3,akS,rfl⟩:=h1
  have Ld:b'<e1.boxes.length:=by rw[←dn.fQ];exact(List.getElem?_eq_some_iff.1 h2).1
  have hr:=dn.boxes b' e1.boxes[b'] ao (by simp) h2
  have Aw:=hf.2.2.2 b' aO
  rw[List.getD_eq_getElem?_getD,List.getD_eq_getElem?_getD,akS,List.getElem?_eq_getElem Ld,Option.getD_some,Option.getD_some]at Aw
  have ajD:an (wD e.boxes.length e1) b'=e1.boxes[b'].ax :=by
   simp[an,wD,List.getD_eq_getElem?_getD,List.getElem?_map,List.getElem?_take,aO,Ld]
  rw[ajD]
  generalize e1.boxes[b']=RW at hr Aw
  have Aw:H3≠.none ∧RW.isMap=H3.isMap:=by
   rcases Aw with h|h
   ·subst h;exact hr.elim
   ·exact h
  have tF:∀cs,RW.isMap=false→af.again cs H3=.cells cs:=fun cs h=>by
   rw[h]at Aw
   cases H3<;>first|rfl|exact absurd rfl Aw.1|exact absurd Aw.2 (by simp[af.isMap])
  cases RW with
  |none=>exact hr.elim
  |cells cs=>
   rw[tF _ rfl]
   obtain⟨r1,c,t,r2,r3,r4⟩:=hr
   exact⟨r1,c,t,r2,r3,r4.1,fun j x y hx hy=>(r4.2 j x y hx hy).mono (fun _ _ h=>(by first|exact⟨h,rfl⟩|exact⟨h,.refl _ _ _⟩)) (fun _ _ _=>rfl) _ (fun _ _ _ h=>⟨OT h,.refl _ _ _⟩)⟩
  |one s=>
   rw[tF _ rfl]
   obtain⟨r1,c,t,r2,r3,r4⟩:=hr
   refine⟨r1,c,t,r2,r3,Nat.succ_le_of_lt r4.1,fun j x y hx hy=>?_⟩
   have:x=.undef :=by
    cases j<;>simp[af.ax]at hx
    exact hx.symm
   subst this
   exact .undef _ _
  |map l=>
   cases H3 with
   |map l0=>
    obtain⟨r1,es,clock,r2,r3,r4⟩:=hr
    exact⟨r1,es,clock,r2,r3,r4⟩
   |_=>exact absurd Aw.2 (by simp[af.isMap])
 ·intro i j ao h1 h2
  exact dn.nodup i j ao (Dh h1).2 (Dh h2).2
 ·intro b' o h'
  exact⟨(dn.cW b' o h').1,fun hm=>(dn.cW b' o h').2.1 (yc hm),(dn.cW b' o h').2.2⟩
 ·intro b' h'
  exact dn.dF b' (yc h')
 ·exact dn.lg
theorem Jj{w0:World}{ar:S0}{e:Env}{a:Act}{w:World}{g:Gh}(hI:Inv gl w0 ar e a w g){key:Nat}{c:Code}{QA:Ex→Env→Prop}{T:(Ex→Env→Prop)→Prop}
  (hF:∀Q,T Q→T (fun ex e'=>Q ex e'∧Fr h.gh c e e'))(hh:tI h key c e QA T):
  ∃xJ,T xJ∧∀ex e' a' w' g',Inv gl w0 ar e' a' w' g'→xJ ex e'→∃nD zB,Inv gl w0 ar nD a' w' zB∧QA ex nD:=by
 unfold tI at hh
 generalize pG h.fk key=kk at hh
 obtain⟨vars,consts⟩:=kk
 cases vars<;>cases consts
 ·exact⟨_,hh,fun ex e' a' w' g' h1 h2=>⟨e',g',h1,h2⟩⟩
 all_goals
  obtain⟨hb,hh⟩:=pA (hh:cond _ _ False)
  simp only[Bool.and_eq_true,List.all_eq_true,Bool.not_eq_true',List.contains_eq_mem,decide_eq_false_iff_not]at hb
  refine⟨_,hF _ hh,fun ex e' a' w' g' h1 h2=>?_⟩
  obtain⟨h2,hf⟩:=h2
  cases ex with
  |normal=>exact⟨_,_,NV hI h1 hf hb.1,h2⟩
  |exit i=>exact⟨e',g',h1,h2⟩
  |ret=>exact⟨e',g',h1,h2⟩
theorem TP{id:Nat}{ops:Array Oper}{draw:Bool}{e:Env}(Q:Ex→Env→Prop)(hh:ot P gl (aG P gl) h id ops draw e (Q .normal)):
 ot P gl (aG P gl) h id ops draw e (fun e2=>Q .normal e2∧Fr h.gh (.region id ops draw) e e2):=UK hh
theorem afG{w0:World}{ar:S0}{e:Env}{a:Act}{w:World}{g:Gh}(hI:Inv gl w0 ar e a w g){id:Nat}{ops:Array Oper}{draw:Bool}{K:Env→Prop}{Q:Exit→Act→World→Prop}(hm:P.follows .mixedOrders =true)
  (hh:ot P gl (aG P gl) h id ops draw e K)(hQ:∀e a w g,Inv gl w0 ar e a w g→K e→Q .normal a w):(Code.region id ops draw).wp P Q a w:=by
 unfold ot at hh
 obtain⟨hb,hh⟩:=pA hh
 obtain⟨e1,g1,dn,h1⟩:=Dx hI hh
 have vG:∀e a w g,Inv gl w0 ar e a w g→hY (jT h.gh (4000000+id)) e K→Q .normal a w:=fun e a w g h1 h2=>by
  obtain⟨e2,g2,cq,h3⟩:=Dx h1 h2
  exact hQ e2 a w g2 cq h3
 cases hl:DM h.gh id with
 |some mT=>
  simp only[hl]at h1
  obtain⟨hf,h1⟩:=pA h1
  exact aec dn rfl hf hm h1 fun e' a' w' g' bt hk=>vG e' a' w' g' bt hk
 |none=>
 simp only[hl]at h1
 cases hs:yu P (BW h.gh id) draw ops.toList with
 |some s=>
  simp only[hs]at h1
  obtain⟨hd,RX⟩:=Nk hs
  subst hd
  have hr:=V9 dn RX h1
  refine wp_region ?_
  have:=WZ (ops:=ops) (Q:=Q) (fun a' w'⟨e',g',bt,hk⟩=>vG e' a' w' g' bt hk) ops.toList 0 (fun j=>by simp) hr
  rw[List.range_eq_range']
  simpa using this
 |none=>
  simp only[hs]at h1
  exact acU dn hm h1 fun e' a' w' g' bt hk=>vG e' a' w' g' bt hk
theorem UN{c:Operand}{a b:Code}{e:Env}(Q:Ex→Env→Prop)(hh:qT e c (aw P gl (aG P gl) h a Q) (aw P gl (aG P gl) h b Q)):
  qT e c (aw P gl (aG P gl) h a fun x e'=>Q x e'∧Fr h.gh (.cond c a b) e e') (aw P gl (aG P gl) h b fun x e'=>Q x e'∧Fr h.gh (.cond c a b) e e'):=
 Nl (A:=aw P gl (aG P gl) h a Q) (B:=aw P gl (aG P gl) h b Q)
     (fun ha=>nr a (fun y e2 hy=>⟨hy.1,hy.2.mono fun t ht=>by simp[da,ht]⟩) (tB a ha)) (fun hb=>nr b (fun y e2 hy=>⟨hy.1,hy.2.mono fun t ht=>by simp[da,ht]⟩) (tB b hb)) hh
theorem wB(hm:P.follows .mixedOrders =true):∀(c:Code){w0:World}{ar:S0}{QA:Ex→Env→Prop}{e:Env}{a:Act}{w:World}{g:Gh}{Q:Exit→Act→World→Prop},
  Inv gl w0 ar e a w g→aw P gl (aG P gl) h c QA e→(∀x e' a' w' g',Inv gl w0 ar e' a' w' g'→QA x e'→Q x.to a' w')→c.wp P Q a w
 | .skip,_,_,_,_,_,_,_,_,hI,hh,hQ=>wp_skip (hQ .normal _ _ _ _ hI hh)
 | .region id ops draw,w0,ar,QA,e,a,w,g,Q,hI,hh,hQ=>by
   obtain⟨xJ,hh,hj⟩:=Jj hI (c:=.region id ops draw) (T:=fun Q=>ot P gl (aG P gl) h id ops draw e (Q .normal)) (fun Q hh=>TP Q hh) hh
   have hQ:∀x e' a' w' g',Inv gl w0 ar e' a' w' g'→xJ x e'→Q x.to a' w':=fun x e' a' w' g' h1 h2=>(by
    obtain⟨nD,zB,h3,h4⟩:=hj x e' a' w' g' h1 h2
    exact hQ x nD a' w' zB h3 h4)
   clear hj
   exact afG hI hm hh fun e' a' w' g' bt hk=>hQ .normal e' a' w' g' bt hk
 | .seq x y,w0,ar,QA,e,a,w,g,Q,hI,hh,hQ=>by
   refine wp_seq (wB hm x hI hh fun ex e' a' w' g' bt hk=>?_)
   cases ex with
   |normal=>exact wB hm y bt hk hQ
   |exit i=>exact hQ (.exit i) e' a' w' g' bt hk
   |ret=>exact hQ .ret e' a' w' g' bt hk
 | .cond c x y,w0,ar,QA,e,a,w,g,Q,hI,hh,hQ=>by
   obtain⟨xJ,hh,hj⟩:=Jj hI (c:=.cond c x y) (T:=fun Q=>qT e c (aw P gl (aG P gl) h x Q) (aw P gl (aG P gl) h y Q)) (fun Q hh=>UN Q hh) hh
   have hQ:∀x e' a' w' g',Inv gl w0 ar e' a' w' g'→xJ x e'→Q x.to a' w':=fun x e' a' w' g' h1 h2=>(by
    obtain⟨nD,zB,h3,h4⟩:=hj x e' a' w' g' h1 h2
    exact hQ x nD a' w' zB h3 h4)
   clear hj
   cases c with
   |tmp t=>
    simp only[qT]at hh
    have hs:=kb hI t
    cases hx:e.ak.getD t (.v .undef)with
    |v z=>
     rw[hx]at hh hs
     obtain⟨b,rfl,h1,h2⟩:=Dw hh
     have hv:=hs.jV.data.wA
     refine wp_cond_split hv (fun hb=>?_) (fun hb=>?_)
     ·have:=h1 hb
      subst hb
      rw[xW hx]at this
      exact wB hm x hI this hQ
     ·have:=h2 hb
      subst hb
      rw[xW hx]at this
      exact wB hm y hI this hQ
    |_=>rw[hx]at hh;exact hh.elim
   |const v=>
    cases v with
    |bool b=>
     refine wp_cond_split (t:=b) rfl (fun hb=>?_) (fun hb=>?_)
     ·subst hb;exact wB hm x hI hh hQ
     ·subst hb;exact wB hm y hI hh hQ
    |_=>exact hh.elim
   |_=>exact hh.elim
 | .block id b,w0,ar,QA,e,a,w,g,Q,hI,hh,hQ=>by
   refine wp_block (wB hm b hI hh fun ex e' a' w' g' bt hk=>?_)
   cases ex with
   |normal=>exact hQ .normal e' a' w' g' bt hk
   |exit i=>
    have bU:cond (i==id) (QA .normal e') (QA (.exit i) e'):=hk
    show(if i=id then Q .normal a' w' else Q (.exit i) a' w')
    cases hb:(i==id)with
    |true=>
     rw[hb]at bU
     rw[if_pos (beq_iff_eq.1 hb)]
     exact hQ .normal e' a' w' g' bt bU
    |false=>
     rw[hb]at bU
     rw[if_neg (beq_eq_false_iff_ne.1 hb)]
     exact hQ (.exit i) e' a' w' g' bt bU
   |ret=>exact hQ .ret e' a' w' g' bt hk
 | .loop b,w0,ar,QA,e,a,w,g,Q,hI,hh,hQ=>by
   obtain⟨hb,hh⟩:=pA (hh:cond _ _ False)
   simp only[Bool.and_eq_true,List.all_eq_true,Bool.not_eq_true',List.contains_eq_mem,decide_eq_false_iff_not]at hb
   obtain⟨Qz,hk⟩:=hb
   let LW:Act→World→Prop:=fun a1 w1=>∀(fr:Frame)(k:List Item)(cs:List Frame),∃ex a' w',Q ex a' w'∧Arrives P (lone (fr.at a1 (.code b::.inLoop b::k)) cs w1) fr k cs ex a' w'
   let I:List SV→List (List SV)→Prop:=fun vs bs=>∀e1 a1 w1 g1,Inv gl w0 ar e1 a1 w1 g1→Fr h.gh b e e1→wL e1 (pG h.fk (oV b)).1=vs→wD e.boxes.length e1=bs→LW a1 w1
   have key:I _ _:=hh I fun vs bs hF e1 a1 w1 g1 dn oK lM jc=>by
    subst lM jc
    have RY:=NV hI dn oK (vars:=(pG h.fk (oV b)).1) Qz
    have kh:=wB hm b (Q:=fun ex a' w'=>match ex with| .normal =>LW a' w'|ex=>Q ex a' w') RY (tB b hF) (fun ex e' a' w' g' bt bU=>by
     obtain⟨jr,jd⟩:=bU
     cases ex with
     |normal=>exact jr e' a' w' g' bt ((JG hk).trans jd (fun t ht=>ht) (fun t ht=>ht)) rfl rfl
     |exit i=>exact hQ (.exit i) e' a' w' g' bt jr
     |ret=>exact hQ .ret e' a' w' g' bt jr)
    intro fr k cs
    obtain⟨ex,a2,w2,hq,oz⟩:=kh fr (.inLoop b::k) cs
    cases ex with
    |normal=>
     obtain⟨e₂,a₂,w₂,RZ,P2⟩:=hq fr k cs
     exact⟨e₂,a₂,w₂,RZ,.of_steps (Steps.trans oz (.one step_inLoop)) P2⟩
    |exit id=>exact⟨_,a2,w2,hq,.pass (x:=.inLoop b) rfl (fun _ _=>.inl (by simp)) oz⟩
    |goto l=>exact⟨_,a2,w2,hq,.pass (x:=.inLoop b) rfl (fun _ _=>.inl (by simp)) oz⟩
    |ret=>exact⟨_,a2,w2,hq,.pass (x:=.inLoop b) rfl (fun _ _=>.inl (by simp)) oz⟩
    |panic ch=>exact⟨_,a2,w2,hq,.pass (x:=.inLoop b) rfl (fun _ _=>.inl (by simp)) oz⟩
    |outgrown=>exact⟨_,a2,w2,hq,.pass (x:=.inLoop b) rfl (fun _ _=>.inl (by simp)) oz⟩
   have R0:LW a w:=key e a w g hI (Fr.refl _ _) rfl rfl
   intro fr k cs
   obtain⟨ex,a',w',hq,oz⟩:=R0 fr k cs
   exact⟨ex,a',w',hq,.of_steps (.one step_loop) oz⟩
 | .exit id,_,_,_,_,_,_,_,_,hI,hh,hQ=>wp_exit (hQ (.exit id) _ _ _ _ hI hh)
 | .ret,_,_,_,_,_,_,_,_,hI,hh,hQ=>wp_ret (hQ .ret _ _ _ _ hI hh)
 | .goto _,_,_,_,_,_,_,_,_,_,hh,_=>hh.elim
 | .label _,_,_,_,_,_,_,_,_,hI,hh,hQ=>wp_label (hQ .normal _ _ _ _ hI hh)
 | .scope _,_,_,_,_,_,_,_,_,_,hh,_=>hh.elim
 | .rangeFunc _ _ _ _,_,_,_,_,_,_,_,_,_,hh,_=>hh.elim
 | .refuse _,_,_,_,_,_,_,_,_,_,hh,_=>hh.elim
end
end Go.Proofs.Ytimbllcalipehaa.Ab
namespace Go.Proofs.Ytimbllcalipehaa.Ab
open Go Go.RowKit
section
variable{P:Program}{gl:Nat→Option D}{h:Hints}
theorem ac0{f:FuncId}{fn:Func}{c:Code}(hf:P.funcs[f]? =some fn)(P3:(fn.name== "runtime.NumGoroutine")=false)(hb:fn.body=some c):n0 P f:=by
 intro args w
 have h1:fn.name≠ "runtime.NumGoroutine" :=by simpa using P3
 simp[callFunc,hf,h1,hb]
theorem aP.D4{w:World}{St:Nat→Nat→Prop}{base:Nat}{O:Nat→Nat→Nat→Prop}{x:SV}{v:Value}(r:aP w St base O x v)(hx:x.aD=true):aP w St 0 O x v:=by
 have hL:∀{l:List SV},SV.iB l=true→∀(i:Nat)y,l[i]? =some y→y.aD=true:=by
  intro l
  induction l with
  |nil=>intro _ i y h;simp at h
  |cons z l ih=>
   intro h i y hy
   simp only[SV.iB,Bool.and_eq_true]at h
   cases i with
   |zero=>simp at hy;subst hy;exact h.1
   |succ i=>exact ih h.2 i y (by simpa using hy)
 induction r with
 |d O x v hd=>exact .d O x v hd
 |own O sz L g cap hd bM ho=>exact .own O sz L g cap hd bM ho
 |full O sz L a hd=>exact .full O sz L a hd
 |ref=>simp[SV.aD]at hx
 |cU=>simp[SV.aD]at hx
 |aX O x off b o vs hf aR hc=>exact .aX O x off b o vs hf aR hc
 |dT O f first cap fv cv hf hc _ _ kB kC=>
  simp only[SV.aD,Bool.and_eq_true]at hx
  exact .dT O f first cap fv cv hf hc (fun i x v a b=>kB i x v a b (hL hx.1 i x a)) (fun i x v a b=>kC i x v a b (hL hx.2 i x a))
 |aZ O sz L g cap vs h1 h2 h3 h4 h5 h6 h7=>exact .aZ O sz L g cap vs h1 h2 h3 h4 h5 h6 h7
 |mp O l r es clock hh hs hl hc=>exact .mp O l r es clock hh hs hl hc
 |nest O LL gg cap bk cp h1 h2 h3 h4 h5 h6=>exact .nest O LL gg cap bk cp h1 h2 h3 h4 h5 h6
 |undef O v=>exact .undef O v
theorem aP.afH{w:World}{St:Nat→Nat→Prop}{base:Nat}{O:Nat→Nat→Nat→Prop}{l:List SV}{v:Value}(r:aP w St base O (.aJ l) v):False:=by cases r
def By(r:ResultVar)(tmps:Array Value):Sem Value:=match r with
 | .tmp t=>pure (tmps.getD t undef)
 | .cell a t=>do loadVar t (←asAddr (tmps.getD a undef))
theorem ab3(fn:Func)(tmps:Array Value):results fn tmps=(fn.results.mapM fun r=>By r tmps)>>=fun vs=>pure (if h:vs.size=1 then vs[0]else .tuple vs):=by
 unfold results
 congr 1
def X5(rs:List ResultVar):Pos→Option Nat
 | .s t 0=>rs.findIdx? fun r=>match r with| .tmp u=>u==t|_=>false
 |_=>none
def yK(g:Gh)(rs:List ResultVar)(b:Nat):Option Nat:=(g.ow b).bind (X5 rs)
theorem Wa{w0:World}{ar:S0}{e:Env}{a:Act}{w:World}{g:Gh}(hI:Inv gl w0 ar e a w g){rs:List ResultVar}{used:List Nat}{j:Nat}{r:ResultVar}(hr:rs[j]? =some r)
  (ajE:∀i u,i<j→rs[i]? =some (.tmp u)→u∈used){k:SV→Prop}(hh:Cb P e used r k):
  ∃x v,k x∧(By r a.tmps).run P w=.ok v w∧aP w g.St 0 (yV w0.heap.size w g.St (yK g rs) j) x v:=by
 cases r with
 |tmp t=>
  simp only[Cb]at hh
  have hs:=kb hI t
  cases hx:e.ak.getD t (.v .undef)with
  |v x=>
   rw[hx]at hh hs
   obtain⟨hn,hk⟩:=hh
   refine⟨_,a.tmps.getD t undef,hk,rfl,?_⟩
   have hv:aP w g.St 0 (fO w0.heap.size w g t 0) x (a.tmps.getD t undef):=hs.jV.D4 hn
   cases hu:used.contains t with
   |true=>exact hv.aa
   |false=>
    refine hv.mono (fun _ _ h=>(by first|exact⟨h,rfl⟩|exact⟨h,.refl _ _ _⟩)) (fun _ _ _=>rfl) _ fun b a' c ho=>⟨?_,.refl _ _ _⟩
    obtain⟨o1,o2,_,o4,o5⟩:=ho
    refine⟨?_,o2,o4,o5⟩
    simp only[yK,o1,Option.bind_some,X5]
    rw[List.findIdx?_eq_some_iff_getElem]
    have hj:j<rs.length:=(List.getElem?_eq_some_iff.1 hr).1
    have RA:rs[j]=.tmp t:=(List.getElem?_eq_some_iff.1 hr).2
    refine⟨hj,by simp[RA],fun i hi=>?_⟩
    have pZ:i<rs.length:=by omega
    cases nO:rs[i]with
    |tmp u=>
     have:=ajE i u hi (by rw[List.getElem?_eq_getElem pZ,nO])
     have bf:u≠t:=by
      rintro rfl
      simp at hu
      exact hu this
     simpa using bf
    |cell _ _=>simp
  |_=>rw[hx]at hh;exact hh.elim
 |cell c t=>
  simp only[Cb]at hh
  obtain⟨ly,hl,hh⟩:=aN hh
  obtain⟨b0,n⟩:=ly
  have hs:=kb hI c
  cases hx:e.ak.getD c (.v .undef)with
  |p bn off=>
   rw[hx]at hh hs
   obtain⟨ao,hv,dM⟩:=hs.o0
   simp only[Act.eval]at hv
   change tD b0 n bn off e.boxes _ at hh
   unfold tD at hh
   split at hh
   ·rename_i cs ck
    obtain⟨y,hy,hn,hk⟩:=aN hh
    obtain⟨h0,cc,ty,hc,bY,hlen,bw⟩:=hI.boxes bn _ ao ck dM
    obtain⟨v,h1,h2⟩:=Ns (w:=w) (off:=off) (St:=g.St) (O:=fun j=>u6 w0.heap.size w g bn j) hl hy ao 0 (fun i=>cc.getD i undef) (fun i hi=>by
     rw[cell_of_row w ao (0+i) cc ty (0,0) hc];simp[Nat.lt_of_lt_of_le hi hlen]) (fun i d hd=>by
     have hi:=(List.getElem?_eq_some_iff.1 hd).1
     exact bw i d _ hd (by simp[Nat.lt_of_lt_of_le hi hlen])) (fun i hi=>by
     have fA:i<cc.size:=Nat.lt_of_lt_of_le hi hlen
     simp[fA];exact bY i _ hi (by simp))
    simp only[Nat.zero_add]at h1
    refine⟨_,v,hk,?_,(h2.aa (O':=fun _ _ _=>False)).D4 hn |>.mono (fun _ _ h=>(by first|exact⟨h,rfl⟩|exact⟨h,.refl _ _ _⟩)) (fun _ _ _=>rfl) _ (fun _ _ _ h=>h.elim)⟩
    simp[By,hv,asAddr,h1]
   ·rename_i s ph
    cases b0 with
    |true=>exact hh.elim
    |false=>
     simp only[cond_false]at hh
     split at hh
     ·obtain⟨h0,cc,ty,hc,bY,aM,bw⟩:=hI.boxes bn _ ao ph dM
      have HB:cc[0]? =some (cc[0]'(by omega)):=by simp
      have hd:=(bw _ HB).aa (O':=fun _ _ _ _=>False)
      split at hh
      ·rename_i x ee
       obtain⟨hn,hk⟩:=hh
       rw[ee]at hd
       refine⟨x,cc[0]'(by omega),hk,?_,hd.jV.D4 hn |>.mono (fun _ _ h=>(by first|exact⟨h,rfl⟩|exact⟨h,.refl _ _ _⟩)) (fun _ _ _=>rfl) _ (fun _ _ _ h=>h.elim)⟩
       have bq:=zV (P:=P) (w:=w) (vs:=fun _=>cc[0]'(by omega)) hl ao 0 (fun j hj=>by
        simp at hj;subst hj
        rw[cell_of_row w ao (0+0) cc ty (0,0) hc];exact HB)
       simp[By,hv,asAddr,bq]
      ·exact hh.elim
     ·exact hh.elim
   ·exact hh.elim
  |_=>rw[hx]at hh;exact hh.elim
theorem Vs{w0:World}{ar:S0}{e:Env}{a:Act}{w:World}{g:Gh}(hI:Inv gl w0 ar e a w g){rs:List ResultVar}:∀(l:List ResultVar)(used:List Nat)(j:Nat)(k:List SV→Prop),(∀i,l[i]? =rs[j+i]?)→
  (∀i u,i<j→rs[i]? =some (.tmp u)→u∈used)→B0 P e used l k→
  ∃xs vs,k xs∧xs.length=l.length∧(l.mapM fun r=>By r a.tmps).run P w=.ok vs w∧vs.length=l.length∧∀(i:Nat)x v,xs[i]? =some x→vs[i]? =some v→aP w g.St 0 (yV w0.heap.size w g.St (yK g rs) (j+i)) x v
 |[],_,_,k,_,_,hh=>⟨[],[],hh,rfl,by simp,rfl,fun i x v h=>by simp at h⟩
 |r::l,used,j,k,hl,hu,hh=>by
  simp only[B0]at hh
  have hr:rs[j]? =some r:=by simpa using(hl 0).symm
  obtain⟨x,v,hk,bq,bw⟩:=Wa hI hr hu hh
  obtain⟨xs,vs,bU,R1,ajF,CR,KI⟩:=Vs hI l (Kn used r) (j+1) _ (fun i=>by have:=hl (i+1);simpa[Nat.add_assoc,Nat.add_comm 1 i]using this) (fun i u hi nO=>by
   rcases Nat.lt_or_ge i j with h'|h'
   ·have:=hu i u h' nO
    cases r<;>simp[Kn,this]
   ·have:i=j:=by omega
    subst this
    rw[hr]at nO
    cases nO
    simp[Kn]) hk
  refine⟨x::xs,v::vs,bU,by simp[R1],?_,by simp[CR],fun i y u hy hv=>?_⟩
  ·simp[List.mapM_cons,bq,ajF]
  ·cases i with
   |zero=>simp at hy hv;subst hy hv;exact bw
   |succ i=>
    have:=KI i y u (by simpa using hy) (by simpa using hv)
    rw[show j+(i+1)=j+1+i by omega]
    exact this
theorem FB{fn:Func}{tmps:Array Value}{vs:List Value}{w:World}(hh:(fn.results.toList.mapM fun r=>By r tmps).run P w=.ok vs w):
  (results fn tmps).run P w=.ok (match vs with|[v]=>v|vs=>.tuple vs.toArray) w:=by
 rw[ab3,Array.mapM_eq_mapM_toList]
 simp only[Sem.run_bind,map_eq_pure_bind,hh,Result.andThen_ok,Sem.run_pure]
 match vs with
 |[]=>simp
 |[v]=>simp
 |v::u::l=>simp
theorem NC{w0:World}{ar:S0}{e:Env}{a:Act}{w:World}{g:Gh}(hI:Inv gl w0 ar e a w g){fn:Func}{K:SV→Prop}(hh:finish P fn e K):
  ∃r v,K r∧(results fn a.tmps).run P w=.ok v w∧yv w0.heap.size w g.St (yK g fn.results.toList) r v:=by
 unfold finish at hh
 split at hh
 ·rename_i r hr
  have R2:fn.results.toList[0]? =some r:=by rw[hr];rfl
  obtain⟨x,v,hk,bq,bw⟩:=Wa hI R2 (fun i u hi=>by omega) hh
  refine⟨x,v,hk,?_,?_⟩
  ·have:=FB (P:=P) (fn:=fn) (tmps:=a.tmps) (w:=w) (vs:=[v]) (by rw[hr];simp[bq])
   exact this
  ·cases x with
   |aJ l=>exact bw.afH.elim
   |_=>exact bw
 ·rename_i bf
  obtain⟨xs,vs,hk,R1,bq,CR,bw⟩:=Vs hI (rs:=fn.results.toList) fn.results.toList [] 0 _ (fun i=>by simp) (fun i u hi=>by omega) hh
  refine⟨.aJ xs,.tuple vs.toArray,hk,?_,vs.toArray,rfl,by simp[R1,CR],fun j x y hx hy=>?_⟩
  ·rw[FB bq]
   split
   ·rename_i v
    exfalso
    match R3:fn.results.toList with
    |[]=>rw[R3]at CR;simp at CR
    |[r]=>exact bf r R3
    |_::_::_=>rw[R3]at CR;simp at CR
   ·rfl
  ·have:=bw j x y hx (by simpa using hy)
   simpa using this
theorem cM(hm:P.follows .mixedOrders =true){f:FuncId}{args:List SV}{r:SV}(hE:n0 P f)(hh:body P gl (aG P gl) h f args fun x=>x=r)(ha:ou args=none:=by rfl):aG P gl f args r:=by
 rw[Bw ha]
 refine⟨hE,fun w St vs p9 oH hlen fI=>?_⟩
 unfold body at hh
 split at hh
 ·rename_i fn hf
  split at hh
  ·rename_i c hb
   have bJ:SV.iH args:=by
    rw[SV.mK]
    intro x hx
    obtain⟨i,hi,rfl⟩:=List.mem_iff_getElem.1 hx
    exact(fI i _ (vs[i]'(by omega)) (by simp) (by simp)).wf
   have hh:=hh bJ
   have hI:Inv gl w {St:=St,df:=fun _ _=>False,cl:=fun _ _ _=>False} (enter fn.ntmps args) {tmps:=vs++Array.replicate (fn.ntmps-vs.size) undef,defers:=[]} w ⟨St,[],fun _=>none⟩:=by
    refine⟨Below.refl _ _,by simp[enter,hlen],fun i s hs=>?_,rfl,fun b bx ao h1=>by simp[enter]at h1,fun i j ao h1=>by simp at h1,fun _ _ h=>h,fun b o hb=>⟨.inl hb,by simp,p9 b o hb⟩,fun b hb=>by simp at hb,oH,rfl,fun D o hD=>hD.elim,fun b o v hv=>hv.elim,Nat.zero_le _⟩
    simp only[enter]at hs
    rw[List.getElem?_append]at hs
    split at hs
    ·rename_i hi
     simp only[List.length_map]at hi
     simp only[List.getElem?_map,Option.map_eq_some_iff]at hs
     obtain⟨x,hx,rfl⟩:=hs
     have H4:i<vs.size:=by omega
     have:=fI i x vs[i] hx (by simp)
     have jF:(vs++Array.replicate (fn.ntmps-vs.size) undef).getD i undef=vs[i]:=by
      simp[Array.getElem?_append,H4]
     rw[jF]
     exact .v _ _ _ (this.mono (fun _ _ h=>(by first|exact⟨h,rfl⟩|exact⟨h,.refl _ _ _⟩)) (fun _ _ _=>rfl) _ (fun _ _ _ h=>h.elim))
    ·have:=(List.mem_replicate.1 (List.mem_of_getElem? hs)).2
     subst this
     exact .v _ _ _ (.undef _ _)
   refine calls_of_wp hf hb (wB hm c hI hh fun ex e' a' w' g' bt hk=>?_)
   have Ef:∀{K},finish P fn e' K→(∀x,K x→x=r)→a'.defers=[]∧∃v,(results fn a'.tmps).run P w'=.ok v w'∧(∃v',(Ending.returned v)=.returned v'∧Below w.heap.size w w'∧∃bS ow,(∀b o,St b o→bS b o)∧
     (∀b o,bS b o→St b o∨(w.heap.size≤b∧b<w'.heap.size))∧yv w.heap.size w' bS ow r v'):=by
    intro K hk hKr
    obtain⟨r',v,jr,bq,bw⟩:=NC bt hk
    have:=hKr r' jr
    subst this
    exact⟨bt.defers,v,bq,v,rfl,bt.below,g'.St,_,bt.gU,fun b o h=>(bt.cW b o h).1.imp id fun h1=>⟨h1,(bt.cW b o h).2.2⟩,bw⟩
   cases ex with
   |normal=>exact Ef hk fun x hx=>hx
   |exit i=>exact hk.elim
   |ret=>exact Ef hk fun x hx=>hx
  ·exact hh.elim
 ·exact hh.elim
end
end Go.Proofs.Ytimbllcalipehaa.Ab
namespace Go.Proofs.Ytimbllcalipehaa.Ab
open Go
def bm(x:SV):Option SV:=match x with| .cU n _ _=>some (.d (.int .i64 n))|x=>(match FK x with|some L=>some (.d (.int .i64 L.length))|none=>none)
def Pq(s:Nat)(x:SV)(lo hi mx:Option SV):Option SV:=match dA x with
 |some (.sl k sz L)=>(match GN L lo hi,mx with
  |some r,none=>(match k with| .nil =>some (.d (.sl .nil s []))| .ro =>if sz=s then some (.d (.sl .ro sz r))else none)
  |some r,some m=>(match hi,cN m (L.length+1)with
   |some h,some _=>(match h,m with
    | .d (.int _ a),.d (.int _ b)=>if a=b then(match k with| .nil =>some (.d (.sl .nil s []))| .ro =>if sz=s then some (.full sz r)else none)else none
    |_,_=>none)
   |_,_=>none)
  |none,_=>none)
 |_=>none
def aS:List (Nat×Slot)→Option (List (Nat×D))
 |[]=>some []
 |(i,s)::l=>match s with
  | .v y=>(match dA y with
    |some z=>(match aS l with|some r=>some ((i,z)::r)|none=>none)
    |none=>none)
  |_=>none
end Go.Proofs.Ytimbllcalipehaa.Ab
