/-
  THE ABSTRACT WALK: what is known is seen in another way.
-/
import Derived.Test.YtaknajjmldngiaaTb
import Derived.ChangeStays
import Derived.ChangeSame
import Derived.OpenShut
import Derived.Carry
import Derived.Lib.LaidTab
import Derived.ControlIn
import Derived.OrdersIn
import Derived.TacticsIn
import Derived.RangeFuncCalls
import Derived.RangeFuncNested
import Derived.RangeFuncRecord
set_option linter.unusedVariables false
set_option linter.unusedSimpArgs false
namespace Go.Proofs.Ytaknajjmldngiaa.Ab
open Go Go.RowKit
def oL(n:Nat)(e e':Env):Prop:=∀i,i<n→e'.boxes.getD i .none =.none ∨(e.boxes.getD i .none ≠.none ∧(e'.boxes.getD i .none).isMap =(e.boxes.getD i .none).isMap)
theorem oL.refl(n:Nat)(e:Env):oL n e e:=fun i _=>by
 by_cases h:e.boxes.getD i .none =.none
 ·exact .inl h
 ·exact .inr ⟨h,rfl⟩
theorem oL.trans{n m:Nat}{e e1 e2:Env}(om:n≤m)(h1:oL n e e1)(h2:oL m e1 e2):oL n e e2:=fun i hi=>by
 rcases h2 i (by omega)with h|⟨h3,h4⟩
 ·exact .inl h
 ·rcases h1 i hi with h|⟨h5,h6⟩
  ·exact absurd h h3
  ·exact .inr ⟨h5,h4.trans h6⟩
section
variable{P:Program}{gl:Nat→Option D}{w0:World}{an:S0}{e:Env}{a:Act}{w:World}{g:Gh}
theorem Jp{sz:Nat}:∀{L:List D}{i j:Nat}{x c:D},(∀x∈L,x.cells.length=sz)→L[i]? =some x→x.cells[j]? =some c→(bV L)[i*sz+j]? =some (.d c)
 |[],i,j,x,c,_,h,_=>by simp at h
 |y::L,0,j,x,c,hs,h,hc=>by
  simp at h;subst h
  simp only[bV,Nat.zero_mul,Nat.zero_add]
  rw[List.getElem?_append_left (by simp[(List.getElem?_eq_some_iff.1 hc).1]),List.getElem?_map,hc];rfl
 |y::L,i+1,j,x,c,hs,h,hc=>by
  have hy:=hs y (by simp)
  simp only[bV]
  rw[List.getElem?_append_right (by simp[hy,Nat.succ_mul];omega)]
  have:(i+1)*sz+j-(y.cells.map SV.d).length =i*sz+j:=by simp[hy,Nat.succ_mul];omega
  rw[this]
  exact Jp (fun x hx=>hs x (by simp[hx])) (by simpa using h) hc
theorem CO{sz:Nat}:∀{L:List D},(∀x∈L,x.cells.length=sz)→(bV L).length =L.length*sz
 |[],_=>by simp[bV]
 |y::L,hs=>by
  simp only[bV,List.length_append,List.length_map,List.length_cons,hs y (by simp),Nat.succ_mul]
  rw[CO fun x hx=>hs x (by simp[hx])];omega
theorem JZ{sz:Nat}{L:List D}(hs:∀x∈L,x.cells.length=sz){o:Nat}{y:SV}(h:(bV L)[o]? =some y):∃i x j c,L[i]? =some x∧x.cells[j]? =some c∧o=i*sz+j∧y=.d c:=by
 have ho:o<L.length*sz:=by rw[←CO hs];exact(List.getElem?_eq_some_iff.1 h).1
 have aB:0<sz:=by
  rcases Nat.eq_zero_or_pos sz with h0|h0
  ·subst h0;simp at ho
  ·exact h0
 have hq:o / sz<L.length:=Nat.div_lt_of_lt_mul (by rw[Nat.mul_comm];exact ho)
 have uQ:=Nat.mod_lt o aB
 have hc:(L[o / sz]).cells[o % sz]? =some ((L[o / sz]).cells[o % sz]'(by rw[hs _ (List.getElem_mem hq)];exact uQ)):=by simp
 have heq:o / sz*sz+o % sz=o:=by rw[Nat.mul_comm];exact Nat.div_add_mod o sz
 refine⟨o / sz,L[o / sz],o % sz,_,List.getElem?_eq_getElem hq,hc,heq.symm,?_⟩
 have:=Jp hs (List.getElem?_eq_getElem hq) hc
 rw[heq,h]at this
 exact Option.some.inj this
theorem SN(hI:Inv gl w0 an e a w g){t:Nat}{x:SV}(hx:e.ai.getD t (.v .undef)=.v x)(hm:∃sz L,x=.bj sz L):
  ∃sz L g',x=.bj sz L∧Inv gl w0 an ⟨e.ai.set t (.a e.boxes.length L.length sz),e.boxes++[.cells (bV L)]⟩ a w g':=by
 have hs:=kK hI t
 rw[hx]at hs
 have hv:=hs.jG
 have BC:∀(y:Option Nat)(i:Nat)aj,(g.bx++[y])[i]? =some (some aj)→(i<e.boxes.length∧g.bx[i]? =some (some aj))∨(i=e.boxes.length∧y=some aj):=by
  intro y i aj h
  rw[List.getElem?_append,hI.er]at h
  split at h
  ·exact .inl ⟨by assumption,h⟩
  ·rename_i hi
   right
   have:i-e.boxes.length=0:=by
    rcases Nat.eq_zero_or_pos (i-e.boxes.length)with h0|h0
    ·exact h0
    ·rw[List.getElem?_eq_none (by simp;omega)]at h;cases h
   rw[this]at h
   simp at h
   exact⟨by omega,h⟩
 have build:∀(L:List D)(sz:Nat)(y:Option Nat)(g':Gh),g'.bx=g.bx++[y]→g'.St=g.St→Ext w0.heap.size w g w g' (fun p=>∃j,p=.s t j)→
   (∀(i j:Nat)aj,g'.bx[i]? =some (some aj)→g'.bx[j]? =some (some aj)→i=j)→(∀b,y=some b→w0.heap.size≤b∧b<w.heap.size∧∀o,¬g.St b o)→
   bM w0.heap.size w g' (fT w0.heap.size w g' t) (.a e.boxes.length L.length sz) (a.tmps.getD t undef)→(∀aj,y=some aj→mI w0.heap.size w g' e.boxes.length (.cells (bV L)) aj)→
   Inv gl w0 an ⟨e.ai.set t (.a e.boxes.length L.length sz),e.boxes++[.cells (bV L)]⟩ a w g':=by
  intro L sz y g' cR bB hX nk hy na WL
  refine⟨hI.below,by simp[hI.size],fun i s ew=>?_,by rw[cR];simp[hI.er],fun b bx aj h1 h2=>?_,nk,fun b o h=>by rw[bB];exact hI.eZ b o h,fun b o h=>?_,fun b h=>?_,hI.js.ext hX,hI.defers,fun D o hD=>(have h:=hI.ec D o hD;have k:=hX.df D o h.1 h.2.1 h.2.2.1;⟨k.2.1,k.2.2.1,k.1,fun x hx=>h.2.2.2 x (k.2.2.2 x hx)⟩),fun b o v hv=>(have h:=hI.cls b o v hv;⟨(hX.st b o h.1).1,(hX.st b o h.1).2.1.trans h.2⟩),hI.iX⟩
  ·rw[List.getElem?_set]at ew
   split at ew
   ·rename_i j8
    subst j8
    split at ew
    ·cases ew;exact na
    ·cases ew
   ·rename_i j8
    exact hX.slot (fun j=>by rintro⟨j',hj⟩;cases hj;exact j8 rfl) (hI.ai i s ew)
  ·rw[cR]at h2
   rcases BC y b aj h2 with⟨aS,h3⟩|⟨rfl,h3⟩
   ·simp only at h1
    rw[List.getElem?_append_left aS]at h1
    exact hX.box (fun j=>by rintro⟨j',hj⟩;cases hj) rfl (hI.boxes b bx aj h1 h3)
   ·simp at h1
    subst h1
    exact WL aj h3
  ·rw[bB]at h
   refine⟨(hI.bT b o h).1,fun hm=>?_,(hI.bT b o h).2.2⟩
   rw[cR]at hm
   rcases List.mem_append.1 hm with hm|hm
   ·exact(hI.bT b o h).2.1 hm
   ·simp at hm
    exact(hy b hm.symm).2.2 o h
  ·rw[cR]at h
   rcases List.mem_append.1 h with h|h
   ·exact hI.cU b h
   ·simp at h
    exact⟨(hy b h.symm).1,(hy b h.symm).2.1⟩
 obtain⟨sz,L,rfl⟩:=hm
 have vq:a.eval (.tmp t)=a.tmps.getD t undef:=rfl
 rw[vq]at hv
 generalize fq:a.tmps.getD t undef=v at hv
 cases hv with
 |bj _ _ _ gg cap vs bq hm aB hf ho aN hc=>
  obtain⟨o1,o2,o3,⟨cur,te,o4,oe⟩,o5⟩:=ho
  let g':Gh:={g with bx:=g.bx++[some gg]}
  have hX:Ext w0.heap.size w g w g' (fun p=>∃j,p=.s t j):=by
   refine⟨fun D ob hb dh h=>⟨h,(fun hm=>by
    rcases List.mem_append.1 hm with hm|hm
    ·exact hb hm
    ·simp at hm
     subst hm
     rw[o1]at dh
     cases dh),dh,fun _ h=>h⟩,fun _ _ h=>⟨h,.refl _ _ _⟩,fun _ _ _=>rfl,fun i aj h=>?_,fun p b a' c hp bJ=>⟨?_,.refl _ _ _⟩,.refl _⟩
   ·show(g.bx++[some gg])[i]? =_
    rw[List.getElem?_append_left (List.getElem?_eq_some_iff.1 h).1];exact h
   ·obtain⟨p1,p2,p3,p4,p5⟩:=bJ
    refine⟨p1,p2,fun hm=>?_,p4,p5⟩
    rcases List.mem_append.1 hm with hm|hm
    ·exact p3 hm
    ·simp at hm
     subst hm
     rw[o1]at p1
     cases p1
     exact hp ⟨0,rfl⟩
  have hlen:(bV L).length =L.length*sz:=CO aB
  have Fb:L.length*sz≤cap*sz:=Nat.mul_le_mul_right _ bq
  refine⟨sz,L,g',rfl,build L sz (some gg) g' rfl rfl hX ?_ ?_ ?_ ?_⟩
  ·intro i j aj h1 h2
   have no:∀(i:Nat),g.bx[i]? =some (some gg)→False:=fun i h=>o3 (List.mem_of_getElem? h)
   rcases BC (some gg) i aj h1 with⟨h3,h4⟩|⟨h3,h4⟩
   ·rcases BC (some gg) j aj h2 with⟨h5,h6⟩|⟨h5,h6⟩
    ·exact hI.nodup i j aj h4 h6
    ·cases h6;exact(no i h4).elim
   ·rcases BC (some gg) j aj h2 with⟨h5,h6⟩|⟨h5,h6⟩
    ·cases h4;exact(no j h6).elim
    ·omega
  ·intro b hb
   cases hb
   exact⟨o2,(Array.getElem?_eq_some_iff.1 o4).1,fun o=>o5 o (Nat.zero_le _)⟩
  ·rw[fq]
   refine .a _ _ _ _ _ (Nat.le_trans bq hm) ⟨gg,cap,?_,bq,rfl,hm,cur,te,o4,oe⟩
   show(g.bx++[some gg])[e.boxes.length]? =_
   rw[←hI.er];simp
  ·intro aj b6
   cases b6
   have nn:∀(o:Nat)y,o<(bV L).length →cur[o]? =some y→y=vs o:=by
    intro o y ho hy
    have h1:=aN o (by rw[←hlen];exact ho)
    rw[cell_of_row w gg o cur te (0,0) o4,hy]at h1
    exact Option.some.inj h1
   refine⟨o2,cur,te,o4,fun j y hj hy=>?_,by rw[hlen,oe];exact Fb,fun j x y hx hy=>?_⟩
   ·have jM:j<(bV L).length :=hj
    obtain⟨i,x,k,c,h1,h2,rfl,_⟩:=JZ aB (List.getElem?_eq_getElem jM)
    rw[nn _ y jM hy]
    exact(hc i x k c h1 h2).pX (hf x (List.mem_of_getElem? h1) c (List.mem_of_getElem? h2))
   ·have jM:=(List.getElem?_eq_some_iff.1 hx).1
    obtain⟨i,x',k,c,h1,h2,rfl,rfl⟩:=JZ aB hx
    rw[nn _ y jM hy]
    exact .d _ _ _ (hc i x' k c h1 h2)
theorem Aq(b:Nat)(r:Nat→SV)(rm:SV)(ts:List Nat):∀(l:List Slot)(k i:Nat),(kj b r rm ts l k)[i]? =(l[i]?).map fun s=>bif ts.contains (k+i)then wN b r rm s else s
 |[],_,_=>by simp[kj]
 |s::l,k,i=>by
  cases i with
  |zero=>simp[kj]
  |succ i=>
   simp only[kj,List.getElem?_cons_succ]
   rw[Aq b r rm ts l (k+1) i,show k+1+i=k+(i+1) by omega]
theorem vX(b:Nat)(r:Nat→SV)(rm:SV)(ts:List Nat):∀(l:List Slot)(k:Nat),(kj b r rm ts l k).length =l.length
 |[],_=>rfl
 |_::l,k=>by simp[kj,vX b r rm ts l (k+1)]
theorem IC{b:Nat}{ts:List Nat}:∀{l:List Slot}{k:Nat},qk b ts l k=true→∀(i:Nat)s,l[i]? =some s→ts.contains (k+i)=false→s.has b=false
 |[],_,_,i,s,h,_=>by simp at h
 |s'::l,k,hk,i,s,h,hc=>by
  simp only[qk,Bool.and_eq_true]at hk
  cases i with
  |zero=>
   simp at h;subst h
   have:=hk.1
   rw[Nat.add_zero]at hc
   rw[hc]at this
   simpa using this
  |succ i=>exact IC hk.2 i s (by simpa using h) (by rw[show k+1+i=k+(i+1) by omega];exact hc)
theorem Ak{b:Nat}:∀{l:List af},nP b l=true→∀(i:Nat)s,l[i]? =some (.one s)→s.has b=false
 |[],_,i,s,h=>by simp at h
 |x::l,hk,i,s,h=>by
  cases i with
  |zero=>
   simp at h;subst h
   simp only[nP,Bool.and_eq_true]at hk
   simpa using hk.1
  |succ i=>
   have dj:nP b l=true:=by cases x<;>simp only[nP,Bool.and_eq_true]at hk<;>first|exact hk|exact hk.2
   exact Ak dj i s (by simpa using h)
theorem Df{b:Nat}:∀{l:List Slot},Slot.rD b l=false→∀(i:Nat)s,l[i]? =some s→s.has b=false
 |[],_,i,s,h=>by simp at h
 |x::l,hk,i,s,h=>by
  simp only[Slot.rD,Bool.or_eq_false_iff]at hk
  cases i with
  |zero=>simp at h;subst h;exact hk.1
  |succ i=>exact Df hk.2 i s (by simpa using h)
theorem bM.LU{base:Nat}{g':Gh}{b:Nat}(bB:∀b' o,g.St b' o→g'.St b' o)(cR:∀(i:Nat)aj,i≠b→g.bx[i]? =some (some aj)→g'.bx[i]? =some (some aj)){O:Nat→Nat→Nat→Nat→Prop}{s:Slot}{v:Value}
  (r:bM base w g O s v):∀{O':Nat→Nat→Nat→Nat→Prop},(∀j b a c,O j b a c→O' j b a c)→s.has b=false→bM base w g' O' s v:=by
 induction r with
 |v O x y h=>intro O' hO _;exact .v _ _ _ (h.mono (fun b o h=>⟨bB b o h,.refl _ _ _⟩) (fun _ _ _=>rfl) _ (fun _ _ _ h=>⟨hO 0 _ _ _ h,.refl _ _ _⟩))
 |p O b' off aj h=>intro O' _ hh;exact .p _ _ _ _ (cR _ _ (by simpa[Slot.has]using hh) h)
 |a O b' n sz v hm h=>intro O' _ hh;exact .a _ _ _ _ _ hm (by obtain⟨aj,cap,h1,h2,h3⟩:=h;exact⟨aj,cap,cR _ _ (by simpa[Slot.has]using hh) h1,h2,h3⟩)
 |m O b' aj h=>intro O' _ hh;exact .m _ _ _ (cR _ _ (by simpa[Slot.has]using hh) h)
 |c O f first cap fv cv hf hc _ _ iV iW=>
  intro O' _ hh
  simp only[Slot.has,Bool.or_eq_false_iff]at hh
  exact .c _ f first cap fv cv hf hc (fun i x v h1 h2=>iV i x v h1 h2 (fun _ _ _ _ h=>h) (Df hh.1 i x h1)) (fun i x v h1 h2=>iW i x v h1 h2 (fun _ _ _ _ h=>h) (Df hh.2 i x h1))
 |t O xs vs hl hc=>intro O' hO _;exact .t _ xs vs hl fun j x v h1 h2=>(hc j x v h1 h2).mono (fun b o h=>⟨bB b o h,.refl _ _ _⟩) (fun _ _ _=>rfl) _ (fun _ _ _ h=>⟨hO j _ _ _ h,.refl _ _ _⟩)
def vr(l:List Slot):Option (Nat×SV)→List Slot
 |none=>l
 |some (t,x)=>l.set t (.v x)
theorem Dy(hI:Inv gl w0 an e a w g){b:Nat}{ts:List Nat}{r:Nat→SV}{rm:SV}(gT:qk b ts e.ai 0=true){S:Nat→Nat→Prop}(hS:∀b' o,S b' o→g.bx[b]? =some (some b'))
  {cp:List af}(gp:cp.length=e.boxes.length){ov:Option (Nat×SV)}{xz:Nat→Option Pos}(qF:∀b',some b'∉g.bx→xz b'=g.ow b')(g':Gh)(ig:g'={St:=fun b' o=>g.St b' o∨S b' o,bx:=g.bx.set b none,ow:=xz})
  (TU:∀(i:Nat)bx aj,i≠b→cp[i]? =some bx→g.bx[i]? =some (some aj)→(e.boxes[i]? =some bx∧∀s,bx=.one s→s.has b=false)∨mI w0.heap.size w g' i bx aj)
  (Gm:∀t x,ov=some (t,x)→aG w g'.St w0.heap.size (fT w0.heap.size w g' t 0) x (a.tmps.getD t undef))
  (hr:(∀(n sz:Nat)(v:Value),bM w0.heap.size w g (fun _ _ _ _=>False) (Slot.a b n sz) v→aG w g'.St w0.heap.size (fun _ _ _=>False) (r n) v)∧
    (∀(v:Value),bM w0.heap.size w g (fun _ _ _ _=>False) (Slot.m b) v→aG w g'.St w0.heap.size (fun _ _ _=>False) rm v)):
  Inv gl w0 an ⟨(vr (kj b r rm ts e.ai 0) ov),cp⟩ a w g':=by
 subst ig
 let g':Gh:={St:=fun b' o=>g.St b' o∨S b' o,bx:=g.bx.set b none,ow:=xz}
 have Gn:∀b' o,S b' o→some b'∈g.bx:=fun b' o h=>List.mem_of_getElem? (hS b' o h)
 have cR:∀(i:Nat)aj,i≠b→g.bx[i]? =some (some aj)→g'.bx[i]? =some (some aj):=fun i aj hi h=>by
  show(g.bx.set b none)[i]? =_
  rw[List.getElem?_set_ne (fun h=>hi h.symm)];exact h
 have yS:∀(i:Nat)aj,g'.bx[i]? =some (some aj)→i≠b∧g.bx[i]? =some (some aj):=fun i aj h=>by
  have h:(g.bx.set b none)[i]? =some (some aj):=h
  rw[List.getElem?_set]at h
  split at h
  ·split at h<;>simp at h
  ·rename_i hi;exact⟨fun h=>hi h.symm,h⟩
 have dq:∀b',some b'∈g'.bx→some b'∈g.bx:=fun b' h=>by
  obtain⟨i,hi⟩:=List.mem_iff_getElem?.1 h
  exact List.mem_of_getElem? (yS i b' hi).2
 have gn:∀p b' a' c,fe w0.heap.size w g p b' a' c→fe w0.heap.size w g' p b' a' c:=by
  rintro p b' a' c ⟨h1,h2,h3,h4,h5⟩
  exact⟨(qF b' h3).trans h1,h2,fun hm=>h3 (dq b' hm),h4,fun o ho=>by rintro(h|h);exact h5 o ho h;exact h3 (Gn b' o h)⟩
 have bB:∀b' o,g.St b' o→g'.St b' o:=fun _ _ h=>.inl h
 have jL:(vr (kj b r rm ts e.ai 0) ov).length =e.ai.length:=by
  cases ov with
  |none=>exact vX _ _ _ _ _ _
  |some p=>simp[vr,vX]
 refine⟨hI.below,by rw[jL];exact hI.size,fun i s hs=>?_,by simp[hI.er,gp],fun i bx aj h1 h2=>?_,fun i j aj h1 h2=>hI.nodup i j aj (yS i aj h1).2 (yS j aj h2).2,fun b' o h=>.inl (hI.eZ b' o h),fun b' o h=>?_,fun b' h=>hI.cU b' (dq b' h),?_,hI.defers,fun D o hD=>(have h:=hI.ec D o hD;⟨fun hm=>h.1 (dq D hm),(qF D h.1).trans h.2.1,h.2.2.1,fun x hx=>h.2.2.2 x (hx.elim id fun e=>absurd (Gn D x e) h.1)⟩),fun b o v hv=>(have h:=hI.cls b o v hv;⟨.inl h.1,h.2⟩),hI.iX⟩
 ·have hs:(∃x,ov=some (i,x)∧s=.v x)∨(kj b r rm ts e.ai 0)[i]? =some s:=by
   cases Mf:ov with
   |none=>rw[Mf]at hs;exact .inr hs
   |some p=>
    obtain⟨t,x⟩:=p
    rw[Mf]at hs
    simp only[vr,List.getElem?_set]at hs
    split at hs
    ·rename_i j8
     subst j8
     split at hs
     ·cases hs;exact .inl ⟨x,rfl,rfl⟩
     ·cases hs
    ·exact .inr hs
  rcases hs with⟨x,hx,rfl⟩|hs
  ·exact .v _ _ _ (Gm i x hx)
  simp only[Aq,Option.map_eq_some_iff,Nat.zero_add]at hs
  obtain⟨s0,ie,rfl⟩:=hs
  have h0:=hI.ai i s0 ie
  have cY:s0.has b=false→bM w0.heap.size w g' (fT w0.heap.size w g' i) s0 (a.tmps.getD i undef):=fun hh=>h0.LU bB cR (fun j b' a' c ho=>gn _ b' a' c ho) hh
  cases hc:ts.contains i with
  |false=>exact cY (IC gT i s0 ie (by simpa using hc))
  |true=>
   simp only[cond_true]
   have Lh:∀v,bM w0.heap.size w g' (fT w0.heap.size w g' i) (.v .undef) v:=fun v=>.v _ _ _ (.undef _ _)
   have lift:∀{x v},aG w g'.St w0.heap.size (fun _ _ _=>False) x v→bM w0.heap.size w g' (fT w0.heap.size w g' i) (.v x) v:=fun h=>.v _ _ _ (h.mono (fun _ _ h=>⟨h,.refl _ _ _⟩) (fun _ _ _=>rfl) _ (fun _ _ _ h=>h.elim))
   cases s0 with
   |v x=>exact cY rfl
   |t x=>exact cY rfl
   |p b' off=>
    simp only[wN]
    cases hb:b'==b with
    |true=>exact Lh _
    |false=>exact cY (by simp[Slot.has,hb])
   |a b' n sz=>
    simp only[wN]
    cases hb:b'==b with
    |true=>
     have:=beq_iff_eq.1 hb
     subst this
     exact lift (hr.1 n sz _ h0.aa)
    |false=>exact cY (by simp[Slot.has,hb])
   |m b'=>
    simp only[wN]
    cases hb:b'==b with
    |true=>
     have:=beq_iff_eq.1 hb
     subst this
     exact lift (hr.2 _ h0.aa)
    |false=>exact cY (by simp[Slot.has,hb])
   |c f x y=>
    simp only[wN]
    cases hb:(Slot.rD b x||Slot.rD b y)with
    |true=>exact Lh _
    |false=>exact cY (by simp only[Slot.has,hb])
 ·obtain⟨bm,oh⟩:=yS i aj h2
  rcases TU i bx aj bm h1 oh with⟨rY,Gp⟩|hb
  rotate_left
  ·exact hb
  have hb:=hI.boxes i bx aj rY oh
  cases bx with
  |none=>exact hb.elim
  |cells cs=>
   obtain⟨q0,c,t,q1,q2,q3⟩:=hb
   exact⟨q0,c,t,q1,q2,q3.1,fun j x y hx hy=>(q3.2 j x y hx hy).mono (fun b' o h=>⟨bB b' o h,.refl _ _ _⟩) (fun _ _ _=>rfl) _ (fun _ _ _ h=>⟨gn _ _ _ _ h,.refl _ _ _⟩)⟩
  |one s=>
   obtain⟨q0,c,t,q1,q2,q3⟩:=hb
   exact⟨q0,c,t,q1,q2,q3.1,fun y hy=>(q3.2 y hy).LU bB cR (fun _ _ _ _ h=>gn _ _ _ _ h) (Gp s rfl)⟩
  |map l=>
   obtain⟨q0,es,clock,q1,q2,q3⟩:=hb
   exact⟨q0,es,clock,q1,q2,fun j x y hx hy=>⟨(q3 j x y hx hy).1,(q3 j x y hx hy).2.1,(q3 j x y hx hy).2.2.mono fun b' o h=>⟨bB b' o h,rfl⟩⟩⟩
 ·rcases h with h|h
  ·exact⟨(hI.bT b' o h).1,fun hm=>(hI.bT b' o h).2.1 (dq b' hm),(hI.bT b' o h).2.2⟩
  ·have hm:=Gn b' o h
   have aS:=hI.cU b' hm
   refine⟨.inr aS.1,fun pz=>?_,aS.2⟩
   obtain⟨i,hi⟩:=List.mem_iff_getElem?.1 pz
   obtain⟨bm,dp⟩:=yS i b' hi
   exact bm (hI.nodup i b b' dp (hS b' o h))
 ·intro n x hx
  obtain⟨q0,vs,q1,q2⟩:=hI.js n x hx
  exact⟨q0,vs,fun i hi=>⟨(q1 i hi).1,bB _ _ (q1 i hi).2⟩,fun i c hc=>(q2 i c hc).mono fun b' o h=>⟨bB b' o h,rfl⟩⟩
theorem J0(hI:Inv gl w0 an e a w g){b:Nat}{ts:List Nat}{r:Nat→SV}{rm:SV}(cT:j0 b ts e=true){S:Nat→Nat→Prop}(hS:∀b' o,S b' o→g.bx[b]? =some (some b'))
  (aQ:∀(g':Gh),g'.St=(fun b' o=>g.St b' o∨S b' o)→(∀(n sz:Nat)(v:Value),bM w0.heap.size w g (fun _ _ _ _=>False) (Slot.a b n sz) v→aG w g'.St w0.heap.size (fun _ _ _=>False) (r n) v)∧
    (∀(v:Value),bM w0.heap.size w g (fun _ _ _ _=>False) (Slot.m b) v→aG w g'.St w0.heap.size (fun _ _ _=>False) rm v)):
  ∃g',Inv gl w0 an (nQ b r rm ts e) a w g':=by
 simp only[j0,Bool.and_eq_true]at cT
 refine⟨_,Dy hI cT.1 hS (cp:=e.boxes.set b .none) (by simp) (ov:=none) (xz:=g.ow) (fun _ _=>rfl) _ rfl (fun i bx aj bm h1 h2=>.inl ?_) (fun t x h=>by cases h) (aQ _ rfl)⟩
 rw[List.getElem?_set_ne (fun h=>bm h.symm)]at h1
 exact⟨h1,fun s hs=>by subst hs;exact Ak cT.2 i s h1⟩
theorem Inv.Ey(hI:Inv gl w0 an e a w g){t:Nat}{s:Slot}(hs:bM w0.heap.size w g (fT w0.heap.size w g t) s (a.tmps.getD t undef)):Inv gl w0 an ⟨e.ai.set t s,e.boxes⟩ a w g:=by
 refine⟨hI.below,by simp[hI.size],fun i x hx=>?_,hI.er,hI.boxes,hI.nodup,hI.eZ,hI.bT,hI.cU,hI.js,hI.defers,hI.ec,hI.cls,hI.iX⟩
 simp only[List.getElem?_set]at hx
 split at hx
 ·rename_i j8
  subst j8
  split at hx
  ·cases hx;exact hs
  ·cases hx
 ·exact hI.ai i x hx
theorem QF{x y:SV}(h:w5 x=some y){St:Nat→Nat→Prop}{base:Nat}{O:Nat→Nat→Nat→Prop}{v:Value}(r:aG w St base O x v):aG w St base O y v:=by
 unfold w5 at h
 split at h
 ·cases h
  have:=r.data
  cases this
  exact .d _ _ _ (.iT _)
 ·cases h
theorem SO(hI:Inv gl w0 an e a w g){t:Nat}{x y:SV}(hx:e.ai.getD t (.v .undef)=.v x)(h:w4 x=some y):∃g',Inv gl w0 an ⟨e.ai.set t (.v y),e.boxes⟩ a w g':=by
 have hs:=kK hI t
 rw[hx]at hs
 have hv:=hs.jG
 have vq:a.eval (.tmp t)=a.tmps.getD t undef:=rfl
 rw[vq]at hv
 unfold w4 at h
 split at h
 ·rename_i sz L
  cases h
  generalize fq:a.tmps.getD t undef=v at hv
  cases hv with
  |bj _ _ _ gg cap vs bq hm aB hf ho aN hc=>
   obtain⟨o1,o2,o3,⟨cur,te,o4,oe⟩,o5⟩:=ho
   let g':Gh:={g with St:=fun b o=>g.St b o∨(b=gg∧o<L.length*sz)}
   have hX:Ext w0.heap.size w g w g' (fun p=>∃j,p=.s t j):=by
    refine⟨fun D ob hb dh h=>⟨h,hb,dh,fun x hx=>hx.elim id fun e=>(by rw[e.1]at dh;rw[o1]at dh;cases dh)⟩,fun _ _ h=>⟨.inl h,.refl _ _ _⟩,fun _ _ _=>rfl,fun _ _ h=>h,fun p b a' c hp bJ=>⟨?_,.refl _ _ _⟩,.refl _⟩
    obtain⟨p1,p2,p3,p4,p5⟩:=bJ
    refine⟨p1,p2,p3,p4,fun o ho=>?_⟩
    rintro(h|⟨rfl,_⟩)
    ·exact p5 o ho h
    ·rw[o1]at p1;cases p1;exact hp ⟨0,rfl⟩
   refine⟨g',hI.stepG (dst:=none) (s:=.t []) (v:=undef) (ai:=e.ai.set t (.v (.own sz L))) hX (Below.refl _ _) (by simp) (fun i x hx _=>?_) (fun d hd=>by cases hd) hI.er (fun b bx aj h1 h2=>hX.box (fun j=>by rintro⟨j',h⟩;cases h) rfl (hI.boxes b bx aj h1 h2)) hI.nodup hI.cU (fun b o h=>?_)⟩
   ·rw[List.getElem?_set]at hx
    split at hx
    ·rename_i j8
     subst j8
     split at hx
     ·cases hx
      rw[fq]
      refine .v _ _ _ (.own _ sz L gg cap (.sl sz L gg 0 cap vs bq (Nat.le_trans bq hm) aB hf (fun o ho=>⟨by rw[Nat.zero_add];exact aN o ho,.inr ⟨rfl,by omega⟩⟩) (fun i x j c h1 h2=>(hc i x j c h1 h2).mono fun b o h=>⟨.inl h,rfl⟩)) hm ⟨o1,o2,o3,⟨cur,te,o4,oe⟩,fun o ho=>?_⟩)
      rintro(h|⟨_,h⟩)
      ·exact o5 o (by omega) h
      ·omega
     ·cases hx
    ·rename_i j8
     exact hX.slot (fun j=>by rintro⟨j',h⟩;cases h;exact j8 rfl) (hI.ai i x hx)
   ·rcases h with h|⟨rfl,_⟩
    ·exact hI.bT b o h
    ·exact⟨.inr o2,o3,(Array.getElem?_eq_some_iff.1 o4).1⟩
 ·cases h
  refine⟨g,hI.Ey (.v _ _ _ ?_)⟩
  have:=hv.data
  generalize a.tmps.getD t undef=v at this ⊢
  cases this
  exact .d _ _ _ (.iT _)
 ·cases h
  exact⟨g,hI.Ey (.v _ _ _ (.d _ _ _ hv.data))⟩
 ·cases h
theorem Ij{agg:Bool}{sz:Nat}(yT:agg=false→sz=1):∀{n:Nat}{l:List D}{L:List D},iQ agg sz n l=some L→(∀d∈l,d.one=true)→L.length=n∧l.length=n*sz∧(∀x∈L,x.cells.length=sz∧∀c∈x.cells,c.one=true)∧
  ∀(i:Nat)x(j:Nat)c,L[i]? =some x→x.cells[j]? =some c→l[i*sz+j]? =some c
 |0,[],L,h,_=>by simp only[iQ,Option.some.injEq]at h;subst h;simp
 |0,_::_,L,h,_=>by simp[iQ]at h
 |n+1,l,L,h,bz=>by
  simp only[iQ]at h
  split at h
  ·rename_i hle
   split at h
   ·rename_i r hr
    cases h
    obtain⟨h1,h2,h3,h4⟩:=Ij yT hr (fun d hd=>bz d (List.mem_of_mem_drop hd))
    have mT:(bN agg (l.take sz)).cells =l.take sz:=HW (fun d hd=>bz d (List.mem_of_mem_take hd)) (fun h=>by rw[List.length_take,yT h];have:=yT h;omega)
    simp only[List.length_drop]at h2
    refine⟨by simp[h1],by rw[Nat.succ_mul];omega,fun x hx=>?_,fun i x j c hx hc=>?_⟩
    ·rcases List.mem_cons.1 hx with rfl|hx
     ·rw[mT]
      exact⟨by rw[List.length_take];omega,fun c hc=>bz c (List.mem_of_mem_take hc)⟩
     ·exact h3 x hx
    ·cases i with
     |zero=>
      simp at hx;subst hx
      rw[mT]at hc
      rw[List.getElem?_take]at hc
      split at hc
      ·simpa using hc
      ·cases hc
     |succ i=>
      have:=h4 i x j c (by simpa using hx) hc
      rw[List.getElem?_drop]at this
      rw[Nat.succ_mul,show i*sz+sz+j=sz+(i*sz+j) by omega]
      exact this
   ·cases h
  ·cases h
theorem DP:∀{cs:List SV}{ds:List D},dT cs=some ds→ds.length=cs.length∧∀(i:Nat)d,ds[i]? =some d→∃x,cs[i]? =some x∧cg x=some d
 |[],ds,h=>by cases h;exact⟨rfl,fun i d h=>by simp at h⟩
 |x::cs,ds,h=>by
  simp only[dT]at h
  split at h
  ·rename_i y hy
   split at h
   ·rename_i r hr
    cases h
    obtain⟨h1,h2⟩:=DP hr
    refine⟨by simp[h1],fun i d hd=>?_⟩
    cases i with
    |zero=>simp at hd;subst hd;exact⟨x,rfl,hy⟩
    |succ i=>exact h2 i d (by simpa using hd)
   ·cases h
  ·cases h
theorem aK.Li{St:Nat→Nat→Prop}{d:D}{v:Value}(r:aK w St d v)(h:v.oneCell'=true):d.one=true:=by
 cases r<;>first|rfl|simp[Value.oneCell']at h
def nV(ws:List Nat)(e e':Env):Prop:=e'.ai.length=e.ai.length∧e.boxes.length≤e'.boxes.length∧(∀t,t∉ws→e'.ai.getD t (.v .undef)=e.ai.getD t (.v .undef))∧oL e.boxes.length e e'
theorem J1{b:Nat}{r:Nat→SV}{rm:SV}{ts:List Nat}:nV ts e (nQ b r rm ts e):=by
 refine⟨by simp[nQ,vX],by simp[nQ],fun t ht=>?_,fun i hi=>?_⟩
 ·simp only[nQ,List.getD_eq_getElem?_getD,Aq,Nat.zero_add]
  have:ts.contains t=false:=by simpa using ht
  rw[this]
  cases e.ai[t]? <;>rfl
 ·simp only[nQ,List.getD_eq_getElem?_getD,List.getElem?_set]
  by_cases hb:b=i
  ·subst hb
   simp[hi]
  ·simp only[hb,if_false]
   by_cases h:(e.boxes[i]?).getD .none =.none
   ·exact .inl h
   ·exact .inr ⟨h,trivial⟩
theorem Bf{y:SV}{t:Nat}:nV [t] e ⟨e.ai.set t (.v y),e.boxes⟩:=⟨by simp,Nat.le_refl _,fun u hu=>by
 simp only[List.mem_singleton]at hu
 simp only
 rw[lr (fun h=>hu h.symm)],.refl _ _⟩
theorem AR{b:Nat}{ts:List Nat}{r:Nat→SV}{rm:SV}{cp:List af}(hl:cp.length=e.boxes.length)(hk:∀i,cp.getD i .none =.none ∨(e.boxes.getD i .none ≠.none ∧(cp.getD i .none).isMap =(e.boxes.getD i .none).isMap)){ov:Option (Nat×SV)}(Gm:∀t x,ov=some (t,x)→t∈ts):
  nV ts e ⟨vr (kj b r rm ts e.ai 0) ov,cp⟩:=by
 have M3:∀t,t∉ts→(kj b r rm ts e.ai 0).getD t (.v .undef)=e.ai.getD t (.v .undef):=fun t ht=>by
  simp only[List.getD_eq_getElem?_getD,Aq,Nat.zero_add]
  have:ts.contains t=false:=by simpa using ht
  rw[this]
  cases e.ai[t]? <;>rfl
 refine⟨?_,by simp[hl],fun t ht=>?_,fun i _=>hk i⟩
 ·cases ov with
  |none=>exact vX _ _ _ _ _ _
  |some p=>simp[vr,vX]
 ·cases ov with
  |none=>exact M3 t ht
  |some p=>
   obtain⟨t',x⟩:=p
   have:=Gm t' x rfl
   simp only[vr]
   rw[lr (fun h=>ht (by first|(rw[←h];exact this)|(rw[h];exact this)))]
   exact M3 t ht
theorem DQ{b:Nat}{l:List af}:∀i,(l.set b .none).getD i .none =.none ∨(l.getD i .none ≠.none ∧((l.set b .none).getD i .none).isMap =(l.getD i .none).isMap):=fun i=>by
 simp only[List.getD_eq_getElem?_getD,List.getElem?_set]
 by_cases hb:b=i
 ·subst hb
  by_cases hi:b<l.length
  ·simp[hi]
  ·simp[hi]
 ·simp only[hb,if_false]
  by_cases h:(l[i]?).getD .none =.none
  ·exact .inl h
  ·exact .inr ⟨h,trivial⟩
theorem J2{b c:Nat}{x:Slot}{l:List (MK×D)}{bs:List af}(hc:bs[c]? =some (.one x)):∀i,((bs.set b .none).set c (.cells [.mp l])).getD i .none =.none ∨(bs.getD i .none ≠.none ∧(((bs.set b .none).set c (.cells [.mp l])).getD i .none).isMap =(bs.getD i .none).isMap):=fun i=>by
 by_cases hi:c=i
 ·subst hi
  right
  have hl:=(List.getElem?_eq_some_iff.1 hc).1
  simp only[List.getD_eq_getElem?_getD,hc,Option.getD_some]
  rw[List.getElem?_set_self (by simpa using hl)]
  exact⟨by simp,rfl⟩
 ·have:=DQ (b:=b) (l:=bs) i
  simp only[List.getD_eq_getElem?_getD]at this ⊢
  rw[List.getElem?_set_ne hi]
  exact this
theorem SP{n:Nat}(h:Nat.blt 0 n=true):0<n:=Nat.lt_of_succ_le (Nat.le_of_ble_eq_true h)
theorem SQ(hI:Inv gl w0 an e a w g){t:Nat}{agg:Bool}{sz:Nat}{ts:List Nat}{b n:Nat}(hs:e.ai.getD t (.v .undef)=.a b n sz){cs:List SV}(bw:e.boxes[b]? =some (.cells cs))(cT:j0 b (t::ts) e=true)
  (aB:0<sz)(yT:agg=false→sz=1){ds:List D}(iZ:dT cs=some ds){L:List D}(hL:iQ agg sz n ds=some L):
  ∃g',Inv gl w0 an ⟨(kj b (fun _=>.undef) .undef (t::ts) e.ai 0).set t (.v (.bj sz L)),e.boxes.set b .none⟩ a w g':=by
 have na:=kK hI t
 rw[hs]at na
 have vq:a.eval (.tmp t)=a.tmps.getD t undef:=rfl
 rw[vq]at na
 obtain⟨nt,fX⟩:=na.wP
 obtain⟨aj,cap,hb,bq,fq,gP,c0,Yr,kZ,WM⟩:=fX
 obtain⟨q0,c,ty,q1,q2,q3,q4⟩:=hI.boxes b _ aj bw hb
 have cJ:c=c0∧ty=Yr:=by rw[q1]at kZ;cases kZ;exact⟨rfl,rfl⟩
 obtain⟨rfl,rfl⟩:=cJ
 obtain⟨d1,d2⟩:=DP iZ
 have bz:∀d∈ds,d.one=true:=by
  intro d hd
  obtain⟨j,hj⟩:=List.mem_iff_getElem?.1 hd
  obtain⟨x,hx,Gq⟩:=d2 j d hj
  have jd:=(List.getElem?_eq_some_iff.1 hx).1
  have Ys:j<c.size:=Nat.lt_of_lt_of_le jd q3
  exact((q4 j x c[j] hx (by simp)).cg Gq).Li (q2 j c[j] jd (by simp))
 obtain⟨l1,l2,l3,l4⟩:=Ij yT hL bz
 simp only[j0,Bool.and_eq_true]at cT
 have tJ:some aj∈g.bx:=List.mem_of_getElem? hb
 refine⟨_,Dy hI (r:=fun _=>.undef) (rm:=.undef) cT.1 (S:=fun _ _=>False) (fun _ _ h=>h.elim) (cp:=e.boxes.set b .none) (by simp) (ov:=some (t,.bj sz L)) (xz:=fun b'=>if b'=aj then some (.s t 0)else g.ow b') (fun b' di=>if_neg (fun h=>di (by rw[h];exact tJ))) _ rfl (fun i bx g8 bm h1 h2=>.inl ?_) (fun t' x h=>?_) ⟨fun _ _ _ _=>.undef _ _,fun _ _=>.undef _ _⟩⟩
 ·rw[List.getElem?_set_ne (fun h=>bm h.symm)]at h1
  exact⟨h1,fun s hs=>by subst hs;exact Ak cT.2 i s h1⟩
 ·cases h
  rw[fq,←l1]
  refine .bj _ sz L aj cap (fun o=>c.getD o undef) (by omega) gP (fun x hx=>(l3 x hx).1) (fun x hx=>(l3 x hx).2) ⟨by simp,q0,fun hm=>?_,⟨c,ty,q1,WM⟩,fun o _ h=>?_⟩ (fun o ho=>?_) (fun i x j d hx hc=>?_)
  ·obtain⟨i,hi⟩:=List.mem_iff_getElem?.1 hm
   simp only[List.getElem?_set]at hi
   split at hi
   ·split at hi<;>simp at hi
   ·rename_i F8
    exact F8 (hI.nodup b i aj hb hi)
  ·rcases h with h|h
   ·exact(hI.bT aj o h).2.1 tJ
   ·exact h
  ·rw[cell_of_row w aj o c ty (0,0) q1]
   have:o<c.size:=by rw[l1]at ho;omega
   simp[this]
  ·obtain⟨y,hy,zC⟩:=d2 _ d (l4 i x j d hx hc)
   have jO:=(List.getElem?_eq_some_iff.1 hy).1
   have Gr:i*sz+j<c.size:=Nat.lt_of_lt_of_le jO q3
   have hr:=(q4 _ y c[i*sz+j] hy (by simp)).cg zC
   have hg:(c.getD (i*sz+j) undef)=c[i*sz+j]:=by simp[Gr]
   show aK w _ d (c.getD (i*sz+j) undef)
   rw[hg]
   exact hr.mono fun b' o h=>⟨.inl h,rfl⟩
theorem SR(hI:Inv gl w0 an e a w g){ts:List Nat}{c b:Nat}(hc:e.boxes[c]? =some (.one (.m b))){l:List (MK×D)}(hl:e.boxes[b]? =some (.map l))(bm:b≠c)(gT:qk b ts e.ai 0=true)
  (eP:nP b (e.boxes.set c .none)=true):∃g',Inv gl w0 an ⟨kj b (fun _=>.undef) .undef ts e.ai 0,(e.boxes.set b .none).set c (.cells [.mp l])⟩ a w g':=by
 refine⟨_,Dy hI (r:=fun _=>.undef) (rm:=.undef) gT (S:=fun b' o=>g.bx[b]? =some (some b')∧o=0) (fun b' o h=>h.1) (cp:=(e.boxes.set b .none).set c (.cells [.mp l])) (by simp) (ov:=none) (xz:=g.ow) (fun _ _=>rfl) _ rfl
  (fun i bx g8 Yt h1 h2=>?_) (fun t x h=>by cases h) ⟨fun _ _ _ _=>.undef _ _,fun _ _=>.undef _ _⟩⟩
 by_cases sj:c=i
 ·right
  subst sj
  obtain⟨q0,cc,ty,q1,q2,q3,q4⟩:=hI.boxes c _ g8 hc h2
  rw[List.getElem?_set_self (by simp;exact(List.getElem?_eq_some_iff.1 hc).1)]at h1
  cases h1
  have pc:cc[0]? =some cc[0]:=by simp
  have hr:=q4 _ pc
  generalize hcy:cc[0]=y at hr pc
  cases hr with
  |m _ _ aj hb=>
   obtain⟨_,es,clock,p1,p2,p3⟩:=hI.boxes b _ aj hl hb
   refine⟨q0,cc,ty,q1,fun j y hj=>q2 j y hj,q3,fun j x y hx hy=>?_⟩
   cases j with
   |succ j=>simp at hx
   |zero=>
    simp at hx;subst hx
    rw[pc]at hy;cases hy
    exact .mp _ l aj es clock p1 (.inr ⟨hb,rfl⟩) p2 fun i x y hx hy=>⟨(p3 i x y hx hy).1,(p3 i x y hx hy).2.1,(p3 i x y hx hy).2.2.mono fun b' o h=>⟨.inl h,rfl⟩⟩
 ·left
  rw[List.getElem?_set_ne sj,List.getElem?_set_ne (fun h=>Yt h.symm)]at h1
  exact⟨h1,fun s hs=>by
   subst hs
   exact Ak eP i s (by rw[List.getElem?_set_ne sj];exact h1)⟩
theorem SS(hI:Inv gl w0 an e a w g){x:fK}{k:Env→Prop}(h:dV e k x):∃e' g',Inv gl w0 an e' a w g'∧k e'∧nV (eX [x]) e e':=by
 cases x with
 |box t xu=>
  simp only[dV]at h
  split at h
  ·rename_i x hx
   unfold kW at h
   split at h
   rotate_left
   ·exact⟨e,g,hI,h,rfl,Nat.le_refl _,fun _ _=>rfl,.refl _ _⟩
   ·exact h.elim
   rename_i M4 L0
   obtain⟨WN,h⟩:=h
   subst WN
   obtain⟨sz,L,g',he,bd⟩:=SN hI hx ⟨_,_,rfl⟩
   cases he
   refine⟨_,g',bd,h,by simp,by simp,fun u hu=>?_,fun i hi=>?_⟩
   ·simp only[eX,List.mem_singleton]at hu
    simp only
    rw[lr (fun h=>hu h.symm)]
   ·simp only[List.getD_eq_getElem?_getD]
    rw[List.getElem?_append_left hi]
    by_cases h:(e.boxes[i]?).getD .none =.none
    ·exact .inl h
    ·exact .inr ⟨h,rfl⟩
  ·exact h.elim
 |mQ t ts=>
  have fr:∀{b r rm},nV (eX [.mQ t ts]) e (nQ b r rm ts e):=by
   intro b r rm
   have:eX [.mQ t ts]=ts:=by simp[eX]
   rw[this];exact J1
  simp only[dV]at h
  split at h
  ·rename_i b n M4 hs
   split at h
   ·rename_i cs bw
    cases cT:j0 b ts e with
    |false=>rw[cT]at h;exact h.elim
    |true=>
     rw[cT,cond_true]at h
     obtain⟨ds,iZ,hlen,hk⟩:=az h
     obtain⟨d1,d2⟩:=DP iZ
     refine Exists.elim (J0 hI (b:=b) (ts:=ts) (r:=fun m=>kR m n (.d (.sl .ro 1 ds))) (rm:=.undef) cT (S:=fun b' o=>g.bx[b]? =some (some b')∧o<n) (fun b' o h=>h.1) (fun g' ig=>⟨fun m xu v hv=>?_,fun v hv=>.undef _ _⟩)) fun g' bd=>⟨_,g',bd,hk,fr⟩
     ·unfold kR
      split
      ·rename_i Yu
       subst Yu
       obtain⟨nt,fX⟩:=hv.wP
       have zD:ds.length=m:=d1.trans hlen
       obtain⟨aj,cap,hb,bq,rfl,_⟩:=fX
       obtain⟨q0,c,ty,q1,q2,q3,q4⟩:=hI.boxes b _ aj bw hb
       have bz:∀d∈ds,d.one=true:=by
        intro d hd
        obtain⟨j,hj⟩:=List.mem_iff_getElem?.1 hd
        obtain⟨x,hx,Gq⟩:=d2 j d hj
        have jd:=(List.getElem?_eq_some_iff.1 hx).1
        have Ys:j<c.size:=Nat.lt_of_lt_of_le jd q3
        exact((q4 j x c[j] hx (by simp)).cg Gq).Li (q2 j c[j] jd (by simp))
       have cz:∀d∈ds,d.cells=[d]:=fun d hd=>D.Dt (bz d hd)
       have:=aK.sl (w:=w) (St:=g'.St) 1 ds aj 0 cap (fun o=>c.getD o undef) (by omega) (by omega) (fun d hd=>by rw[cz d hd];rfl)
        (fun d hd x hx=>by rw[cz d hd]at hx;rw[List.mem_singleton.1 hx];exact bz d hd) (fun o ho=>⟨by
          rw[cell_of_row w aj (0+o) c ty (0,0) q1]
          have:o<c.size:=by omega
          simp[this],by rw[ig];exact .inr ⟨hb,by omega⟩⟩) (fun i d j x hd hx=>by
          rw[cz d (List.mem_of_getElem? hd)]at hx
          have hj:j=0:=by
           cases j with
           |zero=>rfl
           |succ j=>simp at hx
          subst hj
          simp at hx;subst hx
          obtain⟨y,hy,zC⟩:=d2 i d hd
          have jO:=(List.getElem?_eq_some_iff.1 hy).1
          have Gr:i<c.size:=Nat.lt_of_lt_of_le jO q3
          have hr:=(q4 i y c[i] hy (by simp)).cg zC
          simp only[Nat.mul_one,Nat.add_zero]
          simp[Gr]
          exact hr.mono fun b' o h=>⟨by rw[ig];exact .inl h,rfl⟩)
       rw[zD]at this
       exact .d _ _ _ this
      ·exact .undef _ _
   ·exact h.elim
  ·rename_i b hs
   split at h
   ·rename_i l hl
    cases cT:j0 b ts e with
    |false=>rw[cT]at h;exact h.elim
    |true=>
     rw[cT,cond_true]at h
     refine Exists.elim (J0 hI (b:=b) (ts:=ts) (r:=fun _=>.undef) (rm:=.mp l) cT (S:=fun b' o=>g.bx[b]? =some (some b')∧o=0) (fun b' o h=>h.1) (fun g' ig=>⟨fun m xu v hv=>.undef _ _,fun v hv=>?_⟩)) fun g' bd=>⟨_,g',bd,h,fr⟩
     ·cases hv with
      |m _ _ aj hb=>
       obtain⟨q0,es,clock,q1,q2,q3⟩:=hI.boxes b _ aj hl hb
       exact .mp _ l aj es clock q1 (by rw[ig];exact .inr ⟨hb,rfl⟩) q2 fun i x y hx hy=>⟨(q3 i x y hx hy).1,(q3 i x y hx hy).2.1,(q3 i x y hx hy).2.2.mono fun b' o h=>⟨by rw[ig];exact .inl h,rfl⟩⟩
   ·exact h.elim
  ·exact⟨e,g,hI,h,rfl,Nat.le_refl _,fun _ _=>rfl,.refl _ _⟩
  ·exact h.elim
 |ni t agg sz ts=>
  simp only[dV]at h
  split at h
  ·rename_i b n s0 hs
   split at h
   ·rename_i cs bw
    cases cT:(j0 b (t::ts) e&&Nat.beq s0 sz&&Nat.blt 0 sz&&(agg||Nat.beq sz 1))with
    |false=>rw[cT]at h;exact h.elim
    |true=>
     rw[cT,cond_true]at h
     simp only[Bool.and_eq_true]at cT
     obtain⟨⟨⟨h1,h2⟩,h3⟩,h4⟩:=cT
     have h2:=Nat.eq_of_beq_eq_true h2
     subst h2
     obtain⟨ds,iZ,h⟩:=az h
     obtain⟨L,hL,hk⟩:=az h
     obtain⟨g',bd⟩:=SQ hI hs bw h1 (SP h3) (agg:=agg) (fun ha=>by subst ha;exact Nat.eq_of_beq_eq_true (by simpa using h4)) iZ hL
     refine⟨_,g',bd,hk,?_⟩
     have Gs:eX [.ni t agg s0 ts]=t::ts:=by simp[eX]
     rw[Gs]
     exact AR (ov:=some (t,.bj s0 L)) List.length_set DQ (fun t' x h=>by cases h;simp)
   ·exact h.elim
  ·exact⟨e,g,hI,h,rfl,Nat.le_refl _,fun _ _=>rfl,.refl _ _⟩
  ·exact h.elim
 |emp t=>
  simp only[dV]at h
  split at h
  ·rename_i x hx
   obtain⟨y,hy,hk⟩:=az h
   have hs:=kK hI t
   rw[hx]at hs
   exact⟨_,g,hI.Ey (.v _ _ _ (QF hy hs.jG)),hk,Bf⟩
  ·exact h.elim
 |jK t=>
  simp only[dV]at h
  split at h
  ·rename_i x hx
   obtain⟨y,hy,hk⟩:=az h
   obtain⟨g',bd⟩:=SO hI hx hy
   exact⟨_,g',bd,hk,Bf⟩
  ·exact h.elim
 |nj t ts=>
  simp only[dV]at h
  split at h
  ·rename_i c hs
   split at h
   ·rename_i b hb
    split at h
    ·rename_i l hl
     cases cT:(!(Nat.beq b c)&&qk b ts e.ai 0&&nP b (e.boxes.set c .none))with
     |false=>rw[cT]at h;exact h.elim
     |true=>
      rw[cT,cond_true]at h
      simp only[Bool.and_eq_true,Bool.not_eq_true']at cT
      obtain⟨⟨h1,h2⟩,h3⟩:=cT
      have bm:b≠c:=fun e=>by subst e;simp at h1
      obtain⟨g',bd⟩:=SR hI hb hl bm h2 h3
      refine⟨_,g',bd,h,?_⟩
      have:eX [.nj t ts]=ts:=by simp[eX]
      rw[this]
      exact AR (ov:=none) (by simp) (J2 hb) (fun t' x h=>by cases h)
    ·exact h.elim
   ·exact h.elim
  ·exact h.elim
theorem J3{k k':Env→Prop}(hk:∀e,k e→k' e){e:Env}{x:fK}(h:dV e k x):dV e k' x:=by
 cases x with
 |box t xu=>
  simp only[dV]at h ⊢
  split at h
  ·unfold kW at h ⊢
   split at h
   ·exact⟨h.1,hk _ h.2⟩
   ·exact hk _ h
   ·exact h.elim
  ·exact h.elim
 |mQ t ts=>
  simp only[dV]at h ⊢
  split at h
  ·split at h
   ·rename_i cs bw
    cases cT:j0 _ ts e with
    |false=>rw[cT]at h;exact h.elim
    |true=>
     rw[cT,cond_true]at h
     obtain⟨ds,iZ,hl,h⟩:=az h
     simp only[iZ,ab]
     exact⟨hl,hk _ h⟩
   ·exact h.elim
  ·split at h
   ·rename_i l hl
    cases cT:j0 _ ts e with
    |false=>rw[cT]at h;exact h.elim
    |true=>
     rw[cT,cond_true]at h
     exact hk _ h
   ·exact h.elim
  ·exact hk _ h
  ·exact h.elim
 |ni t agg sz ts=>
  simp only[dV]at h ⊢
  split at h
  ·split at h
   ·rename_i cs bw
    cases cT:(j0 _ (t::ts) e&&Nat.beq _ sz&&Nat.blt 0 sz&&(agg||Nat.beq sz 1))with
    |false=>rw[cT]at h;exact h.elim
    |true=>
     rw[cT,cond_true]at h
     obtain⟨ds,iZ,h⟩:=az h
     obtain⟨L,hL,h⟩:=az h
     simp only[cond_true,iZ,ab,hL]
     exact hk _ h
   ·exact h.elim
  ·exact hk _ h
  ·exact h.elim
 |emp t=>
  simp only[dV]at h ⊢
  split at h
  ·obtain⟨y,hy,h⟩:=az h
   simp only[hy,ab]
   exact hk _ h
  ·exact h.elim
 |jK t=>
  simp only[dV]at h ⊢
  split at h
  ·obtain⟨y,hy,h⟩:=az h
   simp only[hy,ab]
   exact hk _ h
  ·exact h.elim
 |nj t ts=>
  simp only[dV]at h ⊢
  split at h
  ·split at h
   ·rename_i b hb
    split at h
    ·rename_i l hl
     cases cT:(!(Nat.beq b _)&&qk b ts e.ai 0&&nP b (e.boxes.set _ .none))with
     |false=>rw[cT]at h;exact h.elim
     |true=>
      rw[cT,cond_true]at h
      simp only[cond_true]
      exact hk _ h
    ·exact h.elim
   ·exact h.elim
  ·exact h.elim
theorem QG{k:Env→Prop}{e:Env}{x:fK}(h:dV e k x):dV e (fun e'=>k e'∧nV (eX [x]) e e') x:=by
 cases x with
 |box t xu=>
  simp only[dV]at h ⊢
  split at h
  ·unfold kW at h ⊢
   split at h
   ·refine⟨h.1,h.2,by simp,by simp,fun u hu=>?_,fun i hi=>?_⟩
    ·simp only[eX,List.mem_singleton]at hu
     simp only
     rw[lr (fun h=>hu h.symm)]
    ·simp only[List.getD_eq_getElem?_getD]
     rw[List.getElem?_append_left hi]
     by_cases h:(e.boxes[i]?).getD .none =.none
     ·exact .inl h
     ·exact .inr ⟨h,rfl⟩
   ·exact⟨h,rfl,Nat.le_refl _,fun _ _=>rfl,.refl _ _⟩
   ·exact h.elim
  ·exact h.elim
 |mQ t ts=>
  have fr:∀{b r rm},nV (eX [.mQ t ts]) e (nQ b r rm ts e):=by
   intro b r rm
   have:eX [.mQ t ts]=ts:=by simp[eX]
   rw[this];exact J1
  simp only[dV]at h ⊢
  split at h
  ·split at h
   ·rename_i cs bw
    cases cT:j0 _ ts e with
    |false=>rw[cT]at h;exact h.elim
    |true=>
     rw[cT,cond_true]at h
     obtain⟨ds,iZ,hl,h⟩:=az h
     simp only[iZ,ab]
     exact⟨hl,h,fr⟩
   ·exact h.elim
  ·split at h
   ·rename_i l hl
    cases cT:j0 _ ts e with
    |false=>rw[cT]at h;exact h.elim
    |true=>
     rw[cT,cond_true]at h
     exact⟨h,fr⟩
   ·exact h.elim
  ·exact⟨h,rfl,Nat.le_refl _,fun _ _=>rfl,.refl _ _⟩
  ·exact h.elim
 |ni t agg sz ts=>
  simp only[dV]at h ⊢
  split at h
  ·split at h
   ·rename_i cs bw
    cases cT:(j0 _ (t::ts) e&&Nat.beq _ sz&&Nat.blt 0 sz&&(agg||Nat.beq sz 1))with
    |false=>rw[cT]at h;exact h.elim
    |true=>
     rw[cT,cond_true]at h
     obtain⟨ds,iZ,h⟩:=az h
     obtain⟨L,hL,h⟩:=az h
     simp only[cond_true,iZ,ab,hL]
     refine⟨h,?_⟩
     have Gs:eX [.ni t agg sz ts]=t::ts:=by simp[eX]
     rw[Gs]
     exact AR (ov:=some (t,.bj sz L)) List.length_set DQ (fun t' x h=>by cases h;simp)
   ·exact h.elim
  ·exact⟨h,rfl,Nat.le_refl _,fun _ _=>rfl,.refl _ _⟩
  ·exact h.elim
 |emp t=>
  simp only[dV]at h ⊢
  split at h
  ·obtain⟨y,hy,h⟩:=az h
   simp only[hy,ab]
   exact⟨h,Bf⟩
  ·exact h.elim
 |jK t=>
  simp only[dV]at h ⊢
  split at h
  ·obtain⟨y,hy,h⟩:=az h
   simp only[hy,ab]
   exact⟨h,Bf⟩
  ·exact h.elim
 |nj t ts=>
  simp only[dV]at h ⊢
  split at h
  ·split at h
   ·rename_i b hb
    split at h
    ·rename_i l hl
     cases cT:(!(Nat.beq b _)&&qk b ts e.ai 0&&nP b (e.boxes.set _ .none))with
     |false=>rw[cT]at h;exact h.elim
     |true=>
      rw[cT,cond_true]at h
      simp only[cond_true]
      exact⟨h,by
       have:eX [.nj t ts]=ts:=by simp[eX]
       rw[this]
       exact AR (ov:=none) (by simp) (J2 hb) (fun t' x h=>by cases h)⟩
    ·exact h.elim
   ·exact h.elim
  ·exact h.elim
theorem QH(x:fK)(l:List fK):eX (x::l)=eX [x]++eX l:=by cases x<;>simp[eX]
theorem nV.trans{ws vs:List Nat}{e e1 e2:Env}(h1:nV ws e e1)(h2:nV vs e1 e2):nV (ws++vs) e e2:=
 ⟨h2.1.trans h1.1,Nat.le_trans h1.2.1 h2.2.1,fun t ht=>(h2.2.2.1 t fun h=>ht (List.mem_append_right _ h)).trans (h1.2.2.1 t fun h=>ht (List.mem_append_left _ h)),h1.2.2.2.trans h1.2.1 h2.2.2.2⟩
theorem wc{k k':Env→Prop}(hk:∀e,k e→k' e):∀{l:List fK}{e:Env},jn l e k→jn l e k'
 |[],_,h=>hk _ h
 |x::l,e,h=>J3 (fun e'=>wc hk (l:=l)) (show dV e (fun e'=>jn l e' k) x from h)
theorem Dg{k:Env→Prop}:∀{l:List fK}{e:Env},jn l e k→jn l e fun e'=>k e'∧nV (eX l) e e'
 |[],e,h=>⟨h,rfl,Nat.le_refl _,fun _ _=>rfl,.refl _ _⟩
 |x::l,e,h=>J3 (fun _⟨h1,h2⟩=>wc (fun e2⟨h3,h4⟩=>⟨h3,by rw[QH];exact h2.trans h4⟩) (Dg (l:=l) h1)) (QG (show dV e (fun e'=>jn l e' k) x from h))
theorem DR:∀{l:List fK}{e:Env}{g:Gh}{k:Env→Prop},Inv gl w0 an e a w g→jn l e k→∃e' g',Inv gl w0 an e' a w g'∧k e'
 |[],e,g,k,hI,h=>⟨e,g,hI,h⟩
 |x::l,e,g,k,hI,h=>by
  obtain⟨e',g',bd,h',_⟩:=SS hI (show dV e (fun e'=>jn l e' k) x from h)
  exact DR bd h'
end
end Go.Proofs.Ytaknajjmldngiaa.Ab
namespace Go.Proofs.Ytaknajjmldngiaa.Ab
open Go Go.RowKit
def Ex.to:Ex→Exit
 | .normal =>.normal
 | .exit i=>.exit i
 | .ret =>.ret
def Fr(gh:List (Nat×List fK))(c:Code)(e e':Env):Prop:=e'.ai.length=e.ai.length∧e.boxes.length≤e'.boxes.length∧
 (∀t,t∉b9 gh c→(e'.ai.getD t (.v .undef)).stays =(e.ai.getD t (.v .undef)).stays)∧oL e.boxes.length e e'
theorem m4{b:Bool}{A:Prop}(h:cond b A False):b=true∧A:=by cases b;exact h.elim;exact⟨rfl,h⟩
theorem sR{b:Bool}{A:Prop}(hb:b=true)(h:A):cond b A False:=by subst hb;exact h
section
variable{P:Program}{gl:Nat→Option D}{h:Hints}
theorem wa{all:List Oper}{ax:Nat→Bool}{base:Nat}{K K':Env→Prop}(hk:∀e,K e→K' e):∀(l:List Oper)(i:Nat)(e:Env),
  gH P gl (aD P gl) ax all base l i e K→gH P gl (aD P gl) ax all base l i e K'
 |[],_,_,h=>hk _ h
 |o::l,i,e,h=>by
  rw[wj]at h ⊢
  have eF:all=all.toArray.toList:=by simp
  rw[eF]at h ⊢
  obtain⟨src,s,U,dj,hO,_⟩:=ui h
  refine hO.run ?_
  rw[←eF]at dj ⊢
  exact wa hk l (i+1) _ dj
theorem CY{all:List Oper}{ax:Nat→Bool}{base:Nat}{K:Env→Prop}:∀(l:List Oper)(i:Nat)(e:Env),
  gH P gl (aD P gl) ax all base l i e K→gH P gl (aD P gl) ax all base l i e fun e'=>K e'∧e'.ai.length=e.ai.length∧e'.boxes.length=e.boxes.length∧
   (∀t,t∉l.filterMap (·.dst)→(e'.ai.getD t (.v .undef)).stays =(e.ai.getD t (.v .undef)).stays)∧oL base e e'
 |[],_,_,h=>⟨h,rfl,rfl,fun _ _=>rfl,.refl _ _⟩
 |o::l,i,e,h=>by
  rw[wj]at h ⊢
  have eF:all=all.toArray.toList:=by simp
  rw[eF]at h ⊢
  obtain⟨src,s,U,dj,hO,bB⟩:=ui h
  refine hO.run ?_
  rw[←eF]at dj ⊢
  refine wa (fun e'⟨hK,h1,h2,h3,h5⟩=>⟨hK,?_,?_,fun t ht=>?_,fun j hj=>?_⟩) l (i+1) _ (CY l (i+1) _ dj)
  ·rw[h1];unfold fin hN;simp only[z5];cases src<;>simp
  ·rw[h2];unfold fin ka;cases U<;>simp
  ·have hd:∀d,o.dst=some d→d≠t:=fun d hd hh=>by
    subst hh
    exact ht (List.mem_filterMap.2 ⟨o,by simp,hd⟩)
   have mS:t∉l.filterMap (·.dst):=fun hm=>by
    obtain⟨o',bJ,ic⟩:=List.mem_filterMap.1 hm
    exact ht (List.mem_filterMap.2 ⟨o',by simp[bJ],ic⟩)
   rw[h3 t mS]
   unfold fin bF hN
   simp only
   have yN:((match src with|none=>e.ai|some (t,s)=>e.ai.set t s).getD t (.v .undef)).stays =(e.ai.getD t (.v .undef)).stays :=by
    cases src with
    |none=>rfl
    |some p=>
     obtain⟨t',d⟩:=p
     simp only
     by_cases M5:t'=t
     ·subst M5
      have:=bB.1 t' d rfl
      rcases Nat.lt_or_ge t' e.ai.length with hl|hl
      ·rw[List.getD_eq_getElem?_getD,List.getElem?_set_self hl];exact this
      ·rw[List.set_eq_of_length_le hl]
     ·rw[lr M5]
   cases ic:o.dst with
   |none=>exact yN
   |some d=>simp only;rw[lr (hd d ic)];exact yN
  ·have Yv:=hO.uf
   have key:oL base e (fin o src s U e):=by
    intro j hj
    have same:e.boxes.getD j .none =.none ∨(e.boxes.getD j .none ≠.none ∧(e.boxes.getD j .none).isMap =(e.boxes.getD j .none).isMap):=oL.refl base e j hj
    unfold fin
    simp only
    cases Yv with
    |none=>exact same
    |mk bx h hn hb=>
     simp only[ka,List.getD_eq_getElem?_getD]
     rw[List.getElem?_set_ne (by omega)]
     simpa using same
    |wr b bx fB h hw x hx off hp ho hold hb nU=>
     simp only[ka,List.getD_eq_getElem?_getD,List.getElem?_set]
     by_cases M6:b=j
     ·subst M6
      right
      rw[ho]
      simp[(List.getElem?_eq_some_iff.1 ho).1,hb.2,hold]
     ·simp only[M6,if_false];simpa using same
   exact(key.trans (Nat.le_refl _) h5) j hj
theorem Jq{ok:Bool}{ops:Array Oper}{ax:Nat→Bool}{e1 e':Env}{K K':Env→Prop}(hk:∀e,K e→K' e)(h:lI P gl (aD P gl) ok ops ax e1 K e'):lI P gl (aD P gl) ok ops ax e1 K' e':=by
 cases ok
 ·exact⟨h.1,hk _ h.2⟩
 ·exact hk _ h
theorem J5{ok:Bool}{ops:Array Oper}{ax:Nat→Bool}{e1 e':Env}{K:Env→Prop}{X:Env→Prop}(h:lI P gl (aD P gl) ok ops ax e1 K e')(hx:X e'):lI P gl (aD P gl) ok ops ax e1 (fun e'=>K e'∧X e') e':=by
 cases ok
 ·exact⟨h.1,h.2,hx⟩
 ·exact⟨h,hx⟩
theorem CZ{e:Env}{c:Operand}{A B A' B':Env→Prop}(hA:A e→A' e)(hB:B e→B' e)(h:kS e c A B):kS e c A' B':=by
 cases c with
 |tmp t=>
  simp only[kS]at h ⊢
  cases hx:e.ai.getD t (.v .undef)with
  |v x=>
   rw[hx]at h
   obtain⟨b,rfl,h1,h2⟩:=wi h
   cases b
   ·have:=h2 rfl
    rw[qQ hx]at this
    show B' _
    rw[qQ hx]
    exact hB this
   ·have:=h1 rfl
    rw[qQ hx]at this
    show A' _
    rw[qQ hx]
    exact hA this
  |_=>rw[hx]at h;exact h.elim
 |const v=>
  cases v with
  |bool b=>cases b;exact hB h;exact hA h
  |_=>exact h.elim
 |_=>exact h.elim
theorem ID{e:Env}{c:Operand}{A B A' B':Env→Prop}(hA:∀e,A e→A' e)(hB:∀e,B e→B' e)(h:kS e c A B):kS e c A' B':=CZ (hA e) (hB e) h
theorem IE{key:Nat}{c:Code}{e:Env}{Q Q':Ex→Env→Prop}{T:(Ex→Env→Prop)→Prop}(hT:∀Q Q':Ex→Env→Prop,(∀x e,Q x e→Q' x e)→T Q→T Q')(hq:∀x e,Q x e→Q' x e)(hh:mG h key c e Q T):mG h key c e Q' T:=by
 unfold mG at hh ⊢
 generalize fS h.cY key=kk at hh ⊢
 obtain⟨vars,consts⟩:=kk
 cases vars<;>cases consts
 ·exact hT _ _ hq hh
 all_goals
  obtain⟨hb,hh⟩:=m4 (hh:cond _ _ False)
  exact sR hb (hT _ _ (fun x e' hx=>by cases x<;>first|exact hq _ _ hx|exact hq .normal _ hx) hh)
theorem kN:∀(c:Code){Q Q':Ex→Env→Prop}{e:Env},(∀x e,Q x e→Q' x e)→aw P gl (aD P gl) h c Q e→aw P gl (aD P gl) h c Q' e
 | .skip,_,_,_,hq,hh=>hq _ _ hh
 | .region id ops draw,Q,Q',e,hq,hh=>by
   simp only[aw]at hh ⊢
   refine IE (fun Q Q' hq hh=>?_) hq hh
   obtain⟨hb,hh⟩:=m4 (hh:cond _ _ False)
   exact sR hb (wc (fun e' h=>wa (fun e2 h2=>Jq (hq .normal) h2) _ _ _ h) hh)
 | .seq a b,Q,Q',e,hq,hh=>by
   simp only[aw]at hh ⊢
   refine kN a (fun x e' hx=>?_) hh
   cases x with
   |normal=>exact kN b hq hx
   |exit i=>exact hq _ _ hx
   |ret=>exact hq _ _ hx
 | .cond c a b,Q,Q',e,hq,hh=>by
   simp only[aw]at hh ⊢
   exact IE (fun Q Q' hq hh=>ID (fun e'=>kN a hq) (fun e'=>kN b hq) hh) hq hh
 | .block id b,Q,Q',e,hq,hh=>by
   simp only[aw]at hh ⊢
   refine kN b (fun x e' hx=>?_) hh
   cases x with
   |normal=>exact hq _ _ hx
   |exit i=>
    have cB:cond (i==id) (Q .normal e') (Q (.exit i) e'):=hx
    show cond (i==id) (Q' .normal e') (Q' (.exit i) e')
    cases hb:(i==id)<;>rw[hb]at cB<;>exact hq _ _ cB
   |ret=>exact hq _ _ hx
 | .loop b,Q,Q',e,hq,hh=>by
   obtain⟨hb,hh⟩:=m4 (hh:cond _ _ False)
   refine sR hb fun I hI=>hh I fun vs bs hF=>hI vs bs (kN b (fun x e' hx=>?_) hF)
   cases x with
   |normal=>exact hx
   |exit i=>exact hq _ _ hx
   |ret=>exact hq _ _ hx
 | .exit id,_,_,_,hq,hh=>hq _ _ hh
 | .ret,_,_,_,hq,hh=>hq _ _ hh
 | .goto _,_,_,_,_,hh=>hh
 | .label _,_,_,_,_,hh=>hh
 | .scope _,_,_,_,_,hh=>hh
 | .rangeFunc _ _ _ _,_,_,_,_,hh=>hh
 | .refuse _,_,_,_,_,hh=>hh
theorem Fr.refl(c:Code)(e:Env):Fr h.gh c e e:=⟨rfl,Nat.le_refl _,fun _ _=>rfl,.refl _ _⟩
theorem Fr.trans{a b c:Code}{e e1 e2:Env}(h1:Fr h.gh a e e1)(h2:Fr h.gh b e1 e2)(ha:∀t,t∈b9 h.gh a→t∈b9 h.gh c)(hb:∀t,t∈b9 h.gh b→t∈b9 h.gh c):Fr h.gh c e e2:=
 ⟨h2.1.trans h1.1,Nat.le_trans h1.2.1 h2.2.1,fun t ht=>(h2.2.2.1 t fun hm=>ht (hb t hm)).trans (h1.2.2.1 t fun hm=>ht (ha t hm)),h1.2.2.2.trans h1.2.1 h2.2.2.2⟩
theorem Fr.mono{a c:Code}{e e1:Env}(h1:Fr h.gh a e e1)(ha:∀t,t∈b9 h.gh a→t∈b9 h.gh c):Fr h.gh c e e1:=⟨h1.1,h1.2.1,fun t ht=>h1.2.2.1 t fun hm=>ht (ha t hm),h1.2.2.2⟩
theorem CC(vars consts:List Nat)(vs:List SV):∀(l:List Slot)(t i:Nat),(mn vars consts vs l t)[i]? =(l[i]?).map fun s=>match place (t+i) vars 0 with
  |some j=>.v (ae vs j)
  |none=>bif consts.contains (t+i)then s.stays else .v .undef
 |[],_,_=>by simp[mn]
 |s::l,t,i=>by
  cases i with
  |zero=>simp only[mn,List.getElem?_cons_zero,Option.map_some,Nat.add_zero];cases place t vars 0<;>rfl
  |succ i=>
   simp only[mn,List.getElem?_cons_succ]
   rw[CC vars consts vs l (t+1) i,show t+1+i=t+(i+1) by omega]
theorem CA(vars consts:List Nat)(vs:List SV):∀(l:List Slot)(t:Nat),(mn vars consts vs l t).length =l.length
 |[],_=>rfl
 |_::l,t=>by simp[mn,CA vars consts vs l (t+1)]
theorem CD(bs:List (List SV)):∀(l:List af)(t i:Nat),(mo bs l t)[i]? =(l[i]?).map fun x=>af.again (aq bs (t+i)) x
 |[],_,_=>by simp[mo]
 |s::l,t,i=>by
  cases i with
  |zero=>simp[mo]
  |succ i=>
   simp only[mo,List.getElem?_cons_succ]
   rw[CD bs l (t+1) i,show t+1+i=t+(i+1) by omega]
theorem CB(bs:List (List SV)):∀(l:List af)(t:Nat),(mo bs l t).length =l.length
 |[],_=>rfl
 |_::l,t=>by simp[mo,CB bs l (t+1)]
theorem IF{t:Nat}:∀{l:List Nat}{i j:Nat},place t l i=some j→i≤j∧l[j-i]? =some t
 |[],i,j,h=>by cases h
 |v::l,i,j,h=>by
  simp only[place]at h
  cases hv:v==t with
  |true=>
   rw[hv]at h
   simp only[cond_true,Option.some.injEq]at h
   subst h
   have:=beq_iff_eq.1 hv
   subst this
   simp
  |false=>
   rw[hv]at h
   obtain⟨h1,h2⟩:=IF (l:=l) h
   refine⟨by omega,?_⟩
   rw[show j-i=(j-(i+1))+1 by omega,List.getElem?_cons_succ]
   exact h2
theorem IG{t:Nat}:∀{l:List Nat}{i:Nat},l.contains t=false→place t l i=none
 |[],_,_=>rfl
 |v::l,i,h=>by
  simp only[List.contains_cons,Bool.or_eq_false_iff]at h
  simp only[place]
  have:(v==t)=false:=by rw[beq_eq_false_iff_ne]at*;exact fun hh=>h.1 hh.symm
  rw[this]
  exact IG h.2
theorem H2{ws vars consts:List Nat}:∀{l:List Slot}{t:Nat},uy ws vars consts l t=true→∀(i:Nat)s,l[i]? =some s→(t+i)∉ws→s.stays=.v .undef ∨(vars.contains (t+i)=false∧consts.contains (t+i)=true)
 |[],_,_,i,s,h,_=>by simp at h
 |s'::l,t,hk,i,s,h,hw=>by
  simp only[uy,Bool.and_eq_true]at hk
  cases i with
  |zero=>
   simp at h
   subst h
   have jw:=hk.1
   cases s' with
   |v x=>exact .inl rfl
   |t x=>exact .inl rfl
   |_=>
    refine .inr ?_
    simp only[Bool.or_eq_true,Bool.and_eq_true,Bool.not_eq_true']at jw
    rcases jw with h|h
    ·exact absurd (by simpa using h) hw
    ·exact h
  |succ i=>
   have:=H2 hk.2 i s (by simpa using h) (by rw[show t+1+i=t+(i+1) by omega];exact hw)
   rw[show t+1+i=t+(i+1) by omega]at this
   exact this
theorem Pg(s:Slot):s.stays.stays=s.stays:=by cases s<;>rfl
def again(vars consts:List Nat)(vs:List SV)(bs:List (List SV))(e:Env):Env:=⟨mn vars consts vs e.ai 0,mo bs e.boxes 0⟩
theorem AE{b:Code}{vars consts:List Nat}{vs:List SV}{bs:List (List SV)}{e:Env}(hk:uy (b9 h.gh b) vars consts e.ai 0=true):Fr h.gh b e (again vars consts vs bs e):=by
 refine⟨CA _ _ _ _ _,by simp[again,CB],fun t ht=>?_,fun i hi=>?_⟩
 rotate_left
 ·simp only[again,List.getD_eq_getElem?_getD,CD,List.getElem?_eq_getElem hi,Option.map_some,Option.getD_some]
  cases e.boxes[i]<;>first|exact .inl rfl|exact .inr ⟨by simp,rfl⟩
 simp only[again,List.getD_eq_getElem?_getD,CC]
 cases hs:e.ai[t]? with
 |none=>rfl
 |some s=>
  simp only[Option.map_some,Option.getD_some,Nat.zero_add]
  rcases H2 hk t s hs (by simpa using ht)with h|⟨h1,h2⟩
  ·rw[h]
   split
   ·rfl
   ·cases consts.contains t<;>simp[h,Slot.stays]
  ·rw[Nat.zero_add]at h1 h2
   rw[IG h1]
   simp only[h2,cond_true,Pg]
theorem Ik{key:Nat}{c:Code}{e:Env}{Q:Ex→Env→Prop}{T:(Ex→Env→Prop)→Prop}(hT:∀Q Q':Ex→Env→Prop,(∀x e,Q x e→Q' x e)→T Q→T Q')
  (hF:∀Q,T Q→T (fun x e'=>Q x e'∧Fr h.gh c e e'))(hh:mG h key c e Q T):mG h key c e (fun x e'=>Q x e'∧Fr h.gh c e e') T:=by
 unfold mG at hh ⊢
 generalize fS h.cY key=kk at hh ⊢
 obtain⟨vars,consts⟩:=kk
 cases vars<;>cases consts
 ·exact hF _ hh
 all_goals
  obtain⟨hb,hh⟩:=m4 (hh:cond _ _ False)
  have hk:=(Bool.and_eq_true _ _▸hb).2
  refine sR hb (hT _ _ (fun x e' hx=>?_) (hF _ hh))
  obtain⟨hx,hf⟩:=hx
  cases x with
  |normal=>exact⟨hx,AE (b:=c) hk⟩
  |exit i=>exact⟨hx,hf⟩
  |ret=>exact⟨hx,hf⟩
theorem m5:∀(c:Code){Q:Ex→Env→Prop}{e:Env},aw P gl (aD P gl) h c Q e→aw P gl (aD P gl) h c (fun x e'=>Q x e'∧Fr h.gh c e e') e
 | .skip,_,e,hh=>⟨hh,Fr.refl _ _⟩
 | .region id ops draw,Q,e,hh=>by
   simp only[aw]at hh ⊢
   refine Ik (fun Q Q' hq hh=>?_) (fun Q hh=>?_) hh
   ·obtain⟨hb,hh⟩:=m4 (hh:cond _ _ False)
    exact sR hb (wc (fun e' h=>wa (fun e2 h2=>Jq (hq .normal) h2) _ _ _ h) hh)
   obtain⟨hb,hh⟩:=m4 (hh:cond _ _ False)
   refine sR hb (wc (fun e1⟨h6,hg⟩=>wa (fun e'⟨h1,h2,h3,h4,h5⟩=>J5 (X:=fun e'=>Fr h.gh (.region id ops draw) e e') h1 ⟨h2.trans hg.1,?_,fun t ht=>?_,hg.2.2.2.trans hg.2.1 fun i hi=>?_⟩) _ _ _ (CY _ _ _ h6)) (Dg hh))
   ·rw[h3]
    have:=hg.2.1
    simp;omega
   ·simp only[b9,List.mem_append,not_or]at ht
    rw[h4 t ht.2,hg.2.2.1 t ht.1]
   ·have:=h5 i hi
    simp only[List.getD_eq_getElem?_getD]at this ⊢
    rw[List.getElem?_append_left hi]at this
    exact this
 | .seq a b,Q,e,hh=>by
   refine kN a (fun x e' hx=>?_) (m5 a hh)
   obtain⟨hx,hf⟩:=hx
   cases x with
   |normal=>exact kN b (fun y e2 hy=>⟨hy.1,hf.trans hy.2 (fun t ht=>by simp[b9,ht]) (fun t ht=>by simp[b9,ht])⟩) (m5 b hx)
   |exit i=>exact⟨hx,hf.mono fun t ht=>by simp[b9,ht]⟩
   |ret=>exact⟨hx,hf.mono fun t ht=>by simp[b9,ht]⟩
 | .cond c a b,Q,e,hh=>
   Ik (fun Q Q' hq hh=>ID (fun e'=>kN a hq) (fun e'=>kN b hq) hh) (fun Q hh=>CZ (A:=aw P gl (aD P gl) h a Q) (B:=aw P gl (aD P gl) h b Q)
    (fun ha=>kN a (fun y e2 hy=>⟨hy.1,hy.2.mono fun t ht=>by simp[b9,ht]⟩) (m5 a ha)) (fun hb=>kN b (fun y e2 hy=>⟨hy.1,hy.2.mono fun t ht=>by simp[b9,ht]⟩) (m5 b hb)) hh) hh
 | .block id b,Q,e,hh=>by
   refine kN b (fun x e' hx=>?_) (m5 b hh)
   obtain⟨hx,hf⟩:=hx
   have jb:Fr h.gh (.block id b) e e':=hf
   cases x with
   |normal=>exact⟨hx,jb⟩
   |exit i=>
    have cB:cond (i==id) (Q .normal e') (Q (.exit i) e'):=hx
    show cond (i==id) (Q .normal e'∧Fr h.gh (.block id b) e e') (Q (.exit i) e'∧Fr h.gh (.block id b) e e')
    cases hb:(i==id)<;>rw[hb]at cB<;>exact⟨cB,jb⟩
   |ret=>exact⟨hx,jb⟩
 | .loop b,Q,e,hh=>by
   obtain⟨hb,hh⟩:=m4 (hh:cond _ _ False)
   have hk:=(Bool.and_eq_true _ _▸hb).2
   refine sR hb fun I hI=>?_
   refine hh I fun vs bs hF=>hI vs bs (kN b (fun x e' hx=>?_) (m5 b hF))
   obtain⟨hx,hf⟩:=hx
   have jb:Fr h.gh (.loop b) e e':=(AE (vs:=vs) (bs:=bs) hk).trans (b:=b) hf (fun t ht=>ht) (fun t ht=>ht)
   cases x with
   |normal=>exact hx
   |exit i=>exact⟨hx,jb⟩
   |ret=>exact⟨hx,jb⟩
 | .exit id,_,e,hh=>⟨hh,Fr.refl _ _⟩
 | .ret,_,e,hh=>⟨hh,Fr.refl _ _⟩
 | .goto _,_,_,hh=>hh
 | .label _,_,_,hh=>hh
 | .scope _,_,_,hh=>hh
 | .rangeFunc _ _ _ _,_,_,hh=>hh
 | .refuse _,_,_,hh=>hh
end
end Go.Proofs.Ytaknajjmldngiaa.Ab
namespace Go.Proofs.Ytaknajjmldngiaa.Ab
open Go Go.RowKit
section
variable{P:Program}{gl:Nat→Option D}{h:Hints}
def Gh.cut(g:Gh)(n:Nat):Gh:={g with bx:=g.bx.take n}
theorem yf{g:Gh}{n i:Nat}{x:Option Nat}(hi:i<n):(g.cut n).bx[i]? =some x↔g.bx[i]? =some x:=by
 simp only[Gh.cut];rw[List.getElem?_take,if_pos hi]
theorem v3{g:Gh}{n i:Nat}{x:Option Nat}(h:(g.cut n).bx[i]? =some x):i<n∧g.bx[i]? =some x:=by
 simp only[Gh.cut]at h
 rw[List.getElem?_take]at h
 split at h
 ·exact⟨by assumption,h⟩
 ·cases h
theorem qZ{g:Gh}{n:Nat}{x:Option Nat}(h:x∈(g.cut n).bx):x∈g.bx:=List.mem_of_mem_take h
theorem Ed{base:Nat}{w:World}{g:Gh}{n:Nat}{p:Pos}{b a c:Nat}(h:fe base w g p b a c):fe base w (g.cut n) p b a c:=
 ⟨h.1,h.2.1,fun hm=>h.2.2.1 (qZ hm),h.2.2.2⟩
theorem x5{base wR:Nat}{w w1:World}{g g1:Gh}{s:Slot}{v v1:Value}{O O1:Nat→Nat→Nat→Nat→Prop}(h0:bM wR w g O s v)(h1:bM base w1 g1 O1 s v1){n:Nat}(hn:g.bx.length≤n):
  ∀O2,(∀x,s≠.v x)→(∀x,s≠.t x)→bM base w1 (g1.cut n) O2 s v1:=by
 have key:∀{s:Slot}{v1:Value}{O1:Nat→Nat→Nat→Nat→Prop},bM base w1 g1 O1 s v1→∀{O v},bM wR w g O s v→∀O2,(∀j b a c,O1 j b a c→O2 j b a c)→bM base w1 (g1.cut n) O2 s v1:=by
  intro s v1 O1 h1
  induction h1 with
  |v O1 x y hx=>intro O v _ O2 hO;exact .v _ _ _ (hx.mono (fun _ _ h=>(by first|exact⟨h,rfl⟩|exact⟨h,.refl _ _ _⟩)) (fun _ _ _=>rfl) _ (fun b a c h=>⟨hO 0 b a c h,.refl _ _ _⟩))
  |p O1 b off aj hb=>
   intro O v h0 O2 hO
   obtain⟨Mg,_,pv⟩:=h0.jq
   have:=(List.getElem?_eq_some_iff.1 pv).1
   exact .p _ b off aj ((yf (by omega)).2 hb)
  |a O1 b n1 tU v hm hb=>
   intro O v h0 O2 hO
   cases h0 with
   |a _ _ _ _ _ _ pv=>
    obtain⟨Mg,_,pv,_⟩:=pv
    obtain⟨aj,cap,hb,h2,h3⟩:=hb
    have:=(List.getElem?_eq_some_iff.1 pv).1
    exact .a _ b n1 tU _ hm ⟨aj,cap,(yf (by omega)).2 hb,h2,h3⟩
  |m O1 b aj hb=>
   intro O v h0 O2 hO
   cases h0 with
   |m _ _ Mg pv=>
    have:=(List.getElem?_eq_some_iff.1 pv).1
    exact .m _ b aj ((yf (by omega)).2 hb)
  |c O1 f first cap fv cv hf hc _ _ iV iW=>
   intro O v h0 O2 hO
   cases h0 with
   |c _ _ _ _ M7 M8 Yw kZ Yx Yy=>
    refine .c _ f first cap fv cv hf hc (fun i x v hx hv=>?_) (fun i x v hx hv=>?_)
    ·have hi:i<M7.size:=by rw[←Yw];exact(List.getElem?_eq_some_iff.1 hx).1
     exact iV i x v hx hv (Yx i x M7[i] hx (by simp)) _ (fun _ _ _ _ h=>h)
    ·have hi:i<M8.size:=by rw[←kZ];exact(List.getElem?_eq_some_iff.1 hx).1
     exact iW i x v hx hv (Yy i x M8[i] hx (by simp)) _ (fun _ _ _ _ h=>h)
  |t O1 xs vs hl hc=>
   intro O v _ O2 hO
   exact .t _ xs vs hl fun j x v a b=>(hc j x v a b).mono (fun _ _ h=>(by first|exact⟨h,rfl⟩|exact⟨h,.refl _ _ _⟩)) (fun _ _ _=>rfl) _ (fun b a c h=>⟨hO j b a c h,.refl _ _ _⟩)
 intro O2 hv ht
 cases h1 with
 |v _ x _ _=>exact absurd rfl (hv x)
 |t _ x _ _ _=>exact absurd rfl (ht x)
 |p _ b off aj hb=>exact key (.p O2 b off aj hb) h0 _ (fun _ _ _ _ h=>h)
 |a _ b n1 tU _ hm hb=>exact key (.a O2 b n1 tU _ hm hb) h0 _ (fun _ _ _ _ h=>h)
 |m _ b aj hb=>exact key (.m O2 b aj hb) h0 _ (fun _ _ _ _ h=>h)
 |c _ f first cap fv cv hf hc rf rc=>exact key (.c O2 f first cap fv cv hf hc rf rc) h0 _ (fun _ _ _ _ h=>h)
theorem Dz{w0:World}{an:S0}{e e1:Env}{a a1:Act}{w w1:World}{g g1:Gh}(hI:Inv gl w0 an e a w g)(bC:Inv gl w0 an e1 a1 w1 g1){b:Code}(hf:Fr h.gh b e e1){vars consts:List Nat}
  (hc:∀t∈consts,t∉b9 h.gh b):Inv gl w0 an (again vars consts (m8 e1 vars) (m6 e.boxes.length e1) e) a1 w1 (g1.cut e.boxes.length):=by
 have hX:Ext w0.heap.size w1 g1 w1 {g1 with bx:=g1.bx} (fun _=>False):=⟨fun _ _ hb ho h=>⟨h,hb,ho,fun _ h=>h⟩,fun _ _ h=>(by first|exact⟨h,rfl⟩|exact⟨h,.refl _ _ _⟩),fun _ _ _=>rfl,fun _ _ h=>h,fun _ _ _ _ _ h=>⟨h,.refl _ _ _⟩,.refl _⟩
 refine⟨bC.below,?_,?_,?_,?_,?_,bC.eZ,?_,?_,?_,bC.defers,fun D o hD=>(have h:=bC.ec D o hD;⟨fun hm=>h.1 (qZ hm),h.2⟩),bC.cls,bC.iX⟩
 ·rw[bC.size,hf.1];simp[again,CA]
 ·intro i s hs
  simp only[again,CC,Option.map_eq_some_iff,Nat.zero_add]at hs
  obtain⟨s0,ie,rfl⟩:=hs
  have h1:=kK bC i
  simp only[Act.eval]at h1
  split
  ·rename_i j hj
   obtain⟨_,od⟩:=IF hj
   simp only[Nat.sub_zero]at od
   have hv:ae (m8 e1 vars) j=(e1.ai.getD i (.v .undef)).aT :=by
    simp[ae,m8,List.getD_eq_getElem?_getD,List.getElem?_map,od]
   rw[hv]
   cases jL:e1.ai.getD i (.v .undef)with
   |v x=>
    rw[jL]at h1
    exact .v _ _ _ (h1.jG.mono (fun _ _ h=>(by first|exact⟨h,rfl⟩|exact⟨h,.refl _ _ _⟩)) (fun _ _ _=>rfl) _ (fun _ _ _ h=>⟨Ed h,.refl _ _ _⟩))
   |_=>exact .v _ _ _ (.undef _ _)
  ·cases cJ:consts.contains i with
   |false=>exact .v _ _ _ (.undef _ _)
   |true=>
    have Gk:=hc i (by simpa using cJ)
    have bB:=hf.2.2.1 i Gk
    have WO:e.ai.getD i (.v .undef)=s0:=by rw[List.getD_eq_getElem?_getD,ie];rfl
    rw[WO]at bB
    have h0:=hI.ai i s0 ie
    cases s0 with
    |v x=>exact .v _ _ _ (.undef _ _)
    |t x=>exact .v _ _ _ (.undef _ _)
    |p b' off=>
     have gT:e1.ai.getD i (.v .undef)=.p b' off:=by
      revert bB
      cases e1.ai.getD i (.v .undef)<;>simp[Slot.stays]
     rw[gT]at h1
     exact x5 h0 h1 (by rw[hI.er];exact Nat.le_refl _) _ (by simp) (by simp)
    |a b' n1 tU=>
     have gT:e1.ai.getD i (.v .undef)=.a b' n1 tU:=by
      revert bB
      cases e1.ai.getD i (.v .undef)<;>simp[Slot.stays]
     rw[gT]at h1
     exact x5 h0 h1 (by rw[hI.er];exact Nat.le_refl _) _ (by simp) (by simp)
    |m b'=>
     have gT:e1.ai.getD i (.v .undef)=.m b':=by
      revert bB
      cases e1.ai.getD i (.v .undef)<;>simp[Slot.stays]
     rw[gT]at h1
     exact x5 h0 h1 (by rw[hI.er];exact Nat.le_refl _) _ (by simp) (by simp)
    |c f first cap=>
     have gT:e1.ai.getD i (.v .undef)=.c f first cap:=by
      revert bB
      cases e1.ai.getD i (.v .undef)<;>simp[Slot.stays]<;>intros<;>simp_all
     rw[gT]at h1
     exact x5 h0 h1 (by rw[hI.er];exact Nat.le_refl _) _ (by simp) (by simp)
 ·simp only[again,CB,Gh.cut,List.length_take,bC.er]
  have:=hf.2.1
  omega
 ·intro b' bx aj h1 h2
  obtain⟨aS,h2⟩:=v3 h2
  simp only[again,CD,Option.map_eq_some_iff,Nat.zero_add]at h1
  obtain⟨zE,WQ,rfl⟩:=h1
  have Mh:b'<e1.boxes.length:=by rw[←bC.er];exact(List.getElem?_eq_some_iff.1 h2).1
  have hr:=bC.boxes b' e1.boxes[b'] aj (by simp) h2
  have tp:=hf.2.2.2 b' aS
  rw[List.getD_eq_getElem?_getD,List.getD_eq_getElem?_getD,WQ,List.getElem?_eq_getElem Mh,Option.getD_some,Option.getD_some]at tp
  have VG:aq (m6 e.boxes.length e1) b'=e1.boxes[b'].ay :=by
   simp[aq,m6,List.getD_eq_getElem?_getD,List.getElem?_map,List.getElem?_take,aS,Mh]
  rw[VG]
  generalize e1.boxes[b']=Gt at hr tp
  have tp:zE≠.none ∧Gt.isMap=zE.isMap:=by
   rcases tp with h|h
   ·subst h;exact hr.elim
   ·exact h
  have qf:∀cs,Gt.isMap=false→af.again cs zE=.cells cs:=fun cs h=>by
   rw[h]at tp
   cases zE<;>first|rfl|exact absurd rfl tp.1|exact absurd tp.2 (by simp[af.isMap])
  cases Gt with
  |none=>exact hr.elim
  |cells cs=>
   rw[qf _ rfl]
   obtain⟨r1,c,t,r2,r3,r4⟩:=hr
   exact⟨r1,c,t,r2,r3,r4.1,fun j x y hx hy=>(r4.2 j x y hx hy).mono (fun _ _ h=>(by first|exact⟨h,rfl⟩|exact⟨h,.refl _ _ _⟩)) (fun _ _ _=>rfl) _ (fun _ _ _ h=>⟨Ed h,.refl _ _ _⟩)⟩
  |one s=>
   rw[qf _ rfl]
   obtain⟨r1,c,t,r2,r3,r4⟩:=hr
   refine⟨r1,c,t,r2,r3,Nat.succ_le_of_lt r4.1,fun j x y hx hy=>?_⟩
   have:x=.undef :=by
    cases j<;>simp[af.ay]at hx
    exact hx.symm
   subst this
   exact .undef _ _
  |map l=>
   cases zE with
   |map l0=>
    obtain⟨r1,es,clock,r2,r3,r4⟩:=hr
    exact⟨r1,es,clock,r2,r3,r4⟩
   |_=>exact absurd tp.2 (by simp[af.isMap])
 ·intro i j aj h1 h2
  exact bC.nodup i j aj (v3 h1).2 (v3 h2).2
 ·intro b' o h'
  exact⟨(bC.bT b' o h').1,fun hm=>(bC.bT b' o h').2.1 (qZ hm),(bC.bT b' o h').2.2⟩
 ·intro b' h'
  exact bC.cU b' (qZ h')
 ·exact bC.js
theorem Al{w0:World}{an:S0}{e:Env}{a:Act}{w:World}{g:Gh}(hI:Inv gl w0 an e a w g){key:Nat}{c:Code}{QA:Ex→Env→Prop}{T:(Ex→Env→Prop)→Prop}
  (hF:∀Q,T Q→T (fun ex e'=>Q ex e'∧Fr h.gh c e e'))(hh:mG h key c e QA T):
  ∃qG,T qG∧∀ex e' a' w' g',Inv gl w0 an e' a' w' g'→qG ex e'→∃gO sk,Inv gl w0 an gO a' w' sk∧QA ex gO:=by
 unfold mG at hh
 generalize fS h.cY key=kk at hh
 obtain⟨vars,consts⟩:=kk
 cases vars<;>cases consts
 ·exact⟨_,hh,fun ex e' a' w' g' h1 h2=>⟨e',g',h1,h2⟩⟩
 all_goals
  obtain⟨hb,hh⟩:=m4 (hh:cond _ _ False)
  simp only[Bool.and_eq_true,List.all_eq_true,Bool.not_eq_true',List.contains_eq_mem,decide_eq_false_iff_not]at hb
  refine⟨_,hF _ hh,fun ex e' a' w' g' h1 h2=>?_⟩
  obtain⟨h2,hf⟩:=h2
  cases ex with
  |normal=>exact⟨_,_,Dz hI h1 hf hb.1,h2⟩
  |exit i=>exact⟨e',g',h1,h2⟩
  |ret=>exact⟨e',g',h1,h2⟩
theorem H3{id:Nat}{ops:Array Oper}{draw:Bool}{e:Env}(Q:Ex→Env→Prop)(hh:bif (!draw||jE (fc h id) ops)||yt h.gh id then jn (tm h.gh id) e (fun e'=>oG P gl (aD P gl) (fc h id) ops.toList e' (lI P gl (aD P gl) (!draw||jE (fc h id) ops) ops (fc h id) e' (Q .normal)))else False):
  bif (!draw||jE (fc h id) ops)||yt h.gh id then jn (tm h.gh id) e (fun e'=>oG P gl (aD P gl) (fc h id) ops.toList e' (lI P gl (aD P gl) (!draw||jE (fc h id) ops) ops (fc h id) e' (fun e2=>Q .normal e2∧Fr h.gh (.region id ops draw) e e2)))else False:=by
 obtain⟨hb,hh⟩:=m4 (hh:cond _ _ False)
 refine sR hb (wc (fun e1⟨h6,hg⟩=>wa (fun e'⟨h1,h2,h3,h4,h5⟩=>J5 (X:=fun e'=>Fr h.gh (.region id ops draw) e e') h1 ⟨h2.trans hg.1,?_,fun t ht=>?_,hg.2.2.2.trans hg.2.1 fun i hi=>?_⟩) _ _ _ (CY _ _ _ h6)) (Dg hh))
 ·rw[h3]
  have:=hg.2.1
  simp;omega
 ·simp only[b9,List.mem_append,not_or]at ht
  rw[h4 t ht.2,hg.2.2.1 t ht.1]
 ·have:=h5 i hi
  simp only[List.getD_eq_getElem?_getD]at this ⊢
  rw[List.getElem?_append_left hi]at this
  exact this
theorem IH{c:Operand}{a b:Code}{e:Env}(Q:Ex→Env→Prop)(hh:kS e c (aw P gl (aD P gl) h a Q) (aw P gl (aD P gl) h b Q)):
  kS e c (aw P gl (aD P gl) h a fun x e'=>Q x e'∧Fr h.gh (.cond c a b) e e') (aw P gl (aD P gl) h b fun x e'=>Q x e'∧Fr h.gh (.cond c a b) e e'):=
 CZ (A:=aw P gl (aD P gl) h a Q) (B:=aw P gl (aD P gl) h b Q)
     (fun ha=>kN a (fun y e2 hy=>⟨hy.1,hy.2.mono fun t ht=>by simp[b9,ht]⟩) (m5 a ha)) (fun hb=>kN b (fun y e2 hy=>⟨hy.1,hy.2.mono fun t ht=>by simp[b9,ht]⟩) (m5 b hb)) hh
theorem pU(hm:P.follows .mixedOrders =true):∀(c:Code){w0:World}{an:S0}{QA:Ex→Env→Prop}{e:Env}{a:Act}{w:World}{g:Gh}{Q:Exit→Act→World→Prop},
  Inv gl w0 an e a w g→aw P gl (aD P gl) h c QA e→(∀x e' a' w' g',Inv gl w0 an e' a' w' g'→QA x e'→Q x.to a' w')→c.wp P Q a w
 | .skip,_,_,_,_,_,_,_,_,hI,hh,hQ=>wp_skip (hQ .normal _ _ _ _ hI hh)
 | .region id ops draw,w0,an,QA,e,a,w,g,Q,hI,hh,hQ=>by
   obtain⟨qG,hh,hj⟩:=Al hI (c:=.region id ops draw) (T:=fun Q=>bif (!draw||jE (fc h id) ops)||yt h.gh id then jn (tm h.gh id) e (fun e'=>oG P gl (aD P gl) (fc h id) ops.toList e' (lI P gl (aD P gl) (!draw||jE (fc h id) ops) ops (fc h id) e' (Q .normal)))else False) (fun Q hh=>H3 Q hh) hh
   have hQ:∀x e' a' w' g',Inv gl w0 an e' a' w' g'→qG x e'→Q x.to a' w':=fun x e' a' w' g' h1 h2=>(by
    obtain⟨gO,sk,h3,h4⟩:=hj x e' a' w' g' h1 h2
    exact hQ x gO a' w' sk h3 h4)
   clear hj
   obtain⟨hb,hh⟩:=m4 (hh:cond _ _ False)
   obtain⟨e1,g1,bC,h1⟩:=DR hI hh
   exact QE bC hm h1 fun e' a' w' g' bd hk=>hQ .normal e' a' w' g' bd hk
 | .seq x y,w0,an,QA,e,a,w,g,Q,hI,hh,hQ=>by
   refine wp_seq (pU hm x hI hh fun ex e' a' w' g' bd hk=>?_)
   cases ex with
   |normal=>exact pU hm y bd hk hQ
   |exit i=>exact hQ (.exit i) e' a' w' g' bd hk
   |ret=>exact hQ .ret e' a' w' g' bd hk
 | .cond c x y,w0,an,QA,e,a,w,g,Q,hI,hh,hQ=>by
   obtain⟨qG,hh,hj⟩:=Al hI (c:=.cond c x y) (T:=fun Q=>kS e c (aw P gl (aD P gl) h x Q) (aw P gl (aD P gl) h y Q)) (fun Q hh=>IH Q hh) hh
   have hQ:∀x e' a' w' g',Inv gl w0 an e' a' w' g'→qG x e'→Q x.to a' w':=fun x e' a' w' g' h1 h2=>(by
    obtain⟨gO,sk,h3,h4⟩:=hj x e' a' w' g' h1 h2
    exact hQ x gO a' w' sk h3 h4)
   clear hj
   cases c with
   |tmp t=>
    simp only[kS]at hh
    have hs:=kK hI t
    cases hx:e.ai.getD t (.v .undef)with
    |v z=>
     rw[hx]at hh hs
     obtain⟨b,rfl,h1,h2⟩:=wi hh
     have hv:=hs.jG.data.pT
     refine wp_cond_split hv (fun hb=>?_) (fun hb=>?_)
     ·have:=h1 hb
      subst hb
      rw[qQ hx]at this
      exact pU hm x hI this hQ
     ·have:=h2 hb
      subst hb
      rw[qQ hx]at this
      exact pU hm y hI this hQ
    |_=>rw[hx]at hh;exact hh.elim
   |const v=>
    cases v with
    |bool b=>
     refine wp_cond_split (t:=b) rfl (fun hb=>?_) (fun hb=>?_)
     ·subst hb;exact pU hm x hI hh hQ
     ·subst hb;exact pU hm y hI hh hQ
    |_=>exact hh.elim
   |_=>exact hh.elim
 | .block id b,w0,an,QA,e,a,w,g,Q,hI,hh,hQ=>by
   refine wp_block (pU hm b hI hh fun ex e' a' w' g' bd hk=>?_)
   cases ex with
   |normal=>exact hQ .normal e' a' w' g' bd hk
   |exit i=>
    have dj:cond (i==id) (QA .normal e') (QA (.exit i) e'):=hk
    show(if i=id then Q .normal a' w' else Q (.exit i) a' w')
    cases hb:(i==id)with
    |true=>
     rw[hb]at dj
     rw[if_pos (beq_iff_eq.1 hb)]
     exact hQ .normal e' a' w' g' bd dj
    |false=>
     rw[hb]at dj
     rw[if_neg (beq_eq_false_iff_ne.1 hb)]
     exact hQ (.exit i) e' a' w' g' bd dj
   |ret=>exact hQ .ret e' a' w' g' bd hk
 | .loop b,w0,an,QA,e,a,w,g,Q,hI,hh,hQ=>by
   obtain⟨hb,hh⟩:=m4 (hh:cond _ _ False)
   simp only[Bool.and_eq_true,List.all_eq_true,Bool.not_eq_true',List.contains_eq_mem,decide_eq_false_iff_not]at hb
   obtain⟨Fc,hk⟩:=hb
   let LW:Act→World→Prop:=fun a1 w1=>∀(fr:Frame)(k:List Item)(cs:List Frame),∃ex a' w',Q ex a' w'∧Arrives P (lone (fr.at a1 (.code b::.inLoop b::k)) cs w1) fr k cs ex a' w'
   let I:List SV→List (List SV)→Prop:=fun vs bs=>∀e1 a1 w1 g1,Inv gl w0 an e1 a1 w1 g1→Fr h.gh b e e1→m8 e1 (fS h.cY (g6 b)).1=vs→m6 e.boxes.length e1=bs→LW a1 w1
   have key:I _ _:=hh I fun vs bs hF e1 a1 w1 g1 bC pB ja fM=>by
    subst ja fM
    have Gu:=Dz hI bC pB (vars:=(fS h.cY (g6 b)).1) Fc
    have yy:=pU hm b (Q:=fun ex a' w'=>match ex with| .normal =>LW a' w'|ex=>Q ex a' w') Gu (m5 b hF) (fun ex e' a' w' g' bd dj=>by
     obtain⟨jw,lT⟩:=dj
     cases ex with
     |normal=>exact jw e' a' w' g' bd ((AE hk).trans lT (fun t ht=>ht) (fun t ht=>ht)) rfl rfl
     |exit i=>exact hQ (.exit i) e' a' w' g' bd jw
     |ret=>exact hQ .ret e' a' w' g' bd jw)
    intro fr k cs
    obtain⟨ex,a2,w2,hq,kp⟩:=yy fr (.inLoop b::k) cs
    cases ex with
    |normal=>
     obtain⟨e₂,a₂,w₂,Gv,EN⟩:=hq fr k cs
     exact⟨e₂,a₂,w₂,Gv,.of_steps (Steps.trans kp (.one step_inLoop)) EN⟩
    |exit id=>exact⟨_,a2,w2,hq,.pass (x:=.inLoop b) rfl (fun _ _=>.inl (by simp)) kp⟩
    |goto l=>exact⟨_,a2,w2,hq,.pass (x:=.inLoop b) rfl (fun _ _=>.inl (by simp)) kp⟩
    |ret=>exact⟨_,a2,w2,hq,.pass (x:=.inLoop b) rfl (fun _ _=>.inl (by simp)) kp⟩
    |panic ch=>exact⟨_,a2,w2,hq,.pass (x:=.inLoop b) rfl (fun _ _=>.inl (by simp)) kp⟩
    |outgrown=>exact⟨_,a2,w2,hq,.pass (x:=.inLoop b) rfl (fun _ _=>.inl (by simp)) kp⟩
   have Gw:LW a w:=key e a w g hI (Fr.refl _ _) rfl rfl
   intro fr k cs
   obtain⟨ex,a',w',hq,kp⟩:=Gw fr k cs
   exact⟨ex,a',w',hq,.of_steps (.one step_loop) kp⟩
 | .exit id,_,_,_,_,_,_,_,_,hI,hh,hQ=>wp_exit (hQ (.exit id) _ _ _ _ hI hh)
 | .ret,_,_,_,_,_,_,_,_,hI,hh,hQ=>wp_ret (hQ .ret _ _ _ _ hI hh)
 | .goto _,_,_,_,_,_,_,_,_,_,hh,_=>hh.elim
 | .label _,_,_,_,_,_,_,_,_,_,hh,_=>hh.elim
 | .scope _,_,_,_,_,_,_,_,_,_,hh,_=>hh.elim
 | .rangeFunc _ _ _ _,_,_,_,_,_,_,_,_,_,hh,_=>hh.elim
 | .refuse _,_,_,_,_,_,_,_,_,_,hh,_=>hh.elim
end
end Go.Proofs.Ytaknajjmldngiaa.Ab
namespace Go.Proofs.Ytaknajjmldngiaa.Ab
open Go Go.RowKit
section
variable{P:Program}{gl:Nat→Option D}{h:Hints}
theorem QI{f:FuncId}{fn:Func}{c:Code}(hf:P.funcs[f]? =some fn)(EO:(fn.name== "runtime.NumGoroutine")=false)(hb:fn.body=some c):mE P f:=by
 intro args w
 have h1:fn.name≠ "runtime.NumGoroutine" :=by simpa using EO
 simp[callFunc,hf,h1,hb]
theorem aG.wR{w:World}{St:Nat→Nat→Prop}{base:Nat}{O:Nat→Nat→Nat→Prop}{x:SV}{v:Value}(r:aG w St base O x v)(hx:x.au=true):aG w St 0 O x v:=by
 have hL:∀{l:List SV},SV.lC l=true→∀(i:Nat)y,l[i]? =some y→y.au=true:=by
  intro l
  induction l with
  |nil=>intro _ i y h;simp at h
  |cons z l ih=>
   intro h i y hy
   simp only[SV.lC,Bool.and_eq_true]at h
   cases i with
   |zero=>simp at hy;subst hy;exact h.1
   |succ i=>exact ih h.2 i y (by simpa using hy)
 induction r with
 |d O x v hd=>exact .d O x v hd
 |own O sz L g cap hd bq ho=>exact .own O sz L g cap hd bq ho
 |full O sz L a hd=>exact .full O sz L a hd
 |ref=>simp[SV.au]at hx
 |ev=>simp[SV.au]at hx
 |aE O x off b o vs hf aN hc=>exact .aE O x off b o vs hf aN hc
 |dg O f first cap fv cv hf hc _ _ iV iW=>
  simp only[SV.au,Bool.and_eq_true]at hx
  exact .dg O f first cap fv cv hf hc (fun i x v a b=>iV i x v a b (hL hx.1 i x a)) (fun i x v a b=>iW i x v a b (hL hx.2 i x a))
 |bj O sz L g cap vs h1 h2 h3 h4 h5 h6 h7=>exact .bj O sz L g cap vs h1 h2 h3 h4 h5 h6 h7
 |mp O l r es clock hh hs hl hc=>exact .mp O l r es clock hh hs hl hc
 |undef O v=>exact .undef O v
theorem aG.SU{w:World}{St:Nat→Nat→Prop}{base:Nat}{O:Nat→Nat→Nat→Prop}{l:List SV}{v:Value}(r:aG w St base O (.dA l) v):False:=by cases r
def uk(r:ResultVar)(tmps:Array Value):Sem Value:=match r with
 | .tmp t=>pure (tmps.getD t undef)
 | .cell a t=>do loadVar t (←asAddr (tmps.getD a undef))
theorem P0(fn:Func)(tmps:Array Value):results fn tmps=(fn.results.mapM fun r=>uk r tmps)>>=fun vs=>pure (if h:vs.size=1 then vs[0]else .tuple vs):=by
 unfold results
 congr 1
def Lj(rs:List ResultVar):Pos→Option Nat
 | .s t 0=>rs.findIdx? fun r=>match r with| .tmp u=>u==t|_=>false
 |_=>none
def BD(g:Gh)(rs:List ResultVar)(b:Nat):Option Nat:=(g.ow b).bind (Lj rs)
theorem J6{w0:World}{an:S0}{e:Env}{a:Act}{w:World}{g:Gh}(hI:Inv gl w0 an e a w g){rs:List ResultVar}{used:List Nat}{j:Nat}{r:ResultVar}(hr:rs[j]? =some r)
  (VH:∀i u,i<j→rs[i]? =some (.tmp u)→u∈used){k:SV→Prop}(hh:rF P e used r k):
  ∃x v,k x∧(uk r a.tmps).run P w=.ok v w∧aG w g.St 0 (qq w0.heap.size w g.St (BD g rs) j) x v:=by
 cases r with
 |tmp t=>
  simp only[rF]at hh
  have hs:=kK hI t
  cases hx:e.ai.getD t (.v .undef)with
  |v x=>
   rw[hx]at hh hs
   obtain⟨hn,hk⟩:=hh
   refine⟨_,a.tmps.getD t undef,hk,rfl,?_⟩
   have hv:aG w g.St 0 (fT w0.heap.size w g t 0) x (a.tmps.getD t undef):=hs.jG.wR hn
   cases hu:used.contains t with
   |true=>exact hv.aa
   |false=>
    refine hv.mono (fun _ _ h=>(by first|exact⟨h,rfl⟩|exact⟨h,.refl _ _ _⟩)) (fun _ _ _=>rfl) _ fun b a' c ho=>⟨?_,.refl _ _ _⟩
    obtain⟨o1,o2,_,o4,o5⟩:=ho
    refine⟨?_,o2,o4,o5⟩
    simp only[BD,o1,Option.bind_some,Lj]
    rw[List.findIdx?_eq_some_iff_getElem]
    have hj:j<rs.length:=(List.getElem?_eq_some_iff.1 hr).1
    have Gj:rs[j]=.tmp t:=(List.getElem?_eq_some_iff.1 hr).2
    refine⟨hj,by simp[Gj],fun i hi=>?_⟩
    have jO:i<rs.length:=by omega
    cases vp:rs[i]with
    |tmp u=>
     have:=VH i u hi (by rw[List.getElem?_eq_getElem jO,vp])
     have bm:u≠t:=by
      rintro rfl
      simp at hu
      exact hu this
     simpa using bm
    |cell _ _=>simp
  |_=>rw[hx]at hh;exact hh.elim
 |cell c t=>
  simp only[rF]at hh
  obtain⟨ly,hl,hh⟩:=az hh
  obtain⟨b0,n⟩:=ly
  have hs:=kK hI c
  cases hx:e.ai.getD c (.v .undef)with
  |p bn off=>
   rw[hx]at hh hs
   obtain⟨aj,hv,b6⟩:=hs.jq
   simp only[Act.eval]at hv
   change my b0 n bn off e.boxes _ at hh
   unfold my at hh
   split at hh
   ·rename_i cs bw
    obtain⟨y,hy,hn,hk⟩:=az hh
    obtain⟨h0,cc,ty,hc,bz,hlen,aQ⟩:=hI.boxes bn _ aj bw b6
    obtain⟨v,h1,h2⟩:=C6 (w:=w) (off:=off) (St:=g.St) (O:=fun j=>nT w0.heap.size w g bn j) hl hy aj 0 (fun i=>cc.getD i undef) (fun i hi=>by
     rw[cell_of_row w aj (0+i) cc ty (0,0) hc];simp[Nat.lt_of_lt_of_le hi hlen]) (fun i d hd=>by
     have hi:=(List.getElem?_eq_some_iff.1 hd).1
     exact aQ i d _ hd (by simp[Nat.lt_of_lt_of_le hi hlen])) (fun i hi=>by
     have dp:i<cc.size:=Nat.lt_of_lt_of_le hi hlen
     simp[dp];exact bz i _ hi (by simp))
    simp only[Nat.zero_add]at h1
    refine⟨_,v,hk,?_,(h2.aa (O':=fun _ _ _=>False)).wR hn |>.mono (fun _ _ h=>(by first|exact⟨h,rfl⟩|exact⟨h,.refl _ _ _⟩)) (fun _ _ _=>rfl) _ (fun _ _ _ h=>h.elim)⟩
    simp[uk,hv,asAddr,h1]
   ·rename_i s ew
    cases b0 with
    |true=>exact hh.elim
    |false=>
     simp only[cond_false]at hh
     split at hh
     ·obtain⟨h0,cc,ty,hc,bz,aB,aQ⟩:=hI.boxes bn _ aj ew b6
      have zm:cc[0]? =some (cc[0]'(by omega)):=by simp
      have hd:=(aQ _ zm).aa (O':=fun _ _ _ _=>False)
      split at hh
      ·rename_i x cB
       obtain⟨hn,hk⟩:=hh
       rw[cB]at hd
       refine⟨x,cc[0]'(by omega),hk,?_,hd.jG.wR hn |>.mono (fun _ _ h=>(by first|exact⟨h,rfl⟩|exact⟨h,.refl _ _ _⟩)) (fun _ _ _=>rfl) _ (fun _ _ _ h=>h.elim)⟩
       have aU:=sQ (P:=P) (w:=w) (vs:=fun _=>cc[0]'(by omega)) hl aj 0 (fun j hj=>by
        simp at hj;subst hj
        rw[cell_of_row w aj (0+0) cc ty (0,0) hc];exact zm)
       simp[uk,hv,asAddr,aU]
      ·exact hh.elim
     ·exact hh.elim
   ·exact hh.elim
  |_=>rw[hx]at hh;exact hh.elim
theorem Jr{w0:World}{an:S0}{e:Env}{a:Act}{w:World}{g:Gh}(hI:Inv gl w0 an e a w g){rs:List ResultVar}:∀(l:List ResultVar)(used:List Nat)(j:Nat)(k:List SV→Prop),(∀i,l[i]? =rs[j+i]?)→
  (∀i u,i<j→rs[i]? =some (.tmp u)→u∈used)→ql P e used l k→
  ∃xs vs,k xs∧xs.length=l.length∧(l.mapM fun r=>uk r a.tmps).run P w=.ok vs w∧vs.length=l.length∧∀(i:Nat)x v,xs[i]? =some x→vs[i]? =some v→aG w g.St 0 (qq w0.heap.size w g.St (BD g rs) (j+i)) x v
 |[],_,_,k,_,_,hh=>⟨[],[],hh,rfl,by simp,rfl,fun i x v h=>by simp at h⟩
 |r::l,used,j,k,hl,hu,hh=>by
  simp only[ql]at hh
  have hr:rs[j]? =some r:=by simpa using(hl 0).symm
  obtain⟨x,v,hk,aU,aQ⟩:=J6 hI hr hu hh
  obtain⟨xs,vs,dj,Gx,VI,vt,BA⟩:=Jr hI l (yj used r) (j+1) _ (fun i=>by have:=hl (i+1);simpa[Nat.add_assoc,Nat.add_comm 1 i]using this) (fun i u hi vp=>by
   rcases Nat.lt_or_ge i j with h'|h'
   ·have:=hu i u h' vp
    cases r<;>simp[yj,this]
   ·have:i=j:=by omega
    subst this
    rw[hr]at vp
    cases vp
    simp[yj]) hk
  refine⟨x::xs,v::vs,dj,by simp[Gx],?_,by simp[vt],fun i y u hy hv=>?_⟩
  ·simp[List.mapM_cons,aU,VI]
  ·cases i with
   |zero=>simp at hy hv;subst hy hv;exact aQ
   |succ i=>
    have:=BA i y u (by simpa using hy) (by simpa using hv)
    rw[show j+(i+1)=j+1+i by omega]
    exact this
theorem Ad{fn:Func}{tmps:Array Value}{vs:List Value}{w:World}(hh:(fn.results.toList.mapM fun r=>uk r tmps).run P w=.ok vs w):
  (results fn tmps).run P w=.ok (match vs with|[v]=>v|vs=>.tuple vs.toArray) w:=by
 rw[P0,Array.mapM_eq_mapM_toList]
 simp only[Sem.run_bind,map_eq_pure_bind,hh,Result.andThen_ok,Sem.run_pure]
 match vs with
 |[]=>simp
 |[v]=>simp
 |v::u::l=>simp
theorem Dh{w0:World}{an:S0}{e:Env}{a:Act}{w:World}{g:Gh}(hI:Inv gl w0 an e a w g){fn:Func}{K:SV→Prop}(hh:finish P fn e K):
  ∃r v,K r∧(results fn a.tmps).run P w=.ok v w∧qc w0.heap.size w g.St (BD g fn.results.toList) r v:=by
 unfold finish at hh
 split at hh
 ·rename_i r hr
  have Gy:fn.results.toList[0]? =some r:=by rw[hr];rfl
  obtain⟨x,v,hk,aU,aQ⟩:=J6 hI Gy (fun i u hi=>by omega) hh
  refine⟨x,v,hk,?_,?_⟩
  ·have:=Ad (P:=P) (fn:=fn) (tmps:=a.tmps) (w:=w) (vs:=[v]) (by rw[hr];simp[aU])
   exact this
  ·cases x with
   |dA l=>exact aQ.SU.elim
   |_=>exact aQ
 ·rename_i bm
  obtain⟨xs,vs,hk,Gx,aU,vt,aQ⟩:=Jr hI (rs:=fn.results.toList) fn.results.toList [] 0 _ (fun i=>by simp) (fun i u hi=>by omega) hh
  refine⟨.dA xs,.tuple vs.toArray,hk,?_,vs.toArray,rfl,by simp[Gx,vt],fun j x y hx hy=>?_⟩
  ·rw[Ad aU]
   split
   ·rename_i v
    exfalso
    match Gz:fn.results.toList with
    |[]=>rw[Gz]at vt;simp at vt
    |[r]=>exact bm r Gz
    |_::_::_=>rw[Gz]at vt;simp at vt
   ·rfl
  ·have:=aQ j x y hx (by simpa using hy)
   simpa using this
theorem dz(hm:P.follows .mixedOrders =true){f:FuncId}{args:List SV}{r:SV}(hE:mE P f)(hh:body P gl (aD P gl) h f args fun x=>x=r):aD P gl f args r:=by
 refine⟨hE,fun w St vs k0 mR hlen eu=>?_⟩
 unfold body at hh
 split at hh
 ·rename_i fn hf
  split at hh
  ·rename_i c hb
   have ct:SV.fu args:=by
    rw[SV.jY]
    intro x hx
    obtain⟨i,hi,rfl⟩:=List.mem_iff_getElem.1 hx
    exact(eu i _ (vs[i]'(by omega)) (by simp) (by simp)).wf
   have hh:=hh ct
   have hI:Inv gl w {St:=St,df:=fun _ _=>False,cl:=fun _ _ _=>False} (enter fn.ntmps args) {tmps:=vs++Array.replicate (fn.ntmps-vs.size) undef,defers:=[]} w ⟨St,[],fun _=>none⟩:=by
    refine⟨Below.refl _ _,by simp[enter,hlen],fun i s hs=>?_,rfl,fun b bx aj h1=>by simp[enter]at h1,fun i j aj h1=>by simp at h1,fun _ _ h=>h,fun b o hb=>⟨.inl hb,by simp,k0 b o hb⟩,fun b hb=>by simp at hb,mR,rfl,fun D o hD=>hD.elim,fun b o v hv=>hv.elim,Nat.zero_le _⟩
    simp only[enter]at hs
    rw[List.getElem?_append]at hs
    split at hs
    ·rename_i hi
     simp only[List.length_map]at hi
     simp only[List.getElem?_map,Option.map_eq_some_iff]at hs
     obtain⟨x,hx,rfl⟩:=hs
     have GA:i<vs.size:=by omega
     have:=eu i x vs[i] hx (by simp)
     have j4:(vs++Array.replicate (fn.ntmps-vs.size) undef).getD i undef=vs[i]:=by
      simp[Array.getElem?_append,GA]
     rw[j4]
     exact .v _ _ _ (this.mono (fun _ _ h=>(by first|exact⟨h,rfl⟩|exact⟨h,.refl _ _ _⟩)) (fun _ _ _=>rfl) _ (fun _ _ _ h=>h.elim))
    ·have:=(List.mem_replicate.1 (List.mem_of_getElem? hs)).2
     subst this
     exact .v _ _ _ (.undef _ _)
   refine calls_of_wp hf hb (pU hm c hI hh fun ex e' a' w' g' bd hk=>?_)
   have BQ:∀{K},finish P fn e' K→(∀x,K x→x=r)→a'.defers=[]∧∃v,(results fn a'.tmps).run P w'=.ok v w'∧(∃v',(Ending.returned v)=.returned v'∧Below w.heap.size w w'∧∃bA ow,(∀b o,St b o→bA b o)∧
     (∀b o,bA b o→St b o∨(w.heap.size≤b∧b<w'.heap.size))∧qc w.heap.size w' bA ow r v'):=by
    intro K hk Yz
    obtain⟨r',v,jw,aU,aQ⟩:=Dh bd hk
    have:=Yz r' jw
    subst this
    exact⟨bd.defers,v,aU,v,rfl,bd.below,g'.St,_,bd.eZ,fun b o h=>(bd.bT b o h).1.imp id fun h1=>⟨h1,(bd.bT b o h).2.2⟩,aQ⟩
   cases ex with
   |normal=>exact BQ hk fun x hx=>hx
   |exit i=>exact hk.elim
   |ret=>exact BQ hk fun x hx=>hx
  ·exact hh.elim
 ·exact hh.elim
end
end Go.Proofs.Ytaknajjmldngiaa.Ab
namespace Go.Proofs.Ytaknajjmldngiaa.Ab
open Go
def w9(x:SV):Option SV:=match x with| .d (.str s)=>some (.d (.int .i64 s.length))|_=>none
def bG(x:SV):Option SV:=match x with| .ev n _ _=>some (.d (.int .i64 n))|x=>(match x4 x with|some L=>some (.d (.int .i64 L.length))|none=>none)
def aW:List (Nat×Slot)→Option (List (Nat×D))
 |[]=>some []
 |(i,s)::l=>match s with
  | .v y=>(match cg y with
    |some z=>(match aW l with|some r=>some ((i,z)::r)|none=>none)
    |none=>none)
  |_=>none
end Go.Proofs.Ytaknajjmldngiaa.Ab
namespace Go.Proofs.Ytaknajjmldngiaa.Ab
open Go Go.RowKit Go.ChangeShapes Go.WideShapes
inductive RL{α β:Type}(R:α→β→Prop):List α→List β→Prop
 |nil:RL R [] []
 |cons {a:α} {b:β} {l:List α} {m:List β} (h:R a b) (t:RL R l m):RL R (a::l) (b::m)
section
variable{α β:Type}{R S:α→β→Prop}
theorem RL.length{l:List α}{m:List β}(h:RL R l m):l.length=m.length:=by induction h<;>simp_all
theorem RL.append{l l':List α}{m m':List β}(h:RL R l m)(h':RL R l' m'):RL R (l++l') (m++m'):=by
 induction h with
 |nil=>exact h'
 |cons h _ ih=>exact .cons h ih
theorem RL.mono(hm:∀a b,R a b→S a b){l:List α}{m:List β}(h:RL R l m):RL S l m:=by
 induction h with
 |nil=>exact .nil
 |cons h _ ih=>exact .cons (hm _ _ h) ih
theorem RL.get{l:List α}{m:List β}(h:RL R l m):∀(i:Nat)(a:α)(b:β),l[i]? =some a→m[i]? =some b→R a b:=by
 induction h with
 |nil=>intro i a b h;simp at h
 |cons h _ ih=>
  intro i a b ha hb
  cases i with
  |zero=>simp at ha hb;subst ha hb;exact h
  |succ i=>exact ih i a b (by simpa using ha) (by simpa using hb)
end
def pack(b:Bool)(xs:List D):D:=match b,xs with
 |true,xs=>.agg xs
 |false,[x]=>x
 |false,_=>.mA
inductive Is(P:Program):TypeId→List D→Prop
 |bool {t:TypeId} (h:P.underlying t=some .bool) (b:Bool):Is P t [.bool b]
 |int {t:TypeId} {k:IntKind} (h:P.underlying t=some (.int k)) (n:Int) (hn:fg k n=true):Is P t [.int k n]
 |str {t:TypeId} (h:P.underlying t=some .string) (s:List UInt8) (hs:s.length≤maxLen):Is P t [.str s]
 |iT {t e:TypeId} (h:P.underlying t=some (.slice e)):Is P t [.sl .nil 0 []]
 |sl {t e:TypeId} (h:P.underlying t=some (.slice e)) (b:Bool) (hb:cZ P e=some b) (L:List (List D)) (hm:L.length≤maxLen) (hL:∀x∈L,Is P e x):
   Is P t [.sl .ro (P.cellsOf e) (L.map (pack b))]
 |struct {t:TypeId} {fs:Array Field} (h:P.underlying t=some (.struct fs)) (parts:List (List D)) (hl:parts.length=fs.size)
   (hp:∀(i:Nat)f p,fs[i]? =some f→parts[i]? =some p→Is P f.type p):Is P t parts.flatten
 |array {t e:TypeId} {n:Nat} (h:P.underlying t=some (.array n e)) (parts:List (List D)) (hl:parts.length=n) (hp:∀p∈parts,Is P e p):Is P t parts.flatten
section
variable{P:Program}{t:TypeId}{xs:List D}
theorem Is.pT(ht:P.underlying t=some .bool)(h:Is P t xs):∃b,xs=[.bool b]:=by
 cases h with
 |bool _ b=>exact⟨b,rfl⟩
 |_=>simp_all
theorem Is.oJ{k:IntKind}(ht:P.underlying t=some (.int k))(h:Is P t xs):∃n,xs=[.int k n]∧fg k n=true:=by
 cases h with
 |int h n hn=>rw[ht]at h;cases h;exact⟨n,rfl,hn⟩
 |_=>simp_all
theorem Is.qX(ht:P.underlying t=some .string)(h:Is P t xs):∃s,xs=[.str s]∧s.length≤maxLen:=by
 cases h with
 |str h s hs=>exact⟨s,rfl,hs⟩
 |_=>simp_all
theorem Is.yn{e:TypeId}{b:Bool}(ht:P.underlying t=some (.slice e))(hb:cZ P e=some b)(h:Is P t xs):
  xs=[.sl .nil 0 []]∨∃L:List (List D),xs=[.sl .ro (P.cellsOf e) (L.map (pack b))]∧L.length≤maxLen∧∀x∈L,Is P e x:=by
 cases h with
 |iT h=>exact .inl rfl
 |sl h b' di L hm hL=>rw[ht]at h;cases h;rw[hb]at di;cases di;exact .inr ⟨L,rfl,hm,hL⟩
 |_=>simp_all
theorem Is.sU{fs:Array Field}(ht:P.underlying t=some (.struct fs))(h:Is P t xs):
  ∃parts:List (List D),xs=parts.flatten∧parts.length=fs.size∧∀(i:Nat)f p,fs[i]? =some f→parts[i]? =some p→Is P f.type p:=by
 cases h with
 |struct h parts hl hp=>rw[ht]at h;cases h;exact⟨parts,rfl,hl,hp⟩
 |_=>simp_all
theorem Is.QJ{e:TypeId}{n:Nat}(ht:P.underlying t=some (.array n e))(h:Is P t xs):∃parts:List (List D),xs=parts.flatten∧parts.length=n∧∀p∈parts,Is P e p:=by
 cases h with
 |array h parts hl hp=>rw[ht]at h;cases h;exact⟨parts,rfl,hl,hp⟩
 |_=>simp_all
end
def qn(P:Program):List Field→Nat→Option Nat
 |[],n=>some n
 |f::fs,n=>bif Nat.beq f.offset n then qn P fs (n+P.cellsOf f.type)else none
def pC(P:Program)(L:List Nat)(t:TypeId):Bool:=match P.underlying t with
 |some .bool =>Nat.beq (P.cellsOf t) 1
 |some (.int _)=>Nat.beq (P.cellsOf t) 1
 |some .string =>Nat.beq (P.cellsOf t) 1
 |some (.slice e)=>Nat.beq (P.cellsOf t) 1&&L.contains e&&Nat.ble 1 (P.cellsOf e)
 |some (.array n e)=>L.contains e&&Nat.beq (P.cellsOf t) (n*P.cellsOf e)
 |some (.struct fs)=>fs.toList.all (fun f=>L.contains f.type)&&(match qn P fs.toList 0 with|some n=>Nat.beq n (P.cellsOf t)|none=>false)
 |_=>false
def pZ(P:Program)(L:List Nat):Bool:=L.all (pC P L)
section
variable{P:Program}{L:List Nat}
theorem DS:∀(fs:List Field)(n m:Nat),qn P fs n=some m→m=n+(fs.map fun f=>P.cellsOf f.type).sum
 |[],n,m,h=>by simp[qn]at h;simp[h]
 |f::fs,n,m,h=>by
  simp only[qn]at h
  cases hb:Nat.beq f.offset n<;>rw[hb]at h
  ·cases h
  ·have:=DS fs _ _ h
   simp only[List.map_cons,List.sum_cons]
   omega
theorem J7:∀(fs:List Field)(n m:Nat),qn P fs n=some m→∀(j:Nat)f,fs[j]? =some f→f.offset=n+((fs.take j).map fun f=>P.cellsOf f.type).sum
 |[],n,m,h,j,f,hj=>by simp at hj
 |f::fs,n,m,h,j,g,hj=>by
  simp only[qn]at h
  cases hb:Nat.beq f.offset n<;>rw[hb]at h
  ·cases h
  ·have hn:=Nat.eq_of_beq_eq_true hb
   cases j with
   |zero=>simp at hj;subst hj;simp[hn]
   |succ j=>
    have:=J7 fs _ _ h j g (by simpa using hj)
    simp only[List.take_succ_cons,List.map_cons,List.sum_cons]
    omega
theorem qR(h:pZ P L=true){t:TypeId}(ht:t∈L):pC P L t=true:=List.all_eq_true.1 h t ht
theorem Ph(h:pZ P L=true):Kids P (· ∈L) where
 pointer:=fun{t e}ht hu=>by have:=qR h ht;simp[pC,hu]at this
 slice:=fun{t e}ht hu=>by have:=qR h ht;simp[pC,hu]at this;exact this.1.2
 array:=fun{t e n}ht hu=>by
  have:=qR h ht
  simp only[pC,hu,Bool.and_eq_true]at this
  exact⟨by simpa using this.1,Nat.eq_of_beq_eq_true this.2⟩
 struct:=fun{t fs}ht hu=>by
  have:=qR h ht
  simp only[pC,hu,Bool.and_eq_true]at this
  refine⟨fun f hf=>by simpa using List.all_eq_true.1 this.1 f hf,?_⟩
  have h2:=this.2
  split at h2
  ·rename_i n hn
   have e:=Nat.eq_of_beq_eq_true h2
   refine⟨by rw[←e,DS _ _ _ hn];omega,fun j f hj=>by rw[J7 _ _ _ hn j f hj];omega⟩
  ·cases h2
 map:=fun{t k e}ht hu=>by have:=qR h ht;simp[pC,hu]at this
theorem P1(h:pZ P L=true){t e:TypeId}(ht:t∈L)(hu:P.underlying t=some (.slice e)):0<P.cellsOf e:=by
 have:=qR h ht
 simp[pC,hu]at this
 omega
theorem II{β:Type}(cs:List β):∀(fs:List Field)(n m:Nat),qn P fs n=some m→cs.length=m→cs.drop n=(fs.map fun f=>(cs.drop f.offset).take (P.cellsOf f.type)).flatten
 |[],n,m,h,hm=>by simp[qn]at h;simp;omega
 |f::fs,n,m,h,hm=>by
  simp only[qn]at h
  cases hb:Nat.beq f.offset n<;>rw[hb]at h
  ·cases h
  ·have hn:=Nat.eq_of_beq_eq_true hb
   have ih:=II cs fs _ _ h hm
   simp only[List.map_cons,List.flatten_cons,←ih,hn]
   rw[←List.drop_drop,List.take_append_drop]
theorem Jt{β:Type}(s:Nat):∀(n:Nat)(cs:List β),cs.length=n*s→cs=((List.range n).map fun i=>(cs.drop (i*s)).take s).flatten
 |0,cs,h=>by simp at h;subst h;rfl
 |n+1,cs,h=>by
  rw[List.range_succ_eq_map,List.map_cons,List.flatten_cons,List.map_map]
  have ih:=Jt s n (cs.drop s) (by rw[List.length_drop,h,Nat.add_mul];omega)
  have:((fun i=>(cs.drop (i*s)).take s) ∘ Nat.succ)=fun i=>((cs.drop s).drop (i*s)).take s:=by
   funext i
   simp only[Function.comp,List.drop_drop]
   rw[Nat.succ_mul,Nat.add_comm]
  rw[this,←ih]
  simp
end
section
variable{H:Type}{enc:TypeId×Value→H}{P:Program}{w:World}{L:List Nat}
def tB(ps:List MemPlace)(b o:Nat):Prop:=MemPlace.cell b o∈ps
def qu(w:World)(ps:List MemPlace)(c:D)(v:Value):Prop:=c.one=true∧aK w (tB ps) c v
theorem qu.mono{ps qs:List MemPlace}(h:∀p∈ps,p∈qs)(c:D)(v:Value)(r:qu w ps c v):qu w qs c v:=⟨r.1,r.2.mono fun b o hb=>⟨h _ hb,rfl⟩⟩
theorem P2{b:Bool}{e:TypeId}(hL:pZ P L=true)(he:e∈L)(hb:cZ P e=some b){x:List D}(hx:Is P e x):(pack b x).cells =x∨∃y,x=[y]∧b=false:=by
 cases b with
 |true=>exact .inl rfl
 |false=>
  right
  unfold cZ at hb
  cases hx with
  |bool h b=>exact⟨_,rfl,rfl⟩
  |int h n hn=>exact⟨_,rfl,rfl⟩
  |str h s hs=>exact⟨_,rfl,rfl⟩
  |iT h=>exact⟨_,rfl,rfl⟩
  |sl h=>exact⟨_,rfl,rfl⟩
  |struct h=>rw[h]at hb;cases hb
  |array h=>rw[h]at hb;cases hb
theorem Pj{b:Bool}{e:TypeId}(hL:pZ P L=true)(he:e∈L)(hb:cZ P e=some b){x:List D}(hx:Is P e x)(h1:∀c∈x,c.one=true):(pack b x).cells =x:=by
 rcases P2 hL he hb hx with h|⟨y,rfl,rfl⟩
 ·exact h
 ·have:=h1 y (by simp)
  cases y<;>first|rfl|simp[D.one]at this
theorem SW(hL:pZ P L=true):∀(fuel:Nat)(t:TypeId)(cs:List Value)(x:DataW H×List MemPlace),t∈L→DataW.trod enc P w 0 (fun _=>true) true fuel t cs=some x→
  ∃xs:List D,Is P t xs∧xs.length=P.cellsOf t∧RL (qu w x.2) xs cs:=by
 intro fuel
 induction fuel with
 |zero=>intro t cs x _ h;simp[DataW.trod]at h
 |succ fuel ih=>
  intro t cs x ht h
  have mU:=qR hL ht
  unfold pC at mU
  split at mU
  ·rename_i hu
   obtain⟨b,rfl,rfl⟩:=DataW.trod_bool hu h
   exact⟨[.bool b],.bool hu b,(Nat.eq_of_beq_eq_true mU).symm,.cons ⟨rfl,.bool b⟩ .nil⟩
  ·rename_i k hu
   obtain⟨n,rfl,rfl,hw⟩:=DataW.trod_int hu h
   exact⟨[.int k n],.int hu n hw,(Nat.eq_of_beq_eq_true mU).symm,.cons ⟨rfl,.int k n hw⟩ .nil⟩
  ·rename_i hu
   obtain⟨s,rfl,rfl,hs⟩:=DataW.trod_string hu h
   exact⟨[.str s.data.toList],.str hu _ (by simpa using hs),(Nat.eq_of_beq_eq_true mU).symm,.cons ⟨rfl,.str s hs⟩ .nil⟩
  ·rename_i e hu
   simp only[Bool.and_eq_true]at mU
   obtain⟨⟨h1,he⟩,BR⟩:=mU
   have he:e∈L:=by simpa using he
   have h1:=Nat.eq_of_beq_eq_true h1
   have BR:=Nat.le_of_ble_eq_true BR
   obtain⟨bb,cD⟩:∃bb,cZ P e=some bb:=by
    have:=qR hL he
    unfold pC at this
    unfold cZ
    split at this<;>simp_all
   rcases DataW.trod_slice hu h with⟨rfl,rfl⟩|⟨a,len,cap,elems,rest,n,hn,rfl,rfl,_,hlc,gP,kC,WR,_,_⟩
   ·exact⟨[.sl .nil 0 []],.iT hu,by rw[h1];rfl,.cons ⟨rfl,.iT 0⟩ .nil⟩
   ·cases hn
    have key:∀k,k≤len→∃M:List (List D),M.length=k∧∀i,i<k→∃y dJ,M[i]? =some y∧w.cells? 0 (a.add (i*P.cellsOf e)) (P.cellsOf e)=some dJ∧Is P e y∧y.length=P.cellsOf e∧
      RL (qu w ((elems++rest).flatMap (·.2))) y dJ:=by
     intro k
     induction k with
     |zero=>intro _;exact⟨[],rfl,fun i hi=>by omega⟩
     |succ k zF=>
      intro hk
      obtain⟨M,hM,jN⟩:=zF (by omega)
      have hq:=WR k (by omega)
      have kB:elems[k]? =some (elems[k]'(by omega)):=List.getElem?_eq_getElem (by omega)
      rw[kB]at hq
      obtain⟨dJ,ib,cB⟩:=Option.bind_eq_some_iff.1 hq
      obtain⟨y,hy,GB,jc⟩:=ih e dJ _ he cB
      refine⟨M++[y],by simp[hM],fun i hi=>?_⟩
      rcases Nat.lt_or_ge i k with h|h
      ·obtain⟨y',WS,q1,q2⟩:=jN i h
       exact⟨y',WS,by rw[List.getElem?_append_left (by omega)];exact q1,q2⟩
      ·have:i=k:=by omega
       subst this
       refine⟨y,dJ,by rw[List.getElem?_append_right (by omega),hM];simp,ib,hy,GB,jc.mono (qu.mono fun p hp=>?_)⟩
       exact List.mem_flatMap.2 ⟨_,List.mem_append_left _ (List.getElem_mem (by omega)),hp⟩
    obtain⟨M,hM,jN⟩:=key len (Nat.le_refl _)
    have zG:∀y∈M,Is P e y∧y.length=P.cellsOf e∧∀c∈y,c.one=true:=by
     intro y hy
     obtain⟨i,hi,rfl⟩:=List.mem_iff_getElem.1 hy
     obtain⟨y',dJ,q1,_,q2,q3,q4⟩:=jN i (by omega)
     rw[List.getElem?_eq_getElem hi]at q1
     cases q1
     refine⟨q2,q3,fun c hc=>?_⟩
     obtain⟨j,hj,rfl⟩:=List.mem_iff_getElem.1 hc
     have:=q4.length
     exact(q4.get j _ (dJ[j]'(by omega)) (List.getElem?_eq_getElem hj) (List.getElem?_eq_getElem (by omega))).1
    have GC:∀y∈M,(pack bb y).cells =y:=fun y hy=>Pj hL he cD (zG y hy).1 (zG y hy).2.2
    refine⟨[.sl .ro (P.cellsOf e) (M.map (pack bb))],.sl hu bb cD M (by omega) (fun y hy=>(zG y hy).1),by rw[h1];rfl,.cons ⟨rfl,?_⟩ .nil⟩
    have hlen:(M.map (pack bb)).length =len:=by simp[hM]
    by_cases kA:a.spot=none
    ·obtain⟨b,off,spot⟩:=a
     simp only at kA
     subst kA
     have aN:∀o,o<len*P.cellsOf e→∃v,w.cell? ⟨b,off+o,none⟩=some v:=by
      intro o ho
      have hq:o / P.cellsOf e<len:=Nat.div_lt_of_lt_mul (by rw[Nat.mul_comm];exact ho)
      have uQ:=Nat.mod_lt o BR
      obtain⟨y,dJ,q1,q2,q3,q4,q5⟩:=jN _ hq
      obtain⟨_,l1,l2⟩:=World.cells?_some q2
      have:=l2 (o % P.cellsOf e) uQ
      refine⟨dJ[o % P.cellsOf e]'(by omega),?_⟩
      rw[List.getElem?_eq_getElem (by omega)]at this
      rw[←this]
      simp only[add_plain]
      congr 2
      rw[Nat.add_assoc]
      congr 1
      rw[Nat.mul_comm]
      exact(Nat.div_add_mod _ _).symm
     have hv:∀o,o<len*P.cellsOf e→w.cell? ⟨b,off+o,none⟩=some ((w.cell? ⟨b,off+o,none⟩).getD (.bool false)):=fun o ho=>by
      obtain⟨v,hv⟩:=aN o ho
      rw[hv];rfl
     have:=aK.sl (w:=w) (St:=tB (MemPlace.row ⟨b,off,none⟩ ((elems.length+rest.length)*P.cellsOf e)++(elems++rest).flatMap (·.2))) (P.cellsOf e) (M.map (pack bb)) b off cap
      (fun o=>(w.cell? ⟨b,off+o,none⟩).getD (.bool false)) (by omega) (by omega) (fun x hx=>by
        obtain⟨y,hy,rfl⟩:=List.mem_map.1 hx
        rw[GC y hy]
        exact(zG y hy).2.1) (fun x hx c hc=>by
        obtain⟨y,hy,rfl⟩:=List.mem_map.1 hx
        rw[GC y hy]at hc
        exact(zG y hy).2.2 c hc) (fun o ho=>by
        rw[hlen]at ho
        refine⟨hv o ho,List.mem_append_left _ (MemPlace.mem_row.2 ⟨o,?_,rfl⟩)⟩
        rw[Nat.add_mul];rw[kC];omega) (fun i x j c hi hj=>by
        rw[List.getElem?_map]at hi
        obtain⟨y,hy,rfl⟩:=Option.map_eq_some_iff.1 hi
        have jO:i<M.length:=(List.getElem?_eq_some_iff.1 hy).1
        have YA:y∈M:=List.mem_of_getElem? hy
        rw[GC y YA]at hj
        obtain⟨y',dJ,q1,q2,q3,q4,q5⟩:=jN i (by omega)
        rw[hy]at q1
        cases q1
        obtain⟨_,l1,l2⟩:=World.cells?_some q2
        have jd:j<y.length:=(List.getElem?_eq_some_iff.1 hj).1
        have l3:=l2 j (by omega)
        rw[List.getElem?_eq_getElem (by omega)]at l3
        have hr:=(q5.get j c (dJ[j]'(by omega)) hj (List.getElem?_eq_getElem (by omega))).2
        simp only[add_plain,Nat.add_assoc]at l3
        simp only[l3,Option.getD_some]
        exact hr.mono fun b' o' di=>⟨List.mem_append_right _ di,rfl⟩)
     rw[hlen]at this
     exact this
    ·have h0:len=0:=by
      rcases Nat.eq_zero_or_pos len with h|h
      ·exact h
      ·obtain⟨y,dJ,q1,q2,q3,q4,q5⟩:=jN 0 h
       obtain⟨_,l1,l2⟩:=World.cells?_some q2
       have:=l2 0 BR
       rw[List.getElem?_eq_getElem (by omega)]at this
       exact absurd (World.cell?_spot this) (by simpa[Addr.add]using kA)
     subst h0
     have:M=[]:=List.length_eq_zero_iff.1 hM
     subst this
     exact .iU _ a cap kA
  ·rename_i n e hu
   simp only[Bool.and_eq_true]at mU
   obtain⟨he,hc⟩:=mU
   have he:e∈L:=by simpa using he
   have hc:=Nat.eq_of_beq_eq_true hc
   obtain⟨ys,m,hm,rfl,cz,GB,kG⟩:=DataW.trod_array hu h
   cases hm
   have key:∀k,k≤n→∃M:List (List D),M.length=k∧(∀y∈M,Is P e y)∧M.flatten.length=k*P.cellsOf e∧RL (qu w (ys.flatMap (·.2))) M.flatten ((List.range k).map fun i=>(cs.drop (i*P.cellsOf e)).take (P.cellsOf e)).flatten :=by
    intro k
    induction k with
    |zero=>intro _;exact⟨[],rfl,by simp,by simp,by simp;exact .nil⟩
    |succ k zF=>
     intro hk
     obtain⟨M,hM,vu,tV,qH⟩:=zF (by omega)
     have hq:=kG k (by omega)
     have kB:ys[k]? =some (ys[k]'(by omega)):=List.getElem?_eq_getElem (by omega)
     rw[kB]at hq
     obtain⟨y,hy,Fe,jc⟩:=ih e _ _ he hq
     refine⟨M++[y],by simp[hM],fun z hz=>?_,by simp[tV,Fe,Nat.add_mul],?_⟩
     ·rcases List.mem_append.1 hz with h|h
      ·exact vu z h
      ·simp at h;subst h;exact hy
     ·rw[List.range_succ,List.map_append,List.flatten_append,List.flatten_append]
      refine qH.append ?_
      simp only[List.map_cons,List.map_nil,List.flatten_cons,List.flatten_nil,List.append_nil]
      exact jc.mono (qu.mono fun p hp=>List.mem_flatMap.2 ⟨_,List.getElem_mem (by omega),hp⟩)
   obtain⟨M,hM,vu,tV,qH⟩:=key n (Nat.le_refl _)
   refine⟨M.flatten,.array hu M hM vu,by rw[tV,hc],?_⟩
   rw[←Jt (P.cellsOf e) n cs (by rw[cz,hc])]at qH
   exact qH
  ·rename_i fs hu
   simp only[Bool.and_eq_true]at mU
   obtain⟨u9,qE⟩:=mU
   split at qE
   ·rename_i YB Mi
    have qE:=Nat.eq_of_beq_eq_true qE
    obtain⟨ys,m,hm,rfl,cz,GB,kG⟩:=DataW.trod_struct hu h
    cases hm
    have key:∀k,k≤fs.size→∃M:List (List D),M.length=k∧(∀(i:Nat)f p,fs[i]? =some f→M[i]? =some p→Is P f.type p)∧M.flatten.length=((fs.toList.take k).map fun f=>P.cellsOf f.type).sum ∧
      RL (qu w (ys.flatMap (·.2))) M.flatten ((fs.toList.take k).map fun f=>(cs.drop f.offset).take (P.cellsOf f.type)).flatten :=by
     intro k
     induction k with
     |zero=>intro _;exact⟨[],rfl,fun i f p _ hp=>by simp at hp,by simp,by simp;exact .nil⟩
     |succ k zF=>
      intro hk
      obtain⟨M,hM,vu,tV,qH⟩:=zF (by omega)
      have rZ:fs[k]? =some (fs[k]'(by omega)):=Array.getElem?_eq_getElem (by omega)
      have hq:=kG k _ rZ
      have kB:ys[k]? =some (ys[k]'(by omega)):=List.getElem?_eq_getElem (by omega)
      rw[kB]at hq
      have YC:(fs[k]'(by omega)).type ∈L:=by simpa using List.all_eq_true.1 u9 _ (by simp:fs[k]'(by omega)∈fs.toList)
      obtain⟨y,hy,Fe,jc⟩:=ih _ _ _ YC hq
      have oo:fs.toList.take (k+1)=fs.toList.take k++[fs[k]'(by omega)]:=by
       rw[List.take_add_one]
       simp[rZ]
      refine⟨M++[y],by simp[hM],fun i f p hf hp=>?_,?_,?_⟩
      ·rcases Nat.lt_or_ge i k with h|h
       ·rw[List.getElem?_append_left (by omega)]at hp
        exact vu i f p hf hp
       ·rw[List.getElem?_append_right (by omega),hM]at hp
        have nu:i=k:=by
         have:=(List.getElem?_eq_some_iff.1 hp).1
         simp at this
         omega
        subst nu
        simp at hp
        subst hp
        rw[rZ]at hf
        cases hf
        exact hy
      ·rw[oo]
       simp[tV,Fe]
      ·rw[oo,List.map_append,List.flatten_append,List.flatten_append]
       refine qH.append ?_
       simp only[List.map_cons,List.map_nil,List.flatten_cons,List.flatten_nil,List.append_nil]
       exact jc.mono (qu.mono fun p hp=>List.mem_flatMap.2 ⟨_,List.getElem_mem (by omega),hp⟩)
    obtain⟨M,hM,vu,tV,qH⟩:=key fs.size (Nat.le_refl _)
    have tW:fs.toList.take fs.size=fs.toList:=List.take_of_length_le (by simp)
    rw[tW]at tV qH
    have Ga:=DS _ _ _ Mi
    refine⟨M.flatten,.struct hu M hM vu,by rw[tV,←qE,Ga];omega,?_⟩
    rw[←II cs fs.toList 0 YB Mi (by rw[cz,qE]),List.drop_zero]at qH
    exact qH
   ·cases qE
  ·cases mU
end
end Go.Proofs.Ytaknajjmldngiaa.Ab
namespace Go.Proofs.Ytaknajjmldngiaa.Ab
open Go Go.RowKit Go.ChangeShapes Go.WideShapes
section
variable{H:Type}{enc:TypeId×Value→H}{P:Program}{W:World}{L:List Nat}
theorem KH(hL:pZ P L=true){t:TypeId}{v:Value}{d:DataW H}{ps:List MemPlace}{b:Bool}{r:Reach}{b0:Nat}(ht:t∈L)(hb:cZ P t=some b)
  (fq:Value.okWide P W r b0 t v)(h:DataW.Trod enc P W 0 (fun _=>true) true t v d ps):∃xs,Is P t xs∧aK W (tB ps) (pack b xs) v:=by
 obtain⟨fuel,hf⟩:=h
 obtain⟨xs,hi,hl,hr⟩:=SW hL fuel t _ _ ht hf
 refine⟨xs,hi,?_⟩
 have mU:=qR hL ht
 unfold cZ at hb
 cases b with
 |true=>
  have:∃cs,v=.agg cs:=by
   unfold Value.okWide at fq
   split at fq
   ·obtain⟨cs,h,_⟩:=fq;exact⟨cs,h⟩
   ·obtain⟨cs,h,_⟩:=fq;exact⟨cs,h⟩
   ·rename_i h1 h2
    split at hb
    ·rename_i fs hu;exact absurd hu (h1 fs)
    ·rename_i n e hu;exact absurd hu (h2 n e)
    ·cases hb
    ·cases hb
  obtain⟨cs,rfl⟩:=this
  simp only[Value.cells]at hr
  refine .agg xs cs (fun c hc=>?_) (by simpa using hr.length) (fun i c u hc hu=>(hr.get i c u hc (by simpa using hu)).2)
  obtain⟨j,hj,rfl⟩:=List.mem_iff_getElem.1 hc
  have jd:=hr.length
  exact(hr.get j _ (cs.toList[j]'(by omega)) (List.getElem?_eq_getElem hj) (List.getElem?_eq_getElem (by omega))).1
 |false=>
  have bz:∃y,xs=[y]:=by
   cases hi with
   |bool h b=>exact⟨_,rfl⟩
   |int h n hn=>exact⟨_,rfl⟩
   |str h s hs=>exact⟨_,rfl⟩
   |iT h=>exact⟨_,rfl⟩
   |sl h=>exact⟨_,rfl⟩
   |struct h=>rw[h]at hb;cases hb
   |array h=>rw[h]at hb;cases hb
  obtain⟨y,rfl⟩:=bz
  have hv:v.cells.toList=[v]:=by
   cases v with
   |agg cs=>
    exfalso
    unfold Value.okWide at fq
    split at fq
    ·rename_i h;rw[h]at hb;cases hb
    ·rename_i h;rw[h]at hb;cases hb
    ·unfold pC at mU
     unfold Cell.okWide at fq
     split at fq<;>simp_all [Cell.ok]
   |_=>rfl
  rw[hv]at hr
  cases hr with
  |cons h _=>exact h.2
theorem HO(hL:pZ P L=true){W':World}(hb:Below W.heap.size W W'):∀{ts:List TypeId}{vs:List Value}{ds:List (DataW H)}{ps:List MemPlace},(∀t∈ts,t∈L)→
  DataW.TrodAll enc P W 0 (fun _=>true) true ts vs ds ps→(∀p∈ps,p.block<W.heap.size)→DataW.TrodAll enc P W' 0 (fun b=>decide (b<W.heap.size)) true ts vs ds ps
 |[],[],[],_,_,h,_=>h
 |t::ts,v::vs,d::ds,_,Cf,⟨p,q,⟨fuel,hf⟩,h2,e⟩,aS=>by
  subst e
  refine⟨p,q,⟨fuel,?_⟩,HO hL hb (fun t ht=>Cf t (List.mem_cons_of_mem _ ht)) h2 (fun x hx=>aS x (List.mem_append_right _ hx)),rfl⟩
  exact DataW.trod_stays (Ph hL) (fun ht hu=>P1 hL ht hu) (fun h=>by cases h) (Cf t List.mem_cons_self) hf (fun x hx=>hb.same (aS x (List.mem_append_left _ hx))) (fun x hx=>by simpa using aS x (List.mem_append_left _ hx))
theorem IJ{gl:Nat→Option D}{M9:FuncId}{f:Func}{s:ChangeSpec}{args:Array Value}{ds gs:List (DataW H)}{before:List MemPlace}{tb:TypeId}{St:Nat→Nat→Prop}{yz:List SV}
  (hH:aD P gl M9 yz (.d (.bool true)))(hL:pZ P L=true)(Cf:∀t∈f.params.toList,t∈L)(F5:s.vars=[])
  (hW:DataW.Whole enc P f.params.toList s.vars false W args.toList ds gs before)
  (pB:(s.fn H (ds++gs)).results =[.lit (.bool true)])(GD:(s.fn H (ds++gs)).args =ds)(va:(s.fn H (ds++gs)).vars =[])
  (yV:f.resultTypes= #[tb])(sn:P.underlying tb=some .bool)
  (bB:∀b o,St b o→b<W.heap.size)(hG:tl gl W St)(hlen:yz.length=args.size)
  (aQ:∀(i:Nat)x v,yz[i]? =some x→args[i]? =some v→aG W St W.heap.size (fun _ _ _=>False) x v):
  Calls P M9 args W fun e W'=>∃v,e=.returned v∧s.post enc P f false true false false W args v W':=by
 refine(hH.2 W St args bB hG hlen aQ).mono ?_
 rintro e W' ⟨v,rfl,hb,bA,ow,_,_,hr⟩
 refine⟨v,rfl,?_⟩
 have hv:v=.bool true:=by
  have:=aG.data (show aG W' bA 0 (qq W.heap.size W' bA ow 0) (.d (.bool true)) v from hr)
  cases this
  rfl
 subst hv
 have aS:=hW.lt
 refine⟨ds,gs,before,[],before,[],hW,?_,?_,?_,World.keptBut_mono (fun p hp=>⟨hp,.inr (.inl hp)⟩) (hb.frame _),fun h=>by cases h⟩
 ·rw[pB,yV]
  exact trodAll_cons_mk (shut_bool sn _) trodAll_mk0
 ·rw[GD]
  obtain⟨p,q,hA,hV,rfl,_,_⟩:=hW
  rw[F5]at hV
  have:q=[]:=by
   cases gs with
   |nil=>exact hV
   |cons _ _=>exact hV.elim
  subst this
  rw[List.append_nil]at aS ⊢
  exact HO hL hb Cf hA aS
 ·rw[va,F5]
  rfl
theorem KI{St:Nat→Nat→Prop}{ps:List MemPlace}{x:D}{v:Value}{base:Nat}{O:Nat→Nat→Nat→Prop}(h:aK W (tB ps) x v)(hs:∀b o,MemPlace.cell b o∈ps→St b o):aG W St base O (.d x) v:=
 .d _ _ _ (h.mono fun b o hb=>⟨hs b o hb,rfl⟩)
end
end Go.Proofs.Ytaknajjmldngiaa.Ab
namespace Go.Proofs.Ytaknajjmldngiaa.Ab
open Go
def ob{α β:Type}(o:Option α)(k:α→Option β):Option β:=match o with|some x=>k x|none=>none
def gU{β:Type}(b:Bool)(r:Option β):Option β:=match b with|true=>r|false=>none
def GF{β:Type}(x:SV)(A B:Option β):Option β:=match x with
 | .d (.bool true)=>A
 | .d (.bool false)=>B
 |_=>none
section
variable(P:Program)(gl:Nat→Option D)(call:FuncId→List SV→Option SV)
def yA(n:Nat)(ak:List af)(f:FuncId)(args:List SV):Option (Slot×List af):=
 match n with
 |1=>ob (call f args) fun r=>gU (!rq r) (some (.v r,ak))
 |n=>ob (call f args) fun r=>match r with
  | .dA rs=>if rs.length=n then some (.t rs,ak)else none
  |_=>none
def KJ(x:SV)(args:List SV):Option (FuncId×List SV):=match x with
 | .d (.fn (.func f))=>some (f,args)
 | .dg (.func f) first cap=>some (f,first++args++cap)
 |_=>none
def Ju(x:SV)(name:String)(args:List SV):Option (FuncId×List SV):=match x with
 | .d (.iface t y)=>ob (uG P t name) fun f=>some (f,.d y::args)
 |_=>none
def BS(sz bytes:Nat)(x y:SV):Option SV:=
 ob (kU sz x y) fun r=>if r.2*bytes≤140737488355328 then some r.1 else none
def AF(agg:Bool)(sz b off:Nat)(ak:List af):Option (Slot×List af):=
 match ak[b]? with
 |some (.cells cs)=>ob (ag agg sz off cs) fun x=>some (.v (Ab.aa x),ak)
 |some (.one s)=>(match agg,off with|false,0=>some (s.aa,ak)|_,_=>none)
 |_=>none
def DA(sz b off:Nat)(x:Slot)(ak:List af):Option (List af):=
 match ak[b]? with
 |some (.cells cs)=>(match x with
  | .v y=>ob (aA y) fun l=>if l.length=sz then(if off+sz≤cs.length then some (ak.set b (.cells (setAt cs off l)))else none)else none
  | .t _=>none
  |s=>(match sz,off,cs with|1,0,[_]=>some (ak.set b (.one s))|_,_,_=>none))
 |some (.one _)=>(match sz,off with
  |1,0=>(match x with
   | .v y=>ob (aA y) fun l=>if l.length=1 then some (ak.set b (.cells l))else none
   | .t _=>none
   |s=>some (ak.set b (.one s)))
  |_,_=>none)
 |_=>none
def Ee(o:Oper)(c:Call)(ρ:Operand→Slot)(ak:List af):Option (Slot×List af):=
 match c.callee with
  | .value f=>(match ρ f with
    | .v x=>ob (KJ x (iz ak ρ c.args.toList)) fun r=>yA call (arity P o.type) ak r.1 r.2
    | .c (.func g) first cap=>yA call (arity P o.type) ak g (gE (snap ak 6) first++iz ak ρ c.args.toList++gE (snap ak 6) cap)
    |_=>none)
  | .invoke recv name=>(match ρ recv with
    | .v x=>ob (Ju P x name (iz ak ρ c.args.toList)) fun r=>yA call (arity P o.type) ak r.1 r.2
    |_=>none)
  | .builtin b=>(match b,c.args.toList,c.argTypes.toList with
    | .len,x::_,t::_=>(match ρ x with
      | .a _ n _=>gU (isSlice P t) (some (.v (.d (.int .i64 n)),ak))
      |s=>ob (BK P t s.aT) fun r=>some (.v r,ak))
    | .append,[x,y],[t,u]=>gU (Nat.beq t u) (ob (ke P t) fun e=>ob (ck P e) fun sz=>ob (oF P e) fun bZ=>ob (jB P e) fun z=>
       gU (Nat.blt 0 bZ&&Nat.blt 0 sz&&Nat.beq z.length sz) (ob (BS sz bZ (ρ x).aT (ρ y).aT) fun r=>some (.v r,ak)))
    | .min,x::l,_=>ob (qT minD (ρ x).aT (l.map fun y=>(ρ y).aT)) fun r=>some (.v r,ak)
    | .max,x::l,_=>ob (qT maxD (ρ x).aT (l.map fun y=>(ρ y).aT)) fun r=>some (.v r,ak)
    |_,_,_=>none)
def Ff(id:Nat)(o:Oper)(ρ:Operand→Slot)(ak:List af):Option (Slot×List af):=
 match o.op with
 | .move x| .assign x=>some (ρ x,ak)
 | .pick c a b=>(match ρ c with
   | .v x=>GF x (some (ρ a,ak)) (some (ρ b,ak))
   |_=>none)
 | .alloc t=>(match ak[id]? with
   |some .none =>ob (Ay P t) fun z=>some (.p id 0,ak.set id (.cells z))
   |_=>none)
 | .box t x=>(match ak[id]? with
   |some .none =>ob (ck P t) fun sz=>(match ρ x with
    | .v y=>ob (aA y) fun l=>if l.length=sz then some (.p id 0,ak.set id (.cells l))else none
    | .t _=>none
    |s=>(match sz with|1=>some (.p id 0,ak.set id (.one s))|_=>none))
   |_=>none)
 | .build t ps=>ob (kh ρ ps.toList) fun l=>ob (bY P t l) fun r=>some (.v (.d r),ak)
 | .buildSlice t n ps=>ob (ke P t) fun e=>ob (fH P e) fun ly=>ob (jB P e) fun z=>ob (kh ρ ps.toList) fun l=>
    gU (Nat.ble (n*ly.2) (2^24)&&Nat.blt 0 ly.2&&Nat.beq z.length ly.2) (gU (bO ly.2 n l) (some (.v (.full ly.2 (bL (bN ly.1 z) l n 0)),ak)))
 | .load t a=>ob (fH P t) fun ly=>(match ρ a with
   | .p b off=>AF ly.1 ly.2 b off ak
   | .v x=>ob (aF ly.1 ly.2 x) fun y=>some (.v y,ak)
   |_=>none)
 | .store t a x=>ob (ck P t) fun sz=>(match ρ a with
   | .p b off=>(match o.dst with|none=>ob (DA sz b off (ρ x) ak) fun cp=>some (.t [],cp)|some _=>none)
   |_=>none)
 | .nilCheck x=>(match ρ x with
   | .v y=>ob (AP y) fun z=>some (.v z,ak)
   | .t _=>none
   | .c f first cap=>(match f with| .func _=>some (.c f first cap,ak)|_=>none)
   | .p b off=>some (.p b off,ak)
   |_=>none)
 | .binOp op t x y _=>ob (ah (wv P op t) op (ρ x).aT (ρ y).aT) fun r=>some (.v r,ak)
 | .unOp op _ x=>ob (cw op (ρ x).aT) fun r=>some (.v r,ak)
 | .convert src dst x=>gU (P.underlying src).isSome (ob (Bv P dst (ρ x).aT) fun r=>some (.v r,ak))
 | .makeInterface t x=>gU (!isIface P t) (ob (Ba t (ρ x).aT) fun r=>some (.v r,ak))
 | .makeFunc fn first cap=>some (.c fn (first.toList.map fun x=>(ρ x).aa) (cap.toList.map fun x=>(ρ x).aa),ak)
 | .slice t x lo hi mx=>ob (A8 P t (Ab.aa (ρ x).aT) (kV ρ lo) (kV ρ hi) (kV ρ mx)) fun r=>some (.v r,ak)
 | .fieldAddr t x f=>ob (jX P t f) fun fd=>ob (ck P fd.type) fun sz=>gU (!Nat.beq sz 0) (match ρ x with
   | .p b off=>some (.p b (off+fd.offset),ak)
   | .v y=>ob (bD y fd.offset) fun z=>some (.v z,ak)
   |_=>none)
 | .field t x f=>ob (jX P t f) fun fd=>ob (fH P fd.type) fun ly=>ob (p8 ly.1 ly.2 fd.offset (ρ x).aT) fun r=>some (.v r,ak)
 | .indexAddr t x i=>(match P.underlying t with
   |some (.slice e)=>ob (ck P e) fun sz=>(match ρ x with
    | .a b n _=>ob (eh (ρ i).aT n) fun j=>some (.p b (j*sz),ak)
    |s=>ob (aR sz s.aT (ρ i).aT) fun r=>some (.v r,ak))
   |some (.array n e)=>ob (ck P e) fun sz=>ob (eh (ρ i).aT n) fun j=>(match ρ x with
    | .p b off=>some (.p b (off+j*sz),ak)
    | .v y=>ob (bD y (j*sz)) fun z=>some (.v z,ak)
    |_=>none)
   |_=>none)
 | .index t x i=>(match P.underlying t with
   |some (.array n e)=>ob (fH P e) fun ly=>ob (A9 ly.1 ly.2 n (ρ x).aT (ρ i).aT) fun r=>some (.v r,ak)
   |some .string =>ob (Bw (ρ x).aT (ρ i).aT) fun r=>some (.v r,ak)
   |_=>none)
 | .extract x i=>(match ρ x with
   | .t vs=>ob (vs[i]?) fun r=>some (.v r,ak)
   |_=>none)
 | .lookup t m x vj=>ob (tj P t) fun et=>ob (qb P et.1) fun z=>ob (nO et.2 z (qj ak (ρ m)) (ρ x).aT) fun r=>
    some (bif vj then .t [.d r.1,.d (.bool r.2)]else .v (.d r.1),ak)
 | .makeSlice t n c=>ob (ke P t) fun e=>ob (ck P e) fun sz=>ob (oF P e) fun bZ=>ob (qb P e) fun z=>
    gU (Nat.beq sz 1&&Nat.blt 0 bZ) (ob (lenOf (ρ n).aT (ρ c).aT) fun m=>if m*bZ≤140737488355328 then some (.v (.bj 1 (List.replicate m z)),ak)else none)
 | .makeMap _ hn=>(match hn,ak[id]? with
   |none,some .none =>some (.m id,ak.set id (.map []))
   |_,_=>none)
 | .mapUpdate t m x y=>ob (tj P t) fun et=>(match ρ m,o.dst with
   | .m b,none=>(match ak[b]? with
     |some (.map l)=>ob (jI et.2 (ρ x).aT) fun n=>ob (cg (ρ y).aT) fun d=>ob (lH l n d) fun l'=>some (.t [],ak.set b (.map l'))
     |_=>none)
   |_,_=>none)
 | .call c=>Ee P call o c ρ ak
 |_=>none
theorem bf{α β:Type}{o:Option α}{k:α→Option β}{r:β}(h:ob o k=some r):∃x,o=some x∧k x=some r:=by
 cases o with
 |none=>cases h
 |some x=>exact⟨x,rfl,h⟩
theorem gG{β:Type}{b:Bool}{x:Option β}{r:β}(h:gU b x=some r):b=true∧x=some r:=by
 cases b with
 |false=>cases h
 |true=>exact⟨rfl,h⟩
variable{P gl call}{C:bu}(hC:∀f args r,call f args=some r→C f args r)
include hC
theorem Ae{n:Nat}{ak:List af}{f:FuncId}{args:List SV}{k:Slot→List af→Prop}{s:Slot}{b':List af}(h:yA call n ak f args=some (s,b'))(hk:k s b'):
  kQ C n ak k f args:=by
 unfold yA at h
 unfold kQ
 split at h
 ·obtain⟨r,hr,h⟩:=bf h
  obtain⟨ht,h⟩:=gG h
  cases h
  exact⟨r,hC _ _ _ hr,by simpa using ht,hk⟩
 ·rename_i hn
  obtain⟨r,hr,h⟩:=bf h
  split at h
  ·rename_i rs
   split at h
   ·rename_i hl
    cases h
    split
    ·exact absurd rfl hn
    ·exact Du rs hl ⟨hC _ _ _ hr,hk⟩
   ·cases h
  ·cases h
theorem ON{o:Oper}{c:Call}(ho:o.op=.call c){id:Nat}{ρ:Operand→Slot}{ak:List af}{k:Slot→List af→Prop}{s:Slot}{b':List af}
  (h:Ee P call o c ρ ak=some (s,b'))(hk:k s b'):b7 P C id o ρ ak k:=by
 unfold Ee at h
 unfold b7
 rw[ho]
 dsimp only
 cases hc:c.callee with
 |value f=>
  rw[hc]at h
  dsimp only at h ⊢
  cases hf:ρ f with
  |v x=>
   rw[hf]at h
   dsimp only at h ⊢
   obtain⟨r,hr,h⟩:=bf h
   unfold KJ at hr
   unfold withFn
   split at hr
   ·cases hr;exact Ae hC h hk
   ·cases hr;exact Ae hC h hk
   ·cases hr
  |c g first cap=>
   rw[hf]at h
   cases g with
   |func g=>exact Ae hC h hk
   |_=>cases h
  |_=>rw[hf]at h;cases h
 |invoke f name=>
  rw[hc]at h
  dsimp only at h ⊢
  cases hf:ρ f with
  |v x=>
   rw[hf]at h
   dsimp only at h ⊢
   obtain⟨r,hr,h⟩:=bf h
   unfold Ju at hr
   unfold qS
   split at hr
   ·obtain⟨f',jb,hr⟩:=bf hr
    cases hr
    dsimp only
    rw[jb]
    exact Ae hC h hk
   ·cases hr
  |_=>rw[hf]at h;cases h
 |builtin b=>
  rw[hc]at h
  dsimp only at h ⊢
  split at h
  ·rename_i x xs t ts hx ht
   simp only[hx,ht]
   cases hs:ρ x with
   |a b n=>
    rw[hs]at h
    obtain⟨hb,h⟩:=gG h
    cases h
    simp only[hb,cond_true];exact hk
   |_=>
    rw[hs]at h
    obtain⟨r,hr,h⟩:=bf h
    cases h
    simp only[hr,ab];exact hk
  ·rename_i x y t u hx ht
   obtain⟨lS,h⟩:=gG h
   obtain⟨e',he,h⟩:=bf h
   obtain⟨sz,aB,h⟩:=bf h
   obtain⟨bZ,gS,h⟩:=bf h
   obtain⟨z,hz,h⟩:=bf h
   obtain⟨cJ,h⟩:=gG h
   obtain⟨r,hr,h⟩:=bf h
   cases h
   unfold BS at hr
   obtain⟨r',np,h⟩:=bf hr
   split at h
   ·rename_i hle
    cases h
    simp only[hx,ht,lS,cond_true,he,aB,gS,hz,ab,cJ,bW,np];exact⟨hle,hk⟩
   ·cases h
  ·obtain⟨r,hr,h⟩:=bf h
   cases h
   rename_i hx
   simp only[hx,hr,ab];exact hk
  ·obtain⟨r,hr,h⟩:=bf h
   cases h
   rename_i hx
   simp only[hx,hr,ab];exact hk
  ·cases h
end
end Go.Proofs.Ytaknajjmldngiaa.Ab
namespace Go.Proofs.Ytaknajjmldngiaa.Ab
open Go
section
variable{P:Program}{gl:Nat→Option D}{call:FuncId→List SV→Option SV}{C:bu}(hC:∀f args r,call f args=some r→C f args r)
theorem RA{β:Type}{x:SV}{A B:Option β}{r:β}(h:GF x A B=some r):(x=.d (.bool true)∧A=some r)∨(x=.d (.bool false)∧B=some r):=by
 unfold GF at h
 split at h
 ·exact .inl ⟨rfl,h⟩
 ·exact .inr ⟨rfl,h⟩
 ·cases h
theorem HG{agg:Bool}{sz b off:Nat}{ak:List af}{k:Slot→List af→Prop}{s:Slot}{b':List af}(h:AF agg sz b off ak=some (s,b'))(hk:k s b'):
  my agg sz b off ak k:=by
 unfold AF at h
 unfold my
 split at h
 ·rename_i hb
  rw[hb]
  obtain⟨x,hx,h⟩:=bf h
  cases h
  simp only[hx,ab];exact hk
 ·rename_i hb
  rw[hb]
  split at h
  ·cases h;exact hk
  ·cases h
 ·cases h
theorem Ow{sz b off:Nat}{x:Slot}{ak:List af}{k:List af→Prop}{b':List af}(h:DA sz b off x ak=some b')(hk:k b'):
  nL sz b off x ak k:=by
 unfold DA at h
 unfold nL
 split at h
 ·rename_i cs bw
  rw[bw]
  cases x with
  |v y=>
   dsimp only at h ⊢
   obtain⟨l,hl,h⟩:=bf h
   split at h
   ·split at h
    ·cases h;simp only[hl,ab];exact⟨by assumption,by assumption,hk⟩
    ·cases h
   ·cases h
  |t vs=>cases h
  |a _ _ _=>
   dsimp only at h ⊢
   split at h
   ·cases h;exact hk
   ·cases h
  |m _=>
   dsimp only at h ⊢
   split at h
   ·cases h;exact hk
   ·cases h
  |p b mL=>
   dsimp only at h ⊢
   split at h
   ·cases h;exact hk
   ·cases h
  |c f a b=>
   dsimp only at h ⊢
   split at h
   ·cases h;exact hk
   ·cases h
 ·rename_i hb
  rw[hb]
  dsimp only at h ⊢
  split at h
  ·cases x with
   |v y=>
    dsimp only at h ⊢
    obtain⟨l,hl,h⟩:=bf h
    split at h
    ·cases h;simp only[hl,ab];exact⟨by assumption,hk⟩
    ·cases h
   |t vs=>cases h
   |_=>dsimp only at h ⊢;cases h;exact hk
  ·cases h
 ·cases h
include hC
theorem P3{id:Nat}{o:Oper}{ρ:Operand→Slot}{ak:List af}{k:Slot→List af→Prop}{s:Slot}{b':List af}
  (h:Ff P call id o ρ ak=some (s,b'))(hk:k s b'):b7 P C id o ρ ak k:=by
 unfold Ff at h
 cases ho:o.op
 case call c=>rw[ho]at h;exact ON hC ho h hk
 all_goals rw[ho]at h;dsimp only at h;unfold b7;rw[ho];dsimp only
 case move x=>cases h;exact hk
 case assign x=>cases h;exact hk
 case pick c a b=>
  cases hc:ρ c with
  |v x=>
   rw[hc]at h
   rcases RA h with⟨rfl,h⟩|⟨rfl,h⟩<;>cases h<;>exact hk
  |_=>rw[hc]at h;cases h
 case alloc t=>
  split at h
  ·rename_i hb
   rw[hb]
   obtain⟨z,hz,h⟩:=bf h
   cases h
   simp only[hz,ab];exact hk
  ·cases h
 case box t x=>
  split at h
  ·rename_i hb
   rw[hb]
   obtain⟨sz,hz,h⟩:=bf h
   simp only[hz,ab]
   cases hx:ρ x with
   |v y=>
    rw[hx]at h
    dsimp only at h ⊢
    obtain⟨l,hl,h⟩:=bf h
    split at h
    ·cases h;simp only[hl];exact⟨by assumption,hk⟩
    ·cases h
   |t vs=>rw[hx]at h;cases h
   |_=>
    rw[hx]at h
    dsimp only at h ⊢
    split at h
    ·cases h;exact hk
    ·cases h
  ·cases h
 case build t ps=>
  obtain⟨l,hl,h⟩:=bf h
  obtain⟨r,hr,h⟩:=bf h
  cases h
  simp only[hl,hr,ab];exact hk
 case buildSlice t n ps=>
  obtain⟨e,he,h⟩:=bf h
  obtain⟨ly,eK,h⟩:=bf h
  obtain⟨z,hz,h⟩:=bf h
  obtain⟨l,hl,h⟩:=bf h
  obtain⟨hc,h⟩:=gG h
  obtain⟨hf,h⟩:=gG h
  cases h
  simp only[he,eK,hz,hl,hc,ab,cond_true];exact⟨hf,hk⟩
 case load t a=>
  obtain⟨ly,eK,h⟩:=bf h
  simp only[eK,ab]
  cases ha:ρ a with
  |p b off=>rw[ha]at h;exact HG h hk
  |v x=>
   rw[ha]at h
   obtain⟨y,hy,h⟩:=bf h
   cases h
   simp only[hy];exact hk
  |_=>rw[ha]at h;cases h
 case store t a x=>
  obtain⟨sz,aB,h⟩:=bf h
  simp only[aB,ab]
  cases ha:ρ a with
  |p b off=>
   rw[ha]at h
   dsimp only at h ⊢
   cases hd:o.dst with
   |none=>
    rw[hd]at h
    dsimp only at h ⊢
    obtain⟨y,hy,h⟩:=bf h
    cases h
    exact Ow hy hk
   |some d=>rw[hd]at h;cases h
  |_=>rw[ha]at h;cases h
 case nilCheck x=>
  cases hx:ρ x with
  |v y=>
   rw[hx]at h
   obtain⟨z,hz,h⟩:=bf h
   cases h
   simp only[hz,ab];exact hk
  |t vs=>rw[hx]at h;cases h
  |c f first cap=>
   rw[hx]at h
   cases f with
   |func f=>cases h;exact hk
   |_=>cases h
  |p b off=>rw[hx]at h;cases h;exact hk
  |a _ _ _=>rw[hx]at h;cases h
  |m _=>rw[hx]at h;cases h
 case binOp op t x y u=>
  obtain⟨r,hr,h⟩:=bf h
  cases h
  simp only[hr,ab];exact hk
 case unOp op t x=>
  obtain⟨r,hr,h⟩:=bf h
  cases h
  simp only[hr,ab];exact hk
 case convert src dst x=>
  obtain⟨hs,h⟩:=gG h
  obtain⟨r,hr,h⟩:=bf h
  cases h
  simp only[hs,hr,ab,cond_true];exact hk
 case makeInterface t x=>
  obtain⟨hs,h⟩:=gG h
  obtain⟨r,hr,h⟩:=bf h
  cases h
  have ew:isIface P t=false:=by simpa using hs
  simp only[ew,hr,ab,cond_false];exact hk
 case makeFunc fn first cap=>cases h;exact hk
 case slice t x lo hi mx=>
  obtain⟨r,hr,h⟩:=bf h
  cases h
  simp only[hr,ab];exact hk
 case fieldAddr t x f=>
  obtain⟨fd,lP,h⟩:=bf h
  obtain⟨sz,aB,h⟩:=bf h
  obtain⟨hs,h⟩:=gG h
  have ew:Nat.beq sz 0=false:=by simpa using hs
  simp only[lP,aB,ew,ab,cond_false]
  cases hx:ρ x with
  |p b off=>rw[hx]at h;cases h;exact hk
  |v y=>
   rw[hx]at h
   obtain⟨z,hz,h⟩:=bf h
   cases h
   simp only[hz];exact hk
  |_=>rw[hx]at h;cases h
 case field t x f=>
  obtain⟨fd,lP,h⟩:=bf h
  obtain⟨ly,eK,h⟩:=bf h
  obtain⟨r,hr,h⟩:=bf h
  cases h
  simp only[lP,eK,hr,ab];exact hk
 case indexAddr t x i=>
  split at h
  ·rename_i hb
   rw[hb]
   dsimp only
   obtain⟨sz,aB,h⟩:=bf h
   simp only[aB,ab]
   cases hx:ρ x with
   |a b n=>
    rw[hx]at h
    obtain⟨j,hj,h⟩:=bf h
    cases h
    simp only[hj];exact hk
   |_=>
    rw[hx]at h
    obtain⟨r,hr,h⟩:=bf h
    cases h
    simp only[hr];exact hk
  ·rename_i hb
   rw[hb]
   dsimp only
   obtain⟨sz,aB,h⟩:=bf h
   obtain⟨j,hj,h⟩:=bf h
   simp only[aB,hj,ab]
   cases hx:ρ x with
   |p b off=>rw[hx]at h;cases h;exact hk
   |v y=>
    rw[hx]at h
    obtain⟨z,hz,h⟩:=bf h
    cases h
    simp only[hz];exact hk
   |_=>rw[hx]at h;cases h
  ·cases h
 case index t x i=>
  split at h
  ·rename_i hb
   rw[hb]
   dsimp only
   obtain⟨ly,eK,h⟩:=bf h
   obtain⟨r,hr,h⟩:=bf h
   cases h
   simp only[eK,hr,ab];exact hk
  ·rename_i hb
   rw[hb]
   dsimp only
   obtain⟨r,hr,h⟩:=bf h
   cases h
   simp only[hr,ab];exact hk
  ·cases h
 case extract x i=>
  cases hx:ρ x with
  |t vs=>
   rw[hx]at h
   obtain⟨r,hr,h⟩:=bf h
   cases h
   simp only[hr];exact hk
  |_=>rw[hx]at h;cases h
 case lookup t m x vj=>
  obtain⟨et,het,h⟩:=bf h
  obtain⟨z,hz,h⟩:=bf h
  obtain⟨r,hr,h⟩:=bf h
  cases h
  cases vj with
  |true=>simp only[het,hz,hr,ab];exact hk
  |false=>simp only[het,hz,hr,ab];exact hk
 case makeSlice t n c=>
  obtain⟨e',he,h⟩:=bf h
  obtain⟨sz,aB,h⟩:=bf h
  obtain⟨bZ,gS,h⟩:=bf h
  obtain⟨z,hz,h⟩:=bf h
  obtain⟨hc,h⟩:=gG h
  obtain⟨m,hm,h⟩:=bf h
  split at h
  ·cases h
   simp only[he,aB,gS,hz,hc,hm,ab,cond_true];exact⟨by assumption,hk⟩
  ·cases h
 case makeMap t hn=>
  split at h
  ·rename_i hb
   cases h
   simp only[hb];exact hk
  ·cases h
 case mapUpdate t m x y=>
  obtain⟨et,het,h⟩:=bf h
  simp only[het,ab]
  split at h
  ·rename_i b hm hd
   simp only[hm,hd]
   split at h
   ·rename_i l hb
    obtain⟨n,hn,h⟩:=bf h
    obtain⟨d,ic,h⟩:=bf h
    obtain⟨l',dM,h⟩:=bf h
    cases h
    simp only[hb,hn,ic,dM];exact hk
   ·cases h
  ·cases h
 all_goals cases h
end
end Go.Proofs.Ytaknajjmldngiaa.Ab
namespace Go.Proofs.Ytaknajjmldngiaa.Ab
open Go
section
variable(P:Program)(gl:Nat→Option D)(call:FuncId→List SV→Option SV)(h:Hints)
def Ez(o:Oper)(e:Env):Option Env:=match o.op with
 | .move (.tmp t)| .assign (.tmp t)=>some ⟨bF (e.ai.set t (e.ai.getD t (.v .undef)).aa) o.dst (e.ai.getD t (.v .undef)),e.boxes⟩
 | .extract (.tmp t) i=>(match e.ai.getD t (.v .undef)with
   | .t vs=>ob (vs[i]?) fun r=>some ⟨bF (e.ai.set t (.t (vs.set i (aa r)))) o.dst (.v r),e.boxes⟩
   |_=>none)
 | .load ty a=>(match(aJ gl e a).aa with
   | .p b off=>ob (fH P ty) fun ly=>gU (!ly.1) (match e.boxes[b]? with
     |some (.cells cs)=>ob cs[off]? fun x=>some ⟨bF e.ai o.dst (.v x),e.boxes.set b (.cells (cs.set off (aa x)))⟩
     |_=>none)
   |_=>none)
 | .store ty a (.tmp t)=>(match(aJ gl e a).aa,e.ai.getD t (.v .undef),o.dst with
   | .p b off,.v y,none=>ob (ck P ty) fun sz=>gU (Nat.beq sz 1) (match e.boxes[b]? with
     |some (.cells cs)=>ob (aA y) fun l=>if l.length=1 then(if off<cs.length then some ⟨e.ai.set t (.v (aa y)),e.boxes.set b (.cells (setAt cs off l))⟩else none)else none
     |_=>none)
   |_,_,_=>none)
 | .buildSlice t n ps=>ob (ke P t) fun e'=>ob (fH P e') fun ly=>ob (jB P e') fun z=>ob (kh (fun x=>(aJ gl e x).aa) ps.toList) fun l=>
    gU (Nat.ble (n*ly.2) (2^24)&&Nat.blt 0 ly.2&&Nat.beq z.length ly.2) (gU (bO ly.2 n l) (some ⟨bF e.ai o.dst (.v (.bj ly.2 (bL (bN ly.1 z) l n 0))),e.boxes⟩))
 | .call c=>(match c.callee,c.args.toList,c.argTypes.toList with
   | .builtin .append,[.tmp t,y],[ty,u]=>gU (Nat.beq ty u) (ob (ke P ty) fun e'=>ob (ck P e') fun sz=>ob (oF P e') fun bZ=>ob (jB P e') fun z=>
      gU (Nat.blt 0 bZ&&Nat.blt 0 sz&&Nat.beq z.length sz) (ob (BS sz bZ (e.ai.getD t (.v .undef)).aT ((aJ gl e y).aa).aT) fun r=>
       some ⟨bF (e.ai.set t (e.ai.getD t (.v .undef)).aa) o.dst (.v r),e.boxes⟩))
   |_,_,_=>none)
 |_=>none
def EP(id:Nat)(ax:Bool)(o:Oper)(e:Env):Option Env:=match ax with
 |true=>Ez P gl o e
 |false=>ob (Ff P call id o (fun x=>(aJ gl e x).aa) e.boxes) fun r=>some ⟨bF e.ai o.dst r.1,r.2⟩
def Lk(all:List Oper)(o:Oper)(e:Env):Option (Bool×Env):=
 match o.guard with
 |none=>some (true,e)
 |some (j,want)=>(match(match all[j]? with|some g=>g.dst|none=>none)with
  |some t=>(match e.ai.getD t (.v .undef)with
   | .v (.d (.bool true))=>some (want,e.nS t true)
   | .v (.d (.bool false))=>some (!want,e.nS t false)
   | .t _=>some (false,e)
   |_=>none)
  |none=>none)
def wH(ax:Nat→Bool)(all:List Oper)(base:Nat):List Oper→Nat→Env→Option Env
 |[],_,e=>some e
 |o::rest,i,e=>ob (Lk all o e) fun r=>match r.1 with
  |true=>ob (EP P gl call (base+ep all i) (ax i) o r.2) fun gO=>wH ax all base rest (i+1) gO
  |false=>wH ax all base rest (i+1) ⟨bF r.2.ai o.dst (.t []),r.2.boxes⟩
def QK(ax:Nat→Bool)(ops:List Oper)(e:Env):Option Env:=
 wH P gl call ax ops e.boxes.length ops 0 ⟨e.ai,e.boxes++List.replicate (ep ops ops.length) .none⟩
def Mj(x:SV)(sz:Nat)(A:List D→Option Env)(B:Option Env):Option Env:=match x with
 | .bj s L=>if s=sz then A L else none
 | .d _=>B
 |_=>none
def BT(e:Env):fK→Option Env
 | .box t sz=>(match e.ai.getD t (.v .undef)with
   | .v x=>Mj x sz (fun L=>some ⟨e.ai.set t (.a e.boxes.length L.length sz),e.boxes++[.cells (bV L)]⟩) (some e)
   |_=>none)
 | .mQ t ts=>(match e.ai.getD t (.v .undef)with
   | .a b n _=>(match e.boxes[b]? with
     |some (.cells cs)=>gU (j0 b ts e) (ob (dT cs) fun ds=>if cs.length=n then some (nQ b (fun m=>kR m n (.d (.sl .ro 1 ds))) .undef ts e)else none)
     |_=>none)
   | .m b=>(match e.boxes[b]? with
     |some (.map l)=>gU (j0 b ts e) (some (nQ b (fun _=>.undef) (.mp l) ts e))
     |_=>none)
   | .v _=>some e
   |_=>none)
 |_=>none
def BE:List fK→Env→Option Env
 |[],e=>some e
 |x::l,e=>ob (BT e x) fun e'=>BE l e'
theorem P4{e e':Env}{x:fK}{k:Env→Prop}(h:BT e x=some e')(hk:k e'):dV e k x:=by
 cases x with
 |box t sz=>
  simp only[BT]at h
  simp only[dV]
  split at h
  ·rename_i x hx
   rw[hx]
   unfold Mj at h
   unfold kW
   dsimp only
   split at h
   ·split at h
    ·cases h;exact⟨by assumption,hk⟩
    ·cases h
   ·cases h;exact hk
   ·cases h
  ·cases h
 |mQ t ts=>
  simp only[BT]at h
  simp only[dV]
  split at h
  ·rename_i b n M4 hx
   rw[hx]
   dsimp only
   split at h
   ·rename_i cs bw
    rw[bw]
    obtain⟨hs,h⟩:=gG h
    obtain⟨ds,iZ,h⟩:=bf h
    split at h
    ·cases h
     simp only[hs,cond_true,iZ,ab];exact⟨by assumption,hk⟩
    ·cases h
   ·cases h
  ·rename_i b hx
   rw[hx]
   dsimp only
   split at h
   ·rename_i l hl
    rw[hl]
    obtain⟨hs,h⟩:=gG h
    cases h
    simp only[hs,cond_true];exact hk
   ·cases h
  ·rename_i x hx
   rw[hx]
   cases h;exact hk
  ·cases h
 |_=>cases h
theorem Il{k:Env→Prop}:∀{l:List fK}{e e':Env},BE l e=some e'→k e'→jn l e k
 |[],e,e',h,hk=>by cases h;exact hk
 |x::l,e,e',h,hk=>by
  unfold BE at h
  obtain⟨e1,h1,h⟩:=bf h
  exact P4 (k:=fun e'=>jn l e' k) h1 (Il h hk)
def ER(e:Env)(c:Operand):Option (Bool×Env):=match c with
 | .tmp t=>(match e.ai.getD t (.v .undef)with
   | .v (.d (.bool true))=>some (true,e.nS t true)
   | .v (.d (.bool false))=>some (false,e.nS t false)
   |_=>none)
 | .const (.bool b)=>some (b,e)
 |_=>none
def BF(vars:List Nat)(nb:Nat)(F:List SV→List (List SV)→Option (Ex×Env)):Nat→List SV→List (List SV)→Option (Ex×Env)
 |0,_,_=>none
 |n+1,vs,bs=>ob (F vs bs) fun r=>match r.1 with
  | .normal =>BF vars nb F n (m8 r.2 vars) (m6 nb r.2)
  | .exit i=>some (.exit i,r.2)
  | .ret =>some (.ret,r.2)
def jx(lf:Nat):Code→Env→Option (Ex×Env)
 | .skip,e=>some (.normal,e)
 | .region id ops draw,e=>(match fS h.cY (2000000+id)with
   |([],[])=>gU (!draw||jE (fc h id) ops) (ob (BE (tm h.gh id) e) fun e1=>ob (QK P gl call (fc h id) ops.toList e1) fun e'=>some (.normal,e'))
   |_=>none)
 | .seq a b,e=>ob (jx lf a e) fun r=>match r.1 with
   | .normal =>jx lf b r.2
   | .exit i=>some (.exit i,r.2)
   | .ret =>some (.ret,r.2)
 | .cond c a b,e=>(match fS h.cY (1000000+Es a b)with
   |([],[])=>ob (ER e c) fun r=>match r.1 with
    |true=>jx lf a r.2
    |false=>jx lf b r.2
   |_=>none)
 | .block id b,e=>ob (jx lf b e) fun r=>match r.1 with
   | .normal =>some (.normal,r.2)
   | .exit i=>some (bif i==id then .normal else .exit i,r.2)
   | .ret =>some (.ret,r.2)
 | .loop b,e=>(match fS h.cY (g6 b)with
   |(vars,consts)=>gU (consts.all (fun t=> !(b9 h.gh b).contains t)&&uy (b9 h.gh b) vars consts e.ai 0)
      (BF vars e.boxes.length (fun vs bs=>jx lf b ⟨mn vars consts vs e.ai 0,mo bs e.boxes 0⟩) lf (m8 e vars) (m6 e.boxes.length e)))
 | .exit id,e=>some (.exit id,e)
 | .ret,e=>some (.ret,e)
 |_,_=>none
def BU(e:Env)(used:List Nat)(r:ResultVar):Option SV:=match r with
 | .tmp t=>(match e.ai.getD t (.v .undef)with
   | .v x=>gU x.au (some (bif used.contains t then aa x else x))
   |_=>none)
 | .cell a t=>ob (fH P t) fun ly=>(match e.ai.getD a (.v .undef)with
   | .p b off=>ob (AF ly.1 ly.2 b off e.boxes) fun s=>(match s.1 with
     | .v x=>gU x.au (some x)
     |_=>none)
   |_=>none)
def yB(e:Env):List Nat→List ResultVar→Option (List SV)
 |_,[]=>some []
 |used,r::l=>ob (BU P e used r) fun x=>ob (yB e (yj used r) l) fun xs=>some (x::xs)
def Ef(fn:Func)(e:Env):Option SV:=match fn.results.toList with
 |[r]=>BU P e [] r
 |l=>ob (yB P e [] l) fun xs=>some (.dA xs)
def yD(lf:Nat)(f:FuncId)(args:List SV):Option SV:=match P.funcs[f]? with
 |some fn=>(match fn.body with
  |some c=>gU (!(fn.name== "runtime.NumGoroutine")) (ob (jx P gl call h lf c (enter fn.ntmps args)) fun r=>match r.1 with
   | .exit _=>none
   |_=>Ef P fn r.2)
  |none=>none)
 |none=>none
def oZ(hs:FuncId→Hints)(lf:Nat):Nat→FuncId→List SV→Option SV
 |0,_,_=>none
 |n+1,f,args=>yD P gl (oZ hs lf n) (hs f) lf f args
end
section
variable{P:Program}{gl:Nat→Option D}{call:FuncId→List SV→Option SV}{h:Hints}{C:bu}(hC:∀f args r,call f args=some r→C f args r)
theorem OZ{o:Oper}{e e':Env}{k:Env→Prop}(hh:Ez P gl o e=some e')(hk:k e'):jD P gl o e k:=by
 unfold Ez at hh
 unfold jD
 split at hh
 ·rename_i ho;rw[ho];cases hh;exact hk
 ·rename_i ho;rw[ho];cases hh;exact hk
 ·rename_i t i ho
  rw[ho]
  dsimp only
  cases hs:e.ai.getD t (.v .undef)with
  |t vs=>
   rw[hs]at hh
   obtain⟨r,hr,hh⟩:=bf hh
   cases hh
   simp only[hr];exact hk
  |_=>rw[hs]at hh;cases hh
 ·rename_i ty a ho
  rw[ho]
  dsimp only
  cases hs:(aJ gl e a).aa with
  |p b off=>
   rw[hs]at hh
   obtain⟨ly,eK,hh⟩:=bf hh
   obtain⟨hl,hh⟩:=gG hh
   have dM:ly.1=false:=by simpa using hl
   simp only[eK,ab,dM,cond_false]
   split at hh
   ·rename_i hb
    rw[hb]
    obtain⟨x,hx,hh⟩:=bf hh
    cases hh
    simp only[hx];exact hk
   ·cases hh
  |_=>rw[hs]at hh;cases hh
 ·rename_i ty a t ho
  rw[ho]
  dsimp only
  split at hh
  ·rename_i hs hy hd
   rw[hs,hy,hd]
   dsimp only
   obtain⟨sz,aB,hh⟩:=bf hh
   obtain⟨hl,hh⟩:=gG hh
   simp only[aB,ab,hl,cond_true]
   split at hh
   ·rename_i hb
    rw[hb]
    obtain⟨x,hx,hh⟩:=bf hh
    split at hh
    ·split at hh
     ·cases hh
      simp only[hx];exact⟨by assumption,by assumption,hk⟩
     ·cases hh
    ·cases hh
   ·cases hh
  ·cases hh
 ·rename_i t n ps ho
  rw[ho]
  dsimp only
  obtain⟨e2,he,hh⟩:=bf hh
  obtain⟨ly,eK,hh⟩:=bf hh
  obtain⟨z,hz,hh⟩:=bf hh
  obtain⟨l,hl,hh⟩:=bf hh
  obtain⟨hc,hh⟩:=gG hh
  obtain⟨hf,hh⟩:=gG hh
  cases hh
  simp only[he,eK,hz,hl,hc,ab,cond_true];exact⟨hf,hk⟩
 ·rename_i c ho
  rw[ho]
  dsimp only
  split at hh
  ·rename_i hc hx ht
   rw[hc,hx,ht]
   dsimp only
   obtain⟨lS,hh⟩:=gG hh
   obtain⟨e',he,hh⟩:=bf hh
   obtain⟨sz,aB,hh⟩:=bf hh
   obtain⟨bZ,gS,hh⟩:=bf hh
   obtain⟨z,hz,hh⟩:=bf hh
   obtain⟨cJ,hh⟩:=gG hh
   obtain⟨r,hr,hh⟩:=bf hh
   cases hh
   unfold BS at hr
   obtain⟨r',np,hr⟩:=bf hr
   split at hr
   ·rename_i hle
    cases hr
    simp only[lS,cond_true,he,aB,gS,hz,ab,cJ,bW,np];exact⟨hle,hk⟩
   ·cases hr
  ·cases hh
 ·cases hh
include hC
theorem Pk{id:Nat}{ax:Bool}{o:Oper}{e e':Env}{k:Env→Prop}(hh:EP P gl call id ax o e=some e')(hk:k e'):j3 P gl C id ax o e k:=by
 unfold EP at hh
 unfold j3
 cases ax with
 |true=>exact OZ hh hk
 |false=>
  obtain⟨r,hr,hh⟩:=bf hh
  cases hh
  exact P3 hC (k:=fun r ak=>k ⟨bF e.ai o.dst r,ak⟩) (s:=r.1) (b':=r.2) hr hk
theorem CP{ax:Nat→Bool}{all:List Oper}{base:Nat}:∀(l:List Oper)(i:Nat)(e e':Env)(k:Env→Prop),wH P gl call ax all base l i e=some e'→k e'→gH P gl C ax all base l i e k
 |[],i,e,e',k,hh,hk=>by
  unfold wH at hh
  unfold gH
  cases hh;exact hk
 |o::rest,i,e,e',k,hh,hk=>by
  unfold wH at hh
  unfold gH
  obtain⟨r,hr,hh⟩:=bf hh
  have GG:r.1=true→j3 P gl C (base+ep all i) (ax i) o r.2 fun gO=>gH P gl C ax all base rest (i+1) gO k:=by
   intro h1
   rw[h1]at hh
   obtain⟨gO,he,hh⟩:=bf hh
   exact Pk hC he (CP rest (i+1) gO e' k hh hk)
  have GH:r.1=false→gH P gl C ax all base rest (i+1) ⟨bF r.2.ai o.dst (.t []),r.2.boxes⟩ k:=by
   intro h1
   rw[h1]at hh
   exact CP rest (i+1) _ e' k hh hk
  unfold Lk at hr
  unfold tk
  split at hr
  ·rename_i hg
   rw[hg]
   cases hr
   exact GG rfl
  ·rename_i j want hg
   rw[hg]
   dsimp only
   cases ha:all[j]? with
   |none=>rw[ha]at hr;cases hr
   |some gd=>
    rw[ha]at hr
    dsimp only at hr ⊢
    cases ht:gd.dst with
    |none=>rw[ht]at hr;cases hr
    |some t=>
     rw[ht]at hr
     dsimp only at hr ⊢
     split at hr
     ·rename_i hs
      rw[hs]
      cases hr
      cases want with
      |true=>exact GG rfl
      |false=>exact GH rfl
     ·rename_i hs
      rw[hs]
      cases hr
      cases want with
      |true=>exact GH rfl
      |false=>exact GG rfl
     ·rename_i hs
      rw[hs]
      cases hr
      exact GH rfl
     ·cases hr
omit hC in
theorem P5{e:Env}{c:Operand}{r:Bool×Env}(hr:ER e c=some r){A B:Env→Prop}(hA:r.1=true→A r.2)(hB:r.1=false→B r.2):kS e c A B:=by
 unfold ER at hr
 unfold kS
 split at hr
 ·rename_i t
  dsimp only
  split at hr
  ·rename_i hs;rw[hs];cases hr;exact hA rfl
  ·rename_i hs;rw[hs];cases hr;exact hB rfl
  ·cases hr
 ·rename_i b
  cases hr
  cases b with
  |true=>exact hA rfl
  |false=>exact hB rfl
 ·cases hr
theorem s4{lf:Nat}:∀(c:Code)(e:Env)(r:Ex×Env)(Q:Ex→Env→Prop),jx P gl call h lf c e=some r→Q r.1 r.2→aw P gl C h c Q e
 | .skip,e,r,Q,hh,hQ=>by unfold jx at hh;unfold aw;cases hh;exact hQ
 | .region id ops draw,e,r,Q,hh,hQ=>by
   unfold jx at hh
   unfold aw mG
   generalize fS h.cY (2000000+id)=kk at hh ⊢
   obtain⟨vars,consts⟩:=kk
   cases vars<;>cases consts<;>first|cases hh|skip
   dsimp only at hh ⊢
   obtain⟨h1,hh⟩:=gG hh
   obtain⟨e1,hg,hh⟩:=bf hh
   obtain⟨e',he,hh⟩:=bf hh
   cases hh
   rw[h1,Bool.true_or,cond_true]
   exact Il (k:=fun e'=>oG P gl C (fc h id) ops.toList e' (lI P gl C true ops (fc h id) e' (Q .normal))) hg (CP hC _ _ _ e' _ he hQ)
 | .seq a b,e,r,Q,hh,hQ=>by
   unfold jx at hh
   unfold aw
   obtain⟨r1,h1,hh⟩:=bf hh
   refine s4 a e r1 _ h1 ?_
   cases hx:r1.1 with
   |normal=>rw[hx]at hh;exact s4 b _ r _ hh hQ
   |exit i=>rw[hx]at hh;cases hh;exact hQ
   |ret=>rw[hx]at hh;cases hh;exact hQ
 | .cond c a b,e,r,Q,hh,hQ=>by
   unfold jx at hh
   unfold aw mG
   generalize fS h.cY (1000000+Es a b)=kk at hh ⊢
   obtain⟨vars,consts⟩:=kk
   cases vars<;>cases consts<;>first|cases hh|skip
   obtain⟨r1,h1,hh⟩:=bf hh
   refine P5 h1 (fun hx=>?_) (fun hx=>?_)
   ·rw[hx]at hh;exact s4 a _ r _ hh hQ
   ·rw[hx]at hh;exact s4 b _ r _ hh hQ
 | .block id b,e,r,Q,hh,hQ=>by
   unfold jx at hh
   unfold aw
   obtain⟨r1,h1,hh⟩:=bf hh
   refine s4 b e r1 _ h1 ?_
   cases hx:r1.1 with
   |normal=>rw[hx]at hh;cases hh;exact hQ
   |exit i=>
    rw[hx]at hh
    cases hh
    cases hi:(i==id)with
    |true=>rw[hi]at hQ;dsimp only;rw[hi];exact hQ
    |false=>rw[hi]at hQ;dsimp only;rw[hi];exact hQ
   |ret=>rw[hx]at hh;cases hh;exact hQ
 | .loop b,e,r,Q,hh,hQ=>by
   unfold jx at hh
   unfold aw
   dsimp only at hh ⊢
   obtain⟨h1,hh⟩:=gG hh
   rw[h1,cond_true]
   have key:∀(n:Nat)(vs:List SV)(bs:List (List SV)),BF (fS h.cY (g6 b)).1 e.boxes.length (fun vs bs=>jx P gl call h lf b ⟨mn (fS h.cY (g6 b)).1 (fS h.cY (g6 b)).2 vs e.ai 0,mo bs e.boxes 0⟩) n vs bs=some r→
     cm (fun vs bs I=>aw P gl C h b (fun x e'=>match x with| .normal =>I (m8 e' (fS h.cY (g6 b)).1) (m6 e.boxes.length e')| .exit i=>Q (.exit i) e'| .ret =>Q .ret e')
         ⟨mn (fS h.cY (g6 b)).1 (fS h.cY (g6 b)).2 vs e.ai 0,mo bs e.boxes 0⟩) vs bs:=by
    intro n
    induction n with
    |zero=>intro vs bs hl;cases hl
    |succ n ih=>
     intro vs bs hl I hI
     unfold BF at hl
     obtain⟨r1,xA,hl⟩:=bf hl
     refine hI vs bs (s4 b _ r1 _ xA ?_)
     cases hx:r1.1 with
     |normal=>rw[hx]at hl;exact ih _ _ hl I hI
     |exit i=>rw[hx]at hl;cases hl;exact hQ
     |ret=>rw[hx]at hl;cases hl;exact hQ
   exact key lf _ _ hh
 | .exit id,e,r,Q,hh,hQ=>by unfold jx at hh;unfold aw;cases hh;exact hQ
 | .ret,e,r,Q,hh,hQ=>by unfold jx at hh;unfold aw;cases hh;exact hQ
 | .scope _,e,r,Q,hh,hQ=>by unfold jx at hh;cases hh
 | .rangeFunc ..,e,r,Q,hh,hQ=>by unfold jx at hh;cases hh
omit hC in
theorem IK{e:Env}{used:List Nat}{r:ResultVar}{x:SV}{k:SV→Prop}(hh:BU P e used r=some x)(hk:k x):rF P e used r k:=by
 unfold BU at hh
 unfold rF
 split at hh
 ·dsimp only
  split at hh
  ·rename_i hs
   rw[hs]
   obtain⟨h1,hh⟩:=gG hh
   cases hh
   exact⟨h1,hk⟩
  ·cases hh
 ·obtain⟨ly,eK,hh⟩:=bf hh
  dsimp only
  simp only[eK,ab]
  split at hh
  ·rename_i hs
   rw[hs]
   obtain⟨s,hl,hh⟩:=bf hh
   dsimp only
   refine HG (s:=s.1) (b':=s.2) hl ?_
   split at hh
   ·rename_i GI
    rw[GI]
    obtain⟨h1,hh⟩:=gG hh
    cases hh
    exact⟨h1,hk⟩
   ·cases hh
  ·cases hh
omit hC in
theorem C0{e:Env}:∀(l:List ResultVar)(used:List Nat)(xs:List SV)(k:List SV→Prop),yB P e used l=some xs→k xs→ql P e used l k
 |[],used,xs,k,hh,hk=>by unfold yB at hh;unfold ql;cases hh;exact hk
 |r::l,used,xs,k,hh,hk=>by
  unfold yB at hh
  unfold ql
  obtain⟨x,hx,hh⟩:=bf hh
  obtain⟨ys,hy,hh⟩:=bf hh
  cases hh
  exact IK hx (C0 l _ ys _ hy hk)
omit hC in
theorem HP{fn:Func}{e:Env}{x:SV}{K:SV→Prop}(hh:Ef P fn e=some x)(hk:K x):finish P fn e K:=by
 unfold Ef at hh
 unfold finish
 match hl:fn.results.toList with
 |[r]=>rw[hl]at hh;exact IK hh hk
 |[]=>
  rw[hl]at hh
  obtain⟨xs,hx,hh⟩:=bf hh
  cases hh
  exact C0 _ _ xs (fun xs=>K (.dA xs)) hx hk
 |r::r'::l=>
  rw[hl]at hh
  obtain⟨xs,hx,hh⟩:=bf hh
  cases hh
  exact C0 _ _ xs (fun xs=>K (.dA xs)) hx hk
theorem Pl{lf:Nat}{f:FuncId}{args:List SV}{x:SV}{K:SV→Prop}(hh:yD P gl call h lf f args=some x)(hk:K x):body P gl C h f args K:=by
 unfold yD at hh
 unfold body
 split at hh
 ·rename_i fn hf
  rw[hf]
  dsimp only
  split at hh
  ·rename_i c hb
   rw[hb]
   intro _
   obtain⟨_,hh⟩:=gG hh
   obtain⟨r,hr,hh⟩:=bf hh
   refine s4 hC c _ r _ hr ?_
   cases hx:r.1 with
   |normal=>rw[hx]at hh;exact HP hh hk
   |exit i=>rw[hx]at hh;cases hh
   |ret=>rw[hx]at hh;exact HP hh hk
  ·cases hh
 ·cases hh
end
theorem Ox{P:Program}{gl:Nat→Option D}{call:FuncId→List SV→Option SV}{h:Hints}{lf:Nat}{f:FuncId}{args:List SV}{x:SV}(hh:yD P gl call h lf f args=some x):mE P f:=by
 unfold yD at hh
 split at hh
 ·rename_i fn hf
  split at hh
  ·rename_i c hb
   obtain⟨hn,_⟩:=gG hh
   have kF:(fn.name== "runtime.NumGoroutine")=false:=by simpa using hn
   intro as w
   have h2:fn.body≠none:=by rw[hb];simp
   have h3:fn.name≠ "runtime.NumGoroutine" :=by simpa using kF
   simp[callFunc,go_sem,hf,h3,h2]
  ·cases hh
 ·cases hh
theorem sP{P:Program}{gl:Nat→Option D}(hm:P.follows .mixedOrders =true)(hs:FuncId→Hints)(lf:Nat):∀(n:Nat)(f:FuncId)(args:List SV)(r:SV),oZ P gl hs lf n f args=some r→aD P gl f args r
 |0,f,args,r,hh=>by cases hh
 |n+1,f,args,r,hh=>by
  unfold oZ at hh
  exact dz hm (Ox hh) (Pl (sP hm hs lf n) hh rfl)
end Go.Proofs.Ytaknajjmldngiaa.Ab
namespace Go.Proofs.Ytaknajjmldngiaa.Ab
open Go
def Pt{X:Type}(T:(X→Prop)→Prop):Prop:=∀Q,T Q→∃x,Q x∧∀Q',Q' x→T Q'
section
variable{X Y α:Type}
theorem Pt.false:Pt (fun _:X→Prop=>False):=fun _ h=>h.elim
theorem Pt.pure(x:X):Pt (fun Q:X→Prop=>Q x):=fun _ h=>⟨x,h,fun _ h'=>h'⟩
theorem Pt.ab{o:Option α}{T:α→(X→Prop)→Prop}(h:∀x,Pt (T x)):Pt (fun Q=>ab o fun x=>T x Q):=by
 intro Q hq
 cases o with
 |none=>exact hq.elim
 |some x=>exact h x Q hq
theorem Pt.ao{x:SV}{A B:(X→Prop)→Prop}(hA:Pt A)(hB:Pt B):Pt (fun Q=>ao x (A Q) (B Q)):=by
 intro Q hq
 obtain⟨b,rfl,h1,h2⟩:=wi hq
 cases b with
 |true=>exact hA Q (h1 rfl)
 |false=>exact hB Q (h2 rfl)
theorem Pt.and{p:Prop}{A:(X→Prop)→Prop}(hA:Pt A):Pt (fun Q=>p∧A Q):=by
 intro Q ⟨hp,hq⟩
 obtain⟨x,h1,h2⟩:=hA Q hq
 exact⟨x,h1,fun Q' h=>⟨hp,h2 Q' h⟩⟩
theorem Pt.ex{T:α→(X→Prop)→Prop}(h:∀a,Pt (T a)):Pt (fun Q=>∃a,T a Q):=by
 intro Q ⟨a,hq⟩
 obtain⟨x,h1,h2⟩:=h a Q hq
 exact⟨x,h1,fun Q' h=>⟨a,h2 Q' h⟩⟩
theorem Pt.cond{b:Bool}{A B:(X→Prop)→Prop}(hA:Pt A)(hB:Pt B):Pt (fun Q=>cond b (A Q) (B Q)):=by
 intro Q hq
 cases b with
 |true=>exact hA Q hq
 |false=>exact hB Q hq
theorem Pt.seq{T:(Y→Prop)→Prop}{S:Y→(X→Prop)→Prop}(hT:Pt T)(hS:∀y,Pt (S y)):Pt (fun Q=>T fun y=>S y Q):=by
 intro Q hq
 obtain⟨y,h1,h2⟩:=hT _ hq
 obtain⟨x,h3,h4⟩:=hS y Q h1
 exact⟨x,h3,fun Q' h=>h2 _ (h4 Q' h)⟩
theorem Pt.uT{β:Type}{T:(α→β→Prop)→Prop}{S:α→β→(X→Prop)→Prop}(hT:Pt (fun Q:α×β→Prop=>T fun a b=>Q (a,b)))(hS:∀a b,Pt (S a b)):Pt (fun Q=>T fun a b=>S a b Q):=by
 intro Q hq
 obtain⟨y,h1,h2⟩:=hT (fun y=>S y.1 y.2 Q) hq
 obtain⟨x,h3,h4⟩:=hS y.1 y.2 Q h1
 exact⟨x,h3,fun Q' h=>h2 (fun y=>S y.1 y.2 Q') (h4 Q' h)⟩
end
section
variable{P:Program}{gl:Nat→Option D}{C:bu}{h:Hints}{X:Type}
theorem RB{f:FuncId}{args:List SV}{T:SV→(X→Prop)→Prop}(hT:∀r,Pt (T r)):Pt (fun Q=>aP C f args fun r=>T r Q):=
 Pt.ex fun r=>Pt.and (Pt.and (hT r))
theorem Ll:∀(n:Nat){T:List SV→(X→Prop)→Prop},(∀l,Pt (T l))→Pt (fun Q=>zh n fun l=>T l Q)
 |0,_,hT=>hT []
 |n+1,_,hT=>Pt.ex fun r=>Ll n fun l=>hT (r::l)
theorem AG{n:Nat}{ak:List af}{f:FuncId}{args:List SV}:Pt (fun Q:Slot×List af→Prop=>kQ C n ak (fun s b=>Q (s,b)) f args):=by
 unfold kQ
 split
 ·exact RB fun r=>Pt.pure _
 ·exact Ll _ fun l=>Pt.and (Pt.pure _)
theorem KL{sz bZ:Nat}{x y:SV}{T:SV→(X→Prop)→Prop}(hT:∀r,Pt (T r)):Pt (fun Q=>bW sz bZ x y fun r=>T r Q):=
 Pt.ab fun r=>Pt.and (hT r.1)
theorem IL{agg:Bool}{sz b off:Nat}{ak:List af}:Pt (fun Q:Slot×List af→Prop=>my agg sz b off ak fun s b=>Q (s,b)):=by
 unfold my
 cases ak[b]? with
 |none=>exact Pt.false
 |some x=>
  cases x with
  |none=>exact Pt.false
  |map l=>exact Pt.false
  |cells cs=>exact Pt.ab fun x=>Pt.pure _
  |one s=>
   refine Pt.cond Pt.false ?_
   cases off with
   |zero=>exact Pt.pure _
   |succ n=>exact Pt.false
theorem Pm{sz b off:Nat}{x:Slot}{ak:List af}{T:List af→(X→Prop)→Prop}(hT:∀r,Pt (T r)):Pt (fun Q=>nL sz b off x ak fun b=>T b Q):=by
 unfold nL
 cases ak[b]? with
 |none=>exact Pt.false
 |some y=>
  cases y with
  |none=>exact Pt.false
  |map l=>exact Pt.false
  |cells cs=>
   cases x with
   |v y=>exact Pt.ab fun l=>Pt.and (Pt.and (hT _))
   |t _=>exact Pt.false
   |_=>
    dsimp only
    split
    ·exact hT _
    ·exact Pt.false
  |one s=>
   dsimp only
   split
   ·cases x with
    |v y=>exact Pt.ab fun l=>Pt.and (hT _)
    |t _=>exact Pt.false
    |_=>exact hT _
   ·exact Pt.false
theorem TV{id:Nat}{o:Oper}{ρ:Operand→Slot}{ak:List af}:Pt (fun Q:Slot×List af→Prop=>b7 P C id o ρ ak fun s b=>Q (s,b)):=by
 unfold b7
 cases o.op
 case move x=>exact Pt.pure _
 case assign x=>exact Pt.pure _
 case pick c a b=>
  dsimp only
  cases ρ c with
  |v x=>exact Pt.ao (Pt.pure _) (Pt.pure _)
  |_=>exact Pt.false
 case alloc t=>
  dsimp only
  split
  ·exact Pt.ab fun z=>Pt.pure _
  ·exact Pt.false
 case box t x=>
  dsimp only
  split
  ·refine Pt.ab fun sz=>?_
   cases ρ x with
   |v y=>exact Pt.ab fun l=>Pt.and (Pt.pure _)
   |t _=>exact Pt.false
   |_=>
    dsimp only
    split
    ·exact Pt.pure _
    ·exact Pt.false
  ·exact Pt.false
 case build t ps=>exact Pt.ab fun l=>Pt.ab fun r=>Pt.pure _
 case buildSlice t n ps=>exact Pt.ab fun e=>Pt.ab fun ly=>Pt.ab fun z=>Pt.ab fun l=>Pt.cond (Pt.and (Pt.pure _)) Pt.false
 case load t a=>
  refine Pt.ab fun ly=>?_
  cases ρ a with
  |p b off=>exact IL
  |v x=>exact Pt.ab fun y=>Pt.pure _
  |_=>exact Pt.false
 case store t a x=>
  refine Pt.ab fun sz=>?_
  cases ρ a with
  |p b off=>
   cases o.dst with
   |none=>exact Pm fun r=>Pt.pure _
   |some _=>exact Pt.false
  |_=>exact Pt.false
 case nilCheck x=>
  dsimp only
  cases ρ x with
  |v y=>exact Pt.ab fun z=>Pt.pure _
  |t _=>exact Pt.false
  |c f first cap=>
   cases f with
   |func _=>exact Pt.pure _
   |method name=>
    dsimp only
    split
    ·exact Pt.ab fun _=>Pt.pure _
    ·exact Pt.false
   |_=>exact Pt.false
  |p b off=>exact Pt.pure _
  |a _ _ _=>exact Pt.false
  |m _=>exact Pt.false
 case binOp op t x y _=>exact Pt.ab fun r=>Pt.pure _
 case unOp op _ x=>exact Pt.ab fun r=>Pt.pure _
 case convert src dst x=>exact Pt.cond (Pt.ab fun r=>Pt.pure _) Pt.false
 case makeInterface t x=>exact Pt.cond Pt.false (Pt.ab fun r=>Pt.pure _)
 case makeFunc fn first cap=>exact Pt.pure _
 case slice t x lo hi mx=>exact Pt.ab fun r=>Pt.pure _
 case fieldAddr t x f=>
  refine Pt.ab fun fd=>Pt.ab fun sz=>Pt.cond Pt.false ?_
  cases ρ x with
  |p b off=>exact Pt.pure _
  |v y=>exact Pt.ab fun z=>Pt.pure _
  |_=>exact Pt.false
 case field t x f=>exact Pt.ab fun fd=>Pt.ab fun ly=>Pt.ab fun r=>Pt.pure _
 case indexAddr t x i=>
  dsimp only
  split
  ·refine Pt.ab fun sz=>?_
   cases ρ x with
   |a b n=>exact Pt.ab fun j=>Pt.pure _
   |_=>exact Pt.ab fun r=>Pt.pure _
  ·refine Pt.ab fun sz=>Pt.ab fun j=>?_
   cases ρ x with
   |p b off=>exact Pt.pure _
   |v y=>exact Pt.ab fun z=>Pt.pure _
   |_=>exact Pt.false
  ·exact Pt.false
 case index t x i=>
  dsimp only
  split
  ·exact Pt.ab fun ly=>Pt.ab fun r=>Pt.pure _
  ·exact Pt.ab fun r=>Pt.pure _
  ·exact Pt.false
 case extract x i=>
  dsimp only
  cases ρ x with
  |t vs=>
   dsimp only
   split
   ·exact Pt.pure _
   ·exact Pt.false
  |_=>exact Pt.false
 case lookup t m x vj=>
  dsimp only
  cases vj with
  |true=>exact Pt.ab fun et=>Pt.ab fun z=>Pt.ab fun r=>Pt.pure (X:=Slot×List af) (Slot.t [.d r.1,.d (.bool r.2)],ak)
  |false=>exact Pt.ab fun et=>Pt.ab fun z=>Pt.ab fun r=>Pt.pure (X:=Slot×List af) (Slot.v (.d r.1),ak)
 case makeSlice t n c=>exact Pt.ab fun e=>Pt.ab fun sz=>Pt.ab fun bZ=>Pt.ab fun z=>Pt.cond (Pt.ab fun m=>Pt.and (Pt.pure _)) Pt.false
 case makeMap t hn=>
  dsimp only
  split
  ·exact Pt.pure _
  ·exact Pt.false
 case mapUpdate t m x y=>
  refine Pt.ab fun et=>?_
  split
  ·split
   ·exact Pt.ab fun n=>Pt.ab fun d=>Pt.ab fun l'=>Pt.pure _
   ·exact Pt.false
  ·exact Pt.false
 case call c=>
  dsimp only
  cases c.callee with
  |value f=>
   dsimp only
   cases ρ f with
   |v x=>
    dsimp only
    unfold withFn
    split
    ·exact AG
    ·exact AG
    ·exact Pt.false
   |c g first cap=>
    cases g with
    |func g=>exact AG
    |_=>exact Pt.false
   |_=>exact Pt.false
  |invoke f name=>
   dsimp only
   cases ρ f with
   |v x=>
    dsimp only
    unfold qS
    split
    ·exact Pt.ab fun f=>AG
    ·exact Pt.false
   |_=>exact Pt.false
  |builtin b=>
   dsimp only
   split
   ·rename_i x xs t ts _ _
    cases ρ x with
    |a b n=>exact Pt.cond (Pt.pure _) Pt.false
    |_=>exact Pt.ab fun r=>Pt.pure _
   ·exact Pt.cond (Pt.ab fun e=>Pt.ab fun sz=>Pt.ab fun bZ=>Pt.ab fun z=>Pt.cond (KL fun r=>Pt.pure _) Pt.false) Pt.false
   ·exact Pt.ab fun r=>Pt.pure _
   ·exact Pt.ab fun r=>Pt.pure _
   ·exact Pt.false
 all_goals exact Pt.false
theorem RC{o:Oper}{e:Env}:Pt (fun Q=>jD P gl o e Q):=by
 unfold jD
 split
 ·exact Pt.pure _
 ·exact Pt.pure _
 ·split
  ·split
   ·exact Pt.pure _
   ·exact Pt.false
  ·exact Pt.false
 ·split
  ·refine Pt.ab fun ly=>Pt.cond Pt.false ?_
   split
   ·exact Pt.ab fun x=>Pt.pure _
   ·exact Pt.false
  ·exact Pt.false
 ·split
  ·refine Pt.ab fun sz=>Pt.cond ?_ Pt.false
   split
   ·exact Pt.ab fun l=>Pt.and (Pt.and (Pt.pure _))
   ·exact Pt.false
  ·exact Pt.false
 ·exact Pt.ab fun e'=>Pt.ab fun ly=>Pt.ab fun z=>Pt.ab fun l=>Pt.cond (Pt.and (Pt.pure _)) Pt.false
 ·split
  ·exact Pt.cond (Pt.ab fun e'=>Pt.ab fun sz=>Pt.ab fun bZ=>Pt.ab fun z=>Pt.cond (KL fun r=>Pt.pure _) Pt.false) Pt.false
  ·exact Pt.false
 ·exact Pt.false
theorem SX{id:Nat}{ax:Bool}{o:Oper}{e:Env}:Pt (fun Q=>j3 P gl C id ax o e Q):=by
 unfold j3
 cases ax with
 |true=>exact RC
 |false=>exact Pt.uT (X:=Env) (S:=fun(r:Slot)(ak:List af)(Q:Env→Prop)=>Q ⟨bF e.ai o.dst r,ak⟩) TV fun a b=>Pt.pure (X:=Env) _
theorem QL{all:List Oper}{o:Oper}{e:Env}{A B:Env→(X→Prop)→Prop}(hA:∀e,Pt (A e))(hB:∀e,Pt (B e)):Pt (fun Q=>tk all o e (fun e=>A e Q) (fun e=>B e Q)):=by
 unfold tk
 split
 ·exact hA e
 ·rename_i j want _
  split
  ·split
   ·cases want with
    |true=>exact Pt.ao (hA _) (hB _)
    |false=>exact Pt.ao (hB _) (hA _)
   ·exact hB e
   ·exact Pt.false
  ·exact Pt.false
theorem DT{ax:Nat→Bool}{all:List Oper}{base:Nat}:∀(l:List Oper)(i:Nat)(e:Env),Pt (fun Q=>gH P gl C ax all base l i e Q)
 |[],i,e=>by unfold gH;exact Pt.pure _
 |o::rest,i,e=>by
  unfold gH
  exact QL (fun e=>Pt.seq SX fun e=>DT rest (i+1) e) (fun e=>DT rest (i+1) _)
theorem TW{e:Env}{x:fK}:Pt (fun Q:Env→Prop=>dV e Q x):=by
 cases x with
 |box t sz=>
  simp only[dV]
  split
  ·rename_i x _
   unfold kW
   cases x<;>first|exact Pt.pure _|exact Pt.false|exact Pt.and (Pt.pure _)
  ·exact Pt.false
 |mQ t ts=>
  simp only[dV]
  split
  ·split
   ·exact Pt.cond (Pt.ab fun ds=>Pt.and (Pt.pure _)) Pt.false
   ·exact Pt.false
  ·split
   ·exact Pt.cond (Pt.pure _) Pt.false
   ·exact Pt.false
  ·exact Pt.pure _
  ·exact Pt.false
 |ni t agg sz ts=>
  simp only[dV]
  split
  ·split
   ·exact Pt.cond (Pt.ab fun ds=>Pt.ab fun L=>Pt.pure _) Pt.false
   ·exact Pt.false
  ·exact Pt.pure _
  ·exact Pt.false
 |emp t=>
  simp only[dV]
  split
  ·exact Pt.ab fun y=>Pt.pure _
  ·exact Pt.false
 |jK t=>
  simp only[dV]
  split
  ·exact Pt.ab fun y=>Pt.pure _
  ·exact Pt.false
 |nj t ts=>
  simp only[dV]
  split
  ·split
   ·split
    ·exact Pt.cond (Pt.pure _) Pt.false
    ·exact Pt.false
   ·exact Pt.false
  ·exact Pt.false
theorem KM:∀(l:List fK)(e:Env),Pt (fun Q:Env→Prop=>jn l e Q)
 |[],e=>by unfold jn;exact Pt.pure _
 |x::l,e=>by unfold jn;exact Pt.seq (X:=Env) (S:=fun(e':Env)(Q:Env→Prop)=>jn l e' Q) TW fun e'=>KM l e'
theorem RD{e:Env}{c:Operand}{A B:Env→(X→Prop)→Prop}(hA:∀e,Pt (A e))(hB:∀e,Pt (B e)):Pt (fun Q=>kS e c (fun e=>A e Q) (fun e=>B e Q)):=by
 unfold kS
 split
 ·split
  ·exact Pt.ao (hA _) (hB _)
  ·exact Pt.false
 ·exact Pt.cond (hA _) (hB _)
 ·exact Pt.false
theorem RE{F:(X→Prop)→List SV→List (List SV)→(List SV→List (List SV)→Prop)→Prop}
  (hF:∀vs bs,Pt (fun Q:(List SV×List (List SV)) ⊕ X→Prop=>F (fun x=>Q (.inr x)) vs bs fun v b=>Q (.inl (v,b))))(vs:List SV)(bs:List (List SV)):Pt (fun Q=>cm (F Q) vs bs):=by
 intro Q hq
 refine hq (fun vs bs=>∃x,Q x∧∀Q',Q' x→cm (F Q') vs bs) fun vs bs rB=>?_
 obtain⟨y,h1,h2⟩:=hF vs bs (fun y=>match y with| .inl p=>∃x,Q x∧∀Q',Q' x→cm (F Q') p.1 p.2| .inr x=>Q x) rB
 cases y with
 |inl p=>
  obtain⟨x,hx,hl⟩:=h1
  refine⟨x,hx,fun Q' GJ I hI=>hI _ _ ?_⟩
  exact h2 (fun y=>match y with| .inl p=>I p.1 p.2| .inr x=>Q' x) (hl Q' GJ I hI)
 |inr x=>
  refine⟨x,h1,fun Q' GJ I hI=>hI _ _ ?_⟩
  exact h2 (fun y=>match y with| .inl p=>I p.1 p.2| .inr x=>Q' x) GJ
theorem SY{ok:Bool}{ops:Array Oper}{ax:Nat→Bool}{e1:Env}(e:Env):Pt (fun Q:Ex×Env→Prop=>lI P gl C ok ops ax e1 (fun e=>Q (.normal,e)) e):=by
 cases ok
 ·exact Pt.and (Pt.pure (X:=Ex×Env) _)
 ·exact Pt.pure (X:=Ex×Env) _
theorem J8{key:Nat}{c:Code}{e:Env}{T:(Ex→Env→Prop)→Prop}(hT:Pt (fun Q:Ex×Env→Prop=>T fun x e=>Q (x,e))):Pt (fun Q:Ex×Env→Prop=>mG h key c e (fun x e=>Q (x,e)) T):=by
 unfold mG
 generalize fS h.cY key=kk
 obtain⟨vars,consts⟩:=kk
 cases vars<;>cases consts
 ·exact hT
 all_goals
  refine Pt.cond ?_ Pt.false
  unfold oQ
  refine Pt.uT (T:=T) (S:=fun(x:Ex)(e':Env)(Q:Ex×Env→Prop)=>match x with| .normal =>Q (Ex.normal,_)| .exit i=>Q (Ex.exit i,e')| .ret =>Q (Ex.ret,e')) hT fun x e'=>?_
  cases x<;>exact Pt.pure _
theorem uJ:∀(c:Code)(e:Env),Pt (fun Q:Ex×Env→Prop=>aw P gl C h c (fun x e=>Q (x,e)) e)
 | .skip,e=>by unfold aw;exact Pt.pure _
 | .region id ops draw,e=>by
   unfold aw
   refine J8 ?_
   refine Pt.cond ?_ Pt.false
   unfold oG
   exact Pt.seq (X:=Ex×Env) (S:=fun(e1:Env)(Q:Ex×Env→Prop)=>gH P gl C (fc h id) ops.toList e1.boxes.length ops.toList 0 ⟨e1.ai,e1.boxes++List.replicate (ep ops.toList ops.toList.length) .none⟩ (lI P gl C (!draw||jE (fc h id) ops) ops (fc h id) e1 fun e=>Q (.normal,e))) (KM _ _)
    fun e1=>Pt.seq (X:=Ex×Env) (S:=fun(e:Env)(Q:Ex×Env→Prop)=>lI P gl C (!draw||jE (fc h id) ops) ops (fc h id) e1 (fun e=>Q (.normal,e)) e) (DT _ _ _) fun e=>SY _
 | .seq a b,e=>by
   unfold aw
   refine Pt.uT (T:=fun(k:Ex→Env→Prop)=>aw P gl C h a k e) (S:=fun(x:Ex)(e':Env)(Q:_→Prop)=>match x with| .normal =>aw P gl C h b (fun x e=>Q (x,e)) e'| .exit i=>Q (Ex.exit i,e')| .ret =>Q (Ex.ret,e')) (uJ a e) fun x e'=>?_
   cases x with
   |normal=>exact uJ b e'
   |exit i=>exact Pt.pure _
   |ret=>exact Pt.pure _
 | .cond c a b,e=>by
   unfold aw
   exact J8 (RD (fun e=>uJ a e) (fun e=>uJ b e))
 | .block id b,e=>by
   unfold aw
   refine Pt.uT (T:=fun(k:Ex→Env→Prop)=>aw P gl C h b k e) (S:=fun(x:Ex)(e':Env)(Q:_→Prop)=>match x with| .normal =>Q (Ex.normal,e')| .exit i=>bif i==id then Q (Ex.normal,e')else Q (Ex.exit i,e')| .ret =>Q (Ex.ret,e')) (uJ b e) fun x e'=>?_
   cases x with
   |normal=>exact Pt.pure _
   |exit i=>exact Pt.cond (Pt.pure _) (Pt.pure _)
   |ret=>exact Pt.pure _
 | .loop b,e=>by
   unfold aw
   refine Pt.cond ?_ Pt.false
   refine RE (F:=fun(Q:Ex×Env→Prop)vs bs I=>aw P gl C h b (fun x e'=>match x with| .normal =>I (m8 e' (fS h.cY (g6 b)).1) (m6 e.boxes.length e')| .exit i=>Q (Ex.exit i,e')| .ret =>Q (Ex.ret,e'))
    ⟨mn (fS h.cY (g6 b)).1 (fS h.cY (g6 b)).2 vs e.ai 0,mo bs e.boxes 0⟩) (fun vs bs=>?_) _ _
   refine Pt.uT (T:=fun(k:Ex→Env→Prop)=>aw P gl C h b k _) (S:=fun(x:Ex)(e':Env)(Q:_→Prop)=>match x with| .normal =>Q (Sum.inl (m8 e' (fS h.cY (g6 b)).1,m6 e.boxes.length e'))| .exit i=>Q (Sum.inr (Ex.exit i,e'))| .ret =>Q (Sum.inr (Ex.ret,e'))) (uJ b _) fun x e'=>?_
   cases x<;>exact Pt.pure _
 | .exit id,e=>by unfold aw;exact Pt.pure _
 | .ret,e=>by unfold aw;exact Pt.pure _
 | .scope _,e=>by unfold aw;exact Pt.false
 | .rangeFunc ..,e=>by unfold aw;exact Pt.false
 | .label ..,e=>by unfold aw;exact Pt.false
 | .goto ..,e=>by unfold aw;exact Pt.false
 | .refuse ..,e=>by unfold aw;exact Pt.false
theorem KN{e:Env}{used:List Nat}{r:ResultVar}{T:SV→(X→Prop)→Prop}(hT:∀r,Pt (T r)):Pt (fun Q=>rF P e used r fun x=>T x Q):=by
 unfold rF
 cases r with
 |tmp t=>
  dsimp only
  split
  ·exact Pt.and (hT _)
  ·exact Pt.false
 |cell a t=>
  dsimp only
  refine Pt.ab fun ly=>?_
  split
  ·refine Pt.uT (S:=fun(s:Slot)(_:List af)Q=>match s with| .v x=>x.au=true∧T x Q|_=>False) IL fun s b=>?_
   cases s with
   |v x=>exact Pt.and (hT x)
   |_=>exact Pt.false
  ·exact Pt.false
theorem J9{e:Env}:∀(l:List ResultVar)(used:List Nat){T:List SV→(X→Prop)→Prop},(∀r,Pt (T r))→Pt (fun Q=>ql P e used l fun x=>T x Q)
 |[],used,T,hT=>by unfold ql;exact hT []
 |r::l,used,T,hT=>by
  unfold ql
  exact KN fun x=>J9 l _ fun xs=>hT (x::xs)
theorem QM{fn:Func}{e:Env}:Pt (fun K:SV→Prop=>finish P fn e K):=by
 unfold finish
 split
 ·exact KN fun x=>Pt.pure x
 ·exact J9 _ _ fun xs=>Pt.pure _
theorem SZ{f:FuncId}{args:List SV}(ct:SV.fu args):Pt (fun K:SV→Prop=>body P gl C h f args K):=by
 unfold body
 cases P.funcs[f]? with
 |none=>exact Pt.false
 |some fn=>
  dsimp only
  cases fn.body with
  |none=>exact Pt.false
  |some c=>
   have:Pt (fun K:SV→Prop=>aw P gl C h c (fun x e=>match x with| .normal =>finish P fn e K| .ret =>finish P fn e K| .exit _=>False) (enter fn.ntmps args)):=by
    refine Pt.uT (T:=fun(k:Ex→Env→Prop)=>aw P gl C h c k _) (S:=fun(x:Ex)(e:Env)K=>match x with| .normal =>finish P fn e K| .ret =>finish P fn e K| .exit _=>False) (uJ c _) fun x e=>?_
    cases x with
    |exit i=>exact Pt.false
    |_=>exact QM
   intro Q hq
   obtain⟨x,h1,h2⟩:=this Q (hq ct)
   exact⟨x,h1,fun Q' h _=>h2 Q' h⟩
end
theorem QN{P:Program}{gl:Nat→Option D}{f:FuncId}{args:List SV}{r:SV}(hE:mE P f)(hw:¬SV.fu args):aD P gl f args r:=by
 refine⟨hE,fun w St vs k0 mR hlen eu=>absurd ?_ hw⟩
 rw[SV.jY]
 intro x hx
 obtain⟨i,hi,rfl⟩:=List.mem_iff_getElem.1 hx
 exact(eu i _ (vs[i]'(by omega)) (by simp) (by simp)).wf
theorem sV{P:Program}{gl:Nat→Option D}{h:Hints}(hm:P.follows .mixedOrders =true){f:FuncId}{args:List SV}{Q:SV→Prop}(hE:mE P f)(hQ:∃r,Q r)(hh:body P gl (aD P gl) h f args Q):∃r,Q r∧aD P gl f args r:=by
 by_cases hw:SV.fu args
 ·obtain⟨r,h1,h2⟩:=SZ hw Q hh
  exact⟨r,h1,dz hm hE (h2 _ rfl)⟩
 ·obtain⟨r,hr⟩:=hQ
  exact⟨r,hr,QN hE hw⟩
end Go.Proofs.Ytaknajjmldngiaa.Ab
namespace Go.Proofs.Ytaknajjmldngiaa.Ab
open Go Go.RowKit
def FW(r:Option Nat):Fence:={Fence.wide with round:=r}
theorem S1(l:Nat):FW (some l)=Fence.wide.inRound l:=rfl
section
variable{P:Program}{gl:Nat→Option D}{ops:Array Oper}{ax:Nat→Bool}{base:Nat}{r:Option Nat}{n:Nat}{ds:List Deferred}
def wd(a:Act)(ds:List Deferred):Act:={a with defers:=ds}
theorem yo(a:Act)(ds:List Deferred)(dst:Option Tmp)(v:Value):(wd a ds).put dst v=wd (a.put dst v) ds:=by cases dst<;>rfl
theorem mF{a:Act}(h:a.defers=[]):wd a []=a:=by cases a;simp only at h;subst h;rfl
theorem S2(a:Act)(ds:List Deferred):(wd a ds).eval =a.eval:=funext fun x=>by cases x<;>rfl
theorem S3{o:Oper}{a:Act}{next:Act→World→Prop}{Q:Exit→Act→World→Prop}{x:Result Next}
  (h:o.upon P a (fun a1 w1=>a1.defers=[]∧next (wd a1 ds) w1) (fun x a1 w1=>Q x (wd a1 ds) w1) x):o.uponIn (FW r) n P (wd a ds) next Q x:=by
 cases x with
 |ok nx w'=>
  cases nx with
  |enter f args=>
   refine⟨fun h=>(by cases h),?_⟩
   have h1:CallsIn Fence.wide (n-1) P f args w' _:=callsIn_wide.2 h
   refine CallsIn.mono (F:=FW r) h1 fun e w2 he=>?_
   cases e with
   |returned v=>show next ((wd a ds).put o.dst v) w2;rw[yo];exact he.2
   |panicked ch=>exact he
   |outgrown=>obtain⟨b1,b2,b3⟩:=he;exact⟨wd b1 ds,b2,b3⟩
  |row row args=>
   refine⟨fun h=>(by cases h),fun c cs _=>?_⟩
   obtain⟨v,w2,h1,h2⟩:=h c cs
   exact⟨v,w2,by show next ((wd a ds).put o.dst v) w2;rw[yo];exact h1.2,stepsIn_wide.2 h2⟩
  |value v=>rw[Oper.uponIn_value,yo];exact h.2
  |skip=>rw[Oper.uponIn_skip,yo];exact h.2
  |defer d=>
   obtain⟨h1,_⟩:=h
   rw[put_defers]at h1
   cases h1
  |_=>exact h.elim
 |halt x w'=>cases x<;>first|exact h|exact h.elim
theorem Eg{o:Oper}{a:Act}{w:World}{next:Act→World→Prop}{Q:Exit→Act→World→Prop}(nk:∀c,o.op≠.defer c)
  (h:o.wp P a w (fun a1 w1=>a1.defers=[]∧next (wd a1 ds) w1) (fun x a1 w1=>Q x (wd a1 ds) w1)):o.wpIn (FW r) n P (wd a ds) w next Q:=by
 refine⟨fun _ _=>trivial,?_⟩
 have hs:o.semAt (FW r).round (wd a ds).eval =execOp a.eval o:=by
  rw[S2]
  cases r with
  |none=>rfl
  |some l=>exact Oper.semAt_some l _ o nk
 rw[hs]
 exact S3 h
theorem P6{C:bu}{id:Nat}{l:Bool}{o:Oper}{e:Env}{k:Env→Prop}(h:j3 P gl C id l o e k):∀c,o.op≠.defer c:=by
 intro c hc
 unfold j3 at h
 cases l with
 |true=>simp only[cond_true,jD,hc]at h
 |false=>simp only[cond_false,b7,hc]at h
theorem Di{w0:World}{an:S0}{e:Env}{a:Act}{w:World}{g:Gh}(hI:Inv gl w0 an e a w g){i id:Nat}{l:Bool}{o:Oper}(ho:ops[i]? =some o){k:Env→Prop}
  (h:lG P gl (aD P gl) ops.toList id l o e k){next:Act→World→Prop}{Q:Exit→Act→World→Prop}(hn:∀e' v w' g',Inv gl w0 an e' (a.put o.dst v) w' g'→k e'→next (wd (a.put o.dst v) ds) w'):wpOpIn (FW r) n P ops Q i next (wd a ds) w:=by
 have h':=v9.1 h
 unfold wpOpIn
 simp only[ho]
 split at h'
 ·rename_i hg
  rw[if_pos (show Region.wanted o (yielded ops (wd a ds).tmps)=true from Ap hI hg)]
  exact Eg (P6 h') (Ji hI h' _ _ fun e' v w' g' hinv hk=>⟨hinv.defers,hn e' _ w' g' hinv hk⟩)
 ·rename_i hg
  rw[if_neg (by rw[show Region.wanted o (yielded ops (wd a ds).tmps)=false from Ap hI hg];simp)]
  refine⟨fun _ _=>trivial,?_⟩
  rw[yo]
  exact hn _ _ _ _ (JX hI o.dst) h'
 ·exact h'.elim
def nv(l:List Oper)(a a':Act):Prop:=∀t,t∉l.filterMap (·.dst)→a'.tmps.getD t undef=a.tmps.getD t undef
theorem nv.refl(l:List Oper)(a:Act):nv l a a:=fun _ _=>rfl
theorem nv.put{l:List Oper}{a0 a:Act}{o:Oper}(h:nv l a0 a)(ho:o∈l)(hs:a.tmps.size=a0.tmps.size)(v:Value):nv l a0 (a.put o.dst v):=by
 intro t ht
 rw[←h t ht]
 cases hd:o.dst with
 |none=>rfl
 |some d=>
  have bm:d≠t:=fun hh=>ht (List.mem_filterMap.2 ⟨o,ho,by rw[hd,hh]⟩)
  simp only[Act.put,Array.getD_eq_getD_getElem?]
  rw[Array.getElem?_setIfInBounds_ne bm]
theorem DU{w0:World}{an:S0}{K:Env→Prop}{Q:Exit→Act→World→Prop}{a0:Act}(hQ:∀e a w g,Inv gl w0 an e a w g→K e→nv ops.toList a0 a→Q .normal (wd a ds) w):∀(fuel:Nat)(aX:Array Bool)(e:Env)(a:Act)(w:World)(g:Gh),
  Inv gl w0 an e a w g→nv ops.toList a0 a→a.tmps.size=a0.tmps.size→tA P gl ops ax base K fuel aX e→wpAnyIn (FW r) n P .any ops Q fuel aX (wd a ds) w
 |0,_,e,a,w,g,hI,gu,_,h=>⟨h.1,hQ e a w g hI h.2 gu⟩
 |fuel+1,_,e,a,w,g,hI,gu,ie,h=>⟨fun h0=>hQ e a w g hI (h.1 h0) gu,fun i hi=>by
   obtain⟨o,ho,hs⟩:=h.2 i hi
   exact Di hI ho hs fun e' v w' g' hinv hk=>DU hQ fuel _ e' _ w' g' hinv (gu.put (by simpa using Array.mem_of_getElem? ho) ie v) (by rw[s9,ie]) hk⟩
theorem Jw{w0:World}{an:S0}{K:Env→Prop}{Q:Exit→Act→World→Prop}{a0:Act}(hQ:∀e a w g,Inv gl w0 an e a w g→K e→nv ops.toList a0 a→Q .normal (wd a ds) w):∀(l:List Oper)(i:Nat)(e:Env)(a:Act)(w:World)(g:Gh),
  (∀j,l[j]? =ops[i+j]?)→Inv gl w0 an e a w g→nv ops.toList a0 a→a.tmps.size=a0.tmps.size→gH P gl (aD P gl) ax ops.toList base l i e K→wpOpsIn (FW r) n P ops Q (List.range' i l.length) (wd a ds) w
 |[],_,e,a,w,g,_,hI,gu,_,h=>hQ e a w g hI h gu
 |o::l,i,e,a,w,g,hl,hI,gu,ie,h=>by
  have h0:ops[i]? =some o:=by simpa using(hl 0).symm
  rw[List.length_cons,List.range'_succ,wpOpsIn_cons]
  rw[wj]at h
  exact Di hI h0 h fun e' v w' g' hinv hk=>Jw hQ l (i+1) e' _ w' g' (fun j=>by have:=hl (j+1);simpa[Nat.add_assoc,Nat.add_comm 1 j]using this) hinv (gu.put (by simpa using Array.mem_of_getElem? h0) ie v) (by rw[s9,ie]) hk
theorem Pn{w0:World}{an:S0}{e:Env}{a:Act}{w:World}{g:Gh}(hI:Inv gl w0 an e a w g){id:Nat}{draw:Bool}{K:Env→Prop}{Q:Exit→Act→World→Prop}(hm:P.follows .mixedOrders =true)
  (h:oG P gl (aD P gl) ax ops.toList e (lI P gl (aD P gl) (!draw||jE ax ops) ops ax e K))(hQ:∀e a' w g,Inv gl w0 an e a' w g→K e→nv ops.toList a a'→Q .normal (wd a' ds) w):(Code.region id ops draw).wpIn (FW r) n P Q (wd a ds) w:=by
 unfold oG at h
 cases eO:(!draw||jE ax ops)with
 |false=>
  rw[eO]at h
  obtain⟨e',Fa,hK⟩:=De _ _ _ h
  have hd:draw=true:=by cases draw<;>simp_all
  subst hd
  refine wpIn_region_any hm ?_
  have cN:=(hI.AD (ep ops.toList ops.toList.length)).drew
  have:=Dc (P:=P) (gl:=gl) (ax:=ax) (K:=fun x=>x=e') _ 0 (Array.replicate ops.size false) _ (fun j=>by simp[Array.getElem?_replicate];split<;>rfl) (by simp) (fun j o ho hl=>by
   have hj:j<ops.size:=(Array.getElem?_eq_some_iff.1 ho).1
   simp[hj]at hl) ⟨w0,an,a,_,_,cN⟩ Fa
  have h2:=DU (r:=r) (n:=n) (Q:=Q) (K:=fun x=>x=e') (fun e1 a1 w1 g1 hinv hk=>hQ e1 a1 w1 g1 hinv (by rw[hk];exact hK)) _ _ _ _ _ _ cN (nv.refl _ _) rfl this
  simpa using h2
 |true=>
 rw[eO]at h
 replace h:gH P gl (aD P gl) ax ops.toList e.boxes.length ops.toList 0 ⟨e.ai,e.boxes++List.replicate (ep ops.toList ops.toList.length) .none⟩ K:=h
 have bd:=hI.AD (ep ops.toList ops.toList.length)
 cases draw with
 |false=>
  refine wpIn_region ?_
  have:=Jw (r:=r) (n:=n) (base:=e.boxes.length) (ax:=ax) hQ ops.toList 0 _ a w _ (fun j=>by simp) bd (nv.refl _ _) rfl h
  rw[List.range_eq_range']
  simpa using this
 |true=>
  simp only[Bool.not_true,Bool.false_or]at eO
  refine wpIn_region_any hm ?_
  have cN:=bd.drew
  have aB:(Array.replicate ops.size false).size =ops.size:=by simp
  have Gl:=hI.LS (ops:=ops) (ep ops.toList ops.toList.length) rfl
  obtain⟨E,sg,eO⟩:∃E,Js ops ax e.boxes.length _ E (Array.replicate ops.size false) ⟨e.ai,e.boxes++List.replicate (ep ops.toList ops.toList.length) .none⟩∧ux E ops ax (reach [] ops.toList) ops.toList 0=true:=by
   unfold jE at eO
   cases kC:eligible ops.toList ax (reach [] ops.toList)with
   |true=>rw[kC]at eO;exact⟨_,fun A hA=>by cases hA;exact⟨rfl,KE kC,Gl⟩,eO⟩
   |false=>rw[kC]at eO;exact⟨none,fun A hA=>(by cases hA),eO⟩
  have:=Ec (P:=P) (gl:=gl) (base:=e.boxes.length) (ax:=ax) ops.toList 0 (Array.replicate ops.size false) _ (fun j=>by simp) (fun j hj=>by omega) (fun j _ hj=>by simp[hj]) aB
   (fun j o ho hl=>by
     have hj:j<ops.size:=(Array.getElem?_eq_some_iff.1 ho).1
     simp[hj]at hl) ⟨w0,an,a,_,_,cN⟩ sg eO h
  have h2:=DU (r:=r) (n:=n) hQ _ _ _ _ _ _ cN (nv.refl _ _) rfl this
  simpa using h2
end
section
variable{P:Program}{gl:Nat→Option D}{h:Hints}{r:Option Nat}{n:Nat}{ds:List Deferred}
def Kt(gh:List (Nat×List fK))(c:Code)(a a':Act):Prop:=∀t,t∉b9 gh c→a'.tmps.getD t undef=a.tmps.getD t undef
theorem Kt.refl(gh:List (Nat×List fK))(c:Code)(a:Act):Kt gh c a a:=fun _ _=>rfl
theorem Kt.trans{gh:List (Nat×List fK)}{x y c:Code}{a a1 a2:Act}(h1:Kt gh x a a1)(h2:Kt gh y a1 a2)(hx:∀t,t∈b9 gh x→t∈b9 gh c)(hy:∀t,t∈b9 gh y→t∈b9 gh c):Kt gh c a a2:=
 fun t ht=>(h2 t fun hm=>ht (hy t hm)).trans (h1 t fun hm=>ht (hx t hm))
theorem Kt.mono{gh:List (Nat×List fK)}{x c:Code}{a a1:Act}(h1:Kt gh x a a1)(hx:∀t,t∈b9 gh x→t∈b9 gh c):Kt gh c a a1:=fun t ht=>h1 t fun hm=>ht (hx t hm)
theorem nJ(hm:P.follows .mixedOrders =true):∀(c:Code){w0:World}{an:S0}{QA:Ex→Env→Prop}{e:Env}{a:Act}{w:World}{g:Gh}{Q:Exit→Act→World→Prop},
  Inv gl w0 an e a w g→aw P gl (aD P gl) h c QA e→(∀x e' a' w' g',Inv gl w0 an e' a' w' g'→QA x e'→Kt h.gh c a a'→Q x.to (wd a' ds) w')→c.wpIn (FW r) n P Q (wd a ds) w
 | .skip,_,_,_,_,_,_,_,_,hI,hh,hQ=>wpIn_skip (hQ .normal _ _ _ _ hI hh (Kt.refl _ _ _))
 | .region id ops draw,w0,an,QA,e,a,w,g,Q,hI,hh,hQ=>by
   obtain⟨qG,hh,hj⟩:=Al hI (c:=.region id ops draw) (T:=fun Q=>bif (!draw||jE (fc h id) ops)||yt h.gh id then jn (tm h.gh id) e (fun e'=>oG P gl (aD P gl) (fc h id) ops.toList e' (lI P gl (aD P gl) (!draw||jE (fc h id) ops) ops (fc h id) e' (Q .normal)))else False) (fun Q hh=>H3 Q hh) hh
   have hQ:∀ex e' a' w' g',Inv gl w0 an e' a' w' g'→qG ex e'→Kt h.gh (.region id ops draw) a a'→Q ex.to (wd a' ds) w':=fun ex e' a' w' g' h1 h2 h5=>(by
    obtain⟨gO,sk,h3,h4⟩:=hj ex e' a' w' g' h1 h2
    exact hQ ex gO a' w' sk h3 h4 h5)
   clear hj
   obtain⟨hb,hh⟩:=m4 (hh:cond _ _ False)
   obtain⟨e1,g1,bC,h1⟩:=DR hI hh
   exact Pn bC hm h1 fun e' a' w' g' bd hk gu=>hQ .normal e' a' w' g' bd hk fun t ht=>gu t fun hm=>ht (by simp only[b9,List.mem_append];exact .inr hm)
 | .seq x y,w0,an,QA,e,a,w,g,Q,hI,hh,hQ=>by
   have gR:∀t,t∈b9 h.gh x→t∈b9 h.gh (.seq x y):=fun t ht=>by simp[b9,ht]
   have u4:∀t,t∈b9 h.gh y→t∈b9 h.gh (.seq x y):=fun t ht=>by simp[b9,ht]
   refine wpIn_seq (nJ hm x hI hh fun ex e' a' w' g' bd hk gu=>?_)
   cases ex with
   |normal=>exact nJ hm y bd hk fun x2 e2 a2 w2 g2 cN lT rM=>hQ x2 e2 a2 w2 g2 cN lT (gu.trans rM gR u4)
   |exit i=>exact hQ (.exit i) e' a' w' g' bd hk (gu.mono gR)
   |ret=>exact hQ .ret e' a' w' g' bd hk (gu.mono gR)
 | .cond c x y,w0,an,QA,e,a,w,g,Q,hI,hh,hQ=>by
   obtain⟨qG,hh,hj⟩:=Al hI (c:=.cond c x y) (T:=fun Q=>kS e c (aw P gl (aD P gl) h x Q) (aw P gl (aD P gl) h y Q)) (fun Q hh=>IH Q hh) hh
   have hQ:∀ex e' a' w' g',Inv gl w0 an e' a' w' g'→qG ex e'→Kt h.gh (.cond c x y) a a'→Q ex.to (wd a' ds) w':=fun ex e' a' w' g' h1 h2 h5=>(by
    obtain⟨gO,sk,h3,h4⟩:=hj ex e' a' w' g' h1 h2
    exact hQ ex gO a' w' sk h3 h4 h5)
   clear hj
   cases c with
   |tmp t=>
    simp only[kS]at hh
    have hs:=kK hI t
    cases hx:e.ai.getD t (.v .undef)with
    |v z=>
     rw[hx]at hh hs
     obtain⟨b,rfl,h1,h2⟩:=wi hh
     have hv:=hs.jG.data.pT
     refine wpIn_cond_split hv (fun hb=>?_) (fun hb=>?_)
     ·have:=h1 hb
      subst hb
      rw[qQ hx]at this
      exact nJ hm x hI this fun x2 e2 a2 w2 g2 cN lT rM=>hQ x2 e2 a2 w2 g2 cN lT (rM.mono fun t ht=>by simp[b9,ht])
     ·have:=h2 hb
      subst hb
      rw[qQ hx]at this
      exact nJ hm y hI this fun x2 e2 a2 w2 g2 cN lT rM=>hQ x2 e2 a2 w2 g2 cN lT (rM.mono fun t ht=>by simp[b9,ht])
    |_=>rw[hx]at hh;exact hh.elim
   |const v=>
    cases v with
    |bool b=>
     refine wpIn_cond_split (t:=b) rfl (fun hb=>?_) (fun hb=>?_)
     ·subst hb;exact nJ hm x hI hh fun x2 e2 a2 w2 g2 cN lT rM=>hQ x2 e2 a2 w2 g2 cN lT (rM.mono fun t ht=>by simp[b9,ht])
     ·subst hb;exact nJ hm y hI hh fun x2 e2 a2 w2 g2 cN lT rM=>hQ x2 e2 a2 w2 g2 cN lT (rM.mono fun t ht=>by simp[b9,ht])
    |_=>exact hh.elim
   |_=>exact hh.elim
 | .block id b,w0,an,QA,e,a,w,g,Q,hI,hh,hQ=>by
   refine wpIn_block (nJ hm b hI hh fun ex e' a' w' g' bd hk gu=>?_)
   cases ex with
   |normal=>exact hQ .normal e' a' w' g' bd hk gu
   |exit i=>
    have dj:cond (i==id) (QA .normal e') (QA (.exit i) e'):=hk
    show(if i=id then Q .normal (wd a' ds) w' else Q (.exit i) (wd a' ds) w')
    cases hb:(i==id)with
    |true=>
     rw[hb]at dj
     rw[if_pos (beq_iff_eq.1 hb)]
     exact hQ .normal e' a' w' g' bd dj gu
    |false=>
     rw[hb]at dj
     rw[if_neg (beq_eq_false_iff_ne.1 hb)]
     exact hQ (.exit i) e' a' w' g' bd dj gu
   |ret=>exact hQ .ret e' a' w' g' bd hk gu
 | .loop b,w0,an,QA,e,a,w,g,Q,hI,hh,hQ=>by
   obtain⟨hb,hh⟩:=m4 (hh:cond _ _ False)
   simp only[Bool.and_eq_true,List.all_eq_true,Bool.not_eq_true',List.contains_eq_mem,decide_eq_false_iff_not]at hb
   obtain⟨Fc,hk⟩:=hb
   let LW:Act→World→Prop:=fun a1 w1=>∀(fr:Frame)(k:List Item)(cs:List Frame),fr.roundOf=(FW r).round →(FW r).fn fr.fn→(FW r).room (cs.length+1+n)→∃ex a' w',Q ex a' w'∧ArrivesIn (Machine.fenced P (FW r)) P (lone (fr.atR a1 (.code b::.inLoop b::k)) cs w1) fr k cs ex a' w'
   let I:List SV→List (List SV)→Prop:=fun vs bs=>∀e1 a1 w1 g1,Inv gl w0 an e1 a1 w1 g1→Fr h.gh b e e1→Kt h.gh b a a1→m8 e1 (fS h.cY (g6 b)).1=vs→m6 e.boxes.length e1=bs→LW (wd a1 ds) w1
   have key:I _ _:=hh I fun vs bs hF e1 a1 w1 g1 bC pB gu ja fM=>by
    subst ja fM
    have Gu:=Dz hI bC pB (vars:=(fS h.cY (g6 b)).1) Fc
    have yy:=nJ hm b (Q:=fun ex a' w'=>match ex with| .normal =>LW a' w'|ex=>Q ex a' w') Gu (m5 b hF) (fun ex e' a' w' g' bd dj Fg=>by
     obtain⟨jw,lT⟩:=dj
     cases ex with
     |normal=>exact jw e' a' w' g' bd ((AE hk).trans lT (fun t ht=>ht) (fun t ht=>ht)) (gu.trans Fg (fun t ht=>ht) (fun t ht=>ht)) rfl rfl
     |exit i=>exact hQ (.exit i) e' a' w' g' bd jw (gu.trans Fg (fun t ht=>ht) (fun t ht=>ht))
     |ret=>exact hQ .ret e' a' w' g' bd jw (gu.trans Fg (fun t ht=>ht) (fun t ht=>ht)))
    intro fr k cs Ch hb hr
    obtain⟨ex,a2,w2,hq,kp⟩:=yy fr (.inLoop b::k) cs Ch hb hr
    cases ex with
    |normal=>
     obtain⟨e₂,a₂,w₂,Gv,EN⟩:=hq fr k cs Ch hb hr
     exact⟨e₂,a₂,w₂,Gv,.of_steps (StepsIn.trans kp (.one (fenced_calm hb hr rfl) stepR_inLoop)) EN⟩
    |exit id=>exact⟨_,a2,w2,hq,.pass (x:=.inLoop b) rfl (fun _ _=>.inl (by simp)) kp⟩
    |goto l=>exact⟨_,a2,w2,hq,.pass (x:=.inLoop b) rfl (fun _ _=>.inl (by simp)) kp⟩
    |ret=>exact⟨_,a2,w2,hq,.pass (x:=.inLoop b) rfl (fun _ _=>.inl (by simp)) kp⟩
    |panic ch=>exact⟨_,a2,w2,hq,.pass (x:=.inLoop b) rfl (fun _ _=>.inl (by simp)) kp⟩
    |outgrown=>exact⟨_,a2,w2,hq,.pass (x:=.inLoop b) rfl (fun _ _=>.inl (by simp)) kp⟩
   have Gw:LW (wd a ds) w:=key e a w g hI (Fr.refl _ _) (Kt.refl _ _ _) rfl rfl
   intro fr k cs Ch hb hr
   obtain⟨ex,a',w',hq,kp⟩:=Gw fr k cs Ch hb hr
   exact⟨ex,a',w',hq,.of_steps (.one (fenced_calm hb hr rfl) stepR_loop) kp⟩
 | .exit id,_,_,_,_,_,_,_,_,hI,hh,hQ=>wpIn_exit (hQ (.exit id) _ _ _ _ hI hh (Kt.refl _ _ _))
 | .ret,_,_,_,_,_,_,_,_,hI,hh,hQ=>wpIn_ret (hQ .ret _ _ _ _ hI hh (Kt.refl _ _ _))
 | .goto _,_,_,_,_,_,_,_,_,_,hh,_=>hh.elim
 | .label _,_,_,_,_,_,_,_,_,_,hh,_=>hh.elim
 | .scope _,_,_,_,_,_,_,_,_,_,hh,_=>hh.elim
 | .rangeFunc _ _ _ _,_,_,_,_,_,_,_,_,_,hh,_=>hh.elim
 | .refuse _,_,_,_,_,_,_,_,_,_,hh,_=>hh.elim
theorem IM(hm:P.follows .mixedOrders =true)(c:Code){w0:World}{an:S0}{QA:Ex→Env→Prop}{e:Env}{a:Act}{w:World}{g:Gh}{Q:Exit→Act→World→Prop}
  (hI:Inv gl w0 an e a w g)(hh:aw P gl (aD P gl) h c QA e)(hQ:∀x e' a' w' g',Inv gl w0 an e' a' w' g'→QA x e'→Q x.to (wd a' ds) w'):c.wpIn (FW r) n P Q (wd a ds) w:=
 nJ hm c hI hh fun x e' a' w' g' h1 h2 _=>hQ x e' a' w' g' h1 h2
end
end Go.Proofs.Ytaknajjmldngiaa.Ab
namespace Go.Proofs.Ytaknajjmldngiaa.Ab
open Go Go.RowKit
mutual
def SV.mM:SV→Bool
 | .mp _=>false
 | .ref cs _=>SV.nd cs
 | .ev _ _ cs=>SV.nd cs
 | .dg _ a b=>SV.nd a&&SV.nd b
 | .dA l=>SV.nd l
 |_=>true
def SV.nd:List SV→Bool
 |[]=>true
 |x::l=>SV.mM x&&SV.nd l
end
theorem s5:∀{l:List SV},SV.nd l=true↔∀x∈l,SV.mM x=true
 |[]=>by simp[SV.nd]
 |x::l=>by simp[SV.nd,s5 (l:=l)]
end Go.Proofs.Ytaknajjmldngiaa.Ab
namespace Go.Proofs.Ytaknajjmldngiaa.Ab
open Go Go.RowKit
theorem oD:∀{l:List SV},SV.lC l=true↔∀x∈l,SV.au x=true
 |[]=>by simp[SV.lC]
 |x::l=>by simp[SV.lC,oD (l:=l)]
section
variable{W W':World}{gl:Nat→Option D}
theorem aK.cY{St:Nat→Nat→Prop}(hc:∀b o v,St b o→W.cell? ⟨b,o,none⟩=some v→W'.cell? ⟨b,o,none⟩=some v){x:D}{v:Value}(r:aK W St x v):aK W' St x v:=by
 induction r with
 |bool b=>exact .bool b
 |int k n hk=>exact .int k n hk
 |str s hs=>exact .str s hs
 |agg ds vs hf hl _ ih=>exact .agg ds vs hf hl ih
 |iT sz=>exact .iT sz
 |sl sz L b off cap vs bq hm aB hf aN _ ih=>exact .sl sz L b off cap vs bq hm aB hf (fun o ho=>⟨hc _ _ _ (aN o ho).2 (aN o ho).1,(aN o ho).2⟩) ih
 |iU sz a cap ha=>exact .iU sz a cap ha
 |fn f=>exact .fn f
 |qi=>exact .qi
 |iface t x v _ ih=>exact .iface t x v ih
 |oN=>exact .oN
 |mA=>exact .mA
theorem aG.cY{St:Nat→Nat→Prop}{base:Nat}(hc:∀b o v,St b o→W.cell? ⟨b,o,none⟩=some v→W'.cell? ⟨b,o,none⟩=some v){O:Nat→Nat→Nat→Prop}{x:SV}{v:Value}(r:aG W St base O x v):
  ∀O':Nat→Nat→Nat→Prop,(∀g a c,O g a c→O' g a c∧W'.heap[g]? =W.heap[g]?)→x.mM=true→x.au=true→aG W' St base O' x v:=by
 induction r with
 |d O x v hd=>exact fun O' _ _ _=>.d O' x v (hd.cY hc)
 |own O sz L g cap hd bq ho=>exact fun O' hO _ _=>.own O' sz L g cap (hd.cY hc) bq (hO _ _ _ ho).1
 |full O sz L a hd=>exact fun O' _ _ _=>.full O' sz L a (hd.cY hc)
 |ref O cs off b o vs cD aN _ ih=>exact fun O' _ _ hr=>by cases hr
 |ev O n sz cs b cap vs cD hn hm aN _ ih=>exact fun O' _ _ hr=>by cases hr
 |aE O x off b o vs hf aN cJ=>exact fun O' _ _ _=>.aE O' x off b o vs hf (fun i hi=>⟨hc _ _ _ (aN i hi).2 (aN i hi).1,(aN i hi).2⟩) fun i c hi=>(cJ i c hi).cY hc
 |dg O f first cap fv cv hf cz _ _ iV iW=>
  intro O' _ hn hr
  simp only[SV.mM,SV.au,Bool.and_eq_true]at hn hr
  exact .dg O' f first cap fv cv hf cz (fun i x v a b=>iV i x v a b _ (fun _ _ _ h=>h.elim) (s5.1 hn.1 x (List.mem_of_getElem? a)) (oD.1 hr.1 x (List.mem_of_getElem? a))) (fun i x v a b=>iW i x v a b _ (fun _ _ _ h=>h.elim) (s5.1 hn.2 x (List.mem_of_getElem? a)) (oD.1 hr.2 x (List.mem_of_getElem? a)))
 |bj O sz L g cap vs bq hm aB hf ho aN cJ=>
  exact fun O' hO _ _=>.bj O' sz L g cap vs bq hm aB hf (hO _ _ _ ho).1 (fun o bJ=>(World.cell?_of_block (hO _ _ _ ho).2).trans (aN o bJ)) fun i x j c hx iD=>(cJ i x j c hx iD).cY hc
 |mp O l r es clock hh hs hl cJ=>exact fun O' _ hn=>by cases hn
 |undef O v=>exact fun O' _ _ _=>.undef O' v
inductive Plain:Slot→Prop
 |v (x:SV) (h:x.mM=true) (h2:x.au=true):Plain (.v x)
 |t (l:List SV) (h:SV.nd l=true) (h2:SV.lC l=true):Plain (.t l)
 |p (b off:Nat):Plain (.p b off)
 |a (b n sz:Nat):Plain (.a b n sz)
 |m (b:Nat):Plain (.m b)
 |c (f:Fn) (first cap:List Slot) (h1:∀s∈first,Plain s) (h2:∀s∈cap,Plain s):Plain (.c f first cap)
structure Bg(e:Env):Prop where
 s:∀s∈e.ai,Plain s
 b:∀bx∈e.boxes,match bx with| .cells cs=>SV.nd cs=true∧SV.lC cs=true| .one s=>Plain s|_=>True
theorem bM.cY{base:Nat}{g:Gh}(cR:∀b,some b∈g.bx→W'.heap[b]? =W.heap[b]?)(hc:∀b o v,g.St b o→W.cell? ⟨b,o,none⟩=some v→W'.cell? ⟨b,o,none⟩=some v){O:Nat→Nat→Nat→Nat→Prop}{s:Slot}{v:Value}(r:bM base W g O s v):
  ∀O':Nat→Nat→Nat→Nat→Prop,(∀j b a c,O j b a c→O' j b a c∧W'.heap[b]? =W.heap[b]?)→Plain s→bM base W' g O' s v:=by
 induction r with
 |v O x y h=>exact fun O' hO hn=>.v _ x y (by cases hn with|v _ h1 h2=>exact h.cY hc _ (hO 0) h1 h2)
 |p O b off aj h=>exact fun O' _ _=>.p _ b off aj h
 |a O b n sz v hm h=>exact fun O' _ _=>.a _ b n sz v hm (by obtain⟨aj,cap,h1,h2,h3,h4,c,ty,h5,h6⟩:=h;exact⟨aj,cap,h1,h2,h3,h4,c,ty,(cR aj (List.mem_of_getElem? h1)).trans h5,h6⟩)
 |m O b aj h=>exact fun O' _ _=>.m _ b aj h
 |c O f first cap fv cv hf cz _ _ iV iW=>
  intro O' _ hn
  cases hn with
  |c _ _ _ h1 h2=>
   exact .c _ f first cap fv cv hf cz (fun i x v a b=>iV i x v a b _ (fun _ _ _ _ h=>h.elim) (h1 x (List.mem_of_getElem? a))) (fun i x v a b=>iW i x v a b _ (fun _ _ _ _ h=>h.elim) (h2 x (List.mem_of_getElem? a)))
 |t O xs vs hl cJ=>
  intro O' hO hn
  cases hn with
  |t _ h h2=>exact .t _ xs vs hl fun j x v a b=>(cJ j x v a b).cY hc _ (hO j) (s5.1 h x (List.mem_of_getElem? a)) (oD.1 h2 x (List.mem_of_getElem? a))
def yW(W:World)(n:Nat):World:={W with heap:=W.heap.extract 0 n}
theorem Jx{W:World}{n:Nat}(h:n≤W.heap.size):(yW W n).heap.size =n:=by simp[yW];omega
theorem Inv.move{w0 GK:World}{an:S0}{e:Env}{a:Act}{g:Gh}(hI:Inv gl w0 an e a W g)(hn:Bg e)(h0:GK.heap.size=w0.heap.size)(hb:Below w0.heap.size GK W')(hs:W.heap.size≤W'.heap.size)
  (hc:∀b o v,g.St b o→W.cell? ⟨b,o,none⟩=some v→W'.cell? ⟨b,o,none⟩=some v)
  (cR:∀b,some b∈g.bx→W'.heap[b]? =W.heap[b]?)(qF:∀b p,g.ow b=some p→w0.heap.size≤b→b<W.heap.size→W'.heap[b]? =W.heap[b]?)
  (fj:∀D o,an.df D o→W'.heap[D]? =W.heap[D]?):Inv gl GK an e a W' g:=by
 have gn:∀p b a' c,fe w0.heap.size W g p b a' c→fe w0.heap.size W' g p b a' c∧W'.heap[b]? =W.heap[b]? :=by
  rintro p b a' c ⟨h1,h2,h3,⟨cur,t,h4,h5⟩,h6⟩
  have:=qF b p h1 h2 (fo h4)
  exact⟨⟨h1,h2,h3,⟨cur,t,this.trans h4,h5⟩,h6⟩,this⟩
 refine⟨by rw[h0];exact hb,hI.size,fun i s hs=>?_,hI.er,fun b bx aj h1 h2=>?_,hI.nodup,hI.eZ,fun b o h=>⟨by rw[h0];exact(hI.bT b o h).1,(hI.bT b o h).2.1,by have:=(hI.bT b o h).2.2;omega⟩,
  fun b h=>⟨by rw[h0];exact(hI.cU b h).1,by have:=(hI.cU b h).2;omega⟩,?_,hI.defers,
  fun D o hD=>(have h:=hI.ec D o hD;⟨h.1,h.2.1,(fj D o hD).trans h.2.2.1,h.2.2.2⟩),fun b o v hv=>(have h:=hI.cls b o v hv;⟨h.1,hc _ _ _ h.1 h.2⟩),Nat.le_trans hI.iX hs⟩
 ·rw[h0]
  exact(hI.ai i s hs).cY cR hc _ (fun j b a' c h=>gn _ b a' c h) (hn.s s (List.mem_of_getElem? hs))
 ·rw[h0]
  have jP:=hI.boxes b bx aj h1 h2
  have qB:=hn.b bx (List.mem_of_getElem? h1)
  have hb:=cR aj (List.mem_of_getElem? h2)
  cases bx with
  |none=>exact jP.elim
  |map l=>
   obtain⟨h0,es,clock,hh,hl,aQ⟩:=jP
   exact⟨h0,es,clock,hb.trans hh,hl,fun i x y hx hy=>⟨(aQ i x y hx hy).1,(aQ i x y hx hy).2.1,(aQ i x y hx hy).2.2.cY hc⟩⟩
  |cells cs=>
   obtain⟨h0,c,t,hh,bz,hl,aQ⟩:=jP
   exact⟨h0,c,t,hb.trans hh,bz,hl,fun j x y hx hy=>(aQ j x y hx hy).cY hc _ (fun b' a' c' h=>gn _ b' a' c' h) (s5.1 qB.1 x (List.mem_of_getElem? hx)) (oD.1 qB.2 x (List.mem_of_getElem? hx))⟩
  |one s=>
   obtain⟨h0,c,t,hh,bz,hl,aQ⟩:=jP
   exact⟨h0,c,t,hb.trans hh,bz,hl,fun y hy=>(aQ y hy).cY cR hc _ (fun _ b' a' c' h=>gn _ b' a' c' h) qB⟩
 ·intro n x hx
  obtain⟨h0,vs,h1,h2⟩:=hI.js n x hx
  exact⟨h0,vs,fun i hi=>⟨hc _ _ _ (h1 i hi).2 (h1 i hi).1,(h1 i hi).2⟩,fun i c ib=>(h2 i c ib).cY hc⟩
theorem Inv.qI{w0:World}{an uU:S0}{e:Env}{a:Act}{g:Gh}(hI:Inv gl w0 an e a W g)(h0:∀b o,uU.St b o→g.St b o)(h1:∀b o,g.St b o→uU.St b o∨w0.heap.size≤b)
  (fj:∀D o,uU.df D o→some D∉g.bx∧g.ow D=none∧W.heap[D]? =some o∧∀x,g.St D x→uU.St D x)(cz:∀b o v,uU.cl b o v→g.St b o∧W.cell? ⟨b,o,none⟩=some v)
  (aB:uU.sz≤W.heap.size):Inv gl w0 uU e a W g:=
 ⟨hI.below,hI.size,hI.ai,hI.er,hI.boxes,hI.nodup,h0,fun b o h=>⟨h1 b o h,(hI.bT b o h).2⟩,hI.cU,hI.js,hI.defers,fj,cz,aB⟩
theorem aG.ES{St bA:Nat→Nat→Prop}(h:∀b o,St b o→bA b o){base:Nat}{O:Nat→Nat→Nat→Prop}{x:SV}{v:Value}(r:aG W St base O x v){O':Nat→Nat→Nat→Prop}(hO:∀b a c,O b a c→O' b a c):aG W bA base O' x v:=
 r.mono (fun b o hs=>⟨h b o hs,.refl _ _ _⟩) (fun _ _ _=>rfl) _ fun b a c ho=>⟨hO b a c ho,.refl _ _ _⟩
theorem Inv.TX{w0:World}{an:S0}{e:Env}{a:Act}{g:Gh}(hI:Inv gl w0 an e a W g){S:Nat→Nat→Prop}(hS:∀b o,S b o→g.St b o∨(w0.heap.size≤b∧b<W.heap.size∧some b∉g.bx∧g.ow b=none))
  (fj:∀D o,an.df D o→∀x,S D x→g.St D x):Inv gl w0 an e a W {g with St:=fun b o=>g.St b o∨S b o}:=by
 have gn:∀p b a' c,fe w0.heap.size W g p b a' c→fe w0.heap.size W {g with St:=fun b o=>g.St b o∨S b o} p b a' c:=by
  rintro p b a' c ⟨h1,h2,h3,h4,h5⟩
  refine⟨h1,h2,h3,h4,fun o ho=>?_⟩
  rintro(h|h)
  ·exact h5 o ho h
  ·rcases hS b o h with h|⟨_,_,_,h⟩
   ·exact h5 o ho h
   ·rw[h1]at h;cases h
 refine⟨hI.below,hI.size,fun i s hs=>?_,hI.er,fun b bx aj h1 h2=>?_,hI.nodup,fun b o h=>.inl (hI.eZ b o h),fun b o h=>?_,hI.cU,?_,hI.defers,
  fun D o hD=>(have h:=hI.ec D o hD;⟨h.1,h.2.1,h.2.2.1,fun x hx=>h.2.2.2 x (hx.elim id (fj D o hD x))⟩),fun b o v hv=>⟨.inl (hI.cls b o v hv).1,(hI.cls b o v hv).2⟩,hI.iX⟩
 ·exact(hI.ai i s hs).mono (fun b o h=>⟨.inl h,.refl _ _ _⟩) (fun _ _ _=>rfl) (fun _ _ h=>h) (.refl _) fun j b a' c h=>⟨gn _ b a' c h,.refl _ _ _⟩
 ·have jP:=hI.boxes b bx aj h1 h2
  cases bx with
  |none=>exact jP.elim
  |map l=>
   obtain⟨h0,es,clock,hh,hl,aQ⟩:=jP
   exact⟨h0,es,clock,hh,hl,fun i x y hx hy=>⟨(aQ i x y hx hy).1,(aQ i x y hx hy).2.1,(aQ i x y hx hy).2.2.mono fun b o h=>⟨.inl h,rfl⟩⟩⟩
  |cells cs=>
   obtain⟨h0,c,t,hh,bz,hl,aQ⟩:=jP
   exact⟨h0,c,t,hh,bz,hl,fun j x y hx hy=>(aQ j x y hx hy).ES (fun _ _ h=>.inl h) (fun b' a' c' h=>gn _ b' a' c' h)⟩
  |one s=>
   obtain⟨h0,c,t,hh,bz,hl,aQ⟩:=jP
   exact⟨h0,c,t,hh,bz,hl,fun y hy=>(aQ y hy).mono (fun b o h=>⟨.inl h,.refl _ _ _⟩) (fun _ _ _=>rfl) (fun _ _ h=>h) (.refl _) fun _ b' a' c' h=>⟨gn _ b' a' c' h,.refl _ _ _⟩⟩
 ·rcases h with h|h
  ·exact hI.bT b o h
  ·rcases hS b o h with h|⟨h1,h2,h3,_⟩
   ·exact hI.bT b o h
   ·exact⟨.inr h1,h3,h2⟩
 ·intro n x hx
  obtain⟨h0,vs,h1,h2⟩:=hI.js n x hx
  exact⟨h0,vs,fun i hi=>⟨(h1 i hi).1,.inl (h1 i hi).2⟩,fun i c ib=>(h2 i c ib).mono fun b o h=>⟨.inl h,rfl⟩⟩
end
end Go.Proofs.Ytaknajjmldngiaa.Ab
set_option linter.unusedVariables false
set_option linter.unusedSimpArgs false
namespace Go.Proofs.Ytaknajjmldngiaa.Ab
open Go Go.RowKit
structure rk(Fr:Nat→Prop)(b5:Nat→Nat→Prop)(W W':World):Prop where
 os:W'.os=W.os
 tape:W'.tape=W.tape
 output:W'.output=W.output
 size:W.heap.size≤W'.heap.size
 aj:∀b,b<W.heap.size→¬Fr b→W'.heap[b]? =W.heap[b]?
 jK:∀b o v,b5 b o→W.cell? ⟨b,o,none⟩=some v→W'.cell? ⟨b,o,none⟩=some v
def Iter(P:Program)(gl:Nat→Option D)(f:FuncId)(cap:List SV)(L:List D):Prop:=mE P f∧
 ∀(w:World)(St:Nat→Nat→Prop)(l:Nat)(vs:Array Value),(∀b o,St b o→b<w.heap.size)→tl gl w St→cap.length=vs.size→
  (∀(i:Nat)x v,cap[i]? =some x→vs[i]? =some v→aG w St w.heap.size (fun _ _ _=>False) x v)→
  ∀(J:Option Unit→(Nat→Prop)→(Nat→Nat→Prop)→List D→World→Prop),
   (∀q Fr b5 pre W W' k9 nW,J q Fr b5 pre W→rk Fr b5 W W'→(∀b,k9 b→Fr b∨(W.heap.size≤b∧b<W'.heap.size))→(∀b,Fr b→k9 b)→(∀b o,b5 b o→nW b o)→
     (∀b o,nW b o→(b5 b o∨k9 b)∧b<W'.heap.size)→J q k9 nW pre W')→
   (∀Fr b5 pre d v W,J none Fr b5 pre W→aK W b5 d v→L[pre.length]? =some d→∃fn tmps assign body,(Instr.yield l #[v]).run P W=.ok (.round l fn tmps assign body) W∧
     ∀n,RoundIn Fence.wide n P l fn tmps assign body W fun e W'=>∃b,e=.returned (.bool b)∧rk (fun b=>¬Fr b) b5 W W'∧J (bif b then none else some ()) Fr b5 (pre++[d]) W')→
   J none (fun _=>False) St [] w→
   Calls P f (#[.func (.yield l) #[] #[]]++vs) w fun e W'=>(∃v,e=.returned v)∧∃Fr b5 pre q,J q Fr b5 pre W'∧(q=none→pre=L)
def Ci(o:Obj):Prop:=o.isCells=false∧∀es c,o≠.map es c
section
variable{W:World}{gl:Nat→Option D}
theorem RF{l:Nat}{o o':Obj}(h:W.heap[l]? =some o)(ho:o.isCells=false)(bJ:o'.isCells=false)(b off:Nat):(W.putObj l o').cell? ⟨b,off,none⟩=W.cell? ⟨b,off,none⟩:=by
 by_cases hb:b=l
 ·subst hb
  have h1:=World.putObj_heap_same (w:=W) (o:=o') (fo h)
  simp only[World.cell?,h,h1]
  cases o<;>cases o'<;>first|rfl|exact absurd (show true=false from ho) (by decide)|exact absurd (show true=false from bJ) (by decide)
 ·exact World.cell?_of_block (World.putObj_heap_other hb)
theorem Inv.other{w0:World}{an:S0}{e:Env}{a:Act}{g:Gh}(hI:Inv gl w0 an e a W g){l:Nat}{o o':Obj}(h:W.heap[l]? =some o)(ho:Ci o)(bJ:Ci o')(hl:w0.heap.size≤l)(fj:∀D ob,an.df D ob→D≠l):
  Inv gl w0 an e a (W.putObj l o') g:=by
 have aN:=RF h ho.1 bJ.1
 have de:∀b,b≠l→(W.putObj l o').heap[b]? =W.heap[b]? :=fun b hb=>World.putObj_heap_other hb
 have qf:∀(b:Nat)(c:Array Value)(t:TypeId)(p:Nat×Nat),W.heap[b]? =some (Obj.cells c t p)→(W.putObj l o').heap[b]? =some (Obj.cells c t p):=fun b c t p hb=>(de b (fun e=>by subst e;rw[h]at hb;cases hb;exact absurd (show true=false from ho.1) (by decide))).trans hb
 have Mk:∀(b:Nat)(es:Array MapEntry)(c:Nat),W.heap[b]? =some (Obj.map es c)→(W.putObj l o').heap[b]? =some (Obj.map es c):=fun b es c hb=>(de b (fun e=>by subst e;rw[h]at hb;cases hb;exact absurd rfl (ho.2 es c))).trans hb
 have iE:∀b off,tf W (W.putObj l o') b off:=fun b off=>⟨aN b off,fun es c hm=>Mk b es c hm⟩
 have aH:oK W (W.putObj l o'):=fun b c ty hb=>⟨c,ty,qf b c ty _ hb,rfl⟩
 have gn:∀p b a' c,fe w0.heap.size W g p b a' c→fe w0.heap.size (W.putObj l o') g p b a' c∧pW W (W.putObj l o') b a':=by
  rintro p b a' c ⟨h1,h2,h3,⟨cur,t,h4,h5⟩,h6⟩
  exact⟨⟨h1,h2,h3,⟨cur,t,qf b _ _ _ h4,h5⟩,h6⟩,fun _=>(qf b _ _ _ h4).trans h4.symm⟩
 refine⟨hI.below.trans ⟨rfl,rfl,rfl,by simp,fun k hk=>de k (by omega)⟩,hI.size,fun i s hs=>?_,hI.er,fun b bx aj h1 h2=>?_,hI.nodup,hI.eZ,fun b o h=>?_,fun b h=>?_,?_,hI.defers,
  fun D ob hD=>(have h:=hI.ec D ob hD;⟨h.1,h.2.1,(de D (fj D ob hD)).trans h.2.2.1,h.2.2.2⟩),fun b o v hv=>⟨(hI.cls b o v hv).1,(aN b o).trans (hI.cls b o v hv).2⟩,by simp;exact hI.iX⟩
 ·exact(hI.ai i s hs).mono (fun b o h=>⟨h,iE b o⟩) (fun b o _=>aN b o) (fun _ _ h=>h) aH fun j b a' c h=>gn _ b a' c h
 ·have jP:=hI.boxes b bx aj h1 h2
  cases bx with
  |none=>exact jP.elim
  |map l=>
   obtain⟨h0,es,clock,hh,hl,aQ⟩:=jP
   exact⟨h0,es,clock,Mk _ _ _ hh,hl,fun i x y hx hy=>⟨(aQ i x y hx hy).1,(aQ i x y hx hy).2.1,(aQ i x y hx hy).2.2.mono fun b o h=>⟨h,aN b o⟩⟩⟩
  |cells cs=>
   obtain⟨h0,c,t,hh,bz,hl,aQ⟩:=jP
   exact⟨h0,c,t,qf _ _ _ _ hh,bz,hl,fun j x y hx hy=>(aQ j x y hx hy).mono (fun b o h=>⟨h,iE b o⟩) (fun b o _=>aN b o) _ fun b' a' c' h=>gn _ b' a' c' h⟩
  |one s=>
   obtain⟨h0,c,t,hh,bz,hl,aQ⟩:=jP
   exact⟨h0,c,t,qf _ _ _ _ hh,bz,hl,fun y hy=>(aQ y hy).mono (fun b o h=>⟨h,iE b o⟩) (fun b o _=>aN b o) (fun _ _ h=>h) aH fun _ b' a' c' h=>gn _ b' a' c' h⟩
 ·have:=hI.bT b o h
  exact⟨this.1,this.2.1,by simp;exact this.2.2⟩
 ·have:=hI.cU b h
  exact⟨this.1,by simp;exact this.2⟩
 ·intro n x hx
  obtain⟨h0,vs,h1,h2⟩:=hI.js n x hx
  exact⟨h0,vs,fun i hi=>⟨(aN _ _).trans (h1 i hi).1,(h1 i hi).2⟩,fun i c ib=>(h2 i c ib).mono fun b o h=>⟨h,aN b o⟩⟩
theorem Inv.norm{w0:World}{an:S0}{e:Env}{a:Act}{g:Gh}(hI:Inv gl w0 an e a W g):Inv gl w0 an e a W {g with ow:=fun b=>if b<W.heap.size then g.ow b else none}:=by
 have gn:∀p b a' c,fe w0.heap.size W g p b a' c→fe w0.heap.size W {g with ow:=fun b=>if b<W.heap.size then g.ow b else none} p b a' c:=by
  rintro p b a' c ⟨h1,h2,h3,h4,h5⟩
  have aS:b<W.heap.size:=by obtain⟨cur,t,h,_⟩:=h4;exact fo h
  exact⟨by simp only;rw[if_pos aS];exact h1,h2,h3,h4,h5⟩
 refine⟨hI.below,hI.size,fun i s hs=>?_,hI.er,fun b bx aj h1 h2=>?_,hI.nodup,hI.eZ,hI.bT,hI.cU,hI.js,hI.defers,fun D ob hD=>(have h:=hI.ec D ob hD;⟨h.1,by simp only;split;exact h.2.1;rfl,h.2.2⟩),hI.cls,hI.iX⟩
 ·exact(hI.ai i s hs).mono (fun b o h=>⟨h,.refl _ _ _⟩) (fun _ _ _=>rfl) (fun _ _ h=>h) (.refl _) fun j b a' c h=>⟨gn _ b a' c h,.refl _ _ _⟩
 ·have jP:=hI.boxes b bx aj h1 h2
  cases bx with
  |none=>exact jP.elim
  |map l=>exact jP
  |cells cs=>
   obtain⟨h0,c,t,hh,bz,hl,aQ⟩:=jP
   exact⟨h0,c,t,hh,bz,hl,fun j x y hx hy=>(aQ j x y hx hy).ES (fun _ _ h=>h) (fun b' a' c' h=>gn _ b' a' c' h)⟩
  |one s=>
   obtain⟨h0,c,t,hh,bz,hl,aQ⟩:=jP
   exact⟨h0,c,t,hh,bz,hl,fun y hy=>(aQ y hy).mono (fun b o h=>⟨h,.refl _ _ _⟩) (fun _ _ _=>rfl) (fun _ _ h=>h) (.refl _) fun _ b' a' c' h=>⟨gn _ b' a' c' h,.refl _ _ _⟩⟩
def KO:SV→Bool
 | .own _ _=>false
 | .bj _ _=>false
 |_=>true
theorem aG.free{w:World}{St:Nat→Nat→Prop}{base:Nat}{O O':Nat→Nat→Nat→Prop}{x:SV}{v:Value}(r:aG w St base O x v)(h:KO x=true):aG w St base O' x v:=by
 cases r with
 |d _ x v hd=>exact .d _ x v hd
 |own=>cases h
 |full _ sz L g hd=>exact .full _ sz L g hd
 |ref _ cs off b o vs cD aN hc=>exact .ref _ cs off b o vs cD aN hc
 |ev _ n sz cs b cap vs cD hn hm aN hc=>exact .ev _ n sz cs b cap vs cD hn hm aN hc
 |aE _ x off b o vs hf aN hc=>exact .aE _ x off b o vs hf aN hc
 |dg _ f first cap fv cv hf hc rf rc=>exact .dg _ f first cap fv cv hf hc rf rc
 |bj=>cases h
 |mp _ l r es clock hh hs hl hc=>exact .mp _ l r es clock hh hs hl hc
 |undef _ v=>exact .undef _ _
def rC(n:Nat):Slot→Bool
 | .v x=>KO x&&x.mM&&x.au
 | .p b _=>Nat.blt b n
 | .m b=>Nat.blt b n
 |_=>false
def jJ(n:Nat):af→Bool
 | .one (.p b _)=>Nat.blt b n
 | .one (.m b)=>Nat.blt b n
 | .one _=>false
 | .cells cs=>cs.all fun x=>x.mM&&x.au
 |_=>true
def yX:Slot→Bool
 | .v _=>false
 |_=>true
end
end Go.Proofs.Ytaknajjmldngiaa.Ab
set_option linter.unusedVariables false
set_option linter.unusedSimpArgs false
namespace Go.Proofs.Ytaknajjmldngiaa.Ab
open Go Go.RowKit
section
variable{P:Program}{gl:Nat→Option D}{hh:Hints}{n:Nat}
def Ex.code:Ex→Option Code
 | .normal =>none
 | .exit i=>some (.exit i)
 | .ret =>some .ret
theorem RG{n:Nat}{l:List af}(h:l.all (jJ n)=true){i:Nat}{bx:af}(hi:l[i]? =some bx):jJ n bx=true:=List.all_eq_true.1 h bx (List.mem_of_getElem? hi)
theorem mI.cut{base:Nat}{w:World}{g:Gh}{n b:Nat}{bx:af}{aj:Nat}(r:mI base w g b bx aj)(h:jJ n bx=true):mI base w (g.cut n) b bx aj:=by
 cases bx with
 |none=>exact r.elim
 |map l=>exact r
 |cells cs=>
  obtain⟨h0,c,t,hh,bz,hl,aQ⟩:=r
  exact⟨h0,c,t,hh,bz,hl,fun j x y hx hy=>(aQ j x y hx hy).ES (fun _ _ h=>h) (fun b' a' c' h=>Ed h)⟩
 |one s=>
  obtain⟨h0,c,t,hh,bz,hl,aQ⟩:=r
  refine⟨h0,c,t,hh,bz,hl,fun y hy=>?_⟩
  have:=aQ y hy
  cases s with
  |p b' off=>
   have hb:b'<n:=by simpa[jJ,Nat.blt_eq]using h
   cases this with
   |p _ _ _ g8 di=>exact .p _ _ _ _ ((yf hb).2 di)
  |m b'=>
   have hb:b'<n:=by simpa[jJ,Nat.blt_eq]using h
   cases this with
   |m _ _ g8 di=>exact .m _ _ _ ((yf hb).2 di)
  |_=>simp[jJ]at h
structure so(P:Program)(gl:Nat→Option D)(w0:World)(dk:S0)(St:Nat→Nat→Prop)(base l Dd:Nat)(rec:Loop)(sh:List Slot)(aC:Act)(I:List af→Prop)(Fr:Nat→Prop)(b5:Nat→Nat→Prop)(W:World)(ak:List af)(g:Gh):Prop where
 inv:Inv gl w0 dk ⟨sh,ak⟩ aC W g
 i:I ak
 low:ak.all (jJ ak.length)=true
 bx:∀b,some b∈g.bx→¬Fr b
 ow:∀b p,g.ow b=some p→b<W.heap.size∧¬Fr b
 st:∀b o,g.St b o→b5 b o∨¬Fr b
 vw:∀b o,St b o→b5 b o∧g.St b o
 jK:∀b o,b5 b o→(St b o∨Fr b)∧b<W.heap.size
 fr:∀b,Fr b→base≤b∧b<W.heap.size∧b≠l∧b≠Dd
 uV:W.heap[l]? =some (.loop rec)
 dd:W.heap[Dd]? =some (.deferred (some []))
 lo:∀b,b=l∨b=Dd→some b∉g.bx∧g.ow b=none∧∀o,¬g.St b o
theorem Jy{sh:List Slot}{m:Nat}(aH:sh.all (rC m)=true){ak:List af}{k:Nat}(oY:ak.all (jJ k)=true):Bg ⟨sh,ak⟩:=by
 refine⟨fun s hs=>?_,fun bx hb=>?_⟩
 ·have:=List.all_eq_true.1 aH s hs
  cases s with
  |v x=>simp only[rC,Bool.and_eq_true]at this;exact .v _ this.1.2 this.2
  |p b off=>exact .p _ _
  |m b=>exact .m _
  |_=>simp[rC]at this
 ·have:=List.all_eq_true.1 oY bx hb
  cases bx with
  |none=>trivial
  |map l=>trivial
  |cells cs=>
   simp only[jJ,List.all_eq_true,Bool.and_eq_true]at this
   exact⟨s5.2 fun x hx=>(this x hx).1,oD.2 fun x hx=>(this x hx).2⟩
  |one s=>
   cases s with
   |p b off=>exact .p _ _
   |m b=>exact .m _
   |_=>simp[jJ]at this
theorem so.EU{w0:World}{dk:S0}{St:Nat→Nat→Prop}{base l Dd:Nat}{rec:Loop}{sh:List Slot}{aC:Act}{I:List af→Prop}{Fr:Nat→Prop}{b5:Nat→Nat→Prop}{W:World}{ak:List af}{g:Gh}
  (h:so P gl w0 dk St base l Dd rec sh aC I Fr b5 W ak g){m:Nat}(aH:sh.all (rC m)=true)(wS:w0.heap.size≤base)(vz:l<base∧Dd<base)(fj:∀D o,dk.df D o→D<base){W':World}{k9:Nat→Prop}{nW:Nat→Nat→Prop}(hb:rk Fr b5 W W')
  (zH:base≤W.heap.size)(f1:∀b,k9 b→Fr b∨(W.heap.size≤b∧b<W'.heap.size))(f2:∀b,Fr b→k9 b)(p1:∀b o,b5 b o→nW b o)(p2:∀b o,nW b o→(b5 b o∨k9 b)∧b<W'.heap.size):
  so P gl w0 dk St base l Dd rec sh aC I k9 nW W' ak g:=by
 have aB:=hb.size
 have hI:=h.inv
 have pq:∀b,b<W.heap.size→¬Fr b→¬k9 b:=fun b aS hn hf=>(f1 b hf).elim hn fun h=>by omega
 have bm:∀b,b=l∨b=Dd→b<W.heap.size∧¬Fr b:=fun b hb=>by
  refine⟨?_,fun hf=>?_⟩
  ·rcases hb with rfl|rfl
   ·exact fo h.uV
   ·exact fo h.dd
  ·have:=h.fr b hf
   rcases hb with rfl|rfl
   ·exact this.2.2.1 rfl
   ·exact this.2.2.2 rfl
 have Lm:∀b,b<base→b<W.heap.size→W'.heap[b]? =W.heap[b]? :=fun b aS w6=>hb.aj b w6 fun hf=>by have:=(h.fr b hf).1;omega
 have bd:Inv gl w0 dk ⟨sh,ak⟩ aC W' g:=by
  refine hI.move (Jy aH h.low) rfl (hI.below.trans ⟨hb.os,hb.tape,hb.output,hb.size,fun k hk=>?_⟩) hb.size (fun b o v hs hc=>?_) (fun b hm=>hb.aj b (hI.cU b hm).2 (h.bx b hm)) (fun b p ho _ aS=>hb.aj b aS (h.ow b p ho).2) (fun D o hD=>?_)
  ·have:=hI.below.size
   exact Lm k (by omega) (by omega)
  ·rcases h.st b o hs with hp|hn
   ·exact hb.jK b o v hp hc
   ·rw[World.cell?_of_block (hb.aj b (hI.bT b o hs).2.2 hn)];exact hc
  ·have h1:=fo (hI.ec D o hD).2.2.1
   exact Lm D (fj D o hD) h1
 refine⟨bd,h.i,h.low,fun b hm=>pq b (hI.cU b hm).2 (h.bx b hm),fun b p ho=>?_,fun b o hs=>?_,fun b o hs=>⟨p1 b o (h.vw b o hs).1,(h.vw b o hs).2⟩,fun b o hp=>?_,fun b hf=>?_,?_,?_,h.lo⟩
 ·have:=h.ow b p ho
  exact⟨by omega,pq b this.1 this.2⟩
 ·rcases h.st b o hs with hp|hn
  ·exact .inl (p1 b o hp)
  ·exact .inr (pq b (hI.bT b o hs).2.2 hn)
 ·obtain⟨h1,h2⟩:=p2 b o hp
  refine⟨?_,h2⟩
  rcases h1 with h1|h1
  ·exact(h.jK b o h1).1.imp id (f2 b)
  ·exact .inr h1
 ·rcases f1 b hf with jb|jb
  ·have:=h.fr b jb;exact⟨this.1,by omega,this.2.2⟩
  ·exact⟨by omega,jb.2,fun e=>by have:=(bm b (.inl e)).1;omega,fun e=>by have:=(bm b (.inr e)).1;omega⟩
 ·rw[hb.aj l (bm l (.inl rfl)).1 (bm l (.inl rfl)).2];exact h.uV
 ·rw[hb.aj Dd (bm Dd (.inr rfl)).1 (bm Dd (.inr rfl)).2];exact h.dd
theorem aK.yE{W W':World}{St bA:Nat→Nat→Prop}(hc:∀b o v,St b o→W.cell? ⟨b,o,none⟩=some v→W'.cell? ⟨b,o,none⟩=some v∧bA b o){x:D}{v:Value}(r:aK W St x v):aK W' bA x v:=by
 induction r with
 |bool b=>exact .bool b
 |int k n hk=>exact .int k n hk
 |str s hs=>exact .str s hs
 |agg ds vs hf hl _ ih=>exact .agg ds vs hf hl ih
 |iT sz=>exact .iT sz
 |sl sz L b off cap vs bq hm aB hf aN _ ih=>exact .sl sz L b off cap vs bq hm aB hf (fun o ho=>hc _ _ _ (aN o ho).2 (aN o ho).1) ih
 |iU sz a cap ha=>exact .iU sz a cap ha
 |fn f=>exact .fn f
 |qi=>exact .qi
 |iface t x v _ ih=>exact .iface t x v ih
 |oN=>exact .oN
 |mA=>exact .mA
theorem aG.yE{W W':World}{St bA:Nat→Nat→Prop}{base:Nat}(hc:∀b o v,St b o→W.cell? ⟨b,o,none⟩=some v→W'.cell? ⟨b,o,none⟩=some v∧bA b o){O:Nat→Nat→Nat→Prop}(hO:∀b a c,¬O b a c){x:SV}{v:Value}(r:aG W St base O x v):
  x.mM=true→x.au=true→aG W' bA base (fun _ _ _=>False) x v:=by
 induction r with
 |d O x v hd=>exact fun _ _=>.d _ x v (hd.yE hc)
 |own O sz L g cap hd bq ho=>exact absurd ho (hO _ _ _)
 |full O sz L a hd=>exact fun _ _=>.full _ sz L a (hd.yE hc)
 |ref O cs off b o vs cD aN _ ih=>exact fun _ hr=>by cases hr
 |ev O n sz cs b cap vs cD hn hm aN _ ih=>exact fun _ hr=>by cases hr
 |aE O x off b o vs hf aN cJ=>exact fun _ _=>.aE _ x off b o vs hf (fun i hi=>hc _ _ _ (aN i hi).2 (aN i hi).1) fun i c hi=>(cJ i c hi).yE hc
 |dg O f first cap fv cv hf cz _ _ iV iW=>
  intro hn hr
  simp only[SV.mM,SV.au,Bool.and_eq_true]at hn hr
  exact .dg _ f first cap fv cv hf cz (fun i x v a b=>iV i x v a b (fun _ _ _ h=>h) (s5.1 hn.1 x (List.mem_of_getElem? a)) (oD.1 hr.1 x (List.mem_of_getElem? a))) (fun i x v a b=>iW i x v a b (fun _ _ _ h=>h) (s5.1 hn.2 x (List.mem_of_getElem? a)) (oD.1 hr.2 x (List.mem_of_getElem? a)))
 |bj O sz L g cap vs bq hm aB hf ho aN cJ=>exact absurd ho (hO _ _ _)
 |mp O l r es clock hh hs hl cJ=>exact fun hn=>by cases hn
 |undef O v=>exact fun _ _=>.undef _ v
def xc(dk:S0)(Fr:Nat→Prop)(b5:Nat→Nat→Prop)(W:World)(g:Gh)(l Dd:Nat)(rec:Loop):S0 where
 St:=fun b o=>dk.St b o∨b5 b o
 df:=fun D o=>dk.df D o∨(Fr D∧W.heap[D]? =some o)∨(D=l∧o=.loop rec)∨(D=Dd∧o=.deferred (some []))
 cl:=fun b o v=>(g.St b o∨b5 b o)∧W.cell? ⟨b,o,none⟩=some v
 sz:=W.heap.size
theorem AH(r:Loop):Ci (.loop r):=⟨rfl,fun _ _=>by simp⟩
theorem KP(d:Option (List Deferred)):Ci (.deferred d):=⟨rfl,fun _ _=>by simp⟩
theorem Inv.LV{w0:World}{dk:S0}{Fr:Nat→Prop}{b5:Nat→Nat→Prop}{W W1:World}{g g1:Gh}{l Dd:Nat}{rec yY:Loop}{e:Env}{a:Act}(hI:Inv gl w0 (xc dk Fr b5 W g l Dd rec) e a W1 g1)(hl:w0.heap.size≤l)(bm:l≠Dd)(YD:¬Fr l)
  (fj:∀D o,dk.df D o→D≠l)(Fh:∀o,¬(dk.St l o∨b5 l o)):Inv gl w0 (xc dk Fr b5 W g l Dd yY) e a (W1.putObj l (.loop yY)) g1:=by
 have hr:=hI.ec l (.loop rec) (.inr (.inr (.inl ⟨rfl,rfl⟩)))
 have h1:Inv gl w0 {xc dk Fr b5 W g l Dd rec with df:=fun D o=>dk.df D o∨(Fr D∧W.heap[D]? =some o)∨(D=Dd∧o=.deferred (some []))} e a W1 g1:=
  hI.qI hI.eZ (fun b o h=>(hI.bT b o h).1) (fun D o hD=>hI.ec D o (by
   rcases hD with h|h|h
   ·exact .inl h
   ·exact .inr (.inl h)
   ·exact .inr (.inr (.inr h)))) hI.cls hI.iX
 have h2:=h1.other hr.2.2.1 (AH _) (AH yY) hl (fun D ob hD=>by
  rcases hD with h|⟨h,_⟩|⟨h,_⟩
  ·exact fj D ob h
  ·exact fun e=>YD (e▸h)
  ·exact fun e=>bm (by rw[←e,h]))
 refine h2.qI h2.eZ (fun b o h=>(h2.bT b o h).1) (fun D o hD=>?_) h2.cls h2.iX
 rcases hD with h|h|⟨rfl,rfl⟩|h
 ·exact h2.ec D o (.inl h)
 ·exact h2.ec D o (.inr (.inl h))
 ·exact⟨hr.1,hr.2.1,World.putObj_heap_same (fo hr.2.2.1),fun x hx=>hr.2.2.2 x hx⟩
 ·exact h2.ec D o (.inr (.inr h))
theorem so.round(hm:P.follows .mixedOrders =true){w0:World}{dk:S0}{St:Nat→Nat→Prop}{base l Dd:Nat}{rec:Loop}{sh:List Slot}{aC:Act}{I:List af→Prop}{Fr:Nat→Prop}{b5:Nat→Nat→Prop}{W:World}{ak:List af}{g:Gh}
  (h:so P gl w0 dk St base l Dd rec sh aC I Fr b5 W ak g)(aH:sh.all (rC ak.length)=true)(wS:w0.heap.size≤l∧w0.heap.size≤Dd)(vz:l<base∧Dd<base∧l≠Dd)(fj:∀D o,dk.df D o→D<base∧D≠l∧D≠Dd)(o7:∀b o,dk.St b o→b<base∧b≠l∧b≠Dd)(bB:∀b o,St b o→b≠l∧b≠Dd)
  {ps:Nat}(GL:rec.tmps=aC.tmps)(Na:rec.params= #[ps])(Gy:rec.state=.ready)(hrn:rec.pending=none){d:D}{v:Value}(hd:aK W b5 d v){I':Ex→List af→Prop}
  (fL:∀(t:Nat)s,sh[t]? =some s→yX s=true→t∉b9 hh.gh rec.assign∧t∉b9 hh.gh rec.body∧t≠ps)
  (BV:aw P gl (aD P gl) hh rec.assign (fun x e1=>x=.normal ∧aw P gl (aD P gl) hh rec.body (fun x e2=>(e2.boxes.take ak.length).all (jJ ak.length)=true∧I' x (e2.boxes.take ak.length)) e1) ⟨bF sh (some ps) (.v (.d d)),ak⟩):
  ∃tmps,(Instr.yield l #[v]).run P W=.ok (.round l rec.fn tmps rec.assign rec.body) W∧∀n,RoundIn Fence.wide n P l rec.fn tmps rec.assign rec.body W fun e W'=>∃x:Ex,e=.returned (.bool x.code.isNone)∧rk (fun b=>¬Fr b) b5 W W'∧
   ∃cp g',cp.length=ak.length∧so P gl w0 dk St base l Dd {rec with state:=if x.code.isNone then .ready else .done,pending:=x.code} sh aC (I' x) Fr b5 W' cp g':=by
 have hI:=h.inv
 refine⟨_,run_yield h.uV (by rw[Na];rfl),fun n=>roundIn_of_wpIn trivial ?_⟩
 have Nb:=hI.defers
 have hlW:=fo h.uV
 have hdW:=fo h.dd
 have Fi:({tmps:=(rec.params.zip #[v]).foldl (fun tmps x=>tmps.setIfInBounds x.1 x.2) rec.tmps,defers:=[]}:Act)=wd (aC.put (some ps) v) []:=by
  rw[Na,GL]
  cases aC
  simp[wd,Act.put]
 show rec.assign.wpIn (Fence.wide.inRound l) n P _ {tmps:=(rec.params.zip #[v]).foldl (fun tmps x=>tmps.setIfInBounds x.1 x.2) rec.tmps,defers:=[]} W
 rw[Fi,←S1]
 have iE:∀b o,b5 b o→b≠l∧b≠Dd:=fun b o hp=>by
  rcases(h.jK b o hp).1 with hs|hf
  ·exact bB b o hs
  ·exact(h.fr b hf).2.2
 have bC:=hI.TX (S:=b5) (fun b o hp=>by
  rcases(h.jK b o hp).1 with hs|hf
  ·exact .inl (h.vw b o hs).2
  ·have jb:=h.fr b hf
   refine .inr ⟨by omega,jb.2.1,fun hm=>h.bx b hm hf,?_⟩
   cases qF:g.ow b with
   |none=>rfl
   |some p=>exact absurd hf (h.ow b p qF).2) (fun D o hD x hx=>by
  rcases(h.jK D x hx).1 with hs|hf
  ·exact(h.vw D x hs).2
  ·have:=(h.fr D hf).1
   have:=(fj D o hD).1
   omega)
 have cN:Inv gl w0 (xc dk Fr b5 W g l Dd rec) ⟨sh,ak⟩ aC W {g with St:=fun b o=>g.St b o∨b5 b o}:=by
  refine bC.qI (fun b o hs=>hs.imp (hI.eZ b o) id) (fun b o hs=>?_) (fun D o hD=>?_) (fun b o v hv=>hv) (Nat.le_refl _)
  ·rcases(bC.bT b o hs).1 with h1|h1
   ·exact .inl (.inl h1)
   ·exact .inr h1
  ·rcases hD with h1|⟨h1,h2⟩|⟨rfl,rfl⟩|⟨rfl,rfl⟩
   ·have:=bC.ec D o h1
    exact⟨this.1,this.2.1,this.2.2.1,fun x hx=>.inl (this.2.2.2 x hx)⟩
   ·refine⟨fun hm=>h.bx D hm h1,?_,h2,fun x hx=>?_⟩
    ·cases qF:g.ow D with
     |none=>rfl
     |some p=>exact absurd h1 (h.ow D p qF).2
    ·rcases hx with hx|hx
     ·exact .inr ((h.st D x hx).resolve_right fun hn=>hn h1)
     ·exact .inr hx
   ·have:=h.lo D (.inl rfl)
    exact⟨this.1,this.2.1,h.uV,fun x hx=>hx.elim (fun hx=>absurd hx (this.2.2 x)) fun hx=>absurd rfl (iE D x hx).1⟩
   ·have:=h.lo D (.inr rfl)
    exact⟨this.1,this.2.1,h.dd,fun x hx=>hx.elim (fun hx=>absurd hx (this.2.2 x)) fun hx=>absurd rfl (iE D x hx).2⟩
 have eQ:Inv gl w0 (xc dk Fr b5 W g l Dd rec) ⟨bF sh (some ps) (.v (.d d)),ak⟩ (aC.put (some ps) v) W {g with St:=fun b o=>g.St b o∨b5 b o}:=
  cN.value (dst:=some ps) (.v _ _ _ (.d _ _ _ (hd.mono fun b o hp=>⟨.inr hp,rfl⟩)))
 refine nJ hm rec.assign eQ (m5 _ BV) fun x e1 a1 w1 g1 Cj YE jw=>?_
 obtain⟨⟨rfl,yy⟩,Ml⟩:=YE
 have xA:=Cj.ec l (.loop rec) (.inr (.inr (.inl ⟨rfl,rfl⟩)))
 refine⟨_,run_beginRound xA.2.2.1 Gy,?_⟩
 have Nc:¬Fr l:=fun hf=>(h.fr l hf).2.2.1 rfl
 have hFD:¬Fr Dd:=fun hf=>(h.fr Dd hf).2.2.2 rfl
 have Fh:∀o,¬(dk.St l o∨b5 l o):=fun o hx=>hx.elim (fun hx=>(o7 l o hx).2.1 rfl) (fun hx=>(iE l o hx).1 rfl)
 have pD:=Cj.LV (yY:={rec with state:=.busy}) wS.1 vz.2.2 Nc (fun D o hD=>(fj D o hD).2.1) Fh
 refine nJ hm rec.body pD (m5 _ yy) fun x e2 a2 w3 g2 Ck YF lT=>?_
 obtain⟨⟨LX,xp⟩,Mm⟩:=YF
 have GM:=Ck.ec l _ (.inr (.inr (.inl ⟨rfl,rfl⟩)))
 have j5:=run_endRound (P:=P) x.code GM.2.2.1
 have ld:=Ck.LV (yY:={rec with state:=if x.code.isNone then .ready else .done,pending:=x.code}) wS.1 vz.2.2 Nc (fun D o hD=>(fj D o hD).2.1) Fh
 have WT:W.heap.size≤w3.heap.size:=Ck.iX
 have xB:rk (fun b=>¬Fr b) b5 W (w3.putObj l (.loop {rec with state:=if x.code.isNone then .ready else .done,pending:=x.code})):=by
  refine⟨ld.below.os.trans hI.below.os.symm,ld.below.tape.trans hI.below.tape.symm,ld.below.output.trans hI.below.output.symm,by simp;exact WT,fun b hb hf=>?_,fun b o v hp hc=>(ld.cls b o v ⟨.inr hp,hc⟩).2⟩
  have hf:=Classical.not_not.1 hf
  have pE:W.heap[b]? =some W.heap[b]:=by simp[hb]
  rw[pE]
  exact(ld.ec b _ (.inr (.inl ⟨hf,pE⟩))).2.2.1
 have vn:ak.length≤e2.boxes.length:=Nat.le_trans Ml.2.1 Mm.2.1
 have gp:(e2.boxes.take ak.length).length =ak.length:=by simp;omega
 let W4:=w3.putObj l (.loop {rec with state:=if x.code.isNone then .ready else .done,pending:=x.code})
 let gc:Gh:=g2.cut ak.length
 have qf:∀b o v,g.St b o→W.cell? ⟨b,o,none⟩=some v→g2.St b o∧W4.cell? ⟨b,o,none⟩=some v:=fun b o v hs hc=>ld.cls b o v ⟨.inl hs,hc⟩
 have WU:∀b o,St b o→g2.St b o:=fun b o hs=>ld.eZ b o (.inr (h.vw b o hs).1)
 have jL:∀(i:Nat)s,sh[i]? =some s→bM w0.heap.size W4 gc (fun _ _ _ _=>False) s (aC.tmps.getD i undef):=by
  intro i s hs
  have uK:=List.all_eq_true.1 aH s (List.mem_of_getElem? hs)
  have h0:=hI.ai i s hs
  have ptr:yX s=true→(∀z,s≠.v z)→(∀z,s≠.t z)→s.stays=s→bM w0.heap.size W4 gc (fun _ _ _ _=>False) s (aC.tmps.getD i undef):=by
   intro hp hv ht F4
   obtain⟨n1,n2,n3⟩:=fL i s hs hp
   have jO:i<aC.tmps.size:=by rw[hI.size];exact(List.getElem?_eq_some_iff.1 hs).1
   have YG:a2.tmps.getD i undef=aC.tmps.getD i undef:=by
    rw[lT i n2,jw i n1,s8 _ _ _ _ jO]
    rw[if_neg (by simp;exact fun e=>n3 e.symm)]
   have TY:(e2.ai.getD i (.v .undef)).stays =s:=by
    rw[Mm.2.2.1 i n2,Ml.2.2.1 i n1]
    have:(bF sh (some ps) (.v (.d d))).getD i (.v .undef)=s:=by
     simp only[bF]
     rw[lr (fun e=>n3 e.symm),List.getD_eq_getElem?_getD,hs];rfl
    rw[this,F4]
   have eP:e2.ai.getD i (.v .undef)=s:=by
    revert TY
    cases s with
    |v z=>exact absurd rfl (hv z)
    |t z=>exact absurd rfl (ht z)
    |_=>cases e2.ai.getD i (.v .undef)<;>simp[Slot.stays]<;>intros<;>simp_all
   have h1:=kK ld i
   rw[eP]at h1
   have vq:a2.eval (.tmp i)=a2.tmps.getD i undef:=rfl
   rw[vq,YG]at h1
   exact x5 h0 h1 (by rw[hI.er];exact Nat.le_refl _) _ hv ht
  cases s with
  |v z=>
   simp only[rC,Bool.and_eq_true]at uK
   exact .v _ _ _ ((h0.jG.free (O':=fun _ _ _=>False) uK.1.1).yE (fun b o v hs hc=>(qf b o v hs hc).symm) (fun _ _ _ h=>h) uK.1.2 uK.2)
  |p b off=>exact ptr rfl (by simp) (by simp) rfl
  |m b=>exact ptr rfl (by simp) (by simp) rfl
  |_=>simp[rC]at uK
 have Nd:∀b,b<W.heap.size→b<W4.heap.size:=fun b hb=>Nat.lt_of_lt_of_le hb xB.size
 have sq:=ld.norm
 have YH:Inv gl w0 dk ⟨sh,e2.boxes.take ak.length⟩ aC W4 {g2.cut ak.length with ow:=fun b=>if b<W4.heap.size then g2.ow b else none}:=by
  refine⟨sq.below,hI.size,fun i s hs=>?_,?_,fun b bx aj h1 h2=>?_,fun i j aj h1 h2=>sq.nodup i j aj (v3 h1).2 (v3 h2).2,fun b o hs=>sq.eZ b o (.inl hs),fun b o hs=>?_,fun b hb=>sq.cU b (qZ hb),sq.js,hI.defers,
   fun D o hD=>?_,fun b o v hv=>?_,Nat.le_trans hI.iX (Nat.le_trans Ck.iX (by simp[W4]))⟩
  ·exact(jL i s hs).mono (fun b o h=>⟨h,.refl _ _ _⟩) (fun _ _ _=>rfl) (fun _ _ h=>h) (.refl _) fun _ _ _ _ h=>h.elim
  ·show(g2.bx.take ak.length).length =_
   have:=ld.er
   rw[List.length_take,List.length_take,this]
  ·obtain⟨aS,h2⟩:=v3 h2
   have rY:e2.boxes[b]? =some bx:=by
    simp only[List.getElem?_take]at h1
    rw[if_pos aS]at h1;exact h1
   exact(sq.boxes b bx aj rY h2).cut (RG LX h1)
  ·obtain⟨h1,h2,h3⟩:=sq.bT b o hs
   refine⟨?_,fun hm=>h2 (qZ hm),h3⟩
   rcases h1 with(h1|h1)|h1
   ·exact .inl h1
   ·exact(bC.bT b o (.inr h1)).1
   ·exact .inr h1
  ·have tX:=sq.ec D o (.inl hD)
   refine⟨fun hm=>tX.1 (qZ hm),tX.2.1,tX.2.2.1,fun x hx=>?_⟩
   rcases tX.2.2.2 x hx with h1|h1
   ·exact h1
   ·rcases(h.jK D x h1).1 with hs|hf
    ·exact(hI.ec D o hD).2.2.2 x (h.vw D x hs).2
    ·have:=(h.fr D hf).1
     have:=(fj D o hD).1
     omega
  ·have:=hI.cls b o v hv
   exact sq.cls b o v ⟨.inl this.1,this.2⟩
 have hR:so P gl w0 dk St base l Dd {rec with state:=if x.code.isNone then .ready else .done,pending:=x.code} sh aC (I' x) Fr b5 W4 (e2.boxes.take ak.length) {g2.cut ak.length with ow:=fun b=>if b<W4.heap.size then g2.ow b else none}:=by
  have nj:∀b,Fr b→∃o,W.heap[b]? =some o:=fun b hf=>⟨W.heap[b]'(h.fr b hf).2.1,by simp⟩
  have lR:∀b,b=l∨b=Dd→∃o,(xc dk Fr b5 W g l Dd {rec with state:=if x.code.isNone then .ready else .done,pending:=x.code}).df b o:=fun b hb=>by
   rcases hb with rfl|rfl
   ·exact⟨_,.inr (.inr (.inl ⟨rfl,rfl⟩))⟩
   ·exact⟨_,.inr (.inr (.inr ⟨rfl,rfl⟩))⟩
  refine⟨YH,xp,by rw[gp];exact LX,fun b hm hf=>?_,fun b p ho=>?_,fun b o hs=>?_,fun b o hs=>⟨(h.vw b o hs).1,WU b o hs⟩,fun b o hp=>⟨(h.jK b o hp).1,Nd b (h.jK b o hp).2⟩,fun b hf=>⟨(h.fr b hf).1,Nd b (h.fr b hf).2.1,(h.fr b hf).2.2⟩,(ld.ec l _ (.inr (.inr (.inl ⟨rfl,rfl⟩)))).2.2.1,(ld.ec Dd _ (.inr (.inr (.inr ⟨rfl,rfl⟩)))).2.2.1,fun b hb=>?_⟩
  ·obtain⟨o,ho⟩:=nj b hf
   exact(ld.ec b o (.inr (.inl ⟨hf,ho⟩))).1 (qZ hm)
  ·simp only at ho
   split at ho
   ·refine⟨by assumption,fun hf=>?_⟩
    obtain⟨o,pE⟩:=nj b hf
    rw[(ld.ec b o (.inr (.inl ⟨hf,pE⟩))).2.1]at ho
    cases ho
   ·cases ho
  ·by_cases hf:Fr b
   ·left
    obtain⟨ob,pE⟩:=nj b hf
    rcases(ld.ec b ob (.inr (.inl ⟨hf,pE⟩))).2.2.2 o hs with h1|h1
    ·have:=(o7 b o h1).1
     have:=(h.fr b hf).1
     omega
    ·exact h1
   ·exact .inr hf
  ·obtain⟨o,ho⟩:=lR b hb
   have tX:=ld.ec b o ho
   refine⟨fun hm=>tX.1 (qZ hm),?_,fun x hx=>?_⟩
   ·simp only
    split
    ·exact tX.2.1
    ·rfl
   ·rcases tX.2.2.2 x hx with h1|h1
    ·rcases hb with rfl|rfl
     ·exact(o7 _ x h1).2.1 rfl
     ·exact(o7 _ x h1).2.2 rfl
    ·rcases hb with rfl|rfl
     ·exact(iE _ x h1).1 rfl
     ·exact(iE _ x h1).2 rfl
 have fin:∃x':Ex,(Ending.returned (Value.bool x.code.isNone))=.returned (.bool x'.code.isNone)∧rk (fun b=>¬Fr b) b5 W W4∧
  ∃cp g',cp.length=ak.length∧so P gl w0 dk St base l Dd {rec with state:=if x'.code.isNone then .ready else .done,pending:=x'.code} sh aC (I' x') Fr b5 W4 cp g':=⟨x,rfl,xB,_,_,gp,hR⟩
 cases x with
 |normal=>exact⟨_,_,j5,fin⟩
 |exit i=>exact⟨_,_,j5,fin⟩
 |ret=>exact⟨_,_,j5,fin⟩
end
end Go.Proofs.Ytaknajjmldngiaa.Ab
