/-
  THE ABSTRACT WALK: what is known is seen in another way.
-/
import Derived.Test.YtaknajjmldngiaaGreatTb
import Derived.ChangeStays
import Derived.ChangeSame
import Derived.OpenShut
import Derived.Carry
import Derived.Lib.LaidTab
import Derived.ControlIn
import Derived.OrdersIn
import Derived.TacticsIn
import Derived.RangeFuncCalls
import Derived.RangeFuncNested
import Derived.RangeFuncRecord
set_option linter.unusedVariables false
set_option linter.unusedSimpArgs false
namespace Go.Proofs.YtaknajjmldngiaaGreat.Ab
open Go Go.RowKit
def qb(n:Nat)(e e':Env):Prop:=∀i,i<n→e'.boxes.getD i .none =.none ∨(e.boxes.getD i .none ≠.none ∧(e'.boxes.getD i .none).isMap =(e.boxes.getD i .none).isMap)
theorem qb.refl(n:Nat)(e:Env):qb n e e:=fun i _=>by
 by_cases h:e.boxes.getD i .none =.none
 ·exact .inl h
 ·exact .inr ⟨h,rfl⟩
theorem qb.trans{n m:Nat}{e e1 e2:Env}(pP:n≤m)(h1:qb n e e1)(h2:qb m e1 e2):qb n e e2:=fun i hi=>by
 rcases h2 i (by omega)with h|⟨h3,h4⟩
 ·exact .inl h
 ·rcases h1 i hi with h|⟨h5,h6⟩
  ·exact absurd h h3
  ·exact .inr ⟨h5,h4.trans h6⟩
section
variable{P:Program}{gl:Nat→Option D}{w0:World}{ay:S0}{e:Env}{a:Act}{w:World}{g:Gh}
theorem MC{sz:Nat}:∀{L:List D}{i j:Nat}{x c:D},(∀x∈L,x.cells.length=sz)→L[i]? =some x→x.cells[j]? =some c→(fc L)[i*sz+j]? =some (.d c)
 |[],i,j,x,c,_,h,_=>by simp at h
 |y::L,0,j,x,c,hs,h,hc=>by
  simp at h;subst h
  simp only[fc,Nat.zero_mul,Nat.zero_add]
  rw[List.getElem?_append_left (by simp[(List.getElem?_eq_some_iff.1 hc).1]),List.getElem?_map,hc];rfl
 |y::L,i+1,j,x,c,hs,h,hc=>by
  have hy:=hs y (by simp)
  simp only[fc]
  rw[List.getElem?_append_right (by simp[hy,Nat.succ_mul];omega)]
  have:(i+1)*sz+j-(y.cells.map SV.d).length =i*sz+j:=by simp[hy,Nat.succ_mul];omega
  rw[this]
  exact MC (fun x hx=>hs x (by simp[hx])) (by simpa using h) hc
theorem FU{sz:Nat}:∀{L:List D},(∀x∈L,x.cells.length=sz)→(fc L).length =L.length*sz
 |[],_=>by simp[fc]
 |y::L,hs=>by
  simp only[fc,List.length_append,List.length_map,List.length_cons,hs y (by simp),Nat.succ_mul]
  rw[FU fun x hx=>hs x (by simp[hx])];omega
theorem Nk{sz:Nat}{L:List D}(hs:∀x∈L,x.cells.length=sz){o:Nat}{y:SV}(h:(fc L)[o]? =some y):∃i x j c,L[i]? =some x∧x.cells[j]? =some c∧o=i*sz+j∧y=.d c:=by
 have ho:o<L.length*sz:=by rw[←FU hs];exact(List.getElem?_eq_some_iff.1 h).1
 have aQ:0<sz:=by
  rcases Nat.eq_zero_or_pos sz with h0|h0
  ·subst h0;simp at ho
  ·exact h0
 have hq:o / sz<L.length:=Nat.div_lt_of_lt_mul (by rw[Nat.mul_comm];exact ho)
 have wT:=Nat.mod_lt o aQ
 have hc:(L[o / sz]).cells[o % sz]? =some ((L[o / sz]).cells[o % sz]'(by rw[hs _ (List.getElem_mem hq)];exact wT)):=by simp
 have heq:o / sz*sz+o % sz=o:=by rw[Nat.mul_comm];exact Nat.div_add_mod o sz
 refine⟨o / sz,L[o / sz],o % sz,_,List.getElem?_eq_getElem hq,hc,heq.symm,?_⟩
 have:=MC hs (List.getElem?_eq_getElem hq) hc
 rw[heq,h]at this
 exact Option.some.inj this
theorem Yp(hI:Inv gl w0 ay e a w g){t:Nat}{x:SV}(hx:e.an.getD t (.v .undef)=.v x)(hm:∃sz L,x=.cA sz L):
  ∃sz L g',x=.cA sz L∧Inv gl w0 ay ⟨e.an.set t (.a e.boxes.length L.length sz),e.boxes++[.cells (fc L)]⟩ a w g':=by
 have hs:=lL hI t
 rw[hx]at hs
 have hv:=hs.ka
 have Ec:∀(y:Option Nat)(i:Nat)ao,(g.bx++[y])[i]? =some (some ao)→(i<e.boxes.length∧g.bx[i]? =some (some ao))∨(i=e.boxes.length∧y=some ao):=by
  intro y i ao h
  rw[List.getElem?_append,hI.fo]at h
  split at h
  ·exact .inl ⟨by assumption,h⟩
  ·rename_i hi
   right
   have:i-e.boxes.length=0:=by
    rcases Nat.eq_zero_or_pos (i-e.boxes.length)with h0|h0
    ·exact h0
    ·rw[List.getElem?_eq_none (by simp;omega)]at h;cases h
   rw[this]at h
   simp at h
   exact⟨by omega,h⟩
 have build:∀(L:List D)(sz:Nat)(y:Option Nat)(g':Gh),g'.bx=g.bx++[y]→g'.St=g.St→Ext w0.heap.size w g w g' (fun p=>∃j,p=.s t j)→
   (∀(i j:Nat)ao,g'.bx[i]? =some (some ao)→g'.bx[j]? =some (some ao)→i=j)→(∀b,y=some b→w0.heap.size≤b∧b<w.heap.size∧∀o,¬g.St b o)→
   cH w0.heap.size w g' (gJ w0.heap.size w g' t) (.a e.boxes.length L.length sz) (a.tmps.getD t undef)→(∀ao,y=some ao→nG w0.heap.size w g' e.boxes.length (.cells (fc L)) ao)→
   Inv gl w0 ay ⟨e.an.set t (.a e.boxes.length L.length sz),e.boxes++[.cells (fc L)]⟩ a w g':=by
  intro L sz y g' dQ b4 hX lY hy oq aeH
  refine⟨hI.below,by simp[hI.size],fun i s gT=>?_,by rw[dQ];simp[hI.fo],fun b bx ao h1 h2=>?_,lY,fun b o h=>by rw[b4];exact hI.fT b o h,fun b o h=>?_,fun b h=>?_,hI.jK.ext hX,hI.defers,fun D o hD=>(have h:=hI.fe D o hD;have k:=hX.df D o h.1 h.2.1 h.2.2.1;⟨k.2.1,k.2.2.1,k.1,fun x hx=>h.2.2.2 x (k.2.2.2 x hx)⟩),fun b o v hv=>(have h:=hI.cls b o v hv;⟨(hX.st b o h.1).1,(hX.st b o h.1).2.1.trans h.2⟩),hI.jv⟩
  ·rw[List.getElem?_set]at gT
   split at gT
   ·rename_i lC
    subst lC
    split at gT
    ·cases gT;exact oq
    ·cases gT
   ·rename_i lC
    exact hX.slot (fun j=>by rintro⟨j',hj⟩;cases hj;exact lC rfl) (hI.an i s gT)
  ·rw[dQ]at h2
   rcases Ec y b ao h2 with⟨aV,h3⟩|⟨rfl,h3⟩
   ·simp only at h1
    rw[List.getElem?_append_left aV]at h1
    exact hX.box (fun j=>by rintro⟨j',hj⟩;cases hj) rfl (hI.boxes b bx ao h1 h3)
   ·simp at h1
    subst h1
    exact aeH ao h3
  ·rw[b4]at h
   refine⟨(hI.cP b o h).1,fun hm=>?_,(hI.cP b o h).2.2⟩
   rw[dQ]at hm
   rcases List.mem_append.1 hm with hm|hm
   ·exact(hI.cP b o h).2.1 hm
   ·simp at hm
    exact(hy b hm.symm).2.2 o h
  ·rw[dQ]at h
   rcases List.mem_append.1 h with h|h
   ·exact hI.eb b h
   ·simp at h
    exact⟨(hy b h.symm).1,(hy b h.symm).2.1⟩
 obtain⟨sz,L,rfl⟩:=hm
 have xz:a.eval (.tmp t)=a.tmps.getD t undef:=rfl
 rw[xz]at hv
 generalize ew:a.tmps.getD t undef=v at hv
 cases hv with
 |cA _ _ _ gg cap vs b9 hm aQ hf ho bF hc=>
  obtain⟨o1,o2,o3,⟨cur,te,o4,qN⟩,o5⟩:=ho
  let g':Gh:={g with bx:=g.bx++[some gg]}
  have hX:Ext w0.heap.size w g w g' (fun p=>∃j,p=.s t j):=by
   refine⟨fun D ob hb dH h=>⟨h,(fun hm=>by
    rcases List.mem_append.1 hm with hm|hm
    ·exact hb hm
    ·simp at hm
     subst hm
     rw[o1]at dH
     cases dH),dH,fun _ h=>h⟩,fun _ _ h=>⟨h,.refl _ _ _⟩,fun _ _ _=>rfl,fun i ao h=>?_,fun p b a' c hp cC=>⟨?_,.refl _ _ _⟩,.refl _⟩
   ·show(g.bx++[some gg])[i]? =_
    rw[List.getElem?_append_left (List.getElem?_eq_some_iff.1 h).1];exact h
   ·obtain⟨p1,p2,p3,p4,p5⟩:=cC
    refine⟨p1,p2,fun hm=>?_,p4,p5⟩
    rcases List.mem_append.1 hm with hm|hm
    ·exact p3 hm
    ·simp at hm
     subst hm
     rw[o1]at p1
     cases p1
     exact hp ⟨0,rfl⟩
  have hlen:(fc L).length =L.length*sz:=FU aQ
  have aeI:L.length*sz≤cap*sz:=Nat.mul_le_mul_right _ b9
  refine⟨sz,L,g',rfl,build L sz (some gg) g' rfl rfl hX ?_ ?_ ?_ ?_⟩
  ·intro i j ao h1 h2
   have no:∀(i:Nat),g.bx[i]? =some (some gg)→False:=fun i h=>o3 (List.mem_of_getElem? h)
   rcases Ec (some gg) i ao h1 with⟨h3,h4⟩|⟨h3,h4⟩
   ·rcases Ec (some gg) j ao h2 with⟨h5,h6⟩|⟨h5,h6⟩
    ·exact hI.nodup i j ao h4 h6
    ·cases h6;exact(no i h4).elim
   ·rcases Ec (some gg) j ao h2 with⟨h5,h6⟩|⟨h5,h6⟩
    ·cases h4;exact(no j h6).elim
    ·omega
  ·intro b hb
   cases hb
   exact⟨o2,(Array.getElem?_eq_some_iff.1 o4).1,fun o=>o5 o (Nat.zero_le _)⟩
  ·rw[ew]
   refine .a _ _ _ _ _ (Nat.le_trans b9 hm) ⟨gg,cap,?_,b9,rfl,hm,cur,te,o4,qN⟩
   show(g.bx++[some gg])[e.boxes.length]? =_
   rw[←hI.fo];simp
  ·intro ao c7
   cases c7
   have oG:∀(o:Nat)y,o<(fc L).length →cur[o]? =some y→y=vs o:=by
    intro o y ho hy
    have h1:=bF o (by rw[←hlen];exact ho)
    rw[cell_of_row w gg o cur te (0,0) o4,hy]at h1
    exact Option.some.inj h1
   refine⟨o2,cur,te,o4,fun j y hj hy=>?_,by rw[hlen,qN];exact aeI,fun j x y hx hy=>?_⟩
   ·have kh:j<(fc L).length :=hj
    obtain⟨i,x,k,c,h1,h2,rfl,_⟩:=Nk aQ (List.getElem?_eq_getElem kh)
    rw[oG _ y kh hy]
    exact(hc i x k c h1 h2).rG (hf x (List.mem_of_getElem? h1) c (List.mem_of_getElem? h2))
   ·have kh:=(List.getElem?_eq_some_iff.1 hx).1
    obtain⟨i,x',k,c,h1,h2,rfl,rfl⟩:=Nk aQ hx
    rw[oG _ y kh hy]
    exact .d _ _ _ (hc i x' k c h1 h2)
theorem CY(b:Nat)(r:Nat→SV)(rm:SV)(ts:List Nat):∀(l:List Slot)(k i:Nat),(lj b r rm ts l k)[i]? =(l[i]?).map fun s=>bif ts.contains (k+i)then y7 b r rm s else s
 |[],_,_=>by simp[lj]
 |s::l,k,i=>by
  cases i with
  |zero=>simp[lj]
  |succ i=>
   simp only[lj,List.getElem?_cons_succ]
   rw[CY b r rm ts l (k+1) i,show k+1+i=k+(i+1) by omega]
theorem yb(b:Nat)(r:Nat→SV)(rm:SV)(ts:List Nat):∀(l:List Slot)(k:Nat),(lj b r rm ts l k).length =l.length
 |[],_=>rfl
 |_::l,k=>by simp[lj,yb b r rm ts l (k+1)]
theorem LY{b:Nat}{ts:List Nat}:∀{l:List Slot}{k:Nat},rU b ts l k=true→∀(i:Nat)s,l[i]? =some s→ts.contains (k+i)=false→s.has b=false
 |[],_,_,i,s,h,_=>by simp at h
 |s'::l,k,hk,i,s,h,hc=>by
  simp only[rU,Bool.and_eq_true]at hk
  cases i with
  |zero=>
   simp at h;subst h
   have:=hk.1
   rw[Nat.add_zero]at hc
   rw[hc]at this
   simpa using this
  |succ i=>exact LY hk.2 i s (by simpa using h) (by rw[show k+1+i=k+(i+1) by omega];exact hc)
theorem CS{b:Nat}:∀{l:List af},pg b l=true→∀(i:Nat)s,l[i]? =some (.one s)→s.has b=false
 |[],_,i,s,h=>by simp at h
 |x::l,hk,i,s,h=>by
  cases i with
  |zero=>
   simp at h;subst h
   simp only[pg,Bool.and_eq_true]at hk
   simpa using hk.1
  |succ i=>
   have ef:pg b l=true:=by cases x<;>simp only[pg,Bool.and_eq_true]at hk<;>first|exact hk|exact hk.2
   exact CS ef i s (by simpa using h)
theorem Gg{b:Nat}:∀{l:List Slot},Slot.tC b l=false→∀(i:Nat)s,l[i]? =some s→s.has b=false
 |[],_,i,s,h=>by simp at h
 |x::l,hk,i,s,h=>by
  simp only[Slot.tC,Bool.or_eq_false_iff]at hk
  cases i with
  |zero=>simp at h;subst h;exact hk.1
  |succ i=>exact Gg hk.2 i s (by simpa using h)
theorem cH.Pe{base:Nat}{g':Gh}{b:Nat}(b4:∀b' o,g.St b' o→g'.St b' o)(dQ:∀(i:Nat)ao,i≠b→g.bx[i]? =some (some ao)→g'.bx[i]? =some (some ao)){O:Nat→Nat→Nat→Nat→Prop}{s:Slot}{v:Value}
  (r:cH base w g O s v):∀{O':Nat→Nat→Nat→Nat→Prop},(∀j b a c,O j b a c→O' j b a c)→s.has b=false→cH base w g' O' s v:=by
 induction r with
 |v O x y h=>intro O' hO _;exact .v _ _ _ (h.mono (fun b o h=>⟨b4 b o h,.refl _ _ _⟩) (fun _ _ _=>rfl) _ (fun _ _ _ h=>⟨hO 0 _ _ _ h,.refl _ _ _⟩))
 |p O b' off ao h=>intro O' _ hh;exact .p _ _ _ _ (dQ _ _ (by simpa[Slot.has]using hh) h)
 |a O b' n sz v hm h=>intro O' _ hh;exact .a _ _ _ _ _ hm (by obtain⟨ao,cap,h1,h2,h3⟩:=h;exact⟨ao,cap,dQ _ _ (by simpa[Slot.has]using hh) h1,h2,h3⟩)
 |m O b' ao h=>intro O' _ hh;exact .m _ _ _ (dQ _ _ (by simpa[Slot.has]using hh) h)
 |c O f first cap fv cv hf hc _ _ jt ju=>
  intro O' _ hh
  simp only[Slot.has,Bool.or_eq_false_iff]at hh
  exact .c _ f first cap fv cv hf hc (fun i x v h1 h2=>jt i x v h1 h2 (fun _ _ _ _ h=>h) (Gg hh.1 i x h1)) (fun i x v h1 h2=>ju i x v h1 h2 (fun _ _ _ _ h=>h) (Gg hh.2 i x h1))
 |t O xs vs hl hc=>intro O' hO _;exact .t _ xs vs hl fun j x v h1 h2=>(hc j x v h1 h2).mono (fun b o h=>⟨b4 b o h,.refl _ _ _⟩) (fun _ _ _=>rfl) _ (fun _ _ _ h=>⟨hO j _ _ _ h,.refl _ _ _⟩)
def xA(l:List Slot):Option (Nat×SV)→List Slot
 |none=>l
 |some (t,x)=>l.set t (.v x)
theorem Gy(hI:Inv gl w0 ay e a w g){b:Nat}{ts:List Nat}{r:Nat→SV}{rm:SV}(jd:rU b ts e.an 0=true){S:Nat→Nat→Prop}(hS:∀b' o,S b' o→g.bx[b]? =some (some b'))
  {dq:List af}(iG:dq.length=e.boxes.length){ov:Option (Nat×SV)}{zQ:Nat→Option Pos}(sG:∀b',some b'∉g.bx→zQ b'=g.ow b')(g':Gh)(iH:g'={St:=fun b' o=>g.St b' o∨S b' o,bx:=g.bx.set b none,ow:=zQ})
  (aaU:∀(i:Nat)bx ao,i≠b→dq[i]? =some bx→g.bx[i]? =some (some ao)→(e.boxes[i]? =some bx∧∀s,bx=.one s→s.has b=false)∨nG w0.heap.size w g' i bx ao)
  (JU:∀t x,ov=some (t,x)→bd w g'.St w0.heap.size (gJ w0.heap.size w g' t 0) x (a.tmps.getD t undef))
  (hr:(∀(n sz:Nat)(v:Value),cH w0.heap.size w g (fun _ _ _ _=>False) (Slot.a b n sz) v→bd w g'.St w0.heap.size (fun _ _ _=>False) (r n) v)∧
    (∀(v:Value),cH w0.heap.size w g (fun _ _ _ _=>False) (Slot.m b) v→bd w g'.St w0.heap.size (fun _ _ _=>False) rm v)):
  Inv gl w0 ay ⟨(xA (lj b r rm ts e.an 0) ov),dq⟩ a w g':=by
 subst iH
 let g':Gh:={St:=fun b' o=>g.St b' o∨S b' o,bx:=g.bx.set b none,ow:=zQ}
 have JV:∀b' o,S b' o→some b'∈g.bx:=fun b' o h=>List.mem_of_getElem? (hS b' o h)
 have dQ:∀(i:Nat)ao,i≠b→g.bx[i]? =some (some ao)→g'.bx[i]? =some (some ao):=fun i ao hi h=>by
  show(g.bx.set b none)[i]? =_
  rw[List.getElem?_set_ne (fun h=>hi h.symm)];exact h
 have Bs:∀(i:Nat)ao,g'.bx[i]? =some (some ao)→i≠b∧g.bx[i]? =some (some ao):=fun i ao h=>by
  have h:(g.bx.set b none)[i]? =some (some ao):=h
  rw[List.getElem?_set]at h
  split at h
  ·split at h<;>simp at h
  ·rename_i hi;exact⟨fun h=>hi h.symm,h⟩
 have eD:∀b',some b'∈g'.bx→some b'∈g.bx:=fun b' h=>by
  obtain⟨i,hi⟩:=List.mem_iff_getElem?.1 h
  exact List.mem_of_getElem? (Bs i b' hi).2
 have gZ:∀p b' a' c,ga w0.heap.size w g p b' a' c→ga w0.heap.size w g' p b' a' c:=by
  rintro p b' a' c ⟨h1,h2,h3,h4,h5⟩
  exact⟨(sG b' h3).trans h1,h2,fun hm=>h3 (eD b' hm),h4,fun o ho=>by rintro(h|h);exact h5 o ho h;exact h3 (JV b' o h)⟩
 have b4:∀b' o,g.St b' o→g'.St b' o:=fun _ _ h=>.inl h
 have jb:(xA (lj b r rm ts e.an 0) ov).length =e.an.length:=by
  cases ov with
  |none=>exact yb _ _ _ _ _ _
  |some p=>simp[xA,yb]
 refine⟨hI.below,by rw[jb];exact hI.size,fun i s hs=>?_,by simp[hI.fo,iG],fun i bx ao h1 h2=>?_,fun i j ao h1 h2=>hI.nodup i j ao (Bs i ao h1).2 (Bs j ao h2).2,fun b' o h=>.inl (hI.fT b' o h),fun b' o h=>?_,fun b' h=>hI.eb b' (eD b' h),?_,hI.defers,fun D o hD=>(have h:=hI.fe D o hD;⟨fun hm=>h.1 (eD D hm),(sG D h.1).trans h.2.1,h.2.2.1,fun x hx=>h.2.2.2 x (hx.elim id fun e=>absurd (JV D x e) h.1)⟩),fun b o v hv=>(have h:=hI.cls b o v hv;⟨.inl h.1,h.2⟩),hI.jv⟩
 ·have hs:(∃x,ov=some (i,x)∧s=.v x)∨(lj b r rm ts e.an 0)[i]? =some s:=by
   cases PB:ov with
   |none=>rw[PB]at hs;exact .inr hs
   |some p=>
    obtain⟨t,x⟩:=p
    rw[PB]at hs
    simp only[xA,List.getElem?_set]at hs
    split at hs
    ·rename_i lC
     subst lC
     split at hs
     ·cases hs;exact .inl ⟨x,rfl,rfl⟩
     ·cases hs
    ·exact .inr hs
  rcases hs with⟨x,hx,rfl⟩|hs
  ·exact .v _ _ _ (JU i x hx)
  simp only[CY,Option.map_eq_some_iff,Nat.zero_add]at hs
  obtain⟨s0,lB,rfl⟩:=hs
  have h0:=hI.an i s0 lB
  have eQ:s0.has b=false→cH w0.heap.size w g' (gJ w0.heap.size w g' i) s0 (a.tmps.getD i undef):=fun hh=>h0.Pe b4 dQ (fun j b' a' c ho=>gZ _ b' a' c ho) hh
  cases hc:ts.contains i with
  |false=>exact eQ (LY jd i s0 lB (by simpa using hc))
  |true=>
   simp only[cond_true]
   have OD:∀v,cH w0.heap.size w g' (gJ w0.heap.size w g' i) (.v .undef) v:=fun v=>.v _ _ _ (.undef _ _)
   have lift:∀{x v},bd w g'.St w0.heap.size (fun _ _ _=>False) x v→cH w0.heap.size w g' (gJ w0.heap.size w g' i) (.v x) v:=fun h=>.v _ _ _ (h.mono (fun _ _ h=>⟨h,.refl _ _ _⟩) (fun _ _ _=>rfl) _ (fun _ _ _ h=>h.elim))
   cases s0 with
   |v x=>exact eQ rfl
   |t x=>exact eQ rfl
   |p b' off=>
    simp only[y7]
    cases hb:b'==b with
    |true=>exact OD _
    |false=>exact eQ (by simp[Slot.has,hb])
   |a b' n sz=>
    simp only[y7]
    cases hb:b'==b with
    |true=>
     have:=beq_iff_eq.1 hb
     subst this
     exact lift (hr.1 n sz _ h0.aa)
    |false=>exact eQ (by simp[Slot.has,hb])
   |m b'=>
    simp only[y7]
    cases hb:b'==b with
    |true=>
     have:=beq_iff_eq.1 hb
     subst this
     exact lift (hr.2 _ h0.aa)
    |false=>exact eQ (by simp[Slot.has,hb])
   |c f x y=>
    simp only[y7]
    cases hb:(Slot.tC b x||Slot.tC b y)with
    |true=>exact OD _
    |false=>exact eQ (by simp only[Slot.has,hb])
 ·obtain⟨ck,pO⟩:=Bs i ao h2
  rcases aaU i bx ao ck h1 pO with⟨tX,QS⟩|hb
  rotate_left
  ·exact hb
  have hb:=hI.boxes i bx ao tX pO
  cases bx with
  |none=>exact hb.elim
  |cells cs=>
   obtain⟨q0,c,t,q1,q2,q3⟩:=hb
   exact⟨q0,c,t,q1,q2,q3.1,fun j x y hx hy=>(q3.2 j x y hx hy).mono (fun b' o h=>⟨b4 b' o h,.refl _ _ _⟩) (fun _ _ _=>rfl) _ (fun _ _ _ h=>⟨gZ _ _ _ _ h,.refl _ _ _⟩)⟩
  |one s=>
   obtain⟨q0,c,t,q1,q2,q3⟩:=hb
   exact⟨q0,c,t,q1,q2,q3.1,fun y hy=>(q3.2 y hy).Pe b4 dQ (fun _ _ _ _ h=>gZ _ _ _ _ h) (QS s rfl)⟩
  |map l=>
   obtain⟨q0,es,clock,q1,q2,q3⟩:=hb
   exact⟨q0,es,clock,q1,q2,fun j x y hx hy=>⟨(q3 j x y hx hy).1,(q3 j x y hx hy).2.1,(q3 j x y hx hy).2.2.mono fun b' o h=>⟨b4 b' o h,rfl⟩⟩⟩
 ·rcases h with h|h
  ·exact⟨(hI.cP b' o h).1,fun hm=>(hI.cP b' o h).2.1 (eD b' hm),(hI.cP b' o h).2.2⟩
  ·have hm:=JV b' o h
   have aV:=hI.eb b' hm
   refine⟨.inr aV.1,fun qR=>?_,aV.2⟩
   obtain⟨i,hi⟩:=List.mem_iff_getElem?.1 qR
   obtain⟨ck,eF⟩:=Bs i b' hi
   exact ck (hI.nodup i b b' eF (hS b' o h))
 ·intro n x hx
  obtain⟨q0,vs,q1,q2⟩:=hI.jK n x hx
  exact⟨q0,vs,fun i hi=>⟨(q1 i hi).1,b4 _ _ (q1 i hi).2⟩,fun i c hc=>(q2 i c hc).mono fun b' o h=>⟨b4 b' o h,rfl⟩⟩
theorem Nl(hI:Inv gl w0 ay e a w g){b:Nat}{ts:List Nat}{r:Nat→SV}{rm:SV}(dV:kE b ts e=true){S:Nat→Nat→Prop}(hS:∀b' o,S b' o→g.bx[b]? =some (some b'))
  (bt:∀(g':Gh),g'.St=(fun b' o=>g.St b' o∨S b' o)→(∀(n sz:Nat)(v:Value),cH w0.heap.size w g (fun _ _ _ _=>False) (Slot.a b n sz) v→bd w g'.St w0.heap.size (fun _ _ _=>False) (r n) v)∧
    (∀(v:Value),cH w0.heap.size w g (fun _ _ _ _=>False) (Slot.m b) v→bd w g'.St w0.heap.size (fun _ _ _=>False) rm v)):
  ∃g',Inv gl w0 ay (ph b r rm ts e) a w g':=by
 simp only[kE,Bool.and_eq_true]at dV
 refine⟨_,Gy hI dV.1 hS (dq:=e.boxes.set b .none) (by simp) (ov:=none) (zQ:=g.ow) (fun _ _=>rfl) _ rfl (fun i bx ao ck h1 h2=>.inl ?_) (fun t x h=>by cases h) (bt _ rfl)⟩
 rw[List.getElem?_set_ne (fun h=>ck h.symm)]at h1
 exact⟨h1,fun s hs=>by subst hs;exact CS dV.2 i s h1⟩
theorem Inv.HK(hI:Inv gl w0 ay e a w g){t:Nat}{s:Slot}(hs:cH w0.heap.size w g (gJ w0.heap.size w g t) s (a.tmps.getD t undef)):Inv gl w0 ay ⟨e.an.set t s,e.boxes⟩ a w g:=by
 refine⟨hI.below,by simp[hI.size],fun i x hx=>?_,hI.fo,hI.boxes,hI.nodup,hI.fT,hI.cP,hI.eb,hI.jK,hI.defers,hI.fe,hI.cls,hI.jv⟩
 simp only[List.getElem?_set]at hx
 split at hx
 ·rename_i lC
  subst lC
  split at hx
  ·cases hx;exact hs
  ·cases hx
 ·exact hI.an i x hx
theorem V1{x y:SV}(h:Bi x=some y){St:Nat→Nat→Prop}{base:Nat}{O:Nat→Nat→Nat→Prop}{v:Value}(r:bd w St base O x v):bd w St base O y v:=by
 unfold Bi at h
 split at h
 ·cases h
  have:=r.data
  cases this
  exact .d _ _ _ (.jm _)
 ·cases h
theorem Yq(hI:Inv gl w0 ay e a w g){t:Nat}{x y:SV}(hx:e.an.getD t (.v .undef)=.v x)(h:Bh x=some y):∃g',Inv gl w0 ay ⟨e.an.set t (.v y),e.boxes⟩ a w g':=by
 have hs:=lL hI t
 rw[hx]at hs
 have hv:=hs.ka
 have xz:a.eval (.tmp t)=a.tmps.getD t undef:=rfl
 rw[xz]at hv
 unfold Bh at h
 split at h
 ·rename_i sz L
  cases h
  generalize ew:a.tmps.getD t undef=v at hv
  cases hv with
  |cA _ _ _ gg cap vs b9 hm aQ hf ho bF hc=>
   obtain⟨o1,o2,o3,⟨cur,te,o4,qN⟩,o5⟩:=ho
   let g':Gh:={g with St:=fun b o=>g.St b o∨(b=gg∧o<L.length*sz)}
   have hX:Ext w0.heap.size w g w g' (fun p=>∃j,p=.s t j):=by
    refine⟨fun D ob hb dH h=>⟨h,hb,dH,fun x hx=>hx.elim id fun e=>(by rw[e.1]at dH;rw[o1]at dH;cases dH)⟩,fun _ _ h=>⟨.inl h,.refl _ _ _⟩,fun _ _ _=>rfl,fun _ _ h=>h,fun p b a' c hp cC=>⟨?_,.refl _ _ _⟩,.refl _⟩
    obtain⟨p1,p2,p3,p4,p5⟩:=cC
    refine⟨p1,p2,p3,p4,fun o ho=>?_⟩
    rintro(h|⟨rfl,_⟩)
    ·exact p5 o ho h
    ·rw[o1]at p1;cases p1;exact hp ⟨0,rfl⟩
   refine⟨g',hI.stepG (dst:=none) (s:=.t []) (v:=undef) (an:=e.an.set t (.v (.d (.sl .ro sz L)))) hX (Below.refl _ _) (by simp) (fun i x hx _=>?_) (fun d hd=>by cases hd) hI.fo (fun b bx ao h1 h2=>hX.box (fun j=>by rintro⟨j',h⟩;cases h) rfl (hI.boxes b bx ao h1 h2)) hI.nodup hI.eb (fun b o h=>?_)⟩
   ·rw[List.getElem?_set]at hx
    split at hx
    ·rename_i lC
     subst lC
     split at hx
     ·cases hx
      rw[ew]
      refine .v _ _ _ (.d _ _ _ (.sl sz L gg 0 cap vs b9 (Nat.le_trans b9 hm) aQ hf (fun o ho=>⟨by rw[Nat.zero_add];exact bF o ho,.inr ⟨rfl,by omega⟩⟩) (fun i x j c h1 h2=>(hc i x j c h1 h2).mono fun b o h=>⟨.inl h,rfl⟩)))
     ·cases hx
    ·rename_i lC
     exact hX.slot (fun j=>by rintro⟨j',h⟩;cases h;exact lC rfl) (hI.an i x hx)
   ·rcases h with h|⟨rfl,_⟩
    ·exact hI.cP b o h
    ·exact⟨.inr o2,o3,(Array.getElem?_eq_some_iff.1 o4).1⟩
 ·cases h
  refine⟨g,hI.HK (.v _ _ _ ?_)⟩
  have:=hv.data
  generalize a.tmps.getD t undef=v at this ⊢
  cases this
  exact .d _ _ _ (.jm _)
 ·cases h
  exact⟨g,hI.HK (.v _ _ _ (.d _ _ _ hv.data))⟩
 ·cases h
theorem LG{agg:Bool}{sz:Nat}(Bt:agg=false→sz=1):∀{n:Nat}{l:List D}{L:List D},mq agg sz n l=some L→(∀d∈l,d.one=true)→L.length=n∧l.length=n*sz∧(∀x∈L,x.cells.length=sz∧∀c∈x.cells,c.one=true)∧
  ∀(i:Nat)x(j:Nat)c,L[i]? =some x→x.cells[j]? =some c→l[i*sz+j]? =some c
 |0,[],L,h,_=>by simp only[mq,Option.some.injEq]at h;subst h;simp
 |0,_::_,L,h,_=>by simp[mq]at h
 |n+1,l,L,h,ct=>by
  simp only[mq]at h
  split at h
  ·rename_i hle
   split at h
   ·rename_i r hr
    cases h
    obtain⟨h1,h2,h3,h4⟩:=LG Bt hr (fun d hd=>ct d (List.mem_of_mem_drop hd))
    have QT:(cf agg (l.take sz)).cells =l.take sz:=Lk (fun d hd=>ct d (List.mem_of_mem_take hd)) (fun h=>by rw[List.length_take,Bt h];have:=Bt h;omega)
    simp only[List.length_drop]at h2
    refine⟨by simp[h1],by rw[Nat.succ_mul];omega,fun x hx=>?_,fun i x j c hx hc=>?_⟩
    ·rcases List.mem_cons.1 hx with rfl|hx
     ·rw[QT]
      exact⟨by rw[List.length_take];omega,fun c hc=>ct c (List.mem_of_mem_take hc)⟩
     ·exact h3 x hx
    ·cases i with
     |zero=>
      simp at hx;subst hx
      rw[QT]at hc
      rw[List.getElem?_take]at hc
      split at hc
      ·simpa using hc
      ·cases hc
     |succ i=>
      have:=h4 i x j c (by simpa using hx) hc
      rw[List.getElem?_drop]at this
      rw[Nat.succ_mul,show i*sz+sz+j=sz+(i*sz+j) by omega]
      exact this
   ·cases h
  ·cases h
theorem GP:∀{cs:List SV}{ds:List D},eP cs=some ds→ds.length=cs.length∧∀(i:Nat)d,ds[i]? =some d→∃x,cs[i]? =some x∧cS x=some d
 |[],ds,h=>by cases h;exact⟨rfl,fun i d h=>by simp at h⟩
 |x::cs,ds,h=>by
  simp only[eP]at h
  split at h
  ·rename_i y hy
   split at h
   ·rename_i r hr
    cases h
    obtain⟨h1,h2⟩:=GP hr
    refine⟨by simp[h1],fun i d hd=>?_⟩
    cases i with
    |zero=>simp at hd;subst hd;exact⟨x,rfl,hy⟩
    |succ i=>exact h2 i d (by simpa using hd)
   ·cases h
  ·cases h
theorem bj.OE{St:Nat→Nat→Prop}{d:D}{v:Value}(r:bj w St d v)(h:v.oneCell'=true):d.one=true:=by
 cases r<;>first|rfl|simp[Value.oneCell']at h
def pr(ws:List Nat)(e e':Env):Prop:=e'.an.length=e.an.length∧e.boxes.length≤e'.boxes.length∧(∀t,t∉ws→e'.an.getD t (.v .undef)=e.an.getD t (.v .undef))∧qb e.boxes.length e e'
theorem Nm{b:Nat}{r:Nat→SV}{rm:SV}{ts:List Nat}:pr ts e (ph b r rm ts e):=by
 refine⟨by simp[ph,yb],by simp[ph],fun t ht=>?_,fun i hi=>?_⟩
 ·simp only[ph,List.getD_eq_getElem?_getD,CY,Nat.zero_add]
  have:ts.contains t=false:=by simpa using ht
  rw[this]
  cases e.an[t]? <;>rfl
 ·simp only[ph,List.getD_eq_getElem?_getD,List.getElem?_set]
  by_cases hb:b=i
  ·subst hb
   simp[hi]
  ·simp only[hb,if_false]
   by_cases h:(e.boxes[i]?).getD .none =.none
   ·exact .inl h
   ·exact .inr ⟨h,trivial⟩
theorem DQ{y:SV}{t:Nat}:pr [t] e ⟨e.an.set t (.v y),e.boxes⟩:=⟨by simp,Nat.le_refl _,fun u hu=>by
 simp only[List.mem_singleton]at hu
 simp only
 rw[mi (fun h=>hu h.symm)],.refl _ _⟩
theorem Dw{b:Nat}{ts:List Nat}{r:Nat→SV}{rm:SV}{dq:List af}(hl:dq.length=e.boxes.length)(hk:∀i,dq.getD i .none =.none ∨(e.boxes.getD i .none ≠.none ∧(dq.getD i .none).isMap =(e.boxes.getD i .none).isMap)){ov:Option (Nat×SV)}(JU:∀t x,ov=some (t,x)→t∈ts):
  pr ts e ⟨xA (lj b r rm ts e.an 0) ov,dq⟩:=by
 have zR:∀t,t∉ts→(lj b r rm ts e.an 0).getD t (.v .undef)=e.an.getD t (.v .undef):=fun t ht=>by
  simp only[List.getD_eq_getElem?_getD,CY,Nat.zero_add]
  have:ts.contains t=false:=by simpa using ht
  rw[this]
  cases e.an[t]? <;>rfl
 refine⟨?_,by simp[hl],fun t ht=>?_,fun i _=>hk i⟩
 ·cases ov with
  |none=>exact yb _ _ _ _ _ _
  |some p=>simp[xA,yb]
 ·cases ov with
  |none=>exact zR t ht
  |some p=>
   obtain⟨t',x⟩:=p
   have:=JU t' x rfl
   simp only[xA]
   rw[mi (fun h=>ht (by first|(rw[←h];exact this)|(rw[h];exact this)))]
   exact zR t ht
theorem GQ{b:Nat}{l:List af}:∀i,(l.set b .none).getD i .none =.none ∨(l.getD i .none ≠.none ∧((l.set b .none).getD i .none).isMap =(l.getD i .none).isMap):=fun i=>by
 simp only[List.getD_eq_getElem?_getD,List.getElem?_set]
 by_cases hb:b=i
 ·subst hb
  by_cases hi:b<l.length
  ·simp[hi]
  ·simp[hi]
 ·simp only[hb,if_false]
  by_cases h:(l[i]?).getD .none =.none
  ·exact .inl h
  ·exact .inr ⟨h,trivial⟩
theorem Nn{b c:Nat}{x:Slot}{l:List (MK×D)}{bs:List af}(hc:bs[c]? =some (.one x)):∀i,((bs.set b .none).set c (.cells [.mp l])).getD i .none =.none ∨(bs.getD i .none ≠.none ∧(((bs.set b .none).set c (.cells [.mp l])).getD i .none).isMap =(bs.getD i .none).isMap):=fun i=>by
 by_cases hi:c=i
 ·subst hi
  right
  have hl:=(List.getElem?_eq_some_iff.1 hc).1
  simp only[List.getD_eq_getElem?_getD,hc,Option.getD_some]
  rw[List.getElem?_set_self (by simpa using hl)]
  exact⟨by simp,rfl⟩
 ·have:=GQ (b:=b) (l:=bs) i
  simp only[List.getD_eq_getElem?_getD]at this ⊢
  rw[List.getElem?_set_ne hi]
  exact this
theorem Yr{n:Nat}(h:Nat.blt 0 n=true):0<n:=Nat.lt_of_succ_le (Nat.le_of_ble_eq_true h)
theorem Ys(hI:Inv gl w0 ay e a w g){t:Nat}{agg:Bool}{sz:Nat}{ts:List Nat}{b n:Nat}(hs:e.an.getD t (.v .undef)=.a b n sz){cs:List SV}(cp:e.boxes[b]? =some (.cells cs))(dV:kE b (t::ts) e=true)
  (aQ:0<sz)(Bt:agg=false→sz=1){ds:List D}(jx:eP cs=some ds){L:List D}(hL:mq agg sz n ds=some L):
  ∃g',Inv gl w0 ay ⟨(lj b (fun _=>.undef) .undef (t::ts) e.an 0).set t (.v (.cA sz L)),e.boxes.set b .none⟩ a w g':=by
 have oq:=lL hI t
 rw[hs]at oq
 have xz:a.eval (.tmp t)=a.tmps.getD t undef:=rfl
 rw[xz]at oq
 obtain⟨ua,gS⟩:=oq.y9
 obtain⟨ao,cap,hb,b9,ew,ja,c0,ty0,mb,aeJ⟩:=gS
 obtain⟨q0,c,ty,q1,q2,q3,q4⟩:=hI.boxes b _ ao cp hb
 have dJ:c=c0∧ty=ty0:=by rw[q1]at mb;cases mb;exact⟨rfl,rfl⟩
 obtain⟨rfl,rfl⟩:=dJ
 obtain⟨d1,d2⟩:=GP jx
 have ct:∀d∈ds,d.one=true:=by
  intro d hd
  obtain⟨j,hj⟩:=List.mem_iff_getElem?.1 hd
  obtain⟨x,hx,JW⟩:=d2 j d hj
  have jS:=(List.getElem?_eq_some_iff.1 hx).1
  have hjc:j<c.size:=Nat.lt_of_lt_of_le jS q3
  exact((q4 j x c[j] hx (by simp)).cS JW).OE (q2 j c[j] jS (by simp))
 obtain⟨l1,l2,l3,l4⟩:=LG Bt hL ct
 simp only[kE,Bool.and_eq_true]at dV
 have vG:some ao∈g.bx:=List.mem_of_getElem? hb
 refine⟨_,Gy hI (r:=fun _=>.undef) (rm:=.undef) dV.1 (S:=fun _ _=>False) (fun _ _ h=>h.elim) (dq:=e.boxes.set b .none) (by simp) (ov:=some (t,.cA sz L)) (zQ:=fun b'=>if b'=ao then some (.s t 0)else g.ow b') (fun b' eK=>if_neg (fun h=>eK (by rw[h];exact vG))) _ rfl (fun i bx iB ck h1 h2=>.inl ?_) (fun t' x h=>?_) ⟨fun _ _ _ _=>.undef _ _,fun _ _=>.undef _ _⟩⟩
 ·rw[List.getElem?_set_ne (fun h=>ck h.symm)]at h1
  exact⟨h1,fun s hs=>by subst hs;exact CS dV.2 i s h1⟩
 ·cases h
  rw[ew,←l1]
  refine .cA _ sz L ao cap (fun o=>c.getD o undef) (by omega) ja (fun x hx=>(l3 x hx).1) (fun x hx=>(l3 x hx).2) ⟨by simp,q0,fun hm=>?_,⟨c,ty,q1,aeJ⟩,fun o _ h=>?_⟩ (fun o ho=>?_) (fun i x j d hx hc=>?_)
  ·obtain⟨i,hi⟩:=List.mem_iff_getElem?.1 hm
   simp only[List.getElem?_set]at hi
   split at hi
   ·split at hi<;>simp at hi
   ·rename_i JI
    exact JI (hI.nodup b i ao hb hi)
  ·rcases h with h|h
   ·exact(hI.cP ao o h).2.1 vG
   ·exact h
  ·rw[cell_of_row w ao o c ty (0,0) q1]
   have:o<c.size:=by rw[l1]at ho;omega
   simp[this]
  ·obtain⟨y,hy,JX⟩:=d2 _ d (l4 i x j d hx hc)
   have kj:=(List.getElem?_eq_some_iff.1 hy).1
   have JY:i*sz+j<c.size:=Nat.lt_of_lt_of_le kj q3
   have hr:=(q4 _ y c[i*sz+j] hy (by simp)).cS JX
   have hg:(c.getD (i*sz+j) undef)=c[i*sz+j]:=by simp[JY]
   show bj w _ d (c.getD (i*sz+j) undef)
   rw[hg]
   exact hr.mono fun b' o h=>⟨.inl h,rfl⟩
theorem Yt(hI:Inv gl w0 ay e a w g){ts:List Nat}{c b:Nat}(hc:e.boxes[c]? =some (.one (.m b))){l:List (MK×D)}(hl:e.boxes[b]? =some (.map l))(ck:b≠c)(jd:rU b ts e.an 0=true)
  (xB:pg b (e.boxes.set c .none)=true):∃g',Inv gl w0 ay ⟨lj b (fun _=>.undef) .undef ts e.an 0,(e.boxes.set b .none).set c (.cells [.mp l])⟩ a w g':=by
 refine⟨_,Gy hI (r:=fun _=>.undef) (rm:=.undef) jd (S:=fun b' o=>g.bx[b]? =some (some b')∧o=0) (fun b' o h=>h.1) (dq:=(e.boxes.set b .none).set c (.cells [.mp l])) (by simp) (ov:=none) (zQ:=g.ow) (fun _ _=>rfl) _ rfl
  (fun i bx iB hni h1 h2=>?_) (fun t x h=>by cases h) ⟨fun _ _ _ _=>.undef _ _,fun _ _=>.undef _ _⟩⟩
 by_cases uj:c=i
 ·right
  subst uj
  obtain⟨q0,cc,ty,q1,q2,q3,q4⟩:=hI.boxes c _ iB hc h2
  rw[List.getElem?_set_self (by simp;exact(List.getElem?_eq_some_iff.1 hc).1)]at h1
  cases h1
  have qI:cc[0]? =some cc[0]:=by simp
  have hr:=q4 _ qI
  generalize hcy:cc[0]=y at hr qI
  cases hr with
  |m _ _ ao hb=>
   obtain⟨_,es,clock,p1,p2,p3⟩:=hI.boxes b _ ao hl hb
   refine⟨q0,cc,ty,q1,fun j y hj=>q2 j y hj,q3,fun j x y hx hy=>?_⟩
   cases j with
   |succ j=>simp at hx
   |zero=>
    simp at hx;subst hx
    rw[qI]at hy;cases hy
    exact .mp _ l ao es clock p1 (.inr ⟨hb,rfl⟩) p2 fun i x y hx hy=>⟨(p3 i x y hx hy).1,(p3 i x y hx hy).2.1,(p3 i x y hx hy).2.2.mono fun b' o h=>⟨.inl h,rfl⟩⟩
 ·left
  rw[List.getElem?_set_ne uj,List.getElem?_set_ne (fun h=>hni h.symm)]at h1
  exact⟨h1,fun s hs=>by
   subst hs
   exact CS xB i s (by rw[List.getElem?_set_ne uj];exact h1)⟩
theorem Yu(hI:Inv gl w0 ay e a w g){x:gA}{k:Env→Prop}(h:e6 e k x):∃e' g',Inv gl w0 ay e' a w g'∧k e'∧pr (fP [x]) e e':=by
 cases x with
 |box t zJ=>
  simp only[e6]at h
  split at h
  ·rename_i x hx
   unfold ou at h
   split at h
   rotate_left
   ·exact⟨e,g,hI,h,rfl,Nat.le_refl _,fun _ _=>rfl,.refl _ _⟩
   ·exact h.elim
   rename_i QU L0
   obtain⟨aeK,h⟩:=h
   subst aeK
   obtain⟨sz,L,g',he,bJ⟩:=Yp hI hx ⟨_,_,rfl⟩
   cases he
   refine⟨_,g',bJ,h,by simp,by simp,fun u hu=>?_,fun i hi=>?_⟩
   ·simp only[fP,List.mem_singleton]at hu
    simp only
    rw[mi (fun h=>hu h.symm)]
   ·simp only[List.getD_eq_getElem?_getD]
    rw[List.getElem?_append_left hi]
    by_cases h:(e.boxes[i]?).getD .none =.none
    ·exact .inl h
    ·exact .inr ⟨h,rfl⟩
  ·exact h.elim
 |lX t ts=>
  have fr:∀{b r rm},pr (fP [.lX t ts]) e (ph b r rm ts e):=by
   intro b r rm
   have:fP [.lX t ts]=ts:=by simp[fP]
   rw[this];exact Nm
  simp only[e6]at h
  split at h
  ·rename_i b n QU hs
   split at h
   ·rename_i cs cp
    cases dV:kE b ts e with
    |false=>rw[dV]at h;exact h.elim
    |true=>
     rw[dV,cond_true]at h
     obtain⟨ds,jx,hlen,hk⟩:=aK h
     obtain⟨d1,d2⟩:=GP jx
     refine Exists.elim (Nl hI (b:=b) (ts:=ts) (r:=fun m=>j7 m n (.d (.sl .ro 1 ds))) (rm:=.undef) dV (S:=fun b' o=>g.bx[b]? =some (some b')∧o<n) (fun b' o h=>h.1) (fun g' iH=>⟨fun m zJ v hv=>?_,fun v hv=>.undef _ _⟩)) fun g' bJ=>⟨_,g',bJ,hk,fr⟩
     ·unfold j7
      split
      ·rename_i hmn
       subst hmn
       obtain⟨ua,gS⟩:=hv.y9
       have E9:ds.length=m:=d1.trans hlen
       obtain⟨ao,cap,hb,b9,rfl,_⟩:=gS
       obtain⟨q0,c,ty,q1,q2,q3,q4⟩:=hI.boxes b _ ao cp hb
       have ct:∀d∈ds,d.one=true:=by
        intro d hd
        obtain⟨j,hj⟩:=List.mem_iff_getElem?.1 hd
        obtain⟨x,hx,JW⟩:=d2 j d hj
        have jS:=(List.getElem?_eq_some_iff.1 hx).1
        have hjc:j<c.size:=Nat.lt_of_lt_of_le jS q3
        exact((q4 j x c[j] hx (by simp)).cS JW).OE (q2 j c[j] jS (by simp))
       have dw:∀d∈ds,d.cells=[d]:=fun d hd=>D.Gt (ct d hd)
       have:=bj.sl (w:=w) (St:=g'.St) 1 ds ao 0 cap (fun o=>c.getD o undef) (by omega) (by omega) (fun d hd=>by rw[dw d hd];rfl)
        (fun d hd x hx=>by rw[dw d hd]at hx;rw[List.mem_singleton.1 hx];exact ct d hd) (fun o ho=>⟨by
          rw[cell_of_row w ao (0+o) c ty (0,0) q1]
          have:o<c.size:=by omega
          simp[this],by rw[iH];exact .inr ⟨hb,by omega⟩⟩) (fun i d j x hd hx=>by
          rw[dw d (List.mem_of_getElem? hd)]at hx
          have hj:j=0:=by
           cases j with
           |zero=>rfl
           |succ j=>simp at hx
          subst hj
          simp at hx;subst hx
          obtain⟨y,hy,JX⟩:=d2 i d hd
          have kj:=(List.getElem?_eq_some_iff.1 hy).1
          have JY:i<c.size:=Nat.lt_of_lt_of_le kj q3
          have hr:=(q4 i y c[i] hy (by simp)).cS JX
          simp only[Nat.mul_one,Nat.add_zero]
          simp[JY]
          exact hr.mono fun b' o h=>⟨by rw[iH];exact .inl h,rfl⟩)
       rw[E9]at this
       exact .d _ _ _ this
      ·exact .undef _ _
   ·exact h.elim
  ·rename_i b hs
   split at h
   ·rename_i l hl
    cases dV:kE b ts e with
    |false=>rw[dV]at h;exact h.elim
    |true=>
     rw[dV,cond_true]at h
     refine Exists.elim (Nl hI (b:=b) (ts:=ts) (r:=fun _=>.undef) (rm:=.mp l) dV (S:=fun b' o=>g.bx[b]? =some (some b')∧o=0) (fun b' o h=>h.1) (fun g' iH=>⟨fun m zJ v hv=>.undef _ _,fun v hv=>?_⟩)) fun g' bJ=>⟨_,g',bJ,h,fr⟩
     ·cases hv with
      |m _ _ ao hb=>
       obtain⟨q0,es,clock,q1,q2,q3⟩:=hI.boxes b _ ao hl hb
       exact .mp _ l ao es clock q1 (by rw[iH];exact .inr ⟨hb,rfl⟩) q2 fun i x y hx hy=>⟨(q3 i x y hx hy).1,(q3 i x y hx hy).2.1,(q3 i x y hx hy).2.2.mono fun b' o h=>⟨by rw[iH];exact .inl h,rfl⟩⟩
   ·exact h.elim
  ·exact⟨e,g,hI,h,rfl,Nat.le_refl _,fun _ _=>rfl,.refl _ _⟩
  ·exact h.elim
 |su t agg sz ts=>
  simp only[e6]at h
  split at h
  ·rename_i b n s0 hs
   split at h
   ·rename_i cs cp
    cases dV:(kE b (t::ts) e&&Nat.beq s0 sz&&Nat.blt 0 sz&&(agg||Nat.beq sz 1))with
    |false=>rw[dV]at h;exact h.elim
    |true=>
     rw[dV,cond_true]at h
     simp only[Bool.and_eq_true]at dV
     obtain⟨⟨⟨h1,h2⟩,h3⟩,h4⟩:=dV
     have h2:=Nat.eq_of_beq_eq_true h2
     subst h2
     obtain⟨ds,jx,h⟩:=aK h
     obtain⟨L,hL,hk⟩:=aK h
     obtain⟨g',bJ⟩:=Ys hI hs cp h1 (Yr h3) (agg:=agg) (fun ha=>by subst ha;exact Nat.eq_of_beq_eq_true (by simpa using h4)) jx hL
     refine⟨_,g',bJ,hk,?_⟩
     have JZ:fP [.su t agg s0 ts]=t::ts:=by simp[fP]
     rw[JZ]
     exact Dw (ov:=some (t,.cA s0 L)) List.length_set GQ (fun t' x h=>by cases h;simp)
   ·exact h.elim
  ·exact⟨e,g,hI,h,rfl,Nat.le_refl _,fun _ _=>rfl,.refl _ _⟩
  ·exact h.elim
 |emp t=>
  simp only[e6]at h
  split at h
  ·rename_i x hx
   obtain⟨y,hy,hk⟩:=aK h
   have hs:=lL hI t
   rw[hx]at hs
   exact⟨_,g,hI.HK (.v _ _ _ (V1 hy hs.ka)),hk,DQ⟩
  ·exact h.elim
 |kM t=>
  simp only[e6]at h
  split at h
  ·rename_i x hx
   obtain⟨y,hy,hk⟩:=aK h
   obtain⟨g',bJ⟩:=Yq hI hx hy
   exact⟨_,g',bJ,hk,DQ⟩
  ·exact h.elim
 |oF t ts=>
  simp only[e6]at h
  split at h
  ·rename_i c hs
   split at h
   ·rename_i b hb
    split at h
    ·rename_i l hl
     cases dV:(!(Nat.beq b c)&&rU b ts e.an 0&&pg b (e.boxes.set c .none))with
     |false=>rw[dV]at h;exact h.elim
     |true=>
      rw[dV,cond_true]at h
      simp only[Bool.and_eq_true,Bool.not_eq_true']at dV
      obtain⟨⟨h1,h2⟩,h3⟩:=dV
      have ck:b≠c:=fun e=>by subst e;simp at h1
      obtain⟨g',bJ⟩:=Yt hI hb hl ck h2 h3
      refine⟨_,g',bJ,h,?_⟩
      have:fP [.oF t ts]=ts:=by simp[fP]
      rw[this]
      exact Dw (ov:=none) (by simp) (Nn hb) (fun t' x h=>by cases h)
    ·exact h.elim
   ·exact h.elim
  ·exact h.elim
theorem No{k k':Env→Prop}(hk:∀e,k e→k' e){e:Env}{x:gA}(h:e6 e k x):e6 e k' x:=by
 cases x with
 |box t zJ=>
  simp only[e6]at h ⊢
  split at h
  ·unfold ou at h ⊢
   split at h
   ·exact⟨h.1,hk _ h.2⟩
   ·exact hk _ h
   ·exact h.elim
  ·exact h.elim
 |lX t ts=>
  simp only[e6]at h ⊢
  split at h
  ·split at h
   ·rename_i cs cp
    cases dV:kE _ ts e with
    |false=>rw[dV]at h;exact h.elim
    |true=>
     rw[dV,cond_true]at h
     obtain⟨ds,jx,hl,h⟩:=aK h
     simp only[jx,ab]
     exact⟨hl,hk _ h⟩
   ·exact h.elim
  ·split at h
   ·rename_i l hl
    cases dV:kE _ ts e with
    |false=>rw[dV]at h;exact h.elim
    |true=>
     rw[dV,cond_true]at h
     exact hk _ h
   ·exact h.elim
  ·exact hk _ h
  ·exact h.elim
 |su t agg sz ts=>
  simp only[e6]at h ⊢
  split at h
  ·split at h
   ·rename_i cs cp
    cases dV:(kE _ (t::ts) e&&Nat.beq _ sz&&Nat.blt 0 sz&&(agg||Nat.beq sz 1))with
    |false=>rw[dV]at h;exact h.elim
    |true=>
     rw[dV,cond_true]at h
     obtain⟨ds,jx,h⟩:=aK h
     obtain⟨L,hL,h⟩:=aK h
     simp only[cond_true,jx,ab,hL]
     exact hk _ h
   ·exact h.elim
  ·exact hk _ h
  ·exact h.elim
 |emp t=>
  simp only[e6]at h ⊢
  split at h
  ·obtain⟨y,hy,h⟩:=aK h
   simp only[hy,ab]
   exact hk _ h
  ·exact h.elim
 |kM t=>
  simp only[e6]at h ⊢
  split at h
  ·obtain⟨y,hy,h⟩:=aK h
   simp only[hy,ab]
   exact hk _ h
  ·exact h.elim
 |oF t ts=>
  simp only[e6]at h ⊢
  split at h
  ·split at h
   ·rename_i b hb
    split at h
    ·rename_i l hl
     cases dV:(!(Nat.beq b _)&&rU b ts e.an 0&&pg b (e.boxes.set _ .none))with
     |false=>rw[dV]at h;exact h.elim
     |true=>
      rw[dV,cond_true]at h
      simp only[cond_true]
      exact hk _ h
    ·exact h.elim
   ·exact h.elim
  ·exact h.elim
theorem V2{k:Env→Prop}{e:Env}{x:gA}(h:e6 e k x):e6 e (fun e'=>k e'∧pr (fP [x]) e e') x:=by
 cases x with
 |box t zJ=>
  simp only[e6]at h ⊢
  split at h
  ·unfold ou at h ⊢
   split at h
   ·refine⟨h.1,h.2,by simp,by simp,fun u hu=>?_,fun i hi=>?_⟩
    ·simp only[fP,List.mem_singleton]at hu
     simp only
     rw[mi (fun h=>hu h.symm)]
    ·simp only[List.getD_eq_getElem?_getD]
     rw[List.getElem?_append_left hi]
     by_cases h:(e.boxes[i]?).getD .none =.none
     ·exact .inl h
     ·exact .inr ⟨h,rfl⟩
   ·exact⟨h,rfl,Nat.le_refl _,fun _ _=>rfl,.refl _ _⟩
   ·exact h.elim
  ·exact h.elim
 |lX t ts=>
  have fr:∀{b r rm},pr (fP [.lX t ts]) e (ph b r rm ts e):=by
   intro b r rm
   have:fP [.lX t ts]=ts:=by simp[fP]
   rw[this];exact Nm
  simp only[e6]at h ⊢
  split at h
  ·split at h
   ·rename_i cs cp
    cases dV:kE _ ts e with
    |false=>rw[dV]at h;exact h.elim
    |true=>
     rw[dV,cond_true]at h
     obtain⟨ds,jx,hl,h⟩:=aK h
     simp only[jx,ab]
     exact⟨hl,h,fr⟩
   ·exact h.elim
  ·split at h
   ·rename_i l hl
    cases dV:kE _ ts e with
    |false=>rw[dV]at h;exact h.elim
    |true=>
     rw[dV,cond_true]at h
     exact⟨h,fr⟩
   ·exact h.elim
  ·exact⟨h,rfl,Nat.le_refl _,fun _ _=>rfl,.refl _ _⟩
  ·exact h.elim
 |su t agg sz ts=>
  simp only[e6]at h ⊢
  split at h
  ·split at h
   ·rename_i cs cp
    cases dV:(kE _ (t::ts) e&&Nat.beq _ sz&&Nat.blt 0 sz&&(agg||Nat.beq sz 1))with
    |false=>rw[dV]at h;exact h.elim
    |true=>
     rw[dV,cond_true]at h
     obtain⟨ds,jx,h⟩:=aK h
     obtain⟨L,hL,h⟩:=aK h
     simp only[cond_true,jx,ab,hL]
     refine⟨h,?_⟩
     have JZ:fP [.su t agg sz ts]=t::ts:=by simp[fP]
     rw[JZ]
     exact Dw (ov:=some (t,.cA sz L)) List.length_set GQ (fun t' x h=>by cases h;simp)
   ·exact h.elim
  ·exact⟨h,rfl,Nat.le_refl _,fun _ _=>rfl,.refl _ _⟩
  ·exact h.elim
 |emp t=>
  simp only[e6]at h ⊢
  split at h
  ·obtain⟨y,hy,h⟩:=aK h
   simp only[hy,ab]
   exact⟨h,DQ⟩
  ·exact h.elim
 |kM t=>
  simp only[e6]at h ⊢
  split at h
  ·obtain⟨y,hy,h⟩:=aK h
   simp only[hy,ab]
   exact⟨h,DQ⟩
  ·exact h.elim
 |oF t ts=>
  simp only[e6]at h ⊢
  split at h
  ·split at h
   ·rename_i b hb
    split at h
    ·rename_i l hl
     cases dV:(!(Nat.beq b _)&&rU b ts e.an 0&&pg b (e.boxes.set _ .none))with
     |false=>rw[dV]at h;exact h.elim
     |true=>
      rw[dV,cond_true]at h
      simp only[cond_true]
      exact⟨h,by
       have:fP [.oF t ts]=ts:=by simp[fP]
       rw[this]
       exact Dw (ov:=none) (by simp) (Nn hb) (fun t' x h=>by cases h)⟩
    ·exact h.elim
   ·exact h.elim
  ·exact h.elim
theorem V3(x:gA)(l:List gA):fP (x::l)=fP [x]++fP l:=by cases x<;>simp[fP]
theorem pr.trans{ws vs:List Nat}{e e1 e2:Env}(h1:pr ws e e1)(h2:pr vs e1 e2):pr (ws++vs) e e2:=
 ⟨h2.1.trans h1.1,Nat.le_trans h1.2.1 h2.2.1,fun t ht=>(h2.2.2.1 t fun h=>ht (List.mem_append_right _ h)).trans (h1.2.2.1 t fun h=>ht (List.mem_append_left _ h)),h1.2.2.2.trans h1.2.1 h2.2.2.2⟩
theorem CZ{k k':Env→Prop}(hk:∀e,k e→k' e):∀{l:List gA}{e:Env},lS l e k→lS l e k'
 |[],_,h=>hk _ h
 |x::l,e,h=>No (fun e'=>CZ hk (l:=l)) (show e6 e (fun e'=>lS l e' k) x from h)
theorem LZ{k:Env→Prop}:∀{l:List gA}{e:Env},lS l e k→lS l e fun e'=>k e'∧pr (fP l) e e'
 |[],e,h=>⟨h,rfl,Nat.le_refl _,fun _ _=>rfl,.refl _ _⟩
 |x::l,e,h=>No (fun _⟨h1,h2⟩=>CZ (fun e2⟨h3,h4⟩=>⟨h3,by rw[V3];exact h2.trans h4⟩) (LZ (l:=l) h1)) (V2 (show e6 e (fun e'=>lS l e' k) x from h))
theorem GR:∀{l:List gA}{e:Env}{g:Gh}{k:Env→Prop},Inv gl w0 ay e a w g→lS l e k→∃e' g',Inv gl w0 ay e' a w g'∧k e'
 |[],e,g,k,hI,h=>⟨e,g,hI,h⟩
 |x::l,e,g,k,hI,h=>by
  obtain⟨e',g',bJ,h',_⟩:=Yu hI (show e6 e (fun e'=>lS l e' k) x from h)
  exact GR bJ h'
end
end Go.Proofs.YtaknajjmldngiaaGreat.Ab
namespace Go.Proofs.YtaknajjmldngiaaGreat.Ab
open Go Go.RowKit
def Ex.to:Ex→Exit
 | .normal =>.normal
 | .exit i=>.exit i
 | .ret =>.ret
def Fr(gh:List (Nat×List gA))(c:Code)(e e':Env):Prop:=e'.an.length=e.an.length∧e.boxes.length≤e'.boxes.length∧
 (∀t,t∉du gh c→(e'.an.getD t (.v .undef)).stays =(e.an.getD t (.v .undef)).stays)∧qb e.boxes.length e e'
theorem uX{b:Bool}{A:Prop}(h:cond b A False):b=true∧A:=by cases b;exact h.elim;exact⟨rfl,h⟩
theorem CT{b:Bool}{A:Prop}(hb:b=true)(h:A):cond b A False:=by subst hb;exact h
section
variable{P:Program}{gl:Nat→Option D}{h:Hints}
theorem CU{all:List Oper}{aE:Nat→Bool}{base:Nat}{K K':Env→Prop}(hk:∀e,K e→K' e):∀(l:List Oper)(i:Nat)(e:Env),
  ie P gl (aF P gl) aE all base l i e K→ie P gl (aF P gl) aE all base l i e K'
 |[],_,_,h=>hk _ h
 |o::l,i,e,h=>by
  rw[yt]at h ⊢
  have gq:all=all.toArray.toList:=by simp
  rw[gq]at h ⊢
  obtain⟨src,s,U,ef,hO,_⟩:=wc h
  refine hO.run ?_
  rw[←gq]at ef ⊢
  exact CU hk l (i+1) _ ef
theorem LH{all:List Oper}{aE:Nat→Bool}{base:Nat}{K:Env→Prop}:∀(l:List Oper)(i:Nat)(e:Env),
  ie P gl (aF P gl) aE all base l i e K→ie P gl (aF P gl) aE all base l i e fun e'=>K e'∧e'.an.length=e.an.length∧e'.boxes.length=e.boxes.length∧
   (∀t,t∉l.filterMap (·.dst)→(e'.an.getD t (.v .undef)).stays =(e.an.getD t (.v .undef)).stays)∧qb base e e'
 |[],_,_,h=>⟨h,rfl,rfl,fun _ _=>rfl,.refl _ _⟩
 |o::l,i,e,h=>by
  rw[yt]at h ⊢
  have gq:all=all.toArray.toList:=by simp
  rw[gq]at h ⊢
  obtain⟨src,s,U,ef,hO,b4⟩:=wc h
  refine hO.run ?_
  rw[←gq]at ef ⊢
  refine CU (fun e'⟨hK,h1,h2,h3,h5⟩=>⟨hK,?_,?_,fun t ht=>?_,fun j hj=>?_⟩) l (i+1) _ (LH l (i+1) _ ef)
  ·rw[h1];unfold fin iD;simp only[Cz];cases src<;>simp
  ·rw[h2];unfold fin kP;cases U<;>simp
  ·have hd:∀d,o.dst=some d→d≠t:=fun d hd hh=>by
    subst hh
    exact ht (List.mem_filterMap.2 ⟨o,by simp,hd⟩)
   have fq:t∉l.filterMap (·.dst):=fun hm=>by
    obtain⟨o',cC,jP⟩:=List.mem_filterMap.1 hm
    exact ht (List.mem_filterMap.2 ⟨o',by simp[cC],jP⟩)
   rw[h3 t fq]
   unfold fin cz iD
   simp only
   have Bn:((match src with|none=>e.an|some (t,s)=>e.an.set t s).getD t (.v .undef)).stays =(e.an.getD t (.v .undef)).stays :=by
    cases src with
    |none=>rfl
    |some p=>
     obtain⟨t',d⟩:=p
     simp only
     by_cases QV:t'=t
     ·subst QV
      have:=b4.1 t' d rfl
      rcases Nat.lt_or_ge t' e.an.length with hl|hl
      ·rw[List.getD_eq_getElem?_getD,List.getElem?_set_self hl];exact this
      ·rw[List.set_eq_of_length_le hl]
     ·rw[mi QV]
   cases jP:o.dst with
   |none=>exact Bn
   |some d=>simp only;rw[mi (hd d jP)];exact Bn
  ·have huf:=hO.uf
   have key:qb base e (fin o src s U e):=by
    intro j hj
    have same:e.boxes.getD j .none =.none ∨(e.boxes.getD j .none ≠.none ∧(e.boxes.getD j .none).isMap =(e.boxes.getD j .none).isMap):=qb.refl base e j hj
    unfold fin
    simp only
    cases huf with
    |none=>exact same
    |mk bx h hn hb=>
     simp only[kP,List.getD_eq_getElem?_getD]
     rw[List.getElem?_set_ne (by omega)]
     simpa using same
    |wr b bx gw h hw x hx off hp ho hold hb pq=>
     simp only[kP,List.getD_eq_getElem?_getD,List.getElem?_set]
     by_cases QW:b=j
     ·subst QW
      right
      rw[ho]
      simp[(List.getElem?_eq_some_iff.1 ho).1,hb.2,hold]
     ·simp only[QW,if_false];simpa using same
   exact(key.trans (Nat.le_refl _) h5) j hj
theorem V4{ok:Bool}{ops:Array Oper}{aE:Nat→Bool}{e1 e':Env}{K K':Env→Prop}(hk:∀e,K e→K' e)(h:qp P gl (aF P gl) ok ops aE e1 K e'):qp P gl (aF P gl) ok ops aE e1 K' e':=by
 cases ok
 ·exact⟨h.1,hk _ h.2⟩
 ·exact hk _ h
theorem Xc{ok:Bool}{ops:Array Oper}{aE:Nat→Bool}{e1 e':Env}{K:Env→Prop}{X:Env→Prop}(h:qp P gl (aF P gl) ok ops aE e1 K e')(hx:X e'):qp P gl (aF P gl) ok ops aE e1 (fun e'=>K e'∧X e') e':=by
 cases ok
 ·exact⟨h.1,h.2,hx⟩
 ·exact⟨h,hx⟩
theorem LI{e:Env}{c:Operand}{A B A' B':Env→Prop}(hA:A e→A' e)(hB:B e→B' e)(h:nF e c A B):nF e c A' B':=by
 cases c with
 |tmp t=>
  simp only[nF]at h ⊢
  cases hx:e.an.getD t (.v .undef)with
  |v x=>
   rw[hx]at h
   obtain⟨b,rfl,h1,h2⟩:=yr h
   cases b
   ·have:=h2 rfl
    rw[ta hx]at this
    show B' _
    rw[ta hx]
    exact hB this
   ·have:=h1 rfl
    rw[ta hx]at this
    show A' _
    rw[ta hx]
    exact hA this
  |_=>rw[hx]at h;exact h.elim
 |const v=>
  cases v with
  |bool b=>cases b;exact hB h;exact hA h
  |_=>exact h.elim
 |_=>exact h.elim
theorem Vg{e:Env}{c:Operand}{A B A' B':Env→Prop}(hA:∀e,A e→A' e)(hB:∀e,B e→B' e)(h:nF e c A B):nF e c A' B':=LI (hA e) (hB e) h
theorem pa:∀(c:Code){Q Q':Ex→Env→Prop}{e:Env},(∀x e,Q x e→Q' x e)→aw P gl (aF P gl) h c Q e→aw P gl (aF P gl) h c Q' e
 | .skip,_,_,_,hq,hh=>hq _ _ hh
 | .region id ops draw,Q,Q',e,hq,hh=>by
   obtain⟨hb,hh⟩:=uX (hh:cond _ _ False)
   exact CT hb (CZ (fun e' h=>CU (fun e2 h2=>V4 (hq .normal) h2) _ _ _ h) hh)
 | .seq a b,Q,Q',e,hq,hh=>by
   simp only[aw]at hh ⊢
   refine pa a (fun x e' hx=>?_) hh
   cases x with
   |normal=>exact pa b hq hx
   |exit i=>exact hq _ _ hx
   |ret=>exact hq _ _ hx
 | .cond c a b,Q,Q',e,hq,hh=>by
   simp only[aw]at hh ⊢
   exact Vg (fun e'=>pa a hq) (fun e'=>pa b hq) hh
 | .block id b,Q,Q',e,hq,hh=>by
   simp only[aw]at hh ⊢
   refine pa b (fun x e' hx=>?_) hh
   cases x with
   |normal=>exact hq _ _ hx
   |exit i=>
    have dE:cond (i==id) (Q .normal e') (Q (.exit i) e'):=hx
    show cond (i==id) (Q' .normal e') (Q' (.exit i) e')
    cases hb:(i==id)<;>rw[hb]at dE<;>exact hq _ _ dE
   |ret=>exact hq _ _ hx
 | .loop b,Q,Q',e,hq,hh=>by
   obtain⟨hb,hh⟩:=uX (hh:cond _ _ False)
   refine CT hb fun I hI=>hh I fun vs bs hF=>hI vs bs (pa b (fun x e' hx=>?_) hF)
   cases x with
   |normal=>exact hx
   |exit i=>exact hq _ _ hx
   |ret=>exact hq _ _ hx
 | .exit id,_,_,_,hq,hh=>hq _ _ hh
 | .ret,_,_,_,hq,hh=>hq _ _ hh
 | .goto _,_,_,_,_,hh=>hh
 | .label _,_,_,_,_,hh=>hh
 | .scope _,_,_,_,_,hh=>hh
 | .rangeFunc _ _ _ _,_,_,_,_,hh=>hh
 | .refuse _,_,_,_,_,hh=>hh
theorem Fr.refl(c:Code)(e:Env):Fr h.gh c e e:=⟨rfl,Nat.le_refl _,fun _ _=>rfl,.refl _ _⟩
theorem Fr.trans{a b c:Code}{e e1 e2:Env}(h1:Fr h.gh a e e1)(h2:Fr h.gh b e1 e2)(ha:∀t,t∈du h.gh a→t∈du h.gh c)(hb:∀t,t∈du h.gh b→t∈du h.gh c):Fr h.gh c e e2:=
 ⟨h2.1.trans h1.1,Nat.le_trans h1.2.1 h2.2.1,fun t ht=>(h2.2.2.1 t fun hm=>ht (hb t hm)).trans (h1.2.2.1 t fun hm=>ht (ha t hm)),h1.2.2.2.trans h1.2.1 h2.2.2.2⟩
theorem Fr.mono{a c:Code}{e e1:Env}(h1:Fr h.gh a e e1)(ha:∀t,t∈du h.gh a→t∈du h.gh c):Fr h.gh c e e1:=⟨h1.1,h1.2.1,fun t ht=>h1.2.2.1 t fun hm=>ht (ha t hm),h1.2.2.2⟩
theorem FE(vars consts:List Nat)(vs:List SV):∀(l:List Slot)(t i:Nat),(nY vars consts vs l t)[i]? =(l[i]?).map fun s=>match place (t+i) vars 0 with
  |some j=>.v (ae vs j)
  |none=>bif consts.contains (t+i)then s.stays else .v .undef
 |[],_,_=>by simp[nY]
 |s::l,t,i=>by
  cases i with
  |zero=>simp only[nY,List.getElem?_cons_zero,Option.map_some,Nat.add_zero];cases place t vars 0<;>rfl
  |succ i=>
   simp only[nY,List.getElem?_cons_succ]
   rw[FE vars consts vs l (t+1) i,show t+1+i=t+(i+1) by omega]
theorem FC(vars consts:List Nat)(vs:List SV):∀(l:List Slot)(t:Nat),(nY vars consts vs l t).length =l.length
 |[],_=>rfl
 |_::l,t=>by simp[nY,FC vars consts vs l (t+1)]
theorem FF(bs:List (List SV)):∀(l:List af)(t i:Nat),(nZ bs l t)[i]? =(l[i]?).map fun x=>af.again (ak bs (t+i)) x
 |[],_,_=>by simp[nZ]
 |s::l,t,i=>by
  cases i with
  |zero=>simp[nZ]
  |succ i=>
   simp only[nZ,List.getElem?_cons_succ]
   rw[FF bs l (t+1) i,show t+1+i=t+(i+1) by omega]
theorem FD(bs:List (List SV)):∀(l:List af)(t:Nat),(nZ bs l t).length =l.length
 |[],_=>rfl
 |_::l,t=>by simp[nZ,FD bs l (t+1)]
theorem L1{t:Nat}:∀{l:List Nat}{i j:Nat},place t l i=some j→i≤j∧l[j-i]? =some t
 |[],i,j,h=>by cases h
 |v::l,i,j,h=>by
  simp only[place]at h
  cases hv:v==t with
  |true=>
   rw[hv]at h
   simp only[cond_true,Option.some.injEq]at h
   subst h
   have:=beq_iff_eq.1 hv
   subst this
   simp
  |false=>
   rw[hv]at h
   obtain⟨h1,h2⟩:=L1 (l:=l) h
   refine⟨by omega,?_⟩
   rw[show j-i=(j-(i+1))+1 by omega,List.getElem?_cons_succ]
   exact h2
theorem L2{t:Nat}:∀{l:List Nat}{i:Nat},l.contains t=false→place t l i=none
 |[],_,_=>rfl
 |v::l,i,h=>by
  simp only[List.contains_cons,Bool.or_eq_false_iff]at h
  simp only[place]
  have:(v==t)=false:=by rw[beq_eq_false_iff_ne]at*;exact fun hh=>h.1 hh.symm
  rw[this]
  exact L2 h.2
theorem Lp{ws vars consts:List Nat}:∀{l:List Slot}{t:Nat},yH ws vars consts l t=true→∀(i:Nat)s,l[i]? =some s→(t+i)∉ws→s.stays=.v .undef ∨(vars.contains (t+i)=false∧consts.contains (t+i)=true)
 |[],_,_,i,s,h,_=>by simp at h
 |s'::l,t,hk,i,s,h,hw=>by
  simp only[yH,Bool.and_eq_true]at hk
  cases i with
  |zero=>
   simp at h
   subst h
   have jg:=hk.1
   cases s' with
   |v x=>exact .inl rfl
   |t x=>exact .inl rfl
   |_=>
    refine .inr ?_
    simp only[Bool.or_eq_true,Bool.and_eq_true,Bool.not_eq_true']at jg
    rcases jg with h|h
    ·exact absurd (by simpa using h) hw
    ·exact h
  |succ i=>
   have:=Lp hk.2 i s (by simpa using h) (by rw[show t+1+i=t+(i+1) by omega];exact hw)
   rw[show t+1+i=t+(i+1) by omega]at this
   exact this
theorem Ur(s:Slot):s.stays.stays=s.stays:=by cases s<;>rfl
def again(vars consts:List Nat)(vs:List SV)(bs:List (List SV))(e:Env):Env:=⟨nY vars consts vs e.an 0,nZ bs e.boxes 0⟩
theorem GS{b:Code}{vars consts:List Nat}{vs:List SV}{bs:List (List SV)}{e:Env}(hk:yH (du h.gh b) vars consts e.an 0=true):Fr h.gh b e (again vars consts vs bs e):=by
 refine⟨FC _ _ _ _ _,by simp[again,FD],fun t ht=>?_,fun i hi=>?_⟩
 rotate_left
 ·simp only[again,List.getD_eq_getElem?_getD,FF,List.getElem?_eq_getElem hi,Option.map_some,Option.getD_some]
  cases e.boxes[i]<;>first|exact .inl rfl|exact .inr ⟨by simp,rfl⟩
 simp only[again,List.getD_eq_getElem?_getD,FE]
 cases hs:e.an[t]? with
 |none=>rfl
 |some s=>
  simp only[Option.map_some,Option.getD_some,Nat.zero_add]
  rcases Lp hk t s hs (by simpa using ht)with h|⟨h1,h2⟩
  ·rw[h]
   split
   ·rfl
   ·cases consts.contains t<;>simp[h,Slot.stays]
  ·rw[Nat.zero_add]at h1 h2
   rw[L2 h1]
   simp only[h2,cond_true,Ur]
theorem p8:∀(c:Code){Q:Ex→Env→Prop}{e:Env},aw P gl (aF P gl) h c Q e→aw P gl (aF P gl) h c (fun x e'=>Q x e'∧Fr h.gh c e e') e
 | .skip,_,e,hh=>⟨hh,Fr.refl _ _⟩
 | .region id ops draw,Q,e,hh=>by
   obtain⟨hb,hh⟩:=uX (hh:cond _ _ False)
   refine CT hb (CZ (fun e1⟨h6,hg⟩=>CU (fun e'⟨h1,h2,h3,h4,h5⟩=>Xc (X:=fun e'=>Fr h.gh (.region id ops draw) e e') h1 ⟨h2.trans hg.1,?_,fun t ht=>?_,hg.2.2.2.trans hg.2.1 fun i hi=>?_⟩) _ _ _ (LH _ _ _ h6)) (LZ hh))
   ·rw[h3]
    have:=hg.2.1
    simp;omega
   ·simp only[du,List.mem_append,not_or]at ht
    rw[h4 t ht.2,hg.2.2.1 t ht.1]
   ·have:=h5 i hi
    simp only[List.getD_eq_getElem?_getD]at this ⊢
    rw[List.getElem?_append_left hi]at this
    exact this
 | .seq a b,Q,e,hh=>by
   refine pa a (fun x e' hx=>?_) (p8 a hh)
   obtain⟨hx,hf⟩:=hx
   cases x with
   |normal=>exact pa b (fun y e2 hy=>⟨hy.1,hf.trans hy.2 (fun t ht=>by simp[du,ht]) (fun t ht=>by simp[du,ht])⟩) (p8 b hx)
   |exit i=>exact⟨hx,hf.mono fun t ht=>by simp[du,ht]⟩
   |ret=>exact⟨hx,hf.mono fun t ht=>by simp[du,ht]⟩
 | .cond c a b,Q,e,hh=>
   LI (A:=aw P gl (aF P gl) h a Q) (B:=aw P gl (aF P gl) h b Q)
    (fun ha=>pa a (fun y e2 hy=>⟨hy.1,hy.2.mono fun t ht=>by simp[du,ht]⟩) (p8 a ha)) (fun hb=>pa b (fun y e2 hy=>⟨hy.1,hy.2.mono fun t ht=>by simp[du,ht]⟩) (p8 b hb)) hh
 | .block id b,Q,e,hh=>by
   refine pa b (fun x e' hx=>?_) (p8 b hh)
   obtain⟨hx,hf⟩:=hx
   have jz:Fr h.gh (.block id b) e e':=hf
   cases x with
   |normal=>exact⟨hx,jz⟩
   |exit i=>
    have dE:cond (i==id) (Q .normal e') (Q (.exit i) e'):=hx
    show cond (i==id) (Q .normal e'∧Fr h.gh (.block id b) e e') (Q (.exit i) e'∧Fr h.gh (.block id b) e e')
    cases hb:(i==id)<;>rw[hb]at dE<;>exact⟨dE,jz⟩
   |ret=>exact⟨hx,jz⟩
 | .loop b,Q,e,hh=>by
   obtain⟨hb,hh⟩:=uX (hh:cond _ _ False)
   have hk:=(Bool.and_eq_true _ _▸hb).2
   refine CT hb fun I hI=>?_
   refine hh I fun vs bs hF=>hI vs bs (pa b (fun x e' hx=>?_) (p8 b hF))
   obtain⟨hx,hf⟩:=hx
   have jz:Fr h.gh (.loop b) e e':=(GS (vs:=vs) (bs:=bs) hk).trans (b:=b) hf (fun t ht=>ht) (fun t ht=>ht)
   cases x with
   |normal=>exact hx
   |exit i=>exact⟨hx,jz⟩
   |ret=>exact⟨hx,jz⟩
 | .exit id,_,e,hh=>⟨hh,Fr.refl _ _⟩
 | .ret,_,e,hh=>⟨hh,Fr.refl _ _⟩
 | .goto _,_,_,hh=>hh
 | .label _,_,_,hh=>hh
 | .scope _,_,_,hh=>hh
 | .rangeFunc _ _ _ _,_,_,hh=>hh
 | .refuse _,_,_,hh=>hh
end
end Go.Proofs.YtaknajjmldngiaaGreat.Ab
namespace Go.Proofs.YtaknajjmldngiaaGreat.Ab
open Go Go.RowKit
section
variable{P:Program}{gl:Nat→Option D}{h:Hints}
def Gh.cut(g:Gh)(n:Nat):Gh:={g with bx:=g.bx.take n}
theorem AF{g:Gh}{n i:Nat}{x:Option Nat}(hi:i<n):(g.cut n).bx[i]? =some x↔g.bx[i]? =some x:=by
 simp only[Gh.cut];rw[List.getElem?_take,if_pos hi]
theorem ye{g:Gh}{n i:Nat}{x:Option Nat}(h:(g.cut n).bx[i]? =some x):i<n∧g.bx[i]? =some x:=by
 simp only[Gh.cut]at h
 rw[List.getElem?_take]at h
 split at h
 ·exact⟨by assumption,h⟩
 ·cases h
theorem tk{g:Gh}{n:Nat}{x:Option Nat}(h:x∈(g.cut n).bx):x∈g.bx:=List.mem_of_mem_take h
theorem Hh{base:Nat}{w:World}{g:Gh}{n:Nat}{p:Pos}{b a c:Nat}(h:ga base w g p b a c):ga base w (g.cut n) p b a c:=
 ⟨h.1,h.2.1,fun hm=>h.2.2.1 (tk hm),h.2.2.2⟩
theorem Au{base zb:Nat}{w w1:World}{g g1:Gh}{s:Slot}{v v1:Value}{O O1:Nat→Nat→Nat→Nat→Prop}(h0:cH zb w g O s v)(h1:cH base w1 g1 O1 s v1){n:Nat}(hn:g.bx.length≤n):
  ∀O2,(∀x,s≠.v x)→(∀x,s≠.t x)→cH base w1 (g1.cut n) O2 s v1:=by
 have key:∀{s:Slot}{v1:Value}{O1:Nat→Nat→Nat→Nat→Prop},cH base w1 g1 O1 s v1→∀{O v},cH zb w g O s v→∀O2,(∀j b a c,O1 j b a c→O2 j b a c)→cH base w1 (g1.cut n) O2 s v1:=by
  intro s v1 O1 h1
  induction h1 with
  |v O1 x y hx=>intro O v _ O2 hO;exact .v _ _ _ (hx.mono (fun _ _ h=>(by first|exact⟨h,rfl⟩|exact⟨h,.refl _ _ _⟩)) (fun _ _ _=>rfl) _ (fun b a c h=>⟨hO 0 b a c h,.refl _ _ _⟩))
  |p O1 b off ao hb=>
   intro O v h0 O2 hO
   obtain⟨PC,_,mS⟩:=h0.jJ
   have:=(List.getElem?_eq_some_iff.1 mS).1
   exact .p _ b off ao ((AF (by omega)).2 hb)
  |a O1 b n1 vQ v hm hb=>
   intro O v h0 O2 hO
   cases h0 with
   |a _ _ _ _ _ _ mS=>
    obtain⟨PC,_,mS,_⟩:=mS
    obtain⟨ao,cap,hb,h2,h3⟩:=hb
    have:=(List.getElem?_eq_some_iff.1 mS).1
    exact .a _ b n1 vQ _ hm ⟨ao,cap,(AF (by omega)).2 hb,h2,h3⟩
  |m O1 b ao hb=>
   intro O v h0 O2 hO
   cases h0 with
   |m _ _ PC mS=>
    have:=(List.getElem?_eq_some_iff.1 mS).1
    exact .m _ b ao ((AF (by omega)).2 hb)
  |c O1 f first cap fv cv hf hc _ _ jt ju=>
   intro O v h0 O2 hO
   cases h0 with
   |c _ _ _ _ QX QY J0 mb rf0 rc0=>
    refine .c _ f first cap fv cv hf hc (fun i x v hx hv=>?_) (fun i x v hx hv=>?_)
    ·have hi:i<QX.size:=by rw[←J0];exact(List.getElem?_eq_some_iff.1 hx).1
     exact jt i x v hx hv (rf0 i x QX[i] hx (by simp)) _ (fun _ _ _ _ h=>h)
    ·have hi:i<QY.size:=by rw[←mb];exact(List.getElem?_eq_some_iff.1 hx).1
     exact ju i x v hx hv (rc0 i x QY[i] hx (by simp)) _ (fun _ _ _ _ h=>h)
  |t O1 xs vs hl hc=>
   intro O v _ O2 hO
   exact .t _ xs vs hl fun j x v a b=>(hc j x v a b).mono (fun _ _ h=>(by first|exact⟨h,rfl⟩|exact⟨h,.refl _ _ _⟩)) (fun _ _ _=>rfl) _ (fun b a c h=>⟨hO j b a c h,.refl _ _ _⟩)
 intro O2 hv ht
 cases h1 with
 |v _ x _ _=>exact absurd rfl (hv x)
 |t _ x _ _ _=>exact absurd rfl (ht x)
 |p _ b off ao hb=>exact key (.p O2 b off ao hb) h0 _ (fun _ _ _ _ h=>h)
 |a _ b n1 vQ _ hm hb=>exact key (.a O2 b n1 vQ _ hm hb) h0 _ (fun _ _ _ _ h=>h)
 |m _ b ao hb=>exact key (.m O2 b ao hb) h0 _ (fun _ _ _ _ h=>h)
 |c _ f first cap fv cv hf hc rf rc=>exact key (.c O2 f first cap fv cv hf hc rf rc) h0 _ (fun _ _ _ _ h=>h)
theorem MD{w0:World}{ay:S0}{e e1:Env}{a a1:Act}{w w1:World}{g g1:Gh}(hI:Inv gl w0 ay e a w g)(dz:Inv gl w0 ay e1 a1 w1 g1){b:Code}(hf:Fr h.gh b e e1){vars consts:List Nat}
  (hc:∀t∈consts,t∉du h.gh b):Inv gl w0 ay (again vars consts (pd e1 vars) (o7 e.boxes.length e1) e) a1 w1 (g1.cut e.boxes.length):=by
 have hX:Ext w0.heap.size w1 g1 w1 {g1 with bx:=g1.bx} (fun _=>False):=⟨fun _ _ hb ho h=>⟨h,hb,ho,fun _ h=>h⟩,fun _ _ h=>(by first|exact⟨h,rfl⟩|exact⟨h,.refl _ _ _⟩),fun _ _ _=>rfl,fun _ _ h=>h,fun _ _ _ _ _ h=>⟨h,.refl _ _ _⟩,.refl _⟩
 refine⟨dz.below,?_,?_,?_,?_,?_,dz.fT,?_,?_,?_,dz.defers,fun D o hD=>(have h:=dz.fe D o hD;⟨fun hm=>h.1 (tk hm),h.2⟩),dz.cls,dz.jv⟩
 ·rw[dz.size,hf.1];simp[again,FC]
 ·intro i s hs
  simp only[again,FE,Option.map_eq_some_iff,Nat.zero_add]at hs
  obtain⟨s0,lB,rfl⟩:=hs
  have h1:=lL dz i
  simp only[Act.eval]at h1
  split
  ·rename_i j hj
   obtain⟨_,pL⟩:=L1 hj
   simp only[Nat.sub_zero]at pL
   have hv:ae (pd e1 vars) j=(e1.an.getD i (.v .undef)).bu :=by
    simp[ae,pd,List.getD_eq_getElem?_getD,List.getElem?_map,pL]
   rw[hv]
   cases jb:e1.an.getD i (.v .undef)with
   |v x=>
    rw[jb]at h1
    exact .v _ _ _ (h1.ka.mono (fun _ _ h=>(by first|exact⟨h,rfl⟩|exact⟨h,.refl _ _ _⟩)) (fun _ _ _=>rfl) _ (fun _ _ _ h=>⟨Hh h,.refl _ _ _⟩))
   |_=>exact .v _ _ _ (.undef _ _)
  ·cases dJ:consts.contains i with
   |false=>exact .v _ _ _ (.undef _ _)
   |true=>
    have JS:=hc i (by simpa using dJ)
    have b4:=hf.2.2.1 i JS
    have aeL:e.an.getD i (.v .undef)=s0:=by rw[List.getD_eq_getElem?_getD,lB];rfl
    rw[aeL]at b4
    have h0:=hI.an i s0 lB
    cases s0 with
    |v x=>exact .v _ _ _ (.undef _ _)
    |t x=>exact .v _ _ _ (.undef _ _)
    |p b' off=>
     have jd:e1.an.getD i (.v .undef)=.p b' off:=by
      revert b4
      cases e1.an.getD i (.v .undef)<;>simp[Slot.stays]
     rw[jd]at h1
     exact Au h0 h1 (by rw[hI.fo];exact Nat.le_refl _) _ (by simp) (by simp)
    |a b' n1 vQ=>
     have jd:e1.an.getD i (.v .undef)=.a b' n1 vQ:=by
      revert b4
      cases e1.an.getD i (.v .undef)<;>simp[Slot.stays]
     rw[jd]at h1
     exact Au h0 h1 (by rw[hI.fo];exact Nat.le_refl _) _ (by simp) (by simp)
    |m b'=>
     have jd:e1.an.getD i (.v .undef)=.m b':=by
      revert b4
      cases e1.an.getD i (.v .undef)<;>simp[Slot.stays]
     rw[jd]at h1
     exact Au h0 h1 (by rw[hI.fo];exact Nat.le_refl _) _ (by simp) (by simp)
    |c f first cap=>
     have jd:e1.an.getD i (.v .undef)=.c f first cap:=by
      revert b4
      cases e1.an.getD i (.v .undef)<;>simp[Slot.stays]<;>intros<;>simp_all
     rw[jd]at h1
     exact Au h0 h1 (by rw[hI.fo];exact Nat.le_refl _) _ (by simp) (by simp)
 ·simp only[again,FD,Gh.cut,List.length_take,dz.fo]
  have:=hf.2.1
  omega
 ·intro b' bx ao h1 h2
  obtain⟨aV,h2⟩:=ye h2
  simp only[again,FF,Option.map_eq_some_iff,Nat.zero_add]at h1
  obtain⟨Cd,aeM,rfl⟩:=h1
  have PD:b'<e1.boxes.length:=by rw[←dz.fo];exact(List.getElem?_eq_some_iff.1 h2).1
  have hr:=dz.boxes b' e1.boxes[b'] ao (by simp) h2
  have vp:=hf.2.2.2 b' aV
  rw[List.getD_eq_getElem?_getD,List.getD_eq_getElem?_getD,aeM,List.getElem?_eq_getElem PD,Option.getD_some,Option.getD_some]at vp
  have adB:ak (o7 e.boxes.length e1) b'=e1.boxes[b'].ar :=by
   simp[ak,o7,List.getD_eq_getElem?_getD,List.getElem?_map,List.getElem?_take,aV,PD]
  rw[adB]
  generalize e1.boxes[b']=J1 at hr vp
  have vp:Cd≠.none ∧J1.isMap=Cd.isMap:=by
   rcases vp with h|h
   ·subst h;exact hr.elim
   ·exact h
  have rR:∀cs,J1.isMap=false→af.again cs Cd=.cells cs:=fun cs h=>by
   rw[h]at vp
   cases Cd<;>first|rfl|exact absurd rfl vp.1|exact absurd vp.2 (by simp[af.isMap])
  cases J1 with
  |none=>exact hr.elim
  |cells cs=>
   rw[rR _ rfl]
   obtain⟨r1,c,t,r2,r3,r4⟩:=hr
   exact⟨r1,c,t,r2,r3,r4.1,fun j x y hx hy=>(r4.2 j x y hx hy).mono (fun _ _ h=>(by first|exact⟨h,rfl⟩|exact⟨h,.refl _ _ _⟩)) (fun _ _ _=>rfl) _ (fun _ _ _ h=>⟨Hh h,.refl _ _ _⟩)⟩
  |one s=>
   rw[rR _ rfl]
   obtain⟨r1,c,t,r2,r3,r4⟩:=hr
   refine⟨r1,c,t,r2,r3,Nat.succ_le_of_lt r4.1,fun j x y hx hy=>?_⟩
   have:x=.undef :=by
    cases j<;>simp[af.ar]at hx
    exact hx.symm
   subst this
   exact .undef _ _
  |map l=>
   cases Cd with
   |map l0=>
    obtain⟨r1,es,clock,r2,r3,r4⟩:=hr
    exact⟨r1,es,clock,r2,r3,r4⟩
   |_=>exact absurd vp.2 (by simp[af.isMap])
 ·intro i j ao h1 h2
  exact dz.nodup i j ao (ye h1).2 (ye h2).2
 ·intro b' o h'
  exact⟨(dz.cP b' o h').1,fun hm=>(dz.cP b' o h').2.1 (tk hm),(dz.cP b' o h').2.2⟩
 ·intro b' h'
  exact dz.eb b' (tk h')
 ·exact dz.jK
theorem rC(hm:P.follows .mixedOrders =true):∀(c:Code){w0:World}{ay:S0}{QA:Ex→Env→Prop}{e:Env}{a:Act}{w:World}{g:Gh}{Q:Exit→Act→World→Prop},
  Inv gl w0 ay e a w g→aw P gl (aF P gl) h c QA e→(∀x e' a' w' g',Inv gl w0 ay e' a' w' g'→QA x e'→Q x.to a' w')→c.wp P Q a w
 | .skip,_,_,_,_,_,_,_,_,hI,hh,hQ=>wp_skip (hQ .normal _ _ _ _ hI hh)
 | .region id ops draw,w0,ay,QA,e,a,w,g,Q,hI,hh,hQ=>by
   obtain⟨hb,hh⟩:=uX (hh:cond _ _ False)
   obtain⟨e1,g1,dz,h1⟩:=GR hI hh
   exact V0 dz hm h1 fun e' a' w' g' bJ hk=>hQ .normal e' a' w' g' bJ hk
 | .seq x y,w0,ay,QA,e,a,w,g,Q,hI,hh,hQ=>by
   refine wp_seq (rC hm x hI hh fun ex e' a' w' g' bJ hk=>?_)
   cases ex with
   |normal=>exact rC hm y bJ hk hQ
   |exit i=>exact hQ (.exit i) e' a' w' g' bJ hk
   |ret=>exact hQ .ret e' a' w' g' bJ hk
 | .cond c x y,w0,ay,QA,e,a,w,g,Q,hI,hh,hQ=>by
   have hh:nF e c (aw P gl (aF P gl) h x QA) (aw P gl (aF P gl) h y QA):=hh
   cases c with
   |tmp t=>
    simp only[nF]at hh
    have hs:=lL hI t
    cases hx:e.an.getD t (.v .undef)with
    |v z=>
     rw[hx]at hh hs
     obtain⟨b,rfl,h1,h2⟩:=yr hh
     have hv:=hs.ka.data.rB
     refine wp_cond_split hv (fun hb=>?_) (fun hb=>?_)
     ·have:=h1 hb
      subst hb
      rw[ta hx]at this
      exact rC hm x hI this hQ
     ·have:=h2 hb
      subst hb
      rw[ta hx]at this
      exact rC hm y hI this hQ
    |_=>rw[hx]at hh;exact hh.elim
   |const v=>
    cases v with
    |bool b=>
     refine wp_cond_split (t:=b) rfl (fun hb=>?_) (fun hb=>?_)
     ·subst hb;exact rC hm x hI hh hQ
     ·subst hb;exact rC hm y hI hh hQ
    |_=>exact hh.elim
   |_=>exact hh.elim
 | .block id b,w0,ay,QA,e,a,w,g,Q,hI,hh,hQ=>by
   refine wp_block (rC hm b hI hh fun ex e' a' w' g' bJ hk=>?_)
   cases ex with
   |normal=>exact hQ .normal e' a' w' g' bJ hk
   |exit i=>
    have ef:cond (i==id) (QA .normal e') (QA (.exit i) e'):=hk
    show(if i=id then Q .normal a' w' else Q (.exit i) a' w')
    cases hb:(i==id)with
    |true=>
     rw[hb]at ef
     rw[if_pos (beq_iff_eq.1 hb)]
     exact hQ .normal e' a' w' g' bJ ef
    |false=>
     rw[hb]at ef
     rw[if_neg (beq_eq_false_iff_ne.1 hb)]
     exact hQ (.exit i) e' a' w' g' bJ ef
   |ret=>exact hQ .ret e' a' w' g' bJ hk
 | .loop b,w0,ay,QA,e,a,w,g,Q,hI,hh,hQ=>by
   obtain⟨hb,hh⟩:=uX (hh:cond _ _ False)
   simp only[Bool.and_eq_true,List.all_eq_true,Bool.not_eq_true',List.contains_eq_mem,decide_eq_false_iff_not]at hb
   obtain⟨IJ,hk⟩:=hb
   let LW:Act→World→Prop:=fun a1 w1=>∀(fr:Frame)(k:List Item)(cs:List Frame),∃ex a' w',Q ex a' w'∧Arrives P (lone (fr.at a1 (.code b::.inLoop b::k)) cs w1) fr k cs ex a' w'
   let I:List SV→List (List SV)→Prop:=fun vs bs=>∀e1 a1 w1 g1,Inv gl w0 ay e1 a1 w1 g1→Fr h.gh b e e1→pd e1 (kY h.eQ (jF b)).1=vs→o7 e.boxes.length e1=bs→LW a1 w1
   have key:I _ _:=hh I fun vs bs hF e1 a1 w1 g1 dz qT jy gE=>by
    subst jy gE
    have J2:=MD hI dz qT (vars:=(kY h.eQ (jF b)).1) IJ
    have A7:=rC hm b (Q:=fun ex a' w'=>match ex with| .normal =>LW a' w'|ex=>Q ex a' w') J2 (p8 b hF) (fun ex e' a' w' g' bJ ef=>by
     obtain⟨jg,km⟩:=ef
     cases ex with
     |normal=>exact jg e' a' w' g' bJ ((GS hk).trans km (fun t ht=>ht) (fun t ht=>ht)) rfl rfl
     |exit i=>exact hQ (.exit i) e' a' w' g' bJ jg
     |ret=>exact hQ .ret e' a' w' g' bJ jg)
    intro fr k cs
    obtain⟨ex,a2,w2,hq,lr⟩:=A7 fr (.inLoop b::k) cs
    cases ex with
    |normal=>
     obtain⟨e₂,a₂,w₂,J3,Ic⟩:=hq fr k cs
     exact⟨e₂,a₂,w₂,J3,.of_steps (Steps.trans lr (.one step_inLoop)) Ic⟩
    |exit id=>exact⟨_,a2,w2,hq,.pass (x:=.inLoop b) rfl (fun _ _=>.inl (by simp)) lr⟩
    |goto l=>exact⟨_,a2,w2,hq,.pass (x:=.inLoop b) rfl (fun _ _=>.inl (by simp)) lr⟩
    |ret=>exact⟨_,a2,w2,hq,.pass (x:=.inLoop b) rfl (fun _ _=>.inl (by simp)) lr⟩
    |panic ch=>exact⟨_,a2,w2,hq,.pass (x:=.inLoop b) rfl (fun _ _=>.inl (by simp)) lr⟩
    |outgrown=>exact⟨_,a2,w2,hq,.pass (x:=.inLoop b) rfl (fun _ _=>.inl (by simp)) lr⟩
   have J4:LW a w:=key e a w g hI (Fr.refl _ _) rfl rfl
   intro fr k cs
   obtain⟨ex,a',w',hq,lr⟩:=J4 fr k cs
   exact⟨ex,a',w',hq,.of_steps (.one step_loop) lr⟩
 | .exit id,_,_,_,_,_,_,_,_,hI,hh,hQ=>wp_exit (hQ (.exit id) _ _ _ _ hI hh)
 | .ret,_,_,_,_,_,_,_,_,hI,hh,hQ=>wp_ret (hQ .ret _ _ _ _ hI hh)
 | .goto _,_,_,_,_,_,_,_,_,_,hh,_=>hh.elim
 | .label _,_,_,_,_,_,_,_,_,_,hh,_=>hh.elim
 | .scope _,_,_,_,_,_,_,_,_,_,hh,_=>hh.elim
 | .rangeFunc _ _ _ _,_,_,_,_,_,_,_,_,_,hh,_=>hh.elim
 | .refuse _,_,_,_,_,_,_,_,_,_,hh,_=>hh.elim
end
end Go.Proofs.YtaknajjmldngiaaGreat.Ab
namespace Go.Proofs.YtaknajjmldngiaaGreat.Ab
open Go Go.RowKit
section
variable{P:Program}{gl:Nat→Option D}{h:Hints}
theorem V5{f:FuncId}{fn:Func}{c:Code}(hf:P.funcs[f]? =some fn)(Ie:(fn.name== "runtime.NumGoroutine")=false)(hb:fn.body=some c):gH P f:=by
 intro args w
 have h1:fn.name≠ "runtime.NumGoroutine" :=by simpa using Ie
 simp[callFunc,hf,h1,hb]
theorem bd.zb{w:World}{St:Nat→Nat→Prop}{base:Nat}{O:Nat→Nat→Nat→Prop}{x:SV}{v:Value}(r:bd w St base O x v)(hx:x.aj=true):bd w St 0 O x v:=by
 have hL:∀{l:List SV},SV.mr l=true→∀(i:Nat)y,l[i]? =some y→y.aj=true:=by
  intro l
  induction l with
  |nil=>intro _ i y h;simp at h
  |cons z l ih=>
   intro h i y hy
   simp only[SV.mr,Bool.and_eq_true]at h
   cases i with
   |zero=>simp at hy;subst hy;exact h.1
   |succ i=>exact ih h.2 i y (by simpa using hy)
 induction r with
 |d O x v hd=>exact .d O x v hd
 |own O sz L g cap hd b9 ho=>exact .own O sz L g cap hd b9 ho
 |full O sz L a hd=>exact .full O sz L a hd
 |ref=>simp[SV.aj]at hx
 |aA O x off b o vs hf bF hc=>exact .aA O x off b o vs hf bF hc
 |dX O f first cap fv cv hf hc _ _ jt ju=>
  simp only[SV.aj,Bool.and_eq_true]at hx
  exact .dX O f first cap fv cv hf hc (fun i x v a b=>jt i x v a b (hL hx.1 i x a)) (fun i x v a b=>ju i x v a b (hL hx.2 i x a))
 |cA O sz L g cap vs h1 h2 h3 h4 h5 h6 h7=>exact .cA O sz L g cap vs h1 h2 h3 h4 h5 h6 h7
 |mp O l r es clock hh hs hl hc=>exact .mp O l r es clock hh hs hl hc
 |undef O v=>exact .undef O v
theorem bd.Yv{w:World}{St:Nat→Nat→Prop}{base:Nat}{O:Nat→Nat→Nat→Prop}{l:List SV}{v:Value}(r:bd w St base O (.cR l) v):False:=by cases r
def wg(r:ResultVar)(tmps:Array Value):Sem Value:=match r with
 | .tmp t=>pure (tmps.getD t undef)
 | .cell a t=>do loadVar t (←asAddr (tmps.getD a undef))
theorem Vh(fn:Func)(tmps:Array Value):results fn tmps=(fn.results.mapM fun r=>wg r tmps)>>=fun vs=>pure (if h:vs.size=1 then vs[0]else .tuple vs):=by
 unfold results
 congr 1
def OF(rs:List ResultVar):Pos→Option Nat
 | .s t 0=>rs.findIdx? fun r=>match r with| .tmp u=>u==t|_=>false
 |_=>none
def Ed(g:Gh)(rs:List ResultVar)(b:Nat):Option Nat:=(g.ow b).bind (OF rs)
theorem Np{w0:World}{ay:S0}{e:Env}{a:Act}{w:World}{g:Gh}(hI:Inv gl w0 ay e a w g){rs:List ResultVar}{used:List Nat}{j:Nat}{r:ResultVar}(hr:rs[j]? =some r)
  (adC:∀i u,i<j→rs[i]? =some (.tmp u)→u∈used){k:SV→Prop}(hh:tE P e used r k):
  ∃x v,k x∧(wg r a.tmps).run P w=.ok v w∧bd w g.St 0 (tF w0.heap.size w g.St (Ed g rs) j) x v:=by
 cases r with
 |tmp t=>
  simp only[tE]at hh
  have hs:=lL hI t
  cases hx:e.an.getD t (.v .undef)with
  |v x=>
   rw[hx]at hh hs
   obtain⟨hn,hk⟩:=hh
   refine⟨_,a.tmps.getD t undef,hk,rfl,?_⟩
   have hv:bd w g.St 0 (gJ w0.heap.size w g t 0) x (a.tmps.getD t undef):=hs.ka.zb hn
   cases hu:used.contains t with
   |true=>exact hv.aa
   |false=>
    refine hv.mono (fun _ _ h=>(by first|exact⟨h,rfl⟩|exact⟨h,.refl _ _ _⟩)) (fun _ _ _=>rfl) _ fun b a' c ho=>⟨?_,.refl _ _ _⟩
    obtain⟨o1,o2,_,o4,o5⟩:=ho
    refine⟨?_,o2,o4,o5⟩
    simp only[Ed,o1,Option.bind_some,OF]
    rw[List.findIdx?_eq_some_iff_getElem]
    have hj:j<rs.length:=(List.getElem?_eq_some_iff.1 hr).1
    have JR:rs[j]=.tmp t:=(List.getElem?_eq_some_iff.1 hr).2
    refine⟨hj,by simp[JR],fun i hi=>?_⟩
    have kj:i<rs.length:=by omega
    cases xy:rs[i]with
    |tmp u=>
     have:=adC i u hi (by rw[List.getElem?_eq_getElem kj,xy])
     have ck:u≠t:=by
      rintro rfl
      simp at hu
      exact hu this
     simpa using ck
    |cell _ _=>simp
  |_=>rw[hx]at hh;exact hh.elim
 |cell c t=>
  simp only[tE]at hh
  obtain⟨ly,hl,hh⟩:=aK hh
  obtain⟨b0,n⟩:=ly
  have hs:=lL hI c
  cases hx:e.an.getD c (.v .undef)with
  |p bn off=>
   rw[hx]at hh hs
   obtain⟨ao,hv,c7⟩:=hs.jJ
   simp only[Act.eval]at hv
   change np b0 n bn off e.boxes _ at hh
   unfold np at hh
   split at hh
   ·rename_i cs cp
    obtain⟨y,hy,hn,hk⟩:=aK hh
    obtain⟨h0,cc,ty,hc,ct,hlen,bt⟩:=hI.boxes bn _ ao cp c7
    obtain⟨v,h1,h2⟩:=F8 (w:=w) (off:=off) (St:=g.St) (O:=fun j=>po w0.heap.size w g bn j) hl hy ao 0 (fun i=>cc.getD i undef) (fun i hi=>by
     rw[cell_of_row w ao (0+i) cc ty (0,0) hc];simp[Nat.lt_of_lt_of_le hi hlen]) (fun i d hd=>by
     have hi:=(List.getElem?_eq_some_iff.1 hd).1
     exact bt i d _ hd (by simp[Nat.lt_of_lt_of_le hi hlen])) (fun i hi=>by
     have eF:i<cc.size:=Nat.lt_of_lt_of_le hi hlen
     simp[eF];exact ct i _ hi (by simp))
    simp only[Nat.zero_add]at h1
    refine⟨_,v,hk,?_,(h2.aa (O':=fun _ _ _=>False)).zb hn |>.mono (fun _ _ h=>(by first|exact⟨h,rfl⟩|exact⟨h,.refl _ _ _⟩)) (fun _ _ _=>rfl) _ (fun _ _ _ h=>h.elim)⟩
    simp[wg,hv,asAddr,h1]
   ·rename_i s gT
    cases b0 with
    |true=>exact hh.elim
    |false=>
     simp only[cond_false]at hh
     split at hh
     ·obtain⟨h0,cc,ty,hc,ct,aQ,bt⟩:=hI.boxes bn _ ao gT c7
      have B0:cc[0]? =some (cc[0]'(by omega)):=by simp
      have hd:=(bt _ B0).aa (O':=fun _ _ _ _=>False)
      split at hh
      ·rename_i x dE
       obtain⟨hn,hk⟩:=hh
       rw[dE]at hd
       refine⟨x,cc[0]'(by omega),hk,?_,hd.ka.zb hn |>.mono (fun _ _ h=>(by first|exact⟨h,rfl⟩|exact⟨h,.refl _ _ _⟩)) (fun _ _ _=>rfl) _ (fun _ _ _ h=>h.elim)⟩
       have bz:=uT (P:=P) (w:=w) (vs:=fun _=>cc[0]'(by omega)) hl ao 0 (fun j hj=>by
        simp at hj;subst hj
        rw[cell_of_row w ao (0+0) cc ty (0,0) hc];exact B0)
       simp[wg,hv,asAddr,bz]
      ·exact hh.elim
     ·exact hh.elim
   ·exact hh.elim
  |_=>rw[hx]at hh;exact hh.elim
theorem ME{w0:World}{ay:S0}{e:Env}{a:Act}{w:World}{g:Gh}(hI:Inv gl w0 ay e a w g){rs:List ResultVar}:∀(l:List ResultVar)(used:List Nat)(j:Nat)(k:List SV→Prop),(∀i,l[i]? =rs[j+i]?)→
  (∀i u,i<j→rs[i]? =some (.tmp u)→u∈used)→rV P e used l k→
  ∃xs vs,k xs∧xs.length=l.length∧(l.mapM fun r=>wg r a.tmps).run P w=.ok vs w∧vs.length=l.length∧∀(i:Nat)x v,xs[i]? =some x→vs[i]? =some v→bd w g.St 0 (tF w0.heap.size w g.St (Ed g rs) (j+i)) x v
 |[],_,_,k,_,_,hh=>⟨[],[],hh,rfl,by simp,rfl,fun i x v h=>by simp at h⟩
 |r::l,used,j,k,hl,hu,hh=>by
  simp only[rV]at hh
  have hr:rs[j]? =some r:=by simpa using(hl 0).symm
  obtain⟨x,v,hk,bz,bt⟩:=Np hI hr hu hh
  obtain⟨xs,vs,ef,J5,adD,xC,Ea⟩:=ME hI l (AU used r) (j+1) _ (fun i=>by have:=hl (i+1);simpa[Nat.add_assoc,Nat.add_comm 1 i]using this) (fun i u hi xy=>by
   rcases Nat.lt_or_ge i j with h'|h'
   ·have:=hu i u h' xy
    cases r<;>simp[AU,this]
   ·have:i=j:=by omega
    subst this
    rw[hr]at xy
    cases xy
    simp[AU]) hk
  refine⟨x::xs,v::vs,ef,by simp[J5],?_,by simp[xC],fun i y u hy hv=>?_⟩
  ·simp[List.mapM_cons,bz,adD]
  ·cases i with
   |zero=>simp at hy hv;subst hy hv;exact bt
   |succ i=>
    have:=Ea i y u (by simpa using hy) (by simpa using hv)
    rw[show j+(i+1)=j+1+i by omega]
    exact this
theorem CJ{fn:Func}{tmps:Array Value}{vs:List Value}{w:World}(hh:(fn.results.toList.mapM fun r=>wg r tmps).run P w=.ok vs w):
  (results fn tmps).run P w=.ok (match vs with|[v]=>v|vs=>.tuple vs.toArray) w:=by
 rw[Vh,Array.mapM_eq_mapM_toList]
 simp only[Sem.run_bind,map_eq_pure_bind,hh,Result.andThen_ok,Sem.run_pure]
 match vs with
 |[]=>simp
 |[v]=>simp
 |v::u::l=>simp
theorem Gi{w0:World}{ay:S0}{e:Env}{a:Act}{w:World}{g:Gh}(hI:Inv gl w0 ay e a w g){fn:Func}{K:SV→Prop}(hh:finish P fn e K):
  ∃r v,K r∧(results fn a.tmps).run P w=.ok v w∧rO w0.heap.size w g.St (Ed g fn.results.toList) r v:=by
 unfold finish at hh
 split at hh
 ·rename_i r hr
  have J6:fn.results.toList[0]? =some r:=by rw[hr];rfl
  obtain⟨x,v,hk,bz,bt⟩:=Np hI J6 (fun i u hi=>by omega) hh
  refine⟨x,v,hk,?_,?_⟩
  ·have:=CJ (P:=P) (fn:=fn) (tmps:=a.tmps) (w:=w) (vs:=[v]) (by rw[hr];simp[bz])
   exact this
  ·cases x with
   |cR l=>exact bt.Yv.elim
   |_=>exact bt
 ·rename_i ck
  obtain⟨xs,vs,hk,J5,bz,xC,bt⟩:=ME hI (rs:=fn.results.toList) fn.results.toList [] 0 _ (fun i=>by simp) (fun i u hi=>by omega) hh
  refine⟨.cR xs,.tuple vs.toArray,hk,?_,vs.toArray,rfl,by simp[J5,xC],fun j x y hx hy=>?_⟩
  ·rw[CJ bz]
   split
   ·rename_i v
    exfalso
    match J7:fn.results.toList with
    |[]=>rw[J7]at xC;simp at xC
    |[r]=>exact ck r J7
    |_::_::_=>rw[J7]at xC;simp at xC
   ·rfl
  ·have:=bt j x y hx (by simpa using hy)
   simpa using this
theorem cG(hm:P.follows .mixedOrders =true){f:FuncId}{args:List SV}{r:SV}(hE:gH P f)(hh:body P gl (aF P gl) h f args fun x=>x=r):aF P gl f args r:=by
 refine⟨hE,fun w St vs mc nP hlen fp=>?_⟩
 unfold body at hh
 split at hh
 ·rename_i fn hf
  split at hh
  ·rename_i c hb
   have aW:SV.fS args:=by
    rw[SV.iA]
    intro x hx
    obtain⟨i,hi,rfl⟩:=List.mem_iff_getElem.1 hx
    exact(fp i _ (vs[i]'(by omega)) (by simp) (by simp)).wf
   have hh:=hh aW
   have hI:Inv gl w {St:=St,df:=fun _ _=>False,cl:=fun _ _ _=>False} (enter fn.ntmps args) {tmps:=vs++Array.replicate (fn.ntmps-vs.size) undef,defers:=[]} w ⟨St,[],fun _=>none⟩:=by
    refine⟨Below.refl _ _,by simp[enter,hlen],fun i s hs=>?_,rfl,fun b bx ao h1=>by simp[enter]at h1,fun i j ao h1=>by simp at h1,fun _ _ h=>h,fun b o hb=>⟨.inl hb,by simp,mc b o hb⟩,fun b hb=>by simp at hb,nP,rfl,fun D o hD=>hD.elim,fun b o v hv=>hv.elim,Nat.zero_le _⟩
    simp only[enter]at hs
    rw[List.getElem?_append]at hs
    split at hs
    ·rename_i hi
     simp only[List.length_map]at hi
     simp only[List.getElem?_map,Option.map_eq_some_iff]at hs
     obtain⟨x,hx,rfl⟩:=hs
     have J8:i<vs.size:=by omega
     have:=fp i x vs[i] hx (by simp)
     have kJ:(vs++Array.replicate (fn.ntmps-vs.size) undef).getD i undef=vs[i]:=by
      simp[Array.getElem?_append,J8]
     rw[kJ]
     exact .v _ _ _ (this.mono (fun _ _ h=>(by first|exact⟨h,rfl⟩|exact⟨h,.refl _ _ _⟩)) (fun _ _ _=>rfl) _ (fun _ _ _ h=>h.elim))
    ·have:=(List.mem_replicate.1 (List.mem_of_getElem? hs)).2
     subst this
     exact .v _ _ _ (.undef _ _)
   refine calls_of_wp hf hb (rC hm c hI hh fun ex e' a' w' g' bJ hk=>?_)
   have Eu:∀{K},finish P fn e' K→(∀x,K x→x=r)→a'.defers=[]∧∃v,(results fn a'.tmps).run P w'=.ok v w'∧(∃v',(Ending.returned v)=.returned v'∧Below w.heap.size w w'∧∃cK ow,(∀b o,St b o→cK b o)∧
     (∀b o,cK b o→St b o∨(w.heap.size≤b∧b<w'.heap.size))∧rO w.heap.size w' cK ow r v'):=by
    intro K hk hKr
    obtain⟨r',v,jg,bz,bt⟩:=Gi bJ hk
    have:=hKr r' jg
    subst this
    exact⟨bJ.defers,v,bz,v,rfl,bJ.below,g'.St,_,bJ.fT,fun b o h=>(bJ.cP b o h).1.imp id fun h1=>⟨h1,(bJ.cP b o h).2.2⟩,bt⟩
   cases ex with
   |normal=>exact Eu hk fun x hx=>hx
   |exit i=>exact hk.elim
   |ret=>exact Eu hk fun x hx=>hx
  ·exact hh.elim
 ·exact hh.elim
end
end Go.Proofs.YtaknajjmldngiaaGreat.Ab
namespace Go.Proofs.YtaknajjmldngiaaGreat.Ab
open Go
def sc(x:SV):Option SV:=match x with| .d (.str s)=>some (.d (.int .i64 s.length))|_=>none
def aD(x:SV):Option SV:=match yq x with|some L=>some (.d (.int .i64 L.length))|none=>none
def zc(k:IntKind)(x:SV):Option SV:=match x with
 | .d (.int _ n)=>some (.d (.int k (k.wrap n)))
 | .d (.str _)=>none
 |_=>none
def HL(x:SV)(lo hi mx:Option SV):Option SV:=match x,mx with
 | .d (.str s),none=>(match DI s lo hi with|some r=>some (.d (.str r))|none=>none)
 |_,_=>none
def DR(s:Nat)(x:SV)(lo hi mx:Option SV):Option SV:=match cS x with
 |some (.sl k sz L)=>(match y6 L lo hi,mx with
  |some r,none=>(match k with| .nil =>some (.d (.sl .nil s []))| .ro =>if sz=s then some (.d (.sl .ro sz r))else none)
  |some r,some m=>(match hi,dD m (L.length+1)with
   |some h,some _=>(match h,m with
    | .d (.int _ a),.d (.int _ b)=>if a=b then(match k with| .nil =>some (.d (.sl .nil s []))| .ro =>if sz=s then some (.full sz r)else none)else none
    |_,_=>none)
   |_,_=>none)
  |none,_=>none)
 |_=>none
def aM:List (Nat×Slot)→Option (List (Nat×D))
 |[]=>some []
 |(i,s)::l=>match s with
  | .v y=>(match cS y with
    |some z=>(match aM l with|some r=>some ((i,z)::r)|none=>none)
    |none=>none)
  |_=>none
end Go.Proofs.YtaknajjmldngiaaGreat.Ab
namespace Go.Proofs.YtaknajjmldngiaaGreat.Ab
open Go Go.RowKit Go.ChangeShapes Go.WideShapes
inductive RL{α β:Type}(R:α→β→Prop):List α→List β→Prop
 |nil:RL R [] []
 |cons {a:α} {b:β} {l:List α} {m:List β} (h:R a b) (t:RL R l m):RL R (a::l) (b::m)
section
variable{α β:Type}{R S:α→β→Prop}
theorem RL.length{l:List α}{m:List β}(h:RL R l m):l.length=m.length:=by induction h<;>simp_all
theorem RL.append{l l':List α}{m m':List β}(h:RL R l m)(h':RL R l' m'):RL R (l++l') (m++m'):=by
 induction h with
 |nil=>exact h'
 |cons h _ ih=>exact .cons h ih
theorem RL.mono(hm:∀a b,R a b→S a b){l:List α}{m:List β}(h:RL R l m):RL S l m:=by
 induction h with
 |nil=>exact .nil
 |cons h _ ih=>exact .cons (hm _ _ h) ih
theorem RL.get{l:List α}{m:List β}(h:RL R l m):∀(i:Nat)(a:α)(b:β),l[i]? =some a→m[i]? =some b→R a b:=by
 induction h with
 |nil=>intro i a b h;simp at h
 |cons h _ ih=>
  intro i a b ha hb
  cases i with
  |zero=>simp at ha hb;subst ha hb;exact h
  |succ i=>exact ih i a b (by simpa using ha) (by simpa using hb)
end
def pack(b:Bool)(xs:List D):D:=match b,xs with
 |true,xs=>.agg xs
 |false,[x]=>x
 |false,_=>.nt
inductive Is(P:Program):TypeId→List D→Prop
 |bool {t:TypeId} (h:P.underlying t=some .bool) (b:Bool):Is P t [.bool b]
 |int {t:TypeId} {k:IntKind} (h:P.underlying t=some (.int k)) (n:Int) (hn:gv k n=true):Is P t [.int k n]
 |str {t:TypeId} (h:P.underlying t=some .string) (s:List UInt8) (hs:s.length≤maxLen):Is P t [.str s]
 |jm {t e:TypeId} (h:P.underlying t=some (.slice e)):Is P t [.sl .nil 0 []]
 |sl {t e:TypeId} (h:P.underlying t=some (.slice e)) (b:Bool) (hb:dh P e=some b) (L:List (List D)) (hm:L.length≤maxLen) (hL:∀x∈L,Is P e x):
   Is P t [.sl .ro (P.cellsOf e) (L.map (pack b))]
 |struct {t:TypeId} {fs:Array Field} (h:P.underlying t=some (.struct fs)) (parts:List (List D)) (hl:parts.length=fs.size)
   (hp:∀(i:Nat)f p,fs[i]? =some f→parts[i]? =some p→Is P f.type p):Is P t parts.flatten
 |array {t e:TypeId} {n:Nat} (h:P.underlying t=some (.array n e)) (parts:List (List D)) (hl:parts.length=n) (hp:∀p∈parts,Is P e p):Is P t parts.flatten
section
variable{P:Program}{t:TypeId}{xs:List D}
theorem Is.rB(ht:P.underlying t=some .bool)(h:Is P t xs):∃b,xs=[.bool b]:=by
 cases h with
 |bool _ b=>exact⟨b,rfl⟩
 |_=>simp_all
theorem Is.o8{k:IntKind}(ht:P.underlying t=some (.int k))(h:Is P t xs):∃n,xs=[.int k n]∧gv k n=true:=by
 cases h with
 |int h n hn=>rw[ht]at h;cases h;exact⟨n,rfl,hn⟩
 |_=>simp_all
theorem Is.ti(ht:P.underlying t=some .string)(h:Is P t xs):∃s,xs=[.str s]∧s.length≤maxLen:=by
 cases h with
 |str h s hs=>exact⟨s,rfl,hs⟩
 |_=>simp_all
theorem Is.k9{e:TypeId}{b:Bool}(ht:P.underlying t=some (.slice e))(hb:dh P e=some b)(h:Is P t xs):
  xs=[.sl .nil 0 []]∨∃L:List (List D),xs=[.sl .ro (P.cellsOf e) (L.map (pack b))]∧L.length≤maxLen∧∀x∈L,Is P e x:=by
 cases h with
 |jm h=>exact .inl rfl
 |sl h b' eK L hm hL=>rw[ht]at h;cases h;rw[hb]at eK;cases eK;exact .inr ⟨L,rfl,hm,hL⟩
 |_=>simp_all
theorem Is.ku{fs:Array Field}(ht:P.underlying t=some (.struct fs))(h:Is P t xs):
  ∃parts:List (List D),xs=parts.flatten∧parts.length=fs.size∧∀(i:Nat)f p,fs[i]? =some f→parts[i]? =some p→Is P f.type p:=by
 cases h with
 |struct h parts hl hp=>rw[ht]at h;cases h;exact⟨parts,rfl,hl,hp⟩
 |_=>simp_all
theorem Is.V6{e:TypeId}{n:Nat}(ht:P.underlying t=some (.array n e))(h:Is P t xs):∃parts:List (List D),xs=parts.flatten∧parts.length=n∧∀p∈parts,Is P e p:=by
 cases h with
 |array h parts hl hp=>rw[ht]at h;cases h;exact⟨parts,rfl,hl,hp⟩
 |_=>simp_all
end
def rW(P:Program):List Field→Nat→Option Nat
 |[],n=>some n
 |f::fs,n=>bif Nat.beq f.offset n then rW P fs (n+P.cellsOf f.type)else none
def qU(P:Program)(L:List Nat)(t:TypeId):Bool:=match P.underlying t with
 |some .bool =>Nat.beq (P.cellsOf t) 1
 |some (.int _)=>Nat.beq (P.cellsOf t) 1
 |some .string =>Nat.beq (P.cellsOf t) 1
 |some (.slice e)=>Nat.beq (P.cellsOf t) 1&&L.contains e&&Nat.ble 1 (P.cellsOf e)
 |some (.array n e)=>L.contains e&&Nat.beq (P.cellsOf t) (n*P.cellsOf e)
 |some (.struct fs)=>fs.toList.all (fun f=>L.contains f.type)&&(match rW P fs.toList 0 with|some n=>Nat.beq n (P.cellsOf t)|none=>false)
 |_=>false
def rJ(P:Program)(L:List Nat):Bool:=L.all (qU P L)
section
variable{P:Program}{L:List Nat}
theorem GU:∀(fs:List Field)(n m:Nat),rW P fs n=some m→m=n+(fs.map fun f=>P.cellsOf f.type).sum
 |[],n,m,h=>by simp[rW]at h;simp[h]
 |f::fs,n,m,h=>by
  simp only[rW]at h
  cases hb:Nat.beq f.offset n<;>rw[hb]at h
  ·cases h
  ·have:=GU fs _ _ h
   simp only[List.map_cons,List.sum_cons]
   omega
theorem Nq:∀(fs:List Field)(n m:Nat),rW P fs n=some m→∀(j:Nat)f,fs[j]? =some f→f.offset=n+((fs.take j).map fun f=>P.cellsOf f.type).sum
 |[],n,m,h,j,f,hj=>by simp at hj
 |f::fs,n,m,h,j,g,hj=>by
  simp only[rW]at h
  cases hb:Nat.beq f.offset n<;>rw[hb]at h
  ·cases h
  ·have hn:=Nat.eq_of_beq_eq_true hb
   cases j with
   |zero=>simp at hj;subst hj;simp[hn]
   |succ j=>
    have:=Nq fs _ _ h j g (by simpa using hj)
    simp only[List.take_succ_cons,List.map_cons,List.sum_cons]
    omega
theorem tc(h:rJ P L=true){t:TypeId}(ht:t∈L):qU P L t=true:=List.all_eq_true.1 h t ht
theorem Us(h:rJ P L=true):Kids P (· ∈L) where
 pointer:=fun{t e}ht hu=>by have:=tc h ht;simp[qU,hu]at this
 slice:=fun{t e}ht hu=>by have:=tc h ht;simp[qU,hu]at this;exact this.1.2
 array:=fun{t e n}ht hu=>by
  have:=tc h ht
  simp only[qU,hu,Bool.and_eq_true]at this
  exact⟨by simpa using this.1,Nat.eq_of_beq_eq_true this.2⟩
 struct:=fun{t fs}ht hu=>by
  have:=tc h ht
  simp only[qU,hu,Bool.and_eq_true]at this
  refine⟨fun f hf=>by simpa using List.all_eq_true.1 this.1 f hf,?_⟩
  have h2:=this.2
  split at h2
  ·rename_i n hn
   have e:=Nat.eq_of_beq_eq_true h2
   refine⟨by rw[←e,GU _ _ _ hn];omega,fun j f hj=>by rw[Nq _ _ _ hn j f hj];omega⟩
  ·cases h2
 map:=fun{t k e}ht hu=>by have:=tc h ht;simp[qU,hu]at this
theorem Vi(h:rJ P L=true){t e:TypeId}(ht:t∈L)(hu:P.underlying t=some (.slice e)):0<P.cellsOf e:=by
 have:=tc h ht
 simp[qU,hu]at this
 omega
theorem L3{β:Type}(cs:List β):∀(fs:List Field)(n m:Nat),rW P fs n=some m→cs.length=m→cs.drop n=(fs.map fun f=>(cs.drop f.offset).take (P.cellsOf f.type)).flatten
 |[],n,m,h,hm=>by simp[rW]at h;simp;omega
 |f::fs,n,m,h,hm=>by
  simp only[rW]at h
  cases hb:Nat.beq f.offset n<;>rw[hb]at h
  ·cases h
  ·have hn:=Nat.eq_of_beq_eq_true hb
   have ih:=L3 cs fs _ _ h hm
   simp only[List.map_cons,List.flatten_cons,←ih,hn]
   rw[←List.drop_drop,List.take_append_drop]
theorem MF{β:Type}(s:Nat):∀(n:Nat)(cs:List β),cs.length=n*s→cs=((List.range n).map fun i=>(cs.drop (i*s)).take s).flatten
 |0,cs,h=>by simp at h;subst h;rfl
 |n+1,cs,h=>by
  rw[List.range_succ_eq_map,List.map_cons,List.flatten_cons,List.map_map]
  have ih:=MF s n (cs.drop s) (by rw[List.length_drop,h,Nat.add_mul];omega)
  have:((fun i=>(cs.drop (i*s)).take s) ∘ Nat.succ)=fun i=>((cs.drop s).drop (i*s)).take s:=by
   funext i
   simp only[Function.comp,List.drop_drop]
   rw[Nat.succ_mul,Nat.add_comm]
  rw[this,←ih]
  simp
end
section
variable{H:Type}{enc:TypeId×Value→H}{P:Program}{w:World}{L:List Nat}
def tL(ps:List MemPlace)(b o:Nat):Prop:=MemPlace.cell b o∈ps
def sd(w:World)(ps:List MemPlace)(c:D)(v:Value):Prop:=c.one=true∧bj w (tL ps) c v
theorem sd.mono{ps qs:List MemPlace}(h:∀p∈ps,p∈qs)(c:D)(v:Value)(r:sd w ps c v):sd w qs c v:=⟨r.1,r.2.mono fun b o hb=>⟨h _ hb,rfl⟩⟩
theorem Vj{b:Bool}{e:TypeId}(hL:rJ P L=true)(he:e∈L)(hb:dh P e=some b){x:List D}(hx:Is P e x):(pack b x).cells =x∨∃y,x=[y]∧b=false:=by
 cases b with
 |true=>exact .inl rfl
 |false=>
  right
  unfold dh at hb
  cases hx with
  |bool h b=>exact⟨_,rfl,rfl⟩
  |int h n hn=>exact⟨_,rfl,rfl⟩
  |str h s hs=>exact⟨_,rfl,rfl⟩
  |jm h=>exact⟨_,rfl,rfl⟩
  |sl h=>exact⟨_,rfl,rfl⟩
  |struct h=>rw[h]at hb;cases hb
  |array h=>rw[h]at hb;cases hb
theorem Ut{b:Bool}{e:TypeId}(hL:rJ P L=true)(he:e∈L)(hb:dh P e=some b){x:List D}(hx:Is P e x)(h1:∀c∈x,c.one=true):(pack b x).cells =x:=by
 rcases Vj hL he hb hx with h|⟨y,rfl,rfl⟩
 ·exact h
 ·have:=h1 y (by simp)
  cases y<;>first|rfl|simp[D.one]at this
theorem Yw(hL:rJ P L=true):∀(fuel:Nat)(t:TypeId)(cs:List Value)(x:DataW H×List MemPlace),t∈L→DataW.trod enc P w 0 (fun _=>true) true fuel t cs=some x→
  ∃xs:List D,Is P t xs∧xs.length=P.cellsOf t∧RL (sd w x.2) xs cs:=by
 intro fuel
 induction fuel with
 |zero=>intro t cs x _ h;simp[DataW.trod]at h
 |succ fuel ih=>
  intro t cs x ht h
  have nR:=tc hL ht
  unfold qU at nR
  split at nR
  ·rename_i hu
   obtain⟨b,rfl,rfl⟩:=DataW.trod_bool hu h
   exact⟨[.bool b],.bool hu b,(Nat.eq_of_beq_eq_true nR).symm,.cons ⟨rfl,.bool b⟩ .nil⟩
  ·rename_i k hu
   obtain⟨n,rfl,rfl,hw⟩:=DataW.trod_int hu h
   exact⟨[.int k n],.int hu n hw,(Nat.eq_of_beq_eq_true nR).symm,.cons ⟨rfl,.int k n hw⟩ .nil⟩
  ·rename_i hu
   obtain⟨s,rfl,rfl,hs⟩:=DataW.trod_string hu h
   exact⟨[.str s.data.toList],.str hu _ (by simpa using hs),(Nat.eq_of_beq_eq_true nR).symm,.cons ⟨rfl,.str s hs⟩ .nil⟩
  ·rename_i e hu
   simp only[Bool.and_eq_true]at nR
   obtain⟨⟨h1,he⟩,pt⟩:=nR
   have he:e∈L:=by simpa using he
   have h1:=Nat.eq_of_beq_eq_true h1
   have pt:=Nat.le_of_ble_eq_true pt
   obtain⟨bb,eJ⟩:∃bb,dh P e=some bb:=by
    have:=tc hL he
    unfold qU at this
    unfold dh
    split at this<;>simp_all
   rcases DataW.trod_slice hu h with⟨rfl,rfl⟩|⟨a,len,cap,elems,rest,n,hn,rfl,rfl,_,hlc,ja,pN,aeN,_,_⟩
   ·exact⟨[.sl .nil 0 []],.jm hu,by rw[h1];rfl,.cons ⟨rfl,.jm 0⟩ .nil⟩
   ·cases hn
    have key:∀k,k≤len→∃M:List (List D),M.length=k∧∀i,i<k→∃y eR,M[i]? =some y∧w.cells? 0 (a.add (i*P.cellsOf e)) (P.cellsOf e)=some eR∧Is P e y∧y.length=P.cellsOf e∧
      RL (sd w ((elems++rest).flatMap (·.2))) y eR:=by
     intro k
     induction k with
     |zero=>intro _;exact⟨[],rfl,fun i hi=>by omega⟩
     |succ k Ce=>
      intro hk
      obtain⟨M,hM,ki⟩:=Ce (by omega)
      have hq:=aeN k (by omega)
      have jQ:elems[k]? =some (elems[k]'(by omega)):=List.getElem?_eq_getElem (by omega)
      rw[jQ]at hq
      obtain⟨eR,e8,dE⟩:=Option.bind_eq_some_iff.1 hq
      obtain⟨y,hy,J9,kO⟩:=ih e eR _ he dE
      refine⟨M++[y],by simp[hM],fun i hi=>?_⟩
      rcases Nat.lt_or_ge i k with h|h
      ·obtain⟨y',aeO,q1,q2⟩:=ki i h
       exact⟨y',aeO,by rw[List.getElem?_append_left (by omega)];exact q1,q2⟩
      ·have:i=k:=by omega
       subst this
       refine⟨y,eR,by rw[List.getElem?_append_right (by omega),hM];simp,e8,hy,J9,kO.mono (sd.mono fun p hp=>?_)⟩
       exact List.mem_flatMap.2 ⟨_,List.mem_append_left _ (List.getElem_mem (by omega)),hp⟩
    obtain⟨M,hM,ki⟩:=key len (Nat.le_refl _)
    have Cf:∀y∈M,Is P e y∧y.length=P.cellsOf e∧∀c∈y,c.one=true:=by
     intro y hy
     obtain⟨i,hi,rfl⟩:=List.mem_iff_getElem.1 hy
     obtain⟨y',eR,q1,_,q2,q3,q4⟩:=ki i (by omega)
     rw[List.getElem?_eq_getElem hi]at q1
     cases q1
     refine⟨q2,q3,fun c hc=>?_⟩
     obtain⟨j,hj,rfl⟩:=List.mem_iff_getElem.1 hc
     have:=q4.length
     exact(q4.get j _ (eR[j]'(by omega)) (List.getElem?_eq_getElem hj) (List.getElem?_eq_getElem (by omega))).1
    have Ka:∀y∈M,(pack bb y).cells =y:=fun y hy=>Ut hL he eJ (Cf y hy).1 (Cf y hy).2.2
    refine⟨[.sl .ro (P.cellsOf e) (M.map (pack bb))],.sl hu bb eJ M (by omega) (fun y hy=>(Cf y hy).1),by rw[h1];rfl,.cons ⟨rfl,?_⟩ .nil⟩
    have hlen:(M.map (pack bb)).length =len:=by simp[hM]
    by_cases nO:a.spot=none
    ·obtain⟨b,off,spot⟩:=a
     simp only at nO
     subst nO
     have bF:∀o,o<len*P.cellsOf e→∃v,w.cell? ⟨b,off+o,none⟩=some v:=by
      intro o ho
      have hq:o / P.cellsOf e<len:=Nat.div_lt_of_lt_mul (by rw[Nat.mul_comm];exact ho)
      have wT:=Nat.mod_lt o pt
      obtain⟨y,eR,q1,q2,q3,q4,q5⟩:=ki _ hq
      obtain⟨_,l1,l2⟩:=World.cells?_some q2
      have:=l2 (o % P.cellsOf e) wT
      refine⟨eR[o % P.cellsOf e]'(by omega),?_⟩
      rw[List.getElem?_eq_getElem (by omega)]at this
      rw[←this]
      simp only[add_plain]
      congr 2
      rw[Nat.add_assoc]
      congr 1
      rw[Nat.mul_comm]
      exact(Nat.div_add_mod _ _).symm
     have hv:∀o,o<len*P.cellsOf e→w.cell? ⟨b,off+o,none⟩=some ((w.cell? ⟨b,off+o,none⟩).getD (.bool false)):=fun o ho=>by
      obtain⟨v,hv⟩:=bF o ho
      rw[hv];rfl
     have:=bj.sl (w:=w) (St:=tL (MemPlace.row ⟨b,off,none⟩ ((elems.length+rest.length)*P.cellsOf e)++(elems++rest).flatMap (·.2))) (P.cellsOf e) (M.map (pack bb)) b off cap
      (fun o=>(w.cell? ⟨b,off+o,none⟩).getD (.bool false)) (by omega) (by omega) (fun x hx=>by
        obtain⟨y,hy,rfl⟩:=List.mem_map.1 hx
        rw[Ka y hy]
        exact(Cf y hy).2.1) (fun x hx c hc=>by
        obtain⟨y,hy,rfl⟩:=List.mem_map.1 hx
        rw[Ka y hy]at hc
        exact(Cf y hy).2.2 c hc) (fun o ho=>by
        rw[hlen]at ho
        refine⟨hv o ho,List.mem_append_left _ (MemPlace.mem_row.2 ⟨o,?_,rfl⟩)⟩
        rw[Nat.add_mul];rw[pN];omega) (fun i x j c hi hj=>by
        rw[List.getElem?_map]at hi
        obtain⟨y,hy,rfl⟩:=Option.map_eq_some_iff.1 hi
        have kj:i<M.length:=(List.getElem?_eq_some_iff.1 hy).1
        have hym:y∈M:=List.mem_of_getElem? hy
        rw[Ka y hym]at hj
        obtain⟨y',eR,q1,q2,q3,q4,q5⟩:=ki i (by omega)
        rw[hy]at q1
        cases q1
        obtain⟨_,l1,l2⟩:=World.cells?_some q2
        have jS:j<y.length:=(List.getElem?_eq_some_iff.1 hj).1
        have l3:=l2 j (by omega)
        rw[List.getElem?_eq_getElem (by omega)]at l3
        have hr:=(q5.get j c (eR[j]'(by omega)) hj (List.getElem?_eq_getElem (by omega))).2
        simp only[add_plain,Nat.add_assoc]at l3
        simp only[l3,Option.getD_some]
        exact hr.mono fun b' o' eK=>⟨List.mem_append_right _ eK,rfl⟩)
     rw[hlen]at this
     exact this
    ·have h0:len=0:=by
      rcases Nat.eq_zero_or_pos len with h|h
      ·exact h
      ·obtain⟨y,eR,q1,q2,q3,q4,q5⟩:=ki 0 h
       obtain⟨_,l1,l2⟩:=World.cells?_some q2
       have:=l2 0 pt
       rw[List.getElem?_eq_getElem (by omega)]at this
       exact absurd (World.cell?_spot this) (by simpa[Addr.add]using nO)
     subst h0
     have:M=[]:=List.length_eq_zero_iff.1 hM
     subst this
     exact .jN _ a cap nO
  ·rename_i n e hu
   simp only[Bool.and_eq_true]at nR
   obtain⟨he,hc⟩:=nR
   have he:e∈L:=by simpa using he
   have hc:=Nat.eq_of_beq_eq_true hc
   obtain⟨ys,m,hm,rfl,dw,J9,Cg⟩:=DataW.trod_array hu h
   cases hm
   have key:∀k,k≤n→∃M:List (List D),M.length=k∧(∀y∈M,Is P e y)∧M.flatten.length=k*P.cellsOf e∧RL (sd w (ys.flatMap (·.2))) M.flatten ((List.range k).map fun i=>(cs.drop (i*P.cellsOf e)).take (P.cellsOf e)).flatten :=by
    intro k
    induction k with
    |zero=>intro _;exact⟨[],rfl,by simp,by simp,by simp;exact .nil⟩
    |succ k Ce=>
     intro hk
     obtain⟨M,hM,xD,vR,sH⟩:=Ce (by omega)
     have hq:=Cg k (by omega)
     have jQ:ys[k]? =some (ys[k]'(by omega)):=List.getElem?_eq_getElem (by omega)
     rw[jQ]at hq
     obtain⟨y,hy,IK,kO⟩:=ih e _ _ he hq
     refine⟨M++[y],by simp[hM],fun z hz=>?_,by simp[vR,IK,Nat.add_mul],?_⟩
     ·rcases List.mem_append.1 hz with h|h
      ·exact xD z h
      ·simp at h;subst h;exact hy
     ·rw[List.range_succ,List.map_append,List.flatten_append,List.flatten_append]
      refine sH.append ?_
      simp only[List.map_cons,List.map_nil,List.flatten_cons,List.flatten_nil,List.append_nil]
      exact kO.mono (sd.mono fun p hp=>List.mem_flatMap.2 ⟨_,List.getElem_mem (by omega),hp⟩)
   obtain⟨M,hM,xD,vR,sH⟩:=key n (Nat.le_refl _)
   refine⟨M.flatten,.array hu M hM xD,by rw[vR,hc],?_⟩
   rw[←MF (P.cellsOf e) n cs (by rw[dw,hc])]at sH
   exact sH
  ·rename_i fs hu
   simp only[Bool.and_eq_true]at nR
   obtain⟨xp,sF⟩:=nR
   split at sF
   ·rename_i tot PE
    have sF:=Nat.eq_of_beq_eq_true sF
    obtain⟨ys,m,hm,rfl,dw,J9,Cg⟩:=DataW.trod_struct hu h
    cases hm
    have key:∀k,k≤fs.size→∃M:List (List D),M.length=k∧(∀(i:Nat)f p,fs[i]? =some f→M[i]? =some p→Is P f.type p)∧M.flatten.length=((fs.toList.take k).map fun f=>P.cellsOf f.type).sum ∧
      RL (sd w (ys.flatMap (·.2))) M.flatten ((fs.toList.take k).map fun f=>(cs.drop f.offset).take (P.cellsOf f.type)).flatten :=by
     intro k
     induction k with
     |zero=>intro _;exact⟨[],rfl,fun i f p _ hp=>by simp at hp,by simp,by simp;exact .nil⟩
     |succ k Ce=>
      intro hk
      obtain⟨M,hM,xD,vR,sH⟩:=Ce (by omega)
      have ub:fs[k]? =some (fs[k]'(by omega)):=Array.getElem?_eq_getElem (by omega)
      have hq:=Cg k _ ub
      have jQ:ys[k]? =some (ys[k]'(by omega)):=List.getElem?_eq_getElem (by omega)
      rw[jQ]at hq
      have hfm:(fs[k]'(by omega)).type ∈L:=by simpa using List.all_eq_true.1 xp _ (by simp:fs[k]'(by omega)∈fs.toList)
      obtain⟨y,hy,IK,kO⟩:=ih _ _ _ hfm hq
      have qV:fs.toList.take (k+1)=fs.toList.take k++[fs[k]'(by omega)]:=by
       rw[List.take_add_one]
       simp[ub]
      refine⟨M++[y],by simp[hM],fun i f p hf hp=>?_,?_,?_⟩
      ·rcases Nat.lt_or_ge i k with h|h
       ·rw[List.getElem?_append_left (by omega)]at hp
        exact xD i f p hf hp
       ·rw[List.getElem?_append_right (by omega),hM]at hp
        have iK:i=k:=by
         have:=(List.getElem?_eq_some_iff.1 hp).1
         simp at this
         omega
        subst iK
        simp at hp
        subst hp
        rw[ub]at hf
        cases hf
        exact hy
      ·rw[qV]
       simp[vR,IK]
      ·rw[qV,List.map_append,List.flatten_append,List.flatten_append]
       refine sH.append ?_
       simp only[List.map_cons,List.map_nil,List.flatten_cons,List.flatten_nil,List.append_nil]
       exact kO.mono (sd.mono fun p hp=>List.mem_flatMap.2 ⟨_,List.getElem_mem (by omega),hp⟩)
    obtain⟨M,hM,xD,vR,sH⟩:=key fs.size (Nat.le_refl _)
    have xE:fs.toList.take fs.size=fs.toList:=List.take_of_length_le (by simp)
    rw[xE]at vR sH
    have JK:=GU _ _ _ PE
    refine⟨M.flatten,.struct hu M hM xD,by rw[vR,←sF,JK];omega,?_⟩
    rw[←L3 cs fs.toList 0 tot PE (by rw[dw,sF]),List.drop_zero]at sH
    exact sH
   ·cases sF
  ·cases nR
end
end Go.Proofs.YtaknajjmldngiaaGreat.Ab
namespace Go.Proofs.YtaknajjmldngiaaGreat.Ab
open Go Go.RowKit Go.ChangeShapes Go.WideShapes
section
variable{H:Type}{enc:TypeId×Value→H}{P:Program}{W:World}{L:List Nat}
theorem AG(hL:rJ P L=true){t:TypeId}{v:Value}{d:DataW H}{ps:List MemPlace}{b:Bool}{r:Reach}{b0:Nat}(ht:t∈L)(hb:dh P t=some b)
  (ew:Value.okWide P W r b0 t v)(h:DataW.Trod enc P W 0 (fun _=>true) true t v d ps):∃xs,Is P t xs∧bj W (tL ps) (pack b xs) v:=by
 obtain⟨fuel,hf⟩:=h
 obtain⟨xs,hi,hl,hr⟩:=Yw hL fuel t _ _ ht hf
 refine⟨xs,hi,?_⟩
 have nR:=tc hL ht
 unfold dh at hb
 cases b with
 |true=>
  have:∃cs,v=.agg cs:=by
   unfold Value.okWide at ew
   split at ew
   ·obtain⟨cs,h,_⟩:=ew;exact⟨cs,h⟩
   ·obtain⟨cs,h,_⟩:=ew;exact⟨cs,h⟩
   ·rename_i h1 h2
    split at hb
    ·rename_i fs hu;exact absurd hu (h1 fs)
    ·rename_i n e hu;exact absurd hu (h2 n e)
    ·cases hb
    ·cases hb
  obtain⟨cs,rfl⟩:=this
  simp only[Value.cells]at hr
  refine .agg xs cs (fun c hc=>?_) (by simpa using hr.length) (fun i c u hc hu=>(hr.get i c u hc (by simpa using hu)).2)
  obtain⟨j,hj,rfl⟩:=List.mem_iff_getElem.1 hc
  have jS:=hr.length
  exact(hr.get j _ (cs.toList[j]'(by omega)) (List.getElem?_eq_getElem hj) (List.getElem?_eq_getElem (by omega))).1
 |false=>
  have ct:∃y,xs=[y]:=by
   cases hi with
   |bool h b=>exact⟨_,rfl⟩
   |int h n hn=>exact⟨_,rfl⟩
   |str h s hs=>exact⟨_,rfl⟩
   |jm h=>exact⟨_,rfl⟩
   |sl h=>exact⟨_,rfl⟩
   |struct h=>rw[h]at hb;cases hb
   |array h=>rw[h]at hb;cases hb
  obtain⟨y,rfl⟩:=ct
  have hv:v.cells.toList=[v]:=by
   cases v with
   |agg cs=>
    exfalso
    unfold Value.okWide at ew
    split at ew
    ·rename_i h;rw[h]at hb;cases hb
    ·rename_i h;rw[h]at hb;cases hb
    ·unfold qU at nR
     unfold Cell.okWide at ew
     split at ew<;>simp_all [Cell.ok]
   |_=>rfl
  rw[hv]at hr
  cases hr with
  |cons h _=>exact h.2
theorem Lc(hL:rJ P L=true){W':World}(hb:Below W.heap.size W W'):∀{ts:List TypeId}{vs:List Value}{ds:List (DataW H)}{ps:List MemPlace},(∀t∈ts,t∈L)→
  DataW.TrodAll enc P W 0 (fun _=>true) true ts vs ds ps→(∀p∈ps,p.block<W.heap.size)→DataW.TrodAll enc P W' 0 (fun b=>decide (b<W.heap.size)) true ts vs ds ps
 |[],[],[],_,_,h,_=>h
 |t::ts,v::vs,d::ds,_,Fa,⟨p,q,⟨fuel,hf⟩,h2,e⟩,aV=>by
  subst e
  refine⟨p,q,⟨fuel,?_⟩,Lc hL hb (fun t ht=>Fa t (List.mem_cons_of_mem _ ht)) h2 (fun x hx=>aV x (List.mem_append_right _ hx)),rfl⟩
  exact DataW.trod_stays (Us hL) (fun ht hu=>Vi hL ht hu) (fun h=>by cases h) (Fa t List.mem_cons_self) hf (fun x hx=>hb.same (aV x (List.mem_append_left _ hx))) (fun x hx=>by simpa using aV x (List.mem_append_left _ hx))
theorem Ai{gl:Nat→Option D}{QZ:FuncId}{f:Func}{s:ChangeSpec}{args:Array Value}{ds gs:List (DataW H)}{before:List MemPlace}{tb:TypeId}{St:Nat→Nat→Prop}{vq:List SV}
  (hH:aF P gl QZ vq (.d (.bool true)))(hL:rJ P L=true)(Fa:∀t∈f.params.toList,t∈L)(JC:s.vars=[])
  (hW:DataW.Whole enc P f.params.toList s.vars false W args.toList ds gs before)
  (qT:(s.fn H (ds++gs)).results =[.lit (.bool true)])(Kb:(s.fn H (ds++gs)).args =ds)(xq:(s.fn H (ds++gs)).vars =[])
  (Bu:f.resultTypes= #[tb])(Ch:P.underlying tb=some .bool)
  (b4:∀b o,St b o→b<W.heap.size)(hG:vk gl W St)(hlen:vq.length=args.size)
  (bt:∀(i:Nat)x v,vq[i]? =some x→args[i]? =some v→bd W St W.heap.size (fun _ _ _=>False) x v):
  Calls P QZ args W fun e W'=>∃v,e=.returned v∧s.post enc P f false true false false W args v W':=by
 refine(hH.2 W St args b4 hG hlen bt).mono ?_
 rintro e W' ⟨v,rfl,hb,cK,ow,_,_,hr⟩
 refine⟨v,rfl,?_⟩
 have hv:v=.bool true:=by
  have:=bd.data (show bd W' cK 0 (tF W.heap.size W' cK ow 0) (.d (.bool true)) v from hr)
  cases this
  rfl
 subst hv
 have aV:=hW.lt
 refine⟨ds,gs,before,[],before,[],hW,?_,?_,?_,World.keptBut_mono (fun p hp=>⟨hp,.inr (.inl hp)⟩) (hb.frame _),fun h=>by cases h⟩
 ·rw[qT,Bu]
  exact trodAll_cons_mk (shut_bool Ch _) trodAll_mk0
 ·rw[Kb]
  obtain⟨p,q,hA,hV,rfl,_,_⟩:=hW
  rw[JC]at hV
  have:q=[]:=by
   cases gs with
   |nil=>exact hV
   |cons _ _=>exact hV.elim
  subst this
  rw[List.append_nil]at aV ⊢
  exact Lc hL hb Fa hA aV
 ·rw[xq,JC]
  rfl
theorem AH{St:Nat→Nat→Prop}{ps:List MemPlace}{x:D}{v:Value}{base:Nat}{O:Nat→Nat→Nat→Prop}(h:bj W (tL ps) x v)(hs:∀b o,MemPlace.cell b o∈ps→St b o):bd W St base O (.d x) v:=
 .d _ _ _ (h.mono fun b o hb=>⟨hs b o hb,rfl⟩)
end
end Go.Proofs.YtaknajjmldngiaaGreat.Ab
namespace Go.Proofs.YtaknajjmldngiaaGreat.Ab
open Go
def ob{α β:Type}(o:Option α)(k:α→Option β):Option β:=match o with|some x=>k x|none=>none
def iq{β:Type}(b:Bool)(r:Option β):Option β:=match b with|true=>r|false=>none
def Kc{β:Type}(x:SV)(A B:Option β):Option β:=match x with
 | .d (.bool true)=>A
 | .d (.bool false)=>B
 |_=>none
section
variable(P:Program)(gl:Nat→Option D)(call:FuncId→List SV→Option SV)
def A8(n:Nat)(au:List af)(f:FuncId)(args:List SV):Option (Slot×List af):=
 match n with
 |1=>ob (call f args) fun r=>iq (!tp r) (some (.v r,au))
 |n=>ob (call f args) fun r=>match r with
  | .cR rs=>if rs.length=n then some (.t rs,au)else none
  |_=>none
def NX(x:SV)(args:List SV):Option (FuncId×List SV):=match x with
 | .d (.fn (.func f))=>some (f,args)
 | .dX (.func f) first cap=>some (f,first++args++cap)
 |_=>none
def MG(x:SV)(name:String)(args:List SV):Option (FuncId×List SV):=match x with
 | .d (.iface t y)=>ob (wI P t name) fun f=>some (f,.d y::args)
 |_=>none
def Ev(sz bytes:Nat)(x y:SV):Option SV:=
 ob (kH sz x y) fun r=>if r.2*bytes≤140737488355328 then some r.1 else none
def Df(agg:Bool)(sz b off:Nat)(au:List af):Option (Slot×List af):=
 match au[b]? with
 |some (.cells cs)=>ob (ag agg sz off cs) fun x=>some (.v (Ab.aa x),au)
 |some (.one s)=>(match agg,off with|false,0=>some (s.aa,au)|_,_=>none)
 |_=>none
def Gz(sz b off:Nat)(x:Slot)(au:List af):Option (List af):=
 match au[b]? with
 |some (.cells cs)=>(match x with
  | .v y=>ob (ax y) fun l=>if l.length=sz then(if off+sz≤cs.length then some (au.set b (.cells (setAt cs off l)))else none)else none
  | .t _=>none
  |s=>(match sz,off,cs with|1,0,[_]=>some (au.set b (.one s))|_,_,_=>none))
 |some (.one _)=>(match sz,off with
  |1,0=>(match x with
   | .v y=>ob (ax y) fun l=>if l.length=1 then some (au.set b (.cells l))else none
   | .t _=>none
   |s=>some (au.set b (.one s)))
  |_,_=>none)
 |_=>none
def Hi(o:Oper)(c:Call)(ρ:Operand→Slot)(au:List af):Option (Slot×List af):=
 match c.callee with
  | .value f=>(match ρ f with
    | .v x=>ob (NX x (iW au ρ c.args.toList)) fun r=>A8 call (arity P o.type) au r.1 r.2
    | .c (.func g) first cap=>A8 call (arity P o.type) au g (ia (snap au 6) first++iW au ρ c.args.toList++ia (snap au 6) cap)
    |_=>none)
  | .invoke recv name=>(match ρ recv with
    | .v x=>ob (MG P x name (iW au ρ c.args.toList)) fun r=>A8 call (arity P o.type) au r.1 r.2
    |_=>none)
  | .builtin b=>(match b,c.args.toList,c.argTypes.toList with
    | .len,x::_,t::_=>(match ρ x with
      | .a _ n _=>iq (isSlice P t) (some (.v (.d (.int .i64 n)),au))
      |s=>ob (En P t s.bu) fun r=>some (.v r,au))
    | .append,[x,y],[t,u]=>iq (Nat.beq t u) (ob (kW P t) fun e=>ob (dm P e) fun sz=>ob (p7 P e) fun dg=>ob (j0 P e) fun z=>
       iq (Nat.blt 0 dg&&Nat.blt 0 sz&&Nat.beq z.length sz) (ob (Ev sz dg (ρ x).bu (ρ y).bu) fun r=>some (.v r,au)))
    | .min,x::l,_=>ob (nk minD (ρ x).bu (l.map fun y=>(ρ y).bu)) fun r=>some (.v r,au)
    | .max,x::l,_=>ob (nk maxD (ρ x).bu (l.map fun y=>(ρ y).bu)) fun r=>some (.v r,au)
    |_,_,_=>none)
def IL(id:Nat)(o:Oper)(ρ:Operand→Slot)(au:List af):Option (Slot×List af):=
 match o.op with
 | .move x| .assign x=>some (ρ x,au)
 | .pick c a b=>(match ρ c with
   | .v x=>Kc x (some (ρ a,au)) (some (ρ b,au))
   |_=>none)
 | .alloc t=>(match au[id]? with
   |some .none =>ob (C9 P t) fun z=>some (.p id 0,au.set id (.cells z))
   |_=>none)
 | .box t x=>(match au[id]? with
   |some .none =>ob (dm P t) fun sz=>(match ρ x with
    | .v y=>ob (ax y) fun l=>if l.length=sz then some (.p id 0,au.set id (.cells l))else none
    | .t _=>none
    |s=>(match sz with|1=>some (.p id 0,au.set id (.one s))|_=>none))
   |_=>none)
 | .build t ps=>ob (kX ρ ps.toList) fun l=>ob (bZ P t l) fun r=>some (.v (.d r),au)
 | .buildSlice t n ps=>ob (kW P t) fun e=>ob (gy P e) fun ly=>ob (j0 P e) fun z=>ob (kX ρ ps.toList) fun l=>
    iq (Nat.ble (n*ly.2) (2^24)&&Nat.blt 0 ly.2&&Nat.beq z.length ly.2) (iq (bY ly.2 n l) (some (.v (.full ly.2 (bW (cf ly.1 z) l n 0)),au)))
 | .load t a=>ob (gy P t) fun ly=>(match ρ a with
   | .p b off=>Df ly.1 ly.2 b off au
   | .v x=>ob (az ly.1 ly.2 x) fun y=>some (.v y,au)
   |_=>none)
 | .store t a x=>ob (dm P t) fun sz=>(match ρ a with
   | .p b off=>(match o.dst with|none=>ob (Gz sz b off (ρ x) au) fun dq=>some (.t [],dq)|some _=>none)
   |_=>none)
 | .nilCheck x=>(match ρ x with
   | .v y=>ob (Du y) fun z=>some (.v z,au)
   | .t _=>none
   | .c f first cap=>(match f with| .func _=>some (.c f first cap,au)|_=>none)
   | .p b off=>some (.p b off,au)
   |_=>none)
 | .binOp op t x y _=>ob (ah (yG P op t) op (ρ x).bu (ρ y).bu) fun r=>some (.v r,au)
 | .unOp op _ x=>ob (bw op (ρ x).bu) fun r=>some (.v r,au)
 | .convert src dst x=>iq (P.underlying src).isSome (ob (D5 P dst (ρ x).bu) fun r=>some (.v r,au))
 | .makeInterface t x=>iq (!isIface P t) (ob (DL t (ρ x).bu) fun r=>some (.v r,au))
 | .makeFunc fn first cap=>some (.c fn (first.toList.map fun x=>(ρ x).aa) (cap.toList.map fun x=>(ρ x).aa),au)
 | .slice t x lo hi mx=>ob (DJ P t (Ab.aa (ρ x).bu) (lV ρ lo) (lV ρ hi) (lV ρ mx)) fun r=>some (.v r,au)
 | .fieldAddr t x f=>ob (kz P t f) fun fd=>ob (dm P fd.type) fun sz=>iq (!Nat.beq sz 0) (match ρ x with
   | .p b off=>some (.p b (off+fd.offset),au)
   | .v y=>ob (dT y fd.offset) fun z=>some (.v z,au)
   |_=>none)
 | .field t x f=>ob (kz P t f) fun fd=>ob (gy P fd.type) fun ly=>ob (nv ly.1 ly.2 fd.offset (ρ x).bu) fun r=>some (.v r,au)
 | .indexAddr t x i=>(match P.underlying t with
   |some (.slice e)=>ob (dm P e) fun sz=>(match ρ x with
    | .a b n _=>ob (dD (ρ i).bu n) fun j=>some (.p b (j*sz),au)
    |s=>ob (aL sz s.bu (ρ i).bu) fun r=>some (.v r,au))
   |some (.array n e)=>ob (dm P e) fun sz=>ob (dD (ρ i).bu n) fun j=>(match ρ x with
    | .p b off=>some (.p b (off+j*sz),au)
    | .v y=>ob (dT y (j*sz)) fun z=>some (.v z,au)
    |_=>none)
   |_=>none)
 | .index t x i=>(match P.underlying t with
   |some (.array n e)=>ob (gy P e) fun ly=>ob (DK ly.1 ly.2 n (ρ x).bu (ρ i).bu) fun r=>some (.v r,au)
   |some .string =>ob (lQ (ρ x).bu (ρ i).bu) fun r=>some (.v r,au)
   |_=>none)
 | .extract x i=>(match ρ x with
   | .t vs=>ob (vs[i]?) fun r=>some (.v r,au)
   |_=>none)
 | .lookup t m x xv=>ob (vi P t) fun et=>ob (rN P et.1) fun z=>ob (lR et.2 z (rT au (ρ m)) (ρ x).bu) fun r=>
    some (bif xv then .t [.d r.1,.d (.bool r.2)]else .v (.d r.1),au)
 | .makeSlice t n c=>ob (kW P t) fun e=>ob (dm P e) fun sz=>ob (p7 P e) fun dg=>ob (rN P e) fun z=>
    iq (Nat.beq sz 1&&Nat.blt 0 dg) (ob (lenOf (ρ n).bu (ρ c).bu) fun m=>if m*dg≤140737488355328 then some (.v (.cA 1 (List.replicate m z)),au)else none)
 | .makeMap _ hn=>(match hn,au[id]? with
   |none,some .none =>some (.m id,au.set id (.map []))
   |_,_=>none)
 | .mapUpdate t m x y=>ob (vi P t) fun et=>(match ρ m,o.dst with
   | .m b,none=>(match au[b]? with
     |some (.map l)=>ob (jn et.2 (ρ x).bu) fun n=>ob (cS (ρ y).bu) fun d=>ob (ln l n d) fun l'=>some (.t [],au.set b (.map l'))
     |_=>none)
   |_,_=>none)
 | .call c=>Hi P call o c ρ au
 |_=>none
theorem bS{α β:Type}{o:Option α}{k:α→Option β}{r:β}(h:ob o k=some r):∃x,o=some x∧k x=some r:=by
 cases o with
 |none=>cases h
 |some x=>exact⟨x,rfl,h⟩
theorem ic{β:Type}{b:Bool}{x:Option β}{r:β}(h:iq b x=some r):b=true∧x=some r:=by
 cases b with
 |false=>cases h
 |true=>exact⟨rfl,h⟩
variable{P gl call}{C:aP}(hC:∀f args r,call f args=some r→C f args r)
include hC
theorem CL{n:Nat}{au:List af}{f:FuncId}{args:List SV}{k:Slot→List af→Prop}{s:Slot}{b':List af}(h:A8 call n au f args=some (s,b'))(hk:k s b'):
  lP C n au k f args:=by
 unfold A8 at h
 unfold lP
 split at h
 ·obtain⟨r,hr,h⟩:=bS h
  obtain⟨ht,h⟩:=ic h
  cases h
  exact⟨r,hC _ _ _ hr,by simpa using ht,hk⟩
 ·rename_i hn
  obtain⟨r,hr,h⟩:=bS h
  split at h
  ·rename_i rs
   split at h
   ·rename_i hl
    cases h
    split
    ·exact absurd rfl hn
    ·exact Gu rs hl ⟨hC _ _ _ hr,hk⟩
   ·cases h
  ·cases h
theorem TG{o:Oper}{c:Call}(ho:o.op=.call c){id:Nat}{ρ:Operand→Slot}{au:List af}{k:Slot→List af→Prop}{s:Slot}{b':List af}
  (h:Hi P call o c ρ au=some (s,b'))(hk:k s b'):c8 P C id o ρ au k:=by
 unfold Hi at h
 unfold c8
 rw[ho]
 dsimp only
 cases hc:c.callee with
 |value f=>
  rw[hc]at h
  dsimp only at h ⊢
  cases hf:ρ f with
  |v x=>
   rw[hf]at h
   dsimp only at h ⊢
   obtain⟨r,hr,h⟩:=bS h
   unfold NX at hr
   unfold withFn
   split at hr
   ·cases hr;exact CL hC h hk
   ·cases hr;exact CL hC h hk
   ·cases hr
  |c g first cap=>
   rw[hf]at h
   cases g with
   |func g=>exact CL hC h hk
   |_=>cases h
  |_=>rw[hf]at h;cases h
 |invoke f name=>
  rw[hc]at h
  dsimp only at h ⊢
  cases hf:ρ f with
  |v x=>
   rw[hf]at h
   dsimp only at h ⊢
   obtain⟨r,hr,h⟩:=bS h
   unfold MG at hr
   unfold tg
   split at hr
   ·obtain⟨f',jz,hr⟩:=bS hr
    cases hr
    dsimp only
    rw[jz]
    exact CL hC h hk
   ·cases hr
  |_=>rw[hf]at h;cases h
 |builtin b=>
  rw[hc]at h
  dsimp only at h ⊢
  split at h
  ·rename_i x xs t ts hx ht
   simp only[hx,ht]
   cases hs:ρ x with
   |a b n=>
    rw[hs]at h
    obtain⟨hb,h⟩:=ic h
    cases h
    simp only[hb,cond_true];exact hk
   |_=>
    rw[hs]at h
    obtain⟨r,hr,h⟩:=bS h
    cases h
    simp only[hr,ab];exact hk
  ·rename_i x y t u hx ht
   obtain⟨mT,h⟩:=ic h
   obtain⟨e',he,h⟩:=bS h
   obtain⟨sz,aQ,h⟩:=bS h
   obtain⟨dg,il,h⟩:=bS h
   obtain⟨z,hz,h⟩:=bS h
   obtain⟨dJ,h⟩:=ic h
   obtain⟨r,hr,h⟩:=bS h
   cases h
   unfold Ev at hr
   obtain⟨r',lD,h⟩:=bS hr
   split at h
   ·rename_i hle
    cases h
    simp only[hx,ht,mT,cond_true,he,aQ,il,hz,ab,dJ,cm,lD];exact⟨hle,hk⟩
   ·cases h
  ·obtain⟨r,hr,h⟩:=bS h
   cases h
   rename_i hx
   simp only[hx,hr,ab];exact hk
  ·obtain⟨r,hr,h⟩:=bS h
   cases h
   rename_i hx
   simp only[hx,hr,ab];exact hk
  ·cases h
end
end Go.Proofs.YtaknajjmldngiaaGreat.Ab
namespace Go.Proofs.YtaknajjmldngiaaGreat.Ab
open Go
section
variable{P:Program}{gl:Nat→Option D}{call:FuncId→List SV→Option SV}{C:aP}(hC:∀f args r,call f args=some r→C f args r)
theorem Xd{β:Type}{x:SV}{A B:Option β}{r:β}(h:Kc x A B=some r):(x=.d (.bool true)∧A=some r)∨(x=.d (.bool false)∧B=some r):=by
 unfold Kc at h
 split at h
 ·exact .inl ⟨rfl,h⟩
 ·exact .inr ⟨rfl,h⟩
 ·cases h
theorem K1{agg:Bool}{sz b off:Nat}{au:List af}{k:Slot→List af→Prop}{s:Slot}{b':List af}(h:Df agg sz b off au=some (s,b'))(hk:k s b'):
  np agg sz b off au k:=by
 unfold Df at h
 unfold np
 split at h
 ·rename_i hb
  rw[hb]
  obtain⟨x,hx,h⟩:=bS h
  cases h
  simp only[hx,ab];exact hk
 ·rename_i hb
  rw[hb]
  split at h
  ·cases h;exact hk
  ·cases h
 ·cases h
theorem Tg{sz b off:Nat}{x:Slot}{au:List af}{k:List af→Prop}{b':List af}(h:Gz sz b off x au=some b')(hk:k b'):
  oY sz b off x au k:=by
 unfold Gz at h
 unfold oY
 split at h
 ·rename_i cs cp
  rw[cp]
  cases x with
  |v y=>
   dsimp only at h ⊢
   obtain⟨l,hl,h⟩:=bS h
   split at h
   ·split at h
    ·cases h;simp only[hl,ab];exact⟨by assumption,by assumption,hk⟩
    ·cases h
   ·cases h
  |t vs=>cases h
  |a _ _ _=>
   dsimp only at h ⊢
   split at h
   ·cases h;exact hk
   ·cases h
  |m _=>
   dsimp only at h ⊢
   split at h
   ·cases h;exact hk
   ·cases h
  |p b nJ=>
   dsimp only at h ⊢
   split at h
   ·cases h;exact hk
   ·cases h
  |c f a b=>
   dsimp only at h ⊢
   split at h
   ·cases h;exact hk
   ·cases h
 ·rename_i hb
  rw[hb]
  dsimp only at h ⊢
  split at h
  ·cases x with
   |v y=>
    dsimp only at h ⊢
    obtain⟨l,hl,h⟩:=bS h
    split at h
    ·cases h;simp only[hl,ab];exact⟨by assumption,hk⟩
    ·cases h
   |t vs=>cases h
   |_=>dsimp only at h ⊢;cases h;exact hk
  ·cases h
 ·cases h
include hC
theorem Vk{id:Nat}{o:Oper}{ρ:Operand→Slot}{au:List af}{k:Slot→List af→Prop}{s:Slot}{b':List af}
  (h:IL P call id o ρ au=some (s,b'))(hk:k s b'):c8 P C id o ρ au k:=by
 unfold IL at h
 cases ho:o.op
 case call c=>rw[ho]at h;exact TG hC ho h hk
 all_goals rw[ho]at h;dsimp only at h;unfold c8;rw[ho];dsimp only
 case move x=>cases h;exact hk
 case assign x=>cases h;exact hk
 case pick c a b=>
  cases hc:ρ c with
  |v x=>
   rw[hc]at h
   rcases Xd h with⟨rfl,h⟩|⟨rfl,h⟩<;>cases h<;>exact hk
  |_=>rw[hc]at h;cases h
 case alloc t=>
  split at h
  ·rename_i hb
   rw[hb]
   obtain⟨z,hz,h⟩:=bS h
   cases h
   simp only[hz,ab];exact hk
  ·cases h
 case box t x=>
  split at h
  ·rename_i hb
   rw[hb]
   obtain⟨sz,hz,h⟩:=bS h
   simp only[hz,ab]
   cases hx:ρ x with
   |v y=>
    rw[hx]at h
    dsimp only at h ⊢
    obtain⟨l,hl,h⟩:=bS h
    split at h
    ·cases h;simp only[hl];exact⟨by assumption,hk⟩
    ·cases h
   |t vs=>rw[hx]at h;cases h
   |_=>
    rw[hx]at h
    dsimp only at h ⊢
    split at h
    ·cases h;exact hk
    ·cases h
  ·cases h
 case build t ps=>
  obtain⟨l,hl,h⟩:=bS h
  obtain⟨r,hr,h⟩:=bS h
  cases h
  simp only[hl,hr,ab];exact hk
 case buildSlice t n ps=>
  obtain⟨e,he,h⟩:=bS h
  obtain⟨ly,fE,h⟩:=bS h
  obtain⟨z,hz,h⟩:=bS h
  obtain⟨l,hl,h⟩:=bS h
  obtain⟨hc,h⟩:=ic h
  obtain⟨hf,h⟩:=ic h
  cases h
  simp only[he,fE,hz,hl,hc,ab,cond_true];exact⟨hf,hk⟩
 case load t a=>
  obtain⟨ly,fE,h⟩:=bS h
  simp only[fE,ab]
  cases ha:ρ a with
  |p b off=>rw[ha]at h;exact K1 h hk
  |v x=>
   rw[ha]at h
   obtain⟨y,hy,h⟩:=bS h
   cases h
   simp only[hy];exact hk
  |_=>rw[ha]at h;cases h
 case store t a x=>
  obtain⟨sz,aQ,h⟩:=bS h
  simp only[aQ,ab]
  cases ha:ρ a with
  |p b off=>
   rw[ha]at h
   dsimp only at h ⊢
   cases hd:o.dst with
   |none=>
    rw[hd]at h
    dsimp only at h ⊢
    obtain⟨y,hy,h⟩:=bS h
    cases h
    exact Tg hy hk
   |some d=>rw[hd]at h;cases h
  |_=>rw[ha]at h;cases h
 case nilCheck x=>
  cases hx:ρ x with
  |v y=>
   rw[hx]at h
   obtain⟨z,hz,h⟩:=bS h
   cases h
   simp only[hz,ab];exact hk
  |t vs=>rw[hx]at h;cases h
  |c f first cap=>
   rw[hx]at h
   cases f with
   |func f=>cases h;exact hk
   |_=>cases h
  |p b off=>rw[hx]at h;cases h;exact hk
  |a _ _ _=>rw[hx]at h;cases h
  |m _=>rw[hx]at h;cases h
 case binOp op t x y u=>
  obtain⟨r,hr,h⟩:=bS h
  cases h
  simp only[hr,ab];exact hk
 case unOp op t x=>
  obtain⟨r,hr,h⟩:=bS h
  cases h
  simp only[hr,ab];exact hk
 case convert src dst x=>
  obtain⟨hs,h⟩:=ic h
  obtain⟨r,hr,h⟩:=bS h
  cases h
  simp only[hs,hr,ab,cond_true];exact hk
 case makeInterface t x=>
  obtain⟨hs,h⟩:=ic h
  obtain⟨r,hr,h⟩:=bS h
  cases h
  have gT:isIface P t=false:=by simpa using hs
  simp only[gT,hr,ab,cond_false];exact hk
 case makeFunc fn first cap=>cases h;exact hk
 case slice t x lo hi mx=>
  obtain⟨r,hr,h⟩:=bS h
  cases h
  simp only[hr,ab];exact hk
 case fieldAddr t x f=>
  obtain⟨fd,mO,h⟩:=bS h
  obtain⟨sz,aQ,h⟩:=bS h
  obtain⟨hs,h⟩:=ic h
  have gT:Nat.beq sz 0=false:=by simpa using hs
  simp only[mO,aQ,gT,ab,cond_false]
  cases hx:ρ x with
  |p b off=>rw[hx]at h;cases h;exact hk
  |v y=>
   rw[hx]at h
   obtain⟨z,hz,h⟩:=bS h
   cases h
   simp only[hz];exact hk
  |_=>rw[hx]at h;cases h
 case field t x f=>
  obtain⟨fd,mO,h⟩:=bS h
  obtain⟨ly,fE,h⟩:=bS h
  obtain⟨r,hr,h⟩:=bS h
  cases h
  simp only[mO,fE,hr,ab];exact hk
 case indexAddr t x i=>
  split at h
  ·rename_i hb
   rw[hb]
   dsimp only
   obtain⟨sz,aQ,h⟩:=bS h
   simp only[aQ,ab]
   cases hx:ρ x with
   |a b n=>
    rw[hx]at h
    obtain⟨j,hj,h⟩:=bS h
    cases h
    simp only[hj];exact hk
   |_=>
    rw[hx]at h
    obtain⟨r,hr,h⟩:=bS h
    cases h
    simp only[hr];exact hk
  ·rename_i hb
   rw[hb]
   dsimp only
   obtain⟨sz,aQ,h⟩:=bS h
   obtain⟨j,hj,h⟩:=bS h
   simp only[aQ,hj,ab]
   cases hx:ρ x with
   |p b off=>rw[hx]at h;cases h;exact hk
   |v y=>
    rw[hx]at h
    obtain⟨z,hz,h⟩:=bS h
    cases h
    simp only[hz];exact hk
   |_=>rw[hx]at h;cases h
  ·cases h
 case index t x i=>
  split at h
  ·rename_i hb
   rw[hb]
   dsimp only
   obtain⟨ly,fE,h⟩:=bS h
   obtain⟨r,hr,h⟩:=bS h
   cases h
   simp only[fE,hr,ab];exact hk
  ·rename_i hb
   rw[hb]
   dsimp only
   obtain⟨r,hr,h⟩:=bS h
   cases h
   simp only[hr,ab];exact hk
  ·cases h
 case extract x i=>
  cases hx:ρ x with
  |t vs=>
   rw[hx]at h
   obtain⟨r,hr,h⟩:=bS h
   cases h
   simp only[hr];exact hk
  |_=>rw[hx]at h;cases h
 case lookup t m x xv=>
  obtain⟨et,het,h⟩:=bS h
  obtain⟨z,hz,h⟩:=bS h
  obtain⟨r,hr,h⟩:=bS h
  cases h
  cases xv with
  |true=>simp only[het,hz,hr,ab];exact hk
  |false=>simp only[het,hz,hr,ab];exact hk
 case makeSlice t n c=>
  obtain⟨e',he,h⟩:=bS h
  obtain⟨sz,aQ,h⟩:=bS h
  obtain⟨dg,il,h⟩:=bS h
  obtain⟨z,hz,h⟩:=bS h
  obtain⟨hc,h⟩:=ic h
  obtain⟨m,hm,h⟩:=bS h
  split at h
  ·cases h
   simp only[he,aQ,il,hz,hc,hm,ab,cond_true];exact⟨by assumption,hk⟩
  ·cases h
 case makeMap t hn=>
  split at h
  ·rename_i hb
   cases h
   simp only[hb];exact hk
  ·cases h
 case mapUpdate t m x y=>
  obtain⟨et,het,h⟩:=bS h
  simp only[het,ab]
  split at h
  ·rename_i b hm hd
   simp only[hm,hd]
   split at h
   ·rename_i l hb
    obtain⟨n,hn,h⟩:=bS h
    obtain⟨d,jP,h⟩:=bS h
    obtain⟨l',fU,h⟩:=bS h
    cases h
    simp only[hb,hn,jP,fU];exact hk
   ·cases h
  ·cases h
 all_goals cases h
end
end Go.Proofs.YtaknajjmldngiaaGreat.Ab
namespace Go.Proofs.YtaknajjmldngiaaGreat.Ab
open Go
section
variable(P:Program)(gl:Nat→Option D)(call:FuncId→List SV→Option SV)(h:Hints)
def HM(o:Oper)(e:Env):Option Env:=match o.op with
 | .move (.tmp t)| .assign (.tmp t)=>some ⟨cz (e.an.set t (e.an.getD t (.v .undef)).aa) o.dst (e.an.getD t (.v .undef)),e.boxes⟩
 | .extract (.tmp t) i=>(match e.an.getD t (.v .undef)with
   | .t vs=>ob (vs[i]?) fun r=>some ⟨cz (e.an.set t (.t (vs.set i (aa r)))) o.dst (.v r),e.boxes⟩
   |_=>none)
 | .load ty a=>(match(bc gl e a).aa with
   | .p b off=>ob (gy P ty) fun ly=>iq (!ly.1) (match e.boxes[b]? with
     |some (.cells cs)=>ob cs[off]? fun x=>some ⟨cz e.an o.dst (.v x),e.boxes.set b (.cells (cs.set off (aa x)))⟩
     |_=>none)
   |_=>none)
 | .store ty a (.tmp t)=>(match(bc gl e a).aa,e.an.getD t (.v .undef),o.dst with
   | .p b off,.v y,none=>ob (dm P ty) fun sz=>iq (Nat.beq sz 1) (match e.boxes[b]? with
     |some (.cells cs)=>ob (ax y) fun l=>if l.length=1 then(if off<cs.length then some ⟨e.an.set t (.v (aa y)),e.boxes.set b (.cells (setAt cs off l))⟩else none)else none
     |_=>none)
   |_,_,_=>none)
 | .buildSlice t n ps=>ob (kW P t) fun e'=>ob (gy P e') fun ly=>ob (j0 P e') fun z=>ob (kX (fun x=>(bc gl e x).aa) ps.toList) fun l=>
    iq (Nat.ble (n*ly.2) (2^24)&&Nat.blt 0 ly.2&&Nat.beq z.length ly.2) (iq (bY ly.2 n l) (some ⟨cz e.an o.dst (.v (.cA ly.2 (bW (cf ly.1 z) l n 0))),e.boxes⟩))
 | .call c=>(match c.callee,c.args.toList,c.argTypes.toList with
   | .builtin .append,[.tmp t,y],[ty,u]=>iq (Nat.beq ty u) (ob (kW P ty) fun e'=>ob (dm P e') fun sz=>ob (p7 P e') fun dg=>ob (j0 P e') fun z=>
      iq (Nat.blt 0 dg&&Nat.blt 0 sz&&Nat.beq z.length sz) (ob (Ev sz dg (e.an.getD t (.v .undef)).bu ((bc gl e y).aa).bu) fun r=>
       some ⟨cz (e.an.set t (e.an.getD t (.v .undef)).aa) o.dst (.v r),e.boxes⟩))
   |_,_,_=>none)
 |_=>none
def Ig(id:Nat)(aE:Bool)(o:Oper)(e:Env):Option Env:=match aE with
 |true=>HM P gl o e
 |false=>ob (IL P call id o (fun x=>(bc gl e x).aa) e.boxes) fun r=>some ⟨cz e.an o.dst r.1,r.2⟩
def OG(all:List Oper)(o:Oper)(e:Env):Option (Bool×Env):=
 match o.guard with
 |none=>some (true,e)
 |some (j,want)=>(match(match all[j]? with|some g=>g.dst|none=>none)with
  |some t=>(match e.an.getD t (.v .undef)with
   | .v (.d (.bool true))=>some (want,e.pn t true)
   | .v (.d (.bool false))=>some (!want,e.pn t false)
   | .t _=>some (false,e)
   |_=>none)
  |none=>none)
def yQ(aE:Nat→Bool)(all:List Oper)(base:Nat):List Oper→Nat→Env→Option Env
 |[],_,e=>some e
 |o::rest,i,e=>ob (OG all o e) fun r=>match r.1 with
  |true=>ob (Ig P gl call (base+fl all i) (aE i) o r.2) fun oE=>yQ aE all base rest (i+1) oE
  |false=>yQ aE all base rest (i+1) ⟨cz r.2.an o.dst (.t []),r.2.boxes⟩
def V7(aE:Nat→Bool)(ops:List Oper)(e:Env):Option Env:=
 yQ P gl call aE ops e.boxes.length ops 0 ⟨e.an,e.boxes++List.replicate (fl ops ops.length) .none⟩
def PF(x:SV)(sz:Nat)(A:List D→Option Env)(B:Option Env):Option Env:=match x with
 | .cA s L=>if s=sz then A L else none
 | .d _=>B
 |_=>none
def Ew(e:Env):gA→Option Env
 | .box t sz=>(match e.an.getD t (.v .undef)with
   | .v x=>PF x sz (fun L=>some ⟨e.an.set t (.a e.boxes.length L.length sz),e.boxes++[.cells (fc L)]⟩) (some e)
   |_=>none)
 | .lX t ts=>(match e.an.getD t (.v .undef)with
   | .a b n _=>(match e.boxes[b]? with
     |some (.cells cs)=>iq (kE b ts e) (ob (eP cs) fun ds=>if cs.length=n then some (ph b (fun m=>j7 m n (.d (.sl .ro 1 ds))) .undef ts e)else none)
     |_=>none)
   | .m b=>(match e.boxes[b]? with
     |some (.map l)=>iq (kE b ts e) (some (ph b (fun _=>.undef) (.mp l) ts e))
     |_=>none)
   | .v _=>some e
   |_=>none)
 |_=>none
def Ee:List gA→Env→Option Env
 |[],e=>some e
 |x::l,e=>ob (Ew e x) fun e'=>Ee l e'
theorem Vl{e e':Env}{x:gA}{k:Env→Prop}(h:Ew e x=some e')(hk:k e'):e6 e k x:=by
 cases x with
 |box t sz=>
  simp only[Ew]at h
  simp only[e6]
  split at h
  ·rename_i x hx
   rw[hx]
   unfold PF at h
   unfold ou
   dsimp only
   split at h
   ·split at h
    ·cases h;exact⟨by assumption,hk⟩
    ·cases h
   ·cases h;exact hk
   ·cases h
  ·cases h
 |lX t ts=>
  simp only[Ew]at h
  simp only[e6]
  split at h
  ·rename_i b n QU hx
   rw[hx]
   dsimp only
   split at h
   ·rename_i cs cp
    rw[cp]
    obtain⟨hs,h⟩:=ic h
    obtain⟨ds,jx,h⟩:=bS h
    split at h
    ·cases h
     simp only[hs,cond_true,jx,ab];exact⟨by assumption,hk⟩
    ·cases h
   ·cases h
  ·rename_i b hx
   rw[hx]
   dsimp only
   split at h
   ·rename_i l hl
    rw[hl]
    obtain⟨hs,h⟩:=ic h
    cases h
    simp only[hs,cond_true];exact hk
   ·cases h
  ·rename_i x hx
   rw[hx]
   cases h;exact hk
  ·cases h
 |_=>cases h
theorem LJ{k:Env→Prop}:∀{l:List gA}{e e':Env},Ee l e=some e'→k e'→lS l e k
 |[],e,e',h,hk=>by cases h;exact hk
 |x::l,e,e',h,hk=>by
  unfold Ee at h
  obtain⟨e1,h1,h⟩:=bS h
  exact Vl (k:=fun e'=>lS l e' k) h1 (LJ h hk)
def Ih(e:Env)(c:Operand):Option (Bool×Env):=match c with
 | .tmp t=>(match e.an.getD t (.v .undef)with
   | .v (.d (.bool true))=>some (true,e.pn t true)
   | .v (.d (.bool false))=>some (false,e.pn t false)
   |_=>none)
 | .const (.bool b)=>some (b,e)
 |_=>none
def Ef(vars:List Nat)(nb:Nat)(F:List SV→List (List SV)→Option (Ex×Env)):Nat→List SV→List (List SV)→Option (Ex×Env)
 |0,_,_=>none
 |n+1,vs,bs=>ob (F vs bs) fun r=>match r.1 with
  | .normal =>Ef vars nb F n (pd r.2 vars) (o7 nb r.2)
  | .exit i=>some (.exit i,r.2)
  | .ret =>some (.ret,r.2)
def jT(lf:Nat):Code→Env→Option (Ex×Env)
 | .skip,e=>some (.normal,e)
 | .region id ops draw,e=>iq (!draw||qi (oo h id) ops) (ob (Ee (D6 h.gh id) e) fun e1=>ob (V7 P gl call (oo h id) ops.toList e1) fun e'=>some (.normal,e'))
 | .seq a b,e=>ob (jT lf a e) fun r=>match r.1 with
   | .normal =>jT lf b r.2
   | .exit i=>some (.exit i,r.2)
   | .ret =>some (.ret,r.2)
 | .cond c a b,e=>ob (Ih e c) fun r=>match r.1 with
   |true=>jT lf a r.2
   |false=>jT lf b r.2
 | .block id b,e=>ob (jT lf b e) fun r=>match r.1 with
   | .normal =>some (.normal,r.2)
   | .exit i=>some (bif i==id then .normal else .exit i,r.2)
   | .ret =>some (.ret,r.2)
 | .loop b,e=>(match kY h.eQ (jF b)with
   |(vars,consts)=>iq (consts.all (fun t=> !(du h.gh b).contains t)&&yH (du h.gh b) vars consts e.an 0)
      (Ef vars e.boxes.length (fun vs bs=>jT lf b ⟨nY vars consts vs e.an 0,nZ bs e.boxes 0⟩) lf (pd e vars) (o7 e.boxes.length e)))
 | .exit id,e=>some (.exit id,e)
 | .ret,e=>some (.ret,e)
 |_,_=>none
def Ey(e:Env)(used:List Nat)(r:ResultVar):Option SV:=match r with
 | .tmp t=>(match e.an.getD t (.v .undef)with
   | .v x=>iq x.aj (some (bif used.contains t then aa x else x))
   |_=>none)
 | .cell a t=>ob (gy P t) fun ly=>(match e.an.getD a (.v .undef)with
   | .p b off=>ob (Df ly.1 ly.2 b off e.boxes) fun s=>(match s.1 with
     | .v x=>iq x.aj (some x)
     |_=>none)
   |_=>none)
def A9(e:Env):List Nat→List ResultVar→Option (List SV)
 |_,[]=>some []
 |used,r::l=>ob (Ey P e used r) fun x=>ob (A9 e (AU used r) l) fun xs=>some (x::xs)
def Hj(fn:Func)(e:Env):Option SV:=match fn.results.toList with
 |[r]=>Ey P e [] r
 |l=>ob (A9 P e [] l) fun xs=>some (.cR xs)
def Ba(lf:Nat)(f:FuncId)(args:List SV):Option SV:=match P.funcs[f]? with
 |some fn=>(match fn.body with
  |some c=>iq (!(fn.name== "runtime.NumGoroutine")) (ob (jT P gl call h lf c (enter fn.ntmps args)) fun r=>match r.1 with
   | .exit _=>none
   |_=>Hj P fn r.2)
  |none=>none)
 |none=>none
def qv(hs:FuncId→Hints)(lf:Nat):Nat→FuncId→List SV→Option SV
 |0,_,_=>none
 |n+1,f,args=>Ba P gl (qv hs lf n) (hs f) lf f args
end
section
variable{P:Program}{gl:Nat→Option D}{call:FuncId→List SV→Option SV}{h:Hints}{C:aP}(hC:∀f args r,call f args=some r→C f args r)
theorem T5{o:Oper}{e e':Env}{k:Env→Prop}(hh:HM P gl o e=some e')(hk:k e'):j8 P gl o e k:=by
 unfold HM at hh
 unfold j8
 split at hh
 ·rename_i ho;rw[ho];cases hh;exact hk
 ·rename_i ho;rw[ho];cases hh;exact hk
 ·rename_i t i ho
  rw[ho]
  dsimp only
  cases hs:e.an.getD t (.v .undef)with
  |t vs=>
   rw[hs]at hh
   obtain⟨r,hr,hh⟩:=bS hh
   cases hh
   simp only[hr];exact hk
  |_=>rw[hs]at hh;cases hh
 ·rename_i ty a ho
  rw[ho]
  dsimp only
  cases hs:(bc gl e a).aa with
  |p b off=>
   rw[hs]at hh
   obtain⟨ly,fE,hh⟩:=bS hh
   obtain⟨hl,hh⟩:=ic hh
   have fU:ly.1=false:=by simpa using hl
   simp only[fE,ab,fU,cond_false]
   split at hh
   ·rename_i hb
    rw[hb]
    obtain⟨x,hx,hh⟩:=bS hh
    cases hh
    simp only[hx];exact hk
   ·cases hh
  |_=>rw[hs]at hh;cases hh
 ·rename_i ty a t ho
  rw[ho]
  dsimp only
  split at hh
  ·rename_i hs hy hd
   rw[hs,hy,hd]
   dsimp only
   obtain⟨sz,aQ,hh⟩:=bS hh
   obtain⟨hl,hh⟩:=ic hh
   simp only[aQ,ab,hl,cond_true]
   split at hh
   ·rename_i hb
    rw[hb]
    obtain⟨x,hx,hh⟩:=bS hh
    split at hh
    ·split at hh
     ·cases hh
      simp only[hx];exact⟨by assumption,by assumption,hk⟩
     ·cases hh
    ·cases hh
   ·cases hh
  ·cases hh
 ·rename_i t n ps ho
  rw[ho]
  dsimp only
  obtain⟨e2,he,hh⟩:=bS hh
  obtain⟨ly,fE,hh⟩:=bS hh
  obtain⟨z,hz,hh⟩:=bS hh
  obtain⟨l,hl,hh⟩:=bS hh
  obtain⟨hc,hh⟩:=ic hh
  obtain⟨hf,hh⟩:=ic hh
  cases hh
  simp only[he,fE,hz,hl,hc,ab,cond_true];exact⟨hf,hk⟩
 ·rename_i c ho
  rw[ho]
  dsimp only
  split at hh
  ·rename_i hc hx ht
   rw[hc,hx,ht]
   dsimp only
   obtain⟨mT,hh⟩:=ic hh
   obtain⟨e',he,hh⟩:=bS hh
   obtain⟨sz,aQ,hh⟩:=bS hh
   obtain⟨dg,il,hh⟩:=bS hh
   obtain⟨z,hz,hh⟩:=bS hh
   obtain⟨dJ,hh⟩:=ic hh
   obtain⟨r,hr,hh⟩:=bS hh
   cases hh
   unfold Ev at hr
   obtain⟨r',lD,hr⟩:=bS hr
   split at hr
   ·rename_i hle
    cases hr
    simp only[mT,cond_true,he,aQ,il,hz,ab,dJ,cm,lD];exact⟨hle,hk⟩
   ·cases hr
  ·cases hh
 ·cases hh
include hC
theorem Uu{id:Nat}{aE:Bool}{o:Oper}{e e':Env}{k:Env→Prop}(hh:Ig P gl call id aE o e=some e')(hk:k e'):kI P gl C id aE o e k:=by
 unfold Ig at hh
 unfold kI
 cases aE with
 |true=>exact T5 hh hk
 |false=>
  obtain⟨r,hr,hh⟩:=bS hh
  cases hh
  exact Vk hC (k:=fun r au=>k ⟨cz e.an o.dst r,au⟩) (s:=r.1) (b':=r.2) hr hk
theorem FV{aE:Nat→Bool}{all:List Oper}{base:Nat}:∀(l:List Oper)(i:Nat)(e e':Env)(k:Env→Prop),yQ P gl call aE all base l i e=some e'→k e'→ie P gl C aE all base l i e k
 |[],i,e,e',k,hh,hk=>by
  unfold yQ at hh
  unfold ie
  cases hh;exact hk
 |o::rest,i,e,e',k,hh,hk=>by
  unfold yQ at hh
  unfold ie
  obtain⟨r,hr,hh⟩:=bS hh
  have Kd:r.1=true→kI P gl C (base+fl all i) (aE i) o r.2 fun oE=>ie P gl C aE all base rest (i+1) oE k:=by
   intro h1
   rw[h1]at hh
   obtain⟨oE,he,hh⟩:=bS hh
   exact Uu hC he (FV rest (i+1) oE e' k hh hk)
  have Ke:r.1=false→ie P gl C aE all base rest (i+1) ⟨cz r.2.an o.dst (.t []),r.2.boxes⟩ k:=by
   intro h1
   rw[h1]at hh
   exact FV rest (i+1) _ e' k hh hk
  unfold OG at hr
  unfold vj
  split at hr
  ·rename_i hg
   rw[hg]
   cases hr
   exact Kd rfl
  ·rename_i j want hg
   rw[hg]
   dsimp only
   cases ha:all[j]? with
   |none=>rw[ha]at hr;cases hr
   |some gd=>
    rw[ha]at hr
    dsimp only at hr ⊢
    cases ht:gd.dst with
    |none=>rw[ht]at hr;cases hr
    |some t=>
     rw[ht]at hr
     dsimp only at hr ⊢
     split at hr
     ·rename_i hs
      rw[hs]
      cases hr
      cases want with
      |true=>exact Kd rfl
      |false=>exact Ke rfl
     ·rename_i hs
      rw[hs]
      cases hr
      cases want with
      |true=>exact Ke rfl
      |false=>exact Kd rfl
     ·rename_i hs
      rw[hs]
      cases hr
      exact Ke rfl
     ·cases hr
omit hC in
theorem Vm{e:Env}{c:Operand}{r:Bool×Env}(hr:Ih e c=some r){A B:Env→Prop}(hA:r.1=true→A r.2)(hB:r.1=false→B r.2):nF e c A B:=by
 unfold Ih at hr
 unfold nF
 split at hr
 ·rename_i t
  dsimp only
  split at hr
  ·rename_i hs;rw[hs];cases hr;exact hA rfl
  ·rename_i hs;rw[hs];cases hr;exact hB rfl
  ·cases hr
 ·rename_i b
  cases hr
  cases b with
  |true=>exact hA rfl
  |false=>exact hB rfl
 ·cases hr
theorem uY{lf:Nat}:∀(c:Code)(e:Env)(r:Ex×Env)(Q:Ex→Env→Prop),jT P gl call h lf c e=some r→Q r.1 r.2→aw P gl C h c Q e
 | .skip,e,r,Q,hh,hQ=>by unfold jT at hh;unfold aw;cases hh;exact hQ
 | .region id ops draw,e,r,Q,hh,hQ=>by
   unfold jT at hh
   unfold aw
   obtain⟨h1,hh⟩:=ic hh
   obtain⟨e1,hg,hh⟩:=bS hh
   obtain⟨e',he,hh⟩:=bS hh
   cases hh
   rw[h1,Bool.true_or,cond_true]
   exact LJ (k:=fun e'=>wh P gl C (oo h id) ops.toList e' (qp P gl C true ops (oo h id) e' (Q .normal))) hg (FV hC _ _ _ e' _ he hQ)
 | .seq a b,e,r,Q,hh,hQ=>by
   unfold jT at hh
   unfold aw
   obtain⟨r1,h1,hh⟩:=bS hh
   refine uY a e r1 _ h1 ?_
   cases hx:r1.1 with
   |normal=>rw[hx]at hh;exact uY b _ r _ hh hQ
   |exit i=>rw[hx]at hh;cases hh;exact hQ
   |ret=>rw[hx]at hh;cases hh;exact hQ
 | .cond c a b,e,r,Q,hh,hQ=>by
   unfold jT at hh
   unfold aw
   obtain⟨r1,h1,hh⟩:=bS hh
   refine Vm h1 (fun hx=>?_) (fun hx=>?_)
   ·rw[hx]at hh;exact uY a _ r _ hh hQ
   ·rw[hx]at hh;exact uY b _ r _ hh hQ
 | .block id b,e,r,Q,hh,hQ=>by
   unfold jT at hh
   unfold aw
   obtain⟨r1,h1,hh⟩:=bS hh
   refine uY b e r1 _ h1 ?_
   cases hx:r1.1 with
   |normal=>rw[hx]at hh;cases hh;exact hQ
   |exit i=>
    rw[hx]at hh
    cases hh
    cases hi:(i==id)with
    |true=>rw[hi]at hQ;dsimp only;rw[hi];exact hQ
    |false=>rw[hi]at hQ;dsimp only;rw[hi];exact hQ
   |ret=>rw[hx]at hh;cases hh;exact hQ
 | .loop b,e,r,Q,hh,hQ=>by
   unfold jT at hh
   unfold aw
   dsimp only at hh ⊢
   obtain⟨h1,hh⟩:=ic hh
   rw[h1,cond_true]
   have key:∀(n:Nat)(vs:List SV)(bs:List (List SV)),Ef (kY h.eQ (jF b)).1 e.boxes.length (fun vs bs=>jT P gl call h lf b ⟨nY (kY h.eQ (jF b)).1 (kY h.eQ (jF b)).2 vs e.an 0,nZ bs e.boxes 0⟩) n vs bs=some r→
     bE (fun vs bs I=>aw P gl C h b (fun x e'=>match x with| .normal =>I (pd e' (kY h.eQ (jF b)).1) (o7 e.boxes.length e')| .exit i=>Q (.exit i) e'| .ret =>Q .ret e')
         ⟨nY (kY h.eQ (jF b)).1 (kY h.eQ (jF b)).2 vs e.an 0,nZ bs e.boxes 0⟩) vs bs:=by
    intro n
    induction n with
    |zero=>intro vs bs hl;cases hl
    |succ n ih=>
     intro vs bs hl I hI
     unfold Ef at hl
     obtain⟨r1,zS,hl⟩:=bS hl
     refine hI vs bs (uY b _ r1 _ zS ?_)
     cases hx:r1.1 with
     |normal=>rw[hx]at hl;exact ih _ _ hl I hI
     |exit i=>rw[hx]at hl;cases hl;exact hQ
     |ret=>rw[hx]at hl;cases hl;exact hQ
   exact key lf _ _ hh
 | .exit id,e,r,Q,hh,hQ=>by unfold jT at hh;unfold aw;cases hh;exact hQ
 | .ret,e,r,Q,hh,hQ=>by unfold jT at hh;unfold aw;cases hh;exact hQ
 | .scope _,e,r,Q,hh,hQ=>by unfold jT at hh;cases hh
 | .rangeFunc ..,e,r,Q,hh,hQ=>by unfold jT at hh;cases hh
omit hC in
theorem L4{e:Env}{used:List Nat}{r:ResultVar}{x:SV}{k:SV→Prop}(hh:Ey P e used r=some x)(hk:k x):tE P e used r k:=by
 unfold Ey at hh
 unfold tE
 split at hh
 ·dsimp only
  split at hh
  ·rename_i hs
   rw[hs]
   obtain⟨h1,hh⟩:=ic hh
   cases hh
   exact⟨h1,hk⟩
  ·cases hh
 ·obtain⟨ly,fE,hh⟩:=bS hh
  dsimp only
  simp only[fE,ab]
  split at hh
  ·rename_i hs
   rw[hs]
   obtain⟨s,hl,hh⟩:=bS hh
   dsimp only
   refine K1 (s:=s.1) (b':=s.2) hl ?_
   split at hh
   ·rename_i Kf
    rw[Kf]
    obtain⟨h1,hh⟩:=ic hh
    cases hh
    exact⟨h1,hk⟩
   ·cases hh
  ·cases hh
omit hC in
theorem F2{e:Env}:∀(l:List ResultVar)(used:List Nat)(xs:List SV)(k:List SV→Prop),A9 P e used l=some xs→k xs→rV P e used l k
 |[],used,xs,k,hh,hk=>by unfold A9 at hh;unfold rV;cases hh;exact hk
 |r::l,used,xs,k,hh,hk=>by
  unfold A9 at hh
  unfold rV
  obtain⟨x,hx,hh⟩:=bS hh
  obtain⟨ys,hy,hh⟩:=bS hh
  cases hh
  exact L4 hx (F2 l _ ys _ hy hk)
omit hC in
theorem Ld{fn:Func}{e:Env}{x:SV}{K:SV→Prop}(hh:Hj P fn e=some x)(hk:K x):finish P fn e K:=by
 unfold Hj at hh
 unfold finish
 match hl:fn.results.toList with
 |[r]=>rw[hl]at hh;exact L4 hh hk
 |[]=>
  rw[hl]at hh
  obtain⟨xs,hx,hh⟩:=bS hh
  cases hh
  exact F2 _ _ xs (fun xs=>K (.cR xs)) hx hk
 |r::r'::l=>
  rw[hl]at hh
  obtain⟨xs,hx,hh⟩:=bS hh
  cases hh
  exact F2 _ _ xs (fun xs=>K (.cR xs)) hx hk
theorem Uv{lf:Nat}{f:FuncId}{args:List SV}{x:SV}{K:SV→Prop}(hh:Ba P gl call h lf f args=some x)(hk:K x):body P gl C h f args K:=by
 unfold Ba at hh
 unfold body
 split at hh
 ·rename_i fn hf
  rw[hf]
  dsimp only
  split at hh
  ·rename_i c hb
   rw[hb]
   intro _
   obtain⟨_,hh⟩:=ic hh
   obtain⟨r,hr,hh⟩:=bS hh
   refine uY hC c _ r _ hr ?_
   cases hx:r.1 with
   |normal=>rw[hx]at hh;exact Ld hh hk
   |exit i=>rw[hx]at hh;cases hh
   |ret=>rw[hx]at hh;exact Ld hh hk
  ·cases hh
 ·cases hh
end
theorem Th{P:Program}{gl:Nat→Option D}{call:FuncId→List SV→Option SV}{h:Hints}{lf:Nat}{f:FuncId}{args:List SV}{x:SV}(hh:Ba P gl call h lf f args=some x):gH P f:=by
 unfold Ba at hh
 split at hh
 ·rename_i fn hf
  split at hh
  ·rename_i c hb
   obtain⟨hn,_⟩:=ic hh
   have mU:(fn.name== "runtime.NumGoroutine")=false:=by simpa using hn
   intro as w
   have h2:fn.body≠none:=by rw[hb];simp
   have h3:fn.name≠ "runtime.NumGoroutine" :=by simpa using mU
   simp[callFunc,go_sem,hf,h3,h2]
  ·cases hh
 ·cases hh
theorem uP{P:Program}{gl:Nat→Option D}(hm:P.follows .mixedOrders =true)(hs:FuncId→Hints)(lf:Nat):∀(n:Nat)(f:FuncId)(args:List SV)(r:SV),qv P gl hs lf n f args=some r→aF P gl f args r
 |0,f,args,r,hh=>by cases hh
 |n+1,f,args,r,hh=>by
  unfold qv at hh
  exact cG hm (Th hh) (Uv (uP hm hs lf n) hh rfl)
end Go.Proofs.YtaknajjmldngiaaGreat.Ab
namespace Go.Proofs.YtaknajjmldngiaaGreat.Ab
open Go
def Pt{X:Type}(T:(X→Prop)→Prop):Prop:=∀Q,T Q→∃x,Q x∧∀Q',Q' x→T Q'
section
variable{X Y α:Type}
theorem Pt.false:Pt (fun _:X→Prop=>False):=fun _ h=>h.elim
theorem Pt.pure(x:X):Pt (fun Q:X→Prop=>Q x):=fun _ h=>⟨x,h,fun _ h'=>h'⟩
theorem Pt.ab{o:Option α}{T:α→(X→Prop)→Prop}(h:∀x,Pt (T x)):Pt (fun Q=>ab o fun x=>T x Q):=by
 intro Q hq
 cases o with
 |none=>exact hq.elim
 |some x=>exact h x Q hq
theorem Pt.ai{x:SV}{A B:(X→Prop)→Prop}(hA:Pt A)(hB:Pt B):Pt (fun Q=>ai x (A Q) (B Q)):=by
 intro Q hq
 obtain⟨b,rfl,h1,h2⟩:=yr hq
 cases b with
 |true=>exact hA Q (h1 rfl)
 |false=>exact hB Q (h2 rfl)
theorem Pt.and{p:Prop}{A:(X→Prop)→Prop}(hA:Pt A):Pt (fun Q=>p∧A Q):=by
 intro Q ⟨hp,hq⟩
 obtain⟨x,h1,h2⟩:=hA Q hq
 exact⟨x,h1,fun Q' h=>⟨hp,h2 Q' h⟩⟩
theorem Pt.ex{T:α→(X→Prop)→Prop}(h:∀a,Pt (T a)):Pt (fun Q=>∃a,T a Q):=by
 intro Q ⟨a,hq⟩
 obtain⟨x,h1,h2⟩:=h a Q hq
 exact⟨x,h1,fun Q' h=>⟨a,h2 Q' h⟩⟩
theorem Pt.cond{b:Bool}{A B:(X→Prop)→Prop}(hA:Pt A)(hB:Pt B):Pt (fun Q=>cond b (A Q) (B Q)):=by
 intro Q hq
 cases b with
 |true=>exact hA Q hq
 |false=>exact hB Q hq
theorem Pt.seq{T:(Y→Prop)→Prop}{S:Y→(X→Prop)→Prop}(hT:Pt T)(hS:∀y,Pt (S y)):Pt (fun Q=>T fun y=>S y Q):=by
 intro Q hq
 obtain⟨y,h1,h2⟩:=hT _ hq
 obtain⟨x,h3,h4⟩:=hS y Q h1
 exact⟨x,h3,fun Q' h=>h2 _ (h4 Q' h)⟩
theorem Pt.zm{β:Type}{T:(α→β→Prop)→Prop}{S:α→β→(X→Prop)→Prop}(hT:Pt (fun Q:α×β→Prop=>T fun a b=>Q (a,b)))(hS:∀a b,Pt (S a b)):Pt (fun Q=>T fun a b=>S a b Q):=by
 intro Q hq
 obtain⟨y,h1,h2⟩:=hT (fun y=>S y.1 y.2 Q) hq
 obtain⟨x,h3,h4⟩:=hS y.1 y.2 Q h1
 exact⟨x,h3,fun Q' h=>h2 (fun y=>S y.1 y.2 Q') (h4 Q' h)⟩
end
section
variable{P:Program}{gl:Nat→Option D}{C:aP}{h:Hints}{X:Type}
theorem Xe{f:FuncId}{args:List SV}{T:SV→(X→Prop)→Prop}(hT:∀r,Pt (T r)):Pt (fun Q=>aB C f args fun r=>T r Q):=
 Pt.ex fun r=>Pt.and (Pt.and (hT r))
theorem OH:∀(n:Nat){T:List SV→(X→Prop)→Prop},(∀l,Pt (T l))→Pt (fun Q=>BU n fun l=>T l Q)
 |0,_,hT=>hT []
 |n+1,_,hT=>Pt.ex fun r=>OH n fun l=>hT (r::l)
theorem Dg{n:Nat}{au:List af}{f:FuncId}{args:List SV}:Pt (fun Q:Slot×List af→Prop=>lP C n au (fun s b=>Q (s,b)) f args):=by
 unfold lP
 split
 ·exact Xe fun r=>Pt.pure _
 ·exact OH _ fun l=>Pt.and (Pt.pure _)
theorem NY{sz dg:Nat}{x y:SV}{T:SV→(X→Prop)→Prop}(hT:∀r,Pt (T r)):Pt (fun Q=>cm sz dg x y fun r=>T r Q):=
 Pt.ab fun r=>Pt.and (hT r.1)
theorem L5{agg:Bool}{sz b off:Nat}{au:List af}:Pt (fun Q:Slot×List af→Prop=>np agg sz b off au fun s b=>Q (s,b)):=by
 unfold np
 cases au[b]? with
 |none=>exact Pt.false
 |some x=>
  cases x with
  |none=>exact Pt.false
  |map l=>exact Pt.false
  |cells cs=>exact Pt.ab fun x=>Pt.pure _
  |one s=>
   refine Pt.cond Pt.false ?_
   cases off with
   |zero=>exact Pt.pure _
   |succ n=>exact Pt.false
theorem Uw{sz b off:Nat}{x:Slot}{au:List af}{T:List af→(X→Prop)→Prop}(hT:∀r,Pt (T r)):Pt (fun Q=>oY sz b off x au fun b=>T b Q):=by
 unfold oY
 cases au[b]? with
 |none=>exact Pt.false
 |some y=>
  cases y with
  |none=>exact Pt.false
  |map l=>exact Pt.false
  |cells cs=>
   cases x with
   |v y=>exact Pt.ab fun l=>Pt.and (Pt.and (hT _))
   |t _=>exact Pt.false
   |_=>
    dsimp only
    split
    ·exact hT _
    ·exact Pt.false
  |one s=>
   dsimp only
   split
   ·cases x with
    |v y=>exact Pt.ab fun l=>Pt.and (hT _)
    |t _=>exact Pt.false
    |_=>exact hT _
   ·exact Pt.false
theorem aaV{id:Nat}{o:Oper}{ρ:Operand→Slot}{au:List af}:Pt (fun Q:Slot×List af→Prop=>c8 P C id o ρ au fun s b=>Q (s,b)):=by
 unfold c8
 cases o.op
 case move x=>exact Pt.pure _
 case assign x=>exact Pt.pure _
 case pick c a b=>
  dsimp only
  cases ρ c with
  |v x=>exact Pt.ai (Pt.pure _) (Pt.pure _)
  |_=>exact Pt.false
 case alloc t=>
  dsimp only
  split
  ·exact Pt.ab fun z=>Pt.pure _
  ·exact Pt.false
 case box t x=>
  dsimp only
  split
  ·refine Pt.ab fun sz=>?_
   cases ρ x with
   |v y=>exact Pt.ab fun l=>Pt.and (Pt.pure _)
   |t _=>exact Pt.false
   |_=>
    dsimp only
    split
    ·exact Pt.pure _
    ·exact Pt.false
  ·exact Pt.false
 case build t ps=>exact Pt.ab fun l=>Pt.ab fun r=>Pt.pure _
 case buildSlice t n ps=>exact Pt.ab fun e=>Pt.ab fun ly=>Pt.ab fun z=>Pt.ab fun l=>Pt.cond (Pt.and (Pt.pure _)) Pt.false
 case load t a=>
  refine Pt.ab fun ly=>?_
  cases ρ a with
  |p b off=>exact L5
  |v x=>exact Pt.ab fun y=>Pt.pure _
  |_=>exact Pt.false
 case store t a x=>
  refine Pt.ab fun sz=>?_
  cases ρ a with
  |p b off=>
   cases o.dst with
   |none=>exact Uw fun r=>Pt.pure _
   |some _=>exact Pt.false
  |_=>exact Pt.false
 case nilCheck x=>
  dsimp only
  cases ρ x with
  |v y=>exact Pt.ab fun z=>Pt.pure _
  |t _=>exact Pt.false
  |c f first cap=>
   cases f with
   |func _=>exact Pt.pure _
   |method name=>
    dsimp only
    split
    ·exact Pt.ab fun _=>Pt.pure _
    ·exact Pt.false
   |_=>exact Pt.false
  |p b off=>exact Pt.pure _
  |a _ _ _=>exact Pt.false
  |m _=>exact Pt.false
 case binOp op t x y _=>exact Pt.ab fun r=>Pt.pure _
 case unOp op _ x=>exact Pt.ab fun r=>Pt.pure _
 case convert src dst x=>exact Pt.cond (Pt.ab fun r=>Pt.pure _) Pt.false
 case makeInterface t x=>exact Pt.cond Pt.false (Pt.ab fun r=>Pt.pure _)
 case makeFunc fn first cap=>exact Pt.pure _
 case slice t x lo hi mx=>exact Pt.ab fun r=>Pt.pure _
 case fieldAddr t x f=>
  refine Pt.ab fun fd=>Pt.ab fun sz=>Pt.cond Pt.false ?_
  cases ρ x with
  |p b off=>exact Pt.pure _
  |v y=>exact Pt.ab fun z=>Pt.pure _
  |_=>exact Pt.false
 case field t x f=>exact Pt.ab fun fd=>Pt.ab fun ly=>Pt.ab fun r=>Pt.pure _
 case indexAddr t x i=>
  dsimp only
  split
  ·refine Pt.ab fun sz=>?_
   cases ρ x with
   |a b n=>exact Pt.ab fun j=>Pt.pure _
   |_=>exact Pt.ab fun r=>Pt.pure _
  ·refine Pt.ab fun sz=>Pt.ab fun j=>?_
   cases ρ x with
   |p b off=>exact Pt.pure _
   |v y=>exact Pt.ab fun z=>Pt.pure _
   |_=>exact Pt.false
  ·exact Pt.false
 case index t x i=>
  dsimp only
  split
  ·exact Pt.ab fun ly=>Pt.ab fun r=>Pt.pure _
  ·exact Pt.ab fun r=>Pt.pure _
  ·exact Pt.false
 case extract x i=>
  dsimp only
  cases ρ x with
  |t vs=>
   dsimp only
   split
   ·exact Pt.pure _
   ·exact Pt.false
  |_=>exact Pt.false
 case lookup t m x xv=>
  dsimp only
  cases xv with
  |true=>exact Pt.ab fun et=>Pt.ab fun z=>Pt.ab fun r=>Pt.pure (X:=Slot×List af) (Slot.t [.d r.1,.d (.bool r.2)],au)
  |false=>exact Pt.ab fun et=>Pt.ab fun z=>Pt.ab fun r=>Pt.pure (X:=Slot×List af) (Slot.v (.d r.1),au)
 case makeSlice t n c=>exact Pt.ab fun e=>Pt.ab fun sz=>Pt.ab fun dg=>Pt.ab fun z=>Pt.cond (Pt.ab fun m=>Pt.and (Pt.pure _)) Pt.false
 case makeMap t hn=>
  dsimp only
  split
  ·exact Pt.pure _
  ·exact Pt.false
 case mapUpdate t m x y=>
  refine Pt.ab fun et=>?_
  split
  ·split
   ·exact Pt.ab fun n=>Pt.ab fun d=>Pt.ab fun l'=>Pt.pure _
   ·exact Pt.false
  ·exact Pt.false
 case call c=>
  dsimp only
  cases c.callee with
  |value f=>
   dsimp only
   cases ρ f with
   |v x=>
    dsimp only
    unfold withFn
    split
    ·exact Dg
    ·exact Dg
    ·exact Pt.false
   |c g first cap=>
    cases g with
    |func g=>exact Dg
    |_=>exact Pt.false
   |_=>exact Pt.false
  |invoke f name=>
   dsimp only
   cases ρ f with
   |v x=>
    dsimp only
    unfold tg
    split
    ·exact Pt.ab fun f=>Dg
    ·exact Pt.false
   |_=>exact Pt.false
  |builtin b=>
   dsimp only
   split
   ·rename_i x xs t ts _ _
    cases ρ x with
    |a b n=>exact Pt.cond (Pt.pure _) Pt.false
    |_=>exact Pt.ab fun r=>Pt.pure _
   ·exact Pt.cond (Pt.ab fun e=>Pt.ab fun sz=>Pt.ab fun dg=>Pt.ab fun z=>Pt.cond (NY fun r=>Pt.pure _) Pt.false) Pt.false
   ·exact Pt.ab fun r=>Pt.pure _
   ·exact Pt.ab fun r=>Pt.pure _
   ·exact Pt.false
 all_goals exact Pt.false
theorem Xf{o:Oper}{e:Env}:Pt (fun Q=>j8 P gl o e Q):=by
 unfold j8
 split
 ·exact Pt.pure _
 ·exact Pt.pure _
 ·split
  ·split
   ·exact Pt.pure _
   ·exact Pt.false
  ·exact Pt.false
 ·split
  ·refine Pt.ab fun ly=>Pt.cond Pt.false ?_
   split
   ·exact Pt.ab fun x=>Pt.pure _
   ·exact Pt.false
  ·exact Pt.false
 ·split
  ·refine Pt.ab fun sz=>Pt.cond ?_ Pt.false
   split
   ·exact Pt.ab fun l=>Pt.and (Pt.and (Pt.pure _))
   ·exact Pt.false
  ·exact Pt.false
 ·exact Pt.ab fun e'=>Pt.ab fun ly=>Pt.ab fun z=>Pt.ab fun l=>Pt.cond (Pt.and (Pt.pure _)) Pt.false
 ·split
  ·exact Pt.cond (Pt.ab fun e'=>Pt.ab fun sz=>Pt.ab fun dg=>Pt.ab fun z=>Pt.cond (NY fun r=>Pt.pure _) Pt.false) Pt.false
  ·exact Pt.false
 ·exact Pt.false
theorem Yx{id:Nat}{aE:Bool}{o:Oper}{e:Env}:Pt (fun Q=>kI P gl C id aE o e Q):=by
 unfold kI
 cases aE with
 |true=>exact Xf
 |false=>exact Pt.zm (X:=Env) (S:=fun(r:Slot)(au:List af)(Q:Env→Prop)=>Q ⟨cz e.an o.dst r,au⟩) aaV fun a b=>Pt.pure (X:=Env) _
theorem V8{all:List Oper}{o:Oper}{e:Env}{A B:Env→(X→Prop)→Prop}(hA:∀e,Pt (A e))(hB:∀e,Pt (B e)):Pt (fun Q=>vj all o e (fun e=>A e Q) (fun e=>B e Q)):=by
 unfold vj
 split
 ·exact hA e
 ·rename_i j want _
  split
  ·split
   ·cases want with
    |true=>exact Pt.ai (hA _) (hB _)
    |false=>exact Pt.ai (hB _) (hA _)
   ·exact hB e
   ·exact Pt.false
  ·exact Pt.false
theorem GV{aE:Nat→Bool}{all:List Oper}{base:Nat}:∀(l:List Oper)(i:Nat)(e:Env),Pt (fun Q=>ie P gl C aE all base l i e Q)
 |[],i,e=>by unfold ie;exact Pt.pure _
 |o::rest,i,e=>by
  unfold ie
  exact V8 (fun e=>Pt.seq Yx fun e=>GV rest (i+1) e) (fun e=>GV rest (i+1) _)
theorem aaW{e:Env}{x:gA}:Pt (fun Q:Env→Prop=>e6 e Q x):=by
 cases x with
 |box t sz=>
  simp only[e6]
  split
  ·rename_i x _
   unfold ou
   cases x<;>first|exact Pt.pure _|exact Pt.false|exact Pt.and (Pt.pure _)
  ·exact Pt.false
 |lX t ts=>
  simp only[e6]
  split
  ·split
   ·exact Pt.cond (Pt.ab fun ds=>Pt.and (Pt.pure _)) Pt.false
   ·exact Pt.false
  ·split
   ·exact Pt.cond (Pt.pure _) Pt.false
   ·exact Pt.false
  ·exact Pt.pure _
  ·exact Pt.false
 |su t agg sz ts=>
  simp only[e6]
  split
  ·split
   ·exact Pt.cond (Pt.ab fun ds=>Pt.ab fun L=>Pt.pure _) Pt.false
   ·exact Pt.false
  ·exact Pt.pure _
  ·exact Pt.false
 |emp t=>
  simp only[e6]
  split
  ·exact Pt.ab fun y=>Pt.pure _
  ·exact Pt.false
 |kM t=>
  simp only[e6]
  split
  ·exact Pt.ab fun y=>Pt.pure _
  ·exact Pt.false
 |oF t ts=>
  simp only[e6]
  split
  ·split
   ·split
    ·exact Pt.cond (Pt.pure _) Pt.false
    ·exact Pt.false
   ·exact Pt.false
  ·exact Pt.false
theorem NZ:∀(l:List gA)(e:Env),Pt (fun Q:Env→Prop=>lS l e Q)
 |[],e=>by unfold lS;exact Pt.pure _
 |x::l,e=>by unfold lS;exact Pt.seq (X:=Env) (S:=fun(e':Env)(Q:Env→Prop)=>lS l e' Q) aaW fun e'=>NZ l e'
theorem Xg{e:Env}{c:Operand}{A B:Env→(X→Prop)→Prop}(hA:∀e,Pt (A e))(hB:∀e,Pt (B e)):Pt (fun Q=>nF e c (fun e=>A e Q) (fun e=>B e Q)):=by
 unfold nF
 split
 ·split
  ·exact Pt.ai (hA _) (hB _)
  ·exact Pt.false
 ·exact Pt.cond (hA _) (hB _)
 ·exact Pt.false
theorem Xh{F:(X→Prop)→List SV→List (List SV)→(List SV→List (List SV)→Prop)→Prop}
  (hF:∀vs bs,Pt (fun Q:(List SV×List (List SV)) ⊕ X→Prop=>F (fun x=>Q (.inr x)) vs bs fun v b=>Q (.inl (v,b))))(vs:List SV)(bs:List (List SV)):Pt (fun Q=>bE (F Q) vs bs):=by
 intro Q hq
 refine hq (fun vs bs=>∃x,Q x∧∀Q',Q' x→bE (F Q') vs bs) fun vs bs wL=>?_
 obtain⟨y,h1,h2⟩:=hF vs bs (fun y=>match y with| .inl p=>∃x,Q x∧∀Q',Q' x→bE (F Q') p.1 p.2| .inr x=>Q x) wL
 cases y with
 |inl p=>
  obtain⟨x,hx,hl⟩:=h1
  refine⟨x,hx,fun Q' Kg I hI=>hI _ _ ?_⟩
  exact h2 (fun y=>match y with| .inl p=>I p.1 p.2| .inr x=>Q' x) (hl Q' Kg I hI)
 |inr x=>
  refine⟨x,h1,fun Q' Kg I hI=>hI _ _ ?_⟩
  exact h2 (fun y=>match y with| .inl p=>I p.1 p.2| .inr x=>Q' x) Kg
theorem Yy{ok:Bool}{ops:Array Oper}{aE:Nat→Bool}{e1:Env}(e:Env):Pt (fun Q:Ex×Env→Prop=>qp P gl C ok ops aE e1 (fun e=>Q (.normal,e)) e):=by
 cases ok
 ·exact Pt.and (Pt.pure (X:=Ex×Env) _)
 ·exact Pt.pure (X:=Ex×Env) _
theorem wM:∀(c:Code)(e:Env),Pt (fun Q:Ex×Env→Prop=>aw P gl C h c (fun x e=>Q (x,e)) e)
 | .skip,e=>by unfold aw;exact Pt.pure _
 | .region id ops draw,e=>by
   unfold aw
   refine Pt.cond ?_ Pt.false
   unfold wh
   exact Pt.seq (X:=Ex×Env) (S:=fun(e1:Env)(Q:Ex×Env→Prop)=>ie P gl C (oo h id) ops.toList e1.boxes.length ops.toList 0 ⟨e1.an,e1.boxes++List.replicate (fl ops.toList ops.toList.length) .none⟩ (qp P gl C (!draw||qi (oo h id) ops) ops (oo h id) e1 fun e=>Q (.normal,e))) (NZ _ _)
    fun e1=>Pt.seq (X:=Ex×Env) (S:=fun(e:Env)(Q:Ex×Env→Prop)=>qp P gl C (!draw||qi (oo h id) ops) ops (oo h id) e1 (fun e=>Q (.normal,e)) e) (GV _ _ _) fun e=>Yy _
 | .seq a b,e=>by
   unfold aw
   refine Pt.zm (T:=fun(k:Ex→Env→Prop)=>aw P gl C h a k e) (S:=fun(x:Ex)(e':Env)(Q:_→Prop)=>match x with| .normal =>aw P gl C h b (fun x e=>Q (x,e)) e'| .exit i=>Q (Ex.exit i,e')| .ret =>Q (Ex.ret,e')) (wM a e) fun x e'=>?_
   cases x with
   |normal=>exact wM b e'
   |exit i=>exact Pt.pure _
   |ret=>exact Pt.pure _
 | .cond c a b,e=>by
   unfold aw
   exact Xg (fun e=>wM a e) (fun e=>wM b e)
 | .block id b,e=>by
   unfold aw
   refine Pt.zm (T:=fun(k:Ex→Env→Prop)=>aw P gl C h b k e) (S:=fun(x:Ex)(e':Env)(Q:_→Prop)=>match x with| .normal =>Q (Ex.normal,e')| .exit i=>bif i==id then Q (Ex.normal,e')else Q (Ex.exit i,e')| .ret =>Q (Ex.ret,e')) (wM b e) fun x e'=>?_
   cases x with
   |normal=>exact Pt.pure _
   |exit i=>exact Pt.cond (Pt.pure _) (Pt.pure _)
   |ret=>exact Pt.pure _
 | .loop b,e=>by
   unfold aw
   refine Pt.cond ?_ Pt.false
   refine Xh (F:=fun(Q:Ex×Env→Prop)vs bs I=>aw P gl C h b (fun x e'=>match x with| .normal =>I (pd e' (kY h.eQ (jF b)).1) (o7 e.boxes.length e')| .exit i=>Q (Ex.exit i,e')| .ret =>Q (Ex.ret,e'))
    ⟨nY (kY h.eQ (jF b)).1 (kY h.eQ (jF b)).2 vs e.an 0,nZ bs e.boxes 0⟩) (fun vs bs=>?_) _ _
   refine Pt.zm (T:=fun(k:Ex→Env→Prop)=>aw P gl C h b k _) (S:=fun(x:Ex)(e':Env)(Q:_→Prop)=>match x with| .normal =>Q (Sum.inl (pd e' (kY h.eQ (jF b)).1,o7 e.boxes.length e'))| .exit i=>Q (Sum.inr (Ex.exit i,e'))| .ret =>Q (Sum.inr (Ex.ret,e'))) (wM b _) fun x e'=>?_
   cases x<;>exact Pt.pure _
 | .exit id,e=>by unfold aw;exact Pt.pure _
 | .ret,e=>by unfold aw;exact Pt.pure _
 | .scope _,e=>by unfold aw;exact Pt.false
 | .rangeFunc ..,e=>by unfold aw;exact Pt.false
 | .label ..,e=>by unfold aw;exact Pt.false
 | .goto ..,e=>by unfold aw;exact Pt.false
 | .refuse ..,e=>by unfold aw;exact Pt.false
theorem N0{e:Env}{used:List Nat}{r:ResultVar}{T:SV→(X→Prop)→Prop}(hT:∀r,Pt (T r)):Pt (fun Q=>tE P e used r fun x=>T x Q):=by
 unfold tE
 cases r with
 |tmp t=>
  dsimp only
  split
  ·exact Pt.and (hT _)
  ·exact Pt.false
 |cell a t=>
  dsimp only
  refine Pt.ab fun ly=>?_
  split
  ·refine Pt.zm (S:=fun(s:Slot)(_:List af)Q=>match s with| .v x=>x.aj=true∧T x Q|_=>False) L5 fun s b=>?_
   cases s with
   |v x=>exact Pt.and (hT x)
   |_=>exact Pt.false
  ·exact Pt.false
theorem Nr{e:Env}:∀(l:List ResultVar)(used:List Nat){T:List SV→(X→Prop)→Prop},(∀r,Pt (T r))→Pt (fun Q=>rV P e used l fun x=>T x Q)
 |[],used,T,hT=>by unfold rV;exact hT []
 |r::l,used,T,hT=>by
  unfold rV
  exact N0 fun x=>Nr l _ fun xs=>hT (x::xs)
theorem V9{fn:Func}{e:Env}:Pt (fun K:SV→Prop=>finish P fn e K):=by
 unfold finish
 split
 ·exact N0 fun x=>Pt.pure x
 ·exact Nr _ _ fun xs=>Pt.pure _
theorem Yz{f:FuncId}{args:List SV}(aW:SV.fS args):Pt (fun K:SV→Prop=>body P gl C h f args K):=by
 unfold body
 cases P.funcs[f]? with
 |none=>exact Pt.false
 |some fn=>
  dsimp only
  cases fn.body with
  |none=>exact Pt.false
  |some c=>
   have:Pt (fun K:SV→Prop=>aw P gl C h c (fun x e=>match x with| .normal =>finish P fn e K| .ret =>finish P fn e K| .exit _=>False) (enter fn.ntmps args)):=by
    refine Pt.zm (T:=fun(k:Ex→Env→Prop)=>aw P gl C h c k _) (S:=fun(x:Ex)(e:Env)K=>match x with| .normal =>finish P fn e K| .ret =>finish P fn e K| .exit _=>False) (wM c _) fun x e=>?_
    cases x with
    |exit i=>exact Pt.false
    |_=>exact V9
   intro Q hq
   obtain⟨x,h1,h2⟩:=this Q (hq aW)
   exact⟨x,h1,fun Q' h _=>h2 Q' h⟩
end
theorem Wa{P:Program}{gl:Nat→Option D}{f:FuncId}{args:List SV}{r:SV}(hE:gH P f)(hw:¬SV.fS args):aF P gl f args r:=by
 refine⟨hE,fun w St vs mc nP hlen fp=>absurd ?_ hw⟩
 rw[SV.iA]
 intro x hx
 obtain⟨i,hi,rfl⟩:=List.mem_iff_getElem.1 hx
 exact(fp i _ (vs[i]'(by omega)) (by simp) (by simp)).wf
theorem Gj{P:Program}{gl:Nat→Option D}{h:Hints}(hm:P.follows .mixedOrders =true){f:FuncId}{args:List SV}{Q:SV→Prop}(hE:gH P f)(hQ:∃r,Q r)(hh:body P gl (aF P gl) h f args Q):∃r,Q r∧aF P gl f args r:=by
 by_cases hw:SV.fS args
 ·obtain⟨r,h1,h2⟩:=Yz hw Q hh
  exact⟨r,h1,cG hm hE (h2 _ rfl)⟩
 ·obtain⟨r,hr⟩:=hQ
  exact⟨r,hr,Wa hE hw⟩
end Go.Proofs.YtaknajjmldngiaaGreat.Ab
namespace Go.Proofs.YtaknajjmldngiaaGreat.Ab
open Go Go.RowKit
def FW(r:Option Nat):Fence:={Fence.wide with round:=r}
theorem YA(l:Nat):FW (some l)=Fence.wide.inRound l:=rfl
section
variable{P:Program}{gl:Nat→Option D}{ops:Array Oper}{aE:Nat→Bool}{base:Nat}{r:Option Nat}{n:Nat}{ds:List Deferred}
def wd(a:Act)(ds:List Deferred):Act:={a with defers:=ds}
theorem AX(a:Act)(ds:List Deferred)(dst:Option Tmp)(v:Value):(wd a ds).put dst v=wd (a.put dst v) ds:=by cases dst<;>rfl
theorem nD{a:Act}(h:a.defers=[]):wd a []=a:=by cases a;simp only at h;subst h;rfl
theorem YB(a:Act)(ds:List Deferred):(wd a ds).eval =a.eval:=funext fun x=>by cases x<;>rfl
theorem YC{o:Oper}{a:Act}{next:Act→World→Prop}{Q:Exit→Act→World→Prop}{x:Result Next}
  (h:o.upon P a (fun a1 w1=>a1.defers=[]∧next (wd a1 ds) w1) (fun x a1 w1=>Q x (wd a1 ds) w1) x):o.uponIn (FW r) n P (wd a ds) next Q x:=by
 cases x with
 |ok nx w'=>
  cases nx with
  |enter f args=>
   refine⟨fun h=>(by cases h),?_⟩
   have h1:CallsIn Fence.wide (n-1) P f args w' _:=callsIn_wide.2 h
   refine CallsIn.mono (F:=FW r) h1 fun e w2 he=>?_
   cases e with
   |returned v=>show next ((wd a ds).put o.dst v) w2;rw[AX];exact he.2
   |panicked ch=>exact he
   |outgrown=>obtain⟨b1,b2,b3⟩:=he;exact⟨wd b1 ds,b2,b3⟩
  |row row args=>
   refine⟨fun h=>(by cases h),fun c cs _=>?_⟩
   obtain⟨v,w2,h1,h2⟩:=h c cs
   exact⟨v,w2,by show next ((wd a ds).put o.dst v) w2;rw[AX];exact h1.2,stepsIn_wide.2 h2⟩
  |value v=>rw[Oper.uponIn_value,AX];exact h.2
  |skip=>rw[Oper.uponIn_skip,AX];exact h.2
  |defer d=>
   obtain⟨h1,_⟩:=h
   rw[put_defers]at h1
   cases h1
  |_=>exact h.elim
 |halt x w'=>cases x<;>first|exact h|exact h.elim
theorem Hk{o:Oper}{a:Act}{w:World}{next:Act→World→Prop}{Q:Exit→Act→World→Prop}(lY:∀c,o.op≠.defer c)
  (h:o.wp P a w (fun a1 w1=>a1.defers=[]∧next (wd a1 ds) w1) (fun x a1 w1=>Q x (wd a1 ds) w1)):o.wpIn (FW r) n P (wd a ds) w next Q:=by
 refine⟨fun _ _=>trivial,?_⟩
 have hs:o.semAt (FW r).round (wd a ds).eval =execOp a.eval o:=by
  rw[YB]
  cases r with
  |none=>rfl
  |some l=>exact Oper.semAt_some l _ o lY
 rw[hs]
 exact YC h
theorem Vn{C:aP}{id:Nat}{l:Bool}{o:Oper}{e:Env}{k:Env→Prop}(h:kI P gl C id l o e k):∀c,o.op≠.defer c:=by
 intro c hc
 unfold kI at h
 cases l with
 |true=>simp only[cond_true,j8,hc]at h
 |false=>simp only[cond_false,c8,hc]at h
theorem Gk{w0:World}{ay:S0}{e:Env}{a:Act}{w:World}{g:Gh}(hI:Inv gl w0 ay e a w g){i id:Nat}{l:Bool}{o:Oper}(ho:ops[i]? =some o){k:Env→Prop}
  (h:my P gl (aF P gl) ops.toList id l o e k){next:Act→World→Prop}{Q:Exit→Act→World→Prop}(hn:∀e' v w' g',Inv gl w0 ay e' (a.put o.dst v) w' g'→k e'→next (wd (a.put o.dst v) ds) w'):wpOpIn (FW r) n P ops Q i next (wd a ds) w:=by
 have h':=yi.1 h
 unfold wpOpIn
 simp only[ho]
 split at h'
 ·rename_i hg
  rw[if_pos (show Region.wanted o (yielded ops (wd a ds).tmps)=true from CX hI hg)]
  exact Hk (Vn h') (Mv hI h' _ _ fun e' v w' g' hinv hk=>⟨hinv.defers,hn e' _ w' g' hinv hk⟩)
 ·rename_i hg
  rw[if_neg (by rw[show Region.wanted o (yielded ops (wd a ds).tmps)=false from CX hI hg];simp)]
  refine⟨fun _ _=>trivial,?_⟩
  rw[AX]
  exact hn _ _ _ _ (Ni hI o.dst) h'
 ·exact h'.elim
def oL(l:List Oper)(a a':Act):Prop:=∀t,t∉l.filterMap (·.dst)→a'.tmps.getD t undef=a.tmps.getD t undef
theorem oL.refl(l:List Oper)(a:Act):oL l a a:=fun _ _=>rfl
theorem oL.put{l:List Oper}{a0 a:Act}{o:Oper}(h:oL l a0 a)(ho:o∈l)(hs:a.tmps.size=a0.tmps.size)(v:Value):oL l a0 (a.put o.dst v):=by
 intro t ht
 rw[←h t ht]
 cases hd:o.dst with
 |none=>rfl
 |some d=>
  have ck:d≠t:=fun hh=>ht (List.mem_filterMap.2 ⟨o,ho,by rw[hd,hh]⟩)
  simp only[Act.put,Array.getD_eq_getD_getElem?]
  rw[Array.getElem?_setIfInBounds_ne ck]
theorem GW{w0:World}{ay:S0}{K:Env→Prop}{Q:Exit→Act→World→Prop}{a0:Act}(hQ:∀e a w g,Inv gl w0 ay e a w g→K e→oL ops.toList a0 a→Q .normal (wd a ds) w):∀(fuel:Nat)(bM:Array Bool)(e:Env)(a:Act)(w:World)(g:Gh),
  Inv gl w0 ay e a w g→oL ops.toList a0 a→a.tmps.size=a0.tmps.size→vB P gl ops aE base K fuel bM e→wpAnyIn (FW r) n P .any ops Q fuel bM (wd a ds) w
 |0,_,e,a,w,g,hI,g8,_,h=>⟨h.1,hQ e a w g hI h.2 g8⟩
 |fuel+1,_,e,a,w,g,hI,g8,lB,h=>⟨fun h0=>hQ e a w g hI (h.1 h0) g8,fun i hi=>by
   obtain⟨o,ho,hs⟩:=h.2 i hi
   exact Gk hI ho hs fun e' v w' g' hinv hk=>GW hQ fuel _ e' _ w' g' hinv (g8.put (by simpa using Array.mem_of_getElem? ho) lB v) (by rw[u4,lB]) hk⟩
theorem MH{w0:World}{ay:S0}{K:Env→Prop}{Q:Exit→Act→World→Prop}{a0:Act}(hQ:∀e a w g,Inv gl w0 ay e a w g→K e→oL ops.toList a0 a→Q .normal (wd a ds) w):∀(l:List Oper)(i:Nat)(e:Env)(a:Act)(w:World)(g:Gh),
  (∀j,l[j]? =ops[i+j]?)→Inv gl w0 ay e a w g→oL ops.toList a0 a→a.tmps.size=a0.tmps.size→ie P gl (aF P gl) aE ops.toList base l i e K→wpOpsIn (FW r) n P ops Q (List.range' i l.length) (wd a ds) w
 |[],_,e,a,w,g,_,hI,g8,_,h=>hQ e a w g hI h g8
 |o::l,i,e,a,w,g,hl,hI,g8,lB,h=>by
  have h0:ops[i]? =some o:=by simpa using(hl 0).symm
  rw[List.length_cons,List.range'_succ,wpOpsIn_cons]
  rw[yt]at h
  exact Gk hI h0 h fun e' v w' g' hinv hk=>MH hQ l (i+1) e' _ w' g' (fun j=>by have:=hl (j+1);simpa[Nat.add_assoc,Nat.add_comm 1 j]using this) hinv (g8.put (by simpa using Array.mem_of_getElem? h0) lB v) (by rw[u4,lB]) hk
theorem Uz{w0:World}{ay:S0}{e:Env}{a:Act}{w:World}{g:Gh}(hI:Inv gl w0 ay e a w g){id:Nat}{draw:Bool}{K:Env→Prop}{Q:Exit→Act→World→Prop}(hm:P.follows .mixedOrders =true)
  (h:wh P gl (aF P gl) aE ops.toList e (qp P gl (aF P gl) (!draw||qi aE ops) ops aE e K))(hQ:∀e a' w g,Inv gl w0 ay e a' w g→K e→oL ops.toList a a'→Q .normal (wd a' ds) w):(Code.region id ops draw).wpIn (FW r) n P Q (wd a ds) w:=by
 unfold wh at h
 cases di:(!draw||qi aE ops)with
 |false=>
  rw[di]at h
  obtain⟨e',II,hK⟩:=Gf _ _ _ h
  have hd:draw=true:=by cases draw<;>simp_all
  subst hd
  refine wpIn_region_any hm ?_
  have cD:=(hI.De (fl ops.toList ops.toList.length)).drew
  have:=Ge (P:=P) (gl:=gl) (aE:=aE) (K:=fun x=>x=e') _ 0 (Array.replicate ops.size false) _ (fun j=>by simp[Array.getElem?_replicate];split<;>rfl) (by simp) (fun j o ho hl=>by
   have hj:j<ops.size:=(Array.getElem?_eq_some_iff.1 ho).1
   simp[hj]at hl) ⟨w0,ay,a,_,_,cD⟩ II
  have h2:=GW (r:=r) (n:=n) (Q:=Q) (K:=fun x=>x=e') (fun e1 a1 w1 g1 hinv hk=>hQ e1 a1 w1 g1 hinv (by rw[hk];exact hK)) _ _ _ _ _ _ cD (oL.refl _ _) rfl this
  simpa using h2
 |true=>
 rw[di]at h
 replace h:ie P gl (aF P gl) aE ops.toList e.boxes.length ops.toList 0 ⟨e.an,e.boxes++List.replicate (fl ops.toList ops.toList.length) .none⟩ K:=h
 have bJ:=hI.De (fl ops.toList ops.toList.length)
 cases draw with
 |false=>
  refine wpIn_region ?_
  have:=MH (r:=r) (n:=n) (base:=e.boxes.length) (aE:=aE) hQ ops.toList 0 _ a w _ (fun j=>by simp) bJ (oL.refl _ _) rfl h
  rw[List.range_eq_range']
  simpa using this
 |true=>
  simp only[Bool.not_true,Bool.false_or]at di
  refine wpIn_region_any hm ?_
  have cD:=bJ.drew
  have aQ:(Array.replicate ops.size false).size =ops.size:=by simp
  have JT:=hI.Pd (ops:=ops) (fl ops.toList ops.toList.length) rfl
  obtain⟨E,ui,di⟩:∃E,Js ops aE e.boxes.length _ E (Array.replicate ops.size false) ⟨e.an,e.boxes++List.replicate (fl ops.toList ops.toList.length) .none⟩∧wA E ops aE (reach [] ops.toList) ops.toList 0=true:=by
   unfold qi at di
   cases pN:eligible ops.toList aE (reach [] ops.toList)with
   |true=>rw[pN]at di;exact⟨_,fun A hA=>by cases hA;exact⟨rfl,NU pN,JT⟩,di⟩
   |false=>rw[pN]at di;exact⟨none,fun A hA=>(by cases hA),di⟩
  have:=Hg (P:=P) (gl:=gl) (base:=e.boxes.length) (aE:=aE) ops.toList 0 (Array.replicate ops.size false) _ (fun j=>by simp) (fun j hj=>by omega) (fun j _ hj=>by simp[hj]) aQ
   (fun j o ho hl=>by
     have hj:j<ops.size:=(Array.getElem?_eq_some_iff.1 ho).1
     simp[hj]at hl) ⟨w0,ay,a,_,_,cD⟩ ui di h
  have h2:=GW (r:=r) (n:=n) hQ _ _ _ _ _ _ cD (oL.refl _ _) rfl this
  simpa using h2
end
section
variable{P:Program}{gl:Nat→Option D}{h:Hints}{r:Option Nat}{n:Nat}{ds:List Deferred}
def Kt(gh:List (Nat×List gA))(c:Code)(a a':Act):Prop:=∀t,t∉du gh c→a'.tmps.getD t undef=a.tmps.getD t undef
theorem Kt.refl(gh:List (Nat×List gA))(c:Code)(a:Act):Kt gh c a a:=fun _ _=>rfl
theorem Kt.trans{gh:List (Nat×List gA)}{x y c:Code}{a a1 a2:Act}(h1:Kt gh x a a1)(h2:Kt gh y a1 a2)(hx:∀t,t∈du gh x→t∈du gh c)(hy:∀t,t∈du gh y→t∈du gh c):Kt gh c a a2:=
 fun t ht=>(h2 t fun hm=>ht (hy t hm)).trans (h1 t fun hm=>ht (hx t hm))
theorem Kt.mono{gh:List (Nat×List gA)}{x c:Code}{a a1:Act}(h1:Kt gh x a a1)(hx:∀t,t∈du gh x→t∈du gh c):Kt gh c a a1:=fun t ht=>h1 t fun hm=>ht (hx t hm)
theorem oW(hm:P.follows .mixedOrders =true):∀(c:Code){w0:World}{ay:S0}{QA:Ex→Env→Prop}{e:Env}{a:Act}{w:World}{g:Gh}{Q:Exit→Act→World→Prop},
  Inv gl w0 ay e a w g→aw P gl (aF P gl) h c QA e→(∀x e' a' w' g',Inv gl w0 ay e' a' w' g'→QA x e'→Kt h.gh c a a'→Q x.to (wd a' ds) w')→c.wpIn (FW r) n P Q (wd a ds) w
 | .skip,_,_,_,_,_,_,_,_,hI,hh,hQ=>wpIn_skip (hQ .normal _ _ _ _ hI hh (Kt.refl _ _ _))
 | .region id ops draw,w0,ay,QA,e,a,w,g,Q,hI,hh,hQ=>by
   obtain⟨hb,hh⟩:=uX (hh:cond _ _ False)
   obtain⟨e1,g1,dz,h1⟩:=GR hI hh
   exact Uz dz hm h1 fun e' a' w' g' bJ hk g8=>hQ .normal e' a' w' g' bJ hk fun t ht=>g8 t fun hm=>ht (by simp only[du,List.mem_append];exact .inr hm)
 | .seq x y,w0,ay,QA,e,a,w,g,Q,hI,hh,hQ=>by
   have gi:∀t,t∈du h.gh x→t∈du h.gh (.seq x y):=fun t ht=>by simp[du,ht]
   have xl:∀t,t∈du h.gh y→t∈du h.gh (.seq x y):=fun t ht=>by simp[du,ht]
   refine wpIn_seq (oW hm x hI hh fun ex e' a' w' g' bJ hk g8=>?_)
   cases ex with
   |normal=>exact oW hm y bJ hk fun x2 e2 a2 w2 g2 cD km tM=>hQ x2 e2 a2 w2 g2 cD km (g8.trans tM gi xl)
   |exit i=>exact hQ (.exit i) e' a' w' g' bJ hk (g8.mono gi)
   |ret=>exact hQ .ret e' a' w' g' bJ hk (g8.mono gi)
 | .cond c x y,w0,ay,QA,e,a,w,g,Q,hI,hh,hQ=>by
   have hh:nF e c (aw P gl (aF P gl) h x QA) (aw P gl (aF P gl) h y QA):=hh
   cases c with
   |tmp t=>
    simp only[nF]at hh
    have hs:=lL hI t
    cases hx:e.an.getD t (.v .undef)with
    |v z=>
     rw[hx]at hh hs
     obtain⟨b,rfl,h1,h2⟩:=yr hh
     have hv:=hs.ka.data.rB
     refine wpIn_cond_split hv (fun hb=>?_) (fun hb=>?_)
     ·have:=h1 hb
      subst hb
      rw[ta hx]at this
      exact oW hm x hI this fun x2 e2 a2 w2 g2 cD km tM=>hQ x2 e2 a2 w2 g2 cD km (tM.mono fun t ht=>by simp[du,ht])
     ·have:=h2 hb
      subst hb
      rw[ta hx]at this
      exact oW hm y hI this fun x2 e2 a2 w2 g2 cD km tM=>hQ x2 e2 a2 w2 g2 cD km (tM.mono fun t ht=>by simp[du,ht])
    |_=>rw[hx]at hh;exact hh.elim
   |const v=>
    cases v with
    |bool b=>
     refine wpIn_cond_split (t:=b) rfl (fun hb=>?_) (fun hb=>?_)
     ·subst hb;exact oW hm x hI hh fun x2 e2 a2 w2 g2 cD km tM=>hQ x2 e2 a2 w2 g2 cD km (tM.mono fun t ht=>by simp[du,ht])
     ·subst hb;exact oW hm y hI hh fun x2 e2 a2 w2 g2 cD km tM=>hQ x2 e2 a2 w2 g2 cD km (tM.mono fun t ht=>by simp[du,ht])
    |_=>exact hh.elim
   |_=>exact hh.elim
 | .block id b,w0,ay,QA,e,a,w,g,Q,hI,hh,hQ=>by
   refine wpIn_block (oW hm b hI hh fun ex e' a' w' g' bJ hk g8=>?_)
   cases ex with
   |normal=>exact hQ .normal e' a' w' g' bJ hk g8
   |exit i=>
    have ef:cond (i==id) (QA .normal e') (QA (.exit i) e'):=hk
    show(if i=id then Q .normal (wd a' ds) w' else Q (.exit i) (wd a' ds) w')
    cases hb:(i==id)with
    |true=>
     rw[hb]at ef
     rw[if_pos (beq_iff_eq.1 hb)]
     exact hQ .normal e' a' w' g' bJ ef g8
    |false=>
     rw[hb]at ef
     rw[if_neg (beq_eq_false_iff_ne.1 hb)]
     exact hQ (.exit i) e' a' w' g' bJ ef g8
   |ret=>exact hQ .ret e' a' w' g' bJ hk g8
 | .loop b,w0,ay,QA,e,a,w,g,Q,hI,hh,hQ=>by
   obtain⟨hb,hh⟩:=uX (hh:cond _ _ False)
   simp only[Bool.and_eq_true,List.all_eq_true,Bool.not_eq_true',List.contains_eq_mem,decide_eq_false_iff_not]at hb
   obtain⟨IJ,hk⟩:=hb
   let LW:Act→World→Prop:=fun a1 w1=>∀(fr:Frame)(k:List Item)(cs:List Frame),fr.roundOf=(FW r).round →(FW r).fn fr.fn→(FW r).room (cs.length+1+n)→∃ex a' w',Q ex a' w'∧ArrivesIn (Machine.fenced P (FW r)) P (lone (fr.atR a1 (.code b::.inLoop b::k)) cs w1) fr k cs ex a' w'
   let I:List SV→List (List SV)→Prop:=fun vs bs=>∀e1 a1 w1 g1,Inv gl w0 ay e1 a1 w1 g1→Fr h.gh b e e1→Kt h.gh b a a1→pd e1 (kY h.eQ (jF b)).1=vs→o7 e.boxes.length e1=bs→LW (wd a1 ds) w1
   have key:I _ _:=hh I fun vs bs hF e1 a1 w1 g1 dz qT g8 jy gE=>by
    subst jy gE
    have J2:=MD hI dz qT (vars:=(kY h.eQ (jF b)).1) IJ
    have A7:=oW hm b (Q:=fun ex a' w'=>match ex with| .normal =>LW a' w'|ex=>Q ex a' w') J2 (p8 b hF) (fun ex e' a' w' g' bJ ef IM=>by
     obtain⟨jg,km⟩:=ef
     cases ex with
     |normal=>exact jg e' a' w' g' bJ ((GS hk).trans km (fun t ht=>ht) (fun t ht=>ht)) (g8.trans IM (fun t ht=>ht) (fun t ht=>ht)) rfl rfl
     |exit i=>exact hQ (.exit i) e' a' w' g' bJ jg (g8.trans IM (fun t ht=>ht) (fun t ht=>ht))
     |ret=>exact hQ .ret e' a' w' g' bJ jg (g8.trans IM (fun t ht=>ht) (fun t ht=>ht)))
    intro fr k cs xG hb hr
    obtain⟨ex,a2,w2,hq,lr⟩:=A7 fr (.inLoop b::k) cs xG hb hr
    cases ex with
    |normal=>
     obtain⟨e₂,a₂,w₂,J3,Ic⟩:=hq fr k cs xG hb hr
     exact⟨e₂,a₂,w₂,J3,.of_steps (StepsIn.trans lr (.one (fenced_calm hb hr rfl) stepR_inLoop)) Ic⟩
    |exit id=>exact⟨_,a2,w2,hq,.pass (x:=.inLoop b) rfl (fun _ _=>.inl (by simp)) lr⟩
    |goto l=>exact⟨_,a2,w2,hq,.pass (x:=.inLoop b) rfl (fun _ _=>.inl (by simp)) lr⟩
    |ret=>exact⟨_,a2,w2,hq,.pass (x:=.inLoop b) rfl (fun _ _=>.inl (by simp)) lr⟩
    |panic ch=>exact⟨_,a2,w2,hq,.pass (x:=.inLoop b) rfl (fun _ _=>.inl (by simp)) lr⟩
    |outgrown=>exact⟨_,a2,w2,hq,.pass (x:=.inLoop b) rfl (fun _ _=>.inl (by simp)) lr⟩
   have J4:LW (wd a ds) w:=key e a w g hI (Fr.refl _ _) (Kt.refl _ _ _) rfl rfl
   intro fr k cs xG hb hr
   obtain⟨ex,a',w',hq,lr⟩:=J4 fr k cs xG hb hr
   exact⟨ex,a',w',hq,.of_steps (.one (fenced_calm hb hr rfl) stepR_loop) lr⟩
 | .exit id,_,_,_,_,_,_,_,_,hI,hh,hQ=>wpIn_exit (hQ (.exit id) _ _ _ _ hI hh (Kt.refl _ _ _))
 | .ret,_,_,_,_,_,_,_,_,hI,hh,hQ=>wpIn_ret (hQ .ret _ _ _ _ hI hh (Kt.refl _ _ _))
 | .goto _,_,_,_,_,_,_,_,_,_,hh,_=>hh.elim
 | .label _,_,_,_,_,_,_,_,_,_,hh,_=>hh.elim
 | .scope _,_,_,_,_,_,_,_,_,_,hh,_=>hh.elim
 | .rangeFunc _ _ _ _,_,_,_,_,_,_,_,_,_,hh,_=>hh.elim
 | .refuse _,_,_,_,_,_,_,_,_,_,hh,_=>hh.elim
theorem L6(hm:P.follows .mixedOrders =true)(c:Code){w0:World}{ay:S0}{QA:Ex→Env→Prop}{e:Env}{a:Act}{w:World}{g:Gh}{Q:Exit→Act→World→Prop}
  (hI:Inv gl w0 ay e a w g)(hh:aw P gl (aF P gl) h c QA e)(hQ:∀x e' a' w' g',Inv gl w0 ay e' a' w' g'→QA x e'→Q x.to (wd a' ds) w'):c.wpIn (FW r) n P Q (wd a ds) w:=
 oW hm c hI hh fun x e' a' w' g' h1 h2 _=>hQ x e' a' w' g' h1 h2
end
end Go.Proofs.YtaknajjmldngiaaGreat.Ab
namespace Go.Proofs.YtaknajjmldngiaaGreat.Ab
open Go Go.RowKit
mutual
def SV.nK:SV→Bool
 | .mp _=>false
 | .ref cs _=>SV.pj cs
 | .dX _ a b=>SV.pj a&&SV.pj b
 | .cR l=>SV.pj l
 |_=>true
def SV.pj:List SV→Bool
 |[]=>true
 |x::l=>SV.nK x&&SV.pj l
end
theorem uZ:∀{l:List SV},SV.pj l=true↔∀x∈l,SV.nK x=true
 |[]=>by simp[SV.pj]
 |x::l=>by simp[SV.pj,uZ (l:=l)]
end Go.Proofs.YtaknajjmldngiaaGreat.Ab
namespace Go.Proofs.YtaknajjmldngiaaGreat.Ab
open Go Go.RowKit
theorem pZ:∀{l:List SV},SV.mr l=true↔∀x∈l,SV.aj x=true
 |[]=>by simp[SV.mr]
 |x::l=>by simp[SV.mr,pZ (l:=l)]
section
variable{W W':World}{gl:Nat→Option D}
theorem bj.eQ{St:Nat→Nat→Prop}(hc:∀b o v,St b o→W.cell? ⟨b,o,none⟩=some v→W'.cell? ⟨b,o,none⟩=some v){x:D}{v:Value}(r:bj W St x v):bj W' St x v:=by
 induction r with
 |bool b=>exact .bool b
 |int k n hk=>exact .int k n hk
 |str s hs=>exact .str s hs
 |agg ds vs hf hl _ ih=>exact .agg ds vs hf hl ih
 |jm sz=>exact .jm sz
 |sl sz L b off cap vs b9 hm aQ hf bF _ ih=>exact .sl sz L b off cap vs b9 hm aQ hf (fun o ho=>⟨hc _ _ _ (bF o ho).2 (bF o ho).1,(bF o ho).2⟩) ih
 |jN sz a cap ha=>exact .jN sz a cap ha
 |fn f=>exact .fn f
 |rS=>exact .rS
 |iface t x v _ ih=>exact .iface t x v ih
 |qe=>exact .qe
 |nt=>exact .nt
theorem bd.eQ{St:Nat→Nat→Prop}{base:Nat}(hc:∀b o v,St b o→W.cell? ⟨b,o,none⟩=some v→W'.cell? ⟨b,o,none⟩=some v){O:Nat→Nat→Nat→Prop}{x:SV}{v:Value}(r:bd W St base O x v):
  ∀O':Nat→Nat→Nat→Prop,(∀g a c,O g a c→O' g a c∧W'.heap[g]? =W.heap[g]?)→x.nK=true→x.aj=true→bd W' St base O' x v:=by
 induction r with
 |d O x v hd=>exact fun O' _ _ _=>.d O' x v (hd.eQ hc)
 |own O sz L g cap hd b9 ho=>exact fun O' hO _ _=>.own O' sz L g cap (hd.eQ hc) b9 (hO _ _ _ ho).1
 |full O sz L a hd=>exact fun O' _ _ _=>.full O' sz L a (hd.eQ hc)
 |ref O cs off b o vs eJ bF _ ih=>exact fun O' _ _ hr=>by cases hr
 |aA O x off b o vs hf bF dJ=>exact fun O' _ _ _=>.aA O' x off b o vs hf (fun i hi=>⟨hc _ _ _ (bF i hi).2 (bF i hi).1,(bF i hi).2⟩) fun i c hi=>(dJ i c hi).eQ hc
 |dX O f first cap fv cv hf dw _ _ jt ju=>
  intro O' _ hn hr
  simp only[SV.nK,SV.aj,Bool.and_eq_true]at hn hr
  exact .dX O' f first cap fv cv hf dw (fun i x v a b=>jt i x v a b _ (fun _ _ _ h=>h.elim) (uZ.1 hn.1 x (List.mem_of_getElem? a)) (pZ.1 hr.1 x (List.mem_of_getElem? a))) (fun i x v a b=>ju i x v a b _ (fun _ _ _ h=>h.elim) (uZ.1 hn.2 x (List.mem_of_getElem? a)) (pZ.1 hr.2 x (List.mem_of_getElem? a)))
 |cA O sz L g cap vs b9 hm aQ hf ho bF dJ=>
  exact fun O' hO _ _=>.cA O' sz L g cap vs b9 hm aQ hf (hO _ _ _ ho).1 (fun o cC=>(World.cell?_of_block (hO _ _ _ ho).2).trans (bF o cC)) fun i x j c hx iZ=>(dJ i x j c hx iZ).eQ hc
 |mp O l r es clock hh hs hl dJ=>exact fun O' _ hn=>by cases hn
 |undef O v=>exact fun O' _ _ _=>.undef O' v
inductive Plain:Slot→Prop
 |v (x:SV) (h:x.nK=true) (h2:x.aj=true):Plain (.v x)
 |t (l:List SV) (h:SV.pj l=true) (h2:SV.mr l=true):Plain (.t l)
 |p (b off:Nat):Plain (.p b off)
 |a (b n sz:Nat):Plain (.a b n sz)
 |m (b:Nat):Plain (.m b)
 |c (f:Fn) (first cap:List Slot) (h1:∀s∈first,Plain s) (h2:∀s∈cap,Plain s):Plain (.c f first cap)
structure DS(e:Env):Prop where
 s:∀s∈e.an,Plain s
 b:∀bx∈e.boxes,match bx with| .cells cs=>SV.pj cs=true∧SV.mr cs=true| .one s=>Plain s|_=>True
theorem cH.eQ{base:Nat}{g:Gh}(dQ:∀b,some b∈g.bx→W'.heap[b]? =W.heap[b]?)(hc:∀b o v,g.St b o→W.cell? ⟨b,o,none⟩=some v→W'.cell? ⟨b,o,none⟩=some v){O:Nat→Nat→Nat→Nat→Prop}{s:Slot}{v:Value}(r:cH base W g O s v):
  ∀O':Nat→Nat→Nat→Nat→Prop,(∀j b a c,O j b a c→O' j b a c∧W'.heap[b]? =W.heap[b]?)→Plain s→cH base W' g O' s v:=by
 induction r with
 |v O x y h=>exact fun O' hO hn=>.v _ x y (by cases hn with|v _ h1 h2=>exact h.eQ hc _ (hO 0) h1 h2)
 |p O b off ao h=>exact fun O' _ _=>.p _ b off ao h
 |a O b n sz v hm h=>exact fun O' _ _=>.a _ b n sz v hm (by obtain⟨ao,cap,h1,h2,h3,h4,c,ty,h5,h6⟩:=h;exact⟨ao,cap,h1,h2,h3,h4,c,ty,(dQ ao (List.mem_of_getElem? h1)).trans h5,h6⟩)
 |m O b ao h=>exact fun O' _ _=>.m _ b ao h
 |c O f first cap fv cv hf dw _ _ jt ju=>
  intro O' _ hn
  cases hn with
  |c _ _ _ h1 h2=>
   exact .c _ f first cap fv cv hf dw (fun i x v a b=>jt i x v a b _ (fun _ _ _ _ h=>h.elim) (h1 x (List.mem_of_getElem? a))) (fun i x v a b=>ju i x v a b _ (fun _ _ _ _ h=>h.elim) (h2 x (List.mem_of_getElem? a)))
 |t O xs vs hl dJ=>
  intro O' hO hn
  cases hn with
  |t _ h h2=>exact .t _ xs vs hl fun j x v a b=>(dJ j x v a b).eQ hc _ (hO j) (uZ.1 h x (List.mem_of_getElem? a)) (pZ.1 h2 x (List.mem_of_getElem? a))
def Bv(W:World)(n:Nat):World:={W with heap:=W.heap.extract 0 n}
theorem MI{W:World}{n:Nat}(h:n≤W.heap.size):(Bv W n).heap.size =n:=by simp[Bv];omega
theorem Inv.move{w0 Kh:World}{ay:S0}{e:Env}{a:Act}{g:Gh}(hI:Inv gl w0 ay e a W g)(hn:DS e)(h0:Kh.heap.size=w0.heap.size)(hb:Below w0.heap.size Kh W')(hs:W.heap.size≤W'.heap.size)
  (hc:∀b o v,g.St b o→W.cell? ⟨b,o,none⟩=some v→W'.cell? ⟨b,o,none⟩=some v)
  (dQ:∀b,some b∈g.bx→W'.heap[b]? =W.heap[b]?)(sG:∀b p,g.ow b=some p→w0.heap.size≤b→b<W.heap.size→W'.heap[b]? =W.heap[b]?)
  (gj:∀D o,ay.df D o→W'.heap[D]? =W.heap[D]?):Inv gl Kh ay e a W' g:=by
 have gZ:∀p b a' c,ga w0.heap.size W g p b a' c→ga w0.heap.size W' g p b a' c∧W'.heap[b]? =W.heap[b]? :=by
  rintro p b a' c ⟨h1,h2,h3,⟨cur,t,h4,h5⟩,h6⟩
  have:=sG b p h1 h2 (gn h4)
  exact⟨⟨h1,h2,h3,⟨cur,t,this.trans h4,h5⟩,h6⟩,this⟩
 refine⟨by rw[h0];exact hb,hI.size,fun i s hs=>?_,hI.fo,fun b bx ao h1 h2=>?_,hI.nodup,hI.fT,fun b o h=>⟨by rw[h0];exact(hI.cP b o h).1,(hI.cP b o h).2.1,by have:=(hI.cP b o h).2.2;omega⟩,
  fun b h=>⟨by rw[h0];exact(hI.eb b h).1,by have:=(hI.eb b h).2;omega⟩,?_,hI.defers,
  fun D o hD=>(have h:=hI.fe D o hD;⟨h.1,h.2.1,(gj D o hD).trans h.2.2.1,h.2.2.2⟩),fun b o v hv=>(have h:=hI.cls b o v hv;⟨h.1,hc _ _ _ h.1 h.2⟩),Nat.le_trans hI.jv hs⟩
 ·rw[h0]
  exact(hI.an i s hs).eQ dQ hc _ (fun j b a' c h=>gZ _ b a' c h) (hn.s s (List.mem_of_getElem? hs))
 ·rw[h0]
  have ir:=hI.boxes b bx ao h1 h2
  have sD:=hn.b bx (List.mem_of_getElem? h1)
  have hb:=dQ ao (List.mem_of_getElem? h2)
  cases bx with
  |none=>exact ir.elim
  |map l=>
   obtain⟨h0,es,clock,hh,hl,bt⟩:=ir
   exact⟨h0,es,clock,hb.trans hh,hl,fun i x y hx hy=>⟨(bt i x y hx hy).1,(bt i x y hx hy).2.1,(bt i x y hx hy).2.2.eQ hc⟩⟩
  |cells cs=>
   obtain⟨h0,c,t,hh,ct,hl,bt⟩:=ir
   exact⟨h0,c,t,hb.trans hh,ct,hl,fun j x y hx hy=>(bt j x y hx hy).eQ hc _ (fun b' a' c' h=>gZ _ b' a' c' h) (uZ.1 sD.1 x (List.mem_of_getElem? hx)) (pZ.1 sD.2 x (List.mem_of_getElem? hx))⟩
  |one s=>
   obtain⟨h0,c,t,hh,ct,hl,bt⟩:=ir
   exact⟨h0,c,t,hb.trans hh,ct,hl,fun y hy=>(bt y hy).eQ dQ hc _ (fun _ b' a' c' h=>gZ _ b' a' c' h) sD⟩
 ·intro n x hx
  obtain⟨h0,vs,h1,h2⟩:=hI.jK n x hx
  exact⟨h0,vs,fun i hi=>⟨hc _ _ _ (h1 i hi).2 (h1 i hi).1,(h1 i hi).2⟩,fun i c e8=>(h2 i c e8).eQ hc⟩
theorem Inv.sI{w0:World}{ay wW:S0}{e:Env}{a:Act}{g:Gh}(hI:Inv gl w0 ay e a W g)(h0:∀b o,wW.St b o→g.St b o)(h1:∀b o,g.St b o→wW.St b o∨w0.heap.size≤b)
  (gj:∀D o,wW.df D o→some D∉g.bx∧g.ow D=none∧W.heap[D]? =some o∧∀x,g.St D x→wW.St D x)(dw:∀b o v,wW.cl b o v→g.St b o∧W.cell? ⟨b,o,none⟩=some v)
  (aQ:wW.sz≤W.heap.size):Inv gl w0 wW e a W g:=
 ⟨hI.below,hI.size,hI.an,hI.fo,hI.boxes,hI.nodup,h0,fun b o h=>⟨h1 b o h,(hI.cP b o h).2⟩,hI.eb,hI.jK,hI.defers,gj,dw,aQ⟩
theorem bd.Ii{St cK:Nat→Nat→Prop}(h:∀b o,St b o→cK b o){base:Nat}{O:Nat→Nat→Nat→Prop}{x:SV}{v:Value}(r:bd W St base O x v){O':Nat→Nat→Nat→Prop}(hO:∀b a c,O b a c→O' b a c):bd W cK base O' x v:=
 r.mono (fun b o hs=>⟨h b o hs,.refl _ _ _⟩) (fun _ _ _=>rfl) _ fun b a c ho=>⟨hO b a c ho,.refl _ _ _⟩
theorem Inv.aaX{w0:World}{ay:S0}{e:Env}{a:Act}{g:Gh}(hI:Inv gl w0 ay e a W g){S:Nat→Nat→Prop}(hS:∀b o,S b o→g.St b o∨(w0.heap.size≤b∧b<W.heap.size∧some b∉g.bx∧g.ow b=none))
  (gj:∀D o,ay.df D o→∀x,S D x→g.St D x):Inv gl w0 ay e a W {g with St:=fun b o=>g.St b o∨S b o}:=by
 have gZ:∀p b a' c,ga w0.heap.size W g p b a' c→ga w0.heap.size W {g with St:=fun b o=>g.St b o∨S b o} p b a' c:=by
  rintro p b a' c ⟨h1,h2,h3,h4,h5⟩
  refine⟨h1,h2,h3,h4,fun o ho=>?_⟩
  rintro(h|h)
  ·exact h5 o ho h
  ·rcases hS b o h with h|⟨_,_,_,h⟩
   ·exact h5 o ho h
   ·rw[h1]at h;cases h
 refine⟨hI.below,hI.size,fun i s hs=>?_,hI.fo,fun b bx ao h1 h2=>?_,hI.nodup,fun b o h=>.inl (hI.fT b o h),fun b o h=>?_,hI.eb,?_,hI.defers,
  fun D o hD=>(have h:=hI.fe D o hD;⟨h.1,h.2.1,h.2.2.1,fun x hx=>h.2.2.2 x (hx.elim id (gj D o hD x))⟩),fun b o v hv=>⟨.inl (hI.cls b o v hv).1,(hI.cls b o v hv).2⟩,hI.jv⟩
 ·exact(hI.an i s hs).mono (fun b o h=>⟨.inl h,.refl _ _ _⟩) (fun _ _ _=>rfl) (fun _ _ h=>h) (.refl _) fun j b a' c h=>⟨gZ _ b a' c h,.refl _ _ _⟩
 ·have ir:=hI.boxes b bx ao h1 h2
  cases bx with
  |none=>exact ir.elim
  |map l=>
   obtain⟨h0,es,clock,hh,hl,bt⟩:=ir
   exact⟨h0,es,clock,hh,hl,fun i x y hx hy=>⟨(bt i x y hx hy).1,(bt i x y hx hy).2.1,(bt i x y hx hy).2.2.mono fun b o h=>⟨.inl h,rfl⟩⟩⟩
  |cells cs=>
   obtain⟨h0,c,t,hh,ct,hl,bt⟩:=ir
   exact⟨h0,c,t,hh,ct,hl,fun j x y hx hy=>(bt j x y hx hy).Ii (fun _ _ h=>.inl h) (fun b' a' c' h=>gZ _ b' a' c' h)⟩
  |one s=>
   obtain⟨h0,c,t,hh,ct,hl,bt⟩:=ir
   exact⟨h0,c,t,hh,ct,hl,fun y hy=>(bt y hy).mono (fun b o h=>⟨.inl h,.refl _ _ _⟩) (fun _ _ _=>rfl) (fun _ _ h=>h) (.refl _) fun _ b' a' c' h=>⟨gZ _ b' a' c' h,.refl _ _ _⟩⟩
 ·rcases h with h|h
  ·exact hI.cP b o h
  ·rcases hS b o h with h|⟨h1,h2,h3,_⟩
   ·exact hI.cP b o h
   ·exact⟨.inr h1,h3,h2⟩
 ·intro n x hx
  obtain⟨h0,vs,h1,h2⟩:=hI.jK n x hx
  exact⟨h0,vs,fun i hi=>⟨(h1 i hi).1,.inl (h1 i hi).2⟩,fun i c e8=>(h2 i c e8).mono fun b o h=>⟨.inl h,rfl⟩⟩
end
end Go.Proofs.YtaknajjmldngiaaGreat.Ab
set_option linter.unusedVariables false
set_option linter.unusedSimpArgs false
namespace Go.Proofs.YtaknajjmldngiaaGreat.Ab
open Go Go.RowKit
structure tl(Fr:Nat→Prop)(cZ:Nat→Nat→Prop)(W W':World):Prop where
 os:W'.os=W.os
 tape:W'.tape=W.tape
 output:W'.output=W.output
 size:W.heap.size≤W'.heap.size
 ao:∀b,b<W.heap.size→¬Fr b→W'.heap[b]? =W.heap[b]?
 kM:∀b o v,cZ b o→W.cell? ⟨b,o,none⟩=some v→W'.cell? ⟨b,o,none⟩=some v
def Iter(P:Program)(gl:Nat→Option D)(f:FuncId)(cap:List SV)(L:List D):Prop:=gH P f∧
 ∀(w:World)(St:Nat→Nat→Prop)(l:Nat)(vs:Array Value),(∀b o,St b o→b<w.heap.size)→vk gl w St→cap.length=vs.size→
  (∀(i:Nat)x v,cap[i]? =some x→vs[i]? =some v→bd w St w.heap.size (fun _ _ _=>False) x v)→
  ∀(J:Option Unit→(Nat→Prop)→(Nat→Nat→Prop)→List D→World→Prop),
   (∀q Fr cZ pre W W' me pv,J q Fr cZ pre W→tl Fr cZ W W'→(∀b,me b→Fr b∨(W.heap.size≤b∧b<W'.heap.size))→(∀b,Fr b→me b)→(∀b o,cZ b o→pv b o)→
     (∀b o,pv b o→(cZ b o∨me b)∧b<W'.heap.size)→J q me pv pre W')→
   (∀Fr cZ pre d v W,J none Fr cZ pre W→bj W cZ d v→L[pre.length]? =some d→∃fn tmps assign body,(Instr.yield l #[v]).run P W=.ok (.round l fn tmps assign body) W∧
     ∀n,RoundIn Fence.wide n P l fn tmps assign body W fun e W'=>∃b,e=.returned (.bool b)∧tl (fun b=>¬Fr b) cZ W W'∧J (bif b then none else some ()) Fr cZ (pre++[d]) W')→
   J none (fun _=>False) St [] w→
   Calls P f (#[.func (.yield l) #[] #[]]++vs) w fun e W'=>(∃v,e=.returned v)∧∃Fr cZ pre q,J q Fr cZ pre W'∧(q=none→pre=L)
def Fb(o:Obj):Prop:=o.isCells=false∧∀es c,o≠.map es c
section
variable{W:World}{gl:Nat→Option D}
theorem Xi{l:Nat}{o o':Obj}(h:W.heap[l]? =some o)(ho:o.isCells=false)(cC:o'.isCells=false)(b off:Nat):(W.putObj l o').cell? ⟨b,off,none⟩=W.cell? ⟨b,off,none⟩:=by
 by_cases hb:b=l
 ·subst hb
  have h1:=World.putObj_heap_same (w:=W) (o:=o') (gn h)
  simp only[World.cell?,h,h1]
  cases o<;>cases o'<;>first|rfl|exact absurd (show true=false from ho) (by decide)|exact absurd (show true=false from cC) (by decide)
 ·exact World.cell?_of_block (World.putObj_heap_other hb)
theorem Inv.other{w0:World}{ay:S0}{e:Env}{a:Act}{g:Gh}(hI:Inv gl w0 ay e a W g){l:Nat}{o o':Obj}(h:W.heap[l]? =some o)(ho:Fb o)(cC:Fb o')(hl:w0.heap.size≤l)(gj:∀D ob,ay.df D ob→D≠l):
  Inv gl w0 ay e a (W.putObj l o') g:=by
 have bF:=Xi h ho.1 cC.1
 have ee:∀b,b≠l→(W.putObj l o').heap[b]? =W.heap[b]? :=fun b hb=>World.putObj_heap_other hb
 have rR:∀(b:Nat)(c:Array Value)(t:TypeId)(p:Nat×Nat),W.heap[b]? =some (Obj.cells c t p)→(W.putObj l o').heap[b]? =some (Obj.cells c t p):=fun b c t p hb=>(ee b (fun e=>by subst e;rw[h]at hb;cases hb;exact absurd (show true=false from ho.1) (by decide))).trans hb
 have PG:∀(b:Nat)(es:Array MapEntry)(c:Nat),W.heap[b]? =some (Obj.map es c)→(W.putObj l o').heap[b]? =some (Obj.map es c):=fun b es c hb=>(ee b (fun e=>by subst e;rw[h]at hb;cases hb;exact absurd rfl (ho.2 es c))).trans hb
 have jA:∀b off,vd W (W.putObj l o') b off:=fun b off=>⟨bF b off,fun es c hm=>PG b es c hm⟩
 have aY:qa W (W.putObj l o'):=fun b c ty hb=>⟨c,ty,rR b c ty _ hb,rfl⟩
 have gZ:∀p b a' c,ga w0.heap.size W g p b a' c→ga w0.heap.size (W.putObj l o') g p b a' c∧rF W (W.putObj l o') b a':=by
  rintro p b a' c ⟨h1,h2,h3,⟨cur,t,h4,h5⟩,h6⟩
  exact⟨⟨h1,h2,h3,⟨cur,t,rR b _ _ _ h4,h5⟩,h6⟩,fun _=>(rR b _ _ _ h4).trans h4.symm⟩
 refine⟨hI.below.trans ⟨rfl,rfl,rfl,by simp,fun k hk=>ee k (by omega)⟩,hI.size,fun i s hs=>?_,hI.fo,fun b bx ao h1 h2=>?_,hI.nodup,hI.fT,fun b o h=>?_,fun b h=>?_,?_,hI.defers,
  fun D ob hD=>(have h:=hI.fe D ob hD;⟨h.1,h.2.1,(ee D (gj D ob hD)).trans h.2.2.1,h.2.2.2⟩),fun b o v hv=>⟨(hI.cls b o v hv).1,(bF b o).trans (hI.cls b o v hv).2⟩,by simp;exact hI.jv⟩
 ·exact(hI.an i s hs).mono (fun b o h=>⟨h,jA b o⟩) (fun b o _=>bF b o) (fun _ _ h=>h) aY fun j b a' c h=>gZ _ b a' c h
 ·have ir:=hI.boxes b bx ao h1 h2
  cases bx with
  |none=>exact ir.elim
  |map l=>
   obtain⟨h0,es,clock,hh,hl,bt⟩:=ir
   exact⟨h0,es,clock,PG _ _ _ hh,hl,fun i x y hx hy=>⟨(bt i x y hx hy).1,(bt i x y hx hy).2.1,(bt i x y hx hy).2.2.mono fun b o h=>⟨h,bF b o⟩⟩⟩
  |cells cs=>
   obtain⟨h0,c,t,hh,ct,hl,bt⟩:=ir
   exact⟨h0,c,t,rR _ _ _ _ hh,ct,hl,fun j x y hx hy=>(bt j x y hx hy).mono (fun b o h=>⟨h,jA b o⟩) (fun b o _=>bF b o) _ fun b' a' c' h=>gZ _ b' a' c' h⟩
  |one s=>
   obtain⟨h0,c,t,hh,ct,hl,bt⟩:=ir
   exact⟨h0,c,t,rR _ _ _ _ hh,ct,hl,fun y hy=>(bt y hy).mono (fun b o h=>⟨h,jA b o⟩) (fun b o _=>bF b o) (fun _ _ h=>h) aY fun _ b' a' c' h=>gZ _ b' a' c' h⟩
 ·have:=hI.cP b o h
  exact⟨this.1,this.2.1,by simp;exact this.2.2⟩
 ·have:=hI.eb b h
  exact⟨this.1,by simp;exact this.2⟩
 ·intro n x hx
  obtain⟨h0,vs,h1,h2⟩:=hI.jK n x hx
  exact⟨h0,vs,fun i hi=>⟨(bF _ _).trans (h1 i hi).1,(h1 i hi).2⟩,fun i c e8=>(h2 i c e8).mono fun b o h=>⟨h,bF b o⟩⟩
theorem Inv.norm{w0:World}{ay:S0}{e:Env}{a:Act}{g:Gh}(hI:Inv gl w0 ay e a W g):Inv gl w0 ay e a W {g with ow:=fun b=>if b<W.heap.size then g.ow b else none}:=by
 have gZ:∀p b a' c,ga w0.heap.size W g p b a' c→ga w0.heap.size W {g with ow:=fun b=>if b<W.heap.size then g.ow b else none} p b a' c:=by
  rintro p b a' c ⟨h1,h2,h3,h4,h5⟩
  have aV:b<W.heap.size:=by obtain⟨cur,t,h,_⟩:=h4;exact gn h
  exact⟨by simp only;rw[if_pos aV];exact h1,h2,h3,h4,h5⟩
 refine⟨hI.below,hI.size,fun i s hs=>?_,hI.fo,fun b bx ao h1 h2=>?_,hI.nodup,hI.fT,hI.cP,hI.eb,hI.jK,hI.defers,fun D ob hD=>(have h:=hI.fe D ob hD;⟨h.1,by simp only;split;exact h.2.1;rfl,h.2.2⟩),hI.cls,hI.jv⟩
 ·exact(hI.an i s hs).mono (fun b o h=>⟨h,.refl _ _ _⟩) (fun _ _ _=>rfl) (fun _ _ h=>h) (.refl _) fun j b a' c h=>⟨gZ _ b a' c h,.refl _ _ _⟩
 ·have ir:=hI.boxes b bx ao h1 h2
  cases bx with
  |none=>exact ir.elim
  |map l=>exact ir
  |cells cs=>
   obtain⟨h0,c,t,hh,ct,hl,bt⟩:=ir
   exact⟨h0,c,t,hh,ct,hl,fun j x y hx hy=>(bt j x y hx hy).Ii (fun _ _ h=>h) (fun b' a' c' h=>gZ _ b' a' c' h)⟩
  |one s=>
   obtain⟨h0,c,t,hh,ct,hl,bt⟩:=ir
   exact⟨h0,c,t,hh,ct,hl,fun y hy=>(bt y hy).mono (fun b o h=>⟨h,.refl _ _ _⟩) (fun _ _ _=>rfl) (fun _ _ h=>h) (.refl _) fun _ b' a' c' h=>⟨gZ _ b' a' c' h,.refl _ _ _⟩⟩
def N1:SV→Bool
 | .own _ _=>false
 | .cA _ _=>false
 |_=>true
theorem bd.free{w:World}{St:Nat→Nat→Prop}{base:Nat}{O O':Nat→Nat→Nat→Prop}{x:SV}{v:Value}(r:bd w St base O x v)(h:N1 x=true):bd w St base O' x v:=by
 cases r with
 |d _ x v hd=>exact .d _ x v hd
 |own=>cases h
 |full _ sz L g hd=>exact .full _ sz L g hd
 |ref _ cs off b o vs eJ bF hc=>exact .ref _ cs off b o vs eJ bF hc
 |aA _ x off b o vs hf bF hc=>exact .aA _ x off b o vs hf bF hc
 |dX _ f first cap fv cv hf hc rf rc=>exact .dX _ f first cap fv cv hf hc rf rc
 |cA=>cases h
 |mp _ l r es clock hh hs hl hc=>exact .mp _ l r es clock hh hs hl hc
 |undef _ v=>exact .undef _ _
def tx(n:Nat):Slot→Bool
 | .v x=>N1 x&&x.nK&&x.aj
 | .p b _=>Nat.blt b n
 | .m b=>Nat.blt b n
 |_=>false
def kc(n:Nat):af→Bool
 | .one (.p b _)=>Nat.blt b n
 | .one (.m b)=>Nat.blt b n
 | .one _=>false
 | .cells cs=>cs.all fun x=>x.nK&&x.aj
 |_=>true
def Bw:Slot→Bool
 | .v _=>false
 |_=>true
end
end Go.Proofs.YtaknajjmldngiaaGreat.Ab
set_option linter.unusedVariables false
set_option linter.unusedSimpArgs false
namespace Go.Proofs.YtaknajjmldngiaaGreat.Ab
open Go Go.RowKit
section
variable{P:Program}{gl:Nat→Option D}{hh:Hints}{n:Nat}
def Ex.code:Ex→Option Code
 | .normal =>none
 | .exit i=>some (.exit i)
 | .ret =>some .ret
theorem Xj{n:Nat}{l:List af}(h:l.all (kc n)=true){i:Nat}{bx:af}(hi:l[i]? =some bx):kc n bx=true:=List.all_eq_true.1 h bx (List.mem_of_getElem? hi)
theorem nG.cut{base:Nat}{w:World}{g:Gh}{n b:Nat}{bx:af}{ao:Nat}(r:nG base w g b bx ao)(h:kc n bx=true):nG base w (g.cut n) b bx ao:=by
 cases bx with
 |none=>exact r.elim
 |map l=>exact r
 |cells cs=>
  obtain⟨h0,c,t,hh,ct,hl,bt⟩:=r
  exact⟨h0,c,t,hh,ct,hl,fun j x y hx hy=>(bt j x y hx hy).Ii (fun _ _ h=>h) (fun b' a' c' h=>Hh h)⟩
 |one s=>
  obtain⟨h0,c,t,hh,ct,hl,bt⟩:=r
  refine⟨h0,c,t,hh,ct,hl,fun y hy=>?_⟩
  have:=bt y hy
  cases s with
  |p b' off=>
   have hb:b'<n:=by simpa[kc,Nat.blt_eq]using h
   cases this with
   |p _ _ _ iB eK=>exact .p _ _ _ _ ((AF hb).2 eK)
  |m b'=>
   have hb:b'<n:=by simpa[kc,Nat.blt_eq]using h
   cases this with
   |m _ _ iB eK=>exact .m _ _ _ ((AF hb).2 eK)
  |_=>simp[kc]at h
structure uk(P:Program)(gl:Nat→Option D)(w0:World)(eu:S0)(St:Nat→Nat→Prop)(base l Dd:Nat)(rec:Loop)(sh:List Slot)(aC:Act)(I:List af→Prop)(Fr:Nat→Prop)(cZ:Nat→Nat→Prop)(W:World)(au:List af)(g:Gh):Prop where
 inv:Inv gl w0 eu ⟨sh,au⟩ aC W g
 i:I au
 low:au.all (kc au.length)=true
 bx:∀b,some b∈g.bx→¬Fr b
 ow:∀b p,g.ow b=some p→b<W.heap.size∧¬Fr b
 st:∀b o,g.St b o→cZ b o∨¬Fr b
 xH:∀b o,St b o→cZ b o∧g.St b o
 kM:∀b o,cZ b o→(St b o∨Fr b)∧b<W.heap.size
 fr:∀b,Fr b→base≤b∧b<W.heap.size∧b≠l∧b≠Dd
 wX:W.heap[l]? =some (.loop rec)
 dd:W.heap[Dd]? =some (.deferred (some []))
 lo:∀b,b=l∨b=Dd→some b∉g.bx∧g.ow b=none∧∀o,¬g.St b o
theorem MJ{sh:List Slot}{m:Nat}(aY:sh.all (tx m)=true){au:List af}{k:Nat}(qu:au.all (kc k)=true):DS ⟨sh,au⟩:=by
 refine⟨fun s hs=>?_,fun bx hb=>?_⟩
 ·have:=List.all_eq_true.1 aY s hs
  cases s with
  |v x=>simp only[tx,Bool.and_eq_true]at this;exact .v _ this.1.2 this.2
  |p b off=>exact .p _ _
  |m b=>exact .m _
  |_=>simp[tx]at this
 ·have:=List.all_eq_true.1 qu bx hb
  cases bx with
  |none=>trivial
  |map l=>trivial
  |cells cs=>
   simp only[kc,List.all_eq_true,Bool.and_eq_true]at this
   exact⟨uZ.2 fun x hx=>(this x hx).1,pZ.2 fun x hx=>(this x hx).2⟩
  |one s=>
   cases s with
   |p b off=>exact .p _ _
   |m b=>exact .m _
   |_=>simp[kc]at this
theorem uk.Ij{w0:World}{eu:S0}{St:Nat→Nat→Prop}{base l Dd:Nat}{rec:Loop}{sh:List Slot}{aC:Act}{I:List af→Prop}{Fr:Nat→Prop}{cZ:Nat→Nat→Prop}{W:World}{au:List af}{g:Gh}
  (h:uk P gl w0 eu St base l Dd rec sh aC I Fr cZ W au g){m:Nat}(aY:sh.all (tx m)=true)(zd:w0.heap.size≤base)(xI:l<base∧Dd<base)(gj:∀D o,eu.df D o→D<base){W':World}{me:Nat→Prop}{pv:Nat→Nat→Prop}(hb:tl Fr cZ W W')
  (Ci:base≤W.heap.size)(f1:∀b,me b→Fr b∨(W.heap.size≤b∧b<W'.heap.size))(f2:∀b,Fr b→me b)(p1:∀b o,cZ b o→pv b o)(p2:∀b o,pv b o→(cZ b o∨me b)∧b<W'.heap.size):
  uk P gl w0 eu St base l Dd rec sh aC I me pv W' au g:=by
 have aQ:=hb.size
 have hI:=h.inv
 have qM:∀b,b<W.heap.size→¬Fr b→¬me b:=fun b aV hn hf=>(f1 b hf).elim hn fun h=>by omega
 have ck:∀b,b=l∨b=Dd→b<W.heap.size∧¬Fr b:=fun b hb=>by
  refine⟨?_,fun hf=>?_⟩
  ·rcases hb with rfl|rfl
   ·exact gn h.wX
   ·exact gn h.dd
  ·have:=h.fr b hf
   rcases hb with rfl|rfl
   ·exact this.2.2.1 rfl
   ·exact this.2.2.2 rfl
 have OI:∀b,b<base→b<W.heap.size→W'.heap[b]? =W.heap[b]? :=fun b aV zj=>hb.ao b zj fun hf=>by have:=(h.fr b hf).1;omega
 have bJ:Inv gl w0 eu ⟨sh,au⟩ aC W' g:=by
  refine hI.move (MJ aY h.low) rfl (hI.below.trans ⟨hb.os,hb.tape,hb.output,hb.size,fun k hk=>?_⟩) hb.size (fun b o v hs hc=>?_) (fun b hm=>hb.ao b (hI.eb b hm).2 (h.bx b hm)) (fun b p ho _ aV=>hb.ao b aV (h.ow b p ho).2) (fun D o hD=>?_)
  ·have:=hI.below.size
   exact OI k (by omega) (by omega)
  ·rcases h.st b o hs with hp|hn
   ·exact hb.kM b o v hp hc
   ·rw[World.cell?_of_block (hb.ao b (hI.cP b o hs).2.2 hn)];exact hc
  ·have h1:=gn (hI.fe D o hD).2.2.1
   exact OI D (gj D o hD) h1
 refine⟨bJ,h.i,h.low,fun b hm=>qM b (hI.eb b hm).2 (h.bx b hm),fun b p ho=>?_,fun b o hs=>?_,fun b o hs=>⟨p1 b o (h.xH b o hs).1,(h.xH b o hs).2⟩,fun b o hp=>?_,fun b hf=>?_,?_,?_,h.lo⟩
 ·have:=h.ow b p ho
  exact⟨by omega,qM b this.1 this.2⟩
 ·rcases h.st b o hs with hp|hn
  ·exact .inl (p1 b o hp)
  ·exact .inr (qM b (hI.cP b o hs).2.2 hn)
 ·obtain⟨h1,h2⟩:=p2 b o hp
  refine⟨?_,h2⟩
  rcases h1 with h1|h1
  ·exact(h.kM b o h1).1.imp id (f2 b)
  ·exact .inr h1
 ·rcases f1 b hf with jz|jz
  ·have:=h.fr b jz;exact⟨this.1,by omega,this.2.2⟩
  ·exact⟨by omega,jz.2,fun e=>by have:=(ck b (.inl e)).1;omega,fun e=>by have:=(ck b (.inr e)).1;omega⟩
 ·rw[hb.ao l (ck l (.inl rfl)).1 (ck l (.inl rfl)).2];exact h.wX
 ·rw[hb.ao Dd (ck Dd (.inr rfl)).1 (ck Dd (.inr rfl)).2];exact h.dd
theorem bj.Bb{W W':World}{St cK:Nat→Nat→Prop}(hc:∀b o v,St b o→W.cell? ⟨b,o,none⟩=some v→W'.cell? ⟨b,o,none⟩=some v∧cK b o){x:D}{v:Value}(r:bj W St x v):bj W' cK x v:=by
 induction r with
 |bool b=>exact .bool b
 |int k n hk=>exact .int k n hk
 |str s hs=>exact .str s hs
 |agg ds vs hf hl _ ih=>exact .agg ds vs hf hl ih
 |jm sz=>exact .jm sz
 |sl sz L b off cap vs b9 hm aQ hf bF _ ih=>exact .sl sz L b off cap vs b9 hm aQ hf (fun o ho=>hc _ _ _ (bF o ho).2 (bF o ho).1) ih
 |jN sz a cap ha=>exact .jN sz a cap ha
 |fn f=>exact .fn f
 |rS=>exact .rS
 |iface t x v _ ih=>exact .iface t x v ih
 |qe=>exact .qe
 |nt=>exact .nt
theorem bd.Bb{W W':World}{St cK:Nat→Nat→Prop}{base:Nat}(hc:∀b o v,St b o→W.cell? ⟨b,o,none⟩=some v→W'.cell? ⟨b,o,none⟩=some v∧cK b o){O:Nat→Nat→Nat→Prop}(hO:∀b a c,¬O b a c){x:SV}{v:Value}(r:bd W St base O x v):
  x.nK=true→x.aj=true→bd W' cK base (fun _ _ _=>False) x v:=by
 induction r with
 |d O x v hd=>exact fun _ _=>.d _ x v (hd.Bb hc)
 |own O sz L g cap hd b9 ho=>exact absurd ho (hO _ _ _)
 |full O sz L a hd=>exact fun _ _=>.full _ sz L a (hd.Bb hc)
 |ref O cs off b o vs eJ bF _ ih=>exact fun _ hr=>by cases hr
 |aA O x off b o vs hf bF dJ=>exact fun _ _=>.aA _ x off b o vs hf (fun i hi=>hc _ _ _ (bF i hi).2 (bF i hi).1) fun i c hi=>(dJ i c hi).Bb hc
 |dX O f first cap fv cv hf dw _ _ jt ju=>
  intro hn hr
  simp only[SV.nK,SV.aj,Bool.and_eq_true]at hn hr
  exact .dX _ f first cap fv cv hf dw (fun i x v a b=>jt i x v a b (fun _ _ _ h=>h) (uZ.1 hn.1 x (List.mem_of_getElem? a)) (pZ.1 hr.1 x (List.mem_of_getElem? a))) (fun i x v a b=>ju i x v a b (fun _ _ _ h=>h) (uZ.1 hn.2 x (List.mem_of_getElem? a)) (pZ.1 hr.2 x (List.mem_of_getElem? a)))
 |cA O sz L g cap vs b9 hm aQ hf ho bF dJ=>exact absurd ho (hO _ _ _)
 |mp O l r es clock hh hs hl dJ=>exact fun hn=>by cases hn
 |undef O v=>exact fun _ _=>.undef _ v
def zn(eu:S0)(Fr:Nat→Prop)(cZ:Nat→Nat→Prop)(W:World)(g:Gh)(l Dd:Nat)(rec:Loop):S0 where
 St:=fun b o=>eu.St b o∨cZ b o
 df:=fun D o=>eu.df D o∨(Fr D∧W.heap[D]? =some o)∨(D=l∧o=.loop rec)∨(D=Dd∧o=.deferred (some []))
 cl:=fun b o v=>(g.St b o∨cZ b o)∧W.cell? ⟨b,o,none⟩=some v
 sz:=W.heap.size
theorem Dh(r:Loop):Fb (.loop r):=⟨rfl,fun _ _=>by simp⟩
theorem N2(d:Option (List Deferred)):Fb (.deferred d):=⟨rfl,fun _ _=>by simp⟩
theorem Inv.Pf{w0:World}{eu:S0}{Fr:Nat→Prop}{cZ:Nat→Nat→Prop}{W W1:World}{g g1:Gh}{l Dd:Nat}{rec Bx:Loop}{e:Env}{a:Act}(hI:Inv gl w0 (zn eu Fr cZ W g l Dd rec) e a W1 g1)(hl:w0.heap.size≤l)(ck:l≠Dd)(hFr:¬Fr l)
  (gj:∀D o,eu.df D o→D≠l)(IN:∀o,¬(eu.St l o∨cZ l o)):Inv gl w0 (zn eu Fr cZ W g l Dd Bx) e a (W1.putObj l (.loop Bx)) g1:=by
 have hr:=hI.fe l (.loop rec) (.inr (.inr (.inl ⟨rfl,rfl⟩)))
 have h1:Inv gl w0 {zn eu Fr cZ W g l Dd rec with df:=fun D o=>eu.df D o∨(Fr D∧W.heap[D]? =some o)∨(D=Dd∧o=.deferred (some []))} e a W1 g1:=
  hI.sI hI.fT (fun b o h=>(hI.cP b o h).1) (fun D o hD=>hI.fe D o (by
   rcases hD with h|h|h
   ·exact .inl h
   ·exact .inr (.inl h)
   ·exact .inr (.inr (.inr h)))) hI.cls hI.jv
 have h2:=h1.other hr.2.2.1 (Dh _) (Dh Bx) hl (fun D ob hD=>by
  rcases hD with h|⟨h,_⟩|⟨h,_⟩
  ·exact gj D ob h
  ·exact fun e=>hFr (e▸h)
  ·exact fun e=>ck (by rw[←e,h]))
 refine h2.sI h2.fT (fun b o h=>(h2.cP b o h).1) (fun D o hD=>?_) h2.cls h2.jv
 rcases hD with h|h|⟨rfl,rfl⟩|h
 ·exact h2.fe D o (.inl h)
 ·exact h2.fe D o (.inr (.inl h))
 ·exact⟨hr.1,hr.2.1,World.putObj_heap_same (gn hr.2.2.1),fun x hx=>hr.2.2.2 x hx⟩
 ·exact h2.fe D o (.inr (.inr h))
theorem uk.round(hm:P.follows .mixedOrders =true){w0:World}{eu:S0}{St:Nat→Nat→Prop}{base l Dd:Nat}{rec:Loop}{sh:List Slot}{aC:Act}{I:List af→Prop}{Fr:Nat→Prop}{cZ:Nat→Nat→Prop}{W:World}{au:List af}{g:Gh}
  (h:uk P gl w0 eu St base l Dd rec sh aC I Fr cZ W au g)(aY:sh.all (tx au.length)=true)(zd:w0.heap.size≤l∧w0.heap.size≤Dd)(xI:l<base∧Dd<base∧l≠Dd)(gj:∀D o,eu.df D o→D<base∧D≠l∧D≠Dd)(oz:∀b o,eu.St b o→b<base∧b≠l∧b≠Dd)(b4:∀b o,St b o→b≠l∧b≠Dd)
  {ps:Nat}(hrt:rec.tmps=aC.tmps)(Q0:rec.params= #[ps])(J6:rec.state=.ready)(hrn:rec.pending=none){d:D}{v:Value}(hd:bj W cZ d v){I':Ex→List af→Prop}
  (gD:∀(t:Nat)s,sh[t]? =some s→Bw s=true→t∉du hh.gh rec.assign∧t∉du hh.gh rec.body∧t≠ps)
  (Ez:aw P gl (aF P gl) hh rec.assign (fun x e1=>x=.normal ∧aw P gl (aF P gl) hh rec.body (fun x e2=>(e2.boxes.take au.length).all (kc au.length)=true∧I' x (e2.boxes.take au.length)) e1) ⟨cz sh (some ps) (.v (.d d)),au⟩):
  ∃tmps,(Instr.yield l #[v]).run P W=.ok (.round l rec.fn tmps rec.assign rec.body) W∧∀n,RoundIn Fence.wide n P l rec.fn tmps rec.assign rec.body W fun e W'=>∃x:Ex,e=.returned (.bool x.code.isNone)∧tl (fun b=>¬Fr b) cZ W W'∧
   ∃dq g',dq.length=au.length∧uk P gl w0 eu St base l Dd {rec with state:=if x.code.isNone then .ready else .done,pending:=x.code} sh aC (I' x) Fr cZ W' dq g':=by
 have hI:=h.inv
 refine⟨_,run_yield h.wX (by rw[Q0];rfl),fun n=>roundIn_of_wpIn trivial ?_⟩
 have Q1:=hI.defers
 have hlW:=gn h.wX
 have hdW:=gn h.dd
 have IP:({tmps:=(rec.params.zip #[v]).foldl (fun tmps x=>tmps.setIfInBounds x.1 x.2) rec.tmps,defers:=[]}:Act)=wd (aC.put (some ps) v) []:=by
  rw[Q0,hrt]
  cases aC
  simp[wd,Act.put]
 show rec.assign.wpIn (Fence.wide.inRound l) n P _ {tmps:=(rec.params.zip #[v]).foldl (fun tmps x=>tmps.setIfInBounds x.1 x.2) rec.tmps,defers:=[]} W
 rw[IP,←YA]
 have jA:∀b o,cZ b o→b≠l∧b≠Dd:=fun b o hp=>by
  rcases(h.kM b o hp).1 with hs|hf
  ·exact b4 b o hs
  ·exact(h.fr b hf).2.2
 have dz:=hI.aaX (S:=cZ) (fun b o hp=>by
  rcases(h.kM b o hp).1 with hs|hf
  ·exact .inl (h.xH b o hs).2
  ·have jz:=h.fr b hf
   refine .inr ⟨by omega,jz.2.1,fun hm=>h.bx b hm hf,?_⟩
   cases sG:g.ow b with
   |none=>rfl
   |some p=>exact absurd hf (h.ow b p sG).2) (fun D o hD x hx=>by
  rcases(h.kM D x hx).1 with hs|hf
  ·exact(h.xH D x hs).2
  ·have:=(h.fr D hf).1
   have:=(gj D o hD).1
   omega)
 have cD:Inv gl w0 (zn eu Fr cZ W g l Dd rec) ⟨sh,au⟩ aC W {g with St:=fun b o=>g.St b o∨cZ b o}:=by
  refine dz.sI (fun b o hs=>hs.imp (hI.fT b o) id) (fun b o hs=>?_) (fun D o hD=>?_) (fun b o v hv=>hv) (Nat.le_refl _)
  ·rcases(dz.cP b o hs).1 with h1|h1
   ·exact .inl (.inl h1)
   ·exact .inr h1
  ·rcases hD with h1|⟨h1,h2⟩|⟨rfl,rfl⟩|⟨rfl,rfl⟩
   ·have:=dz.fe D o h1
    exact⟨this.1,this.2.1,this.2.2.1,fun x hx=>.inl (this.2.2.2 x hx)⟩
   ·refine⟨fun hm=>h.bx D hm h1,?_,h2,fun x hx=>?_⟩
    ·cases sG:g.ow D with
     |none=>rfl
     |some p=>exact absurd h1 (h.ow D p sG).2
    ·rcases hx with hx|hx
     ·exact .inr ((h.st D x hx).resolve_right fun hn=>hn h1)
     ·exact .inr hx
   ·have:=h.lo D (.inl rfl)
    exact⟨this.1,this.2.1,h.wX,fun x hx=>hx.elim (fun hx=>absurd hx (this.2.2 x)) fun hx=>absurd rfl (jA D x hx).1⟩
   ·have:=h.lo D (.inr rfl)
    exact⟨this.1,this.2.1,h.dd,fun x hx=>hx.elim (fun hx=>absurd hx (this.2.2 x)) fun hx=>absurd rfl (jA D x hx).2⟩
 have jh:Inv gl w0 (zn eu Fr cZ W g l Dd rec) ⟨cz sh (some ps) (.v (.d d)),au⟩ (aC.put (some ps) v) W {g with St:=fun b o=>g.St b o∨cZ b o}:=
  cD.value (dst:=some ps) (.v _ _ _ (.d _ _ _ (hd.mono fun b o hp=>⟨.inr hp,rfl⟩)))
 refine oW hm rec.assign jh (p8 _ Ez) fun x e1 a1 w1 g1 Fc hQ1 jg=>?_
 obtain⟨⟨rfl,A7⟩,PH⟩:=hQ1
 have zS:=Fc.fe l (.loop rec) (.inr (.inr (.inl ⟨rfl,rfl⟩)))
 refine⟨_,run_beginRound zS.2.2.1 J6,?_⟩
 have Q2:¬Fr l:=fun hf=>(h.fr l hf).2.2.1 rfl
 have hFD:¬Fr Dd:=fun hf=>(h.fr Dd hf).2.2.2 rfl
 have IN:∀o,¬(eu.St l o∨cZ l o):=fun o hx=>hx.elim (fun hx=>(oz l o hx).2.1 rfl) (fun hx=>(jA l o hx).1 rfl)
 have sJ:=Fc.Pf (Bx:={rec with state:=.busy}) zd.1 xI.2.2 Q2 (fun D o hD=>(gj D o hD).2.1) IN
 refine oW hm rec.body sJ (p8 _ A7) fun x e2 a2 w3 g2 oM hQ2 km=>?_
 obtain⟨⟨Pg,zG⟩,PI⟩:=hQ2
 have Ki:=oM.fe l _ (.inr (.inr (.inl ⟨rfl,rfl⟩)))
 have mD:=run_endRound (P:=P) x.code Ki.2.2.1
 have jU:=oM.Pf (Bx:={rec with state:=if x.code.isNone then .ready else .done,pending:=x.code}) zd.1 xI.2.2 Q2 (fun D o hD=>(gj D o hD).2.1) IN
 have aeP:W.heap.size≤w3.heap.size:=oM.jv
 have Cj:tl (fun b=>¬Fr b) cZ W (w3.putObj l (.loop {rec with state:=if x.code.isNone then .ready else .done,pending:=x.code})):=by
  refine⟨jU.below.os.trans hI.below.os.symm,jU.below.tape.trans hI.below.tape.symm,jU.below.output.trans hI.below.output.symm,by simp;exact aeP,fun b hb hf=>?_,fun b o v hp hc=>(jU.cls b o v ⟨.inr hp,hc⟩).2⟩
  have hf:=Classical.not_not.1 hf
  have um:W.heap[b]? =some W.heap[b]:=by simp[hb]
  rw[um]
  exact(jU.fe b _ (.inr (.inl ⟨hf,um⟩))).2.2.1
 have zP:au.length≤e2.boxes.length:=Nat.le_trans PH.2.1 PI.2.1
 have iG:(e2.boxes.take au.length).length =au.length:=by simp;omega
 let W4:=w3.putObj l (.loop {rec with state:=if x.code.isNone then .ready else .done,pending:=x.code})
 let gc:Gh:=g2.cut au.length
 have rR:∀b o v,g.St b o→W.cell? ⟨b,o,none⟩=some v→g2.St b o∧W4.cell? ⟨b,o,none⟩=some v:=fun b o v hs hc=>jU.cls b o v ⟨.inl hs,hc⟩
 have aeQ:∀b o,St b o→g2.St b o:=fun b o hs=>jU.fT b o (.inr (h.xH b o hs).1)
 have jb:∀(i:Nat)s,sh[i]? =some s→cH w0.heap.size W4 gc (fun _ _ _ _=>False) s (aC.tmps.getD i undef):=by
  intro i s hs
  have wN:=List.all_eq_true.1 aY s (List.mem_of_getElem? hs)
  have h0:=hI.an i s hs
  have ptr:Bw s=true→(∀z,s≠.v z)→(∀z,s≠.t z)→s.stays=s→cH w0.heap.size W4 gc (fun _ _ _ _=>False) s (aC.tmps.getD i undef):=by
   intro hp hv ht hss
   obtain⟨n1,n2,n3⟩:=gD i s hs hp
   have kj:i<aC.tmps.size:=by rw[hI.size];exact(List.getElem?_eq_some_iff.1 hs).1
   have ht2:a2.tmps.getD i undef=aC.tmps.getD i undef:=by
    rw[km i n2,jg i n1,u3 _ _ _ _ kj]
    rw[if_neg (by simp;exact fun e=>n3 e.symm)]
   have aaY:(e2.an.getD i (.v .undef)).stays =s:=by
    rw[PI.2.2.1 i n2,PH.2.2.1 i n1]
    have:(cz sh (some ps) (.v (.d d))).getD i (.v .undef)=s:=by
     simp only[cz]
     rw[mi (fun e=>n3 e.symm),List.getD_eq_getElem?_getD,hs];rfl
    rw[this,hss]
   have xB:e2.an.getD i (.v .undef)=s:=by
    revert aaY
    cases s with
    |v z=>exact absurd rfl (hv z)
    |t z=>exact absurd rfl (ht z)
    |_=>cases e2.an.getD i (.v .undef)<;>simp[Slot.stays]<;>intros<;>simp_all
   have h1:=lL jU i
   rw[xB]at h1
   have xz:a2.eval (.tmp i)=a2.tmps.getD i undef:=rfl
   rw[xz,ht2]at h1
   exact Au h0 h1 (by rw[hI.fo];exact Nat.le_refl _) _ hv ht
  cases s with
  |v z=>
   simp only[tx,Bool.and_eq_true]at wN
   exact .v _ _ _ ((h0.ka.free (O':=fun _ _ _=>False) wN.1.1).Bb (fun b o v hs hc=>(rR b o v hs hc).symm) (fun _ _ _ h=>h) wN.1.2 wN.2)
  |p b off=>exact ptr rfl (by simp) (by simp) rfl
  |m b=>exact ptr rfl (by simp) (by simp) rfl
  |_=>simp[tx]at wN
 have Q3:∀b,b<W.heap.size→b<W4.heap.size:=fun b hb=>Nat.lt_of_lt_of_le hb Cj.size
 have uo:=jU.norm
 have hIc:Inv gl w0 eu ⟨sh,e2.boxes.take au.length⟩ aC W4 {g2.cut au.length with ow:=fun b=>if b<W4.heap.size then g2.ow b else none}:=by
  refine⟨uo.below,hI.size,fun i s hs=>?_,?_,fun b bx ao h1 h2=>?_,fun i j ao h1 h2=>uo.nodup i j ao (ye h1).2 (ye h2).2,fun b o hs=>uo.fT b o (.inl hs),fun b o hs=>?_,fun b hb=>uo.eb b (tk hb),uo.jK,hI.defers,
   fun D o hD=>?_,fun b o v hv=>?_,Nat.le_trans hI.jv (Nat.le_trans oM.jv (by simp[W4]))⟩
  ·exact(jb i s hs).mono (fun b o h=>⟨h,.refl _ _ _⟩) (fun _ _ _=>rfl) (fun _ _ h=>h) (.refl _) fun _ _ _ _ h=>h.elim
  ·show(g2.bx.take au.length).length =_
   have:=jU.fo
   rw[List.length_take,List.length_take,this]
  ·obtain⟨aV,h2⟩:=ye h2
   have tX:e2.boxes[b]? =some bx:=by
    simp only[List.getElem?_take]at h1
    rw[if_pos aV]at h1;exact h1
   exact(uo.boxes b bx ao tX h2).cut (Xj Pg h1)
  ·obtain⟨h1,h2,h3⟩:=uo.cP b o hs
   refine⟨?_,fun hm=>h2 (tk hm),h3⟩
   rcases h1 with(h1|h1)|h1
   ·exact .inl h1
   ·exact(dz.cP b o (.inr h1)).1
   ·exact .inr h1
  ·have vS:=uo.fe D o (.inl hD)
   refine⟨fun hm=>vS.1 (tk hm),vS.2.1,vS.2.2.1,fun x hx=>?_⟩
   rcases vS.2.2.2 x hx with h1|h1
   ·exact h1
   ·rcases(h.kM D x h1).1 with hs|hf
    ·exact(hI.fe D o hD).2.2.2 x (h.xH D x hs).2
    ·have:=(h.fr D hf).1
     have:=(gj D o hD).1
     omega
  ·have:=hI.cls b o v hv
   exact uo.cls b o v ⟨.inl this.1,this.2⟩
 have hR:uk P gl w0 eu St base l Dd {rec with state:=if x.code.isNone then .ready else .done,pending:=x.code} sh aC (I' x) Fr cZ W4 (e2.boxes.take au.length) {g2.cut au.length with ow:=fun b=>if b<W4.heap.size then g2.ow b else none}:=by
  have oF:∀b,Fr b→∃o,W.heap[b]? =some o:=fun b hf=>⟨W.heap[b]'(h.fr b hf).2.1,by simp⟩
  have mQ:∀b,b=l∨b=Dd→∃o,(zn eu Fr cZ W g l Dd {rec with state:=if x.code.isNone then .ready else .done,pending:=x.code}).df b o:=fun b hb=>by
   rcases hb with rfl|rfl
   ·exact⟨_,.inr (.inr (.inl ⟨rfl,rfl⟩))⟩
   ·exact⟨_,.inr (.inr (.inr ⟨rfl,rfl⟩))⟩
  refine⟨hIc,zG,by rw[iG];exact Pg,fun b hm hf=>?_,fun b p ho=>?_,fun b o hs=>?_,fun b o hs=>⟨(h.xH b o hs).1,aeQ b o hs⟩,fun b o hp=>⟨(h.kM b o hp).1,Q3 b (h.kM b o hp).2⟩,fun b hf=>⟨(h.fr b hf).1,Q3 b (h.fr b hf).2.1,(h.fr b hf).2.2⟩,(jU.fe l _ (.inr (.inr (.inl ⟨rfl,rfl⟩)))).2.2.1,(jU.fe Dd _ (.inr (.inr (.inr ⟨rfl,rfl⟩)))).2.2.1,fun b hb=>?_⟩
  ·obtain⟨o,ho⟩:=oF b hf
   exact(jU.fe b o (.inr (.inl ⟨hf,ho⟩))).1 (tk hm)
  ·simp only at ho
   split at ho
   ·refine⟨by assumption,fun hf=>?_⟩
    obtain⟨o,um⟩:=oF b hf
    rw[(jU.fe b o (.inr (.inl ⟨hf,um⟩))).2.1]at ho
    cases ho
   ·cases ho
  ·by_cases hf:Fr b
   ·left
    obtain⟨ob,um⟩:=oF b hf
    rcases(jU.fe b ob (.inr (.inl ⟨hf,um⟩))).2.2.2 o hs with h1|h1
    ·have:=(oz b o h1).1
     have:=(h.fr b hf).1
     omega
    ·exact h1
   ·exact .inr hf
  ·obtain⟨o,ho⟩:=mQ b hb
   have vS:=jU.fe b o ho
   refine⟨fun hm=>vS.1 (tk hm),?_,fun x hx=>?_⟩
   ·simp only
    split
    ·exact vS.2.1
    ·rfl
   ·rcases vS.2.2.2 x hx with h1|h1
    ·rcases hb with rfl|rfl
     ·exact(oz _ x h1).2.1 rfl
     ·exact(oz _ x h1).2.2 rfl
    ·rcases hb with rfl|rfl
     ·exact(jA _ x h1).1 rfl
     ·exact(jA _ x h1).2 rfl
 have fin:∃x':Ex,(Ending.returned (Value.bool x.code.isNone))=.returned (.bool x'.code.isNone)∧tl (fun b=>¬Fr b) cZ W W4∧
  ∃dq g',dq.length=au.length∧uk P gl w0 eu St base l Dd {rec with state:=if x'.code.isNone then .ready else .done,pending:=x'.code} sh aC (I' x') Fr cZ W4 dq g':=⟨x,rfl,Cj,_,_,iG,hR⟩
 cases x with
 |normal=>exact⟨_,_,mD,fin⟩
 |exit i=>exact⟨_,_,mD,fin⟩
 |ret=>exact⟨_,_,mD,fin⟩
end
end Go.Proofs.YtaknajjmldngiaaGreat.Ab
set_option linter.unusedVariables false
set_option linter.unusedSimpArgs false
namespace Go.Proofs.YtaknajjmldngiaaGreat.Ab
open Go Go.RowKit
section
variable{P:Program}{gl:Nat→Option D}{hh:Hints}{n:Nat}
theorem bd.Q4{w:World}{St:Nat→Nat→Prop}{base A6:Nat}{O:Nat→Nat→Nat→Prop}{x:SV}{v:Value}(r:bd w St base O x v)(hx:x.aj=true):bd w St A6 O x v:=by
 induction r with
 |d O x v hd=>exact .d O x v hd
 |own O sz L g cap hd b9 ho=>exact .own O sz L g cap hd b9 ho
 |full O sz L a hd=>exact .full O sz L a hd
 |ref=>simp[SV.aj]at hx
 |aA O x off b o vs hf bF hc=>exact .aA O x off b o vs hf bF hc
 |dX O f first cap fv cv hf hc _ _ jt ju=>
  simp only[SV.aj,Bool.and_eq_true]at hx
  exact .dX O f first cap fv cv hf hc (fun i x v a b=>jt i x v a b (pZ.1 hx.1 x (List.mem_of_getElem? a))) (fun i x v a b=>ju i x v a b (pZ.1 hx.2 x (List.mem_of_getElem? a)))
 |cA O sz L g cap vs h1 h2 h3 h4 h5 h6 h7=>exact .cA O sz L g cap vs h1 h2 h3 h4 h5 h6 h7
 |mp O l r es clock hh hs hl hc=>exact .mp O l r es clock hh hs hl hc
 |undef O v=>exact .undef O v
theorem Inv.drop{w0:World}{eu:S0}{an sh:List Slot}{au:List af}{a:Act}{w:World}{g:Gh}(hI:Inv gl w0 eu ⟨an,au⟩ a w g)(hl:sh.length=an.length)
  (h:∀(i:Nat)s,sh[i]? =some s→s=.v .undef ∨∃s0,an[i]? =some s0∧(s=s0∨s=s0.aa)):Inv gl w0 eu ⟨sh,au⟩ a w g:=by
 refine⟨hI.below,by rw[hI.size];exact hl.symm,fun i s hs=>?_,hI.fo,hI.boxes,hI.nodup,hI.fT,hI.cP,hI.eb,hI.jK,hI.defers,hI.fe,hI.cls,hI.jv⟩
 rcases h i s hs with rfl|⟨s0,h0,rfl|rfl⟩
 ·exact .v _ _ _ (.undef _ _)
 ·exact hI.an i s h0
 ·exact(hI.an i s0 h0).aa
def S0.Ik(eu:S0)(Dd:Nat):S0:={eu with df:=fun D o=>eu.df D o∨(D=Dd∧o=.deferred (some []))}
def vC(I:Nat→List af→Prop)(X:Ex→List af→Prop)(k:Nat):Ex→List af→Prop
 | .normal =>I k
 |x=>X x
theorem Ts(hm:P.follows .mixedOrders =true){w0:World}{eu:S0}{sh:List Slot}{au:List af}{aC:Act}{w:World}{g:Gh}(hI:Inv gl w0 eu ⟨sh,au⟩ aC w g)(aY:sh.all (tx au.length)=true)(qu:au.all (kc au.length)=true)
  {xJ:Operand}{it:FuncId}{cap:List SV}(hg:bd w g.St w0.heap.size (fun _ _ _=>False) (.dX (.func it) [] cap) (aC.eval xJ))(b9:SV.mr cap=true){L:List D}(xt:Iter P gl it cap L)
  {ps:Nat}{assign body:Code}(gD:∀(t:Nat)s,sh[t]? =some s→Bw s=true→t∉du hh.gh assign∧t∉du hh.gh body∧t≠ps)
  (I:Nat→List af→Prop)(X:Ex→List af→Prop)(h0:I 0 au)
  (AY:∀(k:Nat)d dq,I k dq→L[k]? =some d→dq.length=au.length→aw P gl (aF P gl) hh assign (fun x e1=>x=.normal ∧aw P gl (aF P gl) hh body (fun x e2=>(e2.boxes.take au.length).all (kc au.length)=true∧vC I X (k+1) x (e2.boxes.take au.length)) e1) ⟨cz sh (some ps) (.v (.d d)),dq⟩)
  {Q:Exit→Act→World→Prop}(hQ:∀(x:Ex)dq w' g' Dd,vC I X L.length x dq→dq.length=au.length→Inv gl w0 (eu.Ik Dd) ⟨sh,dq⟩ aC w' g'→w0.heap.size≤Dd→(∀o,¬eu.df Dd o)→(∀o,¬eu.St Dd o)→Q x.to (wd aC [{target:=.collected Dd,args:= #[]}]) w'):
  (Code.rangeFunc xJ #[ps] assign body).wpIn Fence.wide n P Q aC w:=by
 generalize hvg:aC.eval xJ=vg at hg
 cases hg with
 |dX _ _ _ _ fv cv hf hc rf rc=>
  have xq:fv= #[]:=by
   have:fv.size=0:=by simpa using hf.symm
   exact Array.eq_empty_of_size_eq_zero this
  subst xq
  refine wpIn_rangeFunc fun fn _=>?_
  obtain⟨vD,Il⟩:∃vD:Loop,vD={state:=.ready,pending:=none,fn,tmps:=aC.tmps,params:= #[ps],assign,body,defers:=w.heap.size}:=⟨_,rfl⟩
  obtain⟨w1,vT⟩:∃w1,(w.alloc (.deferred (some []))).alloc (.loop vD)=w1:=⟨_,rfl⟩
  have jd:w1.heap.size=w.heap.size+2:=by rw[←vT];simp
  have hL1:w1.heap[w.heap.size+1]? =some (.loop vD):=by
   rw[←vT]
   have:=World.alloc_heap_new (w.alloc (.deferred (some []))) (.loop vD)
   simpa using this
  have hD1:w1.heap[w.heap.size]? =some (.deferred (some [])):=by
   rw[←vT,iQ (w.alloc (.deferred (some []))) _ w.heap.size (by simp)]
   exact World.alloc_heap_new w _
  have hold:∀b,b<w.heap.size→w1.heap[b]? =w.heap[b]? :=fun b hb=>by
   rw[←vT,iQ (w.alloc (.deferred (some []))) _ b (by simp;omega),iQ w _ b hb]
  have hle:w0.heap.size≤w.heap.size:=hI.below.size
  have aaZ:∀b o,b<w.heap.size→w1.cell? ⟨b,o,none⟩=w.cell? ⟨b,o,none⟩:=fun b o hb=>World.cell?_of_block (hold b hb)
  have hIn:=hI.norm
  have dz:Inv gl w0 eu ⟨sh,au⟩ aC w1 {g with ow:=fun b=>if b<w.heap.size then g.ow b else none}:=
   hIn.move (MJ aY qu) rfl (hI.below.trans ⟨by rw[←vT];rfl,by rw[←vT];rfl,by rw[←vT];rfl,by omega,fun k hk=>hold k (by omega)⟩) (by omega)
    (fun b o v hs dw=>by rw[aaZ b o (hI.cP b o hs).2.2];exact dw) (fun b hm=>hold b (hI.eb b hm).2) (fun b p _ _ hb=>hold b hb) (fun D o hD=>hold D (gn (hI.fe D o hD).2.2.1))
  refine⟨w.heap.size+1,[{target:=.collected w.heap.size,args:= #[]}],w1,{target:=.fn (.func it) cv,args:= #[.func (.yield (w.heap.size+1)) #[] #[]]},w1,it,#[.func (.yield (w.heap.size+1)) #[] #[]]++cv,w1,?_,?_,fun _ _=>trivial,?_,(fun h=>by cases h),?_⟩
  ·rw[←vT,Il];exact run_enterLoop_outer _ _ _ _ _
  ·simp only[resolve,hvg]
   simp[go_sem]
  ·simp[invoke,go_sem,xt.1 _ _]
  ·have zd:w0.heap.size≤w.heap.size+1∧w0.heap.size≤w.heap.size:=⟨by omega,hle⟩
   have xI:w.heap.size+1<w1.heap.size∧w.heap.size<w1.heap.size∧w.heap.size+1≠w.heap.size:=⟨by omega,by omega,by omega⟩
   have gj:∀D o,eu.df D o→D<w1.heap.size∧D≠w.heap.size+1∧D≠w.heap.size:=fun D o hD=>by have:=gn (hI.fe D o hD).2.2.1;omega
   have oz:∀b o,eu.St b o→b<w1.heap.size∧b≠w.heap.size+1∧b≠w.heap.size:=fun b o hs=>by have:=(hI.cP b o (hI.fT b o hs)).2.2;omega
   have b4:∀b o,g.St b o→b≠w.heap.size+1∧b≠w.heap.size:=fun b o hs=>by have:=(hI.cP b o hs).2.2;omega
   have main:=xt.2 w1 g.St (w.heap.size+1) cv (fun b o h=>by have:=(hI.cP b o h).2.2;omega) dz.jK hc (fun i x v hx hv=>?_)
    (fun q Fr cZ pre W=>w1.heap.size≤W.heap.size∧∃x:Ex,(q=none↔x=.normal)∧(x=.normal →pre=L.take pre.length)∧∃dq g',dq.length=au.length∧
      uk P gl w0 eu g.St w1.heap.size (w.heap.size+1) w.heap.size {vD with state:=if x.code.isNone then .ready else .done,pending:=x.code} sh aC (vC I X pre.length x) Fr cZ W dq g') ?_ ?_ ?_
   ·refine callsIn_wide.2 (Calls.mono main ?_)
    rintro e W2 ⟨⟨v,rfl⟩,Fr,cZ,pre,q,⟨Ci,x,Ck,EA,dq,g',iG,hR⟩,hq⟩
    have mD:=run_endLoop (P:=P) hR.wX (by cases x<;>simp[Ex.code])
    have uq:=hR.inv.other hR.wX (Dh _) (Dh {vD with state:=.exhausted,pending:=x.code}) zd.1 (fun D ob hD=>(gj D ob hD).2.1)
    have Kj:=hR.lo w.heap.size (.inr rfl)
    have hI6:Inv gl w0 (eu.Ik w.heap.size) ⟨sh,dq⟩ aC (W2.putObj (w.heap.size+1) (.loop {vD with state:=.exhausted,pending:=x.code})) g':=by
     refine uq.sI uq.fT (fun b o h=>(uq.cP b o h).1) (fun D o hD=>?_) uq.cls uq.jv
     rcases hD with hD|⟨rfl,rfl⟩
     ·exact uq.fe D o hD
     ·exact⟨Kj.1,Kj.2.1,(World.putObj_heap_other (by omega)).trans hR.dd,fun x hx=>absurd hx (Kj.2.2 x)⟩
    have tN:∀x',x=x'→vC I X L.length x' dq:=fun x' hx=>by
     subst hx
     have:=hR.i
     cases x with
     |normal=>
      have h1:=hq (Ck.2 rfl)
      rw[h1]at this
      exact this
     |exit i=>exact this
     |ret=>exact this
    have Q1:=hI.defers
    have IP:({aC with defers:=[{target:=.collected w.heap.size,args:= #[]}]++aC.defers}:Act)=wd aC [{target:=.collected w.heap.size,args:= #[]}]:=by
     rw[Q1];rfl
    have HN:=hQ x dq _ g' w.heap.size (tN x rfl) iG hI6 hle (fun o hD=>(gj _ o hD).2.2 rfl) (fun o hs=>(oz _ o hs).2.2 rfl)
    refine⟨x.code,_,mD,?_⟩
    rw[IP]
    cases x with
    |normal=>exact HN
    |exit i=>exact wpIn_exit HN
    |ret=>exact wpIn_ret HN
   ·have vK:x.aj=true:=pZ.1 b9 x (List.mem_of_getElem? hx)
    exact(((rc i x v hx hv).Q4 (A6:=0) vK).mono (fun b o h=>⟨h,.rA (hold b (hI.cP b o h).2.2)⟩) (fun b o hb=>absurd hb (Nat.not_lt_zero _)) _ (fun _ _ _ h=>h.elim)).Q4 vK
   ·rintro q Fr cZ pre W W' me pv ⟨Ci,x,Ck,EA,dq,g',iG,hR⟩ hb f1 f2 p1 p2
    exact⟨Nat.le_trans Ci hb.size,x,Ck,EA,dq,g',iG,hR.Ij aY (by omega) ⟨xI.1,xI.2.1⟩ (fun D o hD=>(gj D o hD).1) hb Ci f1 f2 p1 p2⟩
   ·rintro Fr cZ pre d v W ⟨Ci,x,Ck,EA,dq,g',iG,hR⟩ hd Q5
    have hxn:=Ck.1 rfl
    subst hxn
    subst Il
    have Ez:=AY pre.length d dq hR.i Q5 iG
    rw[←iG]at Ez
    obtain⟨tmps,hy,hr⟩:=hR.round (hh:=hh) hm (by rw[iG];exact aY) zd xI gj oz b4 (ps:=ps) rfl rfl rfl rfl hd gD (I':=vC I X (pre.length+1)) Ez
    refine⟨_,tmps,_,_,hy,fun n=>(hr n).mono fun e W'⟨x',he,gE,aeR,g2,pM,zT⟩=>⟨x'.code.isNone,he,gE,?_,x',?_,fun dE=>?_,aeR,g2,pM.trans iG,?_⟩⟩
    ·have:=gn zT.dd
     have h1:=zT.fr
     have:W.heap.size≤W'.heap.size:=gE.size
     omega
    ·cases x'<;>simp[Ex.code]
    ·have h1:=EA rfl
     rw[List.length_append,List.length_singleton,List.take_add_one,Q5,←h1]
     rfl
    ·rw[List.length_append,List.length_singleton]
     exact zT
   ·subst Il
    refine⟨Nat.le_refl _,.normal,by simp,fun _=>by simp,au,_,rfl,⟨dz,h0,qu,fun _ _ h=>h,fun b p ho=>?_,fun b o h=>.inl h,fun b o h=>⟨h,h⟩,fun b o h=>⟨.inl h,by have:=(hI.cP b o h).2.2;omega⟩,fun b h=>h.elim,hL1,hD1,fun b hb=>?_⟩⟩
    ·simp only at ho
     split at ho
     ·exact⟨by omega,fun h=>h⟩
     ·cases ho
    ·have Kk:¬b<w.heap.size:=by omega
     exact⟨fun hm=>Kk (hI.eb b hm).2,by simp only;rw[if_neg Kk],fun o h=>Kk (hI.cP b o h).2.2⟩
end
end Go.Proofs.YtaknajjmldngiaaGreat.Ab
