/-
  THE ABSTRACT WALK: AN ITERATOR: what it knows between its calls of yield.
-/
import Derived.Test.YtaknajjmldngiaaGreatTc
import Derived.LoopNIn
set_option linter.unusedVariables false
set_option linter.unusedSimpArgs false
set_option linter.unusedVariables false
set_option linter.unusedSimpArgs false
namespace Go.Proofs.YtaknajjmldngiaaGreat.Ab
open Go Go.RowKit
structure sK(gl:Nat→Option D)(base:Nat)(Q6:S0)(Fr:Nat→Prop)(e:Env)(a:Act)(W:World)(g:Gh):Prop where
 inv:∃w0:World,w0.heap.size=base∧Inv gl w0 Q6 e a W g
 bx:∀b,some b∈g.bx→Fr b
 ow:∀b p,g.ow b=some p→b<W.heap.size→Fr b
 st:∀b o,g.St b o→Fr b∨Q6.St b o
 fr:∀b,Fr b→base≤b∧b<W.heap.size
def oN(St:Nat→Nat→Prop):S0:={St:=St,df:=fun _ _=>False,cl:=fun _ _ _=>False}
def By(Fr:Nat→Prop)(W:World)(g:Gh):S0:={St:=g.St,df:=fun D o=>¬Fr D∧W.heap[D]? =some o,cl:=fun b o v=>g.St b o∧W.cell? ⟨b,o,none⟩=some v,sz:=W.heap.size}
section
variable{P:Program}{gl:Nat→Option D}{hh:Hints}{n:Nat}{base:Nat}{St:Nat→Nat→Prop}{Fr:Nat→Prop}{e:Env}{a:Act}{W:World}{g:Gh}
theorem sK.sI(h:sK gl base (oN St) Fr e a W g):∃w0:World,w0.heap.size=base∧Inv gl w0 (By Fr W g) e a W g:=by
 obtain⟨w0,h0,hI⟩:=h.inv
 refine⟨w0,h0,hI.sI (fun _ _ h=>h) (fun _ _ h=>.inl h) (fun D o hD=>?_) (fun _ _ _ h=>h) (Nat.le_refl _)⟩
 obtain⟨h1,h2⟩:=hD
 refine⟨fun hm=>h1 (h.bx D hm),?_,h2,fun x hx=>hx⟩
 cases sG:g.ow D with
 |none=>rfl
 |some p=>exact absurd (h.ow D p sG (gn h2)) h1
theorem sK.adE(h:sK gl base (oN St) Fr e a W g){w0:World}(h0:w0.heap.size=base)(pK:Inv gl w0 (By Fr W g) e a W g){e':Env}{a':Act}{W':World}{g':Gh}(hI:Inv gl w0 (By Fr W g) e' a' W' g'):
  sK gl base (oN St) (fun b=>Fr b∨(W.heap.size≤b∧b<W'.heap.size)) e' a' W' g'∧tl Fr g.St W W'∧∀b o,g.St b o→g'.St b o:=by
 have aQ:W.heap.size≤W'.heap.size:=hI.jv
 obtain⟨w1,h1,dz⟩:=h.inv
 have hold:∀b,b<W.heap.size→¬Fr b→some b∉g'.bx∧g'.ow b=none∧W'.heap[b]? =W.heap[b]? ∧∀x,g'.St b x→g.St b x:=fun b hb hf=>by
  have um:W.heap[b]? =some W.heap[b]:=by simp[hb]
  have:=hI.fe b _ ⟨hf,um⟩
  exact⟨this.1,this.2.1,this.2.2.1.trans um.symm,this.2.2.2⟩
 refine⟨⟨⟨w0,h0,hI.sI (fun b o hs=>hI.fT b o (dz.fT b o hs)) (fun b o hs=>?_) (fun D o hD=>hD.elim) (fun b o v hv=>hv.elim) (Nat.zero_le _)⟩,fun b hm=>?_,fun b p ho hb=>?_,fun b o hs=>?_,fun b hf=>?_⟩,
  ⟨hI.below.os.trans pK.below.os.symm,hI.below.tape.trans pK.below.tape.symm,hI.below.output.trans pK.below.output.symm,aQ,fun b hb hf=>(hold b hb hf).2.2.1,fun b o v hs hc=>(hI.cls b o v ⟨hs,hc⟩).2⟩,fun b o hs=>hI.fT b o hs⟩
 ·rcases(hI.cP b o hs).1 with h2|h2
  ·have:=(dz.cP b o h2).1
   rw[h1]at this
   rw[h0]
   exact this
  ·exact .inr h2
 ·by_cases hf:Fr b
  ·exact .inl hf
  ·by_cases hb:b<W.heap.size
   ·exact absurd hm (hold b hb hf).1
   ·exact .inr ⟨by omega,(hI.eb b hm).2⟩
 ·by_cases hf:Fr b
  ·exact .inl hf
  ·by_cases eK:b<W.heap.size
   ·rw[(hold b eK hf).2.1]at ho;cases ho
   ·exact .inr ⟨by omega,hb⟩
 ·by_cases hf:Fr b
  ·exact .inl (.inl hf)
  ·by_cases hb:b<W.heap.size
   ·exact(h.st b o ((hold b hb hf).2.2.2 o hs)).imp .inl id
   ·exact .inl (.inr ⟨by omega,(hI.cP b o hs).2.2⟩)
 ·rcases hf with hf|hf
  ·have:=h.fr b hf;exact⟨this.1,by omega⟩
  ·refine⟨?_,hf.2⟩
   have:=pK.below.size
   omega
theorem sK.norm(h:sK gl base (oN St) Fr e a W g):∃g',sK gl base (oN St) Fr e a W g'∧g'.St=g.St∧∀b p,g'.ow b=some p→b<W.heap.size:=by
 obtain⟨w0,h0,hI⟩:=h.inv
 refine⟨_,⟨⟨w0,h0,hI.norm⟩,h.bx,fun b p ho hb=>?_,h.st,h.fr⟩,rfl,fun b p ho=>?_⟩
 ·simp only at ho
  rw[if_pos hb]at ho
  exact h.ow b p ho hb
 ·simp only at ho
  split at ho
  ·assumption
  ·cases ho
structure qW(P:Program)(gl:Nat→Option D) where
 base:Nat
 St:Nat→Nat→Prop
 l:Nat
 L:List D
 J:Option Unit→(Nat→Prop)→(Nat→Nat→Prop)→List D→World→Prop
 mc:∀b o,St b o→b<base
 Ij:∀q Fr cZ pre W W' me pv,J q Fr cZ pre W→tl Fr cZ W W'→(∀b,me b→Fr b∨(W.heap.size≤b∧b<W'.heap.size))→(∀b,Fr b→me b)→(∀b o,cZ b o→pv b o)→
  (∀b o,pv b o→(cZ b o∨me b)∧b<W'.heap.size)→J q me pv pre W'
 round:∀Fr cZ pre d v W,J none Fr cZ pre W→bj W cZ d v→L[pre.length]? =some d→∃fn tmps assign body,(Instr.yield l #[v]).run P W=.ok (.round l fn tmps assign body) W∧
  ∀n,RoundIn Fence.wide n P l fn tmps assign body W fun e W'=>∃b,e=.returned (.bool b)∧tl (fun b=>¬Fr b) cZ W W'∧J (bif b then none else some ()) Fr cZ (pre++[d]) W'
def qW.pw(C:qW P gl)(e:Env)(log:List D)(q:Option Unit)(a:Act)(W:World):Prop:=
 ∃Fr g,sK gl C.base (oN C.St) Fr e a W g∧C.J q Fr g.St log W
theorem qW.go(C:qW P gl){log:List D}{q:Option Unit}(h:sK gl C.base (oN C.St) Fr e a W g)(hJ:C.J q Fr g.St log W){w0:World}(h0:w0.heap.size=C.base)(pK:Inv gl w0 (By Fr W g) e a W g){e':Env}{a':Act}{W':World}{g':Gh}
  (hI:Inv gl w0 (By Fr W g) e' a' W' g'):C.pw e' log q a' W':=by
 obtain⟨h1,h2,h3⟩:=h.adE h0 pK hI
 refine⟨_,g',h1,C.Ij _ _ _ _ _ _ _ _ hJ h2 (fun b hb=>hb) (fun b hb=>.inl hb) h3 (fun b o hs=>⟨?_,(hI.cP b o hs).2.2⟩)⟩
 rcases h1.st b o hs with hf|gT
 ·exact .inr hf
 ·obtain⟨_,_,dz⟩:=h.inv
  exact .inl (dz.fT b o gT)
def IW(C:qW P gl)(n:Nat)(c:Code)(Q:Ex→Env→List D→Option Unit→Prop)(e:Env)(log:List D)(q:Option Unit):Prop:=
 ∀a W,C.pw e log q a W→c.wpIn Fence.wide n P (fun x a' W'=>∃xx e' lu q',x=Ex.to xx∧C.pw e' lu q' a' W'∧Q xx e' lu q') a W
def OW(C:qW P gl)(n:Nat)(ops:Array Oper)(Q:Ex→Env→List D→Option Unit→Prop)(idx:List Nat)(e:Env)(log:List D)(q:Option Unit):Prop:=
 ∀a W,C.pw e log q a W→wpOpsIn Fence.wide n P ops (fun x a' W'=>∃xx e' lu q',x=Ex.to xx∧C.pw e' lu q' a' W'∧Q xx e' lu q') idx a W
theorem LK{F:Fence}{c:Code}{Q:Exit→Act→World→Prop}:∀{m k:Nat},m≤k→∀{a:Act}{w:World},Code.roundsIn F n P c Q m a w→Code.roundsIn F n P c Q k a w
 |0,_,_,_,_,h=>h.elim
 |m+1,0,hk,_,_,_=>by omega
 |m+1,k+1,hk,a,w,h=>by
  refine wpIn_mono h fun x a' w' hx=>?_
  cases x with
  |normal=>exact LK (by omega) hx
  |_=>exact hx
variable{C:qW P gl}{log:List D}{q:Option Unit}
theorem IW.mono{c:Code}{Q Q':Ex→Env→List D→Option Unit→Prop}(h:IW C n c Q e log q)(hq:∀x e l q,Q x e l q→Q' x e l q):IW C n c Q' e log q:=fun a W hH=>
 wpIn_mono (h a W hH) fun x a' W'⟨xx,e',l',q',h1,h2,h3⟩=>⟨xx,e',l',q',h1,h2,hq _ _ _ _ h3⟩
theorem IW.aw(hm:P.follows .mixedOrders =true){c:Code}{Q:Ex→Env→List D→Option Unit→Prop}(h:aw P gl (aF P gl) hh c (fun x e'=>Q x e' log q) e):IW C n c Q e log q:=by
 rintro a W ⟨Fr,g,hS,hJ⟩
 obtain⟨w0,h0,hI⟩:=hS.sI
 have:=L6 (r:=none) (n:=n) (ds:=[]) hm c hI h (Q:=fun x a' W'=>∃xx e' lu q',x=Ex.to xx∧C.pw e' lu q' a' W'∧Q xx e' lu q') (fun x e' a' W' g' bJ hQ=>by
  refine⟨x,e',log,q,rfl,?_,hQ⟩
  rw[nD bJ.defers]
  exact C.go hS hJ h0 hI bJ)
 rw[nD hI.defers]at this
 exact this
theorem IW.seq{x y:Code}{Q:Ex→Env→List D→Option Unit→Prop}(h:IW C n x (fun ex e' l' q'=>match ex with| .normal =>IW C n y Q e' l' q'|ex=>Q ex e' l' q') e log q):IW C n (.seq x y) Q e log q:=fun a W hH=>by
 refine wpIn_seq (wpIn_mono (h a W hH) ?_)
 rintro ex a' W' ⟨xx,e',l',q',rfl,h2,h3⟩
 cases xx with
 |normal=>exact h3 a' W' h2
 |exit i=>exact⟨.exit i,e',l',q',rfl,h2,h3⟩
 |ret=>exact⟨.ret,e',l',q',rfl,h2,h3⟩
theorem IW.block{id:Nat}{b:Code}{Q:Ex→Env→List D→Option Unit→Prop}(h:IW C n b (fun ex e' l' q'=>match ex with| .normal =>Q .normal e' l' q'| .exit i=>cond (i==id) (Q .normal e' l' q') (Q (.exit i) e' l' q')| .ret =>Q .ret e' l' q') e log q):
  IW C n (.block id b) Q e log q:=fun a W hH=>by
 refine wpIn_block (wpIn_mono (h a W hH) ?_)
 rintro ex a' W' ⟨xx,e',l',q',rfl,h2,h3⟩
 cases xx with
 |normal=>exact⟨.normal,e',l',q',rfl,h2,h3⟩
 |exit i=>
  have h3:cond (i==id) (Q .normal e' l' q') (Q (.exit i) e' l' q'):=h3
  show(if i=id then _ else _)
  cases hb:(i==id)with
  |true=>
   rw[hb]at h3
   rw[if_pos (beq_iff_eq.1 hb)]
   exact⟨.normal,e',l',q',rfl,h2,h3⟩
  |false=>
   rw[hb]at h3
   rw[if_neg (beq_eq_false_iff_ne.1 hb)]
   exact⟨.exit i,e',l',q',rfl,h2,h3⟩
 |ret=>exact⟨.ret,e',l',q',rfl,h2,h3⟩
theorem IW.cond{t:Nat}{b:Bool}{x y:Code}{Q:Ex→Env→List D→Option Unit→Prop}(hs:e.an[t]? =some (.v (.d (.bool b))))(h:IW C n (if b then x else y) Q e log q):IW C n (.cond (.tmp t) x y) Q e log q:=fun a W hH=>by
 have hH':=hH
 obtain⟨Fr,g,hS,_⟩:=hH'
 obtain⟨w0,_,hI⟩:=hS.inv
 have h1:=(hI.an t _ hs).ka.data.rB
 exact wpIn_cond (t:=b) h1 (h a W hH)
theorem IW.loop{b:Code}{Q:Ex→Env→List D→Option Unit→Prop}(I:Nat→Env→List D→Option Unit→Prop)
  (hb:∀m e l q,I m e l q→IW C n b (fun ex e' l' q'=>match ex with| .normal =>(∃m',m'<m∧I m' e' l' q')|ex=>Q ex e' l' q') e l q):∀(m:Nat)(e:Env)(log:List D)(q:Option Unit),I m e log q→IW C n (.loop b) Q e log q:=by
 have key:∀(m:Nat)(e:Env)(log:List D)(q:Option Unit),I m e log q→∀a W,C.pw e log q a W→Code.roundsIn Fence.wide n P b (fun x a' W'=>∃xx e' lu q',x=Ex.to xx∧C.pw e' lu q' a' W'∧Q xx e' lu q') (m+1) a W:=by
  intro m
  induction m using Nat.strongRecOn with
  |_ m ih=>
   intro e log q hI a W hH
   refine wpIn_mono (hb m e log q hI a W hH) ?_
   rintro ex a' W' ⟨xx,e',l',q',rfl,h2,h3⟩
   cases xx with
   |normal=>
    obtain⟨m',qR,bJ⟩:=h3
    have:=ih m' qR e' l' q' bJ a' W' h2
    exact LK (by omega) this
   |exit i=>exact⟨.exit i,e',l',q',rfl,h2,h3⟩
   |ret=>exact⟨.ret,e',l',q',rfl,h2,h3⟩
 exact fun m e log q hI a W hH=>wpIn_loop_rounds (m+1) (key m e log q hI a W hH)
theorem OW.nil{ops:Array Oper}{Q:Ex→Env→List D→Option Unit→Prop}(h:Q .normal e log q):OW C n ops Q [] e log q:=fun a W hH=>⟨.normal,e,log,q,rfl,hH,h⟩
theorem IW.region{id:Nat}{ops:Array Oper}{Q:Ex→Env→List D→Option Unit→Prop}(h:OW C n ops Q (List.range ops.size) e log q):IW C n (.region id ops false) Q e log q:=fun a W hH=>wpIn_region (h a W hH)
theorem OW.step{ops:Array Oper}{Q:Ex→Env→List D→Option Unit→Prop}{i:Nat}{rest:List Nat}{id:Nat}{aE:Bool}{o:Oper}(ho:ops[i]? =some o)
  (h:my P gl (aF P gl) ops.toList id aE o e (fun e'=>OW C n ops Q rest e' log q)):OW C n ops Q (i::rest) e log q:=by
 rintro a W ⟨Fr,g,hS,hJ⟩
 obtain⟨w0,h0,hI⟩:=hS.sI
 rw[wpOpsIn_cons]
 have:=Gk (r:=none) (n:=n) (ds:=[]) hI ho h (next:=wpOpsIn Fence.wide n P ops (fun x a' W'=>∃xx e' lu q',x=Ex.to xx∧C.pw e' lu q' a' W'∧Q xx e' lu q') rest)
  (Q:=fun x a' W'=>∃xx e' lu q',x=Ex.to xx∧C.pw e' lu q' a' W'∧Q xx e' lu q') (fun e' v W' g' bJ hk=>by
    rw[nD bJ.defers]
    exact hk _ _ (C.go hS hJ h0 hI bJ))
 rw[nD hI.defers]at this
 exact this
theorem OW.yield{ops:Array Oper}{Q:Ex→Env→List D→Option Unit→Prop}{i:Nat}{rest:List Nat}{o:Oper}(ho:ops[i]? =some o)(hg:o.guard=none){c:Call}(hc:o.op=.call c){f x:Operand}(hf:c.callee=.value f)(hx:c.args= #[x]){d:Nat}(hd:o.dst=some d)
  (hsf:(Ab.bc gl e f).aa =.v (.d (.fn (.yield C.l)))){y:D}(Kf:(Ab.bc gl e x).aa =.v (.d y))(hy:C.L[log.length]? =some y)(hp:DS e)
  (h1:OW C n ops Q rest ⟨e.an.set d (.v (.d (.bool true))),e.boxes⟩ (log++[y]) none)(h2:OW C n ops Q rest ⟨e.an.set d (.v (.d (.bool false))),e.boxes⟩ (log++[y]) (some ())):OW C n ops Q (i::rest) e log none:=by
 rintro a W ⟨Fr,g0,E2,hJ⟩
 obtain⟨g,hS,jw,qJ⟩:=E2.norm
 rw[←jw]at hJ
 obtain⟨w0,h0,hI⟩:=hS.inv
 rw[wpOpsIn_cons]
 unfold wpOpIn
 simp only[ho]
 have hw:Region.wanted o (yielded ops a.tmps)=true:=by simp[Region.wanted,hg]
 rw[if_pos hw]
 refine⟨fun _ _=>trivial,?_⟩
 have Q7:a.eval f=.func (.yield C.l) #[] #[]:=by
  have:=(hI.pF hsf).data
  generalize a.eval f=u at this
  cases this
  rfl
 have BZ:bj W g.St y (a.eval x):=(hI.pF Kf).data
 obtain⟨fn,tmps,assign,body,bz,hr⟩:=C.round Fr g.St log y (a.eval x) W hJ BZ hy
 have hex:(o.semAt Fence.wide.round a.eval).run P W=.ok (.round C.l fn tmps assign body) W:=by
  show(execOp a.eval o).run P W=_
  generalize a.eval=ρ at Q7 bz
  simp[execOp,hc,resolve,hf,hx,Q7,invoke,go_sem,bz]
 rw[hex,Oper.uponIn_round]
 refine⟨fun h=>(by cases h),(hr (n-1)).mono ?_⟩
 rintro e1 W1 ⟨b,rfl,hB,Fc⟩
 show wpOpsIn _ _ _ _ _ rest (a.put o.dst (.bool b)) W1
 rw[hd]
 have EY:Inv gl (Bv W1 C.base) (oN C.St) e a W1 g:=by
  have hle:=hI.below.size
  have jd:=hB.size
  have cp:(Bv W1 C.base).heap.size =C.base:=MI (by omega)
  refine hI.move hp (by rw[cp,h0]) ?_ hB.size (fun b o v hs hc=>hB.kM b o v hs hc) (fun b hm=>?_) (fun b p hw _ hb=>?_) (fun D o hD=>hD.elim)
  ·rw[h0]
   refine⟨rfl,rfl,rfl,by rw[cp];omega,fun k hk=>?_⟩
   show W1.heap[k]? =(W1.heap.extract 0 C.base)[k]?
   rw[Array.getElem?_extract,if_pos (by omega),Nat.zero_add]
  ·exact hB.ao b (hI.eb b hm).2 fun hn=>hn (hS.bx b hm)
  ·exact hB.ao b hb fun hn=>hn (hS.ow b p hw hb)
 have cp:(Bv W1 C.base).heap.size =C.base:=MI (by have:=hI.below.size;have:=hB.size;omega)
 have hv:=EY.value (dst:=some d) (s:=.v (.d (.bool b))) (v:=.bool b) (.v _ _ _ (.d _ _ _ (.bool b)))
 have hH:C.pw ⟨e.an.set d (.v (.d (.bool b))),e.boxes⟩ (log++[y]) (bif b then none else some ()) (a.put (some d) (.bool b)) W1:=by
  refine⟨Fr,g,⟨⟨_,cp,hv⟩,hS.bx,fun b p hw hb=>hS.ow b p hw (qJ b p hw),hS.st,fun b hf=>⟨(hS.fr b hf).1,Nat.lt_of_lt_of_le (hS.fr b hf).2 hB.size⟩⟩,Fc⟩
 cases b with
 |true=>exact h1 _ _ hH
 |false=>exact h2 _ _ hH
end
end Go.Proofs.YtaknajjmldngiaaGreat.Ab
set_option linter.unusedVariables false
set_option linter.unusedSimpArgs false
namespace Go.Proofs.YtaknajjmldngiaaGreat.Ab
open Go Go.RowKit
def gb:Code→List Code
 | .seq a b=>gb a++gb b
 |c=>[c]
def oO(F:Fence)(n:Nat)(P:Program):List Code→(Exit→Act→World→Prop)→Act→World→Prop
 |[],Q,a,w=>Q .normal a w
 |c::l,Q,a,w=>c.wpIn F n P (Exit.then (oO F n P l Q) Q) a w
section
variable{P:Program}{gl:Nat→Option D}{hh:Hints}{F:Fence}{n:Nat}
theorem Gl{Q:Exit→Act→World→Prop}:∀(l m:List Code)(a:Act)(w:World),oO F n P l (Exit.then (oO F n P m Q) Q) a w→oO F n P (l++m) Q a w
 |[],m,a,w,h=>h
 |c::l,m,a,w,h=>by
  refine wpIn_mono (h:c.wpIn F n P _ a w) fun x a' w' hx=>?_
  cases x with
  |normal=>exact Gl l m a' w' hx
  |_=>exact hx
theorem C0{Q:Exit→Act→World→Prop}:∀(c:Code)(a:Act)(w:World),oO F n P (gb c) Q a w→c.wpIn F n P Q a w
 | .seq x y,a,w,h=>by
   have h:oO F n P (gb x++gb y) Q a w:=h
   refine wpIn_seq (C0 x a w ?_)
   have key:∀(l m:List Code)(a:Act)(w:World),oO F n P (l++m) Q a w→oO F n P l (Exit.then (oO F n P m Q) Q) a w:=by
    intro l
    induction l with
    |nil=>intro m a w h;exact h
    |cons c l ih=>
     intro m a w h
     refine wpIn_mono (h:c.wpIn F n P _ a w) fun x a' w' hx=>?_
     cases x with
     |normal=>exact ih m a' w' hx
     |_=>exact hx
   have:=key _ _ a w h
   have mono:∀(l:List Code)(a:Act)(w:World)(R R':Exit→Act→World→Prop),(∀x a w,R x a w→R' x a w)→oO F n P l R a w→oO F n P l R' a w:=by
    intro l
    induction l with
    |nil=>intro a w R R' hr h;exact hr _ _ _ h
    |cons c l ih=>
     intro a w R R' hr h
     refine wpIn_mono (h:c.wpIn F n P _ a w) fun x a' w' hx=>?_
     cases x with
     |normal=>exact ih a' w' R R' hr hx
     |_=>exact hr _ _ _ hx
   refine mono _ a w _ _ (fun x a' w' hx=>?_) this
   cases x with
   |normal=>exact C0 y a' w' hx
   |_=>exact hx
 | .skip,a,w,h=>wpIn_mono (show Code.wpIn F n P _ _ a w from h) fun x a' w' hx=>by cases x<;>exact hx
 | .region ..,a,w,h=>wpIn_mono (show Code.wpIn F n P _ _ a w from h) fun x a' w' hx=>by cases x<;>exact hx
 | .cond ..,a,w,h=>wpIn_mono (show Code.wpIn F n P _ _ a w from h) fun x a' w' hx=>by cases x<;>exact hx
 | .block ..,a,w,h=>wpIn_mono (show Code.wpIn F n P _ _ a w from h) fun x a' w' hx=>by cases x<;>exact hx
 | .loop ..,a,w,h=>wpIn_mono (show Code.wpIn F n P _ _ a w from h) fun x a' w' hx=>by cases x<;>exact hx
 | .exit _,a,w,h=>wpIn_mono (show Code.wpIn F n P _ _ a w from h) fun x a' w' hx=>by cases x<;>exact hx
 | .ret,a,w,h=>wpIn_mono (show Code.wpIn F n P _ _ a w from h) fun x a' w' hx=>by cases x<;>exact hx
 | .goto _,a,w,h=>wpIn_mono (show Code.wpIn F n P _ _ a w from h) fun x a' w' hx=>by cases x<;>exact hx
 | .label _,a,w,h=>wpIn_mono (show Code.wpIn F n P _ _ a w from h) fun x a' w' hx=>by cases x<;>exact hx
 | .scope _,a,w,h=>wpIn_mono (show Code.wpIn F n P _ _ a w from h) fun x a' w' hx=>by cases x<;>exact hx
 | .rangeFunc ..,a,w,h=>wpIn_mono (show Code.wpIn F n P _ _ a w from h) fun x a' w' hx=>by cases x<;>exact hx
 | .refuse _,a,w,h=>wpIn_mono (show Code.wpIn F n P _ _ a w from h) fun x a' w' hx=>by cases x<;>exact hx
end
section
variable(P:Program)(gl:Nat→Option D)(C:aP)(h:Hints)
def qX:List Code→(Ex→Env→Prop)→Env→Prop
 |[],Q,e=>Q .normal e
 |c::l,Q,e=>aw P gl C h c (fun x e'=>match x with| .normal =>qX l Q e'| .exit i=>Q (.exit i) e'| .ret =>Q .ret e') e
def Bz(fn:Func)(K:SV→Prop)(x:Ex)(e:Env):Prop:=match x with| .normal =>finish P fn e K| .ret =>finish P fn e K| .exit _=>False
end
section
variable{P:Program}{gl:Nat→Option D}{hh:Hints}{n:Nat}
theorem Af(hm:P.follows .mixedOrders =true){ds:List Deferred}{r:Option Nat}:∀(l:List Code){w0:World}{ay:S0}{QA:Ex→Env→Prop}{e:Env}{a:Act}{w:World}{g:Gh}{Q:Exit→Act→World→Prop},
  Inv gl w0 ay e a w g→qX P gl (aF P gl) hh l QA e→(∀x e' a' w' g',Inv gl w0 ay e' a' w' g'→QA x e'→Q x.to (wd a' ds) w')→oO (FW r) n P l Q (wd a ds) w
 |[],_,_,_,_,_,_,_,_,hI,h,hQ=>hQ .normal _ _ _ _ hI h
 |c::l,w0,ay,QA,e,a,w,g,Q,hI,h,hQ=>by
  refine L6 hm c hI h fun x e' a' w' g' bJ hx=>?_
  cases x with
  |normal=>exact Af hm l bJ hx hQ
  |exit i=>exact hQ (.exit i) e' a' w' g' bJ hx
  |ret=>exact hQ .ret e' a' w' g' bJ hx
theorem C1{fn:Func}{args:List SV}{w:World}{St:Nat→Nat→Prop}{vs:Array Value}(mc:∀b o,St b o→b<w.heap.size)(nP:vk gl w St)(hlen:args.length=vs.size)
  (fp:∀(i:Nat)x v,args[i]? =some x→vs[i]? =some v→bd w St w.heap.size (fun _ _ _=>False) x v):
  Inv gl w (oN St) (enter fn.ntmps args) {tmps:=vs++Array.replicate (fn.ntmps-vs.size) undef,defers:=[]} w ⟨St,[],fun _=>none⟩:=by
 refine⟨Below.refl _ _,by simp[enter,hlen],fun i s hs=>?_,rfl,fun b bx ao h1=>by simp[enter]at h1,fun i j ao h1=>by simp at h1,fun _ _ h=>h,fun b o hb=>⟨.inl hb,by simp,mc b o hb⟩,fun b hb=>by simp at hb,nP,rfl,fun D o hD=>hD.elim,fun b o v hv=>hv.elim,Nat.zero_le _⟩
 simp only[enter]at hs
 rw[List.getElem?_append]at hs
 split at hs
 ·rename_i hi
  simp only[List.length_map]at hi
  simp only[List.getElem?_map,Option.map_eq_some_iff]at hs
  obtain⟨x,hx,rfl⟩:=hs
  have J8:i<vs.size:=by omega
  have:=fp i x vs[i] hx (by simp)
  have kJ:(vs++Array.replicate (fn.ntmps-vs.size) undef).getD i undef=vs[i]:=by
   simp[Array.getElem?_append,J8]
  rw[kJ]
  exact .v _ _ _ (this.mono (fun _ _ h=>⟨h,.refl _ _ _⟩) (fun _ _ _=>rfl) _ (fun _ _ _ h=>h.elim))
 ·have:=(List.mem_replicate.1 (List.mem_of_getElem? hs)).2
  subst this
  exact .v _ _ _ (.undef _ _)
theorem UA(hm:P.follows .mixedOrders =true){f:FuncId}{fn:Func}{c:Code}{args:List SV}{r:SV}(hf:P.funcs[f]? =some fn)(hb:fn.body=some c)(hE:gH P f){A B:List Code}{id:Nat}{xJ:Operand}{ps:Nat}{assign body:Code}
  (aa0:gb c=A++.block id (.rangeFunc xJ #[ps] assign body)::B){it:FuncId}{cap:List SV}{L:List D}(xt:Iter P gl it cap L)(b9:SV.mr cap=true)
  (hA:bq args (qX P gl (aF P gl) hh A (fun x e=>x=.normal ∧(Ab.bc gl e xJ).aa =.v (.dX (.func it) [] cap)∧∃(sh:List Slot) (I:Nat→List af→Prop) (X:Ex→List af→Prop),sh.length=e.an.length∧
    (∀(i:Nat)s,sh[i]? =some s→s=.v .undef ∨∃s0,e.an[i]? =some s0∧(s=s0∨s=s0.aa))∧sh.all (tx e.boxes.length)=true∧e.boxes.all (kc e.boxes.length)=true∧
    (∀(t:Nat)s,sh[t]? =some s→Bw s=true→t∉du hh.gh assign∧t∉du hh.gh body∧t≠ps)∧I 0 e.boxes∧
    (∀(k:Nat)d dq,I k dq→L[k]? =some d→dq.length=e.boxes.length→aw P gl (aF P gl) hh assign (fun x e1=>x=.normal ∧aw P gl (aF P gl) hh body (fun x e2=>(e2.boxes.take e.boxes.length).all (kc e.boxes.length)=true∧vC I X (k+1) x (e2.boxes.take e.boxes.length)) e1) ⟨cz sh (some ps) (.v (.d d)),dq⟩)∧
    (∀dq,I L.length dq→dq.length=e.boxes.length→qX P gl (aF P gl) hh B (Bz P fn (fun x=>x=r)) ⟨sh,dq⟩)∧
    (∀x dq,x≠.normal →X x dq→dq.length=e.boxes.length→x=.ret ∧finish P fn ⟨sh,dq⟩ (fun x=>x=r))) (enter fn.ntmps args))):aF P gl f args r:=by
 refine⟨hE,fun w St vs mc nP hlen fp=>(callsIn_wide (n:=0)).1 (callsIn_of_wp_marks hf hb trivial ?_)⟩
 have aW:SV.fS args:=by
  rw[SV.iA]
  intro x hx
  obtain⟨i,hi,rfl⟩:=List.mem_iff_getElem.1 hx
  exact(fp i _ (vs[i]'(by omega)) (by simp) (by simp)).wf
 have hI:=C1 (fn:=fn) mc nP hlen fp
 have hA:=hA aW
 refine C0 c _ w ?_
 rw[aa0]
 refine Gl _ _ _ _ ?_
 refine Af (r:=none) (n:=0) (ds:=[]) hm A hI hA ?_
 rintro x e a1 w1 g1 dz ⟨rfl,aeS,sh,I,X,jb,hs,wN,qu,gD,h0,AY,hB,hX⟩
 rw[nD dz.defers]
 have cD:=dz.drop (an:=e.an) (au:=e.boxes) jb hs
 have fin:∀(x:Ex)e' a' W' g' Dd,Inv gl w ((oN St).Ik Dd) e' a' W' g'→w.heap.size≤Dd→(x=.normal ∨x=.ret)→finish P fn e' (fun x=>x=r)→
   bodyPostM Fence.wide 0 P fn (fun e w'=>∃v,e=.returned v∧Below w.heap.size w w'∧∃cK ow,(∀b o,St b o→cK b o)∧(∀b o,cK b o→St b o∨(w.heap.size≤b∧b<w'.heap.size))∧rO w.heap.size w' cK ow r v) x.to (wd a' [{target:=.collected Dd,args:= #[]}]) W':=by
  intro x e' a' W' g' Dd bJ Cl hx tN
  have hD:=bJ.fe Dd _ (.inr ⟨rfl,rfl⟩)
  have jh:Inv gl w (oN St) e' a' W' g':=bJ.sI bJ.fT (fun b o h=>(bJ.cP b o h).1) (fun D o hD=>hD.elim) (fun b o v hv=>hv.elim) (Nat.zero_le _)
  have vU:=jh.other (o':=.deferred none) hD.2.2.1 (N2 _) (N2 _) Cl (fun D ob hD=>hD.elim)
  obtain⟨r',v,jg,bz,bt⟩:=Gi vU tN
  subst jg
  have aa1:LeavesInM Fence.wide 0 P fn a'.tmps (fun e w'=>∃v,e=.returned v∧Below w.heap.size w w'∧∃cK ow,(∀b o,St b o→cK b o)∧(∀b o,cK b o→St b o∨(w.heap.size≤b∧b<w'.heap.size))∧rO w.heap.size w' cK ow r' v) [{target:=.collected Dd,args:= #[]}] .returning W':=
   ⟨by simp,.inl ⟨Dd,_,rfl,run_takeDeferred hD.2.2.1,v,bz,v,rfl,vU.below,g'.St,_,vU.fT,fun b o h=>(vU.cP b o h).1.imp (fun h=>h) fun h1=>⟨h1,(vU.cP b o h).2.2⟩,bt⟩⟩
  rcases hx with rfl|rfl<;>exact aa1
 show(Code.block id (.rangeFunc xJ #[ps] assign body)).wpIn Fence.wide 0 P _ a1 w1
 refine wpIn_block (Ts (hh:=hh) hm cD wN qu (dz.pF aeS) b9 xt gD I X h0 AY ?_)
 intro x dq w' g' Dd mD iG bJ Cl _ _
 cases x with
 |normal=>
  have hb:=hB dq mD iG
  refine Af (r:=none) hm B bJ hb fun x e' a' W' g' PJ hx=>?_
  cases x with
  |normal=>exact fin .normal e' a' W' g' Dd PJ Cl (.inl rfl) hx
  |ret=>exact fin .ret e' a' W' g' Dd PJ Cl (.inr rfl) hx
  |exit i=>exact hx.elim
 |exit i=>exact absurd (hX (.exit i) dq (by simp) mD iG).1 (by simp)
 |ret=>
  obtain⟨_,tN⟩:=hX .ret dq (by simp) mD iG
  exact fin .ret _ _ _ _ Dd bJ Cl (.inr rfl) tN
theorem YD(hm:P.follows .mixedOrders =true){f:FuncId}{fn:Func}{c:Code}{cap:List SV}{L:List D}(hf:P.funcs[f]? =some fn)(hb:fn.body=some c)(hE:gH P f)(Bu:fn.results= #[])
  (hc:∀(C:qW P gl),C.L=L→SV.fS cap→IW C 0 c (fun x e log q=>(x=.normal ∨x=.ret)∧(q=none→log=L)) (enter fn.ntmps (.d (.fn (.yield C.l))::cap)) [] none):Iter P gl f cap L:=by
 refine⟨hE,fun w St l vs mc nP hlen fp J aa2 AY hJ0=>?_⟩
 let C:qW P gl:=⟨w.heap.size,St,l,L,J,mc,aa2,AY⟩
 have aa3:∀(i:Nat)x v,(SV.d (.fn (.yield l))::cap)[i]? =some x→(#[Value.func (.yield l) #[] #[]]++vs)[i]? =some v→bd w St w.heap.size (fun _ _ _=>False) x v:=by
  intro i x v hx hv
  cases i with
  |zero=>
   simp at hx hv
   subst hx
   simp[Array.getElem?_append]at hv
   subst hv
   exact .d _ _ _ (.fn _)
  |succ i=>
   rw[List.getElem?_cons_succ]at hx
   rw[Array.getElem?_append_right (by simp)]at hv
   simp only[List.size_toArray,List.length_cons,List.length_nil,Nat.zero_add,Nat.add_sub_cancel]at hv
   exact fp i x v hx hv
 have adF:(SV.d (.fn (.yield l))::cap).length =(#[Value.func (.yield l) #[] #[]]++vs).size :=by simp[hlen];omega
 have hI:=C1 (gl:=gl) (fn:=fn) mc nP adF aa3
 have aW:SV.fS cap:=by
  rw[SV.iA]
  intro x hx
  obtain⟨i,hi,rfl⟩:=List.mem_iff_getElem.1 hx
  exact(fp i _ (vs[i]'(by omega)) (by simp) (by simp)).wf
 have hH:C.pw (enter fn.ntmps (.d (.fn (.yield l))::cap)) [] none {tmps:=(#[Value.func (.yield l) #[] #[]]++vs)++Array.replicate (fn.ntmps-(#[Value.func (.yield l) #[] #[]]++vs).size) undef,defers:=[]} w:=
  ⟨fun _=>False,⟨St,[],fun _=>none⟩,⟨⟨w,rfl,hI⟩,fun b hm=>by simp at hm,fun b p ho=>by simp at ho,fun b o hs=>.inr hs,fun b h=>h.elim⟩,hJ0⟩
 have hw:=hc C rfl aW _ _ hH
 refine(callsIn_wide (n:=0)).1 (callsIn_of_wp hf hb trivial (wpIn_mono hw ?_))
 rintro x a' W' ⟨xx,e',log,q,rfl,⟨Fr,g',hS,hJ⟩,hx,hq⟩
 obtain⟨w0,h0,bJ⟩:=hS.inv
 have bz:(results fn a'.tmps).run P W'=.ok (.tuple #[]) W':=by
  have:=CJ (P:=P) (fn:=fn) (tmps:=a'.tmps) (w:=W') (vs:=[]) (by rw[Bu];simp)
  exact this
 have tN:a'.defers=[]∧∃v,(results fn a'.tmps).run P W'=.ok v W'∧((∃v',Ending.returned v=.returned v')∧∃Fr cZ pre q,J q Fr cZ pre W'∧(q=none→pre=L)):=
  ⟨bJ.defers,_,bz,⟨_,rfl⟩,Fr,g'.St,log,q,hJ,hq⟩
 rcases hx with rfl|rfl<;>exact tN
end
end Go.Proofs.YtaknajjmldngiaaGreat.Ab
set_option linter.unusedVariables false
set_option linter.unusedSimpArgs false
namespace Go.Proofs.YtaknajjmldngiaaGreat.Ab
open Go Go.RowKit
section
variable{P:Program}{gl:Nat→Option D}{hh:Hints}
theorem UB(hm:P.follows .mixedOrders =true){f:FuncId}{fn:Func}{c:Code}{args:List SV}{r:SV}(hf:P.funcs[f]? =some fn)(hb:fn.body=some c)(hE:gH P f){QA:Ex→Env→Prop}
  (h:bq args (aw P gl (aF P gl) hh c (fun x e=>(x=.normal ∨x=.ret)∧QA x e) (enter fn.ntmps args)))
  (fin:∀(w:World)(St:Nat→Nat→Prop)x e' a' w' g',Inv gl w (oN St) e' a' w' g'→QA x e'→∃v,(results fn a'.tmps).run P w'=.ok v w'∧∃cK ow,(∀b o,St b o→cK b o)∧(∀b o,cK b o→St b o∨(w.heap.size≤b∧b<w'.heap.size))∧rO w.heap.size w' cK ow r v):aF P gl f args r:=by
 refine⟨hE,fun w St vs mc nP hlen fp=>?_⟩
 have aW:SV.fS args:=by
  rw[SV.iA]
  intro x hx
  obtain⟨i,hi,rfl⟩:=List.mem_iff_getElem.1 hx
  exact(fp i _ (vs[i]'(by omega)) (by simp) (by simp)).wf
 have hI:=C1 (fn:=fn) mc nP hlen fp
 refine calls_of_wp hf hb (rC hm c hI (h aW) fun x e' a' w' g' bJ hk=>?_)
 obtain⟨hx,hk⟩:=hk
 obtain⟨v,bz,cK,ow,h1,h2,h3⟩:=fin w St x e' a' w' g' bJ hk
 have:a'.defers=[]∧∃v,(results fn a'.tmps).run P w'=.ok v w'∧(∃v',(Ending.returned v)=.returned v'∧Below w.heap.size w w'∧∃cK ow,(∀b o,St b o→cK b o)∧
  (∀b o,cK b o→St b o∨(w.heap.size≤b∧b<w'.heap.size))∧rO w.heap.size w' cK ow r v'):=⟨bJ.defers,v,bz,v,rfl,bJ.below,cK,ow,h1,h2,h3⟩
 rcases hx with rfl|rfl<;>exact this
theorem Wb(hm:P.follows .mixedOrders =true){f:FuncId}{fn:Func}{c:Code}{args:List SV}(hf:P.funcs[f]? =some fn)(hb:fn.body=some c)(hE:gH P f){t b it:Nat}{x:D}(gi:x.one=true)(Bu:fn.results= #[.tmp t])
  (h:bq args (aw P gl (aF P gl) hh c (fun ex e=>(ex=.normal ∨ex=.ret)∧(e.an[t]? =some (.c (.func it) [] [.p b 0])∧e.boxes[b]? =some (.cells [.d x]))) (enter fn.ntmps args))):aF P gl f args (.dX (.func it) [] [.aA x 0]):=by
 refine UB hm hf hb hE h fun w St ex e' a' w' g' hI⟨hs,dQ⟩=>?_
 have hr:=hI.an t _ hs
 have bz:(results fn a'.tmps).run P w'=.ok (a'.tmps.getD t undef) w':=by
  have:=CJ (P:=P) (fn:=fn) (tmps:=a'.tmps) (w:=w') (vs:=[a'.tmps.getD t undef]) (by rw[Bu];simp[wg])
  exact this
 refine⟨_,bz,?_⟩
 generalize a'.tmps.getD t undef=v at hr
 cases hr with
 |c _ _ _ _ fv cv zI dw rf rc=>
  have xq:fv= #[]:=Array.eq_empty_of_size_eq_zero (by simpa using zI.symm)
  subst xq
  have mb:cv[0]? =some (cv[0]'(by simp at dw;omega)):=by simp
  have hp:=rc 0 _ _ rfl mb
  generalize cv[0]'(by simp at dw;omega)=u at hp mb
  cases hp with
  |p _ _ _ ao c7=>
   obtain⟨q0,cs,ty,q1,q2,q3,q4⟩:=hI.boxes b _ ao dQ c7
   have qI:cs[0]? =some (cs[0]'(by simp at q3;omega)):=by simp
   have bt:=(q4 0 _ _ rfl qI).data
   generalize cs[0]'(by simp at q3;omega)=y at qI bt
   have ct:(x.cells)=[x]:=D.Gt gi
   refine⟨fun b' o=>g'.St b' o∨(b'=ao∧o=0),fun _=>none,fun b' o h=>.inl (hI.fT b' o h),fun b' o h=>?_,?_⟩
   ·rcases h with h|⟨rfl,_⟩
    ·have:=hI.cP b' o h
     exact this.1.imp (fun h=>h) fun h1=>⟨h1,this.2.2⟩
    ·exact .inr (hI.eb b' (List.mem_of_getElem? c7))
   ·show bd w' _ 0 _ (.dX (.func it) [] [.aA x 0]) _
    refine .dX _ _ _ _ #[] cv rfl (by simpa using dw) (fun i x v h=>by simp at h) (fun i z v' hz gS=>?_)
    cases i with
    |succ i=>simp at hz
    |zero=>
     simp at hz;subst hz
     rw[mb]at gS;cases gS
     refine .aA _ x 0 ao 0 (fun _=>y) (fun c hc=>by rw[ct]at hc;rw[List.mem_singleton.1 hc];exact gi) (fun i hi=>?_) (fun i c hc=>?_)
     ·rw[ct]at hi
      have:i=0:=by simp at hi;omega
      subst this
      refine⟨?_,.inr ⟨rfl,rfl⟩⟩
      rw[cell_of_row w' ao (0+0) cs ty (0,0) q1];exact qI
     ·rw[ct]at hc
      cases i with
      |succ i=>simp at hc
      |zero=>simp at hc;subst hc;exact bt.mono fun b' o h=>⟨.inl h,rfl⟩
end
end Go.Proofs.YtaknajjmldngiaaGreat.Ab
set_option linter.unusedVariables false
set_option linter.unusedSimpArgs false
namespace Go.Proofs.YtaknajjmldngiaaGreat.Ab
open Go Go.RowKit
def vr:List Slot→List Slot→Prop
 |[],[]=>True
 |s::l,t::m=>(s=.v .undef ∨∃x,t=.v x∧s=.v (aa x))∧vr l m
 |_,_=>False
theorem ML:∀{l m:List Slot},vr l m→l.length=m.length
 |[],[],_=>rfl
 |s::l,t::m,h=>by simp[ML h.2]
 |[],_::_,h=>h.elim
 |_::_,[],h=>h.elim
theorem MM:∀{l m:List Slot},vr l m→∀(i:Nat)s,l[i]? =some s→s=.v .undef ∨∃x,m[i]? =some (.v x)∧s=.v (aa x)
 |[],[],_,i,s,h=>by simp at h
 |s::l,t::m,h,0,s',h'=>by
  simp at h';subst h'
  rcases h.1 with h1|⟨x,rfl,h1⟩
  ·exact .inl h1
  ·exact .inr ⟨x,rfl,h1⟩
 |s::l,t::m,h,i+1,s',h'=>by simpa using MM h.2 i s' (by simpa using h')
 |[],_::_,h,_,_,_=>h.elim
 |_::_,[],h,_,_,_=>h.elim
section
variable{P:Program}{gl:Nat→Option D}{n:Nat}{e:Env}{C:qW P gl}{log:List D}{q:Option Unit}
theorem IW.ze{c:Code}{Q:Ex→Env→List D→Option Unit→Prop}{sh:List Slot}(hw:vr sh e.an)(h:IW C n c Q ⟨sh,[]⟩ log q):IW C n c Q e log q:=fun a W hH=>by
 refine h a W ?_
 obtain⟨Fr,g,hS,hJ⟩:=hH
 obtain⟨w0,h0,hI⟩:=hS.inv
 refine⟨Fr,g.cut 0,⟨⟨w0,h0,?_⟩,fun b hm=>by simp[Gh.cut]at hm,hS.ow,hS.st,hS.fr⟩,hJ⟩
 refine⟨hI.below,by rw[hI.size,ML hw],fun i s hi=>?_,by simp[Gh.cut],fun b bx ao h1=>by simp at h1,fun i j ao h1=>by simp[Gh.cut]at h1,hI.fT,fun b o hs=>⟨(hI.cP b o hs).1,by simp[Gh.cut],(hI.cP b o hs).2.2⟩,fun b hm=>by simp[Gh.cut]at hm,hI.jK,hI.defers,fun D o hD=>hD.elim,fun b o v hv=>hv.elim,hI.jv⟩
 rcases MM hw i s hi with rfl|⟨x,he,rfl⟩
 ·exact .v _ _ _ (.undef _ _)
 ·exact .v _ _ _ (hI.an i _ he).ka.aa
end
end Go.Proofs.YtaknajjmldngiaaGreat.Ab
set_option linter.unusedVariables false
set_option linter.unusedSimpArgs false
namespace Go.Proofs.YtaknajjmldngiaaGreat.Ab
open Go Go.RowKit
section
variable{P:Program}{gl:Nat→Option D}{w0:World}{ay:S0}{e:Env}{a:Act}{w:World}{g:Gh}
theorem Inv.act(hI:Inv gl w0 ay e a w g){a':Act}(hs:a'.tmps.size=a.tmps.size)(hd:a'.defers=[])(h:∀(t:Nat)s,e.an[t]? =some s→s≠.v .undef →a'.tmps.getD t undef=a.tmps.getD t undef):Inv gl w0 ay e a' w g:=by
 refine⟨hI.below,by rw[hs,hI.size],fun i s hi=>?_,hI.fo,hI.boxes,hI.nodup,hI.fT,hI.cP,hI.eb,hI.jK,hd,hI.fe,hI.cls,hI.jv⟩
 by_cases hu:s=.v .undef
 ·subst hu;exact .v _ _ _ (.undef _ _)
 ·rw[h i s hi hu];exact hI.an i s hi
theorem Inv.PK(hI:Inv gl w0 ay e a w g){b j sz ao:Nat}{cs:List SV}{L:List D}(hb:e.boxes[b]? =some (.cells cs))(c7:g.bx[b]? =some (some ao))(hj:cs[j]? =some (.cA sz L)):
  ∃g',g'.bx=g.bx∧(∀b o,g.St b o→g'.St b o)∧Inv gl w0 ay ⟨e.an,e.boxes.set b (.cells (cs.set j (.d (.sl .ro sz L))))⟩ a w g':=by
 obtain⟨h0,c,ty,hc,ct,hlen,bt⟩:=hI.boxes b _ ao hb c7
 have jS:=(List.getElem?_eq_some_iff.1 hj).1
 have vV:c[j]? =some (c[j]'(by omega)):=by simp
 have hv:=bt j _ _ hj vV
 generalize ew:c[j]'(by omega)=v at hv vV
 cases hv with
 |cA _ _ _ gg cap vs b9 hm aQ hf ho bF dJ=>
  obtain⟨o1,o2,o3,⟨cur,te,o4,qN⟩,o5⟩:=ho
  let g':Gh:={g with St:=fun b o=>g.St b o∨(b=gg∧o<L.length*sz)}
  have hX:Ext w0.heap.size w g w g' (fun p=>p=.b b j):=by
   refine⟨fun D ob hb dH h=>⟨h,hb,dH,fun x hx=>hx.elim id fun e=>(by rw[e.1]at dH;rw[o1]at dH;cases dH)⟩,fun _ _ h=>⟨.inl h,.refl _ _ _⟩,fun _ _ _=>rfl,fun _ _ h=>h,fun p b a' c hp cC=>⟨?_,.refl _ _ _⟩,.refl _⟩
   obtain⟨p1,p2,p3,p4,p5⟩:=cC
   refine⟨p1,p2,p3,p4,fun o ho=>?_⟩
   rintro(h|⟨rfl,_⟩)
   ·exact p5 o ho h
   ·rw[o1]at p1;cases p1;exact hp rfl
  refine⟨g',rfl,fun b o h=>.inl h,?_⟩
  have:=hI.stepG (dst:=none) (s:=.t []) (v:=undef) (an:=e.an) (au:=e.boxes.set b (.cells (cs.set j (.d (.sl .ro sz L))))) hX (Below.refl _ _) rfl (fun i x hx _=>hX.slot (fun j=>by intro h;cases h) (hI.an i x hx)) (fun d hd=>by cases hd) (by simpa using hI.fo)
   (fun b' bx iB h1 h2=>?_) hI.nodup hI.eb (fun b' o h=>?_)
  ·exact this
  ·rw[List.getElem?_set]at h1
   split at h1
   ·rename_i eJ
    subst eJ
    split at h1
    ·cases h1
     have pO:g.bx[b]? =some (some iB):=h2
     rw[c7]at pO;cases pO
     refine⟨h0,c,ty,hc,fun j' y kh hy=>ct j' y (by simpa[af.size]using kh) hy,by simpa using hlen,fun j' x y hx hy=>?_⟩
     rw[List.getElem?_set]at hx
     split at hx
     ·rename_i xK
      subst xK
      cases hx
      rw[vV]at hy;cases hy
      refine .d _ _ _ (.sl sz L gg 0 cap vs b9 (Nat.le_trans b9 hm) aQ hf (fun o ho=>⟨by rw[Nat.zero_add];exact bF o ho,.inr ⟨rfl,by omega⟩⟩) (fun i x j c h1 h2=>(dJ i x j c h1 h2).mono fun b o h=>⟨.inl h,rfl⟩))
     ·rename_i xK
      exact(bt j' x y hx hy).mono (fun b o h=>hX.st b o h) (fun b o h=>hX.bs b o h) _ (fun gg' a' c' h=>hX.own _ _ _ _ (fun he=>xK (by cases he;rfl)) h)
    ·cases h1
   ·rename_i eJ
    exact hX.box (fun j' he=>eJ (by cases he;rfl)) rfl (hI.boxes b' bx iB h1 h2)
  ·rcases h with h|⟨rfl,_⟩
   ·exact hI.cP b' o h
   ·exact⟨.inr o2,o3,(Array.getElem?_eq_some_iff.1 o4).1⟩
def D.EB:D→Bool
 | .bool _=>true
 | .int _ _=>true
 | .str _=>true
 |_=>false
theorem bj.EB{St cK:Nat→Nat→Prop}{w':World}{x:D}{v:Value}(r:bj w St x v)(h:x.EB=true):bj w' cK x v:=by
 cases r with
 |bool b=>exact .bool b
 |int k n hk=>exact .int k n hk
 |str s hs=>exact .str s hs
 |_=>cases h
theorem Inv.aeT(hB:Inv gl w0 ay e a w g){b t ao:Nat}{cs:List SV}{ds:List D}(ht:e.an[t]? =some (.p b 0))(hb:e.boxes[b]? =some (.cells cs))(c7:g.bx[b]? =some (some ao))(jx:eP cs=some ds):
  Inv gl w (oN fun b' o=>g.St b' o∨b'=ao) ⟨(List.replicate e.an.length (.v .undef)).set t (.v (.aA (.agg ds) 0)),[]⟩ a w ⟨fun b' o=>g.St b' o∨b'=ao,[],fun _=>none⟩:=by
 obtain⟨h0,c,ty,hc,ct,hlen,bt⟩:=hB.boxes b _ ao hb c7
 obtain⟨E9,aeU⟩:=Gs jx
 have Q8:∀(i:Nat)d y,ds[i]? =some d→c[i]? =some y→bj w g.St d y:=fun i d y hd hy=>by
  have hi:i<cs.length:=by rw[←E9];exact(List.getElem?_eq_some_iff.1 hd).1
  have uj:cs[i]? =some cs[i]:=by simp[hi]
  exact(bt i _ y uj hy).cS (aeU i _ d uj hd)
 refine⟨Below.refl _ _,by simp[hB.size],fun i s hs=>?_,rfl,fun b bx ao h1=>by simp at h1,fun i j ao h1=>by simp at h1,fun _ _ h=>h,fun b' o h=>⟨.inl h,by simp,?_⟩,fun b hb=>by simp at hb,fun n x hx=>?_,hB.defers,fun D o hD=>hD.elim,fun b o v hv=>hv.elim,Nat.zero_le _⟩
 ·simp only at hs
  rw[List.getElem?_set]at hs
  split at hs
  ·rename_i lC
   subst lC
   split at hs
   ·cases hs
    obtain⟨iB,hv,Eg⟩:=(hB.an t _ ht).jJ
    rw[c7]at Eg;cases Eg
    rw[hv]
    refine .v _ _ _ (.aA _ (.agg ds) 0 ao 0 (fun i=>c.getD i undef) (fun d hd=>?_) (fun i hi=>?_) (fun i d hd=>?_))
    ·obtain⟨i,hi,rfl⟩:=List.mem_iff_getElem.1 hd
     have eF:i<ds.length:=hi
     have uj:c[i]? =some (c[i]'(by omega)):=by simp
     exact(Q8 i _ _ (by simp[D.cells]) uj).Tm (ct i _ (by simp only[af.size];omega) uj)
    ·have eF:i<ds.length:=hi
     rw[cell_of_row w ao (0+i) c ty (0,0) hc]
     have:i<c.size:=by omega
     exact⟨by simp[this],.inr rfl⟩
    ·have eF:i<ds.length:=(List.getElem?_eq_some_iff.1 hd).1
     have:i<c.size:=by omega
     have:=Q8 i d (c.getD i undef) hd (by simp[this])
     exact this.mono fun b o h=>⟨.inl h,rfl⟩
   ·cases hs
  ·have:=(List.mem_replicate.1 (List.mem_of_getElem? hs)).2
   subst this
   exact .v _ _ _ (.undef _ _)
 ·rcases h with h|rfl
  ·exact hB.nH h
  ·exact(hB.eb _ (List.mem_of_getElem? c7)).2
 ·obtain⟨g0,vs,g1,g2⟩:=hB.jK n x hx
  exact⟨g0,vs,fun i hi=>⟨(g1 i hi).1,.inl (g1 i hi).2⟩,fun i c hc=>(g2 i c hc).mono fun b o h=>⟨.inl h,rfl⟩⟩
theorem Vo(hm:P.follows .mixedOrders =true){hh:Hints}{n:Nat}{c:Code}(hI:Inv gl w0 ay e a w g){gB:Gh}{eB:Env}(hB:Inv gl w0 ay eB a w gB)(dQ:gB.bx=g.bx){b t ao:Nat}{cs:List SV}{ds:List D}(hlen:eB.an.length=e.an.length)
  (ht:eB.an[t]? =some (.p b 0))(hb:eB.boxes[b]? =some (.cells cs))(c7:gB.bx[b]? =some (some ao))(jx:eP cs=some ds){d sz:Nat}{M:List D}(adG:∀x∈M,∀k∈x.cells,k.EB=true)(hd:d<e.an.length)
  (hw:∀t∈du hh.gh c,t≠d→∀s,e.an[t]? =some s→s=.v .undef)
  (h:aw P gl (aF P gl) hh c (fun x e'=>x=.normal ∧e'.an[d]? =some (.v (.own sz M))) ⟨(List.replicate eB.an.length (.v .undef)).set t (.v (.aA (.agg ds) 0)),[]⟩)
  {Q:Exit→Act→World→Prop}(hQ:∀a' w' g',Inv gl w0 ay ⟨e.an.set d (.v (.own sz M)),e.boxes⟩ a' w' g'→Q .normal a' w'):c.wpIn Fence.wide n P Q a w:=by
 have hE:=hB.aeT ht hb c7 jx
 have:=oW (r:=none) (n:=n) (ds:=[]) hm c hE (p8 c h) (Q:=Q) (fun x e' a' w' g' bJ⟨⟨hx,hs⟩,qT⟩g8=>by
  subst hx
  rw[nD bJ.defers]
  have hv:=(bJ.an d _ hs).ka
  generalize ew:a'.tmps.getD d undef=v at hv
  cases hv with
  |own _ _ _ gg cap eX b9 ho=>
   obtain⟨o1,o2,o3,⟨cur,te,o4,qN⟩,o5⟩:=ho
   have aV:gg<w'.heap.size:=(Array.getElem?_eq_some_iff.1 o4).1
   let cK:Nat→Nat→Prop:=fun b o=>g.St b o∨(b=gg∧g'.St b o)
   have iC:bd w' cK 0 (tF w.heap.size w' cK (fun b=>if b=gg then some 0 else none) 0) (.own sz M) (.slice (some ⟨gg,0,none⟩) M.length cap):=by
    refine .own _ sz M gg cap ?_ b9 ⟨by simp,o2,⟨cur,te,o4,qN⟩,fun o ho=>?_⟩
    ·cases eX with
     |sl _ _ _ _ _ vs O7 qR aQ hf bF hc=>
      exact .sl sz M gg 0 cap vs O7 qR aQ hf (fun o ho=>⟨(bF o ho).1,.inr ⟨rfl,(bF o ho).2⟩⟩) (fun i x j k h1 h2=>(hc i x j k h1 h2).EB (adG x (List.mem_of_getElem? h1) k (List.mem_of_getElem? h2)))
     |jN _ _ _ ha=>exact absurd rfl ha
    ·rintro(h|⟨_,h⟩)
     ·have:=hI.nH h;omega
     ·exact o5 o ho h
   obtain⟨g2,hg2⟩:=hI.called (w':=w') (cK:=cK) (ow:=fun b=>if b=gg then some 0 else none) bJ.below (fun b o h=>.inl h) (fun b o h=>by
    rcases h with h|⟨rfl,_⟩
    ·exact .inl h
    ·exact .inr ⟨o2,aV⟩) (some d) (s:=.v (.own sz M)) (v:=.slice (some ⟨gg,0,none⟩) M.length cap) (fun g2 jw hO d' jP=>by
    cases jP
    refine .v _ _ _ ?_
    have:=(iC.Ap (Nat.zero_le w0.heap.size))
    rw[←jw]at this
    exact this.mono (fun _ _ h=>⟨h,.refl _ _ _⟩) (fun _ _ _=>rfl) _ (fun b a c h=>⟨hO _ rfl 0 b a c (by rw[jw]at h;exact h),.refl _ _ _⟩))
   have aQ:a'.tmps.size=a.tmps.size:=by
    have h1:=bJ.size
    have h2:=hE.size
    have h3:=qT.1
    omega
   refine hQ a' w' g2 (hg2.act (by rw[u4];exact aQ) bJ.defers fun t' s' gT ck=>?_)
   have xE:t'<a.tmps.size:=by rw[hI.size];have:=(List.getElem?_eq_some_iff.1 gT).1;simpa[Cz]using this
   rw[u3 a (some d) _ t' xE]
   by_cases Fe:d=t'
   ·subst Fe
    rw[if_pos rfl,ew]
   ·rw[if_neg (by simpa using Fe)]
    have xB:e.an[t']? =some s':=by
     simp only[cz]at gT
     rw[List.getElem?_set_ne Fe]at gT
     exact gT
    by_cases eD:t'∈du hh.gh c
    ·exact absurd (hw t' eD (fun h=>Fe h.symm) s' xB) ck
    ·exact g8 t' eD)
 rw[nD hE.defers]at this
 exact this
end
end Go.Proofs.YtaknajjmldngiaaGreat.Ab
set_option linter.unusedVariables false
set_option linter.unusedSimpArgs false
namespace Go.Proofs.YtaknajjmldngiaaGreat.Ab
open Go Go.RowKit
section
variable{P:Program}{gl:Nat→Option D}{w0:World}{ay:S0}{e:Env}{a:Act}{w:World}{g:Gh}
theorem Inv.YE(hI:Inv gl w0 ay e a w g){b ao j sz i f2:Nat}{cs:List SV}{L:List D}{x x' d:D}{v:Value}(hb:e.boxes[b]? =some (.cells cs))(c7:g.bx[b]? =some (some ao))(hj:cs[j]? =some (.cA sz L))(hx:L[i]? =some x)
  (hv:∀w St,bj w St d v)(Kl:d.one=true)(dE:x'.cells=x.cells.set f2 d)(uc:f2<sz):
  ∃gg cap cur te c ty,w0.heap.size≤ao∧w.heap[ao]? =some (.cells c ty (0,0))∧cs.length≤c.size∧c[j]? =some (.slice (some ⟨gg,0,none⟩) L.length cap)∧L.length≤cap∧w.heap[gg]? =some (.cells cur te (0,0))∧cur.size=cap*sz∧
   Inv gl w0 ay ⟨e.an,e.boxes.set b (.cells (cs.set j (.cA sz (L.set i x'))))⟩ a (w.setRow gg (cur.toList.take (i*sz+f2)++[v]++cur.toList.drop (i*sz+f2+1)).toArray) g:=by
 obtain⟨h0,c,ty,hc,ct,hlen,bt⟩:=hI.boxes b _ ao hb c7
 have jS:=(List.getElem?_eq_some_iff.1 hj).1
 have vV:c[j]? =some (c[j]'(by omega)):=by simp
 have Q9:=bt j _ _ hj vV
 generalize ew:c[j]'(by omega)=vv at Q9 vV
 cases Q9 with
 |cA _ _ _ gg cap vs b9 hm aQ hf ho bF dJ=>
  obtain⟨o1,o2,o3,⟨cur,te,o4,qN⟩,o5⟩:=ho
  have kj:i<L.length:=(List.getElem?_eq_some_iff.1 hx).1
  have tG:i*sz+f2<L.length*sz:=by
   have:(i+1)*sz≤L.length*sz:=Nat.mul_le_mul_right _ kj
   rw[Nat.succ_mul]at this;omega
  have hLc:L.length*sz≤cap*sz:=Nat.mul_le_mul_right _ b9
  generalize IQ:(cur.toList.take (i*sz+f2)++[v]++cur.toList.drop (i*sz+f2+1)).toArray =mC
  have kJ:∀o,o<cur.size→mC[o]? =if o=i*sz+f2 then some v else cur[o]? :=by
   intro o ho
   rw[←IQ,List.getElem?_toArray,List.append_assoc,List.getElem?_append]
   have h1:(cur.toList.take (i*sz+f2)).length =i*sz+f2:=by simp;omega
   rw[h1]
   by_cases aV:o<i*sz+f2
   ·rw[if_pos aV,if_neg (by omega),List.getElem?_take,if_pos aV];simp
   ·rw[if_neg aV]
    by_cases heq:o=i*sz+f2
    ·subst heq;simp
    ·rw[if_neg heq,List.getElem?_append_right (by simp;omega),List.getElem?_drop]
     simp only[List.length_singleton]
     rw[show i*sz+f2+1+(o-(i*sz+f2)-1)=o by omega];simp
  have A5:mC.size=cur.size:=by
   rw[←IQ];simp;omega
  have iC:=setRow_heap w gg cur mC te (0,0) o4
  have ee:=fun k(hk:k≠gg)=>setRow_other w gg k mC hk
  have agJ:gg≠ao:=fun h=>o3 (by rw[h];exact List.mem_of_getElem? c7)
  have Ph:∀b' o,g.St b' o→b'≠gg:=fun b' o h he=>o5 o (Nat.zero_le _) (he▸h)
  have hX:Ext w0.heap.size w g (w.setRow gg mC) g (fun p=>p=.b b j):=by
   refine⟨fun D ob sD dH h=>⟨(ee D (fun he=>by subst he;rw[o1]at dH;cases dH)).trans h,sD,dH,fun _ h=>h⟩,fun b' o h=>⟨h,.rA (ee b' (Ph b' o h))⟩,fun b' o h=>World.cell?_of_block (ee b' (by omega)),fun _ _ h=>h,fun p b' a' c' hp cC=>?_,fun b' c' tT eK=>?_⟩
   ·obtain⟨p1,p2,p3,⟨cu,t',p4,p4'⟩,p5⟩:=cC
    have ck:b'≠gg:=fun he=>by subst he;rw[o1]at p1;cases p1;exact hp rfl
    exact⟨⟨p1,p2,p3,⟨cu,t',(ee b' ck).trans p4,p4'⟩,p5⟩,fun _=>ee b' ck⟩
   ·by_cases eJ:b'=gg
    ·subst eJ
     rw[o4]at eK;cases eK
     exact⟨mC,te,iC,A5⟩
    ·exact⟨c',tT,(ee b' eJ).trans eK,rfl⟩
  refine⟨gg,cap,cur,te,c,ty,h0,hc,hlen,vV,b9,o4,qN,?_⟩
  rw[IQ]
  have:=hI.stepG (dst:=none) (s:=.t []) (v:=undef) (an:=e.an) (au:=e.boxes.set b (.cells (cs.set j (.cA sz (L.set i x'))))) hX ⟨rfl,rfl,rfl,by simp[World.setRow],fun k hk=>ee k (by omega)⟩ rfl (fun i x hx _=>hX.slot (fun j=>by intro h;cases h) (hI.an i x hx)) (fun d hd=>by cases hd) (by simpa using hI.fo)
   (fun b' bx iB h1 h2=>?_) hI.nodup (fun b' qR=>by have:=hI.eb b' qR;exact⟨this.1,by simpa[World.setRow]using this.2⟩) (fun b' o h=>by have:=hI.cP b' o h;exact⟨this.1,this.2.1,by simpa[World.setRow]using this.2.2⟩)
  ·exact this
  ·have ck:iB≠gg:=fun he=>o3 (by rw[←he];exact List.mem_of_getElem? h2)
   rw[List.getElem?_set]at h1
   split at h1
   ·rename_i eJ
    subst eJ
    split at h1
    ·cases h1
     rw[c7]at h2;cases h2
     refine⟨h0,c,ty,(ee ao ck).trans hc,fun j' y kh hy=>ct j' y (by simpa[af.size]using kh) hy,by simpa using hlen,fun j' x1 y gi hy=>?_⟩
     rw[List.getElem?_set]at gi
     split at gi
     ·rename_i xK
      subst xK
      cases gi
      rw[vV]at hy;cases hy
      have dw:x'.cells.length=sz:=by rw[dE,List.length_set];exact aQ x (List.mem_of_getElem? hx)
      have Ra:bd (w.setRow gg mC) g.St w0.heap.size (po w0.heap.size (w.setRow gg mC) g b j) (.cA sz (L.set i x')) (.slice (some ⟨gg,0,none⟩) (L.set i x').length cap):=by
       refine .cA _ sz _ gg cap (fun o=>if o=i*sz+f2 then v else vs o) (by simpa using b9) hm (fun y hy=>?_) (fun y hy k hk=>?_) ⟨o1,o2,o3,⟨mC,te,iC,by rw[A5];exact qN⟩,o5⟩ (fun o ho=>?_) (fun i2 y j2 k hy hk=>?_)
       ·rcases List.mem_or_eq_of_mem_set hy with hy|rfl
        ·exact aQ y hy
        ·exact dw
       ·rcases List.mem_or_eq_of_mem_set hy with hy|rfl
        ·exact hf y hy k hk
        ·rw[dE]at hk
         rcases List.mem_or_eq_of_mem_set hk with hk|rfl
         ·exact hf x (List.mem_of_getElem? hx) k hk
         ·exact Kl
       ·rw[List.length_set]at ho
        rw[cell_of_row _ gg o mC te (0,0) iC,kJ o (by omega)]
        by_cases heq:o=i*sz+f2
        ·simp[heq]
        ·simp only[if_neg heq]
         have:=bF o ho
         rw[cell_of_row w gg o cur te (0,0) o4]at this
         exact this
       ·have mono:∀{D:D}{u:Value},bj w g.St D u→bj (w.setRow gg mC) g.St D u:=fun h=>h.mono fun b' o hs=>⟨hs,World.cell?_of_block (ee b' (Ph b' o hs))⟩
        rw[List.getElem?_set]at hy
        split at hy
        ·rename_i ue
         subst ue
         cases hy
         rw[dE,List.getElem?_set]at hk
         split at hk
         ·rename_i Rb
          subst Rb
          split at hk
          ·cases hk
           rw[if_pos rfl]
           exact hv _ _
          ·cases hk
         ·rename_i Rb
          rw[if_neg (by omega)]
          exact mono (dJ i x j2 k hx hk)
        ·rename_i ue
         have pL:j2<sz:=by
          have h1:=(List.getElem?_eq_some_iff.1 hk).1
          rw[aQ y (List.mem_of_getElem? hy)]at h1;exact h1
         rw[if_neg (fun he=>?_)]
         ·exact mono (dJ i2 y j2 k hy hk)
         ·have h1:(i2*sz+j2) / sz=i2:=by rw[Nat.mul_comm,Nat.mul_add_div (by omega),Nat.div_eq_of_lt pL];omega
          have h2:(i*sz+f2) / sz=i:=by rw[Nat.mul_comm,Nat.mul_add_div (by omega),Nat.div_eq_of_lt uc];omega
          rw[he,h2]at h1
          exact ue h1
      rw[List.length_set]at Ra
      exact Ra
     ·rename_i xK
      exact(bt j' x1 y gi hy).mono (fun b o h=>hX.st b o h) (fun b o h=>hX.bs b o h) _ (fun gg' a' c' h=>hX.own _ _ _ _ (fun he=>xK (by cases he;rfl)) h)
    ·cases h1
   ·rename_i eJ
    exact hX.box (fun j' he=>eJ (by cases he;rfl)) (ee iB ck) (hI.boxes b' bx iB h1 h2)
variable{ops:Array Oper}{n:Nat}
theorem Di{i:Nat}{o:Oper}(ho:ops[i]? =some o)(hg:o.guard=none)(lY:∀c,o.op≠.defer c){v:Value}(gj:a.defers=[])(bz:(execOp a.eval o).run P w=.ok (.value v) w){next:Act→World→Prop}{Q:Exit→Act→World→Prop}(h:next (a.put o.dst v) w):wpOpIn Fence.wide n P ops Q i next a w:=by
 unfold wpOpIn
 simp only[ho]
 rw[if_pos (by simp[Region.wanted,hg])]
 have:=Hk (r:=none) (n:=n) (ds:=[]) (P:=P) (o:=o) (a:=a) (w:=w) (next:=next) (Q:=Q) lY (by
  unfold Oper.wp
  rw[bz]
  exact⟨(put_defers a o.dst v).trans gj,by rw[nD ((put_defers a o.dst v).trans gj)];exact h⟩)
 rw[nD gj]at this
 exact this
theorem YF{i:Nat}{o:Oper}(ho:ops[i]? =some o)(hg:o.guard=none)(hd:o.dst=none)(lY:∀c,o.op≠.defer c){w':World}(gj:a.defers=[])(bz:(execOp a.eval o).run P w=.ok .skip w'){next:Act→World→Prop}{Q:Exit→Act→World→Prop}(h:next a w'):wpOpIn Fence.wide n P ops Q i next a w:=by
 unfold wpOpIn
 simp only[ho]
 rw[if_pos (by simp[Region.wanted,hg])]
 have:=Hk (r:=none) (n:=n) (ds:=[]) (P:=P) (o:=o) (a:=a) (w:=w) (next:=next) (Q:=Q) lY (by
  unfold Oper.wp
  rw[bz]
  show(a.put o.dst undef).defers =[]∧next (wd (a.put o.dst undef) []) w'
  rw[hd]
  exact⟨gj,by rw[nD (show(a.put none undef).defers =[] from gj)];exact h⟩)
 rw[nD gj]at this
 exact this
end
end Go.Proofs.YtaknajjmldngiaaGreat.Ab
set_option linter.unusedVariables false
set_option linter.unusedSimpArgs false
namespace Go.Proofs.YtaknajjmldngiaaGreat.Ab
open Go Go.RowKit
theorem CC{a:Act}{t:Nat}{v:Value}(h:t<a.tmps.size):(a.put (some t) v).eval (.tmp t)=v:=by
 show(a.put (some t) v).tmps.getD t undef=v
 rw[u3 a (some t) v t h,if_pos rfl]
section
variable{P:Program}{gl:Nat→Option D}{w0:World}{ay:S0}{e:Env}{a:Act}{w:World}{g:Gh}{n:Nat}
theorem UC(hI:Inv gl w0 ay e a w g){id:Nat}{ops:Array Oper}(aeV:ops.size=5){o0 o1 o2 o3 o4:Oper}(h0:ops[0]? =some o0)(h1:ops[1]? =some o1)(h2:ops[2]? =some o2)(h3:ops[3]? =some o3)(h4:ops[4]? =some o4)
  (g0:o0.guard=none)(g1:o1.guard=none)(g2:o2.guard=none)(g3:o3.guard=none)(g4:o4.guard=none){p t0 t1 t2 t3:Nat}(d0:o0.dst=some t0)(d1:o1.dst=some t1)(d2:o2.dst=some t2)(d3:o3.dst=some t3)(d4:o4.dst=none)
  {T ST ET FT:TypeId}{f fi:Nat}{ix:Nat}{v:Value}(p0:o0.op=.fieldAddr T (.tmp p) f)(p1:o1.op=.load ST (.tmp t0))(p2:o2.op=.indexAddr ST (.tmp t1) (.const (.int .i64 (ix:Int))))(p3:o3.op=.fieldAddr ET (.tmp t2) fi)(p4:o4.op=.store FT (.tmp t3) (.const v))
  {fd nS:Field}{s1 s2 sz:Nat}(q0:kz P T f=some fd)(q1:dm P fd.type=some s1)(q1':s1≠0)(q2:gy P ST=some (false,1))(q3:P.underlying ST=some (.slice ET))(q4:dm P ET=some sz)
  (q5:kz P ET fi=some nS)(q6:dm P nS.type=some s2)(q6':s2≠0)(q7:dm P FT=some 1)(q8:v.cells= #[v])(q9:v.oneCell'=true)
  {b j:Nat}{cs:List SV}{L:List D}{x x' d:D}(hp:e.an[p]? =some (.p b 0))(hb:e.boxes[b]? =some (.cells cs))(mO:fd.offset=j)(hj:cs[j]? =some (.cA sz L))(hx:L[ix]? =some x)(hv:∀w St,bj w St d v)(Kl:d.one=true)
  (dE:x'.cells=x.cells.set nS.offset d)(uc:nS.offset<sz)(e0:e.an[t0]? =some (.v .undef))(e1:e.an[t1]? =some (.v .undef))(e2:e.an[t2]? =some (.v .undef))(e3:e.an[t3]? =some (.v .undef))(ck:t0≠p∧t1≠p)
  {Q:Exit→Act→World→Prop}(hQ:∀a' w' g',Inv gl w0 ay ⟨e.an,e.boxes.set b (.cells (cs.set j (.cA sz (L.set ix x'))))⟩ a' w' g'→Q .normal a' w'):(Code.region id ops false).wpIn Fence.wide n P Q a w:=by
 obtain⟨ao,hvp,c7⟩:=(hI.an p _ hp).jJ
 obtain⟨gg,cap,cur,te,c,ty,k1,k2,k3,k4,k5,k6,k7,k8⟩:=hI.YE hb c7 hj hx hv Kl dE uc
 have lt:∀{t:Nat}{s:Slot},e.an[t]? =some s→t<a.tmps.size:=fun h=>by rw[hI.size];exact(List.getElem?_eq_some_iff.1 h).1
 have kj:ix<L.length:=(List.getElem?_eq_some_iff.1 hx).1
 have tG:ix*sz+nS.offset<cap*sz:=by
  have h5:(ix+1)*sz≤cap*sz:=Nat.mul_le_mul_right _ (by omega)
  rw[Nat.succ_mul]at h5;omega
 refine wpIn_region ?_
 rw[aeV]
 show wpOpsIn Fence.wide n P ops Q [0,1,2,3,4] a w
 obtain⟨fs,hu,xp⟩:=CI q0
 obtain⟨fs2,hu2,aeW⟩:=CI q5
 have hap:a.eval (.tmp p)=.pointer (some ⟨ao,0,none⟩):=hvp
 rw[wpOpsIn_cons]
 refine Di h0 g0 (fun c=>by rw[p0];simp) (v:=.pointer (some ⟨ao,j,none⟩)) hI.defers ?_ ?_
 ·have:=n8 ao 0 fd.offset
  rw[Nat.zero_add,mO]at this
  simp[execOp,p0,Instr.fieldAt,run_underlying hu,xp,Instr.sureAddr,hap,FK q1 q1',mO,this]
 rw[d0,wpOpsIn_cons]
 have IS:(a.put (some t0) (.pointer (some ⟨ao,j,none⟩))).defers =[]:=(put_defers _ _ _).trans hI.defers
 have Rc:=CC (v:=.pointer (some ⟨ao,j,none⟩)) (lt e0)
 refine Di h1 g1 (fun c=>by rw[p1];simp) (v:=.slice (some ⟨gg,0,none⟩) L.length cap) IS ?_ ?_
 ·have hl:=uT (w:=w) q2 ao j (fun _=>.slice (some ⟨gg,0,none⟩) L.length cap) (fun j' kh=>by
   simp at kh;subst kh
   rw[cell_of_row w ao (j+0) c ty (0,0) k2];exact k4)
  simp only[Bool.false_eq_true,if_false]at hl
  simp[execOp,p1,Instr.loadAt,Instr.sureAddr,Rc,hl]
 rw[d1,wpOpsIn_cons]
 generalize Rd:a.put (some t0) (.pointer (some ⟨ao,j,none⟩))=a1 at IS Rc ⊢
 have vQ:a1.tmps.size=a.tmps.size:=by rw[←Rd,u4]
 have Re:=CC (a:=a1) (t:=t1) (v:=.slice (some ⟨gg,0,none⟩) L.length cap) (by rw[vQ];exact lt e1)
 have IT:(a1.put (some t1) (.slice (some ⟨gg,0,none⟩) L.length cap)).defers =[]:=(put_defers _ _ _).trans IS
 generalize Rf:a1.put (some t1) (.slice (some ⟨gg,0,none⟩) L.length cap)=a2 at IT Re ⊢
 have Rg:a2.tmps.size=a.tmps.size:=by rw[←Rf,u4,vQ]
 refine Di h2 g2 (fun c=>by rw[p2];simp) (v:=.pointer (some ⟨gg,ix*sz,none⟩)) IT ?_ ?_
 ·have:=n8 gg 0 (ix*sz)
  rw[Nat.zero_add]at this
  have hc:a2.eval (.const (.int .i64 (ix:Int)))=.int .i64 (ix:Int):=rfl
  simp[execOp,p2,Instr.indexAt,hc,asIntOf,run_underlying q3,Re,kj,j1 q4,this]
 rw[d2,wpOpsIn_cons]
 have Rh:=CC (a:=a2) (t:=t2) (v:=.pointer (some ⟨gg,ix*sz,none⟩)) (by rw[Rg];exact lt e2)
 have IU:(a2.put (some t2) (.pointer (some ⟨gg,ix*sz,none⟩))).defers =[]:=(put_defers _ _ _).trans IT
 generalize Ri:a2.put (some t2) (.pointer (some ⟨gg,ix*sz,none⟩))=a3 at IU Rh ⊢
 have Rj:a3.tmps.size=a.tmps.size:=by rw[←Ri,u4,Rg]
 refine Di h3 g3 (fun c=>by rw[p3];simp) (v:=.pointer (some ⟨gg,ix*sz+nS.offset,none⟩)) IU ?_ ?_
 ·have:=n8 gg (ix*sz) nS.offset
  simp[execOp,p3,Instr.fieldAt,run_underlying hu2,aeW,Instr.sureAddr,Rh,FK q6 q6',this]
 rw[d3,wpOpsIn_cons]
 have Rk:=CC (a:=a3) (t:=t3) (v:=.pointer (some ⟨gg,ix*sz+nS.offset,none⟩)) (by rw[Rj];exact lt e3)
 have IV:(a3.put (some t3) (.pointer (some ⟨gg,ix*sz+nS.offset,none⟩))).defers =[]:=(put_defers _ _ _).trans IU
 generalize Rl:a3.put (some t3) (.pointer (some ⟨gg,ix*sz+nS.offset,none⟩))=a4 at IV Rk ⊢
 have sz4:a4.tmps.size=a.tmps.size:=by rw[←Rl,u4,Rj]
 refine YF h4 g4 d4 (fun c=>by rw[p4];simp) (w':=w.setRow gg (cur.toList.take (ix*sz+nS.offset)++[v]++cur.toList.drop (ix*sz+nS.offset+1)).toArray) IV ?_ ?_
 ·have b4:=z9 (P:=P) q7 (off:=ix*sz+nS.offset) k6 (v:=v) (by rw[q8];rfl) (by rw[q8];simpa using q9) (by omega)
  rw[q8]at b4
  have hc:a4.eval (.const v)=v:=rfl
  simp only[List.append_assoc]at b4 ⊢
  simp[execOp,p4,Instr.storeAt,Instr.sureAddr,Rk,hc,b4]
 show Q .normal a4 _
 refine hQ _ _ g (k8.act sz4 IV fun t s hs B7=>?_)
 have xE:t<a.tmps.size:=lt hs
 have n0:t0≠t:=fun h=>B7 (by subst h;rw[e0]at hs;cases hs;rfl)
 have n1:t1≠t:=fun h=>B7 (by subst h;rw[e1]at hs;cases hs;rfl)
 have n2:t2≠t:=fun h=>B7 (by subst h;rw[e2]at hs;cases hs;rfl)
 have n3:t3≠t:=fun h=>B7 (by subst h;rw[e3]at hs;cases hs;rfl)
 rw[←Rl,u3 a3 _ _ t (by omega),if_neg (by simpa using n3),←Ri,u3 a2 _ _ t (by omega),if_neg (by simpa using n2),←Rf,u3 a1 _ _ t (by omega),if_neg (by simpa using n1),←Rd,u3 a _ _ t xE,if_neg (by simpa using n0)]
end
end Go.Proofs.YtaknajjmldngiaaGreat.Ab
