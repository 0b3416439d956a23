/-
  THE ABSTRACT WALK: THE STATEMENT THAT RANGES OVER A FUNCTION, whole.
-/
import Derived.Test.YtaknajjmldngiaaTc
import Derived.LoopNIn
set_option linter.unusedVariables false
set_option linter.unusedSimpArgs false
set_option linter.unusedVariables false
set_option linter.unusedSimpArgs false
namespace Go.Proofs.Ytaknajjmldngiaa.Ab
open Go Go.RowKit
section
variable{P:Program}{gl:Nat→Option D}{hh:Hints}{n:Nat}
theorem aG.Nf{w:World}{St:Nat→Nat→Prop}{base yx:Nat}{O:Nat→Nat→Nat→Prop}{x:SV}{v:Value}(r:aG w St base O x v)(hx:x.au=true):aG w St yx O x v:=by
 induction r with
 |d O x v hd=>exact .d O x v hd
 |own O sz L g cap hd bq ho=>exact .own O sz L g cap hd bq ho
 |full O sz L a hd=>exact .full O sz L a hd
 |ref=>simp[SV.au]at hx
 |ev=>simp[SV.au]at hx
 |aE O x off b o vs hf aN hc=>exact .aE O x off b o vs hf aN hc
 |dg O f first cap fv cv hf hc _ _ iV iW=>
  simp only[SV.au,Bool.and_eq_true]at hx
  exact .dg O f first cap fv cv hf hc (fun i x v a b=>iV i x v a b (oD.1 hx.1 x (List.mem_of_getElem? a))) (fun i x v a b=>iW i x v a b (oD.1 hx.2 x (List.mem_of_getElem? a)))
 |bj O sz L g cap vs h1 h2 h3 h4 h5 h6 h7=>exact .bj O sz L g cap vs h1 h2 h3 h4 h5 h6 h7
 |mp O l r es clock hh hs hl hc=>exact .mp O l r es clock hh hs hl hc
 |undef O v=>exact .undef O v
theorem Inv.drop{w0:World}{dk:S0}{ai sh:List Slot}{ak:List af}{a:Act}{w:World}{g:Gh}(hI:Inv gl w0 dk ⟨ai,ak⟩ a w g)(hl:sh.length=ai.length)
  (h:∀(i:Nat)s,sh[i]? =some s→s=.v .undef ∨∃s0,ai[i]? =some s0∧(s=s0∨s=s0.aa)):Inv gl w0 dk ⟨sh,ak⟩ a w g:=by
 refine⟨hI.below,by rw[hI.size];exact hl.symm,fun i s hs=>?_,hI.er,hI.boxes,hI.nodup,hI.eZ,hI.bT,hI.cU,hI.js,hI.defers,hI.ec,hI.cls,hI.iX⟩
 rcases h i s hs with rfl|⟨s0,h0,rfl|rfl⟩
 ·exact .v _ _ _ (.undef _ _)
 ·exact hI.ai i s h0
 ·exact(hI.ai i s0 h0).aa
def S0.EV(dk:S0)(Dd:Nat):S0:={dk with df:=fun D o=>dk.df D o∨(D=Dd∧o=.deferred (some []))}
def tC(I:Nat→List af→Prop)(X:Ex→List af→Prop)(k:Nat):Ex→List af→Prop
 | .normal =>I k
 |x=>X x
theorem OF(hm:P.follows .mixedOrders =true){w0:World}{dk:S0}{sh:List Slot}{ak:List af}{aC:Act}{w:World}{g:Gh}(hI:Inv gl w0 dk ⟨sh,ak⟩ aC w g)(aH:sh.all (rC ak.length)=true)(oY:ak.all (jJ ak.length)=true)
  {vA:Operand}{it:FuncId}{cap:List SV}(hg:aG w g.St w0.heap.size (fun _ _ _=>False) (.dg (.func it) [] cap) (aC.eval vA))(bq:SV.lC cap=true){L:List D}(ve:Iter P gl it cap L)
  {ps:Nat}{assign body:Code}(fL:∀(t:Nat)s,sh[t]? =some s→yX s=true→t∉b9 hh.gh assign∧t∉b9 hh.gh body∧t≠ps)
  (I:Nat→List af→Prop)(X:Ex→List af→Prop)(h0:I 0 ak)
  (yp:∀(k:Nat)d cp,I k cp→L[k]? =some d→cp.length=ak.length→aw P gl (aD P gl) hh assign (fun x e1=>x=.normal ∧aw P gl (aD P gl) hh body (fun x e2=>(e2.boxes.take ak.length).all (jJ ak.length)=true∧tC I X (k+1) x (e2.boxes.take ak.length)) e1) ⟨bF sh (some ps) (.v (.d d)),cp⟩)
  {Q:Exit→Act→World→Prop}(hQ:∀(x:Ex)cp w' g' Dd,tC I X L.length x cp→cp.length=ak.length→Inv gl w0 (dk.EV Dd) ⟨sh,cp⟩ aC w' g'→w0.heap.size≤Dd→(∀o,¬dk.df Dd o)→(∀o,¬dk.St Dd o)→Q x.to (wd aC [{target:=.collected Dd,args:= #[]}]) w'):
  (Code.rangeFunc vA #[ps] assign body).wpIn Fence.wide n P Q aC w:=by
 generalize YI:aC.eval vA=vg at hg
 cases hg with
 |dg _ _ _ _ fv cv hf hc rf rc=>
  have va:fv= #[]:=by
   have:fv.size=0:=by simpa using hf.symm
   exact Array.eq_empty_of_size_eq_zero this
  subst va
  refine wpIn_rangeFunc fun fn _=>?_
  obtain⟨tD,EW⟩:∃tD:Loop,tD={state:=.ready,pending:=none,fn,tmps:=aC.tmps,params:= #[ps],assign,body,defers:=w.heap.size}:=⟨_,rfl⟩
  obtain⟨w1,tY⟩:∃w1,(w.alloc (.deferred (some []))).alloc (.loop tD)=w1:=⟨_,rfl⟩
  have gT:w1.heap.size=w.heap.size+2:=by rw[←tY];simp
  have YJ:w1.heap[w.heap.size+1]? =some (.loop tD):=by
   rw[←tY]
   have:=World.alloc_heap_new (w.alloc (.deferred (some []))) (.loop tD)
   simpa using this
  have YK:w1.heap[w.heap.size]? =some (.deferred (some [])):=by
   rw[←tY,iu (w.alloc (.deferred (some []))) _ w.heap.size (by simp)]
   exact World.alloc_heap_new w _
  have hold:∀b,b<w.heap.size→w1.heap[b]? =w.heap[b]? :=fun b hb=>by
   rw[←tY,iu (w.alloc (.deferred (some []))) _ b (by simp;omega),iu w _ b hb]
  have hle:w0.heap.size≤w.heap.size:=hI.below.size
  have TZ:∀b o,b<w.heap.size→w1.cell? ⟨b,o,none⟩=w.cell? ⟨b,o,none⟩:=fun b o hb=>World.cell?_of_block (hold b hb)
  have hIn:=hI.norm
  have bC:Inv gl w0 dk ⟨sh,ak⟩ aC w1 {g with ow:=fun b=>if b<w.heap.size then g.ow b else none}:=
   hIn.move (Jy aH oY) rfl (hI.below.trans ⟨by rw[←tY];rfl,by rw[←tY];rfl,by rw[←tY];rfl,by omega,fun k hk=>hold k (by omega)⟩) (by omega)
    (fun b o v hs cz=>by rw[TZ b o (hI.bT b o hs).2.2];exact cz) (fun b hm=>hold b (hI.cU b hm).2) (fun b p _ _ hb=>hold b hb) (fun D o hD=>hold D (fo (hI.ec D o hD).2.2.1))
  refine⟨w.heap.size+1,[{target:=.collected w.heap.size,args:= #[]}],w1,{target:=.fn (.func it) cv,args:= #[.func (.yield (w.heap.size+1)) #[] #[]]},w1,it,#[.func (.yield (w.heap.size+1)) #[] #[]]++cv,w1,?_,?_,fun _ _=>trivial,?_,(fun h=>by cases h),?_⟩
  ·rw[←tY,EW];exact run_enterLoop_outer _ _ _ _ _
  ·simp only[resolve,YI]
   simp[go_sem]
  ·simp[invoke,go_sem,ve.1 _ _]
  ·have wS:w0.heap.size≤w.heap.size+1∧w0.heap.size≤w.heap.size:=⟨by omega,hle⟩
   have vz:w.heap.size+1<w1.heap.size∧w.heap.size<w1.heap.size∧w.heap.size+1≠w.heap.size:=⟨by omega,by omega,by omega⟩
   have fj:∀D o,dk.df D o→D<w1.heap.size∧D≠w.heap.size+1∧D≠w.heap.size:=fun D o hD=>by have:=fo (hI.ec D o hD).2.2.1;omega
   have o7:∀b o,dk.St b o→b<w1.heap.size∧b≠w.heap.size+1∧b≠w.heap.size:=fun b o hs=>by have:=(hI.bT b o (hI.eZ b o hs)).2.2;omega
   have bB:∀b o,g.St b o→b≠w.heap.size+1∧b≠w.heap.size:=fun b o hs=>by have:=(hI.bT b o hs).2.2;omega
   have main:=ve.2 w1 g.St (w.heap.size+1) cv (fun b o h=>by have:=(hI.bT b o h).2.2;omega) bC.js hc (fun i x v hx hv=>?_)
    (fun q Fr b5 pre W=>w1.heap.size≤W.heap.size∧∃x:Ex,(q=none↔x=.normal)∧(x=.normal →pre=L.take pre.length)∧∃cp g',cp.length=ak.length∧
      so P gl w0 dk g.St w1.heap.size (w.heap.size+1) w.heap.size {tD with state:=if x.code.isNone then .ready else .done,pending:=x.code} sh aC (tC I X pre.length x) Fr b5 W cp g') ?_ ?_ ?_
   ·refine callsIn_wide.2 (Calls.mono main ?_)
    rintro e W2 ⟨⟨v,rfl⟩,Fr,b5,pre,q,⟨zH,x,zI,BW,cp,g',gp,hR⟩,hq⟩
    have j5:=run_endLoop (P:=P) hR.uV (by cases x<;>simp[Ex.code])
    have sr:=hR.inv.other hR.uV (AH _) (AH {tD with state:=.exhausted,pending:=x.code}) wS.1 (fun D ob hD=>(fj D ob hD).2.1)
    have GN:=hR.lo w.heap.size (.inr rfl)
    have YL:Inv gl w0 (dk.EV w.heap.size) ⟨sh,cp⟩ aC (W2.putObj (w.heap.size+1) (.loop {tD with state:=.exhausted,pending:=x.code})) g':=by
     refine sr.qI sr.eZ (fun b o h=>(sr.bT b o h).1) (fun D o hD=>?_) sr.cls sr.iX
     rcases hD with hD|⟨rfl,rfl⟩
     ·exact sr.ec D o hD
     ·exact⟨GN.1,GN.2.1,(World.putObj_heap_other (by omega)).trans hR.dd,fun x hx=>absurd hx (GN.2.2 x)⟩
    have nX:∀x',x=x'→tC I X L.length x' cp:=fun x' hx=>by
     subst hx
     have:=hR.i
     cases x with
     |normal=>
      have h1:=hq (zI.2 rfl)
      rw[h1]at this
      exact this
     |exit i=>exact this
     |ret=>exact this
    have Nb:=hI.defers
    have Fi:({aC with defers:=[{target:=.collected w.heap.size,args:= #[]}]++aC.defers}:Act)=wd aC [{target:=.collected w.heap.size,args:= #[]}]:=by
     rw[Nb];rfl
    have EA:=hQ x cp _ g' w.heap.size (nX x rfl) gp YL hle (fun o hD=>(fj _ o hD).2.2 rfl) (fun o hs=>(o7 _ o hs).2.2 rfl)
    refine⟨x.code,_,j5,?_⟩
    rw[Fi]
    cases x with
    |normal=>exact EA
    |exit i=>exact wpIn_exit EA
    |ret=>exact wpIn_ret EA
   ·have tN:x.au=true:=oD.1 bq x (List.mem_of_getElem? hx)
    exact(((rc i x v hx hv).Nf (yx:=0) tN).mono (fun b o h=>⟨h,.pS (hold b (hI.bT b o h).2.2)⟩) (fun b o hb=>absurd hb (Nat.not_lt_zero _)) _ (fun _ _ _ h=>h.elim)).Nf tN
   ·rintro q Fr b5 pre W W' k9 nW ⟨zH,x,zI,BW,cp,g',gp,hR⟩ hb f1 f2 p1 p2
    exact⟨Nat.le_trans zH hb.size,x,zI,BW,cp,g',gp,hR.EU aH (by omega) ⟨vz.1,vz.2.1⟩ (fun D o hD=>(fj D o hD).1) hb zH f1 f2 p1 p2⟩
   ·rintro Fr b5 pre d v W ⟨zH,x,zI,BW,cp,g',gp,hR⟩ hd Ng
    have YM:=zI.1 rfl
    subst YM
    subst EW
    have BV:=yp pre.length d cp hR.i Ng gp
    rw[←gp]at BV
    obtain⟨tmps,hy,hr⟩:=hR.round (hh:=hh) hm (by rw[gp];exact aH) wS vz fj o7 bB (ps:=ps) rfl rfl rfl rfl hd fL (I':=tC I X (pre.length+1)) BV
    refine⟨_,tmps,_,_,hy,fun n=>(hr n).mono fun e W'⟨x',he,fM,WV,g2,pk,GO⟩=>⟨x'.code.isNone,he,fM,?_,x',?_,fun cB=>?_,WV,g2,pk.trans gp,?_⟩⟩
    ·have:=fo GO.dd
     have h1:=GO.fr
     have:W.heap.size≤W'.heap.size:=fM.size
     omega
    ·cases x'<;>simp[Ex.code]
    ·have h1:=BW rfl
     rw[List.length_append,List.length_singleton,List.take_add_one,Ng,←h1]
     rfl
    ·rw[List.length_append,List.length_singleton]
     exact GO
   ·subst EW
    refine⟨Nat.le_refl _,.normal,by simp,fun _=>by simp,ak,_,rfl,⟨bC,h0,oY,fun _ _ h=>h,fun b p ho=>?_,fun b o h=>.inl h,fun b o h=>⟨h,h⟩,fun b o h=>⟨.inl h,by have:=(hI.bT b o h).2.2;omega⟩,fun b h=>h.elim,YJ,YK,fun b hb=>?_⟩⟩
    ·simp only at ho
     split at ho
     ·exact⟨by omega,fun h=>h⟩
     ·cases ho
    ·have GP:¬b<w.heap.size:=by omega
     exact⟨fun hm=>GP (hI.cU b hm).2,by simp only;rw[if_neg GP],fun o h=>GP (hI.bT b o h).2.2⟩
end
end Go.Proofs.Ytaknajjmldngiaa.Ab
set_option linter.unusedVariables false
set_option linter.unusedSimpArgs false
namespace Go.Proofs.Ytaknajjmldngiaa.Ab
open Go Go.RowKit
structure qJ(gl:Nat→Option D)(base:Nat)(Nh:S0)(Fr:Nat→Prop)(e:Env)(a:Act)(W:World)(g:Gh):Prop where
 inv:∃w0:World,w0.heap.size=base∧Inv gl w0 Nh e a W g
 bx:∀b,some b∈g.bx→Fr b
 ow:∀b p,g.ow b=some p→b<W.heap.size→Fr b
 st:∀b o,g.St b o→Fr b∨Nh.St b o
 fr:∀b,Fr b→base≤b∧b<W.heap.size
def nz(St:Nat→Nat→Prop):S0:={St:=St,df:=fun _ _=>False,cl:=fun _ _ _=>False}
def yZ(Fr:Nat→Prop)(W:World)(g:Gh):S0:={St:=g.St,df:=fun D o=>¬Fr D∧W.heap[D]? =some o,cl:=fun b o v=>g.St b o∧W.cell? ⟨b,o,none⟩=some v,sz:=W.heap.size}
section
variable{P:Program}{gl:Nat→Option D}{hh:Hints}{n:Nat}{base:Nat}{St:Nat→Nat→Prop}{Fr:Nat→Prop}{e:Env}{a:Act}{W:World}{g:Gh}
theorem qJ.qI(h:qJ gl base (nz St) Fr e a W g):∃w0:World,w0.heap.size=base∧Inv gl w0 (yZ Fr W g) e a W g:=by
 obtain⟨w0,h0,hI⟩:=h.inv
 refine⟨w0,h0,hI.qI (fun _ _ h=>h) (fun _ _ h=>.inl h) (fun D o hD=>?_) (fun _ _ _ h=>h) (Nat.le_refl _)⟩
 obtain⟨h1,h2⟩:=hD
 refine⟨fun hm=>h1 (h.bx D hm),?_,h2,fun x hx=>hx⟩
 cases qF:g.ow D with
 |none=>rfl
 |some p=>exact absurd (h.ow D p qF (fo h2)) h1
theorem qJ.VJ(h:qJ gl base (nz St) Fr e a W g){w0:World}(h0:w0.heap.size=base)(pf:Inv gl w0 (yZ Fr W g) e a W g){e':Env}{a':Act}{W':World}{g':Gh}(hI:Inv gl w0 (yZ Fr W g) e' a' W' g'):
  qJ gl base (nz St) (fun b=>Fr b∨(W.heap.size≤b∧b<W'.heap.size)) e' a' W' g'∧rk Fr g.St W W'∧∀b o,g.St b o→g'.St b o:=by
 have aB:W.heap.size≤W'.heap.size:=hI.iX
 obtain⟨w1,h1,bC⟩:=h.inv
 have hold:∀b,b<W.heap.size→¬Fr b→some b∉g'.bx∧g'.ow b=none∧W'.heap[b]? =W.heap[b]? ∧∀x,g'.St b x→g.St b x:=fun b hb hf=>by
  have pE:W.heap[b]? =some W.heap[b]:=by simp[hb]
  have:=hI.ec b _ ⟨hf,pE⟩
  exact⟨this.1,this.2.1,this.2.2.1.trans pE.symm,this.2.2.2⟩
 refine⟨⟨⟨w0,h0,hI.qI (fun b o hs=>hI.eZ b o (bC.eZ b o hs)) (fun b o hs=>?_) (fun D o hD=>hD.elim) (fun b o v hv=>hv.elim) (Nat.zero_le _)⟩,fun b hm=>?_,fun b p ho hb=>?_,fun b o hs=>?_,fun b hf=>?_⟩,
  ⟨hI.below.os.trans pf.below.os.symm,hI.below.tape.trans pf.below.tape.symm,hI.below.output.trans pf.below.output.symm,aB,fun b hb hf=>(hold b hb hf).2.2.1,fun b o v hs hc=>(hI.cls b o v ⟨hs,hc⟩).2⟩,fun b o hs=>hI.eZ b o hs⟩
 ·rcases(hI.bT b o hs).1 with h2|h2
  ·have:=(bC.bT b o h2).1
   rw[h1]at this
   rw[h0]
   exact this
  ·exact .inr h2
 ·by_cases hf:Fr b
  ·exact .inl hf
  ·by_cases hb:b<W.heap.size
   ·exact absurd hm (hold b hb hf).1
   ·exact .inr ⟨by omega,(hI.cU b hm).2⟩
 ·by_cases hf:Fr b
  ·exact .inl hf
  ·by_cases di:b<W.heap.size
   ·rw[(hold b di hf).2.1]at ho;cases ho
   ·exact .inr ⟨by omega,hb⟩
 ·by_cases hf:Fr b
  ·exact .inl (.inl hf)
  ·by_cases hb:b<W.heap.size
   ·exact(h.st b o ((hold b hb hf).2.2.2 o hs)).imp .inl id
   ·exact .inl (.inr ⟨by omega,(hI.bT b o hs).2.2⟩)
 ·rcases hf with hf|hf
  ·have:=h.fr b hf;exact⟨this.1,by omega⟩
  ·refine⟨?_,hf.2⟩
   have:=pf.below.size
   omega
theorem qJ.norm(h:qJ gl base (nz St) Fr e a W g):∃g',qJ gl base (nz St) Fr e a W g'∧g'.St=g.St∧∀b p,g'.ow b=some p→b<W.heap.size:=by
 obtain⟨w0,h0,hI⟩:=h.inv
 refine⟨_,⟨⟨w0,h0,hI.norm⟩,h.bx,fun b p ho hb=>?_,h.st,h.fr⟩,rfl,fun b p ho=>?_⟩
 ·simp only at ho
  rw[if_pos hb]at ho
  exact h.ow b p ho hb
 ·simp only at ho
  split at ho
  ·assumption
  ·cases ho
structure pF(P:Program)(gl:Nat→Option D) where
 base:Nat
 St:Nat→Nat→Prop
 l:Nat
 L:List D
 J:Option Unit→(Nat→Prop)→(Nat→Nat→Prop)→List D→World→Prop
 k0:∀b o,St b o→b<base
 EU:∀q Fr b5 pre W W' k9 nW,J q Fr b5 pre W→rk Fr b5 W W'→(∀b,k9 b→Fr b∨(W.heap.size≤b∧b<W'.heap.size))→(∀b,Fr b→k9 b)→(∀b o,b5 b o→nW b o)→
  (∀b o,nW b o→(b5 b o∨k9 b)∧b<W'.heap.size)→J q k9 nW pre W'
 round:∀Fr b5 pre d v W,J none Fr b5 pre W→aK W b5 d v→L[pre.length]? =some d→∃fn tmps assign body,(Instr.yield l #[v]).run P W=.ok (.round l fn tmps assign body) W∧
  ∀n,RoundIn Fence.wide n P l fn tmps assign body W fun e W'=>∃b,e=.returned (.bool b)∧rk (fun b=>¬Fr b) b5 W W'∧J (bif b then none else some ()) Fr b5 (pre++[d]) W'
def pF.nY(C:pF P gl)(e:Env)(log:List D)(q:Option Unit)(a:Act)(W:World):Prop:=
 ∃Fr g,qJ gl C.base (nz C.St) Fr e a W g∧C.J q Fr g.St log W
theorem pF.go(C:pF P gl){log:List D}{q:Option Unit}(h:qJ gl C.base (nz C.St) Fr e a W g)(hJ:C.J q Fr g.St log W){w0:World}(h0:w0.heap.size=C.base)(pf:Inv gl w0 (yZ Fr W g) e a W g){e':Env}{a':Act}{W':World}{g':Gh}
  (hI:Inv gl w0 (yZ Fr W g) e' a' W' g'):C.nY e' log q a' W':=by
 obtain⟨h1,h2,h3⟩:=h.VJ h0 pf hI
 refine⟨_,g',h1,C.EU _ _ _ _ _ _ _ _ hJ h2 (fun b hb=>hb) (fun b hb=>.inl hb) h3 (fun b o hs=>⟨?_,(hI.bT b o hs).2.2⟩)⟩
 rcases h1.st b o hs with hf|ew
 ·exact .inr hf
 ·obtain⟨_,_,bC⟩:=h.inv
  exact .inl (bC.eZ b o ew)
def IW(C:pF P gl)(n:Nat)(c:Code)(Q:Ex→Env→List D→Option Unit→Prop)(e:Env)(log:List D)(q:Option Unit):Prop:=
 ∀a W,C.nY e log q a W→c.wpIn Fence.wide n P (fun x a' W'=>∃xx e' kq q',x=Ex.to xx∧C.nY e' kq q' a' W'∧Q xx e' kq q') a W
def OW(C:pF P gl)(n:Nat)(ops:Array Oper)(Q:Ex→Env→List D→Option Unit→Prop)(idx:List Nat)(e:Env)(log:List D)(q:Option Unit):Prop:=
 ∀a W,C.nY e log q a W→wpOpsIn Fence.wide n P ops (fun x a' W'=>∃xx e' kq q',x=Ex.to xx∧C.nY e' kq q' a' W'∧Q xx e' kq q') idx a W
theorem Im{F:Fence}{c:Code}{Q:Exit→Act→World→Prop}:∀{m k:Nat},m≤k→∀{a:Act}{w:World},Code.roundsIn F n P c Q m a w→Code.roundsIn F n P c Q k a w
 |0,_,_,_,_,h=>h.elim
 |m+1,0,hk,_,_,_=>by omega
 |m+1,k+1,hk,a,w,h=>by
  refine wpIn_mono h fun x a' w' hx=>?_
  cases x with
  |normal=>exact Im (by omega) hx
  |_=>exact hx
variable{C:pF P gl}{log:List D}{q:Option Unit}
theorem IW.mono{c:Code}{Q Q':Ex→Env→List D→Option Unit→Prop}(h:IW C n c Q e log q)(hq:∀x e l q,Q x e l q→Q' x e l q):IW C n c Q' e log q:=fun a W hH=>
 wpIn_mono (h a W hH) fun x a' W'⟨xx,e',l',q',h1,h2,h3⟩=>⟨xx,e',l',q',h1,h2,hq _ _ _ _ h3⟩
theorem IW.aw(hm:P.follows .mixedOrders =true){c:Code}{Q:Ex→Env→List D→Option Unit→Prop}(h:aw P gl (aD P gl) hh c (fun x e'=>Q x e' log q) e):IW C n c Q e log q:=by
 rintro a W ⟨Fr,g,hS,hJ⟩
 obtain⟨w0,h0,hI⟩:=hS.qI
 have:=IM (r:=none) (n:=n) (ds:=[]) hm c hI h (Q:=fun x a' W'=>∃xx e' kq q',x=Ex.to xx∧C.nY e' kq q' a' W'∧Q xx e' kq q') (fun x e' a' W' g' bd hQ=>by
  refine⟨x,e',log,q,rfl,?_,hQ⟩
  rw[mF bd.defers]
  exact C.go hS hJ h0 hI bd)
 rw[mF hI.defers]at this
 exact this
theorem IW.seq{x y:Code}{Q:Ex→Env→List D→Option Unit→Prop}(h:IW C n x (fun ex e' l' q'=>match ex with| .normal =>IW C n y Q e' l' q'|ex=>Q ex e' l' q') e log q):IW C n (.seq x y) Q e log q:=fun a W hH=>by
 refine wpIn_seq (wpIn_mono (h a W hH) ?_)
 rintro ex a' W' ⟨xx,e',l',q',rfl,h2,h3⟩
 cases xx with
 |normal=>exact h3 a' W' h2
 |exit i=>exact⟨.exit i,e',l',q',rfl,h2,h3⟩
 |ret=>exact⟨.ret,e',l',q',rfl,h2,h3⟩
theorem IW.block{id:Nat}{b:Code}{Q:Ex→Env→List D→Option Unit→Prop}(h:IW C n b (fun ex e' l' q'=>match ex with| .normal =>Q .normal e' l' q'| .exit i=>cond (i==id) (Q .normal e' l' q') (Q (.exit i) e' l' q')| .ret =>Q .ret e' l' q') e log q):
  IW C n (.block id b) Q e log q:=fun a W hH=>by
 refine wpIn_block (wpIn_mono (h a W hH) ?_)
 rintro ex a' W' ⟨xx,e',l',q',rfl,h2,h3⟩
 cases xx with
 |normal=>exact⟨.normal,e',l',q',rfl,h2,h3⟩
 |exit i=>
  have h3:cond (i==id) (Q .normal e' l' q') (Q (.exit i) e' l' q'):=h3
  show(if i=id then _ else _)
  cases hb:(i==id)with
  |true=>
   rw[hb]at h3
   rw[if_pos (beq_iff_eq.1 hb)]
   exact⟨.normal,e',l',q',rfl,h2,h3⟩
  |false=>
   rw[hb]at h3
   rw[if_neg (beq_eq_false_iff_ne.1 hb)]
   exact⟨.exit i,e',l',q',rfl,h2,h3⟩
 |ret=>exact⟨.ret,e',l',q',rfl,h2,h3⟩
theorem IW.cond{t:Nat}{b:Bool}{x y:Code}{Q:Ex→Env→List D→Option Unit→Prop}(hs:e.ai[t]? =some (.v (.d (.bool b))))(h:IW C n (if b then x else y) Q e log q):IW C n (.cond (.tmp t) x y) Q e log q:=fun a W hH=>by
 have YN:=hH
 obtain⟨Fr,g,hS,_⟩:=YN
 obtain⟨w0,_,hI⟩:=hS.inv
 have h1:=(hI.ai t _ hs).jG.data.pT
 exact wpIn_cond (t:=b) h1 (h a W hH)
theorem IW.loop{b:Code}{Q:Ex→Env→List D→Option Unit→Prop}(I:Nat→Env→List D→Option Unit→Prop)
  (hb:∀m e l q,I m e l q→IW C n b (fun ex e' l' q'=>match ex with| .normal =>(∃m',m'<m∧I m' e' l' q')|ex=>Q ex e' l' q') e l q):∀(m:Nat)(e:Env)(log:List D)(q:Option Unit),I m e log q→IW C n (.loop b) Q e log q:=by
 have key:∀(m:Nat)(e:Env)(log:List D)(q:Option Unit),I m e log q→∀a W,C.nY e log q a W→Code.roundsIn Fence.wide n P b (fun x a' W'=>∃xx e' kq q',x=Ex.to xx∧C.nY e' kq q' a' W'∧Q xx e' kq q') (m+1) a W:=by
  intro m
  induction m using Nat.strongRecOn with
  |_ m ih=>
   intro e log q hI a W hH
   refine wpIn_mono (hb m e log q hI a W hH) ?_
   rintro ex a' W' ⟨xx,e',l',q',rfl,h2,h3⟩
   cases xx with
   |normal=>
    obtain⟨m',pz,bd⟩:=h3
    have:=ih m' pz e' l' q' bd a' W' h2
    exact Im (by omega) this
   |exit i=>exact⟨.exit i,e',l',q',rfl,h2,h3⟩
   |ret=>exact⟨.ret,e',l',q',rfl,h2,h3⟩
 exact fun m e log q hI a W hH=>wpIn_loop_rounds (m+1) (key m e log q hI a W hH)
theorem OW.nil{ops:Array Oper}{Q:Ex→Env→List D→Option Unit→Prop}(h:Q .normal e log q):OW C n ops Q [] e log q:=fun a W hH=>⟨.normal,e,log,q,rfl,hH,h⟩
theorem IW.region{id:Nat}{ops:Array Oper}{Q:Ex→Env→List D→Option Unit→Prop}(h:OW C n ops Q (List.range ops.size) e log q):IW C n (.region id ops false) Q e log q:=fun a W hH=>wpIn_region (h a W hH)
theorem OW.step{ops:Array Oper}{Q:Ex→Env→List D→Option Unit→Prop}{i:Nat}{rest:List Nat}{id:Nat}{ax:Bool}{o:Oper}(ho:ops[i]? =some o)
  (h:lG P gl (aD P gl) ops.toList id ax o e (fun e'=>OW C n ops Q rest e' log q)):OW C n ops Q (i::rest) e log q:=by
 rintro a W ⟨Fr,g,hS,hJ⟩
 obtain⟨w0,h0,hI⟩:=hS.qI
 rw[wpOpsIn_cons]
 have:=Di (r:=none) (n:=n) (ds:=[]) hI ho h (next:=wpOpsIn Fence.wide n P ops (fun x a' W'=>∃xx e' kq q',x=Ex.to xx∧C.nY e' kq q' a' W'∧Q xx e' kq q') rest)
  (Q:=fun x a' W'=>∃xx e' kq q',x=Ex.to xx∧C.nY e' kq q' a' W'∧Q xx e' kq q') (fun e' v W' g' bd hk=>by
    rw[mF bd.defers]
    exact hk _ _ (C.go hS hJ h0 hI bd))
 rw[mF hI.defers]at this
 exact this
theorem OW.yield{ops:Array Oper}{Q:Ex→Env→List D→Option Unit→Prop}{i:Nat}{rest:List Nat}{o:Oper}(ho:ops[i]? =some o)(hg:o.guard=none){c:Call}(hc:o.op=.call c){f x:Operand}(hf:c.callee=.value f)(hx:c.args= #[x]){d:Nat}(hd:o.dst=some d)
  (YO:(Ab.aJ gl e f).aa =.v (.d (.fn (.yield C.l)))){y:D}(GI:(Ab.aJ gl e x).aa =.v (.d y))(hy:C.L[log.length]? =some y)(hp:Bg e)
  (h1:OW C n ops Q rest ⟨e.ai.set d (.v (.d (.bool true))),e.boxes⟩ (log++[y]) none)(h2:OW C n ops Q rest ⟨e.ai.set d (.v (.d (.bool false))),e.boxes⟩ (log++[y]) (some ())):OW C n ops Q (i::rest) e log none:=by
 rintro a W ⟨Fr,g0,Cc,hJ⟩
 obtain⟨g,hS,iY,pe⟩:=Cc.norm
 rw[←iY]at hJ
 obtain⟨w0,h0,hI⟩:=hS.inv
 rw[wpOpsIn_cons]
 unfold wpOpIn
 simp only[ho]
 have hw:Region.wanted o (yielded ops a.tmps)=true:=by simp[Region.wanted,hg]
 rw[if_pos hw]
 refine⟨fun _ _=>trivial,?_⟩
 have Ni:a.eval f=.func (.yield C.l) #[] #[]:=by
  have:=(hI.n8 YO).data
  generalize a.eval f=u at this
  cases this
  rfl
 have zl:aK W g.St y (a.eval x):=(hI.n8 GI).data
 obtain⟨fn,tmps,assign,body,aU,hr⟩:=C.round Fr g.St log y (a.eval x) W hJ zl hy
 have hex:(o.semAt Fence.wide.round a.eval).run P W=.ok (.round C.l fn tmps assign body) W:=by
  show(execOp a.eval o).run P W=_
  generalize a.eval=ρ at Ni aU
  simp[execOp,hc,resolve,hf,hx,Ni,invoke,go_sem,aU]
 rw[hex,Oper.uponIn_round]
 refine⟨fun h=>(by cases h),(hr (n-1)).mono ?_⟩
 rintro e1 W1 ⟨b,rfl,hB,Cj⟩
 show wpOpsIn _ _ _ _ _ rest (a.put o.dst (.bool b)) W1
 rw[hd]
 have B8:Inv gl (yW W1 C.base) (nz C.St) e a W1 g:=by
  have hle:=hI.below.size
  have gT:=hB.size
  have bw:(yW W1 C.base).heap.size =C.base:=Jx (by omega)
  refine hI.move hp (by rw[bw,h0]) ?_ hB.size (fun b o v hs hc=>hB.jK b o v hs hc) (fun b hm=>?_) (fun b p hw _ hb=>?_) (fun D o hD=>hD.elim)
  ·rw[h0]
   refine⟨rfl,rfl,rfl,by rw[bw];omega,fun k hk=>?_⟩
   show W1.heap[k]? =(W1.heap.extract 0 C.base)[k]?
   rw[Array.getElem?_extract,if_pos (by omega),Nat.zero_add]
  ·exact hB.aj b (hI.cU b hm).2 fun hn=>hn (hS.bx b hm)
  ·exact hB.aj b hb fun hn=>hn (hS.ow b p hw hb)
 have bw:(yW W1 C.base).heap.size =C.base:=Jx (by have:=hI.below.size;have:=hB.size;omega)
 have hv:=B8.value (dst:=some d) (s:=.v (.d (.bool b))) (v:=.bool b) (.v _ _ _ (.d _ _ _ (.bool b)))
 have hH:C.nY ⟨e.ai.set d (.v (.d (.bool b))),e.boxes⟩ (log++[y]) (bif b then none else some ()) (a.put (some d) (.bool b)) W1:=by
  refine⟨Fr,g,⟨⟨_,bw,hv⟩,hS.bx,fun b p hw hb=>hS.ow b p hw (pe b p hw),hS.st,fun b hf=>⟨(hS.fr b hf).1,Nat.lt_of_lt_of_le (hS.fr b hf).2 hB.size⟩⟩,Cj⟩
 cases b with
 |true=>exact h1 _ _ hH
 |false=>exact h2 _ _ hH
end
end Go.Proofs.Ytaknajjmldngiaa.Ab
set_option linter.unusedVariables false
set_option linter.unusedSimpArgs false
namespace Go.Proofs.Ytaknajjmldngiaa.Ab
open Go Go.RowKit
def dc:Code→List Code
 | .seq a b=>dc a++dc b
 |c=>[c]
def nA(F:Fence)(n:Nat)(P:Program):List Code→(Exit→Act→World→Prop)→Act→World→Prop
 |[],Q,a,w=>Q .normal a w
 |c::l,Q,a,w=>c.wpIn F n P (Exit.then (nA F n P l Q) Q) a w
section
variable{P:Program}{gl:Nat→Option D}{hh:Hints}{F:Fence}{n:Nat}
theorem Dj{Q:Exit→Act→World→Prop}:∀(l m:List Code)(a:Act)(w:World),nA F n P l (Exit.then (nA F n P m Q) Q) a w→nA F n P (l++m) Q a w
 |[],m,a,w,h=>h
 |c::l,m,a,w,h=>by
  refine wpIn_mono (h:c.wpIn F n P _ a w) fun x a' w' hx=>?_
  cases x with
  |normal=>exact Dj l m a' w' hx
  |_=>exact hx
theorem Ar{Q:Exit→Act→World→Prop}:∀(c:Code)(a:Act)(w:World),nA F n P (dc c) Q a w→c.wpIn F n P Q a w
 | .seq x y,a,w,h=>by
   have h:nA F n P (dc x++dc y) Q a w:=h
   refine wpIn_seq (Ar x a w ?_)
   have key:∀(l m:List Code)(a:Act)(w:World),nA F n P (l++m) Q a w→nA F n P l (Exit.then (nA F n P m Q) Q) a w:=by
    intro l
    induction l with
    |nil=>intro m a w h;exact h
    |cons c l ih=>
     intro m a w h
     refine wpIn_mono (h:c.wpIn F n P _ a w) fun x a' w' hx=>?_
     cases x with
     |normal=>exact ih m a' w' hx
     |_=>exact hx
   have:=key _ _ a w h
   have mono:∀(l:List Code)(a:Act)(w:World)(R R':Exit→Act→World→Prop),(∀x a w,R x a w→R' x a w)→nA F n P l R a w→nA F n P l R' a w:=by
    intro l
    induction l with
    |nil=>intro a w R R' hr h;exact hr _ _ _ h
    |cons c l ih=>
     intro a w R R' hr h
     refine wpIn_mono (h:c.wpIn F n P _ a w) fun x a' w' hx=>?_
     cases x with
     |normal=>exact ih a' w' R R' hr hx
     |_=>exact hr _ _ _ hx
   refine mono _ a w _ _ (fun x a' w' hx=>?_) this
   cases x with
   |normal=>exact Ar y a' w' hx
   |_=>exact hx
 | .skip,a,w,h=>wpIn_mono (show Code.wpIn F n P _ _ a w from h) fun x a' w' hx=>by cases x<;>exact hx
 | .region ..,a,w,h=>wpIn_mono (show Code.wpIn F n P _ _ a w from h) fun x a' w' hx=>by cases x<;>exact hx
 | .cond ..,a,w,h=>wpIn_mono (show Code.wpIn F n P _ _ a w from h) fun x a' w' hx=>by cases x<;>exact hx
 | .block ..,a,w,h=>wpIn_mono (show Code.wpIn F n P _ _ a w from h) fun x a' w' hx=>by cases x<;>exact hx
 | .loop ..,a,w,h=>wpIn_mono (show Code.wpIn F n P _ _ a w from h) fun x a' w' hx=>by cases x<;>exact hx
 | .exit _,a,w,h=>wpIn_mono (show Code.wpIn F n P _ _ a w from h) fun x a' w' hx=>by cases x<;>exact hx
 | .ret,a,w,h=>wpIn_mono (show Code.wpIn F n P _ _ a w from h) fun x a' w' hx=>by cases x<;>exact hx
 | .goto _,a,w,h=>wpIn_mono (show Code.wpIn F n P _ _ a w from h) fun x a' w' hx=>by cases x<;>exact hx
 | .label _,a,w,h=>wpIn_mono (show Code.wpIn F n P _ _ a w from h) fun x a' w' hx=>by cases x<;>exact hx
 | .scope _,a,w,h=>wpIn_mono (show Code.wpIn F n P _ _ a w from h) fun x a' w' hx=>by cases x<;>exact hx
 | .rangeFunc ..,a,w,h=>wpIn_mono (show Code.wpIn F n P _ _ a w from h) fun x a' w' hx=>by cases x<;>exact hx
 | .refuse _,a,w,h=>wpIn_mono (show Code.wpIn F n P _ _ a w from h) fun x a' w' hx=>by cases x<;>exact hx
end
section
variable(P:Program)(gl:Nat→Option D)(C:bu)(h:Hints)
def ik:List Code→(Ex→Env→Prop)→Env→Prop
 |[],Q,e=>Q .normal e
 |c::l,Q,e=>aw P gl C h c (fun x e'=>match x with| .normal =>ik l Q e'| .exit i=>Q (.exit i) e'| .ret =>Q .ret e') e
def tE(fn:Func)(K:SV→Prop)(x:Ex)(e:Env):Prop:=match x with| .normal =>finish P fn e K| .ret =>finish P fn e K| .exit _=>False
end
section
variable{P:Program}{gl:Nat→Option D}{hh:Hints}{n:Nat}
theorem xR(hm:P.follows .mixedOrders =true){ds:List Deferred}{r:Option Nat}:∀(l:List Code){w0:World}{an:S0}{QA:Ex→Env→Prop}{e:Env}{a:Act}{w:World}{g:Gh}{Q:Exit→Act→World→Prop},
  Inv gl w0 an e a w g→ik P gl (aD P gl) hh l QA e→(∀x e' a' w' g',Inv gl w0 an e' a' w' g'→QA x e'→Q x.to (wd a' ds) w')→nA (FW r) n P l Q (wd a ds) w
 |[],_,_,_,_,_,_,_,_,hI,h,hQ=>hQ .normal _ _ _ _ hI h
 |c::l,w0,an,QA,e,a,w,g,Q,hI,h,hQ=>by
  refine IM hm c hI h fun x e' a' w' g' bd hx=>?_
  cases x with
  |normal=>exact xR hm l bd hx hQ
  |exit i=>exact hQ (.exit i) e' a' w' g' bd hx
  |ret=>exact hQ .ret e' a' w' g' bd hx
theorem As{fn:Func}{args:List SV}{w:World}{St:Nat→Nat→Prop}{vs:Array Value}(k0:∀b o,St b o→b<w.heap.size)(mR:tl gl w St)(hlen:args.length=vs.size)
  (eu:∀(i:Nat)x v,args[i]? =some x→vs[i]? =some v→aG w St w.heap.size (fun _ _ _=>False) x v):
  Inv gl w (nz St) (enter fn.ntmps args) {tmps:=vs++Array.replicate (fn.ntmps-vs.size) undef,defers:=[]} w ⟨St,[],fun _=>none⟩:=by
 refine⟨Below.refl _ _,by simp[enter,hlen],fun i s hs=>?_,rfl,fun b bx aj h1=>by simp[enter]at h1,fun i j aj h1=>by simp at h1,fun _ _ h=>h,fun b o hb=>⟨.inl hb,by simp,k0 b o hb⟩,fun b hb=>by simp at hb,mR,rfl,fun D o hD=>hD.elim,fun b o v hv=>hv.elim,Nat.zero_le _⟩
 simp only[enter]at hs
 rw[List.getElem?_append]at hs
 split at hs
 ·rename_i hi
  simp only[List.length_map]at hi
  simp only[List.getElem?_map,Option.map_eq_some_iff]at hs
  obtain⟨x,hx,rfl⟩:=hs
  have GA:i<vs.size:=by omega
  have:=eu i x vs[i] hx (by simp)
  have j4:(vs++Array.replicate (fn.ntmps-vs.size) undef).getD i undef=vs[i]:=by
   simp[Array.getElem?_append,GA]
  rw[j4]
  exact .v _ _ _ (this.mono (fun _ _ h=>⟨h,.refl _ _ _⟩) (fun _ _ _=>rfl) _ (fun _ _ _ h=>h.elim))
 ·have:=(List.mem_replicate.1 (List.mem_of_getElem? hs)).2
  subst this
  exact .v _ _ _ (.undef _ _)
theorem Po(hm:P.follows .mixedOrders =true){f:FuncId}{fn:Func}{c:Code}{args:List SV}{r:SV}(hf:P.funcs[f]? =some fn)(hb:fn.body=some c)(hE:mE P f){A B:List Code}{id:Nat}{vA:Operand}{ps:Nat}{assign body:Code}
  (EB:dc c=A++.block id (.rangeFunc vA #[ps] assign body)::B){it:FuncId}{cap:List SV}{L:List D}(ve:Iter P gl it cap L)(bq:SV.lC cap=true)
  (hA:cV args (ik P gl (aD P gl) hh A (fun x e=>x=.normal ∧(Ab.aJ gl e vA).aa =.v (.dg (.func it) [] cap)∧∃(sh:List Slot) (I:Nat→List af→Prop) (X:Ex→List af→Prop),sh.length=e.ai.length∧
    (∀(i:Nat)s,sh[i]? =some s→s=.v .undef ∨∃s0,e.ai[i]? =some s0∧(s=s0∨s=s0.aa))∧sh.all (rC e.boxes.length)=true∧e.boxes.all (jJ e.boxes.length)=true∧
    (∀(t:Nat)s,sh[t]? =some s→yX s=true→t∉b9 hh.gh assign∧t∉b9 hh.gh body∧t≠ps)∧I 0 e.boxes∧
    (∀(k:Nat)d cp,I k cp→L[k]? =some d→cp.length=e.boxes.length→aw P gl (aD P gl) hh assign (fun x e1=>x=.normal ∧aw P gl (aD P gl) hh body (fun x e2=>(e2.boxes.take e.boxes.length).all (jJ e.boxes.length)=true∧tC I X (k+1) x (e2.boxes.take e.boxes.length)) e1) ⟨bF sh (some ps) (.v (.d d)),cp⟩)∧
    (∀cp,I L.length cp→cp.length=e.boxes.length→ik P gl (aD P gl) hh B (tE P fn (fun x=>x=r)) ⟨sh,cp⟩)∧
    (∀x cp,x≠.normal →X x cp→cp.length=e.boxes.length→x=.ret ∧finish P fn ⟨sh,cp⟩ (fun x=>x=r))) (enter fn.ntmps args))):aD P gl f args r:=by
 refine⟨hE,fun w St vs k0 mR hlen eu=>(callsIn_wide (n:=0)).1 (callsIn_of_wp_marks hf hb trivial ?_)⟩
 have ct:SV.fu args:=by
  rw[SV.jY]
  intro x hx
  obtain⟨i,hi,rfl⟩:=List.mem_iff_getElem.1 hx
  exact(eu i _ (vs[i]'(by omega)) (by simp) (by simp)).wf
 have hI:=As (fn:=fn) k0 mR hlen eu
 have hA:=hA ct
 refine Ar c _ w ?_
 rw[EB]
 refine Dj _ _ _ _ ?_
 refine xR (r:=none) (n:=0) (ds:=[]) hm A hI hA ?_
 rintro x e a1 w1 g1 bC ⟨rfl,WW,sh,I,X,jL,hs,uK,oY,fL,h0,yp,hB,hX⟩
 rw[mF bC.defers]
 have cN:=bC.drop (ai:=e.ai) (ak:=e.boxes) jL hs
 have fin:∀(x:Ex)e' a' W' g' Dd,Inv gl w ((nz St).EV Dd) e' a' W' g'→w.heap.size≤Dd→(x=.normal ∨x=.ret)→finish P fn e' (fun x=>x=r)→
   bodyPostM Fence.wide 0 P fn (fun e w'=>∃v,e=.returned v∧Below w.heap.size w w'∧∃bA ow,(∀b o,St b o→bA b o)∧(∀b o,bA b o→St b o∨(w.heap.size≤b∧b<w'.heap.size))∧qc w.heap.size w' bA ow r v) x.to (wd a' [{target:=.collected Dd,args:= #[]}]) W':=by
  intro x e' a' W' g' Dd bd zJ hx nX
  have hD:=bd.ec Dd _ (.inr ⟨rfl,rfl⟩)
  have eQ:Inv gl w (nz St) e' a' W' g':=bd.qI bd.eZ (fun b o h=>(bd.bT b o h).1) (fun D o hD=>hD.elim) (fun b o v hv=>hv.elim) (Nat.zero_le _)
  have tZ:=eQ.other (o':=.deferred none) hD.2.2.1 (KP _) (KP _) zJ (fun D ob hD=>hD.elim)
  obtain⟨r',v,jw,aU,aQ⟩:=Dh tZ nX
  subst jw
  have T0:LeavesInM Fence.wide 0 P fn a'.tmps (fun e w'=>∃v,e=.returned v∧Below w.heap.size w w'∧∃bA ow,(∀b o,St b o→bA b o)∧(∀b o,bA b o→St b o∨(w.heap.size≤b∧b<w'.heap.size))∧qc w.heap.size w' bA ow r' v) [{target:=.collected Dd,args:= #[]}] .returning W':=
   ⟨by simp,.inl ⟨Dd,_,rfl,run_takeDeferred hD.2.2.1,v,aU,v,rfl,tZ.below,g'.St,_,tZ.eZ,fun b o h=>(tZ.bT b o h).1.imp (fun h=>h) fun h1=>⟨h1,(tZ.bT b o h).2.2⟩,aQ⟩⟩
  rcases hx with rfl|rfl<;>exact T0
 show(Code.block id (.rangeFunc vA #[ps] assign body)).wpIn Fence.wide 0 P _ a1 w1
 refine wpIn_block (OF (hh:=hh) hm cN uK oY (bC.n8 WW) bq ve fL I X h0 yp ?_)
 intro x cp w' g' Dd j5 gp bd zJ _ _
 cases x with
 |normal=>
  have hb:=hB cp j5 gp
  refine xR (r:=none) hm B bd hb fun x e' a' W' g' Mn hx=>?_
  cases x with
  |normal=>exact fin .normal e' a' W' g' Dd Mn zJ (.inl rfl) hx
  |ret=>exact fin .ret e' a' W' g' Dd Mn zJ (.inr rfl) hx
  |exit i=>exact hx.elim
 |exit i=>exact absurd (hX (.exit i) cp (by simp) j5 gp).1 (by simp)
 |ret=>
  obtain⟨_,nX⟩:=hX .ret cp (by simp) j5 gp
  exact fin .ret _ _ _ _ Dd bd zJ (.inr rfl) nX
theorem S4(hm:P.follows .mixedOrders =true){f:FuncId}{fn:Func}{c:Code}{cap:List SV}{L:List D}(hf:P.funcs[f]? =some fn)(hb:fn.body=some c)(hE:mE P f)(yV:fn.results= #[])
  (hc:∀(C:pF P gl),C.L=L→SV.fu cap→IW C 0 c (fun x e log q=>(x=.normal ∨x=.ret)∧(q=none→log=L)) (enter fn.ntmps (.d (.fn (.yield C.l))::cap)) [] none):Iter P gl f cap L:=by
 refine⟨hE,fun w St l vs k0 mR hlen eu J T1 yp YP=>?_⟩
 let C:pF P gl:=⟨w.heap.size,St,l,L,J,k0,T1,yp⟩
 have T2:∀(i:Nat)x v,(SV.d (.fn (.yield l))::cap)[i]? =some x→(#[Value.func (.yield l) #[] #[]]++vs)[i]? =some v→aG w St w.heap.size (fun _ _ _=>False) x v:=by
  intro i x v hx hv
  cases i with
  |zero=>
   simp at hx hv
   subst hx
   simp[Array.getElem?_append]at hv
   subst hv
   exact .d _ _ _ (.fn _)
  |succ i=>
   rw[List.getElem?_cons_succ]at hx
   rw[Array.getElem?_append_right (by simp)]at hv
   simp only[List.size_toArray,List.length_cons,List.length_nil,Nat.zero_add,Nat.add_sub_cancel]at hv
   exact eu i x v hx hv
 have VK:(SV.d (.fn (.yield l))::cap).length =(#[Value.func (.yield l) #[] #[]]++vs).size :=by simp[hlen];omega
 have hI:=As (gl:=gl) (fn:=fn) k0 mR VK T2
 have ct:SV.fu cap:=by
  rw[SV.jY]
  intro x hx
  obtain⟨i,hi,rfl⟩:=List.mem_iff_getElem.1 hx
  exact(eu i _ (vs[i]'(by omega)) (by simp) (by simp)).wf
 have hH:C.nY (enter fn.ntmps (.d (.fn (.yield l))::cap)) [] none {tmps:=(#[Value.func (.yield l) #[] #[]]++vs)++Array.replicate (fn.ntmps-(#[Value.func (.yield l) #[] #[]]++vs).size) undef,defers:=[]} w:=
  ⟨fun _=>False,⟨St,[],fun _=>none⟩,⟨⟨w,rfl,hI⟩,fun b hm=>by simp at hm,fun b p ho=>by simp at ho,fun b o hs=>.inr hs,fun b h=>h.elim⟩,YP⟩
 have hw:=hc C rfl ct _ _ hH
 refine(callsIn_wide (n:=0)).1 (callsIn_of_wp hf hb trivial (wpIn_mono hw ?_))
 rintro x a' W' ⟨xx,e',log,q,rfl,⟨Fr,g',hS,hJ⟩,hx,hq⟩
 obtain⟨w0,h0,bd⟩:=hS.inv
 have aU:(results fn a'.tmps).run P W'=.ok (.tuple #[]) W':=by
  have:=Ad (P:=P) (fn:=fn) (tmps:=a'.tmps) (w:=W') (vs:=[]) (by rw[yV];simp)
  exact this
 have nX:a'.defers=[]∧∃v,(results fn a'.tmps).run P W'=.ok v W'∧((∃v',Ending.returned v=.returned v')∧∃Fr b5 pre q,J q Fr b5 pre W'∧(q=none→pre=L)):=
  ⟨bd.defers,_,aU,⟨_,rfl⟩,Fr,g'.St,log,q,hJ,hq⟩
 rcases hx with rfl|rfl<;>exact nX
end
end Go.Proofs.Ytaknajjmldngiaa.Ab
set_option linter.unusedVariables false
set_option linter.unusedSimpArgs false
namespace Go.Proofs.Ytaknajjmldngiaa.Ab
open Go Go.RowKit
section
variable{P:Program}{gl:Nat→Option D}{hh:Hints}
theorem Pp(hm:P.follows .mixedOrders =true){f:FuncId}{fn:Func}{c:Code}{args:List SV}{r:SV}(hf:P.funcs[f]? =some fn)(hb:fn.body=some c)(hE:mE P f){QA:Ex→Env→Prop}
  (h:cV args (aw P gl (aD P gl) hh c (fun x e=>(x=.normal ∨x=.ret)∧QA x e) (enter fn.ntmps args)))
  (fin:∀(w:World)(St:Nat→Nat→Prop)x e' a' w' g',Inv gl w (nz St) e' a' w' g'→QA x e'→∃v,(results fn a'.tmps).run P w'=.ok v w'∧∃bA ow,(∀b o,St b o→bA b o)∧(∀b o,bA b o→St b o∨(w.heap.size≤b∧b<w'.heap.size))∧qc w.heap.size w' bA ow r v):aD P gl f args r:=by
 refine⟨hE,fun w St vs k0 mR hlen eu=>?_⟩
 have ct:SV.fu args:=by
  rw[SV.jY]
  intro x hx
  obtain⟨i,hi,rfl⟩:=List.mem_iff_getElem.1 hx
  exact(eu i _ (vs[i]'(by omega)) (by simp) (by simp)).wf
 have hI:=As (fn:=fn) k0 mR hlen eu
 refine calls_of_wp hf hb (pU hm c hI (h ct) fun x e' a' w' g' bd hk=>?_)
 obtain⟨hx,hk⟩:=hk
 obtain⟨v,aU,bA,ow,h1,h2,h3⟩:=fin w St x e' a' w' g' bd hk
 have:a'.defers=[]∧∃v,(results fn a'.tmps).run P w'=.ok v w'∧(∃v',(Ending.returned v)=.returned v'∧Below w.heap.size w w'∧∃bA ow,(∀b o,St b o→bA b o)∧
  (∀b o,bA b o→St b o∨(w.heap.size≤b∧b<w'.heap.size))∧qc w.heap.size w' bA ow r v'):=⟨bd.defers,v,aU,v,rfl,bd.below,bA,ow,h1,h2,h3⟩
 rcases hx with rfl|rfl<;>exact this
theorem QO(hm:P.follows .mixedOrders =true){f:FuncId}{fn:Func}{c:Code}{args:List SV}(hf:P.funcs[f]? =some fn)(hb:fn.body=some c)(hE:mE P f){t b it:Nat}{x:D}(gR:x.one=true)(yV:fn.results= #[.tmp t])
  (h:cV args (aw P gl (aD P gl) hh c (fun ex e=>(ex=.normal ∨ex=.ret)∧(e.ai[t]? =some (.c (.func it) [] [.p b 0])∧e.boxes[b]? =some (.cells [.d x]))) (enter fn.ntmps args))):aD P gl f args (.dg (.func it) [] [.aE x 0]):=by
 refine Pp hm hf hb hE h fun w St ex e' a' w' g' hI⟨hs,cR⟩=>?_
 have hr:=hI.ai t _ hs
 have aU:(results fn a'.tmps).run P w'=.ok (a'.tmps.getD t undef) w':=by
  have:=Ad (P:=P) (fn:=fn) (tmps:=a'.tmps) (w:=w') (vs:=[a'.tmps.getD t undef]) (by rw[yV];simp[uk])
  exact this
 refine⟨_,aU,?_⟩
 generalize a'.tmps.getD t undef=v at hr
 cases hr with
 |c _ _ _ _ fv cv xr cz rf rc=>
  have va:fv= #[]:=Array.eq_empty_of_size_eq_zero (by simpa using xr.symm)
  subst va
  have kZ:cv[0]? =some (cv[0]'(by simp at cz;omega)):=by simp
  have hp:=rc 0 _ _ rfl kZ
  generalize cv[0]'(by simp at cz;omega)=u at hp kZ
  cases hp with
  |p _ _ _ aj b6=>
   obtain⟨q0,cs,ty,q1,q2,q3,q4⟩:=hI.boxes b _ aj cR b6
   have pc:cs[0]? =some (cs[0]'(by simp at q3;omega)):=by simp
   have aQ:=(q4 0 _ _ rfl pc).data
   generalize cs[0]'(by simp at q3;omega)=y at pc aQ
   have bz:(x.cells)=[x]:=D.Dt gR
   refine⟨fun b' o=>g'.St b' o∨(b'=aj∧o=0),fun _=>none,fun b' o h=>.inl (hI.eZ b' o h),fun b' o h=>?_,?_⟩
   ·rcases h with h|⟨rfl,_⟩
    ·have:=hI.bT b' o h
     exact this.1.imp (fun h=>h) fun h1=>⟨h1,this.2.2⟩
    ·exact .inr (hI.cU b' (List.mem_of_getElem? b6))
   ·show aG w' _ 0 _ (.dg (.func it) [] [.aE x 0]) _
    refine .dg _ _ _ _ #[] cv rfl (by simpa using cz) (fun i x v h=>by simp at h) (fun i z v' hz fX=>?_)
    cases i with
    |succ i=>simp at hz
    |zero=>
     simp at hz;subst hz
     rw[kZ]at fX;cases fX
     refine .aE _ x 0 aj 0 (fun _=>y) (fun c hc=>by rw[bz]at hc;rw[List.mem_singleton.1 hc];exact gR) (fun i hi=>?_) (fun i c hc=>?_)
     ·rw[bz]at hi
      have:i=0:=by simp at hi;omega
      subst this
      refine⟨?_,.inr ⟨rfl,rfl⟩⟩
      rw[cell_of_row w' aj (0+0) cs ty (0,0) q1];exact pc
     ·rw[bz]at hc
      cases i with
      |succ i=>simp at hc
      |zero=>simp at hc;subst hc;exact aQ.mono fun b' o h=>⟨.inl h,rfl⟩
end
end Go.Proofs.Ytaknajjmldngiaa.Ab
set_option linter.unusedVariables false
set_option linter.unusedSimpArgs false
namespace Go.Proofs.Ytaknajjmldngiaa.Ab
open Go Go.RowKit
def tq:List Slot→List Slot→Prop
 |[],[]=>True
 |s::l,t::m=>(s=.v .undef ∨∃x,t=.v x∧s=.v (aa x))∧tq l m
 |_,_=>False
theorem Jz:∀{l m:List Slot},tq l m→l.length=m.length
 |[],[],_=>rfl
 |s::l,t::m,h=>by simp[Jz h.2]
 |[],_::_,h=>h.elim
 |_::_,[],h=>h.elim
theorem JA:∀{l m:List Slot},tq l m→∀(i:Nat)s,l[i]? =some s→s=.v .undef ∨∃x,m[i]? =some (.v x)∧s=.v (aa x)
 |[],[],_,i,s,h=>by simp at h
 |s::l,t::m,h,0,s',h'=>by
  simp at h';subst h'
  rcases h.1 with h1|⟨x,rfl,h1⟩
  ·exact .inl h1
  ·exact .inr ⟨x,rfl,h1⟩
 |s::l,t::m,h,i+1,s',h'=>by simpa using JA h.2 i s' (by simpa using h')
 |[],_::_,h,_,_,_=>h.elim
 |_::_,[],h,_,_,_=>h.elim
section
variable{P:Program}{gl:Nat→Option D}{n:Nat}{e:Env}{C:pF P gl}{log:List D}{q:Option Unit}
theorem IW.wT{c:Code}{Q:Ex→Env→List D→Option Unit→Prop}{sh:List Slot}(hw:tq sh e.ai)(h:IW C n c Q ⟨sh,[]⟩ log q):IW C n c Q e log q:=fun a W hH=>by
 refine h a W ?_
 obtain⟨Fr,g,hS,hJ⟩:=hH
 obtain⟨w0,h0,hI⟩:=hS.inv
 refine⟨Fr,g.cut 0,⟨⟨w0,h0,?_⟩,fun b hm=>by simp[Gh.cut]at hm,hS.ow,hS.st,hS.fr⟩,hJ⟩
 refine⟨hI.below,by rw[hI.size,Jz hw],fun i s hi=>?_,by simp[Gh.cut],fun b bx aj h1=>by simp at h1,fun i j aj h1=>by simp[Gh.cut]at h1,hI.eZ,fun b o hs=>⟨(hI.bT b o hs).1,by simp[Gh.cut],(hI.bT b o hs).2.2⟩,fun b hm=>by simp[Gh.cut]at hm,hI.js,hI.defers,fun D o hD=>hD.elim,fun b o v hv=>hv.elim,hI.iX⟩
 rcases JA hw i s hi with rfl|⟨x,he,rfl⟩
 ·exact .v _ _ _ (.undef _ _)
 ·exact .v _ _ _ (hI.ai i _ he).jG.aa
end
end Go.Proofs.Ytaknajjmldngiaa.Ab
set_option linter.unusedVariables false
set_option linter.unusedSimpArgs false
namespace Go.Proofs.Ytaknajjmldngiaa.Ab
open Go Go.RowKit
section
variable{P:Program}{gl:Nat→Option D}{w0:World}{an:S0}{e:Env}{a:Act}{w:World}{g:Gh}
theorem Inv.act(hI:Inv gl w0 an e a w g){a':Act}(hs:a'.tmps.size=a.tmps.size)(hd:a'.defers=[])(h:∀(t:Nat)s,e.ai[t]? =some s→s≠.v .undef →a'.tmps.getD t undef=a.tmps.getD t undef):Inv gl w0 an e a' w g:=by
 refine⟨hI.below,by rw[hs,hI.size],fun i s hi=>?_,hI.er,hI.boxes,hI.nodup,hI.eZ,hI.bT,hI.cU,hI.js,hd,hI.ec,hI.cls,hI.iX⟩
 by_cases hu:s=.v .undef
 ·subst hu;exact .v _ _ _ (.undef _ _)
 ·rw[h i s hi hu];exact hI.ai i s hi
theorem Inv.Mo(hI:Inv gl w0 an e a w g){b j sz aj:Nat}{cs:List SV}{L:List D}(hb:e.boxes[b]? =some (.cells cs))(b6:g.bx[b]? =some (some aj))(hj:cs[j]? =some (.bj sz L)):
  ∃g',g'.bx=g.bx∧(∀b o,g.St b o→g'.St b o)∧Inv gl w0 an ⟨e.ai,e.boxes.set b (.cells (cs.set j (.d (.sl .ro sz L))))⟩ a w g':=by
 obtain⟨h0,c,ty,hc,bz,hlen,aQ⟩:=hI.boxes b _ aj hb b6
 have jd:=(List.getElem?_eq_some_iff.1 hj).1
 have ua:c[j]? =some (c[j]'(by omega)):=by simp
 have hv:=aQ j _ _ hj ua
 generalize fq:c[j]'(by omega)=v at hv ua
 cases hv with
 |bj _ _ _ gg cap vs bq hm aB hf ho aN cJ=>
  obtain⟨o1,o2,o3,⟨cur,te,o4,oe⟩,o5⟩:=ho
  let g':Gh:={g with St:=fun b o=>g.St b o∨(b=gg∧o<L.length*sz)}
  have hX:Ext w0.heap.size w g w g' (fun p=>p=.b b j):=by
   refine⟨fun D ob hb dh h=>⟨h,hb,dh,fun x hx=>hx.elim id fun e=>(by rw[e.1]at dh;rw[o1]at dh;cases dh)⟩,fun _ _ h=>⟨.inl h,.refl _ _ _⟩,fun _ _ _=>rfl,fun _ _ h=>h,fun p b a' c hp bJ=>⟨?_,.refl _ _ _⟩,.refl _⟩
   obtain⟨p1,p2,p3,p4,p5⟩:=bJ
   refine⟨p1,p2,p3,p4,fun o ho=>?_⟩
   rintro(h|⟨rfl,_⟩)
   ·exact p5 o ho h
   ·rw[o1]at p1;cases p1;exact hp rfl
  refine⟨g',rfl,fun b o h=>.inl h,?_⟩
  have:=hI.stepG (dst:=none) (s:=.t []) (v:=undef) (ai:=e.ai) (ak:=e.boxes.set b (.cells (cs.set j (.d (.sl .ro sz L))))) hX (Below.refl _ _) rfl (fun i x hx _=>hX.slot (fun j=>by intro h;cases h) (hI.ai i x hx)) (fun d hd=>by cases hd) (by simpa using hI.er)
   (fun b' bx g8 h1 h2=>?_) hI.nodup hI.cU (fun b' o h=>?_)
  ·exact this
  ·rw[List.getElem?_set]at h1
   split at h1
   ·rename_i cD
    subst cD
    split at h1
    ·cases h1
     have oh:g.bx[b]? =some (some g8):=h2
     rw[b6]at oh;cases oh
     refine⟨h0,c,ty,hc,fun j' y jM hy=>bz j' y (by simpa[af.size]using jM) hy,by simpa using hlen,fun j' x y hx hy=>?_⟩
     rw[List.getElem?_set]at hx
     split at hx
     ·rename_i vB
      subst vB
      cases hx
      rw[ua]at hy;cases hy
      refine .d _ _ _ (.sl sz L gg 0 cap vs bq (Nat.le_trans bq hm) aB hf (fun o ho=>⟨by rw[Nat.zero_add];exact aN o ho,.inr ⟨rfl,by omega⟩⟩) (fun i x j c h1 h2=>(cJ i x j c h1 h2).mono fun b o h=>⟨.inl h,rfl⟩))
     ·rename_i vB
      exact(aQ j' x y hx hy).mono (fun b o h=>hX.st b o h) (fun b o h=>hX.bs b o h) _ (fun YQ a' c' h=>hX.own _ _ _ _ (fun he=>vB (by cases he;rfl)) h)
    ·cases h1
   ·rename_i cD
    exact hX.box (fun j' he=>cD (by cases he;rfl)) rfl (hI.boxes b' bx g8 h1 h2)
  ·rcases h with h|⟨rfl,_⟩
   ·exact hI.bT b' o h
   ·exact⟨.inr o2,o3,(Array.getElem?_eq_some_iff.1 o4).1⟩
def D.BX:D→Bool
 | .bool _=>true
 | .int _ _=>true
 | .str _=>true
 |_=>false
theorem aK.BX{St bA:Nat→Nat→Prop}{w':World}{x:D}{v:Value}(r:aK w St x v)(h:x.BX=true):aK w' bA x v:=by
 cases r with
 |bool b=>exact .bool b
 |int k n hk=>exact .int k n hk
 |str s hs=>exact .str s hs
 |_=>cases h
theorem Inv.WX(hB:Inv gl w0 an e a w g){b t aj:Nat}{cs:List SV}{ds:List D}(ht:e.ai[t]? =some (.p b 0))(hb:e.boxes[b]? =some (.cells cs))(b6:g.bx[b]? =some (some aj))(iZ:dT cs=some ds):
  Inv gl w (nz fun b' o=>g.St b' o∨b'=aj) ⟨(List.replicate e.ai.length (.v .undef)).set t (.v (.aE (.agg ds) 0)),[]⟩ a w ⟨fun b' o=>g.St b' o∨b'=aj,[],fun _=>none⟩:=by
 obtain⟨h0,c,ty,hc,bz,hlen,aQ⟩:=hB.boxes b _ aj hb b6
 obtain⟨zD,WY⟩:=Ds iZ
 have Nj:∀(i:Nat)d y,ds[i]? =some d→c[i]? =some y→aK w g.St d y:=fun i d y hd hy=>by
  have hi:i<cs.length:=by rw[←zD];exact(List.getElem?_eq_some_iff.1 hd).1
  have sj:cs[i]? =some cs[i]:=by simp[hi]
  exact(aQ i _ y sj hy).cg (WY i _ d sj hd)
 refine⟨Below.refl _ _,by simp[hB.size],fun i s hs=>?_,rfl,fun b bx aj h1=>by simp at h1,fun i j aj h1=>by simp at h1,fun _ _ h=>h,fun b' o h=>⟨.inl h,by simp,?_⟩,fun b hb=>by simp at hb,fun n x hx=>?_,hB.defers,fun D o hD=>hD.elim,fun b o v hv=>hv.elim,Nat.zero_le _⟩
 ·simp only at hs
  rw[List.getElem?_set]at hs
  split at hs
  ·rename_i j8
   subst j8
   split at hs
   ·cases hs
    obtain⟨g8,hv,BG⟩:=(hB.ai t _ ht).jq
    rw[b6]at BG;cases BG
    rw[hv]
    refine .v _ _ _ (.aE _ (.agg ds) 0 aj 0 (fun i=>c.getD i undef) (fun d hd=>?_) (fun i hi=>?_) (fun i d hd=>?_))
    ·obtain⟨i,hi,rfl⟩:=List.mem_iff_getElem.1 hd
     have dp:i<ds.length:=hi
     have sj:c[i]? =some (c[i]'(by omega)):=by simp
     exact(Nj i _ _ (by simp[D.cells]) sj).Oz (bz i _ (by simp only[af.size];omega) sj)
    ·have dp:i<ds.length:=hi
     rw[cell_of_row w aj (0+i) c ty (0,0) hc]
     have:i<c.size:=by omega
     exact⟨by simp[this],.inr rfl⟩
    ·have dp:i<ds.length:=(List.getElem?_eq_some_iff.1 hd).1
     have:i<c.size:=by omega
     have:=Nj i d (c.getD i undef) hd (by simp[this])
     exact this.mono fun b o h=>⟨.inl h,rfl⟩
   ·cases hs
  ·have:=(List.mem_replicate.1 (List.mem_of_getElem? hs)).2
   subst this
   exact .v _ _ _ (.undef _ _)
 ·rcases h with h|rfl
  ·exact hB.mJ h
  ·exact(hB.cU _ (List.mem_of_getElem? b6)).2
 ·obtain⟨g0,vs,g1,g2⟩:=hB.js n x hx
  exact⟨g0,vs,fun i hi=>⟨(g1 i hi).1,.inl (g1 i hi).2⟩,fun i c hc=>(g2 i c hc).mono fun b o h=>⟨.inl h,rfl⟩⟩
theorem P7(hm:P.follows .mixedOrders =true){hh:Hints}{n:Nat}{c:Code}(hI:Inv gl w0 an e a w g){gB:Gh}{eB:Env}(hB:Inv gl w0 an eB a w gB)(cR:gB.bx=g.bx){b t aj:Nat}{cs:List SV}{ds:List D}(hlen:eB.ai.length=e.ai.length)
  (ht:eB.ai[t]? =some (.p b 0))(hb:eB.boxes[b]? =some (.cells cs))(b6:gB.bx[b]? =some (some aj))(iZ:dT cs=some ds){d sz:Nat}{M:List D}(VL:∀x∈M,∀k∈x.cells,k.BX=true)(hd:d<e.ai.length)
  (hw:∀t∈b9 hh.gh c,t≠d→∀s,e.ai[t]? =some s→s=.v .undef)
  (h:aw P gl (aD P gl) hh c (fun x e'=>x=.normal ∧e'.ai[d]? =some (.v (.own sz M))) ⟨(List.replicate eB.ai.length (.v .undef)).set t (.v (.aE (.agg ds) 0)),[]⟩)
  {Q:Exit→Act→World→Prop}(hQ:∀a' w' g',Inv gl w0 an ⟨e.ai.set d (.v (.own sz M)),e.boxes⟩ a' w' g'→Q .normal a' w'):c.wpIn Fence.wide n P Q a w:=by
 have hE:=hB.WX ht hb b6 iZ
 have:=nJ (r:=none) (n:=n) (ds:=[]) hm c hE (m5 c h) (Q:=Q) (fun x e' a' w' g' bd⟨⟨hx,hs⟩,pB⟩gu=>by
  subst hx
  rw[mF bd.defers]
  have hv:=(bd.ai d _ hs).jG
  generalize fq:a'.tmps.getD d undef=v at hv
  cases hv with
  |own _ _ _ gg cap dN bq ho=>
   obtain⟨o1,o2,o3,⟨cur,te,o4,oe⟩,o5⟩:=ho
   have aS:gg<w'.heap.size:=(Array.getElem?_eq_some_iff.1 o4).1
   let bA:Nat→Nat→Prop:=fun b o=>g.St b o∨(b=gg∧g'.St b o)
   have g9:aG w' bA 0 (qq w.heap.size w' bA (fun b=>if b=gg then some 0 else none) 0) (.own sz M) (.slice (some ⟨gg,0,none⟩) M.length cap):=by
    refine .own _ sz M gg cap ?_ bq ⟨by simp,o2,⟨cur,te,o4,oe⟩,fun o ho=>?_⟩
    ·cases dN with
     |sl _ _ _ _ _ vs LM pz aB hf aN hc=>
      exact .sl sz M gg 0 cap vs LM pz aB hf (fun o ho=>⟨(aN o ho).1,.inr ⟨rfl,(aN o ho).2⟩⟩) (fun i x j k h1 h2=>(hc i x j k h1 h2).BX (VL x (List.mem_of_getElem? h1) k (List.mem_of_getElem? h2)))
     |iU _ _ _ ha=>exact absurd rfl ha
    ·rintro(h|⟨_,h⟩)
     ·have:=hI.mJ h;omega
     ·exact o5 o ho h
   obtain⟨g2,Cl⟩:=hI.called (w':=w') (bA:=bA) (ow:=fun b=>if b=gg then some 0 else none) bd.below (fun b o h=>.inl h) (fun b o h=>by
    rcases h with h|⟨rfl,_⟩
    ·exact .inl h
    ·exact .inr ⟨o2,aS⟩) (some d) (s:=.v (.own sz M)) (v:=.slice (some ⟨gg,0,none⟩) M.length cap) (fun g2 iY hO d' ic=>by
    cases ic
    refine .v _ _ _ ?_
    have:=(g9.xX (Nat.zero_le w0.heap.size))
    rw[←iY]at this
    exact this.mono (fun _ _ h=>⟨h,.refl _ _ _⟩) (fun _ _ _=>rfl) _ (fun b a c h=>⟨hO _ rfl 0 b a c (by rw[iY]at h;exact h),.refl _ _ _⟩))
   have aB:a'.tmps.size=a.tmps.size:=by
    have h1:=bd.size
    have h2:=hE.size
    have h3:=pB.1
    omega
   refine hQ a' w' g2 (Cl.act (by rw[s9];exact aB) bd.defers fun t' s' ew bm=>?_)
   have tW:t'<a.tmps.size:=by rw[hI.size];have:=(List.getElem?_eq_some_iff.1 ew).1;simpa[z5]using this
   rw[s8 a (some d) _ t' tW]
   by_cases Cm:d=t'
   ·subst Cm
    rw[if_pos rfl,fq]
   ·rw[if_neg (by simpa using Cm)]
    have eP:e.ai[t']? =some s':=by
     simp only[bF]at ew
     rw[List.getElem?_set_ne Cm]at ew
     exact ew
    by_cases dq:t'∈b9 hh.gh c
    ·exact absurd (hw t' dq (fun h=>Cm h.symm) s' eP) bm
    ·exact gu t' dq)
 rw[mF hE.defers]at this
 exact this
end
end Go.Proofs.Ytaknajjmldngiaa.Ab
set_option linter.unusedVariables false
set_option linter.unusedSimpArgs false
namespace Go.Proofs.Ytaknajjmldngiaa.Ab
open Go Go.RowKit
section
variable{P:Program}{gl:Nat→Option D}{w0:World}{an:S0}{e:Env}{a:Act}{w:World}{g:Gh}
theorem Inv.S5(hI:Inv gl w0 an e a w g){b aj j sz i f2:Nat}{cs:List SV}{L:List D}{x x' d:D}{v:Value}(hb:e.boxes[b]? =some (.cells cs))(b6:g.bx[b]? =some (some aj))(hj:cs[j]? =some (.bj sz L))(hx:L[i]? =some x)
  (hv:∀w St,aK w St d v)(vC:d.one=true)(cB:x'.cells=x.cells.set f2 d)(vi:f2<sz):
  ∃gg cap cur te c ty,w0.heap.size≤aj∧w.heap[aj]? =some (.cells c ty (0,0))∧cs.length≤c.size∧c[j]? =some (.slice (some ⟨gg,0,none⟩) L.length cap)∧L.length≤cap∧w.heap[gg]? =some (.cells cur te (0,0))∧cur.size=cap*sz∧
   Inv gl w0 an ⟨e.ai,e.boxes.set b (.cells (cs.set j (.bj sz (L.set i x'))))⟩ a (w.setRow gg (cur.toList.take (i*sz+f2)++[v]++cur.toList.drop (i*sz+f2+1)).toArray) g:=by
 obtain⟨h0,c,ty,hc,bz,hlen,aQ⟩:=hI.boxes b _ aj hb b6
 have jd:=(List.getElem?_eq_some_iff.1 hj).1
 have ua:c[j]? =some (c[j]'(by omega)):=by simp
 have Nk:=aQ j _ _ hj ua
 generalize fq:c[j]'(by omega)=vv at Nk ua
 cases Nk with
 |bj _ _ _ gg cap vs bq hm aB hf ho aN cJ=>
  obtain⟨o1,o2,o3,⟨cur,te,o4,oe⟩,o5⟩:=ho
  have jO:i<L.length:=(List.getElem?_eq_some_iff.1 hx).1
  have rG:i*sz+f2<L.length*sz:=by
   have:(i+1)*sz≤L.length*sz:=Nat.mul_le_mul_right _ jO
   rw[Nat.succ_mul]at this;omega
  have hLc:L.length*sz≤cap*sz:=Nat.mul_le_mul_right _ bq
  generalize Fj:(cur.toList.take (i*sz+f2)++[v]++cur.toList.drop (i*sz+f2+1)).toArray =lK
  have j4:∀o,o<cur.size→lK[o]? =if o=i*sz+f2 then some v else cur[o]? :=by
   intro o ho
   rw[←Fj,List.getElem?_toArray,List.append_assoc,List.getElem?_append]
   have h1:(cur.toList.take (i*sz+f2)).length =i*sz+f2:=by simp;omega
   rw[h1]
   by_cases aS:o<i*sz+f2
   ·rw[if_pos aS,if_neg (by omega),List.getElem?_take,if_pos aS];simp
   ·rw[if_neg aS]
    by_cases heq:o=i*sz+f2
    ·subst heq;simp
    ·rw[if_neg heq,List.getElem?_append_right (by simp;omega),List.getElem?_drop]
     simp only[List.length_singleton]
     rw[show i*sz+f2+1+(o-(i*sz+f2)-1)=o by omega];simp
  have yw:lK.size=cur.size:=by
   rw[←Fj];simp;omega
  have g9:=setRow_heap w gg cur lK te (0,0) o4
  have de:=fun k(hk:k≠gg)=>setRow_other w gg k lK hk
  have ZR:gg≠aj:=fun h=>o3 (by rw[h];exact List.mem_of_getElem? b6)
  have LY:∀b' o,g.St b' o→b'≠gg:=fun b' o h he=>o5 o (Nat.zero_le _) (he▸h)
  have hX:Ext w0.heap.size w g (w.setRow gg lK) g (fun p=>p=.b b j):=by
   refine⟨fun D ob qB dh h=>⟨(de D (fun he=>by subst he;rw[o1]at dh;cases dh)).trans h,qB,dh,fun _ h=>h⟩,fun b' o h=>⟨h,.pS (de b' (LY b' o h))⟩,fun b' o h=>World.cell?_of_block (de b' (by omega)),fun _ _ h=>h,fun p b' a' c' hp bJ=>?_,fun b' c' rU di=>?_⟩
   ·obtain⟨p1,p2,p3,⟨cu,t',p4,YR⟩,p5⟩:=bJ
    have bm:b'≠gg:=fun he=>by subst he;rw[o1]at p1;cases p1;exact hp rfl
    exact⟨⟨p1,p2,p3,⟨cu,t',(de b' bm).trans p4,YR⟩,p5⟩,fun _=>de b' bm⟩
   ·by_cases cD:b'=gg
    ·subst cD
     rw[o4]at di;cases di
     exact⟨lK,te,g9,yw⟩
    ·exact⟨c',rU,(de b' cD).trans di,rfl⟩
  refine⟨gg,cap,cur,te,c,ty,h0,hc,hlen,ua,bq,o4,oe,?_⟩
  rw[Fj]
  have:=hI.stepG (dst:=none) (s:=.t []) (v:=undef) (ai:=e.ai) (ak:=e.boxes.set b (.cells (cs.set j (.bj sz (L.set i x'))))) hX ⟨rfl,rfl,rfl,by simp[World.setRow],fun k hk=>de k (by omega)⟩ rfl (fun i x hx _=>hX.slot (fun j=>by intro h;cases h) (hI.ai i x hx)) (fun d hd=>by cases hd) (by simpa using hI.er)
   (fun b' bx g8 h1 h2=>?_) hI.nodup (fun b' pz=>by have:=hI.cU b' pz;exact⟨this.1,by simpa[World.setRow]using this.2⟩) (fun b' o h=>by have:=hI.bT b' o h;exact⟨this.1,this.2.1,by simpa[World.setRow]using this.2.2⟩)
  ·exact this
  ·have bm:g8≠gg:=fun he=>o3 (by rw[←he];exact List.mem_of_getElem? h2)
   rw[List.getElem?_set]at h1
   split at h1
   ·rename_i cD
    subst cD
    split at h1
    ·cases h1
     rw[b6]at h2;cases h2
     refine⟨h0,c,ty,(de aj bm).trans hc,fun j' y jM hy=>bz j' y (by simpa[af.size]using jM) hy,by simpa using hlen,fun j' x1 y gR hy=>?_⟩
     rw[List.getElem?_set]at gR
     split at gR
     ·rename_i vB
      subst vB
      cases gR
      rw[ua]at hy;cases hy
      have cz:x'.cells.length=sz:=by rw[cB,List.length_set];exact aB x (List.mem_of_getElem? hx)
      have Nl:aG (w.setRow gg lK) g.St w0.heap.size (nT w0.heap.size (w.setRow gg lK) g b j) (.bj sz (L.set i x')) (.slice (some ⟨gg,0,none⟩) (L.set i x').length cap):=by
       refine .bj _ sz _ gg cap (fun o=>if o=i*sz+f2 then v else vs o) (by simpa using bq) hm (fun y hy=>?_) (fun y hy k hk=>?_) ⟨o1,o2,o3,⟨lK,te,g9,by rw[yw];exact oe⟩,o5⟩ (fun o ho=>?_) (fun i2 y j2 k hy hk=>?_)
       ·rcases List.mem_or_eq_of_mem_set hy with hy|rfl
        ·exact aB y hy
        ·exact cz
       ·rcases List.mem_or_eq_of_mem_set hy with hy|rfl
        ·exact hf y hy k hk
        ·rw[cB]at hk
         rcases List.mem_or_eq_of_mem_set hk with hk|rfl
         ·exact hf x (List.mem_of_getElem? hx) k hk
         ·exact vC
       ·rw[List.length_set]at ho
        rw[cell_of_row _ gg o lK te (0,0) g9,j4 o (by omega)]
        by_cases heq:o=i*sz+f2
        ·simp[heq]
        ·simp only[if_neg heq]
         have:=aN o ho
         rw[cell_of_row w gg o cur te (0,0) o4]at this
         exact this
       ·have mono:∀{D:D}{u:Value},aK w g.St D u→aK (w.setRow gg lK) g.St D u:=fun h=>h.mono fun b' o hs=>⟨hs,World.cell?_of_block (de b' (LY b' o hs))⟩
        rw[List.getElem?_set]at hy
        split at hy
        ·rename_i sc
         subst sc
         cases hy
         rw[cB,List.getElem?_set]at hk
         split at hk
         ·rename_i Nm
          subst Nm
          split at hk
          ·cases hk
           rw[if_pos rfl]
           exact hv _ _
          ·cases hk
         ·rename_i Nm
          rw[if_neg (by omega)]
          exact mono (cJ i x j2 k hx hk)
        ·rename_i sc
         have od:j2<sz:=by
          have h1:=(List.getElem?_eq_some_iff.1 hk).1
          rw[aB y (List.mem_of_getElem? hy)]at h1;exact h1
         rw[if_neg (fun he=>?_)]
         ·exact mono (cJ i2 y j2 k hy hk)
         ·have h1:(i2*sz+j2) / sz=i2:=by rw[Nat.mul_comm,Nat.mul_add_div (by omega),Nat.div_eq_of_lt od];omega
          have h2:(i*sz+f2) / sz=i:=by rw[Nat.mul_comm,Nat.mul_add_div (by omega),Nat.div_eq_of_lt vi];omega
          rw[he,h2]at h1
          exact sc h1
      rw[List.length_set]at Nl
      exact Nl
     ·rename_i vB
      exact(aQ j' x1 y gR hy).mono (fun b o h=>hX.st b o h) (fun b o h=>hX.bs b o h) _ (fun YQ a' c' h=>hX.own _ _ _ _ (fun he=>vB (by cases he;rfl)) h)
    ·cases h1
   ·rename_i cD
    exact hX.box (fun j' he=>cD (by cases he;rfl)) (de g8 bm) (hI.boxes b' bx g8 h1 h2)
variable{ops:Array Oper}{n:Nat}
theorem AI{i:Nat}{o:Oper}(ho:ops[i]? =some o)(hg:o.guard=none)(nk:∀c,o.op≠.defer c){v:Value}(fj:a.defers=[])(aU:(execOp a.eval o).run P w=.ok (.value v) w){next:Act→World→Prop}{Q:Exit→Act→World→Prop}(h:next (a.put o.dst v) w):wpOpIn Fence.wide n P ops Q i next a w:=by
 unfold wpOpIn
 simp only[ho]
 rw[if_pos (by simp[Region.wanted,hg])]
 have:=Eg (r:=none) (n:=n) (ds:=[]) (P:=P) (o:=o) (a:=a) (w:=w) (next:=next) (Q:=Q) nk (by
  unfold Oper.wp
  rw[aU]
  exact⟨(put_defers a o.dst v).trans fj,by rw[mF ((put_defers a o.dst v).trans fj)];exact h⟩)
 rw[mF fj]at this
 exact this
theorem S6{i:Nat}{o:Oper}(ho:ops[i]? =some o)(hg:o.guard=none)(hd:o.dst=none)(nk:∀c,o.op≠.defer c){w':World}(fj:a.defers=[])(aU:(execOp a.eval o).run P w=.ok .skip w'){next:Act→World→Prop}{Q:Exit→Act→World→Prop}(h:next a w'):wpOpIn Fence.wide n P ops Q i next a w:=by
 unfold wpOpIn
 simp only[ho]
 rw[if_pos (by simp[Region.wanted,hg])]
 have:=Eg (r:=none) (n:=n) (ds:=[]) (P:=P) (o:=o) (a:=a) (w:=w) (next:=next) (Q:=Q) nk (by
  unfold Oper.wp
  rw[aU]
  show(a.put o.dst undef).defers =[]∧next (wd (a.put o.dst undef) []) w'
  rw[hd]
  exact⟨fj,by rw[mF (show(a.put none undef).defers =[] from fj)];exact h⟩)
 rw[mF fj]at this
 exact this
end
end Go.Proofs.Ytaknajjmldngiaa.Ab
set_option linter.unusedVariables false
set_option linter.unusedSimpArgs false
namespace Go.Proofs.Ytaknajjmldngiaa.Ab
open Go Go.RowKit
theorem z8{a:Act}{t:Nat}{v:Value}(h:t<a.tmps.size):(a.put (some t) v).eval (.tmp t)=v:=by
 show(a.put (some t) v).tmps.getD t undef=v
 rw[s8 a (some t) v t h,if_pos rfl]
section
variable{P:Program}{gl:Nat→Option D}{w0:World}{an:S0}{e:Env}{a:Act}{w:World}{g:Gh}{n:Nat}
theorem Pq(hI:Inv gl w0 an e a w g){id:Nat}{ops:Array Oper}(WZ:ops.size=5){o0 o1 o2 o3 o4:Oper}(h0:ops[0]? =some o0)(h1:ops[1]? =some o1)(h2:ops[2]? =some o2)(h3:ops[3]? =some o3)(h4:ops[4]? =some o4)
  (g0:o0.guard=none)(g1:o1.guard=none)(g2:o2.guard=none)(g3:o3.guard=none)(g4:o4.guard=none){p t0 t1 t2 t3:Nat}(d0:o0.dst=some t0)(d1:o1.dst=some t1)(d2:o2.dst=some t2)(d3:o3.dst=some t3)(d4:o4.dst=none)
  {T ST ET FT:TypeId}{f fi:Nat}{ix:Nat}{v:Value}(p0:o0.op=.fieldAddr T (.tmp p) f)(p1:o1.op=.load ST (.tmp t0))(p2:o2.op=.indexAddr ST (.tmp t1) (.const (.int .i64 (ix:Int))))(p3:o3.op=.fieldAddr ET (.tmp t2) fi)(p4:o4.op=.store FT (.tmp t3) (.const v))
  {fd mV:Field}{s1 s2 sz:Nat}(q0:jX P T f=some fd)(q1:ck P fd.type=some s1)(YS:s1≠0)(q2:fH P ST=some (false,1))(q3:P.underlying ST=some (.slice ET))(q4:ck P ET=some sz)
  (q5:jX P ET fi=some mV)(q6:ck P mV.type=some s2)(YT:s2≠0)(q7:ck P FT=some 1)(q8:v.cells= #[v])(q9:v.oneCell'=true)
  {b j:Nat}{cs:List SV}{L:List D}{x x' d:D}(hp:e.ai[p]? =some (.p b 0))(hb:e.boxes[b]? =some (.cells cs))(lP:fd.offset=j)(hj:cs[j]? =some (.bj sz L))(hx:L[ix]? =some x)(hv:∀w St,aK w St d v)(vC:d.one=true)
  (cB:x'.cells=x.cells.set mV.offset d)(vi:mV.offset<sz)(e0:e.ai[t0]? =some (.v .undef))(e1:e.ai[t1]? =some (.v .undef))(e2:e.ai[t2]? =some (.v .undef))(e3:e.ai[t3]? =some (.v .undef))(bm:t0≠p∧t1≠p)
  {Q:Exit→Act→World→Prop}(hQ:∀a' w' g',Inv gl w0 an ⟨e.ai,e.boxes.set b (.cells (cs.set j (.bj sz (L.set ix x'))))⟩ a' w' g'→Q .normal a' w'):(Code.region id ops false).wpIn Fence.wide n P Q a w:=by
 obtain⟨aj,YU,b6⟩:=(hI.ai p _ hp).jq
 obtain⟨gg,cap,cur,te,c,ty,k1,k2,k3,k4,k5,k6,k7,k8⟩:=hI.S5 hb b6 hj hx hv vC cB vi
 have lt:∀{t:Nat}{s:Slot},e.ai[t]? =some s→t<a.tmps.size:=fun h=>by rw[hI.size];exact(List.getElem?_eq_some_iff.1 h).1
 have jO:ix<L.length:=(List.getElem?_eq_some_iff.1 hx).1
 have rG:ix*sz+mV.offset<cap*sz:=by
  have h5:(ix+1)*sz≤cap*sz:=Nat.mul_le_mul_right _ (by omega)
  rw[Nat.succ_mul]at h5;omega
 refine wpIn_region ?_
 rw[WZ]
 show wpOpsIn Fence.wide n P ops Q [0,1,2,3,4] a w
 obtain⟨fs,hu,u9⟩:=Ac q0
 obtain⟨fs2,GQ,W0⟩:=Ac q5
 have YV:a.eval (.tmp p)=.pointer (some ⟨aj,0,none⟩):=YU
 rw[wpOpsIn_cons]
 refine AI h0 g0 (fun c=>by rw[p0];simp) (v:=.pointer (some ⟨aj,j,none⟩)) hI.defers ?_ ?_
 ·have:=mw aj 0 fd.offset
  rw[Nat.zero_add,lP]at this
  simp[execOp,p0,Instr.fieldAt,run_underlying hu,u9,Instr.sureAddr,YV,CH q1 YS,lP,this]
 rw[d0,wpOpsIn_cons]
 have Fk:(a.put (some t0) (.pointer (some ⟨aj,j,none⟩))).defers =[]:=(put_defers _ _ _).trans hI.defers
 have Nn:=z8 (v:=.pointer (some ⟨aj,j,none⟩)) (lt e0)
 refine AI h1 g1 (fun c=>by rw[p1];simp) (v:=.slice (some ⟨gg,0,none⟩) L.length cap) Fk ?_ ?_
 ·have hl:=sQ (w:=w) q2 aj j (fun _=>.slice (some ⟨gg,0,none⟩) L.length cap) (fun j' jM=>by
   simp at jM;subst jM
   rw[cell_of_row w aj (j+0) c ty (0,0) k2];exact k4)
  simp only[Bool.false_eq_true,if_false]at hl
  simp[execOp,p1,Instr.loadAt,Instr.sureAddr,Nn,hl]
 rw[d1,wpOpsIn_cons]
 generalize No:a.put (some t0) (.pointer (some ⟨aj,j,none⟩))=a1 at Fk Nn ⊢
 have tU:a1.tmps.size=a.tmps.size:=by rw[←No,s9]
 have Np:=z8 (a:=a1) (t:=t1) (v:=.slice (some ⟨gg,0,none⟩) L.length cap) (by rw[tU];exact lt e1)
 have Fl:(a1.put (some t1) (.slice (some ⟨gg,0,none⟩) L.length cap)).defers =[]:=(put_defers _ _ _).trans Fk
 generalize Nq:a1.put (some t1) (.slice (some ⟨gg,0,none⟩) L.length cap)=a2 at Fl Np ⊢
 have Nr:a2.tmps.size=a.tmps.size:=by rw[←Nq,s9,tU]
 refine AI h2 g2 (fun c=>by rw[p2];simp) (v:=.pointer (some ⟨gg,ix*sz,none⟩)) Fl ?_ ?_
 ·have:=mw gg 0 (ix*sz)
  rw[Nat.zero_add]at this
  have hc:a2.eval (.const (.int .i64 (ix:Int)))=.int .i64 (ix:Int):=rfl
  simp[execOp,p2,Instr.indexAt,hc,asIntOf,run_underlying q3,Np,jO,jh q4,this]
 rw[d2,wpOpsIn_cons]
 have Ns:=z8 (a:=a2) (t:=t2) (v:=.pointer (some ⟨gg,ix*sz,none⟩)) (by rw[Nr];exact lt e2)
 have Fm:(a2.put (some t2) (.pointer (some ⟨gg,ix*sz,none⟩))).defers =[]:=(put_defers _ _ _).trans Fl
 generalize Nt:a2.put (some t2) (.pointer (some ⟨gg,ix*sz,none⟩))=a3 at Fm Ns ⊢
 have Nu:a3.tmps.size=a.tmps.size:=by rw[←Nt,s9,Nr]
 refine AI h3 g3 (fun c=>by rw[p3];simp) (v:=.pointer (some ⟨gg,ix*sz+mV.offset,none⟩)) Fm ?_ ?_
 ·have:=mw gg (ix*sz) mV.offset
  simp[execOp,p3,Instr.fieldAt,run_underlying GQ,W0,Instr.sureAddr,Ns,CH q6 YT,this]
 rw[d3,wpOpsIn_cons]
 have Nv:=z8 (a:=a3) (t:=t3) (v:=.pointer (some ⟨gg,ix*sz+mV.offset,none⟩)) (by rw[Nu];exact lt e3)
 have Fo:(a3.put (some t3) (.pointer (some ⟨gg,ix*sz+mV.offset,none⟩))).defers =[]:=(put_defers _ _ _).trans Fm
 generalize Nw:a3.put (some t3) (.pointer (some ⟨gg,ix*sz+mV.offset,none⟩))=a4 at Fo Nv ⊢
 have YW:a4.tmps.size=a.tmps.size:=by rw[←Nw,s9,Nu]
 refine S6 h4 g4 d4 (fun c=>by rw[p4];simp) (w':=w.setRow gg (cur.toList.take (ix*sz+mV.offset)++[v]++cur.toList.drop (ix*sz+mV.offset+1)).toArray) Fo ?_ ?_
 ·have bB:=xO (P:=P) q7 (off:=ix*sz+mV.offset) k6 (v:=v) (by rw[q8];rfl) (by rw[q8];simpa using q9) (by omega)
  rw[q8]at bB
  have hc:a4.eval (.const v)=v:=rfl
  simp only[List.append_assoc]at bB ⊢
  simp[execOp,p4,Instr.storeAt,Instr.sureAddr,Nv,hc,bB]
 show Q .normal a4 _
 refine hQ _ _ g (k8.act YW Fo fun t s hs zu=>?_)
 have tW:t<a.tmps.size:=lt hs
 have n0:t0≠t:=fun h=>zu (by subst h;rw[e0]at hs;cases hs;rfl)
 have n1:t1≠t:=fun h=>zu (by subst h;rw[e1]at hs;cases hs;rfl)
 have n2:t2≠t:=fun h=>zu (by subst h;rw[e2]at hs;cases hs;rfl)
 have n3:t3≠t:=fun h=>zu (by subst h;rw[e3]at hs;cases hs;rfl)
 rw[←Nw,s8 a3 _ _ t (by omega),if_neg (by simpa using n3),←Nt,s8 a2 _ _ t (by omega),if_neg (by simpa using n2),←Nq,s8 a1 _ _ t (by omega),if_neg (by simpa using n1),←No,s8 a _ _ t tW,if_neg (by simpa using n0)]
end
end Go.Proofs.Ytaknajjmldngiaa.Ab
