/-
  THE ABSTRACT WALK: THE STATEMENT THAT RANGES OVER A FUNCTION.
-/
import Derived.Test.YtimbllcalipehaaTc
import Derived.LoopNIn
import Derived.Scope
import Derived.SizedLaws
set_option linter.unusedVariables false
set_option linter.unusedSimpArgs false
set_option linter.unusedVariables false
set_option linter.unusedSimpArgs false
namespace Go.Proofs.Ytimbllcalipehaa.Ab
open Go Go.RowKit
section
variable{P:Program}{gl:Nat→Option D}{hh:Hints}{n:Nat}
def Ex.code:Ex→Option Code
 | .normal =>none
 | .exit i=>some (.exit i)
 | .ret =>some .ret
theorem XW{n:Nat}{l:List af}(h:l.all (jw n)=true){i:Nat}{bx:af}(hi:l[i]? =some bx):jw n bx=true:=List.all_eq_true.1 h bx (List.mem_of_getElem? hi)
theorem mJ.cut{base:Nat}{w:World}{g:Gh}{n b:Nat}{bx:af}{aj:Nat}(r:mJ base w g b bx aj)(h:jw n bx=true):mJ base w (g.cut n) b bx aj:=by
 cases bx with
 |none=>exact r.elim
 |map l=>exact r
 |cells cs=>
  obtain⟨h0,c,t,hh,bV,hl,aW⟩:=r
  exact⟨h0,c,t,hh,bV,hl,fun j x y hx hy=>(aW j x y hx hy).Jj (fun _ _ h=>h) (fun b' a' c' h=>Ii h)⟩
 |one s=>
  obtain⟨h0,c,t,hh,bV,hl,aW⟩:=r
  refine⟨h0,c,t,hh,bV,hl,fun y hy=>?_⟩
  have:=aW y hy
  cases s with
  |p b' off=>
   have hb:b'<n:=by simpa[jw,Nat.blt_eq]using h
   cases this with
   |p _ _ _ mK dq=>exact .p _ _ _ _ ((By hb).2 dq)
  |m b'=>
   have hb:b'<n:=by simpa[jw,Nat.blt_eq]using h
   cases this with
   |m _ _ mK dq=>exact .m _ _ _ ((By hb).2 dq)
  |_=>simp[jw]at h
structure uA(P:Program)(gl:Nat→Option D)(w0:World)(dK:S0)(St:Nat→Nat→Prop)(base l Dd:Nat)(rec:Loop)(sh:List Slot)(aC:Act)(I:List af→Prop)(Fr:Nat→Prop)(cC:Nat→Nat→Prop)(W:World)(ax:List af)(g:Gh):Prop where
 inv:Inv gl w0 dK ⟨sh,ax⟩ aC W g
 i:I ax
 low:ax.all (jw ax.length)=true
 bx:∀b,some b∈g.bx→¬Fr b
 ow:∀b p,g.ow b=some p→b<W.heap.size∧¬Fr b
 st:∀b o,g.St b o→cC b o∨¬Fr b
 yu:∀b o,St b o→cC b o∧g.St b o
 jc:∀b o,cC b o→(St b o∨Fr b)∧b<W.heap.size
 fr:∀b,Fr b→base≤b∧b<W.heap.size∧b≠l∧b≠Dd
 xO:W.heap[l]? =some (.loop rec)
 dd:W.heap[Dd]? =some (.deferred (some []))
 lo:∀b,b=l∨b=Dd→some b∉g.bx∧g.ow b=none∧∀o,¬g.St b o
theorem Ol{sh:List Slot}{m:Nat}(aO:sh.all (tz m)=true){ax:List af}{k:Nat}(gY:ax.all (jw k)=true):Es ⟨sh,ax⟩:=by
 refine⟨fun s hs=>?_,fun bx hb=>?_⟩
 ·have:=List.all_eq_true.1 aO s hs
  cases s with
  |v x=>simp only[tz,Bool.and_eq_true]at this;exact .v _ this.1.2 this.2
  |p b off=>exact .p _ _
  |m b=>exact .m _
  |_=>simp[tz]at this
 ·have:=List.all_eq_true.1 gY bx hb
  cases bx with
  |none=>trivial
  |map l=>trivial
  |cells cs=>
   simp only[jw,List.all_eq_true,Bool.and_eq_true]at this
   exact⟨u4.2 fun x hx=>(this x hx).1,pq.2 fun x hx=>(this x hx).2⟩
  |one s=>
   cases s with
   |p b off=>exact .p _ _
   |m b=>exact .m _
   |_=>simp[jw]at this
theorem uA.Jk{w0:World}{dK:S0}{St:Nat→Nat→Prop}{base l Dd:Nat}{rec:Loop}{sh:List Slot}{aC:Act}{I:List af→Prop}{Fr:Nat→Prop}{cC:Nat→Nat→Prop}{W:World}{ax:List af}{g:Gh}
  (h:uA P gl w0 dK St base l Dd rec sh aC I Fr cC W ax g){m:Nat}(aO:sh.all (tz m)=true)(zV:w0.heap.size≤base)(yv:l<base∧Dd<base)(iQ:∀D o,dK.df D o→D<base){W':World}{lb:Nat→Prop}{oM:Nat→Nat→Prop}(hb:td Fr cC W W')
  (CR:base≤W.heap.size)(f1:∀b,lb b→Fr b∨(W.heap.size≤b∧b<W'.heap.size))(f2:∀b,Fr b→lb b)(p1:∀b o,cC b o→oM b o)(p2:∀b o,oM b o→(cC b o∨lb b)∧b<W'.heap.size):
  uA P gl w0 dK St base l Dd rec sh aC I lb oM W' ax g:=by
 have aH:=hb.size
 have hI:=h.inv
 have qf:∀b,b<W.heap.size→¬Fr b→¬lb b:=fun b aI hn hf=>(f1 b hf).elim hn fun h=>by omega
 have bf:∀b,b=l∨b=Dd→b<W.heap.size∧¬Fr b:=fun b hb=>by
  refine⟨?_,fun hf=>?_⟩
  ·rcases hb with rfl|rfl
   ·exact fj h.xO
   ·exact fj h.dd
  ·have:=h.fr b hf
   rcases hb with rfl|rfl
   ·exact this.2.2.1 rfl
   ·exact this.2.2.2 rfl
 have Qt:∀b,b<base→b<W.heap.size→W'.heap[b]? =W.heap[b]? :=fun b aI z1=>hb.aj b z1 fun hf=>by have:=(h.fr b hf).1;omega
 have aX:Inv gl w0 dK ⟨sh,ax⟩ aC W' g:=by
  refine hI.move (Ol aO h.low) rfl (hI.below.trans ⟨hb.os,hb.tape,hb.output,hb.size,fun k hk=>?_⟩) hb.size (fun b o v hs hc=>?_) (fun b hm=>hb.aj b (hI.cZ b hm).2 (h.bx b hm)) (fun b p ho _ aI=>hb.aj b aI (h.ow b p ho).2) (fun D o hD=>?_)
  ·have:=hI.below.size
   exact Qt k (by omega) (by omega)
  ·rcases h.st b o hs with hp|hn
   ·exact hb.jc b o v hp hc
   ·rw[World.cell?_of_block (hb.aj b (hI.cm b o hs).2.2 hn)];exact hc
  ·have h1:=fj (hI.ek D o hD).2.2.1
   exact Qt D (iQ D o hD) h1
 refine⟨aX,h.i,h.low,fun b hm=>qf b (hI.cZ b hm).2 (h.bx b hm),fun b p ho=>?_,fun b o hs=>?_,fun b o hs=>⟨p1 b o (h.yu b o hs).1,(h.yu b o hs).2⟩,fun b o hp=>?_,fun b hf=>?_,?_,?_,h.lo⟩
 ·have:=h.ow b p ho
  exact⟨by omega,qf b this.1 this.2⟩
 ·rcases h.st b o hs with hp|hn
  ·exact .inl (p1 b o hp)
  ·exact .inr (qf b (hI.cm b o hs).2.2 hn)
 ·obtain⟨h1,h2⟩:=p2 b o hp
  refine⟨?_,h2⟩
  rcases h1 with h1|h1
  ·exact(h.jc b o h1).1.imp id (f2 b)
  ·exact .inr h1
 ·rcases f1 b hf with jA|jA
  ·have:=h.fr b jA;exact⟨this.1,by omega,this.2.2⟩
  ·exact⟨by omega,jA.2,fun e=>by have:=(bf b (.inl e)).1;omega,fun e=>by have:=(bf b (.inr e)).1;omega⟩
 ·rw[hb.aj l (bf l (.inl rfl)).1 (bf l (.inl rfl)).2];exact h.xO
 ·rw[hb.aj Dd (bf Dd (.inr rfl)).1 (bf Dd (.inr rfl)).2];exact h.dd
theorem aU.BV{W W':World}{St bz:Nat→Nat→Prop}(hc:∀b o v,St b o→W.cell? ⟨b,o,none⟩=some v→W'.cell? ⟨b,o,none⟩=some v∧bz b o){x:D}{v:Value}(r:aU W St x v):aU W' bz x v:=by
 induction r with
 |bool b=>exact .bool b
 |int k n hk=>exact .int k n hk
 |str s hs=>exact .str s hs
 |agg ds vs hf hl _ ih=>exact .agg ds vs hf hl ih
 |fD sz=>exact .fD sz
 |sl sz L b off cap vs bE hm aH hf aL _ ih=>exact .sl sz L b off cap vs bE hm aH hf (fun o ho=>hc _ _ _ (aL o ho).2 (aL o ho).1) ih
 |jd sz a cap ha=>exact .jd sz a cap ha
 |fn f=>exact .fn f
 |qZ=>exact .qZ
 |iface t x v _ ih=>exact .iface t x v ih
 |rb=>exact .rb
 |my=>exact .my
theorem aG.BV{W W':World}{St bz:Nat→Nat→Prop}{base:Nat}(hc:∀b o v,St b o→W.cell? ⟨b,o,none⟩=some v→W'.cell? ⟨b,o,none⟩=some v∧bz b o){O:Nat→Nat→Nat→Prop}(hO:∀b a c,¬O b a c){x:SV}{v:Value}(r:aG W St base O x v):
  x.mN=true→x.ar=true→aG W' bz base (fun _ _ _=>False) x v:=by
 induction r with
 |d O x v hd=>exact fun _ _=>.d _ x v (hd.BV hc)
 |own O sz L g cap hd bE ho=>exact absurd ho (hO _ _ _)
 |full O sz L a hd=>exact fun _ _=>.full _ sz L a (hd.BV hc)
 |ref O cs off b o vs dN aL _ ih=>exact fun _ hr=>by cases hr
 |cM O n sz cs b cap vs dN hn hm aL _ ih=>exact fun _ hr=>by cases hr
 |aS O x off b o vs hf aL da=>exact fun _ _=>.aS _ x off b o vs hf (fun i hi=>hc _ _ _ (aL i hi).2 (aL i hi).1) fun i c hi=>(da i c hi).BV hc
 |cS O f first cap fv cv hf cN _ _ g5 g6=>
  intro hn hr
  simp only[SV.mN,SV.ar,Bool.and_eq_true]at hn hr
  exact .cS _ f first cap fv cv hf cN (fun i x v a b=>g5 i x v a b (fun _ _ _ h=>h) (u4.1 hn.1 x (List.mem_of_getElem? a)) (pq.1 hr.1 x (List.mem_of_getElem? a))) (fun i x v a b=>g6 i x v a b (fun _ _ _ h=>h) (u4.1 hn.2 x (List.mem_of_getElem? a)) (pq.1 hr.2 x (List.mem_of_getElem? a)))
 |bt O sz L g cap vs bE hm aH hf ho aL da=>exact absurd ho (hO _ _ _)
 |mp O l r es clock hh hs hl da=>exact fun hn=>by cases hn
 |undef O v=>exact fun _ _=>.undef _ v
def z7(dK:S0)(Fr:Nat→Prop)(cC:Nat→Nat→Prop)(W:World)(g:Gh)(l Dd:Nat)(rec:Loop):S0 where
 St:=fun b o=>dK.St b o∨cC b o
 df:=fun D o=>dK.df D o∨(Fr D∧W.heap[D]? =some o)∨(D=l∧o=.loop rec)∨(D=Dd∧o=.deferred (some []))
 cl:=fun b o v=>(g.St b o∨cC b o)∧W.cell? ⟨b,o,none⟩=some v
 sz:=W.heap.size
theorem DX(r:Loop):FI (.loop r):=⟨rfl,fun _ _=>by simp⟩
theorem PG(d:Option (List Deferred)):FI (.deferred d):=⟨rfl,fun _ _=>by simp⟩
theorem Inv.Q8{w0:World}{dK:S0}{Fr:Nat→Prop}{cC:Nat→Nat→Prop}{W W1:World}{g g1:Gh}{l Dd:Nat}{rec Cg:Loop}{e:Env}{a:Act}(hI:Inv gl w0 (z7 dK Fr cC W g l Dd rec) e a W1 g1)(hl:w0.heap.size≤l)(bf:l≠Dd)(hFr:¬Fr l)
  (iQ:∀D o,dK.df D o→D≠l)(Ch:∀o,¬(dK.St l o∨cC l o)):Inv gl w0 (z7 dK Fr cC W g l Dd Cg) e a (W1.putObj l (.loop Cg)) g1:=by
 have hr:=hI.ek l (.loop rec) (.inr (.inr (.inl ⟨rfl,rfl⟩)))
 have h1:Inv gl w0 {z7 dK Fr cC W g l Dd rec with df:=fun D o=>dK.df D o∨(Fr D∧W.heap[D]? =some o)∨(D=Dd∧o=.deferred (some []))} e a W1 g1:=
  hI.rU hI.fp (fun b o h=>(hI.cm b o h).1) (fun D o hD=>hI.ek D o (by
   rcases hD with h|h|h
   ·exact .inl h
   ·exact .inr (.inl h)
   ·exact .inr (.inr (.inr h)))) hI.cls hI.iA
 have h2:=h1.other hr.2.2.1 (DX _) (DX Cg) hl (fun D ob hD=>by
  rcases hD with h|⟨h,_⟩|⟨h,_⟩
  ·exact iQ D ob h
  ·exact fun e=>hFr (e▸h)
  ·exact fun e=>bf (by rw[←e,h]))
 refine h2.rU h2.fp (fun b o h=>(h2.cm b o h).1) (fun D o hD=>?_) h2.cls h2.iA
 rcases hD with h|h|⟨rfl,rfl⟩|h
 ·exact h2.ek D o (.inl h)
 ·exact h2.ek D o (.inr (.inl h))
 ·exact⟨hr.1,hr.2.1,World.putObj_heap_same (fj hr.2.2.1),fun x hx=>hr.2.2.2 x hx⟩
 ·exact h2.ek D o (.inr (.inr h))
theorem uA.round(hm:P.follows .mixedOrders =true){w0:World}{dK:S0}{St:Nat→Nat→Prop}{base l Dd:Nat}{rec:Loop}{sh:List Slot}{aC:Act}{I:List af→Prop}{Fr:Nat→Prop}{cC:Nat→Nat→Prop}{W:World}{ax:List af}{g:Gh}
  (h:uA P gl w0 dK St base l Dd rec sh aC I Fr cC W ax g)(aO:sh.all (tz ax.length)=true)(zV:w0.heap.size≤l∧w0.heap.size≤Dd)(yv:l<base∧Dd<base∧l≠Dd)(iQ:∀D o,dK.df D o→D<base∧D≠l∧D≠Dd)(tP:∀b o,dK.St b o→b<base∧b≠l∧b≠Dd)(aT:∀b o,St b o→b≠l∧b≠Dd)
  {ps:Nat}(hrt:rec.tmps=aC.tmps)(SB:rec.params= #[ps])(K2:rec.state=.ready)(hrn:rec.pending=none){d:D}{v:Value}(hd:aU W cC d v){I':Ex→List af→Prop}
  (fT:∀(t:Nat)s,sh[t]? =some s→Cf s=true→t∉cj hh.gh rec.assign∧t∉cj hh.gh rec.body∧t≠ps)
  (E2:aw P gl (aB P gl) hh rec.assign (fun x e1=>x=.normal ∧aw P gl (aB P gl) hh rec.body (fun x e2=>(e2.boxes.take ax.length).all (jw ax.length)=true∧I' x (e2.boxes.take ax.length)) e1) ⟨b8 sh (some ps) (.v (.d d)),ax⟩):
  ∃tmps,(Instr.yield l #[v]).run P W=.ok (.round l rec.fn tmps rec.assign rec.body) W∧∀n,RoundIn Fence.wide n P l rec.fn tmps rec.assign rec.body W fun e W'=>∃x:Ex,e=.returned (.bool x.code.isNone)∧td (fun b=>¬Fr b) cC W W'∧
   ∃cP g',cP.length=ax.length∧uA P gl w0 dK St base l Dd {rec with state:=if x.code.isNone then .ready else .done,pending:=x.code} sh aC (I' x) Fr cC W' cP g':=by
 have hI:=h.inv
 refine⟨_,run_yield h.xO (by rw[SB];rfl),fun n=>roundIn_of_wpIn trivial ?_⟩
 have SC:=hI.defers
 have hlW:=fj h.xO
 have hdW:=fj h.dd
 have JP:({tmps:=(rec.params.zip #[v]).foldl (fun tmps x=>tmps.setIfInBounds x.1 x.2) rec.tmps,defers:=[]}:Act)=wd (aC.put (some ps) v) []:=by
  rw[SB,hrt]
  cases aC
  simp[wd,Act.put]
 show rec.assign.wpIn (Fence.wide.inRound l) n P _ {tmps:=(rec.params.zip #[v]).foldl (fun tmps x=>tmps.setIfInBounds x.1 x.2) rec.tmps,defers:=[]} W
 rw[JP,←Zo]
 have fe:∀b o,cC b o→b≠l∧b≠Dd:=fun b o hp=>by
  rcases(h.jc b o hp).1 with hs|hf
  ·exact aT b o hs
  ·exact(h.fr b hf).2.2
 have cK:=hI.aaG (S:=cC) (fun b o hp=>by
  rcases(h.jc b o hp).1 with hs|hf
  ·exact .inl (h.yu b o hs).2
  ·have jA:=h.fr b hf
   refine .inr ⟨by omega,jA.2.1,fun hm=>h.bx b hm hf,?_⟩
   cases o8:g.ow b with
   |none=>rfl
   |some p=>exact absurd hf (h.ow b p o8).2) (fun D o hD x hx=>by
  rcases(h.jc D x hx).1 with hs|hf
  ·exact(h.yu D x hs).2
  ·have:=(h.fr D hf).1
   have:=(iQ D o hD).1
   omega)
 have cG:Inv gl w0 (z7 dK Fr cC W g l Dd rec) ⟨sh,ax⟩ aC W {g with St:=fun b o=>g.St b o∨cC b o}:=by
  refine cK.rU (fun b o hs=>hs.imp (hI.fp b o) id) (fun b o hs=>?_) (fun D o hD=>?_) (fun b o v hv=>hv) (Nat.le_refl _)
  ·rcases(cK.cm b o hs).1 with h1|h1
   ·exact .inl (.inl h1)
   ·exact .inr h1
  ·rcases hD with h1|⟨h1,h2⟩|⟨rfl,rfl⟩|⟨rfl,rfl⟩
   ·have:=cK.ek D o h1
    exact⟨this.1,this.2.1,this.2.2.1,fun x hx=>.inl (this.2.2.2 x hx)⟩
   ·refine⟨fun hm=>h.bx D hm h1,?_,h2,fun x hx=>?_⟩
    ·cases o8:g.ow D with
     |none=>rfl
     |some p=>exact absurd h1 (h.ow D p o8).2
    ·rcases hx with hx|hx
     ·exact .inr ((h.st D x hx).resolve_right fun hn=>hn h1)
     ·exact .inr hx
   ·have:=h.lo D (.inl rfl)
    exact⟨this.1,this.2.1,h.xO,fun x hx=>hx.elim (fun hx=>absurd hx (this.2.2 x)) fun hx=>absurd rfl (fe D x hx).1⟩
   ·have:=h.lo D (.inr rfl)
    exact⟨this.1,this.2.1,h.dd,fun x hx=>hx.elim (fun hx=>absurd hx (this.2.2 x)) fun hx=>absurd rfl (fe D x hx).2⟩
 have j2:Inv gl w0 (z7 dK Fr cC W g l Dd rec) ⟨b8 sh (some ps) (.v (.d d)),ax⟩ (aC.put (some ps) v) W {g with St:=fun b o=>g.St b o∨cC b o}:=
  cG.value (dst:=some ps) (.v _ _ _ (.d _ _ _ (hd.mono fun b o hp=>⟨.inr hp,rfl⟩)))
 refine oo hm rec.assign j2 (ou _ E2) fun x e1 a1 w1 g1 FJ hQ1 iE=>?_
 replace iE:=iE.any (gh:=hh.gh)
 obtain⟨⟨rfl,gW⟩,Rx⟩:=hQ1
 have FK:=FJ.ek l (.loop rec) (.inr (.inr (.inl ⟨rfl,rfl⟩)))
 refine⟨_,run_beginRound FK.2.2.1 K2,?_⟩
 have SD:¬Fr l:=fun hf=>(h.fr l hf).2.2.1 rfl
 have hFD:¬Fr Dd:=fun hf=>(h.fr Dd hf).2.2.2 rfl
 have Ch:∀o,¬(dK.St l o∨cC l o):=fun o hx=>hx.elim (fun hx=>(tP l o hx).2.1 rfl) (fun hx=>(fe l o hx).1 rfl)
 have n0:=FJ.Q8 (Cg:={rec with state:=.busy}) zV.1 yv.2.2 SD (fun D o hD=>(iQ D o hD).2.1) Ch
 refine oo hm rec.body n0 (ou _ gW) fun x e2 a2 w3 g2 FL hQ2 iP=>?_
 replace iP:=iP.any (gh:=hh.gh)
 obtain⟨⟨Q9,Aq⟩,Ry⟩:=hQ2
 have K6:=FL.ek l _ (.inr (.inr (.inl ⟨rfl,rfl⟩)))
 have lH:=run_endRound (P:=P) x.code K6.2.2.1
 have ld:=FL.Q8 (Cg:={rec with state:=if x.code.isNone then .ready else .done,pending:=x.code}) zV.1 yv.2.2 SD (fun D o hD=>(iQ D o hD).2.1) Ch
 have aem:W.heap.size≤w3.heap.size:=FL.iA
 have CS:td (fun b=>¬Fr b) cC W (w3.putObj l (.loop {rec with state:=if x.code.isNone then .ready else .done,pending:=x.code})):=by
  refine⟨ld.below.os.trans hI.below.os.symm,ld.below.tape.trans hI.below.tape.symm,ld.below.output.trans hI.below.output.symm,by simp;exact aem,fun b hb hf=>?_,fun b o v hp hc=>(ld.cls b o v ⟨.inr hp,hc⟩).2⟩
  have hf:=Classical.not_not.1 hf
  have uB:W.heap[b]? =some W.heap[b]:=by simp[hb]
  rw[uB]
  exact(ld.ek b _ (.inr (.inl ⟨hf,uB⟩))).2.2.1
 have yd:ax.length≤e2.boxes.length:=Nat.le_trans Rx.2.1 Ry.2.1
 have dO:(e2.boxes.take ax.length).length =ax.length:=by simp;omega
 let W4:=w3.putObj l (.loop {rec with state:=if x.code.isNone then .ready else .done,pending:=x.code})
 let gc:Gh:=g2.cut ax.length
 have oB:∀b o v,g.St b o→W.cell? ⟨b,o,none⟩=some v→g2.St b o∧W4.cell? ⟨b,o,none⟩=some v:=fun b o v hs hc=>ld.cls b o v ⟨.inl hs,hc⟩
 have aen:∀b o,St b o→g2.St b o:=fun b o hs=>ld.fp b o (.inr (h.yu b o hs).1)
 have gM:∀(i:Nat)s,sh[i]? =some s→bP w0.heap.size W4 gc (fun _ _ _ _=>False) s (aC.tmps.getD i undef):=by
  intro i s hs
  have oF:=List.all_eq_true.1 aO s (List.mem_of_getElem? hs)
  have h0:=hI.ai i s hs
  have ptr:Cf s=true→(∀z,s≠.v z)→(∀z,s≠.t z)→s.stays=s→bP w0.heap.size W4 gc (fun _ _ _ _=>False) s (aC.tmps.getD i undef):=by
   intro hp hv ht Kw
   obtain⟨n1,n2,n3⟩:=fT i s hs hp
   have lO:i<aC.tmps.size:=by rw[hI.size];exact(List.getElem?_eq_some_iff.1 hs).1
   have yw:a2.tmps.getD i undef=aC.tmps.getD i undef:=by
    rw[iP i n2,iE i n1,HJ _ _ _ _ lO]
    rw[if_neg (by simp;exact fun e=>n3 e.symm)]
   have aaH:(e2.ai.getD i (.v .undef)).stays =s:=by
    rw[Ry.2.2.1 i n2,Rx.2.2.1 i n1]
    have:(b8 sh (some ps) (.v (.d d))).getD i (.v .undef)=s:=by
     simp only[b8]
     rw[dY (fun e=>n3 e.symm),List.getD_eq_getElem?_getD,hs];rfl
    rw[this,Kw]
   have lR:e2.ai.getD i (.v .undef)=s:=by
    revert aaH
    cases s with
    |v z=>exact absurd rfl (hv z)
    |t z=>exact absurd rfl (ht z)
    |_=>cases e2.ai.getD i (.v .undef)<;>simp[Slot.stays]<;>intros<;>simp_all
   have h1:=iI ld i
   rw[lR]at h1
   have kE:a2.eval (.tmp i)=a2.tmps.getD i undef:=rfl
   rw[kE,yw]at h1
   exact Bi h0 h1 (by rw[hI.eB];exact Nat.le_refl _) _ hv ht
  cases s with
  |v z=>
   simp only[tz,Bool.and_eq_true]at oF
   exact .v _ _ _ ((h0.iK.free (O':=fun _ _ _=>False) oF.1.1).BV (fun b o v hs hc=>(oB b o v hs hc).symm) (fun _ _ _ h=>h) oF.1.2 oF.2)
  |p b off=>exact ptr rfl (by simp) (by simp) rfl
  |m b=>exact ptr rfl (by simp) (by simp) rfl
  |_=>simp[tz]at oF
 have SE:∀b,b<W.heap.size→b<W4.heap.size:=fun b hb=>Nat.lt_of_lt_of_le hb CS.size
 have uC:=ld.norm
 have hIc:Inv gl w0 dK ⟨sh,e2.boxes.take ax.length⟩ aC W4 {g2.cut ax.length with ow:=fun b=>if b<W4.heap.size then g2.ow b else none}:=by
  refine⟨uC.below,hI.size,fun i s hs=>?_,?_,fun b bx aj h1 h2=>?_,fun i j aj h1 h2=>uC.nodup i j aj (yY h1).2 (yY h2).2,fun b o hs=>uC.fp b o (.inl hs),fun b o hs=>?_,fun b hb=>uC.cZ b (sR hb),uC.ja,hI.defers,
   fun D o hD=>?_,fun b o v hv=>?_,Nat.le_trans hI.iA (Nat.le_trans FL.iA (by simp[W4]))⟩
  ·exact(gM i s hs).mono (fun b o h=>⟨h,.refl _ _ _⟩) (fun _ _ _=>rfl) (fun _ _ h=>h) (.refl _) fun _ _ _ _ h=>h.elim
  ·show(g2.bx.take ax.length).length =_
   have:=ld.eB
   rw[List.length_take,List.length_take,this]
  ·obtain⟨aI,h2⟩:=yY h2
   have qd:e2.boxes[b]? =some bx:=by
    simp only[List.getElem?_take]at h1
    rw[if_pos aI]at h1;exact h1
   exact(uC.boxes b bx aj qd h2).cut (XW Q9 h1)
  ·obtain⟨h1,h2,h3⟩:=uC.cm b o hs
   refine⟨?_,fun hm=>h2 (sR hm),h3⟩
   rcases h1 with(h1|h1)|h1
   ·exact .inl h1
   ·exact(cK.cm b o (.inr h1)).1
   ·exact .inr h1
  ·have wv:=uC.ek D o (.inl hD)
   refine⟨fun hm=>wv.1 (sR hm),wv.2.1,wv.2.2.1,fun x hx=>?_⟩
   rcases wv.2.2.2 x hx with h1|h1
   ·exact h1
   ·rcases(h.jc D x h1).1 with hs|hf
    ·exact(hI.ek D o hD).2.2.2 x (h.yu D x hs).2
    ·have:=(h.fr D hf).1
     have:=(iQ D o hD).1
     omega
  ·have:=hI.cls b o v hv
   exact uC.cls b o v ⟨.inl this.1,this.2⟩
 have hR:uA P gl w0 dK St base l Dd {rec with state:=if x.code.isNone then .ready else .done,pending:=x.code} sh aC (I' x) Fr cC W4 (e2.boxes.take ax.length) {g2.cut ax.length with ow:=fun b=>if b<W4.heap.size then g2.ow b else none}:=by
  have nN:∀b,Fr b→∃o,W.heap[b]? =some o:=fun b hf=>⟨W.heap[b]'(h.fr b hf).2.1,by simp⟩
  have jX:∀b,b=l∨b=Dd→∃o,(z7 dK Fr cC W g l Dd {rec with state:=if x.code.isNone then .ready else .done,pending:=x.code}).df b o:=fun b hb=>by
   rcases hb with rfl|rfl
   ·exact⟨_,.inr (.inr (.inl ⟨rfl,rfl⟩))⟩
   ·exact⟨_,.inr (.inr (.inr ⟨rfl,rfl⟩))⟩
  refine⟨hIc,Aq,by rw[dO];exact Q9,fun b hm hf=>?_,fun b p ho=>?_,fun b o hs=>?_,fun b o hs=>⟨(h.yu b o hs).1,aen b o hs⟩,fun b o hp=>⟨(h.jc b o hp).1,SE b (h.jc b o hp).2⟩,fun b hf=>⟨(h.fr b hf).1,SE b (h.fr b hf).2.1,(h.fr b hf).2.2⟩,(ld.ek l _ (.inr (.inr (.inl ⟨rfl,rfl⟩)))).2.2.1,(ld.ek Dd _ (.inr (.inr (.inr ⟨rfl,rfl⟩)))).2.2.1,fun b hb=>?_⟩
  ·obtain⟨o,ho⟩:=nN b hf
   exact(ld.ek b o (.inr (.inl ⟨hf,ho⟩))).1 (sR hm)
  ·simp only at ho
   split at ho
   ·refine⟨by assumption,fun hf=>?_⟩
    obtain⟨o,uB⟩:=nN b hf
    rw[(ld.ek b o (.inr (.inl ⟨hf,uB⟩))).2.1]at ho
    cases ho
   ·cases ho
  ·by_cases hf:Fr b
   ·left
    obtain⟨ob,uB⟩:=nN b hf
    rcases(ld.ek b ob (.inr (.inl ⟨hf,uB⟩))).2.2.2 o hs with h1|h1
    ·have:=(tP b o h1).1
     have:=(h.fr b hf).1
     omega
    ·exact h1
   ·exact .inr hf
  ·obtain⟨o,ho⟩:=jX b hb
   have wv:=ld.ek b o ho
   refine⟨fun hm=>wv.1 (sR hm),?_,fun x hx=>?_⟩
   ·simp only
    split
    ·exact wv.2.1
    ·rfl
   ·rcases wv.2.2.2 x hx with h1|h1
    ·rcases hb with rfl|rfl
     ·exact(tP _ x h1).2.1 rfl
     ·exact(tP _ x h1).2.2 rfl
    ·rcases hb with rfl|rfl
     ·exact(fe _ x h1).1 rfl
     ·exact(fe _ x h1).2 rfl
 have fin:∃x':Ex,(Ending.returned (Value.bool x.code.isNone))=.returned (.bool x'.code.isNone)∧td (fun b=>¬Fr b) cC W W4∧
  ∃cP g',cP.length=ax.length∧uA P gl w0 dK St base l Dd {rec with state:=if x'.code.isNone then .ready else .done,pending:=x'.code} sh aC (I' x') Fr cC W4 cP g':=⟨x,rfl,CS,_,_,dO,hR⟩
 cases x with
 |normal=>exact⟨_,_,lH,fin⟩
 |exit i=>exact⟨_,_,lH,fin⟩
 |ret=>exact⟨_,_,lH,fin⟩
end
end Go.Proofs.Ytimbllcalipehaa.Ab
set_option linter.unusedVariables false
set_option linter.unusedSimpArgs false
namespace Go.Proofs.Ytimbllcalipehaa.Ab
open Go Go.RowKit
section
variable{P:Program}{gl:Nat→Option D}{hh:Hints}{n:Nat}
theorem aG.SF{w:World}{St:Nat→Nat→Prop}{base xq:Nat}{O:Nat→Nat→Nat→Prop}{x:SV}{v:Value}(r:aG w St base O x v)(hx:x.ar=true):aG w St xq O x v:=by
 induction r with
 |d O x v hd=>exact .d O x v hd
 |own O sz L g cap hd bE ho=>exact .own O sz L g cap hd bE ho
 |full O sz L a hd=>exact .full O sz L a hd
 |ref=>simp[SV.ar]at hx
 |cM=>simp[SV.ar]at hx
 |aS O x off b o vs hf aL hc=>exact .aS O x off b o vs hf aL hc
 |cS O f first cap fv cv hf hc _ _ g5 g6=>
  simp only[SV.ar,Bool.and_eq_true]at hx
  exact .cS O f first cap fv cv hf hc (fun i x v a b=>g5 i x v a b (pq.1 hx.1 x (List.mem_of_getElem? a))) (fun i x v a b=>g6 i x v a b (pq.1 hx.2 x (List.mem_of_getElem? a)))
 |bt O sz L g cap vs h1 h2 h3 h4 h5 h6 h7=>exact .bt O sz L g cap vs h1 h2 h3 h4 h5 h6 h7
 |mp O l r es clock hh hs hl hc=>exact .mp O l r es clock hh hs hl hc
 |undef O v=>exact .undef O v
theorem Inv.drop{w0:World}{dK:S0}{ai sh:List Slot}{ax:List af}{a:Act}{w:World}{g:Gh}(hI:Inv gl w0 dK ⟨ai,ax⟩ a w g)(hl:sh.length=ai.length)
  (h:∀(i:Nat)s,sh[i]? =some s→s=.v .undef ∨∃s0,ai[i]? =some s0∧(s=s0∨s=s0.aa)):Inv gl w0 dK ⟨sh,ax⟩ a w g:=by
 refine⟨hI.below,by rw[hI.size];exact hl.symm,fun i s hs=>?_,hI.eB,hI.boxes,hI.nodup,hI.fp,hI.cm,hI.cZ,hI.ja,hI.defers,hI.ek,hI.cls,hI.iA⟩
 rcases h i s hs with rfl|⟨s0,h0,rfl|rfl⟩
 ·exact .v _ _ _ (.undef _ _)
 ·exact hI.ai i s h0
 ·exact(hI.ai i s0 h0).aa
def S0.Jl(dK:S0)(Dd:Nat):S0:={dK with df:=fun D o=>dK.df D o∨(D=Dd∧o=.deferred (some []))}
def vK(I:Nat→List af→Prop)(X:Ex→List af→Prop)(k:Nat):Ex→List af→Prop
 | .normal =>I k
 |x=>X x
theorem Ul(hm:P.follows .mixedOrders =true){w0:World}{dK:S0}{sh:List Slot}{ax:List af}{aC:Act}{w:World}{g:Gh}(hI:Inv gl w0 dK ⟨sh,ax⟩ aC w g)(aO:sh.all (tz ax.length)=true)(gY:ax.all (jw ax.length)=true)
  {yx:Operand}{it:FuncId}{cap:List SV}(hg:aG w g.St w0.heap.size (fun _ _ _=>False) (.cS (.func it) [] cap) (aC.eval yx))(bE:SV.fO cap=true){L:List D}(x8:Iter P gl it cap L)
  {ps:Nat}{assign body:Code}(fT:∀(t:Nat)s,sh[t]? =some s→Cf s=true→t∉cj hh.gh assign∧t∉cj hh.gh body∧t≠ps)
  (I:Nat→List af→Prop)(X:Ex→List af→Prop)(h0:I 0 ax)
  (BL:∀(k:Nat)d cP,I k cP→L[k]? =some d→cP.length=ax.length→aw P gl (aB P gl) hh assign (fun x e1=>x=.normal ∧aw P gl (aB P gl) hh body (fun x e2=>(e2.boxes.take ax.length).all (jw ax.length)=true∧vK I X (k+1) x (e2.boxes.take ax.length)) e1) ⟨b8 sh (some ps) (.v (.d d)),cP⟩)
  {Q:Exit→Act→World→Prop}(hQ:∀(x:Ex)cP w' g' Dd,vK I X L.length x cP→cP.length=ax.length→Inv gl w0 (dK.Jl Dd) ⟨sh,cP⟩ aC w' g'→w0.heap.size≤Dd→(∀o,¬dK.df Dd o)→(∀o,¬dK.St Dd o)→Q x.to (wd aC [{target:=.collected Dd,args:= #[]}]) w'):
  (Code.rangeFunc yx #[ps] assign body).wpIn Fence.wide n P Q aC w:=by
 generalize hvg:aC.eval yx=vg at hg
 cases hg with
 |cS _ _ _ _ fv cv hf hc rf rc=>
  have ui:fv= #[]:=by
   have:fv.size=0:=by simpa using hf.symm
   exact Array.eq_empty_of_size_eq_zero this
  subst ui
  refine wpIn_rangeFunc fun fn _=>?_
  obtain⟨vL,Jm⟩:∃vL:Loop,vL={state:=.ready,pending:=none,fn,tmps:=aC.tmps,params:= #[ps],assign,body,defers:=w.heap.size}:=⟨_,rfl⟩
  obtain⟨w1,wz⟩:∃w1,(w.alloc (.deferred (some []))).alloc (.loop vL)=w1:=⟨_,rfl⟩
  have er:w1.heap.size=w.heap.size+2:=by rw[←wz];simp
  have hL1:w1.heap[w.heap.size+1]? =some (.loop vL):=by
   rw[←wz]
   have:=World.alloc_heap_new (w.alloc (.deferred (some []))) (.loop vL)
   simpa using this
  have hD1:w1.heap[w.heap.size]? =some (.deferred (some [])):=by
   rw[←wz,ig (w.alloc (.deferred (some []))) _ w.heap.size (by simp)]
   exact World.alloc_heap_new w _
  have hold:∀b,b<w.heap.size→w1.heap[b]? =w.heap[b]? :=fun b hb=>by
   rw[←wz,ig (w.alloc (.deferred (some []))) _ b (by simp;omega),ig w _ b hb]
  have hle:w0.heap.size≤w.heap.size:=hI.below.size
  have aaI:∀b o,b<w.heap.size→w1.cell? ⟨b,o,none⟩=w.cell? ⟨b,o,none⟩:=fun b o hb=>World.cell?_of_block (hold b hb)
  have hIn:=hI.norm
  have cK:Inv gl w0 dK ⟨sh,ax⟩ aC w1 {g with ow:=fun b=>if b<w.heap.size then g.ow b else none}:=
   hIn.move (Ol aO gY) rfl (hI.below.trans ⟨by rw[←wz];rfl,by rw[←wz];rfl,by rw[←wz];rfl,by omega,fun k hk=>hold k (by omega)⟩) (by omega)
    (fun b o v hs cN=>by rw[aaI b o (hI.cm b o hs).2.2];exact cN) (fun b hm=>hold b (hI.cZ b hm).2) (fun b p _ _ hb=>hold b hb) (fun D o hD=>hold D (fj (hI.ek D o hD).2.2.1))
  refine⟨w.heap.size+1,[{target:=.collected w.heap.size,args:= #[]}],w1,{target:=.fn (.func it) cv,args:= #[.func (.yield (w.heap.size+1)) #[] #[]]},w1,it,#[.func (.yield (w.heap.size+1)) #[] #[]]++cv,w1,?_,?_,fun _ _=>trivial,?_,(fun h=>by cases h),?_⟩
  ·rw[←wz,Jm];exact run_enterLoop_outer _ _ _ _ _
  ·simp only[resolve,hvg]
   simp[go_sem]
  ·simp[invoke,go_sem,x8.1 _ _]
  ·have zV:w0.heap.size≤w.heap.size+1∧w0.heap.size≤w.heap.size:=⟨by omega,hle⟩
   have yv:w.heap.size+1<w1.heap.size∧w.heap.size<w1.heap.size∧w.heap.size+1≠w.heap.size:=⟨by omega,by omega,by omega⟩
   have iQ:∀D o,dK.df D o→D<w1.heap.size∧D≠w.heap.size+1∧D≠w.heap.size:=fun D o hD=>by have:=fj (hI.ek D o hD).2.2.1;omega
   have tP:∀b o,dK.St b o→b<w1.heap.size∧b≠w.heap.size+1∧b≠w.heap.size:=fun b o hs=>by have:=(hI.cm b o (hI.fp b o hs)).2.2;omega
   have aT:∀b o,g.St b o→b≠w.heap.size+1∧b≠w.heap.size:=fun b o hs=>by have:=(hI.cm b o hs).2.2;omega
   have main:=x8.2 w1 g.St (w.heap.size+1) cv (fun b o h=>by have:=(hI.cm b o h).2.2;omega) cK.ja hc (fun i x v hx hv=>?_)
    (fun q Fr cC pre W=>w1.heap.size≤W.heap.size∧∃x:Ex,(q=none↔x=.normal)∧(x=.normal →pre=L.take pre.length)∧∃cP g',cP.length=ax.length∧
      uA P gl w0 dK g.St w1.heap.size (w.heap.size+1) w.heap.size {vL with state:=if x.code.isNone then .ready else .done,pending:=x.code} sh aC (vK I X pre.length x) Fr cC W cP g') ?_ ?_ ?_
   ·refine callsIn_wide.2 (Calls.mono main ?_)
    rintro e W2 ⟨⟨v,rfl⟩,Fr,cC,pre,q,⟨CR,x,CT,E3,cP,g',dO,hR⟩,hq⟩
    have lH:=run_endLoop (P:=P) hR.xO (by cases x<;>simp[Ex.code])
    have Ay:=hR.inv.other hR.xO (DX _) (DX {vL with state:=.exhausted,pending:=x.code}) zV.1 (fun D ob hD=>(iQ D ob hD).2.1)
    have K7:=hR.lo w.heap.size (.inr rfl)
    have hI6:Inv gl w0 (dK.Jl w.heap.size) ⟨sh,cP⟩ aC (W2.putObj (w.heap.size+1) (.loop {vL with state:=.exhausted,pending:=x.code})) g':=by
     refine Ay.rU Ay.fp (fun b o h=>(Ay.cm b o h).1) (fun D o hD=>?_) Ay.cls Ay.iA
     rcases hD with hD|⟨rfl,rfl⟩
     ·exact Ay.ek D o hD
     ·exact⟨K7.1,K7.2.1,(World.putObj_heap_other (by omega)).trans hR.dd,fun x hx=>absurd hx (K7.2.2 x)⟩
    have xP:∀x',x=x'→vK I X L.length x' cP:=fun x' hx=>by
     subst hx
     have:=hR.i
     cases x with
     |normal=>
      have h1:=hq (CT.2 rfl)
      rw[h1]at this
      exact this
     |exit i=>exact this
     |ret=>exact this
    have SC:=hI.defers
    have JP:({aC with defers:=[{target:=.collected w.heap.size,args:= #[]}]++aC.defers}:Act)=wd aC [{target:=.collected w.heap.size,args:= #[]}]:=by
     rw[SC];rfl
    have II:=hQ x cP _ g' w.heap.size (xP x rfl) dO hI6 hle (fun o hD=>(iQ _ o hD).2.2 rfl) (fun o hs=>(tP _ o hs).2.2 rfl)
    refine⟨x.code,_,lH,?_⟩
    rw[JP]
    cases x with
    |normal=>exact II
    |exit i=>exact wpIn_exit II
    |ret=>exact wpIn_ret II
   ·have qg:x.ar=true:=pq.1 bE x (List.mem_of_getElem? hx)
    exact(((rc i x v hx hv).SF (xq:=0) qg).mono (fun b o h=>⟨h,.pt (hold b (hI.cm b o h).2.2)⟩) (fun b o hb=>absurd hb (Nat.not_lt_zero _)) _ (fun _ _ _ h=>h.elim)).SF qg
   ·rintro q Fr cC pre W W' lb oM ⟨CR,x,CT,E3,cP,g',dO,hR⟩ hb f1 f2 p1 p2
    exact⟨Nat.le_trans CR hb.size,x,CT,E3,cP,g',dO,hR.Jk aO (by omega) ⟨yv.1,yv.2.1⟩ (fun D o hD=>(iQ D o hD).1) hb CR f1 f2 p1 p2⟩
   ·rintro Fr cC pre d v W ⟨CR,x,CT,E3,cP,g',dO,hR⟩ hd SG
    have hxn:=CT.1 rfl
    subst hxn
    subst Jm
    have E2:=BL pre.length d cP hR.i SG dO
    rw[←dO]at E2
    obtain⟨tmps,hy,hr⟩:=hR.round (hh:=hh) hm (by rw[dO];exact aO) zV yv iQ tP aT (ps:=ps) rfl rfl rfl rfl hd fT (I':=vK I X (pre.length+1)) E2
    refine⟨_,tmps,_,_,hy,fun n=>(hr n).mono fun e W'⟨x',he,fW,aeo,g2,nR,K8⟩=>⟨x'.code.isNone,he,fW,?_,x',?_,fun dp=>?_,aeo,g2,nR.trans dO,?_⟩⟩
    ·have:=fj K8.dd
     have h1:=K8.fr
     have:W.heap.size≤W'.heap.size:=fW.size
     omega
    ·cases x'<;>simp[Ex.code]
    ·have h1:=E3 rfl
     rw[List.length_append,List.length_singleton,List.take_add_one,SG,←h1]
     rfl
    ·rw[List.length_append,List.length_singleton]
     exact K8
   ·subst Jm
    refine⟨Nat.le_refl _,.normal,by simp,fun _=>by simp,ax,_,rfl,⟨cK,h0,gY,fun _ _ h=>h,fun b p ho=>?_,fun b o h=>.inl h,fun b o h=>⟨h,h⟩,fun b o h=>⟨.inl h,by have:=(hI.cm b o h).2.2;omega⟩,fun b h=>h.elim,hL1,hD1,fun b hb=>?_⟩⟩
    ·simp only at ho
     split at ho
     ·exact⟨by omega,fun h=>h⟩
     ·cases ho
    ·have CU:¬b<w.heap.size:=by omega
     exact⟨fun hm=>CU (hI.cZ b hm).2,by simp only;rw[if_neg CU],fun o h=>CU (hI.cm b o h).2.2⟩
end
end Go.Proofs.Ytimbllcalipehaa.Ab
set_option linter.unusedVariables false
set_option linter.unusedSimpArgs false
namespace Go.Proofs.Ytimbllcalipehaa.Ab
open Go Go.RowKit
structure rV(gl:Nat→Option D)(base:Nat)(SH:S0)(Fr:Nat→Prop)(e:Env)(a:Act)(W:World)(g:Gh):Prop where
 inv:∃w0:World,w0.heap.size=base∧Inv gl w0 SH e a W g
 bx:∀b,some b∈g.bx→Fr b
 ow:∀b p,g.ow b=some p→b<W.heap.size→Fr b
 st:∀b o,g.St b o→Fr b∨SH.St b o
 fr:∀b,Fr b→base≤b∧b<W.heap.size
def o9(St:Nat→Nat→Prop):S0:={St:=St,df:=fun _ _=>False,cl:=fun _ _ _=>False}
def Ci(Fr:Nat→Prop)(W:World)(g:Gh):S0:={St:=g.St,df:=fun D o=>¬Fr D∧W.heap[D]? =some o,cl:=fun b o v=>g.St b o∧W.cell? ⟨b,o,none⟩=some v,sz:=W.heap.size}
section
variable{P:Program}{gl:Nat→Option D}{hh:Hints}{n:Nat}{base:Nat}{St:Nat→Nat→Prop}{Fr:Nat→Prop}{e:Env}{a:Act}{W:World}{g:Gh}
theorem rV.rU(h:rV gl base (o9 St) Fr e a W g):∃w0:World,w0.heap.size=base∧Inv gl w0 (Ci Fr W g) e a W g:=by
 obtain⟨w0,h0,hI⟩:=h.inv
 refine⟨w0,h0,hI.rU (fun _ _ h=>h) (fun _ _ h=>.inl h) (fun D o hD=>?_) (fun _ _ _ h=>h) (Nat.le_refl _)⟩
 obtain⟨h1,h2⟩:=hD
 refine⟨fun hm=>h1 (h.bx D hm),?_,h2,fun x hx=>hx⟩
 cases o8:g.ow D with
 |none=>rfl
 |some p=>exact absurd (h.ow D p o8 (fj h2)) h1
theorem rV.acX(h:rV gl base (o9 St) Fr e a W g){w0:World}(h0:w0.heap.size=base)(wb:Inv gl w0 (Ci Fr W g) e a W g){e':Env}{a':Act}{W':World}{g':Gh}(hI:Inv gl w0 (Ci Fr W g) e' a' W' g'):
  rV gl base (o9 St) (fun b=>Fr b∨(W.heap.size≤b∧b<W'.heap.size)) e' a' W' g'∧td Fr g.St W W'∧∀b o,g.St b o→g'.St b o:=by
 have aH:W.heap.size≤W'.heap.size:=hI.iA
 obtain⟨w1,h1,cK⟩:=h.inv
 have hold:∀b,b<W.heap.size→¬Fr b→some b∉g'.bx∧g'.ow b=none∧W'.heap[b]? =W.heap[b]? ∧∀x,g'.St b x→g.St b x:=fun b hb hf=>by
  have uB:W.heap[b]? =some W.heap[b]:=by simp[hb]
  have:=hI.ek b _ ⟨hf,uB⟩
  exact⟨this.1,this.2.1,this.2.2.1.trans uB.symm,this.2.2.2⟩
 refine⟨⟨⟨w0,h0,hI.rU (fun b o hs=>hI.fp b o (cK.fp b o hs)) (fun b o hs=>?_) (fun D o hD=>hD.elim) (fun b o v hv=>hv.elim) (Nat.zero_le _)⟩,fun b hm=>?_,fun b p ho hb=>?_,fun b o hs=>?_,fun b hf=>?_⟩,
  ⟨hI.below.os.trans wb.below.os.symm,hI.below.tape.trans wb.below.tape.symm,hI.below.output.trans wb.below.output.symm,aH,fun b hb hf=>(hold b hb hf).2.2.1,fun b o v hs hc=>(hI.cls b o v ⟨hs,hc⟩).2⟩,fun b o hs=>hI.fp b o hs⟩
 ·rcases(hI.cm b o hs).1 with h2|h2
  ·have:=(cK.cm b o h2).1
   rw[h1]at this
   rw[h0]
   exact this
  ·exact .inr h2
 ·by_cases hf:Fr b
  ·exact .inl hf
  ·by_cases hb:b<W.heap.size
   ·exact absurd hm (hold b hb hf).1
   ·exact .inr ⟨by omega,(hI.cZ b hm).2⟩
 ·by_cases hf:Fr b
  ·exact .inl hf
  ·by_cases dq:b<W.heap.size
   ·rw[(hold b dq hf).2.1]at ho;cases ho
   ·exact .inr ⟨by omega,hb⟩
 ·by_cases hf:Fr b
  ·exact .inl (.inl hf)
  ·by_cases hb:b<W.heap.size
   ·exact(h.st b o ((hold b hb hf).2.2.2 o hs)).imp .inl id
   ·exact .inl (.inr ⟨by omega,(hI.cm b o hs).2.2⟩)
 ·rcases hf with hf|hf
  ·have:=h.fr b hf;exact⟨this.1,by omega⟩
  ·refine⟨?_,hf.2⟩
   have:=wb.below.size
   omega
theorem rV.norm(h:rV gl base (o9 St) Fr e a W g):∃g',rV gl base (o9 St) Fr e a W g'∧g'.St=g.St∧∀b p,g'.ow b=some p→b<W.heap.size:=by
 obtain⟨w0,h0,hI⟩:=h.inv
 refine⟨_,⟨⟨w0,h0,hI.norm⟩,h.bx,fun b p ho hb=>?_,h.st,h.fr⟩,rfl,fun b p ho=>?_⟩
 ·simp only at ho
  rw[if_pos hb]at ho
  exact h.ow b p ho hb
 ·simp only at ho
  split at ho
  ·assumption
  ·cases ho
structure qo(P:Program)(gl:Nat→Option D) where
 base:Nat
 St:Nat→Nat→Prop
 l:Nat
 L:List D
 J:Option Unit→(Nat→Prop)→(Nat→Nat→Prop)→List D→World→Prop
 lS:∀b o,St b o→b<base
 Jk:∀q Fr cC pre W W' lb oM,J q Fr cC pre W→td Fr cC W W'→(∀b,lb b→Fr b∨(W.heap.size≤b∧b<W'.heap.size))→(∀b,Fr b→lb b)→(∀b o,cC b o→oM b o)→
  (∀b o,oM b o→(cC b o∨lb b)∧b<W'.heap.size)→J q lb oM pre W'
 round:∀Fr cC pre d v W,J none Fr cC pre W→aU W cC d v→L[pre.length]? =some d→∃fn tmps assign body,(Instr.yield l #[v]).run P W=.ok (.round l fn tmps assign body) W∧
  ∀n,RoundIn Fence.wide n P l fn tmps assign body W fun e W'=>∃b,e=.returned (.bool b)∧td (fun b=>¬Fr b) cC W W'∧J (bif b then none else some ()) Fr cC (pre++[d]) W'
def qo.oN(C:qo P gl)(e:Env)(log:List D)(q:Option Unit)(a:Act)(W:World):Prop:=
 ∃Fr g,rV gl C.base (o9 C.St) Fr e a W g∧C.J q Fr g.St log W
theorem qo.go(C:qo P gl){log:List D}{q:Option Unit}(h:rV gl C.base (o9 C.St) Fr e a W g)(hJ:C.J q Fr g.St log W){w0:World}(h0:w0.heap.size=C.base)(wb:Inv gl w0 (Ci Fr W g) e a W g){e':Env}{a':Act}{W':World}{g':Gh}
  (hI:Inv gl w0 (Ci Fr W g) e' a' W' g'):C.oN e' log q a' W':=by
 obtain⟨h1,h2,h3⟩:=h.acX h0 wb hI
 refine⟨_,g',h1,C.Jk _ _ _ _ _ _ _ _ hJ h2 (fun b hb=>hb) (fun b hb=>.inl hb) h3 (fun b o hs=>⟨?_,(hI.cm b o hs).2.2⟩)⟩
 rcases h1.st b o hs with hf|la
 ·exact .inr hf
 ·obtain⟨_,_,cK⟩:=h.inv
  exact .inl (cK.fp b o la)
def IW(C:qo P gl)(n:Nat)(c:Code)(Q:Ex→Env→List D→Option Unit→Prop)(e:Env)(log:List D)(q:Option Unit):Prop:=
 ∀a W,C.oN e log q a W→c.wpIn Fence.wide n P (fun x a' W'=>∃xx e' kp q',x=Ex.to xx∧C.oN e' kp q' a' W'∧Q xx e' kp q') a W
def OW(C:qo P gl)(n:Nat)(ops:Array Oper)(Q:Ex→Env→List D→Option Unit→Prop)(idx:List Nat)(e:Env)(log:List D)(q:Option Unit):Prop:=
 ∀a W,C.oN e log q a W→wpOpsIn Fence.wide n P ops (fun x a' W'=>∃xx e' kp q',x=Ex.to xx∧C.oN e' kp q' a' W'∧Q xx e' kp q') idx a W
theorem Nc{F:Fence}{c:Code}{Q:Exit→Act→World→Prop}:∀{m k:Nat},m≤k→∀{a:Act}{w:World},Code.roundsIn F n P c Q m a w→Code.roundsIn F n P c Q k a w
 |0,_,_,_,_,h=>h.elim
 |m+1,0,hk,_,_,_=>by omega
 |m+1,k+1,hk,a,w,h=>by
  refine wpIn_mono h fun x a' w' hx=>?_
  cases x with
  |normal=>exact Nc (by omega) hx
  |_=>exact hx
variable{C:qo P gl}{log:List D}{q:Option Unit}
theorem IW.mono{c:Code}{Q Q':Ex→Env→List D→Option Unit→Prop}(h:IW C n c Q e log q)(hq:∀x e l q,Q x e l q→Q' x e l q):IW C n c Q' e log q:=fun a W hH=>
 wpIn_mono (h a W hH) fun x a' W'⟨xx,e',l',q',h1,h2,h3⟩=>⟨xx,e',l',q',h1,h2,hq _ _ _ _ h3⟩
theorem IW.aw(hm:P.follows .mixedOrders =true){c:Code}{Q:Ex→Env→List D→Option Unit→Prop}(h:aw P gl (aB P gl) hh c (fun x e'=>Q x e' log q) e):IW C n c Q e log q:=by
 rintro a W ⟨Fr,g,hS,hJ⟩
 obtain⟨w0,h0,hI⟩:=hS.rU
 have:=NL (r:=none) (n:=n) (ds:=[]) hm c hI h (Q:=fun x a' W'=>∃xx e' kp q',x=Ex.to xx∧C.oN e' kp q' a' W'∧Q xx e' kp q') (fun x e' a' W' g' aX hQ=>by
  refine⟨x,e',log,q,rfl,?_,hQ⟩
  rw[xm aX.defers]
  exact C.go hS hJ h0 hI aX)
 rw[xm hI.defers]at this
 exact this
theorem IW.seq{x y:Code}{Q:Ex→Env→List D→Option Unit→Prop}(h:IW C n x (fun ex e' l' q'=>match ex with| .normal =>IW C n y Q e' l' q'|ex=>Q ex e' l' q') e log q):IW C n (.seq x y) Q e log q:=fun a W hH=>by
 refine wpIn_seq (wpIn_mono (h a W hH) ?_)
 rintro ex a' W' ⟨xx,e',l',q',rfl,h2,h3⟩
 cases xx with
 |normal=>exact h3 a' W' h2
 |exit i=>exact⟨.exit i,e',l',q',rfl,h2,h3⟩
 |ret=>exact⟨.ret,e',l',q',rfl,h2,h3⟩
theorem IW.block{id:Nat}{b:Code}{Q:Ex→Env→List D→Option Unit→Prop}(h:IW C n b (fun ex e' l' q'=>match ex with| .normal =>Q .normal e' l' q'| .exit i=>cond (i==id) (Q .normal e' l' q') (Q (.exit i) e' l' q')| .ret =>Q .ret e' l' q') e log q):
  IW C n (.block id b) Q e log q:=fun a W hH=>by
 refine wpIn_block (wpIn_mono (h a W hH) ?_)
 rintro ex a' W' ⟨xx,e',l',q',rfl,h2,h3⟩
 cases xx with
 |normal=>exact⟨.normal,e',l',q',rfl,h2,h3⟩
 |exit i=>
  have h3:cond (i==id) (Q .normal e' l' q') (Q (.exit i) e' l' q'):=h3
  show(if i=id then _ else _)
  cases hb:(i==id)with
  |true=>
   rw[hb]at h3
   rw[if_pos (beq_iff_eq.1 hb)]
   exact⟨.normal,e',l',q',rfl,h2,h3⟩
  |false=>
   rw[hb]at h3
   rw[if_neg (beq_eq_false_iff_ne.1 hb)]
   exact⟨.exit i,e',l',q',rfl,h2,h3⟩
 |ret=>exact⟨.ret,e',l',q',rfl,h2,h3⟩
theorem IW.cond{t:Nat}{b:Bool}{x y:Code}{Q:Ex→Env→List D→Option Unit→Prop}(hs:e.ai[t]? =some (.v (.d (.bool b))))(h:IW C n (if b then x else y) Q e log q):IW C n (.cond (.tmp t) x y) Q e log q:=fun a W hH=>by
 have hH':=hH
 obtain⟨Fr,g,hS,_⟩:=hH'
 obtain⟨w0,_,hI⟩:=hS.inv
 have h1:=(hI.ai t _ hs).iK.data.qI
 exact wpIn_cond (t:=b) h1 (h a W hH)
theorem IW.loop{b:Code}{Q:Ex→Env→List D→Option Unit→Prop}(I:Nat→Env→List D→Option Unit→Prop)
  (hb:∀m e l q,I m e l q→IW C n b (fun ex e' l' q'=>match ex with| .normal =>(∃m',m'<m∧I m' e' l' q')|ex=>Q ex e' l' q') e l q):∀(m:Nat)(e:Env)(log:List D)(q:Option Unit),I m e log q→IW C n (.loop b) Q e log q:=by
 have key:∀(m:Nat)(e:Env)(log:List D)(q:Option Unit),I m e log q→∀a W,C.oN e log q a W→Code.roundsIn Fence.wide n P b (fun x a' W'=>∃xx e' kp q',x=Ex.to xx∧C.oN e' kp q' a' W'∧Q xx e' kp q') (m+1) a W:=by
  intro m
  induction m using Nat.strongRecOn with
  |_ m ih=>
   intro e log q hI a W hH
   refine wpIn_mono (hb m e log q hI a W hH) ?_
   rintro ex a' W' ⟨xx,e',l',q',rfl,h2,h3⟩
   cases xx with
   |normal=>
    obtain⟨m',kD,aX⟩:=h3
    have:=ih m' kD e' l' q' aX a' W' h2
    exact Nc (by omega) this
   |exit i=>exact⟨.exit i,e',l',q',rfl,h2,h3⟩
   |ret=>exact⟨.ret,e',l',q',rfl,h2,h3⟩
 exact fun m e log q hI a W hH=>wpIn_loop_rounds (m+1) (key m e log q hI a W hH)
theorem OW.nil{ops:Array Oper}{Q:Ex→Env→List D→Option Unit→Prop}(h:Q .normal e log q):OW C n ops Q [] e log q:=fun a W hH=>⟨.normal,e,log,q,rfl,hH,h⟩
theorem IW.region{id:Nat}{ops:Array Oper}{Q:Ex→Env→List D→Option Unit→Prop}(h:OW C n ops Q (List.range ops.size) e log q):IW C n (.region id ops false) Q e log q:=fun a W hH=>wpIn_region (h a W hH)
theorem OW.step{ops:Array Oper}{Q:Ex→Env→List D→Option Unit→Prop}{i:Nat}{rest:List Nat}{id:Nat}{aD:Bool}{o:Oper}(ho:ops[i]? =some o)
  (h:lD P gl (aB P gl) ops.toList id aD o e (fun e'=>OW C n ops Q rest e' log q)):OW C n ops Q (i::rest) e log q:=by
 rintro a W ⟨Fr,g,hS,hJ⟩
 obtain⟨w0,h0,hI⟩:=hS.rU
 rw[wpOpsIn_cons]
 have:=Hg (r:=none) (n:=n) (ds:=[]) hI ho h (next:=wpOpsIn Fence.wide n P ops (fun x a' W'=>∃xx e' kp q',x=Ex.to xx∧C.oN e' kp q' a' W'∧Q xx e' kp q') rest)
  (Q:=fun x a' W'=>∃xx e' kp q',x=Ex.to xx∧C.oN e' kp q' a' W'∧Q xx e' kp q') (fun e' v W' g' aX hk=>by
    rw[xm aX.defers]
    exact hk _ _ (C.go hS hJ h0 hI aX))
 rw[xm hI.defers]at this
 exact this
theorem OW.yield{ops:Array Oper}{Q:Ex→Env→List D→Option Unit→Prop}{i:Nat}{rest:List Nat}{o:Oper}(ho:ops[i]? =some o)(hg:o.guard=none){c:Call}(hc:o.op=.call c){f x:Operand}(hf:c.callee=.value f)(hx:c.args= #[x]){d:Nat}(hd:o.dst=some d)
  (hsf:(Ab.aQ gl e f).aa =.v (.d (.fn (.yield C.l)))){y:D}(hsx:(Ab.aQ gl e x).aa =.v (.d y))(hy:C.L[log.length]? =some y)(hp:Es e)
  (h1:OW C n ops Q rest ⟨e.ai.set d (.v (.d (.bool true))),e.boxes⟩ (log++[y]) none)(h2:OW C n ops Q rest ⟨e.ai.set d (.v (.d (.bool false))),e.boxes⟩ (log++[y]) (some ())):OW C n ops Q (i::rest) e log none:=by
 rintro a W ⟨Fr,g0,FA,hJ⟩
 obtain⟨g,hS,g7,pZ⟩:=FA.norm
 rw[←g7]at hJ
 obtain⟨w0,h0,hI⟩:=hS.inv
 rw[wpOpsIn_cons]
 unfold wpOpIn
 simp only[ho]
 have hw:Region.wanted o (yielded ops a.tmps)=true:=by simp[Region.wanted,hg]
 rw[if_pos hw]
 refine⟨fun _ _=>trivial,?_⟩
 have CV:a.eval f=.func (.yield C.l) #[] #[]:=by
  have:=(hI.nO hsf).data
  generalize a.eval f=u at this
  cases this
  rfl
 have Ct:aU W g.St y (a.eval x):=(hI.nO hsx).data
 obtain⟨fn,tmps,assign,body,aV,hr⟩:=C.round Fr g.St log y (a.eval x) W hJ Ct hy
 have hex:(o.semAt Fence.wide.round a.eval).run P W=.ok (.round C.l fn tmps assign body) W:=by
  show(execOp a.eval o).run P W=_
  generalize a.eval=ρ at CV aV
  simp[execOp,hc,resolve,hf,hx,CV,invoke,go_sem,aV]
 rw[hex,Oper.uponIn_round]
 refine⟨fun h=>(by cases h),(hr (n-1)).mono ?_⟩
 rintro e1 W1 ⟨b,rfl,hB,FJ⟩
 show wpOpsIn _ _ _ _ _ rest (a.put o.dst (.bool b)) W1
 rw[hd]
 have Fx:Inv gl (Cd W1 C.base) (o9 C.St) e a W1 g:=by
  have hle:=hI.below.size
  have er:=hB.size
  have bO:(Cd W1 C.base).heap.size =C.base:=Ok (by omega)
  refine hI.move hp (by rw[bO,h0]) ?_ hB.size (fun b o v hs hc=>hB.jc b o v hs hc) (fun b hm=>?_) (fun b p hw _ hb=>?_) (fun D o hD=>hD.elim)
  ·rw[h0]
   refine⟨rfl,rfl,rfl,by rw[bO];omega,fun k hk=>?_⟩
   show W1.heap[k]? =(W1.heap.extract 0 C.base)[k]?
   rw[Array.getElem?_extract,if_pos (by omega),Nat.zero_add]
  ·exact hB.aj b (hI.cZ b hm).2 fun hn=>hn (hS.bx b hm)
  ·exact hB.aj b hb fun hn=>hn (hS.ow b p hw hb)
 have bO:(Cd W1 C.base).heap.size =C.base:=Ok (by have:=hI.below.size;have:=hB.size;omega)
 have hv:=Fx.value (dst:=some d) (s:=.v (.d (.bool b))) (v:=.bool b) (.v _ _ _ (.d _ _ _ (.bool b)))
 have hH:C.oN ⟨e.ai.set d (.v (.d (.bool b))),e.boxes⟩ (log++[y]) (bif b then none else some ()) (a.put (some d) (.bool b)) W1:=by
  refine⟨Fr,g,⟨⟨_,bO,hv⟩,hS.bx,fun b p hw hb=>hS.ow b p hw (pZ b p hw),hS.st,fun b hf=>⟨(hS.fr b hf).1,Nat.lt_of_lt_of_le (hS.fr b hf).2 hB.size⟩⟩,FJ⟩
 cases b with
 |true=>exact h1 _ _ hH
 |false=>exact h2 _ _ hH
end
end Go.Proofs.Ytimbllcalipehaa.Ab
set_option linter.unusedVariables false
set_option linter.unusedSimpArgs false
namespace Go.Proofs.Ytimbllcalipehaa.Ab
open Go Go.RowKit
def mG:Code→List Code
 | .seq a b=>mG a++mG b
 |c=>[c]
def pa(F:Fence)(n:Nat)(P:Program):List Code→(Exit→Act→World→Prop)→Act→World→Prop
 |[],Q,a,w=>Q .normal a w
 |c::l,Q,a,w=>c.wpIn F n P (Exit.then (pa F n P l Q) Q) a w
section
variable{P:Program}{gl:Nat→Option D}{hh:Hints}{F:Fence}{n:Nat}
theorem NM{Q:Exit→Act→World→Prop}:∀(l m:List Code)(a:Act)(w:World),pa F n P l (Exit.then (pa F n P m Q) Q) a w→pa F n P (l++m) Q a w
 |[],m,a,w,h=>h
 |c::l,m,a,w,h=>by
  refine wpIn_mono (h:c.wpIn F n P _ a w) fun x a' w' hx=>?_
  cases x with
  |normal=>exact NM l m a' w' hx
  |_=>exact hx
theorem Hw{Q:Exit→Act→World→Prop}:∀(c:Code)(a:Act)(w:World),pa F n P (mG c) Q a w→c.wpIn F n P Q a w
 | .seq x y,a,w,h=>by
   have h:pa F n P (mG x++mG y) Q a w:=h
   refine wpIn_seq (Hw x a w ?_)
   have key:∀(l m:List Code)(a:Act)(w:World),pa F n P (l++m) Q a w→pa F n P l (Exit.then (pa F n P m Q) Q) a w:=by
    intro l
    induction l with
    |nil=>intro m a w h;exact h
    |cons c l ih=>
     intro m a w h
     refine wpIn_mono (h:c.wpIn F n P _ a w) fun x a' w' hx=>?_
     cases x with
     |normal=>exact ih m a' w' hx
     |_=>exact hx
   have:=key _ _ a w h
   have mono:∀(l:List Code)(a:Act)(w:World)(R R':Exit→Act→World→Prop),(∀x a w,R x a w→R' x a w)→pa F n P l R a w→pa F n P l R' a w:=by
    intro l
    induction l with
    |nil=>intro a w R R' hr h;exact hr _ _ _ h
    |cons c l ih=>
     intro a w R R' hr h
     refine wpIn_mono (h:c.wpIn F n P _ a w) fun x a' w' hx=>?_
     cases x with
     |normal=>exact ih a' w' R R' hr hx
     |_=>exact hr _ _ _ hx
   refine mono _ a w _ _ (fun x a' w' hx=>?_) this
   cases x with
   |normal=>exact Hw y a' w' hx
   |_=>exact hx
 | .skip,a,w,h=>wpIn_mono (show Code.wpIn F n P _ _ a w from h) fun x a' w' hx=>by cases x<;>exact hx
 | .region ..,a,w,h=>wpIn_mono (show Code.wpIn F n P _ _ a w from h) fun x a' w' hx=>by cases x<;>exact hx
 | .cond ..,a,w,h=>wpIn_mono (show Code.wpIn F n P _ _ a w from h) fun x a' w' hx=>by cases x<;>exact hx
 | .block ..,a,w,h=>wpIn_mono (show Code.wpIn F n P _ _ a w from h) fun x a' w' hx=>by cases x<;>exact hx
 | .loop ..,a,w,h=>wpIn_mono (show Code.wpIn F n P _ _ a w from h) fun x a' w' hx=>by cases x<;>exact hx
 | .exit _,a,w,h=>wpIn_mono (show Code.wpIn F n P _ _ a w from h) fun x a' w' hx=>by cases x<;>exact hx
 | .ret,a,w,h=>wpIn_mono (show Code.wpIn F n P _ _ a w from h) fun x a' w' hx=>by cases x<;>exact hx
 | .goto _,a,w,h=>wpIn_mono (show Code.wpIn F n P _ _ a w from h) fun x a' w' hx=>by cases x<;>exact hx
 | .label _,a,w,h=>wpIn_mono (show Code.wpIn F n P _ _ a w from h) fun x a' w' hx=>by cases x<;>exact hx
 | .scope _,a,w,h=>wpIn_mono (show Code.wpIn F n P _ _ a w from h) fun x a' w' hx=>by cases x<;>exact hx
 | .rangeFunc ..,a,w,h=>wpIn_mono (show Code.wpIn F n P _ _ a w from h) fun x a' w' hx=>by cases x<;>exact hx
 | .refuse _,a,w,h=>wpIn_mono (show Code.wpIn F n P _ _ a w from h) fun x a' w' hx=>by cases x<;>exact hx
end
section
variable(P:Program)(gl:Nat→Option D)(C:bj)(h:Hints)
def uD:List Code→(Ex→Env→Prop)→Env→Prop
 |[],Q,e=>Q .normal e
 |c::l,Q,e=>aw P gl C h c (fun x e'=>match x with| .normal =>uD l Q e'| .exit i=>Q (.exit i) e'| .ret =>Q .ret e') e
def JQ(fn:Func)(K:SV→Prop)(x:Ex)(e:Env):Prop:=match x with| .normal =>finish P fn e K| .ret =>finish P fn e K| .exit _=>False
end
section
variable{P:Program}{gl:Nat→Option D}{hh:Hints}{n:Nat}
theorem G0(hm:P.follows .mixedOrders =true){ds:List Deferred}{r:Option Nat}:∀(l:List Code){w0:World}{an:S0}{QA:Ex→Env→Prop}{e:Env}{a:Act}{w:World}{g:Gh}{Q:Exit→Act→World→Prop},
  Inv gl w0 an e a w g→uD P gl (aB P gl) hh l QA e→(∀x e' a' w' g',Inv gl w0 an e' a' w' g'→QA x e'→Q x.to (wd a' ds) w')→pa (FW r) n P l Q (wd a ds) w
 |[],_,_,_,_,_,_,_,_,hI,h,hQ=>hQ .normal _ _ _ _ hI h
 |c::l,w0,an,QA,e,a,w,g,Q,hI,h,hQ=>by
  refine NL hm c hI h fun x e' a' w' g' aX hx=>?_
  cases x with
  |normal=>exact G0 hm l aX hx hQ
  |exit i=>exact hQ (.exit i) e' a' w' g' aX hx
  |ret=>exact hQ .ret e' a' w' g' aX hx
theorem Hx{fn:Func}{args:List SV}{w:World}{St:Nat→Nat→Prop}{vs:Array Value}(lS:∀b o,St b o→b<w.heap.size)(mX:s5 gl w St)(hlen:args.length=vs.size)
  (ea:∀(i:Nat)x v,args[i]? =some x→vs[i]? =some v→aG w St w.heap.size (fun _ _ _=>False) x v):
  Inv gl w (o9 St) (enter fn.ntmps args) {tmps:=vs++Array.replicate (fn.ntmps-vs.size) undef,defers:=[]} w ⟨St,[],fun _=>none⟩:=by
 refine⟨Below.refl _ _,by simp[enter,hlen],fun i s hs=>?_,rfl,fun b bx aj h1=>by simp[enter]at h1,fun i j aj h1=>by simp at h1,fun _ _ h=>h,fun b o hb=>⟨.inl hb,by simp,lS b o hb⟩,fun b hb=>by simp at hb,mX,rfl,fun D o hD=>hD.elim,fun b o v hv=>hv.elim,Nat.zero_le _⟩
 simp only[enter]at hs
 rw[List.getElem?_append]at hs
 split at hs
 ·rename_i hi
  simp only[List.length_map]at hi
  simp only[List.getElem?_map,Option.map_eq_some_iff]at hs
  obtain⟨x,hx,rfl⟩:=hs
  have CQ:i<vs.size:=by omega
  have:=ea i x vs[i] hx (by simp)
  have iw:(vs++Array.replicate (fn.ntmps-vs.size) undef).getD i undef=vs[i]:=by
   simp[Array.getElem?_append,CQ]
  rw[iw]
  exact .v _ _ _ (this.mono (fun _ _ h=>⟨h,.refl _ _ _⟩) (fun _ _ _=>rfl) _ (fun _ _ _ h=>h.elim))
 ·have:=(List.mem_replicate.1 (List.mem_of_getElem? hs)).2
  subst this
  exact .v _ _ _ (.undef _ _)
theorem Va(hm:P.follows .mixedOrders =true){f:FuncId}{fn:Func}{c:Code}{args:List SV}{r:SV}(hf:P.funcs[f]? =some fn)(hb:fn.body=some c)(hE:j9 P f){A B:List Code}{id:Nat}{yx:Operand}{ps:Nat}{assign body:Code}
  (aaJ:mG c=A++.block id (.rangeFunc yx #[ps] assign body)::B){it:FuncId}{cap:List SV}{L:List D}(x8:Iter P gl it cap L)(bE:SV.fO cap=true)
  (hA:b9 args (uD P gl (aB P gl) hh A (fun x e=>x=.normal ∧(Ab.aQ gl e yx).aa =.v (.cS (.func it) [] cap)∧∃(sh:List Slot) (I:Nat→List af→Prop) (X:Ex→List af→Prop),sh.length=e.ai.length∧
    (∀(i:Nat)s,sh[i]? =some s→s=.v .undef ∨∃s0,e.ai[i]? =some s0∧(s=s0∨s=s0.aa))∧sh.all (tz e.boxes.length)=true∧e.boxes.all (jw e.boxes.length)=true∧
    (∀(t:Nat)s,sh[t]? =some s→Cf s=true→t∉cj hh.gh assign∧t∉cj hh.gh body∧t≠ps)∧I 0 e.boxes∧
    (∀(k:Nat)d cP,I k cP→L[k]? =some d→cP.length=e.boxes.length→aw P gl (aB P gl) hh assign (fun x e1=>x=.normal ∧aw P gl (aB P gl) hh body (fun x e2=>(e2.boxes.take e.boxes.length).all (jw e.boxes.length)=true∧vK I X (k+1) x (e2.boxes.take e.boxes.length)) e1) ⟨b8 sh (some ps) (.v (.d d)),cP⟩)∧
    (∀cP,I L.length cP→cP.length=e.boxes.length→uD P gl (aB P gl) hh B (JQ P fn (fun x=>x=r)) ⟨sh,cP⟩)∧
    (∀x cP,x≠.normal →X x cP→cP.length=e.boxes.length→x=.ret ∧finish P fn ⟨sh,cP⟩ (fun x=>x=r))) (enter fn.ntmps args)))(ha:ki args=none:=by rfl):aB P gl f args r:=by
 rw[wU ha]
 refine⟨hE,fun w St vs lS mX hlen ea=>(callsIn_wide (n:=0)).1 (callsIn_of_wp_marks hf hb trivial ?_)⟩
 have ba:SV.fo args:=by
  rw[SV.iW]
  intro x hx
  obtain⟨i,hi,rfl⟩:=List.mem_iff_getElem.1 hx
  exact(ea i _ (vs[i]'(by omega)) (by simp) (by simp)).wf
 have hI:=Hx (fn:=fn) lS mX hlen ea
 have hA:=hA ba
 refine Hw c _ w ?_
 rw[aaJ]
 refine NM _ _ _ _ ?_
 refine G0 (r:=none) (n:=0) (ds:=[]) hm A hI hA ?_
 rintro x e a1 w1 g1 cK ⟨rfl,aep,sh,I,X,gM,hs,oF,gY,fT,h0,BL,hB,hX⟩
 rw[xm cK.defers]
 have cG:=cK.drop (ai:=e.ai) (ax:=e.boxes) gM hs
 have fin:∀(x:Ex)e' a' W' g' Dd,Inv gl w ((o9 St).Jl Dd) e' a' W' g'→w.heap.size≤Dd→(x=.normal ∨x=.ret)→finish P fn e' (fun x=>x=r)→
   bodyPostM Fence.wide 0 P fn (fun e w'=>∃v,e=.returned v∧Below w.heap.size w w'∧∃bz ow,(∀b o,St b o→bz b o)∧(∀b o,bz b o→St b o∨(w.heap.size≤b∧b<w'.heap.size))∧tc w.heap.size w' bz ow r v) x.to (wd a' [{target:=.collected Dd,args:= #[]}]) W':=by
  intro x e' a' W' g' Dd aX CW hx xP
  have hD:=aX.ek Dd _ (.inr ⟨rfl,rfl⟩)
  have j2:Inv gl w (o9 St) e' a' W' g':=aX.rU aX.fp (fun b o h=>(aX.cm b o h).1) (fun D o hD=>hD.elim) (fun b o v hv=>hv.elim) (Nat.zero_le _)
  have CX:=j2.other (o':=.deferred none) hD.2.2.1 (PG _) (PG _) CW (fun D ob hD=>hD.elim)
  obtain⟨r',v,iE,aV,aW⟩:=Hf CX xP
  subst iE
  have aaK:LeavesInM Fence.wide 0 P fn a'.tmps (fun e w'=>∃v,e=.returned v∧Below w.heap.size w w'∧∃bz ow,(∀b o,St b o→bz b o)∧(∀b o,bz b o→St b o∨(w.heap.size≤b∧b<w'.heap.size))∧tc w.heap.size w' bz ow r' v) [{target:=.collected Dd,args:= #[]}] .returning W':=
   ⟨by simp,.inl ⟨Dd,_,rfl,run_takeDeferred hD.2.2.1,v,aV,v,rfl,CX.below,g'.St,_,CX.fp,fun b o h=>(CX.cm b o h).1.imp (fun h=>h) fun h1=>⟨h1,(CX.cm b o h).2.2⟩,aW⟩⟩
  rcases hx with rfl|rfl<;>exact aaK
 show(Code.block id (.rangeFunc yx #[ps] assign body)).wpIn Fence.wide 0 P _ a1 w1
 refine wpIn_block (Ul (hh:=hh) hm cG oF gY (cK.nO aep) bE x8 fT I X h0 BL ?_)
 intro x cP w' g' Dd lH dO aX CW _ _
 cases x with
 |normal=>
  have hb:=hB cP lH dO
  refine G0 (r:=none) hm B aX hb fun x e' a' W' g' Rz hx=>?_
  cases x with
  |normal=>exact fin .normal e' a' W' g' Dd Rz CW (.inl rfl) hx
  |ret=>exact fin .ret e' a' W' g' Dd Rz CW (.inr rfl) hx
  |exit i=>exact hx.elim
 |exit i=>exact absurd (hX (.exit i) cP (by simp) lH dO).1 (by simp)
 |ret=>
  obtain⟨_,xP⟩:=hX .ret cP (by simp) lH dO
  exact fin .ret _ _ _ _ Dd aX CW (.inr rfl) xP
theorem Zr(hm:P.follows .mixedOrders =true){f:FuncId}{fn:Func}{c:Code}{cap:List SV}{L:List D}(hf:P.funcs[f]? =some fn)(hb:fn.body=some c)(hE:j9 P f)(xL:fn.results= #[])
  (hc:∀(C:qo P gl),C.L=L→SV.fo cap→IW C 0 c (fun x e log q=>(x=.normal ∨x=.ret)∧(q=none→log=L)) (enter fn.ntmps (.d (.fn (.yield C.l))::cap)) [] none):Iter P gl f cap L:=by
 refine⟨hE,fun w St l vs lS mX hlen ea J aaL BL hJ0=>?_⟩
 let C:qo P gl:=⟨w.heap.size,St,l,L,J,lS,aaL,BL⟩
 have aaM:∀(i:Nat)x v,(SV.d (.fn (.yield l))::cap)[i]? =some x→(#[Value.func (.yield l) #[] #[]]++vs)[i]? =some v→aG w St w.heap.size (fun _ _ _=>False) x v:=by
  intro i x v hx hv
  cases i with
  |zero=>
   simp at hx hv
   subst hx
   simp[Array.getElem?_append]at hv
   subst hv
   exact .d _ _ _ (.fn _)
  |succ i=>
   rw[List.getElem?_cons_succ]at hx
   rw[Array.getElem?_append_right (by simp)]at hv
   simp only[List.size_toArray,List.length_cons,List.length_nil,Nat.zero_add,Nat.add_sub_cancel]at hv
   exact ea i x v hx hv
 have acY:(SV.d (.fn (.yield l))::cap).length =(#[Value.func (.yield l) #[] #[]]++vs).size :=by simp[hlen];omega
 have hI:=Hx (gl:=gl) (fn:=fn) lS mX acY aaM
 have ba:SV.fo cap:=by
  rw[SV.iW]
  intro x hx
  obtain⟨i,hi,rfl⟩:=List.mem_iff_getElem.1 hx
  exact(ea i _ (vs[i]'(by omega)) (by simp) (by simp)).wf
 have hH:C.oN (enter fn.ntmps (.d (.fn (.yield l))::cap)) [] none {tmps:=(#[Value.func (.yield l) #[] #[]]++vs)++Array.replicate (fn.ntmps-(#[Value.func (.yield l) #[] #[]]++vs).size) undef,defers:=[]} w:=
  ⟨fun _=>False,⟨St,[],fun _=>none⟩,⟨⟨w,rfl,hI⟩,fun b hm=>by simp at hm,fun b p ho=>by simp at ho,fun b o hs=>.inr hs,fun b h=>h.elim⟩,hJ0⟩
 have hw:=hc C rfl ba _ _ hH
 refine(callsIn_wide (n:=0)).1 (callsIn_of_wp hf hb trivial (wpIn_mono hw ?_))
 rintro x a' W' ⟨xx,e',log,q,rfl,⟨Fr,g',hS,hJ⟩,hx,hq⟩
 obtain⟨w0,h0,aX⟩:=hS.inv
 have aV:(results fn a'.tmps).run P W'=.ok (.tuple #[]) W':=by
  have:=A2 (P:=P) (fn:=fn) (tmps:=a'.tmps) (w:=W') (vs:=[]) (by rw[xL];simp)
  exact this
 have xP:a'.defers=[]∧∃v,(results fn a'.tmps).run P W'=.ok v W'∧((∃v',Ending.returned v=.returned v')∧∃Fr cC pre q,J q Fr cC pre W'∧(q=none→pre=L)):=
  ⟨aX.defers,_,aV,⟨_,rfl⟩,Fr,g'.St,log,q,hJ,hq⟩
 rcases hx with rfl|rfl<;>exact xP
end
end Go.Proofs.Ytimbllcalipehaa.Ab
set_option linter.unusedVariables false
set_option linter.unusedSimpArgs false
namespace Go.Proofs.Ytimbllcalipehaa.Ab
open Go Go.RowKit
section
variable{P:Program}{gl:Nat→Option D}{hh:Hints}
theorem Vb(hm:P.follows .mixedOrders =true){f:FuncId}{fn:Func}{c:Code}{args:List SV}{r:SV}(hf:P.funcs[f]? =some fn)(hb:fn.body=some c)(hE:j9 P f){QA:Ex→Env→Prop}
  (h:b9 args (aw P gl (aB P gl) hh c (fun x e=>(x=.normal ∨x=.ret)∧QA x e) (enter fn.ntmps args)))
  (fin:∀(w:World)(St:Nat→Nat→Prop)x e' a' w' g',Inv gl w (o9 St) e' a' w' g'→QA x e'→∃v,(results fn a'.tmps).run P w'=.ok v w'∧∃bz ow,(∀b o,St b o→bz b o)∧(∀b o,bz b o→St b o∨(w.heap.size≤b∧b<w'.heap.size))∧tc w.heap.size w' bz ow r v)(ha:ki args=none:=by rfl):aB P gl f args r:=by
 rw[wU ha]
 refine⟨hE,fun w St vs lS mX hlen ea=>?_⟩
 have ba:SV.fo args:=by
  rw[SV.iW]
  intro x hx
  obtain⟨i,hi,rfl⟩:=List.mem_iff_getElem.1 hx
  exact(ea i _ (vs[i]'(by omega)) (by simp) (by simp)).wf
 have hI:=Hx (fn:=fn) lS mX hlen ea
 refine calls_of_wp hf hb (qJ hm c hI (h ba) fun x e' a' w' g' aX hk=>?_)
 obtain⟨hx,hk⟩:=hk
 obtain⟨v,aV,bz,ow,h1,h2,h3⟩:=fin w St x e' a' w' g' aX hk
 have:a'.defers=[]∧∃v,(results fn a'.tmps).run P w'=.ok v w'∧(∃v',(Ending.returned v)=.returned v'∧Below w.heap.size w w'∧∃bz ow,(∀b o,St b o→bz b o)∧
  (∀b o,bz b o→St b o∨(w.heap.size≤b∧b<w'.heap.size))∧tc w.heap.size w' bz ow r v'):=⟨aX.defers,v,aV,v,rfl,aX.below,bz,ow,h1,h2,h3⟩
 rcases hx with rfl|rfl<;>exact this
theorem WR(hm:P.follows .mixedOrders =true){f:FuncId}{fn:Func}{c:Code}{args:List SV}(hf:P.funcs[f]? =some fn)(hb:fn.body=some c)(hE:j9 P f){t b it:Nat}{x:D}(gx:x.one=true)(xL:fn.results= #[.tmp t])
  (h:b9 args (aw P gl (aB P gl) hh c (fun ex e=>(ex=.normal ∨ex=.ret)∧(e.ai[t]? =some (.c (.func it) [] [.p b 0])∧e.boxes[b]? =some (.cells [.d x]))) (enter fn.ntmps args)))(ha:ki args=none:=by rfl):aB P gl f args (.cS (.func it) [] [.aS x 0]):=by
 refine Vb hm hf hb hE h (ha:=ha) fun w St ex e' a' w' g' hI⟨hs,di⟩=>?_
 have hr:=hI.ai t _ hs
 have aV:(results fn a'.tmps).run P w'=.ok (a'.tmps.getD t undef) w':=by
  have:=A2 (P:=P) (fn:=fn) (tmps:=a'.tmps) (w:=w') (vs:=[a'.tmps.getD t undef]) (by rw[xL];simp[wX])
  exact this
 refine⟨_,aV,?_⟩
 generalize a'.tmps.getD t undef=v at hr
 cases hr with
 |c _ _ _ _ fv cv o7 cN rf rc=>
  have ui:fv= #[]:=Array.eq_empty_of_size_eq_zero (by simpa using o7.symm)
  subst ui
  have mY:cv[0]? =some (cv[0]'(by simp at cN;omega)):=by simp
  have hp:=rc 0 _ _ rfl mY
  generalize cv[0]'(by simp at cN;omega)=u at hp mY
  cases hp with
  |p _ _ _ aj cX=>
   obtain⟨q0,cs,ty,q1,q2,q3,q4⟩:=hI.boxes b _ aj di cX
   have nP:cs[0]? =some (cs[0]'(by simp at q3;omega)):=by simp
   have aW:=(q4 0 _ _ rfl nP).data
   generalize cs[0]'(by simp at q3;omega)=y at nP aW
   have bV:(x.cells)=[x]:=D.u3 gx
   refine⟨fun b' o=>g'.St b' o∨(b'=aj∧o=0),fun _=>none,fun b' o h=>.inl (hI.fp b' o h),fun b' o h=>?_,?_⟩
   ·rcases h with h|⟨rfl,_⟩
    ·have:=hI.cm b' o h
     exact this.1.imp (fun h=>h) fun h1=>⟨h1,this.2.2⟩
    ·exact .inr (hI.cZ b' (List.mem_of_getElem? cX))
   ·show aG w' _ 0 _ (.cS (.func it) [] [.aS x 0]) _
    refine .cS _ _ _ _ #[] cv rfl (by simpa using cN) (fun i x v h=>by simp at h) (fun i z v' hz fI=>?_)
    cases i with
    |succ i=>simp at hz
    |zero=>
     simp at hz;subst hz
     rw[mY]at fI;cases fI
     refine .aS _ x 0 aj 0 (fun _=>y) (fun c hc=>by rw[bV]at hc;rw[List.mem_singleton.1 hc];exact gx) (fun i hi=>?_) (fun i c hc=>?_)
     ·rw[bV]at hi
      have:i=0:=by simp at hi;omega
      subst this
      refine⟨?_,.inr ⟨rfl,rfl⟩⟩
      rw[cell_of_row w' aj (0+0) cs ty (0,0) q1];exact nP
     ·rw[bV]at hc
      cases i with
      |succ i=>simp at hc
      |zero=>simp at hc;subst hc;exact aW.mono fun b' o h=>⟨.inl h,rfl⟩
end
end Go.Proofs.Ytimbllcalipehaa.Ab
set_option linter.unusedVariables false
set_option linter.unusedSimpArgs false
namespace Go.Proofs.Ytimbllcalipehaa.Ab
open Go Go.RowKit
def vB:List Slot→List Slot→Prop
 |[],[]=>True
 |s::l,t::m=>(s=.v .undef ∨∃x,t=.v x∧s=.v (aa x))∧vB l m
 |_,_=>False
theorem Om:∀{l m:List Slot},vB l m→l.length=m.length
 |[],[],_=>rfl
 |s::l,t::m,h=>by simp[Om h.2]
 |[],_::_,h=>h.elim
 |_::_,[],h=>h.elim
theorem On:∀{l m:List Slot},vB l m→∀(i:Nat)s,l[i]? =some s→s=.v .undef ∨∃x,m[i]? =some (.v x)∧s=.v (aa x)
 |[],[],_,i,s,h=>by simp at h
 |s::l,t::m,h,0,s',h'=>by
  simp at h';subst h'
  rcases h.1 with h1|⟨x,rfl,h1⟩
  ·exact .inl h1
  ·exact .inr ⟨x,rfl,h1⟩
 |s::l,t::m,h,i+1,s',h'=>by simpa using On h.2 i s' (by simpa using h')
 |[],_::_,h,_,_,_=>h.elim
 |_::_,[],h,_,_,_=>h.elim
section
variable{P:Program}{gl:Nat→Option D}{n:Nat}{e:Env}{C:qo P gl}{log:List D}{q:Option Unit}
theorem IW.zW{c:Code}{Q:Ex→Env→List D→Option Unit→Prop}{sh:List Slot}(hw:vB sh e.ai)(h:IW C n c Q ⟨sh,[]⟩ log q):IW C n c Q e log q:=fun a W hH=>by
 refine h a W ?_
 obtain⟨Fr,g,hS,hJ⟩:=hH
 obtain⟨w0,h0,hI⟩:=hS.inv
 refine⟨Fr,g.cut 0,⟨⟨w0,h0,?_⟩,fun b hm=>by simp[Gh.cut]at hm,hS.ow,hS.st,hS.fr⟩,hJ⟩
 refine⟨hI.below,by rw[hI.size,Om hw],fun i s hi=>?_,by simp[Gh.cut],fun b bx aj h1=>by simp at h1,fun i j aj h1=>by simp[Gh.cut]at h1,hI.fp,fun b o hs=>⟨(hI.cm b o hs).1,by simp[Gh.cut],(hI.cm b o hs).2.2⟩,fun b hm=>by simp[Gh.cut]at hm,hI.ja,hI.defers,fun D o hD=>hD.elim,fun b o v hv=>hv.elim,hI.iA⟩
 rcases On hw i s hi with rfl|⟨x,he,rfl⟩
 ·exact .v _ _ _ (.undef _ _)
 ·exact .v _ _ _ (hI.ai i _ he).iK.aa
end
end Go.Proofs.Ytimbllcalipehaa.Ab
set_option linter.unusedVariables false
set_option linter.unusedSimpArgs false
namespace Go.Proofs.Ytimbllcalipehaa.Ab
open Go Go.RowKit
def JR(rs:List SV):SV:=match rs with
 |[r]=>r
 |rs=>.aK rs
theorem rn.nD{w:World}{St:Nat→Nat→Prop}{O O':Nat→Nat→Nat→Nat→Prop}:∀{rs:List SV}{v:Value},rn w St O rs v→(∀j b a c,O j b a c→O' j b a c)→rn w St O' rs v
 |[r],v,hr,h=>aG.nD (show aG w St 0 (O 1) r v from hr) fun b a c ho=>h _ b a c ho
 |[],v,hr,h=>by
  obtain⟨us,h1,h2,h3⟩:=hr
  exact⟨us,h1,h2,fun j x y hx hy=>by simp at hx⟩
 |r1::r2::l,v,hr,h=>by
  obtain⟨us,h1,h2,h3⟩:=hr
  exact⟨us,h1,h2,fun j x y hx hy=>(h3 j x y hx hy).nD fun b a c ho=>h _ b a c ho⟩
section
variable{P:Program}{gl:Nat→Option D}{hh:Hints}
theorem UE{P:Program}{n:Nat}{c:Code}{Q:Exit→Act→World→Prop}{a:Act}{w:World}(h:(Bw c).wpIn Fence.wide n P (Exit.noGoto Q) a w):c.wpIn Fence.wide n P Q a w:=by
 have key:∀c':Code,c'.wpIn Fence.wide n P (Exit.noGoto Q) a w→c'.wpIn Fence.wide n P Q a w:=fun c' h=>wpIn_mono h fun e a w hq=>by
  cases e<;>first|exact hq|exact hq.elim
 cases c with
 |scope c'=>exact wpIn_wide.2 (wp_scope_straight (wpIn_wide.1 h))
 |_=>exact key _ h
theorem Nd(hm:P.follows .mixedOrders =true){f:FuncId}{fn:Func}{c c':Code}{gs:List gd}{args:List SV}{p:Nat}{rs:List SV}{bk:SV}(hf:P.funcs[f]? =some fn)(hb:fn.body=some c)(da:∀{Q:Exit→Act→World→Prop}{a:Act}{w:World},c'.wpIn Fence.wide 0 P (Exit.noGoto Q) a w→c.wpIn Fence.wide 0 P Q a w)(hE:j9 P f)(yc:SV.fO args=true){QA:Ex→Env→Prop}
  (h:b9 args (aw P gl (aB P gl) hh c' (fun x e=>(x=.normal ∨x=.ret)∧fP gs e (QA x)) (enter fn.ntmps args)))
  (fin:∀(w w':World)(St:Nat→Nat→Prop)(vs:Array Value)(w0:World)(an:S0)x e' a' g',w0.heap.size=0→Inv gl w0 an e' a' w' g'→QA x e'→
    (∀t,t∉cj [] c'→a'.tmps.getD t undef=(vs++Array.replicate (fn.ntmps-vs.size) undef).getD t undef)→(∀b o,St b o→g'.St b o∧mw w w' b o)→
    (∀x y,args[p]? =some x→vs[p]? =some y→aG w St 0 (fun _ _ _=>False) (aa x) y)→args.length=vs.size→
    ∃v,∃ow:Nat→Option Nat,(results fn a'.tmps).run P w'=.ok v w'∧(∀b,ow b≠none→g'.ow b≠none)∧
     rn w' g'.St (fun j b a c=>ow b=some j∧(∃cur e,w'.heap[b]? =some (.cells cur e (0,0))∧cur.size=c)∧∀o,a≤o→¬g'.St b o) rs v∧
     ∀y,vs[p]? =some y→aG w' g'.St 0 (fun b a c=>ow b=some 0∧(∃cur e,w'.heap[b]? =some (.cells cur e (0,0))∧cur.size=c)∧∀o,a≤o→¬g'.St b o) bk y):IA P gl f args p rs bk:=by
 refine⟨hE,yc,fun w St A vs lS hA mX hlen ea=>?_⟩
 have ba:SV.fo args:=by
  rw[SV.iW]
  intro x hx
  obtain⟨i,hi,rfl⟩:=List.mem_iff_getElem.1 hx
  exact(ea i _ (vs[i]'(by omega)) (by simp) (by simp)).wf
 let w0:World:={w with heap:= #[]}
 have h0:w0.heap.size=0:=rfl
 let an:S0:={St:=St,df:=fun D o=>A D=none∧w.heap[D]? =some o,cl:=fun b o v=>St b o∧w.cell? ⟨b,o,none⟩=some v,sz:=w.heap.size}
 let g:Gh:=⟨St,[],fun b=>(A b).map fun i=>Pos.s i 0⟩
 have hI:Inv gl w0 an (enter fn.ntmps args) {tmps:=vs++Array.replicate (fn.ntmps-vs.size) undef,defers:=[]} w g:=by
  refine⟨⟨rfl,rfl,rfl,by rw[h0];exact Nat.zero_le _,fun k hk=>by rw[h0]at hk;omega⟩,by simp[enter,hlen],fun i s hs=>?_,rfl,fun b bx aj h1=>by simp[enter]at h1,fun i j aj h1=>by simp[g]at h1,fun _ _ h=>h,fun b o hb=>⟨.inl hb,by simp[g],lS b o hb⟩,fun b hb=>by simp[g]at hb,mX,rfl,fun D o hD=>⟨by simp[g],by simp[g,hD.1],hD.2,fun x hx=>hx⟩,fun b o v hv=>hv,Nat.le_refl _⟩
  simp only[enter]at hs
  rw[List.getElem?_append]at hs
  split at hs
  ·rename_i hi
   simp only[List.length_map]at hi
   simp only[List.getElem?_map,Option.map_eq_some_iff]at hs
   obtain⟨x,hx,rfl⟩:=hs
   have CQ:i<vs.size:=by omega
   have:=ea i x vs[i] hx (by simp)
   have iw:(vs++Array.replicate (fn.ntmps-vs.size) undef).getD i undef=vs[i]:=by
    simp[Array.getElem?_append,CQ]
   rw[iw]
   refine .v _ _ _ (this.nD fun b a' c' ho=>?_)
   obtain⟨o1,o2,o3⟩:=ho
   exact⟨by simp[g,o1],by rw[h0];exact Nat.zero_le _,by simp[g],o2,o3⟩
  ·have:=(List.mem_replicate.1 (List.mem_of_getElem? hs)).2
   subst this
   exact .v _ _ _ (.undef _ _)
 refine(callsIn_wide (n:=0)).1 (callsIn_of_wp hf hb trivial ?_)
 refine da ?_
 have hk:=oo (r:=none) (n:=0) (ds:=[]) (Q:=Exit.noGoto (bodyPost P fn (fun e w'=>∃v,e=.returned v∧w'.os=w.os∧w'.tape=w.tape∧w'.output=w.output∧w.heap.size≤w'.heap.size∧(∀b,b<w.heap.size→A b=none→w'.heap[b]? =w.heap[b]?)∧
  ∃bz ow,(∀b o,St b o→bz b o∧mw w w' b o)∧(∀b o,bz b o→St b o∨((w.heap.size≤b∨A b≠none)∧b<w'.heap.size))∧
   rn w' bz (XO w.heap.size A w' bz ow) rs v∧∀y,vs[p]? =some y→aG w' bz 0 (XO w.heap.size A w' bz ow 0) bk y))) hm c' hI (h ba) ?_
 ·rw[xm rfl]at hk
  exact hk
 rintro x e1 a' w' g1 cK ⟨hx,hq⟩ eZ
 obtain⟨e',g',aX,hq⟩:=zj cK hq
 rw[xm aX.defers]
 have oF:∀b,b<w.heap.size→A b=none→w'.heap[b]? =w.heap[b]? ∧g'.ow b=none∧∀o,g'.St b o→St b o:=fun b hb rW=>by
  have:=aX.ek b (w.heap[b]'hb) ⟨rW,by simp⟩
  exact⟨by rw[this.2.2.1];simp,this.2.1,this.2.2.2⟩
 have BW:∀b o,St b o→g'.St b o∧mw w w' b o:=fun b o hs=>by
  refine⟨aX.fp b o hs,?_⟩
  cases rW:A b with
  |none=>exact .pt (oF b (lS b o hs) rW).1
  |some i=>
   obtain⟨cur,te,h1,h2⟩:=hA b i rW
   have ho:o<cur.size:=Nat.lt_of_not_le fun hle=>h2 o hle hs
   have hc:w.cell? ⟨b,o,none⟩=some cur[o]:=by
    have:=cell_of_row w b o cur te (0,0) h1
    rw[this];simp[ho]
   exact⟨(aX.cls b o _ ⟨hs,hc⟩).2.trans hc.symm,fun es cl Ce=>by rw[h1]at Ce;cases Ce⟩
 obtain⟨v,ow,aV,o8,hr,CD⟩:=fin w w' St vs w0 an x e' a' g' h0 aX hq eZ BW (fun x y hx hy=>(ea p x y hx hy).aa) hlen
 have gY:∀{j b a' c'},(ow b=some j∧(∃cur e,w'.heap[b]? =some (.cells cur e (0,0))∧cur.size=c')∧∀o,a'≤o→¬g'.St b o)→XO w.heap.size A w' g'.St ow j b a' c':=fun{j b a' c'}ho=>by
  refine⟨ho.1,?_,ho.2.1,ho.2.2⟩
  rcases Nat.lt_or_ge b w.heap.size with hb|hb
  ·refine .inr fun rW=>?_
   exact o8 b (by rw[ho.1];simp) (oF b hb rW).2.1
  ·exact .inl hb
 have z5:a'.defers=[]∧∃v,(results fn a'.tmps).run P w'=.ok v w'∧(∃v',(Ending.returned v)=.returned v'∧w'.os=w.os∧w'.tape=w.tape∧w'.output=w.output∧w.heap.size≤w'.heap.size∧(∀b,b<w.heap.size→A b=none→w'.heap[b]? =w.heap[b]?)∧
   ∃bz ow,(∀b o,St b o→bz b o∧mw w w' b o)∧(∀b o,bz b o→St b o∨((w.heap.size≤b∨A b≠none)∧b<w'.heap.size))∧
    rn w' bz (XO w.heap.size A w' bz ow) rs v'∧∀y,vs[p]? =some y→aG w' bz 0 (XO w.heap.size A w' bz ow 0) bk y):=by
  refine⟨aX.defers,v,aV,v,rfl,aX.below.os,aX.below.tape,aX.below.output,aX.iA,fun b hb rW=>(oF b hb rW).1,g'.St,ow,BW,fun b o hs=>?_,?_,fun y hy=>(CD y hy).nD fun b a c ho=>gY ho⟩
  ·have aI:=(aX.cm b o hs).2.2
   rcases Nat.lt_or_ge b w.heap.size with hb|hb
   ·cases rW:A b with
    |none=>exact .inl ((oF b hb rW).2.2 o hs)
    |some i=>exact .inr ⟨.inr (by simp),aI⟩
   ·exact .inr ⟨.inl hb,aI⟩
  ·exact rn.nD hr fun j b a c ho=>gY ho
 rcases hx with rfl|rfl<;>exact z5
theorem NN(hm:P.follows .mixedOrders =true){f:FuncId}{args:List SV}{p:Nat}{y:SV}{rs:List SV}(hE:j9 P f)(yc:SV.fO args=true)(hp:args[p]? =some y)(ht:∀r∈rs,ri r=false)
  (gW:body P gl (aB P gl) hh f args fun x=>x=JR rs):aB P gl f (oJ p args) (.aK (aa y::rs)):=by
 rw[Ia]
 unfold body at gW
 split at gW
 ·rename_i fn hf
  split at gW
  ·rename_i c hb
   refine Nd (hh:=hh) (gs:=[]) (c':=c) hm hf hb (fun h=>wpIn_mono h fun e a w hq=>by cases e<;>first|exact hq|exact hq.elim) hE yc (QA:=fun x e=>finish P fn e fun x=>x=JR rs) (fun ba=>?_) ?_
   ·refine jJ _ ?_ (gW ba)
    intro x e hx
    cases x with
    |normal=>exact⟨.inl rfl,hx⟩
    |ret=>exact⟨.inr rfl,hx⟩
    |exit i=>exact hx.elim
   ·intro w w' St vs w0 an x e' a' g' h0 aX hq eZ BW hold hlen
    obtain⟨r',v,iE,aV,aW⟩:=Hf aX hq
    subst iE
    refine⟨v,fun b=>(tx g' fn.results.toList b).map (· +1),aV,fun b hb hn=>hb ?_,?_,fun y' iN=>?_⟩
    ·simp[tx,hn]
    ·have hO:∀j b a c,tI w0.heap.size w' g'.St (tx g' fn.results.toList) j b a c→(tx g' fn.results.toList b).map (· +1)=some (j+1)∧(∃cur e,w'.heap[b]? =some (.cells cur e (0,0))∧cur.size=c)∧∀o,a≤o→¬g'.St b o:=fun j b a c ho=>⟨by rw[ho.1];rfl,ho.2.2.1,ho.2.2.2⟩
     unfold rn
     match rs,ht,aW with
     |[r],ht,aW=>
      have hr:tc w0.heap.size w' g'.St (tx g' fn.results.toList) r v:=aW
      have htr:=ht r (by simp)
      cases r with
      |aK l=>cases htr
      |_=>exact aG.nD hr fun b a c ho=>hO 0 b a c ho
     |[],_,aW=>
      obtain⟨us,h1,h2,h3⟩:=aW
      exact⟨us,h1,h2,fun j x y hx hy=>by simp at hx⟩
     |r1::r2::l,_,aW=>
      obtain⟨us,h1,h2,h3⟩:=aW
      exact⟨us,h1,h2,fun j x y hx hy=>(h3 j x y hx hy).nD fun b a c ho=>hO j b a c ho⟩
    ·exact(hold y y' hp iN).mono BW (fun b o hb=>by omega) _ (fun _ _ _ h=>h.elim)
  ·exact gW.elim
 ·exact gW.elim
theorem DC(hm:P.follows .mixedOrders =true){f:FuncId}{args:List SV}{p:Nat}{bk:SV}(hE:j9 P f)(yc:SV.fO args=true)(hp:p<args.length)(CD:bk≠.undef)
  (gW:zQ P gl (aB P gl) hh p f args fun x=>x=bk):aB P gl f (oJ p args) (.aK [bk]):=by
 rw[Ia]
 unfold zQ at gW
 split at gW
 ·rename_i fn hf
  split at gW
  ·rename_i c hb
   cases rR:fn.results.isEmpty&& !(cj [] (Bw c)).contains p with
   |false=>rw[rR]at gW;exact gW.elim
   |true=>
    rw[rR]at gW
    simp only[cond_true]at gW
    simp only[Bool.and_eq_true,Array.isEmpty_iff,Bool.not_eq_true',List.contains_eq_mem,decide_eq_false_iff_not]at rR
    refine Nd (hh:=hh) (gs:=jo hh.gh 3000000) (c':=Bw c) hm hf hb UE hE yc (QA:=fun x e=>(e.ai.getD p (.v .undef)).bJ =bk) (fun ba=>?_) ?_
    ·refine jJ _ ?_ (gW ba)
     intro x e hx
     cases x with
     |normal=>exact⟨.inl rfl,hx⟩
     |ret=>exact⟨.inr rfl,hx⟩
     |exit i=>exact hx.elim
    ·intro w w' St vs w0 an x e' a' g' h0 aX hq eZ BW hold hlen
     have aV:(results fn a'.tmps).run P w'=.ok (.tuple #[]) w':=by
      have:=A2 (P:=P) (fn:=fn) (tmps:=a'.tmps) (w:=w') (vs:=[]) (by rw[rR.1];simp)
      exact this
     refine⟨_,fun b=>if g'.ow b=some (.s p 0)then some 0 else none,aV,fun b hb hn=>hb (by show(if g'.ow b=some (.s p 0)then some 0 else none)=none;rw[hn];simp),⟨#[],rfl,rfl,fun j x y hx hy=>by simp at hx⟩,fun y hy=>?_⟩
     have hs:bP w0.heap.size w' g' (eA w0.heap.size w' g' p) (e'.ai.getD p (.v .undef)) (a'.tmps.getD p undef):=iI aX p
     have iw:(vs++Array.replicate (fn.ntmps-vs.size) undef).getD p undef=y:=by
      have hpv:=(Array.getElem?_eq_some_iff.1 hy)
      obtain⟨h1,h2⟩:=hpv
      simp[Array.getElem?_append,h1,h2]
     rw[eZ p rR.2,iw]at hs
     cases gM:e'.ai.getD p (.v .undef)with
     |v x=>
      rw[gM]at hs hq
      have hx:x=bk:=hq
      subst hx
      have:=hs.iK
      rw[h0]at this
      refine this.nD fun b a c ho=>⟨by show(if g'.ow b=some (.s p 0)then some 0 else none)=some 0;rw[if_pos ho.1],ho.2.2.2.1,ho.2.2.2.2⟩
     |_=>rw[gM]at hq;exact absurd hq.symm CD
  ·exact gW.elim
 ·exact gW.elim
end
end Go.Proofs.Ytimbllcalipehaa.Ab
namespace Go.Proofs.Ytimbllcalipehaa.Ab
open Go Go.RowKit Go.ChangeShapes Go.WideShapes
inductive eE(P:Program):TypeId→List D→Prop
 |bool {t:TypeId} (h:P.underlying t=some .bool) (b:Bool):eE P t [.bool b]
 |int {t:TypeId} {k:IntKind} (h:P.underlying t=some (.int k)) (n:Int) (hn:fm k n=true):eE P t [.int k n]
 |str {t:TypeId} (h:P.underlying t=some .string) (s:List UInt8) (hs:s.length≤maxLen):eE P t [.str s]
 |fD {t e:TypeId} (h:P.underlying t=some (.slice e)):eE P t [.sl .nil 0 []]
 |sl {t e:TypeId} (h:P.underlying t=some (.slice e)) (b:Bool) (hb:dm P e=some b) (L:List (List D)) (hm:L.length≤maxLen) (hw:L.length*P.bytesOf e≤reachBytes) (hL:∀x∈L,eE P e x):
   eE P t [.sl .ro (P.cellsOf e) (L.map (pack b))]
 |struct {t:TypeId} {fs:Array Field} (h:P.underlying t=some (.struct fs)) (parts:List (List D)) (hl:parts.length=fs.size)
   (hp:∀(i:Nat)f p,fs[i]? =some f→parts[i]? =some p→eE P f.type p):eE P t parts.flatten
 |array {t e:TypeId} {n:Nat} (h:P.underlying t=some (.array n e)) (parts:List (List D)) (hl:parts.length=n) (hp:∀p∈parts,eE P e p):eE P t parts.flatten
theorem eE.is{P:Program}{t:TypeId}{xs:List D}(h:eE P t xs):Is P t xs:=by
 induction h with
 |bool h b=>exact .bool h b
 |int h n hn=>exact .int h n hn
 |str h s hs=>exact .str h s hs
 |fD h=>exact .fD h
 |sl h b hb L hm hw hL ih=>exact .sl h b hb L hm ih
 |struct h parts hl hp ih=>exact .struct h parts hl ih
 |array h parts hl hp ih=>exact .array h parts hl ih
section
variable{P:Program}{t:TypeId}{xs:List D}
theorem eE.Er{e:TypeId}{b:Bool}(ht:P.underlying t=some (.slice e))(hb:dm P e=some b)(h:eE P t xs):
  xs=[.sl .nil 0 []]∨∃L:List (List D),xs=[.sl .ro (P.cellsOf e) (L.map (pack b))]∧L.length*P.bytesOf e≤reachBytes∧∀x∈L,eE P e x:=by
 cases h with
 |fD h=>exact .inl rfl
 |sl h b' dq L hm hw hL=>rw[ht]at h;cases h;rw[hb]at dq;cases dq;exact .inr ⟨L,rfl,hw,hL⟩
 |_=>simp_all
theorem eE.uZ{fs:Array Field}(ht:P.underlying t=some (.struct fs))(h:eE P t xs):
  ∃parts:List (List D),xs=parts.flatten∧parts.length=fs.size∧∀(i:Nat)f p,fs[i]? =some f→parts[i]? =some p→eE P f.type p:=by
 cases h with
 |struct h parts hl hp=>rw[ht]at h;cases h;exact⟨parts,rfl,hl,hp⟩
 |_=>simp_all
end
section
variable{H:Type}{P:Program}
theorem Jn{e:TypeId}{d:DataW H}:∀{l:List (DataW H)},d∈l→∀n∈d.weights P e,n∈DataW.weightsAll P e l
 |[],h,_,_=>by cases h
 |a::l,h,n,hn=>by
  simp only[DataW.weightsAll,List.mem_append]
  rcases List.mem_cons.1 h with rfl|h
  ·exact .inl hn
  ·exact .inr (Jn h n hn)
theorem aeq{t e:TypeId}(hu:P.underlying t=some (.slice e)){elems rest:List (DataW H)}{d:DataW H}(hd:d∈elems){n:Nat}(hn:n∈d.weights P e):n∈(DataW.slice elems rest).weights P t:=by
 simp only[DataW.weights,hu,List.mem_cons,List.mem_append]
 exact .inr (.inl (Jn hd n hn))
theorem acZ{t e:TypeId}(hu:P.underlying t=some (.slice e)){elems rest:List (DataW H×List MemPlace)}(hw:∀n∈(DataW.slice (elems.map (·.1)) (rest.map (·.1))).weights P t,n≤reachBytes):elems.length*P.bytesOf e≤reachBytes:=by
 have:=hw (((elems.map (·.1)).length +(rest.map (·.1)).length)*P.bytesOf e) (by simp[DataW.weights,hu])
 rw[List.length_map]at this
 exact Nat.le_trans (Nat.mul_le_mul_right _ (by omega)) this
theorem ac0{t e:TypeId}{m:Nat}(hu:P.underlying t=some (.array m e)){parts:List (DataW H)}{d:DataW H}(hd:d∈parts){n:Nat}(hn:n∈d.weights P e):n∈(DataW.agg parts).weights P t:=by
 simp only[DataW.weights,hu]
 exact Jn hd n hn
theorem ac1{t:TypeId}{fs:Array Field}(hu:P.underlying t=some (.struct fs)){parts:List (DataW H)}{j:Nat}{f:Field}(hf:fs[j]? =some f){d:DataW H}(hd:parts[j]? =some d){n:Nat}(hn:n∈d.weights P f.type):n∈(DataW.agg parts).weights P t:=by
 simp only[DataW.weights,hu]
 refine DataW.weights_mem_each (j:=j) (t:=f.type) ?_ hd n hn
 rw[List.getElem?_map,Array.getElem?_toList,hf];rfl
end
section
variable{H:Type}{enc:TypeId×Value→H}{P:Program}{w:World}{L:List Nat}
theorem XX(hL:qO P L=true):∀(fuel:Nat)(t:TypeId)(cs:List Value)(x:DataW H×List MemPlace),t∈L→DataW.trod enc P w 0 (fun _=>true) true fuel t cs=some x→(∀n∈x.1.weights P t,n≤reachBytes)→
  ∃xs:List D,eE P t xs∧xs.length=P.cellsOf t∧RL (rC w x.2) xs cs:=by
 intro fuel
 induction fuel with
 |zero=>intro t cs x _ h _;simp[DataW.trod]at h
 |succ fuel ih=>
  intro t cs x ht h hw
  have gA:=sK hL ht
  unfold qn at gA
  split at gA
  ·rename_i hu
   obtain⟨b,rfl,rfl⟩:=DataW.trod_bool hu h
   exact⟨[.bool b],.bool hu b,(Nat.eq_of_beq_eq_true gA).symm,.cons ⟨rfl,.bool b⟩ .nil⟩
  ·rename_i k hu
   obtain⟨n,rfl,rfl,ba⟩:=DataW.trod_int hu h
   exact⟨[.int k n],.int hu n ba,(Nat.eq_of_beq_eq_true gA).symm,.cons ⟨rfl,.int k n ba⟩ .nil⟩
  ·rename_i hu
   obtain⟨s,rfl,rfl,hs⟩:=DataW.trod_string hu h
   exact⟨[.str s.data.toList],.str hu _ (by simpa using hs),(Nat.eq_of_beq_eq_true gA).symm,.cons ⟨rfl,.str s hs⟩ .nil⟩
  ·rename_i e hu
   simp only[Bool.and_eq_true]at gA
   obtain⟨⟨h1,he⟩,E4⟩:=gA
   have he:e∈L:=by simpa using he
   have h1:=Nat.eq_of_beq_eq_true h1
   have E4:=Nat.le_of_ble_eq_true E4
   obtain⟨bb,dN⟩:∃bb,dm P e=some bb:=by
    have:=sK hL he
    unfold qn at this
    unfold dm
    split at this<;>simp_all
   rcases DataW.trod_slice hu h with⟨rfl,rfl⟩|⟨a,len,cap,elems,rest,n,hn,rfl,rfl,_,K9,fb,g9,aer,_,_⟩
   ·exact⟨[.sl .nil 0 []],.fD hu,by rw[h1];rfl,.cons ⟨rfl,.fD 0⟩ .nil⟩
   ·cases hn
    have key:∀k,k≤len→∃M:List (List D),M.length=k∧∀i,i<k→∃y eb,M[i]? =some y∧w.cells? 0 (a.add (i*P.cellsOf e)) (P.cellsOf e)=some eb∧eE P e y∧y.length=P.cellsOf e∧
      RL (rC w ((elems++rest).flatMap (·.2))) y eb:=by
     intro k
     induction k with
     |zero=>intro _;exact⟨[],rfl,fun i hi=>by omega⟩
     |succ k CY=>
      intro hk
      obtain⟨M,hM,jB⟩:=CY (by omega)
      have hq:=aer k (by omega)
      have jU:elems[k]? =some (elems[k]'(by omega)):=List.getElem?_eq_getElem (by omega)
      rw[jU]at hq
      obtain⟨eb,g8,dp⟩:=Option.bind_eq_some_iff.1 hq
      obtain⟨y,hy,Lc,jW⟩:=ih e eb _ he dp (fun n hn=>hw n (aeq hu (List.mem_map.2 ⟨_,List.getElem_mem (by omega),rfl⟩) hn))
      refine⟨M++[y],by simp[hM],fun i hi=>?_⟩
      rcases Nat.lt_or_ge i k with h|h
      ·obtain⟨y',aes,q1,q2⟩:=jB i h
       exact⟨y',aes,by rw[List.getElem?_append_left (by omega)];exact q1,q2⟩
      ·have:i=k:=by omega
       subst this
       refine⟨y,eb,by rw[List.getElem?_append_right (by omega),hM];simp,g8,hy,Lc,jW.mono (rC.mono fun p hp=>?_)⟩
       exact List.mem_flatMap.2 ⟨_,List.mem_append_left _ (List.getElem_mem (by omega)),hp⟩
    obtain⟨M,hM,jB⟩:=key len (Nat.le_refl _)
    have CZ:∀y∈M,eE P e y∧y.length=P.cellsOf e∧∀c∈y,c.one=true:=by
     intro y hy
     obtain⟨i,hi,rfl⟩:=List.mem_iff_getElem.1 hy
     obtain⟨y',eb,q1,_,q2,q3,q4⟩:=jB i (by omega)
     rw[List.getElem?_eq_getElem hi]at q1
     cases q1
     refine⟨q2,q3,fun c hc=>?_⟩
     obtain⟨j,hj,rfl⟩:=List.mem_iff_getElem.1 hc
     have:=q4.length
     exact(q4.get j _ (eb[j]'(by omega)) (List.getElem?_eq_getElem hj) (List.getElem?_eq_getElem (by omega))).1
    have Ld:∀y∈M,(pack bb y).cells =y:=fun y hy=>U7 hL he dN (CZ y hy).1.is (CZ y hy).2.2
    refine⟨[.sl .ro (P.cellsOf e) (M.map (pack bb))],.sl hu bb dN M (by omega) (by rw[hM,←g9];exact acZ hu hw) (fun y hy=>(CZ y hy).1),by rw[h1];rfl,.cons ⟨rfl,?_⟩ .nil⟩
    have hlen:(M.map (pack bb)).length =len:=by simp[hM]
    by_cases k9:a.spot=none
    ·obtain⟨b,off,spot⟩:=a
     simp only at k9
     subst k9
     have aL:∀o,o<len*P.cellsOf e→∃v,w.cell? ⟨b,off+o,none⟩=some v:=by
      intro o ho
      have hq:o / P.cellsOf e<len:=Nat.div_lt_of_lt_mul (by rw[Nat.mul_comm];exact ho)
      have xI:=Nat.mod_lt o E4
      obtain⟨y,eb,q1,q2,q3,q4,q5⟩:=jB _ hq
      obtain⟨_,l1,l2⟩:=World.cells?_some q2
      have:=l2 (o % P.cellsOf e) xI
      refine⟨eb[o % P.cellsOf e]'(by omega),?_⟩
      rw[List.getElem?_eq_getElem (by omega)]at this
      rw[←this]
      simp only[add_plain]
      congr 2
      rw[Nat.add_assoc]
      congr 1
      rw[Nat.mul_comm]
      exact(Nat.div_add_mod _ _).symm
     have hv:∀o,o<len*P.cellsOf e→w.cell? ⟨b,off+o,none⟩=some ((w.cell? ⟨b,off+o,none⟩).getD (.bool false)):=fun o ho=>by
      obtain⟨v,hv⟩:=aL o ho
      rw[hv];rfl
     have:=aU.sl (w:=w) (St:=z6 (MemPlace.row ⟨b,off,none⟩ ((elems.length+rest.length)*P.cellsOf e)++(elems++rest).flatMap (·.2))) (P.cellsOf e) (M.map (pack bb)) b off cap
      (fun o=>(w.cell? ⟨b,off+o,none⟩).getD (.bool false)) (by omega) (by omega) (fun x hx=>by
        obtain⟨y,hy,rfl⟩:=List.mem_map.1 hx
        rw[Ld y hy]
        exact(CZ y hy).2.1) (fun x hx c hc=>by
        obtain⟨y,hy,rfl⟩:=List.mem_map.1 hx
        rw[Ld y hy]at hc
        exact(CZ y hy).2.2 c hc) (fun o ho=>by
        rw[hlen]at ho
        refine⟨hv o ho,List.mem_append_left _ (MemPlace.mem_row.2 ⟨o,?_,rfl⟩)⟩
        rw[Nat.add_mul];rw[g9];omega) (fun i x j c hi hj=>by
        rw[List.getElem?_map]at hi
        obtain⟨y,hy,rfl⟩:=Option.map_eq_some_iff.1 hi
        have lO:i<M.length:=(List.getElem?_eq_some_iff.1 hy).1
        have hym:y∈M:=List.mem_of_getElem? hy
        rw[Ld y hym]at hj
        obtain⟨y',eb,q1,q2,q3,q4,q5⟩:=jB i (by omega)
        rw[hy]at q1
        cases q1
        obtain⟨_,l1,l2⟩:=World.cells?_some q2
        have jC:j<y.length:=(List.getElem?_eq_some_iff.1 hj).1
        have l3:=l2 j (by omega)
        rw[List.getElem?_eq_getElem (by omega)]at l3
        have hr:=(q5.get j c (eb[j]'(by omega)) hj (List.getElem?_eq_getElem (by omega))).2
        simp only[add_plain,Nat.add_assoc]at l3
        simp only[l3,Option.getD_some]
        exact hr.mono fun b' o' dq=>⟨List.mem_append_right _ dq,rfl⟩)
     rw[hlen]at this
     exact this
    ·have h0:len=0:=by
      rcases Nat.eq_zero_or_pos len with h|h
      ·exact h
      ·obtain⟨y,eb,q1,q2,q3,q4,q5⟩:=jB 0 h
       obtain⟨_,l1,l2⟩:=World.cells?_some q2
       have:=l2 0 E4
       rw[List.getElem?_eq_getElem (by omega)]at this
       exact absurd (World.cell?_spot this) (by simpa[Addr.add]using k9)
     subst h0
     have:M=[]:=List.length_eq_zero_iff.1 hM
     subst this
     exact .jd _ a cap k9
  ·rename_i n e hu
   simp only[Bool.and_eq_true]at gA
   obtain⟨he,hc⟩:=gA
   have he:e∈L:=by simpa using he
   have hc:=Nat.eq_of_beq_eq_true hc
   obtain⟨ys,m,hm,rfl,cN,Lc,Lf⟩:=DataW.trod_array hu h
   cases hm
   have key:∀k,k≤n→∃M:List (List D),M.length=k∧(∀y∈M,eE P e y)∧M.flatten.length=k*P.cellsOf e∧RL (rC w (ys.flatMap (·.2))) M.flatten ((List.range k).map fun i=>(cs.drop (i*P.cellsOf e)).take (P.cellsOf e)).flatten :=by
    intro k
    induction k with
    |zero=>intro _;exact⟨[],rfl,by simp,by simp,by simp;exact .nil⟩
    |succ k CY=>
     intro hk
     obtain⟨M,hM,yy,wA,rY⟩:=CY (by omega)
     have hq:=Lf k (by omega)
     have jU:ys[k]? =some (ys[k]'(by omega)):=List.getElem?_eq_getElem (by omega)
     rw[jU]at hq
     obtain⟨y,hy,JS,jW⟩:=ih e _ _ he hq (fun n hn=>hw n (ac0 hu (List.mem_map.2 ⟨_,List.getElem_mem (by omega),rfl⟩) hn))
     refine⟨M++[y],by simp[hM],fun z hz=>?_,by simp[wA,JS,Nat.add_mul],?_⟩
     ·rcases List.mem_append.1 hz with h|h
      ·exact yy z h
      ·simp at h;subst h;exact hy
     ·rw[List.range_succ,List.map_append,List.flatten_append,List.flatten_append]
      refine rY.append ?_
      simp only[List.map_cons,List.map_nil,List.flatten_cons,List.flatten_nil,List.append_nil]
      exact jW.mono (rC.mono fun p hp=>List.mem_flatMap.2 ⟨_,List.getElem_mem (by omega),hp⟩)
   obtain⟨M,hM,yy,wA,rY⟩:=key n (Nat.le_refl _)
   refine⟨M.flatten,.array hu M hM yy,by rw[wA,hc],?_⟩
   rw[←Oh (P.cellsOf e) n cs (by rw[cN,hc])]at rY
   exact rY
  ·rename_i fs hu
   simp only[Bool.and_eq_true]at gA
   obtain⟨Cw,rP⟩:=gA
   split at rP
   ·rename_i tot RA
    have rP:=Nat.eq_of_beq_eq_true rP
    obtain⟨ys,m,hm,rfl,cN,Lc,Lf⟩:=DataW.trod_struct hu h
    cases hm
    have key:∀k,k≤fs.size→∃M:List (List D),M.length=k∧(∀(i:Nat)f p,fs[i]? =some f→M[i]? =some p→eE P f.type p)∧M.flatten.length=((fs.toList.take k).map fun f=>P.cellsOf f.type).sum ∧
      RL (rC w (ys.flatMap (·.2))) M.flatten ((fs.toList.take k).map fun f=>(cs.drop f.offset).take (P.cellsOf f.type)).flatten :=by
     intro k
     induction k with
     |zero=>intro _;exact⟨[],rfl,fun i f p _ hp=>by simp at hp,by simp,by simp;exact .nil⟩
     |succ k CY=>
      intro hk
      obtain⟨M,hM,yy,wA,rY⟩:=CY (by omega)
      have rQ:fs[k]? =some (fs[k]'(by omega)):=Array.getElem?_eq_getElem (by omega)
      have hq:=Lf k _ rQ
      have jU:ys[k]? =some (ys[k]'(by omega)):=List.getElem?_eq_getElem (by omega)
      rw[jU]at hq
      have hfm:(fs[k]'(by omega)).type ∈L:=by simpa using List.all_eq_true.1 Cw _ (by simp:fs[k]'(by omega)∈fs.toList)
      obtain⟨y,hy,JS,jW⟩:=ih _ _ _ hfm hq (fun n hn=>hw n (ac1 hu (j:=k) rQ (by rw[List.getElem?_map,jU];rfl) hn))
      have FM:fs.toList.take (k+1)=fs.toList.take k++[fs[k]'(by omega)]:=by
       rw[List.take_add_one]
       simp[rQ]
      refine⟨M++[y],by simp[hM],fun i f p hf hp=>?_,?_,?_⟩
      ·rcases Nat.lt_or_ge i k with h|h
       ·rw[List.getElem?_append_left (by omega)]at hp
        exact yy i f p hf hp
       ·rw[List.getElem?_append_right (by omega),hM]at hp
        have hik:i=k:=by
         have:=(List.getElem?_eq_some_iff.1 hp).1
         simp at this
         omega
        subst hik
        simp at hp
        subst hp
        rw[rQ]at hf
        cases hf
        exact hy
      ·rw[FM]
       simp[wA,JS]
      ·rw[FM,List.map_append,List.flatten_append,List.flatten_append]
       refine rY.append ?_
       simp only[List.map_cons,List.map_nil,List.flatten_cons,List.flatten_nil,List.append_nil]
       exact jW.mono (rC.mono fun p hp=>List.mem_flatMap.2 ⟨_,List.getElem_mem (by omega),hp⟩)
    obtain⟨M,hM,yy,wA,rY⟩:=key fs.size (Nat.le_refl _)
    have Lg:fs.toList.take fs.size=fs.toList:=List.take_of_length_le (by simp)
    rw[Lg]at wA rY
    have CE:=HT _ _ _ RA
    refine⟨M.flatten,.struct hu M hM yy,by rw[wA,←rP,CE];omega,?_⟩
    rw[←NJ cs fs.toList 0 tot RA (by rw[cN,rP]),List.drop_zero]at rY
    exact rY
   ·cases rP
  ·cases gA
end
section
variable{H:Type}{enc:TypeId×Value→H}{P:Program}{W:World}{L:List Nat}
theorem XY(hL:qO P L=true){t:TypeId}{v:Value}{d:DataW H}{ps:List MemPlace}{b:Bool}{r:Reach}{b0:Nat}(ht:t∈L)(hb:dm P t=some b)
  (jv:Value.okWide P W r b0 t v)(h:DataW.Trod enc P W 0 (fun _=>true) true t v d ps)(hw:∀n∈d.weights P t,n≤reachBytes):∃xs,eE P t xs∧aU W (z6 ps) (pack b xs) v:=by
 obtain⟨fuel,hf⟩:=h
 obtain⟨xs,hi,hl,hr⟩:=XX hL fuel t _ _ ht hf hw
 refine⟨xs,hi,?_⟩
 have gA:=sK hL ht
 unfold dm at hb
 cases b with
 |true=>
  have:∃cs,v=.agg cs:=by
   unfold Value.okWide at jv
   split at jv
   ·obtain⟨cs,h,_⟩:=jv;exact⟨cs,h⟩
   ·obtain⟨cs,h,_⟩:=jv;exact⟨cs,h⟩
   ·rename_i h1 h2
    split at hb
    ·rename_i fs hu;exact absurd hu (h1 fs)
    ·rename_i n e hu;exact absurd hu (h2 n e)
    ·cases hb
    ·cases hb
  obtain⟨cs,rfl⟩:=this
  simp only[Value.cells]at hr
  refine .agg xs cs (fun c hc=>?_) (by simpa using hr.length) (fun i c u hc hu=>(hr.get i c u hc (by simpa using hu)).2)
  obtain⟨j,hj,rfl⟩:=List.mem_iff_getElem.1 hc
  have jC:=hr.length
  exact(hr.get j _ (cs.toList[j]'(by omega)) (List.getElem?_eq_getElem hj) (List.getElem?_eq_getElem (by omega))).1
 |false=>
  have bV:∃y,xs=[y]:=by
   cases hi with
   |bool h b=>exact⟨_,rfl⟩
   |int h n hn=>exact⟨_,rfl⟩
   |str h s hs=>exact⟨_,rfl⟩
   |fD h=>exact⟨_,rfl⟩
   |sl h=>exact⟨_,rfl⟩
   |struct h=>rw[h]at hb;cases hb
   |array h=>rw[h]at hb;cases hb
  obtain⟨y,rfl⟩:=bV
  have hv:v.cells.toList=[v]:=by
   cases v with
   |agg cs=>
    exfalso
    unfold Value.okWide at jv
    split at jv
    ·rename_i h;rw[h]at hb;cases hb
    ·rename_i h;rw[h]at hb;cases hb
    ·unfold qn at gA
     unfold Cell.okWide at jv
     split at jv<;>simp_all [Cell.ok]
   |_=>rfl
  rw[hv]at hr
  cases hr with
  |cons h _=>exact h.2
end
end Go.Proofs.Ytimbllcalipehaa.Ab
