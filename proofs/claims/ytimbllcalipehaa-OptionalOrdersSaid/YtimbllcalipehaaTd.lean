/-
  THE ABSTRACT WALK: a range over a function: what an iterator is asked, and what the function that ranges is asked.
-/
import Derived.Test.YtimbllcalipehaaTc
import Derived.RangeFuncRecord
import Derived.LoopNIn
import Derived.Scope
set_option linter.unusedVariables false
set_option linter.unusedSimpArgs false
set_option linter.unusedVariables false
set_option linter.unusedSimpArgs false
namespace Go.Proofs.Ytimbllcalipehaa.Ab
open Go Go.RowKit
structure uM(Fr:Nat→Prop)(cL:Nat→Nat→Prop)(W W':World):Prop where
 os:W'.os=W.os
 tape:W'.tape=W.tape
 output:W'.output=W.output
 size:W.heap.size≤W'.heap.size
 aj:∀b,b<W.heap.size→¬Fr b→W'.heap[b]? =W.heap[b]?
 jF:∀b o v,cL b o→W.cell? ⟨b,o,none⟩=some v→W'.cell? ⟨b,o,none⟩=some v
def Iter(P:Program)(gl:Nat→Option D)(f:FuncId)(cap:List SV)(L:List D):Prop:=lu P f∧
 ∀(w:World)(St:Nat→Nat→Prop)(l:Nat)(vs:Array Value),(∀b o,St b o→b<w.heap.size)→uJ gl w St→cap.length=vs.size→
  (∀(i:Nat)x v,cap[i]? =some x→vs[i]? =some v→aJ w St w.heap.size (fun _ _ _=>False) x v)→
  ∀(J:Option Unit→(Nat→Prop)→(Nat→Nat→Prop)→List D→World→Prop),
   (∀q Fr cL pre W W' mw qd,J q Fr cL pre W→uM Fr cL W W'→(∀b,mw b→Fr b∨(W.heap.size≤b∧b<W'.heap.size))→(∀b,Fr b→mw b)→(∀b o,cL b o→qd b o)→
     (∀b o,qd b o→(cL b o∨mw b)∧b<W'.heap.size)→J q mw qd pre W')→
   (∀Fr cL pre d v W,J none Fr cL pre W→aY W cL d v→L[pre.length]? =some d→∃fn tmps assign body,(Instr.yield l #[v]).run P W=.ok (.round l fn tmps assign body) W∧
     ∀n,RoundIn Fence.wide n P l fn tmps assign body W fun e W'=>∃b,e=.returned (.bool b)∧uM (fun b=>¬Fr b) cL W W'∧J (bif b then none else some ()) Fr cL (pre++[d]) W')→
   J none (fun _=>False) St [] w→
   Calls P f (#[.func (.yield l) #[] #[]]++vs) w fun e W'=>(∃v,e=.returned v)∧∃Fr cL pre q,J q Fr cL pre W'∧(q=none→pre=L)
def GO(o:Obj):Prop:=o.isCells=false∧∀es c,o≠.map es c
section
variable{W:World}{gl:Nat→Option D}
theorem YW{l:Nat}{o o':Obj}(h:W.heap[l]? =some o)(ho:o.isCells=false)(bO:o'.isCells=false)(b off:Nat):(W.putObj l o').cell? ⟨b,off,none⟩=W.cell? ⟨b,off,none⟩:=by
 by_cases hb:b=l
 ·subst hb
  have h1:=World.putObj_heap_same (w:=W) (o:=o') (fJ h)
  simp only[World.cell?,h,h1]
  cases o<;>cases o'<;>first|rfl|exact absurd (show true=false from ho) (by decide)|exact absurd (show true=false from bO) (by decide)
 ·exact World.cell?_of_block (World.putObj_heap_other hb)
theorem Inv.other{w0:World}{ao:S0}{e:Env}{a:Act}{g:Gh}(hI:Inv gl w0 ao e a W g){l:Nat}{o o':Obj}(h:W.heap[l]? =some o)(ho:GO o)(bO:GO o')(hl:w0.heap.size≤l)(jJ:∀D ob,ao.df D ob→D≠l):
  Inv gl w0 ao e a (W.putObj l o') g:=by
 have aP:=YW h ho.1 bO.1
 have dZ:∀b,b≠l→(W.putObj l o').heap[b]? =W.heap[b]? :=fun b hb=>World.putObj_heap_other hb
 have pW:∀(b:Nat)(c:Array Value)(t:TypeId)(p:Nat×Nat),W.heap[b]? =some (Obj.cells c t p)→(W.putObj l o').heap[b]? =some (Obj.cells c t p):=fun b c t p hb=>(dZ b (fun e=>by subst e;rw[h]at hb;cases hb;exact absurd (show true=false from ho.1) (by decide))).trans hb
 have Dl:∀(b:Nat)(es:Array MapEntry)(c:Nat),W.heap[b]? =some (Obj.map es c)→(W.putObj l o').heap[b]? =some (Obj.map es c):=fun b es c hb=>(dZ b (fun e=>by subst e;rw[h]at hb;cases hb;exact absurd rfl (ho.2 es c))).trans hb
 have e6:∀b off,nJ W (W.putObj l o') b off:=fun b off=>⟨aP b off,fun es c hm=>Dl b es c hm⟩
 have aU:rj g W (W.putObj l o'):=fun b c ty _ hb=>⟨c,ty,pW b c ty _ hb,rfl⟩
 have hY:∀p b a' c,eJ w0.heap.size W g p b a' c→eJ w0.heap.size (W.putObj l o') g p b a' c∧sY W (W.putObj l o') b a':=by
  rintro p b a' c ⟨h1,h2,h3,⟨cur,t,h4,h5⟩,h6⟩
  exact⟨⟨h1,h2,h3,⟨cur,t,pW b _ _ _ h4,h5⟩,h6⟩,fun _=>(pW b _ _ _ h4).trans h4.symm⟩
 refine⟨hI.below.trans ⟨rfl,rfl,rfl,by simp,fun k hk=>dZ k (by omega)⟩,hI.size,fun i s hs=>?_,hI.eX,fun b bx aj h1 h2=>?_,hI.nodup,hI.fN,fun b o h=>?_,fun b h=>?_,?_,hI.defers,
  fun D ob hD=>(have h:=hI.eN D ob hD;⟨h.1,h.2.1,(dZ D (jJ D ob hD)).trans h.2.2.1,h.2.2.2⟩),fun b o v hv=>⟨(hI.cls b o v hv).1,(aP b o).trans (hI.cls b o v hv).2⟩,by simp;exact hI.jq⟩
 ·exact(hI.ai i s hs).mono (fun b o h=>⟨h,e6 b o⟩) (fun b o _=>aP b o) (fun _ _ h=>h) aU fun j b a' c h=>hY _ b a' c h
 ·have kH:=hI.boxes b bx aj h1 h2
  cases bx with
  |none=>exact kH.elim
  |map l=>
   obtain⟨h0,es,clock,hh,hl,bc⟩:=kH
   exact⟨h0,es,clock,Dl _ _ _ hh,hl,fun i x y hx hy=>⟨(bc i x y hx hy).1,(bc i x y hx hy).2.1,(bc i x y hx hy).2.2.mono fun b o h=>⟨h,aP b o⟩⟩⟩
  |cells cs=>
   obtain⟨h0,c,t,hh,cq,hl,bc⟩:=kH
   exact⟨h0,c,t,pW _ _ _ _ hh,cq,hl,fun j x y hx hy=>(bc j x y hx hy).mono (fun b o h=>⟨h,e6 b o⟩) (fun b o _=>aP b o) _ fun b' a' c' h=>hY _ b' a' c' h⟩
  |one s=>
   obtain⟨h0,c,t,hh,cq,hl,bc⟩:=kH
   exact⟨h0,c,t,pW _ _ _ _ hh,cq,hl,fun y hy=>(bc y hy).mono (fun b o h=>⟨h,e6 b o⟩) (fun b o _=>aP b o) (fun _ _ h=>h) aU fun _ b' a' c' h=>hY _ b' a' c' h⟩
 ·have:=hI.cE b o h
  exact⟨this.1,this.2.1,by simp;exact this.2.2⟩
 ·have:=hI.dn b h
  exact⟨this.1,by simp;exact this.2⟩
 ·intro n x hx
  obtain⟨h0,vs,h1,h2⟩:=hI.j3 n x hx
  exact⟨h0,vs,fun i hi=>⟨(aP _ _).trans (h1 i hi).1,(h1 i hi).2⟩,fun i c iY=>(h2 i c iY).mono fun b o h=>⟨h,aP b o⟩⟩
theorem Inv.norm{w0:World}{ao:S0}{e:Env}{a:Act}{g:Gh}(hI:Inv gl w0 ao e a W g):Inv gl w0 ao e a W {g with ow:=fun b=>if b<W.heap.size then g.ow b else none}:=by
 have hY:∀p b a' c,eJ w0.heap.size W g p b a' c→eJ w0.heap.size W {g with ow:=fun b=>if b<W.heap.size then g.ow b else none} p b a' c:=by
  rintro p b a' c ⟨h1,h2,h3,h4,h5⟩
  have aF:b<W.heap.size:=by obtain⟨cur,t,h,_⟩:=h4;exact fJ h
  exact⟨by simp only;rw[if_pos aF];exact h1,h2,h3,h4,h5⟩
 refine⟨hI.below,hI.size,fun i s hs=>?_,hI.eX,fun b bx aj h1 h2=>?_,hI.nodup,hI.fN,hI.cE,hI.dn,hI.j3,hI.defers,fun D ob hD=>(have h:=hI.eN D ob hD;⟨h.1,by simp only;split;exact h.2.1;rfl,h.2.2⟩),hI.cls,hI.jq⟩
 ·exact(hI.ai i s hs).mono (fun b o h=>⟨h,.refl _ _ _⟩) (fun _ _ _=>rfl) (fun _ _ h=>h) (.refl _) fun j b a' c h=>⟨hY _ b a' c h,.refl _ _ _⟩
 ·have kH:=hI.boxes b bx aj h1 h2
  cases bx with
  |none=>exact kH.elim
  |map l=>exact kH
  |cells cs=>
   obtain⟨h0,c,t,hh,cq,hl,bc⟩:=kH
   exact⟨h0,c,t,hh,cq,hl,fun j x y hx hy=>(bc j x y hx hy).Ke (fun _ _ h=>h) (fun b' a' c' h=>hY _ b' a' c' h)⟩
  |one s=>
   obtain⟨h0,c,t,hh,cq,hl,bc⟩:=kH
   exact⟨h0,c,t,hh,cq,hl,fun y hy=>(bc y hy).mono (fun b o h=>⟨h,.refl _ _ _⟩) (fun _ _ _=>rfl) (fun _ _ h=>h) (.refl _) fun _ b' a' c' h=>⟨hY _ b' a' c' h,.refl _ _ _⟩⟩
def Qx:SV→Bool
 | .own _ _=>false
 | .bt _ _=>false
 |_=>true
theorem aJ.free{w:World}{St:Nat→Nat→Prop}{base:Nat}{O O':Nat→Nat→Nat→Prop}{x:SV}{v:Value}(r:aJ w St base O x v)(h:Qx x=true):aJ w St base O' x v:=by
 cases r with
 |d _ x v hd=>exact .d _ x v hd
 |own=>cases h
 |full _ sz L g hd=>exact .full _ sz L g hd
 |ref _ cs off b o vs ef aP hc=>exact .ref _ cs off b o vs ef aP hc
 |cG _ n sz cs b cap vs ef hn hm aP hc=>exact .cG _ n sz cs b cap vs ef hn hm aP hc
 |aT _ x off b o vs hf aP hc=>exact .aT _ x off b o vs hf aP hc
 |di _ f first cap fv cv hf hc rf rc=>exact .di _ f first cap fv cv hf hc rf rc
 |bt=>cases h
 |mp _ l r es clock hh hs hl hc=>exact .mp _ l r es clock hh hs hl hc
 |undef _ v=>exact .undef _ _
def uZ(n:Nat):Slot→Bool
 | .v x=>Qx x&&x.n9&&x.ax
 | .p b _=>Nat.blt b n
 | .m b=>Nat.blt b n
 |_=>false
def kz(n:Nat):af→Bool
 | .one (.p b _)=>Nat.blt b n
 | .one (.m b)=>Nat.blt b n
 | .one _=>false
 | .cells cs=>cs.all fun x=>x.n9&&x.ax
 |_=>true
def Dm:Slot→Bool
 | .v _=>false
 |_=>true
end
end Go.Proofs.Ytimbllcalipehaa.Ab
set_option linter.unusedVariables false
set_option linter.unusedSimpArgs false
namespace Go.Proofs.Ytimbllcalipehaa.Ab
open Go Go.RowKit
section
variable{P:Program}{gl:Nat→Option D}{hh:Hints}{n:Nat}
def Ex.code:Ex→Option Code
 | .normal =>none
 | .exit i=>some (.exit i)
 | .ret =>some .ret
theorem YX{n:Nat}{l:List af}(h:l.all (kz n)=true){i:Nat}{bx:af}(hi:l[i]? =some bx):kz n bx=true:=List.all_eq_true.1 h bx (List.mem_of_getElem? hi)
theorem nX.cut{base:Nat}{w:World}{g:Gh}{n b:Nat}{bx:af}{aj:Nat}(r:nX base w g b bx aj)(h:kz n bx=true):nX base w (g.cut n) b bx aj:=by
 cases bx with
 |none=>exact r.elim
 |map l=>exact r
 |cells cs=>
  obtain⟨h0,c,t,hh,cq,hl,bc⟩:=r
  exact⟨h0,c,t,hh,cq,hl,fun j x y hx hy=>(bc j x y hx hy).Ke (fun _ _ h=>h) (fun b' a' c' h=>Jm h)⟩
 |one s=>
  obtain⟨h0,c,t,hh,cq,hl,bc⟩:=r
  refine⟨h0,c,t,hh,cq,hl,fun y hy=>?_⟩
  have:=bc y hy
  cases s with
  |p b' off=>
   have hb:b'<n:=by simpa[kz,Nat.blt_eq]using h
   cases this with
   |p _ _ _ nY eg=>exact .p _ _ _ _ ((CA hb).2 eg)
  |m b'=>
   have hb:b'<n:=by simpa[kz,Nat.blt_eq]using h
   cases this with
   |m _ _ nY eg=>exact .m _ _ _ ((CA hb).2 eg)
  |_=>simp[kz]at h
structure vS(P:Program)(gl:Nat→Option D)(w0:World)(ea:S0)(St:Nat→Nat→Prop)(base l Dd:Nat)(rec:Loop)(sh:List Slot)(aC:Act)(I:List af→Prop)(Fr:Nat→Prop)(cL:Nat→Nat→Prop)(W:World)(aA:List af)(g:Gh):Prop where
 inv:Inv gl w0 ea ⟨sh,aA⟩ aC W g
 i:I aA
 low:aA.all (kz aA.length)=true
 bx:∀b,some b∈g.bx→¬Fr b
 ow:∀b p,g.ow b=some p→b<W.heap.size∧¬Fr b
 st:∀b o,g.St b o→cL b o∨¬Fr b
 zy:∀b o,St b o→cL b o∧g.St b o
 jF:∀b o,cL b o→(St b o∨Fr b)∧b<W.heap.size
 fr:∀b,Fr b→base≤b∧b<W.heap.size∧b≠l∧b≠Dd
 yZ:W.heap[l]? =some (.loop rec)
 dd:W.heap[Dd]? =some (.deferred (some []))
 lo:∀b,b=l∨b=Dd→some b∉g.bx∧g.ow b=none∧∀o,¬g.St b o
theorem Pn{sh:List Slot}{m:Nat}(aU:sh.all (uZ m)=true){aA:List af}{k:Nat}(iQ:aA.all (kz k)=true):FE ⟨sh,aA⟩:=by
 refine⟨fun s hs=>?_,fun bx hb=>?_⟩
 ·have:=List.all_eq_true.1 aU s hs
  cases s with
  |v x=>simp only[uZ,Bool.and_eq_true]at this;exact .v _ this.1.2 this.2
  |p b off=>exact .p _ _
  |m b=>exact .m _
  |_=>simp[uZ]at this
 ·have:=List.all_eq_true.1 iQ bx hb
  cases bx with
  |none=>trivial
  |map l=>trivial
  |cells cs=>
   simp only[kz,List.all_eq_true,Bool.and_eq_true]at this
   exact⟨wm.2 fun x hx=>(this x hx).1,qS.2 fun x hx=>(this x hx).2⟩
  |one s=>
   cases s with
   |p b off=>exact .p _ _
   |m b=>exact .m _
   |_=>simp[kz]at this
theorem vS.Kf{w0:World}{ea:S0}{St:Nat→Nat→Prop}{base l Dd:Nat}{rec:Loop}{sh:List Slot}{aC:Act}{I:List af→Prop}{Fr:Nat→Prop}{cL:Nat→Nat→Prop}{W:World}{aA:List af}{g:Gh}
  (h:vS P gl w0 ea St base l Dd rec sh aC I Fr cL W aA g){m:Nat}(aU:sh.all (uZ m)=true)(A2:w0.heap.size≤base)(zz:l<base∧Dd<base)(jJ:∀D o,ea.df D o→D<base){W':World}{mw:Nat→Prop}{qd:Nat→Nat→Prop}(hb:uM Fr cL W W')
  (D1:base≤W.heap.size)(f1:∀b,mw b→Fr b∨(W.heap.size≤b∧b<W'.heap.size))(f2:∀b,Fr b→mw b)(p1:∀b o,cL b o→qd b o)(p2:∀b o,qd b o→(cL b o∨mw b)∧b<W'.heap.size):
  vS P gl w0 ea St base l Dd rec sh aC I mw qd W' aA g:=by
 have aM:=hb.size
 have hI:=h.inv
 have sa:∀b,b<W.heap.size→¬Fr b→¬mw b:=fun b aF hn hf=>(f1 b hf).elim hn fun h=>by omega
 have bg:∀b,b=l∨b=Dd→b<W.heap.size∧¬Fr b:=fun b hb=>by
  refine⟨?_,fun hf=>?_⟩
  ·rcases hb with rfl|rfl
   ·exact fJ h.yZ
   ·exact fJ h.dd
  ·have:=h.fr b hf
   rcases hb with rfl|rfl
   ·exact this.2.2.1 rfl
   ·exact this.2.2.2 rfl
 have Rg:∀b,b<base→b<W.heap.size→W'.heap[b]? =W.heap[b]? :=fun b aF Ba=>hb.aj b Ba fun hf=>by have:=(h.fr b hf).1;omega
 have bh:Inv gl w0 ea ⟨sh,aA⟩ aC W' g:=by
  refine hI.move (Pn aU h.low) rfl (hI.below.trans ⟨hb.os,hb.tape,hb.output,hb.size,fun k hk=>?_⟩) hb.size (fun b o v hs hc=>?_) (fun b hm=>hb.aj b (hI.dn b hm).2 (h.bx b hm)) (fun b p ho _ aF=>hb.aj b aF (h.ow b p ho).2) (fun D o hD=>?_)
  ·have:=hI.below.size
   exact Rg k (by omega) (by omega)
  ·rcases h.st b o hs with hp|hn
   ·exact hb.jF b o v hp hc
   ·rw[World.cell?_of_block (hb.aj b (hI.cE b o hs).2.2 hn)];exact hc
  ·have h1:=fJ (hI.eN D o hD).2.2.1
   exact Rg D (jJ D o hD) h1
 refine⟨bh,h.i,h.low,fun b hm=>sa b (hI.dn b hm).2 (h.bx b hm),fun b p ho=>?_,fun b o hs=>?_,fun b o hs=>⟨p1 b o (h.zy b o hs).1,(h.zy b o hs).2⟩,fun b o hp=>?_,fun b hf=>?_,?_,?_,h.lo⟩
 ·have:=h.ow b p ho
  exact⟨by omega,sa b this.1 this.2⟩
 ·rcases h.st b o hs with hp|hn
  ·exact .inl (p1 b o hp)
  ·exact .inr (sa b (hI.cE b o hs).2.2 hn)
 ·obtain⟨h1,h2⟩:=p2 b o hp
  refine⟨?_,h2⟩
  rcases h1 with h1|h1
  ·exact(h.jF b o h1).1.imp id (f2 b)
  ·exact .inr h1
 ·rcases f1 b hf with kB|kB
  ·have:=h.fr b kB;exact⟨this.1,by omega,this.2.2⟩
  ·exact⟨by omega,kB.2,fun e=>by have:=(bg b (.inl e)).1;omega,fun e=>by have:=(bg b (.inr e)).1;omega⟩
 ·rw[hb.aj l (bg l (.inl rfl)).1 (bg l (.inl rfl)).2];exact h.yZ
 ·rw[hb.aj Dd (bg Dd (.inr rfl)).1 (bg Dd (.inr rfl)).2];exact h.dd
theorem aY.C0{W W':World}{St bH:Nat→Nat→Prop}(hc:∀b o v,St b o→W.cell? ⟨b,o,none⟩=some v→W'.cell? ⟨b,o,none⟩=some v∧bH b o){x:D}{v:Value}(r:aY W St x v):aY W' bH x v:=by
 induction r with
 |bool b=>exact .bool b
 |int k n hk=>exact .int k n hk
 |str s hs=>exact .str s hs
 |agg ds vs hf hl _ ih=>exact .agg ds vs hf hl ih
 |ir sz=>exact .ir sz
 |sl sz L b off cap vs bJ hm aM hf aP _ ih=>exact .sl sz L b off cap vs bJ hm aM hf (fun o ho=>hc _ _ _ (aP o ho).2 (aP o ho).1) ih
 |j6 sz a cap ha=>exact .j6 sz a cap ha
 |fn f=>exact .fn f
 |tp=>exact .tp
 |iface t x v _ ih=>exact .iface t x v ih
 |tq=>exact .tq
 |nN=>exact .nN
theorem aJ.C0{W W':World}{St bH:Nat→Nat→Prop}{base:Nat}(hc:∀b o v,St b o→W.cell? ⟨b,o,none⟩=some v→W'.cell? ⟨b,o,none⟩=some v∧bH b o){O:Nat→Nat→Nat→Prop}(hO:∀b a c,¬O b a c){x:SV}{v:Value}(r:aJ W St base O x v):
  x.n9=true→x.ax=true→aJ W' bH base (fun _ _ _=>False) x v:=by
 induction r with
 |d O x v hd=>exact fun _ _=>.d _ x v (hd.C0 hc)
 |own O sz L g cap hd bJ ho=>exact absurd ho (hO _ _ _)
 |full O sz L a hd=>exact fun _ _=>.full _ sz L a (hd.C0 hc)
 |ref O cs off b o vs ef aP _ ih=>exact fun _ hr=>by cases hr
 |cG O n sz cs b cap vs ef hn hm aP _ ih=>exact fun _ hr=>by cases hr
 |aT O x off b o vs hf aP dq=>exact fun _ _=>.aT _ x off b o vs hf (fun i hi=>hc _ _ _ (aP i hi).2 (aP i hi).1) fun i c hi=>(dq i c hi).C0 hc
 |di O f first cap fv cv hf de _ _ iV iW=>
  intro hn hr
  simp only[SV.n9,SV.ax,Bool.and_eq_true]at hn hr
  exact .di _ f first cap fv cv hf de (fun i x v a b=>iV i x v a b (fun _ _ _ h=>h) (wm.1 hn.1 x (List.mem_of_getElem? a)) (qS.1 hr.1 x (List.mem_of_getElem? a))) (fun i x v a b=>iW i x v a b (fun _ _ _ h=>h) (wm.1 hn.2 x (List.mem_of_getElem? a)) (qS.1 hr.2 x (List.mem_of_getElem? a)))
 |bt O sz L g cap vs bJ hm aM hf ho aP dq=>exact absurd ho (hO _ _ _)
 |mp O l r es clock hh hs hl dq=>exact fun hn=>by cases hn
 |undef O v=>exact fun _ _=>.undef _ v
def Be(ea:S0)(Fr:Nat→Prop)(cL:Nat→Nat→Prop)(W:World)(g:Gh)(l Dd:Nat)(rec:Loop):S0 where
 St:=fun b o=>ea.St b o∨cL b o
 df:=fun D o=>ea.df D o∨(Fr D∧W.heap[D]? =some o)∨(D=l∧o=.loop rec)∨(D=Dd∧o=.deferred (some []))
 cl:=fun b o v=>(g.St b o∨cL b o)∧W.cell? ⟨b,o,none⟩=some v
 sz:=W.heap.size
theorem Fb(r:Loop):GO (.loop r):=⟨rfl,fun _ _=>by simp⟩
theorem Qy(d:Option (List Deferred)):GO (.deferred d):=⟨rfl,fun _ _=>by simp⟩
theorem Inv.R2{w0:World}{ea:S0}{Fr:Nat→Prop}{cL:Nat→Nat→Prop}{W W1:World}{g g1:Gh}{l Dd:Nat}{rec Dn:Loop}{e:Env}{a:Act}(hI:Inv gl w0 (Be ea Fr cL W g l Dd rec) e a W1 g1)(hl:w0.heap.size≤l)(bg:l≠Dd)(hFr:¬Fr l)
  (jJ:∀D o,ea.df D o→D≠l)(Dp:∀o,¬(ea.St l o∨cL l o)):Inv gl w0 (Be ea Fr cL W g l Dd Dn) e a (W1.putObj l (.loop Dn)) g1:=by
 have hr:=hI.eN l (.loop rec) (.inr (.inr (.inl ⟨rfl,rfl⟩)))
 have h1:Inv gl w0 {Be ea Fr cL W g l Dd rec with df:=fun D o=>ea.df D o∨(Fr D∧W.heap[D]? =some o)∨(D=Dd∧o=.deferred (some []))} e a W1 g1:=
  hI.ub hI.fN (fun b o h=>(hI.cE b o h).1) (fun D o hD=>hI.eN D o (by
   rcases hD with h|h|h
   ·exact .inl h
   ·exact .inr (.inl h)
   ·exact .inr (.inr (.inr h)))) hI.cls hI.jq
 have h2:=h1.other hr.2.2.1 (Fb _) (Fb Dn) hl (fun D ob hD=>by
  rcases hD with h|⟨h,_⟩|⟨h,_⟩
  ·exact jJ D ob h
  ·exact fun e=>hFr (e▸h)
  ·exact fun e=>bg (by rw[←e,h]))
 refine h2.ub h2.fN (fun b o h=>(h2.cE b o h).1) (fun D o hD=>?_) h2.cls h2.jq
 rcases hD with h|h|⟨rfl,rfl⟩|h
 ·exact h2.eN D o (.inl h)
 ·exact h2.eN D o (.inr (.inl h))
 ·exact⟨hr.1,hr.2.1,World.putObj_heap_same (fJ hr.2.2.1),fun x hx=>hr.2.2.2 x hx⟩
 ·exact h2.eN D o (.inr (.inr h))
theorem vS.round(hm:P.follows .mixedOrders =true){w0:World}{ea:S0}{St:Nat→Nat→Prop}{base l Dd:Nat}{rec:Loop}{sh:List Slot}{aC:Act}{I:List af→Prop}{Fr:Nat→Prop}{cL:Nat→Nat→Prop}{W:World}{aA:List af}{g:Gh}
  (h:vS P gl w0 ea St base l Dd rec sh aC I Fr cL W aA g)(aU:sh.all (uZ aA.length)=true)(A2:w0.heap.size≤l∧w0.heap.size≤Dd)(zz:l<base∧Dd<base∧l≠Dd)(jJ:∀D o,ea.df D o→D<base∧D≠l∧D≠Dd)(rG:∀b o,ea.St b o→b<base∧b≠l∧b≠Dd)(aS:∀b o,St b o→b≠l∧b≠Dd)
  {ps:Nat}(hrt:rec.tmps=aC.tmps)(Tp:rec.params= #[ps])(LU:rec.state=.ready)(hrn:rec.pending=none){d:D}{v:Value}(hd:aY W cL d v){I':Ex→List af→Prop}
  (gG:∀(t:Nat)s,sh[t]? =some s→Dm s=true→t∉cD hh.gh rec.assign∧t∉cD hh.gh rec.body∧t≠ps)
  (Ge:aw P gl (aD P gl) hh rec.assign (fun x e1=>x=.normal ∧aw P gl (aD P gl) hh rec.body (fun x e2=>(e2.boxes.take aA.length).all (kz aA.length)=true∧I' x (e2.boxes.take aA.length)) e1) ⟨cz sh (some ps) (.v (.d d)),aA⟩):
  ∃tmps,(Instr.yield l #[v]).run P W=.ok (.round l rec.fn tmps rec.assign rec.body) W∧∀n,RoundIn Fence.wide n P l rec.fn tmps rec.assign rec.body W fun e W'=>∃x:Ex,e=.returned (.bool x.code.isNone)∧uM (fun b=>¬Fr b) cL W W'∧
   ∃dg g',dg.length=aA.length∧vS P gl w0 ea St base l Dd {rec with state:=if x.code.isNone then .ready else .done,pending:=x.code} sh aC (I' x) Fr cL W' dg g':=by
 have hI:=h.inv
 refine⟨_,run_yield h.yZ (by rw[Tp];rfl),fun n=>roundIn_of_wpIn trivial ?_⟩
 have Tq:=hI.defers
 have hlW:=fJ h.yZ
 have hdW:=fJ h.dd
 have KH:({tmps:=(rec.params.zip #[v]).foldl (fun tmps x=>tmps.setIfInBounds x.1 x.2) rec.tmps,defers:=[]}:Act)=wd (aC.put (some ps) v) []:=by
  rw[Tp,hrt]
  cases aC
  simp[wd,Act.put]
 show rec.assign.wpIn (Fence.wide.inRound l) n P _ {tmps:=(rec.params.zip #[v]).foldl (fun tmps x=>tmps.setIfInBounds x.1 x.2) rec.tmps,defers:=[]} W
 rw[KH,←aal]
 have e6:∀b o,cL b o→b≠l∧b≠Dd:=fun b o hp=>by
  rcases(h.jF b o hp).1 with hs|hf
  ·exact aS b o hs
  ·exact(h.fr b hf).2.2
 have cY:=hI.abC (S:=cL) (fun b o hp=>by
  rcases(h.jF b o hp).1 with hs|hf
  ·exact .inl (h.zy b o hs).2
  ·have kB:=h.fr b hf
   refine .inr ⟨by omega,kB.2.1,fun hm=>h.bx b hm hf,?_⟩
   cases qw:g.ow b with
   |none=>rfl
   |some p=>exact absurd hf (h.ow b p qw).2) (fun D o hD x hx=>by
  rcases(h.jF D x hx).1 with hs|hf
  ·exact(h.zy D x hs).2
  ·have:=(h.fr D hf).1
   have:=(jJ D o hD).1
   omega)
 have bG:Inv gl w0 (Be ea Fr cL W g l Dd rec) ⟨sh,aA⟩ aC W {g with St:=fun b o=>g.St b o∨cL b o}:=by
  refine cY.ub (fun b o hs=>hs.imp (hI.fN b o) id) (fun b o hs=>?_) (fun D o hD=>?_) (fun b o v hv=>hv) (Nat.le_refl _)
  ·rcases(cY.cE b o hs).1 with h1|h1
   ·exact .inl (.inl h1)
   ·exact .inr h1
  ·rcases hD with h1|⟨h1,h2⟩|⟨rfl,rfl⟩|⟨rfl,rfl⟩
   ·have:=cY.eN D o h1
    exact⟨this.1,this.2.1,this.2.2.1,fun x hx=>.inl (this.2.2.2 x hx)⟩
   ·refine⟨fun hm=>h.bx D hm h1,?_,h2,fun x hx=>?_⟩
    ·cases qw:g.ow D with
     |none=>rfl
     |some p=>exact absurd h1 (h.ow D p qw).2
    ·rcases hx with hx|hx
     ·exact .inr ((h.st D x hx).resolve_right fun hn=>hn h1)
     ·exact .inr hx
   ·have:=h.lo D (.inl rfl)
    exact⟨this.1,this.2.1,h.yZ,fun x hx=>hx.elim (fun hx=>absurd hx (this.2.2 x)) fun hx=>absurd rfl (e6 D x hx).1⟩
   ·have:=h.lo D (.inr rfl)
    exact⟨this.1,this.2.1,h.dd,fun x hx=>hx.elim (fun hx=>absurd hx (this.2.2 x)) fun hx=>absurd rfl (e6 D x hx).2⟩
 have j9:Inv gl w0 (Be ea Fr cL W g l Dd rec) ⟨cz sh (some ps) (.v (.d d)),aA⟩ (aC.put (some ps) v) W {g with St:=fun b o=>g.St b o∨cL b o}:=
  bG.value (dst:=some ps) (.v _ _ _ (.d _ _ _ (hd.mono fun b o hp=>⟨.inr hp,rfl⟩)))
 refine pO hm rec.assign j9 (pR _ Ge) fun x e1 a1 w1 g1 GP hQ1 jw=>?_
 replace jw:=jw.any (gh:=hh.gh)
 obtain⟨⟨rfl,iP⟩,Su⟩:=hQ1
 have GQ:=GP.eN l (.loop rec) (.inr (.inr (.inl ⟨rfl,rfl⟩)))
 refine⟨_,run_beginRound GQ.2.2.1 LU,?_⟩
 have Tr:¬Fr l:=fun hf=>(h.fr l hf).2.2.1 rfl
 have hFD:¬Fr Dd:=fun hf=>(h.fr Dd hf).2.2.2 rfl
 have Dp:∀o,¬(ea.St l o∨cL l o):=fun o hx=>hx.elim (fun hx=>(rG l o hx).2.1 rfl) (fun hx=>(e6 l o hx).1 rfl)
 have kI:=GP.R2 (Dn:={rec with state:=.busy}) A2.1 zz.2.2 Tr (fun D o hD=>(jJ D o hD).2.1) Dp
 refine pO hm rec.body kI (pR _ iP) fun x e2 a2 w3 g2 GR hQ2 kG=>?_
 replace kG:=kG.any (gh:=hh.gh)
 obtain⟨⟨R3,qp⟩,Sv⟩:=hQ2
 have L3:=GR.eN l _ (.inr (.inr (.inl ⟨rfl,rfl⟩)))
 have mS:=run_endRound (P:=P) x.code L3.2.2.1
 have my:=GR.R2 (Dn:={rec with state:=if x.code.isNone then .ready else .done,pending:=x.code}) A2.1 zz.2.2 Tr (fun D o hD=>(jJ D o hD).2.1) Dp
 have aeK:W.heap.size≤w3.heap.size:=GR.jq
 have L5:uM (fun b=>¬Fr b) cL W (w3.putObj l (.loop {rec with state:=if x.code.isNone then .ready else .done,pending:=x.code})):=by
  refine⟨my.below.os.trans hI.below.os.symm,my.below.tape.trans hI.below.tape.symm,my.below.output.trans hI.below.output.symm,by simp;exact aeK,fun b hb hf=>?_,fun b o v hp hc=>(my.cls b o v ⟨.inr hp,hc⟩).2⟩
  have hf:=Classical.not_not.1 hf
  have vT:W.heap[b]? =some W.heap[b]:=by simp[hb]
  rw[vT]
  exact(my.eN b _ (.inr (.inl ⟨hf,vT⟩))).2.2.1
 have DL:aA.length≤e2.boxes.length:=Nat.le_trans Su.2.1 Sv.2.1
 have dB:(e2.boxes.take aA.length).length =aA.length:=by simp;omega
 let W4:=w3.putObj l (.loop {rec with state:=if x.code.isNone then .ready else .done,pending:=x.code})
 let gc:Gh:=g2.cut aA.length
 have pW:∀b o v,g.St b o→W.cell? ⟨b,o,none⟩=some v→g2.St b o∧W4.cell? ⟨b,o,none⟩=some v:=fun b o v hs hc=>my.cls b o v ⟨.inl hs,hc⟩
 have aeL:∀b o,St b o→g2.St b o:=fun b o hs=>my.fN b o (.inr (h.zy b o hs).1)
 have jr:∀(i:Nat)s,sh[i]? =some s→cg w0.heap.size W4 gc (fun _ _ _ _=>False) s (aC.tmps.getD i undef):=by
  intro i s hs
  have p6:=List.all_eq_true.1 aU s (List.mem_of_getElem? hs)
  have h0:=hI.ai i s hs
  have ptr:Dm s=true→(∀z,s≠.v z)→(∀z,s≠.t z)→s.stays=s→cg w0.heap.size W4 gc (fun _ _ _ _=>False) s (aC.tmps.getD i undef):=by
   intro hp hv ht Lo
   obtain⟨n1,n2,n3⟩:=gG i s hs hp
   have m0:i<aC.tmps.size:=by rw[hI.size];exact(List.getElem?_eq_some_iff.1 hs).1
   have ht2:a2.tmps.getD i undef=aC.tmps.getD i undef:=by
    rw[kG i n2,jw i n1,IG _ _ _ _ m0]
    rw[if_neg (by simp;exact fun e=>n3 e.symm)]
   have abD:(e2.ai.getD i (.v .undef)).stays =s:=by
    rw[Sv.2.2.1 i n2,Su.2.2.1 i n1]
    have:(cz sh (some ps) (.v (.d d))).getD i (.v .undef)=s:=by
     simp only[cz]
     rw[eD (fun e=>n3 e.symm),List.getD_eq_getElem?_getD,hs];rfl
    rw[this,Lo]
   have qz:e2.ai.getD i (.v .undef)=s:=by
    revert abD
    cases s with
    |v z=>exact absurd rfl (hv z)
    |t z=>exact absurd rfl (ht z)
    |_=>cases e2.ai.getD i (.v .undef)<;>simp[Slot.stays]<;>intros<;>simp_all
   have h1:=jz my i
   rw[qz]at h1
   have lU:a2.eval (.tmp i)=a2.tmps.getD i undef:=rfl
   rw[lU,ht2]at h1
   exact Cm h0 h1 (by rw[hI.eX];exact Nat.le_refl _) _ hv ht
  cases s with
  |v z=>
   simp only[uZ,Bool.and_eq_true]at p6
   exact .v _ _ _ ((h0.jB.free (O':=fun _ _ _=>False) p6.1.1).C0 (fun b o v hs hc=>(pW b o v hs hc).symm) (fun _ _ _ h=>h) p6.1.2 p6.2)
  |p b off=>exact ptr rfl (by simp) (by simp) rfl
  |m b=>exact ptr rfl (by simp) (by simp) rfl
  |_=>simp[uZ]at p6
 have Ts:∀b,b<W.heap.size→b<W4.heap.size:=fun b hb=>Nat.lt_of_lt_of_le hb L5.size
 have vU:=my.norm
 have hIc:Inv gl w0 ea ⟨sh,e2.boxes.take aA.length⟩ aC W4 {g2.cut aA.length with ow:=fun b=>if b<W4.heap.size then g2.ow b else none}:=by
  refine⟨vU.below,hI.size,fun i s hs=>?_,?_,fun b bx aj h1 h2=>?_,fun i j aj h1 h2=>vU.nodup i j aj (z0 h1).2 (z0 h2).2,fun b o hs=>vU.fN b o (.inl hs),fun b o hs=>?_,fun b hb=>vU.dn b (uB hb),vU.j3,hI.defers,
   fun D o hD=>?_,fun b o v hv=>?_,Nat.le_trans hI.jq (Nat.le_trans GR.jq (by simp[W4]))⟩
  ·exact(jr i s hs).mono (fun b o h=>⟨h,.refl _ _ _⟩) (fun _ _ _=>rfl) (fun _ _ h=>h) (.refl _) fun _ _ _ _ h=>h.elim
  ·show(g2.bx.take aA.length).length =_
   have:=my.eX
   rw[List.length_take,List.length_take,this]
  ·obtain⟨aF,h2⟩:=z0 h2
   have rY:e2.boxes[b]? =some bx:=by
    simp only[List.getElem?_take]at h1
    rw[if_pos aF]at h1;exact h1
   exact(vU.boxes b bx aj rY h2).cut (YX R3 h1)
  ·obtain⟨h1,h2,h3⟩:=vU.cE b o hs
   refine⟨?_,fun hm=>h2 (uB hm),h3⟩
   rcases h1 with(h1|h1)|h1
   ·exact .inl h1
   ·exact(cY.cE b o (.inr h1)).1
   ·exact .inr h1
  ·have xF:=vU.eN D o (.inl hD)
   refine⟨fun hm=>xF.1 (uB hm),xF.2.1,xF.2.2.1,fun x hx=>?_⟩
   rcases xF.2.2.2 x hx with h1|h1
   ·exact h1
   ·rcases(h.jF D x h1).1 with hs|hf
    ·exact(hI.eN D o hD).2.2.2 x (h.zy D x hs).2
    ·have:=(h.fr D hf).1
     have:=(jJ D o hD).1
     omega
  ·have:=hI.cls b o v hv
   exact vU.cls b o v ⟨.inl this.1,this.2⟩
 have hR:vS P gl w0 ea St base l Dd {rec with state:=if x.code.isNone then .ready else .done,pending:=x.code} sh aC (I' x) Fr cL W4 (e2.boxes.take aA.length) {g2.cut aA.length with ow:=fun b=>if b<W4.heap.size then g2.ow b else none}:=by
  have ph:∀b,Fr b→∃o,W.heap[b]? =some o:=fun b hf=>⟨W.heap[b]'(h.fr b hf).2.1,by simp⟩
  have k8:∀b,b=l∨b=Dd→∃o,(Be ea Fr cL W g l Dd {rec with state:=if x.code.isNone then .ready else .done,pending:=x.code}).df b o:=fun b hb=>by
   rcases hb with rfl|rfl
   ·exact⟨_,.inr (.inr (.inl ⟨rfl,rfl⟩))⟩
   ·exact⟨_,.inr (.inr (.inr ⟨rfl,rfl⟩))⟩
  refine⟨hIc,qp,by rw[dB];exact R3,fun b hm hf=>?_,fun b p ho=>?_,fun b o hs=>?_,fun b o hs=>⟨(h.zy b o hs).1,aeL b o hs⟩,fun b o hp=>⟨(h.jF b o hp).1,Ts b (h.jF b o hp).2⟩,fun b hf=>⟨(h.fr b hf).1,Ts b (h.fr b hf).2.1,(h.fr b hf).2.2⟩,(my.eN l _ (.inr (.inr (.inl ⟨rfl,rfl⟩)))).2.2.1,(my.eN Dd _ (.inr (.inr (.inr ⟨rfl,rfl⟩)))).2.2.1,fun b hb=>?_⟩
  ·obtain⟨o,ho⟩:=ph b hf
   exact(my.eN b o (.inr (.inl ⟨hf,ho⟩))).1 (uB hm)
  ·simp only at ho
   split at ho
   ·refine⟨by assumption,fun hf=>?_⟩
    obtain⟨o,vT⟩:=ph b hf
    rw[(my.eN b o (.inr (.inl ⟨hf,vT⟩))).2.1]at ho
    cases ho
   ·cases ho
  ·by_cases hf:Fr b
   ·left
    obtain⟨ob,vT⟩:=ph b hf
    rcases(my.eN b ob (.inr (.inl ⟨hf,vT⟩))).2.2.2 o hs with h1|h1
    ·have:=(rG b o h1).1
     have:=(h.fr b hf).1
     omega
    ·exact h1
   ·exact .inr hf
  ·obtain⟨o,ho⟩:=k8 b hb
   have xF:=my.eN b o ho
   refine⟨fun hm=>xF.1 (uB hm),?_,fun x hx=>?_⟩
   ·simp only
    split
    ·exact xF.2.1
    ·rfl
   ·rcases xF.2.2.2 x hx with h1|h1
    ·rcases hb with rfl|rfl
     ·exact(rG _ x h1).2.1 rfl
     ·exact(rG _ x h1).2.2 rfl
    ·rcases hb with rfl|rfl
     ·exact(e6 _ x h1).1 rfl
     ·exact(e6 _ x h1).2 rfl
 have fin:∃x':Ex,(Ending.returned (Value.bool x.code.isNone))=.returned (.bool x'.code.isNone)∧uM (fun b=>¬Fr b) cL W W4∧
  ∃dg g',dg.length=aA.length∧vS P gl w0 ea St base l Dd {rec with state:=if x'.code.isNone then .ready else .done,pending:=x'.code} sh aC (I' x') Fr cL W4 dg g':=⟨x,rfl,L5,_,_,dB,hR⟩
 cases x with
 |normal=>exact⟨_,_,mS,fin⟩
 |exit i=>exact⟨_,_,mS,fin⟩
 |ret=>exact⟨_,_,mS,fin⟩
end
end Go.Proofs.Ytimbllcalipehaa.Ab
set_option linter.unusedVariables false
set_option linter.unusedSimpArgs false
namespace Go.Proofs.Ytimbllcalipehaa.Ab
open Go Go.RowKit
section
variable{P:Program}{gl:Nat→Option D}{hh:Hints}{n:Nat}
theorem aJ.Tt{w:World}{St:Nat→Nat→Prop}{base yB:Nat}{O:Nat→Nat→Nat→Prop}{x:SV}{v:Value}(r:aJ w St base O x v)(hx:x.ax=true):aJ w St yB O x v:=by
 induction r with
 |d O x v hd=>exact .d O x v hd
 |own O sz L g cap hd bJ ho=>exact .own O sz L g cap hd bJ ho
 |full O sz L a hd=>exact .full O sz L a hd
 |ref=>simp[SV.ax]at hx
 |cG=>simp[SV.ax]at hx
 |aT O x off b o vs hf aP hc=>exact .aT O x off b o vs hf aP hc
 |di O f first cap fv cv hf hc _ _ iV iW=>
  simp only[SV.ax,Bool.and_eq_true]at hx
  exact .di O f first cap fv cv hf hc (fun i x v a b=>iV i x v a b (qS.1 hx.1 x (List.mem_of_getElem? a))) (fun i x v a b=>iW i x v a b (qS.1 hx.2 x (List.mem_of_getElem? a)))
 |bt O sz L g cap vs h1 h2 h3 h4 h5 h6 h7=>exact .bt O sz L g cap vs h1 h2 h3 h4 h5 h6 h7
 |mp O l r es clock hh hs hl hc=>exact .mp O l r es clock hh hs hl hc
 |undef O v=>exact .undef O v
theorem Inv.drop{w0:World}{ea:S0}{ai sh:List Slot}{aA:List af}{a:Act}{w:World}{g:Gh}(hI:Inv gl w0 ea ⟨ai,aA⟩ a w g)(hl:sh.length=ai.length)
  (h:∀(i:Nat)s,sh[i]? =some s→s=.v .undef ∨∃s0,ai[i]? =some s0∧(s=s0∨s=s0.aa)):Inv gl w0 ea ⟨sh,aA⟩ a w g:=by
 refine⟨hI.below,by rw[hI.size];exact hl.symm,fun i s hs=>?_,hI.eX,hI.boxes,hI.nodup,hI.fN,hI.cE,hI.dn,hI.j3,hI.defers,hI.eN,hI.cls,hI.jq⟩
 rcases h i s hs with rfl|⟨s0,h0,rfl|rfl⟩
 ·exact .v _ _ _ (.undef _ _)
 ·exact hI.ai i s h0
 ·exact(hI.ai i s0 h0).aa
def S0.Kg(ea:S0)(Dd:Nat):S0:={ea with df:=fun D o=>ea.df D o∨(D=Dd∧o=.deferred (some []))}
def wY(I:Nat→List af→Prop)(X:Ex→List af→Prop)(k:Nat):Ex→List af→Prop
 | .normal =>I k
 |x=>X x
theorem Vl(hm:P.follows .mixedOrders =true){w0:World}{ea:S0}{sh:List Slot}{aA:List af}{aC:Act}{w:World}{g:Gh}(hI:Inv gl w0 ea ⟨sh,aA⟩ aC w g)(aU:sh.all (uZ aA.length)=true)(iQ:aA.all (kz aA.length)=true)
  {zA:Operand}{it:FuncId}{cap:List SV}(hg:aJ w g.St w0.heap.size (fun _ _ _=>False) (.di (.func it) [] cap) (aC.eval zA))(bJ:SV.gy cap=true){L:List D}(zj:Iter P gl it cap L)
  {ps:Nat}{assign body:Code}(gG:∀(t:Nat)s,sh[t]? =some s→Dm s=true→t∉cD hh.gh assign∧t∉cD hh.gh body∧t≠ps)
  (I:Nat→List af→Prop)(X:Ex→List af→Prop)(h0:I 0 aA)
  (CR:∀(k:Nat)d dg,I k dg→L[k]? =some d→dg.length=aA.length→aw P gl (aD P gl) hh assign (fun x e1=>x=.normal ∧aw P gl (aD P gl) hh body (fun x e2=>(e2.boxes.take aA.length).all (kz aA.length)=true∧wY I X (k+1) x (e2.boxes.take aA.length)) e1) ⟨cz sh (some ps) (.v (.d d)),dg⟩)
  {Q:Exit→Act→World→Prop}(hQ:∀(x:Ex)dg w' g' Dd,wY I X L.length x dg→dg.length=aA.length→Inv gl w0 (ea.Kg Dd) ⟨sh,dg⟩ aC w' g'→w0.heap.size≤Dd→(∀o,¬ea.df Dd o)→(∀o,¬ea.St Dd o)→Q x.to (wd aC [{target:=.collected Dd,args:= #[]}]) w'):
  (Code.rangeFunc zA #[ps] assign body).wpIn Fence.wide n P Q aC w:=by
 generalize hvg:aC.eval zA=vg at hg
 cases hg with
 |di _ _ _ _ fv cv hf hc rf rc=>
  have vF:fv= #[]:=by
   have:fv.size=0:=by simpa using hf.symm
   exact Array.eq_empty_of_size_eq_zero this
  subst vF
  refine wpIn_rangeFunc fun fn _=>?_
  obtain⟨wZ,Kh⟩:∃wZ:Loop,wZ={state:=.ready,pending:=none,fn,tmps:=aC.tmps,params:= #[ps],assign,body,defers:=w.heap.size}:=⟨_,rfl⟩
  obtain⟨w1,xG⟩:∃w1,(w.alloc (.deferred (some []))).alloc (.loop wZ)=w1:=⟨_,rfl⟩
  have gr:w1.heap.size=w.heap.size+2:=by rw[←xG];simp
  have hL1:w1.heap[w.heap.size+1]? =some (.loop wZ):=by
   rw[←xG]
   have:=World.alloc_heap_new (w.alloc (.deferred (some []))) (.loop wZ)
   simpa using this
  have hD1:w1.heap[w.heap.size]? =some (.deferred (some [])):=by
   rw[←xG,jc (w.alloc (.deferred (some []))) _ w.heap.size (by simp)]
   exact World.alloc_heap_new w _
  have hold:∀b,b<w.heap.size→w1.heap[b]? =w.heap[b]? :=fun b hb=>by
   rw[←xG,jc (w.alloc (.deferred (some []))) _ b (by simp;omega),jc w _ b hb]
  have hle:w0.heap.size≤w.heap.size:=hI.below.size
  have abE:∀b o,b<w.heap.size→w1.cell? ⟨b,o,none⟩=w.cell? ⟨b,o,none⟩:=fun b o hb=>World.cell?_of_block (hold b hb)
  have hIn:=hI.norm
  have cY:Inv gl w0 ea ⟨sh,aA⟩ aC w1 {g with ow:=fun b=>if b<w.heap.size then g.ow b else none}:=
   hIn.move (Pn aU iQ) rfl (hI.below.trans ⟨by rw[←xG];rfl,by rw[←xG];rfl,by rw[←xG];rfl,by omega,fun k hk=>hold k (by omega)⟩) (by omega)
    (fun b o v hs de=>by rw[abE b o (hI.cE b o hs).2.2];exact de) (fun b hm=>hold b (hI.dn b hm).2) (fun b p _ _ hb=>hold b hb) (fun D o hD=>hold D (fJ (hI.eN D o hD).2.2.1))
  refine⟨w.heap.size+1,[{target:=.collected w.heap.size,args:= #[]}],w1,{target:=.fn (.func it) cv,args:= #[.func (.yield (w.heap.size+1)) #[] #[]]},w1,it,#[.func (.yield (w.heap.size+1)) #[] #[]]++cv,w1,?_,?_,fun _ _=>trivial,?_,(fun h=>by cases h),?_⟩
  ·rw[←xG,Kh];exact run_enterLoop_outer _ _ _ _ _
  ·simp only[resolve,hvg]
   simp[go_sem]
  ·simp[invoke,go_sem,zj.1 _ _]
  ·have A2:w0.heap.size≤w.heap.size+1∧w0.heap.size≤w.heap.size:=⟨by omega,hle⟩
   have zz:w.heap.size+1<w1.heap.size∧w.heap.size<w1.heap.size∧w.heap.size+1≠w.heap.size:=⟨by omega,by omega,by omega⟩
   have jJ:∀D o,ea.df D o→D<w1.heap.size∧D≠w.heap.size+1∧D≠w.heap.size:=fun D o hD=>by have:=fJ (hI.eN D o hD).2.2.1;omega
   have rG:∀b o,ea.St b o→b<w1.heap.size∧b≠w.heap.size+1∧b≠w.heap.size:=fun b o hs=>by have:=(hI.cE b o (hI.fN b o hs)).2.2;omega
   have aS:∀b o,g.St b o→b≠w.heap.size+1∧b≠w.heap.size:=fun b o hs=>by have:=(hI.cE b o hs).2.2;omega
   have main:=zj.2 w1 g.St (w.heap.size+1) cv (fun b o h=>by have:=(hI.cE b o h).2.2;omega) cY.j3 hc (fun i x v hx hv=>?_)
    (fun q Fr cL pre W=>w1.heap.size≤W.heap.size∧∃x:Ex,(q=none↔x=.normal)∧(x=.normal →pre=L.take pre.length)∧∃dg g',dg.length=aA.length∧
      vS P gl w0 ea g.St w1.heap.size (w.heap.size+1) w.heap.size {wZ with state:=if x.code.isNone then .ready else .done,pending:=x.code} sh aC (wY I X pre.length x) Fr cL W dg g') ?_ ?_ ?_
   ·refine callsIn_wide.2 (Calls.mono main ?_)
    rintro e W2 ⟨⟨v,rfl⟩,Fr,cL,pre,q,⟨D1,x,D2,y2,dg,g',dB,hR⟩,hq⟩
    have mS:=run_endLoop (P:=P) hR.yZ (by cases x<;>simp[Ex.code])
    have BH:=hR.inv.other hR.yZ (Fb _) (Fb {wZ with state:=.exhausted,pending:=x.code}) A2.1 (fun D ob hD=>(jJ D ob hD).2.1)
    have L6:=hR.lo w.heap.size (.inr rfl)
    have hI6:Inv gl w0 (ea.Kg w.heap.size) ⟨sh,dg⟩ aC (W2.putObj (w.heap.size+1) (.loop {wZ with state:=.exhausted,pending:=x.code})) g':=by
     refine BH.ub BH.fN (fun b o h=>(BH.cE b o h).1) (fun D o hD=>?_) BH.cls BH.jq
     rcases hD with hD|⟨rfl,rfl⟩
     ·exact BH.eN D o hD
     ·exact⟨L6.1,L6.2.1,(World.putObj_heap_other (by omega)).trans hR.dd,fun x hx=>absurd hx (L6.2.2 x)⟩
    have tI:∀x',x=x'→wY I X L.length x' dg:=fun x' hx=>by
     subst hx
     have:=hR.i
     cases x with
     |normal=>
      have h1:=hq (D2.2 rfl)
      rw[h1]at this
      exact this
     |exit i=>exact this
     |ret=>exact this
    have Tq:=hI.defers
    have KH:({aC with defers:=[{target:=.collected w.heap.size,args:= #[]}]++aC.defers}:Act)=wd aC [{target:=.collected w.heap.size,args:= #[]}]:=by
     rw[Tq];rfl
    have JQ:=hQ x dg _ g' w.heap.size (tI x rfl) dB hI6 hle (fun o hD=>(jJ _ o hD).2.2 rfl) (fun o hs=>(rG _ o hs).2.2 rfl)
    refine⟨x.code,_,mS,?_⟩
    rw[KH]
    cases x with
    |normal=>exact JQ
    |exit i=>exact wpIn_exit JQ
    |ret=>exact wpIn_ret JQ
   ·have sc:x.ax=true:=qS.1 bJ x (List.mem_of_getElem? hx)
    exact(((rc i x v hx hv).Tt (yB:=0) sc).mono (fun b o h=>⟨h,.qV (hold b (hI.cE b o h).2.2)⟩) (fun b o hb=>absurd hb (Nat.not_lt_zero _)) _ (fun _ _ _ h=>h.elim)).Tt sc
   ·rintro q Fr cL pre W W' mw qd ⟨D1,x,D2,y2,dg,g',dB,hR⟩ hb f1 f2 p1 p2
    exact⟨Nat.le_trans D1 hb.size,x,D2,y2,dg,g',dB,hR.Kf aU (by omega) ⟨zz.1,zz.2.1⟩ (fun D o hD=>(jJ D o hD).1) hb D1 f1 f2 p1 p2⟩
   ·rintro Fr cL pre d v W ⟨D1,x,D2,y2,dg,g',dB,hR⟩ hd Tu
    have Tv:=D2.1 rfl
    subst Tv
    subst Kh
    have Ge:=CR pre.length d dg hR.i Tu dB
    rw[←dB]at Ge
    obtain⟨tmps,hy,hr⟩:=hR.round (hh:=hh) hm (by rw[dB];exact aU) A2 zz jJ rG aS (ps:=ps) rfl rfl rfl rfl hd gG (I':=wY I X (pre.length+1)) Ge
    refine⟨_,tmps,_,_,hy,fun n=>(hr n).mono fun e W'⟨x',he,gI,aeM,g2,rU,L7⟩=>⟨x'.code.isNone,he,gI,?_,x',?_,fun dK=>?_,aeM,g2,rU.trans dB,?_⟩⟩
    ·have:=fJ L7.dd
     have h1:=L7.fr
     have:W.heap.size≤W'.heap.size:=gI.size
     omega
    ·cases x'<;>simp[Ex.code]
    ·have h1:=y2 rfl
     rw[List.length_append,List.length_singleton,List.take_add_one,Tu,←h1]
     rfl
    ·rw[List.length_append,List.length_singleton]
     exact L7
   ·subst Kh
    refine⟨Nat.le_refl _,.normal,by simp,fun _=>by simp,aA,_,rfl,⟨cY,h0,iQ,fun _ _ h=>h,fun b p ho=>?_,fun b o h=>.inl h,fun b o h=>⟨h,h⟩,fun b o h=>⟨.inl h,by have:=(hI.cE b o h).2.2;omega⟩,fun b h=>h.elim,hL1,hD1,fun b hb=>?_⟩⟩
    ·simp only at ho
     split at ho
     ·exact⟨by omega,fun h=>h⟩
     ·cases ho
    ·have D3:¬b<w.heap.size:=by omega
     exact⟨fun hm=>D3 (hI.dn b hm).2,by simp only;rw[if_neg D3],fun o h=>D3 (hI.cE b o h).2.2⟩
end
end Go.Proofs.Ytimbllcalipehaa.Ab
set_option linter.unusedVariables false
set_option linter.unusedSimpArgs false
namespace Go.Proofs.Ytimbllcalipehaa.Ab
open Go Go.RowKit
structure uc(gl:Nat→Option D)(base:Nat)(Tw:S0)(Fr:Nat→Prop)(e:Env)(a:Act)(W:World)(g:Gh):Prop where
 inv:∃w0:World,w0.heap.size=base∧Inv gl w0 Tw e a W g
 bx:∀b,some b∈g.bx→Fr b
 ow:∀b p,g.ow b=some p→b<W.heap.size→Fr b
 st:∀b o,g.St b o→Fr b∨Tw.St b o
 fr:∀b,Fr b→base≤b∧b<W.heap.size
def qA(St:Nat→Nat→Prop):S0:={St:=St,df:=fun _ _=>False,cl:=fun _ _ _=>False}
def Dq(Fr:Nat→Prop)(W:World)(g:Gh):S0:={St:=g.St,df:=fun D o=>¬Fr D∧W.heap[D]? =some o,cl:=fun b o v=>g.St b o∧W.cell? ⟨b,o,none⟩=some v,sz:=W.heap.size}
section
variable{P:Program}{gl:Nat→Option D}{hh:Hints}{n:Nat}{base:Nat}{St:Nat→Nat→Prop}{Fr:Nat→Prop}{e:Env}{a:Act}{W:World}{g:Gh}
theorem uc.ub(h:uc gl base (qA St) Fr e a W g):∃w0:World,w0.heap.size=base∧Inv gl w0 (Dq Fr W g) e a W g:=by
 obtain⟨w0,h0,hI⟩:=h.inv
 refine⟨w0,h0,hI.ub (fun _ _ h=>h) (fun _ _ h=>.inl h) (fun D o hD=>?_) (fun _ _ _ h=>h) (Nat.le_refl _)⟩
 obtain⟨h1,h2⟩:=hD
 refine⟨fun hm=>h1 (h.bx D hm),?_,h2,fun x hx=>hx⟩
 cases qw:g.ow D with
 |none=>rfl
 |some p=>exact absurd (h.ow D p qw (fJ h2)) h1
theorem uc.adM(h:uc gl base (qA St) Fr e a W g){w0:World}(h0:w0.heap.size=base)(mX:Inv gl w0 (Dq Fr W g) e a W g){e':Env}{a':Act}{W':World}{g':Gh}(hI:Inv gl w0 (Dq Fr W g) e' a' W' g'):
  uc gl base (qA St) (fun b=>Fr b∨(W.heap.size≤b∧b<W'.heap.size)) e' a' W' g'∧uM Fr g.St W W'∧∀b o,g.St b o→g'.St b o:=by
 have aM:W.heap.size≤W'.heap.size:=hI.jq
 obtain⟨w1,h1,cY⟩:=h.inv
 have hold:∀b,b<W.heap.size→¬Fr b→some b∉g'.bx∧g'.ow b=none∧W'.heap[b]? =W.heap[b]? ∧∀x,g'.St b x→g.St b x:=fun b hb hf=>by
  have vT:W.heap[b]? =some W.heap[b]:=by simp[hb]
  have:=hI.eN b _ ⟨hf,vT⟩
  exact⟨this.1,this.2.1,this.2.2.1.trans vT.symm,this.2.2.2⟩
 refine⟨⟨⟨w0,h0,hI.ub (fun b o hs=>hI.fN b o (cY.fN b o hs)) (fun b o hs=>?_) (fun D o hD=>hD.elim) (fun b o v hv=>hv.elim) (Nat.zero_le _)⟩,fun b hm=>?_,fun b p ho hb=>?_,fun b o hs=>?_,fun b hf=>?_⟩,
  ⟨hI.below.os.trans mX.below.os.symm,hI.below.tape.trans mX.below.tape.symm,hI.below.output.trans mX.below.output.symm,aM,fun b hb hf=>(hold b hb hf).2.2.1,fun b o v hs hc=>(hI.cls b o v ⟨hs,hc⟩).2⟩,fun b o hs=>hI.fN b o hs⟩
 ·rcases(hI.cE b o hs).1 with h2|h2
  ·have:=(cY.cE b o h2).1
   rw[h1]at this
   rw[h0]
   exact this
  ·exact .inr h2
 ·by_cases hf:Fr b
  ·exact .inl hf
  ·by_cases hb:b<W.heap.size
   ·exact absurd hm (hold b hb hf).1
   ·exact .inr ⟨by omega,(hI.dn b hm).2⟩
 ·by_cases hf:Fr b
  ·exact .inl hf
  ·by_cases eg:b<W.heap.size
   ·rw[(hold b eg hf).2.1]at ho;cases ho
   ·exact .inr ⟨by omega,hb⟩
 ·by_cases hf:Fr b
  ·exact .inl (.inl hf)
  ·by_cases hb:b<W.heap.size
   ·exact(h.st b o ((hold b hb hf).2.2.2 o hs)).imp .inl id
   ·exact .inl (.inr ⟨by omega,(hI.cE b o hs).2.2⟩)
 ·rcases hf with hf|hf
  ·have:=h.fr b hf;exact⟨this.1,by omega⟩
  ·refine⟨?_,hf.2⟩
   have:=mX.below.size
   omega
theorem uc.norm(h:uc gl base (qA St) Fr e a W g):∃g',uc gl base (qA St) Fr e a W g'∧g'.St=g.St∧∀b p,g'.ow b=some p→b<W.heap.size:=by
 obtain⟨w0,h0,hI⟩:=h.inv
 refine⟨_,⟨⟨w0,h0,hI.norm⟩,h.bx,fun b p ho hb=>?_,h.st,h.fr⟩,rfl,fun b p ho=>?_⟩
 ·simp only at ho
  rw[if_pos hb]at ho
  exact h.ow b p ho hb
 ·simp only at ho
  split at ho
  ·assumption
  ·cases ho
structure so(P:Program)(gl:Nat→Option D) where
 base:Nat
 St:Nat→Nat→Prop
 l:Nat
 L:List D
 J:Option Unit→(Nat→Prop)→(Nat→Nat→Prop)→List D→World→Prop
 m5:∀b o,St b o→b<base
 Kf:∀q Fr cL pre W W' mw qd,J q Fr cL pre W→uM Fr cL W W'→(∀b,mw b→Fr b∨(W.heap.size≤b∧b<W'.heap.size))→(∀b,Fr b→mw b)→(∀b o,cL b o→qd b o)→
  (∀b o,qd b o→(cL b o∨mw b)∧b<W'.heap.size)→J q mw qd pre W'
 round:∀Fr cL pre d v W,J none Fr cL pre W→aY W cL d v→L[pre.length]? =some d→∃fn tmps assign body,(Instr.yield l #[v]).run P W=.ok (.round l fn tmps assign body) W∧
  ∀n,RoundIn Fence.wide n P l fn tmps assign body W fun e W'=>∃b,e=.returned (.bool b)∧uM (fun b=>¬Fr b) cL W W'∧J (bif b then none else some ()) Fr cL (pre++[d]) W'
def so.qe(C:so P gl)(e:Env)(log:List D)(q:Option Unit)(a:Act)(W:World):Prop:=
 ∃Fr g,uc gl C.base (qA C.St) Fr e a W g∧C.J q Fr g.St log W
theorem so.go(C:so P gl){log:List D}{q:Option Unit}(h:uc gl C.base (qA C.St) Fr e a W g)(hJ:C.J q Fr g.St log W){w0:World}(h0:w0.heap.size=C.base)(mX:Inv gl w0 (Dq Fr W g) e a W g){e':Env}{a':Act}{W':World}{g':Gh}
  (hI:Inv gl w0 (Dq Fr W g) e' a' W' g'):C.qe e' log q a' W':=by
 obtain⟨h1,h2,h3⟩:=h.adM h0 mX hI
 refine⟨_,g',h1,C.Kf _ _ _ _ _ _ _ _ hJ h2 (fun b hb=>hb) (fun b hb=>.inl hb) h3 (fun b o hs=>⟨?_,(hI.cE b o hs).2.2⟩)⟩
 rcases h1.st b o hs with hf|ml
 ·exact .inr hf
 ·obtain⟨_,_,cY⟩:=h.inv
  exact .inl (cY.fN b o ml)
def IW(C:so P gl)(n:Nat)(c:Code)(Q:Ex→Env→List D→Option Unit→Prop)(e:Env)(log:List D)(q:Option Unit):Prop:=
 ∀a W,C.qe e log q a W→c.wpIn Fence.wide n P (fun x a' W'=>∃xx e' lI q',x=Ex.to xx∧C.qe e' lI q' a' W'∧Q xx e' lI q') a W
def OW(C:so P gl)(n:Nat)(ops:Array Oper)(Q:Ex→Env→List D→Option Unit→Prop)(idx:List Nat)(e:Env)(log:List D)(q:Option Unit):Prop:=
 ∀a W,C.qe e log q a W→wpOpsIn Fence.wide n P ops (fun x a' W'=>∃xx e' lI q',x=Ex.to xx∧C.qe e' lI q' a' W'∧Q xx e' lI q') idx a W
theorem NX{F:Fence}{c:Code}{Q:Exit→Act→World→Prop}:∀{m k:Nat},m≤k→∀{a:Act}{w:World},Code.roundsIn F n P c Q m a w→Code.roundsIn F n P c Q k a w
 |0,_,_,_,_,h=>h.elim
 |m+1,0,hk,_,_,_=>by omega
 |m+1,k+1,hk,a,w,h=>by
  refine wpIn_mono h fun x a' w' hx=>?_
  cases x with
  |normal=>exact NX (by omega) hx
  |_=>exact hx
variable{C:so P gl}{log:List D}{q:Option Unit}
theorem IW.mono{c:Code}{Q Q':Ex→Env→List D→Option Unit→Prop}(h:IW C n c Q e log q)(hq:∀x e l q,Q x e l q→Q' x e l q):IW C n c Q' e log q:=fun a W hH=>
 wpIn_mono (h a W hH) fun x a' W'⟨xx,e',l',q',h1,h2,h3⟩=>⟨xx,e',l',q',h1,h2,hq _ _ _ _ h3⟩
theorem IW.aw(hm:P.follows .mixedOrders =true){c:Code}{Q:Ex→Env→List D→Option Unit→Prop}(h:aw P gl (aD P gl) hh c (fun x e'=>Q x e' log q) e):IW C n c Q e log q:=by
 rintro a W ⟨Fr,g,hS,hJ⟩
 obtain⟨w0,h0,hI⟩:=hS.ub
 have:=OB (r:=none) (n:=n) (ds:=[]) hm c hI h (Q:=fun x a' W'=>∃xx e' lI q',x=Ex.to xx∧C.qe e' lI q' a' W'∧Q xx e' lI q') (fun x e' a' W' g' bh hQ=>by
  refine⟨x,e',log,q,rfl,?_,hQ⟩
  rw[yz bh.defers]
  exact C.go hS hJ h0 hI bh)
 rw[yz hI.defers]at this
 exact this
theorem IW.seq{x y:Code}{Q:Ex→Env→List D→Option Unit→Prop}(h:IW C n x (fun ex e' l' q'=>match ex with| .normal =>IW C n y Q e' l' q'|ex=>Q ex e' l' q') e log q):IW C n (.seq x y) Q e log q:=fun a W hH=>by
 refine wpIn_seq (wpIn_mono (h a W hH) ?_)
 rintro ex a' W' ⟨xx,e',l',q',rfl,h2,h3⟩
 cases xx with
 |normal=>exact h3 a' W' h2
 |exit i=>exact⟨.exit i,e',l',q',rfl,h2,h3⟩
 |ret=>exact⟨.ret,e',l',q',rfl,h2,h3⟩
theorem IW.block{id:Nat}{b:Code}{Q:Ex→Env→List D→Option Unit→Prop}(h:IW C n b (fun ex e' l' q'=>match ex with| .normal =>Q .normal e' l' q'| .exit i=>cond (i==id) (Q .normal e' l' q') (Q (.exit i) e' l' q')| .ret =>Q .ret e' l' q') e log q):
  IW C n (.block id b) Q e log q:=fun a W hH=>by
 refine wpIn_block (wpIn_mono (h a W hH) ?_)
 rintro ex a' W' ⟨xx,e',l',q',rfl,h2,h3⟩
 cases xx with
 |normal=>exact⟨.normal,e',l',q',rfl,h2,h3⟩
 |exit i=>
  have h3:cond (i==id) (Q .normal e' l' q') (Q (.exit i) e' l' q'):=h3
  show(if i=id then _ else _)
  cases hb:(i==id)with
  |true=>
   rw[hb]at h3
   rw[if_pos (beq_iff_eq.1 hb)]
   exact⟨.normal,e',l',q',rfl,h2,h3⟩
  |false=>
   rw[hb]at h3
   rw[if_neg (beq_eq_false_iff_ne.1 hb)]
   exact⟨.exit i,e',l',q',rfl,h2,h3⟩
 |ret=>exact⟨.ret,e',l',q',rfl,h2,h3⟩
theorem IW.cond{t:Nat}{b:Bool}{x y:Code}{Q:Ex→Env→List D→Option Unit→Prop}(hs:e.ai[t]? =some (.v (.d (.bool b))))(h:IW C n (if b then x else y) Q e log q):IW C n (.cond (.tmp t) x y) Q e log q:=fun a W hH=>by
 have hH':=hH
 obtain⟨Fr,g,hS,_⟩:=hH'
 obtain⟨w0,_,hI⟩:=hS.inv
 have h1:=(hI.ai t _ hs).jB.data.sU
 exact wpIn_cond (t:=b) h1 (h a W hH)
theorem IW.loop{b:Code}{Q:Ex→Env→List D→Option Unit→Prop}(I:Nat→Env→List D→Option Unit→Prop)
  (hb:∀m e l q,I m e l q→IW C n b (fun ex e' l' q'=>match ex with| .normal =>(∃m',m'<m∧I m' e' l' q')|ex=>Q ex e' l' q') e l q):∀(m:Nat)(e:Env)(log:List D)(q:Option Unit),I m e log q→IW C n (.loop b) Q e log q:=by
 have key:∀(m:Nat)(e:Env)(log:List D)(q:Option Unit),I m e log q→∀a W,C.qe e log q a W→Code.roundsIn Fence.wide n P b (fun x a' W'=>∃xx e' lI q',x=Ex.to xx∧C.qe e' lI q' a' W'∧Q xx e' lI q') (m+1) a W:=by
  intro m
  induction m using Nat.strongRecOn with
  |_ m ih=>
   intro e log q hI a W hH
   refine wpIn_mono (hb m e log q hI a W hH) ?_
   rintro ex a' W' ⟨xx,e',l',q',rfl,h2,h3⟩
   cases xx with
   |normal=>
    obtain⟨m',lT,bh⟩:=h3
    have:=ih m' lT e' l' q' bh a' W' h2
    exact NX (by omega) this
   |exit i=>exact⟨.exit i,e',l',q',rfl,h2,h3⟩
   |ret=>exact⟨.ret,e',l',q',rfl,h2,h3⟩
 exact fun m e log q hI a W hH=>wpIn_loop_rounds (m+1) (key m e log q hI a W hH)
theorem OW.nil{ops:Array Oper}{Q:Ex→Env→List D→Option Unit→Prop}(h:Q .normal e log q):OW C n ops Q [] e log q:=fun a W hH=>⟨.normal,e,log,q,rfl,hH,h⟩
theorem IW.region{id:Nat}{ops:Array Oper}{Q:Ex→Env→List D→Option Unit→Prop}(h:OW C n ops Q (List.range ops.size) e log q):IW C n (.region id ops false) Q e log q:=fun a W hH=>wpIn_region (h a W hH)
theorem OW.step{ops:Array Oper}{Q:Ex→Env→List D→Option Unit→Prop}{i:Nat}{rest:List Nat}{id:Nat}{aE:Bool}{o:Oper}(ho:ops[i]? =some o)
  (h:mO P gl (aD P gl) ops.toList id aE o e (fun e'=>OW C n ops Q rest e' log q)):OW C n ops Q (i::rest) e log q:=by
 rintro a W ⟨Fr,g,hS,hJ⟩
 obtain⟨w0,h0,hI⟩:=hS.ub
 rw[wpOpsIn_cons]
 have:=H9 (r:=none) (n:=n) (ds:=[]) hI ho h (next:=wpOpsIn Fence.wide n P ops (fun x a' W'=>∃xx e' lI q',x=Ex.to xx∧C.qe e' lI q' a' W'∧Q xx e' lI q') rest)
  (Q:=fun x a' W'=>∃xx e' lI q',x=Ex.to xx∧C.qe e' lI q' a' W'∧Q xx e' lI q') (fun e' v W' g' bh hk=>by
    rw[yz bh.defers]
    exact hk _ _ (C.go hS hJ h0 hI bh))
 rw[yz hI.defers]at this
 exact this
theorem OW.yield{ops:Array Oper}{Q:Ex→Env→List D→Option Unit→Prop}{i:Nat}{rest:List Nat}{o:Oper}(ho:ops[i]? =some o)(hg:o.guard=none){c:Call}(hc:o.op=.call c){f x:Operand}(hf:c.callee=.value f)(hx:c.args= #[x]){d:Nat}(hd:o.dst=some d)
  (hsf:(Ab.aV gl e f).aa =.v (.d (.fn (.yield C.l)))){y:D}(hsx:(Ab.aV gl e x).aa =.v (.d y))(hy:C.L[log.length]? =some y)(hp:FE e)
  (h1:OW C n ops Q rest ⟨e.ai.set d (.v (.d (.bool true))),e.boxes⟩ (log++[y]) none)(h2:OW C n ops Q rest ⟨e.ai.set d (.v (.d (.bool false))),e.boxes⟩ (log++[y]) (some ())):OW C n ops Q (i::rest) e log none:=by
 rintro a W ⟨Fr,g0,GG,hJ⟩
 obtain⟨g,hS,iX,rS⟩:=GG.norm
 rw[←iX]at hJ
 obtain⟨w0,h0,hI⟩:=hS.inv
 rw[wpOpsIn_cons]
 unfold wpOpIn
 simp only[ho]
 have hw:Region.wanted o (yielded ops a.tmps)=true:=by simp[Region.wanted,hg]
 rw[if_pos hw]
 refine⟨fun _ _=>trivial,?_⟩
 have D4:a.eval f=.func (.yield C.l) #[] #[]:=by
  have:=(hI.pj hsf).data
  generalize a.eval f=u at this
  cases this
  rfl
 have Dv:aY W g.St y (a.eval x):=(hI.pj hsx).data
 obtain⟨fn,tmps,assign,body,ba,hr⟩:=C.round Fr g.St log y (a.eval x) W hJ Dv hy
 have hex:(o.semAt Fence.wide.round a.eval).run P W=.ok (.round C.l fn tmps assign body) W:=by
  show(execOp a.eval o).run P W=_
  generalize a.eval=ρ at D4 ba
  simp[execOp,hc,resolve,hf,hx,D4,invoke,go_sem,ba]
 rw[hex,Oper.uponIn_round]
 refine⟨fun h=>(by cases h),(hr (n-1)).mono ?_⟩
 rintro e1 W1 ⟨b,rfl,hB,GP⟩
 show wpOpsIn _ _ _ _ _ rest (a.put o.dst (.bool b)) W1
 rw[hd]
 have GC:Inv gl (Dk W1 C.base) (qA C.St) e a W1 g:=by
  have hle:=hI.below.size
  have gr:=hB.size
  have cf:(Dk W1 C.base).heap.size =C.base:=Pm (by omega)
  refine hI.move hp (by rw[cf,h0]) ?_ hB.size (fun b o v hs hc=>hB.jF b o v hs hc) (fun b hm=>?_) (fun b p hw _ hb=>?_) (fun D o hD=>hD.elim)
  ·rw[h0]
   refine⟨rfl,rfl,rfl,by rw[cf];omega,fun k hk=>?_⟩
   show W1.heap[k]? =(W1.heap.extract 0 C.base)[k]?
   rw[Array.getElem?_extract,if_pos (by omega),Nat.zero_add]
  ·exact hB.aj b (hI.dn b hm).2 fun hn=>hn (hS.bx b hm)
  ·exact hB.aj b hb fun hn=>hn (hS.ow b p hw hb)
 have cf:(Dk W1 C.base).heap.size =C.base:=Pm (by have:=hI.below.size;have:=hB.size;omega)
 have hv:=GC.value (dst:=some d) (s:=.v (.d (.bool b))) (v:=.bool b) (.v _ _ _ (.d _ _ _ (.bool b)))
 have hH:C.qe ⟨e.ai.set d (.v (.d (.bool b))),e.boxes⟩ (log++[y]) (bif b then none else some ()) (a.put (some d) (.bool b)) W1:=by
  refine⟨Fr,g,⟨⟨_,cf,hv⟩,hS.bx,fun b p hw hb=>hS.ow b p hw (rS b p hw),hS.st,fun b hf=>⟨(hS.fr b hf).1,Nat.lt_of_lt_of_le (hS.fr b hf).2 hB.size⟩⟩,GP⟩
 cases b with
 |true=>exact h1 _ _ hH
 |false=>exact h2 _ _ hH
end
end Go.Proofs.Ytimbllcalipehaa.Ab
set_option linter.unusedVariables false
set_option linter.unusedSimpArgs false
namespace Go.Proofs.Ytimbllcalipehaa.Ab
open Go Go.RowKit
def fB:Code→List Code
 | .seq a b=>fB a++fB b
 |c=>[c]
def qB(F:Fence)(n:Nat)(P:Program):List Code→(Exit→Act→World→Prop)→Act→World→Prop
 |[],Q,a,w=>Q .normal a w
 |c::l,Q,a,w=>c.wpIn F n P (Exit.then (qB F n P l Q) Q) a w
section
variable{P:Program}{gl:Nat→Option D}{hh:Hints}{F:Fence}{n:Nat}
theorem OC{Q:Exit→Act→World→Prop}:∀(l m:List Code)(a:Act)(w:World),qB F n P l (Exit.then (qB F n P m Q) Q) a w→qB F n P (l++m) Q a w
 |[],m,a,w,h=>h
 |c::l,m,a,w,h=>by
  refine wpIn_mono (h:c.wpIn F n P _ a w) fun x a' w' hx=>?_
  cases x with
  |normal=>exact OC l m a' w' hx
  |_=>exact hx
theorem It{Q:Exit→Act→World→Prop}:∀(c:Code)(a:Act)(w:World),qB F n P (fB c) Q a w→c.wpIn F n P Q a w
 | .seq x y,a,w,h=>by
   have h:qB F n P (fB x++fB y) Q a w:=h
   refine wpIn_seq (It x a w ?_)
   have key:∀(l m:List Code)(a:Act)(w:World),qB F n P (l++m) Q a w→qB F n P l (Exit.then (qB F n P m Q) Q) a w:=by
    intro l
    induction l with
    |nil=>intro m a w h;exact h
    |cons c l ih=>
     intro m a w h
     refine wpIn_mono (h:c.wpIn F n P _ a w) fun x a' w' hx=>?_
     cases x with
     |normal=>exact ih m a' w' hx
     |_=>exact hx
   have:=key _ _ a w h
   have mono:∀(l:List Code)(a:Act)(w:World)(R R':Exit→Act→World→Prop),(∀x a w,R x a w→R' x a w)→qB F n P l R a w→qB F n P l R' a w:=by
    intro l
    induction l with
    |nil=>intro a w R R' hr h;exact hr _ _ _ h
    |cons c l ih=>
     intro a w R R' hr h
     refine wpIn_mono (h:c.wpIn F n P _ a w) fun x a' w' hx=>?_
     cases x with
     |normal=>exact ih a' w' R R' hr hx
     |_=>exact hr _ _ _ hx
   refine mono _ a w _ _ (fun x a' w' hx=>?_) this
   cases x with
   |normal=>exact It y a' w' hx
   |_=>exact hx
 | .skip,a,w,h=>wpIn_mono (show Code.wpIn F n P _ _ a w from h) fun x a' w' hx=>by cases x<;>exact hx
 | .region ..,a,w,h=>wpIn_mono (show Code.wpIn F n P _ _ a w from h) fun x a' w' hx=>by cases x<;>exact hx
 | .cond ..,a,w,h=>wpIn_mono (show Code.wpIn F n P _ _ a w from h) fun x a' w' hx=>by cases x<;>exact hx
 | .block ..,a,w,h=>wpIn_mono (show Code.wpIn F n P _ _ a w from h) fun x a' w' hx=>by cases x<;>exact hx
 | .loop ..,a,w,h=>wpIn_mono (show Code.wpIn F n P _ _ a w from h) fun x a' w' hx=>by cases x<;>exact hx
 | .exit _,a,w,h=>wpIn_mono (show Code.wpIn F n P _ _ a w from h) fun x a' w' hx=>by cases x<;>exact hx
 | .ret,a,w,h=>wpIn_mono (show Code.wpIn F n P _ _ a w from h) fun x a' w' hx=>by cases x<;>exact hx
 | .goto _,a,w,h=>wpIn_mono (show Code.wpIn F n P _ _ a w from h) fun x a' w' hx=>by cases x<;>exact hx
 | .label _,a,w,h=>wpIn_mono (show Code.wpIn F n P _ _ a w from h) fun x a' w' hx=>by cases x<;>exact hx
 | .scope _,a,w,h=>wpIn_mono (show Code.wpIn F n P _ _ a w from h) fun x a' w' hx=>by cases x<;>exact hx
 | .rangeFunc ..,a,w,h=>wpIn_mono (show Code.wpIn F n P _ _ a w from h) fun x a' w' hx=>by cases x<;>exact hx
 | .refuse _,a,w,h=>wpIn_mono (show Code.wpIn F n P _ _ a w from h) fun x a' w' hx=>by cases x<;>exact hx
end
section
variable(P:Program)(gl:Nat→Option D)(C:bd)(h:Hints)
def ka:List Code→(Ex→Env→Prop)→Env→Prop
 |[],Q,e=>Q .normal e
 |c::l,Q,e=>aw P gl C h c (fun x e'=>match x with| .normal =>ka l Q e'| .exit i=>Q (.exit i) e'| .ret =>Q .ret e') e
def Bf(fn:Func)(K:SV→Prop)(x:Ex)(e:Env):Prop:=match x with| .normal =>finish P fn e K| .ret =>finish P fn e K| .exit _=>False
end
section
variable{P:Program}{gl:Nat→Option D}{hh:Hints}{n:Nat}
theorem HP(hm:P.follows .mixedOrders =true){ds:List Deferred}{r:Option Nat}:∀(l:List Code){w0:World}{ao:S0}{QA:Ex→Env→Prop}{e:Env}{a:Act}{w:World}{g:Gh}{Q:Exit→Act→World→Prop},
  Inv gl w0 ao e a w g→ka P gl (aD P gl) hh l QA e→(∀x e' a' w' g',Inv gl w0 ao e' a' w' g'→QA x e'→Q x.to (wd a' ds) w')→qB (FW r) n P l Q (wd a ds) w
 |[],_,_,_,_,_,_,_,_,hI,h,hQ=>hQ .normal _ _ _ _ hI h
 |c::l,w0,ao,QA,e,a,w,g,Q,hI,h,hQ=>by
  refine OB hm c hI h fun x e' a' w' g' bh hx=>?_
  cases x with
  |normal=>exact HP hm l bh hx hQ
  |exit i=>exact hQ (.exit i) e' a' w' g' bh hx
  |ret=>exact hQ .ret e' a' w' g' bh hx
theorem Iu{fn:Func}{args:List SV}{w:World}{St:Nat→Nat→Prop}{vs:Array Value}(m5:∀b o,St b o→b<w.heap.size)(oD:uJ gl w St)(hlen:args.length=vs.size)
  (eF:∀(i:Nat)x v,args[i]? =some x→vs[i]? =some v→aJ w St w.heap.size (fun _ _ _=>False) x v):
  Inv gl w (qA St) (enter fn.ntmps args) {tmps:=vs++Array.replicate (fn.ntmps-vs.size) undef,defers:=[]} w ⟨St,[],fun _=>none⟩:=by
 refine⟨Below.refl _ _,by simp[enter,hlen],fun i s hs=>?_,rfl,fun b bx aj h1=>by simp[enter]at h1,fun i j aj h1=>by simp at h1,fun _ _ h=>h,fun b o hb=>⟨.inl hb,by simp,m5 b o hb⟩,fun b hb=>by simp at hb,oD,rfl,fun D o hD=>hD.elim,fun b o v hv=>hv.elim,Nat.zero_le _⟩
 simp only[enter]at hs
 rw[List.getElem?_append]at hs
 split at hs
 ·rename_i hi
  simp only[List.length_map]at hi
  simp only[List.getElem?_map,Option.map_eq_some_iff]at hs
  obtain⟨x,hx,rfl⟩:=hs
  have DX:i<vs.size:=by omega
  have:=eF i x vs[i] hx (by simp)
  have jn:(vs++Array.replicate (fn.ntmps-vs.size) undef).getD i undef=vs[i]:=by
   simp[Array.getElem?_append,DX]
  rw[jn]
  exact .v _ _ _ (this.mono (fun _ _ h=>⟨h,.refl _ _ _⟩) (fun _ _ _=>rfl) _ (fun _ _ _ h=>h.elim))
 ·have:=(List.mem_replicate.1 (List.mem_of_getElem? hs)).2
  subst this
  exact .v _ _ _ (.undef _ _)
theorem Wc(hm:P.follows .mixedOrders =true){f:FuncId}{fn:Func}{c:Code}{args:List SV}{r:SV}(hf:P.funcs[f]? =some fn)(hb:fn.body=some c)(hE:lu P f){A B:List Code}{id:Nat}{zA:Operand}{ps:Nat}{assign body:Code}
  (JR:fB c=A++.block id (.rangeFunc zA #[ps] assign body)::B){it:FuncId}{cap:List SV}{L:List D}(zj:Iter P gl it cap L)(bJ:SV.gy cap=true)
  (hA:b9 args (ka P gl (aD P gl) hh A (fun x e=>x=.normal ∧(Ab.aV gl e zA).aa =.v (.di (.func it) [] cap)∧∃(sh:List Slot) (I:Nat→List af→Prop) (X:Ex→List af→Prop),sh.length=e.ai.length∧
    (∀(i:Nat)s,sh[i]? =some s→s=.v .undef ∨∃s0,e.ai[i]? =some s0∧(s=s0∨s=s0.aa))∧sh.all (uZ e.boxes.length)=true∧e.boxes.all (kz e.boxes.length)=true∧
    (∀(t:Nat)s,sh[t]? =some s→Dm s=true→t∉cD hh.gh assign∧t∉cD hh.gh body∧t≠ps)∧I 0 e.boxes∧
    (∀(k:Nat)d dg,I k dg→L[k]? =some d→dg.length=e.boxes.length→aw P gl (aD P gl) hh assign (fun x e1=>x=.normal ∧aw P gl (aD P gl) hh body (fun x e2=>(e2.boxes.take e.boxes.length).all (kz e.boxes.length)=true∧wY I X (k+1) x (e2.boxes.take e.boxes.length)) e1) ⟨cz sh (some ps) (.v (.d d)),dg⟩)∧
    (∀dg,I L.length dg→dg.length=e.boxes.length→ka P gl (aD P gl) hh B (Bf P fn (fun x=>x=r)) ⟨sh,dg⟩)∧
    (∀x dg,x≠.normal →X x dg→dg.length=e.boxes.length→x=.ret ∧finish P fn ⟨sh,dg⟩ (fun x=>x=r))) (enter fn.ntmps args)))(ha:lE args=none:=by rfl):aD P gl f args r:=by
 rw[xW ha]
 refine⟨hE,fun w St vs m5 oD hlen eF=>(callsIn_wide (n:=0)).1 (callsIn_of_wp_marks hf hb trivial ?_)⟩
 have bA:SV.gb args:=by
  rw[SV.ki]
  intro x hx
  obtain⟨i,hi,rfl⟩:=List.mem_iff_getElem.1 hx
  exact(eF i _ (vs[i]'(by omega)) (by simp) (by simp)).wf
 have hI:=Iu (fn:=fn) m5 oD hlen eF
 have hA:=hA bA
 refine It c _ w ?_
 rw[JR]
 refine OC _ _ _ _ ?_
 refine HP (r:=none) (n:=0) (ds:=[]) hm A hI hA ?_
 rintro x e a1 w1 g1 cY ⟨rfl,aeN,sh,I,X,jr,hs,p6,iQ,gG,h0,CR,hB,hX⟩
 rw[yz cY.defers]
 have bG:=cY.drop (ai:=e.ai) (aA:=e.boxes) jr hs
 have fin:∀(x:Ex)e' a' W' g' Dd,Inv gl w ((qA St).Kg Dd) e' a' W' g'→w.heap.size≤Dd→(x=.normal ∨x=.ret)→finish P fn e' (fun x=>x=r)→
   bodyPostM Fence.wide 0 P fn (fun e w'=>∃v,e=.returned v∧Below w.heap.size w w'∧∃bH ow,(∀b o,St b o→bH b o)∧(∀b o,bH b o→St b o∨(w.heap.size≤b∧b<w'.heap.size))∧uL w.heap.size w' bH ow r v) x.to (wd a' [{target:=.collected Dd,args:= #[]}]) W':=by
  intro x e' a' W' g' Dd bh D5 hx tI
  have hD:=bh.eN Dd _ (.inr ⟨rfl,rfl⟩)
  have j9:Inv gl w (qA St) e' a' W' g':=bh.ub bh.fN (fun b o h=>(bh.cE b o h).1) (fun D o hD=>hD.elim) (fun b o v hv=>hv.elim) (Nat.zero_le _)
  have D6:=j9.other (o':=.deferred none) hD.2.2.1 (Qy _) (Qy _) D5 (fun D ob hD=>hD.elim)
  obtain⟨r',v,jw,ba,bc⟩:=H8 D6 tI
  subst jw
  have abF:LeavesInM Fence.wide 0 P fn a'.tmps (fun e w'=>∃v,e=.returned v∧Below w.heap.size w w'∧∃bH ow,(∀b o,St b o→bH b o)∧(∀b o,bH b o→St b o∨(w.heap.size≤b∧b<w'.heap.size))∧uL w.heap.size w' bH ow r' v) [{target:=.collected Dd,args:= #[]}] .returning W':=
   ⟨by simp,.inl ⟨Dd,_,rfl,run_takeDeferred hD.2.2.1,v,ba,v,rfl,D6.below,g'.St,_,D6.fN,fun b o h=>(D6.cE b o h).1.imp (fun h=>h) fun h1=>⟨h1,(D6.cE b o h).2.2⟩,bc⟩⟩
  rcases hx with rfl|rfl<;>exact abF
 show(Code.block id (.rangeFunc zA #[ps] assign body)).wpIn Fence.wide 0 P _ a1 w1
 refine wpIn_block (Vl (hh:=hh) hm bG p6 iQ (cY.pj aeN) bJ zj gG I X h0 CR ?_)
 intro x dg w' g' Dd mS dB bh D5 _ _
 cases x with
 |normal=>
  have hb:=hB dg mS dB
  refine HP (r:=none) hm B bh hb fun x e' a' W' g' Sw hx=>?_
  cases x with
  |normal=>exact fin .normal e' a' W' g' Dd Sw D5 (.inl rfl) hx
  |ret=>exact fin .ret e' a' W' g' Dd Sw D5 (.inr rfl) hx
  |exit i=>exact hx.elim
 |exit i=>exact absurd (hX (.exit i) dg (by simp) mS dB).1 (by simp)
 |ret=>
  obtain⟨_,tI⟩:=hX .ret dg (by simp) mS dB
  exact fin .ret _ _ _ _ Dd bh D5 (.inr rfl) tI
theorem aao(hm:P.follows .mixedOrders =true){f:FuncId}{fn:Func}{c:Code}{cap:List SV}{L:List D}(hf:P.funcs[f]? =some fn)(hb:fn.body=some c)(hE:lu P f)(yW:fn.results= #[])
  (hc:∀(C:so P gl),C.L=L→SV.gb cap→IW C 0 c (fun x e log q=>(x=.normal ∨x=.ret)∧(q=none→log=L)) (enter fn.ntmps (.d (.fn (.yield C.l))::cap)) [] none):Iter P gl f cap L:=by
 refine⟨hE,fun w St l vs m5 oD hlen eF J abG CR hJ0=>?_⟩
 let C:so P gl:=⟨w.heap.size,St,l,L,J,m5,abG,CR⟩
 have abH:∀(i:Nat)x v,(SV.d (.fn (.yield l))::cap)[i]? =some x→(#[Value.func (.yield l) #[] #[]]++vs)[i]? =some v→aJ w St w.heap.size (fun _ _ _=>False) x v:=by
  intro i x v hx hv
  cases i with
  |zero=>
   simp at hx hv
   subst hx
   simp[Array.getElem?_append]at hv
   subst hv
   exact .d _ _ _ (.fn _)
  |succ i=>
   rw[List.getElem?_cons_succ]at hx
   rw[Array.getElem?_append_right (by simp)]at hv
   simp only[List.size_toArray,List.length_cons,List.length_nil,Nat.zero_add,Nat.add_sub_cancel]at hv
   exact eF i x v hx hv
 have adN:(SV.d (.fn (.yield l))::cap).length =(#[Value.func (.yield l) #[] #[]]++vs).size :=by simp[hlen];omega
 have hI:=Iu (gl:=gl) (fn:=fn) m5 oD adN abH
 have bA:SV.gb cap:=by
  rw[SV.ki]
  intro x hx
  obtain⟨i,hi,rfl⟩:=List.mem_iff_getElem.1 hx
  exact(eF i _ (vs[i]'(by omega)) (by simp) (by simp)).wf
 have hH:C.qe (enter fn.ntmps (.d (.fn (.yield l))::cap)) [] none {tmps:=(#[Value.func (.yield l) #[] #[]]++vs)++Array.replicate (fn.ntmps-(#[Value.func (.yield l) #[] #[]]++vs).size) undef,defers:=[]} w:=
  ⟨fun _=>False,⟨St,[],fun _=>none⟩,⟨⟨w,rfl,hI⟩,fun b hm=>by simp at hm,fun b p ho=>by simp at ho,fun b o hs=>.inr hs,fun b h=>h.elim⟩,hJ0⟩
 have hw:=hc C rfl bA _ _ hH
 refine(callsIn_wide (n:=0)).1 (callsIn_of_wp hf hb trivial (wpIn_mono hw ?_))
 rintro x a' W' ⟨xx,e',log,q,rfl,⟨Fr,g',hS,hJ⟩,hx,hq⟩
 obtain⟨w0,h0,bh⟩:=hS.inv
 have ba:(results fn a'.tmps).run P W'=.ok (.tuple #[]) W':=by
  have:=B6 (P:=P) (fn:=fn) (tmps:=a'.tmps) (w:=W') (vs:=[]) (by rw[yW];simp)
  exact this
 have tI:a'.defers=[]∧∃v,(results fn a'.tmps).run P W'=.ok v W'∧((∃v',Ending.returned v=.returned v')∧∃Fr cL pre q,J q Fr cL pre W'∧(q=none→pre=L)):=
  ⟨bh.defers,_,ba,⟨_,rfl⟩,Fr,g'.St,log,q,hJ,hq⟩
 rcases hx with rfl|rfl<;>exact tI
end
end Go.Proofs.Ytimbllcalipehaa.Ab
set_option linter.unusedVariables false
set_option linter.unusedSimpArgs false
namespace Go.Proofs.Ytimbllcalipehaa.Ab
open Go Go.RowKit
section
variable{P:Program}{gl:Nat→Option D}{hh:Hints}
theorem Wd(hm:P.follows .mixedOrders =true){f:FuncId}{fn:Func}{c:Code}{args:List SV}{r:SV}(hf:P.funcs[f]? =some fn)(hb:fn.body=some c)(hE:lu P f){QA:Ex→Env→Prop}
  (h:b9 args (aw P gl (aD P gl) hh c (fun x e=>(x=.normal ∨x=.ret)∧QA x e) (enter fn.ntmps args)))
  (fin:∀(w:World)(St:Nat→Nat→Prop)x e' a' w' g',Inv gl w (qA St) e' a' w' g'→QA x e'→∃v,(results fn a'.tmps).run P w'=.ok v w'∧∃bH ow,(∀b o,St b o→bH b o)∧(∀b o,bH b o→St b o∨(w.heap.size≤b∧b<w'.heap.size))∧uL w.heap.size w' bH ow r v)(ha:lE args=none:=by rfl):aD P gl f args r:=by
 rw[xW ha]
 refine⟨hE,fun w St vs m5 oD hlen eF=>?_⟩
 have bA:SV.gb args:=by
  rw[SV.ki]
  intro x hx
  obtain⟨i,hi,rfl⟩:=List.mem_iff_getElem.1 hx
  exact(eF i _ (vs[i]'(by omega)) (by simp) (by simp)).wf
 have hI:=Iu (fn:=fn) m5 oD hlen eF
 refine calls_of_wp hf hb (sV hm c hI (h bA) fun x e' a' w' g' bh hk=>?_)
 obtain⟨hx,hk⟩:=hk
 obtain⟨v,ba,bH,ow,h1,h2,h3⟩:=fin w St x e' a' w' g' bh hk
 have:a'.defers=[]∧∃v,(results fn a'.tmps).run P w'=.ok v w'∧(∃v',(Ending.returned v)=.returned v'∧Below w.heap.size w w'∧∃bH ow,(∀b o,St b o→bH b o)∧
  (∀b o,bH b o→St b o∨(w.heap.size≤b∧b<w'.heap.size))∧uL w.heap.size w' bH ow r v'):=⟨bh.defers,v,ba,v,rfl,bh.below,bH,ow,h1,h2,h3⟩
 rcases hx with rfl|rfl<;>exact this
theorem XP(hm:P.follows .mixedOrders =true){f:FuncId}{fn:Func}{c:Code}{args:List SV}(hf:P.funcs[f]? =some fn)(hb:fn.body=some c)(hE:lu P f){t b it:Nat}{x:D}(ib:x.one=true)(yW:fn.results= #[.tmp t])
  (h:b9 args (aw P gl (aD P gl) hh c (fun ex e=>(ex=.normal ∨ex=.ret)∧(e.ai[t]? =some (.c (.func it) [] [.p b 0])∧e.boxes[b]? =some (.cells [.d x]))) (enter fn.ntmps args)))(ha:lE args=none:=by rfl):aD P gl f args (.di (.func it) [] [.aT x 0]):=by
 refine Wd hm hf hb hE h (ha:=ha) fun w St ex e' a' w' g' hI⟨hs,dA⟩=>?_
 have hr:=hI.ai t _ hs
 have ba:(results fn a'.tmps).run P w'=.ok (a'.tmps.getD t undef) w':=by
  have:=B6 (P:=P) (fn:=fn) (tmps:=a'.tmps) (w:=w') (vs:=[a'.tmps.getD t undef]) (by rw[yW];simp[xZ])
  exact this
 refine⟨_,ba,?_⟩
 generalize a'.tmps.getD t undef=v at hr
 cases hr with
 |c _ _ _ _ fv cv qt de rf rc=>
  have vF:fv= #[]:=Array.eq_empty_of_size_eq_zero (by simpa using qt.symm)
  subst vF
  have oE:cv[0]? =some (cv[0]'(by simp at de;omega)):=by simp
  have hp:=rc 0 _ _ rfl oE
  generalize cv[0]'(by simp at de;omega)=u at hp oE
  cases hp with
  |p _ _ _ aj dk=>
   obtain⟨q0,cs,ty,q1,q2,q3,q4⟩:=hI.boxes b _ aj dA dk
   have rR:cs[0]? =some (cs[0]'(by simp at q3;omega)):=by simp
   have bc:=(q4 0 _ _ rfl rR).data
   generalize cs[0]'(by simp at q3;omega)=y at rR bc
   have cq:(x.cells)=[x]:=D.wk ib
   refine⟨fun b' o=>g'.St b' o∨(b'=aj∧o=0),fun _=>none,fun b' o h=>.inl (hI.fN b' o h),fun b' o h=>?_,?_⟩
   ·rcases h with h|⟨rfl,_⟩
    ·have:=hI.cE b' o h
     exact this.1.imp (fun h=>h) fun h1=>⟨h1,this.2.2⟩
    ·exact .inr (hI.dn b' (List.mem_of_getElem? dk))
   ·show aJ w' _ 0 _ (.di (.func it) [] [.aT x 0]) _
    refine .di _ _ _ _ #[] cv rfl (by simpa using de) (fun i x v h=>by simp at h) (fun i z v' hz gn=>?_)
    cases i with
    |succ i=>simp at hz
    |zero=>
     simp at hz;subst hz
     rw[oE]at gn;cases gn
     refine .aT _ x 0 aj 0 (fun _=>y) (fun c hc=>by rw[cq]at hc;rw[List.mem_singleton.1 hc];exact ib) (fun i hi=>?_) (fun i c hc=>?_)
     ·rw[cq]at hi
      have:i=0:=by simp at hi;omega
      subst this
      refine⟨?_,.inr ⟨rfl,rfl⟩⟩
      rw[cell_of_row w' aj (0+0) cs ty (0,0) q1];exact rR
     ·rw[cq]at hc
      cases i with
      |succ i=>simp at hc
      |zero=>simp at hc;subst hc;exact bc.mono fun b' o h=>⟨.inl h,rfl⟩
end
end Go.Proofs.Ytimbllcalipehaa.Ab
set_option linter.unusedVariables false
set_option linter.unusedSimpArgs false
namespace Go.Proofs.Ytimbllcalipehaa.Ab
open Go Go.RowKit
def KI(rs:List SV):SV:=match rs with
 |[r]=>r
 |rs=>.aH rs
theorem tA.o9{w:World}{St:Nat→Nat→Prop}{O O':Nat→Nat→Nat→Nat→Prop}:∀{rs:List SV}{v:Value},tA w St O rs v→(∀j b a c,O j b a c→O' j b a c)→tA w St O' rs v
 |[r],v,hr,h=>aJ.o9 (show aJ w St 0 (O 1) r v from hr) fun b a c ho=>h _ b a c ho
 |[],v,hr,h=>by
  obtain⟨us,h1,h2,h3⟩:=hr
  exact⟨us,h1,h2,fun j x y hx hy=>by simp at hx⟩
 |r1::r2::l,v,hr,h=>by
  obtain⟨us,h1,h2,h3⟩:=hr
  exact⟨us,h1,h2,fun j x y hx hy=>(h3 j x y hx hy).o9 fun b a c ho=>h _ b a c ho⟩
section
variable{P:Program}{gl:Nat→Option D}{hh:Hints}
theorem VG{P:Program}{n:Nat}{c:Code}{Q:Exit→Act→World→Prop}{a:Act}{w:World}(h:(Cy c).wpIn Fence.wide n P (Exit.noGoto Q) a w):c.wpIn Fence.wide n P Q a w:=by
 have key:∀c':Code,c'.wpIn Fence.wide n P (Exit.noGoto Q) a w→c'.wpIn Fence.wide n P Q a w:=fun c' h=>wpIn_mono h fun e a w hq=>by
  cases e<;>first|exact hq|exact hq.elim
 cases c with
 |scope c'=>exact wpIn_wide.2 (wp_scope_straight (wpIn_wide.1 h))
 |_=>exact key _ h
theorem NY(hm:P.follows .mixedOrders =true){f:FuncId}{fn:Func}{c c':Code}{gs:List gS}{args:List SV}{p:Nat}{rs:List SV}{bk:SV}(hf:P.funcs[f]? =some fn)(hb:fn.body=some c)(dq:∀{Q:Exit→Act→World→Prop}{a:Act}{w:World},c'.wpIn Fence.wide 0 P (Exit.noGoto Q) a w→c.wpIn Fence.wide 0 P Q a w)(hE:lu P f)(zl:SV.gy args=true){QA:Ex→Env→Prop}
  (h:b9 args (aw P gl (aD P gl) hh c' (fun x e=>(x=.normal ∨x=.ret)∧gA gs e (QA x)) (enter fn.ntmps args)))
  (fin:∀(w w':World)(St:Nat→Nat→Prop)(vs:Array Value)(w0:World)(ao:S0)x e' a' g',w0.heap.size=0→Inv gl w0 ao e' a' w' g'→QA x e'→
    (∀t,t∉cD [] c'→a'.tmps.getD t undef=(vs++Array.replicate (fn.ntmps-vs.size) undef).getD t undef)→(∀b o,St b o→g'.St b o∧nJ w w' b o)→
    (∀x y,args[p]? =some x→vs[p]? =some y→aJ w St 0 (fun _ _ _=>False) (aa x) y)→args.length=vs.size→
    ∃v,∃ow:Nat→Option Nat,(results fn a'.tmps).run P w'=.ok v w'∧(∀b,ow b≠none→g'.ow b≠none)∧
     tA w' g'.St (fun j b a c=>ow b=some j∧(∃cur e,w'.heap[b]? =some (.cells cur e (0,0))∧cur.size=c)∧∀o,a≤o→¬g'.St b o) rs v∧
     ∀y,vs[p]? =some y→aJ w' g'.St 0 (fun b a c=>ow b=some 0∧(∃cur e,w'.heap[b]? =some (.cells cur e (0,0))∧cur.size=c)∧∀o,a≤o→¬g'.St b o) bk y):JJ P gl f args p rs bk:=by
 refine⟨hE,zl,fun w St A vs m5 hA oD hlen eF=>?_⟩
 have bA:SV.gb args:=by
  rw[SV.ki]
  intro x hx
  obtain⟨i,hi,rfl⟩:=List.mem_iff_getElem.1 hx
  exact(eF i _ (vs[i]'(by omega)) (by simp) (by simp)).wf
 let w0:World:={w with heap:= #[]}
 have h0:w0.heap.size=0:=rfl
 let ao:S0:={St:=St,df:=fun D o=>A D=none∧w.heap[D]? =some o,cl:=fun b o v=>St b o∧w.cell? ⟨b,o,none⟩=some v,sz:=w.heap.size}
 let g:Gh:=⟨St,[],fun b=>(A b).map fun i=>Pos.s i 0⟩
 have hI:Inv gl w0 ao (enter fn.ntmps args) {tmps:=vs++Array.replicate (fn.ntmps-vs.size) undef,defers:=[]} w g:=by
  refine⟨⟨rfl,rfl,rfl,by rw[h0];exact Nat.zero_le _,fun k hk=>by rw[h0]at hk;omega⟩,by simp[enter,hlen],fun i s hs=>?_,rfl,fun b bx aj h1=>by simp[enter]at h1,fun i j aj h1=>by simp[g]at h1,fun _ _ h=>h,fun b o hb=>⟨.inl hb,by simp[g],m5 b o hb⟩,fun b hb=>by simp[g]at hb,oD,rfl,fun D o hD=>⟨by simp[g],by simp[g,hD.1],hD.2,fun x hx=>hx⟩,fun b o v hv=>hv,Nat.le_refl _⟩
  simp only[enter]at hs
  rw[List.getElem?_append]at hs
  split at hs
  ·rename_i hi
   simp only[List.length_map]at hi
   simp only[List.getElem?_map,Option.map_eq_some_iff]at hs
   obtain⟨x,hx,rfl⟩:=hs
   have DX:i<vs.size:=by omega
   have:=eF i x vs[i] hx (by simp)
   have jn:(vs++Array.replicate (fn.ntmps-vs.size) undef).getD i undef=vs[i]:=by
    simp[Array.getElem?_append,DX]
   rw[jn]
   refine .v _ _ _ (this.o9 fun b a' c' ho=>?_)
   obtain⟨o1,o2,o3⟩:=ho
   exact⟨by simp[g,o1],by rw[h0];exact Nat.zero_le _,by simp[g],o2,o3⟩
  ·have:=(List.mem_replicate.1 (List.mem_of_getElem? hs)).2
   subst this
   exact .v _ _ _ (.undef _ _)
 refine(callsIn_wide (n:=0)).1 (callsIn_of_wp hf hb trivial ?_)
 refine dq ?_
 have hk:=pO (r:=none) (n:=0) (ds:=[]) (Q:=Exit.noGoto (bodyPost P fn (fun e w'=>∃v,e=.returned v∧w'.os=w.os∧w'.tape=w.tape∧w'.output=w.output∧w.heap.size≤w'.heap.size∧(∀b,b<w.heap.size→A b=none→w'.heap[b]? =w.heap[b]?)∧
  ∃bH ow,(∀b o,St b o→bH b o∧nJ w w' b o)∧(∀b o,bH b o→St b o∨((w.heap.size≤b∨A b≠none)∧b<w'.heap.size))∧
   tA w' bH (XO w.heap.size A w' bH ow) rs v∧∀y,vs[p]? =some y→aJ w' bH 0 (XO w.heap.size A w' bH ow 0) bk y))) hm c' hI (h bA) ?_
 ·rw[yz rfl]at hk
  exact hk
 rintro x e1 a' w' g1 cY ⟨hx,hq⟩ fp
 obtain⟨e',g',bh,hq⟩:=Ah cY hq
 rw[yz bh.defers]
 have p6:∀b,b<w.heap.size→A b=none→w'.heap[b]? =w.heap[b]? ∧g'.ow b=none∧∀o,g'.St b o→St b o:=fun b hb ud=>by
  have:=bh.eN b (w.heap[b]'hb) ⟨ud,by simp⟩
  exact⟨by rw[this.2.2.1];simp,this.2.1,this.2.2.2⟩
 have C1:∀b o,St b o→g'.St b o∧nJ w w' b o:=fun b o hs=>by
  refine⟨bh.fN b o hs,?_⟩
  cases ud:A b with
  |none=>exact .qV (p6 b (m5 b o hs) ud).1
  |some i=>
   obtain⟨cur,te,h1,h2⟩:=hA b i ud
   have ho:o<cur.size:=Nat.lt_of_not_le fun hle=>h2 o hle hs
   have hc:w.cell? ⟨b,o,none⟩=some cur[o]:=by
    have:=cell_of_row w b o cur te (0,0) h1
    rw[this];simp[ho]
   exact⟨(bh.cls b o _ ⟨hs,hc⟩).2.trans hc.symm,fun es cl Dl=>by rw[h1]at Dl;cases Dl⟩
 obtain⟨v,ow,ba,qw,hr,DI⟩:=fin w w' St vs w0 ao x e' a' g' h0 bh hq fp C1 (fun x y hx hy=>(eF p x y hx hy).aa) hlen
 have iQ:∀{j b a' c'},(ow b=some j∧(∃cur e,w'.heap[b]? =some (.cells cur e (0,0))∧cur.size=c')∧∀o,a'≤o→¬g'.St b o)→XO w.heap.size A w' g'.St ow j b a' c':=fun{j b a' c'}ho=>by
  refine⟨ho.1,?_,ho.2.1,ho.2.2⟩
  rcases Nat.lt_or_ge b w.heap.size with hb|hb
  ·refine .inr fun ud=>?_
   exact qw b (by rw[ho.1];simp) (p6 b hb ud).2.1
  ·exact .inl hb
 have Bd:a'.defers=[]∧∃v,(results fn a'.tmps).run P w'=.ok v w'∧(∃v',(Ending.returned v)=.returned v'∧w'.os=w.os∧w'.tape=w.tape∧w'.output=w.output∧w.heap.size≤w'.heap.size∧(∀b,b<w.heap.size→A b=none→w'.heap[b]? =w.heap[b]?)∧
   ∃bH ow,(∀b o,St b o→bH b o∧nJ w w' b o)∧(∀b o,bH b o→St b o∨((w.heap.size≤b∨A b≠none)∧b<w'.heap.size))∧
    tA w' bH (XO w.heap.size A w' bH ow) rs v'∧∀y,vs[p]? =some y→aJ w' bH 0 (XO w.heap.size A w' bH ow 0) bk y):=by
  refine⟨bh.defers,v,ba,v,rfl,bh.below.os,bh.below.tape,bh.below.output,bh.jq,fun b hb ud=>(p6 b hb ud).1,g'.St,ow,C1,fun b o hs=>?_,?_,fun y hy=>(DI y hy).o9 fun b a c ho=>iQ ho⟩
  ·have aF:=(bh.cE b o hs).2.2
   rcases Nat.lt_or_ge b w.heap.size with hb|hb
   ·cases ud:A b with
    |none=>exact .inl ((p6 b hb ud).2.2 o hs)
    |some i=>exact .inr ⟨.inr (by simp),aF⟩
   ·exact .inr ⟨.inl hb,aF⟩
  ·exact tA.o9 hr fun j b a c ho=>iQ ho
 rcases hx with rfl|rfl<;>exact Bd
theorem OD(hm:P.follows .mixedOrders =true){f:FuncId}{args:List SV}{p:Nat}{y:SV}{rs:List SV}(hE:lu P f)(zl:SV.gy args=true)(hp:args[p]? =some y)(ht:∀r∈rs,uS r=false)
  (iP:body P gl (aD P gl) hh f args fun x=>x=KI rs):aD P gl f (qa p args) (.aH (aa y::rs)):=by
 rw[Jg]
 unfold body at iP
 split at iP
 ·rename_i fn hf
  split at iP
  ·rename_i c hb
   refine NY (hh:=hh) (gs:=[]) (c':=c) hm hf hb (fun h=>wpIn_mono h fun e a w hq=>by cases e<;>first|exact hq|exact hq.elim) hE zl (QA:=fun x e=>finish P fn e fun x=>x=KI rs) (fun bA=>?_) ?_
   ·refine kO _ ?_ (iP bA)
    intro x e hx
    cases x with
    |normal=>exact⟨.inl rfl,hx⟩
    |ret=>exact⟨.inr rfl,hx⟩
    |exit i=>exact hx.elim
   ·intro w w' St vs w0 ao x e' a' g' h0 bh hq fp C1 hold hlen
    obtain⟨r',v,jw,ba,bc⟩:=H8 bh hq
    subst jw
    refine⟨v,fun b=>(uY g' fn.results.toList b).map (· +1),ba,fun b hb hn=>hb ?_,?_,fun y' oB=>?_⟩
    ·simp[uY,hn]
    ·have hO:∀j b a c,va w0.heap.size w' g'.St (uY g' fn.results.toList) j b a c→(uY g' fn.results.toList b).map (· +1)=some (j+1)∧(∃cur e,w'.heap[b]? =some (.cells cur e (0,0))∧cur.size=c)∧∀o,a≤o→¬g'.St b o:=fun j b a c ho=>⟨by rw[ho.1];rfl,ho.2.2.1,ho.2.2.2⟩
     unfold tA
     match rs,ht,bc with
     |[r],ht,bc=>
      have hr:uL w0.heap.size w' g'.St (uY g' fn.results.toList) r v:=bc
      have htr:=ht r (by simp)
      cases r with
      |aH l=>cases htr
      |_=>exact aJ.o9 hr fun b a c ho=>hO 0 b a c ho
     |[],_,bc=>
      obtain⟨us,h1,h2,h3⟩:=bc
      exact⟨us,h1,h2,fun j x y hx hy=>by simp at hx⟩
     |r1::r2::l,_,bc=>
      obtain⟨us,h1,h2,h3⟩:=bc
      exact⟨us,h1,h2,fun j x y hx hy=>(h3 j x y hx hy).o9 fun b a c ho=>hO j b a c ho⟩
    ·exact(hold y y' hp oB).mono C1 (fun b o hb=>by omega) _ (fun _ _ _ h=>h.elim)
  ·exact iP.elim
 ·exact iP.elim
theorem ET(hm:P.follows .mixedOrders =true){f:FuncId}{args:List SV}{p:Nat}{bk:SV}(hE:lu P f)(zl:SV.gy args=true)(hp:p<args.length)(DI:bk≠.undef)
  (iP:AX P gl (aD P gl) hh p f args fun x=>x=bk):aD P gl f (qa p args) (.aH [bk]):=by
 rw[Jg]
 unfold AX at iP
 split at iP
 ·rename_i fn hf
  split at iP
  ·rename_i c hb
   cases tX:fn.results.isEmpty&& !(cD [] (Cy c)).contains p with
   |false=>rw[tX]at iP;exact iP.elim
   |true=>
    rw[tX]at iP
    simp only[cond_true]at iP
    simp only[Bool.and_eq_true,Array.isEmpty_iff,Bool.not_eq_true',List.contains_eq_mem,decide_eq_false_iff_not]at tX
    refine NY (hh:=hh) (gs:=kj hh.gh 3000000) (c':=Cy c) hm hf hb VG hE zl (QA:=fun x e=>(e.ai.getD p (.v .undef)).bU =bk) (fun bA=>?_) ?_
    ·refine kO _ ?_ (iP bA)
     intro x e hx
     cases x with
     |normal=>exact⟨.inl rfl,hx⟩
     |ret=>exact⟨.inr rfl,hx⟩
     |exit i=>exact hx.elim
    ·intro w w' St vs w0 ao x e' a' g' h0 bh hq fp C1 hold hlen
     have ba:(results fn a'.tmps).run P w'=.ok (.tuple #[]) w':=by
      have:=B6 (P:=P) (fn:=fn) (tmps:=a'.tmps) (w:=w') (vs:=[]) (by rw[tX.1];simp)
      exact this
     refine⟨_,fun b=>if g'.ow b=some (.s p 0)then some 0 else none,ba,fun b hb hn=>hb (by show(if g'.ow b=some (.s p 0)then some 0 else none)=none;rw[hn];simp),⟨#[],rfl,rfl,fun j x y hx hy=>by simp at hx⟩,fun y hy=>?_⟩
     have hs:cg w0.heap.size w' g' (eW w0.heap.size w' g' p) (e'.ai.getD p (.v .undef)) (a'.tmps.getD p undef):=jz bh p
     have jn:(vs++Array.replicate (fn.ntmps-vs.size) undef).getD p undef=y:=by
      have hpv:=(Array.getElem?_eq_some_iff.1 hy)
      obtain⟨h1,h2⟩:=hpv
      simp[Array.getElem?_append,h1,h2]
     rw[fp p tX.2,jn]at hs
     cases jr:e'.ai.getD p (.v .undef)with
     |v x=>
      rw[jr]at hs hq
      have hx:x=bk:=hq
      subst hx
      have:=hs.jB
      rw[h0]at this
      refine this.o9 fun b a c ho=>⟨by show(if g'.ow b=some (.s p 0)then some 0 else none)=some 0;rw[if_pos ho.1],ho.2.2.2.1,ho.2.2.2.2⟩
     |_=>rw[jr]at hq;exact absurd hq.symm DI
  ·exact iP.elim
 ·exact iP.elim
end
end Go.Proofs.Ytimbllcalipehaa.Ab
set_option linter.unusedVariables false
set_option linter.unusedSimpArgs false
namespace Go.Proofs.Ytimbllcalipehaa.Ab
open Go Go.RowKit
def wP:List Slot→List Slot→Prop
 |[],[]=>True
 |s::l,t::m=>(s=.v .undef ∨∃x,t=.v x∧s=.v (aa x))∧wP l m
 |_,_=>False
theorem Po:∀{l m:List Slot},wP l m→l.length=m.length
 |[],[],_=>rfl
 |s::l,t::m,h=>by simp[Po h.2]
 |[],_::_,h=>h.elim
 |_::_,[],h=>h.elim
theorem Pp:∀{l m:List Slot},wP l m→∀(i:Nat)s,l[i]? =some s→s=.v .undef ∨∃x,m[i]? =some (.v x)∧s=.v (aa x)
 |[],[],_,i,s,h=>by simp at h
 |s::l,t::m,h,0,s',h'=>by
  simp at h';subst h'
  rcases h.1 with h1|⟨x,rfl,h1⟩
  ·exact .inl h1
  ·exact .inr ⟨x,rfl,h1⟩
 |s::l,t::m,h,i+1,s',h'=>by simpa using Pp h.2 i s' (by simpa using h')
 |[],_::_,h,_,_,_=>h.elim
 |_::_,[],h,_,_,_=>h.elim
section
variable{P:Program}{gl:Nat→Option D}{n:Nat}{e:Env}{C:so P gl}{log:List D}{q:Option Unit}
theorem IW.A3{c:Code}{Q:Ex→Env→List D→Option Unit→Prop}{sh:List Slot}(hw:wP sh e.ai)(h:IW C n c Q ⟨sh,[]⟩ log q):IW C n c Q e log q:=fun a W hH=>by
 refine h a W ?_
 obtain⟨Fr,g,hS,hJ⟩:=hH
 obtain⟨w0,h0,hI⟩:=hS.inv
 refine⟨Fr,g.cut 0,⟨⟨w0,h0,?_⟩,fun b hm=>by simp[Gh.cut]at hm,hS.ow,hS.st,hS.fr⟩,hJ⟩
 refine⟨hI.below,by rw[hI.size,Po hw],fun i s hi=>?_,by simp[Gh.cut],fun b bx aj h1=>by simp at h1,fun i j aj h1=>by simp[Gh.cut]at h1,hI.fN,fun b o hs=>⟨(hI.cE b o hs).1,by simp[Gh.cut],(hI.cE b o hs).2.2⟩,fun b hm=>by simp[Gh.cut]at hm,hI.j3,hI.defers,fun D o hD=>hD.elim,fun b o v hv=>hv.elim,hI.jq⟩
 rcases Pp hw i s hi with rfl|⟨x,he,rfl⟩
 ·exact .v _ _ _ (.undef _ _)
 ·exact .v _ _ _ (hI.ai i _ he).jB.aa
end
end Go.Proofs.Ytimbllcalipehaa.Ab
