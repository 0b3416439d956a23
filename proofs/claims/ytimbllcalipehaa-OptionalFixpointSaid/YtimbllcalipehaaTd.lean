/-
  THE ABSTRACT WALK: a range over a function: what an iterator is asked, and what the function that ranges is asked.
-/
import Derived.Test.YtimbllcalipehaaTc
import Derived.RangeFuncRecord
import Derived.LoopNIn
import Derived.Scope
set_option linter.unusedVariables false
set_option linter.unusedSimpArgs false
set_option linter.unusedVariables false
set_option linter.unusedSimpArgs false
namespace Go.Proofs.Ytimbllcalipehaa.Ab
open Go Go.RowKit
structure uX(Fr:Nat→Prop)(cK:Nat→Nat→Prop)(W W':World):Prop where
 os:W'.os=W.os
 tape:W'.tape=W.tape
 output:W'.output=W.output
 size:W.heap.size≤W'.heap.size
 an:∀b,b<W.heap.size→¬Fr b→W'.heap[b]? =W.heap[b]?
 jW:∀b o v,cK b o→W.cell? ⟨b,o,none⟩=some v→W'.cell? ⟨b,o,none⟩=some v
def Iter(P:Program)(gl:Nat→Option D)(f:FuncId)(cap:List SV)(L:List D):Prop:=lQ P f∧
 ∀(w:World)(St:Nat→Nat→Prop)(l:Nat)(vs:Array Value),(∀b o,St b o→b<w.heap.size)→uU gl w St→cap.length=vs.size→
  (∀(i:Nat)x v,cap[i]? =some x→vs[i]? =some v→aJ w St w.heap.size (fun _ _ _=>False) x v)→
  ∀(J:Option Unit→(Nat→Prop)→(Nat→Nat→Prop)→List D→World→Prop),
   (∀q Fr cK pre W W' mL qn,J q Fr cK pre W→uX Fr cK W W'→(∀b,mL b→Fr b∨(W.heap.size≤b∧b<W'.heap.size))→(∀b,Fr b→mL b)→(∀b o,cK b o→qn b o)→
     (∀b o,qn b o→(cK b o∨mL b)∧b<W'.heap.size)→J q mL qn pre W')→
   (∀Fr cK pre d v W,J none Fr cK pre W→aZ W cK d v→L[pre.length]? =some d→∃fn tmps assign body,(Instr.yield l #[v]).run P W=.ok (.round l fn tmps assign body) W∧
     ∀n,RoundIn Fence.wide n P l fn tmps assign body W fun e W'=>∃b,e=.returned (.bool b)∧uX (fun b=>¬Fr b) cK W W'∧J (bif b then none else some ()) Fr cK (pre++[d]) W')→
   J none (fun _=>False) St [] w→
   Calls P f (#[.func (.yield l) #[] #[]]++vs) w fun e W'=>(∃v,e=.returned v)∧∃Fr cK pre q,J q Fr cK pre W'∧(q=none→pre=L)
def GV(o:Obj):Prop:=o.isCells=false∧∀es c,o≠.map es c
section
variable{W:World}{gl:Nat→Option D}
theorem Zi{l:Nat}{o o':Obj}(h:W.heap[l]? =some o)(ho:o.isCells=false)(bN:o'.isCells=false)(b off:Nat):(W.putObj l o').cell? ⟨b,off,none⟩=W.cell? ⟨b,off,none⟩:=by
 by_cases hb:b=l
 ·subst hb
  have h1:=World.putObj_heap_same (w:=W) (o:=o') (fT h)
  simp only[World.cell?,h,h1]
  cases o<;>cases o'<;>first|rfl|exact absurd (show true=false from ho) (by decide)|exact absurd (show true=false from bN) (by decide)
 ·exact World.cell?_of_block (World.putObj_heap_other hb)
theorem Inv.other{w0:World}{aq:S0}{e:Env}{a:Act}{g:Gh}(hI:Inv gl w0 aq e a W g){l:Nat}{o o':Obj}(h:W.heap[l]? =some o)(ho:GV o)(bN:GV o')(hl:w0.heap.size≤l)(jZ:∀D ob,aq.df D ob→D≠l):
  Inv gl w0 aq e a (W.putObj l o') g:=by
 have aO:=Zi h ho.1 bN.1
 have eb:∀b,b≠l→(W.putObj l o').heap[b]? =W.heap[b]? :=fun b hb=>World.putObj_heap_other hb
 have qa:∀(b:Nat)(c:Array Value)(t:TypeId)(p:Nat×Nat),W.heap[b]? =some (Obj.cells c t p)→(W.putObj l o').heap[b]? =some (Obj.cells c t p):=fun b c t p hb=>(eb b (fun e=>by subst e;rw[h]at hb;cases hb;exact absurd (show true=false from ho.1) (by decide))).trans hb
 have Dq:∀(b:Nat)(es:Array MapEntry)(c:Nat),W.heap[b]? =some (Obj.map es c)→(W.putObj l o').heap[b]? =some (Obj.map es c):=fun b es c hb=>(eb b (fun e=>by subst e;rw[h]at hb;cases hb;exact absurd rfl (ho.2 es c))).trans hb
 have eS:∀b off,n0 W (W.putObj l o') b off:=fun b off=>⟨aO b off,fun es c hm=>Dq b es c hm⟩
 have aU:rp g W (W.putObj l o'):=fun b c ty _ hb=>⟨c,ty,qa b c ty _ hb,rfl⟩
 have iv:∀p b a' c,eN w0.heap.size W g p b a' c→eN w0.heap.size (W.putObj l o') g p b a' c∧tl W (W.putObj l o') b a':=by
  rintro p b a' c ⟨h1,h2,h3,⟨cur,t,h4,h5⟩,h6⟩
  exact⟨⟨h1,h2,h3,⟨cur,t,qa b _ _ _ h4,h5⟩,h6⟩,fun _=>(qa b _ _ _ h4).trans h4.symm⟩
 refine⟨hI.below.trans ⟨rfl,rfl,rfl,by simp,fun k hk=>eb k (by omega)⟩,hI.size,fun i s hs=>?_,hI.ff,fun b bx an h1 h2=>?_,hI.nodup,hI.fY,fun b o h=>?_,fun b h=>?_,?_,hI.defers,
  fun D ob hD=>(have h:=hI.eR D ob hD;⟨h.1,h.2.1,(eb D (jZ D ob hD)).trans h.2.2.1,h.2.2.2⟩),fun b o v hv=>⟨(hI.cls b o v hv).1,(aO b o).trans (hI.cls b o v hv).2⟩,by simp;exact hI.jH⟩
 ·exact(hI.ai i s hs).mono (fun b o h=>⟨h,eS b o⟩) (fun b o _=>aO b o) (fun _ _ h=>h) aU fun j b a' c h=>iv _ b a' c h
 ·have kU:=hI.boxes b bx an h1 h2
  cases bx with
  |none=>exact kU.elim
  |map l=>
   obtain⟨h0,es,clock,hh,hl,bc⟩:=kU
   exact⟨h0,es,clock,Dq _ _ _ hh,hl,fun i x y hx hy=>⟨(bc i x y hx hy).1,(bc i x y hx hy).2.1,(bc i x y hx hy).2.2.mono fun b o h=>⟨h,aO b o⟩⟩⟩
  |cells cs=>
   obtain⟨h0,c,t,hh,cg,hl,bc⟩:=kU
   exact⟨h0,c,t,qa _ _ _ _ hh,cg,hl,fun j x y hx hy=>(bc j x y hx hy).mono (fun b o h=>⟨h,eS b o⟩) (fun b o _=>aO b o) _ fun b' a' c' h=>iv _ b' a' c' h⟩
  |one s=>
   obtain⟨h0,c,t,hh,cg,hl,bc⟩:=kU
   exact⟨h0,c,t,qa _ _ _ _ hh,cg,hl,fun y hy=>(bc y hy).mono (fun b o h=>⟨h,eS b o⟩) (fun b o _=>aO b o) (fun _ _ h=>h) aU fun _ b' a' c' h=>iv _ b' a' c' h⟩
 ·have:=hI.cG b o h
  exact⟨this.1,this.2.1,by simp;exact this.2.2⟩
 ·have:=hI.dj b h
  exact⟨this.1,by simp;exact this.2⟩
 ·intro n x hx
  obtain⟨h0,vs,h1,h2⟩:=hI.ke n x hx
  exact⟨h0,vs,fun i hi=>⟨(aO _ _).trans (h1 i hi).1,(h1 i hi).2⟩,fun i c jl=>(h2 i c jl).mono fun b o h=>⟨h,aO b o⟩⟩
theorem Inv.norm{w0:World}{aq:S0}{e:Env}{a:Act}{g:Gh}(hI:Inv gl w0 aq e a W g):Inv gl w0 aq e a W {g with ow:=fun b=>if b<W.heap.size then g.ow b else none}:=by
 have iv:∀p b a' c,eN w0.heap.size W g p b a' c→eN w0.heap.size W {g with ow:=fun b=>if b<W.heap.size then g.ow b else none} p b a' c:=by
  rintro p b a' c ⟨h1,h2,h3,h4,h5⟩
  have aK:b<W.heap.size:=by obtain⟨cur,t,h,_⟩:=h4;exact fT h
  exact⟨by simp only;rw[if_pos aK];exact h1,h2,h3,h4,h5⟩
 refine⟨hI.below,hI.size,fun i s hs=>?_,hI.ff,fun b bx an h1 h2=>?_,hI.nodup,hI.fY,hI.cG,hI.dj,hI.ke,hI.defers,fun D ob hD=>(have h:=hI.eR D ob hD;⟨h.1,by simp only;split;exact h.2.1;rfl,h.2.2⟩),hI.cls,hI.jH⟩
 ·exact(hI.ai i s hs).mono (fun b o h=>⟨h,.refl _ _ _⟩) (fun _ _ _=>rfl) (fun _ _ h=>h) (.refl _) fun j b a' c h=>⟨iv _ b a' c h,.refl _ _ _⟩
 ·have kU:=hI.boxes b bx an h1 h2
  cases bx with
  |none=>exact kU.elim
  |map l=>exact kU
  |cells cs=>
   obtain⟨h0,c,t,hh,cg,hl,bc⟩:=kU
   exact⟨h0,c,t,hh,cg,hl,fun j x y hx hy=>(bc j x y hx hy).Kr (fun _ _ h=>h) (fun b' a' c' h=>iv _ b' a' c' h)⟩
  |one s=>
   obtain⟨h0,c,t,hh,cg,hl,bc⟩:=kU
   exact⟨h0,c,t,hh,cg,hl,fun y hy=>(bc y hy).mono (fun b o h=>⟨h,.refl _ _ _⟩) (fun _ _ _=>rfl) (fun _ _ h=>h) (.refl _) fun _ b' a' c' h=>⟨iv _ b' a' c' h,.refl _ _ _⟩⟩
def QP:SV→Bool
 | .own _ _=>false
 | .bt _ _=>false
 |_=>true
theorem aJ.free{w:World}{St:Nat→Nat→Prop}{base:Nat}{O O':Nat→Nat→Nat→Prop}{x:SV}{v:Value}(r:aJ w St base O x v)(h:QP x=true):aJ w St base O' x v:=by
 cases r with
 |d _ x v hd=>exact .d _ x v hd
 |own=>cases h
 |full _ sz L g hd=>exact .full _ sz L g hd
 |ref _ cs off b o vs eh aO hc=>exact .ref _ cs off b o vs eh aO hc
 |cJ _ n sz cs b cap vs eh hn hm aO hc=>exact .cJ _ n sz cs b cap vs eh hn hm aO hc
 |aT _ x off b o vs hf aO hc=>exact .aT _ x off b o vs hf aO hc
 |dg _ f first cap fv cv hf hc rf rc=>exact .dg _ f first cap fv cv hf hc rf rc
 |bt=>cases h
 |mp _ l r es clock hh hs hl hc=>exact .mp _ l r es clock hh hs hl hc
 |undef _ v=>exact .undef _ _
def vc(n:Nat):Slot→Bool
 | .v x=>QP x&&x.oD&&x.ay
 | .p b _=>Nat.blt b n
 | .m b=>Nat.blt b n
 |_=>false
def kK(n:Nat):af→Bool
 | .one (.p b _)=>Nat.blt b n
 | .one (.m b)=>Nat.blt b n
 | .one _=>false
 | .cells cs=>cs.all fun x=>x.oD&&x.ay
 |_=>true
def Dr:Slot→Bool
 | .v _=>false
 |_=>true
end
end Go.Proofs.Ytimbllcalipehaa.Ab
set_option linter.unusedVariables false
set_option linter.unusedSimpArgs false
namespace Go.Proofs.Ytimbllcalipehaa.Ab
open Go Go.RowKit
section
variable{P:Program}{gl:Nat→Option D}{hh:Hints}{n:Nat}
def Ex.code:Ex→Option Code
 | .normal =>none
 | .exit i=>some (.exit i)
 | .ret =>some .ret
theorem Zj{n:Nat}{l:List af}(h:l.all (kK n)=true){i:Nat}{bx:af}(hi:l[i]? =some bx):kK n bx=true:=List.all_eq_true.1 h bx (List.mem_of_getElem? hi)
theorem oz.cut{base:Nat}{w:World}{g:Gh}{n b:Nat}{bx:af}{an:Nat}(r:oz base w g b bx an)(h:kK n bx=true):oz base w (g.cut n) b bx an:=by
 cases bx with
 |none=>exact r.elim
 |map l=>exact r
 |cells cs=>
  obtain⟨h0,c,t,hh,cg,hl,bc⟩:=r
  exact⟨h0,c,t,hh,cg,hl,fun j x y hx hy=>(bc j x y hx hy).Kr (fun _ _ h=>h) (fun b' a' c' h=>Ju h)⟩
 |one s=>
  obtain⟨h0,c,t,hh,cg,hl,bc⟩:=r
  refine⟨h0,c,t,hh,cg,hl,fun y hy=>?_⟩
  have:=bc y hy
  cases s with
  |p b' off=>
   have hb:b'<n:=by simpa[kK,Nat.blt_eq]using h
   cases this with
   |p _ _ _ oA ei=>exact .p _ _ _ _ ((Cu hb).2 ei)
  |m b'=>
   have hb:b'<n:=by simpa[kK,Nat.blt_eq]using h
   cases this with
   |m _ _ oA ei=>exact .m _ _ _ ((Cu hb).2 ei)
  |_=>simp[kK]at h
structure wg(P:Program)(gl:Nat→Option D)(w0:World)(ee:S0)(St:Nat→Nat→Prop)(base l Dd:Nat)(rec:Loop)(sh:List Slot)(aC:Act)(I:List af→Prop)(Fr:Nat→Prop)(cK:Nat→Nat→Prop)(W:World)(aA:List af)(g:Gh):Prop where
 inv:Inv gl w0 ee ⟨sh,aA⟩ aC W g
 i:I aA
 low:aA.all (kK aA.length)=true
 bx:∀b,some b∈g.bx→¬Fr b
 ow:∀b p,g.ow b=some p→b<W.heap.size∧¬Fr b
 st:∀b o,g.St b o→cK b o∨¬Fr b
 zH:∀b o,St b o→cK b o∧g.St b o
 jW:∀b o,cK b o→(St b o∨Fr b)∧b<W.heap.size
 fr:∀b,Fr b→base≤b∧b<W.heap.size∧b≠l∧b≠Dd
 y8:W.heap[l]? =some (.loop rec)
 dd:W.heap[Dd]? =some (.deferred (some []))
 lo:∀b,b=l∨b=Dd→some b∉g.bx∧g.ow b=none∧∀o,¬g.St b o
theorem Pu{sh:List Slot}{m:Nat}(aU:sh.all (vc m)=true){aA:List af}{k:Nat}(je:aA.all (kK k)=true):FN ⟨sh,aA⟩:=by
 refine⟨fun s hs=>?_,fun bx hb=>?_⟩
 ·have:=List.all_eq_true.1 aU s hs
  cases s with
  |v x=>simp only[vc,Bool.and_eq_true]at this;exact .v _ this.1.2 this.2
  |p b off=>exact .p _ _
  |m b=>exact .m _
  |_=>simp[vc]at this
 ·have:=List.all_eq_true.1 je bx hb
  cases bx with
  |none=>trivial
  |map l=>trivial
  |cells cs=>
   simp only[kK,List.all_eq_true,Bool.and_eq_true]at this
   exact⟨wJ.2 fun x hx=>(this x hx).1,rb.2 fun x hx=>(this x hx).2⟩
  |one s=>
   cases s with
   |p b off=>exact .p _ _
   |m b=>exact .m _
   |_=>simp[kK]at this
theorem wg.Ks{w0:World}{ee:S0}{St:Nat→Nat→Prop}{base l Dd:Nat}{rec:Loop}{sh:List Slot}{aC:Act}{I:List af→Prop}{Fr:Nat→Prop}{cK:Nat→Nat→Prop}{W:World}{aA:List af}{g:Gh}
  (h:wg P gl w0 ee St base l Dd rec sh aC I Fr cK W aA g){m:Nat}(aU:sh.all (vc m)=true)(AY:w0.heap.size≤base)(zI:l<base∧Dd<base)(jZ:∀D o,ee.df D o→D<base){W':World}{mL:Nat→Prop}{qn:Nat→Nat→Prop}(hb:uX Fr cK W W')
  (D7:base≤W.heap.size)(f1:∀b,mL b→Fr b∨(W.heap.size≤b∧b<W'.heap.size))(f2:∀b,Fr b→mL b)(p1:∀b o,cK b o→qn b o)(p2:∀b o,qn b o→(cK b o∨mL b)∧b<W'.heap.size):
  wg P gl w0 ee St base l Dd rec sh aC I mL qn W' aA g:=by
 have aM:=hb.size
 have hI:=h.inv
 have sf:∀b,b<W.heap.size→¬Fr b→¬mL b:=fun b aK hn hf=>(f1 b hf).elim hn fun h=>by omega
 have bg:∀b,b=l∨b=Dd→b<W.heap.size∧¬Fr b:=fun b hb=>by
  refine⟨?_,fun hf=>?_⟩
  ·rcases hb with rfl|rfl
   ·exact fT h.y8
   ·exact fT h.dd
  ·have:=h.fr b hf
   rcases hb with rfl|rfl
   ·exact this.2.2.1 rfl
   ·exact this.2.2.2 rfl
 have RC:∀b,b<base→b<W.heap.size→W'.heap[b]? =W.heap[b]? :=fun b aK A5=>hb.an b A5 fun hf=>by have:=(h.fr b hf).1;omega
 have bh:Inv gl w0 ee ⟨sh,aA⟩ aC W' g:=by
  refine hI.move (Pu aU h.low) rfl (hI.below.trans ⟨hb.os,hb.tape,hb.output,hb.size,fun k hk=>?_⟩) hb.size (fun b o v hs hc=>?_) (fun b hm=>hb.an b (hI.dj b hm).2 (h.bx b hm)) (fun b p ho _ aK=>hb.an b aK (h.ow b p ho).2) (fun D o hD=>?_)
  ·have:=hI.below.size
   exact RC k (by omega) (by omega)
  ·rcases h.st b o hs with hp|hn
   ·exact hb.jW b o v hp hc
   ·rw[World.cell?_of_block (hb.an b (hI.cG b o hs).2.2 hn)];exact hc
  ·have h1:=fT (hI.eR D o hD).2.2.1
   exact RC D (jZ D o hD) h1
 refine⟨bh,h.i,h.low,fun b hm=>sf b (hI.dj b hm).2 (h.bx b hm),fun b p ho=>?_,fun b o hs=>?_,fun b o hs=>⟨p1 b o (h.zH b o hs).1,(h.zH b o hs).2⟩,fun b o hp=>?_,fun b hf=>?_,?_,?_,h.lo⟩
 ·have:=h.ow b p ho
  exact⟨by omega,sf b this.1 this.2⟩
 ·rcases h.st b o hs with hp|hn
  ·exact .inl (p1 b o hp)
  ·exact .inr (sf b (hI.cG b o hs).2.2 hn)
 ·obtain⟨h1,h2⟩:=p2 b o hp
  refine⟨?_,h2⟩
  rcases h1 with h1|h1
  ·exact(h.jW b o h1).1.imp id (f2 b)
  ·exact .inr h1
 ·rcases f1 b hf with kO|kO
  ·have:=h.fr b kO;exact⟨this.1,by omega,this.2.2⟩
  ·exact⟨by omega,kO.2,fun e=>by have:=(bg b (.inl e)).1;omega,fun e=>by have:=(bg b (.inr e)).1;omega⟩
 ·rw[hb.an l (bg l (.inl rfl)).1 (bg l (.inl rfl)).2];exact h.y8
 ·rw[hb.an Dd (bg Dd (.inr rfl)).1 (bg Dd (.inr rfl)).2];exact h.dd
theorem aZ.C3{W W':World}{St bE:Nat→Nat→Prop}(hc:∀b o v,St b o→W.cell? ⟨b,o,none⟩=some v→W'.cell? ⟨b,o,none⟩=some v∧bE b o){x:D}{v:Value}(r:aZ W St x v):aZ W' bE x v:=by
 induction r with
 |bool b=>exact .bool b
 |int k n hk=>exact .int k n hk
 |str s hs=>exact .str s hs
 |agg ds vs hf hl _ ih=>exact .agg ds vs hf hl ih
 |iJ sz=>exact .iJ sz
 |sl sz L b off cap vs bF hm aM hf aO _ ih=>exact .sl sz L b off cap vs bF hm aM hf (fun o ho=>hc _ _ _ (aO o ho).2 (aO o ho).1) ih
 |ki sz a cap ha=>exact .ki sz a cap ha
 |fn f=>exact .fn f
 |tF=>exact .tF
 |iface t x v _ ih=>exact .iface t x v ih
 |tG=>exact .tG
 |oa=>exact .oa
theorem aJ.C3{W W':World}{St bE:Nat→Nat→Prop}{base:Nat}(hc:∀b o v,St b o→W.cell? ⟨b,o,none⟩=some v→W'.cell? ⟨b,o,none⟩=some v∧bE b o){O:Nat→Nat→Nat→Prop}(hO:∀b a c,¬O b a c){x:SV}{v:Value}(r:aJ W St base O x v):
  x.oD=true→x.ay=true→aJ W' bE base (fun _ _ _=>False) x v:=by
 induction r with
 |d O x v hd=>exact fun _ _=>.d _ x v (hd.C3 hc)
 |own O sz L g cap hd bF ho=>exact absurd ho (hO _ _ _)
 |full O sz L a hd=>exact fun _ _=>.full _ sz L a (hd.C3 hc)
 |ref O cs off b o vs eh aO _ ih=>exact fun _ hr=>by cases hr
 |cJ O n sz cs b cap vs eh hn hm aO _ ih=>exact fun _ hr=>by cases hr
 |aT O x off b o vs hf aO dm=>exact fun _ _=>.aT _ x off b o vs hf (fun i hi=>hc _ _ _ (aO i hi).2 (aO i hi).1) fun i c hi=>(dm i c hi).C3 hc
 |dg O f first cap fv cv hf cY _ _ jh ji=>
  intro hn hr
  simp only[SV.oD,SV.ay,Bool.and_eq_true]at hn hr
  exact .dg _ f first cap fv cv hf cY (fun i x v a b=>jh i x v a b (fun _ _ _ h=>h) (wJ.1 hn.1 x (List.mem_of_getElem? a)) (rb.1 hr.1 x (List.mem_of_getElem? a))) (fun i x v a b=>ji i x v a b (fun _ _ _ h=>h) (wJ.1 hn.2 x (List.mem_of_getElem? a)) (rb.1 hr.2 x (List.mem_of_getElem? a)))
 |bt O sz L g cap vs bF hm aM hf ho aO dm=>exact absurd ho (hO _ _ _)
 |mp O l r es clock hh hs hl dm=>exact fun hn=>by cases hn
 |undef O v=>exact fun _ _=>.undef _ v
def Ba(ee:S0)(Fr:Nat→Prop)(cK:Nat→Nat→Prop)(W:World)(g:Gh)(l Dd:Nat)(rec:Loop):S0 where
 St:=fun b o=>ee.St b o∨cK b o
 df:=fun D o=>ee.df D o∨(Fr D∧W.heap[D]? =some o)∨(D=l∧o=.loop rec)∨(D=Dd∧o=.deferred (some []))
 cl:=fun b o v=>(g.St b o∨cK b o)∧W.cell? ⟨b,o,none⟩=some v
 sz:=W.heap.size
theorem Fe(r:Loop):GV (.loop r):=⟨rfl,fun _ _=>by simp⟩
theorem QQ(d:Option (List Deferred)):GV (.deferred d):=⟨rfl,fun _ _=>by simp⟩
theorem Inv.Sm{w0:World}{ee:S0}{Fr:Nat→Prop}{cK:Nat→Nat→Prop}{W W1:World}{g g1:Gh}{l Dd:Nat}{rec Ds:Loop}{e:Env}{a:Act}(hI:Inv gl w0 (Ba ee Fr cK W g l Dd rec) e a W1 g1)(hl:w0.heap.size≤l)(bg:l≠Dd)(GW:¬Fr l)
  (jZ:∀D o,ee.df D o→D≠l)(Dt:∀o,¬(ee.St l o∨cK l o)):Inv gl w0 (Ba ee Fr cK W g l Dd Ds) e a (W1.putObj l (.loop Ds)) g1:=by
 have hr:=hI.eR l (.loop rec) (.inr (.inr (.inl ⟨rfl,rfl⟩)))
 have h1:Inv gl w0 {Ba ee Fr cK W g l Dd rec with df:=fun D o=>ee.df D o∨(Fr D∧W.heap[D]? =some o)∨(D=Dd∧o=.deferred (some []))} e a W1 g1:=
  hI.ur hI.fY (fun b o h=>(hI.cG b o h).1) (fun D o hD=>hI.eR D o (by
   rcases hD with h|h|h
   ·exact .inl h
   ·exact .inr (.inl h)
   ·exact .inr (.inr (.inr h)))) hI.cls hI.jH
 have h2:=h1.other hr.2.2.1 (Fe _) (Fe Ds) hl (fun D ob hD=>by
  rcases hD with h|⟨h,_⟩|⟨h,_⟩
  ·exact jZ D ob h
  ·exact fun e=>GW (e▸h)
  ·exact fun e=>bg (by rw[←e,h]))
 refine h2.ur h2.fY (fun b o h=>(h2.cG b o h).1) (fun D o hD=>?_) h2.cls h2.jH
 rcases hD with h|h|⟨rfl,rfl⟩|h
 ·exact h2.eR D o (.inl h)
 ·exact h2.eR D o (.inr (.inl h))
 ·exact⟨hr.1,hr.2.1,World.putObj_heap_same (fT hr.2.2.1),fun x hx=>hr.2.2.2 x hx⟩
 ·exact h2.eR D o (.inr (.inr h))
theorem wg.round(hm:P.follows .mixedOrders =true){w0:World}{ee:S0}{St:Nat→Nat→Prop}{base l Dd:Nat}{rec:Loop}{sh:List Slot}{aC:Act}{I:List af→Prop}{Fr:Nat→Prop}{cK:Nat→Nat→Prop}{W:World}{aA:List af}{g:Gh}
  (h:wg P gl w0 ee St base l Dd rec sh aC I Fr cK W aA g)(aU:sh.all (vc aA.length)=true)(AY:w0.heap.size≤l∧w0.heap.size≤Dd)(zI:l<base∧Dd<base∧l≠Dd)(jZ:∀D o,ee.df D o→D<base∧D≠l∧D≠Dd)(rM:∀b o,ee.St b o→b<base∧b≠l∧b≠Dd)(aR:∀b o,St b o→b≠l∧b≠Dd)
  {ps:Nat}(hrt:rec.tmps=aC.tmps)(TJ:rec.params= #[ps])(L9:rec.state=.ready)(hrn:rec.pending=none){d:D}{v:Value}(hd:aZ W cK d v){I':Ex→List af→Prop}
  (gV:∀(t:Nat)s,sh[t]? =some s→Dr s=true→t∉cF hh.gh rec.assign∧t∉cF hh.gh rec.body∧t≠ps)
  (Gn:aw P gl (aD P gl) hh rec.assign (fun x e1=>x=.normal ∧aw P gl (aD P gl) hh rec.body (fun x e2=>(e2.boxes.take aA.length).all (kK aA.length)=true∧I' x (e2.boxes.take aA.length)) e1) ⟨cq sh (some ps) (.v (.d d)),aA⟩):
  ∃tmps,(Instr.yield l #[v]).run P W=.ok (.round l rec.fn tmps rec.assign rec.body) W∧∀n,RoundIn Fence.wide n P l rec.fn tmps rec.assign rec.body W fun e W'=>∃x:Ex,e=.returned (.bool x.code.isNone)∧uX (fun b=>¬Fr b) cK W W'∧
   ∃db g',db.length=aA.length∧wg P gl w0 ee St base l Dd {rec with state:=if x.code.isNone then .ready else .done,pending:=x.code} sh aC (I' x) Fr cK W' db g':=by
 have hI:=h.inv
 refine⟨_,run_yield h.y8 (by rw[TJ];rfl),fun n=>roundIn_of_wpIn trivial ?_⟩
 have TK:=hI.defers
 have hlW:=fT h.y8
 have hdW:=fT h.dd
 have K0:({tmps:=(rec.params.zip #[v]).foldl (fun tmps x=>tmps.setIfInBounds x.1 x.2) rec.tmps,defers:=[]}:Act)=wd (aC.put (some ps) v) []:=by
  rw[TJ,hrt]
  cases aC
  simp[wd,Act.put]
 show rec.assign.wpIn (Fence.wide.inRound l) n P _ {tmps:=(rec.params.zip #[v]).foldl (fun tmps x=>tmps.setIfInBounds x.1 x.2) rec.tmps,defers:=[]} W
 rw[K0,←aaL]
 have eS:∀b o,cK b o→b≠l∧b≠Dd:=fun b o hp=>by
  rcases(h.jW b o hp).1 with hs|hf
  ·exact aR b o hs
  ·exact(h.fr b hf).2.2
 have cU:=hI.ab6 (S:=cK) (fun b o hp=>by
  rcases(h.jW b o hp).1 with hs|hf
  ·exact .inl (h.zH b o hs).2
  ·have kO:=h.fr b hf
   refine .inr ⟨by omega,kO.2.1,fun hm=>h.bx b hm hf,?_⟩
   cases qH:g.ow b with
   |none=>rfl
   |some p=>exact absurd hf (h.ow b p qH).2) (fun D o hD x hx=>by
  rcases(h.jW D x hx).1 with hs|hf
  ·exact(h.zH D x hs).2
  ·have:=(h.fr D hf).1
   have:=(jZ D o hD).1
   omega)
 have bO:Inv gl w0 (Ba ee Fr cK W g l Dd rec) ⟨sh,aA⟩ aC W {g with St:=fun b o=>g.St b o∨cK b o}:=by
  refine cU.ur (fun b o hs=>hs.imp (hI.fY b o) id) (fun b o hs=>?_) (fun D o hD=>?_) (fun b o v hv=>hv) (Nat.le_refl _)
  ·rcases(cU.cG b o hs).1 with h1|h1
   ·exact .inl (.inl h1)
   ·exact .inr h1
  ·rcases hD with h1|⟨h1,h2⟩|⟨rfl,rfl⟩|⟨rfl,rfl⟩
   ·have:=cU.eR D o h1
    exact⟨this.1,this.2.1,this.2.2.1,fun x hx=>.inl (this.2.2.2 x hx)⟩
   ·refine⟨fun hm=>h.bx D hm h1,?_,h2,fun x hx=>?_⟩
    ·cases qH:g.ow D with
     |none=>rfl
     |some p=>exact absurd h1 (h.ow D p qH).2
    ·rcases hx with hx|hx
     ·exact .inr ((h.st D x hx).resolve_right fun hn=>hn h1)
     ·exact .inr hx
   ·have:=h.lo D (.inl rfl)
    exact⟨this.1,this.2.1,h.y8,fun x hx=>hx.elim (fun hx=>absurd hx (this.2.2 x)) fun hx=>absurd rfl (eS D x hx).1⟩
   ·have:=h.lo D (.inr rfl)
    exact⟨this.1,this.2.1,h.dd,fun x hx=>hx.elim (fun hx=>absurd hx (this.2.2 x)) fun hx=>absurd rfl (eS D x hx).2⟩
 have eL:Inv gl w0 (Ba ee Fr cK W g l Dd rec) ⟨cq sh (some ps) (.v (.d d)),aA⟩ (aC.put (some ps) v) W {g with St:=fun b o=>g.St b o∨cK b o}:=
  bO.value (dst:=some ps) (.v _ _ _ (.d _ _ _ (hd.mono fun b o hp=>⟨.inr hp,rfl⟩)))
 refine pW hm rec.assign eL (pZ _ Gn) fun x e1 a1 w1 g1 GX hQ1 iS=>?_
 replace iS:=iS.any (gh:=hh.gh)
 obtain⟨⟨rfl,jd⟩,SN⟩:=hQ1
 have GY:=GX.eR l (.loop rec) (.inr (.inr (.inl ⟨rfl,rfl⟩)))
 refine⟨_,run_beginRound GY.2.2.1 L9,?_⟩
 have GZ:¬Fr l:=fun hf=>(h.fr l hf).2.2.1 rfl
 have hFD:¬Fr Dd:=fun hf=>(h.fr Dd hf).2.2.2 rfl
 have Dt:∀o,¬(ee.St l o∨cK l o):=fun o hx=>hx.elim (fun hx=>(rM l o hx).2.1 rfl) (fun hx=>(eS l o hx).1 rfl)
 have gF:=GX.Sm (Ds:={rec with state:=.busy}) AY.1 zI.2.2 GZ (fun D o hD=>(jZ D o hD).2.1) Dt
 refine pW hm rec.body gF (pZ _ jd) fun x e2 a2 w3 g2 G0 hQ2 kT=>?_
 replace kT:=kT.any (gh:=hh.gh)
 obtain⟨⟨Sn,vS⟩,SO⟩:=hQ2
 have Mf:=G0.eR l _ (.inr (.inr (.inl ⟨rfl,rfl⟩)))
 have na:=run_endRound (P:=P) x.code Mf.2.2.1
 have mM:=G0.Sm (Ds:={rec with state:=if x.code.isNone then .ready else .done,pending:=x.code}) AY.1 zI.2.2 GZ (fun D o hD=>(jZ D o hD).2.1) Dt
 have afc:W.heap.size≤w3.heap.size:=G0.jH
 have Mg:uX (fun b=>¬Fr b) cK W (w3.putObj l (.loop {rec with state:=if x.code.isNone then .ready else .done,pending:=x.code})):=by
  refine⟨mM.below.os.trans hI.below.os.symm,mM.below.tape.trans hI.below.tape.symm,mM.below.output.trans hI.below.output.symm,by simp;exact afc,fun b hb hf=>?_,fun b o v hp hc=>(mM.cls b o v ⟨.inr hp,hc⟩).2⟩
  have hf:=Classical.not_not.1 hf
  have wh:W.heap[b]? =some W.heap[b]:=by simp[hb]
  rw[wh]
  exact(mM.eR b _ (.inr (.inl ⟨hf,wh⟩))).2.2.1
 have DT:aA.length≤e2.boxes.length:=Nat.le_trans SN.2.1 SO.2.1
 have dP:(e2.boxes.take aA.length).length =aA.length:=by simp;omega
 let W4:=w3.putObj l (.loop {rec with state:=if x.code.isNone then .ready else .done,pending:=x.code})
 let gc:Gh:=g2.cut aA.length
 have qa:∀b o v,g.St b o→W.cell? ⟨b,o,none⟩=some v→g2.St b o∧W4.cell? ⟨b,o,none⟩=some v:=fun b o v hs hc=>mM.cls b o v ⟨.inl hs,hc⟩
 have afd:∀b o,St b o→g2.St b o:=fun b o hs=>mM.fY b o (.inr (h.zH b o hs).1)
 have jI:∀(i:Nat)s,sh[i]? =some s→bW w0.heap.size W4 gc (fun _ _ _ _=>False) s (aC.tmps.getD i undef):=by
  intro i s hs
  have qe:=List.all_eq_true.1 aU s (List.mem_of_getElem? hs)
  have h0:=hI.ai i s hs
  have ptr:Dr s=true→(∀z,s≠.v z)→(∀z,s≠.t z)→s.stays=s→bW w0.heap.size W4 gc (fun _ _ _ _=>False) s (aC.tmps.getD i undef):=by
   intro hp hv ht Lx
   obtain⟨n1,n2,n3⟩:=gV i s hs hp
   have nq:i<aC.tmps.size:=by rw[hI.size];exact(List.getElem?_eq_some_iff.1 hs).1
   have ht2:a2.tmps.getD i undef=aC.tmps.getD i undef:=by
    rw[kT i n2,iS i n1,IQ _ _ _ _ nq]
    rw[if_neg (by simp;exact fun e=>n3 e.symm)]
   have ab7:(e2.ai.getD i (.v .undef)).stays =s:=by
    rw[SO.2.2.1 i n2,SN.2.2.1 i n1]
    have:(cq sh (some ps) (.v (.d d))).getD i (.v .undef)=s:=by
     simp only[cq]
     rw[eD (fun e=>n3 e.symm),List.getD_eq_getElem?_getD,hs];rfl
    rw[this,Lx]
   have oS:e2.ai.getD i (.v .undef)=s:=by
    revert ab7
    cases s with
    |v z=>exact absurd rfl (hv z)
    |t z=>exact absurd rfl (ht z)
    |_=>cases e2.ai.getD i (.v .undef)<;>simp[Slot.stays]<;>intros<;>simp_all
   have h1:=jQ mM i
   rw[oS]at h1
   have mg:a2.eval (.tmp i)=a2.tmps.getD i undef:=rfl
   rw[mg,ht2]at h1
   exact Cg h0 h1 (by rw[hI.ff];exact Nat.le_refl _) _ hv ht
  cases s with
  |v z=>
   simp only[vc,Bool.and_eq_true]at qe
   exact .v _ _ _ ((h0.jT.free (O':=fun _ _ _=>False) qe.1.1).C3 (fun b o v hs hc=>(qa b o v hs hc).symm) (fun _ _ _ h=>h) qe.1.2 qe.2)
  |p b off=>exact ptr rfl (by simp) (by simp) rfl
  |m b=>exact ptr rfl (by simp) (by simp) rfl
  |_=>simp[vc]at qe
 have TL:∀b,b<W.heap.size→b<W4.heap.size:=fun b hb=>Nat.lt_of_lt_of_le hb Mg.size
 have wi:=mM.norm
 have hIc:Inv gl w0 ee ⟨sh,e2.boxes.take aA.length⟩ aC W4 {g2.cut aA.length with ow:=fun b=>if b<W4.heap.size then g2.ow b else none}:=by
  refine⟨wi.below,hI.size,fun i s hs=>?_,?_,fun b bx an h1 h2=>?_,fun i j an h1 h2=>wi.nodup i j an (Aa h1).2 (Aa h2).2,fun b o hs=>wi.fY b o (.inl hs),fun b o hs=>?_,fun b hb=>wi.dj b (uM hb),wi.ke,hI.defers,
   fun D o hD=>?_,fun b o v hv=>?_,Nat.le_trans hI.jH (Nat.le_trans G0.jH (by simp[W4]))⟩
  ·exact(jI i s hs).mono (fun b o h=>⟨h,.refl _ _ _⟩) (fun _ _ _=>rfl) (fun _ _ h=>h) (.refl _) fun _ _ _ _ h=>h.elim
  ·show(g2.bx.take aA.length).length =_
   have:=mM.ff
   rw[List.length_take,List.length_take,this]
  ·obtain⟨aK,h2⟩:=Aa h2
   have sd:e2.boxes[b]? =some bx:=by
    simp only[List.getElem?_take]at h1
    rw[if_pos aK]at h1;exact h1
   exact(wi.boxes b bx an sd h2).cut (Zj Sn h1)
  ·obtain⟨h1,h2,h3⟩:=wi.cG b o hs
   refine⟨?_,fun hm=>h2 (uM hm),h3⟩
   rcases h1 with(h1|h1)|h1
   ·exact .inl h1
   ·exact(cU.cG b o (.inr h1)).1
   ·exact .inr h1
  ·have xL:=wi.eR D o (.inl hD)
   refine⟨fun hm=>xL.1 (uM hm),xL.2.1,xL.2.2.1,fun x hx=>?_⟩
   rcases xL.2.2.2 x hx with h1|h1
   ·exact h1
   ·rcases(h.jW D x h1).1 with hs|hf
    ·exact(hI.eR D o hD).2.2.2 x (h.zH D x hs).2
    ·have:=(h.fr D hf).1
     have:=(jZ D o hD).1
     omega
  ·have:=hI.cls b o v hv
   exact wi.cls b o v ⟨.inl this.1,this.2⟩
 have hR:wg P gl w0 ee St base l Dd {rec with state:=if x.code.isNone then .ready else .done,pending:=x.code} sh aC (I' x) Fr cK W4 (e2.boxes.take aA.length) {g2.cut aA.length with ow:=fun b=>if b<W4.heap.size then g2.ow b else none}:=by
  have pC:∀b,Fr b→∃o,W.heap[b]? =some o:=fun b hf=>⟨W.heap[b]'(h.fr b hf).2.1,by simp⟩
  have lA:∀b,b=l∨b=Dd→∃o,(Ba ee Fr cK W g l Dd {rec with state:=if x.code.isNone then .ready else .done,pending:=x.code}).df b o:=fun b hb=>by
   rcases hb with rfl|rfl
   ·exact⟨_,.inr (.inr (.inl ⟨rfl,rfl⟩))⟩
   ·exact⟨_,.inr (.inr (.inr ⟨rfl,rfl⟩))⟩
  refine⟨hIc,vS,by rw[dP];exact Sn,fun b hm hf=>?_,fun b p ho=>?_,fun b o hs=>?_,fun b o hs=>⟨(h.zH b o hs).1,afd b o hs⟩,fun b o hp=>⟨(h.jW b o hp).1,TL b (h.jW b o hp).2⟩,fun b hf=>⟨(h.fr b hf).1,TL b (h.fr b hf).2.1,(h.fr b hf).2.2⟩,(mM.eR l _ (.inr (.inr (.inl ⟨rfl,rfl⟩)))).2.2.1,(mM.eR Dd _ (.inr (.inr (.inr ⟨rfl,rfl⟩)))).2.2.1,fun b hb=>?_⟩
  ·obtain⟨o,ho⟩:=pC b hf
   exact(mM.eR b o (.inr (.inl ⟨hf,ho⟩))).1 (uM hm)
  ·simp only at ho
   split at ho
   ·refine⟨by assumption,fun hf=>?_⟩
    obtain⟨o,wh⟩:=pC b hf
    rw[(mM.eR b o (.inr (.inl ⟨hf,wh⟩))).2.1]at ho
    cases ho
   ·cases ho
  ·by_cases hf:Fr b
   ·left
    obtain⟨ob,wh⟩:=pC b hf
    rcases(mM.eR b ob (.inr (.inl ⟨hf,wh⟩))).2.2.2 o hs with h1|h1
    ·have:=(rM b o h1).1
     have:=(h.fr b hf).1
     omega
    ·exact h1
   ·exact .inr hf
  ·obtain⟨o,ho⟩:=lA b hb
   have xL:=mM.eR b o ho
   refine⟨fun hm=>xL.1 (uM hm),?_,fun x hx=>?_⟩
   ·simp only
    split
    ·exact xL.2.1
    ·rfl
   ·rcases xL.2.2.2 x hx with h1|h1
    ·rcases hb with rfl|rfl
     ·exact(rM _ x h1).2.1 rfl
     ·exact(rM _ x h1).2.2 rfl
    ·rcases hb with rfl|rfl
     ·exact(eS _ x h1).1 rfl
     ·exact(eS _ x h1).2 rfl
 have fin:∃x':Ex,(Ending.returned (Value.bool x.code.isNone))=.returned (.bool x'.code.isNone)∧uX (fun b=>¬Fr b) cK W W4∧
  ∃db g',db.length=aA.length∧wg P gl w0 ee St base l Dd {rec with state:=if x'.code.isNone then .ready else .done,pending:=x'.code} sh aC (I' x') Fr cK W4 db g':=⟨x,rfl,Mg,_,_,dP,hR⟩
 cases x with
 |normal=>exact⟨_,_,na,fin⟩
 |exit i=>exact⟨_,_,na,fin⟩
 |ret=>exact⟨_,_,na,fin⟩
end
end Go.Proofs.Ytimbllcalipehaa.Ab
set_option linter.unusedVariables false
set_option linter.unusedSimpArgs false
namespace Go.Proofs.Ytimbllcalipehaa.Ab
open Go Go.RowKit
section
variable{P:Program}{gl:Nat→Option D}{hh:Hints}{n:Nat}
theorem aJ.TM{w:World}{St:Nat→Nat→Prop}{base yM:Nat}{O:Nat→Nat→Nat→Prop}{x:SV}{v:Value}(r:aJ w St base O x v)(hx:x.ay=true):aJ w St yM O x v:=by
 induction r with
 |d O x v hd=>exact .d O x v hd
 |own O sz L g cap hd bF ho=>exact .own O sz L g cap hd bF ho
 |full O sz L a hd=>exact .full O sz L a hd
 |ref=>simp[SV.ay]at hx
 |cJ=>simp[SV.ay]at hx
 |aT O x off b o vs hf aO hc=>exact .aT O x off b o vs hf aO hc
 |dg O f first cap fv cv hf hc _ _ jh ji=>
  simp only[SV.ay,Bool.and_eq_true]at hx
  exact .dg O f first cap fv cv hf hc (fun i x v a b=>jh i x v a b (rb.1 hx.1 x (List.mem_of_getElem? a))) (fun i x v a b=>ji i x v a b (rb.1 hx.2 x (List.mem_of_getElem? a)))
 |bt O sz L g cap vs h1 h2 h3 h4 h5 h6 h7=>exact .bt O sz L g cap vs h1 h2 h3 h4 h5 h6 h7
 |mp O l r es clock hh hs hl hc=>exact .mp O l r es clock hh hs hl hc
 |undef O v=>exact .undef O v
theorem Inv.drop{w0:World}{ee:S0}{ai sh:List Slot}{aA:List af}{a:Act}{w:World}{g:Gh}(hI:Inv gl w0 ee ⟨ai,aA⟩ a w g)(hl:sh.length=ai.length)
  (h:∀(i:Nat)s,sh[i]? =some s→s=.v .undef ∨∃s0,ai[i]? =some s0∧(s=s0∨s=s0.aa)):Inv gl w0 ee ⟨sh,aA⟩ a w g:=by
 refine⟨hI.below,by rw[hI.size];exact hl.symm,fun i s hs=>?_,hI.ff,hI.boxes,hI.nodup,hI.fY,hI.cG,hI.dj,hI.ke,hI.defers,hI.eR,hI.cls,hI.jH⟩
 rcases h i s hs with rfl|⟨s0,h0,rfl|rfl⟩
 ·exact .v _ _ _ (.undef _ _)
 ·exact hI.ai i s h0
 ·exact(hI.ai i s0 h0).aa
def S0.Ku(ee:S0)(Dd:Nat):S0:={ee with df:=fun D o=>ee.df D o∨(D=Dd∧o=.deferred (some []))}
def xd(I:Nat→List af→Prop)(X:Ex→List af→Prop)(k:Nat):Ex→List af→Prop
 | .normal =>I k
 |x=>X x
theorem VC(hm:P.follows .mixedOrders =true){w0:World}{ee:S0}{sh:List Slot}{aA:List af}{aC:Act}{w:World}{g:Gh}(hI:Inv gl w0 ee ⟨sh,aA⟩ aC w g)(aU:sh.all (vc aA.length)=true)(je:aA.all (kK aA.length)=true)
  {zJ:Operand}{it:FuncId}{cap:List SV}(hg:aJ w g.St w0.heap.size (fun _ _ _=>False) (.dg (.func it) [] cap) (aC.eval zJ))(bF:SV.gM cap=true){L:List D}(zu:Iter P gl it cap L)
  {ps:Nat}{assign body:Code}(gV:∀(t:Nat)s,sh[t]? =some s→Dr s=true→t∉cF hh.gh assign∧t∉cF hh.gh body∧t≠ps)
  (I:Nat→List af→Prop)(X:Ex→List af→Prop)(h0:I 0 aA)
  (CQ:∀(k:Nat)d db,I k db→L[k]? =some d→db.length=aA.length→aw P gl (aD P gl) hh assign (fun x e1=>x=.normal ∧aw P gl (aD P gl) hh body (fun x e2=>(e2.boxes.take aA.length).all (kK aA.length)=true∧xd I X (k+1) x (e2.boxes.take aA.length)) e1) ⟨cq sh (some ps) (.v (.d d)),db⟩)
  {Q:Exit→Act→World→Prop}(hQ:∀(x:Ex)db w' g' Dd,xd I X L.length x db→db.length=aA.length→Inv gl w0 (ee.Ku Dd) ⟨sh,db⟩ aC w' g'→w0.heap.size≤Dd→(∀o,¬ee.df Dd o)→(∀o,¬ee.St Dd o)→Q x.to (wd aC [{target:=.collected Dd,args:= #[]}]) w'):
  (Code.rangeFunc zJ #[ps] assign body).wpIn Fence.wide n P Q aC w:=by
 generalize hvg:aC.eval zJ=vg at hg
 cases hg with
 |dg _ _ _ _ fv cv hf hc rf rc=>
  have vU:fv= #[]:=by
   have:fv.size=0:=by simpa using hf.symm
   exact Array.eq_empty_of_size_eq_zero this
  subst vU
  refine wpIn_rangeFunc fun fn _=>?_
  obtain⟨xe,Kv⟩:∃xe:Loop,xe={state:=.ready,pending:=none,fn,tmps:=aC.tmps,params:= #[ps],assign,body,defers:=w.heap.size}:=⟨_,rfl⟩
  obtain⟨w1,xM⟩:∃w1,(w.alloc (.deferred (some []))).alloc (.loop xe)=w1:=⟨_,rfl⟩
  have gE:w1.heap.size=w.heap.size+2:=by rw[←xM];simp
  have hL1:w1.heap[w.heap.size+1]? =some (.loop xe):=by
   rw[←xM]
   have:=World.alloc_heap_new (w.alloc (.deferred (some []))) (.loop xe)
   simpa using this
  have hD1:w1.heap[w.heap.size]? =some (.deferred (some [])):=by
   rw[←xM,jt (w.alloc (.deferred (some []))) _ w.heap.size (by simp)]
   exact World.alloc_heap_new w _
  have hold:∀b,b<w.heap.size→w1.heap[b]? =w.heap[b]? :=fun b hb=>by
   rw[←xM,jt (w.alloc (.deferred (some []))) _ b (by simp;omega),jt w _ b hb]
  have hle:w0.heap.size≤w.heap.size:=hI.below.size
  have ab8:∀b o,b<w.heap.size→w1.cell? ⟨b,o,none⟩=w.cell? ⟨b,o,none⟩:=fun b o hb=>World.cell?_of_block (hold b hb)
  have hIn:=hI.norm
  have cU:Inv gl w0 ee ⟨sh,aA⟩ aC w1 {g with ow:=fun b=>if b<w.heap.size then g.ow b else none}:=
   hIn.move (Pu aU je) rfl (hI.below.trans ⟨by rw[←xM];rfl,by rw[←xM];rfl,by rw[←xM];rfl,by omega,fun k hk=>hold k (by omega)⟩) (by omega)
    (fun b o v hs cY=>by rw[ab8 b o (hI.cG b o hs).2.2];exact cY) (fun b hm=>hold b (hI.dj b hm).2) (fun b p _ _ hb=>hold b hb) (fun D o hD=>hold D (fT (hI.eR D o hD).2.2.1))
  refine⟨w.heap.size+1,[{target:=.collected w.heap.size,args:= #[]}],w1,{target:=.fn (.func it) cv,args:= #[.func (.yield (w.heap.size+1)) #[] #[]]},w1,it,#[.func (.yield (w.heap.size+1)) #[] #[]]++cv,w1,?_,?_,fun _ _=>trivial,?_,(fun h=>by cases h),?_⟩
  ·rw[←xM,Kv];exact run_enterLoop_outer _ _ _ _ _
  ·simp only[resolve,hvg]
   simp[go_sem]
  ·simp[invoke,go_sem,zu.1 _ _]
  ·have AY:w0.heap.size≤w.heap.size+1∧w0.heap.size≤w.heap.size:=⟨by omega,hle⟩
   have zI:w.heap.size+1<w1.heap.size∧w.heap.size<w1.heap.size∧w.heap.size+1≠w.heap.size:=⟨by omega,by omega,by omega⟩
   have jZ:∀D o,ee.df D o→D<w1.heap.size∧D≠w.heap.size+1∧D≠w.heap.size:=fun D o hD=>by have:=fT (hI.eR D o hD).2.2.1;omega
   have rM:∀b o,ee.St b o→b<w1.heap.size∧b≠w.heap.size+1∧b≠w.heap.size:=fun b o hs=>by have:=(hI.cG b o (hI.fY b o hs)).2.2;omega
   have aR:∀b o,g.St b o→b≠w.heap.size+1∧b≠w.heap.size:=fun b o hs=>by have:=(hI.cG b o hs).2.2;omega
   have main:=zu.2 w1 g.St (w.heap.size+1) cv (fun b o h=>by have:=(hI.cG b o h).2.2;omega) cU.ke hc (fun i x v hx hv=>?_)
    (fun q Fr cK pre W=>w1.heap.size≤W.heap.size∧∃x:Ex,(q=none↔x=.normal)∧(x=.normal →pre=L.take pre.length)∧∃db g',db.length=aA.length∧
      wg P gl w0 ee g.St w1.heap.size (w.heap.size+1) w.heap.size {xe with state:=if x.code.isNone then .ready else .done,pending:=x.code} sh aC (xd I X pre.length x) Fr cK W db g') ?_ ?_ ?_
   ·refine callsIn_wide.2 (Calls.mono main ?_)
    rintro e W2 ⟨⟨v,rfl⟩,Fr,cK,pre,q,⟨D7,x,D8,Gp,db,g',dP,hR⟩,hq⟩
    have na:=run_endLoop (P:=P) hR.y8 (by cases x<;>simp[Ex.code])
    have BA:=hR.inv.other hR.y8 (Fe _) (Fe {xe with state:=.exhausted,pending:=x.code}) AY.1 (fun D ob hD=>(jZ D ob hD).2.1)
    have Mh:=hR.lo w.heap.size (.inr rfl)
    have hI6:Inv gl w0 (ee.Ku w.heap.size) ⟨sh,db⟩ aC (W2.putObj (w.heap.size+1) (.loop {xe with state:=.exhausted,pending:=x.code})) g':=by
     refine BA.ur BA.fY (fun b o h=>(BA.cG b o h).1) (fun D o hD=>?_) BA.cls BA.jH
     rcases hD with hD|⟨rfl,rfl⟩
     ·exact BA.eR D o hD
     ·exact⟨Mh.1,Mh.2.1,(World.putObj_heap_other (by omega)).trans hR.dd,fun x hx=>absurd hx (Mh.2.2 x)⟩
    have pz:∀x',x=x'→xd I X L.length x' db:=fun x' hx=>by
     subst hx
     have:=hR.i
     cases x with
     |normal=>
      have h1:=hq (D8.2 rfl)
      rw[h1]at this
      exact this
     |exit i=>exact this
     |ret=>exact this
    have TK:=hI.defers
    have K0:({aC with defers:=[{target:=.collected w.heap.size,args:= #[]}]++aC.defers}:Act)=wd aC [{target:=.collected w.heap.size,args:= #[]}]:=by
     rw[TK];rfl
    have JZ:=hQ x db _ g' w.heap.size (pz x rfl) dP hI6 hle (fun o hD=>(jZ _ o hD).2.2 rfl) (fun o hs=>(rM _ o hs).2.2 rfl)
    refine⟨x.code,_,na,?_⟩
    rw[K0]
    cases x with
    |normal=>exact JZ
    |exit i=>exact wpIn_exit JZ
    |ret=>exact wpIn_ret JZ
   ·have sg:x.ay=true:=rb.1 bF x (List.mem_of_getElem? hx)
    exact(((rc i x v hx hv).TM (yM:=0) sg).mono (fun b o h=>⟨h,.ri (hold b (hI.cG b o h).2.2)⟩) (fun b o hb=>absurd hb (Nat.not_lt_zero _)) _ (fun _ _ _ h=>h.elim)).TM sg
   ·rintro q Fr cK pre W W' mL qn ⟨D7,x,D8,Gp,db,g',dP,hR⟩ hb f1 f2 p1 p2
    exact⟨Nat.le_trans D7 hb.size,x,D8,Gp,db,g',dP,hR.Ks aU (by omega) ⟨zI.1,zI.2.1⟩ (fun D o hD=>(jZ D o hD).1) hb D7 f1 f2 p1 p2⟩
   ·rintro Fr cK pre d v W ⟨D7,x,D8,Gp,db,g',dP,hR⟩ hd TN
    have hxn:=D8.1 rfl
    subst hxn
    subst Kv
    have Gn:=CQ pre.length d db hR.i TN dP
    rw[←dP]at Gn
    obtain⟨tmps,hy,hr⟩:=hR.round (hh:=hh) hm (by rw[dP];exact aU) AY zI jZ rM aR (ps:=ps) rfl rfl rfl rfl hd gV (I':=xd I X (pre.length+1)) Gn
    refine⟨_,tmps,_,_,hy,fun n=>(hr n).mono fun e W'⟨x',he,gX,afe,g2,rZ,Mi⟩=>⟨x'.code.isNone,he,gX,?_,x',?_,fun dK=>?_,afe,g2,rZ.trans dP,?_⟩⟩
    ·have:=fT Mi.dd
     have h1:=Mi.fr
     have:W.heap.size≤W'.heap.size:=gX.size
     omega
    ·cases x'<;>simp[Ex.code]
    ·have h1:=Gp rfl
     rw[List.length_append,List.length_singleton,List.take_add_one,TN,←h1]
     rfl
    ·rw[List.length_append,List.length_singleton]
     exact Mi
   ·subst Kv
    refine⟨Nat.le_refl _,.normal,by simp,fun _=>by simp,aA,_,rfl,⟨cU,h0,je,fun _ _ h=>h,fun b p ho=>?_,fun b o h=>.inl h,fun b o h=>⟨h,h⟩,fun b o h=>⟨.inl h,by have:=(hI.cG b o h).2.2;omega⟩,fun b h=>h.elim,hL1,hD1,fun b hb=>?_⟩⟩
    ·simp only at ho
     split at ho
     ·exact⟨by omega,fun h=>h⟩
     ·cases ho
    ·have D9:¬b<w.heap.size:=by omega
     exact⟨fun hm=>D9 (hI.dj b hm).2,by simp only;rw[if_neg D9],fun o h=>D9 (hI.cG b o h).2.2⟩
end
end Go.Proofs.Ytimbllcalipehaa.Ab
set_option linter.unusedVariables false
set_option linter.unusedSimpArgs false
namespace Go.Proofs.Ytimbllcalipehaa.Ab
open Go Go.RowKit
structure uu(gl:Nat→Option D)(base:Nat)(TO:S0)(Fr:Nat→Prop)(e:Env)(a:Act)(W:World)(g:Gh):Prop where
 inv:∃w0:World,w0.heap.size=base∧Inv gl w0 TO e a W g
 bx:∀b,some b∈g.bx→Fr b
 ow:∀b p,g.ow b=some p→b<W.heap.size→Fr b
 st:∀b o,g.St b o→Fr b∨TO.St b o
 fr:∀b,Fr b→base≤b∧b<W.heap.size
def qI(St:Nat→Nat→Prop):S0:={St:=St,df:=fun _ _=>False,cl:=fun _ _ _=>False}
def Du(Fr:Nat→Prop)(W:World)(g:Gh):S0:={St:=g.St,df:=fun D o=>¬Fr D∧W.heap[D]? =some o,cl:=fun b o v=>g.St b o∧W.cell? ⟨b,o,none⟩=some v,sz:=W.heap.size}
section
variable{P:Program}{gl:Nat→Option D}{hh:Hints}{n:Nat}{base:Nat}{St:Nat→Nat→Prop}{Fr:Nat→Prop}{e:Env}{a:Act}{W:World}{g:Gh}
theorem uu.ur(h:uu gl base (qI St) Fr e a W g):∃w0:World,w0.heap.size=base∧Inv gl w0 (Du Fr W g) e a W g:=by
 obtain⟨w0,h0,hI⟩:=h.inv
 refine⟨w0,h0,hI.ur (fun _ _ h=>h) (fun _ _ h=>.inl h) (fun D o hD=>?_) (fun _ _ _ h=>h) (Nat.le_refl _)⟩
 obtain⟨h1,h2⟩:=hD
 refine⟨fun hm=>h1 (h.bx D hm),?_,h2,fun x hx=>hx⟩
 cases qH:g.ow D with
 |none=>rfl
 |some p=>exact absurd (h.ow D p qH (fT h2)) h1
theorem uu.aee(h:uu gl base (qI St) Fr e a W g){w0:World}(h0:w0.heap.size=base)(oL:Inv gl w0 (Du Fr W g) e a W g){e':Env}{a':Act}{W':World}{g':Gh}(hI:Inv gl w0 (Du Fr W g) e' a' W' g'):
  uu gl base (qI St) (fun b=>Fr b∨(W.heap.size≤b∧b<W'.heap.size)) e' a' W' g'∧uX Fr g.St W W'∧∀b o,g.St b o→g'.St b o:=by
 have aM:W.heap.size≤W'.heap.size:=hI.jH
 obtain⟨w1,h1,cU⟩:=h.inv
 have hold:∀b,b<W.heap.size→¬Fr b→some b∉g'.bx∧g'.ow b=none∧W'.heap[b]? =W.heap[b]? ∧∀x,g'.St b x→g.St b x:=fun b hb hf=>by
  have wh:W.heap[b]? =some W.heap[b]:=by simp[hb]
  have:=hI.eR b _ ⟨hf,wh⟩
  exact⟨this.1,this.2.1,this.2.2.1.trans wh.symm,this.2.2.2⟩
 refine⟨⟨⟨w0,h0,hI.ur (fun b o hs=>hI.fY b o (cU.fY b o hs)) (fun b o hs=>?_) (fun D o hD=>hD.elim) (fun b o v hv=>hv.elim) (Nat.zero_le _)⟩,fun b hm=>?_,fun b p ho hb=>?_,fun b o hs=>?_,fun b hf=>?_⟩,
  ⟨hI.below.os.trans oL.below.os.symm,hI.below.tape.trans oL.below.tape.symm,hI.below.output.trans oL.below.output.symm,aM,fun b hb hf=>(hold b hb hf).2.2.1,fun b o v hs hc=>(hI.cls b o v ⟨hs,hc⟩).2⟩,fun b o hs=>hI.fY b o hs⟩
 ·rcases(hI.cG b o hs).1 with h2|h2
  ·have:=(cU.cG b o h2).1
   rw[h1]at this
   rw[h0]
   exact this
  ·exact .inr h2
 ·by_cases hf:Fr b
  ·exact .inl hf
  ·by_cases hb:b<W.heap.size
   ·exact absurd hm (hold b hb hf).1
   ·exact .inr ⟨by omega,(hI.dj b hm).2⟩
 ·by_cases hf:Fr b
  ·exact .inl hf
  ·by_cases ei:b<W.heap.size
   ·rw[(hold b ei hf).2.1]at ho;cases ho
   ·exact .inr ⟨by omega,hb⟩
 ·by_cases hf:Fr b
  ·exact .inl (.inl hf)
  ·by_cases hb:b<W.heap.size
   ·exact(h.st b o ((hold b hb hf).2.2.2 o hs)).imp .inl id
   ·exact .inl (.inr ⟨by omega,(hI.cG b o hs).2.2⟩)
 ·rcases hf with hf|hf
  ·have:=h.fr b hf;exact⟨this.1,by omega⟩
  ·refine⟨?_,hf.2⟩
   have:=oL.below.size
   omega
theorem uu.norm(h:uu gl base (qI St) Fr e a W g):∃g',uu gl base (qI St) Fr e a W g'∧g'.St=g.St∧∀b p,g'.ow b=some p→b<W.heap.size:=by
 obtain⟨w0,h0,hI⟩:=h.inv
 refine⟨_,⟨⟨w0,h0,hI.norm⟩,h.bx,fun b p ho hb=>?_,h.st,h.fr⟩,rfl,fun b p ho=>?_⟩
 ·simp only at ho
  rw[if_pos hb]at ho
  exact h.ow b p ho hb
 ·simp only at ho
  split at ho
  ·assumption
  ·cases ho
structure su(P:Program)(gl:Nat→Option D) where
 base:Nat
 St:Nat→Nat→Prop
 l:Nat
 L:List D
 J:Option Unit→(Nat→Prop)→(Nat→Nat→Prop)→List D→World→Prop
 nt:∀b o,St b o→b<base
 Ks:∀q Fr cK pre W W' mL qn,J q Fr cK pre W→uX Fr cK W W'→(∀b,mL b→Fr b∨(W.heap.size≤b∧b<W'.heap.size))→(∀b,Fr b→mL b)→(∀b o,cK b o→qn b o)→
  (∀b o,qn b o→(cK b o∨mL b)∧b<W'.heap.size)→J q mL qn pre W'
 round:∀Fr cK pre d v W,J none Fr cK pre W→aZ W cK d v→L[pre.length]? =some d→∃fn tmps assign body,(Instr.yield l #[v]).run P W=.ok (.round l fn tmps assign body) W∧
  ∀n,RoundIn Fence.wide n P l fn tmps assign body W fun e W'=>∃b,e=.returned (.bool b)∧uX (fun b=>¬Fr b) cK W W'∧J (bif b then none else some ()) Fr cK (pre++[d]) W'
def su.qo(C:su P gl)(e:Env)(log:List D)(q:Option Unit)(a:Act)(W:World):Prop:=
 ∃Fr g,uu gl C.base (qI C.St) Fr e a W g∧C.J q Fr g.St log W
theorem su.go(C:su P gl){log:List D}{q:Option Unit}(h:uu gl C.base (qI C.St) Fr e a W g)(hJ:C.J q Fr g.St log W){w0:World}(h0:w0.heap.size=C.base)(oL:Inv gl w0 (Du Fr W g) e a W g){e':Env}{a':Act}{W':World}{g':Gh}
  (hI:Inv gl w0 (Du Fr W g) e' a' W' g'):C.qo e' log q a' W':=by
 obtain⟨h1,h2,h3⟩:=h.aee h0 oL hI
 refine⟨_,g',h1,C.Ks _ _ _ _ _ _ _ _ hJ h2 (fun b hb=>hb) (fun b hb=>.inl hb) h3 (fun b o hs=>⟨?_,(hI.cG b o hs).2.2⟩)⟩
 rcases h1.st b o hs with hf|mK
 ·exact .inr hf
 ·obtain⟨_,_,cU⟩:=h.inv
  exact .inl (cU.fY b o mK)
def IW(C:su P gl)(n:Nat)(c:Code)(Q:Ex→Env→List D→Option Unit→Prop)(e:Env)(log:List D)(q:Option Unit):Prop:=
 ∀a W,C.qo e log q a W→c.wpIn Fence.wide n P (fun x a' W'=>∃xx e' lZ q',x=Ex.to xx∧C.qo e' lZ q' a' W'∧Q xx e' lZ q') a W
def OW(C:su P gl)(n:Nat)(ops:Array Oper)(Q:Ex→Env→List D→Option Unit→Prop)(idx:List Nat)(e:Env)(log:List D)(q:Option Unit):Prop:=
 ∀a W,C.qo e log q a W→wpOpsIn Fence.wide n P ops (fun x a' W'=>∃xx e' lZ q',x=Ex.to xx∧C.qo e' lZ q' a' W'∧Q xx e' lZ q') idx a W
theorem N8{F:Fence}{c:Code}{Q:Exit→Act→World→Prop}:∀{m k:Nat},m≤k→∀{a:Act}{w:World},Code.roundsIn F n P c Q m a w→Code.roundsIn F n P c Q k a w
 |0,_,_,_,_,h=>h.elim
 |m+1,0,hk,_,_,_=>by omega
 |m+1,k+1,hk,a,w,h=>by
  refine wpIn_mono h fun x a' w' hx=>?_
  cases x with
  |normal=>exact N8 (by omega) hx
  |_=>exact hx
variable{C:su P gl}{log:List D}{q:Option Unit}
theorem IW.mono{c:Code}{Q Q':Ex→Env→List D→Option Unit→Prop}(h:IW C n c Q e log q)(hq:∀x e l q,Q x e l q→Q' x e l q):IW C n c Q' e log q:=fun a W hH=>
 wpIn_mono (h a W hH) fun x a' W'⟨xx,e',l',q',h1,h2,h3⟩=>⟨xx,e',l',q',h1,h2,hq _ _ _ _ h3⟩
theorem IW.aw(hm:P.follows .mixedOrders =true){c:Code}{Q:Ex→Env→List D→Option Unit→Prop}(h:aw P gl (aD P gl) hh c (fun x e'=>Q x e' log q) e):IW C n c Q e log q:=by
 rintro a W ⟨Fr,g,hS,hJ⟩
 obtain⟨w0,h0,hI⟩:=hS.ur
 have:=OL (r:=none) (n:=n) (ds:=[]) hm c hI h (Q:=fun x a' W'=>∃xx e' lZ q',x=Ex.to xx∧C.qo e' lZ q' a' W'∧Q xx e' lZ q') (fun x e' a' W' g' bh hQ=>by
  refine⟨x,e',log,q,rfl,?_,hQ⟩
  rw[yH bh.defers]
  exact C.go hS hJ h0 hI bh)
 rw[yH hI.defers]at this
 exact this
theorem IW.seq{x y:Code}{Q:Ex→Env→List D→Option Unit→Prop}(h:IW C n x (fun ex e' l' q'=>match ex with| .normal =>IW C n y Q e' l' q'|ex=>Q ex e' l' q') e log q):IW C n (.seq x y) Q e log q:=fun a W hH=>by
 refine wpIn_seq (wpIn_mono (h a W hH) ?_)
 rintro ex a' W' ⟨xx,e',l',q',rfl,h2,h3⟩
 cases xx with
 |normal=>exact h3 a' W' h2
 |exit i=>exact⟨.exit i,e',l',q',rfl,h2,h3⟩
 |ret=>exact⟨.ret,e',l',q',rfl,h2,h3⟩
theorem IW.block{id:Nat}{b:Code}{Q:Ex→Env→List D→Option Unit→Prop}(h:IW C n b (fun ex e' l' q'=>match ex with| .normal =>Q .normal e' l' q'| .exit i=>cond (i==id) (Q .normal e' l' q') (Q (.exit i) e' l' q')| .ret =>Q .ret e' l' q') e log q):
  IW C n (.block id b) Q e log q:=fun a W hH=>by
 refine wpIn_block (wpIn_mono (h a W hH) ?_)
 rintro ex a' W' ⟨xx,e',l',q',rfl,h2,h3⟩
 cases xx with
 |normal=>exact⟨.normal,e',l',q',rfl,h2,h3⟩
 |exit i=>
  have h3:cond (i==id) (Q .normal e' l' q') (Q (.exit i) e' l' q'):=h3
  show(if i=id then _ else _)
  cases hb:(i==id)with
  |true=>
   rw[hb]at h3
   rw[if_pos (beq_iff_eq.1 hb)]
   exact⟨.normal,e',l',q',rfl,h2,h3⟩
  |false=>
   rw[hb]at h3
   rw[if_neg (beq_eq_false_iff_ne.1 hb)]
   exact⟨.exit i,e',l',q',rfl,h2,h3⟩
 |ret=>exact⟨.ret,e',l',q',rfl,h2,h3⟩
theorem IW.cond{t:Nat}{b:Bool}{x y:Code}{Q:Ex→Env→List D→Option Unit→Prop}(hs:e.ai[t]? =some (.v (.d (.bool b))))(h:IW C n (if b then x else y) Q e log q):IW C n (.cond (.tmp t) x y) Q e log q:=fun a W hH=>by
 have hH':=hH
 obtain⟨Fr,g,hS,_⟩:=hH'
 obtain⟨w0,_,hI⟩:=hS.inv
 have h1:=(hI.ai t _ hs).jT.data.tf
 exact wpIn_cond (t:=b) h1 (h a W hH)
theorem IW.loop{b:Code}{Q:Ex→Env→List D→Option Unit→Prop}(I:Nat→Env→List D→Option Unit→Prop)
  (hb:∀m e l q,I m e l q→IW C n b (fun ex e' l' q'=>match ex with| .normal =>(∃m',m'<m∧I m' e' l' q')|ex=>Q ex e' l' q') e l q):∀(m:Nat)(e:Env)(log:List D)(q:Option Unit),I m e log q→IW C n (.loop b) Q e log q:=by
 have key:∀(m:Nat)(e:Env)(log:List D)(q:Option Unit),I m e log q→∀a W,C.qo e log q a W→Code.roundsIn Fence.wide n P b (fun x a' W'=>∃xx e' lZ q',x=Ex.to xx∧C.qo e' lZ q' a' W'∧Q xx e' lZ q') (m+1) a W:=by
  intro m
  induction m using Nat.strongRecOn with
  |_ m ih=>
   intro e log q hI a W hH
   refine wpIn_mono (hb m e log q hI a W hH) ?_
   rintro ex a' W' ⟨xx,e',l',q',rfl,h2,h3⟩
   cases xx with
   |normal=>
    obtain⟨m',mf,bh⟩:=h3
    have:=ih m' mf e' l' q' bh a' W' h2
    exact N8 (by omega) this
   |exit i=>exact⟨.exit i,e',l',q',rfl,h2,h3⟩
   |ret=>exact⟨.ret,e',l',q',rfl,h2,h3⟩
 exact fun m e log q hI a W hH=>wpIn_loop_rounds (m+1) (key m e log q hI a W hH)
theorem OW.nil{ops:Array Oper}{Q:Ex→Env→List D→Option Unit→Prop}(h:Q .normal e log q):OW C n ops Q [] e log q:=fun a W hH=>⟨.normal,e,log,q,rfl,hH,h⟩
theorem IW.region{id:Nat}{ops:Array Oper}{Q:Ex→Env→List D→Option Unit→Prop}(h:OW C n ops Q (List.range ops.size) e log q):IW C n (.region id ops false) Q e log q:=fun a W hH=>wpIn_region (h a W hH)
theorem OW.step{ops:Array Oper}{Q:Ex→Env→List D→Option Unit→Prop}{i:Nat}{rest:List Nat}{id:Nat}{aE:Bool}{o:Oper}(ho:ops[i]? =some o)
  (h:m5 P gl (aD P gl) ops.toList id aE o e (fun e'=>OW C n ops Q rest e' log q)):OW C n ops Q (i::rest) e log q:=by
 rintro a W ⟨Fr,g,hS,hJ⟩
 obtain⟨w0,h0,hI⟩:=hS.ur
 rw[wpOpsIn_cons]
 have:=Ij (r:=none) (n:=n) (ds:=[]) hI ho h (next:=wpOpsIn Fence.wide n P ops (fun x a' W'=>∃xx e' lZ q',x=Ex.to xx∧C.qo e' lZ q' a' W'∧Q xx e' lZ q') rest)
  (Q:=fun x a' W'=>∃xx e' lZ q',x=Ex.to xx∧C.qo e' lZ q' a' W'∧Q xx e' lZ q') (fun e' v W' g' bh hk=>by
    rw[yH bh.defers]
    exact hk _ _ (C.go hS hJ h0 hI bh))
 rw[yH hI.defers]at this
 exact this
theorem OW.yield{ops:Array Oper}{Q:Ex→Env→List D→Option Unit→Prop}{i:Nat}{rest:List Nat}{o:Oper}(ho:ops[i]? =some o)(hg:o.guard=none){c:Call}(hc:o.op=.call c){f x:Operand}(hf:c.callee=.value f)(hx:c.args= #[x]){d:Nat}(hd:o.dst=some d)
  (hsf:(Ab.aV gl e f).aa =.v (.d (.fn (.yield C.l)))){y:D}(hsx:(Ab.aV gl e x).aa =.v (.d y))(hy:C.L[log.length]? =some y)(hp:FN e)
  (h1:OW C n ops Q rest ⟨e.ai.set d (.v (.d (.bool true))),e.boxes⟩ (log++[y]) none)(h2:OW C n ops Q rest ⟨e.ai.set d (.v (.d (.bool false))),e.boxes⟩ (log++[y]) (some ())):OW C n ops Q (i::rest) e log none:=by
 rintro a W ⟨Fr,g0,GO,hJ⟩
 obtain⟨g,hS,jk,rW⟩:=GO.norm
 rw[←jk]at hJ
 obtain⟨w0,h0,hI⟩:=hS.inv
 rw[wpOpsIn_cons]
 unfold wpOpIn
 simp only[ho]
 have hw:Region.wanted o (yielded ops a.tmps)=true:=by simp[Region.wanted,hg]
 rw[if_pos hw]
 refine⟨fun _ _=>trivial,?_⟩
 have Ea:a.eval f=.func (.yield C.l) #[] #[]:=by
  have:=(hI.pD hsf).data
  generalize a.eval f=u at this
  cases this
  rfl
 have DH:aZ W g.St y (a.eval x):=(hI.pD hsx).data
 obtain⟨fn,tmps,assign,body,ba,hr⟩:=C.round Fr g.St log y (a.eval x) W hJ DH hy
 have hex:(o.semAt Fence.wide.round a.eval).run P W=.ok (.round C.l fn tmps assign body) W:=by
  show(execOp a.eval o).run P W=_
  generalize a.eval=ρ at Ea ba
  simp[execOp,hc,resolve,hf,hx,Ea,invoke,go_sem,ba]
 rw[hex,Oper.uponIn_round]
 refine⟨fun h=>(by cases h),(hr (n-1)).mono ?_⟩
 rintro e1 W1 ⟨b,rfl,hB,GX⟩
 show wpOpsIn _ _ _ _ _ rest (a.put o.dst (.bool b)) W1
 rw[hd]
 have GL:Inv gl (Dp W1 C.base) (qI C.St) e a W1 g:=by
  have hle:=hI.below.size
  have gE:=hB.size
  have bS:(Dp W1 C.base).heap.size =C.base:=Ps (by omega)
  refine hI.move hp (by rw[bS,h0]) ?_ hB.size (fun b o v hs hc=>hB.jW b o v hs hc) (fun b hm=>?_) (fun b p hw _ hb=>?_) (fun D o hD=>hD.elim)
  ·rw[h0]
   refine⟨rfl,rfl,rfl,by rw[bS];omega,fun k hk=>?_⟩
   show W1.heap[k]? =(W1.heap.extract 0 C.base)[k]?
   rw[Array.getElem?_extract,if_pos (by omega),Nat.zero_add]
  ·exact hB.an b (hI.dj b hm).2 fun hn=>hn (hS.bx b hm)
  ·exact hB.an b hb fun hn=>hn (hS.ow b p hw hb)
 have bS:(Dp W1 C.base).heap.size =C.base:=Ps (by have:=hI.below.size;have:=hB.size;omega)
 have hv:=GL.value (dst:=some d) (s:=.v (.d (.bool b))) (v:=.bool b) (.v _ _ _ (.d _ _ _ (.bool b)))
 have hH:C.qo ⟨e.ai.set d (.v (.d (.bool b))),e.boxes⟩ (log++[y]) (bif b then none else some ()) (a.put (some d) (.bool b)) W1:=by
  refine⟨Fr,g,⟨⟨_,bS,hv⟩,hS.bx,fun b p hw hb=>hS.ow b p hw (rW b p hw),hS.st,fun b hf=>⟨(hS.fr b hf).1,Nat.lt_of_lt_of_le (hS.fr b hf).2 hB.size⟩⟩,GX⟩
 cases b with
 |true=>exact h1 _ _ hH
 |false=>exact h2 _ _ hH
end
end Go.Proofs.Ytimbllcalipehaa.Ab
set_option linter.unusedVariables false
set_option linter.unusedSimpArgs false
namespace Go.Proofs.Ytimbllcalipehaa.Ab
open Go Go.RowKit
def fL:Code→List Code
 | .seq a b=>fL a++fL b
 |c=>[c]
def qJ(F:Fence)(n:Nat)(P:Program):List Code→(Exit→Act→World→Prop)→Act→World→Prop
 |[],Q,a,w=>Q .normal a w
 |c::l,Q,a,w=>c.wpIn F n P (Exit.then (qJ F n P l Q) Q) a w
section
variable{P:Program}{gl:Nat→Option D}{hh:Hints}{F:Fence}{n:Nat}
theorem OM{Q:Exit→Act→World→Prop}:∀(l m:List Code)(a:Act)(w:World),qJ F n P l (Exit.then (qJ F n P m Q) Q) a w→qJ F n P (l++m) Q a w
 |[],m,a,w,h=>h
 |c::l,m,a,w,h=>by
  refine wpIn_mono (h:c.wpIn F n P _ a w) fun x a' w' hx=>?_
  cases x with
  |normal=>exact OM l m a' w' hx
  |_=>exact hx
theorem IE{Q:Exit→Act→World→Prop}:∀(c:Code)(a:Act)(w:World),qJ F n P (fL c) Q a w→c.wpIn F n P Q a w
 | .seq x y,a,w,h=>by
   have h:qJ F n P (fL x++fL y) Q a w:=h
   refine wpIn_seq (IE x a w ?_)
   have key:∀(l m:List Code)(a:Act)(w:World),qJ F n P (l++m) Q a w→qJ F n P l (Exit.then (qJ F n P m Q) Q) a w:=by
    intro l
    induction l with
    |nil=>intro m a w h;exact h
    |cons c l ih=>
     intro m a w h
     refine wpIn_mono (h:c.wpIn F n P _ a w) fun x a' w' hx=>?_
     cases x with
     |normal=>exact ih m a' w' hx
     |_=>exact hx
   have:=key _ _ a w h
   have mono:∀(l:List Code)(a:Act)(w:World)(R R':Exit→Act→World→Prop),(∀x a w,R x a w→R' x a w)→qJ F n P l R a w→qJ F n P l R' a w:=by
    intro l
    induction l with
    |nil=>intro a w R R' hr h;exact hr _ _ _ h
    |cons c l ih=>
     intro a w R R' hr h
     refine wpIn_mono (h:c.wpIn F n P _ a w) fun x a' w' hx=>?_
     cases x with
     |normal=>exact ih a' w' R R' hr hx
     |_=>exact hr _ _ _ hx
   refine mono _ a w _ _ (fun x a' w' hx=>?_) this
   cases x with
   |normal=>exact IE y a' w' hx
   |_=>exact hx
 | .skip,a,w,h=>wpIn_mono (show Code.wpIn F n P _ _ a w from h) fun x a' w' hx=>by cases x<;>exact hx
 | .region ..,a,w,h=>wpIn_mono (show Code.wpIn F n P _ _ a w from h) fun x a' w' hx=>by cases x<;>exact hx
 | .cond ..,a,w,h=>wpIn_mono (show Code.wpIn F n P _ _ a w from h) fun x a' w' hx=>by cases x<;>exact hx
 | .block ..,a,w,h=>wpIn_mono (show Code.wpIn F n P _ _ a w from h) fun x a' w' hx=>by cases x<;>exact hx
 | .loop ..,a,w,h=>wpIn_mono (show Code.wpIn F n P _ _ a w from h) fun x a' w' hx=>by cases x<;>exact hx
 | .exit _,a,w,h=>wpIn_mono (show Code.wpIn F n P _ _ a w from h) fun x a' w' hx=>by cases x<;>exact hx
 | .ret,a,w,h=>wpIn_mono (show Code.wpIn F n P _ _ a w from h) fun x a' w' hx=>by cases x<;>exact hx
 | .goto _,a,w,h=>wpIn_mono (show Code.wpIn F n P _ _ a w from h) fun x a' w' hx=>by cases x<;>exact hx
 | .label _,a,w,h=>wpIn_mono (show Code.wpIn F n P _ _ a w from h) fun x a' w' hx=>by cases x<;>exact hx
 | .scope _,a,w,h=>wpIn_mono (show Code.wpIn F n P _ _ a w from h) fun x a' w' hx=>by cases x<;>exact hx
 | .rangeFunc ..,a,w,h=>wpIn_mono (show Code.wpIn F n P _ _ a w from h) fun x a' w' hx=>by cases x<;>exact hx
 | .refuse _,a,w,h=>wpIn_mono (show Code.wpIn F n P _ _ a w from h) fun x a' w' hx=>by cases x<;>exact hx
end
section
variable(P:Program)(gl:Nat→Option D)(C:bl)(h:Hints)
def kq:List Code→(Ex→Env→Prop)→Env→Prop
 |[],Q,e=>Q .normal e
 |c::l,Q,e=>aw P gl C h c (fun x e'=>match x with| .normal =>kq l Q e'| .exit i=>Q (.exit i) e'| .ret =>Q .ret e') e
def Bb(fn:Func)(K:SV→Prop)(x:Ex)(e:Env):Prop:=match x with| .normal =>finish P fn e K| .ret =>finish P fn e K| .exit _=>False
end
section
variable{P:Program}{gl:Nat→Option D}{hh:Hints}{n:Nat}
theorem HX(hm:P.follows .mixedOrders =true){ds:List Deferred}{r:Option Nat}:∀(l:List Code){w0:World}{aq:S0}{QA:Ex→Env→Prop}{e:Env}{a:Act}{w:World}{g:Gh}{Q:Exit→Act→World→Prop},
  Inv gl w0 aq e a w g→kq P gl (aD P gl) hh l QA e→(∀x e' a' w' g',Inv gl w0 aq e' a' w' g'→QA x e'→Q x.to (wd a' ds) w')→qJ (FW r) n P l Q (wd a ds) w
 |[],_,_,_,_,_,_,_,_,hI,h,hQ=>hQ .normal _ _ _ _ hI h
 |c::l,w0,aq,QA,e,a,w,g,Q,hI,h,hQ=>by
  refine OL hm c hI h fun x e' a' w' g' bh hx=>?_
  cases x with
  |normal=>exact HX hm l bh hx hQ
  |exit i=>exact hQ (.exit i) e' a' w' g' bh hx
  |ret=>exact hQ .ret e' a' w' g' bh hx
theorem IF{fn:Func}{args:List SV}{w:World}{St:Nat→Nat→Prop}{vs:Array Value}(nt:∀b o,St b o→b<w.heap.size)(oO:uU gl w St)(hlen:args.length=vs.size)
  (eI:∀(i:Nat)x v,args[i]? =some x→vs[i]? =some v→aJ w St w.heap.size (fun _ _ _=>False) x v):
  Inv gl w (qI St) (enter fn.ntmps args) {tmps:=vs++Array.replicate (fn.ntmps-vs.size) undef,defers:=[]} w ⟨St,[],fun _=>none⟩:=by
 refine⟨Below.refl _ _,by simp[enter,hlen],fun i s hs=>?_,rfl,fun b bx an h1=>by simp[enter]at h1,fun i j an h1=>by simp at h1,fun _ _ h=>h,fun b o hb=>⟨.inl hb,by simp,nt b o hb⟩,fun b hb=>by simp at hb,oO,rfl,fun D o hD=>hD.elim,fun b o v hv=>hv.elim,Nat.zero_le _⟩
 simp only[enter]at hs
 rw[List.getElem?_append]at hs
 split at hs
 ·rename_i hi
  simp only[List.length_map]at hi
  simp only[List.getElem?_map,Option.map_eq_some_iff]at hs
  obtain⟨x,hx,rfl⟩:=hs
  have D4:i<vs.size:=by omega
  have:=eI i x vs[i] hx (by simp)
  have jF:(vs++Array.replicate (fn.ntmps-vs.size) undef).getD i undef=vs[i]:=by
   simp[Array.getElem?_append,D4]
  rw[jF]
  exact .v _ _ _ (this.mono (fun _ _ h=>⟨h,.refl _ _ _⟩) (fun _ _ _=>rfl) _ (fun _ _ _ h=>h.elim))
 ·have:=(List.mem_replicate.1 (List.mem_of_getElem? hs)).2
  subst this
  exact .v _ _ _ (.undef _ _)
theorem Wq(hm:P.follows .mixedOrders =true){f:FuncId}{fn:Func}{c:Code}{args:List SV}{r:SV}(hf:P.funcs[f]? =some fn)(hb:fn.body=some c)(hE:lQ P f){A B:List Code}{id:Nat}{zJ:Operand}{ps:Nat}{assign body:Code}
  (J0:fL c=A++.block id (.rangeFunc zJ #[ps] assign body)::B){it:FuncId}{cap:List SV}{L:List D}(zu:Iter P gl it cap L)(bF:SV.gM cap=true)
  (hA:cj args (kq P gl (aD P gl) hh A (fun x e=>x=.normal ∧(Ab.aV gl e zJ).aa =.v (.dg (.func it) [] cap)∧∃(sh:List Slot) (I:Nat→List af→Prop) (X:Ex→List af→Prop),sh.length=e.ai.length∧
    (∀(i:Nat)s,sh[i]? =some s→s=.v .undef ∨∃s0,e.ai[i]? =some s0∧(s=s0∨s=s0.aa))∧sh.all (vc e.boxes.length)=true∧e.boxes.all (kK e.boxes.length)=true∧
    (∀(t:Nat)s,sh[t]? =some s→Dr s=true→t∉cF hh.gh assign∧t∉cF hh.gh body∧t≠ps)∧I 0 e.boxes∧
    (∀(k:Nat)d db,I k db→L[k]? =some d→db.length=e.boxes.length→aw P gl (aD P gl) hh assign (fun x e1=>x=.normal ∧aw P gl (aD P gl) hh body (fun x e2=>(e2.boxes.take e.boxes.length).all (kK e.boxes.length)=true∧xd I X (k+1) x (e2.boxes.take e.boxes.length)) e1) ⟨cq sh (some ps) (.v (.d d)),db⟩)∧
    (∀db,I L.length db→db.length=e.boxes.length→kq P gl (aD P gl) hh B (Bb P fn (fun x=>x=r)) ⟨sh,db⟩)∧
    (∀x db,x≠.normal →X x db→db.length=e.boxes.length→x=.ret ∧finish P fn ⟨sh,db⟩ (fun x=>x=r))) (enter fn.ntmps args)))(ha:lV args=none:=by rfl):aD P gl f args r:=by
 rw[x9 ha]
 refine⟨hE,fun w St vs nt oO hlen eI=>(callsIn_wide (n:=0)).1 (callsIn_of_wp_marks hf hb trivial ?_)⟩
 have bC:SV.gn args:=by
  rw[SV.kC]
  intro x hx
  obtain⟨i,hi,rfl⟩:=List.mem_iff_getElem.1 hx
  exact(eI i _ (vs[i]'(by omega)) (by simp) (by simp)).wf
 have hI:=IF (fn:=fn) nt oO hlen eI
 have hA:=hA bC
 refine IE c _ w ?_
 rw[J0]
 refine OM _ _ _ _ ?_
 refine HX (r:=none) (n:=0) (ds:=[]) hm A hI hA ?_
 rintro x e a1 w1 g1 cU ⟨rfl,aff,sh,I,X,jI,hs,qe,je,gV,h0,CQ,hB,hX⟩
 rw[yH cU.defers]
 have bO:=cU.drop (ai:=e.ai) (aA:=e.boxes) jI hs
 have fin:∀(x:Ex)e' a' W' g' Dd,Inv gl w ((qI St).Ku Dd) e' a' W' g'→w.heap.size≤Dd→(x=.normal ∨x=.ret)→finish P fn e' (fun x=>x=r)→
   bodyPostM Fence.wide 0 P fn (fun e w'=>∃v,e=.returned v∧Below w.heap.size w w'∧∃bE ow,(∀b o,St b o→bE b o)∧(∀b o,bE b o→St b o∨(w.heap.size≤b∧b<w'.heap.size))∧uW w.heap.size w' bE ow r v) x.to (wd a' [{target:=.collected Dd,args:= #[]}]) W':=by
  intro x e' a' W' g' Dd bh Eb hx pz
  have hD:=bh.eR Dd _ (.inr ⟨rfl,rfl⟩)
  have eL:Inv gl w (qI St) e' a' W' g':=bh.ur bh.fY (fun b o h=>(bh.cG b o h).1) (fun D o hD=>hD.elim) (fun b o v hv=>hv.elim) (Nat.zero_le _)
  have Ec:=eL.other (o':=.deferred none) hD.2.2.1 (QQ _) (QQ _) Eb (fun D ob hD=>hD.elim)
  obtain⟨r',v,iS,ba,bc⟩:=Ii Ec pz
  subst iS
  have ab9:LeavesInM Fence.wide 0 P fn a'.tmps (fun e w'=>∃v,e=.returned v∧Below w.heap.size w w'∧∃bE ow,(∀b o,St b o→bE b o)∧(∀b o,bE b o→St b o∨(w.heap.size≤b∧b<w'.heap.size))∧uW w.heap.size w' bE ow r' v) [{target:=.collected Dd,args:= #[]}] .returning W':=
   ⟨by simp,.inl ⟨Dd,_,rfl,run_takeDeferred hD.2.2.1,v,ba,v,rfl,Ec.below,g'.St,_,Ec.fY,fun b o h=>(Ec.cG b o h).1.imp (fun h=>h) fun h1=>⟨h1,(Ec.cG b o h).2.2⟩,bc⟩⟩
  rcases hx with rfl|rfl<;>exact ab9
 show(Code.block id (.rangeFunc zJ #[ps] assign body)).wpIn Fence.wide 0 P _ a1 w1
 refine wpIn_block (VC (hh:=hh) hm bO qe je (cU.pD aff) bF zu gV I X h0 CQ ?_)
 intro x db w' g' Dd na dP bh Eb _ _
 cases x with
 |normal=>
  have hb:=hB db na dP
  refine HX (r:=none) hm B bh hb fun x e' a' W' g' SP hx=>?_
  cases x with
  |normal=>exact fin .normal e' a' W' g' Dd SP Eb (.inl rfl) hx
  |ret=>exact fin .ret e' a' W' g' Dd SP Eb (.inr rfl) hx
  |exit i=>exact hx.elim
 |exit i=>exact absurd (hX (.exit i) db (by simp) na dP).1 (by simp)
 |ret=>
  obtain⟨_,pz⟩:=hX .ret db (by simp) na dP
  exact fin .ret _ _ _ _ Dd bh Eb (.inr rfl) pz
theorem aaO(hm:P.follows .mixedOrders =true){f:FuncId}{fn:Func}{c:Code}{cap:List SV}{L:List D}(hf:P.funcs[f]? =some fn)(hb:fn.body=some c)(hE:lQ P f)(y5:fn.results= #[])
  (hc:∀(C:su P gl),C.L=L→SV.gn cap→IW C 0 c (fun x e log q=>(x=.normal ∨x=.ret)∧(q=none→log=L)) (enter fn.ntmps (.d (.fn (.yield C.l))::cap)) [] none):Iter P gl f cap L:=by
 refine⟨hE,fun w St l vs nt oO hlen eI J aca CQ hJ0=>?_⟩
 let C:su P gl:=⟨w.heap.size,St,l,L,J,nt,aca,CQ⟩
 have acb:∀(i:Nat)x v,(SV.d (.fn (.yield l))::cap)[i]? =some x→(#[Value.func (.yield l) #[] #[]]++vs)[i]? =some v→aJ w St w.heap.size (fun _ _ _=>False) x v:=by
  intro i x v hx hv
  cases i with
  |zero=>
   simp at hx hv
   subst hx
   simp[Array.getElem?_append]at hv
   subst hv
   exact .d _ _ _ (.fn _)
  |succ i=>
   rw[List.getElem?_cons_succ]at hx
   rw[Array.getElem?_append_right (by simp)]at hv
   simp only[List.size_toArray,List.length_cons,List.length_nil,Nat.zero_add,Nat.add_sub_cancel]at hv
   exact eI i x v hx hv
 have aef:(SV.d (.fn (.yield l))::cap).length =(#[Value.func (.yield l) #[] #[]]++vs).size :=by simp[hlen];omega
 have hI:=IF (gl:=gl) (fn:=fn) nt oO aef acb
 have bC:SV.gn cap:=by
  rw[SV.kC]
  intro x hx
  obtain⟨i,hi,rfl⟩:=List.mem_iff_getElem.1 hx
  exact(eI i _ (vs[i]'(by omega)) (by simp) (by simp)).wf
 have hH:C.qo (enter fn.ntmps (.d (.fn (.yield l))::cap)) [] none {tmps:=(#[Value.func (.yield l) #[] #[]]++vs)++Array.replicate (fn.ntmps-(#[Value.func (.yield l) #[] #[]]++vs).size) undef,defers:=[]} w:=
  ⟨fun _=>False,⟨St,[],fun _=>none⟩,⟨⟨w,rfl,hI⟩,fun b hm=>by simp at hm,fun b p ho=>by simp at ho,fun b o hs=>.inr hs,fun b h=>h.elim⟩,hJ0⟩
 have hw:=hc C rfl bC _ _ hH
 refine(callsIn_wide (n:=0)).1 (callsIn_of_wp hf hb trivial (wpIn_mono hw ?_))
 rintro x a' W' ⟨xx,e',log,q,rfl,⟨Fr,g',hS,hJ⟩,hx,hq⟩
 obtain⟨w0,h0,bh⟩:=hS.inv
 have ba:(results fn a'.tmps).run P W'=.ok (.tuple #[]) W':=by
  have:=B2 (P:=P) (fn:=fn) (tmps:=a'.tmps) (w:=W') (vs:=[]) (by rw[y5];simp)
  exact this
 have pz:a'.defers=[]∧∃v,(results fn a'.tmps).run P W'=.ok v W'∧((∃v',Ending.returned v=.returned v')∧∃Fr cK pre q,J q Fr cK pre W'∧(q=none→pre=L)):=
  ⟨bh.defers,_,ba,⟨_,rfl⟩,Fr,g'.St,log,q,hJ,hq⟩
 rcases hx with rfl|rfl<;>exact pz
end
end Go.Proofs.Ytimbllcalipehaa.Ab
set_option linter.unusedVariables false
set_option linter.unusedSimpArgs false
namespace Go.Proofs.Ytimbllcalipehaa.Ab
open Go Go.RowKit
section
variable{P:Program}{gl:Nat→Option D}{hh:Hints}
theorem Wr(hm:P.follows .mixedOrders =true){f:FuncId}{fn:Func}{c:Code}{args:List SV}{r:SV}(hf:P.funcs[f]? =some fn)(hb:fn.body=some c)(hE:lQ P f){QA:Ex→Env→Prop}
  (h:cj args (aw P gl (aD P gl) hh c (fun x e=>(x=.normal ∨x=.ret)∧QA x e) (enter fn.ntmps args)))
  (fin:∀(w:World)(St:Nat→Nat→Prop)x e' a' w' g',Inv gl w (qI St) e' a' w' g'→QA x e'→∃v,(results fn a'.tmps).run P w'=.ok v w'∧∃bE ow,(∀b o,St b o→bE b o)∧(∀b o,bE b o→St b o∨(w.heap.size≤b∧b<w'.heap.size))∧uW w.heap.size w' bE ow r v)(ha:lV args=none:=by rfl):aD P gl f args r:=by
 rw[x9 ha]
 refine⟨hE,fun w St vs nt oO hlen eI=>?_⟩
 have bC:SV.gn args:=by
  rw[SV.kC]
  intro x hx
  obtain⟨i,hi,rfl⟩:=List.mem_iff_getElem.1 hx
  exact(eI i _ (vs[i]'(by omega)) (by simp) (by simp)).wf
 have hI:=IF (fn:=fn) nt oO hlen eI
 refine calls_of_wp hf hb (tg hm c hI (h bC) fun x e' a' w' g' bh hk=>?_)
 obtain⟨hx,hk⟩:=hk
 obtain⟨v,ba,bE,ow,h1,h2,h3⟩:=fin w St x e' a' w' g' bh hk
 have:a'.defers=[]∧∃v,(results fn a'.tmps).run P w'=.ok v w'∧(∃v',(Ending.returned v)=.returned v'∧Below w.heap.size w w'∧∃bE ow,(∀b o,St b o→bE b o)∧
  (∀b o,bE b o→St b o∨(w.heap.size≤b∧b<w'.heap.size))∧uW w.heap.size w' bE ow r v'):=⟨bh.defers,v,ba,v,rfl,bh.below,bE,ow,h1,h2,h3⟩
 rcases hx with rfl|rfl<;>exact this
theorem Ya(hm:P.follows .mixedOrders =true){f:FuncId}{fn:Func}{c:Code}{args:List SV}(hf:P.funcs[f]? =some fn)(hb:fn.body=some c)(hE:lQ P f){t b it:Nat}{x:D}(iA:x.one=true)(y5:fn.results= #[.tmp t])
  (h:cj args (aw P gl (aD P gl) hh c (fun ex e=>(ex=.normal ∨ex=.ret)∧(e.ai[t]? =some (.c (.func it) [] [.p b 0])∧e.boxes[b]? =some (.cells [.d x]))) (enter fn.ntmps args)))(ha:lV args=none:=by rfl):aD P gl f args (.dg (.func it) [] [.aT x 0]):=by
 refine Wr hm hf hb hE h (ha:=ha) fun w St ex e' a' w' g' hI⟨hs,dt⟩=>?_
 have hr:=hI.ai t _ hs
 have ba:(results fn a'.tmps).run P w'=.ok (a'.tmps.getD t undef) w':=by
  have:=B2 (P:=P) (fn:=fn) (tmps:=a'.tmps) (w:=w') (vs:=[a'.tmps.getD t undef]) (by rw[y5];simp[yf])
  exact this
 refine⟨_,ba,?_⟩
 generalize a'.tmps.getD t undef=v at hr
 cases hr with
 |c _ _ _ _ fv cv np cY rf rc=>
  have vU:fv= #[]:=Array.eq_empty_of_size_eq_zero (by simpa using np.symm)
  subst vU
  have oP:cv[0]? =some (cv[0]'(by simp at cY;omega)):=by simp
  have hp:=rc 0 _ _ rfl oP
  generalize cv[0]'(by simp at cY;omega)=u at hp oP
  cases hp with
  |p _ _ _ an dh=>
   obtain⟨q0,cs,ty,q1,q2,q3,q4⟩:=hI.boxes b _ an dt dh
   have rV:cs[0]? =some (cs[0]'(by simp at q3;omega)):=by simp
   have bc:=(q4 0 _ _ rfl rV).data
   generalize cs[0]'(by simp at q3;omega)=y at rV bc
   have cg:(x.cells)=[x]:=D.wI iA
   refine⟨fun b' o=>g'.St b' o∨(b'=an∧o=0),fun _=>none,fun b' o h=>.inl (hI.fY b' o h),fun b' o h=>?_,?_⟩
   ·rcases h with h|⟨rfl,_⟩
    ·have:=hI.cG b' o h
     exact this.1.imp (fun h=>h) fun h1=>⟨h1,this.2.2⟩
    ·exact .inr (hI.dj b' (List.mem_of_getElem? dh))
   ·show aJ w' _ 0 _ (.dg (.func it) [] [.aT x 0]) _
    refine .dg _ _ _ _ #[] cv rfl (by simpa using cY) (fun i x v h=>by simp at h) (fun i z v' hz gA=>?_)
    cases i with
    |succ i=>simp at hz
    |zero=>
     simp at hz;subst hz
     rw[oP]at gA;cases gA
     refine .aT _ x 0 an 0 (fun _=>y) (fun c hc=>by rw[cg]at hc;rw[List.mem_singleton.1 hc];exact iA) (fun i hi=>?_) (fun i c hc=>?_)
     ·rw[cg]at hi
      have:i=0:=by simp at hi;omega
      subst this
      refine⟨?_,.inr ⟨rfl,rfl⟩⟩
      rw[cell_of_row w' an (0+0) cs ty (0,0) q1];exact rV
     ·rw[cg]at hc
      cases i with
      |succ i=>simp at hc
      |zero=>simp at hc;subst hc;exact bc.mono fun b' o h=>⟨.inl h,rfl⟩
end
end Go.Proofs.Ytimbllcalipehaa.Ab
set_option linter.unusedVariables false
set_option linter.unusedSimpArgs false
namespace Go.Proofs.Ytimbllcalipehaa.Ab
open Go Go.RowKit
def K1(rs:List SV):SV:=match rs with
 |[r]=>r
 |rs=>.aL rs
theorem tL.ph{w:World}{St:Nat→Nat→Prop}{O O':Nat→Nat→Nat→Nat→Prop}:∀{rs:List SV}{v:Value},tL w St O rs v→(∀j b a c,O j b a c→O' j b a c)→tL w St O' rs v
 |[r],v,hr,h=>aJ.ph (show aJ w St 0 (O 1) r v from hr) fun b a c ho=>h _ b a c ho
 |[],v,hr,h=>by
  obtain⟨us,h1,h2,h3⟩:=hr
  exact⟨us,h1,h2,fun j x y hx hy=>by simp at hx⟩
 |r1::r2::l,v,hr,h=>by
  obtain⟨us,h1,h2,h3⟩:=hr
  exact⟨us,h1,h2,fun j x y hx hy=>(h3 j x y hx hy).ph fun b a c ho=>h _ b a c ho⟩
section
variable{P:Program}{gl:Nat→Option D}{hh:Hints}
theorem VX{P:Program}{n:Nat}{c:Code}{Q:Exit→Act→World→Prop}{a:Act}{w:World}(h:(Cs c).wpIn Fence.wide n P (Exit.noGoto Q) a w):c.wpIn Fence.wide n P Q a w:=by
 have key:∀c':Code,c'.wpIn Fence.wide n P (Exit.noGoto Q) a w→c'.wpIn Fence.wide n P Q a w:=fun c' h=>wpIn_mono h fun e a w hq=>by
  cases e<;>first|exact hq|exact hq.elim
 cases c with
 |scope c'=>exact wpIn_wide.2 (wp_scope_straight (wpIn_wide.1 h))
 |_=>exact key _ h
theorem N9(hm:P.follows .mixedOrders =true){f:FuncId}{fn:Func}{c c':Code}{gs:List ib}{args:List SV}{p:Nat}{rs:List SV}{bk:SV}(hf:P.funcs[f]? =some fn)(hb:fn.body=some c)(dm:∀{Q:Exit→Act→World→Prop}{a:Act}{w:World},c'.wpIn Fence.wide 0 P (Exit.noGoto Q) a w→c.wpIn Fence.wide 0 P Q a w)(hE:lQ P f)(zx:SV.gM args=true){QA:Ex→Env→Prop}
  (h:cj args (aw P gl (aD P gl) hh c' (fun x e=>(x=.normal ∨x=.ret)∧gO gs e (QA x)) (enter fn.ntmps args)))
  (fin:∀(w w':World)(St:Nat→Nat→Prop)(vs:Array Value)(w0:World)(aq:S0)x e' a' g',w0.heap.size=0→Inv gl w0 aq e' a' w' g'→QA x e'→
    (∀t,t∉cF [] c'→a'.tmps.getD t undef=(vs++Array.replicate (fn.ntmps-vs.size) undef).getD t undef)→(∀b o,St b o→g'.St b o∧n0 w w' b o)→
    (∀x y,args[p]? =some x→vs[p]? =some y→aJ w St 0 (fun _ _ _=>False) (aa x) y)→args.length=vs.size→
    ∃v,∃ow:Nat→Option Nat,(results fn a'.tmps).run P w'=.ok v w'∧(∀b,ow b≠none→g'.ow b≠none)∧
     tL w' g'.St (fun j b a c=>ow b=some j∧(∃cur e,w'.heap[b]? =some (.cells cur e (0,0))∧cur.size=c)∧∀o,a≤o→¬g'.St b o) rs v∧
     ∀y,vs[p]? =some y→aJ w' g'.St 0 (fun b a c=>ow b=some 0∧(∃cur e,w'.heap[b]? =some (.cells cur e (0,0))∧cur.size=c)∧∀o,a≤o→¬g'.St b o) bk y):JR P gl f args p rs bk:=by
 refine⟨hE,zx,fun w St A vs nt hA oO hlen eI=>?_⟩
 have bC:SV.gn args:=by
  rw[SV.kC]
  intro x hx
  obtain⟨i,hi,rfl⟩:=List.mem_iff_getElem.1 hx
  exact(eI i _ (vs[i]'(by omega)) (by simp) (by simp)).wf
 let w0:World:={w with heap:= #[]}
 have h0:w0.heap.size=0:=rfl
 let aq:S0:={St:=St,df:=fun D o=>A D=none∧w.heap[D]? =some o,cl:=fun b o v=>St b o∧w.cell? ⟨b,o,none⟩=some v,sz:=w.heap.size}
 let g:Gh:=⟨St,[],fun b=>(A b).map fun i=>Pos.s i 0⟩
 have hI:Inv gl w0 aq (enter fn.ntmps args) {tmps:=vs++Array.replicate (fn.ntmps-vs.size) undef,defers:=[]} w g:=by
  refine⟨⟨rfl,rfl,rfl,by rw[h0];exact Nat.zero_le _,fun k hk=>by rw[h0]at hk;omega⟩,by simp[enter,hlen],fun i s hs=>?_,rfl,fun b bx an h1=>by simp[enter]at h1,fun i j an h1=>by simp[g]at h1,fun _ _ h=>h,fun b o hb=>⟨.inl hb,by simp[g],nt b o hb⟩,fun b hb=>by simp[g]at hb,oO,rfl,fun D o hD=>⟨by simp[g],by simp[g,hD.1],hD.2,fun x hx=>hx⟩,fun b o v hv=>hv,Nat.le_refl _⟩
  simp only[enter]at hs
  rw[List.getElem?_append]at hs
  split at hs
  ·rename_i hi
   simp only[List.length_map]at hi
   simp only[List.getElem?_map,Option.map_eq_some_iff]at hs
   obtain⟨x,hx,rfl⟩:=hs
   have D4:i<vs.size:=by omega
   have:=eI i x vs[i] hx (by simp)
   have jF:(vs++Array.replicate (fn.ntmps-vs.size) undef).getD i undef=vs[i]:=by
    simp[Array.getElem?_append,D4]
   rw[jF]
   refine .v _ _ _ (this.ph fun b a' c' ho=>?_)
   obtain⟨o1,o2,o3⟩:=ho
   exact⟨by simp[g,o1],by rw[h0];exact Nat.zero_le _,by simp[g],o2,o3⟩
  ·have:=(List.mem_replicate.1 (List.mem_of_getElem? hs)).2
   subst this
   exact .v _ _ _ (.undef _ _)
 refine(callsIn_wide (n:=0)).1 (callsIn_of_wp hf hb trivial ?_)
 refine dm ?_
 have hk:=pW (r:=none) (n:=0) (ds:=[]) (Q:=Exit.noGoto (bodyPost P fn (fun e w'=>∃v,e=.returned v∧w'.os=w.os∧w'.tape=w.tape∧w'.output=w.output∧w.heap.size≤w'.heap.size∧(∀b,b<w.heap.size→A b=none→w'.heap[b]? =w.heap[b]?)∧
  ∃bE ow,(∀b o,St b o→bE b o∧n0 w w' b o)∧(∀b o,bE b o→St b o∨((w.heap.size≤b∨A b≠none)∧b<w'.heap.size))∧
   tL w' bE (XO w.heap.size A w' bE ow) rs v∧∀y,vs[p]? =some y→aJ w' bE 0 (XO w.heap.size A w' bE ow 0) bk y))) hm c' hI (h bC) ?_
 ·rw[yH rfl]at hk
  exact hk
 rintro x e1 a' w' g1 cU ⟨hx,hq⟩ fG
 obtain⟨e',g',bh,hq⟩:=As cU hq
 rw[yH bh.defers]
 have qe:∀b,b<w.heap.size→A b=none→w'.heap[b]? =w.heap[b]? ∧g'.ow b=none∧∀o,g'.St b o→St b o:=fun b hb uv=>by
  have:=bh.eR b (w.heap[b]'hb) ⟨uv,by simp⟩
  exact⟨by rw[this.2.2.1];simp,this.2.1,this.2.2.2⟩
 have C4:∀b o,St b o→g'.St b o∧n0 w w' b o:=fun b o hs=>by
  refine⟨bh.fY b o hs,?_⟩
  cases uv:A b with
  |none=>exact .ri (qe b (nt b o hs) uv).1
  |some i=>
   obtain⟨cur,te,h1,h2⟩:=hA b i uv
   have ho:o<cur.size:=Nat.lt_of_not_le fun hle=>h2 o hle hs
   have hc:w.cell? ⟨b,o,none⟩=some cur[o]:=by
    have:=cell_of_row w b o cur te (0,0) h1
    rw[this];simp[ho]
   exact⟨(bh.cls b o _ ⟨hs,hc⟩).2.trans hc.symm,fun es cl Dq=>by rw[h1]at Dq;cases Dq⟩
 obtain⟨v,ow,ba,qH,hr,DP⟩:=fin w w' St vs w0 aq x e' a' g' h0 bh hq fG C4 (fun x y hx hy=>(eI p x y hx hy).aa) hlen
 have je:∀{j b a' c'},(ow b=some j∧(∃cur e,w'.heap[b]? =some (.cells cur e (0,0))∧cur.size=c')∧∀o,a'≤o→¬g'.St b o)→XO w.heap.size A w' g'.St ow j b a' c':=fun{j b a' c'}ho=>by
  refine⟨ho.1,?_,ho.2.1,ho.2.2⟩
  rcases Nat.lt_or_ge b w.heap.size with hb|hb
  ·refine .inr fun uv=>?_
   exact qH b (by rw[ho.1];simp) (qe b hb uv).2.1
  ·exact .inl hb
 have A8:a'.defers=[]∧∃v,(results fn a'.tmps).run P w'=.ok v w'∧(∃v',(Ending.returned v)=.returned v'∧w'.os=w.os∧w'.tape=w.tape∧w'.output=w.output∧w.heap.size≤w'.heap.size∧(∀b,b<w.heap.size→A b=none→w'.heap[b]? =w.heap[b]?)∧
   ∃bE ow,(∀b o,St b o→bE b o∧n0 w w' b o)∧(∀b o,bE b o→St b o∨((w.heap.size≤b∨A b≠none)∧b<w'.heap.size))∧
    tL w' bE (XO w.heap.size A w' bE ow) rs v'∧∀y,vs[p]? =some y→aJ w' bE 0 (XO w.heap.size A w' bE ow 0) bk y):=by
  refine⟨bh.defers,v,ba,v,rfl,bh.below.os,bh.below.tape,bh.below.output,bh.jH,fun b hb uv=>(qe b hb uv).1,g'.St,ow,C4,fun b o hs=>?_,?_,fun y hy=>(DP y hy).ph fun b a c ho=>je ho⟩
  ·have aK:=(bh.cG b o hs).2.2
   rcases Nat.lt_or_ge b w.heap.size with hb|hb
   ·cases uv:A b with
    |none=>exact .inl ((qe b hb uv).2.2 o hs)
    |some i=>exact .inr ⟨.inr (by simp),aK⟩
   ·exact .inr ⟨.inl hb,aK⟩
  ·exact tL.ph hr fun j b a c ho=>je ho
 rcases hx with rfl|rfl<;>exact A8
theorem ON(hm:P.follows .mixedOrders =true){f:FuncId}{args:List SV}{p:Nat}{y:SV}{rs:List SV}(hE:lQ P f)(zx:SV.gM args=true)(hp:args[p]? =some y)(ht:∀r∈rs,u4 r=false)
  (jd:body P gl (aD P gl) hh f args fun x=>x=K1 rs):aD P gl f (qj p args) (.aL (aa y::rs)):=by
 rw[Jm]
 unfold body at jd
 split at jd
 ·rename_i fn hf
  split at jd
  ·rename_i c hb
   refine N9 (hh:=hh) (gs:=[]) (c':=c) hm hf hb (fun h=>wpIn_mono h fun e a w hq=>by cases e<;>first|exact hq|exact hq.elim) hE zx (QA:=fun x e=>finish P fn e fun x=>x=K1 rs) (fun bC=>?_) ?_
   ·refine k8 _ ?_ (jd bC)
    intro x e hx
    cases x with
    |normal=>exact⟨.inl rfl,hx⟩
    |ret=>exact⟨.inr rfl,hx⟩
    |exit i=>exact hx.elim
   ·intro w w' St vs w0 aq x e' a' g' h0 bh hq fG C4 hold hlen
    obtain⟨r',v,iS,ba,bc⟩:=Ii bh hq
    subst iS
    refine⟨v,fun b=>(vb g' fn.results.toList b).map (· +1),ba,fun b hb hn=>hb ?_,?_,fun y' oM=>?_⟩
    ·simp[vb,hn]
    ·have hO:∀j b a c,vr w0.heap.size w' g'.St (vb g' fn.results.toList) j b a c→(vb g' fn.results.toList b).map (· +1)=some (j+1)∧(∃cur e,w'.heap[b]? =some (.cells cur e (0,0))∧cur.size=c)∧∀o,a≤o→¬g'.St b o:=fun j b a c ho=>⟨by rw[ho.1];rfl,ho.2.2.1,ho.2.2.2⟩
     unfold tL
     match rs,ht,bc with
     |[r],ht,bc=>
      have hr:uW w0.heap.size w' g'.St (vb g' fn.results.toList) r v:=bc
      have htr:=ht r (by simp)
      cases r with
      |aL l=>cases htr
      |_=>exact aJ.ph hr fun b a c ho=>hO 0 b a c ho
     |[],_,bc=>
      obtain⟨us,h1,h2,h3⟩:=bc
      exact⟨us,h1,h2,fun j x y hx hy=>by simp at hx⟩
     |r1::r2::l,_,bc=>
      obtain⟨us,h1,h2,h3⟩:=bc
      exact⟨us,h1,h2,fun j x y hx hy=>(h3 j x y hx hy).ph fun b a c ho=>hO j b a c ho⟩
    ·exact(hold y y' hp oM).mono C4 (fun b o hb=>by omega) _ (fun _ _ _ h=>h.elim)
  ·exact jd.elim
 ·exact jd.elim
theorem ES(hm:P.follows .mixedOrders =true){f:FuncId}{args:List SV}{p:Nat}{bk:SV}(hE:lQ P f)(zx:SV.gM args=true)(hp:p<args.length)(DP:bk≠.undef)
  (jd:AT P gl (aD P gl) hh p f args fun x=>x=bk):aD P gl f (qj p args) (.aL [bk]):=by
 rw[Jm]
 unfold AT at jd
 split at jd
 ·rename_i fn hf
  split at jd
  ·rename_i c hb
   cases um:fn.results.isEmpty&& !(cF [] (Cs c)).contains p with
   |false=>rw[um]at jd;exact jd.elim
   |true=>
    rw[um]at jd
    simp only[cond_true]at jd
    simp only[Bool.and_eq_true,Array.isEmpty_iff,Bool.not_eq_true',List.contains_eq_mem,decide_eq_false_iff_not]at um
    refine N9 (hh:=hh) (gs:=kD hh.gh 3000000) (c':=Cs c) hm hf hb VX hE zx (QA:=fun x e=>(e.ai.getD p (.v .undef)).bP =bk) (fun bC=>?_) ?_
    ·refine k8 _ ?_ (jd bC)
     intro x e hx
     cases x with
     |normal=>exact⟨.inl rfl,hx⟩
     |ret=>exact⟨.inr rfl,hx⟩
     |exit i=>exact hx.elim
    ·intro w w' St vs w0 aq x e' a' g' h0 bh hq fG C4 hold hlen
     have ba:(results fn a'.tmps).run P w'=.ok (.tuple #[]) w':=by
      have:=B2 (P:=P) (fn:=fn) (tmps:=a'.tmps) (w:=w') (vs:=[]) (by rw[um.1];simp)
      exact this
     refine⟨_,fun b=>if g'.ow b=some (.s p 0)then some 0 else none,ba,fun b hb hn=>hb (by show(if g'.ow b=some (.s p 0)then some 0 else none)=none;rw[hn];simp),⟨#[],rfl,rfl,fun j x y hx hy=>by simp at hx⟩,fun y hy=>?_⟩
     have hs:bW w0.heap.size w' g' (fe w0.heap.size w' g' p) (e'.ai.getD p (.v .undef)) (a'.tmps.getD p undef):=jQ bh p
     have jF:(vs++Array.replicate (fn.ntmps-vs.size) undef).getD p undef=y:=by
      have hpv:=(Array.getElem?_eq_some_iff.1 hy)
      obtain⟨h1,h2⟩:=hpv
      simp[Array.getElem?_append,h1,h2]
     rw[fG p um.2,jF]at hs
     cases jI:e'.ai.getD p (.v .undef)with
     |v x=>
      rw[jI]at hs hq
      have hx:x=bk:=hq
      subst hx
      have:=hs.jT
      rw[h0]at this
      refine this.ph fun b a c ho=>⟨by show(if g'.ow b=some (.s p 0)then some 0 else none)=some 0;rw[if_pos ho.1],ho.2.2.2.1,ho.2.2.2.2⟩
     |_=>rw[jI]at hq;exact absurd hq.symm DP
  ·exact jd.elim
 ·exact jd.elim
end
end Go.Proofs.Ytimbllcalipehaa.Ab
set_option linter.unusedVariables false
set_option linter.unusedSimpArgs false
namespace Go.Proofs.Ytimbllcalipehaa.Ab
open Go Go.RowKit
def w6:List Slot→List Slot→Prop
 |[],[]=>True
 |s::l,t::m=>(s=.v .undef ∨∃x,t=.v x∧s=.v (aa x))∧w6 l m
 |_,_=>False
theorem Pv:∀{l m:List Slot},w6 l m→l.length=m.length
 |[],[],_=>rfl
 |s::l,t::m,h=>by simp[Pv h.2]
 |[],_::_,h=>h.elim
 |_::_,[],h=>h.elim
theorem Pw:∀{l m:List Slot},w6 l m→∀(i:Nat)s,l[i]? =some s→s=.v .undef ∨∃x,m[i]? =some (.v x)∧s=.v (aa x)
 |[],[],_,i,s,h=>by simp at h
 |s::l,t::m,h,0,s',h'=>by
  simp at h';subst h'
  rcases h.1 with h1|⟨x,rfl,h1⟩
  ·exact .inl h1
  ·exact .inr ⟨x,rfl,h1⟩
 |s::l,t::m,h,i+1,s',h'=>by simpa using Pw h.2 i s' (by simpa using h')
 |[],_::_,h,_,_,_=>h.elim
 |_::_,[],h,_,_,_=>h.elim
section
variable{P:Program}{gl:Nat→Option D}{n:Nat}{e:Env}{C:su P gl}{log:List D}{q:Option Unit}
theorem IW.AZ{c:Code}{Q:Ex→Env→List D→Option Unit→Prop}{sh:List Slot}(hw:w6 sh e.ai)(h:IW C n c Q ⟨sh,[]⟩ log q):IW C n c Q e log q:=fun a W hH=>by
 refine h a W ?_
 obtain⟨Fr,g,hS,hJ⟩:=hH
 obtain⟨w0,h0,hI⟩:=hS.inv
 refine⟨Fr,g.cut 0,⟨⟨w0,h0,?_⟩,fun b hm=>by simp[Gh.cut]at hm,hS.ow,hS.st,hS.fr⟩,hJ⟩
 refine⟨hI.below,by rw[hI.size,Pv hw],fun i s hi=>?_,by simp[Gh.cut],fun b bx an h1=>by simp at h1,fun i j an h1=>by simp[Gh.cut]at h1,hI.fY,fun b o hs=>⟨(hI.cG b o hs).1,by simp[Gh.cut],(hI.cG b o hs).2.2⟩,fun b hm=>by simp[Gh.cut]at hm,hI.ke,hI.defers,fun D o hD=>hD.elim,fun b o v hv=>hv.elim,hI.jH⟩
 rcases Pw hw i s hi with rfl|⟨x,he,rfl⟩
 ·exact .v _ _ _ (.undef _ _)
 ·exact .v _ _ _ (hI.ai i _ he).jT.aa
end
end Go.Proofs.Ytimbllcalipehaa.Ab
