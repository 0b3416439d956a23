/-
  THE ROW: a law's call, from its contract.
-/
import Derived.Test.YtimbllcalipehaaTc
import Derived.ControlIn
import Derived.OrdersIn
import Derived.TacticsIn
import Derived.RangeFuncCalls
import Derived.RangeFuncNested
import Derived.RangeFuncRecord
import Derived.LoopNIn
import Derived.Scope
import Derived.SizedLaws
set_option linter.unusedVariables false
set_option linter.unusedSimpArgs false
namespace Go.Proofs.Ytimbllcalipehaa.Ab
open Go Go.RowKit Go.ChangeShapes Go.WideShapes
section
variable{H:Type}{enc:TypeId×Value→H}{P:Program}{W:World}{L:List Nat}
theorem Wi(hL:xK P L=true){W':World}(hb:Below W.heap.size W W'):∀{ts:List TypeId}{vs:List Value}{ds:List (DataW H)}{ps:List MemPlace},(∀t∈ts,t∈L)→
  DataW.TrodAll enc P W 0 (fun _=>true) true ts vs ds ps→(∀p∈ps,p.block<W.heap.size)→DataW.TrodAll enc P W' 0 (fun b=>decide (b<W.heap.size)) true ts vs ds ps
 |[],[],[],_,_,h,_=>h
 |t::ts,v::vs,d::ds,_,fL,⟨p,q,⟨fuel,hf⟩,h2,e⟩,aP=>by
  subst e
  refine⟨p,q,⟨fuel,?_⟩,Wi hL hb (fun t ht=>fL t (List.mem_cons_of_mem _ ht)) h2 (fun x hx=>aP x (List.mem_append_right _ hx)),rfl⟩
  exact DataW.trod_stays (aeo hL) (fun ht hu=>afk hL ht hu) (fun h=>by cases h) (fL t List.mem_cons_self) hf (fun x hx=>hb.same (aP x (List.mem_append_left _ hx))) (fun x hx=>by simpa using aP x (List.mem_append_left _ hx))
theorem afm{gl:Nat→Option D}{fid:FuncId}{f:Func}{s:ChangeSpec}{args:Array Value}{ds gs:List (DataW H)}{before:List MemPlace}{tb:TypeId}{St:Nat→Nat→Prop}{MQ:List SV}
  (hH:aF P gl fid MQ (.d (.bool true)))(hL:xK P L=true)(fL:∀t∈f.params.toList,t∈L)(wG:s.vars=[])
  (hW:DataW.Whole enc P f.params.toList s.vars false W args.toList ds gs before)
  (np:(s.fn H (ds++gs)).results =[.lit (.bool true)])(sV:(s.fn H (ds++gs)).args =ds)(Aw:(s.fn H (ds++gs)).vars =[])
  (Ds:f.resultTypes= #[tb])(UG:P.underlying tb=some .bool)
  (bc:∀b o,St b o→b<W.heap.size)(hG:zx gl W St)(hlen:MQ.length=args.size)
  (bG:∀(i:Nat)x v,MQ[i]? =some x→args[i]? =some v→aR W St W.heap.size (fun _ _ _=>False) x v):
  Calls P fid args W fun e W'=>∃v,e=.returned v∧s.post enc P f false true false false W args v W':=by
 rw[CD (ahb (O:=fun _ _ _ _=>False) hlen bG)]at hH
 refine(hH.2 W St args bc hG hlen bG).mono ?_
 rintro e W' ⟨v,rfl,hb,cq,ow,_,_,hr⟩
 refine⟨v,rfl,?_⟩
 have hv:v=.bool true:=by
  have:=aR.data (show aR W' cq 0 (zY W.heap.size W' cq ow 0) (.d (.bool true)) v from hr)
  cases this
  rfl
 subst hv
 have aP:=hW.lt
 refine⟨ds,gs,before,[],before,[],hW,?_,?_,?_,World.keptBut_mono (fun p hp=>⟨hp,.inr (.inl hp)⟩) (hb.frame _),fun h=>by cases h⟩
 ·rw[np,Ds]
  exact trodAll_cons_mk (shut_bool UG _) trodAll_mk0
 ·rw[sV]
  obtain⟨p,q,hA,hV,rfl,_,_⟩:=hW
  rw[wG]at hV
  have:q=[]:=by
   cases gs with
   |nil=>exact hV
   |cons _ _=>exact hV.elim
  subst this
  rw[List.append_nil]at aP ⊢
  exact Wi hL hb fL hA aP
 ·rw[Aw,wG]
  rfl
theorem ai9{St:Nat→Nat→Prop}{ps:List MemPlace}{x:D}{v:Value}{base:Nat}{O:Nat→Nat→Nat→Prop}(h:bp W (FE ps) x v)(hs:∀b o,MemPlace.cell b o∈ps→St b o):aR W St base O (.d x) v:=
 .d _ _ _ (h.mono fun b o hb=>⟨hs b o hb,rfl⟩)
end
def ob{α β:Type}(o:Option α)(k:α→Option β):Option β:=match o with|some x=>k x|none=>none
section
variable(P:Program)(gl:Nat→Option D)(call:FuncId→List SV→Option SV)
variable{P gl call}{C:bu}(hC:∀f args r,call f args=some r→C f args r)
include hC
end
def Pt{X:Type}(T:(X→Prop)→Prop):Prop:=∀Q,T Q→∃x,Q x∧∀Q',Q' x→T Q'
section
variable{X Y α:Type}
theorem Pt.false:Pt (fun _:X→Prop=>False):=fun _ h=>h.elim
theorem Pt.pure(x:X):Pt (fun Q:X→Prop=>Q x):=fun _ h=>⟨x,h,fun _ h'=>h'⟩
theorem Pt.ab{o:Option α}{T:α→(X→Prop)→Prop}(h:∀x,Pt (T x)):Pt (fun Q=>ab o fun x=>T x Q):=by
 intro Q hq
 cases o with
 |none=>exact hq.elim
 |some x=>exact h x Q hq
theorem Pt.ar{x:SV}{A B:(X→Prop)→Prop}(hA:Pt A)(hB:Pt B):Pt (fun Q=>ar x (A Q) (B Q)):=by
 intro Q hq
 obtain⟨b,rfl,h1,h2⟩:=EI hq
 cases b with
 |true=>exact hA Q (h1 rfl)
 |false=>exact hB Q (h2 rfl)
theorem Pt.and{p:Prop}{A:(X→Prop)→Prop}(hA:Pt A):Pt (fun Q=>p∧A Q):=by
 intro Q ⟨hp,hq⟩
 obtain⟨x,h1,h2⟩:=hA Q hq
 exact⟨x,h1,fun Q' h=>⟨hp,h2 Q' h⟩⟩
theorem Pt.ex{T:α→(X→Prop)→Prop}(h:∀a,Pt (T a)):Pt (fun Q=>∃a,T a Q):=by
 intro Q ⟨a,hq⟩
 obtain⟨x,h1,h2⟩:=h a Q hq
 exact⟨x,h1,fun Q' h=>⟨a,h2 Q' h⟩⟩
theorem Pt.cond{b:Bool}{A B:(X→Prop)→Prop}(hA:Pt A)(hB:Pt B):Pt (fun Q=>cond b (A Q) (B Q)):=by
 intro Q hq
 cases b with
 |true=>exact hA Q hq
 |false=>exact hB Q hq
theorem Pt.seq{T:(Y→Prop)→Prop}{S:Y→(X→Prop)→Prop}(hT:Pt T)(hS:∀y,Pt (S y)):Pt (fun Q=>T fun y=>S y Q):=by
 intro Q hq
 obtain⟨y,h1,h2⟩:=hT _ hq
 obtain⟨x,h3,h4⟩:=hS y Q h1
 exact⟨x,h3,fun Q' h=>h2 _ (h4 Q' h)⟩
theorem Pt.Dt{β:Type}{T:(α→β→Prop)→Prop}{S:α→β→(X→Prop)→Prop}(hT:Pt (fun Q:α×β→Prop=>T fun a b=>Q (a,b)))(hS:∀a b,Pt (S a b)):Pt (fun Q=>T fun a b=>S a b Q):=by
 intro Q hq
 obtain⟨y,h1,h2⟩:=hT (fun y=>S y.1 y.2 Q) hq
 obtain⟨x,h3,h4⟩:=hS y.1 y.2 Q h1
 exact⟨x,h3,fun Q' h=>h2 (fun y=>S y.1 y.2 Q') (h4 Q' h)⟩
end
section
variable{P:Program}{gl:Nat→Option D}{C:bu}{h:Hints}{X:Type}
theorem ahu{f:FuncId}{args:List SV}{T:SV→(X→Prop)→Prop}(hT:∀r,Pt (T r)):Pt (fun Q=>aU C f args fun r=>T r Q):=
 Pt.ex fun r=>Pt.and (Pt.and (hT r))
theorem RO:∀(n:Nat){T:List SV→(X→Prop)→Prop},(∀l,Pt (T l))→Pt (fun Q=>B8 n fun l=>T l Q)
 |0,_,hT=>hT []
 |n+1,_,hT=>Pt.ex fun r=>RO n fun l=>hT (r::l)
theorem Lu{n:Nat}{aG:List af}{f:FuncId}{args:List SV}:Pt (fun Q:Slot×List af→Prop=>sd C n aG (fun s b=>Q (s,b)) f args):=by
 unfold sd
 split
 ·exact ahu fun r=>Pt.pure _
 ·exact RO _ fun l=>Pt.and (Pt.pure _)
theorem ZS{sz dh:Nat}{x y:SV}{T:SV→(X→Prop)→Prop}(hT:∀r,Pt (T r)):Pt (fun Q=>cb sz dh x y fun r=>T r Q):=
 Pt.ab fun r=>Pt.and (hT r.1)
theorem Xx{agg:Bool}{sz b off:Nat}{aG:List af}:Pt (fun Q:Slot×List af→Prop=>uH agg sz b off aG fun s b=>Q (s,b)):=by
 unfold uH
 cases aG[b]? with
 |none=>exact Pt.false
 |some x=>
  cases x with
  |none=>exact Pt.false
  |map l=>exact Pt.false
  |cells cs=>exact Pt.ab fun x=>Pt.pure _
  |one s=>
   refine Pt.cond Pt.false ?_
   cases off with
   |zero=>exact Pt.pure _
   |succ n=>exact Pt.false
theorem aeq{sz b off:Nat}{x:Slot}{aG:List af}{T:List af→(X→Prop)→Prop}(hT:∀r,Pt (T r)):Pt (fun Q=>xB sz b off x aG fun b=>T b Q):=by
 unfold xB
 cases aG[b]? with
 |none=>exact Pt.false
 |some y=>
  cases y with
  |none=>exact Pt.false
  |map l=>exact Pt.false
  |cells cs=>
   cases x with
   |v y=>exact Pt.ab fun l=>Pt.and (Pt.and (hT _))
   |t _=>exact Pt.false
   |_=>
    dsimp only
    split
    ·exact hT _
    ·exact Pt.false
  |one s=>
   dsimp only
   split
   ·cases x with
    |v y=>exact Pt.ab fun l=>Pt.and (hT _)
    |t _=>exact Pt.false
    |_=>exact hT _
   ·exact Pt.false
theorem akK{id:Nat}{o:Oper}{ρ:Operand→Slot}{aG:List af}:Pt (fun Q:Slot×List af→Prop=>dR P C id o ρ aG fun s b=>Q (s,b)):=by
 unfold dR
 cases o.op
 case move x=>exact Pt.pure _
 case assign x=>exact Pt.pure _
 case pick c a b=>
  dsimp only
  cases ρ c with
  |v x=>exact Pt.ar (Pt.pure _) (Pt.pure _)
  |_=>exact Pt.false
 case alloc t=>
  dsimp only
  split
  ·exact Pt.ab fun z=>Pt.pure _
  ·exact Pt.false
 case box t x=>
  dsimp only
  split
  ·refine Pt.ab fun sz=>?_
   cases ρ x with
   |v y=>exact Pt.ab fun l=>Pt.and (Pt.pure _)
   |t _=>exact Pt.false
   |_=>
    dsimp only
    split
    ·exact Pt.pure _
    ·exact Pt.false
  ·exact Pt.false
 case build t ps=>exact Pt.ab fun l=>Pt.ab fun r=>Pt.pure _
 case buildSlice t n ps=>exact Pt.ab fun e=>Pt.ab fun ly=>Pt.ab fun z=>Pt.ab fun l=>Pt.cond (Pt.and (Pt.pure _)) Pt.false
 case load t a=>
  refine Pt.ab fun ly=>?_
  cases ρ a with
  |p b off=>exact Xx
  |v x=>exact Pt.ab fun y=>Pt.pure _
  |_=>exact Pt.false
 case store t a x=>
  refine Pt.ab fun sz=>?_
  cases ρ a with
  |p b off=>
   cases o.dst with
   |none=>exact aeq fun r=>Pt.pure _
   |some _=>exact Pt.false
  |_=>exact Pt.false
 case nilCheck x=>
  dsimp only
  cases ρ x with
  |v y=>exact Pt.ab fun z=>Pt.pure _
  |t _=>exact Pt.false
  |c f first cap=>
   cases f with
   |func _=>exact Pt.pure _
   |method name=>
    dsimp only
    split
    ·exact Pt.ab fun _=>Pt.pure _
    ·exact Pt.false
   |_=>exact Pt.false
  |p b off=>exact Pt.pure _
  |a _ _ _=>exact Pt.false
  |m _=>exact Pt.false
 case binOp op t x y _=>exact Pt.ab fun r=>Pt.pure _
 case unOp op _ x=>exact Pt.ab fun r=>Pt.pure _
 case convert src dst x=>exact Pt.cond (Pt.ab fun r=>Pt.pure _) Pt.false
 case makeInterface t x=>exact Pt.cond Pt.false (Pt.ab fun r=>Pt.pure _)
 case makeFunc fn first cap=>exact Pt.pure _
 case slice t x lo hi mx=>exact Pt.ab fun r=>Pt.pure _
 case fieldAddr t x f=>
  refine Pt.ab fun fd=>Pt.ab fun sz=>Pt.cond Pt.false ?_
  cases ρ x with
  |p b off=>exact Pt.pure _
  |v y=>exact Pt.ab fun z=>Pt.pure _
  |_=>exact Pt.false
 case field t x f=>exact Pt.ab fun fd=>Pt.ab fun ly=>Pt.ab fun r=>Pt.pure _
 case indexAddr t x i=>
  dsimp only
  split
  ·refine Pt.ab fun sz=>?_
   cases ρ x with
   |a b n=>exact Pt.ab fun j=>Pt.pure _
   |_=>exact Pt.ab fun r=>Pt.pure _
  ·refine Pt.ab fun sz=>Pt.ab fun j=>?_
   cases ρ x with
   |p b off=>exact Pt.pure _
   |v y=>exact Pt.ab fun z=>Pt.pure _
   |_=>exact Pt.false
  ·exact Pt.false
 case index t x i=>
  dsimp only
  split
  ·exact Pt.ab fun ly=>Pt.ab fun r=>Pt.pure _
  ·exact Pt.ab fun r=>Pt.pure _
  ·exact Pt.false
 case extract x i=>
  dsimp only
  cases ρ x with
  |t vs=>
   dsimp only
   split
   ·exact Pt.pure _
   ·exact Pt.false
  |_=>exact Pt.false
 case lookup t m x Ua=>
  dsimp only
  cases Ua with
  |true=>exact Pt.ab fun et=>Pt.ab fun z=>Pt.ab fun r=>Pt.pure (X:=Slot×List af) (Slot.t [.d r.1,.d (.bool r.2)],aG)
  |false=>exact Pt.ab fun et=>Pt.ab fun z=>Pt.ab fun r=>Pt.pure (X:=Slot×List af) (Slot.v (.d r.1),aG)
 case makeSlice t n c=>exact Pt.ab fun e=>Pt.ab fun sz=>Pt.ab fun dh=>Pt.ab fun z=>Pt.cond (Pt.ab fun m=>Pt.and (Pt.pure _)) Pt.false
 case makeMap t hn=>
  dsimp only
  split
  ·exact Pt.pure _
  ·exact Pt.false
 case mapUpdate t m x y=>
  refine Pt.ab fun et=>?_
  split
  ·split
   ·exact Pt.ab fun n=>Pt.ab fun d=>Pt.ab fun l'=>Pt.pure _
   ·exact Pt.false
  ·exact Pt.false
 case call c=>
  dsimp only
  cases c.callee with
  |value f=>
   dsimp only
   cases ρ f with
   |v x=>
    dsimp only
    unfold withFn
    split
    ·exact Lu
    ·exact Lu
    ·exact Pt.false
   |c g first cap=>
    cases g with
    |func g=>exact Lu
    |_=>exact Pt.false
   |_=>exact Pt.false
  |invoke f name=>
   dsimp only
   cases ρ f with
   |v x=>
    dsimp only
    unfold Bk
    split
    ·exact Pt.ab fun f=>Lu
    ·exact Pt.false
   |_=>exact Pt.false
  |builtin b=>
   dsimp only
   split
   ·rename_i x xs t ts _ _
    cases ρ x with
    |a b n=>exact Pt.cond (Pt.pure _) Pt.false
    |_=>exact Pt.ab fun r=>Pt.pure _
   ·exact Pt.cond (Pt.ab fun e=>Pt.ab fun sz=>Pt.ab fun dh=>Pt.ab fun z=>Pt.cond (ZS fun r=>Pt.pure _) Pt.false) Pt.false
   ·exact Pt.ab fun r=>Pt.pure _
   ·exact Pt.ab fun r=>Pt.pure _
   ·exact Pt.false
 all_goals exact Pt.false
theorem ahv{o:Oper}{e:Env}:Pt (fun Q=>om P gl C o e Q):=by
 unfold om
 split
 ·exact Pt.pure _
 ·exact Pt.pure _
 ·split
  ·split
   ·exact Pt.pure _
   ·exact Pt.false
  ·exact Pt.false
 ·split
  ·refine Pt.ab fun ly=>Pt.cond Pt.false ?_
   split
   ·exact Pt.ab fun x=>Pt.pure _
   ·exact Pt.false
  ·exact Pt.false
 ·split
  ·refine Pt.ab fun sz=>Pt.cond ?_ Pt.false
   split
   ·exact Pt.ab fun l=>Pt.and (Pt.and (Pt.pure _))
   ·exact Pt.false
  ·exact Pt.false
 ·exact Pt.ab fun e'=>Pt.ab fun ly=>Pt.ab fun z=>Pt.ab fun l=>Pt.cond (Pt.and (Pt.pure _)) Pt.false
 ·split
  ·exact Pt.cond (Pt.ab fun e'=>Pt.ab fun sz=>Pt.ab fun dh=>Pt.ab fun z=>Pt.cond (ZS fun r=>Pt.pure _) Pt.false) Pt.false
  ·split
   ·split
    ·exact RO _ fun rs=>Pt.ex fun bk=>Pt.and (Pt.and (Pt.pure _))
    ·exact Pt.false
   ·exact Pt.false
  ·exact Pt.false
 ·exact Pt.false
theorem aja{id:Nat}{aI:Bool}{o:Oper}{e:Env}:Pt (fun Q=>qH P gl C id aI o e Q):=by
 unfold qH
 cases aI with
 |true=>exact ahv
 |false=>exact Pt.Dt (X:=Env) (S:=fun(r:Slot)(aG:List af)(Q:Env→Prop)=>Q ⟨de e.ak o.dst r,aG⟩) akK fun a b=>Pt.pure (X:=Env) _
theorem agj{all:List Oper}{o:Oper}{e:Env}{A B:Env→(X→Prop)→Prop}(hA:∀e,Pt (A e))(hB:∀e,Pt (B e)):Pt (fun Q=>C1 all o e (fun e=>A e Q) (fun e=>B e Q)):=by
 unfold C1
 split
 ·exact hA e
 ·rename_i j want _
  split
  ·split
   ·cases want with
    |true=>exact Pt.ar (hA _) (hB _)
    |false=>exact Pt.ar (hB _) (hA _)
   ·exact hB e
   ·exact Pt.false
  ·exact Pt.false
theorem EK{aI:Nat→Bool}{all:List Oper}{base:Nat}:∀(l:List Oper)(i:Nat)(e:Env),Pt (fun Q=>jb P gl C aI all base l i e Q)
 |[],i,e=>by unfold jb;exact Pt.pure _
 |o::rest,i,e=>by
  unfold jb
  exact agj (fun e=>Pt.seq aja fun e=>EK rest (i+1) e) (fun e=>EK rest (i+1) _)
theorem akL{e:Env}{x:jo}:Pt (fun Q:Env→Prop=>gU e Q x):=by
 cases x with
 |box t sz=>
  simp only[gU]
  split
  ·rename_i x _
   unfold ij
   cases x<;>first|exact Pt.pure _|exact Pt.false|exact Pt.and (Pt.pure _)
  ·exact Pt.false
 |mX t ts=>
  simp only[gU]
  split
  ·split
   ·exact Pt.cond (Pt.ab fun ds=>Pt.and (Pt.pure _)) Pt.false
   ·exact Pt.false
  ·split
   ·exact Pt.cond (Pt.pure _) Pt.false
   ·exact Pt.false
  ·exact Pt.pure _
  ·exact Pt.false
 |jP t agg sz ts=>
  simp only[gU]
  split
  ·split
   ·exact Pt.cond (Pt.ab fun ds=>Pt.ab fun L=>Pt.pure _) Pt.false
   ·exact Pt.false
  ·exact Pt.pure _
  ·exact Pt.false
 |emp t=>
  simp only[gU]
  split
  ·exact Pt.ab fun y=>Pt.pure _
  ·exact Pt.false
 |kF t=>
  simp only[gU]
  split
  ·exact Pt.ab fun y=>Pt.pure _
  ·exact Pt.false
 |tV t ts=>
  simp only[gU]
  split
  ·split
   ·split
    ·exact Pt.cond (Pt.pure _) Pt.false
    ·exact Pt.false
   ·exact Pt.false
  ·exact Pt.false
theorem LQ:∀(l:List jo)(e:Env),Pt (fun Q:Env→Prop=>iL l e Q)
 |[],e=>by unfold iL;exact Pt.pure _
 |x::l,e=>by unfold iL;exact Pt.seq (X:=Env) (S:=fun(e':Env)(Q:Env→Prop)=>iL l e' Q) akL fun e'=>LQ l e'
theorem ahw{e:Env}{c:Operand}{A B:Env→(X→Prop)→Prop}(hA:∀e,Pt (A e))(hB:∀e,Pt (B e)):Pt (fun Q=>sg e c (fun e=>A e Q) (fun e=>B e Q)):=by
 unfold sg
 split
 ·split
  ·exact Pt.ar (hA _) (hB _)
  ·exact Pt.false
 ·exact Pt.cond (hA _) (hB _)
 ·exact Pt.false
theorem ahx{F:(X→Prop)→List SV→List (List SV)→(List SV→List (List SV)→Prop)→Prop}
  (hF:∀vs bs,Pt (fun Q:(List SV×List (List SV)) ⊕ X→Prop=>F (fun x=>Q (.inr x)) vs bs fun v b=>Q (.inl (v,b))))(vs:List SV)(bs:List (List SV)):Pt (fun Q=>bZ (F Q) vs bs):=by
 intro Q hq
 refine hq (fun vs bs=>∃x,Q x∧∀Q',Q' x→bZ (F Q') vs bs) fun vs bs jt=>?_
 obtain⟨y,h1,h2⟩:=hF vs bs (fun y=>match y with| .inl p=>∃x,Q x∧∀Q',Q' x→bZ (F Q') p.1 p.2| .inr x=>Q x) jt
 cases y with
 |inl p=>
  obtain⟨x,hx,hl⟩:=h1
  refine⟨x,hx,fun Q' wP I hI=>hI _ _ ?_⟩
  exact h2 (fun y=>match y with| .inl p=>I p.1 p.2| .inr x=>Q' x) (hl Q' wP I hI)
 |inr x=>
  refine⟨x,h1,fun Q' wP I hI=>hI _ _ ?_⟩
  exact h2 (fun y=>match y with| .inl p=>I p.1 p.2| .inr x=>Q' x) wP
theorem Y5{key:Nat}{c:Code}{e:Env}{T:(Ex→Env→Prop)→Prop}(hT:Pt (fun Q:Ex×Env→Prop=>T fun x e=>Q (x,e))):Pt (fun Q:Ex×Env→Prop=>uN h key c e (fun x e=>Q (x,e)) T):=by
 unfold uN
 generalize qz h.fI key=kk
 obtain⟨vars,consts⟩:=kk
 cases vars<;>cases consts
 ·exact hT
 all_goals
  refine Pt.cond ?_ Pt.false
  unfold sj
  refine Pt.Dt (T:=T) (S:=fun(x:Ex)(e':Env)(Q:Ex×Env→Prop)=>match x with| .normal =>Q (Ex.normal,_)| .exit i=>Q (Ex.exit i,e')| .ret =>Q (Ex.ret,e')) hT fun x e'=>?_
  cases x<;>exact Pt.pure _
theorem ahy{X:Type}{e:Env}{s:Spec}{T:Env→(X→Prop)→Prop}(hT:∀e,Pt (T e)):Pt (fun Q:X→Prop=>ig P C e (fun e'=>T e' Q) s):=by
 cases s with
 |At t d ty=>
  unfold ig
  dsimp only
  split
  ·refine Pt.cond ?_ Pt.false
   exact Pt.ab fun y=>hT _
  ·exact Pt.false
 |cut t d1 d2 ty=>
  unfold ig
  dsimp only
  split
  ·refine Pt.cond ?_ Pt.false
   exact Pt.ab fun y=>hT _
  ·exact Pt.false
 |zV t d f u=>
  unfold ig
  dsimp only
  split
  ·refine Pt.cond ?_ Pt.false
   exact Pt.ex fun bk=>Pt.and (Pt.and (hT _))
  ·exact Pt.false
 |zI t d t2 d2 f u=>
  unfold ig
  dsimp only
  split
  ·refine Pt.cond ?_ Pt.false
   exact Pt.ex fun bk=>Pt.and (Pt.and (hT _))
  ·exact Pt.false
 |push t u d1 d2 d3 d4 ty=>
  unfold ig
  dsimp only
  split
  ·refine Pt.cond ?_ Pt.false
   unfold BD
   exact Pt.ab fun n=>Pt.ab fun r=>Pt.and (Pt.and (hT _))
  ·exact Pt.false
 |uT t i j d1 d2 d3 d4 d5 d6 qM nM qN b=>
  unfold ig
  dsimp only
  split
  ·refine Pt.cond ?_ Pt.false
   unfold zJ
   split
   ·exact Pt.ab fun i=>Pt.ab fun L=>Pt.ab fun j=>hT _
   ·exact Pt.false
  ·exact Pt.false
theorem aaU{X:Type}{e:Env}{F:(X→Prop)→Prop}(hF:Pt F):∀T:List Nat,Pt (fun Q:X→Prop=>Au e (F Q) T)
 |[]=>hF
 |_::T=>Pt.and (aaU hF T)
theorem ahz{X:Type}{m0 m1:Nat}{T:List Nat}{ops:List Oper}{aI:Nat→Bool}{e:Env}{F:Env→(X→Prop)→Prop}(hF:∀e,Pt (F e)):Pt (fun Q:X→Prop=>sn P gl C m0 m1 T ops aI e (fun e'=>F e' Q)):=by
 unfold sn
 refine Pt.seq (X:=X) (S:=fun e1 Q=>jb P gl C aI ops 0 ((ops.drop m0).take m1) m0 (tJ e1) fun e2=>Au e2 (jb P gl C aI ops e.boxes.length ((ops.drop m0).drop m1) (m0+m1) (uV (((ops.drop m0).take m1).filterMap (·.dst)) T e1 e2) fun e'=>F e' Q) T) (EK _ _ _) fun e1=>?_
 refine Pt.seq (X:=X) (S:=fun e2 Q=>Au e2 (jb P gl C aI ops e.boxes.length ((ops.drop m0).drop m1) (m0+m1) (uV (((ops.drop m0).take m1).filterMap (·.dst)) T e1 e2) fun e'=>F e' Q) T) (EK _ _ _) fun e2=>?_
 refine aaU ?_ T
 exact Pt.seq (X:=X) (S:=fun e' Q=>F e' Q) (EK _ _ _) hF
theorem ajb{id:Nat}{ops:Array Oper}{draw:Bool}{e:Env}{T:Env→(Ex×Env→Prop)→Prop}(hT:∀e,Pt (T e)):Pt (fun Q:Ex×Env→Prop=>pb P gl C h id ops draw e (fun e'=>T e' Q)):=by
 unfold pb
 refine Pt.cond ?_ Pt.false
 have MR:∀e,Pt (fun Q:Ex×Env→Prop=>iL (ku h.gh (4000000+id)) e (fun e'=>T e' Q)):=fun e=>Pt.seq (X:=Ex×Env) (S:=fun e' Q=>T e' Q) (LQ _ _) hT
 cases E7 h.gh id with
 |some mT=>
  refine Pt.seq (X:=Ex×Env) (S:=fun(e1:Env)(Q:Ex×Env→Prop)=>bif CU ops draw (!draw||o0 (sf h id) ops) mT.1 mT.2.1 mT.2.2 then sn P gl C mT.1 mT.2.1 mT.2.2 ops.toList (sf h id) e1 (fun e2=>iL (ku h.gh (4000000+id)) e2 fun e'=>T e' Q)else False) (LQ _ _) fun e1=>?_
  exact Pt.cond (ahz (F:=fun e2 Q=>iL (ku h.gh (4000000+id)) e2 fun e'=>T e' Q) MR) Pt.false
 |none=>
 refine Pt.seq (X:=Ex×Env) (S:=fun(e1:Env)(Q:Ex×Env→Prop)=>match zy P (C2 h.gh id) draw ops.toList with
  |some s=>ig P C e1 (fun e2=>iL (ku h.gh (4000000+id)) e2 fun e'=>T e' Q) s
  |none=>EH P gl C (sf h id) ops.toList e1 (zU P gl C (!draw||o0 (sf h id) ops) ops (sf h id) e1 fun e2=>iL (ku h.gh (4000000+id)) e2 fun e'=>T e' Q)) (LQ _ _) fun e1=>?_
 cases zy P (C2 h.gh id) draw ops.toList with
 |some s=>exact ahy MR
 |none=>
  refine Pt.seq (X:=Ex×Env) (S:=fun(e:Env)(Q:Ex×Env→Prop)=>zU P gl C (!draw||o0 (sf h id) ops) ops (sf h id) e1 (fun e2=>iL (ku h.gh (4000000+id)) e2 fun e'=>T e' Q) e) (EK _ _ _) fun e=>?_
  cases (!draw||o0 (sf h id) ops)
  ·exact Pt.and (MR _)
  ·exact MR _
theorem Dc:∀(c:Code)(e:Env),Pt (fun Q:Ex×Env→Prop=>aw P gl C h c (fun x e=>Q (x,e)) e)
 | .skip,e=>by unfold aw;exact Pt.pure _
 | .region id ops draw,e=>by
   unfold aw
   exact Y5 (ajb (T:=fun e(Q:Ex×Env→Prop)=>Q (Ex.normal,e)) fun e=>Pt.pure _)
 | .seq a b,e=>by
   unfold aw
   refine Pt.Dt (T:=fun(k:Ex→Env→Prop)=>aw P gl C h a k e) (S:=fun(x:Ex)(e':Env)(Q:_→Prop)=>match x with| .normal =>aw P gl C h b (fun x e=>Q (x,e)) e'| .exit i=>Q (Ex.exit i,e')| .ret =>Q (Ex.ret,e')) (Dc a e) fun x e'=>?_
   cases x with
   |normal=>exact Dc b e'
   |exit i=>exact Pt.pure _
   |ret=>exact Pt.pure _
 | .cond c a b,e=>by
   unfold aw
   exact Y5 (ahw (fun e=>Dc a e) (fun e=>Dc b e))
 | .block id b,e=>by
   unfold aw
   refine Pt.Dt (T:=fun(k:Ex→Env→Prop)=>aw P gl C h b k e) (S:=fun(x:Ex)(e':Env)(Q:_→Prop)=>match x with| .normal =>Q (Ex.normal,e')| .exit i=>bif i==id then Q (Ex.normal,e')else Q (Ex.exit i,e')| .ret =>Q (Ex.ret,e')) (Dc b e) fun x e'=>?_
   cases x with
   |normal=>exact Pt.pure _
   |exit i=>exact Pt.cond (Pt.pure _) (Pt.pure _)
   |ret=>exact Pt.pure _
 | .loop b,e=>by
   unfold aw
   refine Pt.cond ?_ Pt.false
   refine ahx (F:=fun(Q:Ex×Env→Prop)vs bs I=>aw P gl C h b (fun x e'=>match x with| .normal =>I (xS e' (qz h.fI (pI b)).1) (xH e.boxes.length e')| .exit i=>Q (Ex.exit i,e')| .ret =>Q (Ex.ret,e'))
    ⟨vH (qz h.fI (pI b)).1 (qz h.fI (pI b)).2 vs e.ak 0,vI bs e.boxes 0⟩) (fun vs bs=>?_) _ _
   refine Pt.Dt (T:=fun(k:Ex→Env→Prop)=>aw P gl C h b k _) (S:=fun(x:Ex)(e':Env)(Q:_→Prop)=>match x with| .normal =>Q (Sum.inl (xS e' (qz h.fI (pI b)).1,xH e.boxes.length e'))| .exit i=>Q (Sum.inr (Ex.exit i,e'))| .ret =>Q (Sum.inr (Ex.ret,e'))) (Dc b _) fun x e'=>?_
   cases x<;>exact Pt.pure _
 | .exit id,e=>by unfold aw;exact Pt.pure _
 | .ret,e=>by unfold aw;exact Pt.pure _
 | .scope _,e=>by unfold aw;exact Pt.false
 | .rangeFunc ..,e=>by unfold aw;exact Pt.false
 | .label ..,e=>by unfold aw;exact Pt.pure _
 | .goto ..,e=>by unfold aw;exact Pt.false
 | .refuse ..,e=>by unfold aw;exact Pt.false
theorem ZT{e:Env}{used:List Nat}{r:ResultVar}{T:SV→(X→Prop)→Prop}(hT:∀r,Pt (T r)):Pt (fun Q=>Dk P e used r fun x=>T x Q):=by
 unfold Dk
 cases r with
 |tmp t=>
  dsimp only
  split
  ·exact Pt.and (hT _)
  ·exact Pt.false
 |cell a t=>
  dsimp only
  refine Pt.ab fun ly=>?_
  split
  ·refine Pt.Dt (S:=fun(s:Slot)(_:List af)Q=>match s with| .v x=>x.aA=true∧T x Q|_=>False) Xx fun s b=>?_
   cases s with
   |v x=>exact Pt.and (hT x)
   |_=>exact Pt.false
  ·exact Pt.false
theorem Y6{e:Env}:∀(l:List ResultVar)(used:List Nat){T:List SV→(X→Prop)→Prop},(∀r,Pt (T r))→Pt (fun Q=>C8 P e used l fun x=>T x Q)
 |[],used,T,hT=>by unfold C8;exact hT []
 |r::l,used,T,hT=>by
  unfold C8
  exact ZT fun x=>Y6 l _ fun xs=>hT (x::xs)
theorem agk{fn:Func}{e:Env}:Pt (fun K:SV→Prop=>finish P fn e K):=by
 unfold finish
 split
 ·exact ZT fun x=>Pt.pure x
 ·exact Y6 _ _ fun xs=>Pt.pure _
theorem ajc{f:FuncId}{args:List SV}(br:SV.iQ args):Pt (fun K:SV→Prop=>body P gl C h f args K):=by
 unfold body
 cases P.funcs[f]? with
 |none=>exact Pt.false
 |some fn=>
  dsimp only
  cases fn.body with
  |none=>exact Pt.false
  |some c=>
   have:Pt (fun K:SV→Prop=>aw P gl C h c (fun x e=>match x with| .normal =>finish P fn e K| .ret =>finish P fn e K| .exit _=>False) (enter fn.ntmps args)):=by
    refine Pt.Dt (T:=fun(k:Ex→Env→Prop)=>aw P gl C h c k _) (S:=fun(x:Ex)(e:Env)K=>match x with| .normal =>finish P fn e K| .ret =>finish P fn e K| .exit _=>False) (Dc c _) fun x e=>?_
    cases x with
    |exit i=>exact Pt.false
    |_=>exact agk
   intro Q hq
   obtain⟨x,h1,h2⟩:=this Q (hq br)
   exact⟨x,h1,fun Q' h _=>h2 Q' h⟩
end
theorem agl{P:Program}{gl:Nat→Option D}{f:FuncId}{args:List SV}{r:SV}(hE:oX P f)(hw:¬SV.iQ args)(ha:pc args=none:=by rfl):aF P gl f args r:=by
 rw[CD ha]
 refine⟨hE,fun w St vs qX pq hlen gi=>absurd ?_ hw⟩
 rw[SV.mO]
 intro x hx
 obtain⟨i,hi,rfl⟩:=List.mem_iff_getElem.1 hx
 exact(gi i _ (vs[i]'(by omega)) (by simp) (by simp)).wf
theorem K0{P:Program}{gl:Nat→Option D}{h:Hints}(hm:P.follows .mixedOrders =true){f:FuncId}{args:List SV}{Q:SV→Prop}(hE:oX P f)(hQ:∃r,Q r)(hh:body P gl (aF P gl) h f args Q)(ha:pc args=none:=by rfl):∃r,Q r∧aF P gl f args r:=by
 by_cases hw:SV.iQ args
 ·obtain⟨r,h1,h2⟩:=ajc hw Q hh
  exact⟨r,h1,cz hm hE (h2 _ rfl) ha⟩
 ·obtain⟨r,hr⟩:=hQ
  exact⟨r,hr,agl hE hw ha⟩
def FW(r:Option Nat):Fence:={Fence.wide with round:=r}
theorem ajd(l:Nat):FW (some l)=Fence.wide.inRound l:=rfl
section
variable{P:Program}{gl:Nat→Option D}{ops:Array Oper}{aI:Nat→Bool}{base:Nat}{r:Option Nat}{n:Nat}{ds:List Deferred}
def wd(a:Act)(ds:List Deferred):Act:={a with defers:=ds}
theorem HT(a:Act)(ds:List Deferred)(dst:Option Tmp)(v:Value):(wd a ds).put dst v=wd (a.put dst v) ds:=by cases dst<;>rfl
theorem C4{a:Act}(h:a.defers=[]):wd a []=a:=by cases a;simp only at h;subst h;rfl
theorem aje(a:Act)(ds:List Deferred):(wd a ds).eval =a.eval:=funext fun x=>by cases x<;>rfl
theorem ajf{o:Oper}{a:Act}{next:Act→World→Prop}{Q:Exit→Act→World→Prop}{x:Result Next}
  (h:o.upon P a (fun a1 w1=>a1.defers=[]∧next (wd a1 ds) w1) (fun x a1 w1=>Q x (wd a1 ds) w1) x):o.uponIn (FW r) n P (wd a ds) next Q x:=by
 cases x with
 |ok nx w'=>
  cases nx with
  |enter f args=>
   refine⟨fun h=>(by cases h),?_⟩
   have h1:CallsIn Fence.wide (n-1) P f args w' _:=callsIn_wide.2 h
   refine CallsIn.mono (F:=FW r) h1 fun e w2 he=>?_
   cases e with
   |returned v=>show next ((wd a ds).put o.dst v) w2;rw[HT];exact he.2
   |panicked ch=>exact he
   |outgrown=>obtain⟨b1,b2,b3⟩:=he;exact⟨wd b1 ds,b2,b3⟩
  |row row args=>
   refine⟨fun h=>(by cases h),fun c cs _=>?_⟩
   obtain⟨v,w2,h1,h2⟩:=h c cs
   exact⟨v,w2,by show next ((wd a ds).put o.dst v) w2;rw[HT];exact h1.2,stepsIn_wide.2 h2⟩
  |value v=>rw[Oper.uponIn_value,HT];exact h.2
  |skip=>rw[Oper.uponIn_skip,HT];exact h.2
  |defer d=>
   obtain⟨h1,_⟩:=h
   rw[put_defers]at h1
   cases h1
  |_=>exact h.elim
 |halt x w'=>cases x<;>first|exact h|exact h.elim
theorem ZU{o:Oper}{a:Act}{w:World}{next:Act→World→Prop}{Q:Exit→Act→World→Prop}(oC:∀c,o.op≠.defer c)
  (h:o.wp P a w (fun a1 w1=>a1.defers=[]∧next (wd a1 ds) w1) (fun x a1 w1=>Q x (wd a1 ds) w1)):o.wpIn (FW r) n P (wd a ds) w next Q:=by
 refine⟨fun _ _=>trivial,?_⟩
 have hs:o.semAt (FW r).round (wd a ds).eval =execOp a.eval o:=by
  rw[aje]
  cases r with
  |none=>rfl
  |some l=>exact Oper.semAt_some l _ o oC
 rw[hs]
 exact ajf h
theorem afn{C:bu}{id:Nat}{l:Bool}{o:Oper}{e:Env}{k:Env→Prop}(h:qH P gl C id l o e k):∀c,o.op≠.defer c:=by
 intro c hc
 unfold qH at h
 cases l with
 |true=>simp only[cond_true,om,hc]at h
 |false=>simp only[cond_false,dR,hc]at h
theorem K1{w0:World}{au:S0}{e:Env}{a:Act}{w:World}{g:Gh}(hI:Inv gl w0 au e a w g){i id:Nat}{l:Bool}{o:Oper}(ho:ops[i]? =some o){k:Env→Prop}
  (h:pO P gl (aF P gl) ops.toList id l o e k){next:Act→World→Prop}{Q:Exit→Act→World→Prop}(hn:∀e' v w' g',Inv gl w0 au e' (a.put o.dst v) w' g'→k e'→next (wd (a.put o.dst v) ds) w'):wpOpIn (FW r) n P ops Q i next (wd a ds) w:=by
 have h':=CA.1 h
 unfold wpOpIn
 simp only[ho]
 split at h'
 ·rename_i hg
  rw[if_pos (show Region.wanted o (yielded ops (wd a ds).tmps)=true from Ez hI hg)]
  exact ZU (afn h') (Qc hI h' _ _ fun e' v w' g' hinv hk=>⟨hinv.defers,hn e' _ w' g' hinv hk⟩)
 ·rename_i hg
  rw[if_neg (by rw[show Region.wanted o (yielded ops (wd a ds).tmps)=false from Ez hI hg];simp)]
  refine⟨fun _ _=>trivial,?_⟩
  rw[HT]
  exact hn _ _ _ _ (QF hI o.dst) h'
 ·exact h'.elim
theorem Lv{w0:World}{au:S0}{K:Env→Prop}{Q:Exit→Act→World→Prop}{a0:Act}(hQ:∀e a w g,Inv gl w0 au e a w g→K e→ga ops.toList a0 a→Q .normal (wd a ds) w):∀(fuel:Nat)(bS:Array Bool)(e:Env)(a:Act)(w:World)(g:Gh),
  Inv gl w0 au e a w g→ga ops.toList a0 a→a.tmps.size=a0.tmps.size→yv P gl ops aI base K fuel bS e→wpAnyIn (FW r) n P .any ops Q fuel bS (wd a ds) w
 |0,_,e,a,w,g,hI,eE,_,h=>⟨h.1,hQ e a w g hI h.2 eE⟩
 |fuel+1,_,e,a,w,g,hI,eE,mr,h=>⟨fun h0=>hQ e a w g hI (h.1 h0) eE,fun i hi=>by
   obtain⟨o,ho,hs⟩:=h.2 i hi
   exact K1 hI ho hs fun e' v w' g' hinv hk=>Lv hQ fuel _ e' _ w' g' hinv (eE.put (by simpa using Array.mem_of_getElem? ho) mr v) (by rw[tn,mr]) hk⟩
theorem Yh{w0:World}{au:S0}{K:Env→Prop}{Q:Exit→Act→World→Prop}{a0:Act}(hQ:∀e a w g,Inv gl w0 au e a w g→K e→ga ops.toList a0 a→Q .normal (wd a ds) w):∀(l:List Oper)(i:Nat)(e:Env)(a:Act)(w:World)(g:Gh),
  (∀j,l[j]? =ops[i+j]?)→Inv gl w0 au e a w g→ga ops.toList a0 a→a.tmps.size=a0.tmps.size→jb P gl (aF P gl) aI ops.toList base l i e K→wpOpsIn (FW r) n P ops Q (List.range' i l.length) (wd a ds) w
 |[],_,e,a,w,g,_,hI,eE,_,h=>hQ e a w g hI h eE
 |o::l,i,e,a,w,g,hl,hI,eE,mr,h=>by
  have h0:ops[i]? =some o:=by simpa using(hl 0).symm
  rw[List.length_cons,List.range'_succ,wpOpsIn_cons]
  rw[Bm]at h
  exact K1 hI h0 h fun e' v w' g' hinv hk=>Yh hQ l (i+1) e' _ w' g' (fun j=>by have:=hl (j+1);simpa[Nat.add_assoc,Nat.add_comm 1 j]using this) hinv (eE.put (by simpa using Array.mem_of_getElem? h0) mr v) (by rw[tn,mr]) hk
theorem aer{w0:World}{au:S0}{e:Env}{a:Act}{w:World}{g:Gh}(hI:Inv gl w0 au e a w g){id:Nat}{draw:Bool}{K:Env→Prop}{Q:Exit→Act→World→Prop}(hm:P.follows .mixedOrders =true)
  (h:EH P gl (aF P gl) aI ops.toList e (zU P gl (aF P gl) (!draw||o0 aI ops) ops aI e K))(hQ:∀e a' w g,Inv gl w0 au e a' w g→K e→ga ops.toList a a'→Q .normal (wd a' ds) w):(Code.region id ops draw).wpIn (FW r) n P Q (wd a ds) w:=by
 unfold EH at h
 cases eC:(!draw||o0 aI ops)with
 |false=>
  rw[eC]at h
  obtain⟨e',Dr,hK⟩:=PW _ _ _ h
  have hd:draw=true:=by cases draw<;>simp_all
  subst hd
  refine wpIn_region_any hm ?_
  have cF:=(hI.Hd (gm ops.toList ops.toList.length)).drew
  have:=PV (P:=P) (gl:=gl) (aI:=aI) (K:=fun x=>x=e') _ 0 (Array.replicate ops.size false) _ (fun j=>by simp[Array.getElem?_replicate];split<;>rfl) (by simp) (fun j o ho hl=>by
   have hj:j<ops.size:=(Array.getElem?_eq_some_iff.1 ho).1
   simp[hj]at hl) ⟨w0,au,a,_,_,cF⟩ Dr
  have h2:=Lv (r:=r) (n:=n) (Q:=Q) (K:=fun x=>x=e') (fun e1 a1 w1 g1 hinv hk=>hQ e1 a1 w1 g1 hinv (by rw[hk];exact hK)) _ _ _ _ _ _ cF (ga.refl _ _) rfl this
  simpa using h2
 |true=>
 rw[eC]at h
 replace h:jb P gl (aF P gl) aI ops.toList e.boxes.length ops.toList 0 ⟨e.ak,e.boxes++List.replicate (gm ops.toList ops.toList.length) .none⟩ K:=h
 have bD:=hI.Hd (gm ops.toList ops.toList.length)
 cases draw with
 |false=>
  refine wpIn_region ?_
  have:=Yh (r:=r) (n:=n) (base:=e.boxes.length) (aI:=aI) hQ ops.toList 0 _ a w _ (fun j=>by simp) bD (ga.refl _ _) rfl h
  rw[List.range_eq_range']
  simpa using this
 |true=>
  simp only[Bool.not_true,Bool.false_or]at eC
  refine wpIn_region_any hm ?_
  have cF:=bD.drew
  have aN:(Array.replicate ops.size false).size =ops.size:=by simp
  have JC:=hI.Sl (ops:=ops) (gm ops.toList ops.toList.length) rfl
  obtain⟨E,wN,eC⟩:∃E,Js ops aI e.boxes.length _ E (Array.replicate ops.size false) ⟨e.ak,e.boxes++List.replicate (gm ops.toList ops.toList.length) .none⟩∧Br E ops aI (reach [] ops.toList) ops.toList 0=true:=by
   unfold o0 at eC
   cases fo:eligible ops.toList aI (reach [] ops.toList)with
   |true=>rw[fo]at eC;exact⟨_,fun A hA=>by cases hA;exact⟨rfl,Rc fo,JC⟩,eC⟩
   |false=>rw[fo]at eC;exact⟨none,fun A hA=>(by cases hA),eC⟩
  have:=LO (P:=P) (gl:=gl) (base:=e.boxes.length) (aI:=aI) ops.toList 0 (Array.replicate ops.size false) _ (fun j=>by simp) (fun j hj=>by omega) (fun j _ hj=>by simp[hj]) aN
   (fun j o ho hl=>by
     have hj:j<ops.size:=(Array.getElem?_eq_some_iff.1 ho).1
     simp[hj]at hl) ⟨w0,au,a,_,_,cF⟩ wN eC h
  have h2:=Lv (r:=r) (n:=n) hQ _ _ _ _ _ _ cF (ga.refl _ _) rfl this
  simpa using h2
end
section
variable{P:Program}{gl:Nat→Option D}{h:Hints}{r:Option Nat}{n:Nat}{ds:List Deferred}
def Kt(gh:List (Nat×List jo))(c:Code)(a a':Act):Prop:=∀t,t∉dr gh c→a'.tmps.getD t undef=a.tmps.getD t undef
theorem Kt.refl(gh:List (Nat×List jo))(c:Code)(a:Act):Kt gh c a a:=fun _ _=>rfl
theorem Kt.trans{gh:List (Nat×List jo)}{x y c:Code}{a a1 a2:Act}(h1:Kt gh x a a1)(h2:Kt gh y a1 a2)(hx:∀t,t∈dr gh x→t∈dr gh c)(hy:∀t,t∈dr gh y→t∈dr gh c):Kt gh c a a2:=
 fun t ht=>(h2 t fun hm=>ht (hy t hm)).trans (h1 t fun hm=>ht (hx t hm))
theorem Kt.mono{gh:List (Nat×List jo)}{x c:Code}{a a1:Act}(h1:Kt gh x a a1)(hx:∀t,t∈dr gh x→t∈dr gh c):Kt gh c a a1:=fun t ht=>h1 t fun hm=>ht (hx t hm)
theorem Yi{ops:Array Oper}{Q:Exit→Act→World→Prop}{a0:Act}{R:Act→World→Prop}(hR:∀a w,R a w→ga ops.toList a0 a→Q .normal (wd a ds) w):∀(l:List Oper)(i:Nat){a:Act}{w:World},(∀j,l[j]? =ops[i+j]?)→iN P l a w R→ga ops.toList a0 a→a.tmps.size=a0.tmps.size→wpOpsIn (FW r) n P ops Q (List.range' i l.length) (wd a ds) w
 |[],_,_,_,_,h,hk,_=>hR _ _ h hk
 |o::l,i,a,w,hl,h,hk,aN=>by
  obtain⟨hg,oC,h⟩:=h
  have h0:ops[i]? =some o:=by simpa using(hl 0).symm
  rw[List.length_cons,List.range'_succ,wpOpsIn_cons]
  unfold wpOpIn
  simp only[h0]
  rw[if_pos (by simp[Region.wanted,hg])]
  exact ZU oC (h _ _ fun v w1 hd h1=>⟨hd,Yi hR l (i+1) (fun j=>by have:=hl (j+1);simpa[Nat.add_assoc,Nat.add_comm 1 j]using this) h1 (hk.put (by simpa using Array.mem_of_getElem? h0) aN v) (by rw[tn,aN])⟩)
theorem K2{ops:Array Oper}{aI:Nat→Bool}{base:Nat}{w0:World}{au:S0}{l0:List Oper}{K:Env→Prop}{Q:Exit→Act→World→Prop}{a0:Act}{rest:List Nat}(hQ:∀e a w g,Inv gl w0 au e a w g→K e→ga l0 a0 a→wpOpsIn (FW r) n P ops Q rest (wd a ds) w):∀(l:List Oper)(i:Nat)(e:Env)(a:Act)(w:World)(g:Gh),
  (∀j,j<l.length→l[j]? =ops[i+j]?)→(∀o∈l,o∈l0)→Inv gl w0 au e a w g→ga l0 a0 a→jb P gl (aF P gl) aI ops.toList base l i e K→wpOpsIn (FW r) n P ops Q (List.range' i l.length++rest) (wd a ds) w
 |[],_,e,a,w,g,_,_,hI,eE,h=>hQ e a w g hI h eE
 |o::l,i,e,a,w,g,hl,hm,hI,eE,h=>by
  have h0:ops[i]? =some o:=by simpa using(hl 0 (by simp)).symm
  rw[List.length_cons,List.range'_succ,List.cons_append,wpOpsIn_cons]
  rw[Bm]at h
  exact K1 hI h0 h fun e' v w' g' hinv hk=>K2 hQ l (i+1) e' _ w' g' (fun j hj=>by have:=hl (j+1) (by simpa using hj);simpa[Nat.add_assoc,Nat.add_comm 1 j]using this) (fun o ho=>hm o (List.mem_cons_of_mem _ ho)) hinv (eE.SY (hm o (by simp)) v) hk
theorem ga.tr{l l1 l2:List Oper}{a a1 a2:Act}(h1:ga l1 a a1)(h2:ga l2 a1 a2)(m1:∀o∈l1,o∈l)(m2:∀o∈l2,o∈l):ga l a a2:=fun t ht=>
 (h2 t fun hm=>by obtain⟨o,ho,hd⟩:=List.mem_filterMap.1 hm;exact ht (List.mem_filterMap.2 ⟨o,m2 o ho,hd⟩)).trans (h1 t fun hm=>by obtain⟨o,ho,hd⟩:=List.mem_filterMap.1 hm;exact ht (List.mem_filterMap.2 ⟨o,m1 o ho,hd⟩))
theorem afo{ops:Array Oper}{aI:Nat→Bool}{w0:World}{au:S0}{e:Env}{a:Act}{w:World}{g:Gh}(hI:Inv gl w0 au e a w g){id:Nat}{draw ok:Bool}(eC:ok=(!draw||o0 aI ops)){m0 m1:Nat}{T:List Nat}(hf:CU ops draw ok m0 m1 T=true){K:Env→Prop}{Q:Exit→Act→World→Prop}(hm:P.follows .mixedOrders =true)
  (h:sn P gl (aF P gl) m0 m1 T ops.toList aI e K)(hQ:∀e a' w g,Inv gl w0 au e a' w g→K e→ga ops.toList a a'→Q .normal (wd a' ds) w):(Code.region id ops draw).wpIn (FW r) n P Q (wd a ds) w:=by
 cases draw with
 |true=>
  obtain⟨h1,h2,h3⟩:=Ye hf rfl h
  rw[h1]at eC
  refine wpIn_region_any hm ?_
  have hlen:∀{e2:Env},e2.ak.length=(tJ e).ak.length →e2.ak.length=e.ak.length:=fun h=>by rw[h];simp[tJ]
  obtain⟨g2,cF,Dr⟩:=aaS hI.MP (by simpa using eC.symm) h2 (zd _ _ _ h3)
  refine Lv (a0:=a) (fun e2 a2 w2 g2 hinv hk eE=>?_) _ _ _ _ _ _ cF (ga.refl _ _) rfl Dr
  obtain⟨hk,np,_⟩:=hk
  obtain⟨hK,hT⟩:=Hf _ hk
  obtain⟨g',hY⟩:=hI.Mo (ws:=ops.toList.filterMap (fun o:Oper=>o.dst)) (T:=T) hinv (hlen np) eE hT
  exact hQ _ _ _ _ hY hK eE
 |false=>
  obtain⟨h1,_,_,h4,h5⟩:=KJ hf
  unfold sn at h
  refine wpIn_region ?_
  have aN:ops.toList.length=ops.size:=by simp
  have hr:List.range ops.size=List.range' 0 (ops.toList.take m0).length ++(List.range' m0 ((ops.toList.drop m0).take m1).length ++(List.range' (m0+m1) ((ops.toList.drop m0).drop m1).length ++[])):=by
   rw[List.range_eq_range',List.append_nil]
   simp only[List.length_take,List.length_drop]
   rw[show min m0 ops.toList.length=m0 by omega,show min m1 (ops.toList.length-m0)=m1 by omega]
   have:=List.range'_append_1 (s:=m0) (m:=m1) (n:=ops.toList.length-m0-m1)
   rw[this]
   have:=List.range'_append_1 (s:=0) (m:=m0) (n:=m1+(ops.toList.length-m0-m1))
   rw[Nat.zero_add]at this
   rw[this]
   congr 1;omega
  rw[hr]
  refine K2 (l0:=ops.toList.take m0) (a0:=a) (fun e1 a1 w1 g1 dD jS apl=>?_) _ 0 e a w g (fun j hj=>?_) (fun _ h=>h) hI (ga.refl _ _) h
  ·refine K2 (l0:=(ops.toList.drop m0).take m1) (a0:=a1) (fun e2 a2 w2 g2 cF jf sE=>?_) _ m0 _ a1 w1 _ (fun j hj=>?_) (fun _ h=>h) dD.MP (ga.refl _ _) (zd _ _ _ jS)
   ·obtain⟨jf,np,_⟩:=jf
    obtain⟨hK,hT⟩:=Hf _ jf
    obtain⟨g',hY⟩:=dD.Mo (ws:=((ops.toList.drop m0).take m1).filterMap (fun o:Oper=>o.dst)) (T:=T) cF (by rw[np];simp[tJ]) sE hT
    refine K2 (P:=P) (Q:=Q) (rest:=[]) (l0:=(ops.toList.drop m0).drop m1) (a0:=a2) (fun e3 a3 w3 g3 gK Uw apm=>hQ _ _ _ _ gK Uw ?_) _ _ _ a2 w2 g' (fun j hj=>?_) (fun _ h=>h) hY (ga.refl _ _) hK
    ·exact(apl.tr sE (l:=ops.toList) (fun o ho=>List.mem_of_mem_take ho) (fun o ho=>List.mem_of_mem_drop (List.mem_of_mem_take ho))).tr apm (fun _ h=>h) (fun o ho=>List.mem_of_mem_drop (List.mem_of_mem_drop ho))
    ·rw[List.getElem?_drop,List.getElem?_drop,Array.getElem?_toList]
     congr 1;omega
   ·simp only[List.length_take]at hj
    rw[List.getElem?_take,if_pos (by omega),List.getElem?_drop,Array.getElem?_toList]
  ·simp only[List.length_take]at hj
   rw[List.getElem?_take,if_pos (by omega),Array.getElem?_toList,Nat.zero_add]
theorem agm{w0:World}{au:S0}{e:Env}{a:Act}{w:World}{g:Gh}(hI:Inv gl w0 au e a w g){id:Nat}{ops:Array Oper}{draw:Bool}{K:Env→Prop}{Q:Exit→Act→World→Prop}(hm:P.follows .mixedOrders =true)
  (hh:pb P gl (aF P gl) h id ops draw e K)(hQ:∀e a' w g,Inv gl w0 au e a' w g→K e→ga ops.toList a a'→Q .normal (wd a' ds) w):(Code.region id ops draw).wpIn (FW r) n P Q (wd a ds) w:=by
 unfold pb at hh
 obtain⟨hb,hh⟩:=qp hh
 obtain⟨e1,g1,dD,h1⟩:=EJ hI hh
 have wP:∀e a' w g,Inv gl w0 au e a' w g→iL (ku h.gh (4000000+id)) e K→ga ops.toList a a'→Q .normal (wd a' ds) w:=fun e a w g h1 h2 hk=>by
  obtain⟨e2,g2,cF,h3⟩:=EJ h1 h2
  exact hQ e2 a w g2 cF h3 hk
 cases hl:E7 h.gh id with
 |some mT=>
  simp only[hl]at h1
  obtain⟨hf,h1⟩:=qp h1
  exact afo dD rfl hf hm h1 fun e' a' w' g' bD hk eE=>wP e' a' w' g' bD hk eE
 |none=>
 simp only[hl]at h1
 cases hs:zy P (C2 h.gh id) draw ops.toList with
 |some s=>
  simp only[hs]at h1
  obtain⟨hd,UA⟩:=PG hs
  subst hd
  have hr:=YY dD UA h1
  refine wpIn_region ?_
  have:=Yi (r:=r) (n:=n) (ds:=ds) (ops:=ops) (Q:=Q) (a0:=a) (fun a' w'⟨e',g',bD,hk⟩eE=>wP e' a' w' g' bD hk eE) ops.toList 0 (fun j=>by simp) hr (ga.refl _ _) rfl
  rw[List.range_eq_range']
  simpa using this
 |none=>
  simp only[hs]at h1
  exact aer dD hm h1 fun e' a' w' g' bD hk eE=>wP e' a' w' g' bD hk eE
theorem uD(hm:P.follows .mixedOrders =true):∀(c:Code){w0:World}{au:S0}{QA:Ex→Env→Prop}{e:Env}{a:Act}{w:World}{g:Gh}{Q:Exit→Act→World→Prop},
  Inv gl w0 au e a w g→aw P gl (aF P gl) h c QA e→(∀x e' a' w' g',Inv gl w0 au e' a' w' g'→QA x e'→Kt [] c a a'→Q x.to (wd a' ds) w')→c.wpIn (FW r) n P Q (wd a ds) w
 | .skip,_,_,_,_,_,_,_,_,hI,hh,hQ=>wpIn_skip (hQ .normal _ _ _ _ hI hh (Kt.refl _ _ _))
 | .region id ops draw,w0,au,QA,e,a,w,g,Q,hI,hh,hQ=>by
   obtain⟨yY,hh,hj⟩:=KZ hI (c:=.region id ops draw) (T:=fun Q=>pb P gl (aF P gl) h id ops draw e (Q .normal)) (fun Q hh=>Wu Q hh) hh
   have hQ:∀ex e' a' w' g',Inv gl w0 au e' a' w' g'→yY ex e'→Kt [] (.region id ops draw) a a'→Q ex.to (wd a' ds) w':=fun ex e' a' w' g' h1 h2 h5=>(by
    obtain⟨oA,AJ,h3,h4⟩:=hj ex e' a' w' g' h1 h2
    exact hQ ex oA a' w' AJ h3 h4 h5)
   clear hj
   exact agm hI hm hh fun e' a' w' g' bD hk eE=>hQ .normal e' a' w' g' bD hk fun t ht=>eE t fun hm=>ht (by simp only[dr,List.mem_append];exact .inr (.inr hm))
 | .seq x y,w0,au,QA,e,a,w,g,Q,hI,hh,hQ=>by
   have jD:∀t,t∈dr [] x→t∈dr [] (.seq x y):=fun t ht=>by simp[dr,ht]
   have tY:∀t,t∈dr [] y→t∈dr [] (.seq x y):=fun t ht=>by simp[dr,ht]
   refine wpIn_seq (uD hm x hI hh fun ex e' a' w' g' bD hk eE=>?_)
   cases ex with
   |normal=>exact uD hm y bD hk fun x2 e2 a2 w2 g2 cF jf sE=>hQ x2 e2 a2 w2 g2 cF jf (eE.trans sE jD tY)
   |exit i=>exact hQ (.exit i) e' a' w' g' bD hk (eE.mono jD)
   |ret=>exact hQ .ret e' a' w' g' bD hk (eE.mono jD)
 | .cond c x y,w0,au,QA,e,a,w,g,Q,hI,hh,hQ=>by
   obtain⟨yY,hh,hj⟩:=KZ hI (c:=.cond c x y) (T:=fun Q=>sg e c (aw P gl (aF P gl) h x Q) (aw P gl (aF P gl) h y Q)) (fun Q hh=>Xv Q hh) hh
   have hQ:∀ex e' a' w' g',Inv gl w0 au e' a' w' g'→yY ex e'→Kt [] (.cond c x y) a a'→Q ex.to (wd a' ds) w':=fun ex e' a' w' g' h1 h2 h5=>(by
    obtain⟨oA,AJ,h3,h4⟩:=hj ex e' a' w' g' h1 h2
    exact hQ ex oA a' w' AJ h3 h4 h5)
   clear hj
   cases c with
   |tmp t=>
    simp only[sg]at hh
    have hs:=kQ hI t
    cases hx:e.ak.getD t (.v .undef)with
    |v z=>
     rw[hx]at hh hs
     obtain⟨b,rfl,h1,h2⟩:=EI hh
     have hv:=hs.kz.data.xD
     refine wpIn_cond_split hv (fun hb=>?_) (fun hb=>?_)
     ·have:=h1 hb
      subst hb
      rw[zg hx]at this
      exact uD hm x hI this fun x2 e2 a2 w2 g2 cF jf sE=>hQ x2 e2 a2 w2 g2 cF jf (sE.mono fun t ht=>by simp[dr,ht])
     ·have:=h2 hb
      subst hb
      rw[zg hx]at this
      exact uD hm y hI this fun x2 e2 a2 w2 g2 cF jf sE=>hQ x2 e2 a2 w2 g2 cF jf (sE.mono fun t ht=>by simp[dr,ht])
    |_=>rw[hx]at hh;exact hh.elim
   |const v=>
    cases v with
    |bool b=>
     refine wpIn_cond_split (t:=b) rfl (fun hb=>?_) (fun hb=>?_)
     ·subst hb;exact uD hm x hI hh fun x2 e2 a2 w2 g2 cF jf sE=>hQ x2 e2 a2 w2 g2 cF jf (sE.mono fun t ht=>by simp[dr,ht])
     ·subst hb;exact uD hm y hI hh fun x2 e2 a2 w2 g2 cF jf sE=>hQ x2 e2 a2 w2 g2 cF jf (sE.mono fun t ht=>by simp[dr,ht])
    |_=>exact hh.elim
   |_=>exact hh.elim
 | .block id b,w0,au,QA,e,a,w,g,Q,hI,hh,hQ=>by
   refine wpIn_block (uD hm b hI hh fun ex e' a' w' g' bD hk eE=>?_)
   cases ex with
   |normal=>exact hQ .normal e' a' w' g' bD hk eE
   |exit i=>
    have bY:cond (i==id) (QA .normal e') (QA (.exit i) e'):=hk
    show(if i=id then Q .normal (wd a' ds) w' else Q (.exit i) (wd a' ds) w')
    cases hb:(i==id)with
    |true=>
     rw[hb]at bY
     rw[if_pos (beq_iff_eq.1 hb)]
     exact hQ .normal e' a' w' g' bD bY eE
    |false=>
     rw[hb]at bY
     rw[if_neg (beq_eq_false_iff_ne.1 hb)]
     exact hQ (.exit i) e' a' w' g' bD bY eE
   |ret=>exact hQ .ret e' a' w' g' bD hk eE
 | .loop b,w0,au,QA,e,a,w,g,Q,hI,hh,hQ=>by
   obtain⟨hb,hh⟩:=qp (hh:cond _ _ False)
   simp only[Bool.and_eq_true,List.all_eq_true,Bool.not_eq_true',List.contains_eq_mem,decide_eq_false_iff_not]at hb
   obtain⟨SZ,hk⟩:=hb
   let LW:Act→World→Prop:=fun a1 w1=>∀(fr:Frame)(k:List Item)(cs:List Frame),fr.roundOf=(FW r).round →(FW r).fn fr.fn→(FW r).room (cs.length+1+n)→∃ex a' w',Q ex a' w'∧ArrivesIn (Machine.fenced P (FW r)) P (lone (fr.atR a1 (.code b::.inLoop b::k)) cs w1) fr k cs ex a' w'
   let I:List SV→List (List SV)→Prop:=fun vs bs=>∀e1 a1 w1 g1,Inv gl w0 au e1 a1 w1 g1→Fr h.gh b e e1→Kt [] b a a1→xS e1 (qz h.fI (pI b)).1=vs→xH e.boxes.length e1=bs→LW (wd a1 ds) w1
   have key:I _ _:=hh I fun vs bs hF e1 a1 w1 g1 dD np eE mn jF=>by
    subst mn jF
    have UB:=Qi hI dD np (vars:=(qz h.fI (pI b)).1) SZ
    have kT:=uD hm b (Q:=fun ex a' w'=>match ex with| .normal =>LW a' w'|ex=>Q ex a' w') UB (uF b hF) (fun ex e' a' w' g' bD bY S6=>by
     obtain⟨jS,jf⟩:=bY
     cases ex with
     |normal=>exact jS e' a' w' g' bD ((Lq hk).trans jf (fun t ht=>ht) (fun t ht=>ht)) (eE.trans S6 (fun t ht=>ht) (fun t ht=>ht)) rfl rfl
     |exit i=>exact hQ (.exit i) e' a' w' g' bD jS (eE.trans S6 (fun t ht=>ht) (fun t ht=>ht))
     |ret=>exact hQ .ret e' a' w' g' bD jS (eE.trans S6 (fun t ht=>ht) (fun t ht=>ht)))
    intro fr k cs Oa hb hr
    obtain⟨ex,a2,w2,hq,pd⟩:=kT fr (.inLoop b::k) cs Oa hb hr
    cases ex with
    |normal=>
     obtain⟨e₂,a₂,w₂,UC,Sn⟩:=hq fr k cs Oa hb hr
     exact⟨e₂,a₂,w₂,UC,.of_steps (StepsIn.trans pd (.one (fenced_calm hb hr rfl) stepR_inLoop)) Sn⟩
    |exit id=>exact⟨_,a2,w2,hq,.pass (x:=.inLoop b) rfl (fun _ _=>.inl (by simp)) pd⟩
    |goto l=>exact⟨_,a2,w2,hq,.pass (x:=.inLoop b) rfl (fun _ _=>.inl (by simp)) pd⟩
    |ret=>exact⟨_,a2,w2,hq,.pass (x:=.inLoop b) rfl (fun _ _=>.inl (by simp)) pd⟩
    |panic ch=>exact⟨_,a2,w2,hq,.pass (x:=.inLoop b) rfl (fun _ _=>.inl (by simp)) pd⟩
    |outgrown=>exact⟨_,a2,w2,hq,.pass (x:=.inLoop b) rfl (fun _ _=>.inl (by simp)) pd⟩
   have UD:LW (wd a ds) w:=key e a w g hI (Fr.refl _ _) (Kt.refl _ _ _) rfl rfl
   intro fr k cs Oa hb hr
   obtain⟨ex,a',w',hq,pd⟩:=UD fr k cs Oa hb hr
   exact⟨ex,a',w',hq,.of_steps (.one (fenced_calm hb hr rfl) stepR_loop) pd⟩
 | .exit id,_,_,_,_,_,_,_,_,hI,hh,hQ=>wpIn_exit (hQ (.exit id) _ _ _ _ hI hh (Kt.refl _ _ _))
 | .ret,_,_,_,_,_,_,_,_,hI,hh,hQ=>wpIn_ret (hQ .ret _ _ _ _ hI hh (Kt.refl _ _ _))
 | .goto _,_,_,_,_,_,_,_,_,_,hh,_=>hh.elim
 | .label _,_,_,_,_,_,_,_,_,hI,hh,hQ=>wpIn_label (hQ .normal _ _ _ _ hI hh (Kt.refl _ _ _))
 | .scope _,_,_,_,_,_,_,_,_,_,hh,_=>hh.elim
 | .rangeFunc _ _ _ _,_,_,_,_,_,_,_,_,_,hh,_=>hh.elim
 | .refuse _,_,_,_,_,_,_,_,_,_,hh,_=>hh.elim
theorem A8{gh:List (Nat×List jo)}:∀(c:Code){t:Nat},t∈dr [] c→t∈dr gh c
 | .region id ops draw,t,h=>by
   simp only[dr,List.mem_append]at h ⊢
   rcases h with h|h|h
   ·simp[ku,g7]at h
   ·simp[ku,g7]at h
   ·exact .inr (.inr h)
 | .seq a b,t,h=>by
   simp only[dr,List.mem_append]at h ⊢
   exact h.imp (A8 a) (A8 b)
 | .cond c a b,t,h=>by
   simp only[dr,List.mem_append]at h ⊢
   exact h.imp (A8 a) (A8 b)
 | .block id b,t,h=>A8 (gh:=gh) b h
 | .loop b,t,h=>A8 (gh:=gh) b h
 | .scope b,t,h=>A8 (gh:=gh) b h
 | .skip,t,h=>by simp[dr]at h
 | .exit _,t,h=>by simp[dr]at h
 | .ret,t,h=>by simp[dr]at h
 | .goto _,t,h=>by simp[dr]at h
 | .label _,t,h=>by simp[dr]at h
 | .rangeFunc ..,t,h=>by simp[dr]at h
 | .refuse ..,t,h=>by simp[dr]at h
theorem Kt.any{gh:List (Nat×List jo)}{c:Code}{a a':Act}(h:Kt [] c a a'):Kt gh c a a':=fun t ht=>h t fun hm=>ht (A8 c hm)
theorem Xy(hm:P.follows .mixedOrders =true)(c:Code){w0:World}{au:S0}{QA:Ex→Env→Prop}{e:Env}{a:Act}{w:World}{g:Gh}{Q:Exit→Act→World→Prop}
  (hI:Inv gl w0 au e a w g)(hh:aw P gl (aF P gl) h c QA e)(hQ:∀x e' a' w' g',Inv gl w0 au e' a' w' g'→QA x e'→Q x.to (wd a' ds) w'):c.wpIn (FW r) n P Q (wd a ds) w:=
 uD hm c hI hh fun x e' a' w' g' h1 h2 _=>hQ x e' a' w' g' h1 h2
end
mutual
def SV.sF:SV→Bool
 | .mp _=>false
 | .ref cs _=>SV.tN cs
 | .dg _ _ cs=>SV.tN cs
 | .ef _ a b=>SV.tN a&&SV.tN b
 | .aK l=>SV.tN l
 |_=>true
def SV.tN:List SV→Bool
 |[]=>true
 |x::l=>SV.sF x&&SV.tN l
end
theorem Bi:∀{l:List SV},SV.tN l=true↔∀x∈l,SV.sF x=true
 |[]=>by simp[SV.tN]
 |x::l=>by simp[SV.tN,Bi (l:=l)]
theorem vJ:∀{l:List SV},SV.iZ l=true↔∀x∈l,SV.aA x=true
 |[]=>by simp[SV.iZ]
 |x::l=>by simp[SV.iZ,vJ (l:=l)]
section
variable{W W':World}{gl:Nat→Option D}
theorem bp.fI{St:Nat→Nat→Prop}(hc:∀b o v,St b o→W.cell? ⟨b,o,none⟩=some v→W'.cell? ⟨b,o,none⟩=some v){x:D}{v:Value}(r:bp W St x v):bp W' St x v:=by
 induction r with
 |bool b=>exact .bool b
 |int k n hk=>exact .int k n hk
 |str s hs=>exact .str s hs
 |agg ds vs hf hl _ ih=>exact .agg ds vs hf hl ih
 |jk sz=>exact .jk sz
 |sl sz L b off cap vs cd hm aN hf aW _ ih=>exact .sl sz L b off cap vs cd hm aN hf (fun o ho=>⟨hc _ _ _ (aW o ho).2 (aW o ho).1,(aW o ho).2⟩) ih
 |mY sz a cap ha=>exact .mY sz a cap ha
 |fn f=>exact .fn f
 |x8=>exact .x8
 |iface t x v _ ih=>exact .iface t x v ih
 |x9=>exact .x9
 |oV=>exact .oV
theorem aR.fI{St:Nat→Nat→Prop}{base:Nat}(hc:∀b o v,St b o→W.cell? ⟨b,o,none⟩=some v→W'.cell? ⟨b,o,none⟩=some v){O:Nat→Nat→Nat→Prop}{x:SV}{v:Value}(r:aR W St base O x v):
  ∀O':Nat→Nat→Nat→Prop,(∀g a c,O g a c→O' g a c∧W'.heap[g]? =W.heap[g]?)→x.sF=true→x.aA=true→aR W' St base O' x v:=by
 induction r with
 |d O x v hd=>exact fun O' _ _ _=>.d O' x v (hd.fI hc)
 |own O sz L g cap hd cd ho=>exact fun O' hO _ _=>.own O' sz L g cap (hd.fI hc) cd (hO _ _ _ ho).1
 |full O sz L a hd=>exact fun O' _ _ _=>.full O' sz L a (hd.fI hc)
 |ref O cs off b o vs eV aW _ ih=>exact fun O' _ _ hr=>by cases hr
 |dg O n sz cs b cap vs eV hn hm aW _ ih=>exact fun O' _ _ hr=>by cases hr
 |aX O x off b o vs hf aW eB=>exact fun O' _ _ _=>.aX O' x off b o vs hf (fun i hi=>⟨hc _ _ _ (aW i hi).2 (aW i hi).1,(aW i hi).2⟩) fun i c hi=>(eB i c hi).fI hc
 |ef O f first cap fv cv hf dJ _ _ kZ k7=>
  intro O' _ hn hr
  simp only[SV.sF,SV.aA,Bool.and_eq_true]at hn hr
  exact .ef O' f first cap fv cv hf dJ (fun i x v a b=>kZ i x v a b _ (fun _ _ _ h=>h.elim) (Bi.1 hn.1 x (List.mem_of_getElem? a)) (vJ.1 hr.1 x (List.mem_of_getElem? a))) (fun i x v a b=>k7 i x v a b _ (fun _ _ _ h=>h.elim) (Bi.1 hn.2 x (List.mem_of_getElem? a)) (vJ.1 hr.2 x (List.mem_of_getElem? a)))
 |bh O sz L g cap vs cd hm aN hf ho aW eB=>
  exact fun O' hO _ _=>.bh O' sz L g cap vs cd hm aN hf (hO _ _ _ ho).1 (fun o cg=>(World.cell?_of_block (hO _ _ _ ho).2).trans (aW o cg)) fun i x j c hx jB=>(eB i x j c hx jB).fI hc
 |mp O l r es clock hh hs hl eB=>exact fun O' _ hn=>by cases hn
 |nest O LL gg cap bk cp h1 h2 h3 h4 h5 h6=>
  exact fun O' hO _ _=>.nest O' LL gg cap bk cp h1 h2 (hO _ _ _ h3).1 (fun i L hL=>(World.cell?_of_block (hO _ _ _ h3).2).trans (h4 i L hL)) (fun i L hL=>(by
   obtain⟨r1,r2,r3,r4,r5,r6⟩:=h5 i L hL
   exact⟨(hO _ _ _ r1).1,r2,r3,r4,r5,fun j x hx=>(by
    obtain⟨v,k1,k2⟩:=r6 j x hx
    exact⟨v,(World.cell?_of_block (hO _ _ _ r1).2).trans k1,k2.fI hc⟩)⟩)) h6
 |undef O v=>exact fun O' _ _ _=>.undef O' v
inductive Plain:Slot→Prop
 |v (x:SV) (h:x.sF=true) (h2:x.aA=true):Plain (.v x)
 |t (l:List SV) (h:SV.tN l=true) (h2:SV.iZ l=true):Plain (.t l)
 |p (b off:Nat):Plain (.p b off)
 |a (b n sz:Nat):Plain (.a b n sz)
 |m (b:Nat):Plain (.m b)
 |c (f:Fn) (first cap:List Slot) (h1:∀s∈first,Plain s) (h2:∀s∈cap,Plain s):Plain (.c f first cap)
structure Mq(e:Env):Prop where
 s:∀s∈e.ak,Plain s
 b:∀bx∈e.boxes,match bx with| .cells cs=>SV.tN cs=true∧SV.iZ cs=true| .one s=>Plain s|_=>True
theorem cQ.fI{base:Nat}{g:Gh}(eI:∀b,some b∈g.bx→W'.heap[b]? =W.heap[b]?)(hc:∀b o v,g.St b o→W.cell? ⟨b,o,none⟩=some v→W'.cell? ⟨b,o,none⟩=some v){O:Nat→Nat→Nat→Nat→Prop}{s:Slot}{v:Value}(r:cQ base W g O s v):
  ∀O':Nat→Nat→Nat→Nat→Prop,(∀j b a c,O j b a c→O' j b a c∧W'.heap[b]? =W.heap[b]?)→Plain s→cQ base W' g O' s v:=by
 induction r with
 |v O x y h=>exact fun O' hO hn=>.v _ x y (by cases hn with|v _ h1 h2=>exact h.fI hc _ (hO 0) h1 h2)
 |p O b off ao h=>exact fun O' _ _=>.p _ b off ao h
 |a O b n sz v hm h=>exact fun O' _ _=>.a _ b n sz v hm (by obtain⟨ao,cap,h1,h2,h3,h4,c,ty,h5,h6⟩:=h;exact⟨ao,cap,h1,h2,h3,h4,c,ty,(eI ao (List.mem_of_getElem? h1)).trans h5,h6⟩)
 |m O b ao h=>exact fun O' _ _=>.m _ b ao h
 |c O f first cap fv cv hf dJ _ _ kZ k7=>
  intro O' _ hn
  cases hn with
  |c _ _ _ h1 h2=>
   exact .c _ f first cap fv cv hf dJ (fun i x v a b=>kZ i x v a b _ (fun _ _ _ _ h=>h.elim) (h1 x (List.mem_of_getElem? a))) (fun i x v a b=>k7 i x v a b _ (fun _ _ _ _ h=>h.elim) (h2 x (List.mem_of_getElem? a)))
 |t O xs vs hl eB=>
  intro O' hO hn
  cases hn with
  |t _ h h2=>exact .t _ xs vs hl fun j x v a b=>(eB j x v a b).fI hc _ (hO j) (Bi.1 h x (List.mem_of_getElem? a)) (vJ.1 h2 x (List.mem_of_getElem? a))
def IM(W:World)(n:Nat):World:={W with heap:=W.heap.extract 0 n}
theorem Yj{W:World}{n:Nat}(h:n≤W.heap.size):(IM W n).heap.size =n:=by simp[IM];omega
theorem Inv.move{w0 UH:World}{au:S0}{e:Env}{a:Act}{g:Gh}(hI:Inv gl w0 au e a W g)(hn:Mq e)(h0:UH.heap.size=w0.heap.size)(hb:Below w0.heap.size UH W')(hs:W.heap.size≤W'.heap.size)
  (hc:∀b o v,g.St b o→W.cell? ⟨b,o,none⟩=some v→W'.cell? ⟨b,o,none⟩=some v)
  (eI:∀b,some b∈g.bx→W'.heap[b]? =W.heap[b]?)(vc:∀b p,g.ow b=some p→w0.heap.size≤b→b<W.heap.size→W'.heap[b]? =W.heap[b]?)
  (mC:∀D o,au.df D o→W'.heap[D]? =W.heap[D]?):Inv gl UH au e a W' g:=by
 have jm:∀p b a' c,fA w0.heap.size W g p b a' c→fA w0.heap.size W' g p b a' c∧W'.heap[b]? =W.heap[b]? :=by
  rintro p b a' c ⟨h1,h2,h3,⟨cur,t,h4,h5⟩,h6⟩
  have:=vc b p h1 h2 (gk h4)
  exact⟨⟨h1,h2,h3,⟨cur,t,this.trans h4,h5⟩,h6⟩,this⟩
 refine⟨by rw[h0];exact hb,hI.size,fun i s hs=>?_,hI.gq,fun b bx ao h1 h2=>?_,hI.nodup,hI.iB,fun b o h=>⟨by rw[h0];exact(hI.dj b o h).1,(hI.dj b o h).2.1,by have:=(hI.dj b o h).2.2;omega⟩,
  fun b h=>⟨by rw[h0];exact(hI.dP b h).1,by have:=(hI.dP b h).2;omega⟩,?_,hI.defers,
  fun D o hD=>(have h:=hI.gu D o hD;⟨h.1,h.2.1,(mC D o hD).trans h.2.2.1,h.2.2.2⟩),fun b o v hv=>(have h:=hI.cls b o v hv;⟨h.1,hc _ _ _ h.1 h.2⟩),Nat.le_trans hI.k8 hs⟩
 ·rw[h0]
  exact(hI.ak i s hs).fI eI hc _ (fun j b a' c h=>jm _ b a' c h) (hn.s s (List.mem_of_getElem? hs))
 ·rw[h0]
  have mB:=hI.boxes b bx ao h1 h2
  have fZ:=hn.b bx (List.mem_of_getElem? h1)
  have hb:=eI ao (List.mem_of_getElem? h2)
  cases bx with
  |none=>exact mB.elim
  |map l=>
   obtain⟨h0,es,clock,hh,hl,bG⟩:=mB
   exact⟨h0,es,clock,hb.trans hh,hl,fun i x y hx hy=>⟨(bG i x y hx hy).1,(bG i x y hx hy).2.1,(bG i x y hx hy).2.2.fI hc⟩⟩
  |cells cs=>
   obtain⟨h0,c,t,hh,cD,hl,bG⟩:=mB
   exact⟨h0,c,t,hb.trans hh,cD,hl,fun j x y hx hy=>(bG j x y hx hy).fI hc _ (fun b' a' c' h=>jm _ b' a' c' h) (Bi.1 fZ.1 x (List.mem_of_getElem? hx)) (vJ.1 fZ.2 x (List.mem_of_getElem? hx))⟩
  |one s=>
   obtain⟨h0,c,t,hh,cD,hl,bG⟩:=mB
   exact⟨h0,c,t,hb.trans hh,cD,hl,fun y hy=>(bG y hy).fI eI hc _ (fun _ b' a' c' h=>jm _ b' a' c' h) fZ⟩
 ·intro n x hx
  obtain⟨h0,vs,h1,h2⟩:=hI.lS n x hx
  exact⟨h0,vs,fun i hi=>⟨hc _ _ _ (h1 i hi).2 (h1 i hi).1,(h1 i hi).2⟩,fun i c jd=>(h2 i c jd).fI hc⟩
theorem Inv.yZ{w0:World}{au Du:S0}{e:Env}{a:Act}{g:Gh}(hI:Inv gl w0 au e a W g)(h0:∀b o,Du.St b o→g.St b o)(h1:∀b o,g.St b o→Du.St b o∨w0.heap.size≤b)
  (mC:∀D o,Du.df D o→some D∉g.bx∧g.ow D=none∧W.heap[D]? =some o∧∀x,g.St D x→Du.St D x)(dJ:∀b o v,Du.cl b o v→g.St b o∧W.cell? ⟨b,o,none⟩=some v)
  (aN:Du.sz≤W.heap.size):Inv gl w0 Du e a W g:=
 ⟨hI.below,hI.size,hI.ak,hI.gq,hI.boxes,hI.nodup,h0,fun b o h=>⟨h1 b o h,(hI.dj b o h).2⟩,hI.dP,hI.lS,hI.defers,mC,dJ,aN⟩
theorem aR.Sp{St cq:Nat→Nat→Prop}(h:∀b o,St b o→cq b o){base:Nat}{O:Nat→Nat→Nat→Prop}{x:SV}{v:Value}(r:aR W St base O x v){O':Nat→Nat→Nat→Prop}(hO:∀b a c,O b a c→O' b a c):aR W cq base O' x v:=
 r.mono (fun b o hs=>⟨h b o hs,.refl _ _ _⟩) (fun _ _ _=>rfl) _ fun b a c ho=>⟨hO b a c ho,.refl _ _ _⟩
theorem Inv.akM{w0:World}{au:S0}{e:Env}{a:Act}{g:Gh}(hI:Inv gl w0 au e a W g){S:Nat→Nat→Prop}(hS:∀b o,S b o→g.St b o∨(w0.heap.size≤b∧b<W.heap.size∧some b∉g.bx∧g.ow b=none))
  (mC:∀D o,au.df D o→∀x,S D x→g.St D x):Inv gl w0 au e a W {g with St:=fun b o=>g.St b o∨S b o}:=by
 have jm:∀p b a' c,fA w0.heap.size W g p b a' c→fA w0.heap.size W {g with St:=fun b o=>g.St b o∨S b o} p b a' c:=by
  rintro p b a' c ⟨h1,h2,h3,h4,h5⟩
  refine⟨h1,h2,h3,h4,fun o ho=>?_⟩
  rintro(h|h)
  ·exact h5 o ho h
  ·rcases hS b o h with h|⟨_,_,_,h⟩
   ·exact h5 o ho h
   ·rw[h1]at h;cases h
 refine⟨hI.below,hI.size,fun i s hs=>?_,hI.gq,fun b bx ao h1 h2=>?_,hI.nodup,fun b o h=>.inl (hI.iB b o h),fun b o h=>?_,hI.dP,?_,hI.defers,
  fun D o hD=>(have h:=hI.gu D o hD;⟨h.1,h.2.1,h.2.2.1,fun x hx=>h.2.2.2 x (hx.elim id (mC D o hD x))⟩),fun b o v hv=>⟨.inl (hI.cls b o v hv).1,(hI.cls b o v hv).2⟩,hI.k8⟩
 ·exact(hI.ak i s hs).mono (fun b o h=>⟨.inl h,.refl _ _ _⟩) (fun _ _ _=>rfl) (fun _ _ h=>h) (.refl _) fun j b a' c h=>⟨jm _ b a' c h,.refl _ _ _⟩
 ·have mB:=hI.boxes b bx ao h1 h2
  cases bx with
  |none=>exact mB.elim
  |map l=>
   obtain⟨h0,es,clock,hh,hl,bG⟩:=mB
   exact⟨h0,es,clock,hh,hl,fun i x y hx hy=>⟨(bG i x y hx hy).1,(bG i x y hx hy).2.1,(bG i x y hx hy).2.2.mono fun b o h=>⟨.inl h,rfl⟩⟩⟩
  |cells cs=>
   obtain⟨h0,c,t,hh,cD,hl,bG⟩:=mB
   exact⟨h0,c,t,hh,cD,hl,fun j x y hx hy=>(bG j x y hx hy).Sp (fun _ _ h=>.inl h) (fun b' a' c' h=>jm _ b' a' c' h)⟩
  |one s=>
   obtain⟨h0,c,t,hh,cD,hl,bG⟩:=mB
   exact⟨h0,c,t,hh,cD,hl,fun y hy=>(bG y hy).mono (fun b o h=>⟨.inl h,.refl _ _ _⟩) (fun _ _ _=>rfl) (fun _ _ h=>h) (.refl _) fun _ b' a' c' h=>⟨jm _ b' a' c' h,.refl _ _ _⟩⟩
 ·rcases h with h|h
  ·exact hI.dj b o h
  ·rcases hS b o h with h|⟨h1,h2,h3,_⟩
   ·exact hI.dj b o h
   ·exact⟨.inr h1,h3,h2⟩
 ·intro n x hx
  obtain⟨h0,vs,h1,h2⟩:=hI.lS n x hx
  exact⟨h0,vs,fun i hi=>⟨(h1 i hi).1,.inl (h1 i hi).2⟩,fun i c jd=>(h2 i c jd).mono fun b o h=>⟨.inl h,rfl⟩⟩
end
structure zA(Fr:Nat→Prop)(dK:Nat→Nat→Prop)(W W':World):Prop where
 os:W'.os=W.os
 tape:W'.tape=W.tape
 output:W'.output=W.output
 size:W.heap.size≤W'.heap.size
 ao:∀b,b<W.heap.size→¬Fr b→W'.heap[b]? =W.heap[b]?
 kF:∀b o v,dK b o→W.cell? ⟨b,o,none⟩=some v→W'.cell? ⟨b,o,none⟩=some v
def Iter(P:Program)(gl:Nat→Option D)(f:FuncId)(cap:List SV)(L:List D):Prop:=oX P f∧
 ∀(w:World)(St:Nat→Nat→Prop)(l:Nat)(vs:Array Value),(∀b o,St b o→b<w.heap.size)→zx gl w St→cap.length=vs.size→
  (∀(i:Nat)x v,cap[i]? =some x→vs[i]? =some v→aR w St w.heap.size (fun _ _ _=>False) x v)→
  ∀(J:Option Unit→(Nat→Prop)→(Nat→Nat→Prop)→List D→World→Prop),
   (∀q Fr dK pre W W' qb uY,J q Fr dK pre W→zA Fr dK W W'→(∀b,qb b→Fr b∨(W.heap.size≤b∧b<W'.heap.size))→(∀b,Fr b→qb b)→(∀b o,dK b o→uY b o)→
     (∀b o,uY b o→(dK b o∨qb b)∧b<W'.heap.size)→J q qb uY pre W')→
   (∀Fr dK pre d v W,J none Fr dK pre W→bp W dK d v→L[pre.length]? =some d→∃fn tmps assign body,(Instr.yield l #[v]).run P W=.ok (.round l fn tmps assign body) W∧
     ∀n,RoundIn Fence.wide n P l fn tmps assign body W fun e W'=>∃b,e=.returned (.bool b)∧zA (fun b=>¬Fr b) dK W W'∧J (bif b then none else some ()) Fr dK (pre++[d]) W')→
   J none (fun _=>False) St [] w→
   Calls P f (#[.func (.yield l) #[] #[]]++vs) w fun e W'=>(∃v,e=.returned v)∧∃Fr dK pre q,J q Fr dK pre W'∧(q=none→pre=L)
def Ob(o:Obj):Prop:=o.isCells=false∧∀es c,o≠.map es c
section
variable{W:World}{gl:Nat→Option D}
theorem ahA{l:Nat}{o o':Obj}(h:W.heap[l]? =some o)(ho:o.isCells=false)(cg:o'.isCells=false)(b off:Nat):(W.putObj l o').cell? ⟨b,off,none⟩=W.cell? ⟨b,off,none⟩:=by
 by_cases hb:b=l
 ·subst hb
  have h1:=World.putObj_heap_same (w:=W) (o:=o') (gk h)
  simp only[World.cell?,h,h1]
  cases o<;>cases o'<;>first|rfl|exact absurd (show true=false from ho) (by decide)|exact absurd (show true=false from cg) (by decide)
 ·exact World.cell?_of_block (World.putObj_heap_other hb)
theorem Inv.other{w0:World}{au:S0}{e:Env}{a:Act}{g:Gh}(hI:Inv gl w0 au e a W g){l:Nat}{o o':Obj}(h:W.heap[l]? =some o)(ho:Ob o)(cg:Ob o')(hl:w0.heap.size≤l)(mC:∀D ob,au.df D ob→D≠l):
  Inv gl w0 au e a (W.putObj l o') g:=by
 have aW:=ahA h ho.1 cg.1
 have dZ:∀b,b≠l→(W.putObj l o').heap[b]? =W.heap[b]? :=fun b hb=>World.putObj_heap_other hb
 have uJ:∀(b:Nat)(c:Array Value)(t:TypeId)(p:Nat×Nat),W.heap[b]? =some (Obj.cells c t p)→(W.putObj l o').heap[b]? =some (Obj.cells c t p):=fun b c t p hb=>(dZ b (fun e=>by subst e;rw[h]at hb;cases hb;exact absurd (show true=false from ho.1) (by decide))).trans hb
 have IN:∀(b:Nat)(es:Array MapEntry)(c:Nat),W.heap[b]? =some (Obj.map es c)→(W.putObj l o').heap[b]? =some (Obj.map es c):=fun b es c hb=>(dZ b (fun e=>by subst e;rw[h]at hb;cases hb;exact absurd rfl (ho.2 es c))).trans hb
 have gG:∀b off,rR W (W.putObj l o') b off:=fun b off=>⟨aW b off,fun es c hm=>IN b es c hm⟩
 have bq:vS g W (W.putObj l o'):=fun b c ty _ hb=>⟨c,ty,uJ b c ty _ hb,rfl⟩
 have jm:∀p b a' c,fA w0.heap.size W g p b a' c→fA w0.heap.size (W.putObj l o') g p b a' c∧xI W (W.putObj l o') b a':=by
  rintro p b a' c ⟨h1,h2,h3,⟨cur,t,h4,h5⟩,h6⟩
  exact⟨⟨h1,h2,h3,⟨cur,t,uJ b _ _ _ h4,h5⟩,h6⟩,fun _=>(uJ b _ _ _ h4).trans h4.symm⟩
 refine⟨hI.below.trans ⟨rfl,rfl,rfl,by simp,fun k hk=>dZ k (by omega)⟩,hI.size,fun i s hs=>?_,hI.gq,fun b bx ao h1 h2=>?_,hI.nodup,hI.iB,fun b o h=>?_,fun b h=>?_,?_,hI.defers,
  fun D ob hD=>(have h:=hI.gu D ob hD;⟨h.1,h.2.1,(dZ D (mC D ob hD)).trans h.2.2.1,h.2.2.2⟩),fun b o v hv=>⟨(hI.cls b o v hv).1,(aW b o).trans (hI.cls b o v hv).2⟩,by simp;exact hI.k8⟩
 ·exact(hI.ak i s hs).mono (fun b o h=>⟨h,gG b o⟩) (fun b o _=>aW b o) (fun _ _ h=>h) bq fun j b a' c h=>jm _ b a' c h
 ·have mB:=hI.boxes b bx ao h1 h2
  cases bx with
  |none=>exact mB.elim
  |map l=>
   obtain⟨h0,es,clock,hh,hl,bG⟩:=mB
   exact⟨h0,es,clock,IN _ _ _ hh,hl,fun i x y hx hy=>⟨(bG i x y hx hy).1,(bG i x y hx hy).2.1,(bG i x y hx hy).2.2.mono fun b o h=>⟨h,aW b o⟩⟩⟩
  |cells cs=>
   obtain⟨h0,c,t,hh,cD,hl,bG⟩:=mB
   exact⟨h0,c,t,uJ _ _ _ _ hh,cD,hl,fun j x y hx hy=>(bG j x y hx hy).mono (fun b o h=>⟨h,gG b o⟩) (fun b o _=>aW b o) _ fun b' a' c' h=>jm _ b' a' c' h⟩
  |one s=>
   obtain⟨h0,c,t,hh,cD,hl,bG⟩:=mB
   exact⟨h0,c,t,uJ _ _ _ _ hh,cD,hl,fun y hy=>(bG y hy).mono (fun b o h=>⟨h,gG b o⟩) (fun b o _=>aW b o) (fun _ _ h=>h) bq fun _ b' a' c' h=>jm _ b' a' c' h⟩
 ·have:=hI.dj b o h
  exact⟨this.1,this.2.1,by simp;exact this.2.2⟩
 ·have:=hI.dP b h
  exact⟨this.1,by simp;exact this.2⟩
 ·intro n x hx
  obtain⟨h0,vs,h1,h2⟩:=hI.lS n x hx
  exact⟨h0,vs,fun i hi=>⟨(aW _ _).trans (h1 i hi).1,(h1 i hi).2⟩,fun i c jd=>(h2 i c jd).mono fun b o h=>⟨h,aW b o⟩⟩
theorem Inv.norm{w0:World}{au:S0}{e:Env}{a:Act}{g:Gh}(hI:Inv gl w0 au e a W g):Inv gl w0 au e a W {g with ow:=fun b=>if b<W.heap.size then g.ow b else none}:=by
 have jm:∀p b a' c,fA w0.heap.size W g p b a' c→fA w0.heap.size W {g with ow:=fun b=>if b<W.heap.size then g.ow b else none} p b a' c:=by
  rintro p b a' c ⟨h1,h2,h3,h4,h5⟩
  have aP:b<W.heap.size:=by obtain⟨cur,t,h,_⟩:=h4;exact gk h
  exact⟨by simp only;rw[if_pos aP];exact h1,h2,h3,h4,h5⟩
 refine⟨hI.below,hI.size,fun i s hs=>?_,hI.gq,fun b bx ao h1 h2=>?_,hI.nodup,hI.iB,hI.dj,hI.dP,hI.lS,hI.defers,fun D ob hD=>(have h:=hI.gu D ob hD;⟨h.1,by simp only;split;exact h.2.1;rfl,h.2.2⟩),hI.cls,hI.k8⟩
 ·exact(hI.ak i s hs).mono (fun b o h=>⟨h,.refl _ _ _⟩) (fun _ _ _=>rfl) (fun _ _ h=>h) (.refl _) fun j b a' c h=>⟨jm _ b a' c h,.refl _ _ _⟩
 ·have mB:=hI.boxes b bx ao h1 h2
  cases bx with
  |none=>exact mB.elim
  |map l=>exact mB
  |cells cs=>
   obtain⟨h0,c,t,hh,cD,hl,bG⟩:=mB
   exact⟨h0,c,t,hh,cD,hl,fun j x y hx hy=>(bG j x y hx hy).Sp (fun _ _ h=>h) (fun b' a' c' h=>jm _ b' a' c' h)⟩
  |one s=>
   obtain⟨h0,c,t,hh,cD,hl,bG⟩:=mB
   exact⟨h0,c,t,hh,cD,hl,fun y hy=>(bG y hy).mono (fun b o h=>⟨h,.refl _ _ _⟩) (fun _ _ _=>rfl) (fun _ _ h=>h) (.refl _) fun _ b' a' c' h=>⟨jm _ b' a' c' h,.refl _ _ _⟩⟩
def ZV:SV→Bool
 | .own _ _=>false
 | .bh _ _=>false
 | .nest _=>false
 |_=>true
theorem aR.free{w:World}{St:Nat→Nat→Prop}{base:Nat}{O O':Nat→Nat→Nat→Prop}{x:SV}{v:Value}(r:aR w St base O x v)(h:ZV x=true):aR w St base O' x v:=by
 cases r with
 |d _ x v hd=>exact .d _ x v hd
 |own=>cases h
 |full _ sz L g hd=>exact .full _ sz L g hd
 |ref _ cs off b o vs eV aW hc=>exact .ref _ cs off b o vs eV aW hc
 |dg _ n sz cs b cap vs eV hn hm aW hc=>exact .dg _ n sz cs b cap vs eV hn hm aW hc
 |aX _ x off b o vs hf aW hc=>exact .aX _ x off b o vs hf aW hc
 |ef _ f first cap fv cv hf hc rf rc=>exact .ef _ f first cap fv cv hf hc rf rc
 |bh=>cases h
 |nest=>cases h
 |mp _ l r es clock hh hs hl hc=>exact .mp _ l r es clock hh hs hl hc
 |undef _ v=>exact .undef _ _
def zO(n:Nat):Slot→Bool
 | .v x=>ZV x&&x.sF&&x.aA
 | .p b _=>Nat.blt b n
 | .m b=>Nat.blt b n
 |_=>false
def nJ(n:Nat):af→Bool
 | .one (.p b _)=>Nat.blt b n
 | .one (.m b)=>Nat.blt b n
 | .one _=>false
 | .cells cs=>cs.all fun x=>x.sF&&x.aA
 |_=>true
def IP:Slot→Bool
 | .v _=>false
 |_=>true
end
section
variable{P:Program}{gl:Nat→Option D}{hh:Hints}{n:Nat}
def Ex.code:Ex→Option Code
 | .normal =>none
 | .exit i=>some (.exit i)
 | .ret =>some .ret
theorem ahB{n:Nat}{l:List af}(h:l.all (nJ n)=true){i:Nat}{bx:af}(hi:l[i]? =some bx):nJ n bx=true:=List.all_eq_true.1 h bx (List.mem_of_getElem? hi)
theorem su.cut{base:Nat}{w:World}{g:Gh}{n b:Nat}{bx:af}{ao:Nat}(r:su base w g b bx ao)(h:nJ n bx=true):su base w (g.cut n) b bx ao:=by
 cases bx with
 |none=>exact r.elim
 |map l=>exact r
 |cells cs=>
  obtain⟨h0,c,t,hh,cD,hl,bG⟩:=r
  exact⟨h0,c,t,hh,cD,hl,fun j x y hx hy=>(bG j x y hx hy).Sp (fun _ _ h=>h) (fun b' a' c' h=>Re h)⟩
 |one s=>
  obtain⟨h0,c,t,hh,cD,hl,bG⟩:=r
  refine⟨h0,c,t,hh,cD,hl,fun y hy=>?_⟩
  have:=bG y hy
  cases s with
  |p b' off=>
   have hb:b'<n:=by simpa[nJ,Nat.blt_eq]using h
   cases this with
   |p _ _ _ sC eA=>exact .p _ _ _ _ ((Hz hb).2 eA)
  |m b'=>
   have hb:b'<n:=by simpa[nJ,Nat.blt_eq]using h
   cases this with
   |m _ _ sC eA=>exact .m _ _ _ ((Hz hb).2 eA)
  |_=>simp[nJ]at h
structure AK(P:Program)(gl:Nat→Option D)(w0:World)(fq:S0)(St:Nat→Nat→Prop)(base l Dd:Nat)(rec:Loop)(sh:List Slot)(aC:Act)(I:List af→Prop)(Fr:Nat→Prop)(dK:Nat→Nat→Prop)(W:World)(aG:List af)(g:Gh):Prop where
 inv:Inv gl w0 fq ⟨sh,aG⟩ aC W g
 i:I aG
 low:aG.all (nJ aG.length)=true
 bx:∀b,some b∈g.bx→¬Fr b
 ow:∀b p,g.ow b=some p→b<W.heap.size∧¬Fr b
 st:∀b o,g.St b o→dK b o∨¬Fr b
 DZ:∀b o,St b o→dK b o∧g.St b o
 kF:∀b o,dK b o→(St b o∨Fr b)∧b<W.heap.size
 fr:∀b,Fr b→base≤b∧b<W.heap.size∧b≠l∧b≠Dd
 Dv:W.heap[l]? =some (.loop rec)
 dd:W.heap[Dd]? =some (.deferred (some []))
 lo:∀b,b=l∨b=Dd→some b∉g.bx∧g.ow b=none∧∀o,¬g.St b o
theorem Yk{sh:List Slot}{m:Nat}(bq:sh.all (zO m)=true){aG:List af}{k:Nat}(kU:aG.all (nJ k)=true):Mq ⟨sh,aG⟩:=by
 refine⟨fun s hs=>?_,fun bx hb=>?_⟩
 ·have:=List.all_eq_true.1 bq s hs
  cases s with
  |v x=>simp only[zO,Bool.and_eq_true]at this;exact .v _ this.1.2 this.2
  |p b off=>exact .p _ _
  |m b=>exact .m _
  |_=>simp[zO]at this
 ·have:=List.all_eq_true.1 kU bx hb
  cases bx with
  |none=>trivial
  |map l=>trivial
  |cells cs=>
   simp only[nJ,List.all_eq_true,Bool.and_eq_true]at this
   exact⟨Bi.2 fun x hx=>(this x hx).1,vJ.2 fun x hx=>(this x hx).2⟩
  |one s=>
   cases s with
   |p b off=>exact .p _ _
   |m b=>exact .m _
   |_=>simp[nJ]at this
theorem AK.Sq{w0:World}{fq:S0}{St:Nat→Nat→Prop}{base l Dd:Nat}{rec:Loop}{sh:List Slot}{aC:Act}{I:List af→Prop}{Fr:Nat→Prop}{dK:Nat→Nat→Prop}{W:World}{aG:List af}{g:Gh}
  (h:AK P gl w0 fq St base l Dd rec sh aC I Fr dK W aG g){m:Nat}(bq:sh.all (zO m)=true)(Fs:w0.heap.size≤base)(D0:l<base∧Dd<base)(mC:∀D o,fq.df D o→D<base){W':World}{qb:Nat→Prop}{uY:Nat→Nat→Prop}(hb:zA Fr dK W W')
  (JS:base≤W.heap.size)(f1:∀b,qb b→Fr b∨(W.heap.size≤b∧b<W'.heap.size))(f2:∀b,Fr b→qb b)(p1:∀b o,dK b o→uY b o)(p2:∀b o,uY b o→(dK b o∨qb b)∧b<W'.heap.size):
  AK P gl w0 fq St base l Dd rec sh aC I qb uY W' aG g:=by
 have aN:=hb.size
 have hI:=h.inv
 have wH:∀b,b<W.heap.size→¬Fr b→¬qb b:=fun b aP hn hf=>(f1 b hf).elim hn fun h=>by omega
 have bg:∀b,b=l∨b=Dd→b<W.heap.size∧¬Fr b:=fun b hb=>by
  refine⟨?_,fun hf=>?_⟩
  ·rcases hb with rfl|rfl
   ·exact gk h.Dv
   ·exact gk h.dd
  ·have:=h.fr b hf
   rcases hb with rfl|rfl
   ·exact this.2.2.1 rfl
   ·exact this.2.2.2 rfl
 have aaV:∀b,b<base→b<W.heap.size→W'.heap[b]? =W.heap[b]? :=fun b aP mR=>hb.ao b mR fun hf=>by have:=(h.fr b hf).1;omega
 have bD:Inv gl w0 fq ⟨sh,aG⟩ aC W' g:=by
  refine hI.move (Yk bq h.low) rfl (hI.below.trans ⟨hb.os,hb.tape,hb.output,hb.size,fun k hk=>?_⟩) hb.size (fun b o v hs hc=>?_) (fun b hm=>hb.ao b (hI.dP b hm).2 (h.bx b hm)) (fun b p ho _ aP=>hb.ao b aP (h.ow b p ho).2) (fun D o hD=>?_)
  ·have:=hI.below.size
   exact aaV k (by omega) (by omega)
  ·rcases h.st b o hs with hp|hn
   ·exact hb.kF b o v hp hc
   ·rw[World.cell?_of_block (hb.ao b (hI.dj b o hs).2.2 hn)];exact hc
  ·have h1:=gk (hI.gu D o hD).2.2.1
   exact aaV D (mC D o hD) h1
 refine⟨bD,h.i,h.low,fun b hm=>wH b (hI.dP b hm).2 (h.bx b hm),fun b p ho=>?_,fun b o hs=>?_,fun b o hs=>⟨p1 b o (h.DZ b o hs).1,(h.DZ b o hs).2⟩,fun b o hp=>?_,fun b hf=>?_,?_,?_,h.lo⟩
 ·have:=h.ow b p ho
  exact⟨by omega,wH b this.1 this.2⟩
 ·rcases h.st b o hs with hp|hn
  ·exact .inl (p1 b o hp)
  ·exact .inr (wH b (hI.dj b o hs).2.2 hn)
 ·obtain⟨h1,h2⟩:=p2 b o hp
  refine⟨?_,h2⟩
  rcases h1 with h1|h1
  ·exact(h.kF b o h1).1.imp id (f2 b)
  ·exact .inr h1
 ·rcases f1 b hf with nQ|nQ
  ·have:=h.fr b nQ;exact⟨this.1,by omega,this.2.2⟩
  ·exact⟨by omega,nQ.2,fun e=>by have:=(bg b (.inl e)).1;omega,fun e=>by have:=(bg b (.inr e)).1;omega⟩
 ·rw[hb.ao l (bg l (.inl rfl)).1 (bg l (.inl rfl)).2];exact h.Dv
 ·rw[hb.ao Dd (bg Dd (.inr rfl)).1 (bg Dd (.inr rfl)).2];exact h.dd
theorem bp.Io{W W':World}{St cq:Nat→Nat→Prop}(hc:∀b o v,St b o→W.cell? ⟨b,o,none⟩=some v→W'.cell? ⟨b,o,none⟩=some v∧cq b o){x:D}{v:Value}(r:bp W St x v):bp W' cq x v:=by
 induction r with
 |bool b=>exact .bool b
 |int k n hk=>exact .int k n hk
 |str s hs=>exact .str s hs
 |agg ds vs hf hl _ ih=>exact .agg ds vs hf hl ih
 |jk sz=>exact .jk sz
 |sl sz L b off cap vs cd hm aN hf aW _ ih=>exact .sl sz L b off cap vs cd hm aN hf (fun o ho=>hc _ _ _ (aW o ho).2 (aW o ho).1) ih
 |mY sz a cap ha=>exact .mY sz a cap ha
 |fn f=>exact .fn f
 |x8=>exact .x8
 |iface t x v _ ih=>exact .iface t x v ih
 |x9=>exact .x9
 |oV=>exact .oV
theorem aR.Io{W W':World}{St cq:Nat→Nat→Prop}{base:Nat}(hc:∀b o v,St b o→W.cell? ⟨b,o,none⟩=some v→W'.cell? ⟨b,o,none⟩=some v∧cq b o){O:Nat→Nat→Nat→Prop}(hO:∀b a c,¬O b a c){x:SV}{v:Value}(r:aR W St base O x v):
  x.sF=true→x.aA=true→aR W' cq base (fun _ _ _=>False) x v:=by
 induction r with
 |d O x v hd=>exact fun _ _=>.d _ x v (hd.Io hc)
 |own O sz L g cap hd cd ho=>exact absurd ho (hO _ _ _)
 |full O sz L a hd=>exact fun _ _=>.full _ sz L a (hd.Io hc)
 |ref O cs off b o vs eV aW _ ih=>exact fun _ hr=>by cases hr
 |dg O n sz cs b cap vs eV hn hm aW _ ih=>exact fun _ hr=>by cases hr
 |aX O x off b o vs hf aW eB=>exact fun _ _=>.aX _ x off b o vs hf (fun i hi=>hc _ _ _ (aW i hi).2 (aW i hi).1) fun i c hi=>(eB i c hi).Io hc
 |ef O f first cap fv cv hf dJ _ _ kZ k7=>
  intro hn hr
  simp only[SV.sF,SV.aA,Bool.and_eq_true]at hn hr
  exact .ef _ f first cap fv cv hf dJ (fun i x v a b=>kZ i x v a b (fun _ _ _ h=>h) (Bi.1 hn.1 x (List.mem_of_getElem? a)) (vJ.1 hr.1 x (List.mem_of_getElem? a))) (fun i x v a b=>k7 i x v a b (fun _ _ _ h=>h) (Bi.1 hn.2 x (List.mem_of_getElem? a)) (vJ.1 hr.2 x (List.mem_of_getElem? a)))
 |bh O sz L g cap vs cd hm aN hf ho aW eB=>exact absurd ho (hO _ _ _)
 |mp O l r es clock hh hs hl eB=>exact fun hn=>by cases hn
 |nest O LL gg cap bk cp h1 h2 h3 h4 h5 h6=>exact absurd h3 (hO _ _ _)
 |undef O v=>exact fun _ _=>.undef _ v
def FF(fq:S0)(Fr:Nat→Prop)(dK:Nat→Nat→Prop)(W:World)(g:Gh)(l Dd:Nat)(rec:Loop):S0 where
 St:=fun b o=>fq.St b o∨dK b o
 df:=fun D o=>fq.df D o∨(Fr D∧W.heap[D]? =some o)∨(D=l∧o=.loop rec)∨(D=Dd∧o=.deferred (some []))
 cl:=fun b o v=>(g.St b o∨dK b o)∧W.cell? ⟨b,o,none⟩=some v
 sz:=W.heap.size
theorem Lw(r:Loop):Ob (.loop r):=⟨rfl,fun _ _=>by simp⟩
theorem ZW(d:Option (List Deferred)):Ob (.deferred d):=⟨rfl,fun _ _=>by simp⟩
theorem Inv.abS{w0:World}{fq:S0}{Fr:Nat→Prop}{dK:Nat→Nat→Prop}{W W1:World}{g g1:Gh}{l Dd:Nat}{rec IQ:Loop}{e:Env}{a:Act}(hI:Inv gl w0 (FF fq Fr dK W g l Dd rec) e a W1 g1)(hl:w0.heap.size≤l)(bg:l≠Dd)(hFr:¬Fr l)
  (mC:∀D o,fq.df D o→D≠l)(IS:∀o,¬(fq.St l o∨dK l o)):Inv gl w0 (FF fq Fr dK W g l Dd IQ) e a (W1.putObj l (.loop IQ)) g1:=by
 have hr:=hI.gu l (.loop rec) (.inr (.inr (.inl ⟨rfl,rfl⟩)))
 have h1:Inv gl w0 {FF fq Fr dK W g l Dd rec with df:=fun D o=>fq.df D o∨(Fr D∧W.heap[D]? =some o)∨(D=Dd∧o=.deferred (some []))} e a W1 g1:=
  hI.yZ hI.iB (fun b o h=>(hI.dj b o h).1) (fun D o hD=>hI.gu D o (by
   rcases hD with h|h|h
   ·exact .inl h
   ·exact .inr (.inl h)
   ·exact .inr (.inr (.inr h)))) hI.cls hI.k8
 have h2:=h1.other hr.2.2.1 (Lw _) (Lw IQ) hl (fun D ob hD=>by
  rcases hD with h|⟨h,_⟩|⟨h,_⟩
  ·exact mC D ob h
  ·exact fun e=>hFr (e▸h)
  ·exact fun e=>bg (by rw[←e,h]))
 refine h2.yZ h2.iB (fun b o h=>(h2.dj b o h).1) (fun D o hD=>?_) h2.cls h2.k8
 rcases hD with h|h|⟨rfl,rfl⟩|h
 ·exact h2.gu D o (.inl h)
 ·exact h2.gu D o (.inr (.inl h))
 ·exact⟨hr.1,hr.2.1,World.putObj_heap_same (gk hr.2.2.1),fun x hx=>hr.2.2.2 x hx⟩
 ·exact h2.gu D o (.inr (.inr h))
theorem AK.round(hm:P.follows .mixedOrders =true){w0:World}{fq:S0}{St:Nat→Nat→Prop}{base l Dd:Nat}{rec:Loop}{sh:List Slot}{aC:Act}{I:List af→Prop}{Fr:Nat→Prop}{dK:Nat→Nat→Prop}{W:World}{aG:List af}{g:Gh}
  (h:AK P gl w0 fq St base l Dd rec sh aC I Fr dK W aG g)(bq:sh.all (zO aG.length)=true)(Fs:w0.heap.size≤l∧w0.heap.size≤Dd)(D0:l<base∧Dd<base∧l≠Dd)(mC:∀D o,fq.df D o→D<base∧D≠l∧D≠Dd)(wh:∀b o,fq.St b o→b<base∧b≠l∧b≠Dd)(bc:∀b o,St b o→b≠l∧b≠Dd)
  {ps:Nat}(hrt:rec.tmps=aC.tmps)(hrp:rec.params= #[ps])(UF:rec.state=.ready)(hrn:rec.pending=none){d:D}{v:Value}(hd:bp W dK d v){I':Ex→List af→Prop}
  (jC:∀(t:Nat)s,sh[t]? =some s→IP s=true→t∉dr hh.gh rec.assign∧t∉dr hh.gh rec.body∧t≠ps)
  (Nn:aw P gl (aF P gl) hh rec.assign (fun x e1=>x=.normal ∧aw P gl (aF P gl) hh rec.body (fun x e2=>(e2.boxes.take aG.length).all (nJ aG.length)=true∧I' x (e2.boxes.take aG.length)) e1) ⟨de sh (some ps) (.v (.d d)),aG⟩):
  ∃tmps,(Instr.yield l #[v]).run P W=.ok (.round l rec.fn tmps rec.assign rec.body) W∧∀n,RoundIn Fence.wide n P l rec.fn tmps rec.assign rec.body W fun e W'=>∃x:Ex,e=.returned (.bool x.code.isNone)∧zA (fun b=>¬Fr b) dK W W'∧
   ∃dY g',dY.length=aG.length∧AK P gl w0 fq St base l Dd {rec with state:=if x.code.isNone then .ready else .done,pending:=x.code} sh aC (I' x) Fr dK W' dY g':=by
 have hI:=h.inv
 refine⟨_,run_yield h.Dv (by rw[hrp];rfl),fun n=>roundIn_of_wpIn trivial ?_⟩
 have hdC:=hI.defers
 have hlW:=gk h.Dv
 have hdW:=gk h.dd
 have S7:({tmps:=(rec.params.zip #[v]).foldl (fun tmps x=>tmps.setIfInBounds x.1 x.2) rec.tmps,defers:=[]}:Act)=wd (aC.put (some ps) v) []:=by
  rw[hrp,hrt]
  cases aC
  simp[wd,Act.put]
 show rec.assign.wpIn (Fence.wide.inRound l) n P _ {tmps:=(rec.params.zip #[v]).foldl (fun tmps x=>tmps.setIfInBounds x.1 x.2) rec.tmps,defers:=[]} W
 rw[S7,←ajd]
 have gG:∀b o,dK b o→b≠l∧b≠Dd:=fun b o hp=>by
  rcases(h.kF b o hp).1 with hs|hf
  ·exact bc b o hs
  ·exact(h.fr b hf).2.2
 have dD:=hI.akM (S:=dK) (fun b o hp=>by
  rcases(h.kF b o hp).1 with hs|hf
  ·exact .inl (h.DZ b o hs).2
  ·have nQ:=h.fr b hf
   refine .inr ⟨by omega,nQ.2.1,fun hm=>h.bx b hm hf,?_⟩
   cases vc:g.ow b with
   |none=>rfl
   |some p=>exact absurd hf (h.ow b p vc).2) (fun D o hD x hx=>by
  rcases(h.kF D x hx).1 with hs|hf
  ·exact(h.DZ D x hs).2
  ·have:=(h.fr D hf).1
   have:=(mC D o hD).1
   omega)
 have cF:Inv gl w0 (FF fq Fr dK W g l Dd rec) ⟨sh,aG⟩ aC W {g with St:=fun b o=>g.St b o∨dK b o}:=by
  refine dD.yZ (fun b o hs=>hs.imp (hI.iB b o) id) (fun b o hs=>?_) (fun D o hD=>?_) (fun b o v hv=>hv) (Nat.le_refl _)
  ·rcases(dD.dj b o hs).1 with h1|h1
   ·exact .inl (.inl h1)
   ·exact .inr h1
  ·rcases hD with h1|⟨h1,h2⟩|⟨rfl,rfl⟩|⟨rfl,rfl⟩
   ·have:=dD.gu D o h1
    exact⟨this.1,this.2.1,this.2.2.1,fun x hx=>.inl (this.2.2.2 x hx)⟩
   ·refine⟨fun hm=>h.bx D hm h1,?_,h2,fun x hx=>?_⟩
    ·cases vc:g.ow D with
     |none=>rfl
     |some p=>exact absurd h1 (h.ow D p vc).2
    ·rcases hx with hx|hx
     ·exact .inr ((h.st D x hx).resolve_right fun hn=>hn h1)
     ·exact .inr hx
   ·have:=h.lo D (.inl rfl)
    exact⟨this.1,this.2.1,h.Dv,fun x hx=>hx.elim (fun hx=>absurd hx (this.2.2 x)) fun hx=>absurd rfl (gG D x hx).1⟩
   ·have:=h.lo D (.inr rfl)
    exact⟨this.1,this.2.1,h.dd,fun x hx=>hx.elim (fun hx=>absurd hx (this.2.2 x)) fun hx=>absurd rfl (gG D x hx).2⟩
 have gK:Inv gl w0 (FF fq Fr dK W g l Dd rec) ⟨de sh (some ps) (.v (.d d)),aG⟩ (aC.put (some ps) v) W {g with St:=fun b o=>g.St b o∨dK b o}:=
  cF.value (dst:=some ps) (.v _ _ _ (.d _ _ _ (hd.mono fun b o hp=>⟨.inr hp,rfl⟩)))
 refine uD hm rec.assign gK (uF _ Nn) fun x e1 a1 w1 g1 Oc hQ1 jS=>?_
 replace jS:=jS.any (gh:=hh.gh)
 obtain⟨⟨rfl,kT⟩,acu⟩:=hQ1
 have Gj:=Oc.gu l (.loop rec) (.inr (.inr (.inl ⟨rfl,rfl⟩)))
 refine⟨_,run_beginRound Gj.2.2.1 UF,?_⟩
 have hFl:¬Fr l:=fun hf=>(h.fr l hf).2.2.1 rfl
 have hFD:¬Fr Dd:=fun hf=>(h.fr Dd hf).2.2.2 rfl
 have IS:∀o,¬(fq.St l o∨dK l o):=fun o hx=>hx.elim (fun hx=>(wh l o hx).2.1 rfl) (fun hx=>(gG l o hx).1 rfl)
 have lW:=Oc.abS (IQ:={rec with state:=.busy}) Fs.1 D0.2.2 hFl (fun D o hD=>(mC D o hD).2.1) IS
 refine uD hm rec.body lW (uF _ kT) fun x e2 a2 w3 g2 Od hQ2 jf=>?_
 replace jf:=jf.any (gh:=hh.gh)
 obtain⟨⟨abT,B9⟩,acv⟩:=hQ2
 have UI:=Od.gu l _ (.inr (.inr (.inl ⟨rfl,rfl⟩)))
 have qK:=run_endRound (P:=P) x.code UI.2.2.1
 have qc:=Od.abS (IQ:={rec with state:=if x.code.isNone then .ready else .done,pending:=x.code}) Fs.1 D0.2.2 hFl (fun D o hD=>(mC D o hD).2.1) IS
 have apn:W.heap.size≤w3.heap.size:=Od.k8
 have Cm:zA (fun b=>¬Fr b) dK W (w3.putObj l (.loop {rec with state:=if x.code.isNone then .ready else .done,pending:=x.code})):=by
  refine⟨qc.below.os.trans hI.below.os.symm,qc.below.tape.trans hI.below.tape.symm,qc.below.output.trans hI.below.output.symm,by simp;exact apn,fun b hb hf=>?_,fun b o v hp hc=>(qc.cls b o v ⟨.inr hp,hc⟩).2⟩
  have hf:=Classical.not_not.1 hf
  have AL:W.heap[b]? =some W.heap[b]:=by simp[hb]
  rw[AL]
  exact(qc.gu b _ (.inr (.inl ⟨hf,AL⟩))).2.2.1
 have DO:aG.length≤e2.boxes.length:=Nat.le_trans acu.2.1 acv.2.1
 have eg:(e2.boxes.take aG.length).length =aG.length:=by simp;omega
 let W4:=w3.putObj l (.loop {rec with state:=if x.code.isNone then .ready else .done,pending:=x.code})
 let gc:Gh:=g2.cut aG.length
 have uJ:∀b o v,g.St b o→W.cell? ⟨b,o,none⟩=some v→g2.St b o∧W4.cell? ⟨b,o,none⟩=some v:=fun b o v hs hc=>qc.cls b o v ⟨.inl hs,hc⟩
 have apo:∀b o,St b o→g2.St b o:=fun b o hs=>qc.iB b o (.inr (h.DZ b o hs).1)
 have jR:∀(i:Nat)s,sh[i]? =some s→cQ w0.heap.size W4 gc (fun _ _ _ _=>False) s (aC.tmps.getD i undef):=by
  intro i s hs
  have uO:=List.all_eq_true.1 bq s (List.mem_of_getElem? hs)
  have h0:=hI.ak i s hs
  have ptr:IP s=true→(∀z,s≠.v z)→(∀z,s≠.t z)→s.stays=s→cQ w0.heap.size W4 gc (fun _ _ _ _=>False) s (aC.tmps.getD i undef):=by
   intro hp hv ht sP
   obtain⟨n1,n2,n3⟩:=jC i s hs hp
   have qS:i<aC.tmps.size:=by rw[hI.size];exact(List.getElem?_eq_some_iff.1 hs).1
   have Oe:a2.tmps.getD i undef=aC.tmps.getD i undef:=by
    rw[jf i n2,jS i n1,Qy _ _ _ _ qS]
    rw[if_neg (by simp;exact fun e=>n3 e.symm)]
   have akN:(e2.ak.getD i (.v .undef)).stays =s:=by
    rw[acv.2.2.1 i n2,acu.2.2.1 i n1]
    have:(de sh (some ps) (.v (.d d))).getD i (.v .undef)=s:=by
     simp only[de]
     rw[dB (fun e=>n3 e.symm),List.getD_eq_getElem?_getD,hs];rfl
    rw[this,sP]
   have ka:e2.ak.getD i (.v .undef)=s:=by
    revert akN
    cases s with
    |v z=>exact absurd rfl (hv z)
    |t z=>exact absurd rfl (ht z)
    |_=>cases e2.ak.getD i (.v .undef)<;>simp[Slot.stays]<;>intros<;>simp_all
   have h1:=kQ qc i
   rw[ka]at h1
   have pv:a2.eval (.tmp i)=a2.tmps.getD i undef:=rfl
   rw[pv,Oe]at h1
   exact Hg h0 h1 (by rw[hI.gq];exact Nat.le_refl _) _ hv ht
  cases s with
  |v z=>
   simp only[zO,Bool.and_eq_true]at uO
   exact .v _ _ _ ((h0.kz.free (O':=fun _ _ _=>False) uO.1.1).Io (fun b o v hs hc=>(uJ b o v hs hc).symm) (fun _ _ _ h=>h) uO.1.2 uO.2)
  |p b off=>exact ptr rfl (by simp) (by simp) rfl
  |m b=>exact ptr rfl (by simp) (by simp) rfl
  |_=>simp[zO]at uO
 have hnW:∀b,b<W.heap.size→b<W4.heap.size:=fun b hb=>Nat.lt_of_lt_of_le hb Cm.size
 have AM:=qc.norm
 have hIc:Inv gl w0 fq ⟨sh,e2.boxes.take aG.length⟩ aC W4 {g2.cut aG.length with ow:=fun b=>if b<W4.heap.size then g2.ow b else none}:=by
  refine⟨AM.below,hI.size,fun i s hs=>?_,?_,fun b bx ao h1 h2=>?_,fun i j ao h1 h2=>AM.nodup i j ao (Et h1).2 (Et h2).2,fun b o hs=>AM.iB b o (.inl hs),fun b o hs=>?_,fun b hb=>AM.dP b (zo hb),AM.lS,hI.defers,
   fun D o hD=>?_,fun b o v hv=>?_,Nat.le_trans hI.k8 (Nat.le_trans Od.k8 (by simp[W4]))⟩
  ·exact(jR i s hs).mono (fun b o h=>⟨h,.refl _ _ _⟩) (fun _ _ _=>rfl) (fun _ _ h=>h) (.refl _) fun _ _ _ _ h=>h.elim
  ·show(g2.bx.take aG.length).length =_
   have:=qc.gq
   rw[List.length_take,List.length_take,this]
  ·obtain⟨aP,h2⟩:=Et h2
   have wF:e2.boxes[b]? =some bx:=by
    simp only[List.getElem?_take]at h1
    rw[if_pos aP]at h1;exact h1
   exact(AM.boxes b bx ao wF h2).cut (ahB abT h1)
  ·obtain⟨h1,h2,h3⟩:=AM.dj b o hs
   refine⟨?_,fun hm=>h2 (zo hm),h3⟩
   rcases h1 with(h1|h1)|h1
   ·exact .inl h1
   ·exact(dD.dj b o (.inr h1)).1
   ·exact .inr h1
  ·have Cn:=AM.gu D o (.inl hD)
   refine⟨fun hm=>Cn.1 (zo hm),Cn.2.1,Cn.2.2.1,fun x hx=>?_⟩
   rcases Cn.2.2.2 x hx with h1|h1
   ·exact h1
   ·rcases(h.kF D x h1).1 with hs|hf
    ·exact(hI.gu D o hD).2.2.2 x (h.DZ D x hs).2
    ·have:=(h.fr D hf).1
     have:=(mC D o hD).1
     omega
  ·have:=hI.cls b o v hv
   exact AM.cls b o v ⟨.inl this.1,this.2⟩
 have hR:AK P gl w0 fq St base l Dd {rec with state:=if x.code.isNone then .ready else .done,pending:=x.code} sh aC (I' x) Fr dK W4 (e2.boxes.take aG.length) {g2.cut aG.length with ow:=fun b=>if b<W4.heap.size then g2.ow b else none}:=by
  have tV:∀b,Fr b→∃o,W.heap[b]? =some o:=fun b hf=>⟨W.heap[b]'(h.fr b hf).2.1,by simp⟩
  have oH:∀b,b=l∨b=Dd→∃o,(FF fq Fr dK W g l Dd {rec with state:=if x.code.isNone then .ready else .done,pending:=x.code}).df b o:=fun b hb=>by
   rcases hb with rfl|rfl
   ·exact⟨_,.inr (.inr (.inl ⟨rfl,rfl⟩))⟩
   ·exact⟨_,.inr (.inr (.inr ⟨rfl,rfl⟩))⟩
  refine⟨hIc,B9,by rw[eg];exact abT,fun b hm hf=>?_,fun b p ho=>?_,fun b o hs=>?_,fun b o hs=>⟨(h.DZ b o hs).1,apo b o hs⟩,fun b o hp=>⟨(h.kF b o hp).1,hnW b (h.kF b o hp).2⟩,fun b hf=>⟨(h.fr b hf).1,hnW b (h.fr b hf).2.1,(h.fr b hf).2.2⟩,(qc.gu l _ (.inr (.inr (.inl ⟨rfl,rfl⟩)))).2.2.1,(qc.gu Dd _ (.inr (.inr (.inr ⟨rfl,rfl⟩)))).2.2.1,fun b hb=>?_⟩
  ·obtain⟨o,ho⟩:=tV b hf
   exact(qc.gu b o (.inr (.inl ⟨hf,ho⟩))).1 (zo hm)
  ·simp only at ho
   split at ho
   ·refine⟨by assumption,fun hf=>?_⟩
    obtain⟨o,AL⟩:=tV b hf
    rw[(qc.gu b o (.inr (.inl ⟨hf,AL⟩))).2.1]at ho
    cases ho
   ·cases ho
  ·by_cases hf:Fr b
   ·left
    obtain⟨ob,AL⟩:=tV b hf
    rcases(qc.gu b ob (.inr (.inl ⟨hf,AL⟩))).2.2.2 o hs with h1|h1
    ·have:=(wh b o h1).1
     have:=(h.fr b hf).1
     omega
    ·exact h1
   ·exact .inr hf
  ·obtain⟨o,ho⟩:=oH b hb
   have Cn:=qc.gu b o ho
   refine⟨fun hm=>Cn.1 (zo hm),?_,fun x hx=>?_⟩
   ·simp only
    split
    ·exact Cn.2.1
    ·rfl
   ·rcases Cn.2.2.2 x hx with h1|h1
    ·rcases hb with rfl|rfl
     ·exact(wh _ x h1).2.1 rfl
     ·exact(wh _ x h1).2.2 rfl
    ·rcases hb with rfl|rfl
     ·exact(gG _ x h1).1 rfl
     ·exact(gG _ x h1).2 rfl
 have fin:∃x':Ex,(Ending.returned (Value.bool x.code.isNone))=.returned (.bool x'.code.isNone)∧zA (fun b=>¬Fr b) dK W W4∧
  ∃dY g',dY.length=aG.length∧AK P gl w0 fq St base l Dd {rec with state:=if x'.code.isNone then .ready else .done,pending:=x'.code} sh aC (I' x') Fr dK W4 dY g':=⟨x,rfl,Cm,_,_,eg,hR⟩
 cases x with
 |normal=>exact⟨_,_,qK,fin⟩
 |exit i=>exact⟨_,_,qK,fin⟩
 |ret=>exact⟨_,_,qK,fin⟩
theorem aR.reb{w:World}{St:Nat→Nat→Prop}{base zL:Nat}{O:Nat→Nat→Nat→Prop}{x:SV}{v:Value}(r:aR w St base O x v)(hx:x.aA=true):aR w St zL O x v:=by
 induction r with
 |d O x v hd=>exact .d O x v hd
 |own O sz L g cap hd cd ho=>exact .own O sz L g cap hd cd ho
 |full O sz L a hd=>exact .full O sz L a hd
 |ref=>simp[SV.aA]at hx
 |dg=>simp[SV.aA]at hx
 |aX O x off b o vs hf aW hc=>exact .aX O x off b o vs hf aW hc
 |ef O f first cap fv cv hf hc _ _ kZ k7=>
  simp only[SV.aA,Bool.and_eq_true]at hx
  exact .ef O f first cap fv cv hf hc (fun i x v a b=>kZ i x v a b (vJ.1 hx.1 x (List.mem_of_getElem? a))) (fun i x v a b=>k7 i x v a b (vJ.1 hx.2 x (List.mem_of_getElem? a)))
 |bh O sz L g cap vs h1 h2 h3 h4 h5 h6 h7=>exact .bh O sz L g cap vs h1 h2 h3 h4 h5 h6 h7
 |mp O l r es clock hh hs hl hc=>exact .mp O l r es clock hh hs hl hc
 |nest O LL gg cap bk cp h1 h2 h3 h4 h5 h6=>exact .nest O LL gg cap bk cp h1 h2 h3 h4 h5 h6
 |undef O v=>exact .undef O v
theorem Inv.drop{w0:World}{fq:S0}{ak sh:List Slot}{aG:List af}{a:Act}{w:World}{g:Gh}(hI:Inv gl w0 fq ⟨ak,aG⟩ a w g)(hl:sh.length=ak.length)
  (h:∀(i:Nat)s,sh[i]? =some s→s=.v .undef ∨∃s0,ak[i]? =some s0∧(s=s0∨s=s0.aa)):Inv gl w0 fq ⟨sh,aG⟩ a w g:=by
 refine⟨hI.below,by rw[hI.size];exact hl.symm,fun i s hs=>?_,hI.gq,hI.boxes,hI.nodup,hI.iB,hI.dj,hI.dP,hI.lS,hI.defers,hI.gu,hI.cls,hI.k8⟩
 rcases h i s hs with rfl|⟨s0,h0,rfl|rfl⟩
 ·exact .v _ _ _ (.undef _ _)
 ·exact hI.ak i s h0
 ·exact(hI.ak i s0 h0).aa
def S0.Sr(fq:S0)(Dd:Nat):S0:={fq with df:=fun D o=>fq.df D o∨(D=Dd∧o=.deferred (some []))}
def BR(I:Nat→List af→Prop)(X:Ex→List af→Prop)(k:Nat):Ex→List af→Prop
 | .normal =>I k
 |x=>X x
theorem adu(hm:P.follows .mixedOrders =true){w0:World}{fq:S0}{sh:List Slot}{aG:List af}{aC:Act}{w:World}{g:Gh}(hI:Inv gl w0 fq ⟨sh,aG⟩ aC w g)(bq:sh.all (zO aG.length)=true)(kU:aG.all (nJ aG.length)=true)
  {D3:Operand}{it:FuncId}{cap:List SV}(hg:aR w g.St w0.heap.size (fun _ _ _=>False) (.ef (.func it) [] cap) (aC.eval D3))(cd:SV.iZ cap=true){L:List D}(DK:Iter P gl it cap L)
  {ps:Nat}{assign body:Code}(jC:∀(t:Nat)s,sh[t]? =some s→IP s=true→t∉dr hh.gh assign∧t∉dr hh.gh body∧t≠ps)
  (I:Nat→List af→Prop)(X:Ex→List af→Prop)(h0:I 0 aG)
  (HU:∀(k:Nat)d dY,I k dY→L[k]? =some d→dY.length=aG.length→aw P gl (aF P gl) hh assign (fun x e1=>x=.normal ∧aw P gl (aF P gl) hh body (fun x e2=>(e2.boxes.take aG.length).all (nJ aG.length)=true∧BR I X (k+1) x (e2.boxes.take aG.length)) e1) ⟨de sh (some ps) (.v (.d d)),dY⟩)
  {Q:Exit→Act→World→Prop}(hQ:∀(x:Ex)dY w' g' Dd,BR I X L.length x dY→dY.length=aG.length→Inv gl w0 (fq.Sr Dd) ⟨sh,dY⟩ aC w' g'→w0.heap.size≤Dd→(∀o,¬fq.df Dd o)→(∀o,¬fq.St Dd o)→Q x.to (wd aC [{target:=.collected Dd,args:= #[]}]) w'):
  (Code.rangeFunc D3 #[ps] assign body).wpIn Fence.wide n P Q aC w:=by
 generalize hvg:aC.eval D3=vg at hg
 cases hg with
 |ef _ _ _ _ fv cv hf hc rf rc=>
  have Aw:fv= #[]:=by
   have:fv.size=0:=by simpa using hf.symm
   exact Array.eq_empty_of_size_eq_zero this
  subst Aw
  refine wpIn_rangeFunc fun fn _=>?_
  obtain⟨BS,Ss⟩:∃BS:Loop,BS={state:=.ready,pending:=none,fn,tmps:=aC.tmps,params:= #[ps],assign,body,defers:=w.heap.size}:=⟨_,rfl⟩
  obtain⟨w1,Co⟩:∃w1,(w.alloc (.deferred (some []))).alloc (.loop BS)=w1:=⟨_,rfl⟩
  have fg:w1.heap.size=w.heap.size+2:=by rw[←Co];simp
  have hL1:w1.heap[w.heap.size+1]? =some (.loop BS):=by
   rw[←Co]
   have:=World.alloc_heap_new (w.alloc (.deferred (some []))) (.loop BS)
   simpa using this
  have hD1:w1.heap[w.heap.size]? =some (.deferred (some [])):=by
   rw[←Co,jZ (w.alloc (.deferred (some []))) _ w.heap.size (by simp)]
   exact World.alloc_heap_new w _
  have hold:∀b,b<w.heap.size→w1.heap[b]? =w.heap[b]? :=fun b hb=>by
   rw[←Co,jZ (w.alloc (.deferred (some []))) _ b (by simp;omega),jZ w _ b hb]
  have hle:w0.heap.size≤w.heap.size:=hI.below.size
  have akO:∀b o,b<w.heap.size→w1.cell? ⟨b,o,none⟩=w.cell? ⟨b,o,none⟩:=fun b o hb=>World.cell?_of_block (hold b hb)
  have hIn:=hI.norm
  have dD:Inv gl w0 fq ⟨sh,aG⟩ aC w1 {g with ow:=fun b=>if b<w.heap.size then g.ow b else none}:=
   hIn.move (Yk bq kU) rfl (hI.below.trans ⟨by rw[←Co];rfl,by rw[←Co];rfl,by rw[←Co];rfl,by omega,fun k hk=>hold k (by omega)⟩) (by omega)
    (fun b o v hs dJ=>by rw[akO b o (hI.dj b o hs).2.2];exact dJ) (fun b hm=>hold b (hI.dP b hm).2) (fun b p _ _ hb=>hold b hb) (fun D o hD=>hold D (gk (hI.gu D o hD).2.2.1))
  refine⟨w.heap.size+1,[{target:=.collected w.heap.size,args:= #[]}],w1,{target:=.fn (.func it) cv,args:= #[.func (.yield (w.heap.size+1)) #[] #[]]},w1,it,#[.func (.yield (w.heap.size+1)) #[] #[]]++cv,w1,?_,?_,fun _ _=>trivial,?_,(fun h=>by cases h),?_⟩
  ·rw[←Co,Ss];exact run_enterLoop_outer _ _ _ _ _
  ·simp only[resolve,hvg]
   simp[go_sem]
  ·simp[invoke,go_sem,DK.1 _ _]
  ·have Fs:w0.heap.size≤w.heap.size+1∧w0.heap.size≤w.heap.size:=⟨by omega,hle⟩
   have D0:w.heap.size+1<w1.heap.size∧w.heap.size<w1.heap.size∧w.heap.size+1≠w.heap.size:=⟨by omega,by omega,by omega⟩
   have mC:∀D o,fq.df D o→D<w1.heap.size∧D≠w.heap.size+1∧D≠w.heap.size:=fun D o hD=>by have:=gk (hI.gu D o hD).2.2.1;omega
   have wh:∀b o,fq.St b o→b<w1.heap.size∧b≠w.heap.size+1∧b≠w.heap.size:=fun b o hs=>by have:=(hI.dj b o (hI.iB b o hs)).2.2;omega
   have bc:∀b o,g.St b o→b≠w.heap.size+1∧b≠w.heap.size:=fun b o hs=>by have:=(hI.dj b o hs).2.2;omega
   have main:=DK.2 w1 g.St (w.heap.size+1) cv (fun b o h=>by have:=(hI.dj b o h).2.2;omega) dD.lS hc (fun i x v hx hv=>?_)
    (fun q Fr dK pre W=>w1.heap.size≤W.heap.size∧∃x:Ex,(q=none↔x=.normal)∧(x=.normal →pre=L.take pre.length)∧∃dY g',dY.length=aG.length∧
      AK P gl w0 fq g.St w1.heap.size (w.heap.size+1) w.heap.size {BS with state:=if x.code.isNone then .ready else .done,pending:=x.code} sh aC (BR I X pre.length x) Fr dK W dY g') ?_ ?_ ?_
   ·refine callsIn_wide.2 (Calls.mono main ?_)
    rintro e W2 ⟨⟨v,rfl⟩,Fr,dK,pre,q,⟨JS,x,JT,No,dY,g',eg,hR⟩,hq⟩
    have qK:=run_endLoop (P:=P) hR.Dv (by cases x<;>simp[Ex.code])
    have qd:=hR.inv.other hR.Dv (Lw _) (Lw {BS with state:=.exhausted,pending:=x.code}) Fs.1 (fun D ob hD=>(mC D ob hD).2.1)
    have UJ:=hR.lo w.heap.size (.inr rfl)
    have wR:Inv gl w0 (fq.Sr w.heap.size) ⟨sh,dY⟩ aC (W2.putObj (w.heap.size+1) (.loop {BS with state:=.exhausted,pending:=x.code})) g':=by
     refine qd.yZ qd.iB (fun b o h=>(qd.dj b o h).1) (fun D o hD=>?_) qd.cls qd.k8
     rcases hD with hD|⟨rfl,rfl⟩
     ·exact qd.gu D o hD
     ·exact⟨UJ.1,UJ.2.1,(World.putObj_heap_other (by omega)).trans hR.dd,fun x hx=>absurd hx (UJ.2.2 x)⟩
    have mU:∀x',x=x'→BR I X L.length x' dY:=fun x' hx=>by
     subst hx
     have:=hR.i
     cases x with
     |normal=>
      have h1:=hq (JT.2 rfl)
      rw[h1]at this
      exact this
     |exit i=>exact this
     |ret=>exact this
    have hdC:=hI.defers
    have S7:({aC with defers:=[{target:=.collected w.heap.size,args:= #[]}]++aC.defers}:Act)=wd aC [{target:=.collected w.heap.size,args:= #[]}]:=by
     rw[hdC];rfl
    have RP:=hQ x dY _ g' w.heap.size (mU x rfl) eg wR hle (fun o hD=>(mC _ o hD).2.2 rfl) (fun o hs=>(wh _ o hs).2.2 rfl)
    refine⟨x.code,_,qK,?_⟩
    rw[S7]
    cases x with
    |normal=>exact RP
    |exit i=>exact wpIn_exit RP
    |ret=>exact wpIn_ret RP
   ·have wI:x.aA=true:=vJ.1 cd x (List.mem_of_getElem? hx)
    exact(((rc i x v hx hv).reb (zL:=0) wI).mono (fun b o h=>⟨h,.rP (hold b (hI.dj b o h).2.2)⟩) (fun b o hb=>absurd hb (Nat.not_lt_zero _)) _ (fun _ _ _ h=>h.elim)).reb wI
   ·rintro q Fr dK pre W W' qb uY ⟨JS,x,JT,No,dY,g',eg,hR⟩ hb f1 f2 p1 p2
    exact⟨Nat.le_trans JS hb.size,x,JT,No,dY,g',eg,hR.Sq bq (by omega) ⟨D0.1,D0.2.1⟩ (fun D o hD=>(mC D o hD).1) hb JS f1 f2 p1 p2⟩
   ·rintro Fr dK pre d v W ⟨JS,x,JT,No,dY,g',eg,hR⟩ hd hLd
    have hxn:=JT.1 rfl
    subst hxn
    subst Ss
    have Nn:=HU pre.length d dY hR.i hLd eg
    rw[←eg]at Nn
    obtain⟨tmps,hy,hr⟩:=hR.round (hh:=hh) hm (by rw[eg];exact bq) Fs D0 mC wh bc (ps:=ps) rfl rfl rfl rfl hd jC (I':=BR I X (pre.length+1)) Nn
    refine⟨_,tmps,_,_,hy,fun n=>(hr n).mono fun e W'⟨x',he,jF,apq,g2,pn,UK⟩=>⟨x'.code.isNone,he,jF,?_,x',?_,fun er=>?_,apq,g2,pn.trans eg,?_⟩⟩
    ·have:=gk UK.dd
     have h1:=UK.fr
     have:W.heap.size≤W'.heap.size:=jF.size
     omega
    ·cases x'<;>simp[Ex.code]
    ·have h1:=No rfl
     rw[List.length_append,List.length_singleton,List.take_add_one,hLd,←h1]
     rfl
    ·rw[List.length_append,List.length_singleton]
     exact UK
   ·subst Ss
    refine⟨Nat.le_refl _,.normal,by simp,fun _=>by simp,aG,_,rfl,⟨dD,h0,kU,fun _ _ h=>h,fun b p ho=>?_,fun b o h=>.inl h,fun b o h=>⟨h,h⟩,fun b o h=>⟨.inl h,by have:=(hI.dj b o h).2.2;omega⟩,fun b h=>h.elim,hL1,hD1,fun b hb=>?_⟩⟩
    ·simp only at ho
     split at ho
     ·exact⟨by omega,fun h=>h⟩
     ·cases ho
    ·have AF:¬b<w.heap.size:=by omega
     exact⟨fun hm=>AF (hI.dP b hm).2,by simp only;rw[if_neg AF],fun o h=>AF (hI.dj b o h).2.2⟩
end
structure y5(gl:Nat→Option D)(base:Nat)(S0i:S0)(Fr:Nat→Prop)(e:Env)(a:Act)(W:World)(g:Gh):Prop where
 inv:∃w0:World,w0.heap.size=base∧Inv gl w0 S0i e a W g
 bx:∀b,some b∈g.bx→Fr b
 ow:∀b p,g.ow b=some p→b<W.heap.size→Fr b
 st:∀b o,g.St b o→Fr b∨S0i.St b o
 fr:∀b,Fr b→base≤b∧b<W.heap.size
def vf(St:Nat→Nat→Prop):S0:={St:=St,df:=fun _ _=>False,cl:=fun _ _ _=>False}
def IT(Fr:Nat→Prop)(W:World)(g:Gh):S0:={St:=g.St,df:=fun D o=>¬Fr D∧W.heap[D]? =some o,cl:=fun b o v=>g.St b o∧W.cell? ⟨b,o,none⟩=some v,sz:=W.heap.size}
section
variable{P:Program}{gl:Nat→Option D}{hh:Hints}{n:Nat}{base:Nat}{St:Nat→Nat→Prop}{Fr:Nat→Prop}{e:Env}{a:Act}{W:World}{g:Gh}
theorem y5.yZ(h:y5 gl base (vf St) Fr e a W g):∃w0:World,w0.heap.size=base∧Inv gl w0 (IT Fr W g) e a W g:=by
 obtain⟨w0,h0,hI⟩:=h.inv
 refine⟨w0,h0,hI.yZ (fun _ _ h=>h) (fun _ _ h=>.inl h) (fun D o hD=>?_) (fun _ _ _ h=>h) (Nat.le_refl _)⟩
 obtain⟨h1,h2⟩:=hD
 refine⟨fun hm=>h1 (h.bx D hm),?_,h2,fun x hx=>hx⟩
 cases vc:g.ow D with
 |none=>rfl
 |some p=>exact absurd (h.ow D p vc (gk h2)) h1
theorem y5.anH(h:y5 gl base (vf St) Fr e a W g){w0:World}(h0:w0.heap.size=base)(pY:Inv gl w0 (IT Fr W g) e a W g){e':Env}{a':Act}{W':World}{g':Gh}(hI:Inv gl w0 (IT Fr W g) e' a' W' g'):
  y5 gl base (vf St) (fun b=>Fr b∨(W.heap.size≤b∧b<W'.heap.size)) e' a' W' g'∧zA Fr g.St W W'∧∀b o,g.St b o→g'.St b o:=by
 have aN:W.heap.size≤W'.heap.size:=hI.k8
 obtain⟨w1,h1,dD⟩:=h.inv
 have hold:∀b,b<W.heap.size→¬Fr b→some b∉g'.bx∧g'.ow b=none∧W'.heap[b]? =W.heap[b]? ∧∀x,g'.St b x→g.St b x:=fun b hb hf=>by
  have AL:W.heap[b]? =some W.heap[b]:=by simp[hb]
  have:=hI.gu b _ ⟨hf,AL⟩
  exact⟨this.1,this.2.1,this.2.2.1.trans AL.symm,this.2.2.2⟩
 refine⟨⟨⟨w0,h0,hI.yZ (fun b o hs=>hI.iB b o (dD.iB b o hs)) (fun b o hs=>?_) (fun D o hD=>hD.elim) (fun b o v hv=>hv.elim) (Nat.zero_le _)⟩,fun b hm=>?_,fun b p ho hb=>?_,fun b o hs=>?_,fun b hf=>?_⟩,
  ⟨hI.below.os.trans pY.below.os.symm,hI.below.tape.trans pY.below.tape.symm,hI.below.output.trans pY.below.output.symm,aN,fun b hb hf=>(hold b hb hf).2.2.1,fun b o v hs hc=>(hI.cls b o v ⟨hs,hc⟩).2⟩,fun b o hs=>hI.iB b o hs⟩
 ·rcases(hI.dj b o hs).1 with h2|h2
  ·have:=(dD.dj b o h2).1
   rw[h1]at this
   rw[h0]
   exact this
  ·exact .inr h2
 ·by_cases hf:Fr b
  ·exact .inl hf
  ·by_cases hb:b<W.heap.size
   ·exact absurd hm (hold b hb hf).1
   ·exact .inr ⟨by omega,(hI.dP b hm).2⟩
 ·by_cases hf:Fr b
  ·exact .inl hf
  ·by_cases eA:b<W.heap.size
   ·rw[(hold b eA hf).2.1]at ho;cases ho
   ·exact .inr ⟨by omega,hb⟩
 ·by_cases hf:Fr b
  ·exact .inl (.inl hf)
  ·by_cases hb:b<W.heap.size
   ·exact(h.st b o ((hold b hb hf).2.2.2 o hs)).imp .inl id
   ·exact .inl (.inr ⟨by omega,(hI.dj b o hs).2.2⟩)
 ·rcases hf with hf|hf
  ·have:=h.fr b hf;exact⟨this.1,by omega⟩
  ·refine⟨?_,hf.2⟩
   have:=pY.below.size
   omega
theorem y5.norm(h:y5 gl base (vf St) Fr e a W g):∃g',y5 gl base (vf St) Fr e a W g'∧g'.St=g.St∧∀b p,g'.ow b=some p→b<W.heap.size:=by
 obtain⟨w0,h0,hI⟩:=h.inv
 refine⟨_,⟨⟨w0,h0,hI.norm⟩,h.bx,fun b p ho hb=>?_,h.st,h.fr⟩,rfl,fun b p ho=>?_⟩
 ·simp only at ho
  rw[if_pos hb]at ho
  exact h.ow b p ho hb
 ·simp only at ho
  split at ho
  ·assumption
  ·cases ho
structure wS(P:Program)(gl:Nat→Option D) where
 base:Nat
 St:Nat→Nat→Prop
 l:Nat
 L:List D
 J:Option Unit→(Nat→Prop)→(Nat→Nat→Prop)→List D→World→Prop
 qX:∀b o,St b o→b<base
 Sq:∀q Fr dK pre W W' qb uY,J q Fr dK pre W→zA Fr dK W W'→(∀b,qb b→Fr b∨(W.heap.size≤b∧b<W'.heap.size))→(∀b,Fr b→qb b)→(∀b o,dK b o→uY b o)→
  (∀b o,uY b o→(dK b o∨qb b)∧b<W'.heap.size)→J q qb uY pre W'
 round:∀Fr dK pre d v W,J none Fr dK pre W→bp W dK d v→L[pre.length]? =some d→∃fn tmps assign body,(Instr.yield l #[v]).run P W=.ok (.round l fn tmps assign body) W∧
  ∀n,RoundIn Fence.wide n P l fn tmps assign body W fun e W'=>∃b,e=.returned (.bool b)∧zA (fun b=>¬Fr b) dK W W'∧J (bif b then none else some ()) Fr dK (pre++[d]) W'
def wS.uZ(C:wS P gl)(e:Env)(log:List D)(q:Option Unit)(a:Act)(W:World):Prop:=
 ∃Fr g,y5 gl C.base (vf C.St) Fr e a W g∧C.J q Fr g.St log W
theorem wS.go(C:wS P gl){log:List D}{q:Option Unit}(h:y5 gl C.base (vf C.St) Fr e a W g)(hJ:C.J q Fr g.St log W){w0:World}(h0:w0.heap.size=C.base)(pY:Inv gl w0 (IT Fr W g) e a W g){e':Env}{a':Act}{W':World}{g':Gh}
  (hI:Inv gl w0 (IT Fr W g) e' a' W' g'):C.uZ e' log q a' W':=by
 obtain⟨h1,h2,h3⟩:=h.anH h0 pY hI
 refine⟨_,g',h1,C.Sq _ _ _ _ _ _ _ _ hJ h2 (fun b hb=>hb) (fun b hb=>.inl hb) h3 (fun b o hs=>⟨?_,(hI.dj b o hs).2.2⟩)⟩
 rcases h1.st b o hs with hf|pZ
 ·exact .inr hf
 ·obtain⟨_,_,dD⟩:=h.inv
  exact .inl (dD.iB b o pZ)
def IW(C:wS P gl)(n:Nat)(c:Code)(Q:Ex→Env→List D→Option Unit→Prop)(e:Env)(log:List D)(q:Option Unit):Prop:=
 ∀a W,C.uZ e log q a W→c.wpIn Fence.wide n P (fun x a' W'=>∃xx e' pe q',x=Ex.to xx∧C.uZ e' pe q' a' W'∧Q xx e' pe q') a W
def OW(C:wS P gl)(n:Nat)(ops:Array Oper)(Q:Ex→Env→List D→Option Unit→Prop)(idx:List Nat)(e:Env)(log:List D)(q:Option Unit):Prop:=
 ∀a W,C.uZ e log q a W→wpOpsIn Fence.wide n P ops (fun x a' W'=>∃xx e' pe q',x=Ex.to xx∧C.uZ e' pe q' a' W'∧Q xx e' pe q') idx a W
theorem WQ{F:Fence}{c:Code}{Q:Exit→Act→World→Prop}:∀{m k:Nat},m≤k→∀{a:Act}{w:World},Code.roundsIn F n P c Q m a w→Code.roundsIn F n P c Q k a w
 |0,_,_,_,_,h=>h.elim
 |m+1,0,hk,_,_,_=>by omega
 |m+1,k+1,hk,a,w,h=>by
  refine wpIn_mono h fun x a' w' hx=>?_
  cases x with
  |normal=>exact WQ (by omega) hx
  |_=>exact hx
variable{C:wS P gl}{log:List D}{q:Option Unit}
theorem IW.mono{c:Code}{Q Q':Ex→Env→List D→Option Unit→Prop}(h:IW C n c Q e log q)(hq:∀x e l q,Q x e l q→Q' x e l q):IW C n c Q' e log q:=fun a W hH=>
 wpIn_mono (h a W hH) fun x a' W'⟨xx,e',l',q',h1,h2,h3⟩=>⟨xx,e',l',q',h1,h2,hq _ _ _ _ h3⟩
theorem IW.aw(hm:P.follows .mixedOrders =true){c:Code}{Q:Ex→Env→List D→Option Unit→Prop}(h:aw P gl (aF P gl) hh c (fun x e'=>Q x e' log q) e):IW C n c Q e log q:=by
 rintro a W ⟨Fr,g,hS,hJ⟩
 obtain⟨w0,h0,hI⟩:=hS.yZ
 have:=Xy (r:=none) (n:=n) (ds:=[]) hm c hI h (Q:=fun x a' W'=>∃xx e' pe q',x=Ex.to xx∧C.uZ e' pe q' a' W'∧Q xx e' pe q') (fun x e' a' W' g' bD hQ=>by
  refine⟨x,e',log,q,rfl,?_,hQ⟩
  rw[C4 bD.defers]
  exact C.go hS hJ h0 hI bD)
 rw[C4 hI.defers]at this
 exact this
theorem IW.seq{x y:Code}{Q:Ex→Env→List D→Option Unit→Prop}(h:IW C n x (fun ex e' l' q'=>match ex with| .normal =>IW C n y Q e' l' q'|ex=>Q ex e' l' q') e log q):IW C n (.seq x y) Q e log q:=fun a W hH=>by
 refine wpIn_seq (wpIn_mono (h a W hH) ?_)
 rintro ex a' W' ⟨xx,e',l',q',rfl,h2,h3⟩
 cases xx with
 |normal=>exact h3 a' W' h2
 |exit i=>exact⟨.exit i,e',l',q',rfl,h2,h3⟩
 |ret=>exact⟨.ret,e',l',q',rfl,h2,h3⟩
theorem IW.block{id:Nat}{b:Code}{Q:Ex→Env→List D→Option Unit→Prop}(h:IW C n b (fun ex e' l' q'=>match ex with| .normal =>Q .normal e' l' q'| .exit i=>cond (i==id) (Q .normal e' l' q') (Q (.exit i) e' l' q')| .ret =>Q .ret e' l' q') e log q):
  IW C n (.block id b) Q e log q:=fun a W hH=>by
 refine wpIn_block (wpIn_mono (h a W hH) ?_)
 rintro ex a' W' ⟨xx,e',l',q',rfl,h2,h3⟩
 cases xx with
 |normal=>exact⟨.normal,e',l',q',rfl,h2,h3⟩
 |exit i=>
  have h3:cond (i==id) (Q .normal e' l' q') (Q (.exit i) e' l' q'):=h3
  show(if i=id then _ else _)
  cases hb:(i==id)with
  |true=>
   rw[hb]at h3
   rw[if_pos (beq_iff_eq.1 hb)]
   exact⟨.normal,e',l',q',rfl,h2,h3⟩
  |false=>
   rw[hb]at h3
   rw[if_neg (beq_eq_false_iff_ne.1 hb)]
   exact⟨.exit i,e',l',q',rfl,h2,h3⟩
 |ret=>exact⟨.ret,e',l',q',rfl,h2,h3⟩
theorem IW.cond{t:Nat}{b:Bool}{x y:Code}{Q:Ex→Env→List D→Option Unit→Prop}(hs:e.ak[t]? =some (.v (.d (.bool b))))(h:IW C n (if b then x else y) Q e log q):IW C n (.cond (.tmp t) x y) Q e log q:=fun a W hH=>by
 have hH':=hH
 obtain⟨Fr,g,hS,_⟩:=hH'
 obtain⟨w0,_,hI⟩:=hS.inv
 have h1:=(hI.ak t _ hs).kz.data.xD
 exact wpIn_cond (t:=b) h1 (h a W hH)
theorem IW.loop{b:Code}{Q:Ex→Env→List D→Option Unit→Prop}(I:Nat→Env→List D→Option Unit→Prop)
  (hb:∀m e l q,I m e l q→IW C n b (fun ex e' l' q'=>match ex with| .normal =>(∃m',m'<m∧I m' e' l' q')|ex=>Q ex e' l' q') e l q):∀(m:Nat)(e:Env)(log:List D)(q:Option Unit),I m e log q→IW C n (.loop b) Q e log q:=by
 have key:∀(m:Nat)(e:Env)(log:List D)(q:Option Unit),I m e log q→∀a W,C.uZ e log q a W→Code.roundsIn Fence.wide n P b (fun x a' W'=>∃xx e' pe q',x=Ex.to xx∧C.uZ e' pe q' a' W'∧Q xx e' pe q') (m+1) a W:=by
  intro m
  induction m using Nat.strongRecOn with
  |_ m ih=>
   intro e log q hI a W hH
   refine wpIn_mono (hb m e log q hI a W hH) ?_
   rintro ex a' W' ⟨xx,e',l',q',rfl,h2,h3⟩
   cases xx with
   |normal=>
    obtain⟨m',mz,bD⟩:=h3
    have:=ih m' mz e' l' q' bD a' W' h2
    exact WQ (by omega) this
   |exit i=>exact⟨.exit i,e',l',q',rfl,h2,h3⟩
   |ret=>exact⟨.ret,e',l',q',rfl,h2,h3⟩
 exact fun m e log q hI a W hH=>wpIn_loop_rounds (m+1) (key m e log q hI a W hH)
theorem OW.nil{ops:Array Oper}{Q:Ex→Env→List D→Option Unit→Prop}(h:Q .normal e log q):OW C n ops Q [] e log q:=fun a W hH=>⟨.normal,e,log,q,rfl,hH,h⟩
theorem IW.region{id:Nat}{ops:Array Oper}{Q:Ex→Env→List D→Option Unit→Prop}(h:OW C n ops Q (List.range ops.size) e log q):IW C n (.region id ops false) Q e log q:=fun a W hH=>wpIn_region (h a W hH)
theorem OW.step{ops:Array Oper}{Q:Ex→Env→List D→Option Unit→Prop}{i:Nat}{rest:List Nat}{id:Nat}{aI:Bool}{o:Oper}(ho:ops[i]? =some o)
  (h:pO P gl (aF P gl) ops.toList id aI o e (fun e'=>OW C n ops Q rest e' log q)):OW C n ops Q (i::rest) e log q:=by
 rintro a W ⟨Fr,g,hS,hJ⟩
 obtain⟨w0,h0,hI⟩:=hS.yZ
 rw[wpOpsIn_cons]
 have:=K1 (r:=none) (n:=n) (ds:=[]) hI ho h (next:=wpOpsIn Fence.wide n P ops (fun x a' W'=>∃xx e' pe q',x=Ex.to xx∧C.uZ e' pe q' a' W'∧Q xx e' pe q') rest)
  (Q:=fun x a' W'=>∃xx e' pe q',x=Ex.to xx∧C.uZ e' pe q' a' W'∧Q xx e' pe q') (fun e' v W' g' bD hk=>by
    rw[C4 bD.defers]
    exact hk _ _ (C.go hS hJ h0 hI bD))
 rw[C4 hI.defers]at this
 exact this
theorem OW.yield{ops:Array Oper}{Q:Ex→Env→List D→Option Unit→Prop}{i:Nat}{rest:List Nat}{o:Oper}(ho:ops[i]? =some o)(hg:o.guard=none){c:Call}(hc:o.op=.call c){f x:Operand}(hf:c.callee=.value f)(hx:c.args= #[x]){d:Nat}(hd:o.dst=some d)
  (hsf:(Ab.bA gl e f).aa =.v (.d (.fn (.yield C.l)))){y:D}(hsx:(Ab.bA gl e x).aa =.v (.d y))(hy:C.L[log.length]? =some y)(hp:Mq e)
  (h1:OW C n ops Q rest ⟨e.ak.set d (.v (.d (.bool true))),e.boxes⟩ (log++[y]) none)(h2:OW C n ops Q rest ⟨e.ak.set d (.v (.d (.bool false))),e.boxes⟩ (log++[y]) (some ())):OW C n ops Q (i::rest) e log none:=by
 rintro a W ⟨Fr,g0,NU,hJ⟩
 obtain⟨g,hS,la,wB⟩:=NU.norm
 rw[←la]at hJ
 obtain⟨w0,h0,hI⟩:=hS.inv
 rw[wpOpsIn_cons]
 unfold wpOpIn
 simp only[ho]
 have hw:Region.wanted o (yielded ops a.tmps)=true:=by simp[Region.wanted,hg]
 rw[if_pos hw]
 refine⟨fun _ _=>trivial,?_⟩
 have JU:a.eval f=.func (.yield C.l) #[] #[]:=by
  have:=(hI.tW hsf).data
  generalize a.eval f=u at this
  cases this
  rfl
 have Jm:bp W g.St y (a.eval x):=(hI.tW hsx).data
 obtain⟨fn,tmps,assign,body,bC,hr⟩:=C.round Fr g.St log y (a.eval x) W hJ Jm hy
 have hex:(o.semAt Fence.wide.round a.eval).run P W=.ok (.round C.l fn tmps assign body) W:=by
  show(execOp a.eval o).run P W=_
  generalize a.eval=ρ at JU bC
  simp[execOp,hc,resolve,hf,hx,JU,invoke,go_sem,bC]
 rw[hex,Oper.uponIn_round]
 refine⟨fun h=>(by cases h),(hr (n-1)).mono ?_⟩
 rintro e1 W1 ⟨b,rfl,hB,Oc⟩
 show wpOpsIn _ _ _ _ _ rest (a.put o.dst (.bool b)) W1
 rw[hd]
 have NR:Inv gl (IM W1 C.base) (vf C.St) e a W1 g:=by
  have hle:=hI.below.size
  have fg:=hB.size
  have cK:(IM W1 C.base).heap.size =C.base:=Yj (by omega)
  refine hI.move hp (by rw[cK,h0]) ?_ hB.size (fun b o v hs hc=>hB.kF b o v hs hc) (fun b hm=>?_) (fun b p hw _ hb=>?_) (fun D o hD=>hD.elim)
  ·rw[h0]
   refine⟨rfl,rfl,rfl,by rw[cK];omega,fun k hk=>?_⟩
   show W1.heap[k]? =(W1.heap.extract 0 C.base)[k]?
   rw[Array.getElem?_extract,if_pos (by omega),Nat.zero_add]
  ·exact hB.ao b (hI.dP b hm).2 fun hn=>hn (hS.bx b hm)
  ·exact hB.ao b hb fun hn=>hn (hS.ow b p hw hb)
 have cK:(IM W1 C.base).heap.size =C.base:=Yj (by have:=hI.below.size;have:=hB.size;omega)
 have hv:=NR.value (dst:=some d) (s:=.v (.d (.bool b))) (v:=.bool b) (.v _ _ _ (.d _ _ _ (.bool b)))
 have hH:C.uZ ⟨e.ak.set d (.v (.d (.bool b))),e.boxes⟩ (log++[y]) (bif b then none else some ()) (a.put (some d) (.bool b)) W1:=by
  refine⟨Fr,g,⟨⟨_,cK,hv⟩,hS.bx,fun b p hw hb=>hS.ow b p hw (wB b p hw),hS.st,fun b hf=>⟨(hS.fr b hf).1,Nat.lt_of_lt_of_le (hS.fr b hf).2 hB.size⟩⟩,Oc⟩
 cases b with
 |true=>exact h1 _ _ hH
 |false=>exact h2 _ _ hH
end
def iz:Code→List Code
 | .seq a b=>iz a++iz b
 |c=>[c]
def vk(F:Fence)(n:Nat)(P:Program):List Code→(Exit→Act→World→Prop)→Act→World→Prop
 |[],Q,a,w=>Q .normal a w
 |c::l,Q,a,w=>c.wpIn F n P (Exit.then (vk F n P l Q) Q) a w
section
variable{P:Program}{gl:Nat→Option D}{hh:Hints}{F:Fence}{n:Nat}
theorem Xz{Q:Exit→Act→World→Prop}:∀(l m:List Code)(a:Act)(w:World),vk F n P l (Exit.then (vk F n P m Q) Q) a w→vk F n P (l++m) Q a w
 |[],m,a,w,h=>h
 |c::l,m,a,w,h=>by
  refine wpIn_mono (h:c.wpIn F n P _ a w) fun x a' w' hx=>?_
  cases x with
  |normal=>exact Xz l m a' w' hx
  |_=>exact hx
theorem Qj{Q:Exit→Act→World→Prop}:∀(c:Code)(a:Act)(w:World),vk F n P (iz c) Q a w→c.wpIn F n P Q a w
 | .seq x y,a,w,h=>by
   have h:vk F n P (iz x++iz y) Q a w:=h
   refine wpIn_seq (Qj x a w ?_)
   have key:∀(l m:List Code)(a:Act)(w:World),vk F n P (l++m) Q a w→vk F n P l (Exit.then (vk F n P m Q) Q) a w:=by
    intro l
    induction l with
    |nil=>intro m a w h;exact h
    |cons c l ih=>
     intro m a w h
     refine wpIn_mono (h:c.wpIn F n P _ a w) fun x a' w' hx=>?_
     cases x with
     |normal=>exact ih m a' w' hx
     |_=>exact hx
   have:=key _ _ a w h
   have mono:∀(l:List Code)(a:Act)(w:World)(R R':Exit→Act→World→Prop),(∀x a w,R x a w→R' x a w)→vk F n P l R a w→vk F n P l R' a w:=by
    intro l
    induction l with
    |nil=>intro a w R R' hr h;exact hr _ _ _ h
    |cons c l ih=>
     intro a w R R' hr h
     refine wpIn_mono (h:c.wpIn F n P _ a w) fun x a' w' hx=>?_
     cases x with
     |normal=>exact ih a' w' R R' hr hx
     |_=>exact hr _ _ _ hx
   refine mono _ a w _ _ (fun x a' w' hx=>?_) this
   cases x with
   |normal=>exact Qj y a' w' hx
   |_=>exact hx
 | .skip,a,w,h=>wpIn_mono (show Code.wpIn F n P _ _ a w from h) fun x a' w' hx=>by cases x<;>exact hx
 | .region ..,a,w,h=>wpIn_mono (show Code.wpIn F n P _ _ a w from h) fun x a' w' hx=>by cases x<;>exact hx
 | .cond ..,a,w,h=>wpIn_mono (show Code.wpIn F n P _ _ a w from h) fun x a' w' hx=>by cases x<;>exact hx
 | .block ..,a,w,h=>wpIn_mono (show Code.wpIn F n P _ _ a w from h) fun x a' w' hx=>by cases x<;>exact hx
 | .loop ..,a,w,h=>wpIn_mono (show Code.wpIn F n P _ _ a w from h) fun x a' w' hx=>by cases x<;>exact hx
 | .exit _,a,w,h=>wpIn_mono (show Code.wpIn F n P _ _ a w from h) fun x a' w' hx=>by cases x<;>exact hx
 | .ret,a,w,h=>wpIn_mono (show Code.wpIn F n P _ _ a w from h) fun x a' w' hx=>by cases x<;>exact hx
 | .goto _,a,w,h=>wpIn_mono (show Code.wpIn F n P _ _ a w from h) fun x a' w' hx=>by cases x<;>exact hx
 | .label _,a,w,h=>wpIn_mono (show Code.wpIn F n P _ _ a w from h) fun x a' w' hx=>by cases x<;>exact hx
 | .scope _,a,w,h=>wpIn_mono (show Code.wpIn F n P _ _ a w from h) fun x a' w' hx=>by cases x<;>exact hx
 | .rangeFunc ..,a,w,h=>wpIn_mono (show Code.wpIn F n P _ _ a w from h) fun x a' w' hx=>by cases x<;>exact hx
 | .refuse _,a,w,h=>wpIn_mono (show Code.wpIn F n P _ _ a w from h) fun x a' w' hx=>by cases x<;>exact hx
end
section
variable(P:Program)(gl:Nat→Option D)(C:bu)(h:Hints)
def nq:List Code→(Ex→Env→Prop)→Env→Prop
 |[],Q,e=>Q .normal e
 |c::l,Q,e=>aw P gl C h c (fun x e'=>match x with| .normal =>nq l Q e'| .exit i=>Q (.exit i) e'| .ret =>Q .ret e') e
def FG(fn:Func)(K:SV→Prop)(x:Ex)(e:Env):Prop:=match x with| .normal =>finish P fn e K| .ret =>finish P fn e K| .exit _=>False
end
section
variable{P:Program}{gl:Nat→Option D}{hh:Hints}{n:Nat}
theorem PI(hm:P.follows .mixedOrders =true){ds:List Deferred}{r:Option Nat}:∀(l:List Code){w0:World}{au:S0}{QA:Ex→Env→Prop}{e:Env}{a:Act}{w:World}{g:Gh}{Q:Exit→Act→World→Prop},
  Inv gl w0 au e a w g→nq P gl (aF P gl) hh l QA e→(∀x e' a' w' g',Inv gl w0 au e' a' w' g'→QA x e'→Q x.to (wd a' ds) w')→vk (FW r) n P l Q (wd a ds) w
 |[],_,_,_,_,_,_,_,_,hI,h,hQ=>hQ .normal _ _ _ _ hI h
 |c::l,w0,au,QA,e,a,w,g,Q,hI,h,hQ=>by
  refine Xy hm c hI h fun x e' a' w' g' bD hx=>?_
  cases x with
  |normal=>exact PI hm l bD hx hQ
  |exit i=>exact hQ (.exit i) e' a' w' g' bD hx
  |ret=>exact hQ .ret e' a' w' g' bD hx
theorem Qk{fn:Func}{args:List SV}{w:World}{St:Nat→Nat→Prop}{vs:Array Value}(qX:∀b o,St b o→b<w.heap.size)(pq:zx gl w St)(hlen:args.length=vs.size)
  (gi:∀(i:Nat)x v,args[i]? =some x→vs[i]? =some v→aR w St w.heap.size (fun _ _ _=>False) x v):
  Inv gl w (vf St) (enter fn.ntmps args) {tmps:=vs++Array.replicate (fn.ntmps-vs.size) undef,defers:=[]} w ⟨St,[],fun _=>none⟩:=by
 refine⟨Below.refl _ _,by simp[enter,hlen],fun i s hs=>?_,rfl,fun b bx ao h1=>by simp[enter]at h1,fun i j ao h1=>by simp at h1,fun _ _ h=>h,fun b o hb=>⟨.inl hb,by simp,qX b o hb⟩,fun b hb=>by simp at hb,pq,rfl,fun D o hD=>hD.elim,fun b o v hv=>hv.elim,Nat.zero_le _⟩
 simp only[enter]at hs
 rw[List.getElem?_append]at hs
 split at hs
 ·rename_i hi
  simp only[List.length_map]at hi
  simp only[List.getElem?_map,Option.map_eq_some_iff]at hs
  obtain⟨x,hx,rfl⟩:=hs
  have JR:i<vs.size:=by omega
  have:=gi i x vs[i] hx (by simp)
  have j8:(vs++Array.replicate (fn.ntmps-vs.size) undef).getD i undef=vs[i]:=by
   simp[Array.getElem?_append,JR]
  rw[j8]
  exact .v _ _ _ (this.mono (fun _ _ h=>⟨h,.refl _ _ _⟩) (fun _ _ _=>rfl) _ (fun _ _ _ h=>h.elim))
 ·have:=(List.mem_replicate.1 (List.mem_of_getElem? hs)).2
  subst this
  exact .v _ _ _ (.undef _ _)
theorem aes(hm:P.follows .mixedOrders =true){f:FuncId}{fn:Func}{c:Code}{args:List SV}{r:SV}(hf:P.funcs[f]? =some fn)(hb:fn.body=some c)(hE:oX P f){A B:List Code}{id:Nat}{D3:Operand}{ps:Nat}{assign body:Code}
  (RQ:iz c=A++.block id (.rangeFunc D3 #[ps] assign body)::B){it:FuncId}{cap:List SV}{L:List D}(DK:Iter P gl it cap L)(cd:SV.iZ cap=true)
  (hA:ct args (nq P gl (aF P gl) hh A (fun x e=>x=.normal ∧(Ab.bA gl e D3).aa =.v (.ef (.func it) [] cap)∧∃(sh:List Slot) (I:Nat→List af→Prop) (X:Ex→List af→Prop),sh.length=e.ak.length∧
    (∀(i:Nat)s,sh[i]? =some s→s=.v .undef ∨∃s0,e.ak[i]? =some s0∧(s=s0∨s=s0.aa))∧sh.all (zO e.boxes.length)=true∧e.boxes.all (nJ e.boxes.length)=true∧
    (∀(t:Nat)s,sh[t]? =some s→IP s=true→t∉dr hh.gh assign∧t∉dr hh.gh body∧t≠ps)∧I 0 e.boxes∧
    (∀(k:Nat)d dY,I k dY→L[k]? =some d→dY.length=e.boxes.length→aw P gl (aF P gl) hh assign (fun x e1=>x=.normal ∧aw P gl (aF P gl) hh body (fun x e2=>(e2.boxes.take e.boxes.length).all (nJ e.boxes.length)=true∧BR I X (k+1) x (e2.boxes.take e.boxes.length)) e1) ⟨de sh (some ps) (.v (.d d)),dY⟩)∧
    (∀dY,I L.length dY→dY.length=e.boxes.length→nq P gl (aF P gl) hh B (FG P fn (fun x=>x=r)) ⟨sh,dY⟩)∧
    (∀x dY,x≠.normal →X x dY→dY.length=e.boxes.length→x=.ret ∧finish P fn ⟨sh,dY⟩ (fun x=>x=r))) (enter fn.ntmps args)))(ha:pc args=none:=by rfl):aF P gl f args r:=by
 rw[CD ha]
 refine⟨hE,fun w St vs qX pq hlen gi=>(callsIn_wide (n:=0)).1 (callsIn_of_wp_marks hf hb trivial ?_)⟩
 have br:SV.iQ args:=by
  rw[SV.mO]
  intro x hx
  obtain⟨i,hi,rfl⟩:=List.mem_iff_getElem.1 hx
  exact(gi i _ (vs[i]'(by omega)) (by simp) (by simp)).wf
 have hI:=Qk (fn:=fn) qX pq hlen gi
 have hA:=hA br
 refine Qj c _ w ?_
 rw[RQ]
 refine Xz _ _ _ _ ?_
 refine PI (r:=none) (n:=0) (ds:=[]) hm A hI hA ?_
 rintro x e a1 w1 g1 dD ⟨rfl,apr,sh,I,X,jR,hs,uO,kU,jC,h0,HU,hB,hX⟩
 rw[C4 dD.defers]
 have cF:=dD.drop (ak:=e.ak) (aG:=e.boxes) jR hs
 have fin:∀(x:Ex)e' a' W' g' Dd,Inv gl w ((vf St).Sr Dd) e' a' W' g'→w.heap.size≤Dd→(x=.normal ∨x=.ret)→finish P fn e' (fun x=>x=r)→
   bodyPostM Fence.wide 0 P fn (fun e w'=>∃v,e=.returned v∧Below w.heap.size w w'∧∃cq ow,(∀b o,St b o→cq b o)∧(∀b o,cq b o→St b o∨(w.heap.size≤b∧b<w'.heap.size))∧zz w.heap.size w' cq ow r v) x.to (wd a' [{target:=.collected Dd,args:= #[]}]) W':=by
  intro x e' a' W' g' Dd bD JV hx mU
  have hD:=bD.gu Dd _ (.inr ⟨rfl,rfl⟩)
  have gK:Inv gl w (vf St) e' a' W' g':=bD.yZ bD.iB (fun b o h=>(bD.dj b o h).1) (fun D o hD=>hD.elim) (fun b o v hv=>hv.elim) (Nat.zero_le _)
  have vn:=gK.other (o':=.deferred none) hD.2.2.1 (ZW _) (ZW _) JV (fun D ob hD=>hD.elim)
  obtain⟨r',v,jS,bC,bG⟩:=PZ vn mU
  subst jS
  have akP:LeavesInM Fence.wide 0 P fn a'.tmps (fun e w'=>∃v,e=.returned v∧Below w.heap.size w w'∧∃cq ow,(∀b o,St b o→cq b o)∧(∀b o,cq b o→St b o∨(w.heap.size≤b∧b<w'.heap.size))∧zz w.heap.size w' cq ow r' v) [{target:=.collected Dd,args:= #[]}] .returning W':=
   ⟨by simp,.inl ⟨Dd,_,rfl,run_takeDeferred hD.2.2.1,v,bC,v,rfl,vn.below,g'.St,_,vn.iB,fun b o h=>(vn.dj b o h).1.imp (fun h=>h) fun h1=>⟨h1,(vn.dj b o h).2.2⟩,bG⟩⟩
  rcases hx with rfl|rfl<;>exact akP
 show(Code.block id (.rangeFunc D3 #[ps] assign body)).wpIn Fence.wide 0 P _ a1 w1
 refine wpIn_block (adu (hh:=hh) hm cF uO kU (dD.tW apr) cd DK jC I X h0 HU ?_)
 intro x dY w' g' Dd qK eg bD JV _ _
 cases x with
 |normal=>
  have hb:=hB dY qK eg
  refine PI (r:=none) hm B bD hb fun x e' a' W' g' acw hx=>?_
  cases x with
  |normal=>exact fin .normal e' a' W' g' Dd acw JV (.inl rfl) hx
  |ret=>exact fin .ret e' a' W' g' Dd acw JV (.inr rfl) hx
  |exit i=>exact hx.elim
 |exit i=>exact absurd (hX (.exit i) dY (by simp) qK eg).1 (by simp)
 |ret=>
  obtain⟨_,mU⟩:=hX .ret dY (by simp) qK eg
  exact fin .ret _ _ _ _ Dd bD JV (.inr rfl) mU
theorem ajg(hm:P.follows .mixedOrders =true){f:FuncId}{fn:Func}{c:Code}{cap:List SV}{L:List D}(hf:P.funcs[f]? =some fn)(hb:fn.body=some c)(hE:oX P f)(Ds:fn.results= #[])
  (hc:∀(C:wS P gl),C.L=L→SV.iQ cap→IW C 0 c (fun x e log q=>(x=.normal ∨x=.ret)∧(q=none→log=L)) (enter fn.ntmps (.d (.fn (.yield C.l))::cap)) [] none):Iter P gl f cap L:=by
 refine⟨hE,fun w St l vs qX pq hlen gi J akQ HU hJ0=>?_⟩
 let C:wS P gl:=⟨w.heap.size,St,l,L,J,qX,akQ,HU⟩
 have akR:∀(i:Nat)x v,(SV.d (.fn (.yield l))::cap)[i]? =some x→(#[Value.func (.yield l) #[] #[]]++vs)[i]? =some v→aR w St w.heap.size (fun _ _ _=>False) x v:=by
  intro i x v hx hv
  cases i with
  |zero=>
   simp at hx hv
   subst hx
   simp[Array.getElem?_append]at hv
   subst hv
   exact .d _ _ _ (.fn _)
  |succ i=>
   rw[List.getElem?_cons_succ]at hx
   rw[Array.getElem?_append_right (by simp)]at hv
   simp only[List.size_toArray,List.length_cons,List.length_nil,Nat.zero_add,Nat.add_sub_cancel]at hv
   exact gi i x v hx hv
 have anI:(SV.d (.fn (.yield l))::cap).length =(#[Value.func (.yield l) #[] #[]]++vs).size :=by simp[hlen];omega
 have hI:=Qk (gl:=gl) (fn:=fn) qX pq anI akR
 have br:SV.iQ cap:=by
  rw[SV.mO]
  intro x hx
  obtain⟨i,hi,rfl⟩:=List.mem_iff_getElem.1 hx
  exact(gi i _ (vs[i]'(by omega)) (by simp) (by simp)).wf
 have hH:C.uZ (enter fn.ntmps (.d (.fn (.yield l))::cap)) [] none {tmps:=(#[Value.func (.yield l) #[] #[]]++vs)++Array.replicate (fn.ntmps-(#[Value.func (.yield l) #[] #[]]++vs).size) undef,defers:=[]} w:=
  ⟨fun _=>False,⟨St,[],fun _=>none⟩,⟨⟨w,rfl,hI⟩,fun b hm=>by simp at hm,fun b p ho=>by simp at ho,fun b o hs=>.inr hs,fun b h=>h.elim⟩,hJ0⟩
 have hw:=hc C rfl br _ _ hH
 refine(callsIn_wide (n:=0)).1 (callsIn_of_wp hf hb trivial (wpIn_mono hw ?_))
 rintro x a' W' ⟨xx,e',log,q,rfl,⟨Fr,g',hS,hJ⟩,hx,hq⟩
 obtain⟨w0,h0,bD⟩:=hS.inv
 have bC:(results fn a'.tmps).run P W'=.ok (.tuple #[]) W':=by
  have:=G1 (P:=P) (fn:=fn) (tmps:=a'.tmps) (w:=W') (vs:=[]) (by rw[Ds];simp)
  exact this
 have mU:a'.defers=[]∧∃v,(results fn a'.tmps).run P W'=.ok v W'∧((∃v',Ending.returned v=.returned v')∧∃Fr dK pre q,J q Fr dK pre W'∧(q=none→pre=L)):=
  ⟨bD.defers,_,bC,⟨_,rfl⟩,Fr,g'.St,log,q,hJ,hq⟩
 rcases hx with rfl|rfl<;>exact mU
end
section
variable{P:Program}{gl:Nat→Option D}{hh:Hints}
theorem aet(hm:P.follows .mixedOrders =true){f:FuncId}{fn:Func}{c:Code}{args:List SV}{r:SV}(hf:P.funcs[f]? =some fn)(hb:fn.body=some c)(hE:oX P f){QA:Ex→Env→Prop}
  (h:ct args (aw P gl (aF P gl) hh c (fun x e=>(x=.normal ∨x=.ret)∧QA x e) (enter fn.ntmps args)))
  (fin:∀(w:World)(St:Nat→Nat→Prop)x e' a' w' g',Inv gl w (vf St) e' a' w' g'→QA x e'→∃v,(results fn a'.tmps).run P w'=.ok v w'∧∃cq ow,(∀b o,St b o→cq b o)∧(∀b o,cq b o→St b o∨(w.heap.size≤b∧b<w'.heap.size))∧zz w.heap.size w' cq ow r v)(ha:pc args=none:=by rfl):aF P gl f args r:=by
 rw[CD ha]
 refine⟨hE,fun w St vs qX pq hlen gi=>?_⟩
 have br:SV.iQ args:=by
  rw[SV.mO]
  intro x hx
  obtain⟨i,hi,rfl⟩:=List.mem_iff_getElem.1 hx
  exact(gi i _ (vs[i]'(by omega)) (by simp) (by simp)).wf
 have hI:=Qk (fn:=fn) qX pq hlen gi
 refine calls_of_wp hf hb (xE hm c hI (h br) fun x e' a' w' g' bD hk=>?_)
 obtain⟨hx,hk⟩:=hk
 obtain⟨v,bC,cq,ow,h1,h2,h3⟩:=fin w St x e' a' w' g' bD hk
 have:a'.defers=[]∧∃v,(results fn a'.tmps).run P w'=.ok v w'∧(∃v',(Ending.returned v)=.returned v'∧Below w.heap.size w w'∧∃cq ow,(∀b o,St b o→cq b o)∧
  (∀b o,cq b o→St b o∨(w.heap.size≤b∧b<w'.heap.size))∧zz w.heap.size w' cq ow r v'):=⟨bD.defers,v,bC,v,rfl,bD.below,cq,ow,h1,h2,h3⟩
 rcases hx with rfl|rfl<;>exact this
theorem agn(hm:P.follows .mixedOrders =true){f:FuncId}{fn:Func}{c:Code}{args:List SV}(hf:P.funcs[f]? =some fn)(hb:fn.body=some c)(hE:oX P f){t b it:Nat}{x:D}(jD:x.one=true)(Ds:fn.results= #[.tmp t])
  (h:ct args (aw P gl (aF P gl) hh c (fun ex e=>(ex=.normal ∨ex=.ret)∧(e.ak[t]? =some (.c (.func it) [] [.p b 0])∧e.boxes[b]? =some (.cells [.d x]))) (enter fn.ntmps args)))(ha:pc args=none:=by rfl):aF P gl f args (.ef (.func it) [] [.aX x 0]):=by
 refine aet hm hf hb hE h (ha:=ha) fun w St ex e' a' w' g' hI⟨hs,eI⟩=>?_
 have hr:=hI.ak t _ hs
 have bC:(results fn a'.tmps).run P w'=.ok (a'.tmps.getD t undef) w':=by
  have:=G1 (P:=P) (fn:=fn) (tmps:=a'.tmps) (w:=w') (vs:=[a'.tmps.getD t undef]) (by rw[Ds];simp[CF])
  exact this
 refine⟨_,bC,?_⟩
 generalize a'.tmps.getD t undef=v at hr
 cases hr with
 |c _ _ _ _ fv cv oF dJ rf rc=>
  have Aw:fv= #[]:=Array.eq_empty_of_size_eq_zero (by simpa using oF.symm)
  subst Aw
  have sQ:cv[0]? =some (cv[0]'(by simp at dJ;omega)):=by simp
  have hp:=rc 0 _ _ rfl sQ
  generalize cv[0]'(by simp at dJ;omega)=u at hp sQ
  cases hp with
  |p _ _ _ ao dX=>
   obtain⟨q0,cs,ty,q1,q2,q3,q4⟩:=hI.boxes b _ ao eI dX
   have tX:cs[0]? =some (cs[0]'(by simp at q3;omega)):=by simp
   have bG:=(q4 0 _ _ rfl tX).data
   generalize cs[0]'(by simp at q3;omega)=y at tX bG
   have cD:(x.cells)=[x]:=D.vL jD
   refine⟨fun b' o=>g'.St b' o∨(b'=ao∧o=0),fun _=>none,fun b' o h=>.inl (hI.iB b' o h),fun b' o h=>?_,?_⟩
   ·rcases h with h|⟨rfl,_⟩
    ·have:=hI.dj b' o h
     exact this.1.imp (fun h=>h) fun h1=>⟨h1,this.2.2⟩
    ·exact .inr (hI.dP b' (List.mem_of_getElem? dX))
   ·show aR w' _ 0 _ (.ef (.func it) [] [.aX x 0]) _
    refine .ef _ _ _ _ #[] cv rfl (by simpa using dJ) (fun i x v h=>by simp at h) (fun i z v' hz jq=>?_)
    cases i with
    |succ i=>simp at hz
    |zero=>
     simp at hz;subst hz
     rw[sQ]at jq;cases jq
     refine .aX _ x 0 ao 0 (fun _=>y) (fun c hc=>by rw[cD]at hc;rw[List.mem_singleton.1 hc];exact jD) (fun i hi=>?_) (fun i c hc=>?_)
     ·rw[cD]at hi
      have:i=0:=by simp at hi;omega
      subst this
      refine⟨?_,.inr ⟨rfl,rfl⟩⟩
      rw[cell_of_row w' ao (0+0) cs ty (0,0) q1];exact tX
     ·rw[cD]at hc
      cases i with
      |succ i=>simp at hc
      |zero=>simp at hc;subst hc;exact bG.mono fun b' o h=>⟨.inl h,rfl⟩
end
def BJ:List Slot→List Slot→Prop
 |[],[]=>True
 |s::l,t::m=>(s=.v .undef ∨∃x,t=.v x∧s=.v (aa x))∧BJ l m
 |_,_=>False
theorem Yl:∀{l m:List Slot},BJ l m→l.length=m.length
 |[],[],_=>rfl
 |s::l,t::m,h=>by simp[Yl h.2]
 |[],_::_,h=>h.elim
 |_::_,[],h=>h.elim
theorem Ym:∀{l m:List Slot},BJ l m→∀(i:Nat)s,l[i]? =some s→s=.v .undef ∨∃x,m[i]? =some (.v x)∧s=.v (aa x)
 |[],[],_,i,s,h=>by simp at h
 |s::l,t::m,h,0,s',h'=>by
  simp at h';subst h'
  rcases h.1 with h1|⟨x,rfl,h1⟩
  ·exact .inl h1
  ·exact .inr ⟨x,rfl,h1⟩
 |s::l,t::m,h,i+1,s',h'=>by simpa using Ym h.2 i s' (by simpa using h')
 |[],_::_,h,_,_,_=>h.elim
 |_::_,[],h,_,_,_=>h.elim
section
variable{P:Program}{gl:Nat→Option D}{n:Nat}{e:Env}{C:wS P gl}{log:List D}{q:Option Unit}
theorem IW.Ft{c:Code}{Q:Ex→Env→List D→Option Unit→Prop}{sh:List Slot}(hw:BJ sh e.ak)(h:IW C n c Q ⟨sh,[]⟩ log q):IW C n c Q e log q:=fun a W hH=>by
 refine h a W ?_
 obtain⟨Fr,g,hS,hJ⟩:=hH
 obtain⟨w0,h0,hI⟩:=hS.inv
 refine⟨Fr,g.cut 0,⟨⟨w0,h0,?_⟩,fun b hm=>by simp[Gh.cut]at hm,hS.ow,hS.st,hS.fr⟩,hJ⟩
 refine⟨hI.below,by rw[hI.size,Yl hw],fun i s hi=>?_,by simp[Gh.cut],fun b bx ao h1=>by simp at h1,fun i j ao h1=>by simp[Gh.cut]at h1,hI.iB,fun b o hs=>⟨(hI.dj b o hs).1,by simp[Gh.cut],(hI.dj b o hs).2.2⟩,fun b hm=>by simp[Gh.cut]at hm,hI.lS,hI.defers,fun D o hD=>hD.elim,fun b o v hv=>hv.elim,hI.k8⟩
 rcases Ym hw i s hi with rfl|⟨x,he,rfl⟩
 ·exact .v _ _ _ (.undef _ _)
 ·exact .v _ _ _ (hI.ak i _ he).kz.aa
end
def S8(rs:List SV):SV:=match rs with
 |[r]=>r
 |rs=>.aK rs
theorem yf.tM{w:World}{St:Nat→Nat→Prop}{O O':Nat→Nat→Nat→Nat→Prop}:∀{rs:List SV}{v:Value},yf w St O rs v→(∀j b a c,O j b a c→O' j b a c)→yf w St O' rs v
 |[r],v,hr,h=>aR.tM (show aR w St 0 (O 1) r v from hr) fun b a c ho=>h _ b a c ho
 |[],v,hr,h=>by
  obtain⟨us,h1,h2,h3⟩:=hr
  exact⟨us,h1,h2,fun j x y hx hy=>by simp at hx⟩
 |r1::r2::l,v,hr,h=>by
  obtain⟨us,h1,h2,h3⟩:=hr
  exact⟨us,h1,h2,fun j x y hx hy=>(h3 j x y hx hy).tM fun b a c ho=>h _ b a c ho⟩
section
variable{P:Program}{gl:Nat→Option D}{hh:Hints}
theorem adU{P:Program}{n:Nat}{c:Code}{Q:Exit→Act→World→Prop}{a:Act}{w:World}(h:(Hw c).wpIn Fence.wide n P (Exit.noGoto Q) a w):c.wpIn Fence.wide n P Q a w:=by
 have key:∀c':Code,c'.wpIn Fence.wide n P (Exit.noGoto Q) a w→c'.wpIn Fence.wide n P Q a w:=fun c' h=>wpIn_mono h fun e a w hq=>by
  cases e<;>first|exact hq|exact hq.elim
 cases c with
 |scope c'=>exact wpIn_wide.2 (wp_scope_straight (wpIn_wide.1 h))
 |_=>exact key _ h
theorem WR(hm:P.follows .mixedOrders =true){f:FuncId}{fn:Func}{c c':Code}{gs:List jo}{args:List SV}{p:Nat}{rs:List SV}{bk:SV}(hf:P.funcs[f]? =some fn)(hb:fn.body=some c)(eB:∀{Q:Exit→Act→World→Prop}{a:Act}{w:World},c'.wpIn Fence.wide 0 P (Exit.noGoto Q) a w→c.wpIn Fence.wide 0 P Q a w)(hE:oX P f)(DM:SV.iZ args=true){QA:Ex→Env→Prop}
  (h:ct args (aw P gl (aF P gl) hh c' (fun x e=>(x=.normal ∨x=.ret)∧iL gs e (QA x)) (enter fn.ntmps args)))
  (fin:∀(w w':World)(St:Nat→Nat→Prop)(vs:Array Value)(w0:World)(au:S0)x e' a' g',w0.heap.size=0→Inv gl w0 au e' a' w' g'→QA x e'→
    (∀t,t∉dr [] c'→a'.tmps.getD t undef=(vs++Array.replicate (fn.ntmps-vs.size) undef).getD t undef)→(∀b o,St b o→g'.St b o∧rR w w' b o)→
    (∀x y,args[p]? =some x→vs[p]? =some y→aR w St 0 (fun _ _ _=>False) (aa x) y)→args.length=vs.size→
    ∃v,∃ow:Nat→Option Nat,(results fn a'.tmps).run P w'=.ok v w'∧(∀b,ow b≠none→g'.ow b≠none)∧
     yf w' g'.St (fun j b a c=>ow b=some j∧(∃cur e,w'.heap[b]? =some (.cells cur e (0,0))∧cur.size=c)∧∀o,a≤o→¬g'.St b o) rs v∧
     ∀y,vs[p]? =some y→aR w' g'.St 0 (fun b a c=>ow b=some 0∧(∃cur e,w'.heap[b]? =some (.cells cur e (0,0))∧cur.size=c)∧∀o,a≤o→¬g'.St b o) bk y):RH P gl f args p rs bk:=by
 refine⟨hE,DM,fun w St A vs qX hA pq hlen gi=>?_⟩
 have br:SV.iQ args:=by
  rw[SV.mO]
  intro x hx
  obtain⟨i,hi,rfl⟩:=List.mem_iff_getElem.1 hx
  exact(gi i _ (vs[i]'(by omega)) (by simp) (by simp)).wf
 let w0:World:={w with heap:= #[]}
 have h0:w0.heap.size=0:=rfl
 let au:S0:={St:=St,df:=fun D o=>A D=none∧w.heap[D]? =some o,cl:=fun b o v=>St b o∧w.cell? ⟨b,o,none⟩=some v,sz:=w.heap.size}
 let g:Gh:=⟨St,[],fun b=>(A b).map fun i=>Pos.s i 0⟩
 have hI:Inv gl w0 au (enter fn.ntmps args) {tmps:=vs++Array.replicate (fn.ntmps-vs.size) undef,defers:=[]} w g:=by
  refine⟨⟨rfl,rfl,rfl,by rw[h0];exact Nat.zero_le _,fun k hk=>by rw[h0]at hk;omega⟩,by simp[enter,hlen],fun i s hs=>?_,rfl,fun b bx ao h1=>by simp[enter]at h1,fun i j ao h1=>by simp[g]at h1,fun _ _ h=>h,fun b o hb=>⟨.inl hb,by simp[g],qX b o hb⟩,fun b hb=>by simp[g]at hb,pq,rfl,fun D o hD=>⟨by simp[g],by simp[g,hD.1],hD.2,fun x hx=>hx⟩,fun b o v hv=>hv,Nat.le_refl _⟩
  simp only[enter]at hs
  rw[List.getElem?_append]at hs
  split at hs
  ·rename_i hi
   simp only[List.length_map]at hi
   simp only[List.getElem?_map,Option.map_eq_some_iff]at hs
   obtain⟨x,hx,rfl⟩:=hs
   have JR:i<vs.size:=by omega
   have:=gi i x vs[i] hx (by simp)
   have j8:(vs++Array.replicate (fn.ntmps-vs.size) undef).getD i undef=vs[i]:=by
    simp[Array.getElem?_append,JR]
   rw[j8]
   refine .v _ _ _ (this.tM fun b a' c' ho=>?_)
   obtain⟨o1,o2,o3⟩:=ho
   exact⟨by simp[g,o1],by rw[h0];exact Nat.zero_le _,by simp[g],o2,o3⟩
  ·have:=(List.mem_replicate.1 (List.mem_of_getElem? hs)).2
   subst this
   exact .v _ _ _ (.undef _ _)
 refine(callsIn_wide (n:=0)).1 (callsIn_of_wp hf hb trivial ?_)
 refine eB ?_
 have hk:=uD (r:=none) (n:=0) (ds:=[]) (Q:=Exit.noGoto (bodyPost P fn (fun e w'=>∃v,e=.returned v∧w'.os=w.os∧w'.tape=w.tape∧w'.output=w.output∧w.heap.size≤w'.heap.size∧(∀b,b<w.heap.size→A b=none→w'.heap[b]? =w.heap[b]?)∧
  ∃cq ow,(∀b o,St b o→cq b o∧rR w w' b o)∧(∀b o,cq b o→St b o∨((w.heap.size≤b∨A b≠none)∧b<w'.heap.size))∧
   yf w' cq (XO w.heap.size A w' cq ow) rs v∧∀y,vs[p]? =some y→aR w' cq 0 (XO w.heap.size A w' cq ow 0) bk y))) hm c' hI (h br) ?_
 ·rw[C4 rfl]at hk
  exact hk
 rintro x e1 a' w' g1 dD ⟨hx,hq⟩ eE
 obtain⟨e',g',bD,hq⟩:=EJ dD hq
 rw[C4 bD.defers]
 have uO:∀b,b<w.heap.size→A b=none→w'.heap[b]? =w.heap[b]? ∧g'.ow b=none∧∀o,g'.St b o→St b o:=fun b hb y6=>by
  have:=bD.gu b (w.heap[b]'hb) ⟨y6,by simp⟩
  exact⟨by rw[this.2.2.1];simp,this.2.1,this.2.2.2⟩
 have Ip:∀b o,St b o→g'.St b o∧rR w w' b o:=fun b o hs=>by
  refine⟨bD.iB b o hs,?_⟩
  cases y6:A b with
  |none=>exact .rP (uO b (qX b o hs) y6).1
  |some i=>
   obtain⟨cur,te,h1,h2⟩:=hA b i y6
   have ho:o<cur.size:=Nat.lt_of_not_le fun hle=>h2 o hle hs
   have hc:w.cell? ⟨b,o,none⟩=some cur[o]:=by
    have:=cell_of_row w b o cur te (0,0) h1
    rw[this];simp[ho]
   exact⟨(bD.cls b o _ ⟨hs,hc⟩).2.trans hc.symm,fun es cl IN=>by rw[h1]at IN;cases IN⟩
 obtain⟨v,ow,bC,vc,hr,wM⟩:=fin w w' St vs w0 au x e' a' g' h0 bD hq eE Ip (fun x y hx hy=>(gi p x y hx hy).aa) hlen
 have kU:∀{j b a' c'},(ow b=some j∧(∃cur e,w'.heap[b]? =some (.cells cur e (0,0))∧cur.size=c')∧∀o,a'≤o→¬g'.St b o)→XO w.heap.size A w' g'.St ow j b a' c':=fun{j b a' c'}ho=>by
  refine⟨ho.1,?_,ho.2.1,ho.2.2⟩
  rcases Nat.lt_or_ge b w.heap.size with hb|hb
  ·refine .inr fun y6=>?_
   exact vc b (by rw[ho.1];simp) (uO b hb y6).2.1
  ·exact .inl hb
 have FB:a'.defers=[]∧∃v,(results fn a'.tmps).run P w'=.ok v w'∧(∃v',(Ending.returned v)=.returned v'∧w'.os=w.os∧w'.tape=w.tape∧w'.output=w.output∧w.heap.size≤w'.heap.size∧(∀b,b<w.heap.size→A b=none→w'.heap[b]? =w.heap[b]?)∧
   ∃cq ow,(∀b o,St b o→cq b o∧rR w w' b o)∧(∀b o,cq b o→St b o∨((w.heap.size≤b∨A b≠none)∧b<w'.heap.size))∧
    yf w' cq (XO w.heap.size A w' cq ow) rs v'∧∀y,vs[p]? =some y→aR w' cq 0 (XO w.heap.size A w' cq ow 0) bk y):=by
  refine⟨bD.defers,v,bC,v,rfl,bD.below.os,bD.below.tape,bD.below.output,bD.k8,fun b hb y6=>(uO b hb y6).1,g'.St,ow,Ip,fun b o hs=>?_,?_,fun y hy=>(wM y hy).tM fun b a c ho=>kU ho⟩
  ·have aP:=(bD.dj b o hs).2.2
   rcases Nat.lt_or_ge b w.heap.size with hb|hb
   ·cases y6:A b with
    |none=>exact .inl ((uO b hb y6).2.2 o hs)
    |some i=>exact .inr ⟨.inr (by simp),aP⟩
   ·exact .inr ⟨.inl hb,aP⟩
  ·exact yf.tM hr fun j b a c ho=>kU ho
 rcases hx with rfl|rfl<;>exact FB
theorem G5(hm:P.follows .mixedOrders =true){f:FuncId}{args:List SV}{p:Nat}{y:SV}{rs:List SV}(hE:oX P f)(DM:SV.iZ args=true)(hp:args[p]? =some y)(ht:∀r∈rs,vY r=false)
  (kT:body P gl (aF P gl) hh f args fun x=>x=S8 rs):aF P gl f (qG p args) (.aK (aa y::rs)):=by
 rw[Q8]
 unfold body at kT
 split at kT
 ·rename_i fn hf
  split at kT
  ·rename_i c hb
   refine WR (hh:=hh) (gs:=[]) (c':=c) hm hf hb (fun h=>wpIn_mono h fun e a w hq=>by cases e<;>first|exact hq|exact hq.elim) hE DM (QA:=fun x e=>finish P fn e fun x=>x=S8 rs) (fun br=>?_) ?_
   ·refine od _ ?_ (kT br)
    intro x e hx
    cases x with
    |normal=>exact⟨.inl rfl,hx⟩
    |ret=>exact⟨.inr rfl,hx⟩
    |exit i=>exact hx.elim
   ·intro w w' St vs w0 au x e' a' g' h0 bD hq eE Ip hold hlen
    obtain⟨r',v,jS,bC,bG⟩:=PZ bD hq
    subst jS
    refine⟨v,fun b=>(zN g' fn.results.toList b).map (· +1),bC,fun b hb hn=>hb ?_,?_,fun y' mq=>?_⟩
    ·simp[zN,hn]
    ·have hO:∀j b a c,zY w0.heap.size w' g'.St (zN g' fn.results.toList) j b a c→(zN g' fn.results.toList b).map (· +1)=some (j+1)∧(∃cur e,w'.heap[b]? =some (.cells cur e (0,0))∧cur.size=c)∧∀o,a≤o→¬g'.St b o:=fun j b a c ho=>⟨by rw[ho.1];rfl,ho.2.2.1,ho.2.2.2⟩
     unfold yf
     match rs,ht,bG with
     |[r],ht,bG=>
      have hr:zz w0.heap.size w' g'.St (zN g' fn.results.toList) r v:=bG
      have UL:=ht r (by simp)
      cases r with
      |aK l=>cases UL
      |_=>exact aR.tM hr fun b a c ho=>hO 0 b a c ho
     |[],_,bG=>
      obtain⟨us,h1,h2,h3⟩:=bG
      exact⟨us,h1,h2,fun j x y hx hy=>by simp at hx⟩
     |r1::r2::l,_,bG=>
      obtain⟨us,h1,h2,h3⟩:=bG
      exact⟨us,h1,h2,fun j x y hx hy=>(h3 j x y hx hy).tM fun b a c ho=>hO j b a c ho⟩
    ·exact(hold y y' hp mq).mono Ip (fun b o hb=>by omega) _ (fun _ _ _ h=>h.elim)
  ·exact kT.elim
 ·exact kT.elim
theorem K3(hm:P.follows .mixedOrders =true){f:FuncId}{args:List SV}{p:Nat}{bk:SV}(hE:oX P f)(DM:SV.iZ args=true)(hp:p<args.length)(wM:bk≠.undef)
  (kT:Fo P gl (aF P gl) hh p f args fun x=>x=bk):aF P gl f (qG p args) (.aK [bk]):=by
 rw[Q8]
 unfold Fo at kT
 split at kT
 ·rename_i fn hf
  split at kT
  ·rename_i c hb
   cases yS:fn.results.isEmpty&& !(dr [] (Hw c)).contains p with
   |false=>rw[yS]at kT;exact kT.elim
   |true=>
    rw[yS]at kT
    simp only[cond_true]at kT
    simp only[Bool.and_eq_true,Array.isEmpty_iff,Bool.not_eq_true',List.contains_eq_mem,decide_eq_false_iff_not]at yS
    refine WR (hh:=hh) (gs:=ku hh.gh 3000000) (c':=Hw c) hm hf hb adU hE DM (QA:=fun x e=>(e.ak.getD p (.v .undef)).cC =bk) (fun br=>?_) ?_
    ·refine od _ ?_ (kT br)
     intro x e hx
     cases x with
     |normal=>exact⟨.inl rfl,hx⟩
     |ret=>exact⟨.inr rfl,hx⟩
     |exit i=>exact hx.elim
    ·intro w w' St vs w0 au x e' a' g' h0 bD hq eE Ip hold hlen
     have bC:(results fn a'.tmps).run P w'=.ok (.tuple #[]) w':=by
      have:=G1 (P:=P) (fn:=fn) (tmps:=a'.tmps) (w:=w') (vs:=[]) (by rw[yS.1];simp)
      exact this
     refine⟨_,fun b=>if g'.ow b=some (.s p 0)then some 0 else none,bC,fun b hb hn=>hb (by show(if g'.ow b=some (.s p 0)then some 0 else none)=none;rw[hn];simp),⟨#[],rfl,rfl,fun j x y hx hy=>by simp at hx⟩,fun y hy=>?_⟩
     have hs:cQ w0.heap.size w' g' (gp w0.heap.size w' g' p) (e'.ak.getD p (.v .undef)) (a'.tmps.getD p undef):=kQ bD p
     have j8:(vs++Array.replicate (fn.ntmps-vs.size) undef).getD p undef=y:=by
      have hpv:=(Array.getElem?_eq_some_iff.1 hy)
      obtain⟨h1,h2⟩:=hpv
      simp[Array.getElem?_append,h1,h2]
     rw[eE p yS.2,j8]at hs
     cases jR:e'.ak.getD p (.v .undef)with
     |v x=>
      rw[jR]at hs hq
      have hx:x=bk:=hq
      subst hx
      have:=hs.kz
      rw[h0]at this
      refine this.tM fun b a c ho=>⟨by show(if g'.ow b=some (.s p 0)then some 0 else none)=some 0;rw[if_pos ho.1],ho.2.2.2.1,ho.2.2.2.2⟩
     |_=>rw[jR]at hq;exact absurd hq.symm wM
  ·exact kT.elim
 ·exact kT.elim
end
inductive gM(P:Program):TypeId→List D→Prop
 |bool {t:TypeId} (h:P.underlying t=some .bool) (b:Bool):gM P t [.bool b]
 |int {t:TypeId} {k:IntKind} (h:P.underlying t=some (.int k)) (n:Int) (hn:iP k n=true):gM P t [.int k n]
 |str {t:TypeId} (h:P.underlying t=some .string) (s:List UInt8) (hs:s.length≤maxLen):gM P t [.str s]
 |jk {t e:TypeId} (h:P.underlying t=some (.slice e)):gM P t [.sl .nil 0 []]
 |sl {t e:TypeId} (h:P.underlying t=some (.slice e)) (b:Bool) (hb:eK P e=some b) (L:List (List D)) (hm:L.length≤maxLen) (hw:L.length*P.bytesOf e≤reachBytes) (hL:∀x∈L,gM P e x):
   gM P t [.sl .ro (P.cellsOf e) (L.map (pack b))]
 |struct {t:TypeId} {fs:Array Field} (h:P.underlying t=some (.struct fs)) (parts:List (List D)) (hl:parts.length=fs.size)
   (hp:∀(i:Nat)f p,fs[i]? =some f→parts[i]? =some p→gM P f.type p):gM P t parts.flatten
 |array {t e:TypeId} {n:Nat} (h:P.underlying t=some (.array n e)) (parts:List (List D)) (hl:parts.length=n) (hp:∀p∈parts,gM P e p):gM P t parts.flatten
theorem gM.is{P:Program}{t:TypeId}{xs:List D}(h:gM P t xs):Is P t xs:=by
 induction h with
 |bool h b=>exact .bool h b
 |int h n hn=>exact .int h n hn
 |str h s hs=>exact .str h s hs
 |jk h=>exact .jk h
 |sl h b hb L hm hw hL ih=>exact .sl h b hb L hm ih
 |struct h parts hl hp ih=>exact .struct h parts hl ih
 |array h parts hl hp ih=>exact .array h parts hl ih
section
variable{P:Program}{t:TypeId}{xs:List D}
theorem gM.Mp{e:TypeId}{b:Bool}(ht:P.underlying t=some (.slice e))(hb:eK P e=some b)(h:gM P t xs):
  xs=[.sl .nil 0 []]∨∃L:List (List D),xs=[.sl .ro (P.cellsOf e) (L.map (pack b))]∧L.length*P.bytesOf e≤reachBytes∧∀x∈L,gM P e x:=by
 cases h with
 |jk h=>exact .inl rfl
 |sl h b' eA L hm hw hL=>rw[ht]at h;cases h;rw[hb]at eA;cases eA;exact .inr ⟨L,rfl,hw,hL⟩
 |_=>simp_all
theorem gM.Bf{fs:Array Field}(ht:P.underlying t=some (.struct fs))(h:gM P t xs):
  ∃parts:List (List D),xs=parts.flatten∧parts.length=fs.size∧∀(i:Nat)f p,fs[i]? =some f→parts[i]? =some p→gM P f.type p:=by
 cases h with
 |struct h parts hl hp=>rw[ht]at h;cases h;exact⟨parts,rfl,hl,hp⟩
 |_=>simp_all
end
section
variable{H:Type}{P:Program}
theorem Su{e:TypeId}{d:DataW H}:∀{l:List (DataW H)},d∈l→∀n∈d.weights P e,n∈DataW.weightsAll P e l
 |[],h,_,_=>by cases h
 |a::l,h,n,hn=>by
  simp only[DataW.weightsAll,List.mem_append]
  rcases List.mem_cons.1 h with rfl|h
  ·exact .inl hn
  ·exact .inr (Su h n hn)
theorem aps{t e:TypeId}(hu:P.underlying t=some (.slice e)){elems rest:List (DataW H)}{d:DataW H}(hd:d∈elems){n:Nat}(hn:n∈d.weights P e):n∈(DataW.slice elems rest).weights P t:=by
 simp only[DataW.weights,hu,List.mem_cons,List.mem_append]
 exact .inr (.inl (Su hd n hn))
theorem anJ{t e:TypeId}(hu:P.underlying t=some (.slice e)){elems rest:List (DataW H×List MemPlace)}(hw:∀n∈(DataW.slice (elems.map (·.1)) (rest.map (·.1))).weights P t,n≤reachBytes):elems.length*P.bytesOf e≤reachBytes:=by
 have:=hw (((elems.map (·.1)).length +(rest.map (·.1)).length)*P.bytesOf e) (by simp[DataW.weights,hu])
 rw[List.length_map]at this
 exact Nat.le_trans (Nat.mul_le_mul_right _ (by omega)) this
theorem anK{t e:TypeId}{m:Nat}(hu:P.underlying t=some (.array m e)){parts:List (DataW H)}{d:DataW H}(hd:d∈parts){n:Nat}(hn:n∈d.weights P e):n∈(DataW.agg parts).weights P t:=by
 simp only[DataW.weights,hu]
 exact Su hd n hn
theorem anL{t:TypeId}{fs:Array Field}(hu:P.underlying t=some (.struct fs)){parts:List (DataW H)}{j:Nat}{f:Field}(hf:fs[j]? =some f){d:DataW H}(hd:parts[j]? =some d){n:Nat}(hn:n∈d.weights P f.type):n∈(DataW.agg parts).weights P t:=by
 simp only[DataW.weights,hu]
 refine DataW.weights_mem_each (j:=j) (t:=f.type) ?_ hd n hn
 rw[List.getElem?_map,Array.getElem?_toList,hf];rfl
end
section
variable{H:Type}{enc:TypeId×Value→H}{P:Program}{w:World}{L:List Nat}
theorem ahC(hL:xK P L=true):∀(fuel:Nat)(t:TypeId)(cs:List Value)(x:DataW H×List MemPlace),t∈L→DataW.trod enc P w 0 (fun _=>true) true fuel t cs=some x→(∀n∈x.1.weights P t,n≤reachBytes)→
  ∃xs:List D,gM P t xs∧xs.length=P.cellsOf t∧RL (yw w x.2) xs cs:=by
 intro fuel
 induction fuel with
 |zero=>intro t cs x _ h _;simp[DataW.trod]at h
 |succ fuel ih=>
  intro t cs x ht h hw
  have eU:=zh hL ht
  unfold wQ at eU
  split at eU
  ·rename_i hu
   obtain⟨b,rfl,rfl⟩:=DataW.trod_bool hu h
   exact⟨[.bool b],.bool hu b,(Nat.eq_of_beq_eq_true eU).symm,.cons ⟨rfl,.bool b⟩ .nil⟩
  ·rename_i k hu
   obtain⟨n,rfl,rfl,br⟩:=DataW.trod_int hu h
   exact⟨[.int k n],.int hu n br,(Nat.eq_of_beq_eq_true eU).symm,.cons ⟨rfl,.int k n br⟩ .nil⟩
  ·rename_i hu
   obtain⟨s,rfl,rfl,hs⟩:=DataW.trod_string hu h
   exact⟨[.str s.data.toList],.str hu _ (by simpa using hs),(Nat.eq_of_beq_eq_true eU).symm,.cons ⟨rfl,.str s hs⟩ .nil⟩
  ·rename_i e hu
   simp only[Bool.and_eq_true]at eU
   obtain⟨⟨h1,he⟩,FD⟩:=eU
   have he:e∈L:=by simpa using he
   have h1:=Nat.eq_of_beq_eq_true h1
   have FD:=Nat.le_of_ble_eq_true FD
   obtain⟨bb,eV⟩:∃bb,eK P e=some bb:=by
    have:=zh hL he
    unfold wQ at this
    unfold eK
    split at this<;>simp_all
   rcases DataW.trod_slice hu h with⟨rfl,rfl⟩|⟨a,len,cap,elems,rest,n,hn,rfl,rfl,_,JW,g8,fo,apt,_,_⟩
   ·exact⟨[.sl .nil 0 []],.jk hu,by rw[h1];rfl,.cons ⟨rfl,.jk 0⟩ .nil⟩
   ·cases hn
    have key:∀k,k≤len→∃M:List (List D),M.length=k∧∀i,i<k→∃y gj,M[i]? =some y∧w.cells? 0 (a.add (i*P.cellsOf e)) (P.cellsOf e)=some gj∧gM P e y∧y.length=P.cellsOf e∧
      RL (yw w ((elems++rest).flatMap (·.2))) y gj:=by
     intro k
     induction k with
     |zero=>intro _;exact⟨[],rfl,fun i hi=>by omega⟩
     |succ k JX=>
      intro hk
      obtain⟨M,hM,nS⟩:=JX (by omega)
      have hq:=apt k (by omega)
      have lf:elems[k]? =some (elems[k]'(by omega)):=List.getElem?_eq_getElem (by omega)
      rw[lf]at hq
      obtain⟨gj,jd,er⟩:=Option.bind_eq_some_iff.1 hq
      obtain⟨y,hy,UM,mu⟩:=ih e gj _ he er (fun n hn=>hw n (aps hu (List.mem_map.2 ⟨_,List.getElem_mem (by omega),rfl⟩) hn))
      refine⟨M++[y],by simp[hM],fun i hi=>?_⟩
      rcases Nat.lt_or_ge i k with h|h
      ·obtain⟨y',apu,q1,q2⟩:=nS i h
       exact⟨y',apu,by rw[List.getElem?_append_left (by omega)];exact q1,q2⟩
      ·have:i=k:=by omega
       subst this
       refine⟨y,gj,by rw[List.getElem?_append_right (by omega),hM];simp,jd,hy,UM,mu.mono (yw.mono fun p hp=>?_)⟩
       exact List.mem_flatMap.2 ⟨_,List.mem_append_left _ (List.getElem_mem (by omega)),hp⟩
    obtain⟨M,hM,nS⟩:=key len (Nat.le_refl _)
    have JY:∀y∈M,gM P e y∧y.length=P.cellsOf e∧∀c∈y,c.one=true:=by
     intro y hy
     obtain⟨i,hi,rfl⟩:=List.mem_iff_getElem.1 hy
     obtain⟨y',gj,q1,_,q2,q3,q4⟩:=nS i (by omega)
     rw[List.getElem?_eq_getElem hi]at q1
     cases q1
     refine⟨q2,q3,fun c hc=>?_⟩
     obtain⟨j,hj,rfl⟩:=List.mem_iff_getElem.1 hc
     have:=q4.length
     exact(q4.get j _ (gj[j]'(by omega)) (List.getElem?_eq_getElem hj) (List.getElem?_eq_getElem (by omega))).1
    have UN:∀y∈M,(pack bb y).cells =y:=fun y hy=>aep hL he eV (JY y hy).1.is (JY y hy).2.2
    refine⟨[.sl .ro (P.cellsOf e) (M.map (pack bb))],.sl hu bb eV M (by omega) (by rw[hM,←fo];exact anJ hu hw) (fun y hy=>(JY y hy).1),by rw[h1];rfl,.cons ⟨rfl,?_⟩ .nil⟩
    have hlen:(M.map (pack bb)).length =len:=by simp[hM]
    by_cases ml:a.spot=none
    ·obtain⟨b,off,spot⟩:=a
     simp only at ml
     subst ml
     have aW:∀o,o<len*P.cellsOf e→∃v,w.cell? ⟨b,off+o,none⟩=some v:=by
      intro o ho
      have hq:o / P.cellsOf e<len:=Nat.div_lt_of_lt_mul (by rw[Nat.mul_comm];exact ho)
      have Dn:=Nat.mod_lt o FD
      obtain⟨y,gj,q1,q2,q3,q4,q5⟩:=nS _ hq
      obtain⟨_,l1,l2⟩:=World.cells?_some q2
      have:=l2 (o % P.cellsOf e) Dn
      refine⟨gj[o % P.cellsOf e]'(by omega),?_⟩
      rw[List.getElem?_eq_getElem (by omega)]at this
      rw[←this]
      simp only[add_plain]
      congr 2
      rw[Nat.add_assoc]
      congr 1
      rw[Nat.mul_comm]
      exact(Nat.div_add_mod _ _).symm
     have hv:∀o,o<len*P.cellsOf e→w.cell? ⟨b,off+o,none⟩=some ((w.cell? ⟨b,off+o,none⟩).getD (.bool false)):=fun o ho=>by
      obtain⟨v,hv⟩:=aW o ho
      rw[hv];rfl
     have:=bp.sl (w:=w) (St:=FE (MemPlace.row ⟨b,off,none⟩ ((elems.length+rest.length)*P.cellsOf e)++(elems++rest).flatMap (·.2))) (P.cellsOf e) (M.map (pack bb)) b off cap
      (fun o=>(w.cell? ⟨b,off+o,none⟩).getD (.bool false)) (by omega) (by omega) (fun x hx=>by
        obtain⟨y,hy,rfl⟩:=List.mem_map.1 hx
        rw[UN y hy]
        exact(JY y hy).2.1) (fun x hx c hc=>by
        obtain⟨y,hy,rfl⟩:=List.mem_map.1 hx
        rw[UN y hy]at hc
        exact(JY y hy).2.2 c hc) (fun o ho=>by
        rw[hlen]at ho
        refine⟨hv o ho,List.mem_append_left _ (MemPlace.mem_row.2 ⟨o,?_,rfl⟩)⟩
        rw[Nat.add_mul];rw[fo];omega) (fun i x j c hi hj=>by
        rw[List.getElem?_map]at hi
        obtain⟨y,hy,rfl⟩:=Option.map_eq_some_iff.1 hi
        have qS:i<M.length:=(List.getElem?_eq_some_iff.1 hy).1
        have hym:y∈M:=List.mem_of_getElem? hy
        rw[UN y hym]at hj
        obtain⟨y',gj,q1,q2,q3,q4,q5⟩:=nS i (by omega)
        rw[hy]at q1
        cases q1
        obtain⟨_,l1,l2⟩:=World.cells?_some q2
        have lg:j<y.length:=(List.getElem?_eq_some_iff.1 hj).1
        have l3:=l2 j (by omega)
        rw[List.getElem?_eq_getElem (by omega)]at l3
        have hr:=(q5.get j c (gj[j]'(by omega)) hj (List.getElem?_eq_getElem (by omega))).2
        simp only[add_plain,Nat.add_assoc]at l3
        simp only[l3,Option.getD_some]
        exact hr.mono fun b' o' eA=>⟨List.mem_append_right _ eA,rfl⟩)
     rw[hlen]at this
     exact this
    ·have h0:len=0:=by
      rcases Nat.eq_zero_or_pos len with h|h
      ·exact h
      ·obtain⟨y,gj,q1,q2,q3,q4,q5⟩:=nS 0 h
       obtain⟨_,l1,l2⟩:=World.cells?_some q2
       have:=l2 0 FD
       rw[List.getElem?_eq_getElem (by omega)]at this
       exact absurd (World.cell?_spot this) (by simpa[Addr.add]using ml)
     subst h0
     have:M=[]:=List.length_eq_zero_iff.1 hM
     subst this
     exact .mY _ a cap ml
  ·rename_i n e hu
   simp only[Bool.and_eq_true]at eU
   obtain⟨he,hc⟩:=eU
   have he:e∈L:=by simpa using he
   have hc:=Nat.eq_of_beq_eq_true hc
   obtain⟨ys,m,hm,rfl,dJ,UM,ui⟩:=DataW.trod_array hu h
   cases hm
   have key:∀k,k≤n→∃M:List (List D),M.length=k∧(∀y∈M,gM P e y)∧M.flatten.length=k*P.cellsOf e∧RL (yw w (ys.flatMap (·.2))) M.flatten ((List.range k).map fun i=>(cs.drop (i*P.cellsOf e)).take (P.cellsOf e)).flatten :=by
    intro k
    induction k with
    |zero=>intro _;exact⟨[],rfl,by simp,by simp,by simp;exact .nil⟩
    |succ k JX=>
     intro hk
     obtain⟨M,hM,AN,Cp,y7⟩:=JX (by omega)
     have hq:=ui k (by omega)
     have lf:ys[k]? =some (ys[k]'(by omega)):=List.getElem?_eq_getElem (by omega)
     rw[lf]at hq
     obtain⟨y,hy,S9,mu⟩:=ih e _ _ he hq (fun n hn=>hw n (anK hu (List.mem_map.2 ⟨_,List.getElem_mem (by omega),rfl⟩) hn))
     refine⟨M++[y],by simp[hM],fun z hz=>?_,by simp[Cp,S9,Nat.add_mul],?_⟩
     ·rcases List.mem_append.1 hz with h|h
      ·exact AN z h
      ·simp at h;subst h;exact hy
     ·rw[List.range_succ,List.map_append,List.flatten_append,List.flatten_append]
      refine y7.append ?_
      simp only[List.map_cons,List.map_nil,List.flatten_cons,List.flatten_nil,List.append_nil]
      exact mu.mono (yw.mono fun p hp=>List.mem_flatMap.2 ⟨_,List.getElem_mem (by omega),hp⟩)
   obtain⟨M,hM,AN,Cp,y7⟩:=key n (Nat.le_refl _)
   refine⟨M.flatten,.array hu M hM AN,by rw[Cp,hc],?_⟩
   rw[←Yg (P.cellsOf e) n cs (by rw[dJ,hc])]at y7
   exact y7
  ·rename_i fs hu
   simp only[Bool.and_eq_true]at eU
   obtain⟨Jp,ub⟩:=eU
   split at ub
   ·rename_i tot acx
    have ub:=Nat.eq_of_beq_eq_true ub
    obtain⟨ys,m,hm,rfl,dJ,UM,ui⟩:=DataW.trod_struct hu h
    cases hm
    have key:∀k,k≤fs.size→∃M:List (List D),M.length=k∧(∀(i:Nat)f p,fs[i]? =some f→M[i]? =some p→gM P f.type p)∧M.flatten.length=((fs.toList.take k).map fun f=>P.cellsOf f.type).sum ∧
      RL (yw w (ys.flatMap (·.2))) M.flatten ((fs.toList.take k).map fun f=>(cs.drop f.offset).take (P.cellsOf f.type)).flatten :=by
     intro k
     induction k with
     |zero=>intro _;exact⟨[],rfl,fun i f p _ hp=>by simp at hp,by simp,by simp;exact .nil⟩
     |succ k JX=>
      intro hk
      obtain⟨M,hM,AN,Cp,y7⟩:=JX (by omega)
      have yR:fs[k]? =some (fs[k]'(by omega)):=Array.getElem?_eq_getElem (by omega)
      have hq:=ui k _ yR
      have lf:ys[k]? =some (ys[k]'(by omega)):=List.getElem?_eq_getElem (by omega)
      rw[lf]at hq
      have hfm:(fs[k]'(by omega)).type ∈L:=by simpa using List.all_eq_true.1 Jp _ (by simp:fs[k]'(by omega)∈fs.toList)
      obtain⟨y,hy,S9,mu⟩:=ih _ _ _ hfm hq (fun n hn=>hw n (anL hu (j:=k) yR (by rw[List.getElem?_map,lf];rfl) hn))
      have Of:fs.toList.take (k+1)=fs.toList.take k++[fs[k]'(by omega)]:=by
       rw[List.take_add_one]
       simp[yR]
      refine⟨M++[y],by simp[hM],fun i f p hf hp=>?_,?_,?_⟩
      ·rcases Nat.lt_or_ge i k with h|h
       ·rw[List.getElem?_append_left (by omega)]at hp
        exact AN i f p hf hp
       ·rw[List.getElem?_append_right (by omega),hM]at hp
        have JI:i=k:=by
         have:=(List.getElem?_eq_some_iff.1 hp).1
         simp at this
         omega
        subst JI
        simp at hp
        subst hp
        rw[yR]at hf
        cases hf
        exact hy
      ·rw[Of]
       simp[Cp,S9]
      ·rw[Of,List.map_append,List.flatten_append,List.flatten_append]
       refine y7.append ?_
       simp only[List.map_cons,List.map_nil,List.flatten_cons,List.flatten_nil,List.append_nil]
       exact mu.mono (yw.mono fun p hp=>List.mem_flatMap.2 ⟨_,List.getElem_mem (by omega),hp⟩)
    obtain⟨M,hM,AN,Cp,y7⟩:=key fs.size (Nat.le_refl _)
    have UO:fs.toList.take fs.size=fs.toList:=List.take_of_length_le (by simp)
    rw[UO]at Cp y7
    have Jy:=QL _ _ _ acx
    refine⟨M.flatten,.struct hu M hM AN,by rw[Cp,←ub,Jy];omega,?_⟩
    rw[←Xw cs fs.toList 0 tot acx (by rw[dJ,ub]),List.drop_zero]at y7
    exact y7
   ·cases ub
  ·cases eU
end
section
variable{H:Type}{enc:TypeId×Value→H}{P:Program}{W:World}{L:List Nat}
theorem ahD(hL:xK P L=true){t:TypeId}{v:Value}{d:DataW H}{ps:List MemPlace}{b:Bool}{r:Reach}{b0:Nat}(ht:t∈L)(hb:eK P t=some b)
  (nI:Value.okWide P W r b0 t v)(h:DataW.Trod enc P W 0 (fun _=>true) true t v d ps)(hw:∀n∈d.weights P t,n≤reachBytes):∃xs,gM P t xs∧bp W (FE ps) (pack b xs) v:=by
 obtain⟨fuel,hf⟩:=h
 obtain⟨xs,hi,hl,hr⟩:=ahC hL fuel t _ _ ht hf hw
 refine⟨xs,hi,?_⟩
 have eU:=zh hL ht
 unfold eK at hb
 cases b with
 |true=>
  have:∃cs,v=.agg cs:=by
   unfold Value.okWide at nI
   split at nI
   ·obtain⟨cs,h,_⟩:=nI;exact⟨cs,h⟩
   ·obtain⟨cs,h,_⟩:=nI;exact⟨cs,h⟩
   ·rename_i h1 h2
    split at hb
    ·rename_i fs hu;exact absurd hu (h1 fs)
    ·rename_i n e hu;exact absurd hu (h2 n e)
    ·cases hb
    ·cases hb
  obtain⟨cs,rfl⟩:=this
  simp only[Value.cells]at hr
  refine .agg xs cs (fun c hc=>?_) (by simpa using hr.length) (fun i c u hc hu=>(hr.get i c u hc (by simpa using hu)).2)
  obtain⟨j,hj,rfl⟩:=List.mem_iff_getElem.1 hc
  have lg:=hr.length
  exact(hr.get j _ (cs.toList[j]'(by omega)) (List.getElem?_eq_getElem hj) (List.getElem?_eq_getElem (by omega))).1
 |false=>
  have cD:∃y,xs=[y]:=by
   cases hi with
   |bool h b=>exact⟨_,rfl⟩
   |int h n hn=>exact⟨_,rfl⟩
   |str h s hs=>exact⟨_,rfl⟩
   |jk h=>exact⟨_,rfl⟩
   |sl h=>exact⟨_,rfl⟩
   |struct h=>rw[h]at hb;cases hb
   |array h=>rw[h]at hb;cases hb
  obtain⟨y,rfl⟩:=cD
  have hv:v.cells.toList=[v]:=by
   cases v with
   |agg cs=>
    exfalso
    unfold Value.okWide at nI
    split at nI
    ·rename_i h;rw[h]at hb;cases hb
    ·rename_i h;rw[h]at hb;cases hb
    ·unfold wQ at eU
     unfold Cell.okWide at nI
     split at nI<;>simp_all [Cell.ok]
   |_=>rfl
  rw[hv]at hr
  cases hr with
  |cons h _=>exact h.2
end
end Go.Proofs.Ytimbllcalipehaa.Ab
