/-
  The reference's symbols of a part, and the fault of modules.
-/
import Derived.Test.YtimbllcalipehaaTh
import Derived.Test.YtimbllcalipehaaTg
import Derived.Test.YtimbllcalipehaaTe
import Derived.Test.YtimbllcalipehaaChecked
import Derived.Test.YtimbllcalipehaaTd
set_option linter.unusedVariables false
set_option linter.unusedSimpArgs false
namespace Go.Proofs.Ytimbllcalipehaa.Ab
open Go
set_option maxRecDepth 4000
theorem Rv{ts:List ah}(h:dk ts){L:List D}{xs:D}(hx:aL 55 L xs)(hs:fm ts L):aF Try.prog gl 22 [.d xs] (match fF ts with| .error (c,s)=>.aK [.d (.sl .nil 0 []),.d (jA c s)]| .ok sy=>.aK [aO 6 (aM sy),.d eO]):=by
 have:=adJ h hx hs
 unfold fF
 unfold B3 at this
 cases hc:ja [] (oz ts)with
 |some p=>obtain⟨c,s⟩:=p;rw[hc]at this;exact this
 |none=>rw[hc]at this;exact this
theorem aaq{m:bt}(h:dk m.ax){d:D}(hd:mW m d):aF Try.prog gl 21 [.d d] (match fF m.ax with| .error (c,s)=>.aK [.d (.sl .nil 0 []),.d (jA c s)]| .ok sy=>.aK [aO 6 (aM sy),.d eO]):=by
 have:=adk h hd
 unfold fF
 unfold B3 bt.syms at this
 cases hc:ja [] (oz m.ax)with
 |some p=>obtain⟨c,s⟩:=p;rw[hc]at this;exact this
 |none=>rw[hc]at this;exact this
def eW(ts:List ah):List aq:=match fF ts with
 | .error _=>[]
 | .ok sy=>sy
theorem Rw{ts:List ah}(h:dk ts):(eW ts).length ≤4920:=by
 unfold eW
 split
 ·simp
 ·rename_i sy hs;exact EO h hs
theorem YE(ts:List ah){L:List D}{x:D}(os:List aq)(hx:aL 55 L x)(hs:fm ts L)(cE:dk ts)(hl:os.length≤2^30):
  body Try.prog gl (aF Try.prog gl) Ol 36 [.d x,aO 6 (aM os)] (fun r=>r=aO 6 (aM (os++eW ts))):=by
 rw[ak2]
 intro br
 have hB:=Rv cE hx hs
 obtain⟨f1,f2,f3,f4,hB⟩:∃f1 f2 f3 f4,aF Try.prog gl 22 [.d x] (.aK [aO 6 (aM (eW ts)),.d (.agg [f1,f2,f3,f4])]):=by
  unfold eW
  cases hb:fF ts with
  |error e=>obtain⟨c,s⟩:=e;rw[hb]at hB;exact⟨_,_,_,_,hB⟩
  |ok sy=>rw[hb]at hB;exact⟨_,_,_,_,hB⟩
 have J0:=Rw cE
 generalize eW ts=sy at hB J0 ⊢
 have bX:sy.length≤maxLen:=Nat.le_trans J0 (by decide)
 simp only[sS,sT,sZ]
 refine call2 hB ?_
 simp only[ej,dv,dw,sS,sT]
 have e0:aM os=aM (os++sy.take 0):=by simp
 rw[e0]
 refine eX (fun i=>[aO 6 (aM (os++sy.take i)),.d (bB 6 (aM sy)),.d (.int .i64 ((i:Nat):Int))]) (fun i=>[_]) sy.length (fun i hi I hI=>?_) (fun I=>?_)
 ·obtain⟨s,GA⟩:=get_some hi
  simp only[(cm 6 (aM sy)).len,eG,sS,sT]
  refine And.intro (fun _=>?_) (fun h=>absurd h (by simp;omega))
  simp only[(cm 6 (aM sy)).at (mP GA),rS,dG,lK,By,sS,sT]
  refine gB (M:=[s.enc]) (by simp[elems]) (by simp only[eG,List.length_append,List.length_take,List.length_singleton];omega) ?_
  refine aS (bf hi bX) ?_
  have:aM (os++sy.take i)++[s.enc]=aM (os++sy.take (i+1)):=by rw[dT GA];simp[aM]
  rw[this]
  exact hI
 ·simp only[(cm 6 (aM sy)).len,eG,sS,sT]
  refine And.intro (fun h=>absurd h (by simp)) (fun _=>?_)
  rw[List.take_length]
  exact⟨jY _ _,rfl⟩
theorem W8{ts:List ah}{L:List D}{x:D}{os:List aq}(hx:aL 55 L x)(hs:fm ts L)(cE:dk ts)(hl:os.length≤2^30):
  aF Try.prog gl 36 (qG 1 [.d x,aO 6 (aM os)]) (.aK [.d (bB 6 (aM os)),aO 6 (aM (os++eW ts))]):=by
 rw[←ej]
 refine G5 bw a7 (hh:=Ol) (by simp[SV.iZ,jY,SV.aA]) rfl (fun r hr=>?_) (YE ts os hx hs cE hl)
 simp at hr;subst hr;exact jX _ _
theorem aeP{ts:List ah}{L:List D}{x:D}(hx:aL 55 L x)(hs:fm ts L)(cE:dk ts):aF Try.prog gl 36 [.d x,.d (.sl .nil 0 [])] (aO 6 (aM (eW ts))):=by
 refine cz bw a7 (h:=Ol) ?_
 exact YE ts [] hx hs cE (by simp)
mutual
def xk:ah→Option nA
 | .mk s a b=>if s.kind==18 then(match fF a with
    | .error e=>some e
    | .ok _=>(match iX a with
      |some e=>some e
      |none=>(match fF b with
       | .error e=>some e
       | .ok _=>iX b)))else none
def iX:List ah→Option nA
 |[]=>none
 |t::l=>(match xk t with
  |some e=>some e
  |none=>iX l)
end
theorem ake{t:ah}(h:(t.s.kind==18)=true):xk t=(match fF t.th with
   | .error e=>some e
   | .ok _=>(match iX t.th with
     |some e=>some e
     |none=>(match fF t.el with
      | .error e=>some e
      | .ok _=>iX t.el))):=by
 cases t with
 |mk s a b=>
  have h:(s.kind==18)=true:=h
  simp only[xk,h,if_true];rfl
theorem amD{t:ah}(h:(t.s.kind==18)=false):xk t=none:=by
 cases t with
 |mk s a b=>
  have h:(s.kind==18)=false:=h
  simp only[xk,h];rfl
theorem L9:∀(a b:List ah),iX (a++b)=(match iX a with|some e=>some e|none=>iX b)
 |[],b=>rfl
 |t::a,b=>by
  rw[List.cons_append,iX,iX]
  cases xk t with
  |some e=>rfl
  |none=>exact L9 a b
theorem Ma{l:List ah}{i:Nat}{t:ah}{e:nA}(h:l[i]? =some t)(hi:iX (l.take i)=none)(ht:xk t=some e):iX l=some e:=by
 have:iX (l.take (i+1))=some e:=by rw[dT h,L9,hi];simp only[iX,ht]
 rw[←List.take_append_drop (i+1) l,L9,this]
theorem Zw{l:List ah}{i:Nat}{t:ah}(h:l[i]? =some t)(hi:iX (l.take i)=none)(ht:xk t=none):iX (l.take (i+1))=none:=by
 rw[dT h,L9,hi];simp only[iX,ht]
mutual
theorem amE:∀(t:ah)(out:List ay)(m u:Int)(th:Bool),(∃o,gT t out m u th=.ok o∧xk t=none)∨(∃e,gT t out m u th=.error e∧xk t=some e)
 | .mk s a b,out,m,u,th=>by
   simp only[gT,xk]
   split
   ·cases fF a with
    |error e=>exact .inr ⟨e,rfl,rfl⟩
    |ok sy=>
     simp only
     rcases H9 a (out++[⟨m,u,th,sy,[],true,false⟩]) m out.length true with⟨o,h1,h2⟩|⟨e,h1,h2⟩
     ·simp only[h1,h2]
      cases fF b with
      |error e=>exact .inr ⟨e,rfl,rfl⟩
      |ok lu=>
       simp only
       exact H9 b (j7 o out.length lu) m out.length false
     ·simp only[h1,h2]
      exact .inr ⟨e,rfl,rfl⟩
   ·exact .inl ⟨out,rfl,rfl⟩
theorem H9:∀(l:List ah)(out:List ay)(m u:Int)(th:Bool),(∃o,gL l out m u th=.ok o∧iX l=none)∨(∃e,gL l out m u th=.error e∧iX l=some e)
 |[],out,m,u,th=>.inl ⟨out,rfl,rfl⟩
 |t::l,out,m,u,th=>by
  simp only[gL,iX]
  rcases amE t out m u th with⟨o,h1,h2⟩|⟨e,h1,h2⟩
  ·simp only[h1,h2]
   exact H9 l o m u th
  ·simp only[h1,h2]
   exact .inr ⟨e,rfl,rfl⟩
end
theorem R2{l:List ah}{c:Int}{s:aq}(h:iX l=some (c,s)):c≠0:=by
 rcases H9 l [] 0 0 true with⟨o,h1,h2⟩|⟨e,h1,h2⟩
 ·rw[h]at h2;cases h2
 ·rw[h]at h2;cases h2;exact BO l h1
def yL(o:Option nA):D:=match o with
 |some (c,s)=>jA c s
 |none=>eO
def O0(ts:List ah):Prop:=∀{L:List D}{x:D},aL 55 L x→fm ts L→dk ts→aF Try.prog gl 56 [.d x] (.d (yL (iX ts)))
theorem ad9(ts:List ah)(IH:∀iG,ah.bQ iG<ah.bQ ts→O0 iG):O0 ts:=by
 intro L x hx hs cE
 have h0:=ah.tz ts
 have bX:ts.length≤maxLen:=Nat.le_trans (Nat.le_trans h0 cE.sz) (by decide)
 refine a8 (ak9 ..) fun br=>?_
 simp only[sS,sT,sZ]
 refine n9 (fun i=>iX (ts.take i)=none) (fun i=>[.d x,.d (.int .i64 ((i:Nat):Int))]) (fun i=>[[.d (.int .i64 0),.d (.int .i64 0),.d (.int .i64 0),.d (.str [])]]) ts.length rfl (fun i hi hJ I hI=>?_) (fun hJ I=>?_)
 ·simp only[hx.len,hs.len,sS,sT]
  refine And.intro (fun _=>?_) (fun h=>absurd h (by simp;omega))
  obtain⟨t,ht⟩:=get_some hi
  obtain⟨y,hy,eU⟩:=hs.at_ ht
  obtain⟨c,bd,al,yt,ye,Lt,Le,hc⟩:=eU.out
  have hz:=ah.BM ht
  have AE:=t.zj
  have nB:=cE.th (List.mem_of_getElem? ht)
  simp only[hx.at hy,jl,hc.l0,ek,sS]
  refine And.intro (fun hk=>?_) (fun hk=>?_)
  ·have bY:(t.s.kind==18)=false:=by simpa[bne]using hk
   refine aS (bf hi bX) ?_
   exact hI (Zw ht hJ (amD bY))
  have bY:(t.s.kind==18)=true:=by simpa[bne]using hk
  have ux:=ake bY
  intro I3 gK
  refine gK _ _ ?_
  simp only[hx.at hy,jl,hc.GC,hc.GD,sS,sT]
  refine And.intro (fun _=>?_) (fun h=>absurd h (by decide))
  refine And.intro (fun h=>absurd h (by decide)) (fun _=>?_)
  have nW:=Rv nB.1 hc.iV hc.fL
  cases g9:fF t.th with
  |error e=>
   obtain⟨c0,s0⟩:=e
   rw[g9]at nW ux
   refine call2 nW ?_
   simp only[jA,dv,dw,z4,dH,gf,ek,oe (zt g9),sS,sT]
   refine And.intro (fun _=>?_) (fun h=>absurd h (by decide))
   rw[Ma ht hJ ux]
   rfl
  |ok sy=>
  rw[g9]at nW ux
  refine call2 nW ?_
  simp only[eO,dv,dw,z4,dH,gf,ek,sS,sT]
  refine And.intro (fun h=>absurd h (by decide)) (fun _=>?_)
  refine eD (IH t.th (by omega) hc.iV hc.fL nB.1) ?_
  cases yQ:iX t.th with
  |some e=>
   obtain⟨c0,s0⟩:=e
   simp only[yQ]at ux
   simp only[yL,jA,dv,dw,z4,dH,gf,ek,oe (R2 yQ),sS,sT]
   refine And.intro (fun _=>?_) (fun h=>absurd h (by decide))
   rw[Ma ht hJ ux]
  |none=>
  simp only[yQ]at ux
  simp only[yL,eO,dv,dw,z4,dH,gf,ek,sS,sT]
  refine And.intro (fun h=>absurd h (by decide)) (fun _=>?_)
  refine aS (show aj none .add (.d (.int .i64 0)) (.d (.int .i64 1))=some (.d (.int .i64 1)) from rfl) ?_
  refine gK _ _ ?_
  simp only[hx.at hy,jl,hc.GC,hc.GD,sS,sT]
  refine And.intro (fun _=>?_) (fun h=>absurd h (by decide))
  refine And.intro (fun _=>?_) (fun h=>absurd h (by decide))
  have pD:=Rv nB.2 hc.fo hc.fG
  cases jE:fF t.el with
  |error e=>
   obtain⟨c0,s0⟩:=e
   rw[jE]at pD ux
   refine call2 pD ?_
   simp only[jA,dv,dw,z4,dH,gf,ek,oe (zt jE),sS,sT]
   refine And.intro (fun _=>?_) (fun h=>absurd h (by decide))
   rw[Ma ht hJ ux]
   rfl
  |ok lu=>
  rw[jE]at pD ux
  refine call2 pD ?_
  simp only[eO,dv,dw,z4,dH,gf,ek,sS,sT]
  refine And.intro (fun h=>absurd h (by decide)) (fun _=>?_)
  refine eD (IH t.el (by omega) hc.fo hc.fG nB.2) ?_
  cases DL:iX t.el with
  |some e=>
   obtain⟨c0,s0⟩:=e
   simp only[DL]at ux
   simp only[yL,jA,dv,dw,z4,dH,gf,ek,oe (R2 DL),sS,sT]
   refine And.intro (fun _=>?_) (fun h=>absurd h (by decide))
   rw[Ma ht hJ ux]
  |none=>
  simp only[DL]at ux
  simp only[yL,eO,dv,dw,z4,dH,gf,ek,sS,sT]
  refine And.intro (fun h=>absurd h (by decide)) (fun _=>?_)
  refine aS (show aj none .add (.d (.int .i64 1)) (.d (.int .i64 1))=some (.d (.int .i64 2)) from rfl) ?_
  refine gK _ _ ?_
  simp only[sS,sT]
  refine And.intro (fun h=>absurd h (by decide)) (fun _=>?_)
  refine aS (bf hi bX) ?_
  exact hI (Zw ht hJ ux)
 ·simp only[hx.len,hs.len,sS,sT]
  refine And.intro (fun h=>absurd h (by simp)) (fun _=>?_)
  rw[List.take_length]at hJ
  simp only[uB,dv,dw,fu,dH,sS,sT]
  rw[hJ]
  rfl
theorem adN(ts:List ah):O0 ts:=by
 have key:∀n ts,ah.bQ ts<n→O0 ts:=by
  intro n
  induction n with
  |zero=>intro ts h;omega
  |succ n ih=>exact fun ts h=>ad9 ts fun iG h'=>ih iG (by omega)
 exact fun{L x}=>key _ ts (Nat.lt_succ_self _)
def lA:List bt→Option nA
 |[]=>none
 |m::l=>(match fF m.ax with
  | .error e=>some e
  | .ok _=>(match iX m.ax with
    |some e=>some e
    |none=>lA l))
theorem CZ:∀(a b:List bt),lA (a++b)=(match lA a with|some e=>some e|none=>lA b)
 |[],b=>rfl
 |m::a,b=>by
  rw[List.cons_append,lA,lA]
  cases fF m.ax with
  |error e=>rfl
  |ok sy=>
   simp only
   cases iX m.ax with
   |some e=>rfl
   |none=>exact CZ a b
theorem Rx:∀(l:List bt)(i:Nat)(out:List ay)(os:List aq),(∃o,gX l i out os=.ok o∧lA l=none)∨(∃e,gX l i out os=.error e∧lA l=some e)
 |[],i,out,os=>.inl ⟨_,rfl,rfl⟩
 |m::l,i,out,os=>by
  simp only[gX,lA]
  cases fF m.ax with
  |error e=>exact .inr ⟨e,rfl,rfl⟩
  |ok sy=>
   simp only
   rcases H9 m.ax out (i:Int) (-1) true with⟨o,h1,h2⟩|⟨e,h1,h2⟩
   ·simp only[h1,h2]
    exact Rx l (i+1) o (os++sy)
   ·simp only[h1,h2]
    exact .inr ⟨e,rfl,rfl⟩
theorem amF{l:List bt}{c:Int}{s:aq}(h:lA l=some (c,s)):c≠0:=by
 rcases Rx l 0 [] []with⟨o,h1,h2⟩|⟨e,h1,h2⟩
 ·rw[h]at h2;cases h2
 ·rw[h]at h2;cases h2;exact Mz l h1
theorem aar{l:List bt}{i:Nat}{m:bt}{e:nA}(h:l[i]? =some m)(hi:lA (l.take i)=none)(he:lA [m]=some e):lA l=some e:=by
 have:lA (l.take (i+1))=some e:=by rw[dT h,CZ,hi];exact he
 rw[←List.take_append_drop (i+1) l,CZ,this]
theorem aix{l:List bt}{i:Nat}{m:bt}(h:l[i]? =some m)(hi:lA (l.take i)=none)(he:lA [m]=none):lA (l.take (i+1))=none:=by
 rw[dT h,CZ,hi];exact he
theorem aas(m:bt):lA [m]=(match fF m.ax with
  | .error e=>some e
  | .ok _=>iX m.ax):=by
 simp only[lA]
 cases fF m.ax with
 |error e=>rfl
 |ok sy=>simp only;cases iX m.ax<;>rfl
theorem ab9(x:D):bR (.aX x 0) 2=some (.aX x 2):=by simp[bR]
theorem aeQ{l:List bt}{L:List D}{x:D}(hx:aL 3 L x)(hl:sq l L)(h8:l.length≤8)(hm:∀m∈l,dk m.ax):aF Try.prog gl 33 [.d x] (.d (yL (lA l))):=by
 have bX:l.length≤maxLen:=Nat.le_trans h8 (by decide)
 refine a8 (akZ ..) fun br=>?_
 simp only[sS,sT,sZ]
 refine n9 (fun i=>lA (l.take i)=none) (fun i=>[.d x,.d (.int .i64 ((i:Nat):Int))]) (fun i=>[[.d (.int .i64 0),.d (.int .i64 0),.d (.int .i64 0),.d (.str [])]]) l.length rfl (fun i hi hJ I hI=>?_) (fun hJ I=>?_)
 ·simp only[hx.len,hl.len,sS,sT]
  refine And.intro (fun _=>?_) (fun h=>absurd h (by simp;omega))
  obtain⟨m,cN⟩:=get_some hi
  obtain⟨y,hy,hZ⟩:=hl.at_ cN
  have cE:=hm m (List.mem_of_getElem? cN)
  have hS:=aaq cE hZ
  have cD:=aas m
  cases hZ with
  |mk xs Ls oG sP=>
  simp only[hx.at hy,Hp,sS]
  cases g9:fF m.ax with
  |error e=>
   obtain⟨c0,s0⟩:=e
   rw[g9]at hS cD
   refine call2 hS ?_
   simp only[jA,dv,dw,z4,dH,gf,ek,oe (zt g9),sS,sT]
   refine And.intro (fun _=>?_) (fun h=>absurd h (by decide))
   rw[aar cN hJ cD]
   rfl
  |ok sy=>
  rw[g9]at hS cD
  refine call2 hS ?_
  simp only[eO,dv,dw,z4,dH,gf,ek,jl,Mv,sS,sT]
  refine And.intro (fun h=>absurd h (by decide)) (fun _=>?_)
  refine eD (adN m.ax oG sP cE) ?_
  cases yQ:iX m.ax with
  |some e=>
   obtain⟨c0,s0⟩:=e
   simp only[yQ]at cD
   simp only[yL,jA,dv,dw,z4,dH,gf,ek,oe (R2 yQ),sS,sT]
   refine And.intro (fun _=>?_) (fun h=>absurd h (by decide))
   rw[aar cN hJ cD]
  |none=>
  simp only[yQ]at cD
  simp only[yL,eO,dv,dw,z4,dH,gf,ek,sS,sT]
  refine And.intro (fun h=>absurd h (by decide)) (fun _=>?_)
  refine aS (bf hi bX) ?_
  exact hI (aix cN hJ cD)
 ·simp only[hx.len,hl.len,sS,sT]
  refine And.intro (fun h=>absurd h (by simp)) (fun _=>?_)
  rw[List.take_length]at hJ
  simp only[uB,dv,dw,fu,dH,sS,sT]
  rw[hJ]
  rfl
theorem abw{A:List aq}{x:aq}{p:List UInt8}:p∈kN A x↔∃s∈A,fe x s=true∧p∈s.perms:=by
 unfold kN
 rw[List.mem_flatMap]
 constructor
 ·rintro⟨s,hs,hp⟩
  obtain⟨h1,h2⟩:=List.mem_filter.1 hs
  exact⟨s,h1,h2,hp⟩
 ·rintro⟨s,hs,h1,hp⟩
  exact⟨s,List.mem_filter.2 ⟨hs,h1⟩,hp⟩
theorem ag8{A B:List aq}(h:∀s∈A,s∈B){x:aq}(hm:yJ A x=[]):yJ B x=[]:=by
 unfold yJ at hm ⊢
 split
 ·rfl
 ·rename_i hn
  rw[if_neg hn]at hm
  split at hm
  ·cases hm
  ·rename_i h1
   rw[if_neg]
   intro h2
   apply h1
   rw[Bool.or_eq_true]at h2 ⊢
   rcases h2 with h2|h2
   ·left
    rw[Bool.not_eq_true',Bool.eq_false_iff]at h2 ⊢
    intro h3
    obtain⟨s,hs,hd⟩:=List.any_eq_true.1 h3
    exact h2 (List.any_eq_true.2 ⟨s,h s hs,hd⟩)
   ·right
    have h2:=of_decide_eq_true h2
    refine decide_eq_true ?_
    obtain⟨p,hp⟩:=List.exists_mem_of_length_pos h2
    obtain⟨Kj,Kl⟩:=List.mem_filter.1 hp
    refine List.length_pos_of_mem (a:=p) (List.mem_filter.2 ⟨Kj,?_⟩)
    rw[Bool.not_eq_true',Bool.eq_false_iff]at Kl ⊢
    intro h3
    apply Kl
    rw[Hj]at h3 ⊢
    obtain⟨s,hs,hd,Jw⟩:=abw.1 h3
    exact abw.2 ⟨s,h s hs,hd,Jw⟩
theorem YF{A B eN:List aq}(h:∀s∈A,s∈B)(hm:fY eN A=[]):fY eN B=[]:=by
 unfold fY at hm ⊢
 rw[List.flatMap_eq_nil_iff]at hm ⊢
 exact fun x hx=>ag8 h (hm x hx)
theorem amG{q:List Nat}:∀{l:List ay}{j:Nat}{b:ay},(jU l q)[j]? =some b→∃a,l[j]? =some a∧b=if j∈q then{a with mark:=false}else a:=by
 induction q with
 |nil=>intro l j b h;exact⟨b,h,by simp⟩
 |cons i q ih=>
  intro l j b h
  have h':(jU (mh l i) q)[j]? =some b:=h
  obtain⟨a,h1,h2⟩:=ih h'
  unfold mh at h1
  split at h1
  ·rename_i c hc
   rw[List.getElem?_set]at h1
   split at h1
   ·rename_i fp
    subst fp
    split at h1
    ·cases h1
     refine⟨c,hc,?_⟩
     rw[h2]
     simp
    ·cases h1
   ·rename_i fp
    refine⟨a,h1,?_⟩
    rw[h2]
    have:(j∈i::q)↔j∈q:=by simp;intro he;exact absurd he.symm fp
    by_cases hq:j∈q<;>simp[hq,Ne.symm fp]
  ·rename_i hn
   refine⟨a,h1,?_⟩
   rw[h2]
   have fp:i≠j:=fun he=>by subst he;rw[hn]at h1;cases h1
   by_cases hq:j∈q<;>simp[hq,Ne.symm fp]
theorem aat{l:List ay}{hv:List aq}{j:Nat}:j∈lP l hv↔∃b,l[j]? =some b∧b.here=true∧b.mark=true∧fY b.th hv≠[]:=by
 unfold lP
 rw[List.mem_filter,List.mem_range]
 constructor
 ·rintro⟨h1,h2⟩
  obtain⟨b,hb⟩:=get_some h1
  unfold gS at h2
  rw[hb]at h2
  simp only[Bool.and_eq_true,decide_eq_true_eq]at h2
  exact⟨b,hb,h2.1,h2.2.1,fun he=>by rw[he]at h2;simp at h2⟩
 ·rintro⟨b,hb,h1,h2,h3⟩
  refine⟨(List.getElem?_eq_some_iff.1 hb).1,?_⟩
  unfold gS
  rw[hb]
  simp only[h1,h2,Bool.true_and,decide_eq_true_eq]
  exact List.length_pos_iff.2 h3
def j9(l:List ay):Nat:=(l.filter ay.mark).length
theorem YH{l:List ay}{k:Nat}{b:ay}(h:l[k]? =some b):j9 (mh l k)+b.mark.toNat=j9 l:=by
 have e:mh l k=l.set k {b with mark:=false}:=by unfold mh;rw[h]
 rw[e]
 clear e
 induction l generalizing k with
 |nil=>simp at h
 |cons a l ih=>
  cases k with
  |zero=>
   simp at h;subst h
   simp only[List.set_cons_zero,j9,List.filter_cons]
   cases a.mark<;>simp[Bool.toNat]
  |succ k=>
   have:=ih (k:=k) (by simpa using h)
   simp only[List.set_cons_succ,j9,List.filter_cons]at this ⊢
   split
   ·rw[List.length_cons,List.length_cons];omega
   ·exact this
theorem aiy(l:List ay)(k:Nat):j9 (mh l k)≤j9 l:=by
 cases h:l[k]? with
 |none=>unfold mh;rw[h];exact Nat.le_refl _
 |some b=>have:=YH h;omega
theorem aau:∀(q:List Nat)(l:List ay),j9 (jU l q)≤j9 l
 |[],l=>Nat.le_refl _
 |i::q,l=>Nat.le_trans (aau q (mh l i)) (aiy l i)
theorem aav{q:List Nat}{l:List ay}(hq:q≠[])(h:∀j∈q,∃b,l[j]? =some b∧b.mark=true):j9 (jU l q)<j9 l:=by
 cases q with
 |nil=>exact absurd rfl hq
 |cons i q=>
  obtain⟨b,h1,h2⟩:=h i (by simp)
  have k1:=YH h1
  have k2:=aau q (mh l i)
  rw[h2]at k1
  have:j9 (jU l (i::q))=j9 (jU (mh l i) q):=rfl
  simp only[Bool.toNat_true]at k1
  omega
def aq9(B:List ay)(k:Nat)(m u:Int)(th:Bool)(a b:List ah):Prop:=∃bl,B[k]? =some bl∧bl.mo=m∧bl.up=u∧bl.vB=th∧bl.th=eW a∧bl.el=eW b
mutual
def tg(B:List ay):ah→Nat→Int→Int→Bool→Prop
 | .mk s a b,k,m,u,th=>if s.kind==18 then aq9 B k m u th a b∧rH B a (k+1) m (k:Int) true∧rH B b (k+1+ah.aB a) m (k:Int) false else True
def rH(B:List ay):List ah→Nat→Int→Int→Bool→Prop
 |[],_,_,_,_=>True
 |t::l,k,m,u,th=>tg B t k m u th∧rH B l (k+t.nb) m u th
end
def xO(B B':List ay)(k n:Nat):Prop:=∀j,k≤j→j<k+n→∀b,B[j]? =some b→∃b',B'[j]? =some b'∧b'.mo=b.mo∧b'.up=b.up∧b'.vB=b.vB∧b'.th=b.th∧b'.el=b.el
theorem xO.sub{B B':List ay}{k n k' n':Nat}(h:xO B B' k n)(h1:k≤k')(h2:k'+n'≤k+n):xO B B' k' n':=fun j hj sN=>h j (by omega) (by omega)
mutual
theorem Zx:∀(t:ah){B B':List ay}{k:Nat}{m u:Int}{th:Bool},xO B B' k t.nb→tg B t k m u th→tg B' t k m u th
 | .mk s a b,B,B',k,m,u,th,hs,h=>by
   simp only[tg]at h ⊢
   by_cases hk:(s.kind==18)=true
   ·rw[if_pos hk]at h ⊢
    have fZ:(ah.mk s a b).nb =1+ah.aB a+ah.aB b:=by rw[ah.nb,if_pos hk]
    rw[fZ]at hs
    obtain⟨⟨bl,h1,h2,h3,h4,h5,h6⟩,ha,hb⟩:=h
    refine⟨?_,EP a (hs.sub (by omega) (by omega)) ha,EP b (hs.sub (by omega) (by omega)) hb⟩
    obtain⟨b',k1,k2,k3,k4,k5,k6⟩:=hs k (Nat.le_refl _) (by omega) bl h1
    exact⟨b',k1,k2.trans h2,k3.trans h3,k4.trans h4,k5.trans h5,k6.trans h6⟩
   ·rw[if_neg hk];trivial
theorem EP:∀(l:List ah){B B':List ay}{k:Nat}{m u:Int}{th:Bool},xO B B' k (ah.aB l)→rH B l k m u th→rH B' l k m u th
 |[],_,_,_,_,_,_,_,_=>trivial
 |t::l,B,B',k,m,u,th,hs,h=>by
  simp only[ah.aB]at hs
  exact⟨Zx t (hs.sub (Nat.le_refl _) (by omega)) h.1,EP l (hs.sub (by omega) (by omega)) h.2⟩
end
theorem xO.of_eq{B B':List ay}{k n:Nat}(h:∀j,k≤j→j<k+n→B'[j]? =B[j]?):xO B B' k n:=fun j h1 h2 b hb=>⟨b,(h j h1 h2).trans hb,rfl,rfl,rfl,rfl,rfl⟩
mutual
theorem aop:∀(t:ah){out o:List ay}{m u:Int}{th:Bool},gT t out m u th=.ok o→tg o t out.length m u th
 | .mk s a b,out,o,m,u,th,h=>by
   simp only[gT]at h
   simp only[tg]
   split at h
   ·rename_i hk
    rw[if_pos hk]
    split at h
    ·cases h
    ·rename_i sy g9
     split at h
     ·cases h
     ·rename_i o2 h2
      split at h
      ·cases h
      ·rename_i lu jE
       have k1:=rU a h2
       have k2:=rU b h
       have i1:=M4 a h2
       have i2:=M4 b h
       have qa:(out++[ay.mk m u th sy [] true false]).length =out.length+1:=by simp
       have pn:(j7 o2 out.length lu).length =out.length+1+ah.aB a:=by rw[EE,k1.1,qa]
       rw[qa]at i1
       rw[pn]at i2
       have td:o2[out.length]? =some (ay.mk m u th sy [] true false):=by rw[k1.2 _ (by omega)];simp
       have Vk:(j7 o2 out.length lu)[out.length]? =some (ay.mk m u th sy lu true false):=by
        unfold j7;rw[td];simp only;rw[List.getElem?_set_self (by rw[k1.1];omega)]
       refine⟨⟨_,(k2.2 _ (by omega)).trans Vk,rfl,rfl,rfl,by simp[eW,g9],by simp[eW,jE]⟩,EP a (xO.of_eq fun j h1 h3=>?_) i1,i2⟩
       rw[k2.2 j (by omega),Zn _ (by omega)]
   ·rename_i hk
    rw[if_neg hk];trivial
theorem M4:∀(l:List ah){out o:List ay}{m u:Int}{th:Bool},gL l out m u th=.ok o→rH o l out.length m u th
 |[],_,_,_,_,_,_=>trivial
 |t::l,out,o,m,u,th,h=>by
  simp only[gL]at h
  split at h
  ·cases h
  ·rename_i o1 h1
   have k1:=LZ t h1
   have k2:=rU l h
   have i2:=M4 l h
   rw[k1.1]at i2
   exact⟨Zx t (xO.of_eq fun j h2 h3=>k2.2 j (by rw[k1.1];omega)) (aop t h1),i2⟩
end
def lU(B:List ay):Prop:=∀(j:Nat)b,B[j]? =some b→b.up<(j:Int)
theorem lU.app{B:List ay}(h:lU B){b:ay}(hb:b.up<(B.length:Int)):lU (B++[b]):=fun j x hx=>by
 rw[List.getElem?_append]at hx
 split at hx
 ·exact h j x hx
 ·rename_i hj
  have Ca:j-B.length=0:=by have:=(List.getElem?_eq_some_iff.1 hx).1;simp at this;omega
  rw[Ca]at hx
  simp at hx;subst hx;omega
theorem lU.j7{B:List ay}(h:lU B)(n:Nat)(sy:List aq):lU (j7 B n sy):=fun j x hx=>by
 unfold Ab.j7 at hx
 split at hx
 ·rename_i b hb
  rw[List.getElem?_set]at hx
  split at hx
  ·rename_i hnj
   subst hnj
   split at hx
   ·cases hx;exact h n b hb
   ·cases hx
  ·exact h j x hx
 ·exact h j x hx
mutual
theorem aoq:∀(t:ah){out o:List ay}{m u:Int}{th:Bool},u<(out.length:Int)→lU out→gT t out m u th=.ok o→lU o
 | .mk s a b,out,o,m,u,th,hu,hB,h=>by
   simp only[gT]at h
   split at h
   ·split at h
    ·cases h
    ·rename_i sy g9
     split at h
     ·cases h
     ·rename_i o2 h2
      split at h
      ·cases h
      ·rename_i lu jE
       have k1:=rU a h2
       refine M5 b ?_ ((M5 a (by simp;omega) (hB.app (by exact hu)) h2).j7 _ _) h
       rw[EE,k1.1];simp;omega
   ·cases h;exact hB
theorem M5:∀(l:List ah){out o:List ay}{m u:Int}{th:Bool},u<(out.length:Int)→lU out→gL l out m u th=.ok o→lU o
 |[],_,_,_,_,_,_,hB,h=>by simp only[gL]at h;cases h;exact hB
 |t::l,out,o,m,u,th,hu,hB,h=>by
  simp only[gL]at h
  split at h
  ·cases h
  ·rename_i o1 h1
   have k1:=LZ t h1
   exact M5 l (by rw[k1.1];omega) (aoq t hu hB h1) h
end
mutual
theorem akf:∀(t:ah){out o:List ay}{m u:Int}{th:Bool},(∀b∈out,b.mark=true)→gT t out m u th=.ok o→∀b∈o,b.mark=true
 | .mk s a b,out,o,m,u,th,hB,h=>by
   simp only[gT]at h
   split at h
   ·split at h
    ·cases h
    ·rename_i sy g9
     split at h
     ·cases h
     ·rename_i o2 h2
      split at h
      ·cases h
      ·have i1:=Mb a (out:=out++[ay.mk m u th sy [] true false]) (fun b hb=>by
        rcases List.mem_append.1 hb with hb|hb
        ·exact hB b hb
        ·simp at hb;subst hb;rfl) h2
       refine Mb b (fun b hb=>?_) h
       unfold j7 at hb
       split at hb
       ·rename_i c hc
        rcases List.mem_or_eq_of_mem_set hb with hb|hb
        ·exact i1 b hb
        ·subst hb;exact i1 c (List.mem_of_getElem? hc)
       ·exact i1 b hb
   ·cases h;exact hB
theorem Mb:∀(l:List ah){out o:List ay}{m u:Int}{th:Bool},(∀b∈out,b.mark=true)→gL l out m u th=.ok o→∀b∈o,b.mark=true
 |[],_,_,_,_,_,hB,h=>by simp only[gL]at h;cases h;exact hB
 |t::l,out,o,m,u,th,hB,h=>by
  simp only[gL]at h
  split at h
  ·cases h
  ·rename_i o1 h1
   exact Mb l (akf t hB h1) h
end
def aV:List bt→Nat
 |[]=>0
 |m::l=>ah.aB m.ax+aV l
theorem Qr:∀(a b:List bt),aV (a++b)=aV a+aV b
 |[],b=>by simp[aV]
 |m::a,b=>by rw[List.cons_append,aV,aV,Qr a b];omega
theorem P7{l:List bt}{i:Nat}{m:bt}(h:l[i]? =some m):aV (l.take (i+1))=aV (l.take i)+ah.aB m.ax:=by
 rw[dT h,Qr];simp[aV]
theorem Q1{l:List bt}{i:Nat}{m:bt}(h:l[i]? =some m):aV (l.take i)+ah.aB m.ax≤aV l:=by
 rw[←P7 h]
 have:=Qr (l.take (i+1)) (l.drop (i+1))
 rw[List.take_append_drop]at this
 omega
def xl(l:List bt):List aq:=l.flatMap fun m=>eW m.ax
theorem R3:∀(l:List bt)(i:Nat){out o:List ay}{os oQ:List aq},gX l i out os=.ok (o,oQ)→lU out→(∀b∈out,b.mark=true)→
  lU o∧(∀b∈o,b.mark=true)∧(∀(j:Nat)m,l[j]? =some m→rH o m.ax (out.length+aV (l.take j)) ((i+j:Nat):Int) (-1) true)∧oQ=os++xl l∧Tx out o (aV l)
 |[],i,out,o,os,oQ,h,hu,hm=>by
  simp only[gX]at h
  cases h
  exact⟨hu,hm,fun j m hj=>by simp at hj,by simp[xl],rfl,fun _ _=>rfl⟩
 |m::l,i,out,o,os,oQ,h,hu,hm=>by
  simp only[gX]at h
  split at h
  ·cases h
  ·rename_i sy hb
   split at h
   ·cases h
   ·rename_i o1 h1
    have hg:=rU m.ax h1
    obtain⟨k1,k2,k3,k4,k5⟩:=R3 l (i+1) h (M5 m.ax (by omega) hu h1) (Mb m.ax hm h1)
    refine⟨k1,k2,fun j m' hj=>?_,?_,?_,fun j hj=>?_⟩
    ·cases j with
     |zero=>
      simp at hj;subst hj
      simp only[List.take_zero,aV,Nat.add_zero]
      refine EP m.ax (xO.of_eq fun j h1 h2=>?_) (M4 m.ax h1)
      exact k5.2 j (by rw[hg.1];omega)
     |succ j=>
      have:=k3 j m' (by simpa using hj)
      rw[hg.1]at this
      simp only[List.take_succ_cons,aV]
      rw[show out.length+(ah.aB m.ax+aV (l.take j))=out.length+ah.aB m.ax+aV (l.take j) by omega,show i+(j+1)=i+1+j by omega]
      exact this
    ·rw[k4]
     have:eW m.ax=sy:=by simp[eW,hb]
     simp[xl,this]
    ·rw[k5.1,hg.1,aV];omega
    ·rw[k5.2 j (by rw[hg.1];omega),hg.2 j hj]
theorem Zy{l:List ay}(hu:lU l):∀(i:Nat),i≤l.length→(∀(j:Nat),i≤j→(kY l i)[j]? =l[j]?)∧∀(j:Nat)b,j<i→l[j]? =some b→(kY l i)[j]? =some {b with here:=tB (kY l i) b}
 |0,_=>⟨fun j _=>rfl,fun j b h=>by omega⟩
 |i+1,hi=>by
  obtain⟨h1,h2⟩:=Zy hu i (by omega)
  obtain⟨b,hb⟩:=get_some (show i<l.length by omega)
  have lj:(kY l i)[i]? =some b:=(h1 i (Nat.le_refl _)).trans hb
  have bc:kY l (i+1)=(kY l i).set i {b with here:=tB (kY l i) b}:=by rw[Ll];unfold zD;rw[lj]
  have ub:∀c:ay,c.up<(i:Int)→tB (kY l (i+1)) c=tB (kY l i) c:=fun c hc=>by
   unfold tB
   split
   ·rfl
   ·rename_i hn
    rw[bc,List.getElem?_set_ne (by omega)]
  refine⟨fun j hj=>?_,fun j c hj hc=>?_⟩
  ·rw[bc,List.getElem?_set_ne (by omega)];exact h1 j (by omega)
  ·by_cases nh:j=i
   ·subst nh
    rw[hb]at hc;cases hc
    rw[ub b (hu j b hb),bc,List.getElem?_set_self (by rw[CR];omega)]
   ·rw[ub c (by have:=hu j c hc;omega),bc,List.getElem?_set_ne (fun hh=>nh hh.symm)]
    exact h2 j c (by omega) hc
theorem Qs{l:List ay}(hu:lU l){j:Nat}{b:ay}(h:l[j]? =some b):(aY l)[j]? =some {b with here:=tB (aY l) b}:=
 (Zy hu l.length (Nat.le_refl _)).2 j b (List.getElem?_eq_some_iff.1 h).1 h
def hr(P:List ay)(n:Nat):Bool:=match P[n]? with
 |some b=>b.here
 |none=>false
def dn(P:List ay)(n:Nat):Bool:=match P[n]? with
 |some b=>b.mark
 |none=>false
def qn(P:List ay)(u:Int)(th:Bool):Bool:=if u<0 then true else hr P u.toNat&&(dn P u.toNat==th)
def Fj(P:List ay):Prop:=∀(j:Nat)b,P[j]? =some b→b.here=qn P b.up b.vB
theorem abx{l:List ay}(hu:lU l):Fj (aY l):=fun j b hb=>by
 have hj:=(List.getElem?_eq_some_iff.1 hb).1
 have hl:(aY l).length =l.length:=(tk l).1
 obtain⟨c,hc⟩:=get_some (show j<l.length by omega)
 have:=Qs hu hc
 rw[hb]at this
 cases this
 simp only[tB,qn,hr,dn]
 split
 ·rfl
 ·cases (aY l)[c.up.toNat]? with
  |none=>rfl
  |some p=>rfl
mutual
theorem akg:∀(t:ah){P:List ay}{base k:Nat}{m u:Int}{th:Bool}{mk out:List Bool},Fj P→tg P t (base+k) m u th→(∀j,k≤j→j<k+t.nb→mk.getD j false=dn P (base+j))→k+t.nb≤out.length→
  (qn P u th=false→∀j,k≤j→j<k+t.nb→hr P (base+j)=false)∧
  (qn P u th=true→∀j,(rF t k mk out).getD j false=if k≤j∧j<k+t.nb then out.getD j false||hr P (base+j)else out.getD j false)
 | .mk s a b,P,base,k,m,u,th,mk,out,hP,hB,hm,hl=>by
   by_cases hk:(s.kind==18)=true
   ·have fZ:(ah.mk s a b).nb =1+ah.aB a+ah.aB b:=by rw[ah.nb,if_pos hk]
    simp only[tg]at hB
    rw[if_pos hk]at hB
    rw[fZ]at hm hl ⊢
    obtain⟨⟨bl,h1,h2,h3,h4,h5,h6⟩,ha,hb⟩:=hB
    have hh:=hP _ _ h1
    rw[h3,h4]at hh
    have A2:hr P (base+k)=qn P u th:=by simp only[hr,h1];exact hh
    have kH:dn P (base+k)=bl.mark:=by simp only[dn,h1]
    have xf:∀v,qn P ((base+k:Nat):Int) v=(qn P u th&&(bl.mark==v)):=fun v=>by
     have h0:¬(((base+k:Nat):Int)<0):=by omega
     simp only[qn,h0,if_false,Int.toNat_natCast]
     rw[A2,kH];rfl
    have ea:base+k+1=base+(k+1):=by omega
    have eb:base+k+1+ah.aB a=base+(k+1+ah.aB a):=by omega
    rw[ea]at ha
    rw[eb]at hb
    have hma:∀j,k+1≤j→j<k+1+ah.aB a→mk.getD j false=dn P (base+j):=fun j h1 h2=>hm j (by omega) (by omega)
    have hmb:∀j,k+1+ah.aB a≤j→j<k+1+ah.aB a+ah.aB b→mk.getD j false=dn P (base+j):=fun j h1 h2=>hm j (by omega) (by omega)
    have ia:=LK a (mk:=mk) (out:=out.set k true) hP ha hma (by rw[List.length_set];omega)
    have ib:=LK b (mk:=mk) (out:=out.set k true) hP hb hmb (by rw[List.length_set];omega)
    rw[xf]at ia ib
    have fk:∀j,(out.set k true).getD j false=if j=k then true else out.getD j false:=fun j=>by
     simp only[List.getD_eq_getElem?_getD,List.getElem?_set]
     by_cases lp:j=k
     ·subst lp;simp[show j<out.length by omega]
     ·rw[if_neg (fun h=>lp h.symm),if_neg lp]
    constructor
    ·intro ho j hj1 sN
     rw[ho]at ia ib A2
     by_cases lp:j=k
     ·subst lp;exact A2
     ·by_cases GP:j<k+1+ah.aB a
      ·exact ia.1 (by simp) j (by omega) GP
      ·exact ib.1 (by simp) j (by omega) (by omega)
    ·intro ho j
     rw[ho]at ia ib A2
     have hy:=aao (t:=.mk s a b) hk k mk out
     have ara:mk.getD k false=bl.mark:=by rw[hm k (by omega) (by omega),kH]
     rw[ara]at hy
     have iV:(ah.mk s a b).th =a:=rfl
     have fo:(ah.mk s a b).el =b:=rfl
     rw[iV,fo]at hy
     rw[hy]
     cases nN:bl.mark with
     |true=>
      rw[nN]at ia ib
      simp only[if_true]
      rw[ia.2 (by simp) j,fk]
      by_cases lp:j=k
      ·subst lp
       rw[if_neg (by omega),if_pos rfl,if_pos (by omega),A2];simp
      ·rw[if_neg lp]
       by_cases GP:k+1≤j∧j<k+1+ah.aB a
       ·rw[if_pos GP,if_pos (by omega)]
       ·rw[if_neg GP]
        split
        ·rw[ib.1 (by simp) j (by omega) (by omega)];simp
        ·rfl
     |false=>
      rw[nN]at ia ib
      simp only[Bool.false_eq_true,if_false]
      rw[ib.2 (by simp) j,fk]
      by_cases lp:j=k
      ·subst lp
       rw[if_neg (by omega),if_pos rfl,if_pos (by omega),A2];simp
      ·rw[if_neg lp]
       by_cases hjb:k+1+ah.aB a≤j∧j<k+1+ah.aB a+ah.aB b
       ·rw[if_pos hjb,if_pos (by omega)]
       ·rw[if_neg hjb]
        split
        ·rw[ia.1 (by simp) j (by omega) (by omega)];simp
        ·rfl
   ·have fZ:(ah.mk s a b).nb =0:=by rw[ah.nb,if_neg hk]
    rw[fZ,abv (t:=.mk s a b) (show(s.kind==18)=false by simpa using hk)]
    exact⟨fun _ j h1 h2=>by omega,fun _ j=>by rw[if_neg (by omega)]⟩
theorem LK:∀(l:List ah){P:List ay}{base k:Nat}{m u:Int}{th:Bool}{mk out:List Bool},Fj P→rH P l (base+k) m u th→(∀j,k≤j→j<k+ah.aB l→mk.getD j false=dn P (base+j))→k+ah.aB l≤out.length→
  (qn P u th=false→∀j,k≤j→j<k+ah.aB l→hr P (base+j)=false)∧
  (qn P u th=true→∀j,(rG l k mk out).getD j false=if k≤j∧j<k+ah.aB l then out.getD j false||hr P (base+j)else out.getD j false)
 |[],P,base,k,m,u,th,mk,out,hP,hB,hm,hl=>⟨fun _ j h1 h2=>by simp only[ah.aB]at h2;omega,fun _ j=>by rw[if_neg (by simp only[ah.aB];omega)];rfl⟩
 |t::l,P,base,k,m,u,th,mk,out,hP,hB,hm,hl=>by
  have xb:ah.aB (t::l)=t.nb+ah.aB l:=rfl
  rw[xb]at hm hl ⊢
  obtain⟨nW,pD⟩:=hB
  rw[Nat.add_assoc]at pD
  have it:=akg t (mk:=mk) (out:=out) hP nW (fun j h1 h2=>hm j h1 (by omega)) (by omega)
  have il:=LK l (mk:=mk) (out:=rF t k mk out) hP pD (fun j h1 h2=>hm j (by omega) (by omega)) (by rw[Rt];omega)
  constructor
  ·intro ho j h1 h2
   by_cases hj:j<k+t.nb
   ·exact it.1 ho j h1 hj
   ·exact il.1 ho j (by omega) (by omega)
  ·intro ho j
   rw[rG,il.2 ho j,it.2 ho j]
   by_cases h1:k+t.nb≤j∧j<k+t.nb+ah.aB l
   ·rw[if_pos h1,if_neg (show ¬(k≤j∧j<k+t.nb) by omega),if_pos (show k≤j∧j<k+(t.nb+ah.aB l) by omega)]
   ·rw[if_neg h1]
    by_cases h2:k≤j∧j<k+t.nb
    ·rw[if_pos h2,if_pos (show k≤j∧j<k+(t.nb+ah.aB l) by omega)]
    ·rw[if_neg h2,if_neg (show ¬(k≤j∧j<k+(t.nb+ah.aB l)) by omega)]
end
def dQ(f:Nat→Bool)(base n:Nat):List Bool:=(List.range n).map fun j=>f (base+j)
theorem jK(f:Nat→Bool)(base n:Nat):(dQ f base n).length =n:=by simp[dQ]
theorem nF{f:Nat→Bool}{base n j:Nat}(h:j<n):(dQ f base n)[j]? =some (f (base+j)):=by simp[dQ,h]
theorem K6{f g:Nat→Bool}{base n:Nat}(h:∀j,j<n→f (base+j)=g (base+j)):dQ f base n=dQ g base n:=List.map_congr_left fun j hj=>h j (by simpa using hj)
def rN:List bt→Nat→(Nat→Bool)→List (List Bool)
 |[],_,_=>[]
 |m::l,b,f=>dQ f b (ah.aB m.ax)::rN l (b+ah.aB m.ax) f
theorem Ia:∀(l:List bt)(b:Nat)(f:Nat→Bool),(rN l b f).length =l.length
 |[],_,_=>rfl
 |m::l,b,f=>by rw[rN,List.length_cons,Ia l,List.length_cons]
theorem wb:∀{l:List bt}(b:Nat)(f:Nat→Bool){i:Nat}{m:bt},l[i]? =some m→(rN l b f)[i]? =some (dQ f (b+aV (l.take i)) (ah.aB m.ax))
 |[],b,f,i,m,h=>by simp at h
 |m'::l,b,f,0,m,h=>by simp at h;subst h;simp[rN,aV]
 |m'::l,b,f,i+1,m,h=>by
  have:=wb (l:=l) (b+ah.aB m'.ax) f (i:=i) (m:=m) (by simpa using h)
  simp only[rN,List.getElem?_cons_succ,List.take_succ_cons,aV]
  rw[this,Nat.add_assoc]
theorem Hr:∀(l:List bt){b:Nat}{f g:Nat→Bool},(∀x,b≤x→x<b+aV l→f x=g x)→rN l b f=rN l b g
 |[],_,_,_,_=>rfl
 |m::l,b,f,g,h=>by
  simp only[aV]at h
  rw[rN,rN,K6 (fun j hj=>h (b+j) (by omega) (by omega)),Hr l (fun x h1 h2=>h x (by omega) (by omega))]
theorem aby:∀{l:List bt}(b:Nat)(f:Nat→Bool){i j:Nat}{m:bt}(v:Bool),l[i]? =some m→j<ah.aB m.ax→
  (rN l b f).set i ((dQ f (b+aV (l.take i)) (ah.aB m.ax)).set j v)=rN l b (fun x=>if x=b+aV (l.take i)+j then v else f x)
 |[],b,f,i,j,m,v,h,hj=>by simp at h
 |m'::l,b,f,0,j,m,v,h,hj=>by
  simp at h;subst h
  simp only[rN,List.take_zero,aV,Nat.add_zero,List.set_cons_zero]
  congr 1
  ·refine List.ext_getElem? fun k=>?_
   rw[List.getElem?_set,jK]
   by_cases hk:k<ah.aB m'.ax
   ·rw[nF hk]
    by_cases lp:j=k
    ·subst lp;rw[if_pos rfl,if_pos hk,nF hk,if_pos rfl]
    ·rw[if_neg lp,nF hk,if_neg (by omega)]
   ·have h1:∀g:Nat→Bool,(dQ g b (ah.aB m'.ax))[k]? =none:=fun g=>List.getElem?_eq_none (by rw[jK];omega)
    rw[h1,h1,if_neg (by omega)]
  ·exact Hr l (fun x h1 h2=>by rw[if_neg (by omega)])
 |m'::l,b,f,i+1,j,m,v,h,hj=>by
  have ih:=aby (l:=l) (b+ah.aB m'.ax) f (i:=i) (j:=j) (m:=m) v (by simpa using h) hj
  simp only[rN,List.take_succ_cons,aV,List.set_cons_succ]
  rw[←Nat.add_assoc,ih]
  congr 1
  exact K6 fun k hk=>by rw[if_neg (by omega)]
theorem aaw{B P:List ay}(h:ko B P){l:List ah}{k:Nat}{m u:Int}{th:Bool}(hb:rH B l k m u th):rH P l k m u th:=by
 refine EP l (fun j _ _ b JM=>?_) hb
 have hj:=(List.getElem?_eq_some_iff.1 JM).1
 obtain⟨b',eA⟩:=get_some (show j<P.length by rw[h.1];exact hj)
 obtain⟨c,h1,h2,h3,h4,h5,h6⟩:=h.2 j b' eA
 rw[JM]at h1;cases h1
 exact⟨b',eA,h5,h2,h6,h3,h4⟩
theorem lU.ur{B P:List ay}(h:ko B P)(hu:lU B):lU P:=fun j b hb=>by
 obtain⟨c,h1,h2,_⟩:=h.2 j b hb
 rw[h2];exact hu j c h1
theorem Zz{B:List ay}(hu:lU B)(x:Nat):dn (aY B) x=dn B x:=by
 unfold dn
 cases hb:B[x]? with
 |some b=>rw[Qs hu hb]
 |none=>
  have:(aY B)[x]? =none:=List.getElem?_eq_none (by rw[(tk B).1];exact List.getElem?_eq_none_iff.1 hb)
  rw[this]
theorem ZA{B:List ay}{ts:List ah}{base:Nat}{mi:Int}(hu:lU B)(hb:rH B ts base mi (-1) true):
  rG ts 0 (dQ (dn B) base (ah.aB ts)) (List.replicate (ah.aB ts) false)=dQ (hr (aY B)) base (ah.aB ts):=by
 have eA:=aaw (tk B) hb
 have hs:=(LK ts (P:=aY B) (base:=base) (k:=0) (mk:=dQ (dn B) base (ah.aB ts)) (out:=List.replicate (ah.aB ts) false) (abx hu) (by simpa using eA) (fun j _ h2=>by
  rw[Zz hu,List.getD_eq_getElem?_getD,nF (by omega)];rfl) (by simp)).2 (by simp[qn])
 refine List.ext_getElem? fun j=>?_
 by_cases hj:j<ah.aB ts
 ·have h1:=hs j
  rw[if_pos (by omega)]at h1
  have hl:j<(rG ts 0 (dQ (dn B) base (ah.aB ts)) (List.replicate (ah.aB ts) false)).length :=by rw[HM];simpa using hj
  rw[nF hj,List.getElem?_eq_getElem hl]
  rw[List.getD_eq_getElem?_getD,List.getElem?_eq_getElem hl]at h1
  simp only[Option.getD_some]at h1
  rw[h1]
  simp[hj]
 ·rw[List.getElem?_eq_none (by rw[HM];simp;omega),List.getElem?_eq_none (by rw[jK];omega)]
mutual
theorem amH:∀(t:ah){P:List ay}{k:Nat}{m u:Int}{th:Bool},tg P t k m u th→∀j,k≤j→j<k+t.nb→∃b,P[j]? =some b∧b.mo=m
 | .mk s a b,P,k,m,u,th,h,j,h1,h2=>by
   simp only[tg]at h
   by_cases hk:(s.kind==18)=true
   ·have fZ:(ah.mk s a b).nb =1+ah.aB a+ah.aB b:=by rw[ah.nb,if_pos hk]
    rw[if_pos hk]at h
    rw[fZ]at h2
    obtain⟨⟨bl,g1,g2,_⟩,ha,hb⟩:=h
    by_cases hj:j=k
    ·subst hj;exact⟨bl,g1,g2⟩
    ·by_cases GP:j<k+1+ah.aB a
     ·exact Ib a ha j (by omega) GP
     ·exact Ib b hb j (by omega) (by omega)
   ·have fZ:(ah.mk s a b).nb =0:=by rw[ah.nb,if_neg hk]
    omega
theorem Ib:∀(l:List ah){P:List ay}{k:Nat}{m u:Int}{th:Bool},rH P l k m u th→∀j,k≤j→j<k+ah.aB l→∃b,P[j]? =some b∧b.mo=m
 |[],_,_,_,_,_,_,j,h1,h2=>by simp only[ah.aB]at h2;omega
 |t::l,P,k,m,u,th,h,j,h1,h2=>by
  simp only[ah.aB]at h2
  by_cases hj:j<k+t.nb
  ·exact amH t h.1 j h1 hj
  ·exact Ib l h.2 j (by omega) (by omega)
end
theorem afQ{α:Type}(p:α→Bool)(l:List α)(a n:Nat)(h:∀x b,l[x]? =some b→(p b=true↔a≤x∧x<a+n)):l.filter p=(l.drop a).take n:=by
 have e:l=l.take a++((l.drop a).take n++(l.drop a).drop n):=by rw[List.take_append_drop,List.take_append_drop]
 have f1:(l.take a).filter p=[]:=by
  rw[List.filter_eq_nil_iff]
  intro b hb
  obtain⟨x,hx⟩:=List.mem_iff_getElem?.1 hb
  rw[List.getElem?_take]at hx
  split at hx
  ·intro hp;have:=(h x b hx).1 hp;omega
  ·cases hx
 have f2:((l.drop a).take n).filter p=(l.drop a).take n:=by
  rw[List.filter_eq_self]
  intro b hb
  obtain⟨x,hx⟩:=List.mem_iff_getElem?.1 hb
  rw[List.getElem?_take]at hx
  split at hx
  ·rw[List.getElem?_drop]at hx;exact(h _ b hx).2 (by omega)
  ·cases hx
 have f3:((l.drop a).drop n).filter p=[]:=by
  rw[List.filter_eq_nil_iff]
  intro b hb
  obtain⟨x,hx⟩:=List.mem_iff_getElem?.1 hb
  rw[List.getElem?_drop,List.getElem?_drop]at hx
  intro hp;have:=(h _ b hx).1 hp;omega
 conv=>lhs;rw[e]
 rw[List.filter_append,List.filter_append,f1,f2,f3];simp
theorem abz:∀(l:List bt){x:Nat},x<aV l→∃i m,l[i]? =some m∧aV (l.take i)≤x∧x<aV (l.take i)+ah.aB m.ax
 |[],x,h=>by simp[aV]at h
 |m::l,x,h=>by
  simp only[aV]at h
  by_cases hx:x<ah.aB m.ax
  ·exact⟨0,m,rfl,by simp[aV],by simpa[aV]using hx⟩
  ·obtain⟨i,m',h1,h2,h3⟩:=abz l (x:=x-ah.aB m.ax) (by omega)
   exact⟨i+1,m',by simpa using h1,by simp only[List.take_succ_cons,aV];omega,by simp only[List.take_succ_cons,aV];omega⟩
structure uy(l:List bt)(P:List ay):Prop where
 bk:∀{i:Nat}{m:bt},l[i]? =some m→rH P m.ax (aV (l.take i)) (i:Int) (-1) true
 len:P.length=aV l
 up:lU P
theorem uy.ur{l:List bt}{B P:List ay}(h:uy l B)(hs:ko B P):uy l P:=⟨fun hm=>aaw hs (h.bk hm),hs.1.trans h.len,h.up.ur hs⟩
theorem abA{l:List bt}{P:List ay}(h:uy l P):xd l.length P=rN l 0 (fun x=>hr P x&&dn P x):=by
 refine List.ext_getElem? fun i=>?_
 by_cases hi:i<l.length
 ·obtain⟨m,hm⟩:=get_some hi
  rw[wb 0 _ hm,Nat.zero_add]
  have h1:(xd l.length P)[i]? =some (mj P i):=by simp[xd,hi]
  rw[h1]
  congr 1
  have hle:=Q1 hm
  unfold mj
  rw[afQ _ P (aV (l.take i)) (ah.aB m.ax) (fun x b hb=>?_)]
  ·refine List.ext_getElem? fun j=>?_
   rw[List.getElem?_map]
   by_cases hj:j<ah.aB m.ax
   ·rw[nF hj,List.getElem?_take,if_pos hj,List.getElem?_drop]
    obtain⟨b,hb⟩:=get_some (show aV (l.take i)+j<P.length by rw[h.len];omega)
    simp only[hb,Option.map_some,hr,dn,ay.on]
   ·rw[List.getElem?_eq_none (by simp;omega),List.getElem?_eq_none (by rw[jK];omega)];rfl
  ·have hx:x<aV l:=by rw[←h.len];exact(List.getElem?_eq_some_iff.1 hb).1
   obtain⟨i',m',g1,g2,g3⟩:=abz l hx
   obtain⟨b',g4,g5⟩:=Ib m'.ax (h.bk g1) x g2 g3
   rw[hb]at g4;cases g4
   rw[g5]
   constructor
   ·intro he
    have N8:((i':Nat):Int)=((i:Nat):Int):=by simpa using he
    have:i'=i:=by omega
    subst this
    rw[hm]at g1;cases g1
    exact⟨g2,g3⟩
   ·intro hh
    obtain⟨b2,k1,k2⟩:=Ib m.ax (h.bk hm) x hh.1 hh.2
    rw[hb]at k1;cases k1
    rw[←g5,k2];simp
 ·rw[List.getElem?_eq_none (by rw[aah];omega),List.getElem?_eq_none (by rw[Ia];omega)]
def Ar(P:List ay)(K:Nat)(es:List RE):Prop:=∀(j:Nat)e,es[j]? =some e→∃(b:ay) (ta tb:List ah) (La Lb:List D),P[K+j]? =some b∧aL 55 La e.ya∧fm ta La∧dk ta∧b.th=eW ta∧aL 55 Lb e.yb∧fm tb Lb∧dk tb∧b.el=eW tb
theorem Ar.app{P:List ay}{K:Nat}{a b:List RE}(h1:Ar P K a)(h2:Ar P (K+a.length) b):Ar P K (a++b):=fun j e he=>by
 rw[List.getElem?_append]at he
 split at he
 ·exact h1 j e he
 ·rename_i hj
  have:=h2 _ e he
  rw[show K+a.length+(j-a.length)=K+j by omega]at this
  exact this
mutual
theorem reT:∀(t:ah){x:D}{P:List ay}{K kk:Nat}{m u:Int}{th:Bool},l6 t x→dk t.th→dk t.el→tg P t K m u th→Ar P K (cT t x kk)
 | .mk s a b,x,P,K,kk,m,u,th,hx,h1,h2,hb=>by
   simp only[cT]
   simp only[tg]at hb
   by_cases hk:(s.kind==18)=true
   ·rw[if_pos hk]at hb ⊢
    obtain⟨⟨bl,g1,g2,g3,g4,g5,g6⟩,ha,hb⟩:=hb
    obtain⟨c,bd,al,yt,ye,Lt,Le,hc⟩:=hx.out
    obtain⟨e1,e2⟩:=hc.VQ hx
    rw[e1,e2,hc.iV.el,hc.fo.el]
    have i1:=Kv a (kk:=kk+1) hc.fL h1 ha
    have i2:=Kv b (kk:=kk+1+ah.aB a) hc.fG h2 hb
    have hlen:(cL a Lt (kk+1)).length =ah.aB a:=pL a Lt (kk+1)
    have i3:Ar P (K+1) (cL a Lt (kk+1)++cL b Le (kk+1+ah.aB a)):=i1.app (by rw[hlen];exact i2)
    intro j e he
    cases j with
    |zero=>
     simp at he;subst he
     exact⟨bl,a,b,Lt,Le,g1,hc.iV,hc.fL,h1,g5,hc.fo,hc.fG,h2,g6⟩
    |succ j=>
     have:=i3 j e (by simpa using he)
     rw[show K+1+j=K+(j+1) by omega]at this
     exact this
   ·rw[if_neg hk]
    intro j e he;simp at he
theorem Kv:∀(l:List ah){L:List D}{P:List ay}{K kk:Nat}{m u:Int}{th:Bool},fm l L→dk l→rH P l K m u th→Ar P K (cL l L kk)
 |[],L,P,K,kk,m,u,th,hx,hs,hb=>by intro j e he;simp[cL]at he
 |t::l,_,P,K,kk,m,u,th,hx,hs,hb=>by
  cases hx with
  |cons _ x _ L h hl=>
   simp only[cL,List.headD_cons,List.tail_cons]
   have ht:=hs.th (t:=t) (by simp)
   have ka:dk l:=⟨by have:=hs.sz;simp only[ah.bQ]at this;omega,hs.ok.2⟩
   exact(reT t h ht.1 ht.2 hb.1).app (by rw[R0];exact Kv l hl ka hb.2)
end
def xm(P:List ay)(x:Nat):List aq:=match P[x]? with
 |some b=>nX b
 |none=>[]
def vD(P:List ay)(base n:Nat):List aq:=(List.range n).flatMap fun k=>xm P (base+k)
theorem ZB(P:List ay)(base n:Nat):vD P base (n+1)=vD P base n++xm P (base+n):=by
 unfold vD
 rw[List.range_succ,List.flatMap_append];simp
def mH:List bt→Nat→List ay→List aq
 |[],_,_=>[]
 |m::l,b,P=>eW m.ax++(vD P b (ah.aB m.ax)++mH l (b+ah.aB m.ax) P)
theorem aax:∀(a c:List bt)(b:Nat)(P:List ay),mH (a++c) b P=mH a b P++mH c (b+aV a) P
 |[],c,b,P=>by simp[mH,aV]
 |m::a,c,b,P=>by
  rw[List.cons_append,mH,mH,aax a c,aV]
  simp only[List.append_assoc]
  rw[Nat.add_assoc]
theorem ZC{l:List bt}{i:Nat}{m:bt}(h:l[i]? =some m)(P:List ay):mH (l.take (i+1)) 0 P=mH (l.take i) 0 P++(eW m.ax++vD P (aV (l.take i)) (ah.aB m.ax)):=by
 rw[dT h,aax]
 simp[mH]
theorem aay:∀(l:List bt){b:Nat}{P:List ay}{s:aq},s∈mH l b P↔s∈xl l∨∃x,b≤x∧x<b+aV l∧s∈xm P x
 |[],b,P,s=>by
  simp only[mH,xl,List.flatMap_nil,List.not_mem_nil,aV,Nat.add_zero,false_or,false_iff]
  rintro⟨x,h1,h2,_⟩;omega
 |m::l,b,P,s=>by
  have ih:=aay l (b:=b+ah.aB m.ax) (P:=P) (s:=s)
  simp only[mH,List.mem_append,ih,aV]
  have ho:s∈xl (m::l)↔s∈eW m.ax∨s∈xl l:=by simp[xl]
  rw[ho]
  have ld:s∈vD P b (ah.aB m.ax)↔∃x,b≤x∧x<b+ah.aB m.ax∧s∈xm P x:=by
   unfold vD
   rw[List.mem_flatMap]
   constructor
   ·rintro⟨k,h1,h2⟩
    exact⟨b+k,by omega,by have:=List.mem_range.1 h1;omega,h2⟩
   ·rintro⟨x,h1,h2,h3⟩
    exact⟨x-b,List.mem_range.2 (by omega),by rw[show b+(x-b)=x by omega];exact h3⟩
  rw[ld]
  constructor
  ·rintro(h|⟨x,h1,h2,h3⟩|h|⟨x,h1,h2,h3⟩)
   ·exact .inl (.inl h)
   ·exact .inr ⟨x,h1,by omega,h3⟩
   ·exact .inl (.inr h)
   ·exact .inr ⟨x,by omega,by omega,h3⟩
  ·rintro((h|h)|⟨x,h1,h2,h3⟩)
   ·exact .inl h
   ·exact .inr (.inr (.inl h))
   ·by_cases hx:x<b+ah.aB m.ax
    ·exact .inr (.inl ⟨x,h1,hx,h3⟩)
    ·exact .inr (.inr (.inr ⟨x,by omega,by omega,h3⟩))
theorem afR{P:List ay}{os:List aq}{s:aq}:s∈iw P os↔s∈os∨∃x,x<P.length∧s∈xm P x:=by
 unfold iw
 rw[List.mem_append,List.mem_flatMap]
 constructor
 ·rintro(h|⟨b,h1,h2⟩)
  ·exact .inl h
  ·obtain⟨x,hx⟩:=List.mem_iff_getElem?.1 h1
   exact .inr ⟨x,(List.getElem?_eq_some_iff.1 hx).1,by unfold xm;rw[hx];exact h2⟩
 ·rintro(h|⟨x,h1,h2⟩)
  ·exact .inl h
  ·obtain⟨b,hb⟩:=get_some h1
   unfold xm at h2
   rw[hb]at h2
   exact .inr ⟨b,List.mem_of_getElem? hb,h2⟩
theorem aiz{l:List bt}{P:List ay}(h:uy l P)(eN:List aq):(fY eN (mH l 0 P)=[]↔fY eN (iw P (xl l))=[]):=by
 have hm:∀s,s∈mH l 0 P↔s∈iw P (xl l):=fun s=>by
  rw[aay,afR,h.len]
  constructor
  ·rintro(h|⟨x,h1,h2,h3⟩)
   ·exact .inl h
   ·exact .inr ⟨x,by omega,h3⟩
  ·rintro(h|⟨x,h1,h2⟩)
   ·exact .inl h
   ·exact .inr ⟨x,by omega,by omega,h2⟩
 exact⟨YF fun s hs=>(hm s).1 hs,YF fun s hs=>(hm s).2 hs⟩
def Bd(n:Nat)(l:List aq):Prop:=l.length≤4920*n∧dt l≤196800*n
theorem Bd.app{a b:List aq}{n m:Nat}(h:Bd n a)(k:Bd m b):Bd (n+m) (a++b):=⟨by rw[List.length_append,Nat.mul_add];exact Nat.add_le_add h.1 k.1,by rw[G2,Nat.mul_add];exact Nat.add_le_add h.2 k.2⟩
theorem Bd.mono{a:List aq}{n m:Nat}(h:Bd n a)(k:n≤m):Bd m a:=⟨Nat.le_trans h.1 (Nat.mul_le_mul_left _ k),Nat.le_trans h.2 (Nat.mul_le_mul_left _ k)⟩
theorem Bd.nil(n:Nat):Bd n []:=⟨by simp,by simp[dt]⟩
theorem R4{ts:List ah}(h:dk ts):Bd 1 (eW ts):=by
 unfold eW
 split
 ·exact Bd.nil 1
 ·rename_i sy hs;exact⟨by simpa using EO h hs,by simpa using LI h hs⟩
theorem Bd.Ku{a:List aq}(h:Bd 1000 a):a.length≤2^30∧dt a≤2^30:=⟨Nat.le_trans h.1 (by decide),Nat.le_trans h.2 (by decide)⟩
def TJ(P:List ay)(hv:List aq)(x:Nat):Bool:=dn P x&& !gS P hv x
theorem afS{P:List ay}{h1 h2:List aq}(h:∀eN,fY eN h1=[]↔fY eN h2=[])(x:Nat):gS P h1 x=gS P h2 x:=by
 unfold gS
 cases P[x]? with
 |none=>rfl
 |some b=>
  simp only
  congr 2
  have:=h b.th
  have e:∀l:List aq,decide (0<l.length)= !decide (l=[]):=fun l=>by cases l<;>simp
  rw[e,e]
  congr 1
  exact decide_eq_decide.2 this
theorem amI{P:List ay}{hv:List aq}(x:Nat):dn (jU P (lP P hv)) x=TJ P hv x:=by
 unfold TJ
 cases hb:(jU P (lP P hv))[x]? with
 |some b=>
  obtain⟨a,ha,he⟩:=amG hb
  have h1:dn (jU P (lP P hv)) x=b.mark:=by unfold dn;rw[hb]
  have h2:dn P x=a.mark:=by unfold dn;rw[ha]
  rw[h1,h2,he]
  have hx:=(List.getElem?_eq_some_iff.1 ha).1
  have rD:x∈lP P hv↔gS P hv x=true:=by
   unfold lP
   rw[List.mem_filter,List.mem_range]
   exact⟨fun h=>h.2,fun h=>⟨hx,h⟩⟩
  split
  ·rename_i h;rw[rD.1 h];simp
  ·rename_i h
   have:gS P hv x=false:=by
    cases hh:gS P hv x with
    |true=>exact absurd (rD.2 hh) h
    |false=>rfl
   rw[this];simp
 |none=>
  have h0:P[x]? =none:=List.getElem?_eq_none (by have:=List.getElem?_eq_none_iff.1 hb;rw[HJ]at this;exact this)
  simp only[dn,hb,h0];rfl
theorem ZD{P:List ay}{hv:List aq}:lP P hv=[]↔∀x,gS P hv x=false:=by
 unfold lP
 rw[List.filter_eq_nil_iff]
 constructor
 ·intro h x
  by_cases hx:x<P.length
  ·simpa using h x (List.mem_range.2 hx)
  ·unfold gS;rw[List.getElem?_eq_none (by omega)]
 ·intro h x _;rw[h x];simp
def nY(LL:List (List D)):SV:=match LL with
 |[]=>.d (.sl .nil 0 [])
 |LL=>.nest LL
theorem aiA{LL:List (List D)}{r:List Bool}{dh:Nat}{k:SV→Prop}(hb:(LL.length+1)*dh≤140737488355328)(hk:k (nY (LL++[cH r]))):BD dh (nY LL) (.bh 1 (cH r)) k:=by
 have hs:∀x∈cH r,x.qF=true:=by
  intro x hx
  obtain⟨b,_,rfl⟩:=List.mem_map.1 hx
  rfl
 cases LL with
 |nil=>exact⟨hb,hs,hk⟩
 |cons a LL=>exact⟨hb,hs,hk⟩
theorem aiB{LL:List (List D)}{M:List D}{i j:Nat}{v:Bool}{k:SV→Prop}(hi:LL[i]? =some M)(hj:j<M.length)(hk:k (nY (LL.set i (M.set j (.bool v))))):zJ (nY LL) (.d (.int .i64 (i:Int))) (.d (.int .i64 (j:Int))) v k:=by
 cases LL with
 |nil=>simp at hi
 |cons a LL=>
  have h1:da (.d (.int .i64 (i:Int))) (a::LL).length =some i:=jJ (List.getElem?_eq_some_iff.1 hi).1
  have h2:da (.d (.int .i64 (j:Int))) M.length=some j:=jJ hj
  simp only[zJ,nY,h1,hi,h2,ab]
  cases i with
  |zero=>exact hk
  |succ i=>exact hk
theorem Q2(LL:List (List D)):∃d,dz (nY LL)=.d d∧aL 1 (LL.map fun L=>D.sl .ro 1 L) d:=by
 cases LL with
 |nil=>exact⟨_,rfl,.nil 0 rfl⟩
 |cons a LL=>exact⟨_,rfl,.ro⟩
theorem Qt(sz:Nat)(L:List D):dz (aO sz L)=.d (bB sz L):=by cases L<;>rfl
theorem amJ(x:D):dz (.d x)=.d x:=rfl
theorem BP(x:D):k9 (.d x)=True:=rfl
theorem acb(l:List Bool):k9 (.bh 1 (cH l)):=by
 intro x hx c hc
 obtain⟨b,_,rfl⟩:=List.mem_map.1 hx
 simp[D.cells]at hc;subst hc;rfl
theorem amK(sz:Nat)(L:List D):qI (.bh sz L)=.bh sz L:=rfl
theorem Bz(b:Bool):qI (.d (.bool b))=.d (.bool b):=rfl
def gy(r:List Bool):D:=.sl .ro 1 (cH r)
theorem oU(r:List Bool):aL 1 (cH r) (gy r):=.ro
theorem xP(r:List Bool):aH false 1 (.aX (gy r) 0)=some (.d (gy r)):=rfl
theorem ZE(r:List Bool):bz 1 1 [(0,gy r)]=true:=rfl
theorem Q3(R:List (List Bool)):(R.map cH).map (fun L=>D.sl .ro 1 L)=R.map gy:=by simp[gy]
def kO(l:List bt)(L:List D):List D:=List.zipWith (fun m d=>bB 4 (jh (cL m.ax (DE (pF d 2)) 0))) l L
theorem MC{l:List bt}{L:List D}{i:Nat}{m:bt}{d:D}(h1:l[i]? =some m)(h2:L[i]? =some d):(kO l L)[i]? =some (bB 4 (jh (cL m.ax (DE (pF d 2)) 0))):=by
 unfold kO
 rw[List.getElem?_zipWith,h1,h2]
theorem aaz{l:List bt}{L:List D}(h:L.length=l.length):(kO l L).length =l.length:=by simp[kO,h]
def nZ(l:List bt):List D:=l.map fun m=>bB 1 (db (ez m.ax 0))
theorem R5{l:List bt}{i:Nat}{m:bt}(h1:l[i]? =some m):(nZ l)[i]? =some (bB 1 (db (ez m.ax 0))):=by simp[nZ,h1]
theorem akh(l:List bt):(nZ l).length =l.length:=by simp[nZ]
def ac7(r:Except nA (List (List Bool))):SV:=match r with
 | .error (c,s)=>.aK [.d (.sl .nil 0 []),.d (jA c s)]
 | .ok o=>.aK [aO 1 (o.map gy),.d eO]
theorem aki(n:Nat):dQ (fun x=>decide (x<0)) 0 n=List.replicate n false:=by
 refine List.ext_getElem? fun j=>?_
 by_cases hj:j<n
 ·rw[nF hj];simp[hj]
 ·rw[List.getElem?_eq_none (by rw[jK];omega),List.getElem?_eq_none (by simp;omega)]
theorem amL{n k:Nat}:(dQ (fun x=>decide (x<k)) 0 n).set k true=dQ (fun x=>decide (x<k+1)) 0 n:=by
 refine List.ext_getElem? fun j=>?_
 rw[List.getElem?_set,jK]
 by_cases hj:j<n
 ·rw[nF hj,nF hj]
  by_cases Kw:k=j
  ·subst Kw;simp[hj]
  ·rw[if_neg Kw];congr 1;rw[decide_eq_decide];omega
 ·rw[List.getElem?_eq_none (by rw[jK];omega),List.getElem?_eq_none (by rw[jK];omega)]
  by_cases Kw:k=j
  ·rw[if_pos Kw,if_neg (by omega)]
  ·rw[if_neg Kw]
theorem amM(n b:Nat):dQ (fun x=>decide (x<n)) 0 n=dQ (fun _=>true) b n:=by
 refine List.map_congr_left fun j hj=>?_
 have:=List.mem_range.1 hj
 simp[this]
def fP(P Pl:List ay)(hv:List aq)(p x:Nat):Bool:=if x<p then dn P x&& !gS Pl hv x else dn P x
theorem amN{P Pl:List ay}{hv:List aq}{p:Nat}(h:gS Pl hv p=true):(fun x=>if x=p then false else fP P Pl hv p x)=fP P Pl hv (p+1):=by
 funext x
 unfold fP
 by_cases hx:x=p
 ·subst hx;rw[if_pos rfl,if_pos (by omega),h];simp
 ·rw[if_neg hx]
  by_cases h2:x<p
  ·rw[if_pos h2,if_pos (by omega)]
  ·rw[if_neg h2,if_neg (by omega)]
theorem akj{P Pl:List ay}{hv:List aq}{p:Nat}(h:gS Pl hv p=false):fP P Pl hv p=fP P Pl hv (p+1):=by
 funext x
 unfold fP
 by_cases hx:x=p
 ·subst hx;rw[if_neg (by omega),if_pos (by omega),h];simp
 ·by_cases h2:x<p
  ·rw[if_pos h2,if_pos (by omega)]
  ·rw[if_neg h2,if_neg (by omega)]
def vE(Pl:List ay)(hv:List aq)(p:Nat):Bool:=(List.range p).any (gS Pl hv)
theorem ZF(Pl:List ay)(hv:List aq)(p:Nat):vE Pl hv (p+1)=(vE Pl hv p||gS Pl hv p):=by
 unfold vE
 rw[List.range_succ,List.any_append];simp
theorem aaA(l:List ay):j9 l=((l.map ay.mark).filter id).length :=by
 unfold j9
 rw[List.filter_map,List.length_map];rfl
theorem XI{B:List ay}(hu:lU B):j9 (aY B)=j9 B:=by
 rw[aaA,aaA]
 congr 2
 refine List.ext_getElem? fun x=>?_
 rw[List.getElem?_map,List.getElem?_map]
 cases hb:B[x]? with
 |some b=>rw[Qs hu hb];rfl
 |none=>
  have:(aY B)[x]? =none:=List.getElem?_eq_none (by rw[(tk B).1];exact List.getElem?_eq_none_iff.1 hb)
  rw[this]
theorem aiC{f:Nat→Bool}{b n j:Nat}{v:Bool}(hj:j<n):(dQ f b n).set j v=dQ (fun x=>if x=b+j then v else f x) b n:=by
 refine List.ext_getElem? fun k=>?_
 rw[List.getElem?_set,jK]
 by_cases hk:k<n
 ·rw[nF hk]
  by_cases lp:j=k
  ·subst lp;rw[if_pos rfl,if_pos hk,nF hk,if_pos rfl]
  ·rw[if_neg lp,nF hk,if_neg (by omega)]
 ·have h1:∀g:Nat→Bool,(dQ g b n)[k]? =none:=fun g=>List.getElem?_eq_none (by rw[jK];omega)
  rw[h1,h1,if_neg (by omega)]
def gP(P:List ay)(p x:Nat):Bool:=if x<p then hr P x&&dn P x else hr P x
theorem amO(P:List ay)(p:Nat):(fun x=>if x=p then hr P p&&dn P p else gP P p x)=gP P (p+1):=by
 funext x
 unfold gP
 by_cases hx:x=p
 ·subst hx;rw[if_pos rfl,if_pos (by omega)]
 ·rw[if_neg hx]
  by_cases h2:x<p
  ·rw[if_pos h2,if_pos (by omega)]
  ·rw[if_neg h2,if_neg (by omega)]
theorem aiD{r:List Bool}{n:Nat}(h:r.length=n):Ii n 1 (bj (cH r))=.d (gy r):=by
 unfold Ii
 rw[EX]
 have:(cH r).length =n:=by rw[tu];exact h
 simp only[this,Nat.beq_refl,Bool.and_self,cond_true]
 rfl
theorem amP{P:List ay}(h:∀b∈P,GF b)(x:Nat):Bd 1 (xm P x):=by
 unfold xm
 cases hb:P[x]? with
 |none=>exact Bd.nil 1
 |some b=>
  have hk:=h b (List.mem_of_getElem? hb)
  simp only[nX]
  split
  ·split
   ·exact⟨by simpa using hk.th,by simpa using hk.Kn⟩
   ·exact⟨by simpa using hk.el,by simpa using hk.Vp⟩
  ·exact Bd.nil 1
theorem R6{P:List ay}(h:∀b∈P,GF b)(base:Nat):∀n,Bd n (vD P base n)
 |0=>Bd.nil 0
 |n+1=>by rw[ZB];exact(R6 h base n).app (amP h _)
theorem abB{P:List ay}(h:∀b∈P,GF b){l:List bt}(hm:∀m∈l,dk m.ax):∀i,i≤l.length→Bd (i+aV (l.take i)) (mH (l.take i) 0 P)
 |0,_=>by simp[mH,aV];exact Bd.nil 0
 |i+1,hi=>by
  obtain⟨m,cN⟩:=get_some (show i<l.length by omega)
  rw[ZC cN,P7 cN]
  refine((abB h hm i (by omega)).app ((R4 (hm m (List.mem_of_getElem? cN))).app (R6 h _ _))).mono (by omega)
theorem adA{l:List bt}{L:List D}{x:D}(hx:aL 3 L x)(hl:sq l L)(h8:l.length≤8)(hm:∀m∈l,dk m.ax):aF Try.prog gl 12 [.d x] (ac7 (xe l)):=by
 have bX:l.length≤maxLen:=Nat.le_trans h8 (by decide)
 have hFa:=aeQ hx hl h8 hm
 refine a8 (amA ..) fun br=>?_
 simp only[sS,sT]
 refine eD hFa ?_
 rcases Rx l 0 [] []with⟨⟨B,OS⟩,wG,sV⟩|⟨⟨c0,s0⟩,wG,sV⟩
 rotate_left
 ·have bg:=amF sV
  have VT:xe l=.error (c0,s0):=by unfold xe nK;rw[wG]
  rw[sV,VT]
  simp only[yL,jA,dv,dw,fu,dH,gf,ek,oe bg,sS,sT]
  refine And.intro (fun _=>?_) (fun h=>absurd h (by decide))
  rfl
 rw[sV]
 obtain⟨g1,g2,g3,g4,g5⟩:=R3 l 0 wG (fun j b h=>by simp at h) (fun b h=>by simp at h)
 have Kx:uy l B:=⟨fun{i m}cN=>by have:=g3 i m cN;simpa using this,by simpa using g5.1,g1⟩
 have hOS:OS=xl l:=by simpa using g4
 have tf:=wv.of h8 hm wG
 have VT:xe l=.ok (xd l.length (qw B OS)):=by unfold xe nK;rw[wG]
 rw[VT]
 simp only[yL,eO,dv,dw,fu,dH,gf,ek,sS,sT]
 refine And.intro (fun h=>absurd h (by decide)) (fun _=>?_)
 refine eX (fun i=>[.d x,aO 1 ((kO l L).take i),aO 1 ((nZ l).take i),nY (((rN l 0 fun _=>true).take i).map cH),.d (.int .i64 ((i:Nat):Int))]) (fun i=>[[.d (.int .i64 0),.d (.int .i64 0),.d (.int .i64 0),.d (.str [])],[.d (.int .i64 0),.d (.int .i64 0),.d (.int .i64 0),.d (.str [])]]) l.length (fun i hi I hI=>?_) (fun I=>?_)
 ·obtain⟨m,cN⟩:=get_some hi
  obtain⟨y,hy,hZ⟩:=hl.at_ cN
  have cE:=hm m (List.mem_of_getElem? cN)
  have lj:=MC cN hy
  have A3:=R5 cN
  have mA:=wb 0 (fun _=>true) cN
  rw[dT lj,dT A3,dT mA,List.map_append,List.map_cons,List.map_nil]at hI
  have vV:ah.aB m.ax≤120:=Nat.le_trans (ah.qC _) cE.sz
  cases hZ with
  |mk xs Ls oG sP=>
  have Ah:pF (.agg [.str m.name,.int .i64 m.nv,xs]) 2=xs:=rfl
  rw[Ah,oG.el]at hI
  simp only[hx.len,hl.len,sS,sT]
  refine And.intro (fun _=>?_) (fun h=>absurd h (by simp;omega))
  simp only[hx.at hy,ab9,Mv,sS]
  refine call2 (adz oG sP cE (Nat.le_trans cE.sz (by decide))) ?_
  have pR:(cL m.ax Ls 0).length =ah.aB m.ax:=pL _ _ _
  simp only[akb,ej,dG,LF _ (Z6 _ _),By,sS,sT]
  have hlb:((kO l L).take i).length ≤8:=by rw[List.length_take];omega
  have OD:((nZ l).take i).length ≤8:=by rw[List.length_take];omega
  refine gB (xr _) (by simp only[List.length_singleton];omega) ?_
  refine gB (xr _) (by simp only[List.length_singleton];omega) ?_
  simp only[(cm 4 (jh (cL m.ax Ls 0))).len,Bv,pR,EA,List.length_replicate,sS]
  refine⟨by omega,?_⟩
  have e0:bj (List.replicate (ah.aB m.ax) (D.bool false))=bj (cH (dQ (fun x=>decide (x<0)) 0 (ah.aB m.ax))):=by rw[aki,←R1]
  rw[e0]
  refine eX (fun k=>[.d x,aO 1 ((kO l L).take i++[bB 4 (jh (cL m.ax Ls 0))]),aO 1 ((nZ l).take i++[bB 1 (db (ez m.ax 0))]),nY (((rN l 0 fun _=>true).take i).map cH),.d (.int .i64 ((i:Nat):Int)),.d (.int .i64 ((k:Nat):Int))]) (fun k=>[[.d (.int .i64 0),.d (.int .i64 0),.d (.int .i64 0),.d (.str [])],[.d (.int .i64 0),.d (.int .i64 0),.d (.int .i64 0),.d (.str [])],bj (cH (dQ (fun x=>decide (x<k)) 0 (ah.aB m.ax)))]) (ah.aB m.ax) (fun k hk I2 cF=>?_) (fun I2=>?_)
  ·simp only[sS,sT]
   refine And.intro (fun _=>?_) (fun h=>absurd h (by simp;omega))
   have mg:da (.d (.int .i64 (k:Int))) (ah.aB m.ax)=some k:=jJ hk
   simp only[jK,mg,Ru,sS]
   refine⟨rfl,by omega,?_⟩
   refine aS (bf hk (Nat.le_trans vV (by decide))) ?_
   rw[show List.map SV.d (D.bool true).cells =[.d (.bool true)] from rfl,H8,amL]
   exact cF
  ·simp only[sS,sT]
   refine And.intro (fun h=>absurd h (by simp)) (fun _=>?_)
   have hg:=LJ (dQ (fun x=>decide (x<ah.aB m.ax)) 0 (ah.aB m.ax))
   rw[jK]at hg
   simp only[EX,hg,sS]
   refine aiA (by rw[List.length_map,List.length_take];omega) ?_
   refine aS (bf hi bX) ?_
   rw[Nat.zero_add,←amM (ah.aB m.ax) (aV (l.take i))]at hI
   exact hI
 ·simp only[hx.len,hl.len,sS,sT]
  refine And.intro (fun h=>absurd h (by simp)) (fun _=>?_)
  have pt:(rN l 0 fun _=>true).length =l.length:=Ia l 0 _
  rw[List.take_of_length_le (by rw[aaz hl.len];omega:(kO l L).length ≤l.length),List.take_of_length_le (by rw[akh];omega:(nZ l).length ≤l.length),List.take_of_length_le (by omega:(rN l 0 fun _=>true).length ≤l.length)]
  have arb:rN l 0 (fun _=>true)=rN l 0 (dn B):=Hr l fun x _ h2=>by
   obtain⟨b,hb⟩:=get_some (show x<B.length by rw[Kx.len];omega)
   have:=g2 b (List.mem_of_getElem? hb)
   simp only[dn,hb,this]
  rw[arb]
  have hB0:(if true then ∃f,j9 B<f∧qg f B OS=qw B OS else qw B OS=aY B):=by
   rw[if_pos rfl]
   refine⟨B.length+1,?_,rfl⟩
   have:j9 B≤B.length:=List.length_filter_le _ _
   omega
  refine QS (α:=Bool×List ay) (fun s=>if s.1 then j9 s.2+1 else 0) (fun s=>uy l s.2∧ko B s.2∧(if s.1 then ∃f,j9 s.2<f∧qg f s.2 OS=qw B OS else qw B OS=aY s.2))
   (fun s=>[.d x,aO 1 (kO l L),aO 1 (nZ l),nY ((rN l 0 (dn s.2)).map cH),.d (.bool s.1)]) (fun s=>[[.d (.int .i64 0),.d (.int .i64 0),.d (.int .i64 0),.d (.str [])],[.d (.int .i64 0),.d (.int .i64 0),.d (.int .i64 0),.d (.str [])]]) (fun s hJ I3 gK=>?_) (true,B) ⟨Kx,ko.refl B,hB0⟩
  obtain⟨ag,P⟩:=s
  obtain⟨hP,ac8,mU⟩:=hJ
  have GQ:uy l (aY P):=hP.ur (tk P)
  have acd:ko B (aY P):=ac8.trans (tk P)
  have NH:=Zz hP.up
  have ac9:=tf.ur acd
  obtain⟨dm,ve,A3⟩:=Q2 ((rN l 0 (dn P)).map cH)
  rw[Q3]at A3
  have aso:(kO l L).length =l.length:=aaz hl.len
  have eg:aV l≤960:=by have:=tf.len;rw[Kx.len]at this;exact this
  simp only[sS,sT]
  refine And.intro (fun pW=>?_) (fun pW=>?_)
  ·subst pW
   replace mU:∃f,j9 P<f∧qg f P OS=qw B OS:=by simpa using mU
   have bd1:∀i,i≤l.length→Bd (i+(aV (l.take i))) (mH (l.take i) 0 (aY P)):=abB ac9.ok hm
   refine eX (fun i=>[.d x,aO 1 (kO l L),aO 1 (nZ l),nY ((rN l 0 (dn P)).map cH),.d (.bool false),aO 6 (aM (mH (l.take i) 0 (aY P))),aO 1 (((rN l 0 (hr (aY P))).take i).map gy),.d (.int .i64 ((i:Nat):Int))]) (fun i=>[[.d (.int .i64 0),.d (.int .i64 0),.d (.int .i64 0),.d (.str [])],[.d (.int .i64 0),.d (.int .i64 0),.d (.int .i64 0),.d (.str [])]]) l.length (fun i hi I4 vn=>?_) (fun I4=>?_)
   ·obtain⟨m,cN⟩:=get_some hi
    obtain⟨y,hy,hZ⟩:=hl.at_ cN
    have cE:=hm m (List.mem_of_getElem? cN)
    have hS:=aaq cE hZ
    have lj:=MC cN hy
    have TK:=R5 cN
    have mA:=wb 0 (hr (aY P)) cN
    have Jh:=wb 0 (dn P) cN
    rw[Nat.zero_add]at mA Jh
    rw[dT mA,List.map_append,List.map_cons,List.map_nil,ZC cN]at vn
    have vV:ah.aB m.ax≤120:=Nat.le_trans (ah.qC _) cE.sz
    have arc:=Q1 cN
    have wM:=hP.bk cN
    have TL:=GQ.bk cN
    have GA:fF m.ax=.ok (eW m.ax):=by
     unfold eW
     cases hb:fF m.ax with
     |error e=>
      exfalso
      have cD:=aas m
      rw[hb]at cD
      have h1:lA (l.take (i+1))=some e:=by
       have:=CZ (l.take i) [m]
       rw[←dT cN]at this
       rw[this,cD]
       have h2:=CZ (l.take i) (l.drop i)
       rw[List.take_append_drop,sV]at h2
       cases hh:lA (l.take i)with
       |some e'=>rw[hh]at h2;cases h2
       |none=>rfl
      have h2:=CZ (l.take (i+1)) (l.drop (i+1))
      rw[List.take_append_drop,sV,h1]at h2
      cases h2
     |ok sy=>rfl
    rw[GA]at hS
    simp only at hS
    have AG:=bd1 i (by omega)
    generalize mH (l.take i) 0 (aY P)=xn at vn AG ⊢
    cases hZ with
    |mk xs Ls oG sP=>
    have Ah:pF (.agg [.str m.name,.int .i64 m.nv,xs]) 2=xs:=rfl
    rw[Ah,oG.el]at lj
    have pR:(cL m.ax Ls 0).length =ah.aB m.ax:=pL _ _ _
    have VU:Ar (aY P) (aV (l.take i)) (cL m.ax Ls 0):=Kv m.ax sP cE TL
    have jR:=Rw cE
    have ard:(eW m.ax).length ≤maxLen:=Nat.le_trans jR (by decide)
    simp only[hx.len,hl.len,sS,sT]
    refine And.intro (fun _=>?_) (fun h=>absurd h (by simp;omega))
    simp only[hx.at hy,Hp,sS]
    refine call2 hS ?_
    simp only[ej,eO,dv,dw,fu,sS,sT]
    have e0:aO 6 (aM xn)=aO 6 (aM (xn++(eW m.ax).take 0)):=by simp
    rw[e0]
    refine eX (fun k=>[.d x,aO 1 (kO l L),aO 1 (nZ l),nY ((rN l 0 (dn P)).map cH),.d (.bool false),aO 6 (aM (xn++(eW m.ax).take k)),aO 1 (((rN l 0 (hr (aY P))).take i).map gy),.d (.int .i64 ((i:Nat):Int)),.d (bB 6 (aM (eW m.ax))),.d (.int .i64 ((k:Nat):Int))]) (fun k=>[[.d (.int .i64 0),.d (.int .i64 0),.d (.int .i64 0),.d (.str [])],[.d (.int .i64 0),.d (.int .i64 0),.d (.int .i64 0),.d (.str [])],[.d (.int .i64 0),.d (.int .i64 0),.d (.int .i64 0),.d (.str [])]]) (eW m.ax).length (fun k hk I5 qd=>?_) (fun I5=>?_)
    ·obtain⟨s,hs⟩:=get_some hk
     simp only[(cm 6 (aM (eW m.ax))).len,eG,sS,sT]
     refine And.intro (fun _=>?_) (fun h=>absurd h (by simp;omega))
     simp only[(cm 6 (aM (eW m.ax))).at (mP hs),rS,dG,lK,By,sS,sT]
     refine gB (M:=[s.enc]) (by simp[elems]) (by simp only[eG,List.length_append,List.length_take,List.length_singleton];have:=AG.1;omega) ?_
     refine aS (bf hk ard) ?_
     have:aM (xn++(eW m.ax).take k)++[s.enc]=aM (xn++(eW m.ax).take (k+1)):=by rw[dT hs];simp[aM]
     rw[this]
     exact qd
    simp only[(cm 6 (aM (eW m.ax))).len,eG,sS,sT]
    refine And.intro (fun h=>absurd h (by simp)) (fun _=>?_)
    rw[List.take_length]
    have hz:dz (.d (.int .i64 ((i:Nat):Int)))=.d (.int .i64 ((i:Nat):Int)):=rfl
    have sR:((rN l 0 (dn P)).map gy)[i]? =some (gy (dQ (dn P) (aV (l.take i)) (ah.aB m.ax))):=by rw[List.getElem?_map,Jh];rfl
    simp only[Qt,ve,hz,(cm 1 (kO l L)).at lj,(cm 1 (nZ l)).at TK,A3.at sR,zC,xP,(cm 4 (jh (cL m.ax Ls 0))).len,Bv,pR,EA,R1,sS]
    refine⟨by omega,?_⟩
    have Ky:=Wm m.ax 0 (cL m.ax Ls 0) (dQ (dn P) (aV (l.take i)) (ah.aB m.ax)) (List.replicate (ah.aB m.ax) false) sP (uw.self _) (cm 4 _) (cm 1 _) (oU _) (by rw[pR];omega) (by rw[jK,pR]) (by rw[pR];simp) (by rw[pR];omega)
    rw[ZA hP.up wM]at Ky
    refine Fx Ky rfl ?_
    refine⟨acb _,?_⟩
    have TM:∀r:List Bool,pT (.bh 1 (cH r))=some (.own 1 (cH r)):=fun _=>rfl
    have Kz:∀r:List Bool,aa (.own 1 (cH r))=.d (gy r):=fun _=>rfl
    simp only[amK,TM,Kz,dG,ZE,By,sS,sT]
    refine gB (xr _) (by simp only[List.length_map,List.length_take,List.length_singleton];omega) ?_
    have e1:aO 6 (aM (xn++eW m.ax))=aO 6 (aM (xn++(eW m.ax++vD (aY P) (aV (l.take i)) 0))):=by simp[vD]
    rw[e1]
    refine eX (fun k=>[.d x,aO 1 (kO l L),aO 1 (nZ l),nY ((rN l 0 (dn P)).map cH),.d (.bool false),aO 6 (aM (xn++(eW m.ax++vD (aY P) (aV (l.take i)) k))),aO 1 (((rN l 0 (hr (aY P))).take i).map gy++[gy (dQ (hr (aY P)) (aV (l.take i)) (ah.aB m.ax))]),.d (.int .i64 ((i:Nat):Int)),.own 1 (cH (dQ (hr (aY P)) (aV (l.take i)) (ah.aB m.ax))),.d (.int .i64 ((k:Nat):Int))]) (fun k=>[[.d (.int .i64 0),.d (.int .i64 0),.d (.int .i64 0),.d (.str [])],[.d (.int .i64 0),.d (.int .i64 0),.d (.int .i64 0),.d (.str [])],[.d (.int .i64 0),.d (.int .i64 0),.d (.int .i64 0),.d (.str [])]]) (ah.aB m.ax) (fun k hk I6 wR=>?_) (fun I6=>?_)
    ·obtain⟨e,he⟩:=get_some (show k<(cL m.ax Ls 0).length by rw[pR];exact hk)
     obtain⟨b,ta,tb,La,Lb,hb,A1,xg,Ei,KA,g9,jE,Cm,O4⟩:=VU k e he
     have Ej:(dQ (hr (aY P)) (aV (l.take i)) (ah.aB m.ax))[k]? =some b.here:=by rw[nF hk];simp only[hr,hb]
     have kH:(dQ (dn P) (aV (l.take i)) (ah.aB m.ax))[k]? =some b.mark:=by rw[nF hk,←NH];simp only[dn,hb]
     have iV:xm (aY P) (aV (l.take i)+k)=nX b:=by simp only[xm,hb]
     rw[ZB,iV]at wR
     have qT:dz (.d (.int .i64 ((k:Nat):Int)))=.d (.int .i64 ((k:Nat):Int)):=rfl
     have TN:∀r:List Bool,dz (.own 1 (cH r))=.d (gy r):=fun _=>rfl
     have SD:ba (.d (gy (dQ (hr (aY P)) (aV (l.take i)) (ah.aB m.ax))))=some (.d (.int .i64 ((ah.aB m.ax:Nat):Int))):=by
      have:=(oU (dQ (hr (aY P)) (aV (l.take i)) (ah.aB m.ax))).len
      rw[tu,jK]at this;exact this
     have hkb:k<maxLen:=Nat.lt_of_lt_of_le hk (Nat.le_trans vV (by decide))
     simp only[Kz,SD,sS,sT]
     refine And.intro (fun _=>?_) (fun h=>absurd h (by simp;omega))
     have qW:(xn++(eW m.ax++vD (aY P) (aV (l.take i)) k)).length ≤2^30:=(Bd.mono (AG.app ((R4 cE).app (R6 ac9.ok _ k))) (by omega:_≤1000)).Ku.1
     cases KB:b.here with
     |false=>
      rw[KB]at Ej
      have e2:nX b=[]:=by simp[nX,KB]
      rw[e2,List.append_nil]at wR
      simp only[TN,qT,hz,(oU _).at (sc Ej),xM,ve,A3.at sR,xP,(oU _).at (sc kH),BP,Bz,iJ,ej,(cm 1 (kO l L)).at lj,zC,(cm 4 (jh (cL m.ax Ls 0))).at (H7 he),jl,M3,SC,true_and,sS]
      simp only[Bool.false_eq_true,false_implies,true_implies,true_and]
      refine aS (bf hk (Nat.le_trans vV (by decide))) ?_
      exact wR
     |true=>
      rw[KB]at Ej
      cases nN:b.mark with
      |true=>
       rw[nN]at kH
       have e2:nX b=eW ta:=by simp[nX,KB,nN,KA]
       rw[e2]at wR
       simp only[TN,qT,hz,(oU _).at (sc Ej),xM,ve,A3.at sR,xP,(oU _).at (sc kH),BP,Bz,iJ,ej,(cm 1 (kO l L)).at lj,zC,(cm 4 (jh (cL m.ax Ls 0))).at (H7 he),jl,M3,SC,Bool.not_true,true_and,sS]
       simp only[Bool.false_eq_true,Bool.true_eq_false,false_implies,true_implies,true_and,and_true]
       refine Fx (W8 A1 xg Ei qW) rfl ?_
       refine aS (bf hk (Nat.le_trans vV (by decide))) ?_
       simp only[List.append_assoc]at wR ⊢
       exact wR
      |false=>
       rw[nN]at kH
       have e2:nX b=eW tb:=by simp[nX,KB,nN,O4]
       rw[e2]at wR
       simp only[TN,qT,hz,(oU _).at (sc Ej),xM,ve,A3.at sR,xP,(oU _).at (sc kH),BP,Bz,iJ,ej,(cm 1 (kO l L)).at lj,zC,(cm 4 (jh (cL m.ax Ls 0))).at (H7 he),jl,M3,SC,Bool.not_false,true_and,sS]
       simp only[Bool.false_eq_true,Bool.true_eq_false,false_implies,true_implies,true_and,and_true]
       refine Fx (W8 g9 jE Cm qW) rfl ?_
       refine aS (bf hk (Nat.le_trans vV (by decide))) ?_
       simp only[List.append_assoc]at wR ⊢
       exact wR
    ·have SD:ba (.d (gy (dQ (hr (aY P)) (aV (l.take i)) (ah.aB m.ax))))=some (.d (.int .i64 ((ah.aB m.ax:Nat):Int))):=by
      have:=(oU (dQ (hr (aY P)) (aV (l.take i)) (ah.aB m.ax))).len
      rw[tu,jK]at this;exact this
     simp only[Kz,SD,sS,sT]
     refine And.intro (fun h=>absurd h (by simp)) (fun _=>?_)
     refine aS (bf hi bX) ?_
     exact vn
   ·simp only[hx.len,hl.len,sS,sT]
    refine And.intro (fun h=>absurd h (by simp)) (fun _=>?_)
    have pt:(rN l 0 (hr (aY P))).length =l.length:=Ia l 0 _
    rw[List.take_length,List.take_of_length_le (by omega:(rN l 0 (hr (aY P))).length ≤l.length)]
    generalize hHV:mH l 0 (aY P)=HV
    have ada:Bd 1000 HV:=by
     rw[←hHV]
     have:=bd1 l.length (Nat.le_refl _)
     rw[List.take_length]at this
     exact this.mono (by omega)
    have e3:nY ((rN l 0 (dn P)).map cH)=nY ((rN l 0 (fP P (aY P) HV (aV (l.take 0)))).map cH):=by
     have:fP P (aY P) HV (aV (l.take 0))=dn P:=by funext x;simp[fP,aV]
     rw[this]
    have e4:SV.d (.bool false)=.d (.bool (vE (aY P) HV (aV (l.take 0)))):=by simp[vE,aV]
    rw[e3,e4]
    refine eX (fun i=>[.d x,aO 1 (kO l L),aO 1 (nZ l),nY ((rN l 0 (fP P (aY P) HV (aV (l.take i)))).map cH),.d (.bool (vE (aY P) HV (aV (l.take i)))),aO 6 (aM HV),aO 1 ((rN l 0 (hr (aY P))).map gy),.d (.int .i64 ((i:Nat):Int))]) (fun i=>[[.d (.int .i64 0),.d (.int .i64 0),.d (.int .i64 0),.d (.str [])],[.d (.int .i64 0),.d (.int .i64 0),.d (.int .i64 0),.d (.str [])]]) l.length (fun i hi I7 hI7=>?_) (fun I7=>?_)
    ·obtain⟨m,cN⟩:=get_some hi
     obtain⟨y,hy,hZ⟩:=hl.at_ cN
     have cE:=hm m (List.mem_of_getElem? cN)
     have lj:=MC cN hy
     have mA:=wb 0 (hr (aY P)) cN
     rw[Nat.zero_add]at mA
     have vV:ah.aB m.ax≤120:=Nat.le_trans (ah.qC _) cE.sz
     have arc:=Q1 cN
     have TL:=GQ.bk cN
     rw[P7 cN]at hI7
     cases hZ with
     |mk xs Ls oG sP=>
     have Ah:pF (.agg [.str m.name,.int .i64 m.nv,xs]) 2=xs:=rfl
     rw[Ah,oG.el]at lj
     have pR:(cL m.ax Ls 0).length =ah.aB m.ax:=pL _ _ _
     have VU:Ar (aY P) (aV (l.take i)) (cL m.ax Ls 0):=Kv m.ax sP cE TL
     have hz:dz (.d (.int .i64 ((i:Nat):Int)))=.d (.int .i64 ((i:Nat):Int)):=rfl
     have UL:((rN l 0 (hr (aY P))).map gy)[i]? =some (gy (dQ (hr (aY P)) (aV (l.take i)) (ah.aB m.ax))):=by rw[List.getElem?_map,mA];rfl
     simp only[hx.len,hl.len,sS,sT]
     refine And.intro (fun _=>?_) (fun h=>absurd h (by simp;omega))
     refine eX (fun k=>[.d x,aO 1 (kO l L),aO 1 (nZ l),nY ((rN l 0 (fP P (aY P) HV (aV (l.take i)+k))).map cH),.d (.bool (vE (aY P) HV (aV (l.take i)+k))),aO 6 (aM HV),aO 1 ((rN l 0 (hr (aY P))).map gy),.d (.int .i64 ((i:Nat):Int)),.d (.int .i64 ((k:Nat):Int))]) (fun k=>[[.d (.int .i64 0),.d (.int .i64 0),.d (.int .i64 0),.d (.str [])],[.d (.int .i64 0),.d (.int .i64 0),.d (.int .i64 0),.d (.str [])]]) (ah.aB m.ax) (fun k hk I8 KC=>?_) (fun I8=>?_)
     ·have F0:=wb 0 (fP P (aY P) HV (aV (l.take i)+k)) cN
      rw[Nat.zero_add]at F0
      obtain⟨d2,AH,F4⟩:=Q2 ((rN l 0 (fP P (aY P) HV (aV (l.take i)+k))).map cH)
      rw[Q3]at F4
      have sR:((rN l 0 (fP P (aY P) HV (aV (l.take i)+k))).map gy)[i]? =some (gy (dQ (fP P (aY P) HV (aV (l.take i)+k)) (aV (l.take i)) (ah.aB m.ax))):=by rw[List.getElem?_map,F0];rfl
      obtain⟨e,he⟩:=get_some (show k<(cL m.ax Ls 0).length by rw[pR];exact hk)
      obtain⟨b,ta,tb,La,Lb,hb,A1,xg,Ei,KA,g9,jE,Cm,O4⟩:=VU k e he
      have Ej:(dQ (hr (aY P)) (aV (l.take i)) (ah.aB m.ax))[k]? =some b.here:=by rw[nF hk];simp only[hr,hb]
      have kH:(dQ (fP P (aY P) HV (aV (l.take i)+k)) (aV (l.take i)) (ah.aB m.ax))[k]? =some b.mark:=by
       rw[nF hk]
       have:fP P (aY P) HV (aV (l.take i)+k) (aV (l.take i)+k)=dn P (aV (l.take i)+k):=by unfold fP;rw[if_neg (by omega)]
       rw[this,←NH];simp only[dn,hb]
      have GG:gS (aY P) HV (aV (l.take i)+k)=(b.here&&(b.mark&&decide (0<(fY (eW ta) HV).length))):=by
       unfold gS;rw[hb];simp only[KA]
      have qT:dz (.d (.int .i64 ((k:Nat):Int)))=.d (.int .i64 ((k:Nat):Int)):=rfl
      have SE:ba (.d (gy (dQ (fP P (aY P) HV (aV (l.take i)+k)) (aV (l.take i)) (ah.aB m.ax))))=some (.d (.int .i64 ((ah.aB m.ax:Nat):Int))):=by
       have:=(oU (dQ (fP P (aY P) HV (aV (l.take i)+k)) (aV (l.take i)) (ah.aB m.ax))).len
       rw[tu,jK]at this;exact this
      rw[←Nat.add_assoc]at KC
      simp only[AH,hz,qT,F4.at sR,xP,SE,BP,Bz,true_and,sS,sT]
      refine And.intro (fun _=>?_) (fun h=>absurd h (by simp;omega))
      simp only[ej,(cm 1 (kO l L)).at lj,zC,(cm 4 (jh (cL m.ax Ls 0))).at (H7 he),jl,M3,sS]
      refine bH (aeP A1 xg Ei) (jX _ _) ?_
      simp only[ej,Qt,amJ,(cm 1 _).at UL,xP,(oU _).at (sc Ej),xM,(oU _).at (sc kH),sS]
      have fI:gS (aY P) HV (aV (l.take i)+k)=false→I8 [.d x,aO 1 (kO l L),aO 1 (nZ l),nY ((rN l 0 (fP P (aY P) HV (aV (l.take i)+k))).map cH),.d (.bool (vE (aY P) HV (aV (l.take i)+k))),aO 6 (aM HV),aO 1 ((rN l 0 (hr (aY P))).map gy),.d (.int .i64 ((i:Nat):Int)),.d (.int .i64 ((k+1:Nat):Int))] [[.d (.int .i64 0),.d (.int .i64 0),.d (.int .i64 0),.d (.str [])],[.d (.int .i64 0),.d (.int .i64 0),.d (.int .i64 0),.d (.str [])]]:=fun hf=>by
       rw[ZF,hf,Bool.or_false,←akj hf]at KC
       exact KC
      have wz:=bf hk (Nat.le_trans vV (by decide))
      refine And.intro (fun h1=>And.intro (fun h2=>?_) (fun h2=>?_)) (fun h1=>?_)
      ·have AN:=ady (eW ta) HV (cm 6 (aM (eW ta))) (cm 6 (aM HV)) (Nat.le_trans (Rw Ei) (by decide)) ada.Ku.1 ada.Ku.2 (fun s hs=>Nat.le_trans (W5 hs) (Nat.le_trans (R4 Ei).2 (by decide)))
       refine bH AN (jX _ _) ?_
       simp only[ej,(cm 6 _).len,eG,BP,Bz,true_and,sS]
       refine And.intro (fun h3=>?_) (fun h3=>?_)
       ·have hf:gS (aY P) HV (aV (l.take i)+k)=true:=by
         rw[GG,h1,h2]
         have:0<(fY (eW ta) HV).length :=by
          have h4:((fY (eW ta) HV).length :Int)>0:=by simpa using h3
          omega
         simp[this]
        have are:((rN l 0 (fP P (aY P) HV (aV (l.take i)+k))).map cH)[i]? =some (cH (dQ (fP P (aY P) HV (aV (l.take i)+k)) (aV (l.take i)) (ah.aB m.ax))):=by rw[List.getElem?_map,F0];rfl
        refine aiB are (by rw[tu,jK];exact hk) ?_
        refine aS wz ?_
        have fk:=aby 0 (fP P (aY P) HV (aV (l.take i)+k)) false cN hk
        rw[Nat.zero_add,amN hf]at fk
        have jE:(cH (dQ (fP P (aY P) HV (aV (l.take i)+k)) (aV (l.take i)) (ah.aB m.ax))).set k (.bool false)=cH ((dQ (fP P (aY P) HV (aV (l.take i)+k)) (aV (l.take i)) (ah.aB m.ax)).set k false):=by simp only[cH,List.map_set]
        rw[jE,←List.map_set,fk]
        rw[ZF,hf,Bool.or_true]at KC
        exact KC
       ·have hf:gS (aY P) HV (aV (l.take i)+k)=false:=by
         rw[GG,h1,h2]
         have:¬0<(fY (eW ta) HV).length :=by
          have h4:¬((fY (eW ta) HV).length :Int)>0:=by simpa using h3
          omega
         simp[this]
        refine aS wz ?_
        exact fI hf
      ·have hf:gS (aY P) HV (aV (l.take i)+k)=false:=by rw[GG,h1,h2];simp
       refine aS wz ?_
       exact fI hf
      ·have hf:gS (aY P) HV (aV (l.take i)+k)=false:=by rw[GG,h1];simp
       refine aS wz ?_
       exact fI hf
     ·have F0:=wb 0 (fP P (aY P) HV (aV (l.take i)+ah.aB m.ax)) cN
      rw[Nat.zero_add]at F0
      obtain⟨d2,AH,F4⟩:=Q2 ((rN l 0 (fP P (aY P) HV (aV (l.take i)+ah.aB m.ax))).map cH)
      rw[Q3]at F4
      have sR:((rN l 0 (fP P (aY P) HV (aV (l.take i)+ah.aB m.ax))).map gy)[i]? =some (gy (dQ (fP P (aY P) HV (aV (l.take i)+ah.aB m.ax)) (aV (l.take i)) (ah.aB m.ax))):=by rw[List.getElem?_map,F0];rfl
      have SE:ba (.d (gy (dQ (fP P (aY P) HV (aV (l.take i)+ah.aB m.ax)) (aV (l.take i)) (ah.aB m.ax))))=some (.d (.int .i64 ((ah.aB m.ax:Nat):Int))):=by
       have:=(oU (dQ (fP P (aY P) HV (aV (l.take i)+ah.aB m.ax)) (aV (l.take i)) (ah.aB m.ax))).len
       rw[tu,jK]at this;exact this
      have qT:dz (.d (.int .i64 ((ah.aB m.ax:Nat):Int)))=.d (.int .i64 ((ah.aB m.ax:Nat):Int)):=rfl
      simp only[AH,hz,qT,F4.at sR,xP,SE,BP,Bz,true_and,sS,sT]
      refine And.intro (fun h=>absurd h (by simp)) (fun _=>?_)
      refine aS (bf hi bX) ?_
      exact hI7
    ·simp only[hx.len,hl.len,sS,sT]
     refine And.intro (fun h=>absurd h (by simp)) (fun _=>?_)
     rw[List.take_length]
     have Iv:∀y,gS (aY P) HV y=gS (aY P) (iw (aY P) OS) y:=fun y=>by
      rw[←hHV,hOS]
      exact afS (fun eN=>aiz GQ eN) y
     obtain⟨f,hcf,Ji⟩:=mU
     cases f with
     |zero=>omega
     |succ f=>
     rw[qg]at Ji
     by_cases pW:vE (aY P) HV (aV l)=true
     ·rw[pW]
      have bg:lP (aY P) (iw (aY P) OS)≠[]:=fun he=>by
       have h0:=ZD.1 he
       unfold vE at pW
       obtain⟨y,_,hy⟩:=List.any_eq_true.1 pW
       rw[Iv,h0]at hy;cases hy
      rw[if_neg bg]at Ji
      have g8:j9 (jU (aY P) (lP (aY P) (iw (aY P) OS)))<j9 P:=by
       rw[←XI hP.up]
       exact aav bg fun j hj=>by
        obtain⟨b,k1,k2,k3,k4⟩:=aat.1 hj
        exact⟨b,k1,k3⟩
      have ld:rN l 0 (fP P (aY P) HV (aV l))=rN l 0 (dn (jU (aY P) (lP (aY P) (iw (aY P) OS)))):=Hr l fun y _ hy=>by
       rw[amI]
       unfold fP TJ
       rw[if_pos (by omega),NH,Iv]
      rw[ld]
      refine gK (true,jU (aY P) (lP (aY P) (iw (aY P) OS))) ⟨GQ.ur (EW _ _),acd.trans (EW _ _),?_⟩ ?_
      ·simp only[if_true]
       exact⟨f,by omega,Ji⟩
      ·simp only[if_true];omega
     ·have TO:vE (aY P) HV (aV l)=false:=by simpa using pW
      rw[TO]
      have fO:∀y,y<aV l→gS (aY P) HV y=false:=fun y hy=>by
       unfold vE at TO
       have:=List.any_eq_false.1 TO y (List.mem_range.2 hy)
       simpa using this
      have bg:lP (aY P) (iw (aY P) OS)=[]:=ZD.2 fun y=>by
       rw[←Iv]
       by_cases hy:y<aV l
       ·exact fO y hy
       ·unfold gS;rw[List.getElem?_eq_none (by rw[GQ.len];omega)]
      rw[if_pos bg]at Ji
      have ld:rN l 0 (fP P (aY P) HV (aV l))=rN l 0 (dn P):=Hr l fun y _ hy=>by
       unfold fP
       rw[if_pos (by omega),fO y (by omega)];simp
      rw[ld]
      refine gK (false,P) ⟨hP,ac8,?_⟩ ?_
      ·simp only[Bool.false_eq_true,if_false]
       exact Ji.symm
      ·simp
  ·subst pW
   have mU:qw B OS=aY P:=by simpa using mU
   rw[mU,abA GQ]
   refine eX (fun i=>[.d x,aO 1 (kO l L),aO 1 (nZ l),nY ((rN l 0 (dn P)).map cH),aO 1 (((rN l 0 fun x=>hr (aY P) x&&dn (aY P) x).take i).map gy),.d (.int .i64 ((i:Nat):Int))]) (fun i=>[[.d (.int .i64 0),.d (.int .i64 0),.d (.int .i64 0),.d (.str [])],[.d (.int .i64 0),.d (.int .i64 0),.d (.int .i64 0),.d (.str [])]]) l.length (fun i hi I4 vn=>?_) (fun I4=>?_)
   ·obtain⟨m,cN⟩:=get_some hi
    obtain⟨y,hy,hZ⟩:=hl.at_ cN
    have cE:=hm m (List.mem_of_getElem? cN)
    have lj:=MC cN hy
    have TK:=R5 cN
    have mA:=wb 0 (fun x=>hr (aY P) x&&dn (aY P) x) cN
    have Jh:=wb 0 (dn P) cN
    rw[Nat.zero_add]at mA Jh
    rw[dT mA,List.map_append,List.map_cons,List.map_nil]at vn
    have vV:ah.aB m.ax≤120:=Nat.le_trans (ah.qC _) cE.sz
    have wM:=hP.bk cN
    cases hZ with
    |mk xs Ls oG sP=>
    have Ah:pF (.agg [.str m.name,.int .i64 m.nv,xs]) 2=xs:=rfl
    rw[Ah,oG.el]at lj
    have pR:(cL m.ax Ls 0).length =ah.aB m.ax:=pL _ _ _
    have hz:dz (.d (.int .i64 ((i:Nat):Int)))=.d (.int .i64 ((i:Nat):Int)):=rfl
    have sR:((rN l 0 (dn P)).map gy)[i]? =some (gy (dQ (dn P) (aV (l.take i)) (ah.aB m.ax))):=by rw[List.getElem?_map,Jh];rfl
    simp only[hx.len,hl.len,sS,sT]
    refine And.intro (fun _=>?_) (fun h=>absurd h (by simp;omega))
    simp only[Qt,ve,hz,(cm 1 (kO l L)).at lj,(cm 1 (nZ l)).at TK,A3.at sR,zC,xP,(cm 4 (jh (cL m.ax Ls 0))).len,Bv,pR,EA,R1,sS]
    refine⟨by omega,?_⟩
    have Ky:=Wm m.ax 0 (cL m.ax Ls 0) (dQ (dn P) (aV (l.take i)) (ah.aB m.ax)) (List.replicate (ah.aB m.ax) false) sP (uw.self _) (cm 4 _) (cm 1 _) (oU _) (by rw[pR];omega) (by rw[jK,pR]) (by rw[pR];simp) (by rw[pR];omega)
    rw[ZA hP.up wM]at Ky
    refine Fx Ky rfl ?_
    refine⟨acb _,rfl,?_⟩
    have TM:∀r:List Bool,pT (.bh 1 (cH r))=some (.own 1 (cH r)):=fun _=>rfl
    have Kz:∀r:List Bool,aa (.own 1 (cH r))=.d (gy r):=fun _=>rfl
    have e1:dQ (hr (aY P)) (aV (l.take i)) (ah.aB m.ax)=dQ (gP (aY P) (aV (l.take i)+0)) (aV (l.take i)) (ah.aB m.ax):=K6 fun j hj=>by unfold gP;rw[if_neg (by omega)]
    simp only[tu,jK]
    rw[e1]
    refine eX (fun k=>[.d x,aO 1 (kO l L),aO 1 (nZ l),nY ((rN l 0 (dn P)).map cH),aO 1 (((rN l 0 fun x=>hr (aY P) x&&dn (aY P) x).take i).map gy),.d (.int .i64 ((i:Nat):Int)),.d (.int .i64 ((k:Nat):Int))]) (fun k=>[[.d (.int .i64 0),.d (.int .i64 0),.d (.int .i64 0),.d (.str [])],[.d (.int .i64 0),.d (.int .i64 0),.d (.int .i64 0),.d (.str [])],bj (cH (dQ (gP (aY P) (aV (l.take i)+k)) (aV (l.take i)) (ah.aB m.ax)))]) (ah.aB m.ax) (fun k hk I5 qd=>?_) (fun I5=>?_)
    ·have qT:dz (.d (.int .i64 ((k:Nat):Int)))=.d (.int .i64 ((k:Nat):Int)):=rfl
     have JW:=aiD (jK (gP (aY P) (aV (l.take i)+k)) (aV (l.take i)) (ah.aB m.ax))
     have pY:(dQ (gP (aY P) (aV (l.take i)+k)) (aV (l.take i)) (ah.aB m.ax))[k]? =some (hr (aY P) (aV (l.take i)+k)):=by
      rw[nF hk];unfold gP;rw[if_neg (by omega)]
     have kH:(dQ (dn P) (aV (l.take i)) (ah.aB m.ax))[k]? =some (dn P (aV (l.take i)+k)):=nF hk
     have mg:da (.d (.int .i64 (k:Int))) (ah.aB m.ax)=some k:=jJ hk
     have fk:=aiC (f:=gP (aY P) (aV (l.take i)+k)) (b:=aV (l.take i)) (v:=hr (aY P) (aV (l.take i)+k)&&dn (aY P) (aV (l.take i)+k)) hk
     rw[amO,NH]at fk
     rw[←Nat.add_assoc,←fk]at qd
     have wz:=bf hk (Nat.le_trans vV (by decide))
     generalize hr (aY P) (aV (l.take i)+k)=hb at pY qd
     generalize dn P (aV (l.take i)+k)=mb at kH qd
     simp only[JW,hz,qT,(oU _).at (sc pY),xM,ve,A3.at sR,xP,(oU _).at (sc kH),BP,Bz,true_and,mg,Ru,jK,sS,sT]
     have Ko:∀v:Bool,aE (.d (.bool v))=some [.d (.bool v)]:=fun _=>rfl
     refine And.intro (fun _=>And.intro (fun h1=>?_) (fun h1=>?_)) (fun h=>absurd h (by simp;omega))
     ·refine aS (Ko mb) ⟨rfl,by omega,?_⟩
      refine aS wz ?_
      rw[H8]
      rw[h1,Bool.true_and]at qd
      exact qd
     ·refine aS (Ko false) ⟨rfl,by omega,?_⟩
      refine aS wz ?_
      rw[H8]
      rw[h1,Bool.false_and]at qd
      exact qd
    ·have hg:=LJ (dQ (gP (aY P) (aV (l.take i)+ah.aB m.ax)) (aV (l.take i)) (ah.aB m.ax))
     rw[jK]at hg
     have pa:dQ (gP (aY P) (aV (l.take i)+ah.aB m.ax)) (aV (l.take i)) (ah.aB m.ax)=dQ (fun x=>hr (aY P) x&&dn (aY P) x) (aV (l.take i)) (ah.aB m.ax):=K6 fun j hj=>by unfold gP;rw[if_pos (by omega)]
     rw[pa]at hg
     simp only[EX,hg,TM,Kz,dG,ZE,By,pa,sS,sT]
     refine And.intro (fun h=>absurd (of_decide_eq_true h) (Int.lt_irrefl _)) (fun _=>?_)
     refine gB (xr _) (by simp only[List.length_map,List.length_take,List.length_singleton];omega) ?_
     refine aS (bf hi bX) ?_
     exact vn
   ·simp only[hx.len,hl.len,sS,sT]
    refine And.intro (fun h=>absurd h (by simp)) (fun _=>?_)
    have pt:(rN l 0 (fun x=>hr (aY P) x&&dn (aY P) x)).length =l.length:=Ia l 0 _
    rw[List.take_of_length_le (by omega:(rN l 0 (fun x=>hr (aY P) x&&dn (aY P) x)).length ≤l.length)]
    simp only[uB,dv,dw,fu,dH,sS,sT]
    exact⟨jY _ _,rfl⟩
mutual
def vF:ah→D→List Bool→Nat→List D
 | .mk s a b,x,cZ,k=>if s.kind==18 then(if cZ.getD k false then iH a (ql x) cZ (k+1)else iH b (vC x) cZ (k+1+ah.aB a))else [x]
def iH:List ah→List D→List Bool→Nat→List D
 |t::l,x::L,cZ,k=>vF t x cZ k++iH l L cZ (k+t.nb)
 |_,_,_,_=>[]
end
theorem akk{t:ah}{x:D}(h:(t.s.kind==18)=true)(cZ:List Bool)(k:Nat):vF t x cZ k=if cZ.getD k false then iH t.th (ql x) cZ (k+1)else iH t.el (vC x) cZ (k+1+ah.aB t.th):=by
 cases t with
 |mk s a b=>
  have h:(s.kind==18)=true:=h
  simp only[vF,h,if_true];rfl
theorem amQ{t:ah}{x:D}(h:(t.s.kind==18)=false)(cZ:List Bool)(k:Nat):vF t x cZ k=[x]:=by
 cases t with
 |mk s a b=>
  have h:(s.kind==18)=false:=h
  simp only[vF,h];rfl
theorem ZG{cZ:List Bool}:∀{l:List ah}{L:List D}{i:Nat}{t:ah}{x:D}(k:Nat),l[i]? =some t→L[i]? =some x→iH (l.take (i+1)) (L.take (i+1)) cZ k=iH (l.take i) (L.take i) cZ k++vF t x cZ (k+ah.aB (l.take i))
 |[],_,_,_,_,_,h,_=>by simp at h
 |_::_,[],_,_,_,_,_,h=>by simp at h
 |u::l,y::L,0,t,x,k,h1,h2=>by
  simp at h1 h2;subst h1;subst h2
  simp[iH,ah.aB]
 |u::l,y::L,i+1,t,x,k,h1,h2=>by
  have:=ZG (cZ:=cZ) (k+u.nb) (l:=l) (L:=L) (i:=i) (by simpa using h1) (by simpa using h2)
  simp only[List.take_succ_cons,iH,ah.aB]at this ⊢
  rw[this,List.append_assoc,show k+u.nb+ah.aB (l.take i)=k+(u.nb+ah.aB (l.take i)) by omega]
mutual
theorem akl:∀(t:ah)(x:D)(cZ:List Bool)(k:Nat),(vF t x cZ k).length ≤t.sz
 | .mk s a b,x,cZ,k=>by
   simp only[vF,ah.sz]
   have h1:=EY a (ql x) cZ (k+1)
   have h2:=EY b (vC x) cZ (k+1+ah.aB a)
   split
   ·split<;>omega
   ·simp;omega
theorem EY:∀(l:List ah)(L:List D)(cZ:List Bool)(k:Nat),(iH l L cZ k).length ≤ah.bQ l
 |[],_,cZ,k=>by simp[iH]
 |t::l,[],cZ,k=>by simp[iH]
 |t::l,x::L,cZ,k=>by
  simp only[iH,ah.bQ,List.length_append]
  have h1:=akl t x cZ k
  have h2:=EY l L cZ (k+t.nb)
  omega
end
theorem TC.c55{t:ah}{x:D}{c:List SV}{bd al yt ye:D}{Lt Le:List D}(h:TC t x c bd al yt ye Lt Le):x.cells.length=55:=by
 have h1:=h.cells
 have h2:=h.len
 simp only[aE,Option.some.injEq]at h1
 rw[←h1,List.length_map]at h2
 exact h2
mutual
theorem akm:∀(t:ah){x:D}{cZ:List Bool}{k:Nat},l6 t x→∀u∈vF t x cZ k,∃v,l6 v u
 | .mk s a b,x,cZ,k,hx,u,hu=>by
   obtain⟨c,bd,al,yt,ye,Lt,Le,hc⟩:=hx.out
   obtain⟨iV,fo⟩:=hx.ql hc
   simp only[vF,iV,fo]at hu
   split at hu
   ·split at hu
    ·exact HN a hc.fL u hu
    ·exact HN b hc.fG u hu
   ·simp at hu;subst hu;exact⟨_,hx⟩
theorem HN:∀(l:List ah){L:List D}{cZ:List Bool}{k:Nat},fm l L→∀u∈iH l L cZ k,∃v,l6 v u
 |[],L,cZ,k,hx,u,hu=>by simp[iH]at hu
 |t::l,_,cZ,k,hx,u,hu=>by
  cases hx with
  |cons _ x _ L h hl=>
   simp only[iH,List.mem_append]at hu
   rcases hu with hu|hu
   ·exact akm t h u hu
   ·exact HN l hl u hu
end
theorem abC{v:ah}{u:D}(h:l6 v u):aH true 55 (.aX u 0)=some (.d u)∧u.cells.length=55:=by
 obtain⟨c,bd,al,yt,ye,Lt,Le,hc⟩:=h.out
 exact⟨hc.load,hc.c55⟩
def O5(ts:List ah):Prop:=∀{L:List D}{x y:D}(cZ:List Bool)(k:Nat),aL 55 L x→fm ts L→dk ts→k+ah.aB ts≤cZ.length→cZ.length≤2^20→aL 1 (cH cZ) y→
 aF Try.prog gl 52 [.d x,.d y,.d (.int .i64 ((k:Nat):Int))] (.aK [aO 55 (iH ts L cZ k),.d (.int .i64 ((k+ah.aB ts:Nat):Int))])
theorem afT(ts:List ah)(IH:∀iG,ah.bQ iG<ah.bQ ts→O5 iG):O5 ts:=by
 intro L x y cZ k hx hs cE fZ eg hy
 have h0:=ah.tz ts
 have jy:=cE.sz
 have bX:ts.length≤maxLen:=Nat.le_trans (Nat.le_trans h0 cE.sz) (by decide)
 refine a8 (ak7 ..) fun br=>?_
 simp only[sT,sZ]
 have e0:SV.d (.int .i64 ((k:Nat):Int))=.d (.int .i64 ((k+ah.aB (ts.take 0):Nat):Int)):=by simp[ah.aB]
 have e1:c7=aO 55 (iH (ts.take 0) (L.take 0) cZ k):=by simp[iH];rfl
 rw[e0,e1]
 refine eX (fun i=>[.d x,.d y,.d (.int .i64 ((k+ah.aB (ts.take i):Nat):Int)),aO 55 (iH (ts.take i) (L.take i) cZ k),.d (.int .i64 ((i:Nat):Int))]) (fun i=>[]) ts.length (fun i hi I hI=>?_) (fun I=>?_)
 ·simp only[hx.len,hs.len,sS,sT]
  refine And.intro (fun _=>?_) (fun h=>absurd h (by simp;omega))
  obtain⟨t,ht⟩:=get_some hi
  obtain⟨z,hz,eU⟩:=hs.at_ ht
  obtain⟨c,bd,al,yt,ye,Lt,Le,hc⟩:=eU.out
  obtain⟨iV,fo⟩:=eU.ql hc
  have AE:=t.zj
  have xb:=ah.QQ ht
  have nB:=cE.th (List.mem_of_getElem? ht)
  have F7:=EY (ts.take i) (L.take i) cZ k
  have aP:ah.bQ (ts.take i)+t.sz≤ah.bQ ts:=by
   have h2:ah.bQ (ts.take (i+1))=ah.bQ (ts.take i)+t.sz:=by
    rw[dT ht,ah.uK,ah.uK];simp
   have h3:ah.bQ (ts.take (i+1))≤ah.bQ ts:=by
    rw[ah.uK,ah.uK,←List.take_append_drop (i+1) ts,List.map_append,List.sum_append,List.take_append_drop];omega
   omega
  have apY:ah.aB (ts.take i)+t.nb≤ah.aB ts:=by
   rw[←xb,ah.Bx,ah.Bx,←List.take_append_drop (i+1) ts,List.map_append,List.sum_append,List.take_append_drop];omega
  have jt:=ZG (cZ:=cZ) k ht hz
  rw[jt]at hI
  have wz:=bf hi bX
  have app:∀{M:List D}{j:Nat}{u:D}{Kk:SV→Prop},M[j]? =some u→M.length≤120→Kk (aO 55 (iH (ts.take i) (L.take i) cZ k++M.take (j+1)))→cb 55 768 (aO 55 (iH (ts.take i) (L.take i) cZ k++M.take j)) (.full 55 [u]) Kk:=fun{M j u Kk}hu hM hK=>by
   refine gB (M:=[u]) rfl (by simp only[List.length_append,List.length_take,List.length_singleton];omega) ?_
   rw[List.append_assoc,←dT hu];exact hK
  simp only[hx.at hz,jl,hc.l0,ek,sS]
  refine And.intro (fun hk=>?_) (fun hk=>?_)
  ·have bY:(t.s.kind==18)=false:=by simpa[bne]using hk
   rw[amQ bY]at hI
   have Tz:t.nb=0:=by rw[t.zQ,bY];rfl
   rw[xb,Tz,Nat.add_zero]at hI
   simp only[hc.load,dG,MX hc.c55,pj,sS,sT]
   refine gB (M:=[z]) rfl (by simp only[List.length_singleton];omega) ?_
   refine aS wz ?_
   exact hI
  have bY:(t.s.kind==18)=true:=by simpa[bne]using hk
  rw[akk bY,iV,fo]at hI
  have ap0:t.nb=1+ah.aB t.th+ah.aB t.el:=by rw[t.zQ,if_pos bY]
  obtain⟨b,hb⟩:=get_some (l:=cZ) (i:=k+ah.aB (ts.take i)) (by omega)
  have hgd:cZ.getD (k+ah.aB (ts.take i)) false=b:=by rw[List.getD_eq_getElem?_getD,hb];rfl
  rw[hgd]at hI
  have Vr:aj none .add (.d (.int .i64 ((k+ah.aB (ts.take i):Nat):Int))) (.d (.int .i64 1))=some (.d (.int .i64 ((k+ah.aB (ts.take i)+1:Nat):Int))):=ES (n:=1) (by omega)
  have AF:k+ah.aB (ts.take (i+1))=k+ah.aB (ts.take i)+1+ah.aB t.th+ah.aB t.el:=by omega
  rw[AF]at hI
  have H1:=IH t.th (by omega) cZ (k+ah.aB (ts.take i)+1) hc.iV hc.fL nB.1 (by omega) eg hy
  have H2:=IH t.el (by omega) cZ (k+ah.aB (ts.take i)+1+ah.aB t.th) hc.fo hc.fG nB.2 (by omega) eg hy
  have qa:=EY t.th Lt cZ (k+ah.aB (ts.take i)+1)
  have pn:=EY t.el Le cZ (k+ah.aB (ts.take i)+1+ah.aB t.th)
  have fg:=nB.1.sz
  have ka:=nB.2.sz
  have Ki:∀{u:D},u∈iH t.th Lt cZ (k+ah.aB (ts.take i)+1)→aH true 55 (.aX u 0)=some (.d u)∧u.cells.length=55:=fun hu=>(by
   obtain⟨v,hv⟩:=HN t.th hc.fL _ hu
   exact abC hv)
  have yX:∀{u:D},u∈iH t.el Le cZ (k+ah.aB (ts.take i)+1+ah.aB t.th)→aH true 55 (.aX u 0)=some (.d u)∧u.cells.length=55:=fun hu=>(by
   obtain⟨v,hv⟩:=HN t.el hc.fG _ hu
   exact abC hv)
  simp only[hy.at (sc hb),xM,hc.GC,Vr,sS]
  refine call2 H1 ?_
  simp only[hc.GD,sS]
  refine call2 H2 ?_
  simp only[sS]
  generalize iH t.th Lt cZ (k+ah.aB (ts.take i)+1)=M1 at hI qa Ki ⊢
  generalize iH t.el Le cZ (k+ah.aB (ts.take i)+1+ah.aB t.th)=M2 at hI pn yX ⊢
  generalize iH (ts.take i) (L.take i) cZ k=M0 at hI F7 app ⊢
  have e2:∀M:List D,aO 55 M0=aO 55 (M0++M.take 0):=fun M=>by simp
  refine And.intro (fun eV=>?_) (fun eV=>?_)
  ·have Ks:b=false:=by simpa using eV
   rw[Ks,if_neg (by decide)]at hI
   simp only[ej,QM]
   rw[e2 M2]
   refine eX (fun j=>[.d x,.d y,aO 55 (M0++M2.take j),.d (.int .i64 ((i:Nat):Int)),.d (bB 55 M2),.d (.int .i64 ((k+ah.aB (ts.take i)+1+ah.aB t.th+ah.aB t.el:Nat):Int)),.d (.int .i64 ((j:Nat):Int))]) (fun j=>[]) M2.length (fun j hj I2 cF=>?_) (fun I2=>?_)
   ·obtain⟨u,hu⟩:=get_some hj
    obtain⟨sO,DW⟩:=yX (List.mem_of_getElem? hu)
    simp only[(cm 55 M2).len,sS,sT]
    refine And.intro (fun _=>?_) (fun h=>absurd h (by simp;omega))
    simp only[(cm 55 M2).at hu,sO,dG,MX DW,pj,sS,sT]
    refine app hu (by omega) ?_
    refine aS (bf hj (Nat.le_trans (by omega:M2.length≤120) (by decide))) ?_
    exact cF
   ·simp only[(cm 55 M2).len,sS,sT]
    refine And.intro (fun h=>absurd h (by simp)) (fun _=>?_)
    refine aS wz ?_
    rw[List.take_length]
    exact hI
  ·have Ks:b=true:=by simpa using eV
   rw[Ks,if_pos rfl]at hI
   simp only[ej,QM]
   rw[e2 M1]
   refine eX (fun j=>[.d x,.d y,aO 55 (M0++M1.take j),.d (.int .i64 ((i:Nat):Int)),.d (bB 55 M1),.d (.int .i64 ((k+ah.aB (ts.take i)+1+ah.aB t.th+ah.aB t.el:Nat):Int)),.d (.int .i64 ((j:Nat):Int))]) (fun j=>[]) M1.length (fun j hj I2 cF=>?_) (fun I2=>?_)
   ·obtain⟨u,hu⟩:=get_some hj
    obtain⟨sO,DW⟩:=Ki (List.mem_of_getElem? hu)
    simp only[(cm 55 M1).len,sS,sT]
    refine And.intro (fun _=>?_) (fun h=>absurd h (by simp;omega))
    simp only[(cm 55 M1).at hu,sO,dG,MX DW,pj,sS,sT]
    refine app hu (by omega) ?_
    refine aS (bf hj (Nat.le_trans (by omega:M1.length≤120) (by decide))) ?_
    exact cF
   ·simp only[(cm 55 M1).len,sS,sT]
    refine And.intro (fun h=>absurd h (by simp)) (fun _=>?_)
    refine aS wz ?_
    rw[List.take_length]
    exact hI
 ·simp only[hx.len,hs.len,sS,sT]
  refine And.intro (fun h=>absurd h (by simp)) (fun _=>?_)
  refine⟨jY _ _,?_⟩
  rw[List.take_length,show L.take ts.length=L by rw[←hs.len,List.take_length]]
theorem aeR(ts:List ah):O5 ts:=by
 have key:∀n ts,ah.bQ ts<n→O5 ts:=by
  intro n
  induction n with
  |zero=>intro ts h;omega
  |succ n ih=>exact fun ts h=>afT ts fun iG h'=>ih iG (by omega)
 exact fun{L x y}=>key _ ts (Nat.lt_succ_self _)
mutual
theorem ag9{cp:D→D}:∀(t:ah)(x:D)(bs:List ay)(n:Nat),pE cp t x bs n false=[]
 | .mk s a b,x,bs,n=>by
   simp only[pE,Bool.false_and]
   rw[Hb a,Hb b]
   split<;>rfl
theorem Hb{cp:D→D}:∀(l:List ah)(L:List D)(bs:List ay)(n:Nat),ft cp l L bs n false=[]
 |[],L,bs,n=>by simp[ft]
 |t::l,[],bs,n=>by simp[ft]
 |t::l,x::L,bs,n=>by rw[ft,ag9 t,Hb l];rfl
end
mutual
theorem akn{cp:D→D}:∀(t:ah)(x:D)(bs:List ay)(n:Nat)(k:Bool),pE cp t x bs n k=(pE id t x bs n k).map cp
 | .mk s a b,x,bs,n,k=>by
   simp only[pE]
   rw[Mc a,Mc b]
   split
   ·rw[List.map_append]
   ·split<;>rfl
theorem Mc{cp:D→D}:∀(l:List ah)(L:List D)(bs:List ay)(n:Nat)(k:Bool),ft cp l L bs n k=(ft id l L bs n k).map cp
 |[],L,bs,n,k=>by simp[ft]
 |t::l,[],bs,n,k=>by simp[ft]
 |t::l,x::L,bs,n,k=>by rw[ft,ft,akn t,Mc l,List.map_append]
end
mutual
theorem amR:∀(t:ah){x:D}{P:List ay}{base k:Nat}{m u:Int}{th:Bool}{cZ:List Bool},Fj P→tg P t (base+k) m u th→qn P u th=true→(∀j,k≤j→j<k+t.nb→cZ.getD j false=(hr P (base+j)&&dn P (base+j)))→vF t x cZ k=pE id t x P (base+k) true
 | .mk s a b,x,P,base,k,m,u,th,cZ,hP,hB,ho,hi=>by
   simp only[vF,pE]
   by_cases hk:(s.kind==18)=true
   ·have fZ:(ah.mk s a b).nb =1+ah.aB a+ah.aB b:=by rw[ah.nb,if_pos hk]
    simp only[tg]at hB
    rw[if_pos hk]at hB
    rw[fZ]at hi
    rw[if_pos hk,if_pos hk]
    obtain⟨⟨bl,h1,h2,h3,h4,h5,h6⟩,ha,hb⟩:=hB
    have hh:=hP _ _ h1
    rw[h3,h4,ho]at hh
    have A2:hr P (base+k)=true:=by simp only[hr,h1];exact hh
    have kH:dn P (base+k)=bl.mark:=by simp only[dn,h1]
    have arf:tT P (base+k)=bl.mark:=kH
    have xf:∀v,qn P ((base+k:Nat):Int) v=(bl.mark==v):=fun v=>by
     have h0:¬(((base+k:Nat):Int)<0):=by omega
     simp only[qn,h0,if_false,Int.toNat_natCast]
     rw[A2,kH,Bool.true_and]
    have pY:cZ.getD k false=bl.mark:=by rw[hi k (Nat.le_refl _) (by omega),A2,kH,Bool.true_and]
    rw[pY,arf]
    have ea:base+k+1=base+(k+1):=by omega
    have eb:base+k+1+ah.aB a=base+(k+1+ah.aB a):=by omega
    rw[ea]at ha
    rw[eb]at hb
    cases nN:bl.mark with
    |true=>
     rw[nN]at xf
     simp only[if_true,Bool.true_and,Bool.not_true]
     rw[Hb b,List.append_nil,ea]
     exact MD a hP ha (xf true) (fun j g1 g2=>hi j (by omega) (by omega))
    |false=>
     rw[nN]at xf
     simp only[Bool.false_eq_true,if_false,Bool.true_and,Bool.not_false]
     rw[Hb a,List.nil_append,eb]
     exact MD b hP hb (xf false) (fun j g1 g2=>hi j (by omega) (by omega))
   ·rw[if_neg hk,if_neg hk];rfl
theorem MD:∀(l:List ah){L:List D}{P:List ay}{base k:Nat}{m u:Int}{th:Bool}{cZ:List Bool},Fj P→rH P l (base+k) m u th→qn P u th=true→(∀j,k≤j→j<k+ah.aB l→cZ.getD j false=(hr P (base+j)&&dn P (base+j)))→iH l L cZ k=ft id l L P (base+k) true
 |[],L,P,base,k,m,u,th,cZ,hP,hB,ho,hi=>by simp[iH,ft]
 |t::l,[],P,base,k,m,u,th,cZ,hP,hB,ho,hi=>by simp[iH,ft]
 |t::l,x::L,P,base,k,m,u,th,cZ,hP,hB,ho,hi=>by
  have xb:ah.aB (t::l)=t.nb+ah.aB l:=rfl
  rw[xb]at hi
  obtain⟨nW,pD⟩:=hB
  rw[Nat.add_assoc]at pD
  rw[iH,ft,amR t hP nW ho (fun j g1 g2=>hi j g1 (by omega)),Nat.add_assoc,MD l hP pD ho (fun j g1 g2=>hi j (by omega) (by omega))]
end
theorem XJ{l:List bt}{os:List aq}:∀(f:Nat){P:List ay},j9 P<f→uy l P→∃P',uy l P'∧qg f P os=aY P'
 |0,P,hf,h=>by omega
 |f+1,P,hf,h=>by
  rw[qg]
  by_cases hl:lP (aY P) (iw (aY P) os)=[]
  ·rw[if_pos hl];exact⟨P,h,rfl⟩
  ·rw[if_neg hl]
   have h1:=aav hl fun j hj=>by
    obtain⟨b,k1,k2,k3,k4⟩:=aat.1 hj
    exact⟨b,k1,k3⟩
   rw[XI h.up]at h1
   exact XJ f (by omega) ((h.ur (tk P)).ur (EW _ _))
theorem aeS{l:List bt}{o:List ay}(h:nK l=.ok o):∃P,uy l P∧o=aY P:=by
 unfold nK at h
 split at h
 ·cases h
 ·rename_i B OS wG
  cases h
  obtain⟨g1,g2,g3,g4,g5⟩:=R3 l 0 wG (fun j b h=>by simp at h) (fun b h=>by simp at h)
  have Kx:uy l B:=⟨fun{i m}cN=>by have:=g3 i m cN;simpa using this,by simpa using g5.1,g1⟩
  have hc:j9 B≤B.length:=List.length_filter_le _ _
  exact XJ (B.length+1) (by omega) Kx
theorem ZH:∀(l:List bt),lz l=aV l
 |[]=>rfl
 |m::l=>by rw[lz,aV,ZH l]
theorem afU(n:List UInt8)(v:Int)(M:List D):dF Try.prog 36 [(0,.str n),(1,.int .i64 v),(2,bB 55 M)]=some (.agg [.str n,.int .i64 v,bB 55 M]):=by
 cases M<;>kernel_rfl
theorem abD(a b c:D):aH false 1 (.aX (.agg [a,b,c]) 0)=some (.d a):=rfl
theorem abE(a b c:D):aH false 1 (.aX (.agg [a,b,c]) 1)=some (.d b):=rfl
theorem adB{l:List bt}{L:List D}{x:D}(hx:aL 3 L x)(hl:sq l L)(h8:l.length≤8)(hm:∀m∈l,dk m.ax):aF Try.prog gl 26 [.d x] (ftR (Ee id l L)):=by
 have bX:l.length≤maxLen:=Nat.le_trans h8 (by decide)
 have hE:=adA hx hl h8 hm
 refine a8 (akY ..) fun br=>?_
 unfold Ee
 unfold xe at hE
 simp only[sS,sT,sZ]
 cases hd:nK l with
 |error e=>
  obtain⟨c,s⟩:=e
  rw[hd]at hE
  refine call2 hE ?_
  simp only[jA,dv,dw,fu,dH,gf,ek,oe (MA hd),sS,sT]
  refine And.intro (fun _=>?_) (fun h=>absurd h (by decide))
  rfl
 |ok o=>
  rw[hd]at hE
  simp only[ac7]at hE
  obtain⟨P,hP,ho⟩:=aeS hd
  have qW:=(Ro h8 hm hd).2
  have hPo:uy l o:=by rw[ho];exact hP.ur (tk P)
  have gG:Fj o:=by rw[ho];exact abx hP.up
  rw[abA hPo]at hE
  refine call2 hE ?_
  simp only[eO,dv,dw,fu,dH,gf,ek,ej,sS,sT]
  refine And.intro (fun h=>absurd h (by decide)) (fun _=>?_)
  refine eX (fun i=>[.d x,.d (bB 1 ((rN l 0 fun x=>hr o x&&dn o x).map gy)),aO 3 (mF id (l.take i) (L.take i) o 0),.d (.int .i64 ((i:Nat):Int))]) (fun i=>[[.d (.int .i64 0),.d (.int .i64 0),.d (.int .i64 0),.d (.str [])],[.d (.int .i64 0),.d (.int .i64 0),.d (.int .i64 0),.d (.str [])]]) l.length (fun i hi I hI=>?_) (fun I=>?_)
  ·obtain⟨m,cN⟩:=get_some hi
   obtain⟨y,hy,hZ⟩:=hl.at_ cN
   have cE:=hm m (List.mem_of_getElem? cN)
   have bc:=QV (cp:=id) (bs:=o) 0 cN hy
   rw[Nat.zero_add,ZH]at bc
   have oF:=Rq (cp:=id) (l.take i) (L.take i) o 0
   rw[List.length_take]at oF
   rw[bc]at hI
   have mA:=wb 0 (fun x=>hr o x&&dn o x) cN
   rw[Nat.zero_add]at mA
   have JQ:((rN l 0 fun x=>hr o x&&dn o x).map gy)[i]? =some (gy (dQ (fun x=>hr o x&&dn o x) (aV (l.take i)) (ah.aB m.ax))):=by rw[List.getElem?_map,mA];rfl
   have vV:ah.aB m.ax≤120:=Nat.le_trans (ah.qC _) cE.sz
   cases hZ with
   |mk xs Lm zb Jd=>
   have rD:Cu (.agg [.str m.name,.int .i64 m.nv,xs])=Lm:=zb.qk
   rw[rD]at hI
   have np:=aeR m.ax (dQ (fun x=>hr o x&&dn o x) (aV (l.take i)) (ah.aB m.ax)) 0 zb Jd cE (by rw[jK];omega) (by rw[jK];omega) (oU _)
   have hrf:=MD m.ax (L:=Lm) (base:=aV (l.take i)) (k:=0) (cZ:=dQ (fun x=>hr o x&&dn o x) (aV (l.take i)) (ah.aB m.ax)) gG (by simpa using hPo.bk cN) (by simp[qn]) (fun j _ h2=>by
    rw[List.getD_eq_getElem?_getD,nF (by omega)];rfl)
   rw[Nat.add_zero]at hrf
   rw[hrf]at np
   simp only[hx.len,hl.len,sS,sT]
   refine And.intro (fun _=>?_) (fun h=>absurd h (by simp;omega))
   simp only[hx.at hy,jl,Mv,abD,abE,(cm 1 _).at JQ,xP,sS]
   refine call2 np ?_
   have arh:∀z:D,bR (.aX z 0) 1=some (.aX z 1):=fun z=>by simp[bR]
   have yp3:∀a b c:D,aT [(0,.v (.d a)),(1,.v (.d b)),(2,.v (.d c))]=some [(0,a),(1,b),(2,c)]:=fun _ _ _=>rfl
   simp only[ej,yp3,afU,dG,abn,ab5,sS,sT]
   refine gB (M:=[_]) rfl (by simp only[List.length_singleton];omega) ?_
   refine aS (bf hi bX) ?_
   exact hI
  ·simp only[hx.len,hl.len,uB,dv,dw,fu,dH,sS,sT]
   refine And.intro (fun h=>absurd h (by simp)) (fun _=>?_)
   refine⟨jY _ _,?_⟩
   rw[List.take_length,show L.take l.length=L by rw[←hl.len,List.take_length]]
   rfl
theorem aor:eK Try.prog 9=some false:=by kernel_rfl
theorem amS:eK Try.prog 56=some true:=by kernel_rfl
theorem ako:Try.prog.cellsOf 9=1:=by kernel_rfl
theorem akp:Try.prog.cellsOf 56=10:=by kernel_rfl
theorem vW{xs:List D}(h:Is Try.prog 9 xs):∃s,xs=[.str s]:=by
 obtain⟨s,rfl,_⟩:=h.zm Try.underlying9
 exact⟨s,rfl⟩
theorem Md{xs:List D}(h:Is Try.prog 4 xs):∃b,xs=[.bool b]:=h.xD Try.underlying4
theorem zG{xs:List D}(h:Is Try.prog 3 xs):∃n,xs=[.int .i64 n]:=by
 obtain⟨n,rfl,_⟩:=h.vP Try.underlying3
 exact⟨n,rfl⟩
theorem Me{xs:List D}(h:Is Try.prog 51 xs):∃x:BitVec 64,xs=[dW x]:=by
 obtain⟨n,rfl,hn⟩:=h.vP Try.underlying51
 rw[PC]at hn
 have h0:0≤n:=hn.1
 have h1:n≤18446744073709551615:=hn.2
 obtain⟨m,rfl⟩:=Int.eq_ofNat_of_zero_le h0
 refine⟨BitVec.ofNat 64 m,?_⟩
 have:(BitVec.ofNat 64 m).toNat =m:=by
  rw[BitVec.toNat_ofNat]
  exact Nat.mod_eq_of_lt (by omega)
 rw[dW,this]
theorem amT{xs:List D}(h:Is Try.prog 53 xs):∃w:Nat→BitVec 64,xs=[dW (w 0),dW (w 1),dW (w 2),dW (w 3)]:=by
 obtain⟨parts,rfl,hl,hp⟩:=h.agi Try.underlying53
 match parts,hl,hp with
 |[a,b,c,d],_,hp=>
  obtain⟨x,rfl⟩:=Me (hp a (by simp))
  obtain⟨y,rfl⟩:=Me (hp b (by simp))
  obtain⟨z,rfl⟩:=Me (hp c (by simp))
  obtain⟨u,rfl⟩:=Me (hp d (by simp))
  exact⟨fun i=>if i=0 then x else if i=1 then y else if i=2 then z else u,rfl⟩
theorem aaB:xK Try.prog [9,3,4,48,51,53,54,56,28,50,57,143,59,61,63,34,65,22,36]=true:=by kernel_rfl
def M6(L:List D):Prop:=∀(i:Nat)y,L[i]? =some y→∃s t:List UInt8,y=.agg [.str s,.str t]
theorem aiE(a b:List UInt8):aj (some (false,[.str])) .neq (.d (.str a)) (.d (.str b))=some (.d (.bool (a != b))):=rfl
theorem G3(l:List (List UInt8)){x y:D}(hx:aL 1 (cA l) x)(hy:aL 1 (cA l) y):aF Try.prog gl 97 [.d x,.d y] (.d (.bool true)):=by
 refine a8 (alu ..) fun br=>?_
 have bX:l.length≤maxLen:=by have:=hx.Ai br.1;rwa[iu]at this
 simp only[hx.len,hy.len,iu,ek,sS,sT]
 refine And.intro (fun h=>absurd h (by simp)) (fun _=>?_)
 refine eX (fun i=>[.d x,.d y,.d (.int .i64 (l.length:Int)),.d (.int .i64 ((i:Nat):Int))]) (fun i=>[]) l.length (fun i hi I hI=>?_) (fun I=>?_)
 ·simp only[sS,sT]
  refine And.intro (fun _=>?_) (fun h=>absurd h (by simp;omega))
  obtain⟨s,hs⟩:=get_some hi
  simp only[hx.at (xL hs),hy.at (xL hs),Rn,aiE,sS]
  refine And.intro (fun h=>absurd h (by simp)) (fun _=>?_)
  refine aS (bf hi bX) ?_
  exact hI
 ·simp only[sS,sT]
  refine And.intro (fun h=>absurd h (by simp)) (fun _=>?_)
  trivial
theorem aiF(s t:List UInt8):aj (some (true,[.str,.str])) .neq (.d (.agg [.str s,.str t])) (.d (.agg [.str s,.str t]))=some (.d (.bool false)):=by
 simp[aj,gZ,eR,gY,oW]
theorem akq(s t:List UInt8):aH true 2 (.aX (.agg [.str s,.str t]) 0)=some (.d (.agg [.str s,.str t])):=rfl
theorem aea{L:List D}(hL:M6 L){x y:D}(hx:aL 2 L x)(hy:aL 2 L y):aF Try.prog gl 102 [.d x,.d y] (.d (.bool true)):=by
 refine a8 (ajB ..) fun br=>?_
 have bX:L.length≤maxLen:=hx.Ai br.1
 simp only[hx.len,hy.len,ek,sS,sT]
 refine And.intro (fun h=>absurd h (by simp)) (fun _=>?_)
 refine eX (fun i=>[.d x,.d y,.d (.int .i64 (L.length:Int)),.d (.int .i64 ((i:Nat):Int))]) (fun i=>[]) L.length (fun i hi I hI=>?_) (fun I=>?_)
 ·simp only[sS,sT]
  refine And.intro (fun _=>?_) (fun h=>absurd h (by simp;omega))
  obtain⟨z,hz⟩:=get_some hi
  obtain⟨s,t,rfl⟩:=hL i z hz
  simp only[hx.at hz,hy.at hz,akq,aiF,sS]
  refine And.intro (fun h=>absurd h (by decide)) (fun _=>?_)
  refine aS (bf hi bX) ?_
  exact hI
 ·simp only[sS,sT]
  refine And.intro (fun h=>absurd h (by simp)) (fun _=>?_)
  trivial
structure Ek where
 (a b c:Bool)
 (l m:List (List UInt8))
inductive TP(n:Ek):D→Prop
 |mk (x y:D) (hx:aL 1 (cA n.l) x) (hy:aL 1 (cA n.m) y):TP n (.agg [.bool n.a,.bool n.b,.bool n.c,x,y])
theorem Mf(a b c d e:D):aE (.d (.agg [a,b,c,d,e]))=some [.d a,.d b,.d c,.d d,.d e]:=rfl
theorem ari(a b c d e:D):ai false 1 0 [.d a,.d b,.d c,.d d,.d e]=some (.d a):=rfl
theorem arj(a b c d e:D):ai false 1 1 [.d a,.d b,.d c,.d d,.d e]=some (.d b):=rfl
theorem ark(a b c d e:D):ai false 1 2 [.d a,.d b,.d c,.d d,.d e]=some (.d c):=rfl
theorem adb(a b c d e:D):ai false 1 3 [.d a,.d b,.d c,.d d,.d e]=some (.d d):=rfl
theorem ade(a b c d e:D):ai false 1 4 [.d a,.d b,.d c,.d d,.d e]=some (.d e):=rfl
theorem qL{b:Bool}(h:b=true){A B:Prop}(hA:A):(b=true→A)∧(b=false→B):=⟨fun _=>hA,fun h2=>by rw[h]at h2;cases h2⟩
theorem KQ{n:Ek}{x y:D}(hx:TP n x)(hy:TP n y):aF Try.prog gl 98 [.d x,.d y] (.d (.bool true)):=by
 cases hx with
 |mk x1 x2 h1 h2=>
 cases hy with
 |mk y1 y2 k1 k2=>
 refine a8 (alv ..) fun br=>?_
 simp only[Mf,ari,arj,ark,adb,ade,sS,sT]
 refine⟨rfl,rfl,qL (by simp) (qL (by simp) (qL (by simp) ?_))⟩
 refine bH (G3 _ h1 k1) rfl ?_
 simp only[sS]
 refine And.intro (fun _=>?_) (fun h=>absurd h (by decide))
 refine bH (G3 _ h2 k2) rfl ?_
 exact⟨rfl,rfl⟩
structure A4 where
 s:List UInt8
 L:List D
 h:M6 L
inductive TQ(v:A4):D→Prop
 |mk (x:D) (hx:aL 2 v.L x):TQ v (.agg [.str v.s,x])
theorem akr(a b:D):aE (.d (.agg [a,b]))=some [.d a,.d b]:=rfl
theorem arl(a b:D):ai false 1 0 [.d a,.d b]=some (.d a):=rfl
theorem arn(a b:D):ai false 1 1 [.d a,.d b]=some (.d b):=rfl
theorem Q4(a b:List UInt8):aj (some (false,[.str])) .eql (.d (.str a)) (.d (.str b))=some (.d (.bool (a==b))):=rfl
theorem Pz{v:A4}{x y:D}(hx:TQ v x)(hy:TQ v y):aF Try.prog gl 100 [.d x,.d y] (.d (.bool true)):=by
 cases hx with
 |mk x1 h1=>
 cases hy with
 |mk y1 k1=>
 refine a8 (ajz ..) fun br=>?_
 simp only[akr,arl,arn,Q4,sS,sT]
 refine⟨rfl,rfl,qL (by simp) ?_⟩
 refine bH (aea v.h h1 k1) rfl ?_
 exact⟨rfl,rfl⟩
inductive TR(lo hi:A4):D→Prop
 |mk (x y:D) (hx:aL 2 lo.L x) (hy:aL 2 hi.L y):TR lo hi (.agg [.str lo.s,x,.str hi.s,y])
theorem Mg(a b c d:D):aE (.d (.agg [a,b,c,d]))=some [.d a,.d b,.d c,.d d]:=rfl
theorem aro(a b c d:D):ai true 2 0 [.d a,.d b,.d c,.d d]=some (.d (.agg [a,b])):=rfl
theorem arp(a b c d:D):ai true 2 2 [.d a,.d b,.d c,.d d]=some (.d (.agg [c,d])):=rfl
theorem WC{lo hi:A4}{x y:D}(hx:TR lo hi x)(hy:TR lo hi y):aF Try.prog gl 101 [.d x,.d y] (.d (.bool true)):=by
 cases hx with
 |mk x1 x2 h1 h2=>
 cases hy with
 |mk y1 y2 k1 k2=>
 refine a8 (ajA ..) fun br=>?_
 simp only[Mg,aro,arp,sS,sT]
 refine⟨rfl,rfl,?_⟩
 refine bH (Pz (.mk _ h1) (.mk _ k1)) rfl ?_
 simp only[sS]
 refine And.intro (fun _=>?_) (fun h=>absurd h (by decide))
 refine bH (Pz (.mk _ h2) (.mk _ k2)) rfl ?_
 exact⟨rfl,rfl⟩
theorem aiG(w:Nat→BitVec 64):Gp w w=true:=by simp[Gp]
theorem u7{b:Bool}(h:b=false){A B:Prop}(hB:B):(b=true→A)∧(b=false→B):=⟨fun h2=>(by rw[h]at h2;cases h2),fun _=>hB⟩
theorem W9:∀(n:Nat)(e:Xp),e.lv<n→∀{x y:D},kc e x→kc e y→aF Try.prog gl 99 [.d x,.d y] (.d (.bool true))
 |0,e,h,_,_,_,_=>by omega
 |n+1,e,h,x,y,hx,hy=>by
  obtain⟨nm,kd,L,rfl,hn,hl,hd,hk⟩:=hx.inv
  obtain⟨GR,GS,L2,rfl,DO,pn,AH,jf⟩:=hy.inv
  refine a8 (alw ..) fun br=>?_
  have bX:e.kids.length≤maxLen:=by
   rw[←hl]
   have h1:D.iQ (kI e.op e.a e.rel e.b nm e.w kd):=br.1
   exact hd.Ai ((D.mO _).1 h1 kd (by simp[kI]))
  simp only[ek,aiG,hd.len,AH.len,hl,pn,sS,sT]
  refine u7 (by simp) (u7 (by simp) (u7 (by simp) (u7 (by simp) (u7 (by simp) ?_))))
  refine bH (G3 _ hn DO) rfl ?_
  simp only[sS]
  refine u7 rfl (u7 (by simp) ?_)
  refine eX (fun i=>[.d (.int .i64 (e.kids.length:Int)),.d (.int .i64 ((i:Nat):Int))]) (fun i=>[kb e.op e.a e.rel e.b nm e.w kd,kb e.op e.a e.rel e.b GR e.w GS]) e.kids.length (fun i hi I hI=>?_) (fun I=>?_)
  ·simp only[sS,sT]
   refine And.intro (fun _=>?_) (fun h=>absurd h (by simp;omega))
   obtain⟨k,qV⟩:=get_some hi
   obtain⟨y1,tY⟩:=get_some (by omega:i<L.length)
   obtain⟨y2,yN⟩:=get_some (by omega:i<L2.length)
   have e1:=hk i k y1 qV tY
   have e2:=jf i k y2 qV yN
   have l1:aH true 10 (.aX y1 0)=some (.d y1):=by obtain⟨_,_,_,rfl,_⟩:=e1.inv;rfl
   have l2:aH true 10 (.aX y2 0)=some (.d y2):=by obtain⟨_,_,_,rfl,_⟩:=e2.inv;rfl
   simp only[hd.at tY,AH.at yN,l1,l2,sS]
   have aP:=Xp.aaW qV
   refine bH (W9 n k (by omega) e1 e2) rfl ?_
   simp only[sS]
   refine u7 rfl ?_
   refine aS (bf hi bX) ?_
   exact hI
  ·simp only[sS,sT]
   refine And.intro (fun h=>absurd h (by simp)) (fun _=>?_)
   trivial
set_option maxRecDepth 8000
structure FC where
 s:gI
 (r t:List UInt8)
 (n1 n2 n3 n4:Ek)
 e:Xp
 (lv lo hi:A4)
 (u v w:List UInt8)
 (cl ch:A4)
 val:Bool
inductive Gs where
 |mk (c:FC) (th el:List Gs)
structure wA where
 (bd al x1 y1 x2 y2 x3 y3 x4 y4 nm kd k0 k1 k2 k3 k4 yt ye:D)
def O6(n:Ek)(x y:D):List D:=[.bool n.a,.bool n.b,.bool n.c,x,y]
def ace(c:FC)(d:wA):List D:=O6 c.n1 d.x1 d.y1++(O6 c.n2 d.x2 d.y2++(O6 c.n3 d.x3 d.y3++(O6 c.n4 d.x4 d.y4++(kI c.e.op c.e.a c.e.rel c.e.b d.nm c.e.w d.kd++
 ([.str c.lv.s,d.k0,.str c.lo.s,d.k1,.str c.hi.s,d.k2,.str c.u,.str c.v,.str c.w,.str c.cl.s,d.k3,.str c.ch.s,d.k4,.bool c.val]++[d.yt,d.ye])))))
def fC(c:FC)(d:wA):List D:=mE c.s (.str c.r) (.str c.t) d.bd d.al (ace c d)
def fV(c:FC)(d:wA):List SV:=(fC c d).map .d
structure FOk(c:FC)(d:wA)(Lt Le:List D):Prop where
 hl:aL 1 (cA c.s.list) d.bd
 ha:aL 1 (cA c.s.jT) d.al
 a1:aL 1 (cA c.n1.l) d.x1
 b1:aL 1 (cA c.n1.m) d.y1
 a2:aL 1 (cA c.n2.l) d.x2
 b2:aL 1 (cA c.n2.m) d.y2
 a3:aL 1 (cA c.n3.l) d.x3
 b3:aL 1 (cA c.n3.m) d.y3
 a4:aL 1 (cA c.n4.l) d.x4
 b4:aL 1 (cA c.n4.m) d.y4
 e:kc c.e (.agg (kI c.e.op c.e.a c.e.rel c.e.b d.nm c.e.w d.kd))
 v0:aL 2 c.lv.L d.k0
 v1:aL 2 c.lo.L d.k1
 v2:aL 2 c.hi.L d.k2
 v3:aL 2 c.cl.L d.k3
 v4:aL 2 c.ch.L d.k4
 t:aL 55 Lt d.yt
 l:aL 55 Le d.ye
mutual
inductive jI:Gs→D→Prop
 |mk (c:FC) (d:wA) (th el:List Gs) (Lt Le:List D) (ok:FOk c d Lt Le) (fL:gF th Lt) (fG:gF el Le):jI (.mk c th el) (.agg (fC c d))
inductive gF:List Gs→List D→Prop
 |nil:gF [] []
 |cons (t:Gs) (x:D) (l:List Gs) (L:List D) (h:jI t x) (hl:gF l L):gF (t::l) (x::L)
end
theorem gF.len:∀{l:List Gs}{L:List D},gF l L→L.length=l.length
 |[],_,h=>by cases h;rfl
 |t::l,_,h=>by cases h with|cons _ _ _ _ _ hl=>simp[hl.len]
theorem gF.at_:∀{l:List Gs}{L:List D},gF l L→∀{i:Nat}{t:Gs},l[i]? =some t→∃y,L[i]? =some y∧jI t y
 |[],_,_,i,t,h=>by simp at h
 |t::l,_,h,0,u,hu=>by cases h with|cons _ x _ _ h hl=>simp at hu;subst hu;exact⟨x,rfl,h⟩
 |t::l,_,h,i+1,u,hu=>by cases h with|cons _ _ _ _ _ hl=>simpa using hl.at_ (by simpa using hu)
mutual
def Gs.sz:Gs→Nat
 | .mk _ a b=>1+Gs.bQ a+Gs.bQ b
def Gs.bQ:List Gs→Nat
 |[]=>0
 |t::l=>t.sz+Gs.bQ l
end
theorem Gs.x7:∀{l:List Gs}{t:Gs},t∈l→t.sz≤Gs.bQ l
 |[],t,h=>by cases h
 |u::l,t,h=>by
  rcases List.mem_cons.1 h with rfl|h
  ·simp[Gs.bQ]
  ·have:=Gs.x7 h;simp only[Gs.bQ];omega
section
variable(c:FC)(d:wA)
theorem Hs:aE (.d (.agg (fC c d)))=some (fV c d):=rfl
theorem BA:(fV c d).length =55:=rfl
theorem aaC:aH true 55 (.aX (.agg (fC c d)) 0)=some (.d (.agg (fC c d))):=EL _ 55 rfl
theorem R7:ai true 55 0 (fV c d)=some (.d (.agg (fC c d))):=rfl
theorem arq:ai false 1 0 (fV c d)=some (.d (.int .i64 c.s.kind)):=rfl
theorem ars:ai false 1 1 (fV c d)=some (.d (.int .i64 c.s.op)):=rfl
theorem art:ai false 1 4 (fV c d)=some (.d (.str c.s.name)):=rfl
theorem aru:ai false 1 5 (fV c d)=some (.d (.str c.r)):=rfl
theorem arv:ai false 1 6 (fV c d)=some (.d (.str c.t)):=rfl
theorem arw:ai false 1 7 (fV c d)=some (.d d.bd):=rfl
theorem arx:ai false 1 8 (fV c d)=some (.d d.al):=rfl
theorem ary:ai true 5 9 (fV c d)=some (.d (.agg [.bool c.n1.a,.bool c.n1.b,.bool c.n1.c,d.x1,d.y1])):=rfl
theorem aos:ai true 5 14 (fV c d)=some (.d (.agg [.bool c.n2.a,.bool c.n2.b,.bool c.n2.c,d.x2,d.y2])):=rfl
theorem aot:ai true 5 19 (fV c d)=some (.d (.agg [.bool c.n3.a,.bool c.n3.b,.bool c.n3.c,d.x3,d.y3])):=rfl
theorem aou:ai true 5 24 (fV c d)=some (.d (.agg [.bool c.n4.a,.bool c.n4.b,.bool c.n4.c,d.x4,d.y4])):=rfl
theorem aov:ai true 10 29 (fV c d)=some (.d (.agg (kI c.e.op c.e.a c.e.rel c.e.b d.nm c.e.w d.kd))):=rfl
theorem aow:ai true 2 39 (fV c d)=some (.d (.agg [.str c.lv.s,d.k0])):=rfl
theorem aox:ai true 4 41 (fV c d)=some (.d (.agg [.str c.lo.s,d.k1,.str c.hi.s,d.k2])):=rfl
theorem aoy:ai true 7 45 (fV c d)=some (.d (.agg [.str c.u,.str c.v,.str c.w,.str c.cl.s,d.k3,.str c.ch.s,d.k4])):=rfl
theorem aoz:ai false 1 52 (fV c d)=some (.d (.bool c.val)):=rfl
theorem aoA:ai false 1 53 (fV c d)=some (.d d.yt):=rfl
theorem aoB:ai false 1 54 (fV c d)=some (.d d.ye):=rfl
end
theorem aks(a b c d e f g:D):aE (.d (.agg [a,b,c,d,e,f,g]))=some [.d a,.d b,.d c,.d d,.d e,.d f,.d g]:=rfl
theorem aoC(p q r s t u v:SV)(a b c d e f g:SV):setAt [p,q,r,s,t,u,v] 0 [a,b,c,d,e,f,g]=[a,b,c,d,e,f,g]:=rfl
theorem arz(a b c d e f g:D):ai false 1 0 [.d a,.d b,.d c,.d d,.d e,.d f,.d g]=some (.d a):=rfl
theorem arA(a b c d e f g:D):ai false 1 1 [.d a,.d b,.d c,.d d,.d e,.d f,.d g]=some (.d b):=rfl
theorem arB(a b c d e f g:D):ai false 1 2 [.d a,.d b,.d c,.d d,.d e,.d f,.d g]=some (.d c):=rfl
theorem arC(a b c d e f g:D):ai true 4 3 [.d a,.d b,.d c,.d d,.d e,.d f,.d g]=some (.d (.agg [d,e,f,g])):=rfl
def M7(t:Gs):Prop:=∀{x y:D},jI t x→jI t y→aF Try.prog gl 92 [.d x,.d y] (.d (.bool true))
def ME(ts:List Gs):Prop:=∀{L M:List D}{x y:D},aL 55 L x→gF ts L→aL 55 M y→gF ts M→aF Try.prog gl 73 [.d x,.d y] (.d (.bool true))
theorem aiH(f:FuncId)(a:List SV)(k:FuncId→List SV→Prop):withFn (.d (.fn (.func f))) a k=k f a:=rfl
theorem Qu{ts:List Gs}(H:∀t∈ts,M7 t):ME ts:=by
 intro L M x y hx hL hy hM
 have key:aF Try.prog gl 91 [.d x,.d y,.d (.fn (.func 92))] (.d (.bool true)):=by
  refine a8 (aln ..) fun br=>?_
  have bX:ts.length≤maxLen:=by rw[←hL.len];exact hx.Ai br.1
  simp only[hx.len,hy.len,hL.len,hM.len,ek,sS,sT,sZ]
  refine u7 (by simp) ?_
  refine eX (fun i=>[.d y,.d (.fn (.func 92)),.d x,.d (.int .i64 (ts.length:Int)),.d (.int .i64 ((i:Nat):Int))]) (fun i=>[]) ts.length (fun i hi I hI=>?_) (fun I=>?_)
  ·simp only[sS,sT]
   refine And.intro (fun _=>?_) (fun h=>absurd h (by simp;omega))
   obtain⟨t,ht⟩:=get_some hi
   obtain⟨p,hp,Cx⟩:=hL.at_ ht
   obtain⟨q,hq,KD⟩:=hM.at_ ht
   have hh:=H t (List.mem_of_getElem? ht) Cx KD
   cases Cx with
   |mk c d th el Lt Le ok fL fG=>
   cases KD with
   |mk _ d2 _ _ VV VW nD TS TT=>
   have fg:=vN (z:=ik) (c:=fV c d) rfl (BA c d)
   have ka:=vN (z:=ik) (c:=fV c d2) rfl (BA c d2)
   simp only[sZ]at fg ka
   simp only[hx.at hp,hy.at hq,aaC,Hs,BA,fg,ka,R7,aiH,sS,sT]
   refine bH hh rfl ?_
   simp only[sS]
   refine u7 rfl ?_
   refine aS (bf hi bX) ?_
   exact hI
  ·simp only[sS,sT]
   refine And.intro (fun h=>absurd h (by simp)) (fun _=>?_)
   trivial
 refine a8 (alh ..) fun br=>?_
 simp only[sS]
 refine bH key rfl ?_
 exact⟨rfl,rfl⟩
theorem afV(c:FC)(th el:List Gs)(h1:ME th)(h2:ME el):M7 (.mk c th el):=by
 intro x y hx hy
 cases hx with
 |mk _ d _ _ Lt Le ok fL fG=>
 cases hy with
 |mk _ d2 _ _ VV VW nD TS TT=>
 refine a8 (alo ..) fun br=>?_
 simp only[Hs,BA,aoy,aks,aoC,arz,arA,arB,arC,arq,ars,art,aru,arv,arw,arx,ary,aos,aot,aou,aov,aow,aox,aoz,aoA,aoB,j4,Q4,sS,sT,sZ]
 refine⟨rfl,rfl,?_⟩
 refine qL (by simp) (qL (by simp) (qL (by simp) (qL (by simp) (qL (by simp) (qL (by simp) ?_)))))
 refine bH (G3 _ ok.hl nD.hl) rfl (xh ?_)
 refine bH (G3 _ ok.ha nD.ha) rfl (xh ?_)
 refine bH (KQ (.mk _ _ ok.a1 ok.b1) (.mk _ _ nD.a1 nD.b1)) rfl (xh ?_)
 refine bH (KQ (.mk _ _ ok.a2 ok.b2) (.mk _ _ nD.a2 nD.b2)) rfl (xh ?_)
 refine bH (KQ (.mk _ _ ok.a3 ok.b3) (.mk _ _ nD.a3 nD.b3)) rfl (xh ?_)
 refine bH (KQ (.mk _ _ ok.a4 ok.b4) (.mk _ _ nD.a4 nD.b4)) rfl (xh ?_)
 refine bH (W9 _ c.e (Nat.lt_succ_self _) ok.e nD.e) rfl (xh ?_)
 refine bH (Pz (.mk _ ok.v0) (.mk _ nD.v0)) rfl (xh ?_)
 refine bH (WC (.mk _ _ ok.v1 ok.v2) (.mk _ _ nD.v1 nD.v2)) rfl (xh ?_)
 refine qL (by simp) (qL (by simp) (qL (by simp) ?_))
 refine bH (WC (.mk _ _ ok.v3 ok.v4) (.mk _ _ nD.v3 nD.v4)) rfl (xh ?_)
 refine bH (h1 ok.t fL nD.t TS) rfl (xh ?_)
 refine bH (h2 ok.l fG nD.l TT) rfl ?_
 exact⟨rfl,rfl⟩
theorem Qv:∀(n:Nat)(t:Gs),t.sz<n→M7 t
 |0,t,h=>by omega
 |n+1,.mk c th el,h=>by
  simp only[Gs.sz]at h
  exact afV c th el (Qu fun t ht=>Qv n t (by have:=Gs.x7 ht;omega)) (Qu fun t ht=>Qv n t (by have:=Gs.x7 ht;omega))
theorem aeT(t:Gs):M7 t:=Qv _ t (Nat.lt_succ_self _)
theorem aeb(ts:List Gs):ME ts:=Qu fun t _=>aeT t
structure gA where
 name:List UInt8
 nv:Int
 ax:List Gs
inductive As(m:gA):D→Prop
 |mk (xs:D) (L:List D) (hx:aL 55 L xs) (hs:gF m.ax L):As m (.agg [.str m.name,.int .i64 m.nv,xs])
theorem akt(a b c:D):aE (.d (.agg [a,b,c]))=some [.d a,.d b,.d c]:=rfl
theorem arD(a b c:D):ai false 1 0 [.d a,.d b,.d c]=some (.d a):=rfl
theorem arE(a b c:D):ai false 1 1 [.d a,.d b,.d c]=some (.d b):=rfl
theorem arF(a b c:D):ai false 1 2 [.d a,.d b,.d c]=some (.d c):=rfl
theorem aeU{m:gA}{x y:D}(hx:As m x)(hy:As m y):aF Try.prog gl 53 [.d x,.d y] (.d (.bool true)):=by
 cases hx with
 |mk x1 L1 h1 k1=>
 cases hy with
 |mk x2 L2 h2 k2=>
 refine a8 (ak8 ..) fun br=>?_
 simp only[akt,arD,arE,arF,j4,Q4,sS,sT]
 refine⟨rfl,rfl,qL (by simp) (qL (by simp) ?_)⟩
 refine bH (aeb m.ax h1 k1 h2 k2) rfl ?_
 exact⟨rfl,rfl⟩
structure lQ(l:List gA)(L:List D):Prop where
 len:L.length=l.length
 at_:∀{i:Nat}{m:gA},l[i]? =some m→∃y,L[i]? =some y∧As m y
theorem SF{m:gA}{y:D}(h:As m y):aH true 3 (.aX y 0)=some (.d y):=by cases h;rfl
theorem XK{l:List gA}{L M:List D}{x y:D}(hx:aL 3 L x)(hL:lQ l L)(hy:aL 3 M y)(hM:lQ l M):aF Try.prog gl 27 [.d x,.d y] (.d (.bool true)):=by
 refine a8 (alJ ..) fun br=>?_
 have bX:l.length≤maxLen:=by rw[←hL.len];exact hx.Ai br.1
 simp only[hx.len,hy.len,hL.len,hM.len,ek,sS,sT]
 refine u7 (by simp) ?_
 refine eX (fun i=>[.d x,.d y,.d (.int .i64 (l.length:Int)),.d (.int .i64 ((i:Nat):Int))]) (fun i=>[]) l.length (fun i hi I hI=>?_) (fun I=>?_)
 ·simp only[sS,sT]
  refine And.intro (fun _=>?_) (fun h=>absurd h (by simp;omega))
  obtain⟨m,hm⟩:=get_some hi
  obtain⟨p,hp,Cx⟩:=hL.at_ hm
  obtain⟨q,hq,KD⟩:=hM.at_ hm
  simp only[hx.at hp,hy.at hq,SF Cx,SF KD,sS]
  refine bH (aeU Cx KD) rfl ?_
  simp only[sS]
  refine u7 rfl ?_
  refine aS (bf hi bX) ?_
  exact hI
 ·simp only[sS,sT]
  refine And.intro (fun h=>absurd h (by simp)) (fun _=>?_)
  trivial
def n0:D→SV
 | .sl .ro s L=>kC s [] L
 |_=>.d (.sl .nil 0 [])
def gQ:D→D
 | .sl .ro s L=>.sl .ro s L
 |_=>.sl .nil 0 []
theorem pS{n:Nat}{L:List D}{x:D}(h:aL n L x):aL n L (gQ x):=by
 cases h with
 |nil s h=>exact .nil 0 h
 |ro=>exact .ro
theorem LM{n:Nat}{L:List D}{x:D}(h:aL n L x):(n0 x=.d (.sl .nil 0 [])∧gQ x=.sl .nil 0 [])∨(n0 x=.full n []∧gQ x=.sl .ro n [])∨(n0 x=.own n L∧gQ x=.sl .ro n L):=by
 cases h with
 |nil s h=>exact .inl ⟨rfl,rfl⟩
 |ro=>
  right
  cases L with
  |nil=>exact .inl ⟨rfl,rfl⟩
  |cons a L=>exact .inr ⟨rfl,rfl⟩
theorem Bp{n:Nat}{L:List D}{x:D}(h:aL n L x):aE (n0 x)=some [n0 x]:=by
 rcases LM h with⟨h,_⟩|⟨h,_⟩|⟨h,_⟩<;>rw[h]<;>rfl
theorem BB{n:Nat}{L:List D}{x:D}(h:aL n L x):vY (n0 x)=false:=by
 rcases LM h with⟨h,_⟩|⟨h,_⟩|⟨h,_⟩<;>rw[h]<;>rfl
theorem ZI{n:Nat}{L:List D}{x:D}(h:aL n L x):(n0 x).aA =true:=by
 rcases LM h with⟨h,_⟩|⟨h,_⟩|⟨h,_⟩<;>rw[h]<;>rfl
theorem BC{n:Nat}{L:List D}{x:D}(h:aL n L x):cB (n0 x)=some (gQ x):=by
 rcases LM h with⟨h,k⟩|⟨h,k⟩|⟨h,k⟩<;>rw[h,k]<;>rfl
theorem ZJ(s:Nat):aj (some (false,[])) .eql (.d (.sl .nil s [])) (.d (.sl .nil 0 []))=some (.d (.bool true)):=rfl
theorem abF(s:Nat)(L:List D):aj (some (false,[])) .eql (.d (.sl .ro s L)) (.d (.sl .nil 0 []))=some (.d (.bool false)):=rfl
theorem ZK(s:Nat)(L:List D):elems s (.d (.sl .ro s L))=some L:=by simp[elems]
theorem GY{L:List D}{x:D}(h:aL 1 L x)(hw:L.length*16≤140737488355328):aF Try.prog gl 71 [.d x] (n0 x):=by
 have hn:=ZI h
 cases h with
 |nil s h=>
  refine a8 (HW ..) fun br=>?_
  simp only[ZJ,sS,sT]
  exact⟨fun _=>rfl,fun h=>absurd h (by decide)⟩
 |ro=>
  refine a8 (HW ..) fun br=>?_
  simp only[abF,uL,u6,sS,sT]
  refine⟨fun h=>absurd h (by decide),fun _=>⟨rfl,?_⟩⟩
  refine Hi (dh:=16) (L:=[]) (M:=L) (ZK _ _) (by rw[List.length_nil,Nat.zero_add];exact hw) ?_
  exact⟨hn,rfl⟩
theorem Ps{L:List D}{x:D}(h:aL 2 L x)(hw:L.length*32≤140737488355328):aF Try.prog gl 88 [.d x] (n0 x):=by
 have hn:=ZI h
 cases h with
 |nil s h=>
  refine a8 (RS ..) fun br=>?_
  simp only[ZJ,sS,sT]
  exact⟨fun _=>rfl,fun h=>absurd h (by decide)⟩
 |ro=>
  refine a8 (RS ..) fun br=>?_
  simp only[abF,uL,u6,sS,sT]
  refine⟨fun h=>absurd h (by decide),fun _=>⟨rfl,?_⟩⟩
  refine Hi (dh:=32) (L:=[]) (M:=L) (ZK _ _) (by rw[List.length_nil,Nat.zero_add];exact hw) ?_
  exact⟨hn,rfl⟩
theorem Mh{sz off:Nat}{cs:List SV}{ds:List D}(h:off+sz≤cs.length)(e:dC ((cs.drop off).take sz)=some ds):ai true sz off cs=some (.d (.agg ds)):=by
 unfold ai
 rw[cond_true,if_pos h,e]
theorem aiI{L M:List D}{p q:D}(a b c:D)(hp:aL 1 L p)(hq:aL 1 M q):ai true 5 0 [.d a,.d b,.d c,n0 p,n0 q]=some (.d (.agg [a,b,c,gQ p,gQ q])):=by
 have h1:=BC hp
 have h2:=BC hq
 have e:dC [.d a,.d b,.d c,n0 p,n0 q]=some [a,b,c,gQ p,gQ q]:=by simp only[dC,h1,h2];rfl
 exact Mh (show 0+5≤5 by decide) e
theorem amU(a b c d e x:SV):setAt [a,b,c,d,e] 3 [x]=[a,b,c,x,e]:=rfl
theorem amV(a b c d e x:SV):setAt [a,b,c,d,e] 4 [x]=[a,b,c,d,x]:=rfl
theorem amW(p q r s t a b c d e:SV):setAt [p,q,r,s,t] 0 [a,b,c,d,e]=[a,b,c,d,e]:=rfl
theorem aoD(a b c d e:D):ai true 5 0 [.d a,.d b,.d c,.d d,.d e]=some (.d (.agg [a,b,c,d,e])):=rfl
theorem KR{n:Ek}{x y:D}(hx:aL 1 (cA n.l) x)(hy:aL 1 (cA n.m) y)(w1:n.l.length*16≤140737488355328)(w2:n.m.length*16≤140737488355328):
  aF Try.prog gl 86 [.d (.agg [.bool n.a,.bool n.b,.bool n.c,x,y])] (.d (.agg [.bool n.a,.bool n.b,.bool n.c,gQ x,gQ y])):=by
 refine a8 (aa1 ..) fun br=>?_
 simp only[Mf,adb,ade,sS,sT]
 refine⟨rfl,?_⟩
 refine bH (GY hx (by rw[iu];exact w1)) (BB hx) ?_
 refine bH (GY hy (by rw[iu];exact w2)) (BB hy) ?_
 simp only[Bp hx,Bp hy,amU,amV,aiI _ _ _ hx hy,Mf,amW,aoD,sS,sT]
 exact⟨rfl,(show 3<5 by decide),rfl,(show 4<5 by decide),rfl,trivial⟩
theorem amX(a b c d x:SV):setAt [a,b,c,d] 1 [x]=[a,x,c,d]:=rfl
theorem amY(a b c d x:SV):setAt [a,b,c,d] 3 [x]=[a,b,c,x]:=rfl
theorem amZ(p q r s a b c d:SV):setAt [p,q,r,s] 0 [a,b,c,d]=[a,b,c,d]:=rfl
theorem aoE(a b c d:D):ai true 4 0 [.d a,.d b,.d c,.d d]=some (.d (.agg [a,b,c,d])):=rfl
theorem arG(a b c d:D):ai false 1 1 [.d a,.d b,.d c,.d d]=some (.d b):=rfl
theorem arH(a b c d:D):ai false 1 3 [.d a,.d b,.d c,.d d]=some (.d d):=rfl
theorem aiJ{L M:List D}{p q:D}(a b:D)(hp:aL 2 L p)(hq:aL 2 M q):ai true 4 0 [.d a,n0 p,.d b,n0 q]=some (.d (.agg [a,gQ p,b,gQ q])):=by
 have h1:=BC hp
 have h2:=BC hq
 have e:dC [.d a,n0 p,.d b,n0 q]=some [a,gQ p,b,gQ q]:=by simp only[dC,h1,h2];rfl
 exact Mh (show 0+4≤4 by decide) e
theorem XL{L M:List D}{x y:D}(s t:List UInt8)(hx:aL 2 L x)(hy:aL 2 M y)(w1:L.length*32≤140737488355328)(w2:M.length*32≤140737488355328):
  aF Try.prog gl 89 [.d (.agg [.str s,x,.str t,y])] (.d (.agg [.str s,gQ x,.str t,gQ y])):=by
 refine a8 (aa3 ..) fun br=>?_
 simp only[Mg,arG,arH,sS,sT]
 refine⟨rfl,?_⟩
 refine bH (Ps hx w1) (BB hx) ?_
 refine bH (Ps hy w2) (BB hy) ?_
 simp only[Bp hx,Bp hy,amX,amY,aiJ _ _ hx hy,Mg,amZ,aoE,sS,sT]
 exact⟨rfl,(show 1<4 by decide),rfl,(show 3<4 by decide),rfl,trivial⟩
inductive vG:Xp→Prop
 |mk (op a rel b:Int) (names:List (List UInt8)) (w:Nat→BitVec 64) (kids:List Xp) (hn:names.length*16≤140737488355328) (hl:kids.length*112≤140737488355328) (hk:∀k∈kids,vG k):vG (.mk op a rel b names w kids)
theorem vG.inv{e:Xp}(h:vG e):e.names.length*16≤140737488355328∧e.kids.length*112≤140737488355328∧∀k∈e.kids,vG k:=by
 cases h with
 |mk op a rel b names w kids hn hl hk=>exact⟨hn,hl,hk⟩
def eS(e:Xp)(nm kd:SV):List SV:=[.d (.int .i64 e.op),.d (.int .i64 e.a),.d (.int .i64 e.rel),.d (.int .i64 e.b),nm,.d (dW (e.w 0)),.d (dW (e.w 1)),.d (dW (e.w 2)),.d (dW (e.w 3)),kd]
theorem afW:aE (.d (.sl .nil 0 []))=some [.d (.sl .nil 0 [])]:=rfl
theorem NI(e:Xp)(nm kd:D):kb e.op e.a e.rel e.b nm e.w kd=eS e (.d nm) (.d kd):=rfl
theorem arI(e:Xp)(a b x:SV):setAt (eS e a b) 4 [x]=eS e x b:=rfl
theorem adf(e:Xp)(a b x:SV):setAt (eS e a b) 9 [x]=eS e a x:=rfl
theorem aoF(e:Xp)(a b x:SV):(eS e a b).set 9 x=eS e a x:=rfl
theorem arJ(e:Xp)(a b:SV):(eS e a b)[9]? =some b:=rfl
theorem Ic(e:Xp)(a b:SV):(eS e a b).length =10:=rfl
theorem aoG(e:Xp)(a b:SV):ai false 1 9 (eS e a b)=some b:=rfl
theorem aoH(e:Xp)(a b:SV):ai false 1 4 (eS e a b)=some a:=rfl
theorem R8(e:Xp){a b:SV}{x y:D}(h1:cB a=some x)(h2:cB b=some y):ai true 10 0 (eS e a b)=some (.d (.agg (kI e.op e.a e.rel e.b x e.w y))):=by
 have k:dC (eS e a b)=some (kI e.op e.a e.rel e.b x e.w y):=by simp only[eS,dC,h1,h2];rfl
 exact Mh (show 0+10≤10 by decide) k
theorem Q5(n:Nat)(L:List D):cB (aO n L)=some (bB n L):=by cases L<;>rfl
theorem aaD(p0 p1 p2 p3 p4 p5 p6 p7 p8 p9:SV)(e:Xp)(a b:SV):setAt [p0,p1,p2,p3,p4,p5,p6,p7,p8,p9] 0 (eS e a b)=eS e a b:=rfl
theorem aku(op a rel b:Int)(nm:D)(w:Nat→BitVec 64)(kd:D):bz 10 1 [(0,.agg (kI op a rel b nm w kd))]=true:=rfl
theorem V4:∀(n:Nat)(e:Xp),e.lv<n→vG e→∀{x:D},kc e x→∃y,kc e y∧aF Try.prog gl 87 [.d x] (.d y)
 |0,e,h,_,_,_=>by omega
 |n+1,e,h,hW,x,hx=>by
  have A5:=hx
  obtain⟨nm,kd,L,rfl,hn,hl,hd,hk⟩:=hx.inv
  obtain⟨w1,w2,w3⟩:=hW.inv
  have bX:e.kids.length≤maxLen:=Nat.le_trans (by omega:e.kids.length≤140737488355328) (by decide)
  have hQ:∃r,(fun r=>∃y,r=SV.d y∧kc e y) r:=⟨_,_,rfl,A5⟩
  have:=K0 (P:=Try.prog) (gl:=gl) (h:=U9) bw (f:=87) (args:=[.d (.agg (kI e.op e.a e.rel e.b nm e.w kd))]) a7 hQ (by
   rw[aa2]
   intro br
   simp only[NI,aoG,aoH,sS,sT]
   refine⟨rfl,?_⟩
   refine bH (GY hn (by rw[iu];exact w1)) (BB hn) ?_
   simp only[Bp hn,arI,adf,afW,Ic,List.length_cons,List.length_nil,hd.len,hl,sS,sT]
   refine⟨by decide,?_⟩
   refine xG (α:=List D) (fun i M=>M.length=i∧∀(j:Nat)k y,e.kids[j]? =some k→M[j]? =some y→kc k y) (fun i M=>[.d kd,.d (.int .i64 (e.kids.length:Int)),.d (.int .i64 ((i:Nat):Int))]) (fun i M=>[eS e (n0 nm) (aO 10 M),[.d (.int .i64 0),.d (.int .i64 0),.d (.int .i64 0),.d (.int .i64 0),.d (.sl .nil 0 []),.d (.int .u64 0),.d (.int .u64 0),.d (.int .u64 0),.d (.int .u64 0),.d (.sl .nil 0 [])]]) e.kids.length [] ⟨rfl,fun j k y _ h=>by simp at h⟩ (fun i M hi hJ I hI=>?_) (fun M hJ I=>?_)
   ·obtain⟨hM,hJ⟩:=hJ
    simp only[sS,sT]
    refine And.intro (fun _=>?_) (fun h=>absurd h (by simp;omega))
    obtain⟨k,qV⟩:=get_some hi
    obtain⟨y1,tY⟩:=get_some (by omega:i<L.length)
    have e1:=hk i k y1 qV tY
    have aP:=Xp.aaW qV
    obtain⟨z,hz,hzH⟩:=V4 n k (by omega) (w3 k (List.mem_of_getElem? qV)) e1
    obtain⟨VX,VY,L1,rfl,_⟩:=e1.inv
    have Ju:=hz
    obtain⟨GR,GS,L2,rfl,_⟩:=hz.inv
    have l1:∀f:List D,f.length=10→aH true 10 (.aX (.agg f) 0)=some (.d (.agg f)):=fun f hf=>EL _ 10 hf
    simp only[hd.at tY,l1 _ (show(kI k.op k.a k.rel k.b VX k.w VY).length =10 from rfl),Hh,NI,Ic,arJ,aaD,R8 k (rfl:cB (.d VX)=some VX) (rfl:cB (.d VY)=some VY),sS,sT]
    refine bH hzH rfl ?_
    simp only[dG,aku,vR,aoF,sS,sT]
    refine gB (M:=[.agg (kI k.op k.a k.rel k.b GR k.w GS)]) rfl (by rw[List.length_singleton];omega) ?_
    simp only[K4,adf,Ic,sS]
    refine⟨rfl,by decide,?_⟩
    refine aS (bf hi bX) ?_
    refine hI (M++[.agg (kI k.op k.a k.rel k.b GR k.w GS)]) ⟨by rw[List.length_append,List.length_singleton,hM],fun j k' y' bY mq=>?_⟩
    rcases Nat.lt_or_ge j M.length with h1|h1
    ·rw[List.getElem?_append_left h1]at mq
     exact hJ j k' y' bY mq
    ·rw[List.getElem?_append_right h1]at mq
     have:j=i:=by
      have:=(List.getElem?_eq_some_iff.1 mq).1
      simp at this;omega
     subst this
     rw[hM,Nat.sub_self]at mq
     cases mq
     rw[qV]at bY
     cases bY
     exact Ju
   ·obtain⟨hM,hJ⟩:=hJ
    simp only[R8 e (BC hn) (Q5 10 M),Hh,NI,Ic,aaD,R8 e (rfl:cB (.d (gQ nm))=some (gQ nm)) (rfl:cB (.d (bB 10 M))=some (bB 10 M)),sS,sT]
    refine And.intro (fun h=>absurd h (by simp)) (fun _=>?_)
    refine⟨by decide,?_⟩
    refine⟨_,rfl,?_⟩
    cases e with
    |mk op a rel b names w kids=>exact .mk op a rel b names w kids (gQ nm) (bB 10 M) M (pS hn) hM hJ (cm 10 M))
  obtain⟨r,⟨y,rfl,hy⟩,hr⟩:=this
  exact⟨y,hy,hr⟩
structure FSV where
 (bd al x1 y1 x2 y2 x3 y3 x4 y4 nm kd k0 k1 k2 k3 k4 yt ye:SV)
def KE(n:Ek)(x y:SV):List SV:=[.d (.bool n.a),.d (.bool n.b),.d (.bool n.c),x,y]
def fS(c:FC)(v:FSV):List SV:=[.d (.int .i64 c.s.kind),.d (.int .i64 c.s.op),.d (.int .i64 c.s.line),.d (.int .i64 c.s.gH),.d (.str c.s.name),.d (.str c.r),.d (.str c.t),v.bd,v.al]++(KE c.n1 v.x1 v.y1++(KE c.n2 v.x2 v.y2++(KE c.n3 v.x3 v.y3++(KE c.n4 v.x4 v.y4++(eS c.e v.nm v.kd++
 ([.d (.str c.lv.s),v.k0,.d (.str c.lo.s),v.k1,.d (.str c.hi.s),v.k2,.d (.str c.u),.d (.str c.v),.d (.str c.w),.d (.str c.cl.s),v.k3,.d (.str c.ch.s),v.k4,.d (.bool c.val)]++[v.yt,v.ye]))))))
theorem arK(c:FC)(d:wA):fV c d=fS c ⟨.d d.bd,.d d.al,.d d.x1,.d d.y1,.d d.x2,.d d.y2,.d d.x3,.d d.y3,.d d.x4,.d d.y4,.d d.nm,.d d.kd,.d d.k0,.d d.k1,.d d.k2,.d d.k3,.d d.k4,.d d.yt,.d d.ye⟩:=rfl
section
variable(c:FC)(bd al x1 y1 x2 y2 x3 y3 x4 y4 nm kd k0 k1 k2 k3 k4 yt ye:SV)
theorem C7:(fS c ⟨bd,al,x1,y1,x2,y2,x3,y3,x4,y4,nm,kd,k0,k1,k2,k3,k4,yt,ye⟩).length =55:=rfl
theorem aoI:ai false 1 7 (fS c ⟨bd,al,x1,y1,x2,y2,x3,y3,x4,y4,nm,kd,k0,k1,k2,k3,k4,yt,ye⟩)=some bd:=rfl
theorem aoJ(z:SV):setAt (fS c ⟨bd,al,x1,y1,x2,y2,x3,y3,x4,y4,nm,kd,k0,k1,k2,k3,k4,yt,ye⟩) 7 [z]=fS c ⟨z,al,x1,y1,x2,y2,x3,y3,x4,y4,nm,kd,k0,k1,k2,k3,k4,yt,ye⟩:=rfl
theorem aoK:ai false 1 8 (fS c ⟨bd,al,x1,y1,x2,y2,x3,y3,x4,y4,nm,kd,k0,k1,k2,k3,k4,yt,ye⟩)=some al:=rfl
theorem aoL(z:SV):setAt (fS c ⟨bd,al,x1,y1,x2,y2,x3,y3,x4,y4,nm,kd,k0,k1,k2,k3,k4,yt,ye⟩) 8 [z]=fS c ⟨bd,z,x1,y1,x2,y2,x3,y3,x4,y4,nm,kd,k0,k1,k2,k3,k4,yt,ye⟩:=rfl
theorem am0:ai false 1 40 (fS c ⟨bd,al,x1,y1,x2,y2,x3,y3,x4,y4,nm,kd,k0,k1,k2,k3,k4,yt,ye⟩)=some k0:=rfl
theorem am1(z:SV):setAt (fS c ⟨bd,al,x1,y1,x2,y2,x3,y3,x4,y4,nm,kd,k0,k1,k2,k3,k4,yt,ye⟩) 40 [z]=fS c ⟨bd,al,x1,y1,x2,y2,x3,y3,x4,y4,nm,kd,z,k1,k2,k3,k4,yt,ye⟩:=rfl
theorem am2:ai false 1 53 (fS c ⟨bd,al,x1,y1,x2,y2,x3,y3,x4,y4,nm,kd,k0,k1,k2,k3,k4,yt,ye⟩)=some yt:=rfl
theorem am3(z:SV):setAt (fS c ⟨bd,al,x1,y1,x2,y2,x3,y3,x4,y4,nm,kd,k0,k1,k2,k3,k4,yt,ye⟩) 53 [z]=fS c ⟨bd,al,x1,y1,x2,y2,x3,y3,x4,y4,nm,kd,k0,k1,k2,k3,k4,z,ye⟩:=rfl
theorem am4:ai false 1 54 (fS c ⟨bd,al,x1,y1,x2,y2,x3,y3,x4,y4,nm,kd,k0,k1,k2,k3,k4,yt,ye⟩)=some ye:=rfl
theorem am5(z:SV):setAt (fS c ⟨bd,al,x1,y1,x2,y2,x3,y3,x4,y4,nm,kd,k0,k1,k2,k3,k4,yt,ye⟩) 54 [z]=fS c ⟨bd,al,x1,y1,x2,y2,x3,y3,x4,y4,nm,kd,k0,k1,k2,k3,k4,yt,z⟩:=rfl
theorem aoM(p q:D):ai true 5 9 (fS c ⟨bd,al,.d p,.d q,x2,y2,x3,y3,x4,y4,nm,kd,k0,k1,k2,k3,k4,yt,ye⟩)=some (.d (.agg [.bool c.n1.a,.bool c.n1.b,.bool c.n1.c,p,q])):=rfl
theorem aoN(p q:SV):setAt (fS c ⟨bd,al,x1,y1,x2,y2,x3,y3,x4,y4,nm,kd,k0,k1,k2,k3,k4,yt,ye⟩) 9 [.d (.bool c.n1.a),.d (.bool c.n1.b),.d (.bool c.n1.c),p,q]=fS c ⟨bd,al,p,q,x2,y2,x3,y3,x4,y4,nm,kd,k0,k1,k2,k3,k4,yt,ye⟩:=rfl
theorem am6(p q:D):ai true 5 14 (fS c ⟨bd,al,x1,y1,.d p,.d q,x3,y3,x4,y4,nm,kd,k0,k1,k2,k3,k4,yt,ye⟩)=some (.d (.agg [.bool c.n2.a,.bool c.n2.b,.bool c.n2.c,p,q])):=rfl
theorem am7(p q:SV):setAt (fS c ⟨bd,al,x1,y1,x2,y2,x3,y3,x4,y4,nm,kd,k0,k1,k2,k3,k4,yt,ye⟩) 14 [.d (.bool c.n2.a),.d (.bool c.n2.b),.d (.bool c.n2.c),p,q]=fS c ⟨bd,al,x1,y1,p,q,x3,y3,x4,y4,nm,kd,k0,k1,k2,k3,k4,yt,ye⟩:=rfl
theorem am8(p q:D):ai true 5 19 (fS c ⟨bd,al,x1,y1,x2,y2,.d p,.d q,x4,y4,nm,kd,k0,k1,k2,k3,k4,yt,ye⟩)=some (.d (.agg [.bool c.n3.a,.bool c.n3.b,.bool c.n3.c,p,q])):=rfl
theorem am9(p q:SV):setAt (fS c ⟨bd,al,x1,y1,x2,y2,x3,y3,x4,y4,nm,kd,k0,k1,k2,k3,k4,yt,ye⟩) 19 [.d (.bool c.n3.a),.d (.bool c.n3.b),.d (.bool c.n3.c),p,q]=fS c ⟨bd,al,x1,y1,x2,y2,p,q,x4,y4,nm,kd,k0,k1,k2,k3,k4,yt,ye⟩:=rfl
theorem ana(p q:D):ai true 5 24 (fS c ⟨bd,al,x1,y1,x2,y2,x3,y3,.d p,.d q,nm,kd,k0,k1,k2,k3,k4,yt,ye⟩)=some (.d (.agg [.bool c.n4.a,.bool c.n4.b,.bool c.n4.c,p,q])):=rfl
theorem anb(p q:SV):setAt (fS c ⟨bd,al,x1,y1,x2,y2,x3,y3,x4,y4,nm,kd,k0,k1,k2,k3,k4,yt,ye⟩) 24 [.d (.bool c.n4.a),.d (.bool c.n4.b),.d (.bool c.n4.c),p,q]=fS c ⟨bd,al,x1,y1,x2,y2,x3,y3,p,q,nm,kd,k0,k1,k2,k3,k4,yt,ye⟩:=rfl
theorem anc(p q:D):ai true 10 29 (fS c ⟨bd,al,x1,y1,x2,y2,x3,y3,x4,y4,.d p,.d q,k0,k1,k2,k3,k4,yt,ye⟩)=some (.d (.agg (kI c.e.op c.e.a c.e.rel c.e.b p c.e.w q))):=rfl
theorem ane(p q:SV):setAt (fS c ⟨bd,al,x1,y1,x2,y2,x3,y3,x4,y4,nm,kd,k0,k1,k2,k3,k4,yt,ye⟩) 29 (eS c.e p q)=fS c ⟨bd,al,x1,y1,x2,y2,x3,y3,x4,y4,p,q,k0,k1,k2,k3,k4,yt,ye⟩:=rfl
theorem anf(p q:D):ai true 4 41 (fS c ⟨bd,al,x1,y1,x2,y2,x3,y3,x4,y4,nm,kd,k0,.d p,.d q,k3,k4,yt,ye⟩)=some (.d (.agg [.str c.lo.s,p,.str c.hi.s,q])):=rfl
theorem ang(p q:SV):setAt (fS c ⟨bd,al,x1,y1,x2,y2,x3,y3,x4,y4,nm,kd,k0,k1,k2,k3,k4,yt,ye⟩) 41 [.d (.str c.lo.s),p,.d (.str c.hi.s),q]=fS c ⟨bd,al,x1,y1,x2,y2,x3,y3,x4,y4,nm,kd,k0,p,q,k3,k4,yt,ye⟩:=rfl
theorem anh(p q:D):ai true 4 48 (fS c ⟨bd,al,x1,y1,x2,y2,x3,y3,x4,y4,nm,kd,k0,k1,k2,.d p,.d q,yt,ye⟩)=some (.d (.agg [.str c.cl.s,p,.str c.ch.s,q])):=rfl
theorem ani(p q:SV):setAt (fS c ⟨bd,al,x1,y1,x2,y2,x3,y3,x4,y4,nm,kd,k0,k1,k2,k3,k4,yt,ye⟩) 48 [.d (.str c.cl.s),p,.d (.str c.ch.s),q]=fS c ⟨bd,al,x1,y1,x2,y2,x3,y3,x4,y4,nm,kd,k0,k1,k2,p,q,yt,ye⟩:=rfl
end
theorem anj(c:FC){bd al x1 y1 x2 y2 x3 y3 x4 y4 nm kd k0 k1 k2 k3 k4 yt ye:SV}{d:wA}(h0:cB bd=some d.bd)(h1:cB al=some d.al)(h2:cB x1=some d.x1)(h3:cB y1=some d.y1)(h4:cB x2=some d.x2)(h5:cB y2=some d.y2)(h6:cB x3=some d.x3)(h7:cB y3=some d.y3)(h8:cB x4=some d.x4)(h9:cB y4=some d.y4)(Jk:cB nm=some d.nm)(Jl:cB kd=some d.kd)(h12:cB k0=some d.k0)(Og:cB k1=some d.k1)(h14:cB k2=some d.k2)(Oh:cB k3=some d.k3)(Oi:cB k4=some d.k4)(h17:cB yt=some d.yt)(Oj:cB ye=some d.ye):ai true 55 0 (fS c ⟨bd,al,x1,y1,x2,y2,x3,y3,x4,y4,nm,kd,k0,k1,k2,k3,k4,yt,ye⟩)=some (.d (.agg (fC c d))):=by
 have k:dC (fS c ⟨bd,al,x1,y1,x2,y2,x3,y3,x4,y4,nm,kd,k0,k1,k2,k3,k4,yt,ye⟩)=some (fC c d):=by
  simp only[fS,KE,eS,List.cons_append,List.nil_append,dC,h0,h1,h2,h3,h4,h5,h6,h7,h8,h9,Jk,Jl,h12,Og,h14,Oh,Oi,h17,Oj]
  rfl
 exact Mh (show 0+55≤55 by decide) k
structure FC.W(c:FC):Prop where
 l:c.s.list.length*16≤140737488355328
 a:c.s.jT.length*16≤140737488355328
 a1:c.n1.l.length*16≤140737488355328
 b1:c.n1.m.length*16≤140737488355328
 a2:c.n2.l.length*16≤140737488355328
 b2:c.n2.m.length*16≤140737488355328
 a3:c.n3.l.length*16≤140737488355328
 b3:c.n3.m.length*16≤140737488355328
 a4:c.n4.l.length*16≤140737488355328
 b4:c.n4.m.length*16≤140737488355328
 e:vG c.e
 v0:c.lv.L.length*32≤140737488355328
 v1:c.lo.L.length*32≤140737488355328
 v2:c.hi.L.length*32≤140737488355328
 v3:c.cl.L.length*32≤140737488355328
 v4:c.ch.L.length*32≤140737488355328
inductive xo:Gs→Prop
 |mk (c:FC) (th el:List Gs) (h:c.W) (ht:∀t∈th,xo t) (he:∀t∈el,xo t):xo (.mk c th el)
def O7(t:Gs):Prop:=∀{x:D},jI t x→∃y,jI t y∧aF Try.prog gl 72 [.d x] (.d y)
def TU(ts:List Gs):Prop:=∀{L:List D}{x:D},aL 55 L x→gF ts L→∃M,gF ts M∧aF Try.prog gl 90 [.d x] (aO 55 M)
theorem gF.snoc:∀{l:List Gs}{L:List D}{t:Gs}{x:D},gF l L→jI t x→gF (l++[t]) (L++[x])
 |[],_,t,x,h,hx=>by cases h;exact .cons _ _ _ _ hx .nil
 |u::l,_,t,x,h,hx=>by cases h with|cons _ y _ L h hl=>exact .cons _ _ _ _ h (hl.snoc hx)
theorem aoO(c:FC)(d:wA):bz 55 1 [(0,.agg (fC c d))]=true:=rfl
theorem Wn{ts:List Gs}(H:∀t∈ts,O7 t)(hn:ts.length≤2^20):TU ts:=by
 intro L x hx hL
 have bX:ts.length≤maxLen:=Nat.le_trans hn (by decide)
 have:=K0 (P:=Try.prog) (gl:=gl) (h:=Vb) bw (f:=90) (args:=[.d x]) a7 (Q:=fun r=>∃M,r=aO 55 M∧gF ts M) ⟨_,L,rfl,hL⟩ (by
  rw[aa4]
  intro br
  simp only[hx.len,hL.len,sS,sT,sZ]
  refine xG (α:=List D) (fun i M=>gF (ts.take i) M) (fun i M=>[aO 55 M,.d x,.d (.int .i64 (ts.length:Int)),.d (.int .i64 ((i:Nat):Int))]) (fun i M=>[]) ts.length [] .nil (fun i M hi hJ I hI=>?_) (fun M hJ I=>?_)
  ·simp only[sS,sT]
   refine And.intro (fun _=>?_) (fun h=>absurd h (by simp;omega))
   obtain⟨t,ht⟩:=get_some hi
   obtain⟨p,hp,Cx⟩:=hL.at_ ht
   obtain⟨y,hy,VZ⟩:=H t (List.mem_of_getElem? ht) Cx
   have hM:=hJ.len
   rw[List.length_take]at hM
   cases Cx with
   |mk c d th el Lt Le ok fL fG=>
   have tX:=hy
   cases hy with
   |mk _ d2 _ _ VV VW nD TS TT=>
   have fg:=vN (z:=ik) (c:=fV c d) rfl (BA c d)
   simp only[sZ]at fg
   simp only[hx.at hp,aaC,Hs,BA,fg,R7,sS,sT]
   refine bH VZ rfl ?_
   simp only[dG,aoO,vR,sS,sT]
   refine gB (M:=[.agg (fC c d2)]) rfl (by rw[List.length_singleton];omega) ?_
   refine aS (bf hi bX) ?_
   exact hI _ (by rw[dT ht];exact hJ.snoc tX)
  ·simp only[sS,sT]
   refine And.intro (fun h=>absurd h (by simp)) (fun _=>?_)
   rw[List.take_length]at hJ
   exact⟨jY _ _,M,rfl,hJ⟩)
 obtain⟨r,⟨M,rfl,hM⟩,hr⟩:=this
 exact⟨M,hM,hr⟩
theorem aeV(c:FC)(th el:List Gs)(hW:c.W)(h1:TU th)(h2:TU el):O7 (.mk c th el):=by
 intro x hx
 have A5:=hx
 cases hx with
 |mk _ d _ _ Lt Le ok fL fG=>
 obtain⟨ey,hey,arL⟩:=V4 _ c.e (Nat.lt_succ_self _) hW.e ok.e
 have arM:=hey
 obtain⟨GR,GS,L2,rfl,bg,hle,hde,hke⟩:=hey.inv
 obtain⟨M1,hM1,arN⟩:=h1 ok.t fL
 obtain⟨M2,hM2,arO⟩:=h2 ok.l fG
 have fg:∀d2,setAt ik 0 (fV c d2)=fV c d2:=fun d2=>vN (z:=ik) (c:=fV c d2) rfl (BA c d2)
 simp only[sZ]at fg
 have:=K0 (P:=Try.prog) (gl:=gl) (h:=Oo) bw (f:=72) (args:=[.d (.agg (fC c d))]) a7 (Q:=fun r=>∃y,r=.d y∧jI (.mk c th el) y) ⟨_,_,rfl,A5⟩ (by
  rw[RT]
  intro br
  simp only[Hs,arK,C7,aoI,aoK,sS,sT,sZ]
  refine bH (GY ok.hl (by rw[iu];exact hW.l)) (BB ok.hl) ?_
  refine bH (GY ok.ha (by rw[iu];exact hW.a)) (BB ok.ha) ?_
  simp only[Bp ok.hl,Bp ok.ha,C7,aoJ,aoL,aoM,am6,am8,ana,sS]
  refine⟨rfl,by decide,rfl,by decide,?_⟩
  refine bH (KR ok.a1 ok.b1 hW.a1 hW.b1) rfl ?_
  refine bH (KR ok.a2 ok.b2 hW.a2 hW.b2) rfl ?_
  refine bH (KR ok.a3 ok.b3 hW.a3 hW.b3) rfl ?_
  refine bH (KR ok.a4 ok.b4 hW.a4 hW.b4) rfl ?_
  simp only[Mf,aoN,am7,am9,anb,C7,anc,sS]
  refine⟨rfl,by decide,rfl,by decide,rfl,by decide,rfl,by decide,?_⟩
  refine bH arL rfl ?_
  simp only[Hh,NI,Ic,ane,C7,am0,sS,sT]
  refine⟨by decide,?_⟩
  refine bH (Ps ok.v0 hW.v0) (BB ok.v0) ?_
  simp only[Bp ok.v0,am1,C7,anf,anh,sS]
  refine⟨rfl,by decide,?_⟩
  refine bH (XL c.lo.s c.hi.s ok.v1 ok.v2 hW.v1 hW.v2) rfl ?_
  refine bH (XL c.cl.s c.ch.s ok.v3 ok.v4 hW.v3 hW.v4) rfl ?_
  simp only[Mg,ang,ani,C7,am2,am4,sS]
  refine⟨rfl,by decide,rfl,by decide,?_⟩
  refine bH arN (jX _ _) ?_
  refine bH arO (jX _ _) ?_
  have fO:=anj c (d:=⟨gQ d.bd,gQ d.al,gQ d.x1,gQ d.y1,gQ d.x2,gQ d.y2,gQ d.x3,gQ d.y3,gQ d.x4,gQ d.y4,GR,GS,gQ d.k0,gQ d.k1,gQ d.k2,gQ d.k3,gQ d.k4,bB 55 M1,bB 55 M2⟩) (BC ok.hl) (BC ok.ha) (so _) (so _) (so _) (so _) (so _) (so _) (so _) (so _) (so _) (so _) (BC ok.v0) (so _) (so _) (so _) (so _) (Q5 55 M1) (Q5 55 M2)
  simp only[K4,am3,am5,C7,fO,Hs,BA,fg,R7,sS,sT]
  refine⟨rfl,by decide,rfl,by decide,_,rfl,?_⟩
  exact .mk c _ th el M1 M2 ⟨pS ok.hl,pS ok.ha,pS ok.a1,pS ok.b1,pS ok.a2,pS ok.b2,pS ok.a3,pS ok.b3,pS ok.a4,pS ok.b4,arM,pS ok.v0,pS ok.v1,pS ok.v2,pS ok.v3,pS ok.v4,cm 55 M1,cm 55 M2⟩ hM1 hM2)
 obtain⟨r,⟨y,rfl,hy⟩,hr⟩:=this
 exact⟨y,hy,hr⟩
theorem Gs.Ry:∀(l:List Gs),l.length≤Gs.bQ l
 |[]=>by simp
 | .mk c a b::l=>by
   have:=Gs.Ry l
   simp only[List.length_cons,Gs.bQ,Gs.sz];omega
theorem P8:∀(n:Nat)(t:Gs),t.sz<n→t.sz≤2^20→xo t→O7 t
 |0,t,h,_,_=>by omega
 |n+1,.mk c th el,h,hb,hW=>by
  simp only[Gs.sz]at h hb
  cases hW with
  |mk _ _ _ hc ht he=>
   have l1:=Gs.Ry th
   have l2:=Gs.Ry el
   exact aeV c th el hc (Wn (fun t hm=>P8 n t (by have:=Gs.x7 hm;omega) (by have:=Gs.x7 hm;omega) (ht t hm)) (by omega))
    (Wn (fun t hm=>P8 n t (by have:=Gs.x7 hm;omega) (by have:=Gs.x7 hm;omega) (he t hm)) (by omega))
theorem aec{t:Gs}(h:t.sz≤2^20)(hW:xo t):O7 t:=P8 _ t (Nat.lt_succ_self _) h hW
set_option maxRecDepth 4000
theorem ank:eK Try.prog 143=some true:=by kernel_rfl
theorem anl:Try.prog.cellsOf 143=2:=by kernel_rfl
theorem aoP{xs:List D}(h:Is Try.prog 143 xs):∃s t:List UInt8,xs=[.str s,.str t]:=by
 obtain⟨parts,rfl,hl,hp⟩:=h.Bf Try.underlying143
 match parts,hl,hp with
 |[q0,q1],_,hp=>
  obtain⟨s,rfl⟩:=vW (hp 0 _ _ rfl rfl)
  obtain⟨t,rfl⟩:=vW (hp 1 _ _ rfl rfl)
  exact⟨s,t,rfl⟩
theorem anm{xs:List D}(h:Is Try.prog 28 xs):∃a b:Int,xs=[.int .i64 a,.int .i64 b]:=by
 obtain⟨parts,rfl,hl,hp⟩:=h.Bf Try.underlying28
 match parts,hl,hp with
 |[q0,q1],_,hp=>
  obtain⟨a,rfl⟩:=zG (hp 0 _ _ rfl rfl)
  obtain⟨b,rfl⟩:=zG (hp 1 _ _ rfl rfl)
  exact⟨a,b,rfl⟩
theorem akv:eK Try.prog 65=some true:=by kernel_rfl
theorem akw:Try.prog.cellsOf 65=55:=by kernel_rfl
theorem akx:eK Try.prog 36=some true:=by kernel_rfl
theorem aky:Try.prog.cellsOf 36=3:=by kernel_rfl
theorem akz:eK Try.prog 22=some false:=by kernel_rfl
set_option maxRecDepth 8000
mutual
def Gs.t:Gs→ah
 | .mk c a b=>.mk c.s (Gs.tL a) (Gs.tL b)
def Gs.tL:List Gs→List ah
 |[]=>[]
 |t::l=>t.t::Gs.tL l
end
theorem Gs.Fk:∀(l:List Gs),Gs.tL l=l.map Gs.t
 |[]=>rfl
 |t::l=>by rw[Gs.tL,Gs.Fk l];rfl
mutual
theorem jI.V0:∀{t:Gs}{x:D},jI t x→l6 t.t x
 | .mk c th el,_,.mk _ d _ _ Lt Le ok fL fG=>by
   rw[Gs.t]
   exact .mk c.s (Gs.tL th) (Gs.tL el) (.str c.r) (.str c.t) d.bd d.al (ace c d) d.yt d.ye Lt Le rfl ok.hl ok.ha rfl rfl ok.t ok.l fL.NJ fG.NJ
theorem gF.NJ:∀{l:List Gs}{L:List D},gF l L→fm (Gs.tL l) L
 |[],_,.nil =>by rw[Gs.tL];exact .nil
 |t::l,_,.cons _ x _ L h hl=>by rw[Gs.tL];exact .cons _ _ _ _ h.V0 hl.NJ
end
mutual
theorem Gs.arP:∀(t:Gs),t.t.sz=t.sz
 | .mk c a b=>by rw[Gs.t,ah.sz,Gs.sz,Gs.IA a,Gs.IA b]
theorem Gs.IA:∀(l:List Gs),ah.bQ (Gs.tL l)=Gs.bQ l
 |[]=>by rw[Gs.tL,ah.bQ,Gs.bQ]
 |t::l=>by rw[Gs.tL,ah.bQ,Gs.bQ,Gs.arP t,Gs.IA l]
end
def gA.t(m:gA):bt:=⟨m.name,m.nv,Gs.tL m.ax⟩
theorem As.adg{m:gA}{x:D}(h:As m x):mW m.t x:=by
 cases h with
 |mk xs L hx hs=>exact .mk xs L hx hs.NJ
theorem lQ.M8{l:List gA}{L:List D}(h:lQ l L):sq (l.map gA.t) L:=by
 refine⟨by rw[List.length_map];exact h.len,fun{i m}hm=>?_⟩
 rw[List.getElem?_map]at hm
 obtain⟨a,ha,rfl⟩:=Option.map_eq_some_iff.1 hm
 obtain⟨y,hy,V1⟩:=h.at_ ha
 exact⟨y,hy,V1.adg⟩
open Classical in
theorem jI.len{t:Gs}{x:D}(h:jI t x):x.cells.length=55:=by
 cases h with
 |mk c d th el Lt Le ok fL fG=>rfl
def gA.W(m:gA):Prop:=∀t∈m.ax,xo t
theorem YI{cp:D→D}{bs:List ay}:∀{ts:List ah}{L:List D}(n:Nat),L.length=ts.length→(∀t∈ts,(t.s.kind==18)=false)→ft cp ts L bs n true=L.map cp
 |[],[],n,_,_=>rfl
 |[],_::_,n,h,_=>by simp at h
 |_::_,[],n,h,_=>by simp at h
 |t::l,x::L,n,h,hk=>by
  rw[ft,abl (hk t (by simp)),if_pos rfl,YI _ (by simpa using h) fun u hu=>hk u (by simp[hu])]
  rfl
theorem aed{α:Type}(p:α→Prop)(f:α→Nat)(h:∃a,p a):∃a,p a∧∀b,p b→f a≤f b:=by
 have key:∀n a,p a→f a≤n→∃a,p a∧∀b,p b→f a≤f b:=by
  intro n
  induction n with
  |zero=>intro a ha hn;exact⟨a,ha,fun b _=>by omega⟩
  |succ n ih=>
   intro a ha hn
   by_cases hb:∃b,p b∧f b<f a
   ·obtain⟨b,g9,jE⟩:=hb
    exact ih b g9 (by omega)
   ·exact⟨a,ha,fun b hpb=>by
     rcases Nat.lt_or_ge (f b) (f a)with h|h
     ·exact absurd ⟨b,hpb,h⟩ hb
     ·exact h⟩
 obtain⟨a,ha⟩:=h
 exact key (f a) a ha (Nat.le_refl _)
structure Gd(t:Gs):Prop where
 w:xo t
 sz:t.sz≤2^20
 ok:t.t.ok
def TV(x y:D):Prop:=(∃t,jI t x∧Gd t∧(∀u,jI u x→Gd u→t.sz≤u.sz)∧jI t y)∧aF Try.prog gl 72 [.d x] (.d y)
open Classical in
noncomputable def uz(x:D):D:=if h:∃y,TV x y then Classical.choose h else x
theorem abG{t:Gs}{x:D}(hx:jI t x)(hg:Gd t):TV x (uz x):=by
 obtain⟨u,⟨h1,h2⟩,h3⟩:=aed (fun u=>jI u x∧Gd u) Gs.sz ⟨t,hx,hg⟩
 obtain⟨y,hy,VZ⟩:=aec h2.sz h2.w h1
 have he:∃y,TV x y:=⟨y,⟨u,h1,h2,fun v k1 k2=>h3 v ⟨k1,k2⟩,hy⟩,VZ⟩
 unfold uz
 rw[dif_pos he]
 exact Classical.choose_spec he
theorem aoQ{t:Gs}{x:D}(hx:jI t x)(hg:Gd t):AW uz x:=by
 obtain⟨⟨u,_,_,_,hu⟩,hH⟩:=abG hx hg
 exact⟨hH,hu.len⟩
theorem jI.kind{t u:Gs}{x:D}(h:jI t x)(k:jI u x):t.t.s.kind=u.t.s.kind:=by
 obtain⟨c,bd,al,yt,ye,Lt,Le,hc⟩:=h.V0.out
 obtain⟨c2,asp,al2,yt2,ye2,VV,VW,T4⟩:=k.V0.out
 have h1:=hc.l0
 rw[T4.l0]at h1
 simp only[Option.some.injEq,SV.d.injEq,D.int.injEq,true_and]at h1
 exact h1.symm
theorem Gd.parts{c:FC}{a b:List Gs}(h:Gd (.mk c a b)):(∀t∈a,Gd t)∧(∀t∈b,Gd t):=by
 have hw:=h.w
 have hs:=h.sz
 have ho:=h.ok
 rw[Gs.t,ah.ok_eq]at ho
 simp only[Gs.sz]at hs
 cases hw with
 |mk _ _ _ hc ht he=>
  refine⟨fun t h1=>⟨ht t h1,by have:=Gs.x7 h1;omega,?_⟩,fun t h1=>⟨he t h1,by have:=Gs.x7 h1;omega,?_⟩⟩
  ·refine ah.C5 ho.2.2.1 t.t ?_
   show t.t∈Gs.tL a
   rw[Gs.Fk];exact List.mem_map.2 ⟨t,h1,rfl⟩
  ·refine ah.C5 ho.2.2.2 t.t ?_
   show t.t∈Gs.tL b
   rw[Gs.Fk];exact List.mem_map.2 ⟨t,h1,rfl⟩
mutual
theorem akA:∀{t:Gs}{x:D},Gd t→jI t x→Ct (AW uz) t.t x
 | .mk c th el,x,hg,hx=>by
   have A5:=hx
   cases hx with
   |mk _ d _ _ Lt Le ok fL fG=>
   rw[Gs.t,Ct]
   have e1:ql (.agg (fC c d))=Lt:=ok.t.qk
   have e2:vC (.agg (fC c d))=Le:=ok.l.qk
   split
   ·rw[e1,e2]
    exact⟨LN hg.parts.1 fL,LN hg.parts.2 fG⟩
   ·exact aoQ A5 hg
theorem LN:∀{l:List Gs}{L:List D},(∀t∈l,Gd t)→gF l L→rE (AW uz) (Gs.tL l) L
 |[],_,_,.nil =>by rw[Gs.tL];simp[rE]
 |t::l,_,hg,.cons _ x _ L h hl=>by
  rw[Gs.tL,rE]
  exact⟨akA (hg t (by simp)) h,LN (fun u hu=>hg u (by simp[hu])) hl⟩
end
theorem acf{l:List gA}{L:List D}(hL:lQ l L)(hg:∀m∈l,∀t∈m.ax,Gd t):Vs (AW uz) (l.map gA.t) L:=by
 intro i m x cN hx
 rw[List.getElem?_map]at cN
 obtain⟨a,ha,rfl⟩:=Option.map_eq_some_iff.1 cN
 obtain⟨y,hy,V1⟩:=hL.at_ ha
 rw[hx]at hy
 cases hy
 have eM:=List.mem_of_getElem? ha
 cases V1 with
 |mk xs M oG hs=>
 have e:Cu (.agg [.str a.name,.int .i64 a.nv,xs])=M:=oG.qk
 rw[e]
 exact LN (hg a eM) hs
structure Pl(t:Gs):Prop where
 gd:Gd t
 no:(t.t.s.kind==18)=false
theorem Qw:∀{us:List Gs}{L:List D},gF us L→(∀u∈us,Pl u)→∃ts,gF ts L∧gF ts (L.map uz)∧(∀t∈ts,Pl t)∧Gs.bQ ts≤Gs.bQ us
 |[],_,.nil,_=>⟨[],.nil,.nil,fun t ht=>by simp at ht,Nat.le_refl _⟩
 |u::us,_,.cons _ x _ L h hl,hp=>by
  have V2:=hp u (by simp)
  obtain⟨⟨t,h1,h2,h3,h4⟩,_⟩:=abG h V2.gd
  obtain⟨ts,k1,k2,k3,k4⟩:=Qw hl fun v hv=>hp v (by simp[hv])
  refine⟨t::ts,.cons _ _ _ _ h1 k1,.cons _ _ _ _ h4 k2,fun v hv=>?_,?_⟩
  ·rcases List.mem_cons.1 hv with rfl|hv
   ·exact⟨h2,by rw[h1.kind h];exact V2.no⟩
   ·exact k3 v hv
  ·have:=h3 u h V2.gd
   simp only[Gs.bQ];omega
mutual
def GV:Gs→List ay→Nat→Bool→List Gs
 | .mk c a b,bs,n,k=>if c.s.kind==18 then xp a bs (n+1) (k&&tT bs n)++xp b bs (n+1+ah.aB (Gs.tL a)) (k&& !tT bs n)else if k then [.mk c a b]else []
def xp:List Gs→List ay→Nat→Bool→List Gs
 |[],_,_,_=>[]
 |t::l,bs,n,k=>GV t bs n k++xp l bs (n+t.t.nb) k
end
theorem gF.app:∀{a b:List Gs}{A B:List D},gF a A→gF b B→gF (a++b) (A++B)
 |[],b,_,B,.nil,hb=>hb
 |t::a,b,_,B,.cons _ x _ A h ha,hb=>.cons _ _ _ _ h (ha.app hb)
mutual
theorem ann:∀(t:Gs){x:D}(bs:List ay)(n:Nat)(k:Bool),jI t x→gF (GV t bs n k) (pE id t.t x bs n k)
 | .mk c a b,x,bs,n,k,hx=>by
   have A5:=hx
   cases hx with
   |mk _ d _ _ Lt Le ok fL fG=>
   have e1:ql (.agg (fC c d))=Lt:=ok.t.qk
   have e2:vC (.agg (fC c d))=Le:=ok.l.qk
   rw[Gs.t,GV,pE,e1,e2]
   split
   ·exact(MF a bs _ _ fL).app (MF b bs _ _ fG)
   ·split
    ·exact .cons _ _ _ _ A5 .nil
    ·exact .nil
theorem MF:∀(l:List Gs){L:List D}(bs:List ay)(n:Nat)(k:Bool),gF l L→gF (xp l bs n k) (ft id (Gs.tL l) L bs n k)
 |[],_,bs,n,k,.nil =>by rw[Gs.tL,xp];simp only[ft];exact .nil
 |t::l,_,bs,n,k,.cons _ x _ L h hl=>by
  rw[Gs.tL,xp,ft]
  exact(ann t bs n k h).app (MF l bs _ k hl)
end
theorem Gs.Rz:∀(a b:List Gs),Gs.bQ (a++b)=Gs.bQ a+Gs.bQ b
 |[],b=>by simp[Gs.bQ]
 |t::a,b=>by simp only[List.cons_append,Gs.bQ,Gs.Rz a b];omega
mutual
theorem ano:∀(t:Gs)(bs:List ay)(n:Nat)(k:Bool),Gd t→(∀u∈GV t bs n k,Pl u)∧Gs.bQ (GV t bs n k)≤t.sz
 | .mk c a b,bs,n,k,hg=>by
   have h1:=MG a bs (n+1) (k&&tT bs n) hg.parts.1
   have h2:=MG b bs (n+1+ah.aB (Gs.tL a)) (k&& !tT bs n) hg.parts.2
   rw[GV,Gs.sz]
   split
   ·refine⟨fun u hu=>?_,by rw[Gs.Rz];omega⟩
    rcases List.mem_append.1 hu with hu|hu
    ·exact h1.1 u hu
    ·exact h2.1 u hu
   ·rename_i hk
    split
    ·refine⟨fun u hu=>?_,by simp only[Gs.bQ,Gs.sz];omega⟩
     simp at hu;subst hu
     exact⟨hg,by rw[Gs.t];simpa[ah.s]using hk⟩
    ·exact⟨fun u hu=>by simp at hu,by simp[Gs.bQ]⟩
theorem MG:∀(l:List Gs)(bs:List ay)(n:Nat)(k:Bool),(∀t∈l,Gd t)→(∀u∈xp l bs n k,Pl u)∧Gs.bQ (xp l bs n k)≤Gs.bQ l
 |[],bs,n,k,_=>⟨fun u hu=>by simp[xp]at hu,by simp[xp,Gs.bQ]⟩
 |t::l,bs,n,k,hg=>by
  have h1:=ano t bs n k (hg t (by simp))
  have h2:=MG l bs (n+t.t.nb) k fun u hu=>hg u (by simp[hu])
  rw[xp,Gs.Rz,Gs.bQ]
  refine⟨fun u hu=>?_,by omega⟩
  rcases List.mem_append.1 hu with hu|hu
  ·exact h1.1 u hu
  ·exact h2.1 u hu
end
structure Cy(m:gA):Prop where
 pl:∀t∈m.ax,Pl t
 sz:Gs.bQ m.ax≤120
theorem YJ:∀{l:List gA}{L:List D}(o:List ay)(n:Nat),lQ l L→(∀m∈l,∀t∈m.ax,Gd t)→(∀m∈l,Gs.bQ m.ax≤120)→
  ∃l2,lQ l2 (mF id (l.map gA.t) L o n)∧lQ l2 (mF uz (l.map gA.t) L o n)∧(∀m∈l2,Cy m)∧l2.length=l.length
 |[],[],o,n,h,_,_=>⟨[],⟨rfl,fun{i m}h=>by simp at h⟩,⟨rfl,fun{i m}h=>by simp at h⟩,fun m hm=>by simp at hm,rfl⟩
 |[],_::_,o,n,h,_,_=>by have:=h.len;simp at this
 |_::_,[],o,n,h,_,_=>by have:=h.len;simp at this
 |m::l,x::L,o,n,h,hg,hz=>by
  obtain⟨y,hy,hm⟩:=h.at_ (i:=0) (m:=m) rfl
  simp at hy
  subst hy
  have ht:lQ l L:=⟨by have:=h.len;simpa using this,fun{i m}hi=>by
   obtain⟨y,h1,h2⟩:=h.at_ (i:=i+1) (m:=m) (by simpa using hi)
   exact⟨y,by simpa using h1,h2⟩⟩
  obtain⟨l2,k1,k2,k3,k4⟩:=YJ o (n+ah.aB m.t.ax) ht (fun m hm=>hg m (by simp[hm])) (fun m hm=>hz m (by simp[hm]))
  cases hm with
  |mk xs M oG hs=>
  have e:Cu (.agg [.str m.name,.int .i64 m.nv,xs])=M:=oG.qk
  have hf:=MF m.ax o n true hs
  obtain⟨Kj,Kl⟩:=MG m.ax o n true (hg m (by simp))
  obtain⟨ts,q1,q2,q3,q4⟩:=Qw hf Kj
  have Ju:=hz m (by simp)
  refine⟨⟨m.name,m.nv,ts⟩::l2,⟨?_,fun{i a}hi=>?_⟩,⟨?_,fun{i a}hi=>?_⟩,fun a ha=>?_,by simp[k4]⟩
  ·rw[List.map_cons,mF,List.length_cons,List.length_cons,k1.len]
  ·rw[List.map_cons,mF,e]
   cases i with
   |zero=>simp at hi;subst hi;exact⟨_,rfl,.mk _ _ (cm 55 _) q1⟩
   |succ i=>exact k1.at_ (by simpa using hi)
  ·rw[List.map_cons,mF,List.length_cons,List.length_cons,k2.len]
  ·rw[List.map_cons,mF,e,Mc]
   cases i with
   |zero=>simp at hi;subst hi;exact⟨_,rfl,.mk _ _ (cm 55 _) q2⟩
   |succ i=>exact k2.at_ (by simpa using hi)
  ·rcases List.mem_cons.1 ha with rfl|ha
   ·exact⟨q3,by simp only;omega⟩
   ·exact k3 a ha
theorem Cy.sm{m:gA}(h:Cy m):dk m.t.ax:=by
 refine⟨?_,?_⟩
 ·rw[show m.t.ax=Gs.tL m.ax from rfl,Gs.IA];exact h.sz
 ·rw[show m.t.ax=Gs.tL m.ax from rfl]
  have hp:=h.pl
  generalize m.ax=l at hp
  induction l with
  |nil=>rw[Gs.tL];simp[ah.tc]
  |cons t l ih=>
   rw[Gs.tL,ah.tc]
   exact⟨(hp t (by simp)).gd.ok,ih fun u hu=>hp u (by simp[hu])⟩
theorem Cy.nb{m:gA}(h:Cy m):ah.aB m.t.ax=0:=by
 rw[show m.t.ax=Gs.tL m.ax from rfl]
 have hp:=h.pl
 generalize m.ax=l at hp
 induction l with
 |nil=>rw[Gs.tL];rfl
 |cons t l ih=>
  rw[Gs.tL,ah.aB,ih fun u hu=>hp u (by simp[hu]),t.t.zQ,(hp t (by simp)).no];rfl
theorem XM:∀{l:List gA}{L:List D}(o:List ay)(n:Nat),lQ l L→(∀m∈l,Cy m)→∃l3,lQ l3 L∧lQ l3 (mF uz (l.map gA.t) L o n)
 |[],[],o,n,h,_=>⟨[],⟨rfl,fun{i m}h=>by simp at h⟩,⟨rfl,fun{i m}h=>by simp at h⟩⟩
 |[],_::_,o,n,h,_=>by have:=h.len;simp at this
 |_::_,[],o,n,h,_=>by have:=h.len;simp at this
 |m::l,x::L,o,n,h,hg=>by
  obtain⟨y,hy,hm⟩:=h.at_ (i:=0) (m:=m) rfl
  simp at hy
  subst hy
  have ht:lQ l L:=⟨by have:=h.len;simpa using this,fun{i m}hi=>by
   obtain⟨y,h1,h2⟩:=h.at_ (i:=i+1) (m:=m) (by simpa using hi)
   exact⟨y,by simpa using h1,h2⟩⟩
  obtain⟨l3,k1,k2⟩:=XM o (n+ah.aB m.t.ax) ht (fun m hm=>hg m (by simp[hm]))
  have my:=hg m (by simp)
  cases hm with
  |mk xs M oG hs=>
  have e:Cu (.agg [.str m.name,.int .i64 m.nv,xs])=M:=oG.qk
  obtain⟨ts,q1,q2,q3,q4⟩:=Qw hs my.pl
  have oF:ft uz m.t.ax M o n true=M.map uz:=by
   refine YI n (by rw[show m.t.ax=Gs.tL m.ax from rfl,Gs.Fk,List.length_map];exact hs.len) fun t Oe=>?_
   rw[show m.t.ax=Gs.tL m.ax from rfl,Gs.Fk]at Oe
   obtain⟨u,hu,rfl⟩:=List.mem_map.1 Oe
   exact(my.pl u hu).no
  refine⟨⟨m.name,m.nv,ts⟩::l3,⟨by simp[k1.len],fun{i a}hi=>?_⟩,⟨?_,fun{i a}hi=>?_⟩⟩
  ·cases i with
   |zero=>simp at hi;subst hi;exact⟨_,rfl,.mk xs M oG q1⟩
   |succ i=>exact k1.at_ (by simpa using hi)
  ·rw[List.map_cons,mF,List.length_cons,List.length_cons,k2.len]
  ·rw[List.map_cons,mF,e,oF]
   cases i with
   |zero=>simp at hi;subst hi;exact⟨_,rfl,.mk _ _ (cm 55 _) q2⟩
   |succ i=>exact k2.at_ (by simpa using hi)
set_option maxRecDepth 4000
theorem aiK(a b c:Int)(n:List UInt8):aj (some (true,[.int,.int,.int,.str])) .neq (.d (.agg [.int .i64 a,.int .i64 b,.int .i64 c,.str n])) (.d (.agg [.int .i64 a,.int .i64 b,.int .i64 c,.str n]))=some (.d (.bool false)):=by
 simp[aj,gZ,eR,gY,oW]
theorem aha{l:List gA}{L:List D}{x:D}(hx:aL 3 L x)(hL:lQ l L)(hg:∀m∈l,∀t∈m.ax,Gd t)(h8:l.length≤8)(hm:∀m∈l.map gA.t,dk m.ax)(hz:∀m∈l,Gs.bQ m.ax≤120):∃(l2:List gA) (A Bb:List D) (c1 c2 c3:Int) (nm:List UInt8),
  aF Try.prog gl 25 [.d x] (.aK [aO 3 A,.d (.agg [.int .i64 c1,.int .i64 c2,.int .i64 c3,.str nm])])∧aF Try.prog gl 26 [.d x] (.aK [aO 3 Bb,.d (.agg [.int .i64 c1,.int .i64 c2,.int .i64 c3,.str nm])])∧
  lQ l2 A∧lQ l2 Bb∧(∀m∈l2,Cy m)∧l2.length≤8:=by
 have O8:(l.map gA.t).length ≤8:=by rw[List.length_map];exact h8
 have hF:=Pr uz hx hL.M8 O8 hm (acf hL hg)
 have hR:=adB hx hL.M8 O8 hm
 unfold Ee at hF hR
 cases hd:nK (l.map gA.t)with
 |error e=>
  obtain⟨c,s⟩:=e
  rw[hd]at hF hR
  exact⟨[],[],[],_,_,_,_,hF,hR,⟨rfl,fun{i m}h=>by simp at h⟩,⟨rfl,fun{i m}h=>by simp at h⟩,fun m hm=>by simp at hm,by simp⟩
 |ok o=>
  rw[hd]at hF hR
  obtain⟨l2,k1,k2,k3,k4⟩:=YJ o 0 hL hg hz
  exact⟨l2,_,_,_,_,_,_,hF,hR,k2,k1,k3,by omega⟩
theorem afX{l:List gA}{A:List D}(hL:lQ l A)(hp:∀m∈l,Cy m)(h8:l.length≤8):∃(C:List D) (c1 c2 c3:Int) (nm:List UInt8),aF Try.prog gl 25 [.d (bB 3 A)] (.aK [aO 3 C,.d (.agg [.int .i64 c1,.int .i64 c2,.int .i64 c3,.str nm])])∧
  (c1≠0∨∃l3,lQ l3 A∧lQ l3 C):=by
 have O8:(l.map gA.t).length ≤8:=by rw[List.length_map];exact h8
 have hm:∀m∈l.map gA.t,dk m.ax:=fun m hm=>by
  obtain⟨a,ha,rfl⟩:=List.mem_map.1 hm
  exact(hp a ha).sm
 have hF:=Pr uz (cm 3 A) hL.M8 O8 hm (acf hL fun m ld t ht=>((hp m ld).pl t ht).gd)
 unfold Ee at hF
 cases hd:nK (l.map gA.t)with
 |error e=>
  obtain⟨c,s⟩:=e
  rw[hd]at hF
  exact⟨[],_,_,_,_,hF,.inl (MA hd)⟩
 |ok o=>
  rw[hd]at hF
  obtain⟨l3,k1,k2⟩:=XM o 0 hL hp
  exact⟨_,_,_,_,_,hF,.inr ⟨l3,k1,k2⟩⟩
theorem afY{l:List gA}{L:List D}{x:D}(hx:aL 3 L x)(hL:lQ l L)(hW:∀m∈l,m.W):aF Try.prog gl 7 [.d x] (.d (.bool true)):=by
 refine a8 (anN ..) fun br=>?_
 have hl:=hL.M8
 simp only[sS,sT,sZ]
 refine eD (aeB hx hl) ?_
 simp only[ab6,sS]
 have aw:aU (aF Try.prog gl) 10 [] fun r=>(aa r).aA =true∧aa r=.d (.bool true):=bH W7 rfl ⟨rfl,rfl⟩
 have aw2:aU (aF Try.prog gl) 10 [] fun r=>(aa (aa r)).aA =true∧aa (aa r)=.d (.bool true):=bH W7 rfl ⟨rfl,rfl⟩
 refine And.intro (fun h=>aw) (fun h=>?_)
 obtain⟨h8,hm⟩:=Yv (by simpa using h)
 rw[List.length_map]at h8
 have hz:∀m∈l,Gs.bQ m.ax≤120:=fun m ld=>by
  have:=(hm m.t (List.mem_map.2 ⟨m,ld,rfl⟩)).sz
  rw[show m.t.ax=Gs.tL m.ax from rfl,Gs.IA]at this
  exact this
 have hg:∀m∈l,∀t∈m.ax,Gd t:=fun m ld t ht=>by
  have h1:=(hm m.t (List.mem_map.2 ⟨m,ld,rfl⟩)).ok
  rw[show m.t.ax=Gs.tL m.ax from rfl]at h1
  exact⟨hW m ld t ht,by have h2:=hz m ld;have:=Gs.x7 ht;omega,ah.C5 h1 t.t (by rw[Gs.Fk];exact List.mem_map.2 ⟨t,ht,rfl⟩)⟩
 obtain⟨l2,A,Bb,c1,c2,c3,nm,hF,hR,q1,q2,q3,q4⟩:=aha hx hL hg h8 hm hz
 refine call2 hF ?_
 simp only[dv,dw,z4,sS,sT]
 refine call2 hR ?_
 simp only[ej,dv,dw,z4,sS,sT]
 refine bH (XK (cm 3 A) q1 (cm 3 Bb) q2) rfl ?_
 simp only[ab6,dH,aiK,sS]
 obtain⟨C,d1,d2,d3,nn,hA,hor⟩:=afX q1 q3 q4
 have bX:l2.length≤maxLen:=Nat.le_trans q4 (by decide)
 refine And.intro (fun h=>absurd h (by decide)) (fun _=>And.intro (fun h=>absurd h (by decide)) (fun _=>?_))
 refine call2 hA ?_
 simp only[ej,dv,dw,z4,(cm 3 A).len,q1.len,sS,sT]
 refine eX (fun i=>[.d (bB 3 A),.d (bB 3 C),.d (.int .i64 (l2.length:Int)),.d (.int .i64 ((i:Nat):Int))]) (fun i=>[[.d (.int .i64 c1),.d (.int .i64 c2),.d (.int .i64 c3),.d (.str nm)],[.d (.int .i64 c1),.d (.int .i64 c2),.d (.int .i64 c3),.d (.str nm)],[.d (.int .i64 d1),.d (.int .i64 d2),.d (.int .i64 d3),.d (.str nn)]]) l2.length (fun i hi I hI=>?_) (fun I=>?_)
 ·simp only[sS,sT]
  refine And.intro (fun _=>?_) (fun h=>absurd h (by simp;omega))
  obtain⟨m,cN⟩:=get_some hi
  obtain⟨y,hy,hZ⟩:=q1.at_ cN
  have my:=q3 m (List.mem_of_getElem? cN)
  have nW:=Wx hZ.adg my.sm
  rw[my.nb]at nW
  simp only[(cm 3 A).at hy,SF hZ,sS]
  refine eD nW ?_
  simp only[ek,sS]
  refine And.intro (fun h=>absurd h (by simp)) (fun _=>?_)
  refine aS (bf hi bX) ?_
  exact hI
 ·simp only[sS,sT]
  refine And.intro (fun h=>absurd h (by simp)) (fun _=>?_)
  simp only[gf,ek,sS]
  refine And.intro (fun h=>aw2) (fun h=>?_)
  have h0:d1=0:=by simpa using h
  rcases hor with bg|⟨l3,k1,k2⟩
  ·exact absurd h0 bg
  ·refine bH (XK (cm 3 C) k2 (cm 3 A) k1) rfl ?_
   simp only[sS]
   exact⟨fun _=>aw2,fun h=>by cases h⟩
theorem anp:Try.prog.bytesOf 9=16:=by kernel_rfl
theorem aoR:Try.prog.bytesOf 143=32:=by kernel_rfl
theorem aoS:Try.prog.bytesOf 56=112:=by kernel_rfl
theorem Q6{n:Nat}(h:n≤reachBytes):n≤140737488355328:=Nat.le_trans h (by decide)
theorem Ie{xs:List D}(h:gM Try.prog 48 xs):∃(l:List (List UInt8)) (x:D),xs=[x]∧aL 1 (cA l) x∧l.length*16≤140737488355328:=by
 rcases h.Mp Try.underlying48 aor with rfl|⟨L,rfl,hw,hL⟩
 ·exact⟨[],_,rfl,.nil 0 rfl,by simp⟩
 ·obtain⟨l,hl,hn⟩:=Z1 (b:=false) (f:=D.str) (fun x hx=>by obtain⟨s,rfl⟩:=vW hx;exact⟨s,rfl⟩) L (fun x hx=>(hL x hx).is)
  rw[anp]at hw
  refine⟨l,_,rfl,?_,by rw[hn];exact Q6 hw⟩
  rw[hl,ako]
  exact .ro
theorem NK{xs:List D}(h:gM Try.prog 50 xs):∃(n:Ek) (x y:D),xs=[.bool n.a,.bool n.b,.bool n.c,x,y]∧aL 1 (cA n.l) x∧aL 1 (cA n.m) y∧n.l.length*16≤140737488355328∧n.m.length*16≤140737488355328:=by
 obtain⟨parts,rfl,hl,hp⟩:=h.Bf Try.underlying50
 match parts,hl,hp with
 |[q0,q1,q2,q3,q4],_,hp=>
  obtain⟨b0,rfl⟩:=Md (hp 0 _ _ rfl rfl).is
  obtain⟨b1,rfl⟩:=Md (hp 1 _ _ rfl rfl).is
  obtain⟨b2,rfl⟩:=Md (hp 2 _ _ rfl rfl).is
  obtain⟨l,x,rfl,hx,w1⟩:=Ie (hp 3 _ _ rfl rfl)
  obtain⟨m,y,rfl,hy,w2⟩:=Ie (hp 4 _ _ rfl rfl)
  exact⟨⟨b0,b1,b2,l,m⟩,x,y,rfl,hx,hy,w1,w2⟩
theorem aoT{xs:List D}(h:gM Try.prog 57 xs):∃(L:List D) (x:D),xs=[x]∧aL 2 L x∧M6 L∧L.length*32≤140737488355328:=by
 rcases h.Mp Try.underlying57 ank with rfl|⟨L,rfl,hw,hL⟩
 ·exact⟨[],_,rfl,.nil 0 rfl,fun i y h=>by simp at h,by simp⟩
 ·rw[aoR]at hw
  refine⟨L.map (pack true),_,rfl,by rw[anl];exact .ro,fun i y hy=>?_,by rw[List.length_map];exact Q6 hw⟩
  rw[List.getElem?_map]at hy
  cases hx:L[i]? with
  |none=>rw[hx]at hy;cases hy
  |some z=>
   rw[hx]at hy
   obtain⟨s,t,rfl⟩:=aoP (hL z (List.mem_of_getElem? hx)).is
   cases hy
   exact⟨s,t,rfl⟩
theorem TW{xs:List D}(h:gM Try.prog 59 xs):∃(v:A4) (x:D),xs=[.str v.s,x]∧aL 2 v.L x∧v.L.length*32≤140737488355328:=by
 obtain⟨parts,rfl,hl,hp⟩:=h.Bf Try.underlying59
 match parts,hl,hp with
 |[q0,q1],_,hp=>
  obtain⟨s,rfl⟩:=vW (hp 0 _ _ rfl rfl).is
  obtain⟨L,x,rfl,h1,h2,h3⟩:=aoT (hp 1 _ _ rfl rfl)
  exact⟨⟨s,L,h2⟩,x,rfl,h1,h3⟩
theorem adh{xs:List D}(h:gM Try.prog 61 xs):∃(v u:A4) (x y:D),xs=[.str v.s,x,.str u.s,y]∧aL 2 v.L x∧aL 2 u.L y∧v.L.length*32≤140737488355328∧u.L.length*32≤140737488355328:=by
 obtain⟨parts,rfl,hl,hp⟩:=h.Bf Try.underlying61
 match parts,hl,hp with
 |[q0,q1],_,hp=>
  obtain⟨t,x,rfl,h1,w1⟩:=TW (hp 0 _ _ rfl rfl)
  obtain⟨u,y,rfl,h2,w2⟩:=TW (hp 1 _ _ rfl rfl)
  exact⟨t,u,x,y,rfl,h1,h2,w1,w2⟩
theorem arQ{xs:List D}(h:gM Try.prog 63 xs):∃(a b c:List UInt8) (v u:A4) (x y:D),xs=[.str a,.str b,.str c,.str v.s,x,.str u.s,y]∧aL 2 v.L x∧aL 2 u.L y∧v.L.length*32≤140737488355328∧u.L.length*32≤140737488355328:=by
 obtain⟨parts,rfl,hl,hp⟩:=h.Bf Try.underlying63
 match parts,hl,hp with
 |[q0,q1,q2,q3],_,hp=>
  obtain⟨a,rfl⟩:=vW (hp 0 _ _ rfl rfl).is
  obtain⟨b,rfl⟩:=vW (hp 1 _ _ rfl rfl).is
  obtain⟨c,rfl⟩:=vW (hp 2 _ _ rfl rfl).is
  obtain⟨t,u,x,y,rfl,hh⟩:=adh (hp 3 _ _ rfl rfl)
  exact⟨a,b,c,t,u,x,y,rfl,hh⟩
theorem aiL{t:TypeId}{xs:List D}(h:gM Try.prog t xs):(t=56→∃e:Xp,kc e (.agg xs)∧vG e)∧
  (t=54→∃(l:List Xp) (L:List D) (x:D),xs=[x]∧aL 10 L x∧L.length=l.length∧(∀(i:Nat)k y,l[i]? =some k→L[i]? =some y→kc k y)∧l.length*112≤140737488355328∧∀k∈l,vG k):=by
 have hx:56≠54:=by decide
 induction h with
 |struct h parts hl hp ih=>
  refine⟨fun ht=>?_,fun ht=>?_⟩
  ·subst ht
   rw[Try.underlying56]at h
   cases h
   match parts,hl,hp,ih with
   |[a,b,c,d,n,s,k],_,hp,ih=>
    obtain⟨op,rfl⟩:=zG (hp 0 _ _ rfl rfl).is
    obtain⟨a',rfl⟩:=zG (hp 1 _ _ rfl rfl).is
    obtain⟨rel,rfl⟩:=zG (hp 2 _ _ rfl rfl).is
    obtain⟨b',rfl⟩:=zG (hp 3 _ _ rfl rfl).is
    obtain⟨names,nm,rfl,hn,JB⟩:=Ie (hp 4 _ _ rfl rfl)
    obtain⟨w,rfl⟩:=amT (hp 5 _ _ rfl rfl).is
    obtain⟨l,L,x,rfl,hd,jQ,hk,hlw,hkw⟩:=(ih 6 _ _ rfl rfl).2 rfl
    exact⟨_,.mk op a' rel b' names w l nm x L hn jQ hk hd,.mk op a' rel b' names w l JB hlw hkw⟩
  ·subst ht
   rw[Try.underlying54]at h
   cases h
 |jk h=>exact⟨fun ht=>(by subst ht;rw[Try.underlying56]at h;cases h),fun ht=>⟨[],[],_,rfl,.nil 0 rfl,rfl,fun i k y h1=>by simp at h1,by simp,by simp⟩⟩
 |sl h b hb L hm hw hL ih=>
  refine⟨fun ht=>(by subst ht;rw[Try.underlying56]at h;cases h),fun ht=>?_⟩
  subst ht
  rw[Try.underlying54]at h
  cases h
  rw[amS]at hb
  cases hb
  have key:∀(L:List (List D)),(∀x∈L,∃e:Xp,kc e (.agg x)∧vG e)→∃l:List Xp,l.length=L.length∧(∀(i:Nat)k y,l[i]? =some k→(L.map (pack true))[i]? =some y→kc k y)∧∀k∈l,vG k:=by
   intro L
   induction L with
   |nil=>intro _;exact⟨[],rfl,fun i k y h1=>by simp at h1,by simp⟩
   |cons x L KF=>
    intro h
    obtain⟨e,he,El⟩:=h x (by simp)
    obtain⟨l,h1,h2,h3⟩:=KF fun y hy=>h y (by simp[hy])
    refine⟨e::l,by simp[h1],fun i k y a b=>?_,fun k hk=>?_⟩
    ·cases i with
     |zero=>simp at a b;subst a b;exact he
     |succ i=>exact h2 i k y (by simpa using a) (by simpa using b)
    ·rcases List.mem_cons.1 hk with rfl|hk
     ·exact El
     ·exact h3 k hk
  obtain⟨l,h1,h2,h3⟩:=key L fun x hx=>(ih x hx).1 rfl
  rw[aoS]at hw
  refine⟨l,_,_,rfl,?_,by rw[List.length_map,h1],h2,by rw[h1];exact Q6 hw,h3⟩
  rw[akp]
  exact .ro
 |bool h=>exact⟨fun ht=>(by subst ht;rw[Try.underlying56]at h;cases h),fun ht=>(by subst ht;rw[Try.underlying54]at h;cases h)⟩
 |int h=>exact⟨fun ht=>(by subst ht;rw[Try.underlying56]at h;cases h),fun ht=>(by subst ht;rw[Try.underlying54]at h;cases h)⟩
 |str h=>exact⟨fun ht=>(by subst ht;rw[Try.underlying56]at h;cases h),fun ht=>(by subst ht;rw[Try.underlying54]at h;cases h)⟩
 |array h=>exact⟨fun ht=>(by subst ht;rw[Try.underlying56]at h;cases h),fun ht=>(by subst ht;rw[Try.underlying54]at h;cases h)⟩
theorem arR{xs:List D}(h:gM Try.prog 56 xs):∃(e:Xp) (nm kd:D),xs=kI e.op e.a e.rel e.b nm e.w kd∧kc e (.agg (kI e.op e.a e.rel e.b nm e.w kd))∧vG e:=by
 obtain⟨e,he,hw⟩:=(aiL h).1 rfl
 have Ed:=he
 obtain⟨nm,kd,L,hx,_⟩:=he.inv
 cases hx
 exact⟨e,nm,kd,rfl,Ed,hw⟩
theorem akB{t:TypeId}{xs:List D}(h:gM Try.prog t xs):(t=65→∃e:Gs,jI e (.agg xs)∧xo e)∧
  (t=34→∃(l:List Gs) (L:List D) (x:D),xs=[x]∧aL 55 L x∧gF l L∧∀t∈l,xo t):=by
 have hx:65≠34:=by decide
 induction h with
 |struct h parts hl hp ih=>
  refine⟨fun ht=>?_,fun ht=>?_⟩
  ·subst ht
   rw[Try.underlying65]at h
   cases h
   match parts,hl,hp,ih with
   |[q0,q1,q2,q3,q4,q5,q6,q7,q8,q9,q10,q11,q12,q13,q14,q15,q16,q17,q18],_,hp,ih=>
    obtain⟨k,rfl⟩:=zG (hp 0 _ _ rfl rfl).is
    obtain⟨op,rfl⟩:=zG (hp 1 _ _ rfl rfl).is
    obtain⟨ln,cl,rfl⟩:=anm (hp 2 _ _ rfl rfl).is
    obtain⟨n,rfl⟩:=vW (hp 3 _ _ rfl rfl).is
    obtain⟨r,rfl⟩:=vW (hp 4 _ _ rfl rfl).is
    obtain⟨t,rfl⟩:=vW (hp 5 _ _ rfl rfl).is
    obtain⟨l1,x1,rfl,h1,w1⟩:=Ie (hp 6 _ _ rfl rfl)
    obtain⟨l2,x2,rfl,h2,w2⟩:=Ie (hp 7 _ _ rfl rfl)
    obtain⟨n1,a1,b1,rfl,A1,g9,wa1,wb1⟩:=NK (hp 8 _ _ rfl rfl)
    obtain⟨n2,a2,b2,rfl,xg,jE,wa2,wb2⟩:=NK (hp 9 _ _ rfl rfl)
    obtain⟨n3,a3,b3,rfl,Ei,Cm,wa3,wb3⟩:=NK (hp 10 _ _ rfl rfl)
    obtain⟨n4,a4,b4,rfl,KA,O4,wa4,wb4⟩:=NK (hp 11 _ _ rfl rfl)
    obtain⟨e,nm,kd,rfl,he,El⟩:=arR (hp 12 _ _ rfl rfl)
    obtain⟨lv,k0,rfl,xn,wv0⟩:=TW (hp 13 _ _ rfl rfl)
    obtain⟨lo,hi,k1,k2,rfl,AI,yW,wv1,wv2⟩:=adh (hp 14 _ _ rfl rfl)
    obtain⟨u,v,w,cl',ch,k3,k4,rfl,hv3,hv4,wv3,wv4⟩:=arQ (hp 15 _ _ rfl rfl)
    obtain⟨b,rfl⟩:=Md (hp 16 _ _ rfl rfl).is
    obtain⟨ta,La,ya,rfl,UO,fL,Ka⟩:=(ih 17 _ _ rfl rfl).2 rfl
    obtain⟨tb,Lb,yb,rfl,UG,fG,hsw⟩:=(ih 18 _ _ rfl rfl).2 rfl
    exact⟨.mk ⟨⟨k,op,ln,cl,n,l1,l2⟩,r,t,n1,n2,n3,n4,e,lv,lo,hi,u,v,w,cl',ch,b⟩ ta tb,
     .mk ⟨⟨k,op,ln,cl,n,l1,l2⟩,r,t,n1,n2,n3,n4,e,lv,lo,hi,u,v,w,cl',ch,b⟩ ⟨x1,x2,a1,b1,a2,b2,a3,b3,a4,b4,nm,kd,k0,k1,k2,k3,k4,ya,yb⟩ ta tb La Lb
      ⟨h1,h2,A1,g9,xg,jE,Ei,Cm,KA,O4,he,xn,AI,yW,hv3,hv4,UO,UG⟩ fL fG,
     .mk _ _ _ ⟨w1,w2,wa1,wb1,wa2,wb2,wa3,wb3,wa4,wb4,El,wv0,wv1,wv2,wv3,wv4⟩ Ka hsw⟩
  ·subst ht
   rw[Try.underlying34]at h
   cases h
 |jk h=>exact⟨fun ht=>(by subst ht;rw[Try.underlying65]at h;cases h),fun ht=>⟨[],[],_,rfl,.nil 0 rfl,.nil,by simp⟩⟩
 |sl h b hb L hm hw hL ih=>
  refine⟨fun ht=>(by subst ht;rw[Try.underlying65]at h;cases h),fun ht=>?_⟩
  subst ht
  rw[Try.underlying34]at h
  cases h
  rw[akv]at hb
  cases hb
  have key:∀(L:List (List D)),(∀x∈L,∃e:Gs,jI e (.agg x)∧xo e)→∃l:List Gs,gF l (L.map (pack true))∧∀t∈l,xo t:=by
   intro L
   induction L with
   |nil=>intro _;exact⟨[],.nil,by simp⟩
   |cons x L KF=>
    intro h
    obtain⟨e,he,El⟩:=h x (by simp)
    obtain⟨l,h1,h2⟩:=KF fun y hy=>h y (by simp[hy])
    refine⟨e::l,.cons _ _ _ _ he h1,fun k hk=>?_⟩
    rcases List.mem_cons.1 hk with rfl|hk
    ·exact El
    ·exact h2 k hk
  obtain⟨l,h1,h2⟩:=key L fun x hx=>(ih x hx).1 rfl
  refine⟨l,_,_,rfl,?_,h1,h2⟩
  rw[akw]
  exact .ro
 |bool h=>exact⟨fun ht=>(by subst ht;rw[Try.underlying65]at h;cases h),fun ht=>(by subst ht;rw[Try.underlying34]at h;cases h)⟩
 |int h=>exact⟨fun ht=>(by subst ht;rw[Try.underlying65]at h;cases h),fun ht=>(by subst ht;rw[Try.underlying34]at h;cases h)⟩
 |str h=>exact⟨fun ht=>(by subst ht;rw[Try.underlying65]at h;cases h),fun ht=>(by subst ht;rw[Try.underlying34]at h;cases h)⟩
 |array h=>exact⟨fun ht=>(by subst ht;rw[Try.underlying65]at h;cases h),fun ht=>(by subst ht;rw[Try.underlying34]at h;cases h)⟩
theorem arS{xs:List D}(h:gM Try.prog 36 xs):∃t:gA,As t (pack true xs)∧t.W:=by
 obtain⟨parts,rfl,hl,hp⟩:=h.Bf Try.underlying36
 match parts,hl,hp with
 |[q0,q1,q2],_,hp=>
  obtain⟨n,rfl⟩:=vW (hp 0 _ _ rfl rfl).is
  obtain⟨v,rfl⟩:=zG (hp 1 _ _ rfl rfl).is
  obtain⟨l,L,x,rfl,h1,h2,h3⟩:=(akB (hp 2 _ _ rfl rfl)).2 rfl
  exact⟨⟨n,v,l⟩,.mk x L h1 h2,h3⟩
theorem aoU{xs:List D}(h:gM Try.prog 22 xs):∃(l:List gA) (L:List D) (x:D),xs=[x]∧aL 3 L x∧lQ l L∧∀m∈l,m.W:=by
 rcases h.Mp Try.underlying22 akx with rfl|⟨L,rfl,hm,hL⟩
 ·exact⟨[],[],_,rfl,.nil 0 rfl,⟨rfl,fun{i m}h=>by simp at h⟩,by simp⟩
 ·have key:∀(L:List (List D)),(∀x∈L,∃e:gA,As e (pack true x)∧e.W)→∃l:List gA,lQ l (L.map (pack true))∧∀m∈l,m.W:=by
   intro L
   induction L with
   |nil=>intro _;exact⟨[],⟨rfl,fun{i m}h=>by simp at h⟩,by simp⟩
   |cons x L KF=>
    intro h
    obtain⟨e,he,El⟩:=h x (by simp)
    obtain⟨l,h1,h2⟩:=KF fun y hy=>h y (by simp[hy])
    refine⟨e::l,⟨by simp[h1.len.symm],fun{i m}hi=>?_⟩,fun k hk=>?_⟩
    ·cases i with
     |zero=>simp at hi;subst hi;exact⟨_,rfl,he⟩
     |succ i=>exact h1.at_ (by simpa using hi)
    ·rcases List.mem_cons.1 hk with rfl|hk
     ·exact El
     ·exact h2 k hk
  obtain⟨l,h1,h2⟩:=key L fun x hx=>arS (hL x hx)
  refine⟨l,_,_,rfl,?_,h1,h2⟩
  rw[aky]
  exact .ro
end Go.Proofs.Ytimbllcalipehaa.Ab
