/-
  The reference's symbols of a part, and the fault of modules.
-/
import Derived.Test.YtimbllcalipehaaTh
import Derived.Test.YtimbllcalipehaaTg
import Derived.Test.YtimbllcalipehaaTe
import Derived.Test.YtimbllcalipehaaChecked
set_option linter.unusedVariables false
set_option linter.unusedSimpArgs false
namespace Go.Proofs.Ytimbllcalipehaa.Ab
open Go
set_option linter.unusedVariables false
set_option maxRecDepth 4000
theorem Pa{ts:List ah}(h:de ts){L:List D}{xs:D}(hx:aW 55 L xs)(hs:fe ts L):aG Try.prog gl 22 [.d xs] (match ff ts with| .error (c,s)=>.aJ [.d (.sl .nil 0 []),.d (jl c s)]| .ok sy=>.aJ [aQ 6 (aK sy),.d eI]):=by
 have:=aaz h hx hs
 unfold ff
 unfold AT at this
 cases hc:iD [] (nC ts)with
 |some p=>obtain⟨c,s⟩:=p;rw[hc]at this;exact this
 |none=>rw[hc]at this;exact this
theorem XE{m:bg}(h:de m.ay){d:D}(hd:lj m d):aG Try.prog gl 21 [.d d] (match ff m.ay with| .error (c,s)=>.aJ [.d (.sl .nil 0 []),.d (jl c s)]| .ok sy=>.aJ [aQ 6 (aK sy),.d eI]):=by
 have:=aac h hd
 unfold ff
 unfold AT bg.syms at this
 cases hc:iD [] (nC m.ay)with
 |some p=>obtain⟨c,s⟩:=p;rw[hc]at this;exact this
 |none=>rw[hc]at this;exact this
def eM(ts:List ah):List aq:=match ff ts with
 | .error _=>[]
 | .ok sy=>sy
theorem Pb{ts:List ah}(h:de ts):(eM ts).length ≤4920:=by
 unfold eM
 split
 ·simp
 ·rename_i sy hs;exact DC h hs
theorem VR(ts:List ah){L:List D}{x:D}(os:List aq)(hx:aW 55 L x)(hs:fe ts L)(cm:de ts)(hl:os.length≤2^30):
  body Try.prog gl (aG Try.prog gl) Mf 36 [.d x,aQ 6 (aK os)] (fun r=>r=aQ 6 (aK (os++eM ts))):=by
 rw[ahv]
 intro bJ
 have hB:=Pa cm hx hs
 obtain⟨f1,f2,f3,f4,hB⟩:∃f1 f2 f3 f4,aG Try.prog gl 22 [.d x] (.aJ [aQ 6 (aK (eM ts)),.d (.agg [f1,f2,f3,f4])]):=by
  unfold eM
  cases hb:ff ts with
  |error e=>obtain⟨c,s⟩:=e;rw[hb]at hB;exact⟨_,_,_,_,hB⟩
  |ok sy=>rw[hb]at hB;exact⟨_,_,_,_,hB⟩
 have Ie:=Pb cm
 generalize eM ts=sy at hB Ie ⊢
 have ct:sy.length≤maxLen:=Nat.le_trans Ie (by decide)
 simp only[sS,sT,sZ]
 refine call2 hB ?_
 simp only[ez,dq,dr,sS,sT,sZ]
 have e0:aK os=aK (os++sy.take 0):=by simp
 rw[e0]
 refine fV (fun i=>[aQ 6 (aK (os++sy.take i)),.d (bB 6 (aK sy)),.d (.int .i64 ((i:Nat):Int))]) (fun i=>[_]) sy.length (fun i hi I hI=>?_) (fun I=>?_)
 ·obtain⟨s,Fc⟩:=get_some hi
  simp only[(cK 6 (aK sy)).len,eA,sS,sT,sZ]
  refine And.intro (fun _=>?_) (fun h=>absurd h (by simp;omega))
  simp only[(cK 6 (aK sy)).at (mf Fc),qI,dG,k8,Ao,sS,sT,sZ]
  refine gN (M:=[s.enc]) (by simp[elems]) (by simp only[eA,List.length_append,List.length_take,List.length_singleton];omega) ?_
  refine aU (br hi ct) ?_
  have:aK (os++sy.take i)++[s.enc]=aK (os++sy.take (i+1)):=by rw[dX Fc];simp[aK]
  rw[this]
  exact hI
 ·simp only[(cK 6 (aK sy)).len,eA,sS,sT,sZ]
  refine And.intro (fun h=>absurd h (by simp)) (fun _=>?_)
  rw[List.take_length]
  exact⟨kS _ _,rfl⟩
theorem Uq{ts:List ah}{L:List D}{x:D}{os:List aq}(hx:aW 55 L x)(hs:fe ts L)(cm:de ts)(hl:os.length≤2^30):
  aG Try.prog gl 36 (pM 1 [.d x,aQ 6 (aK os)]) (.aJ [.d (bB 6 (aK os)),aQ 6 (aK (os++eM ts))]):=by
 rw[←ez]
 refine FE bG (cb (fn:=Try.f36) (by kernel_rfl) (by kernel_rfl) (by kernel_rfl)) (hh:=Mf) (by simp[SV.iB,kS,SV.aD]) rfl (fun r hr=>?_) (VR ts os hx hs cm hl)
 simp at hr;subst hr;exact ka _ _
theorem abE{ts:List ah}{L:List D}{x:D}(hx:aW 55 L x)(hs:fe ts L)(cm:de ts):aG Try.prog gl 36 [.d x,.d (.sl .nil 0 [])] (aQ 6 (aK (eM ts))):=by
 refine cM bG (cb (fn:=Try.f36) (by kernel_rfl) (by kernel_rfl) (by kernel_rfl)) (h:=Mf) ?_
 exact VR ts [] hx hs cm (by simp)
mutual
def wa:ah→Option mH
 | .mk s a b=>if s.kind==18 then(match ff a with
    | .error e=>some e
    | .ok _=>(match iz a with
      |some e=>some e
      |none=>(match ff b with
       | .error e=>some e
       | .ok _=>iz b)))else none
def iz:List ah→Option mH
 |[]=>none
 |t::l=>(match wa t with
  |some e=>some e
  |none=>iz l)
end
theorem agQ{t:ah}(h:(t.s.kind==18)=true):wa t=(match ff t.th with
   | .error e=>some e
   | .ok _=>(match iz t.th with
     |some e=>some e
     |none=>(match ff t.el with
      | .error e=>some e
      | .ok _=>iz t.el))):=by
 cases t with
 |mk s a b=>
  have h:(s.kind==18)=true:=h
  simp only[wa,h,if_true];rfl
theorem ai1{t:ah}(h:(t.s.kind==18)=false):wa t=none:=by
 cases t with
 |mk s a b=>
  have h:(s.kind==18)=false:=h
  simp only[wa,h];rfl
theorem Kf:∀(a b:List ah),iz (a++b)=(match iz a with|some e=>some e|none=>iz b)
 |[],b=>rfl
 |t::a,b=>by
  rw[List.cons_append,iz,iz]
  cases wa t with
  |some e=>rfl
  |none=>exact Kf a b
theorem Kg{l:List ah}{i:Nat}{t:ah}{e:mH}(h:l[i]? =some t)(hi:iz (l.take i)=none)(ht:wa t=some e):iz l=some e:=by
 have:iz (l.take (i+1))=some e:=by rw[dX h,Kf,hi];simp only[iz,ht]
 rw[←List.take_append_drop (i+1) l,Kf,this]
theorem WJ{l:List ah}{i:Nat}{t:ah}(h:l[i]? =some t)(hi:iz (l.take i)=none)(ht:wa t=none):iz (l.take (i+1))=none:=by
 rw[dX h,Kf,hi];simp only[iz,ht]
mutual
theorem ai2:∀(t:ah)(out:List az)(m u:Int)(th:Bool),(∃o,gT t out m u th=.ok o∧wa t=none)∨(∃e,gT t out m u th=.error e∧wa t=some e)
 | .mk s a b,out,m,u,th=>by
   simp only[gT,wa]
   split
   ·cases ff a with
    |error e=>exact .inr ⟨e,rfl,rfl⟩
    |ok sy=>
     simp only
     rcases GK a (out++[⟨m,u,th,sy,[],true,false⟩]) m out.length true with⟨o,h1,h2⟩|⟨e,h1,h2⟩
     ·simp only[h1,h2]
      cases ff b with
      |error e=>exact .inr ⟨e,rfl,rfl⟩
      |ok kQ=>
       simp only
       exact GK b (jE o out.length kQ) m out.length false
     ·simp only[h1,h2]
      exact .inr ⟨e,rfl,rfl⟩
   ·exact .inl ⟨out,rfl,rfl⟩
theorem GK:∀(l:List ah)(out:List az)(m u:Int)(th:Bool),(∃o,gL l out m u th=.ok o∧iz l=none)∨(∃e,gL l out m u th=.error e∧iz l=some e)
 |[],out,m,u,th=>.inl ⟨out,rfl,rfl⟩
 |t::l,out,m,u,th=>by
  simp only[gL,iz]
  rcases ai2 t out m u th with⟨o,h1,h2⟩|⟨e,h1,h2⟩
  ·simp only[h1,h2]
   exact GK l o m u th
  ·simp only[h1,h2]
   exact .inr ⟨e,rfl,rfl⟩
end
theorem PH{l:List ah}{c:Int}{s:aq}(h:iz l=some (c,s)):c≠0:=by
 rcases GK l [] 0 0 true with⟨o,h1,h2⟩|⟨e,h1,h2⟩
 ·rw[h]at h2;cases h2
 ·rw[h]at h2;cases h2;exact AD l h1
def xA(o:Option mH):D:=match o with
 |some (c,s)=>jl c s
 |none=>eI
def MO(ts:List ah):Prop:=∀{L:List D}{x:D},aW 55 L x→fe ts L→de ts→aG Try.prog gl 56 [.d x] (.d (xA (iz ts)))
theorem aa1(ts:List ah)(IH:∀js,ah.dE js<ah.dE ts→MO js):MO ts:=by
 intro L x hx hs cm
 have h0:=ah.tG ts
 have ct:ts.length≤maxLen:=Nat.le_trans (Nat.le_trans h0 cm.sz) (by decide)
 refine cM bG (cb (fn:=Try.f56) (by kernel_rfl) (by kernel_rfl) (by kernel_rfl)) (h:=h56) ?_;rw[ahA];intro bJ
 simp only[sS,sT,sZ]
 refine np (fun i=>iz (ts.take i)=none) (fun i=>[.d x,.d (.int .i64 ((i:Nat):Int))]) (fun i=>[[.d (.int .i64 0),.d (.int .i64 0),.d (.int .i64 0),.d (.str [])]]) ts.length rfl (fun i hi hJ I hI=>?_) (fun hJ I=>?_)
 ·simp only[hx.len,hs.len,sS,sT,sZ]
  refine And.intro (fun _=>?_) (fun h=>absurd h (by simp;omega))
  obtain⟨t,ht⟩:=get_some hi
  obtain⟨y,hy,eU⟩:=hs.at_ ht
  obtain⟨c,cD,al,yt,ye,Lt,Le,hc⟩:=eU.out
  have hz:=ah.AA ht
  have Bb:=t.Ag
  have qv:=cm.th (List.mem_of_getElem? ht)
  simp only[hx.at hy,km,hc.l0,eQ,sS,sT,sZ]
  refine And.intro (fun hk=>?_) (fun hk=>?_)
  ·have bU:(t.s.kind==18)=false:=by simpa[bne]using hk
   refine aU (br hi ct) ?_
   exact hI (WJ ht hJ (ai1 bU))
  have bU:(t.s.kind==18)=true:=by simpa[bne]using hk
  have tt:=agQ bU
  intro I3 gm
  refine gm _ _ ?_
  simp only[hx.at hy,km,hc.Iu,hc.Iv,sS,sT,sZ]
  refine And.intro (fun _=>?_) (fun h=>absurd h (by decide))
  refine And.intro (fun h=>absurd h (by decide)) (fun _=>?_)
  have pr:=Pa qv.1 hc.jN hc.kM
  cases gV:ff t.th with
  |error e=>
   obtain⟨c0,s0⟩:=e
   rw[gV]at pr tt
   refine call2 pr ?_
   simp only[jl,dq,dr,z4,dC,fZ,eQ,n9 (yh gV),sS,sT,sZ]
   refine And.intro (fun _=>?_) (fun h=>absurd h (by decide))
   rw[Kg ht hJ tt]
   rfl
  |ok sy=>
  rw[gV]at pr tt
  refine call2 pr ?_
  simp only[eI,dq,dr,z4,dC,fZ,eQ,sS,sT,sZ]
  refine And.intro (fun h=>absurd h (by decide)) (fun _=>?_)
  refine dZ (IH t.th (by omega) hc.jN hc.kM qv.1) ?_
  cases xF:iz t.th with
  |some e=>
   obtain⟨c0,s0⟩:=e
   simp only[xF]at tt
   simp only[xA,jl,dq,dr,z4,dC,fZ,eQ,n9 (PH xF),sS,sT,sZ]
   refine And.intro (fun _=>?_) (fun h=>absurd h (by decide))
   rw[Kg ht hJ tt]
  |none=>
  simp only[xF]at tt
  simp only[xA,eI,dq,dr,z4,dC,fZ,eQ,sS,sT,sZ]
  refine And.intro (fun h=>absurd h (by decide)) (fun _=>?_)
  refine aU (show ai none .add (.d (.int .i64 0)) (.d (.int .i64 1))=some (.d (.int .i64 1)) from rfl) ?_
  refine gm _ _ ?_
  simp only[hx.at hy,km,hc.Iu,hc.Iv,sS,sT,sZ]
  refine And.intro (fun _=>?_) (fun h=>absurd h (by decide))
  refine And.intro (fun _=>?_) (fun h=>absurd h (by decide))
  have pt:=Pa qv.2 hc.fU hc.j1
  cases jo:ff t.el with
  |error e=>
   obtain⟨c0,s0⟩:=e
   rw[jo]at pt tt
   refine call2 pt ?_
   simp only[jl,dq,dr,z4,dC,fZ,eQ,n9 (yh jo),sS,sT,sZ]
   refine And.intro (fun _=>?_) (fun h=>absurd h (by decide))
   rw[Kg ht hJ tt]
   rfl
  |ok kQ=>
  rw[jo]at pt tt
  refine call2 pt ?_
  simp only[eI,dq,dr,z4,dC,fZ,eQ,sS,sT,sZ]
  refine And.intro (fun h=>absurd h (by decide)) (fun _=>?_)
  refine dZ (IH t.el (by omega) hc.fU hc.j1 qv.2) ?_
  cases CB:iz t.el with
  |some e=>
   obtain⟨c0,s0⟩:=e
   simp only[CB]at tt
   simp only[xA,jl,dq,dr,z4,dC,fZ,eQ,n9 (PH CB),sS,sT,sZ]
   refine And.intro (fun _=>?_) (fun h=>absurd h (by decide))
   rw[Kg ht hJ tt]
  |none=>
  simp only[CB]at tt
  simp only[xA,eI,dq,dr,z4,dC,fZ,eQ,sS,sT,sZ]
  refine And.intro (fun h=>absurd h (by decide)) (fun _=>?_)
  refine aU (show ai none .add (.d (.int .i64 1)) (.d (.int .i64 1))=some (.d (.int .i64 2)) from rfl) ?_
  refine gm _ _ ?_
  simp only[sS,sT,sZ]
  refine And.intro (fun h=>absurd h (by decide)) (fun _=>?_)
  refine aU (br hi ct) ?_
  exact hI (WJ ht hJ tt)
 ·simp only[hx.len,hs.len,sS,sT,sZ]
  refine And.intro (fun h=>absurd h (by simp)) (fun _=>?_)
  rw[List.take_length]at hJ
  simp only[yz,uM,dq,dr,fE,dC,sS,sT,sZ]
  rw[hJ]
  rfl
theorem aaF(ts:List ah):MO ts:=by
 have key:∀n ts,ah.dE ts<n→MO ts:=by
  intro n
  induction n with
  |zero=>intro ts h;omega
  |succ n ih=>exact fun ts h=>aa1 ts fun js h'=>ih js (by omega)
 exact fun{L x}=>key _ ts (Nat.lt_succ_self _)
def kR:List bg→Option mH
 |[]=>none
 |m::l=>(match ff m.ay with
  | .error e=>some e
  | .ok _=>(match iz m.ay with
    |some e=>some e
    |none=>kR l))
theorem BT:∀(a b:List bg),kR (a++b)=(match kR a with|some e=>some e|none=>kR b)
 |[],b=>rfl
 |m::a,b=>by
  rw[List.cons_append,kR,kR]
  cases ff m.ay with
  |error e=>rfl
  |ok sy=>
   simp only
   cases iz m.ay with
   |some e=>rfl
   |none=>exact BT a b
theorem Pc:∀(l:List bg)(i:Nat)(out:List az)(os:List aq),(∃o,gz l i out os=.ok o∧kR l=none)∨(∃e,gz l i out os=.error e∧kR l=some e)
 |[],i,out,os=>.inl ⟨_,rfl,rfl⟩
 |m::l,i,out,os=>by
  simp only[gz,kR]
  cases ff m.ay with
  |error e=>exact .inr ⟨e,rfl,rfl⟩
  |ok sy=>
   simp only
   rcases GK m.ay out (i:Int) (-1) true with⟨o,h1,h2⟩|⟨e,h1,h2⟩
   ·simp only[h1,h2]
    exact Pc l (i+1) o (os++sy)
   ·simp only[h1,h2]
    exact .inr ⟨e,rfl,rfl⟩
theorem ai3{l:List bg}{c:Int}{s:aq}(h:kR l=some (c,s)):c≠0:=by
 rcases Pc l 0 [] []with⟨o,h1,h2⟩|⟨e,h1,h2⟩
 ·rw[h]at h2;cases h2
 ·rw[h]at h2;cases h2;exact KB l h1
theorem XF{l:List bg}{i:Nat}{m:bg}{e:mH}(h:l[i]? =some m)(hi:kR (l.take i)=none)(he:kR [m]=some e):kR l=some e:=by
 have:kR (l.take (i+1))=some e:=by rw[dX h,BT,hi];exact he
 rw[←List.take_append_drop (i+1) l,BT,this]
theorem afd{l:List bg}{i:Nat}{m:bg}(h:l[i]? =some m)(hi:kR (l.take i)=none)(he:kR [m]=none):kR (l.take (i+1))=none:=by
 rw[dX h,BT,hi];exact he
theorem XG(m:bg):kR [m]=(match ff m.ay with
  | .error e=>some e
  | .ok _=>iz m.ay):=by
 simp only[kR]
 cases ff m.ay with
 |error e=>rfl
 |ok sy=>simp only;cases iz m.ay<;>rfl
theorem akn(x:D):bP (.aX x 0) 2=some (.aX x 2):=by simp[bP]
theorem abF{l:List bg}{L:List D}{x:D}(hx:aW 3 L x)(hl:o9 l L)(h8:l.length≤8)(hm:∀m∈l,de m.ay):aG Try.prog gl 33 [.d x] (.d (xA (kR l))):=by
 have ct:l.length≤maxLen:=Nat.le_trans h8 (by decide)
 refine cM bG (cb (fn:=Try.f33) (by kernel_rfl) (by kernel_rfl) (by kernel_rfl)) (h:=h33) ?_;rw[ahs];intro bJ
 simp only[sS,sT,sZ]
 refine np (fun i=>kR (l.take i)=none) (fun i=>[.d x,.d (.int .i64 ((i:Nat):Int))]) (fun i=>[[.d (.int .i64 0),.d (.int .i64 0),.d (.int .i64 0),.d (.str [])]]) l.length rfl (fun i hi hJ I hI=>?_) (fun hJ I=>?_)
 ·simp only[hx.len,hl.len,sS,sT,sZ]
  refine And.intro (fun _=>?_) (fun h=>absurd h (by simp;omega))
  obtain⟨m,dc⟩:=get_some hi
  obtain⟨y,hy,gM⟩:=hl.at_ dc
  have cm:=hm m (List.mem_of_getElem? dc)
  have hS:=XE cm gM
  have bY:=XG m
  cases gM with
  |mk xs Ls uc pV=>
  simp only[hx.at hy,DB,sS,sT,sZ]
  cases gV:ff m.ay with
  |error e=>
   obtain⟨c0,s0⟩:=e
   rw[gV]at hS bY
   refine call2 hS ?_
   simp only[jl,dq,dr,z4,dC,fZ,eQ,n9 (yh gV),sS,sT,sZ]
   refine And.intro (fun _=>?_) (fun h=>absurd h (by decide))
   rw[XF dc hJ bY]
   rfl
  |ok sy=>
  rw[gV]at hS bY
  refine call2 hS ?_
  simp only[eI,dq,dr,z4,dC,fZ,eQ,km,PA,sS,sT,sZ]
  refine And.intro (fun h=>absurd h (by decide)) (fun _=>?_)
  refine dZ (aaF m.ay uc pV cm) ?_
  cases xF:iz m.ay with
  |some e=>
   obtain⟨c0,s0⟩:=e
   simp only[xF]at bY
   simp only[xA,jl,dq,dr,z4,dC,fZ,eQ,n9 (PH xF),sS,sT,sZ]
   refine And.intro (fun _=>?_) (fun h=>absurd h (by decide))
   rw[XF dc hJ bY]
  |none=>
  simp only[xF]at bY
  simp only[xA,eI,dq,dr,z4,dC,fZ,eQ,sS,sT,sZ]
  refine And.intro (fun h=>absurd h (by decide)) (fun _=>?_)
  refine aU (br hi ct) ?_
  exact hI (afd dc hJ bY)
 ·simp only[hx.len,hl.len,sS,sT,sZ]
  refine And.intro (fun h=>absurd h (by simp)) (fun _=>?_)
  rw[List.take_length]at hJ
  simp only[yz,uM,dq,dr,fE,dC,sS,sT,sZ]
  rw[hJ]
  rfl
end Go.Proofs.Ytimbllcalipehaa.Ab
namespace Go.Proofs.Ytimbllcalipehaa.Ab
open Go
set_option linter.unusedVariables false
set_option maxRecDepth 4000
theorem YC{A:List aq}{x:aq}{p:List UInt8}:p∈j6 A x↔∃s∈A,eS x s=true∧p∈s.perms:=by
 unfold j6
 rw[List.mem_flatMap]
 constructor
 ·rintro⟨s,hs,hp⟩
  obtain⟨h1,h2⟩:=List.mem_filter.1 hs
  exact⟨s,h1,h2,hp⟩
 ·rintro⟨s,hs,h1,hp⟩
  exact⟨s,List.mem_filter.2 ⟨hs,h1⟩,hp⟩
theorem adS{A B:List aq}(h:∀s∈A,s∈B){x:aq}(hm:xw A x=[]):xw B x=[]:=by
 unfold xw at hm ⊢
 split
 ·rfl
 ·rename_i hn
  rw[if_neg hn]at hm
  split at hm
  ·cases hm
  ·rename_i h1
   rw[if_neg]
   intro h2
   apply h1
   rw[Bool.or_eq_true]at h2 ⊢
   rcases h2 with h2|h2
   ·left
    rw[Bool.not_eq_true',Bool.eq_false_iff]at h2 ⊢
    intro h3
    obtain⟨s,hs,hd⟩:=List.any_eq_true.1 h3
    exact h2 (List.any_eq_true.2 ⟨s,h s hs,hd⟩)
   ·right
    have h2:=of_decide_eq_true h2
    refine decide_eq_true ?_
    obtain⟨p,hp⟩:=List.exists_mem_of_length_pos h2
    obtain⟨SH,MA⟩:=List.mem_filter.1 hp
    refine List.length_pos_of_mem (a:=p) (List.mem_filter.2 ⟨SH,?_⟩)
    rw[Bool.not_eq_true',Bool.eq_false_iff]at MA ⊢
    intro h3
    apply MA
    rw[FP]at h3 ⊢
    obtain⟨s,hs,hd,HH⟩:=YC.1 h3
    exact YC.2 ⟨s,h s hs,hd,HH⟩
theorem VS{A B eF:List aq}(h:∀s∈A,s∈B)(hm:fF eF A=[]):fF eF B=[]:=by
 unfold fF at hm ⊢
 rw[List.flatMap_eq_nil_iff]at hm ⊢
 exact fun x hx=>adS h (hm x hx)
def Zc(os:List aq)(ps:List (List aq))(c i:Nat):List aq:=os++(List.range i).flatMap fun j=>if c.testBit j then ps.getD j []else []
def Rc(os:List aq)(ps:List (List aq))(c:Nat):List aq:=Zc os ps c ps.length
def amG(os:List aq)(ps:List (List aq))(c i:Nat):Bool:=(List.range i).all fun j=> !c.testBit j||(fF (ps.getD j []) (Rc os ps c)).length ==0
def gdF(os:List aq)(ps:List (List aq))(c:Nat):Bool:=amG os ps c ps.length
structure MP(os:List aq)(ps:List (List aq))(l:List az):Prop where
 len:l.length=ps.length
 ok:∀(j:Nat)b,l[j]? =some b→b.up<0∧b.el=[]∧ps[j]? =some b.th
 IG:∀(j:Nat)b,l[j]? =some b→∀c,gdF os ps c=true→c.testBit j=true→b.mark=true
theorem MP.up{os:List aq}{ps:List (List aq)}{l:List az}(h:MP os ps l):∀b∈l,b.up<0:=fun b hb=>by
 obtain⟨j,hj⟩:=List.mem_iff_getElem?.1 hb
 exact(h.ok j b hj).1
theorem VT{l:List az}{os:List aq}{s:aq}(h:s∈os∨∃b∈l,b.here=true∧b.mark=true∧s∈b.th):s∈g9 l os:=by
 unfold g9
 rw[List.mem_append]
 rcases h with h|⟨b,hb,h1,h2,h3⟩
 ·exact .inl h
 ·right
  rw[List.mem_flatMap]
  refine⟨b,hb,?_⟩
  unfold nf
  rw[h1,h2];exact h3
theorem ai4{q:List Nat}:∀{l:List az}{j:Nat}{b:az},(jt l q)[j]? =some b→∃a,l[j]? =some a∧b=if j∈q then{a with mark:=false}else a:=by
 induction q with
 |nil=>intro l j b h;exact⟨b,h,by simp⟩
 |cons i q ih=>
  intro l j b h
  have h':(jt (lK l i) q)[j]? =some b:=h
  obtain⟨a,h1,h2⟩:=ih h'
  unfold lK at h1
  split at h1
  ·rename_i c hc
   rw[List.getElem?_set]at h1
   split at h1
   ·rename_i eY
    subst eY
    split at h1
    ·cases h1
     refine⟨c,hc,?_⟩
     rw[h2]
     simp
    ·cases h1
   ·rename_i eY
    refine⟨a,h1,?_⟩
    rw[h2]
    have:(j∈i::q)↔j∈q:=by simp;intro he;exact absurd he.symm eY
    by_cases hq:j∈q<;>simp[hq,Ne.symm eY]
  ·rename_i hn
   refine⟨a,h1,?_⟩
   rw[h2]
   have eY:i≠j:=fun he=>by subst he;rw[hn]at h1;cases h1
   by_cases hq:j∈q<;>simp[hq,Ne.symm eY]
theorem agR{l:List az}{hv:List aq}{j:Nat}:j∈lF l hv↔∃b,l[j]? =some b∧b.here=true∧b.mark=true∧fF b.th hv≠[]:=by
 unfold lF
 rw[List.mem_filter,List.mem_range]
 constructor
 ·rintro⟨h1,h2⟩
  obtain⟨b,hb⟩:=get_some h1
  unfold gr at h2
  rw[hb]at h2
  simp only[Bool.and_eq_true,decide_eq_true_eq]at h2
  exact⟨b,hb,h2.1,h2.2.1,fun he=>by rw[he]at h2;simp at h2⟩
 ·rintro⟨b,hb,h1,h2,h3⟩
  refine⟨(List.getElem?_eq_some_iff.1 hb).1,?_⟩
  unfold gr
  rw[hb]
  simp only[h1,h2,Bool.true_and,decide_eq_true_eq]
  exact List.length_pos_iff.2 h3
theorem MP.sub{os:List aq}{ps:List (List aq)}{l:List az}(h:MP os ps l)(hh:∀b∈l,b.here=true){c:Nat}(hc:gdF os ps c=true):∀s∈Rc os ps c,s∈g9 l os:=by
 intro s hs
 unfold Rc Zc at hs
 rcases List.mem_append.1 hs with hs|hs
 ·exact VT (.inl hs)
 ·obtain⟨j,hj,hs⟩:=List.mem_flatMap.1 hs
  have ID:=List.mem_range.1 hj
  split at hs
  ·rename_i hb
   obtain⟨b,eh⟩:=get_some (by rw[h.len];exact ID:j<l.length)
   have hm:=List.mem_of_getElem? eh
   refine VT (.inr ⟨b,hm,hh b hm,h.IG j b eh c hc hb,?_⟩)
   rw[List.getD_eq_getElem?_getD,(h.ok j b eh).2.2]at hs
   exact hs
  ·cases hs
def kA(l:List az):Nat:=(l.filter az.mark).length
theorem VU{l:List az}{k:Nat}{b:az}(h:l[k]? =some b):kA (lK l k)+b.mark.toNat=kA l:=by
 have e:lK l k=l.set k {b with mark:=false}:=by unfold lK;rw[h]
 rw[e]
 clear e
 induction l generalizing k with
 |nil=>simp at h
 |cons a l ih=>
  cases k with
  |zero=>
   simp at h;subst h
   simp only[List.set_cons_zero,kA,List.filter_cons]
   cases a.mark<;>simp[Bool.toNat]
  |succ k=>
   have:=ih (k:=k) (by simpa using h)
   simp only[List.set_cons_succ,kA,List.filter_cons]at this ⊢
   split
   ·rw[List.length_cons,List.length_cons];omega
   ·exact this
theorem afe(l:List az)(k:Nat):kA (lK l k)≤kA l:=by
 cases h:l[k]? with
 |none=>unfold lK;rw[h];exact Nat.le_refl _
 |some b=>have:=VU h;omega
theorem XH:∀(q:List Nat)(l:List az),kA (jt l q)≤kA l
 |[],l=>Nat.le_refl _
 |i::q,l=>Nat.le_trans (XH q (lK l i)) (afe l i)
theorem agS{q:List Nat}{l:List az}(hq:q≠[])(h:∀j∈q,∃b,l[j]? =some b∧b.mark=true):kA (jt l q)<kA l:=by
 cases q with
 |nil=>exact absurd rfl hq
 |cons i q=>
  obtain⟨b,h1,h2⟩:=h i (by simp)
  have k1:=VU h1
  have k2:=XH q (lK l i)
  rw[h2]at k1
  have:kA (jt l (i::q))=kA (jt (lK l i) q):=rfl
  simp only[Bool.toNat_true]at k1
  omega
end Go.Proofs.Ytimbllcalipehaa.Ab
namespace Go.Proofs.Ytimbllcalipehaa.Ab
open Go
set_option linter.unusedVariables false
set_option maxRecDepth 4000
theorem jO.mo{a b:List az}(h:jO a b):b.map az.mo=a.map az.mo:=by
 refine List.ext_getElem? fun i=>?_
 rw[List.getElem?_map,List.getElem?_map]
 cases hb:b[i]? with
 |none=>
  have h1:=List.getElem?_eq_none_iff.1 hb
  rw[List.getElem?_eq_none (by rw[←h.1];exact h1)]
 |some y=>
  obtain⟨x,h1,h2,h3,h4,h5,h6⟩:=h.2 i y hb
  rw[h1]
  show some y.mo=some x.mo
  rw[h5]
end Go.Proofs.Ytimbllcalipehaa.Ab
namespace Go.Proofs.Ytimbllcalipehaa.Ab
open Go
set_option linter.unusedVariables false
set_option maxRecDepth 4000
def amH(B:List az)(k:Nat)(m u:Int)(th:Bool)(a b:List ah):Prop:=∃bl,B[k]? =some bl∧bl.mo=m∧bl.up=u∧bl.uD=th∧bl.th=eM a∧bl.el=eM b
mutual
def uH(B:List az):ah→Nat→Int→Int→Bool→Prop
 | .mk s a b,k,m,u,th=>if s.kind==18 then amH B k m u th a b∧rR B a (k+1) m (k:Int) true∧rR B b (k+1+ah.aE a) m (k:Int) false else True
def rR(B:List az):List ah→Nat→Int→Int→Bool→Prop
 |[],_,_,_,_=>True
 |t::l,k,m,u,th=>uH B t k m u th∧rR B l (k+t.nb) m u th
end
def wI(B B':List az)(k n:Nat):Prop:=∀j,k≤j→j<k+n→∀b,B[j]? =some b→∃b',B'[j]? =some b'∧b'.mo=b.mo∧b'.up=b.up∧b'.uD=b.uD∧b'.th=b.th∧b'.el=b.el
theorem wI.sub{B B':List az}{k n k' n':Nat}(h:wI B B' k n)(h1:k≤k')(h2:k'+n'≤k+n):wI B B' k' n':=fun j hj rC=>h j (by omega) (by omega)
mutual
theorem WK:∀(t:ah){B B':List az}{k:Nat}{m u:Int}{th:Bool},wI B B' k t.nb→uH B t k m u th→uH B' t k m u th
 | .mk s a b,B,B',k,m,u,th,hs,h=>by
   simp only[uH]at h ⊢
   by_cases hk:(s.kind==18)=true
   ·rw[if_pos hk]at h ⊢
    have fW:(ah.mk s a b).nb =1+ah.aE a+ah.aE b:=by rw[ah.nb,if_pos hk]
    rw[fW]at hs
    obtain⟨⟨bl,h1,h2,h3,h4,h5,h6⟩,ha,hb⟩:=h
    refine⟨?_,DE a (hs.sub (by omega) (by omega)) ha,DE b (hs.sub (by omega) (by omega)) hb⟩
    obtain⟨b',k1,k2,k3,k4,k5,k6⟩:=hs k (Nat.le_refl _) (by omega) bl h1
    exact⟨b',k1,k2.trans h2,k3.trans h3,k4.trans h4,k5.trans h5,k6.trans h6⟩
   ·rw[if_neg hk];trivial
theorem DE:∀(l:List ah){B B':List az}{k:Nat}{m u:Int}{th:Bool},wI B B' k (ah.aE l)→rR B l k m u th→rR B' l k m u th
 |[],_,_,_,_,_,_,_,_=>trivial
 |t::l,B,B',k,m,u,th,hs,h=>by
  simp only[ah.aE]at hs
  exact⟨WK t (hs.sub (Nat.le_refl _) (by omega)) h.1,DE l (hs.sub (by omega) (by omega)) h.2⟩
end
theorem wI.of_eq{B B':List az}{k n:Nat}(h:∀j,k≤j→j<k+n→B'[j]? =B[j]?):wI B B' k n:=fun j h1 h2 b hb=>⟨b,(h j h1 h2).trans hb,rfl,rfl,rfl,rfl,rfl⟩
mutual
theorem ako:∀(t:ah){out o:List az}{m u:Int}{th:Bool},gT t out m u th=.ok o→uH o t out.length m u th
 | .mk s a b,out,o,m,u,th,h=>by
   simp only[gT]at h
   simp only[uH]
   split at h
   ·rename_i hk
    rw[if_pos hk]
    split at h
    ·cases h
    ·rename_i sy gV
     split at h
     ·cases h
     ·rename_i o2 h2
      split at h
      ·cases h
      ·rename_i kQ jo
       have k1:=qK a h2
       have k2:=qK b h
       have i1:=KY a h2
       have i2:=KY b h
       have rD:(out++[az.mk m u th sy [] true false]).length =out.length+1:=by simp
       have sQ:(jE o2 out.length kQ).length =out.length+1+ah.aE a:=by rw[Ds,k1.1,rD]
       rw[rD]at i1
       rw[sQ]at i2
       have rO:o2[out.length]? =some (az.mk m u th sy [] true false):=by rw[k1.2 _ (by omega)];simp
       have SD:(jE o2 out.length kQ)[out.length]? =some (az.mk m u th sy kQ true false):=by
        unfold jE;rw[rO];simp only;rw[List.getElem?_set_self (by rw[k1.1];omega)]
       refine⟨⟨_,(k2.2 _ (by omega)).trans SD,rfl,rfl,rfl,by simp[eM,gV],by simp[eM,jo]⟩,DE a (wI.of_eq fun j h1 h3=>?_) i1,i2⟩
       rw[k2.2 j (by omega),Wx _ (by omega)]
   ·rename_i hk
    rw[if_neg hk];trivial
theorem KY:∀(l:List ah){out o:List az}{m u:Int}{th:Bool},gL l out m u th=.ok o→rR o l out.length m u th
 |[],_,_,_,_,_,_=>trivial
 |t::l,out,o,m,u,th,h=>by
  simp only[gL]at h
  split at h
  ·cases h
  ·rename_i o1 h1
   have k1:=Ka t h1
   have k2:=qK l h
   have i2:=KY l h
   rw[k1.1]at i2
   exact⟨WK t (wI.of_eq fun j h2 h3=>k2.2 j (by rw[k1.1];omega)) (ako t h1),i2⟩
end
def lp(B:List az):Prop:=∀(j:Nat)b,B[j]? =some b→b.up<(j:Int)
theorem lp.app{B:List az}(h:lp B){b:az}(hb:b.up<(B.length:Int)):lp (B++[b]):=fun j x hx=>by
 rw[List.getElem?_append]at hx
 split at hx
 ·exact h j x hx
 ·rename_i hj
  have A1:j-B.length=0:=by have:=(List.getElem?_eq_some_iff.1 hx).1;simp at this;omega
  rw[A1]at hx
  simp at hx;subst hx;omega
theorem lp.jE{B:List az}(h:lp B)(n:Nat)(sy:List aq):lp (jE B n sy):=fun j x hx=>by
 unfold Ab.jE at hx
 split at hx
 ·rename_i b hb
  rw[List.getElem?_set]at hx
  split at hx
  ·rename_i hnj
   subst hnj
   split at hx
   ·cases hx;exact h n b hb
   ·cases hx
  ·exact h j x hx
 ·exact h j x hx
mutual
theorem akp:∀(t:ah){out o:List az}{m u:Int}{th:Bool},u<(out.length:Int)→lp out→gT t out m u th=.ok o→lp o
 | .mk s a b,out,o,m,u,th,hu,hB,h=>by
   simp only[gT]at h
   split at h
   ·split at h
    ·cases h
    ·rename_i sy gV
     split at h
     ·cases h
     ·rename_i o2 h2
      split at h
      ·cases h
      ·rename_i kQ jo
       have k1:=qK a h2
       refine KZ b ?_ ((KZ a (by simp;omega) (hB.app (by exact hu)) h2).jE _ _) h
       rw[Ds,k1.1];simp;omega
   ·cases h;exact hB
theorem KZ:∀(l:List ah){out o:List az}{m u:Int}{th:Bool},u<(out.length:Int)→lp out→gL l out m u th=.ok o→lp o
 |[],_,_,_,_,_,_,hB,h=>by simp only[gL]at h;cases h;exact hB
 |t::l,out,o,m,u,th,hu,hB,h=>by
  simp only[gL]at h
  split at h
  ·cases h
  ·rename_i o1 h1
   have k1:=Ka t h1
   exact KZ l (by rw[k1.1];omega) (akp t hu hB h1) h
end
mutual
theorem agT:∀(t:ah){out o:List az}{m u:Int}{th:Bool},(∀b∈out,b.mark=true)→gT t out m u th=.ok o→∀b∈o,b.mark=true
 | .mk s a b,out,o,m,u,th,hB,h=>by
   simp only[gT]at h
   split at h
   ·split at h
    ·cases h
    ·rename_i sy gV
     split at h
     ·cases h
     ·rename_i o2 h2
      split at h
      ·cases h
      ·have i1:=Kh a (out:=out++[az.mk m u th sy [] true false]) (fun b hb=>by
        rcases List.mem_append.1 hb with hb|hb
        ·exact hB b hb
        ·simp at hb;subst hb;rfl) h2
       refine Kh b (fun b hb=>?_) h
       unfold jE at hb
       split at hb
       ·rename_i c hc
        rcases List.mem_or_eq_of_mem_set hb with hb|hb
        ·exact i1 b hb
        ·subst hb;exact i1 c (List.mem_of_getElem? hc)
       ·exact i1 b hb
   ·cases h;exact hB
theorem Kh:∀(l:List ah){out o:List az}{m u:Int}{th:Bool},(∀b∈out,b.mark=true)→gL l out m u th=.ok o→∀b∈o,b.mark=true
 |[],_,_,_,_,_,hB,h=>by simp only[gL]at h;cases h;exact hB
 |t::l,out,o,m,u,th,hB,h=>by
  simp only[gL]at h
  split at h
  ·cases h
  ·rename_i o1 h1
   exact Kh l (agT t hB h1) h
end
def aT:List bg→Nat
 |[]=>0
 |m::l=>ah.aE m.ay+aT l
theorem N9:∀(a b:List bg),aT (a++b)=aT a+aT b
 |[],b=>by simp[aT]
 |m::a,b=>by rw[List.cons_append,aT,aT,N9 a b];omega
theorem NL{l:List bg}{i:Nat}{m:bg}(h:l[i]? =some m):aT (l.take (i+1))=aT (l.take i)+ah.aE m.ay:=by
 rw[dX h,N9];simp[aT]
theorem OH{l:List bg}{i:Nat}{m:bg}(h:l[i]? =some m):aT (l.take i)+ah.aE m.ay≤aT l:=by
 rw[←NL h]
 have:=N9 (l.take (i+1)) (l.drop (i+1))
 rw[List.take_append_drop]at this
 omega
def wb(l:List bg):List aq:=l.flatMap fun m=>eM m.ay
theorem YD:∀(l:List bg)(i:Nat){out o:List az}{os nV:List aq},gz l i out os=.ok (o,nV)→lp out→(∀b∈out,b.mark=true)→
  lp o∧(∀b∈o,b.mark=true)∧(∀(j:Nat)m,l[j]? =some m→rR o m.ay (out.length+aT (l.take j)) ((i+j:Nat):Int) (-1) true)∧nV=os++wb l∧Q2 out o (aT l)
 |[],i,out,o,os,nV,h,hu,hm=>by
  simp only[gz]at h
  cases h
  exact⟨hu,hm,fun j m hj=>by simp at hj,by simp[wb],rfl,fun _ _=>rfl⟩
 |m::l,i,out,o,os,nV,h,hu,hm=>by
  simp only[gz]at h
  split at h
  ·cases h
  ·rename_i sy hb
   split at h
   ·cases h
   ·rename_i o1 h1
    have hg:=qK m.ay h1
    obtain⟨k1,k2,k3,k4,k5⟩:=YD l (i+1) h (KZ m.ay (by omega) hu h1) (Kh m.ay hm h1)
    refine⟨k1,k2,fun j m' hj=>?_,?_,?_,fun j hj=>?_⟩
    ·cases j with
     |zero=>
      simp at hj;subst hj
      simp only[List.take_zero,aT,Nat.add_zero]
      refine DE m.ay (wI.of_eq fun j h1 h2=>?_) (KY m.ay h1)
      exact k5.2 j (by rw[hg.1];omega)
     |succ j=>
      have:=k3 j m' (by simpa using hj)
      rw[hg.1]at this
      simp only[List.take_succ_cons,aT]
      rw[show out.length+(ah.aE m.ay+aT (l.take j))=out.length+ah.aE m.ay+aT (l.take j) by omega,show i+(j+1)=i+1+j by omega]
      exact this
    ·rw[k4]
     have:eM m.ay=sy:=by simp[eM,hb]
     simp[wb,this]
    ·rw[k5.1,hg.1,aT];omega
    ·rw[k5.2 j (by rw[hg.1];omega),hg.2 j hj]
theorem WL{l:List az}(hu:lp l):∀(i:Nat),i≤l.length→(∀(j:Nat),i≤j→(kz l i)[j]? =l[j]?)∧∀(j:Nat)b,j<i→l[j]? =some b→(kz l i)[j]? =some {b with here:=sg (kz l i) b}
 |0,_=>⟨fun j _=>rfl,fun j b h=>by omega⟩
 |i+1,hi=>by
  obtain⟨h1,h2⟩:=WL hu i (by omega)
  obtain⟨b,hb⟩:=get_some (show i<l.length by omega)
  have kJ:(kz l i)[i]? =some b:=(h1 i (Nat.le_refl _)).trans hb
  have aY:kz l (i+1)=(kz l i).set i {b with here:=sg (kz l i) b}:=by rw[JC];unfold yA;rw[kJ]
  have sV:∀c:az,c.up<(i:Int)→sg (kz l (i+1)) c=sg (kz l i) c:=fun c hc=>by
   unfold sg
   split
   ·rfl
   ·rename_i hn
    rw[aY,List.getElem?_set_ne (by omega)]
  refine⟨fun j hj=>?_,fun j c hj hc=>?_⟩
  ·rw[aY,List.getElem?_set_ne (by omega)];exact h1 j (by omega)
  ·by_cases mA:j=i
   ·subst mA
    rw[hb]at hc;cases hc
    rw[sV b (hu j b hb),aY,List.getElem?_set_self (by rw[BL];omega)]
   ·rw[sV c (by have:=hu j c hc;omega),aY,List.getElem?_set_ne (fun hh=>mA hh.symm)]
    exact h2 j c (by omega) hc
theorem Oa{l:List az}(hu:lp l){j:Nat}{b:az}(h:l[j]? =some b):(aV l)[j]? =some {b with here:=sg (aV l) b}:=
 (WL hu l.length (Nat.le_refl _)).2 j b (List.getElem?_eq_some_iff.1 h).1 h
def hr(P:List az)(n:Nat):Bool:=match P[n]? with
 |some b=>b.here
 |none=>false
def dD(P:List az)(n:Nat):Bool:=match P[n]? with
 |some b=>b.mark
 |none=>false
def wc(P:List az)(u:Int)(th:Bool):Bool:=if u<0 then true else hr P u.toNat&&(dD P u.toNat==th)
def PI(P:List az):Prop:=∀(j:Nat)b,P[j]? =some b→b.here=wc P b.up b.uD
theorem ai5{l:List az}(hu:lp l):PI (aV l):=fun j b hb=>by
 have hj:=(List.getElem?_eq_some_iff.1 hb).1
 have hl:(aV l).length =l.length:=(uQ l).1
 obtain⟨c,hc⟩:=get_some (show j<l.length by omega)
 have:=Oa hu hc
 rw[hb]at this
 cases this
 simp only[sg,wc,hr,dD]
 split
 ·rfl
 ·cases (aV l)[c.up.toNat]? with
  |none=>rfl
  |some p=>rfl
mutual
theorem agU:∀(t:ah){P:List az}{base k:Nat}{m u:Int}{th:Bool}{mk out:List Bool},PI P→uH P t (base+k) m u th→(∀j,k≤j→j<k+t.nb→mk.getD j false=dD P (base+j))→k+t.nb≤out.length→
  (wc P u th=false→∀j,k≤j→j<k+t.nb→hr P (base+j)=false)∧
  (wc P u th=true→∀j,(qw t k mk out).getD j false=if k≤j∧j<k+t.nb then out.getD j false||hr P (base+j)else out.getD j false)
 | .mk s a b,P,base,k,m,u,th,mk,out,hP,hB,hm,hl=>by
   by_cases hk:(s.kind==18)=true
   ·have fW:(ah.mk s a b).nb =1+ah.aE a+ah.aE b:=by rw[ah.nb,if_pos hk]
    simp only[uH]at hB
    rw[if_pos hk]at hB
    rw[fW]at hm hl ⊢
    obtain⟨⟨bl,h1,h2,h3,h4,h5,h6⟩,ha,hb⟩:=hB
    have hh:=hP _ _ h1
    rw[h3,h4]at hh
    have Ft:hr P (base+k)=wc P u th:=by simp only[hr,h1];exact hh
    have mz:dD P (base+k)=bl.mark:=by simp only[dD,h1]
    have Fj:∀v,wc P ((base+k:Nat):Int) v=(wc P u th&&(bl.mark==v)):=fun v=>by
     have h0:¬(((base+k:Nat):Int)<0):=by omega
     simp only[wc,h0,if_false,Int.toNat_natCast]
     rw[Ft,mz];rfl
    have ea:base+k+1=base+(k+1):=by omega
    have eb:base+k+1+ah.aE a=base+(k+1+ah.aE a):=by omega
    rw[ea]at ha
    rw[eb]at hb
    have hma:∀j,k+1≤j→j<k+1+ah.aE a→mk.getD j false=dD P (base+j):=fun j h1 h2=>hm j (by omega) (by omega)
    have hmb:∀j,k+1+ah.aE a≤j→j<k+1+ah.aE a+ah.aE b→mk.getD j false=dD P (base+j):=fun j h1 h2=>hm j (by omega) (by omega)
    have ia:=JY a (mk:=mk) (out:=out.set k true) hP ha hma (by rw[List.length_set];omega)
    have ib:=JY b (mk:=mk) (out:=out.set k true) hP hb hmb (by rw[List.length_set];omega)
    rw[Fj]at ia ib
    have eW:∀j,(out.set k true).getD j false=if j=k then true else out.getD j false:=fun j=>by
     simp only[List.getD_eq_getElem?_getD,List.getElem?_set]
     by_cases kL:j=k
     ·subst kL;simp[show j<out.length by omega]
     ·rw[if_neg (fun h=>kL h.symm),if_neg kL]
    constructor
    ·intro ho j hj1 rC
     rw[ho]at ia ib Ft
     by_cases kL:j=k
     ·subst kL;exact Ft
     ·by_cases Fu:j<k+1+ah.aE a
      ·exact ia.1 (by simp) j (by omega) Fu
      ·exact ib.1 (by simp) j (by omega) (by omega)
    ·intro ho j
     rw[ho]at ia ib Ft
     have hy:=XC (t:=.mk s a b) hk k mk out
     have amI:mk.getD k false=bl.mark:=by rw[hm k (by omega) (by omega),mz]
     rw[amI]at hy
     have jN:(ah.mk s a b).th =a:=rfl
     have fU:(ah.mk s a b).el =b:=rfl
     rw[jN,fU]at hy
     rw[hy]
     cases pf:bl.mark with
     |true=>
      rw[pf]at ia ib
      simp only[if_true]
      rw[ia.2 (by simp) j,eW]
      by_cases kL:j=k
      ·subst kL
       rw[if_neg (by omega),if_pos rfl,if_pos (by omega),Ft];simp
      ·rw[if_neg kL]
       by_cases Fu:k+1≤j∧j<k+1+ah.aE a
       ·rw[if_pos Fu,if_pos (by omega)]
       ·rw[if_neg Fu]
        split
        ·rw[ib.1 (by simp) j (by omega) (by omega)];simp
        ·rfl
     |false=>
      rw[pf]at ia ib
      simp only[Bool.false_eq_true,if_false]
      rw[ib.2 (by simp) j,eW]
      by_cases kL:j=k
      ·subst kL
       rw[if_neg (by omega),if_pos rfl,if_pos (by omega),Ft];simp
      ·rw[if_neg kL]
       by_cases hjb:k+1+ah.aE a≤j∧j<k+1+ah.aE a+ah.aE b
       ·rw[if_pos hjb,if_pos (by omega)]
       ·rw[if_neg hjb]
        split
        ·rw[ia.1 (by simp) j (by omega) (by omega)];simp
        ·rfl
   ·have fW:(ah.mk s a b).nb =0:=by rw[ah.nb,if_neg hk]
    rw[fW,YB (t:=.mk s a b) (show(s.kind==18)=false by simpa using hk)]
    exact⟨fun _ j h1 h2=>by omega,fun _ j=>by rw[if_neg (by omega)]⟩
theorem JY:∀(l:List ah){P:List az}{base k:Nat}{m u:Int}{th:Bool}{mk out:List Bool},PI P→rR P l (base+k) m u th→(∀j,k≤j→j<k+ah.aE l→mk.getD j false=dD P (base+j))→k+ah.aE l≤out.length→
  (wc P u th=false→∀j,k≤j→j<k+ah.aE l→hr P (base+j)=false)∧
  (wc P u th=true→∀j,(qz l k mk out).getD j false=if k≤j∧j<k+ah.aE l then out.getD j false||hr P (base+j)else out.getD j false)
 |[],P,base,k,m,u,th,mk,out,hP,hB,hm,hl=>⟨fun _ j h1 h2=>by simp only[ah.aE]at h2;omega,fun _ j=>by rw[if_neg (by simp only[ah.aE];omega)];rfl⟩
 |t::l,P,base,k,m,u,th,mk,out,hP,hB,hm,hl=>by
  have Ff:ah.aE (t::l)=t.nb+ah.aE l:=rfl
  rw[Ff]at hm hl ⊢
  obtain⟨pr,pt⟩:=hB
  rw[Nat.add_assoc]at pt
  have it:=agU t (mk:=mk) (out:=out) hP pr (fun j h1 h2=>hm j h1 (by omega)) (by omega)
  have il:=JY l (mk:=mk) (out:=qw t k mk out) hP pt (fun j h1 h2=>hm j (by omega) (by omega)) (by rw[O8];omega)
  constructor
  ·intro ho j h1 h2
   by_cases hj:j<k+t.nb
   ·exact it.1 ho j h1 hj
   ·exact il.1 ho j (by omega) (by omega)
  ·intro ho j
   rw[qz,il.2 ho j,it.2 ho j]
   by_cases h1:k+t.nb≤j∧j<k+t.nb+ah.aE l
   ·rw[if_pos h1,if_neg (show ¬(k≤j∧j<k+t.nb) by omega),if_pos (show k≤j∧j<k+(t.nb+ah.aE l) by omega)]
   ·rw[if_neg h1]
    by_cases h2:k≤j∧j<k+t.nb
    ·rw[if_pos h2,if_pos (show k≤j∧j<k+(t.nb+ah.aE l) by omega)]
    ·rw[if_neg h2,if_neg (show ¬(k≤j∧j<k+(t.nb+ah.aE l)) by omega)]
end
end Go.Proofs.Ytimbllcalipehaa.Ab
namespace Go.Proofs.Ytimbllcalipehaa.Ab
open Go
set_option linter.unusedVariables false
set_option maxRecDepth 4000
def dN(f:Nat→Bool)(base n:Nat):List Bool:=(List.range n).map fun j=>f (base+j)
theorem jR(f:Nat→Bool)(base n:Nat):(dN f base n).length =n:=by simp[dN]
theorem ns{f:Nat→Bool}{base n j:Nat}(h:j<n):(dN f base n)[j]? =some (f (base+j)):=by simp[dN,h]
theorem Jo{f g:Nat→Bool}{base n:Nat}(h:∀j,j<n→f (base+j)=g (base+j)):dN f base n=dN g base n:=List.map_congr_left fun j hj=>h j (by simpa using hj)
def rN:List bg→Nat→(Nat→Bool)→List (List Bool)
 |[],_,_=>[]
 |m::l,b,f=>dN f b (ah.aE m.ay)::rN l (b+ah.aE m.ay) f
theorem GL:∀(l:List bg)(b:Nat)(f:Nat→Bool),(rN l b f).length =l.length
 |[],_,_=>rfl
 |m::l,b,f=>by rw[rN,List.length_cons,GL l,List.length_cons]
theorem xb:∀{l:List bg}(b:Nat)(f:Nat→Bool){i:Nat}{m:bg},l[i]? =some m→(rN l b f)[i]? =some (dN f (b+aT (l.take i)) (ah.aE m.ay))
 |[],b,f,i,m,h=>by simp at h
 |m'::l,b,f,0,m,h=>by simp at h;subst h;simp[rN,aT]
 |m'::l,b,f,i+1,m,h=>by
  have:=xb (l:=l) (b+ah.aE m'.ay) f (i:=i) (m:=m) (by simpa using h)
  simp only[rN,List.getElem?_cons_succ,List.take_succ_cons,aT]
  rw[this,Nat.add_assoc]
theorem FX:∀(l:List bg){b:Nat}{f g:Nat→Bool},(∀x,b≤x→x<b+aT l→f x=g x)→rN l b f=rN l b g
 |[],_,_,_,_=>rfl
 |m::l,b,f,g,h=>by
  simp only[aT]at h
  rw[rN,rN,Jo (fun j hj=>h (b+j) (by omega) (by omega)),FX l (fun x h1 h2=>h x (by omega) (by omega))]
theorem YE:∀{l:List bg}(b:Nat)(f:Nat→Bool){i j:Nat}{m:bg}(v:Bool),l[i]? =some m→j<ah.aE m.ay→
  (rN l b f).set i ((dN f (b+aT (l.take i)) (ah.aE m.ay)).set j v)=rN l b (fun x=>if x=b+aT (l.take i)+j then v else f x)
 |[],b,f,i,j,m,v,h,hj=>by simp at h
 |m'::l,b,f,0,j,m,v,h,hj=>by
  simp at h;subst h
  simp only[rN,List.take_zero,aT,Nat.add_zero,List.set_cons_zero]
  congr 1
  ·refine List.ext_getElem? fun k=>?_
   rw[List.getElem?_set,jR]
   by_cases hk:k<ah.aE m'.ay
   ·rw[ns hk]
    by_cases kL:j=k
    ·subst kL;rw[if_pos rfl,if_pos hk,ns hk,if_pos rfl]
    ·rw[if_neg kL,ns hk,if_neg (by omega)]
   ·have h1:∀g:Nat→Bool,(dN g b (ah.aE m'.ay))[k]? =none:=fun g=>List.getElem?_eq_none (by rw[jR];omega)
    rw[h1,h1,if_neg (by omega)]
  ·exact FX l (fun x h1 h2=>by rw[if_neg (by omega)])
 |m'::l,b,f,i+1,j,m,v,h,hj=>by
  have ih:=YE (l:=l) (b+ah.aE m'.ay) f (i:=i) (j:=j) (m:=m) v (by simpa using h) hj
  simp only[rN,List.take_succ_cons,aT,List.set_cons_succ]
  rw[←Nat.add_assoc,ih]
  congr 1
  exact Jo fun k hk=>by rw[if_neg (by omega)]
theorem XI{B P:List az}(h:jO B P){l:List ah}{k:Nat}{m u:Int}{th:Bool}(hb:rR B l k m u th):rR P l k m u th:=by
 refine DE l (fun j _ _ b HY=>?_) hb
 have hj:=(List.getElem?_eq_some_iff.1 HY).1
 obtain⟨b',eC⟩:=get_some (show j<P.length by rw[h.1];exact hj)
 obtain⟨c,h1,h2,h3,h4,h5,h6⟩:=h.2 j b' eC
 rw[HY]at h1;cases h1
 exact⟨b',eC,h5,h2,h6,h3,h4⟩
theorem lp.xR{B P:List az}(h:jO B P)(hu:lp B):lp P:=fun j b hb=>by
 obtain⟨c,h1,h2,_⟩:=h.2 j b hb
 rw[h2];exact hu j c h1
theorem WM{B:List az}(hu:lp B)(x:Nat):dD (aV B) x=dD B x:=by
 unfold dD
 cases hb:B[x]? with
 |some b=>rw[Oa hu hb]
 |none=>
  have:(aV B)[x]? =none:=List.getElem?_eq_none (by rw[(uQ B).1];exact List.getElem?_eq_none_iff.1 hb)
  rw[this]
theorem WN{B:List az}{ts:List ah}{base:Nat}{mi:Int}(hu:lp B)(hb:rR B ts base mi (-1) true):
  qz ts 0 (dN (dD B) base (ah.aE ts)) (List.replicate (ah.aE ts) false)=dN (hr (aV B)) base (ah.aE ts):=by
 have eC:=XI (uQ B) hb
 have hs:=(JY ts (P:=aV B) (base:=base) (k:=0) (mk:=dN (dD B) base (ah.aE ts)) (out:=List.replicate (ah.aE ts) false) (ai5 hu) (by simpa using eC) (fun j _ h2=>by
  rw[WM hu,List.getD_eq_getElem?_getD,ns (by omega)];rfl) (by simp)).2 (by simp[wc])
 refine List.ext_getElem? fun j=>?_
 by_cases hj:j<ah.aE ts
 ·have h1:=hs j
  rw[if_pos (by omega)]at h1
  have hl:j<(qz ts 0 (dN (dD B) base (ah.aE ts)) (List.replicate (ah.aE ts) false)).length :=by rw[Gp];simpa using hj
  rw[ns hj,List.getElem?_eq_getElem hl]
  rw[List.getD_eq_getElem?_getD,List.getElem?_eq_getElem hl]at h1
  simp only[Option.getD_some]at h1
  rw[h1]
  simp[hj]
 ·rw[List.getElem?_eq_none (by rw[Gp];simp;omega),List.getElem?_eq_none (by rw[jR];omega)]
mutual
theorem ai6:∀(t:ah){P:List az}{k:Nat}{m u:Int}{th:Bool},uH P t k m u th→∀j,k≤j→j<k+t.nb→∃b,P[j]? =some b∧b.mo=m
 | .mk s a b,P,k,m,u,th,h,j,h1,h2=>by
   simp only[uH]at h
   by_cases hk:(s.kind==18)=true
   ·have fW:(ah.mk s a b).nb =1+ah.aE a+ah.aE b:=by rw[ah.nb,if_pos hk]
    rw[if_pos hk]at h
    rw[fW]at h2
    obtain⟨⟨bl,g1,g2,_⟩,ha,hb⟩:=h
    by_cases hj:j=k
    ·subst hj;exact⟨bl,g1,g2⟩
    ·by_cases Fu:j<k+1+ah.aE a
     ·exact GM a ha j (by omega) Fu
     ·exact GM b hb j (by omega) (by omega)
   ·have fW:(ah.mk s a b).nb =0:=by rw[ah.nb,if_neg hk]
    omega
theorem GM:∀(l:List ah){P:List az}{k:Nat}{m u:Int}{th:Bool},rR P l k m u th→∀j,k≤j→j<k+ah.aE l→∃b,P[j]? =some b∧b.mo=m
 |[],_,_,_,_,_,_,j,h1,h2=>by simp only[ah.aE]at h2;omega
 |t::l,P,k,m,u,th,h,j,h1,h2=>by
  simp only[ah.aE]at h2
  by_cases hj:j<k+t.nb
  ·exact ai6 t h.1 j h1 hj
  ·exact GM l h.2 j (by omega) (by omega)
end
theorem acE{α:Type}(p:α→Bool)(l:List α)(a n:Nat)(h:∀x b,l[x]? =some b→(p b=true↔a≤x∧x<a+n)):l.filter p=(l.drop a).take n:=by
 have e:l=l.take a++((l.drop a).take n++(l.drop a).drop n):=by rw[List.take_append_drop,List.take_append_drop]
 have f1:(l.take a).filter p=[]:=by
  rw[List.filter_eq_nil_iff]
  intro b hb
  obtain⟨x,hx⟩:=List.mem_iff_getElem?.1 hb
  rw[List.getElem?_take]at hx
  split at hx
  ·intro hp;have:=(h x b hx).1 hp;omega
  ·cases hx
 have f2:((l.drop a).take n).filter p=(l.drop a).take n:=by
  rw[List.filter_eq_self]
  intro b hb
  obtain⟨x,hx⟩:=List.mem_iff_getElem?.1 hb
  rw[List.getElem?_take]at hx
  split at hx
  ·rw[List.getElem?_drop]at hx;exact(h _ b hx).2 (by omega)
  ·cases hx
 have f3:((l.drop a).drop n).filter p=[]:=by
  rw[List.filter_eq_nil_iff]
  intro b hb
  obtain⟨x,hx⟩:=List.mem_iff_getElem?.1 hb
  rw[List.getElem?_drop,List.getElem?_drop]at hx
  intro hp;have:=(h _ b hx).1 hp;omega
 conv=>lhs;rw[e]
 rw[List.filter_append,List.filter_append,f1,f2,f3];simp
theorem YF:∀(l:List bg){x:Nat},x<aT l→∃i m,l[i]? =some m∧aT (l.take i)≤x∧x<aT (l.take i)+ah.aE m.ay
 |[],x,h=>by simp[aT]at h
 |m::l,x,h=>by
  simp only[aT]at h
  by_cases hx:x<ah.aE m.ay
  ·exact⟨0,m,rfl,by simp[aT],by simpa[aT]using hx⟩
  ·obtain⟨i,m',h1,h2,h3⟩:=YF l (x:=x-ah.aE m.ay) (by omega)
   exact⟨i+1,m',by simpa using h1,by simp only[List.take_succ_cons,aT];omega,by simp only[List.take_succ_cons,aT];omega⟩
structure Bq(l:List bg)(P:List az):Prop where
 bk:∀{i:Nat}{m:bg},l[i]? =some m→rR P m.ay (aT (l.take i)) (i:Int) (-1) true
 len:P.length=aT l
 up:lp P
theorem Bq.xR{l:List bg}{B P:List az}(h:Bq l B)(hs:jO B P):Bq l P:=⟨fun hm=>XI hs (h.bk hm),hs.1.trans h.len,h.up.xR hs⟩
theorem ai7{l:List bg}{P:List az}(h:Bq l P):uE l.length P=rN l 0 (fun x=>hr P x&&dD P x):=by
 refine List.ext_getElem? fun i=>?_
 by_cases hi:i<l.length
 ·obtain⟨m,hm⟩:=get_some hi
  rw[xb 0 _ hm,Nat.zero_add]
  have h1:(uE l.length P)[i]? =some (lk P i):=by simp[uE,hi]
  rw[h1]
  congr 1
  have hle:=OH hm
  unfold lk
  rw[acE _ P (aT (l.take i)) (ah.aE m.ay) (fun x b hb=>?_)]
  ·refine List.ext_getElem? fun j=>?_
   rw[List.getElem?_map]
   by_cases hj:j<ah.aE m.ay
   ·rw[ns hj,List.getElem?_take,if_pos hj,List.getElem?_drop]
    obtain⟨b,hb⟩:=get_some (show aT (l.take i)+j<P.length by rw[h.len];omega)
    simp only[hb,Option.map_some,hr,dD,az.on]
   ·rw[List.getElem?_eq_none (by simp;omega),List.getElem?_eq_none (by rw[jR];omega)];rfl
  ·have hx:x<aT l:=by rw[←h.len];exact(List.getElem?_eq_some_iff.1 hb).1
   obtain⟨i',m',g1,g2,g3⟩:=YF l hx
   obtain⟨b',g4,g5⟩:=GM m'.ay (h.bk g1) x g2 g3
   rw[hb]at g4;cases g4
   rw[g5]
   constructor
   ·intro he
    have CI:((i':Nat):Int)=((i:Nat):Int):=by simpa using he
    have:i'=i:=by omega
    subst this
    rw[hm]at g1;cases g1
    exact⟨g2,g3⟩
   ·intro hh
    obtain⟨b2,k1,k2⟩:=GM m.ay (h.bk hm) x hh.1 hh.2
    rw[hb]at k1;cases k1
    rw[←g5,k2];simp
 ·rw[List.getElem?_eq_none (by rw[Xt];omega),List.getElem?_eq_none (by rw[GL];omega)]
def zl(P:List az)(K:Nat)(es:List RE):Prop:=∀(j:Nat)e,es[j]? =some e→∃(b:az) (ta tb:List ah) (La Lb:List D),P[K+j]? =some b∧aW 55 La e.ya∧fe ta La∧de ta∧b.th=eM ta∧aW 55 Lb e.yb∧fe tb Lb∧de tb∧b.el=eM tb
theorem zl.app{P:List az}{K:Nat}{a b:List RE}(h1:zl P K a)(h2:zl P (K+a.length) b):zl P K (a++b):=fun j e he=>by
 rw[List.getElem?_append]at he
 split at he
 ·exact h1 j e he
 ·rename_i hj
  have:=h2 _ e he
  rw[show K+a.length+(j-a.length)=K+j by omega]at this
  exact this
mutual
theorem reT:∀(t:ah){x:D}{P:List az}{K kk:Nat}{m u:Int}{th:Bool},na t x→de t.th→de t.el→uH P t K m u th→zl P K (cT t x kk)
 | .mk s a b,x,P,K,kk,m,u,th,hx,h1,h2,hb=>by
   simp only[cT]
   simp only[uH]at hb
   by_cases hk:(s.kind==18)=true
   ·rw[if_pos hk]at hb ⊢
    obtain⟨⟨bl,g1,g2,g3,g4,g5,g6⟩,ha,hb⟩:=hb
    obtain⟨c,cD,al,yt,ye,Lt,Le,hc⟩:=hx.out
    obtain⟨e1,e2⟩:=hc.Ti hx
    rw[e1,e2,hc.jN.el,hc.fU.el]
    have i1:=II a (kk:=kk+1) hc.kM h1 ha
    have i2:=II b (kk:=kk+1+ah.aE a) hc.j1 h2 hb
    have hlen:(cL a Lt (kk+1)).length =ah.aE a:=oa a Lt (kk+1)
    have i3:zl P (K+1) (cL a Lt (kk+1)++cL b Le (kk+1+ah.aE a)):=i1.app (by rw[hlen];exact i2)
    intro j e he
    cases j with
    |zero=>
     simp at he;subst he
     exact⟨bl,a,b,Lt,Le,g1,hc.jN,hc.kM,h1,g5,hc.fU,hc.j1,h2,g6⟩
    |succ j=>
     have:=i3 j e (by simpa using he)
     rw[show K+1+j=K+(j+1) by omega]at this
     exact this
   ·rw[if_neg hk]
    intro j e he;simp at he
theorem II:∀(l:List ah){L:List D}{P:List az}{K kk:Nat}{m u:Int}{th:Bool},fe l L→de l→rR P l K m u th→zl P K (cL l L kk)
 |[],L,P,K,kk,m,u,th,hx,hs,hb=>by intro j e he;simp[cL]at he
 |t::l,_,P,K,kk,m,u,th,hx,hs,hb=>by
  cases hx with
  |cons _ x _ L h hl=>
   simp only[cL,List.headD_cons,List.tail_cons]
   have ht:=hs.th (t:=t) (by simp)
   have lR:de l:=⟨by have:=hs.sz;simp only[ah.dE]at this;omega,hs.ok.2⟩
   exact(reT t h ht.1 ht.2 hb.1).app (by rw[PF];exact II l hl lR hb.2)
end
def we(P:List az)(x:Nat):List aq:=match P[x]? with
 |some b=>nf b
 |none=>[]
def uI(P:List az)(base n:Nat):List aq:=(List.range n).flatMap fun k=>we P (base+k)
theorem WO(P:List az)(base n:Nat):uI P base (n+1)=uI P base n++we P (base+n):=by
 unfold uI
 rw[List.range_succ,List.flatMap_append];simp
def lZ:List bg→Nat→List az→List aq
 |[],_,_=>[]
 |m::l,b,P=>eM m.ay++(uI P b (ah.aE m.ay)++lZ l (b+ah.aE m.ay) P)
theorem XJ:∀(a c:List bg)(b:Nat)(P:List az),lZ (a++c) b P=lZ a b P++lZ c (b+aT a) P
 |[],c,b,P=>by simp[lZ,aT]
 |m::a,c,b,P=>by
  rw[List.cons_append,lZ,lZ,XJ a c,aT]
  simp only[List.append_assoc]
  rw[Nat.add_assoc]
theorem WQ{l:List bg}{i:Nat}{m:bg}(h:l[i]? =some m)(P:List az):lZ (l.take (i+1)) 0 P=lZ (l.take i) 0 P++(eM m.ay++uI P (aT (l.take i)) (ah.aE m.ay)):=by
 rw[dX h,XJ]
 simp[lZ]
theorem XK:∀(l:List bg){b:Nat}{P:List az}{s:aq},s∈lZ l b P↔s∈wb l∨∃x,b≤x∧x<b+aT l∧s∈we P x
 |[],b,P,s=>by
  simp only[lZ,wb,List.flatMap_nil,List.not_mem_nil,aT,Nat.add_zero,false_or,false_iff]
  rintro⟨x,h1,h2,_⟩;omega
 |m::l,b,P,s=>by
  have ih:=XK l (b:=b+ah.aE m.ay) (P:=P) (s:=s)
  simp only[lZ,List.mem_append,ih,aT]
  have ho:s∈wb (m::l)↔s∈eM m.ay∨s∈wb l:=by simp[wb]
  rw[ho]
  have pW:s∈uI P b (ah.aE m.ay)↔∃x,b≤x∧x<b+ah.aE m.ay∧s∈we P x:=by
   unfold uI
   rw[List.mem_flatMap]
   constructor
   ·rintro⟨k,h1,h2⟩
    exact⟨b+k,by omega,by have:=List.mem_range.1 h1;omega,h2⟩
   ·rintro⟨x,h1,h2,h3⟩
    exact⟨x-b,List.mem_range.2 (by omega),by rw[show b+(x-b)=x by omega];exact h3⟩
  rw[pW]
  constructor
  ·rintro(h|⟨x,h1,h2,h3⟩|h|⟨x,h1,h2,h3⟩)
   ·exact .inl (.inl h)
   ·exact .inr ⟨x,h1,by omega,h3⟩
   ·exact .inl (.inr h)
   ·exact .inr ⟨x,by omega,by omega,h3⟩
  ·rintro((h|h)|⟨x,h1,h2,h3⟩)
   ·exact .inl h
   ·exact .inr (.inr (.inl h))
   ·by_cases hx:x<b+ah.aE m.ay
    ·exact .inr (.inl ⟨x,h1,hx,h3⟩)
    ·exact .inr (.inr (.inr ⟨x,by omega,by omega,h3⟩))
theorem acF{P:List az}{os:List aq}{s:aq}:s∈g9 P os↔s∈os∨∃x,x<P.length∧s∈we P x:=by
 unfold g9
 rw[List.mem_append,List.mem_flatMap]
 constructor
 ·rintro(h|⟨b,h1,h2⟩)
  ·exact .inl h
  ·obtain⟨x,hx⟩:=List.mem_iff_getElem?.1 h1
   exact .inr ⟨x,(List.getElem?_eq_some_iff.1 hx).1,by unfold we;rw[hx];exact h2⟩
 ·rintro(h|⟨x,h1,h2⟩)
  ·exact .inl h
  ·obtain⟨b,hb⟩:=get_some h1
   unfold we at h2
   rw[hb]at h2
   exact .inr ⟨b,List.mem_of_getElem? hb,h2⟩
theorem aff{l:List bg}{P:List az}(h:Bq l P)(eF:List aq):(fF eF (lZ l 0 P)=[]↔fF eF (g9 P (wb l))=[]):=by
 have hm:∀s,s∈lZ l 0 P↔s∈g9 P (wb l):=fun s=>by
  rw[XK,acF,h.len]
  constructor
  ·rintro(h|⟨x,h1,h2,h3⟩)
   ·exact .inl h
   ·exact .inr ⟨x,by omega,h3⟩
  ·rintro(h|⟨x,h1,h2⟩)
   ·exact .inl h
   ·exact .inr ⟨x,by omega,by omega,h2⟩
 exact⟨VS fun s hs=>(hm s).1 hs,VS fun s hs=>(hm s).2 hs⟩
def Bd(n:Nat)(l:List aq):Prop:=l.length≤4920*n∧db l≤196800*n
theorem Bd.app{a b:List aq}{n m:Nat}(h:Bd n a)(k:Bd m b):Bd (n+m) (a++b):=⟨by rw[List.length_append,Nat.mul_add];exact Nat.add_le_add h.1 k.1,by rw[FC,Nat.mul_add];exact Nat.add_le_add h.2 k.2⟩
theorem Bd.mono{a:List aq}{n m:Nat}(h:Bd n a)(k:n≤m):Bd m a:=⟨Nat.le_trans h.1 (Nat.mul_le_mul_left _ k),Nat.le_trans h.2 (Nat.mul_le_mul_left _ k)⟩
theorem Bd.nil(n:Nat):Bd n []:=⟨by simp,by simp[db]⟩
theorem PJ{ts:List ah}(h:de ts):Bd 1 (eM ts):=by
 unfold eM
 split
 ·exact Bd.nil 1
 ·rename_i sy hs;exact⟨by simpa using DC h hs,by simpa using JW h hs⟩
theorem Bd.IG{a:List aq}(h:Bd 1000 a):a.length≤2^30∧db a≤2^30:=⟨Nat.le_trans h.1 (by decide),Nat.le_trans h.2 (by decide)⟩
def Rd(P:List az)(hv:List aq)(x:Nat):Bool:=dD P x&& !gr P hv x
theorem acG{P:List az}{h1 h2:List aq}(h:∀eF,fF eF h1=[]↔fF eF h2=[])(x:Nat):gr P h1 x=gr P h2 x:=by
 unfold gr
 cases P[x]? with
 |none=>rfl
 |some b=>
  simp only
  congr 2
  have:=h b.th
  have e:∀l:List aq,decide (0<l.length)= !decide (l=[]):=fun l=>by cases l<;>simp
  rw[e,e]
  congr 1
  exact decide_eq_decide.2 this
theorem ai8{P:List az}{hv:List aq}(x:Nat):dD (jt P (lF P hv)) x=Rd P hv x:=by
 unfold Rd
 cases hb:(jt P (lF P hv))[x]? with
 |some b=>
  obtain⟨a,ha,he⟩:=ai4 hb
  have h1:dD (jt P (lF P hv)) x=b.mark:=by unfold dD;rw[hb]
  have h2:dD P x=a.mark:=by unfold dD;rw[ha]
  rw[h1,h2,he]
  have hx:=(List.getElem?_eq_some_iff.1 ha).1
  have tm:x∈lF P hv↔gr P hv x=true:=by
   unfold lF
   rw[List.mem_filter,List.mem_range]
   exact⟨fun h=>h.2,fun h=>⟨hx,h⟩⟩
  split
  ·rename_i h;rw[tm.1 h];simp
  ·rename_i h
   have:gr P hv x=false:=by
    cases hh:gr P hv x with
    |true=>exact absurd (tm.2 hh) h
    |false=>rfl
   rw[this];simp
 |none=>
  have h0:P[x]? =none:=List.getElem?_eq_none (by have:=List.getElem?_eq_none_iff.1 hb;rw[Gk]at this;exact this)
  simp only[dD,hb,h0];rfl
theorem WR{P:List az}{hv:List aq}:lF P hv=[]↔∀x,gr P hv x=false:=by
 unfold lF
 rw[List.filter_eq_nil_iff]
 constructor
 ·intro h x
  by_cases hx:x<P.length
  ·simpa using h x (List.mem_range.2 hx)
  ·unfold gr;rw[List.getElem?_eq_none (by omega)]
 ·intro h x _;rw[h x];simp
end Go.Proofs.Ytimbllcalipehaa.Ab
namespace Go.Proofs.Ytimbllcalipehaa.Ab
open Go
set_option linter.unusedVariables false
set_option maxRecDepth 4000
def nh(LL:List (List D)):SV:=match LL with
 |[]=>.d (.sl .nil 0 [])
 |LL=>.nest LL
theorem afg{LL:List (List D)}{r:List Bool}{cX:Nat}{k:SV→Prop}(hb:(LL.length+1)*cX≤140737488355328)(hk:k (nh (LL++[cj r]))):Ar cX (nh LL) (.aZ 1 (cj r)) k:=by
 have hs:∀x∈cj r,x.pL=true:=by
  intro x hx
  obtain⟨b,_,rfl⟩:=List.mem_map.1 hx
  rfl
 cases LL with
 |nil=>exact⟨hb,hs,hk⟩
 |cons a LL=>exact⟨hb,hs,hk⟩
theorem afh{LL:List (List D)}{M:List D}{i j:Nat}{v:Bool}{k:SV→Prop}(hi:LL[i]? =some M)(hj:j<M.length)(hk:k (nh (LL.set i (M.set j (.bool v))))):yG (nh LL) (.d (.int .i64 (i:Int))) (.d (.int .i64 (j:Int))) v k:=by
 cases LL with
 |nil=>simp at hi
 |cons a LL=>
  have h1:cN (.d (.int .i64 (i:Int))) (a::LL).length =some i:=je (List.getElem?_eq_some_iff.1 hi).1
  have h2:cN (.d (.int .i64 (j:Int))) M.length=some j:=je hj
  simp only[yG,nh,h1,hi,h2,ab]
  cases i with
  |zero=>exact hk
  |succ i=>exact hk
theorem OI(LL:List (List D)):∃d,di (nh LL)=.d d∧aW 1 (LL.map fun L=>D.sl .ro 1 L) d:=by
 cases LL with
 |nil=>exact⟨_,rfl,.nil 0 rfl⟩
 |cons a LL=>exact⟨_,rfl,.ro⟩
theorem Ob(sz:Nat)(L:List D):di (aQ sz L)=.d (bB sz L):=by cases L<;>rfl
theorem ai9(x:D):di (.d x)=.d x:=rfl
theorem AE(x:D):kE (.d x)=True:=rfl
theorem Zd(l:List Bool):kE (.aZ 1 (cj l)):=by
 intro x hx c hc
 obtain⟨b,_,rfl⟩:=List.mem_map.1 hx
 simp[D.cells]at hc;subst hc;rfl
theorem aja(sz:Nat)(L:List D):pO (.aZ sz L)=.aZ sz L:=rfl
theorem Aq(b:Bool):pO (.d (.bool b))=.d (.bool b):=rfl
def fS(r:List Bool):D:=.sl .ro 1 (cj r)
theorem nY(r:List Bool):aW 1 (cj r) (fS r):=.ro
theorem yn(r:List Bool):aI false 1 (.aX (fS r) 0)=some (.d (fS r)):=rfl
theorem WS(r:List Bool):bu 1 1 [(0,fS r)]=true:=rfl
theorem OK(R:List (List Bool)):(R.map cj).map (fun L=>D.sl .ro 1 L)=R.map fS:=by simp[fS]
def j8(l:List bg)(L:List D):List D:=List.zipWith (fun m d=>bB 4 (gZ (cL m.ay (Cr (oS d 2)) 0))) l L
theorem KD{l:List bg}{L:List D}{i:Nat}{m:bg}{d:D}(h1:l[i]? =some m)(h2:L[i]? =some d):(j8 l L)[i]? =some (bB 4 (gZ (cL m.ay (Cr (oS d 2)) 0))):=by
 unfold j8
 rw[List.getElem?_zipWith,h1,h2]
theorem XL{l:List bg}{L:List D}(h:L.length=l.length):(j8 l L).length =l.length:=by simp[j8,h]
def nk(l:List bg):List D:=l.map fun m=>bB 1 (cQ (eg m.ay 0))
theorem PK{l:List bg}{i:Nat}{m:bg}(h1:l[i]? =some m):(nk l)[i]? =some (bB 1 (cQ (eg m.ay 0))):=by simp[nk,h1]
theorem agV(l:List bg):(nk l).length =l.length:=by simp[nk]
def amJ(r:Except mH (List (List Bool))):SV:=match r with
 | .error (c,s)=>.aJ [.d (.sl .nil 0 []),.d (jl c s)]
 | .ok o=>.aJ [aQ 1 (o.map fS),.d eI]
theorem agW(n:Nat):dN (fun x=>decide (x<0)) 0 n=List.replicate n false:=by
 refine List.ext_getElem? fun j=>?_
 by_cases hj:j<n
 ·rw[ns hj];simp[hj]
 ·rw[List.getElem?_eq_none (by rw[jR];omega),List.getElem?_eq_none (by simp;omega)]
theorem ajb{n k:Nat}:(dN (fun x=>decide (x<k)) 0 n).set k true=dN (fun x=>decide (x<k+1)) 0 n:=by
 refine List.ext_getElem? fun j=>?_
 rw[List.getElem?_set,jR]
 by_cases hj:j<n
 ·rw[ns hj,ns hj]
  by_cases IJ:k=j
  ·subst IJ;simp[hj]
  ·rw[if_neg IJ];congr 1;rw[decide_eq_decide];omega
 ·rw[List.getElem?_eq_none (by rw[jR];omega),List.getElem?_eq_none (by rw[jR];omega)]
  by_cases IJ:k=j
  ·rw[if_pos IJ,if_neg (by omega)]
  ·rw[if_neg IJ]
theorem ajc(n b:Nat):dN (fun x=>decide (x<n)) 0 n=dN (fun _=>true) b n:=by
 refine List.map_congr_left fun j hj=>?_
 have:=List.mem_range.1 hj
 simp[this]
def fP(P Pl:List az)(hv:List aq)(p x:Nat):Bool:=if x<p then dD P x&& !gr Pl hv x else dD P x
theorem ajd{P Pl:List az}{hv:List aq}{p:Nat}(h:gr Pl hv p=true):(fun x=>if x=p then false else fP P Pl hv p x)=fP P Pl hv (p+1):=by
 funext x
 unfold fP
 by_cases hx:x=p
 ·subst hx;rw[if_pos rfl,if_pos (by omega),h];simp
 ·rw[if_neg hx]
  by_cases h2:x<p
  ·rw[if_pos h2,if_pos (by omega)]
  ·rw[if_neg h2,if_neg (by omega)]
theorem agX{P Pl:List az}{hv:List aq}{p:Nat}(h:gr Pl hv p=false):fP P Pl hv p=fP P Pl hv (p+1):=by
 funext x
 unfold fP
 by_cases hx:x=p
 ·subst hx;rw[if_neg (by omega),if_pos (by omega),h];simp
 ·by_cases h2:x<p
  ·rw[if_pos h2,if_pos (by omega)]
  ·rw[if_neg h2,if_neg (by omega)]
def uJ(Pl:List az)(hv:List aq)(p:Nat):Bool:=(List.range p).any (gr Pl hv)
theorem WT(Pl:List az)(hv:List aq)(p:Nat):uJ Pl hv (p+1)=(uJ Pl hv p||gr Pl hv p):=by
 unfold uJ
 rw[List.range_succ,List.any_append];simp
theorem XM(l:List az):kA l=((l.map az.mark).filter id).length :=by
 unfold kA
 rw[List.filter_map,List.length_map];rfl
theorem acH{B:List az}(hu:lp B):kA (aV B)=kA B:=by
 rw[XM,XM]
 congr 2
 refine List.ext_getElem? fun x=>?_
 rw[List.getElem?_map,List.getElem?_map]
 cases hb:B[x]? with
 |some b=>rw[Oa hu hb];rfl
 |none=>
  have:(aV B)[x]? =none:=List.getElem?_eq_none (by rw[(uQ B).1];exact List.getElem?_eq_none_iff.1 hb)
  rw[this]
theorem afi{f:Nat→Bool}{b n j:Nat}{v:Bool}(hj:j<n):(dN f b n).set j v=dN (fun x=>if x=b+j then v else f x) b n:=by
 refine List.ext_getElem? fun k=>?_
 rw[List.getElem?_set,jR]
 by_cases hk:k<n
 ·rw[ns hk]
  by_cases kL:j=k
  ·subst kL;rw[if_pos rfl,if_pos hk,ns hk,if_pos rfl]
  ·rw[if_neg kL,ns hk,if_neg (by omega)]
 ·have h1:∀g:Nat→Bool,(dN g b n)[k]? =none:=fun g=>List.getElem?_eq_none (by rw[jR];omega)
  rw[h1,h1,if_neg (by omega)]
def gP(P:List az)(p x:Nat):Bool:=if x<p then hr P x&&dD P x else hr P x
theorem aje(P:List az)(p:Nat):(fun x=>if x=p then hr P p&&dD P p else gP P p x)=gP P (p+1):=by
 funext x
 unfold gP
 by_cases hx:x=p
 ·subst hx;rw[if_pos rfl,if_pos (by omega)]
 ·rw[if_neg hx]
  by_cases h2:x<p
  ·rw[if_pos h2,if_pos (by omega)]
  ·rw[if_neg h2,if_neg (by omega)]
theorem afj{r:List Bool}{n:Nat}(h:r.length=n):GP n 1 (bc (cj r))=.d (fS r):=by
 unfold GP
 rw[DJ]
 have:(cj r).length =n:=by rw[sc];exact h
 simp only[this,Nat.beq_refl,Bool.and_self,cond_true]
 rfl
theorem ajf{P:List az}(h:∀b∈P,Fg b)(x:Nat):Bd 1 (we P x):=by
 unfold we
 cases hb:P[x]? with
 |none=>exact Bd.nil 1
 |some b=>
  have hk:=h b (List.mem_of_getElem? hb)
  simp only[nf]
  split
  ·split
   ·exact⟨by simpa using hk.th,by simpa using hk.IA⟩
   ·exact⟨by simpa using hk.el,by simpa using hk.SJ⟩
  ·exact Bd.nil 1
theorem PL{P:List az}(h:∀b∈P,Fg b)(base:Nat):∀n,Bd n (uI P base n)
 |0=>Bd.nil 0
 |n+1=>by rw[WO];exact(PL h base n).app (ajf h _)
theorem YG{P:List az}(h:∀b∈P,Fg b){l:List bg}(hm:∀m∈l,de m.ay):∀i,i≤l.length→Bd (i+aT (l.take i)) (lZ (l.take i) 0 P)
 |0,_=>by simp[lZ,aT];exact Bd.nil 0
 |i+1,hi=>by
  obtain⟨m,dc⟩:=get_some (show i<l.length by omega)
  rw[WQ dc,NL dc]
  refine((YG h hm i (by omega)).app ((PJ (hm m (List.mem_of_getElem? dc))).app (PL h _ _))).mono (by omega)
theorem aar{l:List bg}{L:List D}{x:D}(hx:aW 3 L x)(hl:o9 l L)(h8:l.length≤8)(hm:∀m∈l,de m.ay):aG Try.prog gl 12 [.d x] (amJ (uF l)):=by
 have ct:l.length≤maxLen:=Nat.le_trans h8 (by decide)
 have hFa:=abF hx hl h8 hm
 refine cM bG (cb (fn:=Try.f12) (by kernel_rfl) (by kernel_rfl) (by kernel_rfl)) (h:=ZM) ?_;rw[aiY];intro bJ
 simp only[sS,sT,sZ]
 refine dZ hFa ?_
 rcases Pc l 0 [] []with⟨⟨B,OS⟩,zw,rK⟩|⟨⟨c0,s0⟩,zw,rK⟩
 rotate_left
 ·have bf:=ai3 rK
  have Tl:uF l=.error (c0,s0):=by unfold uF rp;rw[zw]
  rw[rK,Tl]
  simp only[xA,jl,dq,dr,fE,dC,fZ,eQ,n9 bf,sS,sT,sZ]
  refine And.intro (fun _=>?_) (fun h=>absurd h (by decide))
  rfl
 rw[rK]
 obtain⟨g1,g2,g3,g4,g5⟩:=YD l 0 zw (fun j b h=>by simp at h) (fun b h=>by simp at h)
 have Tm:Bq l B:=⟨fun{i m}dc=>by have:=g3 i m dc;simpa using this,by simpa using g5.1,g1⟩
 have hOS:OS=wb l:=by simpa using g4
 have rQ:=vo.of h8 hm zw
 have Tl:uF l=.ok (uE l.length (pF B OS)):=by unfold uF rp;rw[zw]
 rw[Tl]
 simp only[xA,eI,dq,dr,fE,dC,fZ,eQ,sS,sT,sZ]
 refine And.intro (fun h=>absurd h (by decide)) (fun _=>?_)
 refine fV (fun i=>[.d x,aQ 1 ((j8 l L).take i),aQ 1 ((nk l).take i),nh (((rN l 0 fun _=>true).take i).map cj),.d (.int .i64 ((i:Nat):Int))]) (fun i=>[[.d (.int .i64 0),.d (.int .i64 0),.d (.int .i64 0),.d (.str [])],[.d (.int .i64 0),.d (.int .i64 0),.d (.int .i64 0),.d (.str [])]]) l.length (fun i hi I hI=>?_) (fun I=>?_)
 ·obtain⟨m,dc⟩:=get_some hi
  obtain⟨y,hy,gM⟩:=hl.at_ dc
  have cm:=hm m (List.mem_of_getElem? dc)
  have kJ:=KD dc hy
  have zS:=PK dc
  have nO:=xb 0 (fun _=>true) dc
  rw[dX kJ,dX zS,dX nO,List.map_append,List.map_cons,List.map_nil]at hI
  have wT:ah.aE m.ay≤120:=Nat.le_trans (ah.qQ _) cm.sz
  cases gM with
  |mk xs Ls uc pV=>
  have zb:oS (.agg [.str m.name,.int .i64 m.vU,xs]) 2=xs:=rfl
  rw[zb,uc.el]at hI
  simp only[hx.len,hl.len,sS,sT,sZ]
  refine And.intro (fun _=>?_) (fun h=>absurd h (by simp;omega))
  simp only[hx.at hy,akn,PA,sS,sT,sZ]
  refine call2 (Ty uc pV cm (Nat.le_trans cm.sz (by decide))) ?_
  have pc:(cL m.ay Ls 0).length =ah.aE m.ay:=oa _ _ _
  simp only[Xz,ez,dG,JT _ (Xg _ _),Ao,sS,sT,sZ]
  have hlb:((j8 l L).take i).length ≤8:=by rw[List.length_take];omega
  have Mr:((nk l).take i).length ≤8:=by rw[List.length_take];omega
  refine gN (wh _) (by simp only[List.length_singleton];omega) ?_
  refine gN (wh _) (by simp only[List.length_singleton];omega) ?_
  simp only[(cK 4 (gZ (cL m.ay Ls 0))).len,ym,pc,Dn,List.length_replicate,sS,sT,sZ]
  refine⟨by omega,?_⟩
  have e0:bc (List.replicate (ah.aE m.ay) (D.bool false))=bc (cj (dN (fun x=>decide (x<0)) 0 (ah.aE m.ay))):=by rw[agW,←PG]
  rw[e0]
  refine fV (fun k=>[.d x,aQ 1 ((j8 l L).take i++[bB 4 (gZ (cL m.ay Ls 0))]),aQ 1 ((nk l).take i++[bB 1 (cQ (eg m.ay 0))]),nh (((rN l 0 fun _=>true).take i).map cj),.d (.int .i64 ((i:Nat):Int)),.d (.int .i64 ((k:Nat):Int))]) (fun k=>[[.d (.int .i64 0),.d (.int .i64 0),.d (.int .i64 0),.d (.str [])],[.d (.int .i64 0),.d (.int .i64 0),.d (.int .i64 0),.d (.str [])],bc (cj (dN (fun x=>decide (x<k)) 0 (ah.aE m.ay)))]) (ah.aE m.ay) (fun k hk I2 cq=>?_) (fun I2=>?_)
  ·simp only[sS,sT,sZ]
   refine And.intro (fun _=>?_) (fun h=>absurd h (by simp;omega))
   have lJ:cN (.d (.int .i64 (k:Int))) (ah.aE m.ay)=some k:=je hk
   simp only[sc,jR,lJ,O9,sS,sT,sZ]
   refine⟨rfl,by omega,?_⟩
   refine aU (br hk (Nat.le_trans wT (by decide))) ?_
   rw[show List.map SV.d (D.bool true).cells =[.d (.bool true)] from rfl,GJ,ajb]
   exact cq
  ·simp only[sS,sT,sZ]
   refine And.intro (fun h=>absurd h (by simp)) (fun _=>?_)
   have hg:=JX (dN (fun x=>decide (x<ah.aE m.ay)) 0 (ah.aE m.ay))
   rw[jR]at hg
   simp only[DJ,sc,jR,hg,sS,sT,sZ]
   refine afg (by rw[List.length_map,List.length_take];omega) ?_
   refine aU (br hi ct) ?_
   rw[Nat.zero_add,←ajc (ah.aE m.ay) (aT (l.take i))]at hI
   exact hI
 ·simp only[hx.len,hl.len,sS,sT,sZ]
  refine And.intro (fun h=>absurd h (by simp)) (fun _=>?_)
  have oJ:(rN l 0 fun _=>true).length =l.length:=GL l 0 _
  rw[List.take_of_length_le (by rw[XL hl.len];omega:(j8 l L).length ≤l.length),List.take_of_length_le (by rw[agV];omega:(nk l).length ≤l.length),List.take_of_length_le (by omega:(rN l 0 fun _=>true).length ≤l.length)]
  have amK:rN l 0 (fun _=>true)=rN l 0 (dD B):=FX l fun x _ h2=>by
   obtain⟨b,hb⟩:=get_some (show x<B.length by rw[Tm.len];omega)
   have:=g2 b (List.mem_of_getElem? hb)
   simp only[dD,hb,this]
  rw[amK]
  have hB0:(if true then ∃f,kA B<f∧rP f B OS=pF B OS else pF B OS=aV B):=by
   rw[if_pos rfl]
   refine⟨B.length+1,?_,rfl⟩
   have:kA B≤B.length:=List.length_filter_le _ _
   omega
  refine Oz (α:=Bool×List az) (fun s=>if s.1 then kA s.2+1 else 0) (fun s=>Bq l s.2∧jO B s.2∧(if s.1 then ∃f,kA s.2<f∧rP f s.2 OS=pF B OS else pF B OS=aV s.2))
   (fun s=>[.d x,aQ 1 (j8 l L),aQ 1 (nk l),nh ((rN l 0 (dD s.2)).map cj),.d (.bool s.1)]) (fun s=>[[.d (.int .i64 0),.d (.int .i64 0),.d (.int .i64 0),.d (.str [])],[.d (.int .i64 0),.d (.int .i64 0),.d (.int .i64 0),.d (.str [])]]) (fun s hJ I3 gm=>?_) (true,B) ⟨Tm,jO.refl B,hB0⟩
  obtain⟨ag,P⟩:=s
  obtain⟨hP,Z3,ml⟩:=hJ
  have Fv:Bq l (aV P):=hP.xR (uQ P)
  have Ze:jO B (aV P):=Z3.trans (uQ P)
  have LF:=WM hP.up
  have Z4:=rQ.xR Ze
  obtain⟨dm,ui,zS⟩:=OI ((rN l 0 (dD P)).map cj)
  rw[OK]at zS
  have ank:(j8 l L).length =l.length:=XL hl.len
  have eh:aT l≤960:=by have:=rQ.len;rw[Tm.len]at this;exact this
  simp only[sS,sT,sZ]
  refine And.intro (fun pe=>?_) (fun pe=>?_)
  ·subst pe
   replace ml:∃f,kA P<f∧rP f P OS=pF B OS:=by simpa using ml
   have bd1:∀i,i≤l.length→Bd (i+(aT (l.take i))) (lZ (l.take i) 0 (aV P)):=YG Z4.ok hm
   refine fV (fun i=>[.d x,aQ 1 (j8 l L),aQ 1 (nk l),nh ((rN l 0 (dD P)).map cj),.d (.bool false),aQ 6 (aK (lZ (l.take i) 0 (aV P))),aQ 1 (((rN l 0 (hr (aV P))).take i).map fS),.d (.int .i64 ((i:Nat):Int))]) (fun i=>[[.d (.int .i64 0),.d (.int .i64 0),.d (.int .i64 0),.d (.str [])],[.d (.int .i64 0),.d (.int .i64 0),.d (.int .i64 0),.d (.str [])]]) l.length (fun i hi I4 um=>?_) (fun I4=>?_)
   ·obtain⟨m,dc⟩:=get_some hi
    obtain⟨y,hy,gM⟩:=hl.at_ dc
    have cm:=hm m (List.mem_of_getElem? dc)
    have hS:=XE cm gM
    have kJ:=KD dc hy
    have Re:=PK dc
    have nO:=xb 0 (hr (aV P)) dc
    have Hx:=xb 0 (dD P) dc
    rw[Nat.zero_add]at nO Hx
    rw[dX nO,List.map_append,List.map_cons,List.map_nil,WQ dc]at um
    have wT:ah.aE m.ay≤120:=Nat.le_trans (ah.qQ _) cm.sz
    have amL:=OH dc
    have vD:=hP.bk dc
    have Rf:=Fv.bk dc
    have Fc:ff m.ay=.ok (eM m.ay):=by
     unfold eM
     cases hb:ff m.ay with
     |error e=>
      exfalso
      have bY:=XG m
      rw[hb]at bY
      have h1:kR (l.take (i+1))=some e:=by
       have:=BT (l.take i) [m]
       rw[←dX dc]at this
       rw[this,bY]
       have h2:=BT (l.take i) (l.drop i)
       rw[List.take_append_drop,rK]at h2
       cases hh:kR (l.take i)with
       |some e'=>rw[hh]at h2;cases h2
       |none=>rfl
      have h2:=BT (l.take (i+1)) (l.drop (i+1))
      rw[List.take_append_drop,rK,h1]at h2
      cases h2
     |ok sy=>rfl
    rw[Fc]at hS
    simp only at hS
    have zA:=bd1 i (by omega)
    generalize lZ (l.take i) 0 (aV P)=zT at um zA ⊢
    cases gM with
    |mk xs Ls uc pV=>
    have zb:oS (.agg [.str m.name,.int .i64 m.vU,xs]) 2=xs:=rfl
    rw[zb,uc.el]at kJ
    have pc:(cL m.ay Ls 0).length =ah.aE m.ay:=oa _ _ _
    have Tn:zl (aV P) (aT (l.take i)) (cL m.ay Ls 0):=II m.ay pV cm Rf
    have jq:=Pb cm
    have amM:(eM m.ay).length ≤maxLen:=Nat.le_trans jq (by decide)
    simp only[hx.len,hl.len,sS,sT,sZ]
    refine And.intro (fun _=>?_) (fun h=>absurd h (by simp;omega))
    simp only[hx.at hy,DB,sS,sT,sZ]
    refine call2 hS ?_
    simp only[ez,eI,dq,dr,fE,sS,sT,sZ]
    have e0:aQ 6 (aK zT)=aQ 6 (aK (zT++(eM m.ay).take 0)):=by simp
    rw[e0]
    refine fV (fun k=>[.d x,aQ 1 (j8 l L),aQ 1 (nk l),nh ((rN l 0 (dD P)).map cj),.d (.bool false),aQ 6 (aK (zT++(eM m.ay).take k)),aQ 1 (((rN l 0 (hr (aV P))).take i).map fS),.d (.int .i64 ((i:Nat):Int)),.d (bB 6 (aK (eM m.ay))),.d (.int .i64 ((k:Nat):Int))]) (fun k=>[[.d (.int .i64 0),.d (.int .i64 0),.d (.int .i64 0),.d (.str [])],[.d (.int .i64 0),.d (.int .i64 0),.d (.int .i64 0),.d (.str [])],[.d (.int .i64 0),.d (.int .i64 0),.d (.int .i64 0),.d (.str [])]]) (eM m.ay).length (fun k hk I5 pn=>?_) (fun I5=>?_)
    ·obtain⟨s,hs⟩:=get_some hk
     simp only[(cK 6 (aK (eM m.ay))).len,eA,sS,sT,sZ]
     refine And.intro (fun _=>?_) (fun h=>absurd h (by simp;omega))
     simp only[(cK 6 (aK (eM m.ay))).at (mf hs),qI,dG,k8,Ao,sS,sT,sZ]
     refine gN (M:=[s.enc]) (by simp[elems]) (by simp only[eA,List.length_append,List.length_take,List.length_singleton];have:=zA.1;omega) ?_
     refine aU (br hk amM) ?_
     have:aK (zT++(eM m.ay).take k)++[s.enc]=aK (zT++(eM m.ay).take (k+1)):=by rw[dX hs];simp[aK]
     rw[this]
     exact pn
    simp only[(cK 6 (aK (eM m.ay))).len,eA,sS,sT,sZ]
    refine And.intro (fun h=>absurd h (by simp)) (fun _=>?_)
    rw[List.take_length]
    have hz:di (.d (.int .i64 ((i:Nat):Int)))=.d (.int .i64 ((i:Nat):Int)):=rfl
    have rF:((rN l 0 (dD P)).map fS)[i]? =some (fS (dN (dD P) (aT (l.take i)) (ah.aE m.ay))):=by rw[List.getElem?_map,Hx];rfl
    simp only[Ob,ui,hz,(cK 1 (j8 l L)).at kJ,(cK 1 (nk l)).at Re,zS.at rF,yy,yn,(cK 4 (gZ (cL m.ay Ls 0))).len,ym,pc,Dn,PG,sS,sT,sZ]
    refine⟨by omega,?_⟩
    have IK:=TI m.ay 0 (cL m.ay Ls 0) (dN (dD P) (aT (l.take i)) (ah.aE m.ay)) (List.replicate (ah.aE m.ay) false) pV (tq.self _) (cK 4 _) (cK 1 _) (nY _) (by rw[pc];omega) (by rw[jR,pc]) (by rw[pc];simp) (by rw[pc];omega)
    rw[WN hP.up vD]at IK
    refine Eb IK rfl ?_
    refine⟨Zd _,?_⟩
    have Rg:∀r:List Bool,om (.aZ 1 (cj r))=some (.own 1 (cj r)):=fun _=>rfl
    have IL:∀r:List Bool,aa (.own 1 (cj r))=.d (fS r):=fun _=>rfl
    simp only[aja,Rg,IL,dG,WS,Ao,sS,sT,sZ]
    refine gN (wh _) (by simp only[List.length_map,List.length_take,List.length_singleton];omega) ?_
    have e1:aQ 6 (aK (zT++eM m.ay))=aQ 6 (aK (zT++(eM m.ay++uI (aV P) (aT (l.take i)) 0))):=by simp[uI]
    rw[e1]
    refine fV (fun k=>[.d x,aQ 1 (j8 l L),aQ 1 (nk l),nh ((rN l 0 (dD P)).map cj),.d (.bool false),aQ 6 (aK (zT++(eM m.ay++uI (aV P) (aT (l.take i)) k))),aQ 1 (((rN l 0 (hr (aV P))).take i).map fS++[fS (dN (hr (aV P)) (aT (l.take i)) (ah.aE m.ay))]),.d (.int .i64 ((i:Nat):Int)),.own 1 (cj (dN (hr (aV P)) (aT (l.take i)) (ah.aE m.ay))),.d (.int .i64 ((k:Nat):Int))]) (fun k=>[[.d (.int .i64 0),.d (.int .i64 0),.d (.int .i64 0),.d (.str [])],[.d (.int .i64 0),.d (.int .i64 0),.d (.int .i64 0),.d (.str [])],[.d (.int .i64 0),.d (.int .i64 0),.d (.int .i64 0),.d (.str [])]]) (ah.aE m.ay) (fun k hk I6 vI=>?_) (fun I6=>?_)
    ·obtain⟨e,he⟩:=get_some (show k<(cL m.ay Ls 0).length by rw[pc];exact hk)
     obtain⟨b,ta,tb,La,Lb,hb,zR,v9,IM,To,gV,jo,EX,hb4⟩:=Tn k e he
     have C9:(dN (hr (aV P)) (aT (l.take i)) (ah.aE m.ay))[k]? =some b.here:=by rw[ns hk];simp only[hr,hb]
     have mz:(dN (dD P) (aT (l.take i)) (ah.aE m.ay))[k]? =some b.mark:=by rw[ns hk,←LF];simp only[dD,hb]
     have jN:we (aV P) (aT (l.take i)+k)=nf b:=by simp only[we,hb]
     rw[WO,jN]at vI
     have p6:di (.d (.int .i64 ((k:Nat):Int)))=.d (.int .i64 ((k:Nat):Int)):=rfl
     have Rh:∀r:List Bool,di (.own 1 (cj r))=.d (fS r):=fun _=>rfl
     have Qg:bm (.d (fS (dN (hr (aV P)) (aT (l.take i)) (ah.aE m.ay))))=some (.d (.int .i64 ((ah.aE m.ay:Nat):Int))):=by
      have:=(nY (dN (hr (aV P)) (aT (l.take i)) (ah.aE m.ay))).len
      rw[sc,jR]at this;exact this
     have hkb:k<maxLen:=Nat.lt_of_lt_of_le hk (Nat.le_trans wT (by decide))
     simp only[IL,Qg,sS,sT,sZ]
     refine And.intro (fun _=>?_) (fun h=>absurd h (by simp;omega))
     have rJ:(zT++(eM m.ay++uI (aV P) (aT (l.take i)) k)).length ≤2^30:=(Bd.mono (zA.app ((PJ cm).app (PL Z4.ok _ k))) (by omega:_≤1000)).IG.1
     cases IN:b.here with
     |false=>
      rw[IN]at C9
      have e2:nf b=[]:=by simp[nf,IN]
      rw[e2,List.append_nil]at vI
      simp only[Rh,p6,hz,(nY _).at (sj C9),yi,ui,zS.at rF,yn,(nY _).at (sj mz),AE,Aq,iC,ez,(cK 1 (j8 l L)).at kJ,yy,(cK 4 (gZ (cL m.ay Ls 0))).at (GI he),km,KX,Qf,Bool.not_true,Bool.not_false,true_and,sS,sT,sZ]
      simp only[Bool.false_eq_true,Bool.true_eq_false,false_implies,true_implies,eq_self,true_and,and_true]
      refine aU (br hk (Nat.le_trans wT (by decide))) ?_
      exact vI
     |true=>
      rw[IN]at C9
      cases pf:b.mark with
      |true=>
       rw[pf]at mz
       have e2:nf b=eM ta:=by simp[nf,IN,pf,To]
       rw[e2]at vI
       simp only[Rh,p6,hz,(nY _).at (sj C9),yi,ui,zS.at rF,yn,(nY _).at (sj mz),AE,Aq,iC,ez,(cK 1 (j8 l L)).at kJ,yy,(cK 4 (gZ (cL m.ay Ls 0))).at (GI he),km,KX,Qf,Bool.not_true,Bool.not_false,true_and,sS,sT,sZ]
       simp only[Bool.false_eq_true,Bool.true_eq_false,false_implies,true_implies,eq_self,true_and,and_true]
       refine Eb (Uq zR v9 IM rJ) rfl ?_
       refine aU (br hk (Nat.le_trans wT (by decide))) ?_
       simp only[List.append_assoc]at vI ⊢
       exact vI
      |false=>
       rw[pf]at mz
       have e2:nf b=eM tb:=by simp[nf,IN,pf,hb4]
       rw[e2]at vI
       simp only[Rh,p6,hz,(nY _).at (sj C9),yi,ui,zS.at rF,yn,(nY _).at (sj mz),AE,Aq,iC,ez,(cK 1 (j8 l L)).at kJ,yy,(cK 4 (gZ (cL m.ay Ls 0))).at (GI he),km,KX,Qf,Bool.not_true,Bool.not_false,true_and,sS,sT,sZ]
       simp only[Bool.false_eq_true,Bool.true_eq_false,false_implies,true_implies,eq_self,true_and,and_true]
       refine Eb (Uq gV jo EX rJ) rfl ?_
       refine aU (br hk (Nat.le_trans wT (by decide))) ?_
       simp only[List.append_assoc]at vI ⊢
       exact vI
    ·have Qg:bm (.d (fS (dN (hr (aV P)) (aT (l.take i)) (ah.aE m.ay))))=some (.d (.int .i64 ((ah.aE m.ay:Nat):Int))):=by
      have:=(nY (dN (hr (aV P)) (aT (l.take i)) (ah.aE m.ay))).len
      rw[sc,jR]at this;exact this
     simp only[IL,Qg,sS,sT,sZ]
     refine And.intro (fun h=>absurd h (by simp)) (fun _=>?_)
     refine aU (br hi ct) ?_
     exact um
   ·simp only[hx.len,hl.len,sS,sT,sZ]
    refine And.intro (fun h=>absurd h (by simp)) (fun _=>?_)
    have oJ:(rN l 0 (hr (aV P))).length =l.length:=GL l 0 _
    rw[List.take_length,List.take_of_length_le (by omega:(rN l 0 (hr (aV P))).length ≤l.length)]
    generalize hHV:lZ l 0 (aV P)=HV
    have Z5:Bd 1000 HV:=by
     rw[←hHV]
     have:=bd1 l.length (Nat.le_refl _)
     rw[List.take_length]at this
     exact this.mono (by omega)
    have e3:nh ((rN l 0 (dD P)).map cj)=nh ((rN l 0 (fP P (aV P) HV (aT (l.take 0)))).map cj):=by
     have:fP P (aV P) HV (aT (l.take 0))=dD P:=by funext x;simp[fP,aT]
     rw[this]
    have e4:SV.d (.bool false)=.d (.bool (uJ (aV P) HV (aT (l.take 0)))):=by simp[uJ,aT]
    rw[e3,e4]
    refine fV (fun i=>[.d x,aQ 1 (j8 l L),aQ 1 (nk l),nh ((rN l 0 (fP P (aV P) HV (aT (l.take i)))).map cj),.d (.bool (uJ (aV P) HV (aT (l.take i)))),aQ 6 (aK HV),aQ 1 ((rN l 0 (hr (aV P))).map fS),.d (.int .i64 ((i:Nat):Int))]) (fun i=>[[.d (.int .i64 0),.d (.int .i64 0),.d (.int .i64 0),.d (.str [])],[.d (.int .i64 0),.d (.int .i64 0),.d (.int .i64 0),.d (.str [])]]) l.length (fun i hi I7 hI7=>?_) (fun I7=>?_)
    ·obtain⟨m,dc⟩:=get_some hi
     obtain⟨y,hy,gM⟩:=hl.at_ dc
     have cm:=hm m (List.mem_of_getElem? dc)
     have kJ:=KD dc hy
     have nO:=xb 0 (hr (aV P)) dc
     rw[Nat.zero_add]at nO
     have wT:ah.aE m.ay≤120:=Nat.le_trans (ah.qQ _) cm.sz
     have amL:=OH dc
     have Rf:=Fv.bk dc
     rw[NL dc]at hI7
     cases gM with
     |mk xs Ls uc pV=>
     have zb:oS (.agg [.str m.name,.int .i64 m.vU,xs]) 2=xs:=rfl
     rw[zb,uc.el]at kJ
     have pc:(cL m.ay Ls 0).length =ah.aE m.ay:=oa _ _ _
     have Tn:zl (aV P) (aT (l.take i)) (cL m.ay Ls 0):=II m.ay pV cm Rf
     have hz:di (.d (.int .i64 ((i:Nat):Int)))=.d (.int .i64 ((i:Nat):Int)):=rfl
     have Sa:((rN l 0 (hr (aV P))).map fS)[i]? =some (fS (dN (hr (aV P)) (aT (l.take i)) (ah.aE m.ay))):=by rw[List.getElem?_map,nO];rfl
     simp only[hx.len,hl.len,sS,sT,sZ]
     refine And.intro (fun _=>?_) (fun h=>absurd h (by simp;omega))
     refine fV (fun k=>[.d x,aQ 1 (j8 l L),aQ 1 (nk l),nh ((rN l 0 (fP P (aV P) HV (aT (l.take i)+k))).map cj),.d (.bool (uJ (aV P) HV (aT (l.take i)+k))),aQ 6 (aK HV),aQ 1 ((rN l 0 (hr (aV P))).map fS),.d (.int .i64 ((i:Nat):Int)),.d (.int .i64 ((k:Nat):Int))]) (fun k=>[[.d (.int .i64 0),.d (.int .i64 0),.d (.int .i64 0),.d (.str [])],[.d (.int .i64 0),.d (.int .i64 0),.d (.int .i64 0),.d (.str [])]]) (ah.aE m.ay) (fun k hk I8 IP=>?_) (fun I8=>?_)
     ·have ED:=xb 0 (fP P (aV P) HV (aT (l.take i)+k)) dc
      rw[Nat.zero_add]at ED
      obtain⟨d2,ET,EE⟩:=OI ((rN l 0 (fP P (aV P) HV (aT (l.take i)+k))).map cj)
      rw[OK]at EE
      have rF:((rN l 0 (fP P (aV P) HV (aT (l.take i)+k))).map fS)[i]? =some (fS (dN (fP P (aV P) HV (aT (l.take i)+k)) (aT (l.take i)) (ah.aE m.ay))):=by rw[List.getElem?_map,ED];rfl
      obtain⟨e,he⟩:=get_some (show k<(cL m.ay Ls 0).length by rw[pc];exact hk)
      obtain⟨b,ta,tb,La,Lb,hb,zR,v9,IM,To,gV,jo,EX,hb4⟩:=Tn k e he
      have C9:(dN (hr (aV P)) (aT (l.take i)) (ah.aE m.ay))[k]? =some b.here:=by rw[ns hk];simp only[hr,hb]
      have mz:(dN (fP P (aV P) HV (aT (l.take i)+k)) (aT (l.take i)) (ah.aE m.ay))[k]? =some b.mark:=by
       rw[ns hk]
       have:fP P (aV P) HV (aT (l.take i)+k) (aT (l.take i)+k)=dD P (aT (l.take i)+k):=by unfold fP;rw[if_neg (by omega)]
       rw[this,←LF];simp only[dD,hb]
      have Fh:gr (aV P) HV (aT (l.take i)+k)=(b.here&&(b.mark&&decide (0<(fF (eM ta) HV).length))):=by
       unfold gr;rw[hb];simp only[To]
      have p6:di (.d (.int .i64 ((k:Nat):Int)))=.d (.int .i64 ((k:Nat):Int)):=rfl
      have Qh:bm (.d (fS (dN (fP P (aV P) HV (aT (l.take i)+k)) (aT (l.take i)) (ah.aE m.ay))))=some (.d (.int .i64 ((ah.aE m.ay:Nat):Int))):=by
       have:=(nY (dN (fP P (aV P) HV (aT (l.take i)+k)) (aT (l.take i)) (ah.aE m.ay))).len
       rw[sc,jR]at this;exact this
      rw[←Nat.add_assoc]at IP
      simp only[ET,hz,p6,EE.at rF,yn,Qh,AE,Aq,true_and,sS,sT,sZ]
      refine And.intro (fun _=>?_) (fun h=>absurd h (by simp;omega))
      simp only[ez,(cK 1 (j8 l L)).at kJ,yy,(cK 4 (gZ (cL m.ay Ls 0))).at (GI he),km,KX,sS,sT,sZ]
      refine cV (abE zR v9 IM) (ka _ _) ?_
      simp only[ez,Ob,ai9,(cK 1 _).at Sa,yn,(nY _).at (sj C9),yi,ET,hz,p6,EE.at rF,(nY _).at (sj mz),AE,Aq,true_and,sS,sT,sZ]
      have fk:gr (aV P) HV (aT (l.take i)+k)=false→I8 [.d x,aQ 1 (j8 l L),aQ 1 (nk l),nh ((rN l 0 (fP P (aV P) HV (aT (l.take i)+k))).map cj),.d (.bool (uJ (aV P) HV (aT (l.take i)+k))),aQ 6 (aK HV),aQ 1 ((rN l 0 (hr (aV P))).map fS),.d (.int .i64 ((i:Nat):Int)),.d (.int .i64 ((k+1:Nat):Int))] [[.d (.int .i64 0),.d (.int .i64 0),.d (.int .i64 0),.d (.str [])],[.d (.int .i64 0),.d (.int .i64 0),.d (.int .i64 0),.d (.str [])]]:=fun hf=>by
       rw[WT,hf,Bool.or_false,←agX hf]at IP
       exact IP
      have Cs:=br hk (Nat.le_trans wT (by decide))
      refine And.intro (fun h1=>And.intro (fun h2=>?_) (fun h2=>?_)) (fun h1=>?_)
      ·have zC:=aaq (eM ta) HV (cK 6 (aK (eM ta))) (cK 6 (aK HV)) (Nat.le_trans (Pb IM) (by decide)) Z5.IG.1 Z5.IG.2 (fun s hs=>Nat.le_trans (Um hs) (Nat.le_trans (PJ IM).2 (by decide)))
       refine cV zC (ka _ _) ?_
       simp only[ez,(cK 6 _).len,eA,AE,Aq,true_and,sS,sT,sZ]
       refine And.intro (fun h3=>?_) (fun h3=>?_)
       ·have hf:gr (aV P) HV (aT (l.take i)+k)=true:=by
         rw[Fh,h1,h2]
         have:0<(fF (eM ta) HV).length :=by
          have h4:((fF (eM ta) HV).length :Int)>0:=by simpa using h3
          omega
         simp[this]
        have amN:((rN l 0 (fP P (aV P) HV (aT (l.take i)+k))).map cj)[i]? =some (cj (dN (fP P (aV P) HV (aT (l.take i)+k)) (aT (l.take i)) (ah.aE m.ay))):=by rw[List.getElem?_map,ED];rfl
        refine afh amN (by rw[sc,jR];exact hk) ?_
        refine aU Cs ?_
        have eW:=YE 0 (fP P (aV P) HV (aT (l.take i)+k)) false dc hk
        rw[Nat.zero_add,ajd hf]at eW
        have jo:(cj (dN (fP P (aV P) HV (aT (l.take i)+k)) (aT (l.take i)) (ah.aE m.ay))).set k (.bool false)=cj ((dN (fP P (aV P) HV (aT (l.take i)+k)) (aT (l.take i)) (ah.aE m.ay)).set k false):=by simp only[cj,List.map_set]
        rw[jo,←List.map_set,eW]
        rw[WT,hf,Bool.or_true]at IP
        exact IP
       ·have hf:gr (aV P) HV (aT (l.take i)+k)=false:=by
         rw[Fh,h1,h2]
         have:¬0<(fF (eM ta) HV).length :=by
          have h4:¬((fF (eM ta) HV).length :Int)>0:=by simpa using h3
          omega
         simp[this]
        refine aU Cs ?_
        exact fk hf
      ·have hf:gr (aV P) HV (aT (l.take i)+k)=false:=by rw[Fh,h1,h2];simp
       refine aU Cs ?_
       exact fk hf
      ·have hf:gr (aV P) HV (aT (l.take i)+k)=false:=by rw[Fh,h1];simp
       refine aU Cs ?_
       exact fk hf
     ·have ED:=xb 0 (fP P (aV P) HV (aT (l.take i)+ah.aE m.ay)) dc
      rw[Nat.zero_add]at ED
      obtain⟨d2,ET,EE⟩:=OI ((rN l 0 (fP P (aV P) HV (aT (l.take i)+ah.aE m.ay))).map cj)
      rw[OK]at EE
      have rF:((rN l 0 (fP P (aV P) HV (aT (l.take i)+ah.aE m.ay))).map fS)[i]? =some (fS (dN (fP P (aV P) HV (aT (l.take i)+ah.aE m.ay)) (aT (l.take i)) (ah.aE m.ay))):=by rw[List.getElem?_map,ED];rfl
      have Qh:bm (.d (fS (dN (fP P (aV P) HV (aT (l.take i)+ah.aE m.ay)) (aT (l.take i)) (ah.aE m.ay))))=some (.d (.int .i64 ((ah.aE m.ay:Nat):Int))):=by
       have:=(nY (dN (fP P (aV P) HV (aT (l.take i)+ah.aE m.ay)) (aT (l.take i)) (ah.aE m.ay))).len
       rw[sc,jR]at this;exact this
      have p6:di (.d (.int .i64 ((ah.aE m.ay:Nat):Int)))=.d (.int .i64 ((ah.aE m.ay:Nat):Int)):=rfl
      simp only[ET,hz,p6,EE.at rF,yn,Qh,AE,Aq,true_and,sS,sT,sZ]
      refine And.intro (fun h=>absurd h (by simp)) (fun _=>?_)
      refine aU (br hi ct) ?_
      exact hI7
    ·simp only[hx.len,hl.len,sS,sT,sZ]
     refine And.intro (fun h=>absurd h (by simp)) (fun _=>?_)
     rw[List.take_length]
     have G1:∀y,gr (aV P) HV y=gr (aV P) (g9 (aV P) OS) y:=fun y=>by
      rw[←hHV,hOS]
      exact acG (fun eF=>aff Fv eF) y
     obtain⟨f,hcf,Hy⟩:=ml
     cases f with
     |zero=>omega
     |succ f=>
     rw[rP]at Hy
     by_cases pe:uJ (aV P) HV (aT l)=true
     ·rw[pe]
      have bf:lF (aV P) (g9 (aV P) OS)≠[]:=fun he=>by
       have h0:=WR.1 he
       unfold uJ at pe
       obtain⟨y,_,hy⟩:=List.any_eq_true.1 pe
       rw[G1,h0]at hy;cases hy
      rw[if_neg bf]at Hy
      have gB:kA (jt (aV P) (lF (aV P) (g9 (aV P) OS)))<kA P:=by
       rw[←acH hP.up]
       exact agS bf fun j hj=>by
        obtain⟨b,k1,k2,k3,k4⟩:=agR.1 hj
        exact⟨b,k1,k3⟩
      have pW:rN l 0 (fP P (aV P) HV (aT l))=rN l 0 (dD (jt (aV P) (lF (aV P) (g9 (aV P) OS)))):=FX l fun y _ hy=>by
       rw[ai8]
       unfold fP Rd
       rw[if_pos (by omega),LF,G1]
      rw[pW]
      refine gm (true,jt (aV P) (lF (aV P) (g9 (aV P) OS))) ⟨Fv.xR (Gl _ _),Ze.trans (Gl _ _),?_⟩ ?_
      ·simp only[if_true]
       exact⟨f,by omega,Hy⟩
      ·simp only[if_true];omega
     ·have Ri:uJ (aV P) HV (aT l)=false:=by simpa using pe
      rw[Ri]
      have fJ:∀y,y<aT l→gr (aV P) HV y=false:=fun y hy=>by
       unfold uJ at Ri
       have:=List.any_eq_false.1 Ri y (List.mem_range.2 hy)
       simpa using this
      have bf:lF (aV P) (g9 (aV P) OS)=[]:=WR.2 fun y=>by
       rw[←G1]
       by_cases hy:y<aT l
       ·exact fJ y hy
       ·unfold gr;rw[List.getElem?_eq_none (by rw[Fv.len];omega)]
      rw[if_pos bf]at Hy
      have pW:rN l 0 (fP P (aV P) HV (aT l))=rN l 0 (dD P):=FX l fun y _ hy=>by
       unfold fP
       rw[if_pos (by omega),fJ y (by omega)];simp
      rw[pW]
      refine gm (false,P) ⟨hP,Z3,?_⟩ ?_
      ·simp only[Bool.false_eq_true,if_false]
       exact Hy.symm
      ·simp
  ·subst pe
   have ml:pF B OS=aV P:=by simpa using ml
   rw[ml,ai7 Fv]
   refine fV (fun i=>[.d x,aQ 1 (j8 l L),aQ 1 (nk l),nh ((rN l 0 (dD P)).map cj),aQ 1 (((rN l 0 fun x=>hr (aV P) x&&dD (aV P) x).take i).map fS),.d (.int .i64 ((i:Nat):Int))]) (fun i=>[[.d (.int .i64 0),.d (.int .i64 0),.d (.int .i64 0),.d (.str [])],[.d (.int .i64 0),.d (.int .i64 0),.d (.int .i64 0),.d (.str [])]]) l.length (fun i hi I4 um=>?_) (fun I4=>?_)
   ·obtain⟨m,dc⟩:=get_some hi
    obtain⟨y,hy,gM⟩:=hl.at_ dc
    have cm:=hm m (List.mem_of_getElem? dc)
    have kJ:=KD dc hy
    have Re:=PK dc
    have nO:=xb 0 (fun x=>hr (aV P) x&&dD (aV P) x) dc
    have Hx:=xb 0 (dD P) dc
    rw[Nat.zero_add]at nO Hx
    rw[dX nO,List.map_append,List.map_cons,List.map_nil]at um
    have wT:ah.aE m.ay≤120:=Nat.le_trans (ah.qQ _) cm.sz
    have vD:=hP.bk dc
    cases gM with
    |mk xs Ls uc pV=>
    have zb:oS (.agg [.str m.name,.int .i64 m.vU,xs]) 2=xs:=rfl
    rw[zb,uc.el]at kJ
    have pc:(cL m.ay Ls 0).length =ah.aE m.ay:=oa _ _ _
    have hz:di (.d (.int .i64 ((i:Nat):Int)))=.d (.int .i64 ((i:Nat):Int)):=rfl
    have rF:((rN l 0 (dD P)).map fS)[i]? =some (fS (dN (dD P) (aT (l.take i)) (ah.aE m.ay))):=by rw[List.getElem?_map,Hx];rfl
    simp only[hx.len,hl.len,sS,sT,sZ]
    refine And.intro (fun _=>?_) (fun h=>absurd h (by simp;omega))
    simp only[Ob,ui,hz,(cK 1 (j8 l L)).at kJ,(cK 1 (nk l)).at Re,zS.at rF,yy,yn,(cK 4 (gZ (cL m.ay Ls 0))).len,ym,pc,Dn,PG,sS,sT,sZ]
    refine⟨by omega,?_⟩
    have IK:=TI m.ay 0 (cL m.ay Ls 0) (dN (dD P) (aT (l.take i)) (ah.aE m.ay)) (List.replicate (ah.aE m.ay) false) pV (tq.self _) (cK 4 _) (cK 1 _) (nY _) (by rw[pc];omega) (by rw[jR,pc]) (by rw[pc];simp) (by rw[pc];omega)
    rw[WN hP.up vD]at IK
    refine Eb IK rfl ?_
    refine⟨Zd _,rfl,?_⟩
    have Rg:∀r:List Bool,om (.aZ 1 (cj r))=some (.own 1 (cj r)):=fun _=>rfl
    have IL:∀r:List Bool,aa (.own 1 (cj r))=.d (fS r):=fun _=>rfl
    have e1:dN (hr (aV P)) (aT (l.take i)) (ah.aE m.ay)=dN (gP (aV P) (aT (l.take i)+0)) (aT (l.take i)) (ah.aE m.ay):=Jo fun j hj=>by unfold gP;rw[if_neg (by omega)]
    simp only[sc,jR]
    rw[e1]
    refine fV (fun k=>[.d x,aQ 1 (j8 l L),aQ 1 (nk l),nh ((rN l 0 (dD P)).map cj),aQ 1 (((rN l 0 fun x=>hr (aV P) x&&dD (aV P) x).take i).map fS),.d (.int .i64 ((i:Nat):Int)),.d (.int .i64 ((k:Nat):Int))]) (fun k=>[[.d (.int .i64 0),.d (.int .i64 0),.d (.int .i64 0),.d (.str [])],[.d (.int .i64 0),.d (.int .i64 0),.d (.int .i64 0),.d (.str [])],bc (cj (dN (gP (aV P) (aT (l.take i)+k)) (aT (l.take i)) (ah.aE m.ay)))]) (ah.aE m.ay) (fun k hk I5 pn=>?_) (fun I5=>?_)
    ·have p6:di (.d (.int .i64 ((k:Nat):Int)))=.d (.int .i64 ((k:Nat):Int)):=rfl
     have H5:=afj (jR (gP (aV P) (aT (l.take i)+k)) (aT (l.take i)) (ah.aE m.ay))
     have rA:(dN (gP (aV P) (aT (l.take i)+k)) (aT (l.take i)) (ah.aE m.ay))[k]? =some (hr (aV P) (aT (l.take i)+k)):=by
      rw[ns hk];unfold gP;rw[if_neg (by omega)]
     have mz:(dN (dD P) (aT (l.take i)) (ah.aE m.ay))[k]? =some (dD P (aT (l.take i)+k)):=ns hk
     have lJ:cN (.d (.int .i64 (k:Int))) (ah.aE m.ay)=some k:=je hk
     have eW:=afi (f:=gP (aV P) (aT (l.take i)+k)) (b:=aT (l.take i)) (v:=hr (aV P) (aT (l.take i)+k)&&dD (aV P) (aT (l.take i)+k)) hk
     rw[aje,LF]at eW
     rw[←Nat.add_assoc,←eW]at pn
     have Cs:=br hk (Nat.le_trans wT (by decide))
     generalize hr (aV P) (aT (l.take i)+k)=hb at rA pn
     generalize dD P (aT (l.take i)+k)=mb at mz pn
     simp only[H5,hz,p6,(nY _).at (sj rA),yi,ui,zS.at rF,yn,(nY _).at (sj mz),AE,Aq,true_and,lJ,O9,jR,sS,sT,sZ]
     have IB:∀v:Bool,aB (.d (.bool v))=some [.d (.bool v)]:=fun _=>rfl
     refine And.intro (fun _=>And.intro (fun h1=>?_) (fun h1=>?_)) (fun h=>absurd h (by simp;omega))
     ·refine aU (IB mb) ⟨rfl,by omega,?_⟩
      refine aU Cs ?_
      rw[GJ]
      rw[h1,Bool.true_and]at pn
      exact pn
     ·refine aU (IB false) ⟨rfl,by omega,?_⟩
      refine aU Cs ?_
      rw[GJ]
      rw[h1,Bool.false_and]at pn
      exact pn
    ·have hg:=JX (dN (gP (aV P) (aT (l.take i)+ah.aE m.ay)) (aT (l.take i)) (ah.aE m.ay))
     rw[jR]at hg
     have oq:dN (gP (aV P) (aT (l.take i)+ah.aE m.ay)) (aT (l.take i)) (ah.aE m.ay)=dN (fun x=>hr (aV P) x&&dD (aV P) x) (aT (l.take i)) (ah.aE m.ay):=Jo fun j hj=>by unfold gP;rw[if_pos (by omega)]
     rw[oq]at hg
     simp only[DJ,hg,Rg,IL,dG,WS,Ao,oq,sS,sT,sZ]
     refine And.intro (fun h=>absurd (of_decide_eq_true h) (Int.lt_irrefl _)) (fun _=>?_)
     refine gN (wh _) (by simp only[List.length_map,List.length_take,List.length_singleton];omega) ?_
     refine aU (br hi ct) ?_
     exact um
   ·simp only[hx.len,hl.len,sS,sT,sZ]
    refine And.intro (fun h=>absurd h (by simp)) (fun _=>?_)
    have oJ:(rN l 0 (fun x=>hr (aV P) x&&dD (aV P) x)).length =l.length:=GL l 0 _
    rw[List.take_of_length_le (by omega:(rN l 0 (fun x=>hr (aV P) x&&dD (aV P) x)).length ≤l.length)]
    simp only[yz,uM,dq,dr,fE,dC,sS,sT,sZ]
    exact⟨kS _ _,rfl⟩
end Go.Proofs.Ytimbllcalipehaa.Ab
namespace Go.Proofs.Ytimbllcalipehaa.Ab
open Go
set_option linter.unusedVariables false
set_option maxRecDepth 4000
theorem agY(a b c:Int)(n:List UInt8):ai (some (true,[.int,.int,.int,.str])) .eql (.d (.agg [.int .i64 a,.int .i64 b,.int .i64 c,.str n])) (.d (.agg [.int .i64 a,.int .i64 b,.int .i64 c,.str n]))=some (.d (.bool true)):=by
 simp[ai,gH,eK,gF,oY]
theorem PM(a:List (List Bool)):zc a (a.map fS):=⟨by simp,fun{i r}h=>⟨fS r,by simp[h],nY r⟩⟩
theorem aa2{l:List bg}{L:List D}{x:D}(hx:aW 3 L x)(hl:o9 l L)(h8:l.length≤8)(hm:∀m∈l,de m.ay):∃(a:List (List Bool)) (y1 y2:D) (L1 L2:List D) (r6:SV) (c1 c2 c3:Int) (nm:List UInt8),
  aG Try.prog gl 11 [.d x] (.aJ [.d y1,.d (.agg [.int .i64 c1,.int .i64 c2,.int .i64 c3,.str nm])])∧aG Try.prog gl 12 [.d x] (.aJ [r6,.d (.agg [.int .i64 c1,.int .i64 c2,.int .i64 c3,.str nm])])∧
  aa r6=.d y2∧aW 1 L1 y1∧zc a L1∧aW 1 L2 y2∧zc a L2∧∀r∈a,r.length≤maxLen:=by
 have hE:=IV hx hl h8 hm
 have hR:=aar hx hl h8 hm
 cases he:uF l with
 |error e=>
  obtain⟨c0,s0⟩:=e
  rw[he]at hE hR
  exact⟨[],_,_,[],[],_,_,_,_,_,hE,hR,rfl,.nil 0 rfl,PM [],.nil 0 rfl,PM [],fun r hr=>by simp at hr⟩
 |ok o=>
  rw[he]at hE hR
  refine⟨o,_,bB 1 (o.map fS),o.map oE,o.map fS,_,_,_,_,_,hE,hR,ez _ _,.ro,WG o,cK _ _,PM o,fun r hr=>?_⟩
  unfold uF at he
  split at he
  ·cases he
  ·rename_i o1 hd
   cases he
   have h1:=(O4 h8 hm hd).2
   unfold uE at hr
   obtain⟨i,_,rfl⟩:=List.mem_map.1 hr
   unfold lk
   rw[List.length_map]
   exact Nat.le_trans (List.length_filter_le _ _) (Nat.le_trans h1 (by decide))
theorem acI{l:List bg}{L:List D}{x:D}(hx:aW 3 L x)(hl:o9 l L):aG Try.prog gl 3 [.d x] (.d (.bool true)):=by
 refine cM bG (cb (fn:=Try.f3) (by kernel_rfl) (by kernel_rfl) (by kernel_rfl)) (h:=h3) ?_;rw[ajI];intro bJ
 simp only[sS,sT,sZ]
 refine dZ (abq hx hl) ?_
 simp only[aki,sS,sT,sZ]
 have aw:ba (aG Try.prog gl) 10 [] fun r=>(aa r).aD =true∧aa r=.d (.bool true):=cV Up rfl ⟨rfl,rfl⟩
 have aw2:ba (aG Try.prog gl) 10 [] fun r=>(aa (aa r)).aD =true∧aa (aa r)=.d (.bool true):=cV Up rfl ⟨rfl,rfl⟩
 refine And.intro (fun h=>aw) (fun h=>?_)
 obtain⟨h8,hm⟩:=VI (by simpa using h)
 have ct:l.length≤maxLen:=Nat.le_trans h8 (by decide)
 obtain⟨a,y1,y2,L1,L2,r6,c1,c2,c3,nm,hE,hR,hd6,q1,q2,q3,q4,q5⟩:=aa2 hx hl h8 hm
 refine call2 hE ?_
 simp only[dq,dr,z4,sS,sT,sZ]
 refine call2 hR ?_
 simp only[hd6,dq,dr,z4,hx.len,hl.len,sS,sT,sZ]
 refine fV (fun i=>[.d x,.d y1,.d y2,.d (.int .i64 (l.length:Int)),.d (.int .i64 ((i:Nat):Int))]) (fun i=>[[.d (.int .i64 c1),.d (.int .i64 c2),.d (.int .i64 c3),.d (.str nm)],[.d (.int .i64 c1),.d (.int .i64 c2),.d (.int .i64 c3),.d (.str nm)]]) l.length (fun i hi I hI=>?_) (fun I=>?_)
 ·simp only[sS,sT,sZ]
  refine And.intro (fun _=>?_) (fun h=>absurd h (by simp;omega))
  obtain⟨m,dc⟩:=get_some hi
  obtain⟨y,hy,gM⟩:=hl.at_ dc
  have cm:=hm m (List.mem_of_getElem? dc)
  have pr:=TS gM cm
  have pt:=aaE gM cm
  cases gM with
  |mk xs Ls uc pV=>
  simp only[hx.at hy,DB,sS,sT,sZ]
  refine dZ pr ?_
  refine dZ pt ?_
  simp only[eQ,sS,sT,sZ]
  refine And.intro (fun h=>absurd h (by simp)) (fun _=>?_)
  refine aU (br hi ct) ?_
  exact hI
 ·simp only[sS,sT,sZ]
  refine And.intro (fun h=>absurd h (by simp)) (fun _=>?_)
  refine dZ (Uo q1 q3 q2 q4 q5) ?_
  simp only[dC,agY,beq_self_eq_true,sS,sT,sZ]
  exact⟨fun _=>⟨fun _=>aw2,fun h=>by cases h⟩,fun h=>by cases h⟩
end Go.Proofs.Ytimbllcalipehaa.Ab
namespace Go.Proofs.Ytimbllcalipehaa.Ab
open Go
theorem akq:eJ Try.prog 9=some false:=by kernel_rfl
theorem ajg:eJ Try.prog 56=some true:=by kernel_rfl
theorem agZ:Try.prog.cellsOf 9=1:=by kernel_rfl
theorem ag0:Try.prog.cellsOf 56=10:=by kernel_rfl
theorem uY{xs:List D}(h:Is Try.prog 9 xs):∃s,xs=[.str s]:=by
 obtain⟨s,rfl,_⟩:=h.x8 Try.underlying9
 exact⟨s,rfl⟩
theorem Ki{xs:List D}(h:Is Try.prog 4 xs):∃b,xs=[.bool b]:=h.wA Try.underlying4
theorem yD{xs:List D}(h:Is Try.prog 3 xs):∃n,xs=[.int .i64 n]:=by
 obtain⟨n,rfl,_⟩:=h.uT Try.underlying3
 exact⟨n,rfl⟩
theorem Gq{xs:List D}(h:Is Try.prog 48 xs):∃(l:List (List UInt8)) (x:D),xs=[x]∧aW 1 (cP l) x:=by
 rcases h.Pr Try.underlying48 akq with rfl|⟨L,rfl,hm,hL⟩
 ·exact⟨[],_,rfl,.nil 0 rfl⟩
 ·obtain⟨l,hl,hn⟩:=Xb (b:=false) (f:=D.str) (fun x hx=>by obtain⟨s,rfl⟩:=uY hx;exact⟨s,rfl⟩) L hL
  refine⟨l,_,rfl,?_⟩
  rw[hl,agZ]
  exact .ro
theorem Kj{xs:List D}(h:Is Try.prog 51 xs):∃x:BitVec 64,xs=[dW x]:=by
 obtain⟨n,rfl,hn⟩:=h.uT Try.underlying51
 rw[Ng]at hn
 have h0:0≤n:=hn.1
 have h1:n≤18446744073709551615:=hn.2
 obtain⟨m,rfl⟩:=Int.eq_ofNat_of_zero_le h0
 refine⟨BitVec.ofNat 64 m,?_⟩
 have:(BitVec.ofNat 64 m).toNat =m:=by
  rw[BitVec.toNat_ofNat]
  exact Nat.mod_eq_of_lt (by omega)
 rw[dW,this]
theorem ajh{xs:List D}(h:Is Try.prog 53 xs):∃w:Nat→BitVec 64,xs=[dW (w 0),dW (w 1),dW (w 2),dW (w 3)]:=by
 obtain⟨parts,rfl,hl,hp⟩:=h.ac1 Try.underlying53
 match parts,hl,hp with
 |[a,b,c,d],_,hp=>
  obtain⟨x,rfl⟩:=Kj (hp a (by simp))
  obtain⟨y,rfl⟩:=Kj (hp b (by simp))
  obtain⟨z,rfl⟩:=Kj (hp c (by simp))
  obtain⟨u,rfl⟩:=Kj (hp d (by simp))
  exact⟨fun i=>if i=0 then x else if i=1 then y else if i=2 then z else u,rfl⟩
theorem XN:wG Try.prog [9,3,4,48,51,53,54,56,28,50,57,143,59,61,63,34,65,22,36]=true:=by kernel_rfl
theorem adT{t:TypeId}{xs:List D}(h:Is Try.prog t xs):(t=56→∃e:Xp,mX e (.agg xs))∧
  (t=54→∃(l:List Xp) (L:List D) (x:D),xs=[x]∧aW 10 L x∧L.length=l.length∧∀(i:Nat)k y,l[i]? =some k→L[i]? =some y→mX k y):=by
 have hx:56≠54:=by decide
 induction h with
 |struct h parts hl hp ih=>
  refine⟨fun ht=>?_,fun ht=>?_⟩
  ·subst ht
   rw[Try.underlying56]at h
   cases h
   match parts,hl,hp,ih with
   |[a,b,c,d,n,s,k],_,hp,ih=>
    obtain⟨op,rfl⟩:=yD (hp 0 _ _ rfl rfl)
    obtain⟨a',rfl⟩:=yD (hp 1 _ _ rfl rfl)
    obtain⟨rel,rfl⟩:=yD (hp 2 _ _ rfl rfl)
    obtain⟨b',rfl⟩:=yD (hp 3 _ _ rfl rfl)
    obtain⟨names,nm,rfl,hn⟩:=Gq (hp 4 _ _ rfl rfl)
    obtain⟨w,rfl⟩:=ajh (hp 5 _ _ rfl rfl)
    obtain⟨l,L,x,rfl,hd,jn,hk⟩:=(ih 6 _ _ rfl rfl).2 rfl
    exact⟨_,.mk op a' rel b' names w l nm x L hn jn hk hd⟩
  ·subst ht
   rw[Try.underlying54]at h
   cases h
 |jU h=>exact⟨fun ht=>(by subst ht;rw[Try.underlying56]at h;cases h),fun ht=>⟨[],[],_,rfl,.nil 0 rfl,rfl,fun i k y h1=>by simp at h1⟩⟩
 |sl h b hb L hm hL ih=>
  refine⟨fun ht=>(by subst ht;rw[Try.underlying56]at h;cases h),fun ht=>?_⟩
  subst ht
  rw[Try.underlying54]at h
  cases h
  rw[ajg]at hb
  cases hb
  have key:∀(L:List (List D)),(∀x∈L,∃e:Xp,mX e (.agg x))→∃l:List Xp,(L.map (pack true)).length =l.length∧∀(i:Nat)k y,l[i]? =some k→(L.map (pack true))[i]? =some y→mX k y:=by
   intro L
   induction L with
   |nil=>intro _;exact⟨[],rfl,fun i k y h1=>by simp at h1⟩
   |cons x L IQ=>
    intro h
    obtain⟨e,he⟩:=h x (by simp)
    obtain⟨l,h1,h2⟩:=IQ fun y hy=>h y (by simp[hy])
    refine⟨e::l,by simp at h1 ⊢;exact h1,fun i k y a b=>?_⟩
    cases i with
    |zero=>simp at a b;subst a b;exact he
    |succ i=>exact h2 i k y (by simpa using a) (by simpa using b)
  obtain⟨l,h1,h2⟩:=key L fun x hx=>(ih x hx).1 rfl
  refine⟨l,_,_,rfl,?_,h1,h2⟩
  rw[ag0]
  exact .ro
 |bool h=>exact⟨fun ht=>(by subst ht;rw[Try.underlying56]at h;cases h),fun ht=>(by subst ht;rw[Try.underlying54]at h;cases h)⟩
 |int h=>exact⟨fun ht=>(by subst ht;rw[Try.underlying56]at h;cases h),fun ht=>(by subst ht;rw[Try.underlying54]at h;cases h)⟩
 |str h=>exact⟨fun ht=>(by subst ht;rw[Try.underlying56]at h;cases h),fun ht=>(by subst ht;rw[Try.underlying54]at h;cases h)⟩
 |array h=>exact⟨fun ht=>(by subst ht;rw[Try.underlying56]at h;cases h),fun ht=>(by subst ht;rw[Try.underlying54]at h;cases h)⟩
theorem akr{xs:List D}(h:Is Try.prog 56 xs):∃e:Xp,mX e (pack true xs):=(adT h).1 rfl
end Go.Proofs.Ytimbllcalipehaa.Ab
namespace Go.Proofs.Ytimbllcalipehaa.Ab
open Go
set_option maxRecDepth 4000
set_option linter.unusedVariables false
def Zf(L:List D):Prop:=∀(i:Nat)y,L[i]? =some y→∃s t:List UInt8,y=.agg [.str s,.str t]
end Go.Proofs.Ytimbllcalipehaa.Ab
namespace Go.Proofs.Ytimbllcalipehaa.Ab
open Go
set_option maxRecDepth 4000
set_option linter.unusedVariables false
structure NsA where
 (a b c x y:D)
 (l m:List (List UInt8))
 (hx:aW 1 (cP l) x)
 (hy:aW 1 (cP m) y)
structure IS where
 (s:List UInt8)
 (c:D)
 (L:List D)
 (h:aW 2 L c)
 (p:Zf L)
structure XpA where
 (c0 c1 c2 c3 c4 c5 c6 c7 c8 c9:D)
 (e:Xp)
 (h:mX e (.agg [c0,c1,c2,c3,c4,c5,c6,c7,c8,c9]))
structure Fw where
 s:gp
 (r t:List UInt8)
 (cD al:D)
 (hl:aW 1 (cP s.list) cD)
 (ha:aW 1 (cP s.j2) al)
 (n1 n2 n3 n4:NsA)
 x:XpA
 (lv lo hi:IS)
 (u v w:List UInt8)
 (cl ch:IS)
 val:Bool
 (th el:D)
 (jN:Is Try.prog 34 [th])
 (fU:Is Try.prog 34 [el])
def Fw.rest(s:Fw):List D:=[s.n1.a,s.n1.b,s.n1.c,s.n1.x,s.n1.y,s.n2.a,s.n2.b,s.n2.c,s.n2.x,s.n2.y,s.n3.a,s.n3.b,s.n3.c,s.n3.x,s.n3.y,s.n4.a,s.n4.b,s.n4.c,s.n4.x,s.n4.y,
 s.x.c0,s.x.c1,s.x.c2,s.x.c3,s.x.c4,s.x.c5,s.x.c6,s.x.c7,s.x.c8,s.x.c9,.str s.lv.s,s.lv.c,.str s.lo.s,s.lo.c,.str s.hi.s,s.hi.c,.str s.u,.str s.v,.str s.w,.str s.cl.s,s.cl.c,.str s.ch.s,s.ch.c,.bool s.val,s.th,s.el]
def Fw.enc(s:Fw):D:=.agg (mF s.s (.str s.r) (.str s.t) s.cD s.al s.rest)
theorem Fw.is(s:Fw):vk s.s s.enc:=.mk _ _ _ _ _ rfl s.hl s.ha
theorem K0{xs:List D}(h:Is Try.prog 50 xs):∃t:NsA,xs=[t.a,t.b,t.c,t.x,t.y]:=by
 obtain⟨parts,rfl,hl,hp⟩:=h.Bu Try.underlying50
 match parts,hl,hp with
 |[q0,q1,q2,q3,q4],_,hp=>
  obtain⟨b0,rfl⟩:=Ki (hp 0 _ _ rfl rfl)
  obtain⟨b1,rfl⟩:=Ki (hp 1 _ _ rfl rfl)
  obtain⟨b2,rfl⟩:=Ki (hp 2 _ _ rfl rfl)
  obtain⟨l,x,rfl,hx⟩:=Gq (hp 3 _ _ rfl rfl)
  obtain⟨m,y,rfl,hy⟩:=Gq (hp 4 _ _ rfl rfl)
  exact⟨⟨.bool b0,.bool b1,.bool b2,x,y,l,m,hx,hy⟩,rfl⟩
theorem aji:eJ Try.prog 143=some true:=by kernel_rfl
theorem ajj:Try.prog.cellsOf 143=2:=by kernel_rfl
theorem aks{xs:List D}(h:Is Try.prog 143 xs):∃s t:List UInt8,xs=[.str s,.str t]:=by
 obtain⟨parts,rfl,hl,hp⟩:=h.Bu Try.underlying143
 match parts,hl,hp with
 |[q0,q1],_,hp=>
  obtain⟨s,rfl⟩:=uY (hp 0 _ _ rfl rfl)
  obtain⟨t,rfl⟩:=uY (hp 1 _ _ rfl rfl)
  exact⟨s,t,rfl⟩
theorem ajk{xs:List D}(h:Is Try.prog 57 xs):∃(L:List D) (x:D),xs=[x]∧aW 2 L x∧Zf L:=by
 rcases h.Pr Try.underlying57 aji with rfl|⟨L,rfl,hm,hL⟩
 ·exact⟨[],_,rfl,.nil 0 rfl,fun i y h=>by simp at h⟩
 ·refine⟨L.map (pack true),_,rfl,by rw[ajj];exact .ro,fun i y hy=>?_⟩
  rw[List.getElem?_map]at hy
  cases hx:L[i]? with
  |none=>rw[hx]at hy;cases hy
  |some z=>
   rw[hx]at hy
   obtain⟨s,t,rfl⟩:=aks (hL z (List.mem_of_getElem? hx))
   cases hy
   exact⟨s,t,rfl⟩
theorem Qi{xs:List D}(h:Is Try.prog 59 xs):∃t:IS,xs=[.str t.s,t.c]:=by
 obtain⟨parts,rfl,hl,hp⟩:=h.Bu Try.underlying59
 match parts,hl,hp with
 |[q0,q1],_,hp=>
  obtain⟨s,rfl⟩:=uY (hp 0 _ _ rfl rfl)
  obtain⟨L,x,rfl,h1,h2⟩:=ajk (hp 1 _ _ rfl rfl)
  exact⟨⟨s,x,L,h1,h2⟩,rfl⟩
theorem YH{xs:List D}(h:Is Try.prog 61 xs):∃t u:IS,xs=[.str t.s,t.c,.str u.s,u.c]:=by
 obtain⟨parts,rfl,hl,hp⟩:=h.Bu Try.underlying61
 match parts,hl,hp with
 |[q0,q1],_,hp=>
  obtain⟨t,rfl⟩:=Qi (hp 0 _ _ rfl rfl)
  obtain⟨u,rfl⟩:=Qi (hp 1 _ _ rfl rfl)
  exact⟨t,u,rfl⟩
theorem ajl{xs:List D}(h:Is Try.prog 63 xs):∃(a b c:List UInt8) (t u:IS),xs=[.str a,.str b,.str c,.str t.s,t.c,.str u.s,u.c]:=by
 obtain⟨parts,rfl,hl,hp⟩:=h.Bu Try.underlying63
 match parts,hl,hp with
 |[q0,q1,q2,q3],_,hp=>
  obtain⟨a,rfl⟩:=uY (hp 0 _ _ rfl rfl)
  obtain⟨b,rfl⟩:=uY (hp 1 _ _ rfl rfl)
  obtain⟨c,rfl⟩:=uY (hp 2 _ _ rfl rfl)
  obtain⟨t,u,rfl⟩:=YH (hp 3 _ _ rfl rfl)
  exact⟨a,b,c,t,u,rfl⟩
theorem ajm{xs:List D}(h:Is Try.prog 56 xs):∃t:XpA,xs=[t.c0,t.c1,t.c2,t.c3,t.c4,t.c5,t.c6,t.c7,t.c8,t.c9]:=by
 obtain⟨e,he⟩:=akr h
 have CI:mX e (.agg xs):=he
 obtain⟨nm,kd,L,hx,_⟩:=CI.inv
 cases hx
 exact⟨⟨_,_,_,_,_,_,_,_,_,_,e,CI⟩,rfl⟩
theorem ajn{xs:List D}(h:Is Try.prog 28 xs):∃a b:Int,xs=[.int .i64 a,.int .i64 b]:=by
 obtain⟨parts,rfl,hl,hp⟩:=h.Bu Try.underlying28
 match parts,hl,hp with
 |[q0,q1],_,hp=>
  obtain⟨a,rfl⟩:=yD (hp 0 _ _ rfl rfl)
  obtain⟨b,rfl⟩:=yD (hp 1 _ _ rfl rfl)
  exact⟨a,b,rfl⟩
theorem ag1:eJ Try.prog 65=some true:=by kernel_rfl
theorem ag2:Try.prog.cellsOf 65=55:=by kernel_rfl
end Go.Proofs.Ytimbllcalipehaa.Ab
namespace Go.Proofs.Ytimbllcalipehaa.Ab
open Go
set_option maxRecDepth 4000
set_option linter.unusedVariables false
theorem afk{t:TypeId}{xs:List D}(h:Is Try.prog t xs):(t=65→∃e:ah,na e (.agg xs))∧
  (t=34→∃(l:List ah) (L:List D) (x:D),xs=[x]∧aW 55 L x∧fe l L):=by
 have hx:65≠34:=by decide
 induction h with
 |struct h parts hl hp ih=>
  refine⟨fun ht=>?_,fun ht=>?_⟩
  ·subst ht
   rw[Try.underlying65]at h
   cases h
   match parts,hl,hp,ih with
   |[q0,q1,q2,q3,q4,q5,q6,q7,q8,q9,q10,q11,q12,q13,q14,q15,q16,q17,q18],_,hp,ih=>
    obtain⟨k,rfl⟩:=yD (hp 0 _ _ rfl rfl)
    obtain⟨op,rfl⟩:=yD (hp 1 _ _ rfl rfl)
    obtain⟨ln,cl,rfl⟩:=ajn (hp 2 _ _ rfl rfl)
    obtain⟨n,rfl⟩:=uY (hp 3 _ _ rfl rfl)
    obtain⟨r,rfl⟩:=uY (hp 4 _ _ rfl rfl)
    obtain⟨t,rfl⟩:=uY (hp 5 _ _ rfl rfl)
    obtain⟨l1,x1,rfl,h1⟩:=Gq (hp 6 _ _ rfl rfl)
    obtain⟨l2,x2,rfl,h2⟩:=Gq (hp 7 _ _ rfl rfl)
    obtain⟨n1,rfl⟩:=K0 (hp 8 _ _ rfl rfl)
    obtain⟨n2,rfl⟩:=K0 (hp 9 _ _ rfl rfl)
    obtain⟨n3,rfl⟩:=K0 (hp 10 _ _ rfl rfl)
    obtain⟨n4,rfl⟩:=K0 (hp 11 _ _ rfl rfl)
    obtain⟨e,rfl⟩:=ajm (hp 12 _ _ rfl rfl)
    obtain⟨lv,rfl⟩:=Qi (hp 13 _ _ rfl rfl)
    obtain⟨lo,hi,rfl⟩:=YH (hp 14 _ _ rfl rfl)
    obtain⟨u,v,w,c1,c2,rfl⟩:=ajl (hp 15 _ _ rfl rfl)
    obtain⟨b,rfl⟩:=Ki (hp 16 _ _ rfl rfl)
    obtain⟨ta,La,ya,rfl,zR,v9⟩:=(ih 17 _ _ rfl rfl).2 rfl
    obtain⟨tb,Lb,yb,rfl,gV,jo⟩:=(ih 18 _ _ rfl rfl).2 rfl
    exact⟨.mk ⟨k,op,ln,cl,n,l1,l2⟩ ta tb,.mk ⟨k,op,ln,cl,n,l1,l2⟩ ta tb (.str r) (.str t) x1 x2
     ([n1.a,n1.b,n1.c,n1.x,n1.y]++[n2.a,n2.b,n2.c,n2.x,n2.y]++[n3.a,n3.b,n3.c,n3.x,n3.y]++[n4.a,n4.b,n4.c,n4.x,n4.y]++
       [e.c0,e.c1,e.c2,e.c3,e.c4,e.c5,e.c6,e.c7,e.c8,e.c9]++[.str lv.s,lv.c]++[.str lo.s,lo.c,.str hi.s,hi.c]++[.str u,.str v,.str w,.str c1.s,c1.c,.str c2.s,c2.c]++[.bool b,ya,yb])
     ya yb La Lb rfl h1 h2 rfl rfl zR gV v9 jo⟩
  ·subst ht
   rw[Try.underlying34]at h
   cases h
 |jU h=>exact⟨fun ht=>(by subst ht;rw[Try.underlying65]at h;cases h),fun ht=>⟨[],[],_,rfl,.nil 0 rfl,.nil⟩⟩
 |sl h b hb L hm hL ih=>
  refine⟨fun ht=>(by subst ht;rw[Try.underlying65]at h;cases h),fun ht=>?_⟩
  subst ht
  rw[Try.underlying34]at h
  cases h
  rw[ag1]at hb
  cases hb
  have key:∀(L:List (List D)),(∀x∈L,∃e:ah,na e (.agg x))→∃l:List ah,fe l (L.map (pack true)):=by
   intro L
   induction L with
   |nil=>intro _;exact⟨[],.nil⟩
   |cons x L IQ=>
    intro h
    obtain⟨e,he⟩:=h x (by simp)
    obtain⟨l,h1⟩:=IQ fun y hy=>h y (by simp[hy])
    exact⟨e::l,.cons _ _ _ _ he h1⟩
  obtain⟨l,h1⟩:=key L fun x hx=>(ih x hx).1 rfl
  refine⟨l,_,_,rfl,?_,h1⟩
  rw[ag2]
  exact .ro
 |bool h=>exact⟨fun ht=>(by subst ht;rw[Try.underlying65]at h;cases h),fun ht=>(by subst ht;rw[Try.underlying34]at h;cases h)⟩
 |int h=>exact⟨fun ht=>(by subst ht;rw[Try.underlying65]at h;cases h),fun ht=>(by subst ht;rw[Try.underlying34]at h;cases h)⟩
 |str h=>exact⟨fun ht=>(by subst ht;rw[Try.underlying65]at h;cases h),fun ht=>(by subst ht;rw[Try.underlying34]at h;cases h)⟩
 |array h=>exact⟨fun ht=>(by subst ht;rw[Try.underlying65]at h;cases h),fun ht=>(by subst ht;rw[Try.underlying34]at h;cases h)⟩
theorem ajo{xs:List D}(h:Is Try.prog 36 xs):∃t:bg,lj t (pack true xs):=by
 obtain⟨parts,rfl,hl,hp⟩:=h.Bu Try.underlying36
 match parts,hl,hp with
 |[q0,q1,q2],_,hp=>
  obtain⟨n,rfl⟩:=uY (hp 0 _ _ rfl rfl)
  obtain⟨v,rfl⟩:=yD (hp 1 _ _ rfl rfl)
  obtain⟨l,L,x,rfl,h1,h2⟩:=(afk (hp 2 _ _ rfl rfl)).2 rfl
  exact⟨⟨n,v,l⟩,.mk x L h1 h2⟩
theorem ag3:eJ Try.prog 36=some true:=by kernel_rfl
theorem ag4:Try.prog.cellsOf 36=3:=by kernel_rfl
theorem ajp{xs:List D}(h:Is Try.prog 22 xs):∃(l:List bg) (L:List D) (x:D),xs=[x]∧aW 3 L x∧o9 l L:=by
 rcases h.Pr Try.underlying22 ag3 with rfl|⟨L,rfl,hm,hL⟩
 ·exact⟨[],[],_,rfl,.nil 0 rfl,rfl,fun{i m}h=>by simp at h⟩
 ·have key:∀(L:List (List D)),(∀x∈L,∃e:bg,lj e (pack true x))→∃l:List bg,o9 l (L.map (pack true)):=by
   intro L
   induction L with
   |nil=>intro _;exact⟨[],rfl,fun{i m}h=>by simp at h⟩
   |cons x L IQ=>
    intro h
    obtain⟨e,he⟩:=h x (by simp)
    obtain⟨l,h1⟩:=IQ fun y hy=>h y (by simp[hy])
    refine⟨e::l,by simp[h1.len.symm],fun{i m}hi=>?_⟩
    cases i with
    |zero=>simp at hi;subst hi;exact⟨_,rfl,he⟩
    |succ i=>exact h1.at_ (by simpa using hi)
  obtain⟨l,h1⟩:=key L fun x hx=>ajo (hL x hx)
  refine⟨l,_,_,rfl,?_,h1⟩
  rw[ag4]
  exact .ro
theorem ag5:eJ Try.prog 22=some false:=by kernel_rfl
end Go.Proofs.Ytimbllcalipehaa.Ab
