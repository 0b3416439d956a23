/-
  MISSING: the requirements that other symbols do not meet.
-/
import Derived.Test.YtimbllcalipehaaTg
import Derived.Test.YtimbllcalipehaaTe
import Derived.Test.YtimbllcalipehaaChecked
import Derived.Test.YtimbllcalipehaaTd
set_option linter.unusedVariables false
set_option linter.unusedSimpArgs false
namespace Go.Proofs.Ytimbllcalipehaa.Ab
open Go
set_option linter.unusedVariables false
set_option maxRecDepth 4000
def jl(cF:List au)(x:au):List (List UInt8):=(cF.filter (fE x)).flatMap au.perms
def vG(cF:List au)(x:au):List (List UInt8):=x.perms.filter fun p=> !mP p (jl cF x)
def Al(cF:List au)(x:au):List au:=if !x.eN||Cm x.kind x.name then []else
 if !cF.any (fE x)||decide (0<(vG cF x).length)then [{x with perms:=vG cF x}]else []
def jx(g4 cF:List au):List au:=g4.flatMap (Al cF)
theorem YC{l:List au}{i:Nat}{y:au}(h:l[i]? =some y)(x:au):jl (l.take (i+1)) x=jl (l.take i) x++if fE x y then y.perms else []:=by
 rw[eH h,jl,jl,List.filter_append,List.flatMap_append]
 by_cases hd:fE x y=true<;>simp[hd]
theorem QL(l:List au)(x:au):(jl l x).length ≤cE l:=by
 induction l with
 |nil=>simp[jl,cE]
 |cons y l ih=>
  have:jl (y::l) x=(if fE x y then y.perms else [])++jl l x:=by
   unfold jl
   by_cases hd:fE x y=true
   ·simp[List.filter_cons_of_pos hd,hd]
   ·simp[List.filter_cons_of_neg hd,hd]
  rw[this,List.length_append]
  have h2:cE (y::l)=y.perms.length+cE l:=by simp[cE]
  rw[h2]
  split
  ·omega
  ·simp;omega
theorem UR{p:List UInt8→Bool}{l:List (List UInt8)}{i:Nat}{k:List UInt8}(h:l[i]? =some k):(l.take (i+1)).filter p=(l.take i).filter p++if p k then [k]else []:=by
 rw[eH h,List.filter_append]
 by_cases hp:p k=true<;>simp[hp]
theorem YD(cF:List au)(x:au):(Al cF x).length ≤1:=by
 unfold Al
 split
 ·simp
 ·split<;>simp
theorem Xr{l:List au}{i:Nat}{y:au}(h:l[i]? =some y)(cF:List au):jx (l.take (i+1)) cF=jx (l.take i) cF++Al cF y:=by
 rw[eH h,jx,jx,List.flatMap_append];simp
theorem YE(l cF:List au):(jx l cF).length ≤l.length:=by
 have:=Eb (l:=l) (f:=Al cF) (c:=1) fun x _=>YD cF x
 rw[Nat.mul_one]at this
 exact this
theorem ae5(x:au)(p:List (List UInt8)):setAt x.cells 3 [.d (bB 1 (bU p))]=au.cells {x with perms:=p}:=rfl
theorem P2(s:au):bq 6 1 [(0,s.enc)]=true:=rfl
theorem YF(a b:List (List UInt8)):bU a++bU b=bU (a++b):=by simp[bU]
theorem P3(s:List UInt8):aM false 1 (.aS (.str s) 0)=some (.d (.str s)):=rfl
theorem Uv(g4 cF:List au){x y:D}(hx:aE 6 (bg g4) x)(hy:aE 6 (bg cF) y)(hn:g4.length≤2^30)(hh:cF.length≤2^30)(hp:cE cF≤2^30)(hnp:∀s∈g4,s.perms.length≤2^30):
  aB Try.prog gl 77 [.d x,.d y] (bS 6 (bg (jx g4 cF))):=by
 have yi:g4.length≤maxLen:=Nat.le_trans hn (by decide)
 have TN:cF.length≤maxLen:=Nat.le_trans hh (by decide)
 refine bZ bl (bG (fn:=Try.f77) (by kernel_rfl) (by kernel_rfl) (by kernel_rfl)) (h:=Tf) ?_;rw[aaY];intro ba
 simp only[hx.len,gr,sS,sT,sZ]
 refine gS (fun i=>[.d y,bS 6 (bg (jx (g4.take i) cF)),.d x,.d (.int .i64 (g4.length:Int)),.d (.int .i64 ((i:Nat):Int))]) (fun i=>[]) g4.length (fun i hi I hI=>?_) (fun I=>?_)
 ·simp only[sS,sT,sZ]
  refine And.intro (fun _=>?_) (fun h=>absurd h (by simp;omega))
  obtain⟨s,hs⟩:=get_some hi
  have k9:=hnp s (List.mem_of_getElem? hs)
  have R0:s.perms.length≤maxLen:=Nat.le_trans k9 (by decide)
  have Ga:=YE (g4.take i) cF
  rw[List.length_take]at Ga
  rw[Xr hs]at hI
  simp only[hx.at (tg hs),vj,kK,jK,mD,u9,sM,sN,kb,sS,sT,sZ]
  unfold Al at hI
  refine And.intro (fun h=>?_) (fun h=>?_)
  ·have h':(!s.eN)=true:=h
   rw[h',Bool.true_or,if_pos rfl,List.append_nil]at hI
   refine bC (bK hi yi) ?_
   exact hI
  have h':(!s.eN)=false:=h
  rw[h',Bool.false_or]at hI
  refine eO (GL s.kind s.name) ?_
  simp only[sS,sT,sZ]
  refine And.intro (fun h2=>?_) (fun h2=>?_)
  ·rw[if_pos h2,List.append_nil]at hI
   refine bC (bK hi yi) ?_
   exact hI
  rw[if_neg (by rw[h2];simp)]at hI
  simp only[hy.len,gr,sS,sT,sZ]
  refine gS (fun k=>[.d y,bS 6 (bg (jx (g4.take i) cF)),.d (.bool ((cF.take k).any (fE s))),bS 1 (bU (jl (cF.take k) s)),.d x,.d (.int .i64 (g4.length:Int)),.d (.int .i64 ((i:Nat):Int)),.d y,.d (.int .i64 (cF.length:Int)),.d (.int .i64 ((k:Nat):Int))]) (fun k=>[s.cells]) cF.length (fun k hk I2 cG=>?_) (fun I2=>?_)
  ·simp only[sS,sT,sZ]
   refine And.intro (fun _=>?_) (fun h=>absurd h (by simp;omega))
   obtain⟨t,ht⟩:=get_some hk
   have fe:=QL (cF.take k) s
   have Se:=Dm ht
   have agi:=Hj cF (k+1)
   rw[Yw ht,YC ht]at cG
   simp only[hy.at (tg ht),vj,kK,jK,mD,u9,sM,sN,HW,kb,sS,sT,sZ]
   have skip:fE s t=false→ab (ah none .add (.d (.int .i64 ((k:Nat):Int))) (.d (.int .i64 1))) fun r=>I2 [.d y,bS 6 (bg (jx (g4.take i) cF)),.d (.bool ((cF.take k).any (fE s))),bS 1 (bU (jl (cF.take k) s)),.d x,.d (.int .i64 (g4.length:Int)),.d (.int .i64 ((i:Nat):Int)),.d y,.d (.int .i64 (cF.length:Int)),aa r] [s.cells]:=fun hd=>by
    rw[hd,Bool.or_false,if_neg (by decide),List.append_nil]at cG
    refine bC (bK hk TN) ?_
    exact cG
   refine And.intro (fun h3=>?_) (fun h3=>?_)
   ·refine And.intro (fun h4=>?_) (fun h4=>?_)
    ·have h5:ah (some (false,[.str])) .eql (.d (.str t.name)) (.d (.str s.name))=some (.d (.bool (t.name==s.name))):=Ik _ _
     simp only[h5,sS,sT,sZ]
     refine And.intro (fun h6=>?_) (fun h6=>?_)
     ·have hd:fE s t=true:=by rw[fE,show(!t.eN)=true from h3,show(t.kind==s.kind)=true from h4,h6];rfl
      rw[hd,Bool.or_true,if_pos rfl,←YF]at cG
      refine iV (DK _ _) (by simp only[jn];omega) ?_
      refine bC (bK hk TN) ?_
      exact cG
     ·exact skip (by rw[fE,show(!t.eN)=true from h3,show(t.kind==s.kind)=true from h4,h6];rfl)
    ·exact skip (by rw[fE,show(!t.eN)=true from h3,show(t.kind==s.kind)=false from h4];rfl)
   ·exact skip (by rw[fE,show(!t.eN)=false from h3];rfl)
  ·simp only[sS,sT,sZ]
   refine And.intro (fun h=>absurd h (by simp)) (fun _=>?_)
   rw[List.take_length]
   have fe:=QL cF s
   have nX:(jl cF s).length ≤maxLen:=Nat.le_trans (Nat.le_trans fe hp) (by decide)
   simp only[HW,(eQ 1 (bU s.perms)).len,jn,sS,sT,sZ]
   refine gS (fun k=>[.d y,bS 6 (bg (jx (g4.take i) cF)),.d (.bool (cF.any (fE s))),bS 1 (bU (jl cF s)),bS 1 (bU ((s.perms.take k).filter fun p=> !mP p (jl cF s))),.d x,.d (.int .i64 (g4.length:Int)),.d (.int .i64 ((i:Nat):Int)),.d (bB 1 (bU s.perms)),.d (.int .i64 (s.perms.length:Int)),.d (.int .i64 ((k:Nat):Int))]) (fun k=>[s.cells]) s.perms.length (fun k hk I3 j2=>?_) (fun I3=>?_)
   ·simp only[sS,sT,sZ]
    refine And.intro (fun _=>?_) (fun h=>absurd h (by simp;omega))
    obtain⟨t,ht⟩:=get_some hk
    have o7:=List.length_filter_le (fun p=> !mP p (jl cF s)) (s.perms.take k)
    rw[List.length_take]at o7
    rw[UR ht]at j2
    simp only[(eQ 1 (bU s.perms)).at (zu ht),P3,fh,sS,sT,sZ]
    refine eO (MA (jl cF s) (eQ 1 _) nX t) ?_
    simp only[kb,sS,sT,sZ]
    refine And.intro (fun h3=>?_) (fun h3=>?_)
    ·have mZ:(!mP t (jl cF s))=true:=h3
     rw[if_pos mZ,←Oo]at j2
     simp only[O4,Qv,O5,sS,sT,sZ]
     refine iV (u1 1 _) (by rw[jn];simp only[List.length_singleton];omega) ?_
     refine bC (bK hk R0) ?_
     exact j2
    ·have mZ:(!mP t (jl cF s))=false:=h3
     rw[if_neg (by rw[mZ];simp),List.append_nil]at j2
     refine bC (bK hk R0) ?_
     exact j2
   ·simp only[sS,sT,sZ]
    refine And.intro (fun h=>absurd h (by simp)) (fun _=>?_)
    rw[List.take_length]
    have lQ:(s.perms.filter fun p=> !mP p (jl cF s))=vG cF s:=rfl
    rw[lQ]
    simp only[kb,fh,A9,ae5,lA,sS,sT,sZ]
    have fin:(!cF.any (fE s)||decide (0<(vG cF s).length))=true→ck 6 72 (bS 6 (bg (jx (g4.take i) cF))) (.full 6 [au.enc {s with perms:=vG cF s}]) fun r=>ab (ah none .add (.d (.int .i64 ((i:Nat):Int))) (.d (.int .i64 1))) fun r2=>I [.d y,r,.d x,.d (.int .i64 (g4.length:Int)),aa r2] []:=fun hc=>by
     rw[if_pos hc]at hI
     refine iV (u1 6 _) (by simp only[gr,List.length_singleton];omega) ?_
     refine bC (bK hi yi) ?_
     have e:bg (jx (g4.take i) cF)++[au.enc {s with perms:=vG cF s}]=bg (jx (g4.take i) cF++[{s with perms:=vG cF s}]):=by simp[bg]
     rw[e]
     exact hI
    refine And.intro (fun h3=>?_) (fun h3=>?_)
    ·have mZ:(!cF.any (fE s))=true:=h3
     refine⟨rfl,by simp only[jK];decide,?_⟩
     simp only[dD,P2,lq,sS,sT,sZ]
     exact fin (by rw[mZ];rfl)
    ·have mZ:(!cF.any (fE s))=false:=h3
     simp only[(eQ 1 (bU (vG cF s))).len,jn,sS,sT,sZ]
     refine And.intro (fun h4=>?_) (fun h4=>?_)
     ·refine⟨rfl,by simp only[jK];decide,?_⟩
      simp only[dD,P2,lq,sS,sT,sZ]
      exact fin (by rw[mZ,Bool.false_or];simp at h4 ⊢;omega)
     ·rw[if_neg (by rw[mZ,Bool.false_or];simp at h4 ⊢;omega),List.append_nil]at hI
      refine bC (bK hi yi) ?_
      exact hI
 ·simp only[sS,sT,sZ]
  refine And.intro (fun h=>absurd h (by simp)) (fun _=>?_)
  rw[List.take_length]
  exact⟨nf _ _,rfl⟩
end Go.Proofs.Ytimbllcalipehaa.Ab
namespace Go.Proofs.Ytimbllcalipehaa.Ab
open Go
set_option linter.unusedVariables false
set_option maxRecDepth 4000
def xy(l:List aA)(hv:List au)(i:Nat):Bool:=match l[i]? with
 |some b=>b.here&&(b.mark&&decide (0<(jx b.th hv).length))
 |none=>false
def xz(l:List aA)(hv:List au):List Nat:=(List.range l.length).filter (xy l hv)
def qX(l:List aA)(hv:List au)(i:Nat):List Nat:=(List.range i).filter (xy l hv)
theorem Vt(l:List aA)(hv:List au)(i:Nat):qX l hv (i+1)=qX l hv i++if xy l hv i then [i]else []:=by
 rw[qX,List.range_succ,List.filter_append]
 by_cases h:xy l hv i=true<;>simp[qX,h]
theorem NT(l:List aA)(hv:List au)(i:Nat):(qX l hv i).length ≤i:=by
 have:=List.length_filter_le (xy l hv) (List.range i)
 rwa[List.length_range]at this
theorem Xs{l:List aA}{hv:List au}{i k:Nat}(h:k∈qX l hv i):k<i:=by
 have:=(List.mem_filter.1 h).1
 rwa[List.mem_range]at this
def pW(l:List aA)(i:Nat):List aA:=match l[i]? with
 |some b=>l.set i {b with mark:=false}
 |none=>l
def m7(l:List aA)(q:List Nat):List aA:=q.foldl pW l
theorem Pn(l:List aA)(i:Nat):(pW l i).length =l.length:=by
 unfold pW;split<;>simp
theorem Ed:∀(q:List Nat)(l:List aA),(m7 l q).length =l.length
 |[],l=>rfl
 |i::q,l=>by rw[m7,List.foldl_cons];exact(Ed q (pW l i)).trans (Pn l i)
theorem YG{l:List aA}{q:List Nat}{j k:Nat}(h:q[j]? =some k):m7 l (q.take (j+1))=pW (m7 l (q.take j)) k:=by
 rw[eH h,m7,m7,List.foldl_append];rfl
def sC:Nat→List aA→List au→List aA
 |0,l,_=>l
 |f+1,l,os=>if xz (iX l) (iY (iX l) os)=[]then iX l else sC f (m7 (iX l) (xz (iX l) (iY (iX l) os))) os
def vn(l:List aA)(os:List au):List aA:=sC (l.length+1) l os
structure LO(b:aA):Prop where
 th:b.th.length≤4920
 el:b.el.length≤4920
 Gg:cE b.th≤196800
 TO:cE b.el≤196800
structure rJ(l:List aA)(os:List au):Prop where
 len:l.length≤960
 up:Cp l
 ok:∀b∈l,LO b
 Gi:os.length≤39360
 pos:cE os≤1574400
def jH(l l':List aA):Prop:=l'.length=l.length∧∀(j:Nat)b',l'[j]? =some b'→∃b,l[j]? =some b∧b'.up=b.up∧b'.th=b.th∧b'.el=b.el∧b'.mo=b.mo∧b'.wH=b.wH
theorem rJ.Gj{l l':List aA}{os:List au}(h:rJ l os)(hs:jH l l'):rJ l' os:=by
 refine⟨by rw[hs.1];exact h.len,fun b hb=>?_,fun b hb=>?_,h.Gi,h.pos⟩
 ·obtain⟨j,hj⟩:=List.mem_iff_getElem?.1 hb
  obtain⟨b',h1,h2,_⟩:=hs.2 j b hj
  rw[h2,hs.1]
  exact h.up b' (List.mem_of_getElem? h1)
 ·obtain⟨j,hj⟩:=List.mem_iff_getElem?.1 hb
  obtain⟨b',h1,h2,h3,h4,_⟩:=hs.2 j b hj
  have:=h.ok b' (List.mem_of_getElem? h1)
  exact⟨by rw[h3];exact this.th,by rw[h4];exact this.el,by rw[h3];exact this.Gg,by rw[h4];exact this.TO⟩
theorem jH.trans{a b c:List aA}(h:jH a b)(k:jH b c):jH a c:=by
 refine⟨k.1.trans h.1,fun j x hx=>?_⟩
 obtain⟨y,h1,h2,h3,h4,h5,h6⟩:=k.2 j x hx
 obtain⟨z,k1,k2,k3,k4,k5,k6⟩:=h.2 j y h1
 exact⟨z,k1,h2.trans k2,h3.trans k3,h4.trans k4,h5.trans k5,h6.trans k6⟩
theorem Bd(l:List aA):jH l (iX l):=by
 refine⟨zr l _,fun j b hb=>?_⟩
 obtain⟨b',h1,h2⟩:=Ir hb
 exact⟨b',h1,h2.2.1,h2.2.2.2.1,h2.2.2.2.2.1,h2.1,h2.2.2.1⟩
theorem YH(l:List aA)(i:Nat):jH l (pW l i):=by
 refine⟨Pn l i,fun j b hb=>?_⟩
 unfold pW at hb
 split at hb
 ·rename_i c hc
  rw[List.getElem?_set]at hb
  split at hb
  ·rename_i fq
   subst fq
   split at hb
   ·cases hb;exact⟨c,hc,rfl,rfl,rfl,rfl,rfl⟩
   ·cases hb
  ·exact⟨b,hb,rfl,rfl,rfl,rfl,rfl⟩
 ·exact⟨b,hb,rfl,rfl,rfl,rfl,rfl⟩
theorem jH.refl(l:List aA):jH l l:=⟨rfl,fun j b h=>⟨b,h,rfl,rfl,rfl,rfl,rfl⟩⟩
theorem It:∀(q:List Nat)(l:List aA),jH l (m7 l q)
 |[],l=>jH.refl l
 |i::q,l=>(YH l i).trans (It q (pW l i))
theorem Dq(a b:List au):cE (a++b)=cE a+cE b:=by simp[cE]
theorem Vu{l:List au}{s:au}(h:s∈l):s.perms.length≤cE l:=by
 induction l with
 |nil=>simp at h
 |cons y l ih=>
  have h2:cE (y::l)=y.perms.length+cE l:=by simp[cE]
  rcases List.mem_cons.1 h with rfl|h
  ·omega
  ·have:=ih h;omega
theorem rJ.there{l:List aA}{os:List au}(h:rJ l os):(iY l os).length ≤2^30∧cE (iY l os)≤2^30:=by
 have h1:=Ox (l:=l) (os:=os) (c:=4920) fun b hb=>⟨(h.ok b hb).th,(h.ok b hb).el⟩
 have hl:=h.len
 have hp:∀q:List aA,(∀b∈q,LO b)→cE (q.flatMap su)≤q.length*196800:=by
  intro q
  induction q with
  |nil=>intro _;simp[cE]
  |cons b q ih=>
   intro hq
   have hb:=hq b (by simp)
   have:=ih fun x hx=>hq x (by simp[hx])
   rw[List.flatMap_cons,Dq,List.length_cons,Nat.succ_mul]
   have h2:cE (su b)≤196800:=by
    unfold su
    split
    ·split
     ·exact hb.Gg
     ·exact hb.TO
    ·simp[cE]
   omega
 have h3:=hp l h.ok
 have h4:=h.Gi
 have h5:=h.pos
 have h6:l.length*4920≤960*4920:=Nat.mul_le_mul_right _ hl
 have h7:l.length*196800≤960*196800:=Nat.mul_le_mul_right _ hl
 rw[show cE (iY l os)=cE os+cE (l.flatMap su) from Dq _ _]
 constructor<;>omega
def sD(x:SV)(q:List Nat):Prop:=(x=.d (.sl .nil gp [])∧q=[])∨x=.bt 1 (cQ q)
theorem Oz:tG Try.prog 38 (.d (.sl .nil gp []))=some (.d (.sl .nil gp [])):=by kernel_rfl
theorem adt(L:List D):tG Try.prog 38 (.bt 1 L)=some (.bt 1 (L.map fun _=>.int .i64 0)):=by kernel_rfl
theorem OA:tH Try.prog 38 (.d (.sl .nil gp []))=some (.d (.sl .nil gp [])):=by kernel_rfl
theorem adu(L:List D):tH Try.prog 38 (.bt 1 L)=some (.bt 1 []):=by kernel_rfl
theorem sD.cut{x:SV}{q:List Nat}(h:sD x q):∃y z,tG Try.prog 38 x=some y∧tH Try.prog 38 y=some z∧sD z []:=by
 rcases h with⟨rfl,rfl⟩|rfl
 ·exact⟨_,_,Oz,OA,.inl ⟨rfl,rfl⟩⟩
 ·exact⟨_,_,adt _,adu _,.inr rfl⟩
theorem sD.app{x:SV}{q:List Nat}(h:sD x q){i cL:Nat}{k:SV→Prop}(hb:(q.length+1)*cL≤140737488355328)(hk:∀y,sD y (q++[i])→k y):ck 1 cL x (.full 1 [.int .i64 (i:Int)]) k:=by
 rcases h with⟨rfl,rfl⟩|rfl
 ·unfold ck jt
  simp only[elems,if_true]
  exact⟨by simpa using hb,hk _ (.inr rfl)⟩
 ·unfold ck jt
  simp only[elems,if_true]
  refine⟨by simpa[lu]using hb,hk _ (.inr ?_)⟩
  rw[DN]
theorem sD.box{x:SV}{q:List Nat}(h:sD x q){A:List D→Prop}{B:Prop}(h1:A (cQ q))(h2:q=[]→x=.d (.sl .nil gp [])→B):ga x 1 A B:=by
 rcases h with⟨rfl,hq⟩|rfl
 ·exact h2 hq rfl
 ·exact⟨rfl,h1⟩
theorem H4:∀(q:List Nat),bA (cQ q)=(cQ q).map SV.d
 |[]=>rfl
 |k::q=>by
  have:=H4 q
  show(D.int .i64 (k:Int)).cells.map SV.d++bA (cQ q)=_
  rw[this];rfl
theorem P4:∀(q:List Nat),eP false 1 q.length (cQ q)=some (cQ q)
 |[]=>rfl
 |k::q=>by
  have h1:cQ (k::q)=.int .i64 (k:Int)::cQ q:=rfl
  rw[h1]
  simp only[List.length_cons,eP,List.drop_one,List.tail_cons,P4 q,List.take_succ_cons,List.take_zero]
  rw[if_pos (by omega)]
  rfl
theorem YI{q:List Nat}{j k:Nat}(h:q[j]? =some k):ag false 1 (j*1) (bA (cQ q))=some (.d (.int .i64 (k:Int))):=by
 rw[H4,ag,cond_false,Nat.mul_one,List.getElem?_map,zy h];rfl
end Go.Proofs.Ytimbllcalipehaa.Ab
namespace Go.Proofs.Ytimbllcalipehaa.Ab
open Go
set_option linter.unusedVariables false
set_option maxRecDepth 4000
theorem Ju{P:Program}{gl:Nat→Option D}{f:FuncId}{args:List SV}{bk y:SV}{k:SV→Prop}(hH:aB P gl f args (.aK [bk]))(hd:aa bk=y)(hk:k bk):∃c,aB P gl f args (.aK [c])∧aa c=y∧k c:=⟨bk,hH,hd,hk⟩
theorem P5{a b:List aA}(h:a.length=b.length):xW a=xW b:=by
 cases a<;>cases b<;>first|rfl|simp at h
theorem YJ{l:List aA}{k:Nat}{b:aA}(h:l[k]? =some b):setAt (bA (cR l)) (k*7+5) [.d (.bool false)]=bA (cR (pW l k)):=by
 have:pW l k=l.set k {b with mark:=false}:=by unfold pW;rw[h]
 rw[this]
 exact Ez 5 (.bool false) {b with mark:=false} l k b h (by omega) rfl
theorem YK(n:Nat)(A:List D→Prop)(B:Prop):ga (.d (.sl .nil gp [])) n A B=B:=rfl
theorem Wj{os:List au}(ho:os.length≤2^30):aB Try.prog gl 55 (oJ 0 [fz [],.d (bB 6 (bg os))]) (.aK [fz (vn [] os)]):=by
 have hcf:vn [] os=[]:=by simp[vn,sC,xz,iX,mS]
 rw[hcf]
 refine DC bl (bG (fn:=Try.f55) (by kernel_rfl) (by kernel_rfl) (by kernel_rfl)) (hh:=RF) (by simp[SV.fO,wY,SV.ar]) (by simp) (fun h=>by cases h) ?_
 rw[ZN]
 intro ba
 have yJ:nH (.d (.sl .nil 0 []))=some (.d (.sl .nil gp [])):=rfl
 have e0:fz []=.d (.sl .nil gp []):=rfl
 have e1:bd (.d (.sl .nil gp []))=some (.d (.int .i64 0)):=rfl
 have e2:ah none .add (.d (.int .i64 0)) (.d (.int .i64 1))=some (.d (.int .i64 1)):=rfl
 simp only[yJ,e0,e1,e2,sS,sT,sZ]
 intro I hI
 refine hI _ _ ?_
 simp only[sS,sT,sZ]
 refine And.intro (fun _=>?_) (fun h=>absurd h (by decide))
 refine Ju (show aB _ gl _ _ _ from Nl (l:=[]) (fun b hb=>by simp at hb) (by simp)) rfl ?_
 have KA:fz (iX [])=.d (.sl .nil gp []):=rfl
 simp only[KA,sS,sT,sZ]
 refine aZ (Nm (l:=[]) (x:=.d (.sl .nil gp [])) (YB _) rfl (os:=os) (c:=0) (fun b hb=>by simp at hb) (by simp only[List.length_nil];omega) (by simp)) (j6 _ _) ?_
 simp only[Oz,OA,e1,fh,sS,sT,sZ]
 intro I2 cG
 refine cG _ _ ?_
 simp only[sS,sT,sZ]
 refine And.intro (fun h=>absurd h (by decide)) (fun _=>?_)
 rw[YK]
 simp only[e1,vf,sS,sT,sZ]
 refine And.intro (fun _=>?_) (fun h=>absurd h (by decide))
 trivial
theorem US{l:List aA}{os:List au}(hc:rJ l os):aB Try.prog gl 55 (oJ 0 [fz l,.d (bB 6 (bg os))]) (.aK [fz (vn l os)]):=by
 by_cases bf:l=[]
 ·subst bf
  exact Wj (by have:=hc.Gi;omega)
 have TP:=hc.len
 have bW:l.length≤maxLen:=Nat.le_trans TP (by decide)
 have adv:∀f q,q≠[]→sC f q os≠[]:=by
  intro f
  induction f with
  |zero=>intro q h;exact h
  |succ f ih=>
   intro q h
   rw[sC]
   have hp:iX q≠[]:=fun he=>by
    have:=(Bd q).1
    rw[he]at this;exact h (List.length_eq_zero_iff.1 this.symm)
   split
   ·exact hp
   ·refine ih _ fun he=>?_
    have:=Ed (xz (iX q) (iY (iX q) os)) (iX q)
    rw[he]at this;exact hp (List.length_eq_zero_iff.1 this.symm)
 refine DC bl (bG (fn:=Try.f55) (by kernel_rfl) (by kernel_rfl) (by kernel_rfl)) (hh:=S2) (by simp[SV.fO,wY,SV.ar]) (by simp) (fun h=>?_) ?_
 ·unfold vn at h;rw[qW (adv _ l bf)]at h;cases h
 rw[abt]
 intro ba
 refine Pb [fz l,.d (bB 6 (bg os)),.d (.sl .nil gp []),.d (.int .i64 ((l.length+1:Nat):Int)),.d (.int .i64 0)] [] (fun J hJ=>?_) ?_
 ·have yJ:nH (.d (.sl .nil 0 []))=some (.d (.sl .nil gp [])):=rfl
  simp only[yJ,sS,sT,sZ]
  refine zz (fun _=>?_) (fun he=>absurd he bf)
  simp only[mr,sS,sT,sZ]
  refine bC (Bz (m:=l.length) (n:=1) (by omega)) ?_
  simp only[sX,sO,sS,sT,sZ]
  rw[←qW bf]
  exact hJ
 ·refine sL (α:=List aA×SV×List Nat) (fun k a=>jH l a.1∧sD a.2.1 a.2.2∧sC (l.length+1-k) a.1 os=vn l os) (fun k a=>[fz a.1,.d (bB 6 (bg os)),a.2.1,.d (.int .i64 ((l.length+1:Nat):Int)),.d (.int .i64 ((k:Nat):Int))]) (fun k a=>[]) (l.length+1) (l,.d (.sl .nil gp []),[]) ⟨jH.refl l,.inl ⟨rfl,rfl⟩,rfl⟩ (fun k a hk hJ I hI=>?_) (fun a hJ I=>?_)
  ·obtain⟨b,xs,q⟩:=a
   obtain⟨er,jX,qA⟩:=hJ
   dsimp only at er jX qA
   simp only[sS,sT,sZ]
   refine And.intro (fun _=>?_) (fun h=>absurd h (by simp;omega))
   have TQ:=hc.Gj er
   have fe:=Nl TQ.up (Nat.le_trans TQ.len (by decide))
   have lR:=er.trans (Bd b)
   have qB:=hc.Gj lR
   have CM:aa (fz (iX b))=aa (fz b):=by rw[xh,xh];exact P5 (Bd b).1
   rw[show l.length+1-k=(l.length-k)+1 by omega,sC]at qA
   refine Ju fe CM ?_
   have Jw:=lR.1
   generalize iX b=p at lR qB qA Jw ⊢
   have Ff:p≠[]:=fun he=>by rw[he]at Jw;exact bf (List.length_eq_zero_iff.1 Jw.symm)
   refine zz (fun _=>?_) (fun he=>absurd he Ff)
   have n9:=qB.there
   have cN:=qB.len
   have e5:SV.cM (cR p).length 7 (List.map aa (bA (cR p)))=Jt p:=by rw[mr,QK];rfl
   rw[e5]
   refine aZ (Nm (Xq p) rfl (os:=os) (c:=4920) (fun b hb=>⟨(qB.ok b hb).th,(qB.ok b hb).el⟩) (by have:=qB.Gi;omega) (by omega)) (j6 _ _) ?_
   obtain⟨y,z,hy,hz,hlz⟩:=jX.cut
   simp only[hy,hz,fh,mr,sS,sT,sZ]
   generalize iY p os=hv at n9 qA ⊢
   refine sL (α:=SV) (fun i x=>sD x (qX p hv i)) (fun i x=>[.d (bB 6 (bg os)),x,.d (bB 6 (bg hv)),.d (.int .i64 ((l.length+1:Nat):Int)),.d (.int .i64 ((k:Nat):Int)),.d (.int .i64 (p.length:Int)),.d (.int .i64 ((i:Nat):Int))]) (fun i x=>[bA (cR p)]) p.length z hlz (fun i x hi C9 I2 cG=>?_) (fun x C9 I2=>?_)
   ·simp only[sS,sT,sZ]
    refine And.intro (fun _=>?_) (fun h=>absurd h (by simp;omega))
    obtain⟨c,da⟩:=get_some hi
    have TR:=qB.ok c (List.mem_of_getElem? da)
    have oS:cH (.d (.int .i64 (i:Int))) p.length=some i:=j7 hi
    have nX:p.length≤maxLen:=Nat.le_trans cN (by decide)
    have Fs:=NT p hv i
    have hlp:xy p hv i=(c.here&&(c.mark&&decide (0<(jx c.th hv).length))):=by unfold xy;rw[da]
    have gX:=Vt p hv i
    rw[hlp]at gX
    simp only[oS,Pm da,D4,BZ,Fe,Rh,EO,Jr,sS,sT,sZ]
    have skip:qX p hv (i+1)=qX p hv i→ab (ah none .add (.d (.int .i64 ((i:Nat):Int))) (.d (.int .i64 1))) fun r=>I2 [.d (bB 6 (bg os)),x,.d (bB 6 (bg hv)),.d (.int .i64 ((l.length+1:Nat):Int)),.d (.int .i64 ((k:Nat):Int)),.d (.int .i64 (p.length:Int)),aa r] [bA (cR p)]:=fun he=>by
     refine bC (bK hi nX) ?_
     exact cG x (by rw[he];exact C9)
    refine And.intro (fun h1=>?_) (fun h1=>?_)
    ·rw[h1,Bool.true_and]at gX
     refine And.intro (fun h2=>?_) (fun h2=>?_)
     ·rw[h2,Bool.true_and]at gX
      refine aZ (Uv c.th hv (eQ 6 _) (eQ 6 _) (Nat.le_trans TR.th (by decide)) n9.1 n9.2 (fun s hs=>Nat.le_trans (Vu hs) (Nat.le_trans TR.Gg (by decide)))) (j6 _ _) ?_
      simp only[fh,(eQ 6 (bg (jx c.th hv))).len,gr,sS,sT,sZ]
      refine And.intro (fun h3=>?_) (fun h3=>?_)
      ·have mZ:decide (0<(jx c.th hv).length)=true:=by simp at h3 ⊢;omega
       rw[mZ,if_pos rfl]at gX
       simp only[DO,Ec,qV,sS,sT,sZ]
       refine C9.app (by omega) fun y' iN=>?_
       refine bC (bK hi nX) ?_
       exact cG y' (by rw[gX];exact iN)
      ·have mZ:decide (0<(jx c.th hv).length)=false:=by simp at h3 ⊢;omega
       rw[mZ,if_neg (by decide),List.append_nil]at gX
       exact skip gX
     ·rw[h2,Bool.false_and,if_neg (by decide),List.append_nil]at gX
      exact skip gX
    ·rw[h1,Bool.false_and,if_neg (by decide),List.append_nil]at gX
     exact skip gX
   ·simp only[sS,sT,sZ]
    refine And.intro (fun h=>absurd h (by simp)) (fun _=>?_)
    have Rj:qX p hv p.length=xz p hv:=rfl
    rw[Rj]at C9
    refine C9.box ?_ (fun he hx=>?_)
    ·simp only[lu,vf,sS,sT,sZ]
     have LP:=NT p hv p.length
     rw[Rj]at LP
     have Gk:∀{j i:Nat},(xz p hv)[j]? =some i→i<p.length:=fun h=>Xs (List.mem_of_getElem? h)
     generalize xz p hv=q at qA LP Gk ⊢
     refine And.intro (fun h0=>?_) (fun h0=>?_)
     ·have LQ:q=[]:=by cases q with
       |nil=>rfl
       |cons _ _=>simp at h0;omega
      rw[if_pos LQ]at qA
      have hg:=sO p
      simp only[sX,hg,sS,sT,sZ]
      rw[←qA,qW Ff]
     ·have LQ:q≠[]:=fun he=>by subst he;simp at h0
      rw[if_neg LQ]at qA
      refine gS (fun j=>[.d (bB 6 (bg os)),.d (.int .i64 ((l.length+1:Nat):Int)),.d (.int .i64 ((k:Nat):Int)),.d (.int .i64 (q.length:Int)),.d (.int .i64 ((j:Nat):Int))]) (fun j=>[bA (cR (m7 p (q.take j))),bA (cQ q)]) q.length (fun j hj I3 j2=>?_) (fun I3=>?_)
      ·simp only[sS,sT,sZ]
       refine And.intro (fun _=>?_) (fun h=>absurd h (by simp;omega))
       obtain⟨i,hi⟩:=get_some hj
       have oS:cH (.d (.int .i64 (j:Int))) q.length=some j:=j7 hj
       have ae6:cH (.d (.int .i64 (i:Int))) p.length=some i:=j7 (Gk hi)
       have AN:=Ed (q.take j) p
       have hle:i*7+5+1≤(bA (cR (m7 p (q.take j)))).length :=by rw[zI,AN];have:=Gk hi;omega
       rw[YG hi]at j2
       obtain⟨c,da⟩:=get_some (l:=m7 p (q.take j)) (i:=i) (by rw[AN];exact Gk hi)
       simp only[oS,YI hi,ae6,Ea,sS,sT,sZ]
       refine⟨rfl,hle,?_⟩
       refine bC (bK hj (Nat.le_trans LP (Nat.le_trans cN (by decide)))) ?_
       rw[YJ da]
       exact j2
      ·simp only[sS,sT,sZ]
       refine And.intro (fun h=>absurd h (by simp)) (fun _=>?_)
       have AN:=Ed q p
       have hg:=sO (m7 p q)
       rw[AN]at hg
       have fU:cW (bA (cQ q))=some (cQ q):=by rw[H4,Eu]
       simp only[List.take_length,sX,hg,fU,P4,sS,sT,sZ]
       refine bC (bK hk (Nat.le_trans (Nat.succ_le_succ TP) (by decide))) ?_
       have Gf:m7 p q≠[]:=fun he=>by rw[he]at AN;exact Ff (List.length_eq_zero_iff.1 AN.symm)
       have:=hI (m7 p q,.bt 1 (cQ q),q) ⟨lR.trans (It q p),.inr rfl,by rw[show l.length+1-(k+1)=l.length-k by omega];exact qA⟩
       rw[qW Gf]at this
       exact this
    ·rw[if_pos he]at qA
     subst hx
     have e1:bd (.d (.sl .nil gp []))=some (.d (.int .i64 0)):=rfl
     simp only[e1,vf,sS,sT,sZ]
     refine And.intro (fun _=>?_) (fun h=>absurd h (by decide))
     simp only[sX,sO,mr,sS,sT,sZ]
     rw[←qA,qW Ff]
  ·obtain⟨b,xs,q⟩:=a
   simp only[sS,sT,sZ]
   refine And.intro (fun h=>absurd h (by simp)) (fun _=>?_)
   have:=hJ.2.2
   rw[Nat.sub_self,sC]at this
   rw[←this]
end Go.Proofs.Ytimbllcalipehaa.Ab
namespace Go.Proofs.Ytimbllcalipehaa.Ab
open Go
set_option linter.unusedVariables false
set_option maxRecDepth 4000
theorem Nn:∀{l:List au}{j:Nat}{y y':au}{n:Nat},l[j]? =some y→y'.perms.length≤y.perms.length+n→cE (l.set j y')≤cE l+n
 |[],j,y,y',n,h,_=>by simp at h
 |z::l,0,y,y',n,h,h1=>by
  simp at h;subst h
  simp only[cE,List.set_cons_zero,List.map_cons,List.sum_cons];omega
 |z::l,j+1,y,y',n,h,h1=>by
  have:=Nn (l:=l) (j:=j) (by simpa using h) h1
  simp only[cE,List.set_cons_succ,List.map_cons,List.sum_cons]at this ⊢;omega
theorem Vv(all out:List au)(s:au):cE (sU all out s)≤cE out+s.perms.length:=by
 have app:cE (out++[s])≤cE out+s.perms.length:=by rw[Dq];simp[cE]
 unfold sU
 split
 ·omega
 ·split
  ·split
   ·split
    ·rename_i z hz
     refine Nn hz ?_
     have h2:=Hk (z.perms++s.perms)
     simp only[Ev,List.length_append]at h2 ⊢
     omega
    ·omega
   ·exact app
  ·exact app
theorem Wk(all l:List au)(i:Nat):cE (ir all (l.take i))≤cE (l.take i):=by
 induction i with
 |zero=>simp[ir,cE]
 |succ i ih=>
  cases h:l[i]? with
  |none=>
   have h1:l.length≤i:=List.getElem?_eq_none_iff.1 h
   rw[List.take_of_length_le h1]at ih
   rw[List.take_of_length_le (by omega)]
   exact ih
  |some s=>
   rw[Dp h,Dm h]
   have:=Vv all (ir all (l.take i)) s
   omega
theorem H5{ts:List ak}(h:dC ts){sy:List au}(hs:iL ts=.ok sy):cE sy≤196800:=by
 unfold iL at hs
 split at hs
 ·cases hs
 ·cases hs
  have:=Wk (lI ts) (lI ts) (lI ts).length
  rw[List.take_length]at this
  exact Nat.le_trans this h.syms.2
theorem dC.tail{t:ak}{l:List ak}(h:dC (t::l)):dC l:=by
 have h1:=h.sz
 have h2:=h.ok
 simp only[ak.cB]at h1
 simp only[ak.pg]at h2
 exact⟨by omega,h2.2⟩
def oT(l:List aA):Prop:=∀b∈l,LO b∧(b.up<0∨b.up<l.length)
theorem oT.app{l:List aA}(h:oT l){m u:Int}{th:Bool}{sy:List au}(hu:u<0∨u<l.length)(h1:sy.length≤4920)(h2:cE sy≤196800):oT (l++[⟨m,u,th,sy,[],true,false⟩]):=by
 intro b hb
 rw[List.length_append,List.length_singleton]
 rcases List.mem_append.1 hb with hb|hb
 ·have:=h b hb
  exact⟨this.1,by omega⟩
 ·rw[List.mem_singleton.1 hb]
  exact⟨⟨h1,by simp,h2,by simp[cE]⟩,by dsimp only;omega⟩
theorem oT.kS{l:List aA}(h:oT l)(n:Nat){sy:List au}(h1:sy.length≤4920)(h2:cE sy≤196800):oT (kS l n sy):=by
 intro b hb
 rw[DQ]
 unfold Ab.kS at hb
 split at hb
 ·rename_i c hc
  rcases List.mem_or_eq_of_mem_set hb with hb|hb
  ·exact h b hb
  ·subst hb
   have:=h c (List.mem_of_getElem? hc)
   exact⟨⟨this.1.th,h1,this.1.Gg,h2⟩,this.2⟩
 ·exact h b hb
mutual
theorem adw:∀(t:ak){out o:List aA}{m u:Int}{th:Bool},dC t.th→dC t.el→oT out→(u<0∨u<out.length)→gT t out m u th=.ok o→oT o
 | .mk s a b,out,o,m,u,th,ha,hb,ho,hu,h=>by
   simp only[gT]at h
   split at h
   ·split at h
    ·cases h
    ·rename_i sy h1
     split at h
     ·cases h
     ·rename_i o2 h2
      split at h
      ·cases h
      ·rename_i mj h3
       have k1:=EP a ha (ho.app hu (D5 ha h1) (H5 ha h1)) (.inr (by rw[List.length_append,List.length_singleton];omega)) h2
       have kl:=(sY a h2).1
       rw[List.length_append,List.length_singleton]at kl
       exact EP b hb (k1.kS out.length (D5 hb h3) (H5 hb h3)) (.inr (by rw[DQ];omega)) h
   ·cases h;exact ho
theorem EP:∀(l:List ak){out o:List aA}{m u:Int}{th:Bool},dC l→oT out→(u<0∨u<out.length)→gL l out m u th=.ok o→oT o
 |[],out,o,m,u,th,hl,ho,hu,h=>by
  simp only[gL]at h
  cases h
  exact ho
 |t::l,out,o,m,u,th,hl,ho,hu,h=>by
  simp only[gL]at h
  split at h
  ·cases h
  ·rename_i o1 h1
   have ht:=hl.th (t:=t) (by simp)
   have k1:=adw t ht.1 ht.2 ho hu h1
   have kl:=(PX t h1).1
   exact EP l (hl.tail) k1 (by omega) h
end
theorem QM:∀(l:List bT)(i:Nat){out o:List aA}{os od:List au},(∀m∈l,dC m.aP)→oT out→out.length≤120*i→os.length≤4920*i→cE os≤196800*i→fN l i out os=.ok (o,od)→oT o∧o.length≤120*(i+l.length)∧od.length≤4920*(i+l.length)∧cE od≤196800*(i+l.length)
 |[],i,out,o,os,od,hm,ho,h1,h2,h3,h=>by
  simp only[fN]at h
  cases h
  exact⟨ho,h1,h2,h3⟩
 |m::l,i,out,o,os,od,hm,ho,h1,h2,h3,h=>by
  simp only[fN]at h
  have ee:=hm m (by simp)
  split at h
  ·cases h
  ·rename_i sy hb
   split at h
   ·cases h
   ·rename_i o1 hg
    have k1:=EP _ ee ho (.inl (by omega)) hg
    have kl:=(sY _ hg).1
    have kn:=ak.tj m.aP
    have ks:=ee.sz
    have e1:=D5 ee hb
    have e2:=H5 ee hb
    have:=QM l (i+1) (fun x hx=>hm x (by simp[hx])) k1 (by omega) (by rw[List.length_append];omega) (by rw[Dq];omega) h
    rw[List.length_cons,show i+(l.length+1)=i+1+l.length by omega]
    exact this
theorem rJ.of{l:List bT}(h8:l.length≤8)(hm:∀m∈l,dC m.aP){o:List aA}{os:List au}(h:fN l 0 [] []=.ok (o,os)):rJ o os:=by
 obtain⟨h1,h2,h3,h4⟩:=QM l 0 hm (fun b hb=>by simp at hb) (by simp) (by simp) (by simp[cE]) h
 exact⟨by omega,fun b hb=>(h1 b hb).2,fun b hb=>(h1 b hb).1,by omega,by omega⟩
def nM(l:List bT):Except oa (List aA):=match fN l 0 [] []with
 | .error e=>.error e
 | .ok (o,os)=>.ok (vn o os)
theorem IV:∀(l:List bT){i:Nat}{out:List aA}{os:List au}{c:Int}{s:au},fN l i out os=.error (c,s)→c≠0
 |[],i,out,os,c,s,h=>by simp[fN]at h
 |m::l,i,out,os,c,s,h=>by
  simp only[fN]at h
  split at h
  ·rename_i h1;cases h;exact zA h1
  ·split at h
   ·rename_i h1;cases h;exact xw _ h1
   ·exact IV l h
theorem QN:∀(f:Nat)(l:List aA)(os:List au),jH l (sC f l os)
 |0,l,os=>jH.refl l
 |f+1,l,os=>by
  rw[sC]
  split
  ·exact Bd l
  ·exact((Bd l).trans (It _ _)).trans (QN f _ os)
theorem DF(l:List aA)(os:List au):jH l (vn l os):=QN _ _ _
theorem MJ{l:List bT}{L:List D}{x:D}(hx:aE 3 L x)(hl:pN l L)(h8:l.length≤8)(hm:∀m∈l,dC m.aP):aB Try.prog gl 32 [.d x] (.aK (gR (nM l))):=by
 have hS:=UP hx hl h8 hm
 refine bZ bl (bG (fn:=Try.f32) (by kernel_rfl) (by kernel_rfl) (by kernel_rfl)) (h:=SS) ?_;rw[abl];intro ba
 unfold nM
 cases hs:fN l 0 [] []with
 |error e=>
  obtain⟨c,s⟩:=e
  rw[hs]at hS
  refine Pl hS ?_
  simp only[kX,dE,dJ,z4,eI,dG,ic,ez,pD (IV _ hs),sS,sT,sZ]
  refine And.intro (fun _=>?_) (fun h=>absurd h (by decide))
  rfl
 |ok a=>
  obtain⟨o,os⟩:=a
  rw[hs]at hS
  refine Pl hS ?_
  simp only[ej,dE,dJ,z4,eI,dG,ic,ez,fh,sS,sT,sZ]
  refine And.intro (fun h=>absurd h (by decide)) (fun _=>?_)
  refine Ju (US (rJ.of h8 hm hs)) (by rw[xh,xh];exact P5 (DF o os).1) ?_
  simp only[vp,yV,dE,dJ,z4,eI,dG,sS,sT,sZ]
  exact⟨wY _,rfl⟩
end Go.Proofs.Ytimbllcalipehaa.Ab
namespace Go.Proofs.Ytimbllcalipehaa.Ab
open Go
set_option linter.unusedVariables false
set_option maxRecDepth 4000
def j5(l:List Bool):List D:=l.map .bool
theorem P6(l:List Bool):(j5 l).length =l.length:=List.length_map ..
theorem Z8(a b:List Bool):j5 a++j5 b=j5 (a++b):=by simp[j5]
def aA.on(b:aA):Bool:=b.here&&b.mark
def jy(bs:List aA)(i:Nat):List Bool:=(bs.filter fun b=>b.mo==(i:Int)).map aA.on
def yK(n:Nat)(bs:List aA):List (List Bool):=(List.range n).map (jy bs)
theorem Z9(n:Nat)(bs:List aA):(yK n bs).length =n:=by simp[yK]
def mT(l:List Bool):SV:=bS 1 (j5 l)
def kY(l:List Bool):D:=bB 1 (j5 l)
def lk(n:Nat)(bs:List aA):List SV:=(yK n bs).map mT
theorem xi(n:Nat)(bs:List aA):(lk n bs).length =n:=by simp[lk,Z9]
theorem zK{n:Nat}{bs:List aA}{i:Nat}(h:i<n):(lk n bs)[i]? =some (mT (jy bs i)):=by
 simp[lk,yK,h]
theorem YL{n:Nat}{bs:List aA}{k:Nat}{b:aA}(hb:bs[k]? =some b){j:Nat}(hj:b.mo=(j:Int))(hn:j<n):(lk n (bs.take k)).set j (mT (jy (bs.take k) j++[b.on]))=lk n (bs.take (k+1)):=by
 refine List.ext_getElem? fun i=>?_
 rw[List.getElem?_set]
 by_cases hi:i<n
 ·rw[zK hi]
  by_cases fq:j=i
  ·subst fq
   rw[if_pos rfl,if_pos (by rw[xi];exact hi),zK hi,eH hb]
   simp[jy,hj]
  ·rw[if_neg fq,zK hi,eH hb]
   have:¬(b.mo==(i:Int))=true:=by rw[hj];simp;omega
   simp[jy,this]
 ·rw[List.getElem?_eq_none (by rw[xi];omega),if_neg (by omega:¬j=i),List.getElem?_eq_none (by rw[xi];omega)]
theorem YM(n:Nat)(bs:List aA):cW (lk n bs)=some ((yK n bs).map kY):=by
 unfold lk
 generalize yK n bs=l
 induction l with
 |nil=>rfl
 |cons x l ih=>
  have h1:bF (mT x)=some (kY x):=by unfold mT kY;cases x<;>rfl
  simp only[List.map_cons,cW,h1,ih]
theorem aaa(n:Nat):bA (List.replicate n (D.sl .nil 0 []))=lk n []:=by
 have h1:lk n []=List.replicate n (.d (.sl .nil 0 [])):=by
  refine List.ext_getElem? fun i=>?_
  by_cases hi:i<n
  ·rw[zK hi];simp[hi,jy,mT,j5,bS]
  ·rw[List.getElem?_eq_none (by rw[xi];omega),List.getElem?_eq_none (by rw[List.length_replicate];omega)]
 rw[h1]
 induction n with
 |zero=>rfl
 |succ n ih=>
  have:=ih (by
   refine List.ext_getElem? fun i=>?_
   by_cases hi:i<n
   ·rw[zK hi];simp[hi,jy,mT,j5,bS]
   ·rw[List.getElem?_eq_none (by rw[xi];omega),List.getElem?_eq_none (by rw[List.length_replicate];omega)])
  rw[List.replicate_succ,List.replicate_succ,←this];rfl
def lp(n:Nat)(l:List aA):Prop:=∀b∈l,∃j,b.mo=((j:Nat):Int)∧j<n
theorem lp.kS{n:Nat}{l:List aA}(h:lp n l)(k:Nat)(sy:List au):lp n (kS l k sy):=by
 intro b hb
 unfold Ab.kS at hb
 split at hb
 ·rename_i c hc
  rcases List.mem_or_eq_of_mem_set hb with hb|hb
  ·exact h b hb
  ·subst hb
   exact h c (List.mem_of_getElem? hc)
 ·exact h b hb
theorem lp.app{n:Nat}{l:List aA}(h:lp n l){b:aA}(hb:∃j,b.mo=((j:Nat):Int)∧j<n):lp n (l++[b]):=by
 intro c hc
 rcases List.mem_append.1 hc with hc|hc
 ·exact h c hc
 ·rw[List.mem_singleton.1 hc];exact hb
mutual
theorem adx:∀(t:ak){out o:List aA}{m u:Int}{th:Bool}{n:Nat},(∃j,m=((j:Nat):Int)∧j<n)→lp n out→gT t out m u th=.ok o→lp n o
 | .mk s a b,out,o,m,u,th,n,hm,ho,h=>by
   simp only[gT]at h
   split at h
   ·split at h
    ·cases h
    ·split at h
     ·cases h
     ·rename_i o2 h2
      split at h
      ·cases h
      ·have k1:=ER a hm (ho.app (b:=⟨m,u,th,_,[],true,false⟩) hm) h2
       exact ER b hm (k1.kS _ _) h
   ·cases h;exact ho
theorem ER:∀(l:List ak){out o:List aA}{m u:Int}{th:Bool}{n:Nat},(∃j,m=((j:Nat):Int)∧j<n)→lp n out→gL l out m u th=.ok o→lp n o
 |[],out,o,m,u,th,n,hm,ho,h=>by
  simp only[gL]at h
  cases h
  exact ho
 |t::l,out,o,m,u,th,n,hm,ho,h=>by
  simp only[gL]at h
  split at h
  ·cases h
  ·rename_i o1 h1
   exact ER l hm (adx t hm ho h1) h
end
theorem QO:∀(l:List bT)(i:Nat){n:Nat}{out o:List aA}{os od:List au},i+l.length≤n→lp n out→fN l i out os=.ok (o,od)→lp n o
 |[],i,n,out,o,os,od,hn,ho,h=>by
  simp only[fN]at h
  cases h
  exact ho
 |m::l,i,n,out,o,os,od,hn,ho,h=>by
  simp only[fN]at h
  rw[List.length_cons]at hn
  split at h
  ·cases h
  ·split at h
   ·cases h
   ·rename_i o1 hg
    exact QO l (i+1) (by omega) (ER _ ⟨i,rfl,by omega⟩ ho hg) h
theorem lp.Gj{n:Nat}{a b:List aA}(h:lp n a)(hs:jH a b):lp n b:=fun x hx=>by
 obtain⟨j,hj⟩:=List.mem_iff_getElem?.1 hx
 obtain⟨y,h1,h2,h3,h4,h5,h6⟩:=hs.2 j x hj
 rw[h5]
 exact h y (List.mem_of_getElem? h1)
theorem P7{l:List bT}(h8:l.length≤8)(hm:∀m∈l,dC m.aP){o:List aA}(h:nM l=.ok o):lp l.length o∧o.length≤960:=by
 unfold nM at h
 split at h
 ·cases h
 ·rename_i o1 os hs
  cases h
  have h1:=rJ.of h8 hm hs
  exact⟨(QO l 0 (by omega) (fun b hb=>by simp at hb) hs).Gj (DF _ _),by rw[(DF o1 os).1];exact h1.len⟩
theorem IX{l:List bT}{c:Int}{s:au}(h:nM l=.error (c,s)):c≠0:=by
 unfold nM at h
 split at h
 ·rename_i h1;cases h;exact IV _ h1
 ·cases h
theorem P8{L:List D}{i:Nat}{y:D}(h:L[i]? =some y):bc 7 (.d (bB 7 L)) (.d (.int .i64 (i:Int)))=some (.aS y 0):=(eQ 7 L).at h
def Da(l:List bT):Except oa (List (List Bool)):=match nM l with
 | .error e=>.error e
 | .ok o=>.ok (yK l.length o)
def enR(r:Except oa (List (List Bool))):SV:=match r with
 | .error (c,s)=>.aK [.d (.sl .nil 0 []),.d (kX c s)]
 | .ok o=>.aK [.d (.sl .ro 1 (o.map kY)),.d ej]
theorem GM{l:List bT}{L:List D}{x:D}(hx:aE 3 L x)(hl:pN l L)(h8:l.length≤8)(hm:∀m∈l,dC m.aP):aB Try.prog gl 11 [.d x] (enR (Da l)):=by
 have hD:=MJ hx hl h8 hm
 refine bZ bl (bG (fn:=Try.f11) (by kernel_rfl) (by kernel_rfl) (by kernel_rfl)) (h:=Cs) ?_;rw[abe];intro ba
 unfold Da
 cases hd:nM l with
 |error e=>
  obtain⟨c,s⟩:=e
  rw[hd]at hD
  refine call2 hD ?_
  simp only[kX,dE,dJ,z4,eI,dG,ic,ez,pD (IX hd),sS,sT,sZ]
  refine And.intro (fun _=>?_) (fun h=>absurd h (by decide))
  rfl
 |ok o=>
  obtain⟨TS,CL⟩:=P7 h8 hm hd
  rw[hd]at hD
  refine call2 hD ?_
  simp only[ej,dE,dJ,z4,eI,dG,ic,ez,sS,sT,sZ]
  refine And.intro (fun h=>absurd h (by decide)) (fun _=>?_)
  have hlg:bd (.d (bB 7 (cR o)))=some (.d (.int .i64 (o.length:Int))):=by rw[(eQ 7 (cR o)).len,mr]
  have bW:o.length≤maxLen:=Nat.le_trans CL (by decide)
  simp only[PW,fh,hx.len,hl.len,hlg,Hy,aaa,List.length_replicate,sS,sT,sZ]
  refine⟨by omega,?_⟩
  refine gS (fun k=>[.d (bB 7 (cR o)),.d (.int .i64 (o.length:Int)),.d (.int .i64 ((k:Nat):Int))]) (fun k=>[[.d (.int .i64 0),.d (.int .i64 0),.d (.int .i64 0),.d (.str [])],[.d (.int .i64 0),.d (.int .i64 0),.d (.int .i64 0),.d (.str [])],lk l.length (o.take k)]) o.length (fun k hk I hI=>?_) (fun I=>?_)
  ·simp only[sS,sT,sZ]
   refine And.intro (fun _=>?_) (fun h=>absurd h (by simp;omega))
   obtain⟨b,hb⟩:=get_some hk
   obtain⟨j,hj,Db⟩:=TS b (List.mem_of_getElem? hb)
   have wI:=P8 (PU hb)
   have fq:cH (.d (.int .i64 b.mo)) l.length=some j:=by rw[hj];exact j7 Db
   have hon:=zK (n:=l.length) (bs:=o.take k) Db
   have aT:=YL hb hj Db
   have hlen:(jy (o.take k) j).length ≤960:=by
    have h1:=List.length_filter_le (fun b:aA=>b.mo==(j:Int)) (o.take k)
    rw[jy,List.length_map]
    rw[List.length_take]at h1;omega
   have fin:∀y v,setAt ((lk l.length (o.take k)).set j y) j [mT (jy (o.take k) j++[v])]=(lk l.length (o.take k)).set j (mT (jy (o.take k) j++[v])):=fun y v=>by
    show(((lk l.length (o.take k)).set j y).set j _)=_
    rw[List.set_set]
   have tail:∀v,b.on=v→ck 1 1 (mT (jy (o.take k) j)) (.full 1 [.bool v]) fun dL=>
     ab (ay dL) fun dk=>dk.length=1∧j<((lk l.length (o.take k)).set j (aa (mT (jy (o.take k) j)))).length ∧
      ab (ah none .add (.d (.int .i64 ((k:Nat):Int))) (.d (.int .i64 1))) fun cU=>
       I [.d (bB 7 (cR o)),.d (.int .i64 (o.length:Int)),aa cU] [[.d (.int .i64 0),.d (.int .i64 0),.d (.int .i64 0),.d (.str [])],[.d (.int .i64 0),.d (.int .i64 0),.d (.int .i64 0),.d (.str [])],setAt ((lk l.length (o.take k)).set j (aa (mT (jy (o.take k) j)))) j dk]:=fun v hv=>by
    refine iV (M:=[.bool v]) rfl (by rw[P6];simp;omega) ?_
    have hc:ay (bS 1 (j5 (jy (o.take k) j)++[.bool v]))=some [mT (jy (o.take k) j++[v])]:=by
     rw[DE,show j5 (jy (o.take k) j)++[D.bool v]=j5 (jy (o.take k) j++[v]) from Z8 _ [v]];rfl
    rw[hc]
    refine⟨rfl,by rw[List.length_set,xi];omega,?_⟩
    refine bC (bK hk bW) ?_
    have h1:=fin (aa (mT (jy (o.take k) j))) v
    rw[←hv,aT,hv]at h1
    rw[h1]
    exact hI
   simp only[wI,PV,D4,BZ,Fe,adk,EO,Jr,fq,Nat.mul_one,hon,sS,sT,sZ]
   refine And.intro (fun h=>?_) (fun h=>?_)
   ·simp only[PN,oH,qV,sS,sT,sZ]
    exact tail b.mark (by rw[aA.on,h,Bool.true_and])
   ·simp only[PN,oH,qV,sS,sT,sZ]
    exact tail false (by rw[aA.on,h,Bool.false_and])
  ·simp only[YM,sS,sT,sZ]
   refine And.intro (fun h=>absurd h (by simp)) (fun _=>?_)
   rw[List.take_length]
   refine⟨xi _ _,?_⟩
   simp only[vp,yV,dE,dJ,eI,dG,iJ,if_true,sS,sT,sZ]
   rfl
end Go.Proofs.Ytimbllcalipehaa.Ab
namespace Go.Proofs.Ytimbllcalipehaa.Ab
open Go
set_option linter.unusedVariables false
set_option maxRecDepth 4000
def ph:D→List D
 | .sl _ _ L=>L
 |_=>[]
theorem aE.ph{n:Nat}{L:List D}{x:D}(h:aE n L x):ph x=L:=by
 cases h with
 |nil s h=>subst h;rfl
 |ro=>rfl
def B0(k:Nat)(x:D):D:=x.cells.getD k (.int .i64 0)
def sE(x:D):List D:=ph (B0 53 x)
def wJ(x:D):List D:=ph (B0 54 x)
theorem m6.sE{t:ak}{x:D}(h:m6 t x){c:List SV}{aY al yt ye:D}{Lt Le:List D}(hc:TC t x c aY al yt ye Lt Le):sE x=Lt∧wJ x=Le:=by
 have h1:=hc.C5
 have h2:=hc.C6
 cases h with
 |mk s th el r5 r6 vY wK rest TT TU Lt' Le' h hl ha ht he LK CN fu fc=>
  have da:ay (.d (.agg (jG s r5 r6 vY wK rest)))=some ((jG s r5 r6 vY wK rest).map SV.d):=rfl
  have:=hc.cells
  rw[da]at this
  cases this
  have F7:(jG s r5 r6 vY wK rest)[53]? =some TT:=ht
  have F8:(jG s r5 r6 vY wK rest)[54]? =some TU:=he
  have k1:B0 53 (.agg (jG s r5 r6 vY wK rest))=TT:=by
   show(jG s r5 r6 vY wK rest).getD 53 _=_
   rw[List.getD_eq_getElem?_getD,F7];rfl
  have k2:B0 54 (.agg (jG s r5 r6 vY wK rest))=TU:=by
   show(jG s r5 r6 vY wK rest).getD 54 _=_
   rw[List.getD_eq_getElem?_getD,F8];rfl
  rw[ag,cond_false,List.getElem?_map,F7]at h1
  rw[ag,cond_false,List.getElem?_map,F8]at h2
  cases h1
  cases h2
  unfold Ab.sE Ab.wJ
  rw[k1,k2]
  exact⟨hc.n9.ph,hc.g9.ph⟩
def vZ(bs:List aA)(n:Nat):Bool:=match bs[n]? with
 |some b=>b.mark
 |none=>false
mutual
def wL(cp:D→D):ak→D→List aA→Nat→Bool→List D
 | .mk s a b,x,bs,n,k=>if s.kind==18 then fZ cp a (sE x) bs (n+1) (k&&vZ bs n)++fZ cp b (wJ x) bs (n+1+ak.cz a) (k&& !vZ bs n)
   else if k then [cp x]else []
def fZ(cp:D→D):List ak→List D→List aA→Nat→Bool→List D
 |t::l,x::L,bs,n,k=>wL cp t x bs n k++fZ cp l L bs (n+t.nb) k
 |_,_,_,_,_=>[]
end
mutual
def wM(H:D→Prop):ak→D→Prop
 | .mk s a b,x=>if s.kind==18 then ml H a (sE x)∧ml H b (wJ x)else H x
def ml(H:D→Prop):List ak→List D→Prop
 |t::l,x::L=>wM H t x∧ml H l L
 |_,_=>True
end
theorem aab{H:D→Prop}{t:ak}{x:D}(h:(t.s.kind==18)=true)(hc:wM H t x):ml H t.th (sE x)∧ml H t.el (wJ x):=by
 cases t with
 |mk s a b=>
  have h:(s.kind==18)=true:=h
  simp only[wM,h,if_true]at hc
  exact hc
theorem ab4{H:D→Prop}{t:ak}{x:D}(h:(t.s.kind==18)=false)(hc:wM H t x):H x:=by
 cases t with
 |mk s a b=>
  have h:(s.kind==18)=false:=h
  simp only[wM,h]at hc
  exact hc
theorem QP{H:D→Prop}:∀{l:List ak}{L:List D}{i:Nat}{t:ak}{x:D},ml H l L→l[i]? =some t→L[i]? =some x→wM H t x
 |[],_,_,_,_,_,h,_=>by simp at h
 |_::_,[],_,_,_,_,_,h=>by simp at h
 |u::l,y::L,0,t,x,hc,h1,h2=>by simp at h1 h2;subst h1;subst h2;simp only[ml]at hc;exact hc.1
 |u::l,y::L,i+1,t,x,hc,h1,h2=>by simp only[ml]at hc;exact QP hc.2 (by simpa using h1) (by simpa using h2)
theorem aac{cp:D→D}{t:ak}{x:D}(h:(t.s.kind==18)=true)(bs:List aA)(n:Nat)(k:Bool):wL cp t x bs n k=fZ cp t.th (sE x) bs (n+1) (k&&vZ bs n)++fZ cp t.el (wJ x) bs (n+1+ak.cz t.th) (k&& !vZ bs n):=by
 cases t with
 |mk s a b=>
  have h:(s.kind==18)=true:=h
  simp only[wL,h,if_true];rfl
theorem QQ{cp:D→D}{t:ak}{x:D}(h:(t.s.kind==18)=false)(bs:List aA)(n:Nat)(k:Bool):wL cp t x bs n k=if k then [cp x]else []:=by
 cases t with
 |mk s a b=>
  have h:(s.kind==18)=false:=h
  simp only[wL,h];rfl
theorem Po{cp:D→D}{bs:List aA}{k:Bool}:∀{l:List ak}{L:List D}{i:Nat}{t:ak}{x:D}(n:Nat),l[i]? =some t→L[i]? =some x→fZ cp (l.take (i+1)) (L.take (i+1)) bs n k=fZ cp (l.take i) (L.take i) bs n k++wL cp t x bs (n+ak.cz (l.take i)) k
 |[],_,_,_,_,_,h,_=>by simp at h
 |_::_,[],_,_,_,_,_,h=>by simp at h
 |u::l,y::L,0,t,x,n,h1,h2=>by
  simp at h1 h2;subst h1;subst h2
  simp[fZ,ak.cz]
 |u::l,y::L,i+1,t,x,n,h1,h2=>by
  have:=Po (cp:=cp) (bs:=bs) (k:=k) (n+u.nb) (l:=l) (L:=L) (i:=i) (by simpa using h1) (by simpa using h2)
  simp only[List.take_succ_cons,fZ,ak.cz]at this ⊢
  rw[this,List.append_assoc,show n+u.nb+ak.cz (l.take i)=n+(u.nb+ak.cz (l.take i)) by omega]
mutual
theorem aad{cp:D→D}:∀(t:ak)(x:D)(bs:List aA)(n:Nat)(k:Bool),(wL cp t x bs n k).length ≤t.sz
 | .mk s a b,x,bs,n,k=>by
   simp only[wL,ak.sz]
   split
   ·rw[List.length_append]
    have h1:=BD (cp:=cp) a (sE x) bs (n+1) (k&&vZ bs n)
    have h2:=BD (cp:=cp) b (wJ x) bs (n+1+ak.cz a) (k&& !vZ bs n)
    omega
   ·split<;>simp<;>omega
theorem BD{cp:D→D}:∀(l:List ak)(L:List D)(bs:List aA)(n:Nat)(k:Bool),(fZ cp l L bs n k).length ≤ak.cB l
 |[],_,bs,n,k=>by simp[fZ]
 |t::l,[],bs,n,k=>by simp[fZ]
 |t::l,x::L,bs,n,k=>by
  simp only[fZ,ak.cB,List.length_append]
  have h1:=aad (cp:=cp) t x bs n k
  have h2:=BD (cp:=cp) l L bs (n+t.nb) k
  omega
end
def uS(cp:D→D)(x:D):Prop:=aB Try.prog gl 72 [.d x] (.d (cp x))∧(cp x).cells.length =55
def AO(cp:D→D)(ts:List ak):Prop:=∀{L:List D}{x:D}(out:List D)(bs:List aA)(n:Nat)(k:Bool)(K:SV→Prop),aE 55 L x→fG ts L→dC ts→out.length+ak.cB ts≤2^20→n+ak.cz ts≤bs.length→bs.length≤2^20→ml (uS cp) ts L→
 K (.aK [bS 55 (out++fZ cp ts L bs n k),.d (.int .i64 ((n+ak.cz ts:Nat):Int))])→
 body Try.prog gl (aB Try.prog gl) FR 51 [bS 55 out,.d x,.d (bB 7 (cR bs)),.d (.int .i64 (n:Int)),.d (.bool k)] K
theorem OB{cp:D→D}{ts:List ak}(H:AO cp ts){L:List D}{x:D}(out:List D)(bs:List aA)(n:Nat)(k:Bool)(h1:aE 55 L x)(h2:fG ts L)(h3:dC ts)(h4:out.length+ak.cB ts≤2^20)(h5:n+ak.cz ts≤bs.length)(h6:bs.length≤2^20)(h7:ml (uS cp) ts L):
  aB Try.prog gl 51 (oJ 0 [bS 55 out,.d x,.d (bB 7 (cR bs)),.d (.int .i64 (n:Int)),.d (.bool k)]) (.aK [.d (bB 55 out),bS 55 (out++fZ cp ts L bs n k),.d (.int .i64 ((n+ak.cz ts:Nat):Int))]):=by
 rw[←fh 55 out]
 refine NN bl (bG (fn:=Try.f51) (by kernel_rfl) (by kernel_rfl) (by kernel_rfl)) (hh:=FR) (by simp only[SV.fO,nf,SV.ar,Bool.and_true]) rfl (fun r hr=>?_) ?_
 ·simp at hr
  rcases hr with rfl|rfl
  ·exact j6 _ _
  ·rfl
 ·exact H out bs n k _ h1 h2 h3 h4 h5 h6 h7 rfl
theorem YN{cp:D→D}{ts:List ak}(H:AO cp ts){L:List D}{x:D}(bs:List aA)(n:Nat)(k:Bool)(h1:aE 55 L x)(h2:fG ts L)(h3:dC ts)(h4:ak.cB ts≤2^20)(h5:n+ak.cz ts≤bs.length)(h6:bs.length≤2^20)(h7:ml (uS cp) ts L):
  aB Try.prog gl 51 [.d (.sl .nil 0 []),.d x,.d (bB 7 (cR bs)),.d (.int .i64 (n:Int)),.d (.bool k)] (.aK [bS 55 (fZ cp ts L bs n k),.d (.int .i64 ((n+ak.cz ts:Nat):Int))]):=
 bZ bl (bG (fn:=Try.f51) (by kernel_rfl) (by kernel_rfl) (by kernel_rfl)) (h:=FR) (H [] bs n k _ h1 h2 h3 (by simpa using h4) h5 h6 h7 rfl)
theorem mU(z x:D):bu z [(0,x)] 1 0=[x]:=rfl
theorem ady{x:D}(h:x.cells.length=55):bq 55 1 [(0,x)]=true:=by simp[bq,h]
theorem Xt(cp:D→D)(ts:List ak)(IH:∀uR,ak.cB uR<ak.cB ts→AO cp uR):AO cp ts:=by
 intro L x out bs n k K hx hs ee aH iB dO qB hK
 have h0:=ak.ti ts
 have bW:ts.length≤maxLen:=Nat.le_trans (Nat.le_trans h0 ee.sz) (by decide)
 rw[abq]
 intro ba
 simp only[hx.len,hs.len,sS,sT,sZ]
 rw[show bS 55 out=bS 55 (out++fZ cp (ts.take 0) (L.take 0) bs n k) from by simp[fZ],show((n:Nat):Int)=((n+ak.cz (ts.take 0):Nat):Int) from by simp[ak.cz]]
 refine gS (fun i=>[bS 55 (out++fZ cp (ts.take i) (L.take i) bs n k),.d (bB 7 (cR bs)),.d (.int .i64 ((n+ak.cz (ts.take i):Nat):Int)),.d (.bool k),.d x,.d (.int .i64 (ts.length:Int)),.d (.int .i64 ((i:Nat):Int))]) (fun i=>[]) ts.length (fun i hi I hI=>?_) (fun I=>?_)
 ·simp only[sS,sT,sZ]
  refine And.intro (fun _=>?_) (fun h=>absurd h (by simp;omega))
  obtain⟨t,ht⟩:=get_some hi
  obtain⟨y,hy,gA⟩:=hs.at_ ht
  obtain⟨c,aY,al,yt,ye,Lt,Le,hc⟩:=gA.out
  obtain⟨n9,g9⟩:=gA.sE hc
  have eT:=pv (z:=e4) (c:=c) rfl hc.len
  simp only[sZ]at eT
  have hz:=ak.zZ ht
  have yg:=t.Bq
  have F9:=ak.Pc ht
  have agj:=ak.Pk ht
  have yI:=ee.th (List.mem_of_getElem? ht)
  have TV:=QP qB ht hy
  have Fs:=BD (cp:=cp) (ts.take i) (L.take i) bs n k
  have aI:ak.cB (ts.take i)+t.sz≤ak.cB ts:=by
   have h2:ak.cB (ts.take (i+1))=ak.cB (ts.take i)+t.sz:=by
    rw[eH ht,ak.vo,ak.vo];simp
   have h3:ak.cB (ts.take (i+1))≤ak.cB ts:=by
    rw[ak.vo,ak.vo,←List.take_append_drop (i+1) ts,List.map_append,List.sum_append,List.take_append_drop];omega
   omega
  have agk:ak.cz (ts.take i)+t.nb≤ak.cz ts:=by
   rw[←F9,ak.zH,ak.zH,←List.take_append_drop (i+1) ts,List.map_append,List.sum_append,List.take_append_drop];omega
  have gX:=Po (cp:=cp) (bs:=bs) (k:=k) n ht hy
  simp only[gX]at hI
  have hzp:0<t.sz:=by omega
  simp only[hx.at hy,hc.load,hc.cells,hc.len,eT,hc.p0,hc.C5,hc.C6,hc.whole,ez,sS,sT,sZ]
  refine And.intro (fun hk=>?_) (fun hk=>?_)
  ·have bI:(t.s.kind==18)=false:=by simpa[bne]using hk
   rw[QQ bI]at hI
   have ae7:t.nb=0:=by rw[t.Jo,bI];rfl
   rw[F9,ae7,Nat.add_zero]at hI
   refine And.intro (fun kz=>?_) (fun kz=>?_)
   ·rw[kz,if_pos rfl]at hI
    obtain⟨hH,ae8⟩:=ab4 bI TV
    refine aZ hH rfl ?_
    simp only[dD,ady ae8,mU,sS,sT,sZ]
    refine iV (M:=[cp y]) rfl (by simp only[List.length_append,List.length_singleton];omega) ?_
    refine bC (bK hi bW) ?_
    rw[List.append_assoc,kz]
    exact hI
   ·rw[kz,if_neg (by decide),List.append_nil]at hI
    refine bC (bK hi bW) ?_
    rw[kz]
    exact hI
  have bI:(t.s.kind==18)=true:=by simpa[bne]using hk
  rw[aac bI]at hI
  have agl:t.nb=1+ak.cz t.th+ak.cz t.el:=by rw[t.Jo,if_pos bI]
  have Ke:=aab bI TV
  rw[n9,g9]at hI Ke
  obtain⟨b,hb⟩:=get_some (l:=bs) (i:=n+ak.cz (ts.take i)) (by omega)
  have Ar:vZ bs (n+ak.cz (ts.take i))=b.mark:=by unfold vZ;rw[hb]
  rw[Ar]at hI
  have wI:=P8 (PU hb)
  have had:ah none .add (.d (.int .i64 ((n+ak.cz (ts.take i):Nat):Int))) (.d (.int .i64 1))=some (.d (.int .i64 ((n+ak.cz (ts.take i)+1:Nat):Int))):=Bz (n:=1) (by omega)
  simp only[wI,PV,D4,BZ,Fe,EO,had,sS,sT,sZ]
  have M1:=fun k'=>OB (IH t.th (by omega)) (out++fZ cp (ts.take i) (L.take i) bs n k) bs (n+ak.cz (ts.take i)+1) k' hc.n9 hc.fu yI.1 (by rw[List.length_append];omega) (by omega) dO Ke.1
  have M2:=fun k' k''=>OB (IH t.el (by omega)) (out++fZ cp (ts.take i) (L.take i) bs n k++fZ cp t.th Lt bs (n+ak.cz (ts.take i)+1) k') bs (n+ak.cz (ts.take i)+1+ak.cz t.th) k'' hc.g9 hc.fc yI.2 (by
   have:=BD (cp:=cp) t.th Lt bs (n+ak.cz (ts.take i)+1) k'
   rw[List.length_append,List.length_append];omega) (by omega) dO Ke.2
  have CU:n+ak.cz (ts.take (i+1))=n+ak.cz (ts.take i)+1+ak.cz t.th+ak.cz t.el:=by omega
  rw[CU]at hI
  rw[←List.append_assoc,←List.append_assoc]at hI
  have nZ:∀v,eY .not (.d (.bool v))=some (.d (.bool (!v))):=fun v=>by cases v<;>rfl
  refine And.intro (fun kz=>?_) (fun kz=>?_)
  ·simp only[kz,Bool.true_and]at hI
   refine vF (M1 b.mark) (by rw[fh];rfl) ?_
   refine And.intro (fun _=>?_) (fun h=>absurd (kz.symm.trans h) (by decide))
   simp only[nZ,sS,sT,sZ]
   refine vF (M2 b.mark (!b.mark)) (by rw[fh];rfl) ?_
   refine bC (bK hi bW) ?_
   rw[kz]
   exact hI
  ·simp only[kz,Bool.false_and]at hI
   refine vF (M1 false) (by rw[fh];rfl) ?_
   refine And.intro (fun h=>absurd (kz.symm.trans h) (by decide)) (fun _=>?_)
   refine vF (M2 false false) (by rw[fh];rfl) ?_
   refine bC (bK hi bW) ?_
   rw[kz]
   exact hI
 ·simp only[sS,sT,sZ]
  refine And.intro (fun h=>absurd h (by simp)) (fun _=>?_)
  refine⟨nf _ _,?_⟩
  rw[List.take_length,show L.take ts.length=L by rw[←hs.len,List.take_length]]
  exact hK
theorem YO(cp:D→D)(ts:List ak):AO cp ts:=by
 have key:∀n ts,ak.cB ts<n→AO cp ts:=by
  intro n
  induction n with
  |zero=>intro ts h;omega
  |succ n ih=>exact fun ts h=>Xt cp ts fun uR h'=>ih uR (by omega)
 exact fun{L x}=>key _ ts (Nat.lt_succ_self _)
end Go.Proofs.Ytimbllcalipehaa.Ab
namespace Go.Proofs.Ytimbllcalipehaa.Ab
open Go
set_option linter.unusedVariables false
set_option maxRecDepth 4000
def AP(x:D):List D:=ph (B0 2 x)
def iU:List bT→Nat
 |[]=>0
 |m::l=>ak.cz m.aP+iU l
theorem Iu:∀(a b:List bT),iU (a++b)=iU a+iU b
 |[],b=>by simp[iU]
 |m::a,b=>by simp only[List.cons_append,iU,Iu a b];omega
theorem YP{l:List bT}{i:Nat}{m:bT}(h:l[i]? =some m):iU (l.take (i+1))=iU (l.take i)+ak.cz m.aP:=by
 rw[eH h,Iu];simp[iU]
theorem ab5(l:List bT)(i:Nat):iU (l.take i)≤iU l:=by
 have h:=Iu (l.take i) (l.drop i)
 rw[List.take_append_drop]at h;omega
theorem QR:∀(l:List bT){i:Nat}{out o:List aA}{os od:List au},fN l i out os=.ok (o,od)→o.length=out.length+iU l
 |[],i,out,o,os,od,h=>by
  simp only[fN]at h
  cases h
  rfl
 |m::l,i,out,o,os,od,h=>by
  simp only[fN]at h
  split at h
  ·cases h
  ·split at h
   ·cases h
   ·rename_i o1 hg
    have:=QR l h
    rw[this,(sY _ hg).1,iU];omega
theorem aae{l:List bT}{o:List aA}(h:nM l=.ok o):o.length=iU l:=by
 unfold nM at h
 split at h
 ·cases h
 ·rename_i o1 os hs
  cases h
  rw[(DF o1 os).1,QR l hs];simp
def m8(cp:D→D):List bT→List D→List aA→Nat→List D
 |m::l,x::L,bs,n=>.agg [.str m.name,.int .i64 m.n8,bB 55 (fZ cp m.aP (AP x) bs n true)]::m8 cp l L bs (n+ak.cz m.aP)
 |_,_,_,_=>[]
theorem Pp{cp:D→D}{bs:List aA}:∀{l:List bT}{L:List D}{i:Nat}{m:bT}{x:D}(n:Nat),l[i]? =some m→L[i]? =some x→m8 cp (l.take (i+1)) (L.take (i+1)) bs n=m8 cp (l.take i) (L.take i) bs n++[.agg [.str m.name,.int .i64 m.n8,bB 55 (fZ cp m.aP (AP x) bs (n+iU (l.take i)) true)]]
 |[],_,_,_,_,_,h,_=>by simp at h
 |_::_,[],_,_,_,_,_,h=>by simp at h
 |u::l,y::L,0,t,x,n,h1,h2=>by
  simp at h1 h2;subst h1;subst h2
  simp[m8,iU]
 |u::l,y::L,i+1,t,x,n,h1,h2=>by
  have:=Pp (cp:=cp) (bs:=bs) (n+ak.cz u.aP) (l:=l) (L:=L) (i:=i) (by simpa using h1) (by simpa using h2)
  simp only[List.take_succ_cons,m8,iU]at this ⊢
  rw[this,List.cons_append,show n+ak.cz u.aP+iU (l.take i)=n+(ak.cz u.aP+iU (l.take i)) by omega]
theorem P9{cp:D→D}:∀(l:List bT)(L:List D)(bs:List aA)(n:Nat),(m8 cp l L bs n).length ≤l.length
 |[],_,bs,n=>by simp[m8]
 |t::l,[],bs,n=>by simp[m8]
 |t::l,x::L,bs,n=>by
  simp only[m8,List.length_cons]
  have:=P9 (cp:=cp) l L bs (n+ak.cz t.aP)
  omega
def LR(H:D→Prop)(l:List bT)(L:List D):Prop:=∀(i:Nat)m x,l[i]? =some m→L[i]? =some x→ml H m.aP (AP x)
def Gl(cp:D→D)(l:List bT)(L:List D):Except oa (List D):=match nM l with
 | .error e=>.error e
 | .ok o=>.ok (m8 cp l L o 0)
def ftR(r:Except oa (List D)):SV:=match r with
 | .error (c,s)=>.aK [.d (.sl .nil 0 []),.d (kX c s)]
 | .ok o=>.aK [bS 3 o,.d ej]
theorem Wl(n:List UInt8)(v:Int):cY Try.prog 36 [(0,.str n),(1,.int .i64 v)]=some (.agg [.str n,.int .i64 v,.sl .nil 0 []]):=by kernel_rfl
theorem Xu(a b c:D):ag false 1 0 [.d a,.d b,.d c]=some (.d a):=rfl
theorem Xv(a b c:D):ag false 1 1 [.d a,.d b,.d c]=some (.d b):=rfl
theorem aaf(a b c d:SV):setAt [a,b,c] 2 [d]=[a,b,d]:=rfl
theorem Xw(a b c:D):ag true 3 0 [.d a,.d b,.d c]=some (.d (.agg [a,b,c])):=rfl
theorem adz(z x:D):bu z [(0,x)] 1 0=[x]:=rfl
theorem ab6(a b c:D):bq 3 1 [(0,.agg [a,b,c])]=true:=rfl
theorem ML(cp:D→D){l:List bT}{L:List D}{x:D}(hx:aE 3 L x)(hl:pN l L)(h8:l.length≤8)(hm:∀m∈l,dC m.aP)(qB:LR (uS cp) l L):aB Try.prog gl 25 [.d x] (ftR (Gl cp l L)):=by
 have bW:l.length≤maxLen:=Nat.le_trans h8 (by decide)
 have hD:=MJ hx hl h8 hm
 refine bZ bl (bG (fn:=Try.f25) (by kernel_rfl) (by kernel_rfl) (by kernel_rfl)) (h:=SQ) ?_;rw[abj];intro ba
 unfold Gl
 cases hd:nM l with
 |error e=>
  obtain⟨c,s⟩:=e
  rw[hd]at hD
  refine call2 hD ?_
  simp only[kX,dE,dJ,z4,eI,dG,ic,ez,pD (IX hd),sS,sT,sZ]
  refine And.intro (fun _=>?_) (fun h=>absurd h (by decide))
  rfl
 |ok o=>
  obtain⟨TS,CL⟩:=P7 h8 hm hd
  have iB:=aae hd
  rw[hd]at hD
  refine call2 hD ?_
  simp only[ej,dE,dJ,z4,eI,dG,ic,ez,PW,hx.len,hl.len,sS,sT,sZ]
  refine And.intro (fun h=>absurd h (by decide)) (fun _=>?_)
  refine gS (fun i=>[bS 7 (cR o),bS 3 (m8 cp (l.take i) (L.take i) o 0),.d (.int .i64 ((iU (l.take i):Nat):Int)),.d x,.d (.int .i64 (l.length:Int)),.d (.int .i64 ((i:Nat):Int))]) (fun i=>[[.d (.int .i64 0),.d (.int .i64 0),.d (.int .i64 0),.d (.str [])],[.d (.int .i64 0),.d (.int .i64 0),.d (.int .i64 0),.d (.str [])]]) l.length (fun i hi I hI=>?_) (fun I=>?_)
  ·simp only[sS,sT,sZ]
   refine And.intro (fun _=>?_) (fun h=>absurd h (by simp;omega))
   obtain⟨m,gy⟩:=get_some hi
   obtain⟨y,hy,j1⟩:=hl.at_ gy
   have ee:=hm m (List.mem_of_getElem? gy)
   have fb:=qB i m y gy hy
   have aT:=Pp (cp:=cp) (bs:=o) 0 gy hy
   rw[Nat.zero_add]at aT
   have x6:=YP gy
   have F9:=ab5 l (i+1)
   have o7:=P9 (cp:=cp) (l.take i) (L.take i) o 0
   rw[List.length_take]at o7
   rw[aT,x6]at hI
   cases j1 with
   |mk xs Lm sr Kc=>
   have Ga:AP (.agg [.str m.name,.int .i64 m.n8,xs])=Lm:=sr.ph
   rw[Ga]at hI fb
   have aH:=ee.sz
   simp only[hx.at hy,H3,Bp,Ak,Io,Im,D2,Xu,Xv,DZ,Wl,fh,sS,sT,sZ]
   refine call2 (YN (YO cp m.aP) o (iU (l.take i)) true sr Kc ee (by omega) (by omega) (by omega) fb) ?_
   simp only[fh,A9,aaf,Ak,sS,sT,sZ]
   refine⟨rfl,?_⟩
   simp only[Xw,dD,ab6,adz,sS,sT,sZ]
   refine iV (M:=[_]) rfl (by simp only[List.length_singleton];omega) ?_
   refine bC (bK hi bW) ?_
   exact hI
  ·simp only[vp,yV,dE,dJ,eI,dG,sS,sT,sZ]
   refine And.intro (fun h=>absurd h (by simp)) (fun _=>?_)
   refine⟨nf _ _,?_⟩
   rw[List.take_length,show L.take l.length=L by rw[←hl.len,List.take_length]]
   rfl
end Go.Proofs.Ytimbllcalipehaa.Ab
namespace Go.Proofs.Ytimbllcalipehaa.Ab
open Go
set_option linter.unusedVariables false
set_option maxRecDepth 4000
theorem Qa:ah (some (false,[])) .eql (.d (.sl .nil 0 [])) (.d (.sl .nil 0 []))=some (.d (.bool true)):=rfl
theorem ze:aB Try.prog gl 71 [.d (.sl .nil 0 [])] (.d (.sl .nil 0 [])):=by
 refine bZ bl (bG (fn:=Try.f71) (by kernel_rfl) (by kernel_rfl) (by kernel_rfl)) (h:=AE) ?_;rw[BM];intro ba
 simp only[Qa,sS,sT,sZ]
 exact⟨fun _=>trivial,fun h=>absurd h (by decide)⟩
theorem Dr:aB Try.prog gl 88 [.d (.sl .nil 0 [])] (.d (.sl .nil 0 [])):=by
 refine bZ bl (bG (fn:=Try.f88) (by kernel_rfl) (by kernel_rfl) (by kernel_rfl)) (h:=FV) ?_;rw[IK];intro ba
 simp only[Qa,sS,sT,sZ]
 exact⟨fun _=>trivial,fun h=>absurd h (by decide)⟩
def oe:D:=.agg [.bool false,.bool false,.bool false,.sl .nil 0 [],.sl .nil 0 []]
def yL:D:=.agg [.int .i64 0,.int .i64 0,.int .i64 0,.int .i64 0,.sl .nil 0 [],.int .u64 0,.int .u64 0,.int .u64 0,.int .u64 0,.sl .nil 0 []]
def uT:D:=.agg [.str [],.sl .nil 0 [],.str [],.sl .nil 0 []]
theorem uX:aB Try.prog gl 86 [.d oe] (.d oe):=by
 refine bZ bl (bG (fn:=Try.f86) (by kernel_rfl) (by kernel_rfl) (by kernel_rfl)) (h:=LA) ?_;rw[Qz];intro ba
 have e:ay (.d oe)=some [.d (.bool false),.d (.bool false),.d (.bool false),.d (.sl .nil 0 []),.d (.sl .nil 0 [])]:=rfl
 have p3:∀a b c d e:D,ag false 1 3 [.d a,.d b,.d c,.d d,.d e]=some (.d d):=fun _ _ _ _ _=>rfl
 have p4:∀a b c d e:D,ag false 1 4 [.d a,.d b,.d c,.d d,.d e]=some (.d e):=fun _ _ _ _ _=>rfl
 simp only[e,p3,p4,sS,sT,sZ]
 refine⟨rfl,?_⟩
 refine aZ ze rfl ?_
 refine aZ ze rfl ?_
 exact⟨rfl,by decide,rfl,by decide,rfl,rfl,rfl⟩
theorem Ds:aB Try.prog gl 89 [.d uT] (.d uT):=by
 refine bZ bl (bG (fn:=Try.f89) (by kernel_rfl) (by kernel_rfl) (by kernel_rfl)) (h:=LC) ?_;rw[QC];intro ba
 have e:ay (.d uT)=some [.d (.str []),.d (.sl .nil 0 []),.d (.str []),.d (.sl .nil 0 [])]:=rfl
 have p3:∀a b c d:D,ag false 1 3 [.d a,.d b,.d c,.d d]=some (.d d):=fun _ _ _ _=>rfl
 have p4:∀a b c d:D,ag false 1 1 [.d a,.d b,.d c,.d d]=some (.d b):=fun _ _ _ _=>rfl
 simp only[e,p3,p4,sS,sT,sZ]
 refine⟨rfl,?_⟩
 refine aZ Dr rfl ?_
 refine aZ Dr rfl ?_
 exact⟨rfl,by decide,rfl,by decide,rfl,rfl,rfl⟩
theorem Dh:aB Try.prog gl 90 [.d (.sl .nil 0 [])] (.d (.sl .nil 0 [])):=by
 refine bZ bl (bG (fn:=Try.f90) (by kernel_rfl) (by kernel_rfl) (by kernel_rfl)) (h:=LD) ?_;rw[QD];intro ba
 have hn:=aE.nil (sz:=55) (L:=[]) 0 rfl
 simp only[hn.len,sS,sT,sZ]
 intro I hI
 refine hI _ _ ?_
 simp only[sS,sT,sZ]
 refine And.intro (fun h=>absurd h (by decide)) (fun _=>?_)
 trivial
theorem Mr:aB Try.prog gl 87 [.d yL] (.d yL):=by
 refine bZ bl (bG (fn:=Try.f87) (by kernel_rfl) (by kernel_rfl) (by kernel_rfl)) (h:=LB) ?_;rw[QB];intro ba
 have e:ay (.d yL)=some [.d (.int .i64 0),.d (.int .i64 0),.d (.int .i64 0),.d (.int .i64 0),.d (.sl .nil 0 []),.d (.int .u64 0),.d (.int .u64 0),.d (.int .u64 0),.d (.int .u64 0),.d (.sl .nil 0 [])]:=rfl
 have p3:∀a b c d e f g h i j:D,ag false 1 9 [.d a,.d b,.d c,.d d,.d e,.d f,.d g,.d h,.d i,.d j]=some (.d j):=fun _ _ _ _ _ _ _ _ _ _=>rfl
 have p4:∀a b c d e f g h i j:D,ag false 1 4 [.d a,.d b,.d c,.d d,.d e,.d f,.d g,.d h,.d i,.d j]=some (.d e):=fun _ _ _ _ _ _ _ _ _ _=>rfl
 have hn:=aE.nil (sz:=10) (L:=[]) 0 rfl
 have ec:ay (.d (.sl .nil 0 []))=some [.d (.sl .nil 0 [])]:=rfl
 simp only[e,p3,p4,ec,hn.len,sS,sT,sZ]
 refine⟨rfl,?_⟩
 refine aZ ze rfl ?_
 refine⟨rfl,by decide,rfl,by decide,?_⟩
 intro I hI
 refine hI _ _ ?_
 simp only[sS,sT,sZ]
 refine And.intro (fun h=>absurd h (by decide)) (fun _=>?_)
 exact⟨rfl,by decide,rfl,rfl⟩
def ES(t e:D):List D:=(mf.drop 9).take 44++[t,e]
def gm(k o:Int)(n:List UInt8)(l t e:D):D:=.agg ([.int .i64 k,.int .i64 o,.int .i64 0,.int .i64 0,.str n,.str [],.str [],l,.sl .nil 0 []]++ES t e)
theorem mq(k:Int)(n:List UInt8):cY Try.prog 65 [(0,.int .i64 k),(3,.str n)]=some (gm k 0 n (.sl .nil 0 []) (.sl .nil 0 []) (.sl .nil 0 [])):=by kernel_rfl
theorem Wm(k o:Int)(L:List D):cY Try.prog 65 [(0,.int .i64 k),(1,.int .i64 o),(6,.sl .ro 1 L)]=some (gm k o [] (.sl .ro 1 L) (.sl .nil 0 []) (.sl .nil 0 [])):=by kernel_rfl
theorem Vw(k:Int)(L:List D):cY Try.prog 65 [(0,.int .i64 k),(17,.sl .ro 55 L)]=some (gm k 0 [] (.sl .nil 0 []) (.sl .ro 55 L) (.sl .nil 0 [])):=by kernel_rfl
def wN(k o:Int)(n:List UInt8)(l t e:D):List SV:=[.d (.int .i64 k),.d (.int .i64 o),.d (.int .i64 0),.d (.int .i64 0),.d (.str n),.d (.str []),.d (.str []),.d l,.d (.sl .nil 0 [])]++(ES t e).map .d
theorem kM(k o:Int)(n:List UInt8)(l t e:D):ay (.d (gm k o n l t e))=some (wN k o n l t e):=rfl
theorem kT(k o:Int)(n:List UInt8)(l t e:D):(wN k o n l t e).length =55:=rfl
theorem kU(k o:Int)(n:List UInt8)(l t e:D):setAt e4 0 (wN k o n l t e)=wN k o n l t e:=pv rfl rfl
theorem kN(k o:Int)(n:List UInt8)(l t e:D):ag true 55 0 (wN k o n l t e)=some (.d (gm k o n l t e)):=rfl
theorem Be(n:List UInt8):aB Try.prog gl 31 [.d (.str n)] (.d (gm 2 0 n (.sl .nil 0 []) (.sl .nil 0 []) (.sl .nil 0 []))):=by
 refine bZ bl (bG (fn:=Try.f31) (by kernel_rfl) (by kernel_rfl) (by kernel_rfl)) (h:=Tt) ?_;rw[abE];intro ba
 have eT:=kU
 simp only[sZ]at eT
 simp only[DZ,mq,kM,kT,eT,kN,sS,sT,sZ]
theorem Xx(a b:D)(L:List D):aR [(0,.v (.d a)),(1,.v (.d b)),(6,.v (.full 1 L))]=some [(0,a),(1,b),(6,.sl .ro 1 L)]:=rfl
theorem aag(n:List UInt8):bq 1 1 [(0,D.str n)]=true:=rfl
theorem Ba(n:List UInt8):aB Try.prog gl 30 [.d (.str n)] (.d (gm 19 2 [] (.sl .ro 1 [.str n]) (.sl .nil 0 []) (.sl .nil 0 []))):=by
 refine bZ bl (bG (fn:=Try.f30) (by kernel_rfl) (by kernel_rfl) (by kernel_rfl)) (h:=Ts) ?_;rw[abD];intro ba
 have eT:=kU
 simp only[sZ]at eT
 simp only[dD,qV,aag,Xx,Wm,kM,kT,eT,kN,sS,sT,sZ]
theorem G3(L:List D):aB Try.prog gl 29 [.full 55 L] (.d (gm 18 0 [] (.sl .nil 0 []) (.sl .ro 55 L) (.sl .nil 0 []))):=by
 refine bZ bl (bG (fn:=Try.f29) (by kernel_rfl) (by kernel_rfl) (by kernel_rfl)) (h:=Tr) ?_;rw[abC];intro ba
 have eT:=kU
 have ed:aa (.full 55 L)=.full 55 L:=rfl
 have ep:∀a:D,aR [(0,.v (.d a)),(17,.v (.full 55 L))]=some [(0,a),(17,.sl .ro 55 L)]:=fun _=>rfl
 simp only[sZ]at eT
 simp only[ed,ep,Vw,kM,kT,eT,kN,sS,sT,sZ]
def dT(k:Int)(n:List UInt8):List SV:=wN k 0 n (.sl .nil 0 []) (.sl .nil 0 []) (.sl .nil 0 [])
def oU:List SV:=[.d (.bool false),.d (.bool false),.d (.bool false),.d (.sl .nil 0 []),.d (.sl .nil 0 [])]
def Am:List SV:=[.d (.int .i64 0),.d (.int .i64 0),.d (.int .i64 0),.d (.int .i64 0),.d (.sl .nil 0 []),.d (.int .u64 0),.d (.int .u64 0),.d (.int .u64 0),.d (.int .u64 0),.d (.sl .nil 0 [])]
def v5:List SV:=[.d (.str []),.d (.sl .nil 0 []),.d (.str []),.d (.sl .nil 0 [])]
theorem Wn(k:Int)(n:List UInt8):aB Try.prog gl 72 [.d (gm k 0 n (.sl .nil 0 []) (.sl .nil 0 []) (.sl .nil 0 []))] (.d (gm k 0 n (.sl .nil 0 []) (.sl .nil 0 []) (.sl .nil 0 []))):=by
 refine bZ bl (bG (fn:=Try.f72) (by kernel_rfl) (by kernel_rfl) (by kernel_rfl)) (h:=FU) ?_;rw[IL];intro ba
 have e0:ay (.d (gm k 0 n (.sl .nil 0 []) (.sl .nil 0 []) (.sl .nil 0 [])))=some (dT k n):=rfl
 have el:(dT k n).length =55:=rfl
 have eT:setAt e4 0 (dT k n)=dT k n:=pv rfl rfl
 simp only[sZ]at eT
 have ew:ag true 55 0 (dT k n)=some (.d (gm k 0 n (.sl .nil 0 []) (.sl .nil 0 []) (.sl .nil 0 []))):=rfl
 have en:ay (.d (.sl .nil 0 []))=some [.d (.sl .nil 0 [])]:=rfl
 have e7:ag false 1 7 (dT k n)=some (.d (.sl .nil 0 [])):=rfl
 have e8:ag false 1 8 (dT k n)=some (.d (.sl .nil 0 [])):=rfl
 have LS:ag false 1 40 (dT k n)=some (.d (.sl .nil 0 [])):=rfl
 have LU:ag false 1 53 (dT k n)=some (.d (.sl .nil 0 [])):=rfl
 have LV:ag false 1 54 (dT k n)=some (.d (.sl .nil 0 [])):=rfl
 have e9:ag true 5 9 (dT k n)=some (.d oe):=rfl
 have LX:ag true 5 14 (dT k n)=some (.d oe):=rfl
 have LY:ag true 5 19 (dT k n)=some (.d oe):=rfl
 have LZ:ag true 5 24 (dT k n)=some (.d oe):=rfl
 have L3:ag true 10 29 (dT k n)=some (.d yL):=rfl
 have L5:ag true 4 41 (dT k n)=some (.d uT):=rfl
 have L6:ag true 4 48 (dT k n)=some (.d uT):=rfl
 have s7:setAt (dT k n) 7 [.d (.sl .nil 0 [])]=dT k n:=rfl
 have s8:setAt (dT k n) 8 [.d (.sl .nil 0 [])]=dT k n:=rfl
 have L7:setAt (dT k n) 40 [.d (.sl .nil 0 [])]=dT k n:=rfl
 have L8:setAt (dT k n) 53 [.d (.sl .nil 0 [])]=dT k n:=rfl
 have L9:setAt (dT k n) 54 [.d (.sl .nil 0 [])]=dT k n:=rfl
 have s9:setAt (dT k n) 9 oU=dT k n:=rfl
 have Ma:setAt (dT k n) 14 oU=dT k n:=rfl
 have Mb:setAt (dT k n) 19 oU=dT k n:=rfl
 have Mc:setAt (dT k n) 24 oU=dT k n:=rfl
 have Md:setAt (dT k n) 29 Am=dT k n:=rfl
 have Me:setAt (dT k n) 41 v5=dT k n:=rfl
 have Mf:setAt (dT k n) 48 v5=dT k n:=rfl
 have cn:ay (.d oe)=some oU:=rfl
 have ce:ay (.d yL)=some Am:=rfl
 have cr:ay (.d uT)=some v5:=rfl
 have ln:oU.length=5:=rfl
 have le:Am.length=10:=rfl
 have lr:v5.length=4:=rfl
 simp only[e0,el,e7,e8,sS,sT,sZ]
 refine aZ ze rfl ?_
 refine aZ ze rfl ?_
 simp only[en,s7,s8,el,e9,LX,LY,LZ,sS,sT,sZ]
 refine⟨rfl,by decide,rfl,by decide,?_⟩
 refine aZ uX rfl ?_
 refine aZ uX rfl ?_
 refine aZ uX rfl ?_
 refine aZ uX rfl ?_
 simp only[cn,ln,s9,Ma,Mb,Mc,el,L3,sS,sT,sZ]
 refine⟨by decide,by decide,by decide,by decide,?_⟩
 refine aZ Mr rfl ?_
 simp only[ce,le,Md,el,LS,sS,sT,sZ]
 refine⟨by decide,?_⟩
 refine aZ Dr rfl ?_
 simp only[en,L7,el,L5,L6,sS,sT,sZ]
 refine⟨rfl,by decide,?_⟩
 refine aZ Ds rfl ?_
 refine aZ Ds rfl ?_
 simp only[cr,lr,Me,Mf,el,LU,LV,sS,sT,sZ]
 refine⟨by decide,by decide,?_⟩
 refine aZ Dh rfl ?_
 refine aZ Dh rfl ?_
 simp only[en,L8,L9,el,ew,e0,eT,sS,sT,sZ]
 exact⟨rfl,by decide,rfl,by decide⟩
def v7(n:List UInt8):List SV:=wN 19 2 [] (.sl .ro 1 [.str n]) (.sl .nil 0 []) (.sl .nil 0 [])
def eF(n:List UInt8):List SV:=[.d (.int .i64 19),.d (.int .i64 2),.d (.int .i64 0),.d (.int .i64 0),.d (.str []),.d (.str []),.d (.str []),.own 1 [.str n],.d (.sl .nil 0 [])]++(ES (.sl .nil 0 []) (.sl .nil 0 [])).map .d
theorem Xy(n:List UInt8):aB Try.prog gl 71 [.d (.sl .ro 1 [.str n])] (.own 1 [.str n]):=by
 refine bZ bl (bG (fn:=Try.f71) (by kernel_rfl) (by kernel_rfl) (by kernel_rfl)) (h:=AE) ?_;rw[BM];intro ba
 have e:ah (some (false,[])) .eql (.d (.sl .ro 1 [.str n])) (.d (.sl .nil 0 []))=some (.d (.bool false)):=rfl
 simp only[e,vp,sS,sT,sZ]
 refine And.intro (fun h=>absurd h (by decide)) (fun _=>?_)
 exact⟨rfl,(show 1*16≤140737488355328 by decide),rfl,rfl⟩
theorem Vx(n:List UInt8):aB Try.prog gl 72 [.d (gm 19 2 [] (.sl .ro 1 [.str n]) (.sl .nil 0 []) (.sl .nil 0 []))] (.d (gm 19 2 [] (.sl .ro 1 [.str n]) (.sl .nil 0 []) (.sl .nil 0 []))):=by
 refine bZ bl (bG (fn:=Try.f72) (by kernel_rfl) (by kernel_rfl) (by kernel_rfl)) (h:=FU) ?_;rw[IL];intro ba
 have e0:ay (.d (gm 19 2 [] (.sl .ro 1 [.str n]) (.sl .nil 0 []) (.sl .nil 0 [])))=some (v7 n):=rfl
 have el:(eF n).length =55:=rfl
 have eT:setAt e4 0 (v7 n)=v7 n:=pv rfl rfl
 have ew0:ag true 55 0 (v7 n)=some (.d (gm 19 2 [] (.sl .ro 1 [.str n]) (.sl .nil 0 []) (.sl .nil 0 []))):=rfl
 simp only[sZ]at eT
 have ew:ag true 55 0 (eF n)=some (.d (gm 19 2 [] (.sl .ro 1 [.str n]) (.sl .nil 0 []) (.sl .nil 0 []))):=rfl
 have en:ay (.d (.sl .nil 0 []))=some [.d (.sl .nil 0 [])]:=rfl
 have e7:ag false 1 7 (v7 n)=some (.d (.sl .ro 1 [.str n])):=rfl
 have e8:ag false 1 8 (v7 n)=some (.d (.sl .nil 0 [])):=rfl
 have LS:ag false 1 40 (eF n)=some (.d (.sl .nil 0 [])):=rfl
 have LU:ag false 1 53 (eF n)=some (.d (.sl .nil 0 [])):=rfl
 have LV:ag false 1 54 (eF n)=some (.d (.sl .nil 0 [])):=rfl
 have e9:ag true 5 9 (eF n)=some (.d oe):=rfl
 have LX:ag true 5 14 (eF n)=some (.d oe):=rfl
 have LY:ag true 5 19 (eF n)=some (.d oe):=rfl
 have LZ:ag true 5 24 (eF n)=some (.d oe):=rfl
 have L3:ag true 10 29 (eF n)=some (.d yL):=rfl
 have L5:ag true 4 41 (eF n)=some (.d uT):=rfl
 have L6:ag true 4 48 (eF n)=some (.d uT):=rfl
 have s7:setAt (v7 n) 7 [.own 1 [.str n]]=eF n:=rfl
 have Mg:(v7 n).length =55:=rfl
 have eo:ay (.own 1 [.str n])=some [.own 1 [.str n]]:=rfl
 have s8:setAt (eF n) 8 [.d (.sl .nil 0 [])]=eF n:=rfl
 have L7:setAt (eF n) 40 [.d (.sl .nil 0 [])]=eF n:=rfl
 have L8:setAt (eF n) 53 [.d (.sl .nil 0 [])]=eF n:=rfl
 have L9:setAt (eF n) 54 [.d (.sl .nil 0 [])]=eF n:=rfl
 have s9:setAt (eF n) 9 oU=eF n:=rfl
 have Ma:setAt (eF n) 14 oU=eF n:=rfl
 have Mb:setAt (eF n) 19 oU=eF n:=rfl
 have Mc:setAt (eF n) 24 oU=eF n:=rfl
 have Md:setAt (eF n) 29 Am=eF n:=rfl
 have Me:setAt (eF n) 41 v5=eF n:=rfl
 have Mf:setAt (eF n) 48 v5=eF n:=rfl
 have cn:ay (.d oe)=some oU:=rfl
 have ce:ay (.d yL)=some Am:=rfl
 have cr:ay (.d uT)=some v5:=rfl
 have ln:oU.length=5:=rfl
 have le:Am.length=10:=rfl
 have lr:v5.length=4:=rfl
 simp only[e0,Mg,e7,e8,sS,sT,sZ]
 refine aZ (Xy n) rfl ?_
 refine aZ ze rfl ?_
 simp only[en,eo,s7,s8,el,Mg,e9,LX,LY,LZ,sS,sT,sZ]
 refine⟨rfl,by decide,rfl,by decide,?_⟩
 refine aZ uX rfl ?_
 refine aZ uX rfl ?_
 refine aZ uX rfl ?_
 refine aZ uX rfl ?_
 simp only[cn,ln,s9,Ma,Mb,Mc,el,L3,sS,sT,sZ]
 refine⟨by decide,by decide,by decide,by decide,?_⟩
 refine aZ Mr rfl ?_
 simp only[ce,le,Md,el,LS,sS,sT,sZ]
 refine⟨by decide,?_⟩
 refine aZ Dr rfl ?_
 simp only[en,L7,el,L5,L6,sS,sT,sZ]
 refine⟨rfl,by decide,?_⟩
 refine aZ Ds rfl ?_
 refine aZ Ds rfl ?_
 simp only[cr,lr,Me,Mf,el,LU,LV,sS,sT,sZ]
 refine⟨by decide,by decide,?_⟩
 refine aZ Dh rfl ?_
 refine aZ Dh rfl ?_
 simp only[en,L8,L9,el,Mg,ew,ew0,e0,eT,sS,sT,sZ]
 exact⟨rfl,by decide,rfl,by decide⟩
end Go.Proofs.Ytimbllcalipehaa.Ab
namespace Go.Proofs.Ytimbllcalipehaa.Ab
open Go
set_option linter.unusedVariables false
set_option maxRecDepth 4000
def B1:SV→SV
 | .full sz L=>.d (.sl .ro sz L)
 |x=>x
theorem Wo{w:World}{St:Nat→Nat→Prop}{base:Nat}{O:Nat→Nat→Nat→Prop}{x:SV}{v:Value}(h:aG w St base O x v):aG w St base O (B1 x) v:=by
 cases h with
 |full _ sz L a h=>exact .d _ _ _ h
 |d _ x v h=>exact .d _ _ _ h
 |own _ sz L g cap h bE ho=>exact .own _ _ _ _ _ h bE ho
 |ref _ cs off b o vs hb aL hc=>exact .ref _ _ _ _ _ _ hb aL hc
 |cM _ n sz cs b cap vs hb hn hm aL hc=>exact .cM _ _ _ _ _ _ _ hb hn hm aL hc
 |aS _ x off b o vs hf aL hc=>exact .aS _ _ _ _ _ _ hf aL hc
 |cS _ f first cap fv cv hf hc rf rc=>exact .cS _ _ _ _ _ _ hf hc rf rc
 |bt _ sz L g cap vs bE hm aH hf ho aL hc=>exact .bt _ _ _ _ _ _ bE hm aH hf ho aL hc
 |mp _ l r es clock hh hs hl hc=>exact .mp _ _ _ _ _ hh hs hl hc
 |undef _ v=>exact .undef _ _
theorem sH{P:Program}{gl:Nat→Option D}{f:FuncId}{args:List SV}{r:SV}(h:aB P gl f (args.map B1) r)(h1:ki args=none:=by rfl)(h2:ki (args.map B1)=none:=by rfl):aB P gl f args r:=by
 have e1:aB P gl f args r=BH P gl f args r:=by unfold aB;rw[h1]
 have e2:aB P gl f (args.map B1) r=BH P gl f (args.map B1) r:=by unfold aB;rw[h2]
 rw[e1]
 rw[e2]at h
 refine⟨h.1,fun w St vs hb hg hl ha=>h.2 w St vs hb hg (by rw[List.length_map];exact hl) fun i x v hx hv=>?_⟩
 rw[List.getElem?_map]at hx
 obtain⟨y,hy,rfl⟩:=Option.map_eq_some_iff.1 hx
 exact Wo (ha i y v hy hv)
structure An(a:List (List Bool))(L:List D):Prop where
 len:L.length=a.length
 at_:∀{i:Nat}{r:List Bool},a[i]? =some r→∃y,L[i]? =some y∧aE 1 (j5 r) y
theorem YQ(a:List (List Bool)):An a (a.map kY):=
 ⟨List.length_map ..,fun{i r}h=>⟨kY r,by simp[h],eQ 1 _⟩⟩
theorem QS{r:List Bool}{i:Nat}{v:Bool}(h:r[i]? =some v):(j5 r)[i]? =some (.bool v):=by simp[j5,h]
theorem EB(y:D)(L:List D)(h:aE 1 L y):aM false 1 (.aS y 0)=some (.d y):=by cases h<;>rfl
theorem Vy{a b:List (List Bool)}{La Lb:List D}{x y:D}(hx:aE 1 La x)(hy:aE 1 Lb y)(ha:An a La)(hb:An b Lb)(Mh:∀r∈a,r.length≤maxLen):aB Try.prog gl 15 [.d x,.d y] (.d (.bool (a==b))):=by
 refine bZ bl (bG (fn:=Try.f15) (by kernel_rfl) (by kernel_rfl) (by kernel_rfl)) (h:=FO) ?_;rw[abg];intro ba
 have bW:a.length≤maxLen:=by rw[←ha.len];exact hx.tU ba.1
 simp only[hx.len,hy.len,ha.len,hb.len,ez,BB,sS,sT,sZ]
 refine And.intro (fun h=>?_) (fun h=>?_)
 ·have bf:a≠b:=fun he=>by subst he;simp at h
  rw[beq_eq_false_iff_ne.2 bf]
 have hle:a.length=b.length:=by simpa using h
 refine nh (fun i=>a.take i=b.take i) (fun i=>[.d x,.d y,.d (.int .i64 (a.length:Int)),.d (.int .i64 ((i:Nat):Int))]) (fun i=>[]) a.length rfl (fun i hi hJ I hI=>?_) (fun hJ I=>?_)
 ·simp only[sS,sT,sZ]
  refine And.intro (fun _=>?_) (fun h=>absurd h (by simp;omega))
  obtain⟨p,hp⟩:=get_some hi
  obtain⟨q,hq⟩:=get_some (by omega:i<b.length)
  obtain⟨yp,hyp,Gm⟩:=ha.at_ hp
  obtain⟨yq,TW,Gn⟩:=hb.at_ hq
  have nX:=Mh p (List.mem_of_getElem? hp)
  simp only[hx.at hyp,hy.at TW,EB _ _ Gm,EB _ _ Gn,Gm.len,Gn.len,P6,ez,BB,sS,sT,sZ]
  refine And.intro (fun h=>?_) (fun h=>?_)
  ·have bf:a≠b:=fun he=>by
    subst he
    rw[hp]at hq;cases hq
    simp at h
   rw[beq_eq_false_iff_ne.2 bf]
  have nR:p.length=q.length:=by simpa using h
  refine nh (fun j=>p.take j=q.take j) (fun j=>[.d x,.d y,.d (.int .i64 ((i:Nat):Int)),.d (.int .i64 (a.length:Int)),.d (.int .i64 ((i:Nat):Int)),.d (.int .i64 (p.length:Int)),.d (.int .i64 ((j:Nat):Int))]) (fun j=>[]) p.length rfl (fun j hj n0 I2 cG=>?_) (fun n0 I2=>?_)
  ·simp only[sS,sT,sZ]
   refine And.intro (fun _=>?_) (fun h=>absurd h (by simp;omega))
   obtain⟨u,hu⟩:=get_some hj
   obtain⟨v,hv⟩:=get_some (by omega:j<q.length)
   have iB:ah (some (false,[.bool])) .neq (.d (.bool u)) (.d (.bool v))=some (.d (.bool (u != v))):=rfl
   simp only[hx.at hyp,hy.at TW,EB _ _ Gm,EB _ _ Gn,Gm.at (QS hu),Gn.at (QS hv),Ip,iB,sS,sT,sZ]
   refine And.intro (fun h=>?_) (fun h=>?_)
   ·have bf:a≠b:=fun he=>by
     subst he
     rw[hp]at hq;cases hq
     rw[hu]at hv;cases hv
     simp at h
    rw[beq_eq_false_iff_ne.2 bf]
   ·have huv:u=v:=by simpa using h
    refine bC (bK hj nX) ?_
    exact cG (by rw[eH hu,eH hv,n0,huv])
  ·simp only[sS,sT,sZ]
   refine And.intro (fun h=>absurd h (by simp)) (fun _=>?_)
   rw[List.take_length,nR,List.take_length]at n0
   refine bC (bK hi bW) ?_
   exact hI (by rw[eH hp,eH hq,hJ,n0])
 ·simp only[sS,sT,sZ]
  refine And.intro (fun h=>absurd h (by simp)) (fun _=>?_)
  rw[List.take_length,hle,List.take_length]at hJ
  rw[hJ];simp
end Go.Proofs.Ytimbllcalipehaa.Ab
namespace Go.Proofs.Ytimbllcalipehaa.Ab
open Go
set_option linter.unusedVariables false
set_option maxRecDepth 4000
def AQ(n:List UInt8):ak:=.mk ⟨2,0,0,0,n,[],[]⟩ [] []
def AR(n:List UInt8):ak:=.mk ⟨19,2,0,0,[],[n],[]⟩ [] []
def TX(n:List UInt8):ak:=.mk ⟨3,0,0,0,n,[],[]⟩ [] []
def Dc(t e:List ak):ak:=.mk ⟨18,0,0,0,[],[],[]⟩ t e
def uU:bT:=⟨[97],0,[AQ [116]]⟩
def rK:bT:=⟨[98],0,[Dc [AR [116]] [TX [120]]]⟩
def Gp:bT:=⟨[99],0,[Dc [AR [116],AQ [117]] []]⟩
def Fg:bT:=⟨[100],0,[Dc [AR [117],AQ [116]] []]⟩
def uV:bT:=⟨[101],0,[AR [116],AQ [118]]⟩
def Gq:bT:=⟨[122],0,[AQ [116],AR [118]]⟩
theorem ae9:Da [uU,rK]=.ok [[],[true]]:=by kernel_rfl
theorem afa:Da [rK]=.ok [[false]]:=by kernel_rfl
theorem afb:Da [Gp,Fg]=.ok [[true],[true]]:=by kernel_rfl
theorem afc:Co [uV,uU]=([1,0],true):=by kernel_rfl
theorem afd:Co [uV,Gq]=([0,1],false):=by kernel_rfl
def AS(n:List UInt8):D:=gm 2 0 n (.sl .nil 0 []) (.sl .nil 0 []) (.sl .nil 0 [])
def AT(n:List UInt8):D:=gm 19 2 [] (.sl .ro 1 [.str n]) (.sl .nil 0 []) (.sl .nil 0 [])
def wO(n:List UInt8):D:=gm 3 0 n (.sl .nil 0 []) (.sl .nil 0 []) (.sl .nil 0 [])
def Mi(L:List D):D:=gm 18 0 [] (.sl .nil 0 []) (.sl .ro 55 L) (.sl .nil 0 [])
def Gr(L M:List D):D:=gm 18 0 [] (.sl .nil 0 []) (.sl .ro 55 L) (.sl .ro 55 M)
def oh(n:List UInt8)(L:List D):D:=.agg [.str n,.int .i64 0,.sl .ro 55 L]
theorem B2(k o:Int)(n:List UInt8)(names:List (List UInt8))(th el:List ak){l t e:D}{Lt Le:List D}(hl:aE 1 (bU names) l)(ht:aE 55 Lt t)(he:aE 55 Le e)(fu:fG th Lt)(fc:fG el Le):m6 (.mk ⟨k,o,0,0,n,names,[]⟩ th el) (gm k o n l t e):=
 .mk ⟨k,o,0,0,n,names,[]⟩ th el (.str []) (.str []) l (.sl .nil 0 []) (ES t e) t e Lt Le rfl hl (.nil 0 rfl) rfl rfl ht he fu fc
theorem xA:aE 55 [] (.sl .nil 0 []):=.nil 0 rfl
theorem Fh:aE 1 (bU []) (.sl .nil 0 []):=.nil 0 rfl
theorem BN(n:List UInt8):m6 (AQ n) (AS n):=B2 2 0 n [] [] [] Fh xA xA .nil .nil
theorem ab7(n:List UInt8):m6 (TX n) (wO n):=B2 3 0 n [] [] [] Fh xA xA .nil .nil
theorem BO(n:List UInt8):m6 (AR n) (AT n):=B2 19 2 [] [n] [] [] .ro xA xA .nil .nil
theorem QT{th:List ak}{L:List D}(h:fG th L):m6 (Dc th []) (Mi L):=B2 18 0 [] [] th [] Fh .ro xA h .nil
theorem aah{th el:List ak}{L M:List D}(h:fG th L)(k:fG el M):m6 (Dc th el) (Gr L M):=B2 18 0 [] [] th el Fh .ro .ro h k
theorem zL{n:List UInt8}{ts:List ak}{L:List D}(h:fG ts L):jR ⟨n,0,ts⟩ (oh n L):=.mk (.sl .ro 55 L) L .ro h
def Gs:D:=oh [97] [AS [116]]
def yM:D:=oh [98] [Gr [AT [116]] [wO [120]]]
def TY:D:=oh [99] [Mi [AT [116],AS [117]]]
def R1:D:=oh [100] [Mi [AT [117],AS [116]]]
def Gt:D:=oh [101] [AT [116],AS [118]]
def TZ:D:=oh [122] [AS [116],AT [118]]
theorem Kf:jR uU Gs:=zL (.cons _ _ _ _ (BN _) .nil)
theorem Fi:jR rK yM:=zL (.cons _ _ _ _ (aah (.cons _ _ _ _ (BO _) .nil) (.cons _ _ _ _ (ab7 _) .nil)) .nil)
theorem afe:jR Gp TY:=zL (.cons _ _ _ _ (QT (.cons _ _ _ _ (BO _) (.cons _ _ _ _ (BN _) .nil))) .nil)
theorem adA:jR Fg R1:=zL (.cons _ _ _ _ (QT (.cons _ _ _ _ (BO _) (.cons _ _ _ _ (BN _) .nil))) .nil)
theorem Kg:jR uV Gt:=zL (.cons _ _ _ _ (BO _) (.cons _ _ _ _ (BN _) .nil))
theorem aff:jR Gq TZ:=zL (.cons _ _ _ _ (BN _) (.cons _ _ _ _ (BO _) .nil))
theorem Qb{m:bT}{d:D}(h:jR m d):pN [m] [d]:=⟨rfl,fun{i m'}hm=>by
 cases i with
 |zero=>simp at hm;subst hm;exact⟨d,rfl,h⟩
 |succ i=>simp at hm⟩
theorem BE{m m2:bT}{d d2:D}(h:jR m d)(h2:jR m2 d2):pN [m,m2] [d,d2]:=⟨rfl,fun{i m'}hm=>by
 cases i with
 |zero=>simp at hm;subst hm;exact⟨d,rfl,h⟩
 |succ i=>cases i with
  |zero=>simp at hm;subst hm;exact⟨d2,rfl,h2⟩
  |succ i=>simp at hm⟩
theorem zM:ns [uU,rK]=true∧ns [Gp,Fg]=true∧ns [uV,Gq]=true:=by decide
theorem Ao{a b:bT}(h:ns [a,b]=true):∀m∈[a,b],dC m.aP:=(Ov h).2
theorem R2:dC uU.aP:=Ao zM.1 _ (by simp)
theorem Kh:dC rK.aP:=Ao zM.1 _ (by simp)
theorem R3:dC uV.aP:=Ao zM.2.2 _ (by simp)
theorem En1:aB Try.prog gl 11 [.full 3 [Gs,yM]] (.aK [.d (.sl .ro 1 ([[],[true]].map kY)),.d ej]):=by
 have:=GM (l:=[uU,rK]) .ro (BE Kf Fi) (by decide) (Ao zM.1)
 rw[ae9]at this
 exact sH this
theorem En2:aB Try.prog gl 11 [.full 3 [yM]] (.aK [.d (.sl .ro 1 ([[false]].map kY)),.d ej]):=by
 have:=GM (l:=[rK]) .ro (Qb Fi) (by decide) (by intro m hm;rw[List.mem_singleton.1 hm];exact Kh)
 rw[afa]at this
 exact sH this
theorem En3:aB Try.prog gl 11 [.full 3 [TY,R1]] (.aK [.d (.sl .ro 1 ([[true],[true]].map kY)),.d ej]):=by
 have:=GM (l:=[Gp,Fg]) .ro (BE afe adA) (by decide) (Ao zM.2.1)
 rw[afb]at this
 exact sH this
theorem Od1:aB Try.prog gl 16 [.full 3 [Gt,Gs]] (.aK [.own 1 [.int .i64 1,.int .i64 0],.d (.int .i64 0)]):=by
 have:=Nk (l:=[uV,uU]) .ro (BE Kg Kf) (by decide) (by
  intro m hm
  rcases List.mem_cons.1 hm with rfl|hm
  ·exact R3
  ·rw[List.mem_singleton.1 hm];exact R2)
 rw[afc]at this
 exact sH this
theorem Od2:aB Try.prog gl 16 [.full 3 [Gt,TZ]] (.aK [.d (.sl .ro 1 [.int .i64 0,.int .i64 1]),.d (.int .i64 17)]):=by
 have:=Nk (l:=[uV,Gq]) .ro (BE Kg aff) (by decide) (Ao zM.2.2)
 rw[afd]at this
 exact sH this
theorem Bk1:aB Try.prog gl 13 [.d yM] (.d (.int .i64 1)):=UI Fi Kh
theorem afg:LR (uS fun x=>x) [rK] [yM]:=by
 intro i m x hm hx
 cases i with
 |zero=>
  simp at hm hx
  subst hm;subst hx
  exact⟨⟨⟨⟨Vx _,rfl⟩,trivial⟩,⟨⟨Wn _ _,rfl⟩,trivial⟩⟩,trivial⟩
 |succ i=>simp at hm
def AU:D:=.agg [.str [98],.int .i64 0,.sl .ro 55 [wO [120]]]
theorem afh:Gl (fun x=>x) [rK] [yM]=.ok [AU]:=by kernel_rfl
theorem Fl1:aB Try.prog gl 25 [.full 3 [yM]] (.aK [.own 3 [AU],.d ej]):=by
 have:=ML (fun x=>x) (l:=[rK]) .ro (Qb Fi) (by decide) (by intro m hm;rw[List.mem_singleton.1 hm];exact Kh) afg
 rw[afh]at this
 exact sH this
theorem afi:IS [uV,uU] 0=[1]:=by kernel_rfl
theorem Nd1:aB Try.prog gl 19 [.full 3 [Gt,Gs],.d (.int .i64 0)] (.own 1 [.int .i64 1]):=by
 have:=Vn (l:=[uV,uU]) .ro (BE Kg Kf) (by decide) (by
  intro m hm
  rcases List.mem_cons.1 hm with rfl|hm
  ·exact R3
  ·rw[List.mem_singleton.1 hm];exact R2) 0
 rw[afi]at this
 exact sH this
theorem Mj(a:List Nat):aB Try.prog gl 18 [.d (.sl .ro 1 (cQ a)),.full 1 (cQ a)] (.d (.bool true)):=by
 have:=Wg a a (x:=.sl .ro 1 (cQ a)) (y:=.sl .ro 1 (cQ a)) .ro .ro
 rw[show(a==a)=true from by simp]at this
 exact sH this
theorem Mk(a:List (List Bool))(L:List D)(h:An a L)(ha:∀r∈a,r.length≤maxLen):aB Try.prog gl 15 [.d (.sl .ro 1 (a.map kY)),.full 1 L] (.d (.bool true)):=by
 have:=Vy (a:=a) (b:=a) (x:=.sl .ro 1 (a.map kY)) (y:=.sl .ro 1 L) .ro .ro (YQ a) h ha
 rw[show(a==a)=true from by simp]at this
 exact sH this
end Go.Proofs.Ytimbllcalipehaa.Ab
namespace Go.Proofs.Ytimbllcalipehaa.Ab
open Go
set_option linter.unusedVariables false
set_option maxRecDepth 8000
theorem zN{P:Program}{gl:Nat→Option D}{f:FuncId}{args:List SV}{r1 r2:SV}{k:SV→SV→Prop}(hH:aB P gl f args (.aK [r1,r2]))(hk:k r1 r2):∃a b,aB P gl f args (.aK [a,b])∧k a b:=⟨r1,r2,hH,hk⟩
def yN(n:List UInt8)(L:List D):List SV:=[.d (.str n),.d (.int .i64 0),.d (.sl .ro 55 L)]
theorem nk(n:List UInt8)(L:List D):cY Try.prog 36 [(0,.str n),(2,.sl .ro 55 L)]=some (oh n L):=by kernel_rfl
theorem ni(x:D)(L:List D):aR [(0,.v (.d x)),(2,.v (.full 55 L))]=some [(0,x),(2,.sl .ro 55 L)]:=rfl
theorem ik(n:List UInt8)(L:List D):ay (.d (oh n L))=some (yN n L):=rfl
theorem nt(n:List UInt8)(L:List D):(yN n L).length =3:=rfl
theorem iu(a b c:SV)(n:List UInt8)(L:List D):setAt [a,b,c] 0 (yN n L)=yN n L:=rfl
theorem il(n:List UInt8)(L:List D):ag true 3 0 (yN n L)=some (.d (oh n L)):=rfl
theorem nu(n:List UInt8)(L:List D):bq 3 1 [(0,oh n L)]=true:=rfl
theorem im(n n2:List UInt8)(L L2:List D):bq 3 2 [(0,oh n L),(1,oh n2 L2)]=true:=rfl
theorem iv(z x y:D):bu z [(0,x),(1,y)] 2 0=[x,y]:=rfl
theorem nv(k o:Int)(n:List UInt8)(l t e:D):bq 55 1 [(0,gm k o n l t e)]=true:=rfl
theorem np(k o:Int)(n:List UInt8)(l t e:D)(k2 o2:Int)(n2:List UInt8)(l2 t2 e2:D):bq 55 2 [(0,gm k o n l t e),(1,gm k2 o2 n2 l2 t2 e2)]=true:=rfl
def Ml(L M:List D):List SV:=[.d (.int .i64 18),.d (.int .i64 0),.d (.int .i64 0),.d (.int .i64 0),.d (.str []),.d (.str []),.d (.str []),.d (.sl .nil 0 []),.d (.sl .nil 0 [])]++((mf.drop 9).take 44).map .d ++[.d (.sl .ro 55 L),.full 55 M]
theorem nz(L M:List D):setAt (wN 18 0 [] (.sl .nil 0 []) (.sl .ro 55 L) (.sl .nil 0 [])) 54 [.full 55 M]=Ml L M:=rfl
theorem nA(L M:List D):(Ml L M).length =55:=rfl
theorem nn(L M:List D):ag true 55 0 (Ml L M)=some (.d (Gr L M)):=rfl
theorem nj(L:List D):ay (.full 55 L)=some [.full 55 L]:=rfl
theorem pE:ag true 4 0 (setAt dA 0 [.d (.int .i64 0),.d (.int .i64 0),.d (.int .i64 0),.d (.str [])])=some (.d ej):=rfl
theorem pF:cY Try.prog 30 []=some ej:=by kernel_rfl
theorem pO:ah (some (true,[.int,.int,.int,.str])) .eql (.d ej) (.d ej)=some (.d (.bool true)):=rfl
theorem qC{A B:Prop}(h:A):aq (.d (.bool true)) A B:=by
 rw[PH];exact⟨fun _=>h,fun h=>absurd h (by decide)⟩
theorem qF(L:List D):aR [(0,.v (.full 1 L))]=some [(0,.sl .ro 1 L)]:=rfl
theorem qG(L M:List D):aR [(0,.v (.full 1 L)),(1,.v (.full 1 M))]=some [(0,.sl .ro 1 L),(1,.sl .ro 1 M)]:=rfl
theorem rz:bq 1 0 []=true:=rfl
theorem qY(L:List D):bq 1 1 [(0,D.sl .ro 1 L)]=true:=rfl
theorem qP(L M:List D):bq 1 2 [(0,D.sl .ro 1 L),(1,D.sl .ro 1 M)]=true:=rfl
theorem oV(z:D):bu z [] 0 0=[]:=rfl
theorem ab8(r:List Bool):An [r] [.sl .ro 1 (j5 r)]:=⟨rfl,fun{i s}h=>by
 cases i with
 |zero=>simp at h;subst h;exact⟨_,rfl,.ro⟩
 |succ i=>simp at h⟩
theorem QU(r s:List Bool):An [r,s] [.sl .ro 1 (j5 r),.sl .ro 1 (j5 s)]:=⟨rfl,fun{i t}h=>by
 cases i with
 |zero=>simp at h;subst h;exact⟨_,rfl,.ro⟩
 |succ i=>cases i with
  |zero=>simp at h;subst h;exact⟨_,rfl,.ro⟩
  |succ i=>simp at h⟩
theorem tV:bd (.d (.sl .ro 3 [AU]))=some (.d (.int .i64 1)):=rfl
theorem tW:ah (some (false,[.int])) .eql (.d (.int .i64 1)) (.d (.int .i64 1))=some (.d (.bool true)):=rfl
theorem tX:bc 3 (.d (.sl .ro 3 [AU])) (.d (.int .i64 0))=some (.aS AU 0):=rfl
theorem tY:aM false 1 (.aS AU 2)=some (.d (.sl .ro 55 [wO [120]])):=rfl
theorem tZ:bd (.d (.sl .ro 55 [wO [120]]))=some (.d (.int .i64 1)):=rfl
theorem ua:bc 55 (.d (.sl .ro 55 [wO [120]])) (.d (.int .i64 0))=some (.aS (wO [120]) 0):=rfl
theorem ub:aM false 1 (.aS (wO [120]) 4)=some (.d (.str [120])):=rfl
theorem uc:ah (some (false,[.str])) .eql (.d (.str [120])) (.d (.str [120]))=some (.d (.bool true)):=rfl
theorem tk(a b:Int):bq 1 2 [(0,.int .i64 a),(1,.int .i64 b)]=true:=rfl
theorem pA(z x:D):bu z [(0,x)] 1 0=[x]:=rfl
theorem tl(z x y:D):bu z [(0,x),(1,y)] 2 0=[x,y]:=rfl
theorem sP(a:Int):bq 1 1 [(0,.int .i64 a)]=true:=rfl
theorem s3(n:List UInt8)(L:List D):setAt [.d (.str []),.d (.int .i64 0),.d (.sl .nil 0 [])] 0 (yN n L)=yN n L:=rfl
theorem Fg1:aB Try.prog gl 15 [.d (.sl .ro 1 [kY [],kY [true]]),.full 1 [.sl .ro 1 [],.sl .ro 1 [.bool true]]] (.d (.bool true)):=Mk [[],[true]] _ (QU [] [true]) (by decide)
theorem Fg2:aB Try.prog gl 15 [.d (.sl .ro 1 [kY [false]]),.full 1 [.sl .ro 1 [.bool false]]] (.d (.bool true)):=Mk [[false]] _ (ab8 [false]) (by decide)
theorem Fg3:aB Try.prog gl 15 [.d (.sl .ro 1 [kY [true],kY [true]]),.full 1 [.sl .ro 1 [.bool true],.sl .ro 1 [.bool true]]] (.d (.bool true)):=Mk [[true],[true]] _ (QU [true] [true]) (by decide)
theorem nB(L M:List D):bq 55 1 [(0,Gr L M)]=true:=rfl
theorem gV(n:Nat)(L:List D):aa (.own n L)=.d (.sl .ro n L):=rfl
theorem No:aB Try.prog gl 10 [] (.d (.bool true)):=by
 refine bZ bl (bG (fn:=Try.f10) (by kernel_rfl) (by kernel_rfl) (by kernel_rfl)) (h:=Cr) ?_;rw[abB];intro ba
 refine aZ (Ba [116]) rfl ?_
 simp only[dD,gU,ni,mU,iv,nv,np,nB,nu,im,mq,nk,kM,kT,kU,kN,ik,nt,iu,il,nz,nA,nn,nj,ej,dE,dJ,z4,eI,dG,gV,sS,sT]
 refine aZ (G3 _) rfl ?_
 simp only[dD,gU,ni,mU,iv,nv,np,nB,nu,im,mq,nk,kM,kT,kU,kN,ik,nt,iu,il,nz,nA,nn,nj,ej,dE,dJ,z4,eI,dG,gV,sS,sT]
 refine⟨rfl,?_⟩
 refine aZ (Be [116]) rfl ?_
 simp only[dD,gU,ni,mU,iv,nv,np,nB,nu,im,mq,nk,kM,kT,kU,kN,ik,nt,iu,il,nz,nA,nn,nj,ej,dE,dJ,z4,eI,dG,gV,sS,sT]
 refine zN En1 ?_
 simp only[dD,gU,ni,mU,iv,nv,np,nB,nu,im,mq,nk,kM,kT,kU,kN,ik,nt,iu,il,nz,nA,nn,nj,ej,dE,dJ,z4,eI,dG,gV,sS,sT]
 refine zN En2 ?_
 simp only[dD,gU,ni,mU,iv,nv,np,nB,nu,im,mq,nk,kM,kT,kU,kN,ik,nt,iu,il,nz,nA,nn,nj,ej,dE,dJ,z4,eI,dG,gV,sS,sT]
 refine zN Fl1 ?_
 simp only[dD,gU,ni,mU,iv,nv,np,nB,nu,im,mq,nk,kM,kT,kU,kN,ik,nt,iu,il,nz,nA,nn,nj,ej,dE,dJ,z4,eI,dG,gV,sS,sT]
 refine aZ (Ba [116]) rfl ?_
 refine aZ (Be [117]) rfl ?_
 simp only[dD,gU,ni,mU,iv,nv,np,nB,nu,im,mq,nk,kM,kT,kU,kN,ik,nt,iu,il,nz,nA,nn,nj,ej,dE,dJ,z4,eI,dG,gV,sS,sT]
 refine aZ (G3 _) rfl ?_
 simp only[dD,gU,ni,mU,iv,nv,np,nB,nu,im,mq,nk,kM,kT,kU,kN,ik,nt,iu,il,nz,nA,nn,nj,ej,dE,dJ,z4,eI,dG,gV,sS,sT]
 refine aZ (Ba [117]) rfl ?_
 refine aZ (Be [116]) rfl ?_
 simp only[dD,gU,ni,mU,iv,nv,np,nB,nu,im,mq,nk,kM,kT,kU,kN,ik,nt,iu,il,nz,nA,nn,nj,ej,dE,dJ,z4,eI,dG,gV,sS,sT]
 refine aZ (G3 _) rfl ?_
 simp only[dD,gU,ni,mU,iv,nv,np,nB,nu,im,mq,nk,kM,kT,kU,kN,ik,nt,iu,il,nz,nA,nn,nj,ej,dE,dJ,z4,eI,dG,gV,sS,sT]
 refine zN En3 ?_
 simp only[dD,gU,ni,mU,iv,nv,np,nB,nu,im,mq,nk,kM,kT,kU,kN,ik,nt,iu,il,nz,nA,nn,nj,ej,dE,dJ,z4,eI,dG,gV,sS,sT]
 refine aZ (Ba [116]) rfl ?_
 refine aZ (Be [118]) rfl ?_
 simp only[dD,gU,ni,mU,iv,nv,np,nB,nu,im,mq,nk,kM,kT,kU,kN,ik,nt,iu,il,nz,nA,nn,nj,ej,dE,dJ,z4,eI,dG,gV,sS,sT]
 refine zN Od1 ?_
 refine aZ (Be [116]) rfl ?_
 refine aZ (Ba [118]) rfl ?_
 simp only[dD,gU,ni,mU,iv,nv,np,nB,nu,im,mq,nk,kM,kT,kU,kN,ik,nt,iu,il,nz,nA,nn,nj,ej,dE,dJ,z4,eI,dG,gV,sS,sT]
 refine zN Od2 ?_
 simp only[List.map,pE,pF,pO,pE,pF,pO,qF,qG,rz,qY,qP,oH,oV,qV,gV,sS,sT]
 refine And.intro (fun _=>?_) (fun h=>absurd h (by decide))
 simp only[pE,pF,pO,dD,gU,qF,qG,rz,qY,qP,oH,tk,sP,oV,pA,tl,gV,il,iu,ik,iv,im,tV,tW,tX,tY,tZ,ua,ub,uc,nF,s3,sS,sT]
 refine aZ Fg1 rfl ?_
 simp only[pE,pF,pO,dD,gU,qF,qG,rz,qY,qP,oH,tk,sP,oV,pA,tl,gV,il,iu,ik,iv,im,tV,tW,tX,tY,tZ,ua,ub,uc,nF,s3,sS,sT]
 refine And.intro (fun _=>?_) (fun h=>absurd h (by decide))
 refine And.intro (fun _=>?_) (fun h=>absurd h (by decide))
 refine aZ Fg2 rfl ?_
 simp only[pE,pF,pO,dD,gU,qF,qG,rz,qY,qP,oH,tk,sP,oV,pA,tl,gV,il,iu,ik,iv,im,tV,tW,tX,tY,tZ,ua,ub,uc,nF,s3,sS,sT]
 refine And.intro (fun _=>?_) (fun h=>absurd h (by decide))
 refine And.intro (fun _=>?_) (fun h=>absurd h (by decide))
 refine And.intro (fun _=>?_) (fun h=>absurd h (by decide))
 refine And.intro (fun _=>?_) (fun h=>absurd h (by decide))
 refine And.intro (fun _=>?_) (fun h=>absurd h (by decide))
 refine And.intro (fun _=>?_) (fun h=>absurd h (by decide))
 refine aZ Fg3 rfl ?_
 simp only[pE,pF,pO,dD,gU,qF,qG,rz,qY,qP,oH,tk,sP,oV,pA,tl,gV,il,iu,ik,iv,im,tV,tW,tX,tY,tZ,ua,ub,uc,nF,s3,sS,sT]
 refine And.intro (fun _=>?_) (fun h=>absurd h (by decide))
 refine And.intro (fun _=>?_) (fun h=>absurd h (by decide))
 refine aZ (Mj [1,0]) rfl ?_
 simp only[pE,pF,pO,dD,gU,qF,qG,rz,qY,qP,oH,tk,sP,oV,pA,tl,gV,il,iu,ik,iv,im,tV,tW,tX,tY,tZ,ua,ub,uc,nF,s3,sS,sT]
 refine And.intro (fun _=>?_) (fun h=>absurd h (by decide))
 refine And.intro (fun _=>?_) (fun h=>absurd h (by decide))
 refine aZ (Mj [0,1]) rfl ?_
 simp only[pE,pF,pO,dD,gU,qF,qG,rz,qY,qP,oH,tk,sP,oV,pA,tl,gV,il,iu,ik,iv,im,tV,tW,tX,tY,tZ,ua,ub,uc,nF,s3,sS,sT]
 refine And.intro (fun _=>?_) (fun h=>absurd h (by decide))
 refine aZ Bk1 rfl ?_
 simp only[pE,pF,pO,dD,gU,qF,qG,rz,qY,qP,oH,tk,sP,oV,pA,tl,gV,il,iu,ik,iv,im,tV,tW,tX,tY,tZ,ua,ub,uc,nF,s3,sS,sT]
 refine And.intro (fun _=>?_) (fun h=>absurd h (by decide))
 refine aZ Nd1 rfl ?_
 simp only[pE,pF,pO,dD,gU,qF,qG,rz,qY,qP,oH,tk,sP,oV,pA,tl,gV,il,iu,ik,iv,im,tV,tW,tX,tY,tZ,ua,ub,uc,nF,s3,sS,sT]
 refine aZ (Mj [1]) rfl ?_
 simp only[pE,pF,pO,dD,gU,qF,qG,rz,qY,qP,oH,tk,sP,oV,pA,tl,gV,il,iu,ik,iv,im,tV,tW,tX,tY,tZ,ua,ub,uc,nF,s3,sS,sT]
end Go.Proofs.Ytimbllcalipehaa.Ab
namespace Go.Proofs.Ytimbllcalipehaa.Ab
open Go
set_option linter.unusedVariables false
set_option maxRecDepth 4000
theorem adB(v:Bool):eY .not (.d (.bool v))=some (.d (.bool (!v))):=by cases v<;>rfl
end Go.Proofs.Ytimbllcalipehaa.Ab
namespace Go.Proofs.Ytimbllcalipehaa.Ab
open Go
set_option linter.unusedVariables false
set_option maxRecDepth 4000
def Jx(N:Nat→List Nat)(p:List Nat):Prop:=∀(i:Nat)x y,p[i]? =some x→p[i+1]? =some y→y∈N x
theorem Jx.snoc{N:Nat→List Nat}{p:List Nat}{a x:Nat}(h:Jx N (p++[a]))(hx:x∈N a):Jx N (p++[a]++[x]):=by
 intro i u v hu hv
 rcases Nat.lt_trichotomy (i+1) (p++[a]).length with h1|h1|h1
 ·rw[List.getElem?_append_left (by omega)]at hu
  rw[List.getElem?_append_left h1]at hv
  exact h i u v hu hv
 ·rw[List.length_append,List.length_singleton]at h1
  rw[List.getElem?_append_right (by rw[List.length_append,List.length_singleton];omega)]at hv
  rw[List.getElem?_append_left (by rw[List.length_append,List.length_singleton];omega),List.getElem?_append_right (by omega)]at hu
  have e1:i+1-(p++[a]).length =0:=by rw[List.length_append,List.length_singleton];omega
  have e2:i-p.length=0:=by omega
  rw[e1]at hv
  rw[e2]at hu
  cases hv
  cases hu
  exact hx
 ·rw[List.getElem?_append_right (by omega)]at hv
  have:¬i+1-(p++[a]).length <[x].length :=by rw[List.length_singleton];omega
  rw[List.getElem?_eq_none (by omega)]at hv
  cases hv
end Go.Proofs.Ytimbllcalipehaa.Ab
namespace Go.Proofs.Ytimbllcalipehaa.Ab
open Go
set_option linter.unusedVariables false
set_option maxRecDepth 4000
end Go.Proofs.Ytimbllcalipehaa.Ab
namespace Go.Proofs.Ytimbllcalipehaa.Ab
open Go
set_option linter.unusedVariables false
set_option maxRecDepth 4000
def Rk(os:List au)(ps:List (List au))(c i:Nat):List au:=os++(List.range i).flatMap fun j=>if c.testBit j then ps.getD j []else []
def Ki(os:List au)(ps:List (List au))(c:Nat):List au:=Rk os ps c ps.length
def afj(os:List au)(ps:List (List au))(c i:Nat):Bool:=(List.range i).all fun j=> !c.testBit j||(jx (ps.getD j []) (Ki os ps c)).length ==0
def T0(os:List au)(ps:List (List au))(c:Nat):Bool:=afj os ps c ps.length
structure Gu(os:List au)(ps:List (List au))(l:List aA):Prop where
 len:l.length=ps.length
 ok:∀(j:Nat)b,l[j]? =some b→b.up<0∧b.el=[]∧ps[j]? =some b.th
 big:∀(j:Nat)b,l[j]? =some b→∀c,T0 os ps c=true→c.testBit j=true→b.mark=true
theorem Gu.up{os:List au}{ps:List (List au)}{l:List aA}(h:Gu os ps l):∀b∈l,b.up<0:=fun b hb=>by
 obtain⟨j,hj⟩:=List.mem_iff_getElem?.1 hb
 exact(h.ok j b hj).1
theorem OC{l:List aA}{os:List au}{s:au}(h:s∈os∨∃b∈l,b.here=true∧b.mark=true∧s∈b.th):s∈iY l os:=by
 unfold iY
 rw[List.mem_append]
 rcases h with h|⟨b,hb,h1,h2,h3⟩
 ·exact .inl h
 ·right
  rw[List.mem_flatMap]
  refine⟨b,hb,?_⟩
  unfold su
  rw[h1,h2];exact h3
theorem Gu.sub{os:List au}{ps:List (List au)}{l:List aA}(h:Gu os ps l)(hh:∀b∈l,b.here=true){c:Nat}(hc:T0 os ps c=true):∀s∈Ki os ps c,s∈iY l os:=by
 intro s hs
 unfold Ki Rk at hs
 rcases List.mem_append.1 hs with hs|hs
 ·exact OC (.inl hs)
 ·obtain⟨j,hj,hs⟩:=List.mem_flatMap.1 hs
  have Db:=List.mem_range.1 hj
  split at hs
  ·rename_i hb
   obtain⟨b,dO⟩:=get_some (by rw[h.len];exact Db:j<l.length)
   have hm:=List.mem_of_getElem? dO
   refine OC (.inr ⟨b,hm,hh b hm,h.big j b dO c hc hb,?_⟩)
   rw[List.getD_eq_getElem?_getD,(h.ok j b dO).2.2]at hs
   exact hs
  ·cases hs
end Go.Proofs.Ytimbllcalipehaa.Ab
namespace Go.Proofs.Ytimbllcalipehaa.Ab
open Go
set_option linter.unusedVariables false
set_option maxRecDepth 4000
theorem jH.mo{a b:List aA}(h:jH a b):b.map aA.mo=a.map aA.mo:=by
 refine List.ext_getElem? fun i=>?_
 rw[List.getElem?_map,List.getElem?_map]
 cases hb:b[i]? with
 |none=>
  have h1:=List.getElem?_eq_none_iff.1 hb
  rw[List.getElem?_eq_none (by rw[←h.1];exact h1)]
 |some y=>
  obtain⟨x,h1,h2,h3,h4,h5,h6⟩:=h.2 i y hb
  rw[h1]
  show some y.mo=some x.mo
  rw[h5]
end Go.Proofs.Ytimbllcalipehaa.Ab
namespace Go.Proofs.Ytimbllcalipehaa.Ab
open Go
set_option linter.unusedVariables false
end Go.Proofs.Ytimbllcalipehaa.Ab
namespace Go.Proofs.Ytimbllcalipehaa.Ab
open Go
theorem adC:dm Try.prog 9=some false:=by kernel_rfl
theorem ab9:dm Try.prog 56=some true:=by kernel_rfl
theorem aai:Try.prog.cellsOf 9=1:=by kernel_rfl
theorem aaj:Try.prog.cellsOf 56=10:=by kernel_rfl
theorem pG{xs:List D}(h:Is Try.prog 9 xs):∃s,xs=[.str s]:=by
 obtain⟨s,rfl,_⟩:=h.sQ Try.underlying9
 exact⟨s,rfl⟩
theorem Ee{xs:List D}(h:Is Try.prog 4 xs):∃b,xs=[.bool b]:=h.qI Try.underlying4
theorem tm{xs:List D}(h:Is Try.prog 3 xs):∃n,xs=[.int .i64 n]:=by
 obtain⟨n,rfl,_⟩:=h.pz Try.underlying3
 exact⟨n,rfl⟩
theorem Ef{xs:List D}(h:Is Try.prog 51 xs):∃x:BitVec 64,xs=[dW x]:=by
 obtain⟨n,rfl,hn⟩:=h.pz Try.underlying51
 rw[GU]at hn
 have h0:0≤n:=hn.1
 have h1:n≤18446744073709551615:=hn.2
 obtain⟨m,rfl⟩:=Int.eq_ofNat_of_zero_le h0
 refine⟨BitVec.ofNat 64 m,?_⟩
 have:(BitVec.ofNat 64 m).toNat =m:=by
  rw[BitVec.toNat_ofNat]
  exact Nat.mod_eq_of_lt (by omega)
 rw[dW,this]
theorem aca{xs:List D}(h:Is Try.prog 53 xs):∃w:Nat→BitVec 64,xs=[dW (w 0),dW (w 1),dW (w 2),dW (w 3)]:=by
 obtain⟨parts,rfl,hl,hp⟩:=h.WL Try.underlying53
 match parts,hl,hp with
 |[a,b,c,d],_,hp=>
  obtain⟨x,rfl⟩:=Ef (hp a (by simp))
  obtain⟨y,rfl⟩:=Ef (hp b (by simp))
  obtain⟨z,rfl⟩:=Ef (hp c (by simp))
  obtain⟨u,rfl⟩:=Ef (hp d (by simp))
  exact⟨fun i=>if i=0 then x else if i=1 then y else if i=2 then z else u,rfl⟩
theorem Qc:qO Try.prog [9,3,4,48,51,53,54,56,28,50,57,143,59,61,63,34,65,22,36]=true:=by kernel_rfl
end Go.Proofs.Ytimbllcalipehaa.Ab
namespace Go.Proofs.Ytimbllcalipehaa.Ab
open Go
set_option maxRecDepth 4000
set_option linter.unusedVariables false
def ET(L:List D):Prop:=∀(i:Nat)y,L[i]? =some y→∃s t:List UInt8,y=.agg [.str s,.str t]
end Go.Proofs.Ytimbllcalipehaa.Ab
namespace Go.Proofs.Ytimbllcalipehaa.Ab
open Go
set_option linter.unusedVariables false
set_option maxRecDepth 4000
theorem YR(a b:List UInt8):ah (some (false,[.str])) .neq (.d (.str a)) (.d (.str b))=some (.d (.bool (a != b))):=rfl
theorem A4(l:List (List UInt8)){x y:D}(hx:aE 1 (bU l) x)(hy:aE 1 (bU l) y):aB Try.prog gl 97 [.d x,.d y] (.d (.bool true)):=by
 refine bZ bl (bG (fn:=Try.f97) (by kernel_rfl) (by kernel_rfl) (by kernel_rfl)) (h:=To) ?_;rw[aa6];intro ba
 have bW:l.length≤maxLen:=by have:=hx.tU ba.1;rwa[jn]at this
 simp only[hx.len,hy.len,jn,ez,sS,sT,sZ]
 refine And.intro (fun h=>absurd h (by simp)) (fun _=>?_)
 refine gS (fun i=>[.d x,.d y,.d (.int .i64 (l.length:Int)),.d (.int .i64 ((i:Nat):Int))]) (fun i=>[]) l.length (fun i hi I hI=>?_) (fun I=>?_)
 ·simp only[sS,sT,sZ]
  refine And.intro (fun _=>?_) (fun h=>absurd h (by simp;omega))
  obtain⟨s,hs⟩:=get_some hi
  simp only[hx.at (zu hs),hy.at (zu hs),P3,YR,sS,sT,sZ]
  refine And.intro (fun h=>absurd h (by simp)) (fun _=>?_)
  refine bC (bK hi bW) ?_
  exact hI
 ·simp only[sS,sT,sZ]
  refine And.intro (fun h=>absurd h (by simp)) (fun _=>?_)
  trivial
theorem YS(s t:List UInt8):ah (some (true,[.str,.str])) .neq (.d (.agg [.str s,.str t])) (.d (.agg [.str s,.str t]))=some (.d (.bool false)):=by
 simp[ah,eW,dv,eV,kO]
theorem aak(s t:List UInt8):aM true 2 (.aS (.agg [.str s,.str t]) 0)=some (.d (.agg [.str s,.str t])):=rfl
theorem UT{L:List D}(hL:ET L){x y:D}(hx:aE 2 L x)(hy:aE 2 L y):aB Try.prog gl 102 [.d x,.d y] (.d (.bool true)):=by
 refine bZ bl (bG (fn:=Try.f102) (by kernel_rfl) (by kernel_rfl) (by kernel_rfl)) (h:=RE) ?_;rw[ZM];intro ba
 have bW:L.length≤maxLen:=hx.tU ba.1
 simp only[hx.len,hy.len,ez,sS,sT,sZ]
 refine And.intro (fun h=>absurd h (by simp)) (fun _=>?_)
 refine gS (fun i=>[.d x,.d y,.d (.int .i64 (L.length:Int)),.d (.int .i64 ((i:Nat):Int))]) (fun i=>[]) L.length (fun i hi I hI=>?_) (fun I=>?_)
 ·simp only[sS,sT,sZ]
  refine And.intro (fun _=>?_) (fun h=>absurd h (by simp;omega))
  obtain⟨z,hz⟩:=get_some hi
  obtain⟨s,t,rfl⟩:=hL i z hz
  simp only[hx.at hz,hy.at hz,aak,YS,sS,sT,sZ]
  refine And.intro (fun h=>absurd h (by decide)) (fun _=>?_)
  refine bC (bK hi bW) ?_
  exact hI
 ·simp only[sS,sT,sZ]
  refine And.intro (fun h=>absurd h (by simp)) (fun _=>?_)
  trivial
structure yO where
 (a b c:Bool)
 (l m:List (List UInt8))
inductive Kj(n:yO):D→Prop
 |mk (x y:D) (hx:aE 1 (bU n.l) x) (hy:aE 1 (bU n.m) y):Kj n (.agg [.bool n.a,.bool n.b,.bool n.c,x,y])
theorem Eg(a b c d e:D):ay (.d (.agg [a,b,c,d,e]))=some [.d a,.d b,.d c,.d d,.d e]:=rfl
theorem afk(a b c d e:D):ag false 1 0 [.d a,.d b,.d c,.d d,.d e]=some (.d a):=rfl
theorem afl(a b c d e:D):ag false 1 1 [.d a,.d b,.d c,.d d,.d e]=some (.d b):=rfl
theorem afm(a b c d e:D):ag false 1 2 [.d a,.d b,.d c,.d d,.d e]=some (.d c):=rfl
theorem R4(a b c d e:D):ag false 1 3 [.d a,.d b,.d c,.d d,.d e]=some (.d d):=rfl
theorem R5(a b c d e:D):ag false 1 4 [.d a,.d b,.d c,.d d,.d e]=some (.d e):=rfl
theorem lJ{b:Bool}(h:b=true){A B:Prop}(hA:A):(b=true→A)∧(b=false→B):=⟨fun _=>hA,fun h2=>by rw[h]at h2;cases h2⟩
theorem Dt{n:yO}{x y:D}(hx:Kj n x)(hy:Kj n y):aB Try.prog gl 98 [.d x,.d y] (.d (.bool true)):=by
 cases hx with
 |mk x1 x2 h1 h2=>
 cases hy with
 |mk y1 y2 k1 k2=>
 refine bZ bl (bG (fn:=Try.f98) (by kernel_rfl) (by kernel_rfl) (by kernel_rfl)) (h:=Tp) ?_;rw[aa7];intro ba
 simp only[Eg,afk,afl,afm,R4,R5,sS,sT,sZ]
 refine⟨rfl,rfl,lJ (by simp) (lJ (by simp) (lJ (by simp) ?_))⟩
 refine aZ (A4 _ h1 k1) rfl ?_
 simp only[sS,sT,sZ]
 refine And.intro (fun _=>?_) (fun h=>absurd h (by decide))
 refine aZ (A4 _ h2 k2) rfl ?_
 exact⟨rfl,rfl⟩
structure uW where
 s:List UInt8
 L:List D
 h:ET L
inductive Kk(v:uW):D→Prop
 |mk (x:D) (hx:aE 2 v.L x):Kk v (.agg [.str v.s,x])
theorem aal(a b:D):ay (.d (.agg [a,b]))=some [.d a,.d b]:=rfl
theorem afn(a b:D):ag false 1 0 [.d a,.d b]=some (.d a):=rfl
theorem afo(a b:D):ag false 1 1 [.d a,.d b]=some (.d b):=rfl
theorem H6(a b:List UInt8):ah (some (false,[.str])) .eql (.d (.str a)) (.d (.str b))=some (.d (.bool (a==b))):=rfl
theorem GR{v:uW}{x y:D}(hx:Kk v x)(hy:Kk v y):aB Try.prog gl 100 [.d x,.d y] (.d (.bool true)):=by
 cases hx with
 |mk x1 h1=>
 cases hy with
 |mk y1 k1=>
 refine bZ bl (bG (fn:=Try.f100) (by kernel_rfl) (by kernel_rfl) (by kernel_rfl)) (h:=RC) ?_;rw[ZK];intro ba
 simp only[aal,afn,afo,H6,sS,sT,sZ]
 refine⟨rfl,rfl,lJ (by simp) ?_⟩
 refine aZ (UT v.h h1 k1) rfl ?_
 exact⟨rfl,rfl⟩
inductive Kl(lo hi:uW):D→Prop
 |mk (x y:D) (hx:aE 2 lo.L x) (hy:aE 2 hi.L y):Kl lo hi (.agg [.str lo.s,x,.str hi.s,y])
theorem Eh(a b c d:D):ay (.d (.agg [a,b,c,d]))=some [.d a,.d b,.d c,.d d]:=rfl
theorem afp(a b c d:D):ag true 2 0 [.d a,.d b,.d c,.d d]=some (.d (.agg [a,b])):=rfl
theorem afq(a b c d:D):ag true 2 2 [.d a,.d b,.d c,.d d]=some (.d (.agg [c,d])):=rfl
theorem MW{lo hi:uW}{x y:D}(hx:Kl lo hi x)(hy:Kl lo hi y):aB Try.prog gl 101 [.d x,.d y] (.d (.bool true)):=by
 cases hx with
 |mk x1 x2 h1 h2=>
 cases hy with
 |mk y1 y2 k1 k2=>
 refine bZ bl (bG (fn:=Try.f101) (by kernel_rfl) (by kernel_rfl) (by kernel_rfl)) (h:=RD) ?_;rw[ZL];intro ba
 simp only[Eh,afp,afq,sS,sT,sZ]
 refine⟨rfl,rfl,?_⟩
 refine aZ (GR (.mk _ h1) (.mk _ k1)) rfl ?_
 simp only[sS,sT,sZ]
 refine And.intro (fun _=>?_) (fun h=>absurd h (by decide))
 refine aZ (GR (.mk _ h2) (.mk _ k2)) rfl ?_
 exact⟨rfl,rfl⟩
theorem YT(w:Nat→BitVec 64):Az w w=true:=by simp[Az]
theorem oW{b:Bool}(h:b=false){A B:Prop}(hB:B):(b=true→A)∧(b=false→B):=⟨fun h2=>(by rw[h]at h2;cases h2),fun _=>hB⟩
theorem Np:∀(n:Nat)(e:Xp),e.lv<n→∀{x y:D},gC e x→gC e y→aB Try.prog gl 99 [.d x,.d y] (.d (.bool true))
 |0,e,h,_,_,_,_=>by omega
 |n+1,e,h,x,y,hx,hy=>by
  obtain⟨nm,kd,L,rfl,hn,hl,hd,hk⟩:=hx.inv
  obtain⟨AV,AW,L2,rfl,yd,nR,FG,iP⟩:=hy.inv
  refine bZ bl (bG (fn:=Try.f99) (by kernel_rfl) (by kernel_rfl) (by kernel_rfl)) (h:=Tq) ?_;rw[aa8];intro ba
  have bW:e.kids.length≤maxLen:=by
   rw[←hl]
   have h1:D.fo (gN e.op e.a e.rel e.b nm e.w kd):=ba.1
   exact hd.tU ((D.iW _).1 h1 kd (by simp[gN]))
  simp only[ez,YT,hd.len,FG.len,hl,nR,sS,sT,sZ]
  refine oW (by simp) (oW (by simp) (oW (by simp) (oW (by simp) (oW (by simp) ?_))))
  refine aZ (A4 _ hn yd) rfl ?_
  simp only[sS,sT,sZ]
  refine oW rfl (oW (by simp) ?_)
  refine gS (fun i=>[.d (.int .i64 (e.kids.length:Int)),.d (.int .i64 ((i:Nat):Int))]) (fun i=>[gB e.op e.a e.rel e.b nm e.w kd,gB e.op e.a e.rel e.b AV e.w AW]) e.kids.length (fun i hi I hI=>?_) (fun I=>?_)
  ·simp only[sS,sT,sZ]
   refine And.intro (fun _=>?_) (fun h=>absurd h (by simp;omega))
   obtain⟨k,rS⟩:=get_some hi
   obtain⟨y1,nQ⟩:=get_some (by omega:i<L.length)
   obtain⟨y2,rL⟩:=get_some (by omega:i<L2.length)
   have e1:=hk i k y1 rS nQ
   have e2:=iP i k y2 rS rL
   have l1:aM true 10 (.aS y1 0)=some (.d y1):=by obtain⟨_,_,_,rfl,_⟩:=e1.inv;rfl
   have l2:aM true 10 (.aS y2 0)=some (.d y2):=by obtain⟨_,_,_,rfl,_⟩:=e2.inv;rfl
   simp only[hd.at nQ,FG.at rL,l1,l2,sS,sT,sZ]
   have aI:=Xp.Qu rS
   refine aZ (Np n k (by omega) e1 e2) rfl ?_
   simp only[sS,sT,sZ]
   refine oW rfl ?_
   refine bC (bK hi bW) ?_
   exact hI
  ·simp only[sS,sT,sZ]
   refine And.intro (fun h=>absurd h (by simp)) (fun _=>?_)
   trivial
end Go.Proofs.Ytimbllcalipehaa.Ab
namespace Go.Proofs.Ytimbllcalipehaa.Ab
open Go
set_option linter.unusedVariables false
set_option maxRecDepth 8000
structure FC where
 s:jk
 (r t:List UInt8)
 (n1 n2 n3 n4:yO)
 e:Xp
 (lv lo hi:uW)
 (u v w:List UInt8)
 (cl ch:uW)
 val:Bool
inductive Qaa where
 |mk (c:FC) (th el:List Qaa)
structure pX where
 (aY al x1 y1 x2 y2 x3 y3 x4 y4 nm kd k0 k1 k2 k3 k4 yt ye:D)
def Gv(n:yO)(x y:D):List D:=[.bool n.a,.bool n.b,.bool n.c,x,y]
def Rl(c:FC)(d:pX):List D:=Gv c.n1 d.x1 d.y1++(Gv c.n2 d.x2 d.y2++(Gv c.n3 d.x3 d.y3++(Gv c.n4 d.x4 d.y4++(gN c.e.op c.e.a c.e.rel c.e.b d.nm c.e.w d.kd++
 ([.str c.lv.s,d.k0,.str c.lo.s,d.k1,.str c.hi.s,d.k2,.str c.u,.str c.v,.str c.w,.str c.cl.s,d.k3,.str c.ch.s,d.k4,.bool c.val]++[d.yt,d.ye])))))
def fC(c:FC)(d:pX):List D:=jG c.s (.str c.r) (.str c.t) d.aY d.al (Rl c d)
def fV(c:FC)(d:pX):List SV:=(fC c d).map .d
structure FOk(c:FC)(d:pX)(Lt Le:List D):Prop where
 hl:aE 1 (bU c.s.list) d.aY
 ha:aE 1 (bU c.s.hY) d.al
 a1:aE 1 (bU c.n1.l) d.x1
 b1:aE 1 (bU c.n1.m) d.y1
 a2:aE 1 (bU c.n2.l) d.x2
 b2:aE 1 (bU c.n2.m) d.y2
 a3:aE 1 (bU c.n3.l) d.x3
 b3:aE 1 (bU c.n3.m) d.y3
 a4:aE 1 (bU c.n4.l) d.x4
 b4:aE 1 (bU c.n4.m) d.y4
 e:gC c.e (.agg (gN c.e.op c.e.a c.e.rel c.e.b d.nm c.e.w d.kd))
 v0:aE 2 c.lv.L d.k0
 v1:aE 2 c.lo.L d.k1
 v2:aE 2 c.hi.L d.k2
 v3:aE 2 c.cl.L d.k3
 v4:aE 2 c.ch.L d.k4
 t:aE 55 Lt d.yt
 l:aE 55 Le d.ye
mutual
inductive ia:Qaa→D→Prop
 |mk (c:FC) (d:pX) (th el:List Qaa) (Lt Le:List D) (ok:FOk c d Lt Le) (fu:fH th Lt) (fc:fH el Le):ia (.mk c th el) (.agg (fC c d))
inductive fH:List Qaa→List D→Prop
 |nil:fH [] []
 |cons (t:Qaa) (x:D) (l:List Qaa) (L:List D) (h:ia t x) (hl:fH l L):fH (t::l) (x::L)
end
theorem fH.len:∀{l:List Qaa}{L:List D},fH l L→L.length=l.length
 |[],_,h=>by cases h;rfl
 |t::l,_,h=>by cases h with|cons _ _ _ _ _ hl=>simp[hl.len]
theorem fH.at_:∀{l:List Qaa}{L:List D},fH l L→∀{i:Nat}{t:Qaa},l[i]? =some t→∃y,L[i]? =some y∧ia t y
 |[],_,_,i,t,h=>by simp at h
 |t::l,_,h,0,u,hu=>by cases h with|cons _ x _ _ h hl=>simp at hu;subst hu;exact⟨x,rfl,h⟩
 |t::l,_,h,i+1,u,hu=>by cases h with|cons _ _ _ _ _ hl=>simpa using hl.at_ (by simpa using hu)
mutual
def Qaa.sz:Qaa→Nat
 | .mk _ a b=>1+Qaa.cB a+Qaa.cB b
def Qaa.cB:List Qaa→Nat
 |[]=>0
 |t::l=>t.sz+Qaa.cB l
end
theorem Qaa.vr:∀{l:List Qaa}{t:Qaa},t∈l→t.sz≤Qaa.cB l
 |[],t,h=>by cases h
 |u::l,t,h=>by
  rcases List.mem_cons.1 h with rfl|h
  ·simp[Qaa.cB]
  ·have:=Qaa.vr h;simp only[Qaa.cB];omega
section
variable(c:FC)(d:pX)
theorem Bs:ay (.d (.agg (fC c d)))=some (fV c d):=rfl
theorem vt:(fV c d).length =55:=rfl
theorem Qd:aM true 55 (.aS (.agg (fC c d)) 0)=some (.d (.agg (fC c d))):=zk _ 55 rfl
theorem IY:ag true 55 0 (fV c d)=some (.d (.agg (fC c d))):=rfl
theorem afr:ag false 1 0 (fV c d)=some (.d (.int .i64 c.s.kind)):=rfl
theorem afs:ag false 1 1 (fV c d)=some (.d (.int .i64 c.s.op)):=rfl
theorem aft:ag false 1 4 (fV c d)=some (.d (.str c.s.name)):=rfl
theorem afu:ag false 1 5 (fV c d)=some (.d (.str c.r)):=rfl
theorem afv:ag false 1 6 (fV c d)=some (.d (.str c.t)):=rfl
theorem afw:ag false 1 7 (fV c d)=some (.d d.aY):=rfl
theorem afx:ag false 1 8 (fV c d)=some (.d d.al):=rfl
theorem afy:ag true 5 9 (fV c d)=some (.d (.agg [.bool c.n1.a,.bool c.n1.b,.bool c.n1.c,d.x1,d.y1])):=rfl
theorem adD:ag true 5 14 (fV c d)=some (.d (.agg [.bool c.n2.a,.bool c.n2.b,.bool c.n2.c,d.x2,d.y2])):=rfl
theorem adE:ag true 5 19 (fV c d)=some (.d (.agg [.bool c.n3.a,.bool c.n3.b,.bool c.n3.c,d.x3,d.y3])):=rfl
theorem adF:ag true 5 24 (fV c d)=some (.d (.agg [.bool c.n4.a,.bool c.n4.b,.bool c.n4.c,d.x4,d.y4])):=rfl
theorem adG:ag true 10 29 (fV c d)=some (.d (.agg (gN c.e.op c.e.a c.e.rel c.e.b d.nm c.e.w d.kd))):=rfl
theorem adH:ag true 2 39 (fV c d)=some (.d (.agg [.str c.lv.s,d.k0])):=rfl
theorem adI:ag true 4 41 (fV c d)=some (.d (.agg [.str c.lo.s,d.k1,.str c.hi.s,d.k2])):=rfl
theorem adJ:ag true 7 45 (fV c d)=some (.d (.agg [.str c.u,.str c.v,.str c.w,.str c.cl.s,d.k3,.str c.ch.s,d.k4])):=rfl
theorem adK:ag false 1 52 (fV c d)=some (.d (.bool c.val)):=rfl
theorem adL:ag false 1 53 (fV c d)=some (.d d.yt):=rfl
theorem adM:ag false 1 54 (fV c d)=some (.d d.ye):=rfl
end
theorem aam(a b c d e f g:D):ay (.d (.agg [a,b,c,d,e,f,g]))=some [.d a,.d b,.d c,.d d,.d e,.d f,.d g]:=rfl
theorem adN(p q r s t u v:SV)(a b c d e f g:SV):setAt [p,q,r,s,t,u,v] 0 [a,b,c,d,e,f,g]=[a,b,c,d,e,f,g]:=rfl
theorem afz(a b c d e f g:D):ag false 1 0 [.d a,.d b,.d c,.d d,.d e,.d f,.d g]=some (.d a):=rfl
theorem afA(a b c d e f g:D):ag false 1 1 [.d a,.d b,.d c,.d d,.d e,.d f,.d g]=some (.d b):=rfl
theorem afB(a b c d e f g:D):ag false 1 2 [.d a,.d b,.d c,.d d,.d e,.d f,.d g]=some (.d c):=rfl
theorem afC(a b c d e f g:D):ag true 4 3 [.d a,.d b,.d c,.d d,.d e,.d f,.d g]=some (.d (.agg [d,e,f,g])):=rfl
def EU(t:Qaa):Prop:=∀{x y:D},ia t x→ia t y→aB Try.prog gl 92 [.d x,.d y] (.d (.bool true))
def EC(ts:List Qaa):Prop:=∀{L M:List D}{x y:D},aE 55 L x→fH ts L→aE 55 M y→fH ts M→aB Try.prog gl 73 [.d x,.d y] (.d (.bool true))
theorem YU(f:FuncId)(a:List SV)(k:FuncId→List SV→Prop):withFn (.d (.fn (.func f))) a k=k f a:=rfl
theorem HG{ts:List Qaa}(H:∀t∈ts,EU t):EC ts:=by
 intro L M x y hx hL hy hM
 have key:aB Try.prog gl 91 [.d x,.d y,.d (.fn (.func 92))] (.d (.bool true)):=by
  refine bZ bl (bG (fn:=Try.f91) (by kernel_rfl) (by kernel_rfl) (by kernel_rfl)) (h:=Tj) ?_;rw[aa1];intro ba
  have bW:ts.length≤maxLen:=by rw[←hL.len];exact hx.tU ba.1
  simp only[hx.len,hy.len,hL.len,hM.len,ez,sS,sT,sZ]
  refine oW (by simp) ?_
  refine gS (fun i=>[.d y,.d (.fn (.func 92)),.d x,.d (.int .i64 (ts.length:Int)),.d (.int .i64 ((i:Nat):Int))]) (fun i=>[]) ts.length (fun i hi I hI=>?_) (fun I=>?_)
  ·simp only[sS,sT,sZ]
   refine And.intro (fun _=>?_) (fun h=>absurd h (by simp;omega))
   obtain⟨t,ht⟩:=get_some hi
   obtain⟨p,hp,wP⟩:=hL.at_ ht
   obtain⟨q,hq,De⟩:=hM.at_ ht
   have hh:=H t (List.mem_of_getElem? ht) wP De
   cases wP with
   |mk c d th el Lt Le ok fu fc=>
   cases De with
   |mk _ d2 _ _ T1 T2 jm Km Kn=>
   have er:=pv (z:=e4) (c:=fV c d) rfl (vt c d)
   have lR:=pv (z:=e4) (c:=fV c d2) rfl (vt c d2)
   simp only[sZ]at er lR
   simp only[hx.at hp,hy.at hq,Qd,Bs,vt,er,lR,IY,YU,sS,sT,sZ]
   refine aZ hh rfl ?_
   simp only[sS,sT,sZ]
   refine oW rfl ?_
   refine bC (bK hi bW) ?_
   exact hI
  ·simp only[sS,sT,sZ]
   refine And.intro (fun h=>absurd h (by simp)) (fun _=>?_)
   trivial
 refine bZ bl (bG (fn:=Try.f73) (by kernel_rfl) (by kernel_rfl) (by kernel_rfl)) (h:=Tb) ?_;rw[aaX];intro ba
 simp only[sS,sT,sZ]
 refine aZ key rfl ?_
 exact⟨rfl,rfl⟩
theorem Wp(c:FC)(th el:List Qaa)(h1:EC th)(h2:EC el):EU (.mk c th el):=by
 intro x y hx hy
 cases hx with
 |mk _ d _ _ Lt Le ok fu fc=>
 cases hy with
 |mk _ d2 _ _ T1 T2 jm Km Kn=>
 refine bZ bl (bG (fn:=Try.f92) (by kernel_rfl) (by kernel_rfl) (by kernel_rfl)) (h:=Tk) ?_;rw[aa2];intro ba
 simp only[Bs,vt,adJ,aam,adN,afz,afA,afB,afC,afr,afs,aft,afu,afv,afw,afx,afy,adD,adE,adF,adG,adH,adI,adK,adL,adM,vf,H6,sS,sT,sZ]
 refine⟨rfl,rfl,?_⟩
 refine lJ (by simp) (lJ (by simp) (lJ (by simp) (lJ (by simp) (lJ (by simp) (lJ (by simp) ?_)))))
 refine aZ (A4 _ ok.hl jm.hl) rfl (qC ?_)
 refine aZ (A4 _ ok.ha jm.ha) rfl (qC ?_)
 refine aZ (Dt (.mk _ _ ok.a1 ok.b1) (.mk _ _ jm.a1 jm.b1)) rfl (qC ?_)
 refine aZ (Dt (.mk _ _ ok.a2 ok.b2) (.mk _ _ jm.a2 jm.b2)) rfl (qC ?_)
 refine aZ (Dt (.mk _ _ ok.a3 ok.b3) (.mk _ _ jm.a3 jm.b3)) rfl (qC ?_)
 refine aZ (Dt (.mk _ _ ok.a4 ok.b4) (.mk _ _ jm.a4 jm.b4)) rfl (qC ?_)
 refine aZ (Np _ c.e (Nat.lt_succ_self _) ok.e jm.e) rfl (qC ?_)
 refine aZ (GR (.mk _ ok.v0) (.mk _ jm.v0)) rfl (qC ?_)
 refine aZ (MW (.mk _ _ ok.v1 ok.v2) (.mk _ _ jm.v1 jm.v2)) rfl (qC ?_)
 refine lJ (by simp) (lJ (by simp) (lJ (by simp) ?_))
 refine aZ (MW (.mk _ _ ok.v3 ok.v4) (.mk _ _ jm.v3 jm.v4)) rfl (qC ?_)
 refine aZ (h1 ok.t fu jm.t Km) rfl (qC ?_)
 refine aZ (h2 ok.l fc jm.l Kn) rfl ?_
 exact⟨rfl,rfl⟩
theorem HH:∀(n:Nat)(t:Qaa),t.sz<n→EU t
 |0,t,h=>by omega
 |n+1,.mk c th el,h=>by
  simp only[Qaa.sz]at h
  exact Wp c th el (HG fun t ht=>HH n t (by have:=Qaa.vr ht;omega)) (HG fun t ht=>HH n t (by have:=Qaa.vr ht;omega))
theorem Vz(t:Qaa):EU t:=HH _ t (Nat.lt_succ_self _)
theorem UU(ts:List Qaa):EC ts:=HG fun t _=>Vz t
structure ib where
 name:List UInt8
 n8:Int
 aP:List Qaa
inductive ud(m:ib):D→Prop
 |mk (xs:D) (L:List D) (hx:aE 55 L xs) (hs:fH m.aP L):ud m (.agg [.str m.name,.int .i64 m.n8,xs])
theorem aan(a b c:D):ay (.d (.agg [a,b,c]))=some [.d a,.d b,.d c]:=rfl
theorem afD(a b c:D):ag false 1 0 [.d a,.d b,.d c]=some (.d a):=rfl
theorem afE(a b c:D):ag false 1 1 [.d a,.d b,.d c]=some (.d b):=rfl
theorem afF(a b c:D):ag false 1 2 [.d a,.d b,.d c]=some (.d c):=rfl
theorem VA{m:ib}{x y:D}(hx:ud m x)(hy:ud m y):aB Try.prog gl 53 [.d x,.d y] (.d (.bool true)):=by
 cases hx with
 |mk x1 L1 h1 k1=>
 cases hy with
 |mk x2 L2 h2 k2=>
 refine bZ bl (bG (fn:=Try.f53) (by kernel_rfl) (by kernel_rfl) (by kernel_rfl)) (h:=SZ) ?_;rw[aaQ];intro ba
 simp only[aan,afD,afE,afF,vf,H6,sS,sT,sZ]
 refine⟨rfl,rfl,lJ (by simp) (lJ (by simp) ?_)⟩
 refine aZ (UU m.aP h1 k1 h2 k2) rfl ?_
 exact⟨rfl,rfl⟩
structure oI(l:List ib)(L:List D):Prop where
 len:L.length=l.length
 at_:∀{i:Nat}{m:ib},l[i]? =some m→∃y,L[i]? =some y∧ud m y
theorem Rm{m:ib}{y:D}(h:ud m y):aM true 3 (.aS y 0)=some (.d y):=by cases h;rfl
theorem Wq{l:List ib}{L M:List D}{x y:D}(hx:aE 3 L x)(hL:oI l L)(hy:aE 3 M y)(hM:oI l M):aB Try.prog gl 27 [.d x,.d y] (.d (.bool true)):=by
 refine bZ bl (bG (fn:=Try.f27) (by kernel_rfl) (by kernel_rfl) (by kernel_rfl)) (h:=SR) ?_;rw[abk];intro ba
 have bW:l.length≤maxLen:=by rw[←hL.len];exact hx.tU ba.1
 simp only[hx.len,hy.len,hL.len,hM.len,ez,sS,sT,sZ]
 refine oW (by simp) ?_
 refine gS (fun i=>[.d x,.d y,.d (.int .i64 (l.length:Int)),.d (.int .i64 ((i:Nat):Int))]) (fun i=>[]) l.length (fun i hi I hI=>?_) (fun I=>?_)
 ·simp only[sS,sT,sZ]
  refine And.intro (fun _=>?_) (fun h=>absurd h (by simp;omega))
  obtain⟨m,hm⟩:=get_some hi
  obtain⟨p,hp,wP⟩:=hL.at_ hm
  obtain⟨q,hq,De⟩:=hM.at_ hm
  simp only[hx.at hp,hy.at hq,Rm wP,Rm De,sS,sT,sZ]
  refine aZ (VA wP De) rfl ?_
  simp only[sS,sT,sZ]
  refine oW rfl ?_
  refine bC (bK hi bW) ?_
  exact hI
 ·simp only[sS,sT,sZ]
  refine And.intro (fun h=>absurd h (by simp)) (fun _=>?_)
  trivial
end Go.Proofs.Ytimbllcalipehaa.Ab
namespace Go.Proofs.Ytimbllcalipehaa.Ab
open Go
set_option linter.unusedVariables false
set_option maxRecDepth 8000
def jI:D→SV
 | .sl .ro s L=>gH s [] L
 |_=>.d (.sl .nil 0 [])
def eG:D→D
 | .sl .ro s L=>.sl .ro s L
 |_=>.sl .nil 0 []
theorem kV{n:Nat}{L:List D}{x:D}(h:aE n L x):aE n L (eG x):=by
 cases h with
 |nil s h=>exact .nil 0 h
 |ro=>exact .ro
theorem D6{n:Nat}{L:List D}{x:D}(h:aE n L x):(jI x=.d (.sl .nil 0 [])∧eG x=.sl .nil 0 [])∨(jI x=.full n []∧eG x=.sl .ro n [])∨(jI x=.own n L∧eG x=.sl .ro n L):=by
 cases h with
 |nil s h=>exact .inl ⟨rfl,rfl⟩
 |ro=>
  right
  cases L with
  |nil=>exact .inl ⟨rfl,rfl⟩
  |cons a L=>exact .inr ⟨rfl,rfl⟩
theorem vc{n:Nat}{L:List D}{x:D}(h:aE n L x):ay (jI x)=some [jI x]:=by
 rcases D6 h with⟨h,_⟩|⟨h,_⟩|⟨h,_⟩<;>rw[h]<;>rfl
theorem vu{n:Nat}{L:List D}{x:D}(h:aE n L x):ri (jI x)=false:=by
 rcases D6 h with⟨h,_⟩|⟨h,_⟩|⟨h,_⟩<;>rw[h]<;>rfl
theorem Pq{n:Nat}{L:List D}{x:D}(h:aE n L x):(jI x).ar =true:=by
 rcases D6 h with⟨h,_⟩|⟨h,_⟩|⟨h,_⟩<;>rw[h]<;>rfl
theorem vv{n:Nat}{L:List D}{x:D}(h:aE n L x):bF (jI x)=some (eG x):=by
 rcases D6 h with⟨h,k⟩|⟨h,k⟩|⟨h,k⟩<;>rw[h,k]<;>rfl
theorem Pr(s:Nat):ah (some (false,[])) .eql (.d (.sl .nil s [])) (.d (.sl .nil 0 []))=some (.d (.bool true)):=rfl
theorem QV(s:Nat)(L:List D):ah (some (false,[])) .eql (.d (.sl .ro s L)) (.d (.sl .nil 0 []))=some (.d (.bool false)):=rfl
theorem Ps(s:Nat)(L:List D):elems s (.d (.sl .ro s L))=some L:=by simp[elems]
theorem AZ{L:List D}{x:D}(h:aE 1 L x)(hw:L.length*16≤140737488355328):aB Try.prog gl 71 [.d x] (jI x):=by
 have hn:=Pq h
 cases h with
 |nil s h=>
  refine bZ bl (bG (fn:=Try.f71) (by kernel_rfl) (by kernel_rfl) (by kernel_rfl)) (h:=AE) ?_;rw[BM];intro ba
  simp only[Pr,sS,sT,sZ]
  exact⟨fun _=>rfl,fun h=>absurd h (by decide)⟩
 |ro=>
  refine bZ bl (bG (fn:=Try.f71) (by kernel_rfl) (by kernel_rfl) (by kernel_rfl)) (h:=AE) ?_;rw[BM];intro ba
  simp only[QV,vp,oV,sS,sT,sZ]
  refine⟨fun h=>absurd h (by decide),fun _=>⟨rfl,?_⟩⟩
  refine Bl (cL:=16) (L:=[]) (M:=L) (Ps _ _) (by rw[List.length_nil,Nat.zero_add];exact hw) ?_
  exact⟨hn,rfl⟩
theorem GN{L:List D}{x:D}(h:aE 2 L x)(hw:L.length*32≤140737488355328):aB Try.prog gl 88 [.d x] (jI x):=by
 have hn:=Pq h
 cases h with
 |nil s h=>
  refine bZ bl (bG (fn:=Try.f88) (by kernel_rfl) (by kernel_rfl) (by kernel_rfl)) (h:=FV) ?_;rw[IK];intro ba
  simp only[Pr,sS,sT,sZ]
  exact⟨fun _=>rfl,fun h=>absurd h (by decide)⟩
 |ro=>
  refine bZ bl (bG (fn:=Try.f88) (by kernel_rfl) (by kernel_rfl) (by kernel_rfl)) (h:=FV) ?_;rw[IK];intro ba
  simp only[QV,vp,oV,sS,sT,sZ]
  refine⟨fun h=>absurd h (by decide),fun _=>⟨rfl,?_⟩⟩
  refine Bl (cL:=32) (L:=[]) (M:=L) (Ps _ _) (by rw[List.length_nil,Nat.zero_add];exact hw) ?_
  exact⟨hn,rfl⟩
theorem Ei{sz off:Nat}{cs:List SV}{ds:List D}(h:off+sz≤cs.length)(e:cW ((cs.drop off).take sz)=some ds):ag true sz off cs=some (.d (.agg ds)):=by
 unfold ag
 rw[cond_true,if_pos h,e]
theorem YV{L M:List D}{p q:D}(a b c:D)(hp:aE 1 L p)(hq:aE 1 M q):ag true 5 0 [.d a,.d b,.d c,jI p,jI q]=some (.d (.agg [a,b,c,eG p,eG q])):=by
 have h1:=vv hp
 have h2:=vv hq
 have e:cW [.d a,.d b,.d c,jI p,jI q]=some [a,b,c,eG p,eG q]:=by simp only[cW,h1,h2];rfl
 exact Ei (show 0+5≤5 by decide) e
theorem acb(a b c d e x:SV):setAt [a,b,c,d,e] 3 [x]=[a,b,c,x,e]:=rfl
theorem acd(a b c d e x:SV):setAt [a,b,c,d,e] 4 [x]=[a,b,c,d,x]:=rfl
theorem ace(p q r s t a b c d e:SV):setAt [p,q,r,s,t] 0 [a,b,c,d,e]=[a,b,c,d,e]:=rfl
theorem adO(a b c d e:D):ag true 5 0 [.d a,.d b,.d c,.d d,.d e]=some (.d (.agg [a,b,c,d,e])):=rfl
theorem Du{n:yO}{x y:D}(hx:aE 1 (bU n.l) x)(hy:aE 1 (bU n.m) y)(w1:n.l.length*16≤140737488355328)(w2:n.m.length*16≤140737488355328):
  aB Try.prog gl 86 [.d (.agg [.bool n.a,.bool n.b,.bool n.c,x,y])] (.d (.agg [.bool n.a,.bool n.b,.bool n.c,eG x,eG y])):=by
 refine bZ bl (bG (fn:=Try.f86) (by kernel_rfl) (by kernel_rfl) (by kernel_rfl)) (h:=LA) ?_;rw[Qz];intro ba
 simp only[Eg,R4,R5,sS,sT,sZ]
 refine⟨rfl,?_⟩
 refine aZ (AZ hx (by rw[jn];exact w1)) (vu hx) ?_
 refine aZ (AZ hy (by rw[jn];exact w2)) (vu hy) ?_
 simp only[vc hx,vc hy,acb,acd,YV _ _ _ hx hy,Eg,ace,adO,sS,sT,sZ]
 exact⟨rfl,(show 3<5 by decide),rfl,(show 4<5 by decide),rfl,trivial⟩
theorem acf(a b c d x:SV):setAt [a,b,c,d] 1 [x]=[a,x,c,d]:=rfl
theorem acg(a b c d x:SV):setAt [a,b,c,d] 3 [x]=[a,b,c,x]:=rfl
theorem ach(p q r s a b c d:SV):setAt [p,q,r,s] 0 [a,b,c,d]=[a,b,c,d]:=rfl
theorem adP(a b c d:D):ag true 4 0 [.d a,.d b,.d c,.d d]=some (.d (.agg [a,b,c,d])):=rfl
theorem afG(a b c d:D):ag false 1 1 [.d a,.d b,.d c,.d d]=some (.d b):=rfl
theorem afH(a b c d:D):ag false 1 3 [.d a,.d b,.d c,.d d]=some (.d d):=rfl
theorem YW{L M:List D}{p q:D}(a b:D)(hp:aE 2 L p)(hq:aE 2 M q):ag true 4 0 [.d a,jI p,.d b,jI q]=some (.d (.agg [a,eG p,b,eG q])):=by
 have h1:=vv hp
 have h2:=vv hq
 have e:cW [.d a,jI p,.d b,jI q]=some [a,eG p,b,eG q]:=by simp only[cW,h1,h2];rfl
 exact Ei (show 0+4≤4 by decide) e
theorem NU{L M:List D}{x y:D}(s t:List UInt8)(hx:aE 2 L x)(hy:aE 2 M y)(w1:L.length*32≤140737488355328)(w2:M.length*32≤140737488355328):
  aB Try.prog gl 89 [.d (.agg [.str s,x,.str t,y])] (.d (.agg [.str s,eG x,.str t,eG y])):=by
 refine bZ bl (bG (fn:=Try.f89) (by kernel_rfl) (by kernel_rfl) (by kernel_rfl)) (h:=LC) ?_;rw[QC];intro ba
 simp only[Eh,afG,afH,sS,sT,sZ]
 refine⟨rfl,?_⟩
 refine aZ (GN hx w1) (vu hx) ?_
 refine aZ (GN hy w2) (vu hy) ?_
 simp only[vc hx,vc hy,acf,acg,YW _ _ hx hy,Eh,ach,adP,sS,sT,sZ]
 exact⟨rfl,(show 1<4 by decide),rfl,(show 3<4 by decide),rfl,trivial⟩
inductive pj:Xp→Prop
 |mk (op a rel b:Int) (names:List (List UInt8)) (w:Nat→BitVec 64) (kids:List Xp) (hn:names.length*16≤140737488355328) (hl:kids.length*112≤140737488355328) (hk:∀k∈kids,pj k):pj (.mk op a rel b names w kids)
theorem pj.inv{e:Xp}(h:pj e):e.names.length*16≤140737488355328∧e.kids.length*112≤140737488355328∧∀k∈e.kids,pj k:=by
 cases h with
 |mk op a rel b names w kids hn hl hk=>exact⟨hn,hl,hk⟩
def eS(e:Xp)(nm kd:SV):List SV:=[.d (.int .i64 e.op),.d (.int .i64 e.a),.d (.int .i64 e.rel),.d (.int .i64 e.b),nm,.d (dW (e.w 0)),.d (dW (e.w 1)),.d (dW (e.w 2)),.d (dW (e.w 3)),kd]
theorem Wr:ay (.d (.sl .nil 0 []))=some [.d (.sl .nil 0 [])]:=rfl
theorem Fj(e:Xp)(nm kd:D):gB e.op e.a e.rel e.b nm e.w kd=eS e (.d nm) (.d kd):=rfl
theorem afI(e:Xp)(a b x:SV):setAt (eS e a b) 4 [x]=eS e x b:=rfl
theorem R6(e:Xp)(a b x:SV):setAt (eS e a b) 9 [x]=eS e a x:=rfl
theorem adQ(e:Xp)(a b x:SV):(eS e a b).set 9 x=eS e a x:=rfl
theorem afJ(e:Xp)(a b:SV):(eS e a b)[9]? =some b:=rfl
theorem BP(e:Xp)(a b:SV):(eS e a b).length =10:=rfl
theorem adR(e:Xp)(a b:SV):ag false 1 9 (eS e a b)=some b:=rfl
theorem adS(e:Xp)(a b:SV):ag false 1 4 (eS e a b)=some a:=rfl
theorem IZ(e:Xp){a b:SV}{x y:D}(h1:bF a=some x)(h2:bF b=some y):ag true 10 0 (eS e a b)=some (.d (.agg (gN e.op e.a e.rel e.b x e.w y))):=by
 have k:cW (eS e a b)=some (gN e.op e.a e.rel e.b x e.w y):=by simp only[eS,cW,h1,h2];rfl
 exact Ei (show 0+10≤10 by decide) k
theorem H7(n:Nat)(L:List D):bF (bS n L)=some (bB n L):=by cases L<;>rfl
theorem Qe(p0 p1 p2 p3 p4 p5 p6 p7 p8 p9:SV)(e:Xp)(a b:SV):setAt [p0,p1,p2,p3,p4,p5,p6,p7,p8,p9] 0 (eS e a b)=eS e a b:=rfl
theorem aao(op a rel b:Int)(nm:D)(w:Nat→BitVec 64)(kd:D):bq 10 1 [(0,.agg (gN op a rel b nm w kd))]=true:=rfl
theorem Ms:∀(n:Nat)(e:Xp),e.lv<n→pj e→∀{x:D},gC e x→∃y,gC e y∧aB Try.prog gl 87 [.d x] (.d y)
 |0,e,h,_,_,_=>by omega
 |n+1,e,h,hW,x,hx=>by
  have yP:=hx
  obtain⟨nm,kd,L,rfl,hn,hl,hd,hk⟩:=hx.inv
  obtain⟨w1,w2,w3⟩:=hW.inv
  have bW:e.kids.length≤maxLen:=Nat.le_trans (by omega:e.kids.length≤140737488355328) (by decide)
  have hQ:∃r,(fun r=>∃y,r=SV.d y∧gC e y) r:=⟨_,_,rfl,yP⟩
  have:=DB (P:=Try.prog) (gl:=gl) (h:=LB) bl (f:=87) (args:=[.d (.agg (gN e.op e.a e.rel e.b nm e.w kd))]) (bG (fn:=Try.f87) (by kernel_rfl) (by kernel_rfl) (by kernel_rfl)) hQ (by
   rw[QB]
   intro ba
   simp only[Fj,adR,adS,sS,sT,sZ]
   refine⟨rfl,?_⟩
   refine aZ (AZ hn (by rw[jn];exact w1)) (vu hn) ?_
   simp only[vc hn,afI,R6,Wr,BP,List.length_cons,List.length_nil,hd.len,hl,sS,sT,sZ]
   refine⟨by decide,?_⟩
   refine sL (α:=List D) (fun i M=>M.length=i∧∀(j:Nat)k y,e.kids[j]? =some k→M[j]? =some y→gC k y) (fun i M=>[.d kd,.d (.int .i64 (e.kids.length:Int)),.d (.int .i64 ((i:Nat):Int))]) (fun i M=>[eS e (jI nm) (bS 10 M),[.d (.int .i64 0),.d (.int .i64 0),.d (.int .i64 0),.d (.int .i64 0),.d (.sl .nil 0 []),.d (.int .u64 0),.d (.int .u64 0),.d (.int .u64 0),.d (.int .u64 0),.d (.sl .nil 0 [])]]) e.kids.length [] ⟨rfl,fun j k y _ h=>by simp at h⟩ (fun i M hi hJ I hI=>?_) (fun M hJ I=>?_)
   ·obtain⟨hM,hJ⟩:=hJ
    simp only[sS,sT,sZ]
    refine And.intro (fun _=>?_) (fun h=>absurd h (by simp;omega))
    obtain⟨k,rS⟩:=get_some hi
    obtain⟨y1,nQ⟩:=get_some (by omega:i<L.length)
    have e1:=hk i k y1 rS nQ
    have aI:=Xp.Qu rS
    obtain⟨z,hz,hzH⟩:=Ms n k (by omega) (w3 k (List.mem_of_getElem? rS)) e1
    obtain⟨Mm,Mn,L1,rfl,_⟩:=e1.inv
    have Fw:=hz
    obtain⟨AV,AW,L2,rfl,_⟩:=hz.inv
    have l1:∀f:List D,f.length=10→aM true 10 (.aS (.agg f) 0)=some (.d (.agg f)):=fun f hf=>zk _ 10 hf
    simp only[hd.at nQ,l1 _ (show(gN k.op k.a k.rel k.b Mm k.w Mn).length =10 from rfl),Bk,Il,Fj,BP,afJ,Qe,IZ k (rfl:bF (.d Mm)=some Mm) (rfl:bF (.d Mn)=some Mn),sS,sT,sZ]
    refine aZ hzH rfl ?_
    simp only[dD,aao,pA,adQ,sS,sT,sZ]
    refine iV (M:=[.agg (gN k.op k.a k.rel k.b AV k.w AW)]) rfl (by rw[List.length_singleton];omega) ?_
    simp only[DE,R6,BP,sS,sT,sZ]
    refine⟨rfl,by decide,?_⟩
    refine bC (bK hi bW) ?_
    refine hI (M++[.agg (gN k.op k.a k.rel k.b AV k.w AW)]) ⟨by rw[List.length_append,List.length_singleton,hM],fun j k' y' bI iN=>?_⟩
    rcases Nat.lt_or_ge j M.length with h1|h1
    ·rw[List.getElem?_append_left h1]at iN
     exact hJ j k' y' bI iN
    ·rw[List.getElem?_append_right h1]at iN
     have:j=i:=by
      have:=(List.getElem?_eq_some_iff.1 iN).1
      simp at this;omega
     subst this
     rw[hM,Nat.sub_self]at iN
     cases iN
     rw[rS]at bI
     cases bI
     exact Fw
   ·obtain⟨hM,hJ⟩:=hJ
    simp only[IZ e (vv hn) (H7 10 M),Bk,Il,Fj,BP,Qe,IZ e (rfl:bF (.d (eG nm))=some (eG nm)) (rfl:bF (.d (bB 10 M))=some (bB 10 M)),sS,sT,sZ]
    refine And.intro (fun h=>absurd h (by simp)) (fun _=>?_)
    refine⟨by decide,?_⟩
    refine⟨_,rfl,?_⟩
    cases e with
    |mk op a rel b names w kids=>exact .mk op a rel b names w kids (eG nm) (bB 10 M) M (kV hn) hM hJ (eQ 10 M))
  obtain⟨r,⟨y,rfl,hy⟩,hr⟩:=this
  exact⟨y,hy,hr⟩
end Go.Proofs.Ytimbllcalipehaa.Ab
namespace Go.Proofs.Ytimbllcalipehaa.Ab
open Go
set_option linter.unusedVariables false
set_option maxRecDepth 8000
structure T3 where
 (aY al x1 y1 x2 y2 x3 y3 x4 y4 nm kd k0 k1 k2 k3 k4 yt ye:SV)
def Df(n:yO)(x y:SV):List SV:=[.d (.bool n.a),.d (.bool n.b),.d (.bool n.c),x,y]
def fS(c:FC)(v:T3):List SV:=[.d (.int .i64 c.s.kind),.d (.int .i64 c.s.op),.d (.int .i64 c.s.line),.d (.int .i64 c.s.fY),.d (.str c.s.name),.d (.str c.r),.d (.str c.t),v.aY,v.al]++(Df c.n1 v.x1 v.y1++(Df c.n2 v.x2 v.y2++(Df c.n3 v.x3 v.y3++(Df c.n4 v.x4 v.y4++(eS c.e v.nm v.kd++
 ([.d (.str c.lv.s),v.k0,.d (.str c.lo.s),v.k1,.d (.str c.hi.s),v.k2,.d (.str c.u),.d (.str c.v),.d (.str c.w),.d (.str c.cl.s),v.k3,.d (.str c.ch.s),v.k4,.d (.bool c.val)]++[v.yt,v.ye]))))))
def pX.sv(d:pX):T3:=⟨.d d.aY,.d d.al,.d d.x1,.d d.y1,.d d.x2,.d d.y2,.d d.x3,.d d.y3,.d d.x4,.d d.y4,.d d.nm,.d d.kd,.d d.k0,.d d.k1,.d d.k2,.d d.k3,.d d.k4,.d d.yt,.d d.ye⟩
theorem afK(c:FC)(d:pX):fV c d=fS c ⟨.d d.aY,.d d.al,.d d.x1,.d d.y1,.d d.x2,.d d.y2,.d d.x3,.d d.y3,.d d.x4,.d d.y4,.d d.nm,.d d.kd,.d d.k0,.d d.k1,.d d.k2,.d d.k3,.d d.k4,.d d.yt,.d d.ye⟩:=rfl
section
variable(c:FC)(aY al x1 y1 x2 y2 x3 y3 x4 y4 nm kd k0 k1 k2 k3 k4 yt ye:SV)
theorem xo:(fS c ⟨aY,al,x1,y1,x2,y2,x3,y3,x4,y4,nm,kd,k0,k1,k2,k3,k4,yt,ye⟩).length =55:=rfl
theorem adT:ag false 1 7 (fS c ⟨aY,al,x1,y1,x2,y2,x3,y3,x4,y4,nm,kd,k0,k1,k2,k3,k4,yt,ye⟩)=some aY:=rfl
theorem adU(z:SV):setAt (fS c ⟨aY,al,x1,y1,x2,y2,x3,y3,x4,y4,nm,kd,k0,k1,k2,k3,k4,yt,ye⟩) 7 [z]=fS c ⟨z,al,x1,y1,x2,y2,x3,y3,x4,y4,nm,kd,k0,k1,k2,k3,k4,yt,ye⟩:=rfl
theorem adV:ag false 1 8 (fS c ⟨aY,al,x1,y1,x2,y2,x3,y3,x4,y4,nm,kd,k0,k1,k2,k3,k4,yt,ye⟩)=some al:=rfl
theorem adW(z:SV):setAt (fS c ⟨aY,al,x1,y1,x2,y2,x3,y3,x4,y4,nm,kd,k0,k1,k2,k3,k4,yt,ye⟩) 8 [z]=fS c ⟨aY,z,x1,y1,x2,y2,x3,y3,x4,y4,nm,kd,k0,k1,k2,k3,k4,yt,ye⟩:=rfl
theorem aci:ag false 1 40 (fS c ⟨aY,al,x1,y1,x2,y2,x3,y3,x4,y4,nm,kd,k0,k1,k2,k3,k4,yt,ye⟩)=some k0:=rfl
theorem acj(z:SV):setAt (fS c ⟨aY,al,x1,y1,x2,y2,x3,y3,x4,y4,nm,kd,k0,k1,k2,k3,k4,yt,ye⟩) 40 [z]=fS c ⟨aY,al,x1,y1,x2,y2,x3,y3,x4,y4,nm,kd,z,k1,k2,k3,k4,yt,ye⟩:=rfl
theorem ack:ag false 1 53 (fS c ⟨aY,al,x1,y1,x2,y2,x3,y3,x4,y4,nm,kd,k0,k1,k2,k3,k4,yt,ye⟩)=some yt:=rfl
theorem acm(z:SV):setAt (fS c ⟨aY,al,x1,y1,x2,y2,x3,y3,x4,y4,nm,kd,k0,k1,k2,k3,k4,yt,ye⟩) 53 [z]=fS c ⟨aY,al,x1,y1,x2,y2,x3,y3,x4,y4,nm,kd,k0,k1,k2,k3,k4,z,ye⟩:=rfl
theorem acn:ag false 1 54 (fS c ⟨aY,al,x1,y1,x2,y2,x3,y3,x4,y4,nm,kd,k0,k1,k2,k3,k4,yt,ye⟩)=some ye:=rfl
theorem aco(z:SV):setAt (fS c ⟨aY,al,x1,y1,x2,y2,x3,y3,x4,y4,nm,kd,k0,k1,k2,k3,k4,yt,ye⟩) 54 [z]=fS c ⟨aY,al,x1,y1,x2,y2,x3,y3,x4,y4,nm,kd,k0,k1,k2,k3,k4,yt,z⟩:=rfl
theorem adX(p q:D):ag true 5 9 (fS c ⟨aY,al,.d p,.d q,x2,y2,x3,y3,x4,y4,nm,kd,k0,k1,k2,k3,k4,yt,ye⟩)=some (.d (.agg [.bool c.n1.a,.bool c.n1.b,.bool c.n1.c,p,q])):=rfl
theorem adY(p q:SV):setAt (fS c ⟨aY,al,x1,y1,x2,y2,x3,y3,x4,y4,nm,kd,k0,k1,k2,k3,k4,yt,ye⟩) 9 [.d (.bool c.n1.a),.d (.bool c.n1.b),.d (.bool c.n1.c),p,q]=fS c ⟨aY,al,p,q,x2,y2,x3,y3,x4,y4,nm,kd,k0,k1,k2,k3,k4,yt,ye⟩:=rfl
theorem acp(p q:D):ag true 5 14 (fS c ⟨aY,al,x1,y1,.d p,.d q,x3,y3,x4,y4,nm,kd,k0,k1,k2,k3,k4,yt,ye⟩)=some (.d (.agg [.bool c.n2.a,.bool c.n2.b,.bool c.n2.c,p,q])):=rfl
theorem acq(p q:SV):setAt (fS c ⟨aY,al,x1,y1,x2,y2,x3,y3,x4,y4,nm,kd,k0,k1,k2,k3,k4,yt,ye⟩) 14 [.d (.bool c.n2.a),.d (.bool c.n2.b),.d (.bool c.n2.c),p,q]=fS c ⟨aY,al,x1,y1,p,q,x3,y3,x4,y4,nm,kd,k0,k1,k2,k3,k4,yt,ye⟩:=rfl
theorem acr(p q:D):ag true 5 19 (fS c ⟨aY,al,x1,y1,x2,y2,.d p,.d q,x4,y4,nm,kd,k0,k1,k2,k3,k4,yt,ye⟩)=some (.d (.agg [.bool c.n3.a,.bool c.n3.b,.bool c.n3.c,p,q])):=rfl
theorem acs(p q:SV):setAt (fS c ⟨aY,al,x1,y1,x2,y2,x3,y3,x4,y4,nm,kd,k0,k1,k2,k3,k4,yt,ye⟩) 19 [.d (.bool c.n3.a),.d (.bool c.n3.b),.d (.bool c.n3.c),p,q]=fS c ⟨aY,al,x1,y1,x2,y2,p,q,x4,y4,nm,kd,k0,k1,k2,k3,k4,yt,ye⟩:=rfl
theorem acu(p q:D):ag true 5 24 (fS c ⟨aY,al,x1,y1,x2,y2,x3,y3,.d p,.d q,nm,kd,k0,k1,k2,k3,k4,yt,ye⟩)=some (.d (.agg [.bool c.n4.a,.bool c.n4.b,.bool c.n4.c,p,q])):=rfl
theorem acv(p q:SV):setAt (fS c ⟨aY,al,x1,y1,x2,y2,x3,y3,x4,y4,nm,kd,k0,k1,k2,k3,k4,yt,ye⟩) 24 [.d (.bool c.n4.a),.d (.bool c.n4.b),.d (.bool c.n4.c),p,q]=fS c ⟨aY,al,x1,y1,x2,y2,x3,y3,p,q,nm,kd,k0,k1,k2,k3,k4,yt,ye⟩:=rfl
theorem acw(p q:D):ag true 10 29 (fS c ⟨aY,al,x1,y1,x2,y2,x3,y3,x4,y4,.d p,.d q,k0,k1,k2,k3,k4,yt,ye⟩)=some (.d (.agg (gN c.e.op c.e.a c.e.rel c.e.b p c.e.w q))):=rfl
theorem acx(p q:SV):setAt (fS c ⟨aY,al,x1,y1,x2,y2,x3,y3,x4,y4,nm,kd,k0,k1,k2,k3,k4,yt,ye⟩) 29 (eS c.e p q)=fS c ⟨aY,al,x1,y1,x2,y2,x3,y3,x4,y4,p,q,k0,k1,k2,k3,k4,yt,ye⟩:=rfl
theorem acy(p q:D):ag true 4 41 (fS c ⟨aY,al,x1,y1,x2,y2,x3,y3,x4,y4,nm,kd,k0,.d p,.d q,k3,k4,yt,ye⟩)=some (.d (.agg [.str c.lo.s,p,.str c.hi.s,q])):=rfl
theorem acz(p q:SV):setAt (fS c ⟨aY,al,x1,y1,x2,y2,x3,y3,x4,y4,nm,kd,k0,k1,k2,k3,k4,yt,ye⟩) 41 [.d (.str c.lo.s),p,.d (.str c.hi.s),q]=fS c ⟨aY,al,x1,y1,x2,y2,x3,y3,x4,y4,nm,kd,k0,p,q,k3,k4,yt,ye⟩:=rfl
theorem acA(p q:D):ag true 4 48 (fS c ⟨aY,al,x1,y1,x2,y2,x3,y3,x4,y4,nm,kd,k0,k1,k2,.d p,.d q,yt,ye⟩)=some (.d (.agg [.str c.cl.s,p,.str c.ch.s,q])):=rfl
theorem acB(p q:SV):setAt (fS c ⟨aY,al,x1,y1,x2,y2,x3,y3,x4,y4,nm,kd,k0,k1,k2,k3,k4,yt,ye⟩) 48 [.d (.str c.cl.s),p,.d (.str c.ch.s),q]=fS c ⟨aY,al,x1,y1,x2,y2,x3,y3,x4,y4,nm,kd,k0,k1,k2,p,q,yt,ye⟩:=rfl
end
theorem acC(c:FC){aY al x1 y1 x2 y2 x3 y3 x4 y4 nm kd k0 k1 k2 k3 k4 yt ye:SV}{d:pX}(h0:bF aY=some d.aY)(h1:bF al=some d.al)(h2:bF x1=some d.x1)(h3:bF y1=some d.y1)(h4:bF x2=some d.x2)(h5:bF y2=some d.y2)(h6:bF x3=some d.x3)(h7:bF y3=some d.y3)(h8:bF x4=some d.x4)(h9:bF y4=some d.y4)(Cr:bF nm=some d.nm)(Cs:bF kd=some d.kd)(SM:bF k0=some d.k0)(FN:bF k1=some d.k1)(SN:bF k2=some d.k2)(FO:bF k3=some d.k3)(FP:bF k4=some d.k4)(SO:bF yt=some d.yt)(FQ:bF ye=some d.ye):ag true 55 0 (fS c ⟨aY,al,x1,y1,x2,y2,x3,y3,x4,y4,nm,kd,k0,k1,k2,k3,k4,yt,ye⟩)=some (.d (.agg (fC c d))):=by
 have k:cW (fS c ⟨aY,al,x1,y1,x2,y2,x3,y3,x4,y4,nm,kd,k0,k1,k2,k3,k4,yt,ye⟩)=some (fC c d):=by
  simp only[fS,Df,eS,List.cons_append,List.nil_append,cW,h0,h1,h2,h3,h4,h5,h6,h7,h8,h9,Cr,Cs,SM,FN,SN,FO,FP,SO,FQ]
  rfl
 exact Ei (show 0+55≤55 by decide) k
structure FC.W(c:FC):Prop where
 l:c.s.list.length*16≤140737488355328
 a:c.s.hY.length*16≤140737488355328
 a1:c.n1.l.length*16≤140737488355328
 b1:c.n1.m.length*16≤140737488355328
 a2:c.n2.l.length*16≤140737488355328
 b2:c.n2.m.length*16≤140737488355328
 a3:c.n3.l.length*16≤140737488355328
 b3:c.n3.m.length*16≤140737488355328
 a4:c.n4.l.length*16≤140737488355328
 b4:c.n4.m.length*16≤140737488355328
 e:pj c.e
 v0:c.lv.L.length*32≤140737488355328
 v1:c.lo.L.length*32≤140737488355328
 v2:c.hi.L.length*32≤140737488355328
 v3:c.cl.L.length*32≤140737488355328
 v4:c.ch.L.length*32≤140737488355328
inductive m9:Qaa→Prop
 |mk (c:FC) (th el:List Qaa) (h:c.W) (ht:∀t∈th,m9 t) (he:∀t∈el,m9 t):m9 (.mk c th el)
def Gw(t:Qaa):Prop:=∀{x:D},ia t x→∃y,ia t y∧aB Try.prog gl 72 [.d x] (.d y)
def Ko(ts:List Qaa):Prop:=∀{L:List D}{x:D},aE 55 L x→fH ts L→∃M,fH ts M∧aB Try.prog gl 90 [.d x] (bS 55 M)
theorem fH.snoc:∀{l:List Qaa}{L:List D}{t:Qaa}{x:D},fH l L→ia t x→fH (l++[t]) (L++[x])
 |[],_,t,x,h,hx=>by cases h;exact .cons _ _ _ _ hx .nil
 |u::l,_,t,x,h,hx=>by cases h with|cons _ y _ L h hl=>exact .cons _ _ _ _ h (hl.snoc hx)
theorem adZ(c:FC)(d:pX):bq 55 1 [(0,.agg (fC c d))]=true:=rfl
theorem MM{ts:List Qaa}(H:∀t∈ts,Gw t)(hn:ts.length≤2^20):Ko ts:=by
 intro L x hx hL
 have bW:ts.length≤maxLen:=Nat.le_trans hn (by decide)
 have:=DB (P:=Try.prog) (gl:=gl) (h:=LD) bl (f:=90) (args:=[.d x]) (bG (fn:=Try.f90) (by kernel_rfl) (by kernel_rfl) (by kernel_rfl)) (Q:=fun r=>∃M,r=bS 55 M∧fH ts M) ⟨_,L,rfl,hL⟩ (by
  rw[QD]
  intro ba
  simp only[hx.len,hL.len,sS,sT,sZ]
  refine sL (α:=List D) (fun i M=>fH (ts.take i) M) (fun i M=>[bS 55 M,.d x,.d (.int .i64 (ts.length:Int)),.d (.int .i64 ((i:Nat):Int))]) (fun i M=>[]) ts.length [] .nil (fun i M hi hJ I hI=>?_) (fun M hJ I=>?_)
  ·simp only[sS,sT,sZ]
   refine And.intro (fun _=>?_) (fun h=>absurd h (by simp;omega))
   obtain⟨t,ht⟩:=get_some hi
   obtain⟨p,hp,wP⟩:=hL.at_ ht
   obtain⟨y,hy,Mo⟩:=H t (List.mem_of_getElem? ht) wP
   have hM:=hJ.len
   rw[List.length_take]at hM
   cases wP with
   |mk c d th el Lt Le ok fu fc=>
   have nP:=hy
   cases hy with
   |mk _ d2 _ _ T1 T2 jm Km Kn=>
   have er:=pv (z:=e4) (c:=fV c d) rfl (vt c d)
   simp only[sZ]at er
   simp only[hx.at hp,Qd,Bs,vt,er,IY,sS,sT,sZ]
   refine aZ Mo rfl ?_
   simp only[dD,adZ,pA,sS,sT,sZ]
   refine iV (M:=[.agg (fC c d2)]) rfl (by rw[List.length_singleton];omega) ?_
   refine bC (bK hi bW) ?_
   exact hI _ (by rw[eH ht];exact hJ.snoc nP)
  ·simp only[sS,sT,sZ]
   refine And.intro (fun h=>absurd h (by simp)) (fun _=>?_)
   rw[List.take_length]at hJ
   exact⟨nf _ _,M,rfl,hJ⟩)
 obtain⟨r,⟨M,rfl,hM⟩,hr⟩:=this
 exact⟨M,hM,hr⟩
theorem VB(c:FC)(th el:List Qaa)(hW:c.W)(h1:Ko th)(h2:Ko el):Gw (.mk c th el):=by
 intro x hx
 have yP:=hx
 cases hx with
 |mk _ d _ _ Lt Le ok fu fc=>
 obtain⟨ey,T4,afL⟩:=Ms _ c.e (Nat.lt_succ_self _) hW.e ok.e
 have afM:=T4
 obtain⟨AV,AW,L2,rfl,bf,hle,hde,hke⟩:=T4.inv
 obtain⟨M1,hM1,afN⟩:=h1 ok.t fu
 obtain⟨M2,hM2,afO⟩:=h2 ok.l fc
 have er:∀d2,setAt e4 0 (fV c d2)=fV c d2:=fun d2=>pv (z:=e4) (c:=fV c d2) rfl (vt c d2)
 simp only[sZ]at er
 have:=DB (P:=Try.prog) (gl:=gl) (h:=FU) bl (f:=72) (args:=[.d (.agg (fC c d))]) (bG (fn:=Try.f72) (by kernel_rfl) (by kernel_rfl) (by kernel_rfl)) (Q:=fun r=>∃y,r=.d y∧ia (.mk c th el) y) ⟨_,_,rfl,yP⟩ (by
  rw[IL]
  intro ba
  simp only[Bs,afK,xo,adT,adV,sS,sT,sZ]
  refine aZ (AZ ok.hl (by rw[jn];exact hW.l)) (vu ok.hl) ?_
  refine aZ (AZ ok.ha (by rw[jn];exact hW.a)) (vu ok.ha) ?_
  simp only[vc ok.hl,vc ok.ha,xo,adU,adW,adX,acp,acr,acu,sS,sT,sZ]
  refine⟨rfl,by decide,rfl,by decide,?_⟩
  refine aZ (Du ok.a1 ok.b1 hW.a1 hW.b1) rfl ?_
  refine aZ (Du ok.a2 ok.b2 hW.a2 hW.b2) rfl ?_
  refine aZ (Du ok.a3 ok.b3 hW.a3 hW.b3) rfl ?_
  refine aZ (Du ok.a4 ok.b4 hW.a4 hW.b4) rfl ?_
  simp only[Eg,adY,acq,acs,acv,xo,acw,sS,sT,sZ]
  refine⟨rfl,by decide,rfl,by decide,rfl,by decide,rfl,by decide,?_⟩
  refine aZ afL rfl ?_
  simp only[Bk,Fj,BP,acx,xo,aci,sS,sT,sZ]
  refine⟨by decide,?_⟩
  refine aZ (GN ok.v0 hW.v0) (vu ok.v0) ?_
  simp only[vc ok.v0,acj,xo,acy,acA,sS,sT,sZ]
  refine⟨rfl,by decide,?_⟩
  refine aZ (NU c.lo.s c.hi.s ok.v1 ok.v2 hW.v1 hW.v2) rfl ?_
  refine aZ (NU c.cl.s c.ch.s ok.v3 ok.v4 hW.v3 hW.v4) rfl ?_
  simp only[Eh,acz,acB,xo,ack,acn,sS,sT,sZ]
  refine⟨rfl,by decide,rfl,by decide,?_⟩
  refine aZ afN (j6 _ _) ?_
  refine aZ afO (j6 _ _) ?_
  have e6:=acC c (d:=⟨eG d.aY,eG d.al,eG d.x1,eG d.y1,eG d.x2,eG d.y2,eG d.x3,eG d.y3,eG d.x4,eG d.y4,AV,AW,eG d.k0,eG d.k1,eG d.k2,eG d.k3,eG d.k4,bB 55 M1,bB 55 M2⟩) (vv ok.hl) (vv ok.ha) (mH _) (mH _) (mH _) (mH _) (mH _) (mH _) (mH _) (mH _) (mH _) (mH _) (vv ok.v0) (mH _) (mH _) (mH _) (mH _) (H7 55 M1) (H7 55 M2)
  simp only[DE,acm,aco,xo,e6,Bs,vt,er,IY,sS,sT,sZ]
  refine⟨rfl,by decide,rfl,by decide,_,rfl,?_⟩
  exact .mk c _ th el M1 M2 ⟨kV ok.hl,kV ok.ha,kV ok.a1,kV ok.b1,kV ok.a2,kV ok.b2,kV ok.a3,kV ok.b3,kV ok.a4,kV ok.b4,afM,kV ok.v0,kV ok.v1,kV ok.v2,kV ok.v3,kV ok.v4,eQ 55 M1,eQ 55 M2⟩ hM1 hM2)
 obtain⟨r,⟨y,rfl,hy⟩,hr⟩:=this
 exact⟨y,hy,hr⟩
theorem Qaa.Ej:∀(l:List Qaa),l.length≤Qaa.cB l
 |[]=>by simp
 | .mk c a b::l=>by
   have:=Qaa.Ej l
   simp only[List.length_cons,Qaa.cB,Qaa.sz];omega
theorem Hn:∀(n:Nat)(t:Qaa),t.sz<n→t.sz≤2^20→m9 t→Gw t
 |0,t,h,_,_=>by omega
 |n+1,.mk c th el,h,hb,hW=>by
  simp only[Qaa.sz]at h hb
  cases hW with
  |mk _ _ _ hc ht he=>
   have l1:=Qaa.Ej th
   have l2:=Qaa.Ej el
   exact VB c th el hc (MM (fun t hm=>Hn n t (by have:=Qaa.vr hm;omega) (by have:=Qaa.vr hm;omega) (ht t hm)) (by omega))
    (MM (fun t hm=>Hn n t (by have:=Qaa.vr hm;omega) (by have:=Qaa.vr hm;omega) (he t hm)) (by omega))
theorem UW{t:Qaa}(h:t.sz≤2^20)(hW:m9 t):Gw t:=Hn _ t (Nat.lt_succ_self _) h hW
end Go.Proofs.Ytimbllcalipehaa.Ab
namespace Go.Proofs.Ytimbllcalipehaa.Ab
open Go
set_option maxRecDepth 4000
set_option linter.unusedVariables false
structure NsA where
 (a b c x y:D)
 (l m:List (List UInt8))
 (hx:aE 1 (bU l) x)
 (hy:aE 1 (bU m) y)
structure T5 where
 (s:List UInt8)
 (c:D)
 (L:List D)
 (h:aE 2 L c)
 (p:ET L)
structure XpA where
 (c0 c1 c2 c3 c4 c5 c6 c7 c8 c9:D)
 (e:Xp)
 (h:gC e (.agg [c0,c1,c2,c3,c4,c5,c6,c7,c8,c9]))
structure AX where
 s:jk
 (r t:List UInt8)
 (aY al:D)
 (hl:aE 1 (bU s.list) aY)
 (ha:aE 1 (bU s.hY) al)
 (n1 n2 n3 n4:NsA)
 x:XpA
 (lv lo hi:T5)
 (u v w:List UInt8)
 (cl ch:T5)
 val:Bool
 (th el:D)
 (n9:Is Try.prog 34 [th])
 (g9:Is Try.prog 34 [el])
def AX.rest(s:AX):List D:=[s.n1.a,s.n1.b,s.n1.c,s.n1.x,s.n1.y,s.n2.a,s.n2.b,s.n2.c,s.n2.x,s.n2.y,s.n3.a,s.n3.b,s.n3.c,s.n3.x,s.n3.y,s.n4.a,s.n4.b,s.n4.c,s.n4.x,s.n4.y,
 s.x.c0,s.x.c1,s.x.c2,s.x.c3,s.x.c4,s.x.c5,s.x.c6,s.x.c7,s.x.c8,s.x.c9,.str s.lv.s,s.lv.c,.str s.lo.s,s.lo.c,.str s.hi.s,s.hi.c,.str s.u,.str s.v,.str s.w,.str s.cl.s,s.cl.c,.str s.ch.s,s.ch.c,.bool s.val,s.th,s.el]
def AX.enc(s:AX):D:=.agg (jG s.s (.str s.r) (.str s.t) s.aY s.al s.rest)
theorem AX.is(s:AX):tS s.s s.enc:=.mk _ _ _ _ _ rfl s.hl s.ha
theorem acD:dm Try.prog 143=some true:=by kernel_rfl
theorem acE:Try.prog.cellsOf 143=2:=by kernel_rfl
theorem ad0{xs:List D}(h:Is Try.prog 143 xs):∃s t:List UInt8,xs=[.str s,.str t]:=by
 obtain⟨parts,rfl,hl,hp⟩:=h.uZ Try.underlying143
 match parts,hl,hp with
 |[q0,q1],_,hp=>
  obtain⟨s,rfl⟩:=pG (hp 0 _ _ rfl rfl)
  obtain⟨t,rfl⟩:=pG (hp 1 _ _ rfl rfl)
  exact⟨s,t,rfl⟩
theorem acF{xs:List D}(h:Is Try.prog 28 xs):∃a b:Int,xs=[.int .i64 a,.int .i64 b]:=by
 obtain⟨parts,rfl,hl,hp⟩:=h.uZ Try.underlying28
 match parts,hl,hp with
 |[q0,q1],_,hp=>
  obtain⟨a,rfl⟩:=tm (hp 0 _ _ rfl rfl)
  obtain⟨b,rfl⟩:=tm (hp 1 _ _ rfl rfl)
  exact⟨a,b,rfl⟩
theorem aap:dm Try.prog 65=some true:=by kernel_rfl
theorem aaq:Try.prog.cellsOf 65=55:=by kernel_rfl
end Go.Proofs.Ytimbllcalipehaa.Ab
namespace Go.Proofs.Ytimbllcalipehaa.Ab
open Go
set_option maxRecDepth 4000
set_option linter.unusedVariables false
theorem aar:dm Try.prog 36=some true:=by kernel_rfl
theorem aas:Try.prog.cellsOf 36=3:=by kernel_rfl
theorem aat:dm Try.prog 22=some false:=by kernel_rfl
end Go.Proofs.Ytimbllcalipehaa.Ab
namespace Go.Proofs.Ytimbllcalipehaa.Ab
open Go
set_option linter.unusedVariables false
set_option maxRecDepth 8000
mutual
def Qaa.t:Qaa→ak
 | .mk c a b=>.mk c.s (Qaa.tL a) (Qaa.tL b)
def Qaa.tL:List Qaa→List ak
 |[]=>[]
 |t::l=>t.t::Qaa.tL l
end
theorem Qaa.I0:∀(l:List Qaa),Qaa.tL l=l.map Qaa.t
 |[]=>rfl
 |t::l=>by rw[Qaa.tL,Qaa.I0 l];rfl
mutual
theorem ia.T6:∀{t:Qaa}{x:D},ia t x→m6 t.t x
 | .mk c th el,_,.mk _ d _ _ Lt Le ok fu fc=>by
   rw[Qaa.t]
   exact .mk c.s (Qaa.tL th) (Qaa.tL el) (.str c.r) (.str c.t) d.aY d.al (Rl c d) d.yt d.ye Lt Le rfl ok.hl ok.ha rfl rfl ok.t ok.l fu.Fk fc.Fk
theorem fH.Fk:∀{l:List Qaa}{L:List D},fH l L→fG (Qaa.tL l) L
 |[],_,.nil =>by rw[Qaa.tL];exact .nil
 |t::l,_,.cons _ x _ L h hl=>by rw[Qaa.tL];exact .cons _ _ _ _ h.T6 hl.Fk
end
mutual
theorem Qaa.afP:∀(t:Qaa),t.t.sz=t.sz
 | .mk c a b=>by rw[Qaa.t,ak.sz,Qaa.sz,Qaa.EV a,Qaa.EV b]
theorem Qaa.EV:∀(l:List Qaa),ak.cB (Qaa.tL l)=Qaa.cB l
 |[]=>by rw[Qaa.tL,ak.cB,Qaa.cB]
 |t::l=>by rw[Qaa.tL,ak.cB,Qaa.cB,Qaa.afP t,Qaa.EV l]
end
def ib.t(m:ib):bT:=⟨m.name,m.n8,Qaa.tL m.aP⟩
theorem ud.afQ{m:ib}{x:D}(h:ud m x):jR m.t x:=by
 cases h with
 |mk xs L hx hs=>exact .mk xs L hx hs.Fk
theorem oI.ad1{l:List ib}{L:List D}(h:oI l L):pN (l.map ib.t) L:=by
 refine⟨by rw[List.length_map];exact h.len,fun{i m}hm=>?_⟩
 rw[List.getElem?_map]at hm
 obtain⟨a,ha,rfl⟩:=Option.map_eq_some_iff.1 hm
 obtain⟨y,hy,Mp⟩:=h.at_ ha
 exact⟨y,hy,Mp.afQ⟩
def Kp(x y:D):Prop:=(∃t,ia t x∧ia t y)∧aB Try.prog gl 72 [.d x] (.d y)
open Classical in
noncomputable def pk(x:D):D:=if h:∃y,Kp x y then Classical.choose h else x
theorem QW{t:Qaa}{x:D}(h:t.sz≤2^20)(hW:m9 t)(hx:ia t x):Kp x (pk x):=by
 obtain⟨y,hy,Mo⟩:=UW h hW hx
 have he:∃y,Kp x y:=⟨y,⟨t,hx,hy⟩,Mo⟩
 unfold pk
 rw[dif_pos he]
 exact Classical.choose_spec he
theorem ia.len{t:Qaa}{x:D}(h:ia t x):x.cells.length=55:=by
 cases h with
 |mk c d th el Lt Le ok fu fc=>rfl
theorem ad2{t:Qaa}{x:D}(h:t.sz≤2^20)(hW:m9 t)(hx:ia t x):uS pk x:=by
 obtain⟨⟨u,_,hu⟩,hH⟩:=QW h hW hx
 exact⟨hH,hu.len⟩
mutual
theorem aau:∀{t:Qaa}{x:D},t.sz≤2^20→m9 t→ia t x→wM (uS pk) t.t x
 | .mk c th el,x,hb,hW,hx=>by
   have yP:=hx
   cases hx with
   |mk _ d _ _ Lt Le ok fu fc=>
   cases hW with
   |mk _ _ _ hc ht he=>
   have dq:=hb
   simp only[Qaa.sz]at dq
   rw[Qaa.t,wM]
   have e1:sE (.agg (fC c d))=Lt:=ok.t.ph
   have e2:wJ (.agg (fC c d))=Le:=ok.l.ph
   split
   ·rw[e1,e2]
    exact⟨D7 (by omega) ht fu,D7 (by omega) he fc⟩
   ·exact ad2 hb (.mk c th el hc ht he) yP
theorem D7:∀{l:List Qaa}{L:List D},Qaa.cB l≤2^20→(∀t∈l,m9 t)→fH l L→ml (uS pk) (Qaa.tL l) L
 |[],_,_,_,.nil =>by rw[Qaa.tL];simp[ml]
 |t::l,_,hb,hW,.cons _ x _ L h hl=>by
  simp only[Qaa.cB]at hb
  rw[Qaa.tL,ml]
  exact⟨aau (by omega) (hW t (by simp)) h,D7 (by omega) (fun u hu=>hW u (by simp[hu])) hl⟩
end
def ib.W(m:ib):Prop:=∀t∈m.aP,m9 t
theorem aav{l:List ib}{L:List D}(hL:oI l L)(hW:∀m∈l,m.W)(hm:∀m∈l,Qaa.cB m.aP≤2^20):LR (uS pk) (l.map ib.t) L:=by
 intro i m x gy hx
 rw[List.getElem?_map]at gy
 obtain⟨a,ha,rfl⟩:=Option.map_eq_some_iff.1 gy
 obtain⟨y,hy,Mp⟩:=hL.at_ ha
 rw[hx]at hy
 cases hy
 have dw:=List.mem_of_getElem? ha
 cases Mp with
 |mk xs M CC hs=>
 have e:AP (.agg [.str a.name,.int .i64 a.n8,xs])=M:=CC.ph
 rw[e]
 exact D7 (hm a dw) (hW a dw) hs
theorem Pu:∀{L:List D},(∀x∈L,∃t,ia t x∧ia t (pk x))→∃ts,fH ts L∧fH ts (L.map pk)
 |[],_=>⟨[],.nil,.nil⟩
 |x::L,h=>by
  obtain⟨t,h1,h2⟩:=h x (by simp)
  obtain⟨ts,h3,h4⟩:=Pu (L:=L) fun y hy=>h y (by simp[hy])
  exact⟨t::ts,.cons _ _ _ _ h1 h3,.cons _ _ _ _ h2 h4⟩
theorem OD{cp:D→D}{bs:List aA}:∀{ts:List ak}{L:List D}(n:Nat),L.length=ts.length→(∀t∈ts,(t.s.kind==18)=false)→fZ cp ts L bs n true=L.map cp
 |[],[],n,_,_=>rfl
 |[],_::_,n,h,_=>by simp at h
 |_::_,[],n,h,_=>by simp at h
 |t::l,x::L,n,h,hk=>by
  rw[fZ,QQ (hk t (by simp)),if_pos rfl,OD _ (by simpa using h) fun u hu=>hk u (by simp[hu])]
  rfl
theorem fH.mem:∀{l:List Qaa}{L:List D}{x:D},fH l L→x∈L→∃t∈l,ia t x
 |[],_,x,.nil,h=>by simp at h
 |t::l,_,x,.cons _ y _ L h hl,hx=>by
  rcases List.mem_cons.1 hx with rfl|hx
  ·exact⟨t,by simp,h⟩
  ·obtain⟨u,hu,h2⟩:=hl.mem hx
   exact⟨u,by simp[hu],h2⟩
theorem OE:∀{l:List ib}{L:List D}(bs:List aA)(n:Nat),oI l L→(∀m∈l,m.W)→(∀m∈l,Qaa.cB m.aP≤2^20)→(∀m∈l,∀t∈m.aP,(t.t.s.kind==18)=false)→∃l2,oI l2 L∧oI l2 (m8 pk (l.map ib.t) L bs n)
 |[],[],bs,n,h,_,_,_=>⟨[],⟨rfl,fun{i m}h=>by simp at h⟩,⟨rfl,fun{i m}h=>by simp at h⟩⟩
 |[],_::_,bs,n,h,_,_,_=>by have:=h.len;simp at this
 |_::_,[],bs,n,h,_,_,_=>by have:=h.len;simp at this
 |m::l,x::L,bs,n,h,hW,hz,hk=>by
  obtain⟨y,hy,hm⟩:=h.at_ (i:=0) (m:=m) rfl
  simp at hy
  subst hy
  have ht:oI l L:=⟨by have:=h.len;simpa using this,fun{i m}hi=>by
   obtain⟨y,h1,h2⟩:=h.at_ (i:=i+1) (m:=m) (by simpa using hi)
   exact⟨y,by simpa using h1,h2⟩⟩
  obtain⟨l2,k1,k2⟩:=OE bs (n+ak.cz m.t.aP) ht (fun m hm=>hW m (by simp[hm])) (fun m hm=>hz m (by simp[hm])) (fun m hm=>hk m (by simp[hm]))
  cases hm with
  |mk xs M CC hs=>
  have e:AP (.agg [.str m.name,.int .i64 m.n8,xs])=M:=CC.ph
  obtain⟨ts,q1,q2⟩:=Pu (L:=M) fun z yg=>by
   obtain⟨t,yw,uv⟩:=hs.mem yg
   have aH:=Qaa.vr yw
   exact(QW (Nat.le_trans aH (hz m (by simp))) (hW m (by simp) t yw) uv).1
  have o7:fZ pk m.t.aP M bs n true=M.map pk:=by
   refine OD n (by rw[show m.t.aP=Qaa.tL m.aP from rfl,Qaa.I0,List.length_map];exact hs.len) fun t yw=>?_
   rw[show m.t.aP=Qaa.tL m.aP from rfl,Qaa.I0]at yw
   obtain⟨u,hu,rfl⟩:=List.mem_map.1 yw
   exact hk m (by simp) u hu
  refine⟨⟨m.name,m.n8,ts⟩::l2,⟨by simp[k1.len],fun{i a}hi=>?_⟩,⟨?_,fun{i a}hi=>?_⟩⟩
  ·cases i with
   |zero=>simp at hi;subst hi;exact⟨_,rfl,.mk xs M CC q1⟩
   |succ i=>exact k1.at_ (by simpa using hi)
  ·rw[List.map_cons,m8,List.length_cons,List.length_cons,k2.len]
  ·rw[List.map_cons,m8,e,o7]
   cases i with
   |zero=>simp at hi;subst hi;exact⟨_,rfl,.mk _ _ (eQ 55 _) q2⟩
   |succ i=>exact k2.at_ (by simpa using hi)
end Go.Proofs.Ytimbllcalipehaa.Ab
namespace Go.Proofs.Ytimbllcalipehaa.Ab
open Go
set_option linter.unusedVariables false
set_option maxRecDepth 4000
theorem Ws{l:List ib}{L:List D}{x:D}(hx:aE 3 L x)(hL:oI l L)(hW:∀m∈l,m.W):aB Try.prog gl 8 [.d x] (.d (.bool true)):=by
 refine bZ bl (bG (fn:=Try.f8) (by kernel_rfl) (by kernel_rfl) (by kernel_rfl)) (h:=h8) ?_;rw[ac3];intro ba
 have hl:=hL.ad1
 simp only[sS,sT,sZ]
 refine eO (Vk hx hl) ?_
 simp only[adB,sS,sT,sZ]
 have aw:aN (aB Try.prog gl) 10 [] fun r=>(aa r).ar =true∧aa r=.d (.bool true):=aZ No rfl ⟨rfl,rfl⟩
 have T7:aN (aB Try.prog gl) 10 [] fun r=>(aa (aa r)).ar =true∧aa (aa r)=.d (.bool true):=aZ No rfl ⟨rfl,rfl⟩
 refine And.intro (fun h=>aw) (fun h=>?_)
 obtain⟨h8,hm⟩:=Ov (by simpa using h)
 rw[List.length_map]at h8
 have bW:l.length≤maxLen:=Nat.le_trans h8 (by decide)
 have Mq:∀m∈l,Qaa.cB m.aP≤2^20:=fun m nT=>by
  have:=(hm m.t (List.mem_map.2 ⟨m,nT,rfl⟩)).sz
  rw[show m.t.aP=Qaa.tL m.aP from rfl,Qaa.EV]at this
  omega
 simp only[hx.len,hL.len,sS,sT,sZ]
 refine nh (fun i=>∀j m,j<i→l[j]? =some m→∀t∈m.aP,(t.t.s.kind==18)=false) (fun i=>[.d x,.d (.int .i64 (l.length:Int)),.d (.int .i64 ((i:Nat):Int))]) (fun i=>[]) l.length (fun j m hj _=>by omega) (fun i hi hJ I hI=>?_) (fun hJ I=>?_)
 ·simp only[sS,sT,sZ]
  refine And.intro (fun _=>?_) (fun h=>absurd h (by simp;omega))
  obtain⟨m,gy⟩:=get_some hi
  obtain⟨y,hy,j1⟩:=hL.at_ gy
  cases j1 with
  |mk xs Lm sr ee=>
  have gM:m.aP.length≤maxLen:=by
   have:=Qaa.Ej m.aP
   have:=Mq m (List.mem_of_getElem? gy)
   exact Nat.le_trans (by omega:m.aP.length≤2^20) (by decide)
  simp only[hx.at hy,nF,IP,sr.len,ee.len,sS,sT,sZ]
  refine nh (fun k=>∀j t,j<k→m.aP[j]? =some t→(t.t.s.kind==18)=false) (fun k=>[.d x,.d (.int .i64 ((i:Nat):Int)),.d (.int .i64 (l.length:Int)),.d (.int .i64 ((i:Nat):Int)),.d (.int .i64 (m.aP.length:Int)),.d (.int .i64 ((k:Nat):Int))]) (fun k=>[]) m.aP.length (fun j t hj _=>by omega) (fun k hk n0 I2 cG=>?_) (fun n0 I2=>?_)
  ·simp only[sS,sT,sZ]
   refine And.intro (fun _=>?_) (fun h=>absurd h (by simp;omega))
   obtain⟨t,ht⟩:=get_some hk
   obtain⟨z,hz,uv⟩:=ee.at_ ht
   obtain⟨c,aY,al,yt,ye,Lt,Le,hc⟩:=uv.T6.out
   simp only[hx.at hy,nF,IP,sr.at hz,hc.l0,vf,sS,sT,sZ]
   refine And.intro (fun h=>aw) (fun h=>?_)
   refine bC (bK hk gM) ?_
   refine cG fun j u hj hu=>?_
   rcases Nat.lt_or_ge j k with h1|h1
   ·exact n0 j u h1 hu
   ·have:j=k:=by omega
    subst this
    rw[ht]at hu
    cases hu
    exact h
  ·simp only[sS,sT,sZ]
   refine And.intro (fun h=>absurd h (by simp)) (fun _=>?_)
   refine bC (bK hi bW) ?_
   refine hI fun j u hj hu=>?_
   rcases Nat.lt_or_ge j i with h1|h1
   ·exact hJ j u h1 hu
   ·have:j=i:=by omega
    subst this
    rw[gy]at hu
    cases hu
    intro t ht
    obtain⟨k,hk⟩:=List.mem_iff_getElem?.1 ht
    exact n0 k t (List.getElem?_eq_some_iff.1 hk).1 hk
 ·simp only[sS,sT,sZ]
  refine And.intro (fun h=>absurd h (by simp)) (fun _=>?_)
  have fe:∀m∈l,∀t∈m.aP,(t.t.s.kind==18)=false:=fun m nT t ht=>by
   obtain⟨j,hj⟩:=List.mem_iff_getElem?.1 nT
   exact hJ j m (List.getElem?_eq_some_iff.1 hj).1 hj t ht
  have hF:=ML pk hx hl (by rw[List.length_map];exact h8) hm (aav hL hW Mq)
  unfold Gl at hF
  cases hd:nM (l.map ib.t)with
  |error e=>
   obtain⟨c,s⟩:=e
   rw[hd]at hF
   refine call2 hF ?_
   simp only[kX,dE,dJ,z4,eI,dG,ic,ez,pD (IX hd),sS,sT,sZ]
   refine And.intro (fun _=>?_) (fun h=>absurd h (by decide))
   exact T7
  |ok o=>
   rw[hd]at hF
   obtain⟨l2,k1,k2⟩:=OE o 0 hL hW Mq fe
   refine call2 hF ?_
   simp only[ej,dE,dJ,z4,eI,dG,ic,ez,fh,sS,sT,sZ]
   refine And.intro (fun h=>absurd h (by decide)) (fun _=>?_)
   refine aZ (Wq (eQ 3 _) k2 hx k1) rfl ?_
   simp only[sS,sT,sZ]
   refine And.intro (fun _=>?_) (fun h=>absurd h (by decide))
   exact T7
end Go.Proofs.Ytimbllcalipehaa.Ab
namespace Go.Proofs.Ytimbllcalipehaa.Ab
open Go
set_option maxRecDepth 4000
set_option linter.unusedVariables false
theorem acG:Try.prog.bytesOf 9=16:=by kernel_rfl
theorem ad3:Try.prog.bytesOf 143=32:=by kernel_rfl
theorem ad4:Try.prog.bytesOf 56=112:=by kernel_rfl
theorem H8{n:Nat}(h:n≤reachBytes):n≤140737488355328:=Nat.le_trans h (by decide)
theorem BQ{xs:List D}(h:eE Try.prog 48 xs):∃(l:List (List UInt8)) (x:D),xs=[x]∧aE 1 (bU l) x∧l.length*16≤140737488355328:=by
 rcases h.Er Try.underlying48 adC with rfl|⟨L,rfl,hw,hL⟩
 ·exact⟨[],_,rfl,.nil 0 rfl,by simp⟩
 ·obtain⟨l,hl,hn⟩:=PM (b:=false) (f:=D.str) (fun x hx=>by obtain⟨s,rfl⟩:=pG hx;exact⟨s,rfl⟩) L (fun x hx=>(hL x hx).is)
  rw[acG]at hw
  refine⟨l,_,rfl,?_,by rw[hn];exact H8 hw⟩
  rw[hl,aai]
  exact .ro
theorem Fl{xs:List D}(h:eE Try.prog 50 xs):∃(n:yO) (x y:D),xs=[.bool n.a,.bool n.b,.bool n.c,x,y]∧aE 1 (bU n.l) x∧aE 1 (bU n.m) y∧n.l.length*16≤140737488355328∧n.m.length*16≤140737488355328:=by
 obtain⟨parts,rfl,hl,hp⟩:=h.uZ Try.underlying50
 match parts,hl,hp with
 |[q0,q1,q2,q3,q4],_,hp=>
  obtain⟨b0,rfl⟩:=Ee (hp 0 _ _ rfl rfl).is
  obtain⟨b1,rfl⟩:=Ee (hp 1 _ _ rfl rfl).is
  obtain⟨b2,rfl⟩:=Ee (hp 2 _ _ rfl rfl).is
  obtain⟨l,x,rfl,hx,w1⟩:=BQ (hp 3 _ _ rfl rfl)
  obtain⟨m,y,rfl,hy,w2⟩:=BQ (hp 4 _ _ rfl rfl)
  exact⟨⟨b0,b1,b2,l,m⟩,x,y,rfl,hx,hy,w1,w2⟩
theorem ad5{xs:List D}(h:eE Try.prog 57 xs):∃(L:List D) (x:D),xs=[x]∧aE 2 L x∧ET L∧L.length*32≤140737488355328:=by
 rcases h.Er Try.underlying57 acD with rfl|⟨L,rfl,hw,hL⟩
 ·exact⟨[],_,rfl,.nil 0 rfl,fun i y h=>by simp at h,by simp⟩
 ·rw[ad3]at hw
  refine⟨L.map (pack true),_,rfl,by rw[acE];exact .ro,fun i y hy=>?_,by rw[List.length_map];exact H8 hw⟩
  rw[List.getElem?_map]at hy
  cases hx:L[i]? with
  |none=>rw[hx]at hy;cases hy
  |some z=>
   rw[hx]at hy
   obtain⟨s,t,rfl⟩:=ad0 (hL z (List.mem_of_getElem? hx)).is
   cases hy
   exact⟨s,t,rfl⟩
theorem Kq{xs:List D}(h:eE Try.prog 59 xs):∃(v:uW) (x:D),xs=[.str v.s,x]∧aE 2 v.L x∧v.L.length*32≤140737488355328:=by
 obtain⟨parts,rfl,hl,hp⟩:=h.uZ Try.underlying59
 match parts,hl,hp with
 |[q0,q1],_,hp=>
  obtain⟨s,rfl⟩:=pG (hp 0 _ _ rfl rfl).is
  obtain⟨L,x,rfl,h1,h2,h3⟩:=ad5 (hp 1 _ _ rfl rfl)
  exact⟨⟨s,L,h2⟩,x,rfl,h1,h3⟩
theorem R7{xs:List D}(h:eE Try.prog 61 xs):∃(v u:uW) (x y:D),xs=[.str v.s,x,.str u.s,y]∧aE 2 v.L x∧aE 2 u.L y∧v.L.length*32≤140737488355328∧u.L.length*32≤140737488355328:=by
 obtain⟨parts,rfl,hl,hp⟩:=h.uZ Try.underlying61
 match parts,hl,hp with
 |[q0,q1],_,hp=>
  obtain⟨t,x,rfl,h1,w1⟩:=Kq (hp 0 _ _ rfl rfl)
  obtain⟨u,y,rfl,h2,w2⟩:=Kq (hp 1 _ _ rfl rfl)
  exact⟨t,u,x,y,rfl,h1,h2,w1,w2⟩
theorem afR{xs:List D}(h:eE Try.prog 63 xs):∃(a b c:List UInt8) (v u:uW) (x y:D),xs=[.str a,.str b,.str c,.str v.s,x,.str u.s,y]∧aE 2 v.L x∧aE 2 u.L y∧v.L.length*32≤140737488355328∧u.L.length*32≤140737488355328:=by
 obtain⟨parts,rfl,hl,hp⟩:=h.uZ Try.underlying63
 match parts,hl,hp with
 |[q0,q1,q2,q3],_,hp=>
  obtain⟨a,rfl⟩:=pG (hp 0 _ _ rfl rfl).is
  obtain⟨b,rfl⟩:=pG (hp 1 _ _ rfl rfl).is
  obtain⟨c,rfl⟩:=pG (hp 2 _ _ rfl rfl).is
  obtain⟨t,u,x,y,rfl,hh⟩:=R7 (hp 3 _ _ rfl rfl)
  exact⟨a,b,c,t,u,x,y,rfl,hh⟩
theorem YX{t:TypeId}{xs:List D}(h:eE Try.prog t xs):(t=56→∃e:Xp,gC e (.agg xs)∧pj e)∧
  (t=54→∃(l:List Xp) (L:List D) (x:D),xs=[x]∧aE 10 L x∧L.length=l.length∧(∀(i:Nat)k y,l[i]? =some k→L[i]? =some y→gC k y)∧l.length*112≤140737488355328∧∀k∈l,pj k):=by
 have hx:56≠54:=by decide
 induction h with
 |struct h parts hl hp ih=>
  refine⟨fun ht=>?_,fun ht=>?_⟩
  ·subst ht
   rw[Try.underlying56]at h
   cases h
   match parts,hl,hp,ih with
   |[a,b,c,d,n,s,k],_,hp,ih=>
    obtain⟨op,rfl⟩:=tm (hp 0 _ _ rfl rfl).is
    obtain⟨a',rfl⟩:=tm (hp 1 _ _ rfl rfl).is
    obtain⟨rel,rfl⟩:=tm (hp 2 _ _ rfl rfl).is
    obtain⟨b',rfl⟩:=tm (hp 3 _ _ rfl rfl).is
    obtain⟨names,nm,rfl,hn,CI⟩:=BQ (hp 4 _ _ rfl rfl)
    obtain⟨w,rfl⟩:=aca (hp 5 _ _ rfl rfl).is
    obtain⟨l,L,x,rfl,hd,gK,hk,hlw,hkw⟩:=(ih 6 _ _ rfl rfl).2 rfl
    exact⟨_,.mk op a' rel b' names w l nm x L hn gK hk hd,.mk op a' rel b' names w l CI hlw hkw⟩
  ·subst ht
   rw[Try.underlying54]at h
   cases h
 |fD h=>exact⟨fun ht=>(by subst ht;rw[Try.underlying56]at h;cases h),fun ht=>⟨[],[],_,rfl,.nil 0 rfl,rfl,fun i k y h1=>by simp at h1,by simp,by simp⟩⟩
 |sl h b hb L hm hw hL ih=>
  refine⟨fun ht=>(by subst ht;rw[Try.underlying56]at h;cases h),fun ht=>?_⟩
  subst ht
  rw[Try.underlying54]at h
  cases h
  rw[ab9]at hb
  cases hb
  have key:∀(L:List (List D)),(∀x∈L,∃e:Xp,gC e (.agg x)∧pj e)→∃l:List Xp,l.length=L.length∧(∀(i:Nat)k y,l[i]? =some k→(L.map (pack true))[i]? =some y→gC k y)∧∀k∈l,pj k:=by
   intro L
   induction L with
   |nil=>intro _;exact⟨[],rfl,fun i k y h1=>by simp at h1,by simp⟩
   |cons x L Dg=>
    intro h
    obtain⟨e,he,yQ⟩:=h x (by simp)
    obtain⟨l,h1,h2,h3⟩:=Dg fun y hy=>h y (by simp[hy])
    refine⟨e::l,by simp[h1],fun i k y a b=>?_,fun k hk=>?_⟩
    ·cases i with
     |zero=>simp at a b;subst a b;exact he
     |succ i=>exact h2 i k y (by simpa using a) (by simpa using b)
    ·rcases List.mem_cons.1 hk with rfl|hk
     ·exact yQ
     ·exact h3 k hk
  obtain⟨l,h1,h2,h3⟩:=key L fun x hx=>(ih x hx).1 rfl
  rw[ad4]at hw
  refine⟨l,_,_,rfl,?_,by rw[List.length_map,h1],h2,by rw[h1];exact H8 hw,h3⟩
  rw[aaj]
  exact .ro
 |bool h=>exact⟨fun ht=>(by subst ht;rw[Try.underlying56]at h;cases h),fun ht=>(by subst ht;rw[Try.underlying54]at h;cases h)⟩
 |int h=>exact⟨fun ht=>(by subst ht;rw[Try.underlying56]at h;cases h),fun ht=>(by subst ht;rw[Try.underlying54]at h;cases h)⟩
 |str h=>exact⟨fun ht=>(by subst ht;rw[Try.underlying56]at h;cases h),fun ht=>(by subst ht;rw[Try.underlying54]at h;cases h)⟩
 |array h=>exact⟨fun ht=>(by subst ht;rw[Try.underlying56]at h;cases h),fun ht=>(by subst ht;rw[Try.underlying54]at h;cases h)⟩
theorem afS{xs:List D}(h:eE Try.prog 56 xs):∃(e:Xp) (nm kd:D),xs=gN e.op e.a e.rel e.b nm e.w kd∧gC e (.agg (gN e.op e.a e.rel e.b nm e.w kd))∧pj e:=by
 obtain⟨e,he,hw⟩:=(YX h).1 rfl
 have yJ:=he
 obtain⟨nm,kd,L,hx,_⟩:=he.inv
 cases hx
 exact⟨e,nm,kd,rfl,yJ,hw⟩
theorem aaw{t:TypeId}{xs:List D}(h:eE Try.prog t xs):(t=65→∃e:Qaa,ia e (.agg xs)∧m9 e)∧
  (t=34→∃(l:List Qaa) (L:List D) (x:D),xs=[x]∧aE 55 L x∧fH l L∧∀t∈l,m9 t):=by
 have hx:65≠34:=by decide
 induction h with
 |struct h parts hl hp ih=>
  refine⟨fun ht=>?_,fun ht=>?_⟩
  ·subst ht
   rw[Try.underlying65]at h
   cases h
   match parts,hl,hp,ih with
   |[q0,q1,q2,q3,q4,q5,q6,q7,q8,q9,q10,q11,q12,q13,q14,q15,q16,q17,q18],_,hp,ih=>
    obtain⟨k,rfl⟩:=tm (hp 0 _ _ rfl rfl).is
    obtain⟨op,rfl⟩:=tm (hp 1 _ _ rfl rfl).is
    obtain⟨ln,cl,rfl⟩:=acF (hp 2 _ _ rfl rfl).is
    obtain⟨n,rfl⟩:=pG (hp 3 _ _ rfl rfl).is
    obtain⟨r,rfl⟩:=pG (hp 4 _ _ rfl rfl).is
    obtain⟨t,rfl⟩:=pG (hp 5 _ _ rfl rfl).is
    obtain⟨l1,x1,rfl,h1,w1⟩:=BQ (hp 6 _ _ rfl rfl)
    obtain⟨l2,x2,rfl,h2,w2⟩:=BQ (hp 7 _ _ rfl rfl)
    obtain⟨n1,a1,b1,rfl,ha1,k7,wa1,wb1⟩:=Fl (hp 8 _ _ rfl rfl)
    obtain⟨n2,a2,b2,rfl,Mh,mV,wa2,wb2⟩:=Fl (hp 9 _ _ rfl rfl)
    obtain⟨n3,a3,b3,rfl,ha3,CS,wa3,wb3⟩:=Fl (hp 10 _ _ rfl rfl)
    obtain⟨n4,a4,b4,rfl,ha4,hb4,wa4,wb4⟩:=Fl (hp 11 _ _ rfl rfl)
    obtain⟨e,nm,kd,rfl,he,yQ⟩:=afS (hp 12 _ _ rfl rfl)
    obtain⟨lv,k0,rfl,hv0,wv0⟩:=Kq (hp 13 _ _ rfl rfl)
    obtain⟨lo,hi,k1,k2,rfl,Gb,LL,wv1,wv2⟩:=R7 (hp 14 _ _ rfl rfl)
    obtain⟨u,v,w,T8,ch,k3,k4,rfl,hv3,hv4,wv3,wv4⟩:=afR (hp 15 _ _ rfl rfl)
    obtain⟨b,rfl⟩:=Ee (hp 16 _ _ rfl rfl).is
    obtain⟨ta,La,ya,rfl,Lg,fu,LG⟩:=(ih 17 _ _ rfl rfl).2 rfl
    obtain⟨tb,Lb,yb,rfl,K4,fc,hsw⟩:=(ih 18 _ _ rfl rfl).2 rfl
    exact⟨.mk ⟨⟨k,op,ln,cl,n,l1,l2⟩,r,t,n1,n2,n3,n4,e,lv,lo,hi,u,v,w,T8,ch,b⟩ ta tb,
     .mk ⟨⟨k,op,ln,cl,n,l1,l2⟩,r,t,n1,n2,n3,n4,e,lv,lo,hi,u,v,w,T8,ch,b⟩ ⟨x1,x2,a1,b1,a2,b2,a3,b3,a4,b4,nm,kd,k0,k1,k2,k3,k4,ya,yb⟩ ta tb La Lb
      ⟨h1,h2,ha1,k7,Mh,mV,ha3,CS,ha4,hb4,he,hv0,Gb,LL,hv3,hv4,Lg,K4⟩ fu fc,
     .mk _ _ _ ⟨w1,w2,wa1,wb1,wa2,wb2,wa3,wb3,wa4,wb4,yQ,wv0,wv1,wv2,wv3,wv4⟩ LG hsw⟩
  ·subst ht
   rw[Try.underlying34]at h
   cases h
 |fD h=>exact⟨fun ht=>(by subst ht;rw[Try.underlying65]at h;cases h),fun ht=>⟨[],[],_,rfl,.nil 0 rfl,.nil,by simp⟩⟩
 |sl h b hb L hm hw hL ih=>
  refine⟨fun ht=>(by subst ht;rw[Try.underlying65]at h;cases h),fun ht=>?_⟩
  subst ht
  rw[Try.underlying34]at h
  cases h
  rw[aap]at hb
  cases hb
  have key:∀(L:List (List D)),(∀x∈L,∃e:Qaa,ia e (.agg x)∧m9 e)→∃l:List Qaa,fH l (L.map (pack true))∧∀t∈l,m9 t:=by
   intro L
   induction L with
   |nil=>intro _;exact⟨[],.nil,by simp⟩
   |cons x L Dg=>
    intro h
    obtain⟨e,he,yQ⟩:=h x (by simp)
    obtain⟨l,h1,h2⟩:=Dg fun y hy=>h y (by simp[hy])
    refine⟨e::l,.cons _ _ _ _ he h1,fun k hk=>?_⟩
    rcases List.mem_cons.1 hk with rfl|hk
    ·exact yQ
    ·exact h2 k hk
  obtain⟨l,h1,h2⟩:=key L fun x hx=>(ih x hx).1 rfl
  refine⟨l,_,_,rfl,?_,h1,h2⟩
  rw[aaq]
  exact .ro
 |bool h=>exact⟨fun ht=>(by subst ht;rw[Try.underlying65]at h;cases h),fun ht=>(by subst ht;rw[Try.underlying34]at h;cases h)⟩
 |int h=>exact⟨fun ht=>(by subst ht;rw[Try.underlying65]at h;cases h),fun ht=>(by subst ht;rw[Try.underlying34]at h;cases h)⟩
 |str h=>exact⟨fun ht=>(by subst ht;rw[Try.underlying65]at h;cases h),fun ht=>(by subst ht;rw[Try.underlying34]at h;cases h)⟩
 |array h=>exact⟨fun ht=>(by subst ht;rw[Try.underlying65]at h;cases h),fun ht=>(by subst ht;rw[Try.underlying34]at h;cases h)⟩
theorem afT{xs:List D}(h:eE Try.prog 36 xs):∃t:ib,ud t (pack true xs)∧t.W:=by
 obtain⟨parts,rfl,hl,hp⟩:=h.uZ Try.underlying36
 match parts,hl,hp with
 |[q0,q1,q2],_,hp=>
  obtain⟨n,rfl⟩:=pG (hp 0 _ _ rfl rfl).is
  obtain⟨v,rfl⟩:=tm (hp 1 _ _ rfl rfl).is
  obtain⟨l,L,x,rfl,h1,h2,h3⟩:=(aaw (hp 2 _ _ rfl rfl)).2 rfl
  exact⟨⟨n,v,l⟩,.mk x L h1 h2,h3⟩
theorem ad6{xs:List D}(h:eE Try.prog 22 xs):∃(l:List ib) (L:List D) (x:D),xs=[x]∧aE 3 L x∧oI l L∧∀m∈l,m.W:=by
 rcases h.Er Try.underlying22 aar with rfl|⟨L,rfl,hm,hL⟩
 ·exact⟨[],[],_,rfl,.nil 0 rfl,⟨rfl,fun{i m}h=>by simp at h⟩,by simp⟩
 ·have key:∀(L:List (List D)),(∀x∈L,∃e:ib,ud e (pack true x)∧e.W)→∃l:List ib,oI l (L.map (pack true))∧∀m∈l,m.W:=by
   intro L
   induction L with
   |nil=>intro _;exact⟨[],⟨rfl,fun{i m}h=>by simp at h⟩,by simp⟩
   |cons x L Dg=>
    intro h
    obtain⟨e,he,yQ⟩:=h x (by simp)
    obtain⟨l,h1,h2⟩:=Dg fun y hy=>h y (by simp[hy])
    refine⟨e::l,⟨by simp[h1.len.symm],fun{i m}hi=>?_⟩,fun k hk=>?_⟩
    ·cases i with
     |zero=>simp at hi;subst hi;exact⟨_,rfl,he⟩
     |succ i=>exact h1.at_ (by simpa using hi)
    ·rcases List.mem_cons.1 hk with rfl|hk
     ·exact yQ
     ·exact h2 k hk
  obtain⟨l,h1,h2⟩:=key L fun x hx=>afT (hL x hx)
  refine⟨l,_,_,rfl,?_,h1,h2⟩
  rw[aas]
  exact .ro
end Go.Proofs.Ytimbllcalipehaa.Ab
