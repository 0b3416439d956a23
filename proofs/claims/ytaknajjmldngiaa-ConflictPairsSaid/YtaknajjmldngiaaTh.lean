/-
  THE SPECIFICATION OF SYMBOLS (layer 10): Block, Symbols.
-/
import Derived.Test.YtaknajjmldngiaaTg
set_option linter.unusedVariables false
set_option linter.unusedSimpArgs false
namespace Go.Proofs.Ytaknajjmldngiaa.Ab
open Go
set_option maxRecDepth 4000
set_option linter.unusedVariables false
theorem Sk(l:List ar):(bV (aI l)).map aa=bV (aI l):=by
 induction l with
 |nil=>rfl
 |cons s l ih=>rw[um,List.map_append,ih];rfl
theorem A5(k:Nat)(hk:k<6):∀(l:List ar)(j:Nat)(y:ar),l[j]? =some y→(bV (aI l))[j*6+k]? =((gL y).map SV.d)[k]?
 |[],j,y,h=>by simp at h
 |s::l,0,y,h=>by
  simp at h;subst h
  rw[um,Nat.zero_mul,Nat.zero_add,List.getElem?_append_left (by simp[gL];omega)]
 |s::l,j+1,y,h=>by
  rw[um,List.getElem?_append_right (by simp[gL];omega)]
  have:(j+1)*6+k-((gL s).map SV.d).length =j*6+k:=by simp[gL];omega
  rw[this]
  exact A5 k hk l j y (by simpa using h)
theorem Ks(n sz:Nat)(cs:List SV):bG (.ev n sz cs)=some (.d (.int .i64 n)):=rfl
theorem Ku(n sz:Nat)(cs:List SV):aa (.ev n sz cs)=.ev n sz cs:=rfl
theorem TE{n sz i:Nat}{cs:List SV}(h:i<n):aR sz (.ev n sz cs) (.d (.int .i64 (i:Int)))=some (.ref cs (i*sz)):=by
 simp only[aR,s6 h,if_true]
theorem Sl(cs:List SV)(o n:Nat):bD (.ref cs o) n=some (.ref cs (o+n)):=rfl
theorem TF(cs:List SV)(o:Nat):aF false 1 (.ref cs o)=(match cs[o]? with|some z=>some (aa z)|none=>none):=rfl
theorem PA(l:List ar)(hl:l.length≤maxLen)(k:Int)(n:List UInt8)(r:Bool):aD Try.prog gl 64 [.ev l.length 6 (bV (aI l)),.d (.int .i64 k),.d (.str n),.d (.bool r)] (.d (.int .i64 (qo k n r l))):=by
 refine dz bH (cM (fn:=Try.f64) (by kernel_rfl) (by kernel_rfl) (by kernel_rfl)) (h:=G9) ?_;rw[Lr];intro ct
 refine oE (fun i=>∀(j:Nat)z,j<i→l[j]? =some z→(z.kind==k&&(z.name==n&&z.bI==r))=false) (fun i=>[.ev l.length 6 (bV (aI l)),.d (.int .i64 k),.d (.str n),.d (.bool r),.d (.int .i64 ((i:Nat):Int))]) (fun i=>[]) l.length (fun j t hj=>by omega) (fun i hi hJ I hI=>?_) (fun hJ I=>?_)
 ·simp only[sS,sT,sZ,Ku,Ks]
  refine And.intro (fun _=>?_) (fun h=>absurd h (by simp;omega))
  obtain⟨z,hz⟩:=get_some hi
  have nx:(z.kind==k&&(z.name==n&&z.bI==r))=false→∀(j:Nat)z,j<i+1→l[j]? =some z→(z.kind==k&&(z.name==n&&z.bI==r))=false:=fun h j z' hj fh=>by
   rcases Nat.lt_or_ge j i with h2|h2
   ·exact hJ j z' h2 fh
   ·have:j=i:=by omega
    subst this
    rw[hz]at fh;cases fh;exact h
  have c0:=A5 0 (by decide) l i z hz
  have c1:=A5 1 (by decide) l i z hz
  have c2:=A5 2 (by decide) l i z hz
  have d0:((gL z).map SV.d)[0]? =some (.d (.int .i64 z.kind)):=rfl
  have d1:((gL z).map SV.d)[1]? =some (.d (.str z.name)):=rfl
  have d2:((gL z).map SV.d)[2]? =some (.d (.bool z.bI)):=rfl
  rw[d0]at c0
  rw[d1]at c1
  rw[d2]at c2
  rw[Nat.add_zero]at c0
  generalize bV (aI l)=cs at hI c0 c1 c2 ⊢
  simp only[TE hi,Tq,Sl,Nat.add_zero,TF,c0,c1,c2,sS,sT,sZ,tg,fa,JJ]
  refine And.intro (fun h1=>?_) (fun h1=>?_)
  ·refine And.intro (fun h2=>?_) (fun h2=>?_)
   ·refine And.intro (fun h3=>?_) (fun h3=>?_)
    ·rw[qo,wk hz (by rw[h1,h2,h3];rfl) hJ];rfl
    ·refine aZ (bg hi hl) ?_
     exact hI (nx (by rw[h3,Bool.and_false,Bool.and_false]))
   ·refine aZ (bg hi hl) ?_
    exact hI (nx (by rw[h2,Bool.false_and,Bool.and_false]))
  ·refine aZ (bg hi hl) ?_
   exact hI (nx (by rw[h1,Bool.false_and]))
 ·simp only[sS,sT,sZ,Ku,Ks]
  refine And.intro (fun h=>absurd h (by simp)) (fun _=>?_)
  rw[qo,wb fun j z hz=>hJ j z (List.getElem?_eq_some_iff.1 hz).1 hz]
  rfl
theorem JL(s:ar)(out:List ar):qo s.kind s.name true out=orM (u1 s out):=rfl
theorem Sn{W:List ar}{s:ar}(h:s∈W):s.perms.length≤iO W:=by
 obtain⟨i,hi⟩:=List.mem_iff_getElem?.1 h
 have h1:=CQ hi
 have h2:=Am W (i+1)
 omega
theorem stepR_skip{W out:List ar}{s:ar}(h:tx W s=true):oI W out s=out:=by rw[oI,if_pos h]
theorem DI{W out:List ar}{s:ar}(h:tx W s=false)(hn:s.bI=true→u1 s out=none):oI W out s=out++[s]:=by
 rw[oI,if_neg (by rw[h];simp)]
 cases hr:s.bI with
 |false=>simp
 |true=>rw[if_pos rfl,hn hr]
theorem Ri{W out:List ar}{s y:ar}{j:Nat}(h:tx W s=false)(hr:s.bI=true)(hq:u1 s out=some j)(hy:out[j]? =some y):oI W out s=out.set j (zZ y (jr y.perms s.perms)):=by
 rw[oI,if_neg (by rw[h];simp),if_pos hr,hq]
 simp only[hy]
def xl(l:List ar):SV:=match g7 [] l with
 |some (c,s)=>.dA [.d (.sl .nil 0 []),.d (.agg [.int .i64 c,.int .i64 s.line,.int .i64 s.b8,.str s.name])]
 |none=>.dA [aO 6 (aI (eV l l)),.d (.agg [.int .i64 0,.int .i64 0,.int .i64 0,.str []])]
theorem O8(aM:List dP){L:List D}{xs:D}(hx:bK 55 L xs)(hs:wU aM L)(hn:aM.length≤maxLen)(hl:(aM.flatMap bh).length ≤2^30)(hp:iO (aM.flatMap bh)≤2^30):
  aD Try.prog gl 52 [.d xs] (xl (aM.flatMap bh)):=by
 refine dz bH (cM (fn:=Try.f52) (by kernel_rfl) (by kernel_rfl) (by kernel_rfl)) (h:=NQ) ?_;rw[Ug];intro ct
 have eF:=Rf aM hx hs hn hl
 have z0:∀s∈aM.flatMap bh,s∈aM.flatMap bh∧DD s.perms:=fun s h=>⟨h,by obtain⟨t,_,ht⟩:=List.mem_flatMap.1 h;exact TD ht⟩
 generalize aM.flatMap bh=W at eF z0 hl hp ⊢
 have eO:W.length≤maxLen:=by simp only[maxLen];omega
 unfold Bq at eF
 unfold xl
 simp only[sS,sT,sZ]
 cases hc:g7 [] W with
 |some cs=>
  obtain⟨c,s⟩:=cs
  rw[hc]at eF
  refine call2 eF ?_
  have bm:=D1 W [] c s hc
  simp only[sS,sT,sZ,Ly,yh,yG,yH,yq,An,Bh,Nat.le_refl,true_and]
  refine And.intro (fun _=>?_) (fun h=>absurd h (by simp[bm]))
  first|rfl|exact⟨rfl,rfl⟩|trivial
 |none=>
  rw[hc]at eF
  refine call2 eF ?_
  simp only[sS,sT,sZ,Lz,yh,yG,yH,yq,An,Bh,Nat.le_refl,true_and,fF,Kj]
  refine And.intro (fun h=>absurd h (by simp)) (fun _=>?_)
  let fz:List SV:=[.d (.int .i64 0),.d (.int .i64 0),.d (.int .i64 0),.d (.str [])]
  refine eo (fun i=>[.d (cq 6 (aI W)),mP (rj W (W.take i)),.d (.int .i64 ((i:Nat):Int))]) (fun i=>[fz,fz]) W.length (fun i hi I hI=>?_) (fun I=>?_)
  ·simp only[sS,sT,sZ,(cn 6 (aI W)).len,eM]
   refine And.intro (fun _=>?_) (fun h=>absurd h (by simp;omega))
   obtain⟨s,gA⟩:=get_some hi
   have vS:=bg hi eO
   simp only[(cn 6 (aI W)).at (m9 gA),p7,ef,eD,fp,dH,fl,fm,fG,sS,sT,sZ]
   have rB:rj W (W.take (i+1))=oI W (rj W (W.take i)) s:=by rw[ez gA,rj,rj,List.foldl_append];rfl
   have heq:rj W (W.take i)=eV W (W.take i):=JK fun t ht=>z0 t (List.mem_of_mem_take ht)
   have hlen:=Dl W W i
   have xj:=CR W W i
   have Xx:=Am W i
   have kA:=Sn (List.mem_of_getElem? gA)
   rw[←heq]at hlen xj
   rw[rB]at hI
   generalize rj W (W.take i)=out at hI hlen xj ⊢
   refine qW [.d (cq 6 (aI W)),mP out,.d (.int .i64 (i:Int)),.d (.bool (tx W s))] [fz,fz,s.cells] (fun J hJ=>?_) ?_
   ·unfold tx at hJ
    refine And.intro (fun h1=>?_) (fun h1=>?_)
    ·refine bR (IX s) ?_
     simp only[sS,sT,sZ]
     refine And.intro (fun h2=>?_) (fun h2=>?_)
     ·rw[h1,h2]at hJ;exact hJ
     ·refine bR (IY W (cn 6 _) eO _ _ _) ?_
      rw[h1,h2,Bool.true_and,Bool.false_or]at hJ
      simp only[sS,sT,sZ]
      exact hJ
    ·rw[h1,Bool.false_and]at hJ;exact hJ
   simp only[sS,sT,sZ]
   refine And.intro (fun hk=>?_) (fun hk=>?_)
   ·rw[stepR_skip hk]at hI
    refine aZ vS ?_
    exact hI
   refine ya (fun bm=>?_) (fun he=>?_)
   ·simp only[fl,fm,fG,jj,dH,Sk,eM,sS,sT,sZ]
    refine bR (PA out (by simp only[maxLen];omega) _ _ _) ?_
    rw[JL]
    simp only[sS,sT,sZ]
    refine And.intro (fun hr=>?_) (fun hr=>?_)
    ·cases hq:u1 s out with
     |none=>
      simp only[orM,sS,sT,sZ]
      refine And.intro (fun h=>absurd h (by decide)) (fun _=>?_)
      simp only[s7,sX,dH,dZ,iR,eg,sS,sT,sZ]
      refine yb (by omega) ?_
      refine aZ vS ?_
      rw[DI hk (fun _=>hq)]at hI
      exact hI
     |some j=>
      obtain⟨y,hy,_⟩:=DC hq
      have hj:j<out.length:=(List.getElem?_eq_some_iff.1 hy).1
      have hyp:=xj y (List.mem_of_getElem? hy)
      rw[Ri hk hr hq hy]at hI
      simp only[orM,sS,sT,sZ]
      refine And.intro (fun _=>?_) (fun h=>absurd h (by simp))
      simp only[s6 hj,AT,DE out j y hy,jj,sS,sT,sZ]
      refine fQ (H6 y.perms s.perms (cn 1 _) (cn 1 _) (by omega) (by omega)) (jW _ _) ?_
      have hg:=sX (out.set j (zZ y (jr y.perms s.perms)))
      rw[List.length_set]at hg
      have bB:(bV (aI out)).set (j*6+3) (.d (cq 1 (bP (jr y.perms s.perms))))=bV (aI (out.set j (zZ y (jr y.perms s.perms)))):=D0 out j y (jr y.perms s.perms) hy
      simp only[fF,pR,s6 hj,sS,sT,sZ,Ei,gi]
      rw[bB]
      refine⟨by rw[DZ];omega,?_⟩
      simp only[s7,sS,sT,sZ]
      refine aZ hg ?_
      refine aZ vS ?_
      rw[Eh (by intro h;have h2:=congrArg List.length h;simp only[List.length_set,List.length_nil]at h2;omega)]at hI
      exact hI
    ·simp only[s7,sX,dH,dZ,iR,eg,sS,sT,sZ]
     refine yb (by omega) ?_
     refine aZ vS ?_
     rw[DI hk (fun h=>by rw[hr]at h;cases h)]at hI
     exact hI
   ·subst he
    simp only[fl,fm,fG,jj,dH,At,sS,sT,sZ]
    refine bR (IY [] (.nil wz rfl) (by decide) _ _ _) ?_
    have hq:u1 s []=none:=rfl
    rw[JL,hq]
    have cN:I [.d (cq 6 (aI W)),mP [s],.d (.int .i64 ((i+1:Nat):Int))] [fz,fz]:=by
     rw[DI hk (fun _=>hq)]at hI
     exact hI
    simp only[orM,sS,sT,sZ]
    refine And.intro (fun hr=>?_) (fun hr=>?_)
    ·refine And.intro (fun h=>absurd h (by decide)) (fun _=>?_)
     simp only[dH,dZ,iR,eg,sS,sT,sZ]
     refine xY ?_
     refine aZ vS ?_
     exact cN
    ·simp only[dH,dZ,iR,eg,sS,sT,sZ]
     refine xY ?_
     refine aZ vS ?_
     exact cN
  ·simp only[sS,sT,sZ,(cn 6 (aI W)).len,eM]
   refine And.intro (fun h=>absurd h (by simp)) (fun _=>?_)
   have heq:rj W (W.take W.length)=eV W W:=by rw[List.take_length];exact JK z0
   rw[heq]
   simp only[Kl,show aW []=some [] from rfl,CS,yh,yG,yH,yq,sS,sT,sZ]
   refine⟨Nat.le_refl 4,nI _ _,?_⟩
   exact And.intro rfl rfl
end Go.Proofs.Ytaknajjmldngiaa.Ab
namespace Go.Proofs.Ytaknajjmldngiaa.Ab
open Go
set_option maxRecDepth 4000
set_option linter.unusedVariables false
theorem OI{m:cQ}{d:D}(hd:pb m d)(hm:n7 m):aD Try.prog gl 37 [.d d] (xl m.syms):=by
 cases hd with
 |mk xs L hx hs=>
 refine dz bH (cM (fn:=Try.f37) (by kernel_rfl) (by kernel_rfl) (by kernel_rfl)) (h:=NL) ?_;rw[Uc];intro ct
 simp only[yc,zc,wq,sS,sT,sZ]
 have hB:=O8 m.aM hx hs (Nat.le_trans hm.n (by decide)) hm.l hm.p
 have e:m.aM.flatMap bh=m.syms:=rfl
 rw[e]at hB
 unfold xl at hB ⊢
 cases hc:g7 [] m.syms with
 |none=>
  simp only[hc]at hB ⊢
  refine call2 hB ?_
  simp only[qV,rQ,rn,ri,nI,sS,sT,sZ]
 |some p=>
  obtain⟨c,s⟩:=p
  simp only[hc]at hB ⊢
  refine call2 hB ?_
  simp only[qV,rQ,rn,ri,sS,sT,sZ]
def pO(t:dE):Int:=if t.st==20 then-1 else if t.st==23 then-2 else t.sym.kind
def dR(t:dE):ar:=⟨pO t,t.sym.name,t.sym.bI,t.sym.perms,t.sym.line,t.sym.b8⟩
theorem Av(k:Int):aD Try.prog gl 17 [.d (.int .i64 k)] (.d (.int .i64 (fO k))):=by
 refine dz bH (cM (fn:=Try.f17) (by kernel_rfl) (by kernel_rfl) (by kernel_rfl)) (h:=ND) ?_;rw[T5];intro ct
 simp only[fa,sS,sT,sZ]
 refine And.intro (fun h=>?_) (fun h=>?_)
 ·simp only[fO,h,if_true]
 ·simp only[fO,h,Bool.false_eq_true,if_false]
theorem Vc(q:List UInt8){l:List (List UInt8)}{i:Nat}{y:List UInt8}(h:l[i]? =some y):(l.take (i+1)).any (fun z=>z==q)=((l.take i).any (fun z=>z==q)||(y==q)):=by
 rw[ez h,List.any_append];simp
theorem So(l:List (List UInt8))(q:List UInt8):l.any (fun z=>z==q)=j6 q l:=by
 rw[Bool.eq_iff_iff,x6,List.any_eq_true]
 constructor
 ·rintro⟨x,hx,h⟩;rw[←(by simpa using h:x=q)];exact hx
 ·intro h;exact⟨q,h,by simp⟩
theorem H7{x y:D}{l n:List (List UInt8)}(hx:bK 1 (bP l) x)(hy:bK 1 (bP n) y)(hl:l.length≤maxLen)(hn:n.length≤maxLen):aD Try.prog gl 38 [.d x,.d y] (.d (.bool (lF l n))):=by
 refine dz bH (cM (fn:=Try.f38) (by kernel_rfl) (by kernel_rfl) (by kernel_rfl)) (h:=NM) ?_;rw[Ud];intro ct
 refine oE (fun i=>∀(j:Nat)q,j<i→n[j]? =some q→(!j6 q l)=false) (fun i=>[.d x,.d y,.d (.int .i64 ((i:Nat):Int))]) (fun i=>[]) n.length (fun j q hj _=>by omega) (fun i hi hJ I hI=>?_) (fun hJ I=>?_)
 ·simp only[sS,sT,sZ,hy.len,gY]
  refine And.intro (fun _=>?_) (fun h=>absurd h (by simp;omega))
  obtain⟨q,hq⟩:=get_some hi
  have Zu:(bP n)[i]? =some (.str q):=by rw[bP,List.getElem?_map,hq];rfl
  refine eo (fun k=>[.d x,.d y,.d (.int .i64 ((i:Nat):Int)),.d (.bool ((l.take k).any fun z=>z==q)),.d (.int .i64 ((k:Nat):Int))]) (fun k=>[]) l.length (fun k hk I1 bC=>?_) (fun I1=>?_)
  ·simp only[sS,sT,sZ,hx.len,gY]
   refine And.intro (fun _=>?_) (fun h=>absurd h (by simp;omega))
   obtain⟨z,hz⟩:=get_some hk
   have fh:(bP l)[k]? =some (.str z):=by rw[bP,List.getElem?_map,hz];rfl
   rw[Vc q hz]at bC
   refine And.intro (fun hf=>?_) (fun hf=>?_)
   ·rw[hf,Bool.true_or]at bC
    refine aZ (bg hk hl) ?_
    exact bC
   ·rw[hf,Bool.false_or]at bC
    simp only[hx.at fh,hy.at Zu,oH,tg,sS,sT,sZ]
    refine aZ (bg hk hl) ?_
    exact bC
  ·simp only[sS,sT,sZ,hx.len,gY]
   refine And.intro (fun h=>absurd h (by simp)) (fun _=>?_)
   rw[List.take_length,So]
   refine And.intro (fun h=>?_) (fun h=>?_)
   ·have:lF l n=true:=by
     rw[lF,List.any_eq_true]
     exact⟨q,List.mem_of_getElem? hq,h⟩
    rw[this]
   ·refine aZ (bg hi hn) ?_
    refine hI fun j q' hj Hs=>?_
    rcases Nat.lt_or_ge j i with h2|h2
    ·exact hJ j q' h2 Hs
    ·have:j=i:=by omega
     subst this
     rw[hq]at Hs;cases Hs;exact h
 ·simp only[sS,sT,sZ,hy.len,gY]
  refine And.intro (fun h=>absurd h (by simp)) (fun _=>?_)
  have:lF l n=false:=by
   rw[lF,List.any_eq_false]
   intro q hq
   obtain⟨j,hj⟩:=List.mem_iff_getElem?.1 hq
   simp[hJ j q (List.getElem?_eq_some_iff.1 hj).1 hj]
  rw[this]
def wB(a b:ar):Int:=
 if a.kind != b.kind then 13 else
 if !a.bI&& !b.bI then 12 else
 if a.kind==1&&(!a.bI&&lF a.perms b.perms)then 21 else
 if a.kind==1&&(!b.bI&&lF b.perms a.perms)then 21 else 0
theorem HJ(a b:ar)(ha:a.perms.length≤maxLen)(hb:b.perms.length≤maxLen):aD Try.prog gl 18 [.d a.enc,.d b.enc] (.d (.int .i64 (wB a b))):=by
 refine dz bH (cM (fn:=Try.f18) (by kernel_rfl) (by kernel_rfl) (by kernel_rfl)) (h:=NF) ?_;rw[T6];intro ct
 have qD:=H7 (cn 1 (bP a.perms)) (cn 1 (bP b.perms)) ha hb
 have zU:=H7 (cn 1 (bP b.perms)) (cn 1 (bP a.perms)) hb ha
 simp only[ef,eD,fl,fG,jj,p6,fa,kP,sS,sT,sZ]
 unfold wB
 generalize (a.kind != b.kind)=c3
 generalize (a.kind==1)=c4
 generalize lF a.perms b.perms=c5 at qD ⊢
 generalize lF b.perms a.perms=c6 at zU ⊢
 generalize a.bI=r1
 generalize b.bI=r2
 repeat' first
  |with_reducible refine And.intro (fun h=>?_) (fun h=>?_)
  |(with_reducible refine bR qD ?_;simp only[sS,sT,sZ])
  |(with_reducible refine bR zU ?_;simp only[sS,sT,sZ])
 all_goals (simp_all;done)
structure F0(t:dE):Prop where
 is:t.st=0∧0<t.sym.kind∨(t.st=20∨t.st=23)∧t.sym.kind=0∧t.sym.bI=false
theorem Br{k:Int}(h:0<k):0<fO k:=by unfold fO;split<;>omega
theorem xm{t:dE}(h:t.st=0):pO t=t.sym.kind:=by unfold pO;rw[h];rfl
theorem wX{t:dE}(h:t.st=20):pO t= -1:=by unfold pO;rw[h];rfl
theorem wY{t:dE}(h:t.st=23):pO t= -2:=by unfold pO;rw[h];rfl
theorem PB(c0 k3 k1 c5 c6 ra rb:Bool):(if(!c0)=true then(0:Int)else if(!k3)=true then 13 else if(!ra&& !rb)=true then 12 else if(ra==rb)=true then 0 else if(!k1)=true then 0 else if(ra&&c6||rb&&c5)=true then 21 else 0)=if(!c0)=true then 0 else if(!k3)=true then 13 else if(!ra&& !rb)=true then 12 else if(k1&&(!ra&&c5))=true then 21 else if(k1&&(!rb&&c6))=true then 21 else 0:=by
 cases c0<;>cases k3<;>cases k1<;>cases c5<;>cases c6<;>cases ra<;>cases rb<;>rfl
theorem JM{a b:dE}(ha:F0 a)(hb:F0 b):
  kO a b=if fO (pO a) != fO (pO b)then 0 else if a.sym.name != b.sym.name then 0 else wB (dR a) (dR b):=by
 have s1:fO (-1)= -1:=rfl
 have s2:fO (-2)= -2:=rfl
 have s3:fO 0=0:=rfl
 unfold kO wB dR
 simp only
 cases hn:(a.sym.name==b.sym.name)with
 |false=>simp[bne,hn]
 |true=>
  simp only[bne,hn,Bool.not_true,Bool.false_eq_true,if_false]
  rcases ha.is with⟨a1,a2⟩|⟨a1|a1,a2,a3⟩<;>rcases hb.is with⟨b1,b2⟩|⟨b1|b1,b2,b3⟩
  ·rw[xm a1,xm b1,a1,b1]
   simp only[beq_self_eq_true,Bool.true_and]
   exact PB _ _ _ _ _ _ _
  ·have:=Br a2;rw[xm a1,wX b1,a1,b1,s1,if_pos (by simp),if_pos (by simp;omega)]
  ·have:=Br a2;rw[xm a1,wY b1,a1,b1,s2,if_pos (by simp),if_pos (by simp;omega)]
  ·have:=Br b2;rw[wX a1,xm b1,a1,b1,s1,if_pos (by simp),if_pos (by simp;omega)]
  ·rw[wX a1,wX b1,a1,b1,a2,b2,a3,b3];rfl
  ·rw[wX a1,wY b1,a1,b1];rfl
  ·have:=Br b2;rw[wY a1,xm b1,a1,b1,s2,if_pos (by simp),if_pos (by simp;omega)]
  ·rw[wY a1,wX b1,a1,b1];rfl
  ·rw[wY a1,wY b1,a1,b1,a2,b2,a3,b3];rfl
theorem Sp{s:dP}{x:ar}(h:x∈bh s):0<x.kind:=by
 have hd:ff s.kind≠0→0<ff s.kind:=by
  unfold ff
  intro h
  repeat' first
   |omega
   |split at h
  all_goals simp_all
 unfold bh at h
 split at h
 ·rename_i h0
  have:=hd (by simpa using h0)
  rcases List.mem_cons.1 h with rfl|h
  ·exact this
  ·split at h
   ·obtain⟨a,_,rfl⟩:=List.mem_map.1 h
    exact this
   ·cases h
 ·split at h
  ·rename_i h0
   rcases List.mem_cons.1 h with rfl|h
   ·simp only[Bool.and_eq_true,beq_iff_eq]at h0
    show 0<s.op
    omega
   ·cases h
  ·split at h
   ·rename_i h0
    obtain⟨a,_,rfl⟩:=List.mem_map.1 h
    simp only[Bool.and_eq_true,decide_eq_true_eq]at h0
    show 0<s.op
    omega
   ·cases h
theorem Kv{all:List ar}:∀(l out:List ar),(∀s∈l,0<s.kind)→(∀s∈out,0<s.kind)→∀s∈l.foldl (m7 all) out,0<s.kind
 |[],out,_,h=>h
 |s::l,out,hl,h=>by
  rw[List.foldl_cons]
  refine Kv l _ (fun t ht=>hl t (by simp[ht])) fun t ht=>?_
  have hs:=hl s (by simp)
  unfold m7 at ht
  split at ht
  ·exact h t ht
  ·have app:t∈out++[s]→0<t.kind:=fun ht=>by
    rcases List.mem_append.1 ht with h2|h2
    ·exact h t h2
    ·rw[List.mem_singleton.1 h2];exact hs
   split at ht
   ·rename_i j _
    split at ht
    ·split at ht
     ·rename_i y hy
      rcases List.mem_or_eq_of_mem_set ht with h2|h2
      ·exact h t h2
      ·rw[h2];exact h y (List.mem_of_getElem? hy)
     ·exact h t ht
    ·exact app ht
   ·exact app ht
theorem Aw(m:cQ):∀t∈aL m,F0 t:=by
 intro t ht
 unfold aL kT at ht
 rcases List.mem_append.1 ht with h|h
 ·obtain⟨s,hs,rfl⟩:=List.mem_map.1 h
  split at hs
  ·refine⟨Or.inl ⟨rfl,?_⟩⟩
   refine Kv m.syms [] (fun s hs=>?_) (by simp) s hs
   obtain⟨st,_,h2⟩:=List.mem_flatMap.1 hs
   exact Sp h2
  ·cases hs
 ·obtain⟨s,hs,h⟩:=List.mem_flatMap.1 h
  unfold gN at h
  split at h
  ·rename_i hk
   rw[List.mem_singleton.1 h]
   exact⟨Or.inr ⟨by simpa using hk,rfl,rfl⟩⟩
  ·cases h
def eA(m:cQ):List ar:=(aL m).map dR
end Go.Proofs.Ytaknajjmldngiaa.Ab
namespace Go.Proofs.Ytaknajjmldngiaa.Ab
open Go
set_option maxRecDepth 4000
set_option linter.unusedVariables false
theorem TG(l:List ar):∃(c x y:Int) (n:List UInt8),xl l=.dA [aO 6 (aI (kT l)),.d (.agg [.int .i64 c,.int .i64 x,.int .i64 y,.str n])]:=by
 unfold xl kT
 cases g7 [] l with
 |some p=>exact⟨_,_,_,_,rfl⟩
 |none=>exact⟨_,_,_,_,rfl⟩
def lN(s:dP):List ar:=(gN s).map dR
theorem PC(m:cQ):eA m=kT m.syms++m.aM.flatMap lN:=by
 unfold eA aL
 rw[List.map_append,List.map_map,List.map_flatMap]
 congr 1
 exact List.map_id _
theorem Rj(k:Int)(n:List UInt8)(l c:Int):bY Try.prog 79 [(0,.int .i64 k),(1,.str n),(4,.agg [.int .i64 l,.int .i64 c])]=some (ar.enc ⟨k,n,false,[],l,c⟩):=by kernel_rfl
theorem D5(x y z:D)(i j k:Nat):aW [(i,.v (.d x)),(j,.v (.d y)),(k,.v (.d z))]=some [(i,x),(j,y),(k,z)]:=rfl
theorem Sq(l:List dP):(l.flatMap lN).length ≤l.length:=by
 have:=wu l
 have h:l.flatMap lN=(l.flatMap gN).map dR:=by rw[List.map_flatMap];rfl
 rw[h,List.length_map];exact this
theorem JN(l:List ar):(kT l).length ≤l.length:=by
 unfold kT
 split
 ·exact Dn l
 ·exact Nat.zero_le _
theorem HU{m:cQ}{d:D}(hd:pb m d)(hm:n7 m):aD Try.prog gl 16 [.d d] (aO 6 (aI (eA m))):=by
 have hS:=OI hd hm
 cases hd with
 |mk xs L hx hs=>
 refine dz bH (cM (fn:=Try.f16) (by kernel_rfl) (by kernel_rfl) (by kernel_rfl)) (h:=G7) ?_;rw[T4];intro ct
 have hn:m.aM.length≤maxLen:=Nat.le_trans hm.n (by decide)
 have n9:=hm.n
 have vn:=hm.l
 have hn3:=JN m.syms
 rw[PC]
 simp only[yc,zc,Ek,sS,sT,sZ]
 obtain⟨c,x,y,n,hb⟩:=TG m.syms
 rw[hb]at hS
 refine call2 hS ?_
 simp only[qV,rQ,rn,ri,sS,sT,sZ]
 rw[show aO 6 (aI (kT m.syms))=aO 6 (aI (kT m.syms++(m.aM.take 0).flatMap lN)) by simp]
 refine eo (fun i=>[aO 6 (aI (kT m.syms++(m.aM.take i).flatMap lN)),.d (.int .i64 ((i:Nat):Int))])
  (fun i=>[[.d (.str m.name),.d (.int .i64 m.nF),.d xs],[.d (.int .i64 c),.d (.int .i64 x),.d (.int .i64 y),.d (.str n)]]) m.aM.length (fun i hi I hI=>?_) (fun I=>?_)
 ·simp only[wq,hx.len,hs.len,sS,sT,sZ]
  refine And.intro (fun _=>?_) (fun h=>absurd h (by simp;omega))
  obtain⟨s,gA⟩:=get_some hi
  obtain⟨y,hy,bB,tI,pd,xB⟩:=hs.at_ i s gA
  have pI:=bB.load
  cases bB with
  |mk r5 r6 cP al rest sC dM gr=>
  simp only[hx.at hy,sS,sT,sZ,pI,fR,fb,sC]
  rw[xU (by simp[e8,sC])]
  simp only[gf,gZ,g5,fa,D5,dZ,Rj,iR,eg,sS,sT,sZ]
  have oo:(m.aM.take (i+1)).flatMap lN=(m.aM.take i).flatMap lN++lN s:=by rw[ez gA];simp
  rw[oo]at hI
  have hlen:=Sq (m.aM.take i)
  have L3:(m.aM.take i).length ≤i:=by simp;omega
  have Fb:(aI (kT m.syms++(m.aM.take i).flatMap lN)).length ≤2^31:=by rw[eM,List.length_append];omega
  rw[←List.append_assoc]at hI
  generalize kT m.syms++(m.aM.take i).flatMap lN=W at hI Fb ⊢
  have one:∀k,lN s=[⟨k,s.name,false,[],s.line,s.b8⟩]→bW 6 72 (aO 6 (aI W)) (.full 6 [ar.enc ⟨k,s.name,false,[],s.line,s.b8⟩]) (fun r=>ab (ah none .add (.d (.int .i64 ((i:Nat):Int))) (.d (.int .i64 1))) fun r2=>I [r,aa r2] [[.d (.str m.name),.d (.int .i64 m.nF),.d xs],[.d (.int .i64 c),.d (.int .i64 x),.d (.int .i64 y),.d (.str n)]]):=fun k hk=>by
   rw[hk]at hI
   refine iv (gX 6 _) (by simp only[List.length_singleton];omega) ?_
   refine aZ (bg hi hn) ?_
   rw[tc]
   exact hI
  refine And.intro (fun jQ=>?_) (fun jQ=>?_)
  ·refine one (-1) ?_
   simp only[lN,gN,jQ,Bool.true_or,if_true,List.map_cons,List.map_nil]
   rw[dR,pO]
   simp only[jQ,if_true]
  ·refine And.intro (fun mh=>?_) (fun mh=>?_)
   ·refine one (-2) ?_
    simp only[lN,gN,jQ,mh,Bool.or_true,if_true,List.map_cons,List.map_nil]
    rw[dR,pO]
    simp only[jQ,mh,Bool.false_eq_true,if_true,if_false]
   ·have hk:lN s=[]:=by
     simp only[lN,gN,jQ,mh,Bool.or_false,Bool.false_eq_true,if_false,List.map_nil]
    rw[hk,List.append_nil]at hI
    refine aZ (bg hi hn) ?_
    exact hI
 ·simp only[wq,hx.len,hs.len,sS,sT,sZ]
  refine And.intro (fun h=>absurd h (by simp)) (fun _=>?_)
  refine⟨nI _ _,?_⟩
  rw[List.take_length]
end Go.Proofs.Ytaknajjmldngiaa.Ab
namespace Go.Proofs.Ytaknajjmldngiaa.Ab
open Go
set_option maxRecDepth 4000
set_option linter.unusedVariables false
theorem pV(m:cQ):(aI (eA m)).length =(aL m).length :=by rw[eM,eA,List.length_map]
theorem A6{m:cQ}{i:Nat}{t:dE}(h:(aL m)[i]? =some t):(aI (eA m))[i]? =some (dR t).enc :=by simp[aI,eA,h]
theorem MF(x:D):bD (.aE x 0) 1=some (.aE x 1):=rfl
theorem MG(x:D):bD (.aE x 0) 4=some (.aE x 4):=rfl
theorem Kw(s:ar):aF false 1 (.aE s.enc 0)=some (.d (.int .i64 s.kind)):=rfl
theorem Kx(s:ar):aF false 1 (.aE s.enc 1)=some (.d (.str s.name)):=rfl
theorem Ky(s:ar):aF true 2 (.aE s.enc 4)=some (.d (.agg [.int .i64 s.line,.int .i64 s.b8])):=rfl
theorem JO(c:Int)(i k:Nat)(t u:dE):bY Try.prog 35 [(0,.int .i64 c),(1,.int .i64 (i:Int)),(2,.int .i64 (k:Int)),(3,.agg [.int .i64 (dR t).line,.int .i64 (dR t).b8]),(4,.agg [.int .i64 (dR u).line,.int .i64 (dR u).b8]),(5,.str (dR t).name)]=some (gC c i k t.sym.line t.sym.b8 u.sym.line u.sym.b8 t.sym.name):=DH ..
theorem OJ{l:List cQ}{L:List D}{x:D}(hx:bK 3 L x)(hl:wW l L)(Hi:l.length≤2^30)(hF:(ft l).length ≤2^40):aD Try.prog gl 9 [.d x] (aO 8 (ft l)):=by
 have hn:l.length≤maxLen:=Nat.le_trans Hi (by decide)
 have sL:∀(i:Nat)a,l[i]? =some a→∀t∈aL a,t.sym.perms.length≤maxLen:=fun i a ha=>by
  obtain⟨_,_,_,h⟩:=hl.at_ i a ha
  exact H5 h
 have zV:∀(i:Nat)a,l[i]? =some a→(aL a).length ≤maxLen:=fun i a ha=>by
  obtain⟨_,_,_,h⟩:=hl.at_ i a ha
  exact Nat.le_trans (IU h) (by decide)
 refine dz bH (cM (fn:=Try.f9) (by kernel_rfl) (by kernel_rfl) (by kernel_rfl)) (h:=h9) ?_;rw[VN];intro ct
 rw[show(SV.d (.sl .nil 0 []))=aO 8 (cE l 0) from rfl]
 refine eo (fun i=>[.d x,aO 8 (cE l i),.d (.int .i64 ((i:Nat):Int))]) (fun i=>[]) l.length (fun i hi I hI=>?_) (fun I=>?_)
 ·simp only[hx.len,hl.len,sS,sT,sZ]
  refine And.intro (fun _=>?_) (fun h=>absurd h (by simp;omega))
  obtain⟨a,ha⟩:=get_some hi
  have Hk:=D3 hi
  refine aZ (bg hi hn) ?_
  simp only[sS,sT,sZ]
  rw[show aO 8 (cE l i)=aO 8 (cE l i++cA l i (i+1)) by rw[Ao,List.append_nil]]
  refine eo (fun j=>[.d x,aO 8 (cE l i++cA l i (i+1+j)),.d (.int .i64 ((i:Nat):Int)),.d (.int .i64 ((i+1+j:Nat):Int))]) (fun j=>[]) (l.length-(i+1)) (fun j hj I1 bC=>?_) (fun I1=>?_)
  ·simp only[hx.len,hl.len,sS,sT,sZ]
   have hk:i+1+j<l.length:=by omega
   have nu:i<i+1+j:=by omega
   rw[show i+1+(j+1)=i+1+j+1 by omega]at bC
   generalize i+1+j=k at hk nu bC ⊢
   refine And.intro (fun _=>?_) (fun h=>absurd h (by simp;omega))
   obtain⟨b,hb⟩:=get_some hk
   have lL:=El nu hk ha hb
   rw[DG nu ha hb]at bC
   have zd:=zV i a ha
   have rR:=zV k b hb
   obtain⟨da,Hl,Cw,Zv⟩:=hl.at_ i a ha
   obtain⟨db,Hm,Cx,pE⟩:=hl.at_ k b hb
   have tW:=HU Cw Zv
   have MH:=HU Cx pE
   cases Cw with
   |mk xa La zz Zk=>
   cases Cx with
   |mk xb Lb Zl Gp=>
   simp only[hx.at Hl,hx.at Hm,B1,Ko,KW,KX,sS,sT,sZ]
   unfold mH tu at bC lL
   rw[←List.append_assoc,←List.append_assoc]at bC
   refine And.intro (fun om=>?_) (fun om=>?_)
   ·rw[if_pos om]at bC lL
    simp only[List.length_append,List.length_singleton]at lL
    have vP:=bC
    simp only[ta,JI,dZ,wM,eg,sS,sT,sZ]
    refine iv (gX 8 _) (by simp only[List.length_append,List.length_singleton];omega) ?_
    refine fQ tW (jW _ _) ?_
    refine fQ MH (jW _ _) ?_
    simp only[(cn 6 (aI (eA a))).len,pV,sS,sT,sZ,fF]
    rw[show aO 8 (cE l i++cA l i k++[gC 12 i k 0 0 0 0 a.name])=aO 8 (cE l i++cA l i k++[gC 12 i k 0 0 0 0 a.name]++((aL a).take 0).flatMap (xF i k (aL b))) by simp]
    refine eo (fun p=>[.d x,aO 8 (cE l i++cA l i k++[gC 12 i k 0 0 0 0 a.name]++((aL a).take p).flatMap (xF i k (aL b))),.d (.int .i64 ((i:Nat):Int)),.d (.int .i64 ((k:Nat):Int)),.d (cq 6 (aI (eA a))),.d (cq 6 (aI (eA b))),.d (.int .i64 ((p:Nat):Int))]) (fun p=>[]) (aL a).length (fun p hp I2 cN=>?_) (fun I2=>?_)
    ·simp only[(cn 6 (aI (eA a))).len,pV,sS,sT,sZ]
     refine And.intro (fun _=>?_) (fun h=>absurd h (by simp;omega))
     obtain⟨t,ht⟩:=get_some hp
     have sn:=sL i a ha t (List.mem_of_getElem? ht)
     have Ht:=Aw a t (List.mem_of_getElem? ht)
     have tO:=qO (f:=xF i k (aL b)) ht
     rw[show aO 8 (cE l i++cA l i k++[gC 12 i k 0 0 0 0 a.name]++((aL a).take p).flatMap (xF i k (aL b)))=aO 8 (cE l i++cA l i k++[gC 12 i k 0 0 0 0 a.name]++((aL a).take p).flatMap (xF i k (aL b))++((aL b).take 0).flatMap (yF i k t)) by simp]
     refine eo (fun q=>[.d x,aO 8 (cE l i++cA l i k++[gC 12 i k 0 0 0 0 a.name]++((aL a).take p).flatMap (xF i k (aL b))++((aL b).take q).flatMap (yF i k t)),.d (.int .i64 ((i:Nat):Int)),.d (.int .i64 ((k:Nat):Int)),.d (cq 6 (aI (eA a))),.d (cq 6 (aI (eA b))),.d (.int .i64 ((p:Nat):Int)),.d (.int .i64 ((q:Nat):Int))]) (fun q=>[]) (aL b).length (fun q hq I3 eQ=>?_) (fun I3=>?_)
     ·simp only[(cn 6 (aI (eA b))).len,pV,sS,sT,sZ]
      refine And.intro (fun _=>?_) (fun h=>absurd h (by simp;omega))
      obtain⟨u,hu⟩:=get_some hq
      have vQ:=sL k b hb u (List.mem_of_getElem? hu)
      have Hu:=Aw b u (List.mem_of_getElem? hu)
      have kG:=qO (f:=yF i k t) hu
      rw[ez hu,List.flatMap_append,←List.append_assoc]at eQ
      have mT:kO t u=if fO (dR t).kind != fO (dR u).kind then 0 else if(dR t).name != (dR u).name then 0 else wB (dR t) (dR u):=JM Ht Hu
      have skip:kO t u=0→ab (ah none .add (.d (.int .i64 ((q:Nat):Int))) (.d (.int .i64 1))) fun r=>I3 [.d x,aO 8 (cE l i++cA l i k++[gC 12 i k 0 0 0 0 a.name]++((aL a).take p).flatMap (xF i k (aL b))++((aL b).take q).flatMap (yF i k t)),.d (.int .i64 ((i:Nat):Int)),.d (.int .i64 ((k:Nat):Int)),.d (cq 6 (aI (eA a))),.d (cq 6 (aI (eA b))),.d (.int .i64 ((p:Nat):Int)),aa r] []:=fun h0=>by
       rw[List.flatMap_singleton,yF,if_pos h0,List.append_nil]at eQ
       refine aZ (bg hq rR) ?_
       exact eQ
      simp only[(cn 6 (aI (eA a))).at (A6 ht),(cn 6 (aI (eA b))).at (A6 hu),B1,MF,MG,p7,Kw,Kx,Ky,sS,sT,sZ]
      refine bR (Av (dR t).kind) ?_
      simp only[sS,sT,sZ]
      refine bR (Av (dR u).kind) ?_
      simp only[p6,uz,sS,sT,sZ]
      refine And.intro (fun hs=>?_) (fun hs=>?_)
      ·exact skip (by rw[mT,if_pos hs])
      rw[if_neg (by rw[hs];simp)]at mT
      refine And.intro (fun eP=>?_) (fun eP=>?_)<;>have eP:((dR t).name != (dR u).name)=_:=eP
      ·exact skip (by rw[mT,if_pos eP])
      rw[if_neg (by rw[eP];simp)]at mT
      refine bR (HJ (dR t) (dR u) sn vQ) ?_
      rw[←mT]
      simp only[p6,sS,sT,sZ]
      refine And.intro (fun hc=>?_) (fun hc=>?_)
      ·have pK:[u].flatMap (yF i k t)=[gC (kO t u) i k t.sym.line t.sym.b8 u.sym.line u.sym.b8 t.sym.name]:=by
        rw[List.flatMap_singleton,yF,if_neg (by simpa using hc)]
       rw[pK]at eQ
       simp only[AO,JO,dZ,wM,eg,sS,sT,sZ]
       refine iv (gX 8 _) (by simp only[List.length_append,List.length_singleton];simp only[xF]at tO ⊢;omega) ?_
       refine aZ (bg hq rR) ?_
       exact eQ
      ·exact skip (by simpa using hc)
     ·simp only[(cn 6 (aI (eA b))).len,pV,sS,sT,sZ]
      refine And.intro (fun h=>absurd h (by simp)) (fun _=>?_)
      refine aZ (bg hp zd) ?_
      rw[ez ht,List.flatMap_append,←List.append_assoc,List.flatMap_singleton]at cN
      rw[List.take_length]
      exact cN
    ·simp only[(cn 6 (aI (eA a))).len,pV,sS,sT,sZ]
     refine And.intro (fun h=>absurd h (by simp)) (fun _=>?_)
     refine aZ (bg hk hn) ?_
     rw[List.take_length]
     exact vP
   ·rw[if_neg (by rw[om];simp),List.append_nil]at bC
    rw[if_neg (by rw[om];simp)]at lL
    simp only[List.length_append,List.length_nil]at lL
    have vP:=bC
    refine fQ tW (jW _ _) ?_
    refine fQ MH (jW _ _) ?_
    simp only[(cn 6 (aI (eA a))).len,pV,sS,sT,sZ,fF]
    rw[show aO 8 (cE l i++cA l i k)=aO 8 (cE l i++cA l i k++((aL a).take 0).flatMap (xF i k (aL b))) by simp]
    refine eo (fun p=>[.d x,aO 8 (cE l i++cA l i k++((aL a).take p).flatMap (xF i k (aL b))),.d (.int .i64 ((i:Nat):Int)),.d (.int .i64 ((k:Nat):Int)),.d (cq 6 (aI (eA a))),.d (cq 6 (aI (eA b))),.d (.int .i64 ((p:Nat):Int))]) (fun p=>[]) (aL a).length (fun p hp I2 cN=>?_) (fun I2=>?_)
    ·simp only[(cn 6 (aI (eA a))).len,pV,sS,sT,sZ]
     refine And.intro (fun _=>?_) (fun h=>absurd h (by simp;omega))
     obtain⟨t,ht⟩:=get_some hp
     have sn:=sL i a ha t (List.mem_of_getElem? ht)
     have Ht:=Aw a t (List.mem_of_getElem? ht)
     have tO:=qO (f:=xF i k (aL b)) ht
     rw[show aO 8 (cE l i++cA l i k++((aL a).take p).flatMap (xF i k (aL b)))=aO 8 (cE l i++cA l i k++((aL a).take p).flatMap (xF i k (aL b))++((aL b).take 0).flatMap (yF i k t)) by simp]
     refine eo (fun q=>[.d x,aO 8 (cE l i++cA l i k++((aL a).take p).flatMap (xF i k (aL b))++((aL b).take q).flatMap (yF i k t)),.d (.int .i64 ((i:Nat):Int)),.d (.int .i64 ((k:Nat):Int)),.d (cq 6 (aI (eA a))),.d (cq 6 (aI (eA b))),.d (.int .i64 ((p:Nat):Int)),.d (.int .i64 ((q:Nat):Int))]) (fun q=>[]) (aL b).length (fun q hq I3 eQ=>?_) (fun I3=>?_)
     ·simp only[(cn 6 (aI (eA b))).len,pV,sS,sT,sZ]
      refine And.intro (fun _=>?_) (fun h=>absurd h (by simp;omega))
      obtain⟨u,hu⟩:=get_some hq
      have vQ:=sL k b hb u (List.mem_of_getElem? hu)
      have Hu:=Aw b u (List.mem_of_getElem? hu)
      have kG:=qO (f:=yF i k t) hu
      rw[ez hu,List.flatMap_append,←List.append_assoc]at eQ
      have mT:kO t u=if fO (dR t).kind != fO (dR u).kind then 0 else if(dR t).name != (dR u).name then 0 else wB (dR t) (dR u):=JM Ht Hu
      have skip:kO t u=0→ab (ah none .add (.d (.int .i64 ((q:Nat):Int))) (.d (.int .i64 1))) fun r=>I3 [.d x,aO 8 (cE l i++cA l i k++((aL a).take p).flatMap (xF i k (aL b))++((aL b).take q).flatMap (yF i k t)),.d (.int .i64 ((i:Nat):Int)),.d (.int .i64 ((k:Nat):Int)),.d (cq 6 (aI (eA a))),.d (cq 6 (aI (eA b))),.d (.int .i64 ((p:Nat):Int)),aa r] []:=fun h0=>by
       rw[List.flatMap_singleton,yF,if_pos h0,List.append_nil]at eQ
       refine aZ (bg hq rR) ?_
       exact eQ
      simp only[(cn 6 (aI (eA a))).at (A6 ht),(cn 6 (aI (eA b))).at (A6 hu),B1,MF,MG,p7,Kw,Kx,Ky,sS,sT,sZ]
      refine bR (Av (dR t).kind) ?_
      simp only[sS,sT,sZ]
      refine bR (Av (dR u).kind) ?_
      simp only[p6,uz,sS,sT,sZ]
      refine And.intro (fun hs=>?_) (fun hs=>?_)
      ·exact skip (by rw[mT,if_pos hs])
      rw[if_neg (by rw[hs];simp)]at mT
      refine And.intro (fun eP=>?_) (fun eP=>?_)<;>have eP:((dR t).name != (dR u).name)=_:=eP
      ·exact skip (by rw[mT,if_pos eP])
      rw[if_neg (by rw[eP];simp)]at mT
      refine bR (HJ (dR t) (dR u) sn vQ) ?_
      rw[←mT]
      simp only[p6,sS,sT,sZ]
      refine And.intro (fun hc=>?_) (fun hc=>?_)
      ·have pK:[u].flatMap (yF i k t)=[gC (kO t u) i k t.sym.line t.sym.b8 u.sym.line u.sym.b8 t.sym.name]:=by
        rw[List.flatMap_singleton,yF,if_neg (by simpa using hc)]
       rw[pK]at eQ
       simp only[AO,JO,dZ,wM,eg,sS,sT,sZ]
       refine iv (gX 8 _) (by simp only[List.length_append,List.length_singleton];simp only[xF]at tO ⊢;omega) ?_
       refine aZ (bg hq rR) ?_
       exact eQ
      ·exact skip (by simpa using hc)
     ·simp only[(cn 6 (aI (eA b))).len,pV,sS,sT,sZ]
      refine And.intro (fun h=>absurd h (by simp)) (fun _=>?_)
      refine aZ (bg hp zd) ?_
      rw[ez ht,List.flatMap_append,←List.append_assoc,List.flatMap_singleton]at cN
      rw[List.take_length]
      exact cN
    ·simp only[(cn 6 (aI (eA a))).len,pV,sS,sT,sZ]
     refine And.intro (fun h=>absurd h (by simp)) (fun _=>?_)
     refine aZ (bg hk hn) ?_
     rw[List.take_length]
     exact vP
  ·simp only[hx.len,hl.len,sS,sT,sZ]
   refine And.intro (fun h=>absurd h (by simp;omega)) (fun _=>?_)
   refine aZ (bg hi hn) ?_
   rw[show i+1+(l.length-(i+1))=l.length by omega,←Dp]
   exact hI
 ·simp only[hx.len,hl.len,sS,sT,sZ]
  refine And.intro (fun h=>absurd h (by simp)) (fun _=>?_)
  exact⟨nI _ _,rfl⟩
end Go.Proofs.Ytaknajjmldngiaa.Ab
namespace Go.Proofs.Ytaknajjmldngiaa.Ab
open Go
set_option maxRecDepth 4000
set_option linter.unusedVariables false
def jV(l:List (List UInt8)):Bool:=decide (l.length≤40)&&l.all fun s=>decide (s.length≤300)
theorem uo{l:List (List UInt8)}{x:SV}(h:eN 1 (bP l) x):aD Try.prog gl 19 [x] (.d (.bool (jV l))):=by
 refine dz bH (cM (fn:=Try.f19) (by kernel_rfl) (by kernel_rfl) (by kernel_rfl)) (h:=zK) ?_;rw[T7];intro ct
 by_cases Co:l.length≤40
 ·have hl:l.length≤maxLen:=Nat.le_trans Co (by decide)
  refine oE (fun i=>∀(j:Nat)s,j<i→l[j]? =some s→decide (s.length≤300)=true) (fun i=>[x,.d (.int .i64 ((i:Nat):Int))]) (fun i=>[]) l.length (fun j s hj _=>by omega) (fun i hi hJ I hI=>?_) (fun hJ I=>?_)
  ·simp only[sS,sT,sZ,h.cF,h.len,gY]
   refine And.intro (fun _=>?_) (fun h=>absurd h (by simp;omega))
   refine And.intro (fun _=>?_) (fun h=>absurd h (by simp;omega))
   obtain⟨s,hs⟩:=get_some hi
   simp only[h.at (uA hs),oH,wm,sS,sT,sZ]
   refine And.intro (fun hb=>?_) (fun hb=>?_)
   ·have:jV l=false:=by
     rw[jV,Bool.and_eq_false_iff]
     right
     rw[List.all_eq_false]
     exact⟨s,List.mem_of_getElem? hs,by simp at hb ⊢;omega⟩
    rw[this]
   ·refine aZ (bg hi hl) ?_
    refine hI fun j s' hj ew=>?_
    rcases Nat.lt_or_ge j i with h2|h2
    ·exact hJ j s' h2 ew
    ·have:j=i:=by omega
     subst this
     rw[hs]at ew;cases ew
     simp at hb ⊢;omega
  ·simp only[sS,sT,sZ,h.cF,h.len,gY]
   refine And.intro (fun h=>absurd h (by simp)) (fun _=>?_)
   have:jV l=true:=by
    rw[jV,Bool.and_eq_true]
    refine⟨decide_eq_true Co,?_⟩
    rw[List.all_eq_true]
    intro s hs
    obtain⟨j,hj⟩:=List.mem_iff_getElem?.1 hs
    exact hJ j s (List.getElem?_eq_some_iff.1 hj).1 hj
   rw[this]
   have h2:decide ((l.length:Int)≤40)=true:=decide_eq_true (by omega)
   rw[h2]
 ·have:jV l=false:=by rw[jV,decide_eq_false Co];rfl
  have h2:decide ((l.length:Int)≤40)=false:=decide_eq_false (by omega)
  rw[this]
  refine eo (fun i=>[x,.d (.int .i64 ((i:Nat):Int))]) (fun i=>[]) 0 (fun i hi=>absurd hi (by omega)) (fun I=>?_)
  simp only[sS,sT,sZ,h.cF,h.len,gY,h2]
  refine And.intro (fun _=>?_) (fun h=>?_)
  ·exact And.intro (fun h=>absurd h (by simp)) (fun _=>trivial)
  ·have:=of_decide_eq_false h
   omega
theorem LB{l:List (List UInt8)}(h:jV l=true):l.length≤40:=by
 rw[jV,Bool.and_eq_true]at h;simpa using h.1
theorem Ax{l m:List (List UInt8)}{a b c x y:D}(hx:bK 1 (bP l) x)(hy:bK 1 (bP m) y):aD Try.prog gl 20 [.d (.agg [a,b,c,x,y])] (.d (.bool (jV l&&jV m))):=by
 refine dz bH (cM (fn:=Try.f20) (by kernel_rfl) (by kernel_rfl) (by kernel_rfl)) (h:=jQ) ?_;rw[T8];intro ct
 have c5:aA (.d (.agg [a,b,c,x,y]))=some [.d a,.d b,.d c,.d x,.d y]:=rfl
 have l5:[SV.d a,.d b,.d c,.d x,.d y].length =5:=rfl
 have p3:ag false 1 3 [SV.d a,.d b,.d c,.d x,.d y]=some (.d x):=rfl
 have p4:ag false 1 4 [SV.d a,.d b,.d c,.d x,.d y]=some (.d y):=rfl
 simp only[c5,l5,p3,p4,sS,sT,sZ]
 refine bR (uo hx.sv) ?_
 simp only[sS,sT,sZ]
 refine And.intro (fun h=>?_) (fun h=>?_)
 ·refine bR (uo hy.sv) ?_
  simp only[h,Bool.true_and,sS,sT,sZ]
 ·simp only[h,Bool.false_and,sS,sT,sZ]
def Og(r:SV):Prop:=∃b:Bool,r=.d (.bool b)
theorem iS(b:Bool):Og (.d (.bool b)):=⟨b,rfl⟩
theorem Bs{P:SV→Prop}(h:∃r,Og r∧P r):∃b:Bool,P (.d (.bool b)):=by
 obtain⟨r,⟨b,rfl⟩,h⟩:=h
 exact⟨b,h⟩
def uM(L:List D):Prop:=∀(i:Nat)y,L[i]? =some y→∃s t:List UInt8,y=.agg [.str s,.str t]
theorem D6{a b:List UInt8}{c1 c2:D}{L1 L2:List D}(h1:bK 2 L1 c1)(p1:uM L1)(h2:bK 2 L2 c2)(p2:uM L2):∃b':Bool,aD Try.prog gl 22 [.d (.agg [.str a,c1,.str b,c2])] (.d (.bool b')):=by
 refine Bs (sV bH (cM (fn:=Try.f22) (by kernel_rfl) (by kernel_rfl) (by kernel_rfl)) ⟨_,iS true⟩ (h:=NG) ?_)
 rw[T9];intro ct
 have c4:aA (.d (.agg [.str a,c1,.str b,c2]))=some [.d (.str a),.d c1,.d (.str b),.d c2]:=rfl
 have l4:[SV.d (.str a),.d c1,.d (.str b),.d c2].length =4:=rfl
 have p0:ag true 2 0 [SV.d (.str a),.d c1,.d (.str b),.d c2]=some (.d (.agg [.str a,c1])):=rfl
 have Zw:ag true 2 2 [SV.d (.str a),.d c1,.d (.str b),.d c2]=some (.d (.agg [.str b,c2])):=rfl
 have f2:bO 2 2 [(0,.agg [.str a,c1]),(1,.agg [.str b,c2])]=true:=rfl
 have e2:bL (bN true [.str [],.sl .nil 0 []]) [(0,.agg [.str a,c1]),(1,.agg [.str b,c2])] 2 0=[.agg [.str a,c1],.agg [.str b,c2]]:=rfl
 simp only[c4,l4,p0,Zw,qU,f2,e2,sS,sT,sZ]
 have hS:eN 2 [.agg [.str a,c1],.agg [.str b,c2]] (.full 2 [.agg [.str a,c1],.agg [.str b,c2]]):=.full
 have kC:∀i:Nat,i<2→∃(s:List UInt8) (c:D) (L:List D),[D.agg [.str a,c1],.agg [.str b,c2]][i]? =some (.agg [.str s,c])∧bK 2 L c∧uM L:=fun i hi=>by
  match i,hi with
  |0,_=>exact⟨a,c1,L1,rfl,h1,p1⟩
  |1,_=>exact⟨b,c2,L2,rfl,h2,p2⟩
 generalize SV.full 2 [.agg [.str a,c1],.agg [.str b,c2]]=X at hS ⊢
 generalize [SV.d (.str a),.d c1,.d (.str b),.d c2]=Y
 generalize [D.agg [.str a,c1],.agg [.str b,c2]]=E at hS kC
 refine eo (fun i=>[X,.d (.int .i64 ((i:Nat):Int))]) (fun i=>[Y]) 2 (fun i hi I hI=>?_) (fun I=>?_)
 ·obtain⟨s,c,L,he,hc,kA⟩:=kC i hi
  have o0:bD (.aE (.agg [.str s,c]) 0) 0=some (.aE (.agg [.str s,c]) 0):=rfl
  have o1:bD (.aE (.agg [.str s,c]) 0) 1=some (.aE (.agg [.str s,c]) 1):=rfl
  have d0:aF false 1 (.aE (.agg [.str s,c]) 0)=some (.d (.str s)):=rfl
  have d1:aF false 1 (.aE (.agg [.str s,c]) 1)=some (.d c):=rfl
  simp only[hS.cF,hS.at he,o0,o1,d0,d1,wm,hc.len,sS,sT,sZ]
  refine And.intro (fun _=>?_) (fun h=>absurd h (by simp;omega))
  refine And.intro (fun _=>iS _) (fun _=>?_)
  refine And.intro (fun _=>iS _) (fun nG=>?_)
  have hL:L.length≤70:=by simp at nG;omega
  refine eo (fun k=>[X,.d (.int .i64 ((i:Nat):Int)),.d (.int .i64 ((k:Nat):Int))]) (fun i=>[Y]) L.length (fun k hk I1 bC=>?_) (fun I1=>?_)
  ·simp only[hS.cF,hS.at he,o0,o1,d0,d1,wm,hc.len,sS,sT,sZ]
   refine And.intro (fun _=>?_) (fun h=>absurd h (by simp;omega))
   obtain⟨y,hy⟩:=get_some hk
   obtain⟨u,v,rfl⟩:=kA k y hy
   have q0:bD (.aE (.agg [.str u,.str v]) 0) 0=some (.aE (.agg [.str u,.str v]) 0):=rfl
   have q1:bD (.aE (.agg [.str u,.str v]) 0) 1=some (.aE (.agg [.str u,.str v]) 1):=rfl
   have r0:aF false 1 (.aE (.agg [.str u,.str v]) 0)=some (.d (.str u)):=rfl
   have r1:aF false 1 (.aE (.agg [.str u,.str v]) 1)=some (.d (.str v)):=rfl
   simp only[hc.at hy,q0,q1,r0,r1,wm,sS,sT,sZ]
   refine And.intro (fun _=>iS _) (fun _=>?_)
   refine And.intro (fun _=>iS _) (fun _=>?_)
   refine aZ (bg hk (Nat.le_trans hL (by decide))) ?_
   exact bC
  ·simp only[hS.cF,hS.at he,o0,o1,d0,d1,wm,hc.len,sS,sT,sZ]
   refine And.intro (fun h=>absurd h (by simp)) (fun _=>?_)
   refine aZ (bg hi (by decide)) ?_
   exact hI
 ·simp only[sS,sT,sZ]
  refine And.intro (fun h=>absurd h (by decide)) (fun _=>?_)
  first|exact iS _|exact⟨rfl,iS _⟩
theorem Sr{u r t a b:List UInt8}{c1 c2:D}{L1 L2:List D}(h1:bK 2 L1 c1)(p1:uM L1)(h2:bK 2 L2 c2)(p2:uM L2):∃b':Bool,aD Try.prog gl 23 [.d (.agg [.str u,.str r,.str t,.str a,c1,.str b,c2])] (.d (.bool b')):=by
 refine Bs (sV bH (cM (fn:=Try.f23) (by kernel_rfl) (by kernel_rfl) (by kernel_rfl)) ⟨_,iS true⟩ (h:=mh) ?_)
 rw[Ua];intro ct
 obtain⟨b',hR⟩:=D6 (a:=a) (b:=b) h1 p1 h2 p2
 have c7:aA (.d (.agg [.str u,.str r,.str t,.str a,c1,.str b,c2]))=some [.d (.str u),.d (.str r),.d (.str t),.d (.str a),.d c1,.d (.str b),.d c2]:=rfl
 have l7:[SV.d (.str u),.d (.str r),.d (.str t),.d (.str a),.d c1,.d (.str b),.d c2].length =7:=rfl
 have p0:ag false 1 0 [SV.d (.str u),.d (.str r),.d (.str t),.d (.str a),.d c1,.d (.str b),.d c2]=some (.d (.str u)):=rfl
 have p1:ag false 1 1 [SV.d (.str u),.d (.str r),.d (.str t),.d (.str a),.d c1,.d (.str b),.d c2]=some (.d (.str r)):=rfl
 have p2:ag false 1 2 [SV.d (.str u),.d (.str r),.d (.str t),.d (.str a),.d c1,.d (.str b),.d c2]=some (.d (.str t)):=rfl
 have p3:ag true 4 3 [SV.d (.str u),.d (.str r),.d (.str t),.d (.str a),.d c1,.d (.str b),.d c2]=some (.d (.agg [.str a,c1,.str b,c2])):=rfl
 have f3:bO 1 3 [(0,.str u),(1,.str r),(2,.str t)]=true:=rfl
 have e3:bL (bN false [.str []]) [(0,.str u),(1,.str r),(2,.str t)] 3 0=bP [u,r,t]:=rfl
 simp only[c7,l7,p0,p1,p2,p3,D5,f3,e3,sS,sT,sZ]
 refine bR (uo .full) ?_
 simp only[sS,sT,sZ]
 refine And.intro (fun _=>?_) (fun _=>?_)
 ·refine bR hR ?_
  simp only[sS,sT,sZ]
  first|exact iS _|exact⟨rfl,iS _⟩
 ·first|exact iS _|exact⟨rfl,iS _⟩
theorem Ss:∀(n:Nat)(k:Int),-1≤k→k≤n→n≤100→∀(e:Xp)(d:D),jy e d→∃b:Bool,aD Try.prog gl 21 [.d d,.d (.int .i64 k)] (.d (.bool b)):=by
 intro n
 induction n with
 |zero=>
  intro k Hv hk hn e d he
  refine Bs (sV bH (cM (fn:=Try.f21) (by kernel_rfl) (by kernel_rfl) (by kernel_rfl)) ⟨_,iS true⟩ (h:=G8) ?_)
  rw[Lq];intro ct
  cases he with
  |mk op a rel b names w l nm x L hn dM dj hd=>
  have Hw:∀a0 a1 a2 a3 a4 a5 a6 a7 a8 a9:D,aA (.d (.agg [a0,a1,a2,a3,a4,a5,a6,a7,a8,a9]))=some [.d a0,.d a1,.d a2,.d a3,.d a4,.d a5,.d a6,.d a7,.d a8,.d a9]:=fun _ _ _ _ _ _ _ _ _ _=>rfl
  have Hx:∀a0 a1 a2 a3 a4 a5 a6 a7 a8 a9:SV,[a0,a1,a2,a3,a4,a5,a6,a7,a8,a9].length =10:=fun _ _ _ _ _ _ _ _ _ _=>rfl
  simp only[pG,Hw,Hx,sS,sT,sZ]
  refine And.intro (fun _=>iS _) (fun h=>absurd h (by simp;omega))
 |succ n ih=>
  intro k Hv hk hn e d he
  refine Bs (sV bH (cM (fn:=Try.f21) (by kernel_rfl) (by kernel_rfl) (by kernel_rfl)) ⟨_,iS true⟩ (h:=G8) ?_)
  rw[Lq];intro ct
  cases he with
  |mk op a rel b names w l nm x L kF dM dj hd=>
  have Hw:∀a0 a1 a2 a3 a4 a5 a6 a7 a8 a9:D,aA (.d (.agg [a0,a1,a2,a3,a4,a5,a6,a7,a8,a9]))=some [.d a0,.d a1,.d a2,.d a3,.d a4,.d a5,.d a6,.d a7,.d a8,.d a9]:=fun _ _ _ _ _ _ _ _ _ _=>rfl
  have Hx:∀a0 a1 a2 a3 a4 a5 a6 a7 a8 a9:SV,[a0,a1,a2,a3,a4,a5,a6,a7,a8,a9].length =10:=fun _ _ _ _ _ _ _ _ _ _=>rfl
  have p4:∀a0 a1 a2 a3 a4 a5 a6 a7 a8 a9:SV,ag false 1 4 [a0,a1,a2,a3,a4,a5,a6,a7,a8,a9]=some a4:=fun _ _ _ _ _ _ _ _ _ _=>rfl
  have p9:∀a0 a1 a2 a3 a4 a5 a6 a7 a8 a9:SV,ag false 1 9 [a0,a1,a2,a3,a4,a5,a6,a7,a8,a9]=some a9:=fun _ _ _ _ _ _ _ _ _ _=>rfl
  simp only[pG,Hw,Hx,p4,p9,hd.len,dM,sS,sT,sZ]
  refine And.intro (fun _=>iS _) (fun h0=>?_)
  have jw:0<k:=by simp at h0;omega
  refine And.intro (fun _=>iS _) (fun h4=>?_)
  have hL:l.length≤4:=by simp at h4;omega
  refine bR (uo kF.sv) ?_
  simp only[sS,sT,sZ]
  refine And.intro (fun _=>iS _) (fun _=>?_)
  refine eo (fun i=>[.d (.int .i64 k),.d (.int .i64 ((i:Nat):Int))]) (fun i=>[_]) l.length (fun i hi I hI=>?_) (fun I=>?_)
  ·simp only[p9,hd.len,dM,sS,sT,sZ]
   refine And.intro (fun _=>?_) (fun h=>absurd h (by simp;omega))
   obtain⟨e',Cz⟩:=get_some hi
   obtain⟨y,hy⟩:=get_some (l:=L) (i:=i) (by omega)
   have Oh:=dj i e' y Cz hy
   obtain⟨b',di⟩:=ih (k-1) (by omega) (by omega) (by omega) e' y Oh
   have pI:aF true 10 (.aE y 0)=some (.d y):=by cases Oh with|mk=>rfl
   simp only[hd.at hy,pI,Kh (show-1000000<k by omega) (show k<1000000 by omega),sS,sT,sZ]
   refine bR di ?_
   simp only[sS,sT,sZ]
   refine And.intro (fun _=>iS _) (fun _=>?_)
   refine aZ (bg hi (Nat.le_trans hL (by decide))) ?_
   exact hI
  ·simp only[p9,hd.len,dM,sS,sT,sZ]
   refine And.intro (fun h=>absurd h (by simp)) (fun _=>?_)
   first|exact iS _|exact⟨rfl,iS _⟩
end Go.Proofs.Ytaknajjmldngiaa.Ab
namespace Go.Proofs.Ytaknajjmldngiaa.Ab
open Go
set_option maxRecDepth 4000
set_option linter.unusedVariables false
structure Oi where
 (a b c x y:D)
 (l m:List (List UInt8))
 (hx:bK 1 (bP l) x)
 (hy:bK 1 (bP m) y)
structure z1 where
 (s:List UInt8)
 (c:D)
 (L:List D)
 (h:bK 2 L c)
 (p:uM L)
structure Oj where
 (c0 c1 c2 c3 c4 c5 c6 c7 c8 c9:D)
 (e:Xp)
 (h:jy e (.agg [c0,c1,c2,c3,c4,c5,c6,c7,c8,c9]))
structure gD where
 s:dP
 (r t:List UInt8)
 (cP al:D)
 (hl:bK 1 (bP s.list) cP)
 (ha:bK 1 (bP s.iH) al)
 (n1 n2 n3 n4:Oi)
 x:Oj
 (lv lo hi:z1)
 (u v w:List UInt8)
 (cl ch:z1)
 val:Bool
 (th el:D)
 (Hj:Is Try.prog 28 [th])
 (kC:Is Try.prog 28 [el])
def gD.rest(s:gD):List D:=[s.n1.a,s.n1.b,s.n1.c,s.n1.x,s.n1.y,s.n2.a,s.n2.b,s.n2.c,s.n2.x,s.n2.y,s.n3.a,s.n3.b,s.n3.c,s.n3.x,s.n3.y,s.n4.a,s.n4.b,s.n4.c,s.n4.x,s.n4.y,
 s.x.c0,s.x.c1,s.x.c2,s.x.c3,s.x.c4,s.x.c5,s.x.c6,s.x.c7,s.x.c8,s.x.c9,.str s.lv.s,s.lv.c,.str s.lo.s,s.lo.c,.str s.hi.s,s.hi.c,.str s.u,.str s.v,.str s.w,.str s.cl.s,s.cl.c,.str s.ch.s,s.ch.c,.bool s.val,s.th,s.el]
def gD.enc(s:gD):D:=.agg (vM s.s (.str s.r) (.str s.t) s.cP s.al s.rest)
theorem gD.is(s:gD):rO s.s s.enc:=.mk _ _ _ _ _ rfl s.hl s.ha
theorem BJ{xs:List D}(h:Is Try.prog 39 xs):∃t:Oi,xs=[t.a,t.b,t.c,t.x,t.y]:=by
 obtain⟨parts,rfl,hl,hp⟩:=h.sU Try.underlying39
 match parts,hl,hp with
 |[q0,q1,q2,q3,q4],_,hp=>
  obtain⟨b0,rfl⟩:=AX (hp 0 _ _ rfl rfl)
  obtain⟨b1,rfl⟩:=AX (hp 1 _ _ rfl rfl)
  obtain⟨b2,rfl⟩:=AX (hp 2 _ _ rfl rfl)
  obtain⟨l,x,rfl,hx⟩:=yg (hp 3 _ _ rfl rfl)
  obtain⟨m,y,rfl,hy⟩:=yg (hp 4 _ _ rfl rfl)
  exact⟨⟨.bool b0,.bool b1,.bool b2,x,y,l,m,hx,hy⟩,rfl⟩
theorem Vd:cZ Try.prog 134=some true:=by kernel_rfl
theorem Ve:Try.prog.cellsOf 134=2:=by kernel_rfl
theorem Wm{xs:List D}(h:Is Try.prog 134 xs):∃s t:List UInt8,xs=[.str s,.str t]:=by
 obtain⟨parts,rfl,hl,hp⟩:=h.sU Try.underlying134
 match parts,hl,hp with
 |[q0,q1],_,hp=>
  obtain⟨s,rfl⟩:=oM (hp 0 _ _ rfl rfl)
  obtain⟨t,rfl⟩:=oM (hp 1 _ _ rfl rfl)
  exact⟨s,t,rfl⟩
theorem Vf{xs:List D}(h:Is Try.prog 46 xs):∃(L:List D) (x:D),xs=[x]∧bK 2 L x∧uM L:=by
 rcases h.yn Try.underlying46 Vd with rfl|⟨L,rfl,hm,hL⟩
 ·exact⟨[],_,rfl,.nil 0 rfl,fun i y h=>by simp at h⟩
 ·refine⟨L.map (pack true),_,rfl,by rw[Ve];exact .ro,fun i y hy=>?_⟩
  rw[List.getElem?_map]at hy
  cases hx:L[i]? with
  |none=>rw[hx]at hy;cases hy
  |some z=>
   rw[hx]at hy
   obtain⟨s,t,rfl⟩:=Wm (hL z (List.mem_of_getElem? hx))
   cases hy
   exact⟨s,t,rfl⟩
theorem EY{xs:List D}(h:Is Try.prog 48 xs):∃t:z1,xs=[.str t.s,t.c]:=by
 obtain⟨parts,rfl,hl,hp⟩:=h.sU Try.underlying48
 match parts,hl,hp with
 |[q0,q1],_,hp=>
  obtain⟨s,rfl⟩:=oM (hp 0 _ _ rfl rfl)
  obtain⟨L,x,rfl,h1,h2⟩:=Vf (hp 1 _ _ rfl rfl)
  exact⟨⟨s,x,L,h1,h2⟩,rfl⟩
theorem LC{xs:List D}(h:Is Try.prog 50 xs):∃t u:z1,xs=[.str t.s,t.c,.str u.s,u.c]:=by
 obtain⟨parts,rfl,hl,hp⟩:=h.sU Try.underlying50
 match parts,hl,hp with
 |[q0,q1],_,hp=>
  obtain⟨t,rfl⟩:=EY (hp 0 _ _ rfl rfl)
  obtain⟨u,rfl⟩:=EY (hp 1 _ _ rfl rfl)
  exact⟨t,u,rfl⟩
theorem Vg{xs:List D}(h:Is Try.prog 52 xs):∃(a b c:List UInt8) (t u:z1),xs=[.str a,.str b,.str c,.str t.s,t.c,.str u.s,u.c]:=by
 obtain⟨parts,rfl,hl,hp⟩:=h.sU Try.underlying52
 match parts,hl,hp with
 |[q0,q1,q2,q3],_,hp=>
  obtain⟨a,rfl⟩:=oM (hp 0 _ _ rfl rfl)
  obtain⟨b,rfl⟩:=oM (hp 1 _ _ rfl rfl)
  obtain⟨c,rfl⟩:=oM (hp 2 _ _ rfl rfl)
  obtain⟨t,u,rfl⟩:=LC (hp 3 _ _ rfl rfl)
  exact⟨a,b,c,t,u,rfl⟩
theorem Vh{xs:List D}(h:Is Try.prog 45 xs):∃t:Oj,xs=[t.c0,t.c1,t.c2,t.c3,t.c4,t.c5,t.c6,t.c7,t.c8,t.c9]:=by
 obtain⟨e,he⟩:=Wj h
 have Cz:jy e (.agg xs):=he
 obtain⟨nm,kd,L,hx,_⟩:=Cz.inv
 cases hx
 exact⟨⟨_,_,_,_,_,_,_,_,_,_,e,Cz⟩,rfl⟩
theorem Vi{xs:List D}(h:Is Try.prog 33 xs):∃a b:Int,xs=[.int .i64 a,.int .i64 b]:=by
 obtain⟨parts,rfl,hl,hp⟩:=h.sU Try.underlying33
 match parts,hl,hp with
 |[q0,q1],_,hp=>
  obtain⟨a,rfl⟩:=rp (hp 0 _ _ rfl rfl)
  obtain⟨b,rfl⟩:=rp (hp 1 _ _ rfl rfl)
  exact⟨a,b,rfl⟩
theorem KY:cZ Try.prog 54=some true:=by kernel_rfl
theorem LD{xs:List D}(h:Is Try.prog 28 xs):∃x,xs=[x]:=by
 rcases h.yn Try.underlying28 KY with rfl|⟨L,rfl,_,_⟩
 ·exact⟨_,rfl⟩
 ·exact⟨_,rfl⟩
theorem Vj{xs:List D}(h:Is Try.prog 54 xs):∃t:gD,pack true xs=t.enc:=by
 obtain⟨parts,rfl,hl,hp⟩:=h.sU Try.underlying54
 match parts,hl,hp with
 |[q0,q1,q2,q3,q4,q5,q6,q7,q8,q9,q10,q11,q12,q13,q14,q15,q16,q17,q18],_,hp=>
  obtain⟨k,rfl⟩:=rp (hp 0 _ _ rfl rfl)
  obtain⟨op,rfl⟩:=rp (hp 1 _ _ rfl rfl)
  obtain⟨ln,cl,rfl⟩:=Vi (hp 2 _ _ rfl rfl)
  obtain⟨n,rfl⟩:=oM (hp 3 _ _ rfl rfl)
  obtain⟨r,rfl⟩:=oM (hp 4 _ _ rfl rfl)
  obtain⟨t,rfl⟩:=oM (hp 5 _ _ rfl rfl)
  obtain⟨l1,x1,rfl,h1⟩:=yg (hp 6 _ _ rfl rfl)
  obtain⟨l2,x2,rfl,h2⟩:=yg (hp 7 _ _ rfl rfl)
  obtain⟨n1,rfl⟩:=BJ (hp 8 _ _ rfl rfl)
  obtain⟨n2,rfl⟩:=BJ (hp 9 _ _ rfl rfl)
  obtain⟨n3,rfl⟩:=BJ (hp 10 _ _ rfl rfl)
  obtain⟨n4,rfl⟩:=BJ (hp 11 _ _ rfl rfl)
  obtain⟨e,rfl⟩:=Vh (hp 12 _ _ rfl rfl)
  obtain⟨lv,rfl⟩:=EY (hp 13 _ _ rfl rfl)
  obtain⟨lo,hi,rfl⟩:=LC (hp 14 _ _ rfl rfl)
  obtain⟨u,v,w,c1,c2,rfl⟩:=Vg (hp 15 _ _ rfl rfl)
  obtain⟨b,rfl⟩:=AX (hp 16 _ _ rfl rfl)
  have ht:=hp 17 _ _ rfl rfl
  have he:=hp 18 _ _ rfl rfl
  obtain⟨th,rfl⟩:=LD ht
  obtain⟨el,rfl⟩:=LD he
  exact⟨⟨⟨k,op,ln,cl,n,l1,l2⟩,r,t,x1,x2,h1,h2,n1,n2,n3,n4,e,lv,lo,hi,u,v,w,c1,c2,b,th,el,ht,he⟩,rfl⟩
theorem TH:Try.prog.cellsOf 54=55:=by kernel_rfl
theorem En{xs:List D}(h:Is Try.prog 28 xs):∃(l:List gD) (x:D),xs=[x]∧bK 55 (l.map gD.enc) x∧l.length≤maxLen:=by
 rcases h.yn Try.underlying28 KY with rfl|⟨L,rfl,hm,hL⟩
 ·exact⟨[],_,rfl,.nil 0 rfl,by simp⟩
 ·obtain⟨l,hl,hn⟩:=AS (fun x hx=>Vj hx) L hL
  refine⟨l,_,rfl,?_,by omega⟩
  rw[hl,TH]
  exact .ro
end Go.Proofs.Ytaknajjmldngiaa.Ab
namespace Go.Proofs.Ytaknajjmldngiaa.Ab
open Go
set_option maxRecDepth 8000
set_option linter.unusedVariables false
def gD.Y(s:gD):List SV:=e8 s.s (.str s.r) (.str s.t) s.cP s.al s.rest
section
variable(s:gD)
theorem Su:aA (.d s.enc)=some s.Y:=rfl
theorem LF:s.Y.length=55:=rfl
theorem TI:aF true 55 (.aE s.enc 0)=some (.d s.enc):=s.is.load
theorem XJ:ag false 1 4 s.Y=some (.d (.str s.s.name)):=rfl
theorem XK:ag false 1 5 s.Y=some (.d (.str s.r)):=rfl
theorem XL:ag false 1 6 s.Y=some (.d (.str s.t)):=rfl
theorem XM:ag false 1 7 s.Y=some (.d s.cP):=rfl
theorem XN:ag false 1 8 s.Y=some (.d s.al):=rfl
theorem XO:ag true 5 9 s.Y=some (.d (.agg [s.n1.a,s.n1.b,s.n1.c,s.n1.x,s.n1.y])):=rfl
theorem Wn:ag true 5 14 s.Y=some (.d (.agg [s.n2.a,s.n2.b,s.n2.c,s.n2.x,s.n2.y])):=rfl
theorem Wo:ag true 5 19 s.Y=some (.d (.agg [s.n3.a,s.n3.b,s.n3.c,s.n3.x,s.n3.y])):=rfl
theorem Wp:ag true 5 24 s.Y=some (.d (.agg [s.n4.a,s.n4.b,s.n4.c,s.n4.x,s.n4.y])):=rfl
theorem Wq:ag true 10 29 s.Y=some (.d (.agg [s.x.c0,s.x.c1,s.x.c2,s.x.c3,s.x.c4,s.x.c5,s.x.c6,s.x.c7,s.x.c8,s.x.c9])):=rfl
theorem Wr:ag true 2 39 s.Y=some (.d (.agg [.str s.lv.s,s.lv.c])):=rfl
theorem Ws:ag true 4 41 s.Y=some (.d (.agg [.str s.lo.s,s.lo.c,.str s.hi.s,s.hi.c])):=rfl
theorem Wt:ag true 7 45 s.Y=some (.d (.agg [.str s.u,.str s.v,.str s.w,.str s.cl.s,s.cl.c,.str s.ch.s,s.ch.c])):=rfl
theorem Wu:ag false 1 53 s.Y=some (.d s.th):=rfl
theorem Wv:ag false 1 54 s.Y=some (.d s.el):=rfl
end
theorem Rk(s:List UInt8)(c:D):bY Try.prog 50 [(0,.agg [.str s,c])]=some (.agg [.str s,c,.str [],.sl .nil 0 []]):=by kernel_rfl
def Ok(l:List gD)(rT:Int)(r:SV):Prop:=∃b:Bool,r=.d (.bool b)∧(b=true→(l.length:Int)≤rT∧∀s∈l,jV s.s.list=true∧jV s.s.iH=true)
theorem jC{l:List gD}{rT:Int}:Ok l rT (.d (.bool false)):=⟨false,rfl,fun h=>by cases h⟩
theorem f3(u r t:List UInt8):bO 1 3 [(0,.str u),(1,.str r),(2,.str t)]=true:=rfl
theorem e3(u r t:List UInt8):bL (bN false [.str []]) [(0,.str u),(1,.str r),(2,.str t)] 3 0=bP [u,r,t]:=rfl
theorem lB(b:Bool):cw .not (.d (.bool b))=some (.d (.bool (!b))):=rfl
set_option maxHeartbeats 1000000 in
theorem TJ:∀(n:Nat)(k:Int),-1≤k→k≤n→n≤100→∀(rT:Int)(l:List gD)(x:D),bK 55 (l.map gD.enc) x→l.length≤maxLen→
  ∃r,Ok l rT r∧aD Try.prog gl 10 [.d x,.d (.int .i64 rT),.d (.int .i64 k)] r:=by
 intro n
 induction n with
 |zero=>
  intro k Hv hk hn rT l x hx hm
  refine sV bH (cM (fn:=Try.f10) (by kernel_rfl) (by kernel_rfl) (by kernel_rfl)) ⟨_,jC⟩ (h:=xn) ?_
  rw[Lp];intro ct
  simp only[sS,sT,sZ]
  refine And.intro (fun _=>jC) (fun h=>absurd h (by simp;omega))
 |succ n ih=>
  intro k Hv hk hn rT l x hx hm
  refine sV bH (cM (fn:=Try.f10) (by kernel_rfl) (by kernel_rfl) (by kernel_rfl)) ⟨_,jC⟩ (h:=xn) ?_
  rw[Lp];intro ct
  simp only[hx.len,List.length_map,sS,sT,sZ]
  refine And.intro (fun _=>jC) (fun h0=>?_)
  have jw:0<k:=by simp at h0;omega
  refine And.intro (fun _=>jC) (fun h1=>?_)
  have Ww:(l.length:Int)≤rT:=by simp at h1;omega
  refine oE (fun i=>∀(j:Nat)s,j<i→l[j]? =some s→jV s.s.list=true∧jV s.s.iH=true) (fun i=>[.d x,.d (.int .i64 k),.d (.int .i64 ((i:Nat):Int))]) (fun i=>[]) l.length (fun j s hj _=>by omega) (fun i hi hJ I hI=>?_) (fun hJ I=>?_)
  ·simp only[hx.len,List.length_map,sS,sT,sZ]
   refine And.intro (fun _=>?_) (fun h=>absurd h (by simp;omega))
   obtain⟨s,hs⟩:=get_some hi
   have ew:(l.map gD.enc)[i]? =some s.enc:=by rw[List.getElem?_map,hs];rfl
   obtain⟨be,hE⟩:=Ss 16 16 (by omega) (by omega) (by omega) _ _ s.x.h
   obtain⟨br,hR⟩:=D6 (a:=s.lo.s) (b:=s.hi.s) s.lo.h s.lo.p s.hi.h s.hi.p
   obtain⟨bl,hL⟩:=D6 (a:=s.lv.s) (b:=[]) (c2:=.sl .nil 0 []) (L2:=[]) s.lv.h s.lv.p (.nil 0 rfl) (fun i y h=>by simp at h)
   obtain⟨bc,hC⟩:=Sr (u:=s.u) (r:=s.v) (t:=s.w) (a:=s.cl.s) (b:=s.ch.s) s.cl.h s.cl.p s.ch.h s.ch.p
   have G7:(16:Int)=((16:Nat):Int):=rfl
   have yL:=Kh (show-1000000<k by omega) (show k<1000000 by omega)
   obtain⟨lt,xt,Zx,ht,Zy⟩:=En s.Hj
   obtain⟨le,xe,Hn,he,Zz⟩:=En s.kC
   have XP:s.th=xt:=by simpa using Zx
   have XQ:s.el=xe:=by simpa using Hn
   obtain⟨rt,⟨bt,GL,_⟩,hT⟩:=ih (k-1) (by omega) (by omega) (by omega) 12 lt xt ht Zy
   obtain⟨re,⟨bE,pr,_⟩,Ol⟩:=ih (k-1) (by omega) (by omega) (by omega) 12 le xe he Zz
   subst GL pr
   simp only[hx.at ew,TI,Su,LF,sS,sT,sZ]
   rw[xU (by simp[LF])]
   simp only[XJ,XK,XL,XM,XN,XO,Wn,Wo,Wp,Wq,Wr,Ws,Wt,Wu,Wv,D5,f3,e3,dZ,Rk,XP,XQ,ht.len,he.len,yL,sS,sT,sZ]
   refine bR (uo .full) ?_
   simp only[lB,sS,sT,sZ]
   refine And.intro (fun _=>jC) (fun _=>?_)
   refine bR (uo s.hl.sv) ?_
   simp only[lB,sS,sT,sZ]
   refine And.intro (fun _=>jC) (fun g1=>?_)
   refine bR (uo s.ha.sv) ?_
   simp only[lB,sS,sT,sZ]
   refine And.intro (fun _=>jC) (fun g2=>?_)
   have nx:∀(j:Nat)s',j<i+1→l[j]? =some s'→jV s'.s.list=true∧jV s'.s.iH=true:=fun j s' hj eP=>by
    rcases Nat.lt_or_ge j i with h2|h2
    ·exact hJ j s' h2 eP
    ·have:j=i:=by omega
     subst this
     rw[hs]at eP;cases eP
     exact⟨by simpa using g1,by simpa using g2⟩
   have hI:=hI nx
   refine bR (Ax s.n1.hx s.n1.hy) ?_
   simp only[lB,sS,sT,sZ]
   refine And.intro (fun _=>jC) (fun _=>?_)
   refine bR (Ax s.n2.hx s.n2.hy) ?_
   simp only[lB,sS,sT,sZ]
   refine And.intro (fun _=>jC) (fun _=>?_)
   refine bR (Ax s.n3.hx s.n3.hy) ?_
   simp only[lB,sS,sT,sZ]
   refine And.intro (fun _=>jC) (fun _=>?_)
   refine bR (Ax s.n4.hx s.n4.hy) ?_
   simp only[lB,sS,sT,sZ]
   refine And.intro (fun _=>jC) (fun _=>?_)
   refine bR hE ?_
   simp only[lB,sS,sT,sZ]
   refine And.intro (fun _=>jC) (fun _=>?_)
   refine bR hR ?_
   simp only[lB,sS,sT,sZ]
   refine And.intro (fun _=>jC) (fun _=>?_)
   refine bR hL ?_
   simp only[lB,sS,sT,sZ]
   refine And.intro (fun _=>jC) (fun _=>?_)
   refine bR hC ?_
   simp only[lB,sS,sT,sZ]
   refine And.intro (fun _=>jC) (fun _=>?_)
   have fin:ab (ah none .add (.d (.int .i64 ((i:Nat):Int))) (.d (.int .i64 1))) fun r=>I [.d x,.d (.int .i64 k),aa r] []:=by
    refine aZ (bg hi hm) ?_
    exact hI
   refine And.intro (fun _=>?_) (fun _=>?_)
   ·refine bR hT ?_
    simp only[lB,sS,sT,sZ]
    refine And.intro (fun _=>jC) (fun _=>?_)
    refine And.intro (fun h=>?_) (fun _=>fin)
    refine bR Ol ?_
    simp only[lB,sS,sT,sZ]
    exact And.intro (fun _=>jC) (fun _=>fin)
   ·refine And.intro (fun h=>?_) (fun _=>fin)
    refine bR Ol ?_
    simp only[lB,sS,sT,sZ]
    exact And.intro (fun _=>jC) (fun _=>fin)
  ·simp only[hx.len,List.length_map,sS,sT,sZ]
   refine And.intro (fun h=>absurd h (by simp)) (fun _=>?_)
   refine⟨true,rfl,fun _=>⟨Ww,fun s hs=>?_⟩⟩
   obtain⟨j,hj⟩:=List.mem_iff_getElem?.1 hs
   exact hJ j s (List.getElem?_eq_some_iff.1 hj).1 hj
end Go.Proofs.Ytaknajjmldngiaa.Ab
namespace Go.Proofs.Ytaknajjmldngiaa.Ab
open Go
set_option maxRecDepth 4000
set_option linter.unusedVariables false
def vT(a b c d e f g:Int)(s:List UInt8):D:=.agg [.int .i64 a,.int .i64 b,.int .i64 c,.int .i64 d,.int .i64 e,.int .i64 f,.int .i64 g,.str s]
def MI(L:List D):Prop:=∀x∈L,∃a b c d e f g s,x=vT a b c d e f g s
theorem Wx(a b c d e f g:Int)(s:List UInt8)(a' b' c' d' e' f' g':Int)(s':List UInt8):ah (some (true,[.int,.int,.int,.int,.int,.int,.int,.str])) .neq (.d (vT a b c d e f g s)) (.d (vT a' b' c' d' e' f' g' s'))=some (.d (.bool (!((a==a')&&(b==b')&&(c==c')&&(d==d')&&(e==e')&&(f==f')&&(g==g')&&(s==s'))))):=by
 simp only[ah,eE,vT,cX,Bool.and_self,cond_true,eC,kg,↓reduceIte,beq_self_eq_true,Bool.true_and,Bool.and_true,Bool.and_assoc]
theorem Wy(a b c d e f g:Int)(s:List UInt8):aF true 8 (.aE (vT a b c d e f g s) 0)=some (.d (vT a b c d e f g s)):=rfl
theorem C4{L:List D}{x y:D}(hx:bK 8 L x)(hy:bK 8 L y)(hL:MI L)(hm:L.length≤maxLen):aD Try.prog gl 7 [.d x,.d y] (.d (.bool true)):=by
 refine dz bH (cM (fn:=Try.f7) (by kernel_rfl) (by kernel_rfl) (by kernel_rfl)) (h:=h7) ?_;rw[VM];intro ct
 simp only[sS,sT,sZ,hx.len,hy.len]
 refine And.intro (fun h=>absurd h (by simp)) (fun _=>?_)
 refine eo (fun i=>[.d x,.d y,.d (.int .i64 ((i:Nat):Int))]) (fun i=>[]) L.length (fun i hi I hI=>?_) (fun I=>?_)
 ·simp only[sS,sT,sZ,hx.len]
  refine And.intro (fun _=>?_) (fun h=>absurd h (by simp;omega))
  obtain⟨z,ha⟩:=get_some hi
  obtain⟨a,b,c,d,e,f,g,s,rfl⟩:=hL z (List.mem_of_getElem? ha)
  simp only[hx.at ha,hy.at ha,Wy,Wx,sS,sT,sZ]
  refine And.intro (fun h=>absurd h (by simp)) (fun _=>?_)
  refine aZ (bg hi hm) ?_
  exact hI
 ·simp only[sS,sT,sZ,hx.len]
  refine And.intro (fun h=>absurd h (by simp)) (fun _=>?_)
  first|rfl|exact⟨rfl,rfl⟩|trivial
theorem DJ(l:List cQ):MI (ft l):=by
 intro x hx
 unfold ft cA at hx
 obtain⟨i,_,hx⟩:=List.mem_flatMap.1 hx
 obtain⟨k,_,hx⟩:=List.mem_flatMap.1 hx
 unfold gM at hx
 split at hx
 ·split at hx
  ·unfold mH tu at hx
   rcases List.mem_append.1 hx with h|h
   ·split at h
    ·rw[List.mem_singleton.1 h]
     exact⟨_,_,_,_,_,_,_,_,rfl⟩
    ·cases h
   ·obtain⟨t,_,h⟩:=List.mem_flatMap.1 h
    unfold xF at h
    obtain⟨u,_,h⟩:=List.mem_flatMap.1 h
    unfold yF at h
    split at h
    ·cases h
    ·rw[List.mem_singleton.1 h]
     exact⟨_,_,_,_,_,_,_,_,rfl⟩
  ·cases hx
 ·cases hx
structure aY where
 name:List UInt8
 nF:Int
 x:D
 l:List gD
 hx:bK 55 (l.map gD.enc) x
 hm:l.length≤maxLen
def aY.enc(m:aY):D:=.agg [.str m.name,.int .i64 m.nF,m.x]
def aY.d(m:aY):cQ:=⟨m.name,m.nF,m.l.map gD.s⟩
theorem Wz{xs:List D}(h:Is Try.prog 30 xs):∃t:aY,pack true xs=t.enc:=by
 obtain⟨parts,rfl,hl,hp⟩:=h.sU Try.underlying30
 match parts,hl,hp with
 |[q0,q1,q2],_,hp=>
  obtain⟨n,rfl⟩:=oM (hp 0 _ _ rfl rfl)
  obtain⟨v,rfl⟩:=rp (hp 1 _ _ rfl rfl)
  obtain⟨l,x,rfl,h1,h2⟩:=En (hp 2 _ _ rfl rfl)
  exact⟨⟨n,v,x,l,h1,h2⟩,rfl⟩
theorem Vk:cZ Try.prog 30=some true:=by kernel_rfl
theorem Vl:Try.prog.cellsOf 30=3:=by kernel_rfl
theorem LG{xs:List D}(h:Is Try.prog 22 xs):∃(l:List aY) (x:D),xs=[x]∧bK 3 (l.map aY.enc) x∧l.length≤maxLen:=by
 rcases h.yn Try.underlying22 Vk with rfl|⟨L,rfl,hm,hL⟩
 ·exact⟨[],_,rfl,.nil 0 rfl,by simp⟩
 ·obtain⟨l,hl,hn⟩:=AS (fun x hx=>Wz hx) L hL
  refine⟨l,_,rfl,?_,by omega⟩
  rw[hl,Vl]
  exact .ro
structure aY.Sm(m:aY):Prop where
 nm:m.name.length≤300
 n:m.l.length≤30
 st:∀s∈m.l,jV s.s.list=true∧jV s.s.iH=true
def LH(l:List aY)(r:SV):Prop:=∃b:Bool,r=.d (.bool b)∧(b=true→l.length≤5∧∀m∈l,m.Sm)
theorem xZ{l:List aY}:LH l (.d (.bool false)):=⟨false,rfl,fun h=>by cases h⟩
theorem KZ(m:aY):bD (.aE m.enc 0) 0=some (.aE m.enc 0):=rfl
theorem TK(m:aY):bD (.aE m.enc 0) 2=some (.aE m.enc 2):=rfl
theorem LI(m:aY):aF false 1 (.aE m.enc 0)=some (.d (.str m.name)):=rfl
theorem Vm(m:aY):aF false 1 (.aE m.enc 2)=some (.d m.x):=rfl
theorem I4(l:List aY){x:D}(hx:bK 3 (l.map aY.enc) x):∃r,LH l r∧aD Try.prog gl 5 [.d x] r:=by
 refine sV bH (cM (fn:=Try.f5) (by kernel_rfl) (by kernel_rfl) (by kernel_rfl)) ⟨_,xZ⟩ (h:=h5) ?_
 rw[VQ];intro ct
 by_cases h5:l.length≤5
 ·refine oE (fun i=>∀(j:Nat)m,j<i→l[j]? =some m→m.Sm) (fun i=>[.d x,.d (.int .i64 ((i:Nat):Int))]) (fun i=>[]) l.length (fun j s hj _=>by omega) (fun i hi hJ I hI=>?_) (fun hJ I=>?_)
  ·simp only[hx.len,List.length_map,sS,sT,sZ]
   refine And.intro (fun _=>?_) (fun h=>absurd h (by simp;omega))
   refine And.intro (fun _=>?_) (fun h=>absurd h (by simp;omega))
   obtain⟨m,hs⟩:=get_some hi
   have ew:(l.map aY.enc)[i]? =some m.enc:=by rw[List.getElem?_map,hs];rfl
   obtain⟨r,⟨b,hr,hb⟩,hS⟩:=TJ 6 6 (by omega) (by omega) (by omega) 30 m.l m.x m.hx m.hm
   subst hr
   simp only[hx.at ew,KZ,TK,LI,Vm,wm,sS,sT,sZ]
   refine And.intro (fun _=>xZ) (fun XR=>?_)
   refine bR hS ?_
   simp only[lB,sS,sT,sZ]
   refine And.intro (fun _=>xZ) (fun NH=>?_)
   obtain⟨h1,h2⟩:=hb (by simpa using NH)
   have sO:m.Sm:=⟨by simp at XR;omega,by omega,h2⟩
   refine aZ (bg hi (Nat.le_trans h5 (by decide))) ?_
   refine hI fun j m' hj eP=>?_
   rcases Nat.lt_or_ge j i with h2|h2
   ·exact hJ j m' h2 eP
   ·have:j=i:=by omega
    subst this
    rw[hs]at eP;cases eP
    exact sO
  ·simp only[hx.len,List.length_map,sS,sT,sZ]
   refine And.intro (fun h=>absurd h (by simp)) (fun _=>?_)
   refine⟨_,rfl,fun _=>⟨h5,fun m hm=>?_⟩⟩
   obtain⟨j,hj⟩:=List.mem_iff_getElem?.1 hm
   exact hJ j m (List.getElem?_eq_some_iff.1 hj).1 hj
 ·have hd:decide ((l.length:Int)≤5)=false:=decide_eq_false (by omega)
  refine eo (fun i=>[.d x,.d (.int .i64 ((i:Nat):Int))]) (fun i=>[]) 0 (fun i hi=>absurd hi (by omega)) (fun I=>?_)
  simp only[hx.len,List.length_map,hd,sS,sT,sZ]
  refine And.intro (fun _=>?_) (fun h=>?_)
  ·first|exact xZ|exact And.intro (fun h=>absurd h (by simp)) (fun _=>xZ)
  ·have:=of_decide_eq_false h
   omega
theorem uC{α β:Type}{f:α→List β}{c:Nat}:∀{l:List α},(∀x∈l,(f x).length ≤c)→(l.flatMap f).length ≤l.length*c
 |[],_=>by simp
 |x::l,h=>by
  have h1:=h x (by simp)
  have h2:=uC (l:=l) fun y hy=>h y (by simp[hy])
  rw[List.flatMap_cons,List.length_append,List.length_cons,Nat.succ_mul]
  omega
theorem K0{c:Nat}:∀{W:List ar},(∀x∈W,x.perms.length≤c)→iO W≤W.length*c
 |[],_=>by simp[iO]
 |x::W,h=>by
  have h1:=h x (by simp)
  have h2:=K0 (W:=W) fun y hy=>h y (by simp[hy])
  unfold iO at h2 ⊢
  rw[List.map_cons,List.sum_cons,List.length_cons,Nat.succ_mul]
  omega
theorem Dr(s:dP)(h1:s.list.length≤40)(h2:s.iH.length≤40):(bh s).length ≤41∧∀x∈bh s,x.perms.length≤40:=by
 have hd:=IS s.list
 constructor
 ·unfold bh
  split
  ·rw[List.length_cons]
   split
   ·rw[List.length_map];omega
   ·simp
  ·split
   ·simp
   ·split
    ·rw[List.length_map];omega
    ·simp
 ·intro x h
  unfold bh at h
  split at h
  ·rcases List.mem_cons.1 h with rfl|h
   ·show(if ff s.kind==1 then dedup s.list else []).length ≤40
    split
    ·omega
    ·simp
   ·split at h
    ·obtain⟨a,_,rfl⟩:=List.mem_map.1 h
     simp
    ·cases h
  ·split at h
   ·rcases List.mem_cons.1 h with rfl|h
    ·show(dedup s.list).length ≤40
     omega
    ·cases h
   ·split at h
    ·obtain⟨a,_,rfl⟩:=List.mem_map.1 h
     simp
    ·cases h
theorem aY.Sm.list{m:aY}(h:m.Sm):∀s∈m.d.aM,s.list.length≤40∧s.iH.length≤40:=by
 intro s hs
 obtain⟨t,ht,rfl⟩:=List.mem_map.1 hs
 exact⟨LB (h.st t ht).1,LB (h.st t ht).2⟩
theorem aY.Sm.syms{m:aY}(h:m.Sm):m.d.aM.length≤30∧m.d.syms.length≤1230∧iO m.d.syms≤49200:=by
 have hn:m.d.aM.length≤30:=by show(m.l.map gD.s).length ≤30;rw[List.length_map];exact h.n
 have h1:m.d.syms.length≤m.d.aM.length*41:=uC fun s hs=>(Dr s (h.list s hs).1 (h.list s hs).2).1
 have h2:iO m.d.syms≤m.d.syms.length*40:=K0 fun x hx=>by
  obtain⟨s,hs,hx⟩:=List.mem_flatMap.1 hx
  exact(Dr s (h.list s hs).1 (h.list s hs).2).2 x hx
 omega
theorem aY.Sm.ok{m:aY}(h:m.Sm):n7 m.d:=by
 obtain⟨h1,h2,h3⟩:=h.syms
 exact⟨by omega,by omega,by omega⟩
theorem aY.Sm.is{m:aY}(h:m.Sm):pb m.d m.enc:=by
 refine .mk m.x (m.l.map gD.enc) m.hx ⟨?_,fun i s hs=>?_⟩
 ·show(m.l.map gD.enc).length =(m.l.map gD.s).length
  rw[List.length_map,List.length_map]
 ·have ie:(m.l.map gD.s)[i]? =some s:=hs
  rw[List.getElem?_map]at ie
  cases ht:m.l[i]? with
  |none=>rw[ht]at ie;cases ie
  |some t=>
   rw[ht]at ie
   cases ie
   have hb:=h.list t.s (List.mem_map_of_mem (List.mem_of_getElem? ht))
   have hz:=(Dr t.s hb.1 hb.2).1
   exact⟨t.enc,by rw[List.getElem?_map,ht];rfl,t.is,by omega,by omega,by omega⟩
theorem JP{m:aY}(h:m.Sm):(aL m.d).length ≤1260:=by
 obtain⟨h1,h2,h3⟩:=h.syms
 have h4:=wu m.d.aM
 have h5:=JN m.d.syms
 unfold aL
 rw[List.length_append,List.length_map]
 omega
theorem TL{a b:aY}(ha:a.Sm)(hb:b.Sm)(i k:Nat):(mH i k a.d b.d).length ≤1587601:=by
 have h1:=JP ha
 have h2:=JP hb
 have h3:∀t∈aL a.d,(xF i k (aL b.d) t).length ≤1260:=fun t _=>by
  have:(xF i k (aL b.d) t).length ≤(aL b.d).length *1:=uC fun u _=>by unfold yF;split<;>simp
  omega
 have h4:=uC h3
 have h5:(tu i k a.d b.d).length ≤1:=by unfold tu;split<;>simp
 unfold mH
 rw[List.length_append]
 have h6:(aL a.d).length *1260≤1260*1260:=Nat.mul_le_mul_right _ h1
 omega
theorem Eo{l:List aY}(h:∀m∈l,m.Sm):wW (l.map aY.d) (l.map aY.enc):=by
 refine⟨by simp,fun i m hm=>?_⟩
 rw[List.getElem?_map]at hm
 cases ht:l[i]? with
 |none=>rw[ht]at hm;cases hm
 |some t=>
  rw[ht]at hm
  cases hm
  have:=h t (List.mem_of_getElem? ht)
  exact⟨t.enc,by rw[List.getElem?_map,ht];rfl,this.is,this.ok⟩
theorem WA{l:List aY}(h:∀m∈l,m.Sm)(i k:Nat):(gM (l.map aY.d) i k).length ≤1587601:=by
 unfold gM
 split
 ·split
  ·rename_i a b ha hb
   rw[List.getElem?_map]at ha hb
   cases h1:l[i]? with
   |none=>rw[h1]at ha;cases ha
   |some s=>
    cases h2:l[k]? with
    |none=>rw[h2]at hb;cases hb
    |some t=>
     rw[h1]at ha;rw[h2]at hb
     cases ha;cases hb
     exact TL (h s (List.mem_of_getElem? h1)) (h t (List.mem_of_getElem? h2)) i k
  ·simp
 ·simp
theorem Sv{l:List cQ}{c:Nat}(h:∀i k,(gM l i k).length ≤c)(hn:l.length≤6):(ft l).length ≤6*(6*c):=by
 have h1:∀i∈List.range l.length,(cA l i l.length).length ≤l.length*c:=fun i _=>by
  have h2:(cA l i l.length).length ≤(List.range l.length).length *c:=uC fun k _=>h i k
  rwa[List.length_range]at h2
 have h2:(ft l).length ≤(List.range l.length).length *(l.length*c):=uC h1
 rw[List.length_range]at h2
 exact Nat.le_trans h2 (Nat.mul_le_mul hn (Nat.mul_le_mul_right _ hn))
theorem Ep{l:List aY}(h:∀m∈l,m.Sm)(hn:l.length≤6):(ft (l.map aY.d)).length ≤57153636:=by
 have:=Sv (l:=l.map aY.d) (fun i k=>WA h i k) (by rw[List.length_map];exact hn)
 omega
theorem K1:cZ Try.prog 22=some false:=by kernel_rfl
theorem Qn(l:List aY){x:D}(hx:bK 3 (l.map aY.enc) x):aD Try.prog gl 3 [.d x] (.d (.bool true)):=by
 refine dz bH (cM (fn:=Try.f3) (by kernel_rfl) (by kernel_rfl) (by kernel_rfl)) (h:=h3) ?_;rw[VO];intro ct
 obtain⟨r,⟨b,hr,hb⟩,hB⟩:=I4 l hx
 subst hr
 simp only[sS,sT,sZ]
 refine bR hB ?_
 simp only[kP,sS,sT,sZ]
 refine And.intro (fun h=>?_) (fun h=>?_)
 ·refine bR Ag ?_
  simp only[sS,sT,sZ]
 ·obtain⟨h5,hS⟩:=hb (by simpa using h)
  have hM:=Eo hS
  have hF:=Ep hS (by omega)
  have Om:(l.map aY.d).length ≤2^30:=by rw[List.length_map];omega
  refine fQ (xM hx.sv hM Om (by omega)) (jW _ _) ?_
  simp only[sS,sT,sZ,fF]
  refine fQ (OJ hx hM Om (by omega)) (jW _ _) ?_
  simp only[sS,sT,sZ,fF]
  refine bR (C4 (cn 8 (ft (l.map aY.d))) (cn 8 (ft (l.map aY.d))) (DJ _) (by simp only[maxLen];omega)) ?_
  simp only[sS,sT,sZ]
  refine And.intro (fun _=>?_) (fun h=>absurd h (by simp))
  refine bR Ag ?_
  simp only[sS,sT,sZ]
end Go.Proofs.Ytaknajjmldngiaa.Ab
namespace Go.Proofs.Ytaknajjmldngiaa.Ab
open Go
set_option maxRecDepth 4000
set_option linter.unusedVariables false
def D.flat:D→Bool
 | .int _ _=>true
 | .bool _=>true
 | .str _=>true
 |_=>false
theorem Sw{w:World}{St bA:Nat→Nat→Prop}{d:D}{v:Value}(hf:d.flat=true)(h:aK w St d v):aK w bA d v:=by
 cases h with
 |bool b=>exact .bool b
 |int k n h=>exact .int k n h
 |str s h=>exact .str s h
 |_=>cases hf
theorem Qo{P:Program}{gl:Nat→Option D}{f:FuncId}{args:List SV}{sz:Nat}{L:List D}(hL:∀x∈L,∀c∈x.cells,c.flat=true)(h:aD P gl f args (.own sz L)):aD P gl f args (.bj sz L):=by
 refine⟨h.1,fun w St vs hS hG hl ha=>?_⟩
 refine(h.2 w St vs hS hG hl ha).mono fun e w' hh=>?_
 obtain⟨v,he,hB,bA,ow,gT,eP,hr⟩:=hh
 have hr:aG w' bA 0 (qq w.heap.size w' bA ow 0) (.own sz L) v:=hr
 cases hr with
 |own _ _ _ g cap hd bq ho=>
  obtain⟨o1,o2,o3,o4⟩:=ho
  refine⟨_,he,hB,fun b o=>bA b o∧b≠g,ow,fun b o hb=>⟨gT b o hb,fun e=>?_⟩,fun b o hb=>eP b o hb.1,?_⟩
  ·have:=hS b o hb
   omega
  ·cases hd with
   |sl _ _ _ _ _ ZA h1 h2 h3 h4 h5 h6=>
    refine .bj _ sz L g cap ZA h1 bq h3 h4 ⟨o1,o2,o3,fun o _ hb=>hb.2 rfl⟩ (fun o ho=>?_) (fun i x j c hx hc=>?_)
    ·have:=(h5 o ho).1
     rwa[Nat.zero_add]at this
    ·exact Sw (hL x (List.mem_of_getElem? hx) c (List.mem_of_getElem? hc)) (h6 i x j c hx hc)
   |iU _ _ _ ha=>exact absurd rfl ha
def oU(sz:Nat):List D→SV
 |[]=>.d (.sl .nil 0 [])
 |L=>.bj sz L
theorem PD{P:Program}{gl:Nat→Option D}{f:FuncId}{args:List SV}{sz:Nat}{L:List D}(hL:∀x∈L,∀c∈x.cells,c.flat=true)(h:aD P gl f args (aO sz L)):aD P gl f args (oU sz L):=by
 cases L with
 |nil=>exact h
 |cons x L=>exact Qo hL h
structure Cg where
 (c a b d e f g:Int)
 s:List UInt8
def Cg.enc(x:Cg):D:=vT x.c x.a x.b x.d x.e x.f x.g x.s
def fW(x:Cg):List D:=[.int .i64 x.c,.int .i64 x.a,.int .i64 x.b,.int .i64 x.d,.int .i64 x.e,.int .i64 x.f,.int .i64 x.g,.str x.s]
def dG(l:List Cg):List D:=l.map Cg.enc
theorem A7(l:List Cg):(dG l).length =l.length:=List.length_map ..
theorem Sx(l:List Cg):∀x∈dG l,∀c∈x.cells,c.flat=true:=by
 intro x hx c hc
 obtain⟨y,_,rfl⟩:=List.mem_map.1 hx
 have hc:c∈fW y:=hc
 simp only[fW,List.mem_cons,List.not_mem_nil,or_false]at hc
 rcases hc with rfl|rfl|rfl|rfl|rfl|rfl|rfl|rfl<;>rfl
theorem ti(s:Cg)(l:List Cg):bV (dG (s::l))=(fW s).map .d ++bV (dG l):=rfl
theorem K2:∀(l:List Cg),dT (bV (dG l))=some (l.flatMap fW)
 |[]=>rfl
 |s::l=>by rw[ti,List.flatMap_cons];exact Dm _ (K2 l)
theorem Bt:∀(l:List Cg),(bV (dG l)).length =l.length*8
 |[]=>rfl
 |s::l=>by rw[ti,List.length_append,Bt l,List.length_cons];simp[fW];omega
theorem Kz:∀(l:List Cg),iQ true 8 l.length (l.flatMap fW)=some (dG l)
 |[]=>rfl
 |s::l=>by
  have ih:=Kz l
  have h1:((s::l).flatMap fW).drop 8=l.flatMap fW:=rfl
  have h2:((s::l).flatMap fW).take 8=fW s:=rfl
  have h3:8≤((s::l).flatMap fW).length :=by simp[fW]
  simp only[List.length_cons,iQ,h1,h2,ih,if_pos h3]
  rfl
theorem EZ(k:Nat)(hk:k<8):∀(l:List Cg)(j:Nat)(y:Cg),l[j]? =some y→(bV (dG l))[j*8+k]? =((fW y).map SV.d)[k]?
 |[],j,y,h=>by simp at h
 |s::l,0,y,h=>by
  simp at h;subst h
  rw[ti,Nat.zero_mul,Nat.zero_add,List.getElem?_append_left (by simp[fW];omega)]
 |s::l,j+1,y,h=>by
  rw[ti,List.getElem?_append_right (by simp[fW];omega)]
  have:(j+1)*8+k-((fW s).map SV.d).length =j*8+k:=by simp[fW];omega
  rw[this]
  exact EZ k hk l j y (by simpa using h)
theorem K3(v:Int):∀(l:List Cg)(j:Nat)(y:Cg),l[j]? =some y→(bV (dG l)).set (j*8+1) (.d (.int .i64 v))=bV (dG (l.set j {y with a:=v}))
 |[],j,y,h=>by simp at h
 |s::l,0,y,h=>by simp at h;subst h;rfl
 |s::l,j+1,y,h=>by
  rw[ti,List.set_append_right _ _ (by simp[fW];omega)]
  have:(j+1)*8+1-((fW s).map SV.d).length =j*8+1:=by simp[fW];omega
  rw[this,K3 v l j y (by simpa using h)]
  rfl
theorem K4(v:Int):∀(l:List Cg)(j:Nat)(y:Cg),l[j]? =some y→(bV (dG l)).set (j*8+2) (.d (.int .i64 v))=bV (dG (l.set j {y with b:=v}))
 |[],j,y,h=>by simp at h
 |s::l,0,y,h=>by simp at h;subst h;rfl
 |s::l,j+1,y,h=>by
  rw[ti,List.set_append_right _ _ (by simp[fW];omega)]
  have:(j+1)*8+2-((fW s).map SV.d).length =j*8+2:=by simp[fW];omega
  rw[this,K4 v l j y (by simpa using h)]
  rfl
theorem TM:∀(l:List Cg)(j:Nat)(y:Cg),l[j]? =some y→ag true 8 (j*8) (bV (dG l))=some (.d y.enc):=by
 intro l j y h
 have hd:∀(l:List Cg)(j:Nat),(bV (dG l)).drop (j*8)=bV (dG (l.drop j)):=by
  intro l
  induction l with
  |nil=>intro j;simp[dG,bV]
  |cons s l ih=>
   intro j
   cases j with
   |zero=>rfl
   |succ j=>
    rw[ti,List.drop_append]
    have h1:((fW s).map SV.d).length =8:=rfl
    rw[h1,show(j+1)*8-8=j*8 by omega,List.drop_of_length_le (by rw[h1];omega),ih j]
    rfl
 have hj:=(List.getElem?_eq_some_iff.1 h).1
 unfold ag
 rw[cond_true,if_pos (by rw[Bt];omega),hd,nM h,ti]
 rfl
theorem K5{a b:List UInt8}(h:a.length+b.length≤maxLen):ah none .add (.d (.str a)) (.d (.str b))=some (.d (.str (a++b))):=by
 simp only[ah,eE,wD,if_pos h]
end Go.Proofs.Ytaknajjmldngiaa.Ab
namespace Go.Proofs.Ytaknajjmldngiaa.Ab
open Go
set_option maxRecDepth 4000
set_option linter.unusedVariables false
def m0(i k:Nat)(x:Cg):Cg:={x with a:=i,b:=k}
def yC(t u:dE):List Cg:=if kO t u=0 then []else [⟨kO t u,0,1,t.sym.line,t.sym.b8,u.sym.line,u.sym.b8,t.sym.name⟩]
def oV(a b:cQ):List Cg:=(if a.name==b.name then [⟨12,0,1,0,0,0,0,a.name⟩]else [])++(aL a).flatMap fun t=>(aL b).flatMap (yC t)
theorem xV{α β:Type}{f g:α→List β}:∀{l:List α},(∀x∈l,f x=g x)→l.flatMap f=l.flatMap g
 |[],_=>rfl
 |x::l,h=>by rw[List.flatMap_cons,List.flatMap_cons,h x (by simp),xV (l:=l) fun y hy=>h y (by simp[hy])]
theorem D7(i k:Nat)(a b:cQ):mH i k a b=dG ((oV a b).map (m0 i k)):=by
 unfold mH tu oV dG
 rw[List.map_append,List.map_append]
 congr 1
 ·split<;>rfl
 ·rw[List.map_flatMap,List.map_flatMap]
  refine xV fun t _=>?_
  unfold xF
  rw[List.map_flatMap,List.map_flatMap]
  refine xV fun u _=>?_
  unfold yF yC
  split<;>rfl
theorem KA{a b:cQ}{x:Cg}(h:x∈oV a b):x.a=0∧x.b=1:=by
 unfold oV at h
 rcases List.mem_append.1 h with h|h
 ·split at h
  ·rw[List.mem_singleton.1 h];exact⟨rfl,rfl⟩
  ·cases h
 ·obtain⟨t,_,h⟩:=List.mem_flatMap.1 h
  obtain⟨u,_,h⟩:=List.mem_flatMap.1 h
  unfold yC at h
  split at h
  ·cases h
  ·rw[List.mem_singleton.1 h];exact⟨rfl,rfl⟩
theorem Sy(a b:cQ):ft [a,b]=dG (oV a b):=by
 have h1:ft [a,b]=mH 0 1 a b:=by simp[ft,cA,gM,List.range_succ]
 rw[h1,D7]
 congr 1
 have:(oV a b).map (m0 0 1)=(oV a b).map id:=List.map_congr_left fun x hx=>by
  obtain⟨h1,h2⟩:=KA hx
  obtain⟨c,a',b',d,e,f,g,s⟩:=x
  simp only at h1 h2
  subst h1 h2
  rfl
 rw[this,List.map_id]
def fP(i k:Nat)(P:List Cg)(j:Nat):List Cg:=(P.take j).map (m0 i k)++P.drop j
theorem wC(i k:Nat)(P:List Cg)(j:Nat):(fP i k P j).length =P.length:=by
 unfold fP;rw[List.length_append,List.length_map,List.length_take,List.length_drop];omega
theorem TN{i k:Nat}{P:List Cg}{j:Nat}{y:Cg}(h:P[j]? =some y):(fP i k P j)[j]? =some y:=by
 have hj:=(List.getElem?_eq_some_iff.1 h).1
 have hl:((P.take j).map (m0 i k)).length =j:=by rw[List.length_map,List.length_take];omega
 unfold fP
 rw[List.getElem?_append_right (by omega),hl,Nat.sub_self,nM h]
 rfl
theorem K6{i k:Nat}{P:List Cg}{j:Nat}{y:Cg}(h:P[j]? =some y):(fP i k P j).set j (m0 i k y)=fP i k P (j+1):=by
 have hj:=(List.getElem?_eq_some_iff.1 h).1
 have hl:((P.take j).map (m0 i k)).length =j:=by rw[List.length_map,List.length_take];omega
 unfold fP
 rw[List.set_append_right _ _ (by omega),hl,Nat.sub_self,nM h,ez h,List.map_append,List.append_assoc]
 rfl
theorem LJ{l:List Cg}{A:List D→Prop}{B:Prop}(h1:l≠[]→A (dG l))(h2:l=[]→B):kW (oU 8 (dG l)) 8 A B:=by
 cases l with
 |nil=>exact h2 rfl
 |cons y l=>exact⟨rfl,h1 (by simp)⟩
theorem WB{l:List Cg}(h:l≠[]):oU 8 (dG l)=.bj 8 (dG l):=by
 cases l with
 |nil=>exact absurd rfl h
 |cons y l=>rfl
theorem Sz(n:Nat)(L:List D):rq (oU n L)=false:=by cases L<;>rfl
theorem Qp{l:List cQ}{L:List D}{m:cQ}{d:D}(h:wW l L)(hm:pb m d)(ho:n7 m):wW (l++[m]) (L++[d]):=by
 refine⟨by simp[h.len],fun i x hx=>?_⟩
 rcases Nat.lt_or_ge i l.length with hi|hi
 ·rw[List.getElem?_append_left hi]at hx
  rw[List.getElem?_append_left (by rw[h.len];exact hi)]
  exact h.at_ i x hx
 ·rw[List.getElem?_append_right hi]at hx
  rw[List.getElem?_append_right (by rw[h.len];exact hi),h.len]
  have h0:i-l.length=0:=by
   have:=(List.getElem?_eq_some_iff.1 hx).1
   simpa using this
  rw[h0]at hx ⊢
  cases hx
  exact⟨d,rfl,hm,ho⟩
theorem Rl{l:List cQ}{m:cQ}(ht:aL m=[])(hn:∀a∈l,(a.name==m.name)=false):ft (l++[m])=ft l:=by
 have g1:∀i k,i<l.length→k<l.length→gM (l++[m]) i k=gM l i k:=fun i k hi hk=>by
  unfold gM
  rw[List.getElem?_append_left hi,List.getElem?_append_left hk]
 have g2:∀i,i<l.length→gM (l++[m]) i l.length=[]:=fun i hi=>by
  obtain⟨a,ha⟩:=get_some hi
  unfold gM
  rw[if_pos hi,List.getElem?_append_left hi,ha,List.getElem?_append_right (Nat.le_refl _),Nat.sub_self]
  show mH i l.length a m=[]
  unfold mH tu
  rw[if_neg (by rw[hn a (List.mem_of_getElem? ha)];simp),ht,List.nil_append,List.flatMap_eq_nil_iff]
  intro t _
  rfl
 have hlen:(l++[m]).length =l.length+1:=by simp
 unfold ft
 rw[hlen,List.range_succ,List.flatMap_append]
 have h1:[l.length].flatMap (fun i=>cA (l++[m]) i (l.length+1))=[]:=by
  rw[List.flatMap_singleton,Ao]
 rw[h1,List.append_nil]
 refine xV fun i hi=>?_
 have hi:=List.mem_range.1 hi
 unfold cA
 rw[List.range_succ,List.flatMap_append,List.flatMap_singleton,g2 i hi,List.append_nil]
 exact xV fun k hk=>g1 i k hi (List.mem_range.1 hk)
theorem It{α β:Type}{f:α→List β}{a:α}:∀{l:List α},a∈l→(f a).length ≤(l.flatMap f).length
 |x::l,h=>by
  rw[List.flatMap_cons,List.length_append]
  rcases List.mem_cons.1 h with rfl|h
  ·omega
  ·have:=It (f:=f) h
   omega
def vU(l:List aY):List UInt8:=[111,116,104,101,114]++l.flatMap aY.name
theorem K7{l:List aY}(h:∀m∈l,m.Sm):(vU l).length ≤5+l.length*300:=by
 unfold vU
 have:=uC (f:=aY.name) (c:=300) (l:=l) fun m hm=>(h m hm).nm
 rw[List.length_append]
 have h5:[(111:UInt8),116,104,101,114].length =5:=rfl
 omega
def oB(l:List aY):aY:=⟨vU l++[120],0,.sl .nil 0 [],[],.nil 0 rfl,Nat.zero_le _⟩
theorem Vn(l:List aY):pb (oB l).d (oB l).enc :=.mk _ [] (.nil 0 rfl) ⟨rfl,fun i s h=>by simp[oB,aY.d]at h⟩
theorem Vo(l:List aY):n7 (oB l).d :=⟨Nat.zero_le _,Nat.zero_le _,Nat.zero_le _⟩
theorem Vp(l:List aY):aL (oB l).d =[]:=rfl
theorem Vq{l:List aY}{a:cQ}(h:a∈l.map aY.d):(a.name==(oB l).d.name)=false:=by
 obtain⟨m,hm,rfl⟩:=List.mem_map.1 h
 have h1:=It (f:=aY.name) hm
 have h2:(oB l).d.name.length =5+(l.flatMap aY.name).length +1:=by simp[oB,aY.d,vU];omega
 cases he:(m.d.name==(oB l).d.name)with
 |false=>rfl
 |true=>
  have he:m.d.name=(oB l).d.name :=by simpa using he
  have h3:m.d.name.length=m.name.length:=rfl
  rw[he,h2]at h3
  omega
theorem Rm(s:List UInt8):bY Try.prog 30 [(0,.str s)]=some (.agg [.str s,.int .i64 0,.sl .nil 0 []]):=by kernel_rfl
theorem SA(a b c:D):bO 3 1 [(0,.agg [a,b,c])]=true:=rfl
theorem TO(m:aY):aF true 3 (.aE m.enc 0)=some (.d m.enc):=rfl
theorem TP(a b:aY):bO 3 2 [(0,a.enc),(1,b.enc)]=true:=rfl
theorem Vr(a b:aY):bL (bN true [.str [],.int .i64 0,.sl .nil 0 []]) [(0,a.enc),(1,b.enc)] 2 0=[a.enc,b.enc]:=rfl
theorem Vs(y:Cg):bO 8 1 [(0,y.enc)]=true:=rfl
theorem SB(l:List Cg)(y:Cg):dG l++[y.enc]=dG (l++[y]):=by simp[dG]
theorem Vt(y:Cg):((fW y).map SV.d)[1]? =some (.d (.int .i64 y.a)):=rfl
theorem Vu(y:Cg):((fW y).map SV.d)[2]? =some (.d (.int .i64 y.b)):=rfl
theorem Rn{a b:aY}(ha:a.Sm)(hb:b.Sm):aD Try.prog gl 8 [.full 3 [a.enc,b.enc]] (oU 8 (dG (oV a.d b.d))):=by
 have hS:∀m∈[a,b],m.Sm:=fun m hm=>by
  simp only[List.mem_cons,List.not_mem_nil,or_false]at hm
  rcases hm with rfl|rfl
  ·exact ha
  ·exact hb
 have h:=xM (l:=[a,b].map aY.d) (L:=[a,b].map aY.enc) (x:=.full 3 [a.enc,b.enc]) .full (Eo hS) (by simp) (Nat.le_trans (Ep hS (by simp)) (by decide))
 have h2:ft ([a,b].map aY.d)=dG (oV a.d b.d):=Sy a.d b.d
 rw[h2]at h
 exact PD (Sx _) h
end Go.Proofs.Ytaknajjmldngiaa.Ab
namespace Go.Proofs.Ytaknajjmldngiaa.Ab
open Go
set_option maxRecDepth 4000
set_option linter.unusedVariables false
theorem Qq(l:List aY){x:D}(hx:bK 3 (l.map aY.enc) x):aD Try.prog gl 4 [.d x] (.d (.bool true)):=by
 refine dz bH (cM (fn:=Try.f4) (by kernel_rfl) (by kernel_rfl) (by kernel_rfl)) (h:=h4) ?_;rw[VP];intro ct
 obtain⟨r,⟨b,hr,hb⟩,hB⟩:=I4 l hx
 subst hr
 simp only[sS,sT,sZ]
 refine bR hB ?_
 simp only[kP,sS,sT,sZ]
 refine And.intro (fun h=>?_) (fun h=>?_)
 ·refine bR Ag ?_
  simp only[sS,sT,sZ]
 obtain⟨h5,sO⟩:=hb (by simpa using h)
 have hM:=Eo sO
 have hF:=Ep sO (by omega)
 have hn:l.length≤maxLen:=Nat.le_trans h5 (by decide)
 have ph:(l.map aY.d).length =l.length:=List.length_map ..
 rw[show(SV.d (.sl .nil 0 []))=aO 8 (cE (l.map aY.d) 0) from rfl]
 refine eo (fun i=>[.d x,aO 8 (cE (l.map aY.d) i),.d (.int .i64 ((i:Nat):Int))]) (fun i=>[]) l.length (fun i hi I hI=>?_) (fun I=>?_)
 ·simp only[hx.len,List.length_map,sS,sT,sZ]
  refine And.intro (fun _=>?_) (fun h=>absurd h (by simp;omega))
  obtain⟨a,ha⟩:=get_some hi
  have gr:(l.map aY.enc)[i]? =some a.enc:=by rw[List.getElem?_map,ha];rfl
  have On:(l.map aY.d)[i]? =some a.d:=by rw[List.getElem?_map,ha];rfl
  have Hk:=D3 (l:=l.map aY.d) (i:=i) (by rw[ph];exact hi)
  refine aZ (bg hi hn) ?_
  simp only[sS,sT,sZ]
  rw[show aO 8 (cE (l.map aY.d) i)=aO 8 (cE (l.map aY.d) i++cA (l.map aY.d) i (i+1)) by rw[Ao,List.append_nil]]
  refine eo (fun j=>[.d x,aO 8 (cE (l.map aY.d) i++cA (l.map aY.d) i (i+1+j)),.d (.int .i64 ((i:Nat):Int)),.d (.int .i64 ((i+1+j:Nat):Int))]) (fun j=>[]) (l.length-(i+1)) (fun j hj I1 bC=>?_) (fun I1=>?_)
  ·simp only[hx.len,List.length_map,sS,sT,sZ]
   have hk:i+1+j<l.length:=by omega
   have nu:i<i+1+j:=by omega
   rw[show i+1+(j+1)=i+1+j+1 by omega]at bC
   generalize i+1+j=k at hk nu bC ⊢
   refine And.intro (fun _=>?_) (fun h=>absurd h (by simp;omega))
   obtain⟨c,hc⟩:=get_some hk
   have ib:(l.map aY.enc)[k]? =some c.enc:=by rw[List.getElem?_map,hc];rfl
   have vk:(l.map aY.d)[k]? =some c.d:=by rw[List.getElem?_map,hc];rfl
   have lL:=El nu (by rw[ph];exact hk) On vk
   rw[DG nu On vk,D7]at bC
   rw[D7,A7,List.length_map]at lL
   rw[ph]at lL Hk
   simp only[hx.at gr,hx.at ib,TO,qU,TP,Vr,sS,sT,sZ]
   refine fQ (Rn (sO a (List.mem_of_getElem? ha)) (sO c (List.mem_of_getElem? hc))) (Sz _ _) ?_
   have Oo:∀y∈oV a.d c.d,y.a=0∧y.b=1:=fun y hy=>KA hy
   generalize oV a.d c.d=P at bC lL Oo ⊢
   rw[←List.append_assoc]at bC
   have ZB:P.length≤maxLen:=by simp only[maxLen];omega
   generalize ZC:cE (l.map aY.d) i++cA (l.map aY.d) i k=W at bC ⊢
   have hWl:W.length+P.length≤57153636:=by rw[←ZC,List.length_append];omega
   rw[show aO 8 W=aO 8 (W++dG ((P.take 0).map (m0 i k))) by simp[dG],show oU 8 (dG P)=oU 8 (dG (fP i k P 0)) by simp[fP]]
   refine eo (fun j=>[.d x,aO 8 (W++dG ((P.take j).map (m0 i k))),.d (.int .i64 ((i:Nat):Int)),.d (.int .i64 ((k:Nat):Int)),oU 8 (dG (fP i k P j)),.d (.int .i64 ((j:Nat):Int))]) (fun j=>[]) P.length (fun j hj I2 cN=>?_) (fun I2=>?_)
   ·simp only[sS,sT,sZ]
    refine LJ (fun bm=>?_) (fun he=>?_)
    ·obtain⟨y,hy⟩:=get_some hj
     obtain⟨y0,y1⟩:=Oo y (List.mem_of_getElem? hy)
     have hu:=TN (i:=i) (k:=k) hy
     have z2:=wC i k P j
     have gT:=K3 (i:Int) (fP i k P j) j y hu
     have GQ:((fP i k P j).set j {y with a:=(i:Int)})[j]? =some {y with a:=(i:Int)}:=by
      rw[List.getElem?_set];simp[z2,hj]
     have eP:=K4 (k:Int) _ j _ GQ
     have ZD:((fP i k P j).set j {y with a:=(i:Int)}).set j {y with a:=(i:Int),b:=(k:Int)}=fP i k P (j+1):=by
      rw[List.set_set];exact K6 hy
     have eP:(bV (dG ((fP i k P j).set j {y with a:=(i:Int)}))).set (j*8+2) (.d (.int .i64 (k:Int)))=bV (dG (fP i k P (j+1))):=by
      rw[←ZD];exact eP
     have ZE:(fP i k P (j+1))[j]? =some (m0 i k y):=by
      rw[←K6 hy,List.getElem?_set];simp[z2,hj]
     have hp:=TM _ _ _ ZE
     have ht:=K2 (fP i k P (j+1))
     have hg:=Kz (fP i k P (j+1))
     rw[wC]at hg
     have XS:fP i k P (j+1)≠[]:=fun h=>by
      have:=congrArg List.length h
      rw[wC,List.length_nil]at this
      omega
     have oo:(P.take (j+1)).map (m0 i k)=(P.take j).map (m0 i k)++[m0 i k y]:=by rw[ez hy,List.map_append];rfl
     rw[oo,←SB,WB XS,←List.append_assoc]at cN
     have pj:=Bt (fP i k P j)
     have pk:=Bt ((fP i k P j).set j {y with a:=(i:Int)})
     have Oq:=EZ 1 (by decide) _ _ _ hu
     have Cl:=EZ 2 (by decide) _ _ _ hu
     rw[Vt,y0]at Oq
     rw[Vu,y1]at Cl
     simp only[A7,z2,s6 hj,AT,Oq,Cl,p6,Tr,Ei,gT,eP,hp,ht,hg,dZ,Vs,eg,sS,sT,sZ]
     refine And.intro (fun _=>?_) (fun h=>absurd h (by simp;omega))
     refine And.intro (fun h=>absurd h (by simp)) (fun _=>?_)
     refine And.intro (fun h=>absurd h (by simp)) (fun _=>?_)
     refine⟨rfl,by rw[pj,z2];omega,rfl,by rw[pk,List.length_set,z2];omega,?_⟩
     refine iv (gX 8 _) (by simp only[List.length_append,A7,List.length_map,List.length_take,List.length_singleton];omega) ?_
     refine aZ (bg hj ZB) ?_
     exact cN
    ·have:=congrArg List.length he
     rw[wC,List.length_nil]at this
     omega
   ·simp only[sS,sT,sZ]
    have vS:fP i k P P.length=P.map (m0 i k):=by unfold fP;rw[List.take_length,List.drop_length,List.append_nil]
    have j5:ab (ah none .add (.d (.int .i64 ((k:Nat):Int))) (.d (.int .i64 1))) fun r=>I1 [.d x,aO 8 (W++dG ((P.take P.length).map (m0 i k))),.d (.int .i64 ((i:Nat):Int)),aa r] []:=by
     refine aZ (bg hk hn) ?_
     rw[List.take_length]
     exact bC
    refine LJ (fun bm=>?_) (fun he=>?_)
    ·simp only[A7,wC,sS,sT,sZ]
     refine And.intro (fun h=>absurd h (by simp)) (fun _=>?_)
     exact j5
    ·have hP:P=[]:=by
      have:=congrArg List.length he
      rw[wC,List.length_nil]at this
      exact List.length_eq_zero_iff.1 this
     subst hP
     have l0:bG (oU 8 (dG (fP i k [] 0)))=some (.d (.int .i64 0)):=rfl
     have d0:aa (oU 8 (dG (fP i k [] 0)))=oU 8 (dG (fP i k [] 0)):=rfl
     simp only[List.length_nil,d0,l0,sS,sT,sZ]
     refine And.intro (fun h=>absurd h (by simp)) (fun _=>?_)
     exact j5
  ·simp only[hx.len,List.length_map,sS,sT,sZ]
   refine And.intro (fun h=>absurd h (by simp;omega)) (fun _=>?_)
   refine aZ (bg hi hn) ?_
   rw[show i+1+(l.length-(i+1))=l.length by omega]
   have:=Dp (l.map aY.d) i
   rw[ph]at this
   rw[←this]
   exact hI
 ·simp only[hx.len,List.length_map,sS,sT,sZ]
  refine And.intro (fun h=>absurd h (by simp)) (fun _=>?_)
  have ZF:cE (l.map aY.d) l.length=ft (l.map aY.d):=by
   show cE (l.map aY.d) l.length=cE (l.map aY.d) (l.map aY.d).length
   rw[ph]
  rw[ZF]
  rw[show([111,116,104,101,114]:List UInt8)=[111,116,104,101,114]++(l.take 0).flatMap aY.name from rfl]
  refine eo (fun i=>[.d x,aO 8 (ft (l.map aY.d)),.d (.str ([111,116,104,101,114]++(l.take i).flatMap aY.name)),.d (.int .i64 ((i:Nat):Int))]) (fun i=>[]) l.length (fun i hi I hI=>?_) (fun I=>?_)
  ·simp only[hx.len,List.length_map,sS,sT,sZ]
   refine And.intro (fun _=>?_) (fun h=>absurd h (by simp;omega))
   obtain⟨a,ha⟩:=get_some hi
   have gr:(l.map aY.enc)[i]? =some a.enc:=by rw[List.getElem?_map,ha];rfl
   have ZG:=K7 (l:=l.take i) fun m hm=>sO m (List.mem_of_mem_take hm)
   have han:=(sO a (List.mem_of_getElem? ha)).nm
   have j8:(l.take i).length ≤5:=by rw[List.length_take];omega
   unfold vU at ZG
   have uY:=K5 (a:=[111,116,104,101,114]++(l.take i).flatMap aY.name) (b:=a.name) (by simp only[maxLen];omega)
   rw[ez ha,List.flatMap_append,List.flatMap_singleton,←List.append_assoc]at hI
   simp only[hx.at gr,KZ,LI,uY,sS,sT,sZ]
   refine aZ (bg hi hn) ?_
   exact hI
  ·simp only[hx.len,List.length_map,sS,sT,sZ]
   refine And.intro (fun h=>absurd h (by simp)) (fun _=>?_)
   rw[List.take_length]
   rw[show aO 8 (cE (l.map aY.d) 0)=aO 3 [] from rfl]
   refine iv (M:=l.map aY.enc) (KU hx.sv) (by simp only[List.length_nil,List.length_map];omega) ?_
   have hnl:=K7 sO
   have uY:=K5 (a:=vU l) (b:=[120]) (by have h1:[(120:UInt8)].length =1:=rfl;simp only[maxLen];omega)
   have uY:ah none .add (.d (.str ([111,116,104,101,114]++l.flatMap aY.name))) (.d (.str [120]))=some (.d (.str (vU l++[120]))):=uY
   simp only[uY,DX,Rm,dZ,SA,eg,List.nil_append,sS,sT,sZ]
   refine iv (gX 3 _) (by simp only[List.length_map,List.length_singleton];omega) ?_
   refine fQ (xM hx.sv hM (by rw[ph];omega) (by omega)) (jW _ _) ?_
   simp only[sS,sT,sZ,fF]
   refine bR (C4 (cn 8 (ft (l.map aY.d))) (cn 8 (ft (l.map aY.d))) (DJ _) (by simp only[maxLen];omega)) ?_
   simp only[sS,sT,sZ]
   refine And.intro (fun _=>?_) (fun h=>absurd h (by simp))
   have zx:ft (l.map aY.d++[(oB l).d])=ft (l.map aY.d):=Rl (Vp l) fun a ha=>Vq ha
   have Ot:=xM (cn 3 (l.map aY.enc++[(oB l).enc])).sv (Qp hM (Vn l) (Vo l)) (by simp;omega) (by rw[zx];omega)
   rw[zx]at Ot
   refine fQ Ot (jW _ _) ?_
   simp only[sS,sT,sZ,fF]
   refine bR (C4 (cn 8 (ft (l.map aY.d))) (cn 8 (ft (l.map aY.d))) (DJ _) (by simp only[maxLen];omega)) ?_
   simp only[sS,sT,sZ]
   refine And.intro (fun _=>?_) (fun h=>absurd h (by simp))
   refine bR Ag ?_
   simp only[sS,sT,sZ]
end Go.Proofs.Ytaknajjmldngiaa.Ab
