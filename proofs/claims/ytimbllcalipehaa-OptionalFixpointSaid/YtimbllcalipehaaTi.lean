/-
  THE ARGUMENTS: expressions, contexts, cases.
-/
import Derived.Test.YtimbllcalipehaaTg
import Derived.Test.YtimbllcalipehaaTe
import Derived.Test.YtimbllcalipehaaChecked
set_option linter.unusedVariables false
set_option linter.unusedSimpArgs false
namespace Go.Proofs.Ytimbllcalipehaa.Ab
open Go
theorem aeS:dO Try.prog 9=some false:=by kernel_rfl
theorem adO:dO Try.prog 56=some true:=by kernel_rfl
theorem abQ:Try.prog.cellsOf 9=1:=by kernel_rfl
theorem abR:Try.prog.cellsOf 56=10:=by kernel_rfl
theorem rB{xs:List D}(h:Is Try.prog 9 xs):∃s,xs=[.str s]:=by
 obtain⟨s,rfl,_⟩:=h.uL Try.underlying9
 exact⟨s,rfl⟩
theorem FF{xs:List D}(h:Is Try.prog 4 xs):∃b,xs=[.bool b]:=h.tf Try.underlying4
theorem u3{xs:List D}(h:Is Try.prog 3 xs):∃n,xs=[.int .i64 n]:=by
 obtain⟨n,rfl,_⟩:=h.rn Try.underlying3
 exact⟨n,rfl⟩
theorem CI{xs:List D}(h:Is Try.prog 48 xs):∃(l:List (List UInt8)) (x:D),xs=[x]∧aW 1 (cf l) x:=by
 rcases h.JX Try.underlying48 aeS with rfl|⟨L,rfl,hm,hL⟩
 ·exact⟨[],_,rfl,.nil 0 rfl⟩
 ·obtain⟨l,hl,hn⟩:=QT (b:=false) (f:=D.str) (fun x hx=>by obtain⟨s,rfl⟩:=rB hx;exact⟨s,rfl⟩) L hL
  refine⟨l,_,rfl,?_⟩
  rw[hl,abQ]
  exact .ro
theorem FG{xs:List D}(h:Is Try.prog 51 xs):∃x:BitVec 64,xs=[dW x]:=by
 obtain⟨n,rfl,hn⟩:=h.rn Try.underlying51
 rw[HR]at hn
 have h0:0≤n:=hn.1
 have h1:n≤18446744073709551615:=hn.2
 obtain⟨m,rfl⟩:=Int.eq_ofNat_of_zero_le h0
 refine⟨BitVec.ofNat 64 m,?_⟩
 have:(BitVec.ofNat 64 m).toNat =m:=by
  rw[BitVec.toNat_ofNat]
  exact Nat.mod_eq_of_lt (by omega)
 rw[dW,this]
theorem adP{xs:List D}(h:Is Try.prog 53 xs):∃w:Nat→BitVec 64,xs=[dW (w 0),dW (w 1),dW (w 2),dW (w 3)]:=by
 obtain⟨parts,rfl,hl,hp⟩:=h.X5 Try.underlying53
 match parts,hl,hp with
 |[a,b,c,d],_,hp=>
  obtain⟨x,rfl⟩:=FG (hp a (by simp))
  obtain⟨y,rfl⟩:=FG (hp b (by simp))
  obtain⟨z,rfl⟩:=FG (hp c (by simp))
  obtain⟨u,rfl⟩:=FG (hp d (by simp))
  exact⟨fun i=>if i=0 then x else if i=1 then y else if i=2 then z else u,rfl⟩
theorem Rn:tn Try.prog [9,3,4,48,51,53,54,56,28,50,57,143,59,61,63,34,65,22,36]=true:=by kernel_rfl
theorem YW{t:TypeId}{xs:List D}(h:Is Try.prog t xs):(t=56→∃e:Xp,kV e (.agg xs))∧
  (t=54→∃(l:List Xp) (L:List D) (x:D),xs=[x]∧aW 10 L x∧L.length=l.length∧∀(i:Nat)k y,l[i]? =some k→L[i]? =some y→kV k y):=by
 have hx:56≠54:=by decide
 induction h with
 |struct h parts hl hp ih=>
  refine⟨fun ht=>?_,fun ht=>?_⟩
  ·subst ht
   rw[Try.underlying56]at h
   cases h
   match parts,hl,hp,ih with
   |[a,b,c,d,n,s,k],_,hp,ih=>
    obtain⟨op,rfl⟩:=u3 (hp 0 _ _ rfl rfl)
    obtain⟨a',rfl⟩:=u3 (hp 1 _ _ rfl rfl)
    obtain⟨rel,rfl⟩:=u3 (hp 2 _ _ rfl rfl)
    obtain⟨b',rfl⟩:=u3 (hp 3 _ _ rfl rfl)
    obtain⟨names,nm,rfl,hn⟩:=CI (hp 4 _ _ rfl rfl)
    obtain⟨w,rfl⟩:=adP (hp 5 _ _ rfl rfl)
    obtain⟨l,L,x,rfl,hd,ic,hk⟩:=(ih 6 _ _ rfl rfl).2 rfl
    exact⟨_,.mk op a' rel b' names w l nm x L hn ic hk hd⟩
  ·subst ht
   rw[Try.underlying54]at h
   cases h
 |iJ h=>exact⟨fun ht=>(by subst ht;rw[Try.underlying56]at h;cases h),fun ht=>⟨[],[],_,rfl,.nil 0 rfl,rfl,fun i k y h1=>by simp at h1⟩⟩
 |sl h b hb L hm hL ih=>
  refine⟨fun ht=>(by subst ht;rw[Try.underlying56]at h;cases h),fun ht=>?_⟩
  subst ht
  rw[Try.underlying54]at h
  cases h
  rw[adO]at hb
  cases hb
  have key:∀(L:List (List D)),(∀x∈L,∃e:Xp,kV e (.agg x))→∃l:List Xp,(L.map (pack true)).length =l.length∧∀(i:Nat)k y,l[i]? =some k→(L.map (pack true))[i]? =some y→kV k y:=by
   intro L
   induction L with
   |nil=>intro _;exact⟨[],rfl,fun i k y h1=>by simp at h1⟩
   |cons x L Ey=>
    intro h
    obtain⟨e,he⟩:=h x (by simp)
    obtain⟨l,h1,h2⟩:=Ey fun y hy=>h y (by simp[hy])
    refine⟨e::l,by simp at h1 ⊢;exact h1,fun i k y a b=>?_⟩
    cases i with
    |zero=>simp at a b;subst a b;exact he
    |succ i=>exact h2 i k y (by simpa using a) (by simpa using b)
  obtain⟨l,h1,h2⟩:=key L fun x hx=>(ih x hx).1 rfl
  refine⟨l,_,_,rfl,?_,h1,h2⟩
  rw[abR]
  exact .ro
 |bool h=>exact⟨fun ht=>(by subst ht;rw[Try.underlying56]at h;cases h),fun ht=>(by subst ht;rw[Try.underlying54]at h;cases h)⟩
 |int h=>exact⟨fun ht=>(by subst ht;rw[Try.underlying56]at h;cases h),fun ht=>(by subst ht;rw[Try.underlying54]at h;cases h)⟩
 |str h=>exact⟨fun ht=>(by subst ht;rw[Try.underlying56]at h;cases h),fun ht=>(by subst ht;rw[Try.underlying54]at h;cases h)⟩
 |array h=>exact⟨fun ht=>(by subst ht;rw[Try.underlying56]at h;cases h),fun ht=>(by subst ht;rw[Try.underlying54]at h;cases h)⟩
theorem aeT{xs:List D}(h:Is Try.prog 56 xs):∃e:Xp,kV e (pack true xs):=(YW h).1 rfl
end Go.Proofs.Ytimbllcalipehaa.Ab
namespace Go.Proofs.Ytimbllcalipehaa.Ab
open Go
set_option maxRecDepth 4000
set_option linter.unusedVariables false
def SB(L:List D):Prop:=∀(i:Nat)y,L[i]? =some y→∃s t:List UInt8,y=.agg [.str s,.str t]
end Go.Proofs.Ytimbllcalipehaa.Ab
namespace Go.Proofs.Ytimbllcalipehaa.Ab
open Go
set_option maxRecDepth 4000
set_option linter.unusedVariables false
structure Vn where
 (a b c x y:D)
 (l m:List (List UInt8))
 (hx:aW 1 (cf l) x)
 (hy:aW 1 (cf m) y)
structure Ez where
 (s:List UInt8)
 (c:D)
 (L:List D)
 (h:aW 2 L c)
 (p:SB L)
structure Vo where
 (c0 c1 c2 c3 c4 c5 c6 c7 c8 c9:D)
 (e:Xp)
 (h:kV e (.agg [c0,c1,c2,c3,c4,c5,c6,c7,c8,c9]))
structure BY where
 s:fp
 (r t:List UInt8)
 (cC al:D)
 (hl:aW 1 (cf s.list) cC)
 (ha:aW 1 (cf s.iT) al)
 (n1 n2 n3 n4:Vn)
 x:Vo
 (lv lo hi:Ez)
 (u v w:List UInt8)
 (cl ch:Ez)
 val:Bool
 (th el:D)
 (mQ:Is Try.prog 34 [th])
 (gD:Is Try.prog 34 [el])
def BY.rest(s:BY):List D:=[s.n1.a,s.n1.b,s.n1.c,s.n1.x,s.n1.y,s.n2.a,s.n2.b,s.n2.c,s.n2.x,s.n2.y,s.n3.a,s.n3.b,s.n3.c,s.n3.x,s.n3.y,s.n4.a,s.n4.b,s.n4.c,s.n4.x,s.n4.y,
 s.x.c0,s.x.c1,s.x.c2,s.x.c3,s.x.c4,s.x.c5,s.x.c6,s.x.c7,s.x.c8,s.x.c9,.str s.lv.s,s.lv.c,.str s.lo.s,s.lo.c,.str s.hi.s,s.hi.c,.str s.u,.str s.v,.str s.w,.str s.cl.s,s.cl.c,.str s.ch.s,s.ch.c,.bool s.val,s.th,s.el]
def BY.enc(s:BY):D:=.agg (lL s.s (.str s.r) (.str s.t) s.cC s.al s.rest)
theorem BY.is(s:BY):rS s.s s.enc:=.mk _ _ _ _ _ rfl s.hl s.ha
theorem Ge{xs:List D}(h:Is Try.prog 50 xs):∃t:Vn,xs=[t.a,t.b,t.c,t.x,t.y]:=by
 obtain⟨parts,rfl,hl,hp⟩:=h.x8 Try.underlying50
 match parts,hl,hp with
 |[q0,q1,q2,q3,q4],_,hp=>
  obtain⟨b0,rfl⟩:=FF (hp 0 _ _ rfl rfl)
  obtain⟨b1,rfl⟩:=FF (hp 1 _ _ rfl rfl)
  obtain⟨b2,rfl⟩:=FF (hp 2 _ _ rfl rfl)
  obtain⟨l,x,rfl,hx⟩:=CI (hp 3 _ _ rfl rfl)
  obtain⟨m,y,rfl,hy⟩:=CI (hp 4 _ _ rfl rfl)
  exact⟨⟨.bool b0,.bool b1,.bool b2,x,y,l,m,hx,hy⟩,rfl⟩
theorem adQ:dO Try.prog 143=some true:=by kernel_rfl
theorem adR:Try.prog.cellsOf 143=2:=by kernel_rfl
theorem aeU{xs:List D}(h:Is Try.prog 143 xs):∃s t:List UInt8,xs=[.str s,.str t]:=by
 obtain⟨parts,rfl,hl,hp⟩:=h.x8 Try.underlying143
 match parts,hl,hp with
 |[q0,q1],_,hp=>
  obtain⟨s,rfl⟩:=rB (hp 0 _ _ rfl rfl)
  obtain⟨t,rfl⟩:=rB (hp 1 _ _ rfl rfl)
  exact⟨s,t,rfl⟩
theorem adS{xs:List D}(h:Is Try.prog 57 xs):∃(L:List D) (x:D),xs=[x]∧aW 2 L x∧SB L:=by
 rcases h.JX Try.underlying57 adQ with rfl|⟨L,rfl,hm,hL⟩
 ·exact⟨[],_,rfl,.nil 0 rfl,fun i y h=>by simp at h⟩
 ·refine⟨L.map (pack true),_,rfl,by rw[adR];exact .ro,fun i y hy=>?_⟩
  rw[List.getElem?_map]at hy
  cases hx:L[i]? with
  |none=>rw[hx]at hy;cases hy
  |some z=>
   rw[hx]at hy
   obtain⟨s,t,rfl⟩:=aeU (hL z (List.mem_of_getElem? hx))
   cases hy
   exact⟨s,t,rfl⟩
theorem KE{xs:List D}(h:Is Try.prog 59 xs):∃t:Ez,xs=[.str t.s,t.c]:=by
 obtain⟨parts,rfl,hl,hp⟩:=h.x8 Try.underlying59
 match parts,hl,hp with
 |[q0,q1],_,hp=>
  obtain⟨s,rfl⟩:=rB (hp 0 _ _ rfl rfl)
  obtain⟨L,x,rfl,h1,h2⟩:=adS (hp 1 _ _ rfl rfl)
  exact⟨⟨s,x,L,h1,h2⟩,rfl⟩
theorem Sa{xs:List D}(h:Is Try.prog 61 xs):∃t u:Ez,xs=[.str t.s,t.c,.str u.s,u.c]:=by
 obtain⟨parts,rfl,hl,hp⟩:=h.x8 Try.underlying61
 match parts,hl,hp with
 |[q0,q1],_,hp=>
  obtain⟨t,rfl⟩:=KE (hp 0 _ _ rfl rfl)
  obtain⟨u,rfl⟩:=KE (hp 1 _ _ rfl rfl)
  exact⟨t,u,rfl⟩
theorem adT{xs:List D}(h:Is Try.prog 63 xs):∃(a b c:List UInt8) (t u:Ez),xs=[.str a,.str b,.str c,.str t.s,t.c,.str u.s,u.c]:=by
 obtain⟨parts,rfl,hl,hp⟩:=h.x8 Try.underlying63
 match parts,hl,hp with
 |[q0,q1,q2,q3],_,hp=>
  obtain⟨a,rfl⟩:=rB (hp 0 _ _ rfl rfl)
  obtain⟨b,rfl⟩:=rB (hp 1 _ _ rfl rfl)
  obtain⟨c,rfl⟩:=rB (hp 2 _ _ rfl rfl)
  obtain⟨t,u,rfl⟩:=Sa (hp 3 _ _ rfl rfl)
  exact⟨a,b,c,t,u,rfl⟩
theorem adU{xs:List D}(h:Is Try.prog 56 xs):∃t:Vo,xs=[t.c0,t.c1,t.c2,t.c3,t.c4,t.c5,t.c6,t.c7,t.c8,t.c9]:=by
 obtain⟨e,he⟩:=aeT h
 have Bz:kV e (.agg xs):=he
 obtain⟨nm,kd,L,hx,_⟩:=Bz.inv
 cases hx
 exact⟨⟨_,_,_,_,_,_,_,_,_,_,e,Bz⟩,rfl⟩
theorem adV{xs:List D}(h:Is Try.prog 28 xs):∃a b:Int,xs=[.int .i64 a,.int .i64 b]:=by
 obtain⟨parts,rfl,hl,hp⟩:=h.x8 Try.underlying28
 match parts,hl,hp with
 |[q0,q1],_,hp=>
  obtain⟨a,rfl⟩:=u3 (hp 0 _ _ rfl rfl)
  obtain⟨b,rfl⟩:=u3 (hp 1 _ _ rfl rfl)
  exact⟨a,b,rfl⟩
theorem abS:dO Try.prog 65=some true:=by kernel_rfl
theorem abT:Try.prog.cellsOf 65=55:=by kernel_rfl
end Go.Proofs.Ytimbllcalipehaa.Ab
namespace Go.Proofs.Ytimbllcalipehaa.Ab
open Go
set_option maxRecDepth 4000
set_option linter.unusedVariables false
theorem aaj{t:TypeId}{xs:List D}(h:Is Try.prog t xs):(t=65→∃e:ak,nQ e (.agg xs))∧
  (t=34→∃(l:List ak) (L:List D) (x:D),xs=[x]∧aW 55 L x∧fX l L):=by
 have hx:65≠34:=by decide
 induction h with
 |struct h parts hl hp ih=>
  refine⟨fun ht=>?_,fun ht=>?_⟩
  ·subst ht
   rw[Try.underlying65]at h
   cases h
   match parts,hl,hp,ih with
   |[q0,q1,q2,q3,q4,q5,q6,q7,q8,q9,q10,q11,q12,q13,q14,q15,q16,q17,q18],_,hp,ih=>
    obtain⟨k,rfl⟩:=u3 (hp 0 _ _ rfl rfl)
    obtain⟨op,rfl⟩:=u3 (hp 1 _ _ rfl rfl)
    obtain⟨ln,cl,rfl⟩:=adV (hp 2 _ _ rfl rfl)
    obtain⟨n,rfl⟩:=rB (hp 3 _ _ rfl rfl)
    obtain⟨r,rfl⟩:=rB (hp 4 _ _ rfl rfl)
    obtain⟨t,rfl⟩:=rB (hp 5 _ _ rfl rfl)
    obtain⟨l1,x1,rfl,h1⟩:=CI (hp 6 _ _ rfl rfl)
    obtain⟨l2,x2,rfl,h2⟩:=CI (hp 7 _ _ rfl rfl)
    obtain⟨n1,rfl⟩:=Ge (hp 8 _ _ rfl rfl)
    obtain⟨n2,rfl⟩:=Ge (hp 9 _ _ rfl rfl)
    obtain⟨n3,rfl⟩:=Ge (hp 10 _ _ rfl rfl)
    obtain⟨n4,rfl⟩:=Ge (hp 11 _ _ rfl rfl)
    obtain⟨e,rfl⟩:=adU (hp 12 _ _ rfl rfl)
    obtain⟨lv,rfl⟩:=KE (hp 13 _ _ rfl rfl)
    obtain⟨lo,hi,rfl⟩:=Sa (hp 14 _ _ rfl rfl)
    obtain⟨u,v,w,c1,c2,rfl⟩:=adT (hp 15 _ _ rfl rfl)
    obtain⟨b,rfl⟩:=FF (hp 16 _ _ rfl rfl)
    obtain⟨ta,La,ya,rfl,ha1,Ng⟩:=(ih 17 _ _ rfl rfl).2 rfl
    obtain⟨tb,Lb,yb,rfl,jj,dV⟩:=(ih 18 _ _ rfl rfl).2 rfl
    exact⟨.mk ⟨k,op,ln,cl,n,l1,l2⟩ ta tb,.mk ⟨k,op,ln,cl,n,l1,l2⟩ ta tb (.str r) (.str t) x1 x2
     ([n1.a,n1.b,n1.c,n1.x,n1.y]++[n2.a,n2.b,n2.c,n2.x,n2.y]++[n3.a,n3.b,n3.c,n3.x,n3.y]++[n4.a,n4.b,n4.c,n4.x,n4.y]++
       [e.c0,e.c1,e.c2,e.c3,e.c4,e.c5,e.c6,e.c7,e.c8,e.c9]++[.str lv.s,lv.c]++[.str lo.s,lo.c,.str hi.s,hi.c]++[.str u,.str v,.str w,.str c1.s,c1.c,.str c2.s,c2.c]++[.bool b,ya,yb])
     ya yb La Lb rfl h1 h2 rfl rfl ha1 jj Ng dV⟩
  ·subst ht
   rw[Try.underlying34]at h
   cases h
 |iJ h=>exact⟨fun ht=>(by subst ht;rw[Try.underlying65]at h;cases h),fun ht=>⟨[],[],_,rfl,.nil 0 rfl,.nil⟩⟩
 |sl h b hb L hm hL ih=>
  refine⟨fun ht=>(by subst ht;rw[Try.underlying65]at h;cases h),fun ht=>?_⟩
  subst ht
  rw[Try.underlying34]at h
  cases h
  rw[abS]at hb
  cases hb
  have key:∀(L:List (List D)),(∀x∈L,∃e:ak,nQ e (.agg x))→∃l:List ak,fX l (L.map (pack true)):=by
   intro L
   induction L with
   |nil=>intro _;exact⟨[],.nil⟩
   |cons x L Ey=>
    intro h
    obtain⟨e,he⟩:=h x (by simp)
    obtain⟨l,h1⟩:=Ey fun y hy=>h y (by simp[hy])
    exact⟨e::l,.cons _ _ _ _ he h1⟩
  obtain⟨l,h1⟩:=key L fun x hx=>(ih x hx).1 rfl
  refine⟨l,_,_,rfl,?_,h1⟩
  rw[abT]
  exact .ro
 |bool h=>exact⟨fun ht=>(by subst ht;rw[Try.underlying65]at h;cases h),fun ht=>(by subst ht;rw[Try.underlying34]at h;cases h)⟩
 |int h=>exact⟨fun ht=>(by subst ht;rw[Try.underlying65]at h;cases h),fun ht=>(by subst ht;rw[Try.underlying34]at h;cases h)⟩
 |str h=>exact⟨fun ht=>(by subst ht;rw[Try.underlying65]at h;cases h),fun ht=>(by subst ht;rw[Try.underlying34]at h;cases h)⟩
 |array h=>exact⟨fun ht=>(by subst ht;rw[Try.underlying65]at h;cases h),fun ht=>(by subst ht;rw[Try.underlying34]at h;cases h)⟩
theorem adW{xs:List D}(h:Is Try.prog 36 xs):∃t:bH,kh t (pack true xs):=by
 obtain⟨parts,rfl,hl,hp⟩:=h.x8 Try.underlying36
 match parts,hl,hp with
 |[q0,q1,q2],_,hp=>
  obtain⟨n,rfl⟩:=rB (hp 0 _ _ rfl rfl)
  obtain⟨v,rfl⟩:=u3 (hp 1 _ _ rfl rfl)
  obtain⟨l,L,x,rfl,h1,h2⟩:=(aaj (hp 2 _ _ rfl rfl)).2 rfl
  exact⟨⟨n,v,l⟩,.mk x L h1 h2⟩
theorem abU:dO Try.prog 36=some true:=by kernel_rfl
theorem abV:Try.prog.cellsOf 36=3:=by kernel_rfl
theorem adX{xs:List D}(h:Is Try.prog 22 xs):∃(l:List bH) (L:List D) (x:D),xs=[x]∧aW 3 L x∧po l L:=by
 rcases h.JX Try.underlying22 abU with rfl|⟨L,rfl,hm,hL⟩
 ·exact⟨[],[],_,rfl,.nil 0 rfl,rfl,fun{i m}h=>by simp at h⟩
 ·have key:∀(L:List (List D)),(∀x∈L,∃e:bH,kh e (pack true x))→∃l:List bH,po l (L.map (pack true)):=by
   intro L
   induction L with
   |nil=>intro _;exact⟨[],rfl,fun{i m}h=>by simp at h⟩
   |cons x L Ey=>
    intro h
    obtain⟨e,he⟩:=h x (by simp)
    obtain⟨l,h1⟩:=Ey fun y hy=>h y (by simp[hy])
    refine⟨e::l,by simp[h1.len.symm],fun{i m}hi=>?_⟩
    cases i with
    |zero=>simp at hi;subst hi;exact⟨_,rfl,he⟩
    |succ i=>exact h1.at_ (by simpa using hi)
  obtain⟨l,h1⟩:=key L fun x hx=>adW (hL x hx)
  refine⟨l,_,_,rfl,?_,h1⟩
  rw[abV]
  exact .ro
theorem abW:dO Try.prog 22=some false:=by kernel_rfl
end Go.Proofs.Ytimbllcalipehaa.Ab
