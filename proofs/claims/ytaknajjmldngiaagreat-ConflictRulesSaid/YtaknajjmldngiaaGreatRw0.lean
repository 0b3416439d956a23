/-
  THE ARGUMENTS: expressions, contexts, cases.
-/
import Derived.Test.YtaknajjmldngiaaGreatTh
import Derived.Test.YtaknajjmldngiaaGreatTe
import Derived.Test.YtaknajjmldngiaaGreatChecked
set_option linter.unusedVariables false
set_option linter.unusedSimpArgs false
namespace Go.Proofs.YtaknajjmldngiaaGreat.Ab
open Go
theorem Pv:dh Tryz.prog 9=some false:=by kernel_rfl
theorem agG:dh Tryz.prog 3=some false:=by kernel_rfl
theorem agH:dh Tryz.prog 4=some false:=by kernel_rfl
theorem O0:dh Tryz.prog 73=some true:=by kernel_rfl
theorem Ot:Tryz.prog.cellsOf 9=1:=by kernel_rfl
theorem Ou:Tryz.prog.cellsOf 73=10:=by kernel_rfl
theorem pf{xs:List D}(h:Is Tryz.prog 9 xs):∃s,xs=[.str s]:=by
 obtain⟨s,rfl,_⟩:=h.ti Tryz.underlying9
 exact⟨s,rfl⟩
theorem DE{xs:List D}(h:Is Tryz.prog 4 xs):∃b,xs=[.bool b]:=h.rB Tryz.underlying4
theorem jl{xs:List D}(h:Is Tryz.prog 3 xs):∃n,xs=[.int .i64 n]:=by
 obtain⟨n,rfl,_⟩:=h.o8 Tryz.underlying3
 exact⟨n,rfl⟩
theorem ZV{xs:List D}(h:Is Tryz.prog 28 xs):∃(l:List (List UInt8)) (x:D),xs=[x]∧cw 1 (bT l) x:=by
 rcases h.k9 Tryz.underlying28 Pv with rfl|⟨L,rfl,hm,hL⟩
 ·exact⟨[],_,rfl,.nil 0 rfl⟩
 ·obtain⟨l,hl,hn⟩:=kC (b:=false) (f:=D.str) (fun x hx=>by obtain⟨s,rfl⟩:=pf hx;exact⟨s,rfl⟩) L hL
  refine⟨l,_,rfl,?_⟩
  rw[hl,Ot]
  exact .ro
theorem AQ{xs:List D}(h:Is Tryz.prog 46 xs):∃x:BitVec 64,xs=[dW x]:=by
 obtain⟨n,rfl,hn⟩:=h.o8 Tryz.underlying46
 rw[CH]at hn
 have h0:0≤n:=hn.1
 have h1:n≤18446744073709551615:=hn.2
 obtain⟨m,rfl⟩:=Int.eq_ofNat_of_zero_le h0
 refine⟨BitVec.ofNat 64 m,?_⟩
 have:(BitVec.ofNat 64 m).toNat =m:=by
  rw[BitVec.toNat_ofNat]
  exact Nat.mod_eq_of_lt (by omega)
 rw[dW,this]
theorem mw{xs:List D}(h:Is Tryz.prog 48 xs):∃w:Nat→BitVec 64,xs=[dW (w 0),dW (w 1),dW (w 2),dW (w 3)]:=by
 obtain⟨parts,rfl,hl,hp⟩:=h.V6 Tryz.underlying48
 match parts,hl,hp with
 |[a,b,c,d],_,hp=>
  obtain⟨x,rfl⟩:=AQ (hp a (by simp))
  obtain⟨y,rfl⟩:=AQ (hp b (by simp))
  obtain⟨z,rfl⟩:=AQ (hp c (by simp))
  obtain⟨u,rfl⟩:=AQ (hp d (by simp))
  exact⟨fun i=>if i=0 then x else if i=1 then y else if i=2 then z else u,rfl⟩
theorem H4{xs:List D}(h:Is Tryz.prog 60 xs):∃(s:Int) (c:BitVec 64),xs=[.int .i64 s,dW c]:=by
 obtain⟨parts,rfl,hl,hp⟩:=h.ku Tryz.underlying60
 match parts,hl,hp with
 |[a,b],_,hp=>
  obtain⟨s,rfl⟩:=jl (hp 0 _ _ rfl rfl)
  obtain⟨c,rfl⟩:=AQ (hp 1 _ _ rfl rfl)
  exact⟨s,c,rfl⟩
theorem H5{xs:List D}(h:Is Tryz.prog 62 xs):∃(s:Int) (c:BitVec 64) (s':Int) (c':BitVec 64),xs=[.int .i64 s,dW c,.int .i64 s',dW c']:=by
 obtain⟨parts,rfl,hl,hp⟩:=h.ku Tryz.underlying62
 match parts,hl,hp with
 |[a,b],_,hp=>
  obtain⟨s,c,rfl⟩:=H4 (hp 0 _ _ rfl rfl)
  obtain⟨s',c',rfl⟩:=H4 (hp 1 _ _ rfl rfl)
  exact⟨s,c,s',c',rfl⟩
theorem O3{xs:List D}(h:Is Tryz.prog 66 xs):∃c:dn,xs=[.int .i64 c.u,.int .i64 c.r,.int .i64 c.t,.int .i64 c.ls,dW c.lc,.int .i64 c.hs,dW c.hc]:=by
 obtain⟨parts,rfl,hl,hp⟩:=h.ku Tryz.underlying66
 match parts,hl,hp with
 |[a,b,c,d],_,hp=>
  obtain⟨u,rfl⟩:=jl (hp 0 _ _ rfl rfl)
  obtain⟨r,rfl⟩:=jl (hp 1 _ _ rfl rfl)
  obtain⟨t,rfl⟩:=jl (hp 2 _ _ rfl rfl)
  obtain⟨s,x,s',x',rfl⟩:=H5 (hp 3 _ _ rfl rfl)
  exact⟨⟨u,r,t,s,x,s',x'⟩,rfl⟩
theorem rM:rJ Tryz.prog [9,3,4,28,46,111,48,29,73,60,62,66,116,22,109,23,119,24,121,25,123,26,125,27,127,30,50,31,58,32,64,33,113,34,130,35,68,36,168,37,39]=true:=by kernel_rfl
theorem WW{t:TypeId}{xs:List D}(h:Is Tryz.prog t xs):(t=73→∃e:Xp,fW e (.agg xs))∧
  (t=29→∃(l:List Xp) (L:List D) (x:D),xs=[x]∧cw 10 L x∧L.length=l.length∧∀(i:Nat)k y,l[i]? =some k→L[i]? =some y→fW k y):=by
 have hx:73≠29:=by decide
 induction h with
 |struct h parts hl hp ih=>
  refine⟨fun ht=>?_,fun ht=>?_⟩
  ·subst ht
   rw[Tryz.underlying73]at h
   cases h
   match parts,hl,hp,ih with
   |[a,b,c,d,n,s,k],_,hp,ih=>
    obtain⟨op,rfl⟩:=jl (hp 0 _ _ rfl rfl)
    obtain⟨a',rfl⟩:=jl (hp 1 _ _ rfl rfl)
    obtain⟨rel,rfl⟩:=jl (hp 2 _ _ rfl rfl)
    obtain⟨b',rfl⟩:=jl (hp 3 _ _ rfl rfl)
    obtain⟨names,nm,rfl,hn⟩:=ZV (hp 4 _ _ rfl rfl)
    obtain⟨w,rfl⟩:=mw (hp 5 _ _ rfl rfl)
    obtain⟨l,L,x,rfl,hd,fU,hk⟩:=(ih 6 _ _ rfl rfl).2 rfl
    exact⟨_,.mk op a' rel b' names w l nm x L hn fU hk hd⟩
  ·subst ht
   rw[Tryz.underlying29]at h
   cases h
 |jm h=>exact⟨fun ht=>(by subst ht;rw[Tryz.underlying73]at h;cases h),fun ht=>⟨[],[],_,rfl,.nil 0 rfl,rfl,fun i k y h1=>by simp at h1⟩⟩
 |sl h b hb L hm hL ih=>
  refine⟨fun ht=>(by subst ht;rw[Tryz.underlying73]at h;cases h),fun ht=>?_⟩
  subst ht
  rw[Tryz.underlying29]at h
  cases h
  rw[O0]at hb
  cases hb
  have key:∀(L:List (List D)),(∀x∈L,∃e:Xp,fW e (.agg x))→∃l:List Xp,(L.map (pack true)).length =l.length∧∀(i:Nat)k y,l[i]? =some k→(L.map (pack true))[i]? =some y→fW k y:=by
   intro L
   induction L with
   |nil=>intro _;exact⟨[],rfl,fun i k y h1=>by simp at h1⟩
   |cons x L ihL=>
    intro h
    obtain⟨e,he⟩:=h x (by simp)
    obtain⟨l,h1,h2⟩:=ihL fun y hy=>h y (by simp[hy])
    refine⟨e::l,by simp at h1 ⊢;exact h1,fun i k y a b=>?_⟩
    cases i with
    |zero=>simp at a b;subst a b;exact he
    |succ i=>exact h2 i k y (by simpa using a) (by simpa using b)
  obtain⟨l,h1,h2⟩:=key L fun x hx=>(ih x hx).1 rfl
  refine⟨l,_,_,rfl,?_,h1,h2⟩
  rw[Ou]
  exact .ro
 |bool h=>exact⟨fun ht=>(by subst ht;rw[Tryz.underlying73]at h;cases h),fun ht=>(by subst ht;rw[Tryz.underlying29]at h;cases h)⟩
 |int h=>exact⟨fun ht=>(by subst ht;rw[Tryz.underlying73]at h;cases h),fun ht=>(by subst ht;rw[Tryz.underlying29]at h;cases h)⟩
 |str h=>exact⟨fun ht=>(by subst ht;rw[Tryz.underlying73]at h;cases h),fun ht=>(by subst ht;rw[Tryz.underlying29]at h;cases h)⟩
 |array h=>exact⟨fun ht=>(by subst ht;rw[Tryz.underlying73]at h;cases h),fun ht=>(by subst ht;rw[Tryz.underlying29]at h;cases h)⟩
theorem aex{xs:List D}(h:Is Tryz.prog 73 xs):∃e:Xp,fW e (pack true xs):=(WW h).1 rfl
end Go.Proofs.YtaknajjmldngiaaGreat.Ab
