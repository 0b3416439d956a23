/-
  TYPED VALUES: words, numbers, bools; what the leaves do with them.
-/
import Derived.Test.YtimbllcalipehaaTc
set_option linter.unusedVariables false
set_option linter.unusedSimpArgs false
namespace Go.Proofs.Ytimbllcalipehaa.Ab
open Go
def dW(x:BitVec 64):D:=.int .u64 (x.toNat:Int)
def dI(n:Int):D:=.int .i64 n
theorem dG{C:bl}{f:FuncId}{args:List SV}{r:D}{k:SV→Prop}(h:C f args (.d r))(hk:k (.d r)):aS C f args k:=⟨.d r,h,rfl,hk⟩
theorem bV{P:Program}{f:FuncId}{fn:Func}(hf:P.funcs[f]? =some fn)(Kp:(fn.name== "runtime.NumGoroutine")=false)(hb:fn.body.isSome=true):lQ P f:=by
 obtain⟨c,hc⟩:=Option.isSome_iff_exists.1 hb
 exact X4 hf Kp hc
theorem Ws{α:Type}(x:α)(k:α→Prop):ab (some x) k=k x:=rfl
theorem Zk(A B:Prop):ar (.d (.bool true)) A B=A:=rfl
theorem Yb(A B:Prop):ar (.d (.bool false)) A B=B:=rfl
theorem aaP(b:Bool)(A B:Prop):ar (.d (.bool b)) A B↔(b=true→A)∧(b=false→B):=by cases b<;>simp[ar]
theorem Zl(x:D):aa (.d x)=.d x:=rfl
theorem aaQ(x:D):SV.ay (.d x)=true:=rfl
theorem gj{F:List SV→List (List SV)→(List SV→List (List SV)→Prop)→Prop}(st:Nat→List SV)(sb:Nat→List (List SV))(n:Nat)
  (iu:∀i,i<n→∀I:List SV→List (List SV)→Prop,I (st (i+1)) (sb (i+1))→F (st i) (sb i) I)(na:∀I,F (st n) (sb n) I):bR F (st 0) (sb 0):=by
 intro I hI
 have key:∀k,k≤n→I (st (n-k)) (sb (n-k)):=by
  intro k
  induction k with
  |zero=>intro _;exact hI _ _ (na I)
  |succ k ih=>
   intro hk
   have:=iu (n-(k+1)) (by omega) I (by rw[show n-(k+1)+1=n-k by omega];exact ih (by omega))
   exact hI _ _ this
 have:=key n (Nat.le_refl _)
 simpa using this
theorem wrap64(n:Int):IntKind.u64.wrap n=n % 2^64:=by simp[IntKind.wrap,IntKind.signed,IntKind.bits]
theorem Ac(x:BitVec 64):BitVec.ofInt 64 (x.toNat:Int)=x:=by
 apply BitVec.eq_of_toNat_eq
 simp
theorem aaR(x y:BitVec 64):ag none .and (.d (dW x)) (.d (dW y))=some (.d (dW (x&&& y))):=by
 simp only[ag,fg,dW,iH,wrap64,↓reduceIte]
 have h:=Int.emod_eq_of_lt (Int.natCast_nonneg (x&&& y).toNat) (b:=2^64) (by have:=(x&&& y).isLt;omega)
 have h1:BitVec.ofInt IntKind.u64.bits (x.toNat:Int)=x:=Ac x
 have h2:BitVec.ofInt IntKind.u64.bits (y.toNat:Int)=y:=Ac y
 rw[h1,h2]
 exact congrArg (fun z=>some (SV.d (.int .u64 z))) h
theorem acd(x y:BitVec 64):ag none .or (.d (dW x)) (.d (dW y))=some (.d (dW (x|||y))):=by
 simp only[ag,fg,dW,iH,wrap64,↓reduceIte]
 have h:=Int.emod_eq_of_lt (Int.natCast_nonneg (x|||y).toNat) (b:=2^64) (by have:=(x|||y).isLt;omega)
 have h1:BitVec.ofInt IntKind.u64.bits (x.toNat:Int)=x:=Ac x
 have h2:BitVec.ofInt IntKind.u64.bits (y.toNat:Int)=y:=Ac y
 rw[h1,h2]
 exact congrArg (fun z=>some (SV.d (.int .u64 z))) h
theorem Xk(x y:BitVec 64):ag none .andNot (.d (dW x)) (.d (dW y))=some (.d (dW (x&&& ~~~y))):=by
 simp only[ag,fg,dW,iH,wrap64,↓reduceIte]
 have h:=Int.emod_eq_of_lt (Int.natCast_nonneg (x&&& ~~~y).toNat) (b:=2^64) (by have:=(x&&& ~~~y).isLt;omega)
 have h1:BitVec.ofInt IntKind.u64.bits (x.toNat:Int)=x:=Ac x
 have h2:BitVec.ofInt IntKind.u64.bits (y.toNat:Int)=y:=Ac y
 rw[h1,h2]
 exact congrArg (fun z=>some (SV.d (.int .u64 z))) h
theorem aaS(x:BitVec 64)(k:IntKind)(n:Nat):ag none .shr (.d (dW x)) (.d (.int k (n:Int)))=some (.d (dW (x>>>n))):=by
 simp only[ag,fg,dW,yx,IntKind.bits]
 rw[if_neg (by omega)]
 simp only[Int.toNat_natCast]
 have:((x.toNat:Int)).fdiv (2^min n 64)=((x>>>n).toNat :Int):=by
  rw[Int.fdiv_eq_ediv_of_nonneg _ (Int.le_of_lt (Int.pow_pos (by decide))),BitVec.toNat_ushiftRight,Nat.shiftRight_eq_div_pow]
  have e:((2:Int)^min n 64)=((2^min n 64:Nat):Int):=by simp
  rw[e,←Int.natCast_ediv]
  congr 1
  rcases Nat.le_total n 64 with h|h
  ·rw[Nat.min_eq_left h]
  ·rw[Nat.min_eq_right h,Nat.div_eq_of_lt x.isLt,Nat.div_eq_of_lt]
   exact Nat.lt_of_lt_of_le x.isLt (Nat.pow_le_pow_right (by decide) h)
 exact congrArg (fun z=>some (SV.d (.int .u64 z))) this
theorem AH{x y:BitVec 64}:((x.toNat:Int)==(y.toNat:Int))=(x==y):=by
 rw[Bool.eq_iff_iff,beq_iff_eq,beq_iff_eq,Int.ofNat_inj,BitVec.toNat_inj]
theorem Qa(x y:BitVec 64):ag (some (false,[.int])) .eql (.d (dW x)) (.d (dW y))=some (.d (.bool (x==y))):=by
 simp only[ag,fg,dW,iH,↓reduceIte]
 rw[AH]
def dS(a b c d:BitVec 64):D:=.agg [dW a,dW b,dW c,dW d]
theorem Zm(a b c d a' b' c' d':BitVec 64):ag (some (true,[.int,.int,.int,.int])) .eql (.d (dS a b c d)) (.d (dS a' b' c' d'))=some (.d (.bool (a==a'&&(b==b'&&(c==c'&&(d==d'&&true)))))):=by
 simp only[ag,fg,dS,dQ,dW,Bool.and_self,cond_true,fK,mX,↓reduceIte,AH]
theorem Zn(a b c d a' b' c' d':BitVec 64):ag (some (true,[.int,.int,.int,.int])) .neq (.d (dS a b c d)) (.d (dS a' b' c' d'))=some (.d (.bool (!(a==a'&&(b==b'&&(c==c'&&(d==d'&&true))))))):=by
 simp only[ag,fg,dS,dQ,dW,Bool.and_self,cond_true,fK,mX,↓reduceIte,AH]
end Go.Proofs.Ytimbllcalipehaa.Ab
namespace Go.Proofs.Ytimbllcalipehaa.Ab
open Go
def tT(w:Nat→BitVec 64):D:=.agg [dW (w 0),dW (w 1),dW (w 2),dW (w 3)]
theorem j4{k n:Nat}(h:k<n):cM (.d (.int .i64 (k:Int))) n=some k:=by
 simp only[cM]
 rw[if_pos ⟨by omega,by omega⟩]
 simp
theorem wrap_i64{n:Int}(h1: -9223372036854775808≤n)(h2:n<9223372036854775808):IntKind.i64.wrap n=n:=by
 show(if(true&&decide (n % 2^64≥2^(64-1)))=true then n % 2^64-2^64 else n % 2^64)=n
 by_cases h:n % 2^64≥2^(64-1)
 ·rw[if_pos (by simpa using h)]
  omega
 ·rw[if_neg (by simpa using h)]
  omega
theorem QR(m n:Int):ag none .lss (.d (.int .i64 m)) (.d (.int .i64 n))=some (.d (.bool (decide (m<n)))):=by
 simp only[ag,fg,iH,↓reduceIte]
theorem Qb(x y:BitVec 64):ag (some (false,[.int])) .neq (.d (dW x)) (.d (dW y))=some (.d (.bool (x != y))):=by
 simp only[ag,fg,dW,iH,↓reduceIte,bne,AH]
def G1(w v:Nat→BitVec 64):Bool:=w 0==v 0&&(w 1==v 1&&(w 2==v 2&&(w 3==v 3&&true)))
theorem aaT(w v:Nat→BitVec 64):ag (some (true,[.int,.int,.int,.int])) .eql (.d (tT w)) (.d (tT v))=some (.d (.bool (G1 w v))):=Zm _ _ _ _ _ _ _ _
theorem aaU(w v:Nat→BitVec 64):ag (some (true,[.int,.int,.int,.int])) .neq (.d (tT w)) (.d (tT v))=some (.d (.bool (!G1 w v))):=Zn _ _ _ _ _ _ _ _
end Go.Proofs.Ytimbllcalipehaa.Ab
namespace Go.Proofs.Ytimbllcalipehaa.Ab
open Go
theorem aP{α:Type}{o:Option α}{k:α→Prop}{x:α}(h:o=some x)(hk:k x):ab o k:=by subst h;exact hk
theorem cw{C:bl}{f:FuncId}{args:List SV}{r:SV}{k:SV→Prop}(h:C f args r)(hr:u4 r=false)(hk:k r):aS C f args k:=⟨r,h,hr,hk⟩
theorem call2{C:bl}{f:FuncId}{args:List SV}{a b:SV}{k:SV→SV→Prop}(h:C f args (.aL [a,b]))(hk:k a b):∃x,∃y,C f args (.aL [x,y])∧k x y:=⟨a,b,h,hk⟩
theorem Zo(a b:Bool):ag (some (false,[.bool])) .eql (.d (.bool a)) (.d (.bool b))=some (.d (.bool (a==b))):=by
 simp only[ag,fg]
theorem Zp(a b:Bool):ag (some (false,[.bool])) .neq (.d (.bool a)) (.d (.bool b))=some (.d (.bool (a != b))):=by
 simp only[ag,fg,bne]
theorem aaV(k:IntKind)(m n:Int):ag none .leq (.d (.int k m)) (.d (.int k n))=some (.d (.bool (decide (m≤n)))):=by
 simp only[ag,fg,iH,↓reduceIte]
theorem aaW(k:IntKind)(m n:Int):ag none .gtr (.d (.int k m)) (.d (.int k n))=some (.d (.bool (decide (m>n)))):=by
 simp only[ag,fg,iH,↓reduceIte]
theorem aaX(k:IntKind)(m n:Int):ag none .lss (.d (.int k m)) (.d (.int k n))=some (.d (.bool (decide (m<n)))):=by
 simp only[ag,fg,iH,↓reduceIte]
theorem aaY(k:IntKind)(m n:Int):ag none .geq (.d (.int k m)) (.d (.int k n))=some (.d (.bool (decide (m≥n)))):=by
 simp only[ag,fg,iH,↓reduceIte]
theorem gx(k:IntKind)(m n:Int):ag (some (false,[.int])) .eql (.d (.int k m)) (.d (.int k n))=some (.d (.bool (m==n))):=by
 simp only[ag,fg,iH,↓reduceIte]
theorem fc(k:IntKind)(m n:Int):ag (some (false,[.int])) .neq (.d (.int k m)) (.d (.int k n))=some (.d (.bool (m != n))):=by
 simp only[ag,fg,iH,↓reduceIte]
theorem wS(a b:List UInt8):ag (some (false,[.str])) .eql (.d (.str a)) (.d (.str b))=some (.d (.bool (a==b))):=by
 simp only[ag,fg,CJ]
theorem Fv(a b:List UInt8):ag (some (false,[.str])) .neq (.d (.str a)) (.d (.str b))=some (.d (.bool (!(a==b)))):=by
 simp only[ag,fg,CJ]
theorem g6(b:Bool):eG .not (.d (.bool b))=some (.d (.bool (!b))):=rfl
theorem Cv{m n:Nat}(h:m+n<2^62):ag none .add (.d (.int .i64 (m:Int))) (.d (.int .i64 (n:Int)))=some (.d (.int .i64 ((m+n:Nat):Int))):=by
 have h2:IntKind.i64.wrap ((m:Int)+(n:Int))=((m+n:Nat):Int):=by rw[wrap_i64 (by omega) (by omega)];omega
 simp only[ag,fg,iH,h2,↓reduceIte]
theorem aY{m n:Nat}(h:m<n)(hn:n≤maxLen):ag none .add (.d (.int .i64 (m:Int))) (.d (.int .i64 1))=some (.d (.int .i64 ((m+1:Nat):Int))):=by
 simp only[maxLen]at hn
 have h2:IntKind.i64.wrap ((m:Int)+1)=((m+1:Nat):Int):=by rw[wrap_i64 (by omega) (by omega)];omega
 simp only[ag,fg,iH,h2,↓reduceIte]
theorem mz{F:List SV→List (List SV)→(List SV→List (List SV)→Prop)→Prop}(J:Nat→Prop)(st:Nat→List SV)(sb:Nat→List (List SV))(n:Nat)(h0:J 0)
  (iu:∀i,i<n→J i→∀I:List SV→List (List SV)→Prop,(J (i+1)→I (st (i+1)) (sb (i+1)))→F (st i) (sb i) I)(na:J n→∀I,F (st n) (sb n) I):bR F (st 0) (sb 0):=by
 intro I hI
 have key:∀k,k≤n→J (n-k)→I (st (n-k)) (sb (n-k)):=by
  intro k
  induction k with
  |zero=>intro _ hj;exact hI _ _ (na hj I)
  |succ k ih=>
   intro hk hj
   have:=iu (n-(k+1)) (by omega) hj I (fun oN=>by rw[show n-(k+1)+1=n-k by omega]at oN ⊢;exact ih (by omega) oN)
   exact hI _ _ this
 have:=key n (Nat.le_refl _)
 simp only[Nat.sub_self]at this
 exact this h0
inductive gz(sz:Nat)(L:List D):SV→Prop
 |nil (s:Nat) (h:L=[]):gz sz L (.d (.sl .nil s []))
 |ro:gz sz L (.d (.sl .ro sz L))
 |full:gz sz L (.full sz L)
inductive aW(sz:Nat)(L:List D):D→Prop
 |nil (s:Nat) (h:L=[]):aW sz L (.sl .nil s [])
 |ro:aW sz L (.sl .ro sz L)
theorem aW.sv{sz:Nat}{L:List D}{x:D}(h:aW sz L x):gz sz L (.d x):=by
 cases h with
 |nil s h=>exact .nil s h
 |ro=>exact .ro
theorem gz.elems{sz:Nat}{L:List D}{x:SV}(h:gz sz L x):elems sz x=some L∧Cd x=some L∧aa x=x:=by
 cases h with
 |nil s h=>subst h;exact⟨rfl,rfl,rfl⟩
 |ro=>exact⟨by simp[Ab.elems],rfl,rfl⟩
 |full=>exact⟨by simp[Ab.elems],rfl,rfl⟩
theorem gz.kR{sz:Nat}{L:List D}{x:SV}(h:gz sz L x):aa x=x:=h.elems.2.2
theorem gz.len{sz:Nat}{L:List D}{x:SV}(h:gz sz L x):aX x=some (.d (.int .i64 (L.length:Int))):=by
 have h2:=h.elems.2.1
 cases h<;>simp[aX,h2]
theorem gz.at{sz:Nat}{L:List D}{x:SV}(h:gz sz L x){i:Nat}{y:D}(hy:L[i]? =some y):aQ sz x (.d (.int .i64 (i:Int)))=some (.aT y 0):=by
 have hi:i<L.length:=(List.getElem?_eq_some_iff.1 hy).1
 have h1:=h.elems.1
 have key:aQ sz x (.d (.int .i64 (i:Int)))=(match Ab.elems sz x with
  |some L=>(match cM (.d (.int .i64 (i:Int))) L.length with
   |some n=>(match L[n]? with|some y=>some (.aT y 0)|none=>none)
   |none=>none)
  |none=>none):=by cases h<;>rfl
 rw[key,h1]
 simp only[]
 rw[j4 hi]
 simp only[hy]
theorem gz.cells{sz:Nat}{L:List D}{x:SV}(h:gz sz L x):az x=some [x]:=by
 cases h<;>rfl
theorem aW.len{sz:Nat}{L:List D}{x:D}(h:aW sz L x):aX (.d x)=some (.d (.int .i64 (L.length:Int))):=h.sv.len
theorem aW.at{sz:Nat}{L:List D}{x:D}(h:aW sz L x){i:Nat}{y:D}(hy:L[i]? =some y):aQ sz (.d x) (.d (.int .i64 (i:Int)))=some (.aT y 0):=h.sv.at hy
theorem wN(s:List UInt8):aI false 1 (.aT (.str s) 0)=some (.d (.str s)):=rfl
theorem Ff(cs:List D)(n:Nat)(h:cs.length=n):aI true n (.aT (.agg cs) 0)=some (.d (.agg cs)):=by
 subst h
 have:pf true cs.length 0 cs=some (.agg cs):=by
  simp only[pf,cond_true,Nat.zero_add,Nat.le_refl,↓reduceIte,List.drop_zero,List.take_length]
 simp only[aI,D.cells,this]
theorem EW(cs:List D)(n:Nat)(y:D)(h:cs[n]? =some y):aI false 1 (.aT (.agg cs) n)=some (.d y):=by
 have:pf false 1 n cs=some y:=by simp only[pf,cond_false,h]
 simp only[aI,D.cells,this]
theorem aaZ(x:D)(o n:Nat):bZ (.aT x o) n=some (.aT x (o+n)):=rfl
theorem QS(x:D)(o:Nat):aa (.aT x o)=.aT x o:=rfl
def cf(l:List (List UInt8)):List D:=l.map .str
theorem iF(l:List (List UInt8)):(cf l).length =l.length:=List.length_map ..
theorem wT{l:List (List UInt8)}{i:Nat}{s:List UInt8}(h:l[i]? =some s):(cf l)[i]? =some (.str s):=by simp[cf,h]
theorem get_some{α:Type}{l:List α}{i:Nat}(h:i<l.length):∃y,l[i]? =some y:=⟨l[i],List.getElem?_eq_getElem h⟩
def first{α:Type}(p:α→Bool):List α→Option Nat
 |[]=>none
 |x::l=>if p x then some 0 else(first p l).map (· +1)
theorem ti{α:Type}{p:α→Bool}:∀{l:List α}{k:Nat}{x:α},l[k]? =some x→p x=true→(∀j y,j<k→l[j]? =some y→p y=false)→first p l=some k
 |[],k,x,h,_,_=>by simp at h
 |y::l,0,x,h,hp,_=>by simp at h;subst h;simp[first,hp]
 |y::l,k+1,x,h,hp,hn=>by
  have h0:=hn 0 y (by omega) (by simp)
  rw[first,h0]
  rw[ti (l:=l) (k:=k) (by simpa using h) hp (fun j z hj hz=>hn (j+1) z (by omega) (by simpa using hz))]
  rfl
theorem s3{α:Type}{p:α→Bool}:∀{l:List α},(∀(j:Nat)y,l[j]? =some y→p y=false)→first p l=none
 |[],_=>rfl
 |y::l,hn=>by
  have h0:=hn 0 y (by simp)
  rw[first,h0,s3 (l:=l) (fun j z hz=>hn (j+1) z (by simpa using hz))]
  rfl
theorem Ik{α:Type}{p:α→Bool}:∀{l:List α}{k:Nat},first p l=some k→∃x,l[k]? =some x∧p x=true∧∀j y,j<k→l[j]? =some y→p y=false
 |[],k,h=>by simp[first]at h
 |y::l,k,h=>by
  rw[first]at h
  by_cases hp:p y=true
  ·rw[if_pos hp]at h
   cases h
   exact⟨y,by simp,hp,fun j _ hj=>by omega⟩
  ·rw[if_neg hp]at h
   obtain⟨k',bK,rfl⟩:=Option.map_eq_some_iff.1 h
   obtain⟨x,h1,h2,h3⟩:=Ik bK
   refine⟨x,by simpa using h1,h2,fun j z hj hz=>?_⟩
   cases j with
   |zero=>simp at hz;subst hz;simpa using hp
   |succ j=>exact h3 j z (by omega) (by simpa using hz)
def orM(o:Option Nat):Int:=match o with|some k=>(k:Int)|none=> -1
theorem wU(o:Option Nat):decide (orM o≥0)=o.isSome:=by
 cases o with
 |none=>decide
 |some k=>simp[orM]
end Go.Proofs.Ytimbllcalipehaa.Ab
namespace Go.Proofs.Ytimbllcalipehaa.Ab
open Go
inductive Xp where
 |mk (op a rel b:Int) (names:List (List UInt8)) (w:Nat→BitVec 64) (kids:List Xp)
def Xp.op:Xp→Int| .mk op _ _ _ _ _ _=>op
def Xp.a:Xp→Int| .mk _ a _ _ _ _ _=>a
def Xp.rel:Xp→Int| .mk _ _ r _ _ _ _=>r
def Xp.b:Xp→Int| .mk _ _ _ b _ _ _=>b
def Xp.names:Xp→List (List UInt8)| .mk _ _ _ _ n _ _=>n
def Xp.w:Xp→Nat→BitVec 64| .mk _ _ _ _ _ w _=>w
def Xp.kids:Xp→List Xp| .mk _ _ _ _ _ _ k=>k
def wj(op a rel b:Int)(nm:D)(w:Nat→BitVec 64)(kd:D):List D:=
 [.int .i64 op,.int .i64 a,.int .i64 rel,.int .i64 b,nm,dW (w 0),dW (w 1),dW (w 2),dW (w 3),kd]
def jL(op a rel b:Int)(nm:D)(w:Nat→BitVec 64)(kd:D):List SV:=
 [.d (.int .i64 op),.d (.int .i64 a),.d (.int .i64 rel),.d (.int .i64 b),.d nm,.d (dW (w 0)),.d (dW (w 1)),.d (dW (w 2)),.d (dW (w 3)),.d kd]
inductive kV:Xp→D→Prop
 |mk (op a rel b:Int) (names:List (List UInt8)) (w:Nat→BitVec 64) (kids:List Xp) (nm kd:D) (L:List D) (hn:aW 1 (cf names) nm) (hl:L.length=kids.length)
   (hk:∀(i:Nat)k y,kids[i]? =some k→L[i]? =some y→kV k y) (hd:aW 10 L kd):kV (.mk op a rel b names w kids) (.agg (wj op a rel b nm w kd))
section
variable(op a rel b:Int)(nm:D)(w:Nat→BitVec 64)(kd:D)
theorem Qc:az (.d (.agg (wj op a rel b nm w kd)))=some (jL op a rel b nm w kd):=rfl
theorem aa0:(jL op a rel b nm w kd).length =10:=rfl
theorem Xl:ah true 10 0 (jL op a rel b nm w kd)=some (.d (.agg (wj op a rel b nm w kd))):=rfl
theorem Zq:ah false 1 0 (jL op a rel b nm w kd)=some (.d (.int .i64 op)):=rfl
theorem Zr:ah false 1 1 (jL op a rel b nm w kd)=some (.d (.int .i64 a)):=rfl
theorem Zs:ah false 1 2 (jL op a rel b nm w kd)=some (.d (.int .i64 rel)):=rfl
theorem Zt:ah false 1 3 (jL op a rel b nm w kd)=some (.d (.int .i64 b)):=rfl
theorem Zu:ah false 1 4 (jL op a rel b nm w kd)=some (.d nm):=rfl
theorem Zv:ah true 4 5 (jL op a rel b nm w kd)=some (.d (tT w)):=rfl
theorem Zw:ah false 1 9 (jL op a rel b nm w kd)=some (.d kd):=rfl
end
theorem kV.inv{e:Xp}{x:D}(h:kV e x):∃nm kd L,x=.agg (wj e.op e.a e.rel e.b nm e.w kd)∧aW 1 (cf e.names) nm∧L.length=e.kids.length∧aW 10 L kd∧
  ∀(i:Nat)k y,e.kids[i]? =some k→L[i]? =some y→kV k y:=by
 cases h with
 |mk op a rel b names w kids nm kd L hn hl hk hd=>exact⟨nm,kd,L,rfl,hn,hl,hd,hk⟩
theorem Yc:aN []=some []:=rfl
def Xp.lv:Xp→Nat
 | .mk _ _ _ _ _ _ kids=>TP kids+1
where TP:List Xp→Nat
 |[]=>0
 |k::l=>max k.lv (TP l)
end Go.Proofs.Ytimbllcalipehaa.Ab
namespace Go.Proofs.Ytimbllcalipehaa.Ab
open Go
end Go.Proofs.Ytimbllcalipehaa.Ab
namespace Go.Proofs.Ytimbllcalipehaa.Ab
open Go
end Go.Proofs.Ytimbllcalipehaa.Ab
namespace Go.Proofs.Ytimbllcalipehaa.Ab
open Go
structure eg where
 u:Int
 r:Int
 t:Int
 ls:Int
 lc:BitVec 64
 hs:Int
 hc:BitVec 64
structure lT where
 f:eg
 s:eg
 t:eg
def qp(c:eg):D:=.agg [.int .i64 c.u,.int .i64 c.r,.int .i64 c.t,.int .i64 c.ls,dW c.lc,.int .i64 c.hs,dW c.hc]
def kg(c:eg):List SV:=[.d (.int .i64 c.u),.d (.int .i64 c.r),.d (.int .i64 c.t),.d (.int .i64 c.ls),.d (dW c.lc),.d (.int .i64 c.hs),.d (dW c.hc)]
def F7(x:lT):D:=.agg [.int .i64 x.f.u,.int .i64 x.f.r,.int .i64 x.f.t,.int .i64 x.f.ls,dW x.f.lc,.int .i64 x.f.hs,dW x.f.hc,
 .int .i64 x.s.u,.int .i64 x.s.r,.int .i64 x.s.t,.int .i64 x.s.ls,dW x.s.lc,.int .i64 x.s.hs,dW x.s.hc,.int .i64 x.t.u,.int .i64 x.t.r,.int .i64 x.t.t,.int .i64 x.t.ls,dW x.t.lc,.int .i64 x.t.hs,dW x.t.hc]
def qf(x:lT):List SV:=[.d (.int .i64 x.f.u),.d (.int .i64 x.f.r),.d (.int .i64 x.f.t),.d (.int .i64 x.f.ls),.d (dW x.f.lc),.d (.int .i64 x.f.hs),.d (dW x.f.hc),
 .d (.int .i64 x.s.u),.d (.int .i64 x.s.r),.d (.int .i64 x.s.t),.d (.int .i64 x.s.ls),.d (dW x.s.lc),.d (.int .i64 x.s.hs),.d (dW x.s.hc),.d (.int .i64 x.t.u),.d (.int .i64 x.t.r),.d (.int .i64 x.t.t),.d (.int .i64 x.t.ls),.d (dW x.t.lc),.d (.int .i64 x.t.hs),.d (dW x.t.hc)]
def jG(l:Int×BitVec 64):D:=.agg [.int .i64 l.1,dW l.2]
def oE(l:Int×BitVec 64):List SV:=[.d (.int .i64 l.1),.d (dW l.2)]
theorem Xm(x:lT):az (.d (F7 x))=some (qf x):=rfl
theorem Zx(x:lT):(qf x).length =21:=rfl
theorem Yd(x:lT):ah true 21 0 (qf x)=some (.d (F7 x)):=rfl
theorem Xn(x:lT):ah true 7 0 (qf x)=some (.d (qp x.f)):=rfl
theorem Xo(x:lT):ah true 7 7 (qf x)=some (.d (qp x.s)):=rfl
theorem Wt(x:lT):ah true 7 14 (qf x)=some (.d (qp x.t)):=rfl
theorem Ye(x:eg):az (.d (qp x))=some (kg x):=rfl
theorem aa1(x:eg):(kg x).length =7:=rfl
theorem Zy(x:eg):ah true 7 0 (kg x)=some (.d (qp x)):=rfl
theorem Yf(x:eg):ah false 1 0 (kg x)=some (.d (.int .i64 x.u)):=rfl
theorem Yg(x:eg):ah false 1 1 (kg x)=some (.d (.int .i64 x.r)):=rfl
theorem Yh(x:eg):ah false 1 2 (kg x)=some (.d (.int .i64 x.t)):=rfl
theorem Yi(x:eg):ah true 2 3 (kg x)=some (.d (jG (x.ls,x.lc))):=rfl
theorem Yj(x:eg):ah true 2 5 (kg x)=some (.d (jG (x.hs,x.hc))):=rfl
theorem aa2(a0 a1 a2 a3 a4 a5 a6:SV)(x:eg):setAt [a0,a1,a2,a3,a4,a5,a6] 0 (kg x)=kg x:=rfl
theorem Yk(l:Int×BitVec 64):az (.d (jG l))=some (oE l):=rfl
theorem aa3(l:Int×BitVec 64):(oE l).length =2:=rfl
theorem Zz(l:Int×BitVec 64):ah true 2 0 (oE l)=some (.d (jG l)):=rfl
theorem Yl(l:Int×BitVec 64):ah false 1 0 (oE l)=some (.d (.int .i64 l.1)):=rfl
theorem Ym(l:Int×BitVec 64):ah false 1 1 (oE l)=some (.d (dW l.2)):=rfl
theorem aa4(a0 a1:SV)(l:Int×BitVec 64):setAt [a0,a1] 0 (oE l)=oE l:=rfl
def Bc(x:eg):D:=.agg [.int .i64 x.ls,dW x.lc,.int .i64 x.hs,dW x.hc]
theorem Yn(x:eg):uT true 4 3 (.d (qp x))=some (.d (Bc x)):=rfl
theorem ZA(x:eg):uT true 2 0 (.d (Bc x))=some (.d (jG (x.ls,x.lc))):=rfl
theorem ZB(x:eg):uT true 2 2 (.d (Bc x))=some (.d (jG (x.hs,x.hc))):=rfl
def BB(a b:Int×BitVec 64):Bool:=a.1==b.1&&(a.2==b.2&&true)
theorem aa5(a b:Int×BitVec 64):ag (some (true,[.int,.int])) .eql (.d (jG a)) (.d (jG b))=some (.d (.bool (BB a b))):=by
 simp only[ag,fg,jG,dQ,dW,Bool.and_self,cond_true,fK,mX,↓reduceIte,AH,BB]
theorem aa6(a b:Int×BitVec 64):ag (some (true,[.int,.int])) .neq (.d (jG a)) (.d (jG b))=some (.d (.bool (!BB a b))):=by
 simp only[ag,fg,jG,dQ,dW,Bool.and_self,cond_true,fK,mX,↓reduceIte,AH,BB]
end Go.Proofs.Ytimbllcalipehaa.Ab
namespace Go.Proofs.Ytimbllcalipehaa.Ab
open Go
def dU(x:BitVec 32):D:=.int .u32 (x.toNat:Int)
structure BC where
 e:Xp
 nm:D
 kd:D
 h:kV e (.agg (wj e.op e.a e.rel e.b nm e.w kd))
def BC.enc(t:BC):D:=.agg (wj t.e.op t.e.a t.e.rel t.e.b t.nm t.e.w t.kd)
theorem BC.is(t:BC):kV t.e t.enc:=t.h
structure nu where
 name:List UInt8
 perms:List (List UInt8)
 J1:D
 agl:aW 1 (cf perms) J1
 agm:perms.length≤maxLen
def nu.enc(t:nu):D:=.agg [.str t.name,t.J1]
def nu.cells(t:nu):List SV:=[.d (.str t.name),.d (t.J1)]
theorem nu.c(t:nu):az (.d t.enc)=some t.cells:=rfl
theorem nu.n(t:nu):t.cells.length=2:=rfl
theorem nu.a(t:nu):ah true 2 0 t.cells=some (.d t.enc):=rfl
theorem nu.st(t:nu)(a0 a1:SV):setAt [a0,a1] 0 t.cells=t.cells:=by
 unfold nu.cells
 simp only[setAt,List.set_cons_zero,List.set_cons_succ]
structure nv where
 name:List UInt8
 iT:List (List UInt8)
 K2:D
 agv:aW 1 (cf iT) K2
 agw:iT.length≤maxLen
 pm:Bool
def nv.enc(t:nv):D:=.agg [.str t.name,t.K2,.bool t.pm]
def nv.cells(t:nv):List SV:=[.d (.str t.name),.d (t.K2),.d (.bool t.pm)]
theorem nv.c(t:nv):az (.d t.enc)=some t.cells:=rfl
theorem nv.n(t:nv):t.cells.length=3:=rfl
theorem nv.a(t:nv):ah true 3 0 t.cells=some (.d t.enc):=rfl
theorem nv.st(t:nv)(a0 a1 a2:SV):setAt [a0,a1,a2] 0 t.cells=t.cells:=by
 unfold nv.cells
 simp only[setAt,List.set_cons_zero,List.set_cons_succ]
structure nz where
 name:List UInt8
 w:Nat→BitVec 64
def nz.enc(t:nz):D:=.agg [.str t.name,dW (t.w 0),dW (t.w 1),dW (t.w 2),dW (t.w 3)]
def nz.cells(t:nz):List SV:=[.d (.str t.name),.d (dW (t.w 0)),.d (dW (t.w 1)),.d (dW (t.w 2)),.d (dW (t.w 3))]
theorem nz.c(t:nz):az (.d t.enc)=some t.cells:=rfl
theorem nz.n(t:nz):t.cells.length=5:=rfl
theorem nz.a(t:nz):ah true 5 0 t.cells=some (.d t.enc):=rfl
theorem nz.st(t:nz)(a0 a1 a2 a3 a4:SV):setAt [a0,a1,a2,a3,a4] 0 t.cells=t.cells:=by
 unfold nz.cells
 simp only[setAt,List.set_cons_zero,List.set_cons_succ]
structure nA where
 name:List UInt8
 tw:Nat→BitVec 64
 nw:Nat→BitVec 64
def nA.enc(t:nA):D:=.agg [.str t.name,dW (t.tw 0),dW (t.tw 1),dW (t.tw 2),dW (t.tw 3),dW (t.nw 0),dW (t.nw 1),dW (t.nw 2),dW (t.nw 3)]
def nA.cells(t:nA):List SV:=[.d (.str t.name),.d (dW (t.tw 0)),.d (dW (t.tw 1)),.d (dW (t.tw 2)),.d (dW (t.tw 3)),.d (dW (t.nw 0)),.d (dW (t.nw 1)),.d (dW (t.nw 2)),.d (dW (t.nw 3))]
theorem nA.c(t:nA):az (.d t.enc)=some t.cells:=rfl
theorem nA.n(t:nA):t.cells.length=9:=rfl
theorem nA.a(t:nA):ah true 9 0 t.cells=some (.d t.enc):=rfl
theorem nA.st(t:nA)(a0 a1 a2 a3 a4 a5 a6 a7 a8:SV):setAt [a0,a1,a2,a3,a4,a5,a6,a7,a8] 0 t.cells=t.cells:=by
 unfold nA.cells
 simp only[setAt,List.set_cons_zero,List.set_cons_succ]
structure nB where
 name:List UInt8
 rw:Nat→BitVec 64
 df:Int×BitVec 64
 rg:(Int×BitVec 64)×(Int×BitVec 64)
def nB.enc(t:nB):D:=.agg [.str t.name,dW (t.rw 0),dW (t.rw 1),dW (t.rw 2),dW (t.rw 3),.int .i64 t.df.1,dW t.df.2,.int .i64 t.rg.1.1,dW t.rg.1.2,.int .i64 t.rg.2.1,dW t.rg.2.2]
def nB.cells(t:nB):List SV:=[.d (.str t.name),.d (dW (t.rw 0)),.d (dW (t.rw 1)),.d (dW (t.rw 2)),.d (dW (t.rw 3)),.d (.int .i64 t.df.1),.d (dW t.df.2),.d (.int .i64 t.rg.1.1),.d (dW t.rg.1.2),.d (.int .i64 t.rg.2.1),.d (dW t.rg.2.2)]
theorem nB.c(t:nB):az (.d t.enc)=some t.cells:=rfl
theorem nB.n(t:nB):t.cells.length=11:=rfl
theorem nB.a(t:nB):ah true 11 0 t.cells=some (.d t.enc):=rfl
theorem nB.st(t:nB)(a0 a1 a2 a3 a4 a5 a6 a7 a8 a9 wk:SV):setAt [a0,a1,a2,a3,a4,a5,a6,a7,a8,a9,wk] 0 t.cells=t.cells:=by
 unfold nB.cells
 simp only[setAt,List.set_cons_zero,List.set_cons_succ]
structure nC where
 name:List UInt8
 v:Bool
def nC.enc(t:nC):D:=.agg [.str t.name,.bool t.v]
def nC.cells(t:nC):List SV:=[.d (.str t.name),.d (.bool t.v)]
theorem nC.c(t:nC):az (.d t.enc)=some t.cells:=rfl
theorem nC.n(t:nC):t.cells.length=2:=rfl
theorem nC.a(t:nC):ah true 2 0 t.cells=some (.d t.enc):=rfl
theorem nC.st(t:nC)(a0 a1:SV):setAt [a0,a1] 0 t.cells=t.cells:=by
 unfold nC.cells
 simp only[setAt,List.set_cons_zero,List.set_cons_succ]
structure nD where
 kind:Int
 sw:Nat→BitVec 64
 tw:Nat→BitVec 64
 self:Bool
 cls:Int
 perms:BitVec 32
 cond:Int
def nD.enc(t:nD):D:=.agg [.int .i64 t.kind,dW (t.sw 0),dW (t.sw 1),dW (t.sw 2),dW (t.sw 3),dW (t.tw 0),dW (t.tw 1),dW (t.tw 2),dW (t.tw 3),.bool t.self,.int .i64 t.cls,dU t.perms,.int .i64 t.cond]
def nD.cells(t:nD):List SV:=[.d (.int .i64 t.kind),.d (dW (t.sw 0)),.d (dW (t.sw 1)),.d (dW (t.sw 2)),.d (dW (t.sw 3)),.d (dW (t.tw 0)),.d (dW (t.tw 1)),.d (dW (t.tw 2)),.d (dW (t.tw 3)),.d (.bool t.self),.d (.int .i64 t.cls),.d (dU t.perms),.d (.int .i64 t.cond)]
theorem nD.c(t:nD):az (.d t.enc)=some t.cells:=rfl
theorem nD.n(t:nD):t.cells.length=13:=rfl
theorem nD.a(t:nD):ah true 13 0 t.cells=some (.d t.enc):=rfl
theorem nD.st(t:nD)(a0 a1 a2 a3 a4 a5 a6 a7 a8 a9 wk zK zL:SV):setAt [a0,a1,a2,a3,a4,a5,a6,a7,a8,a9,wk,zK,zL] 0 t.cells=t.cells:=by
 unfold nD.cells
 simp only[setAt,List.set_cons_zero,List.set_cons_succ]
structure nE where
 kind:Int
 sw:Nat→BitVec 64
 tw:Nat→BitVec 64
 cls:Int
 name:List UInt8
 res:Int
 cond:Int
def nE.enc(t:nE):D:=.agg [.int .i64 t.kind,dW (t.sw 0),dW (t.sw 1),dW (t.sw 2),dW (t.sw 3),dW (t.tw 0),dW (t.tw 1),dW (t.tw 2),dW (t.tw 3),.int .i64 t.cls,.str t.name,.int .i64 t.res,.int .i64 t.cond]
def nE.cells(t:nE):List SV:=[.d (.int .i64 t.kind),.d (dW (t.sw 0)),.d (dW (t.sw 1)),.d (dW (t.sw 2)),.d (dW (t.sw 3)),.d (dW (t.tw 0)),.d (dW (t.tw 1)),.d (dW (t.tw 2)),.d (dW (t.tw 3)),.d (.int .i64 t.cls),.d (.str t.name),.d (.int .i64 t.res),.d (.int .i64 t.cond)]
theorem nE.c(t:nE):az (.d t.enc)=some t.cells:=rfl
theorem nE.n(t:nE):t.cells.length=13:=rfl
theorem nE.a(t:nE):ah true 13 0 t.cells=some (.d t.enc):=rfl
theorem nE.st(t:nE)(a0 a1 a2 a3 a4 a5 a6 a7 a8 a9 wk zK zL:SV):setAt [a0,a1,a2,a3,a4,a5,a6,a7,a8,a9,wk,zK,zL] 0 t.cells=t.cells:=by
 unfold nE.cells
 simp only[setAt,List.set_cons_zero,List.set_cons_succ]
structure nF where
 rw:Nat→BitVec 64
 tw:Nat→BitVec 64
 cls:Int
 res:Int
def nF.enc(t:nF):D:=.agg [dW (t.rw 0),dW (t.rw 1),dW (t.rw 2),dW (t.rw 3),dW (t.tw 0),dW (t.tw 1),dW (t.tw 2),dW (t.tw 3),.int .i64 t.cls,.int .i64 t.res]
def nF.cells(t:nF):List SV:=[.d (dW (t.rw 0)),.d (dW (t.rw 1)),.d (dW (t.rw 2)),.d (dW (t.rw 3)),.d (dW (t.tw 0)),.d (dW (t.tw 1)),.d (dW (t.tw 2)),.d (dW (t.tw 3)),.d (.int .i64 t.cls),.d (.int .i64 t.res)]
theorem nF.c(t:nF):az (.d t.enc)=some t.cells:=rfl
theorem nF.n(t:nF):t.cells.length=10:=rfl
theorem nF.a(t:nF):ah true 10 0 t.cells=some (.d t.enc):=rfl
theorem nF.st(t:nF)(a0 a1 a2 a3 a4 a5 a6 a7 a8 a9:SV):setAt [a0,a1,a2,a3,a4,a5,a6,a7,a8,a9] 0 t.cells=t.cells:=by
 unfold nF.cells
 simp only[setAt,List.set_cons_zero,List.set_cons_succ]
structure nG where
 sw:Nat→BitVec 64
 tw:Nat→BitVec 64
 cls:Int
 rg:(Int×BitVec 64)×(Int×BitVec 64)
def nG.enc(t:nG):D:=.agg [dW (t.sw 0),dW (t.sw 1),dW (t.sw 2),dW (t.sw 3),dW (t.tw 0),dW (t.tw 1),dW (t.tw 2),dW (t.tw 3),.int .i64 t.cls,.int .i64 t.rg.1.1,dW t.rg.1.2,.int .i64 t.rg.2.1,dW t.rg.2.2]
def nG.cells(t:nG):List SV:=[.d (dW (t.sw 0)),.d (dW (t.sw 1)),.d (dW (t.sw 2)),.d (dW (t.sw 3)),.d (dW (t.tw 0)),.d (dW (t.tw 1)),.d (dW (t.tw 2)),.d (dW (t.tw 3)),.d (.int .i64 t.cls),.d (.int .i64 t.rg.1.1),.d (dW t.rg.1.2),.d (.int .i64 t.rg.2.1),.d (dW t.rg.2.2)]
theorem nG.c(t:nG):az (.d t.enc)=some t.cells:=rfl
theorem nG.n(t:nG):t.cells.length=13:=rfl
theorem nG.a(t:nG):ah true 13 0 t.cells=some (.d t.enc):=rfl
theorem nG.st(t:nG)(a0 a1 a2 a3 a4 a5 a6 a7 a8 a9 wk zK zL:SV):setAt [a0,a1,a2,a3,a4,a5,a6,a7,a8,a9,wk,zK,zL] 0 t.cells=t.cells:=by
 unfold nG.cells
 simp only[setAt,List.set_cons_zero,List.set_cons_succ]
structure nH where
 cls:Int
 perms:BitVec 32
 val:Bool
 e:Xp
 nm:D
 kd:D
 h:kV e (.agg (wj e.op e.a e.rel e.b nm e.w kd))
def nH.enc(t:nH):D:=.agg [.int .i64 t.cls,dU t.perms,.bool t.val,.int .i64 t.e.op,.int .i64 t.e.a,.int .i64 t.e.rel,.int .i64 t.e.b,t.nm,dW (t.e.w 0),dW (t.e.w 1),dW (t.e.w 2),dW (t.e.w 3),t.kd]
def nH.cells(t:nH):List SV:=[.d (.int .i64 t.cls),.d (dU t.perms),.d (.bool t.val),.d (.int .i64 t.e.op),.d (.int .i64 t.e.a),.d (.int .i64 t.e.rel),.d (.int .i64 t.e.b),.d (t.nm),.d (dW (t.e.w 0)),.d (dW (t.e.w 1)),.d (dW (t.e.w 2)),.d (dW (t.e.w 3)),.d (t.kd)]
theorem nH.c(t:nH):az (.d t.enc)=some t.cells:=rfl
theorem nH.n(t:nH):t.cells.length=13:=rfl
theorem nH.a(t:nH):ah true 13 0 t.cells=some (.d t.enc):=rfl
theorem nH.st(t:nH)(a0 a1 a2 a3 a4 a5 a6 a7 a8 a9 wk zK zL:SV):setAt [a0,a1,a2,a3,a4,a5,a6,a7,a8,a9,wk,zK,zL] 0 t.cells=t.cells:=by
 unfold nH.cells
 simp only[setAt,List.set_cons_zero,List.set_cons_succ]
structure nI where
 name:List UInt8
 ctx:eg
def nI.enc(t:nI):D:=.agg [.str t.name,.int .i64 t.ctx.u,.int .i64 t.ctx.r,.int .i64 t.ctx.t,.int .i64 t.ctx.ls,dW t.ctx.lc,.int .i64 t.ctx.hs,dW t.ctx.hc]
def nI.cells(t:nI):List SV:=[.d (.str t.name),.d (.int .i64 t.ctx.u),.d (.int .i64 t.ctx.r),.d (.int .i64 t.ctx.t),.d (.int .i64 t.ctx.ls),.d (dW t.ctx.lc),.d (.int .i64 t.ctx.hs),.d (dW t.ctx.hc)]
theorem nI.c(t:nI):az (.d t.enc)=some t.cells:=rfl
theorem nI.n(t:nI):t.cells.length=8:=rfl
theorem nI.a(t:nI):ah true 8 0 t.cells=some (.d t.enc):=rfl
theorem nI.st(t:nI)(a0 a1 a2 a3 a4 a5 a6 a7:SV):setAt [a0,a1,a2,a3,a4,a5,a6,a7] 0 t.cells=t.cells:=by
 unfold nI.cells
 simp only[setAt,List.set_cons_zero,List.set_cons_succ]
structure nJ where
 pat:List UInt8
 kind:Int
 ctx:eg
def nJ.enc(t:nJ):D:=.agg [.str t.pat,.int .i64 t.kind,.int .i64 t.ctx.u,.int .i64 t.ctx.r,.int .i64 t.ctx.t,.int .i64 t.ctx.ls,dW t.ctx.lc,.int .i64 t.ctx.hs,dW t.ctx.hc]
def nJ.cells(t:nJ):List SV:=[.d (.str t.pat),.d (.int .i64 t.kind),.d (.int .i64 t.ctx.u),.d (.int .i64 t.ctx.r),.d (.int .i64 t.ctx.t),.d (.int .i64 t.ctx.ls),.d (dW t.ctx.lc),.d (.int .i64 t.ctx.hs),.d (dW t.ctx.hc)]
theorem nJ.c(t:nJ):az (.d t.enc)=some t.cells:=rfl
theorem nJ.n(t:nJ):t.cells.length=9:=rfl
theorem nJ.a(t:nJ):ah true 9 0 t.cells=some (.d t.enc):=rfl
theorem nJ.st(t:nJ)(a0 a1 a2 a3 a4 a5 a6 a7 a8:SV):setAt [a0,a1,a2,a3,a4,a5,a6,a7,a8] 0 t.cells=t.cells:=by
 unfold nJ.cells
 simp only[setAt,List.set_cons_zero,List.set_cons_succ]
structure nK where
 name:List UInt8
 kind:Int
 sw:Nat→BitVec 64
 tw:Nat→BitVec 64
def nK.enc(t:nK):D:=.agg [.str t.name,.int .i64 t.kind,dW (t.sw 0),dW (t.sw 1),dW (t.sw 2),dW (t.sw 3),dW (t.tw 0),dW (t.tw 1),dW (t.tw 2),dW (t.tw 3)]
def nK.cells(t:nK):List SV:=[.d (.str t.name),.d (.int .i64 t.kind),.d (dW (t.sw 0)),.d (dW (t.sw 1)),.d (dW (t.sw 2)),.d (dW (t.sw 3)),.d (dW (t.tw 0)),.d (dW (t.tw 1)),.d (dW (t.tw 2)),.d (dW (t.tw 3))]
theorem nK.c(t:nK):az (.d t.enc)=some t.cells:=rfl
theorem nK.n(t:nK):t.cells.length=10:=rfl
theorem nK.a(t:nK):ah true 10 0 t.cells=some (.d t.enc):=rfl
theorem nK.st(t:nK)(a0 a1 a2 a3 a4 a5 a6 a7 a8 a9:SV):setAt [a0,a1,a2,a3,a4,a5,a6,a7,a8,a9] 0 t.cells=t.cells:=by
 unfold nK.cells
 simp only[setAt,List.set_cons_zero,List.set_cons_succ]
structure xf where
 cl:List nu
 Mj:D
 clH:aW 2 (List.map nu.enc cl) Mj
 clM:cl.length≤maxLen
 ty:List nv
 Mk:D
 tyH:aW 3 (List.map nv.enc ty) Mk
 tyM:ty.length≤maxLen
 at_:List nz
 K3:D
 agx:aW 5 (List.map nz.enc at_) K3
 agy:at_.length≤maxLen
 ro:List nA
 Ml:D
 roH:aW 9 (List.map nA.enc ro) Ml
 roM:ro.length≤maxLen
 us:List nB
 Mm:D
 usH:aW 11 (List.map nB.enc us) Mm
 usM:us.length≤maxLen
 bo:List nC
 Mn:D
 boH:aW 2 (List.map nC.enc bo) Mn
 boM:bo.length≤maxLen
 se:List (List UInt8)
 Mo:D
 seH:aW 1 (cf se) Mo
 seM:se.length≤maxLen
 ca:List (List UInt8)
 Mp:D
 caH:aW 1 (cf ca) Mp
 caM:ca.length≤maxLen
 co:List BC
 Mq:D
 coH:aW 10 (List.map BC.enc co) Mq
 coM:co.length≤maxLen
 ru:List nD
 Mr:D
 ruH:aW 13 (List.map nD.enc ru) Mr
 ruM:ru.length≤maxLen
 tr:List nE
 Ms:D
 trH:aW 13 (List.map nE.enc tr) Ms
 trM:tr.length≤maxLen
 rt:List nF
 Mt:D
 rtH:aW 10 (List.map nF.enc rt) Mt
 rtM:rt.length≤maxLen
 ra:List nG
 Mu:D
 raH:aW 13 (List.map nG.enc ra) Mu
 raM:ra.length≤maxLen
 cs:List nH
 Mv:D
 csH:aW 13 (List.map nH.enc cs) Mv
 csM:cs.length≤maxLen
 si:List nI
 Mw:D
 siH:aW 8 (List.map nI.enc si) Mw
 siM:si.length≤maxLen
 fi:List nJ
 Mx:D
 fiH:aW 9 (List.map nJ.enc fi) Mx
 fiM:fi.length≤maxLen
 TQ:List nK
 K4:D
 agz:aW 10 (List.map nK.enc TQ) K4
 agA:TQ.length≤maxLen
def SQ(p:xf):D:=.agg [p.Mj,p.Mk,p.K3,p.Ml,p.Mm,p.Mn,p.Mo,p.Mp,p.Mq,p.Mr,p.Ms,p.Mt,p.Mu,p.Mv,p.Mw,p.Mx,p.K4]
def K5(p:xf):List SV:=[.d p.Mj,.d p.Mk,.d p.K3,.d p.Ml,.d p.Mm,.d p.Mn,.d p.Mo,.d p.Mp,.d p.Mq,.d p.Mr,.d p.Ms,.d p.Mt,.d p.Mu,.d p.Mv,.d p.Mw,.d p.Mx,.d p.K4]
theorem xf.c(p:xf):az (.d (SQ p))=some (K5 p):=rfl
theorem xf.n(p:xf):(K5 p).length =17:=rfl
theorem xf.a(p:xf):ah true 17 0 (K5 p)=some (.d (SQ p)):=rfl
end Go.Proofs.Ytimbllcalipehaa.Ab
namespace Go.Proofs.Ytimbllcalipehaa.Ab
open Go
section
variable{P:Program}{gl:Nat→Option D}{h:Hints}{f:FuncId}{args:List SV}
end
theorem tj{α:Type}{F:List SV→List (List SV)→(List SV→List (List SV)→Prop)→Prop}(J:Nat→α→Prop)(st:Nat→α→List SV)(sb:Nat→α→List (List SV))(n:Nat)(a0:α)(h0:J 0 a0)
  (iu:∀i a,i<n→J i a→∀I:List SV→List (List SV)→Prop,(∀a',J (i+1) a'→I (st (i+1) a') (sb (i+1) a'))→F (st i a) (sb i a) I)(na:∀a,J n a→∀I,F (st n a) (sb n a) I):bR F (st 0 a0) (sb 0 a0):=by
 intro I hI
 have key:∀k,k≤n→∀a,J (n-k) a→I (st (n-k) a) (sb (n-k) a):=by
  intro k
  induction k with
  |zero=>intro _ a hj;exact hI _ _ (na a hj I)
  |succ k ih=>
   intro hk a hj
   refine hI _ _ (iu (n-(k+1)) a (by omega) hj I fun a' oN=>?_)
   rw[show n-(k+1)+1=n-k by omega]at oN ⊢
   exact ih (by omega) a' oN
 have:=key n (Nat.le_refl _)
 simp only[Nat.sub_self]at this
 exact this a0 h0
def bd(sz:Nat)(L:List D):SV:=match L with
 |[]=>.d (.sl .nil 0 [])
 |L=>.own sz L
theorem j3(sz:Nat)(L:List D):u4 (bd sz L)=false:=by cases L<;>rfl
theorem k7(sz:Nat)(L:List D):(bd sz L).ay =true:=by cases L<;>rfl
theorem OO(sz:Nat)(L:List D):az (bd sz L)=some [bd sz L]:=by cases L<;>rfl
def bz(sz:Nat)(L:List D):D:=match L with
 |[]=>.sl .nil 0 []
 |L=>.sl .ro sz L
theorem dM(sz:Nat)(L:List D):aa (bd sz L)=.d (bz sz L):=by cases L<;>rfl
theorem dC(sz:Nat)(L:List D):aW sz L (bz sz L):=by cases L with
 |nil=>exact .nil 0 rfl
 |cons a L=>exact .ro
theorem g4{sz cP:Nat}{L M:List D}{x:SV}{k:SV→Prop}(hx:elems sz x=some M)(hb:(L.length+M.length)*cP≤140737488355328)(hk:k (bd sz (L++M))):bI sz cP (bd sz L) x k:=by
 unfold bI
 cases L with
 |nil=>
  have:kH sz (bd sz []) x=some (bd sz M,M.length):=by
   simp only[bd,kH,hx]
   cases M with
   |nil=>rfl
   |cons a M=>rfl
  rw[this]
  exact⟨by simpa using hb,hk⟩
 |cons a L=>
  have:kH sz (bd sz (a::L)) x=some (bd sz (a::L++M),(a::L).length +M.length):=by
   simp only[bd,kH,hx,↓reduceIte,List.cons_append]
  rw[this]
  exact⟨hb,hk⟩
def fM(sz:Nat)(L M:List D):SV:=if M=[]then .full sz L else .own sz (L++M)
theorem Fg{sz cP:Nat}{L M:List D}{x:SV}{k:SV→Prop}(hx:elems sz x=some M)(hb:(L.length+M.length)*cP≤140737488355328)(hk:k (fM sz L M)):bI sz cP (.full sz L) x k:=by
 unfold bI
 by_cases hM:M=[]
 ·have:kH sz (.full sz L) x=some (fM sz L M,L.length):=by
   simp only[kH,hx,hM,↓reduceIte,fM]
  rw[this]
  refine⟨?_,hk⟩
  exact Nat.le_trans (Nat.mul_le_mul_right _ (Nat.le_add_right _ _)) hb
 ·have:kH sz (.full sz L) x=some (fM sz L M,L.length+M.length):=by
   simp only[kH,hx,hM,↓reduceIte,fM]
  rw[this]
  exact⟨hb,hk⟩
theorem aa7(sz:Nat)(L M:List D):gz sz (L++M) (aa (fM sz L M)):=by
 unfold fM
 by_cases hM:M=[]
 ·rw[if_pos hM,hM,List.append_nil];exact .full
 ·rw[if_neg hM];exact .ro
theorem nU(sz:Nat)(L:List D):elems sz (.full sz L)=some L:=by simp[elems]
theorem aa8{sz:Nat}{L:List D}{x:SV}(h:gz sz L x):Ab.elems sz x=some L:=h.elems.1
theorem Fh(s:List UInt8):aN [(0,.v (.d (.str s)))]=some [(0,.str s)]:=rfl
theorem FO(s:List UInt8):bf 1 1 [(0,.str s)]=true:=rfl
theorem Fi(z:D)(s:List UInt8):bj z [(0,.str s)] 1 0=[.str s]:=rfl
end Go.Proofs.Ytimbllcalipehaa.Ab
namespace Go.Proofs.Ytimbllcalipehaa.Ab
open Go
theorem wrap32(n:Int):IntKind.u32.wrap n=n % 2^32:=by simp[IntKind.wrap,IntKind.signed,IntKind.bits]
theorem NF(x:BitVec 32):BitVec.ofInt 32 (x.toNat:Int)=x:=by
 apply BitVec.eq_of_toNat_eq
 simp
theorem orU(x y:BitVec 32):ag none .or (.d (dU x)) (.d (dU y))=some (.d (dU (x|||y))):=by
 simp only[ag,fg,dU,iH,wrap32,↓reduceIte]
 have h:=Int.emod_eq_of_lt (Int.natCast_nonneg (x|||y).toNat) (b:=2^32) (by have:=(x|||y).isLt;omega)
 have h1:BitVec.ofInt IntKind.u32.bits (x.toNat:Int)=x:=NF x
 have h2:BitVec.ofInt IntKind.u32.bits (y.toNat:Int)=y:=NF y
 rw[h1,h2]
 exact congrArg (fun z=>some (SV.d (.int .u32 z))) h
theorem afg(x:BitVec 32)(k:IntKind)(n:Nat):ag none .shr (.d (dU x)) (.d (.int k (n:Int)))=some (.d (dU (x>>>n))):=by
 simp only[ag,fg,dU,yx,IntKind.bits]
 rw[if_neg (by omega)]
 simp only[Int.toNat_natCast]
 have:((x.toNat:Int)).fdiv (2^min n 32)=((x>>>n).toNat :Int):=by
  rw[Int.fdiv_eq_ediv_of_nonneg _ (Int.le_of_lt (Int.pow_pos (by decide))),BitVec.toNat_ushiftRight,Nat.shiftRight_eq_div_pow]
  have e:((2:Int)^min n 32)=((2^min n 32:Nat):Int):=by simp
  rw[e,←Int.natCast_ediv]
  congr 1
  rcases Nat.le_total n 32 with h|h
  ·rw[Nat.min_eq_left h]
  ·rw[Nat.min_eq_right h,Nat.div_eq_of_lt x.isLt,Nat.div_eq_of_lt]
   exact Nat.lt_of_lt_of_le x.isLt (Nat.pow_le_pow_right (by decide) h)
 exact congrArg (fun z=>some (SV.d (.int .u32 z))) this
theorem RD{x y:BitVec 32}:((x.toNat:Int)==(y.toNat:Int))=(x==y):=by
 rw[Bool.eq_iff_iff,beq_iff_eq,beq_iff_eq,Int.ofNat_inj,BitVec.toNat_inj]
theorem TR(x y:BitVec 32):ag (some (false,[.int])) .eql (.d (dU x)) (.d (dU y))=some (.d (.bool (x==y))):=by
 simp only[ag,fg,dU,iH,↓reduceIte,RD]
theorem TS(x y:BitVec 32):ag (some (false,[.int])) .neq (.d (dU x)) (.d (dU y))=some (.d (.bool (x != y))):=by
 simp only[ag,fg,dU,iH,↓reduceIte,bne,RD]
theorem afh(x:BitVec 32):ag (some (false,[.int])) .eql (.d (dU x)) (.d (.int .u32 0))=some (.d (.bool (x==0))):=TR x 0
theorem afi(x:BitVec 32):ag (some (false,[.int])) .neq (.d (dU x)) (.d (.int .u32 0))=some (.d (.bool (x != 0))):=TS x 0
theorem afj(x:BitVec 64):ag (some (false,[.int])) .eql (.d (dW x)) (.d (.int .u64 0))=some (.d (.bool (x==0))):=Qa x 0
theorem afk(x:BitVec 64):ag (some (false,[.int])) .neq (.d (dW x)) (.d (.int .u64 0))=some (.d (.bool (x != 0))):=Qb x 0
def eP(s:List UInt8)(l:List (List UInt8)):Bool:=l.any (· ==s)
theorem Ch{s:List UInt8}{l:List (List UInt8)}:eP s l=true↔s∈l:=by
 simp[eP]
theorem Qd{s t:List UInt8}{l:List (List UInt8)}{i:Nat}(h:l[i]? =some t)(he:(t==s)=true):eP s l=true:=by
 rw[Ch]
 have:t=s:=by simpa using he
 subst this
 exact List.mem_of_getElem? h
theorem Px{s:List UInt8}{l:List (List UInt8)}(h:∀(i:Nat)t,l[i]? =some t→(t==s)=false):eP s l=false:=by
 cases hh:eP s l with
 |false=>rfl
 |true=>
  obtain⟨i,hi⟩:=List.mem_iff_getElem?.1 (Ch.1 hh)
  have:=h i s hi
  simp at this
theorem dZ{α:Type}{l:List α}{i:Nat}{x:α}(h:l[i]? =some x):l.take (i+1)=l.take i++[x]:=by
 rw[List.take_add_one,h];rfl
theorem ZC(sz:Nat):SV.d (.sl .nil 0 [])=bd sz []:=rfl
theorem Qe{sz cP:Nat}{L M N:List D}{x:SV}{k:SV→Prop}(hx:elems sz x=some N)(hb:(L.length+M.length+N.length)*cP≤140737488355328)(hk:k (fM sz L (M++N))):bI sz cP (fM sz L M) x k:=by
 by_cases hM:M=[]
 ·subst hM
  rw[fM,if_pos rfl]
  exact Fg hx (by simpa using hb) hk
 ·have e:fM sz L M=.own sz (L++M):=by rw[fM,if_neg hM]
  have e':fM sz L (M++N)=.own sz (L++(M++N)):=by rw[fM,if_neg (by simp[hM])]
  rw[e]
  rw[e']at hk
  unfold bI
  have:kH sz (.own sz (L++M)) x=some (.own sz (L++(M++N)),(L++M).length +N.length):=by
   simp only[kH,hx,↓reduceIte,List.append_assoc]
  rw[this]
  exact⟨by rw[List.length_append];exact hb,hk⟩
theorem Yo(sz:Nat)(L:List D):SV.full sz L=fM sz L []:=by rw[fM,if_pos rfl]
end Go.Proofs.Ytimbllcalipehaa.Ab
namespace Go.Proofs.Ytimbllcalipehaa.Ab
open Go
end Go.Proofs.Ytimbllcalipehaa.Ab
namespace Go.Proofs.Ytimbllcalipehaa.Ab
open Go
theorem sS:((((((∀(x:D),aa (SV.d x)=SV.d x)∧((∀(x:D)(o:Nat),aa (SV.aT x o)=SV.aT x o)∧(∀{α:Type}(x:α)(k:α→Prop),ab (some x) k=k x)))∧((∀(x:D),SV.ay (SV.d x)=true)∧((∀(b:Bool)(A B:Prop),ar (SV.d (D.bool b)) A B↔(b=true→A)∧(b=false→B))∧(∀(A B:Prop),ar (SV.d (D.bool true)) A B=A))))∧(((∀(A B:Prop),ar (SV.d (D.bool false)) A B=B)∧((∀(k:IntKind)(m n:Int),ag (some (false,[CK.int])) BinOp.eql (SV.d (D.int k m)) (SV.d (D.int k n))=some (SV.d (D.bool (m==n))))∧(∀(k:IntKind)(m n:Int),ag (some (false,[CK.int])) BinOp.neq (SV.d (D.int k m)) (SV.d (D.int k n))=some (SV.d (D.bool (m != n))))))∧(((∀(k:IntKind)(m n:Int),ag none BinOp.lss (SV.d (D.int k m)) (SV.d (D.int k n))=some (SV.d (D.bool (decide (m<n)))))∧(∀(k:IntKind)(m n:Int),ag none BinOp.leq (SV.d (D.int k m)) (SV.d (D.int k n))=some (SV.d (D.bool (decide (m≤n))))))∧((∀(k:IntKind)(m n:Int),ag none BinOp.gtr (SV.d (D.int k m)) (SV.d (D.int k n))=some (SV.d (D.bool (decide (m>n)))))∧(∀(k:IntKind)(m n:Int),ag none BinOp.geq (SV.d (D.int k m)) (SV.d (D.int k n))=some (SV.d (D.bool (decide (m≥n)))))))))∧((((∀(b:Bool),eG UnOp.not (SV.d (D.bool b))=some (SV.d (D.bool !b)))∧((∀(a b:Bool),ag (some (false,[CK.bool])) BinOp.eql (SV.d (D.bool a)) (SV.d (D.bool b))=some (SV.d (D.bool (a==b))))∧(∀(a b:Bool),ag (some (false,[CK.bool])) BinOp.neq (SV.d (D.bool a)) (SV.d (D.bool b))=some (SV.d (D.bool (a != b))))))∧(((∀(w v:Nat→BitVec 64),ag (some (true,[CK.int,CK.int,CK.int,CK.int])) BinOp.eql (SV.d (tT w)) (SV.d (tT v))=some (SV.d (D.bool (G1 w v))))∧(∀(w v:Nat→BitVec 64),ag (some (true,[CK.int,CK.int,CK.int,CK.int])) BinOp.neq (SV.d (tT w)) (SV.d (tT v))=some (SV.d (D.bool !G1 w v))))∧((∀(op a rel b:Int)(nm:D)(w:Nat→BitVec 64)(kd:D),az (SV.d (D.agg (wj op a rel b nm w kd)))=some (jL op a rel b nm w kd))∧(∀(op a rel b:Int)(nm:D)(w:Nat→BitVec 64)(kd:D),List.length (jL op a rel b nm w kd)=10))))∧(((∀(op a rel b:Int)(nm:D)(w:Nat→BitVec 64)(kd:D),ah true 10 0 (jL op a rel b nm w kd)=some (SV.d (D.agg (wj op a rel b nm w kd))))∧((∀(op a rel b:Int)(nm:D)(w:Nat→BitVec 64)(kd:D),ah false 1 0 (jL op a rel b nm w kd)=some (SV.d (D.int IntKind.i64 op)))∧(∀(op a rel b:Int)(nm:D)(w:Nat→BitVec 64)(kd:D),ah false 1 1 (jL op a rel b nm w kd)=some (SV.d (D.int IntKind.i64 a)))))∧(((∀(op a rel b:Int)(nm:D)(w:Nat→BitVec 64)(kd:D),ah false 1 2 (jL op a rel b nm w kd)=some (SV.d (D.int IntKind.i64 rel)))∧(∀(op a rel b:Int)(nm:D)(w:Nat→BitVec 64)(kd:D),ah false 1 3 (jL op a rel b nm w kd)=some (SV.d (D.int IntKind.i64 b))))∧((∀(op a rel b:Int)(nm:D)(w:Nat→BitVec 64)(kd:D),ah false 1 4 (jL op a rel b nm w kd)=some (SV.d nm))∧(∀(op a rel b:Int)(nm:D)(w:Nat→BitVec 64)(kd:D),ah true 4 5 (jL op a rel b nm w kd)=some (SV.d (tT w))))))))∧(((((∀(op a rel b:Int)(nm:D)(w:Nat→BitVec 64)(kd:D),ah false 1 9 (jL op a rel b nm w kd)=some (SV.d kd))∧((aN []=some [])∧(∀(x:lT),az (SV.d (F7 x))=some (qf x))))∧(((∀(x:lT),List.length (qf x)=21)∧(∀(x:lT),ah true 21 0 (qf x)=some (SV.d (F7 x))))∧((∀(x:lT),ah true 7 0 (qf x)=some (SV.d (qp (lT.f x))))∧(∀(x:lT),ah true 7 7 (qf x)=some (SV.d (qp (lT.s x)))))))∧(((∀(x:lT),ah true 7 14 (qf x)=some (SV.d (qp (lT.t x))))∧((∀(x:eg),az (SV.d (qp x))=some (kg x))∧(∀(x:eg),List.length (kg x)=7)))∧(((∀(x:eg),ah true 7 0 (kg x)=some (SV.d (qp x)))∧(∀(x:eg),ah false 1 0 (kg x)=some (SV.d (D.int IntKind.i64 (eg.u x)))))∧((∀(x:eg),ah false 1 1 (kg x)=some (SV.d (D.int IntKind.i64 (eg.r x))))∧(∀(x:eg),ah false 1 2 (kg x)=some (SV.d (D.int IntKind.i64 (eg.t x))))))))∧((((∀(x:eg),ah true 2 3 (kg x)=some (SV.d (jG (eg.ls x,eg.lc x))))∧((∀(x:eg),ah true 2 5 (kg x)=some (SV.d (jG (eg.hs x,eg.hc x))))∧(∀(a0 a1 a2 a3 a4 a5 a6:SV)(x:eg),setAt [a0,a1,a2,a3,a4,a5,a6] 0 (kg x)=kg x)))∧(((∀(l:Int×BitVec 64),az (SV.d (jG l))=some (oE l))∧(∀(l:Int×BitVec 64),List.length (oE l)=2))∧((∀(l:Int×BitVec 64),ah true 2 0 (oE l)=some (SV.d (jG l)))∧(∀(l:Int×BitVec 64),ah false 1 0 (oE l)=some (SV.d (D.int IntKind.i64 (Prod.fst l)))))))∧(((∀(l:Int×BitVec 64),ah false 1 1 (oE l)=some (SV.d (dW (Prod.snd l))))∧((∀(a0 a1:SV)(l:Int×BitVec 64),setAt [a0,a1] 0 (oE l)=oE l)∧(∀(x:eg),uT true 4 3 (SV.d (qp x))=some (SV.d (Bc x)))))∧(((∀(x:eg),uT true 2 0 (SV.d (Bc x))=some (SV.d (jG (eg.ls x,eg.lc x))))∧(∀(x:eg),uT true 2 2 (SV.d (Bc x))=some (SV.d (jG (eg.hs x,eg.hc x)))))∧((∀(a b:Int×BitVec 64),ag (some (true,[CK.int,CK.int])) BinOp.eql (SV.d (jG a)) (SV.d (jG b))=some (SV.d (D.bool (BB a b))))∧(∀(a b:Int×BitVec 64),ag (some (true,[CK.int,CK.int])) BinOp.neq (SV.d (jG a)) (SV.d (jG b))=some (SV.d (D.bool !BB a b))))))))):=⟨⟨⟨⟨⟨@Zl,⟨@QS,@Ws⟩⟩,⟨@aaQ,⟨@aaP,@Zk⟩⟩⟩,⟨⟨@Yb,⟨@gx,@fc⟩⟩,⟨⟨@aaX,@aaV⟩,⟨@aaW,@aaY⟩⟩⟩⟩,⟨⟨⟨@g6,⟨@Zo,@Zp⟩⟩,⟨⟨@aaT,@aaU⟩,⟨@Qc,@aa0⟩⟩⟩,⟨⟨@Xl,⟨@Zq,@Zr⟩⟩,⟨⟨@Zs,@Zt⟩,⟨@Zu,@Zv⟩⟩⟩⟩⟩,⟨⟨⟨⟨@Zw,⟨@Yc,@Xm⟩⟩,⟨⟨@Zx,@Yd⟩,⟨@Xn,@Xo⟩⟩⟩,⟨⟨@Wt,⟨@Ye,@aa1⟩⟩,⟨⟨@Zy,@Yf⟩,⟨@Yg,@Yh⟩⟩⟩⟩,⟨⟨⟨@Yi,⟨@Yj,@aa2⟩⟩,⟨⟨@Yk,@aa3⟩,⟨@Zz,@Yl⟩⟩⟩,⟨⟨@Ym,⟨@aa4,@Yn⟩⟩,⟨⟨@ZA,@ZB⟩,⟨@aa5,@aa6⟩⟩⟩⟩⟩⟩
end Go.Proofs.Ytimbllcalipehaa.Ab
namespace Go.Proofs.Ytimbllcalipehaa.Ab
open Go
end Go.Proofs.Ytimbllcalipehaa.Ab
namespace Go.Proofs.Ytimbllcalipehaa.Ab
open Go
theorem sW:(((((∀(x y:BitVec 64),ag none BinOp.and (SV.d (dW x)) (SV.d (dW y))=some (SV.d (dW (x&&& y))))∧(∀(x y:BitVec 64),ag none BinOp.or (SV.d (dW x)) (SV.d (dW y))=some (SV.d (dW (x|||y)))))∧((∀(x y:BitVec 64),ag none BinOp.andNot (SV.d (dW x)) (SV.d (dW y))=some (SV.d (dW (x&&& ~~~y))))∧(∀(x:BitVec 64)(k:IntKind)(n:Nat),ag none BinOp.shr (SV.d (dW x)) (SV.d (D.int k ↑n))=some (SV.d (dW (x>>>n))))))∧(((∀(x y:BitVec 64),ag (some (false,[CK.int])) BinOp.eql (SV.d (dW x)) (SV.d (dW y))=some (SV.d (D.bool (x==y))))∧(∀(x y:BitVec 64),ag (some (false,[CK.int])) BinOp.neq (SV.d (dW x)) (SV.d (dW y))=some (SV.d (D.bool (x != y)))))∧((∀(x:BitVec 64),ag (some (false,[CK.int])) BinOp.eql (SV.d (dW x)) (SV.d (D.int IntKind.u64 0))=some (SV.d (D.bool (x==0))))∧(∀(x:BitVec 64),ag (some (false,[CK.int])) BinOp.neq (SV.d (dW x)) (SV.d (D.int IntKind.u64 0))=some (SV.d (D.bool (x != 0)))))))∧((((∀(x:BitVec 32),ag (some (false,[CK.int])) BinOp.eql (SV.d (dU x)) (SV.d (D.int IntKind.u32 0))=some (SV.d (D.bool (x==0))))∧(∀(x:BitVec 32),ag (some (false,[CK.int])) BinOp.neq (SV.d (dU x)) (SV.d (D.int IntKind.u32 0))=some (SV.d (D.bool (x != 0)))))∧((∀(x y:BitVec 32),ag (some (false,[CK.int])) BinOp.eql (SV.d (dU x)) (SV.d (dU y))=some (SV.d (D.bool (x==y))))∧(∀(x y:BitVec 32),ag (some (false,[CK.int])) BinOp.neq (SV.d (dU x)) (SV.d (dU y))=some (SV.d (D.bool (x != y))))))∧(((∀(x:BitVec 32)(k:IntKind)(n:Nat),ag none BinOp.shr (SV.d (dU x)) (SV.d (D.int k ↑n))=some (SV.d (dU (x>>>n))))∧(∀(x y:BitVec 32),ag none BinOp.or (SV.d (dU x)) (SV.d (dU y))=some (SV.d (dU (x|||y)))))∧((∀(x:D)(o n:Nat),bZ (SV.aT x o) n=some (SV.aT x (o+n)))∧((∀(x:D)(o:Nat),aa (SV.aT x o)=SV.aT x o)∧(∀(s:List UInt8),aI false 1 (SV.aT (D.str s) 0)=some (SV.d (D.str s)))))))):=⟨⟨⟨⟨@aaR,@acd⟩,⟨@Xk,@aaS⟩⟩,⟨⟨@Qa,@Qb⟩,⟨@afj,@afk⟩⟩⟩,⟨⟨⟨@afh,@afi⟩,⟨@TR,@TS⟩⟩,⟨⟨@afg,@orU⟩,⟨@aaZ,⟨@QS,@wN⟩⟩⟩⟩⟩
end Go.Proofs.Ytimbllcalipehaa.Ab
namespace Go.Proofs.Ytimbllcalipehaa.Ab
open Go
end Go.Proofs.Ytimbllcalipehaa.Ab
namespace Go.Proofs.Ytimbllcalipehaa.Ab
open Go
theorem IG(n:Nat):lenOf (.d (.int .i64 (n:Int))) (.d (.int .i64 (n:Int)))=some n:=by
 simp[lenOf]
end Go.Proofs.Ytimbllcalipehaa.Ab
namespace Go.Proofs.Ytimbllcalipehaa.Ab
open Go
theorem QT{P:Program}{e:TypeId}{b:Bool}{α:Type}{f:α→D}(h1:∀x,Is P e x→∃t,pack b x=f t):∀(L:List (List D)),(∀x∈L,Is P e x)→∃l:List α,L.map (pack b)=l.map f∧l.length=L.length
 |[],_=>⟨[],rfl,rfl⟩
 |x::L,h=>by
  obtain⟨t,ht⟩:=h1 x (h x List.mem_cons_self)
  obtain⟨l,hl,hn⟩:=QT h1 L (fun y hy=>h y (List.mem_cons_of_mem _ hy))
  exact⟨t::l,by rw[List.map_cons,List.map_cons,hl,ht],by simp[hn]⟩
end Go.Proofs.Ytimbllcalipehaa.Ab
