/-
  TYPED VALUES: words, numbers, bools; what the leaves do with them.
-/
import Derived.Test.YtimbllcalipehaaTc
import Derived.Test.YtimbllcalipehaaTd
set_option linter.unusedVariables false
set_option linter.unusedSimpArgs false
namespace Go.Proofs.Ytimbllcalipehaa.Ab
open Go
def dW(x:BitVec 64):D:=.int .u64 (x.toNat:Int)
def dI(n:Int):D:=.int .i64 n
theorem dZ{C:bA}{f:FuncId}{args:List SV}{r:D}{k:SV→Prop}(h:C f args (.d r))(hk:k (.d r)):ba C f args k:=⟨.d r,h,rfl,hk⟩
theorem cb{P:Program}{f:FuncId}{fn:Func}(hf:P.funcs[f]? =some fn)(P3:(fn.name== "runtime.NumGoroutine")=false)(hb:fn.body.isSome=true):n0 P f:=by
 obtain⟨c,hc⟩:=Option.isSome_iff_exists.1 hb
 exact ac0 hf P3 hc
theorem abj{α:Type}(x:α)(k:α→Prop):ab (some x) k=k x:=rfl
theorem ael(A B:Prop):au (.d (.bool true)) A B=A:=rfl
theorem ac7(A B:Prop):au (.d (.bool false)) A B=B:=rfl
theorem afS(b:Bool)(A B:Prop):au (.d (.bool b)) A B↔(b=true→A)∧(b=false→B):=by cases b<;>simp[au]
theorem aem(x:D):aa (.d x)=.d x:=rfl
theorem afT(x:D):SV.aD (.d x)=true:=rfl
theorem fV{F:List SV→List (List SV)→(List SV→List (List SV)→Prop)→Prop}(st:Nat→List SV)(sb:Nat→List (List SV))(n:Nat)
  (jD:∀i,i<n→∀I:List SV→List (List SV)→Prop,I (st (i+1)) (sb (i+1))→F (st i) (sb i) I)(pQ:∀I,F (st n) (sb n) I):bT F (st 0) (sb 0):=by
 intro I hI
 have key:∀k,k≤n→I (st (n-k)) (sb (n-k)):=by
  intro k
  induction k with
  |zero=>intro _;exact hI _ _ (pQ I)
  |succ k ih=>
   intro hk
   have:=jD (n-(k+1)) (by omega) I (by rw[show n-(k+1)+1=n-k by omega];exact ih (by omega))
   exact hI _ _ this
 have:=key n (Nat.le_refl _)
 simpa using this
theorem wrap64(n:Int):IntKind.u64.wrap n=n % 2^64:=by simp[IntKind.wrap,IntKind.signed,IntKind.bits]
theorem Di(x:BitVec 64):BitVec.ofInt 64 (x.toNat:Int)=x:=by
 apply BitVec.eq_of_toNat_eq
 simp
theorem afU(x y:BitVec 64):ai none .and (.d (dW x)) (.d (dW y))=some (.d (dW (x&&& y))):=by
 simp only[ai,gH,dW,k7,wrap64,↓reduceIte]
 have h:=Int.emod_eq_of_lt (Int.natCast_nonneg (x&&& y).toNat) (b:=2^64) (by have:=(x&&& y).isLt;omega)
 have h1:BitVec.ofInt IntKind.u64.bits (x.toNat:Int)=x:=Di x
 have h2:BitVec.ofInt IntKind.u64.bits (y.toNat:Int)=y:=Di y
 rw[h1,h2]
 exact congrArg (fun z=>some (SV.d (.int .u64 z))) h
theorem ahm(x y:BitVec 64):ai none .or (.d (dW x)) (.d (dW y))=some (.d (dW (x|||y))):=by
 simp only[ai,gH,dW,k7,wrap64,↓reduceIte]
 have h:=Int.emod_eq_of_lt (Int.natCast_nonneg (x|||y).toNat) (b:=2^64) (by have:=(x|||y).isLt;omega)
 have h1:BitVec.ofInt IntKind.u64.bits (x.toNat:Int)=x:=Di x
 have h2:BitVec.ofInt IntKind.u64.bits (y.toNat:Int)=y:=Di y
 rw[h1,h2]
 exact congrArg (fun z=>some (SV.d (.int .u64 z))) h
theorem aca(x y:BitVec 64):ai none .andNot (.d (dW x)) (.d (dW y))=some (.d (dW (x&&& ~~~y))):=by
 simp only[ai,gH,dW,k7,wrap64,↓reduceIte]
 have h:=Int.emod_eq_of_lt (Int.natCast_nonneg (x&&& ~~~y).toNat) (b:=2^64) (by have:=(x&&& ~~~y).isLt;omega)
 have h1:BitVec.ofInt IntKind.u64.bits (x.toNat:Int)=x:=Di x
 have h2:BitVec.ofInt IntKind.u64.bits (y.toNat:Int)=y:=Di y
 rw[h1,h2]
 exact congrArg (fun z=>some (SV.d (.int .u64 z))) h
theorem afV(x:BitVec 64)(k:IntKind)(n:Nat):ai none .shr (.d (dW x)) (.d (.int k (n:Int)))=some (.d (dW (x>>>n))):=by
 simp only[ai,gH,dW,FY,IntKind.bits]
 rw[if_neg (by omega)]
 simp only[Int.toNat_natCast]
 have:((x.toNat:Int)).fdiv (2^min n 64)=((x>>>n).toNat :Int):=by
  rw[Int.fdiv_eq_ediv_of_nonneg _ (Int.le_of_lt (Int.pow_pos (by decide))),BitVec.toNat_ushiftRight,Nat.shiftRight_eq_div_pow]
  have e:((2:Int)^min n 64)=((2^min n 64:Nat):Int):=by simp
  rw[e,←Int.natCast_ediv]
  congr 1
  rcases Nat.le_total n 64 with h|h
  ·rw[Nat.min_eq_left h]
  ·rw[Nat.min_eq_right h,Nat.div_eq_of_lt x.isLt,Nat.div_eq_of_lt]
   exact Nat.lt_of_lt_of_le x.isLt (Nat.pow_le_pow_right (by decide) h)
 exact congrArg (fun z=>some (SV.d (.int .u64 z))) this
theorem DP{x y:BitVec 64}:((x.toNat:Int)==(y.toNat:Int))=(x==y):=by
 rw[Bool.eq_iff_iff,beq_iff_eq,beq_iff_eq,Int.ofNat_inj,BitVec.toNat_inj]
theorem We(x y:BitVec 64):ai (some (false,[.int])) .eql (.d (dW x)) (.d (dW y))=some (.d (.bool (x==y))):=by
 simp only[ai,gH,dW,k7,↓reduceIte]
 rw[DP]
def dS(a b c d:BitVec 64):D:=.agg [dW a,dW b,dW c,dW d]
theorem aen(a b c d a' b' c' d':BitVec 64):ai (some (true,[.int,.int,.int,.int])) .eql (.d (dS a b c d)) (.d (dS a' b' c' d'))=some (.d (.bool (a==a'&&(b==b'&&(c==c'&&(d==d'&&true)))))):=by
 simp only[ai,gH,dS,eK,dW,Bool.and_self,cond_true,gF,oY,↓reduceIte,DP]
theorem aeo(a b c d a' b' c' d':BitVec 64):ai (some (true,[.int,.int,.int,.int])) .neq (.d (dS a b c d)) (.d (dS a' b' c' d'))=some (.d (.bool (!(a==a'&&(b==b'&&(c==c'&&(d==d'&&true))))))):=by
 simp only[ai,gH,dS,eK,dW,Bool.and_self,cond_true,gF,oY,↓reduceIte,DP]
end Go.Proofs.Ytimbllcalipehaa.Ab
namespace Go.Proofs.Ytimbllcalipehaa.Ab
open Go
def xh(w:Nat→BitVec 64):D:=.agg [dW (w 0),dW (w 1),dW (w 2),dW (w 3)]
theorem je{k n:Nat}(h:k<n):cN (.d (.int .i64 (k:Int))) n=some k:=by
 simp only[cN]
 rw[if_pos ⟨by omega,by omega⟩]
 simp
theorem wrap_i64{n:Int}(h1: -9223372036854775808≤n)(h2:n<9223372036854775808):IntKind.i64.wrap n=n:=by
 show(if(true&&decide (n % 2^64≥2^(64-1)))=true then n % 2^64-2^64 else n % 2^64)=n
 by_cases h:n % 2^64≥2^(64-1)
 ·rw[if_pos (by simpa using h)]
  omega
 ·rw[if_neg (by simpa using h)]
  omega
theorem W9(m n:Int):ai none .lss (.d (.int .i64 m)) (.d (.int .i64 n))=some (.d (.bool (decide (m<n)))):=by
 simp only[ai,gH,k7,↓reduceIte]
theorem Wg(x y:BitVec 64):ai (some (false,[.int])) .neq (.d (dW x)) (.d (dW y))=some (.d (.bool (x != y))):=by
 simp only[ai,gH,dW,k7,↓reduceIte,bne,DP]
def Md(w v:Nat→BitVec 64):Bool:=w 0==v 0&&(w 1==v 1&&(w 2==v 2&&(w 3==v 3&&true)))
theorem afW(w v:Nat→BitVec 64):ai (some (true,[.int,.int,.int,.int])) .eql (.d (xh w)) (.d (xh v))=some (.d (.bool (Md w v))):=aen _ _ _ _ _ _ _ _
theorem afX(w v:Nat→BitVec 64):ai (some (true,[.int,.int,.int,.int])) .neq (.d (xh w)) (.d (xh v))=some (.d (.bool (!Md w v))):=aeo _ _ _ _ _ _ _ _
end Go.Proofs.Ytimbllcalipehaa.Ab
namespace Go.Proofs.Ytimbllcalipehaa.Ab
open Go
theorem aU{α:Type}{o:Option α}{k:α→Prop}{x:α}(h:o=some x)(hk:k x):ab o k:=by subst h;exact hk
theorem cV{C:bA}{f:FuncId}{args:List SV}{r:SV}{k:SV→Prop}(h:C f args r)(hr:wW r=false)(hk:k r):ba C f args k:=⟨r,h,hr,hk⟩
theorem call2{C:bA}{f:FuncId}{args:List SV}{a b:SV}{k:SV→SV→Prop}(h:C f args (.aJ [a,b]))(hk:k a b):∃x,∃y,C f args (.aJ [x,y])∧k x y:=⟨a,b,h,hk⟩
theorem aep(a b:Bool):ai (some (false,[.bool])) .eql (.d (.bool a)) (.d (.bool b))=some (.d (.bool (a==b))):=by
 simp only[ai,gH]
theorem aeq(a b:Bool):ai (some (false,[.bool])) .neq (.d (.bool a)) (.d (.bool b))=some (.d (.bool (a != b))):=by
 simp only[ai,gH,bne]
theorem afY(k:IntKind)(m n:Int):ai none .leq (.d (.int k m)) (.d (.int k n))=some (.d (.bool (decide (m≤n)))):=by
 simp only[ai,gH,k7,↓reduceIte]
theorem afZ(k:IntKind)(m n:Int):ai none .gtr (.d (.int k m)) (.d (.int k n))=some (.d (.bool (decide (m>n)))):=by
 simp only[ai,gH,k7,↓reduceIte]
theorem af0(k:IntKind)(m n:Int):ai none .lss (.d (.int k m)) (.d (.int k n))=some (.d (.bool (decide (m<n)))):=by
 simp only[ai,gH,k7,↓reduceIte]
theorem af1(k:IntKind)(m n:Int):ai none .geq (.d (.int k m)) (.d (.int k n))=some (.d (.bool (decide (m≥n)))):=by
 simp only[ai,gH,k7,↓reduceIte]
theorem ke(k:IntKind)(m n:Int):ai (some (false,[.int])) .eql (.d (.int k m)) (.d (.int k n))=some (.d (.bool (m==n))):=by
 simp only[ai,gH,k7,↓reduceIte]
theorem eQ(k:IntKind)(m n:Int):ai (some (false,[.int])) .neq (.d (.int k m)) (.d (.int k n))=some (.d (.bool (m != n))):=by
 simp only[ai,gH,k7,↓reduceIte]
theorem Aj(a b:List UInt8):ai (some (false,[.str])) .eql (.d (.str a)) (.d (.str b))=some (.d (.bool (a==b))):=by
 simp only[ai,gH,Gr]
theorem J3(a b:List UInt8):ai (some (false,[.str])) .neq (.d (.str a)) (.d (.str b))=some (.d (.bool (!(a==b)))):=by
 simp only[ai,gH,Gr]
theorem iC(b:Bool):fg .not (.d (.bool b))=some (.d (.bool (!b))):=rfl
theorem F9{m n:Nat}(h:m+n<2^62):ai none .add (.d (.int .i64 (m:Int))) (.d (.int .i64 (n:Int)))=some (.d (.int .i64 ((m+n:Nat):Int))):=by
 have h2:IntKind.i64.wrap ((m:Int)+(n:Int))=((m+n:Nat):Int):=by rw[wrap_i64 (by omega) (by omega)];omega
 simp only[ai,gH,k7,h2,↓reduceIte]
theorem br{m n:Nat}(h:m<n)(hn:n≤maxLen):ai none .add (.d (.int .i64 (m:Int))) (.d (.int .i64 1))=some (.d (.int .i64 ((m+1:Nat):Int))):=by
 simp only[maxLen]at hn
 have h2:IntKind.i64.wrap ((m:Int)+1)=((m+1:Nat):Int):=by rw[wrap_i64 (by omega) (by omega)];omega
 simp only[ai,gH,k7,h2,↓reduceIte]
theorem np{F:List SV→List (List SV)→(List SV→List (List SV)→Prop)→Prop}(J:Nat→Prop)(st:Nat→List SV)(sb:Nat→List (List SV))(n:Nat)(h0:J 0)
  (jD:∀i,i<n→J i→∀I:List SV→List (List SV)→Prop,(J (i+1)→I (st (i+1)) (sb (i+1)))→F (st i) (sb i) I)(pQ:J n→∀I,F (st n) (sb n) I):bT F (st 0) (sb 0):=by
 intro I hI
 have key:∀k,k≤n→J (n-k)→I (st (n-k)) (sb (n-k)):=by
  intro k
  induction k with
  |zero=>intro _ hj;exact hI _ _ (pQ hj I)
  |succ k ih=>
   intro hk hj
   have:=jD (n-(k+1)) (by omega) hj I (fun oG=>by rw[show n-(k+1)+1=n-k by omega]at oG ⊢;exact ih (by omega) oG)
   exact hI _ _ this
 have:=key n (Nat.le_refl _)
 simp only[Nat.sub_self]at this
 exact this h0
inductive iP(sz:Nat)(L:List D):SV→Prop
 |nil (s:Nat) (h:L=[]):iP sz L (.d (.sl .nil s []))
 |ro:iP sz L (.d (.sl .ro sz L))
 |full:iP sz L (.full sz L)
inductive aW(sz:Nat)(L:List D):D→Prop
 |nil (s:Nat) (h:L=[]):aW sz L (.sl .nil s [])
 |ro:aW sz L (.sl .ro sz L)
theorem aW.sv{sz:Nat}{L:List D}{x:D}(h:aW sz L x):iP sz L (.d x):=by
 cases h with
 |nil s h=>exact .nil s h
 |ro=>exact .ro
theorem iP.elems{sz:Nat}{L:List D}{x:SV}(h:iP sz L x):elems sz x=some L∧FK x=some L∧aa x=x:=by
 cases h with
 |nil s h=>subst h;exact⟨rfl,rfl,rfl⟩
 |ro=>exact⟨by simp[Ab.elems],rfl,rfl⟩
 |full=>exact⟨by simp[Ab.elems],rfl,rfl⟩
theorem iP.mW{sz:Nat}{L:List D}{x:SV}(h:iP sz L x):aa x=x:=h.elems.2.2
theorem iP.len{sz:Nat}{L:List D}{x:SV}(h:iP sz L x):bm x=some (.d (.int .i64 (L.length:Int))):=by
 have h2:=h.elems.2.1
 cases h<;>simp[bm,h2]
theorem iP.at{sz:Nat}{L:List D}{x:SV}(h:iP sz L x){i:Nat}{y:D}(hy:L[i]? =some y):aL sz x (.d (.int .i64 (i:Int)))=some (.aX y 0):=by
 have hi:i<L.length:=(List.getElem?_eq_some_iff.1 hy).1
 have h1:=h.elems.1
 have key:aL sz x (.d (.int .i64 (i:Int)))=(match Ab.elems sz x with
  |some L=>(match cN (.d (.int .i64 (i:Int))) L.length with
   |some n=>(match L[n]? with|some y=>some (.aX y 0)|none=>none)
   |none=>none)
  |none=>none):=by cases h<;>rfl
 rw[key,h1]
 simp only[]
 rw[je hi]
 simp only[hy]
theorem iP.cells{sz:Nat}{L:List D}{x:SV}(h:iP sz L x):aB x=some [x]:=by
 cases h<;>rfl
theorem aW.len{sz:Nat}{L:List D}{x:D}(h:aW sz L x):bm (.d x)=some (.d (.int .i64 (L.length:Int))):=h.sv.len
theorem aW.at{sz:Nat}{L:List D}{x:D}(h:aW sz L x){i:Nat}{y:D}(hy:L[i]? =some y):aL sz (.d x) (.d (.int .i64 (i:Int)))=some (.aX y 0):=h.sv.at hy
theorem Ad(s:List UInt8):aI false 1 (.aX (.str s) 0)=some (.d (.str s)):=rfl
theorem JL(cs:List D)(n:Nat)(h:cs.length=n):aI true n (.aX (.agg cs) 0)=some (.d (.agg cs)):=by
 subst h
 have:sD true cs.length 0 cs=some (.agg cs):=by
  simp only[sD,cond_true,Nat.zero_add,Nat.le_refl,↓reduceIte,List.drop_zero,List.take_length]
 simp only[aI,D.cells,this]
theorem wm(cs:List D)(n:Nat)(y:D)(h:cs[n]? =some y):aI false 1 (.aX (.agg cs) n)=some (.d y):=by
 have:sD false 1 n cs=some y:=by simp only[sD,cond_false,h]
 simp only[aI,D.cells,this]
theorem af2(x:D)(o n:Nat):bP (.aX x o) n=some (.aX x (o+n)):=rfl
theorem Xa(x:D)(o:Nat):aa (.aX x o)=.aX x o:=rfl
def cP(l:List (List UInt8)):List D:=l.map .str
theorem jP(l:List (List UInt8)):(cP l).length =l.length:=List.length_map ..
theorem Ak{l:List (List UInt8)}{i:Nat}{s:List UInt8}(h:l[i]? =some s):(cP l)[i]? =some (.str s):=by simp[cP,h]
theorem get_some{α:Type}{l:List α}{i:Nat}(h:i<l.length):∃y,l[i]? =some y:=⟨l[i],List.getElem?_eq_getElem h⟩
def first{α:Type}(p:α→Bool):List α→Option Nat
 |[]=>none
 |x::l=>if p x then some 0 else(first p l).map (· +1)
theorem wC{α:Type}{p:α→Bool}:∀{l:List α}{k:Nat}{x:α},l[k]? =some x→p x=true→(∀j y,j<k→l[j]? =some y→p y=false)→first p l=some k
 |[],k,x,h,_,_=>by simp at h
 |y::l,0,x,h,hp,_=>by simp at h;subst h;simp[first,hp]
 |y::l,k+1,x,h,hp,hn=>by
  have h0:=hn 0 y (by omega) (by simp)
  rw[first,h0]
  rw[wC (l:=l) (k:=k) (by simpa using h) hp (fun j z hj hz=>hn (j+1) z (by omega) (by simpa using hz))]
  rfl
theorem wj{α:Type}{p:α→Bool}:∀{l:List α},(∀(j:Nat)y,l[j]? =some y→p y=false)→first p l=none
 |[],_=>rfl
 |y::l,hn=>by
  have h0:=hn 0 y (by simp)
  rw[first,h0,wj (l:=l) (fun j z hz=>hn (j+1) z (by simpa using hz))]
  rfl
theorem ND{α:Type}{p:α→Bool}:∀{l:List α}{k:Nat},first p l=some k→∃x,l[k]? =some x∧p x=true∧∀j y,j<k→l[j]? =some y→p y=false
 |[],k,h=>by simp[first]at h
 |y::l,k,h=>by
  rw[first]at h
  by_cases hp:p y=true
  ·rw[if_pos hp]at h
   cases h
   exact⟨y,by simp,hp,fun j _ hj=>by omega⟩
  ·rw[if_neg hp]at h
   obtain⟨k',bU,rfl⟩:=Option.map_eq_some_iff.1 h
   obtain⟨x,h1,h2,h3⟩:=ND bU
   refine⟨x,by simpa using h1,h2,fun j z hj hz=>?_⟩
   cases j with
   |zero=>simp at hz;subst hz;simpa using hp
   |succ j=>exact h3 j z (by omega) (by simpa using hz)
def orM(o:Option Nat):Int:=match o with|some k=>(k:Int)|none=> -1
theorem Al(o:Option Nat):decide (orM o≥0)=o.isSome:=by
 cases o with
 |none=>decide
 |some k=>simp[orM]
end Go.Proofs.Ytimbllcalipehaa.Ab
namespace Go.Proofs.Ytimbllcalipehaa.Ab
open Go
inductive Xp where
 |mk (op a rel b:Int) (names:List (List UInt8)) (w:Nat→BitVec 64) (kids:List Xp)
def Xp.op:Xp→Int| .mk op _ _ _ _ _ _=>op
def Xp.a:Xp→Int| .mk _ a _ _ _ _ _=>a
def Xp.rel:Xp→Int| .mk _ _ r _ _ _ _=>r
def Xp.b:Xp→Int| .mk _ _ _ b _ _ _=>b
def Xp.names:Xp→List (List UInt8)| .mk _ _ _ _ n _ _=>n
def Xp.w:Xp→Nat→BitVec 64| .mk _ _ _ _ _ w _=>w
def Xp.kids:Xp→List Xp| .mk _ _ _ _ _ _ k=>k
def zG(op a rel b:Int)(nm:D)(w:Nat→BitVec 64)(kd:D):List D:=
 [.int .i64 op,.int .i64 a,.int .i64 rel,.int .i64 b,nm,dW (w 0),dW (w 1),dW (w 2),dW (w 3),kd]
def lA(op a rel b:Int)(nm:D)(w:Nat→BitVec 64)(kd:D):List SV:=
 [.d (.int .i64 op),.d (.int .i64 a),.d (.int .i64 rel),.d (.int .i64 b),.d nm,.d (dW (w 0)),.d (dW (w 1)),.d (dW (w 2)),.d (dW (w 3)),.d kd]
inductive mX:Xp→D→Prop
 |mk (op a rel b:Int) (names:List (List UInt8)) (w:Nat→BitVec 64) (kids:List Xp) (nm kd:D) (L:List D) (hn:aW 1 (cP names) nm) (hl:L.length=kids.length)
   (hk:∀(i:Nat)k y,kids[i]? =some k→L[i]? =some y→mX k y) (hd:aW 10 L kd):mX (.mk op a rel b names w kids) (.agg (zG op a rel b nm w kd))
section
variable(op a rel b:Int)(nm:D)(w:Nat→BitVec 64)(kd:D)
theorem Wh:aB (.d (.agg (zG op a rel b nm w kd)))=some (lA op a rel b nm w kd):=rfl
theorem af3:(lA op a rel b nm w kd).length =10:=rfl
theorem acb:aj true 10 0 (lA op a rel b nm w kd)=some (.d (.agg (zG op a rel b nm w kd))):=rfl
theorem aer:aj false 1 0 (lA op a rel b nm w kd)=some (.d (.int .i64 op)):=rfl
theorem aes:aj false 1 1 (lA op a rel b nm w kd)=some (.d (.int .i64 a)):=rfl
theorem aet:aj false 1 2 (lA op a rel b nm w kd)=some (.d (.int .i64 rel)):=rfl
theorem aeu:aj false 1 3 (lA op a rel b nm w kd)=some (.d (.int .i64 b)):=rfl
theorem aev:aj false 1 4 (lA op a rel b nm w kd)=some (.d nm):=rfl
theorem aew:aj true 4 5 (lA op a rel b nm w kd)=some (.d (xh w)):=rfl
theorem aex:aj false 1 9 (lA op a rel b nm w kd)=some (.d kd):=rfl
end
theorem mX.inv{e:Xp}{x:D}(h:mX e x):∃nm kd L,x=.agg (zG e.op e.a e.rel e.b nm e.w kd)∧aW 1 (cP e.names) nm∧L.length=e.kids.length∧aW 10 L kd∧
  ∀(i:Nat)k y,e.kids[i]? =some k→L[i]? =some y→mX k y:=by
 cases h with
 |mk op a rel b names w kids nm kd L hn hl hk hd=>exact⟨nm,kd,L,rfl,hn,hl,hd,hk⟩
theorem ac8:aS []=some []:=rfl
def Xp.lv:Xp→Nat
 | .mk _ _ _ _ _ _ kids=>lvs kids+1
where lvs:List Xp→Nat
 |[]=>0
 |k::l=>max k.lv (lvs l)
end Go.Proofs.Ytimbllcalipehaa.Ab
namespace Go.Proofs.Ytimbllcalipehaa.Ab
open Go
end Go.Proofs.Ytimbllcalipehaa.Ab
namespace Go.Proofs.Ytimbllcalipehaa.Ab
open Go
end Go.Proofs.Ytimbllcalipehaa.Ab
namespace Go.Proofs.Ytimbllcalipehaa.Ab
open Go
structure fc where
 u:Int
 r:Int
 t:Int
 ls:Int
 lc:BitVec 64
 hs:Int
 hc:BitVec 64
structure oh where
 f:fc
 s:fc
 t:fc
def tV(c:fc):D:=.agg [.int .i64 c.u,.int .i64 c.r,.int .i64 c.t,.int .i64 c.ls,dW c.lc,.int .i64 c.hs,dW c.hc]
def mn(c:fc):List SV:=[.d (.int .i64 c.u),.d (.int .i64 c.r),.d (.int .i64 c.t),.d (.int .i64 c.ls),.d (dW c.lc),.d (.int .i64 c.hs),.d (dW c.hc)]
def KP(x:oh):D:=.agg [.int .i64 x.f.u,.int .i64 x.f.r,.int .i64 x.f.t,.int .i64 x.f.ls,dW x.f.lc,.int .i64 x.f.hs,dW x.f.hc,
 .int .i64 x.s.u,.int .i64 x.s.r,.int .i64 x.s.t,.int .i64 x.s.ls,dW x.s.lc,.int .i64 x.s.hs,dW x.s.hc,.int .i64 x.t.u,.int .i64 x.t.r,.int .i64 x.t.t,.int .i64 x.t.ls,dW x.t.lc,.int .i64 x.t.hs,dW x.t.hc]
def tK(x:oh):List SV:=[.d (.int .i64 x.f.u),.d (.int .i64 x.f.r),.d (.int .i64 x.f.t),.d (.int .i64 x.f.ls),.d (dW x.f.lc),.d (.int .i64 x.f.hs),.d (dW x.f.hc),
 .d (.int .i64 x.s.u),.d (.int .i64 x.s.r),.d (.int .i64 x.s.t),.d (.int .i64 x.s.ls),.d (dW x.s.lc),.d (.int .i64 x.s.hs),.d (dW x.s.hc),.d (.int .i64 x.t.u),.d (.int .i64 x.t.r),.d (.int .i64 x.t.t),.d (.int .i64 x.t.ls),.d (dW x.t.lc),.d (.int .i64 x.t.hs),.d (dW x.t.hc)]
def lh(l:Int×BitVec 64):D:=.agg [.int .i64 l.1,dW l.2]
def ri(l:Int×BitVec 64):List SV:=[.d (.int .i64 l.1),.d (dW l.2)]
theorem acd(x:oh):aB (.d (KP x))=some (tK x):=rfl
theorem aey(x:oh):(tK x).length =21:=rfl
theorem ac9(x:oh):aj true 21 0 (tK x)=some (.d (KP x)):=rfl
theorem ace(x:oh):aj true 7 0 (tK x)=some (.d (tV x.f)):=rfl
theorem acf(x:oh):aj true 7 7 (tK x)=some (.d (tV x.s)):=rfl
theorem abk(x:oh):aj true 7 14 (tK x)=some (.d (tV x.t)):=rfl
theorem ada(x:fc):aB (.d (tV x))=some (mn x):=rfl
theorem af4(x:fc):(mn x).length =7:=rfl
theorem aez(x:fc):aj true 7 0 (mn x)=some (.d (tV x)):=rfl
theorem adb(x:fc):aj false 1 0 (mn x)=some (.d (.int .i64 x.u)):=rfl
theorem ade(x:fc):aj false 1 1 (mn x)=some (.d (.int .i64 x.r)):=rfl
theorem adf(x:fc):aj false 1 2 (mn x)=some (.d (.int .i64 x.t)):=rfl
theorem adg(x:fc):aj true 2 3 (mn x)=some (.d (lh (x.ls,x.lc))):=rfl
theorem adh(x:fc):aj true 2 5 (mn x)=some (.d (lh (x.hs,x.hc))):=rfl
theorem af5(a0 a1 a2 a3 a4 a5 a6:SV)(x:fc):setAt [a0,a1,a2,a3,a4,a5,a6] 0 (mn x)=mn x:=rfl
theorem adi(l:Int×BitVec 64):aB (.d (lh l))=some (ri l):=rfl
theorem af6(l:Int×BitVec 64):(ri l).length =2:=rfl
theorem aeA(l:Int×BitVec 64):aj true 2 0 (ri l)=some (.d (lh l)):=rfl
theorem adj(l:Int×BitVec 64):aj false 1 0 (ri l)=some (.d (.int .i64 l.1)):=rfl
theorem adk(l:Int×BitVec 64):aj false 1 1 (ri l)=some (.d (dW l.2)):=rfl
theorem af7(a0 a1:SV)(l:Int×BitVec 64):setAt [a0,a1] 0 (ri l)=ri l:=rfl
def Ek(x:fc):D:=.agg [.int .i64 x.ls,dW x.lc,.int .i64 x.hs,dW x.hc]
theorem adl(x:fc):yo true 4 3 (.d (tV x))=some (.d (Ek x)):=rfl
theorem aeB(x:fc):yo true 2 0 (.d (Ek x))=some (.d (lh (x.ls,x.lc))):=rfl
theorem aeC(x:fc):yo true 2 2 (.d (Ek x))=some (.d (lh (x.hs,x.hc))):=rfl
def EY(a b:Int×BitVec 64):Bool:=a.1==b.1&&(a.2==b.2&&true)
theorem af8(a b:Int×BitVec 64):ai (some (true,[.int,.int])) .eql (.d (lh a)) (.d (lh b))=some (.d (.bool (EY a b))):=by
 simp only[ai,gH,lh,eK,dW,Bool.and_self,cond_true,gF,oY,↓reduceIte,DP,EY]
theorem af9(a b:Int×BitVec 64):ai (some (true,[.int,.int])) .neq (.d (lh a)) (.d (lh b))=some (.d (.bool (!EY a b))):=by
 simp only[ai,gH,lh,eK,dW,Bool.and_self,cond_true,gF,oY,↓reduceIte,DP,EY]
end Go.Proofs.Ytimbllcalipehaa.Ab
namespace Go.Proofs.Ytimbllcalipehaa.Ab
open Go
def dU(x:BitVec 32):D:=.int .u32 (x.toNat:Int)
structure EZ where
 e:Xp
 nm:D
 kd:D
 h:mX e (.agg (zG e.op e.a e.rel e.b nm e.w kd))
def EZ.enc(t:EZ):D:=.agg (zG t.e.op t.e.a t.e.rel t.e.b t.nm t.e.w t.kd)
theorem EZ.is(t:EZ):mX t.e t.enc:=t.h
structure qa where
 name:List UInt8
 perms:List (List UInt8)
 Pw:D
 amO:aW 1 (cP perms) Pw
 amP:perms.length≤maxLen
def qa.enc(t:qa):D:=.agg [.str t.name,t.Pw]
def qa.cells(t:qa):List SV:=[.d (.str t.name),.d (t.Pw)]
theorem qa.c(t:qa):aB (.d t.enc)=some t.cells:=rfl
theorem qa.n(t:qa):t.cells.length=2:=rfl
theorem qa.a(t:qa):aj true 2 0 t.cells=some (.d t.enc):=rfl
theorem qa.st(t:qa)(a0 a1:SV):setAt [a0,a1] 0 t.cells=t.cells:=by
 unfold qa.cells
 simp only[setAt,List.set_cons_zero,List.set_cons_succ]
structure qb where
 name:List UInt8
 j2:List (List UInt8)
 QF:D
 am1:aW 1 (cP j2) QF
 am2:j2.length≤maxLen
 pm:Bool
def qb.enc(t:qb):D:=.agg [.str t.name,t.QF,.bool t.pm]
def qb.cells(t:qb):List SV:=[.d (.str t.name),.d (t.QF),.d (.bool t.pm)]
theorem qb.c(t:qb):aB (.d t.enc)=some t.cells:=rfl
theorem qb.n(t:qb):t.cells.length=3:=rfl
theorem qb.a(t:qb):aj true 3 0 t.cells=some (.d t.enc):=rfl
theorem qb.st(t:qb)(a0 a1 a2:SV):setAt [a0,a1,a2] 0 t.cells=t.cells:=by
 unfold qb.cells
 simp only[setAt,List.set_cons_zero,List.set_cons_succ]
structure qc where
 name:List UInt8
 w:Nat→BitVec 64
def qc.enc(t:qc):D:=.agg [.str t.name,dW (t.w 0),dW (t.w 1),dW (t.w 2),dW (t.w 3)]
def qc.cells(t:qc):List SV:=[.d (.str t.name),.d (dW (t.w 0)),.d (dW (t.w 1)),.d (dW (t.w 2)),.d (dW (t.w 3))]
theorem qc.c(t:qc):aB (.d t.enc)=some t.cells:=rfl
theorem qc.n(t:qc):t.cells.length=5:=rfl
theorem qc.a(t:qc):aj true 5 0 t.cells=some (.d t.enc):=rfl
theorem qc.st(t:qc)(a0 a1 a2 a3 a4:SV):setAt [a0,a1,a2,a3,a4] 0 t.cells=t.cells:=by
 unfold qc.cells
 simp only[setAt,List.set_cons_zero,List.set_cons_succ]
structure qd where
 name:List UInt8
 tw:Nat→BitVec 64
 nw:Nat→BitVec 64
def qd.enc(t:qd):D:=.agg [.str t.name,dW (t.tw 0),dW (t.tw 1),dW (t.tw 2),dW (t.tw 3),dW (t.nw 0),dW (t.nw 1),dW (t.nw 2),dW (t.nw 3)]
def qd.cells(t:qd):List SV:=[.d (.str t.name),.d (dW (t.tw 0)),.d (dW (t.tw 1)),.d (dW (t.tw 2)),.d (dW (t.tw 3)),.d (dW (t.nw 0)),.d (dW (t.nw 1)),.d (dW (t.nw 2)),.d (dW (t.nw 3))]
theorem qd.c(t:qd):aB (.d t.enc)=some t.cells:=rfl
theorem qd.n(t:qd):t.cells.length=9:=rfl
theorem qd.a(t:qd):aj true 9 0 t.cells=some (.d t.enc):=rfl
theorem qd.st(t:qd)(a0 a1 a2 a3 a4 a5 a6 a7 a8:SV):setAt [a0,a1,a2,a3,a4,a5,a6,a7,a8] 0 t.cells=t.cells:=by
 unfold qd.cells
 simp only[setAt,List.set_cons_zero,List.set_cons_succ]
structure qe where
 name:List UInt8
 rw:Nat→BitVec 64
 df:Int×BitVec 64
 rg:(Int×BitVec 64)×(Int×BitVec 64)
def qe.enc(t:qe):D:=.agg [.str t.name,dW (t.rw 0),dW (t.rw 1),dW (t.rw 2),dW (t.rw 3),.int .i64 t.df.1,dW t.df.2,.int .i64 t.rg.1.1,dW t.rg.1.2,.int .i64 t.rg.2.1,dW t.rg.2.2]
def qe.cells(t:qe):List SV:=[.d (.str t.name),.d (dW (t.rw 0)),.d (dW (t.rw 1)),.d (dW (t.rw 2)),.d (dW (t.rw 3)),.d (.int .i64 t.df.1),.d (dW t.df.2),.d (.int .i64 t.rg.1.1),.d (dW t.rg.1.2),.d (.int .i64 t.rg.2.1),.d (dW t.rg.2.2)]
theorem qe.c(t:qe):aB (.d t.enc)=some t.cells:=rfl
theorem qe.n(t:qe):t.cells.length=11:=rfl
theorem qe.a(t:qe):aj true 11 0 t.cells=some (.d t.enc):=rfl
theorem qe.st(t:qe)(a0 a1 a2 a3 a4 a5 a6 a7 a8 a9 zH:SV):setAt [a0,a1,a2,a3,a4,a5,a6,a7,a8,a9,zH] 0 t.cells=t.cells:=by
 unfold qe.cells
 simp only[setAt,List.set_cons_zero,List.set_cons_succ]
structure qf where
 name:List UInt8
 v:Bool
def qf.enc(t:qf):D:=.agg [.str t.name,.bool t.v]
def qf.cells(t:qf):List SV:=[.d (.str t.name),.d (.bool t.v)]
theorem qf.c(t:qf):aB (.d t.enc)=some t.cells:=rfl
theorem qf.n(t:qf):t.cells.length=2:=rfl
theorem qf.a(t:qf):aj true 2 0 t.cells=some (.d t.enc):=rfl
theorem qf.st(t:qf)(a0 a1:SV):setAt [a0,a1] 0 t.cells=t.cells:=by
 unfold qf.cells
 simp only[setAt,List.set_cons_zero,List.set_cons_succ]
structure qg where
 kind:Int
 sw:Nat→BitVec 64
 tw:Nat→BitVec 64
 self:Bool
 cls:Int
 perms:BitVec 32
 cond:Int
def qg.enc(t:qg):D:=.agg [.int .i64 t.kind,dW (t.sw 0),dW (t.sw 1),dW (t.sw 2),dW (t.sw 3),dW (t.tw 0),dW (t.tw 1),dW (t.tw 2),dW (t.tw 3),.bool t.self,.int .i64 t.cls,dU t.perms,.int .i64 t.cond]
def qg.cells(t:qg):List SV:=[.d (.int .i64 t.kind),.d (dW (t.sw 0)),.d (dW (t.sw 1)),.d (dW (t.sw 2)),.d (dW (t.sw 3)),.d (dW (t.tw 0)),.d (dW (t.tw 1)),.d (dW (t.tw 2)),.d (dW (t.tw 3)),.d (.bool t.self),.d (.int .i64 t.cls),.d (dU t.perms),.d (.int .i64 t.cond)]
theorem qg.c(t:qg):aB (.d t.enc)=some t.cells:=rfl
theorem qg.n(t:qg):t.cells.length=13:=rfl
theorem qg.a(t:qg):aj true 13 0 t.cells=some (.d t.enc):=rfl
theorem qg.st(t:qg)(a0 a1 a2 a3 a4 a5 a6 a7 a8 a9 zH CV CW:SV):setAt [a0,a1,a2,a3,a4,a5,a6,a7,a8,a9,zH,CV,CW] 0 t.cells=t.cells:=by
 unfold qg.cells
 simp only[setAt,List.set_cons_zero,List.set_cons_succ]
structure qi where
 kind:Int
 sw:Nat→BitVec 64
 tw:Nat→BitVec 64
 cls:Int
 name:List UInt8
 res:Int
 cond:Int
def qi.enc(t:qi):D:=.agg [.int .i64 t.kind,dW (t.sw 0),dW (t.sw 1),dW (t.sw 2),dW (t.sw 3),dW (t.tw 0),dW (t.tw 1),dW (t.tw 2),dW (t.tw 3),.int .i64 t.cls,.str t.name,.int .i64 t.res,.int .i64 t.cond]
def qi.cells(t:qi):List SV:=[.d (.int .i64 t.kind),.d (dW (t.sw 0)),.d (dW (t.sw 1)),.d (dW (t.sw 2)),.d (dW (t.sw 3)),.d (dW (t.tw 0)),.d (dW (t.tw 1)),.d (dW (t.tw 2)),.d (dW (t.tw 3)),.d (.int .i64 t.cls),.d (.str t.name),.d (.int .i64 t.res),.d (.int .i64 t.cond)]
theorem qi.c(t:qi):aB (.d t.enc)=some t.cells:=rfl
theorem qi.n(t:qi):t.cells.length=13:=rfl
theorem qi.a(t:qi):aj true 13 0 t.cells=some (.d t.enc):=rfl
theorem qi.st(t:qi)(a0 a1 a2 a3 a4 a5 a6 a7 a8 a9 zH CV CW:SV):setAt [a0,a1,a2,a3,a4,a5,a6,a7,a8,a9,zH,CV,CW] 0 t.cells=t.cells:=by
 unfold qi.cells
 simp only[setAt,List.set_cons_zero,List.set_cons_succ]
structure qj where
 rw:Nat→BitVec 64
 tw:Nat→BitVec 64
 cls:Int
 res:Int
def qj.enc(t:qj):D:=.agg [dW (t.rw 0),dW (t.rw 1),dW (t.rw 2),dW (t.rw 3),dW (t.tw 0),dW (t.tw 1),dW (t.tw 2),dW (t.tw 3),.int .i64 t.cls,.int .i64 t.res]
def qj.cells(t:qj):List SV:=[.d (dW (t.rw 0)),.d (dW (t.rw 1)),.d (dW (t.rw 2)),.d (dW (t.rw 3)),.d (dW (t.tw 0)),.d (dW (t.tw 1)),.d (dW (t.tw 2)),.d (dW (t.tw 3)),.d (.int .i64 t.cls),.d (.int .i64 t.res)]
theorem qj.c(t:qj):aB (.d t.enc)=some t.cells:=rfl
theorem qj.n(t:qj):t.cells.length=10:=rfl
theorem qj.a(t:qj):aj true 10 0 t.cells=some (.d t.enc):=rfl
theorem qj.st(t:qj)(a0 a1 a2 a3 a4 a5 a6 a7 a8 a9:SV):setAt [a0,a1,a2,a3,a4,a5,a6,a7,a8,a9] 0 t.cells=t.cells:=by
 unfold qj.cells
 simp only[setAt,List.set_cons_zero,List.set_cons_succ]
structure qk where
 sw:Nat→BitVec 64
 tw:Nat→BitVec 64
 cls:Int
 rg:(Int×BitVec 64)×(Int×BitVec 64)
def qk.enc(t:qk):D:=.agg [dW (t.sw 0),dW (t.sw 1),dW (t.sw 2),dW (t.sw 3),dW (t.tw 0),dW (t.tw 1),dW (t.tw 2),dW (t.tw 3),.int .i64 t.cls,.int .i64 t.rg.1.1,dW t.rg.1.2,.int .i64 t.rg.2.1,dW t.rg.2.2]
def qk.cells(t:qk):List SV:=[.d (dW (t.sw 0)),.d (dW (t.sw 1)),.d (dW (t.sw 2)),.d (dW (t.sw 3)),.d (dW (t.tw 0)),.d (dW (t.tw 1)),.d (dW (t.tw 2)),.d (dW (t.tw 3)),.d (.int .i64 t.cls),.d (.int .i64 t.rg.1.1),.d (dW t.rg.1.2),.d (.int .i64 t.rg.2.1),.d (dW t.rg.2.2)]
theorem qk.c(t:qk):aB (.d t.enc)=some t.cells:=rfl
theorem qk.n(t:qk):t.cells.length=13:=rfl
theorem qk.a(t:qk):aj true 13 0 t.cells=some (.d t.enc):=rfl
theorem qk.st(t:qk)(a0 a1 a2 a3 a4 a5 a6 a7 a8 a9 zH CV CW:SV):setAt [a0,a1,a2,a3,a4,a5,a6,a7,a8,a9,zH,CV,CW] 0 t.cells=t.cells:=by
 unfold qk.cells
 simp only[setAt,List.set_cons_zero,List.set_cons_succ]
structure ql where
 cls:Int
 perms:BitVec 32
 val:Bool
 e:Xp
 nm:D
 kd:D
 h:mX e (.agg (zG e.op e.a e.rel e.b nm e.w kd))
def ql.enc(t:ql):D:=.agg [.int .i64 t.cls,dU t.perms,.bool t.val,.int .i64 t.e.op,.int .i64 t.e.a,.int .i64 t.e.rel,.int .i64 t.e.b,t.nm,dW (t.e.w 0),dW (t.e.w 1),dW (t.e.w 2),dW (t.e.w 3),t.kd]
def ql.cells(t:ql):List SV:=[.d (.int .i64 t.cls),.d (dU t.perms),.d (.bool t.val),.d (.int .i64 t.e.op),.d (.int .i64 t.e.a),.d (.int .i64 t.e.rel),.d (.int .i64 t.e.b),.d (t.nm),.d (dW (t.e.w 0)),.d (dW (t.e.w 1)),.d (dW (t.e.w 2)),.d (dW (t.e.w 3)),.d (t.kd)]
theorem ql.c(t:ql):aB (.d t.enc)=some t.cells:=rfl
theorem ql.n(t:ql):t.cells.length=13:=rfl
theorem ql.a(t:ql):aj true 13 0 t.cells=some (.d t.enc):=rfl
theorem ql.st(t:ql)(a0 a1 a2 a3 a4 a5 a6 a7 a8 a9 zH CV CW:SV):setAt [a0,a1,a2,a3,a4,a5,a6,a7,a8,a9,zH,CV,CW] 0 t.cells=t.cells:=by
 unfold ql.cells
 simp only[setAt,List.set_cons_zero,List.set_cons_succ]
structure qn where
 name:List UInt8
 ctx:fc
def qn.enc(t:qn):D:=.agg [.str t.name,.int .i64 t.ctx.u,.int .i64 t.ctx.r,.int .i64 t.ctx.t,.int .i64 t.ctx.ls,dW t.ctx.lc,.int .i64 t.ctx.hs,dW t.ctx.hc]
def qn.cells(t:qn):List SV:=[.d (.str t.name),.d (.int .i64 t.ctx.u),.d (.int .i64 t.ctx.r),.d (.int .i64 t.ctx.t),.d (.int .i64 t.ctx.ls),.d (dW t.ctx.lc),.d (.int .i64 t.ctx.hs),.d (dW t.ctx.hc)]
theorem qn.c(t:qn):aB (.d t.enc)=some t.cells:=rfl
theorem qn.n(t:qn):t.cells.length=8:=rfl
theorem qn.a(t:qn):aj true 8 0 t.cells=some (.d t.enc):=rfl
theorem qn.st(t:qn)(a0 a1 a2 a3 a4 a5 a6 a7:SV):setAt [a0,a1,a2,a3,a4,a5,a6,a7] 0 t.cells=t.cells:=by
 unfold qn.cells
 simp only[setAt,List.set_cons_zero,List.set_cons_succ]
structure qo where
 pat:List UInt8
 kind:Int
 ctx:fc
def qo.enc(t:qo):D:=.agg [.str t.pat,.int .i64 t.kind,.int .i64 t.ctx.u,.int .i64 t.ctx.r,.int .i64 t.ctx.t,.int .i64 t.ctx.ls,dW t.ctx.lc,.int .i64 t.ctx.hs,dW t.ctx.hc]
def qo.cells(t:qo):List SV:=[.d (.str t.pat),.d (.int .i64 t.kind),.d (.int .i64 t.ctx.u),.d (.int .i64 t.ctx.r),.d (.int .i64 t.ctx.t),.d (.int .i64 t.ctx.ls),.d (dW t.ctx.lc),.d (.int .i64 t.ctx.hs),.d (dW t.ctx.hc)]
theorem qo.c(t:qo):aB (.d t.enc)=some t.cells:=rfl
theorem qo.n(t:qo):t.cells.length=9:=rfl
theorem qo.a(t:qo):aj true 9 0 t.cells=some (.d t.enc):=rfl
theorem qo.st(t:qo)(a0 a1 a2 a3 a4 a5 a6 a7 a8:SV):setAt [a0,a1,a2,a3,a4,a5,a6,a7,a8] 0 t.cells=t.cells:=by
 unfold qo.cells
 simp only[setAt,List.set_cons_zero,List.set_cons_succ]
structure qp where
 name:List UInt8
 kind:Int
 sw:Nat→BitVec 64
 tw:Nat→BitVec 64
def qp.enc(t:qp):D:=.agg [.str t.name,.int .i64 t.kind,dW (t.sw 0),dW (t.sw 1),dW (t.sw 2),dW (t.sw 3),dW (t.tw 0),dW (t.tw 1),dW (t.tw 2),dW (t.tw 3)]
def qp.cells(t:qp):List SV:=[.d (.str t.name),.d (.int .i64 t.kind),.d (dW (t.sw 0)),.d (dW (t.sw 1)),.d (dW (t.sw 2)),.d (dW (t.sw 3)),.d (dW (t.tw 0)),.d (dW (t.tw 1)),.d (dW (t.tw 2)),.d (dW (t.tw 3))]
theorem qp.c(t:qp):aB (.d t.enc)=some t.cells:=rfl
theorem qp.n(t:qp):t.cells.length=10:=rfl
theorem qp.a(t:qp):aj true 10 0 t.cells=some (.d t.enc):=rfl
theorem qp.st(t:qp)(a0 a1 a2 a3 a4 a5 a6 a7 a8 a9:SV):setAt [a0,a1,a2,a3,a4,a5,a6,a7,a8,a9] 0 t.cells=t.cells:=by
 unfold qp.cells
 simp only[setAt,List.set_cons_zero,List.set_cons_succ]
structure AI where
 cl:List qa
 Sb:D
 clH:aW 2 (List.map qa.enc cl) Sb
 clM:cl.length≤maxLen
 ty:List qb
 Sc:D
 tyH:aW 3 (List.map qb.enc ty) Sc
 tyM:ty.length≤maxLen
 at_:List qc
 QG:D
 am3:aW 5 (List.map qc.enc at_) QG
 am4:at_.length≤maxLen
 ro:List qd
 Sd:D
 roH:aW 9 (List.map qd.enc ro) Sd
 roM:ro.length≤maxLen
 us:List qe
 Se:D
 usH:aW 11 (List.map qe.enc us) Se
 usM:us.length≤maxLen
 bo:List qf
 Sf:D
 boH:aW 2 (List.map qf.enc bo) Sf
 boM:bo.length≤maxLen
 se:List (List UInt8)
 Sg:D
 seH:aW 1 (cP se) Sg
 seM:se.length≤maxLen
 ca:List (List UInt8)
 Sh:D
 caH:aW 1 (cP ca) Sh
 caM:ca.length≤maxLen
 co:List EZ
 Si:D
 coH:aW 10 (List.map EZ.enc co) Si
 coM:co.length≤maxLen
 ru:List qg
 Sj:D
 ruH:aW 13 (List.map qg.enc ru) Sj
 ruM:ru.length≤maxLen
 tr:List qi
 Sk:D
 trH:aW 13 (List.map qi.enc tr) Sk
 trM:tr.length≤maxLen
 rt:List qj
 Sl:D
 rtH:aW 10 (List.map qj.enc rt) Sl
 rtM:rt.length≤maxLen
 ra:List qk
 Sm:D
 raH:aW 13 (List.map qk.enc ra) Sm
 raM:ra.length≤maxLen
 cs:List ql
 Sn:D
 csH:aW 13 (List.map ql.enc cs) Sn
 csM:cs.length≤maxLen
 si:List qn
 So:D
 siH:aW 8 (List.map qn.enc si) So
 siM:si.length≤maxLen
 fi:List qo
 Sp:D
 fiH:aW 9 (List.map qo.enc fi) Sp
 fiM:fi.length≤maxLen
 as_:List qp
 QH:D
 am5:aW 10 (List.map qp.enc as_) QH
 am6:as_.length≤maxLen
def Zw(p:AI):D:=.agg [p.Sb,p.Sc,p.QG,p.Sd,p.Se,p.Sf,p.Sg,p.Sh,p.Si,p.Sj,p.Sk,p.Sl,p.Sm,p.Sn,p.So,p.Sp,p.QH]
def QI(p:AI):List SV:=[.d p.Sb,.d p.Sc,.d p.QG,.d p.Sd,.d p.Se,.d p.Sf,.d p.Sg,.d p.Sh,.d p.Si,.d p.Sj,.d p.Sk,.d p.Sl,.d p.Sm,.d p.Sn,.d p.So,.d p.Sp,.d p.QH]
theorem AI.c(p:AI):aB (.d (Zw p))=some (QI p):=rfl
theorem AI.n(p:AI):(QI p).length =17:=rfl
theorem AI.a(p:AI):aj true 17 0 (QI p)=some (.d (Zw p)):=rfl
end Go.Proofs.Ytimbllcalipehaa.Ab
namespace Go.Proofs.Ytimbllcalipehaa.Ab
open Go
section
variable{P:Program}{gl:Nat→Option D}{h:Hints}{f:FuncId}{args:List SV}
end
theorem Ae{α:Type}{F:List SV→List (List SV)→(List SV→List (List SV)→Prop)→Prop}(J:Nat→α→Prop)(st:Nat→α→List SV)(sb:Nat→α→List (List SV))(n:Nat)(a0:α)(h0:J 0 a0)
  (jD:∀i a,i<n→J i a→∀I:List SV→List (List SV)→Prop,(∀a',J (i+1) a'→I (st (i+1) a') (sb (i+1) a'))→F (st i a) (sb i a) I)(pQ:∀a,J n a→∀I,F (st n a) (sb n a) I):bT F (st 0 a0) (sb 0 a0):=by
 intro I hI
 have key:∀k,k≤n→∀a,J (n-k) a→I (st (n-k) a) (sb (n-k) a):=by
  intro k
  induction k with
  |zero=>intro _ a hj;exact hI _ _ (pQ a hj I)
  |succ k ih=>
   intro hk a hj
   refine hI _ _ (jD (n-(k+1)) a (by omega) hj I fun a' oG=>?_)
   rw[show n-(k+1)+1=n-k by omega]at oG ⊢
   exact ih (by omega) a' oG
 have:=key n (Nat.le_refl _)
 simp only[Nat.sub_self]at this
 exact this a0 h0
def aQ(sz:Nat)(L:List D):SV:=match L with
 |[]=>.d (.sl .nil 0 [])
 |L=>.own sz L
theorem ka(sz:Nat)(L:List D):wW (aQ sz L)=false:=by cases L<;>rfl
theorem kS(sz:Nat)(L:List D):(aQ sz L).aD =true:=by cases L<;>rfl
theorem US(sz:Nat)(L:List D):aB (aQ sz L)=some [aQ sz L]:=by cases L<;>rfl
def bB(sz:Nat)(L:List D):D:=match L with
 |[]=>.sl .nil 0 []
 |L=>.sl .ro sz L
theorem ez(sz:Nat)(L:List D):aa (aQ sz L)=.d (bB sz L):=by cases L<;>rfl
theorem cK(sz:Nat)(L:List D):aW sz L (bB sz L):=by cases L with
 |nil=>exact .nil 0 rfl
 |cons a L=>exact .ro
theorem gN{sz cX:Nat}{L M:List D}{x:SV}{k:SV→Prop}(hx:elems sz x=some M)(hb:(L.length+M.length)*cX≤140737488355328)(hk:k (aQ sz (L++M))):bR sz cX (aQ sz L) x k:=by
 unfold bR
 cases L with
 |nil=>
  have:lG sz (aQ sz []) x=some (aQ sz M,M.length):=by
   simp only[aQ,lG,hx]
   cases M with
   |nil=>rfl
   |cons a M=>rfl
  rw[this]
  exact⟨by simpa using hb,hk⟩
 |cons a L=>
  have:lG sz (aQ sz (a::L)) x=some (aQ sz (a::L++M),(a::L).length +M.length):=by
   simp only[aQ,lG,hx,↓reduceIte,List.cons_append]
  rw[this]
  exact⟨hb,hk⟩
def kq(sz:Nat)(L M:List D):SV:=if M=[]then .full sz L else .own sz (L++M)
theorem Ot{sz cX:Nat}{L M:List D}{x:SV}{k:SV→Prop}(hx:elems sz x=some M)(hb:(L.length+M.length)*cX≤140737488355328)(hk:k (kq sz L M)):bR sz cX (.full sz L) x k:=by
 unfold bR
 by_cases hM:M=[]
 ·have:lG sz (.full sz L) x=some (kq sz L M,L.length):=by
   simp only[lG,hx,hM,↓reduceIte,kq]
  rw[this]
  refine⟨?_,hk⟩
  exact Nat.le_trans (Nat.mul_le_mul_right _ (Nat.le_add_right _ _)) hb
 ·have:lG sz (.full sz L) x=some (kq sz L M,L.length+M.length):=by
   simp only[lG,hx,hM,↓reduceIte,kq]
  rw[this]
  exact⟨hb,hk⟩
theorem aga(sz:Nat)(L M:List D):iP sz (L++M) (aa (kq sz L M)):=by
 unfold kq
 by_cases hM:M=[]
 ·rw[if_pos hM,hM,List.append_nil];exact .full
 ·rw[if_neg hM];exact .ro
theorem qB(sz:Nat)(L:List D):elems sz (.full sz L)=some L:=by simp[elems]
theorem agb{sz:Nat}{L:List D}{x:SV}(h:iP sz L x):Ab.elems sz x=some L:=h.elems.1
theorem JM(s:List UInt8):aS [(0,.v (.d (.str s)))]=some [(0,.str s)]:=rfl
theorem Ks(s:List UInt8):bu 1 1 [(0,.str s)]=true:=rfl
theorem JN(z:D)(s:List UInt8):bz z [(0,.str s)] 1 0=[.str s]:=rfl
end Go.Proofs.Ytimbllcalipehaa.Ab
namespace Go.Proofs.Ytimbllcalipehaa.Ab
open Go
theorem wrap32(n:Int):IntKind.u32.wrap n=n % 2^32:=by simp[IntKind.wrap,IntKind.signed,IntKind.bits]
theorem TF(x:BitVec 32):BitVec.ofInt 32 (x.toNat:Int)=x:=by
 apply BitVec.eq_of_toNat_eq
 simp
theorem orU(x y:BitVec 32):ai none .or (.d (dU x)) (.d (dU y))=some (.d (dU (x|||y))):=by
 simp only[ai,gH,dU,k7,wrap32,↓reduceIte]
 have h:=Int.emod_eq_of_lt (Int.natCast_nonneg (x|||y).toNat) (b:=2^32) (by have:=(x|||y).isLt;omega)
 have h1:BitVec.ofInt IntKind.u32.bits (x.toNat:Int)=x:=TF x
 have h2:BitVec.ofInt IntKind.u32.bits (y.toNat:Int)=y:=TF y
 rw[h1,h2]
 exact congrArg (fun z=>some (SV.d (.int .u32 z))) h
theorem ak1(x:BitVec 32)(k:IntKind)(n:Nat):ai none .shr (.d (dU x)) (.d (.int k (n:Int)))=some (.d (dU (x>>>n))):=by
 simp only[ai,gH,dU,FY,IntKind.bits]
 rw[if_neg (by omega)]
 simp only[Int.toNat_natCast]
 have:((x.toNat:Int)).fdiv (2^min n 32)=((x>>>n).toNat :Int):=by
  rw[Int.fdiv_eq_ediv_of_nonneg _ (Int.le_of_lt (Int.pow_pos (by decide))),BitVec.toNat_ushiftRight,Nat.shiftRight_eq_div_pow]
  have e:((2:Int)^min n 32)=((2^min n 32:Nat):Int):=by simp
  rw[e,←Int.natCast_ediv]
  congr 1
  rcases Nat.le_total n 32 with h|h
  ·rw[Nat.min_eq_left h]
  ·rw[Nat.min_eq_right h,Nat.div_eq_of_lt x.isLt,Nat.div_eq_of_lt]
   exact Nat.lt_of_lt_of_le x.isLt (Nat.pow_le_pow_right (by decide) h)
 exact congrArg (fun z=>some (SV.d (.int .u32 z))) this
theorem X8{x y:BitVec 32}:((x.toNat:Int)==(y.toNat:Int))=(x==y):=by
 rw[Bool.eq_iff_iff,beq_iff_eq,beq_iff_eq,Int.ofNat_inj,BitVec.toNat_inj]
theorem eqU(x y:BitVec 32):ai (some (false,[.int])) .eql (.d (dU x)) (.d (dU y))=some (.d (.bool (x==y))):=by
 simp only[ai,gH,dU,k7,↓reduceIte,X8]
theorem neU(x y:BitVec 32):ai (some (false,[.int])) .neq (.d (dU x)) (.d (dU y))=some (.d (.bool (x != y))):=by
 simp only[ai,gH,dU,k7,↓reduceIte,bne,X8]
theorem ak2(x:BitVec 32):ai (some (false,[.int])) .eql (.d (dU x)) (.d (.int .u32 0))=some (.d (.bool (x==0))):=eqU x 0
theorem ak3(x:BitVec 32):ai (some (false,[.int])) .neq (.d (dU x)) (.d (.int .u32 0))=some (.d (.bool (x != 0))):=neU x 0
theorem ak4(x:BitVec 64):ai (some (false,[.int])) .eql (.d (dW x)) (.d (.int .u64 0))=some (.d (.bool (x==0))):=We x 0
theorem ak5(x:BitVec 64):ai (some (false,[.int])) .neq (.d (dW x)) (.d (.int .u64 0))=some (.d (.bool (x != 0))):=Wg x 0
def fR(s:List UInt8)(l:List (List UInt8)):Bool:=l.any (· ==s)
theorem FP{s:List UInt8}{l:List (List UInt8)}:fR s l=true↔s∈l:=by
 simp[fR]
theorem Wi{s t:List UInt8}{l:List (List UInt8)}{i:Nat}(h:l[i]? =some t)(he:(t==s)=true):fR s l=true:=by
 rw[FP]
 have:t=s:=by simpa using he
 subst this
 exact List.mem_of_getElem? h
theorem VA{s:List UInt8}{l:List (List UInt8)}(h:∀(i:Nat)t,l[i]? =some t→(t==s)=false):fR s l=false:=by
 cases hh:fR s l with
 |false=>rfl
 |true=>
  obtain⟨i,hi⟩:=List.mem_iff_getElem?.1 (FP.1 hh)
  have:=h i s hi
  simp at this
theorem dX{α:Type}{l:List α}{i:Nat}{x:α}(h:l[i]? =some x):l.take (i+1)=l.take i++[x]:=by
 rw[List.take_add_one,h];rfl
theorem aeD(sz:Nat):SV.d (.sl .nil 0 [])=aQ sz []:=rfl
theorem aeE{sz cX:Nat}{L M N:List D}{x:SV}{k:SV→Prop}(hx:elems sz x=some N)(hb:(L.length+M.length+N.length)*cX≤140737488355328)(hk:k (kq sz L (M++N))):bR sz cX (kq sz L M) x k:=by
 by_cases hM:M=[]
 ·subst hM
  rw[kq,if_pos rfl]
  exact Ot hx (by simpa using hb) hk
 ·have e:kq sz L M=.own sz (L++M):=by rw[kq,if_neg hM]
  have e':kq sz L (M++N)=.own sz (L++(M++N)):=by rw[kq,if_neg (by simp[hM])]
  rw[e]
  rw[e']at hk
  unfold bR
  have:lG sz (.own sz (L++M)) x=some (.own sz (L++(M++N)),(L++M).length +N.length):=by
   simp only[lG,hx,↓reduceIte,List.append_assoc]
  rw[this]
  exact⟨by rw[List.length_append];exact hb,hk⟩
theorem adm(sz:Nat)(L:List D):SV.full sz L=kq sz L []:=by rw[kq,if_pos rfl]
end Go.Proofs.Ytimbllcalipehaa.Ab
namespace Go.Proofs.Ytimbllcalipehaa.Ab
open Go
end Go.Proofs.Ytimbllcalipehaa.Ab
namespace Go.Proofs.Ytimbllcalipehaa.Ab
open Go
theorem sS:((((((∀(x:D),aa (SV.d x)=SV.d x)∧((∀(x:D)(o:Nat),aa (SV.aX x o)=SV.aX x o)∧(∀{α:Type}(x:α)(k:α→Prop),ab (some x) k=k x)))∧((∀(x:D),SV.aD (SV.d x)=true)∧((∀(b:Bool)(A B:Prop),au (SV.d (D.bool b)) A B↔(b=true→A)∧(b=false→B))∧(∀(A B:Prop),au (SV.d (D.bool true)) A B=A))))∧(((∀(A B:Prop),au (SV.d (D.bool false)) A B=B)∧((∀(k:IntKind)(m n:Int),ai (some (false,[CK.int])) BinOp.eql (SV.d (D.int k m)) (SV.d (D.int k n))=some (SV.d (D.bool (m==n))))∧(∀(k:IntKind)(m n:Int),ai (some (false,[CK.int])) BinOp.neq (SV.d (D.int k m)) (SV.d (D.int k n))=some (SV.d (D.bool (m != n))))))∧(((∀(k:IntKind)(m n:Int),ai none BinOp.lss (SV.d (D.int k m)) (SV.d (D.int k n))=some (SV.d (D.bool (decide (m<n)))))∧(∀(k:IntKind)(m n:Int),ai none BinOp.leq (SV.d (D.int k m)) (SV.d (D.int k n))=some (SV.d (D.bool (decide (m≤n))))))∧((∀(k:IntKind)(m n:Int),ai none BinOp.gtr (SV.d (D.int k m)) (SV.d (D.int k n))=some (SV.d (D.bool (decide (m>n)))))∧(∀(k:IntKind)(m n:Int),ai none BinOp.geq (SV.d (D.int k m)) (SV.d (D.int k n))=some (SV.d (D.bool (decide (m≥n)))))))))∧((((∀(b:Bool),fg UnOp.not (SV.d (D.bool b))=some (SV.d (D.bool !b)))∧((∀(a b:Bool),ai (some (false,[CK.bool])) BinOp.eql (SV.d (D.bool a)) (SV.d (D.bool b))=some (SV.d (D.bool (a==b))))∧(∀(a b:Bool),ai (some (false,[CK.bool])) BinOp.neq (SV.d (D.bool a)) (SV.d (D.bool b))=some (SV.d (D.bool (a != b))))))∧(((∀(w v:Nat→BitVec 64),ai (some (true,[CK.int,CK.int,CK.int,CK.int])) BinOp.eql (SV.d (xh w)) (SV.d (xh v))=some (SV.d (D.bool (Md w v))))∧(∀(w v:Nat→BitVec 64),ai (some (true,[CK.int,CK.int,CK.int,CK.int])) BinOp.neq (SV.d (xh w)) (SV.d (xh v))=some (SV.d (D.bool !Md w v))))∧((∀(op a rel b:Int)(nm:D)(w:Nat→BitVec 64)(kd:D),aB (SV.d (D.agg (zG op a rel b nm w kd)))=some (lA op a rel b nm w kd))∧(∀(op a rel b:Int)(nm:D)(w:Nat→BitVec 64)(kd:D),List.length (lA op a rel b nm w kd)=10))))∧(((∀(op a rel b:Int)(nm:D)(w:Nat→BitVec 64)(kd:D),aj true 10 0 (lA op a rel b nm w kd)=some (SV.d (D.agg (zG op a rel b nm w kd))))∧((∀(op a rel b:Int)(nm:D)(w:Nat→BitVec 64)(kd:D),aj false 1 0 (lA op a rel b nm w kd)=some (SV.d (D.int IntKind.i64 op)))∧(∀(op a rel b:Int)(nm:D)(w:Nat→BitVec 64)(kd:D),aj false 1 1 (lA op a rel b nm w kd)=some (SV.d (D.int IntKind.i64 a)))))∧(((∀(op a rel b:Int)(nm:D)(w:Nat→BitVec 64)(kd:D),aj false 1 2 (lA op a rel b nm w kd)=some (SV.d (D.int IntKind.i64 rel)))∧(∀(op a rel b:Int)(nm:D)(w:Nat→BitVec 64)(kd:D),aj false 1 3 (lA op a rel b nm w kd)=some (SV.d (D.int IntKind.i64 b))))∧((∀(op a rel b:Int)(nm:D)(w:Nat→BitVec 64)(kd:D),aj false 1 4 (lA op a rel b nm w kd)=some (SV.d nm))∧(∀(op a rel b:Int)(nm:D)(w:Nat→BitVec 64)(kd:D),aj true 4 5 (lA op a rel b nm w kd)=some (SV.d (xh w))))))))∧(((((∀(op a rel b:Int)(nm:D)(w:Nat→BitVec 64)(kd:D),aj false 1 9 (lA op a rel b nm w kd)=some (SV.d kd))∧((aS []=some [])∧(∀(x:oh),aB (SV.d (KP x))=some (tK x))))∧(((∀(x:oh),List.length (tK x)=21)∧(∀(x:oh),aj true 21 0 (tK x)=some (SV.d (KP x))))∧((∀(x:oh),aj true 7 0 (tK x)=some (SV.d (tV (oh.f x))))∧(∀(x:oh),aj true 7 7 (tK x)=some (SV.d (tV (oh.s x)))))))∧(((∀(x:oh),aj true 7 14 (tK x)=some (SV.d (tV (oh.t x))))∧((∀(x:fc),aB (SV.d (tV x))=some (mn x))∧(∀(x:fc),List.length (mn x)=7)))∧(((∀(x:fc),aj true 7 0 (mn x)=some (SV.d (tV x)))∧(∀(x:fc),aj false 1 0 (mn x)=some (SV.d (D.int IntKind.i64 (fc.u x)))))∧((∀(x:fc),aj false 1 1 (mn x)=some (SV.d (D.int IntKind.i64 (fc.r x))))∧(∀(x:fc),aj false 1 2 (mn x)=some (SV.d (D.int IntKind.i64 (fc.t x))))))))∧((((∀(x:fc),aj true 2 3 (mn x)=some (SV.d (lh (fc.ls x,fc.lc x))))∧((∀(x:fc),aj true 2 5 (mn x)=some (SV.d (lh (fc.hs x,fc.hc x))))∧(∀(a0 a1 a2 a3 a4 a5 a6:SV)(x:fc),setAt [a0,a1,a2,a3,a4,a5,a6] 0 (mn x)=mn x)))∧(((∀(l:Int×BitVec 64),aB (SV.d (lh l))=some (ri l))∧(∀(l:Int×BitVec 64),List.length (ri l)=2))∧((∀(l:Int×BitVec 64),aj true 2 0 (ri l)=some (SV.d (lh l)))∧(∀(l:Int×BitVec 64),aj false 1 0 (ri l)=some (SV.d (D.int IntKind.i64 (Prod.fst l)))))))∧(((∀(l:Int×BitVec 64),aj false 1 1 (ri l)=some (SV.d (dW (Prod.snd l))))∧((∀(a0 a1:SV)(l:Int×BitVec 64),setAt [a0,a1] 0 (ri l)=ri l)∧(∀(x:fc),yo true 4 3 (SV.d (tV x))=some (SV.d (Ek x)))))∧(((∀(x:fc),yo true 2 0 (SV.d (Ek x))=some (SV.d (lh (fc.ls x,fc.lc x))))∧(∀(x:fc),yo true 2 2 (SV.d (Ek x))=some (SV.d (lh (fc.hs x,fc.hc x)))))∧((∀(a b:Int×BitVec 64),ai (some (true,[CK.int,CK.int])) BinOp.eql (SV.d (lh a)) (SV.d (lh b))=some (SV.d (D.bool (EY a b))))∧(∀(a b:Int×BitVec 64),ai (some (true,[CK.int,CK.int])) BinOp.neq (SV.d (lh a)) (SV.d (lh b))=some (SV.d (D.bool !EY a b))))))))):=⟨⟨⟨⟨⟨@aem,⟨@Xa,@abj⟩⟩,⟨@afT,⟨@afS,@ael⟩⟩⟩,⟨⟨@ac7,⟨@ke,@eQ⟩⟩,⟨⟨@af0,@afY⟩,⟨@afZ,@af1⟩⟩⟩⟩,⟨⟨⟨@iC,⟨@aep,@aeq⟩⟩,⟨⟨@afW,@afX⟩,⟨@Wh,@af3⟩⟩⟩,⟨⟨@acb,⟨@aer,@aes⟩⟩,⟨⟨@aet,@aeu⟩,⟨@aev,@aew⟩⟩⟩⟩⟩,⟨⟨⟨⟨@aex,⟨@ac8,@acd⟩⟩,⟨⟨@aey,@ac9⟩,⟨@ace,@acf⟩⟩⟩,⟨⟨@abk,⟨@ada,@af4⟩⟩,⟨⟨@aez,@adb⟩,⟨@ade,@adf⟩⟩⟩⟩,⟨⟨⟨@adg,⟨@adh,@af5⟩⟩,⟨⟨@adi,@af6⟩,⟨@aeA,@adj⟩⟩⟩,⟨⟨@adk,⟨@af7,@adl⟩⟩,⟨⟨@aeB,@aeC⟩,⟨@af8,@af9⟩⟩⟩⟩⟩⟩
end Go.Proofs.Ytimbllcalipehaa.Ab
namespace Go.Proofs.Ytimbllcalipehaa.Ab
open Go
end Go.Proofs.Ytimbllcalipehaa.Ab
namespace Go.Proofs.Ytimbllcalipehaa.Ab
open Go
theorem sW:(((((∀(x y:BitVec 64),ai none BinOp.and (SV.d (dW x)) (SV.d (dW y))=some (SV.d (dW (x&&& y))))∧(∀(x y:BitVec 64),ai none BinOp.or (SV.d (dW x)) (SV.d (dW y))=some (SV.d (dW (x|||y)))))∧((∀(x y:BitVec 64),ai none BinOp.andNot (SV.d (dW x)) (SV.d (dW y))=some (SV.d (dW (x&&& ~~~y))))∧(∀(x:BitVec 64)(k:IntKind)(n:Nat),ai none BinOp.shr (SV.d (dW x)) (SV.d (D.int k ↑n))=some (SV.d (dW (x>>>n))))))∧(((∀(x y:BitVec 64),ai (some (false,[CK.int])) BinOp.eql (SV.d (dW x)) (SV.d (dW y))=some (SV.d (D.bool (x==y))))∧(∀(x y:BitVec 64),ai (some (false,[CK.int])) BinOp.neq (SV.d (dW x)) (SV.d (dW y))=some (SV.d (D.bool (x != y)))))∧((∀(x:BitVec 64),ai (some (false,[CK.int])) BinOp.eql (SV.d (dW x)) (SV.d (D.int IntKind.u64 0))=some (SV.d (D.bool (x==0))))∧(∀(x:BitVec 64),ai (some (false,[CK.int])) BinOp.neq (SV.d (dW x)) (SV.d (D.int IntKind.u64 0))=some (SV.d (D.bool (x != 0)))))))∧((((∀(x:BitVec 32),ai (some (false,[CK.int])) BinOp.eql (SV.d (dU x)) (SV.d (D.int IntKind.u32 0))=some (SV.d (D.bool (x==0))))∧(∀(x:BitVec 32),ai (some (false,[CK.int])) BinOp.neq (SV.d (dU x)) (SV.d (D.int IntKind.u32 0))=some (SV.d (D.bool (x != 0)))))∧((∀(x y:BitVec 32),ai (some (false,[CK.int])) BinOp.eql (SV.d (dU x)) (SV.d (dU y))=some (SV.d (D.bool (x==y))))∧(∀(x y:BitVec 32),ai (some (false,[CK.int])) BinOp.neq (SV.d (dU x)) (SV.d (dU y))=some (SV.d (D.bool (x != y))))))∧(((∀(x:BitVec 32)(k:IntKind)(n:Nat),ai none BinOp.shr (SV.d (dU x)) (SV.d (D.int k ↑n))=some (SV.d (dU (x>>>n))))∧(∀(x y:BitVec 32),ai none BinOp.or (SV.d (dU x)) (SV.d (dU y))=some (SV.d (dU (x|||y)))))∧((∀(x:D)(o n:Nat),bP (SV.aX x o) n=some (SV.aX x (o+n)))∧((∀(x:D)(o:Nat),aa (SV.aX x o)=SV.aX x o)∧(∀(s:List UInt8),aI false 1 (SV.aX (D.str s) 0)=some (SV.d (D.str s)))))))):=⟨⟨⟨⟨@afU,@ahm⟩,⟨@aca,@afV⟩⟩,⟨⟨@We,@Wg⟩,⟨@ak4,@ak5⟩⟩⟩,⟨⟨⟨@ak2,@ak3⟩,⟨@eqU,@neU⟩⟩,⟨⟨@ak1,@orU⟩,⟨@af2,⟨@Xa,@Ad⟩⟩⟩⟩⟩
end Go.Proofs.Ytimbllcalipehaa.Ab
namespace Go.Proofs.Ytimbllcalipehaa.Ab
open Go
end Go.Proofs.Ytimbllcalipehaa.Ab
namespace Go.Proofs.Ytimbllcalipehaa.Ab
open Go
theorem Dn(n:Nat):lenOf (.d (.int .i64 (n:Int))) (.d (.int .i64 (n:Int)))=some n:=by
 simp[lenOf]
end Go.Proofs.Ytimbllcalipehaa.Ab
namespace Go.Proofs.Ytimbllcalipehaa.Ab
open Go
theorem Xb{P:Program}{e:TypeId}{b:Bool}{α:Type}{f:α→D}(h1:∀x,Is P e x→∃t,pack b x=f t):∀(L:List (List D)),(∀x∈L,Is P e x)→∃l:List α,L.map (pack b)=l.map f∧l.length=L.length
 |[],_=>⟨[],rfl,rfl⟩
 |x::L,h=>by
  obtain⟨t,ht⟩:=h1 x (h x List.mem_cons_self)
  obtain⟨l,hl,hn⟩:=Xb h1 L (fun y hy=>h y (List.mem_cons_of_mem _ hy))
  exact⟨t::l,by rw[List.map_cons,List.map_cons,hl,ht],by simp[hn]⟩
end Go.Proofs.Ytimbllcalipehaa.Ab
