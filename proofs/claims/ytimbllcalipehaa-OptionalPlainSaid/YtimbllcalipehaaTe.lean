/-
  TYPED VALUES: words, numbers, bools; what the leaves do with them.
-/
import Derived.Test.YtimbllcalipehaaTc
set_option linter.unusedVariables false
set_option linter.unusedSimpArgs false
namespace Go.Proofs.Ytimbllcalipehaa.Ab
open Go
def dW(x:BitVec 64):D:=.int .u64 (x.toNat:Int)
def dI(n:Int):D:=.int .i64 n
theorem eO{C:bj}{f:FuncId}{args:List SV}{r:D}{k:SV→Prop}(h:C f args (.d r))(hk:k (.d r)):aN C f args k:=⟨.d r,h,rfl,hk⟩
theorem bG{P:Program}{f:FuncId}{fn:Func}(hf:P.funcs[f]? =some fn)(Jh:(fn.name== "runtime.NumGoroutine")=false)(hb:fn.body.isSome=true):j9 P f:=by
 obtain⟨c,hc⟩:=Option.isSome_iff_exists.1 hb
 exact WK hf Jh hc
theorem Vc{α:Type}(x:α)(k:α→Prop):ab (some x) k=k x:=rfl
theorem XZ(A B:Prop):aq (.d (.bool true)) A B=A:=rfl
theorem WS(A B:Prop):aq (.d (.bool false)) A B=B:=rfl
theorem PH(b:Bool)(A B:Prop):aq (.d (.bool b)) A B↔(b=true→A)∧(b=false→B):=by cases b<;>simp[aq]
theorem X0(x:D):aa (.d x)=.d x:=rfl
theorem Zs(x:D):SV.ar (.d x)=true:=rfl
theorem gS{F:List SV→List (List SV)→(List SV→List (List SV)→Prop)→Prop}(st:Nat→List SV)(sb:Nat→List (List SV))(n:Nat)
  (gX:∀i,i<n→∀I:List SV→List (List SV)→Prop,I (st (i+1)) (sb (i+1))→F (st i) (sb i) I)(lH:∀I,F (st n) (sb n) I):cw F (st 0) (sb 0):=by
 intro I hI
 have key:∀k,k≤n→I (st (n-k)) (sb (n-k)):=by
  intro k
  induction k with
  |zero=>intro _;exact hI _ _ (lH I)
  |succ k ih=>
   intro hk
   have:=gX (n-(k+1)) (by omega) I (by rw[show n-(k+1)+1=n-k by omega];exact ih (by omega))
   exact hI _ _ this
 have:=key n (Nat.le_refl _)
 simpa using this
theorem wrap64(n:Int):IntKind.u64.wrap n=n % 2^64:=by simp[IntKind.wrap,IntKind.signed,IntKind.bits]
theorem yZ(x:BitVec 64):BitVec.ofInt 64 (x.toNat:Int)=x:=by
 apply BitVec.eq_of_toNat_eq
 simp
theorem Zt(x y:BitVec 64):ah none .and (.d (dW x)) (.d (dW y))=some (.d (dW (x&&& y))):=by
 simp only[ah,eW,dW,iq,wrap64,↓reduceIte]
 have h:=Int.emod_eq_of_lt (Int.natCast_nonneg (x&&& y).toNat) (b:=2^64) (by have:=(x&&& y).isLt;omega)
 have h1:BitVec.ofInt IntKind.u64.bits (x.toNat:Int)=x:=yZ x
 have h2:BitVec.ofInt IntKind.u64.bits (y.toNat:Int)=y:=yZ y
 rw[h1,h2]
 exact congrArg (fun z=>some (SV.d (.int .u64 z))) h
theorem aaN(x y:BitVec 64):ah none .or (.d (dW x)) (.d (dW y))=some (.d (dW (x|||y))):=by
 simp only[ah,eW,dW,iq,wrap64,↓reduceIte]
 have h:=Int.emod_eq_of_lt (Int.natCast_nonneg (x|||y).toNat) (b:=2^64) (by have:=(x|||y).isLt;omega)
 have h1:BitVec.ofInt IntKind.u64.bits (x.toNat:Int)=x:=yZ x
 have h2:BitVec.ofInt IntKind.u64.bits (y.toNat:Int)=y:=yZ y
 rw[h1,h2]
 exact congrArg (fun z=>some (SV.d (.int .u64 z))) h
theorem V2(x y:BitVec 64):ah none .andNot (.d (dW x)) (.d (dW y))=some (.d (dW (x&&& ~~~y))):=by
 simp only[ah,eW,dW,iq,wrap64,↓reduceIte]
 have h:=Int.emod_eq_of_lt (Int.natCast_nonneg (x&&& ~~~y).toNat) (b:=2^64) (by have:=(x&&& ~~~y).isLt;omega)
 have h1:BitVec.ofInt IntKind.u64.bits (x.toNat:Int)=x:=yZ x
 have h2:BitVec.ofInt IntKind.u64.bits (y.toNat:Int)=y:=yZ y
 rw[h1,h2]
 exact congrArg (fun z=>some (SV.d (.int .u64 z))) h
theorem Zu(x:BitVec 64)(k:IntKind)(n:Nat):ah none .shr (.d (dW x)) (.d (.int k (n:Int)))=some (.d (dW (x>>>n))):=by
 simp only[ah,eW,dW,Bt,IntKind.bits]
 rw[if_neg (by omega)]
 simp only[Int.toNat_natCast]
 have:((x.toNat:Int)).fdiv (2^min n 64)=((x>>>n).toNat :Int):=by
  rw[Int.fdiv_eq_ediv_of_nonneg _ (Int.le_of_lt (Int.pow_pos (by decide))),BitVec.toNat_ushiftRight,Nat.shiftRight_eq_div_pow]
  have e:((2:Int)^min n 64)=((2^min n 64:Nat):Int):=by simp
  rw[e,←Int.natCast_ediv]
  congr 1
  rcases Nat.le_total n 64 with h|h
  ·rw[Nat.min_eq_left h]
  ·rw[Nat.min_eq_right h,Nat.div_eq_of_lt x.isLt,Nat.div_eq_of_lt]
   exact Nat.lt_of_lt_of_le x.isLt (Nat.pow_le_pow_right (by decide) h)
 exact congrArg (fun z=>some (SV.d (.int .u64 z))) this
theorem zF{x y:BitVec 64}:((x.toNat:Int)==(y.toNat:Int))=(x==y):=by
 rw[Bool.eq_iff_iff,beq_iff_eq,beq_iff_eq,Int.ofNat_inj,BitVec.toNat_inj]
theorem O0(x y:BitVec 64):ah (some (false,[.int])) .eql (.d (dW x)) (.d (dW y))=some (.d (.bool (x==y))):=by
 simp only[ah,eW,dW,iq,↓reduceIte]
 rw[zF]
def dS(a b c d:BitVec 64):D:=.agg [dW a,dW b,dW c,dW d]
theorem X1(a b c d a' b' c' d':BitVec 64):ah (some (true,[.int,.int,.int,.int])) .eql (.d (dS a b c d)) (.d (dS a' b' c' d'))=some (.d (.bool (a==a'&&(b==b'&&(c==c'&&(d==d'&&true)))))):=by
 simp only[ah,eW,dS,dv,dW,Bool.and_self,cond_true,eV,kO,↓reduceIte,zF]
theorem X2(a b c d a' b' c' d':BitVec 64):ah (some (true,[.int,.int,.int,.int])) .neq (.d (dS a b c d)) (.d (dS a' b' c' d'))=some (.d (.bool (!(a==a'&&(b==b'&&(c==c'&&(d==d'&&true))))))):=by
 simp only[ah,eW,dS,dv,dW,Bool.and_self,cond_true,eV,kO,↓reduceIte,zF]
end Go.Proofs.Ytimbllcalipehaa.Ab
namespace Go.Proofs.Ytimbllcalipehaa.Ab
open Go
def rD(w:Nat→BitVec 64):D:=.agg [dW (w 0),dW (w 1),dW (w 2),dW (w 3)]
theorem j7{k n:Nat}(h:k<n):cH (.d (.int .i64 (k:Int))) n=some k:=by
 simp only[cH]
 rw[if_pos ⟨by omega,by omega⟩]
 simp
theorem wrap_i64{n:Int}(h1: -9223372036854775808≤n)(h2:n<9223372036854775808):IntKind.i64.wrap n=n:=by
 show(if(true&&decide (n % 2^64≥2^(64-1)))=true then n % 2^64-2^64 else n % 2^64)=n
 by_cases h:n % 2^64≥2^(64-1)
 ·rw[if_pos (by simpa using h)]
  omega
 ·rw[if_neg (by simpa using h)]
  omega
theorem PI(m n:Int):ah none .lss (.d (.int .i64 m)) (.d (.int .i64 n))=some (.d (.bool (decide (m<n)))):=by
 simp only[ah,eW,iq,↓reduceIte]
theorem O3(x y:BitVec 64):ah (some (false,[.int])) .neq (.d (dW x)) (.d (dW y))=some (.d (.bool (x != y))):=by
 simp only[ah,eW,dW,iq,↓reduceIte,bne,zF]
def Az(w v:Nat→BitVec 64):Bool:=w 0==v 0&&(w 1==v 1&&(w 2==v 2&&(w 3==v 3&&true)))
theorem Zv(w v:Nat→BitVec 64):ah (some (true,[.int,.int,.int,.int])) .eql (.d (rD w)) (.d (rD v))=some (.d (.bool (Az w v))):=X1 _ _ _ _ _ _ _ _
theorem Zw(w v:Nat→BitVec 64):ah (some (true,[.int,.int,.int,.int])) .neq (.d (rD w)) (.d (rD v))=some (.d (.bool (!Az w v))):=X2 _ _ _ _ _ _ _ _
end Go.Proofs.Ytimbllcalipehaa.Ab
namespace Go.Proofs.Ytimbllcalipehaa.Ab
open Go
theorem bC{α:Type}{o:Option α}{k:α→Prop}{x:α}(h:o=some x)(hk:k x):ab o k:=by subst h;exact hk
theorem aZ{C:bj}{f:FuncId}{args:List SV}{r:SV}{k:SV→Prop}(h:C f args r)(hr:ri r=false)(hk:k r):aN C f args k:=⟨r,h,hr,hk⟩
theorem call2{C:bj}{f:FuncId}{args:List SV}{a b:SV}{k:SV→SV→Prop}(h:C f args (.aK [a,b]))(hk:k a b):∃x,∃y,C f args (.aK [x,y])∧k x y:=⟨a,b,h,hk⟩
theorem X3(a b:Bool):ah (some (false,[.bool])) .eql (.d (.bool a)) (.d (.bool b))=some (.d (.bool (a==b))):=by
 simp only[ah,eW]
theorem X4(a b:Bool):ah (some (false,[.bool])) .neq (.d (.bool a)) (.d (.bool b))=some (.d (.bool (a != b))):=by
 simp only[ah,eW,bne]
theorem Zx(k:IntKind)(m n:Int):ah none .leq (.d (.int k m)) (.d (.int k n))=some (.d (.bool (decide (m≤n)))):=by
 simp only[ah,eW,iq,↓reduceIte]
theorem Zy(k:IntKind)(m n:Int):ah none .gtr (.d (.int k m)) (.d (.int k n))=some (.d (.bool (decide (m>n)))):=by
 simp only[ah,eW,iq,↓reduceIte]
theorem Zz(k:IntKind)(m n:Int):ah none .lss (.d (.int k m)) (.d (.int k n))=some (.d (.bool (decide (m<n)))):=by
 simp only[ah,eW,iq,↓reduceIte]
theorem ZA(k:IntKind)(m n:Int):ah none .geq (.d (.int k m)) (.d (.int k n))=some (.d (.bool (decide (m≥n)))):=by
 simp only[ah,eW,iq,↓reduceIte]
theorem vf(k:IntKind)(m n:Int):ah (some (false,[.int])) .eql (.d (.int k m)) (.d (.int k n))=some (.d (.bool (m==n))):=by
 simp only[ah,eW,iq,↓reduceIte]
theorem ez(k:IntKind)(m n:Int):ah (some (false,[.int])) .neq (.d (.int k m)) (.d (.int k n))=some (.d (.bool (m != n))):=by
 simp only[ah,eW,iq,↓reduceIte]
theorem Ik(a b:List UInt8):ah (some (false,[.str])) .eql (.d (.str a)) (.d (.str b))=some (.d (.bool (a==b))):=by
 simp only[ah,eW,BF]
theorem PJ(a b:List UInt8):ah (some (false,[.str])) .neq (.d (.str a)) (.d (.str b))=some (.d (.bool (!(a==b)))):=by
 simp only[ah,eW,BF]
theorem kb(b:Bool):eY .not (.d (.bool b))=some (.d (.bool (!b))):=rfl
theorem Bz{m n:Nat}(h:m+n<2^62):ah none .add (.d (.int .i64 (m:Int))) (.d (.int .i64 (n:Int)))=some (.d (.int .i64 ((m+n:Nat):Int))):=by
 have h2:IntKind.i64.wrap ((m:Int)+(n:Int))=((m+n:Nat):Int):=by rw[wrap_i64 (by omega) (by omega)];omega
 simp only[ah,eW,iq,h2,↓reduceIte]
theorem bK{m n:Nat}(h:m<n)(hn:n≤maxLen):ah none .add (.d (.int .i64 (m:Int))) (.d (.int .i64 1))=some (.d (.int .i64 ((m+1:Nat):Int))):=by
 simp only[maxLen]at hn
 have h2:IntKind.i64.wrap ((m:Int)+1)=((m+1:Nat):Int):=by rw[wrap_i64 (by omega) (by omega)];omega
 simp only[ah,eW,iq,h2,↓reduceIte]
theorem nh{F:List SV→List (List SV)→(List SV→List (List SV)→Prop)→Prop}(J:Nat→Prop)(st:Nat→List SV)(sb:Nat→List (List SV))(n:Nat)(h0:J 0)
  (gX:∀i,i<n→J i→∀I:List SV→List (List SV)→Prop,(J (i+1)→I (st (i+1)) (sb (i+1)))→F (st i) (sb i) I)(lH:J n→∀I,F (st n) (sb n) I):cw F (st 0) (sb 0):=by
 intro I hI
 have key:∀k,k≤n→J (n-k)→I (st (n-k)) (sb (n-k)):=by
  intro k
  induction k with
  |zero=>intro _ hj;exact hI _ _ (lH hj I)
  |succ k ih=>
   intro hk hj
   have:=gX (n-(k+1)) (by omega) hj I (fun mW=>by rw[show n-(k+1)+1=n-k by omega]at mW ⊢;exact ih (by omega) mW)
   exact hI _ _ this
 have:=key n (Nat.le_refl _)
 simp only[Nat.sub_self]at this
 exact this h0
inductive fF(sz:Nat)(L:List D):SV→Prop
 |nil (s:Nat) (h:L=[]):fF sz L (.d (.sl .nil s []))
 |ro:fF sz L (.d (.sl .ro sz L))
 |full:fF sz L (.full sz L)
inductive aE(sz:Nat)(L:List D):D→Prop
 |nil (s:Nat) (h:L=[]):aE sz L (.sl .nil s [])
 |ro:aE sz L (.sl .ro sz L)
theorem aE.sv{sz:Nat}{L:List D}{x:D}(h:aE sz L x):fF sz L (.d x):=by
 cases h with
 |nil s h=>exact .nil s h
 |ro=>exact .ro
theorem fF.elems{sz:Nat}{L:List D}{x:SV}(h:fF sz L x):elems sz x=some L∧Bf x=some L∧aa x=x:=by
 cases h with
 |nil s h=>subst h;exact⟨rfl,rfl,rfl⟩
 |ro=>exact⟨by simp[Ab.elems],rfl,rfl⟩
 |full=>exact⟨by simp[Ab.elems],rfl,rfl⟩
theorem fF.jD{sz:Nat}{L:List D}{x:SV}(h:fF sz L x):aa x=x:=h.elems.2.2
theorem fF.len{sz:Nat}{L:List D}{x:SV}(h:fF sz L x):bd x=some (.d (.int .i64 (L.length:Int))):=by
 have h2:=h.elems.2.1
 cases h<;>simp[bd,h2]
theorem fF.at{sz:Nat}{L:List D}{x:SV}(h:fF sz L x){i:Nat}{y:D}(hy:L[i]? =some y):bc sz x (.d (.int .i64 (i:Int)))=some (.aS y 0):=by
 have hi:i<L.length:=(List.getElem?_eq_some_iff.1 hy).1
 have h1:=h.elems.1
 have key:bc sz x (.d (.int .i64 (i:Int)))=(match Ab.elems sz x with
  |some L=>(match cH (.d (.int .i64 (i:Int))) L.length with
   |some n=>(match L[n]? with|some y=>some (.aS y 0)|none=>none)
   |none=>none)
  |none=>none):=by cases h<;>rfl
 rw[key,h1]
 simp only[]
 rw[j7 hi]
 simp only[hy]
theorem fF.cells{sz:Nat}{L:List D}{x:SV}(h:fF sz L x):ay x=some [x]:=by
 cases h<;>rfl
theorem aE.len{sz:Nat}{L:List D}{x:D}(h:aE sz L x):bd (.d x)=some (.d (.int .i64 (L.length:Int))):=h.sv.len
theorem aE.at{sz:Nat}{L:List D}{x:D}(h:aE sz L x){i:Nat}{y:D}(hy:L[i]? =some y):bc sz (.d x) (.d (.int .i64 (i:Int)))=some (.aS y 0):=h.sv.at hy
theorem Bj(s:List UInt8):aM false 1 (.aS (.str s) 0)=some (.d (.str s)):=rfl
theorem zk(cs:List D)(n:Nat)(h:cs.length=n):aM true n (.aS (.agg cs) 0)=some (.d (.agg cs)):=by
 subst h
 have:nC true cs.length 0 cs=some (.agg cs):=by
  simp only[nC,cond_true,Nat.zero_add,Nat.le_refl,↓reduceIte,List.drop_zero,List.take_length]
 simp only[aM,D.cells,this]
theorem DJ(cs:List D)(n:Nat)(y:D)(h:cs[n]? =some y):aM false 1 (.aS (.agg cs) n)=some (.d y):=by
 have:nC false 1 n cs=some y:=by simp only[nC,cond_false,h]
 simp only[aM,D.cells,this]
theorem ZB(x:D)(o n:Nat):cV (.aS x o) n=some (.aS x (o+n)):=rfl
theorem PK(x:D)(o:Nat):aa (.aS x o)=.aS x o:=rfl
def bU(l:List (List UInt8)):List D:=l.map .str
theorem jn(l:List (List UInt8)):(bU l).length =l.length:=List.length_map ..
theorem zu{l:List (List UInt8)}{i:Nat}{s:List UInt8}(h:l[i]? =some s):(bU l)[i]? =some (.str s):=by simp[bU,h]
theorem get_some{α:Type}{l:List α}{i:Nat}(h:i<l.length):∃y,l[i]? =some y:=⟨l[i],List.getElem?_eq_getElem h⟩
def first{α:Type}(p:α→Bool):List α→Option Nat
 |[]=>none
 |x::l=>if p x then some 0 else(first p l).map (· +1)
theorem w5{α:Type}{p:α→Bool}:∀{l:List α}{k:Nat}{x:α},l[k]? =some x→p x=true→(∀j y,j<k→l[j]? =some y→p y=false)→first p l=some k
 |[],k,x,h,_,_=>by simp at h
 |y::l,0,x,h,hp,_=>by simp at h;subst h;simp[first,hp]
 |y::l,k+1,x,h,hp,hn=>by
  have h0:=hn 0 y (by omega) (by simp)
  rw[first,h0]
  rw[w5 (l:=l) (k:=k) (by simpa using h) hp (fun j z hj hz=>hn (j+1) z (by omega) (by simpa using hz))]
  rfl
theorem wT{α:Type}{p:α→Bool}:∀{l:List α},(∀(j:Nat)y,l[j]? =some y→p y=false)→first p l=none
 |[],_=>rfl
 |y::l,hn=>by
  have h0:=hn 0 y (by simp)
  rw[first,h0,wT (l:=l) (fun j z hz=>hn (j+1) z (by simpa using hz))]
  rfl
theorem Hh{α:Type}{p:α→Bool}:∀{l:List α}{k:Nat},first p l=some k→∃x,l[k]? =some x∧p x=true∧∀j y,j<k→l[j]? =some y→p y=false
 |[],k,h=>by simp[first]at h
 |y::l,k,h=>by
  rw[first]at h
  by_cases hp:p y=true
  ·rw[if_pos hp]at h
   cases h
   exact⟨y,by simp,hp,fun j _ hj=>by omega⟩
  ·rw[if_neg hp]at h
   obtain⟨k',bI,rfl⟩:=Option.map_eq_some_iff.1 h
   obtain⟨x,h1,h2,h3⟩:=Hh bI
   refine⟨x,by simpa using h1,h2,fun j z hj hz=>?_⟩
   cases j with
   |zero=>simp at hz;subst hz;simpa using hp
   |succ j=>exact h3 j z (by omega) (by simpa using hz)
def orM(o:Option Nat):Int:=match o with|some k=>(k:Int)|none=> -1
theorem vi(o:Option Nat):decide (orM o≥0)=o.isSome:=by
 cases o with
 |none=>decide
 |some k=>simp[orM]
end Go.Proofs.Ytimbllcalipehaa.Ab
namespace Go.Proofs.Ytimbllcalipehaa.Ab
open Go
inductive Xp where
 |mk (op a rel b:Int) (names:List (List UInt8)) (w:Nat→BitVec 64) (kids:List Xp)
def Xp.op:Xp→Int| .mk op _ _ _ _ _ _=>op
def Xp.a:Xp→Int| .mk _ a _ _ _ _ _=>a
def Xp.rel:Xp→Int| .mk _ _ r _ _ _ _=>r
def Xp.b:Xp→Int| .mk _ _ _ b _ _ _=>b
def Xp.names:Xp→List (List UInt8)| .mk _ _ _ _ n _ _=>n
def Xp.w:Xp→Nat→BitVec 64| .mk _ _ _ _ _ w _=>w
def Xp.kids:Xp→List Xp| .mk _ _ _ _ _ _ k=>k
def gN(op a rel b:Int)(nm:D)(w:Nat→BitVec 64)(kd:D):List D:=
 [.int .i64 op,.int .i64 a,.int .i64 rel,.int .i64 b,nm,dW (w 0),dW (w 1),dW (w 2),dW (w 3),kd]
def gB(op a rel b:Int)(nm:D)(w:Nat→BitVec 64)(kd:D):List SV:=
 [.d (.int .i64 op),.d (.int .i64 a),.d (.int .i64 rel),.d (.int .i64 b),.d nm,.d (dW (w 0)),.d (dW (w 1)),.d (dW (w 2)),.d (dW (w 3)),.d kd]
inductive gC:Xp→D→Prop
 |mk (op a rel b:Int) (names:List (List UInt8)) (w:Nat→BitVec 64) (kids:List Xp) (nm kd:D) (L:List D) (hn:aE 1 (bU names) nm) (hl:L.length=kids.length)
   (hk:∀(i:Nat)k y,kids[i]? =some k→L[i]? =some y→gC k y) (hd:aE 10 L kd):gC (.mk op a rel b names w kids) (.agg (gN op a rel b nm w kd))
section
variable(op a rel b:Int)(nm:D)(w:Nat→BitVec 64)(kd:D)
theorem Bk:ay (.d (.agg (gN op a rel b nm w kd)))=some (gB op a rel b nm w kd):=rfl
theorem Il:(gB op a rel b nm w kd).length =10:=rfl
theorem V3:ag true 10 0 (gB op a rel b nm w kd)=some (.d (.agg (gN op a rel b nm w kd))):=rfl
theorem X5:ag false 1 0 (gB op a rel b nm w kd)=some (.d (.int .i64 op)):=rfl
theorem X6:ag false 1 1 (gB op a rel b nm w kd)=some (.d (.int .i64 a)):=rfl
theorem X7:ag false 1 2 (gB op a rel b nm w kd)=some (.d (.int .i64 rel)):=rfl
theorem X8:ag false 1 3 (gB op a rel b nm w kd)=some (.d (.int .i64 b)):=rfl
theorem X9:ag false 1 4 (gB op a rel b nm w kd)=some (.d nm):=rfl
theorem Ya:ag true 4 5 (gB op a rel b nm w kd)=some (.d (rD w)):=rfl
theorem Yb:ag false 1 9 (gB op a rel b nm w kd)=some (.d kd):=rfl
end
theorem gC.inv{e:Xp}{x:D}(h:gC e x):∃nm kd L,x=.agg (gN e.op e.a e.rel e.b nm e.w kd)∧aE 1 (bU e.names) nm∧L.length=e.kids.length∧aE 10 L kd∧
  ∀(i:Nat)k y,e.kids[i]? =some k→L[i]? =some y→gC k y:=by
 cases h with
 |mk op a rel b names w kids nm kd L hn hl hk hd=>exact⟨nm,kd,L,rfl,hn,hl,hd,hk⟩
theorem WT:aR []=some []:=rfl
def Xp.lv:Xp→Nat
 | .mk _ _ _ _ _ _ kids=>AA kids+1
where AA:List Xp→Nat
 |[]=>0
 |k::l=>max k.lv (AA l)
theorem Xp.ac2(e:Xp):e.lv=Xp.lv.AA e.kids+1:=by cases e;rfl
theorem Xp.PL:∀{l:List Xp}{i:Nat}{k:Xp},l[i]? =some k→k.lv≤Xp.lv.AA l
 |[],i,k,h=>by simp at h
 |x::l,0,k,h=>by simp at h;subst h;rw[Xp.lv.AA];exact Nat.le_max_left _ _
 |x::l,i+1,k,h=>by
  rw[Xp.lv.AA]
  exact Nat.le_trans (Xp.PL (by simpa using h)) (Nat.le_max_right _ _)
theorem Xp.Qu{e k:Xp}{i:Nat}(h:e.kids[i]? =some k):k.lv<e.lv:=by
 rw[e.ac2]
 have:=Xp.PL h
 omega
end Go.Proofs.Ytimbllcalipehaa.Ab
namespace Go.Proofs.Ytimbllcalipehaa.Ab
open Go
end Go.Proofs.Ytimbllcalipehaa.Ab
namespace Go.Proofs.Ytimbllcalipehaa.Ab
open Go
end Go.Proofs.Ytimbllcalipehaa.Ab
namespace Go.Proofs.Ytimbllcalipehaa.Ab
open Go
structure dM where
 u:Int
 r:Int
 t:Int
 ls:Int
 lc:BitVec 64
 hs:Int
 hc:BitVec 64
structure kg where
 f:dM
 s:dM
 t:dM
def oO(c:dM):D:=.agg [.int .i64 c.u,.int .i64 c.r,.int .i64 c.t,.int .i64 c.ls,dW c.lc,.int .i64 c.hs,dW c.hc]
def jb(c:dM):List SV:=[.d (.int .i64 c.u),.d (.int .i64 c.r),.d (.int .i64 c.t),.d (.int .i64 c.ls),.d (dW c.lc),.d (.int .i64 c.hs),.d (dW c.hc)]
def EL(x:kg):D:=.agg [.int .i64 x.f.u,.int .i64 x.f.r,.int .i64 x.f.t,.int .i64 x.f.ls,dW x.f.lc,.int .i64 x.f.hs,dW x.f.hc,
 .int .i64 x.s.u,.int .i64 x.s.r,.int .i64 x.s.t,.int .i64 x.s.ls,dW x.s.lc,.int .i64 x.s.hs,dW x.s.hc,.int .i64 x.t.u,.int .i64 x.t.r,.int .i64 x.t.t,.int .i64 x.t.ls,dW x.t.lc,.int .i64 x.t.hs,dW x.t.hc]
def oG(x:kg):List SV:=[.d (.int .i64 x.f.u),.d (.int .i64 x.f.r),.d (.int .i64 x.f.t),.d (.int .i64 x.f.ls),.d (dW x.f.lc),.d (.int .i64 x.f.hs),.d (dW x.f.hc),
 .d (.int .i64 x.s.u),.d (.int .i64 x.s.r),.d (.int .i64 x.s.t),.d (.int .i64 x.s.ls),.d (dW x.s.lc),.d (.int .i64 x.s.hs),.d (dW x.s.hc),.d (.int .i64 x.t.u),.d (.int .i64 x.t.r),.d (.int .i64 x.t.t),.d (.int .i64 x.t.ls),.d (dW x.t.lc),.d (.int .i64 x.t.hs),.d (dW x.t.hc)]
def iz(l:Int×BitVec 64):D:=.agg [.int .i64 l.1,dW l.2]
def mO(l:Int×BitVec 64):List SV:=[.d (.int .i64 l.1),.d (dW l.2)]
theorem V4(x:kg):ay (.d (EL x))=some (oG x):=rfl
theorem Yc(x:kg):(oG x).length =21:=rfl
theorem WU(x:kg):ag true 21 0 (oG x)=some (.d (EL x)):=rfl
theorem V5(x:kg):ag true 7 0 (oG x)=some (.d (oO x.f)):=rfl
theorem V6(x:kg):ag true 7 7 (oG x)=some (.d (oO x.s)):=rfl
theorem Vd(x:kg):ag true 7 14 (oG x)=some (.d (oO x.t)):=rfl
theorem WV(x:dM):ay (.d (oO x))=some (jb x):=rfl
theorem ZC(x:dM):(jb x).length =7:=rfl
theorem Yd(x:dM):ag true 7 0 (jb x)=some (.d (oO x)):=rfl
theorem WW(x:dM):ag false 1 0 (jb x)=some (.d (.int .i64 x.u)):=rfl
theorem WX(x:dM):ag false 1 1 (jb x)=some (.d (.int .i64 x.r)):=rfl
theorem WY(x:dM):ag false 1 2 (jb x)=some (.d (.int .i64 x.t)):=rfl
theorem WZ(x:dM):ag true 2 3 (jb x)=some (.d (iz (x.ls,x.lc))):=rfl
theorem W0(x:dM):ag true 2 5 (jb x)=some (.d (iz (x.hs,x.hc))):=rfl
theorem ZD(a0 a1 a2 a3 a4 a5 a6:SV)(x:dM):setAt [a0,a1,a2,a3,a4,a5,a6] 0 (jb x)=jb x:=rfl
theorem W3(l:Int×BitVec 64):ay (.d (iz l))=some (mO l):=rfl
theorem ZE(l:Int×BitVec 64):(mO l).length =2:=rfl
theorem Ye(l:Int×BitVec 64):ag true 2 0 (mO l)=some (.d (iz l)):=rfl
theorem W5(l:Int×BitVec 64):ag false 1 0 (mO l)=some (.d (.int .i64 l.1)):=rfl
theorem W6(l:Int×BitVec 64):ag false 1 1 (mO l)=some (.d (dW l.2)):=rfl
theorem ZF(a0 a1:SV)(l:Int×BitVec 64):setAt [a0,a1] 0 (mO l)=mO l:=rfl
def z8(x:dM):D:=.agg [.int .i64 x.ls,dW x.lc,.int .i64 x.hs,dW x.hc]
theorem W7(x:dM):s4 true 4 3 (.d (oO x))=some (.d (z8 x)):=rfl
theorem Yf(x:dM):s4 true 2 0 (.d (z8 x))=some (.d (iz (x.ls,x.lc))):=rfl
theorem Yg(x:dM):s4 true 2 2 (.d (z8 x))=some (.d (iz (x.hs,x.hc))):=rfl
def AB(a b:Int×BitVec 64):Bool:=a.1==b.1&&(a.2==b.2&&true)
theorem ZG(a b:Int×BitVec 64):ah (some (true,[.int,.int])) .eql (.d (iz a)) (.d (iz b))=some (.d (.bool (AB a b))):=by
 simp only[ah,eW,iz,dv,dW,Bool.and_self,cond_true,eV,kO,↓reduceIte,zF,AB]
theorem ZH(a b:Int×BitVec 64):ah (some (true,[.int,.int])) .neq (.d (iz a)) (.d (iz b))=some (.d (.bool (!AB a b))):=by
 simp only[ah,eW,iz,dv,dW,Bool.and_self,cond_true,eV,kO,↓reduceIte,zF,AB]
end Go.Proofs.Ytimbllcalipehaa.Ab
namespace Go.Proofs.Ytimbllcalipehaa.Ab
open Go
def dU(x:BitVec 32):D:=.int .u32 (x.toNat:Int)
structure AD where
 e:Xp
 nm:D
 kd:D
 h:gC e (.agg (gN e.op e.a e.rel e.b nm e.w kd))
def AD.enc(t:AD):D:=.agg (gN t.e.op t.e.a t.e.rel t.e.b t.nm t.e.w t.kd)
theorem AD.is(t:AD):gC t.e t.enc:=t.h
structure lT where
 name:List UInt8
 perms:List (List UInt8)
 IJ:D
 afV:aE 1 (bU perms) IJ
 afW:perms.length≤maxLen
def lT.enc(t:lT):D:=.agg [.str t.name,t.IJ]
def lT.cells(t:lT):List SV:=[.d (.str t.name),.d (t.IJ)]
theorem lT.c(t:lT):ay (.d t.enc)=some t.cells:=rfl
theorem lT.n(t:lT):t.cells.length=2:=rfl
theorem lT.a(t:lT):ag true 2 0 t.cells=some (.d t.enc):=rfl
theorem lT.st(t:lT)(a0 a1:SV):setAt [a0,a1] 0 t.cells=t.cells:=by
 unfold lT.cells
 simp only[setAt,List.set_cons_zero,List.set_cons_succ]
structure lU where
 name:List UInt8
 hY:List (List UInt8)
 JT:D
 af5:aE 1 (bU hY) JT
 af6:hY.length≤maxLen
 pm:Bool
def lU.enc(t:lU):D:=.agg [.str t.name,t.JT,.bool t.pm]
def lU.cells(t:lU):List SV:=[.d (.str t.name),.d (t.JT),.d (.bool t.pm)]
theorem lU.c(t:lU):ay (.d t.enc)=some t.cells:=rfl
theorem lU.n(t:lU):t.cells.length=3:=rfl
theorem lU.a(t:lU):ag true 3 0 t.cells=some (.d t.enc):=rfl
theorem lU.st(t:lU)(a0 a1 a2:SV):setAt [a0,a1,a2] 0 t.cells=t.cells:=by
 unfold lU.cells
 simp only[setAt,List.set_cons_zero,List.set_cons_succ]
structure lV where
 name:List UInt8
 w:Nat→BitVec 64
def lV.enc(t:lV):D:=.agg [.str t.name,dW (t.w 0),dW (t.w 1),dW (t.w 2),dW (t.w 3)]
def lV.cells(t:lV):List SV:=[.d (.str t.name),.d (dW (t.w 0)),.d (dW (t.w 1)),.d (dW (t.w 2)),.d (dW (t.w 3))]
theorem lV.c(t:lV):ay (.d t.enc)=some t.cells:=rfl
theorem lV.n(t:lV):t.cells.length=5:=rfl
theorem lV.a(t:lV):ag true 5 0 t.cells=some (.d t.enc):=rfl
theorem lV.st(t:lV)(a0 a1 a2 a3 a4:SV):setAt [a0,a1,a2,a3,a4] 0 t.cells=t.cells:=by
 unfold lV.cells
 simp only[setAt,List.set_cons_zero,List.set_cons_succ]
structure lW where
 name:List UInt8
 tw:Nat→BitVec 64
 nw:Nat→BitVec 64
def lW.enc(t:lW):D:=.agg [.str t.name,dW (t.tw 0),dW (t.tw 1),dW (t.tw 2),dW (t.tw 3),dW (t.nw 0),dW (t.nw 1),dW (t.nw 2),dW (t.nw 3)]
def lW.cells(t:lW):List SV:=[.d (.str t.name),.d (dW (t.tw 0)),.d (dW (t.tw 1)),.d (dW (t.tw 2)),.d (dW (t.tw 3)),.d (dW (t.nw 0)),.d (dW (t.nw 1)),.d (dW (t.nw 2)),.d (dW (t.nw 3))]
theorem lW.c(t:lW):ay (.d t.enc)=some t.cells:=rfl
theorem lW.n(t:lW):t.cells.length=9:=rfl
theorem lW.a(t:lW):ag true 9 0 t.cells=some (.d t.enc):=rfl
theorem lW.st(t:lW)(a0 a1 a2 a3 a4 a5 a6 a7 a8:SV):setAt [a0,a1,a2,a3,a4,a5,a6,a7,a8] 0 t.cells=t.cells:=by
 unfold lW.cells
 simp only[setAt,List.set_cons_zero,List.set_cons_succ]
structure lX where
 name:List UInt8
 rw:Nat→BitVec 64
 df:Int×BitVec 64
 rg:(Int×BitVec 64)×(Int×BitVec 64)
def lX.enc(t:lX):D:=.agg [.str t.name,dW (t.rw 0),dW (t.rw 1),dW (t.rw 2),dW (t.rw 3),.int .i64 t.df.1,dW t.df.2,.int .i64 t.rg.1.1,dW t.rg.1.2,.int .i64 t.rg.2.1,dW t.rg.2.2]
def lX.cells(t:lX):List SV:=[.d (.str t.name),.d (dW (t.rw 0)),.d (dW (t.rw 1)),.d (dW (t.rw 2)),.d (dW (t.rw 3)),.d (.int .i64 t.df.1),.d (dW t.df.2),.d (.int .i64 t.rg.1.1),.d (dW t.rg.1.2),.d (.int .i64 t.rg.2.1),.d (dW t.rg.2.2)]
theorem lX.c(t:lX):ay (.d t.enc)=some t.cells:=rfl
theorem lX.n(t:lX):t.cells.length=11:=rfl
theorem lX.a(t:lX):ag true 11 0 t.cells=some (.d t.enc):=rfl
theorem lX.st(t:lX)(a0 a1 a2 a3 a4 a5 a6 a7 a8 a9 uE:SV):setAt [a0,a1,a2,a3,a4,a5,a6,a7,a8,a9,uE] 0 t.cells=t.cells:=by
 unfold lX.cells
 simp only[setAt,List.set_cons_zero,List.set_cons_succ]
structure lY where
 name:List UInt8
 v:Bool
def lY.enc(t:lY):D:=.agg [.str t.name,.bool t.v]
def lY.cells(t:lY):List SV:=[.d (.str t.name),.d (.bool t.v)]
theorem lY.c(t:lY):ay (.d t.enc)=some t.cells:=rfl
theorem lY.n(t:lY):t.cells.length=2:=rfl
theorem lY.a(t:lY):ag true 2 0 t.cells=some (.d t.enc):=rfl
theorem lY.st(t:lY)(a0 a1:SV):setAt [a0,a1] 0 t.cells=t.cells:=by
 unfold lY.cells
 simp only[setAt,List.set_cons_zero,List.set_cons_succ]
structure lZ where
 kind:Int
 sw:Nat→BitVec 64
 tw:Nat→BitVec 64
 self:Bool
 cls:Int
 perms:BitVec 32
 cond:Int
def lZ.enc(t:lZ):D:=.agg [.int .i64 t.kind,dW (t.sw 0),dW (t.sw 1),dW (t.sw 2),dW (t.sw 3),dW (t.tw 0),dW (t.tw 1),dW (t.tw 2),dW (t.tw 3),.bool t.self,.int .i64 t.cls,dU t.perms,.int .i64 t.cond]
def lZ.cells(t:lZ):List SV:=[.d (.int .i64 t.kind),.d (dW (t.sw 0)),.d (dW (t.sw 1)),.d (dW (t.sw 2)),.d (dW (t.sw 3)),.d (dW (t.tw 0)),.d (dW (t.tw 1)),.d (dW (t.tw 2)),.d (dW (t.tw 3)),.d (.bool t.self),.d (.int .i64 t.cls),.d (dU t.perms),.d (.int .i64 t.cond)]
theorem lZ.c(t:lZ):ay (.d t.enc)=some t.cells:=rfl
theorem lZ.n(t:lZ):t.cells.length=13:=rfl
theorem lZ.a(t:lZ):ag true 13 0 t.cells=some (.d t.enc):=rfl
theorem lZ.st(t:lZ)(a0 a1 a2 a3 a4 a5 a6 a7 a8 a9 uE yz yA:SV):setAt [a0,a1,a2,a3,a4,a5,a6,a7,a8,a9,uE,yz,yA] 0 t.cells=t.cells:=by
 unfold lZ.cells
 simp only[setAt,List.set_cons_zero,List.set_cons_succ]
structure l5 where
 kind:Int
 sw:Nat→BitVec 64
 tw:Nat→BitVec 64
 cls:Int
 name:List UInt8
 res:Int
 cond:Int
def l5.enc(t:l5):D:=.agg [.int .i64 t.kind,dW (t.sw 0),dW (t.sw 1),dW (t.sw 2),dW (t.sw 3),dW (t.tw 0),dW (t.tw 1),dW (t.tw 2),dW (t.tw 3),.int .i64 t.cls,.str t.name,.int .i64 t.res,.int .i64 t.cond]
def l5.cells(t:l5):List SV:=[.d (.int .i64 t.kind),.d (dW (t.sw 0)),.d (dW (t.sw 1)),.d (dW (t.sw 2)),.d (dW (t.sw 3)),.d (dW (t.tw 0)),.d (dW (t.tw 1)),.d (dW (t.tw 2)),.d (dW (t.tw 3)),.d (.int .i64 t.cls),.d (.str t.name),.d (.int .i64 t.res),.d (.int .i64 t.cond)]
theorem l5.c(t:l5):ay (.d t.enc)=some t.cells:=rfl
theorem l5.n(t:l5):t.cells.length=13:=rfl
theorem l5.a(t:l5):ag true 13 0 t.cells=some (.d t.enc):=rfl
theorem l5.st(t:l5)(a0 a1 a2 a3 a4 a5 a6 a7 a8 a9 uE yz yA:SV):setAt [a0,a1,a2,a3,a4,a5,a6,a7,a8,a9,uE,yz,yA] 0 t.cells=t.cells:=by
 unfold l5.cells
 simp only[setAt,List.set_cons_zero,List.set_cons_succ]
structure l6 where
 rw:Nat→BitVec 64
 tw:Nat→BitVec 64
 cls:Int
 res:Int
def l6.enc(t:l6):D:=.agg [dW (t.rw 0),dW (t.rw 1),dW (t.rw 2),dW (t.rw 3),dW (t.tw 0),dW (t.tw 1),dW (t.tw 2),dW (t.tw 3),.int .i64 t.cls,.int .i64 t.res]
def l6.cells(t:l6):List SV:=[.d (dW (t.rw 0)),.d (dW (t.rw 1)),.d (dW (t.rw 2)),.d (dW (t.rw 3)),.d (dW (t.tw 0)),.d (dW (t.tw 1)),.d (dW (t.tw 2)),.d (dW (t.tw 3)),.d (.int .i64 t.cls),.d (.int .i64 t.res)]
theorem l6.c(t:l6):ay (.d t.enc)=some t.cells:=rfl
theorem l6.n(t:l6):t.cells.length=10:=rfl
theorem l6.a(t:l6):ag true 10 0 t.cells=some (.d t.enc):=rfl
theorem l6.st(t:l6)(a0 a1 a2 a3 a4 a5 a6 a7 a8 a9:SV):setAt [a0,a1,a2,a3,a4,a5,a6,a7,a8,a9] 0 t.cells=t.cells:=by
 unfold l6.cells
 simp only[setAt,List.set_cons_zero,List.set_cons_succ]
structure l9 where
 sw:Nat→BitVec 64
 tw:Nat→BitVec 64
 cls:Int
 rg:(Int×BitVec 64)×(Int×BitVec 64)
def l9.enc(t:l9):D:=.agg [dW (t.sw 0),dW (t.sw 1),dW (t.sw 2),dW (t.sw 3),dW (t.tw 0),dW (t.tw 1),dW (t.tw 2),dW (t.tw 3),.int .i64 t.cls,.int .i64 t.rg.1.1,dW t.rg.1.2,.int .i64 t.rg.2.1,dW t.rg.2.2]
def l9.cells(t:l9):List SV:=[.d (dW (t.sw 0)),.d (dW (t.sw 1)),.d (dW (t.sw 2)),.d (dW (t.sw 3)),.d (dW (t.tw 0)),.d (dW (t.tw 1)),.d (dW (t.tw 2)),.d (dW (t.tw 3)),.d (.int .i64 t.cls),.d (.int .i64 t.rg.1.1),.d (dW t.rg.1.2),.d (.int .i64 t.rg.2.1),.d (dW t.rg.2.2)]
theorem l9.c(t:l9):ay (.d t.enc)=some t.cells:=rfl
theorem l9.n(t:l9):t.cells.length=13:=rfl
theorem l9.a(t:l9):ag true 13 0 t.cells=some (.d t.enc):=rfl
theorem l9.st(t:l9)(a0 a1 a2 a3 a4 a5 a6 a7 a8 a9 uE yz yA:SV):setAt [a0,a1,a2,a3,a4,a5,a6,a7,a8,a9,uE,yz,yA] 0 t.cells=t.cells:=by
 unfold l9.cells
 simp only[setAt,List.set_cons_zero,List.set_cons_succ]
structure ma where
 cls:Int
 perms:BitVec 32
 val:Bool
 e:Xp
 nm:D
 kd:D
 h:gC e (.agg (gN e.op e.a e.rel e.b nm e.w kd))
def ma.enc(t:ma):D:=.agg [.int .i64 t.cls,dU t.perms,.bool t.val,.int .i64 t.e.op,.int .i64 t.e.a,.int .i64 t.e.rel,.int .i64 t.e.b,t.nm,dW (t.e.w 0),dW (t.e.w 1),dW (t.e.w 2),dW (t.e.w 3),t.kd]
def ma.cells(t:ma):List SV:=[.d (.int .i64 t.cls),.d (dU t.perms),.d (.bool t.val),.d (.int .i64 t.e.op),.d (.int .i64 t.e.a),.d (.int .i64 t.e.rel),.d (.int .i64 t.e.b),.d (t.nm),.d (dW (t.e.w 0)),.d (dW (t.e.w 1)),.d (dW (t.e.w 2)),.d (dW (t.e.w 3)),.d (t.kd)]
theorem ma.c(t:ma):ay (.d t.enc)=some t.cells:=rfl
theorem ma.n(t:ma):t.cells.length=13:=rfl
theorem ma.a(t:ma):ag true 13 0 t.cells=some (.d t.enc):=rfl
theorem ma.st(t:ma)(a0 a1 a2 a3 a4 a5 a6 a7 a8 a9 uE yz yA:SV):setAt [a0,a1,a2,a3,a4,a5,a6,a7,a8,a9,uE,yz,yA] 0 t.cells=t.cells:=by
 unfold ma.cells
 simp only[setAt,List.set_cons_zero,List.set_cons_succ]
structure mb where
 name:List UInt8
 ctx:dM
def mb.enc(t:mb):D:=.agg [.str t.name,.int .i64 t.ctx.u,.int .i64 t.ctx.r,.int .i64 t.ctx.t,.int .i64 t.ctx.ls,dW t.ctx.lc,.int .i64 t.ctx.hs,dW t.ctx.hc]
def mb.cells(t:mb):List SV:=[.d (.str t.name),.d (.int .i64 t.ctx.u),.d (.int .i64 t.ctx.r),.d (.int .i64 t.ctx.t),.d (.int .i64 t.ctx.ls),.d (dW t.ctx.lc),.d (.int .i64 t.ctx.hs),.d (dW t.ctx.hc)]
theorem mb.c(t:mb):ay (.d t.enc)=some t.cells:=rfl
theorem mb.n(t:mb):t.cells.length=8:=rfl
theorem mb.a(t:mb):ag true 8 0 t.cells=some (.d t.enc):=rfl
theorem mb.st(t:mb)(a0 a1 a2 a3 a4 a5 a6 a7:SV):setAt [a0,a1,a2,a3,a4,a5,a6,a7] 0 t.cells=t.cells:=by
 unfold mb.cells
 simp only[setAt,List.set_cons_zero,List.set_cons_succ]
structure mc where
 pat:List UInt8
 kind:Int
 ctx:dM
def mc.enc(t:mc):D:=.agg [.str t.pat,.int .i64 t.kind,.int .i64 t.ctx.u,.int .i64 t.ctx.r,.int .i64 t.ctx.t,.int .i64 t.ctx.ls,dW t.ctx.lc,.int .i64 t.ctx.hs,dW t.ctx.hc]
def mc.cells(t:mc):List SV:=[.d (.str t.pat),.d (.int .i64 t.kind),.d (.int .i64 t.ctx.u),.d (.int .i64 t.ctx.r),.d (.int .i64 t.ctx.t),.d (.int .i64 t.ctx.ls),.d (dW t.ctx.lc),.d (.int .i64 t.ctx.hs),.d (dW t.ctx.hc)]
theorem mc.c(t:mc):ay (.d t.enc)=some t.cells:=rfl
theorem mc.n(t:mc):t.cells.length=9:=rfl
theorem mc.a(t:mc):ag true 9 0 t.cells=some (.d t.enc):=rfl
theorem mc.st(t:mc)(a0 a1 a2 a3 a4 a5 a6 a7 a8:SV):setAt [a0,a1,a2,a3,a4,a5,a6,a7,a8] 0 t.cells=t.cells:=by
 unfold mc.cells
 simp only[setAt,List.set_cons_zero,List.set_cons_succ]
structure me where
 name:List UInt8
 kind:Int
 sw:Nat→BitVec 64
 tw:Nat→BitVec 64
def me.enc(t:me):D:=.agg [.str t.name,.int .i64 t.kind,dW (t.sw 0),dW (t.sw 1),dW (t.sw 2),dW (t.sw 3),dW (t.tw 0),dW (t.tw 1),dW (t.tw 2),dW (t.tw 3)]
def me.cells(t:me):List SV:=[.d (.str t.name),.d (.int .i64 t.kind),.d (dW (t.sw 0)),.d (dW (t.sw 1)),.d (dW (t.sw 2)),.d (dW (t.sw 3)),.d (dW (t.tw 0)),.d (dW (t.tw 1)),.d (dW (t.tw 2)),.d (dW (t.tw 3))]
theorem me.c(t:me):ay (.d t.enc)=some t.cells:=rfl
theorem me.n(t:me):t.cells.length=10:=rfl
theorem me.a(t:me):ag true 10 0 t.cells=some (.d t.enc):=rfl
theorem me.st(t:me)(a0 a1 a2 a3 a4 a5 a6 a7 a8 a9:SV):setAt [a0,a1,a2,a3,a4,a5,a6,a7,a8,a9] 0 t.cells=t.cells:=by
 unfold me.cells
 simp only[setAt,List.set_cons_zero,List.set_cons_succ]
structure vM where
 cl:List lT
 Lh:D
 clH:aE 2 (List.map lT.enc cl) Lh
 clM:cl.length≤maxLen
 ty:List lU
 Li:D
 tyH:aE 3 (List.map lU.enc ty) Li
 tyM:ty.length≤maxLen
 at_:List lV
 JU:D
 af7:aE 5 (List.map lV.enc at_) JU
 af8:at_.length≤maxLen
 ro:List lW
 Lj:D
 roH:aE 9 (List.map lW.enc ro) Lj
 roM:ro.length≤maxLen
 us:List lX
 Lk:D
 usH:aE 11 (List.map lX.enc us) Lk
 usM:us.length≤maxLen
 bo:List lY
 Ll:D
 boH:aE 2 (List.map lY.enc bo) Ll
 boM:bo.length≤maxLen
 se:List (List UInt8)
 Ln:D
 seH:aE 1 (bU se) Ln
 seM:se.length≤maxLen
 ca:List (List UInt8)
 Lo:D
 caH:aE 1 (bU ca) Lo
 caM:ca.length≤maxLen
 co:List AD
 Lp:D
 coH:aE 10 (List.map AD.enc co) Lp
 coM:co.length≤maxLen
 ru:List lZ
 Lq:D
 ruH:aE 13 (List.map lZ.enc ru) Lq
 ruM:ru.length≤maxLen
 tr:List l5
 Lr:D
 trH:aE 13 (List.map l5.enc tr) Lr
 trM:tr.length≤maxLen
 rt:List l6
 Ls:D
 rtH:aE 10 (List.map l6.enc rt) Ls
 rtM:rt.length≤maxLen
 ra:List l9
 Lu:D
 raH:aE 13 (List.map l9.enc ra) Lu
 raM:ra.length≤maxLen
 cs:List ma
 Lv:D
 csH:aE 13 (List.map ma.enc cs) Lv
 csM:cs.length≤maxLen
 si:List mb
 Lw:D
 siH:aE 8 (List.map mb.enc si) Lw
 siM:si.length≤maxLen
 fi:List mc
 Lx:D
 fiH:aE 9 (List.map mc.enc fi) Lx
 fiM:fi.length≤maxLen
 SI:List me
 JV:D
 af9:aE 10 (List.map me.enc SI) JV
 aga:SI.length≤maxLen
def RB(p:vM):D:=.agg [p.Lh,p.Li,p.JU,p.Lj,p.Lk,p.Ll,p.Ln,p.Lo,p.Lp,p.Lq,p.Lr,p.Ls,p.Lu,p.Lv,p.Lw,p.Lx,p.JV]
def JW(p:vM):List SV:=[.d p.Lh,.d p.Li,.d p.JU,.d p.Lj,.d p.Lk,.d p.Ll,.d p.Ln,.d p.Lo,.d p.Lp,.d p.Lq,.d p.Lr,.d p.Ls,.d p.Lu,.d p.Lv,.d p.Lw,.d p.Lx,.d p.JV]
theorem vM.c(p:vM):ay (.d (RB p))=some (JW p):=rfl
theorem vM.n(p:vM):(JW p).length =17:=rfl
theorem vM.a(p:vM):ag true 17 0 (JW p)=some (.d (RB p)):=rfl
end Go.Proofs.Ytimbllcalipehaa.Ab
namespace Go.Proofs.Ytimbllcalipehaa.Ab
open Go
section
variable{P:Program}{gl:Nat→Option D}{h:Hints}{f:FuncId}{args:List SV}
end
theorem sL{α:Type}{F:List SV→List (List SV)→(List SV→List (List SV)→Prop)→Prop}(J:Nat→α→Prop)(st:Nat→α→List SV)(sb:Nat→α→List (List SV))(n:Nat)(a0:α)(h0:J 0 a0)
  (gX:∀i a,i<n→J i a→∀I:List SV→List (List SV)→Prop,(∀a',J (i+1) a'→I (st (i+1) a') (sb (i+1) a'))→F (st i a) (sb i a) I)(lH:∀a,J n a→∀I,F (st n a) (sb n a) I):cw F (st 0 a0) (sb 0 a0):=by
 intro I hI
 have key:∀k,k≤n→∀a,J (n-k) a→I (st (n-k) a) (sb (n-k) a):=by
  intro k
  induction k with
  |zero=>intro _ a hj;exact hI _ _ (lH a hj I)
  |succ k ih=>
   intro hk a hj
   refine hI _ _ (gX (n-(k+1)) a (by omega) hj I fun a' mW=>?_)
   rw[show n-(k+1)+1=n-k by omega]at mW ⊢
   exact ih (by omega) a' mW
 have:=key n (Nat.le_refl _)
 simp only[Nat.sub_self]at this
 exact this a0 h0
def bS(sz:Nat)(L:List D):SV:=match L with
 |[]=>.d (.sl .nil 0 [])
 |L=>.own sz L
theorem j6(sz:Nat)(L:List D):ri (bS sz L)=false:=by cases L<;>rfl
theorem nf(sz:Nat)(L:List D):(bS sz L).ar =true:=by cases L<;>rfl
theorem DE(sz:Nat)(L:List D):ay (bS sz L)=some [bS sz L]:=by cases L<;>rfl
def bB(sz:Nat)(L:List D):D:=match L with
 |[]=>.sl .nil 0 []
 |L=>.sl .ro sz L
theorem fh(sz:Nat)(L:List D):aa (bS sz L)=.d (bB sz L):=by cases L<;>rfl
theorem eQ(sz:Nat)(L:List D):aE sz L (bB sz L):=by cases L with
 |nil=>exact .nil 0 rfl
 |cons a L=>exact .ro
theorem iV{sz cL:Nat}{L M:List D}{x:SV}{k:SV→Prop}(hx:elems sz x=some M)(hb:(L.length+M.length)*cL≤140737488355328)(hk:k (bS sz (L++M))):ck sz cL (bS sz L) x k:=by
 unfold ck
 cases L with
 |nil=>
  have:jt sz (bS sz []) x=some (bS sz M,M.length):=by
   simp only[bS,jt,hx]
   cases M with
   |nil=>rfl
   |cons a M=>rfl
  rw[this]
  exact⟨by simpa using hb,hk⟩
 |cons a L=>
  have:jt sz (bS sz (a::L)) x=some (bS sz (a::L++M),(a::L).length +M.length):=by
   simp only[bS,jt,hx,↓reduceIte,List.cons_append]
  rw[this]
  exact⟨hb,hk⟩
def gH(sz:Nat)(L M:List D):SV:=if M=[]then .full sz L else .own sz (L++M)
theorem Bl{sz cL:Nat}{L M:List D}{x:SV}{k:SV→Prop}(hx:elems sz x=some M)(hb:(L.length+M.length)*cL≤140737488355328)(hk:k (gH sz L M)):ck sz cL (.full sz L) x k:=by
 unfold ck
 by_cases hM:M=[]
 ·have:jt sz (.full sz L) x=some (gH sz L M,L.length):=by
   simp only[jt,hx,hM,↓reduceIte,gH]
  rw[this]
  refine⟨?_,hk⟩
  exact Nat.le_trans (Nat.mul_le_mul_right _ (Nat.le_add_right _ _)) hb
 ·have:jt sz (.full sz L) x=some (gH sz L M,L.length+M.length):=by
   simp only[jt,hx,hM,↓reduceIte,gH]
  rw[this]
  exact⟨hb,hk⟩
theorem ZI(sz:Nat)(L M:List D):fF sz (L++M) (aa (gH sz L M)):=by
 unfold gH
 by_cases hM:M=[]
 ·rw[if_pos hM,hM,List.append_nil];exact .full
 ·rw[if_neg hM];exact .ro
theorem u1(sz:Nat)(L:List D):elems sz (.full sz L)=some L:=by simp[elems]
theorem ZJ{sz:Nat}{L:List D}{x:SV}(h:fF sz L x):Ab.elems sz x=some L:=h.elems.1
theorem O4(s:List UInt8):aR [(0,.v (.d (.str s)))]=some [(0,.str s)]:=rfl
theorem Qv(s:List UInt8):bq 1 1 [(0,.str s)]=true:=rfl
theorem O5(z:D)(s:List UInt8):bu z [(0,.str s)] 1 0=[.str s]:=rfl
end Go.Proofs.Ytimbllcalipehaa.Ab
namespace Go.Proofs.Ytimbllcalipehaa.Ab
open Go
theorem wrap32(n:Int):IntKind.u32.wrap n=n % 2^32:=by simp[IntKind.wrap,IntKind.signed,IntKind.bits]
theorem MH(x:BitVec 32):BitVec.ofInt 32 (x.toNat:Int)=x:=by
 apply BitVec.eq_of_toNat_eq
 simp
theorem orU(x y:BitVec 32):ah none .or (.d (dU x)) (.d (dU y))=some (.d (dU (x|||y))):=by
 simp only[ah,eW,dU,iq,wrap32,↓reduceIte]
 have h:=Int.emod_eq_of_lt (Int.natCast_nonneg (x|||y).toNat) (b:=2^32) (by have:=(x|||y).isLt;omega)
 have h1:BitVec.ofInt IntKind.u32.bits (x.toNat:Int)=x:=MH x
 have h2:BitVec.ofInt IntKind.u32.bits (y.toNat:Int)=y:=MH y
 rw[h1,h2]
 exact congrArg (fun z=>some (SV.d (.int .u32 z))) h
theorem aet(x:BitVec 32)(k:IntKind)(n:Nat):ah none .shr (.d (dU x)) (.d (.int k (n:Int)))=some (.d (dU (x>>>n))):=by
 simp only[ah,eW,dU,Bt,IntKind.bits]
 rw[if_neg (by omega)]
 simp only[Int.toNat_natCast]
 have:((x.toNat:Int)).fdiv (2^min n 32)=((x>>>n).toNat :Int):=by
  rw[Int.fdiv_eq_ediv_of_nonneg _ (Int.le_of_lt (Int.pow_pos (by decide))),BitVec.toNat_ushiftRight,Nat.shiftRight_eq_div_pow]
  have e:((2:Int)^min n 32)=((2^min n 32:Nat):Int):=by simp
  rw[e,←Int.natCast_ediv]
  congr 1
  rcases Nat.le_total n 32 with h|h
  ·rw[Nat.min_eq_left h]
  ·rw[Nat.min_eq_right h,Nat.div_eq_of_lt x.isLt,Nat.div_eq_of_lt]
   exact Nat.lt_of_lt_of_le x.isLt (Nat.pow_le_pow_right (by decide) h)
 exact congrArg (fun z=>some (SV.d (.int .u32 z))) this
theorem Qw{x y:BitVec 32}:((x.toNat:Int)==(y.toNat:Int))=(x==y):=by
 rw[Bool.eq_iff_iff,beq_iff_eq,beq_iff_eq,Int.ofNat_inj,BitVec.toNat_inj]
theorem SJ(x y:BitVec 32):ah (some (false,[.int])) .eql (.d (dU x)) (.d (dU y))=some (.d (.bool (x==y))):=by
 simp only[ah,eW,dU,iq,↓reduceIte,Qw]
theorem SL(x y:BitVec 32):ah (some (false,[.int])) .neq (.d (dU x)) (.d (dU y))=some (.d (.bool (x != y))):=by
 simp only[ah,eW,dU,iq,↓reduceIte,bne,Qw]
theorem aeu(x:BitVec 32):ah (some (false,[.int])) .eql (.d (dU x)) (.d (.int .u32 0))=some (.d (.bool (x==0))):=SJ x 0
theorem aev(x:BitVec 32):ah (some (false,[.int])) .neq (.d (dU x)) (.d (.int .u32 0))=some (.d (.bool (x != 0))):=SL x 0
theorem aew(x:BitVec 64):ah (some (false,[.int])) .eql (.d (dW x)) (.d (.int .u64 0))=some (.d (.bool (x==0))):=O0 x 0
theorem aex(x:BitVec 64):ah (some (false,[.int])) .neq (.d (dW x)) (.d (.int .u64 0))=some (.d (.bool (x != 0))):=O3 x 0
def mP(s:List UInt8)(l:List (List UInt8)):Bool:=l.any (· ==s)
theorem O6{s:List UInt8}{l:List (List UInt8)}:mP s l=true↔s∈l:=by
 simp[mP]
theorem Yh{s t:List UInt8}{l:List (List UInt8)}{i:Nat}(h:l[i]? =some t)(he:(t==s)=true):mP s l=true:=by
 rw[O6]
 have:t=s:=by simpa using he
 subst this
 exact List.mem_of_getElem? h
theorem W8{s:List UInt8}{l:List (List UInt8)}(h:∀(i:Nat)t,l[i]? =some t→(t==s)=false):mP s l=false:=by
 cases hh:mP s l with
 |false=>rfl
 |true=>
  obtain⟨i,hi⟩:=List.mem_iff_getElem?.1 (O6.1 hh)
  have:=h i s hi
  simp at this
theorem eH{α:Type}{l:List α}{i:Nat}{x:α}(h:l[i]? =some x):l.take (i+1)=l.take i++[x]:=by
 rw[List.take_add_one,h];rfl
theorem Yi(sz:Nat):SV.d (.sl .nil 0 [])=bS sz []:=rfl
theorem Yj{sz cL:Nat}{L M N:List D}{x:SV}{k:SV→Prop}(hx:elems sz x=some N)(hb:(L.length+M.length+N.length)*cL≤140737488355328)(hk:k (gH sz L (M++N))):ck sz cL (gH sz L M) x k:=by
 by_cases hM:M=[]
 ·subst hM
  rw[gH,if_pos rfl]
  exact Bl hx (by simpa using hb) hk
 ·have e:gH sz L M=.own sz (L++M):=by rw[gH,if_neg hM]
  have e':gH sz L (M++N)=.own sz (L++(M++N)):=by rw[gH,if_neg (by simp[hM])]
  rw[e]
  rw[e']at hk
  unfold ck
  have:jt sz (.own sz (L++M)) x=some (.own sz (L++(M++N)),(L++M).length +N.length):=by
   simp only[jt,hx,↓reduceIte,List.append_assoc]
  rw[this]
  exact⟨by rw[List.length_append];exact hb,hk⟩
theorem W9(sz:Nat)(L:List D):SV.full sz L=gH sz L []:=by rw[gH,if_pos rfl]
end Go.Proofs.Ytimbllcalipehaa.Ab
namespace Go.Proofs.Ytimbllcalipehaa.Ab
open Go
end Go.Proofs.Ytimbllcalipehaa.Ab
namespace Go.Proofs.Ytimbllcalipehaa.Ab
open Go
theorem sS:((((((∀(x:D),aa (SV.d x)=SV.d x)∧((∀(x:D)(o:Nat),aa (SV.aS x o)=SV.aS x o)∧(∀{α:Type}(x:α)(k:α→Prop),ab (some x) k=k x)))∧((∀(x:D),SV.ar (SV.d x)=true)∧((∀(b:Bool)(A B:Prop),aq (SV.d (D.bool b)) A B↔(b=true→A)∧(b=false→B))∧(∀(A B:Prop),aq (SV.d (D.bool true)) A B=A))))∧(((∀(A B:Prop),aq (SV.d (D.bool false)) A B=B)∧((∀(k:IntKind)(m n:Int),ah (some (false,[CK.int])) BinOp.eql (SV.d (D.int k m)) (SV.d (D.int k n))=some (SV.d (D.bool (m==n))))∧(∀(k:IntKind)(m n:Int),ah (some (false,[CK.int])) BinOp.neq (SV.d (D.int k m)) (SV.d (D.int k n))=some (SV.d (D.bool (m != n))))))∧(((∀(k:IntKind)(m n:Int),ah none BinOp.lss (SV.d (D.int k m)) (SV.d (D.int k n))=some (SV.d (D.bool (decide (m<n)))))∧(∀(k:IntKind)(m n:Int),ah none BinOp.leq (SV.d (D.int k m)) (SV.d (D.int k n))=some (SV.d (D.bool (decide (m≤n))))))∧((∀(k:IntKind)(m n:Int),ah none BinOp.gtr (SV.d (D.int k m)) (SV.d (D.int k n))=some (SV.d (D.bool (decide (m>n)))))∧(∀(k:IntKind)(m n:Int),ah none BinOp.geq (SV.d (D.int k m)) (SV.d (D.int k n))=some (SV.d (D.bool (decide (m≥n)))))))))∧((((∀(b:Bool),eY UnOp.not (SV.d (D.bool b))=some (SV.d (D.bool !b)))∧((∀(a b:Bool),ah (some (false,[CK.bool])) BinOp.eql (SV.d (D.bool a)) (SV.d (D.bool b))=some (SV.d (D.bool (a==b))))∧(∀(a b:Bool),ah (some (false,[CK.bool])) BinOp.neq (SV.d (D.bool a)) (SV.d (D.bool b))=some (SV.d (D.bool (a != b))))))∧(((∀(w v:Nat→BitVec 64),ah (some (true,[CK.int,CK.int,CK.int,CK.int])) BinOp.eql (SV.d (rD w)) (SV.d (rD v))=some (SV.d (D.bool (Az w v))))∧(∀(w v:Nat→BitVec 64),ah (some (true,[CK.int,CK.int,CK.int,CK.int])) BinOp.neq (SV.d (rD w)) (SV.d (rD v))=some (SV.d (D.bool !Az w v))))∧((∀(op a rel b:Int)(nm:D)(w:Nat→BitVec 64)(kd:D),ay (SV.d (D.agg (gN op a rel b nm w kd)))=some (gB op a rel b nm w kd))∧(∀(op a rel b:Int)(nm:D)(w:Nat→BitVec 64)(kd:D),List.length (gB op a rel b nm w kd)=10))))∧(((∀(op a rel b:Int)(nm:D)(w:Nat→BitVec 64)(kd:D),ag true 10 0 (gB op a rel b nm w kd)=some (SV.d (D.agg (gN op a rel b nm w kd))))∧((∀(op a rel b:Int)(nm:D)(w:Nat→BitVec 64)(kd:D),ag false 1 0 (gB op a rel b nm w kd)=some (SV.d (D.int IntKind.i64 op)))∧(∀(op a rel b:Int)(nm:D)(w:Nat→BitVec 64)(kd:D),ag false 1 1 (gB op a rel b nm w kd)=some (SV.d (D.int IntKind.i64 a)))))∧(((∀(op a rel b:Int)(nm:D)(w:Nat→BitVec 64)(kd:D),ag false 1 2 (gB op a rel b nm w kd)=some (SV.d (D.int IntKind.i64 rel)))∧(∀(op a rel b:Int)(nm:D)(w:Nat→BitVec 64)(kd:D),ag false 1 3 (gB op a rel b nm w kd)=some (SV.d (D.int IntKind.i64 b))))∧((∀(op a rel b:Int)(nm:D)(w:Nat→BitVec 64)(kd:D),ag false 1 4 (gB op a rel b nm w kd)=some (SV.d nm))∧(∀(op a rel b:Int)(nm:D)(w:Nat→BitVec 64)(kd:D),ag true 4 5 (gB op a rel b nm w kd)=some (SV.d (rD w))))))))∧(((((∀(op a rel b:Int)(nm:D)(w:Nat→BitVec 64)(kd:D),ag false 1 9 (gB op a rel b nm w kd)=some (SV.d kd))∧((aR []=some [])∧(∀(x:kg),ay (SV.d (EL x))=some (oG x))))∧(((∀(x:kg),List.length (oG x)=21)∧(∀(x:kg),ag true 21 0 (oG x)=some (SV.d (EL x))))∧((∀(x:kg),ag true 7 0 (oG x)=some (SV.d (oO (kg.f x))))∧(∀(x:kg),ag true 7 7 (oG x)=some (SV.d (oO (kg.s x)))))))∧(((∀(x:kg),ag true 7 14 (oG x)=some (SV.d (oO (kg.t x))))∧((∀(x:dM),ay (SV.d (oO x))=some (jb x))∧(∀(x:dM),List.length (jb x)=7)))∧(((∀(x:dM),ag true 7 0 (jb x)=some (SV.d (oO x)))∧(∀(x:dM),ag false 1 0 (jb x)=some (SV.d (D.int IntKind.i64 (dM.u x)))))∧((∀(x:dM),ag false 1 1 (jb x)=some (SV.d (D.int IntKind.i64 (dM.r x))))∧(∀(x:dM),ag false 1 2 (jb x)=some (SV.d (D.int IntKind.i64 (dM.t x))))))))∧((((∀(x:dM),ag true 2 3 (jb x)=some (SV.d (iz (dM.ls x,dM.lc x))))∧((∀(x:dM),ag true 2 5 (jb x)=some (SV.d (iz (dM.hs x,dM.hc x))))∧(∀(a0 a1 a2 a3 a4 a5 a6:SV)(x:dM),setAt [a0,a1,a2,a3,a4,a5,a6] 0 (jb x)=jb x)))∧(((∀(l:Int×BitVec 64),ay (SV.d (iz l))=some (mO l))∧(∀(l:Int×BitVec 64),List.length (mO l)=2))∧((∀(l:Int×BitVec 64),ag true 2 0 (mO l)=some (SV.d (iz l)))∧(∀(l:Int×BitVec 64),ag false 1 0 (mO l)=some (SV.d (D.int IntKind.i64 (Prod.fst l)))))))∧(((∀(l:Int×BitVec 64),ag false 1 1 (mO l)=some (SV.d (dW (Prod.snd l))))∧((∀(a0 a1:SV)(l:Int×BitVec 64),setAt [a0,a1] 0 (mO l)=mO l)∧(∀(x:dM),s4 true 4 3 (SV.d (oO x))=some (SV.d (z8 x)))))∧(((∀(x:dM),s4 true 2 0 (SV.d (z8 x))=some (SV.d (iz (dM.ls x,dM.lc x))))∧(∀(x:dM),s4 true 2 2 (SV.d (z8 x))=some (SV.d (iz (dM.hs x,dM.hc x)))))∧((∀(a b:Int×BitVec 64),ah (some (true,[CK.int,CK.int])) BinOp.eql (SV.d (iz a)) (SV.d (iz b))=some (SV.d (D.bool (AB a b))))∧(∀(a b:Int×BitVec 64),ah (some (true,[CK.int,CK.int])) BinOp.neq (SV.d (iz a)) (SV.d (iz b))=some (SV.d (D.bool !AB a b))))))))):=⟨⟨⟨⟨⟨@X0,⟨@PK,@Vc⟩⟩,⟨@Zs,⟨@PH,@XZ⟩⟩⟩,⟨⟨@WS,⟨@vf,@ez⟩⟩,⟨⟨@Zz,@Zx⟩,⟨@Zy,@ZA⟩⟩⟩⟩,⟨⟨⟨@kb,⟨@X3,@X4⟩⟩,⟨⟨@Zv,@Zw⟩,⟨@Bk,@Il⟩⟩⟩,⟨⟨@V3,⟨@X5,@X6⟩⟩,⟨⟨@X7,@X8⟩,⟨@X9,@Ya⟩⟩⟩⟩⟩,⟨⟨⟨⟨@Yb,⟨@WT,@V4⟩⟩,⟨⟨@Yc,@WU⟩,⟨@V5,@V6⟩⟩⟩,⟨⟨@Vd,⟨@WV,@ZC⟩⟩,⟨⟨@Yd,@WW⟩,⟨@WX,@WY⟩⟩⟩⟩,⟨⟨⟨@WZ,⟨@W0,@ZD⟩⟩,⟨⟨@W3,@ZE⟩,⟨@Ye,@W5⟩⟩⟩,⟨⟨@W6,⟨@ZF,@W7⟩⟩,⟨⟨@Yf,@Yg⟩,⟨@ZG,@ZH⟩⟩⟩⟩⟩⟩
end Go.Proofs.Ytimbllcalipehaa.Ab
namespace Go.Proofs.Ytimbllcalipehaa.Ab
open Go
end Go.Proofs.Ytimbllcalipehaa.Ab
namespace Go.Proofs.Ytimbllcalipehaa.Ab
open Go
theorem sW:(((((∀(x y:BitVec 64),ah none BinOp.and (SV.d (dW x)) (SV.d (dW y))=some (SV.d (dW (x&&& y))))∧(∀(x y:BitVec 64),ah none BinOp.or (SV.d (dW x)) (SV.d (dW y))=some (SV.d (dW (x|||y)))))∧((∀(x y:BitVec 64),ah none BinOp.andNot (SV.d (dW x)) (SV.d (dW y))=some (SV.d (dW (x&&& ~~~y))))∧(∀(x:BitVec 64)(k:IntKind)(n:Nat),ah none BinOp.shr (SV.d (dW x)) (SV.d (D.int k ↑n))=some (SV.d (dW (x>>>n))))))∧(((∀(x y:BitVec 64),ah (some (false,[CK.int])) BinOp.eql (SV.d (dW x)) (SV.d (dW y))=some (SV.d (D.bool (x==y))))∧(∀(x y:BitVec 64),ah (some (false,[CK.int])) BinOp.neq (SV.d (dW x)) (SV.d (dW y))=some (SV.d (D.bool (x != y)))))∧((∀(x:BitVec 64),ah (some (false,[CK.int])) BinOp.eql (SV.d (dW x)) (SV.d (D.int IntKind.u64 0))=some (SV.d (D.bool (x==0))))∧(∀(x:BitVec 64),ah (some (false,[CK.int])) BinOp.neq (SV.d (dW x)) (SV.d (D.int IntKind.u64 0))=some (SV.d (D.bool (x != 0)))))))∧((((∀(x:BitVec 32),ah (some (false,[CK.int])) BinOp.eql (SV.d (dU x)) (SV.d (D.int IntKind.u32 0))=some (SV.d (D.bool (x==0))))∧(∀(x:BitVec 32),ah (some (false,[CK.int])) BinOp.neq (SV.d (dU x)) (SV.d (D.int IntKind.u32 0))=some (SV.d (D.bool (x != 0)))))∧((∀(x y:BitVec 32),ah (some (false,[CK.int])) BinOp.eql (SV.d (dU x)) (SV.d (dU y))=some (SV.d (D.bool (x==y))))∧(∀(x y:BitVec 32),ah (some (false,[CK.int])) BinOp.neq (SV.d (dU x)) (SV.d (dU y))=some (SV.d (D.bool (x != y))))))∧(((∀(x:BitVec 32)(k:IntKind)(n:Nat),ah none BinOp.shr (SV.d (dU x)) (SV.d (D.int k ↑n))=some (SV.d (dU (x>>>n))))∧(∀(x y:BitVec 32),ah none BinOp.or (SV.d (dU x)) (SV.d (dU y))=some (SV.d (dU (x|||y)))))∧((∀(x:D)(o n:Nat),cV (SV.aS x o) n=some (SV.aS x (o+n)))∧((∀(x:D)(o:Nat),aa (SV.aS x o)=SV.aS x o)∧(∀(s:List UInt8),aM false 1 (SV.aS (D.str s) 0)=some (SV.d (D.str s)))))))):=⟨⟨⟨⟨@Zt,@aaN⟩,⟨@V2,@Zu⟩⟩,⟨⟨@O0,@O3⟩,⟨@aew,@aex⟩⟩⟩,⟨⟨⟨@aeu,@aev⟩,⟨@SJ,@SL⟩⟩,⟨⟨@aet,@orU⟩,⟨@ZB,⟨@PK,@Bj⟩⟩⟩⟩⟩
end Go.Proofs.Ytimbllcalipehaa.Ab
namespace Go.Proofs.Ytimbllcalipehaa.Ab
open Go
end Go.Proofs.Ytimbllcalipehaa.Ab
namespace Go.Proofs.Ytimbllcalipehaa.Ab
open Go
theorem Hy(n:Nat):lenOf (.d (.int .i64 (n:Int))) (.d (.int .i64 (n:Int)))=some n:=by
 simp[lenOf]
end Go.Proofs.Ytimbllcalipehaa.Ab
namespace Go.Proofs.Ytimbllcalipehaa.Ab
open Go
theorem PM{P:Program}{e:TypeId}{b:Bool}{α:Type}{f:α→D}(h1:∀x,Is P e x→∃t,pack b x=f t):∀(L:List (List D)),(∀x∈L,Is P e x)→∃l:List α,L.map (pack b)=l.map f∧l.length=L.length
 |[],_=>⟨[],rfl,rfl⟩
 |x::L,h=>by
  obtain⟨t,ht⟩:=h1 x (h x List.mem_cons_self)
  obtain⟨l,hl,hn⟩:=PM h1 L (fun y hy=>h y (List.mem_cons_of_mem _ hy))
  exact⟨t::l,by rw[List.map_cons,List.map_cons,hl,ht],by simp[hn]⟩
end Go.Proofs.Ytimbllcalipehaa.Ab
