/-
  TYPED VALUES: words, numbers, bools; what the leaves do with them.
-/
import Derived.Test.YtimbllcalipehaaTc
set_option linter.unusedVariables false
set_option linter.unusedSimpArgs false
namespace Go.Proofs.Ytimbllcalipehaa.Ab
open Go
def dW(x:BitVec 64):D:=.int .u64 (x.toNat:Int)
def dI(n:Int):D:=.int .i64 n
theorem dv{C:bd}{f:FuncId}{args:List SV}{r:D}{k:SV→Prop}(h:C f args (.d r))(hk:k (.d r)):aR C f args k:=⟨.d r,h,rfl,hk⟩
theorem bT{P:Program}{f:FuncId}{fn:Func}(hf:P.funcs[f]? =some fn)(Kc:(fn.name== "runtime.NumGoroutine")=false)(hb:fn.body.isSome=true):lu P f:=by
 obtain⟨c,hc⟩:=Option.isSome_iff_exists.1 hb
 exact XI hf Kc hc
theorem We{α:Type}(x:α)(k:α→Prop):ab (some x) k=k x:=rfl
theorem YY(A B:Prop):au (.d (.bool true)) A B=A:=rfl
theorem XQ(A B:Prop):au (.d (.bool false)) A B=B:=rfl
theorem aap(b:Bool)(A B:Prop):au (.d (.bool b)) A B↔(b=true→A)∧(b=false→B):=by cases b<;>simp[au]
theorem PX(x:D):aa (.d x)=.d x:=rfl
theorem aaq(x:D):SV.ax (.d x)=true:=rfl
theorem fH{F:List SV→List (List SV)→(List SV→List (List SV)→Prop)→Prop}(st:Nat→List SV)(sb:Nat→List (List SV))(n:Nat)
  (hP:∀i,i<n→∀I:List SV→List (List SV)→Prop,I (st (i+1)) (sb (i+1))→F (st i) (sb i) I)(mS:∀I,F (st n) (sb n) I):bP F (st 0) (sb 0):=by
 intro I hI
 have key:∀k,k≤n→I (st (n-k)) (sb (n-k)):=by
  intro k
  induction k with
  |zero=>intro _;exact hI _ _ (mS I)
  |succ k ih=>
   intro hk
   have:=hP (n-(k+1)) (by omega) I (by rw[show n-(k+1)+1=n-k by omega];exact ih (by omega))
   exact hI _ _ this
 have:=key n (Nat.le_refl _)
 simpa using this
theorem wrap64(n:Int):IntKind.u64.wrap n=n % 2^64:=by simp[IntKind.wrap,IntKind.signed,IntKind.bits]
theorem z1(x:BitVec 64):BitVec.ofInt 64 (x.toNat:Int)=x:=by
 apply BitVec.eq_of_toNat_eq
 simp
theorem aar(x y:BitVec 64):ag none .and (.d (dW x)) (.d (dW y))=some (.d (dW (x&&& y))):=by
 simp only[ag,fh,dW,im,wrap64,↓reduceIte]
 have h:=Int.emod_eq_of_lt (Int.natCast_nonneg (x&&& y).toNat) (b:=2^64) (by have:=(x&&& y).isLt;omega)
 have h1:BitVec.ofInt IntKind.u64.bits (x.toNat:Int)=x:=z1 x
 have h2:BitVec.ofInt IntKind.u64.bits (y.toNat:Int)=y:=z1 y
 rw[h1,h2]
 exact congrArg (fun z=>some (SV.d (.int .u64 z))) h
theorem abI(x y:BitVec 64):ag none .or (.d (dW x)) (.d (dW y))=some (.d (dW (x|||y))):=by
 simp only[ag,fh,dW,im,wrap64,↓reduceIte]
 have h:=Int.emod_eq_of_lt (Int.natCast_nonneg (x|||y).toNat) (b:=2^64) (by have:=(x|||y).isLt;omega)
 have h1:BitVec.ofInt IntKind.u64.bits (x.toNat:Int)=x:=z1 x
 have h2:BitVec.ofInt IntKind.u64.bits (y.toNat:Int)=y:=z1 y
 rw[h1,h2]
 exact congrArg (fun z=>some (SV.d (.int .u64 z))) h
theorem WZ(x y:BitVec 64):ag none .andNot (.d (dW x)) (.d (dW y))=some (.d (dW (x&&& ~~~y))):=by
 simp only[ag,fh,dW,im,wrap64,↓reduceIte]
 have h:=Int.emod_eq_of_lt (Int.natCast_nonneg (x&&& ~~~y).toNat) (b:=2^64) (by have:=(x&&& ~~~y).isLt;omega)
 have h1:BitVec.ofInt IntKind.u64.bits (x.toNat:Int)=x:=z1 x
 have h2:BitVec.ofInt IntKind.u64.bits (y.toNat:Int)=y:=z1 y
 rw[h1,h2]
 exact congrArg (fun z=>some (SV.d (.int .u64 z))) h
theorem aas(x:BitVec 64)(k:IntKind)(n:Nat):ag none .shr (.d (dW x)) (.d (.int k (n:Int)))=some (.d (dW (x>>>n))):=by
 simp only[ag,fh,dW,Cv,IntKind.bits]
 rw[if_neg (by omega)]
 simp only[Int.toNat_natCast]
 have:((x.toNat:Int)).fdiv (2^min n 64)=((x>>>n).toNat :Int):=by
  rw[Int.fdiv_eq_ediv_of_nonneg _ (Int.le_of_lt (Int.pow_pos (by decide))),BitVec.toNat_ushiftRight,Nat.shiftRight_eq_div_pow]
  have e:((2:Int)^min n 64)=((2^min n 64:Nat):Int):=by simp
  rw[e,←Int.natCast_ediv]
  congr 1
  rcases Nat.le_total n 64 with h|h
  ·rw[Nat.min_eq_left h]
  ·rw[Nat.min_eq_right h,Nat.div_eq_of_lt x.isLt,Nat.div_eq_of_lt]
   exact Nat.lt_of_lt_of_le x.isLt (Nat.pow_le_pow_right (by decide) h)
 exact congrArg (fun z=>some (SV.d (.int .u64 z))) this
theorem AF{x y:BitVec 64}:((x.toNat:Int)==(y.toNat:Int))=(x==y):=by
 rw[Bool.eq_iff_iff,beq_iff_eq,beq_iff_eq,Int.ofNat_inj,BitVec.toNat_inj]
theorem PY(x y:BitVec 64):ag (some (false,[.int])) .eql (.d (dW x)) (.d (dW y))=some (.d (.bool (x==y))):=by
 simp only[ag,fh,dW,im,↓reduceIte]
 rw[AF]
def dS(a b c d:BitVec 64):D:=.agg [dW a,dW b,dW c,dW d]
theorem YZ(a b c d a' b' c' d':BitVec 64):ag (some (true,[.int,.int,.int,.int])) .eql (.d (dS a b c d)) (.d (dS a' b' c' d'))=some (.d (.bool (a==a'&&(b==b'&&(c==c'&&(d==d'&&true)))))):=by
 simp only[ag,fh,dS,dP,dW,Bool.and_self,cond_true,fA,mJ,↓reduceIte,AF]
theorem Y0(a b c d a' b' c' d':BitVec 64):ag (some (true,[.int,.int,.int,.int])) .neq (.d (dS a b c d)) (.d (dS a' b' c' d'))=some (.d (.bool (!(a==a'&&(b==b'&&(c==c'&&(d==d'&&true))))))):=by
 simp only[ag,fh,dS,dP,dW,Bool.and_self,cond_true,fA,mJ,↓reduceIte,AF]
end Go.Proofs.Ytimbllcalipehaa.Ab
namespace Go.Proofs.Ytimbllcalipehaa.Ab
open Go
def tJ(w:Nat→BitVec 64):D:=.agg [dW (w 0),dW (w 1),dW (w 2),dW (w 3)]
theorem gZ{k n:Nat}(h:k<n):cA (.d (.int .i64 (k:Int))) n=some k:=by
 simp only[cA]
 rw[if_pos ⟨by omega,by omega⟩]
 simp
theorem wrap_i64{n:Int}(h1: -9223372036854775808≤n)(h2:n<9223372036854775808):IntKind.i64.wrap n=n:=by
 show(if(true&&decide (n % 2^64≥2^(64-1)))=true then n % 2^64-2^64 else n % 2^64)=n
 by_cases h:n % 2^64≥2^(64-1)
 ·rw[if_pos (by simpa using h)]
  omega
 ·rw[if_neg (by simpa using h)]
  omega
theorem Qz(m n:Int):ag none .lss (.d (.int .i64 m)) (.d (.int .i64 n))=some (.d (.bool (decide (m<n)))):=by
 simp only[ag,fh,im,↓reduceIte]
theorem PZ(x y:BitVec 64):ag (some (false,[.int])) .neq (.d (dW x)) (.d (dW y))=some (.d (.bool (x != y))):=by
 simp only[ag,fh,dW,im,↓reduceIte,bne,AF]
def GS(w v:Nat→BitVec 64):Bool:=w 0==v 0&&(w 1==v 1&&(w 2==v 2&&(w 3==v 3&&true)))
theorem aat(w v:Nat→BitVec 64):ag (some (true,[.int,.int,.int,.int])) .eql (.d (tJ w)) (.d (tJ v))=some (.d (.bool (GS w v))):=YZ _ _ _ _ _ _ _ _
theorem aau(w v:Nat→BitVec 64):ag (some (true,[.int,.int,.int,.int])) .neq (.d (tJ w)) (.d (tJ v))=some (.d (.bool (!GS w v))):=Y0 _ _ _ _ _ _ _ _
end Go.Proofs.Ytimbllcalipehaa.Ab
namespace Go.Proofs.Ytimbllcalipehaa.Ab
open Go
theorem aQ{α:Type}{o:Option α}{k:α→Prop}{x:α}(h:o=some x)(hk:k x):ab o k:=by subst h;exact hk
theorem cd{C:bd}{f:FuncId}{args:List SV}{r:SV}{k:SV→Prop}(h:C f args r)(hr:uS r=false)(hk:k r):aR C f args k:=⟨r,h,hr,hk⟩
theorem call2{C:bd}{f:FuncId}{args:List SV}{a b:SV}{k:SV→SV→Prop}(h:C f args (.aH [a,b]))(hk:k a b):∃x,∃y,C f args (.aH [x,y])∧k x y:=⟨a,b,h,hk⟩
theorem Y1(a b:Bool):ag (some (false,[.bool])) .eql (.d (.bool a)) (.d (.bool b))=some (.d (.bool (a==b))):=by
 simp only[ag,fh]
theorem Y2(a b:Bool):ag (some (false,[.bool])) .neq (.d (.bool a)) (.d (.bool b))=some (.d (.bool (a != b))):=by
 simp only[ag,fh,bne]
theorem aav(k:IntKind)(m n:Int):ag none .leq (.d (.int k m)) (.d (.int k n))=some (.d (.bool (decide (m≤n)))):=by
 simp only[ag,fh,im,↓reduceIte]
theorem aaw(k:IntKind)(m n:Int):ag none .gtr (.d (.int k m)) (.d (.int k n))=some (.d (.bool (decide (m>n)))):=by
 simp only[ag,fh,im,↓reduceIte]
theorem aax(k:IntKind)(m n:Int):ag none .lss (.d (.int k m)) (.d (.int k n))=some (.d (.bool (decide (m<n)))):=by
 simp only[ag,fh,im,↓reduceIte]
theorem aay(k:IntKind)(m n:Int):ag none .geq (.d (.int k m)) (.d (.int k n))=some (.d (.bool (decide (m≥n)))):=by
 simp only[ag,fh,im,↓reduceIte]
theorem fV(k:IntKind)(m n:Int):ag (some (false,[.int])) .eql (.d (.int k m)) (.d (.int k n))=some (.d (.bool (m==n))):=by
 simp only[ag,fh,im,↓reduceIte]
theorem fW(k:IntKind)(m n:Int):ag (some (false,[.int])) .neq (.d (.int k m)) (.d (.int k n))=some (.d (.bool (m != n))):=by
 simp only[ag,fh,im,↓reduceIte]
theorem wF(a b:List UInt8):ag (some (false,[.str])) .eql (.d (.str a)) (.d (.str b))=some (.d (.bool (a==b))):=by
 simp only[ag,fh,CL]
theorem Fo(a b:List UInt8):ag (some (false,[.str])) .neq (.d (.str a)) (.d (.str b))=some (.d (.bool (!(a==b)))):=by
 simp only[ag,fh,CL]
theorem g8(b:Bool):eA .not (.d (.bool b))=some (.d (.bool (!b))):=rfl
theorem CB{m n:Nat}(h:m+n<2^62):ag none .add (.d (.int .i64 (m:Int))) (.d (.int .i64 (n:Int)))=some (.d (.int .i64 ((m+n:Nat):Int))):=by
 have h2:IntKind.i64.wrap ((m:Int)+(n:Int))=((m+n:Nat):Int):=by rw[wrap_i64 (by omega) (by omega)];omega
 simp only[ag,fh,im,h2,↓reduceIte]
theorem aZ{m n:Nat}(h:m<n)(hn:n≤maxLen):ag none .add (.d (.int .i64 (m:Int))) (.d (.int .i64 1))=some (.d (.int .i64 ((m+1:Nat):Int))):=by
 simp only[maxLen]at hn
 have h2:IntKind.i64.wrap ((m:Int)+1)=((m+1:Nat):Int):=by rw[wrap_i64 (by omega) (by omega)];omega
 simp only[ag,fh,im,h2,↓reduceIte]
theorem kN{F:List SV→List (List SV)→(List SV→List (List SV)→Prop)→Prop}(J:Nat→Prop)(st:Nat→List SV)(sb:Nat→List (List SV))(n:Nat)(h0:J 0)
  (hP:∀i,i<n→J i→∀I:List SV→List (List SV)→Prop,(J (i+1)→I (st (i+1)) (sb (i+1)))→F (st i) (sb i) I)(mS:J n→∀I,F (st n) (sb n) I):bP F (st 0) (sb 0):=by
 intro I hI
 have key:∀k,k≤n→J (n-k)→I (st (n-k)) (sb (n-k)):=by
  intro k
  induction k with
  |zero=>intro _ hj;exact hI _ _ (mS hj I)
  |succ k ih=>
   intro hk hj
   have:=hP (n-(k+1)) (by omega) hj I (fun oC=>by rw[show n-(k+1)+1=n-k by omega]at oC ⊢;exact ih (by omega) oC)
   exact hI _ _ this
 have:=key n (Nat.le_refl _)
 simp only[Nat.sub_self]at this
 exact this h0
inductive gk(sz:Nat)(L:List D):SV→Prop
 |nil (s:Nat) (h:L=[]):gk sz L (.d (.sl .nil s []))
 |ro:gk sz L (.d (.sl .ro sz L))
 |full:gk sz L (.full sz L)
inductive aX(sz:Nat)(L:List D):D→Prop
 |nil (s:Nat) (h:L=[]):aX sz L (.sl .nil s [])
 |ro:aX sz L (.sl .ro sz L)
theorem aX.sv{sz:Nat}{L:List D}{x:D}(h:aX sz L x):gk sz L (.d x):=by
 cases h with
 |nil s h=>exact .nil s h
 |ro=>exact .ro
theorem gk.elems{sz:Nat}{L:List D}{x:SV}(h:gk sz L x):elems sz x=some L∧Cj x=some L∧aa x=x:=by
 cases h with
 |nil s h=>subst h;exact⟨rfl,rfl,rfl⟩
 |ro=>exact⟨by simp[Ab.elems],rfl,rfl⟩
 |full=>exact⟨by simp[Ab.elems],rfl,rfl⟩
theorem gk.kF{sz:Nat}{L:List D}{x:SV}(h:gk sz L x):aa x=x:=h.elems.2.2
theorem gk.len{sz:Nat}{L:List D}{x:SV}(h:gk sz L x):aW x=some (.d (.int .i64 (L.length:Int))):=by
 have h2:=h.elems.2.1
 cases h<;>simp[aW,h2]
theorem gk.at{sz:Nat}{L:List D}{x:SV}(h:gk sz L x){i:Nat}{y:D}(hy:L[i]? =some y):aN sz x (.d (.int .i64 (i:Int)))=some (.aT y 0):=by
 have hi:i<L.length:=(List.getElem?_eq_some_iff.1 hy).1
 have h1:=h.elems.1
 have key:aN sz x (.d (.int .i64 (i:Int)))=(match Ab.elems sz x with
  |some L=>(match cA (.d (.int .i64 (i:Int))) L.length with
   |some n=>(match L[n]? with|some y=>some (.aT y 0)|none=>none)
   |none=>none)
  |none=>none):=by cases h<;>rfl
 rw[key,h1]
 simp only[]
 rw[gZ hi]
 simp only[hy]
theorem gk.cells{sz:Nat}{L:List D}{x:SV}(h:gk sz L x):az x=some [x]:=by
 cases h<;>rfl
theorem aX.len{sz:Nat}{L:List D}{x:D}(h:aX sz L x):aW (.d x)=some (.d (.int .i64 (L.length:Int))):=h.sv.len
theorem aX.at{sz:Nat}{L:List D}{x:D}(h:aX sz L x){i:Nat}{y:D}(hy:L[i]? =some y):aN sz (.d x) (.d (.int .i64 (i:Int)))=some (.aT y 0):=h.sv.at hy
theorem wA(s:List UInt8):aG false 1 (.aT (.str s) 0)=some (.d (.str s)):=rfl
theorem Fc(cs:List D)(n:Nat)(h:cs.length=n):aG true n (.aT (.agg cs) 0)=some (.d (.agg cs)):=by
 subst h
 have:o7 true cs.length 0 cs=some (.agg cs):=by
  simp only[o7,cond_true,Nat.zero_add,Nat.le_refl,↓reduceIte,List.drop_zero,List.take_length]
 simp only[aG,D.cells,this]
theorem EZ(cs:List D)(n:Nat)(y:D)(h:cs[n]? =some y):aG false 1 (.aT (.agg cs) n)=some (.d y):=by
 have:o7 false 1 n cs=some y:=by simp only[o7,cond_false,h]
 simp only[aG,D.cells,this]
theorem aaz(x:D)(o n:Nat):cm (.aT x o) n=some (.aT x (o+n)):=rfl
theorem QB(x:D)(o:Nat):aa (.aT x o)=.aT x o:=rfl
def cF(l:List (List UInt8)):List D:=l.map .str
theorem jR(l:List (List UInt8)):(cF l).length =l.length:=List.length_map ..
theorem yn{l:List (List UInt8)}{i:Nat}{s:List UInt8}(h:l[i]? =some s):(cF l)[i]? =some (.str s):=by simp[cF,h]
theorem get_some{α:Type}{l:List α}{i:Nat}(h:i<l.length):∃y,l[i]? =some y:=⟨l[i],List.getElem?_eq_getElem h⟩
def first{α:Type}(p:α→Bool):List α→Option Nat
 |[]=>none
 |x::l=>if p x then some 0 else(first p l).map (· +1)
theorem qW{α:Type}{p:α→Bool}:∀{l:List α}{k:Nat}{x:α},l[k]? =some x→p x=true→(∀j y,j<k→l[j]? =some y→p y=false)→first p l=some k
 |[],k,x,h,_,_=>by simp at h
 |y::l,0,x,h,hp,_=>by simp at h;subst h;simp[first,hp]
 |y::l,k+1,x,h,hp,hn=>by
  have h0:=hn 0 y (by omega) (by simp)
  rw[first,h0]
  rw[qW (l:=l) (k:=k) (by simpa using h) hp (fun j z hj hz=>hn (j+1) z (by omega) (by simpa using hz))]
  rfl
theorem qT{α:Type}{p:α→Bool}:∀{l:List α},(∀(j:Nat)y,l[j]? =some y→p y=false)→first p l=none
 |[],_=>rfl
 |y::l,hn=>by
  have h0:=hn 0 y (by simp)
  rw[first,h0,qT (l:=l) (fun j z hz=>hn (j+1) z (by simpa using hz))]
  rfl
theorem EU{α:Type}{p:α→Bool}:∀{l:List α}{k:Nat},first p l=some k→∃x,l[k]? =some x∧p x=true∧∀j y,j<k→l[j]? =some y→p y=false
 |[],k,h=>by simp[first]at h
 |y::l,k,h=>by
  rw[first]at h
  by_cases hp:p y=true
  ·rw[if_pos hp]at h
   cases h
   exact⟨y,by simp,hp,fun j _ hj=>by omega⟩
  ·rw[if_neg hp]at h
   obtain⟨k',bR,rfl⟩:=Option.map_eq_some_iff.1 h
   obtain⟨x,h1,h2,h3⟩:=EU bR
   refine⟨x,by simpa using h1,h2,fun j z hj hz=>?_⟩
   cases j with
   |zero=>simp at hz;subst hz;simpa using hp
   |succ j=>exact h3 j z (by omega) (by simpa using hz)
def orM(o:Option Nat):Int:=match o with|some k=>(k:Int)|none=> -1
theorem wG(o:Option Nat):decide (orM o≥0)=o.isSome:=by
 cases o with
 |none=>decide
 |some k=>simp[orM]
end Go.Proofs.Ytimbllcalipehaa.Ab
namespace Go.Proofs.Ytimbllcalipehaa.Ab
open Go
inductive Xp where
 |mk (op a rel b:Int) (names:List (List UInt8)) (w:Nat→BitVec 64) (kids:List Xp)
def Xp.op:Xp→Int| .mk op _ _ _ _ _ _=>op
def Xp.a:Xp→Int| .mk _ a _ _ _ _ _=>a
def Xp.rel:Xp→Int| .mk _ _ r _ _ _ _=>r
def Xp.b:Xp→Int| .mk _ _ _ b _ _ _=>b
def Xp.names:Xp→List (List UInt8)| .mk _ _ _ _ n _ _=>n
def Xp.w:Xp→Nat→BitVec 64| .mk _ _ _ _ _ w _=>w
def Xp.kids:Xp→List Xp| .mk _ _ _ _ _ _ k=>k
def vV(op a rel b:Int)(nm:D)(w:Nat→BitVec 64)(kd:D):List D:=
 [.int .i64 op,.int .i64 a,.int .i64 rel,.int .i64 b,nm,dW (w 0),dW (w 1),dW (w 2),dW (w 3),kd]
def jx(op a rel b:Int)(nm:D)(w:Nat→BitVec 64)(kd:D):List SV:=
 [.d (.int .i64 op),.d (.int .i64 a),.d (.int .i64 rel),.d (.int .i64 b),.d nm,.d (dW (w 0)),.d (dW (w 1)),.d (dW (w 2)),.d (dW (w 3)),.d kd]
inductive kJ:Xp→D→Prop
 |mk (op a rel b:Int) (names:List (List UInt8)) (w:Nat→BitVec 64) (kids:List Xp) (nm kd:D) (L:List D) (hn:aX 1 (cF names) nm) (hl:L.length=kids.length)
   (hk:∀(i:Nat)k y,kids[i]? =some k→L[i]? =some y→kJ k y) (hd:aX 10 L kd):kJ (.mk op a rel b names w kids) (.agg (vV op a rel b nm w kd))
section
variable(op a rel b:Int)(nm:D)(w:Nat→BitVec 64)(kd:D)
theorem P0:az (.d (.agg (vV op a rel b nm w kd)))=some (jx op a rel b nm w kd):=rfl
theorem aaA:(jx op a rel b nm w kd).length =10:=rfl
theorem W0:ah true 10 0 (jx op a rel b nm w kd)=some (.d (.agg (vV op a rel b nm w kd))):=rfl
theorem Y3:ah false 1 0 (jx op a rel b nm w kd)=some (.d (.int .i64 op)):=rfl
theorem Y4:ah false 1 1 (jx op a rel b nm w kd)=some (.d (.int .i64 a)):=rfl
theorem Y5:ah false 1 2 (jx op a rel b nm w kd)=some (.d (.int .i64 rel)):=rfl
theorem Y6:ah false 1 3 (jx op a rel b nm w kd)=some (.d (.int .i64 b)):=rfl
theorem Y7:ah false 1 4 (jx op a rel b nm w kd)=some (.d nm):=rfl
theorem Y8:ah true 4 5 (jx op a rel b nm w kd)=some (.d (tJ w)):=rfl
theorem Y9:ah false 1 9 (jx op a rel b nm w kd)=some (.d kd):=rfl
end
theorem kJ.inv{e:Xp}{x:D}(h:kJ e x):∃nm kd L,x=.agg (vV e.op e.a e.rel e.b nm e.w kd)∧aX 1 (cF e.names) nm∧L.length=e.kids.length∧aX 10 L kd∧
  ∀(i:Nat)k y,e.kids[i]? =some k→L[i]? =some y→kJ k y:=by
 cases h with
 |mk op a rel b names w kids nm kd L hn hl hk hd=>exact⟨nm,kd,L,rfl,hn,hl,hd,hk⟩
theorem XR:aO []=some []:=rfl
def Xp.lv:Xp→Nat
 | .mk _ _ _ _ _ _ kids=>Tx kids+1
where Tx:List Xp→Nat
 |[]=>0
 |k::l=>max k.lv (Tx l)
end Go.Proofs.Ytimbllcalipehaa.Ab
namespace Go.Proofs.Ytimbllcalipehaa.Ab
open Go
end Go.Proofs.Ytimbllcalipehaa.Ab
namespace Go.Proofs.Ytimbllcalipehaa.Ab
open Go
end Go.Proofs.Ytimbllcalipehaa.Ab
namespace Go.Proofs.Ytimbllcalipehaa.Ab
open Go
structure ee where
 u:Int
 r:Int
 t:Int
 ls:Int
 lc:BitVec 64
 hs:Int
 hc:BitVec 64
structure lC where
 f:ee
 s:ee
 t:ee
def qf(c:ee):D:=.agg [.int .i64 c.u,.int .i64 c.r,.int .i64 c.t,.int .i64 c.ls,dW c.lc,.int .i64 c.hs,dW c.hc]
def j4(c:ee):List SV:=[.d (.int .i64 c.u),.d (.int .i64 c.r),.d (.int .i64 c.t),.d (.int .i64 c.ls),.d (dW c.lc),.d (.int .i64 c.hs),.d (dW c.hc)]
def FX(x:lC):D:=.agg [.int .i64 x.f.u,.int .i64 x.f.r,.int .i64 x.f.t,.int .i64 x.f.ls,dW x.f.lc,.int .i64 x.f.hs,dW x.f.hc,
 .int .i64 x.s.u,.int .i64 x.s.r,.int .i64 x.s.t,.int .i64 x.s.ls,dW x.s.lc,.int .i64 x.s.hs,dW x.s.hc,.int .i64 x.t.u,.int .i64 x.t.r,.int .i64 x.t.t,.int .i64 x.t.ls,dW x.t.lc,.int .i64 x.t.hs,dW x.t.hc]
def p7(x:lC):List SV:=[.d (.int .i64 x.f.u),.d (.int .i64 x.f.r),.d (.int .i64 x.f.t),.d (.int .i64 x.f.ls),.d (dW x.f.lc),.d (.int .i64 x.f.hs),.d (dW x.f.hc),
 .d (.int .i64 x.s.u),.d (.int .i64 x.s.r),.d (.int .i64 x.s.t),.d (.int .i64 x.s.ls),.d (dW x.s.lc),.d (.int .i64 x.s.hs),.d (dW x.s.hc),.d (.int .i64 x.t.u),.d (.int .i64 x.t.r),.d (.int .i64 x.t.t),.d (.int .i64 x.t.ls),.d (dW x.t.lc),.d (.int .i64 x.t.hs),.d (dW x.t.hc)]
def jo(l:Int×BitVec 64):D:=.agg [.int .i64 l.1,dW l.2]
def oa(l:Int×BitVec 64):List SV:=[.d (.int .i64 l.1),.d (dW l.2)]
theorem W3(x:lC):az (.d (FX x))=some (p7 x):=rfl
theorem Za(x:lC):(p7 x).length =21:=rfl
theorem XS(x:lC):ah true 21 0 (p7 x)=some (.d (FX x)):=rfl
theorem W5(x:lC):ah true 7 0 (p7 x)=some (.d (qf x.f)):=rfl
theorem W6(x:lC):ah true 7 7 (p7 x)=some (.d (qf x.s)):=rfl
theorem Wg(x:lC):ah true 7 14 (p7 x)=some (.d (qf x.t)):=rfl
theorem XT(x:ee):az (.d (qf x))=some (j4 x):=rfl
theorem aaB(x:ee):(j4 x).length =7:=rfl
theorem Zb(x:ee):ah true 7 0 (j4 x)=some (.d (qf x)):=rfl
theorem XU(x:ee):ah false 1 0 (j4 x)=some (.d (.int .i64 x.u)):=rfl
theorem XV(x:ee):ah false 1 1 (j4 x)=some (.d (.int .i64 x.r)):=rfl
theorem XW(x:ee):ah false 1 2 (j4 x)=some (.d (.int .i64 x.t)):=rfl
theorem XX(x:ee):ah true 2 3 (j4 x)=some (.d (jo (x.ls,x.lc))):=rfl
theorem XY(x:ee):ah true 2 5 (j4 x)=some (.d (jo (x.hs,x.hc))):=rfl
theorem aaC(a0 a1 a2 a3 a4 a5 a6:SV)(x:ee):setAt [a0,a1,a2,a3,a4,a5,a6] 0 (j4 x)=j4 x:=rfl
theorem XZ(l:Int×BitVec 64):az (.d (jo l))=some (oa l):=rfl
theorem aaD(l:Int×BitVec 64):(oa l).length =2:=rfl
theorem Zc(l:Int×BitVec 64):ah true 2 0 (oa l)=some (.d (jo l)):=rfl
theorem X0(l:Int×BitVec 64):ah false 1 0 (oa l)=some (.d (.int .i64 l.1)):=rfl
theorem X1(l:Int×BitVec 64):ah false 1 1 (oa l)=some (.d (dW l.2)):=rfl
theorem aaE(a0 a1:SV)(l:Int×BitVec 64):setAt [a0,a1] 0 (oa l)=oa l:=rfl
def Bg(x:ee):D:=.agg [.int .i64 x.ls,dW x.lc,.int .i64 x.hs,dW x.hc]
theorem X2(x:ee):uI true 4 3 (.d (qf x))=some (.d (Bg x)):=rfl
theorem Zd(x:ee):uI true 2 0 (.d (Bg x))=some (.d (jo (x.ls,x.lc))):=rfl
theorem Ze(x:ee):uI true 2 2 (.d (Bg x))=some (.d (jo (x.hs,x.hc))):=rfl
def BI(a b:Int×BitVec 64):Bool:=a.1==b.1&&(a.2==b.2&&true)
theorem aaF(a b:Int×BitVec 64):ag (some (true,[.int,.int])) .eql (.d (jo a)) (.d (jo b))=some (.d (.bool (BI a b))):=by
 simp only[ag,fh,jo,dP,dW,Bool.and_self,cond_true,fA,mJ,↓reduceIte,AF,BI]
theorem aaG(a b:Int×BitVec 64):ag (some (true,[.int,.int])) .neq (.d (jo a)) (.d (jo b))=some (.d (.bool (!BI a b))):=by
 simp only[ag,fh,jo,dP,dW,Bool.and_self,cond_true,fA,mJ,↓reduceIte,AF,BI]
end Go.Proofs.Ytimbllcalipehaa.Ab
namespace Go.Proofs.Ytimbllcalipehaa.Ab
open Go
def dU(x:BitVec 32):D:=.int .u32 (x.toNat:Int)
structure BJ where
 e:Xp
 nm:D
 kd:D
 h:kJ e (.agg (vV e.op e.a e.rel e.b nm e.w kd))
def BJ.enc(t:BJ):D:=.agg (vV t.e.op t.e.a t.e.rel t.e.b t.nm t.e.w t.kd)
theorem BJ.is(t:BJ):kJ t.e t.enc:=t.h
structure m6 where
 name:List UInt8
 perms:List (List UInt8)
 JS:D
 afL:aX 1 (cF perms) JS
 afM:perms.length≤maxLen
def m6.enc(t:m6):D:=.agg [.str t.name,t.JS]
def m6.cells(t:m6):List SV:=[.d (.str t.name),.d (t.JS)]
theorem m6.c(t:m6):az (.d t.enc)=some t.cells:=rfl
theorem m6.n(t:m6):t.cells.length=2:=rfl
theorem m6.a(t:m6):ah true 2 0 t.cells=some (.d t.enc):=rfl
theorem m6.st(t:m6)(a0 a1:SV):setAt [a0,a1] 0 t.cells=t.cells:=by
 unfold m6.cells
 simp only[setAt,List.set_cons_zero,List.set_cons_succ]
structure m7 where
 name:List UInt8
 iD:List (List UInt8)
 KJ:D
 afU:aX 1 (cF iD) KJ
 afV:iD.length≤maxLen
 pm:Bool
def m7.enc(t:m7):D:=.agg [.str t.name,t.KJ,.bool t.pm]
def m7.cells(t:m7):List SV:=[.d (.str t.name),.d (t.KJ),.d (.bool t.pm)]
theorem m7.c(t:m7):az (.d t.enc)=some t.cells:=rfl
theorem m7.n(t:m7):t.cells.length=3:=rfl
theorem m7.a(t:m7):ah true 3 0 t.cells=some (.d t.enc):=rfl
theorem m7.st(t:m7)(a0 a1 a2:SV):setAt [a0,a1,a2] 0 t.cells=t.cells:=by
 unfold m7.cells
 simp only[setAt,List.set_cons_zero,List.set_cons_succ]
structure m8 where
 name:List UInt8
 w:Nat→BitVec 64
def m8.enc(t:m8):D:=.agg [.str t.name,dW (t.w 0),dW (t.w 1),dW (t.w 2),dW (t.w 3)]
def m8.cells(t:m8):List SV:=[.d (.str t.name),.d (dW (t.w 0)),.d (dW (t.w 1)),.d (dW (t.w 2)),.d (dW (t.w 3))]
theorem m8.c(t:m8):az (.d t.enc)=some t.cells:=rfl
theorem m8.n(t:m8):t.cells.length=5:=rfl
theorem m8.a(t:m8):ah true 5 0 t.cells=some (.d t.enc):=rfl
theorem m8.st(t:m8)(a0 a1 a2 a3 a4:SV):setAt [a0,a1,a2,a3,a4] 0 t.cells=t.cells:=by
 unfold m8.cells
 simp only[setAt,List.set_cons_zero,List.set_cons_succ]
structure m9 where
 name:List UInt8
 tw:Nat→BitVec 64
 nw:Nat→BitVec 64
def m9.enc(t:m9):D:=.agg [.str t.name,dW (t.tw 0),dW (t.tw 1),dW (t.tw 2),dW (t.tw 3),dW (t.nw 0),dW (t.nw 1),dW (t.nw 2),dW (t.nw 3)]
def m9.cells(t:m9):List SV:=[.d (.str t.name),.d (dW (t.tw 0)),.d (dW (t.tw 1)),.d (dW (t.tw 2)),.d (dW (t.tw 3)),.d (dW (t.nw 0)),.d (dW (t.nw 1)),.d (dW (t.nw 2)),.d (dW (t.nw 3))]
theorem m9.c(t:m9):az (.d t.enc)=some t.cells:=rfl
theorem m9.n(t:m9):t.cells.length=9:=rfl
theorem m9.a(t:m9):ah true 9 0 t.cells=some (.d t.enc):=rfl
theorem m9.st(t:m9)(a0 a1 a2 a3 a4 a5 a6 a7 a8:SV):setAt [a0,a1,a2,a3,a4,a5,a6,a7,a8] 0 t.cells=t.cells:=by
 unfold m9.cells
 simp only[setAt,List.set_cons_zero,List.set_cons_succ]
structure na where
 name:List UInt8
 rw:Nat→BitVec 64
 df:Int×BitVec 64
 rg:(Int×BitVec 64)×(Int×BitVec 64)
def na.enc(t:na):D:=.agg [.str t.name,dW (t.rw 0),dW (t.rw 1),dW (t.rw 2),dW (t.rw 3),.int .i64 t.df.1,dW t.df.2,.int .i64 t.rg.1.1,dW t.rg.1.2,.int .i64 t.rg.2.1,dW t.rg.2.2]
def na.cells(t:na):List SV:=[.d (.str t.name),.d (dW (t.rw 0)),.d (dW (t.rw 1)),.d (dW (t.rw 2)),.d (dW (t.rw 3)),.d (.int .i64 t.df.1),.d (dW t.df.2),.d (.int .i64 t.rg.1.1),.d (dW t.rg.1.2),.d (.int .i64 t.rg.2.1),.d (dW t.rg.2.2)]
theorem na.c(t:na):az (.d t.enc)=some t.cells:=rfl
theorem na.n(t:na):t.cells.length=11:=rfl
theorem na.a(t:na):ah true 11 0 t.cells=some (.d t.enc):=rfl
theorem na.st(t:na)(a0 a1 a2 a3 a4 a5 a6 a7 a8 a9 vW:SV):setAt [a0,a1,a2,a3,a4,a5,a6,a7,a8,a9,vW] 0 t.cells=t.cells:=by
 unfold na.cells
 simp only[setAt,List.set_cons_zero,List.set_cons_succ]
structure nf where
 name:List UInt8
 v:Bool
def nf.enc(t:nf):D:=.agg [.str t.name,.bool t.v]
def nf.cells(t:nf):List SV:=[.d (.str t.name),.d (.bool t.v)]
theorem nf.c(t:nf):az (.d t.enc)=some t.cells:=rfl
theorem nf.n(t:nf):t.cells.length=2:=rfl
theorem nf.a(t:nf):ah true 2 0 t.cells=some (.d t.enc):=rfl
theorem nf.st(t:nf)(a0 a1:SV):setAt [a0,a1] 0 t.cells=t.cells:=by
 unfold nf.cells
 simp only[setAt,List.set_cons_zero,List.set_cons_succ]
structure nh where
 kind:Int
 sw:Nat→BitVec 64
 tw:Nat→BitVec 64
 self:Bool
 cls:Int
 perms:BitVec 32
 cond:Int
def nh.enc(t:nh):D:=.agg [.int .i64 t.kind,dW (t.sw 0),dW (t.sw 1),dW (t.sw 2),dW (t.sw 3),dW (t.tw 0),dW (t.tw 1),dW (t.tw 2),dW (t.tw 3),.bool t.self,.int .i64 t.cls,dU t.perms,.int .i64 t.cond]
def nh.cells(t:nh):List SV:=[.d (.int .i64 t.kind),.d (dW (t.sw 0)),.d (dW (t.sw 1)),.d (dW (t.sw 2)),.d (dW (t.sw 3)),.d (dW (t.tw 0)),.d (dW (t.tw 1)),.d (dW (t.tw 2)),.d (dW (t.tw 3)),.d (.bool t.self),.d (.int .i64 t.cls),.d (dU t.perms),.d (.int .i64 t.cond)]
theorem nh.c(t:nh):az (.d t.enc)=some t.cells:=rfl
theorem nh.n(t:nh):t.cells.length=13:=rfl
theorem nh.a(t:nh):ah true 13 0 t.cells=some (.d t.enc):=rfl
theorem nh.st(t:nh)(a0 a1 a2 a3 a4 a5 a6 a7 a8 a9 vW zB zC:SV):setAt [a0,a1,a2,a3,a4,a5,a6,a7,a8,a9,vW,zB,zC] 0 t.cells=t.cells:=by
 unfold nh.cells
 simp only[setAt,List.set_cons_zero,List.set_cons_succ]
structure ni where
 kind:Int
 sw:Nat→BitVec 64
 tw:Nat→BitVec 64
 cls:Int
 name:List UInt8
 res:Int
 cond:Int
def ni.enc(t:ni):D:=.agg [.int .i64 t.kind,dW (t.sw 0),dW (t.sw 1),dW (t.sw 2),dW (t.sw 3),dW (t.tw 0),dW (t.tw 1),dW (t.tw 2),dW (t.tw 3),.int .i64 t.cls,.str t.name,.int .i64 t.res,.int .i64 t.cond]
def ni.cells(t:ni):List SV:=[.d (.int .i64 t.kind),.d (dW (t.sw 0)),.d (dW (t.sw 1)),.d (dW (t.sw 2)),.d (dW (t.sw 3)),.d (dW (t.tw 0)),.d (dW (t.tw 1)),.d (dW (t.tw 2)),.d (dW (t.tw 3)),.d (.int .i64 t.cls),.d (.str t.name),.d (.int .i64 t.res),.d (.int .i64 t.cond)]
theorem ni.c(t:ni):az (.d t.enc)=some t.cells:=rfl
theorem ni.n(t:ni):t.cells.length=13:=rfl
theorem ni.a(t:ni):ah true 13 0 t.cells=some (.d t.enc):=rfl
theorem ni.st(t:ni)(a0 a1 a2 a3 a4 a5 a6 a7 a8 a9 vW zB zC:SV):setAt [a0,a1,a2,a3,a4,a5,a6,a7,a8,a9,vW,zB,zC] 0 t.cells=t.cells:=by
 unfold ni.cells
 simp only[setAt,List.set_cons_zero,List.set_cons_succ]
structure nj where
 rw:Nat→BitVec 64
 tw:Nat→BitVec 64
 cls:Int
 res:Int
def nj.enc(t:nj):D:=.agg [dW (t.rw 0),dW (t.rw 1),dW (t.rw 2),dW (t.rw 3),dW (t.tw 0),dW (t.tw 1),dW (t.tw 2),dW (t.tw 3),.int .i64 t.cls,.int .i64 t.res]
def nj.cells(t:nj):List SV:=[.d (dW (t.rw 0)),.d (dW (t.rw 1)),.d (dW (t.rw 2)),.d (dW (t.rw 3)),.d (dW (t.tw 0)),.d (dW (t.tw 1)),.d (dW (t.tw 2)),.d (dW (t.tw 3)),.d (.int .i64 t.cls),.d (.int .i64 t.res)]
theorem nj.c(t:nj):az (.d t.enc)=some t.cells:=rfl
theorem nj.n(t:nj):t.cells.length=10:=rfl
theorem nj.a(t:nj):ah true 10 0 t.cells=some (.d t.enc):=rfl
theorem nj.st(t:nj)(a0 a1 a2 a3 a4 a5 a6 a7 a8 a9:SV):setAt [a0,a1,a2,a3,a4,a5,a6,a7,a8,a9] 0 t.cells=t.cells:=by
 unfold nj.cells
 simp only[setAt,List.set_cons_zero,List.set_cons_succ]
structure nk where
 sw:Nat→BitVec 64
 tw:Nat→BitVec 64
 cls:Int
 rg:(Int×BitVec 64)×(Int×BitVec 64)
def nk.enc(t:nk):D:=.agg [dW (t.sw 0),dW (t.sw 1),dW (t.sw 2),dW (t.sw 3),dW (t.tw 0),dW (t.tw 1),dW (t.tw 2),dW (t.tw 3),.int .i64 t.cls,.int .i64 t.rg.1.1,dW t.rg.1.2,.int .i64 t.rg.2.1,dW t.rg.2.2]
def nk.cells(t:nk):List SV:=[.d (dW (t.sw 0)),.d (dW (t.sw 1)),.d (dW (t.sw 2)),.d (dW (t.sw 3)),.d (dW (t.tw 0)),.d (dW (t.tw 1)),.d (dW (t.tw 2)),.d (dW (t.tw 3)),.d (.int .i64 t.cls),.d (.int .i64 t.rg.1.1),.d (dW t.rg.1.2),.d (.int .i64 t.rg.2.1),.d (dW t.rg.2.2)]
theorem nk.c(t:nk):az (.d t.enc)=some t.cells:=rfl
theorem nk.n(t:nk):t.cells.length=13:=rfl
theorem nk.a(t:nk):ah true 13 0 t.cells=some (.d t.enc):=rfl
theorem nk.st(t:nk)(a0 a1 a2 a3 a4 a5 a6 a7 a8 a9 vW zB zC:SV):setAt [a0,a1,a2,a3,a4,a5,a6,a7,a8,a9,vW,zB,zC] 0 t.cells=t.cells:=by
 unfold nk.cells
 simp only[setAt,List.set_cons_zero,List.set_cons_succ]
structure nn where
 cls:Int
 perms:BitVec 32
 val:Bool
 e:Xp
 nm:D
 kd:D
 h:kJ e (.agg (vV e.op e.a e.rel e.b nm e.w kd))
def nn.enc(t:nn):D:=.agg [.int .i64 t.cls,dU t.perms,.bool t.val,.int .i64 t.e.op,.int .i64 t.e.a,.int .i64 t.e.rel,.int .i64 t.e.b,t.nm,dW (t.e.w 0),dW (t.e.w 1),dW (t.e.w 2),dW (t.e.w 3),t.kd]
def nn.cells(t:nn):List SV:=[.d (.int .i64 t.cls),.d (dU t.perms),.d (.bool t.val),.d (.int .i64 t.e.op),.d (.int .i64 t.e.a),.d (.int .i64 t.e.rel),.d (.int .i64 t.e.b),.d (t.nm),.d (dW (t.e.w 0)),.d (dW (t.e.w 1)),.d (dW (t.e.w 2)),.d (dW (t.e.w 3)),.d (t.kd)]
theorem nn.c(t:nn):az (.d t.enc)=some t.cells:=rfl
theorem nn.n(t:nn):t.cells.length=13:=rfl
theorem nn.a(t:nn):ah true 13 0 t.cells=some (.d t.enc):=rfl
theorem nn.st(t:nn)(a0 a1 a2 a3 a4 a5 a6 a7 a8 a9 vW zB zC:SV):setAt [a0,a1,a2,a3,a4,a5,a6,a7,a8,a9,vW,zB,zC] 0 t.cells=t.cells:=by
 unfold nn.cells
 simp only[setAt,List.set_cons_zero,List.set_cons_succ]
structure np where
 name:List UInt8
 ctx:ee
def np.enc(t:np):D:=.agg [.str t.name,.int .i64 t.ctx.u,.int .i64 t.ctx.r,.int .i64 t.ctx.t,.int .i64 t.ctx.ls,dW t.ctx.lc,.int .i64 t.ctx.hs,dW t.ctx.hc]
def np.cells(t:np):List SV:=[.d (.str t.name),.d (.int .i64 t.ctx.u),.d (.int .i64 t.ctx.r),.d (.int .i64 t.ctx.t),.d (.int .i64 t.ctx.ls),.d (dW t.ctx.lc),.d (.int .i64 t.ctx.hs),.d (dW t.ctx.hc)]
theorem np.c(t:np):az (.d t.enc)=some t.cells:=rfl
theorem np.n(t:np):t.cells.length=8:=rfl
theorem np.a(t:np):ah true 8 0 t.cells=some (.d t.enc):=rfl
theorem np.st(t:np)(a0 a1 a2 a3 a4 a5 a6 a7:SV):setAt [a0,a1,a2,a3,a4,a5,a6,a7] 0 t.cells=t.cells:=by
 unfold np.cells
 simp only[setAt,List.set_cons_zero,List.set_cons_succ]
structure nq where
 pat:List UInt8
 kind:Int
 ctx:ee
def nq.enc(t:nq):D:=.agg [.str t.pat,.int .i64 t.kind,.int .i64 t.ctx.u,.int .i64 t.ctx.r,.int .i64 t.ctx.t,.int .i64 t.ctx.ls,dW t.ctx.lc,.int .i64 t.ctx.hs,dW t.ctx.hc]
def nq.cells(t:nq):List SV:=[.d (.str t.pat),.d (.int .i64 t.kind),.d (.int .i64 t.ctx.u),.d (.int .i64 t.ctx.r),.d (.int .i64 t.ctx.t),.d (.int .i64 t.ctx.ls),.d (dW t.ctx.lc),.d (.int .i64 t.ctx.hs),.d (dW t.ctx.hc)]
theorem nq.c(t:nq):az (.d t.enc)=some t.cells:=rfl
theorem nq.n(t:nq):t.cells.length=9:=rfl
theorem nq.a(t:nq):ah true 9 0 t.cells=some (.d t.enc):=rfl
theorem nq.st(t:nq)(a0 a1 a2 a3 a4 a5 a6 a7 a8:SV):setAt [a0,a1,a2,a3,a4,a5,a6,a7,a8] 0 t.cells=t.cells:=by
 unfold nq.cells
 simp only[setAt,List.set_cons_zero,List.set_cons_succ]
structure nr where
 name:List UInt8
 kind:Int
 sw:Nat→BitVec 64
 tw:Nat→BitVec 64
def nr.enc(t:nr):D:=.agg [.str t.name,.int .i64 t.kind,dW (t.sw 0),dW (t.sw 1),dW (t.sw 2),dW (t.sw 3),dW (t.tw 0),dW (t.tw 1),dW (t.tw 2),dW (t.tw 3)]
def nr.cells(t:nr):List SV:=[.d (.str t.name),.d (.int .i64 t.kind),.d (dW (t.sw 0)),.d (dW (t.sw 1)),.d (dW (t.sw 2)),.d (dW (t.sw 3)),.d (dW (t.tw 0)),.d (dW (t.tw 1)),.d (dW (t.tw 2)),.d (dW (t.tw 3))]
theorem nr.c(t:nr):az (.d t.enc)=some t.cells:=rfl
theorem nr.n(t:nr):t.cells.length=10:=rfl
theorem nr.a(t:nr):ah true 10 0 t.cells=some (.d t.enc):=rfl
theorem nr.st(t:nr)(a0 a1 a2 a3 a4 a5 a6 a7 a8 a9:SV):setAt [a0,a1,a2,a3,a4,a5,a6,a7,a8,a9] 0 t.cells=t.cells:=by
 unfold nr.cells
 simp only[setAt,List.set_cons_zero,List.set_cons_succ]
structure w4 where
 cl:List m6
 L8:D
 clH:aX 2 (List.map m6.enc cl) L8
 clM:cl.length≤maxLen
 ty:List m7
 L9:D
 tyH:aX 3 (List.map m7.enc ty) L9
 tyM:ty.length≤maxLen
 at_:List m8
 KL:D
 afW:aX 5 (List.map m8.enc at_) KL
 afX:at_.length≤maxLen
 ro:List m9
 Ma:D
 roH:aX 9 (List.map m9.enc ro) Ma
 roM:ro.length≤maxLen
 us:List na
 Mb:D
 usH:aX 11 (List.map na.enc us) Mb
 usM:us.length≤maxLen
 bo:List nf
 Mc:D
 boH:aX 2 (List.map nf.enc bo) Mc
 boM:bo.length≤maxLen
 se:List (List UInt8)
 Md:D
 seH:aX 1 (cF se) Md
 seM:se.length≤maxLen
 ca:List (List UInt8)
 Me:D
 caH:aX 1 (cF ca) Me
 caM:ca.length≤maxLen
 co:List BJ
 Mf:D
 coH:aX 10 (List.map BJ.enc co) Mf
 coM:co.length≤maxLen
 ru:List nh
 Mg:D
 ruH:aX 13 (List.map nh.enc ru) Mg
 ruM:ru.length≤maxLen
 tr:List ni
 Mh:D
 trH:aX 13 (List.map ni.enc tr) Mh
 trM:tr.length≤maxLen
 rt:List nj
 Mi:D
 rtH:aX 10 (List.map nj.enc rt) Mi
 rtM:rt.length≤maxLen
 ra:List nk
 Mj:D
 raH:aX 13 (List.map nk.enc ra) Mj
 raM:ra.length≤maxLen
 cs:List nn
 Mk:D
 csH:aX 13 (List.map nn.enc cs) Mk
 csM:cs.length≤maxLen
 si:List np
 Ml:D
 siH:aX 8 (List.map np.enc si) Ml
 siM:si.length≤maxLen
 fi:List nq
 Mm:D
 fiH:aX 9 (List.map nq.enc fi) Mm
 fiM:fi.length≤maxLen
 Ty:List nr
 KM:D
 afY:aX 10 (List.map nr.enc Ty) KM
 afZ:Ty.length≤maxLen
def Sx(p:w4):D:=.agg [p.L8,p.L9,p.KL,p.Ma,p.Mb,p.Mc,p.Md,p.Me,p.Mf,p.Mg,p.Mh,p.Mi,p.Mj,p.Mk,p.Ml,p.Mm,p.KM]
def KN(p:w4):List SV:=[.d p.L8,.d p.L9,.d p.KL,.d p.Ma,.d p.Mb,.d p.Mc,.d p.Md,.d p.Me,.d p.Mf,.d p.Mg,.d p.Mh,.d p.Mi,.d p.Mj,.d p.Mk,.d p.Ml,.d p.Mm,.d p.KM]
theorem w4.c(p:w4):az (.d (Sx p))=some (KN p):=rfl
theorem w4.n(p:w4):(KN p).length =17:=rfl
theorem w4.a(p:w4):ah true 17 0 (KN p)=some (.d (Sx p)):=rfl
end Go.Proofs.Ytimbllcalipehaa.Ab
namespace Go.Proofs.Ytimbllcalipehaa.Ab
open Go
section
variable{P:Program}{gl:Nat→Option D}{h:Hints}{f:FuncId}{args:List SV}
end
theorem wB{α:Type}{F:List SV→List (List SV)→(List SV→List (List SV)→Prop)→Prop}(J:Nat→α→Prop)(st:Nat→α→List SV)(sb:Nat→α→List (List SV))(n:Nat)(a0:α)(h0:J 0 a0)
  (hP:∀i a,i<n→J i a→∀I:List SV→List (List SV)→Prop,(∀a',J (i+1) a'→I (st (i+1) a') (sb (i+1) a'))→F (st i a) (sb i a) I)(mS:∀a,J n a→∀I,F (st n a) (sb n a) I):bP F (st 0 a0) (sb 0 a0):=by
 intro I hI
 have key:∀k,k≤n→∀a,J (n-k) a→I (st (n-k) a) (sb (n-k) a):=by
  intro k
  induction k with
  |zero=>intro _ a hj;exact hI _ _ (mS a hj I)
  |succ k ih=>
   intro hk a hj
   refine hI _ _ (hP (n-(k+1)) a (by omega) hj I fun a' oC=>?_)
   rw[show n-(k+1)+1=n-k by omega]at oC ⊢
   exact ih (by omega) a' oC
 have:=key n (Nat.le_refl _)
 simp only[Nat.sub_self]at this
 exact this a0 h0
def bq(sz:Nat)(L:List D):SV:=match L with
 |[]=>.d (.sl .nil 0 [])
 |L=>.own sz L
theorem gY(sz:Nat)(L:List D):uS (bq sz L)=false:=by cases L<;>rfl
theorem jP(sz:Nat)(L:List D):(bq sz L).ax =true:=by cases L<;>rfl
theorem OE(sz:Nat)(L:List D):az (bq sz L)=some [bq sz L]:=by cases L<;>rfl
def bm(sz:Nat)(L:List D):D:=match L with
 |[]=>.sl .nil 0 []
 |L=>.sl .ro sz L
theorem dw(sz:Nat)(L:List D):aa (bq sz L)=.d (bm sz L):=by cases L<;>rfl
theorem dc(sz:Nat)(L:List D):aX sz L (bm sz L):=by cases L with
 |nil=>exact .nil 0 rfl
 |cons a L=>exact .ro
theorem gK{sz cV:Nat}{L M:List D}{x:SV}{k:SV→Prop}(hx:elems sz x=some M)(hb:(L.length+M.length)*cV≤140737488355328)(hk:k (bq sz (L++M))):bV sz cV (bq sz L) x k:=by
 unfold bV
 cases L with
 |nil=>
  have:kq sz (bq sz []) x=some (bq sz M,M.length):=by
   simp only[bq,kq,hx]
   cases M with
   |nil=>rfl
   |cons a M=>rfl
  rw[this]
  exact⟨by simpa using hb,hk⟩
 |cons a L=>
  have:kq sz (bq sz (a::L)) x=some (bq sz (a::L++M),(a::L).length +M.length):=by
   simp only[bq,kq,hx,↓reduceIte,List.cons_append]
  rw[this]
  exact⟨hb,hk⟩
def iS(sz:Nat)(L M:List D):SV:=if M=[]then .full sz L else .own sz (L++M)
theorem IX{sz cV:Nat}{L M:List D}{x:SV}{k:SV→Prop}(hx:elems sz x=some M)(hb:(L.length+M.length)*cV≤140737488355328)(hk:k (iS sz L M)):bV sz cV (.full sz L) x k:=by
 unfold bV
 by_cases hM:M=[]
 ·have:kq sz (.full sz L) x=some (iS sz L M,L.length):=by
   simp only[kq,hx,hM,↓reduceIte,iS]
  rw[this]
  refine⟨?_,hk⟩
  exact Nat.le_trans (Nat.mul_le_mul_right _ (Nat.le_add_right _ _)) hb
 ·have:kq sz (.full sz L) x=some (iS sz L M,L.length+M.length):=by
   simp only[kq,hx,hM,↓reduceIte,iS]
  rw[this]
  exact⟨hb,hk⟩
theorem aaH(sz:Nat)(L M:List D):gk sz (L++M) (aa (iS sz L M)):=by
 unfold iS
 by_cases hM:M=[]
 ·rw[if_pos hM,hM,List.append_nil];exact .full
 ·rw[if_neg hM];exact .ro
theorem pM(sz:Nat)(L:List D):elems sz (.full sz L)=some L:=by simp[elems]
theorem aaI{sz:Nat}{L:List D}{x:SV}(h:gk sz L x):Ab.elems sz x=some L:=h.elems.1
theorem IY(s:List UInt8):aO [(0,.v (.d (.str s)))]=some [(0,.str s)]:=rfl
theorem JT(s:List UInt8):bf 1 1 [(0,.str s)]=true:=rfl
theorem IZ(z:D)(s:List UInt8):bj z [(0,.str s)] 1 0=[.str s]:=rfl
end Go.Proofs.Ytimbllcalipehaa.Ab
namespace Go.Proofs.Ytimbllcalipehaa.Ab
open Go
theorem wrap32(n:Int):IntKind.u32.wrap n=n % 2^32:=by simp[IntKind.wrap,IntKind.signed,IntKind.bits]
theorem Nu(x:BitVec 32):BitVec.ofInt 32 (x.toNat:Int)=x:=by
 apply BitVec.eq_of_toNat_eq
 simp
theorem orU(x y:BitVec 32):ag none .or (.d (dU x)) (.d (dU y))=some (.d (dU (x|||y))):=by
 simp only[ag,fh,dU,im,wrap32,↓reduceIte]
 have h:=Int.emod_eq_of_lt (Int.natCast_nonneg (x|||y).toNat) (b:=2^32) (by have:=(x|||y).isLt;omega)
 have h1:BitVec.ofInt IntKind.u32.bits (x.toNat:Int)=x:=Nu x
 have h2:BitVec.ofInt IntKind.u32.bits (y.toNat:Int)=y:=Nu y
 rw[h1,h2]
 exact congrArg (fun z=>some (SV.d (.int .u32 z))) h
theorem aeO(x:BitVec 32)(k:IntKind)(n:Nat):ag none .shr (.d (dU x)) (.d (.int k (n:Int)))=some (.d (dU (x>>>n))):=by
 simp only[ag,fh,dU,Cv,IntKind.bits]
 rw[if_neg (by omega)]
 simp only[Int.toNat_natCast]
 have:((x.toNat:Int)).fdiv (2^min n 32)=((x>>>n).toNat :Int):=by
  rw[Int.fdiv_eq_ediv_of_nonneg _ (Int.le_of_lt (Int.pow_pos (by decide))),BitVec.toNat_ushiftRight,Nat.shiftRight_eq_div_pow]
  have e:((2:Int)^min n 32)=((2^min n 32:Nat):Int):=by simp
  rw[e,←Int.natCast_ediv]
  congr 1
  rcases Nat.le_total n 32 with h|h
  ·rw[Nat.min_eq_left h]
  ·rw[Nat.min_eq_right h,Nat.div_eq_of_lt x.isLt,Nat.div_eq_of_lt]
   exact Nat.lt_of_lt_of_le x.isLt (Nat.pow_le_pow_right (by decide) h)
 exact congrArg (fun z=>some (SV.d (.int .u32 z))) this
theorem Rh{x y:BitVec 32}:((x.toNat:Int)==(y.toNat:Int))=(x==y):=by
 rw[Bool.eq_iff_iff,beq_iff_eq,beq_iff_eq,Int.ofNat_inj,BitVec.toNat_inj]
theorem Tz(x y:BitVec 32):ag (some (false,[.int])) .eql (.d (dU x)) (.d (dU y))=some (.d (.bool (x==y))):=by
 simp only[ag,fh,dU,im,↓reduceIte,Rh]
theorem TA(x y:BitVec 32):ag (some (false,[.int])) .neq (.d (dU x)) (.d (dU y))=some (.d (.bool (x != y))):=by
 simp only[ag,fh,dU,im,↓reduceIte,bne,Rh]
theorem aeP(x:BitVec 32):ag (some (false,[.int])) .eql (.d (dU x)) (.d (.int .u32 0))=some (.d (.bool (x==0))):=Tz x 0
theorem aeQ(x:BitVec 32):ag (some (false,[.int])) .neq (.d (dU x)) (.d (.int .u32 0))=some (.d (.bool (x != 0))):=TA x 0
theorem aeR(x:BitVec 64):ag (some (false,[.int])) .eql (.d (dW x)) (.d (.int .u64 0))=some (.d (.bool (x==0))):=PY x 0
theorem aeS(x:BitVec 64):ag (some (false,[.int])) .neq (.d (dW x)) (.d (.int .u64 0))=some (.d (.bool (x != 0))):=PZ x 0
def lJ(s:List UInt8)(l:List (List UInt8)):Bool:=l.any (· ==s)
theorem Fe{s:List UInt8}{l:List (List UInt8)}:lJ s l=true↔s∈l:=by
 simp[lJ]
theorem P1{s t:List UInt8}{l:List (List UInt8)}{i:Nat}(h:l[i]? =some t)(he:(t==s)=true):lJ s l=true:=by
 rw[Fe]
 have:t=s:=by simpa using he
 subst this
 exact List.mem_of_getElem? h
theorem Pq{s:List UInt8}{l:List (List UInt8)}(h:∀(i:Nat)t,l[i]? =some t→(t==s)=false):lJ s l=false:=by
 cases hh:lJ s l with
 |false=>rfl
 |true=>
  obtain⟨i,hi⟩:=List.mem_iff_getElem?.1 (Fe.1 hh)
  have:=h i s hi
  simp at this
theorem ei{α:Type}{l:List α}{i:Nat}{x:α}(h:l[i]? =some x):l.take (i+1)=l.take i++[x]:=by
 rw[List.take_add_one,h];rfl
theorem Zf(sz:Nat):SV.d (.sl .nil 0 [])=bq sz []:=rfl
theorem Zg{sz cV:Nat}{L M N:List D}{x:SV}{k:SV→Prop}(hx:elems sz x=some N)(hb:(L.length+M.length+N.length)*cV≤140737488355328)(hk:k (iS sz L (M++N))):bV sz cV (iS sz L M) x k:=by
 by_cases hM:M=[]
 ·subst hM
  rw[iS,if_pos rfl]
  exact IX hx (by simpa using hb) hk
 ·have e:iS sz L M=.own sz (L++M):=by rw[iS,if_neg hM]
  have e':iS sz L (M++N)=.own sz (L++(M++N)):=by rw[iS,if_neg (by simp[hM])]
  rw[e]
  rw[e']at hk
  unfold bV
  have:kq sz (.own sz (L++M)) x=some (.own sz (L++(M++N)),(L++M).length +N.length):=by
   simp only[kq,hx,↓reduceIte,List.append_assoc]
  rw[this]
  exact⟨by rw[List.length_append];exact hb,hk⟩
theorem X3(sz:Nat)(L:List D):SV.full sz L=iS sz L []:=by rw[iS,if_pos rfl]
end Go.Proofs.Ytimbllcalipehaa.Ab
namespace Go.Proofs.Ytimbllcalipehaa.Ab
open Go
end Go.Proofs.Ytimbllcalipehaa.Ab
namespace Go.Proofs.Ytimbllcalipehaa.Ab
open Go
theorem sS:((((((∀(x:D),aa (SV.d x)=SV.d x)∧((∀(x:D)(o:Nat),aa (SV.aT x o)=SV.aT x o)∧(∀{α:Type}(x:α)(k:α→Prop),ab (some x) k=k x)))∧((∀(x:D),SV.ax (SV.d x)=true)∧((∀(b:Bool)(A B:Prop),au (SV.d (D.bool b)) A B↔(b=true→A)∧(b=false→B))∧(∀(A B:Prop),au (SV.d (D.bool true)) A B=A))))∧(((∀(A B:Prop),au (SV.d (D.bool false)) A B=B)∧((∀(k:IntKind)(m n:Int),ag (some (false,[CK.int])) BinOp.eql (SV.d (D.int k m)) (SV.d (D.int k n))=some (SV.d (D.bool (m==n))))∧(∀(k:IntKind)(m n:Int),ag (some (false,[CK.int])) BinOp.neq (SV.d (D.int k m)) (SV.d (D.int k n))=some (SV.d (D.bool (m != n))))))∧(((∀(k:IntKind)(m n:Int),ag none BinOp.lss (SV.d (D.int k m)) (SV.d (D.int k n))=some (SV.d (D.bool (decide (m<n)))))∧(∀(k:IntKind)(m n:Int),ag none BinOp.leq (SV.d (D.int k m)) (SV.d (D.int k n))=some (SV.d (D.bool (decide (m≤n))))))∧((∀(k:IntKind)(m n:Int),ag none BinOp.gtr (SV.d (D.int k m)) (SV.d (D.int k n))=some (SV.d (D.bool (decide (m>n)))))∧(∀(k:IntKind)(m n:Int),ag none BinOp.geq (SV.d (D.int k m)) (SV.d (D.int k n))=some (SV.d (D.bool (decide (m≥n)))))))))∧((((∀(b:Bool),eA UnOp.not (SV.d (D.bool b))=some (SV.d (D.bool !b)))∧((∀(a b:Bool),ag (some (false,[CK.bool])) BinOp.eql (SV.d (D.bool a)) (SV.d (D.bool b))=some (SV.d (D.bool (a==b))))∧(∀(a b:Bool),ag (some (false,[CK.bool])) BinOp.neq (SV.d (D.bool a)) (SV.d (D.bool b))=some (SV.d (D.bool (a != b))))))∧(((∀(w v:Nat→BitVec 64),ag (some (true,[CK.int,CK.int,CK.int,CK.int])) BinOp.eql (SV.d (tJ w)) (SV.d (tJ v))=some (SV.d (D.bool (GS w v))))∧(∀(w v:Nat→BitVec 64),ag (some (true,[CK.int,CK.int,CK.int,CK.int])) BinOp.neq (SV.d (tJ w)) (SV.d (tJ v))=some (SV.d (D.bool !GS w v))))∧((∀(op a rel b:Int)(nm:D)(w:Nat→BitVec 64)(kd:D),az (SV.d (D.agg (vV op a rel b nm w kd)))=some (jx op a rel b nm w kd))∧(∀(op a rel b:Int)(nm:D)(w:Nat→BitVec 64)(kd:D),List.length (jx op a rel b nm w kd)=10))))∧(((∀(op a rel b:Int)(nm:D)(w:Nat→BitVec 64)(kd:D),ah true 10 0 (jx op a rel b nm w kd)=some (SV.d (D.agg (vV op a rel b nm w kd))))∧((∀(op a rel b:Int)(nm:D)(w:Nat→BitVec 64)(kd:D),ah false 1 0 (jx op a rel b nm w kd)=some (SV.d (D.int IntKind.i64 op)))∧(∀(op a rel b:Int)(nm:D)(w:Nat→BitVec 64)(kd:D),ah false 1 1 (jx op a rel b nm w kd)=some (SV.d (D.int IntKind.i64 a)))))∧(((∀(op a rel b:Int)(nm:D)(w:Nat→BitVec 64)(kd:D),ah false 1 2 (jx op a rel b nm w kd)=some (SV.d (D.int IntKind.i64 rel)))∧(∀(op a rel b:Int)(nm:D)(w:Nat→BitVec 64)(kd:D),ah false 1 3 (jx op a rel b nm w kd)=some (SV.d (D.int IntKind.i64 b))))∧((∀(op a rel b:Int)(nm:D)(w:Nat→BitVec 64)(kd:D),ah false 1 4 (jx op a rel b nm w kd)=some (SV.d nm))∧(∀(op a rel b:Int)(nm:D)(w:Nat→BitVec 64)(kd:D),ah true 4 5 (jx op a rel b nm w kd)=some (SV.d (tJ w))))))))∧(((((∀(op a rel b:Int)(nm:D)(w:Nat→BitVec 64)(kd:D),ah false 1 9 (jx op a rel b nm w kd)=some (SV.d kd))∧((aO []=some [])∧(∀(x:lC),az (SV.d (FX x))=some (p7 x))))∧(((∀(x:lC),List.length (p7 x)=21)∧(∀(x:lC),ah true 21 0 (p7 x)=some (SV.d (FX x))))∧((∀(x:lC),ah true 7 0 (p7 x)=some (SV.d (qf (lC.f x))))∧(∀(x:lC),ah true 7 7 (p7 x)=some (SV.d (qf (lC.s x)))))))∧(((∀(x:lC),ah true 7 14 (p7 x)=some (SV.d (qf (lC.t x))))∧((∀(x:ee),az (SV.d (qf x))=some (j4 x))∧(∀(x:ee),List.length (j4 x)=7)))∧(((∀(x:ee),ah true 7 0 (j4 x)=some (SV.d (qf x)))∧(∀(x:ee),ah false 1 0 (j4 x)=some (SV.d (D.int IntKind.i64 (ee.u x)))))∧((∀(x:ee),ah false 1 1 (j4 x)=some (SV.d (D.int IntKind.i64 (ee.r x))))∧(∀(x:ee),ah false 1 2 (j4 x)=some (SV.d (D.int IntKind.i64 (ee.t x))))))))∧((((∀(x:ee),ah true 2 3 (j4 x)=some (SV.d (jo (ee.ls x,ee.lc x))))∧((∀(x:ee),ah true 2 5 (j4 x)=some (SV.d (jo (ee.hs x,ee.hc x))))∧(∀(a0 a1 a2 a3 a4 a5 a6:SV)(x:ee),setAt [a0,a1,a2,a3,a4,a5,a6] 0 (j4 x)=j4 x)))∧(((∀(l:Int×BitVec 64),az (SV.d (jo l))=some (oa l))∧(∀(l:Int×BitVec 64),List.length (oa l)=2))∧((∀(l:Int×BitVec 64),ah true 2 0 (oa l)=some (SV.d (jo l)))∧(∀(l:Int×BitVec 64),ah false 1 0 (oa l)=some (SV.d (D.int IntKind.i64 (Prod.fst l)))))))∧(((∀(l:Int×BitVec 64),ah false 1 1 (oa l)=some (SV.d (dW (Prod.snd l))))∧((∀(a0 a1:SV)(l:Int×BitVec 64),setAt [a0,a1] 0 (oa l)=oa l)∧(∀(x:ee),uI true 4 3 (SV.d (qf x))=some (SV.d (Bg x)))))∧(((∀(x:ee),uI true 2 0 (SV.d (Bg x))=some (SV.d (jo (ee.ls x,ee.lc x))))∧(∀(x:ee),uI true 2 2 (SV.d (Bg x))=some (SV.d (jo (ee.hs x,ee.hc x)))))∧((∀(a b:Int×BitVec 64),ag (some (true,[CK.int,CK.int])) BinOp.eql (SV.d (jo a)) (SV.d (jo b))=some (SV.d (D.bool (BI a b))))∧(∀(a b:Int×BitVec 64),ag (some (true,[CK.int,CK.int])) BinOp.neq (SV.d (jo a)) (SV.d (jo b))=some (SV.d (D.bool !BI a b))))))))):=⟨⟨⟨⟨⟨@PX,⟨@QB,@We⟩⟩,⟨@aaq,⟨@aap,@YY⟩⟩⟩,⟨⟨@XQ,⟨@fV,@fW⟩⟩,⟨⟨@aax,@aav⟩,⟨@aaw,@aay⟩⟩⟩⟩,⟨⟨⟨@g8,⟨@Y1,@Y2⟩⟩,⟨⟨@aat,@aau⟩,⟨@P0,@aaA⟩⟩⟩,⟨⟨@W0,⟨@Y3,@Y4⟩⟩,⟨⟨@Y5,@Y6⟩,⟨@Y7,@Y8⟩⟩⟩⟩⟩,⟨⟨⟨⟨@Y9,⟨@XR,@W3⟩⟩,⟨⟨@Za,@XS⟩,⟨@W5,@W6⟩⟩⟩,⟨⟨@Wg,⟨@XT,@aaB⟩⟩,⟨⟨@Zb,@XU⟩,⟨@XV,@XW⟩⟩⟩⟩,⟨⟨⟨@XX,⟨@XY,@aaC⟩⟩,⟨⟨@XZ,@aaD⟩,⟨@Zc,@X0⟩⟩⟩,⟨⟨@X1,⟨@aaE,@X2⟩⟩,⟨⟨@Zd,@Ze⟩,⟨@aaF,@aaG⟩⟩⟩⟩⟩⟩
end Go.Proofs.Ytimbllcalipehaa.Ab
namespace Go.Proofs.Ytimbllcalipehaa.Ab
open Go
end Go.Proofs.Ytimbllcalipehaa.Ab
namespace Go.Proofs.Ytimbllcalipehaa.Ab
open Go
theorem sW:(((((∀(x y:BitVec 64),ag none BinOp.and (SV.d (dW x)) (SV.d (dW y))=some (SV.d (dW (x&&& y))))∧(∀(x y:BitVec 64),ag none BinOp.or (SV.d (dW x)) (SV.d (dW y))=some (SV.d (dW (x|||y)))))∧((∀(x y:BitVec 64),ag none BinOp.andNot (SV.d (dW x)) (SV.d (dW y))=some (SV.d (dW (x&&& ~~~y))))∧(∀(x:BitVec 64)(k:IntKind)(n:Nat),ag none BinOp.shr (SV.d (dW x)) (SV.d (D.int k ↑n))=some (SV.d (dW (x>>>n))))))∧(((∀(x y:BitVec 64),ag (some (false,[CK.int])) BinOp.eql (SV.d (dW x)) (SV.d (dW y))=some (SV.d (D.bool (x==y))))∧(∀(x y:BitVec 64),ag (some (false,[CK.int])) BinOp.neq (SV.d (dW x)) (SV.d (dW y))=some (SV.d (D.bool (x != y)))))∧((∀(x:BitVec 64),ag (some (false,[CK.int])) BinOp.eql (SV.d (dW x)) (SV.d (D.int IntKind.u64 0))=some (SV.d (D.bool (x==0))))∧(∀(x:BitVec 64),ag (some (false,[CK.int])) BinOp.neq (SV.d (dW x)) (SV.d (D.int IntKind.u64 0))=some (SV.d (D.bool (x != 0)))))))∧((((∀(x:BitVec 32),ag (some (false,[CK.int])) BinOp.eql (SV.d (dU x)) (SV.d (D.int IntKind.u32 0))=some (SV.d (D.bool (x==0))))∧(∀(x:BitVec 32),ag (some (false,[CK.int])) BinOp.neq (SV.d (dU x)) (SV.d (D.int IntKind.u32 0))=some (SV.d (D.bool (x != 0)))))∧((∀(x y:BitVec 32),ag (some (false,[CK.int])) BinOp.eql (SV.d (dU x)) (SV.d (dU y))=some (SV.d (D.bool (x==y))))∧(∀(x y:BitVec 32),ag (some (false,[CK.int])) BinOp.neq (SV.d (dU x)) (SV.d (dU y))=some (SV.d (D.bool (x != y))))))∧(((∀(x:BitVec 32)(k:IntKind)(n:Nat),ag none BinOp.shr (SV.d (dU x)) (SV.d (D.int k ↑n))=some (SV.d (dU (x>>>n))))∧(∀(x y:BitVec 32),ag none BinOp.or (SV.d (dU x)) (SV.d (dU y))=some (SV.d (dU (x|||y)))))∧((∀(x:D)(o n:Nat),cm (SV.aT x o) n=some (SV.aT x (o+n)))∧((∀(x:D)(o:Nat),aa (SV.aT x o)=SV.aT x o)∧(∀(s:List UInt8),aG false 1 (SV.aT (D.str s) 0)=some (SV.d (D.str s)))))))):=⟨⟨⟨⟨@aar,@abI⟩,⟨@WZ,@aas⟩⟩,⟨⟨@PY,@PZ⟩,⟨@aeR,@aeS⟩⟩⟩,⟨⟨⟨@aeP,@aeQ⟩,⟨@Tz,@TA⟩⟩,⟨⟨@aeO,@orU⟩,⟨@aaz,⟨@QB,@wA⟩⟩⟩⟩⟩
end Go.Proofs.Ytimbllcalipehaa.Ab
namespace Go.Proofs.Ytimbllcalipehaa.Ab
open Go
end Go.Proofs.Ytimbllcalipehaa.Ab
namespace Go.Proofs.Ytimbllcalipehaa.Ab
open Go
theorem Cf(n:Nat):lenOf (.d (.int .i64 (n:Int))) (.d (.int .i64 (n:Int)))=some n:=by
 simp[lenOf]
end Go.Proofs.Ytimbllcalipehaa.Ab
namespace Go.Proofs.Ytimbllcalipehaa.Ab
open Go
theorem QC{P:Program}{e:TypeId}{b:Bool}{α:Type}{f:α→D}(h1:∀x,Is P e x→∃t,pack b x=f t):∀(L:List (List D)),(∀x∈L,Is P e x)→∃l:List α,L.map (pack b)=l.map f∧l.length=L.length
 |[],_=>⟨[],rfl,rfl⟩
 |x::L,h=>by
  obtain⟨t,ht⟩:=h1 x (h x List.mem_cons_self)
  obtain⟨l,hl,hn⟩:=QC h1 L (fun y hy=>h y (List.mem_cons_of_mem _ hy))
  exact⟨t::l,by rw[List.map_cons,List.map_cons,hl,ht],by simp[hn]⟩
end Go.Proofs.Ytimbllcalipehaa.Ab
