/-
  TYPED VALUES: words, numbers, bools; what the leaves do with them.
-/
import Derived.Test.YtimbllcalipehaaTc
import Derived.Test.YtimbllcalipehaaTd
set_option linter.unusedVariables false
set_option linter.unusedSimpArgs false
namespace Go.Proofs.Ytimbllcalipehaa.Ab
open Go
def dW(x:BitVec 64):D:=.int .u64 (x.toNat:Int)
def dI(n:Int):D:=.int .i64 n
theorem eD{C:bu}{f:FuncId}{args:List SV}{r:D}{k:SV→Prop}(h:C f args (.d r))(hk:k (.d r)):aU C f args k:=⟨.d r,h,rfl,hk⟩
theorem bO{P:Program}{f:FuncId}{fn:Func}(hf:P.funcs[f]? =some fn)(So:(fn.name== "runtime.NumGoroutine")=false)(hb:fn.body.isSome=true):oX P f:=by
 obtain⟨c,hc⟩:=Option.isSome_iff_exists.1 hb
 exact agh hf So hc
theorem aeu{α:Type}(x:α)(k:α→Prop):ab (some x) k=k x:=rfl
theorem ahE(A B:Prop):ar (.d (.bool true)) A B=A:=rfl
theorem ago(A B:Prop):ar (.d (.bool false)) A B=B:=rfl
theorem ZX(b:Bool)(A B:Prop):ar (.d (.bool b)) A B↔(b=true→A)∧(b=false→B):=by cases b<;>simp[ar]
theorem QM(x:D):aa (.d x)=.d x:=rfl
theorem ajh(x:D):SV.aA (.d x)=true:=rfl
theorem eX{F:List SV→List (List SV)→(List SV→List (List SV)→Prop)→Prop}(st:Nat→List SV)(sb:Nat→List (List SV))(n:Nat)
  (jt:∀i,i<n→∀I:List SV→List (List SV)→Prop,I (st (i+1)) (sb (i+1))→F (st i) (sb i) I)(qK:∀I,F (st n) (sb n) I):bZ F (st 0) (sb 0):=by
 intro I hI
 have key:∀k,k≤n→I (st (n-k)) (sb (n-k)):=by
  intro k
  induction k with
  |zero=>intro _;exact hI _ _ (qK I)
  |succ k ih=>
   intro hk
   have:=jt (n-(k+1)) (by omega) I (by rw[show n-(k+1)+1=n-k by omega];exact ih (by omega))
   exact hI _ _ this
 have:=key n (Nat.le_refl _)
 simpa using this
theorem wrap64(n:Int):IntKind.u64.wrap n=n % 2^64:=by simp[IntKind.wrap,IntKind.signed,IntKind.bits]
theorem Eu(x:BitVec 64):BitVec.ofInt 64 (x.toNat:Int)=x:=by
 apply BitVec.eq_of_toNat_eq
 simp
theorem aji(x y:BitVec 64):aj none .and (.d (dW x)) (.d (dW y))=some (.d (dW (x&&& y))):=by
 simp only[aj,gZ,dW,lJ,wrap64,↓reduceIte]
 have h:=Int.emod_eq_of_lt (Int.natCast_nonneg (x&&& y).toNat) (b:=2^64) (by have:=(x&&& y).isLt;omega)
 have h1:BitVec.ofInt IntKind.u64.bits (x.toNat:Int)=x:=Eu x
 have h2:BitVec.ofInt IntKind.u64.bits (y.toNat:Int)=y:=Eu y
 rw[h1,h2]
 exact congrArg (fun z=>some (SV.d (.int .u64 z))) h
theorem akS(x y:BitVec 64):aj none .or (.d (dW x)) (.d (dW y))=some (.d (dW (x|||y))):=by
 simp only[aj,gZ,dW,lJ,wrap64,↓reduceIte]
 have h:=Int.emod_eq_of_lt (Int.natCast_nonneg (x|||y).toNat) (b:=2^64) (by have:=(x|||y).isLt;omega)
 have h1:BitVec.ofInt IntKind.u64.bits (x.toNat:Int)=x:=Eu x
 have h2:BitVec.ofInt IntKind.u64.bits (y.toNat:Int)=y:=Eu y
 rw[h1,h2]
 exact congrArg (fun z=>some (SV.d (.int .u64 z))) h
theorem afp(x y:BitVec 64):aj none .andNot (.d (dW x)) (.d (dW y))=some (.d (dW (x&&& ~~~y))):=by
 simp only[aj,gZ,dW,lJ,wrap64,↓reduceIte]
 have h:=Int.emod_eq_of_lt (Int.natCast_nonneg (x&&& ~~~y).toNat) (b:=2^64) (by have:=(x&&& ~~~y).isLt;omega)
 have h1:BitVec.ofInt IntKind.u64.bits (x.toNat:Int)=x:=Eu x
 have h2:BitVec.ofInt IntKind.u64.bits (y.toNat:Int)=y:=Eu y
 rw[h1,h2]
 exact congrArg (fun z=>some (SV.d (.int .u64 z))) h
theorem ajj(x:BitVec 64)(k:IntKind)(n:Nat):aj none .shr (.d (dW x)) (.d (.int k (n:Int)))=some (.d (dW (x>>>n))):=by
 simp only[aj,gZ,dW,Ht,IntKind.bits]
 rw[if_neg (by omega)]
 simp only[Int.toNat_natCast]
 have:((x.toNat:Int)).fdiv (2^min n 64)=((x>>>n).toNat :Int):=by
  rw[Int.fdiv_eq_ediv_of_nonneg _ (Int.le_of_lt (Int.pow_pos (by decide))),BitVec.toNat_ushiftRight,Nat.shiftRight_eq_div_pow]
  have e:((2:Int)^min n 64)=((2^min n 64:Nat):Int):=by simp
  rw[e,←Int.natCast_ediv]
  congr 1
  rcases Nat.le_total n 64 with h|h
  ·rw[Nat.min_eq_left h]
  ·rw[Nat.min_eq_right h,Nat.div_eq_of_lt x.isLt,Nat.div_eq_of_lt]
   exact Nat.lt_of_lt_of_le x.isLt (Nat.pow_le_pow_right (by decide) h)
 exact congrArg (fun z=>some (SV.d (.int .u64 z))) this
theorem Fa{x y:BitVec 64}:((x.toNat:Int)==(y.toNat:Int))=(x==y):=by
 rw[Bool.eq_iff_iff,beq_iff_eq,beq_iff_eq,Int.ofNat_inj,BitVec.toNat_inj]
theorem Y7(x y:BitVec 64):aj (some (false,[.int])) .eql (.d (dW x)) (.d (dW y))=some (.d (.bool (x==y))):=by
 simp only[aj,gZ,dW,lJ,↓reduceIte]
 rw[Fa]
def dS(a b c d:BitVec 64):D:=.agg [dW a,dW b,dW c,dW d]
theorem ahF(a b c d a' b' c' d':BitVec 64):aj (some (true,[.int,.int,.int,.int])) .eql (.d (dS a b c d)) (.d (dS a' b' c' d'))=some (.d (.bool (a==a'&&(b==b'&&(c==c'&&(d==d'&&true)))))):=by
 simp only[aj,gZ,dS,eR,dW,Bool.and_self,cond_true,gY,oW,↓reduceIte,Fa]
theorem ahG(a b c d a' b' c' d':BitVec 64):aj (some (true,[.int,.int,.int,.int])) .neq (.d (dS a b c d)) (.d (dS a' b' c' d'))=some (.d (.bool (!(a==a'&&(b==b'&&(c==c'&&(d==d'&&true))))))):=by
 simp only[aj,gZ,dS,eR,dW,Bool.and_self,cond_true,gY,oW,↓reduceIte,Fa]
def yx(w:Nat→BitVec 64):D:=.agg [dW (w 0),dW (w 1),dW (w 2),dW (w 3)]
theorem jJ{k n:Nat}(h:k<n):da (.d (.int .i64 (k:Int))) n=some k:=by
 simp only[da]
 rw[if_pos ⟨by omega,by omega⟩]
 simp
theorem wrap_i64{n:Int}(h1: -9223372036854775808≤n)(h2:n<9223372036854775808):IntKind.i64.wrap n=n:=by
 show(if(true&&decide (n % 2^64≥2^(64-1)))=true then n % 2^64-2^64 else n % 2^64)=n
 by_cases h:n % 2^64≥2^(64-1)
 ·rw[if_pos (by simpa using h)]
  omega
 ·rw[if_neg (by simpa using h)]
  omega
theorem Y8(x y:BitVec 64):aj (some (false,[.int])) .neq (.d (dW x)) (.d (dW y))=some (.d (.bool (x != y))):=by
 simp only[aj,gZ,dW,lJ,↓reduceIte,bne,Fa]
def Gp(w v:Nat→BitVec 64):Bool:=w 0==v 0&&(w 1==v 1&&(w 2==v 2&&(w 3==v 3&&true)))
theorem ajk(w v:Nat→BitVec 64):aj (some (true,[.int,.int,.int,.int])) .eql (.d (yx w)) (.d (yx v))=some (.d (.bool (Gp w v))):=ahF _ _ _ _ _ _ _ _
theorem ajl(w v:Nat→BitVec 64):aj (some (true,[.int,.int,.int,.int])) .neq (.d (yx w)) (.d (yx v))=some (.d (.bool (!Gp w v))):=ahG _ _ _ _ _ _ _ _
theorem aS{α:Type}{o:Option α}{k:α→Prop}{x:α}(h:o=some x)(hk:k x):ab o k:=by subst h;exact hk
theorem bH{C:bu}{f:FuncId}{args:List SV}{r:SV}{k:SV→Prop}(h:C f args r)(hr:vY r=false)(hk:k r):aU C f args k:=⟨r,h,hr,hk⟩
theorem call2{C:bu}{f:FuncId}{args:List SV}{a b:SV}{k:SV→SV→Prop}(h:C f args (.aK [a,b]))(hk:k a b):∃x,∃y,C f args (.aK [x,y])∧k x y:=⟨a,b,h,hk⟩
theorem ahH(a b:Bool):aj (some (false,[.bool])) .eql (.d (.bool a)) (.d (.bool b))=some (.d (.bool (a==b))):=by
 simp only[aj,gZ]
theorem ahI(a b:Bool):aj (some (false,[.bool])) .neq (.d (.bool a)) (.d (.bool b))=some (.d (.bool (a != b))):=by
 simp only[aj,gZ,bne]
theorem ajm(k:IntKind)(m n:Int):aj none .leq (.d (.int k m)) (.d (.int k n))=some (.d (.bool (decide (m≤n)))):=by
 simp only[aj,gZ,lJ,↓reduceIte]
theorem ajn(k:IntKind)(m n:Int):aj none .gtr (.d (.int k m)) (.d (.int k n))=some (.d (.bool (decide (m>n)))):=by
 simp only[aj,gZ,lJ,↓reduceIte]
theorem ajo(k:IntKind)(m n:Int):aj none .lss (.d (.int k m)) (.d (.int k n))=some (.d (.bool (decide (m<n)))):=by
 simp only[aj,gZ,lJ,↓reduceIte]
theorem ajp(k:IntKind)(m n:Int):aj none .geq (.d (.int k m)) (.d (.int k n))=some (.d (.bool (decide (m≥n)))):=by
 simp only[aj,gZ,lJ,↓reduceIte]
theorem j4(k:IntKind)(m n:Int):aj (some (false,[.int])) .eql (.d (.int k m)) (.d (.int k n))=some (.d (.bool (m==n))):=by
 simp only[aj,gZ,lJ,↓reduceIte]
theorem ek(k:IntKind)(m n:Int):aj (some (false,[.int])) .neq (.d (.int k m)) (.d (.int k n))=some (.d (.bool (m != n))):=by
 simp only[aj,gZ,lJ,↓reduceIte]
theorem Bs(a b:List UInt8):aj (some (false,[.str])) .eql (.d (.str a)) (.d (.str b))=some (.d (.bool (a==b))):=by
 simp only[aj,gZ,HO]
theorem LR(a b:List UInt8):aj (some (false,[.str])) .neq (.d (.str a)) (.d (.str b))=some (.d (.bool (!(a==b)))):=by
 simp only[aj,gZ,HO]
theorem iJ(b:Bool):eP .not (.d (.bool b))=some (.d (.bool (!b))):=rfl
theorem ES{m n:Nat}(h:m+n<2^62):aj none .add (.d (.int .i64 (m:Int))) (.d (.int .i64 (n:Int)))=some (.d (.int .i64 ((m+n:Nat):Int))):=by
 have h2:IntKind.i64.wrap ((m:Int)+(n:Int))=((m+n:Nat):Int):=by rw[wrap_i64 (by omega) (by omega)];omega
 simp only[aj,gZ,lJ,h2,↓reduceIte]
theorem bf{m n:Nat}(h:m<n)(hn:n≤maxLen):aj none .add (.d (.int .i64 (m:Int))) (.d (.int .i64 1))=some (.d (.int .i64 ((m+1:Nat):Int))):=by
 simp only[maxLen]at hn
 have h2:IntKind.i64.wrap ((m:Int)+1)=((m+1:Nat):Int):=by rw[wrap_i64 (by omega) (by omega)];omega
 simp only[aj,gZ,lJ,h2,↓reduceIte]
theorem n9{F:List SV→List (List SV)→(List SV→List (List SV)→Prop)→Prop}(J:Nat→Prop)(st:Nat→List SV)(sb:Nat→List (List SV))(n:Nat)(h0:J 0)
  (jt:∀i,i<n→J i→∀I:List SV→List (List SV)→Prop,(J (i+1)→I (st (i+1)) (sb (i+1)))→F (st i) (sb i) I)(qK:J n→∀I,F (st n) (sb n) I):bZ F (st 0) (sb 0):=by
 intro I hI
 have key:∀k,k≤n→J (n-k)→I (st (n-k)) (sb (n-k)):=by
  intro k
  induction k with
  |zero=>intro _ hj;exact hI _ _ (qK hj I)
  |succ k ih=>
   intro hk hj
   have:=jt (n-(k+1)) (by omega) hj I (fun po=>by rw[show n-(k+1)+1=n-k by omega]at po ⊢;exact ih (by omega) po)
   exact hI _ _ this
 have:=key n (Nat.le_refl _)
 simp only[Nat.sub_self]at this
 exact this h0
inductive jn(sz:Nat)(L:List D):SV→Prop
 |nil (s:Nat) (h:L=[]):jn sz L (.d (.sl .nil s []))
 |ro:jn sz L (.d (.sl .ro sz L))
 |full:jn sz L (.full sz L)
inductive aL(sz:Nat)(L:List D):D→Prop
 |nil (s:Nat) (h:L=[]):aL sz L (.sl .nil s [])
 |ro:aL sz L (.sl .ro sz L)
theorem aL.sv{sz:Nat}{L:List D}{x:D}(h:aL sz L x):jn sz L (.d x):=by
 cases h with
 |nil s h=>exact .nil s h
 |ro=>exact .ro
theorem jn.elems{sz:Nat}{L:List D}{x:SV}(h:jn sz L x):elems sz x=some L∧Hc x=some L∧aa x=x:=by
 cases h with
 |nil s h=>subst h;exact⟨rfl,rfl,rfl⟩
 |ro=>exact⟨by simp[Ab.elems],rfl,rfl⟩
 |full=>exact⟨by simp[Ab.elems],rfl,rfl⟩
theorem jn.nT{sz:Nat}{L:List D}{x:SV}(h:jn sz L x):aa x=x:=h.elems.2.2
theorem jn.len{sz:Nat}{L:List D}{x:SV}(h:jn sz L x):ba x=some (.d (.int .i64 (L.length:Int))):=by
 have h2:=h.elems.2.1
 cases h<;>simp[ba,h2]
theorem jn.at{sz:Nat}{L:List D}{x:SV}(h:jn sz L x){i:Nat}{y:D}(hy:L[i]? =some y):aJ sz x (.d (.int .i64 (i:Int)))=some (.aX y 0):=by
 have hi:i<L.length:=(List.getElem?_eq_some_iff.1 hy).1
 have h1:=h.elems.1
 have key:aJ sz x (.d (.int .i64 (i:Int)))=(match Ab.elems sz x with
  |some L=>(match da (.d (.int .i64 (i:Int))) L.length with
   |some n=>(match L[n]? with|some y=>some (.aX y 0)|none=>none)
   |none=>none)
  |none=>none):=by cases h<;>rfl
 rw[key,h1]
 simp only[]
 rw[jJ hi]
 simp only[hy]
theorem aL.len{sz:Nat}{L:List D}{x:D}(h:aL sz L x):ba (.d x)=some (.d (.int .i64 (L.length:Int))):=h.sv.len
theorem aL.at{sz:Nat}{L:List D}{x:D}(h:aL sz L x){i:Nat}{y:D}(hy:L[i]? =some y):aJ sz (.d x) (.d (.int .i64 (i:Int)))=some (.aX y 0):=h.sv.at hy
theorem Bn(s:List UInt8):aH false 1 (.aX (.str s) 0)=some (.d (.str s)):=rfl
theorem EL(cs:List D)(n:Nat)(h:cs.length=n):aH true n (.aX (.agg cs) 0)=some (.d (.agg cs)):=by
 subst h
 have:tI true cs.length 0 cs=some (.agg cs):=by
  simp only[tI,cond_true,Nat.zero_add,Nat.le_refl,↓reduceIte,List.drop_zero,List.take_length]
 simp only[aH,D.cells,this]
theorem xw(cs:List D)(n:Nat)(y:D)(h:cs[n]? =some y):aH false 1 (.aX (.agg cs) n)=some (.d y):=by
 have:tI false 1 n cs=some y:=by simp only[tI,cond_false,h]
 simp only[aH,D.cells,this]
theorem ajq(x:D)(o n:Nat):bR (.aX x o) n=some (.aX x (o+n)):=rfl
theorem ZZ(x:D)(o:Nat):aa (.aX x o)=.aX x o:=rfl
def cA(l:List (List UInt8)):List D:=l.map .str
theorem iu(l:List (List UInt8)):(cA l).length =l.length:=List.length_map ..
theorem xL{l:List (List UInt8)}{i:Nat}{s:List UInt8}(h:l[i]? =some s):(cA l)[i]? =some (.str s):=by simp[cA,h]
theorem get_some{α:Type}{l:List α}{i:Nat}(h:i<l.length):∃y,l[i]? =some y:=⟨l[i],List.getElem?_eq_getElem h⟩
def first{α:Type}(p:α→Bool):List α→Option Nat
 |[]=>none
 |x::l=>if p x then some 0 else(first p l).map (· +1)
theorem xF{α:Type}{p:α→Bool}:∀{l:List α}{k:Nat}{x:α},l[k]? =some x→p x=true→(∀j y,j<k→l[j]? =some y→p y=false)→first p l=some k
 |[],k,x,h,_,_=>by simp at h
 |y::l,0,x,h,hp,_=>by simp at h;subst h;simp[first,hp]
 |y::l,k+1,x,h,hp,hn=>by
  have h0:=hn 0 y (by omega) (by simp)
  rw[first,h0]
  rw[xF (l:=l) (k:=k) (by simpa using h) hp (fun j z hj hz=>hn (j+1) z (by omega) (by simpa using hz))]
  rfl
theorem xu{α:Type}{p:α→Bool}:∀{l:List α},(∀(j:Nat)y,l[j]? =some y→p y=false)→first p l=none
 |[],_=>rfl
 |y::l,hn=>by
  have h0:=hn 0 y (by simp)
  rw[first,h0,xu (l:=l) (fun j z hz=>hn (j+1) z (by simpa using hz))]
  rfl
theorem P0{α:Type}{p:α→Bool}:∀{l:List α}{k:Nat},first p l=some k→∃x,l[k]? =some x∧p x=true∧∀j y,j<k→l[j]? =some y→p y=false
 |[],k,h=>by simp[first]at h
 |y::l,k,h=>by
  rw[first]at h
  by_cases hp:p y=true
  ·rw[if_pos hp]at h
   cases h
   exact⟨y,by simp,hp,fun j _ hj=>by omega⟩
  ·rw[if_neg hp]at h
   obtain⟨k',bY,rfl⟩:=Option.map_eq_some_iff.1 h
   obtain⟨x,h1,h2,h3⟩:=P0 bY
   refine⟨x,by simpa using h1,h2,fun j z hj hz=>?_⟩
   cases j with
   |zero=>simp at hz;subst hz;simpa using hp
   |succ j=>exact h3 j z (by omega) (by simpa using hz)
def orM(o:Option Nat):Int:=match o with|some k=>(k:Int)|none=> -1
theorem Bt(o:Option Nat):decide (orM o≥0)=o.isSome:=by
 cases o with
 |none=>decide
 |some k=>simp[orM]
inductive Xp where
 |mk (op a rel b:Int) (names:List (List UInt8)) (w:Nat→BitVec 64) (kids:List Xp)
def Xp.op:Xp→Int| .mk op _ _ _ _ _ _=>op
def Xp.a:Xp→Int| .mk _ a _ _ _ _ _=>a
def Xp.rel:Xp→Int| .mk _ _ r _ _ _ _=>r
def Xp.b:Xp→Int| .mk _ _ _ b _ _ _=>b
def Xp.names:Xp→List (List UInt8)| .mk _ _ _ _ n _ _=>n
def Xp.w:Xp→Nat→BitVec 64| .mk _ _ _ _ _ w _=>w
def Xp.kids:Xp→List Xp| .mk _ _ _ _ _ _ k=>k
def kI(op a rel b:Int)(nm:D)(w:Nat→BitVec 64)(kd:D):List D:=
 [.int .i64 op,.int .i64 a,.int .i64 rel,.int .i64 b,nm,dW (w 0),dW (w 1),dW (w 2),dW (w 3),kd]
def kb(op a rel b:Int)(nm:D)(w:Nat→BitVec 64)(kd:D):List SV:=
 [.d (.int .i64 op),.d (.int .i64 a),.d (.int .i64 rel),.d (.int .i64 b),.d nm,.d (dW (w 0)),.d (dW (w 1)),.d (dW (w 2)),.d (dW (w 3)),.d kd]
inductive kc:Xp→D→Prop
 |mk (op a rel b:Int) (names:List (List UInt8)) (w:Nat→BitVec 64) (kids:List Xp) (nm kd:D) (L:List D) (hn:aL 1 (cA names) nm) (hl:L.length=kids.length)
   (hk:∀(i:Nat)k y,kids[i]? =some k→L[i]? =some y→kc k y) (hd:aL 10 L kd):kc (.mk op a rel b names w kids) (.agg (kI op a rel b nm w kd))
section
variable(op a rel b:Int)(nm:D)(w:Nat→BitVec 64)(kd:D)
theorem Hh:aE (.d (.agg (kI op a rel b nm w kd)))=some (kb op a rel b nm w kd):=rfl
theorem Rf:(kb op a rel b nm w kd).length =10:=rfl
theorem afq:ai true 10 0 (kb op a rel b nm w kd)=some (.d (.agg (kI op a rel b nm w kd))):=rfl
theorem ahJ:ai false 1 0 (kb op a rel b nm w kd)=some (.d (.int .i64 op)):=rfl
theorem ahK:ai false 1 1 (kb op a rel b nm w kd)=some (.d (.int .i64 a)):=rfl
theorem ahL:ai false 1 2 (kb op a rel b nm w kd)=some (.d (.int .i64 rel)):=rfl
theorem ahM:ai false 1 3 (kb op a rel b nm w kd)=some (.d (.int .i64 b)):=rfl
theorem ahN:ai false 1 4 (kb op a rel b nm w kd)=some (.d nm):=rfl
theorem ahO:ai true 4 5 (kb op a rel b nm w kd)=some (.d (yx w)):=rfl
theorem ahP:ai false 1 9 (kb op a rel b nm w kd)=some (.d kd):=rfl
end
theorem kc.inv{e:Xp}{x:D}(h:kc e x):∃nm kd L,x=.agg (kI e.op e.a e.rel e.b nm e.w kd)∧aL 1 (cA e.names) nm∧L.length=e.kids.length∧aL 10 L kd∧
  ∀(i:Nat)k y,e.kids[i]? =some k→L[i]? =some y→kc k y:=by
 cases h with
 |mk op a rel b names w kids nm kd L hn hl hk hd=>exact⟨nm,kd,L,rfl,hn,hl,hd,hk⟩
theorem agp:aT []=some []:=rfl
def Xp.lv:Xp→Nat
 | .mk _ _ _ _ _ _ kids=>Gq kids+1
where Gq:List Xp→Nat
 |[]=>0
 |k::l=>max k.lv (Gq l)
theorem Xp.anM(e:Xp):e.lv=Xp.lv.Gq e.kids+1:=by cases e;rfl
theorem Xp.Z0:∀{l:List Xp}{i:Nat}{k:Xp},l[i]? =some k→k.lv≤Xp.lv.Gq l
 |[],i,k,h=>by simp at h
 |x::l,0,k,h=>by simp at h;subst h;rw[Xp.lv.Gq];exact Nat.le_max_left _ _
 |x::l,i+1,k,h=>by
  rw[Xp.lv.Gq]
  exact Nat.le_trans (Xp.Z0 (by simpa using h)) (Nat.le_max_right _ _)
theorem Xp.aaW{e k:Xp}{i:Nat}(h:e.kids[i]? =some k):k.lv<e.lv:=by
 rw[e.anM]
 have:=Xp.Z0 h
 omega
structure fD where
 u:Int
 r:Int
 t:Int
 ls:Int
 lc:BitVec 64
 hs:Int
 hc:BitVec 64
structure o8 where
 f:fD
 s:fD
 t:fD
def u1(c:fD):D:=.agg [.int .i64 c.u,.int .i64 c.r,.int .i64 c.t,.int .i64 c.ls,dW c.lc,.int .i64 c.hs,dW c.hc]
def mV(c:fD):List SV:=[.d (.int .i64 c.u),.d (.int .i64 c.r),.d (.int .i64 c.t),.d (.int .i64 c.ls),.d (dW c.lc),.d (.int .i64 c.hs),.d (dW c.hc)]
def MS(x:o8):D:=.agg [.int .i64 x.f.u,.int .i64 x.f.r,.int .i64 x.f.t,.int .i64 x.f.ls,dW x.f.lc,.int .i64 x.f.hs,dW x.f.hc,
 .int .i64 x.s.u,.int .i64 x.s.r,.int .i64 x.s.t,.int .i64 x.s.ls,dW x.s.lc,.int .i64 x.s.hs,dW x.s.hc,.int .i64 x.t.u,.int .i64 x.t.r,.int .i64 x.t.t,.int .i64 x.t.ls,dW x.t.lc,.int .i64 x.t.hs,dW x.t.hc]
def uP(x:o8):List SV:=[.d (.int .i64 x.f.u),.d (.int .i64 x.f.r),.d (.int .i64 x.f.t),.d (.int .i64 x.f.ls),.d (dW x.f.lc),.d (.int .i64 x.f.hs),.d (dW x.f.hc),
 .d (.int .i64 x.s.u),.d (.int .i64 x.s.r),.d (.int .i64 x.s.t),.d (.int .i64 x.s.ls),.d (dW x.s.lc),.d (.int .i64 x.s.hs),.d (dW x.s.hc),.d (.int .i64 x.t.u),.d (.int .i64 x.t.r),.d (.int .i64 x.t.t),.d (.int .i64 x.t.ls),.d (dW x.t.lc),.d (.int .i64 x.t.hs),.d (dW x.t.hc)]
def lT(l:Int×BitVec 64):D:=.agg [.int .i64 l.1,dW l.2]
def sG(l:Int×BitVec 64):List SV:=[.d (.int .i64 l.1),.d (dW l.2)]
theorem afr(x:o8):aE (.d (MS x))=some (uP x):=rfl
theorem ahQ(x:o8):(uP x).length =21:=rfl
theorem agq(x:o8):ai true 21 0 (uP x)=some (.d (MS x)):=rfl
theorem afs(x:o8):ai true 7 0 (uP x)=some (.d (u1 x.f)):=rfl
theorem aft(x:o8):ai true 7 7 (uP x)=some (.d (u1 x.s)):=rfl
theorem aev(x:o8):ai true 7 14 (uP x)=some (.d (u1 x.t)):=rfl
theorem agr(x:fD):aE (.d (u1 x))=some (mV x):=rfl
theorem ajr(x:fD):(mV x).length =7:=rfl
theorem ahR(x:fD):ai true 7 0 (mV x)=some (.d (u1 x)):=rfl
theorem ags(x:fD):ai false 1 0 (mV x)=some (.d (.int .i64 x.u)):=rfl
theorem agt(x:fD):ai false 1 1 (mV x)=some (.d (.int .i64 x.r)):=rfl
theorem agu(x:fD):ai false 1 2 (mV x)=some (.d (.int .i64 x.t)):=rfl
theorem agv(x:fD):ai true 2 3 (mV x)=some (.d (lT (x.ls,x.lc))):=rfl
theorem agw(x:fD):ai true 2 5 (mV x)=some (.d (lT (x.hs,x.hc))):=rfl
theorem ajs(a0 a1 a2 a3 a4 a5 a6:SV)(x:fD):setAt [a0,a1,a2,a3,a4,a5,a6] 0 (mV x)=mV x:=rfl
theorem agx(l:Int×BitVec 64):aE (.d (lT l))=some (sG l):=rfl
theorem ajt(l:Int×BitVec 64):(sG l).length =2:=rfl
theorem ahS(l:Int×BitVec 64):ai true 2 0 (sG l)=some (.d (lT l)):=rfl
theorem agy(l:Int×BitVec 64):ai false 1 0 (sG l)=some (.d (.int .i64 l.1)):=rfl
theorem agz(l:Int×BitVec 64):ai false 1 1 (sG l)=some (.d (dW l.2)):=rfl
theorem aju(a0 a1:SV)(l:Int×BitVec 64):setAt [a0,a1] 0 (sG l)=sG l:=rfl
def FH(x:fD):D:=.agg [.int .i64 x.ls,dW x.lc,.int .i64 x.hs,dW x.hc]
theorem agA(x:fD):zw true 4 3 (.d (u1 x))=some (.d (FH x)):=rfl
theorem ahT(x:fD):zw true 2 0 (.d (FH x))=some (.d (lT (x.ls,x.lc))):=rfl
theorem ahU(x:fD):zw true 2 2 (.d (FH x))=some (.d (lT (x.hs,x.hc))):=rfl
def Gr(a b:Int×BitVec 64):Bool:=a.1==b.1&&(a.2==b.2&&true)
theorem ajv(a b:Int×BitVec 64):aj (some (true,[.int,.int])) .eql (.d (lT a)) (.d (lT b))=some (.d (.bool (Gr a b))):=by
 simp only[aj,gZ,lT,eR,dW,Bool.and_self,cond_true,gY,oW,↓reduceIte,Fa,Gr]
theorem ajw(a b:Int×BitVec 64):aj (some (true,[.int,.int])) .neq (.d (lT a)) (.d (lT b))=some (.d (.bool (!Gr a b))):=by
 simp only[aj,gZ,lT,eR,dW,Bool.and_self,cond_true,gY,oW,↓reduceIte,Fa,Gr]
def dU(x:BitVec 32):D:=.int .u32 (x.toNat:Int)
theorem xG{α:Type}{F:List SV→List (List SV)→(List SV→List (List SV)→Prop)→Prop}(J:Nat→α→Prop)(st:Nat→α→List SV)(sb:Nat→α→List (List SV))(n:Nat)(a0:α)(h0:J 0 a0)
  (jt:∀i a,i<n→J i a→∀I:List SV→List (List SV)→Prop,(∀a',J (i+1) a'→I (st (i+1) a') (sb (i+1) a'))→F (st i a) (sb i a) I)(qK:∀a,J n a→∀I,F (st n a) (sb n a) I):bZ F (st 0 a0) (sb 0 a0):=by
 intro I hI
 have key:∀k,k≤n→∀a,J (n-k) a→I (st (n-k) a) (sb (n-k) a):=by
  intro k
  induction k with
  |zero=>intro _ a hj;exact hI _ _ (qK a hj I)
  |succ k ih=>
   intro hk a hj
   refine hI _ _ (jt (n-(k+1)) a (by omega) hj I fun a' po=>?_)
   rw[show n-(k+1)+1=n-k by omega]at po ⊢
   exact ih (by omega) a' po
 have:=key n (Nat.le_refl _)
 simp only[Nat.sub_self]at this
 exact this a0 h0
def aO(sz:Nat)(L:List D):SV:=match L with
 |[]=>.d (.sl .nil 0 [])
 |L=>.own sz L
theorem jX(sz:Nat)(L:List D):vY (aO sz L)=false:=by cases L<;>rfl
theorem jY(sz:Nat)(L:List D):(aO sz L).aA =true:=by cases L<;>rfl
theorem K4(sz:Nat)(L:List D):aE (aO sz L)=some [aO sz L]:=by cases L<;>rfl
def bB(sz:Nat)(L:List D):D:=match L with
 |[]=>.sl .nil 0 []
 |L=>.sl .ro sz L
theorem ej(sz:Nat)(L:List D):aa (aO sz L)=.d (bB sz L):=by cases L<;>rfl
theorem cm(sz:Nat)(L:List D):aL sz L (bB sz L):=by cases L with
 |nil=>exact .nil 0 rfl
 |cons a L=>exact .ro
theorem gB{sz dh:Nat}{L M:List D}{x:SV}{k:SV→Prop}(hx:elems sz x=some M)(hb:(L.length+M.length)*dh≤140737488355328)(hk:k (aO sz (L++M))):cb sz dh (aO sz L) x k:=by
 unfold cb
 cases L with
 |nil=>
  have:mc sz (aO sz []) x=some (aO sz M,M.length):=by
   simp only[aO,mc,hx]
   cases M with
   |nil=>rfl
   |cons a M=>rfl
  rw[this]
  exact⟨by simpa using hb,hk⟩
 |cons a L=>
  have:mc sz (aO sz (a::L)) x=some (aO sz (a::L++M),(a::L).length +M.length):=by
   simp only[aO,mc,hx,↓reduceIte,List.cons_append]
  rw[this]
  exact⟨hb,hk⟩
def kC(sz:Nat)(L M:List D):SV:=if M=[]then .full sz L else .own sz (L++M)
theorem Hi{sz dh:Nat}{L M:List D}{x:SV}{k:SV→Prop}(hx:elems sz x=some M)(hb:(L.length+M.length)*dh≤140737488355328)(hk:k (kC sz L M)):cb sz dh (.full sz L) x k:=by
 unfold cb
 by_cases hM:M=[]
 ·have:mc sz (.full sz L) x=some (kC sz L M,L.length):=by
   simp only[mc,hx,hM,↓reduceIte,kC]
  rw[this]
  refine⟨?_,hk⟩
  exact Nat.le_trans (Nat.mul_le_mul_right _ (Nat.le_add_right _ _)) hb
 ·have:mc sz (.full sz L) x=some (kC sz L M,L.length+M.length):=by
   simp only[mc,hx,hM,↓reduceIte,kC]
  rw[this]
  exact⟨hb,hk⟩
theorem ajx(sz:Nat)(L M:List D):jn sz (L++M) (aa (kC sz L M)):=by
 unfold kC
 by_cases hM:M=[]
 ·rw[if_pos hM,hM,List.append_nil];exact .full
 ·rw[if_neg hM];exact .ro
theorem rK(sz:Nat)(L:List D):elems sz (.full sz L)=some L:=by simp[elems]
theorem ajy{sz:Nat}{L:List D}{x:SV}(h:jn sz L x):Ab.elems sz x=some L:=h.elems.1
theorem Lx(s:List UInt8):aT [(0,.v (.d (.str s)))]=some [(0,.str s)]:=rfl
theorem Mr(s:List UInt8):bz 1 1 [(0,.str s)]=true:=rfl
theorem Ly(z:D)(s:List UInt8):bF z [(0,.str s)] 1 0=[.str s]:=rfl
theorem wrap32(n:Int):IntKind.u32.wrap n=n % 2^32:=by simp[IntKind.wrap,IntKind.signed,IntKind.bits]
theorem Wj(x:BitVec 32):BitVec.ofInt 32 (x.toNat:Int)=x:=by
 apply BitVec.eq_of_toNat_eq
 simp
theorem orU(x y:BitVec 32):aj none .or (.d (dU x)) (.d (dU y))=some (.d (dU (x|||y))):=by
 simp only[aj,gZ,dU,lJ,wrap32,↓reduceIte]
 have h:=Int.emod_eq_of_lt (Int.natCast_nonneg (x|||y).toNat) (b:=2^32) (by have:=(x|||y).isLt;omega)
 have h1:BitVec.ofInt IntKind.u32.bits (x.toNat:Int)=x:=Wj x
 have h2:BitVec.ofInt IntKind.u32.bits (y.toNat:Int)=y:=Wj y
 rw[h1,h2]
 exact congrArg (fun z=>some (SV.d (.int .u32 z))) h
theorem apv(x:BitVec 32)(k:IntKind)(n:Nat):aj none .shr (.d (dU x)) (.d (.int k (n:Int)))=some (.d (dU (x>>>n))):=by
 simp only[aj,gZ,dU,Ht,IntKind.bits]
 rw[if_neg (by omega)]
 simp only[Int.toNat_natCast]
 have:((x.toNat:Int)).fdiv (2^min n 32)=((x>>>n).toNat :Int):=by
  rw[Int.fdiv_eq_ediv_of_nonneg _ (Int.le_of_lt (Int.pow_pos (by decide))),BitVec.toNat_ushiftRight,Nat.shiftRight_eq_div_pow]
  have e:((2:Int)^min n 32)=((2^min n 32:Nat):Int):=by simp
  rw[e,←Int.natCast_ediv]
  congr 1
  rcases Nat.le_total n 32 with h|h
  ·rw[Nat.min_eq_left h]
  ·rw[Nat.min_eq_right h,Nat.div_eq_of_lt x.isLt,Nat.div_eq_of_lt]
   exact Nat.lt_of_lt_of_le x.isLt (Nat.pow_le_pow_right (by decide) h)
 exact congrArg (fun z=>some (SV.d (.int .u32 z))) this
theorem aaX{x y:BitVec 32}:((x.toNat:Int)==(y.toNat:Int))=(x==y):=by
 rw[Bool.eq_iff_iff,beq_iff_eq,beq_iff_eq,Int.ofNat_inj,BitVec.toNat_inj]
theorem eqU(x y:BitVec 32):aj (some (false,[.int])) .eql (.d (dU x)) (.d (dU y))=some (.d (.bool (x==y))):=by
 simp only[aj,gZ,dU,lJ,↓reduceIte,aaX]
theorem neU(x y:BitVec 32):aj (some (false,[.int])) .neq (.d (dU x)) (.d (dU y))=some (.d (.bool (x != y))):=by
 simp only[aj,gZ,dU,lJ,↓reduceIte,bne,aaX]
theorem apw(x:BitVec 32):aj (some (false,[.int])) .eql (.d (dU x)) (.d (.int .u32 0))=some (.d (.bool (x==0))):=eqU x 0
theorem apx(x:BitVec 32):aj (some (false,[.int])) .neq (.d (dU x)) (.d (.int .u32 0))=some (.d (.bool (x != 0))):=neU x 0
theorem apy(x:BitVec 64):aj (some (false,[.int])) .eql (.d (dW x)) (.d (.int .u64 0))=some (.d (.bool (x==0))):=Y7 x 0
theorem apz(x:BitVec 64):aj (some (false,[.int])) .neq (.d (dW x)) (.d (.int .u64 0))=some (.d (.bool (x != 0))):=Y8 x 0
def gr(s:List UInt8)(l:List (List UInt8)):Bool:=l.any (· ==s)
theorem Hj{s:List UInt8}{l:List (List UInt8)}:gr s l=true↔s∈l:=by
 simp[gr]
theorem Y9{s t:List UInt8}{l:List (List UInt8)}{i:Nat}(h:l[i]? =some t)(he:(t==s)=true):gr s l=true:=by
 rw[Hj]
 have:t=s:=by simpa using he
 subst this
 exact List.mem_of_getElem? h
theorem Yn{s:List UInt8}{l:List (List UInt8)}(h:∀(i:Nat)t,l[i]? =some t→(t==s)=false):gr s l=false:=by
 cases hh:gr s l with
 |false=>rfl
 |true=>
  obtain⟨i,hi⟩:=List.mem_iff_getElem?.1 (Hj.1 hh)
  have:=h i s hi
  simp at this
theorem dT{α:Type}{l:List α}{i:Nat}{x:α}(h:l[i]? =some x):l.take (i+1)=l.take i++[x]:=by
 rw[List.take_add_one,h];rfl
theorem ahV(sz:Nat):SV.d (.sl .nil 0 [])=aO sz []:=rfl
theorem ahW{sz dh:Nat}{L M N:List D}{x:SV}{k:SV→Prop}(hx:elems sz x=some N)(hb:(L.length+M.length+N.length)*dh≤140737488355328)(hk:k (kC sz L (M++N))):cb sz dh (kC sz L M) x k:=by
 by_cases hM:M=[]
 ·subst hM
  rw[kC,if_pos rfl]
  exact Hi hx (by simpa using hb) hk
 ·have e:kC sz L M=.own sz (L++M):=by rw[kC,if_neg hM]
  have e':kC sz L (M++N)=.own sz (L++(M++N)):=by rw[kC,if_neg (by simp[hM])]
  rw[e]
  rw[e']at hk
  unfold cb
  have:mc sz (.own sz (L++M)) x=some (.own sz (L++(M++N)),(L++M).length +N.length):=by
   simp only[mc,hx,↓reduceIte,List.append_assoc]
  rw[this]
  exact⟨by rw[List.length_append];exact hb,hk⟩
theorem agB(sz:Nat)(L:List D):SV.full sz L=kC sz L []:=by rw[kC,if_pos rfl]
theorem sS:((((((∀(x:D),aa (SV.d x)=SV.d x)∧((∀(x:D)(o:Nat),aa (SV.aX x o)=SV.aX x o)∧(∀{α:Type}(x:α)(k:α→Prop),ab (some x) k=k x)))∧((∀(x:D),SV.aA (SV.d x)=true)∧((∀(b:Bool)(A B:Prop),ar (SV.d (D.bool b)) A B↔(b=true→A)∧(b=false→B))∧(∀(A B:Prop),ar (SV.d (D.bool true)) A B=A))))∧(((∀(A B:Prop),ar (SV.d (D.bool false)) A B=B)∧((∀(k:IntKind)(m n:Int),aj (some (false,[CK.int])) BinOp.eql (SV.d (D.int k m)) (SV.d (D.int k n))=some (SV.d (D.bool (m==n))))∧(∀(k:IntKind)(m n:Int),aj (some (false,[CK.int])) BinOp.neq (SV.d (D.int k m)) (SV.d (D.int k n))=some (SV.d (D.bool (m != n))))))∧(((∀(k:IntKind)(m n:Int),aj none BinOp.lss (SV.d (D.int k m)) (SV.d (D.int k n))=some (SV.d (D.bool (decide (m<n)))))∧(∀(k:IntKind)(m n:Int),aj none BinOp.leq (SV.d (D.int k m)) (SV.d (D.int k n))=some (SV.d (D.bool (decide (m≤n))))))∧((∀(k:IntKind)(m n:Int),aj none BinOp.gtr (SV.d (D.int k m)) (SV.d (D.int k n))=some (SV.d (D.bool (decide (m>n)))))∧(∀(k:IntKind)(m n:Int),aj none BinOp.geq (SV.d (D.int k m)) (SV.d (D.int k n))=some (SV.d (D.bool (decide (m≥n)))))))))∧((((∀(b:Bool),eP UnOp.not (SV.d (D.bool b))=some (SV.d (D.bool !b)))∧((∀(a b:Bool),aj (some (false,[CK.bool])) BinOp.eql (SV.d (D.bool a)) (SV.d (D.bool b))=some (SV.d (D.bool (a==b))))∧(∀(a b:Bool),aj (some (false,[CK.bool])) BinOp.neq (SV.d (D.bool a)) (SV.d (D.bool b))=some (SV.d (D.bool (a != b))))))∧(((∀(w v:Nat→BitVec 64),aj (some (true,[CK.int,CK.int,CK.int,CK.int])) BinOp.eql (SV.d (yx w)) (SV.d (yx v))=some (SV.d (D.bool (Gp w v))))∧(∀(w v:Nat→BitVec 64),aj (some (true,[CK.int,CK.int,CK.int,CK.int])) BinOp.neq (SV.d (yx w)) (SV.d (yx v))=some (SV.d (D.bool !Gp w v))))∧((∀(op a rel b:Int)(nm:D)(w:Nat→BitVec 64)(kd:D),aE (SV.d (D.agg (kI op a rel b nm w kd)))=some (kb op a rel b nm w kd))∧(∀(op a rel b:Int)(nm:D)(w:Nat→BitVec 64)(kd:D),List.length (kb op a rel b nm w kd)=10))))∧(((∀(op a rel b:Int)(nm:D)(w:Nat→BitVec 64)(kd:D),ai true 10 0 (kb op a rel b nm w kd)=some (SV.d (D.agg (kI op a rel b nm w kd))))∧((∀(op a rel b:Int)(nm:D)(w:Nat→BitVec 64)(kd:D),ai false 1 0 (kb op a rel b nm w kd)=some (SV.d (D.int IntKind.i64 op)))∧(∀(op a rel b:Int)(nm:D)(w:Nat→BitVec 64)(kd:D),ai false 1 1 (kb op a rel b nm w kd)=some (SV.d (D.int IntKind.i64 a)))))∧(((∀(op a rel b:Int)(nm:D)(w:Nat→BitVec 64)(kd:D),ai false 1 2 (kb op a rel b nm w kd)=some (SV.d (D.int IntKind.i64 rel)))∧(∀(op a rel b:Int)(nm:D)(w:Nat→BitVec 64)(kd:D),ai false 1 3 (kb op a rel b nm w kd)=some (SV.d (D.int IntKind.i64 b))))∧((∀(op a rel b:Int)(nm:D)(w:Nat→BitVec 64)(kd:D),ai false 1 4 (kb op a rel b nm w kd)=some (SV.d nm))∧(∀(op a rel b:Int)(nm:D)(w:Nat→BitVec 64)(kd:D),ai true 4 5 (kb op a rel b nm w kd)=some (SV.d (yx w))))))))∧(((((∀(op a rel b:Int)(nm:D)(w:Nat→BitVec 64)(kd:D),ai false 1 9 (kb op a rel b nm w kd)=some (SV.d kd))∧((aT []=some [])∧(∀(x:o8),aE (SV.d (MS x))=some (uP x))))∧(((∀(x:o8),List.length (uP x)=21)∧(∀(x:o8),ai true 21 0 (uP x)=some (SV.d (MS x))))∧((∀(x:o8),ai true 7 0 (uP x)=some (SV.d (u1 (o8.f x))))∧(∀(x:o8),ai true 7 7 (uP x)=some (SV.d (u1 (o8.s x)))))))∧(((∀(x:o8),ai true 7 14 (uP x)=some (SV.d (u1 (o8.t x))))∧((∀(x:fD),aE (SV.d (u1 x))=some (mV x))∧(∀(x:fD),List.length (mV x)=7)))∧(((∀(x:fD),ai true 7 0 (mV x)=some (SV.d (u1 x)))∧(∀(x:fD),ai false 1 0 (mV x)=some (SV.d (D.int IntKind.i64 (fD.u x)))))∧((∀(x:fD),ai false 1 1 (mV x)=some (SV.d (D.int IntKind.i64 (fD.r x))))∧(∀(x:fD),ai false 1 2 (mV x)=some (SV.d (D.int IntKind.i64 (fD.t x))))))))∧((((∀(x:fD),ai true 2 3 (mV x)=some (SV.d (lT (fD.ls x,fD.lc x))))∧((∀(x:fD),ai true 2 5 (mV x)=some (SV.d (lT (fD.hs x,fD.hc x))))∧(∀(a0 a1 a2 a3 a4 a5 a6:SV)(x:fD),setAt [a0,a1,a2,a3,a4,a5,a6] 0 (mV x)=mV x)))∧(((∀(l:Int×BitVec 64),aE (SV.d (lT l))=some (sG l))∧(∀(l:Int×BitVec 64),List.length (sG l)=2))∧((∀(l:Int×BitVec 64),ai true 2 0 (sG l)=some (SV.d (lT l)))∧(∀(l:Int×BitVec 64),ai false 1 0 (sG l)=some (SV.d (D.int IntKind.i64 (Prod.fst l)))))))∧(((∀(l:Int×BitVec 64),ai false 1 1 (sG l)=some (SV.d (dW (Prod.snd l))))∧((∀(a0 a1:SV)(l:Int×BitVec 64),setAt [a0,a1] 0 (sG l)=sG l)∧(∀(x:fD),zw true 4 3 (SV.d (u1 x))=some (SV.d (FH x)))))∧(((∀(x:fD),zw true 2 0 (SV.d (FH x))=some (SV.d (lT (fD.ls x,fD.lc x))))∧(∀(x:fD),zw true 2 2 (SV.d (FH x))=some (SV.d (lT (fD.hs x,fD.hc x)))))∧((∀(a b:Int×BitVec 64),aj (some (true,[CK.int,CK.int])) BinOp.eql (SV.d (lT a)) (SV.d (lT b))=some (SV.d (D.bool (Gr a b))))∧(∀(a b:Int×BitVec 64),aj (some (true,[CK.int,CK.int])) BinOp.neq (SV.d (lT a)) (SV.d (lT b))=some (SV.d (D.bool !Gr a b))))))))):=⟨⟨⟨⟨⟨@QM,⟨@ZZ,@aeu⟩⟩,⟨@ajh,⟨@ZX,@ahE⟩⟩⟩,⟨⟨@ago,⟨@j4,@ek⟩⟩,⟨⟨@ajo,@ajm⟩,⟨@ajn,@ajp⟩⟩⟩⟩,⟨⟨⟨@iJ,⟨@ahH,@ahI⟩⟩,⟨⟨@ajk,@ajl⟩,⟨@Hh,@Rf⟩⟩⟩,⟨⟨@afq,⟨@ahJ,@ahK⟩⟩,⟨⟨@ahL,@ahM⟩,⟨@ahN,@ahO⟩⟩⟩⟩⟩,⟨⟨⟨⟨@ahP,⟨@agp,@afr⟩⟩,⟨⟨@ahQ,@agq⟩,⟨@afs,@aft⟩⟩⟩,⟨⟨@aev,⟨@agr,@ajr⟩⟩,⟨⟨@ahR,@ags⟩,⟨@agt,@agu⟩⟩⟩⟩,⟨⟨⟨@agv,⟨@agw,@ajs⟩⟩,⟨⟨@agx,@ajt⟩,⟨@ahS,@agy⟩⟩⟩,⟨⟨@agz,⟨@aju,@agA⟩⟩,⟨⟨@ahT,@ahU⟩,⟨@ajv,@ajw⟩⟩⟩⟩⟩⟩
theorem sW:(((((∀(x y:BitVec 64),aj none BinOp.and (SV.d (dW x)) (SV.d (dW y))=some (SV.d (dW (x&&& y))))∧(∀(x y:BitVec 64),aj none BinOp.or (SV.d (dW x)) (SV.d (dW y))=some (SV.d (dW (x|||y)))))∧((∀(x y:BitVec 64),aj none BinOp.andNot (SV.d (dW x)) (SV.d (dW y))=some (SV.d (dW (x&&& ~~~y))))∧(∀(x:BitVec 64)(k:IntKind)(n:Nat),aj none BinOp.shr (SV.d (dW x)) (SV.d (D.int k ↑n))=some (SV.d (dW (x>>>n))))))∧(((∀(x y:BitVec 64),aj (some (false,[CK.int])) BinOp.eql (SV.d (dW x)) (SV.d (dW y))=some (SV.d (D.bool (x==y))))∧(∀(x y:BitVec 64),aj (some (false,[CK.int])) BinOp.neq (SV.d (dW x)) (SV.d (dW y))=some (SV.d (D.bool (x != y)))))∧((∀(x:BitVec 64),aj (some (false,[CK.int])) BinOp.eql (SV.d (dW x)) (SV.d (D.int IntKind.u64 0))=some (SV.d (D.bool (x==0))))∧(∀(x:BitVec 64),aj (some (false,[CK.int])) BinOp.neq (SV.d (dW x)) (SV.d (D.int IntKind.u64 0))=some (SV.d (D.bool (x != 0)))))))∧((((∀(x:BitVec 32),aj (some (false,[CK.int])) BinOp.eql (SV.d (dU x)) (SV.d (D.int IntKind.u32 0))=some (SV.d (D.bool (x==0))))∧(∀(x:BitVec 32),aj (some (false,[CK.int])) BinOp.neq (SV.d (dU x)) (SV.d (D.int IntKind.u32 0))=some (SV.d (D.bool (x != 0)))))∧((∀(x y:BitVec 32),aj (some (false,[CK.int])) BinOp.eql (SV.d (dU x)) (SV.d (dU y))=some (SV.d (D.bool (x==y))))∧(∀(x y:BitVec 32),aj (some (false,[CK.int])) BinOp.neq (SV.d (dU x)) (SV.d (dU y))=some (SV.d (D.bool (x != y))))))∧(((∀(x:BitVec 32)(k:IntKind)(n:Nat),aj none BinOp.shr (SV.d (dU x)) (SV.d (D.int k ↑n))=some (SV.d (dU (x>>>n))))∧(∀(x y:BitVec 32),aj none BinOp.or (SV.d (dU x)) (SV.d (dU y))=some (SV.d (dU (x|||y)))))∧((∀(x:D)(o n:Nat),bR (SV.aX x o) n=some (SV.aX x (o+n)))∧((∀(x:D)(o:Nat),aa (SV.aX x o)=SV.aX x o)∧(∀(s:List UInt8),aH false 1 (SV.aX (D.str s) 0)=some (SV.d (D.str s)))))))):=⟨⟨⟨⟨@aji,@akS⟩,⟨@afp,@ajj⟩⟩,⟨⟨@Y7,@Y8⟩,⟨@apy,@apz⟩⟩⟩,⟨⟨⟨@apw,@apx⟩,⟨@eqU,@neU⟩⟩,⟨⟨@apv,@orU⟩,⟨@ajq,⟨@ZZ,@Bn⟩⟩⟩⟩⟩
theorem EA(n:Nat):lenOf (.d (.int .i64 (n:Int))) (.d (.int .i64 (n:Int)))=some n:=by
 simp[lenOf]
theorem Z1{P:Program}{e:TypeId}{b:Bool}{α:Type}{f:α→D}(h1:∀x,Is P e x→∃t,pack b x=f t):∀(L:List (List D)),(∀x∈L,Is P e x)→∃l:List α,L.map (pack b)=l.map f∧l.length=L.length
 |[],_=>⟨[],rfl,rfl⟩
 |x::L,h=>by
  obtain⟨t,ht⟩:=h1 x (h x List.mem_cons_self)
  obtain⟨l,hl,hn⟩:=Z1 h1 L (fun y hy=>h y (List.mem_cons_of_mem _ hy))
  exact⟨t::l,by rw[List.map_cons,List.map_cons,hl,ht],by simp[hn]⟩
end Go.Proofs.Ytimbllcalipehaa.Ab
