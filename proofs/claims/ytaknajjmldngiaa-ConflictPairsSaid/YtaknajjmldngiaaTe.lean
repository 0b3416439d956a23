/-
  TYPED VALUES: words, numbers, bools; what the leaves do with them.
-/
import Derived.Test.YtaknajjmldngiaaTc
set_option linter.unusedVariables false
set_option linter.unusedSimpArgs false
namespace Go.Proofs.Ytaknajjmldngiaa.Ab
open Go
def dW(x:BitVec 64):D:=.int .u64 (x.toNat:Int)
def dI(n:Int):D:=.int .i64 n
theorem bR{C:bu}{f:FuncId}{args:List SV}{r:D}{k:SV→Prop}(h:C f args (.d r))(hk:k (.d r)):aP C f args k:=⟨.d r,h,rfl,hk⟩
theorem cM{P:Program}{f:FuncId}{fn:Func}(hf:P.funcs[f]? =some fn)(EO:(fn.name== "runtime.NumGoroutine")=false)(hb:fn.body.isSome=true):mE P f:=by
 obtain⟨c,hc⟩:=Option.isSome_iff_exists.1 hb
 exact QI hf EO hc
theorem Pr{α:Type}(x:α)(k:α→Prop):ab (some x) k=k x:=rfl
theorem RH(A B:Prop):ao (.d (.bool true)) A B=A:=rfl
theorem QP(A B:Prop):ao (.d (.bool false)) A B=B:=rfl
theorem S7(b:Bool)(A B:Prop):ao (.d (.bool b)) A B↔(b=true→A)∧(b=false→B):=by cases b<;>simp[ao]
theorem RI(x:D):aa (.d x)=.d x:=rfl
theorem S8(x:D):SV.au (.d x)=true:=rfl
theorem eo{F:List SV→List (List SV)→(List SV→List (List SV)→Prop)→Prop}(st:Nat→List SV)(sb:Nat→List (List SV))(n:Nat)
  (rB:∀i,i<n→∀I:List SV→List (List SV)→Prop,I (st (i+1)) (sb (i+1))→F (st i) (sb i) I)(j5:∀I,F (st n) (sb n) I):cm F (st 0) (sb 0):=by
 intro I hI
 have key:∀k,k≤n→I (st (n-k)) (sb (n-k)):=by
  intro k
  induction k with
  |zero=>intro _;exact hI _ _ (j5 I)
  |succ k ih=>
   intro hk
   have:=rB (n-(k+1)) (by omega) I (by rw[show n-(k+1)+1=n-k by omega];exact ih (by omega))
   exact hI _ _ this
 have:=key n (Nat.le_refl _)
 simpa using this
theorem wrap64(n:Int):IntKind.u64.wrap n=n % 2^64:=by simp[IntKind.wrap,IntKind.signed,IntKind.bits]
theorem v5(x:BitVec 64):BitVec.ofInt 64 (x.toNat:Int)=x:=by
 apply BitVec.eq_of_toNat_eq
 simp
theorem S9(x y:BitVec 64):ah none .and (.d (dW x)) (.d (dW y))=some (.d (dW (x&&& y))):=by
 simp only[ah,eE,dW,iP,wrap64,↓reduceIte]
 have h:=Int.emod_eq_of_lt (Int.natCast_nonneg (x&&& y).toNat) (b:=2^64) (by have:=(x&&& y).isLt;omega)
 have h1:BitVec.ofInt IntKind.u64.bits (x.toNat:Int)=x:=v5 x
 have h2:BitVec.ofInt IntKind.u64.bits (y.toNat:Int)=y:=v5 y
 rw[h1,h2]
 exact congrArg (fun z=>some (SV.d (.int .u64 z))) h
theorem T3(x y:BitVec 64):ah none .or (.d (dW x)) (.d (dW y))=some (.d (dW (x|||y))):=by
 simp only[ah,eE,dW,iP,wrap64,↓reduceIte]
 have h:=Int.emod_eq_of_lt (Int.natCast_nonneg (x|||y).toNat) (b:=2^64) (by have:=(x|||y).isLt;omega)
 have h1:BitVec.ofInt IntKind.u64.bits (x.toNat:Int)=x:=v5 x
 have h2:BitVec.ofInt IntKind.u64.bits (y.toNat:Int)=y:=v5 y
 rw[h1,h2]
 exact congrArg (fun z=>some (SV.d (.int .u64 z))) h
theorem P8(x y:BitVec 64):ah none .andNot (.d (dW x)) (.d (dW y))=some (.d (dW (x&&& ~~~y))):=by
 simp only[ah,eE,dW,iP,wrap64,↓reduceIte]
 have h:=Int.emod_eq_of_lt (Int.natCast_nonneg (x&&& ~~~y).toNat) (b:=2^64) (by have:=(x&&& ~~~y).isLt;omega)
 have h1:BitVec.ofInt IntKind.u64.bits (x.toNat:Int)=x:=v5 x
 have h2:BitVec.ofInt IntKind.u64.bits (y.toNat:Int)=y:=v5 y
 rw[h1,h2]
 exact congrArg (fun z=>some (SV.d (.int .u64 z))) h
theorem Ta(x:BitVec 64)(k:IntKind)(n:Nat):ah none .shr (.d (dW x)) (.d (.int k (n:Int)))=some (.d (dW (x>>>n))):=by
 simp only[ah,eE,dW,yd,IntKind.bits]
 rw[if_neg (by omega)]
 simp only[Int.toNat_natCast]
 have:((x.toNat:Int)).fdiv (2^min n 64)=((x>>>n).toNat :Int):=by
  rw[Int.fdiv_eq_ediv_of_nonneg _ (Int.le_of_lt (Int.pow_pos (by decide))),BitVec.toNat_ushiftRight,Nat.shiftRight_eq_div_pow]
  have e:((2:Int)^min n 64)=((2^min n 64:Nat):Int):=by simp
  rw[e,←Int.natCast_ediv]
  congr 1
  rcases Nat.le_total n 64 with h|h
  ·rw[Nat.min_eq_left h]
  ·rw[Nat.min_eq_right h,Nat.div_eq_of_lt x.isLt,Nat.div_eq_of_lt]
   exact Nat.lt_of_lt_of_le x.isLt (Nat.pow_le_pow_right (by decide) h)
 exact congrArg (fun z=>some (SV.d (.int .u64 z))) this
theorem wI{x y:BitVec 64}:((x.toNat:Int)==(y.toNat:Int))=(x==y):=by
 rw[Bool.eq_iff_iff,beq_iff_eq,beq_iff_eq,Int.ofNat_inj,BitVec.toNat_inj]
theorem Ka(x y:BitVec 64):ah (some (false,[.int])) .eql (.d (dW x)) (.d (dW y))=some (.d (.bool (x==y))):=by
 simp only[ah,eE,dW,iP,↓reduceIte]
 rw[wI]
def dS(a b c d:BitVec 64):D:=.agg [dW a,dW b,dW c,dW d]
theorem RJ(a b c d a' b' c' d':BitVec 64):ah (some (true,[.int,.int,.int,.int])) .eql (.d (dS a b c d)) (.d (dS a' b' c' d'))=some (.d (.bool (a==a'&&(b==b'&&(c==c'&&(d==d'&&true)))))):=by
 simp only[ah,eE,dS,cX,dW,Bool.and_self,cond_true,eC,kg,↓reduceIte,wI]
theorem RK(a b c d a' b' c' d':BitVec 64):ah (some (true,[.int,.int,.int,.int])) .neq (.d (dS a b c d)) (.d (dS a' b' c' d'))=some (.d (.bool (!(a==a'&&(b==b'&&(c==c'&&(d==d'&&true))))))):=by
 simp only[ah,eE,dS,cX,dW,Bool.and_self,cond_true,eC,kg,↓reduceIte,wI]
end Go.Proofs.Ytaknajjmldngiaa.Ab
namespace Go.Proofs.Ytaknajjmldngiaa.Ab
open Go
def qv(w:Nat→BitVec 64):D:=.agg [dW (w 0),dW (w 1),dW (w 2),dW (w 3)]
theorem s6{k n:Nat}(h:k<n):eh (.d (.int .i64 (k:Int))) n=some k:=by
 simp only[eh]
 rw[if_pos ⟨by omega,by omega⟩]
 simp
theorem wrap_i64{n:Int}(h1: -9223372036854775808≤n)(h2:n<9223372036854775808):IntKind.i64.wrap n=n:=by
 show(if(true&&decide (n % 2^64≥2^(64-1)))=true then n % 2^64-2^64 else n % 2^64)=n
 by_cases h:n % 2^64≥2^(64-1)
 ·rw[if_pos (by simpa using h)]
  omega
 ·rw[if_neg (by simpa using h)]
  omega
theorem KQ(m n:Int):ah none .lss (.d (.int .i64 m)) (.d (.int .i64 n))=some (.d (.bool (decide (m<n)))):=by
 simp only[ah,eE,iP,↓reduceIte]
theorem Kb(x y:BitVec 64):ah (some (false,[.int])) .neq (.d (dW x)) (.d (dW y))=some (.d (.bool (x != y))):=by
 simp only[ah,eE,dW,iP,↓reduceIte,bne,wI]
def Cn(w v:Nat→BitVec 64):Bool:=w 0==v 0&&(w 1==v 1&&(w 2==v 2&&(w 3==v 3&&true)))
theorem Tb(w v:Nat→BitVec 64):ah (some (true,[.int,.int,.int,.int])) .eql (.d (qv w)) (.d (qv v))=some (.d (.bool (Cn w v))):=RJ _ _ _ _ _ _ _ _
theorem Tc(w v:Nat→BitVec 64):ah (some (true,[.int,.int,.int,.int])) .neq (.d (qv w)) (.d (qv v))=some (.d (.bool (!Cn w v))):=RK _ _ _ _ _ _ _ _
end Go.Proofs.Ytaknajjmldngiaa.Ab
namespace Go.Proofs.Ytaknajjmldngiaa.Ab
open Go
theorem aZ{α:Type}{o:Option α}{k:α→Prop}{x:α}(h:o=some x)(hk:k x):ab o k:=by subst h;exact hk
theorem fQ{C:bu}{f:FuncId}{args:List SV}{r:SV}{k:SV→Prop}(h:C f args r)(hr:rq r=false)(hk:k r):aP C f args k:=⟨r,h,hr,hk⟩
theorem call2{C:bu}{f:FuncId}{args:List SV}{a b:SV}{k:SV→SV→Prop}(h:C f args (.dA [a,b]))(hk:k a b):∃x,∃y,C f args (.dA [x,y])∧k x y:=⟨a,b,h,hk⟩
theorem Kc(a b:Bool):ah (some (false,[.bool])) .eql (.d (.bool a)) (.d (.bool b))=some (.d (.bool (a==b))):=by
 simp only[ah,eE]
theorem RM(a b:Bool):ah (some (false,[.bool])) .neq (.d (.bool a)) (.d (.bool b))=some (.d (.bool (a != b))):=by
 simp only[ah,eE,bne]
theorem Td(k:IntKind)(m n:Int):ah none .leq (.d (.int k m)) (.d (.int k n))=some (.d (.bool (decide (m≤n)))):=by
 simp only[ah,eE,iP,↓reduceIte]
theorem Te(k:IntKind)(m n:Int):ah none .gtr (.d (.int k m)) (.d (.int k n))=some (.d (.bool (decide (m>n)))):=by
 simp only[ah,eE,iP,↓reduceIte]
theorem Tf(k:IntKind)(m n:Int):ah none .lss (.d (.int k m)) (.d (.int k n))=some (.d (.bool (decide (m<n)))):=by
 simp only[ah,eE,iP,↓reduceIte]
theorem Tg(k:IntKind)(m n:Int):ah none .geq (.d (.int k m)) (.d (.int k n))=some (.d (.bool (decide (m≥n)))):=by
 simp only[ah,eE,iP,↓reduceIte]
theorem fa(k:IntKind)(m n:Int):ah (some (false,[.int])) .eql (.d (.int k m)) (.d (.int k n))=some (.d (.bool (m==n))):=by
 simp only[ah,eE,iP,↓reduceIte]
theorem p6(k:IntKind)(m n:Int):ah (some (false,[.int])) .neq (.d (.int k m)) (.d (.int k n))=some (.d (.bool (m != n))):=by
 simp only[ah,eE,iP,↓reduceIte]
theorem tg(a b:List UInt8):ah (some (false,[.str])) .eql (.d (.str a)) (.d (.str b))=some (.d (.bool (a==b))):=by
 simp only[ah,eE,wD]
theorem uz(a b:List UInt8):ah (some (false,[.str])) .neq (.d (.str a)) (.d (.str b))=some (.d (.bool (!(a==b)))):=by
 simp only[ah,eE,wD]
theorem kP(b:Bool):cw .not (.d (.bool b))=some (.d (.bool (!b))):=rfl
theorem bg{m n:Nat}(h:m<n)(hn:n≤maxLen):ah none .add (.d (.int .i64 (m:Int))) (.d (.int .i64 1))=some (.d (.int .i64 ((m+1:Nat):Int))):=by
 simp only[maxLen]at hn
 have h2:IntKind.i64.wrap ((m:Int)+1)=((m+1:Nat):Int):=by rw[wrap_i64 (by omega) (by omega)];omega
 simp only[ah,eE,iP,h2,↓reduceIte]
theorem oE{F:List SV→List (List SV)→(List SV→List (List SV)→Prop)→Prop}(J:Nat→Prop)(st:Nat→List SV)(sb:Nat→List (List SV))(n:Nat)(h0:J 0)
  (rB:∀i,i<n→J i→∀I:List SV→List (List SV)→Prop,(J (i+1)→I (st (i+1)) (sb (i+1)))→F (st i) (sb i) I)(j5:J n→∀I,F (st n) (sb n) I):cm F (st 0) (sb 0):=by
 intro I hI
 have key:∀k,k≤n→J (n-k)→I (st (n-k)) (sb (n-k)):=by
  intro k
  induction k with
  |zero=>intro _ hj;exact hI _ _ (j5 hj I)
  |succ k ih=>
   intro hk hj
   have:=rB (n-(k+1)) (by omega) hj I (fun jM=>by rw[show n-(k+1)+1=n-k by omega]at jM ⊢;exact ih (by omega) jM)
   exact hI _ _ this
 have:=key n (Nat.le_refl _)
 simp only[Nat.sub_self]at this
 exact this h0
inductive eN(sz:Nat)(L:List D):SV→Prop
 |nil (s:Nat) (h:L=[]):eN sz L (.d (.sl .nil s []))
 |ro:eN sz L (.d (.sl .ro sz L))
 |full:eN sz L (.full sz L)
inductive bK(sz:Nat)(L:List D):D→Prop
 |nil (s:Nat) (h:L=[]):bK sz L (.sl .nil s [])
 |ro:bK sz L (.sl .ro sz L)
theorem bK.sv{sz:Nat}{L:List D}{x:D}(h:bK sz L x):eN sz L (.d x):=by
 cases h with
 |nil s h=>exact .nil s h
 |ro=>exact .ro
theorem eN.elems{sz:Nat}{L:List D}{x:SV}(h:eN sz L x):elems sz x=some L∧x4 x=some L∧aa x=x:=by
 cases h with
 |nil s h=>subst h;exact⟨rfl,rfl,rfl⟩
 |ro=>exact⟨by simp[Ab.elems],rfl,rfl⟩
 |full=>exact⟨by simp[Ab.elems],rfl,rfl⟩
theorem eN.cF{sz:Nat}{L:List D}{x:SV}(h:eN sz L x):aa x=x:=h.elems.2.2
theorem eN.len{sz:Nat}{L:List D}{x:SV}(h:eN sz L x):bG x=some (.d (.int .i64 (L.length:Int))):=by
 have hb:=h.elems.2.1
 cases h<;>simp[bG,hb]
theorem eN.at{sz:Nat}{L:List D}{x:SV}(h:eN sz L x){i:Nat}{y:D}(hy:L[i]? =some y):aR sz x (.d (.int .i64 (i:Int)))=some (.aE y 0):=by
 have hi:i<L.length:=(List.getElem?_eq_some_iff.1 hy).1
 have hb:=h.elems.1
 have he:aR sz x (.d (.int .i64 (i:Int)))=(match Ab.elems sz x with
  |some L=>(match eh (.d (.int .i64 (i:Int))) L.length with
   |some n=>(match L[n]? with|some y=>some (.aE y 0)|none=>none)
   |none=>none)
  |none=>none):=by cases h<;>rfl
 rw[he,hb]
 simp only[]
 rw[s6 hi]
 simp only[hy]
theorem eN.cells{sz:Nat}{L:List D}{x:SV}(h:eN sz L x):aA x=some [x]:=by
 cases h<;>rfl
theorem bK.len{sz:Nat}{L:List D}{x:D}(h:bK sz L x):bG (.d x)=some (.d (.int .i64 (L.length:Int))):=h.sv.len
theorem bK.at{sz:Nat}{L:List D}{x:D}(h:bK sz L x){i:Nat}{y:D}(hy:L[i]? =some y):aR sz (.d x) (.d (.int .i64 (i:Int)))=some (.aE y 0):=h.sv.at hy
theorem oH(s:List UInt8):aF false 1 (.aE (.str s) 0)=some (.d (.str s)):=rfl
theorem DV(cs:List D)(n:Nat)(h:cs.length=n):aF true n (.aE (.agg cs) 0)=some (.d (.agg cs)):=by
 subst h
 have:oO true cs.length 0 cs=some (.agg cs):=by
  simp only[oO,cond_true,Nat.zero_add,Nat.le_refl,↓reduceIte,List.drop_zero,List.take_length]
 simp only[aF,D.cells,this]
theorem Th(x:D)(o n:Nat):bD (.aE x o) n=some (.aE x (o+n)):=rfl
theorem KR(x:D)(o:Nat):aa (.aE x o)=.aE x o:=rfl
def bP(l:List (List UInt8)):List D:=l.map .str
theorem gY(l:List (List UInt8)):(bP l).length =l.length:=List.length_map ..
theorem uA{l:List (List UInt8)}{i:Nat}{s:List UInt8}(h:l[i]? =some s):(bP l)[i]? =some (.str s):=by simp[bP,h]
theorem get_some{α:Type}{l:List α}{i:Nat}(h:i<l.length):∃y,l[i]? =some y:=⟨l[i],List.getElem?_eq_getElem h⟩
def first{α:Type}(p:α→Bool):List α→Option Nat
 |[]=>none
 |x::l=>if p x then some 0 else(first p l).map (· +1)
theorem wk{α:Type}{p:α→Bool}:∀{l:List α}{k:Nat}{x:α},l[k]? =some x→p x=true→(∀j y,j<k→l[j]? =some y→p y=false)→first p l=some k
 |[],k,x,h,_,_=>by simp at h
 |y::l,0,x,h,hp,_=>by simp at h;subst h;simp[first,hp]
 |y::l,k+1,x,h,hp,hn=>by
  have h0:=hn 0 y (by omega) (by simp)
  rw[first,h0]
  rw[wk (l:=l) (k:=k) (by simpa using h) hp (fun j z hj hz=>hn (j+1) z (by omega) (by simpa using hz))]
  rfl
theorem wb{α:Type}{p:α→Bool}:∀{l:List α},(∀(j:Nat)y,l[j]? =some y→p y=false)→first p l=none
 |[],_=>rfl
 |y::l,hn=>by
  have h0:=hn 0 y (by simp)
  rw[first,h0,wb (l:=l) (fun j z hz=>hn (j+1) z (by simpa using hz))]
  rfl
theorem IN{α:Type}{p:α→Bool}:∀{l:List α}{k:Nat},first p l=some k→∃x,l[k]? =some x∧p x=true∧∀j y,j<k→l[j]? =some y→p y=false
 |[],k,h=>by simp[first]at h
 |y::l,k,h=>by
  rw[first]at h
  by_cases hp:p y=true
  ·rw[if_pos hp]at h
   cases h
   exact⟨y,by simp,hp,fun j _ hj=>by omega⟩
  ·rw[if_neg hp]at h
   obtain⟨k',dj,rfl⟩:=Option.map_eq_some_iff.1 h
   obtain⟨x,h1,h2,h3⟩:=IN dj
   refine⟨x,by simpa using h1,h2,fun j z hj hz=>?_⟩
   cases j with
   |zero=>simp at hz;subst hz;simpa using hp
   |succ j=>exact h3 j z (by omega) (by simpa using hz)
def orM(o:Option Nat):Int:=match o with|some k=>(k:Int)|none=> -1
theorem KT(o:Option Nat):decide (orM o≥0)=o.isSome:=by
 cases o with
 |none=>decide
 |some k=>simp[orM]
end Go.Proofs.Ytaknajjmldngiaa.Ab
namespace Go.Proofs.Ytaknajjmldngiaa.Ab
open Go
theorem AS{P:Program}{e:TypeId}{b:Bool}{α:Type}{f:α→D}(h1:∀x,Is P e x→∃t,pack b x=f t):∀(L:List (List D)),(∀x∈L,Is P e x)→∃l:List α,L.map (pack b)=l.map f∧l.length=L.length
 |[],_=>⟨[],rfl,rfl⟩
 |x::L,h=>by
  obtain⟨t,ht⟩:=h1 x (h x List.mem_cons_self)
  obtain⟨l,hl,hn⟩:=AS h1 L (fun y hy=>h y (List.mem_cons_of_mem _ hy))
  exact⟨t::l,by rw[List.map_cons,List.map_cons,hl,ht],by simp[hn]⟩
end Go.Proofs.Ytaknajjmldngiaa.Ab
namespace Go.Proofs.Ytaknajjmldngiaa.Ab
open Go
inductive Xp where
 |mk (op a rel b:Int) (names:List (List UInt8)) (w:Nat→BitVec 64) (kids:List Xp)
def Xp.op:Xp→Int| .mk op _ _ _ _ _ _=>op
def Xp.a:Xp→Int| .mk _ a _ _ _ _ _=>a
def Xp.rel:Xp→Int| .mk _ _ r _ _ _ _=>r
def Xp.b:Xp→Int| .mk _ _ _ b _ _ _=>b
def Xp.names:Xp→List (List UInt8)| .mk _ _ _ _ n _ _=>n
def Xp.w:Xp→Nat→BitVec 64| .mk _ _ _ _ _ w _=>w
def Xp.kids:Xp→List Xp| .mk _ _ _ _ _ _ k=>k
def pG(op a rel b:Int)(nm:D)(w:Nat→BitVec 64)(kd:D):List D:=
 [.int .i64 op,.int .i64 a,.int .i64 rel,.int .i64 b,nm,dW (w 0),dW (w 1),dW (w 2),dW (w 3),kd]
def iG(op a rel b:Int)(nm:D)(w:Nat→BitVec 64)(kd:D):List SV:=
 [.d (.int .i64 op),.d (.int .i64 a),.d (.int .i64 rel),.d (.int .i64 b),.d nm,.d (dW (w 0)),.d (dW (w 1)),.d (dW (w 2)),.d (dW (w 3)),.d kd]
inductive jy:Xp→D→Prop
 |mk (op a rel b:Int) (names:List (List UInt8)) (w:Nat→BitVec 64) (kids:List Xp) (nm kd:D) (L:List D) (hn:bK 1 (bP names) nm) (hl:L.length=kids.length)
   (hk:∀(i:Nat)k y,kids[i]? =some k→L[i]? =some y→jy k y) (hd:bK 10 L kd):jy (.mk op a rel b names w kids) (.agg (pG op a rel b nm w kd))
section
variable(op a rel b:Int)(nm:D)(w:Nat→BitVec 64)(kd:D)
theorem Kd:aA (.d (.agg (pG op a rel b nm w kd)))=some (iG op a rel b nm w kd):=rfl
theorem Ti:(iG op a rel b nm w kd).length =10:=rfl
theorem P9:ag true 10 0 (iG op a rel b nm w kd)=some (.d (.agg (pG op a rel b nm w kd))):=rfl
theorem RN:ag false 1 0 (iG op a rel b nm w kd)=some (.d (.int .i64 op)):=rfl
theorem RO:ag false 1 1 (iG op a rel b nm w kd)=some (.d (.int .i64 a)):=rfl
theorem RP:ag false 1 2 (iG op a rel b nm w kd)=some (.d (.int .i64 rel)):=rfl
theorem RQ:ag false 1 3 (iG op a rel b nm w kd)=some (.d (.int .i64 b)):=rfl
theorem RR:ag false 1 4 (iG op a rel b nm w kd)=some (.d nm):=rfl
theorem RS:ag true 4 5 (iG op a rel b nm w kd)=some (.d (qv w)):=rfl
theorem RT:ag false 1 9 (iG op a rel b nm w kd)=some (.d kd):=rfl
end
theorem jy.inv{e:Xp}{x:D}(h:jy e x):∃nm kd L,x=.agg (pG e.op e.a e.rel e.b nm e.w kd)∧bK 1 (bP e.names) nm∧L.length=e.kids.length∧bK 10 L kd∧
  ∀(i:Nat)k y,e.kids[i]? =some k→L[i]? =some y→jy k y:=by
 cases h with
 |mk op a rel b names w kids nm kd L hn hl hk hd=>exact⟨nm,kd,L,rfl,hn,hl,hd,hk⟩
theorem QQ:aW []=some []:=rfl
def Xp.lv:Xp→Nat
 | .mk _ _ _ _ _ _ kids=>Nx kids+1
where Nx:List Xp→Nat
 |[]=>0
 |k::l=>max k.lv (Nx l)
end Go.Proofs.Ytaknajjmldngiaa.Ab
namespace Go.Proofs.Ytaknajjmldngiaa.Ab
open Go
end Go.Proofs.Ytaknajjmldngiaa.Ab
namespace Go.Proofs.Ytaknajjmldngiaa.Ab
open Go
end Go.Proofs.Ytaknajjmldngiaa.Ab
namespace Go.Proofs.Ytaknajjmldngiaa.Ab
open Go
structure dn where
 u:Int
 r:Int
 t:Int
 ls:Int
 lc:BitVec 64
 hs:Int
 hc:BitVec 64
structure km where
 f:dn
 s:dn
 t:dn
def nZ(c:dn):D:=.agg [.int .i64 c.u,.int .i64 c.r,.int .i64 c.t,.int .i64 c.ls,dW c.lc,.int .i64 c.hs,dW c.hc]
def jt(c:dn):List SV:=[.d (.int .i64 c.u),.d (.int .i64 c.r),.d (.int .i64 c.t),.d (.int .i64 c.ls),.d (dW c.lc),.d (.int .i64 c.hs),.d (dW c.hc)]
def BH(x:km):D:=.agg [.int .i64 x.f.u,.int .i64 x.f.r,.int .i64 x.f.t,.int .i64 x.f.ls,dW x.f.lc,.int .i64 x.f.hs,dW x.f.hc,
 .int .i64 x.s.u,.int .i64 x.s.r,.int .i64 x.s.t,.int .i64 x.s.ls,dW x.s.lc,.int .i64 x.s.hs,dW x.s.hc,.int .i64 x.t.u,.int .i64 x.t.r,.int .i64 x.t.t,.int .i64 x.t.ls,dW x.t.lc,.int .i64 x.t.hs,dW x.t.hc]
def nR(x:km):List SV:=[.d (.int .i64 x.f.u),.d (.int .i64 x.f.r),.d (.int .i64 x.f.t),.d (.int .i64 x.f.ls),.d (dW x.f.lc),.d (.int .i64 x.f.hs),.d (dW x.f.hc),
 .d (.int .i64 x.s.u),.d (.int .i64 x.s.r),.d (.int .i64 x.s.t),.d (.int .i64 x.s.ls),.d (dW x.s.lc),.d (.int .i64 x.s.hs),.d (dW x.s.hc),.d (.int .i64 x.t.u),.d (.int .i64 x.t.r),.d (.int .i64 x.t.t),.d (.int .i64 x.t.ls),.d (dW x.t.lc),.d (.int .i64 x.t.hs),.d (dW x.t.hc)]
def iB(l:Int×BitVec 64):D:=.agg [.int .i64 l.1,dW l.2]
def mN(l:Int×BitVec 64):List SV:=[.d (.int .i64 l.1),.d (dW l.2)]
theorem Qa(x:km):aA (.d (BH x))=some (nR x):=rfl
theorem RU(x:km):(nR x).length =21:=rfl
theorem QR(x:km):ag true 21 0 (nR x)=some (.d (BH x)):=rfl
theorem Qb(x:km):ag true 7 0 (nR x)=some (.d (nZ x.f)):=rfl
theorem Qc(x:km):ag true 7 7 (nR x)=some (.d (nZ x.s)):=rfl
theorem Ps(x:km):ag true 7 14 (nR x)=some (.d (nZ x.t)):=rfl
theorem QS(x:dn):aA (.d (nZ x))=some (jt x):=rfl
theorem Tj(x:dn):(jt x).length =7:=rfl
theorem RV(x:dn):ag true 7 0 (jt x)=some (.d (nZ x)):=rfl
theorem QT(x:dn):ag false 1 0 (jt x)=some (.d (.int .i64 x.u)):=rfl
theorem QU(x:dn):ag false 1 1 (jt x)=some (.d (.int .i64 x.r)):=rfl
theorem QV(x:dn):ag false 1 2 (jt x)=some (.d (.int .i64 x.t)):=rfl
theorem QW(x:dn):ag true 2 3 (jt x)=some (.d (iB (x.ls,x.lc))):=rfl
theorem QX(x:dn):ag true 2 5 (jt x)=some (.d (iB (x.hs,x.hc))):=rfl
theorem Tk(a0 a1 a2 a3 a4 a5 a6:SV)(x:dn):setAt [a0,a1,a2,a3,a4,a5,a6] 0 (jt x)=jt x:=rfl
theorem QY(l:Int×BitVec 64):aA (.d (iB l))=some (mN l):=rfl
theorem Tl(l:Int×BitVec 64):(mN l).length =2:=rfl
theorem RW(l:Int×BitVec 64):ag true 2 0 (mN l)=some (.d (iB l)):=rfl
theorem QZ(l:Int×BitVec 64):ag false 1 0 (mN l)=some (.d (.int .i64 l.1)):=rfl
theorem Q0(l:Int×BitVec 64):ag false 1 1 (mN l)=some (.d (dW l.2)):=rfl
theorem Tm(a0 a1:SV)(l:Int×BitVec 64):setAt [a0,a1] 0 (mN l)=mN l:=rfl
def xd(x:dn):D:=.agg [.int .i64 x.ls,dW x.lc,.int .i64 x.hs,dW x.hc]
theorem Q1(x:dn):p8 true 4 3 (.d (nZ x))=some (.d (xd x)):=rfl
theorem RX(x:dn):p8 true 2 0 (.d (xd x))=some (.d (iB (x.ls,x.lc))):=rfl
theorem RY(x:dn):p8 true 2 2 (.d (xd x))=some (.d (iB (x.hs,x.hc))):=rfl
def xC(a b:Int×BitVec 64):Bool:=a.1==b.1&&(a.2==b.2&&true)
theorem Tn(a b:Int×BitVec 64):ah (some (true,[.int,.int])) .eql (.d (iB a)) (.d (iB b))=some (.d (.bool (xC a b))):=by
 simp only[ah,eE,iB,cX,dW,Bool.and_self,cond_true,eC,kg,↓reduceIte,wI,xC]
theorem To(a b:Int×BitVec 64):ah (some (true,[.int,.int])) .neq (.d (iB a)) (.d (iB b))=some (.d (.bool (!xC a b))):=by
 simp only[ah,eE,iB,cX,dW,Bool.and_self,cond_true,eC,kg,↓reduceIte,wI,xC]
end Go.Proofs.Ytaknajjmldngiaa.Ab
namespace Go.Proofs.Ytaknajjmldngiaa.Ab
open Go
end Go.Proofs.Ytaknajjmldngiaa.Ab
namespace Go.Proofs.Ytaknajjmldngiaa.Ab
open Go
end Go.Proofs.Ytaknajjmldngiaa.Ab
namespace Go.Proofs.Ytaknajjmldngiaa.Ab
open Go
theorem sS:((((((∀(x:D),aa (SV.d x)=SV.d x)∧((∀(x:D)(o:Nat),aa (SV.aE x o)=SV.aE x o)∧(∀{α:Type}(x:α)(k:α→Prop),ab (some x) k=k x)))∧((∀(x:D),SV.au (SV.d x)=true)∧((∀(b:Bool)(A B:Prop),ao (SV.d (D.bool b)) A B↔(b=true→A)∧(b=false→B))∧(∀(A B:Prop),ao (SV.d (D.bool true)) A B=A))))∧(((∀(A B:Prop),ao (SV.d (D.bool false)) A B=B)∧((∀(k:IntKind)(m n:Int),ah (some (false,[CK.int])) BinOp.eql (SV.d (D.int k m)) (SV.d (D.int k n))=some (SV.d (D.bool (m==n))))∧(∀(k:IntKind)(m n:Int),ah (some (false,[CK.int])) BinOp.neq (SV.d (D.int k m)) (SV.d (D.int k n))=some (SV.d (D.bool (m != n))))))∧(((∀(k:IntKind)(m n:Int),ah none BinOp.lss (SV.d (D.int k m)) (SV.d (D.int k n))=some (SV.d (D.bool (decide (m<n)))))∧(∀(k:IntKind)(m n:Int),ah none BinOp.leq (SV.d (D.int k m)) (SV.d (D.int k n))=some (SV.d (D.bool (decide (m≤n))))))∧((∀(k:IntKind)(m n:Int),ah none BinOp.gtr (SV.d (D.int k m)) (SV.d (D.int k n))=some (SV.d (D.bool (decide (m>n)))))∧(∀(k:IntKind)(m n:Int),ah none BinOp.geq (SV.d (D.int k m)) (SV.d (D.int k n))=some (SV.d (D.bool (decide (m≥n)))))))))∧((((∀(b:Bool),cw UnOp.not (SV.d (D.bool b))=some (SV.d (D.bool !b)))∧((∀(a b:Bool),ah (some (false,[CK.bool])) BinOp.eql (SV.d (D.bool a)) (SV.d (D.bool b))=some (SV.d (D.bool (a==b))))∧(∀(a b:Bool),ah (some (false,[CK.bool])) BinOp.neq (SV.d (D.bool a)) (SV.d (D.bool b))=some (SV.d (D.bool (a != b))))))∧(((∀(w v:Nat→BitVec 64),ah (some (true,[CK.int,CK.int,CK.int,CK.int])) BinOp.eql (SV.d (qv w)) (SV.d (qv v))=some (SV.d (D.bool (Cn w v))))∧(∀(w v:Nat→BitVec 64),ah (some (true,[CK.int,CK.int,CK.int,CK.int])) BinOp.neq (SV.d (qv w)) (SV.d (qv v))=some (SV.d (D.bool !Cn w v))))∧((∀(op a rel b:Int)(nm:D)(w:Nat→BitVec 64)(kd:D),aA (SV.d (D.agg (pG op a rel b nm w kd)))=some (iG op a rel b nm w kd))∧(∀(op a rel b:Int)(nm:D)(w:Nat→BitVec 64)(kd:D),List.length (iG op a rel b nm w kd)=10))))∧(((∀(op a rel b:Int)(nm:D)(w:Nat→BitVec 64)(kd:D),ag true 10 0 (iG op a rel b nm w kd)=some (SV.d (D.agg (pG op a rel b nm w kd))))∧((∀(op a rel b:Int)(nm:D)(w:Nat→BitVec 64)(kd:D),ag false 1 0 (iG op a rel b nm w kd)=some (SV.d (D.int IntKind.i64 op)))∧(∀(op a rel b:Int)(nm:D)(w:Nat→BitVec 64)(kd:D),ag false 1 1 (iG op a rel b nm w kd)=some (SV.d (D.int IntKind.i64 a)))))∧(((∀(op a rel b:Int)(nm:D)(w:Nat→BitVec 64)(kd:D),ag false 1 2 (iG op a rel b nm w kd)=some (SV.d (D.int IntKind.i64 rel)))∧(∀(op a rel b:Int)(nm:D)(w:Nat→BitVec 64)(kd:D),ag false 1 3 (iG op a rel b nm w kd)=some (SV.d (D.int IntKind.i64 b))))∧((∀(op a rel b:Int)(nm:D)(w:Nat→BitVec 64)(kd:D),ag false 1 4 (iG op a rel b nm w kd)=some (SV.d nm))∧(∀(op a rel b:Int)(nm:D)(w:Nat→BitVec 64)(kd:D),ag true 4 5 (iG op a rel b nm w kd)=some (SV.d (qv w))))))))∧(((((∀(op a rel b:Int)(nm:D)(w:Nat→BitVec 64)(kd:D),ag false 1 9 (iG op a rel b nm w kd)=some (SV.d kd))∧((aW []=some [])∧(∀(x:km),aA (SV.d (BH x))=some (nR x))))∧(((∀(x:km),List.length (nR x)=21)∧(∀(x:km),ag true 21 0 (nR x)=some (SV.d (BH x))))∧((∀(x:km),ag true 7 0 (nR x)=some (SV.d (nZ (km.f x))))∧(∀(x:km),ag true 7 7 (nR x)=some (SV.d (nZ (km.s x)))))))∧(((∀(x:km),ag true 7 14 (nR x)=some (SV.d (nZ (km.t x))))∧((∀(x:dn),aA (SV.d (nZ x))=some (jt x))∧(∀(x:dn),List.length (jt x)=7)))∧(((∀(x:dn),ag true 7 0 (jt x)=some (SV.d (nZ x)))∧(∀(x:dn),ag false 1 0 (jt x)=some (SV.d (D.int IntKind.i64 (dn.u x)))))∧((∀(x:dn),ag false 1 1 (jt x)=some (SV.d (D.int IntKind.i64 (dn.r x))))∧(∀(x:dn),ag false 1 2 (jt x)=some (SV.d (D.int IntKind.i64 (dn.t x))))))))∧((((∀(x:dn),ag true 2 3 (jt x)=some (SV.d (iB (dn.ls x,dn.lc x))))∧((∀(x:dn),ag true 2 5 (jt x)=some (SV.d (iB (dn.hs x,dn.hc x))))∧(∀(a0 a1 a2 a3 a4 a5 a6:SV)(x:dn),setAt [a0,a1,a2,a3,a4,a5,a6] 0 (jt x)=jt x)))∧(((∀(l:Int×BitVec 64),aA (SV.d (iB l))=some (mN l))∧(∀(l:Int×BitVec 64),List.length (mN l)=2))∧((∀(l:Int×BitVec 64),ag true 2 0 (mN l)=some (SV.d (iB l)))∧(∀(l:Int×BitVec 64),ag false 1 0 (mN l)=some (SV.d (D.int IntKind.i64 (Prod.fst l)))))))∧(((∀(l:Int×BitVec 64),ag false 1 1 (mN l)=some (SV.d (dW (Prod.snd l))))∧((∀(a0 a1:SV)(l:Int×BitVec 64),setAt [a0,a1] 0 (mN l)=mN l)∧(∀(x:dn),p8 true 4 3 (SV.d (nZ x))=some (SV.d (xd x)))))∧(((∀(x:dn),p8 true 2 0 (SV.d (xd x))=some (SV.d (iB (dn.ls x,dn.lc x))))∧(∀(x:dn),p8 true 2 2 (SV.d (xd x))=some (SV.d (iB (dn.hs x,dn.hc x)))))∧((∀(a b:Int×BitVec 64),ah (some (true,[CK.int,CK.int])) BinOp.eql (SV.d (iB a)) (SV.d (iB b))=some (SV.d (D.bool (xC a b))))∧(∀(a b:Int×BitVec 64),ah (some (true,[CK.int,CK.int])) BinOp.neq (SV.d (iB a)) (SV.d (iB b))=some (SV.d (D.bool !xC a b))))))))):=⟨⟨⟨⟨⟨@RI,⟨@KR,@Pr⟩⟩,⟨@S8,⟨@S7,@RH⟩⟩⟩,⟨⟨@QP,⟨@fa,@p6⟩⟩,⟨⟨@Tf,@Td⟩,⟨@Te,@Tg⟩⟩⟩⟩,⟨⟨⟨@kP,⟨@Kc,@RM⟩⟩,⟨⟨@Tb,@Tc⟩,⟨@Kd,@Ti⟩⟩⟩,⟨⟨@P9,⟨@RN,@RO⟩⟩,⟨⟨@RP,@RQ⟩,⟨@RR,@RS⟩⟩⟩⟩⟩,⟨⟨⟨⟨@RT,⟨@QQ,@Qa⟩⟩,⟨⟨@RU,@QR⟩,⟨@Qb,@Qc⟩⟩⟩,⟨⟨@Ps,⟨@QS,@Tj⟩⟩,⟨⟨@RV,@QT⟩,⟨@QU,@QV⟩⟩⟩⟩,⟨⟨⟨@QW,⟨@QX,@Tk⟩⟩,⟨⟨@QY,@Tl⟩,⟨@RW,@QZ⟩⟩⟩,⟨⟨@Q0,⟨@Tm,@Q1⟩⟩,⟨⟨@RX,@RY⟩,⟨@Tn,@To⟩⟩⟩⟩⟩⟩
end Go.Proofs.Ytaknajjmldngiaa.Ab
namespace Go.Proofs.Ytaknajjmldngiaa.Ab
open Go
def dU(x:BitVec 32):D:=.int .u32 (x.toNat:Int)
structure xD where
 e:Xp
 nm:D
 kd:D
 h:jy e (.agg (pG e.op e.a e.rel e.b nm e.w kd))
def xD.enc(t:xD):D:=.agg (pG t.e.op t.e.a t.e.rel t.e.b t.nm t.e.w t.kd)
theorem xD.is(t:xD):jy t.e t.enc:=t.h
structure lU where
 name:List UInt8
 perms:List (List UInt8)
 EC:D
 ZM:bK 1 (bP perms) EC
 ZN:perms.length≤maxLen
def lU.enc(t:lU):D:=.agg [.str t.name,t.EC]
def lU.cells(t:lU):List SV:=[.d (.str t.name),.d (t.EC)]
theorem lU.c(t:lU):aA (.d t.enc)=some t.cells:=rfl
theorem lU.n(t:lU):t.cells.length=2:=rfl
theorem lU.a(t:lU):ag true 2 0 t.cells=some (.d t.enc):=rfl
theorem lU.st(t:lU)(a0 a1:SV):setAt [a0,a1] 0 t.cells=t.cells:=by
 unfold lU.cells
 simp only[setAt,List.set_cons_zero,List.set_cons_succ]
structure lV where
 name:List UInt8
 iH:List (List UInt8)
 Fp:D
 ZS:bK 1 (bP iH) Fp
 ZT:iH.length≤maxLen
 pm:Bool
def lV.enc(t:lV):D:=.agg [.str t.name,t.Fp,.bool t.pm]
def lV.cells(t:lV):List SV:=[.d (.str t.name),.d (t.Fp),.d (.bool t.pm)]
theorem lV.c(t:lV):aA (.d t.enc)=some t.cells:=rfl
theorem lV.n(t:lV):t.cells.length=3:=rfl
theorem lV.a(t:lV):ag true 3 0 t.cells=some (.d t.enc):=rfl
theorem lV.st(t:lV)(a0 a1 a2:SV):setAt [a0,a1,a2] 0 t.cells=t.cells:=by
 unfold lV.cells
 simp only[setAt,List.set_cons_zero,List.set_cons_succ]
structure lW where
 name:List UInt8
 w:Nat→BitVec 64
def lW.enc(t:lW):D:=.agg [.str t.name,dW (t.w 0),dW (t.w 1),dW (t.w 2),dW (t.w 3)]
def lW.cells(t:lW):List SV:=[.d (.str t.name),.d (dW (t.w 0)),.d (dW (t.w 1)),.d (dW (t.w 2)),.d (dW (t.w 3))]
theorem lW.c(t:lW):aA (.d t.enc)=some t.cells:=rfl
theorem lW.n(t:lW):t.cells.length=5:=rfl
theorem lW.a(t:lW):ag true 5 0 t.cells=some (.d t.enc):=rfl
theorem lW.st(t:lW)(a0 a1 a2 a3 a4:SV):setAt [a0,a1,a2,a3,a4] 0 t.cells=t.cells:=by
 unfold lW.cells
 simp only[setAt,List.set_cons_zero,List.set_cons_succ]
structure lX where
 name:List UInt8
 tw:Nat→BitVec 64
 nw:Nat→BitVec 64
def lX.enc(t:lX):D:=.agg [.str t.name,dW (t.tw 0),dW (t.tw 1),dW (t.tw 2),dW (t.tw 3),dW (t.nw 0),dW (t.nw 1),dW (t.nw 2),dW (t.nw 3)]
def lX.cells(t:lX):List SV:=[.d (.str t.name),.d (dW (t.tw 0)),.d (dW (t.tw 1)),.d (dW (t.tw 2)),.d (dW (t.tw 3)),.d (dW (t.nw 0)),.d (dW (t.nw 1)),.d (dW (t.nw 2)),.d (dW (t.nw 3))]
theorem lX.c(t:lX):aA (.d t.enc)=some t.cells:=rfl
theorem lX.n(t:lX):t.cells.length=9:=rfl
theorem lX.a(t:lX):ag true 9 0 t.cells=some (.d t.enc):=rfl
theorem lX.st(t:lX)(a0 a1 a2 a3 a4 a5 a6 a7 a8:SV):setAt [a0,a1,a2,a3,a4,a5,a6,a7,a8] 0 t.cells=t.cells:=by
 unfold lX.cells
 simp only[setAt,List.set_cons_zero,List.set_cons_succ]
structure lY where
 name:List UInt8
 rw:Nat→BitVec 64
 df:Int×BitVec 64
 rg:(Int×BitVec 64)×(Int×BitVec 64)
def lY.enc(t:lY):D:=.agg [.str t.name,dW (t.rw 0),dW (t.rw 1),dW (t.rw 2),dW (t.rw 3),.int .i64 t.df.1,dW t.df.2,.int .i64 t.rg.1.1,dW t.rg.1.2,.int .i64 t.rg.2.1,dW t.rg.2.2]
def lY.cells(t:lY):List SV:=[.d (.str t.name),.d (dW (t.rw 0)),.d (dW (t.rw 1)),.d (dW (t.rw 2)),.d (dW (t.rw 3)),.d (.int .i64 t.df.1),.d (dW t.df.2),.d (.int .i64 t.rg.1.1),.d (dW t.rg.1.2),.d (.int .i64 t.rg.2.1),.d (dW t.rg.2.2)]
theorem lY.c(t:lY):aA (.d t.enc)=some t.cells:=rfl
theorem lY.n(t:lY):t.cells.length=11:=rfl
theorem lY.a(t:lY):ag true 11 0 t.cells=some (.d t.enc):=rfl
theorem lY.st(t:lY)(a0 a1 a2 a3 a4 a5 a6 a7 a8 a9 su:SV):setAt [a0,a1,a2,a3,a4,a5,a6,a7,a8,a9,su] 0 t.cells=t.cells:=by
 unfold lY.cells
 simp only[setAt,List.set_cons_zero,List.set_cons_succ]
structure lZ where
 name:List UInt8
 v:Bool
def lZ.enc(t:lZ):D:=.agg [.str t.name,.bool t.v]
def lZ.cells(t:lZ):List SV:=[.d (.str t.name),.d (.bool t.v)]
theorem lZ.c(t:lZ):aA (.d t.enc)=some t.cells:=rfl
theorem lZ.n(t:lZ):t.cells.length=2:=rfl
theorem lZ.a(t:lZ):ag true 2 0 t.cells=some (.d t.enc):=rfl
theorem lZ.st(t:lZ)(a0 a1:SV):setAt [a0,a1] 0 t.cells=t.cells:=by
 unfold lZ.cells
 simp only[setAt,List.set_cons_zero,List.set_cons_succ]
structure l6 where
 kind:Int
 sw:Nat→BitVec 64
 tw:Nat→BitVec 64
 self:Bool
 cls:Int
 perms:BitVec 32
 cond:Int
def l6.enc(t:l6):D:=.agg [.int .i64 t.kind,dW (t.sw 0),dW (t.sw 1),dW (t.sw 2),dW (t.sw 3),dW (t.tw 0),dW (t.tw 1),dW (t.tw 2),dW (t.tw 3),.bool t.self,.int .i64 t.cls,dU t.perms,.int .i64 t.cond]
def l6.cells(t:l6):List SV:=[.d (.int .i64 t.kind),.d (dW (t.sw 0)),.d (dW (t.sw 1)),.d (dW (t.sw 2)),.d (dW (t.sw 3)),.d (dW (t.tw 0)),.d (dW (t.tw 1)),.d (dW (t.tw 2)),.d (dW (t.tw 3)),.d (.bool t.self),.d (.int .i64 t.cls),.d (dU t.perms),.d (.int .i64 t.cond)]
theorem l6.c(t:l6):aA (.d t.enc)=some t.cells:=rfl
theorem l6.n(t:l6):t.cells.length=13:=rfl
theorem l6.a(t:l6):ag true 13 0 t.cells=some (.d t.enc):=rfl
theorem l6.st(t:l6)(a0 a1 a2 a3 a4 a5 a6 a7 a8 a9 su vD vE:SV):setAt [a0,a1,a2,a3,a4,a5,a6,a7,a8,a9,su,vD,vE] 0 t.cells=t.cells:=by
 unfold l6.cells
 simp only[setAt,List.set_cons_zero,List.set_cons_succ]
structure l9 where
 kind:Int
 sw:Nat→BitVec 64
 tw:Nat→BitVec 64
 cls:Int
 name:List UInt8
 res:Int
 cond:Int
def l9.enc(t:l9):D:=.agg [.int .i64 t.kind,dW (t.sw 0),dW (t.sw 1),dW (t.sw 2),dW (t.sw 3),dW (t.tw 0),dW (t.tw 1),dW (t.tw 2),dW (t.tw 3),.int .i64 t.cls,.str t.name,.int .i64 t.res,.int .i64 t.cond]
def l9.cells(t:l9):List SV:=[.d (.int .i64 t.kind),.d (dW (t.sw 0)),.d (dW (t.sw 1)),.d (dW (t.sw 2)),.d (dW (t.sw 3)),.d (dW (t.tw 0)),.d (dW (t.tw 1)),.d (dW (t.tw 2)),.d (dW (t.tw 3)),.d (.int .i64 t.cls),.d (.str t.name),.d (.int .i64 t.res),.d (.int .i64 t.cond)]
theorem l9.c(t:l9):aA (.d t.enc)=some t.cells:=rfl
theorem l9.n(t:l9):t.cells.length=13:=rfl
theorem l9.a(t:l9):ag true 13 0 t.cells=some (.d t.enc):=rfl
theorem l9.st(t:l9)(a0 a1 a2 a3 a4 a5 a6 a7 a8 a9 su vD vE:SV):setAt [a0,a1,a2,a3,a4,a5,a6,a7,a8,a9,su,vD,vE] 0 t.cells=t.cells:=by
 unfold l9.cells
 simp only[setAt,List.set_cons_zero,List.set_cons_succ]
structure ma where
 rw:Nat→BitVec 64
 tw:Nat→BitVec 64
 cls:Int
 res:Int
def ma.enc(t:ma):D:=.agg [dW (t.rw 0),dW (t.rw 1),dW (t.rw 2),dW (t.rw 3),dW (t.tw 0),dW (t.tw 1),dW (t.tw 2),dW (t.tw 3),.int .i64 t.cls,.int .i64 t.res]
def ma.cells(t:ma):List SV:=[.d (dW (t.rw 0)),.d (dW (t.rw 1)),.d (dW (t.rw 2)),.d (dW (t.rw 3)),.d (dW (t.tw 0)),.d (dW (t.tw 1)),.d (dW (t.tw 2)),.d (dW (t.tw 3)),.d (.int .i64 t.cls),.d (.int .i64 t.res)]
theorem ma.c(t:ma):aA (.d t.enc)=some t.cells:=rfl
theorem ma.n(t:ma):t.cells.length=10:=rfl
theorem ma.a(t:ma):ag true 10 0 t.cells=some (.d t.enc):=rfl
theorem ma.st(t:ma)(a0 a1 a2 a3 a4 a5 a6 a7 a8 a9:SV):setAt [a0,a1,a2,a3,a4,a5,a6,a7,a8,a9] 0 t.cells=t.cells:=by
 unfold ma.cells
 simp only[setAt,List.set_cons_zero,List.set_cons_succ]
structure mb where
 sw:Nat→BitVec 64
 tw:Nat→BitVec 64
 cls:Int
 rg:(Int×BitVec 64)×(Int×BitVec 64)
def mb.enc(t:mb):D:=.agg [dW (t.sw 0),dW (t.sw 1),dW (t.sw 2),dW (t.sw 3),dW (t.tw 0),dW (t.tw 1),dW (t.tw 2),dW (t.tw 3),.int .i64 t.cls,.int .i64 t.rg.1.1,dW t.rg.1.2,.int .i64 t.rg.2.1,dW t.rg.2.2]
def mb.cells(t:mb):List SV:=[.d (dW (t.sw 0)),.d (dW (t.sw 1)),.d (dW (t.sw 2)),.d (dW (t.sw 3)),.d (dW (t.tw 0)),.d (dW (t.tw 1)),.d (dW (t.tw 2)),.d (dW (t.tw 3)),.d (.int .i64 t.cls),.d (.int .i64 t.rg.1.1),.d (dW t.rg.1.2),.d (.int .i64 t.rg.2.1),.d (dW t.rg.2.2)]
theorem mb.c(t:mb):aA (.d t.enc)=some t.cells:=rfl
theorem mb.n(t:mb):t.cells.length=13:=rfl
theorem mb.a(t:mb):ag true 13 0 t.cells=some (.d t.enc):=rfl
theorem mb.st(t:mb)(a0 a1 a2 a3 a4 a5 a6 a7 a8 a9 su vD vE:SV):setAt [a0,a1,a2,a3,a4,a5,a6,a7,a8,a9,su,vD,vE] 0 t.cells=t.cells:=by
 unfold mb.cells
 simp only[setAt,List.set_cons_zero,List.set_cons_succ]
structure mc where
 cls:Int
 perms:BitVec 32
 val:Bool
 e:Xp
 nm:D
 kd:D
 h:jy e (.agg (pG e.op e.a e.rel e.b nm e.w kd))
def mc.enc(t:mc):D:=.agg [.int .i64 t.cls,dU t.perms,.bool t.val,.int .i64 t.e.op,.int .i64 t.e.a,.int .i64 t.e.rel,.int .i64 t.e.b,t.nm,dW (t.e.w 0),dW (t.e.w 1),dW (t.e.w 2),dW (t.e.w 3),t.kd]
def mc.cells(t:mc):List SV:=[.d (.int .i64 t.cls),.d (dU t.perms),.d (.bool t.val),.d (.int .i64 t.e.op),.d (.int .i64 t.e.a),.d (.int .i64 t.e.rel),.d (.int .i64 t.e.b),.d (t.nm),.d (dW (t.e.w 0)),.d (dW (t.e.w 1)),.d (dW (t.e.w 2)),.d (dW (t.e.w 3)),.d (t.kd)]
theorem mc.c(t:mc):aA (.d t.enc)=some t.cells:=rfl
theorem mc.n(t:mc):t.cells.length=13:=rfl
theorem mc.a(t:mc):ag true 13 0 t.cells=some (.d t.enc):=rfl
theorem mc.st(t:mc)(a0 a1 a2 a3 a4 a5 a6 a7 a8 a9 su vD vE:SV):setAt [a0,a1,a2,a3,a4,a5,a6,a7,a8,a9,su,vD,vE] 0 t.cells=t.cells:=by
 unfold mc.cells
 simp only[setAt,List.set_cons_zero,List.set_cons_succ]
structure me where
 name:List UInt8
 ctx:dn
def me.enc(t:me):D:=.agg [.str t.name,.int .i64 t.ctx.u,.int .i64 t.ctx.r,.int .i64 t.ctx.t,.int .i64 t.ctx.ls,dW t.ctx.lc,.int .i64 t.ctx.hs,dW t.ctx.hc]
def me.cells(t:me):List SV:=[.d (.str t.name),.d (.int .i64 t.ctx.u),.d (.int .i64 t.ctx.r),.d (.int .i64 t.ctx.t),.d (.int .i64 t.ctx.ls),.d (dW t.ctx.lc),.d (.int .i64 t.ctx.hs),.d (dW t.ctx.hc)]
theorem me.c(t:me):aA (.d t.enc)=some t.cells:=rfl
theorem me.n(t:me):t.cells.length=8:=rfl
theorem me.a(t:me):ag true 8 0 t.cells=some (.d t.enc):=rfl
theorem me.st(t:me)(a0 a1 a2 a3 a4 a5 a6 a7:SV):setAt [a0,a1,a2,a3,a4,a5,a6,a7] 0 t.cells=t.cells:=by
 unfold me.cells
 simp only[setAt,List.set_cons_zero,List.set_cons_succ]
structure mf where
 pat:List UInt8
 kind:Int
 ctx:dn
def mf.enc(t:mf):D:=.agg [.str t.pat,.int .i64 t.kind,.int .i64 t.ctx.u,.int .i64 t.ctx.r,.int .i64 t.ctx.t,.int .i64 t.ctx.ls,dW t.ctx.lc,.int .i64 t.ctx.hs,dW t.ctx.hc]
def mf.cells(t:mf):List SV:=[.d (.str t.pat),.d (.int .i64 t.kind),.d (.int .i64 t.ctx.u),.d (.int .i64 t.ctx.r),.d (.int .i64 t.ctx.t),.d (.int .i64 t.ctx.ls),.d (dW t.ctx.lc),.d (.int .i64 t.ctx.hs),.d (dW t.ctx.hc)]
theorem mf.c(t:mf):aA (.d t.enc)=some t.cells:=rfl
theorem mf.n(t:mf):t.cells.length=9:=rfl
theorem mf.a(t:mf):ag true 9 0 t.cells=some (.d t.enc):=rfl
theorem mf.st(t:mf)(a0 a1 a2 a3 a4 a5 a6 a7 a8:SV):setAt [a0,a1,a2,a3,a4,a5,a6,a7,a8] 0 t.cells=t.cells:=by
 unfold mf.cells
 simp only[setAt,List.set_cons_zero,List.set_cons_succ]
structure mg where
 name:List UInt8
 kind:Int
 sw:Nat→BitVec 64
 tw:Nat→BitVec 64
def mg.enc(t:mg):D:=.agg [.str t.name,.int .i64 t.kind,dW (t.sw 0),dW (t.sw 1),dW (t.sw 2),dW (t.sw 3),dW (t.tw 0),dW (t.tw 1),dW (t.tw 2),dW (t.tw 3)]
def mg.cells(t:mg):List SV:=[.d (.str t.name),.d (.int .i64 t.kind),.d (dW (t.sw 0)),.d (dW (t.sw 1)),.d (dW (t.sw 2)),.d (dW (t.sw 3)),.d (dW (t.tw 0)),.d (dW (t.tw 1)),.d (dW (t.tw 2)),.d (dW (t.tw 3))]
theorem mg.c(t:mg):aA (.d t.enc)=some t.cells:=rfl
theorem mg.n(t:mg):t.cells.length=10:=rfl
theorem mg.a(t:mg):ag true 10 0 t.cells=some (.d t.enc):=rfl
theorem mg.st(t:mg)(a0 a1 a2 a3 a4 a5 a6 a7 a8 a9:SV):setAt [a0,a1,a2,a3,a4,a5,a6,a7,a8,a9] 0 t.cells=t.cells:=by
 unfold mg.cells
 simp only[setAt,List.set_cons_zero,List.set_cons_succ]
structure tF where
 cl:List lU
 GR:D
 clH:bK 2 (List.map lU.enc cl) GR
 clM:cl.length≤maxLen
 ty:List lV
 GS:D
 tyH:bK 3 (List.map lV.enc ty) GS
 tyM:ty.length≤maxLen
 at_:List lW
 Fq:D
 ZU:bK 5 (List.map lW.enc at_) Fq
 ZV:at_.length≤maxLen
 ro:List lX
 GU:D
 roH:bK 9 (List.map lX.enc ro) GU
 roM:ro.length≤maxLen
 us:List lY
 GV:D
 usH:bK 11 (List.map lY.enc us) GV
 usM:us.length≤maxLen
 bo:List lZ
 GW:D
 boH:bK 2 (List.map lZ.enc bo) GW
 boM:bo.length≤maxLen
 se:List (List UInt8)
 GX:D
 seH:bK 1 (bP se) GX
 seM:se.length≤maxLen
 ca:List (List UInt8)
 GY:D
 caH:bK 1 (bP ca) GY
 caM:ca.length≤maxLen
 co:List xD
 GZ:D
 coH:bK 10 (List.map xD.enc co) GZ
 coM:co.length≤maxLen
 ru:List l6
 G0:D
 ruH:bK 13 (List.map l6.enc ru) G0
 ruM:ru.length≤maxLen
 tr:List l9
 G1:D
 trH:bK 13 (List.map l9.enc tr) G1
 trM:tr.length≤maxLen
 rt:List ma
 G2:D
 rtH:bK 10 (List.map ma.enc rt) G2
 rtM:rt.length≤maxLen
 ra:List mb
 G3:D
 raH:bK 13 (List.map mb.enc ra) G3
 raM:ra.length≤maxLen
 cs:List mc
 G4:D
 csH:bK 13 (List.map mc.enc cs) G4
 csM:cs.length≤maxLen
 si:List me
 G5:D
 siH:bK 8 (List.map me.enc si) G5
 siM:si.length≤maxLen
 fi:List mf
 G6:D
 fiH:bK 9 (List.map mf.enc fi) G6
 fiM:fi.length≤maxLen
 Ny:List mg
 Fs:D
 ZW:bK 10 (List.map mg.enc Ny) Fs
 ZX:Ny.length≤maxLen
def Mp(p:tF):D:=.agg [p.GR,p.GS,p.Fq,p.GU,p.GV,p.GW,p.GX,p.GY,p.GZ,p.G0,p.G1,p.G2,p.G3,p.G4,p.G5,p.G6,p.Fs]
def Ft(p:tF):List SV:=[.d p.GR,.d p.GS,.d p.Fq,.d p.GU,.d p.GV,.d p.GW,.d p.GX,.d p.GY,.d p.GZ,.d p.G0,.d p.G1,.d p.G2,.d p.G3,.d p.G4,.d p.G5,.d p.G6,.d p.Fs]
theorem tF.c(p:tF):aA (.d (Mp p))=some (Ft p):=rfl
theorem tF.n(p:tF):(Ft p).length =17:=rfl
theorem tF.a(p:tF):ag true 17 0 (Ft p)=some (.d (Mp p)):=rfl
end Go.Proofs.Ytaknajjmldngiaa.Ab
namespace Go.Proofs.Ytaknajjmldngiaa.Ab
open Go
section
variable{P:Program}{gl:Nat→Option D}{h:Hints}{f:FuncId}{args:List SV}
end
theorem DW{α:Type}{F:List SV→List (List SV)→(List SV→List (List SV)→Prop)→Prop}(J:Nat→α→Prop)(st:Nat→α→List SV)(sb:Nat→α→List (List SV))(n:Nat)(a0:α)(h0:J 0 a0)
  (rB:∀i a,i<n→J i a→∀I:List SV→List (List SV)→Prop,(∀a',J (i+1) a'→I (st (i+1) a') (sb (i+1) a'))→F (st i a) (sb i a) I)(j5:∀a,J n a→∀I,F (st n a) (sb n a) I):cm F (st 0 a0) (sb 0 a0):=by
 intro I hI
 have key:∀k,k≤n→∀a,J (n-k) a→I (st (n-k) a) (sb (n-k) a):=by
  intro k
  induction k with
  |zero=>intro _ a hj;exact hI _ _ (j5 a hj I)
  |succ k ih=>
   intro hk a hj
   refine hI _ _ (rB (n-(k+1)) a (by omega) hj I fun a' jM=>?_)
   rw[show n-(k+1)+1=n-k by omega]at jM ⊢
   exact ih (by omega) a' jM
 have:=key n (Nat.le_refl _)
 simp only[Nat.sub_self]at this
 exact this a0 h0
def aO(sz:Nat)(L:List D):SV:=match L with
 |[]=>.d (.sl .nil 0 [])
 |L=>.own sz L
theorem jW(sz:Nat)(L:List D):rq (aO sz L)=false:=by cases L<;>rfl
theorem nI(sz:Nat)(L:List D):(aO sz L).au =true:=by cases L<;>rfl
theorem Qd(sz:Nat)(L:List D):aA (aO sz L)=some [aO sz L]:=by cases L<;>rfl
def cq(sz:Nat)(L:List D):D:=match L with
 |[]=>.sl .nil 0 []
 |L=>.sl .ro sz L
theorem fF(sz:Nat)(L:List D):aa (aO sz L)=.d (cq sz L):=by cases L<;>rfl
theorem cn(sz:Nat)(L:List D):bK sz L (cq sz L):=by cases L with
 |nil=>exact .nil 0 rfl
 |cons a L=>exact .ro
theorem iv{sz bZ:Nat}{L M:List D}{x:SV}{k:SV→Prop}(hx:elems sz x=some M)(hb:(L.length+M.length)*bZ≤140737488355328)(hk:k (aO sz (L++M))):bW sz bZ (aO sz L) x k:=by
 unfold bW
 cases L with
 |nil=>
  have:kU sz (aO sz []) x=some (aO sz M,M.length):=by
   simp only[aO,kU,hx]
   cases M with
   |nil=>rfl
   |cons a M=>rfl
  rw[this]
  exact⟨by simpa using hb,hk⟩
 |cons a L=>
  have:kU sz (aO sz (a::L)) x=some (aO sz (a::L++M),(a::L).length +M.length):=by
   simp only[aO,kU,hx,↓reduceIte,List.cons_append]
  rw[this]
  exact⟨hb,hk⟩
def iC(sz:Nat)(L M:List D):SV:=if M=[]then .full sz L else .own sz (L++M)
theorem Ke{sz bZ:Nat}{L M:List D}{x:SV}{k:SV→Prop}(hx:elems sz x=some M)(hb:(L.length+M.length)*bZ≤140737488355328)(hk:k (iC sz L M)):bW sz bZ (.full sz L) x k:=by
 unfold bW
 by_cases hM:M=[]
 ·have:kU sz (.full sz L) x=some (iC sz L M,L.length):=by
   simp only[kU,hx,hM,↓reduceIte,iC]
  rw[this]
  refine⟨?_,hk⟩
  exact Nat.le_trans (Nat.mul_le_mul_right _ (Nat.le_add_right _ _)) hb
 ·have:kU sz (.full sz L) x=some (iC sz L M,L.length+M.length):=by
   simp only[kU,hx,hM,↓reduceIte,iC]
  rw[this]
  exact⟨hb,hk⟩
theorem Tp(sz:Nat)(L M:List D):eN sz (L++M) (aa (iC sz L M)):=by
 unfold iC
 by_cases hM:M=[]
 ·rw[if_pos hM,hM,List.append_nil];exact .full
 ·rw[if_neg hM];exact .ro
theorem gX(sz:Nat)(L:List D):elems sz (.full sz L)=some L:=by simp[elems]
theorem KU{sz:Nat}{L:List D}{x:SV}(h:eN sz L x):Ab.elems sz x=some L:=h.elems.1
theorem DX(s:List UInt8):aW [(0,.v (.d (.str s)))]=some [(0,.str s)]:=rfl
theorem Ln(s:List UInt8):bO 1 1 [(0,.str s)]=true:=rfl
theorem Kf(z:D)(s:List UInt8):bL z [(0,.str s)] 1 0=[.str s]:=rfl
theorem wm(s:List UInt8):w9 (.d (.str s))=some (.d (.int .i64 (s.length:Int))):=rfl
end Go.Proofs.Ytaknajjmldngiaa.Ab
namespace Go.Proofs.Ytaknajjmldngiaa.Ab
open Go
theorem wrap32(n:Int):IntKind.u32.wrap n=n % 2^32:=by simp[IntKind.wrap,IntKind.signed,IntKind.bits]
theorem HQ(x:BitVec 32):BitVec.ofInt 32 (x.toNat:Int)=x:=by
 apply BitVec.eq_of_toNat_eq
 simp
theorem YX(x y:BitVec 32):ah none .or (.d (dU x)) (.d (dU y))=some (.d (dU (x|||y))):=by
 simp only[ah,eE,dU,iP,wrap32,↓reduceIte]
 have h:=Int.emod_eq_of_lt (Int.natCast_nonneg (x|||y).toNat) (b:=2^32) (by have:=(x|||y).isLt;omega)
 have h1:BitVec.ofInt IntKind.u32.bits (x.toNat:Int)=x:=HQ x
 have h2:BitVec.ofInt IntKind.u32.bits (y.toNat:Int)=y:=HQ y
 rw[h1,h2]
 exact congrArg (fun z=>some (SV.d (.int .u32 z))) h
theorem W3(x:BitVec 32)(k:IntKind)(n:Nat):ah none .shr (.d (dU x)) (.d (.int k (n:Int)))=some (.d (dU (x>>>n))):=by
 simp only[ah,eE,dU,yd,IntKind.bits]
 rw[if_neg (by omega)]
 simp only[Int.toNat_natCast]
 have:((x.toNat:Int)).fdiv (2^min n 32)=((x>>>n).toNat :Int):=by
  rw[Int.fdiv_eq_ediv_of_nonneg _ (Int.le_of_lt (Int.pow_pos (by decide))),BitVec.toNat_ushiftRight,Nat.shiftRight_eq_div_pow]
  have e:((2:Int)^min n 32)=((2^min n 32:Nat):Int):=by simp
  rw[e,←Int.natCast_ediv]
  congr 1
  rcases Nat.le_total n 32 with h|h
  ·rw[Nat.min_eq_left h]
  ·rw[Nat.min_eq_right h,Nat.div_eq_of_lt x.isLt,Nat.div_eq_of_lt]
   exact Nat.lt_of_lt_of_le x.isLt (Nat.pow_le_pow_right (by decide) h)
 exact congrArg (fun z=>some (SV.d (.int .u32 z))) this
theorem Lo{x y:BitVec 32}:((x.toNat:Int)==(y.toNat:Int))=(x==y):=by
 rw[Bool.eq_iff_iff,beq_iff_eq,beq_iff_eq,Int.ofNat_inj,BitVec.toNat_inj]
theorem Nz(x y:BitVec 32):ah (some (false,[.int])) .eql (.d (dU x)) (.d (dU y))=some (.d (.bool (x==y))):=by
 simp only[ah,eE,dU,iP,↓reduceIte,Lo]
theorem NA(x y:BitVec 32):ah (some (false,[.int])) .neq (.d (dU x)) (.d (dU y))=some (.d (.bool (x != y))):=by
 simp only[ah,eE,dU,iP,↓reduceIte,bne,Lo]
theorem W5(x:BitVec 32):ah (some (false,[.int])) .eql (.d (dU x)) (.d (.int .u32 0))=some (.d (.bool (x==0))):=Nz x 0
theorem W6(x:BitVec 32):ah (some (false,[.int])) .neq (.d (dU x)) (.d (.int .u32 0))=some (.d (.bool (x != 0))):=NA x 0
theorem W7(x:BitVec 64):ah (some (false,[.int])) .eql (.d (dW x)) (.d (.int .u64 0))=some (.d (.bool (x==0))):=Ka x 0
theorem W8(x:BitVec 64):ah (some (false,[.int])) .neq (.d (dW x)) (.d (.int .u64 0))=some (.d (.bool (x != 0))):=Kb x 0
def j6(s:List UInt8)(l:List (List UInt8)):Bool:=l.any (· ==s)
theorem x6{s:List UInt8}{l:List (List UInt8)}:j6 s l=true↔s∈l:=by
 simp[j6]
theorem Kg{s t:List UInt8}{l:List (List UInt8)}{i:Nat}(h:l[i]? =some t)(he:(t==s)=true):j6 s l=true:=by
 rw[x6]
 have:t=s:=by simpa using he
 subst this
 exact List.mem_of_getElem? h
theorem JB{s:List UInt8}{l:List (List UInt8)}(h:∀(i:Nat)t,l[i]? =some t→(t==s)=false):j6 s l=false:=by
 cases hh:j6 s l with
 |false=>rfl
 |true=>
  obtain⟨i,hi⟩:=List.mem_iff_getElem?.1 (x6.1 hh)
  have:=h i s hi
  simp at this
theorem ez{α:Type}{l:List α}{i:Nat}{x:α}(h:l[i]? =some x):l.take (i+1)=l.take i++[x]:=by
 rw[List.take_add_one,h];rfl
theorem RZ(sz:Nat):SV.d (.sl .nil 0 [])=aO sz []:=rfl
theorem R0{sz bZ:Nat}{L M N:List D}{x:SV}{k:SV→Prop}(hx:elems sz x=some N)(hb:(L.length+M.length+N.length)*bZ≤140737488355328)(hk:k (iC sz L (M++N))):bW sz bZ (iC sz L M) x k:=by
 by_cases hM:M=[]
 ·subst hM
  rw[iC,if_pos rfl]
  exact Ke hx (by simpa using hb) hk
 ·have e:iC sz L M=.own sz (L++M):=by rw[iC,if_neg hM]
  have e':iC sz L (M++N)=.own sz (L++(M++N)):=by rw[iC,if_neg (by simp[hM])]
  rw[e]
  rw[e']at hk
  unfold bW
  have:kU sz (.own sz (L++M)) x=some (.own sz (L++(M++N)),(L++M).length +N.length):=by
   simp only[kU,hx,↓reduceIte,List.append_assoc]
  rw[this]
  exact⟨by rw[List.length_append];exact hb,hk⟩
theorem Q2(sz:Nat)(L:List D):SV.full sz L=iC sz L []:=by rw[iC,if_pos rfl]
end Go.Proofs.Ytaknajjmldngiaa.Ab
namespace Go.Proofs.Ytaknajjmldngiaa.Ab
open Go
end Go.Proofs.Ytaknajjmldngiaa.Ab
namespace Go.Proofs.Ytaknajjmldngiaa.Ab
open Go
theorem sW:(((((∀(x y:BitVec 64),ah none BinOp.and (SV.d (dW x)) (SV.d (dW y))=some (SV.d (dW (x&&& y))))∧(∀(x y:BitVec 64),ah none BinOp.or (SV.d (dW x)) (SV.d (dW y))=some (SV.d (dW (x|||y)))))∧((∀(x y:BitVec 64),ah none BinOp.andNot (SV.d (dW x)) (SV.d (dW y))=some (SV.d (dW (x&&& ~~~y))))∧(∀(x:BitVec 64)(k:IntKind)(n:Nat),ah none BinOp.shr (SV.d (dW x)) (SV.d (D.int k ↑n))=some (SV.d (dW (x>>>n))))))∧(((∀(x y:BitVec 64),ah (some (false,[CK.int])) BinOp.eql (SV.d (dW x)) (SV.d (dW y))=some (SV.d (D.bool (x==y))))∧(∀(x y:BitVec 64),ah (some (false,[CK.int])) BinOp.neq (SV.d (dW x)) (SV.d (dW y))=some (SV.d (D.bool (x != y)))))∧((∀(x:BitVec 64),ah (some (false,[CK.int])) BinOp.eql (SV.d (dW x)) (SV.d (D.int IntKind.u64 0))=some (SV.d (D.bool (x==0))))∧(∀(x:BitVec 64),ah (some (false,[CK.int])) BinOp.neq (SV.d (dW x)) (SV.d (D.int IntKind.u64 0))=some (SV.d (D.bool (x != 0)))))))∧((((∀(x:BitVec 32),ah (some (false,[CK.int])) BinOp.eql (SV.d (dU x)) (SV.d (D.int IntKind.u32 0))=some (SV.d (D.bool (x==0))))∧(∀(x:BitVec 32),ah (some (false,[CK.int])) BinOp.neq (SV.d (dU x)) (SV.d (D.int IntKind.u32 0))=some (SV.d (D.bool (x != 0)))))∧((∀(x y:BitVec 32),ah (some (false,[CK.int])) BinOp.eql (SV.d (dU x)) (SV.d (dU y))=some (SV.d (D.bool (x==y))))∧(∀(x y:BitVec 32),ah (some (false,[CK.int])) BinOp.neq (SV.d (dU x)) (SV.d (dU y))=some (SV.d (D.bool (x != y))))))∧(((∀(x:BitVec 32)(k:IntKind)(n:Nat),ah none BinOp.shr (SV.d (dU x)) (SV.d (D.int k ↑n))=some (SV.d (dU (x>>>n))))∧(∀(x y:BitVec 32),ah none BinOp.or (SV.d (dU x)) (SV.d (dU y))=some (SV.d (dU (x|||y)))))∧((∀(x:D)(o n:Nat),bD (SV.aE x o) n=some (SV.aE x (o+n)))∧((∀(x:D)(o:Nat),aa (SV.aE x o)=SV.aE x o)∧(∀(s:List UInt8),aF false 1 (SV.aE (D.str s) 0)=some (SV.d (D.str s)))))))):=⟨⟨⟨⟨@S9,@T3⟩,⟨@P8,@Ta⟩⟩,⟨⟨@Ka,@Kb⟩,⟨@W7,@W8⟩⟩⟩,⟨⟨⟨@W5,@W6⟩,⟨@Nz,@NA⟩⟩,⟨⟨@W3,@YX⟩,⟨@Th,⟨@KR,@oH⟩⟩⟩⟩⟩
end Go.Proofs.Ytaknajjmldngiaa.Ab
namespace Go.Proofs.Ytaknajjmldngiaa.Ab
open Go
end Go.Proofs.Ytaknajjmldngiaa.Ab
namespace Go.Proofs.Ytaknajjmldngiaa.Ab
open Go
end Go.Proofs.Ytaknajjmldngiaa.Ab
namespace Go.Proofs.Ytaknajjmldngiaa.Ab
open Go
end Go.Proofs.Ytaknajjmldngiaa.Ab
namespace Go.Proofs.Ytaknajjmldngiaa.Ab
open Go
end Go.Proofs.Ytaknajjmldngiaa.Ab
