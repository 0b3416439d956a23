/-
  TYPED VALUES: words, numbers, bools; what the leaves do with them.
-/
import Derived.Test.YtaknajjmldngiaaGreatTc
set_option linter.unusedVariables false
set_option linter.unusedSimpArgs false
namespace Go.Proofs.YtaknajjmldngiaaGreat.Ab
open Go
def dW(x:BitVec 64):D:=.int .u64 (x.toNat:Int)
def dI(n:Int):D:=.int .i64 n
theorem aO{C:aP}{f:FuncId}{args:List SV}{r:D}{k:SV→Prop}(h:C f args (.d r))(hk:k (.d r)):aB C f args k:=⟨.d r,h,rfl,hk⟩
theorem bp{P:Program}{f:FuncId}{fn:Func}(hf:P.funcs[f]? =some fn)(Ie:(fn.name== "runtime.NumGoroutine")=false)(hb:fn.body.isSome=true):gH P f:=by
 obtain⟨c,hc⟩:=Option.isSome_iff_exists.1 hb
 exact V5 hf Ie hc
theorem dj{α:Type}(x:α)(k:α→Prop):ab (some x) k=k x:=rfl
theorem Xk(A B:Prop):ai (.d (.bool true)) A B=A:=rfl
theorem Wc(A B:Prop):ai (.d (.bool false)) A B=B:=rfl
theorem mn(b:Bool)(A B:Prop):ai (.d (.bool b)) A B↔(b=true→A)∧(b=false→B):=by cases b<;>simp[ai]
theorem dk(x:D):aa (.d x)=.d x:=rfl
theorem n9(x:D):SV.aj (.d x)=true:=rfl
theorem de{F:List SV→List (List SV)→(List SV→List (List SV)→Prop)→Prop}(st:Nat→List SV)(sb:Nat→List (List SV))(n:Nat)
  (wL:∀i,i<n→∀I:List SV→List (List SV)→Prop,I (st (i+1)) (sb (i+1))→F (st i) (sb i) I)(mD:∀I,F (st n) (sb n) I):bE F (st 0) (sb 0):=by
 intro I hI
 have key:∀k,k≤n→I (st (n-k)) (sb (n-k)):=by
  intro k
  induction k with
  |zero=>intro _;exact hI _ _ (mD I)
  |succ k ih=>
   intro hk
   have:=wL (n-(k+1)) (by omega) I (by rw[show n-(k+1)+1=n-k by omega];exact ih (by omega))
   exact hI _ _ this
 have:=key n (Nat.le_refl _)
 simpa using this
theorem wrap64(n:Int):IntKind.u64.wrap n=n % 2^64:=by simp[IntKind.wrap,IntKind.signed,IntKind.bits]
theorem yf(x:BitVec 64):BitVec.ofInt 64 (x.toNat:Int)=x:=by
 apply BitVec.eq_of_toNat_eq
 simp
theorem Dx(x y:BitVec 64):ah none .and (.d (dW x)) (.d (dW y))=some (.d (dW (x&&& y))):=by
 simp only[ah,ej,dW,gp,wrap64,↓reduceIte]
 have h:=Int.emod_eq_of_lt (Int.natCast_nonneg (x&&& y).toNat) (b:=2^64) (by have:=(x&&& y).isLt;omega)
 have h1:BitVec.ofInt IntKind.u64.bits (x.toNat:Int)=x:=yf x
 have h2:BitVec.ofInt IntKind.u64.bits (y.toNat:Int)=y:=yf y
 rw[h1,h2]
 exact congrArg (fun z=>some (SV.d (.int .u64 z))) h
theorem OJ(x y:BitVec 64):ah none .or (.d (dW x)) (.d (dW y))=some (.d (dW (x|||y))):=by
 simp only[ah,ej,dW,gp,wrap64,↓reduceIte]
 have h:=Int.emod_eq_of_lt (Int.natCast_nonneg (x|||y).toNat) (b:=2^64) (by have:=(x|||y).isLt;omega)
 have h1:BitVec.ofInt IntKind.u64.bits (x.toNat:Int)=x:=yf x
 have h2:BitVec.ofInt IntKind.u64.bits (y.toNat:Int)=y:=yf y
 rw[h1,h2]
 exact congrArg (fun z=>some (SV.d (.int .u64 z))) h
theorem Gm(x y:BitVec 64):ah none .andNot (.d (dW x)) (.d (dW y))=some (.d (dW (x&&& ~~~y))):=by
 simp only[ah,ej,dW,gp,wrap64,↓reduceIte]
 have h:=Int.emod_eq_of_lt (Int.natCast_nonneg (x&&& ~~~y).toNat) (b:=2^64) (by have:=(x&&& ~~~y).isLt;omega)
 have h1:BitVec.ofInt IntKind.u64.bits (x.toNat:Int)=x:=yf x
 have h2:BitVec.ofInt IntKind.u64.bits (y.toNat:Int)=y:=yf y
 rw[h1,h2]
 exact congrArg (fun z=>some (SV.d (.int .u64 z))) h
theorem YG(x:BitVec 64)(k:IntKind)(n:Nat):ah none .shr (.d (dW x)) (.d (.int k (n:Int)))=some (.d (dW (x>>>n))):=by
 simp only[ah,ej,dW,vb,IntKind.bits]
 rw[if_neg (by omega)]
 simp only[Int.toNat_natCast]
 have:((x.toNat:Int)).fdiv (2^min n 64)=((x>>>n).toNat :Int):=by
  rw[Int.fdiv_eq_ediv_of_nonneg _ (Int.le_of_lt (Int.pow_pos (by decide))),BitVec.toNat_ushiftRight,Nat.shiftRight_eq_div_pow]
  have e:((2:Int)^min n 64)=((2^min n 64:Nat):Int):=by simp
  rw[e,←Int.natCast_ediv]
  congr 1
  rcases Nat.le_total n 64 with h|h
  ·rw[Nat.min_eq_left h]
  ·rw[Nat.min_eq_right h,Nat.div_eq_of_lt x.isLt,Nat.div_eq_of_lt]
   exact Nat.lt_of_lt_of_le x.isLt (Nat.pow_le_pow_right (by decide) h)
 exact congrArg (fun z=>some (SV.d (.int .u64 z))) this
theorem YH(x:BitVec 64)(k:IntKind)(n:Nat):ah none .shl (.d (dW x)) (.d (.int k (n:Int)))=some (.d (dW (x<<<n))):=by
 simp only[ah,ej,dW,vb,wrap64,IntKind.bits]
 rw[if_neg (by omega)]
 simp only[Int.toNat_natCast]
 have:((x.toNat:Int)*2^min n 64) % 2^64=((x<<<n).toNat :Int):=by
  rw[BitVec.toNat_shiftLeft,Nat.shiftLeft_eq]
  have e:((2:Int)^min n 64)=((2^min n 64:Nat):Int):=by simp
  have e2:((2:Int)^64)=((2^64:Nat):Int):=by decide
  rw[e,e2,←Int.natCast_mul,←Int.natCast_emod]
  congr 1
  rcases Nat.le_total n 64 with h|h
  ·rw[Nat.min_eq_left h]
  ·rw[Nat.min_eq_right h,Nat.mul_mod_left]
   obtain⟨m,rfl⟩:=Nat.exists_eq_add_of_le h
   rw[Nat.pow_add,←Nat.mul_assoc,Nat.mul_right_comm,Nat.mul_mod_left]
 exact congrArg (fun z=>some (SV.d (.int .u64 z))) this
theorem yR{x y:BitVec 64}:((x.toNat:Int)==(y.toNat:Int))=(x==y):=by
 rw[Bool.eq_iff_iff,beq_iff_eq,beq_iff_eq,Int.ofNat_inj,BitVec.toNat_inj]
theorem Ns(x y:BitVec 64):ah (some (false,[.int])) .eql (.d (dW x)) (.d (dW y))=some (.d (.bool (x==y))):=by
 simp only[ah,ej,dW,gp,↓reduceIte]
 rw[yR]
def dS(a b c d:BitVec 64):D:=.agg [dW a,dW b,dW c,dW d]
theorem Xl(a b c d a' b' c' d':BitVec 64):ah (some (true,[.int,.int,.int,.int])) .eql (.d (dS a b c d)) (.d (dS a' b' c' d'))=some (.d (.bool (a==a'&&(b==b'&&(c==c'&&(d==d'&&true)))))):=by
 simp only[ah,ej,dS,dO,dW,Bool.and_self,cond_true,eW,jG,↓reduceIte,yR]
theorem Xm(a b c d a' b' c' d':BitVec 64):ah (some (true,[.int,.int,.int,.int])) .neq (.d (dS a b c d)) (.d (dS a' b' c' d'))=some (.d (.bool (!(a==a'&&(b==b'&&(c==c'&&(d==d'&&true))))))):=by
 simp only[ah,ej,dS,dO,dW,Bool.and_self,cond_true,eW,jG,↓reduceIte,yR]
end Go.Proofs.YtaknajjmldngiaaGreat.Ab
namespace Go.Proofs.YtaknajjmldngiaaGreat.Ab
open Go
def bP(w:Nat→BitVec 64):D:=.agg [dW (w 0),dW (w 1),dW (w 2),dW (w 3)]
def gL(w:Nat→BitVec 64):List SV:=[.d (dW (w 0)),.d (dW (w 1)),.d (dW (w 2)),.d (dW (w 3))]
def zU(w:Nat→BitVec 64)(k:Nat)(x:BitVec 64):Nat→BitVec 64:=fun i=>if i=k then x else w i
theorem iR(w:Nat→BitVec 64):ax (.d (bP w))=some (gL w):=rfl
theorem gV(w:Nat→BitVec 64):(gL w).length =4:=rfl
theorem kV(w:Nat→BitVec 64):ag true 4 0 (gL w)=some (.d (bP w)):=rfl
theorem td(w:Nat→BitVec 64){k:Nat}(h:k<4):ag false 1 k (gL w)=some (.d (dW (w k))):=by
 match k,h with
 |0,_=>rfl
 |1,_=>rfl
 |2,_=>rfl
 |3,_=>rfl
theorem Av(w:Nat→BitVec 64){k:Nat}(h:k<4)(x:BitVec 64):setAt (gL w) k [.d (dW x)]=gL (zU w k x):=by
 match k,h with
 |0,_=>rfl
 |1,_=>rfl
 |2,_=>rfl
 |3,_=>rfl
theorem rK(w v:Nat→BitVec 64):setAt (gL w) 0 (gL v)=gL v:=rfl
theorem yu:[SV.d (.int .u64 0),.d (.int .u64 0),.d (.int .u64 0),.d (.int .u64 0)]=gL (fun _=>0):=rfl
theorem Aj(x:BitVec 64):ax (.d (dW x))=some [.d (dW x)]:=rfl
theorem Xn:D.int .u64 1=dW 1:=rfl
theorem kU{k n:Nat}(h:k<n):dD (.d (.int .i64 (k:Int))) n=some k:=by
 simp only[dD]
 rw[if_pos ⟨by omega,by omega⟩]
 simp
theorem wrap_i64{n:Int}(h1: -9223372036854775808≤n)(h2:n<9223372036854775808):IntKind.i64.wrap n=n:=by
 show(if(true&&decide (n % 2^64≥2^(64-1)))=true then n % 2^64-2^64 else n % 2^64)=n
 by_cases h:n % 2^64≥2^(64-1)
 ·rw[if_pos (by simpa using h)]
  omega
 ·rw[if_neg (by simpa using h)]
  omega
theorem Im{m:Nat}(h:m<2^62):ah none .quo (.d (.int .i64 (m:Int))) (.d (.int .i64 64))=some (.d (.int .i64 ((m / 64:Nat):Int))):=by
 have h1:((m:Int).tdiv 64)=((m / 64:Nat):Int):=by rw[Int.tdiv_eq_ediv_of_nonneg (by omega)];omega
 have h2:IntKind.i64.wrap ((m / 64:Nat):Int)=((m / 64:Nat):Int):=wrap_i64 (by omega) (by omega)
 simp only[ah,ej,gp,h1,h2,↓reduceIte]
 rfl
theorem adH{m:Nat}:ah none .rem (.d (.int .i64 (m:Int))) (.d (.int .i64 64))=some (.d (.int .i64 ((m % 64:Nat):Int))):=by
 have h1:((m:Int).tmod 64)=((m % 64:Nat):Int):=by rw[Int.tmod_eq_emod_of_nonneg (by omega)];omega
 simp[ah,ej,gp,h1]
theorem add_one{m:Nat}(h:m<2^62):ah none .add (.d (.int .i64 (m:Int))) (.d (.int .i64 1))=some (.d (.int .i64 ((m+1:Nat):Int))):=by
 have h2:IntKind.i64.wrap ((m:Int)+1)=((m+1:Nat):Int):=by rw[wrap_i64 (by omega) (by omega)];omega
 simp only[ah,ej,gp,h2,↓reduceIte]
theorem mo(m n:Int):ah none .lss (.d (.int .i64 m)) (.d (.int .i64 n))=some (.d (.bool (decide (m<n)))):=by
 simp only[ah,ej,gp,↓reduceIte]
theorem Hl(m n:Int):ah none .geq (.d (.int .i64 m)) (.d (.int .i64 n))=some (.d (.bool (decide (m≥n)))):=by
 simp only[ah,ej,gp,↓reduceIte]
theorem GX(x y:BitVec 64):ah (some (false,[.int])) .neq (.d (dW x)) (.d (dW y))=some (.d (.bool (x != y))):=by
 simp only[ah,ej,dW,gp,↓reduceIte,bne,yR]
theorem Wd:D.int .u64 0=dW 0:=rfl
theorem HO(w v:Nat→BitVec 64)(i:Nat)(f:BitVec 64→BitVec 64→BitVec 64):zU (fun k=>if k<i then f (w k) (v k)else w k) i (f (w i) (v i))=fun k=>if k<i+1 then f (w k) (v k)else w k:=by
 funext k
 unfold zU
 by_cases h1:k=i
 ·subst h1;simp
 ·by_cases h2:k<i
  ·simp[h1,h2,show k<i+1 by omega]
  ·simp[h1,h2,show ¬k<i+1 by omega]
def g9(w v:Nat→BitVec 64):Bool:=w 0==v 0&&(w 1==v 1&&(w 2==v 2&&(w 3==v 3&&true)))
theorem N3(w v:Nat→BitVec 64):ah (some (true,[.int,.int,.int,.int])) .eql (.d (bP w)) (.d (bP v))=some (.d (.bool (g9 w v))):=Xl _ _ _ _ _ _ _ _
theorem YI(w v:Nat→BitVec 64):ah (some (true,[.int,.int,.int,.int])) .neq (.d (bP w)) (.d (bP v))=some (.d (.bool (!g9 w v))):=Xm _ _ _ _ _ _ _ _
def ik(w:Nat→BitVec 64)(m:Nat):Bool:=(w (m / 64)).getLsbD (m % 64)
end Go.Proofs.YtaknajjmldngiaaGreat.Ab
namespace Go.Proofs.YtaknajjmldngiaaGreat.Ab
open Go
theorem bL{α:Type}{o:Option α}{k:α→Prop}{x:α}(h:o=some x)(hk:k x):ab o k:=by subst h;exact hk
theorem aa4{x:SV}{A B:Prop}{b:Bool}(hx:x=.d (.bool b))(hb:b=true)(hA:A):ai x A B:=by subst hx hb;exact hA
theorem HP{x:SV}{A B:Prop}{b:Bool}(hx:x=.d (.bool b))(hb:b=false)(hB:B):ai x A B:=by subst hx hb;exact hB
theorem ec{C:aP}{f:FuncId}{args:List SV}{r:SV}{k:SV→Prop}(h:C f args r)(hr:tp r=false)(hk:k r):aB C f args k:=⟨r,h,hr,hk⟩
theorem call2{C:aP}{f:FuncId}{args:List SV}{a b:SV}{k:SV→SV→Prop}(h:C f args (.cR [a,b]))(hk:k a b):∃x,∃y,C f args (.cR [x,y])∧k x y:=⟨a,b,h,hk⟩
theorem L7(x:SV):aa (aa x)=aa x:=by cases x<;>rfl
theorem Nt(a b:Bool):ah (some (false,[.bool])) .eql (.d (.bool a)) (.d (.bool b))=some (.d (.bool (a==b))):=by
 simp only[ah,ej]
theorem Xo(a b:Bool):ah (some (false,[.bool])) .neq (.d (.bool a)) (.d (.bool b))=some (.d (.bool (a != b))):=by
 simp only[ah,ej,bne]
theorem YJ(k:IntKind)(m n:Int):ah none .leq (.d (.int k m)) (.d (.int k n))=some (.d (.bool (decide (m≤n)))):=by
 simp only[ah,ej,gp,↓reduceIte]
theorem YK(k:IntKind)(m n:Int):ah none .gtr (.d (.int k m)) (.d (.int k n))=some (.d (.bool (decide (m>n)))):=by
 simp only[ah,ej,gp,↓reduceIte]
theorem YL(k:IntKind)(m n:Int):ah none .lss (.d (.int k m)) (.d (.int k n))=some (.d (.bool (decide (m<n)))):=by
 simp only[ah,ej,gp,↓reduceIte]
theorem YM(k:IntKind)(m n:Int):ah none .geq (.d (.int k m)) (.d (.int k n))=some (.d (.bool (decide (m≥n)))):=by
 simp only[ah,ej,gp,↓reduceIte]
theorem pb(k:IntKind)(m n:Int):ah (some (false,[.int])) .eql (.d (.int k m)) (.d (.int k n))=some (.d (.bool (m==n))):=by
 simp only[ah,ej,gp,↓reduceIte]
theorem Dy(k:IntKind)(m n:Int):ah (some (false,[.int])) .neq (.d (.int k m)) (.d (.int k n))=some (.d (.bool (m != n))):=by
 simp only[ah,ej,gp,↓reduceIte]
theorem yI(a b:List UInt8):ah (some (false,[.str])) .eql (.d (.str a)) (.d (.str b))=some (.d (.bool (a==b))):=by
 simp only[ah,ej,AS]
theorem yJ(a b:List UInt8):ah (some (false,[.str])) .neq (.d (.str a)) (.d (.str b))=some (.d (.bool (!(a==b)))):=by
 simp only[ah,ej,AS]
theorem jH(b:Bool):bw .not (.d (.bool b))=some (.d (.bool (!b))):=rfl
theorem ba{m n:Nat}(h:m<n)(hn:n≤maxLen):ah none .add (.d (.int .i64 (m:Int))) (.d (.int .i64 1))=some (.d (.int .i64 ((m+1:Nat):Int))):=by
 simp only[maxLen]at hn
 have h2:IntKind.i64.wrap ((m:Int)+1)=((m+1:Nat):Int):=by rw[wrap_i64 (by omega) (by omega)];omega
 simp only[ah,ej,gp,h2,↓reduceIte]
theorem iS{F:List SV→List (List SV)→(List SV→List (List SV)→Prop)→Prop}(J:Nat→Prop)(st:Nat→List SV)(sb:Nat→List (List SV))(n:Nat)(h0:J 0)
  (wL:∀i,i<n→J i→∀I:List SV→List (List SV)→Prop,(J (i+1)→I (st (i+1)) (sb (i+1)))→F (st i) (sb i) I)(mD:J n→∀I,F (st n) (sb n) I):bE F (st 0) (sb 0):=by
 intro I hI
 have key:∀k,k≤n→J (n-k)→I (st (n-k)) (sb (n-k)):=by
  intro k
  induction k with
  |zero=>intro _ hj;exact hI _ _ (mD hj I)
  |succ k ih=>
   intro hk hj
   have:=wL (n-(k+1)) (by omega) hj I (fun kh=>by rw[show n-(k+1)+1=n-k by omega]at kh ⊢;exact ih (by omega) kh)
   exact hI _ _ this
 have:=key n (Nat.le_refl _)
 simp only[Nat.sub_self]at this
 exact this h0
inductive ft(sz:Nat)(L:List D):SV→Prop
 |nil (s:Nat) (h:L=[]):ft sz L (.d (.sl .nil s []))
 |ro:ft sz L (.d (.sl .ro sz L))
 |full:ft sz L (.full sz L)
inductive cw(sz:Nat)(L:List D):D→Prop
 |nil (s:Nat) (h:L=[]):cw sz L (.sl .nil s [])
 |ro:cw sz L (.sl .ro sz L)
theorem cw.sv{sz:Nat}{L:List D}{x:D}(h:cw sz L x):ft sz L (.d x):=by
 cases h with
 |nil s h=>exact .nil s h
 |ro=>exact .ro
theorem ft.elems{sz:Nat}{L:List D}{x:SV}(h:ft sz L x):elems sz x=some L∧yq x=some L∧aa x=x:=by
 cases h with
 |nil s h=>subst h;exact⟨rfl,rfl,rfl⟩
 |ro=>exact⟨by simp[Ab.elems],rfl,rfl⟩
 |full=>exact⟨by simp[Ab.elems],rfl,rfl⟩
theorem ft.im{sz:Nat}{L:List D}{x:SV}(h:ft sz L x):aa x=x:=h.elems.2.2
theorem ft.len{sz:Nat}{L:List D}{x:SV}(h:ft sz L x):aD x=some (.d (.int .i64 (L.length:Int))):=by
 simp[aD,h.elems.2.1]
theorem ft.at{sz:Nat}{L:List D}{x:SV}(h:ft sz L x){i:Nat}{y:D}(hy:L[i]? =some y):aL sz x (.d (.int .i64 (i:Int)))=some (.aA y 0):=by
 have hi:i<L.length:=(List.getElem?_eq_some_iff.1 hy).1
 unfold aL
 rw[h.elems.1]
 simp only[]
 rw[kU hi]
 simp only[hy]
theorem ft.cells{sz:Nat}{L:List D}{x:SV}(h:ft sz L x):ax x=some [x]:=by
 cases h<;>rfl
theorem cw.len{sz:Nat}{L:List D}{x:D}(h:cw sz L x):aD (.d x)=some (.d (.int .i64 (L.length:Int))):=h.sv.len
theorem cw.at{sz:Nat}{L:List D}{x:D}(h:cw sz L x){i:Nat}{y:D}(hy:L[i]? =some y):aL sz (.d x) (.d (.int .i64 (i:Int)))=some (.aA y 0):=h.sv.at hy
theorem u6(s:List UInt8):az false 1 (.aA (.str s) 0)=some (.d (.str s)):=rfl
theorem We(k:IntKind)(n:Int):az false 1 (.aA (.int k n) 0)=some (.d (.int k n)):=rfl
theorem GY(cs:List D)(n:Nat)(h:cs.length=n):az true n (.aA (.agg cs) 0)=some (.d (.agg cs)):=by
 subst h
 have:qf true cs.length 0 cs=some (.agg cs):=by
  simp only[qf,cond_true,Nat.zero_add,Nat.le_refl,↓reduceIte,List.drop_zero,List.take_length]
 simp only[az,D.cells,this]
theorem YN(x:D)(o n:Nat):dT (.aA x o) n=some (.aA x (o+n)):=rfl
theorem N4(x:D)(o:Nat):aa (.aA x o)=.aA x o:=rfl
def bT(l:List (List UInt8)):List D:=l.map .str
theorem fO(l:List (List UInt8)):(bT l).length =l.length:=List.length_map ..
theorem AI{l:List (List UInt8)}{i:Nat}{s:List UInt8}(h:l[i]? =some s):(bT l)[i]? =some (.str s):=by simp[bT,h]
theorem get_some{α:Type}{l:List α}{i:Nat}(h:i<l.length):∃y,l[i]? =some y:=⟨l[i],List.getElem?_eq_getElem h⟩
def first{α:Type}(p:α→Bool):List α→Option Nat
 |[]=>none
 |x::l=>if p x then some 0 else(first p l).map (· +1)
theorem GZ{α:Type}{p:α→Bool}:∀{l:List α}{k:Nat}{x:α},l[k]? =some x→p x=true→(∀j y,j<k→l[j]? =some y→p y=false)→first p l=some k
 |[],k,x,h,_,_=>by simp at h
 |y::l,0,x,h,hp,_=>by simp at h;subst h;simp[first,hp]
 |y::l,k+1,x,h,hp,hn=>by
  have h0:=hn 0 y (by omega) (by simp)
  rw[first,h0]
  rw[GZ (l:=l) (k:=k) (by simpa using h) hp (fun j z hj hz=>hn (j+1) z (by omega) (by simpa using hz))]
  rfl
theorem Gn{α:Type}{p:α→Bool}:∀{l:List α},(∀(j:Nat)y,l[j]? =some y→p y=false)→first p l=none
 |[],_=>rfl
 |y::l,hn=>by
  have h0:=hn 0 y (by simp)
  rw[first,h0,Gn (l:=l) (fun j z hz=>hn (j+1) z (by simpa using hz))]
  rfl
theorem L9{α:Type}{p:α→Bool}:∀{l:List α}{k:Nat},first p l=some k→∃x,l[k]? =some x∧p x=true∧∀j y,j<k→l[j]? =some y→p y=false
 |[],k,h=>by simp[first]at h
 |y::l,k,h=>by
  rw[first]at h
  by_cases hp:p y=true
  ·rw[if_pos hp]at h
   cases h
   exact⟨y,by simp,hp,fun j _ hj=>by omega⟩
  ·rw[if_neg hp]at h
   obtain⟨k',ef,rfl⟩:=Option.map_eq_some_iff.1 h
   obtain⟨x,h1,h2,h3⟩:=L9 ef
   refine⟨x,by simpa using h1,h2,fun j z hj hz=>?_⟩
   cases j with
   |zero=>simp at hz;subst hz;simpa using hp
   |succ j=>exact h3 j z (by omega) (by simpa using hz)
def orM(o:Option Nat):Int:=match o with|some k=>(k:Int)|none=> -1
theorem N5(o:Option Nat):decide (orM o≥0)=o.isSome:=by
 cases o with
 |none=>decide
 |some k=>simp[orM]
end Go.Proofs.YtaknajjmldngiaaGreat.Ab
namespace Go.Proofs.YtaknajjmldngiaaGreat.Ab
open Go
theorem kC{P:Program}{e:TypeId}{b:Bool}{α:Type}{f:α→D}(h1:∀x,Is P e x→∃t,pack b x=f t):∀(L:List (List D)),(∀x∈L,Is P e x)→∃l:List α,L.map (pack b)=l.map f∧l.length=L.length
 |[],_=>⟨[],rfl,rfl⟩
 |x::L,h=>by
  obtain⟨t,ht⟩:=h1 x (h x List.mem_cons_self)
  obtain⟨l,hl,hn⟩:=kC h1 L (fun y hy=>h y (List.mem_cons_of_mem _ hy))
  exact⟨t::l,by rw[List.map_cons,List.map_cons,hl,ht],by simp[hn]⟩
end Go.Proofs.YtaknajjmldngiaaGreat.Ab
namespace Go.Proofs.YtaknajjmldngiaaGreat.Ab
open Go
inductive Xp where
 |mk (op a rel b:Int) (names:List (List UInt8)) (w:Nat→BitVec 64) (kids:List Xp)
def Xp.op:Xp→Int| .mk op _ _ _ _ _ _=>op
def Xp.a:Xp→Int| .mk _ a _ _ _ _ _=>a
def Xp.rel:Xp→Int| .mk _ _ r _ _ _ _=>r
def Xp.b:Xp→Int| .mk _ _ _ b _ _ _=>b
def Xp.names:Xp→List (List UInt8)| .mk _ _ _ _ n _ _=>n
def Xp.w:Xp→Nat→BitVec 64| .mk _ _ _ _ _ w _=>w
def Xp.kids:Xp→List Xp| .mk _ _ _ _ _ _ k=>k
def lF(op a rel b:Int)(nm:D)(w:Nat→BitVec 64)(kd:D):List D:=
 [.int .i64 op,.int .i64 a,.int .i64 rel,.int .i64 b,nm,dW (w 0),dW (w 1),dW (w 2),dW (w 3),kd]
def fH(op a rel b:Int)(nm:D)(w:Nat→BitVec 64)(kd:D):List SV:=
 [.d (.int .i64 op),.d (.int .i64 a),.d (.int .i64 rel),.d (.int .i64 b),.d nm,.d (dW (w 0)),.d (dW (w 1)),.d (dW (w 2)),.d (dW (w 3)),.d kd]
inductive fW:Xp→D→Prop
 |mk (op a rel b:Int) (names:List (List UInt8)) (w:Nat→BitVec 64) (kids:List Xp) (nm kd:D) (L:List D) (hn:cw 1 (bT names) nm) (hl:L.length=kids.length)
   (hk:∀(i:Nat)k y,kids[i]? =some k→L[i]? =some y→fW k y) (hd:cw 10 L kd):fW (.mk op a rel b names w kids) (.agg (lF op a rel b nm w kd))
section
variable(op a rel b:Int)(nm:D)(w:Nat→BitVec 64)(kd:D)
theorem Nu:ax (.d (.agg (lF op a rel b nm w kd)))=some (fH op a rel b nm w kd):=rfl
theorem YO:(fH op a rel b nm w kd).length =10:=rfl
theorem Vp:ag true 10 0 (fH op a rel b nm w kd)=some (.d (.agg (lF op a rel b nm w kd))):=rfl
theorem Xq:ag false 1 0 (fH op a rel b nm w kd)=some (.d (.int .i64 op)):=rfl
theorem Xr:ag false 1 1 (fH op a rel b nm w kd)=some (.d (.int .i64 a)):=rfl
theorem Xs:ag false 1 2 (fH op a rel b nm w kd)=some (.d (.int .i64 rel)):=rfl
theorem Xt:ag false 1 3 (fH op a rel b nm w kd)=some (.d (.int .i64 b)):=rfl
theorem Xu:ag false 1 4 (fH op a rel b nm w kd)=some (.d nm):=rfl
theorem Xv:ag true 4 5 (fH op a rel b nm w kd)=some (.d (bP w)):=rfl
theorem Xw:ag false 1 9 (fH op a rel b nm w kd)=some (.d kd):=rfl
end
theorem fW.inv{e:Xp}{x:D}(h:fW e x):∃nm kd L,x=.agg (lF e.op e.a e.rel e.b nm e.w kd)∧cw 1 (bT e.names) nm∧L.length=e.kids.length∧cw 10 L kd∧
  ∀(i:Nat)k y,e.kids[i]? =some k→L[i]? =some y→fW k y:=by
 cases h with
 |mk op a rel b names w kids nm kd L hn hl hk hd=>exact⟨nm,kd,L,rfl,hn,hl,hd,hk⟩
theorem Wg:aM []=some []:=rfl
def zW:Nat→BitVec 64:=fun _=>0
def Xp.lv:Xp→Nat
 | .mk _ _ _ _ _ _ kids=>nT kids+1
where nT:List Xp→Nat
 |[]=>0
 |k::l=>max k.lv (nT l)
theorem Xp.Io(e:Xp):e.lv=Xp.lv.nT e.kids+1:=by cases e;rfl
theorem Xp.N6:∀{l:List Xp}{i:Nat}{k:Xp},l[i]? =some k→k.lv≤Xp.lv.nT l
 |[],i,k,h=>by simp at h
 |x::l,0,k,h=>by simp at h;subst h;rw[Xp.lv.nT];exact Nat.le_max_left _ _
 |x::l,i+1,k,h=>by
  rw[Xp.lv.nT]
  exact Nat.le_trans (Xp.N6 (by simpa using h)) (Nat.le_max_right _ _)
theorem Xp.yS{e k:Xp}{i:Nat}(h:e.kids[i]? =some k):k.lv<e.lv:=by
 rw[e.Io]
 have:=Xp.N6 h
 omega
end Go.Proofs.YtaknajjmldngiaaGreat.Ab
namespace Go.Proofs.YtaknajjmldngiaaGreat.Ab
open Go
def BA(e:Xp):Int:=(e.kids.length:Int)
def IX(e:Xp):Int:=(e.names.length:Int)
end Go.Proofs.YtaknajjmldngiaaGreat.Ab
namespace Go.Proofs.YtaknajjmldngiaaGreat.Ab
open Go
def fF(F:Xp→Int):Xp→Int
 | .mk op a rel b names w kids=>if F (.mk op a rel b names w kids) != 0 then F (.mk op a rel b names w kids)else go kids
where go:List Xp→Int
 |[]=>0
 |k::l=>if fF F k != 0 then fF F k else go l
theorem MN(F:Xp→Int)(e:Xp):fF F e=if F e != 0 then F e else fF.go F e.kids:=by cases e;rfl
theorem LL{F:Xp→Int}:∀{l:List Xp}{i:Nat}{k:Xp},l[i]? =some k→fF.go F (l.take i)=0→fF.go F (l.take (i+1))=fF F k
 |[],i,k,h,_=>by simp at h
 |x::l,0,k,h,_=>by simp at h;subst h;simp[fF.go];intro h;rw[h]
 |x::l,i+1,k,h,h0=>by
  rw[List.take_succ_cons,fF.go]at h0 ⊢
  by_cases hx:fF F x=0
  ·rw[if_neg (by simp[hx])]at h0 ⊢
   exact LL (by simpa using h) h0
  ·rw[if_pos (by simpa using hx)]at h0
   exact absurd h0 hx
theorem MO{F:Xp→Int}:∀{l:List Xp}{i:Nat},fF.go F (l.take i)≠0→fF.go F l=fF.go F (l.take i)
 |[],i,h=>by simp
 |x::l,0,h=>absurd rfl h
 |x::l,i+1,h=>by
  rw[List.take_succ_cons,fF.go]at h ⊢
  rw[fF.go]
  by_cases hx:fF F x=0
  ·rw[if_neg (by simp[hx])]at h ⊢
   rw[if_neg (by simp[hx])]
   exact MO h
  ·rw[if_pos (by simpa using hx),if_pos (by simpa using hx)]
theorem yT(e:Xp):1≤e.lv:=by rw[e.Io];omega
end Go.Proofs.YtaknajjmldngiaaGreat.Ab
namespace Go.Proofs.YtaknajjmldngiaaGreat.Ab
open Go
structure dn where
 u:Int
 r:Int
 t:Int
 ls:Int
 lc:BitVec 64
 hs:Int
 hc:BitVec 64
structure lk where
 f:dn
 s:dn
 t:dn
def gN(c:dn):D:=.agg [.int .i64 c.u,.int .i64 c.r,.int .i64 c.t,.int .i64 c.ls,dW c.lc,.int .i64 c.hs,dW c.hc]
def iX(c:dn):List SV:=[.d (.int .i64 c.u),.d (.int .i64 c.r),.d (.int .i64 c.t),.d (.int .i64 c.ls),.d (dW c.lc),.d (.int .i64 c.hs),.d (dW c.hc)]
def Eh(x:lk):D:=.agg [.int .i64 x.f.u,.int .i64 x.f.r,.int .i64 x.f.t,.int .i64 x.f.ls,dW x.f.lc,.int .i64 x.f.hs,dW x.f.hc,
 .int .i64 x.s.u,.int .i64 x.s.r,.int .i64 x.s.t,.int .i64 x.s.ls,dW x.s.lc,.int .i64 x.s.hs,dW x.s.hc,.int .i64 x.t.u,.int .i64 x.t.r,.int .i64 x.t.t,.int .i64 x.t.ls,dW x.t.lc,.int .i64 x.t.hs,dW x.t.hc]
def pk(x:lk):List SV:=[.d (.int .i64 x.f.u),.d (.int .i64 x.f.r),.d (.int .i64 x.f.t),.d (.int .i64 x.f.ls),.d (dW x.f.lc),.d (.int .i64 x.f.hs),.d (dW x.f.hc),
 .d (.int .i64 x.s.u),.d (.int .i64 x.s.r),.d (.int .i64 x.s.t),.d (.int .i64 x.s.ls),.d (dW x.s.lc),.d (.int .i64 x.s.hs),.d (dW x.s.hc),.d (.int .i64 x.t.u),.d (.int .i64 x.t.r),.d (.int .i64 x.t.t),.d (.int .i64 x.t.ls),.d (dW x.t.lc),.d (.int .i64 x.t.hs),.d (dW x.t.hc)]
def ek(l:Int×BitVec 64):D:=.agg [.int .i64 l.1,dW l.2]
def nL(l:Int×BitVec 64):List SV:=[.d (.int .i64 l.1),.d (dW l.2)]
theorem Vq(x:lk):ax (.d (Eh x))=some (pk x):=rfl
theorem Xx(x:lk):(pk x).length =21:=rfl
theorem Wh(x:lk):ag true 21 0 (pk x)=some (.d (Eh x)):=rfl
theorem Vr(x:lk):ag true 7 0 (pk x)=some (.d (gN x.f)):=rfl
theorem Vs(x:lk):ag true 7 7 (pk x)=some (.d (gN x.s)):=rfl
theorem UD(x:lk):ag true 7 14 (pk x)=some (.d (gN x.t)):=rfl
theorem Wi(x:dn):ax (.d (gN x))=some (iX x):=rfl
theorem YP(x:dn):(iX x).length =7:=rfl
theorem Xy(x:dn):ag true 7 0 (iX x)=some (.d (gN x)):=rfl
theorem Wj(x:dn):ag false 1 0 (iX x)=some (.d (.int .i64 x.u)):=rfl
theorem Wk(x:dn):ag false 1 1 (iX x)=some (.d (.int .i64 x.r)):=rfl
theorem Wl(x:dn):ag false 1 2 (iX x)=some (.d (.int .i64 x.t)):=rfl
theorem Wm(x:dn):ag true 2 3 (iX x)=some (.d (ek (x.ls,x.lc))):=rfl
theorem Wn(x:dn):ag true 2 5 (iX x)=some (.d (ek (x.hs,x.hc))):=rfl
theorem YQ(a0 a1 a2 a3 a4 a5 a6:SV)(x:dn):setAt [a0,a1,a2,a3,a4,a5,a6] 0 (iX x)=iX x:=rfl
theorem Wo(l:Int×BitVec 64):ax (.d (ek l))=some (nL l):=rfl
theorem YR(l:Int×BitVec 64):(nL l).length =2:=rfl
theorem Xz(l:Int×BitVec 64):ag true 2 0 (nL l)=some (.d (ek l)):=rfl
theorem Wp(l:Int×BitVec 64):ag false 1 0 (nL l)=some (.d (.int .i64 l.1)):=rfl
theorem Wq(l:Int×BitVec 64):ag false 1 1 (nL l)=some (.d (dW l.2)):=rfl
theorem YS(a0 a1:SV)(l:Int×BitVec 64):setAt [a0,a1] 0 (nL l)=nL l:=rfl
def zo(x:dn):D:=.agg [.int .i64 x.ls,dW x.lc,.int .i64 x.hs,dW x.hc]
theorem Wr(x:dn):nv true 4 3 (.d (gN x))=some (.d (zo x)):=rfl
theorem XA(x:dn):nv true 2 0 (.d (zo x))=some (.d (ek (x.ls,x.lc))):=rfl
theorem XB(x:dn):nv true 2 2 (.d (zo x))=some (.d (ek (x.hs,x.hc))):=rfl
def zV(a b:Int×BitVec 64):Bool:=a.1==b.1&&(a.2==b.2&&true)
theorem YT(a b:Int×BitVec 64):ah (some (true,[.int,.int])) .eql (.d (ek a)) (.d (ek b))=some (.d (.bool (zV a b))):=by
 simp only[ah,ej,ek,dO,dW,Bool.and_self,cond_true,eW,jG,↓reduceIte,yR,zV]
theorem YU(a b:Int×BitVec 64):ah (some (true,[.int,.int])) .neq (.d (ek a)) (.d (ek b))=some (.d (.bool (!zV a b))):=by
 simp only[ah,ej,ek,dO,dW,Bool.and_self,cond_true,eW,jG,↓reduceIte,yR,zV]
end Go.Proofs.YtaknajjmldngiaaGreat.Ab
namespace Go.Proofs.YtaknajjmldngiaaGreat.Ab
open Go
end Go.Proofs.YtaknajjmldngiaaGreat.Ab
namespace Go.Proofs.YtaknajjmldngiaaGreat.Ab
open Go
end Go.Proofs.YtaknajjmldngiaaGreat.Ab
namespace Go.Proofs.YtaknajjmldngiaaGreat.Ab
open Go
theorem sS:((((((∀(x:D),aa (SV.d x)=SV.d x)∧((∀(x:D)(o:Nat),aa (SV.aA x o)=SV.aA x o)∧(∀{α:Type}(x:α)(k:α→Prop),ab (some x) k=k x)))∧((∀(x:D),SV.aj (SV.d x)=true)∧((∀(b:Bool)(A B:Prop),ai (SV.d (D.bool b)) A B↔(b=true→A)∧(b=false→B))∧(∀(A B:Prop),ai (SV.d (D.bool true)) A B=A))))∧(((∀(A B:Prop),ai (SV.d (D.bool false)) A B=B)∧((∀(k:IntKind)(m n:Int),ah (some (false,[CK.int])) BinOp.eql (SV.d (D.int k m)) (SV.d (D.int k n))=some (SV.d (D.bool (m==n))))∧(∀(k:IntKind)(m n:Int),ah (some (false,[CK.int])) BinOp.neq (SV.d (D.int k m)) (SV.d (D.int k n))=some (SV.d (D.bool (m != n))))))∧(((∀(k:IntKind)(m n:Int),ah none BinOp.lss (SV.d (D.int k m)) (SV.d (D.int k n))=some (SV.d (D.bool (decide (m<n)))))∧(∀(k:IntKind)(m n:Int),ah none BinOp.leq (SV.d (D.int k m)) (SV.d (D.int k n))=some (SV.d (D.bool (decide (m≤n))))))∧((∀(k:IntKind)(m n:Int),ah none BinOp.gtr (SV.d (D.int k m)) (SV.d (D.int k n))=some (SV.d (D.bool (decide (m>n)))))∧(∀(k:IntKind)(m n:Int),ah none BinOp.geq (SV.d (D.int k m)) (SV.d (D.int k n))=some (SV.d (D.bool (decide (m≥n)))))))))∧((((∀(b:Bool),bw UnOp.not (SV.d (D.bool b))=some (SV.d (D.bool !b)))∧((∀(a b:Bool),ah (some (false,[CK.bool])) BinOp.eql (SV.d (D.bool a)) (SV.d (D.bool b))=some (SV.d (D.bool (a==b))))∧(∀(a b:Bool),ah (some (false,[CK.bool])) BinOp.neq (SV.d (D.bool a)) (SV.d (D.bool b))=some (SV.d (D.bool (a != b))))))∧(((∀(w v:Nat→BitVec 64),ah (some (true,[CK.int,CK.int,CK.int,CK.int])) BinOp.eql (SV.d (bP w)) (SV.d (bP v))=some (SV.d (D.bool (g9 w v))))∧(∀(w v:Nat→BitVec 64),ah (some (true,[CK.int,CK.int,CK.int,CK.int])) BinOp.neq (SV.d (bP w)) (SV.d (bP v))=some (SV.d (D.bool !g9 w v))))∧((∀(op a rel b:Int)(nm:D)(w:Nat→BitVec 64)(kd:D),ax (SV.d (D.agg (lF op a rel b nm w kd)))=some (fH op a rel b nm w kd))∧(∀(op a rel b:Int)(nm:D)(w:Nat→BitVec 64)(kd:D),List.length (fH op a rel b nm w kd)=10))))∧(((∀(op a rel b:Int)(nm:D)(w:Nat→BitVec 64)(kd:D),ag true 10 0 (fH op a rel b nm w kd)=some (SV.d (D.agg (lF op a rel b nm w kd))))∧((∀(op a rel b:Int)(nm:D)(w:Nat→BitVec 64)(kd:D),ag false 1 0 (fH op a rel b nm w kd)=some (SV.d (D.int IntKind.i64 op)))∧(∀(op a rel b:Int)(nm:D)(w:Nat→BitVec 64)(kd:D),ag false 1 1 (fH op a rel b nm w kd)=some (SV.d (D.int IntKind.i64 a)))))∧(((∀(op a rel b:Int)(nm:D)(w:Nat→BitVec 64)(kd:D),ag false 1 2 (fH op a rel b nm w kd)=some (SV.d (D.int IntKind.i64 rel)))∧(∀(op a rel b:Int)(nm:D)(w:Nat→BitVec 64)(kd:D),ag false 1 3 (fH op a rel b nm w kd)=some (SV.d (D.int IntKind.i64 b))))∧((∀(op a rel b:Int)(nm:D)(w:Nat→BitVec 64)(kd:D),ag false 1 4 (fH op a rel b nm w kd)=some (SV.d nm))∧(∀(op a rel b:Int)(nm:D)(w:Nat→BitVec 64)(kd:D),ag true 4 5 (fH op a rel b nm w kd)=some (SV.d (bP w))))))))∧(((((∀(op a rel b:Int)(nm:D)(w:Nat→BitVec 64)(kd:D),ag false 1 9 (fH op a rel b nm w kd)=some (SV.d kd))∧((aM []=some [])∧(∀(x:lk),ax (SV.d (Eh x))=some (pk x))))∧(((∀(x:lk),List.length (pk x)=21)∧(∀(x:lk),ag true 21 0 (pk x)=some (SV.d (Eh x))))∧((∀(x:lk),ag true 7 0 (pk x)=some (SV.d (gN (lk.f x))))∧(∀(x:lk),ag true 7 7 (pk x)=some (SV.d (gN (lk.s x)))))))∧(((∀(x:lk),ag true 7 14 (pk x)=some (SV.d (gN (lk.t x))))∧((∀(x:dn),ax (SV.d (gN x))=some (iX x))∧(∀(x:dn),List.length (iX x)=7)))∧(((∀(x:dn),ag true 7 0 (iX x)=some (SV.d (gN x)))∧(∀(x:dn),ag false 1 0 (iX x)=some (SV.d (D.int IntKind.i64 (dn.u x)))))∧((∀(x:dn),ag false 1 1 (iX x)=some (SV.d (D.int IntKind.i64 (dn.r x))))∧(∀(x:dn),ag false 1 2 (iX x)=some (SV.d (D.int IntKind.i64 (dn.t x))))))))∧((((∀(x:dn),ag true 2 3 (iX x)=some (SV.d (ek (dn.ls x,dn.lc x))))∧((∀(x:dn),ag true 2 5 (iX x)=some (SV.d (ek (dn.hs x,dn.hc x))))∧(∀(a0 a1 a2 a3 a4 a5 a6:SV)(x:dn),setAt [a0,a1,a2,a3,a4,a5,a6] 0 (iX x)=iX x)))∧(((∀(l:Int×BitVec 64),ax (SV.d (ek l))=some (nL l))∧(∀(l:Int×BitVec 64),List.length (nL l)=2))∧((∀(l:Int×BitVec 64),ag true 2 0 (nL l)=some (SV.d (ek l)))∧(∀(l:Int×BitVec 64),ag false 1 0 (nL l)=some (SV.d (D.int IntKind.i64 (Prod.fst l)))))))∧(((∀(l:Int×BitVec 64),ag false 1 1 (nL l)=some (SV.d (dW (Prod.snd l))))∧((∀(a0 a1:SV)(l:Int×BitVec 64),setAt [a0,a1] 0 (nL l)=nL l)∧(∀(x:dn),nv true 4 3 (SV.d (gN x))=some (SV.d (zo x)))))∧(((∀(x:dn),nv true 2 0 (SV.d (zo x))=some (SV.d (ek (dn.ls x,dn.lc x))))∧(∀(x:dn),nv true 2 2 (SV.d (zo x))=some (SV.d (ek (dn.hs x,dn.hc x)))))∧((∀(a b:Int×BitVec 64),ah (some (true,[CK.int,CK.int])) BinOp.eql (SV.d (ek a)) (SV.d (ek b))=some (SV.d (D.bool (zV a b))))∧(∀(a b:Int×BitVec 64),ah (some (true,[CK.int,CK.int])) BinOp.neq (SV.d (ek a)) (SV.d (ek b))=some (SV.d (D.bool !zV a b))))))))):=⟨⟨⟨⟨⟨@dk,⟨@N4,@dj⟩⟩,⟨@n9,⟨@mn,@Xk⟩⟩⟩,⟨⟨@Wc,⟨@pb,@Dy⟩⟩,⟨⟨@YL,@YJ⟩,⟨@YK,@YM⟩⟩⟩⟩,⟨⟨⟨@jH,⟨@Nt,@Xo⟩⟩,⟨⟨@N3,@YI⟩,⟨@Nu,@YO⟩⟩⟩,⟨⟨@Vp,⟨@Xq,@Xr⟩⟩,⟨⟨@Xs,@Xt⟩,⟨@Xu,@Xv⟩⟩⟩⟩⟩,⟨⟨⟨⟨@Xw,⟨@Wg,@Vq⟩⟩,⟨⟨@Xx,@Wh⟩,⟨@Vr,@Vs⟩⟩⟩,⟨⟨@UD,⟨@Wi,@YP⟩⟩,⟨⟨@Xy,@Wj⟩,⟨@Wk,@Wl⟩⟩⟩⟩,⟨⟨⟨@Wm,⟨@Wn,@YQ⟩⟩,⟨⟨@Wo,@YR⟩,⟨@Xz,@Wp⟩⟩⟩,⟨⟨@Wq,⟨@YS,@Wr⟩⟩,⟨⟨@XA,@XB⟩,⟨@YT,@YU⟩⟩⟩⟩⟩⟩
end Go.Proofs.YtaknajjmldngiaaGreat.Ab
namespace Go.Proofs.YtaknajjmldngiaaGreat.Ab
open Go
def dU(x:BitVec 32):D:=.int .u32 (x.toNat:Int)
def iu(r:(Int×BitVec 64)×(Int×BitVec 64)):D:=.agg [.int .i64 r.1.1,dW r.1.2,.int .i64 r.2.1,dW r.2.2]
def sL(r:(Int×BitVec 64)×(Int×BitVec 64)):List SV:=[.d (.int .i64 r.1.1),.d (dW r.1.2),.d (.int .i64 r.2.1),.d (dW r.2.2)]
theorem XC(r:(Int×BitVec 64)×(Int×BitVec 64)):ax (.d (iu r))=some (sL r):=rfl
theorem aa5(r:(Int×BitVec 64)×(Int×BitVec 64)):(sL r).length =4:=rfl
theorem YV(r:(Int×BitVec 64)×(Int×BitVec 64)):ag true 4 0 (sL r)=some (.d (iu r)):=rfl
theorem XD(r:(Int×BitVec 64)×(Int×BitVec 64)):ag true 2 0 (sL r)=some (.d (ek r.1)):=rfl
theorem XE(r:(Int×BitVec 64)×(Int×BitVec 64)):ag true 2 2 (sL r)=some (.d (ek r.2)):=rfl
theorem YW(r:(Int×BitVec 64)×(Int×BitVec 64)):nv true 2 0 (.d (iu r))=some (.d (ek r.1)):=rfl
theorem YX(r:(Int×BitVec 64)×(Int×BitVec 64)):nv true 2 2 (.d (iu r))=some (.d (ek r.2)):=rfl
theorem Ws(x:dn):ag true 4 3 (iX x)=some (.d (iu ((x.ls,x.lc),(x.hs,x.hc)))):=rfl
structure gF where
 e:Xp
 nm:D
 kd:D
 h:fW e (.agg (lF e.op e.a e.rel e.b nm e.w kd))
def gF.enc(t:gF):D:=.agg (lF t.e.op t.e.a t.e.rel t.e.b t.nm t.e.w t.kd)
theorem gF.is(t:gF):fW t.e t.enc:=t.h
theorem gF.ld(t:gF):az true 10 (.aA t.enc 0)=some (.d t.enc):=rfl
structure cL where
 name:List UInt8
 perms:List (List UInt8)
 tm:D
 OK:cw 1 (bT perms) tm
 aa6:perms.length≤maxLen
def cL.enc(t:cL):D:=.agg [.str t.name,t.tm]
def cL.cells(t:cL):List SV:=[.d (.str t.name),.d (t.tm)]
theorem cL.c(t:cL):ax (.d t.enc)=some t.cells:=rfl
theorem cL.n(t:cL):t.cells.length=2:=rfl
theorem cL.a(t:cL):ag true 2 0 t.cells=some (.d t.enc):=rfl
theorem cL.ld(t:cL):az true 2 (.aA t.enc 0)=some (.d t.enc):=rfl
theorem cL.st(t:cL)(a0 a1:SV):setAt [a0,a1] 0 t.cells=t.cells:=by
 unfold cL.cells
 simp only[setAt,List.set_cons_zero,List.set_cons_succ]
theorem cL.lg(t:cL):ag false 1 0 t.cells=some (.d (.str t.name)):=rfl
theorem cL.lh(t:cL):az false 1 (.aA t.enc 0)=some (.d (.str t.name)):=rfl
theorem cL.AJ(t:cL):ag false 1 1 t.cells=some (.d (t.tm)):=rfl
theorem cL.AK(t:cL):az false 1 (.aA t.enc 1)=some (.d (t.tm)):=rfl
theorem cL.YY(t:cL):aD (.d t.tm)=some (.d (.int .i64 (t.perms.length:Int))):=by rw[t.OK.len,fO]
structure cg where
 name:List UInt8
 fX:List (List UInt8)
 tO:D
 IY:cw 1 (bT fX) tO
 agK:fX.length≤maxLen
 pm:Bool
def cg.enc(t:cg):D:=.agg [.str t.name,t.tO,.bool t.pm]
def cg.cells(t:cg):List SV:=[.d (.str t.name),.d (t.tO),.d (.bool t.pm)]
theorem cg.c(t:cg):ax (.d t.enc)=some t.cells:=rfl
theorem cg.n(t:cg):t.cells.length=3:=rfl
theorem cg.a(t:cg):ag true 3 0 t.cells=some (.d t.enc):=rfl
theorem cg.ld(t:cg):az true 3 (.aA t.enc 0)=some (.d t.enc):=rfl
theorem cg.st(t:cg)(a0 a1 a2:SV):setAt [a0,a1,a2] 0 t.cells=t.cells:=by
 unfold cg.cells
 simp only[setAt,List.set_cons_zero,List.set_cons_succ]
theorem cg.lg(t:cg):ag false 1 0 t.cells=some (.d (.str t.name)):=rfl
theorem cg.lh(t:cg):az false 1 (.aA t.enc 0)=some (.d (.str t.name)):=rfl
theorem cg.adI(t:cg):ag false 1 1 t.cells=some (.d (t.tO)):=rfl
theorem cg.adJ(t:cg):az false 1 (.aA t.enc 1)=some (.d (t.tO)):=rfl
theorem cg.adK(t:cg):aD (.d t.tO)=some (.d (.int .i64 (t.fX.length:Int))):=by rw[t.IY.len,fO]
theorem cg.aeX(t:cg):ag false 1 2 t.cells=some (.d (.bool t.pm)):=rfl
theorem cg.aeY(t:cg):az false 1 (.aA t.enc 2)=some (.d (.bool t.pm)):=rfl
structure cM where
 name:List UInt8
 w:Nat→BitVec 64
def cM.enc(t:cM):D:=.agg [.str t.name,dW (t.w 0),dW (t.w 1),dW (t.w 2),dW (t.w 3)]
def cM.cells(t:cM):List SV:=[.d (.str t.name),.d (dW (t.w 0)),.d (dW (t.w 1)),.d (dW (t.w 2)),.d (dW (t.w 3))]
theorem cM.c(t:cM):ax (.d t.enc)=some t.cells:=rfl
theorem cM.n(t:cM):t.cells.length=5:=rfl
theorem cM.a(t:cM):ag true 5 0 t.cells=some (.d t.enc):=rfl
theorem cM.ld(t:cM):az true 5 (.aA t.enc 0)=some (.d t.enc):=rfl
theorem cM.st(t:cM)(a0 a1 a2 a3 a4:SV):setAt [a0,a1,a2,a3,a4] 0 t.cells=t.cells:=by
 unfold cM.cells
 simp only[setAt,List.set_cons_zero,List.set_cons_succ]
theorem cM.lg(t:cM):ag false 1 0 t.cells=some (.d (.str t.name)):=rfl
theorem cM.lh(t:cM):az false 1 (.aA t.enc 0)=some (.d (.str t.name)):=rfl
theorem cM.p_w(t:cM):ag true 4 1 t.cells=some (.d (bP t.w)):=rfl
theorem cM.l_w(t:cM):az true 4 (.aA t.enc 1)=some (.d (bP t.w)):=rfl
structure bX where
 name:List UInt8
 tw:Nat→BitVec 64
 nw:Nat→BitVec 64
def bX.enc(t:bX):D:=.agg [.str t.name,dW (t.tw 0),dW (t.tw 1),dW (t.tw 2),dW (t.tw 3),dW (t.nw 0),dW (t.nw 1),dW (t.nw 2),dW (t.nw 3)]
def bX.cells(t:bX):List SV:=[.d (.str t.name),.d (dW (t.tw 0)),.d (dW (t.tw 1)),.d (dW (t.tw 2)),.d (dW (t.tw 3)),.d (dW (t.nw 0)),.d (dW (t.nw 1)),.d (dW (t.nw 2)),.d (dW (t.nw 3))]
theorem bX.c(t:bX):ax (.d t.enc)=some t.cells:=rfl
theorem bX.n(t:bX):t.cells.length=9:=rfl
theorem bX.a(t:bX):ag true 9 0 t.cells=some (.d t.enc):=rfl
theorem bX.ld(t:bX):az true 9 (.aA t.enc 0)=some (.d t.enc):=rfl
theorem bX.st(t:bX)(a0 a1 a2 a3 a4 a5 a6 a7 a8:SV):setAt [a0,a1,a2,a3,a4,a5,a6,a7,a8] 0 t.cells=t.cells:=by
 unfold bX.cells
 simp only[setAt,List.set_cons_zero,List.set_cons_succ]
theorem bX.lg(t:bX):ag false 1 0 t.cells=some (.d (.str t.name)):=rfl
theorem bX.lh(t:bX):az false 1 (.aA t.enc 0)=some (.d (.str t.name)):=rfl
theorem bX.qw(t:bX):ag true 4 1 t.cells=some (.d (bP t.tw)):=rfl
theorem bX.qz(t:bX):az true 4 (.aA t.enc 1)=some (.d (bP t.tw)):=rfl
theorem bX.aeZ(t:bX):ag true 4 5 t.cells=some (.d (bP t.nw)):=rfl
theorem bX.ae0(t:bX):az true 4 (.aA t.enc 5)=some (.d (bP t.nw)):=rfl
structure bD where
 name:List UInt8
 rw:Nat→BitVec 64
 df:Int×BitVec 64
 rg:(Int×BitVec 64)×(Int×BitVec 64)
def bD.enc(t:bD):D:=.agg [.str t.name,dW (t.rw 0),dW (t.rw 1),dW (t.rw 2),dW (t.rw 3),.int .i64 t.df.1,dW t.df.2,.int .i64 t.rg.1.1,dW t.rg.1.2,.int .i64 t.rg.2.1,dW t.rg.2.2]
def bD.cells(t:bD):List SV:=[.d (.str t.name),.d (dW (t.rw 0)),.d (dW (t.rw 1)),.d (dW (t.rw 2)),.d (dW (t.rw 3)),.d (.int .i64 t.df.1),.d (dW t.df.2),.d (.int .i64 t.rg.1.1),.d (dW t.rg.1.2),.d (.int .i64 t.rg.2.1),.d (dW t.rg.2.2)]
theorem bD.c(t:bD):ax (.d t.enc)=some t.cells:=rfl
theorem bD.n(t:bD):t.cells.length=11:=rfl
theorem bD.a(t:bD):ag true 11 0 t.cells=some (.d t.enc):=rfl
theorem bD.ld(t:bD):az true 11 (.aA t.enc 0)=some (.d t.enc):=rfl
theorem bD.st(t:bD)(a0 a1 a2 a3 a4 a5 a6 a7 a8 a9 kn:SV):setAt [a0,a1,a2,a3,a4,a5,a6,a7,a8,a9,kn] 0 t.cells=t.cells:=by
 unfold bD.cells
 simp only[setAt,List.set_cons_zero,List.set_cons_succ]
theorem bD.lg(t:bD):ag false 1 0 t.cells=some (.d (.str t.name)):=rfl
theorem bD.lh(t:bD):az false 1 (.aA t.enc 0)=some (.d (.str t.name)):=rfl
theorem bD.IZ(t:bD):ag true 4 1 t.cells=some (.d (bP t.rw)):=rfl
theorem bD.I0(t:bD):az true 4 (.aA t.enc 1)=some (.d (bP t.rw)):=rfl
theorem bD.ae1(t:bD):ag true 2 5 t.cells=some (.d (ek t.df)):=rfl
theorem bD.ae2(t:bD):az true 2 (.aA t.enc 5)=some (.d (ek t.df)):=rfl
theorem bD.I7(t:bD):ag true 4 7 t.cells=some (.d (iu t.rg)):=rfl
theorem bD.Ja(t:bD):az true 4 (.aA t.enc 7)=some (.d (iu t.rg)):=rfl
theorem bD.Jb(t:bD):ag true 2 7 t.cells=some (.d (ek t.rg.1)):=rfl
theorem bD.Jc(t:bD):ag true 2 9 t.cells=some (.d (ek t.rg.2)):=rfl
structure cT where
 name:List UInt8
 v:Bool
def cT.enc(t:cT):D:=.agg [.str t.name,.bool t.v]
def cT.cells(t:cT):List SV:=[.d (.str t.name),.d (.bool t.v)]
theorem cT.c(t:cT):ax (.d t.enc)=some t.cells:=rfl
theorem cT.n(t:cT):t.cells.length=2:=rfl
theorem cT.a(t:cT):ag true 2 0 t.cells=some (.d t.enc):=rfl
theorem cT.ld(t:cT):az true 2 (.aA t.enc 0)=some (.d t.enc):=rfl
theorem cT.st(t:cT)(a0 a1:SV):setAt [a0,a1] 0 t.cells=t.cells:=by
 unfold cT.cells
 simp only[setAt,List.set_cons_zero,List.set_cons_succ]
theorem cT.lg(t:cT):ag false 1 0 t.cells=some (.d (.str t.name)):=rfl
theorem cT.lh(t:cT):az false 1 (.aA t.enc 0)=some (.d (.str t.name)):=rfl
theorem cT.p_v(t:cT):ag false 1 1 t.cells=some (.d (.bool t.v)):=rfl
theorem cT.l_v(t:cT):az false 1 (.aA t.enc 1)=some (.d (.bool t.v)):=rfl
structure bh where
 kind:Int
 sw:Nat→BitVec 64
 tw:Nat→BitVec 64
 self:Bool
 cls:Int
 perms:BitVec 32
 cond:Int
def bh.enc(t:bh):D:=.agg [.int .i64 t.kind,dW (t.sw 0),dW (t.sw 1),dW (t.sw 2),dW (t.sw 3),dW (t.tw 0),dW (t.tw 1),dW (t.tw 2),dW (t.tw 3),.bool t.self,.int .i64 t.cls,dU t.perms,.int .i64 t.cond]
def bh.cells(t:bh):List SV:=[.d (.int .i64 t.kind),.d (dW (t.sw 0)),.d (dW (t.sw 1)),.d (dW (t.sw 2)),.d (dW (t.sw 3)),.d (dW (t.tw 0)),.d (dW (t.tw 1)),.d (dW (t.tw 2)),.d (dW (t.tw 3)),.d (.bool t.self),.d (.int .i64 t.cls),.d (dU t.perms),.d (.int .i64 t.cond)]
theorem bh.c(t:bh):ax (.d t.enc)=some t.cells:=rfl
theorem bh.n(t:bh):t.cells.length=13:=rfl
theorem bh.a(t:bh):ag true 13 0 t.cells=some (.d t.enc):=rfl
theorem bh.ld(t:bh):az true 13 (.aA t.enc 0)=some (.d t.enc):=rfl
theorem bh.st(t:bh)(a0 a1 a2 a3 a4 a5 a6 a7 a8 a9 kn mV mW:SV):setAt [a0,a1,a2,a3,a4,a5,a6,a7,a8,a9,kn,mV,mW] 0 t.cells=t.cells:=by
 unfold bh.cells
 simp only[setAt,List.set_cons_zero,List.set_cons_succ]
theorem bh.wG(t:bh):ag false 1 0 t.cells=some (.d (.int .i64 t.kind)):=rfl
theorem bh.wH(t:bh):az false 1 (.aA t.enc 0)=some (.d (.int .i64 t.kind)):=rfl
theorem bh.wY(t:bh):ag true 4 1 t.cells=some (.d (bP t.sw)):=rfl
theorem bh.wZ(t:bh):az true 4 (.aA t.enc 1)=some (.d (bP t.sw)):=rfl
theorem bh.qw(t:bh):ag true 4 5 t.cells=some (.d (bP t.tw)):=rfl
theorem bh.qz(t:bh):az true 4 (.aA t.enc 5)=some (.d (bP t.tw)):=rfl
theorem bh.aa7(t:bh):ag false 1 9 t.cells=some (.d (.bool t.self)):=rfl
theorem bh.aa8(t:bh):az false 1 (.aA t.enc 9)=some (.d (.bool t.self)):=rfl
theorem bh.tz(t:bh):ag false 1 10 t.cells=some (.d (.int .i64 t.cls)):=rfl
theorem bh.tA(t:bh):az false 1 (.aA t.enc 10)=some (.d (.int .i64 t.cls)):=rfl
theorem bh.AJ(t:bh):ag false 1 11 t.cells=some (.d (dU t.perms)):=rfl
theorem bh.AK(t:bh):az false 1 (.aA t.enc 11)=some (.d (dU t.perms)):=rfl
theorem bh.HQ(t:bh):ag false 1 12 t.cells=some (.d (.int .i64 t.cond)):=rfl
theorem bh.HR(t:bh):az false 1 (.aA t.enc 12)=some (.d (.int .i64 t.cond)):=rfl
structure aN where
 kind:Int
 sw:Nat→BitVec 64
 tw:Nat→BitVec 64
 cls:Int
 name:List UInt8
 res:Int
 cond:Int
def aN.enc(t:aN):D:=.agg [.int .i64 t.kind,dW (t.sw 0),dW (t.sw 1),dW (t.sw 2),dW (t.sw 3),dW (t.tw 0),dW (t.tw 1),dW (t.tw 2),dW (t.tw 3),.int .i64 t.cls,.str t.name,.int .i64 t.res,.int .i64 t.cond]
def aN.cells(t:aN):List SV:=[.d (.int .i64 t.kind),.d (dW (t.sw 0)),.d (dW (t.sw 1)),.d (dW (t.sw 2)),.d (dW (t.sw 3)),.d (dW (t.tw 0)),.d (dW (t.tw 1)),.d (dW (t.tw 2)),.d (dW (t.tw 3)),.d (.int .i64 t.cls),.d (.str t.name),.d (.int .i64 t.res),.d (.int .i64 t.cond)]
theorem aN.c(t:aN):ax (.d t.enc)=some t.cells:=rfl
theorem aN.n(t:aN):t.cells.length=13:=rfl
theorem aN.a(t:aN):ag true 13 0 t.cells=some (.d t.enc):=rfl
theorem aN.ld(t:aN):az true 13 (.aA t.enc 0)=some (.d t.enc):=rfl
theorem aN.st(t:aN)(a0 a1 a2 a3 a4 a5 a6 a7 a8 a9 kn mV mW:SV):setAt [a0,a1,a2,a3,a4,a5,a6,a7,a8,a9,kn,mV,mW] 0 t.cells=t.cells:=by
 unfold aN.cells
 simp only[setAt,List.set_cons_zero,List.set_cons_succ]
theorem aN.wG(t:aN):ag false 1 0 t.cells=some (.d (.int .i64 t.kind)):=rfl
theorem aN.wH(t:aN):az false 1 (.aA t.enc 0)=some (.d (.int .i64 t.kind)):=rfl
theorem aN.wY(t:aN):ag true 4 1 t.cells=some (.d (bP t.sw)):=rfl
theorem aN.wZ(t:aN):az true 4 (.aA t.enc 1)=some (.d (bP t.sw)):=rfl
theorem aN.qw(t:aN):ag true 4 5 t.cells=some (.d (bP t.tw)):=rfl
theorem aN.qz(t:aN):az true 4 (.aA t.enc 5)=some (.d (bP t.tw)):=rfl
theorem aN.tz(t:aN):ag false 1 9 t.cells=some (.d (.int .i64 t.cls)):=rfl
theorem aN.tA(t:aN):az false 1 (.aA t.enc 9)=some (.d (.int .i64 t.cls)):=rfl
theorem aN.lg(t:aN):ag false 1 10 t.cells=some (.d (.str t.name)):=rfl
theorem aN.lh(t:aN):az false 1 (.aA t.enc 10)=some (.d (.str t.name)):=rfl
theorem aN.Ip(t:aN):ag false 1 11 t.cells=some (.d (.int .i64 t.res)):=rfl
theorem aN.Iq(t:aN):az false 1 (.aA t.enc 11)=some (.d (.int .i64 t.res)):=rfl
theorem aN.HQ(t:aN):ag false 1 12 t.cells=some (.d (.int .i64 t.cond)):=rfl
theorem aN.HR(t:aN):az false 1 (.aA t.enc 12)=some (.d (.int .i64 t.cond)):=rfl
structure bU where
 rw:Nat→BitVec 64
 tw:Nat→BitVec 64
 cls:Int
 res:Int
def bU.enc(t:bU):D:=.agg [dW (t.rw 0),dW (t.rw 1),dW (t.rw 2),dW (t.rw 3),dW (t.tw 0),dW (t.tw 1),dW (t.tw 2),dW (t.tw 3),.int .i64 t.cls,.int .i64 t.res]
def bU.cells(t:bU):List SV:=[.d (dW (t.rw 0)),.d (dW (t.rw 1)),.d (dW (t.rw 2)),.d (dW (t.rw 3)),.d (dW (t.tw 0)),.d (dW (t.tw 1)),.d (dW (t.tw 2)),.d (dW (t.tw 3)),.d (.int .i64 t.cls),.d (.int .i64 t.res)]
theorem bU.c(t:bU):ax (.d t.enc)=some t.cells:=rfl
theorem bU.n(t:bU):t.cells.length=10:=rfl
theorem bU.a(t:bU):ag true 10 0 t.cells=some (.d t.enc):=rfl
theorem bU.ld(t:bU):az true 10 (.aA t.enc 0)=some (.d t.enc):=rfl
theorem bU.st(t:bU)(a0 a1 a2 a3 a4 a5 a6 a7 a8 a9:SV):setAt [a0,a1,a2,a3,a4,a5,a6,a7,a8,a9] 0 t.cells=t.cells:=by
 unfold bU.cells
 simp only[setAt,List.set_cons_zero,List.set_cons_succ]
theorem bU.IZ(t:bU):ag true 4 0 t.cells=some (.d (bP t.rw)):=rfl
theorem bU.I0(t:bU):az true 4 (.aA t.enc 0)=some (.d (bP t.rw)):=rfl
theorem bU.qw(t:bU):ag true 4 4 t.cells=some (.d (bP t.tw)):=rfl
theorem bU.qz(t:bU):az true 4 (.aA t.enc 4)=some (.d (bP t.tw)):=rfl
theorem bU.tz(t:bU):ag false 1 8 t.cells=some (.d (.int .i64 t.cls)):=rfl
theorem bU.tA(t:bU):az false 1 (.aA t.enc 8)=some (.d (.int .i64 t.cls)):=rfl
theorem bU.Ip(t:bU):ag false 1 9 t.cells=some (.d (.int .i64 t.res)):=rfl
theorem bU.Iq(t:bU):az false 1 (.aA t.enc 9)=some (.d (.int .i64 t.res)):=rfl
structure bA where
 sw:Nat→BitVec 64
 tw:Nat→BitVec 64
 cls:Int
 rg:(Int×BitVec 64)×(Int×BitVec 64)
def bA.enc(t:bA):D:=.agg [dW (t.sw 0),dW (t.sw 1),dW (t.sw 2),dW (t.sw 3),dW (t.tw 0),dW (t.tw 1),dW (t.tw 2),dW (t.tw 3),.int .i64 t.cls,.int .i64 t.rg.1.1,dW t.rg.1.2,.int .i64 t.rg.2.1,dW t.rg.2.2]
def bA.cells(t:bA):List SV:=[.d (dW (t.sw 0)),.d (dW (t.sw 1)),.d (dW (t.sw 2)),.d (dW (t.sw 3)),.d (dW (t.tw 0)),.d (dW (t.tw 1)),.d (dW (t.tw 2)),.d (dW (t.tw 3)),.d (.int .i64 t.cls),.d (.int .i64 t.rg.1.1),.d (dW t.rg.1.2),.d (.int .i64 t.rg.2.1),.d (dW t.rg.2.2)]
theorem bA.c(t:bA):ax (.d t.enc)=some t.cells:=rfl
theorem bA.n(t:bA):t.cells.length=13:=rfl
theorem bA.a(t:bA):ag true 13 0 t.cells=some (.d t.enc):=rfl
theorem bA.ld(t:bA):az true 13 (.aA t.enc 0)=some (.d t.enc):=rfl
theorem bA.st(t:bA)(a0 a1 a2 a3 a4 a5 a6 a7 a8 a9 kn mV mW:SV):setAt [a0,a1,a2,a3,a4,a5,a6,a7,a8,a9,kn,mV,mW] 0 t.cells=t.cells:=by
 unfold bA.cells
 simp only[setAt,List.set_cons_zero,List.set_cons_succ]
theorem bA.wY(t:bA):ag true 4 0 t.cells=some (.d (bP t.sw)):=rfl
theorem bA.wZ(t:bA):az true 4 (.aA t.enc 0)=some (.d (bP t.sw)):=rfl
theorem bA.qw(t:bA):ag true 4 4 t.cells=some (.d (bP t.tw)):=rfl
theorem bA.qz(t:bA):az true 4 (.aA t.enc 4)=some (.d (bP t.tw)):=rfl
theorem bA.tz(t:bA):ag false 1 8 t.cells=some (.d (.int .i64 t.cls)):=rfl
theorem bA.tA(t:bA):az false 1 (.aA t.enc 8)=some (.d (.int .i64 t.cls)):=rfl
theorem bA.I7(t:bA):ag true 4 9 t.cells=some (.d (iu t.rg)):=rfl
theorem bA.Ja(t:bA):az true 4 (.aA t.enc 9)=some (.d (iu t.rg)):=rfl
theorem bA.Jb(t:bA):ag true 2 9 t.cells=some (.d (ek t.rg.1)):=rfl
theorem bA.Jc(t:bA):ag true 2 11 t.cells=some (.d (ek t.rg.2)):=rfl
structure bN where
 cls:Int
 perms:BitVec 32
 val:Bool
 e:Xp
 nm:D
 kd:D
 h:fW e (.agg (lF e.op e.a e.rel e.b nm e.w kd))
def bN.enc(t:bN):D:=.agg [.int .i64 t.cls,dU t.perms,.bool t.val,.int .i64 t.e.op,.int .i64 t.e.a,.int .i64 t.e.rel,.int .i64 t.e.b,t.nm,dW (t.e.w 0),dW (t.e.w 1),dW (t.e.w 2),dW (t.e.w 3),t.kd]
def bN.cells(t:bN):List SV:=[.d (.int .i64 t.cls),.d (dU t.perms),.d (.bool t.val),.d (.int .i64 t.e.op),.d (.int .i64 t.e.a),.d (.int .i64 t.e.rel),.d (.int .i64 t.e.b),.d (t.nm),.d (dW (t.e.w 0)),.d (dW (t.e.w 1)),.d (dW (t.e.w 2)),.d (dW (t.e.w 3)),.d (t.kd)]
theorem bN.c(t:bN):ax (.d t.enc)=some t.cells:=rfl
theorem bN.n(t:bN):t.cells.length=13:=rfl
theorem bN.a(t:bN):ag true 13 0 t.cells=some (.d t.enc):=rfl
theorem bN.ld(t:bN):az true 13 (.aA t.enc 0)=some (.d t.enc):=rfl
theorem bN.st(t:bN)(a0 a1 a2 a3 a4 a5 a6 a7 a8 a9 kn mV mW:SV):setAt [a0,a1,a2,a3,a4,a5,a6,a7,a8,a9,kn,mV,mW] 0 t.cells=t.cells:=by
 unfold bN.cells
 simp only[setAt,List.set_cons_zero,List.set_cons_succ]
theorem bN.tz(t:bN):ag false 1 0 t.cells=some (.d (.int .i64 t.cls)):=rfl
theorem bN.tA(t:bN):az false 1 (.aA t.enc 0)=some (.d (.int .i64 t.cls)):=rfl
theorem bN.AJ(t:bN):ag false 1 1 t.cells=some (.d (dU t.perms)):=rfl
theorem bN.AK(t:bN):az false 1 (.aA t.enc 1)=some (.d (dU t.perms)):=rfl
theorem bN.adL(t:bN):ag false 1 2 t.cells=some (.d (.bool t.val)):=rfl
theorem bN.adM(t:bN):az false 1 (.aA t.enc 2)=some (.d (.bool t.val)):=rfl
theorem bN.p_e(t:bN):ag true 10 3 t.cells=some (.d (.agg (lF t.e.op t.e.a t.e.rel t.e.b t.nm t.e.w t.kd))):=rfl
theorem bN.l_e(t:bN):az true 10 (.aA t.enc 3)=some (.d (.agg (lF t.e.op t.e.a t.e.rel t.e.b t.nm t.e.w t.kd))):=rfl
structure cj where
 name:List UInt8
 ctx:dn
def cj.enc(t:cj):D:=.agg [.str t.name,.int .i64 t.ctx.u,.int .i64 t.ctx.r,.int .i64 t.ctx.t,.int .i64 t.ctx.ls,dW t.ctx.lc,.int .i64 t.ctx.hs,dW t.ctx.hc]
def cj.cells(t:cj):List SV:=[.d (.str t.name),.d (.int .i64 t.ctx.u),.d (.int .i64 t.ctx.r),.d (.int .i64 t.ctx.t),.d (.int .i64 t.ctx.ls),.d (dW t.ctx.lc),.d (.int .i64 t.ctx.hs),.d (dW t.ctx.hc)]
theorem cj.c(t:cj):ax (.d t.enc)=some t.cells:=rfl
theorem cj.n(t:cj):t.cells.length=8:=rfl
theorem cj.a(t:cj):ag true 8 0 t.cells=some (.d t.enc):=rfl
theorem cj.ld(t:cj):az true 8 (.aA t.enc 0)=some (.d t.enc):=rfl
theorem cj.st(t:cj)(a0 a1 a2 a3 a4 a5 a6 a7:SV):setAt [a0,a1,a2,a3,a4,a5,a6,a7] 0 t.cells=t.cells:=by
 unfold cj.cells
 simp only[setAt,List.set_cons_zero,List.set_cons_succ]
theorem cj.lg(t:cj):ag false 1 0 t.cells=some (.d (.str t.name)):=rfl
theorem cj.lh(t:cj):az false 1 (.aA t.enc 0)=some (.d (.str t.name)):=rfl
theorem cj.Ir(t:cj):ag true 7 1 t.cells=some (.d (gN t.ctx)):=rfl
theorem cj.It(t:cj):az true 7 (.aA t.enc 1)=some (.d (gN t.ctx)):=rfl
theorem cj.HS(t:cj):ag false 1 1 t.cells=some (.d (.int .i64 t.ctx.u)):=rfl
theorem cj.HT(t:cj):ag false 1 2 t.cells=some (.d (.int .i64 t.ctx.r)):=rfl
theorem cj.HU(t:cj):ag false 1 3 t.cells=some (.d (.int .i64 t.ctx.t)):=rfl
structure bO where
 pat:List UInt8
 kind:Int
 ctx:dn
def bO.enc(t:bO):D:=.agg [.str t.pat,.int .i64 t.kind,.int .i64 t.ctx.u,.int .i64 t.ctx.r,.int .i64 t.ctx.t,.int .i64 t.ctx.ls,dW t.ctx.lc,.int .i64 t.ctx.hs,dW t.ctx.hc]
def bO.cells(t:bO):List SV:=[.d (.str t.pat),.d (.int .i64 t.kind),.d (.int .i64 t.ctx.u),.d (.int .i64 t.ctx.r),.d (.int .i64 t.ctx.t),.d (.int .i64 t.ctx.ls),.d (dW t.ctx.lc),.d (.int .i64 t.ctx.hs),.d (dW t.ctx.hc)]
theorem bO.c(t:bO):ax (.d t.enc)=some t.cells:=rfl
theorem bO.n(t:bO):t.cells.length=9:=rfl
theorem bO.a(t:bO):ag true 9 0 t.cells=some (.d t.enc):=rfl
theorem bO.ld(t:bO):az true 9 (.aA t.enc 0)=some (.d t.enc):=rfl
theorem bO.st(t:bO)(a0 a1 a2 a3 a4 a5 a6 a7 a8:SV):setAt [a0,a1,a2,a3,a4,a5,a6,a7,a8] 0 t.cells=t.cells:=by
 unfold bO.cells
 simp only[setAt,List.set_cons_zero,List.set_cons_succ]
theorem bO.adN(t:bO):ag false 1 0 t.cells=some (.d (.str t.pat)):=rfl
theorem bO.adO(t:bO):az false 1 (.aA t.enc 0)=some (.d (.str t.pat)):=rfl
theorem bO.wG(t:bO):ag false 1 1 t.cells=some (.d (.int .i64 t.kind)):=rfl
theorem bO.wH(t:bO):az false 1 (.aA t.enc 1)=some (.d (.int .i64 t.kind)):=rfl
theorem bO.Ir(t:bO):ag true 7 2 t.cells=some (.d (gN t.ctx)):=rfl
theorem bO.It(t:bO):az true 7 (.aA t.enc 2)=some (.d (gN t.ctx)):=rfl
theorem bO.HS(t:bO):ag false 1 2 t.cells=some (.d (.int .i64 t.ctx.u)):=rfl
theorem bO.HT(t:bO):ag false 1 3 t.cells=some (.d (.int .i64 t.ctx.r)):=rfl
theorem bO.HU(t:bO):ag false 1 4 t.cells=some (.d (.int .i64 t.ctx.t)):=rfl
structure b5 where
 name:List UInt8
 kind:Int
 sw:Nat→BitVec 64
 tw:Nat→BitVec 64
def b5.enc(t:b5):D:=.agg [.str t.name,.int .i64 t.kind,dW (t.sw 0),dW (t.sw 1),dW (t.sw 2),dW (t.sw 3),dW (t.tw 0),dW (t.tw 1),dW (t.tw 2),dW (t.tw 3)]
def b5.cells(t:b5):List SV:=[.d (.str t.name),.d (.int .i64 t.kind),.d (dW (t.sw 0)),.d (dW (t.sw 1)),.d (dW (t.sw 2)),.d (dW (t.sw 3)),.d (dW (t.tw 0)),.d (dW (t.tw 1)),.d (dW (t.tw 2)),.d (dW (t.tw 3))]
theorem b5.c(t:b5):ax (.d t.enc)=some t.cells:=rfl
theorem b5.n(t:b5):t.cells.length=10:=rfl
theorem b5.a(t:b5):ag true 10 0 t.cells=some (.d t.enc):=rfl
theorem b5.ld(t:b5):az true 10 (.aA t.enc 0)=some (.d t.enc):=rfl
theorem b5.st(t:b5)(a0 a1 a2 a3 a4 a5 a6 a7 a8 a9:SV):setAt [a0,a1,a2,a3,a4,a5,a6,a7,a8,a9] 0 t.cells=t.cells:=by
 unfold b5.cells
 simp only[setAt,List.set_cons_zero,List.set_cons_succ]
theorem b5.lg(t:b5):ag false 1 0 t.cells=some (.d (.str t.name)):=rfl
theorem b5.lh(t:b5):az false 1 (.aA t.enc 0)=some (.d (.str t.name)):=rfl
theorem b5.wG(t:b5):ag false 1 1 t.cells=some (.d (.int .i64 t.kind)):=rfl
theorem b5.wH(t:b5):az false 1 (.aA t.enc 1)=some (.d (.int .i64 t.kind)):=rfl
theorem b5.wY(t:b5):ag true 4 2 t.cells=some (.d (bP t.sw)):=rfl
theorem b5.wZ(t:b5):az true 4 (.aA t.enc 2)=some (.d (bP t.sw)):=rfl
theorem b5.qw(t:b5):ag true 4 6 t.cells=some (.d (bP t.tw)):=rfl
theorem b5.qz(t:b5):az true 4 (.aA t.enc 6)=some (.d (bP t.tw)):=rfl
structure aq where
 cl:List cL
 sM:D
 Rm:cw 2 (List.map cL.enc cl) sM
 clM:cl.length≤maxLen
 ty:List cg
 sN:D
 Rn:cw 3 (List.map cg.enc ty) sN
 tyM:ty.length≤maxLen
 at_:List cM
 sf:D
 PL:cw 5 (List.map cM.enc at_) sf
 agL:at_.length≤maxLen
 ro:List bX
 sO:D
 Ro:cw 9 (List.map bX.enc ro) sO
 roM:ro.length≤maxLen
 us:List bD
 sQ:D
 Rp:cw 11 (List.map bD.enc us) sQ
 usM:us.length≤maxLen
 bo:List cT
 sR:D
 ur:cw 2 (List.map cT.enc bo) sR
 Rq:bo.length≤maxLen
 se:List (List UInt8)
 uu:D
 Rr:cw 1 (bT se) uu
 seM:se.length≤maxLen
 ca:List (List UInt8)
 uv:D
 Rs:cw 1 (bT ca) uv
 caM:ca.length≤maxLen
 co:List gF
 pQ:D
 Cm:cw 10 (List.map gF.enc co) pQ
 Cn:co.length≤maxLen
 ru:List bh
 qY:D
 Km:cw 13 (List.map bh.enc ru) qY
 ruM:ru.length≤maxLen
 tr:List aN
 qZ:D
 zX:cw 13 (List.map aN.enc tr) qZ
 Co:tr.length≤maxLen
 rt:List bU
 uw:D
 Ff:cw 10 (List.map bU.enc rt) uw
 Kn:rt.length≤maxLen
 ra:List bA
 ux:D
 Fg:cw 13 (List.map bA.enc ra) ux
 Ko:ra.length≤maxLen
 cs:List bN
 rb:D
 Kp:cw 13 (List.map bN.enc cs) rb
 csM:cs.length≤maxLen
 si:List cj
 re:D
 Kq:cw 8 (List.map cj.enc si) re
 siM:si.length≤maxLen
 fi:List bO
 uy:D
 Fh:cw 9 (List.map bO.enc fi) uy
 Kr:fi.length≤maxLen
 mX:List b5
 qA:D
 Jd:cw 10 (List.map b5.enc mX) qA
 ae3:mX.length≤maxLen
def dv(p:aq):D:=.agg [p.sM,p.sN,p.sf,p.sO,p.sQ,p.sR,p.uu,p.uv,p.pQ,p.qY,p.qZ,p.uw,p.ux,p.rb,p.re,p.uy,p.qA]
def bG(p:aq):List SV:=[.d p.sM,.d p.sN,.d p.sf,.d p.sO,.d p.sQ,.d p.sR,.d p.uu,.d p.uv,.d p.pQ,.d p.qY,.d p.qZ,.d p.uw,.d p.ux,.d p.rb,.d p.re,.d p.uy,.d p.qA]
theorem aq.c(p:aq):ax (.d (dv p))=some (bG p):=rfl
theorem aq.n(p:aq):(bG p).length =17:=rfl
theorem aq.a(p:aq):ag true 17 0 (bG p)=some (.d (dv p)):=rfl
theorem aq.ae4(p:aq):ag false 1 0 (bG p)=some (.d p.sM):=rfl
theorem aq.ae5(p:aq):aD (.d p.sM)=some (.d (.int .i64 (p.cl.length:Int))):=by rw[p.Rm.len];rw[List.length_map]
theorem aq.PM(p:aq){i:Nat}{c:cL}(h:p.cl[i]? =some c):aL 2 (.d p.sM) (.d (.int .i64 (i:Int)))=some (.aA c.enc 0):=p.Rm.at (by rw[List.getElem?_map,h];rfl)
theorem aq.ae6(p:aq):ag false 1 1 (bG p)=some (.d p.sN):=rfl
theorem aq.ae7(p:aq):aD (.d p.sN)=some (.d (.int .i64 (p.ty.length:Int))):=by rw[p.Rn.len];rw[List.length_map]
theorem aq.Je(p:aq){i:Nat}{c:cg}(h:p.ty[i]? =some c):aL 3 (.d p.sN) (.d (.int .i64 (i:Int)))=some (.aA c.enc 0):=p.Rn.at (by rw[List.getElem?_map,h];rfl)
theorem aq.adP(p:aq):ag false 1 2 (bG p)=some (.d p.sf):=rfl
theorem aq.adQ(p:aq):aD (.d p.sf)=some (.d (.int .i64 (p.at_.length:Int))):=by rw[p.PL.len];rw[List.length_map]
theorem aq.adR(p:aq){i:Nat}{c:cM}(h:p.at_[i]? =some c):aL 5 (.d p.sf) (.d (.int .i64 (i:Int)))=some (.aA c.enc 0):=p.PL.at (by rw[List.getElem?_map,h];rfl)
theorem aq.ae8(p:aq):ag false 1 3 (bG p)=some (.d p.sO):=rfl
theorem aq.ae9(p:aq):aD (.d p.sO)=some (.d (.int .i64 (p.ro.length:Int))):=by rw[p.Ro.len];rw[List.length_map]
theorem aq.Jf(p:aq){i:Nat}{c:bX}(h:p.ro[i]? =some c):aL 9 (.d p.sO) (.d (.int .i64 (i:Int)))=some (.aA c.enc 0):=p.Ro.at (by rw[List.getElem?_map,h];rfl)
theorem aq.afa(p:aq):ag false 1 4 (bG p)=some (.d p.sQ):=rfl
theorem aq.afb(p:aq):aD (.d p.sQ)=some (.d (.int .i64 (p.us.length:Int))):=by rw[p.Rp.len];rw[List.length_map]
theorem aq.PN(p:aq){i:Nat}{c:bD}(h:p.us[i]? =some c):aL 11 (.d p.sQ) (.d (.int .i64 (i:Int)))=some (.aA c.enc 0):=p.Rp.at (by rw[List.getElem?_map,h];rfl)
theorem aq.afc(p:aq):ag false 1 5 (bG p)=some (.d p.sR):=rfl
theorem aq.afd(p:aq):aD (.d p.sR)=some (.d (.int .i64 (p.bo.length:Int))):=by rw[p.ur.len];rw[List.length_map]
theorem aq.afe(p:aq){i:Nat}{c:cT}(h:p.bo[i]? =some c):aL 2 (.d p.sR) (.d (.int .i64 (i:Int)))=some (.aA c.enc 0):=p.ur.at (by rw[List.getElem?_map,h];rfl)
theorem aq.aff(p:aq):ag false 1 6 (bG p)=some (.d p.uu):=rfl
theorem aq.afg(p:aq):aD (.d p.uu)=some (.d (.int .i64 (p.se.length:Int))):=by rw[p.Rr.len];rw[fO]
theorem aq.afh(p:aq):ag false 1 7 (bG p)=some (.d p.uv):=rfl
theorem aq.afi(p:aq):aD (.d p.uv)=some (.d (.int .i64 (p.ca.length:Int))):=by rw[p.Rs.len];rw[fO]
theorem aq.afj(p:aq):ag false 1 8 (bG p)=some (.d p.pQ):=rfl
theorem aq.afk(p:aq):aD (.d p.pQ)=some (.d (.int .i64 (p.co.length:Int))):=by rw[p.Cm.len];rw[List.length_map]
theorem aq.PO(p:aq){i:Nat}{c:gF}(h:p.co[i]? =some c):aL 10 (.d p.pQ) (.d (.int .i64 (i:Int)))=some (.aA c.enc 0):=p.Cm.at (by rw[List.getElem?_map,h];rfl)
theorem aq.afl(p:aq):ag false 1 9 (bG p)=some (.d p.qY):=rfl
theorem aq.afm(p:aq):aD (.d p.qY)=some (.d (.int .i64 (p.ru.length:Int))):=by rw[p.Km.len];rw[List.length_map]
theorem aq.afn(p:aq){i:Nat}{c:bh}(h:p.ru[i]? =some c):aL 13 (.d p.qY) (.d (.int .i64 (i:Int)))=some (.aA c.enc 0):=p.Km.at (by rw[List.getElem?_map,h];rfl)
theorem aq.afo(p:aq):ag false 1 10 (bG p)=some (.d p.qZ):=rfl
theorem aq.afp(p:aq):aD (.d p.qZ)=some (.d (.int .i64 (p.tr.length:Int))):=by rw[p.zX.len];rw[List.length_map]
theorem aq.sg(p:aq){i:Nat}{c:aN}(h:p.tr[i]? =some c):aL 13 (.d p.qZ) (.d (.int .i64 (i:Int)))=some (.aA c.enc 0):=p.zX.at (by rw[List.getElem?_map,h];rfl)
theorem aq.afq(p:aq):ag false 1 11 (bG p)=some (.d p.uw):=rfl
theorem aq.afr(p:aq):aD (.d p.uw)=some (.d (.int .i64 (p.rt.length:Int))):=by rw[p.Ff.len];rw[List.length_map]
theorem aq.EC(p:aq){i:Nat}{c:bU}(h:p.rt[i]? =some c):aL 10 (.d p.uw) (.d (.int .i64 (i:Int)))=some (.aA c.enc 0):=p.Ff.at (by rw[List.getElem?_map,h];rfl)
theorem aq.afs(p:aq):ag false 1 12 (bG p)=some (.d p.ux):=rfl
theorem aq.aft(p:aq):aD (.d p.ux)=some (.d (.int .i64 (p.ra.length:Int))):=by rw[p.Fg.len];rw[List.length_map]
theorem aq.ED(p:aq){i:Nat}{c:bA}(h:p.ra[i]? =some c):aL 13 (.d p.ux) (.d (.int .i64 (i:Int)))=some (.aA c.enc 0):=p.Fg.at (by rw[List.getElem?_map,h];rfl)
theorem aq.afu(p:aq):ag false 1 13 (bG p)=some (.d p.rb):=rfl
theorem aq.afv(p:aq):aD (.d p.rb)=some (.d (.int .i64 (p.cs.length:Int))):=by rw[p.Kp.len];rw[List.length_map]
theorem aq.PQ(p:aq){i:Nat}{c:bN}(h:p.cs[i]? =some c):aL 13 (.d p.rb) (.d (.int .i64 (i:Int)))=some (.aA c.enc 0):=p.Kp.at (by rw[List.getElem?_map,h];rfl)
theorem aq.afw(p:aq):ag false 1 14 (bG p)=some (.d p.re):=rfl
theorem aq.afx(p:aq):aD (.d p.re)=some (.d (.int .i64 (p.si.length:Int))):=by rw[p.Kq.len];rw[List.length_map]
theorem aq.afy(p:aq){i:Nat}{c:cj}(h:p.si[i]? =some c):aL 8 (.d p.re) (.d (.int .i64 (i:Int)))=some (.aA c.enc 0):=p.Kq.at (by rw[List.getElem?_map,h];rfl)
theorem aq.afz(p:aq):ag false 1 15 (bG p)=some (.d p.uy):=rfl
theorem aq.afA(p:aq):aD (.d p.uy)=some (.d (.int .i64 (p.fi.length:Int))):=by rw[p.Fh.len];rw[List.length_map]
theorem aq.EE(p:aq){i:Nat}{c:bO}(h:p.fi[i]? =some c):aL 9 (.d p.uy) (.d (.int .i64 (i:Int)))=some (.aA c.enc 0):=p.Fh.at (by rw[List.getElem?_map,h];rfl)
theorem aq.adS(p:aq):ag false 1 16 (bG p)=some (.d p.qA):=rfl
theorem aq.adT(p:aq):aD (.d p.qA)=some (.d (.int .i64 (p.mX.length:Int))):=by rw[p.Jd.len];rw[List.length_map]
theorem aq.adU(p:aq){i:Nat}{c:b5}(h:p.mX[i]? =some c):aL 10 (.d p.qA) (.d (.int .i64 (i:Int)))=some (.aA c.enc 0):=p.Jd.at (by rw[List.getElem?_map,h];rfl)
end Go.Proofs.YtaknajjmldngiaaGreat.Ab
namespace Go.Proofs.YtaknajjmldngiaaGreat.Ab
open Go
section
variable{P:Program}{gl:Nat→Option D}{h:Hints}{f:FuncId}{args:List SV}
theorem kA{R:Bool→Prop}(hm:P.follows .mixedOrders =true)(hE:gH P f)(ck:∃b,R b)(hh:body P gl (aF P gl) h f args fun r=>∃b,r=.d (.bool b)∧R b):∃b,R b∧aF P gl f args (.d (.bool b)):=by
 obtain⟨b0,mS⟩:=ck
 obtain⟨r,⟨b,rfl,hR⟩,hr⟩:=Gj hm hE ⟨_,b0,rfl,mS⟩ hh
 exact⟨b,hR,hr⟩
theorem j5{R:Int→Prop}(hm:P.follows .mixedOrders =true)(hE:gH P f)(ck:∃b,R b)(hh:body P gl (aF P gl) h f args fun r=>∃b,r=.d (.int .i64 b)∧R b):∃b,R b∧aF P gl f args (.d (.int .i64 b)):=by
 obtain⟨b0,mS⟩:=ck
 obtain⟨r,⟨b,rfl,hR⟩,hr⟩:=Gj hm hE ⟨_,b0,rfl,mS⟩ hh
 exact⟨b,hR,hr⟩
theorem dN{k:SV→Prop}{R:Bool→Prop}(hr:∃b,R b∧aF P gl f args (.d (.bool b)))(hk:∀b,R b→k (.d (.bool b))):aB (aF P gl) f args k:=by
 obtain⟨b,h1,h2⟩:=hr
 exact aO h2 (hk b h1)
theorem fD{k:SV→Prop}{R:Int→Prop}(hr:∃b,R b∧aF P gl f args (.d (.int .i64 b)))(hk:∀b,R b→k (.d (.int .i64 b))):aB (aF P gl) f args k:=by
 obtain⟨b,h1,h2⟩:=hr
 exact aO h2 (hk b h1)
end
theorem Aw{α:Type}{F:List SV→List (List SV)→(List SV→List (List SV)→Prop)→Prop}(J:Nat→α→Prop)(st:Nat→α→List SV)(sb:Nat→α→List (List SV))(n:Nat)(a0:α)(h0:J 0 a0)
  (wL:∀i a,i<n→J i a→∀I:List SV→List (List SV)→Prop,(∀a',J (i+1) a'→I (st (i+1) a') (sb (i+1) a'))→F (st i a) (sb i a) I)(mD:∀a,J n a→∀I,F (st n a) (sb n a) I):bE F (st 0 a0) (sb 0 a0):=by
 intro I hI
 have key:∀k,k≤n→∀a,J (n-k) a→I (st (n-k) a) (sb (n-k) a):=by
  intro k
  induction k with
  |zero=>intro _ a hj;exact hI _ _ (mD a hj I)
  |succ k ih=>
   intro hk a hj
   refine hI _ _ (wL (n-(k+1)) a (by omega) hj I fun a' kh=>?_)
   rw[show n-(k+1)+1=n-k by omega]at kh ⊢
   exact ih (by omega) a' kh
 have:=key n (Nat.le_refl _)
 simp only[Nat.sub_self]at this
 exact this a0 h0
def aJ(sz:Nat)(L:List D):SV:=match L with
 |[]=>.d (.sl .nil 0 [])
 |L=>.own sz L
theorem fb(sz:Nat)(L:List D):tp (aJ sz L)=false:=by cases L<;>rfl
theorem gx(sz:Nat)(L:List D):(aJ sz L).aj =true:=by cases L<;>rfl
theorem Ak(sz:Nat)(L:List D):ax (aJ sz L)=some [aJ sz L]:=by cases L<;>rfl
def cU(sz:Nat)(L:List D):D:=match L with
 |[]=>.sl .nil 0 []
 |L=>.sl .ro sz L
theorem ev(sz:Nat)(L:List D):aa (aJ sz L)=.d (cU sz L):=by cases L<;>rfl
theorem ed(sz:Nat)(L:List D):cw sz L (cU sz L):=by cases L with
 |nil=>exact .nil 0 rfl
 |cons a L=>exact .ro
theorem eN{sz dg:Nat}{L M:List D}{x:SV}{k:SV→Prop}(hx:elems sz x=some M)(hb:(L.length+M.length)*dg≤140737488355328)(hk:k (aJ sz (L++M))):cm sz dg (aJ sz L) x k:=by
 unfold cm
 cases L with
 |nil=>
  have:kH sz (aJ sz []) x=some (aJ sz M,M.length):=by
   simp only[aJ,kH,hx]
   cases M with
   |nil=>rfl
   |cons a M=>rfl
  rw[this]
  exact⟨by simpa using hb,hk⟩
 |cons a L=>
  have:kH sz (aJ sz (a::L)) x=some (aJ sz (a::L++M),(a::L).length +M.length):=by
   simp only[aJ,kH,hx,↓reduceIte,List.cons_append]
  rw[this]
  exact⟨hb,hk⟩
def gO(sz:Nat)(L M:List D):SV:=if M=[]then .full sz L else .own sz (L++M)
theorem G0{sz dg:Nat}{L M:List D}{x:SV}{k:SV→Prop}(hx:elems sz x=some M)(hb:(L.length+M.length)*dg≤140737488355328)(hk:k (gO sz L M)):cm sz dg (.full sz L) x k:=by
 unfold cm
 by_cases hM:M=[]
 ·have:kH sz (.full sz L) x=some (gO sz L M,L.length):=by
   simp only[kH,hx,hM,↓reduceIte,gO]
  rw[this]
  refine⟨?_,hk⟩
  exact Nat.le_trans (Nat.mul_le_mul_right _ (Nat.le_add_right _ _)) hb
 ·have:kH sz (.full sz L) x=some (gO sz L M,L.length+M.length):=by
   simp only[kH,hx,hM,↓reduceIte,gO]
  rw[this]
  exact⟨hb,hk⟩
theorem Hm(sz:Nat)(L M:List D):ft sz (L++M) (aa (gO sz L M)):=by
 unfold gO
 by_cases hM:M=[]
 ·rw[if_pos hM,hM,List.append_nil];exact .full
 ·rw[if_neg hM];exact .ro
theorem jk(sz:Nat)(L:List D):elems sz (.full sz L)=some L:=by simp[elems]
theorem Hn{sz:Nat}{L:List D}{x:SV}(h:ft sz L x):Ab.elems sz x=some L:=h.elems.1
theorem j3(s:List UInt8):aM [(0,.v (.d (.str s)))]=some [(0,.str s)]:=rfl
theorem j6(s:List UInt8):bY 1 1 [(0,.str s)]=true:=rfl
theorem j4(z:D)(s:List UInt8):bW z [(0,.str s)] 1 0=[.str s]:=rfl
theorem DT{s:List UInt8}{i:Nat}{b:UInt8}(h:s[i]? =some b):lQ (.d (.str s)) (.d (.int .i64 (i:Int)))=some (.d (.int .u8 (b.toNat:Int))):=by
 have hi:i<s.length:=(List.getElem?_eq_some_iff.1 h).1
 unfold lQ
 simp only[kU hi,h]
theorem YZ{s:List UInt8}{i j:Nat}(je:i≤j)(hj:j≤s.length):HL (.d (.str s)) (some (.d (.int .i64 (i:Int)))) (some (.d (.int .i64 (j:Int)))) none=some (.d (.str ((s.take j).drop i))):=by
 simp only[HL,DI,tB,qo,kU (show j<s.length+1 by omega),kU (show i<j+1 by omega)]
theorem kB(s:List UInt8):sc (.d (.str s))=some (.d (.int .i64 (s.length:Int))):=rfl
theorem Ho{s:List UInt8}{rest:List SV}(h:SV.fS (.d (.str s)::rest)):s.length≤maxLen:=by
 have:=(SV.iA _).1 h (.d (.str s)) (by simp)
 simpa[SV.Wf,D.Wf]using this
theorem aa9{sz:Nat}{L:List D}{x:SV}(h:ft sz L x){i:Nat}(hi:i≤L.length):∃y,DR sz x none (some (.d (.int .i64 (i:Int)))) none=some (.d y)∧cw sz (L.take i) y:=by
 cases h with
 |nil s h=>
  subst h
  have:i=0:=by simpa using hi
  subst this
  exact⟨.sl .nil sz [],rfl,.nil sz rfl⟩
 |ro=>exact⟨.sl .ro sz (L.take i),by simp[DR,cS,y6,tB,qo,kU (show i<L.length+1 by omega)],.ro⟩
 |full=>exact⟨.sl .ro sz (L.take i),by simp[DR,cS,y6,tB,qo,kU (show i<L.length+1 by omega)],.ro⟩
end Go.Proofs.YtaknajjmldngiaaGreat.Ab
namespace Go.Proofs.YtaknajjmldngiaaGreat.Ab
open Go
theorem wrap32(n:Int):IntKind.u32.wrap n=n % 2^32:=by simp[IntKind.wrap,IntKind.signed,IntKind.bits]
theorem Le(x:BitVec 32):BitVec.ofInt 32 (x.toNat:Int)=x:=by
 apply BitVec.eq_of_toNat_eq
 simp
theorem orU(x y:BitVec 32):ah none .or (.d (dU x)) (.d (dU y))=some (.d (dU (x|||y))):=by
 simp only[ah,ej,dU,gp,wrap32,↓reduceIte]
 have h:=Int.emod_eq_of_lt (Int.natCast_nonneg (x|||y).toNat) (b:=2^32) (by have:=(x|||y).isLt;omega)
 have h1:BitVec.ofInt IntKind.u32.bits (x.toNat:Int)=x:=Le x
 have h2:BitVec.ofInt IntKind.u32.bits (y.toNat:Int)=y:=Le y
 rw[h1,h2]
 exact congrArg (fun z=>some (SV.d (.int .u32 z))) h
theorem afB(x:BitVec 32)(k:IntKind)(n:Nat):ah none .shr (.d (dU x)) (.d (.int k (n:Int)))=some (.d (dU (x>>>n))):=by
 simp only[ah,ej,dU,vb,IntKind.bits]
 rw[if_neg (by omega)]
 simp only[Int.toNat_natCast]
 have:((x.toNat:Int)).fdiv (2^min n 32)=((x>>>n).toNat :Int):=by
  rw[Int.fdiv_eq_ediv_of_nonneg _ (Int.le_of_lt (Int.pow_pos (by decide))),BitVec.toNat_ushiftRight,Nat.shiftRight_eq_div_pow]
  have e:((2:Int)^min n 32)=((2^min n 32:Nat):Int):=by simp
  rw[e,←Int.natCast_ediv]
  congr 1
  rcases Nat.le_total n 32 with h|h
  ·rw[Nat.min_eq_left h]
  ·rw[Nat.min_eq_right h,Nat.div_eq_of_lt x.isLt,Nat.div_eq_of_lt]
   exact Nat.lt_of_lt_of_le x.isLt (Nat.pow_le_pow_right (by decide) h)
 exact congrArg (fun z=>some (SV.d (.int .u32 z))) this
theorem OL{x y:BitVec 32}:((x.toNat:Int)==(y.toNat:Int))=(x==y):=by
 rw[Bool.eq_iff_iff,beq_iff_eq,beq_iff_eq,Int.ofNat_inj,BitVec.toNat_inj]
theorem Rt(x y:BitVec 32):ah (some (false,[.int])) .eql (.d (dU x)) (.d (dU y))=some (.d (.bool (x==y))):=by
 simp only[ah,ej,dU,gp,↓reduceIte,OL]
theorem Ru(x y:BitVec 32):ah (some (false,[.int])) .neq (.d (dU x)) (.d (dU y))=some (.d (.bool (x != y))):=by
 simp only[ah,ej,dU,gp,↓reduceIte,bne,OL]
theorem afC(x:BitVec 32):ah (some (false,[.int])) .eql (.d (dU x)) (.d (.int .u32 0))=some (.d (.bool (x==0))):=Rt x 0
theorem afD(x:BitVec 32):ah (some (false,[.int])) .neq (.d (dU x)) (.d (.int .u32 0))=some (.d (.bool (x != 0))):=Ru x 0
theorem afE(x:BitVec 64):ah (some (false,[.int])) .eql (.d (dW x)) (.d (.int .u64 0))=some (.d (.bool (x==0))):=Ns x 0
theorem afF(x:BitVec 64):ah (some (false,[.int])) .neq (.d (dW x)) (.d (.int .u64 0))=some (.d (.bool (x != 0))):=GX x 0
def iY(s:List UInt8)(l:List (List UInt8)):Bool:=l.any (· ==s)
theorem Nv{s:List UInt8}{l:List (List UInt8)}:iY s l=true↔s∈l:=by
 simp[iY]
theorem Nw{s t:List UInt8}{l:List (List UInt8)}{i:Nat}(h:l[i]? =some t)(he:(t==s)=true):iY s l=true:=by
 rw[Nv]
 have:t=s:=by simpa using he
 subst this
 exact List.mem_of_getElem? h
theorem MP{s:List UInt8}{l:List (List UInt8)}(h:∀(i:Nat)t,l[i]? =some t→(t==s)=false):iY s l=false:=by
 cases hh:iY s l with
 |false=>rfl
 |true=>
  obtain⟨i,hi⟩:=List.mem_iff_getElem?.1 (Nv.1 hh)
  have:=h i s hi
  simp at this
def Hp(l xL:List (List UInt8)):Prop:=∀(i:Nat)s,l[i]? =some s→iY s (l.take i)=false∧iY s xL=false
def jV(l:List cg):List (List UInt8):=l.flatMap fun t=>t.name::t.fX
theorem XF{l:List cg}{i:Nat}{t:cg}(h:l[i]? =some t):jV (l.take (i+1))=jV (l.take i)++[t.name]++t.fX:=by
 have:l.take (i+1)=l.take i++[t]:=by
  rw[List.take_add_one,h];rfl
 rw[this,jV,jV,List.flatMap_append]
 simp
theorem Hq{l:List cg}{m:Nat}(h:∀t∈l,t.fX.length≤m):(jV l).length ≤l.length*(m+1):=by
 induction l with
 |nil=>simp[jV]
 |cons t l ih=>
  have h1:=h t (by simp)
  have h2:=ih fun t' ht=>h t' (by simp[ht])
  simp only[jV,List.flatMap_cons,List.length_append,List.length_cons]at h2 ⊢
  rw[Nat.add_mul]
  omega
theorem iT{α:Type}{l:List α}{i:Nat}{x:α}(h:l[i]? =some x):l.take (i+1)=l.take i++[x]:=by
 rw[List.take_add_one,h];rfl
theorem yj{α:Type}(f:α→List UInt8){l:List α}{i:Nat}{x:α}(h:l[i]? =some x):bT ((l.take (i+1)).map f)=bT ((l.take i).map f)++[.str (f x)]:=by
 rw[iT h];simp[bT]
theorem yk{α:Type}(f:α→List UInt8)(l:List α)(i:Nat):(bT ((l.take i).map f)).length ≤i:=by
 rw[fO,List.length_map,List.length_take];omega
theorem XG(sz:Nat):SV.d (.sl .nil 0 [])=aJ sz []:=rfl
def Ei{α:Type}(f:α→List UInt8)(l:List α):Prop:=∀(i:Nat)x,l[i]? =some x→iY (f x) ((l.take i).map f)=false
theorem Nx{sz dg:Nat}{L M N:List D}{x:SV}{k:SV→Prop}(hx:elems sz x=some N)(hb:(L.length+M.length+N.length)*dg≤140737488355328)(hk:k (gO sz L (M++N))):cm sz dg (gO sz L M) x k:=by
 by_cases hM:M=[]
 ·subst hM
  rw[gO,if_pos rfl]
  exact G0 hx (by simpa using hb) hk
 ·have e:gO sz L M=.own sz (L++M):=by rw[gO,if_neg hM]
  have e':gO sz L (M++N)=.own sz (L++(M++N)):=by rw[gO,if_neg (by simp[hM])]
  rw[e]
  rw[e']at hk
  unfold cm
  have:kH sz (.own sz (L++M)) x=some (.own sz (L++(M++N)),(L++M).length +N.length):=by
   simp only[kH,hx,↓reduceIte,List.append_assoc]
  rw[this]
  exact⟨by rw[List.length_append];exact hb,hk⟩
theorem Wt(sz:Nat)(L:List D):SV.full sz L=gO sz L []:=by rw[gO,if_pos rfl]
theorem XH(t:bX)(s:List UInt8):∃b,ah (some (true,[.str,.int,.int,.int,.int,.int,.int,.int,.int])) .neq (.d t.enc) (.d (.agg [.str s,.int .u64 0,.int .u64 0,.int .u64 0,.int .u64 0,.int .u64 0,.int .u64 0,.int .u64 0,.int .u64 0]))=some (.d (.bool b))∧(b=false→t.name=s):=by
 refine⟨_,by simp only[ah,ej,bX.enc,dO,dW,Bool.and_self,cond_true,eW,jG,↓reduceIte];rfl,fun h=>?_⟩
 simp at h
 exact h.1
def vE(a b:Nat→BitVec 64):Bool:=g9 (fun k=>a k&&& ~~~ b k) fun _=>0
end Go.Proofs.YtaknajjmldngiaaGreat.Ab
namespace Go.Proofs.YtaknajjmldngiaaGreat.Ab
open Go
theorem sP:((((((((∀(t:cL),ax (SV.d (cL.enc t))=some (cL.cells t))∧((∀(t:cL),List.length (cL.cells t)=2)∧(∀(t:cL),ag true 2 0 (cL.cells t)=some (SV.d (cL.enc t)))))∧(((∀(t:cL),az true 2 (SV.aA (cL.enc t) 0)=some (SV.d (cL.enc t)))∧(∀(t:cL)(a0 a1:SV),setAt [a0,a1] 0 (cL.cells t)=cL.cells t))∧((∀(t:cL),ag false 1 0 (cL.cells t)=some (SV.d (D.str (cL.name t))))∧(∀(t:cL),az false 1 (SV.aA (cL.enc t) 0)=some (SV.d (D.str (cL.name t)))))))∧(((∀(t:cL),ag false 1 1 (cL.cells t)=some (SV.d (cL.tm t)))∧((∀(t:cL),az false 1 (SV.aA (cL.enc t) 1)=some (SV.d (cL.tm t)))∧(∀(t:cL),aD (SV.d (cL.tm t))=some (SV.d (D.int IntKind.i64 ↑(List.length (cL.perms t)))))))∧(((∀(t:cg),ax (SV.d (cg.enc t))=some (cg.cells t))∧(∀(t:cg),List.length (cg.cells t)=3))∧((∀(t:cg),ag true 3 0 (cg.cells t)=some (SV.d (cg.enc t)))∧(∀(t:cg),az true 3 (SV.aA (cg.enc t) 0)=some (SV.d (cg.enc t)))))))∧((((∀(t:cg)(a0 a1 a2:SV),setAt [a0,a1,a2] 0 (cg.cells t)=cg.cells t)∧((∀(t:cg),ag false 1 0 (cg.cells t)=some (SV.d (D.str (cg.name t))))∧(∀(t:cg),az false 1 (SV.aA (cg.enc t) 0)=some (SV.d (D.str (cg.name t))))))∧(((∀(t:cg),ag false 1 1 (cg.cells t)=some (SV.d (cg.tO t)))∧(∀(t:cg),az false 1 (SV.aA (cg.enc t) 1)=some (SV.d (cg.tO t))))∧((∀(t:cg),aD (SV.d (cg.tO t))=some (SV.d (D.int IntKind.i64 ↑(List.length (cg.fX t)))))∧(∀(t:cg),ag false 1 2 (cg.cells t)=some (SV.d (D.bool (cg.pm t)))))))∧(((∀(t:cg),az false 1 (SV.aA (cg.enc t) 2)=some (SV.d (D.bool (cg.pm t))))∧((∀(t:cM),ax (SV.d (cM.enc t))=some (cM.cells t))∧(∀(t:cM),List.length (cM.cells t)=5)))∧(((∀(t:cM),ag true 5 0 (cM.cells t)=some (SV.d (cM.enc t)))∧(∀(t:cM),az true 5 (SV.aA (cM.enc t) 0)=some (SV.d (cM.enc t))))∧((∀(t:cM)(a0 a1 a2 a3 a4:SV),setAt [a0,a1,a2,a3,a4] 0 (cM.cells t)=cM.cells t)∧(∀(t:cM),ag false 1 0 (cM.cells t)=some (SV.d (D.str (cM.name t)))))))))∧(((((∀(t:cM),az false 1 (SV.aA (cM.enc t) 0)=some (SV.d (D.str (cM.name t))))∧((∀(t:cM),ag true 4 1 (cM.cells t)=some (SV.d (bP (cM.w t))))∧(∀(t:cM),az true 4 (SV.aA (cM.enc t) 1)=some (SV.d (bP (cM.w t))))))∧(((∀(t:bX),ax (SV.d (bX.enc t))=some (bX.cells t))∧(∀(t:bX),List.length (bX.cells t)=9))∧((∀(t:bX),ag true 9 0 (bX.cells t)=some (SV.d (bX.enc t)))∧(∀(t:bX),az true 9 (SV.aA (bX.enc t) 0)=some (SV.d (bX.enc t))))))∧(((∀(t:bX)(a0 a1 a2 a3 a4 a5 a6 a7 a8:SV),setAt [a0,a1,a2,a3,a4,a5,a6,a7,a8] 0 (bX.cells t)=bX.cells t)∧((∀(t:bX),ag false 1 0 (bX.cells t)=some (SV.d (D.str (bX.name t))))∧(∀(t:bX),az false 1 (SV.aA (bX.enc t) 0)=some (SV.d (D.str (bX.name t))))))∧(((∀(t:bX),ag true 4 1 (bX.cells t)=some (SV.d (bP (bX.tw t))))∧(∀(t:bX),az true 4 (SV.aA (bX.enc t) 1)=some (SV.d (bP (bX.tw t)))))∧((∀(t:bX),ag true 4 5 (bX.cells t)=some (SV.d (bP (bX.nw t))))∧(∀(t:bX),az true 4 (SV.aA (bX.enc t) 5)=some (SV.d (bP (bX.nw t))))))))∧((((∀(t:bD),ax (SV.d (bD.enc t))=some (bD.cells t))∧((∀(t:bD),List.length (bD.cells t)=11)∧(∀(t:bD),ag true 11 0 (bD.cells t)=some (SV.d (bD.enc t)))))∧(((∀(t:bD),az true 11 (SV.aA (bD.enc t) 0)=some (SV.d (bD.enc t)))∧(∀(t:bD)(a0 a1 a2 a3 a4 a5 a6 a7 a8 a9 kn:SV),setAt [a0,a1,a2,a3,a4,a5,a6,a7,a8,a9,kn] 0 (bD.cells t)=bD.cells t))∧((∀(t:bD),ag false 1 0 (bD.cells t)=some (SV.d (D.str (bD.name t))))∧(∀(t:bD),az false 1 (SV.aA (bD.enc t) 0)=some (SV.d (D.str (bD.name t)))))))∧((((∀(t:bD),ag true 4 1 (bD.cells t)=some (SV.d (bP (bD.rw t))))∧(∀(t:bD),az true 4 (SV.aA (bD.enc t) 1)=some (SV.d (bP (bD.rw t)))))∧((∀(t:bD),ag true 2 5 (bD.cells t)=some (SV.d (ek (bD.df t))))∧(∀(t:bD),az true 2 (SV.aA (bD.enc t) 5)=some (SV.d (ek (bD.df t))))))∧(((∀(t:bD),ag true 4 7 (bD.cells t)=some (SV.d (iu (bD.rg t))))∧(∀(t:bD),az true 4 (SV.aA (bD.enc t) 7)=some (SV.d (iu (bD.rg t)))))∧((∀(t:bD),ag true 2 7 (bD.cells t)=some (SV.d (ek (Prod.fst (bD.rg t)))))∧(∀(t:bD),ag true 2 9 (bD.cells t)=some (SV.d (ek (Prod.snd (bD.rg t)))))))))))∧((((((∀(t:cT),ax (SV.d (cT.enc t))=some (cT.cells t))∧((∀(t:cT),List.length (cT.cells t)=2)∧(∀(t:cT),ag true 2 0 (cT.cells t)=some (SV.d (cT.enc t)))))∧(((∀(t:cT),az true 2 (SV.aA (cT.enc t) 0)=some (SV.d (cT.enc t)))∧(∀(t:cT)(a0 a1:SV),setAt [a0,a1] 0 (cT.cells t)=cT.cells t))∧((∀(t:cT),ag false 1 0 (cT.cells t)=some (SV.d (D.str (cT.name t))))∧(∀(t:cT),az false 1 (SV.aA (cT.enc t) 0)=some (SV.d (D.str (cT.name t)))))))∧(((∀(t:cT),ag false 1 1 (cT.cells t)=some (SV.d (D.bool (cT.v t))))∧((∀(t:cT),az false 1 (SV.aA (cT.enc t) 1)=some (SV.d (D.bool (cT.v t))))∧(∀(t:bh),ax (SV.d (bh.enc t))=some (bh.cells t))))∧(((∀(t:bh),List.length (bh.cells t)=13)∧(∀(t:bh),ag true 13 0 (bh.cells t)=some (SV.d (bh.enc t))))∧((∀(t:bh),az true 13 (SV.aA (bh.enc t) 0)=some (SV.d (bh.enc t)))∧(∀(t:bh)(a0 a1 a2 a3 a4 a5 a6 a7 a8 a9 kn mV mW:SV),setAt [a0,a1,a2,a3,a4,a5,a6,a7,a8,a9,kn,mV,mW] 0 (bh.cells t)=bh.cells t)))))∧((((∀(t:bh),ag false 1 0 (bh.cells t)=some (SV.d (D.int IntKind.i64 (bh.kind t))))∧((∀(t:bh),az false 1 (SV.aA (bh.enc t) 0)=some (SV.d (D.int IntKind.i64 (bh.kind t))))∧(∀(t:bh),ag true 4 1 (bh.cells t)=some (SV.d (bP (bh.sw t))))))∧(((∀(t:bh),az true 4 (SV.aA (bh.enc t) 1)=some (SV.d (bP (bh.sw t))))∧(∀(t:bh),ag true 4 5 (bh.cells t)=some (SV.d (bP (bh.tw t)))))∧((∀(t:bh),az true 4 (SV.aA (bh.enc t) 5)=some (SV.d (bP (bh.tw t))))∧(∀(t:bh),ag false 1 9 (bh.cells t)=some (SV.d (D.bool (bh.self t)))))))∧((((∀(t:bh),az false 1 (SV.aA (bh.enc t) 9)=some (SV.d (D.bool (bh.self t))))∧(∀(t:bh),ag false 1 10 (bh.cells t)=some (SV.d (D.int IntKind.i64 (bh.cls t)))))∧((∀(t:bh),az false 1 (SV.aA (bh.enc t) 10)=some (SV.d (D.int IntKind.i64 (bh.cls t))))∧(∀(t:bh),ag false 1 11 (bh.cells t)=some (SV.d (dU (bh.perms t))))))∧(((∀(t:bh),az false 1 (SV.aA (bh.enc t) 11)=some (SV.d (dU (bh.perms t))))∧(∀(t:bh),ag false 1 12 (bh.cells t)=some (SV.d (D.int IntKind.i64 (bh.cond t)))))∧((∀(t:bh),az false 1 (SV.aA (bh.enc t) 12)=some (SV.d (D.int IntKind.i64 (bh.cond t))))∧(∀(t:aN),ax (SV.d (aN.enc t))=some (aN.cells t)))))))∧(((((∀(t:aN),List.length (aN.cells t)=13)∧((∀(t:aN),ag true 13 0 (aN.cells t)=some (SV.d (aN.enc t)))∧(∀(t:aN),az true 13 (SV.aA (aN.enc t) 0)=some (SV.d (aN.enc t)))))∧(((∀(t:aN)(a0 a1 a2 a3 a4 a5 a6 a7 a8 a9 kn mV mW:SV),setAt [a0,a1,a2,a3,a4,a5,a6,a7,a8,a9,kn,mV,mW] 0 (aN.cells t)=aN.cells t)∧(∀(t:aN),ag false 1 0 (aN.cells t)=some (SV.d (D.int IntKind.i64 (aN.kind t)))))∧((∀(t:aN),az false 1 (SV.aA (aN.enc t) 0)=some (SV.d (D.int IntKind.i64 (aN.kind t))))∧(∀(t:aN),ag true 4 1 (aN.cells t)=some (SV.d (bP (aN.sw t)))))))∧(((∀(t:aN),az true 4 (SV.aA (aN.enc t) 1)=some (SV.d (bP (aN.sw t))))∧((∀(t:aN),ag true 4 5 (aN.cells t)=some (SV.d (bP (aN.tw t))))∧(∀(t:aN),az true 4 (SV.aA (aN.enc t) 5)=some (SV.d (bP (aN.tw t))))))∧(((∀(t:aN),ag false 1 9 (aN.cells t)=some (SV.d (D.int IntKind.i64 (aN.cls t))))∧(∀(t:aN),az false 1 (SV.aA (aN.enc t) 9)=some (SV.d (D.int IntKind.i64 (aN.cls t)))))∧((∀(t:aN),ag false 1 10 (aN.cells t)=some (SV.d (D.str (aN.name t))))∧(∀(t:aN),az false 1 (SV.aA (aN.enc t) 10)=some (SV.d (D.str (aN.name t))))))))∧((((∀(t:aN),ag false 1 11 (aN.cells t)=some (SV.d (D.int IntKind.i64 (aN.res t))))∧((∀(t:aN),az false 1 (SV.aA (aN.enc t) 11)=some (SV.d (D.int IntKind.i64 (aN.res t))))∧(∀(t:aN),ag false 1 12 (aN.cells t)=some (SV.d (D.int IntKind.i64 (aN.cond t))))))∧(((∀(t:aN),az false 1 (SV.aA (aN.enc t) 12)=some (SV.d (D.int IntKind.i64 (aN.cond t))))∧(∀(t:bU),ax (SV.d (bU.enc t))=some (bU.cells t)))∧((∀(t:bU),List.length (bU.cells t)=10)∧(∀(t:bU),ag true 10 0 (bU.cells t)=some (SV.d (bU.enc t))))))∧((((∀(t:bU),az true 10 (SV.aA (bU.enc t) 0)=some (SV.d (bU.enc t)))∧(∀(t:bU)(a0 a1 a2 a3 a4 a5 a6 a7 a8 a9:SV),setAt [a0,a1,a2,a3,a4,a5,a6,a7,a8,a9] 0 (bU.cells t)=bU.cells t))∧((∀(t:bU),ag true 4 0 (bU.cells t)=some (SV.d (bP (bU.rw t))))∧(∀(t:bU),az true 4 (SV.aA (bU.enc t) 0)=some (SV.d (bP (bU.rw t))))))∧(((∀(t:bU),ag true 4 4 (bU.cells t)=some (SV.d (bP (bU.tw t))))∧(∀(t:bU),az true 4 (SV.aA (bU.enc t) 4)=some (SV.d (bP (bU.tw t)))))∧((∀(t:bU),ag false 1 8 (bU.cells t)=some (SV.d (D.int IntKind.i64 (bU.cls t))))∧(∀(t:bU),az false 1 (SV.aA (bU.enc t) 8)=some (SV.d (D.int IntKind.i64 (bU.cls t)))))))))))∧(((((((∀(t:bU),ag false 1 9 (bU.cells t)=some (SV.d (D.int IntKind.i64 (bU.res t))))∧((∀(t:bU),az false 1 (SV.aA (bU.enc t) 9)=some (SV.d (D.int IntKind.i64 (bU.res t))))∧(∀(t:bA),ax (SV.d (bA.enc t))=some (bA.cells t))))∧(((∀(t:bA),List.length (bA.cells t)=13)∧(∀(t:bA),ag true 13 0 (bA.cells t)=some (SV.d (bA.enc t))))∧((∀(t:bA),az true 13 (SV.aA (bA.enc t) 0)=some (SV.d (bA.enc t)))∧(∀(t:bA)(a0 a1 a2 a3 a4 a5 a6 a7 a8 a9 kn mV mW:SV),setAt [a0,a1,a2,a3,a4,a5,a6,a7,a8,a9,kn,mV,mW] 0 (bA.cells t)=bA.cells t))))∧(((∀(t:bA),ag true 4 0 (bA.cells t)=some (SV.d (bP (bA.sw t))))∧((∀(t:bA),az true 4 (SV.aA (bA.enc t) 0)=some (SV.d (bP (bA.sw t))))∧(∀(t:bA),ag true 4 4 (bA.cells t)=some (SV.d (bP (bA.tw t))))))∧(((∀(t:bA),az true 4 (SV.aA (bA.enc t) 4)=some (SV.d (bP (bA.tw t))))∧(∀(t:bA),ag false 1 8 (bA.cells t)=some (SV.d (D.int IntKind.i64 (bA.cls t)))))∧((∀(t:bA),az false 1 (SV.aA (bA.enc t) 8)=some (SV.d (D.int IntKind.i64 (bA.cls t))))∧(∀(t:bA),ag true 4 9 (bA.cells t)=some (SV.d (iu (bA.rg t))))))))∧((((∀(t:bA),az true 4 (SV.aA (bA.enc t) 9)=some (SV.d (iu (bA.rg t))))∧((∀(t:bA),ag true 2 9 (bA.cells t)=some (SV.d (ek (Prod.fst (bA.rg t)))))∧(∀(t:bA),ag true 2 11 (bA.cells t)=some (SV.d (ek (Prod.snd (bA.rg t)))))))∧(((∀(t:bN),ax (SV.d (bN.enc t))=some (bN.cells t))∧(∀(t:bN),List.length (bN.cells t)=13))∧((∀(t:bN),ag true 13 0 (bN.cells t)=some (SV.d (bN.enc t)))∧(∀(t:bN),az true 13 (SV.aA (bN.enc t) 0)=some (SV.d (bN.enc t))))))∧(((∀(t:bN)(a0 a1 a2 a3 a4 a5 a6 a7 a8 a9 kn mV mW:SV),setAt [a0,a1,a2,a3,a4,a5,a6,a7,a8,a9,kn,mV,mW] 0 (bN.cells t)=bN.cells t)∧((∀(t:bN),ag false 1 0 (bN.cells t)=some (SV.d (D.int IntKind.i64 (bN.cls t))))∧(∀(t:bN),az false 1 (SV.aA (bN.enc t) 0)=some (SV.d (D.int IntKind.i64 (bN.cls t))))))∧(((∀(t:bN),ag false 1 1 (bN.cells t)=some (SV.d (dU (bN.perms t))))∧(∀(t:bN),az false 1 (SV.aA (bN.enc t) 1)=some (SV.d (dU (bN.perms t)))))∧((∀(t:bN),ag false 1 2 (bN.cells t)=some (SV.d (D.bool (bN.val t))))∧(∀(t:bN),az false 1 (SV.aA (bN.enc t) 2)=some (SV.d (D.bool (bN.val t)))))))))∧(((((∀(t:bN),ag true 10 3 (bN.cells t)=some (SV.d (D.agg (lF (Xp.op (bN.e t)) (Xp.a (bN.e t)) (Xp.rel (bN.e t)) (Xp.b (bN.e t)) (bN.nm t) (Xp.w (bN.e t)) (bN.kd t)))))∧((∀(t:bN),az true 10 (SV.aA (bN.enc t) 3)=some (SV.d (D.agg (lF (Xp.op (bN.e t)) (Xp.a (bN.e t)) (Xp.rel (bN.e t)) (Xp.b (bN.e t)) (bN.nm t) (Xp.w (bN.e t)) (bN.kd t)))))∧(∀(t:cj),ax (SV.d (cj.enc t))=some (cj.cells t))))∧(((∀(t:cj),List.length (cj.cells t)=8)∧(∀(t:cj),ag true 8 0 (cj.cells t)=some (SV.d (cj.enc t))))∧((∀(t:cj),az true 8 (SV.aA (cj.enc t) 0)=some (SV.d (cj.enc t)))∧(∀(t:cj)(a0 a1 a2 a3 a4 a5 a6 a7:SV),setAt [a0,a1,a2,a3,a4,a5,a6,a7] 0 (cj.cells t)=cj.cells t))))∧(((∀(t:cj),ag false 1 0 (cj.cells t)=some (SV.d (D.str (cj.name t))))∧((∀(t:cj),az false 1 (SV.aA (cj.enc t) 0)=some (SV.d (D.str (cj.name t))))∧(∀(t:cj),ag true 7 1 (cj.cells t)=some (SV.d (gN (cj.ctx t))))))∧(((∀(t:cj),az true 7 (SV.aA (cj.enc t) 1)=some (SV.d (gN (cj.ctx t))))∧(∀(t:cj),ag false 1 1 (cj.cells t)=some (SV.d (D.int IntKind.i64 (dn.u (cj.ctx t))))))∧((∀(t:cj),ag false 1 2 (cj.cells t)=some (SV.d (D.int IntKind.i64 (dn.r (cj.ctx t)))))∧(∀(t:cj),ag false 1 3 (cj.cells t)=some (SV.d (D.int IntKind.i64 (dn.t (cj.ctx t)))))))))∧((((∀(t:bO),ax (SV.d (bO.enc t))=some (bO.cells t))∧((∀(t:bO),List.length (bO.cells t)=9)∧(∀(t:bO),ag true 9 0 (bO.cells t)=some (SV.d (bO.enc t)))))∧(((∀(t:bO),az true 9 (SV.aA (bO.enc t) 0)=some (SV.d (bO.enc t)))∧(∀(t:bO)(a0 a1 a2 a3 a4 a5 a6 a7 a8:SV),setAt [a0,a1,a2,a3,a4,a5,a6,a7,a8] 0 (bO.cells t)=bO.cells t))∧((∀(t:bO),ag false 1 0 (bO.cells t)=some (SV.d (D.str (bO.pat t))))∧(∀(t:bO),az false 1 (SV.aA (bO.enc t) 0)=some (SV.d (D.str (bO.pat t)))))))∧((((∀(t:bO),ag false 1 1 (bO.cells t)=some (SV.d (D.int IntKind.i64 (bO.kind t))))∧(∀(t:bO),az false 1 (SV.aA (bO.enc t) 1)=some (SV.d (D.int IntKind.i64 (bO.kind t)))))∧((∀(t:bO),ag true 7 2 (bO.cells t)=some (SV.d (gN (bO.ctx t))))∧(∀(t:bO),az true 7 (SV.aA (bO.enc t) 2)=some (SV.d (gN (bO.ctx t))))))∧(((∀(t:bO),ag false 1 2 (bO.cells t)=some (SV.d (D.int IntKind.i64 (dn.u (bO.ctx t)))))∧(∀(t:bO),ag false 1 3 (bO.cells t)=some (SV.d (D.int IntKind.i64 (dn.r (bO.ctx t))))))∧((∀(t:bO),ag false 1 4 (bO.cells t)=some (SV.d (D.int IntKind.i64 (dn.t (bO.ctx t)))))∧(∀(t:b5),ax (SV.d (b5.enc t))=some (b5.cells t))))))))∧((((((∀(t:b5),List.length (b5.cells t)=10)∧((∀(t:b5),ag true 10 0 (b5.cells t)=some (SV.d (b5.enc t)))∧(∀(t:b5),az true 10 (SV.aA (b5.enc t) 0)=some (SV.d (b5.enc t)))))∧(((∀(t:b5)(a0 a1 a2 a3 a4 a5 a6 a7 a8 a9:SV),setAt [a0,a1,a2,a3,a4,a5,a6,a7,a8,a9] 0 (b5.cells t)=b5.cells t)∧(∀(t:b5),ag false 1 0 (b5.cells t)=some (SV.d (D.str (b5.name t)))))∧((∀(t:b5),az false 1 (SV.aA (b5.enc t) 0)=some (SV.d (D.str (b5.name t))))∧(∀(t:b5),ag false 1 1 (b5.cells t)=some (SV.d (D.int IntKind.i64 (b5.kind t)))))))∧(((∀(t:b5),az false 1 (SV.aA (b5.enc t) 1)=some (SV.d (D.int IntKind.i64 (b5.kind t))))∧((∀(t:b5),ag true 4 2 (b5.cells t)=some (SV.d (bP (b5.sw t))))∧(∀(t:b5),az true 4 (SV.aA (b5.enc t) 2)=some (SV.d (bP (b5.sw t))))))∧(((∀(t:b5),ag true 4 6 (b5.cells t)=some (SV.d (bP (b5.tw t))))∧(∀(t:b5),az true 4 (SV.aA (b5.enc t) 6)=some (SV.d (bP (b5.tw t)))))∧((∀(p:aq),ax (SV.d (dv p))=some (bG p))∧(∀(p:aq),List.length (bG p)=17)))))∧((((∀(p:aq),ag true 17 0 (bG p)=some (SV.d (dv p)))∧((∀(p:aq),ag false 1 0 (bG p)=some (SV.d (aq.sM p)))∧(∀(p:aq),aD (SV.d (aq.sM p))=some (SV.d (D.int IntKind.i64 ↑(List.length (aq.cl p)))))))∧(((∀(p:aq),ag false 1 1 (bG p)=some (SV.d (aq.sN p)))∧(∀(p:aq),aD (SV.d (aq.sN p))=some (SV.d (D.int IntKind.i64 ↑(List.length (aq.ty p))))))∧((∀(p:aq),ag false 1 2 (bG p)=some (SV.d (aq.sf p)))∧(∀(p:aq),aD (SV.d (aq.sf p))=some (SV.d (D.int IntKind.i64 ↑(List.length (aq.at_ p))))))))∧((((∀(p:aq),ag false 1 3 (bG p)=some (SV.d (aq.sO p)))∧(∀(p:aq),aD (SV.d (aq.sO p))=some (SV.d (D.int IntKind.i64 ↑(List.length (aq.ro p))))))∧((∀(p:aq),ag false 1 4 (bG p)=some (SV.d (aq.sQ p)))∧(∀(p:aq),aD (SV.d (aq.sQ p))=some (SV.d (D.int IntKind.i64 ↑(List.length (aq.us p)))))))∧(((∀(p:aq),ag false 1 5 (bG p)=some (SV.d (aq.sR p)))∧(∀(p:aq),aD (SV.d (aq.sR p))=some (SV.d (D.int IntKind.i64 ↑(List.length (aq.bo p))))))∧((∀(p:aq),ag false 1 6 (bG p)=some (SV.d (aq.uu p)))∧(∀(p:aq),aD (SV.d (aq.uu p))=some (SV.d (D.int IntKind.i64 ↑(List.length (aq.se p))))))))))∧(((((∀(p:aq),ag false 1 7 (bG p)=some (SV.d (aq.uv p)))∧((∀(p:aq),aD (SV.d (aq.uv p))=some (SV.d (D.int IntKind.i64 ↑(List.length (aq.ca p)))))∧(∀(p:aq),ag false 1 8 (bG p)=some (SV.d (aq.pQ p)))))∧(((∀(p:aq),aD (SV.d (aq.pQ p))=some (SV.d (D.int IntKind.i64 ↑(List.length (aq.co p)))))∧(∀(p:aq),ag false 1 9 (bG p)=some (SV.d (aq.qY p))))∧((∀(p:aq),aD (SV.d (aq.qY p))=some (SV.d (D.int IntKind.i64 ↑(List.length (aq.ru p)))))∧(∀(p:aq),ag false 1 10 (bG p)=some (SV.d (aq.qZ p))))))∧(((∀(p:aq),aD (SV.d (aq.qZ p))=some (SV.d (D.int IntKind.i64 ↑(List.length (aq.tr p)))))∧((∀(p:aq),ag false 1 11 (bG p)=some (SV.d (aq.uw p)))∧(∀(p:aq),aD (SV.d (aq.uw p))=some (SV.d (D.int IntKind.i64 ↑(List.length (aq.rt p)))))))∧(((∀(p:aq),ag false 1 12 (bG p)=some (SV.d (aq.ux p)))∧(∀(p:aq),aD (SV.d (aq.ux p))=some (SV.d (D.int IntKind.i64 ↑(List.length (aq.ra p))))))∧((∀(p:aq),ag false 1 13 (bG p)=some (SV.d (aq.rb p)))∧(∀(p:aq),aD (SV.d (aq.rb p))=some (SV.d (D.int IntKind.i64 ↑(List.length (aq.cs p)))))))))∧((((∀(p:aq),ag false 1 14 (bG p)=some (SV.d (aq.re p)))∧((∀(p:aq),aD (SV.d (aq.re p))=some (SV.d (D.int IntKind.i64 ↑(List.length (aq.si p)))))∧(∀(p:aq),ag false 1 15 (bG p)=some (SV.d (aq.uy p)))))∧(((∀(p:aq),aD (SV.d (aq.uy p))=some (SV.d (D.int IntKind.i64 ↑(List.length (aq.fi p)))))∧(∀(p:aq),ag false 1 16 (bG p)=some (SV.d (aq.qA p))))∧((∀(p:aq),aD (SV.d (aq.qA p))=some (SV.d (D.int IntKind.i64 ↑(List.length (aq.mX p)))))∧(∀(r:(Int×BitVec 64)×Int×BitVec 64),ax (SV.d (iu r))=some (sL r)))))∧((((∀(r:(Int×BitVec 64)×Int×BitVec 64),List.length (sL r)=4)∧(∀(r:(Int×BitVec 64)×Int×BitVec 64),ag true 4 0 (sL r)=some (SV.d (iu r))))∧((∀(r:(Int×BitVec 64)×Int×BitVec 64),ag true 2 0 (sL r)=some (SV.d (ek (Prod.fst r))))∧(∀(r:(Int×BitVec 64)×Int×BitVec 64),ag true 2 2 (sL r)=some (SV.d (ek (Prod.snd r))))))∧(((∀(r:(Int×BitVec 64)×Int×BitVec 64),nv true 2 0 (SV.d (iu r))=some (SV.d (ek (Prod.fst r))))∧(∀(r:(Int×BitVec 64)×Int×BitVec 64),nv true 2 2 (SV.d (iu r))=some (SV.d (ek (Prod.snd r)))))∧((∀(x:dn),ag true 4 3 (iX x)=some (SV.d (iu ((dn.ls x,dn.lc x),dn.hs x,dn.hc x))))∧(∀(t:gF),az true 10 (SV.aA (gF.enc t) 0)=some (SV.d (gF.enc t))))))))))):=⟨⟨⟨⟨⟨⟨⟨@cL.c,⟨@cL.n,@cL.a⟩⟩,⟨⟨@cL.ld,@cL.st⟩,⟨@cL.lg,@cL.lh⟩⟩⟩,⟨⟨@cL.AJ,⟨@cL.AK,@cL.YY⟩⟩,⟨⟨@cg.c,@cg.n⟩,⟨@cg.a,@cg.ld⟩⟩⟩⟩,⟨⟨⟨@cg.st,⟨@cg.lg,@cg.lh⟩⟩,⟨⟨@cg.adI,@cg.adJ⟩,⟨@cg.adK,@cg.aeX⟩⟩⟩,⟨⟨@cg.aeY,⟨@cM.c,@cM.n⟩⟩,⟨⟨@cM.a,@cM.ld⟩,⟨@cM.st,@cM.lg⟩⟩⟩⟩⟩,⟨⟨⟨⟨@cM.lh,⟨@cM.p_w,@cM.l_w⟩⟩,⟨⟨@bX.c,@bX.n⟩,⟨@bX.a,@bX.ld⟩⟩⟩,⟨⟨@bX.st,⟨@bX.lg,@bX.lh⟩⟩,⟨⟨@bX.qw,@bX.qz⟩,⟨@bX.aeZ,@bX.ae0⟩⟩⟩⟩,⟨⟨⟨@bD.c,⟨@bD.n,@bD.a⟩⟩,⟨⟨@bD.ld,@bD.st⟩,⟨@bD.lg,@bD.lh⟩⟩⟩,⟨⟨⟨@bD.IZ,@bD.I0⟩,⟨@bD.ae1,@bD.ae2⟩⟩,⟨⟨@bD.I7,@bD.Ja⟩,⟨@bD.Jb,@bD.Jc⟩⟩⟩⟩⟩⟩,⟨⟨⟨⟨⟨@cT.c,⟨@cT.n,@cT.a⟩⟩,⟨⟨@cT.ld,@cT.st⟩,⟨@cT.lg,@cT.lh⟩⟩⟩,⟨⟨@cT.p_v,⟨@cT.l_v,@bh.c⟩⟩,⟨⟨@bh.n,@bh.a⟩,⟨@bh.ld,@bh.st⟩⟩⟩⟩,⟨⟨⟨@bh.wG,⟨@bh.wH,@bh.wY⟩⟩,⟨⟨@bh.wZ,@bh.qw⟩,⟨@bh.qz,@bh.aa7⟩⟩⟩,⟨⟨⟨@bh.aa8,@bh.tz⟩,⟨@bh.tA,@bh.AJ⟩⟩,⟨⟨@bh.AK,@bh.HQ⟩,⟨@bh.HR,@aN.c⟩⟩⟩⟩⟩,⟨⟨⟨⟨@aN.n,⟨@aN.a,@aN.ld⟩⟩,⟨⟨@aN.st,@aN.wG⟩,⟨@aN.wH,@aN.wY⟩⟩⟩,⟨⟨@aN.wZ,⟨@aN.qw,@aN.qz⟩⟩,⟨⟨@aN.tz,@aN.tA⟩,⟨@aN.lg,@aN.lh⟩⟩⟩⟩,⟨⟨⟨@aN.Ip,⟨@aN.Iq,@aN.HQ⟩⟩,⟨⟨@aN.HR,@bU.c⟩,⟨@bU.n,@bU.a⟩⟩⟩,⟨⟨⟨@bU.ld,@bU.st⟩,⟨@bU.IZ,@bU.I0⟩⟩,⟨⟨@bU.qw,@bU.qz⟩,⟨@bU.tz,@bU.tA⟩⟩⟩⟩⟩⟩⟩,⟨⟨⟨⟨⟨⟨@bU.Ip,⟨@bU.Iq,@bA.c⟩⟩,⟨⟨@bA.n,@bA.a⟩,⟨@bA.ld,@bA.st⟩⟩⟩,⟨⟨@bA.wY,⟨@bA.wZ,@bA.qw⟩⟩,⟨⟨@bA.qz,@bA.tz⟩,⟨@bA.tA,@bA.I7⟩⟩⟩⟩,⟨⟨⟨@bA.Ja,⟨@bA.Jb,@bA.Jc⟩⟩,⟨⟨@bN.c,@bN.n⟩,⟨@bN.a,@bN.ld⟩⟩⟩,⟨⟨@bN.st,⟨@bN.tz,@bN.tA⟩⟩,⟨⟨@bN.AJ,@bN.AK⟩,⟨@bN.adL,@bN.adM⟩⟩⟩⟩⟩,⟨⟨⟨⟨@bN.p_e,⟨@bN.l_e,@cj.c⟩⟩,⟨⟨@cj.n,@cj.a⟩,⟨@cj.ld,@cj.st⟩⟩⟩,⟨⟨@cj.lg,⟨@cj.lh,@cj.Ir⟩⟩,⟨⟨@cj.It,@cj.HS⟩,⟨@cj.HT,@cj.HU⟩⟩⟩⟩,⟨⟨⟨@bO.c,⟨@bO.n,@bO.a⟩⟩,⟨⟨@bO.ld,@bO.st⟩,⟨@bO.adN,@bO.adO⟩⟩⟩,⟨⟨⟨@bO.wG,@bO.wH⟩,⟨@bO.Ir,@bO.It⟩⟩,⟨⟨@bO.HS,@bO.HT⟩,⟨@bO.HU,@b5.c⟩⟩⟩⟩⟩⟩,⟨⟨⟨⟨⟨@b5.n,⟨@b5.a,@b5.ld⟩⟩,⟨⟨@b5.st,@b5.lg⟩,⟨@b5.lh,@b5.wG⟩⟩⟩,⟨⟨@b5.wH,⟨@b5.wY,@b5.wZ⟩⟩,⟨⟨@b5.qw,@b5.qz⟩,⟨@aq.c,@aq.n⟩⟩⟩⟩,⟨⟨⟨@aq.a,⟨@aq.ae4,@aq.ae5⟩⟩,⟨⟨@aq.ae6,@aq.ae7⟩,⟨@aq.adP,@aq.adQ⟩⟩⟩,⟨⟨⟨@aq.ae8,@aq.ae9⟩,⟨@aq.afa,@aq.afb⟩⟩,⟨⟨@aq.afc,@aq.afd⟩,⟨@aq.aff,@aq.afg⟩⟩⟩⟩⟩,⟨⟨⟨⟨@aq.afh,⟨@aq.afi,@aq.afj⟩⟩,⟨⟨@aq.afk,@aq.afl⟩,⟨@aq.afm,@aq.afo⟩⟩⟩,⟨⟨@aq.afp,⟨@aq.afq,@aq.afr⟩⟩,⟨⟨@aq.afs,@aq.aft⟩,⟨@aq.afu,@aq.afv⟩⟩⟩⟩,⟨⟨⟨@aq.afw,⟨@aq.afx,@aq.afz⟩⟩,⟨⟨@aq.afA,@aq.adS⟩,⟨@aq.adT,@XC⟩⟩⟩,⟨⟨⟨@aa5,@YV⟩,⟨@XD,@XE⟩⟩,⟨⟨@YW,@YX⟩,⟨@Ws,@gF.ld⟩⟩⟩⟩⟩⟩⟩⟩
end Go.Proofs.YtaknajjmldngiaaGreat.Ab
namespace Go.Proofs.YtaknajjmldngiaaGreat.Ab
open Go
theorem sW:(((((∀(x y:BitVec 64),ah none BinOp.and (SV.d (dW x)) (SV.d (dW y))=some (SV.d (dW (x&&& y))))∧(∀(x y:BitVec 64),ah none BinOp.or (SV.d (dW x)) (SV.d (dW y))=some (SV.d (dW (x|||y)))))∧((∀(x y:BitVec 64),ah none BinOp.andNot (SV.d (dW x)) (SV.d (dW y))=some (SV.d (dW (x&&& ~~~y))))∧(∀(x:BitVec 64)(k:IntKind)(n:Nat),ah none BinOp.shr (SV.d (dW x)) (SV.d (D.int k ↑n))=some (SV.d (dW (x>>>n))))))∧(((∀(x y:BitVec 64),ah (some (false,[CK.int])) BinOp.eql (SV.d (dW x)) (SV.d (dW y))=some (SV.d (D.bool (x==y))))∧(∀(x y:BitVec 64),ah (some (false,[CK.int])) BinOp.neq (SV.d (dW x)) (SV.d (dW y))=some (SV.d (D.bool (x != y)))))∧((∀(x:BitVec 64),ah (some (false,[CK.int])) BinOp.eql (SV.d (dW x)) (SV.d (D.int IntKind.u64 0))=some (SV.d (D.bool (x==0))))∧(∀(x:BitVec 64),ah (some (false,[CK.int])) BinOp.neq (SV.d (dW x)) (SV.d (D.int IntKind.u64 0))=some (SV.d (D.bool (x != 0)))))))∧((((∀(x:BitVec 32),ah (some (false,[CK.int])) BinOp.eql (SV.d (dU x)) (SV.d (D.int IntKind.u32 0))=some (SV.d (D.bool (x==0))))∧(∀(x:BitVec 32),ah (some (false,[CK.int])) BinOp.neq (SV.d (dU x)) (SV.d (D.int IntKind.u32 0))=some (SV.d (D.bool (x != 0)))))∧((∀(x y:BitVec 32),ah (some (false,[CK.int])) BinOp.eql (SV.d (dU x)) (SV.d (dU y))=some (SV.d (D.bool (x==y))))∧(∀(x y:BitVec 32),ah (some (false,[CK.int])) BinOp.neq (SV.d (dU x)) (SV.d (dU y))=some (SV.d (D.bool (x != y))))))∧(((∀(x:BitVec 32)(k:IntKind)(n:Nat),ah none BinOp.shr (SV.d (dU x)) (SV.d (D.int k ↑n))=some (SV.d (dU (x>>>n))))∧(∀(x y:BitVec 32),ah none BinOp.or (SV.d (dU x)) (SV.d (dU y))=some (SV.d (dU (x|||y)))))∧((∀(x:D)(o n:Nat),dT (SV.aA x o) n=some (SV.aA x (o+n)))∧((∀(x:D)(o:Nat),aa (SV.aA x o)=SV.aA x o)∧(∀(s:List UInt8),az false 1 (SV.aA (D.str s) 0)=some (SV.d (D.str s)))))))):=⟨⟨⟨⟨@Dx,@OJ⟩,⟨@Gm,@YG⟩⟩,⟨⟨@Ns,@GX⟩,⟨@afE,@afF⟩⟩⟩,⟨⟨⟨@afC,@afD⟩,⟨@Rt,@Ru⟩⟩,⟨⟨@afB,@orU⟩,⟨@YN,⟨@N4,@u6⟩⟩⟩⟩⟩
end Go.Proofs.YtaknajjmldngiaaGreat.Ab
namespace Go.Proofs.YtaknajjmldngiaaGreat.Ab
open Go
def AZ(op:Int):Int:=if op==1 then 0 else if op==8 then 0 else if op==9 then 0 else if op==2 then 1 else if op==3 then 2 else if op==4 then 2 else if op==5 then 2 else if op==6 then 2 else if op==7 then 2 else-1
def BB(i n:Int):Bool:=decide (i≥0)&&decide (i<n)
def jo(nb:Int)(e:Xp):Int:=
 if e.op==8||(e.op==9||(AZ e.op != BA e||(e.rel != 0||(e.b != 0||(decide (IX e>0)||((!g9 e.w zW)||(e.op != 1&&e.a != 0)))))))then 2
 else if e.op==1&& !BB e.a nb then 3 else 0
theorem N7(m:Nat):∀{l:List Xp}{i:Nat}{k:Xp},l[i]? =some k→min (Xp.lv.nT (l.take (i+1))) m=max (min (Xp.lv.nT (l.take i)) m) (min k.lv m)
 |[],i,k,h=>by simp at h
 |x::l,0,k,h=>by simp at h;subst h;simp[Xp.lv.nT]
 |x::l,i+1,k,h=>by
  rw[List.take_succ_cons,Xp.lv.nT,List.take_succ_cons,Xp.lv.nT]
  have:=N7 m (l:=l) (i:=i) (k:=k) (by simpa using h)
  omega
end Go.Proofs.YtaknajjmldngiaaGreat.Ab
namespace Go.Proofs.YtaknajjmldngiaaGreat.Ab
open Go
end Go.Proofs.YtaknajjmldngiaaGreat.Ab
namespace Go.Proofs.YtaknajjmldngiaaGreat.Ab
open Go
def BC(n:Nat)(a:Int):Bool:=decide (a≥0)&&n.testBit a.toNat
theorem Y0(m:Nat)(h:m<2^63):(BitVec.ofInt 64 (m:Int)&&& BitVec.ofInt 64 1).toNat =m % 2:=by
 rw[BitVec.toNat_and]
 have h1:(BitVec.ofInt 64 (m:Int)).toNat =m:=by
  rw[BitVec.toNat_ofInt]
  omega
 have h2:(BitVec.ofInt 64 (1:Int)).toNat =1:=rfl
 rw[h1,h2,Nat.and_one_is_mod]
theorem Hr(n m:Nat)(k:IntKind):ah none .shr (.d (.int .i64 (n:Int))) (.d (.int k (m:Int)))=some (.d (.int .i64 ((n / 2^(min m 64):Nat):Int))):=by
 simp only[ah,ej,vb]
 rw[if_neg (by omega)]
 simp only[Int.toNat_natCast]
 have:(n:Int).fdiv (2^(min m IntKind.i64.bits))=((n / 2^(min m 64):Nat):Int):=by
  rw[Int.fdiv_eq_ediv_of_nonneg _ (Int.le_of_lt (Int.pow_pos (by decide)))]
  show(n:Int) / (2^(min m 64))=_
  rw[Int.natCast_ediv,Int.natCast_pow]
  rfl
 rw[this]
theorem Hs(m:Nat)(h:m<2^62):ah none .and (.d (.int .i64 (m:Int))) (.d (.int .i64 1))=some (.d (.int .i64 ((m % 2:Nat):Int))):=by
 simp only[ah,ej,gp,if_true]
 have h1:=Y0 m (by omega)
 have:IntKind.i64.wrap ((BitVec.ofInt IntKind.i64.bits (m:Int)&&& BitVec.ofInt IntKind.i64.bits 1).toNat :Int)=((m % 2:Nat):Int):=by
  have h2:(BitVec.ofInt IntKind.i64.bits (m:Int)&&& BitVec.ofInt IntKind.i64.bits 1).toNat =m % 2:=h1
  rw[h2,IntKind.wrap_i64]
  omega
 rw[this]
theorem Ht(n m:Nat)(h:n<2^62):((((n / 2^(min m 64)) % 2:Nat):Int)==1)=n.testBit m:=by
 have h1:n / 2^(min m 64) % 2=(n.testBit m).toNat :=by
  rw[Nat.toNat_testBit]
  rcases Nat.le_total m 64 with hm|hm
  ·rw[Nat.min_eq_left hm]
  ·rw[Nat.min_eq_right hm]
   have e1:n / 2^64=0:=Nat.div_eq_of_lt (by omega)
   have e2:n / 2^m=0:=Nat.div_eq_of_lt (Nat.lt_of_lt_of_le h (Nat.pow_le_pow_right (by decide) (by omega)))
   rw[e1,e2]
 rw[h1]
 cases n.testBit m<;>rfl
def e7(n:Nat):Xp→Bool
 | .mk op a _ _ _ _ kids=>
   if op==1 then BC n a
   else if op==2 then !((go kids).getD 0 false)
   else if op==3 then(go kids).getD 0 false&&(go kids).getD 1 false
   else if op==4 then(go kids).getD 0 false||(go kids).getD 1 false
   else if op==6 then(go kids).getD 0 false==(go kids).getD 1 false
   else(go kids).getD 0 false != (go kids).getD 1 false
where go:List Xp→List Bool
 |[]=>[]
 |k::l=>e7 n k::go l
theorem N8(n:Nat)(e:Xp):e7 n e=if e.op==1 then BC n e.a
 else if e.op==2 then !((e7.go n e.kids).getD 0 false)
 else if e.op==3 then(e7.go n e.kids).getD 0 false&&(e7.go n e.kids).getD 1 false
 else if e.op==4 then(e7.go n e.kids).getD 0 false||(e7.go n e.kids).getD 1 false
 else if e.op==6 then(e7.go n e.kids).getD 0 false==(e7.go n e.kids).getD 1 false
 else(e7.go n e.kids).getD 0 false != (e7.go n e.kids).getD 1 false:=by cases e;rfl
theorem GA{n:Nat}:∀{l:List Xp}{i:Nat}{k:Xp},l[i]? =some k→(e7.go n l).getD i false=e7 n k
 |[],i,k,h=>by simp at h
 |x::l,0,k,h=>by simp at h;subst h;rfl
 |x::l,i+1,k,h=>by
  rw[e7.go,List.getD_cons_succ]
  exact GA (by simpa using h)
theorem Ma{n:Nat}:∀{l:List Xp}{i:Nat},l.length≤i→(e7.go n l).getD i false=false
 |[],i,h=>by simp[e7.go]
 |x::l,0,h=>by simp at h
 |x::l,i+1,h=>by
  rw[e7.go,List.getD_cons_succ]
  exact Ma (by simpa using h)
def gz(st:List Bool):Xp→Bool
 | .mk op a _ _ _ _ kids=>
   if op==1 then decide (a≥0)&&(decide (a<(st.length:Int))&&st.getD a.toNat false)
   else if kids.length==0 then false
   else if op==2 then !((go kids).getD 0 false)
   else if decide ((kids.length:Int)<2)then false
   else if op==3 then(go kids).getD 0 false&&(go kids).getD 1 false
   else if op==4 then(go kids).getD 0 false||(go kids).getD 1 false
   else if op==6 then(go kids).getD 0 false==(go kids).getD 1 false
   else(go kids).getD 0 false != (go kids).getD 1 false
where go:List Xp→List Bool
 |[]=>[]
 |k::l=>gz st k::go l
theorem N9(st:List Bool)(e:Xp):gz st e=if e.op==1 then decide (e.a≥0)&&(decide (e.a<(st.length:Int))&&st.getD e.a.toNat false)
 else if e.kids.length==0 then false
 else if e.op==2 then !((gz.go st e.kids).getD 0 false)
 else if decide ((e.kids.length:Int)<2)then false
 else if e.op==3 then(gz.go st e.kids).getD 0 false&&(gz.go st e.kids).getD 1 false
 else if e.op==4 then(gz.go st e.kids).getD 0 false||(gz.go st e.kids).getD 1 false
 else if e.op==6 then(gz.go st e.kids).getD 0 false==(gz.go st e.kids).getD 1 false
 else(gz.go st e.kids).getD 0 false != (gz.go st e.kids).getD 1 false:=by cases e;rfl
theorem GB{st:List Bool}:∀{l:List Xp}{i:Nat}{k:Xp},l[i]? =some k→(gz.go st l).getD i false=gz st k
 |[],i,k,h=>by simp at h
 |x::l,0,k,h=>by simp at h;subst h;rfl
 |x::l,i+1,k,h=>by
  rw[gz.go,List.getD_cons_succ]
  exact GB (by simpa using h)
def kQ(nb n:Nat):List Bool:=(List.range nb).map n.testBit
theorem Y1(nb n:Nat):(kQ nb n).length =nb:=by simp[kQ]
theorem Y2{nb n i:Nat}(h:i<nb):(kQ nb n).getD i false=n.testBit i:=by simp[kQ,List.getD_eq_getElem?_getD,h]
theorem Mb{F:Xp→Int}:∀{l:List Xp}{i:Nat}{k:Xp},fF.go F l=0→l[i]? =some k→fF F k=0
 |[],i,k,_,h=>by simp at h
 |x::l,i,k,h0,h=>by
  rw[fF.go]at h0
  by_cases hx:fF F x=0
  ·rw[if_neg (by simp[hx])]at h0
   cases i with
   |zero=>simp at h;subst h;exact hx
   |succ i=>exact Mb h0 (by simpa using h)
  ·rw[if_pos (by simpa using hx)]at h0
   exact absurd h0 hx
theorem Oa{nb n:Nat}(hn:n<2^nb):∀(m:Nat)(e:Xp),e.lv≤m→fF (jo (nb:Int)) e=0→gz (kQ nb n) e=e7 n e
 |0,e,h,_=>by have:=yT e;omega
 |m+1,e,h,h0=>by
  rw[MN]at h0
  have hc:jo (nb:Int) e=0:=by
   by_cases hx:jo (nb:Int) e=0
   ·exact hx
   ·rw[if_pos (by simpa using hx)]at h0;exact h0
  rw[if_neg (by simp[hc])]at h0
  have ih:∀(i:Nat)k,e.kids[i]? =some k→gz (kQ nb n) k=e7 n k:=fun i k hk=>
   Oa hn m k (by have:=Xp.yS hk;omega) (Mb h0 hk)
  have hk:AZ e.op=BA e:=by
   unfold jo at hc
   split at hc
   ·cases hc
   ·rename_i hh
    simp only[Bool.or_eq_true,not_or,bne_iff_ne,ne_eq,Decidable.not_not]at hh
    exact hh.2.2.1
  have hb:e.op=1→BB e.a nb=true:=by
   intro h1
   unfold jo at hc
   split at hc
   ·cases hc
   ·split at hc
    ·cases hc
    ·rename_i hh
     simpa[h1]using hh
  rw[N9,N8]
  by_cases h1:e.op=1
  ·have:=hb h1
   simp only[BB,Bool.and_eq_true,decide_eq_true_eq]at this
   obtain⟨a,ha⟩:=Int.eq_ofNat_of_zero_le this.1
   have aV:a<nb:=by omega
   simp only[h1,beq_self_eq_true,if_true,Y1,BC,ha,Int.toNat_natCast,Y2 aV]
   have e1:decide ((a:Int)<(nb:Int))=true:=by simpa using aV
   rw[e1,Bool.true_and]
  ·have zM:1≤e.kids.length∧(e.op≠2→2≤e.kids.length):=by
    unfold AZ BA at hk
    simp only[beq_iff_eq,h1,if_false]at hk
    have gC:e.op≠8∧e.op≠9:=by
     unfold jo at hc
     split at hc
     ·cases hc
     ·rename_i hh
      simp only[Bool.or_eq_true,not_or,beq_iff_eq]at hh
      exact⟨hh.1,hh.2.1⟩
    simp only[gC.1,gC.2,if_false]at hk
    constructor
    ·split at hk<;>(try omega)
     repeat (split at hk<;>(try omega))
    ·intro h2
     simp only[h2,if_false]at hk
     repeat (split at hk<;>(try omega))
   have hg:∀i,i<e.kids.length→(gz.go (kQ nb n) e.kids).getD i false=(e7.go n e.kids).getD i false:=fun i hi=>by
    rw[GB (List.getElem?_eq_getElem hi),GA (List.getElem?_eq_getElem hi),ih i _ (List.getElem?_eq_getElem hi)]
   have e0:(e.kids.length==0)=false:=by simp;intro h;rw[h]at zM;simp at zM
   have e1:(e.op==1)=false:=by simpa using h1
   rw[e1,e0]
   simp only[Bool.false_eq_true,if_false]
   by_cases h2:e.op=2
   ·simp only[h2,beq_self_eq_true,if_true,hg 0 (by omega)]
   ·have pM:=zM.2 h2
    have e2:(e.op==2)=false:=by simpa using h2
    have e3:decide ((e.kids.length:Int)<2)=false:=by simp;omega
    rw[e2,e3]
    simp only[Bool.false_eq_true,if_false,hg 0 (by omega),hg 1 (by omega)]
end Go.Proofs.YtaknajjmldngiaaGreat.Ab
namespace Go.Proofs.YtaknajjmldngiaaGreat.Ab
open Go
theorem AM(m:Nat)(k:IntKind)(h:m≤61):ah none .shl (.d (.int .i64 1)) (.d (.int k (m:Int)))=some (.d (.int .i64 ((2^m:Nat):Int))):=by
 simp only[ah,ej,vb]
 rw[if_neg (by omega)]
 simp only[Int.toNat_natCast]
 have e:min m IntKind.i64.bits=m:=by
  show min m 64=m
  omega
 rw[e,IntKind.wrap_i64,Int.one_mul]
 have h2:2^m≤2^61:=Nat.pow_le_pow_right (by decide) h
 have h3:((2:Int)^m)=((2^m:Nat):Int):=by rw[Int.natCast_pow];rfl
 have h5:2^m≤2305843009213693952:=h2
 clear h2 e
 have e2:((2:Int)^m+9223372036854775808) % 18446744073709551616-9223372036854775808=(2:Int)^m:=by
  rw[h3]
  generalize 2^m=q at h5
  omega
 rw[e2,h3]
def sj(F:Nat→Bool)(n j:Nat):List SV:=(List.range n).map fun i=>.d (.bool (decide (i<j)&&F i))
theorem Ny(F:Nat→Bool)(n j:Nat):(sj F n j).length =n:=by simp[sj]
theorem MQ(F:Nat→Bool):∀(n:Nat),sj F n 0=fc (List.replicate n (.bool false))
 |0=>rfl
 |n+1=>by
  have:=MQ F n
  simp only[sj,Nat.not_lt_zero,decide_false,Bool.false_and]at this ⊢
  rw[List.replicate_succ,fc,←this,List.range_succ_eq_map]
  simp[D.cells]
theorem XI(F:Nat→Bool)(n j:Nat)(h:j<n):setAt (sj F n j) j [.d (.bool (F j))]=sj F n (j+1):=by
 simp only[setAt]
 apply List.ext_getElem?
 intro i
 rw[List.getElem?_set]
 simp only[sj,List.getElem?_map,List.length_map,List.length_range]
 by_cases je:j=i
 ·subst je
  simp[h]
 ·simp only[if_neg je]
  rcases Nat.lt_or_ge i n with hi|hi
  ·simp only[List.getElem?_range hi,Option.map_some]
   have:decide (i<j)=decide (i<j+1):=by
    rw[decide_eq_decide];omega
   rw[this]
  ·rw[List.getElem?_eq_none (by simpa using hi)]
   rfl
theorem Nz{α:Type}(f:α→D):∀(l:List α),eP (l.map fun x=>.d (f x))=some (l.map f)
 |[]=>rfl
 |x::l=>by simp only[List.map_cons,eP,cS,Nz f l]
theorem Y3(F:Nat→Bool)(n:Nat):eP (sj F n n)=some ((List.range n).map fun i=>.bool (F i)):=by
 have:sj F n n=(List.range n).map fun i=>SV.d (.bool (F i)):=by
  apply List.map_congr_left
  intro i hi
  rw[List.mem_range]at hi
  simp[hi]
 rw[this]
 exact Nz (fun i=>D.bool (F i)) _
theorem Vt(n:Nat)(x:SV):j7 n n x=x:=by simp[j7]
theorem Wu(n:Nat):lenOf (.d (.int .i64 (n:Int))) (.d (.int .i64 (n:Int)))=some n:=by
 simp[lenOf]
theorem XJ{i n:Nat}(h:i<n):dD (.d (.int .i64 (i:Int))) n=some i:=by
 simp[dD,h]
theorem C2{n:MK}{d:D}:∀{l:List (MK×D)}{m:MK},eH (gK l n d) m=if m=n then some d else eH l m
 |[],m=>by simp only[gK,eH]
 |x::l,m=>by
  simp only[gK]
  split
  ·rename_i h
   simp only[eH]
   split
   ·rfl
   ·rename_i h2
    rw[if_neg (by rw[←h];exact h2)]
  ·rename_i h
   simp only[eH,C2]
   by_cases h1:m=x.1
   ·have:m≠n:=fun h2=>h (by rw[←h2,h1])
    simp[h1,this]
    intro h3;exact absurd h3.symm h
   ·simp[h1]
def nM(F:Int→D)(m:List (MK×D))(c:Int):List (MK×D):=match eH m (.i c)with
 |some _=>m
 |none=>gK m (.i c) (F c)
def jL(F:Int→D)(l:List Int):List (MK×D):=l.foldl (nM F) []
theorem Wv(F:Int→D){m:List (MK×D)}{c:Int}(h:∀k d,eH m (.i k)=some d→d=F k):(∀k d,eH (nM F m c) (.i k)=some d→d=F k)∧(eH (nM F m c) (.i c)=some (F c))∧∀k d,eH m (.i k)=some d→eH (nM F m c) (.i k)=some d:=by
 unfold nM
 cases hm:eH m (.i c)with
 |some d=>exact⟨h,by rw[h c d hm];exact(h c d hm▸hm),fun k d h=>h⟩
 |none=>
  simp only
  refine⟨fun k d hk=>?_,by rw[C2,if_pos rfl],fun k d hk=>?_⟩
  ·rw[C2]at hk
   split at hk
   ·rename_i Ks;cases hk;rw[MK.i.inj Ks]
   ·exact h k d hk
  ·rw[C2]
   split
   ·rename_i Ks;rw[Ks,hm]at hk;cases hk
   ·exact hk
theorem MR(F:Int→D):∀(l:List Int)(m:List (MK×D)),(∀k d,eH m (.i k)=some d→d=F k)→(∀k d,eH (l.foldl (nM F) m) (.i k)=some d→d=F k)∧(∀c∈l,eH (l.foldl (nM F) m) (.i c)=some (F c))∧∀k d,eH m (.i k)=some d→eH (l.foldl (nM F) m) (.i k)=some d
 |[],m,h=>⟨h,fun c hc=>by simp at hc,fun k d h=>h⟩
 |x::l,m,h=>by
  obtain⟨h1,h2,h3⟩:=Wv F (c:=x) h
  obtain⟨q1,q2,q3⟩:=MR F l (nM F m x) h1
  refine⟨q1,fun c hc=>?_,fun k d hk=>q3 k d (h3 k d hk)⟩
  rcases List.mem_cons.1 hc with rfl|hc
  ·exact q3 _ _ h2
  ·exact q2 c hc
theorem NA(F:Int→D){l:List Int}{c:Int}(h:c∈l):eH (jL F l) (.i c)=some (F c):=(MR F l [] (fun k d h=>by simp[eH]at h)).2.1 c h
theorem Ww(F:Int→D){l:List Int}{i:Nat}{c:Int}(h:l[i]? =some c):jL F (l.take (i+1))=nM F (jL F (l.take i)) c:=by
 rw[iT h,jL,List.foldl_append];rfl
theorem MS:∀{m:List (MK×D)}{k:MK}{d:D}{x:MK×D},x∈gK m k d→x.1=k∨∃y∈m,x.1=y.1
 |[],k,d,x,h=>by simp only[gK,List.mem_singleton]at h;subst h;exact .inl rfl
 |y::m,k,d,x,h=>by
  simp only[gK]at h
  split at h
  ·rcases List.mem_cons.1 h with rfl|h
   ·exact .inl rfl
   ·exact .inr ⟨x,by simp[h],rfl⟩
  ·rcases List.mem_cons.1 h with rfl|h
   ·exact .inr ⟨x,by simp,rfl⟩
   ·rcases MS h with h|⟨z,hz,h⟩
    ·exact .inl h
    ·exact .inr ⟨z,by simp[hz],h⟩
theorem Wx(F:Int→D)(l:List Int):∀x∈jL F l,∃n,x.1=.i n:=by
 have key:∀(l:List Int)(m:List (MK×D)),(∀x∈m,∃n,x.1=MK.i n)→∀x∈l.foldl (nM F) m,∃n,x.1=MK.i n:=by
  intro l
  induction l with
  |nil=>exact fun m h=>h
  |cons c l ih=>
   intro m h
   refine ih _ fun x hx=>?_
   unfold nM at hx
   split at hx
   ·exact h x hx
   ·rcases MS hx with h1|⟨y,hy,h1⟩
    ·exact⟨c,h1⟩
    ·rw[h1];exact h y hy
 exact key l [] (by simp)
theorem MT(F:Int→D)(l:List Int)(n:Int):nz (jL F l) (.i n)=true:=by
 simp only[nz,List.all_eq_true]
 intro x hx
 obtain⟨m,h⟩:=Wx F l x hx
 rw[h];rfl
def ei(T:Nat→Nat→Bool)(c:Nat→Nat→D)(i k:Nat):List D:=(List.range' (i+1) (k-(i+1))).filterMap fun k=>if T i k then some (c i k)else none
def dc(T:Nat→Nat→Bool)(c:Nat→Nat→D)(n i:Nat):List D:=(List.range i).flatMap fun i=>ei T c i n
def jC(T:Nat→Nat→Bool)(c:Nat→Nat→D)(n:Nat):List D:=dc T c n n
theorem uU(T:Nat→Nat→Bool)(c:Nat→Nat→D){i k:Nat}(h:i<k):ei T c i (k+1)=ei T c i k++(if T i k then [c i k]else []):=by
 unfold ei
 have e:k+1-(i+1)=(k-(i+1))+1:=by omega
 rw[e,List.range'_concat,List.filterMap_append]
 have e2:i+1+1*(k-(i+1))=k:=by omega
 rw[e2]
 simp only[List.filterMap_cons,List.filterMap_nil]
 cases T i k<;>rfl
theorem rq(T:Nat→Nat→Bool)(c:Nat→Nat→D)(i:Nat):ei T c i (i+1)=[]:=by simp[ei]
theorem n7(T:Nat→Nat→Bool)(c:Nat→Nat→D)(n i:Nat):dc T c n (i+1)=dc T c n i++ei T c i n:=by
 simp[dc,List.range_succ]
theorem tf(T:Nat→Nat→Bool)(c:Nat→Nat→D)(i k:Nat):(ei T c i k).length ≤k:=by
 unfold ei
 refine Nat.le_trans (List.length_filterMap_le _ _) ?_
 rw[List.length_range']
 omega
theorem rD(T:Nat→Nat→Bool)(c:Nat→Nat→D)(n:Nat):∀(i:Nat),(dc T c n i).length ≤i*n
 |0=>by simp[dc]
 |i+1=>by
  rw[n7,List.length_append,Nat.succ_mul]
  have:=rD T c n i
  have:=tf T c i n
  omega
end Go.Proofs.YtaknajjmldngiaaGreat.Ab
