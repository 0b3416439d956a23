/-
  THE ABSTRACT WALK: literals of structs and slices; lengths; appends.
-/
import Derived.Test.YtimbllcalipehaaTa
import Derived.MapKept
import Derived.Laws.MakeOwn
set_option linter.unusedVariables false
set_option linter.unusedSimpArgs false
namespace Go.Proofs.Ytimbllcalipehaa.Ab
open Go Go.RowKit
section
variable{P:Program}{gl:Nat→Option D}{w0:World}{au:S0}{e:Env}{a:Act}{w:World}{g:Gh}
theorem ahf(hI:Inv gl w0 au e a w g){o:Oper}{c:Call}(ho:o.op=.call c)(hc:c.callee=.builtin .len){x:Operand}{xs:List Operand}{t:TypeId}{ts:List TypeId}
  (hx:c.args.toList=x::xs)(ht:c.argTypes.toList=t::ts){k:Slot→List af→Prop}(h:ab (SG P t ((Ab.bA gl e x).aa).cC) fun r=>k (.v r) e.boxes):bP P gl w0 au e.ak o a w k:=by
 obtain⟨r,hr,hk⟩:=aQ h
 have er:=hI.j5 x
 generalize ((Ab.bA gl e x).aa).cC =sx at hr er
 have h0:c.args[0]? =some x:=by rw[←Array.getElem?_toList,hx];rfl
 have h1:c.argTypes[0]? =some t:=by rw[←Array.getElem?_toList,ht];rfl
 have bC:∀v,(Builtin.len_ c.argTypes o.type (c.args.map a.eval)).run P w=.ok v w→(execOp a.eval o).run P w=.ok (.value v) w:=by
  intro v hv
  simp[execOp,ho,resolve,hc,invoke,builtin,hv]
 unfold SG at hr
 split at hr
 ·rename_i hu
  split at hr
  ·rename_i s
   cases hr
   obtain⟨bs,hv,hs,hm⟩:=er.data.zm
   refine bP.gD hI (v:=.int .i64 bs.size) (bC _ ?_) (.d _ _ _ ?_) hk
   ·simp[Builtin.len_,h0,h1,run_underlying hu,hv,goInt]
   ·have:(bs.size:Int)=(s.length:Int):=by rw[hs,Array.length_toList];rfl
    rw[this]
    refine .int _ _ ?_
    have:s.length=bs.size:=by rw[hs,Array.length_toList];rfl
    simp only[maxLen]at hm
    simp[iP,IntKind.min,IntKind.max,IntKind.signed,IntKind.bits]
    omega
  ·cases hr
 ·rename_i n e' hu
  cases hb:Nat.ble n maxLen with
  |false=>rw[hb]at hr;cases hr
  |true=>
   rw[hb]at hr
   cases hr
   have hm:=Nat.le_of_ble_eq_true hb
   refine bP.gD hI (v:=.int .i64 n) (bC _ ?_) (.d _ _ _ (.int _ _ ?_)) hk
   ·simp[Builtin.len_,h0,h1,run_underlying hu,goInt]
   ·simp only[maxLen]at hm
    simp[iP,IntKind.min,IntKind.max,IntKind.signed,IntKind.bits]
    omega
 ·rename_i e' hu
  split at hr
  ·rename_i n s cs
   cases hr
   generalize hv:a.eval x=u at er
   cases er with
   |dg _ _ _ _ b cap vs eV hn hm aW hc=>
    refine bP.gD hI (v:=.int .i64 n) (bC _ ?_) (.d _ _ _ (.int _ _ ?_)) hk
    ·simp[Builtin.len_,h0,h1,run_underlying hu,hv,goInt]
    ·simp only[maxLen]at hm
     simp[iP,IntKind.min,IntKind.max,IntKind.signed,IntKind.bits]
     omega
  split at hr
  ·rename_i L hL
   cases hr
   have key:∃ad cap,a.eval x=.slice ad L.length cap∧L.length≤maxLen:=by
    have go:∀{s L' v},bp w g.St (.sl .ro s L') v→∃ad cap,v=.slice ad L'.length cap∧L'.length≤maxLen:=by
     intro s L' v hd
     cases hd with
     |sl _ _ b off cap vs cd hm aN hf aW hc=>exact⟨_,_,rfl,hm⟩
     |mY _ ad c _=>exact⟨_,_,rfl,by simp⟩
    unfold Hc at hL
    split at hL
    ·rename_i k' s' L' _
     cases hL
     have hd:=er.data
     cases k'
     ·generalize a.eval x=u at hd;cases hd;exact⟨_,_,rfl,by simp⟩
     ·exact go hd
    ·cases hL
     generalize a.eval x=u at er
     cases er with
     |own _ _ _ gg cap hd cd ho=>exact go hd
    ·cases hL
     generalize a.eval x=u at er
     cases er with
     |full _ _ _ ad hd=>exact go hd
    ·cases hL
   obtain⟨ad,cap,hv,hm⟩:=key
   refine bP.gD hI (v:=.int .i64 L.length) (bC _ ?_) (.d _ _ _ (.int _ _ ?_)) hk
   ·simp[Builtin.len_,h0,h1,run_underlying hu,hv,goInt]
   ·simp only[maxLen]at hm
    simp[iP,IntKind.min,IntKind.max,IntKind.signed,IntKind.bits]
    omega
  ·cases hr
 ·cases hr
theorem We(off:Nat):∀(l:List Value)(k:Nat)(cells:Array Value)(i:Nat),off+k+l.length≤cells.size→
  ((l.zipIdx k).foldl (fun cs(c,j)=>cs.setIfInBounds (off+j) c) cells).size =cells.size∧
  ((l.zipIdx k).foldl (fun cs(c,j)=>cs.setIfInBounds (off+j) c) cells)[i]? =if off+k≤i∧i<off+k+l.length then l[i-(off+k)]? else cells[i]?
 |[],k,cells,i,_=>by
  refine⟨rfl,?_⟩
  rw[if_neg (by simp;try omega)]
  simp
 |v::l,k,cells,i,h=>by
  simp only[List.length_cons]at h
  simp only[List.zipIdx_cons,List.foldl_cons]
  obtain⟨h1,h2⟩:=We off l (k+1) (cells.setIfInBounds (off+k) v) i (by simp;omega)
  refine⟨by rw[h1];simp,?_⟩
  rw[h2]
  by_cases hi:i=off+k
  ·subst hi
   rw[if_neg (by omega),if_pos (by simp)]
   simp only[Nat.sub_self,List.getElem?_cons_zero]
   rw[Array.getElem?_setIfInBounds_self]
   rw[if_pos (by omega)]
  ·by_cases hr:off+(k+1)≤i∧i<off+(k+1)+l.length
   ·rw[if_pos hr,if_pos (by simp;omega)]
    have:i-(off+k)=(i-(off+(k+1)))+1:=by omega
    rw[this,List.getElem?_cons_succ]
   ·rw[if_neg hr,if_neg (by simp;omega),Array.getElem?_setIfInBounds_ne (by omega)]
def Qz(w:World)(St:Nat→Nat→Prop):List (Nat×D)→List (Nat×Value)→Prop
 |[],[]=>True
 |(i,d)::l,(j,v)::m=>i=j∧bp w St d v∧Qz w St l m
 |_,_=>False
theorem bp.af1{St:Nat→Nat→Prop}{d:D}{v:Value}(r:bp w St d v):nG w St d.cells v.cells:=by
 by_cases h:d.one=true
 ·have h1:=r.vO h
  have hc:d.cells=[d]:=by cases d<;>first|rfl|simp[D.one]at h
  have hv:v.cells= #[v]:=by cases v<;>first|rfl|simp[Value.oneCell']at h1
  rw[hc,hv]
  refine⟨rfl,fun i x y hx hy=>?_⟩
  cases i with
  |zero=>simp at hx hy;subst hx hy;exact r
  |succ i=>simp at hx
 ·cases d<;>simp only[D.one,not_true_eq_false]at h
  obtain⟨vs,rfl,hr,_⟩:=r.zn
  exact hr
theorem QB{St:Nat→Nat→Prop}(place:Nat→Option (Nat×Nat)):∀(ps:List (Nat×D))(qs:List (Nat×Value))(cs:List D)(cells:Array Value)(r:List D),
  Qz w St ps qs→nG w St cs cells→(∀d∈cs,d.one=true)→vX place cs ps=some r→
  ∃r',Instr.fill place cells qs=some r'∧nG w St r r'∧∀d∈r,d.one=true
 |[],[],cs,cells,r,_,hc,hf,h=>by
  simp only[vX,Option.some.injEq]at h
  subst h
  exact⟨cells,rfl,hc,hf⟩
 |(i,d)::ps,(j,v)::qs,cs,cells,r,hp,hc,hf,h=>by
  obtain⟨rfl,hd,hp⟩:=hp
  simp only[vX]at h
  split at h
  ·cases h
  ·rename_i off sz gG
   split at h
   ·rename_i yg
    have hdc:=hd.af1
    have aN:v.cells.size=sz:=by rw[←hdc.1];exact yg.1
    have hle:off+sz≤cells.size:=by rw[←hc.1];exact yg.2
    have hg:=fun i=>We off v.cells.toList 0 cells i (by simp[aN];omega)
    simp only[Nat.add_zero,Array.length_toList,aN]at hg
    have anu:v.cells.zipIdx.foldl (fun cs(c,j)=>cs.setIfInBounds (off+j) c) cells=(v.cells.toList.zipIdx.foldl (fun cs(c,j)=>cs.setIfInBounds (off+j) c) cells):=by
     rw[←Array.foldl_toList,Array.toList_zipIdx]
    obtain⟨r',h1,h2,h3⟩:=QB place ps qs _ (v.cells.zipIdx.foldl (fun cs(c,j)=>cs.setIfInBounds (off+j) c) cells) r hp (by
     rw[anu]
     constructor
     ·rw[(hg 0).1,←hc.1];simp[yg.1];omega
     ·intro i x y hx hy
      rw[(hg i).2]at hy
      have:=uC cs d.cells off (by rw[yg.1];exact yg.2) i
      rw[yg.1]at this
      rw[this]at hx
      split at hx
      ·rename_i h1
       rw[if_neg (by omega)]at hy
       exact hc.2 i x y hx hy
      ·rename_i h1
       split at hx
       ·rename_i h2
        rw[if_pos (by omega)]at hy
        rw[Array.getElem?_toList]at hy
        exact hdc.2 _ x y hx hy
       ·rename_i h2
        rw[if_neg (by omega)]at hy
        exact hc.2 i x y hx hy) (by
     intro x hx
     simp only[List.mem_append]at hx
     rcases hx with(hx|hx)|hx
     ·exact hf x (List.mem_of_mem_take hx)
     ·exact hd.XN x hx
     ·exact hf x (List.mem_of_mem_drop hx)) h
    refine⟨r',?_,h2,h3⟩
    rw[Instr.fill]
    simp only[gG,aN]
    rw[if_neg (by simp;omega)]
    exact h1
   ·cases h
 |[],_::_,_,_,_,h,_,_,_=>h.elim
 |_::_,[],_,_,_,h,_,_,_=>h.elim
theorem PQ(hI:Inv gl w0 au e a w g):∀{ps:List (Nat×Operand)}{l:List (Nat×D)},rV (fun x=>(Ab.bA gl e x).aa) ps=some l→Qz w g.St l (ps.map fun(i,x)=>(i,a.eval x))
 |[],l,h=>by simp only[rV,Option.some.injEq]at h;subst h;trivial
 |(i,x)::ps,l,h=>by
  simp only[rV]at h
  split at h
  ·rename_i y hy
   split at h
   ·rename_i z hz
    split at h
    ·rename_i r hr
     cases h
     exact⟨rfl,(hI.tW hy).cB hz,PQ hI hr⟩
    ·cases h
   ·cases h
  ·cases h
theorem WI:∀{fs:List Field}{l:List (Nat×Nat)},Hv P fs=some l→(fs.mapM (m:=Sem) fun f=>do pure (f.offset,←sizeOf f.type)).run P w=.ok l w
 |[],l,h=>by simp only[Hv,Option.some.injEq]at h;subst h;rfl
 |f::fs,l,h=>by
  simp only[Hv]at h
  split at h
  ·rename_i s hs
   split at h
   ·rename_i r hr
    cases h
    simp only[List.mapM_cons,Sem.run_bind,kP hs,Result.andThen_ok,Sem.run_pure,WI hr]
   ·cases h
  ·cases h
theorem ae6(hI:Inv gl w0 au e a w g){o:Oper}{t:TypeId}{ps:Array (Nat×Operand)}(ho:o.op=.build t ps){k:Slot→List af→Prop}
  (h:ab (rV (fun x=>(Ab.bA gl e x).aa) ps.toList) fun l=>ab (dF P t l) fun r=>k (.v (.d r)) e.boxes):bP P gl w0 au e.ak o a w k:=by
 obtain⟨l,hl,h⟩:=aQ h
 obtain⟨r,hr,hk⟩:=aQ h
 have hp:=PQ hI hl
 unfold dF at hr
 split at hr
 ·rename_i z hz
  split at hr
  ·rename_i pl gG
   split at hr
   ·rename_i cs cK
    cases hr
    obtain⟨zv,nR,Cd,BE,Sh⟩:=Po hz
    obtain⟨r',h1,h2,h3⟩:=QB (w:=w) (St:=g.St) pl l _ z zv.cells cs hp ⟨Cd,fun i x v=>Sh w g.St i x v⟩ BE cK
    refine bP.gD hI (v:=.agg r') ?_ (.d _ _ _ (h2.agg h3)) hk
    have HR:(ps.map fun(i,x)=>(i,a.eval x)).toList =ps.toList.map fun(i,x)=>(i,a.eval x):=by simp
    unfold PA at gG
    split at gG
    ·rename_i fs hu
     split at gG
     ·rename_i ll F7
      cases gG
      have hm:(fs.mapM (m:=Sem) fun f=>do pure (f.offset,←sizeOf f.type)).run P w=.ok ll.toArray w:=by
       have e1:fs=fs.toList.toArray:=by simp
       rw[e1,List.mapM_toArray,Sem.run_map,WI F7]
       rfl
      simp only[execOp,ho,Sem.run_bind,Instr.build,nR,Result.andThen_ok,run_underlying hu,hm]
      rw[HR]
      have:(fun x:Nat=>ll.toArray[x]?)=fun i=>ll[i]? :=by funext i;simp
      rw[this,h1]
      rfl
     ·cases gG
    ·rename_i n e' hu
     split at gG
     ·rename_i s hs
      cases gG
      simp only[execOp,ho,Sem.run_bind,Instr.build,nR,Result.andThen_ok,run_underlying hu,kP hs]
      rw[HR,h1]
      rfl
     ·cases gG
    ·cases gG
   ·cases hr
  ·cases hr
 ·cases hr
theorem WJ(sz n:Nat):∀(l:List (Nat×D))(cs:List D),cs.length=n*sz→bz sz n l=true→
  ∃r,vX (fun i=>some (i*sz,sz)) cs l=some r∧r.length=n*sz∧∀i j,i<n→j<sz→r[i*sz+j]? =(match uE i l with|some x=>x.cells[j]? |none=>cs[i*sz+j]?)
 |[],cs,h,_=>⟨cs,rfl,h,fun i j _ _=>rfl⟩
 |(i0,d)::l,cs,h,hp=>by
  simp only[bz,Bool.and_eq_true]at hp
  obtain⟨⟨h1,h2⟩,h3⟩:=hp
  have AB:i0<n:=Nat.lt_of_succ_le (Nat.le_of_ble_eq_true h1)
  have hd:=Nat.eq_of_beq_eq_true h2
  have hle:i0*sz+sz≤n*sz:=by
   have:(i0+1)*sz≤n*sz:=Nat.mul_le_mul_right _ AB
   rw[Nat.succ_mul]at this;exact this
  obtain⟨r,q1,q2,q3⟩:=WJ sz n l (cs.take (i0*sz)++d.cells++cs.drop (i0*sz+sz)) (by rw[List.length_append,List.length_append,List.length_take,List.length_drop,hd,h];omega) h3
  refine⟨r,?_,q2,fun i j hi hj=>?_⟩
  ·simp only[vX]
   rw[if_pos ⟨hd,by rw[h];exact hle⟩]
   exact q1
  ·rw[q3 i j hi hj]
   cases Jt:uE i l with
   |some y=>simp only[uE,Jt]
   |none=>
    simp only[uE,Jt]
    have:=uC cs d.cells (i0*sz) (by rw[hd,h];exact hle) (i*sz+j)
    rw[hd]at this
    rw[this]
    cases hb:i==i0 with
    |true=>
     have:i=i0:=by simpa using hb
     subst this
     rw[if_neg (by omega),if_pos (by omega)]
     simp
    |false=>
     have bg:i≠i0:=by simpa using hb
     simp only[cond_false]
     rcases Nat.lt_or_ge i i0 with aP|lf
     ·have:(i+1)*sz≤i0*sz:=Nat.mul_le_mul_right _ aP
      rw[Nat.succ_mul]at this
      rw[if_pos (by omega)]
     ·have:(i0+1)*sz≤i*sz:=Nat.mul_le_mul_right _ (by omega)
      rw[Nat.succ_mul]at this
      rw[if_neg (by omega),if_neg (by omega)]
theorem Pk(zero:D)(l:List (Nat×D)):∀(n s i:Nat),(bF zero l n s).length =n∧(i<n→(bF zero l n s)[i]? =some (match uE (s+i) l with|some x=>x|none=>zero))
 |0,s,i=>⟨rfl,fun h=>by omega⟩
 |n+1,s,i=>by
  refine⟨by simp[bF,(Pk zero l n (s+1) 0).1],fun h=>?_⟩
  cases i with
  |zero=>rfl
  |succ i=>
   have:=(Pk zero l n (s+1) i).2 (by omega)
   simp only[bF,List.getElem?_cons_succ]
   rw[this]
   have:s+1+i=s+(i+1):=by omega
   rw[this]
theorem bP.aiQ(hI:Inv gl w0 au e a w g){o:Oper}{cells:Array Value}{t:TypeId}{s:SV}{v:Value}{k:Slot→List af→Prop}
  (bC:(execOp a.eval o).run P w=.ok (.value v) (w.alloc (.cells cells t)))
  (rep:∀(g':Gh),(∀o,g'.St w.heap.size o)→Ext w0.heap.size w g (w.alloc (.cells cells t)) g' (fun _=>False)→aR (w.alloc (.cells cells t)) g'.St w0.heap.size (fun _ _ _=>False) s v)
  (hk:k (.v s) e.boxes):bP P gl w0 au e.ak o a w k:=by
 intro next Q hn
 unfold Oper.wp
 rw[bC]
 have hle:w0.heap.size≤w.heap.size:=hI.below.size
 have hX:Ext w0.heap.size w g (w.alloc (.cells cells t)) {g with St:=fun b o=>g.St b o∨b=w.heap.size} (fun _=>False):=by
  refine⟨fun D o hb ho h=>⟨(jZ w _ D (gk h)).trans h,hb,ho,fun x hx=>hx.elim id fun e=>(by have:=gk h;omega)⟩,fun b o h=>⟨.inl h,.rP (jZ w _ b (hI.me h))⟩,fun b o h=>Ph w _ b o (by omega),fun i ao h=>h,fun p b a c _ ho=>?_,.of fun b hb=>jZ w _ b hb⟩
  have aP:=ho.lt
  obtain⟨h1,h2,h3,⟨cur,ty,h4,oD⟩,h5⟩:=ho
  exact⟨⟨h1,h2,h3,⟨cur,ty,(jZ w _ b aP).trans h4,oD⟩,fun o ho=>by rintro(h|h);exact h5 o ho h;omega⟩,fun _=>jZ w _ b aP⟩
 have hr:=rep {g with St:=fun b o=>g.St b o∨b=w.heap.size} (fun _=>Or.inr rfl) hX
 refine hn (.v s) _ _ _ {g with St:=fun b o=>g.St b o∨b=w.heap.size} (hI.ML (g':={g with St:=fun b o=>g.St b o∨b=w.heap.size})
  ⟨hX.df,hX.st,hX.bs,hX.bx,fun p b a c _ ho=>hX.own p b a c (fun h=>h) ho,hX.sh⟩ ((Below.refl _ _).alloc (Nat.le_refl _) _) (fun d _=>?_) rfl (fun b o h=>?_)) hk
 ·exact .v _ _ _ (hr.mono (fun _ _ h=>⟨h,.refl _ _ _⟩) (fun _ _ _=>rfl) _ (fun _ _ _ h=>h.elim))
 ·have hs:=A9 w (.cells cells t)
  rcases h with h|h
  ·exact .inl h
  ·right;omega
theorem Wp{b:Bool}{z:List D}(hf:∀d∈z,d.one=true)(h1:b=false→z.length=1):(bI b z).cells =z:=by
 unfold bI
 cases b
 ·obtain⟨x,rfl⟩:=List.length_eq_one_iff.1 (h1 rfl)
  have:=hf x (by simp)
  cases x<;>first|rfl|simp[D.one]at this
 ·rfl
theorem Ba{t e':TypeId}(h:nE P t=some e'):P.underlying t=some (.slice e'):=by
 unfold nE at h
 split at h
 ·rename_i oA hu;cases h;exact hu
 ·cases h
theorem V5(hI:Inv gl w0 au e a w g){o:Oper}{t:TypeId}{n:Nat}{ps:Array (Nat×Operand)}(ho:o.op=.buildSlice t n ps){K:Nat→List D→Prop}
  (h:ab (nE P t) fun e'=>ab (lR P e') fun ly=>ab (pG P e') fun z=>ab (rV (fun x=>(Ab.bA gl e x).aa) ps.toList) fun l=>
    bif Nat.ble (n*ly.2) (2^24)&&Nat.blt 0 ly.2&&Nat.beq z.length ly.2 then(bz ly.2 n l=true∧K ly.2 (bF (bI ly.1 z) l n 0))else False):
  ∃(r':Array Value) (e':TypeId) (sz:Nat) (L:List D),K sz L∧(execOp a.eval o).run P w=.ok (.value (.slice (some ⟨w.heap.size,0,none⟩) L.length L.length)) (w.alloc (.cells r' e'))∧r'.size=L.length*sz∧
   L.length≤maxLen∧(∀x∈L,x.cells.length=sz∧∀c∈x.cells,c.one=true)∧∀(i:Nat)x(j:Nat)c,L[i]? =some x→x.cells[j]? =some c→i*sz+j<r'.size∧bp w g.St c (r'.getD (i*sz+j) undef):=by
 obtain⟨e',he,h⟩:=aQ h
 obtain⟨⟨b,sz⟩,hl,h⟩:=aQ h
 obtain⟨z,hz,h⟩:=aQ h
 obtain⟨l,hp,h⟩:=aQ h
 cases hc:(Nat.ble (n*sz) (2^24)&&Nat.blt 0 sz&&Nat.beq z.length sz)with
 |false=>simp only[hc,cond_false]at h
 |true=>
  simp only[hc,cond_true]at h
  simp only[Bool.and_eq_true]at hc
  obtain⟨⟨hc1,T4⟩,hc3⟩:=hc
  obtain⟨sD,hk⟩:=h
  have hlen:=Nat.eq_of_beq_eq_true hc3
  have T5:=Nat.le_of_ble_eq_true hc1
  have Fz:0<sz:=Nat.lt_of_succ_le (Nat.le_of_ble_eq_true T4)
  have hu:=Ba he
  obtain⟨hb,hn,cD⟩:=Hx hl
  obtain⟨zv,nR,Cd,BE,Sh⟩:=Po hz
  have HS:=PQ hI hp
  have iC:zv.cells.size=sz:=by rw[←Cd,hlen]
  have Ju:nG w g.St ((List.range (n*sz)).map fun i=>z.getD (i % sz) .oV) ((Array.range (n*sz)).map (zv.cells[· % zv.cells.size]!))∧
    ∀d∈((List.range (n*sz)).map fun i=>z.getD (i % sz) .oV),d.one=true:=by
   have hm:∀i,i % sz<z.length:=fun i=>by rw[hlen];exact Nat.mod_lt _ Fz
   constructor
   ·refine⟨by simp,fun i x v hx hv=>?_⟩
    simp only[List.getElem?_map,Option.map_eq_some_iff]at hx
    obtain⟨j,hj,rfl⟩:=hx
    have hi:i<n*sz:=by have:=(List.getElem?_eq_some_iff.1 hj).1;simpa using this
    rw[List.getElem?_range hi]at hj
    cases hj
    have cN:=hm i
    have NR:i % sz<zv.cells.size:=by rw[iC];exact Nat.mod_lt _ Fz
    simp[hi,iC]at hv
    rw[getElem!_pos zv.cells (i % sz) NR]at hv
    subst hv
    refine Sh w g.St (i % sz) _ _ ?_ (Array.getElem?_eq_getElem NR)
    rw[List.getD_eq_getElem?_getD,List.getElem?_eq_getElem cN];rfl
   ·intro d hd
    simp only[List.mem_map,List.mem_range]at hd
    obtain⟨i,hi,rfl⟩:=hd
    have cN:=hm i
    rw[List.getD_eq_getElem?_getD,List.getElem?_eq_getElem cN]
    exact BE _ (List.getElem_mem cN)
  obtain⟨r,q1,q2,q3⟩:=WJ sz n l ((List.range (n*sz)).map fun i=>z.getD (i % sz) .oV) (by simp) sD
  obtain⟨r',f1,f2,f3⟩:=QB (w:=w) (St:=g.St) _ l _ _ _ r HS Ju.1 Ju.2 q1
  have HR:(ps.map fun(i,x)=>(i,a.eval x)).toList =ps.toList.map fun(i,x)=>(i,a.eval x):=by simp
  have ach:r'.size=n*sz:=by rw[←f2.1,q2]
  have hL:=Pk (bI b z) l n 0
  have Ij:=(hL 0).1
  have T6:∀i x,uE i l=some x→x.cells.length=sz∧∀c∈x.cells,c.one=true:=by
   intro i x hx
   clear hL Ij q1 q2 q3 f1 f2 f3 hp hk
   revert sD HS
   generalize (ps.toList.map fun(i,x)=>(i,a.eval x))=qs
   intro sD HS
   induction l generalizing qs with
   |nil=>simp[uE]at hx
   |cons p l ih=>
    obtain⟨j,d⟩:=p
    cases qs with
    |nil=>exact HS.elim
    |cons q qs=>
     obtain⟨j',v⟩:=q
     obtain⟨_,hd,Jw⟩:=HS
     simp only[bz,Bool.and_eq_true]at sD
     simp only[uE]at hx
     split at hx
     ·rename_i y hy
      cases hx
      exact ih hy qs sD.2 Jw
     ·cases hb:i==j<;>rw[hb]at hx<;>simp only[cond_true,cond_false,Option.some.injEq,reduceCtorEq]at hx
      subst hx
      exact⟨Nat.eq_of_beq_eq_true sD.1.2,hd.XN⟩
  have fo:∀i x,(bF (bI b z) l n 0)[i]? =some x→i<n∧x=(match uE i l with|some x=>x|none=>bI b z):=by
   intro i x hx
   have hi:i<n:=by rw[←Ij];exact(List.getElem?_eq_some_iff.1 hx).1
   have:=(hL i).2 hi
   rw[this]at hx
   simp only[Nat.zero_add]at hx
   exact⟨hi,(Option.some.inj hx).symm⟩
  have hmz:(bI b z).cells =z:=Wp BE (fun h=>by rw[hlen];exact cD h)
  have jB:∀x∈bF (bI b z) l n 0,x.cells.length=sz∧∀c∈x.cells,c.one=true:=by
   intro x hx
   obtain⟨i,hi⟩:=List.mem_iff_getElem?.1 hx
   obtain⟨_,rfl⟩:=fo i x hi
   split
   ·rename_i y hy;exact T6 _ _ hy
   ·rw[hmz];exact⟨hlen,BE⟩
  have nH:n≤maxLen:=by
   have:n*1≤n*sz:=Nat.mul_le_mul_left _ Fz
   simp only[maxLen];omega
  have bC:(execOp a.eval o).run P w=.ok (.value (.slice (some ⟨w.heap.size,0,none⟩) n n)) (w.alloc (.cells r' e')):=by
   have hif:¬(n*sz>2^24):=by omega
   have hns:¬(n*sz=0∧n≠0):=by
    rintro⟨h1,h2⟩
    rcases Nat.mul_eq_zero.1 h1 with h|h<;>omega
   simp only[execOp,ho,Sem.run_bind,Instr.buildSlice,run_underlying hu,Result.andThen_ok,kP hn,hif,if_false]
   by_cases h0:n*sz=0
   ·have DJ:(Array.range (n*sz)).map (fun x=>(#[]:Array Value)[x % (#[]:Array Value).size]!)=(Array.range (n*sz)).map (zv.cells[· % zv.cells.size]!):=by rw[h0];simp
    simp only[if_pos h0,Sem.run_bind,Sem.run_pure,Result.andThen_ok]
    rw[DJ,HR,f1]
    simp[newRow]
   ·simp only[if_neg h0,Sem.run_bind,Sem.run_pure,Result.andThen_ok,nR]
    rw[HR,f1]
    simp[newRow]
  refine⟨r',e',sz,bF (bI b z) l n 0,hk,by rw[Ij];exact bC,by rw[Ij];exact ach,by rw[Ij];exact nH,jB,fun i x j c hx hc=>?_⟩
  obtain⟨hi,rfl⟩:=fo i x hx
  have hj:j<sz:=by
   have h1:=(jB _ (List.mem_of_getElem? hx)).1
   have h2:=(List.getElem?_eq_some_iff.1 hc).1
   omega
  have aP:i*sz+j<n*sz:=by
   have:(i+1)*sz≤n*sz:=Nat.mul_le_mul_right _ hi
   rw[Nat.succ_mul]at this;omega
  have hq:=q3 i j hi hj
  have hcr:r[i*sz+j]? =some c:=by
   rw[hq]
   cases Jt:uE i l with
   |some y=>rw[Jt]at hc;exact hc
   |none=>
    rw[Jt]at hc
    simp only at hc
    rw[hmz]at hc
    simp only
    rw[List.getElem?_map,List.getElem?_range aP]
    have Dn:(i*sz+j) % sz=j:=by rw[Nat.add_comm,Nat.add_mul_mod_self_right,Nat.mod_eq_of_lt hj]
    simp only[Option.map_some,Dn,List.getD_eq_getElem?_getD,hc,Option.getD_some]
  have mR:i*sz+j<r'.size:=by rw[ach];exact aP
  refine⟨mR,f2.2 (i*sz+j) c _ hcr ?_⟩
  simp[mR]
theorem adi(hI:Inv gl w0 au e a w g){o:Oper}{t:TypeId}{n:Nat}{ps:Array (Nat×Operand)}(ho:o.op=.buildSlice t n ps){k:Slot→List af→Prop}
  (h:ab (nE P t) fun e'=>ab (lR P e') fun ly=>ab (pG P e') fun z=>ab (rV (fun x=>(Ab.bA gl e x).aa) ps.toList) fun l=>
    bif Nat.ble (n*ly.2) (2^24)&&Nat.blt 0 ly.2&&Nat.beq z.length ly.2 then(bz ly.2 n l=true∧k (.v (.full ly.2 (bF (bI ly.1 z) l n 0))) e.boxes)else False):
  bP P gl w0 au e.ak o a w k:=by
 obtain⟨r',e',sz,L,hk,bC,aN,nH,jB,bG⟩:=V5 hI ho (K:=fun sz L=>k (.v (.full sz L)) e.boxes) h
 refine bP.aiQ hI (cells:=r') (t:=e') bC (fun g' bc hX=>?_) hk
 refine .full (w:=w.alloc (.cells r' e')) (St:=g'.St) (base:=w0.heap.size) (fun _ _ _=>False) sz L ⟨w.heap.size,0,none⟩ ?_
 refine bp.sl (w:=w.alloc (.cells r' e')) (St:=g'.St) sz L w.heap.size 0 L.length (fun o=>r'.getD o undef) (Nat.le_refl _) nH (fun x hx=>(jB x hx).1) (fun x hx=>(jB x hx).2)
  (fun o' cg=>⟨by
    rw[cell_of_row _ w.heap.size (0+o') r' e' (0,0) (vK w _)]
    simp[aN,cg],bc _⟩) (fun i x j c hx hc=>hX.yr (bG i x j c hx hc).2)
theorem bP.ZM(hI:Inv gl w0 au e a w g){o:Oper}{cells:Array Value}{t:TypeId}{sz:Nat}{L:List D}{k:Slot→List af→Prop}
  (bC:(execOp a.eval o).run P w=.ok (.value (.slice (some ⟨w.heap.size,0,none⟩) L.length L.length)) (w.alloc (.cells cells t)))
  (aN:cells.size=L.length*sz)(nH:L.length≤maxLen)(jB:∀x∈L,x.cells.length=sz∧∀c∈x.cells,c.one=true)
  (rep:∀(i:Nat)x(j:Nat)c,L[i]? =some x→x.cells[j]? =some c→i*sz+j<cells.size∧bp w g.St c (cells.getD (i*sz+j) undef))
  (hk:k (.v (.bh sz L)) e.boxes):bP P gl w0 au e.ak o a w k:=by
 intro next Q hn
 unfold Oper.wp
 rw[bC]
 have hle:w0.heap.size≤w.heap.size:=hI.below.size
 let g':Gh:={g with ow:=fun b=>if b=w.heap.size then o.dst.map (fun d=>.s d 0)else g.ow b}
 have hX:Ext w0.heap.size w g (w.alloc (.cells cells t)) g' (fun _=>False):=by
  refine⟨fun D ob hb ho h=>⟨(jZ w _ D (gk h)).trans h,hb,(by
   show(if D=w.heap.size then o.dst.map (fun d=>Pos.s d 0)else g.ow D)=none
   rw[if_neg (by have:=gk h;omega)];exact ho),fun _ h=>h⟩,fun b o h=>⟨h,.rP (jZ w _ b (hI.me h))⟩,fun b o h=>Ph w _ b o (by omega),fun i ao h=>h,fun p b a c _ ho=>?_,.of fun b hb=>jZ w _ b hb⟩
  have aP:=ho.lt
  obtain⟨h1,h2,h3,⟨cur,ty,h4,oD⟩,h5⟩:=ho
  refine⟨⟨?_,h2,h3,⟨cur,ty,(jZ w _ b aP).trans h4,oD⟩,h5⟩,fun _=>jZ w _ b aP⟩
  show(if b=w.heap.size then o.dst.map (fun d=>Pos.s d 0)else g.ow b)=some p
  rw[if_neg (by omega)];exact h1
 refine hn (.v (.bh sz L)) _ _ _ g' (hI.ML (g':=g')
  ⟨hX.df,hX.st,hX.bs,hX.bx,fun p b a c _ ho=>hX.own p b a c (fun h=>h) ho,hX.sh⟩ ((Below.refl _ _).alloc (Nat.le_refl _) _) (fun d hd=>?_) rfl (fun b o h=>.inl h)) hk
 refine .v _ _ _ (.bh (w:=w.alloc (.cells cells t)) _ sz L w.heap.size L.length (fun o=>cells.getD o undef) (Nat.le_refl _) nH (fun x hx=>(jB x hx).1) (fun x hx=>(jB x hx).2) ?_ (fun o' cg=>?_)
  (fun i x j c hx hc=>hX.yr (rep i x j c hx hc).2))
 ·refine⟨?_,hle,fun hm=>by have:=(hI.dP _ hm).2;omega,⟨cells,t,vK w _,aN⟩,fun o' _ bc=>by have:=hI.me bc;omega⟩
  show(if w.heap.size=w.heap.size then o.dst.map (fun d=>Pos.s d 0)else g.ow w.heap.size)=some (.s d 0)
  rw[if_pos rfl,hd];rfl
 ·have:=cell_of_row (w.alloc (.cells cells t)) w.heap.size o' cells t (0,0) (vK w _)
  rw[this]
  simp[aN,cg]
structure v8(e:Env)(ak:List Slot)(lost:Nat→Prop)(dst:Option Nat):Prop where
 len:ak.length=e.ak.length
 at_:∀(i:Nat)x,ak[i]? =some x→dst≠some i→∃y,e.ak[i]? =some y∧((x=y∧¬lost i)∨x=y.aa)
theorem v8.same(e:Env)(dst:Option Nat):v8 e e.ak (fun _=>False) dst:=⟨rfl,fun _ x h _=>⟨x,h,.inl ⟨rfl,fun h=>h⟩⟩⟩
def C3(lost:Nat→Prop)(dst:Option Nat)(p:Pos):Prop:=∃i j,p=.s i j∧(lost i∨dst=some i)
theorem Inv.hand(hI:Inv gl w0 au e a w g){w':World}{g':Gh}{ak:List Slot}{lost:Nat→Prop}{dst:Option Nat}(hH:v8 e ak lost dst)
  (hX:Ext w0.heap.size w g w' g' (C3 lost dst)){s:Slot}{v:Value}(rZ:Below w0.heap.size w w')
  (qJ:∀d,dst=some d→cQ w0.heap.size w' g' (gp w0.heap.size w' g' d) s v)(eI:g'.bx=g.bx)(dX:∀b,some b∈g.bx→w'.heap[b]? =w.heap[b]?)
  (Dl:∀b o,g'.St b o→(au b o∨w0.heap.size≤b)∧some b∉g.bx∧b<w'.heap.size):
  Inv gl w0 au ⟨de ak dst s,e.boxes⟩ (a.put dst v) w' g':=by
 refine hI.step hX rZ hH.len (fun i x hx hd=>?_) qJ (by rw[eI];exact hI.gq) ?_ (by rw[eI];exact hI.nodup) ?_ (fun b o h=>by rw[eI];exact Dl b o h)
 ·obtain⟨y,hy,⟨rfl,hl⟩|h⟩:=hH.at_ i x hx hd
  ·refine⟨x,hy,.inl ⟨rfl,fun j=>?_⟩⟩
   rintro⟨i',j',h,jQ|jQ⟩
   ·cases h;exact hl jQ
   ·cases h;exact hd jQ
  ·exact⟨y,hy,.inr h⟩
 ·intro b bx ao h1 h2
  rw[eI]at h2
  refine hX.box (fun j=>?_) (dX ao (List.mem_of_getElem? h2)) (hI.boxes b bx ao h1 h2)
  rintro⟨i,j',h,_⟩
  cases h
 ·intro b hb
  rw[eI]at hb
  have:=rZ.size
  have:=hI.dP b hb
  omega
def Gh.mv(g:Gh)(b:Nat)(p:Pos):Gh:={g with ow:=fun b'=>if b'=b then some p else g.ow b'}
theorem Ext.mv{base:Nat}{i:Nat}{b a0 c0:Nat}(ho:fA base w g (.s i 0) b a0 c0){lost:Nat→Prop}(hl:lost i)(dst:Option Nat)(q:Pos):Ext base w g w (g.mv b q) (C3 lost dst):=by
 refine⟨fun D _ hb hn h=>⟨h,hb,(by
  simp only[Gh.mv]
  rw[if_neg (fun e=>by rw[e,ho.1]at hn;cases hn)];exact hn),fun _ h=>h⟩,fun _ _ h=>(by first|exact⟨h,rfl⟩|exact⟨h,.refl _ _ _⟩),fun _ _ _=>rfl,fun _ _ h=>h,fun p b' a' c' hp cg=>⟨?_,.refl _ _ _⟩,.refl _⟩
 obtain⟨h1,h2,h3,h4,h5⟩:=cg
 refine⟨?_,h2,h3,h4,h5⟩
 simp only[Gh.mv]
 split
 ·rename_i hb
  subst hb
  exfalso
  rw[ho.1]at h1
  cases h1
  exact hp ⟨i,0,rfl,.inl hl⟩
 ·exact h1
theorem adj{t ty e':TypeId}{i:TypeInfo}(ht:P.underlying t=some (.slice e'))(hi:P.info? e'=some i)(base:Option Addr)(n cap:Nat)(hn:n≤cap){y:Value}
  (hy:y=.slice none 0 0∨∃ad c,y=.slice (some ad) 0 c):(Builtin.append_ #[t,t] ty #[.slice base n cap,y]).run P w=.ok (.slice base n cap) w:=by
 rcases hy with rfl|⟨ad,c,rfl⟩
 ·cases base<;>simp[Builtin.append_,run_underlying ht,sizeOf,typeInfo,hi,Builtin.lenOf,hn,Builtin.firstCells,storeCells]
 ·cases base<;>simp[Builtin.append_,run_underlying ht,sizeOf,typeInfo,hi,Builtin.lenOf,hn,Builtin.firstCells,loadCells,loadCellsFrom,storeCells]
theorem Pd{t ty e' te:TypeId}{i:TypeInfo}(ht:P.underlying t=some (.slice e'))(hi:P.info? e'=some i){gg n cap:Nat}{cur:Array Value}(hg:w.heap[gg]? =some (.cells cur te (0,0)))
  {ad:Addr}{m c:Nat}(news:List Value)(hl:news.length=m*i.size)(Ik:∀j u,news[j]? =some u→w.cell? (ad.add j)=some u)(h1:∀u∈news,u.oneCell'=true)
  (tK:n+m≤cap)(sD:n*i.size+news.length≤cur.size):
  (Builtin.append_ #[t,t] ty #[.slice (some ⟨gg,0,none⟩) n cap,.slice (some ad) m c]).run P w=
    .ok (.slice (some ⟨gg,0,none⟩) (n+m) cap) (w.setRow gg (cur.toList.take (n*i.size)++news++cur.toList.drop (n*i.size+news.length)).toArray):=by
 have hf:=run_firstCells_some (P:=P) w i.size m ad m c news hl Ik
 have bc:=run_storeCells_at P gg (n*i.size) te news 0 cur w hg (by simpa using sD) h1
 simp only[Nat.add_zero]at bc
 simp[Builtin.append_,run_underlying ht,sizeOf,typeInfo,hi,Builtin.lenOf,tK,hf,Addr.add_lit,bc]
theorem Bc{sz n:Nat}{vs:Nat→Value}{b off:Nat}{St:Nat→Nat→Prop}(aW:∀(o:Nat),o<n*sz→w.cell? ⟨b,off+o,none⟩=some (vs o)∧St b (off+o)):
  ∃l:List Value,l.length=n*sz∧(∀j u,l[j]? =some u→w.cell? ((⟨b,off,none⟩:Addr).add j)=some u)∧∀j,j<n*sz→l[j]? =some (vs j):=by
 refine⟨(List.range (n*sz)).map vs,by simp,fun j u hu=>?_,fun j hj=>by simp[hj]⟩
 have hj:j<n*sz:=by have:=(List.getElem?_eq_some_iff.1 hu).1;simpa using this
 simp[hj]at hu
 subst hu
 rw[qq]
 exact(aW j hj).1
theorem Lo{sz:Nat}{L M:List D}(hL:∀x∈L,x.cells.length=sz){i:Nat}{x:D}(hx:(L++M)[i]? =some x){j:Nat}{c:D}(hc:x.cells[j]? =some c){St:Nat→Nat→Prop}
  {f h:Nat→Value}(hf:∀(i:Nat)x(j:Nat)c,L[i]? =some x→x.cells[j]? =some c→bp w St c (f (i*sz+j)))(hh:∀(i:Nat)x(j:Nat)c,M[i]? =some x→x.cells[j]? =some c→bp w St c (h (i*sz+j)))
  (hM:∀x∈M,x.cells.length=sz):bp w St c (if i*sz+j<L.length*sz then f (i*sz+j)else h (i*sz+j-L.length*sz)):=by
 rw[List.getElem?_append]at hx
 have hj:=(List.getElem?_eq_some_iff.1 hc).1
 split at hx
 ·rename_i hi
  rw[hL x (List.mem_of_getElem? hx)]at hj
  have:(i+1)*sz≤L.length*sz:=Nat.mul_le_mul_right _ hi
  rw[Nat.succ_mul]at this
  rw[if_pos (by omega)]
  exact hf i x j c hx hc
 ·rename_i hi
  rw[hM x (List.mem_of_getElem? hx)]at hj
  have h1:L.length*sz≤i*sz:=Nat.mul_le_mul_right _ (by omega)
  rw[if_neg (by omega)]
  have:=hh (i-L.length) x j c hx hc
  have e1:i*sz+j-L.length*sz=(i-L.length)*sz+j:=by rw[Nat.sub_mul];omega
  rw[e1]
  exact this
theorem Inv.grow(hI:Inv gl w0 au e a w g){ak:List Slot}{lost:Nat→Prop}{dst:Option Nat}(hH:v8 e ak lost dst){sz:Nat}{L M:List D}{cap:Nat}{te:TypeId}{fB news rest:List Value}
  (hL:∀x∈L,x.cells.length=sz)(hM:∀x∈M,x.cells.length=sz)(ua:∀x∈L,∀c∈x.cells,c.one=true)(na:∀x∈M,∀c∈x.cells,c.one=true)
  (ho:fB.length=L.length*sz)(hn:news.length=M.length*sz)(hr:rest.length=(cap-(L.length+M.length))*sz)(cd:L.length+M.length≤cap)(g8:cap≤maxLen)
  {f h:Nat→Value}(ub:∀j,j<L.length*sz→fB[j]? =some (f j))(wH:∀j,j<M.length*sz→news[j]? =some (h j))
  (hf:∀(i:Nat)x(j:Nat)c,L[i]? =some x→x.cells[j]? =some c→bp w g.St c (f (i*sz+j)))(hh:∀(i:Nat)x(j:Nat)c,M[i]? =some x→x.cells[j]? =some c→bp w g.St c (h (i*sz+j))):
  ∃g',Inv gl w0 au ⟨de ak dst (.v (.own sz (L++M))),e.boxes⟩ (a.put dst (.slice (some ⟨w.heap.size,0,none⟩) (L.length+M.length) cap))
   (w.drew.alloc (.cells (fB++news++rest).toArray te)) g':=by
 have hle:w0.heap.size≤w.heap.size:=hI.below.size
 have arX:w.drew.heap=w.heap:=rfl
 have aN:(w.drew.alloc (.cells (fB++news++rest).toArray te)).heap.size =w.heap.size+1:=A9 w.drew _
 have hold:=fun b(hb:b<w.heap.size)=>jZ w.drew (.cells (fB++news++rest).toArray te) b hb
 have mf:=vK w.drew (.cells (fB++news++rest).toArray te)
 have BF:∀b o,b<w.heap.size→(w.drew.alloc (.cells (fB++news++rest).toArray te)).cell? ⟨b,o,none⟩=w.cell? ⟨b,o,none⟩:=fun b o hb=>World.cell?_of_block (hold b hb)
 refine⟨{St:=fun b o=>g.St b o∨(b=w.heap.size∧o<(L.length+M.length)*sz),bx:=g.bx,ow:=fun b=>if b=w.heap.size then(dst.map fun d=>.s d 0)else g.ow b},?_⟩
 have hX:Ext w0.heap.size w g (w.drew.alloc (.cells (fB++news++rest).toArray te))
   {St:=fun b o=>g.St b o∨(b=w.heap.size∧o<(L.length+M.length)*sz),bx:=g.bx,ow:=fun b=>if b=w.heap.size then(dst.map fun d=>.s d 0)else g.ow b} (C3 lost dst):=by
  refine⟨fun D o hb ho h=>⟨(hold D (gk h)).trans h,hb,(by
   simp only
   rw[if_neg (by have:=gk h;omega)];exact ho),fun x hx=>hx.elim id fun e=>(by have:=gk h;omega)⟩,fun b o h=>⟨.inl h,.rP (hold b (hI.me h))⟩,fun b o h=>BF b o (by omega),fun _ _ h=>h,fun p b a' c' _ cg=>⟨?_,fun _=>hold b cg.lt⟩,.of fun b hb=>hold b hb⟩
  have aP:=cg.lt
  obtain⟨h1,h2,h3,⟨cur,ty,h4,oD⟩,h5⟩:=cg
  refine⟨?_,h2,h3,⟨cur,ty,(hold b aP).trans h4,oD⟩,fun o ho=>?_⟩
  ·simp only
   rw[if_neg (by omega)];exact h1
  ·rintro(h|h)
   ·exact h5 o ho h
   ·omega
 refine hI.hand hH hX ⟨rfl,rfl,rfl,by omega,fun k hk=>hold k (by omega)⟩ (fun d hd=>?_) rfl (fun b hb=>hold b (hI.dP b hb).2) (fun b o h=>?_)
 ·have hlen:(L++M).length =L.length+M.length:=List.length_append
  have cK:(fB++news++rest).toArray.size =cap*sz:=by
   simp only[List.size_toArray,List.length_append,ho,hn,hr]
   rw[←Nat.add_mul,←Nat.add_mul]
   congr 1
   omega
  have bG:=bp.sl (w:=w.drew.alloc (.cells (fB++news++rest).toArray te)) (St:=fun b o=>g.St b o∨(b=w.heap.size∧o<(L.length+M.length)*sz)) sz (L++M) w.heap.size 0 cap
   (fun o=>if o<L.length*sz then f o else h (o-L.length*sz)) (by omega) (by omega) (fun x hx=>(List.mem_append.1 hx).elim (hL x) (hM x)) (fun x hx=>(List.mem_append.1 hx).elim (ua x) (na x))
   (fun o cg=>by
     rw[hlen]at cg
     refine⟨?_,.inr ⟨rfl,by omega⟩⟩
     rw[cell_of_row _ w.heap.size (0+o) _ te (0,0) mf]
     simp only[Nat.zero_add,List.getElem?_toArray]
     rw[List.append_assoc,List.getElem?_append]
     split
     ·rename_i h1
      rw[ho]at h1
      rw[if_pos h1];exact ub o h1
     ·rename_i h1
      rw[ho]at h1 ⊢
      rw[if_neg h1]
      have aP:o-L.length*sz<M.length*sz:=by rw[Nat.add_mul]at cg;omega
      rw[List.getElem?_append_left (by rw[hn];exact aP)]
      exact wH _ aP)
   (fun i x j c hx hc=>(Lo hL hx hc hf hh hM).mono fun b o h=>⟨.inl h,BF b o (hI.me h)⟩)
  rw[hlen]at bG
  refine .v _ _ _ ?_
  have jm:=aR.own (w:=w.drew.alloc (.cells (fB++news++rest).toArray te)) (St:=fun b o=>g.St b o∨(b=w.heap.size∧o<(L.length+M.length)*sz)) (base:=w0.heap.size)
   (gp w0.heap.size (w.drew.alloc (.cells (fB++news++rest).toArray te)) {St:=fun b o=>g.St b o∨(b=w.heap.size∧o<(L.length+M.length)*sz),bx:=g.bx,ow:=fun b=>if b=w.heap.size then(dst.map fun d=>.s d 0)else g.ow b} d 0)
   sz (L++M) w.heap.size cap (by rw[hlen];exact bG) g8 ?_
  ·rw[hlen]at jm;exact jm
  ·refine⟨by simp[hd],hle,fun hb=>by have:=(hI.dP _ hb).2;omega,⟨_,te,mf,cK⟩,fun o ho=>?_⟩
   rw[hlen]at ho
   rintro(h|h)
   ·have:=hI.me h;omega
   ·omega
 ·rcases h with h|h
  ·have:=hI.dj b o h
   exact⟨this.1,this.2.1,by omega⟩
  ·obtain⟨rfl,_⟩:=h
   exact⟨.inr hle,fun hb=>by have:=(hI.dP _ hb).2;omega,by omega⟩
theorem Inv.room(hI:Inv gl w0 au e a w g){ak:List Slot}{lost:Nat→Prop}{dst:Option Nat}(hH:v8 e ak lost dst){sz:Nat}{L M:List D}{cap gg i0:Nat}{news:List Value}
  (uc:fA w0.heap.size w g (.s i0 0) gg (L.length*sz) (cap*sz))(hl:lost i0)
  (z0:bp w g.St (.sl .ro sz L) (.slice (some ⟨gg,0,none⟩) L.length cap)){cur:Array Value}{te:TypeId}(mS:w.heap[gg]? =some (.cells cur te (0,0)))(cK:cur.size=cap*sz)
  (hM:∀x∈M,x.cells.length=sz)(na:∀x∈M,∀c∈x.cells,c.one=true)
  (hn:news.length=M.length*sz)(cd:L.length+M.length≤cap)(g8:cap≤maxLen)
  {h:Nat→Value}(wH:∀j,j<M.length*sz→news[j]? =some (h j))(hh:∀(i:Nat)x(j:Nat)c,M[i]? =some x→x.cells[j]? =some c→bp w g.St c (h (i*sz+j))):
  ∃g',Inv gl w0 au ⟨de ak dst (.v (.own sz (L++M))),e.boxes⟩ (a.put dst (.slice (some ⟨gg,0,none⟩) (L.length+M.length) cap))
   (w.setRow gg (cur.toList.take (L.length*sz)++news++cur.toList.drop (L.length*sz+news.length)).toArray) g':=by
 obtain⟨o1,o2,o3,_,o5⟩:=uc
 have pq:gg<w.heap.size:=(Array.getElem?_eq_some_iff.1 mS).1
 have sD:L.length*sz+M.length*sz≤cap*sz:=by rw[←Nat.add_mul];exact Nat.mul_le_mul_right _ cd
 let w':=w.setRow gg (cur.toList.take (L.length*sz)++news++cur.toList.drop (L.length*sz+news.length)).toArray
 let g':Gh:={St:=fun b o=>g.St b o∨(b=gg∧o<(L.length+M.length)*sz),bx:=g.bx,ow:=fun b=>if b=gg then(dst.map fun d=>.s d 0)else g.ow b}
 have dZ:∀k,k≠gg→w'.heap[k]? =w.heap[k]? :=fun k hk=>setRow_other w gg k _ hk
 have mf:w'.heap[gg]? =some (.cells (cur.toList.take (L.length*sz)++news++cur.toList.drop (L.length*sz+news.length)).toArray te (0,0)):=setRow_heap w gg cur _ te (0,0) mS
 have j8:∀o,w'.cell? ⟨gg,o,none⟩=if o<L.length*sz then cur[o]? else if o<L.length*sz+M.length*sz then news[o-L.length*sz]? else cur[o]? :=by
  intro o
  rw[cell_of_row w' gg o _ te (0,0) mf]
  simp only[List.getElem?_toArray]
  rw[uC cur.toList news (L.length*sz) (by simp[cK,hn];omega)]
  simp only[hn,Array.getElem?_toList]
 have BF:∀b o,(b=gg→o<L.length*sz)→w'.cell? ⟨b,o,none⟩=w.cell? ⟨b,o,none⟩:=by
  intro b o hb
  by_cases pr:b=gg
  ·subst pr
   rw[j8,if_pos (hb rfl),cell_of_row w b o cur te (0,0) mS]
  ·exact World.cell?_of_block (dZ b pr)
 have hX:Ext w0.heap.size w g w' g' (C3 lost dst):=by
  refine⟨fun D ob hb ff h=>(have bg:D≠gg:=(fun e=>by rw[e,o1]at ff;cases ff);⟨(dZ D bg).trans h,hb,(by
   show(if D=gg then(dst.map fun d=>Pos.s d 0)else g.ow D)=none
   rw[if_neg bg];exact ff),fun x hx=>hx.elim id fun e=>absurd e.1 bg⟩),fun b o h=>⟨.inl h,BF b o (fun hb=>?_),fun es c hm=>(dZ b (fun hb=>by rw[hb,mS]at hm;cases hm)).trans hm⟩,fun b o hb=>BF b o (fun h=>by omega),fun _ _ h=>h,fun p b a' c' hp cg=>?_,fun b c ty _ hb=>(by
   by_cases pr:b=gg
   ·subst pr
    rw[mS]at hb;cases hb
    refine⟨_,_,mf,?_⟩
    have dJ:cur.toList.length=cap*sz:=by simpa using cK
    rw[List.size_toArray,List.length_append,List.length_append,List.length_take,List.length_drop,hn,dJ,cK];omega
   ·exact⟨c,ty,(dZ b pr).trans hb,rfl⟩)⟩
  ·subst hb
   rcases Nat.lt_or_ge o (L.length*sz)with h1|h1
   ·exact h1
   ·exact absurd h (o5 o h1)
  ·obtain⟨h1,h2,h3,⟨jv,ty,h4,oD⟩,h5⟩:=cg
   have pr:b≠gg:=by
    rintro rfl
    rw[o1]at h1
    cases h1
    exact hp ⟨i0,0,rfl,.inl hl⟩
   refine⟨⟨?_,h2,h3,⟨jv,ty,(dZ b pr).trans h4,oD⟩,fun o ho=>?_⟩,fun _=>dZ b pr⟩
   ·show(if b=gg then(dst.map fun d=>Pos.s d 0)else g.ow b)=some p
    rw[if_neg pr];exact h1
   ·rintro(h|h)
    ·exact h5 o ho h
    ·exact pr h.1
 refine⟨g',hI.hand hH hX ⟨rfl,rfl,rfl,by simp[w',World.setRow],fun k hk=>dZ k (by omega)⟩ (fun d hd=>?_) rfl (fun b hb=>dZ b (fun h=>o3 (h▸hb))) (fun b o h=>?_)⟩
 ·have hlen:(L++M).length =L.length+M.length:=List.length_append
  cases z0 with
  |mY _ _ _ ha=>exact absurd rfl ha
  |sl _ _ _ _ _ vs arY hm hL ua aW hc=>
   have bG:=bp.sl (w:=w') (St:=g'.St) sz (L++M) gg 0 cap
    (fun o=>if o<L.length*sz then vs o else h (o-L.length*sz)) (by omega) (by omega) (fun x hx=>(List.mem_append.1 hx).elim (hL x) (hM x)) (fun x hx=>(List.mem_append.1 hx).elim (ua x) (na x))
    (fun o cg=>by
      rw[hlen,Nat.add_mul]at cg
      refine⟨?_,.inr ⟨rfl,by rw[Nat.add_mul];omega⟩⟩
      rw[Nat.zero_add,j8]
      split
      ·rename_i h1
       have:=(aW o h1).1
       rw[Nat.zero_add,cell_of_row w gg o cur te (0,0) mS]at this
       exact this
      ·rename_i h1
       exact wH _ (by omega))
    (fun i x j c hx jd=>(Lo hL hx jd hc hh hM).mono hX.stc)
   refine .v _ _ _ ?_
   have jm:=aR.own (w:=w') (St:=g'.St) (base:=w0.heap.size) (gp w0.heap.size w' g' d 0) sz (L++M) gg cap (by rw[hlen]at bG ⊢;exact bG) g8 ?_
   ·rw[hlen]at jm;exact jm
   ·refine⟨by simp[g',hd],o2,o3,⟨_,te,mf,?_⟩,fun o ho=>?_⟩
    ·have dJ:cur.toList.length=cap*sz:=by simpa using cK
     rw[List.size_toArray,List.length_append,List.length_append,List.length_take,List.length_drop,hn,dJ];omega
    ·rw[hlen]at ho
     have:L.length*sz≤(L.length+M.length)*sz:=Nat.mul_le_mul_right _ (by omega)
     rintro(h|h)
     ·exact o5 o (by omega) h
     ·omega
 ·have hs:w'.heap.size=w.heap.size:=by simp[w',World.setRow]
  rcases h with h|h
  ·have:=hI.dj b o h
   exact⟨this.1,this.2.1,by omega⟩
  ·obtain⟨rfl,_⟩:=h
   exact⟨.inr o2,o3,by omega⟩
theorem Inv.abL(hI:Inv gl w0 au e a w g){ak:List Slot}{lost:Nat→Prop}{dst:Option Nat}(hH:v8 e ak lost dst){sz:Nat}{L M:List D}{cap:Nat}{te:TypeId}{fB news rest:List Value}
  (hL:∀x∈L,x.cells.length=sz)(hM:∀x∈M,x.cells.length=sz)(ua:∀x∈L,∀c∈x.cells,c.one=true)(na:∀x∈M,∀c∈x.cells,c.one=true)
  (ho:fB.length=L.length*sz)(hn:news.length=M.length*sz)(hr:rest.length=(cap-(L.length+M.length))*sz)(cd:L.length+M.length≤cap)(g8:cap≤maxLen)
  {f h:Nat→Value}(ub:∀j,j<L.length*sz→fB[j]? =some (f j))(wH:∀j,j<M.length*sz→news[j]? =some (h j))
  (hf:∀(i:Nat)x(j:Nat)c,L[i]? =some x→x.cells[j]? =some c→bp w g.St c (f (i*sz+j)))(hh:∀(i:Nat)x(j:Nat)c,M[i]? =some x→x.cells[j]? =some c→bp w g.St c (h (i*sz+j))):
  ∃g',Inv gl w0 au ⟨de ak dst (.v (.bh sz (L++M))),e.boxes⟩ (a.put dst (.slice (some ⟨w.heap.size,0,none⟩) (L.length+M.length) cap))
   (w.drew.alloc (.cells (fB++news++rest).toArray te)) g':=by
 have hle:w0.heap.size≤w.heap.size:=hI.below.size
 have aN:(w.drew.alloc (.cells (fB++news++rest).toArray te)).heap.size =w.heap.size+1:=A9 w.drew _
 have hold:=fun b(hb:b<w.heap.size)=>jZ w.drew (.cells (fB++news++rest).toArray te) b hb
 have mf:=vK w.drew (.cells (fB++news++rest).toArray te)
 have BF:∀b o,b<w.heap.size→(w.drew.alloc (.cells (fB++news++rest).toArray te)).cell? ⟨b,o,none⟩=w.cell? ⟨b,o,none⟩:=fun b o hb=>World.cell?_of_block (hold b hb)
 let g':Gh:={St:=g.St,bx:=g.bx,ow:=fun b=>if b=w.heap.size then(dst.map fun d=>.s d 0)else g.ow b}
 have hX:Ext w0.heap.size w g (w.drew.alloc (.cells (fB++news++rest).toArray te)) g' (C3 lost dst):=by
  refine⟨fun D o hb ho h=>⟨(hold D (gk h)).trans h,hb,(by
   show(if D=w.heap.size then(dst.map fun d=>Pos.s d 0)else g.ow D)=none
   rw[if_neg (by have:=gk h;omega)];exact ho),fun x hx=>hx⟩,fun b o h=>⟨h,.rP (hold b (hI.me h))⟩,fun b o h=>BF b o (by omega),fun _ _ h=>h,fun p b a' c' _ cg=>⟨?_,fun _=>hold b cg.lt⟩,.of fun b hb=>hold b hb⟩
  have aP:=cg.lt
  obtain⟨h1,h2,h3,⟨cur,ty,h4,oD⟩,h5⟩:=cg
  refine⟨?_,h2,h3,⟨cur,ty,(hold b aP).trans h4,oD⟩,h5⟩
  show(if b=w.heap.size then(dst.map fun d=>Pos.s d 0)else g.ow b)=some p
  rw[if_neg (by omega)];exact h1
 refine⟨g',hI.hand hH hX ⟨rfl,rfl,rfl,by omega,fun k hk=>hold k (by omega)⟩ (fun d hd=>?_) rfl (fun b hb=>hold b (hI.dP b hb).2) (fun b o h=>?_)⟩
 ·have hlen:(L++M).length =L.length+M.length:=List.length_append
  have cK:(fB++news++rest).toArray.size =cap*sz:=by
   simp only[List.size_toArray,List.length_append,ho,hn,hr]
   rw[←Nat.add_mul,←Nat.add_mul]
   congr 1
   omega
  refine .v _ _ _ ?_
  have hm:=aR.bh (w:=w.drew.alloc (.cells (fB++news++rest).toArray te)) (St:=g.St) (base:=w0.heap.size) (gp w0.heap.size (w.drew.alloc (.cells (fB++news++rest).toArray te)) g' d 0)
   sz (L++M) w.heap.size cap (fun o=>if o<L.length*sz then f o else h (o-L.length*sz)) (by omega) g8 (fun x hx=>(List.mem_append.1 hx).elim (hL x) (hM x)) (fun x hx=>(List.mem_append.1 hx).elim (ua x) (na x))
   ⟨by simp[g',hd],hle,fun hb=>by have:=(hI.dP _ hb).2;omega,⟨_,te,mf,cK⟩,fun o _ hs=>by have:=hI.me hs;omega⟩
   (fun o cg=>by
     rw[hlen]at cg
     rw[cell_of_row _ w.heap.size o _ te (0,0) mf]
     simp only[List.getElem?_toArray]
     rw[List.append_assoc,List.getElem?_append]
     split
     ·rename_i h1
      rw[ho]at h1
      rw[if_pos h1];exact ub o h1
     ·rename_i h1
      rw[ho]at h1 ⊢
      rw[if_neg h1]
      have aP:o-L.length*sz<M.length*sz:=by rw[Nat.add_mul]at cg;omega
      rw[List.getElem?_append_left (by rw[hn];exact aP)]
      exact wH _ aP)
   (fun i x j c hx hc=>(Lo hL hx hc hf hh hM).mono fun b o h=>⟨h,BF b o (hI.me h)⟩)
  rw[hlen]at hm
  exact hm
 ·have:=hI.dj b o h
  exact⟨this.1,this.2.1,by omega⟩
theorem Inv.anv(hI:Inv gl w0 au e a w g){ak:List Slot}{lost:Nat→Prop}{dst:Option Nat}(hH:v8 e ak lost dst){sz:Nat}{L M:List D}{cap gg i0:Nat}{news:List Value}
  (uc:fA w0.heap.size w g (.s i0 0) gg 0 (cap*sz))(hl:lost i0){vs:Nat→Value}
  (hL:∀x∈L,x.cells.length=sz)(ua:∀x∈L,∀c∈x.cells,c.one=true)(aW:∀(o:Nat),o<L.length*sz→w.cell? ⟨gg,o,none⟩=some (vs o))
  (hc:∀(i:Nat)x(j:Nat)c,L[i]? =some x→x.cells[j]? =some c→bp w g.St c (vs (i*sz+j))){cur:Array Value}{te:TypeId}(mS:w.heap[gg]? =some (.cells cur te (0,0)))(cK:cur.size=cap*sz)
  (hM:∀x∈M,x.cells.length=sz)(na:∀x∈M,∀c∈x.cells,c.one=true)
  (hn:news.length=M.length*sz)(cd:L.length+M.length≤cap)(g8:cap≤maxLen)
  {h:Nat→Value}(wH:∀j,j<M.length*sz→news[j]? =some (h j))(hh:∀(i:Nat)x(j:Nat)c,M[i]? =some x→x.cells[j]? =some c→bp w g.St c (h (i*sz+j))):
  ∃g',Inv gl w0 au ⟨de ak dst (.v (.bh sz (L++M))),e.boxes⟩ (a.put dst (.slice (some ⟨gg,0,none⟩) (L.length+M.length) cap))
   (w.setRow gg (cur.toList.take (L.length*sz)++news++cur.toList.drop (L.length*sz+news.length)).toArray) g':=by
 obtain⟨o1,o2,o3,_,o5⟩:=uc
 have pq:gg<w.heap.size:=(Array.getElem?_eq_some_iff.1 mS).1
 have sD:L.length*sz+M.length*sz≤cap*sz:=by rw[←Nat.add_mul];exact Nat.mul_le_mul_right _ cd
 let w':=w.setRow gg (cur.toList.take (L.length*sz)++news++cur.toList.drop (L.length*sz+news.length)).toArray
 let g':Gh:={St:=g.St,bx:=g.bx,ow:=fun b=>if b=gg then(dst.map fun d=>.s d 0)else g.ow b}
 have dZ:∀k,k≠gg→w'.heap[k]? =w.heap[k]? :=fun k hk=>setRow_other w gg k _ hk
 have mf:w'.heap[gg]? =some (.cells (cur.toList.take (L.length*sz)++news++cur.toList.drop (L.length*sz+news.length)).toArray te (0,0)):=setRow_heap w gg cur _ te (0,0) mS
 have j8:∀o,w'.cell? ⟨gg,o,none⟩=if o<L.length*sz then cur[o]? else if o<L.length*sz+M.length*sz then news[o-L.length*sz]? else cur[o]? :=by
  intro o
  rw[cell_of_row w' gg o _ te (0,0) mf]
  simp only[List.getElem?_toArray]
  rw[uC cur.toList news (L.length*sz) (by simp[cK,hn];omega)]
  simp only[hn,Array.getElem?_toList]
 have aoY:∀b o,g.St b o→b≠gg:=fun b o h e=>by subst e;exact o5 o (Nat.zero_le _) h
 have abM:(cur.toList.take (L.length*sz)++news++cur.toList.drop (L.length*sz+news.length)).toArray.size =cap*sz:=by
  have dJ:cur.toList.length=cap*sz:=by simpa using cK
  rw[List.size_toArray,List.length_append,List.length_append,List.length_take,List.length_drop,hn,dJ];omega
 have hX:Ext w0.heap.size w g w' g' (C3 lost dst):=by
  refine⟨fun D ob hb ff h=>(have bg:D≠gg:=(fun e=>by rw[e,o1]at ff;cases ff);⟨(dZ D bg).trans h,hb,(by
   show(if D=gg then(dst.map fun d=>Pos.s d 0)else g.ow D)=none
   rw[if_neg bg];exact ff),fun x hx=>hx⟩),fun b o h=>⟨h,.rP (dZ b (aoY b o h))⟩,fun b o hb=>World.cell?_of_block (dZ b (fun h=>by omega)),fun _ _ h=>h,fun p b a' c' hp cg=>?_,fun b c ty _ hb=>(by
   by_cases pr:b=gg
   ·subst pr
    rw[mS]at hb;cases hb
    exact⟨_,_,mf,abM.trans cK.symm⟩
   ·exact⟨c,ty,(dZ b pr).trans hb,rfl⟩)⟩
  obtain⟨h1,h2,h3,⟨jv,ty,h4,oD⟩,h5⟩:=cg
  have pr:b≠gg:=by
   rintro rfl
   rw[o1]at h1
   cases h1
   exact hp ⟨i0,0,rfl,.inl hl⟩
  refine⟨⟨?_,h2,h3,⟨jv,ty,(dZ b pr).trans h4,oD⟩,h5⟩,fun _=>dZ b pr⟩
  show(if b=gg then(dst.map fun d=>Pos.s d 0)else g.ow b)=some p
  rw[if_neg pr];exact h1
 refine⟨g',hI.hand hH hX ⟨rfl,rfl,rfl,by simp[w',World.setRow],fun k hk=>dZ k (by omega)⟩ (fun d hd=>?_) rfl (fun b hb=>dZ b (fun h=>o3 (h▸hb))) (fun b o h=>?_)⟩
 ·have hlen:(L++M).length =L.length+M.length:=List.length_append
  refine .v _ _ _ ?_
  have hm:=aR.bh (w:=w') (St:=g.St) (base:=w0.heap.size) (gp w0.heap.size w' g' d 0)
   sz (L++M) gg cap (fun o=>if o<L.length*sz then vs o else h (o-L.length*sz)) (by omega) g8 (fun x hx=>(List.mem_append.1 hx).elim (hL x) (hM x)) (fun x hx=>(List.mem_append.1 hx).elim (ua x) (na x))
   ⟨by simp[g',hd],o2,o3,⟨_,te,mf,abM⟩,fun o _ hs=>o5 o (Nat.zero_le _) hs⟩
   (fun o cg=>by
     rw[hlen,Nat.add_mul]at cg
     rw[j8]
     split
     ·rename_i h1
      have:=aW o h1
      rw[cell_of_row w gg o cur te (0,0) mS]at this
      exact this
     ·rename_i h1
      exact wH _ (by omega))
   (fun i x j c hx jd=>(Lo hL hx jd hc hh hM).mono hX.stc)
  rw[hlen]at hm
  exact hm
 ·have hs:w'.heap.size=w.heap.size:=by simp[w',World.setRow]
  have:=hI.dj b o h
  exact⟨this.1,this.2.1,by omega⟩
theorem Xc{t:TypeId}{z:List D}(h:pG P t=some z):∃i zv,P.info? t=some i∧i.zero=some zv∧zv.cells.size=z.length:=by
 unfold pG at h
 split at h
 ·rename_i i hi
  split at h
  ·rename_i zv hz
   exact⟨i,zv,hi,hz,by have:=(GZ (w:=default) (St:=fun _ _=>False) h).1;simpa using this.symm⟩
  ·cases h
 ·cases h
theorem En(z:Array Value)(n:Nat):∃l:List Value,Builtin.zeroCells z n=l.toArray∧l.length=n*z.size:=by
 refine⟨(Builtin.zeroCells z n).toList,by simp,by simp[size_zeroCells]⟩
theorem aee(hI:Inv gl w0 au e a w g){ak:List Slot}{lost:Nat→Prop}{dst:Option Nat}(hH:v8 e ak lost dst){t ty e':TypeId}{i:TypeInfo}{zv:Value}{sz:Nat}
  (ht:P.underlying t=some (.slice e'))(hi:P.info? e'=some i)(hz:i.zero=some zv)(aN:i.size=sz)(iC:zv.cells.size=sz)(Fz:0<sz)
  {sx sy:SV}{vx vy:Value}{O Oy:Nat→Nat→Nat→Prop}(rx:aR w g.St w0.heap.size O sx vx)(ry:aR w g.St w0.heap.size Oy sy vy)
  (hO:∀b a' c,O b a' c→∃i0,fA w0.heap.size w g (.s i0 0) b a' c∧lost i0){r:SV}{n:Nat}(h:mc sz sx sy=some (r,n))(hb:n*i.bytes≤140737488355328)(nf:0<i.bytes):
  ∃v w' g',(Builtin.append_ #[t,t] ty #[vx,vy]).run P w=.ok v w'∧Inv gl w0 au ⟨de ak dst (.v r),e.boxes⟩ (a.put dst v) w' g':=by
 subst aN
 unfold mc at h
 split at h
 ·cases h
 ·rename_i M hM
  have hy:=WH hM ry
  have anw:M=[]→vy=.slice none 0 0∨∃ad c,vy=.slice (some ad) 0 c:=by
   intro hm
   subst hm
   rcases hy with⟨h,_⟩|⟨b,off,cap,vs,h,_⟩
   ·exact h
   ·exact .inr ⟨_,_,h⟩
  have same:∀(base:Option Addr)(m cap:Nat),M=[]→m≤cap→vx=.slice base m cap→∀(r:SV)(g':Gh),Ext w0.heap.size w g w g' (C3 lost dst)→g'.bx=g.bx→g'.St=g.St→
    (∀d,dst=some d→aR w g'.St w0.heap.size (gp w0.heap.size w g' d 0) r vx)→
    ∃v w' g',(Builtin.append_ #[t,t] ty #[vx,vy]).run P w=.ok v w'∧Inv gl w0 au ⟨de ak dst (.v r),e.boxes⟩ (a.put dst v) w' g':=by
   intro base m cap hm hle hv r g' hX eI bc hr
   refine⟨vx,w,g',by rw[hv];exact adj ht hi base m cap hle (anw hm),hI.hand hH hX (Below.refl _ _) (fun d hd=>.v _ _ _ (hr d hd)) eI (fun _ _=>rfl) (fun b o h=>?_)⟩
   rw[bc]at h
   exact hI.dj b o h
  have grow:∀(L:List D)(ad:Addr)(cap:Nat),M≠[]→vx=.slice (some ad) L.length cap→bp w g.St (.sl .ro i.size L) vx→cap<L.length+M.length→(L.length+M.length)*i.bytes≤140737488355328→
    ∃v w' g',(Builtin.append_ #[t,t] ty #[vx,vy]).run P w=.ok v w'∧Inv gl w0 au ⟨de ak dst (.v (.own i.size (L++M))),e.boxes⟩ (a.put dst v) w' g':=by
   intro L ad cap hm hv hL aP eV
   rcases hy with⟨_,h0⟩|⟨b,off,z5,ys,va,_,_,nS,na,Ce,mu⟩
   ·exact absurd h0 hm
   ·rw[hv]at hL
    cases hL with
    |mY _ _ _ ha=>
     obtain⟨news,nl,nc,ng⟩:=Bc (w:=w) (n:=M.length) (sz:=i.size) (vs:=ys) Ce
     have bw:(0+M.length)*1≤(0+M.length)*i.bytes:=Nat.mul_le_mul_left _ nf
     simp only[List.length_nil]at aP eV
     have nH:0+M.length≤maxLen:=by simp only[maxLen];omega
     have bC:=run_append_grow (P:=P) w t ty e' i zv ht hi hz ad 0 cap [] (by simp) (by simp) ⟨b,off,none⟩ M.length z5 news nl nc aP (by omega) (growslice_fits aP eV)
     obtain⟨rest,qQ,pt⟩:=En zv.cells (grownCap w (0+M.length) cap e'-(0+M.length))
     rw[qQ]at bC
     have lf:=grownCap_ge w (0+M.length) cap e'
     obtain⟨g',hY⟩:=hI.grow hH (sz:=i.size) (L:=[]) (M:=M) (cap:=grownCap w (0+M.length) cap e') (te:=e') (fB:=[]) (news:=news) (rest:=rest) (f:=fun _=>.bool false) (by simp) nS (by simp) na (by simp) nl (by rw[pt,iC];rfl) lf
      (grownCap_le_maxLen w _ cap e' nH) (by simp) ng (by simp) mu
     refine⟨_,_,g',by rw[hv,va];exact bC,?_⟩
     simpa using hY
    |sl _ _ bx ox _ vs cd bX Jx ua jB wI=>
     obtain⟨fB,ol,oc,og⟩:=Bc (w:=w) (n:=L.length) (sz:=i.size) (vs:=vs) jB
     obtain⟨news,nl,nc,ng⟩:=Bc (w:=w) (n:=M.length) (sz:=i.size) (vs:=ys) Ce
     have bw:(L.length+M.length)*1≤(L.length+M.length)*i.bytes:=Nat.mul_le_mul_left _ nf
     have nH:L.length+M.length≤maxLen:=by simp only[maxLen];omega
     have bC:=run_append_grow (P:=P) w t ty e' i zv ht hi hz ⟨bx,ox,none⟩ L.length cap fB ol oc ⟨b,off,none⟩ M.length z5 news nl nc aP (by omega) (growslice_fits aP eV)
     obtain⟨rest,qQ,pt⟩:=En zv.cells (grownCap w (L.length+M.length) cap e'-(L.length+M.length))
     rw[qQ]at bC
     have lf:=grownCap_ge w (L.length+M.length) cap e'
     obtain⟨g',hY⟩:=hI.grow hH (sz:=i.size) (L:=L) (M:=M) (cap:=grownCap w (L.length+M.length) cap e') (te:=e') (fB:=fB) (news:=news) (rest:=rest) Jx nS ua na ol nl (by rw[pt,iC]) lf
      (grownCap_le_maxLen w _ cap e' nH) og ng wI mu
     refine⟨_,_,g',by rw[hv,va];exact bC,?_⟩
     simpa using hY
  split at h
  ·
   rename_i s L
   split at h
   ·rename_i hs
    cases h
    subst hs
    cases rx with
    |own _ _ _ gg cap z0 g8 ho=>
     obtain⟨i0,uc,hl⟩:=hO _ _ _ ho
     by_cases hm:M=[]
     ·subst hm
      simp only[List.append_nil]
      have cd:L.length≤cap:=by cases z0 with|sl _ _ _ _ _ _ cd=>exact cd|mY _ _ _ ha=>exact absurd rfl ha
      cases dst with
      |none=>
       refine same _ _ _ rfl cd rfl _ g ⟨fun _ _ hb ho h=>⟨h,hb,ho,fun _ h=>h⟩,fun _ _ h=>(by first|exact⟨h,rfl⟩|exact⟨h,.refl _ _ _⟩),fun _ _ _=>rfl,fun _ _ h=>h,fun _ _ _ _ _ h=>⟨h,.refl _ _ _⟩,.refl _⟩ rfl rfl (fun d hd=>by cases hd)
      |some d=>
       refine same _ _ _ rfl cd rfl _ (g.mv gg (.s d 0)) (Ext.mv uc hl _ _) rfl rfl (fun d' hd=>?_)
       cases hd
       refine .own _ i.size L gg cap z0 g8 ?_
       obtain⟨_,h2,h3,h4,h5⟩:=uc
       exact⟨by simp[Gh.mv],h2,h3,h4,h5⟩
     ·by_cases tK:L.length+M.length≤cap
      ·rcases hy with⟨_,h0⟩|⟨b,off,z5,ys,va,_,_,nS,na,Ce,mu⟩
       ·exact absurd h0 hm
       ·obtain⟨news,nl,nc,ng⟩:=Bc (w:=w) (n:=M.length) (sz:=i.size) (vs:=ys) Ce
        have SL:=uc
        obtain⟨_,_,_,⟨cur,te,mS,cK⟩,_⟩:=SL
        have u9:∀u∈news,u.oneCell'=true:=by
         intro u hu
         obtain⟨j,hj⟩:=List.mem_iff_getElem?.1 hu
         have lg:j<M.length*i.size:=by rw[←nl];exact(List.getElem?_eq_some_iff.1 hj).1
         rw[ng j lg]at hj
         cases hj
         have hq:j / i.size<M.length:=Nat.div_lt_of_lt_mul (by rw[Nat.mul_comm];exact lg)
         have Dn:=Nat.mod_lt j Fz
         have eM:M[j / i.size]∈M:=List.getElem_mem hq
         have dJ:=nS _ eM
         have hc:(M[j / i.size]).cells[j % i.size]? =some ((M[j / i.size]).cells[j % i.size]'(by omega)):=by simp
         have:=mu (j / i.size) _ (j % i.size) _ (List.getElem?_eq_getElem hq) hc
         rw[Nat.mul_comm,Nat.div_add_mod]at this
         exact this.vO (na _ eM _ (List.getElem_mem _))
        have sD:L.length*i.size+news.length≤cur.size:=by rw[nl,cK,←Nat.add_mul];exact Nat.mul_le_mul_right _ tK
        have bC:=Pd (P:=P) (w:=w) (ty:=ty) ht hi mS (ad:=⟨b,off,none⟩) (m:=M.length) (c:=z5) news nl nc u9 tK sD
        obtain⟨g',hY⟩:=hI.room hH uc hl z0 mS cK nS na nl tK g8 ng mu
        exact⟨_,_,g',by rw[va];exact bC,hY⟩
      ·exact grow L ⟨gg,0,none⟩ cap hm rfl z0 (by omega) hb
   ·cases h
  ·
   rename_i s L
   split at h
   ·rename_i hs
    subst hs
    cases rx with
    |full _ _ _ ad z0=>
     split at h
     ·rename_i hm
      cases h
      exact same _ _ _ hm (Nat.le_refl _) rfl _ g ⟨fun _ _ hb ho h=>⟨h,hb,ho,fun _ h=>h⟩,fun _ _ h=>(by first|exact⟨h,rfl⟩|exact⟨h,.refl _ _ _⟩),fun _ _ _=>rfl,fun _ _ h=>h,fun _ _ _ _ _ h=>⟨h,.refl _ _ _⟩,.refl _⟩ rfl rfl (fun d hd=>.full _ i.size L ad z0)
     ·rename_i hm
      cases h
      have:0<M.length:=List.length_pos_iff.2 hm
      exact grow L ad L.length hm rfl z0 (by omega) hb
   ·cases h
  ·
   have hd:=rx.data
   split at h
   ·rename_i hm
    cases h
    cases hd
    exact same none 0 0 hm (Nat.le_refl _) rfl _ g ⟨fun _ _ hb ho h=>⟨h,hb,ho,fun _ h=>h⟩,fun _ _ h=>(by first|exact⟨h,rfl⟩|exact⟨h,.refl _ _ _⟩),fun _ _ _=>rfl,fun _ _ h=>h,fun _ _ _ _ _ h=>⟨h,.refl _ _ _⟩,.refl _⟩ rfl rfl (fun d hd=>.d _ _ _ (.jk _))
   ·rename_i hm
    cases h
    cases hd
    rcases hy with⟨_,h0⟩|⟨b,off,z5,ys,va,_,_,nS,na,Ce,mu⟩
    ·exact absurd h0 hm
    ·obtain⟨news,nl,nc,ng⟩:=Bc (w:=w) (n:=M.length) (sz:=i.size) (vs:=ys) Ce
     have h0:0<M.length:=List.length_pos_iff.2 hm
     have bw:M.length*1≤M.length*i.bytes:=Nat.mul_le_mul_left _ nf
     have nH:M.length≤maxLen:=by simp only[maxLen];omega
     have bC:=run_append_nil (P:=P) w t ty e' i zv ht hi hz ⟨b,off,none⟩ M.length z5 news nl nc h0 (by omega) (by omega)
     obtain⟨rest,qQ,pt⟩:=En zv.cells (grownCap w M.length 0 e'-M.length)
     rw[qQ]at bC
     have lf:=grownCap_ge w M.length 0 e'
     rename_i mk _ _
     cases kH:Nat.beq mk ji with
     |false=>
      obtain⟨g',hY⟩:=hI.grow hH (sz:=i.size) (L:=[]) (M:=M) (cap:=grownCap w M.length 0 e') (te:=e') (fB:=[]) (news:=news) (rest:=rest) (by simp) nS (by simp) na (by simp) nl (by rw[pt,iC];simp) (by simpa using lf)
       (grownCap_le_maxLen w _ 0 e' nH) (f:=fun _=>undef) (by simp) ng (by simp) mu
      refine⟨_,_,g',by rw[va];exact bC,?_⟩
      simpa using hY
     |true=>
      obtain⟨g',hY⟩:=hI.abL hH (sz:=i.size) (L:=[]) (M:=M) (cap:=grownCap w M.length 0 e') (te:=e') (fB:=[]) (news:=news) (rest:=rest) (by simp) nS (by simp) na (by simp) nl (by rw[pt,iC];simp) (by simpa using lf)
       (grownCap_le_maxLen w _ 0 e' nH) (f:=fun _=>undef) (by simp) ng (by simp) mu
      refine⟨_,_,g',by rw[va];exact bC,?_⟩
      simpa using hY
  ·
   rename_i s L
   split at h
   ·rename_i hs
    cases h
    subst hs
    cases rx with
    |bh _ _ _ gg cap vs cd g8 Jx ua ho jB wI=>
     obtain⟨i0,uc,hl⟩:=hO _ _ _ ho
     by_cases hm:M=[]
     ·subst hm
      simp only[List.append_nil]
      cases dst with
      |none=>
       refine same _ _ _ rfl cd rfl _ g ⟨fun _ _ hb ho h=>⟨h,hb,ho,fun _ h=>h⟩,fun _ _ h=>⟨h,.refl _ _ _⟩,fun _ _ _=>rfl,fun _ _ h=>h,fun _ _ _ _ _ h=>⟨h,.refl _ _ _⟩,.refl _⟩ rfl rfl (fun d hd=>by cases hd)
      |some d=>
       refine same _ _ _ rfl cd rfl _ (g.mv gg (.s d 0)) (Ext.mv uc hl _ _) rfl rfl (fun d' hd=>?_)
       cases hd
       refine .bh _ i.size L gg cap vs cd g8 Jx ua ?_ jB wI
       obtain⟨_,h2,h3,h4,h5⟩:=uc
       exact⟨by simp[Gh.mv],h2,h3,h4,h5⟩
     ·rcases hy with⟨_,h0⟩|⟨b,off,z5,ys,va,_,_,nS,na,Ce,mu⟩
      ·exact absurd h0 hm
      ·obtain⟨news,nl,nc,ng⟩:=Bc (w:=w) (n:=M.length) (sz:=i.size) (vs:=ys) Ce
       have SL:=uc
       obtain⟨_,_,_,⟨cur,te,mS,cK⟩,_⟩:=SL
       by_cases tK:L.length+M.length≤cap
       ·have u9:∀u∈news,u.oneCell'=true:=by
         intro u hu
         obtain⟨j,hj⟩:=List.mem_iff_getElem?.1 hu
         have lg:j<M.length*i.size:=by rw[←nl];exact(List.getElem?_eq_some_iff.1 hj).1
         rw[ng j lg]at hj
         cases hj
         have hq:j / i.size<M.length:=Nat.div_lt_of_lt_mul (by rw[Nat.mul_comm];exact lg)
         have Dn:=Nat.mod_lt j Fz
         have eM:M[j / i.size]∈M:=List.getElem_mem hq
         have dJ:=nS _ eM
         have hc:(M[j / i.size]).cells[j % i.size]? =some ((M[j / i.size]).cells[j % i.size]'(by omega)):=by simp
         have:=mu (j / i.size) _ (j % i.size) _ (List.getElem?_eq_getElem hq) hc
         rw[Nat.mul_comm,Nat.div_add_mod]at this
         exact this.vO (na _ eM _ (List.getElem_mem _))
        have sD:L.length*i.size+news.length≤cur.size:=by rw[nl,cK,←Nat.add_mul];exact Nat.mul_le_mul_right _ tK
        have bC:=Pd (P:=P) (w:=w) (ty:=ty) ht hi mS (ad:=⟨b,off,none⟩) (m:=M.length) (c:=z5) news nl nc u9 tK sD
        obtain⟨g',hY⟩:=hI.anv hH uc hl Jx ua jB wI mS cK nS na nl tK g8 ng mu
        exact⟨_,_,g',by rw[va];exact bC,hY⟩
       ·obtain⟨fB,ol,oc,og⟩:=Bc (w:=w) (b:=gg) (off:=0) (St:=fun _ _=>True) (n:=L.length) (sz:=i.size) (vs:=vs) (fun o ho=>⟨by rw[Nat.zero_add];exact jB o ho,trivial⟩)
        have bw:(L.length+M.length)*1≤(L.length+M.length)*i.bytes:=Nat.mul_le_mul_left _ nf
        have nH:L.length+M.length≤maxLen:=by simp only[maxLen];omega
        have bC:=run_append_grow (P:=P) w t ty e' i zv ht hi hz ⟨gg,0,none⟩ L.length cap fB ol oc ⟨b,off,none⟩ M.length z5 news nl nc (by omega) (by omega) (growslice_fits (by omega) hb)
        obtain⟨rest,qQ,pt⟩:=En zv.cells (grownCap w (L.length+M.length) cap e'-(L.length+M.length))
        rw[qQ]at bC
        have lf:=grownCap_ge w (L.length+M.length) cap e'
        obtain⟨g',hY⟩:=hI.abL hH (sz:=i.size) (L:=L) (M:=M) (cap:=grownCap w (L.length+M.length) cap e') (te:=e') (fB:=fB) (news:=news) (rest:=rest) Jx nS ua na ol nl (by rw[pt,iC]) lf
         (grownCap_le_maxLen w _ cap e' nH) og ng wI mu
        refine⟨_,_,g',by rw[va];exact bC,?_⟩
        simpa using hY
   ·cases h
  ·cases h
theorem Eo(f:Slot→SV):∀(l:List Slot),(lC f l).length =l.length∧∀(i:Nat),(lC f l)[i]? =(l[i]?).map f
 |[]=>⟨rfl,fun i=>by simp[lC]⟩
 |s::l=>by
  obtain⟨h1,h2⟩:=Eo f l
  refine⟨by simp[lC,h1],fun i=>?_⟩
  cases i with
  |zero=>rfl
  |succ i=>simp only[lC,List.getElem?_cons_succ];exact h2 i
theorem aR.CE{St:Nat→Nat→Prop}{base zL:Nat}(hb:base≤zL){O:Nat→Nat→Nat→Prop}{y:SV}{v:Value}(h:aR w St base O y v):aR w St zL O y v:=by
 induction h with
 |d O x v hd=>exact .d O x v hd
 |own O sz L gg cap hd cd ho=>exact .own O sz L gg cap hd cd ho
 |full O sz L ad hd=>exact .full O sz L ad hd
 |ref O cs off b o vs eA aW _ ih=>exact .ref O cs off b o vs (Nat.lt_of_lt_of_le eA hb) aW ih
 |dg O n sz cs b cap vs eA hn hm aW _ ih=>exact .dg O n sz cs b cap vs (Nat.lt_of_lt_of_le eA hb) hn hm aW ih
 |aX O x off b o vs hf aW hc=>exact .aX O x off b o vs hf aW hc
 |ef O f first cap fv cv h1 h2 _ _ ih1 ih2=>exact .ef O f first cap fv cv h1 h2 ih1 ih2
 |bh O sz L gg cap vs h1 h2 h3 h4 h5 h6 h7=>exact .bh O sz L gg cap vs h1 h2 h3 h4 h5 h6 h7
 |mp O l r es clock hh hs hl hc=>exact .mp O l r es clock hh hs hl hc
 |nest O LL gg cap bk cp h1 h2 h3 h4 h5 h6=>exact .nest O LL gg cap bk cp h1 h2 h3 h4 h5 h6
 |undef O v=>exact .undef O v
theorem YK(hI:Inv gl w0 au e a w g):∀(n:Nat){O:Nat→Nat→Nat→Nat→Prop}{s:Slot}{v:Value},cQ w0.heap.size w g O s v→aR w g.St w.heap.size (fun _ _ _=>False) (snap e.boxes n s) v:=by
 have up:∀{O x v},aR w g.St w0.heap.size O x v→aR w g.St w.heap.size (fun _ _ _=>False) (aa x) v:=by
  intro O x v h
  exact(h.aa (O':=fun _ _ _=>False)).CE hI.below.size
 intro n
 induction n with
 |zero=>intro O s v _;exact .undef _ _
 |succ n ih=>
  intro O s v h
  cases h with
  |a _ b m sz v hm hb=>
   obtain⟨ao,cap,hb,cd,rfl,g8,_⟩:=hb
   simp only[snap]
   split
   ·rename_i cs cK
    obtain⟨h0,c,t,hc,cD,hlen,bG⟩:=hI.boxes b _ ao cK hb
    have eg:=(hI.dP ao (List.mem_of_getElem? hb)).2
    exact aR.dg (w:=w) (St:=g.St) (base:=w.heap.size) (fun _ _ _=>False) m sz (cs.map aa) ao cap (fun i=>c.getD i undef) eg cd g8
     (fun i hi=>by
       have AB:i<cs.length:=by simpa using hi
       have fU:i<c.size:=Nat.lt_of_lt_of_le AB hlen
       rw[cell_of_row w ao (0+i) c t (0,0) hc]
       simp[fU]
       exact cD i _ AB (by simp))
     (fun i x hx=>by
       simp only[List.getElem?_map,Option.map_eq_some_iff]at hx
       obtain⟨y,hy,rfl⟩:=hx
       have fU:i<c.size:=Nat.lt_of_lt_of_le (List.getElem?_eq_some_iff.1 hy).1 hlen
       have h1:=bG i y c[i] hy (by simp)
       have h2:=up h1
       simpa[fU]using h2)
   ·exact .undef _ _
  |m _ b ao hb=>simp only[snap];exact .undef _ _
  |v _ x _ h=>simp only[snap];exact up h
  |p _ b off ao hb=>
   simp only[snap]
   split
   ·rename_i cs cK
    obtain⟨h0,c,t,hc,cD,hlen,bG⟩:=hI.boxes b _ ao cK hb
    have eg:=(hI.dP ao (List.mem_of_getElem? hb)).2
    have:=aR.ref (w:=w) (St:=g.St) (base:=w.heap.size) (fun _ _ _=>False) (cs.map aa) off ao 0 (fun i=>c.getD i undef) eg
     (fun i hi=>by
       have AB:i<cs.length:=by simpa using hi
       have fU:i<c.size:=Nat.lt_of_lt_of_le AB hlen
       rw[cell_of_row w ao (0+i) c t (0,0) hc]
       simp[fU]
       exact cD i _ AB (by simp))
     (fun i x hx=>by
       simp only[List.getElem?_map,Option.map_eq_some_iff]at hx
       obtain⟨y,hy,rfl⟩:=hx
       have fU:i<c.size:=Nat.lt_of_lt_of_le (List.getElem?_eq_some_iff.1 hy).1 hlen
       have h1:=bG i y c[i] hy (by simp)
       have h2:=up h1
       simpa[fU]using h2)
    simpa using this
   ·rename_i s' pZ
    obtain⟨h0,c,t,hc,cD,hlen,bG⟩:=hI.boxes b _ ao pZ hb
    have eg:=(hI.dP ao (List.mem_of_getElem? hb)).2
    have sQ:c[0]? =some (c[0]'(by omega)):=by simp
    have:=aR.ref (w:=w) (St:=g.St) (base:=w.heap.size) (fun _ _ _=>False) [snap e.boxes n s'] off ao 0 (fun i=>c.getD i undef) eg
     (fun i hi=>by
       simp at hi;subst hi
       rw[cell_of_row w ao (0+0) c t (0,0) hc]
       simp[hlen]
       exact cD 0 _ Nat.one_pos (by simp))
     (fun i x hx=>by
       cases i with
       |succ i=>simp at hx
       |zero=>
        simp at hx;subst hx
        have:=ih (bG _ sQ)
        simpa[hlen]using this)
    simpa using this
   ·exact .undef _ _
  |c _ f first cap fv cv hf hc rf rc=>
   simp only[snap]
   obtain⟨l1,g1⟩:=Eo (snap e.boxes n) first
   obtain⟨l2,g2⟩:=Eo (snap e.boxes n) cap
   refine .ef _ f _ _ fv cv (l1.trans hf) (l2.trans hc) (fun i x v hx hv=>?_) (fun i x v hx hv=>?_)
   ·rw[g1,Option.map_eq_some_iff]at hx
    obtain⟨y,hy,rfl⟩:=hx
    exact ih (rf i y v hy hv)
   ·rw[g2,Option.map_eq_some_iff]at hx
    obtain⟨y,hy,rfl⟩:=hx
    exact ih (rc i y v hy hv)
  |t _ xs vs _ _=>simp only[snap];exact .undef _ _
theorem Xd(aG:List af)(ρ:Operand→Slot):∀(l:List Operand),(kq aG ρ l).length =l.length∧∀(i:Nat),(kq aG ρ l)[i]? =(l[i]?).map fun x=>snap aG 6 (ρ x)
 |[]=>⟨rfl,fun i=>by simp[kq]⟩
 |s::l=>by
  obtain⟨h1,h2⟩:=Xd aG ρ l
  refine⟨by simp[kq,h1],fun i=>?_⟩
  cases i with
  |zero=>rfl
  |succ i=>simp only[kq,List.getElem?_cons_succ];exact h2 i
def xJ(w:World)(St:Nat→Nat→Prop)(args:List SV)(vs:Array Value):Prop:=
 args.length=vs.size∧∀(i:Nat)x v,args[i]? =some x→vs[i]? =some v→aR w St w.heap.size (fun _ _ _=>False) x v
theorem xJ.append{St:Nat→Nat→Prop}{xs ys:List SV}{us vs:Array Value}(h:xJ w St xs us)(k:xJ w St ys vs):xJ w St (xs++ys) (us++vs):=by
 refine⟨by simp[h.1,k.1],fun i x v hx hv=>?_⟩
 rw[List.getElem?_append]at hx
 rw[Array.getElem?_append]at hv
 split at hx
 ·rename_i hi
  rw[if_pos (by rw[←h.1];exact hi)]at hv
  exact h.2 i x v hx hv
 ·rename_i hi
  rw[if_neg (by rw[←h.1];exact hi),←h.1]at hv
  exact k.2 _ x v hx hv
theorem QC(hI:Inv gl w0 au e a w g)(l:Array Operand):xJ w g.St (kq e.boxes (fun x=>(Ab.bA gl e x).aa) l.toList) (l.map a.eval):=by
 obtain⟨h1,h2⟩:=Xd e.boxes (fun x=>(Ab.bA gl e x).aa) l.toList
 refine⟨by rw[h1];simp,fun i x v hx hv=>?_⟩
 rw[h2,Option.map_eq_some_iff]at hx
 obtain⟨y,hy,rfl⟩:=hx
 rw[Array.getElem?_toList]at hy
 simp only[Array.getElem?_map,hy,Option.map_some,Option.some.injEq]at hv
 subst hv
 exact YK hI 6 (hI.bA y)
theorem Wq(hI:Inv gl w0 au e a w g){l:List Slot}{vs:Array Value}(hl:l.length=vs.size)(h:∀(i:Nat)x v,l[i]? =some x→vs[i]? =some v→cQ w0.heap.size w g (fun _ _ _ _=>False) x v):
  xJ w g.St (lC (snap e.boxes 6) l) vs:=by
 obtain⟨h1,h2⟩:=Eo (snap e.boxes 6) l
 refine⟨h1.trans hl,fun i x v hx hv=>?_⟩
 rw[h2,Option.map_eq_some_iff]at hx
 obtain⟨y,hy,rfl⟩:=hx
 exact YK hI 6 (h i y v hy hv)
theorem Inv.called(hI:Inv gl w0 au e a w g){w':World}{cq:Nat→Nat→Prop}{ow:Nat→Option Nat}(hb:Below w.heap.size w w')(h1:∀b o,g.St b o→cq b o)
  (h2:∀b o,cq b o→g.St b o∨(w.heap.size≤b∧b<w'.heap.size))(dst:Option Nat){s:Slot}{v:Value}
  (hs:∀g':Gh,g'.St=cq→(∀d,dst=some d→∀j b a c,zY w.heap.size w' cq ow j b a c→fA w0.heap.size w' g' (.s d j) b a c)→∀d,dst=some d→cQ w0.heap.size w' g' (gp w0.heap.size w' g' d) s v):
  ∃g',Inv gl w0 au ⟨de e.ak dst s,e.boxes⟩ (a.put dst v) w' g':=by
 have hle:w0.heap.size≤w.heap.size:=hI.below.size
 let g':Gh:={St:=cq,bx:=g.bx,ow:=fun b=>if w.heap.size≤b then(ow b).bind fun j=>dst.map fun d=>Pos.s d j else g.ow b}
 refine⟨g',hI.ML (g':=g') ⟨fun D o fZ ho h=>⟨(hb.block D (gk h)).trans h,fZ,(by
  show(if w.heap.size≤D then(ow D).bind fun j=>dst.map fun d=>Pos.s d j else g.ow D)=none
  rw[if_neg (by have:=gk h;omega)];exact ho),fun x hx=>(h2 D x hx).elim id fun e=>(by have:=gk h;omega)⟩,fun b o h=>⟨h1 b o h,.rP (hb.block b (hI.me h))⟩,fun b o h=>World.cell?_of_block (hb.block b (by omega)),fun _ _ h=>h,fun p b a' c _ ho=>⟨?_,fun _=>hb.block b ho.lt⟩,.of fun b h=>hb.block b h⟩ hb (hs g' rfl (fun d hd j b a c hr=>?_)) rfl h2⟩
 ·have aP:=ho.lt
  obtain⟨o1,o2,o3,⟨cur,te,o4,mw⟩,o5⟩:=ho
  refine⟨?_,o2,o3,⟨cur,te,(hb.block b aP).trans o4,mw⟩,fun o cg bc=>?_⟩
  ·show(if w.heap.size≤b then(ow b).bind fun j=>dst.map fun d=>Pos.s d j else g.ow b)=some p
   rw[if_neg (by omega)];exact o1
  ·rcases h2 b o bc with h|h
   ·exact o5 o cg h
   ·omega
 ·obtain⟨r1,r2,r3,r4⟩:=hr
  refine⟨?_,by omega,fun hm=>by have:=(hI.dP b hm).2;omega,r3,r4⟩
  show(if w.heap.size≤b then(ow b).bind fun j=>dst.map fun d=>Pos.s d j else g.ow b)=_
  rw[if_pos r2,r1,hd]
  rfl
theorem Hy:∀{n:Nat}{k:List SV→Prop},B8 n k→∃rs,rs.length=n∧k rs
 |0,_,h=>⟨[],rfl,h⟩
 |n+1,_,h=>by
  obtain⟨r,h⟩:=h
  obtain⟨rs,hl,h⟩:=Hy h
  exact⟨r::rs,by simp[hl],h⟩
theorem KU(hI:Inv gl w0 au e a w g){o:Oper}{n:Nat}{k:Slot→List af→Prop}{f:FuncId}{args:List SV}{vs:Array Value}(hr:xJ w g.St args vs)
  (bC:oX P f→(execOp a.eval o).run P w=.ok (.enter f vs) w)(h:sd (aF P gl) n e.boxes k f args):bP P gl w0 au e.ak o a w k:=by
 intro next Q hn
 have hdA:pc args=none:=XP fun x l hx=>by
  have hlen:=hr.1
  rw[hx]at hlen
  have h0:0<vs.size:=by rw[←hlen];simp
  have:=hr.2 0 (.aK x) vs[0] (by rw[hx];rfl) (by simp[h0])
  cases this
 have go:∀(r:SV)(s:Slot),HQ P gl f args r→(∀(w':World)(v:Value)(cq:Nat→Nat→Prop)(ow:Nat→Option Nat),zz w.heap.size w' cq ow r v→∀g':Gh,g'.St=cq→
   ∀d,(∀j b a c,zY w.heap.size w' cq ow j b a c→fA w0.heap.size w' g' (.s d j) b a c)→cQ w0.heap.size w' g' (gp w0.heap.size w' g' d) s v)→k s e.boxes→o.wp P a w next Q:=by
  intro r s hH bG hk
  obtain⟨hE,hH⟩:=hH
  unfold Oper.wp
  rw[bC hE]
  refine(hH w g.St vs (fun b o h=>hI.me h) hI.lS hr.1 hr.2).mono fun en w'⟨v,he,hb,cq,ow,h1,h2,h3⟩=>?_
  subst he
  obtain⟨g',hY⟩:=hI.called hb h1 h2 o.dst (s:=s) (v:=v) (fun g' la hO d hd=>bG w' v cq ow h3 g' la d (hO d hd))
  exact hn s v e.boxes w' g' hY hk
 unfold sd at h
 split at h
 ·obtain⟨r,hH,ht,hk⟩:=h
  rw[CD hdA]at hH
  refine go r (.v r) hH (fun w' v cq ow h3 g' la d hO=>.v _ _ _ ?_) hk
  have lh:aR w' cq 0 (zY w.heap.size w' cq ow 0) r v:=by
   cases r<;>first|exact h3|simp[vY]at ht
  have:=(lh.CE (Nat.zero_le w0.heap.size))
  rw[←la]at this
  exact this.mono (fun _ _ h=>(by first|exact⟨h,rfl⟩|exact⟨h,.refl _ _ _⟩)) (fun _ _ _=>rfl) _ (fun b a c h=>⟨hO 0 b a c (by rw[la]at h;exact h),.refl _ _ _⟩)
 ·rename_i u9
  obtain⟨rs,hlen,hH,hk⟩:=Hy h
  rw[CD hdA]at hH
  refine go (.aK rs) (.t rs) hH (fun w' v cq ow h3 g' la d hO=>?_) hk
  obtain⟨tv,rfl,hl,hc⟩:=h3
  refine .t _ rs tv hl fun j x y hx hy=>?_
  have:=((hc j x y hx hy).CE (Nat.zero_le w0.heap.size))
  rw[←la]at this
  exact this.mono (fun _ _ h=>(by first|exact⟨h,rfl⟩|exact⟨h,.refl _ _ _⟩)) (fun _ _ _=>rfl) _ (fun b a c h=>⟨hO j b a c (by rw[la]at h;exact h),.refl _ _ _⟩)
theorem af2(hI:Inv gl w0 au e a w g){o:Oper}{c:Call}(ho:o.op=.call c){f:Operand}(hc:c.callee=.value f){n:Nat}{k:Slot→List af→Prop}
  (h:match(Ab.bA gl e f).aa with
    | .v x=>withFn x (kq e.boxes (fun x=>(Ab.bA gl e x).aa) c.args.toList) (sd (aF P gl) n e.boxes k)
    | .c (.func g') first cap=>sd (aF P gl) n e.boxes k g' (lC (snap e.boxes 6) first++kq e.boxes (fun x=>(Ab.bA gl e x).aa) c.args.toList++lC (snap e.boxes 6) cap)
    |_=>False):bP P gl w0 au e.ak o a w k:=by
 have gi:=QC hI c.args
 have bC:∀{f':FuncId}{first cap:Array Value},a.eval f=.func (.func f') first cap→oX P f'→(execOp a.eval o).run P w=.ok (.enter f' (first++c.args.map a.eval++cap)) w:=by
  intro f' first cap hv hE
  simp[execOp,ho,resolve,hc,hv,Deferred.ofValue,invoke,hE _ w]
 split at h
 ·rename_i x hx
  have hf:=hI.tW hx
  unfold withFn at h
  split at h
  ·rename_i f'
   have hv:a.eval f=.func (.func f') #[] #[]:=by
    have:=hf.data
    generalize a.eval f=u at this
    cases this;rfl
   refine KU hI gi (fun hE=>?_) h
   rw[bC hv hE];simp
  ·rename_i f' first cap
   generalize hv:a.eval f=u at hf
   cases hf with
   |ef _ _ _ _ fv cv qa pn rf rc=>
    have up:∀{xs:List SV}{vs:Array Value},xs.length=vs.size→(∀(i:Nat)x v,xs[i]? =some x→vs[i]? =some v→aR w g.St w0.heap.size (fun _ _ _=>False) x v)→xJ w g.St xs vs:=
     fun hl hr=>⟨hl,fun i x v hx hv=>(hr i x v hx hv).CE hI.below.size⟩
    exact KU hI (((up qa rf).append gi).append (up pn rc)) (fun hE=>bC hv hE) h
  ·exact h.elim
 ·rename_i f' first cap hs
  have hf:=hI.pX hs
  generalize hv:a.eval f=u at hf
  cases hf with
  |c _ _ _ _ fv cv qa pn rf rc=>exact KU hI (((Wq hI qa rf).append gi).append (Wq hI pn rc)) (fun hE=>bC hv hE) h
 ·exact h.elim
theorem ahg{t:TypeId}{name:String}{f:FuncId}(h:Fl P t name=some f)(fuel:Nat)(v:Value):(Go.method (fuel+1) t v name).run P w=.ok (f,v) w:=by
 unfold Fl at h
 split at h
 ·rename_i i hi
  split at h
  ·rename_i m hm
   split at h
   ·rename_i f' hp hf
    have arZ:m.path= #[]:=by
     have:m.path.toList=[]:=hp
     exact Array.toList_eq_nil_iff.mp this
    split at h
    ·cases h
    ·rename_i u sO hu
     cases h
     have oE:(underlying t).run P w=.ok u w:=run_underlying hu w
     have iD:(typeInfo t).run P w=.ok i w:=by simp[typeInfo,go_sem,hi]
     have F6:(follow ([]:List FieldStep) t (.val v)).run P w=.ok (t,.val v) w:=by simp[follow]
     have qQ:∀s,(receiverAt t (.val v) false s).run P w=.ok v w:=by
      intro s
      unfold receiverAt
      simp only[Sem.run_bind,oE,Result.andThen_ok]
      cases u<;>first|exact(sO _ rfl).elim |simp[Place.get]
     unfold Go.method
     simp only[Sem.run_bind,iD,Result.andThen_ok,hm,hp,F6,hf,qQ,Sem.run_pure]
    ·cases h
   ·cases h
  ·cases h
 ·cases h
theorem aef(hI:Inv gl w0 au e a w g){o:Oper}{c:Call}(ho:o.op=.call c){f:Operand}{name:String}(hc:c.callee=.invoke f name){n:Nat}{k:Slot→List af→Prop}
  (h:match(Ab.bA gl e f).aa with
    | .v x=>Bk P x name (kq e.boxes (fun x=>(Ab.bA gl e x).aa) c.args.toList) (sd (aF P gl) n e.boxes k)
    |_=>False):bP P gl w0 au e.ak o a w k:=by
 have gi:=QC hI c.args
 split at h
 ·rename_i x hx
  have hf:=hI.tW hx
  unfold Bk at h
  split at h
  ·rename_i t y
   obtain⟨f',nQ,h⟩:=aQ h
   have hd:=hf.data
   generalize hv:a.eval f=u at hd
   cases hd with
   |iface _ _ v hy=>
    have hr:xJ w g.St (.d y::kq e.boxes (fun x=>(Ab.bA gl e x).aa) c.args.toList) (#[v]++c.args.map a.eval):=by
     have h1:xJ w g.St [SV.d y] #[v]:=⟨rfl,fun i x v' hx jq=>by
      cases i with
      |zero=>simp at hx jq;subst hx jq;exact .d _ _ _ hy
      |succ i=>simp at hx⟩
     exact h1.append gi
    refine KU hI hr (fun hE=>?_) h
    have sR:=ahg (P:=P) (w:=w) nQ (P.types.size+99) v
    have anx:=hE (#[v]++c.args.map a.eval) w
    have h3:(callMethod (.iface t v) name (c.args.map a.eval)).run P w=.ok (.enter f' (#[v]++c.args.map a.eval)) w:=by
     unfold callMethod
     simp only[Sem.run_bind,run_program,Result.andThen_ok,Made.depth]
     rw[sR]
     simp only[Result.andThen_ok]
     exact anx
    have e2:∀l:Array Value,(#[Value.iface t v]++l)[0]? =some (.iface t v):=fun l=>by simp[Array.getElem?_append]
    have e3:∀l:Array Value,(#[Value.iface t v]++l).extract 1 (#[Value.iface t v]++l).size =l:=fun l=>by
     apply Array.ext'
     simp[List.take_of_length_le]
    have h4:(invoke (.fn (.method name) #[]) (#[.iface t v]++c.args.map a.eval)).run P w=.ok (.enter f' (#[v]++c.args.map a.eval)) w:=by
     unfold invoke
     simp only[e2,e3]
     exact h3
    simp only[execOp,ho,resolve,hc,hv,Sem.run_bind,Sem.run_pure,Result.andThen_ok]
    exact h4
  ·exact h.elim
 ·exact h.elim
theorem PE(f:Int→Int→Int)(op:Value→Value→Sem Value)(kG:∀k a b,op (.int k a) (.int k b)=pure (.int k (f a b)))(hf:∀a b,f a b=a∨f a b=b):
  ∀(l:List SV)(vs:List Value)(x:SV)(vx:Value)(r:SV),CJ f x l=some r→aR w g.St w0.heap.size (fun _ _ _=>False) x vx→l.length=vs.length→
   (∀(i:Nat)y v,l[i]? =some y→vs[i]? =some v→aR w g.St w0.heap.size (fun _ _ _=>False) y v)→
   ∃v,(vs.foldlM op vx).run P w=.ok v w∧aR w g.St w0.heap.size (fun _ _ _=>False) r v
 |[],[],x,vx,r,h,hx,_,_=>by
  unfold CJ at h
  split at h
  ·cases h;exact⟨vx,rfl,hx⟩
  ·rename_i heq;cases heq
  ·cases h
 |y::l,v::vs,x,vx,r,h,hx,hl,hr=>by
  unfold CJ at h
  split at h
  ·rename_i heq;cases heq
  ·rename_i k n k' n' l' heq
   cases heq
   split at h
   ·rename_i hk
    subst hk
    have hy:=hr 0 _ v rfl rfl
    obtain⟨ex,wx⟩:=hx.data.vP
    obtain⟨ey,wy⟩:=hy.data.vP
    rw[ex,ey]
    have hw:iP k (f n n')=true:=by rcases hf n n' with h|h<;>rw[h]<;>assumption
    obtain⟨u,hu,Ay⟩:=PE f op kG hf l vs _ (.int k (f n n')) r h (.d _ _ _ (.int _ _ hw)) (by simpa using hl) (fun i y u h1 h2=>hr (i+1) y u (by simpa using h1) (by simpa using h2))
    refine⟨u,?_,Ay⟩
    rw[List.foldlM_cons,kG]
    exact hu
   ·cases h
  ·cases h
 |[],_::_,_,_,_,_,_,h,_=>by simp at h
 |_::_,[],_,_,_,_,_,h,_=>by simp at h
theorem YL(hI:Inv gl w0 au e a w g){o:Oper}{c:Call}(ho:o.op=.call c){b:Builtin}(hc:c.callee=.builtin b){x:Operand}{xs:List Operand}(hx:c.args.toList=x::xs){f:Int→Int→Int}
  (hb:(b=.min ∧f=minD)∨(b=.max ∧f=maxD)){k:Slot→List af→Prop}
  (h:ab (CJ f ((Ab.bA gl e x).aa).cC (xs.map fun y=>((Ab.bA gl e y).aa).cC)) fun r=>k (.v r) e.boxes):bP P gl w0 au e.ak o a w k:=by
 obtain⟨r,hr,hk⟩:=aQ h
 have gi:(c.args.map a.eval).toList =a.eval x::xs.map a.eval:=by rw[Array.toList_map,hx];rfl
 have MM:∀(i:Nat)y v,(xs.map fun y=>((Ab.bA gl e y).aa).cC)[i]? =some y→(xs.map a.eval)[i]? =some v→aR w g.St w0.heap.size (fun _ _ _=>False) y v:=by
  intro i y v hy hv
  simp only[List.getElem?_map,Option.map_eq_some_iff]at hy hv
  obtain⟨z,hz,rfl⟩:=hy
  obtain⟨z',je,rfl⟩:=hv
  rw[hz]at je;cases je
  exact hI.j5 z
 rcases hb with⟨rfl,rfl⟩|⟨rfl,rfl⟩
 ·obtain⟨v,hv,T7⟩:=PE (P:=P) (w0:=w0) minD Builtin.min2 (fun k a b=>rfl) (fun a b=>by unfold minD;split<;>simp) _ (xs.map a.eval) _ (a.eval x) r hr (hI.j5 x) (by simp) MM
  refine bP.gD hI (v:=v) ?_ T7 hk
  have e1:Builtin.min_ c.argTypes o.type (c.args.map a.eval)=(xs.map a.eval).foldlM Builtin.min2 (a.eval x):=by unfold Builtin.min_;rw[gi]
  simp[execOp,ho,resolve,hc,invoke,builtin,e1,hv]
 ·obtain⟨v,hv,T7⟩:=PE (P:=P) (w0:=w0) maxD Builtin.max2 (fun k a b=>rfl) (fun a b=>by unfold maxD;split<;>simp) _ (xs.map a.eval) _ (a.eval x) r hr (hI.j5 x) (by simp) MM
  refine bP.gD hI (v:=v) ?_ T7 hk
  have e1:Builtin.max_ c.argTypes o.type (c.args.map a.eval)=(xs.map a.eval).foldlM Builtin.max2 (a.eval x):=by unfold Builtin.max_;rw[gi]
  simp[execOp,ho,resolve,hc,invoke,builtin,e1,hv]
end
theorem XR{P:Program}{t:TypeId}{z:D}(h:xR P t=some z):∃zv:Value,(∀w:World,(zeroValue t).run P w=.ok zv w)∧∀(w:World)(St:Nat→Nat→Prop),bp w St z zv:=by
 unfold xR at h
 split at h
 ·rename_i i hi
  split at h
  ·rename_i zv hz
   exact⟨zv,fun w=>by simp[zeroValue,typeInfo,hi,hz],fun w St=>Ev h⟩
  ·cases h
 ·cases h
def KS.cB:KS→D
 | .bool b=>.bool b
 | .int k n=>.int k n
 | .str s=>.str s
theorem XS:∀{ks:List CK}{cs:List D}{l:List KS},yo ks cs=some l→cs=l.map KS.cB∧eR ks cs=true
 |[],[],l,h=>by simp only[yo,Option.some.injEq]at h;subst h;exact⟨rfl,rfl⟩
 |[],_::_,l,h=>by simp[yo]at h
 |k::ks,[],l,h=>by cases k<;>simp[yo]at h
 |k::ks,c::cs,l,h=>by
  cases k<;>cases c<;>simp only[yo,reduceCtorEq]at h
  all_goals
   split at h
   ·rename_i r hr
    cases h
    obtain⟨h1,h2⟩:=XS hr
    exact⟨by simp[KS.cB,h1],by simpa[eR]using h2⟩
   ·cases h
theorem XT:∀{ks:List CK}{l m:List KS},eR ks (l.map KS.cB)=true→KS.ma l m=true→eR ks (m.map KS.cB)=true
 |[],[],[],_,_=>rfl
 |_::_,[],[],h,_=>by simpa using h
 |[],x::l,y::m,h,_=>by cases x<;>simp[KS.cB,eR]at h
 |k::ks,x::l,y::m,h,h2=>by
  simp only[KS.ma,Bool.and_eq_true]at h2
  cases k<;>cases x<;>cases y<;>simp only[List.map_cons,KS.cB,eR,KS.same,Bool.false_eq_true,false_and]at h h2 ⊢
  all_goals exact XT h h2.2
 |_,[],_::_,_,h=>by simp[KS.ma]at h
 |_,_::_,[],_,h=>by simp[KS.ma]at h
theorem Xe:∀{l m:List KS},KS.ma l m=true→gY (l.map KS.cB) (m.map KS.cB)=some (decide (l=m))
 |[],[],_=>by simp[gY]
 |x::l,y::m,h=>by
  simp only[KS.ma,Bool.and_eq_true]at h
  have ih:=Xe h.2
  have hx:oW x.cB y.cB=some (decide (x=y)):=by
   cases x<;>cases y<;>simp only[KS.same,Bool.false_eq_true,false_and]at h
   ·rename_i a b;simp only[KS.cB,oW,KS.bool.injEq];congr 1
   ·rename_i k a k' b
    have hk:k=k':=by simpa using h.1
    subst hk
    simp only[KS.cB,oW,if_true,KS.int.injEq,true_and];congr 1
   ·rename_i a b;simp only[KS.cB,oW,KS.str.injEq];congr 1
    rw[Bool.eq_iff_iff];simp
  simp only[List.map_cons,gY,hx,ih,List.cons.injEq]
  rw[←Bool.decide_and]
 |[],_::_,h=>by simp[KS.ma]at h
 |_::_,[],h=>by simp[KS.ma]at h
theorem zT.rep{w:World}{St:Nat→Nat→Prop}{k:KS}{v:Value}(h:zT k v):bp w St k.cB v:=by
 cases k with
 |bool b=>subst h;exact .bool b
 |int k n=>obtain⟨rfl,h⟩:=h;exact .int k n h
 |str s=>obtain⟨b,rfl,rfl,h⟩:=h;exact .str b h
theorem zT.of{w:World}{St:Nat→Nat→Prop}{k:KS}{v:Value}(h:bp w St k.cB v):zT k v:=by
 cases k with
 |bool b=>cases h;rfl
 |int k n=>cases h;exact⟨rfl,by assumption⟩
 |str s=>obtain⟨b,e1,e2,e3⟩:=h.zm;exact⟨b,e1,e2.symm,e3⟩
theorem Q9{w:World}{St:Nat→Nat→Prop}{l:List KS}{v:Value}(h:(MK.s l).Is v):j6 w St true (l.map KS.cB) v:=by
 obtain⟨vs,rfl,h1,h2⟩:=h
 simp only[j6,if_true]
 refine⟨vs,rfl,by simp[h1],fun i x v hx hv=>?_⟩
 rw[List.getElem?_map,Option.map_eq_some_iff]at hx
 obtain⟨k,hk,rfl⟩:=hx
 exact(h2 i k v hk hv).rep
theorem akD{w:World}{St:Nat→Nat→Prop}{l:List KS}{vs:Array Value}(h:nG w St (l.map KS.cB) vs):(MK.s l).Is (.agg vs):=by
 refine⟨vs,rfl,by have:=h.1;simpa using this.symm,fun i k u hk hu=>?_⟩
 exact zT.of (h.2 i k.cB u (by rw[List.getElem?_map,hk];rfl) hu)
def Si:Option (List CK)→MK→Prop
 |none,n=>∃m,n=.i m
 |some ks,n=>∃l,n=.s l∧eR ks (l.map KS.cB)=true
def SM(P:Program)(kt:TypeId):Option (List CK)→Prop
 |none=>∃k,P.underlying kt=some (.int k)
 |some ks=>∃fs,P.underlying kt=some (.struct fs)∧shapeOf P 20 kt=some ks∧Ih P fs.toList=true
theorem Xf{P:Program}{t et:TypeId}{kd:Option (List CK)}(h:EZ P t=some (et,kd)):∃kt,P.underlying t=some (.map kt et)∧SM P kt kd:=by
 unfold EZ at h
 split at h
 ·rename_i kt et' hu
  split at h
  ·rename_i k hk;cases h;exact⟨kt,hu,k,hk⟩
  ·rename_i fs hk
   split at h
   ·rename_i ks jC
    cases hf:Ih P fs.toList with
    |true=>rw[hf]at h;cases h;exact⟨kt,hu,fs,hk,jC,hf⟩
    |false=>rw[hf]at h;cases h
   ·cases h
  ·cases h
 ·cases h
def abN(l:List (MK×D))(n:MK)(es:List MapEntry)(i:Nat)(r:Option (Nat×Value)):Prop:=
 (oh l n=none∧r=none)∨∃j x y,r=some (i+j,y.val)∧l[j]? =some x∧es[j]? =some y∧oh l n=some x.2∧x.1=n∧∀(m:Nat)z,m<j→l[m]? =some z→n≠z.1
theorem Ra{n:MK}{S:List MapEntry→Nat→Option (Nat×Value)→Prop}(h0:∀i,S [] i none)(DK:∀(x:MK×D)e es i,x.1.Is e.key→n.same x.1=true→n=x.1→S (e::es) i (some (i,e.val)))
  (aci:∀(x:MK×D)e es i r,x.1.Is e.key→n.same x.1=true→n≠x.1→S es (i+1) r→S (e::es) i r):∀(es:List MapEntry)(l:List (MK×D))(i:Nat),l.length=es.length→
    (∀(j:Nat)x y,l[j]? =some x→es[j]? =some y→x.1.Is y.key)→xQ l n=true→∃r,S es i r∧abN l n es i r
 |[],l,i,hl,_,_=>by
  have:l=[]:=List.eq_nil_of_length_eq_zero hl
  subst this
  exact⟨none,h0 i,.inl ⟨rfl,rfl⟩⟩
 |e::es,[],i,hl,_,_=>by simp at hl
 |e::es,x::l,i,hl,hk,hs=>by
  simp only[xQ,List.all_cons,Bool.and_eq_true]at hs
  have he:=hk 0 x e rfl rfl
  by_cases h:n=x.1
  ·exact⟨some (i,e.val),DK x e es i he hs.1 h,.inr ⟨0,x,e,rfl,rfl,rfl,by rw[oh,if_pos h],h.symm,fun m z hm=>by omega⟩⟩
  ·obtain⟨r,h1,h2⟩:=Ra h0 DK aci es l (i+1) (by simpa using hl) (fun j x y a b=>hk (j+1) x y (by simpa using a) (by simpa using b)) hs.2
   refine⟨r,aci x e es i r he hs.1 h h1,?_⟩
   rcases h2 with⟨h2,h3⟩|⟨j,x',y,a,b,c,d,d',f⟩
   ·exact .inl ⟨by rw[oh,if_neg h];exact h2,h3⟩
   ·refine .inr ⟨j+1,x',y,by rw[a];congr 2;omega,by simpa using b,by simpa using c,by rw[oh,if_neg h];exact d,d',fun m z hm hz=>?_⟩
    cases m with
    |zero=>simp at hz;subst hz;exact h
    |succ m=>exact f m z (by omega) (by simpa using hz)
theorem WK{P:Program}{w:World}{kt:TypeId}{kd:Option (List CK)}(qR:SM P kt kd){n:MK}{kv:Value}(hn:n.Is kv)(ff:Si kd n)
  (es:List MapEntry)(l:List (MK×D))(hl:l.length=es.length)(hk:∀(j:Nat)x y,l[j]? =some x→es[j]? =some y→x.1.Is y.key)(hs:xQ l n=true):
  ∃r,(Instr.findKey kt kv es).run P w=.ok r w∧abN l n es 0 r:=by
 cases kd with
 |none=>
  obtain⟨k,hu⟩:=qR
  obtain⟨m,rfl⟩:=ff
  obtain⟨rfl,_⟩:=hn
  obtain⟨r,h1,h2⟩:=Ra (n:=.i m) (S:=fun es i r=>Instr.findNow (.int k) (.int .i64 m) es i=some r) (fun i=>rfl)
   (fun x e es i he cE hx=>by
     rw[←hx]at he
     rw[Instr.findNow,show e.key=_ from he.1];simp[Instr.sameNow])
   (fun x e es i r he cE hx hr=>by
     cases jD:x.1 with
     |i m'=>
      rw[jD]at he hx
      rw[Instr.findNow,show e.key=_ from he.1]
      have:(m==m')=false:=by simpa using fun h=>hx (by rw[h])
      simp[Instr.sameNow,this,hr]
     |s l=>rw[jD]at cE;cases cE) es l 0 hl hk hs
  exact⟨r,by simp[Instr.findKey,run_underlying hu,h1],h2⟩
 |some ks=>
  obtain⟨fs,hu,bq,_⟩:=qR
  obtain⟨kl,rfl,mZ⟩:=ff
  have pW:eK P kt=some true:=by simp[eK,hu]
  have heq:∀(l':List KS)(v:Value),(MK.s l').Is v→KS.ma kl l'=true→(Op.equal kt kv v).run P w=.ok (decide (kl=l')) w:=fun l' v hv hs=>
   Pn (g:=⟨fun _ _=>False,[],fun _=>none⟩) 20 10000 kt ks true _ _ kv v _ bq (by omega) pW mZ (XT mZ hs) (Q9 hn) (Q9 hv) (Xe hs)
  obtain⟨r,h1,h2⟩:=Ra (n:=.s kl) (S:=fun es i r=>(Instr.findAsking kt kv es i).run P w=.ok r w) (fun i=>rfl)
   (fun x e es i he cE hx=>by
     rw[←hx]at he cE
     rw[Instr.findAsking]
     simp[heq kl _ he cE])
   (fun x e es i r he cE hx hr=>by
     cases jD:x.1 with
     |s l'=>
      rw[jD]at he hx cE
      rw[Instr.findAsking]
      have:decide (kl=l')=false:=by simpa using fun h=>hx (by rw[h])
      simp[heq l' _ he cE,this,hr]
     |i m=>rw[jD]at cE;cases cE) es l 0 hl hk hs
  refine⟨r,?_,h2⟩
  cases es with
  |nil=>simp[Instr.findKey,run_underlying hu,Instr.findNow];simpa[Instr.findAsking]using h1
  |cons e es=>simp[Instr.findKey,run_underlying hu,Instr.findNow,Instr.sameNow];exact h1
theorem Wr{P:Program}{w:World}{kt:TypeId}{kd:Option (List CK)}(qR:SM P kt kd){n:MK}{kv:Value}(hn:n.Is kv)(ff:Si kd n)
  (em:Bool):(Instr.checkKey em 10000 kt kv).run P w=.ok () w:=by
 rw[show(10000:Nat)=9998+1+1 from rfl]
 cases kd with
 |none=>
  obtain⟨k,hu⟩:=qR
  rw[Instr.checkKey]
  obtain⟨m,rfl⟩:=ff
  obtain⟨rfl,_⟩:=hn
  simp[run_underlying hu]
 |some ks=>
  obtain⟨fs,hu,bq,oF⟩:=qR
  obtain⟨kl,rfl,mZ⟩:=ff
  have hv:=Q9 (w:=w) (St:=fun _ _=>False) hn
  simp only[j6,if_true]at hv
  obtain⟨cs,rfl,rx⟩:=hv
  rw[show(20:Nat)=19+1 from rfl,shapeOf,hu]at bq
  simp only at bq
  cases bc:P.stoodInHeld kt with
  |true=>rw[bc]at bq;cases bq
  |false=>
   rw[bc]at bq
   simp only[cond_false]at bq
   split at bq
   ·rename_i qO jC
    split at bq
    ·rename_i sz aN
     cases hc:Nat.beq sz qO.length with
     |false=>rw[hc]at bq;cases bq
     |true=>
      rw[hc]at bq;cases bq
      rw[Instr.checkKey]
      simp only[Sem.run_bind,run_underlying hu,Result.andThen_ok]
      rw[←Array.forIn_toList]
      generalize oG:kl.map KS.cB=xs at mZ rx
      have SN:eR ks (xs.drop 0)=true:=mZ
      have h0:(0:Nat)≤xs.length:=Nat.zero_le _
      clear hu bc aN hc mZ
      generalize fs.toList=L at jC oF
      generalize (0:Nat)=off at jC SN h0
      induction L generalizing off ks with
      |nil=>simp
      |cons f L ih=>
       simp only[Er]at jC
       simp only[Ih,Bool.and_eq_true]at oF
       split at jC
       ·rename_i kf NM
        cases eB:(f.name != "_" &&Nat.beq f.offset off)with
        |false=>rw[eB]at jC;cases jC
        |true=>
         rw[eB]at jC
         simp only[cond_true]at jC
         split at jC
         ·rename_i kr TY
          cases jC
          simp only[Bool.and_eq_true,bne_iff_ne,ne_eq]at eB
          have Dm:=Nat.eq_of_beq_eq_true eB.2
          obtain⟨jD,yM⟩:=Es SN
          obtain⟨pZ,pW⟩:=GW NM
          have lx:=xq SN
          simp only[List.length_drop,List.length_append]at lx
          obtain⟨b,hb,h1⟩:∃b,eK P f.type=some b∧(b=false→kf.length=1):=by
           rcases pW with⟨h1,h2⟩|h1
           ·exact⟨false,h1,fun _=>h2⟩
           ·exact⟨true,h1,by simp⟩
          obtain⟨vx,px,qx⟩:=nG.valOf (g:=⟨fun _ _=>False,[],fun _=>none⟩) rx (off:=f.offset) hb pZ h1 (by omega)
          have p2:(Instr.checkKey em (9998+1) f.type vx).run P w=.ok () w:=by
           rw[Instr.checkKey]
           have yQ:=oF.1
           split at yQ
           ·rename_i oE;simp[run_underlying oE]
           ·rename_i oE;simp[run_underlying oE]
           ·rename_i oE;simp[run_underlying oE]
           ·cases yQ
          simp only[List.forIn_cons,Sem.run_bind,eB.1,ne_eq,not_false_eq_true,if_true,Result.andThen_ok,px,p2,Sem.run_pure]
          exact ih kr oF.2 (off+kf.length) TY (by rw[List.drop_drop]at yM;exact yM) (by omega)
         ·cases jC
       ·cases jC
    ·cases bq
   ·cases bq
section
variable{P:Program}{gl:Nat→Option D}{w0:World}{au:S0}{e:Env}{a:Act}{w:World}{g:Gh}
theorem af3(hI:Inv gl w0 au e a w g){m:Operand}{l:List (MK×D)}(h:zH e.boxes (Ab.bA gl e m).aa =.mp l):
  ∃r es clock,a.eval m=.map (some r)∧w.heap[r]? =some (.map es clock)∧l.length=es.size∧∀(i:Nat)x y,l[i]? =some x→es[i]? =some y→x.1.Is y.key∧True∧bp w g.St x.2 y.val:=by
 have hx:=hI.bA m
 generalize (Ab.bA gl e m).aa =s at h hx
 cases s with
 |m b=>
  simp only[zH]at h
  split at h
  ·rename_i l' hb
   cases h
   generalize a.eval m=v at hx
   cases hx with
   |m _ _ ao dX=>
    obtain⟨_,es,clock,h1,h2,h3⟩:=hI.boxes b _ ao hb dX
    exact⟨ao,es,clock,rfl,h1,h2,h3⟩
  ·cases h
 |v x=>
  simp only[zH,Slot.cC]at h
  subst h
  have:=hx.kz
  generalize a.eval m=v at this
  cases this with
  |mp _ _ r es clock hh hs hl hc=>exact⟨r,es,clock,rfl,hh,hl,hc⟩
 |_=>simp[zH,Slot.cC]at h
theorem XU{kd:Option (List CK)}{x:SV}{n:MK}(h:oq kd x=some n){St:Nat→Nat→Prop}{base:Nat}{O:Nat→Nat→Nat→Prop}{v:Value}(r:aR w St base O x v):
  n.Is v∧Si kd n:=by
 cases kd with
 |none=>
  simp only[oq]at h
  split at h
  ·cases h
   have:=r.data.vP
   exact⟨⟨this.1,this.2⟩,_,rfl⟩
  ·cases h
 |some ks=>
  simp only[oq]at h
  split at h
  ·rename_i cs
   cases hl:yo ks cs with
   |some l=>
    rw[hl]at h
    cases h
    obtain⟨rfl,mZ⟩:=XS hl
    obtain⟨vs,e1,r1,_⟩:=r.data.zn
    rw[e1]
    exact⟨akD r1,l,rfl,mZ⟩
   |none=>rw[hl]at h;cases h
  ·cases h
theorem aeg(hI:Inv gl w0 au e a w g){o:Oper}{t:TypeId}{m x:Operand}{ok:Bool}(ho:o.op=.lookup t m x ok){k:Slot→List af→Prop}
  (h:ab (EZ P t) fun et=>ab (xR P et.1) fun z=>ab (vZ et.2 z (zH e.boxes (Ab.bA gl e m).aa) ((Ab.bA gl e x).aa).cC) fun r=>
    bif ok then k (.t [.d r.1,.d (.bool r.2)]) e.boxes else k (.v (.d r.1)) e.boxes):bP P gl w0 au e.ak o a w k:=by
 obtain⟨⟨et,kd⟩,het,h⟩:=aQ h
 obtain⟨z,hz,h⟩:=aQ h
 obtain⟨⟨d,b⟩,hr,hk⟩:=aQ h
 have hm:=fun l=>af3 hI (m:=m) (l:=l)
 have hx:=hI.j5 x
 generalize zH e.boxes (Ab.bA gl e m).aa =sm at hr hm
 generalize ((Ab.bA gl e x).aa).cC =sx at hr hx
 obtain⟨zv,yP,nR⟩:=XR hz
 obtain⟨kt,hu,qR⟩:=Xf het
 unfold vZ at hr
 split at hr
 ·rename_i l
  split at hr
  ·rename_i n hn
   cases wJ:xQ l n with
   |false=>rw[wJ]at hr;cases hr
   |true=>
    rw[wJ,cond_true]at hr
    obtain⟨Cf,ff⟩:=XU hn hx
    obtain⟨r,es,clock,NS,hh,hl,hc⟩:=hm l rfl
    obtain⟨f,yR,DL⟩:=WK (w:=w) qR Cf ff es.toList l (by simpa using hl) (fun j x y h1 h2=>(hc j x y h1 (by simpa using h2)).1) wJ
    have mZ:=fun em=>Wr (w:=w) qR Cf ff em
    have wB:(getObj r).run P w=.ok (.map es clock) w:=by simp[getObj,Sem.run,hh]
    have key:∃u,((Instr.lookup t (.map (some r)) (a.eval x) ok).run P w=.ok (if ok then .tuple #[u,.bool b]else u) w)∧bp w g.St d u:=by
     rcases DL with⟨h1,h2⟩|⟨j,x',y,h1,h2,h3,h4,_⟩
     ·rw[h1]at hr
      cases hr
      refine⟨zv,?_,nR _ _⟩
      subst h2
      simp[Instr.lookup,run_underlying hu,wB,mZ,yR,yP]
     ·rw[h4]at hr
      cases hr
      refine⟨y.val,?_,(hc j x' y h2 (by simpa using h3)).2.2⟩
      subst h1
      simp[Instr.lookup,run_underlying hu,wB,mZ,yR]
    obtain⟨u,sO,acj⟩:=key
    cases ok with
    |true=>
     refine bP.value hI (v:=.tuple #[u,.bool b]) ?_ (.t _ _ _ rfl fun j x v h1 h2=>?_) hk
     ·have h1:(Instr.lookup t (.map (some r)) (a.eval x) true).run P w=.ok (.tuple #[u,.bool b]) w:=sO
      simp[execOp,ho,NS,h1]
     ·match j,h1,h2 with
      |0,h1,h2=>cases h1;cases h2;exact .d _ _ _ acj
      |1,h1,h2=>cases h1;cases h2;exact .d _ _ _ (.bool _)
      |j+2,h1,h2=>simp at h1
    |false=>
     refine bP.gD hI (v:=u) ?_ (.d _ _ _ acj) hk
     have h1:(Instr.lookup t (.map (some r)) (a.eval x) false).run P w=.ok u w:=sO
     simp[execOp,ho,NS,h1]
  ·cases hr
 ·cases hr
theorem adS(hI:Inv gl w0 au e a w g){o:Oper}{t:TypeId}(ho:o.op=.makeMap t none){id:Nat}{k:Slot→List af→Prop}
  (gJ:e.boxes[id]? =some .none)(h:k (.m id) (e.boxes.set id (.map []))):bP P gl w0 au e.ak o a w k:=by
 refine bP.aaI hI gJ (ob:=.map #[] 0) (vl:=.map (some w.heap.size)) (by simp[execOp,ho,Instr.makeMap]) (fun g' O hb=>.m _ _ _ hb) (fun g' hX hle=>?_) h
 exact⟨hle,#[],0,vK w _,rfl,fun i x y h=>by simp at h⟩
theorem XV{n:MK}{d:D}:∀{l:List (MK×D)}{j:Nat}{x:MK×D},l[j]? =some x→x.1=n→(∀(i:Nat)y,i<j→l[i]? =some y→n≠y.1)→ot l n d=l.set j (n,d)
 |[],j,x,h,_,_=>by simp at h
 |y::l,0,x,h,hx,_=>by simp at h;subst h;simp[ot,hx]
 |y::l,j+1,x,h,hx,bg=>by
  have h0:=bg 0 y (Nat.succ_pos j) rfl
  simp only[ot,if_neg h0,List.set_cons_succ]
  rw[XV (by simpa using h) hx fun i z hi hz=>bg (i+1) z (by omega) (by simpa using hz)]
theorem XW{n:MK}{d:D}:∀{l:List (MK×D)},oh l n=none→ot l n d=l++[(n,d)]
 |[],_=>rfl
 |y::l,h=>by
  simp only[oh]at h
  split at h
  ·cases h
  ·rename_i hy
   simp[ot,hy,XW h]
theorem zT.bits{k:KS}{u v:Value}(hu:zT k u)(hv:zT k v)(m:Nat):Instr.sameBits m u v=true:=by
 cases k with
 |bool b=>subst hu;subst hv;cases m<;>simp[Instr.sameBits]
 |int k n=>obtain⟨rfl,_⟩:=hu;obtain⟨rfl,_⟩:=hv;cases m<;>simp[Instr.sameBits]
 |str s=>
  obtain⟨b,rfl,h1,_⟩:=hu
  obtain⟨c,rfl,h2,_⟩:=hv
  have:b=c:=by
   have:b.data=c.data:=Array.toList_inj.1 (h1.trans h2.symm)
   cases b;cases c;simp only at this;rw[this]
  subst this
  have hb:(b==b)=true:=by show(b.data==b.data)=true;simp
  cases m<;>simp only[Instr.sameBits,hb]
theorem Is.bits{n:MK}{u v:Value}(hu:n.Is u)(hv:n.Is v):Instr.sameBits 10000 u v=true:=by
 cases n with
 |i m=>obtain⟨rfl,_⟩:=hu;obtain⟨rfl,_⟩:=hv;simp[Instr.sameBits]
 |s l=>
  obtain⟨us,rfl,h1,h2⟩:=hu
  obtain⟨vs,rfl,h3,h4⟩:=hv
  rw[show(10000:Nat)=9999+1 from rfl,Instr.sameBits]
  simp only[Bool.and_eq_true,beq_iff_eq,List.all_eq_true]
  refine⟨h1.trans h3.symm,fun⟨x,y⟩hxy=>?_⟩
  obtain⟨i,hi⟩:=List.mem_iff_getElem?.1 hxy
  rw[List.getElem?_zip_eq_some]at hi
  obtain⟨hx,hy⟩:=hi
  rw[Array.getElem?_toList]at hx hy
  have qS:i<l.length:=by have:=(Array.getElem?_eq_some_iff.1 hx).1;omega
  exact(h2 i _ x (List.getElem?_eq_getElem qS) hx).bits (h4 i _ y (List.getElem?_eq_getElem qS) hy) 9999
theorem adT{n:MK}{u v:Value}(hu:n.Is u)(hv:n.Is v):(Instr.keyThatStays u v).run P w=.ok v w:=by simp[Instr.keyThatStays,Is.bits hu hv]
theorem adr(hI:Inv gl w0 au e a w g){o:Oper}{t:TypeId}{m x y:Operand}(ho:o.op=.mapUpdate t m x y)(hd:o.dst=none){et:TypeId×Option (List CK)}(het:EZ P t=some et){b:Nat}(hm:(Ab.bA gl e m).aa =.m b)
  {l:List (MK×D)}(hb:e.boxes[b]? =some (.map l)){n:MK}(hn:oq et.2 ((Ab.bA gl e x).aa).cC =some n){d:D}(hy:cB ((Ab.bA gl e y).aa).cC =some d){l':List (MK×D)}(ID:sr l n d=some l'){k:Slot→List af→Prop}
  (hk:k (.t []) (e.boxes.set b (.map l'))):bP P gl w0 au e.ak o a w k:=by
 have hx:=hI.j5 x
 obtain⟨Cf,ff⟩:=XU hn hx
 obtain⟨et,kd⟩:=et
 obtain⟨kt,hu,qR⟩:=Xf het
 have hry:=(hI.j5 y).cB hy
 have cE:=hI.pX hm
 unfold sr at ID
 cases wJ:xQ l n with
 |false=>rw[wJ]at ID;cases ID
 |true=>
  rw[wJ,cond_true]at ID
  cases ID
  generalize NS:a.eval m=vm at cE
  cases cE with
  |m _ _ ao dX=>
   obtain⟨oH,es,clock,hh,hl,hc⟩:=hI.boxes b _ ao hb dX
   obtain⟨f,yR,DL⟩:=WK (w:=w) qR Cf ff es.toList l (by simpa using hl) (fun j x y h1 h2=>(hc j x y h1 (by simpa using h2)).1) wJ
   have mZ:=Wr (w:=w) qR Cf ff false
   have wB:(getObj ao).run P w=.ok (.map es clock) w:=by simp[getObj,Sem.run,hh]
   have fin:∀(Cg:Array MapEntry)(E9:Nat),(Instr.mapUpdate t (.map (some ao)) (a.eval x) (a.eval y)).run P w=.ok () {w with heap:=w.heap.setIfInBounds ao (.map Cg E9)}→
     (ot l n d).length =Cg.size→(∀(i:Nat)x z,(ot l n d)[i]? =some x→Cg[i]? =some z→x.1.Is z.key∧True∧bp w g.St x.2 z.val)→bP P gl w0 au e.ak o a w k:=by
    intro Cg E9 bC hlen bG next Q Sg
    have anz:(execOp a.eval o).run P w=.ok .skip {w with heap:=w.heap.setIfInBounds ao (.map Cg E9)}:=by
     simp[execOp,ho,NS,bC]
    unfold Oper.wp
    rw[anz]
    have fk:=MapKept.heap_set (o':=.map Cg E9) hh
    refine Sg (.t []) undef _ _ g ?_ hk
    rw[hd]
    refine hI.aaJ (dst:=none) (s:=.t []) (v:=undef) (ak:=e.ak) (w':={w with heap:=w.heap.setIfInBounds ao (.map Cg E9)}) (fun _=>False) (fun _=>False) rfl rfl (fun _ _ _ _ _ h=>h) (fun _ h=>h) dX fk.2 (fun c ty h=>by rw[hh]at h;cases h) (by simp) ⟨rfl,rfl,rfl⟩ rfl
     (fun i x hx _=>⟨x,hx,.inl ⟨rfl,fun h=>h⟩⟩) (fun hX hle=>?_) (fun _ d h=>by cases h)
    exact⟨hle,Cg,E9,fk.1,hlen,fun i x z h1 h2=>⟨(bG i x z h1 h2).1,(bG i x z h1 h2).2.1,hX.yr (bG i x z h1 h2).2.2⟩⟩
   rcases DL with⟨h1,h2⟩|⟨j,x',z,h1,h2,h3,_,h4,h5⟩
   ·subst h2
    rw[XW h1]at fin
    refine fin (es.push {key:=a.eval x,val:=a.eval y,born:=clock}) (clock+1) ?_ (by simp[hl]) (fun i x z hx hz=>?_)
    ·simp[Instr.mapUpdate,run_underlying hu,wB,mZ,yR,MapKept.run_setObj_map _ hh]
    ·rw[List.getElem?_append]at hx
     rw[Array.getElem?_push]at hz
     split at hx
     ·rename_i hi
      rw[if_neg (by omega)]at hz
      exact hc i x z hx hz
     ·rename_i hi
      have:i-l.length=0:=by
       rcases Nat.eq_zero_or_pos (i-l.length)with h|h
       ·exact h
       ·rw[List.getElem?_eq_none (by simp;omega)]at hx;cases hx
      rw[this]at hx
      simp at hx;subst hx
      rw[if_pos (by omega)]at hz
      cases hz
      exact⟨Cf,trivial,hry⟩
   ·have hj:es[j]? =some z:=by simpa using h3
    subst h1
    have qT:=(hc j x' z h2 hj).1
    rw[h4]at qT
    rw[XV h2 h4 h5]at fin
    have lg:j<es.size:=(Array.getElem?_eq_some_iff.1 hj).1
    refine fin (es.modify j fun e=>{e with key:=a.eval x,val:=a.eval y}) clock ?_ (by simp[hl]) (fun i x u hx oE=>?_)
    ·simp[Instr.mapUpdate,run_underlying hu,wB,mZ,yR,hj,adT qT Cf,MapKept.run_setObj_map _ hh]
    ·rw[List.getElem?_set]at hx
     rw[Array.getElem?_modify]at oE
     split at hx
     ·rename_i nh
      subst nh
      split at hx
      ·cases hx
       rw[if_pos rfl,hj]at oE
       cases oE
       exact⟨Cf,trivial,hry⟩
      ·cases hx
     ·rename_i nh
      rw[if_neg nh]at oE
      exact hc i x u hx oE
theorem ae7{x y:SV}{m:Nat}(h:lenOf x y=some m):∃k,x=.d (.int k m)∧y=.d (.int k m):=by
 unfold lenOf at h
 split at h
 ·rename_i k a k' b
  split at h
  ·rename_i hc
   obtain⟨rfl,rfl,h0⟩:=hc
   cases h
   exact⟨k,by rw[Int.toNat_of_nonneg h0],by rw[Int.toNat_of_nonneg h0]⟩
  ·cases h
 ·cases h
theorem XX{t:TypeId}{z:D}(h:xR P t=some z):∃i zv,P.info? t=some i∧i.zero=some zv∧z.one=true∧zv.cells= #[zv]∧∀(w:World)(St:Nat→Nat→Prop),bp w St z zv:=by
 unfold xR at h
 split at h
 ·rename_i i hi
  split at h
  ·rename_i zv hz
   have h1:=(Ev (w:=default) (St:=fun _ _=>False) h).vO (PN h)
   exact⟨i,zv,hi,hz,PN h,by cases zv<;>first|rfl|simp[Value.oneCell']at h1,fun w St=>Ev h⟩
  ·cases h
 ·cases h
theorem D.vL{d:D}(h:d.one=true):d.cells=[d]:=by cases d<;>first|rfl|simp[D.one]at h
theorem ads(hI:Inv gl w0 au e a w g){o:Oper}{t:TypeId}{n c:Operand}(ho:o.op=.makeSlice t n c){k:Slot→List af→Prop}
  (h:ab (nE P t) fun e'=>ab (eF P e') fun sz=>ab (xC P e') fun dh=>ab (xR P e') fun z=>
    bif Nat.beq sz 1&&Nat.blt 0 dh then(ab (lenOf ((Ab.bA gl e n).aa).cC ((Ab.bA gl e c).aa).cC) fun m=>m*dh≤140737488355328∧k (.v (.bh 1 (List.replicate m z))) e.boxes)else False):
  bP P gl w0 au e.ak o a w k:=by
 obtain⟨e',he,h1⟩:=aQ h
 obtain⟨sz,aN,h2⟩:=aQ h1
 obtain⟨dh,nf,h3⟩:=aQ h2
 obtain⟨z,hz,h4⟩:=aQ h3
 clear h h1 h2 h3
 cases eB:(Nat.beq sz 1&&Nat.blt 0 dh)with
 |false=>rw[eB]at h4;exact h4.elim
 |true=>
  rw[eB,cond_true]at h4
  simp only[Bool.and_eq_true]at eB
  have fg:=Nat.eq_of_beq_eq_true eB.1
  have wK:0<dh:=Nat.lt_of_succ_le (Nat.le_of_ble_eq_true eB.2)
  subst fg
  obtain⟨m,hm,NT,hk⟩:=aQ h4
  obtain⟨i,zv,hi,yP,cD,hzc,nR⟩:=XX hz
  obtain⟨kk,e1,e2⟩:=ae7 hm
  have v1:=(hI.j5 n)
  have v2:=(hI.j5 c)
  rw[e1]at v1
  rw[e2]at v2
  have SO:i.size=1:=by simpa[eF,hi]using aN
  have Nh:i.bytes=dh:=by simpa[xC,hi]using nf
  have bw:m*1≤m*dh:=Nat.mul_le_mul_left _ wK
  have lj:(dh:Int)*(m:Int)≤281474976710656:=by
   have h:((dh*m:Nat):Int)≤281474976710656:=by rw[Nat.mul_comm];omega
   rwa[Int.natCast_mul]at h
  have bC:=Go.run_make (P:=P) w t e' i zv (Ba he) hi yP kk kk m m (by omega) (Int.le_refl _) (by rw[Nh];exact lj) (by omega)
  simp only[Int.toNat_natCast,SO,Nat.mul_one]at bC
  have T8:(List.replicate m z).length =m:=by simp
  have dJ:=D.vL cD
  refine bP.ZM hI (cells:=madeCells zv.cells m) (t:=e') (sz:=1) (L:=List.replicate m z) ?_ (by rw[T8,Nat.mul_one];exact size_madeCells _ _) (by rw[T8];simp only[maxLen];omega) (fun x hx=>?_) (fun i' x j c' hx hc=>?_) hk
  ·rw[T8]
   simp[execOp,ho,v1.int,v2.int,bC]
  ·rw[(List.mem_replicate.1 hx).2,dJ]
   exact⟨rfl,fun c hc=>by rw[List.mem_singleton.1 hc];exact cD⟩
  ·have er:=(List.mem_replicate.1 (List.mem_of_getElem? hx)).2
   have qS:i'<m:=by have:=(List.getElem?_eq_some_iff.1 hx).1;simpa using this
   subst er
   rw[dJ]at hc
   have hj:j=0:=by
    cases j with
    |zero=>rfl
    |succ j=>simp at hc
   subst hj
   simp at hc
   subst hc
   refine⟨by rw[size_madeCells];omega,?_⟩
   simp only[Nat.mul_one,Nat.add_zero,madeCells,hzc]
   simp[qS,Nat.mod_one]
   exact nR _ _
theorem cQ.C9{base:Nat}{O:Nat→Nat→Nat→Nat→Prop}{b n sz:Nat}{v:Value}(h:cQ base w g O (.a b n sz) v):
  n≤maxLen∧∃ao cap,g.bx[b]? =some (some ao)∧n≤cap∧v=.slice (some ⟨ao,0,none⟩) n cap∧cap≤maxLen∧∃c ty,w.heap[ao]? =some (.cells c ty (0,0))∧c.size=cap*sz:=by
 cases h with
 |a _ _ _ _ _ hm h=>exact⟨hm,h⟩
theorem af4(hI:Inv gl w0 au e a w g){o:Oper}{c:Call}(ho:o.op=.call c)(hc:c.callee=.builtin .len){x:Operand}{xs:List Operand}{t:TypeId}{ts:List TypeId}
  (hx:c.args.toList=x::xs)(ht:c.argTypes.toList=t::ts){b n sz:Nat}(hs:(Ab.bA gl e x).aa =.a b n sz)(jR:isSlice P t=true){k:Slot→List af→Prop}(hk:k (.v (.d (.int .i64 n))) e.boxes):bP P gl w0 au e.ak o a w k:=by
 obtain⟨hm,hv⟩:=(hI.pX hs).C9
 have h0:c.args[0]? =some x:=by rw[←Array.getElem?_toList,hx];rfl
 have h1:c.argTypes[0]? =some t:=by rw[←Array.getElem?_toList,ht];rfl
 have hu:∃e',P.underlying t=some (.slice e'):=by
  unfold isSlice at jR
  split at jR
  ·exact⟨_,by assumption⟩
  ·cases jR
 obtain⟨e',hu⟩:=hu
 have jq:∃ad cap,a.eval x=.slice ad n cap:=by
  obtain⟨ao,cap,_,_,h,_⟩:=hv
  exact⟨_,_,h⟩
 obtain⟨ad,cap,jq⟩:=jq
 refine bP.gD hI (v:=.int .i64 n) ?_ (.d _ _ _ (.int _ _ ?_)) hk
 ·have hl:(Builtin.len_ c.argTypes o.type (c.args.map a.eval)).run P w=.ok (.int .i64 n) w:=by simp[Builtin.len_,h0,h1,run_underlying hu,jq,goInt]
  simp[execOp,ho,resolve,hc,invoke,builtin,hl]
 ·simp only[maxLen]at hm
  simp[iP,IntKind.min,IntKind.max,IntKind.signed,IntKind.bits]
  omega
theorem aeh(hI:Inv gl w0 au e a w g){o:Oper}{t:TypeId}{x i:Operand}(ho:o.op=.indexAddr t x i){e':TypeId}(hu:P.underlying t=some (.slice e')){sz:Nat}(aN:eF P e'=some sz)
  {b n F8:Nat}(hs:(Ab.bA gl e x).aa =.a b n F8){j:Nat}(hj:da ((Ab.bA gl e i).aa).cC n=some j){k:Slot→List af→Prop}(hk:k (.p b (j*sz)) e.boxes):bP P gl w0 au e.ak o a w k:=by
 obtain⟨hm,hv⟩:=(hI.pX hs).C9
 obtain⟨kk,ii,e1,h1,h2,rfl⟩:=uA hj
 have hi:=hI.j5 i
 rw[e1]at hi
 have wD:=hi.int
 obtain⟨ao,cap,hb,hle,hv,_⟩:=hv
 refine bP.value hI (v:=.pointer (some ⟨ao,ii.toNat*sz,none⟩)) ?_ (.p _ _ _ _ hb) hk
 have:=qq ao 0 (ii.toNat*sz)
 rw[Nat.zero_add]at this
 simp[execOp,ho,Instr.indexAt,wD,asIntOf,run_underlying hu,hv,h1,h2,kP aN,this]
theorem WL(hI:Inv gl w0 au e a w g){o:Oper}{c:Call}(ho:o.op=.call c)(hc:c.callee=.builtin .append){ak:List Slot}{lost:Nat→Prop}(hH:v8 e ak lost o.dst)
  {x y:Operand}{t u:TypeId}
  (hx:c.args.toList=[x,y])(ht:c.argTypes.toList=[t,u]){sx sy:SV}{O:Nat→Nat→Nat→Prop}{Oy:Nat→Nat→Nat→Prop}(rx:aR w g.St w0.heap.size O sx (a.eval x))(ry:aR w g.St w0.heap.size Oy sy (a.eval y))
  (hO:∀b a' c,O b a' c→∃i0,fA w0.heap.size w g (.s i0 0) b a' c∧lost i0){k:Slot→List af→Prop}
  (h:bif Nat.beq t u then(ab (nE P t) fun e'=>ab (eF P e') fun sz=>ab (xC P e') fun dh=>ab (pG P e') fun z=>
    bif Nat.blt 0 dh&&Nat.blt 0 sz&&Nat.beq z.length sz then cb sz dh sx sy fun r=>k (.v r) e.boxes else False)else False):bP P gl w0 au ak o a w k:=by
 cases wL:Nat.beq t u with
 |false=>rw[wL]at h;exact h.elim
 |true=>
  have:=Nat.eq_of_beq_eq_true wL
  subst this
  rw[wL]at h
  simp only[cond_true]at h
  obtain⟨e',he,h⟩:=aQ h
  obtain⟨sz,aN,h⟩:=aQ h
  obtain⟨dh,nf,h⟩:=aQ h
  obtain⟨z,hz,h⟩:=aQ h
  cases eB:(Nat.blt 0 dh&&Nat.blt 0 sz&&Nat.beq z.length sz)with
  |false=>simp only[eB,cond_false]at h
  |true=>
   simp only[eB,cond_true]at h
   simp only[Bool.and_eq_true]at eB
   obtain⟨⟨h1,h2⟩,h3⟩:=eB
   have wK:0<dh:=Nat.lt_of_succ_le (Nat.le_of_ble_eq_true h1)
   have mr:0<sz:=Nat.lt_of_succ_le (Nat.le_of_ble_eq_true h2)
   have Cd:=Nat.eq_of_beq_eq_true h3
   obtain⟨⟨r,n⟩,hr,NT,hk⟩:=aQ h
   obtain⟨i,zv,hi,yP,iC⟩:=Xc hz
   have hu:=Ba he
   have SO:i.size=sz:=by simpa[eF,hi]using aN
   have Nh:i.bytes=dh:=by simpa[xC,hi]using nf
   intro next Q hn
   obtain⟨v,w',g',bC,hinv⟩:=aee (ty:=o.type) hI hH hu hi yP SO (by rw[iC,Cd]) mr rx ry hO hr (by rw[Nh];exact NT) (by rw[Nh];exact wK)
   unfold Oper.wp
   have gi:c.args.map a.eval= #[a.eval x,a.eval y]:=by
    apply Array.toList_inj.1
    rw[Array.toList_map,hx];rfl
   have aoZ:c.argTypes= #[t,t]:=by apply Array.toList_inj.1;rw[ht]
   have:(execOp a.eval o).run P w=.ok (.value v) w':=by
    simp only[execOp,ho,resolve,hc,Sem.run_bind,Sem.run_pure,Result.andThen_ok,invoke,builtin,gi,aoZ,bC]
   rw[this]
   exact hn (.v r) v _ w' g' hinv hk
theorem ae8{b:Bool}{A:Prop}(h:cond b A False):b=true∧A:=by cases b;exact h.elim;exact⟨rfl,h⟩
theorem ahh(hI:Inv gl w0 au e a w g){id:Nat}{o:Oper}{k:Slot→List af→Prop}(h:dR P (aF P gl) id o (fun x=>(Ab.bA gl e x).aa) e.boxes k):bP P gl w0 au e.ak o a w k:=by
 cases ho:o.op<;>simp only[dR,ho]at h
 case move x=>exact bP.value hI (by simp[execOp,ho]) (hI.bA x) h
 case assign x=>exact bP.value hI (by simp[execOp,ho]) (hI.bA x) h
 case pick c x y=>
  split at h
  ·rename_i s hs
   obtain⟨b,rfl,h1,h2⟩:=EI h
   have hv:=(hI.tW hs).data.xD
   cases b
   ·exact bP.value hI (v:=a.eval y) (by simp[execOp,ho,hv,asBool]) (hI.bA y) (h2 rfl)
   ·exact bP.value hI (v:=a.eval x) (by simp[execOp,ho,hv,asBool]) (hI.bA x) (h1 rfl)
  ·exact h.elim
 case alloc t=>
  split at h
  ·rename_i gJ;exact aeY hI ho gJ h
  ·exact h.elim
 case box t x=>
  split at h
  ·rename_i gJ;exact ahe hI ho gJ h
  ·exact h.elim
 case build t ps=>exact ae6 hI ho h
 case buildSlice t n ps=>exact adi hI ho h
 case load t x=>
  obtain⟨⟨b,n⟩,hl,h⟩:=aQ h
  split at h
  ·rename_i bn off hs;exact adP hI ho hl hs h
  ·rename_i s hs;exact ae0 hI ho hl hs h
  ·exact h.elim
 case store t x y=>
  obtain⟨n,hn,h⟩:=aQ h
  split at h
  ·rename_i bn off hs
   split at h
   ·rename_i hd;exact ae1 hI ho hd hn hs h
   ·exact h.elim
  ·exact h.elim
 case nilCheck x=>exact adC hI ho h
 case binOp op t x y u=>exact ahd hI ho h
 case unOp op t x=>exact aiO hI ho h
 case convert src dst x=>
  cases hs:(P.underlying src).isSome with
  |false=>rw[hs]at h;exact h.elim
  |true=>rw[hs]at h;exact af0 hI ho hs h
 case makeInterface t x=>exact ae2 hI ho h
 case makeFunc fn first cap=>exact adD hI ho h
 case slice t x lo hi mx=>exact ae5 hI ho h
 case fieldAddr t x f=>exact adp hI ho h
 case field t x f=>exact ae3 hI ho h
 case indexAddr t x i=>
  cases hs:(Ab.bA gl e x).aa with
  |a b n=>
   rw[hs]at h
   split at h
   ·rename_i e' hu
    obtain⟨sz,aN,h1⟩:=aQ h
    obtain⟨j,hj,hk⟩:=aQ h1
    exact aeh hI ho hu aN hs hj hk
   ·obtain⟨sz,aN,h1⟩:=aQ h
    obtain⟨j,hj,hk⟩:=aQ h1
    exact hk.elim
   ·exact h.elim
  |_=>exact adq hI ho (by rw[hs]at h ⊢;exact h)
 case index t x i=>exact ae4 hI ho h
 case extract x i=>exact adR hI ho h
 case lookup t m x ok=>exact aeg hI ho h
 case makeSlice t n c=>exact ads hI ho h
 case makeMap t hn=>
  split at h
  ·rename_i hh gJ;exact adS hI ho gJ h
  ·exact h.elim
 case mapUpdate t m x y=>
  obtain⟨et,het,h1⟩:=aQ h
  split at h1
  ·rename_i b hm hd
   split at h1
   ·rename_i l hb
    obtain⟨n,hn,h2⟩:=aQ h1
    obtain⟨d,lb,h3⟩:=aQ h2
    obtain⟨l',jQ,hk⟩:=aQ h3
    exact adr hI ho hd het hm hb hn lb jQ hk
   ·exact h1.elim
  ·exact h1.elim
 case call c=>
  split at h
  ·rename_i f hc
   refine af2 hI ho hc (n:=arity P o.type) ?_
   split at h
   ·rename_i s hs;simp only[hs];exact h
   ·rename_i g' first cap hs;simp only[hs];exact h
   ·exact h.elim
  ·rename_i recv name hc
   refine aef hI ho hc (n:=arity P o.type) ?_
   split at h
   ·rename_i s hs;simp only[hs];exact h
   ·exact h.elim
  ·rename_i b hc
   split at h
   ·rename_i x xs t ts hx ht
    cases hs:(Ab.bA gl e x).aa with
    |a b n=>
     rw[hs]at h
     obtain⟨hb,hk⟩:=ae8 h
     exact af4 hI ho hc hx ht hs hb hk
    |_=>exact ahf hI ho hc hx ht (by rw[hs]at h ⊢;exact h)
   ·rename_i x y t u hx ht
    exact WL hI ho hc (v8.same e o.dst) hx ht (hI.j5 x) (hI.j5 y) (fun _ _ _ h=>h.elim) h
   ·rename_i x xs ts hx;exact YL hI ho hc hx (.inl ⟨rfl,rfl⟩) h
   ·rename_i x xs ts hx;exact YL hI ho hc hx (.inr ⟨rfl,rfl⟩) h
   ·exact h.elim
 all_goals exact h.elim
theorem K7:∀{l:List SV}{i:Nat}{x:SV},SV.iZ l=true→l[i]? =some x→x.aA=true
 |[],i,x,h,hx=>by simp at hx
 |y::l,0,x,h,hx=>by
  simp only[SV.iZ,Bool.and_eq_true]at h
  simp at hx;subst hx;exact h.1
 |y::l,i+1,x,h,hx=>by
  simp only[SV.iZ,Bool.and_eq_true]at h
  exact K7 h.2 (by simpa using hx)
theorem aR.aaK{St:Nat→Nat→Prop}{base zL:Nat}{O:Nat→Nat→Nat→Prop}{x:SV}{v:Value}(r:aR w St base O x v)(h:x.aA=true):aR w St zL O x v:=by
 induction r with
 |d O x v hd=>exact .d _ _ _ hd
 |own O sz L g cap hd cd ho=>exact .own _ _ _ _ _ hd cd ho
 |full O sz L a hd=>exact .full _ _ _ _ hd
 |ref=>cases h
 |dg=>cases h
 |aX O x off b o vs hf aW hc=>exact .aX _ _ _ _ _ _ hf aW hc
 |ef O f first cap fv cv hf hc rf rc kZ k7=>
  simp only[SV.aA,Bool.and_eq_true]at h
  exact .ef _ f first cap fv cv hf hc (fun i x v a b=>kZ i x v a b (K7 h.1 a)) (fun i x v a b=>k7 i x v a b (K7 h.2 a))
 |bh O sz L g cap vs cd hm aN hf ho aW hc=>exact .bh _ _ _ _ _ _ cd hm aN hf ho aW hc
 |mp O l r es clock hh hs hl hc=>exact .mp _ _ _ _ _ hh hs hl hc
 |nest O LL gg cap bk cp h1 h2 h3 h4 h5 h6=>exact .nest _ LL gg cap bk cp h1 h2 h3 h4 h5 h6
 |undef O v=>exact .undef _ _
theorem aR.tM{St:Nat→Nat→Prop}{base:Nat}{O O':Nat→Nat→Nat→Prop}{x:SV}{v:Value}(r:aR w St base O x v)(h:∀b a c,O b a c→O' b a c):aR w St base O' x v:=
 r.mono (fun _ _ h=>⟨h,.refl _ _ _⟩) (fun _ _ _=>rfl) _ fun b a c ho=>⟨h b a c ho,.refl _ _ _⟩
theorem aR.aiR{St:Nat→Nat→Prop}{base:Nat}{O O':Nat→Nat→Nat→Prop}{x:SV}{v:Value}(r:aR w St base O x v)(h:∀b a c,a≤c→O b a c→O' b a c):aR w St base O' x v:=by
 cases r with
 |d _ x v hd=>exact .d _ _ _ hd
 |own _ sz L g cap hd cd ho=>
  refine .own _ _ _ _ _ hd cd (h _ _ _ ?_ ho)
  cases hd with
  |sl _ _ _ _ _ vs hc=>exact Nat.mul_le_mul_right _ hc
  |mY _ _ _ ha=>exact absurd rfl ha
 |full _ sz L a hd=>exact .full _ _ _ _ hd
 |ref _ cs off b o vs hb aW hc=>exact .ref _ _ _ _ _ _ hb aW hc
 |dg _ n sz cs b cap vs hb hn hm aW hc=>exact .dg _ _ _ _ _ _ _ hb hn hm aW hc
 |aX _ x off b o vs hf aW hc=>exact .aX _ _ _ _ _ _ hf aW hc
 |ef _ f first cap fv cv hf hc rf rc=>exact .ef _ _ _ _ _ _ hf hc rf rc
 |bh _ sz L g cap vs cd hm aN hf ho aW hc=>exact .bh _ _ _ _ _ _ cd hm aN hf (h _ _ _ (Nat.zero_le _) ho) aW hc
 |mp _ l r es clock hh hs hl hc=>exact .mp _ _ _ _ _ hh hs hl hc
 |nest _ LL gg cap bk cp h1 h2 h3 h4 h5 h6=>exact .nest _ LL gg cap bk cp h1 h2 (h _ _ _ (Nat.zero_le _) h3) h4 (fun i L hL=>⟨h _ _ _ (Nat.zero_le _) (h5 i L hL).1,(h5 i L hL).2⟩) h6
 |undef _ v=>exact .undef _ _
noncomputable def rowOf(w0 w:World)(g:Gh)(t p b:Nat):Option Nat:=by
 classical exact if ∃a c,fA w0.heap.size w g (.s t 0) b a c∧a≤c then some p else none
theorem PR{t p b i:Nat}(h:rowOf w0 w g t p b=some i):i=p∧∃a c,fA w0.heap.size w g (.s t 0) b a c∧a≤c:=by
 unfold rowOf at h
 split at h
 ·rename_i hh;cases h;exact⟨rfl,hh⟩
 ·cases h
theorem af5{t p b a' c':Nat}(h:fA w0.heap.size w g (.s t 0) b a' c')(F9:a'≤c'):rowOf w0 w g t p b=some p:=by
 unfold rowOf
 rw[if_pos ⟨a',c',h,F9⟩]
theorem Xg{t p b:Nat}(h:g.ow b≠some (.s t 0)):rowOf w0 w g t p b=none:=by
 cases hr:rowOf w0 w g t p b with
 |none=>rfl
 |some i=>exact absurd (PR hr).2.choose_spec.choose_spec.1.1 h
theorem Inv.aiS(hI:Inv gl w0 au e a w g){t p:Nat}{w':World}{cq:Nat→Nat→Prop}{ow:Nat→Option Nat}(Av:w'.os=w.os)(Sj:w'.tape=w.tape)(SP:w'.output=w.output)(aN:w.heap.size≤w'.heap.size)
  (dX:∀b,b<w.heap.size→rowOf w0 w g t p b=none→w'.heap[b]? =w.heap[b]?)(h1:∀b o,g.St b o→cq b o∧rR w w' b o)
  (h2:∀b o,cq b o→g.St b o∨((w.heap.size≤b∨rowOf w0 w g t p b≠none)∧b<w'.heap.size))(dst:Option Nat){bk:SV}{s:Slot}{v:Value}
  (wM:aR w' cq 0 (XO w.heap.size (rowOf w0 w g t p) w' cq ow 0) bk (a.tmps.getD t undef))
  (hs:∀g':Gh,g'.St=cq→(∀d,dst=some d→∀j b a c,XO w.heap.size (rowOf w0 w g t p) w' cq ow (j+1) b a c→fA w0.heap.size w' g' (.s d j) b a c)→∀d,dst=some d→cQ w0.heap.size w' g' (gp w0.heap.size w' g' d) s v):
  ∃g',Inv gl w0 au ⟨de (e.ak.set t (.v bk)) dst s,e.boxes⟩ (a.put dst v) w' g':=by
 have hle:w0.heap.size≤w.heap.size:=hI.below.size
 let A:=rowOf w0 w g t p
 let g':Gh:={St:=cq,bx:=g.bx,ow:=fun b=>if w.heap.size≤b∨A b≠none then(match ow b with|some 0=>some (.s t 0)|some (j+1)=>dst.map fun d=>Pos.s d j|none=>none)else g.ow b}
 have kU:∀b,A b≠none→w0.heap.size≤b∧some b∉g.bx∧b<w.heap.size:=fun b hb=>by
  cases hA:A b with
  |none=>exact absurd hA hb
  |some i=>
   obtain⟨_,a',c',o,_⟩:=PR hA
   exact⟨o.2.1,o.2.2.1,o.lt⟩
 have hXO:∀{j b a' c'}{q:Pos},XO w.heap.size A w' cq ow j b a' c'→(match j with|0=>some (Pos.s t 0)|(j+1)=>dst.map fun d=>Pos.s d j)=some q→fA w0.heap.size w' g' q b a' c':=fun{j b a' c' q}h hq=>by
  obtain⟨x1,x2,x3,x4⟩:=h
  refine⟨?_,?_,?_,x3,x4⟩
  ·show(if w.heap.size≤b∨A b≠none then(match ow b with|some 0=>some (.s t 0)|some (j+1)=>dst.map fun d=>Pos.s d j|none=>none)else g.ow b)=some q
   rw[if_pos x2,x1]
   cases j<;>exact hq
  ·rcases x2 with h|h
   ·omega
   ·exact(kU b h).1
  ·intro hm
   rcases x2 with h|h
   ·have:=(hI.dP b hm).2;omega
   ·exact(kU b h).2.1 hm
 have hX:Ext w0.heap.size w g w' g' (fun q=>∃j,q=.s t j):=by
  refine⟨fun D o fZ ho h=>?_,h1,fun b o h=>World.cell?_of_block (dX b (by omega) ?_),fun _ _ h=>h,fun q b a' c' hq ho=>?_,fun b c ty hm hb=>⟨c,ty,(dX b (gk hb) ?_).trans hb,rfl⟩⟩
  ·have hA:A D=none:=Xg (by rw[ho];simp)
   have aP:=gk h
   refine⟨(dX D aP hA).trans h,fZ,?_,fun x hx=>?_⟩
   ·show(if w.heap.size≤D∨A D≠none then _ else g.ow D)=none
    rw[if_neg (by rintro(h|h);omega;exact h hA)];exact ho
   ·rcases h2 D x hx with h|⟨h|h,_⟩
    ·exact h
    ·omega
    ·exact absurd hA h
  ·cases hA:A b with
   |none=>exact hA
   |some i=>
    have:=(kU b (by rw[hA];simp)).1
    omega
  ·have aP:=ho.lt
   have hA:A b=none:=Xg (by rw[ho.1];intro hh;cases hh;exact hq ⟨0,rfl⟩)
   obtain⟨o1,o2,o3,⟨cur,te,o4,mw⟩,o5⟩:=ho
   refine⟨⟨?_,o2,o3,⟨cur,te,(dX b aP hA).trans o4,mw⟩,fun o cg bc=>?_⟩,fun _=>dX b aP hA⟩
   ·show(if w.heap.size≤b∨A b≠none then _ else g.ow b)=some q
    rw[if_neg (by rintro(h|h);omega;exact h hA)];exact o1
   ·rcases h2 b o bc with h|⟨h|h,_⟩
    ·exact o5 o cg h
    ·omega
    ·exact absurd hA h
  ·cases hA:A b with
   |none=>exact hA
   |some i=>exact absurd hm (kU b (by rw[hA];simp)).2.1
 refine⟨g',hI.stepG hX ⟨Av,Sj,SP,aN,fun k hk=>dX k (by omega) ?_⟩ (by simp) (fun i x hx hd=>?_) (fun d hd=>hs g' rfl (fun d' lb j b a' c' h=>hXO h (by simp only[lb];rfl)) d hd) hI.gq (fun b bx ao hb eI=>hX.box (fun j=>by rintro⟨j',h⟩;cases h) (dX ao (hI.dP ao (List.mem_of_getElem? eI)).2 ?_) (hI.boxes b bx ao hb eI)) hI.nodup (fun b hb=>⟨(hI.dP b hb).1,Nat.lt_of_lt_of_le (hI.dP b hb).2 aN⟩) (fun b o bc=>?_)⟩
 ·cases hA:A k with
  |none=>exact hA
  |some i=>
   have:=(kU k (by rw[hA];simp)).1
   omega
 ·rw[List.getElem?_set]at hx
  split at hx
  ·rename_i iD
   subst iD
   split at hx
   ·cases hx
    exact .v _ _ _ ((wM.CE (Nat.zero_le _)).tM fun b a' c' h=>hXO h rfl)
   ·cases hx
  ·rename_i iD
   exact hX.slot (fun j=>by rintro⟨j',h⟩;cases h;exact iD rfl) (hI.ak i x hx)
 ·cases hA:A ao with
  |none=>exact hA
  |some i=>exact absurd (List.mem_of_getElem? eI) (kU ao (by rw[hA];simp)).2.1
 ·rcases h2 b o bc with h|⟨h,aP⟩
  ·have:=hI.dj b o h
   exact⟨this.1,this.2.1,Nat.lt_of_lt_of_le this.2.2 aN⟩
  ·refine⟨.inr ?_,?_,aP⟩
   ·rcases h with h|h
    ·omega
    ·exact(kU b h).1
   ·intro hm
    rcases h with h|h
    ·have:=(hI.dP b hm).2;omega
    ·exact(kU b h).2.1 hm
theorem akE{rs:List SV}(h:∀r,rs=[r]→False):Dh rs=.t rs:=by
 cases rs with
 |nil=>rfl
 |cons a l=>cases l with
  |nil=>exact(h a rfl).elim
  |cons b l=>rfl
theorem Qa(hI:Inv gl w0 au e a w g){o:Oper}{c:Call}{f:Operand}(ho:o.op=.call c)(hc:c.callee=.value f){t p:Nat}(hp:c.args.toList[p]? =some (.tmp t)){f':FuncId}(hg:SH (Ab.bA gl e f)=some f'){y:SV}
  (hy:e.ak.getD t (.v .undef)=.v y){n:Nat}{k:Env→Prop}
  (h:B8 n fun rs=>∃bk,aF P gl f' (qG p ((kq e.boxes (fun x=>(Ab.bA gl e x).aa) c.args.toList).set p y)) (.aK (bk::rs))∧aa bk=aa y∧k ⟨de (e.ak.set t (.v bk)) o.dst (Dh rs),e.boxes⟩):
  ∀(next:Act→World→Prop)(Q:Exit→Act→World→Prop),(∀e' v w' g',Inv gl w0 au e' (a.put o.dst v) w' g'→k e'→next (a.put o.dst v) w')→o.wp P a w next Q:=by
 intro next Q hn
 obtain⟨rs,hlen,bk,hH,ar2,hk⟩:=Hy h
 rw[Q8]at hH
 obtain⟨hE,DM,hH⟩:=hH
 have gi:=QC hI c.args
 have Aw:a.eval f=.func (.func f') #[] #[]:=by
  unfold SH at hg
  split at hg
  ·rename_i g2 hs
   cases hg
   have:=(hI.tW (x:=f) (s:=.d (.fn (.func f'))) (by rw[hs];rfl)).data
   generalize a.eval f=u at this
   cases this;rfl
  ·cases hg
 have bC:(execOp a.eval o).run P w=.ok (.enter f' (c.args.map a.eval)) w:=by
  have h1:=hE (c.args.map a.eval) w
  simp[execOp,ho,resolve,hc,Aw,Deferred.ofValue,invoke,h1]
 have oo:cQ w0.heap.size w g (gp w0.heap.size w g t) (.v y) (a.tmps.getD t undef):=by
  rw[←hy]
  simp only[List.getD_eq_getElem?_getD]
  cases hh:e.ak[t]? with
  |none=>exact .v _ _ _ (.undef _ _)
  |some s=>exact hI.ak t s hh
 have hyv:aR w g.St w0.heap.size (gp w0.heap.size w g t 0) y (a.tmps.getD t undef):=by cases oo;assumption
 have hvp:(c.args.map a.eval)[p]? =some (a.tmps.getD t undef):=by
  rw[Array.getElem?_map,←Array.getElem?_toList,hp];rfl
 unfold Oper.wp
 rw[bC]
 refine(hH w g.St (rowOf w0 w g t p) (c.args.map a.eval) (fun b o h=>hI.me h) (fun b i hb=>(by
  obtain⟨_,a',c',⟨_,_,_,⟨cur,te,h4,oD⟩,h5⟩,F9⟩:=PR hb
  exact⟨cur,te,h4,fun o ho=>h5 o (by omega)⟩)) hI.lS (by rw[List.length_set];exact gi.1) (fun i x v hx hv=>?_)).mono fun en w' hh=>?_
 ·have wI:=K7 DM hx
  rw[List.getElem?_set]at hx
  split at hx
  ·rename_i hpi
   subst hpi
   split at hx
   ·cases hx
    rw[hvp]at hv
    cases hv
    exact(hyv.aaK wI).aiR fun b a' c' F9 cg=>⟨af5 cg F9,cg.2.2.2.1,cg.2.2.2.2⟩
   ·cases hx
  ·exact((gi.2 i x v hx hv).aaK wI).tM fun b a' c' h=>h.elim
 ·obtain⟨v,he,Av,Sj,SP,aN,dX,cq,ow,h1,h2,hr,hb⟩:=hh
  subst he
  have key:∀g':Gh,g'.St=cq→(∀d,o.dst=some d→∀j b a' c',XO w.heap.size (rowOf w0 w g t p) w' cq ow (j+1) b a' c'→fA w0.heap.size w' g' (.s d j) b a' c')→∀d,o.dst=some d→cQ w0.heap.size w' g' (gp w0.heap.size w' g' d) (Dh rs) v:=by
   intro g' la hO d hd
   unfold yf at hr
   split at hr
   ·refine .v _ _ _ ?_
    rw[←la]at hr
    exact(hr.CE (Nat.zero_le _)).tM fun b a' c' h=>hO d hd 0 b a' c' (by rw[la]at h;exact h)
   ·rename_i bg
    obtain⟨vs,rfl,hl,jd⟩:=hr
    rw[akE bg]
    refine .t _ _ vs hl fun j x z hx hz=>?_
    have:=jd j x z hx hz
    rw[←la]at this
    exact(this.CE (Nat.zero_le _)).tM fun b a' c' h=>hO d hd j b a' c' (by rw[la]at h;exact h)
  obtain⟨g',hY⟩:=hI.aiS (t:=t) (p:=p) Av Sj SP aN dX h1 h2 o.dst (bk:=bk) (s:=Dh rs) (v:=v) (hb _ hvp) key
  exact hn _ v w' g' hY hk
abbrev Da(P:Program)(gl:Nat→Option D)(w0:World)(au:S0)(o:Oper)(a:Act)(w:World)(k:Env→Prop):Prop:=
 ∀(next:Act→World→Prop)(Q:Exit→Act→World→Prop),
  (∀e' v w' g',Inv gl w0 au e' (a.put o.dst v) w' g'→k e'→next (a.put o.dst v) w')→o.wp P a w next Q
theorem kQ(hI:Inv gl w0 au e a w g)(t:Nat):cQ w0.heap.size w g (gp w0.heap.size w g t) (e.ak.getD t (.v .undef)) (a.eval (.tmp t)):=by
 simp only[Act.eval,List.getD_eq_getElem?_getD]
 cases h:e.ak[t]? with
 |none=>exact .v _ _ _ (.undef _ _)
 |some s=>exact hI.ak t s h
def Gh.oI(g:Gh)(t:Nat)(q:Nat→Pos):Gh:={g with ow:=fun b=>match g.ow b with
 |some (.s i j)=>if i=t then some (q j)else some (.s i j)
 |x=>x}
theorem aiT{base:Nat}{t:Nat}{q:Nat→Pos}{p:Pos}(hp:∀j,p≠.s t j){b a0 c0:Nat}(h:fA base w g p b a0 c0):fA base w (g.oI t q) p b a0 c0:=by
 obtain⟨h1,h2,h3,h4,h5⟩:=h
 refine⟨?_,h2,h3,h4,h5⟩
 simp only[Gh.oI,h1]
 cases p with
 |s i j=>
  simp only
  rw[if_neg (fun h=>hp j (by rw[h]))]
 |b i j=>rfl
theorem Rb{base:Nat}{t:Nat}{q:Nat→Pos}{j:Nat}{b a0 c0:Nat}(h:fA base w g (.s t j) b a0 c0):fA base w (g.oI t q) (q j) b a0 c0:=by
 obtain⟨h1,h2,h3,h4,h5⟩:=h
 exact⟨by simp[Gh.oI,h1],h2,h3,h4,h5⟩
theorem Ext.oI{base:Nat}(t:Nat)(q:Nat→Pos)(lost:Pos→Prop)(hl:∀j,lost (.s t j)):Ext base w g w (g.oI t q) lost:=
 ⟨fun D _ hb hn h=>⟨h,hb,by simp[Gh.oI,hn],fun _ h=>h⟩,fun _ _ h=>(by first|exact⟨h,rfl⟩|exact⟨h,.refl _ _ _⟩),fun _ _ _=>rfl,fun _ _ h=>h,fun _ _ _ _ hp ho=>⟨aiT (fun j hj=>hp (by rw[hj];exact hl j)) ho,.refl _ _ _⟩,.refl _⟩
theorem Qb(e:Env)(t:Nat)(dst:Option Nat):v8 e (e.ak.set t (e.ak.getD t (.v .undef)).aa) (fun i=>i=t) dst:=by
 refine⟨by simp,fun i x hx _=>?_⟩
 rw[List.getElem?_set]at hx
 split at hx
 ·rename_i h
  subst h
  split at hx
  ·rename_i aP
   cases hx
   refine⟨e.ak[t],List.getElem?_eq_getElem aP,.inr ?_⟩
   rw[List.getD_eq_getElem?_getD,List.getElem?_eq_getElem aP];rfl
  ·cases hx
 ·rename_i h
  exact⟨x,hx,.inl ⟨rfl,fun h'=>h h'.symm⟩⟩
theorem YM(hI:Inv gl w0 au e a w g){o:Oper}{t:Nat}(bC:(execOp a.eval o).run P w=.ok (.value (a.eval (.tmp t))) w){k:Env→Prop}
  (h:k ⟨de (e.ak.set t (e.ak.getD t (.v .undef)).aa) o.dst (e.ak.getD t (.v .undef)),e.boxes⟩):Da P gl w0 au o a w k:=by
 intro next Q hn
 unfold Oper.wp
 rw[bC]
 refine hn _ _ _ (match o.dst with|some d=>g.oI t (fun j=>.s d j)|none=>g) (hI.hand (Qb e t o.dst) ?_ (Below.refl _ _) (fun d hd=>?_) ?_ (fun _ _=>rfl) (fun b o' bc=>?_)) h
 ·cases o.dst with
  |none=>exact⟨fun _ _ hb ho h=>⟨h,hb,ho,fun _ h=>h⟩,fun _ _ h=>(by first|exact⟨h,rfl⟩|exact⟨h,.refl _ _ _⟩),fun _ _ _=>rfl,fun _ _ h=>h,fun _ _ _ _ _ h=>⟨h,.refl _ _ _⟩,.refl _⟩
  |some d=>exact Ext.oI t _ _ (fun j=>⟨t,j,rfl,.inl rfl⟩)
 ·rw[hd]
  exact(kQ hI t).mono (fun _ _ h=>(by first|exact⟨h,rfl⟩|exact⟨h,.refl _ _ _⟩)) (fun _ _ _=>rfl) (fun _ _ h=>h) (.refl _) (fun j b a' c ho=>⟨Rb (q:=fun j=>.s d j) ho,.refl _ _ _⟩)
 ·cases o.dst<;>rfl
 ·have:g.St b o':=by cases hd:o.dst<;>rw[hd]at bc<;>exact bc
  exact hI.dj b o' this
theorem ae9(hI:Inv gl w0 au e a w g){o:Oper}{c:Call}(ho:o.op=.call c)(hc:c.callee=.builtin .append){t:Nat}{y:Operand}{ty u:TypeId}
  (hx:c.args.toList=[.tmp t,y])(ht:c.argTypes.toList=[ty,u]){k:Env→Prop}
  (h:bif Nat.beq ty u then(ab (nE P ty) fun e'=>ab (eF P e') fun sz=>ab (xC P e') fun dh=>ab (pG P e') fun z=>
    bif Nat.blt 0 dh&&Nat.blt 0 sz&&Nat.beq z.length sz then cb sz dh (e.ak.getD t (.v .undef)).cC ((Ab.bA gl e y).aa).cC fun r=>
     k ⟨de (e.ak.set t (e.ak.getD t (.v .undef)).aa) o.dst (.v r),e.boxes⟩else False)else False):Da P gl w0 au o a w k:=by
 have hs:=kQ hI t
 have rx:aR w g.St w0.heap.size (gp w0.heap.size w g t 0) (e.ak.getD t (.v .undef)).cC (a.eval (.tmp t)):=by
  revert hs
  generalize e.ak.getD t (.v .undef)=s
  intro hs
  cases s with
  |v x=>exact hs.kz
  |_=>exact .undef _ _
 intro next Q hn
 refine WL hI ho hc (Qb e t o.dst) (lost:=fun i=>i=t) hx ht rx (hI.j5 y) (fun b a' c' h=>⟨t,h,rfl⟩)
  (k:=fun s aG=>k ⟨de (e.ak.set t (e.ak.getD t (.v .undef)).aa) o.dst s,aG⟩) h next Q (fun s v aG w' g' hinv hk=>hn _ v w' g' hinv hk)
theorem aei(hI:Inv gl w0 au e a w g){o:Oper}{t i:Nat}(ho:o.op=.extract (.tmp t) i){vs:List SV}(hs:e.ak.getD t (.v .undef)=.t vs){r:SV}(hr:vs[i]? =some r){k:Env→Prop}
  (h:k ⟨de (e.ak.set t (.t (vs.set i (aa r)))) o.dst (.v r),e.boxes⟩):Da P gl w0 au o a w k:=by
 have oo:=kQ hI t
 rw[hs]at oo
 obtain⟨tv,hv,hl,hc⟩:=oo.Sf
 have hi:i<tv.size:=by rw[←hl];exact(List.getElem?_eq_some_iff.1 hr).1
 have Jy:t<e.ak.length:=by
  rcases Nat.lt_or_ge t e.ak.length with h|h
  ·exact h
  ·rw[List.getD_eq_getElem?_getD,List.getElem?_eq_none h]at hs;cases hs
 intro next Q hn
 have bC:(execOp a.eval o).run P w=.ok (.value tv[i]) w:=by simp[execOp,ho,Instr.extract,hv,hi]
 unfold Oper.wp
 rw[bC]
 let g':Gh:={g with ow:=fun b=>if g.ow b=some (.s t i)then o.dst.map (fun d=>.s d 0)else g.ow b}
 have hX:Ext w0.heap.size w g w g' (fun p=>p=.s t i∨∃d j,o.dst=some d∧p=.s d j):=by
  refine⟨fun D _ hb hn h=>⟨h,hb,(by
   show(if g.ow D=some (.s t i)then o.dst.map (fun d=>Pos.s d 0)else g.ow D)=none
   rw[if_neg (by rw[hn];simp)];exact hn),fun _ h=>h⟩,fun _ _ h=>(by first|exact⟨h,rfl⟩|exact⟨h,.refl _ _ _⟩),fun _ _ _=>rfl,fun _ _ h=>h,fun p b a' c' hp cg=>⟨?_,.refl _ _ _⟩,.refl _⟩
  obtain⟨h1,h2,h3,h4,h5⟩:=cg
  refine⟨?_,h2,h3,h4,h5⟩
  show(if g.ow b=some (.s t i)then o.dst.map (fun d=>Pos.s d 0)else g.ow b)=some p
  rw[if_neg (by rw[h1];intro h;cases h;exact hp (.inl rfl))]
  exact h1
 refine hn _ _ w g' (hI.stepG hX (Below.refl _ _) (by simp) (fun i' x hx hd=>?_) (fun d hd=>?_) hI.gq (fun b bx ao h1 h2=>?_) hI.nodup hI.dP hI.dj) h
 ·rw[List.getElem?_set]at hx
  split at hx
  ·rename_i he
   subst he
   simp only[Option.some.injEq]at hx
   subst hx
   have hvt:a.tmps.getD t undef=.tuple tv:=hv
   rw[hvt]
   refine .t _ _ tv (by simpa using hl) fun j x v hx jq=>?_
   rw[List.getElem?_set]at hx
   split at hx
   ·rename_i fp
    subst fp
    split at hx
    ·cases hx
     exact((hc i r v hr jq).aa (O':=fun _ _ _=>False)).mono hX.st hX.bs _ (fun _ _ _ h=>h.elim)
    ·cases hx
   ·rename_i fp
    refine(hc j x v hx jq).mono hX.st hX.bs _ (fun b a' c' cg=>hX.own _ b a' c' ?_ cg)
    rintro(h|⟨d,j',h1,h2⟩)
    ·cases h;exact fp rfl
    ·cases h2;exact hd h1
  ·rename_i he
   refine hX.slot (fun j=>?_) (hI.ak i' x hx)
   rintro(h|⟨d,j',h1,h2⟩)
   ·cases h;exact he rfl
   ·cases h2;exact hd h1
 ·refine .v _ _ _ ((hc i r tv[i] hr (by simp)).mono hX.st hX.bs _ (fun b a' c' cg=>⟨?_,.refl _ _ _⟩))
  obtain⟨h1,h2,h3,h4,h5⟩:=cg
  refine⟨?_,h2,h3,h4,h5⟩
  show(if g.ow b=some (.s t i)then o.dst.map (fun d=>Pos.s d 0)else g.ow b)=some (.s d 0)
  rw[if_pos h1,hd];rfl
 ·refine hX.box (fun j=>?_) rfl (hI.boxes b bx ao h1 h2)
  rintro(h|⟨d,j',h1,h2⟩)
  ·cases h
  ·cases h2
theorem ahi(hI:Inv gl w0 au e a w g){o:Oper}{ty:TypeId}{x:Operand}(ho:o.op=.load ty x){bn off:Nat}(hs:(Ab.bA gl e x).aa =.p bn off){ly:Bool×Nat}(hl:lR P ty=some ly)(oJ:ly.1=false)
  {cs:List SV}(cK:e.boxes[bn]? =some (.cells cs)){y:SV}(hy:cs[off]? =some y){k:Env→Prop}(h:k ⟨de e.ak o.dst (.v y),e.boxes.set bn (.cells (cs.set off (aa y)))⟩):Da P gl w0 au o a w k:=by
 obtain⟨b0,n⟩:=ly
 simp only at oJ
 subst oJ
 obtain⟨ao,hv,dX⟩:=(hI.pX hs).pN
 obtain⟨h0,c,te,hc,cD,hlen,bG⟩:=hI.boxes bn _ ao cK dX
 have Dm:off<c.size:=Nat.lt_of_lt_of_le (List.getElem?_eq_some_iff.1 hy).1 hlen
 have aW:w.cell? ⟨ao,off,none⟩=some c[off]:=by rw[cell_of_row w ao off c te (0,0) hc];simp[Dm]
 have bC:(execOp a.eval o).run P w=.ok (.value c[off]) w:=by
  have:=A7 (P:=P) (w:=w) hl ao off (fun _=>c[off]) (fun j hj=>by simp at hj;subst hj;exact aW)
  simp[execOp,ho,Instr.loadAt,Instr.sureAddr,hv,this]
 intro next Q hn
 unfold Oper.wp
 rw[bC]
 let g':Gh:={g with ow:=fun b=>if g.ow b=some (.b bn off)then o.dst.map (fun d=>.s d 0)else g.ow b}
 refine hn _ _ w g' (hI.RI (dst:=o.dst) (ak:=e.ak) (fun _=>False) (fun j=>j=off) (g':=g') rfl rfl (fun p b' h1 h2 h3 h4=>?_) (fun D hD=>by
   show(if g.ow D=some (.b bn off)then o.dst.map (fun d=>.s d 0)else g.ow D)=none
   rw[if_neg (by rw[hD];simp)];exact hD) dX (fun j y hj=>cD j y (by simpa[af.size]using hj)) hc (fun c ty h=>by rw[hc]at h;cases h;rfl) (fun _ _=>rfl) rfl ⟨rfl,rfl,rfl⟩ rfl
  (fun i x hx _=>⟨x,hx,.inl ⟨rfl,fun h=>h⟩⟩) (fun hX=>?_) (fun hX d hd=>?_)) h
 ·show(if g.ow b'=some (.b bn off)then o.dst.map (fun d=>Pos.s d 0)else g.ow b')=some p
  rw[if_neg (by rw[h4];intro h;cases h;exact h2 off rfl rfl)]
  exact h4
 ·refine⟨by simpa using hlen,fun j x u hx hu=>?_⟩
  rw[List.getElem?_set]at hx
  split at hx
  ·rename_i hj
   subst hj
   split at hx
   ·cases hx
    exact((bG off y u hy hu).aa (O':=fun _ _ _=>False)).mono hX.st hX.bs _ (fun _ _ _ h=>h.elim)
   ·cases hx
  ·rename_i hj
   refine(bG j x u hx hu).mono hX.st hX.bs _ (fun b' a' c' cg=>hX.own _ b' a' c' ?_ cg)
   rintro(⟨i,j',h,_⟩|⟨j',h,h'⟩|⟨d,j',_,h⟩)
   ·cases h
   ·cases h;exact hj h'.symm
   ·cases h
 ·refine .v _ _ _ ((bG off y c[off] hy (by simp)).mono hX.st hX.bs _ (fun b' a' c' cg=>⟨?_,.refl _ _ _⟩))
  obtain⟨h1,h2,h3,h4,h5⟩:=cg
  refine⟨?_,h2,h3,h4,h5⟩
  show(if g.ow b'=some (.b bn off)then o.dst.map (fun d=>Pos.s d 0)else g.ow b')=some (.s d 0)
  rw[if_pos h1,hd];rfl
theorem af6(hI:Inv gl w0 au e a w g){o:Oper}{ty:TypeId}{x:Operand}{t:Nat}(ho:o.op=.store ty x (.tmp t))(hd:o.dst=none){bn off:Nat}(hs:(Ab.bA gl e x).aa =.p bn off)
  (u9:eF P ty=some 1){y:SV}(hy:e.ak.getD t (.v .undef)=.v y){cs:List SV}(cK:e.boxes[bn]? =some (.cells cs)){l:List SV}(hl:aE y=some l)(qa:l.length=1)(Dm:off<cs.length)
  {k:Env→Prop}(h:k ⟨e.ak.set t (.v (aa y)),e.boxes.set bn (.cells (setAt cs off l))⟩):Da P gl w0 au o a w k:=by
 obtain⟨ao,hv,dX⟩:=(hI.pX hs).pN
 obtain⟨h0,c,te,hc,cD,hlen,bG⟩:=hI.boxes bn _ ao cK dX
 have oo:=kQ hI t
 rw[hy]at oo
 obtain⟨c1,c2,c3⟩:=oo.kz.cells hl
 have mn:(a.eval (.tmp t)).cells.size =1:=by rw[←c1,qa]
 have bc:=GX (P:=P) (w:=w) u9 hc mn c2 (off:=off) (by omega)
 have bC:(execOp a.eval o).run P w=.ok .skip (w.setRow ao (c.toList.take off++(a.eval (.tmp t)).cells.toList ++c.toList.drop (off+1)).toArray):=by
  simp[execOp,ho,Instr.storeAt,Instr.sureAddr,hv,bc]
 intro next Q hn
 unfold Oper.wp
 rw[bC]
 have mf:=setRow_heap w ao c (c.toList.take off++(a.eval (.tmp t)).cells.toList ++c.toList.drop (off+1)).toArray te (0,0) hc
 let g':Gh:=g.oI t (fun _=>.b bn off)
 have j8:∀j,(c.toList.take off++(a.eval (.tmp t)).cells.toList ++c.toList.drop (off+1)).toArray[j]? =if j<off then c[j]? else if j<off+1 then(a.eval (.tmp t)).cells[j-off]? else c[j]? :=by
  intro j
  have qP:(a.eval (.tmp t)).cells.toList.length =1:=by simpa using mn
  have:=uC c.toList (a.eval (.tmp t)).cells.toList off (by rw[qP];simp;omega) j
  rw[qP]at this
  simp only[List.getElem?_toArray]
  rw[this]
  simp only[Array.getElem?_toList]
 have e0:(⟨e.ak.set t (.v (aa y)),e.boxes.set bn (.cells (setAt cs off l))⟩:Env)=⟨de (e.ak.set t (.v (aa y))) o.dst (.t []),e.boxes.set bn (.cells (setAt cs off l))⟩:=by rw[hd];rfl
 rw[e0]at h
 refine hn _ undef _ g' (hI.RI (dst:=o.dst) (s:=.t []) (ak:=e.ak.set t (.v (aa y))) (fun i=>i=t) (fun j=>j=off) (g':=g') rfl rfl (fun p b' h1 h2 h3 h4=>?_) (fun D hD=>by simp[g',Gh.oI,hD]) dX ?_ mf (fun c ty h=>by rw[hc]at h;cases h;simp[mn];omega)
  (fun k hk=>setRow_other w ao k _ hk) (by simp[World.setRow]) ⟨rfl,rfl,rfl⟩ (by simp) (fun i x hx _=>?_) (fun hX=>?_) (fun hX d lb=>by rw[hd]at lb;cases lb)) h
 ·show(match g.ow b' with|some (.s i j)=>if i=t then some (Pos.b bn off)else some (.s i j)|x=>x)=some p
  rw[h4]
  cases p with
  |s i j=>simp only;rw[if_neg (fun h=>h1 i j rfl h)]
  |b i j=>rfl
 ·intro j u hj hu
  rw[←mn]at hu
  exact Xa (m:=cs.length) (by omega) cD c2 j u (by simp only[af.size,Ew l cs off (by omega),List.length_append,List.length_take,List.length_drop]at hj;omega) hu
 ·rw[List.getElem?_set]at hx
  split at hx
  ·rename_i he
   subst he
   split at hx
   ·rename_i aP
    cases hx
    rw[List.getD_eq_getElem?_getD,List.getElem?_eq_getElem aP]at hy
    simp only[Option.getD_some]at hy
    exact⟨_,List.getElem?_eq_getElem aP,.inr (by rw[hy];rfl)⟩
   ·cases hx
  ·rename_i he
   exact⟨x,hx,.inl ⟨rfl,fun h=>he h.symm⟩⟩
 ·rw[Ew l cs off (by omega)]
  refine⟨by simp[mn,qa];omega,fun j x' u er hu=>?_⟩
  rw[j8]at hu
  rw[uC cs l off (by omega),qa]at er
  have jr:j≠off→cs[j]? =some x'→c[j]? =some u→aR (w.setRow ao (c.toList.take off++(a.eval (.tmp t)).cells.toList ++c.toList.drop (off+1)).toArray) g'.St w0.heap.size (wc w0.heap.size _ g' bn j) x' u:=fun hj h4 h5=>
   (bG j x' u h4 h5).mono hX.st hX.bs _ (fun b' a' c' cg=>hX.own _ b' a' c' (by
     rintro(⟨i,j',h,_⟩|⟨j',h,h'⟩|⟨d,j',_,h⟩)
     ·cases h
     ·cases h;exact hj h'
     ·cases h) cg)
  split at er
  ·rename_i hj
   rw[if_pos hj]at hu
   exact jr (by omega) er hu
  ·rename_i hj
   rw[if_neg hj]at hu
   split at er
   ·rename_i sN
    rw[if_pos sN]at hu
    have Ca:j=off:=by omega
    subst Ca
    refine(c3 (j-j) x' u er hu).mono hX.st hX.bs _ (fun b' a' c' cg=>?_)
    have:=Rb (q:=fun _=>Pos.b bn j) cg
    obtain⟨h1,h2,h3,⟨cur,oB,h4,oD⟩,h5⟩:=this
    have bg:b'≠ao:=fun h=>h3 (h▸List.mem_of_getElem? dX)
    exact⟨⟨h1,h2,h3,⟨cur,oB,(setRow_other w ao b' _ bg).trans h4,oD⟩,h5⟩,fun _=>setRow_other w ao b' _ bg⟩
   ·rename_i sN
    rw[if_neg sN]at hu
    exact jr (by omega) er hu
theorem afa(hI:Inv gl w0 au e a w g){o:Oper}{k:Env→Prop}(h:om P gl (aF P gl) o e k):Da P gl w0 au o a w k:=by
 unfold om at h
 split at h
 ·rename_i t ho;exact YM hI (by simp[execOp,ho]) h
 ·rename_i t ho;exact YM hI (by simp[execOp,ho]) h
 ·rename_i t i ho
  split at h
  ·rename_i vs hs
   split at h
   ·rename_i r hr;exact aei hI ho hs hr h
   ·exact h.elim
  ·exact h.elim
 ·rename_i ty x ho
  split at h
  ·rename_i b off hs
   obtain⟨ly,hl,h⟩:=aQ h
   cases oJ:ly.1 with
   |true=>rw[oJ]at h;exact h.elim
   |false=>
    rw[oJ]at h
    simp only[cond_false]at h
    split at h
    ·rename_i cs cK
     obtain⟨y,hy,h⟩:=aQ h
     exact ahi hI ho hs hl oJ cK hy h
    ·exact h.elim
  ·exact h.elim
 ·rename_i ty x t ho
  split at h
  ·rename_i b off y hs hy hd
   obtain⟨sz,aN,h⟩:=aQ h
   cases hb:Nat.beq sz 1 with
   |false=>rw[hb]at h;exact h.elim
   |true=>
    rw[hb]at h
    simp only[cond_true]at h
    have:=Nat.eq_of_beq_eq_true hb
    subst this
    split at h
    ·rename_i cs cK
     obtain⟨l,hl,h1,h2,h⟩:=aQ h
     exact af6 hI ho hd hs aN hy cK hl h1 h2 h
    ·exact h.elim
  ·exact h.elim
 ·rename_i t n ps ho
  obtain⟨r',e',sz,L,hk,bC,aN,nH,jB,bG⟩:=V5 hI ho (K:=fun sz L=>k ⟨de e.ak o.dst (.v (.bh sz L)),e.boxes⟩) h
  intro next Q hn
  exact bP.ZM hI (k:=fun s aG=>k ⟨de e.ak o.dst s,aG⟩) bC aN nH jB bG hk next Q (fun s v aG w' g' hinv hk=>hn _ v w' g' hinv hk)
 ·rename_i c ho
  split at h
  ·rename_i t y ty u hc hx ht
   exact ae9 hI ho hc hx ht h
  ·rename_i f hc
   split at h
   ·rename_i t g' hp hg
    split at h
    ·rename_i y hy
     exact Qa hI ho hc hp hg hy h
    ·exact h.elim
   ·exact h.elim
  ·exact h.elim
 ·exact h.elim
theorem Qc(hI:Inv gl w0 au e a w g){id:Nat}{aI:Bool}{o:Oper}{k:Env→Prop}(h:qH P gl (aF P gl) id aI o e k):Da P gl w0 au o a w k:=by
 unfold qH at h
 cases aI<;>simp only[cond_true,cond_false]at h
 ·intro next Q hn
  exact ahh hI h next Q (fun s v aG w' g' hinv hk=>hn _ v w' g' hinv hk)
 ·exact afa hI h
end
def oK(U:Option (Nat×af))(aG:List af):List af:=match U with
 |none=>aG
 |some (b,bx)=>aG.set b bx
def kV(src:Option (Nat×Slot))(l:List Slot):List Slot:=match src with
 |none=>l
 |some (t,s)=>l.set t s
def we(x y:Option af):Prop:=x=y∨∃cs gj,x=some (.cells cs)∧y=some (.cells gj)∧cs.map Ab.aa=gj.map Ab.aa
theorem we.refl(x:Option af):we x x:=.inl rfl
theorem we.symm{x y:Option af}(h:we x y):we y x:=by
 rcases h with h|⟨cs,gj,h1,h2,h3⟩
 ·exact .inl h.symm
 ·exact .inr ⟨gj,cs,h2,h1,h3.symm⟩
theorem we.trans{x y z:Option af}(h:we x y)(k:we y z):we x z:=by
 rcases h with rfl|⟨cs,gj,h1,h2,h3⟩
 ·exact k
 ·rcases k with rfl|⟨ds,T9,k1,k2,k3⟩
  ·exact .inr ⟨cs,gj,h1,h2,h3⟩
  ·rw[h2]at k1
   cases k1
   exact .inr ⟨cs,T9,h1,k2,h3.trans k3⟩
theorem aiU(x:SV):cB (aa x)=cB x:=by cases x<;>rfl
theorem QD:∀(l:List SV),dC (l.map aa)=dC l
 |[]=>rfl
 |x::l=>by simp only[List.map_cons,dC,aiU,QD l]
theorem afb{agg:Bool}{sz off:Nat}{cs gj:List SV}{y:SV}(h:cs.map Ab.aa=gj.map Ab.aa)(hy:ai agg sz off cs=some y):∃y',ai agg sz off gj=some y'∧aa y'=aa y:=by
 have hlen:cs.length=gj.length:=by have:=congrArg List.length h;simpa using this
 cases agg with
 |false=>
  simp only[ai,cond_false]at hy ⊢
  have h1:(gj.map Ab.aa)[off]? =some (aa y):=by rw[←h];simp[hy]
  rw[List.getElem?_map]at h1
  obtain⟨y',h2,h3⟩:=Option.map_eq_some_iff.1 h1
  exact⟨y',h2,h3⟩
 |true=>
  refine⟨y,?_,rfl⟩
  simp only[ai,cond_true]at hy ⊢
  have h1:dC ((gj.drop off).take sz)=dC ((cs.drop off).take sz):=by
   rw[←QD,←QD ((cs.drop off).take sz),List.map_take,List.map_drop,List.map_take,List.map_drop,h]
  rw[h1,←hlen]
  exact hy
def oY(ao0:Bool)(s:Slot)(aG b':List af):Prop:=(∀b off,s=.p b off→we b'[b]? aG[b]? ∧(ao0=false→b'[b]? =aG[b]?))∧(∀n,snap b' n s=snap aG n s)∧∀b l,s=.m b→(b'[b]? =some (.map l)↔aG[b]? =some (.map l))
structure z6(id:Nat)(aI:Bool)(o:Oper)(U:Option (Nat×af))(ρ:Operand→Slot)(aG b':List af):Prop where
 mem:j1 o=true→∀x∈o.op.operands,oY (!lB o&& !aI) (ρ x) aG b'
 fresh:iY o=true→U≠none→b'[id]? =some .none
inductive zM(id:Nat)(o:Oper)(aI:Bool)(ρ:Operand→Slot)(aG:List af):Option (Nat×af)→Prop
 |none:zM id o aI ρ aG none
 |mk (bx:af) (h:iY o=true) (hn:aG[id]? =some .none) (hb:bx≠.none):zM id o aI ρ aG (some (id,bx))
 |wr (b:Nat) (bx jr:af) (h:j1 o=true) (hw:lB o=true∨aI=true) (x:Operand) (hx:x∈o.op.operands) (off:Nat) (hp:ρ x=.p b off∨ρ x=.m b) (ho:aG[b]? =some jr) (hold:jr≠.none) (hb:bx≠.none ∧bx.isMap=jr.isMap)
   (uW:aI=true→lB o=false→∃cs gj,jr=.cells cs∧bx=.cells gj∧cs.map Ab.aa=gj.map Ab.aa)
   (ha:∀t y z,o.op=.store t y z→x=y):
   zM id o aI ρ aG (some (b,bx))
inductive eJ(K:Nat→Prop):Slot→Prop
 |v (x:SV):eJ K (.v x)
 |t (l:List SV):eJ K (.t l)
 |p (b off:Nat) (h:K b):eJ K (.p b off)
 |a (b n sz:Nat) (h:K b):eJ K (.a b n sz)
 |m (b:Nat) (h:K b):eJ K (.m b)
 |c (f:Fn) (first cap:List Slot) (h1:∀s∈first,eJ K s) (h2:∀s∈cap,eJ K s):eJ K (.c f first cap)
theorem eJ.nT{K:Nat→Prop}{s:Slot}(h:eJ K s):eJ K s.aa:=by
 cases h with
 |v x=>exact .v _
 |t l=>exact .t _
 |p b off h=>exact .p b off h
 |a b n sz h=>exact .a b n sz h
 |m b h=>exact .m b h
 |c f first cap h1 h2=>exact .c f first cap h1 h2
theorem eJ.anA{K:Nat→Prop}{s:Slot}(h:eJ K s.aa):eJ K s:=by
 cases s with
 |v x=>exact .v _
 |t l=>exact .t _
 |p b off=>exact h
 |a b n sz=>exact h
 |m b=>exact h
 |c f first cap=>exact h
theorem eJ.pN{K:Nat→Prop}{b off:Nat}(h:eJ K (.p b off)):K b:=by cases h;assumption
theorem eJ.abO{K:Nat→Prop}{b:Nat}(h:eJ K (.m b)):K b:=by cases h;assumption
theorem eJ.C9{K:Nat→Prop}{b n sz:Nat}(h:eJ K (.a b n sz)):K b:=by cases h;assumption
def addrOf(o:Oper):Option Operand:=match o.op with| .store _ x _=>some x|_=>none
def FA(o:Oper)(ρ:Operand→Slot)(aG:List af)(s:Slot)(U:Option (Nat×af)):Prop:=
 ∀(K B:Nat→Prop),(∀b,K b→B b)→(∀x∈o.op.operands,addrOf o≠some x→eJ K (ρ x))→(∀t x y,o.op=.store t x y→eJ K (ρ y))→(∀b s,B b→aG[b]? =some (.one s)→eJ K s)→
  (iY o=false→eJ K s)∧∀b s',U=some (b,.one s')→iY o=false→eJ K s'
theorem kB{o:Oper}{ρ:Operand→Slot}{aG:List af}{x:SV}:FA o ρ aG (.v x) none:=fun _ _ _ _ _ _=>⟨fun _=>.v _,fun _ _ h=>by cases h⟩
theorem Ni{o:Oper}{ρ:Operand→Slot}{aG:List af}{s:Slot}{U:Option (Nat×af)}(h:iY o=true):FA o ρ aG s U:=fun _ _ _ _ _ _=>⟨fun h2=>(by rw[h]at h2;cases h2),fun _ _ _ h2=>(by rw[h]at h2;cases h2)⟩
theorem Nj{o:Oper}{ρ:Operand→Slot}{aG:List af}{s:Slot}(h:∀K,eJ K s):FA o ρ aG s none:=fun K _ _ _ _ _=>⟨fun _=>h K,fun _ _ h=>by cases h⟩
theorem yu{o:Oper}{ρ:Operand→Slot}{aG:List af}{s:Slot}{x:Operand}(hx:x∈o.op.operands)(ha:addrOf o=none)(h:∀K,eJ K (ρ x)→eJ K s):FA o ρ aG s none:=fun K _ _ hρ _ _=>⟨fun _=>h K (hρ x hx (by rw[ha];simp)),fun _ _ h=>by cases h⟩
theorem Nk{o:Oper}{ρ:Operand→Slot}{aG:List af}{l:List SV}{b:Nat}{cs:List SV}:FA o ρ aG (.t l) (some (b,.cells cs)):=fun _ _ _ _ _ _=>⟨fun _=>.t _,fun _ _ h=>by cases h⟩
section
variable{P:Program}{gl:Nat→Option D}{C:bu}
theorem KI{ρ ρ':Operand→Slot}:∀{l:List (Nat×Operand)},(∀p∈l,ρ' p.2=ρ p.2)→rV ρ' l=rV ρ l
 |[],_=>rfl
 |(i,x)::l,h=>by
  simp only[rV]
  rw[h (i,x) (by simp),KI (fun p hp=>h p (by simp[hp]))]
theorem Pu{ρ ρ':Operand→Slot}{aG b':List af}:∀{l:List Operand},(∀x∈l,snap b' 6 (ρ' x)=snap aG 6 (ρ x))→kq b' ρ' l=kq aG ρ l
 |[],_=>rfl
 |x::l,h=>by
  simp only[kq]
  rw[h x (by simp),Pu (fun p hp=>h p (by simp[hp]))]
theorem PS{ρ ρ':Operand→Slot}{x:Option Operand}(h:∀y,x=some y→ρ' y=ρ y):tP ρ' x=tP ρ x:=by
 cases x with
 |none=>rfl
 |some y=>simp only[tP];rw[h y rfl]
theorem XY:∀{n:Nat}{k:List SV→Prop}(rs:List SV),rs.length=n→k rs→B8 n k
 |0,_,[],_,h=>h
 |n+1,_,r::rs,hl,h=>⟨r,XY rs (by simpa using hl) h⟩
 |0,_,_::_,hl,_=>by simp at hl
 |_+1,_,[],hl,_=>by simp at hl
theorem PT{n:Nat}{aG:List af}{k:Slot→List af→Prop}{f:FuncId}{args:List SV}(h:sd C n aG k f args):
  ∃s,k s aG∧(∀K,eJ K s)∧∀b' k',k' s b'→sd C n b' k' f args:=by
 unfold sd at h
 split at h
 ·obtain⟨r,h1,h2,h3⟩:=h
  exact⟨.v r,h3,fun K=>.v _,fun b' k' hk=>⟨r,h1,h2,hk⟩⟩
 ·rename_i hn
  obtain⟨rs,hl,h1,h2⟩:=Hy h
  refine⟨.t rs,h2,fun K=>.t _,fun b' k' hk=>?_⟩
  unfold sd
  split
  ·exact absurd rfl hn
  ·exact XY rs hl ⟨h1,hk⟩
theorem aej{x:SV}{args:List SV}{K:FuncId→List SV→Prop}(h:withFn x args K):∃f l,K f l∧∀K':FuncId→List SV→Prop,K' f l→withFn x args K':=by
 unfold withFn at h
 split at h
 ·exact⟨_,_,h,fun _ h=>h⟩
 ·exact⟨_,_,h,fun _ h=>h⟩
 ·exact h.elim
theorem adE{x:SV}{name:String}{args:List SV}{K:FuncId→List SV→Prop}(h:Bk P x name args K):∃f l,K f l∧∀K':FuncId→List SV→Prop,K' f l→Bk P x name args K':=by
 unfold Bk at h
 split at h
 ·obtain⟨f,hf,h⟩:=aQ h
  exact⟨_,_,h,fun K' hk=>by simp only[Bk,hf];exact hk⟩
 ·exact h.elim
theorem aiV{aG b':List af}{f:Fn}{first cap:List Slot}(h:∀n,snap b' n (.c f first cap)=snap aG n (.c f first cap)):
  lC (snap b' 6) first=lC (snap aG 6) first∧lC (snap b' 6) cap=lC (snap aG 6) cap:=by
 have:=h 7
 simp only[snap,SV.ef.injEq,true_and]at this
 exact this
theorem ahj{id:Nat}{o:Oper}{ρ:Operand→Slot}{aG:List af}{k:Slot→List af→Prop}(h:dR P C id o ρ aG k):
  ∃s U,k s (oK U aG)∧zM id o false ρ aG U∧FA o ρ aG s U∧
   ∀(ρ':Operand→Slot)(b':List af)(k':Slot→List af→Prop),(∀x∈o.op.operands,ρ' x=ρ x)→z6 id false o U ρ aG b'→k' s (oK U b')→dR P C id o ρ' b' k':=by
 cases ho:o.op<;>simp only[dR,ho]at h
 case move x=>
  refine⟨_,none,h,.none,yu (x:=x) (by simp[ho,Op.operands]) (by simp[addrOf,ho]) (fun _ h=>h),fun ρ' b' k' hρ _ hk=>?_⟩
  simp only[dR,ho];rw[hρ x (by simp[Op.operands])];exact hk
 case assign x=>
  refine⟨_,none,h,.none,yu (x:=x) (by simp[ho,Op.operands]) (by simp[addrOf,ho]) (fun _ h=>h),fun ρ' b' k' hρ _ hk=>?_⟩
  simp only[dR,ho];rw[hρ x (by simp[Op.operands])];exact hk
 case pick c x y=>
  split at h
  ·rename_i s hs
   obtain⟨b,rfl,h1,h2⟩:=EI h
   cases b
   ·refine⟨_,none,h2 rfl,.none,yu (x:=y) (by simp[ho,Op.operands]) (by simp[addrOf,ho]) (fun _ h=>h),fun ρ' b' k' hρ _ hk=>?_⟩
    simp only[dR,ho];rw[hρ c (by simp[Op.operands]),hρ x (by simp[Op.operands]),hρ y (by simp[Op.operands]),hs];exact hk
   ·refine⟨_,none,h1 rfl,.none,yu (x:=x) (by simp[ho,Op.operands]) (by simp[addrOf,ho]) (fun _ h=>h),fun ρ' b' k' hρ _ hk=>?_⟩
    simp only[dR,ho];rw[hρ c (by simp[Op.operands]),hρ x (by simp[Op.operands]),hρ y (by simp[Op.operands]),hs];exact hk
  ·exact h.elim
 case alloc t=>
  split at h
  ·rename_i gJ
   obtain⟨z,hz,hk⟩:=aQ h
   refine⟨_,some (id,_),hk,.mk _ (by simp[iY,ho]) gJ (by simp),Ni (by simp[iY,ho]),fun ρ' b' k' hρ hS hk=>?_⟩
   simp only[dR,ho,hS.fresh (by simp[iY,ho]) (by simp),hz,ab];exact hk
  ·exact h.elim
 case box t x=>
  split at h
  ·rename_i gJ
   obtain⟨sz,aN,h⟩:=aQ h
   split at h
   ·rename_i y hy
    obtain⟨l,hl,hlen,hk⟩:=aQ h
    refine⟨_,some (id,_),hk,.mk _ (by simp[iY,ho]) gJ (by simp),Ni (by simp[iY,ho]),fun ρ' b' k' hρ hS hk=>?_⟩
    simp only[dR,ho,hS.fresh (by simp[iY,ho]) (by simp),aN,ab];rw[hρ x (by simp[Op.operands]),hy];simp only[hl];exact⟨hlen,hk⟩
   ·exact h.elim
   ·rename_i h1 h2
    split at h
    ·refine⟨_,some (id,_),h,.mk _ (by simp[iY,ho]) gJ (by simp),Ni (by simp[iY,ho]),fun ρ' b' k' hρ hS hk=>?_⟩
     simp only[dR,ho,hS.fresh (by simp[iY,ho]) (by simp),aN,ab];rw[hρ x (by simp[Op.operands])]
     split
     ·rename_i y hy;exact absurd hy (h1 y)
     ·rename_i y hy;exact absurd hy (h2 y)
     ·exact hk
    ·exact h.elim
  ·exact h.elim
 case build t ps=>
  obtain⟨l,hl,h⟩:=aQ h
  obtain⟨r,hr,h⟩:=aQ h
  refine⟨_,none,h,.none,kB,fun ρ' b' k' hρ _ hk=>?_⟩
  simp only[dR,ho]
  rw[KI (fun p hp=>hρ p.2 (by simp only[Op.operands,List.mem_toArray,List.mem_map];exact⟨p,hp,rfl⟩)),hl]
  simp only[ab,hr];exact hk
 case buildSlice t n ps=>
  obtain⟨e,he,h⟩:=aQ h
  obtain⟨ly,oJ,h⟩:=aQ h
  obtain⟨z,hz,h⟩:=aQ h
  obtain⟨l,hl,h⟩:=aQ h
  cases hc:(Nat.ble (n*ly.2) (2^24)&&Nat.blt 0 ly.2&&Nat.beq z.length ly.2)with
  |false=>rw[hc]at h;exact h.elim
  |true=>
   rw[hc]at h
   simp only[cond_true]at h
   refine⟨_,none,h.2,.none,kB,fun ρ' b' k' hρ _ hk=>?_⟩
   simp only[dR,ho]
   rw[KI (fun p hp=>hρ p.2 (by simp only[Op.operands,List.mem_toArray,List.mem_map];exact⟨p,hp,rfl⟩)),hl]
   simp only[ab,he,oJ,hz,hc,cond_true];exact⟨h.1,hk⟩
 case load t x=>
  obtain⟨ly,hl,h⟩:=aQ h
  split at h
  ·rename_i bn off hs
   unfold uH at h
   have NU:∀{U b'},z6 id false o U ρ aG b'→we b'[bn]? aG[bn]? :=fun hS=>((hS.mem (by simp[j1,ho]) x (by simp[ho,Op.operands])).1 bn off hs).1
   split at h
   ·rename_i cs cK
    obtain⟨y,hy,h⟩:=aQ h
    refine⟨_,none,h,.none,kB,fun ρ' b' k' hρ hS hk=>?_⟩
    simp only[dR,ho,hl,ab];rw[hρ x (by simp[Op.operands]),hs]
    rcases NU hS with hn|⟨ds,T9,h1,h2,h3⟩
    ·simp only[uH,hn,cK,ab,hy];exact hk
    ·rw[cK]at h2
     cases h2
     obtain⟨y',mq,hd⟩:=afb h3.symm hy
     simp only[uH,h1,ab,mq,hd];exact hk
   ·rename_i s cK
    cases hb:ly.1 with
    |true=>rw[hb]at h;exact h.elim
    |false=>
     rw[hb]at h
     simp only[cond_false]at h
     have Ga:∀{U b'},z6 id false o U ρ aG b'→b'[bn]? =aG[bn]? :=fun hS=>by
      rcases NU hS with hn|⟨ds,T9,_,h2,_⟩
      ·exact hn
      ·rw[cK]at h2;cases h2
     split at h
     ·refine⟨_,none,h,.none,fun K B Gb hρ' _ eI=>⟨fun _=>(eI bn s (Gb bn (by have:=hρ' x (by simp[ho,Op.operands]) (by simp[addrOf,ho]);rw[hs]at this;exact this.pN)) cK).nT,fun _ _ h=>by cases h⟩,fun ρ' b' k' hρ hS hk=>?_⟩
      simp only[dR,ho,hl,ab];rw[hρ x (by simp[Op.operands]),hs];simp only[uH,Ga hS,cK,hb,cond_false];exact hk
     ·exact h.elim
   ·exact h.elim
  ·rename_i s hs
   obtain⟨y,hy,h⟩:=aQ h
   refine⟨_,none,h,.none,kB,fun ρ' b' k' hρ hS hk=>?_⟩
   simp only[dR,ho,hl,ab];rw[hρ x (by simp[Op.operands]),hs];simp only[hy];exact hk
  ·exact h.elim
 case store t x y=>
  obtain⟨n,hn,h⟩:=aQ h
  split at h
  ·rename_i bn off hs
   have Ga:∀{U b'},z6 id false o U ρ aG b'→b'[bn]? =aG[bn]? :=fun hS=>((hS.mem (by simp[j1,ho]) x (by simp[ho,Op.operands])).1 bn off hs).2 (by simp[lB,ho])
   split at h
   ·rename_i hd
    unfold xB at h
    have uf:∀bx jr,aG[bn]? =some jr→jr≠.none →bx≠.none ∧bx.isMap=jr.isMap→zM id o false ρ aG (some (bn,bx)):=fun bx jr h1 h2 h3=>
     .wr bn bx jr (by simp[j1,ho]) (.inl (by simp[lB,ho])) x (by simp[ho,Op.operands]) off (.inl hs) h1 h2 h3 (fun h=>by cases h) (fun t' y' z' h=>by rw[ho]at h;cases h;rfl)
    split at h
    ·rename_i cs cK
     split at h
     ·rename_i z hz
      obtain⟨l,hl,h1,h2,h⟩:=aQ h
      refine⟨_,some (bn,_),h,uf _ _ cK (by simp) (by simp[af.isMap]),(by first|exact Nk|exact fun K B _ _ hv _=>⟨fun _=>.t _,fun _ _ h _=>by cases h;exact hv _ _ _ (by assumption)⟩),fun ρ' b' k' hρ hS hk=>?_⟩
      simp only[dR,ho,hn,ab];rw[hρ x (by simp[Op.operands]),hρ y (by simp[Op.operands]),hs,hz,hd];simp only[xB,Ga hS,cK,hl,ab];exact⟨h1,h2,hk⟩
     ·exact h.elim
     ·rename_i h1 h2
      split at h
      ·refine⟨_,some (bn,_),h,uf _ _ cK (by simp) (by simp[af.isMap]),(by first|exact Nk|exact fun K B _ _ hv _=>⟨fun _=>.t _,fun _ _ h _=>by cases h;exact hv _ _ _ (by assumption)⟩),fun ρ' b' k' hρ hS hk=>?_⟩
       simp only[dR,ho,hn,ab];rw[hρ x (by simp[Op.operands]),hρ y (by simp[Op.operands]),hs,hd];simp only[xB,Ga hS,cK];exact hk
      ·exact h.elim
    ·rename_i s0 cK
     split at h
     ·split at h
      ·rename_i z hz
       obtain⟨l,hl,h1,h⟩:=aQ h
       refine⟨_,some (bn,_),h,uf _ _ cK (by simp) (by simp[af.isMap]),(by first|exact Nk|exact fun K B _ _ hv _=>⟨fun _=>.t _,fun _ _ h _=>by cases h;exact hv _ _ _ (by assumption)⟩),fun ρ' b' k' hρ hS hk=>?_⟩
       simp only[dR,ho,hn,ab];rw[hρ x (by simp[Op.operands]),hρ y (by simp[Op.operands]),hs,hz,hd];simp only[xB,Ga hS,cK,hl,ab];exact⟨h1,hk⟩
      ·exact h.elim
      ·rename_i h1 h2
       refine⟨_,some (bn,_),h,uf _ _ cK (by simp) (by simp[af.isMap]),(by first|exact Nk|exact fun K B _ _ hv _=>⟨fun _=>.t _,fun _ _ h _=>by cases h;exact hv _ _ _ (by assumption)⟩),fun ρ' b' k' hρ hS hk=>?_⟩
       simp only[dR,ho,hn,ab];rw[hρ x (by simp[Op.operands]),hρ y (by simp[Op.operands]),hs,hd];simp only[xB,Ga hS,cK];exact hk
     ·exact h.elim
    ·exact h.elim
   ·exact h.elim
  ·exact h.elim
 case nilCheck x=>
  split at h
  ·rename_i y hy
   obtain⟨z,hz,h⟩:=aQ h
   refine⟨_,none,h,.none,kB,fun ρ' b' k' hρ _ hk=>?_⟩
   simp only[dR,ho];rw[hρ x (by simp[Op.operands]),hy];simp only[hz,ab];exact hk
  ·exact h.elim
  ·rename_i f first cap hy
   split at h
   ·refine⟨_,none,h,.none,yu (x:=x) (by simp[ho,Op.operands]) (by simp[addrOf,ho]) (fun _ h=>by rw[hy]at h;exact h),fun ρ' b' k' hρ _ hk=>?_⟩
    simp only[dR,ho];rw[hρ x (by simp[Op.operands]),hy];exact hk
   ·split at h
    ·obtain⟨z,hz,h⟩:=aQ h
     refine⟨_,none,h,.none,yu (x:=x) (by simp[ho,Op.operands]) (by simp[addrOf,ho]) (fun _ h=>by rw[hy]at h;exact h),fun ρ' b' k' hρ _ hk=>?_⟩
     simp only[dR,ho];rw[hρ x (by simp[Op.operands]),hy];simp only[hz,ab];exact hk
    ·exact h.elim
   ·exact h.elim
  ·rename_i b off hy
   refine⟨_,none,h,.none,yu (x:=x) (by simp[ho,Op.operands]) (by simp[addrOf,ho]) (fun _ h=>by rw[hy]at h;exact h),fun ρ' b' k' hρ _ hk=>?_⟩
   simp only[dR,ho];rw[hρ x (by simp[Op.operands]),hy];exact hk
  ·exact h.elim
 case binOp op t x y u=>
  obtain⟨z,hz,h⟩:=aQ h
  refine⟨_,none,h,.none,kB,fun ρ' b' k' hρ _ hk=>?_⟩
  simp only[dR,ho];rw[hρ x (by simp[Op.operands]),hρ y (by simp[Op.operands])];simp only[hz,ab];exact hk
 case unOp op t x=>
  obtain⟨z,hz,h⟩:=aQ h
  refine⟨_,none,h,.none,kB,fun ρ' b' k' hρ _ hk=>?_⟩
  simp only[dR,ho];rw[hρ x (by simp[Op.operands])];simp only[hz,ab];exact hk
 case convert src dst x=>
  cases hs:(P.underlying src).isSome with
  |false=>rw[hs]at h;exact h.elim
  |true=>
   rw[hs]at h
   obtain⟨z,hz,h⟩:=aQ h
   refine⟨_,none,h,.none,kB,fun ρ' b' k' hρ _ hk=>?_⟩
   simp only[dR,ho];rw[hρ x (by simp[Op.operands])];simp only[hs,cond_true,hz,ab];exact hk
 case makeInterface t x=>
  cases hs:isIface P t with
  |true=>rw[hs]at h;exact h.elim
  |false=>
   rw[hs]at h
   obtain⟨z,hz,h⟩:=aQ h
   refine⟨_,none,h,.none,kB,fun ρ' b' k' hρ _ hk=>?_⟩
   simp only[dR,ho];rw[hρ x (by simp[Op.operands])];simp only[hs,cond_false,hz,ab];exact hk
 case makeFunc fn first cap=>
  refine⟨_,none,h,.none,(fun K B Gb hρ' _ _=>⟨fun _=>.c _ _ _ (fun s hs=>by
   obtain⟨x,hx,rfl⟩:=List.mem_map.1 hs
   exact(hρ' x (by rw[ho];simp only[Op.operands,Array.mem_append];exact .inl (by simpa using hx)) (by simp[addrOf,ho])).nT) (fun s hs=>by
   obtain⟨x,hx,rfl⟩:=List.mem_map.1 hs
   exact(hρ' x (by rw[ho];simp only[Op.operands,Array.mem_append];exact .inr (by simpa using hx)) (by simp[addrOf,ho])).nT),fun _ _ h=>by cases h⟩),fun ρ' b' k' hρ _ hk=>?_⟩
  simp only[dR,ho]
  have e1:(first.toList.map fun x=>(ρ' x).aa)=first.toList.map fun x=>(ρ x).aa :=List.map_congr_left fun x hx=>by rw[hρ x (by simp only[Op.operands,Array.mem_append];exact .inl (by simpa using hx))]
  have e2:(cap.toList.map fun x=>(ρ' x).aa)=cap.toList.map fun x=>(ρ x).aa :=List.map_congr_left fun x hx=>by rw[hρ x (by simp only[Op.operands,Array.mem_append];exact .inr (by simpa using hx))]
  rw[e1,e2];exact hk
 case slice t x lo hi mx=>
  obtain⟨z,hz,h⟩:=aQ h
  refine⟨_,none,h,.none,kB,fun ρ' b' k' hρ _ hk=>?_⟩
  simp only[dR,ho]
  rw[hρ x (by simp[Op.operands]),PS (x:=lo) (fun y hy=>hρ y (by simp[Op.operands,hy])),PS (x:=hi) (fun y hy=>hρ y (by simp[Op.operands,hy])),PS (x:=mx) (fun y hy=>hρ y (by simp[Op.operands,hy]))]
  simp only[hz,ab];exact hk
 case fieldAddr t x f=>
  obtain⟨fd,Cb,h⟩:=aQ h
  obtain⟨sz,aN,h⟩:=aQ h
  cases hc:Nat.beq sz 0 with
  |true=>rw[hc]at h;exact h.elim
  |false=>
   rw[hc]at h
   simp only[cond_false]at h
   split at h
   ·rename_i b off hy
    refine⟨_,none,h,.none,yu (x:=x) (by simp[ho,Op.operands]) (by simp[addrOf,ho]) (fun _ h=>by rw[hy]at h;exact .p _ _ h.pN),fun ρ' b' k' hρ _ hk=>?_⟩
    simp only[dR,ho,Cb,aN,ab,hc,cond_false];rw[hρ x (by simp[Op.operands]),hy];exact hk
   ·rename_i y hy
    obtain⟨z,hz,h⟩:=aQ h
    refine⟨_,none,h,.none,kB,fun ρ' b' k' hρ _ hk=>?_⟩
    simp only[dR,ho,Cb,aN,ab,hc,cond_false];rw[hρ x (by simp[Op.operands]),hy];simp only[hz];exact hk
   ·exact h.elim
 case field t x f=>
  obtain⟨fd,Cb,h⟩:=aQ h
  obtain⟨ly,oJ,h⟩:=aQ h
  obtain⟨z,hz,h⟩:=aQ h
  refine⟨_,none,h,.none,kB,fun ρ' b' k' hρ _ hk=>?_⟩
  simp only[dR,ho];rw[hρ x (by simp[Op.operands])];simp only[Cb,oJ,hz,ab];exact hk
 case indexAddr t x i=>
  split at h
  ·rename_i e he
   obtain⟨sz,aN,h⟩:=aQ h
   cases hs:ρ x with
   |a b n=>
    rw[hs]at h
    obtain⟨j,hj,h⟩:=aQ h
    refine⟨_,none,h,.none,yu (x:=x) (by simp[ho,Op.operands]) (by simp[addrOf,ho]) (fun _ h=>by rw[hs]at h;exact .p _ _ h.C9),fun ρ' b' k' hρ _ hk=>?_⟩
    simp only[dR,ho];rw[hρ x (by simp[Op.operands]),hρ i (by simp[Op.operands]),hs];simp only[he,aN,hj,ab];exact hk
   |_=>
    rw[hs]at h
    obtain⟨z,hz,h⟩:=aQ h
    refine⟨_,none,h,.none,kB,fun ρ' b' k' hρ _ hk=>?_⟩
    simp only[dR,ho];rw[hρ x (by simp[Op.operands]),hρ i (by simp[Op.operands]),hs];simp only[he,aN,hz,ab];exact hk
  ·rename_i n e he
   obtain⟨sz,aN,h⟩:=aQ h
   obtain⟨j,hj,h⟩:=aQ h
   split at h
   ·rename_i b off hy
    refine⟨_,none,h,.none,yu (x:=x) (by simp[ho,Op.operands]) (by simp[addrOf,ho]) (fun _ h=>by rw[hy]at h;exact .p _ _ h.pN),fun ρ' b' k' hρ _ hk=>?_⟩
    simp only[dR,ho];rw[hρ x (by simp[Op.operands]),hρ i (by simp[Op.operands])];simp only[he,aN,hj,ab,hy];exact hk
   ·rename_i y hy
    obtain⟨z,hz,h⟩:=aQ h
    refine⟨_,none,h,.none,kB,fun ρ' b' k' hρ _ hk=>?_⟩
    simp only[dR,ho];rw[hρ x (by simp[Op.operands]),hρ i (by simp[Op.operands])];simp only[he,aN,hj,ab,hy,hz];exact hk
   ·exact h.elim
  ·exact h.elim
 case index t x i=>
  split at h
  ·rename_i n e he
   obtain⟨ly,oJ,h⟩:=aQ h
   obtain⟨z,hz,h⟩:=aQ h
   refine⟨_,none,h,.none,kB,fun ρ' b' k' hρ _ hk=>?_⟩
   simp only[dR,ho];rw[hρ x (by simp[Op.operands]),hρ i (by simp[Op.operands])];simp only[he,oJ,hz,ab];exact hk
  ·rename_i he
   obtain⟨z,hz,h⟩:=aQ h
   refine⟨_,none,h,.none,kB,fun ρ' b' k' hρ _ hk=>?_⟩
   simp only[dR,ho];rw[hρ x (by simp[Op.operands]),hρ i (by simp[Op.operands])];simp only[he,hz,ab];exact hk
  ·exact h.elim
 case extract x i=>
  split at h
  ·rename_i vs hs
   split at h
   ·rename_i r hr
    refine⟨_,none,h,.none,kB,fun ρ' b' k' hρ _ hk=>?_⟩
    simp only[dR,ho];rw[hρ x (by simp[Op.operands]),hs];simp only[hr];exact hk
   ·exact h.elim
  ·exact h.elim
 case lookup t m x Ua=>
  obtain⟨et,het,h⟩:=aQ h
  obtain⟨z,hz,h⟩:=aQ h
  obtain⟨r,hr,h⟩:=aQ h
  have hlk:∀{U b'},z6 id false o U ρ aG b'→vZ et.2 z (zH b' (ρ m)) (ρ x).cC =some r:=by
   intro U b' hS
   have h3:=(hS.mem (by simp[j1,ho]) m (by simp[ho,Op.operands])).2.2
   cases hs:ρ m with
   |m b=>
    rw[hs]at hr
    simp only[zH]at hr ⊢
    cases hb:aG[b]? with
    |none=>rw[hb]at hr;cases hr
    |some bx=>
     rw[hb]at hr
     cases bx with
     |map l=>simp only[(h3 b l hs).2 hb];exact hr
     |_=>cases hr
   |_=>rw[hs]at hr;exact hr
  cases Ua with
  |true=>
   refine⟨_,none,h,.none,Nj (fun _=>.t _),fun ρ' b' k' hρ hS hk=>?_⟩
   simp only[dR,ho];rw[hρ m (by simp[Op.operands]),hρ x (by simp[Op.operands])];simp only[het,hz,hlk hS,ab];exact hk
  |false=>
   refine⟨_,none,h,.none,kB,fun ρ' b' k' hρ hS hk=>?_⟩
   simp only[dR,ho];rw[hρ m (by simp[Op.operands]),hρ x (by simp[Op.operands])];simp only[het,hz,hlk hS,ab];exact hk
 case makeSlice t n c=>
  obtain⟨e',he,h1⟩:=aQ h
  obtain⟨sz,aN,h2⟩:=aQ h1
  obtain⟨dh,nf,h3⟩:=aQ h2
  obtain⟨z,hz,h4⟩:=aQ h3
  cases eB:(Nat.beq sz 1&&Nat.blt 0 dh)with
  |false=>rw[eB]at h4;exact h4.elim
  |true=>
   rw[eB,cond_true]at h4
   obtain⟨m,hm,hb,hk⟩:=aQ h4
   refine⟨_,none,hk,.none,kB,fun ρ' b' k' hρ _ hk=>?_⟩
   simp only[dR,ho];rw[hρ n (by simp[Op.operands]),hρ c (by simp[Op.operands])];simp only[he,aN,nf,hz,eB,cond_true,hm,ab];exact⟨hb,hk⟩
 case makeMap t hn=>
  split at h
  ·rename_i gJ
   refine⟨_,some (id,_),h,.mk _ (by simp[iY,ho]) gJ (by simp),Ni (by simp[iY,ho]),fun ρ' b' k' hρ hS hk=>?_⟩
   simp only[dR,ho,hS.fresh (by simp[iY,ho]) (by simp)];exact hk
  ·exact h.elim
 case mapUpdate t m x y=>
  obtain⟨et,het,h1⟩:=aQ h
  split at h1
  ·rename_i b hm hd
   split at h1
   ·rename_i l hb
    obtain⟨n,hn,h2⟩:=aQ h1
    obtain⟨d,lb,ud⟩:=aQ h2
    obtain⟨l',jQ,hk⟩:=aQ ud
    refine⟨_,some (b,_),hk,.wr b _ _ (by simp[j1,ho]) (.inl (by simp[lB,ho])) m (by simp[ho,Op.operands]) 0 (.inr hm) hb (by simp) (by simp[af.isMap]) (fun h=>by cases h) (fun t' y' z' h=>by rw[ho]at h;cases h),(fun K B Gb hρ' _ _=>⟨fun _=>by first|exact .t _|exact .v _,fun _ _ h=>by cases h⟩),fun ρ' b' k' hρ hS hk=>?_⟩
    have h3:=((hS.mem (by simp[j1,ho]) m (by simp[ho,Op.operands])).2.2 b l hm).2 hb
    simp only[dR,ho,het,ab];rw[hρ m (by simp[Op.operands]),hρ x (by simp[Op.operands]),hρ y (by simp[Op.operands]),hm,hd];simp only[h3,hn,lb,jQ];exact hk
   ·exact h1.elim
  ·exact h1.elim
 case call c=>
  have gi:∀{U ρ' b'},(∀x∈(Op.call c).operands,ρ' x=ρ x)→z6 id false o U ρ aG b'→kq b' ρ' c.args.toList=kq aG ρ c.args.toList:=fun{U ρ' b'}hρ hS=>
   Pu fun x hx=>by
    have hm:x∈(Op.call c).operands :=by
     simp only[Op.operands,Call.operands,Array.mem_append];exact .inr (by simpa using hx)
    rw[hρ x hm]
    exact(hS.mem (by simp[j1,ho]) x (by rw[ho];exact hm)).2.1 6
  have eM:∀x,x∈c.args.toList→x∈(Op.call c).operands :=fun x hx=>by
   simp only[Op.operands,Call.operands,Array.mem_append];exact .inr (by simpa using hx)
  split at h
  ·rename_i f hc
   have hf:f∈(Op.call c).operands :=by simp[Op.operands,Call.operands,hc]
   split at h
   ·rename_i s hs
    obtain⟨f',l,hK,Ub⟩:=aej h
    obtain⟨r,hk,oH,hr⟩:=PT hK
    refine⟨_,none,hk,.none,Nj oH,fun ρ' b' k' hρ hS hk=>?_⟩
    simp only[dR,ho,hc]
    rw[hρ f hf,hs]
    simp only[gi hρ hS]
    exact Ub _ (hr _ _ hk)
   ·rename_i g' first cap hs
    obtain⟨r,hk,oH,hr⟩:=PT h
    refine⟨_,none,hk,.none,Nj oH,fun ρ' b' k' hρ hS hk=>?_⟩
    simp only[dR,ho,hc]
    rw[hρ f hf,hs]
    simp only[gi hρ hS]
    have nk:=(hS.mem (by simp[j1,ho]) f (by rw[ho];exact hf)).2.1
    rw[hs]at nk
    obtain⟨e1,e2⟩:=aiV nk
    rw[e1,e2]
    exact hr _ _ hk
   ·exact h.elim
  ·rename_i recv name hc
   have hf:recv∈(Op.call c).operands :=by simp[Op.operands,Call.operands,hc]
   split at h
   ·rename_i s hs
    obtain⟨f',l,hK,Ub⟩:=adE h
    obtain⟨r,hk,oH,hr⟩:=PT hK
    refine⟨_,none,hk,.none,Nj oH,fun ρ' b' k' hρ hS hk=>?_⟩
    simp only[dR,ho,hc]
    rw[hρ recv hf,hs]
    simp only[gi hρ hS]
    exact Ub _ (hr _ _ hk)
   ·exact h.elim
  ·rename_i b hc
   split at h
   ·rename_i x xs t ts hx ht
    cases hs:ρ x with
    |a b n=>
     rw[hs]at h
     cases jR:isSlice P t with
     |false=>rw[jR]at h;exact h.elim
     |true=>
      rw[jR]at h
      refine⟨_,none,h,.none,kB,fun ρ' b' k' hρ hS hk=>?_⟩
      simp only[dR,ho,hc,hx,ht]
      rw[hρ x (eM x (by simp[hx])),hs];simp only[jR,cond_true];exact hk
    |_=>
     rw[hs]at h
     obtain⟨z,hz,h⟩:=aQ h
     refine⟨_,none,h,.none,kB,fun ρ' b' k' hρ hS hk=>?_⟩
     simp only[dR,ho,hc,hx,ht]
     rw[hρ x (eM x (by simp[hx])),hs];simp only[hz,ab];exact hk
   ·rename_i x y t u hx ht
    cases wL:Nat.beq t u with
    |false=>rw[wL]at h;exact h.elim
    |true=>
     rw[wL]at h
     simp only[cond_true]at h
     obtain⟨e',he,h⟩:=aQ h
     obtain⟨sz,aN,h⟩:=aQ h
     obtain⟨dh,nf,h⟩:=aQ h
     obtain⟨z,hz,h⟩:=aQ h
     cases eB:(Nat.blt 0 dh&&Nat.blt 0 sz&&Nat.beq z.length sz)with
     |false=>rw[eB]at h;exact h.elim
     |true=>
      rw[eB]at h
      obtain⟨r,hr,hb,h⟩:=aQ h
      refine⟨_,none,h,.none,kB,fun ρ' b' k' hρ hS hk=>?_⟩
      simp only[dR,ho,hc,hx,ht]
      rw[hρ x (eM x (by simp[hx])),hρ y (eM y (by simp[hx]))]
      simp only[wL,cond_true,he,aN,nf,hz,ab,eB,cb,hr];exact⟨hb,hk⟩
   ·rename_i x xs hx
    obtain⟨z,hz,h⟩:=aQ h
    refine⟨_,none,h,.none,kB,fun ρ' b' k' hρ hS hk=>?_⟩
    have e1:(xs.map fun y=>(ρ' y).cC)=xs.map fun y=>(ρ y).cC :=List.map_congr_left fun y hy=>by rw[hρ y (eM y (by simp[hx,hy]))]
    simp only[dR,ho,hc,hx]
    rw[hρ x (eM x (by simp[hx])),e1,hz];exact hk
   ·rename_i x xs hx
    obtain⟨z,hz,h⟩:=aQ h
    refine⟨_,none,h,.none,kB,fun ρ' b' k' hρ hS hk=>?_⟩
    have e1:(xs.map fun y=>(ρ' y).cC)=xs.map fun y=>(ρ y).cC :=List.map_congr_left fun y hy=>by rw[hρ y (eM y (by simp[hx,hy]))]
    simp only[dR,ho,hc,hx]
    rw[hρ x (eM x (by simp[hx])),e1,hz];exact hk
   ·exact h.elim
 all_goals exact h.elim
end
def fin(o:Oper)(src:Option (Nat×Slot))(s:Slot)(U:Option (Nat×af))(e:Env):Env:=⟨de (kV src e.ak) o.dst s,oK U e.boxes⟩
section
variable{P:Program}{gl:Nat→Option D}{C:bu}
def iR(gl:Nat→Option D)(e:Env)(x:Operand):Slot:=(Ab.bA gl e x).aa
theorem tj{o:Oper}{t:Nat}(h:Operand.tmp t∈o.op.operands):t∈tmpsOf o:=List.mem_filterMap.2 ⟨.tmp t,by simpa using h,rfl⟩
theorem zf{e e':Env}{o:Oper}(h:∀t∈tmpsOf o,e'.ak.getD t (.v .undef)=e.ak.getD t (.v .undef)){x:Operand}(hx:x∈o.op.operands):Ab.bA gl e' x=Ab.bA gl e x:=by
 cases x with
 |tmp t=>exact h t (tj hx)
 |_=>rfl
theorem Pv(s:Slot):s.aa.stays=s.stays:=by cases s<;>rfl
theorem aiW(x:SV):Ab.aa (Ab.aa x)=Ab.aa x:=by cases x<;>rfl
theorem aek{cs:List SV}{off:Nat}{y:SV}(hy:cs[off]? =some y):cs.map Ab.aa=(cs.set off (Ab.aa y)).map Ab.aa:=by
 apply List.ext_getElem?
 intro i
 rw[List.getElem?_map,List.getElem?_map,List.getElem?_set]
 by_cases h:off=i
 ·subst h
  obtain⟨hl,hq⟩:=List.getElem?_eq_some_iff.1 hy
  simp[hl,hq,aiW]
 ·simp[h]
theorem af7{aG:List af}{b:Nat}{cs gj:List SV}(hb:aG[b]? =some (.cells cs))(h:cs.map Ab.aa=gj.map Ab.aa):∀(n:Nat)(s:Slot),snap (aG.set b (.cells gj)) n s=snap aG n s:=by
 intro n
 induction n with
 |zero=>intro s;rfl
 |succ n ih=>
  intro s
  have hf:snap (aG.set b (.cells gj)) n=snap aG n:=funext ih
  cases s with
  |v x=>rfl
  |a b2 _ _=>
   simp only[snap]
   by_cases h2:b=b2
   ·subst h2
    rw[List.getElem?_set_self (List.getElem?_eq_some_iff.1 hb).1,hb]
    simp only[h]
   ·rw[List.getElem?_set_ne h2]
  |m _=>rfl
  |p b2 off=>
   simp only[snap]
   by_cases h2:b=b2
   ·subst h2
    rw[List.getElem?_set_self (List.getElem?_eq_some_iff.1 hb).1,hb]
    simp only[h]
   ·rw[List.getElem?_set_ne h2,hf]
  |c f first cap=>simp only[snap,hf]
  |t l=>rfl
theorem XZ{w:Bool}(hw:w=true){aG:List af}{b:Nat}{jr bx:af}(hb:aG[b]? =some jr)(h:∃cs gj,jr=.cells cs∧bx=.cells gj∧cs.map Ab.aa=gj.map Ab.aa)(s:Slot):oY w s aG (aG.set b bx):=by
 obtain⟨cs,gj,rfl,rfl,hm⟩:=h
 refine⟨fun b2 off hs=>⟨?_,fun h=>by rw[hw]at h;cases h⟩,fun n=>af7 hb hm n s,fun b2 l _=>?_⟩
 rotate_left
 ·by_cases h2:b=b2
  ·subst h2
   rw[List.getElem?_set_self (List.getElem?_eq_some_iff.1 hb).1,hb]
   simp
  ·rw[List.getElem?_set_ne h2]
 by_cases h2:b=b2
 ·subst h2
  rw[List.getElem?_set_self (List.getElem?_eq_some_iff.1 hb).1,hb]
  exact .inr ⟨gj,cs,rfl,rfl,hm.symm⟩
 ·rw[List.getElem?_set_ne h2]
  exact .refl _
def IE(gl:Nat→Option D)(aI:Bool)(o:Oper)(e:Env)(src:Option (Nat×Slot))(s:Slot)(U:Option (Nat×af)):Prop:=
 ∀(K B:Nat→Prop),(∀b,K b→B b)→(∀x∈o.op.operands,(aI=false→addrOf o≠some x)→eJ K (iR gl e x))→(∀t x y,o.op=.store t x y→eJ K (iR gl e y))→
  (∀b s,B b→e.boxes[b]? =some (.one s)→eJ K s)→iY o=false→eJ K s∧(∀t d,src=some (t,d)→eJ K d)∧∀b s',U=some (b,.one s')→eJ K s'
theorem aaL{o:Oper}{e:Env}{x:SV}{U:Option (Nat×af)}(hU:∀b s',U≠some (b,.one s')):IE gl true o e none (.v x) U:=fun _ _ _ _ _ _ _=>⟨.v _,fun _ _ h=>(by cases h),fun b s' h=>absurd h (hU b s')⟩
theorem RJ{o:Oper}{e:Env}{t:Nat}{s:Slot}(ht:Operand.tmp t∈o.op.operands)(hs:∀K,eJ K (e.ak.getD t (.v .undef))→eJ K s):IE gl true o e (some (t,(e.ak.getD t (.v .undef)).aa)) s none:=fun K _ _ h _ _ _=>by
 have h1:eJ K (e.ak.getD t (.v .undef)).aa :=h (.tmp t) ht (fun h=>by cases h)
 exact⟨hs K h1.anA,fun t' d hd=>by cases hd;exact h1,fun _ _ h=>by cases h⟩
theorem aaM:∀{rs:List SV}{k:List SV→Prop},k rs→B8 rs.length k
 |[],_,h=>h
 |r::rs,k,h=>⟨r,aaM (rs:=rs) (k:=fun l=>k (r::l)) h⟩
theorem afc{id:Nat}{o:Oper}{e:Env}{k:Env→Prop}(h:om P gl C o e k):
  ∃src s U,k (fin o src s U e)∧zM id o true (iR gl e) e.boxes U∧IE gl true o e src s U∧(∀t d,src=some (t,d)→t∈tmpsOf o∧d.stays=(e.ak.getD t (.v .undef)).stays)∧
   ∀(e':Env)(k':Env→Prop),(∀t∈tmpsOf o,e'.ak.getD t (.v .undef)=e.ak.getD t (.v .undef))→z6 id true o U (iR gl e) e.boxes e'.boxes→k' (fin o src s U e')→om P gl C o e' k':=by
 unfold om at h
 split at h
 ·rename_i t ho
  refine⟨some (t,_),_,none,h,.none,RJ (by rw[ho];simp[Op.operands]) (fun _ h=>h),fun t' d hd=>by cases hd;exact⟨tj (by rw[ho];simp[Op.operands]),Pv _⟩,fun e' k' hl _ hk=>?_⟩
  simp only[om,ho];rw[hl t (tj (by rw[ho];simp[Op.operands]))];exact hk
 ·rename_i t ho
  refine⟨some (t,_),_,none,h,.none,RJ (by rw[ho];simp[Op.operands]) (fun _ h=>h),fun t' d hd=>by cases hd;exact⟨tj (by rw[ho];simp[Op.operands]),Pv _⟩,fun e' k' hl _ hk=>?_⟩
  simp only[om,ho];rw[hl t (tj (by rw[ho];simp[Op.operands]))];exact hk
 ·rename_i t i ho
  split at h
  ·rename_i vs hs
   split at h
   ·rename_i r hr
    refine⟨some (t,_),_,none,h,.none,(fun K _ _ _ _ _ _=>⟨.v _,fun t' d hd=>by cases hd;exact .t _,fun _ _ h=>by cases h⟩),fun t' d hd=>by cases hd;exact⟨tj (by rw[ho];simp[Op.operands]),by rw[hs];rfl⟩,fun e' k' hl _ hk=>?_⟩
    simp only[om,ho];rw[hl t (tj (by rw[ho];simp[Op.operands])),hs];simp only[hr];exact hk
   ·exact h.elim
  ·exact h.elim
 ·rename_i ty x ho
  split at h
  ·rename_i b off hs
   obtain⟨ly,hl,h⟩:=aQ h
   cases oJ:ly.1 with
   |true=>rw[oJ]at h;exact h.elim
   |false=>
    rw[oJ]at h
    simp only[cond_false]at h
    split at h
    ·rename_i cs cK
     obtain⟨y,hy,h⟩:=aQ h
     refine⟨none,_,some (b,_),h,.wr b _ _ (by simp[j1,ho]) (.inr rfl) x (by rw[ho];simp[Op.operands]) off (.inl hs) cK (by simp) (by simp[af.isMap]) (fun _ _=>⟨cs,_,rfl,rfl,aek hy⟩) (fun t' y' z' h=>by rw[ho]at h;cases h),aaL (by simp),fun _ _ h=>(by cases h),fun e' k' qU hS hk=>?_⟩
     have hb:=((hS.mem (by simp[j1,ho]) x (by rw[ho];simp[Op.operands])).1 b off hs).2 (by simp)
     simp only[om,ho,hl,ab,oJ,cond_false]
     rw[zf qU (x:=x) (by rw[ho];simp[Op.operands]),hs]
     simp only[hb,cK,hy];exact hk
    ·exact h.elim
  ·exact h.elim
 ·rename_i ty x t ho
  split at h
  ·rename_i b off y hs hy hd
   obtain⟨sz,aN,h⟩:=aQ h
   cases hb:Nat.beq sz 1 with
   |false=>rw[hb]at h;exact h.elim
   |true=>
    rw[hb]at h
    simp only[cond_true]at h
    split at h
    ·rename_i cs cK
     obtain⟨l,hl,h1,h2,h⟩:=aQ h
     refine⟨some (t,.v (aa y)),.t [],some (b,.cells (setAt cs off l)),?_,.wr b _ _ (by simp[j1,ho]) (.inr rfl) x (by rw[ho];simp[Op.operands]) off (.inl hs) cK (by simp) (by simp[af.isMap]) (fun _ h=>by simp[lB,ho]at h) (fun t' y' z' h=>by rw[ho]at h;cases h;rfl),(fun K _ _ _ _ _ _=>⟨.t _,fun t' d hd=>by cases hd;exact .v _,fun _ _ h=>by cases h⟩),fun t' d hd=>by cases hd;exact⟨tj (by rw[ho];simp[Op.operands]),by rw[hy];rfl⟩,fun e' k' qU hS hk=>?_⟩
     ·simp only[fin,hd,de,kV,oK];exact h
     ·have eV:=((hS.mem (by simp[j1,ho]) x (by rw[ho];simp[Op.operands])).1 b off hs).2 (by simp)
      simp only[fin,hd,de,kV,oK]at hk
      simp only[om,ho]
      rw[zf qU (x:=x) (by rw[ho];simp[Op.operands]),hs,qU t (tj (by rw[ho];simp[Op.operands])),hy,hd]
      simp only[aN,ab,hb,cond_true,eV,cK,hl];exact⟨h1,h2,hk⟩
    ·exact h.elim
  ·exact h.elim
 ·rename_i t n ps ho
  obtain⟨e',he,h1⟩:=aQ h
  obtain⟨ly,oJ,h2⟩:=aQ h1
  obtain⟨z,hz,h3⟩:=aQ h2
  obtain⟨l,hl,h4⟩:=aQ h3
  cases hc:(Nat.ble (n*ly.2) (2^24)&&Nat.blt 0 ly.2&&Nat.beq z.length ly.2)with
  |false=>rw[hc]at h4;exact h4.elim
  |true=>
   rw[hc,cond_true]at h4
   refine⟨none,_,none,h4.2,.none,aaL (by simp),fun _ _ h=>(by cases h),fun e2 k' qU hS hk=>?_⟩
   have hpd:rV (fun x=>(Ab.bA gl e2 x).aa) ps.toList=some l:=
    (KI (fun p hp=>by
      have hm:p.2∈o.op.operands:=by rw[ho];simp only[Op.operands,List.mem_toArray,List.mem_map];exact⟨p,hp,rfl⟩
      show(Ab.bA gl e2 p.2).aa =(Ab.bA gl e p.2).aa
      rw[zf qU hm])).trans hl
   simp only[om,ho,he,oJ,hz,hpd,hc,cond_true,ab];exact⟨h4.1,hk⟩
 ·rename_i c ho
  split at h
  ·rename_i t y ty u hc hx ht
   have hZ:Operand.tmp t∈o.op.operands:=by
    rw[ho];simp only[Op.operands,Call.operands,Array.mem_append];exact .inr (by rw[←Array.mem_toList_iff,hx];simp)
   have Ch:y∈o.op.operands:=by
    rw[ho];simp only[Op.operands,Call.operands,Array.mem_append];exact .inr (by rw[←Array.mem_toList_iff,hx];simp)
   cases wL:Nat.beq ty u with
   |false=>rw[wL]at h;exact h.elim
   |true=>
    rw[wL]at h
    simp only[cond_true]at h
    obtain⟨e',he,h⟩:=aQ h
    obtain⟨sz,aN,h⟩:=aQ h
    obtain⟨dh,nf,h⟩:=aQ h
    obtain⟨z,hz,h⟩:=aQ h
    cases eB:(Nat.blt 0 dh&&Nat.blt 0 sz&&Nat.beq z.length sz)with
    |false=>rw[eB]at h;exact h.elim
    |true=>
     rw[eB]at h
     obtain⟨r,hr,hb,h⟩:=aQ h
     refine⟨some (t,_),_,none,h,.none,RJ hZ (fun _ _=>.v _),fun t' d hd=>by cases hd;exact⟨tj hZ,Pv _⟩,fun e' k' qU hS hk=>?_⟩
     simp only[om,ho,hc,hx,ht]
     rw[qU t (tj hZ),zf qU Ch]
     simp only[wL,cond_true,he,aN,nf,hz,ab,eB,cb,hr];exact⟨hb,hk⟩
  ·rename_i f hc
   split at h
   ·rename_i t g' hp hg
    split at h
    ·rename_i y hy
     have eM:∀x∈c.args.toList,x∈o.op.operands:=fun x hx=>by
      rw[ho];simp only[Op.operands,Call.operands,Array.mem_append];exact .inr (Array.mem_toList_iff.1 hx)
     have hZ:Operand.tmp t∈o.op.operands:=eM _ (List.mem_of_getElem? hp)
     have hmf:f∈o.op.operands:=by
      rw[ho];simp only[Op.operands,Call.operands,hc,Array.mem_append];left;simp
     obtain⟨rs,hlen,bk,hC,hd,hk⟩:=Hy h
     refine⟨some (t,.v bk),Dh rs,none,hk,.none,(fun K _ _ _ _ _ _=>⟨(by unfold Dh;split<;>constructor),fun t' d hd=>by cases hd;exact .v _,fun _ _ h=>by cases h⟩),fun t' d hd=>by cases hd;exact⟨tj hZ,by rw[hy];rfl⟩,fun e' k' qU hS hk=>?_⟩
     have gi:kq e'.boxes (fun x=>(Ab.bA gl e' x).aa) c.args.toList=kq e.boxes (fun x=>(Ab.bA gl e x).aa) c.args.toList:=Pu fun x hx=>by
      rw[zf qU (eM x hx)]
      exact(hS.mem (by simp[j1,ho]) x (eM x hx)).2.1 6
     simp only[om,ho,hc]
     rw[hp,zf qU hmf,hg]
     simp only[]
     rw[qU t (tj hZ),hy,gi]
     simp only[]
     rw[←hlen]
     exact aaM ⟨bk,hC,hd,hk⟩
    ·exact h.elim
   ·exact h.elim
  ·exact h.elim
 ·exact h.elim
theorem af8{id:Nat}{aI:Bool}{o:Oper}{e:Env}{k:Env→Prop}(h:qH P gl C id aI o e k):
  ∃src s U,k (fin o src s U e)∧zM id o aI (iR gl e) e.boxes U∧IE gl aI o e src s U∧(∀t d,src=some (t,d)→aI=true∧t∈tmpsOf o∧d.stays=(e.ak.getD t (.v .undef)).stays)∧
   ∀(e':Env)(k':Env→Prop),(∀t∈tmpsOf o,e'.ak.getD t (.v .undef)=e.ak.getD t (.v .undef))→z6 id aI o U (iR gl e) e.boxes e'.boxes→k' (fin o src s U e')→qH P gl C id aI o e' k':=by
 unfold qH at h
 cases aI<;>simp only[cond_true,cond_false]at h
 ·obtain⟨s,U,hk,hu,oH,hs⟩:=ahj h
  refine⟨none,s,U,hk,hu,fun K B Gb h1 h2 h3 h4=>⟨(oH K B Gb (fun x hx ha=>h1 x hx fun _=>ha) h2 h3).1 h4,fun _ _ h=>(by cases h),fun b s' hU=>(oH K B Gb (fun x hx ha=>h1 x hx fun _=>ha) h2 h3).2 b s' hU h4⟩,fun t d h=>(by cases h),?_⟩
  intro e' k' hl hS hk
  unfold qH
  simp only[cond_false]
  exact hs _ _ _ (fun x hx=>by rw[zf hl hx]) hS hk
 ·obtain⟨src,s,U,hk,hu,oH,Ci,hs⟩:=afc (id:=id) h
  refine⟨src,s,U,hk,hu,oH,fun t d h=>⟨rfl,Ci t d h⟩,fun e' k' hl hS hk=>?_⟩
  unfold qH
  simp only[cond_true]
  exact hs e' k' hl hS hk
def wg(all:List Oper)(o:Oper)(e:Env):Option Bool:=match o.guard with
 |none=>some true
 |some (j,want)=>(match(match all[j]? with|some g=>g.dst|none=>none)with
  |some t=>(match e.ak.getD t (.v .undef)with
   | .v (.d (.bool c))=>some (c==want)
   | .t _=>some false
   |_=>none)
  |none=>none)
theorem zg{e:Env}{t:Nat}{c:Bool}(h:e.ak.getD t (.v .undef)=.v (.d (.bool c))):e.BQ t c=e:=by
 unfold Env.BQ
 rcases Nat.lt_or_ge t e.ak.length with hl|hl
 ·rw[List.getD_eq_getElem?_getD,List.getElem?_eq_getElem hl]at h
  simp only[Option.getD_some]at h
  rw[←h,List.set_getElem_self]
 ·rw[List.getD_eq_getElem?_getD,List.getElem?_eq_none hl]at h
  simp at h
theorem CA{all:List Oper}{o:Oper}{e:Env}{A B:Env→Prop}:C1 all o e A B↔(match wg all o e with|some true=>A e|some false=>B e|none=>False):=by
 unfold C1 wg
 cases hg:o.guard with
 |none=>exact Iff.rfl
 |some p=>
  obtain⟨j,want⟩:=p
  simp only
  cases hj:all[j]? with
  |none=>exact Iff.rfl
  |some q=>
   simp only
   cases hq:q.dst with
   |none=>exact Iff.rfl
   |some t=>
    simp only
    cases hx:e.ak.getD t (.v .undef)with
    |v x=>
     cases x with
     |d y=>
      cases y with
      |bool c=>
       have h1:=zg hx
       simp only[ar]
       cases c<;>cases want<;>simp[h1]
      |_=>exact Iff.rfl
     |_=>exact Iff.rfl
    |_=>exact Iff.rfl
def pO(P:Program)(gl:Nat→Option D)(C:bu)(all:List Oper)(id:Nat)(aI:Bool)(o:Oper)(e:Env)(k:Env→Prop):Prop:=
 C1 all o e (fun e'=>qH P gl C id aI o e' k) (fun e'=>k ⟨de e'.ak o.dst (.t []),e'.boxes⟩)
structure Out(P:Program)(gl:Nat→Option D)(C:bu)(ops:Array Oper)(id:Nat)(aI:Bool)(o:Oper)(e:Env)(src:Option (Nat×Slot))(s:Slot)(U:Option (Nat×af)):Prop where
 uf:zM id o aI (iR gl e) e.boxes U
 Dp:∀t d,src=some (t,d)→aI=true∧t∈tmpsOf o
 SQ:∀(e':Env)(k':Env→Prop),(∀t∈o.looksAt ops,e'.ak.getD t (.v .undef)=e.ak.getD t (.v .undef))→z6 id aI o U (iR gl e) e.boxes e'.boxes→k' (fin o src s U e')→pO P gl C ops.toList id aI o e' k'
theorem X0{ops:Array Oper}{o:Oper}{e e':Env}(h:∀t∈o.looksAt ops,e'.ak.getD t (.v .undef)=e.ak.getD t (.v .undef)):wg ops.toList o e'=wg ops.toList o e:=by
 unfold wg
 split
 ·rfl
 ·rename_i j want hg
  split
  ·rename_i t ht
   have hm:t∈o.looksAt ops:=by
    refine List.mem_append_right _ ?_
    rw[hg]
    simp only[Option.mem_toList]
    rw[Array.getElem?_toList]at ht
    cases hj:ops[j]? with
    |none=>rw[hj]at ht;cases ht
    |some g=>rw[hj]at ht;exact ht
   rw[h t hm]
  ·rfl
theorem PU{ops:Array Oper}{o:Oper}{t:Nat}(h:t∈tmpsOf o):t∈o.looksAt ops:=List.mem_append_left _ h
theorem CB{ops:Array Oper}{id:Nat}{aI:Bool}{o:Oper}{e:Env}{k:Env→Prop}(h:pO P gl C ops.toList id aI o e k):∃src s U,k (fin o src s U e)∧Out P gl C ops id aI o e src s U∧(∀t d,src=some (t,d)→d.stays=(e.ak.getD t (.v .undef)).stays)∧IE gl aI o e src s U∧(wg ops.toList o e=some true∨(o.guard≠none∧s=.t []∧src=none∧U=none)):=by
 have h':=CA.1 h
 split at h'
 ·rename_i hg
  obtain⟨src,s,U,hk,hu,oH,Ci,hs⟩:=af8 h'
  refine⟨src,s,U,hk,⟨hu,fun t d h=>⟨(Ci t d h).1,(Ci t d h).2.1⟩,fun e' k' hl hS hk=>?_⟩,fun t d h=>(Ci t d h).2.2,oH,.inl hg⟩
  refine CA.2 ?_
  rw[X0 hl,hg]
  exact hs e' k' (fun t ht=>hl t (PU ht)) hS hk
 ·rename_i hg
  refine⟨none,.t [],none,h',⟨.none,fun t d h=>(by cases h),?_⟩,fun t d h=>(by cases h),fun K B _ _ _ _ _=>⟨.t _,fun _ _ h=>(by cases h),fun _ _ h=>(by cases h)⟩,.inr ⟨fun hn=>?_,rfl,rfl,rfl⟩⟩
  rotate_left
  ·unfold wg at hg;rw[hn]at hg;cases hg
  intro e' k' hl hS hk
  refine CA.2 ?_
  rw[X0 hl,hg]
  exact hk
 ·exact h'.elim
theorem Ws{o:Oper}(h:iY o=true):j1 o=false:=by
 unfold iY at h
 unfold j1
 split at h
 ·rename_i ho;simp[ho]
 ·rename_i ho;simp[ho]
 ·rename_i ho;simp[ho]
 ·cases h
theorem oY.refl{q:Bool}(s:Slot)(b:List af):oY q s b b:=⟨fun _ _ _=>⟨.refl _,fun _=>rfl⟩,fun _=>rfl,fun _ _ _=>Iff.rfl⟩
theorem oY.trans{q:Bool}{s:Slot}{a b c:List af}(h:oY q s a b)(k:oY q s b c):oY q s a c:=
 ⟨fun x off hx=>⟨(k.1 x off hx).1.trans (h.1 x off hx).1,fun hq=>((k.1 x off hx).2 hq).trans ((h.1 x off hx).2 hq)⟩,fun n=>(k.2.1 n).trans (h.2.1 n),fun b l hs=>(k.2.2 b l hs).trans (h.2.2 b l hs)⟩
theorem oY.symm{q:Bool}{s:Slot}{a b:List af}(h:oY q s a b):oY q s b a:=⟨fun x off hx=>⟨(h.1 x off hx).1.symm,fun hq=>((h.1 x off hx).2 hq).symm⟩,fun n=>(h.2.1 n).symm,fun b l hs=>(h.2.2 b l hs).symm⟩
theorem Out.akF{ops:Array Oper}{id:Nat}{aI:Bool}{o:Oper}{e:Env}{src:Option (Nat×Slot)}{s:Slot}{U:Option (Nat×af)}(h:Out P gl C ops id aI o e src s U)
  (hm:iY o=true)(hU:U≠none):∃bx,U=some (id,bx)∧bx≠.none ∧e.boxes[id]? =some .none :=by
 cases h.uf with
 |none=>exact absurd rfl hU
 |mk bx _ hn hb=>exact⟨bx,rfl,hb,hn⟩
 |wr b bx jr h'=>rw[Ws hm]at h';cases h'
theorem Out.run{ops:Array Oper}{id:Nat}{aI:Bool}{o:Oper}{e:Env}{src:Option (Nat×Slot)}{s:Slot}{U:Option (Nat×af)}(h:Out P gl C ops id aI o e src s U){k:Env→Prop}
  (hk:k (fin o src s U e)):pO P gl C ops.toList id aI o e k:=
 h.SQ e k (fun _ _=>rfl) ⟨fun _ x _=>.refl _ _,fun hm hU=>(h.akF hm hU).choose_spec.2.2⟩ hk
def Good(gl:Nat→Option D)(e:Env):Prop:=∃w0 au a w g,Inv gl w0 au e a w g
theorem G0{w0:World}{au:S0}{e:Env}{a:Act}{w:World}{g:Gh}(hI:Inv gl w0 au e a w g){id:Nat}(gJ:e.boxes[id]? =some .none)(bx:af):
  ∀(n:Nat){O:Nat→Nat→Nat→Nat→Prop}{s:Slot}{v:Value},cQ w0.heap.size w g O s v→((∀b off,s=.p b off→b≠id)∧∀b,s=.m b→b≠id)∧snap (e.boxes.set id bx) n s=snap e.boxes n s:=by
 have bg:∀b ao,g.bx[b]? =some (some ao)→b≠id:=by
  rintro b ao hb rfl
  exact hI.boxes b .none ao gJ hb
 have my:∀{O:Nat→Nat→Nat→Nat→Prop}{s:Slot}{v:Value},cQ w0.heap.size w g O s v→(∀b off,s=.p b off→b≠id)∧∀b,s=.m b→b≠id:=by
  intro O s v h
  refine⟨fun b off hs=>?_,fun b hs=>?_⟩
  ·subst hs
   obtain⟨ao,_,hb⟩:=h.pN
   exact bg b ao hb
  ·subst hs
   cases h with
   |m _ _ ao hb=>exact bg b ao hb
 intro n
 induction n with
 |zero=>
  intro O s v h
  exact⟨my h,rfl⟩
 |succ n ih=>
  intro O s v h
  refine⟨my h,?_⟩
  cases h with
  |v _ x _ h=>rfl
  |a _ b n' sz v hm hb=>
   obtain⟨ao,cap,hb,_⟩:=hb
   simp only[snap]
   rw[List.getElem?_set_ne (fun h=>bg b ao hb h.symm)]
  |m=>rfl
  |p _ b off ao hb=>
   simp only[snap]
   rw[List.getElem?_set_ne (fun h=>bg b ao hb h.symm)]
   cases eI:e.boxes[b]? with
   |none=>rfl
   |some bxv=>
    cases bxv with
    |none=>rfl
    |map l=>rfl
    |cells cs=>rfl
    |one s'=>
     simp only
     obtain⟨_,c,t,hc,_,aN,hr⟩:=hI.boxes b _ ao eI hb
     have sQ:c[0]? =some (c[0]'(by omega)):=by simp
     rw[(ih (hr _ sQ)).2]
  |c _ f first cap fv cv hf hc rf rc=>
   simp only[snap]
   have abP:∀(l:List Slot)(vs:Array Value),l.length=vs.size→(∀(i:Nat)x v,l[i]? =some x→vs[i]? =some v→cQ w0.heap.size w g (fun _ _ _ _=>False) x v)→
     lC (snap (e.boxes.set id bx) n) l=lC (snap e.boxes n) l:=by
    intro l vs hl hr
    apply List.ext_getElem?
    intro i
    rw[(Eo _ l).2,(Eo _ l).2]
    cases hi:l[i]? with
    |none=>rfl
    |some x=>
     have aP:i<vs.size:=by rw[←hl];exact(List.getElem?_eq_some_iff.1 hi).1
     simp only[Option.map_some]
     rw[(ih (hr i x vs[i] hi (by simp))).2]
   rw[abP first fv hf rf,abP cap cv hc rc]
  |t=>rfl
theorem aaN{q:Bool}{e:Env}(hG:Good gl e){id:Nat}(gJ:e.boxes[id]? =some .none)(bx:af)(x:Operand):oY q (iR gl e x) e.boxes (e.boxes.set id bx):=by
 obtain⟨w0,au,a,w,g,hI⟩:=hG
 have h:=hI.bA x
 refine⟨fun b off hs=>?_,fun n=>(G0 hI gJ bx n h).2,fun b l hs=>?_⟩
 ·have:=(G0 hI gJ bx 0 h).1.1 b off hs
  rw[List.getElem?_set_ne (fun h=>this h.symm)]
  exact⟨.refl _,fun _=>rfl⟩
 ·have:=(G0 hI gJ bx 0 h).1.2 b hs
  rw[List.getElem?_set_ne (fun h=>this h.symm)]
theorem aaO{e:Env}(hG:Good gl e){x:Operand}{b off:Nat}(hp:iR gl e x=.p b off∨iR gl e x=.m b):e.boxes[b]? ≠some .none :=by
 intro gJ
 obtain⟨w0,au,a,w,g,hI⟩:=hG
 rcases hp with hp|hp
 ·exact(G0 hI gJ .none 0 (hI.bA x)).1.1 b off hp rfl
 ·exact(G0 hI gJ .none 0 (hI.bA x)).1.2 b hp rfl
theorem dB{l:List Slot}{i j:Nat}{x d:Slot}(h:i≠j):(l.set i x).getD j d=l.getD j d:=by
 rw[List.getD_eq_getElem?_getD,List.getElem?_set_ne h,←List.getD_eq_getElem?_getD]
theorem YN{o:Oper}{aI:Bool}{src:Option (Nat×Slot)}{s:Slot}{U:Option (Nat×af)}{e:Env}(SR:∀t d,src=some (t,d)→aI=true∧t∈tmpsOf o){t:Nat}(ht:t∉j3 aI o):
  (fin o src s U e).ak.getD t (.v .undef)=e.ak.getD t (.v .undef):=by
 have h1:∀d,o.dst=some d→d≠t:=fun d hd h=>ht (by subst h;simp[j3,hd])
 have h2:∀u d,src=some (u,d)→u≠t:=fun u d hd h=>by
  obtain⟨h3,h4⟩:=SR u d hd
  subst h
  exact ht (by simp[j3,h3,h4])
 unfold fin de kV
 simp only
 cases hd:o.dst with
 |none=>
  simp only
  cases hs:src with
  |none=>rfl
  |some p=>exact dB (h2 p.1 p.2 hs)
 |some d=>
  simp only
  rw[dB (h1 d hd)]
  cases hs:src with
  |none=>rfl
  |some p=>exact dB (h2 p.1 p.2 hs)
theorem pH(l:List Slot){i j:Nat}(x y:Slot)(h:i≠j):(l.set i x).set j y=(l.set j y).set i x:=List.set_comm _ _ h
theorem afd{ox oy:Oper}{lx ly:Bool}{sx sy:Option (Nat×Slot)}{rx ry:Slot}(hx:∀t d,sx=some (t,d)→lx=true∧t∈tmpsOf ox)(hy:∀t d,sy=some (t,d)→ly=true∧t∈tmpsOf oy)
  (hd:∀t,t∈j3 lx ox→t∉j3 ly oy)(l:List Slot):de (kV sx (de (kV sy l) oy.dst ry)) ox.dst rx=de (kV sy (de (kV sx l) ox.dst rx)) oy.dst ry:=by
 have a1:∀d,ox.dst=some d→d∈j3 lx ox:=fun d h=>by simp[j3,h]
 have a2:∀d,oy.dst=some d→d∈j3 ly oy:=fun d h=>by simp[j3,h]
 have a3:∀t d,sx=some (t,d)→t∈j3 lx ox:=fun t d h=>by obtain⟨h1,h2⟩:=hx t d h;simp[j3,h1,h2]
 have a4:∀t d,sy=some (t,d)→t∈j3 ly oy:=fun t d h=>by obtain⟨h1,h2⟩:=hy t d h;simp[j3,h1,h2]
 have ne:∀{s t:Nat},s∈j3 lx ox→t∈j3 ly oy→s≠t:=fun h1 h2 h=>hd _ h1 (h▸h2)
 cases Jz:ox.dst with
 |none=>
  cases Gc:oy.dst with
  |none=>
   cases sx with
   |none=>rfl
   |some p=>
    cases sy with
    |none=>rfl
    |some q=>simp only[de,kV];exact pH _ _ _ (ne (a3 _ _ rfl) (a4 _ _ rfl)).symm
  |some d=>
   cases sx with
   |none=>rfl
   |some p=>
    cases sy with
    |none=>simp only[de,kV];exact pH _ _ _ (ne (a3 _ _ rfl) (a2 _ Gc)).symm
    |some q=>simp only[de,kV];rw[pH _ _ _ (ne (a3 _ _ rfl) (a2 _ Gc)).symm,pH l _ _ (ne (a3 _ _ rfl) (a4 _ _ rfl)).symm]
 |some c=>
  cases Gc:oy.dst with
  |none=>
   cases sy with
   |none=>rfl
   |some q=>
    cases sx with
    |none=>simp only[de,kV];exact pH _ _ _ (ne (a1 _ Jz) (a4 _ _ rfl)).symm
    |some p=>simp only[de,kV];rw[pH l _ _ (ne (a3 _ _ rfl) (a4 _ _ rfl)).symm,pH _ _ _ (ne (a1 _ Jz) (a4 _ _ rfl)).symm]
  |some d=>
   have yS:=ne (a1 _ Jz) (a2 _ Gc)
   cases sx with
   |none=>
    cases sy with
    |none=>simp only[de,kV];exact pH _ _ _ yS.symm
    |some q=>simp only[de,kV];rw[pH _ _ _ yS.symm,pH l _ _ (ne (a1 _ Jz) (a4 _ _ rfl)).symm]
   |some p=>
    cases sy with
    |none=>simp only[de,kV];rw[pH l _ _ (ne (a3 _ _ rfl) (a2 _ Gc)).symm,pH _ _ _ yS.symm]
    |some q=>
     simp only[de,kV]
     rw[pH _ _ _ (ne (a3 _ _ rfl) (a2 _ Gc)).symm,pH l _ _ (ne (a3 _ _ rfl) (a4 _ _ rfl)).symm,pH _ _ _ yS.symm,pH (l.set _ _) _ _ (ne (a1 _ Jz) (a4 _ _ rfl)).symm]
structure MN(ops:Array Oper)(lx ly:Bool)(x y:Oper):Prop where
 d1:∀t∈j3 lx x,t∉y.looksAt ops
 d2:∀t∈j3 lx x,t∉j3 ly y
 d3:∀t∈j3 ly y,t∉x.looksAt ops
structure SS(lx ly:Bool)(x y:Oper):Prop where
 m1:¬(lB x=true∧j1 y=true)
 m2:¬(lB y=true∧j1 x=true)
 m3:¬(lx=true∧ly=true∧j1 x=true∧j1 y=true)
theorem af9{ops:Array Oper}{lx ly:Bool}{x y:Oper}(h:indep ops lx ly x y=true):MN ops lx ly x y∧SS lx ly x y:=by
 simp only[indep,Bool.and_eq_true,List.all_eq_true,Bool.not_eq_true',List.contains_eq_mem,decide_eq_false_iff_not,Bool.and_eq_false_iff]at h
 obtain⟨⟨⟨⟨h1,h2⟩,h3⟩,h4⟩,h5⟩:=h
 refine⟨⟨fun t ht=>(h1 t ht).1,fun t ht=>(h1 t ht).2,fun t ht=>h2 t ht⟩,⟨?_,?_,?_⟩⟩
 ·rintro⟨a,b⟩;rcases h3 with h|h<;>simp_all
 ·rintro⟨a,b⟩;rcases h4 with h|h<;>simp_all
 ·rintro⟨a,b,c,d⟩;rcases h5 with((h|h)|h)|h<;>simp_all
def Db(gl:Nat→Option D)(lx:Bool)(x y:Oper)(e:Env):Prop:=(lB x=true∨lx=true)→∀z∈x.op.operands,(∀t u v,x.op=.store t u v→z=u)→∀b off,(iR gl e z=.p b off∨iR gl e z=.m b)→
 (∀z'∈y.op.operands,∀q fR,oY q (iR gl e z') e.boxes (e.boxes.set b fR))∧
 ∀z'∈y.op.operands,(∀t u v,y.op=.store t u v→z'=u)→∀tQ,iR gl e z'≠.p b tQ∧iR gl e z'≠.m b
theorem aiX{ops:Array Oper}{ix iy:Nat}{lx ly:Bool}{x y:Oper}{e:Env}{sx sy:Option (Nat×Slot)}{rx ry:Slot}{Ux Uy:Option (Nat×af)}(hG:Good gl e)(hi:MN ops lx ly x y)(hm:SS lx ly x y∨(Db gl lx x y e∧Db gl ly y x e))
  (hx:Out P gl C ops ix lx x e sx rx Ux)(hy:Out P gl C ops iy ly y (fin x sx rx Ux e) sy ry Uy):
  Out P gl C ops iy ly y e sy ry Uy∧Out P gl C ops ix lx x (fin y sy ry Uy e) sx rx Ux∧fin y sy ry Uy (fin x sx rx Ux e)=fin x sx rx Ux (fin y sy ry Uy e):=by
 have ld:=hm
 have ly1:∀t∈y.looksAt ops,(fin x sx rx Ux e).ak.getD t (.v .undef)=e.ak.getD t (.v .undef):=fun t ht=>YN hx.Dp fun h=>hi.d1 t h ht
 have lx1:∀t∈x.looksAt ops,(fin y sy ry Uy e).ak.getD t (.v .undef)=e.ak.getD t (.v .undef):=fun t ht=>YN hy.Dp fun h=>hi.d3 t h ht
 have ry1:∀z∈y.op.operands,iR gl (fin x sx rx Ux e) z=iR gl e z:=fun z hz=>by unfold iR;rw[zf (fun t ht=>ly1 t (PU ht)) hz]
 have rx1:∀z∈x.op.operands,iR gl (fin y sy ry Uy e) z=iR gl e z:=fun z hz=>by unfold iR;rw[zf (fun t ht=>lx1 t (PU ht)) hz]
 have eI:(fin x sx rx Ux e).boxes =oK Ux e.boxes:=rfl
 have nf:(fin y sy ry Uy e).boxes =oK Uy e.boxes:=rfl
 have yU:zM iy y ly (iR gl e) e.boxes Uy:=by
  cases hy.uf with
  |none=>exact .none
  |mk bx h hn hb=>
   refine .mk bx h ?_ hb
   rw[eI]at hn
   cases hx.uf with
   |none=>exact hn
   |mk fR h' ue eA=>
    simp only[oK]at hn
    by_cases DN:ix=iy
    ·subst DN
     rw[List.getElem?_set_self (List.getElem?_eq_some_iff.1 ue).1]at hn
     exact absurd (Option.some.inj hn) eA
    ·rwa[List.getElem?_set_ne DN]at hn
   |wr b fR jr h' lV z hz off hp ho hold eA=>
    simp only[oK]at hn
    by_cases DN:b=iy
    ·subst DN
     rw[List.getElem?_set_self (List.getElem?_eq_some_iff.1 ho).1]at hn
     exact absurd (Option.some.inj hn) eA.1
    ·rwa[List.getElem?_set_ne DN]at hn
  |wr b bx jr h hw z hz off hp ho hold hb uW ha=>
   rw[ry1 z hz]at hp
   rw[eI]at ho
   cases hx.uf with
   |none=>exact .wr b bx jr h hw z hz off hp ho hold hb uW ha
   |mk fR h' ue eA=>
    have bg:ix≠b:=by
     rintro rfl
     exact aaO hG hp ue
    simp only[oK]at ho
    rw[List.getElem?_set_ne bg]at ho
    exact .wr b bx jr h hw z hz off hp ho hold hb uW ha
   |wr b' fR IF h' lV z' je tQ wC cg Fp eA anB oL=>
    rcases hm with hm|hm
    ·exfalso
     rcases lV with lV|lV
     ·exact hm.m1 ⟨lV,h⟩
     ·rcases hw with hw|hw
      ·exact hm.m2 ⟨hw,h'⟩
      ·exact hm.m3 ⟨lV,hw,h',h⟩
    ·have bg:b'≠b:=by
      rintro rfl
      have:=(hm.1 lV z' je oL b' tQ wC).2 z hz ha off
      rcases hp with hp|hp
      ·exact this.1 hp
      ·exact this.2 hp
     simp only[oK]at ho
     rw[List.getElem?_set_ne bg]at ho
     exact .wr b bx jr h hw z hz off hp ho hold hb uW ha
 have Sk:∀b bx b' fR,Ux=some (b,bx)→Uy=some (b',fR)→b≠b':=by
  intro b bx b' fR h1 h2
  subst h1 h2
  have hyf:=hy.uf
  cases hx.uf with
  |mk _ h' ue eA=>
   cases yU with
   |mk _ h hn hb=>
    rintro rfl
    cases hyf with
    |mk _ h2 DO jE=>
     rw[eI]at DO
     simp only[oK]at DO
     rw[List.getElem?_set_self (List.getElem?_eq_some_iff.1 ue).1]at DO
     exact eA (Option.some.inj DO)
    |wr _ _ _ h2=>rw[Ws h]at h2;cases h2
   |wr _ _ jr h hw z hz off hp ho hold hb=>
    rintro rfl
    exact aaO hG hp ue
  |wr _ _ IF h' lV z' je tQ wC cg Fp eA anB oL=>
   cases yU with
   |mk _ h hn hb=>
    rintro rfl
    rw[cg]at hn
    exact Fp (Option.some.inj hn)
   |wr _ _ jr h hw z hz off hp ho hold hb uW ha=>
    rcases hm with hm|hm
    ·exfalso
     rcases lV with lV|lV
     ·exact hm.m1 ⟨lV,h⟩
     ·rcases hw with hw|hw
      ·exact hm.m2 ⟨hw,h'⟩
      ·exact hm.m3 ⟨lV,hw,h',h⟩
    ·rintro rfl
     have:=(hm.1 lV z' je oL _ tQ wC).2 z hz ha off
     rcases hp with hp|hp
     ·exact this.1 hp
     ·exact this.2 hp
 refine⟨⟨yU,hy.Dp,fun e' k' hl hS hk=>?_⟩,⟨?_,hx.Dp,fun e' k' hl hS hk=>?_⟩,?_⟩
 ·refine hy.SQ e' k' (fun t ht=>(hl t ht).trans (ly1 t ht).symm) ⟨fun hm z hz=>?_,fun hm hU=>hS.fresh hm hU⟩ hk
  rw[ry1 z hz]
  refine oY.trans ?_ (hS.mem hm z hz)
  rw[eI]
  cases hx.uf with
  |none=>exact .refl _ _
  |mk fR h' ue eA=>exact(aaN hG ue fR z).symm
  |wr b' fR IF h' lV z' je tQ wC cg Fp eA uW oL=>
   rcases ld with fU|fU
   ·have nx:lB x=false:=by cases hq:lB x with|false=>rfl|true=>exact absurd ⟨hq,hm⟩ fU.m1
    have NV:lx=true:=by rcases lV with h|h;exact absurd ⟨h,hm⟩ fU.m1;exact h
    have ny:lB y=false:=by cases hq:lB y with|false=>rfl|true=>exact absurd ⟨hq,h'⟩ fU.m2
    have NW:ly=false:=by cases hq:ly with|false=>rfl|true=>exact absurd ⟨NV,hq,h',hm⟩ fU.m3
    exact(XZ (by rw[ny,NW];rfl) cg (uW NV nx) _).symm
   ·exact((fU.1 lV z' je oL b' tQ wC).1 z hz _ fR).symm
 ·cases hxu:hx.uf with
  |none=>exact .none
  |mk fR h' ue eA=>
   refine .mk fR h' ?_ eA
   rw[nf]
   cases hU:Uy with
   |none=>exact ue
   |some p=>
    simp only[oK]
    rw[List.getElem?_set_ne (Sk _ _ _ _ rfl hU).symm]
    exact ue
  |wr b' fR IF h' lV z' je tQ wC cg Fp eA uW oL=>
   refine .wr b' fR IF h' lV z' je tQ (by rw[rx1 z' je];exact wC) ?_ Fp eA uW oL
   rw[nf]
   cases hU:Uy with
   |none=>exact cg
   |some p=>
    simp only[oK]
    rw[List.getElem?_set_ne (Sk _ _ _ _ rfl hU).symm]
    exact cg
 ·refine hx.SQ e' k' (fun t ht=>(hl t ht).trans (lx1 t ht)) ⟨fun hm z hz=>?_,fun hm hU=>hS.fresh hm hU⟩ hk
  have h1:=hS.mem hm z hz
  rw[rx1 z hz]at h1
  refine oY.trans ?_ h1
  rw[nf]
  cases yU with
  |none=>exact .refl _ _
  |mk fR h' ue eA=>exact aaN hG ue fR z
  |wr b' fR IF h' lV z' je tQ wC cg Fp eA uW oL=>
   rcases ld with fU|fU
   ·have ny:lB y=false:=by cases hq:lB y with|false=>rfl|true=>exact absurd ⟨hq,hm⟩ fU.m2
    have NW:ly=true:=by rcases lV with h|h;exact absurd ⟨h,hm⟩ fU.m2;exact h
    have nx:lB x=false:=by cases hq:lB x with|false=>rfl|true=>exact absurd ⟨hq,h'⟩ fU.m1
    have NV:lx=false:=by cases hq:lx with|false=>rfl|true=>exact absurd ⟨hq,NW,hm,h'⟩ fU.m3
    exact XZ (by rw[nx,NV];rfl) cg (uW NW ny) _
   ·exact(fU.2 lV z' je oL b' tQ wC).1 z hz _ fR
 ·unfold fin
  rw[Env.mk.injEq]
  refine⟨(afd hx.Dp hy.Dp hi.d2 e.ak).symm,?_⟩
  simp only
  cases hUx:Ux with
  |none=>rfl
  |some p=>
   cases hUy:Uy with
   |none=>rfl
   |some q=>exact List.set_comm _ _ (Sk _ _ _ _ hUx hUy)
end
theorem ahk{l:List Nat}(h:Mi l=true):l.Nodup:=by
 induction l with
 |nil=>exact .nil
 |cons a l ih=>
  simp only[Mi,Bool.and_eq_true,Bool.not_eq_true',List.contains_eq_mem,decide_eq_false_iff_not]at h
  exact List.nodup_cons.2 ⟨h.1,ih h.2⟩
structure Dq(ops:Array Oper)(aI:Nat→Bool):Prop where
 inj:∀(i j:Nat)oi oj a,ops[i]? =some oi→ops[j]? =some oj→qu oi=some a→qu oj=some a→i=j
 mem:∀(i:Nat)o,ops[i]? =some o→qu o=none→iY o=false∧∀d,o.dst=some d→d∉mQ ops.toList
 Uc:∀(i:Nat)o,ops[i]? =some o→∀x∈o.op.operands,(aI i=false→addrOf o≠some x)→∀t,x=.tmp t→t∉mQ ops.toList
 val:∀(i:Nat)o,ops[i]? =some o→∀t x y,o.op=.store t x y→∀u,y=.tmp u→u∉mQ ops.toList
 waits:∀(j:Nat)o a,ops[j]? =some o→rW (mQ ops.toList) o=some a→∀(i:Nat)oi,ops[i]? =some oi→qu oi=some a→((reach [] ops.toList).getD j 0).testBit i=true
theorem Wg{α:Type}{f:α→Option Nat}:∀{l:List α},(l.filterMap f).Nodup →∀(i j:Nat)x y a,l[i]? =some x→l[j]? =some y→f x=some a→f y=some a→i=j
 |[],_,i,j,x,y,a,hx,_,_,_=>by simp at hx
 |z::l,h,i,j,x,y,a,hx,hy,fx,fy=>by
  have mem:∀(k:Nat)w,l[k]? =some w→f w=some a→a∈l.filterMap f:=fun k w hw fw=>List.mem_filterMap.2 ⟨w,List.mem_of_getElem? hw,fw⟩
  cases i with
  |zero=>
   cases j with
   |zero=>rfl
   |succ j=>
    simp only[List.getElem?_cons_zero,Option.some.injEq]at hx
    simp only[List.getElem?_cons_succ]at hy
    subst hx
    rw[List.filterMap_cons_some fx]at h
    exact absurd (mem j y hy fy) (List.nodup_cons.1 h).1
  |succ i=>
   simp only[List.getElem?_cons_succ]at hx
   cases j with
   |zero=>
    simp only[List.getElem?_cons_zero,Option.some.injEq]at hy
    subst hy
    rw[List.filterMap_cons_some fy]at h
    exact absurd (mem i x hx fx) (List.nodup_cons.1 h).1
   |succ j=>
    simp only[List.getElem?_cons_succ]at hy
    have h':(l.filterMap f).Nodup :=by
     cases hz:f z with
     |none=>rw[List.filterMap_cons_none hz]at h;exact h
     |some b=>rw[List.filterMap_cons_some hz]at h;exact(List.nodup_cons.1 h).2
    rw[Wg h' i j x y a hx hy fx fy]
theorem Wh{all:List Oper}{A:List Nat}{aI:Nat→Bool}{R:List Nat}:∀{l:List Oper}{i:Nat},Ln all A aI R l i=true→∀(n:Nat)o,l[n]? =some o→
  HP A (aI (i+n)) o=true∧∀a,rW A o=some a→G8 a (R.getD (i+n) 0) all 0=true
 |[],_,_,n,o,h=>by simp at h
 |p::l,i,h,n,o,ho=>by
  simp only[Ln,Bool.and_eq_true]at h
  obtain⟨⟨h1,h2⟩,h3⟩:=h
  cases n with
  |zero=>
   simp only[List.getElem?_cons_zero,Option.some.injEq]at ho
   subst ho
   refine⟨h1,fun a ha=>?_⟩
   rw[ha]at h2
   exact h2
  |succ n=>
   have:=Wh h3 n o (by simpa using ho)
   rw[show i+1+n=i+(n+1) by omega]at this
   exact this
theorem V9{a m:Nat}:∀{l:List Oper}{i:Nat},G8 a m l i=true→∀(n:Nat)o,l[n]? =some o→qu o=some a→m.testBit (i+n)=true
 |[],_,_,n,o,h,_=>by simp at h
 |p::l,i,h,n,o,ho,ha=>by
  simp only[G8,Bool.and_eq_true]at h
  cases n with
  |zero=>
   simp only[List.getElem?_cons_zero,Option.some.injEq]at ho
   subst ho
   have:=h.1
   rw[ha]at this
   simpa using this
  |succ n=>
   have:=V9 h.2 n o (by simpa using ho) ha
   rw[show i+1+n=i+(n+1) by omega]at this
   exact this
theorem Lp{A:List Nat}{x:Operand}(h:Jj A x=false):∀t,x=.tmp t→t∉A:=by
 rintro t rfl
 simpa[Jj]using h
theorem Rc{ops:Array Oper}{aI:Nat→Bool}(h:eligible ops.toList aI (reach [] ops.toList)=true):Dq ops aI:=by
 simp only[eligible,Bool.and_eq_true]at h
 obtain⟨hn,hf⟩:=h
 have sp:=fun(i:Nat)(o:Oper)(ho:ops[i]? =some o)=>Wh hf i o (by rw[Array.getElem?_toList];exact ho)
 simp only[Nat.zero_add]at sp
 refine⟨fun i j oi oj a h1 h2 h3 h4=>Wg (ahk hn) i j oi oj a (by rw[Array.getElem?_toList];exact h1) (by rw[Array.getElem?_toList];exact h2) h3 h4,fun i o ho ha=>?_,fun i o ho x hx Ud=>?_,fun i o ho t x y kG=>?_,fun j o a ho hs i oi hoi Ge=>?_⟩
 ·have:=(sp i o ho).1
  simp only[HP,ha,Bool.and_eq_true,Bool.not_eq_true']at this
  refine⟨this.1.1,fun d hd=>?_⟩
  have h2:=this.1.2
  rw[hd]at h2
  simpa using h2
 ·have:=(sp i o ho).1
  simp only[HP,Bool.and_eq_true]at this
  have h2:=this.2
  cases kG:o.op with
  |store t u v=>
   rw[kG]at h2 hx
   simp only[Bool.and_eq_true,Bool.not_eq_true',Bool.or_eq_true]at h2
   simp only[Op.operands,List.mem_toArray,List.mem_cons,List.not_mem_nil,or_false]at hx
   rcases hx with rfl|rfl
   ·rcases h2.2 with h3|h3
    ·exact Lp h3
    ·exact absurd (by simp[addrOf,kG]) (Ud h3)
   ·exact Lp h2.1
  |_=>
   rw[kG]at h2 hx
   simp only[List.all_eq_true,Bool.not_eq_true']at h2
   exact Lp (h2 x (by simpa using hx))
 ·have:=(sp i o ho).1
  simp only[HP,Bool.and_eq_true]at this
  have h2:=this.2
  rw[kG]at h2
  simp only[Bool.and_eq_true,Bool.not_eq_true']at h2
  exact Lp h2.1
 ·have:=V9 ((sp j o ho).2 a hs) i oi (by rw[Array.getElem?_toList];exact hoi) Ge
  simpa using this
section
variable{P:Program}{gl:Nat→Option D}{C:bu}{ops:Array Oper}{aI:Nat→Bool}{base:Nat}{K:Nat→Prop}
structure Jv(ops:Array Oper)(base:Nat)(K:Nat→Prop)(bS:Array Bool)(e:Env):Prop where
 k:∀b,K b→b<base
 low:∀t,t∉mQ ops.toList→eJ K (e.ak.getD t (.v .undef))
 box:∀b s,(K b∨base≤b)→e.boxes[b]? =some (.one s)→eJ K s
 own:∀(i:Nat)o a,ops[i]? =some o→qu o=some a→bS.getD i false=true→e.ak.getD a (.v .undef)=.v .undef ∨e.ak.getD a (.v .undef)=.p (base+gm ops.toList i) 0
theorem QE{e:Env}{x:Operand}(h:∀t,x=.tmp t→eJ K (e.ak.getD t (.v .undef))):eJ K (iR gl e x):=by
 unfold iR
 cases x with
 |tmp t=>exact(h t rfl).nT
 |_=>
  simp only[Ab.bA]
  repeat' split
  all_goals exact .v _
theorem PF(l:List Slot)(i j:Nat)(x d:Slot):((l.set i x).getD j d=x∧i=j)∨(l.set i x).getD j d=l.getD j d:=by
 by_cases h:i=j
 ·subst h
  rcases Nat.lt_or_ge i l.length with hl|hl
  ·left;simp[List.getD_eq_getElem?_getD,List.getElem?_set_self hl]
  ·right;rw[List.set_eq_of_length_le hl]
 ·right;exact dB h
theorem Rd:∀{l:List Oper}{i j:Nat}{o:Oper},i<j→l[i]? =some o→iY o=true→gm l i<gm l j
 |[],i,j,o,_,h,_=>by simp at h
 |p::l,i,j,o,fp,h,hm=>by
  cases j with
  |zero=>omega
  |succ j=>
   cases i with
   |zero=>
    simp only[List.getElem?_cons_zero,Option.some.injEq]at h
    subst h
    simp only[gm,hm,cond_true]
    omega
   |succ i=>
    have:=Rd (Nat.lt_of_succ_lt_succ fp) (by simpa using h) hm
    simp only[gm]
    omega
theorem Qd{o:Oper}{a:Nat}(h:qu o=some a):(∃t,o.op=.alloc t)∧o.guard=none∧o.dst=some a:=by
 unfold qu at h
 split at h
 ·rename_i t h1 h2;exact⟨⟨t,h1⟩,h2,h⟩
 ·cases h
theorem X2{i:Nat}{o:Oper}{a:Nat}(ho:ops[i]? =some o)(h:qu o=some a):a∈mQ ops.toList:=
 List.mem_filterMap.2 ⟨o,List.mem_of_getElem? (by rw[Array.getElem?_toList];exact ho),h⟩
theorem X3{a:Nat}(h:a∈mQ ops.toList):∃(i:Nat) (o:Oper),ops[i]? =some o∧qu o=some a:=by
 obtain⟨o,ho,h⟩:=List.mem_filterMap.1 h
 obtain⟨i,hi⟩:=List.mem_iff_getElem?.1 ho
 exact⟨i,o,by rw[←Array.getElem?_toList];exact hi,h⟩
theorem Jv.step{bS:Array Bool}{e e':Env}(hE:Dq ops aI)(hJ:Jv ops base K bS e){i:Nat}{o:Oper}(ho:ops[i]? =some o)
  (h:pO P gl C ops.toList (base+gm ops.toList i) (aI i) o e (fun x=>x=e')):Jv ops base K (bS.setIfInBounds i true) e':=by
 cases ha:qu o with
 |some a=>
  obtain⟨⟨t,kG⟩,hg,hd⟩:=Qd ha
  have h':=CA.1 h
  have la:wg ops.toList o e=some true:=by unfold wg;rw[hg]
  rw[la]at h'
  simp only[qH]at h'
  cases hl:aI i with
  |true=>rw[hl]at h';simp only[cond_true,om,kG]at h'
  |false=>
   rw[hl]at h'
   simp only[cond_false,dR,kG]at h'
   split at h'
   ·rename_i gJ
    obtain⟨z,hz,h2⟩:=aQ h'
    subst h2
    rw[hd]
    refine⟨hJ.k,fun t' vb=>?_,fun b s hb jF=>?_,fun j oj a' lk AD DP=>?_⟩
    ·simp only[de]
     rw[dB (fun h:a=t'=>vb (by rw[←h];exact X2 ho ha))]
     exact hJ.low t' vb
    ·simp only at jF
     rw[List.getElem?_set]at jF
     split at jF
     ·split at jF
      ·cases jF
      ·cases jF
     ·exact hJ.box b s hb jF
    ·simp only[de]
     by_cases fp:i=j
     ·subst fp
      rw[ho]at lk;cases lk
      rw[ha]at AD;cases AD
      rcases PF e.ak a a (.p (base+gm ops.toList i) 0) (.v .undef)with⟨h,_⟩|h
      ·exact .inr h
      ·rcases Nat.lt_or_ge a e.ak.length with aP|lf
       ·right;simp[List.getD_eq_getElem?_getD,List.getElem?_set_self aP]
       ·left;rw[h,List.getD_eq_getElem?_getD,List.getElem?_eq_none lf];rfl
     ·have bg:a≠a':=fun h=>fp (hE.inj i j o oj a ho lk ha (h▸AD))
      rw[dB bg]
      refine hJ.own j oj a' lk AD ?_
      rw[getD_set_ne false fp]at DP
      exact DP
   ·exact h'.elim
 |none=>
  obtain⟨kH,qJ⟩:=hE.mem i o ho ha
  obtain⟨src,s,U,hk,hO,_,kU,_⟩:=CB h
  subst hk
  obtain⟨l1,l2,l3⟩:=kU K (fun b=>K b∨base≤b) (fun b h=>.inl h) (fun x hx Ud=>QE fun t ht=>hJ.low t (hE.Uc i o ho x hx Ud t ht))
   (fun t x y kG=>QE fun u hu=>hJ.low u (hE.val i o ho t x y kG u hu)) hJ.box kH
  have SR:∀t d,src=some (t,d)→t∉mQ ops.toList:=fun t d hs=>by
   obtain⟨hl,ht⟩:=hO.Dp t d hs
   obtain⟨z,hz,JA⟩:=List.mem_filterMap.1 ht
   refine hE.Uc i o ho (.tmp t) ?_ (fun h=>by rw[hl]at h;cases h) t rfl
   cases z with
   |tmp u=>simp only[Option.some.injEq]at JA;subst JA;simpa using hz
   |_=>simp at JA
  have fg:∀t,(eJ K (e.ak.getD t (.v .undef))→eJ K ((kV src e.ak).getD t (.v .undef)))∧(t∈mQ ops.toList→(kV src e.ak).getD t (.v .undef)=e.ak.getD t (.v .undef)):=fun t=>by
   cases Ci:src with
   |none=>exact⟨fun h=>h,fun _=>rfl⟩
   |some p=>
    obtain⟨u,d⟩:=p
    simp only[kV]
    refine⟨fun h=>?_,fun ht=>dB fun hh=>SR u d Ci (hh▸ht)⟩
    rcases PF e.ak u t d (.v .undef)with⟨h2,_⟩|h2
    ·rw[h2];exact l2 u d Ci
    ·rw[h2];exact h
  refine⟨hJ.k,fun t ht=>?_,fun b s' hb jF=>?_,fun j oj a' lk AD DP=>?_⟩
  ·unfold fin
   simp only
   cases hd:o.dst with
   |none=>exact(fg t).1 (hJ.low t ht)
   |some d=>
    simp only[de]
    rcases PF (kV src e.ak) d t s (.v .undef)with⟨h2,_⟩|h2
    ·rw[h2];exact l1
    ·rw[h2];exact(fg t).1 (hJ.low t ht)
  ·unfold fin at jF
   simp only at jF
   cases hU:U with
   |none=>rw[hU]at jF;exact hJ.box b s' hb jF
   |some p=>
    obtain⟨b0,bx⟩:=p
    rw[hU]at jF
    simp only[oK]at jF
    rw[List.getElem?_set]at jF
    split at jF
    ·rename_i eV
     split at jF
     ·cases jF
      exact l3 b0 s' hU
     ·cases jF
    ·exact hJ.box b s' hb jF
  ·have fp:i≠j:=by
    rintro rfl
    rw[ho]at lk;cases lk
    rw[ha]at AD;cases AD
   have eM:=X2 lk AD
   have j8:(fin o src s U e).ak.getD a' (.v .undef)=e.ak.getD a' (.v .undef):=by
    unfold fin
    simp only
    cases hd:o.dst with
    |none=>exact(fg a').2 eM
    |some d=>
     simp only[de]
     rw[dB (fun h:d=a'=>qJ d hd (by rw[h];exact eM))]
     exact(fg a').2 eM
   rw[j8]
   refine hJ.own j oj a' lk AD ?_
   rw[getD_set_ne false fp]at DP
   exact DP
theorem YO{e:Env}{bS:Array Bool}(hJ:Jv ops base K bS e){b:Nat}(hb:base≤b)(bx:af):∀(n:Nat)(s:Slot),eJ K s→snap (e.boxes.set b bx) n s=snap e.boxes n s:=by
 intro n
 induction n with
 |zero=>intro s _;rfl
 |succ n ih=>
  intro s hs
  cases hs with
  |v x=>rfl
  |t l=>rfl
  |a c m sz h=>
   have bg:b≠c:=fun h2=>by have:=hJ.k c h;omega
   simp only[snap]
   rw[List.getElem?_set_ne bg]
  |m c h=>rfl
  |p c off h=>
   have bg:b≠c:=fun h2=>by have:=hJ.k c h;omega
   simp only[snap]
   rw[List.getElem?_set_ne bg]
   cases hc:e.boxes[c]? with
   |none=>rfl
   |some y=>
    cases y with
    |one s'=>simp only;rw[ih s' (hJ.box c s' (.inl h) hc)]
    |_=>rfl
  |c f first cap h1 h2=>
   simp only[snap]
   have hl:∀(l:List Slot),(∀s∈l,eJ K s)→lC (snap (e.boxes.set b bx) n) l=lC (snap e.boxes n) l:=by
    intro l hl
    induction l with
    |nil=>rfl
    |cons a l ihl=>simp only[lC];rw[ih a (hl a (by simp)),ihl fun s hs=>hl s (by simp[hs])]
   rw[hl first h1,hl cap h2]
theorem ahl{e:Env}{bS:Array Bool}(hJ:Jv ops base K bS e){b:Nat}(hb:base≤b)(bx:af){s:Slot}(hs:eJ K s)(q:Bool):oY q s e.boxes (e.boxes.set b bx):=by
 refine⟨fun c off h=>?_,fun n=>YO hJ hb bx n s hs,fun c l h=>?_⟩
 ·subst h
  have bg:b≠c:=fun h2=>by have:=hJ.k c hs.pN;omega
  rw[List.getElem?_set_ne bg]
  exact⟨.refl _,fun _=>rfl⟩
 ·subst h
  have bg:b≠c:=fun h2=>by have:=hJ.k c hs.abO;omega
  rw[List.getElem?_set_ne bg]
theorem ahm{e:Env}{bS:Array Bool}(hJ:Jv ops base K bS e){b c off:Nat}(hb:base≤b)(hc:base≤c)(bg:b≠c)(bx:af)(q:Bool):oY q (.p c off) e.boxes (e.boxes.set b bx):=by
 refine⟨fun c' tQ h=>?_,fun n=>?_,fun c l h=>by cases h⟩
 ·cases h
  rw[List.getElem?_set_ne bg]
  exact⟨.refl _,fun _=>rfl⟩
 ·cases n with
  |zero=>rfl
  |succ n=>
   simp only[snap]
   rw[List.getElem?_set_ne bg]
   cases hx:e.boxes[c]? with
   |none=>rfl
   |some y=>
    cases y with
    |one s'=>simp only;rw[YO hJ hb bx n s' (hJ.box c s' (.inr hc) hx)]
    |_=>rfl
theorem YP{A:List Nat}{o:Oper}{a:Nat}(h:rW A o=some a):a∈A∧∃t y,o.op=.store t (.tmp a) y:=by
 unfold rW at h
 split at h
 ·rename_i t a' y kG
  cases hc:A.contains a' with
  |false=>rw[hc]at h;cases h
  |true=>
   rw[hc]at h
   cases h
   exact⟨by simpa using hc,t,y,kG⟩
 ·cases h
def Made(ops:Array Oper)(bS:Array Bool)(o:Oper):Prop:=∀a,rW (mQ ops.toList) o=some a→∀(i:Nat)oi,ops[i]? =some oi→qu oi=some a→bS.getD i false=true
theorem akG{e:Env}{bS:Array Bool}(hE:Dq ops aI)(hJ:Jv ops base K bS e){j:Nat}{y:Oper}(hy:ops[j]? =some y){z:Operand}(hz:z∈y.op.operands)(h:rW (mQ ops.toList) y=none∨addrOf y≠some z):eJ K (iR gl e z):=by
 refine QE fun t ht=>hJ.low t ?_
 by_cases Cj:addrOf y=some z
 ·rcases h with h|h
  ·subst ht
   unfold addrOf at Cj
   split at Cj
   ·rename_i t' x' y' kG
    cases Cj
    intro hm
    unfold rW at h
    rw[kG]at h
    simp[hm]at h
   ·cases Cj
  ·exact absurd Cj h
 ·exact hE.Uc j y hy z hz (fun _=>Cj) t ht
theorem KV{e:Env}{bS:Array Bool}(hE:Dq ops aI)(hJ:Jv ops base K bS e){i j:Nat}{x y:Oper}(_hx:ops[i]? =some x)(hy:ops[j]? =some y){a:Nat}(hs:rW (mQ ops.toList) x=some a)
  (bX:Made ops bS x)(Ch:Made ops bS y)(bg:rW (mQ ops.toList) y≠some a){lx:Bool}:Db gl lx x y e:=by
 intro hw z hz Cj b off hp
 obtain⟨hm,t,v,kG⟩:=YP hs
 obtain⟨k,ok,eC,Gf⟩:=X3 hm
 have JA:=Cj _ _ _ kG
 subst JA
 have kH:iY ok=true:=by obtain⟨⟨t,h⟩,_⟩:=Qd Gf;simp[iY,h]
 have hrz:iR gl e (.tmp a)=(e.ak.getD a (.v .undef)).aa :=rfl
 have hb:b=base+gm ops.toList k:=by
  rw[hrz]at hp
  rcases hJ.own k ok a eC Gf (bX a hs k ok eC Gf)with h|h
  ·rw[h]at hp;rcases hp with hp|hp<;>cases hp
  ·rw[h]at hp;rcases hp with hp|hp<;>cases hp;rfl
 have eV:base≤b:=by omega
 have mq:∀z'∈y.op.operands,eJ K (iR gl e z')∨∃c,base≤c∧b≠c∧iR gl e z'=.p c 0:=by
  intro z' je
  by_cases h:rW (mQ ops.toList) y=none∨addrOf y≠some z'
  ·exact .inl (akG hE hJ hy je h)
  ·have h1:rW (mQ ops.toList) y≠none:=fun h2=>h (.inl h2)
   have h2:addrOf y=some z':=Classical.byContradiction fun h2=>h (.inr h2)
   obtain⟨a',oL⟩:=Option.ne_none_iff_exists'.1 h1
   obtain⟨mz,t',v',ao1⟩:=YP oL
   obtain⟨k',Ue,IG,II⟩:=X3 mz
   have AE:z'=.tmp a':=by
    unfold addrOf at h2
    rw[ao1]at h2
    exact(Option.some.inj h2).symm
   subst AE
   have hr:iR gl e (.tmp a')=(e.ak.getD a' (.v .undef)).aa :=rfl
   rcases hJ.own k' Ue a' IG II (Ch a' oL k' Ue IG II)with h|h
   ·left;rw[hr,h];exact .v _
   ·right
    refine⟨base+gm ops.toList k',by omega,?_,by rw[hr,h];rfl⟩
    rw[hb]
    have nO:k≠k':=by
     rintro rfl
     rw[eC]at IG;cases IG
     rw[Gf]at II;cases II
     exact bg oL
    have ao2:iY Ue=true:=by obtain⟨⟨t,h⟩,_⟩:=Qd II;simp[iY,h]
    rcases Nat.lt_or_gt_of_ne nO with h|h
    ·have:=Rd (l:=ops.toList) h (by rw[Array.getElem?_toList];exact eC) kH;omega
    ·have:=Rd (l:=ops.toList) h (by rw[Array.getElem?_toList];exact IG) ao2;omega
 refine⟨fun z' je q fR=>?_,fun z' je _ tQ=>?_⟩
 ·rcases mq z' je with h|⟨c,hc,NX,h⟩
  ·exact ahl hJ eV fR h q
  ·rw[h];exact ahm hJ eV hc NX fR q
 ·rcases mq z' je with h|⟨c,hc,NX,h⟩
  ·refine⟨fun h2=>?_,fun h2=>?_⟩
   ·rw[h2]at h;have:=hJ.k b h.pN;omega
   ·rw[h2]at h;have:=hJ.k b h.abO;omega
  ·rw[h]
   refine⟨fun h2=>?_,fun h2=>by cases h2⟩
   cases h2
   exact NX rfl
theorem ahn{e:Env}{bS:Array Bool}(hE:Dq ops aI)(hJ:Jv ops base K bS e){i j:Nat}{x y:Oper}(hx:ops[i]? =some x)(hy:ops[j]? =some y){lx ly:Bool}(hf:MI (mQ ops.toList) lx ly x y=true)
  (bX:Made ops bS x)(Ch:Made ops bS y):Db gl lx x y e∧Db gl ly y x e:=by
 unfold MI at hf
 split at hf
 ·rename_i a b ha hb
  simp only[Bool.and_eq_true,Bool.not_eq_true']at hf
  have NO:a≠b:=fun h=>by rw[h,Nat.beq_refl]at hf;exact absurd hf.1.1 (by simp)
  exact⟨KV hE hJ hx hy ha bX Ch (by rw[hb];simpa using Ne.symm NO),KV hE hJ hy hx hb Ch bX (by rw[ha];simpa using NO)⟩
 ·rename_i a ha hb
  simp only[Bool.and_eq_true,Bool.not_eq_true']at hf
  refine⟨KV hE hJ hx hy ha bX Ch (by rw[hb];simp),fun hw=>?_⟩
  rcases hw with h|h
  ·rw[hf.1.2]at h;cases h
  ·rw[hf.2]at h;cases h
 ·rename_i b ha hb
  simp only[Bool.and_eq_true,Bool.not_eq_true']at hf
  refine⟨fun hw=>?_,KV hE hJ hy hx hb Ch bX (by rw[ha];simp)⟩
  rcases hw with h|h
  ·rw[hf.1.2]at h;cases h
  ·rw[hf.2]at h;cases h
 ·cases hf
theorem afe{A:List Nat}{lx ly:Bool}{x y:Oper}(h:RD ops A lx ly x y=true):MN ops lx ly x y∧MI A lx ly x y=true:=by
 simp only[RD,Bool.and_eq_true,List.all_eq_true,Bool.not_eq_true',List.contains_eq_mem,decide_eq_false_iff_not]at h
 obtain⟨⟨h1,h2⟩,h3⟩:=h
 exact⟨⟨fun t ht=>(h1 t ht).1,fun t ht=>(h1 t ht).2,fun t ht=>h2 t ht⟩,h3⟩
end
end Go.Proofs.Ytimbllcalipehaa.Ab
