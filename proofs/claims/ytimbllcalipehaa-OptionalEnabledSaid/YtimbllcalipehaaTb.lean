/-
  THE ABSTRACT WALK: literals of structs and slices; lengths; appends.
-/
import Derived.Test.YtimbllcalipehaaTa
import Derived.MapKept
import Derived.Laws.MakeOwn
set_option linter.unusedVariables false
set_option linter.unusedSimpArgs false
namespace Go.Proofs.Ytimbllcalipehaa.Ab
open Go Go.RowKit
section
variable{P:Program}{gl:Nat→Option D}{w0:World}{ar:S0}{e:Env}{a:Act}{w:World}{g:Gh}
theorem adY(hI:Inv gl w0 ar e a w g){o:Oper}{c:Call}(ho:o.op=.call c)(hc:c.callee=.builtin .len){x:Operand}{xs:List Operand}{t:TypeId}{ts:List TypeId}
  (hx:c.args.toList=x::xs)(ht:c.argTypes.toList=t::ts){k:Slot→List af→Prop}(h:ab (Qj P t ((Ab.bp gl e x).aa).bW) fun r=>k (.v r) e.boxes):bH P gl w0 ar e.ak o a w k:=by
 obtain⟨r,hr,hk⟩:=aN h
 have ee:=hI.jB x
 generalize ((Ab.bp gl e x).aa).bW =sx at hr ee
 have h0:c.args[0]? =some x:=by rw[←Array.getElem?_toList,hx];rfl
 have h1:c.argTypes[0]? =some t:=by rw[←Array.getElem?_toList,ht];rfl
 have bq:∀v,(Builtin.len_ c.argTypes o.type (c.args.map a.eval)).run P w=.ok v w→(execOp a.eval o).run P w=.ok (.value v) w:=by
  intro v hv
  simp[execOp,ho,resolve,hc,invoke,builtin,hv]
 unfold Qj at hr
 split at hr
 ·rename_i hu
  split at hr
  ·rename_i s
   cases hr
   obtain⟨bs,hv,hs,hm⟩:=ee.data.x8
   refine bH.gb hI (v:=.int .i64 bs.size) (bq _ ?_) (.d _ _ _ ?_) hk
   ·simp[Builtin.len_,h0,h1,run_underlying hu,hv,goInt]
   ·have:(bs.size:Int)=(s.length:Int):=by rw[hs,Array.length_toList];rfl
    rw[this]
    refine .int _ _ ?_
    have:s.length=bs.size:=by rw[hs,Array.length_toList];rfl
    simp only[maxLen]at hm
    simp[iG,IntKind.min,IntKind.max,IntKind.signed,IntKind.bits]
    omega
  ·cases hr
 ·rename_i n e' hu
  cases hb:Nat.ble n maxLen with
  |false=>rw[hb]at hr;cases hr
  |true=>
   rw[hb]at hr
   cases hr
   have hm:=Nat.le_of_ble_eq_true hb
   refine bH.gb hI (v:=.int .i64 n) (bq _ ?_) (.d _ _ _ (.int _ _ ?_)) hk
   ·simp[Builtin.len_,h0,h1,run_underlying hu,goInt]
   ·simp only[maxLen]at hm
    simp[iG,IntKind.min,IntKind.max,IntKind.signed,IntKind.bits]
    omega
 ·rename_i e' hu
  split at hr
  ·rename_i n s cs
   cases hr
   generalize hv:a.eval x=u at ee
   cases ee with
   |cU _ _ _ _ b cap vs fh hn hm aR hc=>
    refine bH.gb hI (v:=.int .i64 n) (bq _ ?_) (.d _ _ _ (.int _ _ ?_)) hk
    ·simp[Builtin.len_,h0,h1,run_underlying hu,hv,goInt]
    ·simp only[maxLen]at hm
     simp[iG,IntKind.min,IntKind.max,IntKind.signed,IntKind.bits]
     omega
  split at hr
  ·rename_i L hL
   cases hr
   have key:∃ad cap,a.eval x=.slice ad L.length cap∧L.length≤maxLen:=by
    have go:∀{s L' v},bh w g.St (.sl .ro s L') v→∃ad cap,v=.slice ad L'.length cap∧L'.length≤maxLen:=by
     intro s L' v hd
     cases hd with
     |sl _ _ b off cap vs bM hm aM hf aR hc=>exact⟨_,_,rfl,hm⟩
     |mr _ ad c _=>exact⟨_,_,rfl,by simp⟩
    unfold FK at hL
    split at hL
    ·rename_i k' s' L' _
     cases hL
     have hd:=ee.data
     cases k'
     ·generalize a.eval x=u at hd;cases hd;exact⟨_,_,rfl,by simp⟩
     ·exact go hd
    ·cases hL
     generalize a.eval x=u at ee
     cases ee with
     |own _ _ _ gg cap hd bM ho=>exact go hd
    ·cases hL
     generalize a.eval x=u at ee
     cases ee with
     |full _ _ _ ad hd=>exact go hd
    ·cases hL
   obtain⟨ad,cap,hv,hm⟩:=key
   refine bH.gb hI (v:=.int .i64 L.length) (bq _ ?_) (.d _ _ _ (.int _ _ ?_)) hk
   ·simp[Builtin.len_,h0,h1,run_underlying hu,hv,goInt]
   ·simp only[maxLen]at hm
    simp[iG,IntKind.min,IntKind.max,IntKind.signed,IntKind.bits]
    omega
  ·cases hr
 ·cases hr
theorem TA(off:Nat):∀(l:List Value)(k:Nat)(cells:Array Value)(i:Nat),off+k+l.length≤cells.size→
  ((l.zipIdx k).foldl (fun cs(c,j)=>cs.setIfInBounds (off+j) c) cells).size =cells.size∧
  ((l.zipIdx k).foldl (fun cs(c,j)=>cs.setIfInBounds (off+j) c) cells)[i]? =if off+k≤i∧i<off+k+l.length then l[i-(off+k)]? else cells[i]?
 |[],k,cells,i,_=>by
  refine⟨rfl,?_⟩
  rw[if_neg (by simp;try omega)]
  simp
 |v::l,k,cells,i,h=>by
  simp only[List.length_cons]at h
  simp only[List.zipIdx_cons,List.foldl_cons]
  obtain⟨h1,h2⟩:=TA off l (k+1) (cells.setIfInBounds (off+k) v) i (by simp;omega)
  refine⟨by rw[h1];simp,?_⟩
  rw[h2]
  by_cases hi:i=off+k
  ·subst hi
   rw[if_neg (by omega),if_pos (by simp)]
   simp only[Nat.sub_self,List.getElem?_cons_zero]
   rw[Array.getElem?_setIfInBounds_self]
   rw[if_pos (by omega)]
  ·by_cases hr:off+(k+1)≤i∧i<off+(k+1)+l.length
   ·rw[if_pos hr,if_pos (by simp;omega)]
    have:i-(off+k)=(i-(off+(k+1)))+1:=by omega
    rw[this,List.getElem?_cons_succ]
   ·rw[if_neg hr,if_neg (by simp;omega),Array.getElem?_setIfInBounds_ne (by omega)]
def Oe(w:World)(St:Nat→Nat→Prop):List (Nat×D)→List (Nat×Value)→Prop
 |[],[]=>True
 |(i,d)::l,(j,v)::m=>i=j∧bh w St d v∧Oe w St l m
 |_,_=>False
theorem bh.acL{St:Nat→Nat→Prop}{d:D}{v:Value}(r:bh w St d v):mL w St d.cells v.cells:=by
 by_cases h:d.one=true
 ·have h1:=r.uS h
  have hc:d.cells=[d]:=by cases d<;>first|rfl|simp[D.one]at h
  have hv:v.cells= #[v]:=by cases v<;>first|rfl|simp[Value.oneCell']at h1
  rw[hc,hv]
  refine⟨rfl,fun i x y hx hy=>?_⟩
  cases i with
  |zero=>simp at hx hy;subst hx hy;exact r
  |succ i=>simp at hx
 ·cases d<;>simp only[D.one,not_true_eq_false]at h
  obtain⟨vs,rfl,hr,_⟩:=r.x9
  exact hr
theorem Of{St:Nat→Nat→Prop}(place:Nat→Option (Nat×Nat)):∀(ps:List (Nat×D))(qs:List (Nat×Value))(cs:List D)(cells:Array Value)(r:List D),
  Oe w St ps qs→mL w St cs cells→(∀d∈cs,d.one=true)→uZ place cs ps=some r→
  ∃r',Instr.fill place cells qs=some r'∧mL w St r r'∧∀d∈r,d.one=true
 |[],[],cs,cells,r,_,hc,hf,h=>by
  simp only[uZ,Option.some.injEq]at h
  subst h
  exact⟨cells,rfl,hc,hf⟩
 |(i,d)::ps,(j,v)::qs,cs,cells,r,hp,hc,hf,h=>by
  obtain⟨rfl,hd,hp⟩:=hp
  simp only[uZ]at h
  split at h
  ·cases h
  ·rename_i off sz gv
   split at h
   ·rename_i w4
    have hdc:=hd.acL
    have aM:v.cells.size=sz:=by rw[←hdc.1];exact w4.1
    have hle:off+sz≤cells.size:=by rw[←hc.1];exact w4.2
    have hg:=fun i=>TA off v.cells.toList 0 cells i (by simp[aM];omega)
    simp only[Nat.add_zero,Array.length_toList,aM]at hg
    have aju:v.cells.zipIdx.foldl (fun cs(c,j)=>cs.setIfInBounds (off+j) c) cells=(v.cells.toList.zipIdx.foldl (fun cs(c,j)=>cs.setIfInBounds (off+j) c) cells):=by
     rw[←Array.foldl_toList,Array.toList_zipIdx]
    obtain⟨r',h1,h2,h3⟩:=Of place ps qs _ (v.cells.zipIdx.foldl (fun cs(c,j)=>cs.setIfInBounds (off+j) c) cells) r hp (by
     rw[aju]
     constructor
     ·rw[(hg 0).1,←hc.1];simp[w4.1];omega
     ·intro i x y hx hy
      rw[(hg i).2]at hy
      have:=tx cs d.cells off (by rw[w4.1];exact w4.2) i
      rw[w4.1]at this
      rw[this]at hx
      split at hx
      ·rename_i h1
       rw[if_neg (by omega)]at hy
       exact hc.2 i x y hx hy
      ·rename_i h1
       split at hx
       ·rename_i h2
        rw[if_pos (by omega)]at hy
        rw[Array.getElem?_toList]at hy
        exact hdc.2 _ x y hx hy
       ·rename_i h2
        rw[if_neg (by omega)]at hy
        exact hc.2 i x y hx hy) (by
     intro x hx
     simp only[List.mem_append]at hx
     rcases hx with(hx|hx)|hx
     ·exact hf x (List.mem_of_mem_take hx)
     ·exact hd.U2 x hx
     ·exact hf x (List.mem_of_mem_drop hx)) h
    refine⟨r',?_,h2,h3⟩
    rw[Instr.fill]
    simp only[gv,aM]
    rw[if_neg (by simp;omega)]
    exact h1
   ·cases h
 |[],_::_,_,_,_,h,_,_,_=>h.elim
 |_::_,[],_,_,_,h,_,_,_=>h.elim
theorem Nt(hI:Inv gl w0 ar e a w g):∀{ps:List (Nat×Operand)}{l:List (Nat×D)},qL (fun x=>(Ab.bp gl e x).aa) ps=some l→Oe w g.St l (ps.map fun(i,x)=>(i,a.eval x))
 |[],l,h=>by simp only[qL,Option.some.injEq]at h;subst h;trivial
 |(i,x)::ps,l,h=>by
  simp only[qL]at h
  split at h
  ·rename_i y hy
   split at h
   ·rename_i z hz
    split at h
    ·rename_i r hr
     cases h
     exact⟨rfl,(hI.sP hy).dA hz,Nt hI hr⟩
    ·cases h
   ·cases h
  ·cases h
theorem T3:∀{fs:List Field}{l:List (Nat×Nat)},F0 P fs=some l→(fs.mapM (m:=Sem) fun f=>do pure (f.offset,←sizeOf f.type)).run P w=.ok l w
 |[],l,h=>by simp only[F0,Option.some.injEq]at h;subst h;rfl
 |f::fs,l,h=>by
  simp only[F0]at h
  split at h
  ·rename_i s hs
   split at h
   ·rename_i r hr
    cases h
    simp only[List.mapM_cons,Sem.run_bind,j9 hs,Result.andThen_ok,Sem.run_pure,T3 hr]
   ·cases h
  ·cases h
theorem abQ(hI:Inv gl w0 ar e a w g){o:Oper}{t:TypeId}{ps:Array (Nat×Operand)}(ho:o.op=.build t ps){k:Slot→List af→Prop}
  (h:ab (qL (fun x=>(Ab.bp gl e x).aa) ps.toList) fun l=>ab (dz P t l) fun r=>k (.v (.d r)) e.boxes):bH P gl w0 ar e.ak o a w k:=by
 obtain⟨l,hl,h⟩:=aN h
 obtain⟨r,hr,hk⟩:=aN h
 have hp:=Nt hI hl
 unfold dz at hr
 split at hr
 ·rename_i z hz
  split at hr
  ·rename_i pl gv
   split at hr
   ·rename_i cs ck
    cases hr
    obtain⟨zv,mU,A4,As,PW⟩:=M5 hz
    obtain⟨r',h1,h2,h3⟩:=Of (w:=w) (St:=g.St) pl l _ z zv.cells cs hp ⟨A4,fun i x v=>PW w g.St i x v⟩ As ck
    refine bH.gb hI (v:=.agg r') ?_ (.d _ _ _ (h2.agg h3)) hk
    have Gu:(ps.map fun(i,x)=>(i,a.eval x)).toList =ps.toList.map fun(i,x)=>(i,a.eval x):=by simp
    unfold Nc at gv
    split at gv
    ·rename_i fs hu
     split at gv
     ·rename_i ll LJ
      cases gv
      have hm:(fs.mapM (m:=Sem) fun f=>do pure (f.offset,←sizeOf f.type)).run P w=.ok ll.toArray w:=by
       have e1:fs=fs.toList.toArray:=by simp
       rw[e1,List.mapM_toArray,Sem.run_map,T3 LJ]
       rfl
      simp only[execOp,ho,Sem.run_bind,Instr.build,mU,Result.andThen_ok,run_underlying hu,hm]
      rw[Gu]
      have:(fun x:Nat=>ll.toArray[x]?)=fun i=>ll[i]? :=by funext i;simp
      rw[this,h1]
      rfl
     ·cases gv
    ·rename_i n e' hu
     split at gv
     ·rename_i s hs
      cases gv
      simp only[execOp,ho,Sem.run_bind,Instr.build,mU,Result.andThen_ok,run_underlying hu,j9 hs]
      rw[Gu,h1]
      rfl
     ·cases gv
    ·cases gv
   ·cases hr
  ·cases hr
 ·cases hr
theorem T4(sz n:Nat):∀(l:List (Nat×D))(cs:List D),cs.length=n*sz→bu sz n l=true→
  ∃r,uZ (fun i=>some (i*sz,sz)) cs l=some r∧r.length=n*sz∧∀i j,i<n→j<sz→r[i*sz+j]? =(match tA i l with|some x=>x.cells[j]? |none=>cs[i*sz+j]?)
 |[],cs,h,_=>⟨cs,rfl,h,fun i j _ _=>rfl⟩
 |(i0,d)::l,cs,h,hp=>by
  simp only[bu,Bool.and_eq_true]at hp
  obtain⟨⟨h1,h2⟩,h3⟩:=hp
  have zx:i0<n:=Nat.lt_of_succ_le (Nat.le_of_ble_eq_true h1)
  have hd:=Nat.eq_of_beq_eq_true h2
  have hle:i0*sz+sz≤n*sz:=by
   have:(i0+1)*sz≤n*sz:=Nat.mul_le_mul_right _ zx
   rw[Nat.succ_mul]at this;exact this
  obtain⟨r,q1,q2,q3⟩:=T4 sz n l (cs.take (i0*sz)++d.cells++cs.drop (i0*sz+sz)) (by rw[List.length_append,List.length_append,List.length_take,List.length_drop,hd,h];omega) h3
  refine⟨r,?_,q2,fun i j hi hj=>?_⟩
  ·simp only[uZ]
   rw[if_pos ⟨hd,by rw[h];exact hle⟩]
   exact q1
  ·rw[q3 i j hi hj]
   cases HG:tA i l with
   |some y=>simp only[tA,HG]
   |none=>
    simp only[tA,HG]
    have:=tx cs d.cells (i0*sz) (by rw[hd,h];exact hle) (i*sz+j)
    rw[hd]at this
    rw[this]
    cases hb:i==i0 with
    |true=>
     have:i=i0:=by simpa using hb
     subst this
     rw[if_neg (by omega),if_pos (by omega)]
     simp
    |false=>
     have bf:i≠i0:=by simpa using hb
     simp only[cond_false]
     rcases Nat.lt_or_ge i i0 with aO|lq
     ·have:(i+1)*sz≤i0*sz:=Nat.mul_le_mul_right _ aO
      rw[Nat.succ_mul]at this
      rw[if_pos (by omega)]
     ·have:(i0+1)*sz≤i*sz:=Nat.mul_le_mul_right _ (by omega)
      rw[Nat.succ_mul]at this
      rw[if_neg (by omega),if_neg (by omega)]
theorem M0(zero:D)(l:List (Nat×D)):∀(n s i:Nat),(bz zero l n s).length =n∧(i<n→(bz zero l n s)[i]? =some (match tA (s+i) l with|some x=>x|none=>zero))
 |0,s,i=>⟨rfl,fun h=>by omega⟩
 |n+1,s,i=>by
  refine⟨by simp[bz,(M0 zero l n (s+1) 0).1],fun h=>?_⟩
  cases i with
  |zero=>rfl
  |succ i=>
   have:=(M0 zero l n (s+1) i).2 (by omega)
   simp only[bz,List.getElem?_cons_succ]
   rw[this]
   have:s+1+i=s+(i+1):=by omega
   rw[this]
theorem bH.afp(hI:Inv gl w0 ar e a w g){o:Oper}{cells:Array Value}{t:TypeId}{s:SV}{v:Value}{k:Slot→List af→Prop}
  (bq:(execOp a.eval o).run P w=.ok (.value v) (w.alloc (.cells cells t)))
  (rep:∀(g':Gh),(∀o,g'.St w.heap.size o)→Ext w0.heap.size w g (w.alloc (.cells cells t)) g' (fun _=>False)→aP (w.alloc (.cells cells t)) g'.St w0.heap.size (fun _ _ _=>False) s v)
  (hk:k (.v s) e.boxes):bH P gl w0 ar e.ak o a w k:=by
 intro next Q hn
 unfold Oper.wp
 rw[bq]
 have hle:w0.heap.size≤w.heap.size:=hI.below.size
 have hX:Ext w0.heap.size w g (w.alloc (.cells cells t)) {g with St:=fun b o=>g.St b o∨b=w.heap.size} (fun _=>False):=by
  refine⟨fun D o hb ho h=>⟨(jw w _ D (fL h)).trans h,hb,ho,fun x hx=>hx.elim id fun e=>(by have:=fL h;omega)⟩,fun b o h=>⟨.inl h,.qF (jw w _ b (hI.lH h))⟩,fun b o h=>MY w _ b o (by omega),fun i ao h=>h,fun p b a c _ ho=>?_,.of fun b hb=>jw w _ b hb⟩
  have aO:=ho.lt
  obtain⟨h1,h2,h3,⟨cur,ty,h4,nG⟩,h5⟩:=ho
  exact⟨⟨h1,h2,h3,⟨cur,ty,(jw w _ b aO).trans h4,nG⟩,fun o ho=>by rintro(h|h);exact h5 o ho h;omega⟩,fun _=>jw w _ b aO⟩
 have hr:=rep {g with St:=fun b o=>g.St b o∨b=w.heap.size} (fun _=>Or.inr rfl) hX
 refine hn (.v s) _ _ _ {g with St:=fun b o=>g.St b o∨b=w.heap.size} (hI.KH (g':={g with St:=fun b o=>g.St b o∨b=w.heap.size})
  ⟨hX.df,hX.st,hX.bs,hX.bx,fun p b a c _ ho=>hX.own p b a c (fun h=>h) ho,hX.sh⟩ ((Below.refl _ _).alloc (Nat.le_refl _) _) (fun d _=>?_) rfl (fun b o h=>?_)) hk
 ·exact .v _ _ _ (hr.mono (fun _ _ h=>⟨h,.refl _ _ _⟩) (fun _ _ _=>rfl) _ (fun _ _ _ h=>h.elim))
 ·have hs:=zX w (.cells cells t)
  rcases h with h|h
  ·exact .inl h
  ·right;omega
theorem TK{b:Bool}{z:List D}(hf:∀d∈z,d.one=true)(h1:b=false→z.length=1):(bE b z).cells =z:=by
 unfold bE
 cases b
 ·obtain⟨x,rfl⟩:=List.length_eq_one_iff.1 (h1 rfl)
  have:=hf x (by simp)
  cases x<;>first|rfl|simp[D.one]at this
 ·rfl
theorem zY{t e':TypeId}(h:mJ P t=some e'):P.underlying t=some (.slice e'):=by
 unfold mJ at h
 split at h
 ·rename_i nD hu;cases h;exact hu
 ·cases h
theorem Tq(hI:Inv gl w0 ar e a w g){o:Oper}{t:TypeId}{n:Nat}{ps:Array (Nat×Operand)}(ho:o.op=.buildSlice t n ps){K:Nat→List D→Prop}
  (h:ab (mJ P t) fun e'=>ab (lf P e') fun ly=>ab (oT P e') fun z=>ab (qL (fun x=>(Ab.bp gl e x).aa) ps.toList) fun l=>
    bif Nat.ble (n*ly.2) (2^24)&&Nat.blt 0 ly.2&&Nat.beq z.length ly.2 then(bu ly.2 n l=true∧K ly.2 (bz (bE ly.1 z) l n 0))else False):
  ∃(r':Array Value) (e':TypeId) (sz:Nat) (L:List D),K sz L∧(execOp a.eval o).run P w=.ok (.value (.slice (some ⟨w.heap.size,0,none⟩) L.length L.length)) (w.alloc (.cells r' e'))∧r'.size=L.length*sz∧
   L.length≤maxLen∧(∀x∈L,x.cells.length=sz∧∀c∈x.cells,c.one=true)∧∀(i:Nat)x(j:Nat)c,L[i]? =some x→x.cells[j]? =some c→i*sz+j<r'.size∧bh w g.St c (r'.getD (i*sz+j) undef):=by
 obtain⟨e',he,h⟩:=aN h
 obtain⟨⟨b,sz⟩,hl,h⟩:=aN h
 obtain⟨z,hz,h⟩:=aN h
 obtain⟨l,hp,h⟩:=aN h
 cases hc:(Nat.ble (n*sz) (2^24)&&Nat.blt 0 sz&&Nat.beq z.length sz)with
 |false=>simp only[hc,cond_false]at h
 |true=>
  simp only[hc,cond_true]at h
  simp only[Bool.and_eq_true]at hc
  obtain⟨⟨Z8,hc2⟩,hc3⟩:=hc
  obtain⟨qZ,hk⟩:=h
  have hlen:=Nat.eq_of_beq_eq_true hc3
  have Rq:=Nat.le_of_ble_eq_true Z8
  have Ed:0<sz:=Nat.lt_of_succ_le (Nat.le_of_ble_eq_true hc2)
  have hu:=zY he
  obtain⟨hb,hn,bY⟩:=F6 hl
  obtain⟨zv,mU,A4,As,PW⟩:=M5 hz
  have Gv:=Nt hI hp
  have gW:zv.cells.size=sz:=by rw[←A4,hlen]
  have hz0:mL w g.St ((List.range (n*sz)).map fun i=>z.getD (i % sz) .nZ) ((Array.range (n*sz)).map (zv.cells[· % zv.cells.size]!))∧
    ∀d∈((List.range (n*sz)).map fun i=>z.getD (i % sz) .nZ),d.one=true:=by
   have hm:∀i,i % sz<z.length:=fun i=>by rw[hlen];exact Nat.mod_lt _ Ed
   constructor
   ·refine⟨by simp,fun i x v hx hv=>?_⟩
    simp only[List.getElem?_map,Option.map_eq_some_iff]at hx
    obtain⟨j,hj,rfl⟩:=hx
    have hi:i<n*sz:=by have:=(List.getElem?_eq_some_iff.1 hj).1;simpa using this
    rw[List.getElem?_range hi]at hj
    cases hj
    have dc:=hm i
    have LO:i % sz<zv.cells.size:=by rw[gW];exact Nat.mod_lt _ Ed
    simp[hi,gW]at hv
    rw[getElem!_pos zv.cells (i % sz) LO]at hv
    subst hv
    refine PW w g.St (i % sz) _ _ ?_ (Array.getElem?_eq_getElem LO)
    rw[List.getD_eq_getElem?_getD,List.getElem?_eq_getElem dc];rfl
   ·intro d hd
    simp only[List.mem_map,List.mem_range]at hd
    obtain⟨i,hi,rfl⟩:=hd
    have dc:=hm i
    rw[List.getD_eq_getElem?_getD,List.getElem?_eq_getElem dc]
    exact As _ (List.getElem_mem dc)
  obtain⟨r,q1,q2,q3⟩:=T4 sz n l ((List.range (n*sz)).map fun i=>z.getD (i % sz) .nZ) (by simp) qZ
  obtain⟨r',f1,f2,f3⟩:=Of (w:=w) (St:=g.St) _ l _ _ _ r Gv hz0.1 hz0.2 q1
  have Gu:(ps.map fun(i,x)=>(i,a.eval x)).toList =ps.toList.map fun(i,x)=>(i,a.eval x):=by simp
  have Zh:r'.size=n*sz:=by rw[←f2.1,q2]
  have hL:=M0 (bE b z) l n 0
  have GQ:=(hL 0).1
  have Rr:∀i x,tA i l=some x→x.cells.length=sz∧∀c∈x.cells,c.one=true:=by
   intro i x hx
   clear hL GQ q1 q2 q3 f1 f2 f3 hp hk
   revert qZ Gv
   generalize (ps.toList.map fun(i,x)=>(i,a.eval x))=qs
   intro qZ Gv
   induction l generalizing qs with
   |nil=>simp[tA]at hx
   |cons p l ih=>
    obtain⟨j,d⟩:=p
    cases qs with
    |nil=>exact Gv.elim
    |cons q qs=>
     obtain⟨j',v⟩:=q
     obtain⟨_,hd,HH⟩:=Gv
     simp only[bu,Bool.and_eq_true]at qZ
     simp only[tA]at hx
     split at hx
     ·rename_i y hy
      cases hx
      exact ih hy qs qZ.2 HH
     ·cases hb:i==j<;>rw[hb]at hx<;>simp only[cond_true,cond_false,Option.some.injEq,reduceCtorEq]at hx
      subst hx
      exact⟨Nat.eq_of_beq_eq_true qZ.1.2,hd.U2⟩
  have fU:∀i x,(bz (bE b z) l n 0)[i]? =some x→i<n∧x=(match tA i l with|some x=>x|none=>bE b z):=by
   intro i x hx
   have hi:i<n:=by rw[←GQ];exact(List.getElem?_eq_some_iff.1 hx).1
   have:=(hL i).2 hi
   rw[this]at hx
   simp only[Nat.zero_add]at hx
   exact⟨hi,(Option.some.inj hx).symm⟩
  have hmz:(bE b z).cells =z:=TK As (fun h=>by rw[hlen];exact bY h)
  have iZ:∀x∈bz (bE b z) l n 0,x.cells.length=sz∧∀c∈x.cells,c.one=true:=by
   intro x hx
   obtain⟨i,hi⟩:=List.mem_iff_getElem?.1 hx
   obtain⟨_,rfl⟩:=fU i x hi
   split
   ·rename_i y hy;exact Rr _ _ hy
   ·rw[hmz];exact⟨hlen,As⟩
  have mM:n≤maxLen:=by
   have:n*1≤n*sz:=Nat.mul_le_mul_left _ Ed
   simp only[maxLen];omega
  have bq:(execOp a.eval o).run P w=.ok (.value (.slice (some ⟨w.heap.size,0,none⟩) n n)) (w.alloc (.cells r' e')):=by
   have hif:¬(n*sz>2^24):=by omega
   have hns:¬(n*sz=0∧n≠0):=by
    rintro⟨h1,h2⟩
    rcases Nat.mul_eq_zero.1 h1 with h|h<;>omega
   simp only[execOp,ho,Sem.run_bind,Instr.buildSlice,run_underlying hu,Result.andThen_ok,j9 hn,hif,if_false]
   by_cases h0:n*sz=0
   ·have Cz:(Array.range (n*sz)).map (fun x=>(#[]:Array Value)[x % (#[]:Array Value).size]!)=(Array.range (n*sz)).map (zv.cells[· % zv.cells.size]!):=by rw[h0];simp
    simp only[if_pos h0,Sem.run_bind,Sem.run_pure,Result.andThen_ok]
    rw[Cz,Gu,f1]
    simp[newRow]
   ·simp only[if_neg h0,Sem.run_bind,Sem.run_pure,Result.andThen_ok,mU]
    rw[Gu,f1]
    simp[newRow]
  refine⟨r',e',sz,bz (bE b z) l n 0,hk,by rw[GQ];exact bq,by rw[GQ];exact Zh,by rw[GQ];exact mM,iZ,fun i x j c hx hc=>?_⟩
  obtain⟨hi,rfl⟩:=fU i x hx
  have hj:j<sz:=by
   have h1:=(iZ _ (List.mem_of_getElem? hx)).1
   have h2:=(List.getElem?_eq_some_iff.1 hc).1
   omega
  have aO:i*sz+j<n*sz:=by
   have:(i+1)*sz≤n*sz:=Nat.mul_le_mul_right _ hi
   rw[Nat.succ_mul]at this;omega
  have hq:=q3 i j hi hj
  have hcr:r[i*sz+j]? =some c:=by
   rw[hq]
   cases HG:tA i l with
   |some y=>rw[HG]at hc;exact hc
   |none=>
    rw[HG]at hc
    simp only at hc
    rw[hmz]at hc
    simp only
    rw[List.getElem?_map,List.getElem?_range aO]
    have Ce:(i*sz+j) % sz=j:=by rw[Nat.add_comm,Nat.add_mul_mod_self_right,Nat.mod_eq_of_lt hj]
    simp only[Option.map_some,Ce,List.getD_eq_getElem?_getD,hc,Option.getD_some]
  have mh:i*sz+j<r'.size:=by rw[Zh];exact aO
  refine⟨mh,f2.2 (i*sz+j) c _ hcr ?_⟩
  simp[mh]
theorem aaa(hI:Inv gl w0 ar e a w g){o:Oper}{t:TypeId}{n:Nat}{ps:Array (Nat×Operand)}(ho:o.op=.buildSlice t n ps){k:Slot→List af→Prop}
  (h:ab (mJ P t) fun e'=>ab (lf P e') fun ly=>ab (oT P e') fun z=>ab (qL (fun x=>(Ab.bp gl e x).aa) ps.toList) fun l=>
    bif Nat.ble (n*ly.2) (2^24)&&Nat.blt 0 ly.2&&Nat.beq z.length ly.2 then(bu ly.2 n l=true∧k (.v (.full ly.2 (bz (bE ly.1 z) l n 0))) e.boxes)else False):
  bH P gl w0 ar e.ak o a w k:=by
 obtain⟨r',e',sz,L,hk,bq,aM,mM,iZ,bw⟩:=Tq hI ho (K:=fun sz L=>k (.v (.full sz L)) e.boxes) h
 refine bH.afp hI (cells:=r') (t:=e') bq (fun g' aY hX=>?_) hk
 refine .full (w:=w.alloc (.cells r' e')) (St:=g'.St) (base:=w0.heap.size) (fun _ _ _=>False) sz L ⟨w.heap.size,0,none⟩ ?_
 refine bh.sl (w:=w.alloc (.cells r' e')) (St:=g'.St) sz L w.heap.size 0 L.length (fun o=>r'.getD o undef) (Nat.le_refl _) mM (fun x hx=>(iZ x hx).1) (fun x hx=>(iZ x hx).2)
  (fun o' bQ=>⟨by
    rw[cell_of_row _ w.heap.size (0+o') r' e' (0,0) (uO w _)]
    simp[aM,bQ],aY _⟩) (fun i x j c hx hc=>hX.xd (bw i x j c hx hc).2)
theorem bH.WV(hI:Inv gl w0 ar e a w g){o:Oper}{cells:Array Value}{t:TypeId}{sz:Nat}{L:List D}{k:Slot→List af→Prop}
  (bq:(execOp a.eval o).run P w=.ok (.value (.slice (some ⟨w.heap.size,0,none⟩) L.length L.length)) (w.alloc (.cells cells t)))
  (aM:cells.size=L.length*sz)(mM:L.length≤maxLen)(iZ:∀x∈L,x.cells.length=sz∧∀c∈x.cells,c.one=true)
  (rep:∀(i:Nat)x(j:Nat)c,L[i]? =some x→x.cells[j]? =some c→i*sz+j<cells.size∧bh w g.St c (cells.getD (i*sz+j) undef))
  (hk:k (.v (.aZ sz L)) e.boxes):bH P gl w0 ar e.ak o a w k:=by
 intro next Q hn
 unfold Oper.wp
 rw[bq]
 have hle:w0.heap.size≤w.heap.size:=hI.below.size
 let g':Gh:={g with ow:=fun b=>if b=w.heap.size then o.dst.map (fun d=>.s d 0)else g.ow b}
 have hX:Ext w0.heap.size w g (w.alloc (.cells cells t)) g' (fun _=>False):=by
  refine⟨fun D ob hb ho h=>⟨(jw w _ D (fL h)).trans h,hb,(by
   show(if D=w.heap.size then o.dst.map (fun d=>Pos.s d 0)else g.ow D)=none
   rw[if_neg (by have:=fL h;omega)];exact ho),fun _ h=>h⟩,fun b o h=>⟨h,.qF (jw w _ b (hI.lH h))⟩,fun b o h=>MY w _ b o (by omega),fun i ao h=>h,fun p b a c _ ho=>?_,.of fun b hb=>jw w _ b hb⟩
  have aO:=ho.lt
  obtain⟨h1,h2,h3,⟨cur,ty,h4,nG⟩,h5⟩:=ho
  refine⟨⟨?_,h2,h3,⟨cur,ty,(jw w _ b aO).trans h4,nG⟩,h5⟩,fun _=>jw w _ b aO⟩
  show(if b=w.heap.size then o.dst.map (fun d=>Pos.s d 0)else g.ow b)=some p
  rw[if_neg (by omega)];exact h1
 refine hn (.v (.aZ sz L)) _ _ _ g' (hI.KH (g':=g')
  ⟨hX.df,hX.st,hX.bs,hX.bx,fun p b a c _ ho=>hX.own p b a c (fun h=>h) ho,hX.sh⟩ ((Below.refl _ _).alloc (Nat.le_refl _) _) (fun d hd=>?_) rfl (fun b o h=>.inl h)) hk
 refine .v _ _ _ (.aZ (w:=w.alloc (.cells cells t)) _ sz L w.heap.size L.length (fun o=>cells.getD o undef) (Nat.le_refl _) mM (fun x hx=>(iZ x hx).1) (fun x hx=>(iZ x hx).2) ?_ (fun o' bQ=>?_)
  (fun i x j c hx hc=>hX.xd (rep i x j c hx hc).2))
 ·refine⟨?_,hle,fun hm=>by have:=(hI.dF _ hm).2;omega,⟨cells,t,uO w _,aM⟩,fun o' _ aY=>by have:=hI.lH aY;omega⟩
  show(if w.heap.size=w.heap.size then o.dst.map (fun d=>Pos.s d 0)else g.ow w.heap.size)=some (.s d 0)
  rw[if_pos rfl,hd];rfl
 ·have:=cell_of_row (w.alloc (.cells cells t)) w.heap.size o' cells t (0,0) (uO w _)
  rw[this]
  simp[aM,bQ]
end
end Go.Proofs.Ytimbllcalipehaa.Ab
namespace Go.Proofs.Ytimbllcalipehaa.Ab
open Go Go.RowKit
section
variable{P:Program}{gl:Nat→Option D}{w0:World}{ar:S0}{e:Env}{a:Act}{w:World}{g:Gh}
structure u3(e:Env)(ak:List Slot)(lost:Nat→Prop)(dst:Option Nat):Prop where
 len:ak.length=e.ak.length
 at_:∀(i:Nat)x,ak[i]? =some x→dst≠some i→∃y,e.ak[i]? =some y∧((x=y∧¬lost i)∨x=y.aa)
theorem u3.same(e:Env)(dst:Option Nat):u3 e e.ak (fun _=>False) dst:=⟨rfl,fun _ x h _=>⟨x,h,.inl ⟨rfl,fun h=>h⟩⟩⟩
def BX(lost:Nat→Prop)(dst:Option Nat)(p:Pos):Prop:=∃i j,p=.s i j∧(lost i∨dst=some i)
theorem Inv.hand(hI:Inv gl w0 ar e a w g){w':World}{g':Gh}{ak:List Slot}{lost:Nat→Prop}{dst:Option Nat}(hH:u3 e ak lost dst)
  (hX:Ext w0.heap.size w g w' g' (BX lost dst)){s:Slot}{v:Value}(qO:Below w0.heap.size w w')
  (pP:∀d,dst=some d→cE w0.heap.size w' g' (fO w0.heap.size w' g' d) s v)(eB:g'.bx=g.bx)(dM:∀b,some b∈g.bx→w'.heap[b]? =w.heap[b]?)
  (Cc:∀b o,g'.St b o→(ar b o∨w0.heap.size≤b)∧some b∉g.bx∧b<w'.heap.size):
  Inv gl w0 ar ⟨cS ak dst s,e.boxes⟩ (a.put dst v) w' g':=by
 refine hI.step hX qO hH.len (fun i x hx hd=>?_) pP (by rw[eB];exact hI.fQ) ?_ (by rw[eB];exact hI.nodup) ?_ (fun b o h=>by rw[eB];exact Cc b o h)
 ·obtain⟨y,hy,⟨rfl,hl⟩|h⟩:=hH.at_ i x hx hd
  ·refine⟨x,hy,.inl ⟨rfl,fun j=>?_⟩⟩
   rintro⟨i',j',h,jn|jn⟩
   ·cases h;exact hl jn
   ·cases h;exact hd jn
  ·exact⟨y,hy,.inr h⟩
 ·intro b bx ao h1 h2
  rw[eB]at h2
  refine hX.box (fun j=>?_) (dM ao (List.mem_of_getElem? h2)) (hI.boxes b bx ao h1 h2)
  rintro⟨i,j',h,_⟩
  cases h
 ·intro b hb
  rw[eB]at hb
  have:=qO.size
  have:=hI.dF b hb
  omega
def Gh.mv(g:Gh)(b:Nat)(p:Pos):Gh:={g with ow:=fun b'=>if b'=b then some p else g.ow b'}
theorem Ext.mv{base:Nat}{i:Nat}{b a0 c0:Nat}(ho:fa base w g (.s i 0) b a0 c0){lost:Nat→Prop}(hl:lost i)(dst:Option Nat)(q:Pos):Ext base w g w (g.mv b q) (BX lost dst):=by
 refine⟨fun D _ hb hn h=>⟨h,hb,(by
  simp only[Gh.mv]
  rw[if_neg (fun e=>by rw[e,ho.1]at hn;cases hn)];exact hn),fun _ h=>h⟩,fun _ _ h=>(by first|exact⟨h,rfl⟩|exact⟨h,.refl _ _ _⟩),fun _ _ _=>rfl,fun _ _ h=>h,fun p b' a' c' hp bQ=>⟨?_,.refl _ _ _⟩,.refl _⟩
 obtain⟨h1,h2,h3,h4,h5⟩:=bQ
 refine⟨?_,h2,h3,h4,h5⟩
 simp only[Gh.mv]
 split
 ·rename_i hb
  subst hb
  exfalso
  rw[ho.1]at h1
  cases h1
  exact hp ⟨i,0,rfl,.inl hl⟩
 ·exact h1
theorem aab{t ty e':TypeId}{i:TypeInfo}(ht:P.underlying t=some (.slice e'))(hi:P.info? e'=some i)(base:Option Addr)(n cap:Nat)(hn:n≤cap){y:Value}
  (hy:y=.slice none 0 0∨∃ad c,y=.slice (some ad) 0 c):(Builtin.append_ #[t,t] ty #[.slice base n cap,y]).run P w=.ok (.slice base n cap) w:=by
 rcases hy with rfl|⟨ad,c,rfl⟩
 ·cases base<;>simp[Builtin.append_,run_underlying ht,sizeOf,typeInfo,hi,Builtin.lenOf,hn,Builtin.firstCells,storeCells]
 ·cases base<;>simp[Builtin.append_,run_underlying ht,sizeOf,typeInfo,hi,Builtin.lenOf,hn,Builtin.firstCells,loadCells,loadCellsFrom,storeCells]
theorem MU{t ty e' te:TypeId}{i:TypeInfo}(ht:P.underlying t=some (.slice e'))(hi:P.info? e'=some i){gg n cap:Nat}{cur:Array Value}(hg:w.heap[gg]? =some (.cells cur te (0,0)))
  {ad:Addr}{m c:Nat}(news:List Value)(hl:news.length=m*i.size)(GR:∀j u,news[j]? =some u→w.cell? (ad.add j)=some u)(h1:∀u∈news,u.oneCell'=true)
  (sF:n+m≤cap)(qZ:n*i.size+news.length≤cur.size):
  (Builtin.append_ #[t,t] ty #[.slice (some ⟨gg,0,none⟩) n cap,.slice (some ad) m c]).run P w=
    .ok (.slice (some ⟨gg,0,none⟩) (n+m) cap) (w.setRow gg (cur.toList.take (n*i.size)++news++cur.toList.drop (n*i.size+news.length)).toArray):=by
 have hf:=run_firstCells_some (P:=P) w i.size m ad m c news hl GR
 have aY:=run_storeCells_at P gg (n*i.size) te news 0 cur w hg (by simpa using qZ) h1
 simp only[Nat.add_zero]at aY
 simp[Builtin.append_,run_underlying ht,sizeOf,typeInfo,hi,Builtin.lenOf,sF,hf,Addr.add_lit,aY]
theorem zZ{sz n:Nat}{vs:Nat→Value}{b off:Nat}{St:Nat→Nat→Prop}(aR:∀(o:Nat),o<n*sz→w.cell? ⟨b,off+o,none⟩=some (vs o)∧St b (off+o)):
  ∃l:List Value,l.length=n*sz∧(∀j u,l[j]? =some u→w.cell? ((⟨b,off,none⟩:Addr).add j)=some u)∧∀j,j<n*sz→l[j]? =some (vs j):=by
 refine⟨(List.range (n*sz)).map vs,by simp,fun j u hu=>?_,fun j hj=>by simp[hj]⟩
 have hj:j<n*sz:=by have:=(List.getElem?_eq_some_iff.1 hu).1;simpa using this
 simp[hj]at hu
 subst hu
 rw[pB]
 exact(aR j hj).1
theorem JE{sz:Nat}{L M:List D}(hL:∀x∈L,x.cells.length=sz){i:Nat}{x:D}(hx:(L++M)[i]? =some x){j:Nat}{c:D}(hc:x.cells[j]? =some c){St:Nat→Nat→Prop}
  {f h:Nat→Value}(hf:∀(i:Nat)x(j:Nat)c,L[i]? =some x→x.cells[j]? =some c→bh w St c (f (i*sz+j)))(hh:∀(i:Nat)x(j:Nat)c,M[i]? =some x→x.cells[j]? =some c→bh w St c (h (i*sz+j)))
  (hM:∀x∈M,x.cells.length=sz):bh w St c (if i*sz+j<L.length*sz then f (i*sz+j)else h (i*sz+j-L.length*sz)):=by
 rw[List.getElem?_append]at hx
 have hj:=(List.getElem?_eq_some_iff.1 hc).1
 split at hx
 ·rename_i hi
  rw[hL x (List.mem_of_getElem? hx)]at hj
  have:(i+1)*sz≤L.length*sz:=Nat.mul_le_mul_right _ hi
  rw[Nat.succ_mul]at this
  rw[if_pos (by omega)]
  exact hf i x j c hx hc
 ·rename_i hi
  rw[hM x (List.mem_of_getElem? hx)]at hj
  have h1:L.length*sz≤i*sz:=Nat.mul_le_mul_right _ (by omega)
  rw[if_neg (by omega)]
  have:=hh (i-L.length) x j c hx hc
  have e1:i*sz+j-L.length*sz=(i-L.length)*sz+j:=by rw[Nat.sub_mul];omega
  rw[e1]
  exact this
theorem Inv.grow(hI:Inv gl w0 ar e a w g){ak:List Slot}{lost:Nat→Prop}{dst:Option Nat}(hH:u3 e ak lost dst){sz:Nat}{L M:List D}{cap:Nat}{te:TypeId}{fb news rest:List Value}
  (hL:∀x∈L,x.cells.length=sz)(hM:∀x∈M,x.cells.length=sz)(sU:∀x∈L,∀c∈x.cells,c.one=true)(mw:∀x∈M,∀c∈x.cells,c.one=true)
  (ho:fb.length=L.length*sz)(hn:news.length=M.length*sz)(hr:rest.length=(cap-(L.length+M.length))*sz)(bM:L.length+M.length≤cap)(gB:cap≤maxLen)
  {f h:Nat→Value}(sV:∀j,j<L.length*sz→fb[j]? =some (f j))(vw:∀j,j<M.length*sz→news[j]? =some (h j))
  (hf:∀(i:Nat)x(j:Nat)c,L[i]? =some x→x.cells[j]? =some c→bh w g.St c (f (i*sz+j)))(hh:∀(i:Nat)x(j:Nat)c,M[i]? =some x→x.cells[j]? =some c→bh w g.St c (h (i*sz+j))):
  ∃g',Inv gl w0 ar ⟨cS ak dst (.v (.own sz (L++M))),e.boxes⟩ (a.put dst (.slice (some ⟨w.heap.size,0,none⟩) (L.length+M.length) cap))
   (w.drew.alloc (.cells (fb++news++rest).toArray te)) g':=by
 have hle:w0.heap.size≤w.heap.size:=hI.below.size
 have amR:w.drew.heap=w.heap:=rfl
 have aM:(w.drew.alloc (.cells (fb++news++rest).toArray te)).heap.size =w.heap.size+1:=zX w.drew _
 have hold:=fun b(hb:b<w.heap.size)=>jw w.drew (.cells (fb++news++rest).toArray te) b hb
 have lI:=uO w.drew (.cells (fb++news++rest).toArray te)
 have At:∀b o,b<w.heap.size→(w.drew.alloc (.cells (fb++news++rest).toArray te)).cell? ⟨b,o,none⟩=w.cell? ⟨b,o,none⟩:=fun b o hb=>World.cell?_of_block (hold b hb)
 refine⟨{St:=fun b o=>g.St b o∨(b=w.heap.size∧o<(L.length+M.length)*sz),bx:=g.bx,ow:=fun b=>if b=w.heap.size then(dst.map fun d=>.s d 0)else g.ow b},?_⟩
 have hX:Ext w0.heap.size w g (w.drew.alloc (.cells (fb++news++rest).toArray te))
   {St:=fun b o=>g.St b o∨(b=w.heap.size∧o<(L.length+M.length)*sz),bx:=g.bx,ow:=fun b=>if b=w.heap.size then(dst.map fun d=>.s d 0)else g.ow b} (BX lost dst):=by
  refine⟨fun D o hb ho h=>⟨(hold D (fL h)).trans h,hb,(by
   simp only
   rw[if_neg (by have:=fL h;omega)];exact ho),fun x hx=>hx.elim id fun e=>(by have:=fL h;omega)⟩,fun b o h=>⟨.inl h,.qF (hold b (hI.lH h))⟩,fun b o h=>At b o (by omega),fun _ _ h=>h,fun p b a' c' _ bQ=>⟨?_,fun _=>hold b bQ.lt⟩,.of fun b hb=>hold b hb⟩
  have aO:=bQ.lt
  obtain⟨h1,h2,h3,⟨cur,ty,h4,nG⟩,h5⟩:=bQ
  refine⟨?_,h2,h3,⟨cur,ty,(hold b aO).trans h4,nG⟩,fun o ho=>?_⟩
  ·simp only
   rw[if_neg (by omega)];exact h1
  ·rintro(h|h)
   ·exact h5 o ho h
   ·omega
 refine hI.hand hH hX ⟨rfl,rfl,rfl,by omega,fun k hk=>hold k (by omega)⟩ (fun d hd=>?_) rfl (fun b hb=>hold b (hI.dF b hb).2) (fun b o h=>?_)
 ·have hlen:(L++M).length =L.length+M.length:=List.length_append
  have ck:(fb++news++rest).toArray.size =cap*sz:=by
   simp only[List.size_toArray,List.length_append,ho,hn,hr]
   rw[←Nat.add_mul,←Nat.add_mul]
   congr 1
   omega
  have bw:=bh.sl (w:=w.drew.alloc (.cells (fb++news++rest).toArray te)) (St:=fun b o=>g.St b o∨(b=w.heap.size∧o<(L.length+M.length)*sz)) sz (L++M) w.heap.size 0 cap
   (fun o=>if o<L.length*sz then f o else h (o-L.length*sz)) (by omega) (by omega) (fun x hx=>(List.mem_append.1 hx).elim (hL x) (hM x)) (fun x hx=>(List.mem_append.1 hx).elim (sU x) (mw x))
   (fun o bQ=>by
     rw[hlen]at bQ
     refine⟨?_,.inr ⟨rfl,by omega⟩⟩
     rw[cell_of_row _ w.heap.size (0+o) _ te (0,0) lI]
     simp only[Nat.zero_add,List.getElem?_toArray]
     rw[List.append_assoc,List.getElem?_append]
     split
     ·rename_i h1
      rw[ho]at h1
      rw[if_pos h1];exact sV o h1
     ·rename_i h1
      rw[ho]at h1 ⊢
      rw[if_neg h1]
      have aO:o-L.length*sz<M.length*sz:=by rw[Nat.add_mul]at bQ;omega
      rw[List.getElem?_append_left (by rw[hn];exact aO)]
      exact vw _ aO)
   (fun i x j c hx hc=>(JE hL hx hc hf hh hM).mono fun b o h=>⟨.inl h,At b o (hI.lH h)⟩)
  rw[hlen]at bw
  refine .v _ _ _ ?_
  have iO:=aP.own (w:=w.drew.alloc (.cells (fb++news++rest).toArray te)) (St:=fun b o=>g.St b o∨(b=w.heap.size∧o<(L.length+M.length)*sz)) (base:=w0.heap.size)
   (fO w0.heap.size (w.drew.alloc (.cells (fb++news++rest).toArray te)) {St:=fun b o=>g.St b o∨(b=w.heap.size∧o<(L.length+M.length)*sz),bx:=g.bx,ow:=fun b=>if b=w.heap.size then(dst.map fun d=>.s d 0)else g.ow b} d 0)
   sz (L++M) w.heap.size cap (by rw[hlen];exact bw) gB ?_
  ·rw[hlen]at iO;exact iO
  ·refine⟨by simp[hd],hle,fun hb=>by have:=(hI.dF _ hb).2;omega,⟨_,te,lI,ck⟩,fun o ho=>?_⟩
   rw[hlen]at ho
   rintro(h|h)
   ·have:=hI.lH h;omega
   ·omega
 ·rcases h with h|h
  ·have:=hI.cW b o h
   exact⟨this.1,this.2.1,by omega⟩
  ·obtain⟨rfl,_⟩:=h
   exact⟨.inr hle,fun hb=>by have:=(hI.dF _ hb).2;omega,by omega⟩
theorem Inv.room(hI:Inv gl w0 ar e a w g){ak:List Slot}{lost:Nat→Prop}{dst:Option Nat}(hH:u3 e ak lost dst){sz:Nat}{L M:List D}{cap gg i0:Nat}{news:List Value}
  (sX:fa w0.heap.size w g (.s i0 0) gg (L.length*sz) (cap*sz))(hl:lost i0)
  (yX:bh w g.St (.sl .ro sz L) (.slice (some ⟨gg,0,none⟩) L.length cap)){cur:Array Value}{te:TypeId}(mj:w.heap[gg]? =some (.cells cur te (0,0)))(ck:cur.size=cap*sz)
  (hM:∀x∈M,x.cells.length=sz)(mw:∀x∈M,∀c∈x.cells,c.one=true)
  (hn:news.length=M.length*sz)(bM:L.length+M.length≤cap)(gB:cap≤maxLen)
  {h:Nat→Value}(vw:∀j,j<M.length*sz→news[j]? =some (h j))(hh:∀(i:Nat)x(j:Nat)c,M[i]? =some x→x.cells[j]? =some c→bh w g.St c (h (i*sz+j))):
  ∃g',Inv gl w0 ar ⟨cS ak dst (.v (.own sz (L++M))),e.boxes⟩ (a.put dst (.slice (some ⟨gg,0,none⟩) (L.length+M.length) cap))
   (w.setRow gg (cur.toList.take (L.length*sz)++news++cur.toList.drop (L.length*sz+news.length)).toArray) g':=by
 obtain⟨o1,o2,o3,_,o5⟩:=sX
 have oH:gg<w.heap.size:=(Array.getElem?_eq_some_iff.1 mj).1
 have qZ:L.length*sz+M.length*sz≤cap*sz:=by rw[←Nat.add_mul];exact Nat.mul_le_mul_right _ bM
 let w':=w.setRow gg (cur.toList.take (L.length*sz)++news++cur.toList.drop (L.length*sz+news.length)).toArray
 let g':Gh:={St:=fun b o=>g.St b o∨(b=gg∧o<(L.length+M.length)*sz),bx:=g.bx,ow:=fun b=>if b=gg then(dst.map fun d=>.s d 0)else g.ow b}
 have dQ:∀k,k≠gg→w'.heap[k]? =w.heap[k]? :=fun k hk=>setRow_other w gg k _ hk
 have lI:w'.heap[gg]? =some (.cells (cur.toList.take (L.length*sz)++news++cur.toList.drop (L.length*sz+news.length)).toArray te (0,0)):=setRow_heap w gg cur _ te (0,0) mj
 have jF:∀o,w'.cell? ⟨gg,o,none⟩=if o<L.length*sz then cur[o]? else if o<L.length*sz+M.length*sz then news[o-L.length*sz]? else cur[o]? :=by
  intro o
  rw[cell_of_row w' gg o _ te (0,0) lI]
  simp only[List.getElem?_toArray]
  rw[tx cur.toList news (L.length*sz) (by simp[ck,hn];omega)]
  simp only[hn,Array.getElem?_toList]
 have At:∀b o,(b=gg→o<L.length*sz)→w'.cell? ⟨b,o,none⟩=w.cell? ⟨b,o,none⟩:=by
  intro b o hb
  by_cases oI:b=gg
  ·subst oI
   rw[jF,if_pos (hb rfl),cell_of_row w b o cur te (0,0) mj]
  ·exact World.cell?_of_block (dQ b oI)
 have hX:Ext w0.heap.size w g w' g' (BX lost dst):=by
  refine⟨fun D ob hb eT h=>(have bf:D≠gg:=(fun e=>by rw[e,o1]at eT;cases eT);⟨(dQ D bf).trans h,hb,(by
   show(if D=gg then(dst.map fun d=>Pos.s d 0)else g.ow D)=none
   rw[if_neg bf];exact eT),fun x hx=>hx.elim id fun e=>absurd e.1 bf⟩),fun b o h=>⟨.inl h,At b o (fun hb=>?_),fun es c hm=>(dQ b (fun hb=>by rw[hb,mj]at hm;cases hm)).trans hm⟩,fun b o hb=>At b o (fun h=>by omega),fun _ _ h=>h,fun p b a' c' hp bQ=>?_,fun b c ty _ hb=>(by
   by_cases oI:b=gg
   ·subst oI
    rw[mj]at hb;cases hb
    refine⟨_,_,lI,?_⟩
    have dv:cur.toList.length=cap*sz:=by simpa using ck
    rw[List.size_toArray,List.length_append,List.length_append,List.length_take,List.length_drop,hn,dv,ck];omega
   ·exact⟨c,ty,(dQ b oI).trans hb,rfl⟩)⟩
  ·subst hb
   rcases Nat.lt_or_ge o (L.length*sz)with h1|h1
   ·exact h1
   ·exact absurd h (o5 o h1)
  ·obtain⟨h1,h2,h3,⟨iW,ty,h4,nG⟩,h5⟩:=bQ
   have oI:b≠gg:=by
    rintro rfl
    rw[o1]at h1
    cases h1
    exact hp ⟨i0,0,rfl,.inl hl⟩
   refine⟨⟨?_,h2,h3,⟨iW,ty,(dQ b oI).trans h4,nG⟩,fun o ho=>?_⟩,fun _=>dQ b oI⟩
   ·show(if b=gg then(dst.map fun d=>Pos.s d 0)else g.ow b)=some p
    rw[if_neg oI];exact h1
   ·rintro(h|h)
    ·exact h5 o ho h
    ·exact oI h.1
 refine⟨g',hI.hand hH hX ⟨rfl,rfl,rfl,by simp[w',World.setRow],fun k hk=>dQ k (by omega)⟩ (fun d hd=>?_) rfl (fun b hb=>dQ b (fun h=>o3 (h▸hb))) (fun b o h=>?_)⟩
 ·have hlen:(L++M).length =L.length+M.length:=List.length_append
  cases yX with
  |mr _ _ _ ha=>exact absurd rfl ha
  |sl _ _ _ _ _ vs amS hm hL sU aR hc=>
   have bw:=bh.sl (w:=w') (St:=g'.St) sz (L++M) gg 0 cap
    (fun o=>if o<L.length*sz then vs o else h (o-L.length*sz)) (by omega) (by omega) (fun x hx=>(List.mem_append.1 hx).elim (hL x) (hM x)) (fun x hx=>(List.mem_append.1 hx).elim (sU x) (mw x))
    (fun o bQ=>by
      rw[hlen,Nat.add_mul]at bQ
      refine⟨?_,.inr ⟨rfl,by rw[Nat.add_mul];omega⟩⟩
      rw[Nat.zero_add,jF]
      split
      ·rename_i h1
       have:=(aR o h1).1
       rw[Nat.zero_add,cell_of_row w gg o cur te (0,0) mj]at this
       exact this
      ·rename_i h1
       exact vw _ (by omega))
    (fun i x j c hx iI=>(JE hL hx iI hc hh hM).mono hX.Z6)
   refine .v _ _ _ ?_
   have iO:=aP.own (w:=w') (St:=g'.St) (base:=w0.heap.size) (fO w0.heap.size w' g' d 0) sz (L++M) gg cap (by rw[hlen]at bw ⊢;exact bw) gB ?_
   ·rw[hlen]at iO;exact iO
   ·refine⟨by simp[g',hd],o2,o3,⟨_,te,lI,?_⟩,fun o ho=>?_⟩
    ·have dv:cur.toList.length=cap*sz:=by simpa using ck
     rw[List.size_toArray,List.length_append,List.length_append,List.length_take,List.length_drop,hn,dv];omega
    ·rw[hlen]at ho
     have:L.length*sz≤(L.length+M.length)*sz:=Nat.mul_le_mul_right _ (by omega)
     rintro(h|h)
     ·exact o5 o (by omega) h
     ·omega
 ·have hs:w'.heap.size=w.heap.size:=by simp[w',World.setRow]
  rcases h with h|h
  ·have:=hI.cW b o h
   exact⟨this.1,this.2.1,by omega⟩
  ·obtain⟨rfl,_⟩:=h
   exact⟨.inr o2,o3,by omega⟩
theorem Inv.YM(hI:Inv gl w0 ar e a w g){ak:List Slot}{lost:Nat→Prop}{dst:Option Nat}(hH:u3 e ak lost dst){sz:Nat}{L M:List D}{cap:Nat}{te:TypeId}{fb news rest:List Value}
  (hL:∀x∈L,x.cells.length=sz)(hM:∀x∈M,x.cells.length=sz)(sU:∀x∈L,∀c∈x.cells,c.one=true)(mw:∀x∈M,∀c∈x.cells,c.one=true)
  (ho:fb.length=L.length*sz)(hn:news.length=M.length*sz)(hr:rest.length=(cap-(L.length+M.length))*sz)(bM:L.length+M.length≤cap)(gB:cap≤maxLen)
  {f h:Nat→Value}(sV:∀j,j<L.length*sz→fb[j]? =some (f j))(vw:∀j,j<M.length*sz→news[j]? =some (h j))
  (hf:∀(i:Nat)x(j:Nat)c,L[i]? =some x→x.cells[j]? =some c→bh w g.St c (f (i*sz+j)))(hh:∀(i:Nat)x(j:Nat)c,M[i]? =some x→x.cells[j]? =some c→bh w g.St c (h (i*sz+j))):
  ∃g',Inv gl w0 ar ⟨cS ak dst (.v (.aZ sz (L++M))),e.boxes⟩ (a.put dst (.slice (some ⟨w.heap.size,0,none⟩) (L.length+M.length) cap))
   (w.drew.alloc (.cells (fb++news++rest).toArray te)) g':=by
 have hle:w0.heap.size≤w.heap.size:=hI.below.size
 have aM:(w.drew.alloc (.cells (fb++news++rest).toArray te)).heap.size =w.heap.size+1:=zX w.drew _
 have hold:=fun b(hb:b<w.heap.size)=>jw w.drew (.cells (fb++news++rest).toArray te) b hb
 have lI:=uO w.drew (.cells (fb++news++rest).toArray te)
 have At:∀b o,b<w.heap.size→(w.drew.alloc (.cells (fb++news++rest).toArray te)).cell? ⟨b,o,none⟩=w.cell? ⟨b,o,none⟩:=fun b o hb=>World.cell?_of_block (hold b hb)
 let g':Gh:={St:=g.St,bx:=g.bx,ow:=fun b=>if b=w.heap.size then(dst.map fun d=>.s d 0)else g.ow b}
 have hX:Ext w0.heap.size w g (w.drew.alloc (.cells (fb++news++rest).toArray te)) g' (BX lost dst):=by
  refine⟨fun D o hb ho h=>⟨(hold D (fL h)).trans h,hb,(by
   show(if D=w.heap.size then(dst.map fun d=>Pos.s d 0)else g.ow D)=none
   rw[if_neg (by have:=fL h;omega)];exact ho),fun x hx=>hx⟩,fun b o h=>⟨h,.qF (hold b (hI.lH h))⟩,fun b o h=>At b o (by omega),fun _ _ h=>h,fun p b a' c' _ bQ=>⟨?_,fun _=>hold b bQ.lt⟩,.of fun b hb=>hold b hb⟩
  have aO:=bQ.lt
  obtain⟨h1,h2,h3,⟨cur,ty,h4,nG⟩,h5⟩:=bQ
  refine⟨?_,h2,h3,⟨cur,ty,(hold b aO).trans h4,nG⟩,h5⟩
  show(if b=w.heap.size then(dst.map fun d=>Pos.s d 0)else g.ow b)=some p
  rw[if_neg (by omega)];exact h1
 refine⟨g',hI.hand hH hX ⟨rfl,rfl,rfl,by omega,fun k hk=>hold k (by omega)⟩ (fun d hd=>?_) rfl (fun b hb=>hold b (hI.dF b hb).2) (fun b o h=>?_)⟩
 ·have hlen:(L++M).length =L.length+M.length:=List.length_append
  have ck:(fb++news++rest).toArray.size =cap*sz:=by
   simp only[List.size_toArray,List.length_append,ho,hn,hr]
   rw[←Nat.add_mul,←Nat.add_mul]
   congr 1
   omega
  refine .v _ _ _ ?_
  have hm:=aP.aZ (w:=w.drew.alloc (.cells (fb++news++rest).toArray te)) (St:=g.St) (base:=w0.heap.size) (fO w0.heap.size (w.drew.alloc (.cells (fb++news++rest).toArray te)) g' d 0)
   sz (L++M) w.heap.size cap (fun o=>if o<L.length*sz then f o else h (o-L.length*sz)) (by omega) gB (fun x hx=>(List.mem_append.1 hx).elim (hL x) (hM x)) (fun x hx=>(List.mem_append.1 hx).elim (sU x) (mw x))
   ⟨by simp[g',hd],hle,fun hb=>by have:=(hI.dF _ hb).2;omega,⟨_,te,lI,ck⟩,fun o _ hs=>by have:=hI.lH hs;omega⟩
   (fun o bQ=>by
     rw[hlen]at bQ
     rw[cell_of_row _ w.heap.size o _ te (0,0) lI]
     simp only[List.getElem?_toArray]
     rw[List.append_assoc,List.getElem?_append]
     split
     ·rename_i h1
      rw[ho]at h1
      rw[if_pos h1];exact sV o h1
     ·rename_i h1
      rw[ho]at h1 ⊢
      rw[if_neg h1]
      have aO:o-L.length*sz<M.length*sz:=by rw[Nat.add_mul]at bQ;omega
      rw[List.getElem?_append_left (by rw[hn];exact aO)]
      exact vw _ aO)
   (fun i x j c hx hc=>(JE hL hx hc hf hh hM).mono fun b o h=>⟨h,At b o (hI.lH h)⟩)
  rw[hlen]at hm
  exact hm
 ·have:=hI.cW b o h
  exact⟨this.1,this.2.1,by omega⟩
theorem Inv.ajv(hI:Inv gl w0 ar e a w g){ak:List Slot}{lost:Nat→Prop}{dst:Option Nat}(hH:u3 e ak lost dst){sz:Nat}{L M:List D}{cap gg i0:Nat}{news:List Value}
  (sX:fa w0.heap.size w g (.s i0 0) gg 0 (cap*sz))(hl:lost i0){vs:Nat→Value}
  (hL:∀x∈L,x.cells.length=sz)(sU:∀x∈L,∀c∈x.cells,c.one=true)(aR:∀(o:Nat),o<L.length*sz→w.cell? ⟨gg,o,none⟩=some (vs o))
  (hc:∀(i:Nat)x(j:Nat)c,L[i]? =some x→x.cells[j]? =some c→bh w g.St c (vs (i*sz+j))){cur:Array Value}{te:TypeId}(mj:w.heap[gg]? =some (.cells cur te (0,0)))(ck:cur.size=cap*sz)
  (hM:∀x∈M,x.cells.length=sz)(mw:∀x∈M,∀c∈x.cells,c.one=true)
  (hn:news.length=M.length*sz)(bM:L.length+M.length≤cap)(gB:cap≤maxLen)
  {h:Nat→Value}(vw:∀j,j<M.length*sz→news[j]? =some (h j))(hh:∀(i:Nat)x(j:Nat)c,M[i]? =some x→x.cells[j]? =some c→bh w g.St c (h (i*sz+j))):
  ∃g',Inv gl w0 ar ⟨cS ak dst (.v (.aZ sz (L++M))),e.boxes⟩ (a.put dst (.slice (some ⟨gg,0,none⟩) (L.length+M.length) cap))
   (w.setRow gg (cur.toList.take (L.length*sz)++news++cur.toList.drop (L.length*sz+news.length)).toArray) g':=by
 obtain⟨o1,o2,o3,_,o5⟩:=sX
 have oH:gg<w.heap.size:=(Array.getElem?_eq_some_iff.1 mj).1
 have qZ:L.length*sz+M.length*sz≤cap*sz:=by rw[←Nat.add_mul];exact Nat.mul_le_mul_right _ bM
 let w':=w.setRow gg (cur.toList.take (L.length*sz)++news++cur.toList.drop (L.length*sz+news.length)).toArray
 let g':Gh:={St:=g.St,bx:=g.bx,ow:=fun b=>if b=gg then(dst.map fun d=>.s d 0)else g.ow b}
 have dQ:∀k,k≠gg→w'.heap[k]? =w.heap[k]? :=fun k hk=>setRow_other w gg k _ hk
 have lI:w'.heap[gg]? =some (.cells (cur.toList.take (L.length*sz)++news++cur.toList.drop (L.length*sz+news.length)).toArray te (0,0)):=setRow_heap w gg cur _ te (0,0) mj
 have jF:∀o,w'.cell? ⟨gg,o,none⟩=if o<L.length*sz then cur[o]? else if o<L.length*sz+M.length*sz then news[o-L.length*sz]? else cur[o]? :=by
  intro o
  rw[cell_of_row w' gg o _ te (0,0) lI]
  simp only[List.getElem?_toArray]
  rw[tx cur.toList news (L.length*sz) (by simp[ck,hn];omega)]
  simp only[hn,Array.getElem?_toList]
 have akw:∀b o,g.St b o→b≠gg:=fun b o h e=>by subst e;exact o5 o (Nat.zero_le _) h
 have YN:(cur.toList.take (L.length*sz)++news++cur.toList.drop (L.length*sz+news.length)).toArray.size =cap*sz:=by
  have dv:cur.toList.length=cap*sz:=by simpa using ck
  rw[List.size_toArray,List.length_append,List.length_append,List.length_take,List.length_drop,hn,dv];omega
 have hX:Ext w0.heap.size w g w' g' (BX lost dst):=by
  refine⟨fun D ob hb eT h=>(have bf:D≠gg:=(fun e=>by rw[e,o1]at eT;cases eT);⟨(dQ D bf).trans h,hb,(by
   show(if D=gg then(dst.map fun d=>Pos.s d 0)else g.ow D)=none
   rw[if_neg bf];exact eT),fun x hx=>hx⟩),fun b o h=>⟨h,.qF (dQ b (akw b o h))⟩,fun b o hb=>World.cell?_of_block (dQ b (fun h=>by omega)),fun _ _ h=>h,fun p b a' c' hp bQ=>?_,fun b c ty _ hb=>(by
   by_cases oI:b=gg
   ·subst oI
    rw[mj]at hb;cases hb
    exact⟨_,_,lI,YN.trans ck.symm⟩
   ·exact⟨c,ty,(dQ b oI).trans hb,rfl⟩)⟩
  obtain⟨h1,h2,h3,⟨iW,ty,h4,nG⟩,h5⟩:=bQ
  have oI:b≠gg:=by
   rintro rfl
   rw[o1]at h1
   cases h1
   exact hp ⟨i0,0,rfl,.inl hl⟩
  refine⟨⟨?_,h2,h3,⟨iW,ty,(dQ b oI).trans h4,nG⟩,h5⟩,fun _=>dQ b oI⟩
  show(if b=gg then(dst.map fun d=>Pos.s d 0)else g.ow b)=some p
  rw[if_neg oI];exact h1
 refine⟨g',hI.hand hH hX ⟨rfl,rfl,rfl,by simp[w',World.setRow],fun k hk=>dQ k (by omega)⟩ (fun d hd=>?_) rfl (fun b hb=>dQ b (fun h=>o3 (h▸hb))) (fun b o h=>?_)⟩
 ·have hlen:(L++M).length =L.length+M.length:=List.length_append
  refine .v _ _ _ ?_
  have hm:=aP.aZ (w:=w') (St:=g.St) (base:=w0.heap.size) (fO w0.heap.size w' g' d 0)
   sz (L++M) gg cap (fun o=>if o<L.length*sz then vs o else h (o-L.length*sz)) (by omega) gB (fun x hx=>(List.mem_append.1 hx).elim (hL x) (hM x)) (fun x hx=>(List.mem_append.1 hx).elim (sU x) (mw x))
   ⟨by simp[g',hd],o2,o3,⟨_,te,lI,YN⟩,fun o _ hs=>o5 o (Nat.zero_le _) hs⟩
   (fun o bQ=>by
     rw[hlen,Nat.add_mul]at bQ
     rw[jF]
     split
     ·rename_i h1
      have:=aR o h1
      rw[cell_of_row w gg o cur te (0,0) mj]at this
      exact this
     ·rename_i h1
      exact vw _ (by omega))
   (fun i x j c hx iI=>(JE hL hx iI hc hh hM).mono hX.Z6)
  rw[hlen]at hm
  exact hm
 ·have hs:w'.heap.size=w.heap.size:=by simp[w',World.setRow]
  have:=hI.cW b o h
  exact⟨this.1,this.2.1,by omega⟩
theorem Ut{t:TypeId}{z:List D}(h:oT P t=some z):∃i zv,P.info? t=some i∧i.zero=some zv∧zv.cells.size=z.length:=by
 unfold oT at h
 split at h
 ·rename_i i hi
  split at h
  ·rename_i zv hz
   exact⟨i,zv,hi,hz,by have:=(Fz (w:=default) (St:=fun _ _=>False) h).1;simpa using this.symm⟩
  ·cases h
 ·cases h
theorem Db(z:Array Value)(n:Nat):∃l:List Value,Builtin.zeroCells z n=l.toArray∧l.length=n*z.size:=by
 refine⟨(Builtin.zeroCells z n).toList,by simp,by simp[size_zeroCells]⟩
theorem aa3(hI:Inv gl w0 ar e a w g){ak:List Slot}{lost:Nat→Prop}{dst:Option Nat}(hH:u3 e ak lost dst){t ty e':TypeId}{i:TypeInfo}{zv:Value}{sz:Nat}
  (ht:P.underlying t=some (.slice e'))(hi:P.info? e'=some i)(hz:i.zero=some zv)(aM:i.size=sz)(gW:zv.cells.size=sz)(Ed:0<sz)
  {sx sy:SV}{vx vy:Value}{O Oy:Nat→Nat→Nat→Prop}(rx:aP w g.St w0.heap.size O sx vx)(ry:aP w g.St w0.heap.size Oy sy vy)
  (hO:∀b a' c,O b a' c→∃i0,fa w0.heap.size w g (.s i0 0) b a' c∧lost i0){r:SV}{n:Nat}(h:lG sz sx sy=some (r,n))(hb:n*i.bytes≤140737488355328)(my:0<i.bytes):
  ∃v w' g',(Builtin.append_ #[t,t] ty #[vx,vy]).run P w=.ok v w'∧Inv gl w0 ar ⟨cS ak dst (.v r),e.boxes⟩ (a.put dst v) w' g':=by
 subst aM
 unfold lG at h
 split at h
 ·cases h
 ·rename_i M hM
  have hy:=T0 hM ry
  have ajw:M=[]→vy=.slice none 0 0∨∃ad c,vy=.slice (some ad) 0 c:=by
   intro hm
   subst hm
   rcases hy with⟨h,_⟩|⟨b,off,cap,vs,h,_⟩
   ·exact h
   ·exact .inr ⟨_,_,h⟩
  have same:∀(base:Option Addr)(m cap:Nat),M=[]→m≤cap→vx=.slice base m cap→∀(r:SV)(g':Gh),Ext w0.heap.size w g w g' (BX lost dst)→g'.bx=g.bx→g'.St=g.St→
    (∀d,dst=some d→aP w g'.St w0.heap.size (fO w0.heap.size w g' d 0) r vx)→
    ∃v w' g',(Builtin.append_ #[t,t] ty #[vx,vy]).run P w=.ok v w'∧Inv gl w0 ar ⟨cS ak dst (.v r),e.boxes⟩ (a.put dst v) w' g':=by
   intro base m cap hm hle hv r g' hX eB aY hr
   refine⟨vx,w,g',by rw[hv];exact aab ht hi base m cap hle (ajw hm),hI.hand hH hX (Below.refl _ _) (fun d hd=>.v _ _ _ (hr d hd)) eB (fun _ _=>rfl) (fun b o h=>?_)⟩
   rw[aY]at h
   exact hI.cW b o h
  have grow:∀(L:List D)(ad:Addr)(cap:Nat),M≠[]→vx=.slice (some ad) L.length cap→bh w g.St (.sl .ro i.size L) vx→cap<L.length+M.length→(L.length+M.length)*i.bytes≤140737488355328→
    ∃v w' g',(Builtin.append_ #[t,t] ty #[vx,vy]).run P w=.ok v w'∧Inv gl w0 ar ⟨cS ak dst (.v (.own i.size (L++M))),e.boxes⟩ (a.put dst v) w' g':=by
   intro L ad cap hm hv hL aO fh
   rcases hy with⟨_,h0⟩|⟨b,off,yY,ys,ub,_,_,mV,mw,A5,lO⟩
   ·exact absurd h0 hm
   ·rw[hv]at hL
    cases hL with
    |mr _ _ _ ha=>
     obtain⟨news,nl,nc,ng⟩:=zZ (w:=w) (n:=M.length) (sz:=i.size) (vs:=ys) A5
     have bG:(0+M.length)*1≤(0+M.length)*i.bytes:=Nat.mul_le_mul_left _ my
     simp only[List.length_nil]at aO fh
     have mM:0+M.length≤maxLen:=by simp only[maxLen];omega
     have bq:=run_append_grow (P:=P) w t ty e' i zv ht hi hz ad 0 cap [] (by simp) (by simp) ⟨b,off,none⟩ M.length yY news nl nc aO (by omega) (growslice_fits aO fh)
     obtain⟨rest,pX,oJ⟩:=Db zv.cells (grownCap w (0+M.length) cap e'-(0+M.length))
     rw[pX]at bq
     have lq:=grownCap_ge w (0+M.length) cap e'
     obtain⟨g',gC⟩:=hI.grow hH (sz:=i.size) (L:=[]) (M:=M) (cap:=grownCap w (0+M.length) cap e') (te:=e') (fb:=[]) (news:=news) (rest:=rest) (f:=fun _=>.bool false) (by simp) mV (by simp) mw (by simp) nl (by rw[oJ,gW];rfl) lq
      (grownCap_le_maxLen w _ cap e' mM) (by simp) ng (by simp) lO
     refine⟨_,_,g',by rw[hv,ub];exact bq,?_⟩
     simpa using gC
    |sl _ _ bx ox _ vs bM ct HI sU iZ vz=>
     obtain⟨fb,ol,oc,og⟩:=zZ (w:=w) (n:=L.length) (sz:=i.size) (vs:=vs) iZ
     obtain⟨news,nl,nc,ng⟩:=zZ (w:=w) (n:=M.length) (sz:=i.size) (vs:=ys) A5
     have bG:(L.length+M.length)*1≤(L.length+M.length)*i.bytes:=Nat.mul_le_mul_left _ my
     have mM:L.length+M.length≤maxLen:=by simp only[maxLen];omega
     have bq:=run_append_grow (P:=P) w t ty e' i zv ht hi hz ⟨bx,ox,none⟩ L.length cap fb ol oc ⟨b,off,none⟩ M.length yY news nl nc aO (by omega) (growslice_fits aO fh)
     obtain⟨rest,pX,oJ⟩:=Db zv.cells (grownCap w (L.length+M.length) cap e'-(L.length+M.length))
     rw[pX]at bq
     have lq:=grownCap_ge w (L.length+M.length) cap e'
     obtain⟨g',gC⟩:=hI.grow hH (sz:=i.size) (L:=L) (M:=M) (cap:=grownCap w (L.length+M.length) cap e') (te:=e') (fb:=fb) (news:=news) (rest:=rest) HI mV sU mw ol nl (by rw[oJ,gW]) lq
      (grownCap_le_maxLen w _ cap e' mM) og ng vz lO
     refine⟨_,_,g',by rw[hv,ub];exact bq,?_⟩
     simpa using gC
  split at h
  ·
   rename_i s L
   split at h
   ·rename_i hs
    cases h
    subst hs
    cases rx with
    |own _ _ _ gg cap yX gB ho=>
     obtain⟨i0,sX,hl⟩:=hO _ _ _ ho
     by_cases hm:M=[]
     ·subst hm
      simp only[List.append_nil]
      have bM:L.length≤cap:=by cases yX with|sl _ _ _ _ _ _ bM=>exact bM|mr _ _ _ ha=>exact absurd rfl ha
      cases dst with
      |none=>
       refine same _ _ _ rfl bM rfl _ g ⟨fun _ _ hb ho h=>⟨h,hb,ho,fun _ h=>h⟩,fun _ _ h=>(by first|exact⟨h,rfl⟩|exact⟨h,.refl _ _ _⟩),fun _ _ _=>rfl,fun _ _ h=>h,fun _ _ _ _ _ h=>⟨h,.refl _ _ _⟩,.refl _⟩ rfl rfl (fun d hd=>by cases hd)
      |some d=>
       refine same _ _ _ rfl bM rfl _ (g.mv gg (.s d 0)) (Ext.mv sX hl _ _) rfl rfl (fun d' hd=>?_)
       cases hd
       refine .own _ i.size L gg cap yX gB ?_
       obtain⟨_,h2,h3,h4,h5⟩:=sX
       exact⟨by simp[Gh.mv],h2,h3,h4,h5⟩
     ·by_cases sF:L.length+M.length≤cap
      ·rcases hy with⟨_,h0⟩|⟨b,off,yY,ys,ub,_,_,mV,mw,A5,lO⟩
       ·exact absurd h0 hm
       ·obtain⟨news,nl,nc,ng⟩:=zZ (w:=w) (n:=M.length) (sz:=i.size) (vs:=ys) A5
        have Qn:=sX
        obtain⟨_,_,_,⟨cur,te,mj,ck⟩,_⟩:=Qn
        have ua:∀u∈news,u.oneCell'=true:=by
         intro u hu
         obtain⟨j,hj⟩:=List.mem_iff_getElem?.1 hu
         have kH:j<M.length*i.size:=by rw[←nl];exact(List.getElem?_eq_some_iff.1 hj).1
         rw[ng j kH]at hj
         cases hj
         have hq:j / i.size<M.length:=Nat.div_lt_of_lt_mul (by rw[Nat.mul_comm];exact kH)
         have Ce:=Nat.mod_lt j Ed
         have eL:M[j / i.size]∈M:=List.getElem_mem hq
         have dv:=mV _ eL
         have hc:(M[j / i.size]).cells[j % i.size]? =some ((M[j / i.size]).cells[j % i.size]'(by omega)):=by simp
         have:=lO (j / i.size) _ (j % i.size) _ (List.getElem?_eq_getElem hq) hc
         rw[Nat.mul_comm,Nat.div_add_mod]at this
         exact this.uS (mw _ eL _ (List.getElem_mem _))
        have qZ:L.length*i.size+news.length≤cur.size:=by rw[nl,ck,←Nat.add_mul];exact Nat.mul_le_mul_right _ sF
        have bq:=MU (P:=P) (w:=w) (ty:=ty) ht hi mj (ad:=⟨b,off,none⟩) (m:=M.length) (c:=yY) news nl nc ua sF qZ
        obtain⟨g',gC⟩:=hI.room hH sX hl yX mj ck mV mw nl sF gB ng lO
        exact⟨_,_,g',by rw[ub];exact bq,gC⟩
      ·exact grow L ⟨gg,0,none⟩ cap hm rfl yX (by omega) hb
   ·cases h
  ·
   rename_i s L
   split at h
   ·rename_i hs
    subst hs
    cases rx with
    |full _ _ _ ad yX=>
     split at h
     ·rename_i hm
      cases h
      exact same _ _ _ hm (Nat.le_refl _) rfl _ g ⟨fun _ _ hb ho h=>⟨h,hb,ho,fun _ h=>h⟩,fun _ _ h=>(by first|exact⟨h,rfl⟩|exact⟨h,.refl _ _ _⟩),fun _ _ _=>rfl,fun _ _ h=>h,fun _ _ _ _ _ h=>⟨h,.refl _ _ _⟩,.refl _⟩ rfl rfl (fun d hd=>.full _ i.size L ad yX)
     ·rename_i hm
      cases h
      have:0<M.length:=List.length_pos_iff.2 hm
      exact grow L ad L.length hm rfl yX (by omega) hb
   ·cases h
  ·
   have hd:=rx.data
   split at h
   ·rename_i hm
    cases h
    cases hd
    exact same none 0 0 hm (Nat.le_refl _) rfl _ g ⟨fun _ _ hb ho h=>⟨h,hb,ho,fun _ h=>h⟩,fun _ _ h=>(by first|exact⟨h,rfl⟩|exact⟨h,.refl _ _ _⟩),fun _ _ _=>rfl,fun _ _ h=>h,fun _ _ _ _ _ h=>⟨h,.refl _ _ _⟩,.refl _⟩ rfl rfl (fun d hd=>.d _ _ _ (.jU _))
   ·rename_i hm
    cases h
    cases hd
    rcases hy with⟨_,h0⟩|⟨b,off,yY,ys,ub,_,_,mV,mw,A5,lO⟩
    ·exact absurd h0 hm
    ·obtain⟨news,nl,nc,ng⟩:=zZ (w:=w) (n:=M.length) (sz:=i.size) (vs:=ys) A5
     have h0:0<M.length:=List.length_pos_iff.2 hm
     have bG:M.length*1≤M.length*i.bytes:=Nat.mul_le_mul_left _ my
     have mM:M.length≤maxLen:=by simp only[maxLen];omega
     have bq:=run_append_nil (P:=P) w t ty e' i zv ht hi hz ⟨b,off,none⟩ M.length yY news nl nc h0 (by omega) (by omega)
     obtain⟨rest,pX,oJ⟩:=Db zv.cells (grownCap w M.length 0 e'-M.length)
     rw[pX]at bq
     have lq:=grownCap_ge w M.length 0 e'
     rename_i mk _ _
     cases mz:Nat.beq mk iN with
     |false=>
      obtain⟨g',gC⟩:=hI.grow hH (sz:=i.size) (L:=[]) (M:=M) (cap:=grownCap w M.length 0 e') (te:=e') (fb:=[]) (news:=news) (rest:=rest) (by simp) mV (by simp) mw (by simp) nl (by rw[oJ,gW];simp) (by simpa using lq)
       (grownCap_le_maxLen w _ 0 e' mM) (f:=fun _=>undef) (by simp) ng (by simp) lO
      refine⟨_,_,g',by rw[ub];exact bq,?_⟩
      simpa using gC
     |true=>
      obtain⟨g',gC⟩:=hI.YM hH (sz:=i.size) (L:=[]) (M:=M) (cap:=grownCap w M.length 0 e') (te:=e') (fb:=[]) (news:=news) (rest:=rest) (by simp) mV (by simp) mw (by simp) nl (by rw[oJ,gW];simp) (by simpa using lq)
       (grownCap_le_maxLen w _ 0 e' mM) (f:=fun _=>undef) (by simp) ng (by simp) lO
      refine⟨_,_,g',by rw[ub];exact bq,?_⟩
      simpa using gC
  ·
   rename_i s L
   split at h
   ·rename_i hs
    cases h
    subst hs
    cases rx with
    |aZ _ _ _ gg cap vs bM gB HI sU ho iZ vz=>
     obtain⟨i0,sX,hl⟩:=hO _ _ _ ho
     by_cases hm:M=[]
     ·subst hm
      simp only[List.append_nil]
      cases dst with
      |none=>
       refine same _ _ _ rfl bM rfl _ g ⟨fun _ _ hb ho h=>⟨h,hb,ho,fun _ h=>h⟩,fun _ _ h=>⟨h,.refl _ _ _⟩,fun _ _ _=>rfl,fun _ _ h=>h,fun _ _ _ _ _ h=>⟨h,.refl _ _ _⟩,.refl _⟩ rfl rfl (fun d hd=>by cases hd)
      |some d=>
       refine same _ _ _ rfl bM rfl _ (g.mv gg (.s d 0)) (Ext.mv sX hl _ _) rfl rfl (fun d' hd=>?_)
       cases hd
       refine .aZ _ i.size L gg cap vs bM gB HI sU ?_ iZ vz
       obtain⟨_,h2,h3,h4,h5⟩:=sX
       exact⟨by simp[Gh.mv],h2,h3,h4,h5⟩
     ·rcases hy with⟨_,h0⟩|⟨b,off,yY,ys,ub,_,_,mV,mw,A5,lO⟩
      ·exact absurd h0 hm
      ·obtain⟨news,nl,nc,ng⟩:=zZ (w:=w) (n:=M.length) (sz:=i.size) (vs:=ys) A5
       have Qn:=sX
       obtain⟨_,_,_,⟨cur,te,mj,ck⟩,_⟩:=Qn
       by_cases sF:L.length+M.length≤cap
       ·have ua:∀u∈news,u.oneCell'=true:=by
         intro u hu
         obtain⟨j,hj⟩:=List.mem_iff_getElem?.1 hu
         have kH:j<M.length*i.size:=by rw[←nl];exact(List.getElem?_eq_some_iff.1 hj).1
         rw[ng j kH]at hj
         cases hj
         have hq:j / i.size<M.length:=Nat.div_lt_of_lt_mul (by rw[Nat.mul_comm];exact kH)
         have Ce:=Nat.mod_lt j Ed
         have eL:M[j / i.size]∈M:=List.getElem_mem hq
         have dv:=mV _ eL
         have hc:(M[j / i.size]).cells[j % i.size]? =some ((M[j / i.size]).cells[j % i.size]'(by omega)):=by simp
         have:=lO (j / i.size) _ (j % i.size) _ (List.getElem?_eq_getElem hq) hc
         rw[Nat.mul_comm,Nat.div_add_mod]at this
         exact this.uS (mw _ eL _ (List.getElem_mem _))
        have qZ:L.length*i.size+news.length≤cur.size:=by rw[nl,ck,←Nat.add_mul];exact Nat.mul_le_mul_right _ sF
        have bq:=MU (P:=P) (w:=w) (ty:=ty) ht hi mj (ad:=⟨b,off,none⟩) (m:=M.length) (c:=yY) news nl nc ua sF qZ
        obtain⟨g',gC⟩:=hI.ajv hH sX hl HI sU iZ vz mj ck mV mw nl sF gB ng lO
        exact⟨_,_,g',by rw[ub];exact bq,gC⟩
       ·obtain⟨fb,ol,oc,og⟩:=zZ (w:=w) (b:=gg) (off:=0) (St:=fun _ _=>True) (n:=L.length) (sz:=i.size) (vs:=vs) (fun o ho=>⟨by rw[Nat.zero_add];exact iZ o ho,trivial⟩)
        have bG:(L.length+M.length)*1≤(L.length+M.length)*i.bytes:=Nat.mul_le_mul_left _ my
        have mM:L.length+M.length≤maxLen:=by simp only[maxLen];omega
        have bq:=run_append_grow (P:=P) w t ty e' i zv ht hi hz ⟨gg,0,none⟩ L.length cap fb ol oc ⟨b,off,none⟩ M.length yY news nl nc (by omega) (by omega) (growslice_fits (by omega) hb)
        obtain⟨rest,pX,oJ⟩:=Db zv.cells (grownCap w (L.length+M.length) cap e'-(L.length+M.length))
        rw[pX]at bq
        have lq:=grownCap_ge w (L.length+M.length) cap e'
        obtain⟨g',gC⟩:=hI.YM hH (sz:=i.size) (L:=L) (M:=M) (cap:=grownCap w (L.length+M.length) cap e') (te:=e') (fb:=fb) (news:=news) (rest:=rest) HI mV sU mw ol nl (by rw[oJ,gW]) lq
         (grownCap_le_maxLen w _ cap e' mM) og ng vz lO
        refine⟨_,_,g',by rw[ub];exact bq,?_⟩
        simpa using gC
   ·cases h
  ·cases h
end
end Go.Proofs.Ytimbllcalipehaa.Ab
namespace Go.Proofs.Ytimbllcalipehaa.Ab
open Go Go.RowKit
section
variable{P:Program}{gl:Nat→Option D}{w0:World}{ar:S0}{e:Env}{a:Act}{w:World}{g:Gh}
theorem Dc(f:Slot→SV):∀(l:List Slot),(kU f l).length =l.length∧∀(i:Nat),(kU f l)[i]? =(l[i]?).map f
 |[]=>⟨rfl,fun i=>by simp[kU]⟩
 |s::l=>by
  obtain⟨h1,h2⟩:=Dc f l
  refine⟨by simp[kU,h1],fun i=>?_⟩
  cases i with
  |zero=>rfl
  |succ i=>simp only[kU,List.getElem?_cons_succ];exact h2 i
theorem aP.Bx{St:Nat→Nat→Prop}{base yI:Nat}(hb:base≤yI){O:Nat→Nat→Nat→Prop}{y:SV}{v:Value}(h:aP w St base O y v):aP w St yI O y v:=by
 induction h with
 |d O x v hd=>exact .d O x v hd
 |own O sz L gg cap hd bM ho=>exact .own O sz L gg cap hd bM ho
 |full O sz L ad hd=>exact .full O sz L ad hd
 |ref O cs off b o vs eC aR _ ih=>exact .ref O cs off b o vs (Nat.lt_of_lt_of_le eC hb) aR ih
 |cU O n sz cs b cap vs eC hn hm aR _ ih=>exact .cU O n sz cs b cap vs (Nat.lt_of_lt_of_le eC hb) hn hm aR ih
 |aX O x off b o vs hf aR hc=>exact .aX O x off b o vs hf aR hc
 |dT O f first cap fv cv h1 h2 _ _ ih1 ih2=>exact .dT O f first cap fv cv h1 h2 ih1 ih2
 |aZ O sz L gg cap vs h1 h2 h3 h4 h5 h6 h7=>exact .aZ O sz L gg cap vs h1 h2 h3 h4 h5 h6 h7
 |mp O l r es clock hh hs hl hc=>exact .mp O l r es clock hh hs hl hc
 |nest O LL gg cap bk cp h1 h2 h3 h4 h5 h6=>exact .nest O LL gg cap bk cp h1 h2 h3 h4 h5 h6
 |undef O v=>exact .undef O v
theorem VV(hI:Inv gl w0 ar e a w g):∀(n:Nat){O:Nat→Nat→Nat→Nat→Prop}{s:Slot}{v:Value},cE w0.heap.size w g O s v→aP w g.St w.heap.size (fun _ _ _=>False) (snap e.boxes n s) v:=by
 have up:∀{O x v},aP w g.St w0.heap.size O x v→aP w g.St w.heap.size (fun _ _ _=>False) (aa x) v:=by
  intro O x v h
  exact(h.aa (O':=fun _ _ _=>False)).Bx hI.below.size
 intro n
 induction n with
 |zero=>intro O s v _;exact .undef _ _
 |succ n ih=>
  intro O s v h
  cases h with
  |a _ b m sz v hm hb=>
   obtain⟨ao,cap,hb,bM,rfl,gB,_⟩:=hb
   simp only[snap]
   split
   ·rename_i cs ck
    obtain⟨h0,c,t,hc,bY,hlen,bw⟩:=hI.boxes b _ ao ck hb
    have eh:=(hI.dF ao (List.mem_of_getElem? hb)).2
    exact aP.cU (w:=w) (St:=g.St) (base:=w.heap.size) (fun _ _ _=>False) m sz (cs.map aa) ao cap (fun i=>c.getD i undef) eh bM gB
     (fun i hi=>by
       have zx:i<cs.length:=by simpa using hi
       have fA:i<c.size:=Nat.lt_of_lt_of_le zx hlen
       rw[cell_of_row w ao (0+i) c t (0,0) hc]
       simp[fA]
       exact bY i _ zx (by simp))
     (fun i x hx=>by
       simp only[List.getElem?_map,Option.map_eq_some_iff]at hx
       obtain⟨y,hy,rfl⟩:=hx
       have fA:i<c.size:=Nat.lt_of_lt_of_le (List.getElem?_eq_some_iff.1 hy).1 hlen
       have h1:=bw i y c[i] hy (by simp)
       have h2:=up h1
       simpa[fA]using h2)
   ·exact .undef _ _
  |m _ b ao hb=>simp only[snap];exact .undef _ _
  |v _ x _ h=>simp only[snap];exact up h
  |p _ b off ao hb=>
   simp only[snap]
   split
   ·rename_i cs ck
    obtain⟨h0,c,t,hc,bY,hlen,bw⟩:=hI.boxes b _ ao ck hb
    have eh:=(hI.dF ao (List.mem_of_getElem? hb)).2
    have:=aP.ref (w:=w) (St:=g.St) (base:=w.heap.size) (fun _ _ _=>False) (cs.map aa) off ao 0 (fun i=>c.getD i undef) eh
     (fun i hi=>by
       have zx:i<cs.length:=by simpa using hi
       have fA:i<c.size:=Nat.lt_of_lt_of_le zx hlen
       rw[cell_of_row w ao (0+i) c t (0,0) hc]
       simp[fA]
       exact bY i _ zx (by simp))
     (fun i x hx=>by
       simp only[List.getElem?_map,Option.map_eq_some_iff]at hx
       obtain⟨y,hy,rfl⟩:=hx
       have fA:i<c.size:=Nat.lt_of_lt_of_le (List.getElem?_eq_some_iff.1 hy).1 hlen
       have h1:=bw i y c[i] hy (by simp)
       have h2:=up h1
       simpa[fA]using h2)
    simpa using this
   ·rename_i s' ph
    obtain⟨h0,c,t,hc,bY,hlen,bw⟩:=hI.boxes b _ ao ph hb
    have eh:=(hI.dF ao (List.mem_of_getElem? hb)).2
    have rE:c[0]? =some (c[0]'(by omega)):=by simp
    have:=aP.ref (w:=w) (St:=g.St) (base:=w.heap.size) (fun _ _ _=>False) [snap e.boxes n s'] off ao 0 (fun i=>c.getD i undef) eh
     (fun i hi=>by
       simp at hi;subst hi
       rw[cell_of_row w ao (0+0) c t (0,0) hc]
       simp[hlen]
       exact bY 0 _ Nat.one_pos (by simp))
     (fun i x hx=>by
       cases i with
       |succ i=>simp at hx
       |zero=>
        simp at hx;subst hx
        have:=ih (bw _ rE)
        simpa[hlen]using this)
    simpa using this
   ·exact .undef _ _
  |c _ f first cap fv cv hf hc rf rc=>
   simp only[snap]
   obtain⟨l1,g1⟩:=Dc (snap e.boxes n) first
   obtain⟨l2,g2⟩:=Dc (snap e.boxes n) cap
   refine .dT _ f _ _ fv cv (l1.trans hf) (l2.trans hc) (fun i x v hx hv=>?_) (fun i x v hx hv=>?_)
   ·rw[g1,Option.map_eq_some_iff]at hx
    obtain⟨y,hy,rfl⟩:=hx
    exact ih (rf i y v hy hv)
   ·rw[g2,Option.map_eq_some_iff]at hx
    obtain⟨y,hy,rfl⟩:=hx
    exact ih (rc i y v hy hv)
  |t _ xs vs _ _=>simp only[snap];exact .undef _ _
theorem Uu(aF:List af)(ρ:Operand→Slot):∀(l:List Operand),(jS aF ρ l).length =l.length∧∀(i:Nat),(jS aF ρ l)[i]? =(l[i]?).map fun x=>snap aF 6 (ρ x)
 |[]=>⟨rfl,fun i=>by simp[jS]⟩
 |s::l=>by
  obtain⟨h1,h2⟩:=Uu aF ρ l
  refine⟨by simp[jS,h1],fun i=>?_⟩
  cases i with
  |zero=>rfl
  |succ i=>simp only[jS,List.getElem?_cons_succ];exact h2 i
def wF(w:World)(St:Nat→Nat→Prop)(args:List SV)(vs:Array Value):Prop:=
 args.length=vs.size∧∀(i:Nat)x v,args[i]? =some x→vs[i]? =some v→aP w St w.heap.size (fun _ _ _=>False) x v
theorem wF.append{St:Nat→Nat→Prop}{xs ys:List SV}{us vs:Array Value}(h:wF w St xs us)(k:wF w St ys vs):wF w St (xs++ys) (us++vs):=by
 refine⟨by simp[h.1,k.1],fun i x v hx hv=>?_⟩
 rw[List.getElem?_append]at hx
 rw[Array.getElem?_append]at hv
 split at hx
 ·rename_i hi
  rw[if_pos (by rw[←h.1];exact hi)]at hv
  exact h.2 i x v hx hv
 ·rename_i hi
  rw[if_neg (by rw[←h.1];exact hi),←h.1]at hv
  exact k.2 _ x v hx hv
theorem Og(hI:Inv gl w0 ar e a w g)(l:Array Operand):wF w g.St (jS e.boxes (fun x=>(Ab.bp gl e x).aa) l.toList) (l.map a.eval):=by
 obtain⟨h1,h2⟩:=Uu e.boxes (fun x=>(Ab.bp gl e x).aa) l.toList
 refine⟨by rw[h1];simp,fun i x v hx hv=>?_⟩
 rw[h2,Option.map_eq_some_iff]at hx
 obtain⟨y,hy,rfl⟩:=hx
 rw[Array.getElem?_toList]at hy
 simp only[Array.getElem?_map,hy,Option.map_some,Option.some.injEq]at hv
 subst hv
 exact VV hI 6 (hI.bp y)
theorem TL(hI:Inv gl w0 ar e a w g){l:List Slot}{vs:Array Value}(hl:l.length=vs.size)(h:∀(i:Nat)x v,l[i]? =some x→vs[i]? =some v→cE w0.heap.size w g (fun _ _ _ _=>False) x v):
  wF w g.St (kU (snap e.boxes 6) l) vs:=by
 obtain⟨h1,h2⟩:=Dc (snap e.boxes 6) l
 refine⟨h1.trans hl,fun i x v hx hv=>?_⟩
 rw[h2,Option.map_eq_some_iff]at hx
 obtain⟨y,hy,rfl⟩:=hx
 exact VV hI 6 (h i y v hy hv)
theorem Inv.called(hI:Inv gl w0 ar e a w g){w':World}{bS:Nat→Nat→Prop}{ow:Nat→Option Nat}(hb:Below w.heap.size w w')(h1:∀b o,g.St b o→bS b o)
  (h2:∀b o,bS b o→g.St b o∨(w.heap.size≤b∧b<w'.heap.size))(dst:Option Nat){s:Slot}{v:Value}
  (hs:∀g':Gh,g'.St=bS→(∀d,dst=some d→∀j b a c,yV w.heap.size w' bS ow j b a c→fa w0.heap.size w' g' (.s d j) b a c)→∀d,dst=some d→cE w0.heap.size w' g' (fO w0.heap.size w' g' d) s v):
  ∃g',Inv gl w0 ar ⟨cS e.ak dst s,e.boxes⟩ (a.put dst v) w' g':=by
 have hle:w0.heap.size≤w.heap.size:=hI.below.size
 let g':Gh:={St:=bS,bx:=g.bx,ow:=fun b=>if w.heap.size≤b then(ow b).bind fun j=>dst.map fun d=>Pos.s d j else g.ow b}
 refine⟨g',hI.KH (g':=g') ⟨fun D o fW ho h=>⟨(hb.block D (fL h)).trans h,fW,(by
  show(if w.heap.size≤D then(ow D).bind fun j=>dst.map fun d=>Pos.s d j else g.ow D)=none
  rw[if_neg (by have:=fL h;omega)];exact ho),fun x hx=>(h2 D x hx).elim id fun e=>(by have:=fL h;omega)⟩,fun b o h=>⟨h1 b o h,.qF (hb.block b (hI.lH h))⟩,fun b o h=>World.cell?_of_block (hb.block b (by omega)),fun _ _ h=>h,fun p b a' c _ ho=>⟨?_,fun _=>hb.block b ho.lt⟩,.of fun b h=>hb.block b h⟩ hb (hs g' rfl (fun d hd j b a c hr=>?_)) rfl h2⟩
 ·have aO:=ho.lt
  obtain⟨o1,o2,o3,⟨cur,te,o4,lP⟩,o5⟩:=ho
  refine⟨?_,o2,o3,⟨cur,te,(hb.block b aO).trans o4,lP⟩,fun o bQ aY=>?_⟩
  ·show(if w.heap.size≤b then(ow b).bind fun j=>dst.map fun d=>Pos.s d j else g.ow b)=some p
   rw[if_neg (by omega)];exact o1
  ·rcases h2 b o aY with h|h
   ·exact o5 o bQ h
   ·omega
 ·obtain⟨r1,r2,r3,r4⟩:=hr
  refine⟨?_,by omega,fun hm=>by have:=(hI.dF b hm).2;omega,r3,r4⟩
  show(if w.heap.size≤b then(ow b).bind fun j=>dst.map fun d=>Pos.s d j else g.ow b)=_
  rw[if_pos r2,r1,hd]
  rfl
theorem F7:∀{n:Nat}{k:List SV→Prop},AZ n k→∃rs,rs.length=n∧k rs
 |0,_,h=>⟨[],rfl,h⟩
 |n+1,_,h=>by
  obtain⟨r,h⟩:=h
  obtain⟨rs,hl,h⟩:=F7 h
  exact⟨r::rs,by simp[hl],h⟩
theorem Je(hI:Inv gl w0 ar e a w g){o:Oper}{n:Nat}{k:Slot→List af→Prop}{f:FuncId}{args:List SV}{vs:Array Value}(hr:wF w g.St args vs)
  (bq:n0 P f→(execOp a.eval o).run P w=.ok (.enter f vs) w)(h:qR (aG P gl) n e.boxes k f args):bH P gl w0 ar e.ak o a w k:=by
 intro next Q hn
 have hdA:ou args=none:=U3 fun x l hx=>by
  have hlen:=hr.1
  rw[hx]at hlen
  have h0:0<vs.size:=by rw[←hlen];simp
  have:=hr.2 0 (.aJ x) vs[0] (by rw[hx];rfl) (by simp[h0])
  cases this
 have go:∀(r:SV)(s:Slot),Gt P gl f args r→(∀(w':World)(v:Value)(bS:Nat→Nat→Prop)(ow:Nat→Option Nat),yv w.heap.size w' bS ow r v→∀g':Gh,g'.St=bS→
   ∀d,(∀j b a c,yV w.heap.size w' bS ow j b a c→fa w0.heap.size w' g' (.s d j) b a c)→cE w0.heap.size w' g' (fO w0.heap.size w' g' d) s v)→k s e.boxes→o.wp P a w next Q:=by
  intro r s hH bw hk
  obtain⟨hE,hH⟩:=hH
  unfold Oper.wp
  rw[bq hE]
  refine(hH w g.St vs (fun b o h=>hI.lH h) hI.lg hr.1 hr.2).mono fun en w'⟨v,he,hb,bS,ow,h1,h2,h3⟩=>?_
  subst he
  obtain⟨g',gC⟩:=hI.called hb h1 h2 o.dst (s:=s) (v:=v) (fun g' kF hO d hd=>bw w' v bS ow h3 g' kF d (hO d hd))
  exact hn s v e.boxes w' g' gC hk
 unfold qR at h
 split at h
 ·obtain⟨r,hH,ht,hk⟩:=h
  rw[Bw hdA]at hH
  refine go r (.v r) hH (fun w' v bS ow h3 g' kF d hO=>.v _ _ _ ?_) hk
  have kI:aP w' bS 0 (yV w.heap.size w' bS ow 0) r v:=by
   cases r<;>first|exact h3|simp[wW]at ht
  have:=(kI.Bx (Nat.zero_le w0.heap.size))
  rw[←kF]at this
  exact this.mono (fun _ _ h=>(by first|exact⟨h,rfl⟩|exact⟨h,.refl _ _ _⟩)) (fun _ _ _=>rfl) _ (fun b a c h=>⟨hO 0 b a c (by rw[kF]at h;exact h),.refl _ _ _⟩)
 ·rename_i ua
  obtain⟨rs,hlen,hH,hk⟩:=F7 h
  rw[Bw hdA]at hH
  refine go (.aJ rs) (.t rs) hH (fun w' v bS ow h3 g' kF d hO=>?_) hk
  obtain⟨tv,rfl,hl,hc⟩:=h3
  refine .t _ rs tv hl fun j x y hx hy=>?_
  have:=((hc j x y hx hy).Bx (Nat.zero_le w0.heap.size))
  rw[←kF]at this
  exact this.mono (fun _ _ h=>(by first|exact⟨h,rfl⟩|exact⟨h,.refl _ _ _⟩)) (fun _ _ _=>rfl) _ (fun b a c h=>⟨hO j b a c (by rw[kF]at h;exact h),.refl _ _ _⟩)
theorem acM(hI:Inv gl w0 ar e a w g){o:Oper}{c:Call}(ho:o.op=.call c){f:Operand}(hc:c.callee=.value f){n:Nat}{k:Slot→List af→Prop}
  (h:match(Ab.bp gl e f).aa with
    | .v x=>withFn x (jS e.boxes (fun x=>(Ab.bp gl e x).aa) c.args.toList) (qR (aG P gl) n e.boxes k)
    | .c (.func g') first cap=>qR (aG P gl) n e.boxes k g' (kU (snap e.boxes 6) first++jS e.boxes (fun x=>(Ab.bp gl e x).aa) c.args.toList++kU (snap e.boxes 6) cap)
    |_=>False):bH P gl w0 ar e.ak o a w k:=by
 have fI:=Og hI c.args
 have bq:∀{f':FuncId}{first cap:Array Value},a.eval f=.func (.func f') first cap→n0 P f'→(execOp a.eval o).run P w=.ok (.enter f' (first++c.args.map a.eval++cap)) w:=by
  intro f' first cap hv hE
  simp[execOp,ho,resolve,hc,hv,Deferred.ofValue,invoke,hE _ w]
 split at h
 ·rename_i x hx
  have hf:=hI.sP hx
  unfold withFn at h
  split at h
  ·rename_i f'
   have hv:a.eval f=.func (.func f') #[] #[]:=by
    have:=hf.data
    generalize a.eval f=u at this
    cases this;rfl
   refine Je hI fI (fun hE=>?_) h
   rw[bq hv hE];simp
  ·rename_i f' first cap
   generalize hv:a.eval f=u at hf
   cases hf with
   |dT _ _ _ _ fv cv rD sQ rf rc=>
    have up:∀{xs:List SV}{vs:Array Value},xs.length=vs.size→(∀(i:Nat)x v,xs[i]? =some x→vs[i]? =some v→aP w g.St w0.heap.size (fun _ _ _=>False) x v)→wF w g.St xs vs:=
     fun hl hr=>⟨hl,fun i x v hx hv=>(hr i x v hx hv).Bx hI.below.size⟩
    exact Je hI (((up rD rf).append fI).append (up sQ rc)) (fun hE=>bq hv hE) h
  ·exact h.elim
 ·rename_i f' first cap hs
  have hf:=hI.pg hs
  generalize hv:a.eval f=u at hf
  cases hf with
  |c _ _ _ _ fv cv rD sQ rf rc=>exact Je hI (((TL hI rD rf).append fI).append (TL hI sQ rc)) (fun hE=>bq hv hE) h
 ·exact h.elim
theorem adZ{t:TypeId}{name:String}{f:FuncId}(h:DY P t name=some f)(fuel:Nat)(v:Value):(Go.method (fuel+1) t v name).run P w=.ok (f,v) w:=by
 unfold DY at h
 split at h
 ·rename_i i hi
  split at h
  ·rename_i m hm
   split at h
   ·rename_i f' hp hf
    have amT:m.path= #[]:=by
     have:m.path.toList=[]:=hp
     exact Array.toList_eq_nil_iff.mp this
    split at h
    ·cases h
    ·rename_i u xE hu
     cases h
     have nH:(underlying t).run P w=.ok u w:=run_underlying hu w
     have gX:(typeInfo t).run P w=.ok i w:=by simp[typeInfo,go_sem,hi]
     have EF:(follow ([]:List FieldStep) t (.val v)).run P w=.ok (t,.val v) w:=by simp[follow]
     have pX:∀s,(receiverAt t (.val v) false s).run P w=.ok v w:=by
      intro s
      unfold receiverAt
      simp only[Sem.run_bind,nH,Result.andThen_ok]
      cases u<;>first|exact(xE _ rfl).elim |simp[Place.get]
     unfold Go.method
     simp only[Sem.run_bind,gX,Result.andThen_ok,hm,hp,EF,hf,pX,Sem.run_pure]
    ·cases h
   ·cases h
  ·cases h
 ·cases h
theorem aa4(hI:Inv gl w0 ar e a w g){o:Oper}{c:Call}(ho:o.op=.call c){f:Operand}{name:String}(hc:c.callee=.invoke f name){n:Nat}{k:Slot→List af→Prop}
  (h:match(Ab.bp gl e f).aa with
    | .v x=>z9 P x name (jS e.boxes (fun x=>(Ab.bp gl e x).aa) c.args.toList) (qR (aG P gl) n e.boxes k)
    |_=>False):bH P gl w0 ar e.ak o a w k:=by
 have fI:=Og hI c.args
 split at h
 ·rename_i x hx
  have hf:=hI.sP hx
  unfold z9 at h
  split at h
  ·rename_i t y
   obtain⟨f',mS,h⟩:=aN h
   have hd:=hf.data
   generalize hv:a.eval f=u at hd
   cases hd with
   |iface _ _ v hy=>
    have hr:wF w g.St (.d y::jS e.boxes (fun x=>(Ab.bp gl e x).aa) c.args.toList) (#[v]++c.args.map a.eval):=by
     have h1:wF w g.St [SV.d y] #[v]:=⟨rfl,fun i x v' hx iR=>by
      cases i with
      |zero=>simp at hx iR;subst hx iR;exact .d _ _ _ hy
      |succ i=>simp at hx⟩
     exact h1.append fI
    refine Je hI hr (fun hE=>?_) h
    have rF:=adZ (P:=P) (w:=w) mS (P.types.size+99) v
    have ajx:=hE (#[v]++c.args.map a.eval) w
    have h3:(callMethod (.iface t v) name (c.args.map a.eval)).run P w=.ok (.enter f' (#[v]++c.args.map a.eval)) w:=by
     unfold callMethod
     simp only[Sem.run_bind,run_program,Result.andThen_ok,Made.depth]
     rw[rF]
     simp only[Result.andThen_ok]
     exact ajx
    have e2:∀l:Array Value,(#[Value.iface t v]++l)[0]? =some (.iface t v):=fun l=>by simp[Array.getElem?_append]
    have e3:∀l:Array Value,(#[Value.iface t v]++l).extract 1 (#[Value.iface t v]++l).size =l:=fun l=>by
     apply Array.ext'
     simp[List.take_of_length_le]
    have h4:(invoke (.fn (.method name) #[]) (#[.iface t v]++c.args.map a.eval)).run P w=.ok (.enter f' (#[v]++c.args.map a.eval)) w:=by
     unfold invoke
     simp only[e2,e3]
     exact h3
    simp only[execOp,ho,resolve,hc,hv,Sem.run_bind,Sem.run_pure,Result.andThen_ok]
    exact h4
  ·exact h.elim
 ·exact h.elim
theorem Ni(f:Int→Int→Int)(op:Value→Value→Sem Value)(j0:∀k a b,op (.int k a) (.int k b)=pure (.int k (f a b)))(hf:∀a b,f a b=a∨f a b=b):
  ∀(l:List SV)(vs:List Value)(x:SV)(vx:Value)(r:SV),BC f x l=some r→aP w g.St w0.heap.size (fun _ _ _=>False) x vx→l.length=vs.length→
   (∀(i:Nat)y v,l[i]? =some y→vs[i]? =some v→aP w g.St w0.heap.size (fun _ _ _=>False) y v)→
   ∃v,(vs.foldlM op vx).run P w=.ok v w∧aP w g.St w0.heap.size (fun _ _ _=>False) r v
 |[],[],x,vx,r,h,hx,_,_=>by
  unfold BC at h
  split at h
  ·cases h;exact⟨vx,rfl,hx⟩
  ·rename_i heq;cases heq
  ·cases h
 |y::l,v::vs,x,vx,r,h,hx,hl,hr=>by
  unfold BC at h
  split at h
  ·rename_i heq;cases heq
  ·rename_i k n k' n' l' heq
   cases heq
   split at h
   ·rename_i hk
    subst hk
    have hy:=hr 0 _ v rfl rfl
    obtain⟨ex,wx⟩:=hx.data.uT
    obtain⟨ey,wy⟩:=hy.data.uT
    rw[ex,ey]
    have hw:iG k (f n n')=true:=by rcases hf n n' with h|h<;>rw[h]<;>assumption
    obtain⟨u,hu,zr⟩:=Ni f op j0 hf l vs _ (.int k (f n n')) r h (.d _ _ _ (.int _ _ hw)) (by simpa using hl) (fun i y u h1 h2=>hr (i+1) y u (by simpa using h1) (by simpa using h2))
    refine⟨u,?_,zr⟩
    rw[List.foldlM_cons,j0]
    exact hu
   ·cases h
  ·cases h
 |[],_::_,_,_,_,_,_,h,_=>by simp at h
 |_::_,[],_,_,_,_,_,h,_=>by simp at h
theorem VW(hI:Inv gl w0 ar e a w g){o:Oper}{c:Call}(ho:o.op=.call c){b:Builtin}(hc:c.callee=.builtin b){x:Operand}{xs:List Operand}(hx:c.args.toList=x::xs){f:Int→Int→Int}
  (hb:(b=.min ∧f=minD)∨(b=.max ∧f=maxD)){k:Slot→List af→Prop}
  (h:ab (BC f ((Ab.bp gl e x).aa).bW (xs.map fun y=>((Ab.bp gl e y).aa).bW)) fun r=>k (.v r) e.boxes):bH P gl w0 ar e.ak o a w k:=by
 obtain⟨r,hr,hk⟩:=aN h
 have fI:(c.args.map a.eval).toList =a.eval x::xs.map a.eval:=by rw[Array.toList_map,hx];rfl
 have KI:∀(i:Nat)y v,(xs.map fun y=>((Ab.bp gl e y).aa).bW)[i]? =some y→(xs.map a.eval)[i]? =some v→aP w g.St w0.heap.size (fun _ _ _=>False) y v:=by
  intro i y v hy hv
  simp only[List.getElem?_map,Option.map_eq_some_iff]at hy hv
  obtain⟨z,hz,rfl⟩:=hy
  obtain⟨z',iJ,rfl⟩:=hv
  rw[hz]at iJ;cases iJ
  exact hI.jB z
 rcases hb with⟨rfl,rfl⟩|⟨rfl,rfl⟩
 ·obtain⟨v,hv,Rs⟩:=Ni (P:=P) (w0:=w0) minD Builtin.min2 (fun k a b=>rfl) (fun a b=>by unfold minD;split<;>simp) _ (xs.map a.eval) _ (a.eval x) r hr (hI.jB x) (by simp) KI
  refine bH.gb hI (v:=v) ?_ Rs hk
  have e1:Builtin.min_ c.argTypes o.type (c.args.map a.eval)=(xs.map a.eval).foldlM Builtin.min2 (a.eval x):=by unfold Builtin.min_;rw[fI]
  simp[execOp,ho,resolve,hc,invoke,builtin,e1,hv]
 ·obtain⟨v,hv,Rs⟩:=Ni (P:=P) (w0:=w0) maxD Builtin.max2 (fun k a b=>rfl) (fun a b=>by unfold maxD;split<;>simp) _ (xs.map a.eval) _ (a.eval x) r hr (hI.jB x) (by simp) KI
  refine bH.gb hI (v:=v) ?_ Rs hk
  have e1:Builtin.max_ c.argTypes o.type (c.args.map a.eval)=(xs.map a.eval).foldlM Builtin.max2 (a.eval x):=by unfold Builtin.max_;rw[fI]
  simp[execOp,ho,resolve,hc,invoke,builtin,e1,hv]
end
end Go.Proofs.Ytimbllcalipehaa.Ab
namespace Go.Proofs.Ytimbllcalipehaa.Ab
open Go Go.RowKit
theorem U5{P:Program}{t:TypeId}{z:D}(h:wK P t=some z):∃zv:Value,(∀w:World,(zeroValue t).run P w=.ok zv w)∧∀(w:World)(St:Nat→Nat→Prop),bh w St z zv:=by
 unfold wK at h
 split at h
 ·rename_i i hi
  split at h
  ·rename_i zv hz
   exact⟨zv,fun w=>by simp[zeroValue,typeInfo,hi,hz],fun w St=>Dj h⟩
  ·cases h
 ·cases h
def KS.dA:KS→D
 | .bool b=>.bool b
 | .int k n=>.int k n
 | .str s=>.str s
theorem U6:∀{ks:List CK}{cs:List D}{l:List KS},xc ks cs=some l→cs=l.map KS.dA∧eK ks cs=true
 |[],[],l,h=>by simp only[xc,Option.some.injEq]at h;subst h;exact⟨rfl,rfl⟩
 |[],_::_,l,h=>by simp[xc]at h
 |k::ks,[],l,h=>by cases k<;>simp[xc]at h
 |k::ks,c::cs,l,h=>by
  cases k<;>cases c<;>simp only[xc,reduceCtorEq]at h
  all_goals
   split at h
   ·rename_i r hr
    cases h
    obtain⟨h1,h2⟩:=U6 hr
    exact⟨by simp[KS.dA,h1],by simpa[eK]using h2⟩
   ·cases h
theorem U7:∀{ks:List CK}{l m:List KS},eK ks (l.map KS.dA)=true→KS.lE l m=true→eK ks (m.map KS.dA)=true
 |[],[],[],_,_=>rfl
 |_::_,[],[],h,_=>by simpa using h
 |[],x::l,y::m,h,_=>by cases x<;>simp[KS.dA,eK]at h
 |k::ks,x::l,y::m,h,h2=>by
  simp only[KS.lE,Bool.and_eq_true]at h2
  cases k<;>cases x<;>cases y<;>simp only[List.map_cons,KS.dA,eK,KS.same,Bool.false_eq_true,false_and,reduceCtorEq]at h h2 ⊢
  all_goals exact U7 h h2.2
 |_,[],_::_,_,h=>by simp[KS.lE]at h
 |_,_::_,[],_,h=>by simp[KS.lE]at h
theorem Uv:∀{l m:List KS},KS.lE l m=true→gF (l.map KS.dA) (m.map KS.dA)=some (decide (l=m))
 |[],[],_=>by simp[gF]
 |x::l,y::m,h=>by
  simp only[KS.lE,Bool.and_eq_true]at h
  have ih:=Uv h.2
  have hx:oY x.dA y.dA=some (decide (x=y)):=by
   cases x<;>cases y<;>simp only[KS.same,Bool.false_eq_true,false_and]at h
   ·rename_i a b;simp only[KS.dA,oY,KS.bool.injEq];congr 1
   ·rename_i k a k' b
    have hk:k=k':=by simpa using h.1
    subst hk
    simp only[KS.dA,oY,if_true,KS.int.injEq,true_and];congr 1
   ·rename_i a b;simp only[KS.dA,oY,KS.str.injEq];congr 1
    rw[Bool.eq_iff_iff];simp
  simp only[List.map_cons,gF,hx,ih,List.cons.injEq]
  rw[←Bool.decide_and]
 |[],_::_,h=>by simp[KS.lE]at h
 |_::_,[],h=>by simp[KS.lE]at h
theorem yP.rep{w:World}{St:Nat→Nat→Prop}{k:KS}{v:Value}(h:yP k v):bh w St k.dA v:=by
 cases k with
 |bool b=>subst h;exact .bool b
 |int k n=>obtain⟨rfl,h⟩:=h;exact .int k n h
 |str s=>obtain⟨b,rfl,rfl,h⟩:=h;exact .str b h
theorem yP.of{w:World}{St:Nat→Nat→Prop}{k:KS}{v:Value}(h:bh w St k.dA v):yP k v:=by
 cases k with
 |bool b=>cases h;rfl
 |int k n=>cases h;exact⟨rfl,by assumption⟩
 |str s=>obtain⟨b,e1,e2,e3⟩:=h.x8;exact⟨b,e1,e2.symm,e3⟩
theorem ON{w:World}{St:Nat→Nat→Prop}{l:List KS}{v:Value}(h:(MK.s l).Is v):jC w St true (l.map KS.dA) v:=by
 obtain⟨vs,rfl,h1,h2⟩:=h
 simp only[jC,if_true]
 refine⟨vs,rfl,by simp[h1],fun i x v hx hv=>?_⟩
 rw[List.getElem?_map,Option.map_eq_some_iff]at hx
 obtain⟨k,hk,rfl⟩:=hx
 exact(h2 i k v hk hv).rep
theorem ag7{w:World}{St:Nat→Nat→Prop}{l:List KS}{vs:Array Value}(h:mL w St (l.map KS.dA) vs):(MK.s l).Is (.agg vs):=by
 refine⟨vs,rfl,by have:=h.1;simpa using this.symm,fun i k u hk hu=>?_⟩
 exact yP.of (h.2 i k.dA u (by rw[List.getElem?_map,hk];rfl) hu)
def PX:Option (List CK)→MK→Prop
 |none,n=>∃m,n=.i m
 |some ks,n=>∃l,n=.s l∧eK ks (l.map KS.dA)=true
def Qo(P:Program)(kt:TypeId):Option (List CK)→Prop
 |none=>∃k,P.underlying kt=some (.int k)
 |some ks=>∃fs,P.underlying kt=some (.struct fs)∧shapeOf P 20 kt=some ks∧GO P fs.toList=true
theorem Uw{P:Program}{t et:TypeId}{kd:Option (List CK)}(h:DK P t=some (et,kd)):∃kt,P.underlying t=some (.map kt et)∧Qo P kt kd:=by
 unfold DK at h
 split at h
 ·rename_i kt et' hu
  split at h
  ·rename_i k hk;cases h;exact⟨kt,hu,k,hk⟩
  ·rename_i fs hk
   split at h
   ·rename_i ks ja
    cases hf:GO P fs.toList with
    |true=>rw[hf]at h;cases h;exact⟨kt,hu,fs,hk,ja,hf⟩
    |false=>rw[hf]at h;cases h
   ·cases h
  ·cases h
 ·cases h
def YO(l:List (MK×D))(n:MK)(es:List MapEntry)(i:Nat)(r:Option (Nat×Value)):Prop:=
 (nt l n=none∧r=none)∨∃j x y,r=some (i+j,y.val)∧l[j]? =some x∧es[j]? =some y∧nt l n=some x.2∧x.1=n∧∀(m:Nat)z,m<j→l[m]? =some z→n≠z.1
theorem OO{n:MK}{S:List MapEntry→Nat→Option (Nat×Value)→Prop}(h0:∀i,S [] i none)(CA:∀(x:MK×D)e es i,x.1.Is e.key→n.same x.1=true→n=x.1→S (e::es) i (some (i,e.val)))
  (Zi:∀(x:MK×D)e es i r,x.1.Is e.key→n.same x.1=true→n≠x.1→S es (i+1) r→S (e::es) i r):∀(es:List MapEntry)(l:List (MK×D))(i:Nat),l.length=es.length→
    (∀(j:Nat)x y,l[j]? =some x→es[j]? =some y→x.1.Is y.key)→wJ l n=true→∃r,S es i r∧YO l n es i r
 |[],l,i,hl,_,_=>by
  have:l=[]:=List.eq_nil_of_length_eq_zero hl
  subst this
  exact⟨none,h0 i,.inl ⟨rfl,rfl⟩⟩
 |e::es,[],i,hl,_,_=>by simp at hl
 |e::es,x::l,i,hl,hk,hs=>by
  simp only[wJ,List.all_cons,Bool.and_eq_true]at hs
  have he:=hk 0 x e rfl rfl
  by_cases h:n=x.1
  ·exact⟨some (i,e.val),CA x e es i he hs.1 h,.inr ⟨0,x,e,rfl,rfl,rfl,by rw[nt,if_pos h],h.symm,fun m z hm=>by omega⟩⟩
  ·obtain⟨r,h1,h2⟩:=OO h0 CA Zi es l (i+1) (by simpa using hl) (fun j x y a b=>hk (j+1) x y (by simpa using a) (by simpa using b)) hs.2
   refine⟨r,Zi x e es i r he hs.1 h h1,?_⟩
   rcases h2 with⟨h2,h3⟩|⟨j,x',y,a,b,c,d,d',f⟩
   ·exact .inl ⟨by rw[nt,if_neg h];exact h2,h3⟩
   ·refine .inr ⟨j+1,x',y,by rw[a];congr 2;omega,by simpa using b,by simpa using c,by rw[nt,if_neg h];exact d,d',fun m z hm hz=>?_⟩
    cases m with
    |zero=>simp at hz;subst hz;exact h
    |succ m=>exact f m z (by omega) (by simpa using hz)
theorem T5{P:Program}{w:World}{kt:TypeId}{kd:Option (List CK)}(pY:Qo P kt kd){n:MK}{kv:Value}(hn:n.Is kv)(eT:PX kd n)
  (es:List MapEntry)(l:List (MK×D))(hl:l.length=es.length)(hk:∀(j:Nat)x y,l[j]? =some x→es[j]? =some y→x.1.Is y.key)(hs:wJ l n=true):
  ∃r,(Instr.findKey kt kv es).run P w=.ok r w∧YO l n es 0 r:=by
 cases kd with
 |none=>
  obtain⟨k,hu⟩:=pY
  obtain⟨m,rfl⟩:=eT
  obtain⟨rfl,_⟩:=hn
  obtain⟨r,h1,h2⟩:=OO (n:=.i m) (S:=fun es i r=>Instr.findNow (.int k) (.int .i64 m) es i=some r) (fun i=>rfl)
   (fun x e es i he cm hx=>by
     rw[←hx]at he
     rw[Instr.findNow,show e.key=_ from he.1];simp[Instr.sameNow])
   (fun x e es i r he cm hx hr=>by
     cases jb:x.1 with
     |i m'=>
      rw[jb]at he hx
      rw[Instr.findNow,show e.key=_ from he.1]
      have:(m==m')=false:=by simpa using fun h=>hx (by rw[h])
      simp[Instr.sameNow,this,hr]
     |s l=>rw[jb]at cm;cases cm) es l 0 hl hk hs
  exact⟨r,by simp[Instr.findKey,run_underlying hu,h1],h2⟩
 |some ks=>
  obtain⟨fs,hu,bj,_⟩:=pY
  obtain⟨kl,rfl,mu⟩:=eT
  have pe:eJ P kt=some true:=by simp[eJ,hu]
  have heq:∀(l':List KS)(v:Value),(MK.s l').Is v→KS.lE kl l'=true→(Op.equal kt kv v).run P w=.ok (decide (kl=l')) w:=fun l' v hv hs=>
   M4 (g:=⟨fun _ _=>False,[],fun _=>none⟩) 20 10000 kt ks true _ _ kv v _ bj (by omega) pe mu (U7 mu hs) (ON hn) (ON hv) (Uv hs)
  obtain⟨r,h1,h2⟩:=OO (n:=.s kl) (S:=fun es i r=>(Instr.findAsking kt kv es i).run P w=.ok r w) (fun i=>rfl)
   (fun x e es i he cm hx=>by
     rw[←hx]at he cm
     rw[Instr.findAsking]
     simp[heq kl _ he cm])
   (fun x e es i r he cm hx hr=>by
     cases jb:x.1 with
     |s l'=>
      rw[jb]at he hx cm
      rw[Instr.findAsking]
      have:decide (kl=l')=false:=by simpa using fun h=>hx (by rw[h])
      simp[heq l' _ he cm,this,hr]
     |i m=>rw[jb]at cm;cases cm) es l 0 hl hk hs
  refine⟨r,?_,h2⟩
  cases es with
  |nil=>simp[Instr.findKey,run_underlying hu,Instr.findNow];simpa[Instr.findAsking]using h1
  |cons e es=>simp[Instr.findKey,run_underlying hu,Instr.findNow,Instr.sameNow];exact h1
theorem TM{P:Program}{w:World}{kt:TypeId}{kd:Option (List CK)}(pY:Qo P kt kd){n:MK}{kv:Value}(hn:n.Is kv)(eT:PX kd n)
  (em:Bool):(Instr.checkKey em 10000 kt kv).run P w=.ok () w:=by
 rw[show(10000:Nat)=9998+1+1 from rfl]
 cases kd with
 |none=>
  obtain⟨k,hu⟩:=pY
  rw[Instr.checkKey]
  obtain⟨m,rfl⟩:=eT
  obtain⟨rfl,_⟩:=hn
  simp[run_underlying hu]
 |some ks=>
  obtain⟨fs,hu,bj,rG⟩:=pY
  obtain⟨kl,rfl,mu⟩:=eT
  have hv:=ON (w:=w) (St:=fun _ _=>False) hn
  simp only[jC,if_true]at hv
  obtain⟨cs,rfl,rx⟩:=hv
  rw[show(20:Nat)=19+1 from rfl,shapeOf,hu]at bj
  simp only at bj
  cases aY:P.stoodInHeld kt with
  |true=>rw[aY]at bj;cases bj
  |false=>
   rw[aY]at bj
   simp only[cond_false]at bj
   split at bj
   ·rename_i pT ja
    split at bj
    ·rename_i sz aM
     cases hc:Nat.beq sz pT.length with
     |false=>rw[hc]at bj;cases bj
     |true=>
      rw[hc]at bj;cases bj
      rw[Instr.checkKey]
      simp only[Sem.run_bind,run_underlying hu,Result.andThen_ok]
      rw[←Array.forIn_toList]
      generalize uc:kl.map KS.dA=xs at mu rx
      have Qp:eK ks (xs.drop 0)=true:=mu
      have h0:(0:Nat)≤xs.length:=Nat.zero_le _
      clear hu aY aM hc mu
      generalize fs.toList=L at ja rG
      generalize (0:Nat)=off at ja Qp h0
      induction L generalizing off ks with
      |nil=>simp
      |cons f L ih=>
       simp only[Df]at ja
       simp only[GO,Bool.and_eq_true]at rG
       split at ja
       ·rename_i kf LH
        cases ei:(f.name != "_" &&Nat.beq f.offset off)with
        |false=>rw[ei]at ja;cases ja
        |true=>
         rw[ei]at ja
         simp only[cond_true]at ja
         split at ja
         ·rename_i kr Rm
          cases ja
          simp only[Bool.and_eq_true,bne_iff_ne,ne_eq]at ei
          have Cd:=Nat.eq_of_beq_eq_true ei.2
          obtain⟨jb,xB⟩:=Dg Qp
          obtain⟨ph,pe⟩:=Fx LH
          have lx:=wg Qp
          simp only[List.length_drop,List.length_append]at lx
          obtain⟨b,hb,h1⟩:∃b,eJ P f.type=some b∧(b=false→kf.length=1):=by
           rcases pe with⟨h1,h2⟩|h1
           ·exact⟨false,h1,fun _=>h2⟩
           ·exact⟨true,h1,by simp⟩
          obtain⟨vx,px,qx⟩:=mL.valOf (g:=⟨fun _ _=>False,[],fun _=>none⟩) rx (off:=f.offset) hb ph h1 (by omega)
          have p2:(Instr.checkKey em (9998+1) f.type vx).run P w=.ok () w:=by
           rw[Instr.checkKey]
           have xF:=rG.1
           split at xF
           ·rename_i nH;simp[run_underlying nH]
           ·rename_i nH;simp[run_underlying nH]
           ·rename_i nH;simp[run_underlying nH]
           ·cases xF
          simp only[List.forIn_cons,Sem.run_bind,ei.1,ne_eq,not_false_eq_true,if_true,Result.andThen_ok,px,p2,Sem.run_pure]
          exact ih kr rG.2 (off+kf.length) Rm (by rw[List.drop_drop]at xB;exact xB) (by omega)
         ·cases ja
       ·cases ja
    ·cases bj
   ·cases bj
section
variable{P:Program}{gl:Nat→Option D}{w0:World}{ar:S0}{e:Env}{a:Act}{w:World}{g:Gh}
theorem acN(hI:Inv gl w0 ar e a w g){m:Operand}{l:List (MK×D)}(h:yE e.boxes (Ab.bp gl e m).aa =.mp l):
  ∃r es clock,a.eval m=.map (some r)∧w.heap[r]? =some (.map es clock)∧l.length=es.size∧∀(i:Nat)x y,l[i]? =some x→es[i]? =some y→x.1.Is y.key∧True∧bh w g.St x.2 y.val:=by
 have hx:=hI.bp m
 generalize (Ab.bp gl e m).aa =s at h hx
 cases s with
 |m b=>
  simp only[yE]at h
  split at h
  ·rename_i l' hb
   cases h
   generalize a.eval m=v at hx
   cases hx with
   |m _ _ ao dM=>
    obtain⟨_,es,clock,h1,h2,h3⟩:=hI.boxes b _ ao hb dM
    exact⟨ao,es,clock,rfl,h1,h2,h3⟩
  ·cases h
 |v x=>
  simp only[yE,Slot.bW]at h
  subst h
  have:=hx.jV
  generalize a.eval m=v at this
  cases this with
  |mp _ _ r es clock hh hs hl hc=>exact⟨r,es,clock,rfl,hh,hl,hc⟩
 |_=>simp[yE,Slot.bW]at h
theorem U8{kd:Option (List CK)}{x:SV}{n:MK}(h:nz kd x=some n){St:Nat→Nat→Prop}{base:Nat}{O:Nat→Nat→Nat→Prop}{v:Value}(r:aP w St base O x v):
  n.Is v∧PX kd n:=by
 cases kd with
 |none=>
  simp only[nz]at h
  split at h
  ·cases h
   have:=r.data.uT
   exact⟨⟨this.1,this.2⟩,_,rfl⟩
  ·cases h
 |some ks=>
  simp only[nz]at h
  split at h
  ·rename_i cs
   cases hl:xc ks cs with
   |some l=>
    rw[hl]at h
    cases h
    obtain⟨rfl,mu⟩:=U6 hl
    obtain⟨vs,e1,r1,_⟩:=r.data.x9
    rw[e1]
    exact⟨ag7 r1,l,rfl,mu⟩
   |none=>rw[hl]at h;cases h
  ·cases h
theorem aa5(hI:Inv gl w0 ar e a w g){o:Oper}{t:TypeId}{m x:Operand}{ok:Bool}(ho:o.op=.lookup t m x ok){k:Slot→List af→Prop}
  (h:ab (DK P t) fun et=>ab (wK P et.1) fun z=>ab (u1 et.2 z (yE e.boxes (Ab.bp gl e m).aa) ((Ab.bp gl e x).aa).bW) fun r=>
    bif ok then k (.t [.d r.1,.d (.bool r.2)]) e.boxes else k (.v (.d r.1)) e.boxes):bH P gl w0 ar e.ak o a w k:=by
 obtain⟨⟨et,kd⟩,het,h⟩:=aN h
 obtain⟨z,hz,h⟩:=aN h
 obtain⟨⟨d,b⟩,hr,hk⟩:=aN h
 have hm:=fun l=>acN hI (m:=m) (l:=l)
 have hx:=hI.jB x
 generalize yE e.boxes (Ab.bp gl e m).aa =sm at hr hm
 generalize ((Ab.bp gl e x).aa).bW =sx at hr hx
 obtain⟨zv,xD,mU⟩:=U5 hz
 obtain⟨kt,hu,pY⟩:=Uw het
 unfold u1 at hr
 split at hr
 ·rename_i l
  split at hr
  ·rename_i n hn
   cases vA:wJ l n with
   |false=>rw[vA]at hr;cases hr
   |true=>
    rw[vA,cond_true]at hr
    obtain⟨A6,eT⟩:=U8 hn hx
    obtain⟨r,es,clock,LP,hh,hl,hc⟩:=hm l rfl
    obtain⟨f,zy,CB⟩:=T5 (w:=w) pY A6 eT es.toList l (by simpa using hl) (fun j x y h1 h2=>(hc j x y h1 (by simpa using h2)).1) vA
    have mu:=fun em=>TM (w:=w) pY A6 eT em
    have vq:(getObj r).run P w=.ok (.map es clock) w:=by simp[getObj,Sem.run,hh]
    have key:∃u,((Instr.lookup t (.map (some r)) (a.eval x) ok).run P w=.ok (if ok then .tuple #[u,.bool b]else u) w)∧bh w g.St d u:=by
     rcases CB with⟨h1,h2⟩|⟨j,x',y,h1,h2,h3,h4,_⟩
     ·rw[h1]at hr
      cases hr
      refine⟨zv,?_,mU _ _⟩
      subst h2
      simp[Instr.lookup,run_underlying hu,vq,mu,zy,xD]
     ·rw[h4]at hr
      cases hr
      refine⟨y.val,?_,(hc j x' y h2 (by simpa using h3)).2.2⟩
      subst h1
      simp[Instr.lookup,run_underlying hu,vq,mu,zy]
    obtain⟨u,xE,Zj⟩:=key
    cases ok with
    |true=>
     refine bH.value hI (v:=.tuple #[u,.bool b]) ?_ (.t _ _ _ rfl fun j x v h1 h2=>?_) hk
     ·have h1:(Instr.lookup t (.map (some r)) (a.eval x) true).run P w=.ok (.tuple #[u,.bool b]) w:=xE
      simp[execOp,ho,LP,h1]
     ·match j,h1,h2 with
      |0,h1,h2=>cases h1;cases h2;exact .d _ _ _ Zj
      |1,h1,h2=>cases h1;cases h2;exact .d _ _ _ (.bool _)
      |j+2,h1,h2=>simp at h1
    |false=>
     refine bH.gb hI (v:=u) ?_ (.d _ _ _ Zj) hk
     have h1:(Instr.lookup t (.map (some r)) (a.eval x) false).run P w=.ok u w:=xE
     simp[execOp,ho,LP,h1]
  ·cases hr
 ·cases hr
theorem aaK(hI:Inv gl w0 ar e a w g){o:Oper}{t:TypeId}(ho:o.op=.makeMap t none){id:Nat}{k:Slot→List af→Prop}
  (gj:e.boxes[id]? =some .none)(h:k (.m id) (e.boxes.set id (.map []))):bH P gl w0 ar e.ak o a w k:=by
 refine bH.XT hI gj (ob:=.map #[] 0) (vl:=.map (some w.heap.size)) (by simp[execOp,ho,Instr.makeMap]) (fun g' O hb=>.m _ _ _ hb) (fun g' hX hle=>?_) h
 exact⟨hle,#[],0,uO w _,rfl,fun i x y h=>by simp at h⟩
theorem U9{n:MK}{d:D}:∀{l:List (MK×D)}{j:Nat}{x:MK×D},l[j]? =some x→x.1=n→(∀(i:Nat)y,i<j→l[i]? =some y→n≠y.1)→nA l n d=l.set j (n,d)
 |[],j,x,h,_,_=>by simp at h
 |y::l,0,x,h,hx,_=>by simp at h;subst h;simp[nA,hx]
 |y::l,j+1,x,h,hx,bf=>by
  have h0:=bf 0 y (Nat.succ_pos j) rfl
  simp only[nA,if_neg h0,List.set_cons_succ]
  rw[U9 (by simpa using h) hx fun i z hi hz=>bf (i+1) z (by omega) (by simpa using hz)]
theorem Va{n:MK}{d:D}:∀{l:List (MK×D)},nt l n=none→nA l n d=l++[(n,d)]
 |[],_=>rfl
 |y::l,h=>by
  simp only[nt]at h
  split at h
  ·cases h
  ·rename_i hy
   simp[nA,hy,Va h]
theorem yP.bits{k:KS}{u v:Value}(hu:yP k u)(hv:yP k v)(m:Nat):Instr.sameBits m u v=true:=by
 cases k with
 |bool b=>subst hu;subst hv;cases m<;>simp[Instr.sameBits]
 |int k n=>obtain⟨rfl,_⟩:=hu;obtain⟨rfl,_⟩:=hv;cases m<;>simp[Instr.sameBits]
 |str s=>
  obtain⟨b,rfl,h1,_⟩:=hu
  obtain⟨c,rfl,h2,_⟩:=hv
  have:b=c:=by
   have:b.data=c.data:=Array.toList_inj.1 (h1.trans h2.symm)
   cases b;cases c;simp only at this;rw[this]
  subst this
  have hb:(b==b)=true:=by show(b.data==b.data)=true;simp
  cases m<;>simp only[Instr.sameBits,hb]
theorem Is.bits{n:MK}{u v:Value}(hu:n.Is u)(hv:n.Is v):Instr.sameBits 10000 u v=true:=by
 cases n with
 |i m=>obtain⟨rfl,_⟩:=hu;obtain⟨rfl,_⟩:=hv;simp[Instr.sameBits]
 |s l=>
  obtain⟨us,rfl,h1,h2⟩:=hu
  obtain⟨vs,rfl,h3,h4⟩:=hv
  rw[show(10000:Nat)=9999+1 from rfl,Instr.sameBits]
  simp only[Bool.and_eq_true,beq_iff_eq,List.all_eq_true]
  refine⟨h1.trans h3.symm,fun⟨x,y⟩hxy=>?_⟩
  obtain⟨i,hi⟩:=List.mem_iff_getElem?.1 hxy
  rw[List.getElem?_zip_eq_some]at hi
  obtain⟨hx,hy⟩:=hi
  rw[Array.getElem?_toList]at hx hy
  have pZ:i<l.length:=by have:=(Array.getElem?_eq_some_iff.1 hx).1;omega
  exact(h2 i _ x (List.getElem?_eq_getElem pZ) hx).bits (h4 i _ y (List.getElem?_eq_getElem pZ) hy) 9999
theorem aaL{n:MK}{u v:Value}(hu:n.Is u)(hv:n.Is v):(Instr.keyThatStays u v).run P w=.ok v w:=by simp[Instr.keyThatStays,Is.bits hu hv]
theorem aaj(hI:Inv gl w0 ar e a w g){o:Oper}{t:TypeId}{m x y:Operand}(ho:o.op=.mapUpdate t m x y)(hd:o.dst=none){et:TypeId×Option (List CK)}(het:DK P t=some et){b:Nat}(hm:(Ab.bp gl e m).aa =.m b)
  {l:List (MK×D)}(hb:e.boxes[b]? =some (.map l)){n:MK}(hn:nz et.2 ((Ab.bp gl e x).aa).bW =some n){d:D}(hy:dA ((Ab.bp gl e y).aa).bW =some d){l':List (MK×D)}(G8:qW l n d=some l'){k:Slot→List af→Prop}
  (hk:k (.t []) (e.boxes.set b (.map l'))):bH P gl w0 ar e.ak o a w k:=by
 have hx:=hI.jB x
 obtain⟨A6,eT⟩:=U8 hn hx
 obtain⟨et,kd⟩:=et
 obtain⟨kt,hu,pY⟩:=Uw het
 have hry:=(hI.jB y).dA hy
 have cm:=hI.pg hm
 unfold qW at G8
 cases vA:wJ l n with
 |false=>rw[vA]at G8;cases G8
 |true=>
  rw[vA,cond_true]at G8
  cases G8
  generalize LP:a.eval m=vm at cm
  cases cm with
  |m _ _ ao dM=>
   obtain⟨nI,es,clock,hh,hl,hc⟩:=hI.boxes b _ ao hb dM
   obtain⟨f,zy,CB⟩:=T5 (w:=w) pY A6 eT es.toList l (by simpa using hl) (fun j x y h1 h2=>(hc j x y h1 (by simpa using h2)).1) vA
   have mu:=TM (w:=w) pY A6 eT false
   have vq:(getObj ao).run P w=.ok (.map es clock) w:=by simp[getObj,Sem.run,hh]
   have fin:∀(A7:Array MapEntry)(DO:Nat),(Instr.mapUpdate t (.map (some ao)) (a.eval x) (a.eval y)).run P w=.ok () {w with heap:=w.heap.setIfInBounds ao (.map A7 DO)}→
     (nA l n d).length =A7.size→(∀(i:Nat)x z,(nA l n d)[i]? =some x→A7[i]? =some z→x.1.Is z.key∧True∧bh w g.St x.2 z.val)→bH P gl w0 ar e.ak o a w k:=by
    intro A7 DO bq hlen bw next Q PV
    have ajy:(execOp a.eval o).run P w=.ok .skip {w with heap:=w.heap.setIfInBounds ao (.map A7 DO)}:=by
     simp[execOp,ho,LP,bq]
    unfold Oper.wp
    rw[ajy]
    have eW:=MapKept.heap_set (o':=.map A7 DO) hh
    refine PV (.t []) undef _ _ g ?_ hk
    rw[hd]
    refine hI.XU (dst:=none) (s:=.t []) (v:=undef) (ak:=e.ak) (w':={w with heap:=w.heap.setIfInBounds ao (.map A7 DO)}) (fun _=>False) (fun _=>False) rfl rfl (fun _ _ _ _ _ h=>h) (fun _ h=>h) dM eW.2 (fun c ty h=>by rw[hh]at h;cases h) (by simp) ⟨rfl,rfl,rfl⟩ rfl
     (fun i x hx _=>⟨x,hx,.inl ⟨rfl,fun h=>h⟩⟩) (fun hX hle=>?_) (fun _ d h=>by cases h)
    exact⟨hle,A7,DO,eW.1,hlen,fun i x z h1 h2=>⟨(bw i x z h1 h2).1,(bw i x z h1 h2).2.1,hX.xd (bw i x z h1 h2).2.2⟩⟩
   rcases CB with⟨h1,h2⟩|⟨j,x',z,h1,h2,h3,_,h4,h5⟩
   ·subst h2
    rw[Va h1]at fin
    refine fin (es.push {key:=a.eval x,val:=a.eval y,born:=clock}) (clock+1) ?_ (by simp[hl]) (fun i x z hx hz=>?_)
    ·simp[Instr.mapUpdate,run_underlying hu,vq,mu,zy,MapKept.run_setObj_map _ hh]
    ·rw[List.getElem?_append]at hx
     rw[Array.getElem?_push]at hz
     split at hx
     ·rename_i hi
      rw[if_neg (by omega)]at hz
      exact hc i x z hx hz
     ·rename_i hi
      have:i-l.length=0:=by
       rcases Nat.eq_zero_or_pos (i-l.length)with h|h
       ·exact h
       ·rw[List.getElem?_eq_none (by simp;omega)]at hx;cases hx
      rw[this]at hx
      simp at hx;subst hx
      rw[if_pos (by omega)]at hz
      cases hz
      exact⟨A6,trivial,hry⟩
   ·have hj:es[j]? =some z:=by simpa using h3
    subst h1
    have p6:=(hc j x' z h2 hj).1
    rw[h4]at p6
    rw[U9 h2 h4 h5]at fin
    have kH:j<es.size:=(Array.getElem?_eq_some_iff.1 hj).1
    refine fin (es.modify j fun e=>{e with key:=a.eval x,val:=a.eval y}) clock ?_ (by simp[hl]) (fun i x u hx nH=>?_)
    ·simp[Instr.mapUpdate,run_underlying hu,vq,mu,zy,hj,aaL p6 A6,MapKept.run_setObj_map _ hh]
    ·rw[List.getElem?_set]at hx
     rw[Array.getElem?_modify]at nH
     split at hx
     ·rename_i mA
      subst mA
      split at hx
      ·cases hx
       rw[if_pos rfl,hj]at nH
       cases nH
       exact⟨A6,trivial,hry⟩
      ·cases hx
     ·rename_i mA
      rw[if_neg mA]at nH
      exact hc i x u hx nH
theorem abR{x y:SV}{m:Nat}(h:lenOf x y=some m):∃k,x=.d (.int k m)∧y=.d (.int k m):=by
 unfold lenOf at h
 split at h
 ·rename_i k a k' b
  split at h
  ·rename_i hc
   obtain⟨rfl,rfl,h0⟩:=hc
   cases h
   exact⟨k,by rw[Int.toNat_of_nonneg h0],by rw[Int.toNat_of_nonneg h0]⟩
  ·cases h
 ·cases h
theorem Vb{t:TypeId}{z:D}(h:wK P t=some z):∃i zv,P.info? t=some i∧i.zero=some zv∧z.one=true∧zv.cells= #[zv]∧∀(w:World)(St:Nat→Nat→Prop),bh w St z zv:=by
 unfold wK at h
 split at h
 ·rename_i i hi
  split at h
  ·rename_i zv hz
   have h1:=(Dj (w:=default) (St:=fun _ _=>False) h).uS (Nr h)
   exact⟨i,zv,hi,hz,Nr h,by cases zv<;>first|rfl|simp[Value.oneCell']at h1,fun w St=>Dj h⟩
  ·cases h
 ·cases h
theorem D.uP{d:D}(h:d.one=true):d.cells=[d]:=by cases d<;>first|rfl|simp[D.one]at h
theorem aak(hI:Inv gl w0 ar e a w g){o:Oper}{t:TypeId}{n c:Operand}(ho:o.op=.makeSlice t n c){k:Slot→List af→Prop}
  (h:ab (mJ P t) fun e'=>ab (eu P e') fun sz=>ab (wz P e') fun cX=>ab (wK P e') fun z=>
    bif Nat.beq sz 1&&Nat.blt 0 cX then(ab (lenOf ((Ab.bp gl e n).aa).bW ((Ab.bp gl e c).aa).bW) fun m=>m*cX≤140737488355328∧k (.v (.aZ 1 (List.replicate m z))) e.boxes)else False):
  bH P gl w0 ar e.ak o a w k:=by
 obtain⟨e',he,h1⟩:=aN h
 obtain⟨sz,aM,h2⟩:=aN h1
 obtain⟨cX,my,h3⟩:=aN h2
 obtain⟨z,hz,h4⟩:=aN h3
 clear h h1 h2 h3
 cases ei:(Nat.beq sz 1&&Nat.blt 0 cX)with
 |false=>rw[ei]at h4;exact h4.elim
 |true=>
  rw[ei,cond_true]at h4
  simp only[Bool.and_eq_true]at ei
  have gk:=Nat.eq_of_beq_eq_true ei.1
  have vB:0<cX:=Nat.lt_of_succ_le (Nat.le_of_ble_eq_true ei.2)
  subst gk
  obtain⟨m,hm,LQ,hk⟩:=aN h4
  obtain⟨i,zv,hi,xD,bY,hzc,mU⟩:=Vb hz
  obtain⟨kk,e1,e2⟩:=abR hm
  have v1:=(hI.jB n)
  have v2:=(hI.jB c)
  rw[e1]at v1
  rw[e2]at v2
  have Qq:i.size=1:=by simpa[eu,hi]using aM
  have K7:i.bytes=cX:=by simpa[wz,hi]using my
  have bG:m*1≤m*cX:=Nat.mul_le_mul_left _ vB
  have kJ:(cX:Int)*(m:Int)≤281474976710656:=by
   have h:((cX*m:Nat):Int)≤281474976710656:=by rw[Nat.mul_comm];omega
   rwa[Int.natCast_mul]at h
  have bq:=Go.run_make (P:=P) w t e' i zv (zY he) hi xD kk kk m m (by omega) (Int.le_refl _) (by rw[K7];exact kJ) (by omega)
  simp only[Int.toNat_natCast,Qq,Nat.mul_one]at bq
  have Rt:(List.replicate m z).length =m:=by simp
  have dv:=D.uP bY
  refine bH.WV hI (cells:=madeCells zv.cells m) (t:=e') (sz:=1) (L:=List.replicate m z) ?_ (by rw[Rt,Nat.mul_one];exact size_madeCells _ _) (by rw[Rt];simp only[maxLen];omega) (fun x hx=>?_) (fun i' x j c' hx hc=>?_) hk
  ·rw[Rt]
   simp[execOp,ho,v1.int,v2.int,bq]
  ·rw[(List.mem_replicate.1 hx).2,dv]
   exact⟨rfl,fun c hc=>by rw[List.mem_singleton.1 hc];exact bY⟩
  ·have ee:=(List.mem_replicate.1 (List.mem_of_getElem? hx)).2
   have pZ:i'<m:=by have:=(List.getElem?_eq_some_iff.1 hx).1;simpa using this
   subst ee
   rw[dv]at hc
   have hj:j=0:=by
    cases j with
    |zero=>rfl
    |succ j=>simp at hc
   subst hj
   simp at hc
   subst hc
   refine⟨by rw[size_madeCells];omega,?_⟩
   simp only[Nat.mul_one,Nat.add_zero,madeCells,hzc]
   simp[pZ,Nat.mod_one]
   exact mU _ _
theorem cE.B1{base:Nat}{O:Nat→Nat→Nat→Nat→Prop}{b n sz:Nat}{v:Value}(h:cE base w g O (.a b n sz) v):
  n≤maxLen∧∃ao cap,g.bx[b]? =some (some ao)∧n≤cap∧v=.slice (some ⟨ao,0,none⟩) n cap∧cap≤maxLen∧∃c ty,w.heap[ao]? =some (.cells c ty (0,0))∧c.size=cap*sz:=by
 cases h with
 |a _ _ _ _ _ hm h=>exact⟨hm,h⟩
theorem acO(hI:Inv gl w0 ar e a w g){o:Oper}{c:Call}(ho:o.op=.call c)(hc:c.callee=.builtin .len){x:Operand}{xs:List Operand}{t:TypeId}{ts:List TypeId}
  (hx:c.args.toList=x::xs)(ht:c.argTypes.toList=t::ts){b n sz:Nat}(hs:(Ab.bp gl e x).aa =.a b n sz)(jq:isSlice P t=true){k:Slot→List af→Prop}(hk:k (.v (.d (.int .i64 n))) e.boxes):bH P gl w0 ar e.ak o a w k:=by
 obtain⟨hm,hv⟩:=(hI.pg hs).B1
 have h0:c.args[0]? =some x:=by rw[←Array.getElem?_toList,hx];rfl
 have h1:c.argTypes[0]? =some t:=by rw[←Array.getElem?_toList,ht];rfl
 have hu:∃e',P.underlying t=some (.slice e'):=by
  unfold isSlice at jq
  split at jq
  ·exact⟨_,by assumption⟩
  ·cases jq
 obtain⟨e',hu⟩:=hu
 have iR:∃ad cap,a.eval x=.slice ad n cap:=by
  obtain⟨ao,cap,_,_,h,_⟩:=hv
  exact⟨_,_,h⟩
 obtain⟨ad,cap,iR⟩:=iR
 refine bH.gb hI (v:=.int .i64 n) ?_ (.d _ _ _ (.int _ _ ?_)) hk
 ·have hl:(Builtin.len_ c.argTypes o.type (c.args.map a.eval)).run P w=.ok (.int .i64 n) w:=by simp[Builtin.len_,h0,h1,run_underlying hu,iR,goInt]
  simp[execOp,ho,resolve,hc,invoke,builtin,hl]
 ·simp only[maxLen]at hm
  simp[iG,IntKind.min,IntKind.max,IntKind.signed,IntKind.bits]
  omega
theorem aa6(hI:Inv gl w0 ar e a w g){o:Oper}{t:TypeId}{x i:Operand}(ho:o.op=.indexAddr t x i){e':TypeId}(hu:P.underlying t=some (.slice e')){sz:Nat}(aM:eu P e'=some sz)
  {b n EG:Nat}(hs:(Ab.bp gl e x).aa =.a b n EG){j:Nat}(hj:cN ((Ab.bp gl e i).aa).bW n=some j){k:Slot→List af→Prop}(hk:k (.p b (j*sz)) e.boxes):bH P gl w0 ar e.ak o a w k:=by
 obtain⟨hm,hv⟩:=(hI.pg hs).B1
 obtain⟨kk,ii,e1,h1,h2,rfl⟩:=tu hj
 have hi:=hI.jB i
 rw[e1]at hi
 have vt:=hi.int
 obtain⟨ao,cap,hb,hle,hv,_⟩:=hv
 refine bH.value hI (v:=.pointer (some ⟨ao,ii.toNat*sz,none⟩)) ?_ (.p _ _ _ _ hb) hk
 have:=pB ao 0 (ii.toNat*sz)
 rw[Nat.zero_add]at this
 simp[execOp,ho,Instr.indexAt,vt,asIntOf,run_underlying hu,hv,h1,h2,j9 aM,this]
end
end Go.Proofs.Ytimbllcalipehaa.Ab
namespace Go.Proofs.Ytimbllcalipehaa.Ab
open Go Go.RowKit
section
variable{P:Program}{gl:Nat→Option D}{w0:World}{ar:S0}{e:Env}{a:Act}{w:World}{g:Gh}
theorem T6(hI:Inv gl w0 ar e a w g){o:Oper}{c:Call}(ho:o.op=.call c)(hc:c.callee=.builtin .append){ak:List Slot}{lost:Nat→Prop}(hH:u3 e ak lost o.dst)
  {x y:Operand}{t u:TypeId}
  (hx:c.args.toList=[x,y])(ht:c.argTypes.toList=[t,u]){sx sy:SV}{O:Nat→Nat→Nat→Prop}{Oy:Nat→Nat→Nat→Prop}(rx:aP w g.St w0.heap.size O sx (a.eval x))(ry:aP w g.St w0.heap.size Oy sy (a.eval y))
  (hO:∀b a' c,O b a' c→∃i0,fa w0.heap.size w g (.s i0 0) b a' c∧lost i0){k:Slot→List af→Prop}
  (h:bif Nat.beq t u then(ab (mJ P t) fun e'=>ab (eu P e') fun sz=>ab (wz P e') fun cX=>ab (oT P e') fun z=>
    bif Nat.blt 0 cX&&Nat.blt 0 sz&&Nat.beq z.length sz then bR sz cX sx sy fun r=>k (.v r) e.boxes else False)else False):bH P gl w0 ar ak o a w k:=by
 cases vC:Nat.beq t u with
 |false=>rw[vC]at h;exact h.elim
 |true=>
  have:=Nat.eq_of_beq_eq_true vC
  subst this
  rw[vC]at h
  simp only[cond_true]at h
  obtain⟨e',he,h⟩:=aN h
  obtain⟨sz,aM,h⟩:=aN h
  obtain⟨cX,my,h⟩:=aN h
  obtain⟨z,hz,h⟩:=aN h
  cases ei:(Nat.blt 0 cX&&Nat.blt 0 sz&&Nat.beq z.length sz)with
  |false=>simp only[ei,cond_false]at h
  |true=>
   simp only[ei,cond_true]at h
   simp only[Bool.and_eq_true]at ei
   obtain⟨⟨h1,h2⟩,h3⟩:=ei
   have vB:0<cX:=Nat.lt_of_succ_le (Nat.le_of_ble_eq_true h1)
   have lN:0<sz:=Nat.lt_of_succ_le (Nat.le_of_ble_eq_true h2)
   have A4:=Nat.eq_of_beq_eq_true h3
   obtain⟨⟨r,n⟩,hr,LQ,hk⟩:=aN h
   obtain⟨i,zv,hi,xD,gW⟩:=Ut hz
   have hu:=zY he
   have Qq:i.size=sz:=by simpa[eu,hi]using aM
   have K7:i.bytes=cX:=by simpa[wz,hi]using my
   intro next Q hn
   obtain⟨v,w',g',bq,hinv⟩:=aa3 (ty:=o.type) hI hH hu hi xD Qq (by rw[gW,A4]) lN rx ry hO hr (by rw[K7];exact LQ) (by rw[K7];exact vB)
   unfold Oper.wp
   have fI:c.args.map a.eval= #[a.eval x,a.eval y]:=by
    apply Array.toList_inj.1
    rw[Array.toList_map,hx];rfl
   have akx:c.argTypes= #[t,t]:=by apply Array.toList_inj.1;rw[ht]
   have:(execOp a.eval o).run P w=.ok (.value v) w':=by
    simp only[execOp,ho,resolve,hc,Sem.run_bind,Sem.run_pure,Result.andThen_ok,invoke,builtin,fI,akx,bq]
   rw[this]
   exact hn (.v r) v _ w' g' hinv hk
theorem abS{b:Bool}{A:Prop}(h:cond b A False):b=true∧A:=by cases b;exact h.elim;exact⟨rfl,h⟩
theorem ad0(hI:Inv gl w0 ar e a w g){id:Nat}{o:Oper}{k:Slot→List af→Prop}(h:dH P (aG P gl) id o (fun x=>(Ab.bp gl e x).aa) e.boxes k):bH P gl w0 ar e.ak o a w k:=by
 cases ho:o.op<;>simp only[dH,ho]at h
 case move x=>exact bH.value hI (by simp[execOp,ho]) (hI.bp x) h
 case assign x=>exact bH.value hI (by simp[execOp,ho]) (hI.bp x) h
 case pick c x y=>
  split at h
  ·rename_i s hs
   obtain⟨b,rfl,h1,h2⟩:=Dw h
   have hv:=(hI.sP hs).data.wA
   cases b
   ·exact bH.value hI (v:=a.eval y) (by simp[execOp,ho,hv,asBool]) (hI.bp y) (h2 rfl)
   ·exact bH.value hI (v:=a.eval x) (by simp[execOp,ho,hv,asBool]) (hI.bp x) (h1 rfl)
  ·exact h.elim
 case alloc t=>
  split at h
  ·rename_i gj;exact abI hI ho gj h
  ·exact h.elim
 case box t x=>
  split at h
  ·rename_i gj;exact adX hI ho gj h
  ·exact h.elim
 case build t ps=>exact abQ hI ho h
 case buildSlice t n ps=>exact aaa hI ho h
 case load t x=>
  obtain⟨⟨b,n⟩,hl,h⟩:=aN h
  split at h
  ·rename_i bn off hs;exact aaH hI ho hl hs h
  ·rename_i s hs;exact abK hI ho hl hs h
  ·exact h.elim
 case store t x y=>
  obtain⟨n,hn,h⟩:=aN h
  split at h
  ·rename_i bn off hs
   split at h
   ·rename_i hd;exact abL hI ho hd hn hs h
   ·exact h.elim
  ·exact h.elim
 case nilCheck x=>exact aas hI ho h
 case binOp op t x y u=>exact adW hI ho h
 case unOp op t x=>exact afn hI ho h
 case convert src dst x=>
  cases hs:(P.underlying src).isSome with
  |false=>rw[hs]at h;exact h.elim
  |true=>rw[hs]at h;exact acK hI ho hs h
 case makeInterface t x=>exact abM hI ho h
 case makeFunc fn first cap=>exact aat hI ho h
 case slice t x lo hi mx=>exact abP hI ho h
 case fieldAddr t x f=>exact aah hI ho h
 case field t x f=>exact abN hI ho h
 case indexAddr t x i=>
  cases hs:(Ab.bp gl e x).aa with
  |a b n=>
   rw[hs]at h
   split at h
   ·rename_i e' hu
    obtain⟨sz,aM,h1⟩:=aN h
    obtain⟨j,hj,hk⟩:=aN h1
    exact aa6 hI ho hu aM hs hj hk
   ·obtain⟨sz,aM,h1⟩:=aN h
    obtain⟨j,hj,hk⟩:=aN h1
    exact hk.elim
   ·exact h.elim
  |_=>exact aai hI ho (by rw[hs]at h ⊢;exact h)
 case index t x i=>exact abO hI ho h
 case extract x i=>exact aaJ hI ho h
 case lookup t m x ok=>exact aa5 hI ho h
 case makeSlice t n c=>exact aak hI ho h
 case makeMap t hn=>
  split at h
  ·rename_i hh gj;exact aaK hI ho gj h
  ·exact h.elim
 case mapUpdate t m x y=>
  obtain⟨et,het,h1⟩:=aN h
  split at h1
  ·rename_i b hm hd
   split at h1
   ·rename_i l hb
    obtain⟨n,hn,h2⟩:=aN h1
    obtain⟨d,kG,h3⟩:=aN h2
    obtain⟨l',jn,hk⟩:=aN h3
    exact aaj hI ho hd het hm hb hn kG jn hk
   ·exact h1.elim
  ·exact h1.elim
 case call c=>
  split at h
  ·rename_i f hc
   refine acM hI ho hc (n:=arity P o.type) ?_
   split at h
   ·rename_i s hs;simp only[hs];exact h
   ·rename_i g' first cap hs;simp only[hs];exact h
   ·exact h.elim
  ·rename_i recv name hc
   refine aa4 hI ho hc (n:=arity P o.type) ?_
   split at h
   ·rename_i s hs;simp only[hs];exact h
   ·exact h.elim
  ·rename_i b hc
   split at h
   ·rename_i x xs t ts hx ht
    cases hs:(Ab.bp gl e x).aa with
    |a b n=>
     rw[hs]at h
     obtain⟨hb,hk⟩:=abS h
     exact acO hI ho hc hx ht hs hb hk
    |_=>exact adY hI ho hc hx ht (by rw[hs]at h ⊢;exact h)
   ·rename_i x y t u hx ht
    exact T6 hI ho hc (u3.same e o.dst) hx ht (hI.jB x) (hI.jB y) (fun _ _ _ h=>h.elim) h
   ·rename_i x xs ts hx;exact VW hI ho hc hx (.inl ⟨rfl,rfl⟩) h
   ·rename_i x xs ts hx;exact VW hI ho hc hx (.inr ⟨rfl,rfl⟩) h
   ·exact h.elim
 all_goals exact h.elim
end
end Go.Proofs.Ytimbllcalipehaa.Ab
set_option linter.unusedVariables false
set_option linter.unusedSimpArgs false
namespace Go.Proofs.Ytimbllcalipehaa.Ab
open Go Go.RowKit
section
variable{P:Program}{gl:Nat→Option D}{w0:World}{ar:S0}{e:Env}{a:Act}{w:World}{g:Gh}
theorem Jp:∀{l:List SV}{i:Nat}{x:SV},SV.iB l=true→l[i]? =some x→x.aD=true
 |[],i,x,h,hx=>by simp at hx
 |y::l,0,x,h,hx=>by
  simp only[SV.iB,Bool.and_eq_true]at h
  simp at hx;subst hx;exact h.1
 |y::l,i+1,x,h,hx=>by
  simp only[SV.iB,Bool.and_eq_true]at h
  exact Jp h.2 (by simpa using hx)
theorem aP.XV{St:Nat→Nat→Prop}{base yI:Nat}{O:Nat→Nat→Nat→Prop}{x:SV}{v:Value}(r:aP w St base O x v)(h:x.aD=true):aP w St yI O x v:=by
 induction r with
 |d O x v hd=>exact .d _ _ _ hd
 |own O sz L g cap hd bM ho=>exact .own _ _ _ _ _ hd bM ho
 |full O sz L a hd=>exact .full _ _ _ _ hd
 |ref=>cases h
 |cU=>cases h
 |aX O x off b o vs hf aR hc=>exact .aX _ _ _ _ _ _ hf aR hc
 |dT O f first cap fv cv hf hc rf rc kB kC=>
  simp only[SV.aD,Bool.and_eq_true]at h
  exact .dT _ f first cap fv cv hf hc (fun i x v a b=>kB i x v a b (Jp h.1 a)) (fun i x v a b=>kC i x v a b (Jp h.2 a))
 |aZ O sz L g cap vs bM hm aM hf ho aR hc=>exact .aZ _ _ _ _ _ _ bM hm aM hf ho aR hc
 |mp O l r es clock hh hs hl hc=>exact .mp _ _ _ _ _ hh hs hl hc
 |nest O LL gg cap bk cp h1 h2 h3 h4 h5 h6=>exact .nest _ LL gg cap bk cp h1 h2 h3 h4 h5 h6
 |undef O v=>exact .undef _ _
theorem aP.sG{St:Nat→Nat→Prop}{base:Nat}{O O':Nat→Nat→Nat→Prop}{x:SV}{v:Value}(r:aP w St base O x v)(h:∀b a c,O b a c→O' b a c):aP w St base O' x v:=
 r.mono (fun _ _ h=>⟨h,.refl _ _ _⟩) (fun _ _ _=>rfl) _ fun b a c ho=>⟨h b a c ho,.refl _ _ _⟩
theorem aP.afq{St:Nat→Nat→Prop}{base:Nat}{O O':Nat→Nat→Nat→Prop}{x:SV}{v:Value}(r:aP w St base O x v)(h:∀b a c,a≤c→O b a c→O' b a c):aP w St base O' x v:=by
 cases r with
 |d _ x v hd=>exact .d _ _ _ hd
 |own _ sz L g cap hd bM ho=>
  refine .own _ _ _ _ _ hd bM (h _ _ _ ?_ ho)
  cases hd with
  |sl _ _ _ _ _ vs hc=>exact Nat.mul_le_mul_right _ hc
  |mr _ _ _ ha=>exact absurd rfl ha
 |full _ sz L a hd=>exact .full _ _ _ _ hd
 |ref _ cs off b o vs hb aR hc=>exact .ref _ _ _ _ _ _ hb aR hc
 |cU _ n sz cs b cap vs hb hn hm aR hc=>exact .cU _ _ _ _ _ _ _ hb hn hm aR hc
 |aX _ x off b o vs hf aR hc=>exact .aX _ _ _ _ _ _ hf aR hc
 |dT _ f first cap fv cv hf hc rf rc=>exact .dT _ _ _ _ _ _ hf hc rf rc
 |aZ _ sz L g cap vs bM hm aM hf ho aR hc=>exact .aZ _ _ _ _ _ _ bM hm aM hf (h _ _ _ (Nat.zero_le _) ho) aR hc
 |mp _ l r es clock hh hs hl hc=>exact .mp _ _ _ _ _ hh hs hl hc
 |nest _ LL gg cap bk cp h1 h2 h3 h4 h5 h6=>exact .nest _ LL gg cap bk cp h1 h2 (h _ _ _ (Nat.zero_le _) h3) h4 (fun i L hL=>⟨h _ _ _ (Nat.zero_le _) (h5 i L hL).1,(h5 i L hL).2⟩) h6
 |undef _ v=>exact .undef _ _
noncomputable def rowOf(w0 w:World)(g:Gh)(t p b:Nat):Option Nat:=by
 classical exact if ∃a c,fa w0.heap.size w g (.s t 0) b a c∧a≤c then some p else none
theorem Nu{t p b i:Nat}(h:rowOf w0 w g t p b=some i):i=p∧∃a c,fa w0.heap.size w g (.s t 0) b a c∧a≤c:=by
 unfold rowOf at h
 split at h
 ·rename_i hh;cases h;exact⟨rfl,hh⟩
 ·cases h
theorem acP{t p b a' c':Nat}(h:fa w0.heap.size w g (.s t 0) b a' c')(EH:a'≤c'):rowOf w0 w g t p b=some p:=by
 unfold rowOf
 rw[if_pos ⟨a',c',h,EH⟩]
theorem Uz{t p b:Nat}(h:g.ow b≠some (.s t 0)):rowOf w0 w g t p b=none:=by
 cases hr:rowOf w0 w g t p b with
 |none=>rfl
 |some i=>exact absurd (Nu hr).2.choose_spec.choose_spec.1.1 h
theorem Inv.afr(hI:Inv gl w0 ar e a w g){t p:Nat}{w':World}{bS:Nat→Nat→Prop}{ow:Nat→Option Nat}(zo:w'.os=w.os)(PY:w'.tape=w.tape)(Qr:w'.output=w.output)(aM:w.heap.size≤w'.heap.size)
  (dM:∀b,b<w.heap.size→rowOf w0 w g t p b=none→w'.heap[b]? =w.heap[b]?)(h1:∀b o,g.St b o→bS b o∧qH w w' b o)
  (h2:∀b o,bS b o→g.St b o∨((w.heap.size≤b∨rowOf w0 w g t p b≠none)∧b<w'.heap.size))(dst:Option Nat){bk:SV}{s:Slot}{v:Value}
  (vD:aP w' bS 0 (XO w.heap.size (rowOf w0 w g t p) w' bS ow 0) bk (a.tmps.getD t undef))
  (hs:∀g':Gh,g'.St=bS→(∀d,dst=some d→∀j b a c,XO w.heap.size (rowOf w0 w g t p) w' bS ow (j+1) b a c→fa w0.heap.size w' g' (.s d j) b a c)→∀d,dst=some d→cE w0.heap.size w' g' (fO w0.heap.size w' g' d) s v):
  ∃g',Inv gl w0 ar ⟨cS (e.ak.set t (.v bk)) dst s,e.boxes⟩ (a.put dst v) w' g':=by
 have hle:w0.heap.size≤w.heap.size:=hI.below.size
 let A:=rowOf w0 w g t p
 let g':Gh:={St:=bS,bx:=g.bx,ow:=fun b=>if w.heap.size≤b∨A b≠none then(match ow b with|some 0=>some (.s t 0)|some (j+1)=>dst.map fun d=>Pos.s d j|none=>none)else g.ow b}
 have ko:∀b,A b≠none→w0.heap.size≤b∧some b∉g.bx∧b<w.heap.size:=fun b hb=>by
  cases hA:A b with
  |none=>exact absurd hA hb
  |some i=>
   obtain⟨_,a',c',o,_⟩:=Nu hA
   exact⟨o.2.1,o.2.2.1,o.lt⟩
 have hXO:∀{j b a' c'}{q:Pos},XO w.heap.size A w' bS ow j b a' c'→(match j with|0=>some (Pos.s t 0)|(j+1)=>dst.map fun d=>Pos.s d j)=some q→fa w0.heap.size w' g' q b a' c':=fun{j b a' c' q}h hq=>by
  obtain⟨x1,x2,x3,x4⟩:=h
  refine⟨?_,?_,?_,x3,x4⟩
  ·show(if w.heap.size≤b∨A b≠none then(match ow b with|some 0=>some (.s t 0)|some (j+1)=>dst.map fun d=>Pos.s d j|none=>none)else g.ow b)=some q
   rw[if_pos x2,x1]
   cases j<;>exact hq
  ·rcases x2 with h|h
   ·omega
   ·exact(ko b h).1
  ·intro hm
   rcases x2 with h|h
   ·have:=(hI.dF b hm).2;omega
   ·exact(ko b h).2.1 hm
 have hX:Ext w0.heap.size w g w' g' (fun q=>∃j,q=.s t j):=by
  refine⟨fun D o fW ho h=>?_,h1,fun b o h=>World.cell?_of_block (dM b (by omega) ?_),fun _ _ h=>h,fun q b a' c' hq ho=>?_,fun b c ty hm hb=>⟨c,ty,(dM b (fL hb) ?_).trans hb,rfl⟩⟩
  ·have hA:A D=none:=Uz (by rw[ho];simp)
   have aO:=fL h
   refine⟨(dM D aO hA).trans h,fW,?_,fun x hx=>?_⟩
   ·show(if w.heap.size≤D∨A D≠none then _ else g.ow D)=none
    rw[if_neg (by rintro(h|h);omega;exact h hA)];exact ho
   ·rcases h2 D x hx with h|⟨h|h,_⟩
    ·exact h
    ·omega
    ·exact absurd hA h
  ·cases hA:A b with
   |none=>exact hA
   |some i=>
    have:=(ko b (by rw[hA];simp)).1
    omega
  ·have aO:=ho.lt
   have hA:A b=none:=Uz (by rw[ho.1];intro hh;cases hh;exact hq ⟨0,rfl⟩)
   obtain⟨o1,o2,o3,⟨cur,te,o4,lP⟩,o5⟩:=ho
   refine⟨⟨?_,o2,o3,⟨cur,te,(dM b aO hA).trans o4,lP⟩,fun o bQ aY=>?_⟩,fun _=>dM b aO hA⟩
   ·show(if w.heap.size≤b∨A b≠none then _ else g.ow b)=some q
    rw[if_neg (by rintro(h|h);omega;exact h hA)];exact o1
   ·rcases h2 b o aY with h|⟨h|h,_⟩
    ·exact o5 o bQ h
    ·omega
    ·exact absurd hA h
  ·cases hA:A b with
   |none=>exact hA
   |some i=>exact absurd hm (ko b (by rw[hA];simp)).2.1
 refine⟨g',hI.stepG hX ⟨zo,PY,Qr,aM,fun k hk=>dM k (by omega) ?_⟩ (by simp) (fun i x hx hd=>?_) (fun d hd=>hs g' rfl (fun d' kG j b a' c' h=>hXO h (by simp only[kG];rfl)) d hd) hI.fQ (fun b bx ao hb eB=>hX.box (fun j=>by rintro⟨j',h⟩;cases h) (dM ao (hI.dF ao (List.mem_of_getElem? eB)).2 ?_) (hI.boxes b bx ao hb eB)) hI.nodup (fun b hb=>⟨(hI.dF b hb).1,Nat.lt_of_lt_of_le (hI.dF b hb).2 aM⟩) (fun b o aY=>?_)⟩
 ·cases hA:A k with
  |none=>exact hA
  |some i=>
   have:=(ko k (by rw[hA];simp)).1
   omega
 ·rw[List.getElem?_set]at hx
  split at hx
  ·rename_i gX
   subst gX
   split at hx
   ·cases hx
    exact .v _ _ _ ((vD.Bx (Nat.zero_le _)).sG fun b a' c' h=>hXO h rfl)
   ·cases hx
  ·rename_i gX
   exact hX.slot (fun j=>by rintro⟨j',h⟩;cases h;exact gX rfl) (hI.ak i x hx)
 ·cases hA:A ao with
  |none=>exact hA
  |some i=>exact absurd (List.mem_of_getElem? eB) (ko ao (by rw[hA];simp)).2.1
 ·rcases h2 b o aY with h|⟨h,aO⟩
  ·have:=hI.cW b o h
   exact⟨this.1,this.2.1,Nat.lt_of_lt_of_le this.2.2 aM⟩
  ·refine⟨.inr ?_,?_,aO⟩
   ·rcases h with h|h
    ·omega
    ·exact(ko b h).1
   ·intro hm
    rcases h with h|h
    ·have:=(hI.dF b hm).2;omega
    ·exact(ko b h).2.1 hm
theorem ag8{rs:List SV}(h:∀r,rs=[r]→False):B8 rs=.t rs:=by
 cases rs with
 |nil=>rfl
 |cons a l=>cases l with
  |nil=>exact(h a rfl).elim
  |cons b l=>rfl
theorem NN(hI:Inv gl w0 ar e a w g){o:Oper}{c:Call}{f:Operand}(ho:o.op=.call c)(hc:c.callee=.value f){t p:Nat}(hp:c.args.toList[p]? =some (.tmp t)){f':FuncId}(hg:Qk (Ab.bp gl e f)=some f'){y:SV}
  (hy:e.ak.getD t (.v .undef)=.v y){n:Nat}{k:Env→Prop}
  (h:AZ n fun rs=>∃bk,aG P gl f' (pM p ((jS e.boxes (fun x=>(Ab.bp gl e x).aa) c.args.toList).set p y)) (.aJ (bk::rs))∧aa bk=aa y∧k ⟨cS (e.ak.set t (.v bk)) o.dst (B8 rs),e.boxes⟩):
  ∀(next:Act→World→Prop)(Q:Exit→Act→World→Prop),(∀e' v w' g',Inv gl w0 ar e' (a.put o.dst v) w' g'→k e'→next (a.put o.dst v) w')→o.wp P a w next Q:=by
 intro next Q hn
 obtain⟨rs,hlen,bk,hH,amW,hk⟩:=F7 h
 rw[OM]at hH
 obtain⟨hE,CC,hH⟩:=hH
 have fI:=Og hI c.args
 have zp:a.eval f=.func (.func f') #[] #[]:=by
  unfold Qk at hg
  split at hg
  ·rename_i g2 hs
   cases hg
   have:=(hI.sP (x:=f) (s:=.d (.fn (.func f'))) (by rw[hs];rfl)).data
   generalize a.eval f=u at this
   cases this;rfl
  ·cases hg
 have bq:(execOp a.eval o).run P w=.ok (.enter f' (c.args.map a.eval)) w:=by
  have h1:=hE (c.args.map a.eval) w
  simp[execOp,ho,resolve,hc,zp,Deferred.ofValue,invoke,h1]
 have nv:cE w0.heap.size w g (fO w0.heap.size w g t) (.v y) (a.tmps.getD t undef):=by
  rw[←hy]
  simp only[List.getD_eq_getElem?_getD]
  cases hh:e.ak[t]? with
  |none=>exact .v _ _ _ (.undef _ _)
  |some s=>exact hI.ak t s hh
 have hyv:aP w g.St w0.heap.size (fO w0.heap.size w g t 0) y (a.tmps.getD t undef):=by cases nv;assumption
 have hvp:(c.args.map a.eval)[p]? =some (a.tmps.getD t undef):=by
  rw[Array.getElem?_map,←Array.getElem?_toList,hp];rfl
 unfold Oper.wp
 rw[bq]
 refine(hH w g.St (rowOf w0 w g t p) (c.args.map a.eval) (fun b o h=>hI.lH h) (fun b i hb=>(by
  obtain⟨_,a',c',⟨_,_,_,⟨cur,te,h4,nG⟩,h5⟩,EH⟩:=Nu hb
  exact⟨cur,te,h4,fun o ho=>h5 o (by omega)⟩)) hI.lg (by rw[List.length_set];exact fI.1) (fun i x v hx hv=>?_)).mono fun en w' hh=>?_
 ·have vz:=Jp CC hx
  rw[List.getElem?_set]at hx
  split at hx
  ·rename_i hpi
   subst hpi
   split at hx
   ·cases hx
    rw[hvp]at hv
    cases hv
    exact(hyv.XV vz).afq fun b a' c' EH bQ=>⟨acP bQ EH,bQ.2.2.2.1,bQ.2.2.2.2⟩
   ·cases hx
  ·exact((fI.2 i x v hx hv).XV vz).sG fun b a' c' h=>h.elim
 ·obtain⟨v,he,zo,PY,Qr,aM,dM,bS,ow,h1,h2,hr,hb⟩:=hh
  subst he
  have key:∀g':Gh,g'.St=bS→(∀d,o.dst=some d→∀j b a' c',XO w.heap.size (rowOf w0 w g t p) w' bS ow (j+1) b a' c'→fa w0.heap.size w' g' (.s d j) b a' c')→∀d,o.dst=some d→cE w0.heap.size w' g' (fO w0.heap.size w' g' d) (B8 rs) v:=by
   intro g' kF hO d hd
   unfold wZ at hr
   split at hr
   ·refine .v _ _ _ ?_
    rw[←kF]at hr
    exact(hr.Bx (Nat.zero_le _)).sG fun b a' c' h=>hO d hd 0 b a' c' (by rw[kF]at h;exact h)
   ·rename_i bf
    obtain⟨vs,rfl,hl,iI⟩:=hr
    rw[ag8 bf]
    refine .t _ _ vs hl fun j x z hx hz=>?_
    have:=iI j x z hx hz
    rw[←kF]at this
    exact(this.Bx (Nat.zero_le _)).sG fun b a' c' h=>hO d hd j b a' c' (by rw[kF]at h;exact h)
  obtain⟨g',gC⟩:=hI.afr (t:=t) (p:=p) zo PY Qr aM dM h1 h2 o.dst (bk:=bk) (s:=B8 rs) (v:=v) (hb _ hvp) key
  exact hn _ v w' g' gC hk
end
end Go.Proofs.Ytimbllcalipehaa.Ab
namespace Go.Proofs.Ytimbllcalipehaa.Ab
open Go Go.RowKit
section
variable{P:Program}{gl:Nat→Option D}{w0:World}{ar:S0}{e:Env}{a:Act}{w:World}{g:Gh}
abbrev B2(P:Program)(gl:Nat→Option D)(w0:World)(ar:S0)(o:Oper)(a:Act)(w:World)(k:Env→Prop):Prop:=
 ∀(next:Act→World→Prop)(Q:Exit→Act→World→Prop),
  (∀e' v w' g',Inv gl w0 ar e' (a.put o.dst v) w' g'→k e'→next (a.put o.dst v) w')→o.wp P a w next Q
theorem kb(hI:Inv gl w0 ar e a w g)(t:Nat):cE w0.heap.size w g (fO w0.heap.size w g t) (e.ak.getD t (.v .undef)) (a.eval (.tmp t)):=by
 simp only[Act.eval,List.getD_eq_getElem?_getD]
 cases h:e.ak[t]? with
 |none=>exact .v _ _ _ (.undef _ _)
 |some s=>exact hI.ak t s h
def Gh.nJ(g:Gh)(t:Nat)(q:Nat→Pos):Gh:={g with ow:=fun b=>match g.ow b with
 |some (.s i j)=>if i=t then some (q j)else some (.s i j)
 |x=>x}
theorem afs{base:Nat}{t:Nat}{q:Nat→Pos}{p:Pos}(hp:∀j,p≠.s t j){b a0 c0:Nat}(h:fa base w g p b a0 c0):fa base w (g.nJ t q) p b a0 c0:=by
 obtain⟨h1,h2,h3,h4,h5⟩:=h
 refine⟨?_,h2,h3,h4,h5⟩
 simp only[Gh.nJ,h1]
 cases p with
 |s i j=>
  simp only
  rw[if_neg (fun h=>hp j (by rw[h]))]
 |b i j=>rfl
theorem OP{base:Nat}{t:Nat}{q:Nat→Pos}{j:Nat}{b a0 c0:Nat}(h:fa base w g (.s t j) b a0 c0):fa base w (g.nJ t q) (q j) b a0 c0:=by
 obtain⟨h1,h2,h3,h4,h5⟩:=h
 exact⟨by simp[Gh.nJ,h1],h2,h3,h4,h5⟩
theorem Ext.nJ{base:Nat}(t:Nat)(q:Nat→Pos)(lost:Pos→Prop)(hl:∀j,lost (.s t j)):Ext base w g w (g.nJ t q) lost:=
 ⟨fun D _ hb hn h=>⟨h,hb,by simp[Gh.nJ,hn],fun _ h=>h⟩,fun _ _ h=>(by first|exact⟨h,rfl⟩|exact⟨h,.refl _ _ _⟩),fun _ _ _=>rfl,fun _ _ h=>h,fun _ _ _ _ hp ho=>⟨afs (fun j hj=>hp (by rw[hj];exact hl j)) ho,.refl _ _ _⟩,.refl _⟩
theorem NO(e:Env)(t:Nat)(dst:Option Nat):u3 e (e.ak.set t (e.ak.getD t (.v .undef)).aa) (fun i=>i=t) dst:=by
 refine⟨by simp,fun i x hx _=>?_⟩
 rw[List.getElem?_set]at hx
 split at hx
 ·rename_i h
  subst h
  split at hx
  ·rename_i aO
   cases hx
   refine⟨e.ak[t],List.getElem?_eq_getElem aO,.inr ?_⟩
   rw[List.getD_eq_getElem?_getD,List.getElem?_eq_getElem aO];rfl
  ·cases hx
 ·rename_i h
  exact⟨x,hx,.inl ⟨rfl,fun h'=>h h'.symm⟩⟩
theorem VX(hI:Inv gl w0 ar e a w g){o:Oper}{t:Nat}(bq:(execOp a.eval o).run P w=.ok (.value (a.eval (.tmp t))) w){k:Env→Prop}
  (h:k ⟨cS (e.ak.set t (e.ak.getD t (.v .undef)).aa) o.dst (e.ak.getD t (.v .undef)),e.boxes⟩):B2 P gl w0 ar o a w k:=by
 intro next Q hn
 unfold Oper.wp
 rw[bq]
 refine hn _ _ _ (match o.dst with|some d=>g.nJ t (fun j=>.s d j)|none=>g) (hI.hand (NO e t o.dst) ?_ (Below.refl _ _) (fun d hd=>?_) ?_ (fun _ _=>rfl) (fun b o' aY=>?_)) h
 ·cases o.dst with
  |none=>exact⟨fun _ _ hb ho h=>⟨h,hb,ho,fun _ h=>h⟩,fun _ _ h=>(by first|exact⟨h,rfl⟩|exact⟨h,.refl _ _ _⟩),fun _ _ _=>rfl,fun _ _ h=>h,fun _ _ _ _ _ h=>⟨h,.refl _ _ _⟩,.refl _⟩
  |some d=>exact Ext.nJ t _ _ (fun j=>⟨t,j,rfl,.inl rfl⟩)
 ·rw[hd]
  exact(kb hI t).mono (fun _ _ h=>(by first|exact⟨h,rfl⟩|exact⟨h,.refl _ _ _⟩)) (fun _ _ _=>rfl) (fun _ _ h=>h) (.refl _) (fun j b a' c ho=>⟨OP (q:=fun j=>.s d j) ho,.refl _ _ _⟩)
 ·cases o.dst<;>rfl
 ·have:g.St b o':=by cases hd:o.dst<;>rw[hd]at aY<;>exact aY
  exact hI.cW b o' this
theorem abT(hI:Inv gl w0 ar e a w g){o:Oper}{c:Call}(ho:o.op=.call c)(hc:c.callee=.builtin .append){t:Nat}{y:Operand}{ty u:TypeId}
  (hx:c.args.toList=[.tmp t,y])(ht:c.argTypes.toList=[ty,u]){k:Env→Prop}
  (h:bif Nat.beq ty u then(ab (mJ P ty) fun e'=>ab (eu P e') fun sz=>ab (wz P e') fun cX=>ab (oT P e') fun z=>
    bif Nat.blt 0 cX&&Nat.blt 0 sz&&Nat.beq z.length sz then bR sz cX (e.ak.getD t (.v .undef)).bW ((Ab.bp gl e y).aa).bW fun r=>
     k ⟨cS (e.ak.set t (e.ak.getD t (.v .undef)).aa) o.dst (.v r),e.boxes⟩else False)else False):B2 P gl w0 ar o a w k:=by
 have hs:=kb hI t
 have rx:aP w g.St w0.heap.size (fO w0.heap.size w g t 0) (e.ak.getD t (.v .undef)).bW (a.eval (.tmp t)):=by
  revert hs
  generalize e.ak.getD t (.v .undef)=s
  intro hs
  cases s with
  |v x=>exact hs.jV
  |_=>exact .undef _ _
 intro next Q hn
 refine T6 hI ho hc (NO e t o.dst) (lost:=fun i=>i=t) hx ht rx (hI.jB y) (fun b a' c' h=>⟨t,h,rfl⟩)
  (k:=fun s aF=>k ⟨cS (e.ak.set t (e.ak.getD t (.v .undef)).aa) o.dst s,aF⟩) h next Q (fun s v aF w' g' hinv hk=>hn _ v w' g' hinv hk)
theorem aa7(hI:Inv gl w0 ar e a w g){o:Oper}{t i:Nat}(ho:o.op=.extract (.tmp t) i){vs:List SV}(hs:e.ak.getD t (.v .undef)=.t vs){r:SV}(hr:vs[i]? =some r){k:Env→Prop}
  (h:k ⟨cS (e.ak.set t (.t (vs.set i (aa r)))) o.dst (.v r),e.boxes⟩):B2 P gl w0 ar o a w k:=by
 have nv:=kb hI t
 rw[hs]at nv
 obtain⟨tv,hv,hl,hc⟩:=nv.PU
 have hi:i<tv.size:=by rw[←hl];exact(List.getElem?_eq_some_iff.1 hr).1
 have HJ:t<e.ak.length:=by
  rcases Nat.lt_or_ge t e.ak.length with h|h
  ·exact h
  ·rw[List.getD_eq_getElem?_getD,List.getElem?_eq_none h]at hs;cases hs
 intro next Q hn
 have bq:(execOp a.eval o).run P w=.ok (.value tv[i]) w:=by simp[execOp,ho,Instr.extract,hv,hi]
 unfold Oper.wp
 rw[bq]
 let g':Gh:={g with ow:=fun b=>if g.ow b=some (.s t i)then o.dst.map (fun d=>.s d 0)else g.ow b}
 have hX:Ext w0.heap.size w g w g' (fun p=>p=.s t i∨∃d j,o.dst=some d∧p=.s d j):=by
  refine⟨fun D _ hb hn h=>⟨h,hb,(by
   show(if g.ow D=some (.s t i)then o.dst.map (fun d=>Pos.s d 0)else g.ow D)=none
   rw[if_neg (by rw[hn];simp)];exact hn),fun _ h=>h⟩,fun _ _ h=>(by first|exact⟨h,rfl⟩|exact⟨h,.refl _ _ _⟩),fun _ _ _=>rfl,fun _ _ h=>h,fun p b a' c' hp bQ=>⟨?_,.refl _ _ _⟩,.refl _⟩
  obtain⟨h1,h2,h3,h4,h5⟩:=bQ
  refine⟨?_,h2,h3,h4,h5⟩
  show(if g.ow b=some (.s t i)then o.dst.map (fun d=>Pos.s d 0)else g.ow b)=some p
  rw[if_neg (by rw[h1];intro h;cases h;exact hp (.inl rfl))]
  exact h1
 refine hn _ _ w g' (hI.stepG hX (Below.refl _ _) (by simp) (fun i' x hx hd=>?_) (fun d hd=>?_) hI.fQ (fun b bx ao h1 h2=>?_) hI.nodup hI.dF hI.cW) h
 ·rw[List.getElem?_set]at hx
  split at hx
  ·rename_i he
   subst he
   simp only[HJ,↓reduceIte,Option.some.injEq]at hx
   subst hx
   have hvt:a.tmps.getD t undef=.tuple tv:=hv
   rw[hvt]
   refine .t _ _ tv (by simpa using hl) fun j x v hx iR=>?_
   rw[List.getElem?_set]at hx
   split at hx
   ·rename_i eY
    subst eY
    split at hx
    ·cases hx
     exact((hc i r v hr iR).aa (O':=fun _ _ _=>False)).mono hX.st hX.bs _ (fun _ _ _ h=>h.elim)
    ·cases hx
   ·rename_i eY
    refine(hc j x v hx iR).mono hX.st hX.bs _ (fun b a' c' bQ=>hX.own _ b a' c' ?_ bQ)
    rintro(h|⟨d,j',h1,h2⟩)
    ·cases h;exact eY rfl
    ·cases h2;exact hd h1
  ·rename_i he
   refine hX.slot (fun j=>?_) (hI.ak i' x hx)
   rintro(h|⟨d,j',h1,h2⟩)
   ·cases h;exact he rfl
   ·cases h2;exact hd h1
 ·refine .v _ _ _ ((hc i r tv[i] hr (by simp)).mono hX.st hX.bs _ (fun b a' c' bQ=>⟨?_,.refl _ _ _⟩))
  obtain⟨h1,h2,h3,h4,h5⟩:=bQ
  refine⟨?_,h2,h3,h4,h5⟩
  show(if g.ow b=some (.s t i)then o.dst.map (fun d=>Pos.s d 0)else g.ow b)=some (.s d 0)
  rw[if_pos h1,hd];rfl
 ·refine hX.box (fun j=>?_) rfl (hI.boxes b bx ao h1 h2)
  rintro(h|⟨d,j',h1,h2⟩)
  ·cases h
  ·cases h2
theorem ad1(hI:Inv gl w0 ar e a w g){o:Oper}{ty:TypeId}{x:Operand}(ho:o.op=.load ty x){bn off:Nat}(hs:(Ab.bp gl e x).aa =.p bn off){ly:Bool×Nat}(hl:lf P ty=some ly)(nK:ly.1=false)
  {cs:List SV}(ck:e.boxes[bn]? =some (.cells cs)){y:SV}(hy:cs[off]? =some y){k:Env→Prop}(h:k ⟨cS e.ak o.dst (.v y),e.boxes.set bn (.cells (cs.set off (aa y)))⟩):B2 P gl w0 ar o a w k:=by
 obtain⟨b0,n⟩:=ly
 simp only at nK
 subst nK
 obtain⟨ao,hv,dM⟩:=(hI.pg hs).o0
 obtain⟨h0,c,te,hc,bY,hlen,bw⟩:=hI.boxes bn _ ao ck dM
 have Cd:off<c.size:=Nat.lt_of_lt_of_le (List.getElem?_eq_some_iff.1 hy).1 hlen
 have aR:w.cell? ⟨ao,off,none⟩=some c[off]:=by rw[cell_of_row w ao off c te (0,0) hc];simp[Cd]
 have bq:(execOp a.eval o).run P w=.ok (.value c[off]) w:=by
  have:=zV (P:=P) (w:=w) hl ao off (fun _=>c[off]) (fun j hj=>by simp at hj;subst hj;exact aR)
  simp[execOp,ho,Instr.loadAt,Instr.sureAddr,hv,this]
 intro next Q hn
 unfold Oper.wp
 rw[bq]
 let g':Gh:={g with ow:=fun b=>if g.ow b=some (.b bn off)then o.dst.map (fun d=>.s d 0)else g.ow b}
 refine hn _ _ w g' (hI.Pm (dst:=o.dst) (ak:=e.ak) (fun _=>False) (fun j=>j=off) (g':=g') rfl rfl (fun p b' h1 h2 h3 h4=>?_) (fun D hD=>by
   show(if g.ow D=some (.b bn off)then o.dst.map (fun d=>.s d 0)else g.ow D)=none
   rw[if_neg (by rw[hD];simp)];exact hD) dM (fun j y hj=>bY j y (by simpa[af.size]using hj)) hc (fun c ty h=>by rw[hc]at h;cases h;rfl) (fun _ _=>rfl) rfl ⟨rfl,rfl,rfl⟩ rfl
  (fun i x hx _=>⟨x,hx,.inl ⟨rfl,fun h=>h⟩⟩) (fun hX=>?_) (fun hX d hd=>?_)) h
 ·show(if g.ow b'=some (.b bn off)then o.dst.map (fun d=>Pos.s d 0)else g.ow b')=some p
  rw[if_neg (by rw[h4];intro h;cases h;exact h2 off rfl rfl)]
  exact h4
 ·refine⟨by simpa using hlen,fun j x u hx hu=>?_⟩
  rw[List.getElem?_set]at hx
  split at hx
  ·rename_i hj
   subst hj
   split at hx
   ·cases hx
    exact((bw off y u hy hu).aa (O':=fun _ _ _=>False)).mono hX.st hX.bs _ (fun _ _ _ h=>h.elim)
   ·cases hx
  ·rename_i hj
   refine(bw j x u hx hu).mono hX.st hX.bs _ (fun b' a' c' bQ=>hX.own _ b' a' c' ?_ bQ)
   rintro(⟨i,j',h,_⟩|⟨j',h,h'⟩|⟨d,j',_,h⟩)
   ·cases h
   ·cases h;exact hj h'.symm
   ·cases h
 ·refine .v _ _ _ ((bw off y c[off] hy (by simp)).mono hX.st hX.bs _ (fun b' a' c' bQ=>⟨?_,.refl _ _ _⟩))
  obtain⟨h1,h2,h3,h4,h5⟩:=bQ
  refine⟨?_,h2,h3,h4,h5⟩
  show(if g.ow b'=some (.b bn off)then o.dst.map (fun d=>Pos.s d 0)else g.ow b')=some (.s d 0)
  rw[if_pos h1,hd];rfl
theorem acQ(hI:Inv gl w0 ar e a w g){o:Oper}{ty:TypeId}{x:Operand}{t:Nat}(ho:o.op=.store ty x (.tmp t))(hd:o.dst=none){bn off:Nat}(hs:(Ab.bp gl e x).aa =.p bn off)
  (ua:eu P ty=some 1){y:SV}(hy:e.ak.getD t (.v .undef)=.v y){cs:List SV}(ck:e.boxes[bn]? =some (.cells cs)){l:List SV}(hl:aB y=some l)(rD:l.length=1)(Cd:off<cs.length)
  {k:Env→Prop}(h:k ⟨e.ak.set t (.v (aa y)),e.boxes.set bn (.cells (setAt cs off l))⟩):B2 P gl w0 ar o a w k:=by
 obtain⟨ao,hv,dM⟩:=(hI.pg hs).o0
 obtain⟨h0,c,te,hc,bY,hlen,bw⟩:=hI.boxes bn _ ao ck dM
 have nv:=kb hI t
 rw[hy]at nv
 obtain⟨c1,c2,c3⟩:=nv.jV.cells hl
 have lM:(a.eval (.tmp t)).cells.size =1:=by rw[←c1,rD]
 have aY:=Fy (P:=P) (w:=w) ua hc lM c2 (off:=off) (by omega)
 have bq:(execOp a.eval o).run P w=.ok .skip (w.setRow ao (c.toList.take off++(a.eval (.tmp t)).cells.toList ++c.toList.drop (off+1)).toArray):=by
  simp[execOp,ho,Instr.storeAt,Instr.sureAddr,hv,aY]
 intro next Q hn
 unfold Oper.wp
 rw[bq]
 have lI:=setRow_heap w ao c (c.toList.take off++(a.eval (.tmp t)).cells.toList ++c.toList.drop (off+1)).toArray te (0,0) hc
 let g':Gh:=g.nJ t (fun _=>.b bn off)
 have jF:∀j,(c.toList.take off++(a.eval (.tmp t)).cells.toList ++c.toList.drop (off+1)).toArray[j]? =if j<off then c[j]? else if j<off+1 then(a.eval (.tmp t)).cells[j-off]? else c[j]? :=by
  intro j
  have pU:(a.eval (.tmp t)).cells.toList.length =1:=by simpa using lM
  have:=tx c.toList (a.eval (.tmp t)).cells.toList off (by rw[pU];simp;omega) j
  rw[pU]at this
  simp only[List.getElem?_toArray]
  rw[this]
  simp only[Array.getElem?_toList]
 have e0:(⟨e.ak.set t (.v (aa y)),e.boxes.set bn (.cells (setAt cs off l))⟩:Env)=⟨cS (e.ak.set t (.v (aa y))) o.dst (.t []),e.boxes.set bn (.cells (setAt cs off l))⟩:=by rw[hd];rfl
 rw[e0]at h
 refine hn _ undef _ g' (hI.Pm (dst:=o.dst) (s:=.t []) (ak:=e.ak.set t (.v (aa y))) (fun i=>i=t) (fun j=>j=off) (g':=g') rfl rfl (fun p b' h1 h2 h3 h4=>?_) (fun D hD=>by simp[g',Gh.nJ,hD]) dM ?_ lI (fun c ty h=>by rw[hc]at h;cases h;simp[lM];omega)
  (fun k hk=>setRow_other w ao k _ hk) (by simp[World.setRow]) ⟨rfl,rfl,rfl⟩ (by simp) (fun i x hx _=>?_) (fun hX=>?_) (fun hX d kG=>by rw[hd]at kG;cases kG)) h
 ·show(match g.ow b' with|some (.s i j)=>if i=t then some (Pos.b bn off)else some (.s i j)|x=>x)=some p
  rw[h4]
  cases p with
  |s i j=>simp only;rw[if_neg (fun h=>h1 i j rfl h)]
  |b i j=>rfl
 ·intro j u hj hu
  rw[←lM]at hu
  exact Ur (m:=cs.length) (by omega) bY c2 j u (by simp only[af.size,Dk l cs off (by omega),List.length_append,List.length_take,List.length_drop]at hj;omega) hu
 ·rw[List.getElem?_set]at hx
  split at hx
  ·rename_i he
   subst he
   split at hx
   ·rename_i aO
    cases hx
    rw[List.getD_eq_getElem?_getD,List.getElem?_eq_getElem aO]at hy
    simp only[Option.getD_some]at hy
    exact⟨_,List.getElem?_eq_getElem aO,.inr (by rw[hy];rfl)⟩
   ·cases hx
  ·rename_i he
   exact⟨x,hx,.inl ⟨rfl,fun h=>he h.symm⟩⟩
 ·rw[Dk l cs off (by omega)]
  refine⟨by simp[lM,rD];omega,fun j x' u ee hu=>?_⟩
  rw[jF]at hu
  rw[tx cs l off (by omega),rD]at ee
  have iS:j≠off→cs[j]? =some x'→c[j]? =some u→aP (w.setRow ao (c.toList.take off++(a.eval (.tmp t)).cells.toList ++c.toList.drop (off+1)).toArray) g'.St w0.heap.size (u6 w0.heap.size _ g' bn j) x' u:=fun hj h4 h5=>
   (bw j x' u h4 h5).mono hX.st hX.bs _ (fun b' a' c' bQ=>hX.own _ b' a' c' (by
     rintro(⟨i,j',h,_⟩|⟨j',h,h'⟩|⟨d,j',_,h⟩)
     ·cases h
     ·cases h;exact hj h'
     ·cases h) bQ)
  split at ee
  ·rename_i hj
   rw[if_pos hj]at hu
   exact iS (by omega) ee hu
  ·rename_i hj
   rw[if_neg hj]at hu
   split at ee
   ·rename_i rC
    rw[if_pos rC]at hu
    have A1:j=off:=by omega
    subst A1
    refine(c3 (j-j) x' u ee hu).mono hX.st hX.bs _ (fun b' a' c' bQ=>?_)
    have:=OP (q:=fun _=>Pos.b bn j) bQ
    obtain⟨h1,h2,h3,⟨cur,nE,h4,nG⟩,h5⟩:=this
    have bf:b'≠ao:=fun h=>h3 (h▸List.mem_of_getElem? dM)
    exact⟨⟨h1,h2,h3,⟨cur,nE,(setRow_other w ao b' _ bf).trans h4,nG⟩,h5⟩,fun _=>setRow_other w ao b' _ bf⟩
   ·rename_i rC
    rw[if_neg rC]at hu
    exact iS (by omega) ee hu
theorem abU(hI:Inv gl w0 ar e a w g){o:Oper}{k:Env→Prop}(h:nu P gl (aG P gl) o e k):B2 P gl w0 ar o a w k:=by
 unfold nu at h
 split at h
 ·rename_i t ho;exact VX hI (by simp[execOp,ho]) h
 ·rename_i t ho;exact VX hI (by simp[execOp,ho]) h
 ·rename_i t i ho
  split at h
  ·rename_i vs hs
   split at h
   ·rename_i r hr;exact aa7 hI ho hs hr h
   ·exact h.elim
  ·exact h.elim
 ·rename_i ty x ho
  split at h
  ·rename_i b off hs
   obtain⟨ly,hl,h⟩:=aN h
   cases nK:ly.1 with
   |true=>rw[nK]at h;exact h.elim
   |false=>
    rw[nK]at h
    simp only[cond_false]at h
    split at h
    ·rename_i cs ck
     obtain⟨y,hy,h⟩:=aN h
     exact ad1 hI ho hs hl nK ck hy h
    ·exact h.elim
  ·exact h.elim
 ·rename_i ty x t ho
  split at h
  ·rename_i b off y hs hy hd
   obtain⟨sz,aM,h⟩:=aN h
   cases hb:Nat.beq sz 1 with
   |false=>rw[hb]at h;exact h.elim
   |true=>
    rw[hb]at h
    simp only[cond_true]at h
    have:=Nat.eq_of_beq_eq_true hb
    subst this
    split at h
    ·rename_i cs ck
     obtain⟨l,hl,h1,h2,h⟩:=aN h
     exact acQ hI ho hd hs aM hy ck hl h1 h2 h
    ·exact h.elim
  ·exact h.elim
 ·rename_i t n ps ho
  obtain⟨r',e',sz,L,hk,bq,aM,mM,iZ,bw⟩:=Tq hI ho (K:=fun sz L=>k ⟨cS e.ak o.dst (.v (.aZ sz L)),e.boxes⟩) h
  intro next Q hn
  exact bH.WV hI (k:=fun s aF=>k ⟨cS e.ak o.dst s,aF⟩) bq aM mM iZ bw hk next Q (fun s v aF w' g' hinv hk=>hn _ v w' g' hinv hk)
 ·rename_i c ho
  split at h
  ·rename_i t y ty u hc hx ht
   exact abT hI ho hc hx ht h
  ·rename_i f hc
   split at h
   ·rename_i t g' hp hg
    split at h
    ·rename_i y hy
     exact NN hI ho hc hp hg hy h
    ·exact h.elim
   ·exact h.elim
  ·exact h.elim
 ·exact h.elim
theorem NP(hI:Inv gl w0 ar e a w g){id:Nat}{aH:Bool}{o:Oper}{k:Env→Prop}(h:pN P gl (aG P gl) id aH o e k):B2 P gl w0 ar o a w k:=by
 unfold pN at h
 cases aH<;>simp only[cond_true,cond_false]at h
 ·intro next Q hn
  exact ad0 hI h next Q (fun s v aF w' g' hinv hk=>hn _ v w' g' hinv hk)
 ·exact abU hI h
end
end Go.Proofs.Ytimbllcalipehaa.Ab
namespace Go.Proofs.Ytimbllcalipehaa.Ab
open Go Go.RowKit
def nM(U:Option (Nat×af))(aF:List af):List af:=match U with
 |none=>aF
 |some (b,bx)=>aF.set b bx
def kp(src:Option (Nat×Slot))(l:List Slot):List Slot:=match src with
 |none=>l
 |some (t,s)=>l.set t s
def u7(x y:Option af):Prop:=x=y∨∃cs fK,x=some (.cells cs)∧y=some (.cells fK)∧cs.map Ab.aa=fK.map Ab.aa
theorem u7.refl(x:Option af):u7 x x:=.inl rfl
theorem u7.symm{x y:Option af}(h:u7 x y):u7 y x:=by
 rcases h with h|⟨cs,fK,h1,h2,h3⟩
 ·exact .inl h.symm
 ·exact .inr ⟨fK,cs,h2,h1,h3.symm⟩
theorem u7.trans{x y z:Option af}(h:u7 x y)(k:u7 y z):u7 x z:=by
 rcases h with rfl|⟨cs,fK,h1,h2,h3⟩
 ·exact k
 ·rcases k with rfl|⟨ds,Ru,k1,k2,k3⟩
  ·exact .inr ⟨cs,fK,h1,h2,h3⟩
  ·rw[h2]at k1
   cases k1
   exact .inr ⟨cs,Ru,h1,k2,h3.trans k3⟩
theorem aft(x:SV):dA (aa x)=dA x:=by cases x<;>rfl
theorem Oh:∀(l:List SV),dK (l.map aa)=dK l
 |[]=>rfl
 |x::l=>by simp only[List.map_cons,dK,aft,Oh l]
theorem abV{agg:Bool}{sz off:Nat}{cs fK:List SV}{y:SV}(h:cs.map Ab.aa=fK.map Ab.aa)(hy:aj agg sz off cs=some y):∃y',aj agg sz off fK=some y'∧aa y'=aa y:=by
 have hlen:cs.length=fK.length:=by have:=congrArg List.length h;simpa using this
 cases agg with
 |false=>
  simp only[aj,cond_false]at hy ⊢
  have h1:(fK.map Ab.aa)[off]? =some (aa y):=by rw[←h];simp[hy]
  rw[List.getElem?_map]at h1
  obtain⟨y',h2,h3⟩:=Option.map_eq_some_iff.1 h1
  exact⟨y',h2,h3⟩
 |true=>
  refine⟨y,?_,rfl⟩
  simp only[aj,cond_true]at hy ⊢
  have h1:dK ((fK.drop off).take sz)=dK ((cs.drop off).take sz):=by
   rw[←Oh,←Oh ((cs.drop off).take sz),List.map_take,List.map_drop,List.map_take,List.map_drop,h]
  rw[h1,←hlen]
  exact hy
def n8(aky:Bool)(s:Slot)(aF b':List af):Prop:=(∀b off,s=.p b off→u7 b'[b]? aF[b]? ∧(aky=false→b'[b]? =aF[b]?))∧(∀n,snap b' n s=snap aF n s)∧∀b l,s=.m b→(b'[b]? =some (.map l)↔aF[b]? =some (.map l))
structure yZ(id:Nat)(aH:Bool)(o:Oper)(U:Option (Nat×af))(ρ:Operand→Slot)(aF b':List af):Prop where
 mem:jy o=true→∀x∈o.op.operands,n8 (!kT o&& !aH) (ρ x) aF b'
 fresh:iA o=true→U≠none→b'[id]? =some .none
inductive yJ(id:Nat)(o:Oper)(aH:Bool)(ρ:Operand→Slot)(aF:List af):Option (Nat×af)→Prop
 |none:yJ id o aH ρ aF none
 |mk (bx:af) (h:iA o=true) (hn:aF[id]? =some .none) (hb:bx≠.none):yJ id o aH ρ aF (some (id,bx))
 |wr (b:Nat) (bx iS:af) (h:jy o=true) (hw:kT o=true∨aH=true) (x:Operand) (hx:x∈o.op.operands) (off:Nat) (hp:ρ x=.p b off∨ρ x=.m b) (ho:aF[b]? =some iS) (hold:iS≠.none) (hb:bx≠.none ∧bx.isMap=iS.isMap)
   (tR:aH=true→kT o=false→∃cs fK,iS=.cells cs∧bx=.cells fK∧cs.map Ab.aa=fK.map Ab.aa)
   (ha:∀t y z,o.op=.store t y z→x=y):
   yJ id o aH ρ aF (some (b,bx))
inductive eD(K:Nat→Prop):Slot→Prop
 |v (x:SV):eD K (.v x)
 |t (l:List SV):eD K (.t l)
 |p (b off:Nat) (h:K b):eD K (.p b off)
 |a (b n sz:Nat) (h:K b):eD K (.a b n sz)
 |m (b:Nat) (h:K b):eD K (.m b)
 |c (f:Fn) (first cap:List Slot) (h1:∀s∈first,eD K s) (h2:∀s∈cap,eD K s):eD K (.c f first cap)
theorem eD.mW{K:Nat→Prop}{s:Slot}(h:eD K s):eD K s.aa:=by
 cases h with
 |v x=>exact .v _
 |t l=>exact .t _
 |p b off h=>exact .p b off h
 |a b n sz h=>exact .a b n sz h
 |m b h=>exact .m b h
 |c f first cap h1 h2=>exact .c f first cap h1 h2
theorem eD.ajz{K:Nat→Prop}{s:Slot}(h:eD K s.aa):eD K s:=by
 cases s with
 |v x=>exact .v _
 |t l=>exact .t _
 |p b off=>exact h
 |a b n sz=>exact h
 |m b=>exact h
 |c f first cap=>exact h
theorem eD.o0{K:Nat→Prop}{b off:Nat}(h:eD K (.p b off)):K b:=by cases h;assumption
theorem eD.YP{K:Nat→Prop}{b:Nat}(h:eD K (.m b)):K b:=by cases h;assumption
theorem eD.B1{K:Nat→Prop}{b n sz:Nat}(h:eD K (.a b n sz)):K b:=by cases h;assumption
def addrOf(o:Oper):Option Operand:=match o.op with| .store _ x _=>some x|_=>none
def Ee(o:Oper)(ρ:Operand→Slot)(aF:List af)(s:Slot)(U:Option (Nat×af)):Prop:=
 ∀(K B:Nat→Prop),(∀b,K b→B b)→(∀x∈o.op.operands,addrOf o≠some x→eD K (ρ x))→(∀t x y,o.op=.store t x y→eD K (ρ y))→(∀b s,B b→aF[b]? =some (.one s)→eD K s)→
  (iA o=false→eD K s)∧∀b s',U=some (b,.one s')→iA o=false→eD K s'
theorem jX{o:Oper}{ρ:Operand→Slot}{aF:List af}{x:SV}:Ee o ρ aF (.v x) none:=fun _ _ _ _ _ _=>⟨fun _=>.v _,fun _ _ h=>by cases h⟩
theorem K8{o:Oper}{ρ:Operand→Slot}{aF:List af}{s:Slot}{U:Option (Nat×af)}(h:iA o=true):Ee o ρ aF s U:=fun _ _ _ _ _ _=>⟨fun h2=>(by rw[h]at h2;cases h2),fun _ _ _ h2=>(by rw[h]at h2;cases h2)⟩
theorem K9{o:Oper}{ρ:Operand→Slot}{aF:List af}{s:Slot}(h:∀K,eD K s):Ee o ρ aF s none:=fun K _ _ _ _ _=>⟨fun _=>h K,fun _ _ h=>by cases h⟩
theorem xe{o:Oper}{ρ:Operand→Slot}{aF:List af}{s:Slot}{x:Operand}(hx:x∈o.op.operands)(ha:addrOf o=none)(h:∀K,eD K (ρ x)→eD K s):Ee o ρ aF s none:=fun K _ _ hρ _ _=>⟨fun _=>h K (hρ x hx (by rw[ha];simp)),fun _ _ h=>by cases h⟩
theorem Lc{o:Oper}{ρ:Operand→Slot}{aF:List af}{l:List SV}{b:Nat}{cs:List SV}:Ee o ρ aF (.t l) (some (b,.cells cs)):=fun _ _ _ _ _ _=>⟨fun _=>.t _,fun _ _ h=>by cases h⟩
section
variable{P:Program}{gl:Nat→Option D}{C:bA}
theorem IX{ρ ρ':Operand→Slot}:∀{l:List (Nat×Operand)},(∀p∈l,ρ' p.2=ρ p.2)→qL ρ' l=qL ρ l
 |[],_=>rfl
 |(i,x)::l,h=>by
  simp only[qL]
  rw[h (i,x) (by simp),IX (fun p hp=>h p (by simp[hp]))]
theorem M7{ρ ρ':Operand→Slot}{aF b':List af}:∀{l:List Operand},(∀x∈l,snap b' 6 (ρ' x)=snap aF 6 (ρ x))→jS b' ρ' l=jS aF ρ l
 |[],_=>rfl
 |x::l,h=>by
  simp only[jS]
  rw[h x (by simp),M7 (fun p hp=>h p (by simp[hp]))]
theorem Nv{ρ ρ':Operand→Slot}{x:Option Operand}(h:∀y,x=some y→ρ' y=ρ y):sJ ρ' x=sJ ρ x:=by
 cases x with
 |none=>rfl
 |some y=>simp only[sJ];rw[h y rfl]
theorem Vc:∀{n:Nat}{k:List SV→Prop}(rs:List SV),rs.length=n→k rs→AZ n k
 |0,_,[],_,h=>h
 |n+1,_,r::rs,hl,h=>⟨r,Vc rs (by simpa using hl) h⟩
 |0,_,_::_,hl,_=>by simp at hl
 |_+1,_,[],hl,_=>by simp at hl
theorem Nw{n:Nat}{aF:List af}{k:Slot→List af→Prop}{f:FuncId}{args:List SV}(h:qR C n aF k f args):
  ∃s,k s aF∧(∀K,eD K s)∧∀b' k',k' s b'→qR C n b' k' f args:=by
 unfold qR at h
 split at h
 ·obtain⟨r,h1,h2,h3⟩:=h
  exact⟨.v r,h3,fun K=>.v _,fun b' k' hk=>⟨r,h1,h2,hk⟩⟩
 ·rename_i hn
  obtain⟨rs,hl,h1,h2⟩:=F7 h
  refine⟨.t rs,h2,fun K=>.t _,fun b' k' hk=>?_⟩
  unfold qR
  split
  ·exact absurd rfl hn
  ·exact Vc rs hl ⟨h1,hk⟩
theorem aa8{x:SV}{args:List SV}{K:FuncId→List SV→Prop}(h:withFn x args K):∃f l,K f l∧∀K':FuncId→List SV→Prop,K' f l→withFn x args K':=by
 unfold withFn at h
 split at h
 ·exact⟨_,_,h,fun _ h=>h⟩
 ·exact⟨_,_,h,fun _ h=>h⟩
 ·exact h.elim
theorem aau{x:SV}{name:String}{args:List SV}{K:FuncId→List SV→Prop}(h:z9 P x name args K):∃f l,K f l∧∀K':FuncId→List SV→Prop,K' f l→z9 P x name args K':=by
 unfold z9 at h
 split at h
 ·obtain⟨f,hf,h⟩:=aN h
  exact⟨_,_,h,fun K' hk=>by simp only[z9,hf];exact hk⟩
 ·exact h.elim
theorem afu{aF b':List af}{f:Fn}{first cap:List Slot}(h:∀n,snap b' n (.c f first cap)=snap aF n (.c f first cap)):
  kU (snap b' 6) first=kU (snap aF 6) first∧kU (snap b' 6) cap=kU (snap aF 6) cap:=by
 have:=h 7
 simp only[snap,SV.dT.injEq,true_and]at this
 exact this
theorem ad2{id:Nat}{o:Oper}{ρ:Operand→Slot}{aF:List af}{k:Slot→List af→Prop}(h:dH P C id o ρ aF k):
  ∃s U,k s (nM U aF)∧yJ id o false ρ aF U∧Ee o ρ aF s U∧
   ∀(ρ':Operand→Slot)(b':List af)(k':Slot→List af→Prop),(∀x∈o.op.operands,ρ' x=ρ x)→yZ id false o U ρ aF b'→k' s (nM U b')→dH P C id o ρ' b' k':=by
 cases ho:o.op<;>simp only[dH,ho]at h
 case move x=>
  refine⟨_,none,h,.none,xe (x:=x) (by simp[ho,Op.operands]) (by simp[addrOf,ho]) (fun _ h=>h),fun ρ' b' k' hρ _ hk=>?_⟩
  simp only[dH,ho];rw[hρ x (by simp[Op.operands])];exact hk
 case assign x=>
  refine⟨_,none,h,.none,xe (x:=x) (by simp[ho,Op.operands]) (by simp[addrOf,ho]) (fun _ h=>h),fun ρ' b' k' hρ _ hk=>?_⟩
  simp only[dH,ho];rw[hρ x (by simp[Op.operands])];exact hk
 case pick c x y=>
  split at h
  ·rename_i s hs
   obtain⟨b,rfl,h1,h2⟩:=Dw h
   cases b
   ·refine⟨_,none,h2 rfl,.none,xe (x:=y) (by simp[ho,Op.operands]) (by simp[addrOf,ho]) (fun _ h=>h),fun ρ' b' k' hρ _ hk=>?_⟩
    simp only[dH,ho];rw[hρ c (by simp[Op.operands]),hρ x (by simp[Op.operands]),hρ y (by simp[Op.operands]),hs];exact hk
   ·refine⟨_,none,h1 rfl,.none,xe (x:=x) (by simp[ho,Op.operands]) (by simp[addrOf,ho]) (fun _ h=>h),fun ρ' b' k' hρ _ hk=>?_⟩
    simp only[dH,ho];rw[hρ c (by simp[Op.operands]),hρ x (by simp[Op.operands]),hρ y (by simp[Op.operands]),hs];exact hk
  ·exact h.elim
 case alloc t=>
  split at h
  ·rename_i gj
   obtain⟨z,hz,hk⟩:=aN h
   refine⟨_,some (id,_),hk,.mk _ (by simp[iA,ho]) gj (by simp),K8 (by simp[iA,ho]),fun ρ' b' k' hρ hS hk=>?_⟩
   simp only[dH,ho,hS.fresh (by simp[iA,ho]) (by simp),hz,ab];exact hk
  ·exact h.elim
 case box t x=>
  split at h
  ·rename_i gj
   obtain⟨sz,aM,h⟩:=aN h
   split at h
   ·rename_i y hy
    obtain⟨l,hl,hlen,hk⟩:=aN h
    refine⟨_,some (id,_),hk,.mk _ (by simp[iA,ho]) gj (by simp),K8 (by simp[iA,ho]),fun ρ' b' k' hρ hS hk=>?_⟩
    simp only[dH,ho,hS.fresh (by simp[iA,ho]) (by simp),aM,ab];rw[hρ x (by simp[Op.operands]),hy];simp only[hl];exact⟨hlen,hk⟩
   ·exact h.elim
   ·rename_i h1 h2
    split at h
    ·refine⟨_,some (id,_),h,.mk _ (by simp[iA,ho]) gj (by simp),K8 (by simp[iA,ho]),fun ρ' b' k' hρ hS hk=>?_⟩
     simp only[dH,ho,hS.fresh (by simp[iA,ho]) (by simp),aM,ab];rw[hρ x (by simp[Op.operands])]
     split
     ·rename_i y hy;exact absurd hy (h1 y)
     ·rename_i y hy;exact absurd hy (h2 y)
     ·exact hk
    ·exact h.elim
  ·exact h.elim
 case build t ps=>
  obtain⟨l,hl,h⟩:=aN h
  obtain⟨r,hr,h⟩:=aN h
  refine⟨_,none,h,.none,jX,fun ρ' b' k' hρ _ hk=>?_⟩
  simp only[dH,ho]
  rw[IX (fun p hp=>hρ p.2 (by simp only[Op.operands,List.mem_toArray,List.mem_map];exact⟨p,hp,rfl⟩)),hl]
  simp only[ab,hr];exact hk
 case buildSlice t n ps=>
  obtain⟨e,he,h⟩:=aN h
  obtain⟨ly,nK,h⟩:=aN h
  obtain⟨z,hz,h⟩:=aN h
  obtain⟨l,hl,h⟩:=aN h
  cases hc:(Nat.ble (n*ly.2) (2^24)&&Nat.blt 0 ly.2&&Nat.beq z.length ly.2)with
  |false=>rw[hc]at h;exact h.elim
  |true=>
   rw[hc]at h
   simp only[cond_true]at h
   refine⟨_,none,h.2,.none,jX,fun ρ' b' k' hρ _ hk=>?_⟩
   simp only[dH,ho]
   rw[IX (fun p hp=>hρ p.2 (by simp only[Op.operands,List.mem_toArray,List.mem_map];exact⟨p,hp,rfl⟩)),hl]
   simp only[ab,he,nK,hz,hc,cond_true];exact⟨h.1,hk⟩
 case load t x=>
  obtain⟨ly,hl,h⟩:=aN h
  split at h
  ·rename_i bn off hs
   unfold tD at h
   have LR:∀{U b'},yZ id false o U ρ aF b'→u7 b'[bn]? aF[bn]? :=fun hS=>((hS.mem (by simp[jy,ho]) x (by simp[ho,Op.operands])).1 bn off hs).1
   split at h
   ·rename_i cs ck
    obtain⟨y,hy,h⟩:=aN h
    refine⟨_,none,h,.none,jX,fun ρ' b' k' hρ hS hk=>?_⟩
    simp only[dH,ho,hl,ab];rw[hρ x (by simp[Op.operands]),hs]
    rcases LR hS with hn|⟨ds,Ru,h1,h2,h3⟩
    ·simp only[tD,hn,ck,ab,hy];exact hk
    ·rw[ck]at h2
     cases h2
     obtain⟨y',rB,hd⟩:=abV h3.symm hy
     simp only[tD,h1,ab,rB,hd];exact hk
   ·rename_i s ck
    cases hb:ly.1 with
    |true=>rw[hb]at h;exact h.elim
    |false=>
     rw[hb]at h
     simp only[cond_false]at h
     have EI:∀{U b'},yZ id false o U ρ aF b'→b'[bn]? =aF[bn]? :=fun hS=>by
      rcases LR hS with hn|⟨ds,Ru,_,h2,_⟩
      ·exact hn
      ·rw[ck]at h2;cases h2
     split at h
     ·refine⟨_,none,h,.none,fun K B EJ hρ' _ eB=>⟨fun _=>(eB bn s (EJ bn (by have:=hρ' x (by simp[ho,Op.operands]) (by simp[addrOf,ho]);rw[hs]at this;exact this.o0)) ck).mW,fun _ _ h=>by cases h⟩,fun ρ' b' k' hρ hS hk=>?_⟩
      simp only[dH,ho,hl,ab];rw[hρ x (by simp[Op.operands]),hs];simp only[tD,EI hS,ck,hb,cond_false];exact hk
     ·exact h.elim
   ·exact h.elim
  ·rename_i s hs
   obtain⟨y,hy,h⟩:=aN h
   refine⟨_,none,h,.none,jX,fun ρ' b' k' hρ hS hk=>?_⟩
   simp only[dH,ho,hl,ab];rw[hρ x (by simp[Op.operands]),hs];simp only[hy];exact hk
  ·exact h.elim
 case store t x y=>
  obtain⟨n,hn,h⟩:=aN h
  split at h
  ·rename_i bn off hs
   have EI:∀{U b'},yZ id false o U ρ aF b'→b'[bn]? =aF[bn]? :=fun hS=>((hS.mem (by simp[jy,ho]) x (by simp[ho,Op.operands])).1 bn off hs).2 (by simp[kT,ho])
   split at h
   ·rename_i hd
    unfold wv at h
    have uf:∀bx iS,aF[bn]? =some iS→iS≠.none →bx≠.none ∧bx.isMap=iS.isMap→yJ id o false ρ aF (some (bn,bx)):=fun bx iS h1 h2 h3=>
     .wr bn bx iS (by simp[jy,ho]) (.inl (by simp[kT,ho])) x (by simp[ho,Op.operands]) off (.inl hs) h1 h2 h3 (fun h=>by cases h) (fun t' y' z' h=>by rw[ho]at h;cases h;rfl)
    split at h
    ·rename_i cs ck
     split at h
     ·rename_i z hz
      obtain⟨l,hl,h1,h2,h⟩:=aN h
      refine⟨_,some (bn,_),h,uf _ _ ck (by simp) (by simp[af.isMap]),(by first|exact Lc|exact fun K B _ _ hv _=>⟨fun _=>.t _,fun _ _ h _=>by cases h;exact hv _ _ _ (by assumption)⟩),fun ρ' b' k' hρ hS hk=>?_⟩
      simp only[dH,ho,hn,ab];rw[hρ x (by simp[Op.operands]),hρ y (by simp[Op.operands]),hs,hz,hd];simp only[wv,EI hS,ck,hl,ab];exact⟨h1,h2,hk⟩
     ·exact h.elim
     ·rename_i h1 h2
      split at h
      ·refine⟨_,some (bn,_),h,uf _ _ ck (by simp) (by simp[af.isMap]),(by first|exact Lc|exact fun K B _ _ hv _=>⟨fun _=>.t _,fun _ _ h _=>by cases h;exact hv _ _ _ (by assumption)⟩),fun ρ' b' k' hρ hS hk=>?_⟩
       simp only[dH,ho,hn,ab];rw[hρ x (by simp[Op.operands]),hρ y (by simp[Op.operands]),hs,hd];simp only[wv,EI hS,ck];exact hk
      ·exact h.elim
    ·rename_i s0 ck
     split at h
     ·split at h
      ·rename_i z hz
       obtain⟨l,hl,h1,h⟩:=aN h
       refine⟨_,some (bn,_),h,uf _ _ ck (by simp) (by simp[af.isMap]),(by first|exact Lc|exact fun K B _ _ hv _=>⟨fun _=>.t _,fun _ _ h _=>by cases h;exact hv _ _ _ (by assumption)⟩),fun ρ' b' k' hρ hS hk=>?_⟩
       simp only[dH,ho,hn,ab];rw[hρ x (by simp[Op.operands]),hρ y (by simp[Op.operands]),hs,hz,hd];simp only[wv,EI hS,ck,hl,ab];exact⟨h1,hk⟩
      ·exact h.elim
      ·rename_i h1 h2
       refine⟨_,some (bn,_),h,uf _ _ ck (by simp) (by simp[af.isMap]),(by first|exact Lc|exact fun K B _ _ hv _=>⟨fun _=>.t _,fun _ _ h _=>by cases h;exact hv _ _ _ (by assumption)⟩),fun ρ' b' k' hρ hS hk=>?_⟩
       simp only[dH,ho,hn,ab];rw[hρ x (by simp[Op.operands]),hρ y (by simp[Op.operands]),hs,hd];simp only[wv,EI hS,ck];exact hk
     ·exact h.elim
    ·exact h.elim
   ·exact h.elim
  ·exact h.elim
 case nilCheck x=>
  split at h
  ·rename_i y hy
   obtain⟨z,hz,h⟩:=aN h
   refine⟨_,none,h,.none,jX,fun ρ' b' k' hρ _ hk=>?_⟩
   simp only[dH,ho];rw[hρ x (by simp[Op.operands]),hy];simp only[hz,ab];exact hk
  ·exact h.elim
  ·rename_i f first cap hy
   split at h
   ·refine⟨_,none,h,.none,xe (x:=x) (by simp[ho,Op.operands]) (by simp[addrOf,ho]) (fun _ h=>by rw[hy]at h;exact h),fun ρ' b' k' hρ _ hk=>?_⟩
    simp only[dH,ho];rw[hρ x (by simp[Op.operands]),hy];exact hk
   ·split at h
    ·obtain⟨z,hz,h⟩:=aN h
     refine⟨_,none,h,.none,xe (x:=x) (by simp[ho,Op.operands]) (by simp[addrOf,ho]) (fun _ h=>by rw[hy]at h;exact h),fun ρ' b' k' hρ _ hk=>?_⟩
     simp only[dH,ho];rw[hρ x (by simp[Op.operands]),hy];simp only[hz,ab];exact hk
    ·exact h.elim
   ·exact h.elim
  ·rename_i b off hy
   refine⟨_,none,h,.none,xe (x:=x) (by simp[ho,Op.operands]) (by simp[addrOf,ho]) (fun _ h=>by rw[hy]at h;exact h),fun ρ' b' k' hρ _ hk=>?_⟩
   simp only[dH,ho];rw[hρ x (by simp[Op.operands]),hy];exact hk
  ·exact h.elim
 case binOp op t x y u=>
  obtain⟨z,hz,h⟩:=aN h
  refine⟨_,none,h,.none,jX,fun ρ' b' k' hρ _ hk=>?_⟩
  simp only[dH,ho];rw[hρ x (by simp[Op.operands]),hρ y (by simp[Op.operands])];simp only[hz,ab];exact hk
 case unOp op t x=>
  obtain⟨z,hz,h⟩:=aN h
  refine⟨_,none,h,.none,jX,fun ρ' b' k' hρ _ hk=>?_⟩
  simp only[dH,ho];rw[hρ x (by simp[Op.operands])];simp only[hz,ab];exact hk
 case convert src dst x=>
  cases hs:(P.underlying src).isSome with
  |false=>rw[hs]at h;exact h.elim
  |true=>
   rw[hs]at h
   obtain⟨z,hz,h⟩:=aN h
   refine⟨_,none,h,.none,jX,fun ρ' b' k' hρ _ hk=>?_⟩
   simp only[dH,ho];rw[hρ x (by simp[Op.operands])];simp only[hs,cond_true,hz,ab];exact hk
 case makeInterface t x=>
  cases hs:isIface P t with
  |true=>rw[hs]at h;exact h.elim
  |false=>
   rw[hs]at h
   obtain⟨z,hz,h⟩:=aN h
   refine⟨_,none,h,.none,jX,fun ρ' b' k' hρ _ hk=>?_⟩
   simp only[dH,ho];rw[hρ x (by simp[Op.operands])];simp only[hs,cond_false,hz,ab];exact hk
 case makeFunc fn first cap=>
  refine⟨_,none,h,.none,(fun K B EJ hρ' _ _=>⟨fun _=>.c _ _ _ (fun s hs=>by
   obtain⟨x,hx,rfl⟩:=List.mem_map.1 hs
   exact(hρ' x (by rw[ho];simp only[Op.operands,Array.mem_append];exact .inl (by simpa using hx)) (by simp[addrOf,ho])).mW) (fun s hs=>by
   obtain⟨x,hx,rfl⟩:=List.mem_map.1 hs
   exact(hρ' x (by rw[ho];simp only[Op.operands,Array.mem_append];exact .inr (by simpa using hx)) (by simp[addrOf,ho])).mW),fun _ _ h=>by cases h⟩),fun ρ' b' k' hρ _ hk=>?_⟩
  simp only[dH,ho]
  have e1:(first.toList.map fun x=>(ρ' x).aa)=first.toList.map fun x=>(ρ x).aa :=List.map_congr_left fun x hx=>by rw[hρ x (by simp only[Op.operands,Array.mem_append];exact .inl (by simpa using hx))]
  have e2:(cap.toList.map fun x=>(ρ' x).aa)=cap.toList.map fun x=>(ρ x).aa :=List.map_congr_left fun x hx=>by rw[hρ x (by simp only[Op.operands,Array.mem_append];exact .inr (by simpa using hx))]
  rw[e1,e2];exact hk
 case slice t x lo hi mx=>
  obtain⟨z,hz,h⟩:=aN h
  refine⟨_,none,h,.none,jX,fun ρ' b' k' hρ _ hk=>?_⟩
  simp only[dH,ho]
  rw[hρ x (by simp[Op.operands]),Nv (x:=lo) (fun y hy=>hρ y (by simp[Op.operands,hy])),Nv (x:=hi) (fun y hy=>hρ y (by simp[Op.operands,hy])),Nv (x:=mx) (fun y hy=>hρ y (by simp[Op.operands,hy]))]
  simp only[hz,ab];exact hk
 case fieldAddr t x f=>
  obtain⟨fd,A2,h⟩:=aN h
  obtain⟨sz,aM,h⟩:=aN h
  cases hc:Nat.beq sz 0 with
  |true=>rw[hc]at h;exact h.elim
  |false=>
   rw[hc]at h
   simp only[cond_false]at h
   split at h
   ·rename_i b off hy
    refine⟨_,none,h,.none,xe (x:=x) (by simp[ho,Op.operands]) (by simp[addrOf,ho]) (fun _ h=>by rw[hy]at h;exact .p _ _ h.o0),fun ρ' b' k' hρ _ hk=>?_⟩
    simp only[dH,ho,A2,aM,ab,hc,cond_false];rw[hρ x (by simp[Op.operands]),hy];exact hk
   ·rename_i y hy
    obtain⟨z,hz,h⟩:=aN h
    refine⟨_,none,h,.none,jX,fun ρ' b' k' hρ _ hk=>?_⟩
    simp only[dH,ho,A2,aM,ab,hc,cond_false];rw[hρ x (by simp[Op.operands]),hy];simp only[hz];exact hk
   ·exact h.elim
 case field t x f=>
  obtain⟨fd,A2,h⟩:=aN h
  obtain⟨ly,nK,h⟩:=aN h
  obtain⟨z,hz,h⟩:=aN h
  refine⟨_,none,h,.none,jX,fun ρ' b' k' hρ _ hk=>?_⟩
  simp only[dH,ho];rw[hρ x (by simp[Op.operands])];simp only[A2,nK,hz,ab];exact hk
 case indexAddr t x i=>
  split at h
  ·rename_i e he
   obtain⟨sz,aM,h⟩:=aN h
   cases hs:ρ x with
   |a b n=>
    rw[hs]at h
    obtain⟨j,hj,h⟩:=aN h
    refine⟨_,none,h,.none,xe (x:=x) (by simp[ho,Op.operands]) (by simp[addrOf,ho]) (fun _ h=>by rw[hs]at h;exact .p _ _ h.B1),fun ρ' b' k' hρ _ hk=>?_⟩
    simp only[dH,ho];rw[hρ x (by simp[Op.operands]),hρ i (by simp[Op.operands]),hs];simp only[he,aM,hj,ab];exact hk
   |_=>
    rw[hs]at h
    obtain⟨z,hz,h⟩:=aN h
    refine⟨_,none,h,.none,jX,fun ρ' b' k' hρ _ hk=>?_⟩
    simp only[dH,ho];rw[hρ x (by simp[Op.operands]),hρ i (by simp[Op.operands]),hs];simp only[he,aM,hz,ab];exact hk
  ·rename_i n e he
   obtain⟨sz,aM,h⟩:=aN h
   obtain⟨j,hj,h⟩:=aN h
   split at h
   ·rename_i b off hy
    refine⟨_,none,h,.none,xe (x:=x) (by simp[ho,Op.operands]) (by simp[addrOf,ho]) (fun _ h=>by rw[hy]at h;exact .p _ _ h.o0),fun ρ' b' k' hρ _ hk=>?_⟩
    simp only[dH,ho];rw[hρ x (by simp[Op.operands]),hρ i (by simp[Op.operands])];simp only[he,aM,hj,ab,hy];exact hk
   ·rename_i y hy
    obtain⟨z,hz,h⟩:=aN h
    refine⟨_,none,h,.none,jX,fun ρ' b' k' hρ _ hk=>?_⟩
    simp only[dH,ho];rw[hρ x (by simp[Op.operands]),hρ i (by simp[Op.operands])];simp only[he,aM,hj,ab,hy,hz];exact hk
   ·exact h.elim
  ·exact h.elim
 case index t x i=>
  split at h
  ·rename_i n e he
   obtain⟨ly,nK,h⟩:=aN h
   obtain⟨z,hz,h⟩:=aN h
   refine⟨_,none,h,.none,jX,fun ρ' b' k' hρ _ hk=>?_⟩
   simp only[dH,ho];rw[hρ x (by simp[Op.operands]),hρ i (by simp[Op.operands])];simp only[he,nK,hz,ab];exact hk
  ·rename_i he
   obtain⟨z,hz,h⟩:=aN h
   refine⟨_,none,h,.none,jX,fun ρ' b' k' hρ _ hk=>?_⟩
   simp only[dH,ho];rw[hρ x (by simp[Op.operands]),hρ i (by simp[Op.operands])];simp only[he,hz,ab];exact hk
  ·exact h.elim
 case extract x i=>
  split at h
  ·rename_i vs hs
   split at h
   ·rename_i r hr
    refine⟨_,none,h,.none,jX,fun ρ' b' k' hρ _ hk=>?_⟩
    simp only[dH,ho];rw[hρ x (by simp[Op.operands]),hs];simp only[hr];exact hk
   ·exact h.elim
  ·exact h.elim
 case lookup t m x Rv=>
  obtain⟨et,het,h⟩:=aN h
  obtain⟨z,hz,h⟩:=aN h
  obtain⟨r,hr,h⟩:=aN h
  have hlk:∀{U b'},yZ id false o U ρ aF b'→u1 et.2 z (yE b' (ρ m)) (ρ x).bW =some r:=by
   intro U b' hS
   have h3:=(hS.mem (by simp[jy,ho]) m (by simp[ho,Op.operands])).2.2
   cases hs:ρ m with
   |m b=>
    rw[hs]at hr
    simp only[yE]at hr ⊢
    cases hb:aF[b]? with
    |none=>rw[hb]at hr;cases hr
    |some bx=>
     rw[hb]at hr
     cases bx with
     |map l=>simp only[(h3 b l hs).2 hb];exact hr
     |_=>cases hr
   |_=>rw[hs]at hr;exact hr
  cases Rv with
  |true=>
   refine⟨_,none,h,.none,K9 (fun _=>.t _),fun ρ' b' k' hρ hS hk=>?_⟩
   simp only[dH,ho];rw[hρ m (by simp[Op.operands]),hρ x (by simp[Op.operands])];simp only[het,hz,hlk hS,ab];exact hk
  |false=>
   refine⟨_,none,h,.none,jX,fun ρ' b' k' hρ hS hk=>?_⟩
   simp only[dH,ho];rw[hρ m (by simp[Op.operands]),hρ x (by simp[Op.operands])];simp only[het,hz,hlk hS,ab];exact hk
 case makeSlice t n c=>
  obtain⟨e',he,h1⟩:=aN h
  obtain⟨sz,aM,h2⟩:=aN h1
  obtain⟨cX,my,h3⟩:=aN h2
  obtain⟨z,hz,h4⟩:=aN h3
  cases ei:(Nat.beq sz 1&&Nat.blt 0 cX)with
  |false=>rw[ei]at h4;exact h4.elim
  |true=>
   rw[ei,cond_true]at h4
   obtain⟨m,hm,hb,hk⟩:=aN h4
   refine⟨_,none,hk,.none,jX,fun ρ' b' k' hρ _ hk=>?_⟩
   simp only[dH,ho];rw[hρ n (by simp[Op.operands]),hρ c (by simp[Op.operands])];simp only[he,aM,my,hz,ei,cond_true,hm,ab];exact⟨hb,hk⟩
 case makeMap t hn=>
  split at h
  ·rename_i gj
   refine⟨_,some (id,_),h,.mk _ (by simp[iA,ho]) gj (by simp),K8 (by simp[iA,ho]),fun ρ' b' k' hρ hS hk=>?_⟩
   simp only[dH,ho,hS.fresh (by simp[iA,ho]) (by simp)];exact hk
  ·exact h.elim
 case mapUpdate t m x y=>
  obtain⟨et,het,h1⟩:=aN h
  split at h1
  ·rename_i b hm hd
   split at h1
   ·rename_i l hb
    obtain⟨n,hn,h2⟩:=aN h1
    obtain⟨d,kG,sY⟩:=aN h2
    obtain⟨l',jn,hk⟩:=aN sY
    refine⟨_,some (b,_),hk,.wr b _ _ (by simp[jy,ho]) (.inl (by simp[kT,ho])) m (by simp[ho,Op.operands]) 0 (.inr hm) hb (by simp) (by simp[af.isMap]) (fun h=>by cases h) (fun t' y' z' h=>by rw[ho]at h;cases h),(fun K B EJ hρ' _ _=>⟨fun _=>by first|exact .t _|exact .v _,fun _ _ h=>by cases h⟩),fun ρ' b' k' hρ hS hk=>?_⟩
    have h3:=((hS.mem (by simp[jy,ho]) m (by simp[ho,Op.operands])).2.2 b l hm).2 hb
    simp only[dH,ho,het,ab];rw[hρ m (by simp[Op.operands]),hρ x (by simp[Op.operands]),hρ y (by simp[Op.operands]),hm,hd];simp only[h3,hn,kG,jn];exact hk
   ·exact h1.elim
  ·exact h1.elim
 case call c=>
  have fI:∀{U ρ' b'},(∀x∈(Op.call c).operands,ρ' x=ρ x)→yZ id false o U ρ aF b'→jS b' ρ' c.args.toList=jS aF ρ c.args.toList:=fun{U ρ' b'}hρ hS=>
   M7 fun x hx=>by
    have hm:x∈(Op.call c).operands :=by
     simp only[Op.operands,Call.operands,Array.mem_append];exact .inr (by simpa using hx)
    rw[hρ x hm]
    exact(hS.mem (by simp[jy,ho]) x (by rw[ho];exact hm)).2.1 6
  have eL:∀x,x∈c.args.toList→x∈(Op.call c).operands :=fun x hx=>by
   simp only[Op.operands,Call.operands,Array.mem_append];exact .inr (by simpa using hx)
  split at h
  ·rename_i f hc
   have hf:f∈(Op.call c).operands :=by simp[Op.operands,Call.operands,hc]
   split at h
   ·rename_i s hs
    obtain⟨f',l,hK,Rw⟩:=aa8 h
    obtain⟨r,hk,nI,hr⟩:=Nw hK
    refine⟨_,none,hk,.none,K9 nI,fun ρ' b' k' hρ hS hk=>?_⟩
    simp only[dH,ho,hc]
    rw[hρ f hf,hs]
    simp only[fI hρ hS]
    exact Rw _ (hr _ _ hk)
   ·rename_i g' first cap hs
    obtain⟨r,hk,nI,hr⟩:=Nw h
    refine⟨_,none,hk,.none,K9 nI,fun ρ' b' k' hρ hS hk=>?_⟩
    simp only[dH,ho,hc]
    rw[hρ f hf,hs]
    simp only[fI hρ hS]
    have mB:=(hS.mem (by simp[jy,ho]) f (by rw[ho];exact hf)).2.1
    rw[hs]at mB
    obtain⟨e1,e2⟩:=afu mB
    rw[e1,e2]
    exact hr _ _ hk
   ·exact h.elim
  ·rename_i recv name hc
   have hf:recv∈(Op.call c).operands :=by simp[Op.operands,Call.operands,hc]
   split at h
   ·rename_i s hs
    obtain⟨f',l,hK,Rw⟩:=aau h
    obtain⟨r,hk,nI,hr⟩:=Nw hK
    refine⟨_,none,hk,.none,K9 nI,fun ρ' b' k' hρ hS hk=>?_⟩
    simp only[dH,ho,hc]
    rw[hρ recv hf,hs]
    simp only[fI hρ hS]
    exact Rw _ (hr _ _ hk)
   ·exact h.elim
  ·rename_i b hc
   split at h
   ·rename_i x xs t ts hx ht
    cases hs:ρ x with
    |a b n=>
     rw[hs]at h
     cases jq:isSlice P t with
     |false=>rw[jq]at h;exact h.elim
     |true=>
      rw[jq]at h
      refine⟨_,none,h,.none,jX,fun ρ' b' k' hρ hS hk=>?_⟩
      simp only[dH,ho,hc,hx,ht]
      rw[hρ x (eL x (by simp[hx])),hs];simp only[jq,cond_true];exact hk
    |_=>
     rw[hs]at h
     obtain⟨z,hz,h⟩:=aN h
     refine⟨_,none,h,.none,jX,fun ρ' b' k' hρ hS hk=>?_⟩
     simp only[dH,ho,hc,hx,ht]
     rw[hρ x (eL x (by simp[hx])),hs];simp only[hz,ab];exact hk
   ·rename_i x y t u hx ht
    cases vC:Nat.beq t u with
    |false=>rw[vC]at h;exact h.elim
    |true=>
     rw[vC]at h
     simp only[cond_true]at h
     obtain⟨e',he,h⟩:=aN h
     obtain⟨sz,aM,h⟩:=aN h
     obtain⟨cX,my,h⟩:=aN h
     obtain⟨z,hz,h⟩:=aN h
     cases ei:(Nat.blt 0 cX&&Nat.blt 0 sz&&Nat.beq z.length sz)with
     |false=>rw[ei]at h;exact h.elim
     |true=>
      rw[ei]at h
      obtain⟨r,hr,hb,h⟩:=aN h
      refine⟨_,none,h,.none,jX,fun ρ' b' k' hρ hS hk=>?_⟩
      simp only[dH,ho,hc,hx,ht]
      rw[hρ x (eL x (by simp[hx])),hρ y (eL y (by simp[hx]))]
      simp only[vC,cond_true,he,aM,my,hz,ab,ei,bR,hr];exact⟨hb,hk⟩
   ·rename_i x xs hx
    obtain⟨z,hz,h⟩:=aN h
    refine⟨_,none,h,.none,jX,fun ρ' b' k' hρ hS hk=>?_⟩
    have e1:(xs.map fun y=>(ρ' y).bW)=xs.map fun y=>(ρ y).bW :=List.map_congr_left fun y hy=>by rw[hρ y (eL y (by simp[hx,hy]))]
    simp only[dH,ho,hc,hx]
    rw[hρ x (eL x (by simp[hx])),e1,hz];exact hk
   ·rename_i x xs hx
    obtain⟨z,hz,h⟩:=aN h
    refine⟨_,none,h,.none,jX,fun ρ' b' k' hρ hS hk=>?_⟩
    have e1:(xs.map fun y=>(ρ' y).bW)=xs.map fun y=>(ρ y).bW :=List.map_congr_left fun y hy=>by rw[hρ y (eL y (by simp[hx,hy]))]
    simp only[dH,ho,hc,hx]
    rw[hρ x (eL x (by simp[hx])),e1,hz];exact hk
   ·exact h.elim
 all_goals exact h.elim
end
end Go.Proofs.Ytimbllcalipehaa.Ab
namespace Go.Proofs.Ytimbllcalipehaa.Ab
open Go Go.RowKit
def fin(o:Oper)(src:Option (Nat×Slot))(s:Slot)(U:Option (Nat×af))(e:Env):Env:=⟨cS (kp src e.ak) o.dst s,nM U e.boxes⟩
section
variable{P:Program}{gl:Nat→Option D}{C:bA}
def ij(gl:Nat→Option D)(e:Env)(x:Operand):Slot:=(Ab.bp gl e x).aa
theorem rT{o:Oper}{t:Nat}(h:Operand.tmp t∈o.op.operands):t∈tmpsOf o:=List.mem_filterMap.2 ⟨.tmp t,by simpa using h,rfl⟩
theorem xV{e e':Env}{o:Oper}(h:∀t∈tmpsOf o,e'.ak.getD t (.v .undef)=e.ak.getD t (.v .undef)){x:Operand}(hx:x∈o.op.operands):Ab.bp gl e' x=Ab.bp gl e x:=by
 cases x with
 |tmp t=>exact h t (rT hx)
 |_=>rfl
theorem M8(s:Slot):s.aa.stays=s.stays:=by cases s<;>rfl
theorem afv(x:SV):Ab.aa (Ab.aa x)=Ab.aa x:=by cases x<;>rfl
theorem aa9{cs:List SV}{off:Nat}{y:SV}(hy:cs[off]? =some y):cs.map Ab.aa=(cs.set off (Ab.aa y)).map Ab.aa:=by
 apply List.ext_getElem?
 intro i
 rw[List.getElem?_map,List.getElem?_map,List.getElem?_set]
 by_cases h:off=i
 ·subst h
  obtain⟨hl,hq⟩:=List.getElem?_eq_some_iff.1 hy
  simp[hl,hq,afv]
 ·simp[h]
theorem acR{aF:List af}{b:Nat}{cs fK:List SV}(hb:aF[b]? =some (.cells cs))(h:cs.map Ab.aa=fK.map Ab.aa):∀(n:Nat)(s:Slot),snap (aF.set b (.cells fK)) n s=snap aF n s:=by
 intro n
 induction n with
 |zero=>intro s;rfl
 |succ n ih=>
  intro s
  have hf:snap (aF.set b (.cells fK)) n=snap aF n:=funext ih
  cases s with
  |v x=>rfl
  |a b2 _ _=>
   simp only[snap]
   by_cases h2:b=b2
   ·subst h2
    rw[List.getElem?_set_self (List.getElem?_eq_some_iff.1 hb).1,hb]
    simp only[h]
   ·rw[List.getElem?_set_ne h2]
  |m _=>rfl
  |p b2 off=>
   simp only[snap]
   by_cases h2:b=b2
   ·subst h2
    rw[List.getElem?_set_self (List.getElem?_eq_some_iff.1 hb).1,hb]
    simp only[h]
   ·rw[List.getElem?_set_ne h2,hf]
  |c f first cap=>simp only[snap,hf]
  |t l=>rfl
theorem Vd{w:Bool}(hw:w=true){aF:List af}{b:Nat}{iS bx:af}(hb:aF[b]? =some iS)(h:∃cs fK,iS=.cells cs∧bx=.cells fK∧cs.map Ab.aa=fK.map Ab.aa)(s:Slot):n8 w s aF (aF.set b bx):=by
 obtain⟨cs,fK,rfl,rfl,hm⟩:=h
 refine⟨fun b2 off hs=>⟨?_,fun h=>by rw[hw]at h;cases h⟩,fun n=>acR hb hm n s,fun b2 l _=>?_⟩
 rotate_left
 ·by_cases h2:b=b2
  ·subst h2
   rw[List.getElem?_set_self (List.getElem?_eq_some_iff.1 hb).1,hb]
   simp
  ·rw[List.getElem?_set_ne h2]
 by_cases h2:b=b2
 ·subst h2
  rw[List.getElem?_set_self (List.getElem?_eq_some_iff.1 hb).1,hb]
  exact .inr ⟨fK,cs,rfl,rfl,hm.symm⟩
 ·rw[List.getElem?_set_ne h2]
  exact .refl _
def G9(gl:Nat→Option D)(aH:Bool)(o:Oper)(e:Env)(src:Option (Nat×Slot))(s:Slot)(U:Option (Nat×af)):Prop:=
 ∀(K B:Nat→Prop),(∀b,K b→B b)→(∀x∈o.op.operands,(aH=false→addrOf o≠some x)→eD K (ij gl e x))→(∀t x y,o.op=.store t x y→eD K (ij gl e y))→
  (∀b s,B b→e.boxes[b]? =some (.one s)→eD K s)→iA o=false→eD K s∧(∀t d,src=some (t,d)→eD K d)∧∀b s',U=some (b,.one s')→eD K s'
theorem XW{o:Oper}{e:Env}{x:SV}{U:Option (Nat×af)}(hU:∀b s',U≠some (b,.one s')):G9 gl true o e none (.v x) U:=fun _ _ _ _ _ _ _=>⟨.v _,fun _ _ h=>(by cases h),fun b s' h=>absurd h (hU b s')⟩
theorem Pn{o:Oper}{e:Env}{t:Nat}{s:Slot}(ht:Operand.tmp t∈o.op.operands)(hs:∀K,eD K (e.ak.getD t (.v .undef))→eD K s):G9 gl true o e (some (t,(e.ak.getD t (.v .undef)).aa)) s none:=fun K _ _ h _ _ _=>by
 have h1:eD K (e.ak.getD t (.v .undef)).aa :=h (.tmp t) ht (fun h=>by cases h)
 exact⟨hs K h1.ajz,fun t' d hd=>by cases hd;exact h1,fun _ _ h=>by cases h⟩
theorem XX:∀{rs:List SV}{k:List SV→Prop},k rs→AZ rs.length k
 |[],_,h=>h
 |r::rs,k,h=>⟨r,XX (rs:=rs) (k:=fun l=>k (r::l)) h⟩
theorem abW{id:Nat}{o:Oper}{e:Env}{k:Env→Prop}(h:nu P gl C o e k):
  ∃src s U,k (fin o src s U e)∧yJ id o true (ij gl e) e.boxes U∧G9 gl true o e src s U∧(∀t d,src=some (t,d)→t∈tmpsOf o∧d.stays=(e.ak.getD t (.v .undef)).stays)∧
   ∀(e':Env)(k':Env→Prop),(∀t∈tmpsOf o,e'.ak.getD t (.v .undef)=e.ak.getD t (.v .undef))→yZ id true o U (ij gl e) e.boxes e'.boxes→k' (fin o src s U e')→nu P gl C o e' k':=by
 unfold nu at h
 split at h
 ·rename_i t ho
  refine⟨some (t,_),_,none,h,.none,Pn (by rw[ho];simp[Op.operands]) (fun _ h=>h),fun t' d hd=>by cases hd;exact⟨rT (by rw[ho];simp[Op.operands]),M8 _⟩,fun e' k' hl _ hk=>?_⟩
  simp only[nu,ho];rw[hl t (rT (by rw[ho];simp[Op.operands]))];exact hk
 ·rename_i t ho
  refine⟨some (t,_),_,none,h,.none,Pn (by rw[ho];simp[Op.operands]) (fun _ h=>h),fun t' d hd=>by cases hd;exact⟨rT (by rw[ho];simp[Op.operands]),M8 _⟩,fun e' k' hl _ hk=>?_⟩
  simp only[nu,ho];rw[hl t (rT (by rw[ho];simp[Op.operands]))];exact hk
 ·rename_i t i ho
  split at h
  ·rename_i vs hs
   split at h
   ·rename_i r hr
    refine⟨some (t,_),_,none,h,.none,(fun K _ _ _ _ _ _=>⟨.v _,fun t' d hd=>by cases hd;exact .t _,fun _ _ h=>by cases h⟩),fun t' d hd=>by cases hd;exact⟨rT (by rw[ho];simp[Op.operands]),by rw[hs];rfl⟩,fun e' k' hl _ hk=>?_⟩
    simp only[nu,ho];rw[hl t (rT (by rw[ho];simp[Op.operands])),hs];simp only[hr];exact hk
   ·exact h.elim
  ·exact h.elim
 ·rename_i ty x ho
  split at h
  ·rename_i b off hs
   obtain⟨ly,hl,h⟩:=aN h
   cases nK:ly.1 with
   |true=>rw[nK]at h;exact h.elim
   |false=>
    rw[nK]at h
    simp only[cond_false]at h
    split at h
    ·rename_i cs ck
     obtain⟨y,hy,h⟩:=aN h
     refine⟨none,_,some (b,_),h,.wr b _ _ (by simp[jy,ho]) (.inr rfl) x (by rw[ho];simp[Op.operands]) off (.inl hs) ck (by simp) (by simp[af.isMap]) (fun _ _=>⟨cs,_,rfl,rfl,aa9 hy⟩) (fun t' y' z' h=>by rw[ho]at h;cases h),XW (by simp),fun _ _ h=>(by cases h),fun e' k' p7 hS hk=>?_⟩
     have hb:=((hS.mem (by simp[jy,ho]) x (by rw[ho];simp[Op.operands])).1 b off hs).2 (by simp)
     simp only[nu,ho,hl,ab,nK,cond_false]
     rw[xV p7 (x:=x) (by rw[ho];simp[Op.operands]),hs]
     simp only[hb,ck,hy];exact hk
    ·exact h.elim
  ·exact h.elim
 ·rename_i ty x t ho
  split at h
  ·rename_i b off y hs hy hd
   obtain⟨sz,aM,h⟩:=aN h
   cases hb:Nat.beq sz 1 with
   |false=>rw[hb]at h;exact h.elim
   |true=>
    rw[hb]at h
    simp only[cond_true]at h
    split at h
    ·rename_i cs ck
     obtain⟨l,hl,h1,h2,h⟩:=aN h
     refine⟨some (t,.v (aa y)),.t [],some (b,.cells (setAt cs off l)),?_,.wr b _ _ (by simp[jy,ho]) (.inr rfl) x (by rw[ho];simp[Op.operands]) off (.inl hs) ck (by simp) (by simp[af.isMap]) (fun _ h=>by simp[kT,ho]at h) (fun t' y' z' h=>by rw[ho]at h;cases h;rfl),(fun K _ _ _ _ _ _=>⟨.t _,fun t' d hd=>by cases hd;exact .v _,fun _ _ h=>by cases h⟩),fun t' d hd=>by cases hd;exact⟨rT (by rw[ho];simp[Op.operands]),by rw[hy];rfl⟩,fun e' k' p7 hS hk=>?_⟩
     ·simp only[fin,hd,cS,kp,nM];exact h
     ·have fh:=((hS.mem (by simp[jy,ho]) x (by rw[ho];simp[Op.operands])).1 b off hs).2 (by simp)
      simp only[fin,hd,cS,kp,nM]at hk
      simp only[nu,ho]
      rw[xV p7 (x:=x) (by rw[ho];simp[Op.operands]),hs,p7 t (rT (by rw[ho];simp[Op.operands])),hy,hd]
      simp only[aM,ab,hb,cond_true,fh,ck,hl];exact⟨h1,h2,hk⟩
    ·exact h.elim
  ·exact h.elim
 ·rename_i t n ps ho
  obtain⟨e',he,h1⟩:=aN h
  obtain⟨ly,nK,h2⟩:=aN h1
  obtain⟨z,hz,h3⟩:=aN h2
  obtain⟨l,hl,h4⟩:=aN h3
  cases hc:(Nat.ble (n*ly.2) (2^24)&&Nat.blt 0 ly.2&&Nat.beq z.length ly.2)with
  |false=>rw[hc]at h4;exact h4.elim
  |true=>
   rw[hc,cond_true]at h4
   refine⟨none,_,none,h4.2,.none,XW (by simp),fun _ _ h=>(by cases h),fun e2 k' p7 hS hk=>?_⟩
   have hpd:qL (fun x=>(Ab.bp gl e2 x).aa) ps.toList=some l:=
    (IX (fun p hp=>by
      have hm:p.2∈o.op.operands:=by rw[ho];simp only[Op.operands,List.mem_toArray,List.mem_map];exact⟨p,hp,rfl⟩
      show(Ab.bp gl e2 p.2).aa =(Ab.bp gl e p.2).aa
      rw[xV p7 hm])).trans hl
   simp only[nu,ho,he,nK,hz,hpd,hc,cond_true,ab];exact⟨h4.1,hk⟩
 ·rename_i c ho
  split at h
  ·rename_i t y ty u hc hx ht
   have gM:Operand.tmp t∈o.op.operands:=by
    rw[ho];simp only[Op.operands,Call.operands,Array.mem_append];exact .inr (by rw[←Array.mem_toList_iff,hx];simp)
   have A8:y∈o.op.operands:=by
    rw[ho];simp only[Op.operands,Call.operands,Array.mem_append];exact .inr (by rw[←Array.mem_toList_iff,hx];simp)
   cases vC:Nat.beq ty u with
   |false=>rw[vC]at h;exact h.elim
   |true=>
    rw[vC]at h
    simp only[cond_true]at h
    obtain⟨e',he,h⟩:=aN h
    obtain⟨sz,aM,h⟩:=aN h
    obtain⟨cX,my,h⟩:=aN h
    obtain⟨z,hz,h⟩:=aN h
    cases ei:(Nat.blt 0 cX&&Nat.blt 0 sz&&Nat.beq z.length sz)with
    |false=>rw[ei]at h;exact h.elim
    |true=>
     rw[ei]at h
     obtain⟨r,hr,hb,h⟩:=aN h
     refine⟨some (t,_),_,none,h,.none,Pn gM (fun _ _=>.v _),fun t' d hd=>by cases hd;exact⟨rT gM,M8 _⟩,fun e' k' p7 hS hk=>?_⟩
     simp only[nu,ho,hc,hx,ht]
     rw[p7 t (rT gM),xV p7 A8]
     simp only[vC,cond_true,he,aM,my,hz,ab,ei,bR,hr];exact⟨hb,hk⟩
  ·rename_i f hc
   split at h
   ·rename_i t g' hp hg
    split at h
    ·rename_i y hy
     have eL:∀x∈c.args.toList,x∈o.op.operands:=fun x hx=>by
      rw[ho];simp only[Op.operands,Call.operands,Array.mem_append];exact .inr (Array.mem_toList_iff.1 hx)
     have gM:Operand.tmp t∈o.op.operands:=eL _ (List.mem_of_getElem? hp)
     have hmf:f∈o.op.operands:=by
      rw[ho];simp only[Op.operands,Call.operands,hc,Array.mem_append];left;simp
     obtain⟨rs,hlen,bk,hC,hd,hk⟩:=F7 h
     refine⟨some (t,.v bk),B8 rs,none,hk,.none,(fun K _ _ _ _ _ _=>⟨(by unfold B8;split<;>constructor),fun t' d hd=>by cases hd;exact .v _,fun _ _ h=>by cases h⟩),fun t' d hd=>by cases hd;exact⟨rT gM,by rw[hy];rfl⟩,fun e' k' p7 hS hk=>?_⟩
     have fI:jS e'.boxes (fun x=>(Ab.bp gl e' x).aa) c.args.toList=jS e.boxes (fun x=>(Ab.bp gl e x).aa) c.args.toList:=M7 fun x hx=>by
      rw[xV p7 (eL x hx)]
      exact(hS.mem (by simp[jy,ho]) x (eL x hx)).2.1 6
     simp only[nu,ho,hc]
     rw[hp,xV p7 hmf,hg]
     simp only[]
     rw[p7 t (rT gM),hy,fI]
     simp only[]
     rw[←hlen]
     exact XX ⟨bk,hC,hd,hk⟩
    ·exact h.elim
   ·exact h.elim
  ·exact h.elim
 ·exact h.elim
theorem acS{id:Nat}{aH:Bool}{o:Oper}{e:Env}{k:Env→Prop}(h:pN P gl C id aH o e k):
  ∃src s U,k (fin o src s U e)∧yJ id o aH (ij gl e) e.boxes U∧G9 gl aH o e src s U∧(∀t d,src=some (t,d)→aH=true∧t∈tmpsOf o∧d.stays=(e.ak.getD t (.v .undef)).stays)∧
   ∀(e':Env)(k':Env→Prop),(∀t∈tmpsOf o,e'.ak.getD t (.v .undef)=e.ak.getD t (.v .undef))→yZ id aH o U (ij gl e) e.boxes e'.boxes→k' (fin o src s U e')→pN P gl C id aH o e' k':=by
 unfold pN at h
 cases aH<;>simp only[cond_true,cond_false]at h
 ·obtain⟨s,U,hk,hu,nI,hs⟩:=ad2 h
  refine⟨none,s,U,hk,hu,fun K B EJ h1 h2 h3 h4=>⟨(nI K B EJ (fun x hx ha=>h1 x hx fun _=>ha) h2 h3).1 h4,fun _ _ h=>(by cases h),fun b s' hU=>(nI K B EJ (fun x hx ha=>h1 x hx fun _=>ha) h2 h3).2 b s' hU h4⟩,fun t d h=>(by cases h),?_⟩
  intro e' k' hl hS hk
  unfold pN
  simp only[cond_false]
  exact hs _ _ _ (fun x hx=>by rw[xV hl hx]) hS hk
 ·obtain⟨src,s,U,hk,hu,nI,A9,hs⟩:=abW (id:=id) h
  refine⟨src,s,U,hk,hu,nI,fun t d h=>⟨rfl,A9 t d h⟩,fun e' k' hl hS hk=>?_⟩
  unfold pN
  simp only[cond_true]
  exact hs e' k' hl hS hk
def u9(all:List Oper)(o:Oper)(e:Env):Option Bool:=match o.guard with
 |none=>some true
 |some (j,want)=>(match(match all[j]? with|some g=>g.dst|none=>none)with
  |some t=>(match e.ak.getD t (.v .undef)with
   | .v (.d (.bool c))=>some (c==want)
   | .t _=>some false
   |_=>none)
  |none=>none)
theorem xW{e:Env}{t:Nat}{c:Bool}(h:e.ak.getD t (.v .undef)=.v (.d (.bool c))):e.AF t c=e:=by
 unfold Env.AF
 rcases Nat.lt_or_ge t e.ak.length with hl|hl
 ·rw[List.getD_eq_getElem?_getD,List.getElem?_eq_getElem hl]at h
  simp only[Option.getD_some]at h
  rw[←h,List.set_getElem_self]
 ·rw[List.getD_eq_getElem?_getD,List.getElem?_eq_none hl]at h
  simp at h
theorem Bs{all:List Oper}{o:Oper}{e:Env}{A B:Env→Prop}:BV all o e A B↔(match u9 all o e with|some true=>A e|some false=>B e|none=>False):=by
 unfold BV u9
 cases hg:o.guard with
 |none=>exact Iff.rfl
 |some p=>
  obtain⟨j,want⟩:=p
  simp only
  cases hj:all[j]? with
  |none=>exact Iff.rfl
  |some q=>
   simp only
   cases hq:q.dst with
   |none=>exact Iff.rfl
   |some t=>
    simp only
    cases hx:e.ak.getD t (.v .undef)with
    |v x=>
     cases x with
     |d y=>
      cases y with
      |bool c=>
       have h1:=xW hx
       simp only[au]
       cases c<;>cases want<;>simp[h1]
      |_=>exact Iff.rfl
     |_=>exact Iff.rfl
    |_=>exact Iff.rfl
def o8(P:Program)(gl:Nat→Option D)(C:bA)(all:List Oper)(id:Nat)(aH:Bool)(o:Oper)(e:Env)(k:Env→Prop):Prop:=
 BV all o e (fun e'=>pN P gl C id aH o e' k) (fun e'=>k ⟨cS e'.ak o.dst (.t []),e'.boxes⟩)
structure Out(P:Program)(gl:Nat→Option D)(C:bA)(ops:Array Oper)(id:Nat)(aH:Bool)(o:Oper)(e:Env)(src:Option (Nat×Slot))(s:Slot)(U:Option (Nat×af)):Prop where
 uf:yJ id o aH (ij gl e) e.boxes U
 Cf:∀t d,src=some (t,d)→aH=true∧t∈tmpsOf o
 Qs:∀(e':Env)(k':Env→Prop),(∀t∈o.looksAt ops,e'.ak.getD t (.v .undef)=e.ak.getD t (.v .undef))→yZ id aH o U (ij gl e) e.boxes e'.boxes→k' (fin o src s U e')→o8 P gl C ops.toList id aH o e' k'
theorem Ve{ops:Array Oper}{o:Oper}{e e':Env}(h:∀t∈o.looksAt ops,e'.ak.getD t (.v .undef)=e.ak.getD t (.v .undef)):u9 ops.toList o e'=u9 ops.toList o e:=by
 unfold u9
 split
 ·rfl
 ·rename_i j want hg
  split
  ·rename_i t ht
   have hm:t∈o.looksAt ops:=by
    refine List.mem_append_right _ ?_
    rw[hg]
    simp only[Option.mem_toList]
    rw[Array.getElem?_toList]at ht
    cases hj:ops[j]? with
    |none=>rw[hj]at ht;cases ht
    |some g=>rw[hj]at ht;exact ht
   rw[h t hm]
  ·rfl
theorem Nx{ops:Array Oper}{o:Oper}{t:Nat}(h:t∈tmpsOf o):t∈o.looksAt ops:=List.mem_append_left _ h
theorem Bt{ops:Array Oper}{id:Nat}{aH:Bool}{o:Oper}{e:Env}{k:Env→Prop}(h:o8 P gl C ops.toList id aH o e k):∃src s U,k (fin o src s U e)∧Out P gl C ops id aH o e src s U∧(∀t d,src=some (t,d)→d.stays=(e.ak.getD t (.v .undef)).stays)∧G9 gl aH o e src s U∧(u9 ops.toList o e=some true∨(o.guard≠none∧s=.t []∧src=none∧U=none)):=by
 have h':=Bs.1 h
 split at h'
 ·rename_i hg
  obtain⟨src,s,U,hk,hu,nI,A9,hs⟩:=acS h'
  refine⟨src,s,U,hk,⟨hu,fun t d h=>⟨(A9 t d h).1,(A9 t d h).2.1⟩,fun e' k' hl hS hk=>?_⟩,fun t d h=>(A9 t d h).2.2,nI,.inl hg⟩
  refine Bs.2 ?_
  rw[Ve hl,hg]
  exact hs e' k' (fun t ht=>hl t (Nx ht)) hS hk
 ·rename_i hg
  refine⟨none,.t [],none,h',⟨.none,fun t d h=>(by cases h),?_⟩,fun t d h=>(by cases h),fun K B _ _ _ _ _=>⟨.t _,fun _ _ h=>(by cases h),fun _ _ h=>(by cases h)⟩,.inr ⟨fun hn=>?_,rfl,rfl,rfl⟩⟩
  rotate_left
  ·unfold u9 at hg;rw[hn]at hg;cases hg
  intro e' k' hl hS hk
  refine Bs.2 ?_
  rw[Ve hl,hg]
  exact hk
 ·exact h'.elim
theorem TN{o:Oper}(h:iA o=true):jy o=false:=by
 unfold iA at h
 unfold jy
 split at h
 ·rename_i ho;simp[ho]
 ·rename_i ho;simp[ho]
 ·rename_i ho;simp[ho]
 ·cases h
theorem n8.refl{q:Bool}(s:Slot)(b:List af):n8 q s b b:=⟨fun _ _ _=>⟨.refl _,fun _=>rfl⟩,fun _=>rfl,fun _ _ _=>Iff.rfl⟩
theorem n8.trans{q:Bool}{s:Slot}{a b c:List af}(h:n8 q s a b)(k:n8 q s b c):n8 q s a c:=
 ⟨fun x off hx=>⟨(k.1 x off hx).1.trans (h.1 x off hx).1,fun hq=>((k.1 x off hx).2 hq).trans ((h.1 x off hx).2 hq)⟩,fun n=>(k.2.1 n).trans (h.2.1 n),fun b l hs=>(k.2.2 b l hs).trans (h.2.2 b l hs)⟩
theorem n8.symm{q:Bool}{s:Slot}{a b:List af}(h:n8 q s a b):n8 q s b a:=⟨fun x off hx=>⟨(h.1 x off hx).1.symm,fun hq=>((h.1 x off hx).2 hq).symm⟩,fun n=>(h.2.1 n).symm,fun b l hs=>(h.2.2 b l hs).symm⟩
theorem Out.ag9{ops:Array Oper}{id:Nat}{aH:Bool}{o:Oper}{e:Env}{src:Option (Nat×Slot)}{s:Slot}{U:Option (Nat×af)}(h:Out P gl C ops id aH o e src s U)
  (hm:iA o=true)(hU:U≠none):∃bx,U=some (id,bx)∧bx≠.none ∧e.boxes[id]? =some .none :=by
 cases h.uf with
 |none=>exact absurd rfl hU
 |mk bx _ hn hb=>exact⟨bx,rfl,hb,hn⟩
 |wr b bx iS h'=>rw[TN hm]at h';cases h'
theorem Out.run{ops:Array Oper}{id:Nat}{aH:Bool}{o:Oper}{e:Env}{src:Option (Nat×Slot)}{s:Slot}{U:Option (Nat×af)}(h:Out P gl C ops id aH o e src s U){k:Env→Prop}
  (hk:k (fin o src s U e)):o8 P gl C ops.toList id aH o e k:=
 h.Qs e k (fun _ _=>rfl) ⟨fun _ x _=>.refl _ _,fun hm hU=>(h.ag9 hm hU).choose_spec.2.2⟩ hk
def Good(gl:Nat→Option D)(e:Env):Prop:=∃w0 ar a w g,Inv gl w0 ar e a w g
theorem FA{w0:World}{ar:S0}{e:Env}{a:Act}{w:World}{g:Gh}(hI:Inv gl w0 ar e a w g){id:Nat}(gj:e.boxes[id]? =some .none)(bx:af):
  ∀(n:Nat){O:Nat→Nat→Nat→Nat→Prop}{s:Slot}{v:Value},cE w0.heap.size w g O s v→((∀b off,s=.p b off→b≠id)∧∀b,s=.m b→b≠id)∧snap (e.boxes.set id bx) n s=snap e.boxes n s:=by
 have bf:∀b ao,g.bx[b]? =some (some ao)→b≠id:=by
  rintro b ao hb rfl
  exact hI.boxes b .none ao gj hb
 have p8:∀{O:Nat→Nat→Nat→Nat→Prop}{s:Slot}{v:Value},cE w0.heap.size w g O s v→(∀b off,s=.p b off→b≠id)∧∀b,s=.m b→b≠id:=by
  intro O s v h
  refine⟨fun b off hs=>?_,fun b hs=>?_⟩
  ·subst hs
   obtain⟨ao,_,hb⟩:=h.o0
   exact bf b ao hb
  ·subst hs
   cases h with
   |m _ _ ao hb=>exact bf b ao hb
 intro n
 induction n with
 |zero=>
  intro O s v h
  exact⟨p8 h,rfl⟩
 |succ n ih=>
  intro O s v h
  refine⟨p8 h,?_⟩
  cases h with
  |v _ x _ h=>rfl
  |a _ b n' sz v hm hb=>
   obtain⟨ao,cap,hb,_⟩:=hb
   simp only[snap]
   rw[List.getElem?_set_ne (fun h=>bf b ao hb h.symm)]
  |m=>rfl
  |p _ b off ao hb=>
   simp only[snap]
   rw[List.getElem?_set_ne (fun h=>bf b ao hb h.symm)]
   cases eB:e.boxes[b]? with
   |none=>rfl
   |some bxv=>
    cases bxv with
    |none=>rfl
    |map l=>rfl
    |cells cs=>rfl
    |one s'=>
     simp only
     obtain⟨_,c,t,hc,_,aM,hr⟩:=hI.boxes b _ ao eB hb
     have rE:c[0]? =some (c[0]'(by omega)):=by simp
     rw[(ih (hr _ rE)).2]
  |c _ f first cap fv cv hf hc rf rc=>
   simp only[snap]
   have YQ:∀(l:List Slot)(vs:Array Value),l.length=vs.size→(∀(i:Nat)x v,l[i]? =some x→vs[i]? =some v→cE w0.heap.size w g (fun _ _ _ _=>False) x v)→
     kU (snap (e.boxes.set id bx) n) l=kU (snap e.boxes n) l:=by
    intro l vs hl hr
    apply List.ext_getElem?
    intro i
    rw[(Dc _ l).2,(Dc _ l).2]
    cases hi:l[i]? with
    |none=>rfl
    |some x=>
     have aO:i<vs.size:=by rw[←hl];exact(List.getElem?_eq_some_iff.1 hi).1
     simp only[Option.map_some]
     rw[(ih (hr i x vs[i] hi (by simp))).2]
   rw[YQ first fv hf rf,YQ cap cv hc rc]
  |t=>rfl
theorem XY{q:Bool}{e:Env}(hG:Good gl e){id:Nat}(gj:e.boxes[id]? =some .none)(bx:af)(x:Operand):n8 q (ij gl e x) e.boxes (e.boxes.set id bx):=by
 obtain⟨w0,ar,a,w,g,hI⟩:=hG
 have h:=hI.bp x
 refine⟨fun b off hs=>?_,fun n=>(FA hI gj bx n h).2,fun b l hs=>?_⟩
 ·have:=(FA hI gj bx 0 h).1.1 b off hs
  rw[List.getElem?_set_ne (fun h=>this h.symm)]
  exact⟨.refl _,fun _=>rfl⟩
 ·have:=(FA hI gj bx 0 h).1.2 b hs
  rw[List.getElem?_set_ne (fun h=>this h.symm)]
theorem XZ{e:Env}(hG:Good gl e){x:Operand}{b off:Nat}(hp:ij gl e x=.p b off∨ij gl e x=.m b):e.boxes[b]? ≠some .none :=by
 intro gj
 obtain⟨w0,ar,a,w,g,hI⟩:=hG
 rcases hp with hp|hp
 ·exact(FA hI gj .none 0 (hI.bp x)).1.1 b off hp rfl
 ·exact(FA hI gj .none 0 (hI.bp x)).1.2 b hp rfl
theorem dk{l:List Slot}{i j:Nat}{x d:Slot}(h:i≠j):(l.set i x).getD j d=l.getD j d:=by
 rw[List.getD_eq_getElem?_getD,List.getElem?_set_ne h,←List.getD_eq_getElem?_getD]
theorem VY{o:Oper}{aH:Bool}{src:Option (Nat×Slot)}{s:Slot}{U:Option (Nat×af)}{e:Env}(Qt:∀t d,src=some (t,d)→aH=true∧t∈tmpsOf o){t:Nat}(ht:t∉jA aH o):
  (fin o src s U e).ak.getD t (.v .undef)=e.ak.getD t (.v .undef):=by
 have h1:∀d,o.dst=some d→d≠t:=fun d hd h=>ht (by subst h;simp[jA,hd])
 have h2:∀u d,src=some (u,d)→u≠t:=fun u d hd h=>by
  obtain⟨h3,h4⟩:=Qt u d hd
  subst h
  exact ht (by simp[jA,h3,h4])
 unfold fin cS kp
 simp only
 cases hd:o.dst with
 |none=>
  simp only
  cases hs:src with
  |none=>rfl
  |some p=>exact dk (h2 p.1 p.2 hs)
 |some d=>
  simp only
  rw[dk (h1 d hd)]
  cases hs:src with
  |none=>rfl
  |some p=>exact dk (h2 p.1 p.2 hs)
theorem oU(l:List Slot){i j:Nat}(x y:Slot)(h:i≠j):(l.set i x).set j y=(l.set j y).set i x:=List.set_comm _ _ h
theorem abX{ox oy:Oper}{lx ly:Bool}{sx sy:Option (Nat×Slot)}{rx ry:Slot}(hx:∀t d,sx=some (t,d)→lx=true∧t∈tmpsOf ox)(hy:∀t d,sy=some (t,d)→ly=true∧t∈tmpsOf oy)
  (hd:∀t,t∈jA lx ox→t∉jA ly oy)(l:List Slot):cS (kp sx (cS (kp sy l) oy.dst ry)) ox.dst rx=cS (kp sy (cS (kp sx l) ox.dst rx)) oy.dst ry:=by
 have a1:∀d,ox.dst=some d→d∈jA lx ox:=fun d h=>by simp[jA,h]
 have a2:∀d,oy.dst=some d→d∈jA ly oy:=fun d h=>by simp[jA,h]
 have a3:∀t d,sx=some (t,d)→t∈jA lx ox:=fun t d h=>by obtain⟨h1,h2⟩:=hx t d h;simp[jA,h1,h2]
 have a4:∀t d,sy=some (t,d)→t∈jA ly oy:=fun t d h=>by obtain⟨h1,h2⟩:=hy t d h;simp[jA,h1,h2]
 have ne:∀{s t:Nat},s∈jA lx ox→t∈jA ly oy→s≠t:=fun h1 h2 h=>hd _ h1 (h▸h2)
 cases HK:ox.dst with
 |none=>
  cases EK:oy.dst with
  |none=>
   cases sx with
   |none=>rfl
   |some p=>
    cases sy with
    |none=>rfl
    |some q=>simp only[cS,kp];exact oU _ _ _ (ne (a3 _ _ rfl) (a4 _ _ rfl)).symm
  |some d=>
   cases sx with
   |none=>rfl
   |some p=>
    cases sy with
    |none=>simp only[cS,kp];exact oU _ _ _ (ne (a3 _ _ rfl) (a2 _ EK)).symm
    |some q=>simp only[cS,kp];rw[oU _ _ _ (ne (a3 _ _ rfl) (a2 _ EK)).symm,oU l _ _ (ne (a3 _ _ rfl) (a4 _ _ rfl)).symm]
 |some c=>
  cases EK:oy.dst with
  |none=>
   cases sy with
   |none=>rfl
   |some q=>
    cases sx with
    |none=>simp only[cS,kp];exact oU _ _ _ (ne (a1 _ HK) (a4 _ _ rfl)).symm
    |some p=>simp only[cS,kp];rw[oU l _ _ (ne (a3 _ _ rfl) (a4 _ _ rfl)).symm,oU _ _ _ (ne (a1 _ HK) (a4 _ _ rfl)).symm]
  |some d=>
   have xG:=ne (a1 _ HK) (a2 _ EK)
   cases sx with
   |none=>
    cases sy with
    |none=>simp only[cS,kp];exact oU _ _ _ xG.symm
    |some q=>simp only[cS,kp];rw[oU _ _ _ xG.symm,oU l _ _ (ne (a1 _ HK) (a4 _ _ rfl)).symm]
   |some p=>
    cases sy with
    |none=>simp only[cS,kp];rw[oU l _ _ (ne (a3 _ _ rfl) (a2 _ EK)).symm,oU _ _ _ xG.symm]
    |some q=>
     simp only[cS,kp]
     rw[oU _ _ _ (ne (a3 _ _ rfl) (a2 _ EK)).symm,oU l _ _ (ne (a3 _ _ rfl) (a4 _ _ rfl)).symm,oU _ _ _ xG.symm,oU (l.set _ _) _ _ (ne (a1 _ HK) (a4 _ _ rfl)).symm]
structure KJ(ops:Array Oper)(lx ly:Bool)(x y:Oper):Prop where
 d1:∀t∈jA lx x,t∉y.looksAt ops
 d2:∀t∈jA lx x,t∉jA ly y
 d3:∀t∈jA ly y,t∉x.looksAt ops
structure Qu(lx ly:Bool)(x y:Oper):Prop where
 m1:¬(kT x=true∧jy y=true)
 m2:¬(kT y=true∧jy x=true)
 m3:¬(lx=true∧ly=true∧jy x=true∧jy y=true)
theorem acT{ops:Array Oper}{lx ly:Bool}{x y:Oper}(h:indep ops lx ly x y=true):KJ ops lx ly x y∧Qu lx ly x y:=by
 simp only[indep,Bool.and_eq_true,List.all_eq_true,Bool.not_eq_true',List.contains_eq_mem,decide_eq_false_iff_not,Bool.and_eq_false_iff]at h
 obtain⟨⟨⟨⟨h1,h2⟩,h3⟩,h4⟩,h5⟩:=h
 refine⟨⟨fun t ht=>(h1 t ht).1,fun t ht=>(h1 t ht).2,fun t ht=>h2 t ht⟩,⟨?_,?_,?_⟩⟩
 ·rintro⟨a,b⟩;rcases h3 with h|h<;>simp_all
 ·rintro⟨a,b⟩;rcases h4 with h|h<;>simp_all
 ·rintro⟨a,b,c,d⟩;rcases h5 with((h|h)|h)|h<;>simp_all
def B3(gl:Nat→Option D)(lx:Bool)(x y:Oper)(e:Env):Prop:=(kT x=true∨lx=true)→∀z∈x.op.operands,(∀t u v,x.op=.store t u v→z=u)→∀b off,(ij gl e z=.p b off∨ij gl e z=.m b)→
 (∀z'∈y.op.operands,∀q ft,n8 q (ij gl e z') e.boxes (e.boxes.set b ft))∧
 ∀z'∈y.op.operands,(∀t u v,y.op=.store t u v→z'=u)→∀sK,ij gl e z'≠.p b sK∧ij gl e z'≠.m b
theorem afw{ops:Array Oper}{ix iy:Nat}{lx ly:Bool}{x y:Oper}{e:Env}{sx sy:Option (Nat×Slot)}{rx ry:Slot}{Ux Uy:Option (Nat×af)}(hG:Good gl e)(hi:KJ ops lx ly x y)(hm:Qu lx ly x y∨(B3 gl lx x y e∧B3 gl ly y x e))
  (hx:Out P gl C ops ix lx x e sx rx Ux)(hy:Out P gl C ops iy ly y (fin x sx rx Ux e) sy ry Uy):
  Out P gl C ops iy ly y e sy ry Uy∧Out P gl C ops ix lx x (fin y sy ry Uy e) sx rx Ux∧fin y sy ry Uy (fin x sx rx Ux e)=fin x sx rx Ux (fin y sy ry Uy e):=by
 have pW:=hm
 have ly1:∀t∈y.looksAt ops,(fin x sx rx Ux e).ak.getD t (.v .undef)=e.ak.getD t (.v .undef):=fun t ht=>VY hx.Cf fun h=>hi.d1 t h ht
 have lx1:∀t∈x.looksAt ops,(fin y sy ry Uy e).ak.getD t (.v .undef)=e.ak.getD t (.v .undef):=fun t ht=>VY hy.Cf fun h=>hi.d3 t h ht
 have ry1:∀z∈y.op.operands,ij gl (fin x sx rx Ux e) z=ij gl e z:=fun z hz=>by unfold ij;rw[xV (fun t ht=>ly1 t (Nx ht)) hz]
 have rx1:∀z∈x.op.operands,ij gl (fin y sy ry Uy e) z=ij gl e z:=fun z hz=>by unfold ij;rw[xV (fun t ht=>lx1 t (Nx ht)) hz]
 have eB:(fin x sx rx Ux e).boxes =nM Ux e.boxes:=rfl
 have my:(fin y sy ry Uy e).boxes =nM Uy e.boxes:=rfl
 have yU:yJ iy y ly (ij gl e) e.boxes Uy:=by
  cases hy.uf with
  |none=>exact .none
  |mk bx h hn hb=>
   refine .mk bx h ?_ hb
   rw[eB]at hn
   cases hx.uf with
   |none=>exact hn
   |mk ft h' tc eC=>
    simp only[nM]at hn
    by_cases CD:ix=iy
    ·subst CD
     rw[List.getElem?_set_self (List.getElem?_eq_some_iff.1 tc).1]at hn
     exact absurd (Option.some.inj hn) eC
    ·rwa[List.getElem?_set_ne CD]at hn
   |wr b ft iS h' lu z hz off hp ho hold eC=>
    simp only[nM]at hn
    by_cases CD:b=iy
    ·subst CD
     rw[List.getElem?_set_self (List.getElem?_eq_some_iff.1 ho).1]at hn
     exact absurd (Option.some.inj hn) eC.1
    ·rwa[List.getElem?_set_ne CD]at hn
  |wr b bx iS h hw z hz off hp ho hold hb tR ha=>
   rw[ry1 z hz]at hp
   rw[eB]at ho
   cases hx.uf with
   |none=>exact .wr b bx iS h hw z hz off hp ho hold hb tR ha
   |mk ft h' tc eC=>
    have bf:ix≠b:=by
     rintro rfl
     exact XZ hG hp tc
    simp only[nM]at ho
    rw[List.getElem?_set_ne bf]at ho
    exact .wr b bx iS h hw z hz off hp ho hold hb tR ha
   |wr b' ft Ha h' lu z' iJ sK vr bQ D3 eC ajA nN=>
    rcases hm with hm|hm
    ·exfalso
     rcases lu with lu|lu
     ·exact hm.m1 ⟨lu,h⟩
     ·rcases hw with hw|hw
      ·exact hm.m2 ⟨hw,h'⟩
      ·exact hm.m3 ⟨lu,hw,h',h⟩
    ·have bf:b'≠b:=by
      rintro rfl
      have:=(hm.1 lu z' iJ nN b' sK vr).2 z hz ha off
      rcases hp with hp|hp
      ·exact this.1 hp
      ·exact this.2 hp
     simp only[nM]at ho
     rw[List.getElem?_set_ne bf]at ho
     exact .wr b bx iS h hw z hz off hp ho hold hb tR ha
 have PZ:∀b bx b' ft,Ux=some (b,bx)→Uy=some (b',ft)→b≠b':=by
  intro b bx b' ft h1 h2
  subst h1 h2
  have hyf:=hy.uf
  cases hx.uf with
  |mk _ h' tc eC=>
   cases yU with
   |mk _ h hn hb=>
    rintro rfl
    cases hyf with
    |mk _ h2 HL jo=>
     rw[eB]at HL
     simp only[nM]at HL
     rw[List.getElem?_set_self (List.getElem?_eq_some_iff.1 tc).1]at HL
     exact eC (Option.some.inj HL)
    |wr _ _ _ h2=>rw[TN h]at h2;cases h2
   |wr _ _ iS h hw z hz off hp ho hold hb=>
    rintro rfl
    exact XZ hG hp tc
  |wr _ _ Ha h' lu z' iJ sK vr bQ D3 eC ajA nN=>
   cases yU with
   |mk _ h hn hb=>
    rintro rfl
    rw[bQ]at hn
    exact D3 (Option.some.inj hn)
   |wr _ _ iS h hw z hz off hp ho hold hb tR ha=>
    rcases hm with hm|hm
    ·exfalso
     rcases lu with lu|lu
     ·exact hm.m1 ⟨lu,h⟩
     ·rcases hw with hw|hw
      ·exact hm.m2 ⟨hw,h'⟩
      ·exact hm.m3 ⟨lu,hw,h',h⟩
    ·rintro rfl
     have:=(hm.1 lu z' iJ nN _ sK vr).2 z hz ha off
     rcases hp with hp|hp
     ·exact this.1 hp
     ·exact this.2 hp
 refine⟨⟨yU,hy.Cf,fun e' k' hl hS hk=>?_⟩,⟨?_,hx.Cf,fun e' k' hl hS hk=>?_⟩,?_⟩
 ·refine hy.Qs e' k' (fun t ht=>(hl t ht).trans (ly1 t ht).symm) ⟨fun hm z hz=>?_,fun hm hU=>hS.fresh hm hU⟩ hk
  rw[ry1 z hz]
  refine n8.trans ?_ (hS.mem hm z hz)
  rw[eB]
  cases hx.uf with
  |none=>exact .refl _ _
  |mk ft h' tc eC=>exact(XY hG tc ft z).symm
  |wr b' ft Ha h' lu z' iJ sK vr bQ D3 eC tR nN=>
   rcases pW with fA|fA
   ·have nx:kT x=false:=by cases hq:kT x with|false=>rfl|true=>exact absurd ⟨hq,hm⟩ fA.m1
    have LS:lx=true:=by rcases lu with h|h;exact absurd ⟨h,hm⟩ fA.m1;exact h
    have ny:kT y=false:=by cases hq:kT y with|false=>rfl|true=>exact absurd ⟨hq,h'⟩ fA.m2
    have LU:ly=false:=by cases hq:ly with|false=>rfl|true=>exact absurd ⟨LS,hq,h',hm⟩ fA.m3
    exact(Vd (by rw[ny,LU];rfl) bQ (tR LS nx) _).symm
   ·exact((fA.1 lu z' iJ nN b' sK vr).1 z hz _ ft).symm
 ·cases hxu:hx.uf with
  |none=>exact .none
  |mk ft h' tc eC=>
   refine .mk ft h' ?_ eC
   rw[my]
   cases hU:Uy with
   |none=>exact tc
   |some p=>
    simp only[nM]
    rw[List.getElem?_set_ne (PZ _ _ _ _ rfl hU).symm]
    exact tc
  |wr b' ft Ha h' lu z' iJ sK vr bQ D3 eC tR nN=>
   refine .wr b' ft Ha h' lu z' iJ sK (by rw[rx1 z' iJ];exact vr) ?_ D3 eC tR nN
   rw[my]
   cases hU:Uy with
   |none=>exact bQ
   |some p=>
    simp only[nM]
    rw[List.getElem?_set_ne (PZ _ _ _ _ rfl hU).symm]
    exact bQ
 ·refine hx.Qs e' k' (fun t ht=>(hl t ht).trans (lx1 t ht)) ⟨fun hm z hz=>?_,fun hm hU=>hS.fresh hm hU⟩ hk
  have h1:=hS.mem hm z hz
  rw[rx1 z hz]at h1
  refine n8.trans ?_ h1
  rw[my]
  cases yU with
  |none=>exact .refl _ _
  |mk ft h' tc eC=>exact XY hG tc ft z
  |wr b' ft Ha h' lu z' iJ sK vr bQ D3 eC tR nN=>
   rcases pW with fA|fA
   ·have ny:kT y=false:=by cases hq:kT y with|false=>rfl|true=>exact absurd ⟨hq,hm⟩ fA.m2
    have LU:ly=true:=by rcases lu with h|h;exact absurd ⟨h,hm⟩ fA.m2;exact h
    have nx:kT x=false:=by cases hq:kT x with|false=>rfl|true=>exact absurd ⟨hq,h'⟩ fA.m1
    have LS:lx=false:=by cases hq:lx with|false=>rfl|true=>exact absurd ⟨hq,LU,hm,h'⟩ fA.m3
    exact Vd (by rw[nx,LS];rfl) bQ (tR LU ny) _
   ·exact(fA.2 lu z' iJ nN b' sK vr).1 z hz _ ft
 ·unfold fin
  rw[Env.mk.injEq]
  refine⟨(abX hx.Cf hy.Cf hi.d2 e.ak).symm,?_⟩
  simp only
  cases hUx:Ux with
  |none=>rfl
  |some p=>
   cases hUy:Uy with
   |none=>rfl
   |some q=>exact List.set_comm _ _ (PZ _ _ _ _ hUx hUy)
end
end Go.Proofs.Ytimbllcalipehaa.Ab
namespace Go.Proofs.Ytimbllcalipehaa.Ab
open Go Go.RowKit
theorem ad3{l:List Nat}(h:Kk l=true):l.Nodup:=by
 induction l with
 |nil=>exact .nil
 |cons a l ih=>
  simp only[Kk,Bool.and_eq_true,Bool.not_eq_true',List.contains_eq_mem,decide_eq_false_iff_not]at h
  exact List.nodup_cons.2 ⟨h.1,ih h.2⟩
structure Cg(ops:Array Oper)(aH:Nat→Bool):Prop where
 inj:∀(i j:Nat)oi oj a,ops[i]? =some oi→ops[j]? =some oj→pD oi=some a→pD oj=some a→i=j
 mem:∀(i:Nat)o,ops[i]? =some o→pD o=none→iA o=false∧∀d,o.dst=some d→d∉mg ops.toList
 Rx:∀(i:Nat)o,ops[i]? =some o→∀x∈o.op.operands,(aH i=false→addrOf o≠some x)→∀t,x=.tmp t→t∉mg ops.toList
 val:∀(i:Nat)o,ops[i]? =some o→∀t x y,o.op=.store t x y→∀u,y=.tmp u→u∉mg ops.toList
 waits:∀(j:Nat)o a,ops[j]? =some o→qM (mg ops.toList) o=some a→∀(i:Nat)oi,ops[i]? =some oi→pD oi=some a→((reach [] ops.toList).getD j 0).testBit i=true
theorem TB{α:Type}{f:α→Option Nat}:∀{l:List α},(l.filterMap f).Nodup →∀(i j:Nat)x y a,l[i]? =some x→l[j]? =some y→f x=some a→f y=some a→i=j
 |[],_,i,j,x,y,a,hx,_,_,_=>by simp at hx
 |z::l,h,i,j,x,y,a,hx,hy,fx,fy=>by
  have mem:∀(k:Nat)w,l[k]? =some w→f w=some a→a∈l.filterMap f:=fun k w hw fw=>List.mem_filterMap.2 ⟨w,List.mem_of_getElem? hw,fw⟩
  cases i with
  |zero=>
   cases j with
   |zero=>rfl
   |succ j=>
    simp only[List.getElem?_cons_zero,Option.some.injEq]at hx
    simp only[List.getElem?_cons_succ]at hy
    subst hx
    rw[List.filterMap_cons_some fx]at h
    exact absurd (mem j y hy fy) (List.nodup_cons.1 h).1
  |succ i=>
   simp only[List.getElem?_cons_succ]at hx
   cases j with
   |zero=>
    simp only[List.getElem?_cons_zero,Option.some.injEq]at hy
    subst hy
    rw[List.filterMap_cons_some fy]at h
    exact absurd (mem i x hx fx) (List.nodup_cons.1 h).1
   |succ j=>
    simp only[List.getElem?_cons_succ]at hy
    have h':(l.filterMap f).Nodup :=by
     cases hz:f z with
     |none=>rw[List.filterMap_cons_none hz]at h;exact h
     |some b=>rw[List.filterMap_cons_some hz]at h;exact(List.nodup_cons.1 h).2
    rw[TB h' i j x y a hx hy fx fy]
theorem TD{all:List Oper}{A:List Nat}{aH:Nat→Bool}{R:List Nat}:∀{l:List Oper}{i:Nat},JD all A aH R l i=true→∀(n:Nat)o,l[n]? =some o→
  Gs A (aH (i+n)) o=true∧∀a,qM A o=some a→FH a (R.getD (i+n) 0) all 0=true
 |[],_,_,n,o,h=>by simp at h
 |p::l,i,h,n,o,ho=>by
  simp only[JD,Bool.and_eq_true]at h
  obtain⟨⟨h1,h2⟩,h3⟩:=h
  cases n with
  |zero=>
   simp only[List.getElem?_cons_zero,Option.some.injEq]at ho
   subst ho
   refine⟨h1,fun a ha=>?_⟩
   rw[ha]at h2
   exact h2
  |succ n=>
   have:=TD h3 n o (by simpa using ho)
   rw[show i+1+n=i+(n+1) by omega]at this
   exact this
theorem Tu{a m:Nat}:∀{l:List Oper}{i:Nat},FH a m l i=true→∀(n:Nat)o,l[n]? =some o→pD o=some a→m.testBit (i+n)=true
 |[],_,_,n,o,h,_=>by simp at h
 |p::l,i,h,n,o,ho,ha=>by
  simp only[FH,Bool.and_eq_true]at h
  cases n with
  |zero=>
   simp only[List.getElem?_cons_zero,Option.some.injEq]at ho
   subst ho
   have:=h.1
   rw[ha]at this
   simpa using this
  |succ n=>
   have:=Tu h.2 n o (by simpa using ho) ha
   rw[show i+1+n=i+(n+1) by omega]at this
   exact this
theorem JF{A:List Nat}{x:Operand}(h:Hz A x=false):∀t,x=.tmp t→t∉A:=by
 rintro t rfl
 simpa[Hz]using h
theorem OQ{ops:Array Oper}{aH:Nat→Bool}(h:eligible ops.toList aH (reach [] ops.toList)=true):Cg ops aH:=by
 simp only[eligible,Bool.and_eq_true]at h
 obtain⟨hn,hf⟩:=h
 have sp:=fun(i:Nat)(o:Oper)(ho:ops[i]? =some o)=>TD hf i o (by rw[Array.getElem?_toList];exact ho)
 simp only[Nat.zero_add]at sp
 refine⟨fun i j oi oj a h1 h2 h3 h4=>TB (ad3 hn) i j oi oj a (by rw[Array.getElem?_toList];exact h1) (by rw[Array.getElem?_toList];exact h2) h3 h4,fun i o ho ha=>?_,fun i o ho x hx Ry=>?_,fun i o ho t x y j0=>?_,fun j o a ho hs i oi hoi EL=>?_⟩
 ·have:=(sp i o ho).1
  simp only[Gs,ha,Bool.and_eq_true,Bool.not_eq_true']at this
  refine⟨this.1.1,fun d hd=>?_⟩
  have h2:=this.1.2
  rw[hd]at h2
  simpa using h2
 ·have:=(sp i o ho).1
  simp only[Gs,Bool.and_eq_true]at this
  have h2:=this.2
  cases j0:o.op with
  |store t u v=>
   rw[j0]at h2 hx
   simp only[Bool.and_eq_true,Bool.not_eq_true',Bool.or_eq_true]at h2
   simp only[Op.operands,List.mem_toArray,List.mem_cons,List.not_mem_nil,or_false]at hx
   rcases hx with rfl|rfl
   ·rcases h2.2 with h3|h3
    ·exact JF h3
    ·exact absurd (by simp[addrOf,j0]) (Ry h3)
   ·exact JF h2.1
  |_=>
   rw[j0]at h2 hx
   simp only[List.all_eq_true,Bool.not_eq_true']at h2
   exact JF (h2 x (by simpa using hx))
 ·have:=(sp i o ho).1
  simp only[Gs,Bool.and_eq_true]at this
  have h2:=this.2
  rw[j0]at h2
  simp only[Bool.and_eq_true,Bool.not_eq_true']at h2
  exact JF h2.1
 ·have:=Tu ((sp j o ho).2 a hs) i oi (by rw[Array.getElem?_toList];exact hoi) EL
  simpa using this
section
variable{P:Program}{gl:Nat→Option D}{C:bA}{ops:Array Oper}{aH:Nat→Bool}{base:Nat}{K:Nat→Prop}
structure Jv(ops:Array Oper)(base:Nat)(K:Nat→Prop)(bI:Array Bool)(e:Env):Prop where
 k:∀b,K b→b<base
 low:∀t,t∉mg ops.toList→eD K (e.ak.getD t (.v .undef))
 box:∀b s,(K b∨base≤b)→e.boxes[b]? =some (.one s)→eD K s
 own:∀(i:Nat)o a,ops[i]? =some o→pD o=some a→bI.getD i false=true→e.ak.getD a (.v .undef)=.v .undef ∨e.ak.getD a (.v .undef)=.p (base+fM ops.toList i) 0
theorem Oi{e:Env}{x:Operand}(h:∀t,x=.tmp t→eD K (e.ak.getD t (.v .undef))):eD K (ij gl e x):=by
 unfold ij
 cases x with
 |tmp t=>exact(h t rfl).mW
 |_=>
  simp only[Ab.bp]
  repeat' split
  all_goals exact .v _
theorem Nj(l:List Slot)(i j:Nat)(x d:Slot):((l.set i x).getD j d=x∧i=j)∨(l.set i x).getD j d=l.getD j d:=by
 by_cases h:i=j
 ·subst h
  rcases Nat.lt_or_ge i l.length with hl|hl
  ·left;simp[List.getD_eq_getElem?_getD,List.getElem?_set_self hl]
  ·right;rw[List.set_eq_of_length_le hl]
 ·right;exact dk h
theorem OR:∀{l:List Oper}{i j:Nat}{o:Oper},i<j→l[i]? =some o→iA o=true→fM l i<fM l j
 |[],i,j,o,_,h,_=>by simp at h
 |p::l,i,j,o,eY,h,hm=>by
  cases j with
  |zero=>omega
  |succ j=>
   cases i with
   |zero=>
    simp only[List.getElem?_cons_zero,Option.some.injEq]at h
    subst h
    simp only[fM,hm,cond_true]
    omega
   |succ i=>
    have:=OR (Nat.lt_of_succ_lt_succ eY) (by simpa using h) hm
    simp only[fM]
    omega
theorem NQ{o:Oper}{a:Nat}(h:pD o=some a):(∃t,o.op=.alloc t)∧o.guard=none∧o.dst=some a:=by
 unfold pD at h
 split at h
 ·rename_i t h1 h2;exact⟨⟨t,h1⟩,h2,h⟩
 ·cases h
theorem Vf{i:Nat}{o:Oper}{a:Nat}(ho:ops[i]? =some o)(h:pD o=some a):a∈mg ops.toList:=
 List.mem_filterMap.2 ⟨o,List.mem_of_getElem? (by rw[Array.getElem?_toList];exact ho),h⟩
theorem Vg{a:Nat}(h:a∈mg ops.toList):∃(i:Nat) (o:Oper),ops[i]? =some o∧pD o=some a:=by
 obtain⟨o,ho,h⟩:=List.mem_filterMap.1 h
 obtain⟨i,hi⟩:=List.mem_iff_getElem?.1 ho
 exact⟨i,o,by rw[←Array.getElem?_toList];exact hi,h⟩
theorem Jv.step{bI:Array Bool}{e e':Env}(hE:Cg ops aH)(hJ:Jv ops base K bI e){i:Nat}{o:Oper}(ho:ops[i]? =some o)
  (h:o8 P gl C ops.toList (base+fM ops.toList i) (aH i) o e (fun x=>x=e')):Jv ops base K (bI.setIfInBounds i true) e':=by
 cases ha:pD o with
 |some a=>
  obtain⟨⟨t,j0⟩,hg,hd⟩:=NQ ha
  have h':=Bs.1 h
  have kF:u9 ops.toList o e=some true:=by unfold u9;rw[hg]
  rw[kF]at h'
  simp only[pN]at h'
  cases hl:aH i with
  |true=>rw[hl]at h';simp only[cond_true,nu,j0]at h'
  |false=>
   rw[hl]at h'
   simp only[cond_false,dH,j0]at h'
   split at h'
   ·rename_i gj
    obtain⟨z,hz,h2⟩:=aN h'
    subst h2
    rw[hd]
    refine⟨hJ.k,fun t' ud=>?_,fun b s hb jc=>?_,fun j oj a' kK zz CE=>?_⟩
    ·simp only[cS]
     rw[dk (fun h:a=t'=>ud (by rw[←h];exact Vf ho ha))]
     exact hJ.low t' ud
    ·simp only at jc
     rw[List.getElem?_set]at jc
     split at jc
     ·split at jc
      ·cases jc
      ·cases jc
     ·exact hJ.box b s hb jc
    ·simp only[cS]
     by_cases eY:i=j
     ·subst eY
      rw[ho]at kK;cases kK
      rw[ha]at zz;cases zz
      rcases Nj e.ak a a (.p (base+fM ops.toList i) 0) (.v .undef)with⟨h,_⟩|h
      ·exact .inr h
      ·rcases Nat.lt_or_ge a e.ak.length with aO|lq
       ·right;simp[List.getD_eq_getElem?_getD,List.getElem?_set_self aO]
       ·left;rw[h,List.getD_eq_getElem?_getD,List.getElem?_eq_none lq];rfl
     ·have bf:a≠a':=fun h=>eY (hE.inj i j o oj a ho kK ha (h▸zz))
      rw[dk bf]
      refine hJ.own j oj a' kK zz ?_
      rw[getD_set_ne false eY]at CE
      exact CE
   ·exact h'.elim
 |none=>
  obtain⟨mz,pP⟩:=hE.mem i o ho ha
  obtain⟨src,s,U,hk,hO,_,ko,_⟩:=Bt h
  subst hk
  obtain⟨l1,l2,l3⟩:=ko K (fun b=>K b∨base≤b) (fun b h=>.inl h) (fun x hx Ry=>Oi fun t ht=>hJ.low t (hE.Rx i o ho x hx Ry t ht))
   (fun t x y j0=>Oi fun u hu=>hJ.low u (hE.val i o ho t x y j0 u hu)) hJ.box mz
  have Qt:∀t d,src=some (t,d)→t∉mg ops.toList:=fun t d hs=>by
   obtain⟨hl,ht⟩:=hO.Cf t d hs
   obtain⟨z,hz,HM⟩:=List.mem_filterMap.1 ht
   refine hE.Rx i o ho (.tmp t) ?_ (fun h=>by rw[hl]at h;cases h) t rfl
   cases z with
   |tmp u=>simp only[Option.some.injEq]at HM;subst HM;simpa using hz
   |_=>simp at HM
  have gk:∀t,(eD K (e.ak.getD t (.v .undef))→eD K ((kp src e.ak).getD t (.v .undef)))∧(t∈mg ops.toList→(kp src e.ak).getD t (.v .undef)=e.ak.getD t (.v .undef)):=fun t=>by
   cases A9:src with
   |none=>exact⟨fun h=>h,fun _=>rfl⟩
   |some p=>
    obtain⟨u,d⟩:=p
    simp only[kp]
    refine⟨fun h=>?_,fun ht=>dk fun hh=>Qt u d A9 (hh▸ht)⟩
    rcases Nj e.ak u t d (.v .undef)with⟨h2,_⟩|h2
    ·rw[h2];exact l2 u d A9
    ·rw[h2];exact h
  refine⟨hJ.k,fun t ht=>?_,fun b s' hb jc=>?_,fun j oj a' kK zz CE=>?_⟩
  ·unfold fin
   simp only
   cases hd:o.dst with
   |none=>exact(gk t).1 (hJ.low t ht)
   |some d=>
    simp only[cS]
    rcases Nj (kp src e.ak) d t s (.v .undef)with⟨h2,_⟩|h2
    ·rw[h2];exact l1
    ·rw[h2];exact(gk t).1 (hJ.low t ht)
  ·unfold fin at jc
   simp only at jc
   cases hU:U with
   |none=>rw[hU]at jc;exact hJ.box b s' hb jc
   |some p=>
    obtain⟨b0,bx⟩:=p
    rw[hU]at jc
    simp only[nM]at jc
    rw[List.getElem?_set]at jc
    split at jc
    ·rename_i fh
     split at jc
     ·cases jc
      exact l3 b0 s' hU
     ·cases jc
    ·exact hJ.box b s' hb jc
  ·have eY:i≠j:=by
    rintro rfl
    rw[ho]at kK;cases kK
    rw[ha]at zz;cases zz
   have eL:=Vf kK zz
   have jF:(fin o src s U e).ak.getD a' (.v .undef)=e.ak.getD a' (.v .undef):=by
    unfold fin
    simp only
    cases hd:o.dst with
    |none=>exact(gk a').2 eL
    |some d=>
     simp only[cS]
     rw[dk (fun h:d=a'=>pP d hd (by rw[h];exact eL))]
     exact(gk a').2 eL
   rw[jF]
   refine hJ.own j oj a' kK zz ?_
   rw[getD_set_ne false eY]at CE
   exact CE
theorem VZ{e:Env}{bI:Array Bool}(hJ:Jv ops base K bI e){b:Nat}(hb:base≤b)(bx:af):∀(n:Nat)(s:Slot),eD K s→snap (e.boxes.set b bx) n s=snap e.boxes n s:=by
 intro n
 induction n with
 |zero=>intro s _;rfl
 |succ n ih=>
  intro s hs
  cases hs with
  |v x=>rfl
  |t l=>rfl
  |a c m sz h=>
   have bf:b≠c:=fun h2=>by have:=hJ.k c h;omega
   simp only[snap]
   rw[List.getElem?_set_ne bf]
  |m c h=>rfl
  |p c off h=>
   have bf:b≠c:=fun h2=>by have:=hJ.k c h;omega
   simp only[snap]
   rw[List.getElem?_set_ne bf]
   cases hc:e.boxes[c]? with
   |none=>rfl
   |some y=>
    cases y with
    |one s'=>simp only;rw[ih s' (hJ.box c s' (.inl h) hc)]
    |_=>rfl
  |c f first cap h1 h2=>
   simp only[snap]
   have hl:∀(l:List Slot),(∀s∈l,eD K s)→kU (snap (e.boxes.set b bx) n) l=kU (snap e.boxes n) l:=by
    intro l hl
    induction l with
    |nil=>rfl
    |cons a l ihl=>simp only[kU];rw[ih a (hl a (by simp)),ihl fun s hs=>hl s (by simp[hs])]
   rw[hl first h1,hl cap h2]
theorem ad4{e:Env}{bI:Array Bool}(hJ:Jv ops base K bI e){b:Nat}(hb:base≤b)(bx:af){s:Slot}(hs:eD K s)(q:Bool):n8 q s e.boxes (e.boxes.set b bx):=by
 refine⟨fun c off h=>?_,fun n=>VZ hJ hb bx n s hs,fun c l h=>?_⟩
 ·subst h
  have bf:b≠c:=fun h2=>by have:=hJ.k c hs.o0;omega
  rw[List.getElem?_set_ne bf]
  exact⟨.refl _,fun _=>rfl⟩
 ·subst h
  have bf:b≠c:=fun h2=>by have:=hJ.k c hs.YP;omega
  rw[List.getElem?_set_ne bf]
theorem ad5{e:Env}{bI:Array Bool}(hJ:Jv ops base K bI e){b c off:Nat}(hb:base≤b)(hc:base≤c)(bf:b≠c)(bx:af)(q:Bool):n8 q (.p c off) e.boxes (e.boxes.set b bx):=by
 refine⟨fun c' sK h=>?_,fun n=>?_,fun c l h=>by cases h⟩
 ·cases h
  rw[List.getElem?_set_ne bf]
  exact⟨.refl _,fun _=>rfl⟩
 ·cases n with
  |zero=>rfl
  |succ n=>
   simp only[snap]
   rw[List.getElem?_set_ne bf]
   cases hx:e.boxes[c]? with
   |none=>rfl
   |some y=>
    cases y with
    |one s'=>simp only;rw[VZ hJ hb bx n s' (hJ.box c s' (.inr hc) hx)]
    |_=>rfl
theorem V0{A:List Nat}{o:Oper}{a:Nat}(h:qM A o=some a):a∈A∧∃t y,o.op=.store t (.tmp a) y:=by
 unfold qM at h
 split at h
 ·rename_i t a' y j0
  cases hc:A.contains a' with
  |false=>rw[hc]at h;cases h
  |true=>
   rw[hc]at h
   cases h
   exact⟨by simpa using hc,t,y,j0⟩
 ·cases h
def Made(ops:Array Oper)(bI:Array Bool)(o:Oper):Prop:=∀a,qM (mg ops.toList) o=some a→∀(i:Nat)oi,ops[i]? =some oi→pD oi=some a→bI.getD i false=true
theorem aha{e:Env}{bI:Array Bool}(hE:Cg ops aH)(hJ:Jv ops base K bI e){j:Nat}{y:Oper}(hy:ops[j]? =some y){z:Operand}(hz:z∈y.op.operands)(h:qM (mg ops.toList) y=none∨addrOf y≠some z):eD K (ij gl e z):=by
 refine Oi fun t ht=>hJ.low t ?_
 by_cases Ba:addrOf y=some z
 ·rcases h with h|h
  ·subst ht
   unfold addrOf at Ba
   split at Ba
   ·rename_i t' x' y' j0
    cases Ba
    intro hm
    unfold qM at h
    rw[j0]at h
    simp[hm]at h
   ·cases Ba
  ·exact absurd Ba h
 ·exact hE.Rx j y hy z hz (fun _=>Ba) t ht
theorem Jf{e:Env}{bI:Array Bool}(hE:Cg ops aH)(hJ:Jv ops base K bI e){i j:Nat}{x y:Oper}(_hx:ops[i]? =some x)(hy:ops[j]? =some y){a:Nat}(hs:qM (mg ops.toList) x=some a)
  (ct:Made ops bI x)(A8:Made ops bI y)(bf:qM (mg ops.toList) y≠some a){lx:Bool}:B3 gl lx x y e:=by
 intro hw z hz Ba b off hp
 obtain⟨hm,t,v,j0⟩:=V0 hs
 obtain⟨k,ok,ej,EM⟩:=Vg hm
 have HM:=Ba _ _ _ j0
 subst HM
 have mz:iA ok=true:=by obtain⟨⟨t,h⟩,_⟩:=NQ EM;simp[iA,h]
 have hrz:ij gl e (.tmp a)=(e.ak.getD a (.v .undef)).aa :=rfl
 have hb:b=base+fM ops.toList k:=by
  rw[hrz]at hp
  rcases hJ.own k ok a ej EM (ct a hs k ok ej EM)with h|h
  ·rw[h]at hp;rcases hp with hp|hp<;>cases hp
  ·rw[h]at hp;rcases hp with hp|hp<;>cases hp;rfl
 have fh:base≤b:=by omega
 have rB:∀z'∈y.op.operands,eD K (ij gl e z')∨∃c,base≤c∧b≠c∧ij gl e z'=.p c 0:=by
  intro z' iJ
  by_cases h:qM (mg ops.toList) y=none∨addrOf y≠some z'
  ·exact .inl (aha hE hJ hy iJ h)
  ·have h1:qM (mg ops.toList) y≠none:=fun h2=>h (.inl h2)
   have h2:addrOf y=some z':=Classical.byContradiction fun h2=>h (.inr h2)
   obtain⟨a',nN⟩:=Option.ne_none_iff_exists'.1 h1
   obtain⟨lQ,t',v',akz⟩:=V0 nN
   obtain⟨k',Rz,Hb,Hc⟩:=Vg lQ
   have Bb:z'=.tmp a':=by
    unfold addrOf at h2
    rw[akz]at h2
    exact(Option.some.inj h2).symm
   subst Bb
   have hr:ij gl e (.tmp a')=(e.ak.getD a' (.v .undef)).aa :=rfl
   rcases hJ.own k' Rz a' Hb Hc (A8 a' nN k' Rz Hb Hc)with h|h
   ·left;rw[hr,h];exact .v _
   ·right
    refine⟨base+fM ops.toList k',by omega,?_,by rw[hr,h];rfl⟩
    rw[hb]
    have mQ:k≠k':=by
     rintro rfl
     rw[ej]at Hb;cases Hb
     rw[EM]at Hc;cases Hc
     exact bf nN
    have akA:iA Rz=true:=by obtain⟨⟨t,h⟩,_⟩:=NQ Hc;simp[iA,h]
    rcases Nat.lt_or_gt_of_ne mQ with h|h
    ·have:=OR (l:=ops.toList) h (by rw[Array.getElem?_toList];exact ej) mz;omega
    ·have:=OR (l:=ops.toList) h (by rw[Array.getElem?_toList];exact Hb) akA;omega
 refine⟨fun z' iJ q ft=>?_,fun z' iJ _ sK=>?_⟩
 ·rcases rB z' iJ with h|⟨c,hc,LV,h⟩
  ·exact ad4 hJ fh ft h q
  ·rw[h];exact ad5 hJ fh hc LV ft q
 ·rcases rB z' iJ with h|⟨c,hc,LV,h⟩
  ·refine⟨fun h2=>?_,fun h2=>?_⟩
   ·rw[h2]at h;have:=hJ.k b h.o0;omega
   ·rw[h2]at h;have:=hJ.k b h.YP;omega
  ·rw[h]
   refine⟨fun h2=>?_,fun h2=>by cases h2⟩
   cases h2
   exact LV rfl
theorem ad6{e:Env}{bI:Array Bool}(hE:Cg ops aH)(hJ:Jv ops base K bI e){i j:Nat}{x y:Oper}(hx:ops[i]? =some x)(hy:ops[j]? =some y){lx ly:Bool}(hf:KF (mg ops.toList) lx ly x y=true)
  (ct:Made ops bI x)(A8:Made ops bI y):B3 gl lx x y e∧B3 gl ly y x e:=by
 unfold KF at hf
 split at hf
 ·rename_i a b ha hb
  simp only[Bool.and_eq_true,Bool.not_eq_true']at hf
  have LK:a≠b:=fun h=>by rw[h,Nat.beq_refl]at hf;exact absurd hf.1.1 (by simp)
  exact⟨Jf hE hJ hx hy ha ct A8 (by rw[hb];simpa using Ne.symm LK),Jf hE hJ hy hx hb A8 ct (by rw[ha];simpa using LK)⟩
 ·rename_i a ha hb
  simp only[Bool.and_eq_true,Bool.not_eq_true']at hf
  refine⟨Jf hE hJ hx hy ha ct A8 (by rw[hb];simp),fun hw=>?_⟩
  rcases hw with h|h
  ·rw[hf.1.2]at h;cases h
  ·rw[hf.2]at h;cases h
 ·rename_i b ha hb
  simp only[Bool.and_eq_true,Bool.not_eq_true']at hf
  refine⟨fun hw=>?_,Jf hE hJ hy hx hb A8 ct (by rw[ha];simp)⟩
  rcases hw with h|h
  ·rw[hf.1.2]at h;cases h
  ·rw[hf.2]at h;cases h
 ·cases hf
theorem abY{A:List Nat}{lx ly:Bool}{x y:Oper}(h:Pg ops A lx ly x y=true):KJ ops lx ly x y∧KF A lx ly x y=true:=by
 simp only[Pg,Bool.and_eq_true,List.all_eq_true,Bool.not_eq_true',List.contains_eq_mem,decide_eq_false_iff_not]at h
 obtain⟨⟨h1,h2⟩,h3⟩:=h
 exact⟨⟨fun t ht=>(h1 t ht).1,fun t ht=>(h1 t ht).2,fun t ht=>h2 t ht⟩,h3⟩
end
end Go.Proofs.Ytimbllcalipehaa.Ab
