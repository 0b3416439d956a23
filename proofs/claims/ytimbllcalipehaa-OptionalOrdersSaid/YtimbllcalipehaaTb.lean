/-
  THE ABSTRACT WALK: appends.
-/
import Derived.Test.YtimbllcalipehaaTa
import Derived.MapKept
import Derived.Laws.MakeOwn
set_option linter.unusedVariables false
set_option linter.unusedSimpArgs false
namespace Go.Proofs.Ytimbllcalipehaa.Ab
open Go Go.RowKit
section
variable{P:Program}{gl:Nat→Option D}{w0:World}{ao:S0}{e:Env}{a:Act}{w:World}{g:Gh}
structure rA(e:Env)(ai:List Slot)(lost:Nat→Prop)(dst:Option Nat):Prop where
 len:ai.length=e.ai.length
 at_:∀(i:Nat)x,ai[i]? =some x→dst≠some i→∃y,e.ai[i]? =some y∧((x=y∧¬lost i)∨x=y.aa)
theorem rA.same(e:Env)(dst:Option Nat):rA e e.ai (fun _=>False) dst:=⟨rfl,fun _ x h _=>⟨x,h,.inl ⟨rfl,fun h=>h⟩⟩⟩
def yy(lost:Nat→Prop)(dst:Option Nat)(p:Pos):Prop:=∃i j,p=.s i j∧(lost i∨dst=some i)
theorem Inv.hand(hI:Inv gl w0 ao e a w g){w':World}{g':Gh}{ai:List Slot}{lost:Nat→Prop}{dst:Option Nat}(hH:rA e ai lost dst)
  (hX:Ext w0.heap.size w g w' g' (yy lost dst)){s:Slot}{v:Value}(nR:Below w0.heap.size w w')
  (mQ:∀d,dst=some d→cg w0.heap.size w' g' (eW w0.heap.size w' g' d) s v)(dA:g'.bx=g.bx)(dk:∀b,some b∈g.bx→w'.heap[b]? =w.heap[b]?)
  (yP:∀b o,g'.St b o→(ao b o∨w0.heap.size≤b)∧some b∉g.bx∧b<w'.heap.size):
  Inv gl w0 ao ⟨cz ai dst s,e.boxes⟩ (a.put dst v) w' g':=by
 refine hI.step hX nR hH.len (fun i x hx hd=>?_) mQ (by rw[dA];exact hI.eX) ?_ (by rw[dA];exact hI.nodup) ?_ (fun b o h=>by rw[dA];exact yP b o h)
 ·obtain⟨y,hy,⟨rfl,hl⟩|h⟩:=hH.at_ i x hx hd
  ·refine⟨x,hy,.inl ⟨rfl,fun j=>?_⟩⟩
   rintro⟨i',j',h,gU|gU⟩
   ·cases h;exact hl gU
   ·cases h;exact hd gU
  ·exact⟨y,hy,.inr h⟩
 ·intro b bx aj h1 h2
  rw[dA]at h2
  refine hX.box (fun j=>?_) (dk aj (List.mem_of_getElem? h2)) (hI.boxes b bx aj h1 h2)
  rintro⟨i,j',h,_⟩
  cases h
 ·intro b hb
  rw[dA]at hb
  have:=nR.size
  have:=hI.dn b hb
  omega
def Gh.mv(g:Gh)(b:Nat)(p:Pos):Gh:={g with ow:=fun b'=>if b'=b then some p else g.ow b'}
theorem Ext.mv{base:Nat}{i:Nat}{b a0 c0:Nat}(ho:eJ base w g (.s i 0) b a0 c0){lost:Nat→Prop}(hl:lost i)(dst:Option Nat)(q:Pos):Ext base w g w (g.mv b q) (yy lost dst):=by
 refine⟨fun D _ hb hn h=>⟨h,hb,(by
  simp only[Gh.mv]
  rw[if_neg (fun e=>by rw[e,ho.1]at hn;cases hn)];exact hn),fun _ h=>h⟩,fun _ _ h=>(by first|exact⟨h,rfl⟩|exact⟨h,.refl _ _ _⟩),fun _ _ _=>rfl,fun _ _ h=>h,fun p b' a' c' hp bO=>⟨?_,.refl _ _ _⟩,.refl _⟩
 obtain⟨h1,h2,h3,h4,h5⟩:=bO
 refine⟨?_,h2,h3,h4,h5⟩
 simp only[Gh.mv]
 split
 ·rename_i hb
  subst hb
  exfalso
  rw[ho.1]at h1
  cases h1
  exact hp ⟨i,0,rfl,.inl hl⟩
 ·exact h1
theorem Vb{t ty e':TypeId}{i:TypeInfo}(ht:P.underlying t=some (.slice e'))(hi:P.info? e'=some i)(base:Option Addr)(n cap:Nat)(hn:n≤cap){y:Value}
  (hy:y=.slice none 0 0∨∃ad c,y=.slice (some ad) 0 c):(Builtin.append_ #[t,t] ty #[.slice base n cap,y]).run P w=.ok (.slice base n cap) w:=by
 rcases hy with rfl|⟨ad,c,rfl⟩
 ·cases base<;>simp[Builtin.append_,run_underlying ht,sizeOf,typeInfo,hi,Builtin.lenOf,hn,Builtin.firstCells,storeCells]
 ·cases base<;>simp[Builtin.append_,run_underlying ht,sizeOf,typeInfo,hi,Builtin.lenOf,hn,Builtin.firstCells,loadCells,loadCellsFrom,storeCells]
theorem Ng{t ty e' te:TypeId}{i:TypeInfo}(ht:P.underlying t=some (.slice e'))(hi:P.info? e'=some i){gg n cap:Nat}{cur:Array Value}(hg:w.heap[gg]? =some (.cells cur te (0,0)))
  {ad:Addr}{m c:Nat}(news:List Value)(hl:news.length=m*i.size)(adA:∀j u,news[j]? =some u→w.cell? (ad.add j)=some u)(h1:∀u∈news,u.oneCell'=true)
  (uW:n+m≤cap)(nZ:n*i.size+news.length≤cur.size):
  (Builtin.append_ #[t,t] ty #[.slice (some ⟨gg,0,none⟩) n cap,.slice (some ad) m c]).run P w=
    .ok (.slice (some ⟨gg,0,none⟩) (n+m) cap) (w.setRow gg (cur.toList.take (n*i.size)++news++cur.toList.drop (n*i.size+news.length)).toArray):=by
 have hf:=run_firstCells_some (P:=P) w i.size m ad m c news hl adA
 have aS:=run_storeCells_at P gg (n*i.size) te news 0 cur w hg (by simpa using nZ) h1
 simp only[Nat.add_zero]at aS
 simp[Builtin.append_,run_underlying ht,sizeOf,typeInfo,hi,Builtin.lenOf,uW,hf,Addr.add_lit,aS]
theorem xT{sz n:Nat}{vs:Nat→Value}{b off:Nat}{St:Nat→Nat→Prop}(aP:∀(o:Nat),o<n*sz→w.cell? ⟨b,off+o,none⟩=some (vs o)∧St b (off+o)):
  ∃l:List Value,l.length=n*sz∧(∀j u,l[j]? =some u→w.cell? ((⟨b,off,none⟩:Addr).add j)=some u)∧∀j,j<n*sz→l[j]? =some (vs j):=by
 refine⟨(List.range (n*sz)).map vs,by simp,fun j u hu=>?_,fun j hj=>by simp[hj]⟩
 have hj:j<n*sz:=by have:=(List.getElem?_eq_some_iff.1 hu).1;simpa using this
 simp[hj]at hu
 subst hu
 rw[pQ]
 exact(aP j hj).1
theorem E6{sz:Nat}{L M:List D}(hL:∀x∈L,x.cells.length=sz){i:Nat}{x:D}(hx:(L++M)[i]? =some x){j:Nat}{c:D}(hc:x.cells[j]? =some c){St:Nat→Nat→Prop}
  {f h:Nat→Value}(hf:∀(i:Nat)x(j:Nat)c,L[i]? =some x→x.cells[j]? =some c→aY w St c (f (i*sz+j)))(hh:∀(i:Nat)x(j:Nat)c,M[i]? =some x→x.cells[j]? =some c→aY w St c (h (i*sz+j)))
  (hM:∀x∈M,x.cells.length=sz):aY w St c (if i*sz+j<L.length*sz then f (i*sz+j)else h (i*sz+j-L.length*sz)):=by
 rw[List.getElem?_append]at hx
 have hj:=(List.getElem?_eq_some_iff.1 hc).1
 split at hx
 ·rename_i hi
  rw[hL x (List.mem_of_getElem? hx)]at hj
  have:(i+1)*sz≤L.length*sz:=Nat.mul_le_mul_right _ hi
  rw[Nat.succ_mul]at this
  rw[if_pos (by omega)]
  exact hf i x j c hx hc
 ·rename_i hi
  rw[hM x (List.mem_of_getElem? hx)]at hj
  have h1:L.length*sz≤i*sz:=Nat.mul_le_mul_right _ (by omega)
  rw[if_neg (by omega)]
  have:=hh (i-L.length) x j c hx hc
  have e1:i*sz+j-L.length*sz=(i-L.length)*sz+j:=by rw[Nat.sub_mul];omega
  rw[e1]
  exact this
theorem Inv.grow(hI:Inv gl w0 ao e a w g){ai:List Slot}{lost:Nat→Prop}{dst:Option Nat}(hH:rA e ai lost dst){sz:Nat}{L M:List D}{cap:Nat}{te:TypeId}{eY news rest:List Value}
  (hL:∀x∈L,x.cells.length=sz)(hM:∀x∈M,x.cells.length=sz)(pn:∀x∈L,∀c∈x.cells,c.one=true)(j8:∀x∈M,∀c∈x.cells,c.one=true)
  (ho:eY.length=L.length*sz)(hn:news.length=M.length*sz)(hr:rest.length=(cap-(L.length+M.length))*sz)(bJ:L.length+M.length≤cap)(fD:cap≤maxLen)
  {f h:Nat→Value}(tW:∀j,j<L.length*sz→eY[j]? =some (f j))(sa:∀j,j<M.length*sz→news[j]? =some (h j))
  (hf:∀(i:Nat)x(j:Nat)c,L[i]? =some x→x.cells[j]? =some c→aY w g.St c (f (i*sz+j)))(hh:∀(i:Nat)x(j:Nat)c,M[i]? =some x→x.cells[j]? =some c→aY w g.St c (h (i*sz+j))):
  ∃g',Inv gl w0 ao ⟨cz ai dst (.v (.own sz (L++M))),e.boxes⟩ (a.put dst (.slice (some ⟨w.heap.size,0,none⟩) (L.length+M.length) cap))
   (w.drew.alloc (.cells (eY++news++rest).toArray te)) g':=by
 have hle:w0.heap.size≤w.heap.size:=hI.below.size
 have afN:w.drew.heap=w.heap:=rfl
 have aM:(w.drew.alloc (.cells (eY++news++rest).toArray te)).heap.size =w.heap.size+1:=B8 w.drew _
 have hold:=fun b(hb:b<w.heap.size)=>jc w.drew (.cells (eY++news++rest).toArray te) b hb
 have ku:=wj w.drew (.cells (eY++news++rest).toArray te)
 have wN:∀b o,b<w.heap.size→(w.drew.alloc (.cells (eY++news++rest).toArray te)).cell? ⟨b,o,none⟩=w.cell? ⟨b,o,none⟩:=fun b o hb=>World.cell?_of_block (hold b hb)
 refine⟨{St:=fun b o=>g.St b o∨(b=w.heap.size∧o<(L.length+M.length)*sz),bx:=g.bx,ow:=fun b=>if b=w.heap.size then(dst.map fun d=>.s d 0)else g.ow b},?_⟩
 have hX:Ext w0.heap.size w g (w.drew.alloc (.cells (eY++news++rest).toArray te))
   {St:=fun b o=>g.St b o∨(b=w.heap.size∧o<(L.length+M.length)*sz),bx:=g.bx,ow:=fun b=>if b=w.heap.size then(dst.map fun d=>.s d 0)else g.ow b} (yy lost dst):=by
  refine⟨fun D o hb ho h=>⟨(hold D (fJ h)).trans h,hb,(by
   simp only
   rw[if_neg (by have:=fJ h;omega)];exact ho),fun x hx=>hx.elim id fun e=>(by have:=fJ h;omega)⟩,fun b o h=>⟨.inl h,.qV (hold b (hI.pd h))⟩,fun b o h=>wN b o (by omega),fun _ _ h=>h,fun p b a' c' _ bO=>⟨?_,fun _=>hold b bO.lt⟩,.of fun b hb=>hold b hb⟩
  have aF:=bO.lt
  obtain⟨h1,h2,h3,⟨cur,ty,h4,kZ⟩,h5⟩:=bO
  refine⟨?_,h2,h3,⟨cur,ty,(hold b aF).trans h4,kZ⟩,fun o ho=>?_⟩
  ·simp only
   rw[if_neg (by omega)];exact h1
  ·rintro(h|h)
   ·exact h5 o ho h
   ·omega
 refine hI.hand hH hX ⟨rfl,rfl,rfl,by omega,fun k hk=>hold k (by omega)⟩ (fun d hd=>?_) rfl (fun b hb=>hold b (hI.dn b hb).2) (fun b o h=>?_)
 ·have hlen:(L++M).length =L.length+M.length:=List.length_append
  have cf:(eY++news++rest).toArray.size =cap*sz:=by
   simp only[List.size_toArray,List.length_append,ho,hn,hr]
   rw[←Nat.add_mul,←Nat.add_mul]
   congr 1
   omega
  have bc:=aY.sl (w:=w.drew.alloc (.cells (eY++news++rest).toArray te)) (St:=fun b o=>g.St b o∨(b=w.heap.size∧o<(L.length+M.length)*sz)) sz (L++M) w.heap.size 0 cap
   (fun o=>if o<L.length*sz then f o else h (o-L.length*sz)) (by omega) (by omega) (fun x hx=>(List.mem_append.1 hx).elim (hL x) (hM x)) (fun x hx=>(List.mem_append.1 hx).elim (pn x) (j8 x))
   (fun o bO=>by
     rw[hlen]at bO
     refine⟨?_,.inr ⟨rfl,by omega⟩⟩
     rw[cell_of_row _ w.heap.size (0+o) _ te (0,0) ku]
     simp only[Nat.zero_add,List.getElem?_toArray]
     rw[List.append_assoc,List.getElem?_append]
     split
     ·rename_i h1
      rw[ho]at h1
      rw[if_pos h1];exact tW o h1
     ·rename_i h1
      rw[ho]at h1 ⊢
      rw[if_neg h1]
      have aF:o-L.length*sz<M.length*sz:=by rw[Nat.add_mul]at bO;omega
      rw[List.getElem?_append_left (by rw[hn];exact aF)]
      exact sa _ aF)
   (fun i x j c hx hc=>(E6 hL hx hc hf hh hM).mono fun b o h=>⟨.inl h,wN b o (hI.pd h)⟩)
  rw[hlen]at bc
  refine .v _ _ _ ?_
  have hY:=aJ.own (w:=w.drew.alloc (.cells (eY++news++rest).toArray te)) (St:=fun b o=>g.St b o∨(b=w.heap.size∧o<(L.length+M.length)*sz)) (base:=w0.heap.size)
   (eW w0.heap.size (w.drew.alloc (.cells (eY++news++rest).toArray te)) {St:=fun b o=>g.St b o∨(b=w.heap.size∧o<(L.length+M.length)*sz),bx:=g.bx,ow:=fun b=>if b=w.heap.size then(dst.map fun d=>.s d 0)else g.ow b} d 0)
   sz (L++M) w.heap.size cap (by rw[hlen];exact bc) fD ?_
  ·rw[hlen]at hY;exact hY
  ·refine⟨by simp[hd],hle,fun hb=>by have:=(hI.dn _ hb).2;omega,⟨_,te,ku,cf⟩,fun o ho=>?_⟩
   rw[hlen]at ho
   rintro(h|h)
   ·have:=hI.pd h;omega
   ·omega
 ·rcases h with h|h
  ·have:=hI.cE b o h
   exact⟨this.1,this.2.1,by omega⟩
  ·obtain⟨rfl,_⟩:=h
   exact⟨.inr hle,fun hb=>by have:=(hI.dn _ hb).2;omega,by omega⟩
theorem Inv.room(hI:Inv gl w0 ao e a w g){ai:List Slot}{lost:Nat→Prop}{dst:Option Nat}(hH:rA e ai lost dst){sz:Nat}{L M:List D}{cap gg i0:Nat}{news:List Value}
  (po:eJ w0.heap.size w g (.s i0 0) gg (L.length*sz) (cap*sz))(hl:lost i0)
  (vc:aY w g.St (.sl .ro sz L) (.slice (some ⟨gg,0,none⟩) L.length cap)){cur:Array Value}{te:TypeId}(lG:w.heap[gg]? =some (.cells cur te (0,0)))(cf:cur.size=cap*sz)
  (hM:∀x∈M,x.cells.length=sz)(j8:∀x∈M,∀c∈x.cells,c.one=true)
  (hn:news.length=M.length*sz)(bJ:L.length+M.length≤cap)(fD:cap≤maxLen)
  {h:Nat→Value}(sa:∀j,j<M.length*sz→news[j]? =some (h j))(hh:∀(i:Nat)x(j:Nat)c,M[i]? =some x→x.cells[j]? =some c→aY w g.St c (h (i*sz+j))):
  ∃g',Inv gl w0 ao ⟨cz ai dst (.v (.own sz (L++M))),e.boxes⟩ (a.put dst (.slice (some ⟨gg,0,none⟩) (L.length+M.length) cap))
   (w.setRow gg (cur.toList.take (L.length*sz)++news++cur.toList.drop (L.length*sz+news.length)).toArray) g':=by
 obtain⟨o1,o2,o3,_,o5⟩:=po
 have oD:gg<w.heap.size:=(Array.getElem?_eq_some_iff.1 lG).1
 have nZ:L.length*sz+M.length*sz≤cap*sz:=by rw[←Nat.add_mul];exact Nat.mul_le_mul_right _ bJ
 let w':=w.setRow gg (cur.toList.take (L.length*sz)++news++cur.toList.drop (L.length*sz+news.length)).toArray
 let g':Gh:={St:=fun b o=>g.St b o∨(b=gg∧o<(L.length+M.length)*sz),bx:=g.bx,ow:=fun b=>if b=gg then(dst.map fun d=>.s d 0)else g.ow b}
 have dZ:∀k,k≠gg→w'.heap[k]? =w.heap[k]? :=fun k hk=>setRow_other w gg k _ hk
 have ku:w'.heap[gg]? =some (.cells (cur.toList.take (L.length*sz)++news++cur.toList.drop (L.length*sz+news.length)).toArray te (0,0)):=setRow_heap w gg cur _ te (0,0) lG
 have jn:∀o,w'.cell? ⟨gg,o,none⟩=if o<L.length*sz then cur[o]? else if o<L.length*sz+M.length*sz then news[o-L.length*sz]? else cur[o]? :=by
  intro o
  rw[cell_of_row w' gg o _ te (0,0) ku]
  simp only[List.getElem?_toArray]
  rw[uq cur.toList news (L.length*sz) (by simp[cf,hn];omega)]
  simp only[hn,Array.getElem?_toList]
 have wN:∀b o,(b=gg→o<L.length*sz)→w'.cell? ⟨b,o,none⟩=w.cell? ⟨b,o,none⟩:=by
  intro b o hb
  by_cases lR:b=gg
  ·subst lR
   rw[jn,if_pos (hb rfl),cell_of_row w b o cur te (0,0) lG]
  ·exact World.cell?_of_block (dZ b lR)
 have hX:Ext w0.heap.size w g w' g' (yy lost dst):=by
  refine⟨fun D ob hb eh h=>(have bg:D≠gg:=(fun e=>by rw[e,o1]at eh;cases eh);⟨(dZ D bg).trans h,hb,(by
   show(if D=gg then(dst.map fun d=>Pos.s d 0)else g.ow D)=none
   rw[if_neg bg];exact eh),fun x hx=>hx.elim id fun e=>absurd e.1 bg⟩),fun b o h=>⟨.inl h,wN b o (fun hb=>?_),fun es c hm=>(dZ b (fun hb=>by rw[hb,lG]at hm;cases hm)).trans hm⟩,fun b o hb=>wN b o (fun h=>by omega),fun _ _ h=>h,fun p b a' c' hp bO=>?_,fun b c ty _ hb=>(by
   by_cases lR:b=gg
   ·subst lR
    rw[lG]at hb;cases hb
    refine⟨_,_,ku,?_⟩
    have de:cur.toList.length=cap*sz:=by simpa using cf
    rw[List.size_toArray,List.length_append,List.length_append,List.length_take,List.length_drop,hn,de,cf];omega
   ·exact⟨c,ty,(dZ b lR).trans hb,rfl⟩)⟩
  ·subst hb
   rcases Nat.lt_or_ge o (L.length*sz)with h1|h1
   ·exact h1
   ·exact absurd h (o5 o h1)
  ·obtain⟨h1,h2,h3,⟨n8,ty,h4,kZ⟩,h5⟩:=bO
   have lR:b≠gg:=by
    rintro rfl
    rw[o1]at h1
    cases h1
    exact hp ⟨i0,0,rfl,.inl hl⟩
   refine⟨⟨?_,h2,h3,⟨n8,ty,(dZ b lR).trans h4,kZ⟩,fun o ho=>?_⟩,fun _=>dZ b lR⟩
   ·show(if b=gg then(dst.map fun d=>Pos.s d 0)else g.ow b)=some p
    rw[if_neg lR];exact h1
   ·rintro(h|h)
    ·exact h5 o ho h
    ·exact lR h.1
 refine⟨g',hI.hand hH hX ⟨rfl,rfl,rfl,by simp[w',World.setRow],fun k hk=>dZ k (by omega)⟩ (fun d hd=>?_) rfl (fun b hb=>dZ b (fun h=>o3 (h▸hb))) (fun b o h=>?_)⟩
 ·have hlen:(L++M).length =L.length+M.length:=List.length_append
  cases vc with
  |j6 _ _ _ ha=>exact absurd rfl ha
  |sl _ _ _ _ _ vs afO hm hL pn aP hc=>
   have bc:=aY.sl (w:=w') (St:=g'.St) sz (L++M) gg 0 cap
    (fun o=>if o<L.length*sz then vs o else h (o-L.length*sz)) (by omega) (by omega) (fun x hx=>(List.mem_append.1 hx).elim (hL x) (hM x)) (fun x hx=>(List.mem_append.1 hx).elim (pn x) (j8 x))
    (fun o bO=>by
      rw[hlen,Nat.add_mul]at bO
      refine⟨?_,.inr ⟨rfl,by rw[Nat.add_mul];omega⟩⟩
      rw[Nat.zero_add,jn]
      split
      ·rename_i h1
       have:=(aP o h1).1
       rw[Nat.zero_add,cell_of_row w gg o cur te (0,0) lG]at this
       exact this
      ·rename_i h1
       exact sa _ (by omega))
    (fun i x j c hx iY=>(E6 hL hx iY hc hh hM).mono hX.SY)
   refine .v _ _ _ ?_
   have hY:=aJ.own (w:=w') (St:=g'.St) (base:=w0.heap.size) (eW w0.heap.size w' g' d 0) sz (L++M) gg cap (by rw[hlen]at bc ⊢;exact bc) fD ?_
   ·rw[hlen]at hY;exact hY
   ·refine⟨by simp[g',hd],o2,o3,⟨_,te,ku,?_⟩,fun o ho=>?_⟩
    ·have de:cur.toList.length=cap*sz:=by simpa using cf
     rw[List.size_toArray,List.length_append,List.length_append,List.length_take,List.length_drop,hn,de];omega
    ·rw[hlen]at ho
     have:L.length*sz≤(L.length+M.length)*sz:=Nat.mul_le_mul_right _ (by omega)
     rintro(h|h)
     ·exact o5 o (by omega) h
     ·omega
 ·have hs:w'.heap.size=w.heap.size:=by simp[w',World.setRow]
  rcases h with h|h
  ·have:=hI.cE b o h
   exact⟨this.1,this.2.1,by omega⟩
  ·obtain⟨rfl,_⟩:=h
   exact⟨.inr o2,o3,by omega⟩
theorem Inv.RU(hI:Inv gl w0 ao e a w g){ai:List Slot}{lost:Nat→Prop}{dst:Option Nat}(hH:rA e ai lost dst){sz:Nat}{L M:List D}{cap:Nat}{te:TypeId}{eY news rest:List Value}
  (hL:∀x∈L,x.cells.length=sz)(hM:∀x∈M,x.cells.length=sz)(pn:∀x∈L,∀c∈x.cells,c.one=true)(j8:∀x∈M,∀c∈x.cells,c.one=true)
  (ho:eY.length=L.length*sz)(hn:news.length=M.length*sz)(hr:rest.length=(cap-(L.length+M.length))*sz)(bJ:L.length+M.length≤cap)(fD:cap≤maxLen)
  {f h:Nat→Value}(tW:∀j,j<L.length*sz→eY[j]? =some (f j))(sa:∀j,j<M.length*sz→news[j]? =some (h j))
  (hf:∀(i:Nat)x(j:Nat)c,L[i]? =some x→x.cells[j]? =some c→aY w g.St c (f (i*sz+j)))(hh:∀(i:Nat)x(j:Nat)c,M[i]? =some x→x.cells[j]? =some c→aY w g.St c (h (i*sz+j))):
  ∃g',Inv gl w0 ao ⟨cz ai dst (.v (.bt sz (L++M))),e.boxes⟩ (a.put dst (.slice (some ⟨w.heap.size,0,none⟩) (L.length+M.length) cap))
   (w.drew.alloc (.cells (eY++news++rest).toArray te)) g':=by
 have hle:w0.heap.size≤w.heap.size:=hI.below.size
 have aM:(w.drew.alloc (.cells (eY++news++rest).toArray te)).heap.size =w.heap.size+1:=B8 w.drew _
 have hold:=fun b(hb:b<w.heap.size)=>jc w.drew (.cells (eY++news++rest).toArray te) b hb
 have ku:=wj w.drew (.cells (eY++news++rest).toArray te)
 have wN:∀b o,b<w.heap.size→(w.drew.alloc (.cells (eY++news++rest).toArray te)).cell? ⟨b,o,none⟩=w.cell? ⟨b,o,none⟩:=fun b o hb=>World.cell?_of_block (hold b hb)
 let g':Gh:={St:=g.St,bx:=g.bx,ow:=fun b=>if b=w.heap.size then(dst.map fun d=>.s d 0)else g.ow b}
 have hX:Ext w0.heap.size w g (w.drew.alloc (.cells (eY++news++rest).toArray te)) g' (yy lost dst):=by
  refine⟨fun D o hb ho h=>⟨(hold D (fJ h)).trans h,hb,(by
   show(if D=w.heap.size then(dst.map fun d=>Pos.s d 0)else g.ow D)=none
   rw[if_neg (by have:=fJ h;omega)];exact ho),fun x hx=>hx⟩,fun b o h=>⟨h,.qV (hold b (hI.pd h))⟩,fun b o h=>wN b o (by omega),fun _ _ h=>h,fun p b a' c' _ bO=>⟨?_,fun _=>hold b bO.lt⟩,.of fun b hb=>hold b hb⟩
  have aF:=bO.lt
  obtain⟨h1,h2,h3,⟨cur,ty,h4,kZ⟩,h5⟩:=bO
  refine⟨?_,h2,h3,⟨cur,ty,(hold b aF).trans h4,kZ⟩,h5⟩
  show(if b=w.heap.size then(dst.map fun d=>Pos.s d 0)else g.ow b)=some p
  rw[if_neg (by omega)];exact h1
 refine⟨g',hI.hand hH hX ⟨rfl,rfl,rfl,by omega,fun k hk=>hold k (by omega)⟩ (fun d hd=>?_) rfl (fun b hb=>hold b (hI.dn b hb).2) (fun b o h=>?_)⟩
 ·have hlen:(L++M).length =L.length+M.length:=List.length_append
  have cf:(eY++news++rest).toArray.size =cap*sz:=by
   simp only[List.size_toArray,List.length_append,ho,hn,hr]
   rw[←Nat.add_mul,←Nat.add_mul]
   congr 1
   omega
  refine .v _ _ _ ?_
  have hm:=aJ.bt (w:=w.drew.alloc (.cells (eY++news++rest).toArray te)) (St:=g.St) (base:=w0.heap.size) (eW w0.heap.size (w.drew.alloc (.cells (eY++news++rest).toArray te)) g' d 0)
   sz (L++M) w.heap.size cap (fun o=>if o<L.length*sz then f o else h (o-L.length*sz)) (by omega) fD (fun x hx=>(List.mem_append.1 hx).elim (hL x) (hM x)) (fun x hx=>(List.mem_append.1 hx).elim (pn x) (j8 x))
   ⟨by simp[g',hd],hle,fun hb=>by have:=(hI.dn _ hb).2;omega,⟨_,te,ku,cf⟩,fun o _ hs=>by have:=hI.pd hs;omega⟩
   (fun o bO=>by
     rw[hlen]at bO
     rw[cell_of_row _ w.heap.size o _ te (0,0) ku]
     simp only[List.getElem?_toArray]
     rw[List.append_assoc,List.getElem?_append]
     split
     ·rename_i h1
      rw[ho]at h1
      rw[if_pos h1];exact tW o h1
     ·rename_i h1
      rw[ho]at h1 ⊢
      rw[if_neg h1]
      have aF:o-L.length*sz<M.length*sz:=by rw[Nat.add_mul]at bO;omega
      rw[List.getElem?_append_left (by rw[hn];exact aF)]
      exact sa _ aF)
   (fun i x j c hx hc=>(E6 hL hx hc hf hh hM).mono fun b o h=>⟨h,wN b o (hI.pd h)⟩)
  rw[hlen]at hm
  exact hm
 ·have:=hI.cE b o h
  exact⟨this.1,this.2.1,by omega⟩
theorem Inv.adB(hI:Inv gl w0 ao e a w g){ai:List Slot}{lost:Nat→Prop}{dst:Option Nat}(hH:rA e ai lost dst){sz:Nat}{L M:List D}{cap gg i0:Nat}{news:List Value}
  (po:eJ w0.heap.size w g (.s i0 0) gg 0 (cap*sz))(hl:lost i0){vs:Nat→Value}
  (hL:∀x∈L,x.cells.length=sz)(pn:∀x∈L,∀c∈x.cells,c.one=true)(aP:∀(o:Nat),o<L.length*sz→w.cell? ⟨gg,o,none⟩=some (vs o))
  (hc:∀(i:Nat)x(j:Nat)c,L[i]? =some x→x.cells[j]? =some c→aY w g.St c (vs (i*sz+j))){cur:Array Value}{te:TypeId}(lG:w.heap[gg]? =some (.cells cur te (0,0)))(cf:cur.size=cap*sz)
  (hM:∀x∈M,x.cells.length=sz)(j8:∀x∈M,∀c∈x.cells,c.one=true)
  (hn:news.length=M.length*sz)(bJ:L.length+M.length≤cap)(fD:cap≤maxLen)
  {h:Nat→Value}(sa:∀j,j<M.length*sz→news[j]? =some (h j))(hh:∀(i:Nat)x(j:Nat)c,M[i]? =some x→x.cells[j]? =some c→aY w g.St c (h (i*sz+j))):
  ∃g',Inv gl w0 ao ⟨cz ai dst (.v (.bt sz (L++M))),e.boxes⟩ (a.put dst (.slice (some ⟨gg,0,none⟩) (L.length+M.length) cap))
   (w.setRow gg (cur.toList.take (L.length*sz)++news++cur.toList.drop (L.length*sz+news.length)).toArray) g':=by
 obtain⟨o1,o2,o3,_,o5⟩:=po
 have oD:gg<w.heap.size:=(Array.getElem?_eq_some_iff.1 lG).1
 have nZ:L.length*sz+M.length*sz≤cap*sz:=by rw[←Nat.add_mul];exact Nat.mul_le_mul_right _ bJ
 let w':=w.setRow gg (cur.toList.take (L.length*sz)++news++cur.toList.drop (L.length*sz+news.length)).toArray
 let g':Gh:={St:=g.St,bx:=g.bx,ow:=fun b=>if b=gg then(dst.map fun d=>.s d 0)else g.ow b}
 have dZ:∀k,k≠gg→w'.heap[k]? =w.heap[k]? :=fun k hk=>setRow_other w gg k _ hk
 have ku:w'.heap[gg]? =some (.cells (cur.toList.take (L.length*sz)++news++cur.toList.drop (L.length*sz+news.length)).toArray te (0,0)):=setRow_heap w gg cur _ te (0,0) lG
 have jn:∀o,w'.cell? ⟨gg,o,none⟩=if o<L.length*sz then cur[o]? else if o<L.length*sz+M.length*sz then news[o-L.length*sz]? else cur[o]? :=by
  intro o
  rw[cell_of_row w' gg o _ te (0,0) ku]
  simp only[List.getElem?_toArray]
  rw[uq cur.toList news (L.length*sz) (by simp[cf,hn];omega)]
  simp only[hn,Array.getElem?_toList]
 have aew:∀b o,g.St b o→b≠gg:=fun b o h e=>by subst e;exact o5 o (Nat.zero_le _) h
 have RV:(cur.toList.take (L.length*sz)++news++cur.toList.drop (L.length*sz+news.length)).toArray.size =cap*sz:=by
  have de:cur.toList.length=cap*sz:=by simpa using cf
  rw[List.size_toArray,List.length_append,List.length_append,List.length_take,List.length_drop,hn,de];omega
 have hX:Ext w0.heap.size w g w' g' (yy lost dst):=by
  refine⟨fun D ob hb eh h=>(have bg:D≠gg:=(fun e=>by rw[e,o1]at eh;cases eh);⟨(dZ D bg).trans h,hb,(by
   show(if D=gg then(dst.map fun d=>Pos.s d 0)else g.ow D)=none
   rw[if_neg bg];exact eh),fun x hx=>hx⟩),fun b o h=>⟨h,.qV (dZ b (aew b o h))⟩,fun b o hb=>World.cell?_of_block (dZ b (fun h=>by omega)),fun _ _ h=>h,fun p b a' c' hp bO=>?_,fun b c ty _ hb=>(by
   by_cases lR:b=gg
   ·subst lR
    rw[lG]at hb;cases hb
    exact⟨_,_,ku,RV.trans cf.symm⟩
   ·exact⟨c,ty,(dZ b lR).trans hb,rfl⟩)⟩
  obtain⟨h1,h2,h3,⟨n8,ty,h4,kZ⟩,h5⟩:=bO
  have lR:b≠gg:=by
   rintro rfl
   rw[o1]at h1
   cases h1
   exact hp ⟨i0,0,rfl,.inl hl⟩
  refine⟨⟨?_,h2,h3,⟨n8,ty,(dZ b lR).trans h4,kZ⟩,h5⟩,fun _=>dZ b lR⟩
  show(if b=gg then(dst.map fun d=>Pos.s d 0)else g.ow b)=some p
  rw[if_neg lR];exact h1
 refine⟨g',hI.hand hH hX ⟨rfl,rfl,rfl,by simp[w',World.setRow],fun k hk=>dZ k (by omega)⟩ (fun d hd=>?_) rfl (fun b hb=>dZ b (fun h=>o3 (h▸hb))) (fun b o h=>?_)⟩
 ·have hlen:(L++M).length =L.length+M.length:=List.length_append
  refine .v _ _ _ ?_
  have hm:=aJ.bt (w:=w') (St:=g.St) (base:=w0.heap.size) (eW w0.heap.size w' g' d 0)
   sz (L++M) gg cap (fun o=>if o<L.length*sz then vs o else h (o-L.length*sz)) (by omega) fD (fun x hx=>(List.mem_append.1 hx).elim (hL x) (hM x)) (fun x hx=>(List.mem_append.1 hx).elim (pn x) (j8 x))
   ⟨by simp[g',hd],o2,o3,⟨_,te,ku,RV⟩,fun o _ hs=>o5 o (Nat.zero_le _) hs⟩
   (fun o bO=>by
     rw[hlen,Nat.add_mul]at bO
     rw[jn]
     split
     ·rename_i h1
      have:=aP o h1
      rw[cell_of_row w gg o cur te (0,0) lG]at this
      exact this
     ·rename_i h1
      exact sa _ (by omega))
   (fun i x j c hx iY=>(E6 hL hx iY hc hh hM).mono hX.SY)
  rw[hlen]at hm
  exact hm
 ·have hs:w'.heap.size=w.heap.size:=by simp[w',World.setRow]
  have:=hI.cE b o h
  exact⟨this.1,this.2.1,by omega⟩
theorem WJ{t:TypeId}{z:List D}(h:nD P t=some z):∃i zv,P.info? t=some i∧i.zero=some zv∧zv.cells.size=z.length:=by
 unfold nD at h
 split at h
 ·rename_i i hi
  split at h
  ·rename_i zv hz
   exact⟨i,zv,hi,hz,by have:=(B4 (w:=default) (St:=fun _ _=>False) h).1;simpa using this.symm⟩
  ·cases h
 ·cases h
theorem EA(z:Array Value)(n:Nat):∃l:List Value,Builtin.zeroCells z n=l.toArray∧l.length=n*z.size:=by
 refine⟨(Builtin.zeroCells z n).toList,by simp,by simp[size_zeroCells]⟩
theorem VZ(hI:Inv gl w0 ao e a w g){ai:List Slot}{lost:Nat→Prop}{dst:Option Nat}(hH:rA e ai lost dst){t ty e':TypeId}{i:TypeInfo}{zv:Value}{sz:Nat}
  (ht:P.underlying t=some (.slice e'))(hi:P.info? e'=some i)(hz:i.zero=some zv)(aM:i.size=sz)(gp:zv.cells.size=sz)(Bb:0<sz)
  {sx sy:SV}{vx vy:Value}{O Oy:Nat→Nat→Nat→Prop}(rx:aJ w g.St w0.heap.size O sx vx)(ry:aJ w g.St w0.heap.size Oy sy vy)
  (hO:∀b a' c,O b a' c→∃i0,eJ w0.heap.size w g (.s i0 0) b a' c∧lost i0){r:SV}{n:Nat}(h:kq sz sx sy=some (r,n))(hb:n*i.bytes≤140737488355328)(k7:0<i.bytes):
  ∃v w' g',(Builtin.append_ #[t,t] ty #[vx,vy]).run P w=.ok v w'∧Inv gl w0 ao ⟨cz ai dst (.v r),e.boxes⟩ (a.put dst v) w' g':=by
 subst aM
 unfold kq at h
 split at h
 ·cases h
 ·rename_i M hM
  have hy:=NO hM ry
  have adC:M=[]→vy=.slice none 0 0∨∃ad c,vy=.slice (some ad) 0 c:=by
   intro hm
   subst hm
   rcases hy with⟨h,_⟩|⟨b,off,cap,vs,h,_⟩
   ·exact h
   ·exact .inr ⟨_,_,h⟩
  have same:∀(base:Option Addr)(m cap:Nat),M=[]→m≤cap→vx=.slice base m cap→∀(r:SV)(g':Gh),Ext w0.heap.size w g w g' (yy lost dst)→g'.bx=g.bx→g'.St=g.St→
    (∀d,dst=some d→aJ w g'.St w0.heap.size (eW w0.heap.size w g' d 0) r vx)→
    ∃v w' g',(Builtin.append_ #[t,t] ty #[vx,vy]).run P w=.ok v w'∧Inv gl w0 ao ⟨cz ai dst (.v r),e.boxes⟩ (a.put dst v) w' g':=by
   intro base m cap hm hle hv r g' hX dA aS hr
   refine⟨vx,w,g',by rw[hv];exact Vb ht hi base m cap hle (adC hm),hI.hand hH hX (Below.refl _ _) (fun d hd=>.v _ _ _ (hr d hd)) dA (fun _ _=>rfl) (fun b o h=>?_)⟩
   rw[aS]at h
   exact hI.cE b o h
  have grow:∀(L:List D)(ad:Addr)(cap:Nat),M≠[]→vx=.slice (some ad) L.length cap→aY w g.St (.sl .ro i.size L) vx→cap<L.length+M.length→(L.length+M.length)*i.bytes≤140737488355328→
    ∃v w' g',(Builtin.append_ #[t,t] ty #[vx,vy]).run P w=.ok v w'∧Inv gl w0 ao ⟨cz ai dst (.v (.own i.size (L++M))),e.boxes⟩ (a.put dst v) w' g':=by
   intro L ad cap hm hv hL aF ef
   rcases hy with⟨_,h0⟩|⟨b,off,vd,ys,qo,_,_,kE,j8,xu,jH⟩
   ·exact absurd h0 hm
   ·rw[hv]at hL
    cases hL with
    |j6 _ _ _ ha=>
     obtain⟨news,nl,nc,ng⟩:=xT (w:=w) (n:=M.length) (sz:=i.size) (vs:=ys) xu
     have bu:(0+M.length)*1≤(0+M.length)*i.bytes:=Nat.mul_le_mul_left _ k7
     simp only[List.length_nil]at aF ef
     have lF:0+M.length≤maxLen:=by simp only[maxLen];omega
     have ba:=run_append_grow (P:=P) w t ty e' i zv ht hi hz ad 0 cap [] (by simp) (by simp) ⟨b,off,none⟩ M.length vd news nl nc aF (by omega) (growslice_fits aF ef)
     obtain⟨rest,vL,xv⟩:=EA zv.cells (grownCap w (0+M.length) cap e'-(0+M.length))
     rw[vL]at ba
     have kD:=grownCap_ge w (0+M.length) cap e'
     obtain⟨g',ie⟩:=hI.grow hH (sz:=i.size) (L:=[]) (M:=M) (cap:=grownCap w (0+M.length) cap e') (te:=e') (eY:=[]) (news:=news) (rest:=rest) (f:=fun _=>.bool false) (by simp) kE (by simp) j8 (by simp) nl (by rw[xv,gp];rfl) kD
      (grownCap_le_maxLen w _ cap e' lF) (by simp) ng (by simp) jH
     refine⟨_,_,g',by rw[hv,qo];exact ba,?_⟩
     simpa using ie
    |sl _ _ bx ox _ vs bJ bQ DH pn gF sc=>
     obtain⟨eY,ol,oc,og⟩:=xT (w:=w) (n:=L.length) (sz:=i.size) (vs:=vs) gF
     obtain⟨news,nl,nc,ng⟩:=xT (w:=w) (n:=M.length) (sz:=i.size) (vs:=ys) xu
     have bu:(L.length+M.length)*1≤(L.length+M.length)*i.bytes:=Nat.mul_le_mul_left _ k7
     have lF:L.length+M.length≤maxLen:=by simp only[maxLen];omega
     have ba:=run_append_grow (P:=P) w t ty e' i zv ht hi hz ⟨bx,ox,none⟩ L.length cap eY ol oc ⟨b,off,none⟩ M.length vd news nl nc aF (by omega) (growslice_fits aF ef)
     obtain⟨rest,vL,xv⟩:=EA zv.cells (grownCap w (L.length+M.length) cap e'-(L.length+M.length))
     rw[vL]at ba
     have kD:=grownCap_ge w (L.length+M.length) cap e'
     obtain⟨g',ie⟩:=hI.grow hH (sz:=i.size) (L:=L) (M:=M) (cap:=grownCap w (L.length+M.length) cap e') (te:=e') (eY:=eY) (news:=news) (rest:=rest) DH kE pn j8 ol nl (by rw[xv,gp]) kD
      (grownCap_le_maxLen w _ cap e' lF) og ng sc jH
     refine⟨_,_,g',by rw[hv,qo];exact ba,?_⟩
     simpa using ie
  split at h
  ·
   rename_i s L
   split at h
   ·rename_i hs
    cases h
    subst hs
    cases rx with
    |own _ _ _ gg cap vc fD ho=>
     obtain⟨i0,po,hl⟩:=hO _ _ _ ho
     by_cases hm:M=[]
     ·subst hm
      simp only[List.append_nil]
      have bJ:L.length≤cap:=by cases vc with|sl _ _ _ _ _ _ bJ=>exact bJ|j6 _ _ _ ha=>exact absurd rfl ha
      cases dst with
      |none=>
       refine same _ _ _ rfl bJ rfl _ g ⟨fun _ _ hb ho h=>⟨h,hb,ho,fun _ h=>h⟩,fun _ _ h=>(by first|exact⟨h,rfl⟩|exact⟨h,.refl _ _ _⟩),fun _ _ _=>rfl,fun _ _ h=>h,fun _ _ _ _ _ h=>⟨h,.refl _ _ _⟩,.refl _⟩ rfl rfl (fun d hd=>by cases hd)
      |some d=>
       refine same _ _ _ rfl bJ rfl _ (g.mv gg (.s d 0)) (Ext.mv po hl _ _) rfl rfl (fun d' hd=>?_)
       cases hd
       refine .own _ i.size L gg cap vc fD ?_
       obtain⟨_,h2,h3,h4,h5⟩:=po
       exact⟨by simp[Gh.mv],h2,h3,h4,h5⟩
     ·by_cases uW:L.length+M.length≤cap
      ·rcases hy with⟨_,h0⟩|⟨b,off,vd,ys,qo,_,_,kE,j8,xu,jH⟩
       ·exact absurd h0 hm
       ·obtain⟨news,nl,nc,ng⟩:=xT (w:=w) (n:=M.length) (sz:=i.size) (vs:=ys) xu
        have Ks:=po
        obtain⟨_,_,_,⟨cur,te,lG,cf⟩,_⟩:=Ks
        have oz:∀u∈news,u.oneCell'=true:=by
         intro u hu
         obtain⟨j,hj⟩:=List.mem_iff_getElem?.1 hu
         have ju:j<M.length*i.size:=by rw[←nl];exact(List.getElem?_eq_some_iff.1 hj).1
         rw[ng j ju]at hj
         cases hj
         have hq:j / i.size<M.length:=Nat.div_lt_of_lt_mul (by rw[Nat.mul_comm];exact ju)
         have yS:=Nat.mod_lt j Bb
         have eb:M[j / i.size]∈M:=List.getElem_mem hq
         have de:=kE _ eb
         have hc:(M[j / i.size]).cells[j % i.size]? =some ((M[j / i.size]).cells[j % i.size]'(by omega)):=by simp
         have:=jH (j / i.size) _ (j % i.size) _ (List.getElem?_eq_getElem hq) hc
         rw[Nat.mul_comm,Nat.div_add_mod]at this
         exact this.rb (j8 _ eb _ (List.getElem_mem _))
        have nZ:L.length*i.size+news.length≤cur.size:=by rw[nl,cf,←Nat.add_mul];exact Nat.mul_le_mul_right _ uW
        have ba:=Ng (P:=P) (w:=w) (ty:=ty) ht hi lG (ad:=⟨b,off,none⟩) (m:=M.length) (c:=vd) news nl nc oz uW nZ
        obtain⟨g',ie⟩:=hI.room hH po hl vc lG cf kE j8 nl uW fD ng jH
        exact⟨_,_,g',by rw[qo];exact ba,ie⟩
      ·exact grow L ⟨gg,0,none⟩ cap hm rfl vc (by omega) hb
   ·cases h
  ·
   rename_i s L
   split at h
   ·rename_i hs
    subst hs
    cases rx with
    |full _ _ _ ad vc=>
     split at h
     ·rename_i hm
      cases h
      exact same _ _ _ hm (Nat.le_refl _) rfl _ g ⟨fun _ _ hb ho h=>⟨h,hb,ho,fun _ h=>h⟩,fun _ _ h=>(by first|exact⟨h,rfl⟩|exact⟨h,.refl _ _ _⟩),fun _ _ _=>rfl,fun _ _ h=>h,fun _ _ _ _ _ h=>⟨h,.refl _ _ _⟩,.refl _⟩ rfl rfl (fun d hd=>.full _ i.size L ad vc)
     ·rename_i hm
      cases h
      have:0<M.length:=List.length_pos_iff.2 hm
      exact grow L ad L.length hm rfl vc (by omega) hb
   ·cases h
  ·
   have hd:=rx.data
   split at h
   ·rename_i hm
    cases h
    cases hd
    exact same none 0 0 hm (Nat.le_refl _) rfl _ g ⟨fun _ _ hb ho h=>⟨h,hb,ho,fun _ h=>h⟩,fun _ _ h=>(by first|exact⟨h,rfl⟩|exact⟨h,.refl _ _ _⟩),fun _ _ _=>rfl,fun _ _ h=>h,fun _ _ _ _ _ h=>⟨h,.refl _ _ _⟩,.refl _⟩ rfl rfl (fun d hd=>.d _ _ _ (.ir _))
   ·rename_i hm
    cases h
    cases hd
    rcases hy with⟨_,h0⟩|⟨b,off,vd,ys,qo,_,_,kE,j8,xu,jH⟩
    ·exact absurd h0 hm
    ·obtain⟨news,nl,nc,ng⟩:=xT (w:=w) (n:=M.length) (sz:=i.size) (vs:=ys) xu
     have h0:0<M.length:=List.length_pos_iff.2 hm
     have bu:M.length*1≤M.length*i.bytes:=Nat.mul_le_mul_left _ k7
     have lF:M.length≤maxLen:=by simp only[maxLen];omega
     have ba:=run_append_nil (P:=P) w t ty e' i zv ht hi hz ⟨b,off,none⟩ M.length vd news nl nc h0 (by omega) (by omega)
     obtain⟨rest,vL,xv⟩:=EA zv.cells (grownCap w M.length 0 e'-M.length)
     rw[vL]at ba
     have kD:=grownCap_ge w M.length 0 e'
     rename_i mk _ _
     cases sd:Nat.beq mk gM with
     |false=>
      obtain⟨g',ie⟩:=hI.grow hH (sz:=i.size) (L:=[]) (M:=M) (cap:=grownCap w M.length 0 e') (te:=e') (eY:=[]) (news:=news) (rest:=rest) (by simp) kE (by simp) j8 (by simp) nl (by rw[xv,gp];simp) (by simpa using kD)
       (grownCap_le_maxLen w _ 0 e' lF) (f:=fun _=>undef) (by simp) ng (by simp) jH
      refine⟨_,_,g',by rw[qo];exact ba,?_⟩
      simpa using ie
     |true=>
      obtain⟨g',ie⟩:=hI.RU hH (sz:=i.size) (L:=[]) (M:=M) (cap:=grownCap w M.length 0 e') (te:=e') (eY:=[]) (news:=news) (rest:=rest) (by simp) kE (by simp) j8 (by simp) nl (by rw[xv,gp];simp) (by simpa using kD)
       (grownCap_le_maxLen w _ 0 e' lF) (f:=fun _=>undef) (by simp) ng (by simp) jH
      refine⟨_,_,g',by rw[qo];exact ba,?_⟩
      simpa using ie
  ·
   rename_i s L
   split at h
   ·rename_i hs
    cases h
    subst hs
    cases rx with
    |bt _ _ _ gg cap vs bJ fD DH pn ho gF sc=>
     obtain⟨i0,po,hl⟩:=hO _ _ _ ho
     by_cases hm:M=[]
     ·subst hm
      simp only[List.append_nil]
      cases dst with
      |none=>
       refine same _ _ _ rfl bJ rfl _ g ⟨fun _ _ hb ho h=>⟨h,hb,ho,fun _ h=>h⟩,fun _ _ h=>⟨h,.refl _ _ _⟩,fun _ _ _=>rfl,fun _ _ h=>h,fun _ _ _ _ _ h=>⟨h,.refl _ _ _⟩,.refl _⟩ rfl rfl (fun d hd=>by cases hd)
      |some d=>
       refine same _ _ _ rfl bJ rfl _ (g.mv gg (.s d 0)) (Ext.mv po hl _ _) rfl rfl (fun d' hd=>?_)
       cases hd
       refine .bt _ i.size L gg cap vs bJ fD DH pn ?_ gF sc
       obtain⟨_,h2,h3,h4,h5⟩:=po
       exact⟨by simp[Gh.mv],h2,h3,h4,h5⟩
     ·rcases hy with⟨_,h0⟩|⟨b,off,vd,ys,qo,_,_,kE,j8,xu,jH⟩
      ·exact absurd h0 hm
      ·obtain⟨news,nl,nc,ng⟩:=xT (w:=w) (n:=M.length) (sz:=i.size) (vs:=ys) xu
       have Ks:=po
       obtain⟨_,_,_,⟨cur,te,lG,cf⟩,_⟩:=Ks
       by_cases uW:L.length+M.length≤cap
       ·have oz:∀u∈news,u.oneCell'=true:=by
         intro u hu
         obtain⟨j,hj⟩:=List.mem_iff_getElem?.1 hu
         have ju:j<M.length*i.size:=by rw[←nl];exact(List.getElem?_eq_some_iff.1 hj).1
         rw[ng j ju]at hj
         cases hj
         have hq:j / i.size<M.length:=Nat.div_lt_of_lt_mul (by rw[Nat.mul_comm];exact ju)
         have yS:=Nat.mod_lt j Bb
         have eb:M[j / i.size]∈M:=List.getElem_mem hq
         have de:=kE _ eb
         have hc:(M[j / i.size]).cells[j % i.size]? =some ((M[j / i.size]).cells[j % i.size]'(by omega)):=by simp
         have:=jH (j / i.size) _ (j % i.size) _ (List.getElem?_eq_getElem hq) hc
         rw[Nat.mul_comm,Nat.div_add_mod]at this
         exact this.rb (j8 _ eb _ (List.getElem_mem _))
        have nZ:L.length*i.size+news.length≤cur.size:=by rw[nl,cf,←Nat.add_mul];exact Nat.mul_le_mul_right _ uW
        have ba:=Ng (P:=P) (w:=w) (ty:=ty) ht hi lG (ad:=⟨b,off,none⟩) (m:=M.length) (c:=vd) news nl nc oz uW nZ
        obtain⟨g',ie⟩:=hI.adB hH po hl DH pn gF sc lG cf kE j8 nl uW fD ng jH
        exact⟨_,_,g',by rw[qo];exact ba,ie⟩
       ·obtain⟨eY,ol,oc,og⟩:=xT (w:=w) (b:=gg) (off:=0) (St:=fun _ _=>True) (n:=L.length) (sz:=i.size) (vs:=vs) (fun o ho=>⟨by rw[Nat.zero_add];exact gF o ho,trivial⟩)
        have bu:(L.length+M.length)*1≤(L.length+M.length)*i.bytes:=Nat.mul_le_mul_left _ k7
        have lF:L.length+M.length≤maxLen:=by simp only[maxLen];omega
        have ba:=run_append_grow (P:=P) w t ty e' i zv ht hi hz ⟨gg,0,none⟩ L.length cap eY ol oc ⟨b,off,none⟩ M.length vd news nl nc (by omega) (by omega) (growslice_fits (by omega) hb)
        obtain⟨rest,vL,xv⟩:=EA zv.cells (grownCap w (L.length+M.length) cap e'-(L.length+M.length))
        rw[vL]at ba
        have kD:=grownCap_ge w (L.length+M.length) cap e'
        obtain⟨g',ie⟩:=hI.RU hH (sz:=i.size) (L:=L) (M:=M) (cap:=grownCap w (L.length+M.length) cap e') (te:=e') (eY:=eY) (news:=news) (rest:=rest) DH kE pn j8 ol nl (by rw[xv,gp]) kD
         (grownCap_le_maxLen w _ cap e' lF) og ng sc jH
        refine⟨_,_,g',by rw[qo];exact ba,?_⟩
        simpa using ie
   ·cases h
  ·cases h
end
end Go.Proofs.Ytimbllcalipehaa.Ab
namespace Go.Proofs.Ytimbllcalipehaa.Ab
open Go Go.RowKit
section
variable{P:Program}{gl:Nat→Option D}{w0:World}{ao:S0}{e:Env}{a:Act}{w:World}{g:Gh}
theorem zW(f:Slot→SV):∀(l:List Slot),(jd f l).length =l.length∧∀(i:Nat),(jd f l)[i]? =(l[i]?).map f
 |[]=>⟨rfl,fun i=>by simp[jd]⟩
 |s::l=>by
  obtain⟨h1,h2⟩:=zW f l
  refine⟨by simp[jd,h1],fun i=>?_⟩
  cases i with
  |zero=>rfl
  |succ i=>simp only[jd,List.getElem?_cons_succ];exact h2 i
theorem aJ.xX{St:Nat→Nat→Prop}{base yB:Nat}(hb:base≤yB){O:Nat→Nat→Nat→Prop}{y:SV}{v:Value}(h:aJ w St base O y v):aJ w St yB O y v:=by
 induction h with
 |d O x v hd=>exact .d O x v hd
 |own O sz L gg cap hd bJ ho=>exact .own O sz L gg cap hd bJ ho
 |full O sz L ad hd=>exact .full O sz L ad hd
 |ref O cs off b o vs eg aP _ ih=>exact .ref O cs off b o vs (Nat.lt_of_lt_of_le eg hb) aP ih
 |cG O n sz cs b cap vs eg hn hm aP _ ih=>exact .cG O n sz cs b cap vs (Nat.lt_of_lt_of_le eg hb) hn hm aP ih
 |aT O x off b o vs hf aP hc=>exact .aT O x off b o vs hf aP hc
 |di O f first cap fv cv h1 h2 _ _ ih1 ih2=>exact .di O f first cap fv cv h1 h2 ih1 ih2
 |bt O sz L gg cap vs h1 h2 h3 h4 h5 h6 h7=>exact .bt O sz L gg cap vs h1 h2 h3 h4 h5 h6 h7
 |mp O l r es clock hh hs hl hc=>exact .mp O l r es clock hh hs hl hc
 |undef O v=>exact .undef O v
theorem PD(hI:Inv gl w0 ao e a w g):∀(n:Nat){O:Nat→Nat→Nat→Nat→Prop}{s:Slot}{v:Value},cg w0.heap.size w g O s v→aJ w g.St w.heap.size (fun _ _ _=>False) (snap e.boxes n s) v:=by
 have up:∀{O x v},aJ w g.St w0.heap.size O x v→aJ w g.St w.heap.size (fun _ _ _=>False) (aa x) v:=by
  intro O x v h
  exact(h.aa (O':=fun _ _ _=>False)).xX hI.below.size
 intro n
 induction n with
 |zero=>intro O s v _;exact .undef _ _
 |succ n ih=>
  intro O s v h
  cases h with
  |a _ b m sz v hm hb=>
   obtain⟨aj,cap,hb,bJ,rfl,fD,_⟩:=hb
   simp only[snap]
   split
   ·rename_i cs cf
    obtain⟨h0,c,t,hc,cq,hlen,bc⟩:=hI.boxes b _ aj cf hb
    have dB:=(hI.dn aj (List.mem_of_getElem? hb)).2
    exact aJ.cG (w:=w) (St:=g.St) (base:=w.heap.size) (fun _ _ _=>False) m sz (cs.map aa) aj cap (fun i=>c.getD i undef) dB bJ fD
     (fun i hi=>by
       have vK:i<cs.length:=by simpa using hi
       have eE:i<c.size:=Nat.lt_of_lt_of_le vK hlen
       rw[cell_of_row w aj (0+i) c t (0,0) hc]
       simp[eE]
       exact cq i _ vK (by simp))
     (fun i x hx=>by
       simp only[List.getElem?_map,Option.map_eq_some_iff]at hx
       obtain⟨y,hy,rfl⟩:=hx
       have eE:i<c.size:=Nat.lt_of_lt_of_le (List.getElem?_eq_some_iff.1 hy).1 hlen
       have h1:=bc i y c[i] hy (by simp)
       have h2:=up h1
       simpa[eE]using h2)
   ·exact .undef _ _
  |m _ b aj hb=>simp only[snap];exact .undef _ _
  |v _ x _ h=>simp only[snap];exact up h
  |p _ b off aj hb=>
   simp only[snap]
   split
   ·rename_i cs cf
    obtain⟨h0,c,t,hc,cq,hlen,bc⟩:=hI.boxes b _ aj cf hb
    have dB:=(hI.dn aj (List.mem_of_getElem? hb)).2
    have:=aJ.ref (w:=w) (St:=g.St) (base:=w.heap.size) (fun _ _ _=>False) (cs.map aa) off aj 0 (fun i=>c.getD i undef) dB
     (fun i hi=>by
       have vK:i<cs.length:=by simpa using hi
       have eE:i<c.size:=Nat.lt_of_lt_of_le vK hlen
       rw[cell_of_row w aj (0+i) c t (0,0) hc]
       simp[eE]
       exact cq i _ vK (by simp))
     (fun i x hx=>by
       simp only[List.getElem?_map,Option.map_eq_some_iff]at hx
       obtain⟨y,hy,rfl⟩:=hx
       have eE:i<c.size:=Nat.lt_of_lt_of_le (List.getElem?_eq_some_iff.1 hy).1 hlen
       have h1:=bc i y c[i] hy (by simp)
       have h2:=up h1
       simpa[eE]using h2)
    simpa using this
   ·rename_i s' ml
    obtain⟨h0,c,t,hc,cq,hlen,bc⟩:=hI.boxes b _ aj ml hb
    have dB:=(hI.dn aj (List.mem_of_getElem? hb)).2
    have oE:c[0]? =some (c[0]'(by omega)):=by simp
    have:=aJ.ref (w:=w) (St:=g.St) (base:=w.heap.size) (fun _ _ _=>False) [snap e.boxes n s'] off aj 0 (fun i=>c.getD i undef) dB
     (fun i hi=>by
       simp at hi;subst hi
       rw[cell_of_row w aj (0+0) c t (0,0) hc]
       simp[hlen]
       exact cq 0 _ Nat.one_pos (by simp))
     (fun i x hx=>by
       cases i with
       |succ i=>simp at hx
       |zero=>
        simp at hx;subst hx
        have:=ih (bc _ oE)
        simpa[hlen]using this)
    simpa using this
   ·exact .undef _ _
  |c _ f first cap fv cv hf hc rf rc=>
   simp only[snap]
   obtain⟨l1,g1⟩:=zW (snap e.boxes n) first
   obtain⟨l2,g2⟩:=zW (snap e.boxes n) cap
   refine .di _ f _ _ fv cv (l1.trans hf) (l2.trans hc) (fun i x v hx hv=>?_) (fun i x v hx hv=>?_)
   ·rw[g1,Option.map_eq_some_iff]at hx
    obtain⟨y,hy,rfl⟩:=hx
    exact ih (rf i y v hy hv)
   ·rw[g2,Option.map_eq_some_iff]at hx
    obtain⟨y,hy,rfl⟩:=hx
    exact ih (rc i y v hy hv)
  |t _ xs vs _ _=>simp only[snap];exact .undef _ _
theorem Oe(aA:List af)(ρ:Operand→Slot):∀(l:List Operand),(iq aA ρ l).length =l.length∧∀(i:Nat),(iq aA ρ l)[i]? =(l[i]?).map fun x=>snap aA 6 (ρ x)
 |[]=>⟨rfl,fun i=>by simp[iq]⟩
 |s::l=>by
  obtain⟨h1,h2⟩:=Oe aA ρ l
  refine⟨by simp[iq,h1],fun i=>?_⟩
  cases i with
  |zero=>rfl
  |succ i=>simp only[iq,List.getElem?_cons_succ];exact h2 i
def s3(w:World)(St:Nat→Nat→Prop)(args:List SV)(vs:Array Value):Prop:=
 args.length=vs.size∧∀(i:Nat)x v,args[i]? =some x→vs[i]? =some v→aJ w St w.heap.size (fun _ _ _=>False) x v
theorem s3.append{St:Nat→Nat→Prop}{xs ys:List SV}{us vs:Array Value}(h:s3 w St xs us)(k:s3 w St ys vs):s3 w St (xs++ys) (us++vs):=by
 refine⟨by simp[h.1,k.1],fun i x v hx hv=>?_⟩
 rw[List.getElem?_append]at hx
 rw[Array.getElem?_append]at hv
 split at hx
 ·rename_i hi
  rw[if_pos (by rw[←h.1];exact hi)]at hv
  exact h.2 i x v hx hv
 ·rename_i hi
  rw[if_neg (by rw[←h.1];exact hi),←h.1]at hv
  exact k.2 _ x v hx hv
theorem IK(hI:Inv gl w0 ao e a w g)(l:Array Operand):s3 w g.St (iq e.boxes (fun x=>(Ab.aV gl e x).aa) l.toList) (l.map a.eval):=by
 obtain⟨h1,h2⟩:=Oe e.boxes (fun x=>(Ab.aV gl e x).aa) l.toList
 refine⟨by rw[h1];simp,fun i x v hx hv=>?_⟩
 rw[h2,Option.map_eq_some_iff]at hx
 obtain⟨y,hy,rfl⟩:=hx
 rw[Array.getElem?_toList]at hy
 simp only[Array.getElem?_map,hy,Option.map_some,Option.some.injEq]at hv
 subst hv
 exact PD hI 6 (hI.aV y)
theorem Nz(hI:Inv gl w0 ao e a w g){l:List Slot}{vs:Array Value}(hl:l.length=vs.size)(h:∀(i:Nat)x v,l[i]? =some x→vs[i]? =some v→cg w0.heap.size w g (fun _ _ _ _=>False) x v):
  s3 w g.St (jd (snap e.boxes 6) l) vs:=by
 obtain⟨h1,h2⟩:=zW (snap e.boxes 6) l
 refine⟨h1.trans hl,fun i x v hx hv=>?_⟩
 rw[h2,Option.map_eq_some_iff]at hx
 obtain⟨y,hy,rfl⟩:=hx
 exact PD hI 6 (h i y v hy hv)
theorem Inv.called(hI:Inv gl w0 ao e a w g){w':World}{bH:Nat→Nat→Prop}{ow:Nat→Option Nat}(hb:Below w.heap.size w w')(h1:∀b o,g.St b o→bH b o)
  (h2:∀b o,bH b o→g.St b o∨(w.heap.size≤b∧b<w'.heap.size))(dst:Option Nat){s:Slot}{v:Value}
  (hs:∀g':Gh,g'.St=bH→(∀d,dst=some d→∀j b a c,va w.heap.size w' bH ow j b a c→eJ w0.heap.size w' g' (.s d j) b a c)→∀d,dst=some d→cg w0.heap.size w' g' (eW w0.heap.size w' g' d) s v):
  ∃g',Inv gl w0 ao ⟨cz e.ai dst s,e.boxes⟩ (a.put dst v) w' g':=by
 have hle:w0.heap.size≤w.heap.size:=hI.below.size
 let g':Gh:={St:=bH,bx:=g.bx,ow:=fun b=>if w.heap.size≤b then(ow b).bind fun j=>dst.map fun d=>Pos.s d j else g.ow b}
 refine⟨g',hI.FR (g':=g') ⟨fun D o js ho h=>⟨(hb.block D (fJ h)).trans h,js,(by
  show(if w.heap.size≤D then(ow D).bind fun j=>dst.map fun d=>Pos.s d j else g.ow D)=none
  rw[if_neg (by have:=fJ h;omega)];exact ho),fun x hx=>(h2 D x hx).elim id fun e=>(by have:=fJ h;omega)⟩,fun b o h=>⟨h1 b o h,.qV (hb.block b (hI.pd h))⟩,fun b o h=>World.cell?_of_block (hb.block b (by omega)),fun _ _ h=>h,fun p b a' c _ ho=>⟨?_,fun _=>hb.block b ho.lt⟩,.of fun b h=>hb.block b h⟩ hb (hs g' rfl (fun d hd j b a c hr=>?_)) rfl h2⟩
 ·have aF:=ho.lt
  obtain⟨o1,o2,o3,⟨cur,te,o4,qq⟩,o5⟩:=ho
  refine⟨?_,o2,o3,⟨cur,te,(hb.block b aF).trans o4,qq⟩,fun o bO aS=>?_⟩
  ·show(if w.heap.size≤b then(ow b).bind fun j=>dst.map fun d=>Pos.s d j else g.ow b)=some p
   rw[if_neg (by omega)];exact o1
  ·rcases h2 b o aS with h|h
   ·exact o5 o bO h
   ·omega
 ·obtain⟨r1,r2,r3,r4⟩:=hr
  refine⟨?_,by omega,fun hm=>by have:=(hI.dn b hm).2;omega,r3,r4⟩
  show(if w.heap.size≤b then(ow b).bind fun j=>dst.map fun d=>Pos.s d j else g.ow b)=_
  rw[if_pos r2,r1,hd]
  rfl
theorem Cz:∀{n:Nat}{k:List SV→Prop},xm n k→∃rs,rs.length=n∧k rs
 |0,_,h=>⟨[],rfl,h⟩
 |n+1,_,h=>by
  obtain⟨r,h⟩:=h
  obtain⟨rs,hl,h⟩:=Cz h
  exact⟨r::rs,by simp[hl],h⟩
theorem EN(hI:Inv gl w0 ao e a w g){o:Oper}{n:Nat}{k:Slot→List af→Prop}{f:FuncId}{args:List SV}{vs:Array Value}(hr:s3 w g.St args vs)
  (ba:lu P f→(execOp a.eval o).run P w=.ok (.enter f vs) w)(h:nT (aD P gl) n e.boxes k f args):bp P gl w0 ao e.ai o a w k:=by
 intro next Q hn
 have S7:lE args=none:=OU fun x l hx=>by
  have hlen:=hr.1
  rw[hx]at hlen
  have h0:0<vs.size:=by rw[←hlen];simp
  have:=hr.2 0 (.aH x) vs[0] (by rw[hx];rfl) (by simp[h0])
  cases this
 have go:∀(r:SV)(s:Slot),CN P gl f args r→(∀(w':World)(v:Value)(bH:Nat→Nat→Prop)(ow:Nat→Option Nat),uL w.heap.size w' bH ow r v→∀g':Gh,g'.St=bH→
   ∀d,(∀j b a c,va w.heap.size w' bH ow j b a c→eJ w0.heap.size w' g' (.s d j) b a c)→cg w0.heap.size w' g' (eW w0.heap.size w' g' d) s v)→k s e.boxes→o.wp P a w next Q:=by
  intro r s hH bc hk
  obtain⟨hE,hH⟩:=hH
  unfold Oper.wp
  rw[ba hE]
  refine(hH w g.St vs (fun b o h=>hI.pd h) hI.j3 hr.1 hr.2).mono fun en w'⟨v,he,hb,bH,ow,h1,h2,h3⟩=>?_
  subst he
  obtain⟨g',ie⟩:=hI.called hb h1 h2 o.dst (s:=s) (v:=v) (fun g' iX hO d hd=>bc w' v bH ow h3 g' iX d (hO d hd))
  exact hn s v e.boxes w' g' ie hk
 unfold nT at h
 split at h
 ·obtain⟨r,hH,ht,hk⟩:=h
  rw[xW S7]at hH
  refine go r (.v r) hH (fun w' v bH ow h3 g' iX d hO=>.v _ _ _ ?_) hk
  have oF:aJ w' bH 0 (va w.heap.size w' bH ow 0) r v:=by
   cases r<;>first|exact h3|simp[uS]at ht
  have:=(oF.xX (Nat.zero_le w0.heap.size))
  rw[←iX]at this
  exact this.mono (fun _ _ h=>(by first|exact⟨h,rfl⟩|exact⟨h,.refl _ _ _⟩)) (fun _ _ _=>rfl) _ (fun b a c h=>⟨hO 0 b a c (by rw[iX]at h;exact h),.refl _ _ _⟩)
 ·rename_i oz
  obtain⟨rs,hlen,hH,hk⟩:=Cz h
  rw[xW S7]at hH
  refine go (.aH rs) (.t rs) hH (fun w' v bH ow h3 g' iX d hO=>?_) hk
  obtain⟨tv,rfl,hl,hc⟩:=h3
  refine .t _ rs tv hl fun j x y hx hy=>?_
  have:=((hc j x y hx hy).xX (Nat.zero_le w0.heap.size))
  rw[←iX]at this
  exact this.mono (fun _ _ h=>(by first|exact⟨h,rfl⟩|exact⟨h,.refl _ _ _⟩)) (fun _ _ _=>rfl) _ (fun b a c h=>⟨hO j b a c (by rw[iX]at h;exact h),.refl _ _ _⟩)
theorem Xv(hI:Inv gl w0 ao e a w g){o:Oper}{c:Call}(ho:o.op=.call c){f:Operand}(hc:c.callee=.value f){n:Nat}{k:Slot→List af→Prop}
  (h:match(Ab.aV gl e f).aa with
    | .v x=>withFn x (iq e.boxes (fun x=>(Ab.aV gl e x).aa) c.args.toList) (nT (aD P gl) n e.boxes k)
    | .c (.func g') first cap=>nT (aD P gl) n e.boxes k g' (jd (snap e.boxes 6) first++iq e.boxes (fun x=>(Ab.aV gl e x).aa) c.args.toList++jd (snap e.boxes 6) cap)
    |_=>False):bp P gl w0 ao e.ai o a w k:=by
 have eF:=IK hI c.args
 have ba:∀{f':FuncId}{first cap:Array Value},a.eval f=.func (.func f') first cap→lu P f'→(execOp a.eval o).run P w=.ok (.enter f' (first++c.args.map a.eval++cap)) w:=by
  intro f' first cap hv hE
  simp[execOp,ho,resolve,hc,hv,Deferred.ofValue,invoke,hE _ w]
 split at h
 ·rename_i x hx
  have hf:=hI.pj hx
  unfold withFn at h
  split at h
  ·rename_i f'
   have hv:a.eval f=.func (.func f') #[] #[]:=by
    have:=hf.data
    generalize a.eval f=u at this
    cases this;rfl
   refine EN hI eF (fun hE=>?_) h
   rw[ba hv hE];simp
  ·rename_i f' first cap
   generalize hv:a.eval f=u at hf
   cases hf with
   |di _ _ _ _ fv cv vE rU rf rc=>
    have up:∀{xs:List SV}{vs:Array Value},xs.length=vs.size→(∀(i:Nat)x v,xs[i]? =some x→vs[i]? =some v→aJ w g.St w0.heap.size (fun _ _ _=>False) x v)→s3 w g.St xs vs:=
     fun hl hr=>⟨hl,fun i x v hx hv=>(hr i x v hx hv).xX hI.below.size⟩
    exact EN hI (((up vE rf).append eF).append (up rU rc)) (fun hE=>ba hv hE) h
  ·exact h.elim
 ·rename_i f' first cap hs
  have hf:=hI.mj hs
  generalize hv:a.eval f=u at hf
  cases hf with
  |c _ _ _ _ fv cv vE rU rf rc=>exact EN hI (((Nz hI vE rf).append eF).append (Nz hI rU rc)) (fun hE=>ba hv hE) h
 ·exact h.elim
theorem YG{t:TypeId}{name:String}{f:FuncId}(h:AV P t name=some f)(fuel:Nat)(v:Value):(Go.method (fuel+1) t v name).run P w=.ok (f,v) w:=by
 unfold AV at h
 split at h
 ·rename_i i hi
  split at h
  ·rename_i m hm
   split at h
   ·rename_i f' hp hf
    have afP:m.path= #[]:=by
     have:m.path.toList=[]:=hp
     exact Array.toList_eq_nil_iff.mp this
    split at h
    ·cases h
    ·rename_i u xr hu
     cases h
     have mZ:(underlying t).run P w=.ok u w:=run_underlying hu w
     have gH:(typeInfo t).run P w=.ok i w:=by simp[typeInfo,go_sem,hi]
     have Bw:(follow ([]:List FieldStep) t (.val v)).run P w=.ok (t,.val v) w:=by simp[follow]
     have vL:∀s,(receiverAt t (.val v) false s).run P w=.ok v w:=by
      intro s
      unfold receiverAt
      simp only[Sem.run_bind,mZ,Result.andThen_ok]
      cases u<;>first|exact(xr _ rfl).elim |simp[Place.get]
     unfold Go.method
     simp only[Sem.run_bind,gH,Result.andThen_ok,hm,hp,Bw,hf,vL,Sem.run_pure]
    ·cases h
   ·cases h
  ·cases h
 ·cases h
theorem V0(hI:Inv gl w0 ao e a w g){o:Oper}{c:Call}(ho:o.op=.call c){f:Operand}{name:String}(hc:c.callee=.invoke f name){n:Nat}{k:Slot→List af→Prop}
  (h:match(Ab.aV gl e f).aa with
    | .v x=>wv P x name (iq e.boxes (fun x=>(Ab.aV gl e x).aa) c.args.toList) (nT (aD P gl) n e.boxes k)
    |_=>False):bp P gl w0 ao e.ai o a w k:=by
 have eF:=IK hI c.args
 split at h
 ·rename_i x hx
  have hf:=hI.pj hx
  unfold wv at h
  split at h
  ·rename_i t y
   obtain⟨f',kB,h⟩:=aI h
   have hd:=hf.data
   generalize hv:a.eval f=u at hd
   cases hd with
   |iface _ _ v hy=>
    have hr:s3 w g.St (.d y::iq e.boxes (fun x=>(Ab.aV gl e x).aa) c.args.toList) (#[v]++c.args.map a.eval):=by
     have h1:s3 w g.St [SV.d y] #[v]:=⟨rfl,fun i x v' hx gn=>by
      cases i with
      |zero=>simp at hx gn;subst hx gn;exact .d _ _ _ hy
      |succ i=>simp at hx⟩
     exact h1.append eF
    refine EN hI hr (fun hE=>?_) h
    have hmr:=YG (P:=P) (w:=w) kB (P.types.size+99) v
    have adD:=hE (#[v]++c.args.map a.eval) w
    have h3:(callMethod (.iface t v) name (c.args.map a.eval)).run P w=.ok (.enter f' (#[v]++c.args.map a.eval)) w:=by
     unfold callMethod
     simp only[Sem.run_bind,run_program,Result.andThen_ok,Made.depth]
     rw[hmr]
     simp only[Result.andThen_ok]
     exact adD
    have e2:∀l:Array Value,(#[Value.iface t v]++l)[0]? =some (.iface t v):=fun l=>by simp[Array.getElem?_append]
    have e3:∀l:Array Value,(#[Value.iface t v]++l).extract 1 (#[Value.iface t v]++l).size =l:=fun l=>by
     apply Array.ext'
     simp[List.take_of_length_le]
    have h4:(invoke (.fn (.method name) #[]) (#[.iface t v]++c.args.map a.eval)).run P w=.ok (.enter f' (#[v]++c.args.map a.eval)) w:=by
     unfold invoke
     simp only[e2,e3]
     exact h3
    simp only[execOp,ho,resolve,hc,hv,Sem.run_bind,Sem.run_pure,Result.andThen_ok]
    exact h4
  ·exact h.elim
 ·exact h.elim
theorem HL(f:Int→Int→Int)(op:Value→Value→Sem Value)(iC:∀k a b,op (.int k a) (.int k b)=pure (.int k (f a b)))(hf:∀a b,f a b=a∨f a b=b):
  ∀(l:List SV)(vs:List Value)(x:SV)(vx:Value)(r:SV),x7 f x l=some r→aJ w g.St w0.heap.size (fun _ _ _=>False) x vx→l.length=vs.length→
   (∀(i:Nat)y v,l[i]? =some y→vs[i]? =some v→aJ w g.St w0.heap.size (fun _ _ _=>False) y v)→
   ∃v,(vs.foldlM op vx).run P w=.ok v w∧aJ w g.St w0.heap.size (fun _ _ _=>False) r v
 |[],[],x,vx,r,h,hx,_,_=>by
  unfold x7 at h
  split at h
  ·cases h;exact⟨vx,rfl,hx⟩
  ·rename_i heq;cases heq
  ·cases h
 |y::l,v::vs,x,vx,r,h,hx,hl,hr=>by
  unfold x7 at h
  split at h
  ·rename_i heq;cases heq
  ·rename_i k n k' n' l' heq
   cases heq
   split at h
   ·rename_i hk
    subst hk
    have hy:=hr 0 _ v rfl rfl
    obtain⟨ex,wx⟩:=hx.data.re
    obtain⟨ey,wy⟩:=hy.data.re
    rw[ex,ey]
    have hw:ga k (f n n')=true:=by rcases hf n n' with h|h<;>rw[h]<;>assumption
    obtain⟨u,hu,vH⟩:=HL f op iC hf l vs _ (.int k (f n n')) r h (.d _ _ _ (.int _ _ hw)) (by simpa using hl) (fun i y u h1 h2=>hr (i+1) y u (by simpa using h1) (by simpa using h2))
    refine⟨u,?_,vH⟩
    rw[List.foldlM_cons,iC]
    exact hu
   ·cases h
  ·cases h
 |[],_::_,_,_,_,_,_,h,_=>by simp at h
 |_::_,[],_,_,_,_,_,h,_=>by simp at h
theorem PE(hI:Inv gl w0 ao e a w g){o:Oper}{c:Call}(ho:o.op=.call c){b:Builtin}(hc:c.callee=.builtin b){x:Operand}{xs:List Operand}(hx:c.args.toList=x::xs){f:Int→Int→Int}
  (hb:(b=.min ∧f=minD)∨(b=.max ∧f=maxD)){k:Slot→List af→Prop}
  (h:ab (x7 f ((Ab.aV gl e x).aa).bU (xs.map fun y=>((Ab.aV gl e y).aa).bU)) fun r=>k (.v r) e.boxes):bp P gl w0 ao e.ai o a w k:=by
 obtain⟨r,hr,hk⟩:=aI h
 have eF:(c.args.map a.eval).toList =a.eval x::xs.map a.eval:=by rw[Array.toList_map,hx];rfl
 have FT:∀(i:Nat)y v,(xs.map fun y=>((Ab.aV gl e y).aa).bU)[i]? =some y→(xs.map a.eval)[i]? =some v→aJ w g.St w0.heap.size (fun _ _ _=>False) y v:=by
  intro i y v hy hv
  simp only[List.getElem?_map,Option.map_eq_some_iff]at hy hv
  obtain⟨z,hz,rfl⟩:=hy
  obtain⟨z',fm,rfl⟩:=hv
  rw[hz]at fm;cases fm
  exact hI.g7 z
 rcases hb with⟨rfl,rfl⟩|⟨rfl,rfl⟩
 ·obtain⟨v,hv,Ls⟩:=HL (P:=P) (w0:=w0) minD Builtin.min2 (fun k a b=>rfl) (fun a b=>by unfold minD;split<;>simp) _ (xs.map a.eval) _ (a.eval x) r hr (hI.g7 x) (by simp) FT
  refine bp.eQ hI (v:=v) ?_ Ls hk
  have e1:Builtin.min_ c.argTypes o.type (c.args.map a.eval)=(xs.map a.eval).foldlM Builtin.min2 (a.eval x):=by unfold Builtin.min_;rw[eF]
  simp[execOp,ho,resolve,hc,invoke,builtin,e1,hv]
 ·obtain⟨v,hv,Ls⟩:=HL (P:=P) (w0:=w0) maxD Builtin.max2 (fun k a b=>rfl) (fun a b=>by unfold maxD;split<;>simp) _ (xs.map a.eval) _ (a.eval x) r hr (hI.g7 x) (by simp) FT
  refine bp.eQ hI (v:=v) ?_ Ls hk
  have e1:Builtin.max_ c.argTypes o.type (c.args.map a.eval)=(xs.map a.eval).foldlM Builtin.max2 (a.eval x):=by unfold Builtin.max_;rw[eF]
  simp[execOp,ho,resolve,hc,invoke,builtin,e1,hv]
end
end Go.Proofs.Ytimbllcalipehaa.Ab
namespace Go.Proofs.Ytimbllcalipehaa.Ab
open Go Go.RowKit
theorem OY{P:Program}{t:TypeId}{z:D}(h:tc P t=some z):∃zv:Value,(∀w:World,(zeroValue t).run P w=.ok zv w)∧∀(w:World)(St:Nat→Nat→Prop),aY w St z zv:=by
 unfold tc at h
 split at h
 ·rename_i i hi
  split at h
  ·rename_i zv hz
   exact⟨zv,fun w=>by simp[zeroValue,typeInfo,hi,hz],fun w St=>z2 h⟩
  ·cases h
 ·cases h
def KS.cT:KS→D
 | .bool b=>.bool b
 | .int k n=>.int k n
 | .str s=>.str s
theorem OZ:∀{ks:List CK}{cs:List D}{l:List KS},tF ks cs=some l→cs=l.map KS.cT∧dP ks cs=true
 |[],[],l,h=>by simp only[tF,Option.some.injEq]at h;subst h;exact⟨rfl,rfl⟩
 |[],_::_,l,h=>by simp[tF]at h
 |k::ks,[],l,h=>by cases k<;>simp[tF]at h
 |k::ks,c::cs,l,h=>by
  cases k<;>cases c<;>simp only[tF,reduceCtorEq]at h
  all_goals
   split at h
   ·rename_i r hr
    cases h
    obtain⟨h1,h2⟩:=OZ hr
    exact⟨by simp[KS.cT,h1],by simpa[dP]using h2⟩
   ·cases h
theorem O0:∀{ks:List CK}{l m:List KS},dP ks (l.map KS.cT)=true→KS.jA l m=true→dP ks (m.map KS.cT)=true
 |[],[],[],_,_=>rfl
 |_::_,[],[],h,_=>by simpa using h
 |[],x::l,y::m,h,_=>by cases x<;>simp[KS.cT,dP]at h
 |k::ks,x::l,y::m,h,h2=>by
  simp only[KS.jA,Bool.and_eq_true]at h2
  cases k<;>cases x<;>cases y<;>simp only[List.map_cons,KS.cT,dP,KS.same,Bool.false_eq_true,false_and,reduceCtorEq]at h h2 ⊢
  all_goals exact O0 h h2.2
 |_,[],_::_,_,h=>by simp[KS.jA]at h
 |_,_::_,[],_,h=>by simp[KS.jA]at h
theorem Of:∀{l m:List KS},KS.jA l m=true→fA (l.map KS.cT) (m.map KS.cT)=some (decide (l=m))
 |[],[],_=>by simp[fA]
 |x::l,y::m,h=>by
  simp only[KS.jA,Bool.and_eq_true]at h
  have ih:=Of h.2
  have hx:mJ x.cT y.cT=some (decide (x=y)):=by
   cases x<;>cases y<;>simp only[KS.same,Bool.false_eq_true,false_and]at h
   ·rename_i a b;simp only[KS.cT,mJ,KS.bool.injEq];congr 1
   ·rename_i k a k' b
    have hk:k=k':=by simpa using h.1
    subst hk
    simp only[KS.cT,mJ,if_true,KS.int.injEq,true_and];congr 1
   ·rename_i a b;simp only[KS.cT,mJ,KS.str.injEq];congr 1
    rw[Bool.eq_iff_iff];simp
  simp only[List.map_cons,fA,hx,ih,List.cons.injEq]
  rw[←Bool.decide_and]
 |[],_::_,h=>by simp[KS.jA]at h
 |_::_,[],h=>by simp[KS.jA]at h
theorem u4.rep{w:World}{St:Nat→Nat→Prop}{k:KS}{v:Value}(h:u4 k v):aY w St k.cT v:=by
 cases k with
 |bool b=>subst h;exact .bool b
 |int k n=>obtain⟨rfl,h⟩:=h;exact .int k n h
 |str s=>obtain⟨b,rfl,rfl,h⟩:=h;exact .str b h
theorem u4.of{w:World}{St:Nat→Nat→Prop}{k:KS}{v:Value}(h:aY w St k.cT v):u4 k v:=by
 cases k with
 |bool b=>cases h;rfl
 |int k n=>cases h;exact⟨rfl,by assumption⟩
 |str s=>obtain⟨b,e1,e2,e3⟩:=h.uA;exact⟨b,e1,e2.symm,e3⟩
theorem Jh{w:World}{St:Nat→Nat→Prop}{l:List KS}{v:Value}(h:(MK.s l).Is v):g9 w St true (l.map KS.cT) v:=by
 obtain⟨vs,rfl,h1,h2⟩:=h
 simp only[g9,if_true]
 refine⟨vs,rfl,by simp[h1],fun i x v hx hv=>?_⟩
 rw[List.getElem?_map,Option.map_eq_some_iff]at hx
 obtain⟨k,hk,rfl⟩:=hx
 exact(h2 i k v hk hv).rep
theorem abu{w:World}{St:Nat→Nat→Prop}{l:List KS}{vs:Array Value}(h:km w St (l.map KS.cT) vs):(MK.s l).Is (.agg vs):=by
 refine⟨vs,rfl,by have:=h.1;simpa using this.symm,fun i k u hk hu=>?_⟩
 exact u4.of (h.2 i k.cT u (by rw[List.getElem?_map,hk];rfl) hu)
def J8:Option (List CK)→MK→Prop
 |none,n=>∃m,n=.i m
 |some ks,n=>∃l,n=.s l∧dP ks (l.map KS.cT)=true
def Ku(P:Program)(kt:TypeId):Option (List CK)→Prop
 |none=>∃k,P.underlying kt=some (.int k)
 |some ks=>∃fs,P.underlying kt=some (.struct fs)∧shapeOf P 20 kt=some ks∧CX P fs.toList=true
theorem Og{P:Program}{t et:TypeId}{kd:Option (List CK)}(h:AA P t=some (et,kd)):∃kt,P.underlying t=some (.map kt et)∧Ku P kt kd:=by
 unfold AA at h
 split at h
 ·rename_i kt et' hu
  split at h
  ·rename_i k hk;cases h;exact⟨kt,hu,k,hk⟩
  ·rename_i fs hk
   split at h
   ·rename_i ks gG
    cases hf:CX P fs.toList with
    |true=>rw[hf]at h;cases h;exact⟨kt,hu,fs,hk,gG,hf⟩
    |false=>rw[hf]at h;cases h
   ·cases h
  ·cases h
 ·cases h
def RW(l:List (MK×D))(n:MK)(es:List MapEntry)(i:Nat)(r:Option (Nat×Value)):Prop:=
 (kQ l n=none∧r=none)∨∃j x y,r=some (i+j,y.val)∧l[j]? =some x∧es[j]? =some y∧kQ l n=some x.2∧x.1=n∧∀(m:Nat)z,m<j→l[m]? =some z→n≠z.1
theorem Ji{n:MK}{S:List MapEntry→Nat→Option (Nat×Value)→Prop}(h0:∀i,S [] i none)(zj:∀(x:MK×D)e es i,x.1.Is e.key→n.same x.1=true→n=x.1→S (e::es) i (some (i,e.val)))
  (Sj:∀(x:MK×D)e es i r,x.1.Is e.key→n.same x.1=true→n≠x.1→S es (i+1) r→S (e::es) i r):∀(es:List MapEntry)(l:List (MK×D))(i:Nat),l.length=es.length→
    (∀(j:Nat)x y,l[j]? =some x→es[j]? =some y→x.1.Is y.key)→s6 l n=true→∃r,S es i r∧RW l n es i r
 |[],l,i,hl,_,_=>by
  have:l=[]:=List.eq_nil_of_length_eq_zero hl
  subst this
  exact⟨none,h0 i,.inl ⟨rfl,rfl⟩⟩
 |e::es,[],i,hl,_,_=>by simp at hl
 |e::es,x::l,i,hl,hk,hs=>by
  simp only[s6,List.all_cons,Bool.and_eq_true]at hs
  have he:=hk 0 x e rfl rfl
  by_cases h:n=x.1
  ·exact⟨some (i,e.val),zj x e es i he hs.1 h,.inr ⟨0,x,e,rfl,rfl,rfl,by rw[kQ,if_pos h],h.symm,fun m z hm=>by omega⟩⟩
  ·obtain⟨r,h1,h2⟩:=Ji h0 zj Sj es l (i+1) (by simpa using hl) (fun j x y a b=>hk (j+1) x y (by simpa using a) (by simpa using b)) hs.2
   refine⟨r,Sj x e es i r he hs.1 h h1,?_⟩
   rcases h2 with⟨h2,h3⟩|⟨j,x',y,a,b,c,d,d',f⟩
   ·exact .inl ⟨by rw[kQ,if_neg h];exact h2,h3⟩
   ·refine .inr ⟨j+1,x',y,by rw[a];congr 2;omega,by simpa using b,by simpa using c,by rw[kQ,if_neg h];exact d,d',fun m z hm hz=>?_⟩
    cases m with
    |zero=>simp at hz;subst hz;exact h
    |succ m=>exact f m z (by omega) (by simpa using hz)
theorem NR{P:Program}{w:World}{kt:TypeId}{kd:Option (List CK)}(sf:Ku P kt kd){n:MK}{kv:Value}(hn:n.Is kv)(eh:J8 kd n)
  (es:List MapEntry)(l:List (MK×D))(hl:l.length=es.length)(hk:∀(j:Nat)x y,l[j]? =some x→es[j]? =some y→x.1.Is y.key)(hs:s6 l n=true):
  ∃r,(Instr.findKey kt kv es).run P w=.ok r w∧RW l n es 0 r:=by
 cases kd with
 |none=>
  obtain⟨k,hu⟩:=sf
  obtain⟨m,rfl⟩:=eh
  obtain⟨rfl,_⟩:=hn
  obtain⟨r,h1,h2⟩:=Ji (n:=.i m) (S:=fun es i r=>Instr.findNow (.int k) (.int .i64 m) es i=some r) (fun i=>rfl)
   (fun x e es i he dO hx=>by
     rw[←hx]at he
     rw[Instr.findNow,show e.key=_ from he.1];simp[Instr.sameNow])
   (fun x e es i r he dO hx hr=>by
     cases ib:x.1 with
     |i m'=>
      rw[ib]at he hx
      rw[Instr.findNow,show e.key=_ from he.1]
      have:(m==m')=false:=by simpa using fun h=>hx (by rw[h])
      simp[Instr.sameNow,this,hr]
     |s l=>rw[ib]at dO;cases dO) es l 0 hl hk hs
  exact⟨r,by simp[Instr.findKey,run_underlying hu,h1],h2⟩
 |some ks=>
  obtain⟨fs,hu,aU,_⟩:=sf
  obtain⟨kl,rfl,j7⟩:=eh
  have zh:dJ P kt=some true:=by simp[dJ,hu]
  have heq:∀(l':List KS)(v:Value),(MK.s l').Is v→KS.jA kl l'=true→(Op.equal kt kv v).run P w=.ok (decide (kl=l')) w:=fun l' v hv hs=>
   HB (g:=⟨fun _ _=>False,[],fun _=>none⟩) 20 10000 kt ks true _ _ kv v _ aU (by omega) zh j7 (O0 j7 hs) (Jh hn) (Jh hv) (Of hs)
  obtain⟨r,h1,h2⟩:=Ji (n:=.s kl) (S:=fun es i r=>(Instr.findAsking kt kv es i).run P w=.ok r w) (fun i=>rfl)
   (fun x e es i he dO hx=>by
     rw[←hx]at he dO
     rw[Instr.findAsking]
     simp[heq kl _ he dO])
   (fun x e es i r he dO hx hr=>by
     cases ib:x.1 with
     |s l'=>
      rw[ib]at he hx dO
      rw[Instr.findAsking]
      have:decide (kl=l')=false:=by simpa using fun h=>hx (by rw[h])
      simp[heq l' _ he dO,this,hr]
     |i m=>rw[ib]at dO;cases dO) es l 0 hl hk hs
  refine⟨r,?_,h2⟩
  cases es with
  |nil=>simp[Instr.findKey,run_underlying hu,Instr.findNow];simpa[Instr.findAsking]using h1
  |cons e es=>simp[Instr.findKey,run_underlying hu,Instr.findNow,Instr.sameNow];exact h1
theorem NA{P:Program}{w:World}{kt:TypeId}{kd:Option (List CK)}(sf:Ku P kt kd){n:MK}{kv:Value}(hn:n.Is kv)(eh:J8 kd n)
  (em:Bool):(Instr.checkKey em 10000 kt kv).run P w=.ok () w:=by
 rw[show(10000:Nat)=9998+1+1 from rfl]
 cases kd with
 |none=>
  obtain⟨k,hu⟩:=sf
  rw[Instr.checkKey]
  obtain⟨m,rfl⟩:=eh
  obtain⟨rfl,_⟩:=hn
  simp[run_underlying hu]
 |some ks=>
  obtain⟨fs,hu,aU,qt⟩:=sf
  obtain⟨kl,rfl,j7⟩:=eh
  have hv:=Jh (w:=w) (St:=fun _ _=>False) hn
  simp only[g9,if_true]at hv
  obtain⟨cs,rfl,rx⟩:=hv
  rw[show(20:Nat)=19+1 from rfl,shapeOf,hu]at aU
  simp only at aU
  cases aS:P.stoodInHeld kt with
  |true=>rw[aS]at aU;cases aU
  |false=>
   rw[aS]at aU
   simp only[cond_false]at aU
   split at aU
   ·rename_i mV gG
    split at aU
    ·rename_i sz aM
     cases hc:Nat.beq sz mV.length with
     |false=>rw[hc]at aU;cases aU
     |true=>
      rw[hc]at aU;cases aU
      rw[Instr.checkKey]
      simp only[Sem.run_bind,run_underlying hu,Result.andThen_ok]
      rw[←Array.forIn_toList]
      generalize hxs:kl.map KS.cT=xs at j7 rx
      have Kv:dP ks (xs.drop 0)=true:=j7
      have h0:(0:Nat)≤xs.length:=Nat.zero_le _
      clear hu aS aM hc j7
      generalize fs.toList=L at gG qt
      generalize (0:Nat)=off at gG Kv h0
      induction L generalizing off ks with
      |nil=>simp
      |cons f L ih=>
       simp only[zY]at gG
       simp only[CX,Bool.and_eq_true]at qt
       split at gG
       ·rename_i kf Gw
        cases dq:(f.name != "_" &&Nat.beq f.offset off)with
        |false=>rw[dq]at gG;cases gG
        |true=>
         rw[dq]at gG
         simp only[cond_true]at gG
         split at gG
         ·rename_i kr Li
          cases gG
          simp only[Bool.and_eq_true,bne_iff_ne,ne_eq]at dq
          have yQ:=Nat.eq_of_beq_eq_true dq.2
          obtain⟨ib,xo⟩:=zZ Kv
          obtain⟨ml,zh⟩:=B2 Gw
          have lx:=sN Kv
          simp only[List.length_drop,List.length_append]at lx
          obtain⟨b,hb,h1⟩:∃b,dJ P f.type=some b∧(b=false→kf.length=1):=by
           rcases zh with⟨h1,h2⟩|h1
           ·exact⟨false,h1,fun _=>h2⟩
           ·exact⟨true,h1,by simp⟩
          obtain⟨vx,px,qx⟩:=km.valOf (g:=⟨fun _ _=>False,[],fun _=>none⟩) rx (off:=f.offset) hb ml h1 (by omega)
          have p2:(Instr.checkKey em (9998+1) f.type vx).run P w=.ok () w:=by
           rw[Instr.checkKey]
           have S8:=qt.1
           split at S8
           ·rename_i mZ;simp[run_underlying mZ]
           ·rename_i mZ;simp[run_underlying mZ]
           ·rename_i mZ;simp[run_underlying mZ]
           ·cases S8
          simp only[List.forIn_cons,Sem.run_bind,dq.1,ne_eq,not_false_eq_true,if_true,Result.andThen_ok,px,p2,Sem.run_pure]
          exact ih kr qt.2 (off+kf.length) Li (by rw[List.drop_drop]at xo;exact xo) (by omega)
         ·cases gG
       ·cases gG
    ·cases aU
   ·cases aU
section
variable{P:Program}{gl:Nat→Option D}{w0:World}{ao:S0}{e:Env}{a:Act}{w:World}{g:Gh}
theorem Xw(hI:Inv gl w0 ao e a w g){m:Operand}{l:List (MK×D)}(h:uT e.boxes (Ab.aV gl e m).aa =.mp l):
  ∃r es clock,a.eval m=.map (some r)∧w.heap[r]? =some (.map es clock)∧l.length=es.size∧∀(i:Nat)x y,l[i]? =some x→es[i]? =some y→x.1.Is y.key∧True∧aY w g.St x.2 y.val:=by
 have hx:=hI.aV m
 generalize (Ab.aV gl e m).aa =s at h hx
 cases s with
 |m b=>
  simp only[uT]at h
  split at h
  ·rename_i l' hb
   cases h
   generalize a.eval m=v at hx
   cases hx with
   |m _ _ aj dk=>
    obtain⟨_,es,clock,h1,h2,h3⟩:=hI.boxes b _ aj hb dk
    exact⟨aj,es,clock,rfl,h1,h2,h3⟩
  ·cases h
 |v x=>
  simp only[uT,Slot.bU]at h
  subst h
  have:=hx.jB
  generalize a.eval m=v at this
  cases this with
  |mp _ _ r es clock hh hs hl hc=>exact⟨r,es,clock,rfl,hh,hl,hc⟩
 |_=>simp[uT,Slot.bU]at h
theorem O3{kd:Option (List CK)}{x:SV}{n:MK}(h:kU kd x=some n){St:Nat→Nat→Prop}{base:Nat}{O:Nat→Nat→Nat→Prop}{v:Value}(r:aJ w St base O x v):
  n.Is v∧J8 kd n:=by
 cases kd with
 |none=>
  simp only[kU]at h
  split at h
  ·cases h
   have:=r.data.re
   exact⟨⟨this.1,this.2⟩,_,rfl⟩
  ·cases h
 |some ks=>
  simp only[kU]at h
  split at h
  ·rename_i cs
   cases hl:tF ks cs with
   |some l=>
    rw[hl]at h
    cases h
    obtain⟨rfl,j7⟩:=OZ hl
    obtain⟨vs,e1,r1,_⟩:=r.data.wE
    rw[e1]
    exact⟨abu r1,l,rfl,j7⟩
   |none=>rw[hl]at h;cases h
  ·cases h
theorem V1(hI:Inv gl w0 ao e a w g){o:Oper}{t:TypeId}{m x:Operand}{ok:Bool}(ho:o.op=.lookup t m x ok){k:Slot→List af→Prop}
  (h:ab (AA P t) fun et=>ab (tc P et.1) fun z=>ab (rq et.2 z (uT e.boxes (Ab.aV gl e m).aa) ((Ab.aV gl e x).aa).bU) fun r=>
    bif ok then k (.t [.d r.1,.d (.bool r.2)]) e.boxes else k (.v (.d r.1)) e.boxes):bp P gl w0 ao e.ai o a w k:=by
 obtain⟨⟨et,kd⟩,het,h⟩:=aI h
 obtain⟨z,hz,h⟩:=aI h
 obtain⟨⟨d,b⟩,hr,hk⟩:=aI h
 have hm:=fun l=>Xw hI (m:=m) (l:=l)
 have hx:=hI.g7 x
 generalize uT e.boxes (Ab.aV gl e m).aa =sm at hr hm
 generalize ((Ab.aV gl e x).aa).bU =sx at hr hx
 obtain⟨zv,tT,kC⟩:=OY hz
 obtain⟨kt,hu,sf⟩:=Og het
 unfold rq at hr
 split at hr
 ·rename_i l
  split at hr
  ·rename_i n hn
   cases qu:s6 l n with
   |false=>rw[qu]at hr;cases hr
   |true=>
    rw[qu,cond_true]at hr
    obtain⟨xw,eh⟩:=O3 hn hx
    obtain⟨r,es,clock,GD,hh,hl,hc⟩:=hm l rfl
    obtain⟨f,vM,Lu⟩:=NR (w:=w) sf xw eh es.toList l (by simpa using hl) (fun j x y h1 h2=>(hc j x y h1 (by simpa using h2)).1) qu
    have j7:=fun em=>NA (w:=w) sf xw eh em
    have rS:(getObj r).run P w=.ok (.map es clock) w:=by simp[getObj,Sem.run,hh]
    have key:∃u,((Instr.lookup t (.map (some r)) (a.eval x) ok).run P w=.ok (if ok then .tuple #[u,.bool b]else u) w)∧aY w g.St d u:=by
     rcases Lu with⟨h1,h2⟩|⟨j,x',y,h1,h2,h3,h4,_⟩
     ·rw[h1]at hr
      cases hr
      refine⟨zv,?_,kC _ _⟩
      subst h2
      simp[Instr.lookup,run_underlying hu,rS,j7,vM,tT]
     ·rw[h4]at hr
      cases hr
      refine⟨y.val,?_,(hc j x' y h2 (by simpa using h3)).2.2⟩
      subst h1
      simp[Instr.lookup,run_underlying hu,rS,j7,vM]
    obtain⟨u,xr,Sk⟩:=key
    cases ok with
    |true=>
     refine bp.value hI (v:=.tuple #[u,.bool b]) ?_ (.t _ _ _ rfl fun j x v h1 h2=>?_) hk
     ·have h1:(Instr.lookup t (.map (some r)) (a.eval x) true).run P w=.ok (.tuple #[u,.bool b]) w:=xr
      simp[execOp,ho,GD,h1]
     ·match j,h1,h2 with
      |0,h1,h2=>cases h1;cases h2;exact .d _ _ _ Sk
      |1,h1,h2=>cases h1;cases h2;exact .d _ _ _ (.bool _)
      |j+2,h1,h2=>simp at h1
    |false=>
     refine bp.eQ hI (v:=u) ?_ (.d _ _ _ Sk) hk
     have h1:(Instr.lookup t (.map (some r)) (a.eval x) false).run P w=.ok u w:=xr
     simp[execOp,ho,GD,h1]
  ·cases hr
 ·cases hr
theorem VE(hI:Inv gl w0 ao e a w g){o:Oper}{t:TypeId}(ho:o.op=.makeMap t none){id:Nat}{k:Slot→List af→Prop}
  (eZ:e.boxes[id]? =some .none)(h:k (.m id) (e.boxes.set id (.map []))):bp P gl w0 ao e.ai o a w k:=by
 refine bp.Q5 hI eZ (ob:=.map #[] 0) (vl:=.map (some w.heap.size)) (by simp[execOp,ho,Instr.makeMap]) (fun g' O hb=>.m _ _ _ hb) (fun g' hX hle=>?_) h
 exact⟨hle,#[],0,wj w _,rfl,fun i x y h=>by simp at h⟩
theorem O4{n:MK}{d:D}:∀{l:List (MK×D)}{j:Nat}{x:MK×D},l[j]? =some x→x.1=n→(∀(i:Nat)y,i<j→l[i]? =some y→n≠y.1)→kV l n d=l.set j (n,d)
 |[],j,x,h,_,_=>by simp at h
 |y::l,0,x,h,hx,_=>by simp at h;subst h;simp[kV,hx]
 |y::l,j+1,x,h,hx,bg=>by
  have h0:=bg 0 y (Nat.succ_pos j) rfl
  simp only[kV,if_neg h0,List.set_cons_succ]
  rw[O4 (by simpa using h) hx fun i z hi hz=>bg (i+1) z (by omega) (by simpa using hz)]
theorem O5{n:MK}{d:D}:∀{l:List (MK×D)},kQ l n=none→kV l n d=l++[(n,d)]
 |[],_=>rfl
 |y::l,h=>by
  simp only[kQ]at h
  split at h
  ·cases h
  ·rename_i hy
   simp[kV,hy,O5 h]
theorem u4.bits{k:KS}{u v:Value}(hu:u4 k u)(hv:u4 k v)(m:Nat):Instr.sameBits m u v=true:=by
 cases k with
 |bool b=>subst hu;subst hv;cases m<;>simp[Instr.sameBits]
 |int k n=>obtain⟨rfl,_⟩:=hu;obtain⟨rfl,_⟩:=hv;cases m<;>simp[Instr.sameBits]
 |str s=>
  obtain⟨b,rfl,h1,_⟩:=hu
  obtain⟨c,rfl,h2,_⟩:=hv
  have:b=c:=by
   have:b.data=c.data:=Array.toList_inj.1 (h1.trans h2.symm)
   cases b;cases c;simp only at this;rw[this]
  subst this
  have hb:(b==b)=true:=by show(b.data==b.data)=true;simp
  cases m<;>simp only[Instr.sameBits,hb]
theorem Is.bits{n:MK}{u v:Value}(hu:n.Is u)(hv:n.Is v):Instr.sameBits 10000 u v=true:=by
 cases n with
 |i m=>obtain⟨rfl,_⟩:=hu;obtain⟨rfl,_⟩:=hv;simp[Instr.sameBits]
 |s l=>
  obtain⟨us,rfl,h1,h2⟩:=hu
  obtain⟨vs,rfl,h3,h4⟩:=hv
  rw[show(10000:Nat)=9999+1 from rfl,Instr.sameBits]
  simp only[Bool.and_eq_true,beq_iff_eq,List.all_eq_true]
  refine⟨h1.trans h3.symm,fun⟨x,y⟩hxy=>?_⟩
  obtain⟨i,hi⟩:=List.mem_iff_getElem?.1 hxy
  rw[List.getElem?_zip_eq_some]at hi
  obtain⟨hx,hy⟩:=hi
  rw[Array.getElem?_toList]at hx hy
  have m0:i<l.length:=by have:=(Array.getElem?_eq_some_iff.1 hx).1;omega
  exact(h2 i _ x (List.getElem?_eq_getElem m0) hx).bits (h4 i _ y (List.getElem?_eq_getElem m0) hy) 9999
theorem VF{n:MK}{u v:Value}(hu:n.Is u)(hv:n.Is v):(Instr.keyThatStays u v).run P w=.ok v w:=by simp[Instr.keyThatStays,Is.bits hu hv]
theorem Vi(hI:Inv gl w0 ao e a w g){o:Oper}{t:TypeId}{m x y:Operand}(ho:o.op=.mapUpdate t m x y)(hd:o.dst=none){et:TypeId×Option (List CK)}(het:AA P t=some et){b:Nat}(hm:(Ab.aV gl e m).aa =.m b)
  {l:List (MK×D)}(hb:e.boxes[b]? =some (.map l)){n:MK}(hn:kU et.2 ((Ab.aV gl e x).aa).bU =some n){d:D}(hy:cT ((Ab.aV gl e y).aa).bU =some d){l':List (MK×D)}(Db:nV l n d=some l'){k:Slot→List af→Prop}
  (hk:k (.t []) (e.boxes.set b (.map l'))):bp P gl w0 ao e.ai o a w k:=by
 have hx:=hI.g7 x
 obtain⟨xw,eh⟩:=O3 hn hx
 obtain⟨et,kd⟩:=et
 obtain⟨kt,hu,sf⟩:=Og het
 have S9:=(hI.g7 y).cT hy
 have dO:=hI.mj hm
 unfold nV at Db
 cases qu:s6 l n with
 |false=>rw[qu]at Db;cases Db
 |true=>
  rw[qu,cond_true]at Db
  cases Db
  generalize GD:a.eval m=vm at dO
  cases dO with
  |m _ _ aj dk=>
   obtain⟨k8,es,clock,hh,hl,hc⟩:=hI.boxes b _ aj hb dk
   obtain⟨f,vM,Lu⟩:=NR (w:=w) sf xw eh es.toList l (by simpa using hl) (fun j x y h1 h2=>(hc j x y h1 (by simpa using h2)).1) qu
   have j7:=NA (w:=w) sf xw eh false
   have rS:(getObj aj).run P w=.ok (.map es clock) w:=by simp[getObj,Sem.run,hh]
   have fin:∀(xy:Array MapEntry)(AE:Nat),(Instr.mapUpdate t (.map (some aj)) (a.eval x) (a.eval y)).run P w=.ok () {w with heap:=w.heap.setIfInBounds aj (.map xy AE)}→
     (kV l n d).length =xy.size→(∀(i:Nat)x z,(kV l n d)[i]? =some x→xy[i]? =some z→x.1.Is z.key∧True∧aY w g.St x.2 z.val)→bp P gl w0 ao e.ai o a w k:=by
    intro xy AE ba hlen bc next Q J6
    have adE:(execOp a.eval o).run P w=.ok .skip {w with heap:=w.heap.setIfInBounds aj (.map xy AE)}:=by
     simp[execOp,ho,GD,ba]
    unfold Oper.wp
    rw[adE]
    have fk:=MapKept.heap_set (o':=.map xy AE) hh
    refine J6 (.t []) undef _ _ g ?_ hk
    rw[hd]
    refine hI.Q6 (dst:=none) (s:=.t []) (v:=undef) (ai:=e.ai) (w':={w with heap:=w.heap.setIfInBounds aj (.map xy AE)}) (fun _=>False) (fun _=>False) rfl rfl (fun _ _ _ _ _ h=>h) (fun _ h=>h) dk fk.2 (fun c ty h=>by rw[hh]at h;cases h) (by simp) ⟨rfl,rfl,rfl⟩ rfl
     (fun i x hx _=>⟨x,hx,.inl ⟨rfl,fun h=>h⟩⟩) (fun hX hle=>?_) (fun _ d h=>by cases h)
    exact⟨hle,xy,AE,fk.1,hlen,fun i x z h1 h2=>⟨(bc i x z h1 h2).1,(bc i x z h1 h2).2.1,hX.A9 (bc i x z h1 h2).2.2⟩⟩
   rcases Lu with⟨h1,h2⟩|⟨j,x',z,h1,h2,h3,_,h4,h5⟩
   ·subst h2
    rw[O5 h1]at fin
    refine fin (es.push {key:=a.eval x,val:=a.eval y,born:=clock}) (clock+1) ?_ (by simp[hl]) (fun i x z hx hz=>?_)
    ·simp[Instr.mapUpdate,run_underlying hu,rS,j7,vM,MapKept.run_setObj_map _ hh]
    ·rw[List.getElem?_append]at hx
     rw[Array.getElem?_push]at hz
     split at hx
     ·rename_i hi
      rw[if_neg (by omega)]at hz
      exact hc i x z hx hz
     ·rename_i hi
      have:i-l.length=0:=by
       rcases Nat.eq_zero_or_pos (i-l.length)with h|h
       ·exact h
       ·rw[List.getElem?_eq_none (by simp;omega)]at hx;cases hx
      rw[this]at hx
      simp at hx;subst hx
      rw[if_pos (by omega)]at hz
      cases hz
      exact⟨xw,trivial,S9⟩
   ·have hj:es[j]? =some z:=by simpa using h3
    subst h1
    have GF:=(hc j x' z h2 hj).1
    rw[h4]at GF
    rw[O4 h2 h4 h5]at fin
    have ju:j<es.size:=(Array.getElem?_eq_some_iff.1 hj).1
    refine fin (es.modify j fun e=>{e with key:=a.eval x,val:=a.eval y}) clock ?_ (by simp[hl]) (fun i x u hx mZ=>?_)
    ·simp[Instr.mapUpdate,run_underlying hu,rS,j7,vM,hj,VF GF xw,MapKept.run_setObj_map _ hh]
    ·rw[List.getElem?_set]at hx
     rw[Array.getElem?_modify]at mZ
     split at hx
     ·rename_i lS
      subst lS
      split at hx
      ·cases hx
       rw[if_pos rfl,hj]at mZ
       cases mZ
       exact⟨xw,trivial,S9⟩
      ·cases hx
     ·rename_i lS
      rw[if_neg lS]at mZ
      exact hc i x u hx mZ
theorem WK{x y:SV}{m:Nat}(h:lenOf x y=some m):∃k,x=.d (.int k m)∧y=.d (.int k m):=by
 unfold lenOf at h
 split at h
 ·rename_i k a k' b
  split at h
  ·rename_i hc
   obtain⟨rfl,rfl,h0⟩:=hc
   cases h
   exact⟨k,by rw[Int.toNat_of_nonneg h0],by rw[Int.toNat_of_nonneg h0]⟩
  ·cases h
 ·cases h
theorem O6{t:TypeId}{z:D}(h:tc P t=some z):∃i zv,P.info? t=some i∧i.zero=some zv∧z.one=true∧zv.cells= #[zv]∧∀(w:World)(St:Nat→Nat→Prop),aY w St z zv:=by
 unfold tc at h
 split at h
 ·rename_i i hi
  split at h
  ·rename_i zv hz
   have h1:=(z2 (w:=default) (St:=fun _ _=>False) h).rb (HV h)
   exact⟨i,zv,hi,hz,HV h,by cases zv<;>first|rfl|simp[Value.oneCell']at h1,fun w St=>z2 h⟩
  ·cases h
 ·cases h
theorem D.wk{d:D}(h:d.one=true):d.cells=[d]:=by cases d<;>first|rfl|simp[D.one]at h
theorem Vj(hI:Inv gl w0 ao e a w g){o:Oper}{t:TypeId}{n c:Operand}(ho:o.op=.makeSlice t n c){k:Slot→List af→Prop}
  (h:ab (nI P t) fun e'=>ab (dY P e') fun sz=>ab (wz P e') fun cV=>ab (tc P e') fun z=>
    bif Nat.beq sz 1&&Nat.blt 0 cV then(ab (lenOf ((Ab.aV gl e n).aa).bU ((Ab.aV gl e c).aa).bU) fun m=>m*cV≤140737488355328∧k (.v (.bt 1 (List.replicate m z))) e.boxes)else False):
  bp P gl w0 ao e.ai o a w k:=by
 obtain⟨e',he,h1⟩:=aI h
 obtain⟨sz,aM,h2⟩:=aI h1
 obtain⟨cV,k7,h3⟩:=aI h2
 obtain⟨z,hz,h4⟩:=aI h3
 clear h h1 h2 h3
 cases dq:(Nat.beq sz 1&&Nat.blt 0 cV)with
 |false=>rw[dq]at h4;exact h4.elim
 |true=>
  rw[dq,cond_true]at h4
  simp only[Bool.and_eq_true]at dq
  have gr:=Nat.eq_of_beq_eq_true dq.1
  have sg:0<cV:=Nat.lt_of_succ_le (Nat.le_of_ble_eq_true dq.2)
  subst gr
  obtain⟨m,hm,Ta,hk⟩:=aI h4
  obtain⟨i,zv,hi,tT,cq,Tb,kC⟩:=O6 hz
  obtain⟨kk,e1,e2⟩:=WK hm
  have v1:=(hI.g7 n)
  have v2:=(hI.g7 c)
  rw[e1]at v1
  rw[e2]at v2
  have Kw:i.size=1:=by simpa[dY,hi]using aM
  have F8:i.bytes=cV:=by simpa[wz,hi]using k7
  have bu:m*1≤m*cV:=Nat.mul_le_mul_left _ sg
  have zk:(cV:Int)*(m:Int)≤281474976710656:=by
   have h:((cV*m:Nat):Int)≤281474976710656:=by rw[Nat.mul_comm];omega
   rwa[Int.natCast_mul]at h
  have ba:=Go.run_make (P:=P) w t e' i zv (B9 he) hi tT kk kk m m (by omega) (Int.le_refl _) (by rw[F8];exact zk) (by omega)
  simp only[Int.toNat_natCast,Kw,Nat.mul_one]at ba
  have Lv:(List.replicate m z).length =m:=by simp
  have de:=D.wk cq
  refine bp.Qo hI (cells:=madeCells zv.cells m) (t:=e') (sz:=1) (L:=List.replicate m z) ?_ (by rw[Lv,Nat.mul_one];exact size_madeCells _ _) (by rw[Lv];simp only[maxLen];omega) (fun x hx=>?_) (fun i' x j c' hx hc=>?_) hk
  ·rw[Lv]
   simp[execOp,ho,v1.int,v2.int,ba]
  ·rw[(List.mem_replicate.1 hx).2,de]
   exact⟨rfl,fun c hc=>by rw[List.mem_singleton.1 hc];exact cq⟩
  ·have dK:=(List.mem_replicate.1 (List.mem_of_getElem? hx)).2
   have m0:i'<m:=by have:=(List.getElem?_eq_some_iff.1 hx).1;simpa using this
   subst dK
   rw[de]at hc
   have hj:j=0:=by
    cases j with
    |zero=>rfl
    |succ j=>simp at hc
   subst hj
   simp at hc
   subst hc
   refine⟨by rw[size_madeCells];omega,?_⟩
   simp only[Nat.mul_one,Nat.add_zero,madeCells,Tb]
   simp[m0,Nat.mod_one]
   exact kC _ _
theorem cg.AZ{base:Nat}{O:Nat→Nat→Nat→Nat→Prop}{b n sz:Nat}{v:Value}(h:cg base w g O (.a b n sz) v):
  n≤maxLen∧∃aj cap,g.bx[b]? =some (some aj)∧n≤cap∧v=.slice (some ⟨aj,0,none⟩) n cap∧cap≤maxLen∧∃c ty,w.heap[aj]? =some (.cells c ty (0,0))∧c.size=cap*sz:=by
 cases h with
 |a _ _ _ _ _ hm h=>exact⟨hm,h⟩
theorem Xx(hI:Inv gl w0 ao e a w g){o:Oper}{c:Call}(ho:o.op=.call c)(hc:c.callee=.builtin .len){x:Operand}{xs:List Operand}{t:TypeId}{ts:List TypeId}
  (hx:c.args.toList=x::xs)(ht:c.argTypes.toList=t::ts){b n sz:Nat}(hs:(Ab.aV gl e x).aa =.a b n sz)(jr:isSlice P t=true){k:Slot→List af→Prop}(hk:k (.v (.d (.int .i64 n))) e.boxes):bp P gl w0 ao e.ai o a w k:=by
 obtain⟨hm,hv⟩:=(hI.mj hs).AZ
 have h0:c.args[0]? =some x:=by rw[←Array.getElem?_toList,hx];rfl
 have h1:c.argTypes[0]? =some t:=by rw[←Array.getElem?_toList,ht];rfl
 have hu:∃e',P.underlying t=some (.slice e'):=by
  unfold isSlice at jr
  split at jr
  ·exact⟨_,by assumption⟩
  ·cases jr
 obtain⟨e',hu⟩:=hu
 have gn:∃ad cap,a.eval x=.slice ad n cap:=by
  obtain⟨aj,cap,_,_,h,_⟩:=hv
  exact⟨_,_,h⟩
 obtain⟨ad,cap,gn⟩:=gn
 refine bp.eQ hI (v:=.int .i64 n) ?_ (.d _ _ _ (.int _ _ ?_)) hk
 ·have hl:(Builtin.len_ c.argTypes o.type (c.args.map a.eval)).run P w=.ok (.int .i64 n) w:=by simp[Builtin.len_,h0,h1,run_underlying hu,gn,goInt]
  simp[execOp,ho,resolve,hc,invoke,builtin,hl]
 ·simp only[maxLen]at hm
  simp[ga,IntKind.min,IntKind.max,IntKind.signed,IntKind.bits]
  omega
theorem V2(hI:Inv gl w0 ao e a w g){o:Oper}{t:TypeId}{x i:Operand}(ho:o.op=.indexAddr t x i){e':TypeId}(hu:P.underlying t=some (.slice e')){sz:Nat}(aM:dY P e'=some sz)
  {b n By:Nat}(hs:(Ab.aV gl e x).aa =.a b n By){j:Nat}(hj:cA ((Ab.aV gl e i).aa).bU n=some j){k:Slot→List af→Prop}(hk:k (.p b (j*sz)) e.boxes):bp P gl w0 ao e.ai o a w k:=by
 obtain⟨hm,hv⟩:=(hI.mj hs).AZ
 obtain⟨kk,ii,e1,h1,h2,rfl⟩:=sM hj
 have hi:=hI.g7 i
 rw[e1]at hi
 have rV:=hi.int
 obtain⟨aj,cap,hb,hle,hv,_⟩:=hv
 refine bp.value hI (v:=.pointer (some ⟨aj,ii.toNat*sz,none⟩)) ?_ (.p _ _ _ _ hb) hk
 have:=pQ aj 0 (ii.toNat*sz)
 rw[Nat.zero_add]at this
 simp[execOp,ho,Instr.indexAt,rV,asIntOf,run_underlying hu,hv,h1,h2,jy aM,this]
end
end Go.Proofs.Ytimbllcalipehaa.Ab
namespace Go.Proofs.Ytimbllcalipehaa.Ab
open Go Go.RowKit
section
variable{P:Program}{gl:Nat→Option D}{w0:World}{ao:S0}{e:Env}{a:Act}{w:World}{g:Gh}
theorem NS(hI:Inv gl w0 ao e a w g){o:Oper}{c:Call}(ho:o.op=.call c)(hc:c.callee=.builtin .append){ai:List Slot}{lost:Nat→Prop}(hH:rA e ai lost o.dst)
  {x y:Operand}{t u:TypeId}
  (hx:c.args.toList=[x,y])(ht:c.argTypes.toList=[t,u]){sx sy:SV}{O:Nat→Nat→Nat→Prop}{Oy:Nat→Nat→Nat→Prop}(rx:aJ w g.St w0.heap.size O sx (a.eval x))(ry:aJ w g.St w0.heap.size Oy sy (a.eval y))
  (hO:∀b a' c,O b a' c→∃i0,eJ w0.heap.size w g (.s i0 0) b a' c∧lost i0){k:Slot→List af→Prop}
  (h:bif Nat.beq t u then(ab (nI P t) fun e'=>ab (dY P e') fun sz=>ab (wz P e') fun cV=>ab (nD P e') fun z=>
    bif Nat.blt 0 cV&&Nat.blt 0 sz&&Nat.beq z.length sz then bV sz cV sx sy fun r=>k (.v r) e.boxes else False)else False):bp P gl w0 ao ai o a w k:=by
 cases sj:Nat.beq t u with
 |false=>rw[sj]at h;exact h.elim
 |true=>
  have:=Nat.eq_of_beq_eq_true sj
  subst this
  rw[sj]at h
  simp only[cond_true]at h
  obtain⟨e',he,h⟩:=aI h
  obtain⟨sz,aM,h⟩:=aI h
  obtain⟨cV,k7,h⟩:=aI h
  obtain⟨z,hz,h⟩:=aI h
  cases dq:(Nat.blt 0 cV&&Nat.blt 0 sz&&Nat.beq z.length sz)with
  |false=>simp only[dq,cond_false]at h
  |true=>
   simp only[dq,cond_true]at h
   simp only[Bool.and_eq_true]at dq
   obtain⟨⟨h1,h2⟩,h3⟩:=dq
   have sg:0<cV:=Nat.lt_of_succ_le (Nat.le_of_ble_eq_true h1)
   have lQ:0<sz:=Nat.lt_of_succ_le (Nat.le_of_ble_eq_true h2)
   have DE:=Nat.eq_of_beq_eq_true h3
   obtain⟨⟨r,n⟩,hr,Ta,hk⟩:=aI h
   obtain⟨i,zv,hi,tT,gp⟩:=WJ hz
   have hu:=B9 he
   have Kw:i.size=sz:=by simpa[dY,hi]using aM
   have F8:i.bytes=cV:=by simpa[wz,hi]using k7
   intro next Q hn
   obtain⟨v,w',g',ba,hinv⟩:=VZ (ty:=o.type) hI hH hu hi tT Kw (by rw[gp,DE]) lQ rx ry hO hr (by rw[F8];exact Ta) (by rw[F8];exact sg)
   unfold Oper.wp
   have eF:c.args.map a.eval= #[a.eval x,a.eval y]:=by
    apply Array.toList_inj.1
    rw[Array.toList_map,hx];rfl
   have aex:c.argTypes= #[t,t]:=by apply Array.toList_inj.1;rw[ht]
   have:(execOp a.eval o).run P w=.ok (.value v) w':=by
    simp only[execOp,ho,resolve,hc,Sem.run_bind,Sem.run_pure,Result.andThen_ok,invoke,builtin,eF,aex,ba]
   rw[this]
   exact hn (.v r) v _ w' g' hinv hk
theorem WL{b:Bool}{A:Prop}(h:cond b A False):b=true∧A:=by cases b;exact h.elim;exact⟨rfl,h⟩
theorem YH(hI:Inv gl w0 ao e a w g){id:Nat}{o:Oper}{k:Slot→List af→Prop}(h:cX P (aD P gl) id o (fun x=>(Ab.aV gl e x).aa) e.boxes k):bp P gl w0 ao e.ai o a w k:=by
 cases ho:o.op<;>simp only[cX,ho]at h
 case move x=>exact bp.value hI (by simp[execOp,ho]) (hI.aV x) h
 case assign x=>exact bp.value hI (by simp[execOp,ho]) (hI.aV x) h
 case pick c x y=>
  split at h
  ·rename_i s hs
   obtain⟨b,rfl,h1,h2⟩:=Af h
   have hv:=(hI.pj hs).data.sU
   cases b
   ·exact bp.value hI (v:=a.eval y) (by simp[execOp,ho,hv,asBool]) (hI.aV y) (h2 rfl)
   ·exact bp.value hI (v:=a.eval x) (by simp[execOp,ho,hv,asBool]) (hI.aV x) (h1 rfl)
  ·exact h.elim
 case alloc t=>
  split at h
  ·rename_i eZ;exact Wz hI ho eZ h
  ·exact h.elim
 case box t x=>
  split at h
  ·rename_i eZ;exact YE hI ho eZ h
  ·exact h.elim
 case build t ps=>exact WI hI ho h
 case buildSlice t n ps=>exact Va hI ho h
 case load t x=>
  obtain⟨⟨b,n⟩,hl,h⟩:=aI h
  split at h
  ·rename_i bn off hs;exact VB hI ho hl hs h
  ·rename_i s hs;exact WB hI ho hl hs h
  ·exact h.elim
 case store t x y=>
  obtain⟨n,hn,h⟩:=aI h
  split at h
  ·rename_i bn off hs
   split at h
   ·rename_i hd;exact WC hI ho hd hn hs h
   ·exact h.elim
  ·exact h.elim
 case nilCheck x=>exact Vp hI ho h
 case binOp op t x y u=>exact YD hI ho h
 case unOp op t x=>exact ZX hI ho h
 case convert src dst x=>
  cases hs:(P.underlying src).isSome with
  |false=>rw[hs]at h;exact h.elim
  |true=>rw[hs]at h;exact Xt hI ho hs h
 case makeInterface t x=>exact WD hI ho h
 case makeFunc fn first cap=>exact Vq hI ho h
 case slice t x lo hi mx=>exact WH hI ho h
 case fieldAddr t x f=>exact Vg hI ho h
 case field t x f=>exact WE hI ho h
 case indexAddr t x i=>
  cases hs:(Ab.aV gl e x).aa with
  |a b n=>
   rw[hs]at h
   split at h
   ·rename_i e' hu
    obtain⟨sz,aM,h1⟩:=aI h
    obtain⟨j,hj,hk⟩:=aI h1
    exact V2 hI ho hu aM hs hj hk
   ·obtain⟨sz,aM,h1⟩:=aI h
    obtain⟨j,hj,hk⟩:=aI h1
    exact hk.elim
   ·exact h.elim
  |_=>exact Vh hI ho (by rw[hs]at h ⊢;exact h)
 case index t x i=>exact WG hI ho h
 case extract x i=>exact VD hI ho h
 case lookup t m x ok=>exact V1 hI ho h
 case makeSlice t n c=>exact Vj hI ho h
 case makeMap t hn=>
  split at h
  ·rename_i hh eZ;exact VE hI ho eZ h
  ·exact h.elim
 case mapUpdate t m x y=>
  obtain⟨et,het,h1⟩:=aI h
  split at h1
  ·rename_i b hm hd
   split at h1
   ·rename_i l hb
    obtain⟨n,hn,h2⟩:=aI h1
    obtain⟨d,ic,h3⟩:=aI h2
    obtain⟨l',gU,hk⟩:=aI h3
    exact Vi hI ho hd het hm hb hn ic gU hk
   ·exact h1.elim
  ·exact h1.elim
 case call c=>
  split at h
  ·rename_i f hc
   refine Xv hI ho hc (n:=arity P o.type) ?_
   split at h
   ·rename_i s hs;simp only[hs];exact h
   ·rename_i g' first cap hs;simp only[hs];exact h
   ·exact h.elim
  ·rename_i recv name hc
   refine V0 hI ho hc (n:=arity P o.type) ?_
   split at h
   ·rename_i s hs;simp only[hs];exact h
   ·exact h.elim
  ·rename_i b hc
   split at h
   ·rename_i x xs t ts hx ht
    cases hs:(Ab.aV gl e x).aa with
    |a b n=>
     rw[hs]at h
     obtain⟨hb,hk⟩:=WL h
     exact Xx hI ho hc hx ht hs hb hk
    |_=>exact YF hI ho hc hx ht (by rw[hs]at h ⊢;exact h)
   ·rename_i x y t u hx ht
    exact NS hI ho hc (rA.same e o.dst) hx ht (hI.g7 x) (hI.g7 y) (fun _ _ _ h=>h.elim) h
   ·rename_i x xs ts hx;exact PE hI ho hc hx (.inl ⟨rfl,rfl⟩) h
   ·rename_i x xs ts hx;exact PE hI ho hc hx (.inr ⟨rfl,rfl⟩) h
   ·exact h.elim
 all_goals exact h.elim
end
end Go.Proofs.Ytimbllcalipehaa.Ab
set_option linter.unusedVariables false
set_option linter.unusedSimpArgs false
namespace Go.Proofs.Ytimbllcalipehaa.Ab
open Go Go.RowKit
section
variable{P:Program}{gl:Nat→Option D}{w0:World}{ao:S0}{e:Env}{a:Act}{w:World}{g:Gh}
theorem EW:∀{l:List SV}{i:Nat}{x:SV},SV.gy l=true→l[i]? =some x→x.ax=true
 |[],i,x,h,hx=>by simp at hx
 |y::l,0,x,h,hx=>by
  simp only[SV.gy,Bool.and_eq_true]at h
  simp at hx;subst hx;exact h.1
 |y::l,i+1,x,h,hx=>by
  simp only[SV.gy,Bool.and_eq_true]at h
  exact EW h.2 (by simpa using hx)
theorem aJ.Q7{St:Nat→Nat→Prop}{base yB:Nat}{O:Nat→Nat→Nat→Prop}{x:SV}{v:Value}(r:aJ w St base O x v)(h:x.ax=true):aJ w St yB O x v:=by
 induction r with
 |d O x v hd=>exact .d _ _ _ hd
 |own O sz L g cap hd bJ ho=>exact .own _ _ _ _ _ hd bJ ho
 |full O sz L a hd=>exact .full _ _ _ _ hd
 |ref=>cases h
 |cG=>cases h
 |aT O x off b o vs hf aP hc=>exact .aT _ _ _ _ _ _ hf aP hc
 |di O f first cap fv cv hf hc rf rc iV iW=>
  simp only[SV.ax,Bool.and_eq_true]at h
  exact .di _ f first cap fv cv hf hc (fun i x v a b=>iV i x v a b (EW h.1 a)) (fun i x v a b=>iW i x v a b (EW h.2 a))
 |bt O sz L g cap vs bJ hm aM hf ho aP hc=>exact .bt _ _ _ _ _ _ bJ hm aM hf ho aP hc
 |mp O l r es clock hh hs hl hc=>exact .mp _ _ _ _ _ hh hs hl hc
 |undef O v=>exact .undef _ _
theorem aJ.o9{St:Nat→Nat→Prop}{base:Nat}{O O':Nat→Nat→Nat→Prop}{x:SV}{v:Value}(r:aJ w St base O x v)(h:∀b a c,O b a c→O' b a c):aJ w St base O' x v:=
 r.mono (fun _ _ h=>⟨h,.refl _ _ _⟩) (fun _ _ _=>rfl) _ fun b a c ho=>⟨h b a c ho,.refl _ _ _⟩
theorem aJ.Z0{St:Nat→Nat→Prop}{base:Nat}{O O':Nat→Nat→Nat→Prop}{x:SV}{v:Value}(r:aJ w St base O x v)(h:∀b a c,a≤c→O b a c→O' b a c):aJ w St base O' x v:=by
 cases r with
 |d _ x v hd=>exact .d _ _ _ hd
 |own _ sz L g cap hd bJ ho=>
  refine .own _ _ _ _ _ hd bJ (h _ _ _ ?_ ho)
  cases hd with
  |sl _ _ _ _ _ vs hc=>exact Nat.mul_le_mul_right _ hc
  |j6 _ _ _ ha=>exact absurd rfl ha
 |full _ sz L a hd=>exact .full _ _ _ _ hd
 |ref _ cs off b o vs hb aP hc=>exact .ref _ _ _ _ _ _ hb aP hc
 |cG _ n sz cs b cap vs hb hn hm aP hc=>exact .cG _ _ _ _ _ _ _ hb hn hm aP hc
 |aT _ x off b o vs hf aP hc=>exact .aT _ _ _ _ _ _ hf aP hc
 |di _ f first cap fv cv hf hc rf rc=>exact .di _ _ _ _ _ _ hf hc rf rc
 |bt _ sz L g cap vs bJ hm aM hf ho aP hc=>exact .bt _ _ _ _ _ _ bJ hm aM hf (h _ _ _ (Nat.zero_le _) ho) aP hc
 |mp _ l r es clock hh hs hl hc=>exact .mp _ _ _ _ _ hh hs hl hc
 |undef _ v=>exact .undef _ _
noncomputable def rowOf(w0 w:World)(g:Gh)(t p b:Nat):Option Nat:=by
 classical exact if ∃a c,eJ w0.heap.size w g (.s t 0) b a c∧a≤c then some p else none
theorem HY{t p b i:Nat}(h:rowOf w0 w g t p b=some i):i=p∧∃a c,eJ w0.heap.size w g (.s t 0) b a c∧a≤c:=by
 unfold rowOf at h
 split at h
 ·rename_i hh;cases h;exact⟨rfl,hh⟩
 ·cases h
theorem Xy{t p b a' c':Nat}(h:eJ w0.heap.size w g (.s t 0) b a' c')(Bz:a'≤c'):rowOf w0 w g t p b=some p:=by
 unfold rowOf
 rw[if_pos ⟨a',c',h,Bz⟩]
theorem Oh{t p b:Nat}(h:g.ow b≠some (.s t 0)):rowOf w0 w g t p b=none:=by
 cases hr:rowOf w0 w g t p b with
 |none=>rfl
 |some i=>exact absurd (HY hr).2.choose_spec.choose_spec.1.1 h
theorem Inv.Z1(hI:Inv gl w0 ao e a w g){t p:Nat}{w':World}{bH:Nat→Nat→Prop}{ow:Nat→Option Nat}(vD:w'.os=w.os)(J9:w'.tape=w.tape)(Kx:w'.output=w.output)(aM:w.heap.size≤w'.heap.size)
  (dk:∀b,b<w.heap.size→rowOf w0 w g t p b=none→w'.heap[b]? =w.heap[b]?)(h1:∀b o,g.St b o→bH b o∧nJ w w' b o)
  (h2:∀b o,bH b o→g.St b o∨((w.heap.size≤b∨rowOf w0 w g t p b≠none)∧b<w'.heap.size))(dst:Option Nat){bk:SV}{s:Slot}{v:Value}
  (DI:aJ w' bH 0 (XO w.heap.size (rowOf w0 w g t p) w' bH ow 0) bk (a.tmps.getD t undef))
  (hs:∀g':Gh,g'.St=bH→(∀d,dst=some d→∀j b a c,XO w.heap.size (rowOf w0 w g t p) w' bH ow (j+1) b a c→eJ w0.heap.size w' g' (.s d j) b a c)→∀d,dst=some d→cg w0.heap.size w' g' (eW w0.heap.size w' g' d) s v):
  ∃g',Inv gl w0 ao ⟨cz (e.ai.set t (.v bk)) dst s,e.boxes⟩ (a.put dst v) w' g':=by
 have hle:w0.heap.size≤w.heap.size:=hI.below.size
 let A:=rowOf w0 w g t p
 let g':Gh:={St:=bH,bx:=g.bx,ow:=fun b=>if w.heap.size≤b∨A b≠none then(match ow b with|some 0=>some (.s t 0)|some (j+1)=>dst.map fun d=>Pos.s d j|none=>none)else g.ow b}
 have iQ:∀b,A b≠none→w0.heap.size≤b∧some b∉g.bx∧b<w.heap.size:=fun b hb=>by
  cases hA:A b with
  |none=>exact absurd hA hb
  |some i=>
   obtain⟨_,a',c',o,_⟩:=HY hA
   exact⟨o.2.1,o.2.2.1,o.lt⟩
 have Tc:∀{j b a' c'}{q:Pos},XO w.heap.size A w' bH ow j b a' c'→(match j with|0=>some (Pos.s t 0)|(j+1)=>dst.map fun d=>Pos.s d j)=some q→eJ w0.heap.size w' g' q b a' c':=fun{j b a' c' q}h hq=>by
  obtain⟨x1,x2,x3,x4⟩:=h
  refine⟨?_,?_,?_,x3,x4⟩
  ·show(if w.heap.size≤b∨A b≠none then(match ow b with|some 0=>some (.s t 0)|some (j+1)=>dst.map fun d=>Pos.s d j|none=>none)else g.ow b)=some q
   rw[if_pos x2,x1]
   cases j<;>exact hq
  ·rcases x2 with h|h
   ·omega
   ·exact(iQ b h).1
  ·intro hm
   rcases x2 with h|h
   ·have:=(hI.dn b hm).2;omega
   ·exact(iQ b h).2.1 hm
 have hX:Ext w0.heap.size w g w' g' (fun q=>∃j,q=.s t j):=by
  refine⟨fun D o js ho h=>?_,h1,fun b o h=>World.cell?_of_block (dk b (by omega) ?_),fun _ _ h=>h,fun q b a' c' hq ho=>?_,fun b c ty hm hb=>⟨c,ty,(dk b (fJ hb) ?_).trans hb,rfl⟩⟩
  ·have hA:A D=none:=Oh (by rw[ho];simp)
   have aF:=fJ h
   refine⟨(dk D aF hA).trans h,js,?_,fun x hx=>?_⟩
   ·show(if w.heap.size≤D∨A D≠none then _ else g.ow D)=none
    rw[if_neg (by rintro(h|h);omega;exact h hA)];exact ho
   ·rcases h2 D x hx with h|⟨h|h,_⟩
    ·exact h
    ·omega
    ·exact absurd hA h
  ·cases hA:A b with
   |none=>exact hA
   |some i=>
    have:=(iQ b (by rw[hA];simp)).1
    omega
  ·have aF:=ho.lt
   have hA:A b=none:=Oh (by rw[ho.1];intro hh;cases hh;exact hq ⟨0,rfl⟩)
   obtain⟨o1,o2,o3,⟨cur,te,o4,qq⟩,o5⟩:=ho
   refine⟨⟨?_,o2,o3,⟨cur,te,(dk b aF hA).trans o4,qq⟩,fun o bO aS=>?_⟩,fun _=>dk b aF hA⟩
   ·show(if w.heap.size≤b∨A b≠none then _ else g.ow b)=some q
    rw[if_neg (by rintro(h|h);omega;exact h hA)];exact o1
   ·rcases h2 b o aS with h|⟨h|h,_⟩
    ·exact o5 o bO h
    ·omega
    ·exact absurd hA h
  ·cases hA:A b with
   |none=>exact hA
   |some i=>exact absurd hm (iQ b (by rw[hA];simp)).2.1
 refine⟨g',hI.stepG hX ⟨vD,J9,Kx,aM,fun k hk=>dk k (by omega) ?_⟩ (by simp) (fun i x hx hd=>?_) (fun d hd=>hs g' rfl (fun d' ic j b a' c' h=>Tc h (by simp only[ic];rfl)) d hd) hI.eX (fun b bx aj hb dA=>hX.box (fun j=>by rintro⟨j',h⟩;cases h) (dk aj (hI.dn aj (List.mem_of_getElem? dA)).2 ?_) (hI.boxes b bx aj hb dA)) hI.nodup (fun b hb=>⟨(hI.dn b hb).1,Nat.lt_of_lt_of_le (hI.dn b hb).2 aM⟩) (fun b o aS=>?_)⟩
 ·cases hA:A k with
  |none=>exact hA
  |some i=>
   have:=(iQ k (by rw[hA];simp)).1
   omega
 ·rw[List.getElem?_set]at hx
  split at hx
  ·rename_i gH
   subst gH
   split at hx
   ·cases hx
    exact .v _ _ _ ((DI.xX (Nat.zero_le _)).o9 fun b a' c' h=>Tc h rfl)
   ·cases hx
  ·rename_i gH
   exact hX.slot (fun j=>by rintro⟨j',h⟩;cases h;exact gH rfl) (hI.ai i x hx)
 ·cases hA:A aj with
  |none=>exact hA
  |some i=>exact absurd (List.mem_of_getElem? dA) (iQ aj (by rw[hA];simp)).2.1
 ·rcases h2 b o aS with h|⟨h,aF⟩
  ·have:=hI.cE b o h
   exact⟨this.1,this.2.1,Nat.lt_of_lt_of_le this.2.2 aM⟩
  ·refine⟨.inr ?_,?_,aF⟩
   ·rcases h with h|h
    ·omega
    ·exact(iQ b h).1
   ·intro hm
    rcases h with h|h
    ·have:=(hI.dn b hm).2;omega
    ·exact(iQ b h).2.1 hm
theorem abv{rs:List SV}(h:∀r,rs=[r]→False):yL rs=.t rs:=by
 cases rs with
 |nil=>rfl
 |cons a l=>cases l with
  |nil=>exact(h a rfl).elim
  |cons b l=>rfl
theorem Ij(hI:Inv gl w0 ao e a w g){o:Oper}{c:Call}{f:Operand}(ho:o.op=.call c)(hc:c.callee=.value f){t p:Nat}(hp:c.args.toList[p]? =some (.tmp t)){f':FuncId}(hg:Kq (Ab.aV gl e f)=some f'){y:SV}
  (hy:e.ai.getD t (.v .undef)=.v y){n:Nat}{k:Env→Prop}
  (h:xm n fun rs=>∃bk,aD P gl f' (qa p ((iq e.boxes (fun x=>(Ab.aV gl e x).aa) c.args.toList).set p y)) (.aH (bk::rs))∧aa bk=aa y∧k ⟨cz (e.ai.set t (.v bk)) o.dst (yL rs),e.boxes⟩):
  ∀(next:Act→World→Prop)(Q:Exit→Act→World→Prop),(∀e' v w' g',Inv gl w0 ao e' (a.put o.dst v) w' g'→k e'→next (a.put o.dst v) w')→o.wp P a w next Q:=by
 intro next Q hn
 obtain⟨rs,hlen,bk,hH,afR,hk⟩:=Cz h
 rw[Jg]at hH
 obtain⟨hE,zl,hH⟩:=hH
 have eF:=IK hI c.args
 have vF:a.eval f=.func (.func f') #[] #[]:=by
  unfold Kq at hg
  split at hg
  ·rename_i g2 hs
   cases hg
   have:=(hI.pj (x:=f) (s:=.d (.fn (.func f'))) (by rw[hs];rfl)).data
   generalize a.eval f=u at this
   cases this;rfl
  ·cases hg
 have ba:(execOp a.eval o).run P w=.ok (.enter f' (c.args.map a.eval)) w:=by
  have h1:=hE (c.args.map a.eval) w
  simp[execOp,ho,resolve,hc,vF,Deferred.ofValue,invoke,h1]
 have mN:cg w0.heap.size w g (eW w0.heap.size w g t) (.v y) (a.tmps.getD t undef):=by
  rw[←hy]
  simp only[List.getD_eq_getElem?_getD]
  cases hh:e.ai[t]? with
  |none=>exact .v _ _ _ (.undef _ _)
  |some s=>exact hI.ai t s hh
 have hyv:aJ w g.St w0.heap.size (eW w0.heap.size w g t 0) y (a.tmps.getD t undef):=by cases mN;assumption
 have Td:(c.args.map a.eval)[p]? =some (a.tmps.getD t undef):=by
  rw[Array.getElem?_map,←Array.getElem?_toList,hp];rfl
 unfold Oper.wp
 rw[ba]
 refine(hH w g.St (rowOf w0 w g t p) (c.args.map a.eval) (fun b o h=>hI.pd h) (fun b i hb=>(by
  obtain⟨_,a',c',⟨_,_,_,⟨cur,te,h4,kZ⟩,h5⟩,Bz⟩:=HY hb
  exact⟨cur,te,h4,fun o ho=>h5 o (by omega)⟩)) hI.j3 (by rw[List.length_set];exact eF.1) (fun i x v hx hv=>?_)).mono fun en w' hh=>?_
 ·have sc:=EW zl hx
  rw[List.getElem?_set]at hx
  split at hx
  ·rename_i hpi
   subst hpi
   split at hx
   ·cases hx
    rw[Td]at hv
    cases hv
    exact(hyv.Q7 sc).Z0 fun b a' c' Bz bO=>⟨Xy bO Bz,bO.2.2.2.1,bO.2.2.2.2⟩
   ·cases hx
  ·exact((eF.2 i x v hx hv).Q7 sc).o9 fun b a' c' h=>h.elim
 ·obtain⟨v,he,vD,J9,Kx,aM,dk,bH,ow,h1,h2,hr,hb⟩:=hh
  subst he
  have key:∀g':Gh,g'.St=bH→(∀d,o.dst=some d→∀j b a' c',XO w.heap.size (rowOf w0 w g t p) w' bH ow (j+1) b a' c'→eJ w0.heap.size w' g' (.s d j) b a' c')→∀d,o.dst=some d→cg w0.heap.size w' g' (eW w0.heap.size w' g' d) (yL rs) v:=by
   intro g' iX hO d hd
   unfold tA at hr
   split at hr
   ·refine .v _ _ _ ?_
    rw[←iX]at hr
    exact(hr.xX (Nat.zero_le _)).o9 fun b a' c' h=>hO d hd 0 b a' c' (by rw[iX]at h;exact h)
   ·rename_i bg
    obtain⟨vs,rfl,hl,iY⟩:=hr
    rw[abv bg]
    refine .t _ _ vs hl fun j x z hx hz=>?_
    have:=iY j x z hx hz
    rw[←iX]at this
    exact(this.xX (Nat.zero_le _)).o9 fun b a' c' h=>hO d hd j b a' c' (by rw[iX]at h;exact h)
  obtain⟨g',ie⟩:=hI.Z1 (t:=t) (p:=p) vD J9 Kx aM dk h1 h2 o.dst (bk:=bk) (s:=yL rs) (v:=v) (hb _ Td) key
  exact hn _ v w' g' ie hk
end
end Go.Proofs.Ytimbllcalipehaa.Ab
namespace Go.Proofs.Ytimbllcalipehaa.Ab
open Go Go.RowKit
section
variable{P:Program}{gl:Nat→Option D}{w0:World}{ao:S0}{e:Env}{a:Act}{w:World}{g:Gh}
abbrev yC(P:Program)(gl:Nat→Option D)(w0:World)(ao:S0)(o:Oper)(a:Act)(w:World)(k:Env→Prop):Prop:=
 ∀(next:Act→World→Prop)(Q:Exit→Act→World→Prop),
  (∀e' v w' g',Inv gl w0 ao e' (a.put o.dst v) w' g'→k e'→next (a.put o.dst v) w')→o.wp P a w next Q
theorem jz(hI:Inv gl w0 ao e a w g)(t:Nat):cg w0.heap.size w g (eW w0.heap.size w g t) (e.ai.getD t (.v .undef)) (a.eval (.tmp t)):=by
 simp only[Act.eval,List.getD_eq_getElem?_getD]
 cases h:e.ai[t]? with
 |none=>exact .v _ _ _ (.undef _ _)
 |some s=>exact hI.ai t s h
def Gh.k9(g:Gh)(t:Nat)(q:Nat→Pos):Gh:={g with ow:=fun b=>match g.ow b with
 |some (.s i j)=>if i=t then some (q j)else some (.s i j)
 |x=>x}
theorem Z2{base:Nat}{t:Nat}{q:Nat→Pos}{p:Pos}(hp:∀j,p≠.s t j){b a0 c0:Nat}(h:eJ base w g p b a0 c0):eJ base w (g.k9 t q) p b a0 c0:=by
 obtain⟨h1,h2,h3,h4,h5⟩:=h
 refine⟨?_,h2,h3,h4,h5⟩
 simp only[Gh.k9,h1]
 cases p with
 |s i j=>
  simp only
  rw[if_neg (fun h=>hp j (by rw[h]))]
 |b i j=>rfl
theorem Jj{base:Nat}{t:Nat}{q:Nat→Pos}{j:Nat}{b a0 c0:Nat}(h:eJ base w g (.s t j) b a0 c0):eJ base w (g.k9 t q) (q j) b a0 c0:=by
 obtain⟨h1,h2,h3,h4,h5⟩:=h
 exact⟨by simp[Gh.k9,h1],h2,h3,h4,h5⟩
theorem Ext.k9{base:Nat}(t:Nat)(q:Nat→Pos)(lost:Pos→Prop)(hl:∀j,lost (.s t j)):Ext base w g w (g.k9 t q) lost:=
 ⟨fun D _ hb hn h=>⟨h,hb,by simp[Gh.k9,hn],fun _ h=>h⟩,fun _ _ h=>(by first|exact⟨h,rfl⟩|exact⟨h,.refl _ _ _⟩),fun _ _ _=>rfl,fun _ _ h=>h,fun _ _ _ _ hp ho=>⟨Z2 (fun j hj=>hp (by rw[hj];exact hl j)) ho,.refl _ _ _⟩,.refl _⟩
theorem Ik(e:Env)(t:Nat)(dst:Option Nat):rA e (e.ai.set t (e.ai.getD t (.v .undef)).aa) (fun i=>i=t) dst:=by
 refine⟨by simp,fun i x hx _=>?_⟩
 rw[List.getElem?_set]at hx
 split at hx
 ·rename_i h
  subst h
  split at hx
  ·rename_i aF
   cases hx
   refine⟨e.ai[t],List.getElem?_eq_getElem aF,.inr ?_⟩
   rw[List.getD_eq_getElem?_getD,List.getElem?_eq_getElem aF];rfl
  ·cases hx
 ·rename_i h
  exact⟨x,hx,.inl ⟨rfl,fun h'=>h h'.symm⟩⟩
theorem PF(hI:Inv gl w0 ao e a w g){o:Oper}{t:Nat}(ba:(execOp a.eval o).run P w=.ok (.value (a.eval (.tmp t))) w){k:Env→Prop}
  (h:k ⟨cz (e.ai.set t (e.ai.getD t (.v .undef)).aa) o.dst (e.ai.getD t (.v .undef)),e.boxes⟩):yC P gl w0 ao o a w k:=by
 intro next Q hn
 unfold Oper.wp
 rw[ba]
 refine hn _ _ _ (match o.dst with|some d=>g.k9 t (fun j=>.s d j)|none=>g) (hI.hand (Ik e t o.dst) ?_ (Below.refl _ _) (fun d hd=>?_) ?_ (fun _ _=>rfl) (fun b o' aS=>?_)) h
 ·cases o.dst with
  |none=>exact⟨fun _ _ hb ho h=>⟨h,hb,ho,fun _ h=>h⟩,fun _ _ h=>(by first|exact⟨h,rfl⟩|exact⟨h,.refl _ _ _⟩),fun _ _ _=>rfl,fun _ _ h=>h,fun _ _ _ _ _ h=>⟨h,.refl _ _ _⟩,.refl _⟩
  |some d=>exact Ext.k9 t _ _ (fun j=>⟨t,j,rfl,.inl rfl⟩)
 ·rw[hd]
  exact(jz hI t).mono (fun _ _ h=>(by first|exact⟨h,rfl⟩|exact⟨h,.refl _ _ _⟩)) (fun _ _ _=>rfl) (fun _ _ h=>h) (.refl _) (fun j b a' c ho=>⟨Jj (q:=fun j=>.s d j) ho,.refl _ _ _⟩)
 ·cases o.dst<;>rfl
 ·have:g.St b o':=by cases hd:o.dst<;>rw[hd]at aS<;>exact aS
  exact hI.cE b o' this
theorem WM(hI:Inv gl w0 ao e a w g){o:Oper}{c:Call}(ho:o.op=.call c)(hc:c.callee=.builtin .append){t:Nat}{y:Operand}{ty u:TypeId}
  (hx:c.args.toList=[.tmp t,y])(ht:c.argTypes.toList=[ty,u]){k:Env→Prop}
  (h:bif Nat.beq ty u then(ab (nI P ty) fun e'=>ab (dY P e') fun sz=>ab (wz P e') fun cV=>ab (nD P e') fun z=>
    bif Nat.blt 0 cV&&Nat.blt 0 sz&&Nat.beq z.length sz then bV sz cV (e.ai.getD t (.v .undef)).bU ((Ab.aV gl e y).aa).bU fun r=>
     k ⟨cz (e.ai.set t (e.ai.getD t (.v .undef)).aa) o.dst (.v r),e.boxes⟩else False)else False):yC P gl w0 ao o a w k:=by
 have hs:=jz hI t
 have rx:aJ w g.St w0.heap.size (eW w0.heap.size w g t 0) (e.ai.getD t (.v .undef)).bU (a.eval (.tmp t)):=by
  revert hs
  generalize e.ai.getD t (.v .undef)=s
  intro hs
  cases s with
  |v x=>exact hs.jB
  |_=>exact .undef _ _
 intro next Q hn
 refine NS hI ho hc (Ik e t o.dst) (lost:=fun i=>i=t) hx ht rx (hI.g7 y) (fun b a' c' h=>⟨t,h,rfl⟩)
  (k:=fun s aA=>k ⟨cz (e.ai.set t (e.ai.getD t (.v .undef)).aa) o.dst s,aA⟩) h next Q (fun s v aA w' g' hinv hk=>hn _ v w' g' hinv hk)
theorem V3(hI:Inv gl w0 ao e a w g){o:Oper}{t i:Nat}(ho:o.op=.extract (.tmp t) i){vs:List SV}(hs:e.ai.getD t (.v .undef)=.t vs){r:SV}(hr:vs[i]? =some r){k:Env→Prop}
  (h:k ⟨cz (e.ai.set t (.t (vs.set i (aa r)))) o.dst (.v r),e.boxes⟩):yC P gl w0 ao o a w k:=by
 have mN:=jz hI t
 rw[hs]at mN
 obtain⟨tv,hv,hl,hc⟩:=mN.J5
 have hi:i<tv.size:=by rw[←hl];exact(List.getElem?_eq_some_iff.1 hr).1
 have BA:t<e.ai.length:=by
  rcases Nat.lt_or_ge t e.ai.length with h|h
  ·exact h
  ·rw[List.getD_eq_getElem?_getD,List.getElem?_eq_none h]at hs;cases hs
 intro next Q hn
 have ba:(execOp a.eval o).run P w=.ok (.value tv[i]) w:=by simp[execOp,ho,Instr.extract,hv,hi]
 unfold Oper.wp
 rw[ba]
 let g':Gh:={g with ow:=fun b=>if g.ow b=some (.s t i)then o.dst.map (fun d=>.s d 0)else g.ow b}
 have hX:Ext w0.heap.size w g w g' (fun p=>p=.s t i∨∃d j,o.dst=some d∧p=.s d j):=by
  refine⟨fun D _ hb hn h=>⟨h,hb,(by
   show(if g.ow D=some (.s t i)then o.dst.map (fun d=>Pos.s d 0)else g.ow D)=none
   rw[if_neg (by rw[hn];simp)];exact hn),fun _ h=>h⟩,fun _ _ h=>(by first|exact⟨h,rfl⟩|exact⟨h,.refl _ _ _⟩),fun _ _ _=>rfl,fun _ _ h=>h,fun p b a' c' hp bO=>⟨?_,.refl _ _ _⟩,.refl _⟩
  obtain⟨h1,h2,h3,h4,h5⟩:=bO
  refine⟨?_,h2,h3,h4,h5⟩
  show(if g.ow b=some (.s t i)then o.dst.map (fun d=>Pos.s d 0)else g.ow b)=some p
  rw[if_neg (by rw[h1];intro h;cases h;exact hp (.inl rfl))]
  exact h1
 refine hn _ _ w g' (hI.stepG hX (Below.refl _ _) (by simp) (fun i' x hx hd=>?_) (fun d hd=>?_) hI.eX (fun b bx aj h1 h2=>?_) hI.nodup hI.dn hI.cE) h
 ·rw[List.getElem?_set]at hx
  split at hx
  ·rename_i he
   subst he
   simp only[BA,↓reduceIte,Option.some.injEq]at hx
   subst hx
   have hvt:a.tmps.getD t undef=.tuple tv:=hv
   rw[hvt]
   refine .t _ _ tv (by simpa using hl) fun j x v hx gn=>?_
   rw[List.getElem?_set]at hx
   split at hx
   ·rename_i fO
    subst fO
    split at hx
    ·cases hx
     exact((hc i r v hr gn).aa (O':=fun _ _ _=>False)).mono hX.st hX.bs _ (fun _ _ _ h=>h.elim)
    ·cases hx
   ·rename_i fO
    refine(hc j x v hx gn).mono hX.st hX.bs _ (fun b a' c' bO=>hX.own _ b a' c' ?_ bO)
    rintro(h|⟨d,j',h1,h2⟩)
    ·cases h;exact fO rfl
    ·cases h2;exact hd h1
  ·rename_i he
   refine hX.slot (fun j=>?_) (hI.ai i' x hx)
   rintro(h|⟨d,j',h1,h2⟩)
   ·cases h;exact he rfl
   ·cases h2;exact hd h1
 ·refine .v _ _ _ ((hc i r tv[i] hr (by simp)).mono hX.st hX.bs _ (fun b a' c' bO=>⟨?_,.refl _ _ _⟩))
  obtain⟨h1,h2,h3,h4,h5⟩:=bO
  refine⟨?_,h2,h3,h4,h5⟩
  show(if g.ow b=some (.s t i)then o.dst.map (fun d=>Pos.s d 0)else g.ow b)=some (.s d 0)
  rw[if_pos h1,hd];rfl
 ·refine hX.box (fun j=>?_) rfl (hI.boxes b bx aj h1 h2)
  rintro(h|⟨d,j',h1,h2⟩)
  ·cases h
  ·cases h2
theorem YI(hI:Inv gl w0 ao e a w g){o:Oper}{ty:TypeId}{x:Operand}(ho:o.op=.load ty x){bn off:Nat}(hs:(Ab.aV gl e x).aa =.p bn off){ly:Bool×Nat}(hl:kp P ty=some ly)(la:ly.1=false)
  {cs:List SV}(cf:e.boxes[bn]? =some (.cells cs)){y:SV}(hy:cs[off]? =some y){k:Env→Prop}(h:k ⟨cz e.ai o.dst (.v y),e.boxes.set bn (.cells (cs.set off (aa y)))⟩):yC P gl w0 ao o a w k:=by
 obtain⟨b0,n⟩:=ly
 simp only at la
 subst la
 obtain⟨aj,hv,dk⟩:=(hI.mj hs).mc
 obtain⟨h0,c,te,hc,cq,hlen,bc⟩:=hI.boxes bn _ aj cf dk
 have yQ:off<c.size:=Nat.lt_of_lt_of_le (List.getElem?_eq_some_iff.1 hy).1 hlen
 have aP:w.cell? ⟨aj,off,none⟩=some c[off]:=by rw[cell_of_row w aj off c te (0,0) hc];simp[yQ]
 have ba:(execOp a.eval o).run P w=.ok (.value c[off]) w:=by
  have:=xS (P:=P) (w:=w) hl aj off (fun _=>c[off]) (fun j hj=>by simp at hj;subst hj;exact aP)
  simp[execOp,ho,Instr.loadAt,Instr.sureAddr,hv,this]
 intro next Q hn
 unfold Oper.wp
 rw[ba]
 let g':Gh:={g with ow:=fun b=>if g.ow b=some (.b bn off)then o.dst.map (fun d=>.s d 0)else g.ow b}
 refine hn _ _ w g' (hI.JK (dst:=o.dst) (ai:=e.ai) (fun _=>False) (fun j=>j=off) (g':=g') rfl rfl (fun p b' h1 h2 h3 h4=>?_) (fun D hD=>by
   show(if g.ow D=some (.b bn off)then o.dst.map (fun d=>.s d 0)else g.ow D)=none
   rw[if_neg (by rw[hD];simp)];exact hD) dk (fun j y hj=>cq j y (by simpa[af.size]using hj)) hc (fun c ty h=>by rw[hc]at h;cases h;rfl) (fun _ _=>rfl) rfl ⟨rfl,rfl,rfl⟩ rfl
  (fun i x hx _=>⟨x,hx,.inl ⟨rfl,fun h=>h⟩⟩) (fun hX=>?_) (fun hX d hd=>?_)) h
 ·show(if g.ow b'=some (.b bn off)then o.dst.map (fun d=>Pos.s d 0)else g.ow b')=some p
  rw[if_neg (by rw[h4];intro h;cases h;exact h2 off rfl rfl)]
  exact h4
 ·refine⟨by simpa using hlen,fun j x u hx hu=>?_⟩
  rw[List.getElem?_set]at hx
  split at hx
  ·rename_i hj
   subst hj
   split at hx
   ·cases hx
    exact((bc off y u hy hu).aa (O':=fun _ _ _=>False)).mono hX.st hX.bs _ (fun _ _ _ h=>h.elim)
   ·cases hx
  ·rename_i hj
   refine(bc j x u hx hu).mono hX.st hX.bs _ (fun b' a' c' bO=>hX.own _ b' a' c' ?_ bO)
   rintro(⟨i,j',h,_⟩|⟨j',h,h'⟩|⟨d,j',_,h⟩)
   ·cases h
   ·cases h;exact hj h'.symm
   ·cases h
 ·refine .v _ _ _ ((bc off y c[off] hy (by simp)).mono hX.st hX.bs _ (fun b' a' c' bO=>⟨?_,.refl _ _ _⟩))
  obtain⟨h1,h2,h3,h4,h5⟩:=bO
  refine⟨?_,h2,h3,h4,h5⟩
  show(if g.ow b'=some (.b bn off)then o.dst.map (fun d=>Pos.s d 0)else g.ow b')=some (.s d 0)
  rw[if_pos h1,hd];rfl
theorem Xz(hI:Inv gl w0 ao e a w g){o:Oper}{ty:TypeId}{x:Operand}{t:Nat}(ho:o.op=.store ty x (.tmp t))(hd:o.dst=none){bn off:Nat}(hs:(Ab.aV gl e x).aa =.p bn off)
  (oz:dY P ty=some 1){y:SV}(hy:e.ai.getD t (.v .undef)=.v y){cs:List SV}(cf:e.boxes[bn]? =some (.cells cs)){l:List SV}(hl:az y=some l)(vE:l.length=1)(yQ:off<cs.length)
  {k:Env→Prop}(h:k ⟨e.ai.set t (.v (aa y)),e.boxes.set bn (.cells (setAt cs off l))⟩):yC P gl w0 ao o a w k:=by
 obtain⟨aj,hv,dk⟩:=(hI.mj hs).mc
 obtain⟨h0,c,te,hc,cq,hlen,bc⟩:=hI.boxes bn _ aj cf dk
 have mN:=jz hI t
 rw[hy]at mN
 obtain⟨c1,c2,c3⟩:=mN.jB.cells hl
 have jG:(a.eval (.tmp t)).cells.size =1:=by rw[←c1,vE]
 have aS:=EC (P:=P) (w:=w) oz hc jG c2 (off:=off) (by omega)
 have ba:(execOp a.eval o).run P w=.ok .skip (w.setRow aj (c.toList.take off++(a.eval (.tmp t)).cells.toList ++c.toList.drop (off+1)).toArray):=by
  simp[execOp,ho,Instr.storeAt,Instr.sureAddr,hv,aS]
 intro next Q hn
 unfold Oper.wp
 rw[ba]
 have ku:=setRow_heap w aj c (c.toList.take off++(a.eval (.tmp t)).cells.toList ++c.toList.drop (off+1)).toArray te (0,0) hc
 let g':Gh:=g.k9 t (fun _=>.b bn off)
 have jn:∀j,(c.toList.take off++(a.eval (.tmp t)).cells.toList ++c.toList.drop (off+1)).toArray[j]? =if j<off then c[j]? else if j<off+1 then(a.eval (.tmp t)).cells[j-off]? else c[j]? :=by
  intro j
  have mY:(a.eval (.tmp t)).cells.toList.length =1:=by simpa using jG
  have:=uq c.toList (a.eval (.tmp t)).cells.toList off (by rw[mY];simp;omega) j
  rw[mY]at this
  simp only[List.getElem?_toArray]
  rw[this]
  simp only[Array.getElem?_toList]
 have e0:(⟨e.ai.set t (.v (aa y)),e.boxes.set bn (.cells (setAt cs off l))⟩:Env)=⟨cz (e.ai.set t (.v (aa y))) o.dst (.t []),e.boxes.set bn (.cells (setAt cs off l))⟩:=by rw[hd];rfl
 rw[e0]at h
 refine hn _ undef _ g' (hI.JK (dst:=o.dst) (s:=.t []) (ai:=e.ai.set t (.v (aa y))) (fun i=>i=t) (fun j=>j=off) (g':=g') rfl rfl (fun p b' h1 h2 h3 h4=>?_) (fun D hD=>by simp[g',Gh.k9,hD]) dk ?_ ku (fun c ty h=>by rw[hc]at h;cases h;simp[jG];omega)
  (fun k hk=>setRow_other w aj k _ hk) (by simp[World.setRow]) ⟨rfl,rfl,rfl⟩ (by simp) (fun i x hx _=>?_) (fun hX=>?_) (fun hX d ic=>by rw[hd]at ic;cases ic)) h
 ·show(match g.ow b' with|some (.s i j)=>if i=t then some (Pos.b bn off)else some (.s i j)|x=>x)=some p
  rw[h4]
  cases p with
  |s i j=>simp only;rw[if_neg (fun h=>h1 i j rfl h)]
  |b i j=>rfl
 ·intro j u hj hu
  rw[←jG]at hu
  exact Oc (m:=cs.length) (by omega) cq c2 j u (by simp only[af.size,z3 l cs off (by omega),List.length_append,List.length_take,List.length_drop]at hj;omega) hu
 ·rw[List.getElem?_set]at hx
  split at hx
  ·rename_i he
   subst he
   split at hx
   ·rename_i aF
    cases hx
    rw[List.getD_eq_getElem?_getD,List.getElem?_eq_getElem aF]at hy
    simp only[Option.getD_some]at hy
    exact⟨_,List.getElem?_eq_getElem aF,.inr (by rw[hy];rfl)⟩
   ·cases hx
  ·rename_i he
   exact⟨x,hx,.inl ⟨rfl,fun h=>he h.symm⟩⟩
 ·rw[z3 l cs off (by omega)]
  refine⟨by simp[jG,vE];omega,fun j x' u dK hu=>?_⟩
  rw[jn]at hu
  rw[uq cs l off (by omega),vE]at dK
  have gq:j≠off→cs[j]? =some x'→c[j]? =some u→aJ (w.setRow aj (c.toList.take off++(a.eval (.tmp t)).cells.toList ++c.toList.drop (off+1)).toArray) g'.St w0.heap.size (rD w0.heap.size _ g' bn j) x' u:=fun hj h4 h5=>
   (bc j x' u h4 h5).mono hX.st hX.bs _ (fun b' a' c' bO=>hX.own _ b' a' c' (by
     rintro(⟨i,j',h,_⟩|⟨j',h,h'⟩|⟨d,j',_,h⟩)
     ·cases h
     ·cases h;exact hj h'
     ·cases h) bO)
  split at dK
  ·rename_i hj
   rw[if_pos hj]at hu
   exact gq (by omega) dK hu
  ·rename_i hj
   rw[if_neg hj]at hu
   split at dK
   ·rename_i tU
    rw[if_pos tU]at hu
    have Gy:j=off:=by omega
    subst Gy
    refine(c3 (j-j) x' u dK hu).mono hX.st hX.bs _ (fun b' a' c' bO=>?_)
    have:=Jj (q:=fun _=>Pos.b bn j) bO
    obtain⟨h1,h2,h3,⟨cur,rQ,h4,kZ⟩,h5⟩:=this
    have bg:b'≠aj:=fun h=>h3 (h▸List.mem_of_getElem? dk)
    exact⟨⟨h1,h2,h3,⟨cur,rQ,(setRow_other w aj b' _ bg).trans h4,kZ⟩,h5⟩,fun _=>setRow_other w aj b' _ bg⟩
   ·rename_i tU
    rw[if_neg tU]at hu
    exact gq (by omega) dK hu
theorem WN(hI:Inv gl w0 ao e a w g){o:Oper}{k:Env→Prop}(h:kR P gl (aD P gl) o e k):yC P gl w0 ao o a w k:=by
 unfold kR at h
 split at h
 ·rename_i t ho;exact PF hI (by simp[execOp,ho]) h
 ·rename_i t ho;exact PF hI (by simp[execOp,ho]) h
 ·rename_i t i ho
  split at h
  ·rename_i vs hs
   split at h
   ·rename_i r hr;exact V3 hI ho hs hr h
   ·exact h.elim
  ·exact h.elim
 ·rename_i ty x ho
  split at h
  ·rename_i b off hs
   obtain⟨ly,hl,h⟩:=aI h
   cases la:ly.1 with
   |true=>rw[la]at h;exact h.elim
   |false=>
    rw[la]at h
    simp only[cond_false]at h
    split at h
    ·rename_i cs cf
     obtain⟨y,hy,h⟩:=aI h
     exact YI hI ho hs hl la cf hy h
    ·exact h.elim
  ·exact h.elim
 ·rename_i ty x t ho
  split at h
  ·rename_i b off y hs hy hd
   obtain⟨sz,aM,h⟩:=aI h
   cases hb:Nat.beq sz 1 with
   |false=>rw[hb]at h;exact h.elim
   |true=>
    rw[hb]at h
    simp only[cond_true]at h
    have:=Nat.eq_of_beq_eq_true hb
    subst this
    split at h
    ·rename_i cs cf
     obtain⟨l,hl,h1,h2,h⟩:=aI h
     exact Xz hI ho hd hs aM hy cf hl h1 h2 h
    ·exact h.elim
  ·exact h.elim
 ·rename_i t n ps ho
  obtain⟨r',e',sz,L,hk,ba,aM,lF,gF,bc⟩:=Nd hI ho (K:=fun sz L=>k ⟨cz e.ai o.dst (.v (.bt sz L)),e.boxes⟩) h
  intro next Q hn
  exact bp.Qo hI (k:=fun s aA=>k ⟨cz e.ai o.dst s,aA⟩) ba aM lF gF bc hk next Q (fun s v aA w' g' hinv hk=>hn _ v w' g' hinv hk)
 ·rename_i c ho
  split at h
  ·rename_i t y ty u hc hx ht
   exact WM hI ho hc hx ht h
  ·rename_i f hc
   split at h
   ·rename_i t g' hp hg
    split at h
    ·rename_i y hy
     exact Ij hI ho hc hp hg hy h
    ·exact h.elim
   ·exact h.elim
  ·exact h.elim
 ·exact h.elim
theorem O7(hI:Inv gl w0 ao e a w g){id:Nat}{aE:Bool}{o:Oper}{k:Env→Prop}(h:mP P gl (aD P gl) id aE o e k):yC P gl w0 ao o a w k:=by
 unfold mP at h
 cases aE<;>simp only[cond_true,cond_false]at h
 ·intro next Q hn
  exact YH hI h next Q (fun s v aA w' g' hinv hk=>hn _ v w' g' hinv hk)
 ·exact WN hI h
end
end Go.Proofs.Ytimbllcalipehaa.Ab
namespace Go.Proofs.Ytimbllcalipehaa.Ab
open Go Go.RowKit
def lb(U:Option (Nat×af))(aA:List af):List af:=match U with
 |none=>aA
 |some (b,bx)=>aA.set b bx
def iR(src:Option (Nat×Slot))(l:List Slot):List Slot:=match src with
 |none=>l
 |some (t,s)=>l.set t s
def rE(x y:Option af):Prop:=x=y∨∃cs eH,x=some (.cells cs)∧y=some (.cells eH)∧cs.map Ab.aa=eH.map Ab.aa
theorem rE.refl(x:Option af):rE x x:=.inl rfl
theorem rE.symm{x y:Option af}(h:rE x y):rE y x:=by
 rcases h with h|⟨cs,eH,h1,h2,h3⟩
 ·exact .inl h.symm
 ·exact .inr ⟨eH,cs,h2,h1,h3.symm⟩
theorem rE.trans{x y z:Option af}(h:rE x y)(k:rE y z):rE x z:=by
 rcases h with rfl|⟨cs,eH,h1,h2,h3⟩
 ·exact k
 ·rcases k with rfl|⟨ds,Lw,k1,k2,k3⟩
  ·exact .inr ⟨cs,eH,h1,h2,h3⟩
  ·rw[h2]at k1
   cases k1
   exact .inr ⟨cs,Lw,h1,k2,h3.trans k3⟩
theorem Z3(x:SV):cT (aa x)=cT x:=by cases x<;>rfl
theorem IL:∀(l:List SV),dG (l.map aa)=dG l
 |[]=>rfl
 |x::l=>by simp only[List.map_cons,dG,Z3,IL l]
theorem WO{agg:Bool}{sz off:Nat}{cs eH:List SV}{y:SV}(h:cs.map Ab.aa=eH.map Ab.aa)(hy:ah agg sz off cs=some y):∃y',ah agg sz off eH=some y'∧aa y'=aa y:=by
 have hlen:cs.length=eH.length:=by have:=congrArg List.length h;simpa using this
 cases agg with
 |false=>
  simp only[ah,cond_false]at hy ⊢
  have h1:(eH.map Ab.aa)[off]? =some (aa y):=by rw[←h];simp[hy]
  rw[List.getElem?_map]at h1
  obtain⟨y',h2,h3⟩:=Option.map_eq_some_iff.1 h1
  exact⟨y',h2,h3⟩
 |true=>
  refine⟨y,?_,rfl⟩
  simp only[ah,cond_true]at hy ⊢
  have h1:dG ((eH.drop off).take sz)=dG ((cs.drop off).take sz):=by
   rw[←IL,←IL ((cs.drop off).take sz),List.map_take,List.map_drop,List.map_take,List.map_drop,h]
  rw[h1,←hlen]
  exact hy
def lz(aey:Bool)(s:Slot)(aA b':List af):Prop:=(∀b off,s=.p b off→rE b'[b]? aA[b]? ∧(aey=false→b'[b]? =aA[b]?))∧(∀n,snap b' n s=snap aA n s)∧∀b l,s=.m b→(b'[b]? =some (.map l)↔aA[b]? =some (.map l))
structure ve(id:Nat)(aE:Bool)(o:Oper)(U:Option (Nat×af))(ρ:Operand→Slot)(aA b':List af):Prop where
 mem:g4 o=true→∀x∈o.op.operands,lz (!jb o&& !aE) (ρ x) aA b'
 fresh:fT o=true→U≠none→b'[id]? =some .none
inductive uX(id:Nat)(o:Oper)(aE:Bool)(ρ:Operand→Slot)(aA:List af):Option (Nat×af)→Prop
 |none:uX id o aE ρ aA none
 |mk (bx:af) (h:fT o=true) (hn:aA[id]? =some .none) (hb:bx≠.none):uX id o aE ρ aA (some (id,bx))
 |wr (b:Nat) (bx gq:af) (h:g4 o=true) (hw:jb o=true∨aE=true) (x:Operand) (hx:x∈o.op.operands) (off:Nat) (hp:ρ x=.p b off∨ρ x=.m b) (ho:aA[b]? =some gq) (hold:gq≠.none) (hb:bx≠.none ∧bx.isMap=gq.isMap)
   (qb:aE=true→jb o=false→∃cs eH,gq=.cells cs∧bx=.cells eH∧cs.map Ab.aa=eH.map Ab.aa)
   (ha:∀t y z,o.op=.store t y z→x=y):
   uX id o aE ρ aA (some (b,bx))
inductive dC(K:Nat→Prop):Slot→Prop
 |v (x:SV):dC K (.v x)
 |t (l:List SV):dC K (.t l)
 |p (b off:Nat) (h:K b):dC K (.p b off)
 |a (b n sz:Nat) (h:K b):dC K (.a b n sz)
 |m (b:Nat) (h:K b):dC K (.m b)
 |c (f:Fn) (first cap:List Slot) (h1:∀s∈first,dC K s) (h2:∀s∈cap,dC K s):dC K (.c f first cap)
theorem dC.kF{K:Nat→Prop}{s:Slot}(h:dC K s):dC K s.aa:=by
 cases h with
 |v x=>exact .v _
 |t l=>exact .t _
 |p b off h=>exact .p b off h
 |a b n sz h=>exact .a b n sz h
 |m b h=>exact .m b h
 |c f first cap h1 h2=>exact .c f first cap h1 h2
theorem dC.adF{K:Nat→Prop}{s:Slot}(h:dC K s.aa):dC K s:=by
 cases s with
 |v x=>exact .v _
 |t l=>exact .t _
 |p b off=>exact h
 |a b n sz=>exact h
 |m b=>exact h
 |c f first cap=>exact h
theorem dC.mc{K:Nat→Prop}{b off:Nat}(h:dC K (.p b off)):K b:=by cases h;assumption
theorem dC.RX{K:Nat→Prop}{b:Nat}(h:dC K (.m b)):K b:=by cases h;assumption
theorem dC.AZ{K:Nat→Prop}{b n sz:Nat}(h:dC K (.a b n sz)):K b:=by cases h;assumption
def addrOf(o:Oper):Option Operand:=match o.op with| .store _ x _=>some x|_=>none
def Bc(o:Oper)(ρ:Operand→Slot)(aA:List af)(s:Slot)(U:Option (Nat×af)):Prop:=
 ∀(K B:Nat→Prop),(∀b,K b→B b)→(∀x∈o.op.operands,addrOf o≠some x→dC K (ρ x))→(∀t x y,o.op=.store t x y→dC K (ρ y))→(∀b s,B b→aA[b]? =some (.one s)→dC K s)→
  (fT o=false→dC K s)∧∀b s',U=some (b,.one s')→fT o=false→dC K s'
theorem iv{o:Oper}{ρ:Operand→Slot}{aA:List af}{x:SV}:Bc o ρ aA (.v x) none:=fun _ _ _ _ _ _=>⟨fun _=>.v _,fun _ _ h=>by cases h⟩
theorem F9{o:Oper}{ρ:Operand→Slot}{aA:List af}{s:Slot}{U:Option (Nat×af)}(h:fT o=true):Bc o ρ aA s U:=fun _ _ _ _ _ _=>⟨fun h2=>(by rw[h]at h2;cases h2),fun _ _ _ h2=>(by rw[h]at h2;cases h2)⟩
theorem Ga{o:Oper}{ρ:Operand→Slot}{aA:List af}{s:Slot}(h:∀K,dC K s):Bc o ρ aA s none:=fun K _ _ _ _ _=>⟨fun _=>h K,fun _ _ h=>by cases h⟩
theorem tG{o:Oper}{ρ:Operand→Slot}{aA:List af}{s:Slot}{x:Operand}(hx:x∈o.op.operands)(ha:addrOf o=none)(h:∀K,dC K (ρ x)→dC K s):Bc o ρ aA s none:=fun K _ _ hρ _ _=>⟨fun _=>h K (hρ x hx (by rw[ha];simp)),fun _ _ h=>by cases h⟩
theorem Gb{o:Oper}{ρ:Operand→Slot}{aA:List af}{l:List SV}{b:Nat}{cs:List SV}:Bc o ρ aA (.t l) (some (b,.cells cs)):=fun _ _ _ _ _ _=>⟨fun _=>.t _,fun _ _ h=>by cases h⟩
section
variable{P:Program}{gl:Nat→Option D}{C:bd}
theorem ED{ρ ρ':Operand→Slot}:∀{l:List (Nat×Operand)},(∀p∈l,ρ' p.2=ρ p.2)→nO ρ' l=nO ρ l
 |[],_=>rfl
 |(i,x)::l,h=>by
  simp only[nO]
  rw[h (i,x) (by simp),ED (fun p hp=>h p (by simp[hp]))]
theorem HF{ρ ρ':Operand→Slot}{aA b':List af}:∀{l:List Operand},(∀x∈l,snap b' 6 (ρ' x)=snap aA 6 (ρ x))→iq b' ρ' l=iq aA ρ l
 |[],_=>rfl
 |x::l,h=>by
  simp only[iq]
  rw[h x (by simp),HF (fun p hp=>h p (by simp[hp]))]
theorem HZ{ρ ρ':Operand→Slot}{x:Option Operand}(h:∀y,x=some y→ρ' y=ρ y):pc ρ' x=pc ρ x:=by
 cases x with
 |none=>rfl
 |some y=>simp only[pc];rw[h y rfl]
theorem O8:∀{n:Nat}{k:List SV→Prop}(rs:List SV),rs.length=n→k rs→xm n k
 |0,_,[],_,h=>h
 |n+1,_,r::rs,hl,h=>⟨r,O8 rs (by simpa using hl) h⟩
 |0,_,_::_,hl,_=>by simp at hl
 |_+1,_,[],hl,_=>by simp at hl
theorem H0{n:Nat}{aA:List af}{k:Slot→List af→Prop}{f:FuncId}{args:List SV}(h:nT C n aA k f args):
  ∃s,k s aA∧(∀K,dC K s)∧∀b' k',k' s b'→nT C n b' k' f args:=by
 unfold nT at h
 split at h
 ·obtain⟨r,h1,h2,h3⟩:=h
  exact⟨.v r,h3,fun K=>.v _,fun b' k' hk=>⟨r,h1,h2,hk⟩⟩
 ·rename_i hn
  obtain⟨rs,hl,h1,h2⟩:=Cz h
  refine⟨.t rs,h2,fun K=>.t _,fun b' k' hk=>?_⟩
  unfold nT
  split
  ·exact absurd rfl hn
  ·exact O8 rs hl ⟨h1,hk⟩
theorem V4{x:SV}{args:List SV}{K:FuncId→List SV→Prop}(h:withFn x args K):∃f l,K f l∧∀K':FuncId→List SV→Prop,K' f l→withFn x args K':=by
 unfold withFn at h
 split at h
 ·exact⟨_,_,h,fun _ h=>h⟩
 ·exact⟨_,_,h,fun _ h=>h⟩
 ·exact h.elim
theorem Vr{x:SV}{name:String}{args:List SV}{K:FuncId→List SV→Prop}(h:wv P x name args K):∃f l,K f l∧∀K':FuncId→List SV→Prop,K' f l→wv P x name args K':=by
 unfold wv at h
 split at h
 ·obtain⟨f,hf,h⟩:=aI h
  exact⟨_,_,h,fun K' hk=>by simp only[wv,hf];exact hk⟩
 ·exact h.elim
theorem Z4{aA b':List af}{f:Fn}{first cap:List Slot}(h:∀n,snap b' n (.c f first cap)=snap aA n (.c f first cap)):
  jd (snap b' 6) first=jd (snap aA 6) first∧jd (snap b' 6) cap=jd (snap aA 6) cap:=by
 have:=h 7
 simp only[snap,SV.di.injEq,true_and]at this
 exact this
theorem YJ{id:Nat}{o:Oper}{ρ:Operand→Slot}{aA:List af}{k:Slot→List af→Prop}(h:cX P C id o ρ aA k):
  ∃s U,k s (lb U aA)∧uX id o false ρ aA U∧Bc o ρ aA s U∧
   ∀(ρ':Operand→Slot)(b':List af)(k':Slot→List af→Prop),(∀x∈o.op.operands,ρ' x=ρ x)→ve id false o U ρ aA b'→k' s (lb U b')→cX P C id o ρ' b' k':=by
 cases ho:o.op<;>simp only[cX,ho]at h
 case move x=>
  refine⟨_,none,h,.none,tG (x:=x) (by simp[ho,Op.operands]) (by simp[addrOf,ho]) (fun _ h=>h),fun ρ' b' k' hρ _ hk=>?_⟩
  simp only[cX,ho];rw[hρ x (by simp[Op.operands])];exact hk
 case assign x=>
  refine⟨_,none,h,.none,tG (x:=x) (by simp[ho,Op.operands]) (by simp[addrOf,ho]) (fun _ h=>h),fun ρ' b' k' hρ _ hk=>?_⟩
  simp only[cX,ho];rw[hρ x (by simp[Op.operands])];exact hk
 case pick c x y=>
  split at h
  ·rename_i s hs
   obtain⟨b,rfl,h1,h2⟩:=Af h
   cases b
   ·refine⟨_,none,h2 rfl,.none,tG (x:=y) (by simp[ho,Op.operands]) (by simp[addrOf,ho]) (fun _ h=>h),fun ρ' b' k' hρ _ hk=>?_⟩
    simp only[cX,ho];rw[hρ c (by simp[Op.operands]),hρ x (by simp[Op.operands]),hρ y (by simp[Op.operands]),hs];exact hk
   ·refine⟨_,none,h1 rfl,.none,tG (x:=x) (by simp[ho,Op.operands]) (by simp[addrOf,ho]) (fun _ h=>h),fun ρ' b' k' hρ _ hk=>?_⟩
    simp only[cX,ho];rw[hρ c (by simp[Op.operands]),hρ x (by simp[Op.operands]),hρ y (by simp[Op.operands]),hs];exact hk
  ·exact h.elim
 case alloc t=>
  split at h
  ·rename_i eZ
   obtain⟨z,hz,hk⟩:=aI h
   refine⟨_,some (id,_),hk,.mk _ (by simp[fT,ho]) eZ (by simp),F9 (by simp[fT,ho]),fun ρ' b' k' hρ hS hk=>?_⟩
   simp only[cX,ho,hS.fresh (by simp[fT,ho]) (by simp),hz,ab];exact hk
  ·exact h.elim
 case box t x=>
  split at h
  ·rename_i eZ
   obtain⟨sz,aM,h⟩:=aI h
   split at h
   ·rename_i y hy
    obtain⟨l,hl,hlen,hk⟩:=aI h
    refine⟨_,some (id,_),hk,.mk _ (by simp[fT,ho]) eZ (by simp),F9 (by simp[fT,ho]),fun ρ' b' k' hρ hS hk=>?_⟩
    simp only[cX,ho,hS.fresh (by simp[fT,ho]) (by simp),aM,ab];rw[hρ x (by simp[Op.operands]),hy];simp only[hl];exact⟨hlen,hk⟩
   ·exact h.elim
   ·rename_i h1 h2
    split at h
    ·refine⟨_,some (id,_),h,.mk _ (by simp[fT,ho]) eZ (by simp),F9 (by simp[fT,ho]),fun ρ' b' k' hρ hS hk=>?_⟩
     simp only[cX,ho,hS.fresh (by simp[fT,ho]) (by simp),aM,ab];rw[hρ x (by simp[Op.operands])]
     split
     ·rename_i y hy;exact absurd hy (h1 y)
     ·rename_i y hy;exact absurd hy (h2 y)
     ·exact hk
    ·exact h.elim
  ·exact h.elim
 case build t ps=>
  obtain⟨l,hl,h⟩:=aI h
  obtain⟨r,hr,h⟩:=aI h
  refine⟨_,none,h,.none,iv,fun ρ' b' k' hρ _ hk=>?_⟩
  simp only[cX,ho]
  rw[ED (fun p hp=>hρ p.2 (by simp only[Op.operands,List.mem_toArray,List.mem_map];exact⟨p,hp,rfl⟩)),hl]
  simp only[ab,hr];exact hk
 case buildSlice t n ps=>
  obtain⟨e,he,h⟩:=aI h
  obtain⟨ly,la,h⟩:=aI h
  obtain⟨z,hz,h⟩:=aI h
  obtain⟨l,hl,h⟩:=aI h
  cases hc:(Nat.ble (n*ly.2) (2^24)&&Nat.blt 0 ly.2&&Nat.beq z.length ly.2)with
  |false=>rw[hc]at h;exact h.elim
  |true=>
   rw[hc]at h
   simp only[cond_true]at h
   refine⟨_,none,h.2,.none,iv,fun ρ' b' k' hρ _ hk=>?_⟩
   simp only[cX,ho]
   rw[ED (fun p hp=>hρ p.2 (by simp only[Op.operands,List.mem_toArray,List.mem_map];exact⟨p,hp,rfl⟩)),hl]
   simp only[ab,he,la,hz,hc,cond_true];exact⟨h.1,hk⟩
 case load t x=>
  obtain⟨ly,hl,h⟩:=aI h
  split at h
  ·rename_i bn off hs
   unfold pS at h
   have GG:∀{U b'},ve id false o U ρ aA b'→rE b'[bn]? aA[bn]? :=fun hS=>((hS.mem (by simp[g4,ho]) x (by simp[ho,Op.operands])).1 bn off hs).1
   split at h
   ·rename_i cs cf
    obtain⟨y,hy,h⟩:=aI h
    refine⟨_,none,h,.none,iv,fun ρ' b' k' hρ hS hk=>?_⟩
    simp only[cX,ho,hl,ab];rw[hρ x (by simp[Op.operands]),hs]
    rcases GG hS with hn|⟨ds,Lw,h1,h2,h3⟩
    ·simp only[pS,hn,cf,ab,hy];exact hk
    ·rw[cf]at h2
     cases h2
     obtain⟨y',oB,hd⟩:=WO h3.symm hy
     simp only[pS,h1,ab,oB,hd];exact hk
   ·rename_i s cf
    cases hb:ly.1 with
    |true=>rw[hb]at h;exact h.elim
    |false=>
     rw[hb]at h
     simp only[cond_false]at h
     have BB:∀{U b'},ve id false o U ρ aA b'→b'[bn]? =aA[bn]? :=fun hS=>by
      rcases GG hS with hn|⟨ds,Lw,_,h2,_⟩
      ·exact hn
      ·rw[cf]at h2;cases h2
     split at h
     ·refine⟨_,none,h,.none,fun K B BC hρ' _ dA=>⟨fun _=>(dA bn s (BC bn (by have:=hρ' x (by simp[ho,Op.operands]) (by simp[addrOf,ho]);rw[hs]at this;exact this.mc)) cf).kF,fun _ _ h=>by cases h⟩,fun ρ' b' k' hρ hS hk=>?_⟩
      simp only[cX,ho,hl,ab];rw[hρ x (by simp[Op.operands]),hs];simp only[pS,BB hS,cf,hb,cond_false];exact hk
     ·exact h.elim
   ·exact h.elim
  ·rename_i s hs
   obtain⟨y,hy,h⟩:=aI h
   refine⟨_,none,h,.none,iv,fun ρ' b' k' hρ hS hk=>?_⟩
   simp only[cX,ho,hl,ab];rw[hρ x (by simp[Op.operands]),hs];simp only[hy];exact hk
  ·exact h.elim
 case store t x y=>
  obtain⟨n,hn,h⟩:=aI h
  split at h
  ·rename_i bn off hs
   have BB:∀{U b'},ve id false o U ρ aA b'→b'[bn]? =aA[bn]? :=fun hS=>((hS.mem (by simp[g4,ho]) x (by simp[ho,Op.operands])).1 bn off hs).2 (by simp[jb,ho])
   split at h
   ·rename_i hd
    unfold sR at h
    have uf:∀bx gq,aA[bn]? =some gq→gq≠.none →bx≠.none ∧bx.isMap=gq.isMap→uX id o false ρ aA (some (bn,bx)):=fun bx gq h1 h2 h3=>
     .wr bn bx gq (by simp[g4,ho]) (.inl (by simp[jb,ho])) x (by simp[ho,Op.operands]) off (.inl hs) h1 h2 h3 (fun h=>by cases h) (fun t' y' z' h=>by rw[ho]at h;cases h;rfl)
    split at h
    ·rename_i cs cf
     split at h
     ·rename_i z hz
      obtain⟨l,hl,h1,h2,h⟩:=aI h
      refine⟨_,some (bn,_),h,uf _ _ cf (by simp) (by simp[af.isMap]),(by first|exact Gb|exact fun K B _ _ hv _=>⟨fun _=>.t _,fun _ _ h _=>by cases h;exact hv _ _ _ (by assumption)⟩),fun ρ' b' k' hρ hS hk=>?_⟩
      simp only[cX,ho,hn,ab];rw[hρ x (by simp[Op.operands]),hρ y (by simp[Op.operands]),hs,hz,hd];simp only[sR,BB hS,cf,hl,ab];exact⟨h1,h2,hk⟩
     ·exact h.elim
     ·rename_i h1 h2
      split at h
      ·refine⟨_,some (bn,_),h,uf _ _ cf (by simp) (by simp[af.isMap]),(by first|exact Gb|exact fun K B _ _ hv _=>⟨fun _=>.t _,fun _ _ h _=>by cases h;exact hv _ _ _ (by assumption)⟩),fun ρ' b' k' hρ hS hk=>?_⟩
       simp only[cX,ho,hn,ab];rw[hρ x (by simp[Op.operands]),hρ y (by simp[Op.operands]),hs,hd];simp only[sR,BB hS,cf];exact hk
      ·exact h.elim
    ·rename_i s0 cf
     split at h
     ·split at h
      ·rename_i z hz
       obtain⟨l,hl,h1,h⟩:=aI h
       refine⟨_,some (bn,_),h,uf _ _ cf (by simp) (by simp[af.isMap]),(by first|exact Gb|exact fun K B _ _ hv _=>⟨fun _=>.t _,fun _ _ h _=>by cases h;exact hv _ _ _ (by assumption)⟩),fun ρ' b' k' hρ hS hk=>?_⟩
       simp only[cX,ho,hn,ab];rw[hρ x (by simp[Op.operands]),hρ y (by simp[Op.operands]),hs,hz,hd];simp only[sR,BB hS,cf,hl,ab];exact⟨h1,hk⟩
      ·exact h.elim
      ·rename_i h1 h2
       refine⟨_,some (bn,_),h,uf _ _ cf (by simp) (by simp[af.isMap]),(by first|exact Gb|exact fun K B _ _ hv _=>⟨fun _=>.t _,fun _ _ h _=>by cases h;exact hv _ _ _ (by assumption)⟩),fun ρ' b' k' hρ hS hk=>?_⟩
       simp only[cX,ho,hn,ab];rw[hρ x (by simp[Op.operands]),hρ y (by simp[Op.operands]),hs,hd];simp only[sR,BB hS,cf];exact hk
     ·exact h.elim
    ·exact h.elim
   ·exact h.elim
  ·exact h.elim
 case nilCheck x=>
  split at h
  ·rename_i y hy
   obtain⟨z,hz,h⟩:=aI h
   refine⟨_,none,h,.none,iv,fun ρ' b' k' hρ _ hk=>?_⟩
   simp only[cX,ho];rw[hρ x (by simp[Op.operands]),hy];simp only[hz,ab];exact hk
  ·exact h.elim
  ·rename_i f first cap hy
   split at h
   ·refine⟨_,none,h,.none,tG (x:=x) (by simp[ho,Op.operands]) (by simp[addrOf,ho]) (fun _ h=>by rw[hy]at h;exact h),fun ρ' b' k' hρ _ hk=>?_⟩
    simp only[cX,ho];rw[hρ x (by simp[Op.operands]),hy];exact hk
   ·split at h
    ·obtain⟨z,hz,h⟩:=aI h
     refine⟨_,none,h,.none,tG (x:=x) (by simp[ho,Op.operands]) (by simp[addrOf,ho]) (fun _ h=>by rw[hy]at h;exact h),fun ρ' b' k' hρ _ hk=>?_⟩
     simp only[cX,ho];rw[hρ x (by simp[Op.operands]),hy];simp only[hz,ab];exact hk
    ·exact h.elim
   ·exact h.elim
  ·rename_i b off hy
   refine⟨_,none,h,.none,tG (x:=x) (by simp[ho,Op.operands]) (by simp[addrOf,ho]) (fun _ h=>by rw[hy]at h;exact h),fun ρ' b' k' hρ _ hk=>?_⟩
   simp only[cX,ho];rw[hρ x (by simp[Op.operands]),hy];exact hk
  ·exact h.elim
 case binOp op t x y u=>
  obtain⟨z,hz,h⟩:=aI h
  refine⟨_,none,h,.none,iv,fun ρ' b' k' hρ _ hk=>?_⟩
  simp only[cX,ho];rw[hρ x (by simp[Op.operands]),hρ y (by simp[Op.operands])];simp only[hz,ab];exact hk
 case unOp op t x=>
  obtain⟨z,hz,h⟩:=aI h
  refine⟨_,none,h,.none,iv,fun ρ' b' k' hρ _ hk=>?_⟩
  simp only[cX,ho];rw[hρ x (by simp[Op.operands])];simp only[hz,ab];exact hk
 case convert src dst x=>
  cases hs:(P.underlying src).isSome with
  |false=>rw[hs]at h;exact h.elim
  |true=>
   rw[hs]at h
   obtain⟨z,hz,h⟩:=aI h
   refine⟨_,none,h,.none,iv,fun ρ' b' k' hρ _ hk=>?_⟩
   simp only[cX,ho];rw[hρ x (by simp[Op.operands])];simp only[hs,cond_true,hz,ab];exact hk
 case makeInterface t x=>
  cases hs:isIface P t with
  |true=>rw[hs]at h;exact h.elim
  |false=>
   rw[hs]at h
   obtain⟨z,hz,h⟩:=aI h
   refine⟨_,none,h,.none,iv,fun ρ' b' k' hρ _ hk=>?_⟩
   simp only[cX,ho];rw[hρ x (by simp[Op.operands])];simp only[hs,cond_false,hz,ab];exact hk
 case makeFunc fn first cap=>
  refine⟨_,none,h,.none,(fun K B BC hρ' _ _=>⟨fun _=>.c _ _ _ (fun s hs=>by
   obtain⟨x,hx,rfl⟩:=List.mem_map.1 hs
   exact(hρ' x (by rw[ho];simp only[Op.operands,Array.mem_append];exact .inl (by simpa using hx)) (by simp[addrOf,ho])).kF) (fun s hs=>by
   obtain⟨x,hx,rfl⟩:=List.mem_map.1 hs
   exact(hρ' x (by rw[ho];simp only[Op.operands,Array.mem_append];exact .inr (by simpa using hx)) (by simp[addrOf,ho])).kF),fun _ _ h=>by cases h⟩),fun ρ' b' k' hρ _ hk=>?_⟩
  simp only[cX,ho]
  have e1:(first.toList.map fun x=>(ρ' x).aa)=first.toList.map fun x=>(ρ x).aa :=List.map_congr_left fun x hx=>by rw[hρ x (by simp only[Op.operands,Array.mem_append];exact .inl (by simpa using hx))]
  have e2:(cap.toList.map fun x=>(ρ' x).aa)=cap.toList.map fun x=>(ρ x).aa :=List.map_congr_left fun x hx=>by rw[hρ x (by simp only[Op.operands,Array.mem_append];exact .inr (by simpa using hx))]
  rw[e1,e2];exact hk
 case slice t x lo hi mx=>
  obtain⟨z,hz,h⟩:=aI h
  refine⟨_,none,h,.none,iv,fun ρ' b' k' hρ _ hk=>?_⟩
  simp only[cX,ho]
  rw[hρ x (by simp[Op.operands]),HZ (x:=lo) (fun y hy=>hρ y (by simp[Op.operands,hy])),HZ (x:=hi) (fun y hy=>hρ y (by simp[Op.operands,hy])),HZ (x:=mx) (fun y hy=>hρ y (by simp[Op.operands,hy]))]
  simp only[hz,ab];exact hk
 case fieldAddr t x f=>
  obtain⟨fd,xq,h⟩:=aI h
  obtain⟨sz,aM,h⟩:=aI h
  cases hc:Nat.beq sz 0 with
  |true=>rw[hc]at h;exact h.elim
  |false=>
   rw[hc]at h
   simp only[cond_false]at h
   split at h
   ·rename_i b off hy
    refine⟨_,none,h,.none,tG (x:=x) (by simp[ho,Op.operands]) (by simp[addrOf,ho]) (fun _ h=>by rw[hy]at h;exact .p _ _ h.mc),fun ρ' b' k' hρ _ hk=>?_⟩
    simp only[cX,ho,xq,aM,ab,hc,cond_false];rw[hρ x (by simp[Op.operands]),hy];exact hk
   ·rename_i y hy
    obtain⟨z,hz,h⟩:=aI h
    refine⟨_,none,h,.none,iv,fun ρ' b' k' hρ _ hk=>?_⟩
    simp only[cX,ho,xq,aM,ab,hc,cond_false];rw[hρ x (by simp[Op.operands]),hy];simp only[hz];exact hk
   ·exact h.elim
 case field t x f=>
  obtain⟨fd,xq,h⟩:=aI h
  obtain⟨ly,la,h⟩:=aI h
  obtain⟨z,hz,h⟩:=aI h
  refine⟨_,none,h,.none,iv,fun ρ' b' k' hρ _ hk=>?_⟩
  simp only[cX,ho];rw[hρ x (by simp[Op.operands])];simp only[xq,la,hz,ab];exact hk
 case indexAddr t x i=>
  split at h
  ·rename_i e he
   obtain⟨sz,aM,h⟩:=aI h
   cases hs:ρ x with
   |a b n=>
    rw[hs]at h
    obtain⟨j,hj,h⟩:=aI h
    refine⟨_,none,h,.none,tG (x:=x) (by simp[ho,Op.operands]) (by simp[addrOf,ho]) (fun _ h=>by rw[hs]at h;exact .p _ _ h.AZ),fun ρ' b' k' hρ _ hk=>?_⟩
    simp only[cX,ho];rw[hρ x (by simp[Op.operands]),hρ i (by simp[Op.operands]),hs];simp only[he,aM,hj,ab];exact hk
   |_=>
    rw[hs]at h
    obtain⟨z,hz,h⟩:=aI h
    refine⟨_,none,h,.none,iv,fun ρ' b' k' hρ _ hk=>?_⟩
    simp only[cX,ho];rw[hρ x (by simp[Op.operands]),hρ i (by simp[Op.operands]),hs];simp only[he,aM,hz,ab];exact hk
  ·rename_i n e he
   obtain⟨sz,aM,h⟩:=aI h
   obtain⟨j,hj,h⟩:=aI h
   split at h
   ·rename_i b off hy
    refine⟨_,none,h,.none,tG (x:=x) (by simp[ho,Op.operands]) (by simp[addrOf,ho]) (fun _ h=>by rw[hy]at h;exact .p _ _ h.mc),fun ρ' b' k' hρ _ hk=>?_⟩
    simp only[cX,ho];rw[hρ x (by simp[Op.operands]),hρ i (by simp[Op.operands])];simp only[he,aM,hj,ab,hy];exact hk
   ·rename_i y hy
    obtain⟨z,hz,h⟩:=aI h
    refine⟨_,none,h,.none,iv,fun ρ' b' k' hρ _ hk=>?_⟩
    simp only[cX,ho];rw[hρ x (by simp[Op.operands]),hρ i (by simp[Op.operands])];simp only[he,aM,hj,ab,hy,hz];exact hk
   ·exact h.elim
  ·exact h.elim
 case index t x i=>
  split at h
  ·rename_i n e he
   obtain⟨ly,la,h⟩:=aI h
   obtain⟨z,hz,h⟩:=aI h
   refine⟨_,none,h,.none,iv,fun ρ' b' k' hρ _ hk=>?_⟩
   simp only[cX,ho];rw[hρ x (by simp[Op.operands]),hρ i (by simp[Op.operands])];simp only[he,la,hz,ab];exact hk
  ·rename_i he
   obtain⟨z,hz,h⟩:=aI h
   refine⟨_,none,h,.none,iv,fun ρ' b' k' hρ _ hk=>?_⟩
   simp only[cX,ho];rw[hρ x (by simp[Op.operands]),hρ i (by simp[Op.operands])];simp only[he,hz,ab];exact hk
  ·exact h.elim
 case extract x i=>
  split at h
  ·rename_i vs hs
   split at h
   ·rename_i r hr
    refine⟨_,none,h,.none,iv,fun ρ' b' k' hρ _ hk=>?_⟩
    simp only[cX,ho];rw[hρ x (by simp[Op.operands]),hs];simp only[hr];exact hk
   ·exact h.elim
  ·exact h.elim
 case lookup t m x Lx=>
  obtain⟨et,het,h⟩:=aI h
  obtain⟨z,hz,h⟩:=aI h
  obtain⟨r,hr,h⟩:=aI h
  have Te:∀{U b'},ve id false o U ρ aA b'→rq et.2 z (uT b' (ρ m)) (ρ x).bU =some r:=by
   intro U b' hS
   have h3:=(hS.mem (by simp[g4,ho]) m (by simp[ho,Op.operands])).2.2
   cases hs:ρ m with
   |m b=>
    rw[hs]at hr
    simp only[uT]at hr ⊢
    cases hb:aA[b]? with
    |none=>rw[hb]at hr;cases hr
    |some bx=>
     rw[hb]at hr
     cases bx with
     |map l=>simp only[(h3 b l hs).2 hb];exact hr
     |_=>cases hr
   |_=>rw[hs]at hr;exact hr
  cases Lx with
  |true=>
   refine⟨_,none,h,.none,Ga (fun _=>.t _),fun ρ' b' k' hρ hS hk=>?_⟩
   simp only[cX,ho];rw[hρ m (by simp[Op.operands]),hρ x (by simp[Op.operands])];simp only[het,hz,Te hS,ab];exact hk
  |false=>
   refine⟨_,none,h,.none,iv,fun ρ' b' k' hρ hS hk=>?_⟩
   simp only[cX,ho];rw[hρ m (by simp[Op.operands]),hρ x (by simp[Op.operands])];simp only[het,hz,Te hS,ab];exact hk
 case makeSlice t n c=>
  obtain⟨e',he,h1⟩:=aI h
  obtain⟨sz,aM,h2⟩:=aI h1
  obtain⟨cV,k7,h3⟩:=aI h2
  obtain⟨z,hz,h4⟩:=aI h3
  cases dq:(Nat.beq sz 1&&Nat.blt 0 cV)with
  |false=>rw[dq]at h4;exact h4.elim
  |true=>
   rw[dq,cond_true]at h4
   obtain⟨m,hm,hb,hk⟩:=aI h4
   refine⟨_,none,hk,.none,iv,fun ρ' b' k' hρ _ hk=>?_⟩
   simp only[cX,ho];rw[hρ n (by simp[Op.operands]),hρ c (by simp[Op.operands])];simp only[he,aM,k7,hz,dq,cond_true,hm,ab];exact⟨hb,hk⟩
 case makeMap t hn=>
  split at h
  ·rename_i eZ
   refine⟨_,some (id,_),h,.mk _ (by simp[fT,ho]) eZ (by simp),F9 (by simp[fT,ho]),fun ρ' b' k' hρ hS hk=>?_⟩
   simp only[cX,ho,hS.fresh (by simp[fT,ho]) (by simp)];exact hk
  ·exact h.elim
 case mapUpdate t m x y=>
  obtain⟨et,het,h1⟩:=aI h
  split at h1
  ·rename_i b hm hd
   split at h1
   ·rename_i l hb
    obtain⟨n,hn,h2⟩:=aI h1
    obtain⟨d,ic,pq⟩:=aI h2
    obtain⟨l',gU,hk⟩:=aI pq
    refine⟨_,some (b,_),hk,.wr b _ _ (by simp[g4,ho]) (.inl (by simp[jb,ho])) m (by simp[ho,Op.operands]) 0 (.inr hm) hb (by simp) (by simp[af.isMap]) (fun h=>by cases h) (fun t' y' z' h=>by rw[ho]at h;cases h),(fun K B BC hρ' _ _=>⟨fun _=>by first|exact .t _|exact .v _,fun _ _ h=>by cases h⟩),fun ρ' b' k' hρ hS hk=>?_⟩
    have h3:=((hS.mem (by simp[g4,ho]) m (by simp[ho,Op.operands])).2.2 b l hm).2 hb
    simp only[cX,ho,het,ab];rw[hρ m (by simp[Op.operands]),hρ x (by simp[Op.operands]),hρ y (by simp[Op.operands]),hm,hd];simp only[h3,hn,ic,gU];exact hk
   ·exact h1.elim
  ·exact h1.elim
 case call c=>
  have eF:∀{U ρ' b'},(∀x∈(Op.call c).operands,ρ' x=ρ x)→ve id false o U ρ aA b'→iq b' ρ' c.args.toList=iq aA ρ c.args.toList:=fun{U ρ' b'}hρ hS=>
   HF fun x hx=>by
    have hm:x∈(Op.call c).operands :=by
     simp only[Op.operands,Call.operands,Array.mem_append];exact .inr (by simpa using hx)
    rw[hρ x hm]
    exact(hS.mem (by simp[g4,ho]) x (by rw[ho];exact hm)).2.1 6
  have eb:∀x,x∈c.args.toList→x∈(Op.call c).operands :=fun x hx=>by
   simp only[Op.operands,Call.operands,Array.mem_append];exact .inr (by simpa using hx)
  split at h
  ·rename_i f hc
   have hf:f∈(Op.call c).operands :=by simp[Op.operands,Call.operands,hc]
   split at h
   ·rename_i s hs
    obtain⟨f',l,hK,Ly⟩:=V4 h
    obtain⟨r,hk,k8,hr⟩:=H0 hK
    refine⟨_,none,hk,.none,Ga k8,fun ρ' b' k' hρ hS hk=>?_⟩
    simp only[cX,ho,hc]
    rw[hρ f hf,hs]
    simp only[eF hρ hS]
    exact Ly _ (hr _ _ hk)
   ·rename_i g' first cap hs
    obtain⟨r,hk,k8,hr⟩:=H0 h
    refine⟨_,none,hk,.none,Ga k8,fun ρ' b' k' hρ hS hk=>?_⟩
    simp only[cX,ho,hc]
    rw[hρ f hf,hs]
    simp only[eF hρ hS]
    have jI:=(hS.mem (by simp[g4,ho]) f (by rw[ho];exact hf)).2.1
    rw[hs]at jI
    obtain⟨e1,e2⟩:=Z4 jI
    rw[e1,e2]
    exact hr _ _ hk
   ·exact h.elim
  ·rename_i recv name hc
   have hf:recv∈(Op.call c).operands :=by simp[Op.operands,Call.operands,hc]
   split at h
   ·rename_i s hs
    obtain⟨f',l,hK,Ly⟩:=Vr h
    obtain⟨r,hk,k8,hr⟩:=H0 hK
    refine⟨_,none,hk,.none,Ga k8,fun ρ' b' k' hρ hS hk=>?_⟩
    simp only[cX,ho,hc]
    rw[hρ recv hf,hs]
    simp only[eF hρ hS]
    exact Ly _ (hr _ _ hk)
   ·exact h.elim
  ·rename_i b hc
   split at h
   ·rename_i x xs t ts hx ht
    cases hs:ρ x with
    |a b n=>
     rw[hs]at h
     cases jr:isSlice P t with
     |false=>rw[jr]at h;exact h.elim
     |true=>
      rw[jr]at h
      refine⟨_,none,h,.none,iv,fun ρ' b' k' hρ hS hk=>?_⟩
      simp only[cX,ho,hc,hx,ht]
      rw[hρ x (eb x (by simp[hx])),hs];simp only[jr,cond_true];exact hk
    |_=>
     rw[hs]at h
     obtain⟨z,hz,h⟩:=aI h
     refine⟨_,none,h,.none,iv,fun ρ' b' k' hρ hS hk=>?_⟩
     simp only[cX,ho,hc,hx,ht]
     rw[hρ x (eb x (by simp[hx])),hs];simp only[hz,ab];exact hk
   ·rename_i x y t u hx ht
    cases sj:Nat.beq t u with
    |false=>rw[sj]at h;exact h.elim
    |true=>
     rw[sj]at h
     simp only[cond_true]at h
     obtain⟨e',he,h⟩:=aI h
     obtain⟨sz,aM,h⟩:=aI h
     obtain⟨cV,k7,h⟩:=aI h
     obtain⟨z,hz,h⟩:=aI h
     cases dq:(Nat.blt 0 cV&&Nat.blt 0 sz&&Nat.beq z.length sz)with
     |false=>rw[dq]at h;exact h.elim
     |true=>
      rw[dq]at h
      obtain⟨r,hr,hb,h⟩:=aI h
      refine⟨_,none,h,.none,iv,fun ρ' b' k' hρ hS hk=>?_⟩
      simp only[cX,ho,hc,hx,ht]
      rw[hρ x (eb x (by simp[hx])),hρ y (eb y (by simp[hx]))]
      simp only[sj,cond_true,he,aM,k7,hz,ab,dq,bV,hr];exact⟨hb,hk⟩
   ·rename_i x xs hx
    obtain⟨z,hz,h⟩:=aI h
    refine⟨_,none,h,.none,iv,fun ρ' b' k' hρ hS hk=>?_⟩
    have e1:(xs.map fun y=>(ρ' y).bU)=xs.map fun y=>(ρ y).bU :=List.map_congr_left fun y hy=>by rw[hρ y (eb y (by simp[hx,hy]))]
    simp only[cX,ho,hc,hx]
    rw[hρ x (eb x (by simp[hx])),e1,hz];exact hk
   ·rename_i x xs hx
    obtain⟨z,hz,h⟩:=aI h
    refine⟨_,none,h,.none,iv,fun ρ' b' k' hρ hS hk=>?_⟩
    have e1:(xs.map fun y=>(ρ' y).bU)=xs.map fun y=>(ρ y).bU :=List.map_congr_left fun y hy=>by rw[hρ y (eb y (by simp[hx,hy]))]
    simp only[cX,ho,hc,hx]
    rw[hρ x (eb x (by simp[hx])),e1,hz];exact hk
   ·exact h.elim
 all_goals exact h.elim
end
end Go.Proofs.Ytimbllcalipehaa.Ab
namespace Go.Proofs.Ytimbllcalipehaa.Ab
open Go Go.RowKit
def fin(o:Oper)(src:Option (Nat×Slot))(s:Slot)(U:Option (Nat×af))(e:Env):Env:=⟨cz (iR src e.ai) o.dst s,lb U e.boxes⟩
section
variable{P:Program}{gl:Nat→Option D}{C:bd}
def fP(gl:Nat→Option D)(e:Env)(x:Operand):Slot:=(Ab.aV gl e x).aa
theorem oL{o:Oper}{t:Nat}(h:Operand.tmp t∈o.op.operands):t∈tmpsOf o:=List.mem_filterMap.2 ⟨.tmp t,by simpa using h,rfl⟩
theorem uu{e e':Env}{o:Oper}(h:∀t∈tmpsOf o,e'.ai.getD t (.v .undef)=e.ai.getD t (.v .undef)){x:Operand}(hx:x∈o.op.operands):Ab.aV gl e' x=Ab.aV gl e x:=by
 cases x with
 |tmp t=>exact h t (oL hx)
 |_=>rfl
theorem HG(s:Slot):s.aa.stays=s.stays:=by cases s<;>rfl
theorem Z5(x:SV):Ab.aa (Ab.aa x)=Ab.aa x:=by cases x<;>rfl
theorem V5{cs:List SV}{off:Nat}{y:SV}(hy:cs[off]? =some y):cs.map Ab.aa=(cs.set off (Ab.aa y)).map Ab.aa:=by
 apply List.ext_getElem?
 intro i
 rw[List.getElem?_map,List.getElem?_map,List.getElem?_set]
 by_cases h:off=i
 ·subst h
  obtain⟨hl,hq⟩:=List.getElem?_eq_some_iff.1 hy
  simp[hl,hq,Z5]
 ·simp[h]
theorem XA{aA:List af}{b:Nat}{cs eH:List SV}(hb:aA[b]? =some (.cells cs))(h:cs.map Ab.aa=eH.map Ab.aa):∀(n:Nat)(s:Slot),snap (aA.set b (.cells eH)) n s=snap aA n s:=by
 intro n
 induction n with
 |zero=>intro s;rfl
 |succ n ih=>
  intro s
  have hf:snap (aA.set b (.cells eH)) n=snap aA n:=funext ih
  cases s with
  |v x=>rfl
  |a b2 _ _=>
   simp only[snap]
   by_cases h2:b=b2
   ·subst h2
    rw[List.getElem?_set_self (List.getElem?_eq_some_iff.1 hb).1,hb]
    simp only[h]
   ·rw[List.getElem?_set_ne h2]
  |m _=>rfl
  |p b2 off=>
   simp only[snap]
   by_cases h2:b=b2
   ·subst h2
    rw[List.getElem?_set_self (List.getElem?_eq_some_iff.1 hb).1,hb]
    simp only[h]
   ·rw[List.getElem?_set_ne h2,hf]
  |c f first cap=>simp only[snap,hf]
  |t l=>rfl
theorem O9{w:Bool}(hw:w=true){aA:List af}{b:Nat}{gq bx:af}(hb:aA[b]? =some gq)(h:∃cs eH,gq=.cells cs∧bx=.cells eH∧cs.map Ab.aa=eH.map Ab.aa)(s:Slot):lz w s aA (aA.set b bx):=by
 obtain⟨cs,eH,rfl,rfl,hm⟩:=h
 refine⟨fun b2 off hs=>⟨?_,fun h=>by rw[hw]at h;cases h⟩,fun n=>XA hb hm n s,fun b2 l _=>?_⟩
 rotate_left
 ·by_cases h2:b=b2
  ·subst h2
   rw[List.getElem?_set_self (List.getElem?_eq_some_iff.1 hb).1,hb]
   simp
  ·rw[List.getElem?_set_ne h2]
 by_cases h2:b=b2
 ·subst h2
  rw[List.getElem?_set_self (List.getElem?_eq_some_iff.1 hb).1,hb]
  exact .inr ⟨eH,cs,rfl,rfl,hm.symm⟩
 ·rw[List.getElem?_set_ne h2]
  exact .refl _
def Dc(gl:Nat→Option D)(aE:Bool)(o:Oper)(e:Env)(src:Option (Nat×Slot))(s:Slot)(U:Option (Nat×af)):Prop:=
 ∀(K B:Nat→Prop),(∀b,K b→B b)→(∀x∈o.op.operands,(aE=false→addrOf o≠some x)→dC K (fP gl e x))→(∀t x y,o.op=.store t x y→dC K (fP gl e y))→
  (∀b s,B b→e.boxes[b]? =some (.one s)→dC K s)→fT o=false→dC K s∧(∀t d,src=some (t,d)→dC K d)∧∀b s',U=some (b,.one s')→dC K s'
theorem Q8{o:Oper}{e:Env}{x:SV}{U:Option (Nat×af)}(hU:∀b s',U≠some (b,.one s')):Dc gl true o e none (.v x) U:=fun _ _ _ _ _ _ _=>⟨.v _,fun _ _ h=>(by cases h),fun b s' h=>absurd h (hU b s')⟩
theorem JL{o:Oper}{e:Env}{t:Nat}{s:Slot}(ht:Operand.tmp t∈o.op.operands)(hs:∀K,dC K (e.ai.getD t (.v .undef))→dC K s):Dc gl true o e (some (t,(e.ai.getD t (.v .undef)).aa)) s none:=fun K _ _ h _ _ _=>by
 have h1:dC K (e.ai.getD t (.v .undef)).aa :=h (.tmp t) ht (fun h=>by cases h)
 exact⟨hs K h1.adF,fun t' d hd=>by cases hd;exact h1,fun _ _ h=>by cases h⟩
theorem Q9:∀{rs:List SV}{k:List SV→Prop},k rs→xm rs.length k
 |[],_,h=>h
 |r::rs,k,h=>⟨r,Q9 (rs:=rs) (k:=fun l=>k (r::l)) h⟩
theorem WQ{id:Nat}{o:Oper}{e:Env}{k:Env→Prop}(h:kR P gl C o e k):
  ∃src s U,k (fin o src s U e)∧uX id o true (fP gl e) e.boxes U∧Dc gl true o e src s U∧(∀t d,src=some (t,d)→t∈tmpsOf o∧d.stays=(e.ai.getD t (.v .undef)).stays)∧
   ∀(e':Env)(k':Env→Prop),(∀t∈tmpsOf o,e'.ai.getD t (.v .undef)=e.ai.getD t (.v .undef))→ve id true o U (fP gl e) e.boxes e'.boxes→k' (fin o src s U e')→kR P gl C o e' k':=by
 unfold kR at h
 split at h
 ·rename_i t ho
  refine⟨some (t,_),_,none,h,.none,JL (by rw[ho];simp[Op.operands]) (fun _ h=>h),fun t' d hd=>by cases hd;exact⟨oL (by rw[ho];simp[Op.operands]),HG _⟩,fun e' k' hl _ hk=>?_⟩
  simp only[kR,ho];rw[hl t (oL (by rw[ho];simp[Op.operands]))];exact hk
 ·rename_i t ho
  refine⟨some (t,_),_,none,h,.none,JL (by rw[ho];simp[Op.operands]) (fun _ h=>h),fun t' d hd=>by cases hd;exact⟨oL (by rw[ho];simp[Op.operands]),HG _⟩,fun e' k' hl _ hk=>?_⟩
  simp only[kR,ho];rw[hl t (oL (by rw[ho];simp[Op.operands]))];exact hk
 ·rename_i t i ho
  split at h
  ·rename_i vs hs
   split at h
   ·rename_i r hr
    refine⟨some (t,_),_,none,h,.none,(fun K _ _ _ _ _ _=>⟨.v _,fun t' d hd=>by cases hd;exact .t _,fun _ _ h=>by cases h⟩),fun t' d hd=>by cases hd;exact⟨oL (by rw[ho];simp[Op.operands]),by rw[hs];rfl⟩,fun e' k' hl _ hk=>?_⟩
    simp only[kR,ho];rw[hl t (oL (by rw[ho];simp[Op.operands])),hs];simp only[hr];exact hk
   ·exact h.elim
  ·exact h.elim
 ·rename_i ty x ho
  split at h
  ·rename_i b off hs
   obtain⟨ly,hl,h⟩:=aI h
   cases la:ly.1 with
   |true=>rw[la]at h;exact h.elim
   |false=>
    rw[la]at h
    simp only[cond_false]at h
    split at h
    ·rename_i cs cf
     obtain⟨y,hy,h⟩:=aI h
     refine⟨none,_,some (b,_),h,.wr b _ _ (by simp[g4,ho]) (.inr rfl) x (by rw[ho];simp[Op.operands]) off (.inl hs) cf (by simp) (by simp[af.isMap]) (fun _ _=>⟨cs,_,rfl,rfl,V5 hy⟩) (fun t' y' z' h=>by rw[ho]at h;cases h),Q8 (by simp),fun _ _ h=>(by cases h),fun e' k' m4 hS hk=>?_⟩
     have hb:=((hS.mem (by simp[g4,ho]) x (by rw[ho];simp[Op.operands])).1 b off hs).2 (by simp)
     simp only[kR,ho,hl,ab,la,cond_false]
     rw[uu m4 (x:=x) (by rw[ho];simp[Op.operands]),hs]
     simp only[hb,cf,hy];exact hk
    ·exact h.elim
  ·exact h.elim
 ·rename_i ty x t ho
  split at h
  ·rename_i b off y hs hy hd
   obtain⟨sz,aM,h⟩:=aI h
   cases hb:Nat.beq sz 1 with
   |false=>rw[hb]at h;exact h.elim
   |true=>
    rw[hb]at h
    simp only[cond_true]at h
    split at h
    ·rename_i cs cf
     obtain⟨l,hl,h1,h2,h⟩:=aI h
     refine⟨some (t,.v (aa y)),.t [],some (b,.cells (setAt cs off l)),?_,.wr b _ _ (by simp[g4,ho]) (.inr rfl) x (by rw[ho];simp[Op.operands]) off (.inl hs) cf (by simp) (by simp[af.isMap]) (fun _ h=>by simp[jb,ho]at h) (fun t' y' z' h=>by rw[ho]at h;cases h;rfl),(fun K _ _ _ _ _ _=>⟨.t _,fun t' d hd=>by cases hd;exact .v _,fun _ _ h=>by cases h⟩),fun t' d hd=>by cases hd;exact⟨oL (by rw[ho];simp[Op.operands]),by rw[hy];rfl⟩,fun e' k' m4 hS hk=>?_⟩
     ·simp only[fin,hd,cz,iR,lb];exact h
     ·have ef:=((hS.mem (by simp[g4,ho]) x (by rw[ho];simp[Op.operands])).1 b off hs).2 (by simp)
      simp only[fin,hd,cz,iR,lb]at hk
      simp only[kR,ho]
      rw[uu m4 (x:=x) (by rw[ho];simp[Op.operands]),hs,m4 t (oL (by rw[ho];simp[Op.operands])),hy,hd]
      simp only[aM,ab,hb,cond_true,ef,cf,hl];exact⟨h1,h2,hk⟩
    ·exact h.elim
  ·exact h.elim
 ·rename_i t n ps ho
  obtain⟨e',he,h1⟩:=aI h
  obtain⟨ly,la,h2⟩:=aI h1
  obtain⟨z,hz,h3⟩:=aI h2
  obtain⟨l,hl,h4⟩:=aI h3
  cases hc:(Nat.ble (n*ly.2) (2^24)&&Nat.blt 0 ly.2&&Nat.beq z.length ly.2)with
  |false=>rw[hc]at h4;exact h4.elim
  |true=>
   rw[hc,cond_true]at h4
   refine⟨none,_,none,h4.2,.none,Q8 (by simp),fun _ _ h=>(by cases h),fun e2 k' m4 hS hk=>?_⟩
   have hpd:nO (fun x=>(Ab.aV gl e2 x).aa) ps.toList=some l:=
    (ED (fun p hp=>by
      have hm:p.2∈o.op.operands:=by rw[ho];simp only[Op.operands,List.mem_toArray,List.mem_map];exact⟨p,hp,rfl⟩
      show(Ab.aV gl e2 p.2).aa =(Ab.aV gl e p.2).aa
      rw[uu m4 hm])).trans hl
   simp only[kR,ho,he,la,hz,hpd,hc,cond_true,ab];exact⟨h4.1,hk⟩
 ·rename_i c ho
  split at h
  ·rename_i t y ty u hc hx ht
   have mq:Operand.tmp t∈o.op.operands:=by
    rw[ho];simp only[Op.operands,Call.operands,Array.mem_append];exact .inr (by rw[←Array.mem_toList_iff,hx];simp)
   have xz:y∈o.op.operands:=by
    rw[ho];simp only[Op.operands,Call.operands,Array.mem_append];exact .inr (by rw[←Array.mem_toList_iff,hx];simp)
   cases sj:Nat.beq ty u with
   |false=>rw[sj]at h;exact h.elim
   |true=>
    rw[sj]at h
    simp only[cond_true]at h
    obtain⟨e',he,h⟩:=aI h
    obtain⟨sz,aM,h⟩:=aI h
    obtain⟨cV,k7,h⟩:=aI h
    obtain⟨z,hz,h⟩:=aI h
    cases dq:(Nat.blt 0 cV&&Nat.blt 0 sz&&Nat.beq z.length sz)with
    |false=>rw[dq]at h;exact h.elim
    |true=>
     rw[dq]at h
     obtain⟨r,hr,hb,h⟩:=aI h
     refine⟨some (t,_),_,none,h,.none,JL mq (fun _ _=>.v _),fun t' d hd=>by cases hd;exact⟨oL mq,HG _⟩,fun e' k' m4 hS hk=>?_⟩
     simp only[kR,ho,hc,hx,ht]
     rw[m4 t (oL mq),uu m4 xz]
     simp only[sj,cond_true,he,aM,k7,hz,ab,dq,bV,hr];exact⟨hb,hk⟩
  ·rename_i f hc
   split at h
   ·rename_i t g' hp hg
    split at h
    ·rename_i y hy
     have eb:∀x∈c.args.toList,x∈o.op.operands:=fun x hx=>by
      rw[ho];simp only[Op.operands,Call.operands,Array.mem_append];exact .inr (Array.mem_toList_iff.1 hx)
     have mq:Operand.tmp t∈o.op.operands:=eb _ (List.mem_of_getElem? hp)
     have hmf:f∈o.op.operands:=by
      rw[ho];simp only[Op.operands,Call.operands,hc,Array.mem_append];left;simp
     obtain⟨rs,hlen,bk,hC,hd,hk⟩:=Cz h
     refine⟨some (t,.v bk),yL rs,none,hk,.none,(fun K _ _ _ _ _ _=>⟨(by unfold yL;split<;>constructor),fun t' d hd=>by cases hd;exact .v _,fun _ _ h=>by cases h⟩),fun t' d hd=>by cases hd;exact⟨oL mq,by rw[hy];rfl⟩,fun e' k' m4 hS hk=>?_⟩
     have eF:iq e'.boxes (fun x=>(Ab.aV gl e' x).aa) c.args.toList=iq e.boxes (fun x=>(Ab.aV gl e x).aa) c.args.toList:=HF fun x hx=>by
      rw[uu m4 (eb x hx)]
      exact(hS.mem (by simp[g4,ho]) x (eb x hx)).2.1 6
     simp only[kR,ho,hc]
     rw[hp,uu m4 hmf,hg]
     simp only[]
     rw[m4 t (oL mq),hy,eF]
     simp only[]
     rw[←hlen]
     exact Q9 ⟨bk,hC,hd,hk⟩
    ·exact h.elim
   ·exact h.elim
  ·exact h.elim
 ·exact h.elim
theorem XB{id:Nat}{aE:Bool}{o:Oper}{e:Env}{k:Env→Prop}(h:mP P gl C id aE o e k):
  ∃src s U,k (fin o src s U e)∧uX id o aE (fP gl e) e.boxes U∧Dc gl aE o e src s U∧(∀t d,src=some (t,d)→aE=true∧t∈tmpsOf o∧d.stays=(e.ai.getD t (.v .undef)).stays)∧
   ∀(e':Env)(k':Env→Prop),(∀t∈tmpsOf o,e'.ai.getD t (.v .undef)=e.ai.getD t (.v .undef))→ve id aE o U (fP gl e) e.boxes e'.boxes→k' (fin o src s U e')→mP P gl C id aE o e' k':=by
 unfold mP at h
 cases aE<;>simp only[cond_true,cond_false]at h
 ·obtain⟨s,U,hk,hu,k8,hs⟩:=YJ h
  refine⟨none,s,U,hk,hu,fun K B BC h1 h2 h3 h4=>⟨(k8 K B BC (fun x hx ha=>h1 x hx fun _=>ha) h2 h3).1 h4,fun _ _ h=>(by cases h),fun b s' hU=>(k8 K B BC (fun x hx ha=>h1 x hx fun _=>ha) h2 h3).2 b s' hU h4⟩,fun t d h=>(by cases h),?_⟩
  intro e' k' hl hS hk
  unfold mP
  simp only[cond_false]
  exact hs _ _ _ (fun x hx=>by rw[uu hl hx]) hS hk
 ·obtain⟨src,s,U,hk,hu,k8,xA,hs⟩:=WQ (id:=id) h
  refine⟨src,s,U,hk,hu,k8,fun t d h=>⟨rfl,xA t d h⟩,fun e' k' hl hS hk=>?_⟩
  unfold mP
  simp only[cond_true]
  exact hs e' k' hl hS hk
def rF(all:List Oper)(o:Oper)(e:Env):Option Bool:=match o.guard with
 |none=>some true
 |some (j,want)=>(match(match all[j]? with|some g=>g.dst|none=>none)with
  |some t=>(match e.ai.getD t (.v .undef)with
   | .v (.d (.bool c))=>some (c==want)
   | .t _=>some false
   |_=>none)
  |none=>none)
theorem uv{e:Env}{t:Nat}{c:Bool}(h:e.ai.getD t (.v .undef)=.v (.d (.bool c))):e.wW t c=e:=by
 unfold Env.wW
 rcases Nat.lt_or_ge t e.ai.length with hl|hl
 ·rw[List.getD_eq_getElem?_getD,List.getElem?_eq_getElem hl]at h
  simp only[Option.getD_some]at h
  rw[←h,List.set_getElem_self]
 ·rw[List.getD_eq_getElem?_getD,List.getElem?_eq_none hl]at h
  simp at h
theorem z5{all:List Oper}{o:Oper}{e:Env}{A B:Env→Prop}:yx all o e A B↔(match rF all o e with|some true=>A e|some false=>B e|none=>False):=by
 unfold yx rF
 cases hg:o.guard with
 |none=>exact Iff.rfl
 |some p=>
  obtain⟨j,want⟩:=p
  simp only
  cases hj:all[j]? with
  |none=>exact Iff.rfl
  |some q=>
   simp only
   cases hq:q.dst with
   |none=>exact Iff.rfl
   |some t=>
    simp only
    cases hx:e.ai.getD t (.v .undef)with
    |v x=>
     cases x with
     |d y=>
      cases y with
      |bool c=>
       have h1:=uv hx
       simp only[au]
       cases c<;>cases want<;>simp[h1]
      |_=>exact Iff.rfl
     |_=>exact Iff.rfl
    |_=>exact Iff.rfl
def mO(P:Program)(gl:Nat→Option D)(C:bd)(all:List Oper)(id:Nat)(aE:Bool)(o:Oper)(e:Env)(k:Env→Prop):Prop:=
 yx all o e (fun e'=>mP P gl C id aE o e' k) (fun e'=>k ⟨cz e'.ai o.dst (.t []),e'.boxes⟩)
structure Out(P:Program)(gl:Nat→Option D)(C:bd)(ops:Array Oper)(id:Nat)(aE:Bool)(o:Oper)(e:Env)(src:Option (Nat×Slot))(s:Slot)(U:Option (Nat×af)):Prop where
 uf:uX id o aE (fP gl e) e.boxes U
 yT:∀t d,src=some (t,d)→aE=true∧t∈tmpsOf o
 Ky:∀(e':Env)(k':Env→Prop),(∀t∈o.looksAt ops,e'.ai.getD t (.v .undef)=e.ai.getD t (.v .undef))→ve id aE o U (fP gl e) e.boxes e'.boxes→k' (fin o src s U e')→mO P gl C ops.toList id aE o e' k'
theorem Pa{ops:Array Oper}{o:Oper}{e e':Env}(h:∀t∈o.looksAt ops,e'.ai.getD t (.v .undef)=e.ai.getD t (.v .undef)):rF ops.toList o e'=rF ops.toList o e:=by
 unfold rF
 split
 ·rfl
 ·rename_i j want hg
  split
  ·rename_i t ht
   have hm:t∈o.looksAt ops:=by
    refine List.mem_append_right _ ?_
    rw[hg]
    simp only[Option.mem_toList]
    rw[Array.getElem?_toList]at ht
    cases hj:ops[j]? with
    |none=>rw[hj]at ht;cases ht
    |some g=>rw[hj]at ht;exact ht
   rw[h t hm]
  ·rfl
theorem H3{ops:Array Oper}{o:Oper}{t:Nat}(h:t∈tmpsOf o):t∈o.looksAt ops:=List.mem_append_left _ h
theorem xU{ops:Array Oper}{id:Nat}{aE:Bool}{o:Oper}{e:Env}{k:Env→Prop}(h:mO P gl C ops.toList id aE o e k):∃src s U,k (fin o src s U e)∧Out P gl C ops id aE o e src s U∧(∀t d,src=some (t,d)→d.stays=(e.ai.getD t (.v .undef)).stays)∧Dc gl aE o e src s U∧(rF ops.toList o e=some true∨(o.guard≠none∧s=.t []∧src=none∧U=none)):=by
 have h':=z5.1 h
 split at h'
 ·rename_i hg
  obtain⟨src,s,U,hk,hu,k8,xA,hs⟩:=XB h'
  refine⟨src,s,U,hk,⟨hu,fun t d h=>⟨(xA t d h).1,(xA t d h).2.1⟩,fun e' k' hl hS hk=>?_⟩,fun t d h=>(xA t d h).2.2,k8,.inl hg⟩
  refine z5.2 ?_
  rw[Pa hl,hg]
  exact hs e' k' (fun t ht=>hl t (H3 ht)) hS hk
 ·rename_i hg
  refine⟨none,.t [],none,h',⟨.none,fun t d h=>(by cases h),?_⟩,fun t d h=>(by cases h),fun K B _ _ _ _ _=>⟨.t _,fun _ _ h=>(by cases h),fun _ _ h=>(by cases h)⟩,.inr ⟨fun hn=>?_,rfl,rfl,rfl⟩⟩
  rotate_left
  ·unfold rF at hg;rw[hn]at hg;cases hg
  intro e' k' hl hS hk
  refine z5.2 ?_
  rw[Pa hl,hg]
  exact hk
 ·exact h'.elim
theorem NB{o:Oper}(h:fT o=true):g4 o=false:=by
 unfold fT at h
 unfold g4
 split at h
 ·rename_i ho;simp[ho]
 ·rename_i ho;simp[ho]
 ·rename_i ho;simp[ho]
 ·cases h
theorem lz.refl{q:Bool}(s:Slot)(b:List af):lz q s b b:=⟨fun _ _ _=>⟨.refl _,fun _=>rfl⟩,fun _=>rfl,fun _ _ _=>Iff.rfl⟩
theorem lz.trans{q:Bool}{s:Slot}{a b c:List af}(h:lz q s a b)(k:lz q s b c):lz q s a c:=
 ⟨fun x off hx=>⟨(k.1 x off hx).1.trans (h.1 x off hx).1,fun hq=>((k.1 x off hx).2 hq).trans ((h.1 x off hx).2 hq)⟩,fun n=>(k.2.1 n).trans (h.2.1 n),fun b l hs=>(k.2.2 b l hs).trans (h.2.2 b l hs)⟩
theorem lz.symm{q:Bool}{s:Slot}{a b:List af}(h:lz q s a b):lz q s b a:=⟨fun x off hx=>⟨(h.1 x off hx).1.symm,fun hq=>((h.1 x off hx).2 hq).symm⟩,fun n=>(h.2.1 n).symm,fun b l hs=>(h.2.2 b l hs).symm⟩
theorem Out.abw{ops:Array Oper}{id:Nat}{aE:Bool}{o:Oper}{e:Env}{src:Option (Nat×Slot)}{s:Slot}{U:Option (Nat×af)}(h:Out P gl C ops id aE o e src s U)
  (hm:fT o=true)(hU:U≠none):∃bx,U=some (id,bx)∧bx≠.none ∧e.boxes[id]? =some .none :=by
 cases h.uf with
 |none=>exact absurd rfl hU
 |mk bx _ hn hb=>exact⟨bx,rfl,hb,hn⟩
 |wr b bx gq h'=>rw[NB hm]at h';cases h'
theorem Out.run{ops:Array Oper}{id:Nat}{aE:Bool}{o:Oper}{e:Env}{src:Option (Nat×Slot)}{s:Slot}{U:Option (Nat×af)}(h:Out P gl C ops id aE o e src s U){k:Env→Prop}
  (hk:k (fin o src s U e)):mO P gl C ops.toList id aE o e k:=
 h.Ky e k (fun _ _=>rfl) ⟨fun _ x _=>.refl _ _,fun hm hU=>(h.abw hm hU).choose_spec.2.2⟩ hk
def Good(gl:Nat→Option D)(e:Env):Prop:=∃w0 ao a w g,Inv gl w0 ao e a w g
theorem B5{w0:World}{ao:S0}{e:Env}{a:Act}{w:World}{g:Gh}(hI:Inv gl w0 ao e a w g){id:Nat}(eZ:e.boxes[id]? =some .none)(bx:af):
  ∀(n:Nat){O:Nat→Nat→Nat→Nat→Prop}{s:Slot}{v:Value},cg w0.heap.size w g O s v→((∀b off,s=.p b off→b≠id)∧∀b,s=.m b→b≠id)∧snap (e.boxes.set id bx) n s=snap e.boxes n s:=by
 have bg:∀b aj,g.bx[b]? =some (some aj)→b≠id:=by
  rintro b aj hb rfl
  exact hI.boxes b .none aj eZ hb
 have mr:∀{O:Nat→Nat→Nat→Nat→Prop}{s:Slot}{v:Value},cg w0.heap.size w g O s v→(∀b off,s=.p b off→b≠id)∧∀b,s=.m b→b≠id:=by
  intro O s v h
  refine⟨fun b off hs=>?_,fun b hs=>?_⟩
  ·subst hs
   obtain⟨aj,_,hb⟩:=h.mc
   exact bg b aj hb
  ·subst hs
   cases h with
   |m _ _ aj hb=>exact bg b aj hb
 intro n
 induction n with
 |zero=>
  intro O s v h
  exact⟨mr h,rfl⟩
 |succ n ih=>
  intro O s v h
  refine⟨mr h,?_⟩
  cases h with
  |v _ x _ h=>rfl
  |a _ b n' sz v hm hb=>
   obtain⟨aj,cap,hb,_⟩:=hb
   simp only[snap]
   rw[List.getElem?_set_ne (fun h=>bg b aj hb h.symm)]
  |m=>rfl
  |p _ b off aj hb=>
   simp only[snap]
   rw[List.getElem?_set_ne (fun h=>bg b aj hb h.symm)]
   cases dA:e.boxes[b]? with
   |none=>rfl
   |some bxv=>
    cases bxv with
    |none=>rfl
    |map l=>rfl
    |cells cs=>rfl
    |one s'=>
     simp only
     obtain⟨_,c,t,hc,_,aM,hr⟩:=hI.boxes b _ aj dA hb
     have oE:c[0]? =some (c[0]'(by omega)):=by simp
     rw[(ih (hr _ oE)).2]
  |c _ f first cap fv cv hf hc rf rc=>
   simp only[snap]
   have RY:∀(l:List Slot)(vs:Array Value),l.length=vs.size→(∀(i:Nat)x v,l[i]? =some x→vs[i]? =some v→cg w0.heap.size w g (fun _ _ _ _=>False) x v)→
     jd (snap (e.boxes.set id bx) n) l=jd (snap e.boxes n) l:=by
    intro l vs hl hr
    apply List.ext_getElem?
    intro i
    rw[(zW _ l).2,(zW _ l).2]
    cases hi:l[i]? with
    |none=>rfl
    |some x=>
     have aF:i<vs.size:=by rw[←hl];exact(List.getElem?_eq_some_iff.1 hi).1
     simp only[Option.map_some]
     rw[(ih (hr i x vs[i] hi (by simp))).2]
   rw[RY first fv hf rf,RY cap cv hc rc]
  |t=>rfl
theorem Ra{q:Bool}{e:Env}(hG:Good gl e){id:Nat}(eZ:e.boxes[id]? =some .none)(bx:af)(x:Operand):lz q (fP gl e x) e.boxes (e.boxes.set id bx):=by
 obtain⟨w0,ao,a,w,g,hI⟩:=hG
 have h:=hI.aV x
 refine⟨fun b off hs=>?_,fun n=>(B5 hI eZ bx n h).2,fun b l hs=>?_⟩
 ·have:=(B5 hI eZ bx 0 h).1.1 b off hs
  rw[List.getElem?_set_ne (fun h=>this h.symm)]
  exact⟨.refl _,fun _=>rfl⟩
 ·have:=(B5 hI eZ bx 0 h).1.2 b hs
  rw[List.getElem?_set_ne (fun h=>this h.symm)]
theorem Rb{e:Env}(hG:Good gl e){x:Operand}{b off:Nat}(hp:fP gl e x=.p b off∨fP gl e x=.m b):e.boxes[b]? ≠some .none :=by
 intro eZ
 obtain⟨w0,ao,a,w,g,hI⟩:=hG
 rcases hp with hp|hp
 ·exact(B5 hI eZ .none 0 (hI.aV x)).1.1 b off hp rfl
 ·exact(B5 hI eZ .none 0 (hI.aV x)).1.2 b hp rfl
theorem eD{l:List Slot}{i j:Nat}{x d:Slot}(h:i≠j):(l.set i x).getD j d=l.getD j d:=by
 rw[List.getD_eq_getElem?_getD,List.getElem?_set_ne h,←List.getD_eq_getElem?_getD]
theorem PG{o:Oper}{aE:Bool}{src:Option (Nat×Slot)}{s:Slot}{U:Option (Nat×af)}{e:Env}(Kz:∀t d,src=some (t,d)→aE=true∧t∈tmpsOf o){t:Nat}(ht:t∉g6 aE o):
  (fin o src s U e).ai.getD t (.v .undef)=e.ai.getD t (.v .undef):=by
 have h1:∀d,o.dst=some d→d≠t:=fun d hd h=>ht (by subst h;simp[g6,hd])
 have h2:∀u d,src=some (u,d)→u≠t:=fun u d hd h=>by
  obtain⟨h3,h4⟩:=Kz u d hd
  subst h
  exact ht (by simp[g6,h3,h4])
 unfold fin cz iR
 simp only
 cases hd:o.dst with
 |none=>
  simp only
  cases hs:src with
  |none=>rfl
  |some p=>exact eD (h2 p.1 p.2 hs)
 |some d=>
  simp only
  rw[eD (h1 d hd)]
  cases hs:src with
  |none=>rfl
  |some p=>exact eD (h2 p.1 p.2 hs)
theorem l5(l:List Slot){i j:Nat}(x y:Slot)(h:i≠j):(l.set i x).set j y=(l.set j y).set i x:=List.set_comm _ _ h
theorem WR{ox oy:Oper}{lx ly:Bool}{sx sy:Option (Nat×Slot)}{rx ry:Slot}(hx:∀t d,sx=some (t,d)→lx=true∧t∈tmpsOf ox)(hy:∀t d,sy=some (t,d)→ly=true∧t∈tmpsOf oy)
  (hd:∀t,t∈g6 lx ox→t∉g6 ly oy)(l:List Slot):cz (iR sx (cz (iR sy l) oy.dst ry)) ox.dst rx=cz (iR sy (cz (iR sx l) ox.dst rx)) oy.dst ry:=by
 have a1:∀d,ox.dst=some d→d∈g6 lx ox:=fun d h=>by simp[g6,h]
 have a2:∀d,oy.dst=some d→d∈g6 ly oy:=fun d h=>by simp[g6,h]
 have a3:∀t d,sx=some (t,d)→t∈g6 lx ox:=fun t d h=>by obtain⟨h1,h2⟩:=hx t d h;simp[g6,h1,h2]
 have a4:∀t d,sy=some (t,d)→t∈g6 ly oy:=fun t d h=>by obtain⟨h1,h2⟩:=hy t d h;simp[g6,h1,h2]
 have ne:∀{s t:Nat},s∈g6 lx ox→t∈g6 ly oy→s≠t:=fun h1 h2 h=>hd _ h1 (h▸h2)
 cases DJ:ox.dst with
 |none=>
  cases BD:oy.dst with
  |none=>
   cases sx with
   |none=>rfl
   |some p=>
    cases sy with
    |none=>rfl
    |some q=>simp only[cz,iR];exact l5 _ _ _ (ne (a3 _ _ rfl) (a4 _ _ rfl)).symm
  |some d=>
   cases sx with
   |none=>rfl
   |some p=>
    cases sy with
    |none=>simp only[cz,iR];exact l5 _ _ _ (ne (a3 _ _ rfl) (a2 _ BD)).symm
    |some q=>simp only[cz,iR];rw[l5 _ _ _ (ne (a3 _ _ rfl) (a2 _ BD)).symm,l5 l _ _ (ne (a3 _ _ rfl) (a4 _ _ rfl)).symm]
 |some c=>
  cases BD:oy.dst with
  |none=>
   cases sy with
   |none=>rfl
   |some q=>
    cases sx with
    |none=>simp only[cz,iR];exact l5 _ _ _ (ne (a1 _ DJ) (a4 _ _ rfl)).symm
    |some p=>simp only[cz,iR];rw[l5 l _ _ (ne (a3 _ _ rfl) (a4 _ _ rfl)).symm,l5 _ _ _ (ne (a1 _ DJ) (a4 _ _ rfl)).symm]
  |some d=>
   have tX:=ne (a1 _ DJ) (a2 _ BD)
   cases sx with
   |none=>
    cases sy with
    |none=>simp only[cz,iR];exact l5 _ _ _ tX.symm
    |some q=>simp only[cz,iR];rw[l5 _ _ _ tX.symm,l5 l _ _ (ne (a1 _ DJ) (a4 _ _ rfl)).symm]
   |some p=>
    cases sy with
    |none=>simp only[cz,iR];rw[l5 l _ _ (ne (a3 _ _ rfl) (a2 _ BD)).symm,l5 _ _ _ tX.symm]
    |some q=>
     simp only[cz,iR]
     rw[l5 _ _ _ (ne (a3 _ _ rfl) (a2 _ BD)).symm,l5 l _ _ (ne (a3 _ _ rfl) (a4 _ _ rfl)).symm,l5 _ _ _ tX.symm,l5 (l.set _ _) _ _ (ne (a1 _ DJ) (a4 _ _ rfl)).symm]
structure FU(ops:Array Oper)(lx ly:Bool)(x y:Oper):Prop where
 d1:∀t∈g6 lx x,t∉y.looksAt ops
 d2:∀t∈g6 lx x,t∉g6 ly y
 d3:∀t∈g6 ly y,t∉x.looksAt ops
structure KA(lx ly:Bool)(x y:Oper):Prop where
 m1:¬(jb x=true∧g4 y=true)
 m2:¬(jb y=true∧g4 x=true)
 m3:¬(lx=true∧ly=true∧g4 x=true∧g4 y=true)
theorem XC{ops:Array Oper}{lx ly:Bool}{x y:Oper}(h:indep ops lx ly x y=true):FU ops lx ly x y∧KA lx ly x y:=by
 simp only[indep,Bool.and_eq_true,List.all_eq_true,Bool.not_eq_true',List.contains_eq_mem,decide_eq_false_iff_not,Bool.and_eq_false_iff]at h
 obtain⟨⟨⟨⟨h1,h2⟩,h3⟩,h4⟩,h5⟩:=h
 refine⟨⟨fun t ht=>(h1 t ht).1,fun t ht=>(h1 t ht).2,fun t ht=>h2 t ht⟩,⟨?_,?_,?_⟩⟩
 ·rintro⟨a,b⟩;rcases h3 with h|h<;>simp_all
 ·rintro⟨a,b⟩;rcases h4 with h|h<;>simp_all
 ·rintro⟨a,b,c,d⟩;rcases h5 with((h|h)|h)|h<;>simp_all
def yD(gl:Nat→Option D)(lx:Bool)(x y:Oper)(e:Env):Prop:=(jb x=true∨lx=true)→∀z∈x.op.operands,(∀t u v,x.op=.store t u v→z=u)→∀b off,(fP gl e z=.p b off∨fP gl e z=.m b)→
 (∀z'∈y.op.operands,∀q eB,lz q (fP gl e z') e.boxes (e.boxes.set b eB))∧
 ∀z'∈y.op.operands,(∀t u v,y.op=.store t u v→z'=u)→∀pe,fP gl e z'≠.p b pe∧fP gl e z'≠.m b
theorem Z6{ops:Array Oper}{ix iy:Nat}{lx ly:Bool}{x y:Oper}{e:Env}{sx sy:Option (Nat×Slot)}{rx ry:Slot}{Ux Uy:Option (Nat×af)}(hG:Good gl e)(hi:FU ops lx ly x y)(hm:KA lx ly x y∨(yD gl lx x y e∧yD gl ly y x e))
  (hx:Out P gl C ops ix lx x e sx rx Ux)(hy:Out P gl C ops iy ly y (fin x sx rx Ux e) sy ry Uy):
  Out P gl C ops iy ly y e sy ry Uy∧Out P gl C ops ix lx x (fin y sy ry Uy e) sx rx Ux∧fin y sy ry Uy (fin x sx rx Ux e)=fin x sx rx Ux (fin y sy ry Uy e):=by
 have vJ:=hm
 have Tf:∀t∈y.looksAt ops,(fin x sx rx Ux e).ai.getD t (.v .undef)=e.ai.getD t (.v .undef):=fun t ht=>PG hx.yT fun h=>hi.d1 t h ht
 have Tg:∀t∈x.looksAt ops,(fin y sy ry Uy e).ai.getD t (.v .undef)=e.ai.getD t (.v .undef):=fun t ht=>PG hy.yT fun h=>hi.d3 t h ht
 have Th:∀z∈y.op.operands,fP gl (fin x sx rx Ux e) z=fP gl e z:=fun z hz=>by unfold fP;rw[uu (fun t ht=>Tf t (H3 ht)) hz]
 have Ti:∀z∈x.op.operands,fP gl (fin y sy ry Uy e) z=fP gl e z:=fun z hz=>by unfold fP;rw[uu (fun t ht=>Tg t (H3 ht)) hz]
 have dA:(fin x sx rx Ux e).boxes =lb Ux e.boxes:=rfl
 have k7:(fin y sy ry Uy e).boxes =lb Uy e.boxes:=rfl
 have yU:uX iy y ly (fP gl e) e.boxes Uy:=by
  cases hy.uf with
  |none=>exact .none
  |mk bx h hn hb=>
   refine .mk bx h ?_ hb
   rw[dA]at hn
   cases hx.uf with
   |none=>exact hn
   |mk eB h' pr eg=>
    simp only[lb]at hn
    by_cases DK:ix=iy
    ·subst DK
     rw[List.getElem?_set_self (List.getElem?_eq_some_iff.1 pr).1]at hn
     exact absurd (Option.some.inj hn) eg
    ·rwa[List.getElem?_set_ne DK]at hn
   |wr b eB gq h' jv z hz off hp ho hold eg=>
    simp only[lb]at hn
    by_cases DK:b=iy
    ·subst DK
     rw[List.getElem?_set_self (List.getElem?_eq_some_iff.1 ho).1]at hn
     exact absurd (Option.some.inj hn) eg.1
    ·rwa[List.getElem?_set_ne DK]at hn
  |wr b bx gq h hw z hz off hp ho hold hb qb ha=>
   rw[Th z hz]at hp
   rw[dA]at ho
   cases hx.uf with
   |none=>exact .wr b bx gq h hw z hz off hp ho hold hb qb ha
   |mk eB h' pr eg=>
    have bg:ix≠b:=by
     rintro rfl
     exact Rb hG hp pr
    simp only[lb]at ho
    rw[List.getElem?_set_ne bg]at ho
    exact .wr b bx gq h hw z hz off hp ho hold hb qb ha
   |wr b' eB De h' jv z' fm pe rT bO A0 eg adG ld=>
    rcases hm with hm|hm
    ·exfalso
     rcases jv with jv|jv
     ·exact hm.m1 ⟨jv,h⟩
     ·rcases hw with hw|hw
      ·exact hm.m2 ⟨hw,h'⟩
      ·exact hm.m3 ⟨jv,hw,h',h⟩
    ·have bg:b'≠b:=by
      rintro rfl
      have:=(hm.1 jv z' fm ld b' pe rT).2 z hz ha off
      rcases hp with hp|hp
      ·exact this.1 hp
      ·exact this.2 hp
     simp only[lb]at ho
     rw[List.getElem?_set_ne bg]at ho
     exact .wr b bx gq h hw z hz off hp ho hold hb qb ha
 have Ka:∀b bx b' eB,Ux=some (b,bx)→Uy=some (b',eB)→b≠b':=by
  intro b bx b' eB h1 h2
  subst h1 h2
  have hyf:=hy.uf
  cases hx.uf with
  |mk _ h' pr eg=>
   cases yU with
   |mk _ h hn hb=>
    rintro rfl
    cases hyf with
    |mk _ h2 DL oA=>
     rw[dA]at DL
     simp only[lb]at DL
     rw[List.getElem?_set_self (List.getElem?_eq_some_iff.1 pr).1]at DL
     exact eg (Option.some.inj DL)
    |wr _ _ _ h2=>rw[NB h]at h2;cases h2
   |wr _ _ gq h hw z hz off hp ho hold hb=>
    rintro rfl
    exact Rb hG hp pr
  |wr _ _ De h' jv z' fm pe rT bO A0 eg adG ld=>
   cases yU with
   |mk _ h hn hb=>
    rintro rfl
    rw[bO]at hn
    exact A0 (Option.some.inj hn)
   |wr _ _ gq h hw z hz off hp ho hold hb qb ha=>
    rcases hm with hm|hm
    ·exfalso
     rcases jv with jv|jv
     ·exact hm.m1 ⟨jv,h⟩
     ·rcases hw with hw|hw
      ·exact hm.m2 ⟨hw,h'⟩
      ·exact hm.m3 ⟨jv,hw,h',h⟩
    ·rintro rfl
     have:=(hm.1 jv z' fm ld _ pe rT).2 z hz ha off
     rcases hp with hp|hp
     ·exact this.1 hp
     ·exact this.2 hp
 refine⟨⟨yU,hy.yT,fun e' k' hl hS hk=>?_⟩,⟨?_,hx.yT,fun e' k' hl hS hk=>?_⟩,?_⟩
 ·refine hy.Ky e' k' (fun t ht=>(hl t ht).trans (Tf t ht).symm) ⟨fun hm z hz=>?_,fun hm hU=>hS.fresh hm hU⟩ hk
  rw[Th z hz]
  refine lz.trans ?_ (hS.mem hm z hz)
  rw[dA]
  cases hx.uf with
  |none=>exact .refl _ _
  |mk eB h' pr eg=>exact(Ra hG pr eB z).symm
  |wr b' eB De h' jv z' fm pe rT bO A0 eg qb ld=>
   rcases vJ with eE|eE
   ·have nx:jb x=false:=by cases hq:jb x with|false=>rfl|true=>exact absurd ⟨hq,hm⟩ eE.m1
    have GI:lx=true:=by rcases jv with h|h;exact absurd ⟨h,hm⟩ eE.m1;exact h
    have ny:jb y=false:=by cases hq:jb y with|false=>rfl|true=>exact absurd ⟨hq,h'⟩ eE.m2
    have GJ:ly=false:=by cases hq:ly with|false=>rfl|true=>exact absurd ⟨GI,hq,h',hm⟩ eE.m3
    exact(O9 (by rw[ny,GJ];rfl) bO (qb GI nx) _).symm
   ·exact((eE.1 jv z' fm ld b' pe rT).1 z hz _ eB).symm
 ·cases hxu:hx.uf with
  |none=>exact .none
  |mk eB h' pr eg=>
   refine .mk eB h' ?_ eg
   rw[k7]
   cases hU:Uy with
   |none=>exact pr
   |some p=>
    simp only[lb]
    rw[List.getElem?_set_ne (Ka _ _ _ _ rfl hU).symm]
    exact pr
  |wr b' eB De h' jv z' fm pe rT bO A0 eg qb ld=>
   refine .wr b' eB De h' jv z' fm pe (by rw[Ti z' fm];exact rT) ?_ A0 eg qb ld
   rw[k7]
   cases hU:Uy with
   |none=>exact bO
   |some p=>
    simp only[lb]
    rw[List.getElem?_set_ne (Ka _ _ _ _ rfl hU).symm]
    exact bO
 ·refine hx.Ky e' k' (fun t ht=>(hl t ht).trans (Tg t ht)) ⟨fun hm z hz=>?_,fun hm hU=>hS.fresh hm hU⟩ hk
  have h1:=hS.mem hm z hz
  rw[Ti z hz]at h1
  refine lz.trans ?_ h1
  rw[k7]
  cases yU with
  |none=>exact .refl _ _
  |mk eB h' pr eg=>exact Ra hG pr eB z
  |wr b' eB De h' jv z' fm pe rT bO A0 eg qb ld=>
   rcases vJ with eE|eE
   ·have ny:jb y=false:=by cases hq:jb y with|false=>rfl|true=>exact absurd ⟨hq,hm⟩ eE.m2
    have GJ:ly=true:=by rcases jv with h|h;exact absurd ⟨h,hm⟩ eE.m2;exact h
    have nx:jb x=false:=by cases hq:jb x with|false=>rfl|true=>exact absurd ⟨hq,h'⟩ eE.m1
    have GI:lx=false:=by cases hq:lx with|false=>rfl|true=>exact absurd ⟨hq,GJ,hm,h'⟩ eE.m3
    exact O9 (by rw[nx,GI];rfl) bO (qb GJ ny) _
   ·exact(eE.2 jv z' fm ld b' pe rT).1 z hz _ eB
 ·unfold fin
  rw[Env.mk.injEq]
  refine⟨(WR hx.yT hy.yT hi.d2 e.ai).symm,?_⟩
  simp only
  cases hUx:Ux with
  |none=>rfl
  |some p=>
   cases hUy:Uy with
   |none=>rfl
   |some q=>exact List.set_comm _ _ (Ka _ _ _ _ hUx hUy)
end
end Go.Proofs.Ytimbllcalipehaa.Ab
namespace Go.Proofs.Ytimbllcalipehaa.Ab
open Go Go.RowKit
theorem YK{l:List Nat}(h:Fx l=true):l.Nodup:=by
 induction l with
 |nil=>exact .nil
 |cons a l ih=>
  simp only[Fx,Bool.and_eq_true,Bool.not_eq_true',List.contains_eq_mem,decide_eq_false_iff_not]at h
  exact List.nodup_cons.2 ⟨h.1,ih h.2⟩
structure yV(ops:Array Oper)(aE:Nat→Bool):Prop where
 inj:∀(i j:Nat)oi oj a,ops[i]? =some oi→ops[j]? =some oj→mH oi=some a→mH oj=some a→i=j
 mem:∀(i:Nat)o,ops[i]? =some o→mH o=none→fT o=false∧∀d,o.dst=some d→d∉j1 ops.toList
 Lz:∀(i:Nat)o,ops[i]? =some o→∀x∈o.op.operands,(aE i=false→addrOf o≠some x)→∀t,x=.tmp t→t∉j1 ops.toList
 val:∀(i:Nat)o,ops[i]? =some o→∀t x y,o.op=.store t x y→∀u,y=.tmp u→u∉j1 ops.toList
 waits:∀(j:Nat)o a,ops[j]? =some o→nP (j1 ops.toList) o=some a→∀(i:Nat)oi,ops[i]? =some oi→mH oi=some a→((reach [] ops.toList).getD j 0).testBit i=true
theorem Nr{α:Type}{f:α→Option Nat}:∀{l:List α},(l.filterMap f).Nodup →∀(i j:Nat)x y a,l[i]? =some x→l[j]? =some y→f x=some a→f y=some a→i=j
 |[],_,i,j,x,y,a,hx,_,_,_=>by simp at hx
 |z::l,h,i,j,x,y,a,hx,hy,fx,fy=>by
  have mem:∀(k:Nat)w,l[k]? =some w→f w=some a→a∈l.filterMap f:=fun k w hw fw=>List.mem_filterMap.2 ⟨w,List.mem_of_getElem? hw,fw⟩
  cases i with
  |zero=>
   cases j with
   |zero=>rfl
   |succ j=>
    simp only[List.getElem?_cons_zero,Option.some.injEq]at hx
    simp only[List.getElem?_cons_succ]at hy
    subst hx
    rw[List.filterMap_cons_some fx]at h
    exact absurd (mem j y hy fy) (List.nodup_cons.1 h).1
  |succ i=>
   simp only[List.getElem?_cons_succ]at hx
   cases j with
   |zero=>
    simp only[List.getElem?_cons_zero,Option.some.injEq]at hy
    subst hy
    rw[List.filterMap_cons_some fy]at h
    exact absurd (mem i x hx fx) (List.nodup_cons.1 h).1
   |succ j=>
    simp only[List.getElem?_cons_succ]at hy
    have h':(l.filterMap f).Nodup :=by
     cases hz:f z with
     |none=>rw[List.filterMap_cons_none hz]at h;exact h
     |some b=>rw[List.filterMap_cons_some hz]at h;exact(List.nodup_cons.1 h).2
    rw[Nr h' i j x y a hx hy fx fy]
theorem Ns{all:List Oper}{A:List Nat}{aE:Nat→Bool}{R:List Nat}:∀{l:List Oper}{i:Nat},E5 all A aE R l i=true→∀(n:Nat)o,l[n]? =some o→
  CM A (aE (i+n)) o=true∧∀a,nP A o=some a→Ce a (R.getD (i+n) 0) all 0=true
 |[],_,_,n,o,h=>by simp at h
 |p::l,i,h,n,o,ho=>by
  simp only[E5,Bool.and_eq_true]at h
  obtain⟨⟨h1,h2⟩,h3⟩:=h
  cases n with
  |zero=>
   simp only[List.getElem?_cons_zero,Option.some.injEq]at ho
   subst ho
   refine⟨h1,fun a ha=>?_⟩
   rw[ha]at h2
   exact h2
  |succ n=>
   have:=Ns h3 n o (by simpa using ho)
   rw[show i+1+n=i+(n+1) by omega]at this
   exact this
theorem Nl{a m:Nat}:∀{l:List Oper}{i:Nat},Ce a m l i=true→∀(n:Nat)o,l[n]? =some o→mH o=some a→m.testBit (i+n)=true
 |[],_,_,n,o,h,_=>by simp at h
 |p::l,i,h,n,o,ho,ha=>by
  simp only[Ce,Bool.and_eq_true]at h
  cases n with
  |zero=>
   simp only[List.getElem?_cons_zero,Option.some.injEq]at ho
   subst ho
   have:=h.1
   rw[ha]at this
   simpa using this
  |succ n=>
   have:=Nl h.2 n o (by simpa using ho) ha
   rw[show i+1+n=i+(n+1) by omega]at this
   exact this
theorem E7{A:List Nat}{x:Operand}(h:Du A x=false):∀t,x=.tmp t→t∉A:=by
 rintro t rfl
 simpa[Du]using h
theorem Qp{ops:Array Oper}{aE:Nat→Bool}(h:eligible ops.toList aE (reach [] ops.toList)=true):yV ops aE:=by
 simp only[eligible,Bool.and_eq_true]at h
 obtain⟨hn,hf⟩:=h
 have sp:=fun(i:Nat)(o:Oper)(ho:ops[i]? =some o)=>Ns hf i o (by rw[Array.getElem?_toList];exact ho)
 simp only[Nat.zero_add]at sp
 refine⟨fun i j oi oj a h1 h2 h3 h4=>Nr (YK hn) i j oi oj a (by rw[Array.getElem?_toList];exact h1) (by rw[Array.getElem?_toList];exact h2) h3 h4,fun i o ho ha=>?_,fun i o ho x hx DM=>?_,fun i o ho t x y iC=>?_,fun j o a ho hs i oi hoi xB=>?_⟩
 ·have:=(sp i o ho).1
  simp only[CM,ha,Bool.and_eq_true,Bool.not_eq_true']at this
  refine⟨this.1.1,fun d hd=>?_⟩
  have h2:=this.1.2
  rw[hd]at h2
  simpa using h2
 ·have:=(sp i o ho).1
  simp only[CM,Bool.and_eq_true]at this
  have h2:=this.2
  cases iC:o.op with
  |store t u v=>
   rw[iC]at h2 hx
   simp only[Bool.and_eq_true,Bool.not_eq_true',Bool.or_eq_true]at h2
   simp only[Op.operands,List.mem_toArray,List.mem_cons,List.not_mem_nil,or_false]at hx
   rcases hx with rfl|rfl
   ·rcases h2.2 with h3|h3
    ·exact E7 h3
    ·exact absurd (by simp[addrOf,iC]) (DM h3)
   ·exact E7 h2.1
  |_=>
   rw[iC]at h2 hx
   simp only[List.all_eq_true,Bool.not_eq_true']at h2
   exact E7 (h2 x (by simpa using hx))
 ·have:=(sp i o ho).1
  simp only[CM,Bool.and_eq_true]at this
  have h2:=this.2
  rw[iC]at h2
  simp only[Bool.and_eq_true,Bool.not_eq_true']at h2
  exact E7 h2.1
 ·have:=Nl ((sp j o ho).2 a hs) i oi (by rw[Array.getElem?_toList];exact hoi) xB
  simpa using this
section
variable{P:Program}{gl:Nat→Option D}{C:bd}{ops:Array Oper}{aE:Nat→Bool}{base:Nat}{K:Nat→Prop}
structure Jv(ops:Array Oper)(base:Nat)(K:Nat→Prop)(bz:Array Bool)(e:Env):Prop where
 k:∀b,K b→b<base
 low:∀t,t∉j1 ops.toList→dC K (e.ai.getD t (.v .undef))
 box:∀b s,(K b∨base≤b)→e.boxes[b]? =some (.one s)→dC K s
 own:∀(i:Nat)o a,ops[i]? =some o→mH o=some a→bz.getD i false=true→e.ai.getD a (.v .undef)=.v .undef ∨e.ai.getD a (.v .undef)=.p (base+fK ops.toList i) 0
theorem IM{e:Env}{x:Operand}(h:∀t,x=.tmp t→dC K (e.ai.getD t (.v .undef))):dC K (fP gl e x):=by
 unfold fP
 cases x with
 |tmp t=>exact(h t rfl).kF
 |_=>
  simp only[Ab.aV]
  repeat' split
  all_goals exact .v _
theorem HM(l:List Slot)(i j:Nat)(x d:Slot):((l.set i x).getD j d=x∧i=j)∨(l.set i x).getD j d=l.getD j d:=by
 by_cases h:i=j
 ·subst h
  rcases Nat.lt_or_ge i l.length with hl|hl
  ·left;simp[List.getD_eq_getElem?_getD,List.getElem?_set_self hl]
  ·right;rw[List.set_eq_of_length_le hl]
 ·right;exact eD h
theorem Jk:∀{l:List Oper}{i j:Nat}{o:Oper},i<j→l[i]? =some o→fT o=true→fK l i<fK l j
 |[],i,j,o,_,h,_=>by simp at h
 |p::l,i,j,o,fO,h,hm=>by
  cases j with
  |zero=>omega
  |succ j=>
   cases i with
   |zero=>
    simp only[List.getElem?_cons_zero,Option.some.injEq]at h
    subst h
    simp only[fK,hm,cond_true]
    omega
   |succ i=>
    have:=Jk (Nat.lt_of_succ_lt_succ fO) (by simpa using h) hm
    simp only[fK]
    omega
theorem Il{o:Oper}{a:Nat}(h:mH o=some a):(∃t,o.op=.alloc t)∧o.guard=none∧o.dst=some a:=by
 unfold mH at h
 split at h
 ·rename_i t h1 h2;exact⟨⟨t,h1⟩,h2,h⟩
 ·cases h
theorem Pb{i:Nat}{o:Oper}{a:Nat}(ho:ops[i]? =some o)(h:mH o=some a):a∈j1 ops.toList:=
 List.mem_filterMap.2 ⟨o,List.mem_of_getElem? (by rw[Array.getElem?_toList];exact ho),h⟩
theorem Pc{a:Nat}(h:a∈j1 ops.toList):∃(i:Nat) (o:Oper),ops[i]? =some o∧mH o=some a:=by
 obtain⟨o,ho,h⟩:=List.mem_filterMap.1 h
 obtain⟨i,hi⟩:=List.mem_iff_getElem?.1 ho
 exact⟨i,o,by rw[←Array.getElem?_toList];exact hi,h⟩
theorem Jv.step{bz:Array Bool}{e e':Env}(hE:yV ops aE)(hJ:Jv ops base K bz e){i:Nat}{o:Oper}(ho:ops[i]? =some o)
  (h:mO P gl C ops.toList (base+fK ops.toList i) (aE i) o e (fun x=>x=e')):Jv ops base K (bz.setIfInBounds i true) e':=by
 cases ha:mH o with
 |some a=>
  obtain⟨⟨t,iC⟩,hg,hd⟩:=Il ha
  have h':=z5.1 h
  have iX:rF ops.toList o e=some true:=by unfold rF;rw[hg]
  rw[iX]at h'
  simp only[mP]at h'
  cases hl:aE i with
  |true=>rw[hl]at h';simp only[cond_true,kR,iC]at h'
  |false=>
   rw[hl]at h'
   simp only[cond_false,cX,iC]at h'
   split at h'
   ·rename_i eZ
    obtain⟨z,hz,h2⟩:=aI h'
    subst h2
    rw[hd]
    refine⟨hJ.k,fun t' qv=>?_,fun b s hb gI=>?_,fun j oj a' iZ vN zm=>?_⟩
    ·simp only[cz]
     rw[eD (fun h:a=t'=>qv (by rw[←h];exact Pb ho ha))]
     exact hJ.low t' qv
    ·simp only at gI
     rw[List.getElem?_set]at gI
     split at gI
     ·split at gI
      ·cases gI
      ·cases gI
     ·exact hJ.box b s hb gI
    ·simp only[cz]
     by_cases fO:i=j
     ·subst fO
      rw[ho]at iZ;cases iZ
      rw[ha]at vN;cases vN
      rcases HM e.ai a a (.p (base+fK ops.toList i) 0) (.v .undef)with⟨h,_⟩|h
      ·exact .inr h
      ·rcases Nat.lt_or_ge a e.ai.length with aF|kD
       ·right;simp[List.getD_eq_getElem?_getD,List.getElem?_set_self aF]
       ·left;rw[h,List.getD_eq_getElem?_getD,List.getElem?_eq_none kD];rfl
     ·have bg:a≠a':=fun h=>fO (hE.inj i j o oj a ho iZ ha (h▸vN))
      rw[eD bg]
      refine hJ.own j oj a' iZ vN ?_
      rw[getD_set_ne false fO]at zm
      exact zm
   ·exact h'.elim
 |none=>
  obtain⟨sd,mQ⟩:=hE.mem i o ho ha
  obtain⟨src,s,U,hk,hO,_,iQ,_⟩:=xU h
  subst hk
  obtain⟨l1,l2,l3⟩:=iQ K (fun b=>K b∨base≤b) (fun b h=>.inl h) (fun x hx DM=>IM fun t ht=>hJ.low t (hE.Lz i o ho x hx DM t ht))
   (fun t x y iC=>IM fun u hu=>hJ.low u (hE.val i o ho t x y iC u hu)) hJ.box sd
  have Kz:∀t d,src=some (t,d)→t∉j1 ops.toList:=fun t d hs=>by
   obtain⟨hl,ht⟩:=hO.yT t d hs
   obtain⟨z,hz,zn⟩:=List.mem_filterMap.1 ht
   refine hE.Lz i o ho (.tmp t) ?_ (fun h=>by rw[hl]at h;cases h) t rfl
   cases z with
   |tmp u=>simp only[Option.some.injEq]at zn;subst zn;simpa using hz
   |_=>simp at zn
  have gr:∀t,(dC K (e.ai.getD t (.v .undef))→dC K ((iR src e.ai).getD t (.v .undef)))∧(t∈j1 ops.toList→(iR src e.ai).getD t (.v .undef)=e.ai.getD t (.v .undef)):=fun t=>by
   cases xA:src with
   |none=>exact⟨fun h=>h,fun _=>rfl⟩
   |some p=>
    obtain⟨u,d⟩:=p
    simp only[iR]
    refine⟨fun h=>?_,fun ht=>eD fun hh=>Kz u d xA (hh▸ht)⟩
    rcases HM e.ai u t d (.v .undef)with⟨h2,_⟩|h2
    ·rw[h2];exact l2 u d xA
    ·rw[h2];exact h
  refine⟨hJ.k,fun t ht=>?_,fun b s' hb gI=>?_,fun j oj a' iZ vN zm=>?_⟩
  ·unfold fin
   simp only
   cases hd:o.dst with
   |none=>exact(gr t).1 (hJ.low t ht)
   |some d=>
    simp only[cz]
    rcases HM (iR src e.ai) d t s (.v .undef)with⟨h2,_⟩|h2
    ·rw[h2];exact l1
    ·rw[h2];exact(gr t).1 (hJ.low t ht)
  ·unfold fin at gI
   simp only at gI
   cases hU:U with
   |none=>rw[hU]at gI;exact hJ.box b s' hb gI
   |some p=>
    obtain⟨b0,bx⟩:=p
    rw[hU]at gI
    simp only[lb]at gI
    rw[List.getElem?_set]at gI
    split at gI
    ·rename_i ef
     split at gI
     ·cases gI
      exact l3 b0 s' hU
     ·cases gI
    ·exact hJ.box b s' hb gI
  ·have fO:i≠j:=by
    rintro rfl
    rw[ho]at iZ;cases iZ
    rw[ha]at vN;cases vN
   have eb:=Pb iZ vN
   have jn:(fin o src s U e).ai.getD a' (.v .undef)=e.ai.getD a' (.v .undef):=by
    unfold fin
    simp only
    cases hd:o.dst with
    |none=>exact(gr a').2 eb
    |some d=>
     simp only[cz]
     rw[eD (fun h:d=a'=>mQ d hd (by rw[h];exact eb))]
     exact(gr a').2 eb
   rw[jn]
   refine hJ.own j oj a' iZ vN ?_
   rw[getD_set_ne false fO]at zm
   exact zm
theorem PH{e:Env}{bz:Array Bool}(hJ:Jv ops base K bz e){b:Nat}(hb:base≤b)(bx:af):∀(n:Nat)(s:Slot),dC K s→snap (e.boxes.set b bx) n s=snap e.boxes n s:=by
 intro n
 induction n with
 |zero=>intro s _;rfl
 |succ n ih=>
  intro s hs
  cases hs with
  |v x=>rfl
  |t l=>rfl
  |a c m sz h=>
   have bg:b≠c:=fun h2=>by have:=hJ.k c h;omega
   simp only[snap]
   rw[List.getElem?_set_ne bg]
  |m c h=>rfl
  |p c off h=>
   have bg:b≠c:=fun h2=>by have:=hJ.k c h;omega
   simp only[snap]
   rw[List.getElem?_set_ne bg]
   cases hc:e.boxes[c]? with
   |none=>rfl
   |some y=>
    cases y with
    |one s'=>simp only;rw[ih s' (hJ.box c s' (.inl h) hc)]
    |_=>rfl
  |c f first cap h1 h2=>
   simp only[snap]
   have hl:∀(l:List Slot),(∀s∈l,dC K s)→jd (snap (e.boxes.set b bx) n) l=jd (snap e.boxes n) l:=by
    intro l hl
    induction l with
    |nil=>rfl
    |cons a l ihl=>simp only[jd];rw[ih a (hl a (by simp)),ihl fun s hs=>hl s (by simp[hs])]
   rw[hl first h1,hl cap h2]
theorem YL{e:Env}{bz:Array Bool}(hJ:Jv ops base K bz e){b:Nat}(hb:base≤b)(bx:af){s:Slot}(hs:dC K s)(q:Bool):lz q s e.boxes (e.boxes.set b bx):=by
 refine⟨fun c off h=>?_,fun n=>PH hJ hb bx n s hs,fun c l h=>?_⟩
 ·subst h
  have bg:b≠c:=fun h2=>by have:=hJ.k c hs.mc;omega
  rw[List.getElem?_set_ne bg]
  exact⟨.refl _,fun _=>rfl⟩
 ·subst h
  have bg:b≠c:=fun h2=>by have:=hJ.k c hs.RX;omega
  rw[List.getElem?_set_ne bg]
theorem YM{e:Env}{bz:Array Bool}(hJ:Jv ops base K bz e){b c off:Nat}(hb:base≤b)(hc:base≤c)(bg:b≠c)(bx:af)(q:Bool):lz q (.p c off) e.boxes (e.boxes.set b bx):=by
 refine⟨fun c' pe h=>?_,fun n=>?_,fun c l h=>by cases h⟩
 ·cases h
  rw[List.getElem?_set_ne bg]
  exact⟨.refl _,fun _=>rfl⟩
 ·cases n with
  |zero=>rfl
  |succ n=>
   simp only[snap]
   rw[List.getElem?_set_ne bg]
   cases hx:e.boxes[c]? with
   |none=>rfl
   |some y=>
    cases y with
    |one s'=>simp only;rw[PH hJ hb bx n s' (hJ.box c s' (.inr hc) hx)]
    |_=>rfl
theorem PI{A:List Nat}{o:Oper}{a:Nat}(h:nP A o=some a):a∈A∧∃t y,o.op=.store t (.tmp a) y:=by
 unfold nP at h
 split at h
 ·rename_i t a' y iC
  cases hc:A.contains a' with
  |false=>rw[hc]at h;cases h
  |true=>
   rw[hc]at h
   cases h
   exact⟨by simpa using hc,t,y,iC⟩
 ·cases h
def Made(ops:Array Oper)(bz:Array Bool)(o:Oper):Prop:=∀a,nP (j1 ops.toList) o=some a→∀(i:Nat)oi,ops[i]? =some oi→mH oi=some a→bz.getD i false=true
theorem abx{e:Env}{bz:Array Bool}(hE:yV ops aE)(hJ:Jv ops base K bz e){j:Nat}{y:Oper}(hy:ops[j]? =some y){z:Operand}(hz:z∈y.op.operands)(h:nP (j1 ops.toList) y=none∨addrOf y≠some z):dC K (fP gl e z):=by
 refine IM fun t ht=>hJ.low t ?_
 by_cases xC:addrOf y=some z
 ·rcases h with h|h
  ·subst ht
   unfold addrOf at xC
   split at xC
   ·rename_i t' x' y' iC
    cases xC
    intro hm
    unfold nP at h
    rw[iC]at h
    simp[hm]at h
   ·cases xC
  ·exact absurd xC h
 ·exact hE.Lz j y hy z hz (fun _=>xC) t ht
theorem EO{e:Env}{bz:Array Bool}(hE:yV ops aE)(hJ:Jv ops base K bz e){i j:Nat}{x y:Oper}(_hx:ops[i]? =some x)(hy:ops[j]? =some y){a:Nat}(hs:nP (j1 ops.toList) x=some a)
  (bQ:Made ops bz x)(xz:Made ops bz y)(bg:nP (j1 ops.toList) y≠some a){lx:Bool}:yD gl lx x y e:=by
 intro hw z hz xC b off hp
 obtain⟨hm,t,v,iC⟩:=PI hs
 obtain⟨k,ok,fo,BE⟩:=Pc hm
 have zn:=xC _ _ _ iC
 subst zn
 have sd:fT ok=true:=by obtain⟨⟨t,h⟩,_⟩:=Il BE;simp[fT,h]
 have hrz:fP gl e (.tmp a)=(e.ai.getD a (.v .undef)).aa :=rfl
 have hb:b=base+fK ops.toList k:=by
  rw[hrz]at hp
  rcases hJ.own k ok a fo BE (bQ a hs k ok fo BE)with h|h
  ·rw[h]at hp;rcases hp with hp|hp<;>cases hp
  ·rw[h]at hp;rcases hp with hp|hp<;>cases hp;rfl
 have ef:base≤b:=by omega
 have oB:∀z'∈y.op.operands,dC K (fP gl e z')∨∃c,base≤c∧b≠c∧fP gl e z'=.p c 0:=by
  intro z' fm
  by_cases h:nP (j1 ops.toList) y=none∨addrOf y≠some z'
  ·exact .inl (abx hE hJ hy fm h)
  ·have h1:nP (j1 ops.toList) y≠none:=fun h2=>h (.inl h2)
   have h2:addrOf y=some z':=Classical.byContradiction fun h2=>h (.inr h2)
   obtain⟨a',ld⟩:=Option.ne_none_iff_exists'.1 h1
   obtain⟨lT,t',v',aez⟩:=PI ld
   obtain⟨k',LA,Df,Dg⟩:=Pc lT
   have xD:z'=.tmp a':=by
    unfold addrOf at h2
    rw[aez]at h2
    exact(Option.some.inj h2).symm
   subst xD
   have hr:fP gl e (.tmp a')=(e.ai.getD a' (.v .undef)).aa :=rfl
   rcases hJ.own k' LA a' Df Dg (xz a' ld k' LA Df Dg)with h|h
   ·left;rw[hr,h];exact .v _
   ·right
    refine⟨base+fK ops.toList k',by omega,?_,by rw[hr,h];rfl⟩
    rw[hb]
    have lO:k≠k':=by
     rintro rfl
     rw[fo]at Df;cases Df
     rw[BE]at Dg;cases Dg
     exact bg ld
    have aeA:fT LA=true:=by obtain⟨⟨t,h⟩,_⟩:=Il Dg;simp[fT,h]
    rcases Nat.lt_or_gt_of_ne lO with h|h
    ·have:=Jk (l:=ops.toList) h (by rw[Array.getElem?_toList];exact fo) sd;omega
    ·have:=Jk (l:=ops.toList) h (by rw[Array.getElem?_toList];exact Df) aeA;omega
 refine⟨fun z' fm q eB=>?_,fun z' fm _ pe=>?_⟩
 ·rcases oB z' fm with h|⟨c,hc,GK,h⟩
  ·exact YL hJ ef eB h q
  ·rw[h];exact YM hJ ef hc GK eB q
 ·rcases oB z' fm with h|⟨c,hc,GK,h⟩
  ·refine⟨fun h2=>?_,fun h2=>?_⟩
   ·rw[h2]at h;have:=hJ.k b h.mc;omega
   ·rw[h2]at h;have:=hJ.k b h.RX;omega
  ·rw[h]
   refine⟨fun h2=>?_,fun h2=>by cases h2⟩
   cases h2
   exact GK rfl
theorem YN{e:Env}{bz:Array Bool}(hE:yV ops aE)(hJ:Jv ops base K bz e){i j:Nat}{x y:Oper}(hx:ops[i]? =some x)(hy:ops[j]? =some y){lx ly:Bool}(hf:FP (j1 ops.toList) lx ly x y=true)
  (bQ:Made ops bz x)(xz:Made ops bz y):yD gl lx x y e∧yD gl ly y x e:=by
 unfold FP at hf
 split at hf
 ·rename_i a b ha hb
  simp only[Bool.and_eq_true,Bool.not_eq_true']at hf
  have Bx:a≠b:=fun h=>by rw[h,Nat.beq_refl]at hf;exact absurd hf.1.1 (by simp)
  exact⟨EO hE hJ hx hy ha bQ xz (by rw[hb];simpa using Ne.symm Bx),EO hE hJ hy hx hb xz bQ (by rw[ha];simpa using Bx)⟩
 ·rename_i a ha hb
  simp only[Bool.and_eq_true,Bool.not_eq_true']at hf
  refine⟨EO hE hJ hx hy ha bQ xz (by rw[hb];simp),fun hw=>?_⟩
  rcases hw with h|h
  ·rw[hf.1.2]at h;cases h
  ·rw[hf.2]at h;cases h
 ·rename_i b ha hb
  simp only[Bool.and_eq_true,Bool.not_eq_true']at hf
  refine⟨fun hw=>?_,EO hE hJ hy hx hb xz bQ (by rw[ha];simp)⟩
  rcases hw with h|h
  ·rw[hf.1.2]at h;cases h
  ·rw[hf.2]at h;cases h
 ·cases hf
theorem WS{A:List Nat}{lx ly:Bool}{x y:Oper}(h:JH ops A lx ly x y=true):FU ops lx ly x y∧FP A lx ly x y=true:=by
 simp only[JH,Bool.and_eq_true,List.all_eq_true,Bool.not_eq_true',List.contains_eq_mem,decide_eq_false_iff_not]at h
 obtain⟨⟨h1,h2⟩,h3⟩:=h
 exact⟨⟨fun t ht=>(h1 t ht).1,fun t ht=>(h1 t ht).2,fun t ht=>h2 t ht⟩,h3⟩
end
end Go.Proofs.Ytimbllcalipehaa.Ab
