/-
  THE ABSTRACT WALK: appends.
-/
import Derived.Test.YtimbllcalipehaaTa
import Derived.MapKept
import Derived.Laws.MakeOwn
set_option linter.unusedVariables false
set_option linter.unusedSimpArgs false
namespace Go.Proofs.Ytimbllcalipehaa.Ab
open Go Go.RowKit
section
variable{P:Program}{gl:Nat→Option D}{w0:World}{aq:S0}{e:Env}{a:Act}{w:World}{g:Gh}
structure rF(e:Env)(ai:List Slot)(lost:Nat→Prop)(dst:Option Nat):Prop where
 len:ai.length=e.ai.length
 at_:∀(i:Nat)x,ai[i]? =some x→dst≠some i→∃y,e.ai[i]? =some y∧((x=y∧¬lost i)∨x=y.aa)
theorem rF.same(e:Env)(dst:Option Nat):rF e e.ai (fun _=>False) dst:=⟨rfl,fun _ x h _=>⟨x,h,.inl ⟨rfl,fun h=>h⟩⟩⟩
def yG(lost:Nat→Prop)(dst:Option Nat)(p:Pos):Prop:=∃i j,p=.s i j∧(lost i∨dst=some i)
theorem Inv.hand(hI:Inv gl w0 aq e a w g){w':World}{g':Gh}{ai:List Slot}{lost:Nat→Prop}{dst:Option Nat}(hH:rF e ai lost dst)
  (hX:Ext w0.heap.size w g w' g' (yG lost dst)){s:Slot}{v:Value}(om:Below w0.heap.size w w')
  (m8:∀d,dst=some d→bW w0.heap.size w' g' (fe w0.heap.size w' g' d) s v)(dt:g'.bx=g.bx)(dh:∀b,some b∈g.bx→w'.heap[b]? =w.heap[b]?)
  (yZ:∀b o,g'.St b o→(aq b o∨w0.heap.size≤b)∧some b∉g.bx∧b<w'.heap.size):
  Inv gl w0 aq ⟨cq ai dst s,e.boxes⟩ (a.put dst v) w' g':=by
 refine hI.step hX om hH.len (fun i x hx hd=>?_) m8 (by rw[dt];exact hI.ff) ?_ (by rw[dt];exact hI.nodup) ?_ (fun b o h=>by rw[dt];exact yZ b o h)
 ·obtain⟨y,hy,⟨rfl,hl⟩|h⟩:=hH.at_ i x hx hd
  ·refine⟨x,hy,.inl ⟨rfl,fun j=>?_⟩⟩
   rintro⟨i',j',h,ic|ic⟩
   ·cases h;exact hl ic
   ·cases h;exact hd ic
  ·exact⟨y,hy,.inr h⟩
 ·intro b bx an h1 h2
  rw[dt]at h2
  refine hX.box (fun j=>?_) (dh an (List.mem_of_getElem? h2)) (hI.boxes b bx an h1 h2)
  rintro⟨i,j',h,_⟩
  cases h
 ·intro b hb
  rw[dt]at hb
  have:=om.size
  have:=hI.dj b hb
  omega
def Gh.mv(g:Gh)(b:Nat)(p:Pos):Gh:={g with ow:=fun b'=>if b'=b then some p else g.ow b'}
theorem Ext.mv{base:Nat}{i:Nat}{b a0 c0:Nat}(ho:eN base w g (.s i 0) b a0 c0){lost:Nat→Prop}(hl:lost i)(dst:Option Nat)(q:Pos):Ext base w g w (g.mv b q) (yG lost dst):=by
 refine⟨fun D _ hb hn h=>⟨h,hb,(by
  simp only[Gh.mv]
  rw[if_neg (fun e=>by rw[e,ho.1]at hn;cases hn)];exact hn),fun _ h=>h⟩,fun _ _ h=>(by first|exact⟨h,rfl⟩|exact⟨h,.refl _ _ _⟩),fun _ _ _=>rfl,fun _ _ h=>h,fun p b' a' c' hp bN=>⟨?_,.refl _ _ _⟩,.refl _⟩
 obtain⟨h1,h2,h3,h4,h5⟩:=bN
 refine⟨?_,h2,h3,h4,h5⟩
 simp only[Gh.mv]
 split
 ·rename_i hb
  subst hb
  exfalso
  rw[ho.1]at h1
  cases h1
  exact hp ⟨i,0,rfl,.inl hl⟩
 ·exact h1
theorem Vs{t ty e':TypeId}{i:TypeInfo}(ht:P.underlying t=some (.slice e'))(hi:P.info? e'=some i)(base:Option Addr)(n cap:Nat)(hn:n≤cap){y:Value}
  (hy:y=.slice none 0 0∨∃ad c,y=.slice (some ad) 0 c):(Builtin.append_ #[t,t] ty #[.slice base n cap,y]).run P w=.ok (.slice base n cap) w:=by
 rcases hy with rfl|⟨ad,c,rfl⟩
 ·cases base<;>simp[Builtin.append_,run_underlying ht,sizeOf,typeInfo,hi,Builtin.lenOf,hn,Builtin.firstCells,storeCells]
 ·cases base<;>simp[Builtin.append_,run_underlying ht,sizeOf,typeInfo,hi,Builtin.lenOf,hn,Builtin.firstCells,loadCells,loadCellsFrom,storeCells]
theorem Nq{t ty e' te:TypeId}{i:TypeInfo}(ht:P.underlying t=some (.slice e'))(hi:P.info? e'=some i){gg n cap:Nat}{cur:Array Value}(hg:w.heap[gg]? =some (.cells cur te (0,0)))
  {ad:Addr}{m c:Nat}(news:List Value)(hl:news.length=m*i.size)(ad2:∀j u,news[j]? =some u→w.cell? (ad.add j)=some u)(h1:∀u∈news,u.oneCell'=true)
  (u9:n+m≤cap)(oB:n*i.size+news.length≤cur.size):
  (Builtin.append_ #[t,t] ty #[.slice (some ⟨gg,0,none⟩) n cap,.slice (some ad) m c]).run P w=
    .ok (.slice (some ⟨gg,0,none⟩) (n+m) cap) (w.setRow gg (cur.toList.take (n*i.size)++news++cur.toList.drop (n*i.size+news.length)).toArray):=by
 have hf:=run_firstCells_some (P:=P) w i.size m ad m c news hl ad2
 have aR:=run_storeCells_at P gg (n*i.size) te news 0 cur w hg (by simpa using oB) h1
 simp only[Nat.add_zero]at aR
 simp[Builtin.append_,run_underlying ht,sizeOf,typeInfo,hi,Builtin.lenOf,u9,hf,Addr.add_lit,aR]
theorem x6{sz n:Nat}{vs:Nat→Value}{b off:Nat}{St:Nat→Nat→Prop}(aO:∀(o:Nat),o<n*sz→w.cell? ⟨b,off+o,none⟩=some (vs o)∧St b (off+o)):
  ∃l:List Value,l.length=n*sz∧(∀j u,l[j]? =some u→w.cell? ((⟨b,off,none⟩:Addr).add j)=some u)∧∀j,j<n*sz→l[j]? =some (vs j):=by
 refine⟨(List.range (n*sz)).map vs,by simp,fun j u hu=>?_,fun j hj=>by simp[hj]⟩
 have hj:j<n*sz:=by have:=(List.getElem?_eq_some_iff.1 hu).1;simpa using this
 simp[hj]at hu
 subst hu
 rw[pY]
 exact(aO j hj).1
theorem E8{sz:Nat}{L M:List D}(hL:∀x∈L,x.cells.length=sz){i:Nat}{x:D}(hx:(L++M)[i]? =some x){j:Nat}{c:D}(hc:x.cells[j]? =some c){St:Nat→Nat→Prop}
  {f h:Nat→Value}(hf:∀(i:Nat)x(j:Nat)c,L[i]? =some x→x.cells[j]? =some c→aZ w St c (f (i*sz+j)))(hh:∀(i:Nat)x(j:Nat)c,M[i]? =some x→x.cells[j]? =some c→aZ w St c (h (i*sz+j)))
  (hM:∀x∈M,x.cells.length=sz):aZ w St c (if i*sz+j<L.length*sz then f (i*sz+j)else h (i*sz+j-L.length*sz)):=by
 rw[List.getElem?_append]at hx
 have hj:=(List.getElem?_eq_some_iff.1 hc).1
 split at hx
 ·rename_i hi
  rw[hL x (List.mem_of_getElem? hx)]at hj
  have:(i+1)*sz≤L.length*sz:=Nat.mul_le_mul_right _ hi
  rw[Nat.succ_mul]at this
  rw[if_pos (by omega)]
  exact hf i x j c hx hc
 ·rename_i hi
  rw[hM x (List.mem_of_getElem? hx)]at hj
  have h1:L.length*sz≤i*sz:=Nat.mul_le_mul_right _ (by omega)
  rw[if_neg (by omega)]
  have:=hh (i-L.length) x j c hx hc
  have e1:i*sz+j-L.length*sz=(i-L.length)*sz+j:=by rw[Nat.sub_mul];omega
  rw[e1]
  exact this
theorem Inv.grow(hI:Inv gl w0 aq e a w g){ai:List Slot}{lost:Nat→Prop}{dst:Option Nat}(hH:rF e ai lost dst){sz:Nat}{L M:List D}{cap:Nat}{te:TypeId}{fh news rest:List Value}
  (hL:∀x∈L,x.cells.length=sz)(hM:∀x∈M,x.cells.length=sz)(pF:∀x∈L,∀c∈x.cells,c.one=true)(km:∀x∈M,∀c∈x.cells,c.one=true)
  (ho:fh.length=L.length*sz)(hn:news.length=M.length*sz)(hr:rest.length=(cap-(L.length+M.length))*sz)(bF:L.length+M.length≤cap)(fC:cap≤maxLen)
  {f h:Nat→Value}(uk:∀j,j<L.length*sz→fh[j]? =some (f j))(sf:∀j,j<M.length*sz→news[j]? =some (h j))
  (hf:∀(i:Nat)x(j:Nat)c,L[i]? =some x→x.cells[j]? =some c→aZ w g.St c (f (i*sz+j)))(hh:∀(i:Nat)x(j:Nat)c,M[i]? =some x→x.cells[j]? =some c→aZ w g.St c (h (i*sz+j))):
  ∃g',Inv gl w0 aq ⟨cq ai dst (.v (.own sz (L++M))),e.boxes⟩ (a.put dst (.slice (some ⟨w.heap.size,0,none⟩) (L.length+M.length) cap))
   (w.drew.alloc (.cells (fh++news++rest).toArray te)) g':=by
 have hle:w0.heap.size≤w.heap.size:=hI.below.size
 have ago:w.drew.heap=w.heap:=rfl
 have aM:(w.drew.alloc (.cells (fh++news++rest).toArray te)).heap.size =w.heap.size+1:=B4 w.drew _
 have hold:=fun b(hb:b<w.heap.size)=>jt w.drew (.cells (fh++news++rest).toArray te) b hb
 have kI:=wH w.drew (.cells (fh++news++rest).toArray te)
 have w4:∀b o,b<w.heap.size→(w.drew.alloc (.cells (fh++news++rest).toArray te)).cell? ⟨b,o,none⟩=w.cell? ⟨b,o,none⟩:=fun b o hb=>World.cell?_of_block (hold b hb)
 refine⟨{St:=fun b o=>g.St b o∨(b=w.heap.size∧o<(L.length+M.length)*sz),bx:=g.bx,ow:=fun b=>if b=w.heap.size then(dst.map fun d=>.s d 0)else g.ow b},?_⟩
 have hX:Ext w0.heap.size w g (w.drew.alloc (.cells (fh++news++rest).toArray te))
   {St:=fun b o=>g.St b o∨(b=w.heap.size∧o<(L.length+M.length)*sz),bx:=g.bx,ow:=fun b=>if b=w.heap.size then(dst.map fun d=>.s d 0)else g.ow b} (yG lost dst):=by
  refine⟨fun D o hb ho h=>⟨(hold D (fT h)).trans h,hb,(by
   simp only
   rw[if_neg (by have:=fT h;omega)];exact ho),fun x hx=>hx.elim id fun e=>(by have:=fT h;omega)⟩,fun b o h=>⟨.inl h,.ri (hold b (hI.pv h))⟩,fun b o h=>w4 b o (by omega),fun _ _ h=>h,fun p b a' c' _ bN=>⟨?_,fun _=>hold b bN.lt⟩,.of fun b hb=>hold b hb⟩
  have aK:=bN.lt
  obtain⟨h1,h2,h3,⟨cur,ty,h4,lu⟩,h5⟩:=bN
  refine⟨?_,h2,h3,⟨cur,ty,(hold b aK).trans h4,lu⟩,fun o ho=>?_⟩
  ·simp only
   rw[if_neg (by omega)];exact h1
  ·rintro(h|h)
   ·exact h5 o ho h
   ·omega
 refine hI.hand hH hX ⟨rfl,rfl,rfl,by omega,fun k hk=>hold k (by omega)⟩ (fun d hd=>?_) rfl (fun b hb=>hold b (hI.dj b hb).2) (fun b o h=>?_)
 ·have hlen:(L++M).length =L.length+M.length:=List.length_append
  have bS:(fh++news++rest).toArray.size =cap*sz:=by
   simp only[List.size_toArray,List.length_append,ho,hn,hr]
   rw[←Nat.add_mul,←Nat.add_mul]
   congr 1
   omega
  have bc:=aZ.sl (w:=w.drew.alloc (.cells (fh++news++rest).toArray te)) (St:=fun b o=>g.St b o∨(b=w.heap.size∧o<(L.length+M.length)*sz)) sz (L++M) w.heap.size 0 cap
   (fun o=>if o<L.length*sz then f o else h (o-L.length*sz)) (by omega) (by omega) (fun x hx=>(List.mem_append.1 hx).elim (hL x) (hM x)) (fun x hx=>(List.mem_append.1 hx).elim (pF x) (km x))
   (fun o bN=>by
     rw[hlen]at bN
     refine⟨?_,.inr ⟨rfl,by omega⟩⟩
     rw[cell_of_row _ w.heap.size (0+o) _ te (0,0) kI]
     simp only[Nat.zero_add,List.getElem?_toArray]
     rw[List.append_assoc,List.getElem?_append]
     split
     ·rename_i h1
      rw[ho]at h1
      rw[if_pos h1];exact uk o h1
     ·rename_i h1
      rw[ho]at h1 ⊢
      rw[if_neg h1]
      have aK:o-L.length*sz<M.length*sz:=by rw[Nat.add_mul]at bN;omega
      rw[List.getElem?_append_left (by rw[hn];exact aK)]
      exact sf _ aK)
   (fun i x j c hx hc=>(E8 hL hx hc hf hh hM).mono fun b o h=>⟨.inl h,w4 b o (hI.pv h)⟩)
  rw[hlen]at bc
  refine .v _ _ _ ?_
  have iv:=aJ.own (w:=w.drew.alloc (.cells (fh++news++rest).toArray te)) (St:=fun b o=>g.St b o∨(b=w.heap.size∧o<(L.length+M.length)*sz)) (base:=w0.heap.size)
   (fe w0.heap.size (w.drew.alloc (.cells (fh++news++rest).toArray te)) {St:=fun b o=>g.St b o∨(b=w.heap.size∧o<(L.length+M.length)*sz),bx:=g.bx,ow:=fun b=>if b=w.heap.size then(dst.map fun d=>.s d 0)else g.ow b} d 0)
   sz (L++M) w.heap.size cap (by rw[hlen];exact bc) fC ?_
  ·rw[hlen]at iv;exact iv
  ·refine⟨by simp[hd],hle,fun hb=>by have:=(hI.dj _ hb).2;omega,⟨_,te,kI,bS⟩,fun o ho=>?_⟩
   rw[hlen]at ho
   rintro(h|h)
   ·have:=hI.pv h;omega
   ·omega
 ·rcases h with h|h
  ·have:=hI.cG b o h
   exact⟨this.1,this.2.1,by omega⟩
  ·obtain⟨rfl,_⟩:=h
   exact⟨.inr hle,fun hb=>by have:=(hI.dj _ hb).2;omega,by omega⟩
theorem Inv.room(hI:Inv gl w0 aq e a w g){ai:List Slot}{lost:Nat→Prop}{dst:Option Nat}(hH:rF e ai lost dst){sz:Nat}{L M:List D}{cap gg i0:Nat}{news:List Value}
  (pG:eN w0.heap.size w g (.s i0 0) gg (L.length*sz) (cap*sz))(hl:lost i0)
  (vu:aZ w g.St (.sl .ro sz L) (.slice (some ⟨gg,0,none⟩) L.length cap)){cur:Array Value}{te:TypeId}(lX:w.heap[gg]? =some (.cells cur te (0,0)))(bS:cur.size=cap*sz)
  (hM:∀x∈M,x.cells.length=sz)(km:∀x∈M,∀c∈x.cells,c.one=true)
  (hn:news.length=M.length*sz)(bF:L.length+M.length≤cap)(fC:cap≤maxLen)
  {h:Nat→Value}(sf:∀j,j<M.length*sz→news[j]? =some (h j))(hh:∀(i:Nat)x(j:Nat)c,M[i]? =some x→x.cells[j]? =some c→aZ w g.St c (h (i*sz+j))):
  ∃g',Inv gl w0 aq ⟨cq ai dst (.v (.own sz (L++M))),e.boxes⟩ (a.put dst (.slice (some ⟨gg,0,none⟩) (L.length+M.length) cap))
   (w.setRow gg (cur.toList.take (L.length*sz)++news++cur.toList.drop (L.length*sz+news.length)).toArray) g':=by
 obtain⟨o1,o2,o3,_,o5⟩:=pG
 have oO:gg<w.heap.size:=(Array.getElem?_eq_some_iff.1 lX).1
 have oB:L.length*sz+M.length*sz≤cap*sz:=by rw[←Nat.add_mul];exact Nat.mul_le_mul_right _ bF
 let w':=w.setRow gg (cur.toList.take (L.length*sz)++news++cur.toList.drop (L.length*sz+news.length)).toArray
 let g':Gh:={St:=fun b o=>g.St b o∨(b=gg∧o<(L.length+M.length)*sz),bx:=g.bx,ow:=fun b=>if b=gg then(dst.map fun d=>.s d 0)else g.ow b}
 have eb:∀k,k≠gg→w'.heap[k]? =w.heap[k]? :=fun k hk=>setRow_other w gg k _ hk
 have kI:w'.heap[gg]? =some (.cells (cur.toList.take (L.length*sz)++news++cur.toList.drop (L.length*sz+news.length)).toArray te (0,0)):=setRow_heap w gg cur _ te (0,0) lX
 have jF:∀o,w'.cell? ⟨gg,o,none⟩=if o<L.length*sz then cur[o]? else if o<L.length*sz+M.length*sz then news[o-L.length*sz]? else cur[o]? :=by
  intro o
  rw[cell_of_row w' gg o _ te (0,0) kI]
  simp only[List.getElem?_toArray]
  rw[uD cur.toList news (L.length*sz) (by simp[bS,hn];omega)]
  simp only[hn,Array.getElem?_toList]
 have w4:∀b o,(b=gg→o<L.length*sz)→w'.cell? ⟨b,o,none⟩=w.cell? ⟨b,o,none⟩:=by
  intro b o hb
  by_cases mc:b=gg
  ·subst mc
   rw[jF,if_pos (hb rfl),cell_of_row w b o cur te (0,0) lX]
  ·exact World.cell?_of_block (eb b mc)
 have hX:Ext w0.heap.size w g w' g' (yG lost dst):=by
  refine⟨fun D ob hb ez h=>(have bg:D≠gg:=(fun e=>by rw[e,o1]at ez;cases ez);⟨(eb D bg).trans h,hb,(by
   show(if D=gg then(dst.map fun d=>Pos.s d 0)else g.ow D)=none
   rw[if_neg bg];exact ez),fun x hx=>hx.elim id fun e=>absurd e.1 bg⟩),fun b o h=>⟨.inl h,w4 b o (fun hb=>?_),fun es c hm=>(eb b (fun hb=>by rw[hb,lX]at hm;cases hm)).trans hm⟩,fun b o hb=>w4 b o (fun h=>by omega),fun _ _ h=>h,fun p b a' c' hp bN=>?_,fun b c ty _ hb=>(by
   by_cases mc:b=gg
   ·subst mc
    rw[lX]at hb;cases hb
    refine⟨_,_,kI,?_⟩
    have cY:cur.toList.length=cap*sz:=by simpa using bS
    rw[List.size_toArray,List.length_append,List.length_append,List.length_take,List.length_drop,hn,cY,bS];omega
   ·exact⟨c,ty,(eb b mc).trans hb,rfl⟩)⟩
  ·subst hb
   rcases Nat.lt_or_ge o (L.length*sz)with h1|h1
   ·exact h1
   ·exact absurd h (o5 o h1)
  ·obtain⟨h1,h2,h3,⟨oC,ty,h4,lu⟩,h5⟩:=bN
   have mc:b≠gg:=by
    rintro rfl
    rw[o1]at h1
    cases h1
    exact hp ⟨i0,0,rfl,.inl hl⟩
   refine⟨⟨?_,h2,h3,⟨oC,ty,(eb b mc).trans h4,lu⟩,fun o ho=>?_⟩,fun _=>eb b mc⟩
   ·show(if b=gg then(dst.map fun d=>Pos.s d 0)else g.ow b)=some p
    rw[if_neg mc];exact h1
   ·rintro(h|h)
    ·exact h5 o ho h
    ·exact mc h.1
 refine⟨g',hI.hand hH hX ⟨rfl,rfl,rfl,by simp[w',World.setRow],fun k hk=>eb k (by omega)⟩ (fun d hd=>?_) rfl (fun b hb=>eb b (fun h=>o3 (h▸hb))) (fun b o h=>?_)⟩
 ·have hlen:(L++M).length =L.length+M.length:=List.length_append
  cases vu with
  |ki _ _ _ ha=>exact absurd rfl ha
  |sl _ _ _ _ _ vs agp hm hL pF aO hc=>
   have bc:=aZ.sl (w:=w') (St:=g'.St) sz (L++M) gg 0 cap
    (fun o=>if o<L.length*sz then vs o else h (o-L.length*sz)) (by omega) (by omega) (fun x hx=>(List.mem_append.1 hx).elim (hL x) (hM x)) (fun x hx=>(List.mem_append.1 hx).elim (pF x) (km x))
    (fun o bN=>by
      rw[hlen,Nat.add_mul]at bN
      refine⟨?_,.inr ⟨rfl,by rw[Nat.add_mul];omega⟩⟩
      rw[Nat.zero_add,jF]
      split
      ·rename_i h1
       have:=(aO o h1).1
       rw[Nat.zero_add,cell_of_row w gg o cur te (0,0) lX]at this
       exact this
      ·rename_i h1
       exact sf _ (by omega))
    (fun i x j c hx jl=>(E8 hL hx jl hc hh hM).mono hX.Tj)
   refine .v _ _ _ ?_
   have iv:=aJ.own (w:=w') (St:=g'.St) (base:=w0.heap.size) (fe w0.heap.size w' g' d 0) sz (L++M) gg cap (by rw[hlen]at bc ⊢;exact bc) fC ?_
   ·rw[hlen]at iv;exact iv
   ·refine⟨by simp[g',hd],o2,o3,⟨_,te,kI,?_⟩,fun o ho=>?_⟩
    ·have cY:cur.toList.length=cap*sz:=by simpa using bS
     rw[List.size_toArray,List.length_append,List.length_append,List.length_take,List.length_drop,hn,cY];omega
    ·rw[hlen]at ho
     have:L.length*sz≤(L.length+M.length)*sz:=Nat.mul_le_mul_right _ (by omega)
     rintro(h|h)
     ·exact o5 o (by omega) h
     ·omega
 ·have hs:w'.heap.size=w.heap.size:=by simp[w',World.setRow]
  rcases h with h|h
  ·have:=hI.cG b o h
   exact⟨this.1,this.2.1,by omega⟩
  ·obtain⟨rfl,_⟩:=h
   exact⟨.inr o2,o3,by omega⟩
theorem Inv.Se(hI:Inv gl w0 aq e a w g){ai:List Slot}{lost:Nat→Prop}{dst:Option Nat}(hH:rF e ai lost dst){sz:Nat}{L M:List D}{cap:Nat}{te:TypeId}{fh news rest:List Value}
  (hL:∀x∈L,x.cells.length=sz)(hM:∀x∈M,x.cells.length=sz)(pF:∀x∈L,∀c∈x.cells,c.one=true)(km:∀x∈M,∀c∈x.cells,c.one=true)
  (ho:fh.length=L.length*sz)(hn:news.length=M.length*sz)(hr:rest.length=(cap-(L.length+M.length))*sz)(bF:L.length+M.length≤cap)(fC:cap≤maxLen)
  {f h:Nat→Value}(uk:∀j,j<L.length*sz→fh[j]? =some (f j))(sf:∀j,j<M.length*sz→news[j]? =some (h j))
  (hf:∀(i:Nat)x(j:Nat)c,L[i]? =some x→x.cells[j]? =some c→aZ w g.St c (f (i*sz+j)))(hh:∀(i:Nat)x(j:Nat)c,M[i]? =some x→x.cells[j]? =some c→aZ w g.St c (h (i*sz+j))):
  ∃g',Inv gl w0 aq ⟨cq ai dst (.v (.bt sz (L++M))),e.boxes⟩ (a.put dst (.slice (some ⟨w.heap.size,0,none⟩) (L.length+M.length) cap))
   (w.drew.alloc (.cells (fh++news++rest).toArray te)) g':=by
 have hle:w0.heap.size≤w.heap.size:=hI.below.size
 have aM:(w.drew.alloc (.cells (fh++news++rest).toArray te)).heap.size =w.heap.size+1:=B4 w.drew _
 have hold:=fun b(hb:b<w.heap.size)=>jt w.drew (.cells (fh++news++rest).toArray te) b hb
 have kI:=wH w.drew (.cells (fh++news++rest).toArray te)
 have w4:∀b o,b<w.heap.size→(w.drew.alloc (.cells (fh++news++rest).toArray te)).cell? ⟨b,o,none⟩=w.cell? ⟨b,o,none⟩:=fun b o hb=>World.cell?_of_block (hold b hb)
 let g':Gh:={St:=g.St,bx:=g.bx,ow:=fun b=>if b=w.heap.size then(dst.map fun d=>.s d 0)else g.ow b}
 have hX:Ext w0.heap.size w g (w.drew.alloc (.cells (fh++news++rest).toArray te)) g' (yG lost dst):=by
  refine⟨fun D o hb ho h=>⟨(hold D (fT h)).trans h,hb,(by
   show(if D=w.heap.size then(dst.map fun d=>Pos.s d 0)else g.ow D)=none
   rw[if_neg (by have:=fT h;omega)];exact ho),fun x hx=>hx⟩,fun b o h=>⟨h,.ri (hold b (hI.pv h))⟩,fun b o h=>w4 b o (by omega),fun _ _ h=>h,fun p b a' c' _ bN=>⟨?_,fun _=>hold b bN.lt⟩,.of fun b hb=>hold b hb⟩
  have aK:=bN.lt
  obtain⟨h1,h2,h3,⟨cur,ty,h4,lu⟩,h5⟩:=bN
  refine⟨?_,h2,h3,⟨cur,ty,(hold b aK).trans h4,lu⟩,h5⟩
  show(if b=w.heap.size then(dst.map fun d=>Pos.s d 0)else g.ow b)=some p
  rw[if_neg (by omega)];exact h1
 refine⟨g',hI.hand hH hX ⟨rfl,rfl,rfl,by omega,fun k hk=>hold k (by omega)⟩ (fun d hd=>?_) rfl (fun b hb=>hold b (hI.dj b hb).2) (fun b o h=>?_)⟩
 ·have hlen:(L++M).length =L.length+M.length:=List.length_append
  have bS:(fh++news++rest).toArray.size =cap*sz:=by
   simp only[List.size_toArray,List.length_append,ho,hn,hr]
   rw[←Nat.add_mul,←Nat.add_mul]
   congr 1
   omega
  refine .v _ _ _ ?_
  have hm:=aJ.bt (w:=w.drew.alloc (.cells (fh++news++rest).toArray te)) (St:=g.St) (base:=w0.heap.size) (fe w0.heap.size (w.drew.alloc (.cells (fh++news++rest).toArray te)) g' d 0)
   sz (L++M) w.heap.size cap (fun o=>if o<L.length*sz then f o else h (o-L.length*sz)) (by omega) fC (fun x hx=>(List.mem_append.1 hx).elim (hL x) (hM x)) (fun x hx=>(List.mem_append.1 hx).elim (pF x) (km x))
   ⟨by simp[g',hd],hle,fun hb=>by have:=(hI.dj _ hb).2;omega,⟨_,te,kI,bS⟩,fun o _ hs=>by have:=hI.pv hs;omega⟩
   (fun o bN=>by
     rw[hlen]at bN
     rw[cell_of_row _ w.heap.size o _ te (0,0) kI]
     simp only[List.getElem?_toArray]
     rw[List.append_assoc,List.getElem?_append]
     split
     ·rename_i h1
      rw[ho]at h1
      rw[if_pos h1];exact uk o h1
     ·rename_i h1
      rw[ho]at h1 ⊢
      rw[if_neg h1]
      have aK:o-L.length*sz<M.length*sz:=by rw[Nat.add_mul]at bN;omega
      rw[List.getElem?_append_left (by rw[hn];exact aK)]
      exact sf _ aK)
   (fun i x j c hx hc=>(E8 hL hx hc hf hh hM).mono fun b o h=>⟨h,w4 b o (hI.pv h)⟩)
  rw[hlen]at hm
  exact hm
 ·have:=hI.cG b o h
  exact⟨this.1,this.2.1,by omega⟩
theorem Inv.ad3(hI:Inv gl w0 aq e a w g){ai:List Slot}{lost:Nat→Prop}{dst:Option Nat}(hH:rF e ai lost dst){sz:Nat}{L M:List D}{cap gg i0:Nat}{news:List Value}
  (pG:eN w0.heap.size w g (.s i0 0) gg 0 (cap*sz))(hl:lost i0){vs:Nat→Value}
  (hL:∀x∈L,x.cells.length=sz)(pF:∀x∈L,∀c∈x.cells,c.one=true)(aO:∀(o:Nat),o<L.length*sz→w.cell? ⟨gg,o,none⟩=some (vs o))
  (hc:∀(i:Nat)x(j:Nat)c,L[i]? =some x→x.cells[j]? =some c→aZ w g.St c (vs (i*sz+j))){cur:Array Value}{te:TypeId}(lX:w.heap[gg]? =some (.cells cur te (0,0)))(bS:cur.size=cap*sz)
  (hM:∀x∈M,x.cells.length=sz)(km:∀x∈M,∀c∈x.cells,c.one=true)
  (hn:news.length=M.length*sz)(bF:L.length+M.length≤cap)(fC:cap≤maxLen)
  {h:Nat→Value}(sf:∀j,j<M.length*sz→news[j]? =some (h j))(hh:∀(i:Nat)x(j:Nat)c,M[i]? =some x→x.cells[j]? =some c→aZ w g.St c (h (i*sz+j))):
  ∃g',Inv gl w0 aq ⟨cq ai dst (.v (.bt sz (L++M))),e.boxes⟩ (a.put dst (.slice (some ⟨gg,0,none⟩) (L.length+M.length) cap))
   (w.setRow gg (cur.toList.take (L.length*sz)++news++cur.toList.drop (L.length*sz+news.length)).toArray) g':=by
 obtain⟨o1,o2,o3,_,o5⟩:=pG
 have oO:gg<w.heap.size:=(Array.getElem?_eq_some_iff.1 lX).1
 have oB:L.length*sz+M.length*sz≤cap*sz:=by rw[←Nat.add_mul];exact Nat.mul_le_mul_right _ bF
 let w':=w.setRow gg (cur.toList.take (L.length*sz)++news++cur.toList.drop (L.length*sz+news.length)).toArray
 let g':Gh:={St:=g.St,bx:=g.bx,ow:=fun b=>if b=gg then(dst.map fun d=>.s d 0)else g.ow b}
 have eb:∀k,k≠gg→w'.heap[k]? =w.heap[k]? :=fun k hk=>setRow_other w gg k _ hk
 have kI:w'.heap[gg]? =some (.cells (cur.toList.take (L.length*sz)++news++cur.toList.drop (L.length*sz+news.length)).toArray te (0,0)):=setRow_heap w gg cur _ te (0,0) lX
 have jF:∀o,w'.cell? ⟨gg,o,none⟩=if o<L.length*sz then cur[o]? else if o<L.length*sz+M.length*sz then news[o-L.length*sz]? else cur[o]? :=by
  intro o
  rw[cell_of_row w' gg o _ te (0,0) kI]
  simp only[List.getElem?_toArray]
  rw[uD cur.toList news (L.length*sz) (by simp[bS,hn];omega)]
  simp only[hn,Array.getElem?_toList]
 have aeY:∀b o,g.St b o→b≠gg:=fun b o h e=>by subst e;exact o5 o (Nat.zero_le _) h
 have Sf:(cur.toList.take (L.length*sz)++news++cur.toList.drop (L.length*sz+news.length)).toArray.size =cap*sz:=by
  have cY:cur.toList.length=cap*sz:=by simpa using bS
  rw[List.size_toArray,List.length_append,List.length_append,List.length_take,List.length_drop,hn,cY];omega
 have hX:Ext w0.heap.size w g w' g' (yG lost dst):=by
  refine⟨fun D ob hb ez h=>(have bg:D≠gg:=(fun e=>by rw[e,o1]at ez;cases ez);⟨(eb D bg).trans h,hb,(by
   show(if D=gg then(dst.map fun d=>Pos.s d 0)else g.ow D)=none
   rw[if_neg bg];exact ez),fun x hx=>hx⟩),fun b o h=>⟨h,.ri (eb b (aeY b o h))⟩,fun b o hb=>World.cell?_of_block (eb b (fun h=>by omega)),fun _ _ h=>h,fun p b a' c' hp bN=>?_,fun b c ty _ hb=>(by
   by_cases mc:b=gg
   ·subst mc
    rw[lX]at hb;cases hb
    exact⟨_,_,kI,Sf.trans bS.symm⟩
   ·exact⟨c,ty,(eb b mc).trans hb,rfl⟩)⟩
  obtain⟨h1,h2,h3,⟨oC,ty,h4,lu⟩,h5⟩:=bN
  have mc:b≠gg:=by
   rintro rfl
   rw[o1]at h1
   cases h1
   exact hp ⟨i0,0,rfl,.inl hl⟩
  refine⟨⟨?_,h2,h3,⟨oC,ty,(eb b mc).trans h4,lu⟩,h5⟩,fun _=>eb b mc⟩
  show(if b=gg then(dst.map fun d=>Pos.s d 0)else g.ow b)=some p
  rw[if_neg mc];exact h1
 refine⟨g',hI.hand hH hX ⟨rfl,rfl,rfl,by simp[w',World.setRow],fun k hk=>eb k (by omega)⟩ (fun d hd=>?_) rfl (fun b hb=>eb b (fun h=>o3 (h▸hb))) (fun b o h=>?_)⟩
 ·have hlen:(L++M).length =L.length+M.length:=List.length_append
  refine .v _ _ _ ?_
  have hm:=aJ.bt (w:=w') (St:=g.St) (base:=w0.heap.size) (fe w0.heap.size w' g' d 0)
   sz (L++M) gg cap (fun o=>if o<L.length*sz then vs o else h (o-L.length*sz)) (by omega) fC (fun x hx=>(List.mem_append.1 hx).elim (hL x) (hM x)) (fun x hx=>(List.mem_append.1 hx).elim (pF x) (km x))
   ⟨by simp[g',hd],o2,o3,⟨_,te,kI,Sf⟩,fun o _ hs=>o5 o (Nat.zero_le _) hs⟩
   (fun o bN=>by
     rw[hlen,Nat.add_mul]at bN
     rw[jF]
     split
     ·rename_i h1
      have:=aO o h1
      rw[cell_of_row w gg o cur te (0,0) lX]at this
      exact this
     ·rename_i h1
      exact sf _ (by omega))
   (fun i x j c hx jl=>(E8 hL hx jl hc hh hM).mono hX.Tj)
  rw[hlen]at hm
  exact hm
 ·have hs:w'.heap.size=w.heap.size:=by simp[w',World.setRow]
  have:=hI.cG b o h
  exact⟨this.1,this.2.1,by omega⟩
theorem W3{t:TypeId}{z:List D}(h:nT P t=some z):∃i zv,P.info? t=some i∧i.zero=some zv∧zv.cells.size=z.length:=by
 unfold nT at h
 split at h
 ·rename_i i hi
  split at h
  ·rename_i zv hz
   exact⟨i,zv,hi,hz,by have:=(B0 (w:=default) (St:=fun _ _=>False) h).1;simpa using this.symm⟩
  ·cases h
 ·cases h
theorem EB(z:Array Value)(n:Nat):∃l:List Value,Builtin.zeroCells z n=l.toArray∧l.length=n*z.size:=by
 refine⟨(Builtin.zeroCells z n).toList,by simp,by simp[size_zeroCells]⟩
theorem Wc(hI:Inv gl w0 aq e a w g){ai:List Slot}{lost:Nat→Prop}{dst:Option Nat}(hH:rF e ai lost dst){t ty e':TypeId}{i:TypeInfo}{zv:Value}{sz:Nat}
  (ht:P.underlying t=some (.slice e'))(hi:P.info? e'=some i)(hz:i.zero=some zv)(aM:i.size=sz)(gB:zv.cells.size=sz)(A6:0<sz)
  {sx sy:SV}{vx vy:Value}{O Oy:Nat→Nat→Nat→Prop}(rx:aJ w g.St w0.heap.size O sx vx)(ry:aJ w g.St w0.heap.size Oy sy vy)
  (hO:∀b a' c,O b a' c→∃i0,eN w0.heap.size w g (.s i0 0) b a' c∧lost i0){r:SV}{n:Nat}(h:kH sz sx sy=some (r,n))(hb:n*i.bytes≤140737488355328)(lz:0<i.bytes):
  ∃v w' g',(Builtin.append_ #[t,t] ty #[vx,vy]).run P w=.ok v w'∧Inv gl w0 aq ⟨cq ai dst (.v r),e.boxes⟩ (a.put dst v) w' g':=by
 subst aM
 unfold kH at h
 split at h
 ·cases h
 ·rename_i M hM
  have hy:=NZ hM ry
  have ad4:M=[]→vy=.slice none 0 0∨∃ad c,vy=.slice (some ad) 0 c:=by
   intro hm
   subst hm
   rcases hy with⟨h,_⟩|⟨b,off,cap,vs,h,_⟩
   ·exact h
   ·exact .inr ⟨_,_,h⟩
  have same:∀(base:Option Addr)(m cap:Nat),M=[]→m≤cap→vx=.slice base m cap→∀(r:SV)(g':Gh),Ext w0.heap.size w g w g' (yG lost dst)→g'.bx=g.bx→g'.St=g.St→
    (∀d,dst=some d→aJ w g'.St w0.heap.size (fe w0.heap.size w g' d 0) r vx)→
    ∃v w' g',(Builtin.append_ #[t,t] ty #[vx,vy]).run P w=.ok v w'∧Inv gl w0 aq ⟨cq ai dst (.v r),e.boxes⟩ (a.put dst v) w' g':=by
   intro base m cap hm hle hv r g' hX dt aR hr
   refine⟨vx,w,g',by rw[hv];exact Vs ht hi base m cap hle (ad4 hm),hI.hand hH hX (Below.refl _ _) (fun d hd=>.v _ _ _ (hr d hd)) dt (fun _ _=>rfl) (fun b o h=>?_)⟩
   rw[aR]at h
   exact hI.cG b o h
  have grow:∀(L:List D)(ad:Addr)(cap:Nat),M≠[]→vx=.slice (some ad) L.length cap→aZ w g.St (.sl .ro i.size L) vx→cap<L.length+M.length→(L.length+M.length)*i.bytes≤140737488355328→
    ∃v w' g',(Builtin.append_ #[t,t] ty #[vx,vy]).run P w=.ok v w'∧Inv gl w0 aq ⟨cq ai dst (.v (.own i.size (L++M))),e.boxes⟩ (a.put dst v) w' g':=by
   intro L ad cap hm hv hL aK eh
   rcases hy with⟨_,h0⟩|⟨b,off,vv,ys,qD,_,_,kQ,km,xB,jY⟩
   ·exact absurd h0 hm
   ·rw[hv]at hL
    cases hL with
    |ki _ _ _ ha=>
     obtain⟨news,nl,nc,ng⟩:=x6 (w:=w) (n:=M.length) (sz:=i.size) (vs:=ys) xB
     have bA:(0+M.length)*1≤(0+M.length)*i.bytes:=Nat.mul_le_mul_left _ lz
     simp only[List.length_nil]at aK eh
     have lW:0+M.length≤maxLen:=by simp only[maxLen];omega
     have ba:=run_append_grow (P:=P) w t ty e' i zv ht hi hz ad 0 cap [] (by simp) (by simp) ⟨b,off,none⟩ M.length vv news nl nc aK (by omega) (growslice_fits aK eh)
     obtain⟨rest,v5,xC⟩:=EB zv.cells (grownCap w (0+M.length) cap e'-(0+M.length))
     rw[v5]at ba
     have mb:=grownCap_ge w (0+M.length) cap e'
     obtain⟨g',iB⟩:=hI.grow hH (sz:=i.size) (L:=[]) (M:=M) (cap:=grownCap w (0+M.length) cap e') (te:=e') (fh:=[]) (news:=news) (rest:=rest) (f:=fun _=>.bool false) (by simp) kQ (by simp) km (by simp) nl (by rw[xC,gB];rfl) mb
      (grownCap_le_maxLen w _ cap e' lW) (by simp) ng (by simp) jY
     refine⟨_,_,g',by rw[hv,qD];exact ba,?_⟩
     simpa using iB
    |sl _ _ bx ox _ vs bF cH DO pF gU sg=>
     obtain⟨fh,ol,oc,og⟩:=x6 (w:=w) (n:=L.length) (sz:=i.size) (vs:=vs) gU
     obtain⟨news,nl,nc,ng⟩:=x6 (w:=w) (n:=M.length) (sz:=i.size) (vs:=ys) xB
     have bA:(L.length+M.length)*1≤(L.length+M.length)*i.bytes:=Nat.mul_le_mul_left _ lz
     have lW:L.length+M.length≤maxLen:=by simp only[maxLen];omega
     have ba:=run_append_grow (P:=P) w t ty e' i zv ht hi hz ⟨bx,ox,none⟩ L.length cap fh ol oc ⟨b,off,none⟩ M.length vv news nl nc aK (by omega) (growslice_fits aK eh)
     obtain⟨rest,v5,xC⟩:=EB zv.cells (grownCap w (L.length+M.length) cap e'-(L.length+M.length))
     rw[v5]at ba
     have mb:=grownCap_ge w (L.length+M.length) cap e'
     obtain⟨g',iB⟩:=hI.grow hH (sz:=i.size) (L:=L) (M:=M) (cap:=grownCap w (L.length+M.length) cap e') (te:=e') (fh:=fh) (news:=news) (rest:=rest) DO kQ pF km ol nl (by rw[xC,gB]) mb
      (grownCap_le_maxLen w _ cap e' lW) og ng sg jY
     refine⟨_,_,g',by rw[hv,qD];exact ba,?_⟩
     simpa using iB
  split at h
  ·
   rename_i s L
   split at h
   ·rename_i hs
    cases h
    subst hs
    cases rx with
    |own _ _ _ gg cap vu fC ho=>
     obtain⟨i0,pG,hl⟩:=hO _ _ _ ho
     by_cases hm:M=[]
     ·subst hm
      simp only[List.append_nil]
      have bF:L.length≤cap:=by cases vu with|sl _ _ _ _ _ _ bF=>exact bF|ki _ _ _ ha=>exact absurd rfl ha
      cases dst with
      |none=>
       refine same _ _ _ rfl bF rfl _ g ⟨fun _ _ hb ho h=>⟨h,hb,ho,fun _ h=>h⟩,fun _ _ h=>(by first|exact⟨h,rfl⟩|exact⟨h,.refl _ _ _⟩),fun _ _ _=>rfl,fun _ _ h=>h,fun _ _ _ _ _ h=>⟨h,.refl _ _ _⟩,.refl _⟩ rfl rfl (fun d hd=>by cases hd)
      |some d=>
       refine same _ _ _ rfl bF rfl _ (g.mv gg (.s d 0)) (Ext.mv pG hl _ _) rfl rfl (fun d' hd=>?_)
       cases hd
       refine .own _ i.size L gg cap vu fC ?_
       obtain⟨_,h2,h3,h4,h5⟩:=pG
       exact⟨by simp[Gh.mv],h2,h3,h4,h5⟩
     ·by_cases u9:L.length+M.length≤cap
      ·rcases hy with⟨_,h0⟩|⟨b,off,vv,ys,qD,_,_,kQ,km,xB,jY⟩
       ·exact absurd h0 hm
       ·obtain⟨news,nl,nc,ng⟩:=x6 (w:=w) (n:=M.length) (sz:=i.size) (vs:=ys) xB
        have KJ:=pG
        obtain⟨_,_,_,⟨cur,te,lX,bS⟩,_⟩:=KJ
        have qC:∀u∈news,u.oneCell'=true:=by
         intro u hu
         obtain⟨j,hj⟩:=List.mem_iff_getElem?.1 hu
         have ko:j<M.length*i.size:=by rw[←nl];exact(List.getElem?_eq_some_iff.1 hj).1
         rw[ng j ko]at hj
         cases hj
         have hq:j / i.size<M.length:=Nat.div_lt_of_lt_mul (by rw[Nat.mul_comm];exact ko)
         have y2:=Nat.mod_lt j A6
         have ef:M[j / i.size]∈M:=List.getElem_mem hq
         have cY:=kQ _ ef
         have hc:(M[j / i.size]).cells[j % i.size]? =some ((M[j / i.size]).cells[j % i.size]'(by omega)):=by simp
         have:=jY (j / i.size) _ (j % i.size) _ (List.getElem?_eq_getElem hq) hc
         rw[Nat.mul_comm,Nat.div_add_mod]at this
         exact this.rl (km _ ef _ (List.getElem_mem _))
        have oB:L.length*i.size+news.length≤cur.size:=by rw[nl,bS,←Nat.add_mul];exact Nat.mul_le_mul_right _ u9
        have ba:=Nq (P:=P) (w:=w) (ty:=ty) ht hi lX (ad:=⟨b,off,none⟩) (m:=M.length) (c:=vv) news nl nc qC u9 oB
        obtain⟨g',iB⟩:=hI.room hH pG hl vu lX bS kQ km nl u9 fC ng jY
        exact⟨_,_,g',by rw[qD];exact ba,iB⟩
      ·exact grow L ⟨gg,0,none⟩ cap hm rfl vu (by omega) hb
   ·cases h
  ·
   rename_i s L
   split at h
   ·rename_i hs
    subst hs
    cases rx with
    |full _ _ _ ad vu=>
     split at h
     ·rename_i hm
      cases h
      exact same _ _ _ hm (Nat.le_refl _) rfl _ g ⟨fun _ _ hb ho h=>⟨h,hb,ho,fun _ h=>h⟩,fun _ _ h=>(by first|exact⟨h,rfl⟩|exact⟨h,.refl _ _ _⟩),fun _ _ _=>rfl,fun _ _ h=>h,fun _ _ _ _ _ h=>⟨h,.refl _ _ _⟩,.refl _⟩ rfl rfl (fun d hd=>.full _ i.size L ad vu)
     ·rename_i hm
      cases h
      have:0<M.length:=List.length_pos_iff.2 hm
      exact grow L ad L.length hm rfl vu (by omega) hb
   ·cases h
  ·
   have hd:=rx.data
   split at h
   ·rename_i hm
    cases h
    cases hd
    exact same none 0 0 hm (Nat.le_refl _) rfl _ g ⟨fun _ _ hb ho h=>⟨h,hb,ho,fun _ h=>h⟩,fun _ _ h=>(by first|exact⟨h,rfl⟩|exact⟨h,.refl _ _ _⟩),fun _ _ _=>rfl,fun _ _ h=>h,fun _ _ _ _ _ h=>⟨h,.refl _ _ _⟩,.refl _⟩ rfl rfl (fun d hd=>.d _ _ _ (.iJ _))
   ·rename_i hm
    cases h
    cases hd
    rcases hy with⟨_,h0⟩|⟨b,off,vv,ys,qD,_,_,kQ,km,xB,jY⟩
    ·exact absurd h0 hm
    ·obtain⟨news,nl,nc,ng⟩:=x6 (w:=w) (n:=M.length) (sz:=i.size) (vs:=ys) xB
     have h0:0<M.length:=List.length_pos_iff.2 hm
     have bA:M.length*1≤M.length*i.bytes:=Nat.mul_le_mul_left _ lz
     have lW:M.length≤maxLen:=by simp only[maxLen];omega
     have ba:=run_append_nil (P:=P) w t ty e' i zv ht hi hz ⟨b,off,none⟩ M.length vv news nl nc h0 (by omega) (by omega)
     obtain⟨rest,v5,xC⟩:=EB zv.cells (grownCap w M.length 0 e'-M.length)
     rw[v5]at ba
     have mb:=grownCap_ge w M.length 0 e'
     rename_i mk _ _
     cases xD:Nat.beq mk g5 with
     |false=>
      obtain⟨g',iB⟩:=hI.grow hH (sz:=i.size) (L:=[]) (M:=M) (cap:=grownCap w M.length 0 e') (te:=e') (fh:=[]) (news:=news) (rest:=rest) (by simp) kQ (by simp) km (by simp) nl (by rw[xC,gB];simp) (by simpa using mb)
       (grownCap_le_maxLen w _ 0 e' lW) (f:=fun _=>undef) (by simp) ng (by simp) jY
      refine⟨_,_,g',by rw[qD];exact ba,?_⟩
      simpa using iB
     |true=>
      obtain⟨g',iB⟩:=hI.Se hH (sz:=i.size) (L:=[]) (M:=M) (cap:=grownCap w M.length 0 e') (te:=e') (fh:=[]) (news:=news) (rest:=rest) (by simp) kQ (by simp) km (by simp) nl (by rw[xC,gB];simp) (by simpa using mb)
       (grownCap_le_maxLen w _ 0 e' lW) (f:=fun _=>undef) (by simp) ng (by simp) jY
      refine⟨_,_,g',by rw[qD];exact ba,?_⟩
      simpa using iB
  ·
   rename_i s L
   split at h
   ·rename_i hs
    cases h
    subst hs
    cases rx with
    |bt _ _ _ gg cap vs bF fC DO pF ho gU sg=>
     obtain⟨i0,pG,hl⟩:=hO _ _ _ ho
     by_cases hm:M=[]
     ·subst hm
      simp only[List.append_nil]
      cases dst with
      |none=>
       refine same _ _ _ rfl bF rfl _ g ⟨fun _ _ hb ho h=>⟨h,hb,ho,fun _ h=>h⟩,fun _ _ h=>⟨h,.refl _ _ _⟩,fun _ _ _=>rfl,fun _ _ h=>h,fun _ _ _ _ _ h=>⟨h,.refl _ _ _⟩,.refl _⟩ rfl rfl (fun d hd=>by cases hd)
      |some d=>
       refine same _ _ _ rfl bF rfl _ (g.mv gg (.s d 0)) (Ext.mv pG hl _ _) rfl rfl (fun d' hd=>?_)
       cases hd
       refine .bt _ i.size L gg cap vs bF fC DO pF ?_ gU sg
       obtain⟨_,h2,h3,h4,h5⟩:=pG
       exact⟨by simp[Gh.mv],h2,h3,h4,h5⟩
     ·rcases hy with⟨_,h0⟩|⟨b,off,vv,ys,qD,_,_,kQ,km,xB,jY⟩
      ·exact absurd h0 hm
      ·obtain⟨news,nl,nc,ng⟩:=x6 (w:=w) (n:=M.length) (sz:=i.size) (vs:=ys) xB
       have KJ:=pG
       obtain⟨_,_,_,⟨cur,te,lX,bS⟩,_⟩:=KJ
       by_cases u9:L.length+M.length≤cap
       ·have qC:∀u∈news,u.oneCell'=true:=by
         intro u hu
         obtain⟨j,hj⟩:=List.mem_iff_getElem?.1 hu
         have ko:j<M.length*i.size:=by rw[←nl];exact(List.getElem?_eq_some_iff.1 hj).1
         rw[ng j ko]at hj
         cases hj
         have hq:j / i.size<M.length:=Nat.div_lt_of_lt_mul (by rw[Nat.mul_comm];exact ko)
         have y2:=Nat.mod_lt j A6
         have ef:M[j / i.size]∈M:=List.getElem_mem hq
         have cY:=kQ _ ef
         have hc:(M[j / i.size]).cells[j % i.size]? =some ((M[j / i.size]).cells[j % i.size]'(by omega)):=by simp
         have:=jY (j / i.size) _ (j % i.size) _ (List.getElem?_eq_getElem hq) hc
         rw[Nat.mul_comm,Nat.div_add_mod]at this
         exact this.rl (km _ ef _ (List.getElem_mem _))
        have oB:L.length*i.size+news.length≤cur.size:=by rw[nl,bS,←Nat.add_mul];exact Nat.mul_le_mul_right _ u9
        have ba:=Nq (P:=P) (w:=w) (ty:=ty) ht hi lX (ad:=⟨b,off,none⟩) (m:=M.length) (c:=vv) news nl nc qC u9 oB
        obtain⟨g',iB⟩:=hI.ad3 hH pG hl DO pF gU sg lX bS kQ km nl u9 fC ng jY
        exact⟨_,_,g',by rw[qD];exact ba,iB⟩
       ·obtain⟨fh,ol,oc,og⟩:=x6 (w:=w) (b:=gg) (off:=0) (St:=fun _ _=>True) (n:=L.length) (sz:=i.size) (vs:=vs) (fun o ho=>⟨by rw[Nat.zero_add];exact gU o ho,trivial⟩)
        have bA:(L.length+M.length)*1≤(L.length+M.length)*i.bytes:=Nat.mul_le_mul_left _ lz
        have lW:L.length+M.length≤maxLen:=by simp only[maxLen];omega
        have ba:=run_append_grow (P:=P) w t ty e' i zv ht hi hz ⟨gg,0,none⟩ L.length cap fh ol oc ⟨b,off,none⟩ M.length vv news nl nc (by omega) (by omega) (growslice_fits (by omega) hb)
        obtain⟨rest,v5,xC⟩:=EB zv.cells (grownCap w (L.length+M.length) cap e'-(L.length+M.length))
        rw[v5]at ba
        have mb:=grownCap_ge w (L.length+M.length) cap e'
        obtain⟨g',iB⟩:=hI.Se hH (sz:=i.size) (L:=L) (M:=M) (cap:=grownCap w (L.length+M.length) cap e') (te:=e') (fh:=fh) (news:=news) (rest:=rest) DO kQ pF km ol nl (by rw[xC,gB]) mb
         (grownCap_le_maxLen w _ cap e' lW) og ng sg jY
        refine⟨_,_,g',by rw[qD];exact ba,?_⟩
        simpa using iB
   ·cases h
  ·cases h
end
end Go.Proofs.Ytimbllcalipehaa.Ab
namespace Go.Proofs.Ytimbllcalipehaa.Ab
open Go Go.RowKit
section
variable{P:Program}{gl:Nat→Option D}{w0:World}{aq:S0}{e:Env}{a:Act}{w:World}{g:Gh}
theorem z6(f:Slot→SV):∀(l:List Slot),(ju f l).length =l.length∧∀(i:Nat),(ju f l)[i]? =(l[i]?).map f
 |[]=>⟨rfl,fun i=>by simp[ju]⟩
 |s::l=>by
  obtain⟨h1,h2⟩:=z6 f l
  refine⟨by simp[ju,h1],fun i=>?_⟩
  cases i with
  |zero=>rfl
  |succ i=>simp only[ju,List.getElem?_cons_succ];exact h2 i
theorem aJ.yc{St:Nat→Nat→Prop}{base yM:Nat}(hb:base≤yM){O:Nat→Nat→Nat→Prop}{y:SV}{v:Value}(h:aJ w St base O y v):aJ w St yM O y v:=by
 induction h with
 |d O x v hd=>exact .d O x v hd
 |own O sz L gg cap hd bF ho=>exact .own O sz L gg cap hd bF ho
 |full O sz L ad hd=>exact .full O sz L ad hd
 |ref O cs off b o vs ei aO _ ih=>exact .ref O cs off b o vs (Nat.lt_of_lt_of_le ei hb) aO ih
 |cJ O n sz cs b cap vs ei hn hm aO _ ih=>exact .cJ O n sz cs b cap vs (Nat.lt_of_lt_of_le ei hb) hn hm aO ih
 |aT O x off b o vs hf aO hc=>exact .aT O x off b o vs hf aO hc
 |dg O f first cap fv cv h1 h2 _ _ ih1 ih2=>exact .dg O f first cap fv cv h1 h2 ih1 ih2
 |bt O sz L gg cap vs h1 h2 h3 h4 h5 h6 h7=>exact .bt O sz L gg cap vs h1 h2 h3 h4 h5 h6 h7
 |mp O l r es clock hh hs hl hc=>exact .mp O l r es clock hh hs hl hc
 |undef O v=>exact .undef O v
theorem PR(hI:Inv gl w0 aq e a w g):∀(n:Nat){O:Nat→Nat→Nat→Nat→Prop}{s:Slot}{v:Value},bW w0.heap.size w g O s v→aJ w g.St w.heap.size (fun _ _ _=>False) (snap e.boxes n s) v:=by
 have up:∀{O x v},aJ w g.St w0.heap.size O x v→aJ w g.St w.heap.size (fun _ _ _=>False) (aa x) v:=by
  intro O x v h
  exact(h.aa (O':=fun _ _ _=>False)).yc hI.below.size
 intro n
 induction n with
 |zero=>intro O s v _;exact .undef _ _
 |succ n ih=>
  intro O s v h
  cases h with
  |a _ b m sz v hm hb=>
   obtain⟨an,cap,hb,bF,rfl,fC,_⟩:=hb
   simp only[snap]
   split
   ·rename_i cs bS
    obtain⟨h0,c,t,hc,cg,hlen,bc⟩:=hI.boxes b _ an bS hb
    have dP:=(hI.dj an (List.mem_of_getElem? hb)).2
    exact aJ.cJ (w:=w) (St:=g.St) (base:=w.heap.size) (fun _ _ _=>False) m sz (cs.map aa) an cap (fun i=>c.getD i undef) dP bF fC
     (fun i hi=>by
       have v3:i<cs.length:=by simpa using hi
       have eH:i<c.size:=Nat.lt_of_lt_of_le v3 hlen
       rw[cell_of_row w an (0+i) c t (0,0) hc]
       simp[eH]
       exact cg i _ v3 (by simp))
     (fun i x hx=>by
       simp only[List.getElem?_map,Option.map_eq_some_iff]at hx
       obtain⟨y,hy,rfl⟩:=hx
       have eH:i<c.size:=Nat.lt_of_lt_of_le (List.getElem?_eq_some_iff.1 hy).1 hlen
       have h1:=bc i y c[i] hy (by simp)
       have h2:=up h1
       simpa[eH]using h2)
   ·exact .undef _ _
  |m _ b an hb=>simp only[snap];exact .undef _ _
  |v _ x _ h=>simp only[snap];exact up h
  |p _ b off an hb=>
   simp only[snap]
   split
   ·rename_i cs bS
    obtain⟨h0,c,t,hc,cg,hlen,bc⟩:=hI.boxes b _ an bS hb
    have dP:=(hI.dj an (List.mem_of_getElem? hb)).2
    have:=aJ.ref (w:=w) (St:=g.St) (base:=w.heap.size) (fun _ _ _=>False) (cs.map aa) off an 0 (fun i=>c.getD i undef) dP
     (fun i hi=>by
       have v3:i<cs.length:=by simpa using hi
       have eH:i<c.size:=Nat.lt_of_lt_of_le v3 hlen
       rw[cell_of_row w an (0+i) c t (0,0) hc]
       simp[eH]
       exact cg i _ v3 (by simp))
     (fun i x hx=>by
       simp only[List.getElem?_map,Option.map_eq_some_iff]at hx
       obtain⟨y,hy,rfl⟩:=hx
       have eH:i<c.size:=Nat.lt_of_lt_of_le (List.getElem?_eq_some_iff.1 hy).1 hlen
       have h1:=bc i y c[i] hy (by simp)
       have h2:=up h1
       simpa[eH]using h2)
    simpa using this
   ·rename_i s' mK
    obtain⟨h0,c,t,hc,cg,hlen,bc⟩:=hI.boxes b _ an mK hb
    have dP:=(hI.dj an (List.mem_of_getElem? hb)).2
    have oP:c[0]? =some (c[0]'(by omega)):=by simp
    have:=aJ.ref (w:=w) (St:=g.St) (base:=w.heap.size) (fun _ _ _=>False) [snap e.boxes n s'] off an 0 (fun i=>c.getD i undef) dP
     (fun i hi=>by
       simp at hi;subst hi
       rw[cell_of_row w an (0+0) c t (0,0) hc]
       simp[hlen]
       exact cg 0 _ Nat.one_pos (by simp))
     (fun i x hx=>by
       cases i with
       |succ i=>simp at hx
       |zero=>
        simp at hx;subst hx
        have:=ih (bc _ oP)
        simpa[hlen]using this)
    simpa using this
   ·exact .undef _ _
  |c _ f first cap fv cv hf hc rf rc=>
   simp only[snap]
   obtain⟨l1,g1⟩:=z6 (snap e.boxes n) first
   obtain⟨l2,g2⟩:=z6 (snap e.boxes n) cap
   refine .dg _ f _ _ fv cv (l1.trans hf) (l2.trans hc) (fun i x v hx hv=>?_) (fun i x v hx hv=>?_)
   ·rw[g1,Option.map_eq_some_iff]at hx
    obtain⟨y,hy,rfl⟩:=hx
    exact ih (rf i y v hy hv)
   ·rw[g2,Option.map_eq_some_iff]at hx
    obtain⟨y,hy,rfl⟩:=hx
    exact ih (rc i y v hy hv)
  |t _ xs vs _ _=>simp only[snap];exact .undef _ _
theorem Oo(aA:List af)(ρ:Operand→Slot):∀(l:List Operand),(iI aA ρ l).length =l.length∧∀(i:Nat),(iI aA ρ l)[i]? =(l[i]?).map fun x=>snap aA 6 (ρ x)
 |[]=>⟨rfl,fun i=>by simp[iI]⟩
 |s::l=>by
  obtain⟨h1,h2⟩:=Oo aA ρ l
  refine⟨by simp[iI,h1],fun i=>?_⟩
  cases i with
  |zero=>rfl
  |succ i=>simp only[iI,List.getElem?_cons_succ];exact h2 i
def tm(w:World)(St:Nat→Nat→Prop)(args:List SV)(vs:Array Value):Prop:=
 args.length=vs.size∧∀(i:Nat)x v,args[i]? =some x→vs[i]? =some v→aJ w St w.heap.size (fun _ _ _=>False) x v
theorem tm.append{St:Nat→Nat→Prop}{xs ys:List SV}{us vs:Array Value}(h:tm w St xs us)(k:tm w St ys vs):tm w St (xs++ys) (us++vs):=by
 refine⟨by simp[h.1,k.1],fun i x v hx hv=>?_⟩
 rw[List.getElem?_append]at hx
 rw[Array.getElem?_append]at hv
 split at hx
 ·rename_i hi
  rw[if_pos (by rw[←h.1];exact hi)]at hv
  exact h.2 i x v hx hv
 ·rename_i hi
  rw[if_neg (by rw[←h.1];exact hi),←h.1]at hv
  exact k.2 _ x v hx hv
theorem IU(hI:Inv gl w0 aq e a w g)(l:Array Operand):tm w g.St (iI e.boxes (fun x=>(Ab.aV gl e x).aa) l.toList) (l.map a.eval):=by
 obtain⟨h1,h2⟩:=Oo e.boxes (fun x=>(Ab.aV gl e x).aa) l.toList
 refine⟨by rw[h1];simp,fun i x v hx hv=>?_⟩
 rw[h2,Option.map_eq_some_iff]at hx
 obtain⟨y,hy,rfl⟩:=hx
 rw[Array.getElem?_toList]at hy
 simp only[Array.getElem?_map,hy,Option.map_some,Option.some.injEq]at hv
 subst hv
 exact PR hI 6 (hI.aV y)
theorem NK(hI:Inv gl w0 aq e a w g){l:List Slot}{vs:Array Value}(hl:l.length=vs.size)(h:∀(i:Nat)x v,l[i]? =some x→vs[i]? =some v→bW w0.heap.size w g (fun _ _ _ _=>False) x v):
  tm w g.St (ju (snap e.boxes 6) l) vs:=by
 obtain⟨h1,h2⟩:=z6 (snap e.boxes 6) l
 refine⟨h1.trans hl,fun i x v hx hv=>?_⟩
 rw[h2,Option.map_eq_some_iff]at hx
 obtain⟨y,hy,rfl⟩:=hx
 exact PR hI 6 (h i y v hy hv)
theorem Inv.called(hI:Inv gl w0 aq e a w g){w':World}{bE:Nat→Nat→Prop}{ow:Nat→Option Nat}(hb:Below w.heap.size w w')(h1:∀b o,g.St b o→bE b o)
  (h2:∀b o,bE b o→g.St b o∨(w.heap.size≤b∧b<w'.heap.size))(dst:Option Nat){s:Slot}{v:Value}
  (hs:∀g':Gh,g'.St=bE→(∀d,dst=some d→∀j b a c,vr w.heap.size w' bE ow j b a c→eN w0.heap.size w' g' (.s d j) b a c)→∀d,dst=some d→bW w0.heap.size w' g' (fe w0.heap.size w' g' d) s v):
  ∃g',Inv gl w0 aq ⟨cq e.ai dst s,e.boxes⟩ (a.put dst v) w' g':=by
 have hle:w0.heap.size≤w.heap.size:=hI.below.size
 let g':Gh:={St:=bE,bx:=g.bx,ow:=fun b=>if w.heap.size≤b then(ow b).bind fun j=>dst.map fun d=>Pos.s d j else g.ow b}
 refine⟨g',hI.F2 (g':=g') ⟨fun D o gp ho h=>⟨(hb.block D (fT h)).trans h,gp,(by
  show(if w.heap.size≤D then(ow D).bind fun j=>dst.map fun d=>Pos.s d j else g.ow D)=none
  rw[if_neg (by have:=fT h;omega)];exact ho),fun x hx=>(h2 D x hx).elim id fun e=>(by have:=fT h;omega)⟩,fun b o h=>⟨h1 b o h,.ri (hb.block b (hI.pv h))⟩,fun b o h=>World.cell?_of_block (hb.block b (by omega)),fun _ _ h=>h,fun p b a' c _ ho=>⟨?_,fun _=>hb.block b ho.lt⟩,.of fun b h=>hb.block b h⟩ hb (hs g' rfl (fun d hd j b a c hr=>?_)) rfl h2⟩
 ·have aK:=ho.lt
  obtain⟨o1,o2,o3,⟨cur,te,o4,qE⟩,o5⟩:=ho
  refine⟨?_,o2,o3,⟨cur,te,(hb.block b aK).trans o4,qE⟩,fun o bN aR=>?_⟩
  ·show(if w.heap.size≤b then(ow b).bind fun j=>dst.map fun d=>Pos.s d j else g.ow b)=some p
   rw[if_neg (by omega)];exact o1
  ·rcases h2 b o aR with h|h
   ·exact o5 o bN h
   ·omega
 ·obtain⟨r1,r2,r3,r4⟩:=hr
  refine⟨?_,by omega,fun hm=>by have:=(hI.dj b hm).2;omega,r3,r4⟩
  show(if w.heap.size≤b then(ow b).bind fun j=>dst.map fun d=>Pos.s d j else g.ow b)=_
  rw[if_pos r2,r1,hd]
  rfl
theorem Ct:∀{n:Nat}{k:List SV→Prop},xv n k→∃rs,rs.length=n∧k rs
 |0,_,h=>⟨[],rfl,h⟩
 |n+1,_,h=>by
  obtain⟨r,h⟩:=h
  obtain⟨rs,hl,h⟩:=Ct h
  exact⟨r::rs,by simp[hl],h⟩
theorem EM(hI:Inv gl w0 aq e a w g){o:Oper}{n:Nat}{k:Slot→List af→Prop}{f:FuncId}{args:List SV}{vs:Array Value}(hr:tm w g.St args vs)
  (ba:lQ P f→(execOp a.eval o).run P w=.ok (.enter f vs) w)(h:oo (aD P gl) n e.boxes k f args):bp P gl w0 aq e.ai o a w k:=by
 intro next Q hn
 have Tq:lV args=none:=O3 fun x l hx=>by
  have hlen:=hr.1
  rw[hx]at hlen
  have h0:0<vs.size:=by rw[←hlen];simp
  have:=hr.2 0 (.aL x) vs[0] (by rw[hx];rfl) (by simp[h0])
  cases this
 have go:∀(r:SV)(s:Slot),CM P gl f args r→(∀(w':World)(v:Value)(bE:Nat→Nat→Prop)(ow:Nat→Option Nat),uW w.heap.size w' bE ow r v→∀g':Gh,g'.St=bE→
   ∀d,(∀j b a c,vr w.heap.size w' bE ow j b a c→eN w0.heap.size w' g' (.s d j) b a c)→bW w0.heap.size w' g' (fe w0.heap.size w' g' d) s v)→k s e.boxes→o.wp P a w next Q:=by
  intro r s hH bc hk
  obtain⟨hE,hH⟩:=hH
  unfold Oper.wp
  rw[ba hE]
  refine(hH w g.St vs (fun b o h=>hI.pv h) hI.ke hr.1 hr.2).mono fun en w'⟨v,he,hb,bE,ow,h1,h2,h3⟩=>?_
  subst he
  obtain⟨g',iB⟩:=hI.called hb h1 h2 o.dst (s:=s) (v:=v) (fun g' jk hO d hd=>bc w' v bE ow h3 g' jk d (hO d hd))
  exact hn s v e.boxes w' g' iB hk
 unfold oo at h
 split at h
 ·obtain⟨r,hH,ht,hk⟩:=h
  rw[x9 Tq]at hH
  refine go r (.v r) hH (fun w' v bE ow h3 g' jk d hO=>.v _ _ _ ?_) hk
  have jn:aJ w' bE 0 (vr w.heap.size w' bE ow 0) r v:=by
   cases r<;>first|exact h3|simp[u4]at ht
  have:=(jn.yc (Nat.zero_le w0.heap.size))
  rw[←jk]at this
  exact this.mono (fun _ _ h=>(by first|exact⟨h,rfl⟩|exact⟨h,.refl _ _ _⟩)) (fun _ _ _=>rfl) _ (fun b a c h=>⟨hO 0 b a c (by rw[jk]at h;exact h),.refl _ _ _⟩)
 ·rename_i qC
  obtain⟨rs,hlen,hH,hk⟩:=Ct h
  rw[x9 Tq]at hH
  refine go (.aL rs) (.t rs) hH (fun w' v bE ow h3 g' jk d hO=>?_) hk
  obtain⟨tv,rfl,hl,hc⟩:=h3
  refine .t _ rs tv hl fun j x y hx hy=>?_
  have:=((hc j x y hx hy).yc (Nat.zero_le w0.heap.size))
  rw[←jk]at this
  exact this.mono (fun _ _ h=>(by first|exact⟨h,rfl⟩|exact⟨h,.refl _ _ _⟩)) (fun _ _ _=>rfl) _ (fun b a c h=>⟨hO j b a c (by rw[jk]at h;exact h),.refl _ _ _⟩)
theorem XR(hI:Inv gl w0 aq e a w g){o:Oper}{c:Call}(ho:o.op=.call c){f:Operand}(hc:c.callee=.value f){n:Nat}{k:Slot→List af→Prop}
  (h:match(Ab.aV gl e f).aa with
    | .v x=>withFn x (iI e.boxes (fun x=>(Ab.aV gl e x).aa) c.args.toList) (oo (aD P gl) n e.boxes k)
    | .c (.func g') first cap=>oo (aD P gl) n e.boxes k g' (ju (snap e.boxes 6) first++iI e.boxes (fun x=>(Ab.aV gl e x).aa) c.args.toList++ju (snap e.boxes 6) cap)
    |_=>False):bp P gl w0 aq e.ai o a w k:=by
 have eI:=IU hI c.args
 have ba:∀{f':FuncId}{first cap:Array Value},a.eval f=.func (.func f') first cap→lQ P f'→(execOp a.eval o).run P w=.ok (.enter f' (first++c.args.map a.eval++cap)) w:=by
  intro f' first cap hv hE
  simp[execOp,ho,resolve,hc,hv,Deferred.ofValue,invoke,hE _ w]
 split at h
 ·rename_i x hx
  have hf:=hI.pD hx
  unfold withFn at h
  split at h
  ·rename_i f'
   have hv:a.eval f=.func (.func f') #[] #[]:=by
    have:=hf.data
    generalize a.eval f=u at this
    cases this;rfl
   refine EM hI eI (fun hE=>?_) h
   rw[ba hv hE];simp
  ·rename_i f' first cap
   generalize hv:a.eval f=u at hf
   cases hf with
   |dg _ _ _ _ fv cv vT rZ rf rc=>
    have up:∀{xs:List SV}{vs:Array Value},xs.length=vs.size→(∀(i:Nat)x v,xs[i]? =some x→vs[i]? =some v→aJ w g.St w0.heap.size (fun _ _ _=>False) x v)→tm w g.St xs vs:=
     fun hl hr=>⟨hl,fun i x v hx hv=>(hr i x v hx hv).yc hI.below.size⟩
    exact EM hI (((up vT rf).append eI).append (up rZ rc)) (fun hE=>ba hv hE) h
  ·exact h.elim
 ·rename_i f' first cap hs
  have hf:=hI.mJ hs
  generalize hv:a.eval f=u at hf
  cases hf with
  |c _ _ _ _ fv cv vT rZ rf rc=>exact EM hI (((NK hI vT rf).append eI).append (NK hI rZ rc)) (fun hE=>ba hv hE) h
 ·exact h.elim
theorem Y2{t:TypeId}{name:String}{f:FuncId}(h:AR P t name=some f)(fuel:Nat)(v:Value):(Go.method (fuel+1) t v name).run P w=.ok (f,v) w:=by
 unfold AR at h
 split at h
 ·rename_i i hi
  split at h
  ·rename_i m hm
   split at h
   ·rename_i f' hp hf
    have agq:m.path= #[]:=by
     have:m.path.toList=[]:=hp
     exact Array.toList_eq_nil_iff.mp this
    split at h
    ·cases h
    ·rename_i u xz hu
     cases h
     have nn:(underlying t).run P w=.ok u w:=run_underlying hu w
     have gW:(typeInfo t).run P w=.ok i w:=by simp[typeInfo,go_sem,hi]
     have Br:(follow ([]:List FieldStep) t (.val v)).run P w=.ok (t,.val v) w:=by simp[follow]
     have v5:∀s,(receiverAt t (.val v) false s).run P w=.ok v w:=by
      intro s
      unfold receiverAt
      simp only[Sem.run_bind,nn,Result.andThen_ok]
      cases u<;>first|exact(xz _ rfl).elim |simp[Place.get]
     unfold Go.method
     simp only[Sem.run_bind,gW,Result.andThen_ok,hm,hp,Br,hf,v5,Sem.run_pure]
    ·cases h
   ·cases h
  ·cases h
 ·cases h
theorem Wd(hI:Inv gl w0 aq e a w g){o:Oper}{c:Call}(ho:o.op=.call c){f:Operand}{name:String}(hc:c.callee=.invoke f name){n:Nat}{k:Slot→List af→Prop}
  (h:match(Ab.aV gl e f).aa with
    | .v x=>wL P x name (iI e.boxes (fun x=>(Ab.aV gl e x).aa) c.args.toList) (oo (aD P gl) n e.boxes k)
    |_=>False):bp P gl w0 aq e.ai o a w k:=by
 have eI:=IU hI c.args
 split at h
 ·rename_i x hx
  have hf:=hI.pD hx
  unfold wL at h
  split at h
  ·rename_i t y
   obtain⟨f',kO,h⟩:=aH h
   have hd:=hf.data
   generalize hv:a.eval f=u at hd
   cases hd with
   |iface _ _ v hy=>
    have hr:tm w g.St (.d y::iI e.boxes (fun x=>(Ab.aV gl e x).aa) c.args.toList) (#[v]++c.args.map a.eval):=by
     have h1:tm w g.St [SV.d y] #[v]:=⟨rfl,fun i x v' hx gA=>by
      cases i with
      |zero=>simp at hx gA;subst hx gA;exact .d _ _ _ hy
      |succ i=>simp at hx⟩
     exact h1.append eI
    refine EM hI hr (fun hE=>?_) h
    have hmr:=Y2 (P:=P) (w:=w) kO (P.types.size+99) v
    have ad5:=hE (#[v]++c.args.map a.eval) w
    have h3:(callMethod (.iface t v) name (c.args.map a.eval)).run P w=.ok (.enter f' (#[v]++c.args.map a.eval)) w:=by
     unfold callMethod
     simp only[Sem.run_bind,run_program,Result.andThen_ok,Made.depth]
     rw[hmr]
     simp only[Result.andThen_ok]
     exact ad5
    have e2:∀l:Array Value,(#[Value.iface t v]++l)[0]? =some (.iface t v):=fun l=>by simp[Array.getElem?_append]
    have e3:∀l:Array Value,(#[Value.iface t v]++l).extract 1 (#[Value.iface t v]++l).size =l:=fun l=>by
     apply Array.ext'
     simp[List.take_of_length_le]
    have h4:(invoke (.fn (.method name) #[]) (#[.iface t v]++c.args.map a.eval)).run P w=.ok (.enter f' (#[v]++c.args.map a.eval)) w:=by
     unfold invoke
     simp only[e2,e3]
     exact h3
    simp only[execOp,ho,resolve,hc,hv,Sem.run_bind,Sem.run_pure,Result.andThen_ok]
    exact h4
  ·exact h.elim
 ·exact h.elim
theorem HT(f:Int→Int→Int)(op:Value→Value→Sem Value)(iQ:∀k a b,op (.int k a) (.int k b)=pure (.int k (f a b)))(hf:∀a b,f a b=a∨f a b=b):
  ∀(l:List SV)(vs:List Value)(x:SV)(vx:Value)(r:SV),yk f x l=some r→aJ w g.St w0.heap.size (fun _ _ _=>False) x vx→l.length=vs.length→
   (∀(i:Nat)y v,l[i]? =some y→vs[i]? =some v→aJ w g.St w0.heap.size (fun _ _ _=>False) y v)→
   ∃v,(vs.foldlM op vx).run P w=.ok v w∧aJ w g.St w0.heap.size (fun _ _ _=>False) r v
 |[],[],x,vx,r,h,hx,_,_=>by
  unfold yk at h
  split at h
  ·cases h;exact⟨vx,rfl,hx⟩
  ·rename_i heq;cases heq
  ·cases h
 |y::l,v::vs,x,vx,r,h,hx,hl,hr=>by
  unfold yk at h
  split at h
  ·rename_i heq;cases heq
  ·rename_i k n k' n' l' heq
   cases heq
   split at h
   ·rename_i hk
    subst hk
    have hy:=hr 0 _ v rfl rfl
    obtain⟨ex,wx⟩:=hx.data.rn
    obtain⟨ey,wy⟩:=hy.data.rn
    rw[ex,ey]
    have hw:gm k (f n n')=true:=by rcases hf n n' with h|h<;>rw[h]<;>assumption
    obtain⟨u,hu,vW⟩:=HT f op iQ hf l vs _ (.int k (f n n')) r h (.d _ _ _ (.int _ _ hw)) (by simpa using hl) (fun i y u h1 h2=>hr (i+1) y u (by simpa using h1) (by simpa using h2))
    refine⟨u,?_,vW⟩
    rw[List.foldlM_cons,iQ]
    exact hu
   ·cases h
  ·cases h
 |[],_::_,_,_,_,_,_,h,_=>by simp at h
 |_::_,[],_,_,_,_,_,h,_=>by simp at h
theorem PS(hI:Inv gl w0 aq e a w g){o:Oper}{c:Call}(ho:o.op=.call c){b:Builtin}(hc:c.callee=.builtin b){x:Operand}{xs:List Operand}(hx:c.args.toList=x::xs){f:Int→Int→Int}
  (hb:(b=.min ∧f=minD)∨(b=.max ∧f=maxD)){k:Slot→List af→Prop}
  (h:ab (yk f ((Ab.aV gl e x).aa).bP (xs.map fun y=>((Ab.aV gl e y).aa).bP)) fun r=>k (.v r) e.boxes):bp P gl w0 aq e.ai o a w k:=by
 obtain⟨r,hr,hk⟩:=aH h
 have eI:(c.args.map a.eval).toList =a.eval x::xs.map a.eval:=by rw[Array.toList_map,hx];rfl
 have F3:∀(i:Nat)y v,(xs.map fun y=>((Ab.aV gl e y).aa).bP)[i]? =some y→(xs.map a.eval)[i]? =some v→aJ w g.St w0.heap.size (fun _ _ _=>False) y v:=by
  intro i y v hy hv
  simp only[List.getElem?_map,Option.map_eq_some_iff]at hy hv
  obtain⟨z,hz,rfl⟩:=hy
  obtain⟨z',gq,rfl⟩:=hv
  rw[hz]at gq;cases gq
  exact hI.iq z
 rcases hb with⟨rfl,rfl⟩|⟨rfl,rfl⟩
 ·obtain⟨v,hv,LF⟩:=HT (P:=P) (w0:=w0) minD Builtin.min2 (fun k a b=>rfl) (fun a b=>by unfold minD;split<;>simp) _ (xs.map a.eval) _ (a.eval x) r hr (hI.iq x) (by simp) F3
  refine bp.eX hI (v:=v) ?_ LF hk
  have e1:Builtin.min_ c.argTypes o.type (c.args.map a.eval)=(xs.map a.eval).foldlM Builtin.min2 (a.eval x):=by unfold Builtin.min_;rw[eI]
  simp[execOp,ho,resolve,hc,invoke,builtin,e1,hv]
 ·obtain⟨v,hv,LF⟩:=HT (P:=P) (w0:=w0) maxD Builtin.max2 (fun k a b=>rfl) (fun a b=>by unfold maxD;split<;>simp) _ (xs.map a.eval) _ (a.eval x) r hr (hI.iq x) (by simp) F3
  refine bp.eX hI (v:=v) ?_ LF hk
  have e1:Builtin.max_ c.argTypes o.type (c.args.map a.eval)=(xs.map a.eval).foldlM Builtin.max2 (a.eval x):=by unfold Builtin.max_;rw[eI]
  simp[execOp,ho,resolve,hc,invoke,builtin,e1,hv]
end
end Go.Proofs.Ytimbllcalipehaa.Ab
namespace Go.Proofs.Ytimbllcalipehaa.Ab
open Go Go.RowKit
theorem O6{P:Program}{t:TypeId}{z:D}(h:tt P t=some z):∃zv:Value,(∀w:World,(zeroValue t).run P w=.ok zv w)∧∀(w:World)(St:Nat→Nat→Prop),aZ w St z zv:=by
 unfold tt at h
 split at h
 ·rename_i i hi
  split at h
  ·rename_i zv hz
   exact⟨zv,fun w=>by simp[zeroValue,typeInfo,hi,hz],fun w St=>Ae h⟩
  ·cases h
 ·cases h
def KS.cN:KS→D
 | .bool b=>.bool b
 | .int k n=>.int k n
 | .str s=>.str s
theorem O7:∀{ks:List CK}{cs:List D}{l:List KS},tQ ks cs=some l→cs=l.map KS.cN∧dQ ks cs=true
 |[],[],l,h=>by simp only[tQ,Option.some.injEq]at h;subst h;exact⟨rfl,rfl⟩
 |[],_::_,l,h=>by simp[tQ]at h
 |k::ks,[],l,h=>by cases k<;>simp[tQ]at h
 |k::ks,c::cs,l,h=>by
  cases k<;>cases c<;>simp only[tQ,reduceCtorEq]at h
  all_goals
   split at h
   ·rename_i r hr
    cases h
    obtain⟨h1,h2⟩:=O7 hr
    exact⟨by simp[KS.cN,h1],by simpa[dQ]using h2⟩
   ·cases h
theorem O8:∀{ks:List CK}{l m:List KS},dQ ks (l.map KS.cN)=true→KS.jS l m=true→dQ ks (m.map KS.cN)=true
 |[],[],[],_,_=>rfl
 |_::_,[],[],h,_=>by simpa using h
 |[],x::l,y::m,h,_=>by cases x<;>simp[KS.cN,dQ]at h
 |k::ks,x::l,y::m,h,h2=>by
  simp only[KS.jS,Bool.and_eq_true]at h2
  cases k<;>cases x<;>cases y<;>simp only[List.map_cons,KS.cN,dQ,KS.same,Bool.false_eq_true,false_and,reduceCtorEq]at h h2 ⊢
  all_goals exact O8 h h2.2
 |_,[],_::_,_,h=>by simp[KS.jS]at h
 |_,_::_,[],_,h=>by simp[KS.jS]at h
theorem Oq:∀{l m:List KS},KS.jS l m=true→fK (l.map KS.cN) (m.map KS.cN)=some (decide (l=m))
 |[],[],_=>by simp[fK]
 |x::l,y::m,h=>by
  simp only[KS.jS,Bool.and_eq_true]at h
  have ih:=Oq h.2
  have hx:mX x.cN y.cN=some (decide (x=y)):=by
   cases x<;>cases y<;>simp only[KS.same,Bool.false_eq_true,false_and]at h
   ·rename_i a b;simp only[KS.cN,mX,KS.bool.injEq];congr 1
   ·rename_i k a k' b
    have hk:k=k':=by simpa using h.1
    subst hk
    simp only[KS.cN,mX,if_true,KS.int.injEq,true_and];congr 1
   ·rename_i a b;simp only[KS.cN,mX,KS.str.injEq];congr 1
    rw[Bool.eq_iff_iff];simp
  simp only[List.map_cons,fK,hx,ih,List.cons.injEq]
  rw[←Bool.decide_and]
 |[],_::_,h=>by simp[KS.jS]at h
 |_::_,[],h=>by simp[KS.jS]at h
theorem vk.rep{w:World}{St:Nat→Nat→Prop}{k:KS}{v:Value}(h:vk k v):aZ w St k.cN v:=by
 cases k with
 |bool b=>subst h;exact .bool b
 |int k n=>obtain⟨rfl,h⟩:=h;exact .int k n h
 |str s=>obtain⟨b,rfl,rfl,h⟩:=h;exact .str b h
theorem vk.of{w:World}{St:Nat→Nat→Prop}{k:KS}{v:Value}(h:aZ w St k.cN v):vk k v:=by
 cases k with
 |bool b=>cases h;rfl
 |int k n=>cases h;exact⟨rfl,by assumption⟩
 |str s=>obtain⟨b,e1,e2,e3⟩:=h.uL;exact⟨b,e1,e2.symm,e3⟩
theorem Jn{w:World}{St:Nat→Nat→Prop}{l:List KS}{v:Value}(h:(MK.s l).Is v):ir w St true (l.map KS.cN) v:=by
 obtain⟨vs,rfl,h1,h2⟩:=h
 simp only[ir,if_true]
 refine⟨vs,rfl,by simp[h1],fun i x v hx hv=>?_⟩
 rw[List.getElem?_map,Option.map_eq_some_iff]at hx
 obtain⟨k,hk,rfl⟩:=hx
 exact(h2 i k v hk hv).rep
theorem abY{w:World}{St:Nat→Nat→Prop}{l:List KS}{vs:Array Value}(h:kE w St (l.map KS.cN) vs):(MK.s l).Is (.agg vs):=by
 refine⟨vs,rfl,by have:=h.1;simpa using this.symm,fun i k u hk hu=>?_⟩
 exact vk.of (h.2 i k.cN u (by rw[List.getElem?_map,hk];rfl) hu)
def Kl:Option (List CK)→MK→Prop
 |none,n=>∃m,n=.i m
 |some ks,n=>∃l,n=.s l∧dQ ks (l.map KS.cN)=true
def KL(P:Program)(kt:TypeId):Option (List CK)→Prop
 |none=>∃k,P.underlying kt=some (.int k)
 |some ks=>∃fs,P.underlying kt=some (.struct fs)∧shapeOf P 20 kt=some ks∧C1 P fs.toList=true
theorem Ot{P:Program}{t et:TypeId}{kd:Option (List CK)}(h:AD P t=some (et,kd)):∃kt,P.underlying t=some (.map kt et)∧KL P kt kd:=by
 unfold AD at h
 split at h
 ·rename_i kt et' hu
  split at h
  ·rename_i k hk;cases h;exact⟨kt,hu,k,hk⟩
  ·rename_i fs hk
   split at h
   ·rename_i ks gV
    cases hf:C1 P fs.toList with
    |true=>rw[hf]at h;cases h;exact⟨kt,hu,fs,hk,gV,hf⟩
    |false=>rw[hf]at h;cases h
   ·cases h
  ·cases h
 ·cases h
def Sg(l:List (MK×D))(n:MK)(es:List MapEntry)(i:Nat)(r:Option (Nat×Value)):Prop:=
 (la l n=none∧r=none)∨∃j x y,r=some (i+j,y.val)∧l[j]? =some x∧es[j]? =some y∧la l n=some x.2∧x.1=n∧∀(m:Nat)z,m<j→l[m]? =some z→n≠z.1
theorem Jo{n:MK}{S:List MapEntry→Nat→Option (Nat×Value)→Prop}(h0:∀i,S [] i none)(zu:∀(x:MK×D)e es i,x.1.Is e.key→n.same x.1=true→n=x.1→S (e::es) i (some (i,e.val)))
  (SD:∀(x:MK×D)e es i r,x.1.Is e.key→n.same x.1=true→n≠x.1→S es (i+1) r→S (e::es) i r):∀(es:List MapEntry)(l:List (MK×D))(i:Nat),l.length=es.length→
    (∀(j:Nat)x y,l[j]? =some x→es[j]? =some y→x.1.Is y.key)→tq l n=true→∃r,S es i r∧Sg l n es i r
 |[],l,i,hl,_,_=>by
  have:l=[]:=List.eq_nil_of_length_eq_zero hl
  subst this
  exact⟨none,h0 i,.inl ⟨rfl,rfl⟩⟩
 |e::es,[],i,hl,_,_=>by simp at hl
 |e::es,x::l,i,hl,hk,hs=>by
  simp only[tq,List.all_cons,Bool.and_eq_true]at hs
  have he:=hk 0 x e rfl rfl
  by_cases h:n=x.1
  ·exact⟨some (i,e.val),zu x e es i he hs.1 h,.inr ⟨0,x,e,rfl,rfl,rfl,by rw[la,if_pos h],h.symm,fun m z hm=>by omega⟩⟩
  ·obtain⟨r,h1,h2⟩:=Jo h0 zu SD es l (i+1) (by simpa using hl) (fun j x y a b=>hk (j+1) x y (by simpa using a) (by simpa using b)) hs.2
   refine⟨r,SD x e es i r he hs.1 h h1,?_⟩
   rcases h2 with⟨h2,h3⟩|⟨j,x',y,a,b,c,d,d',f⟩
   ·exact .inl ⟨by rw[la,if_neg h];exact h2,h3⟩
   ·refine .inr ⟨j+1,x',y,by rw[a];congr 2;omega,by simpa using b,by simpa using c,by rw[la,if_neg h];exact d,d',fun m z hm hz=>?_⟩
    cases m with
    |zero=>simp at hz;subst hz;exact h
    |succ m=>exact f m z (by omega) (by simpa using hz)
theorem N2{P:Program}{w:World}{kt:TypeId}{kd:Option (List CK)}(sj:KL P kt kd){n:MK}{kv:Value}(hn:n.Is kv)(ez:Kl kd n)
  (es:List MapEntry)(l:List (MK×D))(hl:l.length=es.length)(hk:∀(j:Nat)x y,l[j]? =some x→es[j]? =some y→x.1.Is y.key)(hs:tq l n=true):
  ∃r,(Instr.findKey kt kv es).run P w=.ok r w∧Sg l n es 0 r:=by
 cases kd with
 |none=>
  obtain⟨k,hu⟩:=sj
  obtain⟨m,rfl⟩:=ez
  obtain⟨rfl,_⟩:=hn
  obtain⟨r,h1,h2⟩:=Jo (n:=.i m) (S:=fun es i r=>Instr.findNow (.int k) (.int .i64 m) es i=some r) (fun i=>rfl)
   (fun x e es i he cZ hx=>by
     rw[←hx]at he
     rw[Instr.findNow,show e.key=_ from he.1];simp[Instr.sameNow])
   (fun x e es i r he cZ hx hr=>by
     cases iA:x.1 with
     |i m'=>
      rw[iA]at he hx
      rw[Instr.findNow,show e.key=_ from he.1]
      have:(m==m')=false:=by simpa using fun h=>hx (by rw[h])
      simp[Instr.sameNow,this,hr]
     |s l=>rw[iA]at cZ;cases cZ) es l 0 hl hk hs
  exact⟨r,by simp[Instr.findKey,run_underlying hu,h1],h2⟩
 |some ks=>
  obtain⟨fs,hu,aU,_⟩:=sj
  obtain⟨kl,rfl,kj⟩:=ez
  have zo:dO P kt=some true:=by simp[dO,hu]
  have heq:∀(l':List KS)(v:Value),(MK.s l').Is v→KS.jS kl l'=true→(Op.equal kt kv v).run P w=.ok (decide (kl=l')) w:=fun l' v hv hs=>
   HJ (g:=⟨fun _ _=>False,[],fun _=>none⟩) 20 10000 kt ks true _ _ kv v _ aU (by omega) zo kj (O8 kj hs) (Jn hn) (Jn hv) (Oq hs)
  obtain⟨r,h1,h2⟩:=Jo (n:=.s kl) (S:=fun es i r=>(Instr.findAsking kt kv es i).run P w=.ok r w) (fun i=>rfl)
   (fun x e es i he cZ hx=>by
     rw[←hx]at he cZ
     rw[Instr.findAsking]
     simp[heq kl _ he cZ])
   (fun x e es i r he cZ hx hr=>by
     cases iA:x.1 with
     |s l'=>
      rw[iA]at he hx cZ
      rw[Instr.findAsking]
      have:decide (kl=l')=false:=by simpa using fun h=>hx (by rw[h])
      simp[heq l' _ he cZ,this,hr]
     |i m=>rw[iA]at cZ;cases cZ) es l 0 hl hk hs
  refine⟨r,?_,h2⟩
  cases es with
  |nil=>simp[Instr.findKey,run_underlying hu,Instr.findNow];simpa[Instr.findAsking]using h1
  |cons e es=>simp[Instr.findKey,run_underlying hu,Instr.findNow,Instr.sameNow];exact h1
theorem NL{P:Program}{w:World}{kt:TypeId}{kd:Option (List CK)}(sj:KL P kt kd){n:MK}{kv:Value}(hn:n.Is kv)(ez:Kl kd n)
  (em:Bool):(Instr.checkKey em 10000 kt kv).run P w=.ok () w:=by
 rw[show(10000:Nat)=9998+1+1 from rfl]
 cases kd with
 |none=>
  obtain⟨k,hu⟩:=sj
  rw[Instr.checkKey]
  obtain⟨m,rfl⟩:=ez
  obtain⟨rfl,_⟩:=hn
  simp[run_underlying hu]
 |some ks=>
  obtain⟨fs,hu,aU,np⟩:=sj
  obtain⟨kl,rfl,kj⟩:=ez
  have hv:=Jn (w:=w) (St:=fun _ _=>False) hn
  simp only[ir,if_true]at hv
  obtain⟨cs,rfl,rx⟩:=hv
  rw[show(20:Nat)=19+1 from rfl,shapeOf,hu]at aU
  simp only at aU
  cases aR:P.stoodInHeld kt with
  |true=>rw[aR]at aU;cases aU
  |false=>
   rw[aR]at aU
   simp only[cond_false]at aU
   split at aU
   ·rename_i ni gV
    split at aU
    ·rename_i sz aM
     cases hc:Nat.beq sz ni.length with
     |false=>rw[hc]at aU;cases aU
     |true=>
      rw[hc]at aU;cases aU
      rw[Instr.checkKey]
      simp only[Sem.run_bind,run_underlying hu,Result.andThen_ok]
      rw[←Array.forIn_toList]
      generalize hxs:kl.map KS.cN=xs at kj rx
      have KM:dQ ks (xs.drop 0)=true:=kj
      have h0:(0:Nat)≤xs.length:=Nat.zero_le _
      clear hu aR aM hc kj
      generalize fs.toList=L at gV np
      generalize (0:Nat)=off at gV KM h0
      induction L generalizing off ks with
      |nil=>simp
      |cons f L ih=>
       simp only[z8]at gV
       simp only[C1,Bool.and_eq_true]at np
       split at gV
       ·rename_i kf GC
        cases dm:(f.name != "_" &&Nat.beq f.offset off)with
        |false=>rw[dm]at gV;cases gV
        |true=>
         rw[dm]at gV
         simp only[cond_true]at gV
         split at gV
         ·rename_i kr Ls
          cases gV
          simp only[Bool.and_eq_true,bne_iff_ne,ne_eq]at dm
          have y1:=Nat.eq_of_beq_eq_true dm.2
          obtain⟨iA,xw⟩:=z9 KM
          obtain⟨mK,zo⟩:=BZ GC
          have lx:=sY KM
          simp only[List.length_drop,List.length_append]at lx
          obtain⟨b,hb,h1⟩:∃b,dO P f.type=some b∧(b=false→kf.length=1):=by
           rcases zo with⟨h1,h2⟩|h1
           ·exact⟨false,h1,fun _=>h2⟩
           ·exact⟨true,h1,by simp⟩
          obtain⟨vx,px,qx⟩:=kE.valOf (g:=⟨fun _ _=>False,[],fun _=>none⟩) rx (off:=f.offset) hb mK h1 (by omega)
          have p2:(Instr.checkKey em (9998+1) f.type vx).run P w=.ok () w:=by
           rw[Instr.checkKey]
           have Tr:=np.1
           split at Tr
           ·rename_i nn;simp[run_underlying nn]
           ·rename_i nn;simp[run_underlying nn]
           ·rename_i nn;simp[run_underlying nn]
           ·cases Tr
          simp only[List.forIn_cons,Sem.run_bind,dm.1,ne_eq,not_false_eq_true,if_true,Result.andThen_ok,px,p2,Sem.run_pure]
          exact ih kr np.2 (off+kf.length) Ls (by rw[List.drop_drop]at xw;exact xw) (by omega)
         ·cases gV
       ·cases gV
    ·cases aU
   ·cases aU
section
variable{P:Program}{gl:Nat→Option D}{w0:World}{aq:S0}{e:Env}{a:Act}{w:World}{g:Gh}
theorem XS(hI:Inv gl w0 aq e a w g){m:Operand}{l:List (MK×D)}(h:u5 e.boxes (Ab.aV gl e m).aa =.mp l):
  ∃r es clock,a.eval m=.map (some r)∧w.heap[r]? =some (.map es clock)∧l.length=es.size∧∀(i:Nat)x y,l[i]? =some x→es[i]? =some y→x.1.Is y.key∧True∧aZ w g.St x.2 y.val:=by
 have hx:=hI.aV m
 generalize (Ab.aV gl e m).aa =s at h hx
 cases s with
 |m b=>
  simp only[u5]at h
  split at h
  ·rename_i l' hb
   cases h
   generalize a.eval m=v at hx
   cases hx with
   |m _ _ an dh=>
    obtain⟨_,es,clock,h1,h2,h3⟩:=hI.boxes b _ an hb dh
    exact⟨an,es,clock,rfl,h1,h2,h3⟩
  ·cases h
 |v x=>
  simp only[u5,Slot.bP]at h
  subst h
  have:=hx.jT
  generalize a.eval m=v at this
  cases this with
  |mp _ _ r es clock hh hs hl hc=>exact⟨r,es,clock,rfl,hh,hl,hc⟩
 |_=>simp[u5,Slot.bP]at h
theorem O9{kd:Option (List CK)}{x:SV}{n:MK}(h:lg kd x=some n){St:Nat→Nat→Prop}{base:Nat}{O:Nat→Nat→Nat→Prop}{v:Value}(r:aJ w St base O x v):
  n.Is v∧Kl kd n:=by
 cases kd with
 |none=>
  simp only[lg]at h
  split at h
  ·cases h
   have:=r.data.rn
   exact⟨⟨this.1,this.2⟩,_,rfl⟩
  ·cases h
 |some ks=>
  simp only[lg]at h
  split at h
  ·rename_i cs
   cases hl:tQ ks cs with
   |some l=>
    rw[hl]at h
    cases h
    obtain⟨rfl,kj⟩:=O7 hl
    obtain⟨vs,e1,r1,_⟩:=r.data.wR
    rw[e1]
    exact⟨abY r1,l,rfl,kj⟩
   |none=>rw[hl]at h;cases h
  ·cases h
theorem We(hI:Inv gl w0 aq e a w g){o:Oper}{t:TypeId}{m x:Operand}{ok:Bool}(ho:o.op=.lookup t m x ok){k:Slot→List af→Prop}
  (h:ab (AD P t) fun et=>ab (tt P et.1) fun z=>ab (rC et.2 z (u5 e.boxes (Ab.aV gl e m).aa) ((Ab.aV gl e x).aa).bP) fun r=>
    bif ok then k (.t [.d r.1,.d (.bool r.2)]) e.boxes else k (.v (.d r.1)) e.boxes):bp P gl w0 aq e.ai o a w k:=by
 obtain⟨⟨et,kd⟩,het,h⟩:=aH h
 obtain⟨z,hz,h⟩:=aH h
 obtain⟨⟨d,b⟩,hr,hk⟩:=aH h
 have hm:=fun l=>XS hI (m:=m) (l:=l)
 have hx:=hI.iq x
 generalize u5 e.boxes (Ab.aV gl e m).aa =sm at hr hm
 generalize ((Ab.aV gl e x).aa).bP =sx at hr hx
 obtain⟨zv,ui,kP⟩:=O6 hz
 obtain⟨kt,hu,sj⟩:=Ot het
 unfold rC at hr
 split at hr
 ·rename_i l
  split at hr
  ·rename_i n hn
   cases sn:tq l n with
   |false=>rw[sn]at hr;cases hr
   |true=>
    rw[sn,cond_true]at hr
    obtain⟨xE,ez⟩:=O9 hn hx
    obtain⟨r,es,clock,GM,hh,hl,hc⟩:=hm l rfl
    obtain⟨f,v7,LG⟩:=N2 (w:=w) sj xE ez es.toList l (by simpa using hl) (fun j x y h1 h2=>(hc j x y h1 (by simpa using h2)).1) sn
    have kj:=fun em=>NL (w:=w) sj xE ez em
    have rW:(getObj r).run P w=.ok (.map es clock) w:=by simp[getObj,Sem.run,hh]
    have key:∃u,((Instr.lookup t (.map (some r)) (a.eval x) ok).run P w=.ok (if ok then .tuple #[u,.bool b]else u) w)∧aZ w g.St d u:=by
     rcases LG with⟨h1,h2⟩|⟨j,x',y,h1,h2,h3,h4,_⟩
     ·rw[h1]at hr
      cases hr
      refine⟨zv,?_,kP _ _⟩
      subst h2
      simp[Instr.lookup,run_underlying hu,rW,kj,v7,ui]
     ·rw[h4]at hr
      cases hr
      refine⟨y.val,?_,(hc j x' y h2 (by simpa using h3)).2.2⟩
      subst h1
      simp[Instr.lookup,run_underlying hu,rW,kj,v7]
    obtain⟨u,xz,SE⟩:=key
    cases ok with
    |true=>
     refine bp.value hI (v:=.tuple #[u,.bool b]) ?_ (.t _ _ _ rfl fun j x v h1 h2=>?_) hk
     ·have h1:(Instr.lookup t (.map (some r)) (a.eval x) true).run P w=.ok (.tuple #[u,.bool b]) w:=xz
      simp[execOp,ho,GM,h1]
     ·match j,h1,h2 with
      |0,h1,h2=>cases h1;cases h2;exact .d _ _ _ SE
      |1,h1,h2=>cases h1;cases h2;exact .d _ _ _ (.bool _)
      |j+2,h1,h2=>simp at h1
    |false=>
     refine bp.eX hI (v:=u) ?_ (.d _ _ _ SE) hk
     have h1:(Instr.lookup t (.map (some r)) (a.eval x) false).run P w=.ok u w:=xz
     simp[execOp,ho,GM,h1]
  ·cases hr
 ·cases hr
theorem VV(hI:Inv gl w0 aq e a w g){o:Oper}{t:TypeId}(ho:o.op=.makeMap t none){id:Nat}{k:Slot→List af→Prop}
  (fl:e.boxes[id]? =some .none)(h:k (.m id) (e.boxes.set id (.map []))):bp P gl w0 aq e.ai o a w k:=by
 refine bp.Rr hI fl (ob:=.map #[] 0) (vl:=.map (some w.heap.size)) (by simp[execOp,ho,Instr.makeMap]) (fun g' O hb=>.m _ _ _ hb) (fun g' hX hle=>?_) h
 exact⟨hle,#[],0,wH w _,rfl,fun i x y h=>by simp at h⟩
theorem Pa{n:MK}{d:D}:∀{l:List (MK×D)}{j:Nat}{x:MK×D},l[j]? =some x→x.1=n→(∀(i:Nat)y,i<j→l[i]? =some y→n≠y.1)→lh l n d=l.set j (n,d)
 |[],j,x,h,_,_=>by simp at h
 |y::l,0,x,h,hx,_=>by simp at h;subst h;simp[lh,hx]
 |y::l,j+1,x,h,hx,bg=>by
  have h0:=bg 0 y (Nat.succ_pos j) rfl
  simp only[lh,if_neg h0,List.set_cons_succ]
  rw[Pa (by simpa using h) hx fun i z hi hz=>bg (i+1) z (by omega) (by simpa using hz)]
theorem Pb{n:MK}{d:D}:∀{l:List (MK×D)},la l n=none→lh l n d=l++[(n,d)]
 |[],_=>rfl
 |y::l,h=>by
  simp only[la]at h
  split at h
  ·cases h
  ·rename_i hy
   simp[lh,hy,Pb h]
theorem vk.bits{k:KS}{u v:Value}(hu:vk k u)(hv:vk k v)(m:Nat):Instr.sameBits m u v=true:=by
 cases k with
 |bool b=>subst hu;subst hv;cases m<;>simp[Instr.sameBits]
 |int k n=>obtain⟨rfl,_⟩:=hu;obtain⟨rfl,_⟩:=hv;cases m<;>simp[Instr.sameBits]
 |str s=>
  obtain⟨b,rfl,h1,_⟩:=hu
  obtain⟨c,rfl,h2,_⟩:=hv
  have:b=c:=by
   have:b.data=c.data:=Array.toList_inj.1 (h1.trans h2.symm)
   cases b;cases c;simp only at this;rw[this]
  subst this
  have hb:(b==b)=true:=by show(b.data==b.data)=true;simp
  cases m<;>simp only[Instr.sameBits,hb]
theorem Is.bits{n:MK}{u v:Value}(hu:n.Is u)(hv:n.Is v):Instr.sameBits 10000 u v=true:=by
 cases n with
 |i m=>obtain⟨rfl,_⟩:=hu;obtain⟨rfl,_⟩:=hv;simp[Instr.sameBits]
 |s l=>
  obtain⟨us,rfl,h1,h2⟩:=hu
  obtain⟨vs,rfl,h3,h4⟩:=hv
  rw[show(10000:Nat)=9999+1 from rfl,Instr.sameBits]
  simp only[Bool.and_eq_true,beq_iff_eq,List.all_eq_true]
  refine⟨h1.trans h3.symm,fun⟨x,y⟩hxy=>?_⟩
  obtain⟨i,hi⟩:=List.mem_iff_getElem?.1 hxy
  rw[List.getElem?_zip_eq_some]at hi
  obtain⟨hx,hy⟩:=hi
  rw[Array.getElem?_toList]at hx hy
  have nq:i<l.length:=by have:=(Array.getElem?_eq_some_iff.1 hx).1;omega
  exact(h2 i _ x (List.getElem?_eq_getElem nq) hx).bits (h4 i _ y (List.getElem?_eq_getElem nq) hy) 9999
theorem VW{n:MK}{u v:Value}(hu:n.Is u)(hv:n.Is v):(Instr.keyThatStays u v).run P w=.ok v w:=by simp[Instr.keyThatStays,Is.bits hu hv]
theorem Vz(hI:Inv gl w0 aq e a w g){o:Oper}{t:TypeId}{m x y:Operand}(ho:o.op=.mapUpdate t m x y)(hd:o.dst=none){et:TypeId×Option (List CK)}(het:AD P t=some et){b:Nat}(hm:(Ab.aV gl e m).aa =.m b)
  {l:List (MK×D)}(hb:e.boxes[b]? =some (.map l)){n:MK}(hn:lg et.2 ((Ab.aV gl e x).aa).bP =some n){d:D}(hy:cN ((Ab.aV gl e y).aa).bP =some d){l':List (MK×D)}(Dg:ot l n d=some l'){k:Slot→List af→Prop}
  (hk:k (.t []) (e.boxes.set b (.map l'))):bp P gl w0 aq e.ai o a w k:=by
 have hx:=hI.iq x
 obtain⟨xE,ez⟩:=O9 hn hx
 obtain⟨et,kd⟩:=et
 obtain⟨kt,hu,sj⟩:=Ot het
 have Ts:=(hI.iq y).cN hy
 have cZ:=hI.mJ hm
 unfold ot at Dg
 cases sn:tq l n with
 |false=>rw[sn]at Dg;cases Dg
 |true=>
  rw[sn,cond_true]at Dg
  cases Dg
  generalize GM:a.eval m=vm at cZ
  cases cZ with
  |m _ _ an dh=>
   obtain⟨lA,es,clock,hh,hl,hc⟩:=hI.boxes b _ an hb dh
   obtain⟨f,v7,LG⟩:=N2 (w:=w) sj xE ez es.toList l (by simpa using hl) (fun j x y h1 h2=>(hc j x y h1 (by simpa using h2)).1) sn
   have kj:=NL (w:=w) sj xE ez false
   have rW:(getObj an).run P w=.ok (.map es clock) w:=by simp[getObj,Sem.run,hh]
   have fin:∀(xF:Array MapEntry)(AG:Nat),(Instr.mapUpdate t (.map (some an)) (a.eval x) (a.eval y)).run P w=.ok () {w with heap:=w.heap.setIfInBounds an (.map xF AG)}→
     (lh l n d).length =xF.size→(∀(i:Nat)x z,(lh l n d)[i]? =some x→xF[i]? =some z→x.1.Is z.key∧True∧aZ w g.St x.2 z.val)→bp P gl w0 aq e.ai o a w k:=by
    intro xF AG ba hlen bc next Q Kj
    have ad6:(execOp a.eval o).run P w=.ok .skip {w with heap:=w.heap.setIfInBounds an (.map xF AG)}:=by
     simp[execOp,ho,GM,ba]
    unfold Oper.wp
    rw[ad6]
    have eY:=MapKept.heap_set (o':=.map xF AG) hh
    refine Kj (.t []) undef _ _ g ?_ hk
    rw[hd]
    refine hI.Rs (dst:=none) (s:=.t []) (v:=undef) (ai:=e.ai) (w':={w with heap:=w.heap.setIfInBounds an (.map xF AG)}) (fun _=>False) (fun _=>False) rfl rfl (fun _ _ _ _ _ h=>h) (fun _ h=>h) dh eY.2 (fun c ty h=>by rw[hh]at h;cases h) (by simp) ⟨rfl,rfl,rfl⟩ rfl
     (fun i x hx _=>⟨x,hx,.inl ⟨rfl,fun h=>h⟩⟩) (fun hX hle=>?_) (fun _ d h=>by cases h)
    exact⟨hle,xF,AG,eY.1,hlen,fun i x z h1 h2=>⟨(bc i x z h1 h2).1,(bc i x z h1 h2).2.1,hX.A4 (bc i x z h1 h2).2.2⟩⟩
   rcases LG with⟨h1,h2⟩|⟨j,x',z,h1,h2,h3,_,h4,h5⟩
   ·subst h2
    rw[Pb h1]at fin
    refine fin (es.push {key:=a.eval x,val:=a.eval y,born:=clock}) (clock+1) ?_ (by simp[hl]) (fun i x z hx hz=>?_)
    ·simp[Instr.mapUpdate,run_underlying hu,rW,kj,v7,MapKept.run_setObj_map _ hh]
    ·rw[List.getElem?_append]at hx
     rw[Array.getElem?_push]at hz
     split at hx
     ·rename_i hi
      rw[if_neg (by omega)]at hz
      exact hc i x z hx hz
     ·rename_i hi
      have:i-l.length=0:=by
       rcases Nat.eq_zero_or_pos (i-l.length)with h|h
       ·exact h
       ·rw[List.getElem?_eq_none (by simp;omega)]at hx;cases hx
      rw[this]at hx
      simp at hx;subst hx
      rw[if_pos (by omega)]at hz
      cases hz
      exact⟨xE,trivial,Ts⟩
   ·have hj:es[j]? =some z:=by simpa using h3
    subst h1
    have GN:=(hc j x' z h2 hj).1
    rw[h4]at GN
    rw[Pa h2 h4 h5]at fin
    have ko:j<es.size:=(Array.getElem?_eq_some_iff.1 hj).1
    refine fin (es.modify j fun e=>{e with key:=a.eval x,val:=a.eval y}) clock ?_ (by simp[hl]) (fun i x u hx nn=>?_)
    ·simp[Instr.mapUpdate,run_underlying hu,rW,kj,v7,hj,VW GN xE,MapKept.run_setObj_map _ hh]
    ·rw[List.getElem?_set]at hx
     rw[Array.getElem?_modify]at nn
     split at hx
     ·rename_i me
      subst me
      split at hx
      ·cases hx
       rw[if_pos rfl,hj]at nn
       cases nn
       exact⟨xE,trivial,Ts⟩
      ·cases hx
     ·rename_i me
      rw[if_neg me]at nn
      exact hc i x u hx nn
theorem W5{x y:SV}{m:Nat}(h:lenOf x y=some m):∃k,x=.d (.int k m)∧y=.d (.int k m):=by
 unfold lenOf at h
 split at h
 ·rename_i k a k' b
  split at h
  ·rename_i hc
   obtain⟨rfl,rfl,h0⟩:=hc
   cases h
   exact⟨k,by rw[Int.toNat_of_nonneg h0],by rw[Int.toNat_of_nonneg h0]⟩
  ·cases h
 ·cases h
theorem Pc{t:TypeId}{z:D}(h:tt P t=some z):∃i zv,P.info? t=some i∧i.zero=some zv∧z.one=true∧zv.cells= #[zv]∧∀(w:World)(St:Nat→Nat→Prop),aZ w St z zv:=by
 unfold tt at h
 split at h
 ·rename_i i hi
  split at h
  ·rename_i zv hz
   have h1:=(Ae (w:=default) (St:=fun _ _=>False) h).rl (H5 h)
   exact⟨i,zv,hi,hz,H5 h,by cases zv<;>first|rfl|simp[Value.oneCell']at h1,fun w St=>Ae h⟩
  ·cases h
 ·cases h
theorem D.wI{d:D}(h:d.one=true):d.cells=[d]:=by cases d<;>first|rfl|simp[D.one]at h
theorem VA(hI:Inv gl w0 aq e a w g){o:Oper}{t:TypeId}{n c:Operand}(ho:o.op=.makeSlice t n c){k:Slot→List af→Prop}
  (h:ab (nZ P t) fun e'=>ab (ea P e') fun sz=>ab (wM P e') fun cP=>ab (tt P e') fun z=>
    bif Nat.beq sz 1&&Nat.blt 0 cP then(ab (lenOf ((Ab.aV gl e n).aa).bP ((Ab.aV gl e c).aa).bP) fun m=>m*cP≤140737488355328∧k (.v (.bt 1 (List.replicate m z))) e.boxes)else False):
  bp P gl w0 aq e.ai o a w k:=by
 obtain⟨e',he,h1⟩:=aH h
 obtain⟨sz,aM,h2⟩:=aH h1
 obtain⟨cP,lz,h3⟩:=aH h2
 obtain⟨z,hz,h4⟩:=aH h3
 clear h h1 h2 h3
 cases dm:(Nat.beq sz 1&&Nat.blt 0 cP)with
 |false=>rw[dm]at h4;exact h4.elim
 |true=>
  rw[dm,cond_true]at h4
  simp only[Bool.and_eq_true]at dm
  have gE:=Nat.eq_of_beq_eq_true dm.1
  have so:0<cP:=Nat.lt_of_succ_le (Nat.le_of_ble_eq_true dm.2)
  subst gE
  obtain⟨m,hm,Tt,hk⟩:=aH h4
  obtain⟨i,zv,hi,ui,cg,Tu,kP⟩:=Pc hz
  obtain⟨kk,e1,e2⟩:=W5 hm
  have v1:=(hI.iq n)
  have v2:=(hI.iq c)
  rw[e1]at v1
  rw[e2]at v2
  have KN:i.size=1:=by simpa[ea,hi]using aM
  have Gg:i.bytes=cP:=by simpa[wM,hi]using lz
  have bA:m*1≤m*cP:=Nat.mul_le_mul_left _ so
  have zw:(cP:Int)*(m:Int)≤281474976710656:=by
   have h:((cP*m:Nat):Int)≤281474976710656:=by rw[Nat.mul_comm];omega
   rwa[Int.natCast_mul]at h
  have ba:=Go.run_make (P:=P) w t e' i zv (B5 he) hi ui kk kk m m (by omega) (Int.le_refl _) (by rw[Gg];exact zw) (by omega)
  simp only[Int.toNat_natCast,KN,Nat.mul_one]at ba
  have LH:(List.replicate m z).length =m:=by simp
  have cY:=D.wI cg
  refine bp.QG hI (cells:=madeCells zv.cells m) (t:=e') (sz:=1) (L:=List.replicate m z) ?_ (by rw[LH,Nat.mul_one];exact size_madeCells _ _) (by rw[LH];simp only[maxLen];omega) (fun x hx=>?_) (fun i' x j c' hx hc=>?_) hk
  ·rw[LH]
   simp[execOp,ho,v1.int,v2.int,ba]
  ·rw[(List.mem_replicate.1 hx).2,cY]
   exact⟨rfl,fun c hc=>by rw[List.mem_singleton.1 hc];exact cg⟩
  ·have dK:=(List.mem_replicate.1 (List.mem_of_getElem? hx)).2
   have nq:i'<m:=by have:=(List.getElem?_eq_some_iff.1 hx).1;simpa using this
   subst dK
   rw[cY]at hc
   have hj:j=0:=by
    cases j with
    |zero=>rfl
    |succ j=>simp at hc
   subst hj
   simp at hc
   subst hc
   refine⟨by rw[size_madeCells];omega,?_⟩
   simp only[Nat.mul_one,Nat.add_zero,madeCells,Tu]
   simp[nq,Nat.mod_one]
   exact kP _ _
theorem bW.AV{base:Nat}{O:Nat→Nat→Nat→Nat→Prop}{b n sz:Nat}{v:Value}(h:bW base w g O (.a b n sz) v):
  n≤maxLen∧∃an cap,g.bx[b]? =some (some an)∧n≤cap∧v=.slice (some ⟨an,0,none⟩) n cap∧cap≤maxLen∧∃c ty,w.heap[an]? =some (.cells c ty (0,0))∧c.size=cap*sz:=by
 cases h with
 |a _ _ _ _ _ hm h=>exact⟨hm,h⟩
theorem XT(hI:Inv gl w0 aq e a w g){o:Oper}{c:Call}(ho:o.op=.call c)(hc:c.callee=.builtin .len){x:Operand}{xs:List Operand}{t:TypeId}{ts:List TypeId}
  (hx:c.args.toList=x::xs)(ht:c.argTypes.toList=t::ts){b n sz:Nat}(hs:(Ab.aV gl e x).aa =.a b n sz)(jI:isSlice P t=true){k:Slot→List af→Prop}(hk:k (.v (.d (.int .i64 n))) e.boxes):bp P gl w0 aq e.ai o a w k:=by
 obtain⟨hm,hv⟩:=(hI.mJ hs).AV
 have h0:c.args[0]? =some x:=by rw[←Array.getElem?_toList,hx];rfl
 have h1:c.argTypes[0]? =some t:=by rw[←Array.getElem?_toList,ht];rfl
 have hu:∃e',P.underlying t=some (.slice e'):=by
  unfold isSlice at jI
  split at jI
  ·exact⟨_,by assumption⟩
  ·cases jI
 obtain⟨e',hu⟩:=hu
 have gA:∃ad cap,a.eval x=.slice ad n cap:=by
  obtain⟨an,cap,_,_,h,_⟩:=hv
  exact⟨_,_,h⟩
 obtain⟨ad,cap,gA⟩:=gA
 refine bp.eX hI (v:=.int .i64 n) ?_ (.d _ _ _ (.int _ _ ?_)) hk
 ·have hl:(Builtin.len_ c.argTypes o.type (c.args.map a.eval)).run P w=.ok (.int .i64 n) w:=by simp[Builtin.len_,h0,h1,run_underlying hu,gA,goInt]
  simp[execOp,ho,resolve,hc,invoke,builtin,hl]
 ·simp only[maxLen]at hm
  simp[gm,IntKind.min,IntKind.max,IntKind.signed,IntKind.bits]
  omega
theorem Wg(hI:Inv gl w0 aq e a w g){o:Oper}{t:TypeId}{x i:Operand}(ho:o.op=.indexAddr t x i){e':TypeId}(hu:P.underlying t=some (.slice e')){sz:Nat}(aM:ea P e'=some sz)
  {b n Bs:Nat}(hs:(Ab.aV gl e x).aa =.a b n Bs){j:Nat}(hj:cM ((Ab.aV gl e i).aa).bP n=some j){k:Slot→List af→Prop}(hk:k (.p b (j*sz)) e.boxes):bp P gl w0 aq e.ai o a w k:=by
 obtain⟨hm,hv⟩:=(hI.mJ hs).AV
 obtain⟨kk,ii,e1,h1,h2,rfl⟩:=sX hj
 have hi:=hI.iq i
 rw[e1]at hi
 have sa:=hi.int
 obtain⟨an,cap,hb,hle,hv,_⟩:=hv
 refine bp.value hI (v:=.pointer (some ⟨an,ii.toNat*sz,none⟩)) ?_ (.p _ _ _ _ hb) hk
 have:=pY an 0 (ii.toNat*sz)
 rw[Nat.zero_add]at this
 simp[execOp,ho,Instr.indexAt,sa,asIntOf,run_underlying hu,hv,h1,h2,jP aM,this]
end
end Go.Proofs.Ytimbllcalipehaa.Ab
namespace Go.Proofs.Ytimbllcalipehaa.Ab
open Go Go.RowKit
section
variable{P:Program}{gl:Nat→Option D}{w0:World}{aq:S0}{e:Env}{a:Act}{w:World}{g:Gh}
theorem N3(hI:Inv gl w0 aq e a w g){o:Oper}{c:Call}(ho:o.op=.call c)(hc:c.callee=.builtin .append){ai:List Slot}{lost:Nat→Prop}(hH:rF e ai lost o.dst)
  {x y:Operand}{t u:TypeId}
  (hx:c.args.toList=[x,y])(ht:c.argTypes.toList=[t,u]){sx sy:SV}{O:Nat→Nat→Nat→Prop}{Oy:Nat→Nat→Nat→Prop}(rx:aJ w g.St w0.heap.size O sx (a.eval x))(ry:aJ w g.St w0.heap.size Oy sy (a.eval y))
  (hO:∀b a' c,O b a' c→∃i0,eN w0.heap.size w g (.s i0 0) b a' c∧lost i0){k:Slot→List af→Prop}
  (h:bif Nat.beq t u then(ab (nZ P t) fun e'=>ab (ea P e') fun sz=>ab (wM P e') fun cP=>ab (nT P e') fun z=>
    bif Nat.blt 0 cP&&Nat.blt 0 sz&&Nat.beq z.length sz then bI sz cP sx sy fun r=>k (.v r) e.boxes else False)else False):bp P gl w0 aq ai o a w k:=by
 cases sq:Nat.beq t u with
 |false=>rw[sq]at h;exact h.elim
 |true=>
  have:=Nat.eq_of_beq_eq_true sq
  subst this
  rw[sq]at h
  simp only[cond_true]at h
  obtain⟨e',he,h⟩:=aH h
  obtain⟨sz,aM,h⟩:=aH h
  obtain⟨cP,lz,h⟩:=aH h
  obtain⟨z,hz,h⟩:=aH h
  cases dm:(Nat.blt 0 cP&&Nat.blt 0 sz&&Nat.beq z.length sz)with
  |false=>simp only[dm,cond_false]at h
  |true=>
   simp only[dm,cond_true]at h
   simp only[Bool.and_eq_true]at dm
   obtain⟨⟨h1,h2⟩,h3⟩:=dm
   have so:0<cP:=Nat.lt_of_succ_le (Nat.le_of_ble_eq_true h1)
   have ma:0<sz:=Nat.lt_of_succ_le (Nat.le_of_ble_eq_true h2)
   have zq:=Nat.eq_of_beq_eq_true h3
   obtain⟨⟨r,n⟩,hr,Tt,hk⟩:=aH h
   obtain⟨i,zv,hi,ui,gB⟩:=W3 hz
   have hu:=B5 he
   have KN:i.size=sz:=by simpa[ea,hi]using aM
   have Gg:i.bytes=cP:=by simpa[wM,hi]using lz
   intro next Q hn
   obtain⟨v,w',g',ba,hinv⟩:=Wc (ty:=o.type) hI hH hu hi ui KN (by rw[gB,zq]) ma rx ry hO hr (by rw[Gg];exact Tt) (by rw[Gg];exact so)
   unfold Oper.wp
   have eI:c.args.map a.eval= #[a.eval x,a.eval y]:=by
    apply Array.toList_inj.1
    rw[Array.toList_map,hx];rfl
   have aeZ:c.argTypes= #[t,t]:=by apply Array.toList_inj.1;rw[ht]
   have:(execOp a.eval o).run P w=.ok (.value v) w':=by
    simp only[execOp,ho,resolve,hc,Sem.run_bind,Sem.run_pure,Result.andThen_ok,invoke,builtin,eI,aeZ,ba]
   rw[this]
   exact hn (.v r) v _ w' g' hinv hk
theorem W6{b:Bool}{A:Prop}(h:cond b A False):b=true∧A:=by cases b;exact h.elim;exact⟨rfl,h⟩
theorem Y3(hI:Inv gl w0 aq e a w g){id:Nat}{o:Oper}{k:Slot→List af→Prop}(h:cT P (aD P gl) id o (fun x=>(Ab.aV gl e x).aa) e.boxes k):bp P gl w0 aq e.ai o a w k:=by
 cases ho:o.op<;>simp only[cT,ho]at h
 case move x=>exact bp.value hI (by simp[execOp,ho]) (hI.aV x) h
 case assign x=>exact bp.value hI (by simp[execOp,ho]) (hI.aV x) h
 case pick c x y=>
  split at h
  ·rename_i s hs
   obtain⟨b,rfl,h1,h2⟩:=Aq h
   have hv:=(hI.pD hs).data.tf
   cases b
   ·exact bp.value hI (v:=a.eval y) (by simp[execOp,ho,hv,asBool]) (hI.aV y) (h2 rfl)
   ·exact bp.value hI (v:=a.eval x) (by simp[execOp,ho,hv,asBool]) (hI.aV x) (h1 rfl)
  ·exact h.elim
 case alloc t=>
  split at h
  ·rename_i fl;exact WS hI ho fl h
  ·exact h.elim
 case box t x=>
  split at h
  ·rename_i fl;exact Y0 hI ho fl h
  ·exact h.elim
 case build t ps=>exact W0 hI ho h
 case buildSlice t n ps=>exact Vr hI ho h
 case load t x=>
  obtain⟨⟨b,n⟩,hl,h⟩:=aH h
  split at h
  ·rename_i bn off hs;exact VS hI ho hl hs h
  ·rename_i s hs;exact WU hI ho hl hs h
  ·exact h.elim
 case store t x y=>
  obtain⟨n,hn,h⟩:=aH h
  split at h
  ·rename_i bn off hs
   split at h
   ·rename_i hd;exact WV hI ho hd hn hs h
   ·exact h.elim
  ·exact h.elim
 case nilCheck x=>exact VG hI ho h
 case binOp op t x y u=>exact YZ hI ho h
 case unOp op t x=>exact aam hI ho h
 case convert src dst x=>
  cases hs:(P.underlying src).isSome with
  |false=>rw[hs]at h;exact h.elim
  |true=>rw[hs]at h;exact XP hI ho hs h
 case makeInterface t x=>exact WW hI ho h
 case makeFunc fn first cap=>exact VH hI ho h
 case slice t x lo hi mx=>exact WZ hI ho h
 case fieldAddr t x f=>exact Vx hI ho h
 case field t x f=>exact WX hI ho h
 case indexAddr t x i=>
  cases hs:(Ab.aV gl e x).aa with
  |a b n=>
   rw[hs]at h
   split at h
   ·rename_i e' hu
    obtain⟨sz,aM,h1⟩:=aH h
    obtain⟨j,hj,hk⟩:=aH h1
    exact Wg hI ho hu aM hs hj hk
   ·obtain⟨sz,aM,h1⟩:=aH h
    obtain⟨j,hj,hk⟩:=aH h1
    exact hk.elim
   ·exact h.elim
  |_=>exact Vy hI ho (by rw[hs]at h ⊢;exact h)
 case index t x i=>exact WY hI ho h
 case extract x i=>exact VU hI ho h
 case lookup t m x ok=>exact We hI ho h
 case makeSlice t n c=>exact VA hI ho h
 case makeMap t hn=>
  split at h
  ·rename_i hh fl;exact VV hI ho fl h
  ·exact h.elim
 case mapUpdate t m x y=>
  obtain⟨et,het,h1⟩:=aH h
  split at h1
  ·rename_i b hm hd
   split at h1
   ·rename_i l hb
    obtain⟨n,hn,h2⟩:=aH h1
    obtain⟨d,jm,h3⟩:=aH h2
    obtain⟨l',ic,hk⟩:=aH h3
    exact Vz hI ho hd het hm hb hn jm ic hk
   ·exact h1.elim
  ·exact h1.elim
 case call c=>
  split at h
  ·rename_i f hc
   refine XR hI ho hc (n:=arity P o.type) ?_
   split at h
   ·rename_i s hs;simp only[hs];exact h
   ·rename_i g' first cap hs;simp only[hs];exact h
   ·exact h.elim
  ·rename_i recv name hc
   refine Wd hI ho hc (n:=arity P o.type) ?_
   split at h
   ·rename_i s hs;simp only[hs];exact h
   ·exact h.elim
  ·rename_i b hc
   split at h
   ·rename_i x xs t ts hx ht
    cases hs:(Ab.aV gl e x).aa with
    |a b n=>
     rw[hs]at h
     obtain⟨hb,hk⟩:=W6 h
     exact XT hI ho hc hx ht hs hb hk
    |_=>exact Y1 hI ho hc hx ht (by rw[hs]at h ⊢;exact h)
   ·rename_i x y t u hx ht
    exact N3 hI ho hc (rF.same e o.dst) hx ht (hI.iq x) (hI.iq y) (fun _ _ _ h=>h.elim) h
   ·rename_i x xs ts hx;exact PS hI ho hc hx (.inl ⟨rfl,rfl⟩) h
   ·rename_i x xs ts hx;exact PS hI ho hc hx (.inr ⟨rfl,rfl⟩) h
   ·exact h.elim
 all_goals exact h.elim
end
end Go.Proofs.Ytimbllcalipehaa.Ab
set_option linter.unusedVariables false
set_option linter.unusedSimpArgs false
namespace Go.Proofs.Ytimbllcalipehaa.Ab
open Go Go.RowKit
section
variable{P:Program}{gl:Nat→Option D}{w0:World}{aq:S0}{e:Env}{a:Act}{w:World}{g:Gh}
theorem ET:∀{l:List SV}{i:Nat}{x:SV},SV.gM l=true→l[i]? =some x→x.ay=true
 |[],i,x,h,hx=>by simp at hx
 |y::l,0,x,h,hx=>by
  simp only[SV.gM,Bool.and_eq_true]at h
  simp at hx;subst hx;exact h.1
 |y::l,i+1,x,h,hx=>by
  simp only[SV.gM,Bool.and_eq_true]at h
  exact ET h.2 (by simpa using hx)
theorem aJ.Rt{St:Nat→Nat→Prop}{base yM:Nat}{O:Nat→Nat→Nat→Prop}{x:SV}{v:Value}(r:aJ w St base O x v)(h:x.ay=true):aJ w St yM O x v:=by
 induction r with
 |d O x v hd=>exact .d _ _ _ hd
 |own O sz L g cap hd bF ho=>exact .own _ _ _ _ _ hd bF ho
 |full O sz L a hd=>exact .full _ _ _ _ hd
 |ref=>cases h
 |cJ=>cases h
 |aT O x off b o vs hf aO hc=>exact .aT _ _ _ _ _ _ hf aO hc
 |dg O f first cap fv cv hf hc rf rc jh ji=>
  simp only[SV.ay,Bool.and_eq_true]at h
  exact .dg _ f first cap fv cv hf hc (fun i x v a b=>jh i x v a b (ET h.1 a)) (fun i x v a b=>ji i x v a b (ET h.2 a))
 |bt O sz L g cap vs bF hm aM hf ho aO hc=>exact .bt _ _ _ _ _ _ bF hm aM hf ho aO hc
 |mp O l r es clock hh hs hl hc=>exact .mp _ _ _ _ _ hh hs hl hc
 |undef O v=>exact .undef _ _
theorem aJ.ph{St:Nat→Nat→Prop}{base:Nat}{O O':Nat→Nat→Nat→Prop}{x:SV}{v:Value}(r:aJ w St base O x v)(h:∀b a c,O b a c→O' b a c):aJ w St base O' x v:=
 r.mono (fun _ _ h=>⟨h,.refl _ _ _⟩) (fun _ _ _=>rfl) _ fun b a c ho=>⟨h b a c ho,.refl _ _ _⟩
theorem aJ.aap{St:Nat→Nat→Prop}{base:Nat}{O O':Nat→Nat→Nat→Prop}{x:SV}{v:Value}(r:aJ w St base O x v)(h:∀b a c,a≤c→O b a c→O' b a c):aJ w St base O' x v:=by
 cases r with
 |d _ x v hd=>exact .d _ _ _ hd
 |own _ sz L g cap hd bF ho=>
  refine .own _ _ _ _ _ hd bF (h _ _ _ ?_ ho)
  cases hd with
  |sl _ _ _ _ _ vs hc=>exact Nat.mul_le_mul_right _ hc
  |ki _ _ _ ha=>exact absurd rfl ha
 |full _ sz L a hd=>exact .full _ _ _ _ hd
 |ref _ cs off b o vs hb aO hc=>exact .ref _ _ _ _ _ _ hb aO hc
 |cJ _ n sz cs b cap vs hb hn hm aO hc=>exact .cJ _ _ _ _ _ _ _ hb hn hm aO hc
 |aT _ x off b o vs hf aO hc=>exact .aT _ _ _ _ _ _ hf aO hc
 |dg _ f first cap fv cv hf hc rf rc=>exact .dg _ _ _ _ _ _ hf hc rf rc
 |bt _ sz L g cap vs bF hm aM hf ho aO hc=>exact .bt _ _ _ _ _ _ bF hm aM hf (h _ _ _ (Nat.zero_le _) ho) aO hc
 |mp _ l r es clock hh hs hl hc=>exact .mp _ _ _ _ _ hh hs hl hc
 |undef _ v=>exact .undef _ _
noncomputable def rowOf(w0 w:World)(g:Gh)(t p b:Nat):Option Nat:=by
 classical exact if ∃a c,eN w0.heap.size w g (.s t 0) b a c∧a≤c then some p else none
theorem H8{t p b i:Nat}(h:rowOf w0 w g t p b=some i):i=p∧∃a c,eN w0.heap.size w g (.s t 0) b a c∧a≤c:=by
 unfold rowOf at h
 split at h
 ·rename_i hh;cases h;exact⟨rfl,hh⟩
 ·cases h
theorem XU{t p b a' c':Nat}(h:eN w0.heap.size w g (.s t 0) b a' c')(Bt:a'≤c'):rowOf w0 w g t p b=some p:=by
 unfold rowOf
 rw[if_pos ⟨a',c',h,Bt⟩]
theorem Ou{t p b:Nat}(h:g.ow b≠some (.s t 0)):rowOf w0 w g t p b=none:=by
 cases hr:rowOf w0 w g t p b with
 |none=>rfl
 |some i=>exact absurd (H8 hr).2.choose_spec.choose_spec.1.1 h
theorem Inv.aaq(hI:Inv gl w0 aq e a w g){t p:Nat}{w':World}{bE:Nat→Nat→Prop}{ow:Nat→Option Nat}(vR:w'.os=w.os)(Km:w'.tape=w.tape)(KO:w'.output=w.output)(aM:w.heap.size≤w'.heap.size)
  (dh:∀b,b<w.heap.size→rowOf w0 w g t p b=none→w'.heap[b]? =w.heap[b]?)(h1:∀b o,g.St b o→bE b o∧n0 w w' b o)
  (h2:∀b o,bE b o→g.St b o∨((w.heap.size≤b∨rowOf w0 w g t p b≠none)∧b<w'.heap.size))(dst:Option Nat){bk:SV}{s:Slot}{v:Value}
  (DP:aJ w' bE 0 (XO w.heap.size (rowOf w0 w g t p) w' bE ow 0) bk (a.tmps.getD t undef))
  (hs:∀g':Gh,g'.St=bE→(∀d,dst=some d→∀j b a c,XO w.heap.size (rowOf w0 w g t p) w' bE ow (j+1) b a c→eN w0.heap.size w' g' (.s d j) b a c)→∀d,dst=some d→bW w0.heap.size w' g' (fe w0.heap.size w' g' d) s v):
  ∃g',Inv gl w0 aq ⟨cq (e.ai.set t (.v bk)) dst s,e.boxes⟩ (a.put dst v) w' g':=by
 have hle:w0.heap.size≤w.heap.size:=hI.below.size
 let A:=rowOf w0 w g t p
 let g':Gh:={St:=bE,bx:=g.bx,ow:=fun b=>if w.heap.size≤b∨A b≠none then(match ow b with|some 0=>some (.s t 0)|some (j+1)=>dst.map fun d=>Pos.s d j|none=>none)else g.ow b}
 have je:∀b,A b≠none→w0.heap.size≤b∧some b∉g.bx∧b<w.heap.size:=fun b hb=>by
  cases hA:A b with
  |none=>exact absurd hA hb
  |some i=>
   obtain⟨_,a',c',o,_⟩:=H8 hA
   exact⟨o.2.1,o.2.2.1,o.lt⟩
 have Tv:∀{j b a' c'}{q:Pos},XO w.heap.size A w' bE ow j b a' c'→(match j with|0=>some (Pos.s t 0)|(j+1)=>dst.map fun d=>Pos.s d j)=some q→eN w0.heap.size w' g' q b a' c':=fun{j b a' c' q}h hq=>by
  obtain⟨x1,x2,x3,x4⟩:=h
  refine⟨?_,?_,?_,x3,x4⟩
  ·show(if w.heap.size≤b∨A b≠none then(match ow b with|some 0=>some (.s t 0)|some (j+1)=>dst.map fun d=>Pos.s d j|none=>none)else g.ow b)=some q
   rw[if_pos x2,x1]
   cases j<;>exact hq
  ·rcases x2 with h|h
   ·omega
   ·exact(je b h).1
  ·intro hm
   rcases x2 with h|h
   ·have:=(hI.dj b hm).2;omega
   ·exact(je b h).2.1 hm
 have hX:Ext w0.heap.size w g w' g' (fun q=>∃j,q=.s t j):=by
  refine⟨fun D o gp ho h=>?_,h1,fun b o h=>World.cell?_of_block (dh b (by omega) ?_),fun _ _ h=>h,fun q b a' c' hq ho=>?_,fun b c ty hm hb=>⟨c,ty,(dh b (fT hb) ?_).trans hb,rfl⟩⟩
  ·have hA:A D=none:=Ou (by rw[ho];simp)
   have aK:=fT h
   refine⟨(dh D aK hA).trans h,gp,?_,fun x hx=>?_⟩
   ·show(if w.heap.size≤D∨A D≠none then _ else g.ow D)=none
    rw[if_neg (by rintro(h|h);omega;exact h hA)];exact ho
   ·rcases h2 D x hx with h|⟨h|h,_⟩
    ·exact h
    ·omega
    ·exact absurd hA h
  ·cases hA:A b with
   |none=>exact hA
   |some i=>
    have:=(je b (by rw[hA];simp)).1
    omega
  ·have aK:=ho.lt
   have hA:A b=none:=Ou (by rw[ho.1];intro hh;cases hh;exact hq ⟨0,rfl⟩)
   obtain⟨o1,o2,o3,⟨cur,te,o4,qE⟩,o5⟩:=ho
   refine⟨⟨?_,o2,o3,⟨cur,te,(dh b aK hA).trans o4,qE⟩,fun o bN aR=>?_⟩,fun _=>dh b aK hA⟩
   ·show(if w.heap.size≤b∨A b≠none then _ else g.ow b)=some q
    rw[if_neg (by rintro(h|h);omega;exact h hA)];exact o1
   ·rcases h2 b o aR with h|⟨h|h,_⟩
    ·exact o5 o bN h
    ·omega
    ·exact absurd hA h
  ·cases hA:A b with
   |none=>exact hA
   |some i=>exact absurd hm (je b (by rw[hA];simp)).2.1
 refine⟨g',hI.stepG hX ⟨vR,Km,KO,aM,fun k hk=>dh k (by omega) ?_⟩ (by simp) (fun i x hx hd=>?_) (fun d hd=>hs g' rfl (fun d' jm j b a' c' h=>Tv h (by simp only[jm];rfl)) d hd) hI.ff (fun b bx an hb dt=>hX.box (fun j=>by rintro⟨j',h⟩;cases h) (dh an (hI.dj an (List.mem_of_getElem? dt)).2 ?_) (hI.boxes b bx an hb dt)) hI.nodup (fun b hb=>⟨(hI.dj b hb).1,Nat.lt_of_lt_of_le (hI.dj b hb).2 aM⟩) (fun b o aR=>?_)⟩
 ·cases hA:A k with
  |none=>exact hA
  |some i=>
   have:=(je k (by rw[hA];simp)).1
   omega
 ·rw[List.getElem?_set]at hx
  split at hx
  ·rename_i gW
   subst gW
   split at hx
   ·cases hx
    exact .v _ _ _ ((DP.yc (Nat.zero_le _)).ph fun b a' c' h=>Tv h rfl)
   ·cases hx
  ·rename_i gW
   exact hX.slot (fun j=>by rintro⟨j',h⟩;cases h;exact gW rfl) (hI.ai i x hx)
 ·cases hA:A an with
  |none=>exact hA
  |some i=>exact absurd (List.mem_of_getElem? dt) (je an (by rw[hA];simp)).2.1
 ·rcases h2 b o aR with h|⟨h,aK⟩
  ·have:=hI.cG b o h
   exact⟨this.1,this.2.1,Nat.lt_of_lt_of_le this.2.2 aM⟩
  ·refine⟨.inr ?_,?_,aK⟩
   ·rcases h with h|h
    ·omega
    ·exact(je b h).1
   ·intro hm
    rcases h with h|h
    ·have:=(hI.dj b hm).2;omega
    ·exact(je b h).2.1 hm
theorem abZ{rs:List SV}(h:∀r,rs=[r]→False):yV rs=.t rs:=by
 cases rs with
 |nil=>rfl
 |cons a l=>cases l with
  |nil=>exact(h a rfl).elim
  |cons b l=>rfl
theorem Iw(hI:Inv gl w0 aq e a w g){o:Oper}{c:Call}{f:Operand}(ho:o.op=.call c)(hc:c.callee=.value f){t p:Nat}(hp:c.args.toList[p]? =some (.tmp t)){f':FuncId}(hg:KG (Ab.aV gl e f)=some f'){y:SV}
  (hy:e.ai.getD t (.v .undef)=.v y){n:Nat}{k:Env→Prop}
  (h:xv n fun rs=>∃bk,aD P gl f' (qj p ((iI e.boxes (fun x=>(Ab.aV gl e x).aa) c.args.toList).set p y)) (.aL (bk::rs))∧aa bk=aa y∧k ⟨cq (e.ai.set t (.v bk)) o.dst (yV rs),e.boxes⟩):
  ∀(next:Act→World→Prop)(Q:Exit→Act→World→Prop),(∀e' v w' g',Inv gl w0 aq e' (a.put o.dst v) w' g'→k e'→next (a.put o.dst v) w')→o.wp P a w next Q:=by
 intro next Q hn
 obtain⟨rs,hlen,bk,hH,ags,hk⟩:=Ct h
 rw[Jm]at hH
 obtain⟨hE,zx,hH⟩:=hH
 have eI:=IU hI c.args
 have vU:a.eval f=.func (.func f') #[] #[]:=by
  unfold KG at hg
  split at hg
  ·rename_i g2 hs
   cases hg
   have:=(hI.pD (x:=f) (s:=.d (.fn (.func f'))) (by rw[hs];rfl)).data
   generalize a.eval f=u at this
   cases this;rfl
  ·cases hg
 have ba:(execOp a.eval o).run P w=.ok (.enter f' (c.args.map a.eval)) w:=by
  have h1:=hE (c.args.map a.eval) w
  simp[execOp,ho,resolve,hc,vU,Deferred.ofValue,invoke,h1]
 have m4:bW w0.heap.size w g (fe w0.heap.size w g t) (.v y) (a.tmps.getD t undef):=by
  rw[←hy]
  simp only[List.getD_eq_getElem?_getD]
  cases hh:e.ai[t]? with
  |none=>exact .v _ _ _ (.undef _ _)
  |some s=>exact hI.ai t s hh
 have hyv:aJ w g.St w0.heap.size (fe w0.heap.size w g t 0) y (a.tmps.getD t undef):=by cases m4;assumption
 have Tw:(c.args.map a.eval)[p]? =some (a.tmps.getD t undef):=by
  rw[Array.getElem?_map,←Array.getElem?_toList,hp];rfl
 unfold Oper.wp
 rw[ba]
 refine(hH w g.St (rowOf w0 w g t p) (c.args.map a.eval) (fun b o h=>hI.pv h) (fun b i hb=>(by
  obtain⟨_,a',c',⟨_,_,_,⟨cur,te,h4,lu⟩,h5⟩,Bt⟩:=H8 hb
  exact⟨cur,te,h4,fun o ho=>h5 o (by omega)⟩)) hI.ke (by rw[List.length_set];exact eI.1) (fun i x v hx hv=>?_)).mono fun en w' hh=>?_
 ·have sg:=ET zx hx
  rw[List.getElem?_set]at hx
  split at hx
  ·rename_i hpi
   subst hpi
   split at hx
   ·cases hx
    rw[Tw]at hv
    cases hv
    exact(hyv.Rt sg).aap fun b a' c' Bt bN=>⟨XU bN Bt,bN.2.2.2.1,bN.2.2.2.2⟩
   ·cases hx
  ·exact((eI.2 i x v hx hv).Rt sg).ph fun b a' c' h=>h.elim
 ·obtain⟨v,he,vR,Km,KO,aM,dh,bE,ow,h1,h2,hr,hb⟩:=hh
  subst he
  have key:∀g':Gh,g'.St=bE→(∀d,o.dst=some d→∀j b a' c',XO w.heap.size (rowOf w0 w g t p) w' bE ow (j+1) b a' c'→eN w0.heap.size w' g' (.s d j) b a' c')→∀d,o.dst=some d→bW w0.heap.size w' g' (fe w0.heap.size w' g' d) (yV rs) v:=by
   intro g' jk hO d hd
   unfold tL at hr
   split at hr
   ·refine .v _ _ _ ?_
    rw[←jk]at hr
    exact(hr.yc (Nat.zero_le _)).ph fun b a' c' h=>hO d hd 0 b a' c' (by rw[jk]at h;exact h)
   ·rename_i bg
    obtain⟨vs,rfl,hl,jl⟩:=hr
    rw[abZ bg]
    refine .t _ _ vs hl fun j x z hx hz=>?_
    have:=jl j x z hx hz
    rw[←jk]at this
    exact(this.yc (Nat.zero_le _)).ph fun b a' c' h=>hO d hd j b a' c' (by rw[jk]at h;exact h)
  obtain⟨g',iB⟩:=hI.aaq (t:=t) (p:=p) vR Km KO aM dh h1 h2 o.dst (bk:=bk) (s:=yV rs) (v:=v) (hb _ Tw) key
  exact hn _ v w' g' iB hk
end
end Go.Proofs.Ytimbllcalipehaa.Ab
namespace Go.Proofs.Ytimbllcalipehaa.Ab
open Go Go.RowKit
section
variable{P:Program}{gl:Nat→Option D}{w0:World}{aq:S0}{e:Env}{a:Act}{w:World}{g:Gh}
abbrev yN(P:Program)(gl:Nat→Option D)(w0:World)(aq:S0)(o:Oper)(a:Act)(w:World)(k:Env→Prop):Prop:=
 ∀(next:Act→World→Prop)(Q:Exit→Act→World→Prop),
  (∀e' v w' g',Inv gl w0 aq e' (a.put o.dst v) w' g'→k e'→next (a.put o.dst v) w')→o.wp P a w next Q
theorem jQ(hI:Inv gl w0 aq e a w g)(t:Nat):bW w0.heap.size w g (fe w0.heap.size w g t) (e.ai.getD t (.v .undef)) (a.eval (.tmp t)):=by
 simp only[Act.eval,List.getD_eq_getElem?_getD]
 cases h:e.ai[t]? with
 |none=>exact .v _ _ _ (.undef _ _)
 |some s=>exact hI.ai t s h
def Gh.lB(g:Gh)(t:Nat)(q:Nat→Pos):Gh:={g with ow:=fun b=>match g.ow b with
 |some (.s i j)=>if i=t then some (q j)else some (.s i j)
 |x=>x}
theorem aar{base:Nat}{t:Nat}{q:Nat→Pos}{p:Pos}(hp:∀j,p≠.s t j){b a0 c0:Nat}(h:eN base w g p b a0 c0):eN base w (g.lB t q) p b a0 c0:=by
 obtain⟨h1,h2,h3,h4,h5⟩:=h
 refine⟨?_,h2,h3,h4,h5⟩
 simp only[Gh.lB,h1]
 cases p with
 |s i j=>
  simp only
  rw[if_neg (fun h=>hp j (by rw[h]))]
 |b i j=>rfl
theorem Jp{base:Nat}{t:Nat}{q:Nat→Pos}{j:Nat}{b a0 c0:Nat}(h:eN base w g (.s t j) b a0 c0):eN base w (g.lB t q) (q j) b a0 c0:=by
 obtain⟨h1,h2,h3,h4,h5⟩:=h
 exact⟨by simp[Gh.lB,h1],h2,h3,h4,h5⟩
theorem Ext.lB{base:Nat}(t:Nat)(q:Nat→Pos)(lost:Pos→Prop)(hl:∀j,lost (.s t j)):Ext base w g w (g.lB t q) lost:=
 ⟨fun D _ hb hn h=>⟨h,hb,by simp[Gh.lB,hn],fun _ h=>h⟩,fun _ _ h=>(by first|exact⟨h,rfl⟩|exact⟨h,.refl _ _ _⟩),fun _ _ _=>rfl,fun _ _ h=>h,fun _ _ _ _ hp ho=>⟨aar (fun j hj=>hp (by rw[hj];exact hl j)) ho,.refl _ _ _⟩,.refl _⟩
theorem Ix(e:Env)(t:Nat)(dst:Option Nat):rF e (e.ai.set t (e.ai.getD t (.v .undef)).aa) (fun i=>i=t) dst:=by
 refine⟨by simp,fun i x hx _=>?_⟩
 rw[List.getElem?_set]at hx
 split at hx
 ·rename_i h
  subst h
  split at hx
  ·rename_i aK
   cases hx
   refine⟨e.ai[t],List.getElem?_eq_getElem aK,.inr ?_⟩
   rw[List.getD_eq_getElem?_getD,List.getElem?_eq_getElem aK];rfl
  ·cases hx
 ·rename_i h
  exact⟨x,hx,.inl ⟨rfl,fun h'=>h h'.symm⟩⟩
theorem PT(hI:Inv gl w0 aq e a w g){o:Oper}{t:Nat}(ba:(execOp a.eval o).run P w=.ok (.value (a.eval (.tmp t))) w){k:Env→Prop}
  (h:k ⟨cq (e.ai.set t (e.ai.getD t (.v .undef)).aa) o.dst (e.ai.getD t (.v .undef)),e.boxes⟩):yN P gl w0 aq o a w k:=by
 intro next Q hn
 unfold Oper.wp
 rw[ba]
 refine hn _ _ _ (match o.dst with|some d=>g.lB t (fun j=>.s d j)|none=>g) (hI.hand (Ix e t o.dst) ?_ (Below.refl _ _) (fun d hd=>?_) ?_ (fun _ _=>rfl) (fun b o' aR=>?_)) h
 ·cases o.dst with
  |none=>exact⟨fun _ _ hb ho h=>⟨h,hb,ho,fun _ h=>h⟩,fun _ _ h=>(by first|exact⟨h,rfl⟩|exact⟨h,.refl _ _ _⟩),fun _ _ _=>rfl,fun _ _ h=>h,fun _ _ _ _ _ h=>⟨h,.refl _ _ _⟩,.refl _⟩
  |some d=>exact Ext.lB t _ _ (fun j=>⟨t,j,rfl,.inl rfl⟩)
 ·rw[hd]
  exact(jQ hI t).mono (fun _ _ h=>(by first|exact⟨h,rfl⟩|exact⟨h,.refl _ _ _⟩)) (fun _ _ _=>rfl) (fun _ _ h=>h) (.refl _) (fun j b a' c ho=>⟨Jp (q:=fun j=>.s d j) ho,.refl _ _ _⟩)
 ·cases o.dst<;>rfl
 ·have:g.St b o':=by cases hd:o.dst<;>rw[hd]at aR<;>exact aR
  exact hI.cG b o' this
theorem W7(hI:Inv gl w0 aq e a w g){o:Oper}{c:Call}(ho:o.op=.call c)(hc:c.callee=.builtin .append){t:Nat}{y:Operand}{ty u:TypeId}
  (hx:c.args.toList=[.tmp t,y])(ht:c.argTypes.toList=[ty,u]){k:Env→Prop}
  (h:bif Nat.beq ty u then(ab (nZ P ty) fun e'=>ab (ea P e') fun sz=>ab (wM P e') fun cP=>ab (nT P e') fun z=>
    bif Nat.blt 0 cP&&Nat.blt 0 sz&&Nat.beq z.length sz then bI sz cP (e.ai.getD t (.v .undef)).bP ((Ab.aV gl e y).aa).bP fun r=>
     k ⟨cq (e.ai.set t (e.ai.getD t (.v .undef)).aa) o.dst (.v r),e.boxes⟩else False)else False):yN P gl w0 aq o a w k:=by
 have hs:=jQ hI t
 have rx:aJ w g.St w0.heap.size (fe w0.heap.size w g t 0) (e.ai.getD t (.v .undef)).bP (a.eval (.tmp t)):=by
  revert hs
  generalize e.ai.getD t (.v .undef)=s
  intro hs
  cases s with
  |v x=>exact hs.jT
  |_=>exact .undef _ _
 intro next Q hn
 refine N3 hI ho hc (Ix e t o.dst) (lost:=fun i=>i=t) hx ht rx (hI.iq y) (fun b a' c' h=>⟨t,h,rfl⟩)
  (k:=fun s aA=>k ⟨cq (e.ai.set t (e.ai.getD t (.v .undef)).aa) o.dst s,aA⟩) h next Q (fun s v aA w' g' hinv hk=>hn _ v w' g' hinv hk)
theorem Wh(hI:Inv gl w0 aq e a w g){o:Oper}{t i:Nat}(ho:o.op=.extract (.tmp t) i){vs:List SV}(hs:e.ai.getD t (.v .undef)=.t vs){r:SV}(hr:vs[i]? =some r){k:Env→Prop}
  (h:k ⟨cq (e.ai.set t (.t (vs.set i (aa r)))) o.dst (.v r),e.boxes⟩):yN P gl w0 aq o a w k:=by
 have m4:=jQ hI t
 rw[hs]at m4
 obtain⟨tv,hv,hl,hc⟩:=m4.Ki
 have hi:i<tv.size:=by rw[←hl];exact(List.getElem?_eq_some_iff.1 hr).1
 have DQ:t<e.ai.length:=by
  rcases Nat.lt_or_ge t e.ai.length with h|h
  ·exact h
  ·rw[List.getD_eq_getElem?_getD,List.getElem?_eq_none h]at hs;cases hs
 intro next Q hn
 have ba:(execOp a.eval o).run P w=.ok (.value tv[i]) w:=by simp[execOp,ho,Instr.extract,hv,hi]
 unfold Oper.wp
 rw[ba]
 let g':Gh:={g with ow:=fun b=>if g.ow b=some (.s t i)then o.dst.map (fun d=>.s d 0)else g.ow b}
 have hX:Ext w0.heap.size w g w g' (fun p=>p=.s t i∨∃d j,o.dst=some d∧p=.s d j):=by
  refine⟨fun D _ hb hn h=>⟨h,hb,(by
   show(if g.ow D=some (.s t i)then o.dst.map (fun d=>Pos.s d 0)else g.ow D)=none
   rw[if_neg (by rw[hn];simp)];exact hn),fun _ h=>h⟩,fun _ _ h=>(by first|exact⟨h,rfl⟩|exact⟨h,.refl _ _ _⟩),fun _ _ _=>rfl,fun _ _ h=>h,fun p b a' c' hp bN=>⟨?_,.refl _ _ _⟩,.refl _⟩
  obtain⟨h1,h2,h3,h4,h5⟩:=bN
  refine⟨?_,h2,h3,h4,h5⟩
  show(if g.ow b=some (.s t i)then o.dst.map (fun d=>Pos.s d 0)else g.ow b)=some p
  rw[if_neg (by rw[h1];intro h;cases h;exact hp (.inl rfl))]
  exact h1
 refine hn _ _ w g' (hI.stepG hX (Below.refl _ _) (by simp) (fun i' x hx hd=>?_) (fun d hd=>?_) hI.ff (fun b bx an h1 h2=>?_) hI.nodup hI.dj hI.cG) h
 ·rw[List.getElem?_set]at hx
  split at hx
  ·rename_i he
   subst he
   simp only[DQ,↓reduceIte,Option.some.injEq]at hx
   subst hx
   have hvt:a.tmps.getD t undef=.tuple tv:=hv
   rw[hvt]
   refine .t _ _ tv (by simpa using hl) fun j x v hx gA=>?_
   rw[List.getElem?_set]at hx
   split at hx
   ·rename_i eT
    subst eT
    split at hx
    ·cases hx
     exact((hc i r v hr gA).aa (O':=fun _ _ _=>False)).mono hX.st hX.bs _ (fun _ _ _ h=>h.elim)
    ·cases hx
   ·rename_i eT
    refine(hc j x v hx gA).mono hX.st hX.bs _ (fun b a' c' bN=>hX.own _ b a' c' ?_ bN)
    rintro(h|⟨d,j',h1,h2⟩)
    ·cases h;exact eT rfl
    ·cases h2;exact hd h1
  ·rename_i he
   refine hX.slot (fun j=>?_) (hI.ai i' x hx)
   rintro(h|⟨d,j',h1,h2⟩)
   ·cases h;exact he rfl
   ·cases h2;exact hd h1
 ·refine .v _ _ _ ((hc i r tv[i] hr (by simp)).mono hX.st hX.bs _ (fun b a' c' bN=>⟨?_,.refl _ _ _⟩))
  obtain⟨h1,h2,h3,h4,h5⟩:=bN
  refine⟨?_,h2,h3,h4,h5⟩
  show(if g.ow b=some (.s t i)then o.dst.map (fun d=>Pos.s d 0)else g.ow b)=some (.s d 0)
  rw[if_pos h1,hd];rfl
 ·refine hX.box (fun j=>?_) rfl (hI.boxes b bx an h1 h2)
  rintro(h|⟨d,j',h1,h2⟩)
  ·cases h
  ·cases h2
theorem Y4(hI:Inv gl w0 aq e a w g){o:Oper}{ty:TypeId}{x:Operand}(ho:o.op=.load ty x){bn off:Nat}(hs:(Ab.aV gl e x).aa =.p bn off){ly:Bool×Nat}(hl:kG P ty=some ly)(lC:ly.1=false)
  {cs:List SV}(bS:e.boxes[bn]? =some (.cells cs)){y:SV}(hy:cs[off]? =some y){k:Env→Prop}(h:k ⟨cq e.ai o.dst (.v y),e.boxes.set bn (.cells (cs.set off (aa y)))⟩):yN P gl w0 aq o a w k:=by
 obtain⟨b0,n⟩:=ly
 simp only at lC
 subst lC
 obtain⟨an,hv,dh⟩:=(hI.mJ hs).mE
 obtain⟨h0,c,te,hc,cg,hlen,bc⟩:=hI.boxes bn _ an bS dh
 have y1:off<c.size:=Nat.lt_of_lt_of_le (List.getElem?_eq_some_iff.1 hy).1 hlen
 have aO:w.cell? ⟨an,off,none⟩=some c[off]:=by rw[cell_of_row w an off c te (0,0) hc];simp[y1]
 have ba:(execOp a.eval o).run P w=.ok (.value c[off]) w:=by
  have:=x5 (P:=P) (w:=w) hl an off (fun _=>c[off]) (fun j hj=>by simp at hj;subst hj;exact aO)
  simp[execOp,ho,Instr.loadAt,Instr.sureAddr,hv,this]
 intro next Q hn
 unfold Oper.wp
 rw[ba]
 let g':Gh:={g with ow:=fun b=>if g.ow b=some (.b bn off)then o.dst.map (fun d=>.s d 0)else g.ow b}
 refine hn _ _ w g' (hI.JS (dst:=o.dst) (ai:=e.ai) (fun _=>False) (fun j=>j=off) (g':=g') rfl rfl (fun p b' h1 h2 h3 h4=>?_) (fun D hD=>by
   show(if g.ow D=some (.b bn off)then o.dst.map (fun d=>.s d 0)else g.ow D)=none
   rw[if_neg (by rw[hD];simp)];exact hD) dh (fun j y hj=>cg j y (by simpa[af.size]using hj)) hc (fun c ty h=>by rw[hc]at h;cases h;rfl) (fun _ _=>rfl) rfl ⟨rfl,rfl,rfl⟩ rfl
  (fun i x hx _=>⟨x,hx,.inl ⟨rfl,fun h=>h⟩⟩) (fun hX=>?_) (fun hX d hd=>?_)) h
 ·show(if g.ow b'=some (.b bn off)then o.dst.map (fun d=>Pos.s d 0)else g.ow b')=some p
  rw[if_neg (by rw[h4];intro h;cases h;exact h2 off rfl rfl)]
  exact h4
 ·refine⟨by simpa using hlen,fun j x u hx hu=>?_⟩
  rw[List.getElem?_set]at hx
  split at hx
  ·rename_i hj
   subst hj
   split at hx
   ·cases hx
    exact((bc off y u hy hu).aa (O':=fun _ _ _=>False)).mono hX.st hX.bs _ (fun _ _ _ h=>h.elim)
   ·cases hx
  ·rename_i hj
   refine(bc j x u hx hu).mono hX.st hX.bs _ (fun b' a' c' bN=>hX.own _ b' a' c' ?_ bN)
   rintro(⟨i,j',h,_⟩|⟨j',h,h'⟩|⟨d,j',_,h⟩)
   ·cases h
   ·cases h;exact hj h'.symm
   ·cases h
 ·refine .v _ _ _ ((bc off y c[off] hy (by simp)).mono hX.st hX.bs _ (fun b' a' c' bN=>⟨?_,.refl _ _ _⟩))
  obtain⟨h1,h2,h3,h4,h5⟩:=bN
  refine⟨?_,h2,h3,h4,h5⟩
  show(if g.ow b'=some (.b bn off)then o.dst.map (fun d=>Pos.s d 0)else g.ow b')=some (.s d 0)
  rw[if_pos h1,hd];rfl
theorem XV(hI:Inv gl w0 aq e a w g){o:Oper}{ty:TypeId}{x:Operand}{t:Nat}(ho:o.op=.store ty x (.tmp t))(hd:o.dst=none){bn off:Nat}(hs:(Ab.aV gl e x).aa =.p bn off)
  (qC:ea P ty=some 1){y:SV}(hy:e.ai.getD t (.v .undef)=.v y){cs:List SV}(bS:e.boxes[bn]? =some (.cells cs)){l:List SV}(hl:az y=some l)(vT:l.length=1)(y1:off<cs.length)
  {k:Env→Prop}(h:k ⟨e.ai.set t (.v (aa y)),e.boxes.set bn (.cells (setAt cs off l))⟩):yN P gl w0 aq o a w k:=by
 obtain⟨an,hv,dh⟩:=(hI.mJ hs).mE
 obtain⟨h0,c,te,hc,cg,hlen,bc⟩:=hI.boxes bn _ an bS dh
 have m4:=jQ hI t
 rw[hy]at m4
 obtain⟨c1,c2,c3⟩:=m4.jT.cells hl
 have jX:(a.eval (.tmp t)).cells.size =1:=by rw[←c1,vT]
 have aR:=EE (P:=P) (w:=w) qC hc jX c2 (off:=off) (by omega)
 have ba:(execOp a.eval o).run P w=.ok .skip (w.setRow an (c.toList.take off++(a.eval (.tmp t)).cells.toList ++c.toList.drop (off+1)).toArray):=by
  simp[execOp,ho,Instr.storeAt,Instr.sureAddr,hv,aR]
 intro next Q hn
 unfold Oper.wp
 rw[ba]
 have kI:=setRow_heap w an c (c.toList.take off++(a.eval (.tmp t)).cells.toList ++c.toList.drop (off+1)).toArray te (0,0) hc
 let g':Gh:=g.lB t (fun _=>.b bn off)
 have jF:∀j,(c.toList.take off++(a.eval (.tmp t)).cells.toList ++c.toList.drop (off+1)).toArray[j]? =if j<off then c[j]? else if j<off+1 then(a.eval (.tmp t)).cells[j-off]? else c[j]? :=by
  intro j
  have nk:(a.eval (.tmp t)).cells.toList.length =1:=by simpa using jX
  have:=uD c.toList (a.eval (.tmp t)).cells.toList off (by rw[nk];simp;omega) j
  rw[nk]at this
  simp only[List.getElem?_toArray]
  rw[this]
  simp only[Array.getElem?_toList]
 have e0:(⟨e.ai.set t (.v (aa y)),e.boxes.set bn (.cells (setAt cs off l))⟩:Env)=⟨cq (e.ai.set t (.v (aa y))) o.dst (.t []),e.boxes.set bn (.cells (setAt cs off l))⟩:=by rw[hd];rfl
 rw[e0]at h
 refine hn _ undef _ g' (hI.JS (dst:=o.dst) (s:=.t []) (ai:=e.ai.set t (.v (aa y))) (fun i=>i=t) (fun j=>j=off) (g':=g') rfl rfl (fun p b' h1 h2 h3 h4=>?_) (fun D hD=>by simp[g',Gh.lB,hD]) dh ?_ kI (fun c ty h=>by rw[hc]at h;cases h;simp[jX];omega)
  (fun k hk=>setRow_other w an k _ hk) (by simp[World.setRow]) ⟨rfl,rfl,rfl⟩ (by simp) (fun i x hx _=>?_) (fun hX=>?_) (fun hX d jm=>by rw[hd]at jm;cases jm)) h
 ·show(match g.ow b' with|some (.s i j)=>if i=t then some (Pos.b bn off)else some (.s i j)|x=>x)=some p
  rw[h4]
  cases p with
  |s i j=>simp only;rw[if_neg (fun h=>h1 i j rfl h)]
  |b i j=>rfl
 ·intro j u hj hu
  rw[←jX]at hu
  exact Om (m:=cs.length) (by omega) cg c2 j u (by simp only[af.size,Af l cs off (by omega),List.length_append,List.length_take,List.length_drop]at hj;omega) hu
 ·rw[List.getElem?_set]at hx
  split at hx
  ·rename_i he
   subst he
   split at hx
   ·rename_i aK
    cases hx
    rw[List.getD_eq_getElem?_getD,List.getElem?_eq_getElem aK]at hy
    simp only[Option.getD_some]at hy
    exact⟨_,List.getElem?_eq_getElem aK,.inr (by rw[hy];rfl)⟩
   ·cases hx
  ·rename_i he
   exact⟨x,hx,.inl ⟨rfl,fun h=>he h.symm⟩⟩
 ·rw[Af l cs off (by omega)]
  refine⟨by simp[jX,vT];omega,fun j x' u dK hu=>?_⟩
  rw[jF]at hu
  rw[uD cs l off (by omega),vT]at dK
  have gC:j≠off→cs[j]? =some x'→c[j]? =some u→aJ (w.setRow an (c.toList.take off++(a.eval (.tmp t)).cells.toList ++c.toList.drop (off+1)).toArray) g'.St w0.heap.size (rJ w0.heap.size _ g' bn j) x' u:=fun hj h4 h5=>
   (bc j x' u h4 h5).mono hX.st hX.bs _ (fun b' a' c' bN=>hX.own _ b' a' c' (by
     rintro(⟨i,j',h,_⟩|⟨j',h,h'⟩|⟨d,j',_,h⟩)
     ·cases h
     ·cases h;exact hj h'
     ·cases h) bN)
  split at dK
  ·rename_i hj
   rw[if_pos hj]at hu
   exact gC (by omega) dK hu
  ·rename_i hj
   rw[if_neg hj]at hu
   split at dK
   ·rename_i uj
    rw[if_pos uj]at hu
    have GF:j=off:=by omega
    subst GF
    refine(c3 (j-j) x' u dK hu).mono hX.st hX.bs _ (fun b' a' c' bN=>?_)
    have:=Jp (q:=fun _=>Pos.b bn j) bN
    obtain⟨h1,h2,h3,⟨cur,rU,h4,lu⟩,h5⟩:=this
    have bg:b'≠an:=fun h=>h3 (h▸List.mem_of_getElem? dh)
    exact⟨⟨h1,h2,h3,⟨cur,rU,(setRow_other w an b' _ bg).trans h4,lu⟩,h5⟩,fun _=>setRow_other w an b' _ bg⟩
   ·rename_i uj
    rw[if_neg uj]at hu
    exact gC (by omega) dK hu
theorem W8(hI:Inv gl w0 aq e a w g){o:Oper}{k:Env→Prop}(h:lb P gl (aD P gl) o e k):yN P gl w0 aq o a w k:=by
 unfold lb at h
 split at h
 ·rename_i t ho;exact PT hI (by simp[execOp,ho]) h
 ·rename_i t ho;exact PT hI (by simp[execOp,ho]) h
 ·rename_i t i ho
  split at h
  ·rename_i vs hs
   split at h
   ·rename_i r hr;exact Wh hI ho hs hr h
   ·exact h.elim
  ·exact h.elim
 ·rename_i ty x ho
  split at h
  ·rename_i b off hs
   obtain⟨ly,hl,h⟩:=aH h
   cases lC:ly.1 with
   |true=>rw[lC]at h;exact h.elim
   |false=>
    rw[lC]at h
    simp only[cond_false]at h
    split at h
    ·rename_i cs bS
     obtain⟨y,hy,h⟩:=aH h
     exact Y4 hI ho hs hl lC bS hy h
    ·exact h.elim
  ·exact h.elim
 ·rename_i ty x t ho
  split at h
  ·rename_i b off y hs hy hd
   obtain⟨sz,aM,h⟩:=aH h
   cases hb:Nat.beq sz 1 with
   |false=>rw[hb]at h;exact h.elim
   |true=>
    rw[hb]at h
    simp only[cond_true]at h
    have:=Nat.eq_of_beq_eq_true hb
    subst this
    split at h
    ·rename_i cs bS
     obtain⟨l,hl,h1,h2,h⟩:=aH h
     exact XV hI ho hd hs aM hy bS hl h1 h2 h
    ·exact h.elim
  ·exact h.elim
 ·rename_i t n ps ho
  obtain⟨r',e',sz,L,hk,ba,aM,lW,gU,bc⟩:=Np hI ho (K:=fun sz L=>k ⟨cq e.ai o.dst (.v (.bt sz L)),e.boxes⟩) h
  intro next Q hn
  exact bp.QG hI (k:=fun s aA=>k ⟨cq e.ai o.dst s,aA⟩) ba aM lW gU bc hk next Q (fun s v aA w' g' hinv hk=>hn _ v w' g' hinv hk)
 ·rename_i c ho
  split at h
  ·rename_i t y ty u hc hx ht
   exact W7 hI ho hc hx ht h
  ·rename_i f hc
   split at h
   ·rename_i t g' hp hg
    split at h
    ·rename_i y hy
     exact Iw hI ho hc hp hg hy h
    ·exact h.elim
   ·exact h.elim
  ·exact h.elim
 ·exact h.elim
theorem Pd(hI:Inv gl w0 aq e a w g){id:Nat}{aE:Bool}{o:Oper}{k:Env→Prop}(h:m7 P gl (aD P gl) id aE o e k):yN P gl w0 aq o a w k:=by
 unfold m7 at h
 cases aE<;>simp only[cond_true,cond_false]at h
 ·intro next Q hn
  exact Y3 hI h next Q (fun s v aA w' g' hinv hk=>hn _ v w' g' hinv hk)
 ·exact W8 hI h
end
end Go.Proofs.Ytimbllcalipehaa.Ab
namespace Go.Proofs.Ytimbllcalipehaa.Ab
open Go Go.RowKit
def lD(U:Option (Nat×af))(aA:List af):List af:=match U with
 |none=>aA
 |some (b,bx)=>aA.set b bx
def jf(src:Option (Nat×Slot))(l:List Slot):List Slot:=match src with
 |none=>l
 |some (t,s)=>l.set t s
def rK(x y:Option af):Prop:=x=y∨∃cs eK,x=some (.cells cs)∧y=some (.cells eK)∧cs.map Ab.aa=eK.map Ab.aa
theorem rK.refl(x:Option af):rK x x:=.inl rfl
theorem rK.symm{x y:Option af}(h:rK x y):rK y x:=by
 rcases h with h|⟨cs,eK,h1,h2,h3⟩
 ·exact .inl h.symm
 ·exact .inr ⟨eK,cs,h2,h1,h3.symm⟩
theorem rK.trans{x y z:Option af}(h:rK x y)(k:rK y z):rK x z:=by
 rcases h with rfl|⟨cs,eK,h1,h2,h3⟩
 ·exact k
 ·rcases k with rfl|⟨ds,LI,k1,k2,k3⟩
  ·exact .inr ⟨cs,eK,h1,h2,h3⟩
  ·rw[h2]at k1
   cases k1
   exact .inr ⟨cs,LI,h1,k2,h3.trans k3⟩
theorem aas(x:SV):cN (aa x)=cN x:=by cases x<;>rfl
theorem IV:∀(l:List SV),dE (l.map aa)=dE l
 |[]=>rfl
 |x::l=>by simp only[List.map_cons,dE,aas,IV l]
theorem W9{agg:Bool}{sz off:Nat}{cs eK:List SV}{y:SV}(h:cs.map Ab.aa=eK.map Ab.aa)(hy:ah agg sz off cs=some y):∃y',ah agg sz off eK=some y'∧aa y'=aa y:=by
 have hlen:cs.length=eK.length:=by have:=congrArg List.length h;simpa using this
 cases agg with
 |false=>
  simp only[ah,cond_false]at hy ⊢
  have h1:(eK.map Ab.aa)[off]? =some (aa y):=by rw[←h];simp[hy]
  rw[List.getElem?_map]at h1
  obtain⟨y',h2,h3⟩:=Option.map_eq_some_iff.1 h1
  exact⟨y',h2,h3⟩
 |true=>
  refine⟨y,?_,rfl⟩
  simp only[ah,cond_true]at hy ⊢
  have h1:dE ((eK.drop off).take sz)=dE ((cs.drop off).take sz):=by
   rw[←IV,←IV ((cs.drop off).take sz),List.map_take,List.map_drop,List.map_take,List.map_drop,h]
  rw[h1,←hlen]
  exact hy
def lR(ae0:Bool)(s:Slot)(aA b':List af):Prop:=(∀b off,s=.p b off→rK b'[b]? aA[b]? ∧(ae0=false→b'[b]? =aA[b]?))∧(∀n,snap b' n s=snap aA n s)∧∀b l,s=.m b→(b'[b]? =some (.map l)↔aA[b]? =some (.map l))
structure vw(id:Nat)(aE:Bool)(o:Oper)(U:Option (Nat×af))(ρ:Operand→Slot)(aA b':List af):Prop where
 mem:ik o=true→∀x∈o.op.operands,lR (!js o&& !aE) (ρ x) aA b'
 fresh:gk o=true→U≠none→b'[id]? =some .none
inductive va(id:Nat)(o:Oper)(aE:Bool)(ρ:Operand→Slot)(aA:List af):Option (Nat×af)→Prop
 |none:va id o aE ρ aA none
 |mk (bx:af) (h:gk o=true) (hn:aA[id]? =some .none) (hb:bx≠.none):va id o aE ρ aA (some (id,bx))
 |wr (b:Nat) (bx gC:af) (h:ik o=true) (hw:js o=true∨aE=true) (x:Operand) (hx:x∈o.op.operands) (off:Nat) (hp:ρ x=.p b off∨ρ x=.m b) (ho:aA[b]? =some gC) (hold:gC≠.none) (hb:bx≠.none ∧bx.isMap=gC.isMap)
   (qk:aE=true→js o=false→∃cs eK,gC=.cells cs∧bx=.cells eK∧cs.map Ab.aa=eK.map Ab.aa)
   (ha:∀t y z,o.op=.store t y z→x=y):
   va id o aE ρ aA (some (b,bx))
inductive du(K:Nat→Prop):Slot→Prop
 |v (x:SV):du K (.v x)
 |t (l:List SV):du K (.t l)
 |p (b off:Nat) (h:K b):du K (.p b off)
 |a (b n sz:Nat) (h:K b):du K (.a b n sz)
 |m (b:Nat) (h:K b):du K (.m b)
 |c (f:Fn) (first cap:List Slot) (h1:∀s∈first,du K s) (h2:∀s∈cap,du K s):du K (.c f first cap)
theorem du.kR{K:Nat→Prop}{s:Slot}(h:du K s):du K s.aa:=by
 cases h with
 |v x=>exact .v _
 |t l=>exact .t _
 |p b off h=>exact .p b off h
 |a b n sz h=>exact .a b n sz h
 |m b h=>exact .m b h
 |c f first cap h1 h2=>exact .c f first cap h1 h2
theorem du.ad7{K:Nat→Prop}{s:Slot}(h:du K s.aa):du K s:=by
 cases s with
 |v x=>exact .v _
 |t l=>exact .t _
 |p b off=>exact h
 |a b n sz=>exact h
 |m b=>exact h
 |c f first cap=>exact h
theorem du.mE{K:Nat→Prop}{b off:Nat}(h:du K (.p b off)):K b:=by cases h;assumption
theorem du.Sh{K:Nat→Prop}{b:Nat}(h:du K (.m b)):K b:=by cases h;assumption
theorem du.AV{K:Nat→Prop}{b n sz:Nat}(h:du K (.a b n sz)):K b:=by cases h;assumption
def addrOf(o:Oper):Option Operand:=match o.op with| .store _ x _=>some x|_=>none
def A7(o:Oper)(ρ:Operand→Slot)(aA:List af)(s:Slot)(U:Option (Nat×af)):Prop:=
 ∀(K B:Nat→Prop),(∀b,K b→B b)→(∀x∈o.op.operands,addrOf o≠some x→du K (ρ x))→(∀t x y,o.op=.store t x y→du K (ρ y))→(∀b s,B b→aA[b]? =some (.one s)→du K s)→
  (gk o=false→du K s)∧∀b s',U=some (b,.one s')→gk o=false→du K s'
theorem iM{o:Oper}{ρ:Operand→Slot}{aA:List af}{x:SV}:A7 o ρ aA (.v x) none:=fun _ _ _ _ _ _=>⟨fun _=>.v _,fun _ _ h=>by cases h⟩
theorem Gi{o:Oper}{ρ:Operand→Slot}{aA:List af}{s:Slot}{U:Option (Nat×af)}(h:gk o=true):A7 o ρ aA s U:=fun _ _ _ _ _ _=>⟨fun h2=>(by rw[h]at h2;cases h2),fun _ _ _ h2=>(by rw[h]at h2;cases h2)⟩
theorem Gj{o:Oper}{ρ:Operand→Slot}{aA:List af}{s:Slot}(h:∀K,du K s):A7 o ρ aA s none:=fun K _ _ _ _ _=>⟨fun _=>h K,fun _ _ h=>by cases h⟩
theorem tR{o:Oper}{ρ:Operand→Slot}{aA:List af}{s:Slot}{x:Operand}(hx:x∈o.op.operands)(ha:addrOf o=none)(h:∀K,du K (ρ x)→du K s):A7 o ρ aA s none:=fun K _ _ hρ _ _=>⟨fun _=>h K (hρ x hx (by rw[ha];simp)),fun _ _ h=>by cases h⟩
theorem Gk{o:Oper}{ρ:Operand→Slot}{aA:List af}{l:List SV}{b:Nat}{cs:List SV}:A7 o ρ aA (.t l) (some (b,.cells cs)):=fun _ _ _ _ _ _=>⟨fun _=>.t _,fun _ _ h=>by cases h⟩
section
variable{P:Program}{gl:Nat→Option D}{C:bl}
theorem EF{ρ ρ':Operand→Slot}:∀{l:List (Nat×Operand)},(∀p∈l,ρ' p.2=ρ p.2)→od ρ' l=od ρ l
 |[],_=>rfl
 |(i,x)::l,h=>by
  simp only[od]
  rw[h (i,x) (by simp),EF (fun p hp=>h p (by simp[hp]))]
theorem HM{ρ ρ':Operand→Slot}{aA b':List af}:∀{l:List Operand},(∀x∈l,snap b' 6 (ρ' x)=snap aA 6 (ρ x))→iI b' ρ' l=iI aA ρ l
 |[],_=>rfl
 |x::l,h=>by
  simp only[iI]
  rw[h x (by simp),HM (fun p hp=>h p (by simp[hp]))]
theorem H9{ρ ρ':Operand→Slot}{x:Option Operand}(h:∀y,x=some y→ρ' y=ρ y):pt ρ' x=pt ρ x:=by
 cases x with
 |none=>rfl
 |some y=>simp only[pt];rw[h y rfl]
theorem Pe:∀{n:Nat}{k:List SV→Prop}(rs:List SV),rs.length=n→k rs→xv n k
 |0,_,[],_,h=>h
 |n+1,_,r::rs,hl,h=>⟨r,Pe rs (by simpa using hl) h⟩
 |0,_,_::_,hl,_=>by simp at hl
 |_+1,_,[],hl,_=>by simp at hl
theorem Ia{n:Nat}{aA:List af}{k:Slot→List af→Prop}{f:FuncId}{args:List SV}(h:oo C n aA k f args):
  ∃s,k s aA∧(∀K,du K s)∧∀b' k',k' s b'→oo C n b' k' f args:=by
 unfold oo at h
 split at h
 ·obtain⟨r,h1,h2,h3⟩:=h
  exact⟨.v r,h3,fun K=>.v _,fun b' k' hk=>⟨r,h1,h2,hk⟩⟩
 ·rename_i hn
  obtain⟨rs,hl,h1,h2⟩:=Ct h
  refine⟨.t rs,h2,fun K=>.t _,fun b' k' hk=>?_⟩
  unfold oo
  split
  ·exact absurd rfl hn
  ·exact Pe rs hl ⟨h1,hk⟩
theorem Wi{x:SV}{args:List SV}{K:FuncId→List SV→Prop}(h:withFn x args K):∃f l,K f l∧∀K':FuncId→List SV→Prop,K' f l→withFn x args K':=by
 unfold withFn at h
 split at h
 ·exact⟨_,_,h,fun _ h=>h⟩
 ·exact⟨_,_,h,fun _ h=>h⟩
 ·exact h.elim
theorem VI{x:SV}{name:String}{args:List SV}{K:FuncId→List SV→Prop}(h:wL P x name args K):∃f l,K f l∧∀K':FuncId→List SV→Prop,K' f l→wL P x name args K':=by
 unfold wL at h
 split at h
 ·obtain⟨f,hf,h⟩:=aH h
  exact⟨_,_,h,fun K' hk=>by simp only[wL,hf];exact hk⟩
 ·exact h.elim
theorem aat{aA b':List af}{f:Fn}{first cap:List Slot}(h:∀n,snap b' n (.c f first cap)=snap aA n (.c f first cap)):
  ju (snap b' 6) first=ju (snap aA 6) first∧ju (snap b' 6) cap=ju (snap aA 6) cap:=by
 have:=h 7
 simp only[snap,SV.dg.injEq,true_and]at this
 exact this
theorem Y5{id:Nat}{o:Oper}{ρ:Operand→Slot}{aA:List af}{k:Slot→List af→Prop}(h:cT P C id o ρ aA k):
  ∃s U,k s (lD U aA)∧va id o false ρ aA U∧A7 o ρ aA s U∧
   ∀(ρ':Operand→Slot)(b':List af)(k':Slot→List af→Prop),(∀x∈o.op.operands,ρ' x=ρ x)→vw id false o U ρ aA b'→k' s (lD U b')→cT P C id o ρ' b' k':=by
 cases ho:o.op<;>simp only[cT,ho]at h
 case move x=>
  refine⟨_,none,h,.none,tR (x:=x) (by simp[ho,Op.operands]) (by simp[addrOf,ho]) (fun _ h=>h),fun ρ' b' k' hρ _ hk=>?_⟩
  simp only[cT,ho];rw[hρ x (by simp[Op.operands])];exact hk
 case assign x=>
  refine⟨_,none,h,.none,tR (x:=x) (by simp[ho,Op.operands]) (by simp[addrOf,ho]) (fun _ h=>h),fun ρ' b' k' hρ _ hk=>?_⟩
  simp only[cT,ho];rw[hρ x (by simp[Op.operands])];exact hk
 case pick c x y=>
  split at h
  ·rename_i s hs
   obtain⟨b,rfl,h1,h2⟩:=Aq h
   cases b
   ·refine⟨_,none,h2 rfl,.none,tR (x:=y) (by simp[ho,Op.operands]) (by simp[addrOf,ho]) (fun _ h=>h),fun ρ' b' k' hρ _ hk=>?_⟩
    simp only[cT,ho];rw[hρ c (by simp[Op.operands]),hρ x (by simp[Op.operands]),hρ y (by simp[Op.operands]),hs];exact hk
   ·refine⟨_,none,h1 rfl,.none,tR (x:=x) (by simp[ho,Op.operands]) (by simp[addrOf,ho]) (fun _ h=>h),fun ρ' b' k' hρ _ hk=>?_⟩
    simp only[cT,ho];rw[hρ c (by simp[Op.operands]),hρ x (by simp[Op.operands]),hρ y (by simp[Op.operands]),hs];exact hk
  ·exact h.elim
 case alloc t=>
  split at h
  ·rename_i fl
   obtain⟨z,hz,hk⟩:=aH h
   refine⟨_,some (id,_),hk,.mk _ (by simp[gk,ho]) fl (by simp),Gi (by simp[gk,ho]),fun ρ' b' k' hρ hS hk=>?_⟩
   simp only[cT,ho,hS.fresh (by simp[gk,ho]) (by simp),hz,ab];exact hk
  ·exact h.elim
 case box t x=>
  split at h
  ·rename_i fl
   obtain⟨sz,aM,h⟩:=aH h
   split at h
   ·rename_i y hy
    obtain⟨l,hl,hlen,hk⟩:=aH h
    refine⟨_,some (id,_),hk,.mk _ (by simp[gk,ho]) fl (by simp),Gi (by simp[gk,ho]),fun ρ' b' k' hρ hS hk=>?_⟩
    simp only[cT,ho,hS.fresh (by simp[gk,ho]) (by simp),aM,ab];rw[hρ x (by simp[Op.operands]),hy];simp only[hl];exact⟨hlen,hk⟩
   ·exact h.elim
   ·rename_i h1 h2
    split at h
    ·refine⟨_,some (id,_),h,.mk _ (by simp[gk,ho]) fl (by simp),Gi (by simp[gk,ho]),fun ρ' b' k' hρ hS hk=>?_⟩
     simp only[cT,ho,hS.fresh (by simp[gk,ho]) (by simp),aM,ab];rw[hρ x (by simp[Op.operands])]
     split
     ·rename_i y hy;exact absurd hy (h1 y)
     ·rename_i y hy;exact absurd hy (h2 y)
     ·exact hk
    ·exact h.elim
  ·exact h.elim
 case build t ps=>
  obtain⟨l,hl,h⟩:=aH h
  obtain⟨r,hr,h⟩:=aH h
  refine⟨_,none,h,.none,iM,fun ρ' b' k' hρ _ hk=>?_⟩
  simp only[cT,ho]
  rw[EF (fun p hp=>hρ p.2 (by simp only[Op.operands,List.mem_toArray,List.mem_map];exact⟨p,hp,rfl⟩)),hl]
  simp only[ab,hr];exact hk
 case buildSlice t n ps=>
  obtain⟨e,he,h⟩:=aH h
  obtain⟨ly,lC,h⟩:=aH h
  obtain⟨z,hz,h⟩:=aH h
  obtain⟨l,hl,h⟩:=aH h
  cases hc:(Nat.ble (n*ly.2) (2^24)&&Nat.blt 0 ly.2&&Nat.beq z.length ly.2)with
  |false=>rw[hc]at h;exact h.elim
  |true=>
   rw[hc]at h
   simp only[cond_true]at h
   refine⟨_,none,h.2,.none,iM,fun ρ' b' k' hρ _ hk=>?_⟩
   simp only[cT,ho]
   rw[EF (fun p hp=>hρ p.2 (by simp only[Op.operands,List.mem_toArray,List.mem_map];exact⟨p,hp,rfl⟩)),hl]
   simp only[ab,he,lC,hz,hc,cond_true];exact⟨h.1,hk⟩
 case load t x=>
  obtain⟨ly,hl,h⟩:=aH h
  split at h
  ·rename_i bn off hs
   unfold p6 at h
   have GO:∀{U b'},vw id false o U ρ aA b'→rK b'[bn]? aA[bn]? :=fun hS=>((hS.mem (by simp[ik,ho]) x (by simp[ho,Op.operands])).1 bn off hs).1
   split at h
   ·rename_i cs bS
    obtain⟨y,hy,h⟩:=aH h
    refine⟨_,none,h,.none,iM,fun ρ' b' k' hρ hS hk=>?_⟩
    simp only[cT,ho,hl,ab];rw[hρ x (by simp[Op.operands]),hs]
    rcases GO hS with hn|⟨ds,LI,h1,h2,h3⟩
    ·simp only[p6,hn,bS,ab,hy];exact hk
    ·rw[bS]at h2
     cases h2
     obtain⟨y',oM,hd⟩:=W9 h3.symm hy
     simp only[p6,h1,ab,oM,hd];exact hk
   ·rename_i s bS
    cases hb:ly.1 with
    |true=>rw[hb]at h;exact h.elim
    |false=>
     rw[hb]at h
     simp only[cond_false]at h
     have Bu:∀{U b'},vw id false o U ρ aA b'→b'[bn]? =aA[bn]? :=fun hS=>by
      rcases GO hS with hn|⟨ds,LI,_,h2,_⟩
      ·exact hn
      ·rw[bS]at h2;cases h2
     split at h
     ·refine⟨_,none,h,.none,fun K B Bv hρ' _ dt=>⟨fun _=>(dt bn s (Bv bn (by have:=hρ' x (by simp[ho,Op.operands]) (by simp[addrOf,ho]);rw[hs]at this;exact this.mE)) bS).kR,fun _ _ h=>by cases h⟩,fun ρ' b' k' hρ hS hk=>?_⟩
      simp only[cT,ho,hl,ab];rw[hρ x (by simp[Op.operands]),hs];simp only[p6,Bu hS,bS,hb,cond_false];exact hk
     ·exact h.elim
   ·exact h.elim
  ·rename_i s hs
   obtain⟨y,hy,h⟩:=aH h
   refine⟨_,none,h,.none,iM,fun ρ' b' k' hρ hS hk=>?_⟩
   simp only[cT,ho,hl,ab];rw[hρ x (by simp[Op.operands]),hs];simp only[hy];exact hk
  ·exact h.elim
 case store t x y=>
  obtain⟨n,hn,h⟩:=aH h
  split at h
  ·rename_i bn off hs
   have Bu:∀{U b'},vw id false o U ρ aA b'→b'[bn]? =aA[bn]? :=fun hS=>((hS.mem (by simp[ik,ho]) x (by simp[ho,Op.operands])).1 bn off hs).2 (by simp[js,ho])
   split at h
   ·rename_i hd
    unfold td at h
    have uf:∀bx gC,aA[bn]? =some gC→gC≠.none →bx≠.none ∧bx.isMap=gC.isMap→va id o false ρ aA (some (bn,bx)):=fun bx gC h1 h2 h3=>
     .wr bn bx gC (by simp[ik,ho]) (.inl (by simp[js,ho])) x (by simp[ho,Op.operands]) off (.inl hs) h1 h2 h3 (fun h=>by cases h) (fun t' y' z' h=>by rw[ho]at h;cases h;rfl)
    split at h
    ·rename_i cs bS
     split at h
     ·rename_i z hz
      obtain⟨l,hl,h1,h2,h⟩:=aH h
      refine⟨_,some (bn,_),h,uf _ _ bS (by simp) (by simp[af.isMap]),(by first|exact Gk|exact fun K B _ _ hv _=>⟨fun _=>.t _,fun _ _ h _=>by cases h;exact hv _ _ _ (by assumption)⟩),fun ρ' b' k' hρ hS hk=>?_⟩
      simp only[cT,ho,hn,ab];rw[hρ x (by simp[Op.operands]),hρ y (by simp[Op.operands]),hs,hz,hd];simp only[td,Bu hS,bS,hl,ab];exact⟨h1,h2,hk⟩
     ·exact h.elim
     ·rename_i h1 h2
      split at h
      ·refine⟨_,some (bn,_),h,uf _ _ bS (by simp) (by simp[af.isMap]),(by first|exact Gk|exact fun K B _ _ hv _=>⟨fun _=>.t _,fun _ _ h _=>by cases h;exact hv _ _ _ (by assumption)⟩),fun ρ' b' k' hρ hS hk=>?_⟩
       simp only[cT,ho,hn,ab];rw[hρ x (by simp[Op.operands]),hρ y (by simp[Op.operands]),hs,hd];simp only[td,Bu hS,bS];exact hk
      ·exact h.elim
    ·rename_i s0 bS
     split at h
     ·split at h
      ·rename_i z hz
       obtain⟨l,hl,h1,h⟩:=aH h
       refine⟨_,some (bn,_),h,uf _ _ bS (by simp) (by simp[af.isMap]),(by first|exact Gk|exact fun K B _ _ hv _=>⟨fun _=>.t _,fun _ _ h _=>by cases h;exact hv _ _ _ (by assumption)⟩),fun ρ' b' k' hρ hS hk=>?_⟩
       simp only[cT,ho,hn,ab];rw[hρ x (by simp[Op.operands]),hρ y (by simp[Op.operands]),hs,hz,hd];simp only[td,Bu hS,bS,hl,ab];exact⟨h1,hk⟩
      ·exact h.elim
      ·rename_i h1 h2
       refine⟨_,some (bn,_),h,uf _ _ bS (by simp) (by simp[af.isMap]),(by first|exact Gk|exact fun K B _ _ hv _=>⟨fun _=>.t _,fun _ _ h _=>by cases h;exact hv _ _ _ (by assumption)⟩),fun ρ' b' k' hρ hS hk=>?_⟩
       simp only[cT,ho,hn,ab];rw[hρ x (by simp[Op.operands]),hρ y (by simp[Op.operands]),hs,hd];simp only[td,Bu hS,bS];exact hk
     ·exact h.elim
    ·exact h.elim
   ·exact h.elim
  ·exact h.elim
 case nilCheck x=>
  split at h
  ·rename_i y hy
   obtain⟨z,hz,h⟩:=aH h
   refine⟨_,none,h,.none,iM,fun ρ' b' k' hρ _ hk=>?_⟩
   simp only[cT,ho];rw[hρ x (by simp[Op.operands]),hy];simp only[hz,ab];exact hk
  ·exact h.elim
  ·rename_i f first cap hy
   split at h
   ·refine⟨_,none,h,.none,tR (x:=x) (by simp[ho,Op.operands]) (by simp[addrOf,ho]) (fun _ h=>by rw[hy]at h;exact h),fun ρ' b' k' hρ _ hk=>?_⟩
    simp only[cT,ho];rw[hρ x (by simp[Op.operands]),hy];exact hk
   ·split at h
    ·obtain⟨z,hz,h⟩:=aH h
     refine⟨_,none,h,.none,tR (x:=x) (by simp[ho,Op.operands]) (by simp[addrOf,ho]) (fun _ h=>by rw[hy]at h;exact h),fun ρ' b' k' hρ _ hk=>?_⟩
     simp only[cT,ho];rw[hρ x (by simp[Op.operands]),hy];simp only[hz,ab];exact hk
    ·exact h.elim
   ·exact h.elim
  ·rename_i b off hy
   refine⟨_,none,h,.none,tR (x:=x) (by simp[ho,Op.operands]) (by simp[addrOf,ho]) (fun _ h=>by rw[hy]at h;exact h),fun ρ' b' k' hρ _ hk=>?_⟩
   simp only[cT,ho];rw[hρ x (by simp[Op.operands]),hy];exact hk
  ·exact h.elim
 case binOp op t x y u=>
  obtain⟨z,hz,h⟩:=aH h
  refine⟨_,none,h,.none,iM,fun ρ' b' k' hρ _ hk=>?_⟩
  simp only[cT,ho];rw[hρ x (by simp[Op.operands]),hρ y (by simp[Op.operands])];simp only[hz,ab];exact hk
 case unOp op t x=>
  obtain⟨z,hz,h⟩:=aH h
  refine⟨_,none,h,.none,iM,fun ρ' b' k' hρ _ hk=>?_⟩
  simp only[cT,ho];rw[hρ x (by simp[Op.operands])];simp only[hz,ab];exact hk
 case convert src dst x=>
  cases hs:(P.underlying src).isSome with
  |false=>rw[hs]at h;exact h.elim
  |true=>
   rw[hs]at h
   obtain⟨z,hz,h⟩:=aH h
   refine⟨_,none,h,.none,iM,fun ρ' b' k' hρ _ hk=>?_⟩
   simp only[cT,ho];rw[hρ x (by simp[Op.operands])];simp only[hs,cond_true,hz,ab];exact hk
 case makeInterface t x=>
  cases hs:isIface P t with
  |true=>rw[hs]at h;exact h.elim
  |false=>
   rw[hs]at h
   obtain⟨z,hz,h⟩:=aH h
   refine⟨_,none,h,.none,iM,fun ρ' b' k' hρ _ hk=>?_⟩
   simp only[cT,ho];rw[hρ x (by simp[Op.operands])];simp only[hs,cond_false,hz,ab];exact hk
 case makeFunc fn first cap=>
  refine⟨_,none,h,.none,(fun K B Bv hρ' _ _=>⟨fun _=>.c _ _ _ (fun s hs=>by
   obtain⟨x,hx,rfl⟩:=List.mem_map.1 hs
   exact(hρ' x (by rw[ho];simp only[Op.operands,Array.mem_append];exact .inl (by simpa using hx)) (by simp[addrOf,ho])).kR) (fun s hs=>by
   obtain⟨x,hx,rfl⟩:=List.mem_map.1 hs
   exact(hρ' x (by rw[ho];simp only[Op.operands,Array.mem_append];exact .inr (by simpa using hx)) (by simp[addrOf,ho])).kR),fun _ _ h=>by cases h⟩),fun ρ' b' k' hρ _ hk=>?_⟩
  simp only[cT,ho]
  have e1:(first.toList.map fun x=>(ρ' x).aa)=first.toList.map fun x=>(ρ x).aa :=List.map_congr_left fun x hx=>by rw[hρ x (by simp only[Op.operands,Array.mem_append];exact .inl (by simpa using hx))]
  have e2:(cap.toList.map fun x=>(ρ' x).aa)=cap.toList.map fun x=>(ρ x).aa :=List.map_congr_left fun x hx=>by rw[hρ x (by simp only[Op.operands,Array.mem_append];exact .inr (by simpa using hx))]
  rw[e1,e2];exact hk
 case slice t x lo hi mx=>
  obtain⟨z,hz,h⟩:=aH h
  refine⟨_,none,h,.none,iM,fun ρ' b' k' hρ _ hk=>?_⟩
  simp only[cT,ho]
  rw[hρ x (by simp[Op.operands]),H9 (x:=lo) (fun y hy=>hρ y (by simp[Op.operands,hy])),H9 (x:=hi) (fun y hy=>hρ y (by simp[Op.operands,hy])),H9 (x:=mx) (fun y hy=>hρ y (by simp[Op.operands,hy]))]
  simp only[hz,ab];exact hk
 case fieldAddr t x f=>
  obtain⟨fd,xy,h⟩:=aH h
  obtain⟨sz,aM,h⟩:=aH h
  cases hc:Nat.beq sz 0 with
  |true=>rw[hc]at h;exact h.elim
  |false=>
   rw[hc]at h
   simp only[cond_false]at h
   split at h
   ·rename_i b off hy
    refine⟨_,none,h,.none,tR (x:=x) (by simp[ho,Op.operands]) (by simp[addrOf,ho]) (fun _ h=>by rw[hy]at h;exact .p _ _ h.mE),fun ρ' b' k' hρ _ hk=>?_⟩
    simp only[cT,ho,xy,aM,ab,hc,cond_false];rw[hρ x (by simp[Op.operands]),hy];exact hk
   ·rename_i y hy
    obtain⟨z,hz,h⟩:=aH h
    refine⟨_,none,h,.none,iM,fun ρ' b' k' hρ _ hk=>?_⟩
    simp only[cT,ho,xy,aM,ab,hc,cond_false];rw[hρ x (by simp[Op.operands]),hy];simp only[hz];exact hk
   ·exact h.elim
 case field t x f=>
  obtain⟨fd,xy,h⟩:=aH h
  obtain⟨ly,lC,h⟩:=aH h
  obtain⟨z,hz,h⟩:=aH h
  refine⟨_,none,h,.none,iM,fun ρ' b' k' hρ _ hk=>?_⟩
  simp only[cT,ho];rw[hρ x (by simp[Op.operands])];simp only[xy,lC,hz,ab];exact hk
 case indexAddr t x i=>
  split at h
  ·rename_i e he
   obtain⟨sz,aM,h⟩:=aH h
   cases hs:ρ x with
   |a b n=>
    rw[hs]at h
    obtain⟨j,hj,h⟩:=aH h
    refine⟨_,none,h,.none,tR (x:=x) (by simp[ho,Op.operands]) (by simp[addrOf,ho]) (fun _ h=>by rw[hs]at h;exact .p _ _ h.AV),fun ρ' b' k' hρ _ hk=>?_⟩
    simp only[cT,ho];rw[hρ x (by simp[Op.operands]),hρ i (by simp[Op.operands]),hs];simp only[he,aM,hj,ab];exact hk
   |_=>
    rw[hs]at h
    obtain⟨z,hz,h⟩:=aH h
    refine⟨_,none,h,.none,iM,fun ρ' b' k' hρ _ hk=>?_⟩
    simp only[cT,ho];rw[hρ x (by simp[Op.operands]),hρ i (by simp[Op.operands]),hs];simp only[he,aM,hz,ab];exact hk
  ·rename_i n e he
   obtain⟨sz,aM,h⟩:=aH h
   obtain⟨j,hj,h⟩:=aH h
   split at h
   ·rename_i b off hy
    refine⟨_,none,h,.none,tR (x:=x) (by simp[ho,Op.operands]) (by simp[addrOf,ho]) (fun _ h=>by rw[hy]at h;exact .p _ _ h.mE),fun ρ' b' k' hρ _ hk=>?_⟩
    simp only[cT,ho];rw[hρ x (by simp[Op.operands]),hρ i (by simp[Op.operands])];simp only[he,aM,hj,ab,hy];exact hk
   ·rename_i y hy
    obtain⟨z,hz,h⟩:=aH h
    refine⟨_,none,h,.none,iM,fun ρ' b' k' hρ _ hk=>?_⟩
    simp only[cT,ho];rw[hρ x (by simp[Op.operands]),hρ i (by simp[Op.operands])];simp only[he,aM,hj,ab,hy,hz];exact hk
   ·exact h.elim
  ·exact h.elim
 case index t x i=>
  split at h
  ·rename_i n e he
   obtain⟨ly,lC,h⟩:=aH h
   obtain⟨z,hz,h⟩:=aH h
   refine⟨_,none,h,.none,iM,fun ρ' b' k' hρ _ hk=>?_⟩
   simp only[cT,ho];rw[hρ x (by simp[Op.operands]),hρ i (by simp[Op.operands])];simp only[he,lC,hz,ab];exact hk
  ·rename_i he
   obtain⟨z,hz,h⟩:=aH h
   refine⟨_,none,h,.none,iM,fun ρ' b' k' hρ _ hk=>?_⟩
   simp only[cT,ho];rw[hρ x (by simp[Op.operands]),hρ i (by simp[Op.operands])];simp only[he,hz,ab];exact hk
  ·exact h.elim
 case extract x i=>
  split at h
  ·rename_i vs hs
   split at h
   ·rename_i r hr
    refine⟨_,none,h,.none,iM,fun ρ' b' k' hρ _ hk=>?_⟩
    simp only[cT,ho];rw[hρ x (by simp[Op.operands]),hs];simp only[hr];exact hk
   ·exact h.elim
  ·exact h.elim
 case lookup t m x LJ=>
  obtain⟨et,het,h⟩:=aH h
  obtain⟨z,hz,h⟩:=aH h
  obtain⟨r,hr,h⟩:=aH h
  have Tx:∀{U b'},vw id false o U ρ aA b'→rC et.2 z (u5 b' (ρ m)) (ρ x).bP =some r:=by
   intro U b' hS
   have h3:=(hS.mem (by simp[ik,ho]) m (by simp[ho,Op.operands])).2.2
   cases hs:ρ m with
   |m b=>
    rw[hs]at hr
    simp only[u5]at hr ⊢
    cases hb:aA[b]? with
    |none=>rw[hb]at hr;cases hr
    |some bx=>
     rw[hb]at hr
     cases bx with
     |map l=>simp only[(h3 b l hs).2 hb];exact hr
     |_=>cases hr
   |_=>rw[hs]at hr;exact hr
  cases LJ with
  |true=>
   refine⟨_,none,h,.none,Gj (fun _=>.t _),fun ρ' b' k' hρ hS hk=>?_⟩
   simp only[cT,ho];rw[hρ m (by simp[Op.operands]),hρ x (by simp[Op.operands])];simp only[het,hz,Tx hS,ab];exact hk
  |false=>
   refine⟨_,none,h,.none,iM,fun ρ' b' k' hρ hS hk=>?_⟩
   simp only[cT,ho];rw[hρ m (by simp[Op.operands]),hρ x (by simp[Op.operands])];simp only[het,hz,Tx hS,ab];exact hk
 case makeSlice t n c=>
  obtain⟨e',he,h1⟩:=aH h
  obtain⟨sz,aM,h2⟩:=aH h1
  obtain⟨cP,lz,h3⟩:=aH h2
  obtain⟨z,hz,h4⟩:=aH h3
  cases dm:(Nat.beq sz 1&&Nat.blt 0 cP)with
  |false=>rw[dm]at h4;exact h4.elim
  |true=>
   rw[dm,cond_true]at h4
   obtain⟨m,hm,hb,hk⟩:=aH h4
   refine⟨_,none,hk,.none,iM,fun ρ' b' k' hρ _ hk=>?_⟩
   simp only[cT,ho];rw[hρ n (by simp[Op.operands]),hρ c (by simp[Op.operands])];simp only[he,aM,lz,hz,dm,cond_true,hm,ab];exact⟨hb,hk⟩
 case makeMap t hn=>
  split at h
  ·rename_i fl
   refine⟨_,some (id,_),h,.mk _ (by simp[gk,ho]) fl (by simp),Gi (by simp[gk,ho]),fun ρ' b' k' hρ hS hk=>?_⟩
   simp only[cT,ho,hS.fresh (by simp[gk,ho]) (by simp)];exact hk
  ·exact h.elim
 case mapUpdate t m x y=>
  obtain⟨et,het,h1⟩:=aH h
  split at h1
  ·rename_i b hm hd
   split at h1
   ·rename_i l hb
    obtain⟨n,hn,h2⟩:=aH h1
    obtain⟨d,jm,pH⟩:=aH h2
    obtain⟨l',ic,hk⟩:=aH pH
    refine⟨_,some (b,_),hk,.wr b _ _ (by simp[ik,ho]) (.inl (by simp[js,ho])) m (by simp[ho,Op.operands]) 0 (.inr hm) hb (by simp) (by simp[af.isMap]) (fun h=>by cases h) (fun t' y' z' h=>by rw[ho]at h;cases h),(fun K B Bv hρ' _ _=>⟨fun _=>by first|exact .t _|exact .v _,fun _ _ h=>by cases h⟩),fun ρ' b' k' hρ hS hk=>?_⟩
    have h3:=((hS.mem (by simp[ik,ho]) m (by simp[ho,Op.operands])).2.2 b l hm).2 hb
    simp only[cT,ho,het,ab];rw[hρ m (by simp[Op.operands]),hρ x (by simp[Op.operands]),hρ y (by simp[Op.operands]),hm,hd];simp only[h3,hn,jm,ic];exact hk
   ·exact h1.elim
  ·exact h1.elim
 case call c=>
  have eI:∀{U ρ' b'},(∀x∈(Op.call c).operands,ρ' x=ρ x)→vw id false o U ρ aA b'→iI b' ρ' c.args.toList=iI aA ρ c.args.toList:=fun{U ρ' b'}hρ hS=>
   HM fun x hx=>by
    have hm:x∈(Op.call c).operands :=by
     simp only[Op.operands,Call.operands,Array.mem_append];exact .inr (by simpa using hx)
    rw[hρ x hm]
    exact(hS.mem (by simp[ik,ho]) x (by rw[ho];exact hm)).2.1 6
  have ef:∀x,x∈c.args.toList→x∈(Op.call c).operands :=fun x hx=>by
   simp only[Op.operands,Call.operands,Array.mem_append];exact .inr (by simpa using hx)
  split at h
  ·rename_i f hc
   have hf:f∈(Op.call c).operands :=by simp[Op.operands,Call.operands,hc]
   split at h
   ·rename_i s hs
    obtain⟨f',l,hK,LK⟩:=Wi h
    obtain⟨r,hk,lA,hr⟩:=Ia hK
    refine⟨_,none,hk,.none,Gj lA,fun ρ' b' k' hρ hS hk=>?_⟩
    simp only[cT,ho,hc]
    rw[hρ f hf,hs]
    simp only[eI hρ hS]
    exact LK _ (hr _ _ hk)
   ·rename_i g' first cap hs
    obtain⟨r,hk,lA,hr⟩:=Ia h
    refine⟨_,none,hk,.none,Gj lA,fun ρ' b' k' hρ hS hk=>?_⟩
    simp only[cT,ho,hc]
    rw[hρ f hf,hs]
    simp only[eI hρ hS]
    have kp:=(hS.mem (by simp[ik,ho]) f (by rw[ho];exact hf)).2.1
    rw[hs]at kp
    obtain⟨e1,e2⟩:=aat kp
    rw[e1,e2]
    exact hr _ _ hk
   ·exact h.elim
  ·rename_i recv name hc
   have hf:recv∈(Op.call c).operands :=by simp[Op.operands,Call.operands,hc]
   split at h
   ·rename_i s hs
    obtain⟨f',l,hK,LK⟩:=VI h
    obtain⟨r,hk,lA,hr⟩:=Ia hK
    refine⟨_,none,hk,.none,Gj lA,fun ρ' b' k' hρ hS hk=>?_⟩
    simp only[cT,ho,hc]
    rw[hρ recv hf,hs]
    simp only[eI hρ hS]
    exact LK _ (hr _ _ hk)
   ·exact h.elim
  ·rename_i b hc
   split at h
   ·rename_i x xs t ts hx ht
    cases hs:ρ x with
    |a b n=>
     rw[hs]at h
     cases jI:isSlice P t with
     |false=>rw[jI]at h;exact h.elim
     |true=>
      rw[jI]at h
      refine⟨_,none,h,.none,iM,fun ρ' b' k' hρ hS hk=>?_⟩
      simp only[cT,ho,hc,hx,ht]
      rw[hρ x (ef x (by simp[hx])),hs];simp only[jI,cond_true];exact hk
    |_=>
     rw[hs]at h
     obtain⟨z,hz,h⟩:=aH h
     refine⟨_,none,h,.none,iM,fun ρ' b' k' hρ hS hk=>?_⟩
     simp only[cT,ho,hc,hx,ht]
     rw[hρ x (ef x (by simp[hx])),hs];simp only[hz,ab];exact hk
   ·rename_i x y t u hx ht
    cases sq:Nat.beq t u with
    |false=>rw[sq]at h;exact h.elim
    |true=>
     rw[sq]at h
     simp only[cond_true]at h
     obtain⟨e',he,h⟩:=aH h
     obtain⟨sz,aM,h⟩:=aH h
     obtain⟨cP,lz,h⟩:=aH h
     obtain⟨z,hz,h⟩:=aH h
     cases dm:(Nat.blt 0 cP&&Nat.blt 0 sz&&Nat.beq z.length sz)with
     |false=>rw[dm]at h;exact h.elim
     |true=>
      rw[dm]at h
      obtain⟨r,hr,hb,h⟩:=aH h
      refine⟨_,none,h,.none,iM,fun ρ' b' k' hρ hS hk=>?_⟩
      simp only[cT,ho,hc,hx,ht]
      rw[hρ x (ef x (by simp[hx])),hρ y (ef y (by simp[hx]))]
      simp only[sq,cond_true,he,aM,lz,hz,ab,dm,bI,hr];exact⟨hb,hk⟩
   ·rename_i x xs hx
    obtain⟨z,hz,h⟩:=aH h
    refine⟨_,none,h,.none,iM,fun ρ' b' k' hρ hS hk=>?_⟩
    have e1:(xs.map fun y=>(ρ' y).bP)=xs.map fun y=>(ρ y).bP :=List.map_congr_left fun y hy=>by rw[hρ y (ef y (by simp[hx,hy]))]
    simp only[cT,ho,hc,hx]
    rw[hρ x (ef x (by simp[hx])),e1,hz];exact hk
   ·rename_i x xs hx
    obtain⟨z,hz,h⟩:=aH h
    refine⟨_,none,h,.none,iM,fun ρ' b' k' hρ hS hk=>?_⟩
    have e1:(xs.map fun y=>(ρ' y).bP)=xs.map fun y=>(ρ y).bP :=List.map_congr_left fun y hy=>by rw[hρ y (ef y (by simp[hx,hy]))]
    simp only[cT,ho,hc,hx]
    rw[hρ x (ef x (by simp[hx])),e1,hz];exact hk
   ·exact h.elim
 all_goals exact h.elim
end
end Go.Proofs.Ytimbllcalipehaa.Ab
namespace Go.Proofs.Ytimbllcalipehaa.Ab
open Go Go.RowKit
def fin(o:Oper)(src:Option (Nat×Slot))(s:Slot)(U:Option (Nat×af))(e:Env):Env:=⟨cq (jf src e.ai) o.dst s,lD U e.boxes⟩
section
variable{P:Program}{gl:Nat→Option D}{C:bl}
def fZ(gl:Nat→Option D)(e:Env)(x:Operand):Slot:=(Ab.aV gl e x).aa
theorem oV{o:Oper}{t:Nat}(h:Operand.tmp t∈o.op.operands):t∈tmpsOf o:=List.mem_filterMap.2 ⟨.tmp t,by simpa using h,rfl⟩
theorem uE{e e':Env}{o:Oper}(h:∀t∈tmpsOf o,e'.ai.getD t (.v .undef)=e.ai.getD t (.v .undef)){x:Operand}(hx:x∈o.op.operands):Ab.aV gl e' x=Ab.aV gl e x:=by
 cases x with
 |tmp t=>exact h t (oV hx)
 |_=>rfl
theorem HN(s:Slot):s.aa.stays=s.stays:=by cases s<;>rfl
theorem Jq(x:SV):Ab.aa (Ab.aa x)=Ab.aa x:=by cases x<;>rfl
theorem Wj{cs:List SV}{off:Nat}{y:SV}(hy:cs[off]? =some y):cs.map Ab.aa=(cs.set off (Ab.aa y)).map Ab.aa:=by
 apply List.ext_getElem?
 intro i
 rw[List.getElem?_map,List.getElem?_map,List.getElem?_set]
 by_cases h:off=i
 ·subst h
  obtain⟨hl,hq⟩:=List.getElem?_eq_some_iff.1 hy
  simp[hl,hq,Jq]
 ·simp[h]
theorem XW{aA:List af}{b:Nat}{cs eK:List SV}(hb:aA[b]? =some (.cells cs))(h:cs.map Ab.aa=eK.map Ab.aa):∀(n:Nat)(s:Slot),snap (aA.set b (.cells eK)) n s=snap aA n s:=by
 intro n
 induction n with
 |zero=>intro s;rfl
 |succ n ih=>
  intro s
  have hf:snap (aA.set b (.cells eK)) n=snap aA n:=funext ih
  cases s with
  |v x=>rfl
  |a b2 _ _=>
   simp only[snap]
   by_cases h2:b=b2
   ·subst h2
    rw[List.getElem?_set_self (List.getElem?_eq_some_iff.1 hb).1,hb]
    simp only[h]
   ·rw[List.getElem?_set_ne h2]
  |m _=>rfl
  |p b2 off=>
   simp only[snap]
   by_cases h2:b=b2
   ·subst h2
    rw[List.getElem?_set_self (List.getElem?_eq_some_iff.1 hb).1,hb]
    simp only[h]
   ·rw[List.getElem?_set_ne h2,hf]
  |c f first cap=>simp only[snap,hf]
  |t l=>rfl
theorem Pf{w:Bool}(hw:w=true){aA:List af}{b:Nat}{gC bx:af}(hb:aA[b]? =some gC)(h:∃cs eK,gC=.cells cs∧bx=.cells eK∧cs.map Ab.aa=eK.map Ab.aa)(s:Slot):lR w s aA (aA.set b bx):=by
 obtain⟨cs,eK,rfl,rfl,hm⟩:=h
 refine⟨fun b2 off hs=>⟨?_,fun h=>by rw[hw]at h;cases h⟩,fun n=>XW hb hm n s,fun b2 l _=>?_⟩
 rotate_left
 ·by_cases h2:b=b2
  ·subst h2
   rw[List.getElem?_set_self (List.getElem?_eq_some_iff.1 hb).1,hb]
   simp
  ·rw[List.getElem?_set_ne h2]
 by_cases h2:b=b2
 ·subst h2
  rw[List.getElem?_set_self (List.getElem?_eq_some_iff.1 hb).1,hb]
  exact .inr ⟨eK,cs,rfl,rfl,hm.symm⟩
 ·rw[List.getElem?_set_ne h2]
  exact .refl _
def Dh(gl:Nat→Option D)(aE:Bool)(o:Oper)(e:Env)(src:Option (Nat×Slot))(s:Slot)(U:Option (Nat×af)):Prop:=
 ∀(K B:Nat→Prop),(∀b,K b→B b)→(∀x∈o.op.operands,(aE=false→addrOf o≠some x)→du K (fZ gl e x))→(∀t x y,o.op=.store t x y→du K (fZ gl e y))→
  (∀b s,B b→e.boxes[b]? =some (.one s)→du K s)→gk o=false→du K s∧(∀t d,src=some (t,d)→du K d)∧∀b s',U=some (b,.one s')→du K s'
theorem Ru{o:Oper}{e:Env}{x:SV}{U:Option (Nat×af)}(hU:∀b s',U≠some (b,.one s')):Dh gl true o e none (.v x) U:=fun _ _ _ _ _ _ _=>⟨.v _,fun _ _ h=>(by cases h),fun b s' h=>absurd h (hU b s')⟩
theorem JT{o:Oper}{e:Env}{t:Nat}{s:Slot}(ht:Operand.tmp t∈o.op.operands)(hs:∀K,du K (e.ai.getD t (.v .undef))→du K s):Dh gl true o e (some (t,(e.ai.getD t (.v .undef)).aa)) s none:=fun K _ _ h _ _ _=>by
 have h1:du K (e.ai.getD t (.v .undef)).aa :=h (.tmp t) ht (fun h=>by cases h)
 exact⟨hs K h1.ad7,fun t' d hd=>by cases hd;exact h1,fun _ _ h=>by cases h⟩
theorem Rv:∀{rs:List SV}{k:List SV→Prop},k rs→xv rs.length k
 |[],_,h=>h
 |r::rs,k,h=>⟨r,Rv (rs:=rs) (k:=fun l=>k (r::l)) h⟩
theorem Xa{id:Nat}{o:Oper}{e:Env}{k:Env→Prop}(h:lb P gl C o e k):
  ∃src s U,k (fin o src s U e)∧va id o true (fZ gl e) e.boxes U∧Dh gl true o e src s U∧(∀t d,src=some (t,d)→t∈tmpsOf o∧d.stays=(e.ai.getD t (.v .undef)).stays)∧
   ∀(e':Env)(k':Env→Prop),(∀t∈tmpsOf o,e'.ai.getD t (.v .undef)=e.ai.getD t (.v .undef))→vw id true o U (fZ gl e) e.boxes e'.boxes→k' (fin o src s U e')→lb P gl C o e' k':=by
 unfold lb at h
 split at h
 ·rename_i t ho
  refine⟨some (t,_),_,none,h,.none,JT (by rw[ho];simp[Op.operands]) (fun _ h=>h),fun t' d hd=>by cases hd;exact⟨oV (by rw[ho];simp[Op.operands]),HN _⟩,fun e' k' hl _ hk=>?_⟩
  simp only[lb,ho];rw[hl t (oV (by rw[ho];simp[Op.operands]))];exact hk
 ·rename_i t ho
  refine⟨some (t,_),_,none,h,.none,JT (by rw[ho];simp[Op.operands]) (fun _ h=>h),fun t' d hd=>by cases hd;exact⟨oV (by rw[ho];simp[Op.operands]),HN _⟩,fun e' k' hl _ hk=>?_⟩
  simp only[lb,ho];rw[hl t (oV (by rw[ho];simp[Op.operands]))];exact hk
 ·rename_i t i ho
  split at h
  ·rename_i vs hs
   split at h
   ·rename_i r hr
    refine⟨some (t,_),_,none,h,.none,(fun K _ _ _ _ _ _=>⟨.v _,fun t' d hd=>by cases hd;exact .t _,fun _ _ h=>by cases h⟩),fun t' d hd=>by cases hd;exact⟨oV (by rw[ho];simp[Op.operands]),by rw[hs];rfl⟩,fun e' k' hl _ hk=>?_⟩
    simp only[lb,ho];rw[hl t (oV (by rw[ho];simp[Op.operands])),hs];simp only[hr];exact hk
   ·exact h.elim
  ·exact h.elim
 ·rename_i ty x ho
  split at h
  ·rename_i b off hs
   obtain⟨ly,hl,h⟩:=aH h
   cases lC:ly.1 with
   |true=>rw[lC]at h;exact h.elim
   |false=>
    rw[lC]at h
    simp only[cond_false]at h
    split at h
    ·rename_i cs bS
     obtain⟨y,hy,h⟩:=aH h
     refine⟨none,_,some (b,_),h,.wr b _ _ (by simp[ik,ho]) (.inr rfl) x (by rw[ho];simp[Op.operands]) off (.inl hs) bS (by simp) (by simp[af.isMap]) (fun _ _=>⟨cs,_,rfl,rfl,Wj hy⟩) (fun t' y' z' h=>by rw[ho]at h;cases h),Ru (by simp),fun _ _ h=>(by cases h),fun e' k' nr hS hk=>?_⟩
     have hb:=((hS.mem (by simp[ik,ho]) x (by rw[ho];simp[Op.operands])).1 b off hs).2 (by simp)
     simp only[lb,ho,hl,ab,lC,cond_false]
     rw[uE nr (x:=x) (by rw[ho];simp[Op.operands]),hs]
     simp only[hb,bS,hy];exact hk
    ·exact h.elim
  ·exact h.elim
 ·rename_i ty x t ho
  split at h
  ·rename_i b off y hs hy hd
   obtain⟨sz,aM,h⟩:=aH h
   cases hb:Nat.beq sz 1 with
   |false=>rw[hb]at h;exact h.elim
   |true=>
    rw[hb]at h
    simp only[cond_true]at h
    split at h
    ·rename_i cs bS
     obtain⟨l,hl,h1,h2,h⟩:=aH h
     refine⟨some (t,.v (aa y)),.t [],some (b,.cells (setAt cs off l)),?_,.wr b _ _ (by simp[ik,ho]) (.inr rfl) x (by rw[ho];simp[Op.operands]) off (.inl hs) bS (by simp) (by simp[af.isMap]) (fun _ h=>by simp[js,ho]at h) (fun t' y' z' h=>by rw[ho]at h;cases h;rfl),(fun K _ _ _ _ _ _=>⟨.t _,fun t' d hd=>by cases hd;exact .v _,fun _ _ h=>by cases h⟩),fun t' d hd=>by cases hd;exact⟨oV (by rw[ho];simp[Op.operands]),by rw[hy];rfl⟩,fun e' k' nr hS hk=>?_⟩
     ·simp only[fin,hd,cq,jf,lD];exact h
     ·have eh:=((hS.mem (by simp[ik,ho]) x (by rw[ho];simp[Op.operands])).1 b off hs).2 (by simp)
      simp only[fin,hd,cq,jf,lD]at hk
      simp only[lb,ho]
      rw[uE nr (x:=x) (by rw[ho];simp[Op.operands]),hs,nr t (oV (by rw[ho];simp[Op.operands])),hy,hd]
      simp only[aM,ab,hb,cond_true,eh,bS,hl];exact⟨h1,h2,hk⟩
    ·exact h.elim
  ·exact h.elim
 ·rename_i t n ps ho
  obtain⟨e',he,h1⟩:=aH h
  obtain⟨ly,lC,h2⟩:=aH h1
  obtain⟨z,hz,h3⟩:=aH h2
  obtain⟨l,hl,h4⟩:=aH h3
  cases hc:(Nat.ble (n*ly.2) (2^24)&&Nat.blt 0 ly.2&&Nat.beq z.length ly.2)with
  |false=>rw[hc]at h4;exact h4.elim
  |true=>
   rw[hc,cond_true]at h4
   refine⟨none,_,none,h4.2,.none,Ru (by simp),fun _ _ h=>(by cases h),fun e2 k' nr hS hk=>?_⟩
   have hpd:od (fun x=>(Ab.aV gl e2 x).aa) ps.toList=some l:=
    (EF (fun p hp=>by
      have hm:p.2∈o.op.operands:=by rw[ho];simp only[Op.operands,List.mem_toArray,List.mem_map];exact⟨p,hp,rfl⟩
      show(Ab.aV gl e2 p.2).aa =(Ab.aV gl e p.2).aa
      rw[uE nr hm])).trans hl
   simp only[lb,ho,he,lC,hz,hpd,hc,cond_true,ab];exact⟨h4.1,hk⟩
 ·rename_i c ho
  split at h
  ·rename_i t y ty u hc hx ht
   have kS:Operand.tmp t∈o.op.operands:=by
    rw[ho];simp only[Op.operands,Call.operands,Array.mem_append];exact .inr (by rw[←Array.mem_toList_iff,hx];simp)
   have xG:y∈o.op.operands:=by
    rw[ho];simp only[Op.operands,Call.operands,Array.mem_append];exact .inr (by rw[←Array.mem_toList_iff,hx];simp)
   cases sq:Nat.beq ty u with
   |false=>rw[sq]at h;exact h.elim
   |true=>
    rw[sq]at h
    simp only[cond_true]at h
    obtain⟨e',he,h⟩:=aH h
    obtain⟨sz,aM,h⟩:=aH h
    obtain⟨cP,lz,h⟩:=aH h
    obtain⟨z,hz,h⟩:=aH h
    cases dm:(Nat.blt 0 cP&&Nat.blt 0 sz&&Nat.beq z.length sz)with
    |false=>rw[dm]at h;exact h.elim
    |true=>
     rw[dm]at h
     obtain⟨r,hr,hb,h⟩:=aH h
     refine⟨some (t,_),_,none,h,.none,JT kS (fun _ _=>.v _),fun t' d hd=>by cases hd;exact⟨oV kS,HN _⟩,fun e' k' nr hS hk=>?_⟩
     simp only[lb,ho,hc,hx,ht]
     rw[nr t (oV kS),uE nr xG]
     simp only[sq,cond_true,he,aM,lz,hz,ab,dm,bI,hr];exact⟨hb,hk⟩
  ·rename_i f hc
   split at h
   ·rename_i t g' hp hg
    split at h
    ·rename_i y hy
     have ef:∀x∈c.args.toList,x∈o.op.operands:=fun x hx=>by
      rw[ho];simp only[Op.operands,Call.operands,Array.mem_append];exact .inr (Array.mem_toList_iff.1 hx)
     have kS:Operand.tmp t∈o.op.operands:=ef _ (List.mem_of_getElem? hp)
     have hmf:f∈o.op.operands:=by
      rw[ho];simp only[Op.operands,Call.operands,hc,Array.mem_append];left;simp
     obtain⟨rs,hlen,bk,hC,hd,hk⟩:=Ct h
     refine⟨some (t,.v bk),yV rs,none,hk,.none,(fun K _ _ _ _ _ _=>⟨(by unfold yV;split<;>constructor),fun t' d hd=>by cases hd;exact .v _,fun _ _ h=>by cases h⟩),fun t' d hd=>by cases hd;exact⟨oV kS,by rw[hy];rfl⟩,fun e' k' nr hS hk=>?_⟩
     have eI:iI e'.boxes (fun x=>(Ab.aV gl e' x).aa) c.args.toList=iI e.boxes (fun x=>(Ab.aV gl e x).aa) c.args.toList:=HM fun x hx=>by
      rw[uE nr (ef x hx)]
      exact(hS.mem (by simp[ik,ho]) x (ef x hx)).2.1 6
     simp only[lb,ho,hc]
     rw[hp,uE nr hmf,hg]
     simp only[]
     rw[nr t (oV kS),hy,eI]
     simp only[]
     rw[←hlen]
     exact Rv ⟨bk,hC,hd,hk⟩
    ·exact h.elim
   ·exact h.elim
  ·exact h.elim
 ·exact h.elim
theorem XX{id:Nat}{aE:Bool}{o:Oper}{e:Env}{k:Env→Prop}(h:m7 P gl C id aE o e k):
  ∃src s U,k (fin o src s U e)∧va id o aE (fZ gl e) e.boxes U∧Dh gl aE o e src s U∧(∀t d,src=some (t,d)→aE=true∧t∈tmpsOf o∧d.stays=(e.ai.getD t (.v .undef)).stays)∧
   ∀(e':Env)(k':Env→Prop),(∀t∈tmpsOf o,e'.ai.getD t (.v .undef)=e.ai.getD t (.v .undef))→vw id aE o U (fZ gl e) e.boxes e'.boxes→k' (fin o src s U e')→m7 P gl C id aE o e' k':=by
 unfold m7 at h
 cases aE<;>simp only[cond_true,cond_false]at h
 ·obtain⟨s,U,hk,hu,lA,hs⟩:=Y5 h
  refine⟨none,s,U,hk,hu,fun K B Bv h1 h2 h3 h4=>⟨(lA K B Bv (fun x hx ha=>h1 x hx fun _=>ha) h2 h3).1 h4,fun _ _ h=>(by cases h),fun b s' hU=>(lA K B Bv (fun x hx ha=>h1 x hx fun _=>ha) h2 h3).2 b s' hU h4⟩,fun t d h=>(by cases h),?_⟩
  intro e' k' hl hS hk
  unfold m7
  simp only[cond_false]
  exact hs _ _ _ (fun x hx=>by rw[uE hl hx]) hS hk
 ·obtain⟨src,s,U,hk,hu,lA,xH,hs⟩:=Xa (id:=id) h
  refine⟨src,s,U,hk,hu,lA,fun t d h=>⟨rfl,xH t d h⟩,fun e' k' hl hS hk=>?_⟩
  unfold m7
  simp only[cond_true]
  exact hs e' k' hl hS hk
def rL(all:List Oper)(o:Oper)(e:Env):Option Bool:=match o.guard with
 |none=>some true
 |some (j,want)=>(match(match all[j]? with|some g=>g.dst|none=>none)with
  |some t=>(match e.ai.getD t (.v .undef)with
   | .v (.d (.bool c))=>some (c==want)
   | .t _=>some false
   |_=>none)
  |none=>none)
theorem uF{e:Env}{t:Nat}{c:Bool}(h:e.ai.getD t (.v .undef)=.v (.d (.bool c))):e.xb t c=e:=by
 unfold Env.xb
 rcases Nat.lt_or_ge t e.ai.length with hl|hl
 ·rw[List.getD_eq_getElem?_getD,List.getElem?_eq_getElem hl]at h
  simp only[Option.getD_some]at h
  rw[←h,List.set_getElem_self]
 ·rw[List.getD_eq_getElem?_getD,List.getElem?_eq_none hl]at h
  simp at h
theorem Ag{all:List Oper}{o:Oper}{e:Env}{A B:Env→Prop}:yF all o e A B↔(match rL all o e with|some true=>A e|some false=>B e|none=>False):=by
 unfold yF rL
 cases hg:o.guard with
 |none=>exact Iff.rfl
 |some p=>
  obtain⟨j,want⟩:=p
  simp only
  cases hj:all[j]? with
  |none=>exact Iff.rfl
  |some q=>
   simp only
   cases hq:q.dst with
   |none=>exact Iff.rfl
   |some t=>
    simp only
    cases hx:e.ai.getD t (.v .undef)with
    |v x=>
     cases x with
     |d y=>
      cases y with
      |bool c=>
       have h1:=uF hx
       simp only[ar]
       cases c<;>cases want<;>simp[h1]
      |_=>exact Iff.rfl
     |_=>exact Iff.rfl
    |_=>exact Iff.rfl
def m5(P:Program)(gl:Nat→Option D)(C:bl)(all:List Oper)(id:Nat)(aE:Bool)(o:Oper)(e:Env)(k:Env→Prop):Prop:=
 yF all o e (fun e'=>m7 P gl C id aE o e' k) (fun e'=>k ⟨cq e'.ai o.dst (.t []),e'.boxes⟩)
structure Out(P:Program)(gl:Nat→Option D)(C:bl)(ops:Array Oper)(id:Nat)(aE:Bool)(o:Oper)(e:Env)(src:Option (Nat×Slot))(s:Slot)(U:Option (Nat×af)):Prop where
 uf:va id o aE (fZ gl e) e.boxes U
 y3:∀t d,src=some (t,d)→aE=true∧t∈tmpsOf o
 KP:∀(e':Env)(k':Env→Prop),(∀t∈o.looksAt ops,e'.ai.getD t (.v .undef)=e.ai.getD t (.v .undef))→vw id aE o U (fZ gl e) e.boxes e'.boxes→k' (fin o src s U e')→m5 P gl C ops.toList id aE o e' k'
theorem Pg{ops:Array Oper}{o:Oper}{e e':Env}(h:∀t∈o.looksAt ops,e'.ai.getD t (.v .undef)=e.ai.getD t (.v .undef)):rL ops.toList o e'=rL ops.toList o e:=by
 unfold rL
 split
 ·rfl
 ·rename_i j want hg
  split
  ·rename_i t ht
   have hm:t∈o.looksAt ops:=by
    refine List.mem_append_right _ ?_
    rw[hg]
    simp only[Option.mem_toList]
    rw[Array.getElem?_toList]at ht
    cases hj:ops[j]? with
    |none=>rw[hj]at ht;cases ht
    |some g=>rw[hj]at ht;exact ht
   rw[h t hm]
  ·rfl
theorem Ib{ops:Array Oper}{o:Oper}{t:Nat}(h:t∈tmpsOf o):t∈o.looksAt ops:=List.mem_append_left _ h
theorem x7{ops:Array Oper}{id:Nat}{aE:Bool}{o:Oper}{e:Env}{k:Env→Prop}(h:m5 P gl C ops.toList id aE o e k):∃src s U,k (fin o src s U e)∧Out P gl C ops id aE o e src s U∧(∀t d,src=some (t,d)→d.stays=(e.ai.getD t (.v .undef)).stays)∧Dh gl aE o e src s U∧(rL ops.toList o e=some true∨(o.guard≠none∧s=.t []∧src=none∧U=none)):=by
 have h':=Ag.1 h
 split at h'
 ·rename_i hg
  obtain⟨src,s,U,hk,hu,lA,xH,hs⟩:=XX h'
  refine⟨src,s,U,hk,⟨hu,fun t d h=>⟨(xH t d h).1,(xH t d h).2.1⟩,fun e' k' hl hS hk=>?_⟩,fun t d h=>(xH t d h).2.2,lA,.inl hg⟩
  refine Ag.2 ?_
  rw[Pg hl,hg]
  exact hs e' k' (fun t ht=>hl t (Ib ht)) hS hk
 ·rename_i hg
  refine⟨none,.t [],none,h',⟨.none,fun t d h=>(by cases h),?_⟩,fun t d h=>(by cases h),fun K B _ _ _ _ _=>⟨.t _,fun _ _ h=>(by cases h),fun _ _ h=>(by cases h)⟩,.inr ⟨fun hn=>?_,rfl,rfl,rfl⟩⟩
  rotate_left
  ·unfold rL at hg;rw[hn]at hg;cases hg
  intro e' k' hl hS hk
  refine Ag.2 ?_
  rw[Pg hl,hg]
  exact hk
 ·exact h'.elim
theorem NM{o:Oper}(h:gk o=true):ik o=false:=by
 unfold gk at h
 unfold ik
 split at h
 ·rename_i ho;simp[ho]
 ·rename_i ho;simp[ho]
 ·rename_i ho;simp[ho]
 ·cases h
theorem lR.refl{q:Bool}(s:Slot)(b:List af):lR q s b b:=⟨fun _ _ _=>⟨.refl _,fun _=>rfl⟩,fun _=>rfl,fun _ _ _=>Iff.rfl⟩
theorem lR.trans{q:Bool}{s:Slot}{a b c:List af}(h:lR q s a b)(k:lR q s b c):lR q s a c:=
 ⟨fun x off hx=>⟨(k.1 x off hx).1.trans (h.1 x off hx).1,fun hq=>((k.1 x off hx).2 hq).trans ((h.1 x off hx).2 hq)⟩,fun n=>(k.2.1 n).trans (h.2.1 n),fun b l hs=>(k.2.2 b l hs).trans (h.2.2 b l hs)⟩
theorem lR.symm{q:Bool}{s:Slot}{a b:List af}(h:lR q s a b):lR q s b a:=⟨fun x off hx=>⟨(h.1 x off hx).1.symm,fun hq=>((h.1 x off hx).2 hq).symm⟩,fun n=>(h.2.1 n).symm,fun b l hs=>(h.2.2 b l hs).symm⟩
theorem Out.ab0{ops:Array Oper}{id:Nat}{aE:Bool}{o:Oper}{e:Env}{src:Option (Nat×Slot)}{s:Slot}{U:Option (Nat×af)}(h:Out P gl C ops id aE o e src s U)
  (hm:gk o=true)(hU:U≠none):∃bx,U=some (id,bx)∧bx≠.none ∧e.boxes[id]? =some .none :=by
 cases h.uf with
 |none=>exact absurd rfl hU
 |mk bx _ hn hb=>exact⟨bx,rfl,hb,hn⟩
 |wr b bx gC h'=>rw[NM hm]at h';cases h'
theorem Out.run{ops:Array Oper}{id:Nat}{aE:Bool}{o:Oper}{e:Env}{src:Option (Nat×Slot)}{s:Slot}{U:Option (Nat×af)}(h:Out P gl C ops id aE o e src s U){k:Env→Prop}
  (hk:k (fin o src s U e)):m5 P gl C ops.toList id aE o e k:=
 h.KP e k (fun _ _=>rfl) ⟨fun _ x _=>.refl _ _,fun hm hU=>(h.ab0 hm hU).choose_spec.2.2⟩ hk
def Good(gl:Nat→Option D)(e:Env):Prop:=∃w0 aq a w g,Inv gl w0 aq e a w g
theorem B1{w0:World}{aq:S0}{e:Env}{a:Act}{w:World}{g:Gh}(hI:Inv gl w0 aq e a w g){id:Nat}(fl:e.boxes[id]? =some .none)(bx:af):
  ∀(n:Nat){O:Nat→Nat→Nat→Nat→Prop}{s:Slot}{v:Value},bW w0.heap.size w g O s v→((∀b off,s=.p b off→b≠id)∧∀b,s=.m b→b≠id)∧snap (e.boxes.set id bx) n s=snap e.boxes n s:=by
 have bg:∀b an,g.bx[b]? =some (some an)→b≠id:=by
  rintro b an hb rfl
  exact hI.boxes b .none an fl hb
 have ns:∀{O:Nat→Nat→Nat→Nat→Prop}{s:Slot}{v:Value},bW w0.heap.size w g O s v→(∀b off,s=.p b off→b≠id)∧∀b,s=.m b→b≠id:=by
  intro O s v h
  refine⟨fun b off hs=>?_,fun b hs=>?_⟩
  ·subst hs
   obtain⟨an,_,hb⟩:=h.mE
   exact bg b an hb
  ·subst hs
   cases h with
   |m _ _ an hb=>exact bg b an hb
 intro n
 induction n with
 |zero=>
  intro O s v h
  exact⟨ns h,rfl⟩
 |succ n ih=>
  intro O s v h
  refine⟨ns h,?_⟩
  cases h with
  |v _ x _ h=>rfl
  |a _ b n' sz v hm hb=>
   obtain⟨an,cap,hb,_⟩:=hb
   simp only[snap]
   rw[List.getElem?_set_ne (fun h=>bg b an hb h.symm)]
  |m=>rfl
  |p _ b off an hb=>
   simp only[snap]
   rw[List.getElem?_set_ne (fun h=>bg b an hb h.symm)]
   cases dt:e.boxes[b]? with
   |none=>rfl
   |some bxv=>
    cases bxv with
    |none=>rfl
    |map l=>rfl
    |cells cs=>rfl
    |one s'=>
     simp only
     obtain⟨_,c,t,hc,_,aM,hr⟩:=hI.boxes b _ an dt hb
     have oP:c[0]? =some (c[0]'(by omega)):=by simp
     rw[(ih (hr _ oP)).2]
  |c _ f first cap fv cv hf hc rf rc=>
   simp only[snap]
   have Si:∀(l:List Slot)(vs:Array Value),l.length=vs.size→(∀(i:Nat)x v,l[i]? =some x→vs[i]? =some v→bW w0.heap.size w g (fun _ _ _ _=>False) x v)→
     ju (snap (e.boxes.set id bx) n) l=ju (snap e.boxes n) l:=by
    intro l vs hl hr
    apply List.ext_getElem?
    intro i
    rw[(z6 _ l).2,(z6 _ l).2]
    cases hi:l[i]? with
    |none=>rfl
    |some x=>
     have aK:i<vs.size:=by rw[←hl];exact(List.getElem?_eq_some_iff.1 hi).1
     simp only[Option.map_some]
     rw[(ih (hr i x vs[i] hi (by simp))).2]
   rw[Si first fv hf rf,Si cap cv hc rc]
  |t=>rfl
theorem Rw{q:Bool}{e:Env}(hG:Good gl e){id:Nat}(fl:e.boxes[id]? =some .none)(bx:af)(x:Operand):lR q (fZ gl e x) e.boxes (e.boxes.set id bx):=by
 obtain⟨w0,aq,a,w,g,hI⟩:=hG
 have h:=hI.aV x
 refine⟨fun b off hs=>?_,fun n=>(B1 hI fl bx n h).2,fun b l hs=>?_⟩
 ·have:=(B1 hI fl bx 0 h).1.1 b off hs
  rw[List.getElem?_set_ne (fun h=>this h.symm)]
  exact⟨.refl _,fun _=>rfl⟩
 ·have:=(B1 hI fl bx 0 h).1.2 b hs
  rw[List.getElem?_set_ne (fun h=>this h.symm)]
theorem Rx{e:Env}(hG:Good gl e){x:Operand}{b off:Nat}(hp:fZ gl e x=.p b off∨fZ gl e x=.m b):e.boxes[b]? ≠some .none :=by
 intro fl
 obtain⟨w0,aq,a,w,g,hI⟩:=hG
 rcases hp with hp|hp
 ·exact(B1 hI fl .none 0 (hI.aV x)).1.1 b off hp rfl
 ·exact(B1 hI fl .none 0 (hI.aV x)).1.2 b hp rfl
theorem eD{l:List Slot}{i j:Nat}{x d:Slot}(h:i≠j):(l.set i x).getD j d=l.getD j d:=by
 rw[List.getD_eq_getElem?_getD,List.getElem?_set_ne h,←List.getD_eq_getElem?_getD]
theorem PU{o:Oper}{aE:Bool}{src:Option (Nat×Slot)}{s:Slot}{U:Option (Nat×af)}{e:Env}(KQ:∀t d,src=some (t,d)→aE=true∧t∈tmpsOf o){t:Nat}(ht:t∉im aE o):
  (fin o src s U e).ai.getD t (.v .undef)=e.ai.getD t (.v .undef):=by
 have h1:∀d,o.dst=some d→d≠t:=fun d hd h=>ht (by subst h;simp[im,hd])
 have h2:∀u d,src=some (u,d)→u≠t:=fun u d hd h=>by
  obtain⟨h3,h4⟩:=KQ u d hd
  subst h
  exact ht (by simp[im,h3,h4])
 unfold fin cq jf
 simp only
 cases hd:o.dst with
 |none=>
  simp only
  cases hs:src with
  |none=>rfl
  |some p=>exact eD (h2 p.1 p.2 hs)
 |some d=>
  simp only
  rw[eD (h1 d hd)]
  cases hs:src with
  |none=>rfl
  |some p=>exact eD (h2 p.1 p.2 hs)
theorem my(l:List Slot){i j:Nat}(x y:Slot)(h:i≠j):(l.set i x).set j y=(l.set j y).set i x:=List.set_comm _ _ h
theorem Xb{ox oy:Oper}{lx ly:Bool}{sx sy:Option (Nat×Slot)}{rx ry:Slot}(hx:∀t d,sx=some (t,d)→lx=true∧t∈tmpsOf ox)(hy:∀t d,sy=some (t,d)→ly=true∧t∈tmpsOf oy)
  (hd:∀t,t∈im lx ox→t∉im ly oy)(l:List Slot):cq (jf sx (cq (jf sy l) oy.dst ry)) ox.dst rx=cq (jf sy (cq (jf sx l) ox.dst rx)) oy.dst ry:=by
 have a1:∀d,ox.dst=some d→d∈im lx ox:=fun d h=>by simp[im,h]
 have a2:∀d,oy.dst=some d→d∈im ly oy:=fun d h=>by simp[im,h]
 have a3:∀t d,sx=some (t,d)→t∈im lx ox:=fun t d h=>by obtain⟨h1,h2⟩:=hx t d h;simp[im,h1,h2]
 have a4:∀t d,sy=some (t,d)→t∈im ly oy:=fun t d h=>by obtain⟨h1,h2⟩:=hy t d h;simp[im,h1,h2]
 have ne:∀{s t:Nat},s∈im lx ox→t∈im ly oy→s≠t:=fun h1 h2 h=>hd _ h1 (h▸h2)
 cases DR:ox.dst with
 |none=>
  cases Bw:oy.dst with
  |none=>
   cases sx with
   |none=>rfl
   |some p=>
    cases sy with
    |none=>rfl
    |some q=>simp only[cq,jf];exact my _ _ _ (ne (a3 _ _ rfl) (a4 _ _ rfl)).symm
  |some d=>
   cases sx with
   |none=>rfl
   |some p=>
    cases sy with
    |none=>simp only[cq,jf];exact my _ _ _ (ne (a3 _ _ rfl) (a2 _ Bw)).symm
    |some q=>simp only[cq,jf];rw[my _ _ _ (ne (a3 _ _ rfl) (a2 _ Bw)).symm,my l _ _ (ne (a3 _ _ rfl) (a4 _ _ rfl)).symm]
 |some c=>
  cases Bw:oy.dst with
  |none=>
   cases sy with
   |none=>rfl
   |some q=>
    cases sx with
    |none=>simp only[cq,jf];exact my _ _ _ (ne (a1 _ DR) (a4 _ _ rfl)).symm
    |some p=>simp only[cq,jf];rw[my l _ _ (ne (a3 _ _ rfl) (a4 _ _ rfl)).symm,my _ _ _ (ne (a1 _ DR) (a4 _ _ rfl)).symm]
  |some d=>
   have um:=ne (a1 _ DR) (a2 _ Bw)
   cases sx with
   |none=>
    cases sy with
    |none=>simp only[cq,jf];exact my _ _ _ um.symm
    |some q=>simp only[cq,jf];rw[my _ _ _ um.symm,my l _ _ (ne (a1 _ DR) (a4 _ _ rfl)).symm]
   |some p=>
    cases sy with
    |none=>simp only[cq,jf];rw[my l _ _ (ne (a3 _ _ rfl) (a2 _ Bw)).symm,my _ _ _ um.symm]
    |some q=>
     simp only[cq,jf]
     rw[my _ _ _ (ne (a3 _ _ rfl) (a2 _ Bw)).symm,my l _ _ (ne (a3 _ _ rfl) (a4 _ _ rfl)).symm,my _ _ _ um.symm,my (l.set _ _) _ _ (ne (a1 _ DR) (a4 _ _ rfl)).symm]
structure F4(ops:Array Oper)(lx ly:Bool)(x y:Oper):Prop where
 d1:∀t∈im lx x,t∉y.looksAt ops
 d2:∀t∈im lx x,t∉im ly y
 d3:∀t∈im ly y,t∉x.looksAt ops
structure KR(lx ly:Bool)(x y:Oper):Prop where
 m1:¬(js x=true∧ik y=true)
 m2:¬(js y=true∧ik x=true)
 m3:¬(lx=true∧ly=true∧ik x=true∧ik y=true)
theorem XY{ops:Array Oper}{lx ly:Bool}{x y:Oper}(h:indep ops lx ly x y=true):F4 ops lx ly x y∧KR lx ly x y:=by
 simp only[indep,Bool.and_eq_true,List.all_eq_true,Bool.not_eq_true',List.contains_eq_mem,decide_eq_false_iff_not,Bool.and_eq_false_iff]at h
 obtain⟨⟨⟨⟨h1,h2⟩,h3⟩,h4⟩,h5⟩:=h
 refine⟨⟨fun t ht=>(h1 t ht).1,fun t ht=>(h1 t ht).2,fun t ht=>h2 t ht⟩,⟨?_,?_,?_⟩⟩
 ·rintro⟨a,b⟩;rcases h3 with h|h<;>simp_all
 ·rintro⟨a,b⟩;rcases h4 with h|h<;>simp_all
 ·rintro⟨a,b,c,d⟩;rcases h5 with((h|h)|h)|h<;>simp_all
def yO(gl:Nat→Option D)(lx:Bool)(x y:Oper)(e:Env):Prop:=(js x=true∨lx=true)→∀z∈x.op.operands,(∀t u v,x.op=.store t u v→z=u)→∀b off,(fZ gl e z=.p b off∨fZ gl e z=.m b)→
 (∀z'∈y.op.operands,∀q eu,lR q (fZ gl e z') e.boxes (e.boxes.set b eu))∧
 ∀z'∈y.op.operands,(∀t u v,y.op=.store t u v→z'=u)→∀pw,fZ gl e z'≠.p b pw∧fZ gl e z'≠.m b
theorem aau{ops:Array Oper}{ix iy:Nat}{lx ly:Bool}{x y:Oper}{e:Env}{sx sy:Option (Nat×Slot)}{rx ry:Slot}{Ux Uy:Option (Nat×af)}(hG:Good gl e)(hi:F4 ops lx ly x y)(hm:KR lx ly x y∨(yO gl lx x y e∧yO gl ly y x e))
  (hx:Out P gl C ops ix lx x e sx rx Ux)(hy:Out P gl C ops iy ly y (fin x sx rx Ux e) sy ry Uy):
  Out P gl C ops iy ly y e sy ry Uy∧Out P gl C ops ix lx x (fin y sy ry Uy e) sx rx Ux∧fin y sy ry Uy (fin x sx rx Ux e)=fin x sx rx Ux (fin y sy ry Uy e):=by
 have vZ:=hm
 have Ty:∀t∈y.looksAt ops,(fin x sx rx Ux e).ai.getD t (.v .undef)=e.ai.getD t (.v .undef):=fun t ht=>PU hx.y3 fun h=>hi.d1 t h ht
 have Tz:∀t∈x.looksAt ops,(fin y sy ry Uy e).ai.getD t (.v .undef)=e.ai.getD t (.v .undef):=fun t ht=>PU hy.y3 fun h=>hi.d3 t h ht
 have TA:∀z∈y.op.operands,fZ gl (fin x sx rx Ux e) z=fZ gl e z:=fun z hz=>by unfold fZ;rw[uE (fun t ht=>Ty t (Ib ht)) hz]
 have TB:∀z∈x.op.operands,fZ gl (fin y sy ry Uy e) z=fZ gl e z:=fun z hz=>by unfold fZ;rw[uE (fun t ht=>Tz t (Ib ht)) hz]
 have dt:(fin x sx rx Ux e).boxes =lD Ux e.boxes:=rfl
 have lz:(fin y sy ry Uy e).boxes =lD Uy e.boxes:=rfl
 have yU:va iy y ly (fZ gl e) e.boxes Uy:=by
  cases hy.uf with
  |none=>exact .none
  |mk bx h hn hb=>
   refine .mk bx h ?_ hb
   rw[dt]at hn
   cases hx.uf with
   |none=>exact hn
   |mk eu h' pI ei=>
    simp only[lD]at hn
    by_cases DS:ix=iy
    ·subst DS
     rw[List.getElem?_set_self (List.getElem?_eq_some_iff.1 pI).1]at hn
     exact absurd (Option.some.inj hn) ei
    ·rwa[List.getElem?_set_ne DS]at hn
   |wr b eu gC h' jK z hz off hp ho hold ei=>
    simp only[lD]at hn
    by_cases DS:b=iy
    ·subst DS
     rw[List.getElem?_set_self (List.getElem?_eq_some_iff.1 ho).1]at hn
     exact absurd (Option.some.inj hn) ei.1
    ·rwa[List.getElem?_set_ne DS]at hn
  |wr b bx gC h hw z hz off hp ho hold hb qk ha=>
   rw[TA z hz]at hp
   rw[dt]at ho
   cases hx.uf with
   |none=>exact .wr b bx gC h hw z hz off hp ho hold hb qk ha
   |mk eu h' pI ei=>
    have bg:ix≠b:=by
     rintro rfl
     exact Rx hG hp pI
    simp only[lD]at ho
    rw[List.getElem?_set_ne bg]at ho
    exact .wr b bx gC h hw z hz off hp ho hold hb qk ha
   |wr b' eu Di h' jK z' gq pw rY bN AW ei ad8 lE=>
    rcases hm with hm|hm
    ·exfalso
     rcases jK with jK|jK
     ·exact hm.m1 ⟨jK,h⟩
     ·rcases hw with hw|hw
      ·exact hm.m2 ⟨hw,h'⟩
      ·exact hm.m3 ⟨jK,hw,h',h⟩
    ·have bg:b'≠b:=by
      rintro rfl
      have:=(hm.1 jK z' gq lE b' pw rY).2 z hz ha off
      rcases hp with hp|hp
      ·exact this.1 hp
      ·exact this.2 hp
     simp only[lD]at ho
     rw[List.getElem?_set_ne bg]at ho
     exact .wr b bx gC h hw z hz off hp ho hold hb qk ha
 have Kn:∀b bx b' eu,Ux=some (b,bx)→Uy=some (b',eu)→b≠b':=by
  intro b bx b' eu h1 h2
  subst h1 h2
  have hyf:=hy.uf
  cases hx.uf with
  |mk _ h' pI ei=>
   cases yU with
   |mk _ h hn hb=>
    rintro rfl
    cases hyf with
    |mk _ h2 DT dV=>
     rw[dt]at DT
     simp only[lD]at DT
     rw[List.getElem?_set_self (List.getElem?_eq_some_iff.1 pI).1]at DT
     exact ei (Option.some.inj DT)
    |wr _ _ _ h2=>rw[NM h]at h2;cases h2
   |wr _ _ gC h hw z hz off hp ho hold hb=>
    rintro rfl
    exact Rx hG hp pI
  |wr _ _ Di h' jK z' gq pw rY bN AW ei ad8 lE=>
   cases yU with
   |mk _ h hn hb=>
    rintro rfl
    rw[bN]at hn
    exact AW (Option.some.inj hn)
   |wr _ _ gC h hw z hz off hp ho hold hb qk ha=>
    rcases hm with hm|hm
    ·exfalso
     rcases jK with jK|jK
     ·exact hm.m1 ⟨jK,h⟩
     ·rcases hw with hw|hw
      ·exact hm.m2 ⟨hw,h'⟩
      ·exact hm.m3 ⟨jK,hw,h',h⟩
    ·rintro rfl
     have:=(hm.1 jK z' gq lE _ pw rY).2 z hz ha off
     rcases hp with hp|hp
     ·exact this.1 hp
     ·exact this.2 hp
 refine⟨⟨yU,hy.y3,fun e' k' hl hS hk=>?_⟩,⟨?_,hx.y3,fun e' k' hl hS hk=>?_⟩,?_⟩
 ·refine hy.KP e' k' (fun t ht=>(hl t ht).trans (Ty t ht).symm) ⟨fun hm z hz=>?_,fun hm hU=>hS.fresh hm hU⟩ hk
  rw[TA z hz]
  refine lR.trans ?_ (hS.mem hm z hz)
  rw[dt]
  cases hx.uf with
  |none=>exact .refl _ _
  |mk eu h' pI ei=>exact(Rw hG pI eu z).symm
  |wr b' eu Di h' jK z' gq pw rY bN AW ei qk lE=>
   rcases vZ with eH|eH
   ·have nx:js x=false:=by cases hq:js x with|false=>rfl|true=>exact absurd ⟨hq,hm⟩ eH.m1
    have GP:lx=true:=by rcases jK with h|h;exact absurd ⟨h,hm⟩ eH.m1;exact h
    have ny:js y=false:=by cases hq:js y with|false=>rfl|true=>exact absurd ⟨hq,h'⟩ eH.m2
    have GQ:ly=false:=by cases hq:ly with|false=>rfl|true=>exact absurd ⟨GP,hq,h',hm⟩ eH.m3
    exact(Pf (by rw[ny,GQ];rfl) bN (qk GP nx) _).symm
   ·exact((eH.1 jK z' gq lE b' pw rY).1 z hz _ eu).symm
 ·cases hxu:hx.uf with
  |none=>exact .none
  |mk eu h' pI ei=>
   refine .mk eu h' ?_ ei
   rw[lz]
   cases hU:Uy with
   |none=>exact pI
   |some p=>
    simp only[lD]
    rw[List.getElem?_set_ne (Kn _ _ _ _ rfl hU).symm]
    exact pI
  |wr b' eu Di h' jK z' gq pw rY bN AW ei qk lE=>
   refine .wr b' eu Di h' jK z' gq pw (by rw[TB z' gq];exact rY) ?_ AW ei qk lE
   rw[lz]
   cases hU:Uy with
   |none=>exact bN
   |some p=>
    simp only[lD]
    rw[List.getElem?_set_ne (Kn _ _ _ _ rfl hU).symm]
    exact bN
 ·refine hx.KP e' k' (fun t ht=>(hl t ht).trans (Tz t ht)) ⟨fun hm z hz=>?_,fun hm hU=>hS.fresh hm hU⟩ hk
  have h1:=hS.mem hm z hz
  rw[TB z hz]at h1
  refine lR.trans ?_ h1
  rw[lz]
  cases yU with
  |none=>exact .refl _ _
  |mk eu h' pI ei=>exact Rw hG pI eu z
  |wr b' eu Di h' jK z' gq pw rY bN AW ei qk lE=>
   rcases vZ with eH|eH
   ·have ny:js y=false:=by cases hq:js y with|false=>rfl|true=>exact absurd ⟨hq,hm⟩ eH.m2
    have GQ:ly=true:=by rcases jK with h|h;exact absurd ⟨h,hm⟩ eH.m2;exact h
    have nx:js x=false:=by cases hq:js x with|false=>rfl|true=>exact absurd ⟨hq,h'⟩ eH.m1
    have GP:lx=false:=by cases hq:lx with|false=>rfl|true=>exact absurd ⟨hq,GQ,hm,h'⟩ eH.m3
    exact Pf (by rw[nx,GP];rfl) bN (qk GQ ny) _
   ·exact(eH.2 jK z' gq lE b' pw rY).1 z hz _ eu
 ·unfold fin
  rw[Env.mk.injEq]
  refine⟨(Xb hx.y3 hy.y3 hi.d2 e.ai).symm,?_⟩
  simp only
  cases hUx:Ux with
  |none=>rfl
  |some p=>
   cases hUy:Uy with
   |none=>rfl
   |some q=>exact List.set_comm _ _ (Kn _ _ _ _ hUx hUy)
end
end Go.Proofs.Ytimbllcalipehaa.Ab
namespace Go.Proofs.Ytimbllcalipehaa.Ab
open Go Go.RowKit
theorem Y6{l:List Nat}(h:FH l=true):l.Nodup:=by
 induction l with
 |nil=>exact .nil
 |cons a l ih=>
  simp only[FH,Bool.and_eq_true,Bool.not_eq_true',List.contains_eq_mem,decide_eq_false_iff_not]at h
  exact List.nodup_cons.2 ⟨h.1,ih h.2⟩
structure y4(ops:Array Oper)(aE:Nat→Bool):Prop where
 inj:∀(i j:Nat)oi oj a,ops[i]? =some oi→ops[j]? =some oj→mV oi=some a→mV oj=some a→i=j
 mem:∀(i:Nat)o,ops[i]? =some o→mV o=none→gk o=false∧∀d,o.dst=some d→d∉kc ops.toList
 LL:∀(i:Nat)o,ops[i]? =some o→∀x∈o.op.operands,(aE i=false→addrOf o≠some x)→∀t,x=.tmp t→t∉kc ops.toList
 val:∀(i:Nat)o,ops[i]? =some o→∀t x y,o.op=.store t x y→∀u,y=.tmp u→u∉kc ops.toList
 waits:∀(j:Nat)o a,ops[j]? =some o→oe (kc ops.toList) o=some a→∀(i:Nat)oi,ops[i]? =some oi→mV oi=some a→((reach [] ops.toList).getD j 0).testBit i=true
theorem NB{α:Type}{f:α→Option Nat}:∀{l:List α},(l.filterMap f).Nodup →∀(i j:Nat)x y a,l[i]? =some x→l[j]? =some y→f x=some a→f y=some a→i=j
 |[],_,i,j,x,y,a,hx,_,_,_=>by simp at hx
 |z::l,h,i,j,x,y,a,hx,hy,fx,fy=>by
  have mem:∀(k:Nat)w,l[k]? =some w→f w=some a→a∈l.filterMap f:=fun k w hw fw=>List.mem_filterMap.2 ⟨w,List.mem_of_getElem? hw,fw⟩
  cases i with
  |zero=>
   cases j with
   |zero=>rfl
   |succ j=>
    simp only[List.getElem?_cons_zero,Option.some.injEq]at hx
    simp only[List.getElem?_cons_succ]at hy
    subst hx
    rw[List.filterMap_cons_some fx]at h
    exact absurd (mem j y hy fy) (List.nodup_cons.1 h).1
  |succ i=>
   simp only[List.getElem?_cons_succ]at hx
   cases j with
   |zero=>
    simp only[List.getElem?_cons_zero,Option.some.injEq]at hy
    subst hy
    rw[List.filterMap_cons_some fy]at h
    exact absurd (mem i x hx fx) (List.nodup_cons.1 h).1
   |succ j=>
    simp only[List.getElem?_cons_succ]at hy
    have h':(l.filterMap f).Nodup :=by
     cases hz:f z with
     |none=>rw[List.filterMap_cons_none hz]at h;exact h
     |some b=>rw[List.filterMap_cons_some hz]at h;exact(List.nodup_cons.1 h).2
    rw[NB h' i j x y a hx hy fx fy]
theorem NC{all:List Oper}{A:List Nat}{aE:Nat→Bool}{R:List Nat}:∀{l:List Oper}{i:Nat},E7 all A aE R l i=true→∀(n:Nat)o,l[n]? =some o→
  CL A (aE (i+n)) o=true∧∀a,oe A o=some a→B9 a (R.getD (i+n) 0) all 0=true
 |[],_,_,n,o,h=>by simp at h
 |p::l,i,h,n,o,ho=>by
  simp only[E7,Bool.and_eq_true]at h
  obtain⟨⟨h1,h2⟩,h3⟩:=h
  cases n with
  |zero=>
   simp only[List.getElem?_cons_zero,Option.some.injEq]at ho
   subst ho
   refine⟨h1,fun a ha=>?_⟩
   rw[ha]at h2
   exact h2
  |succ n=>
   have:=NC h3 n o (by simpa using ho)
   rw[show i+1+n=i+(n+1) by omega]at this
   exact this
theorem Nu{a m:Nat}:∀{l:List Oper}{i:Nat},B9 a m l i=true→∀(n:Nat)o,l[n]? =some o→mV o=some a→m.testBit (i+n)=true
 |[],_,_,n,o,h,_=>by simp at h
 |p::l,i,h,n,o,ho,ha=>by
  simp only[B9,Bool.and_eq_true]at h
  cases n with
  |zero=>
   simp only[List.getElem?_cons_zero,Option.some.injEq]at ho
   subst ho
   have:=h.1
   rw[ha]at this
   simpa using this
  |succ n=>
   have:=Nu h.2 n o (by simpa using ho) ha
   rw[show i+1+n=i+(n+1) by omega]at this
   exact this
theorem E9{A:List Nat}{x:Operand}(h:DG A x=false):∀t,x=.tmp t→t∉A:=by
 rintro t rfl
 simpa[DG]using h
theorem QH{ops:Array Oper}{aE:Nat→Bool}(h:eligible ops.toList aE (reach [] ops.toList)=true):y4 ops aE:=by
 simp only[eligible,Bool.and_eq_true]at h
 obtain⟨hn,hf⟩:=h
 have sp:=fun(i:Nat)(o:Oper)(ho:ops[i]? =some o)=>NC hf i o (by rw[Array.getElem?_toList];exact ho)
 simp only[Nat.zero_add]at sp
 refine⟨fun i j oi oj a h1 h2 h3 h4=>NB (Y6 hn) i j oi oj a (by rw[Array.getElem?_toList];exact h1) (by rw[Array.getElem?_toList];exact h2) h3 h4,fun i o ho ha=>?_,fun i o ho x hx LM=>?_,fun i o ho t x y iQ=>?_,fun j o a ho hs i oi hoi LN=>?_⟩
 ·have:=(sp i o ho).1
  simp only[CL,ha,Bool.and_eq_true,Bool.not_eq_true']at this
  refine⟨this.1.1,fun d hd=>?_⟩
  have h2:=this.1.2
  rw[hd]at h2
  simpa using h2
 ·have:=(sp i o ho).1
  simp only[CL,Bool.and_eq_true]at this
  have h2:=this.2
  cases iQ:o.op with
  |store t u v=>
   rw[iQ]at h2 hx
   simp only[Bool.and_eq_true,Bool.not_eq_true',Bool.or_eq_true]at h2
   simp only[Op.operands,List.mem_toArray,List.mem_cons,List.not_mem_nil,or_false]at hx
   rcases hx with rfl|rfl
   ·rcases h2.2 with h3|h3
    ·exact E9 h3
    ·exact absurd (by simp[addrOf,iQ]) (LM h3)
   ·exact E9 h2.1
  |_=>
   rw[iQ]at h2 hx
   simp only[List.all_eq_true,Bool.not_eq_true']at h2
   exact E9 (h2 x (by simpa using hx))
 ·have:=(sp i o ho).1
  simp only[CL,Bool.and_eq_true]at this
  have h2:=this.2
  rw[iQ]at h2
  simp only[Bool.and_eq_true,Bool.not_eq_true']at h2
  exact E9 h2.1
 ·have:=Nu ((sp j o ho).2 a hs) i oi (by rw[Array.getElem?_toList];exact hoi) LN
  simpa using this
section
variable{P:Program}{gl:Nat→Option D}{C:bl}{ops:Array Oper}{aE:Nat→Bool}{base:Nat}{K:Nat→Prop}
structure Jv(ops:Array Oper)(base:Nat)(K:Nat→Prop)(bw:Array Bool)(e:Env):Prop where
 k:∀b,K b→b<base
 low:∀t,t∉kc ops.toList→du K (e.ai.getD t (.v .undef))
 box:∀b s,(K b∨base≤b)→e.boxes[b]? =some (.one s)→du K s
 own:∀(i:Nat)o a,ops[i]? =some o→mV o=some a→bw.getD i false=true→e.ai.getD a (.v .undef)=.v .undef ∨e.ai.getD a (.v .undef)=.p (base+fU ops.toList i) 0
theorem IX{e:Env}{x:Operand}(h:∀t,x=.tmp t→du K (e.ai.getD t (.v .undef))):du K (fZ gl e x):=by
 unfold fZ
 cases x with
 |tmp t=>exact(h t rfl).kR
 |_=>
  simp only[Ab.aV]
  repeat' split
  all_goals exact .v _
theorem HU(l:List Slot)(i j:Nat)(x d:Slot):((l.set i x).getD j d=x∧i=j)∨(l.set i x).getD j d=l.getD j d:=by
 by_cases h:i=j
 ·subst h
  rcases Nat.lt_or_ge i l.length with hl|hl
  ·left;simp[List.getD_eq_getElem?_getD,List.getElem?_set_self hl]
  ·right;rw[List.set_eq_of_length_le hl]
 ·right;exact eD h
theorem Jr:∀{l:List Oper}{i j:Nat}{o:Oper},i<j→l[i]? =some o→gk o=true→fU l i<fU l j
 |[],i,j,o,_,h,_=>by simp at h
 |p::l,i,j,o,eT,h,hm=>by
  cases j with
  |zero=>omega
  |succ j=>
   cases i with
   |zero=>
    simp only[List.getElem?_cons_zero,Option.some.injEq]at h
    subst h
    simp only[fU,hm,cond_true]
    omega
   |succ i=>
    have:=Jr (Nat.lt_of_succ_lt_succ eT) (by simpa using h) hm
    simp only[fU]
    omega
theorem Iy{o:Oper}{a:Nat}(h:mV o=some a):(∃t,o.op=.alloc t)∧o.guard=none∧o.dst=some a:=by
 unfold mV at h
 split at h
 ·rename_i t h1 h2;exact⟨⟨t,h1⟩,h2,h⟩
 ·cases h
theorem Ph{i:Nat}{o:Oper}{a:Nat}(ho:ops[i]? =some o)(h:mV o=some a):a∈kc ops.toList:=
 List.mem_filterMap.2 ⟨o,List.mem_of_getElem? (by rw[Array.getElem?_toList];exact ho),h⟩
theorem Pj{a:Nat}(h:a∈kc ops.toList):∃(i:Nat) (o:Oper),ops[i]? =some o∧mV o=some a:=by
 obtain⟨o,ho,h⟩:=List.mem_filterMap.1 h
 obtain⟨i,hi⟩:=List.mem_iff_getElem?.1 ho
 exact⟨i,o,by rw[←Array.getElem?_toList];exact hi,h⟩
theorem Jv.step{bw:Array Bool}{e e':Env}(hE:y4 ops aE)(hJ:Jv ops base K bw e){i:Nat}{o:Oper}(ho:ops[i]? =some o)
  (h:m5 P gl C ops.toList (base+fU ops.toList i) (aE i) o e (fun x=>x=e')):Jv ops base K (bw.setIfInBounds i true) e':=by
 cases ha:mV o with
 |some a=>
  obtain⟨⟨t,iQ⟩,hg,hd⟩:=Iy ha
  have h':=Ag.1 h
  have jk:rL ops.toList o e=some true:=by unfold rL;rw[hg]
  rw[jk]at h'
  simp only[m7]at h'
  cases hl:aE i with
  |true=>rw[hl]at h';simp only[cond_true,lb,iQ]at h'
  |false=>
   rw[hl]at h'
   simp only[cond_false,cT,iQ]at h'
   split at h'
   ·rename_i fl
    obtain⟨z,hz,h2⟩:=aH h'
    subst h2
    rw[hd]
    refine⟨hJ.k,fun t' qF=>?_,fun b s hb gX=>?_,fun j oj a' jo v8 zy=>?_⟩
    ·simp only[cq]
     rw[eD (fun h:a=t'=>qF (by rw[←h];exact Ph ho ha))]
     exact hJ.low t' qF
    ·simp only at gX
     rw[List.getElem?_set]at gX
     split at gX
     ·split at gX
      ·cases gX
      ·cases gX
     ·exact hJ.box b s hb gX
    ·simp only[cq]
     by_cases eT:i=j
     ·subst eT
      rw[ho]at jo;cases jo
      rw[ha]at v8;cases v8
      rcases HU e.ai a a (.p (base+fU ops.toList i) 0) (.v .undef)with⟨h,_⟩|h
      ·exact .inr h
      ·rcases Nat.lt_or_ge a e.ai.length with aK|mb
       ·right;simp[List.getD_eq_getElem?_getD,List.getElem?_set_self aK]
       ·left;rw[h,List.getD_eq_getElem?_getD,List.getElem?_eq_none mb];rfl
     ·have bg:a≠a':=fun h=>eT (hE.inj i j o oj a ho jo ha (h▸v8))
      rw[eD bg]
      refine hJ.own j oj a' jo v8 ?_
      rw[getD_set_ne false eT]at zy
      exact zy
   ·exact h'.elim
 |none=>
  obtain⟨xD,m8⟩:=hE.mem i o ho ha
  obtain⟨src,s,U,hk,hO,_,je,_⟩:=x7 h
  subst hk
  obtain⟨l1,l2,l3⟩:=je K (fun b=>K b∨base≤b) (fun b h=>.inl h) (fun x hx LM=>IX fun t ht=>hJ.low t (hE.LL i o ho x hx LM t ht))
   (fun t x y iQ=>IX fun u hu=>hJ.low u (hE.val i o ho t x y iQ u hu)) hJ.box xD
  have KQ:∀t d,src=some (t,d)→t∉kc ops.toList:=fun t d hs=>by
   obtain⟨hl,ht⟩:=hO.y3 t d hs
   obtain⟨z,hz,zz⟩:=List.mem_filterMap.1 ht
   refine hE.LL i o ho (.tmp t) ?_ (fun h=>by rw[hl]at h;cases h) t rfl
   cases z with
   |tmp u=>simp only[Option.some.injEq]at zz;subst zz;simpa using hz
   |_=>simp at zz
  have gE:∀t,(du K (e.ai.getD t (.v .undef))→du K ((jf src e.ai).getD t (.v .undef)))∧(t∈kc ops.toList→(jf src e.ai).getD t (.v .undef)=e.ai.getD t (.v .undef)):=fun t=>by
   cases xH:src with
   |none=>exact⟨fun h=>h,fun _=>rfl⟩
   |some p=>
    obtain⟨u,d⟩:=p
    simp only[jf]
    refine⟨fun h=>?_,fun ht=>eD fun hh=>KQ u d xH (hh▸ht)⟩
    rcases HU e.ai u t d (.v .undef)with⟨h2,_⟩|h2
    ·rw[h2];exact l2 u d xH
    ·rw[h2];exact h
  refine⟨hJ.k,fun t ht=>?_,fun b s' hb gX=>?_,fun j oj a' jo v8 zy=>?_⟩
  ·unfold fin
   simp only
   cases hd:o.dst with
   |none=>exact(gE t).1 (hJ.low t ht)
   |some d=>
    simp only[cq]
    rcases HU (jf src e.ai) d t s (.v .undef)with⟨h2,_⟩|h2
    ·rw[h2];exact l1
    ·rw[h2];exact(gE t).1 (hJ.low t ht)
  ·unfold fin at gX
   simp only at gX
   cases hU:U with
   |none=>rw[hU]at gX;exact hJ.box b s' hb gX
   |some p=>
    obtain⟨b0,bx⟩:=p
    rw[hU]at gX
    simp only[lD]at gX
    rw[List.getElem?_set]at gX
    split at gX
    ·rename_i eh
     split at gX
     ·cases gX
      exact l3 b0 s' hU
     ·cases gX
    ·exact hJ.box b s' hb gX
  ·have eT:i≠j:=by
    rintro rfl
    rw[ho]at jo;cases jo
    rw[ha]at v8;cases v8
   have ef:=Ph jo v8
   have jF:(fin o src s U e).ai.getD a' (.v .undef)=e.ai.getD a' (.v .undef):=by
    unfold fin
    simp only
    cases hd:o.dst with
    |none=>exact(gE a').2 ef
    |some d=>
     simp only[cq]
     rw[eD (fun h:d=a'=>m8 d hd (by rw[h];exact ef))]
     exact(gE a').2 ef
   rw[jF]
   refine hJ.own j oj a' jo v8 ?_
   rw[getD_set_ne false eT]at zy
   exact zy
theorem PV{e:Env}{bw:Array Bool}(hJ:Jv ops base K bw e){b:Nat}(hb:base≤b)(bx:af):∀(n:Nat)(s:Slot),du K s→snap (e.boxes.set b bx) n s=snap e.boxes n s:=by
 intro n
 induction n with
 |zero=>intro s _;rfl
 |succ n ih=>
  intro s hs
  cases hs with
  |v x=>rfl
  |t l=>rfl
  |a c m sz h=>
   have bg:b≠c:=fun h2=>by have:=hJ.k c h;omega
   simp only[snap]
   rw[List.getElem?_set_ne bg]
  |m c h=>rfl
  |p c off h=>
   have bg:b≠c:=fun h2=>by have:=hJ.k c h;omega
   simp only[snap]
   rw[List.getElem?_set_ne bg]
   cases hc:e.boxes[c]? with
   |none=>rfl
   |some y=>
    cases y with
    |one s'=>simp only;rw[ih s' (hJ.box c s' (.inl h) hc)]
    |_=>rfl
  |c f first cap h1 h2=>
   simp only[snap]
   have hl:∀(l:List Slot),(∀s∈l,du K s)→ju (snap (e.boxes.set b bx) n) l=ju (snap e.boxes n) l:=by
    intro l hl
    induction l with
    |nil=>rfl
    |cons a l ihl=>simp only[ju];rw[ih a (hl a (by simp)),ihl fun s hs=>hl s (by simp[hs])]
   rw[hl first h1,hl cap h2]
theorem Y7{e:Env}{bw:Array Bool}(hJ:Jv ops base K bw e){b:Nat}(hb:base≤b)(bx:af){s:Slot}(hs:du K s)(q:Bool):lR q s e.boxes (e.boxes.set b bx):=by
 refine⟨fun c off h=>?_,fun n=>PV hJ hb bx n s hs,fun c l h=>?_⟩
 ·subst h
  have bg:b≠c:=fun h2=>by have:=hJ.k c hs.mE;omega
  rw[List.getElem?_set_ne bg]
  exact⟨.refl _,fun _=>rfl⟩
 ·subst h
  have bg:b≠c:=fun h2=>by have:=hJ.k c hs.Sh;omega
  rw[List.getElem?_set_ne bg]
theorem Y8{e:Env}{bw:Array Bool}(hJ:Jv ops base K bw e){b c off:Nat}(hb:base≤b)(hc:base≤c)(bg:b≠c)(bx:af)(q:Bool):lR q (.p c off) e.boxes (e.boxes.set b bx):=by
 refine⟨fun c' pw h=>?_,fun n=>?_,fun c l h=>by cases h⟩
 ·cases h
  rw[List.getElem?_set_ne bg]
  exact⟨.refl _,fun _=>rfl⟩
 ·cases n with
  |zero=>rfl
  |succ n=>
   simp only[snap]
   rw[List.getElem?_set_ne bg]
   cases hx:e.boxes[c]? with
   |none=>rfl
   |some y=>
    cases y with
    |one s'=>simp only;rw[PV hJ hb bx n s' (hJ.box c s' (.inr hc) hx)]
    |_=>rfl
theorem PW{A:List Nat}{o:Oper}{a:Nat}(h:oe A o=some a):a∈A∧∃t y,o.op=.store t (.tmp a) y:=by
 unfold oe at h
 split at h
 ·rename_i t a' y iQ
  cases hc:A.contains a' with
  |false=>rw[hc]at h;cases h
  |true=>
   rw[hc]at h
   cases h
   exact⟨by simpa using hc,t,y,iQ⟩
 ·cases h
def Made(ops:Array Oper)(bw:Array Bool)(o:Oper):Prop:=∀a,oe (kc ops.toList) o=some a→∀(i:Nat)oi,ops[i]? =some oi→mV oi=some a→bw.getD i false=true
theorem ab1{e:Env}{bw:Array Bool}(hE:y4 ops aE)(hJ:Jv ops base K bw e){j:Nat}{y:Oper}(hy:ops[j]? =some y){z:Operand}(hz:z∈y.op.operands)(h:oe (kc ops.toList) y=none∨addrOf y≠some z):du K (fZ gl e z):=by
 refine IX fun t ht=>hJ.low t ?_
 by_cases xI:addrOf y=some z
 ·rcases h with h|h
  ·subst ht
   unfold addrOf at xI
   split at xI
   ·rename_i t' x' y' iQ
    cases xI
    intro hm
    unfold oe at h
    rw[iQ]at h
    simp[hm]at h
   ·cases xI
  ·exact absurd xI h
 ·exact hE.LL j y hy z hz (fun _=>xI) t ht
theorem EN{e:Env}{bw:Array Bool}(hE:y4 ops aE)(hJ:Jv ops base K bw e){i j:Nat}{x y:Oper}(_hx:ops[i]? =some x)(hy:ops[j]? =some y){a:Nat}(hs:oe (kc ops.toList) x=some a)
  (cH:Made ops bw x)(xG:Made ops bw y)(bg:oe (kc ops.toList) y≠some a){lx:Bool}:yO gl lx x y e:=by
 intro hw z hz xI b off hp
 obtain⟨hm,t,v,iQ⟩:=PW hs
 obtain⟨k,ok,gr,Bx⟩:=Pj hm
 have zz:=xI _ _ _ iQ
 subst zz
 have xD:gk ok=true:=by obtain⟨⟨t,h⟩,_⟩:=Iy Bx;simp[gk,h]
 have hrz:fZ gl e (.tmp a)=(e.ai.getD a (.v .undef)).aa :=rfl
 have hb:b=base+fU ops.toList k:=by
  rw[hrz]at hp
  rcases hJ.own k ok a gr Bx (cH a hs k ok gr Bx)with h|h
  ·rw[h]at hp;rcases hp with hp|hp<;>cases hp
  ·rw[h]at hp;rcases hp with hp|hp<;>cases hp;rfl
 have eh:base≤b:=by omega
 have oM:∀z'∈y.op.operands,du K (fZ gl e z')∨∃c,base≤c∧b≠c∧fZ gl e z'=.p c 0:=by
  intro z' gq
  by_cases h:oe (kc ops.toList) y=none∨addrOf y≠some z'
  ·exact .inl (ab1 hE hJ hy gq h)
  ·have h1:oe (kc ops.toList) y≠none:=fun h2=>h (.inl h2)
   have h2:addrOf y=some z':=Classical.byContradiction fun h2=>h (.inr h2)
   obtain⟨a',lE⟩:=Option.ne_none_iff_exists'.1 h1
   obtain⟨mf,t',v',ae1⟩:=PW lE
   obtain⟨k',LO,Dj,Dk⟩:=Pj mf
   have DU:z'=.tmp a':=by
    unfold addrOf at h2
    rw[ae1]at h2
    exact(Option.some.inj h2).symm
   subst DU
   have hr:fZ gl e (.tmp a')=(e.ai.getD a' (.v .undef)).aa :=rfl
   rcases hJ.own k' LO a' Dj Dk (xG a' lE k' LO Dj Dk)with h|h
   ·left;rw[hr,h];exact .v _
   ·right
    refine⟨base+fU ops.toList k',by omega,?_,by rw[hr,h];rfl⟩
    rw[hb]
    have jJ:k≠k':=by
     rintro rfl
     rw[gr]at Dj;cases Dj
     rw[Bx]at Dk;cases Dk
     exact bg lE
    have ae2:gk LO=true:=by obtain⟨⟨t,h⟩,_⟩:=Iy Dk;simp[gk,h]
    rcases Nat.lt_or_gt_of_ne jJ with h|h
    ·have:=Jr (l:=ops.toList) h (by rw[Array.getElem?_toList];exact gr) xD;omega
    ·have:=Jr (l:=ops.toList) h (by rw[Array.getElem?_toList];exact Dj) ae2;omega
 refine⟨fun z' gq q eu=>?_,fun z' gq _ pw=>?_⟩
 ·rcases oM z' gq with h|⟨c,hc,GR,h⟩
  ·exact Y7 hJ eh eu h q
  ·rw[h];exact Y8 hJ eh hc GR eu q
 ·rcases oM z' gq with h|⟨c,hc,GR,h⟩
  ·refine⟨fun h2=>?_,fun h2=>?_⟩
   ·rw[h2]at h;have:=hJ.k b h.mE;omega
   ·rw[h2]at h;have:=hJ.k b h.Sh;omega
  ·rw[h]
   refine⟨fun h2=>?_,fun h2=>by cases h2⟩
   cases h2
   exact GR rfl
theorem Y9{e:Env}{bw:Array Bool}(hE:y4 ops aE)(hJ:Jv ops base K bw e){i j:Nat}{x y:Oper}(hx:ops[i]? =some x)(hy:ops[j]? =some y){lx ly:Bool}(hf:F0 (kc ops.toList) lx ly x y=true)
  (cH:Made ops bw x)(xG:Made ops bw y):yO gl lx x y e∧yO gl ly y x e:=by
 unfold F0 at hf
 split at hf
 ·rename_i a b ha hb
  simp only[Bool.and_eq_true,Bool.not_eq_true']at hf
  have GI:a≠b:=fun h=>by rw[h,Nat.beq_refl]at hf;exact absurd hf.1.1 (by simp)
  exact⟨EN hE hJ hx hy ha cH xG (by rw[hb];simpa using Ne.symm GI),EN hE hJ hy hx hb xG cH (by rw[ha];simpa using GI)⟩
 ·rename_i a ha hb
  simp only[Bool.and_eq_true,Bool.not_eq_true']at hf
  refine⟨EN hE hJ hx hy ha cH xG (by rw[hb];simp),fun hw=>?_⟩
  rcases hw with h|h
  ·rw[hf.1.2]at h;cases h
  ·rw[hf.2]at h;cases h
 ·rename_i b ha hb
  simp only[Bool.and_eq_true,Bool.not_eq_true']at hf
  refine⟨fun hw=>?_,EN hE hJ hy hx hb xG cH (by rw[ha];simp)⟩
  rcases hw with h|h
  ·rw[hf.1.2]at h;cases h
  ·rw[hf.2]at h;cases h
 ·cases hf
theorem Xc{A:List Nat}{lx ly:Bool}{x y:Oper}(h:JP ops A lx ly x y=true):F4 ops lx ly x y∧F0 A lx ly x y=true:=by
 simp only[JP,Bool.and_eq_true,List.all_eq_true,Bool.not_eq_true',List.contains_eq_mem,decide_eq_false_iff_not]at h
 obtain⟨⟨h1,h2⟩,h3⟩:=h
 exact⟨⟨fun t ht=>(h1 t ht).1,fun t ht=>(h1 t ht).2,fun t ht=>h2 t ht⟩,h3⟩
end
end Go.Proofs.Ytimbllcalipehaa.Ab
