/-
  THE ABSTRACT WALK: appends.
-/
import Derived.Test.YtaknajjmldngiaaGreatTa
import Derived.MapKept
import Derived.Laws.MakeOwn
set_option linter.unusedVariables false
set_option linter.unusedSimpArgs false
namespace Go.Proofs.YtaknajjmldngiaaGreat.Ab
open Go Go.RowKit
section
variable{P:Program}{gl:Nat→Option D}{w0:World}{ay:S0}{e:Env}{a:Act}{w:World}{g:Gh}
structure qk(e:Env)(an:List Slot)(lost:Nat→Prop)(dst:Option Nat):Prop where
 len:an.length=e.an.length
 at_:∀(i:Nat)x,an[i]? =some x→dst≠some i→∃y,e.an[i]? =some y∧((x=y∧¬lost i)∨x=y.aa)
theorem qk.same(e:Env)(dst:Option Nat):qk e e.an (fun _=>False) dst:=⟨rfl,fun _ x h _=>⟨x,h,.inl ⟨rfl,fun h=>h⟩⟩⟩
def wF(lost:Nat→Prop)(dst:Option Nat)(p:Pos):Prop:=∃i j,p=.s i j∧(lost i∨dst=some i)
theorem Inv.hand(hI:Inv gl w0 ay e a w g){w':World}{g':Gh}{an:List Slot}{lost:Nat→Prop}{dst:Option Nat}(hH:qk e an lost dst)
  (hX:Ext w0.heap.size w g w' g' (wF lost dst)){s:Slot}{v:Value}(nC:Below w0.heap.size w w')
  (mB:∀d,dst=some d→cH w0.heap.size w' g' (gJ w0.heap.size w' g' d) s v)(dQ:g'.bx=g.bx)(c7:∀b,some b∈g.bx→w'.heap[b]? =w.heap[b]?)
  (wS:∀b o,g'.St b o→(ay b o∨w0.heap.size≤b)∧some b∉g.bx∧b<w'.heap.size):
  Inv gl w0 ay ⟨cz an dst s,e.boxes⟩ (a.put dst v) w' g':=by
 refine hI.step hX nC hH.len (fun i x hx hd=>?_) mB (by rw[dQ];exact hI.fo) ?_ (by rw[dQ];exact hI.nodup) ?_ (fun b o h=>by rw[dQ];exact wS b o h)
 ·obtain⟨y,hy,⟨rfl,hl⟩|h⟩:=hH.at_ i x hx hd
  ·refine⟨x,hy,.inl ⟨rfl,fun j=>?_⟩⟩
   rintro⟨i',j',h,fU|fU⟩
   ·cases h;exact hl fU
   ·cases h;exact hd fU
  ·exact⟨y,hy,.inr h⟩
 ·intro b bx ao h1 h2
  rw[dQ]at h2
  refine hX.box (fun j=>?_) (c7 ao (List.mem_of_getElem? h2)) (hI.boxes b bx ao h1 h2)
  rintro⟨i,j',h,_⟩
  cases h
 ·intro b hb
  rw[dQ]at hb
  have:=nC.size
  have:=hI.eb b hb
  omega
def Gh.mv(g:Gh)(b:Nat)(p:Pos):Gh:={g with ow:=fun b'=>if b'=b then some p else g.ow b'}
theorem Ext.mv{base:Nat}{i:Nat}{b a0 c0:Nat}(ho:ga base w g (.s i 0) b a0 c0){lost:Nat→Prop}(hl:lost i)(dst:Option Nat)(q:Pos):Ext base w g w (g.mv b q) (wF lost dst):=by
 refine⟨fun D _ hb hn h=>⟨h,hb,(by
  simp only[Gh.mv]
  rw[if_neg (fun e=>by rw[e,ho.1]at hn;cases hn)];exact hn),fun _ h=>h⟩,fun _ _ h=>(by first|exact⟨h,rfl⟩|exact⟨h,.refl _ _ _⟩),fun _ _ _=>rfl,fun _ _ h=>h,fun p b' a' c' hp cC=>⟨?_,.refl _ _ _⟩,.refl _⟩
 obtain⟨h1,h2,h3,h4,h5⟩:=cC
 refine⟨?_,h2,h3,h4,h5⟩
 simp only[Gh.mv]
 split
 ·rename_i hb
  subst hb
  exfalso
  rw[ho.1]at h1
  cases h1
  exact hp ⟨i,0,rfl,.inl hl⟩
 ·exact h1
theorem Tf{t ty e':TypeId}{i:TypeInfo}(ht:P.underlying t=some (.slice e'))(hi:P.info? e'=some i)(base:Option Addr)(n cap:Nat)(hn:n≤cap){y:Value}
  (hy:y=.slice none 0 0∨∃ad c,y=.slice (some ad) 0 c):(Builtin.append_ #[t,t] ty #[.slice base n cap,y]).run P w=.ok (.slice base n cap) w:=by
 rcases hy with rfl|⟨ad,c,rfl⟩
 ·cases base<;>simp[Builtin.append_,run_underlying ht,sizeOf,typeInfo,hi,Builtin.lenOf,hn,Builtin.firstCells,storeCells]
 ·cases base<;>simp[Builtin.append_,run_underlying ht,sizeOf,typeInfo,hi,Builtin.lenOf,hn,Builtin.firstCells,loadCells,loadCellsFrom,storeCells]
theorem KV{t ty e' te:TypeId}{i:TypeInfo}(ht:P.underlying t=some (.slice e'))(hi:P.info? e'=some i){gg n cap:Nat}{cur:Array Value}(hg:w.heap[gg]? =some (.cells cur te (0,0)))
  {ad:Addr}{m c:Nat}(news:List Value)(hl:news.length=m*i.size)(adu:∀j u,news[j]? =some u→w.cell? (ad.add j)=some u)(h1:∀u∈news,u.oneCell'=true)
  (tt:n+m≤cap)(nI:n*i.size+news.length≤cur.size):
  (Builtin.append_ #[t,t] ty #[.slice (some ⟨gg,0,none⟩) n cap,.slice (some ad) m c]).run P w=
    .ok (.slice (some ⟨gg,0,none⟩) (n+m) cap) (w.setRow gg (cur.toList.take (n*i.size)++news++cur.toList.drop (n*i.size+news.length)).toArray):=by
 have hf:=run_firstCells_some (P:=P) w i.size m ad m c news hl adu
 have b4:=run_storeCells_at P gg (n*i.size) te news 0 cur w hg (by simpa using nI) h1
 simp only[Nat.add_zero]at b4
 simp[Builtin.append_,run_underlying ht,sizeOf,typeInfo,hi,Builtin.lenOf,tt,hf,Addr.add_lit,b4]
theorem wb{sz n:Nat}{vs:Nat→Value}{b off:Nat}{St:Nat→Nat→Prop}(bF:∀(o:Nat),o<n*sz→w.cell? ⟨b,off+o,none⟩=some (vs o)∧St b (off+o)):
  ∃l:List Value,l.length=n*sz∧(∀j u,l[j]? =some u→w.cell? ((⟨b,off,none⟩:Addr).add j)=some u)∧∀j,j<n*sz→l[j]? =some (vs j):=by
 refine⟨(List.range (n*sz)).map vs,by simp,fun j u hu=>?_,fun j hj=>by simp[hj]⟩
 have hj:j<n*sz:=by have:=(List.getElem?_eq_some_iff.1 hu).1;simpa using this
 simp[hj]at hu
 subst hu
 rw[n8]
 exact(bF j hj).1
theorem Db{sz:Nat}{L M:List D}(hL:∀x∈L,x.cells.length=sz){i:Nat}{x:D}(hx:(L++M)[i]? =some x){j:Nat}{c:D}(hc:x.cells[j]? =some c){St:Nat→Nat→Prop}
  {f h:Nat→Value}(hf:∀(i:Nat)x(j:Nat)c,L[i]? =some x→x.cells[j]? =some c→bj w St c (f (i*sz+j)))(hh:∀(i:Nat)x(j:Nat)c,M[i]? =some x→x.cells[j]? =some c→bj w St c (h (i*sz+j)))
  (hM:∀x∈M,x.cells.length=sz):bj w St c (if i*sz+j<L.length*sz then f (i*sz+j)else h (i*sz+j-L.length*sz)):=by
 rw[List.getElem?_append]at hx
 have hj:=(List.getElem?_eq_some_iff.1 hc).1
 split at hx
 ·rename_i hi
  rw[hL x (List.mem_of_getElem? hx)]at hj
  have:(i+1)*sz≤L.length*sz:=Nat.mul_le_mul_right _ hi
  rw[Nat.succ_mul]at this
  rw[if_pos (by omega)]
  exact hf i x j c hx hc
 ·rename_i hi
  rw[hM x (List.mem_of_getElem? hx)]at hj
  have h1:L.length*sz≤i*sz:=Nat.mul_le_mul_right _ (by omega)
  rw[if_neg (by omega)]
  have:=hh (i-L.length) x j c hx hc
  have e1:i*sz+j-L.length*sz=(i-L.length)*sz+j:=by rw[Nat.sub_mul];omega
  rw[e1]
  exact this
theorem Inv.grow(hI:Inv gl w0 ay e a w g){an:List Slot}{lost:Nat→Prop}{dst:Option Nat}(hH:qk e an lost dst){sz:Nat}{L M:List D}{cap:Nat}{te:TypeId}{fh news rest:List Value}
  (hL:∀x∈L,x.cells.length=sz)(hM:∀x∈M,x.cells.length=sz)(oJ:∀x∈L,∀c∈x.cells,c.one=true)(jR:∀x∈M,∀c∈x.cells,c.one=true)
  (ho:fh.length=L.length*sz)(hn:news.length=M.length*sz)(hr:rest.length=(cap-(L.length+M.length))*sz)(b9:L.length+M.length≤cap)(ja:cap≤maxLen)
  {f h:Nat→Value}(sF:∀j,j<L.length*sz→fh[j]? =some (f j))(qM:∀j,j<M.length*sz→news[j]? =some (h j))
  (hf:∀(i:Nat)x(j:Nat)c,L[i]? =some x→x.cells[j]? =some c→bj w g.St c (f (i*sz+j)))(hh:∀(i:Nat)x(j:Nat)c,M[i]? =some x→x.cells[j]? =some c→bj w g.St c (h (i*sz+j))):
  ∃g',Inv gl w0 ay ⟨cz an dst (.v (.own sz (L++M))),e.boxes⟩ (a.put dst (.slice (some ⟨w.heap.size,0,none⟩) (L.length+M.length) cap))
   (w.drew.alloc (.cells (fh++news++rest).toArray te)) g':=by
 have hle:w0.heap.size≤w.heap.size:=hI.below.size
 have agE:w.drew.heap=w.heap:=rfl
 have aQ:(w.drew.alloc (.cells (fh++news++rest).toArray te)).heap.size =w.heap.size+1:=Ag w.drew _
 have hold:=fun b(hb:b<w.heap.size)=>iQ w.drew (.cells (fh++news++rest).toArray te) b hb
 have iC:=uW w.drew (.cells (fh++news++rest).toArray te)
 have vo:∀b o,b<w.heap.size→(w.drew.alloc (.cells (fh++news++rest).toArray te)).cell? ⟨b,o,none⟩=w.cell? ⟨b,o,none⟩:=fun b o hb=>World.cell?_of_block (hold b hb)
 refine⟨{St:=fun b o=>g.St b o∨(b=w.heap.size∧o<(L.length+M.length)*sz),bx:=g.bx,ow:=fun b=>if b=w.heap.size then(dst.map fun d=>.s d 0)else g.ow b},?_⟩
 have hX:Ext w0.heap.size w g (w.drew.alloc (.cells (fh++news++rest).toArray te))
   {St:=fun b o=>g.St b o∨(b=w.heap.size∧o<(L.length+M.length)*sz),bx:=g.bx,ow:=fun b=>if b=w.heap.size then(dst.map fun d=>.s d 0)else g.ow b} (wF lost dst):=by
  refine⟨fun D o hb ho h=>⟨(hold D (gn h)).trans h,hb,(by
   simp only
   rw[if_neg (by have:=gn h;omega)];exact ho),fun x hx=>hx.elim id fun e=>(by have:=gn h;omega)⟩,fun b o h=>⟨.inl h,.rA (hold b (hI.nH h))⟩,fun b o h=>vo b o (by omega),fun _ _ h=>h,fun p b a' c' _ cC=>⟨?_,fun _=>hold b cC.lt⟩,.of fun b hb=>hold b hb⟩
  have aV:=cC.lt
  obtain⟨h1,h2,h3,⟨cur,ty,h4,kN⟩,h5⟩:=cC
  refine⟨?_,h2,h3,⟨cur,ty,(hold b aV).trans h4,kN⟩,fun o ho=>?_⟩
  ·simp only
   rw[if_neg (by omega)];exact h1
  ·rintro(h|h)
   ·exact h5 o ho h
   ·omega
 refine hI.hand hH hX ⟨rfl,rfl,rfl,by omega,fun k hk=>hold k (by omega)⟩ (fun d hd=>?_) rfl (fun b hb=>hold b (hI.eb b hb).2) (fun b o h=>?_)
 ·have hlen:(L++M).length =L.length+M.length:=List.length_append
  have cp:(fh++news++rest).toArray.size =cap*sz:=by
   simp only[List.size_toArray,List.length_append,ho,hn,hr]
   rw[←Nat.add_mul,←Nat.add_mul]
   congr 1
   omega
  have bt:=bj.sl (w:=w.drew.alloc (.cells (fh++news++rest).toArray te)) (St:=fun b o=>g.St b o∨(b=w.heap.size∧o<(L.length+M.length)*sz)) sz (L++M) w.heap.size 0 cap
   (fun o=>if o<L.length*sz then f o else h (o-L.length*sz)) (by omega) (by omega) (fun x hx=>(List.mem_append.1 hx).elim (hL x) (hM x)) (fun x hx=>(List.mem_append.1 hx).elim (oJ x) (jR x))
   (fun o cC=>by
     rw[hlen]at cC
     refine⟨?_,.inr ⟨rfl,by omega⟩⟩
     rw[cell_of_row _ w.heap.size (0+o) _ te (0,0) iC]
     simp only[Nat.zero_add,List.getElem?_toArray]
     rw[List.append_assoc,List.getElem?_append]
     split
     ·rename_i h1
      rw[ho]at h1
      rw[if_pos h1];exact sF o h1
     ·rename_i h1
      rw[ho]at h1 ⊢
      rw[if_neg h1]
      have aV:o-L.length*sz<M.length*sz:=by rw[Nat.add_mul]at cC;omega
      rw[List.getElem?_append_left (by rw[hn];exact aV)]
      exact qM _ aV)
   (fun i x j c hx hc=>(Db hL hx hc hf hh hM).mono fun b o h=>⟨.inl h,vo b o (hI.nH h)⟩)
  rw[hlen]at bt
  refine .v _ _ _ ?_
  have gZ:=bd.own (w:=w.drew.alloc (.cells (fh++news++rest).toArray te)) (St:=fun b o=>g.St b o∨(b=w.heap.size∧o<(L.length+M.length)*sz)) (base:=w0.heap.size)
   (gJ w0.heap.size (w.drew.alloc (.cells (fh++news++rest).toArray te)) {St:=fun b o=>g.St b o∨(b=w.heap.size∧o<(L.length+M.length)*sz),bx:=g.bx,ow:=fun b=>if b=w.heap.size then(dst.map fun d=>.s d 0)else g.ow b} d 0)
   sz (L++M) w.heap.size cap (by rw[hlen];exact bt) ja ?_
  ·rw[hlen]at gZ;exact gZ
  ·refine⟨by simp[hd],hle,fun hb=>by have:=(hI.eb _ hb).2;omega,⟨_,te,iC,cp⟩,fun o ho=>?_⟩
   rw[hlen]at ho
   rintro(h|h)
   ·have:=hI.nH h;omega
   ·omega
 ·rcases h with h|h
  ·have:=hI.cP b o h
   exact⟨this.1,this.2.1,by omega⟩
  ·obtain⟨rfl,_⟩:=h
   exact⟨.inr hle,fun hb=>by have:=(hI.eb _ hb).2;omega,by omega⟩
theorem Inv.room(hI:Inv gl w0 ay e a w g){an:List Slot}{lost:Nat→Prop}{dst:Option Nat}(hH:qk e an lost dst){sz:Nat}{L M:List D}{cap gg i0:Nat}{news:List Value}
  (oK:ga w0.heap.size w g (.s i0 0) gg (L.length*sz) (cap*sz))(hl:lost i0)
  (tI:bj w g.St (.sl .ro sz L) (.slice (some ⟨gg,0,none⟩) L.length cap)){cur:Array Value}{te:TypeId}(lq:w.heap[gg]? =some (.cells cur te (0,0)))(cp:cur.size=cap*sz)
  (hM:∀x∈M,x.cells.length=sz)(jR:∀x∈M,∀c∈x.cells,c.one=true)
  (hn:news.length=M.length*sz)(b9:L.length+M.length≤cap)(ja:cap≤maxLen)
  {h:Nat→Value}(qM:∀j,j<M.length*sz→news[j]? =some (h j))(hh:∀(i:Nat)x(j:Nat)c,M[i]? =some x→x.cells[j]? =some c→bj w g.St c (h (i*sz+j))):
  ∃g',Inv gl w0 ay ⟨cz an dst (.v (.own sz (L++M))),e.boxes⟩ (a.put dst (.slice (some ⟨gg,0,none⟩) (L.length+M.length) cap))
   (w.setRow gg (cur.toList.take (L.length*sz)++news++cur.toList.drop (L.length*sz+news.length)).toArray) g':=by
 obtain⟨o1,o2,o3,_,o5⟩:=oK
 have nP:gg<w.heap.size:=(Array.getElem?_eq_some_iff.1 lq).1
 have nI:L.length*sz+M.length*sz≤cap*sz:=by rw[←Nat.add_mul];exact Nat.mul_le_mul_right _ b9
 let w':=w.setRow gg (cur.toList.take (L.length*sz)++news++cur.toList.drop (L.length*sz+news.length)).toArray
 let g':Gh:={St:=fun b o=>g.St b o∨(b=gg∧o<(L.length+M.length)*sz),bx:=g.bx,ow:=fun b=>if b=gg then(dst.map fun d=>.s d 0)else g.ow b}
 have ee:∀k,k≠gg→w'.heap[k]? =w.heap[k]? :=fun k hk=>setRow_other w gg k _ hk
 have iC:w'.heap[gg]? =some (.cells (cur.toList.take (L.length*sz)++news++cur.toList.drop (L.length*sz+news.length)).toArray te (0,0)):=setRow_heap w gg cur _ te (0,0) lq
 have kJ:∀o,w'.cell? ⟨gg,o,none⟩=if o<L.length*sz then cur[o]? else if o<L.length*sz+M.length*sz then news[o-L.length*sz]? else cur[o]? :=by
  intro o
  rw[cell_of_row w' gg o _ te (0,0) iC]
  simp only[List.getElem?_toArray]
  rw[s9 cur.toList news (L.length*sz) (by simp[cp,hn];omega)]
  simp only[hn,Array.getElem?_toList]
 have vo:∀b o,(b=gg→o<L.length*sz)→w'.cell? ⟨b,o,none⟩=w.cell? ⟨b,o,none⟩:=by
  intro b o hb
  by_cases lE:b=gg
  ·subst lE
   rw[kJ,if_pos (hb rfl),cell_of_row w b o cur te (0,0) lq]
  ·exact World.cell?_of_block (ee b lE)
 have hX:Ext w0.heap.size w g w' g' (wF lost dst):=by
  refine⟨fun D ob hb dH h=>(have ck:D≠gg:=(fun e=>by rw[e,o1]at dH;cases dH);⟨(ee D ck).trans h,hb,(by
   show(if D=gg then(dst.map fun d=>Pos.s d 0)else g.ow D)=none
   rw[if_neg ck];exact dH),fun x hx=>hx.elim id fun e=>absurd e.1 ck⟩),fun b o h=>⟨.inl h,vo b o (fun hb=>?_),fun es c hm=>(ee b (fun hb=>by rw[hb,lq]at hm;cases hm)).trans hm⟩,fun b o hb=>vo b o (fun h=>by omega),fun _ _ h=>h,fun p b a' c' hp cC=>?_,fun b c ty hb=>(by
   by_cases lE:b=gg
   ·subst lE
    rw[lq]at hb;cases hb
    refine⟨_,_,iC,?_⟩
    have dw:cur.toList.length=cap*sz:=by simpa using cp
    rw[List.size_toArray,List.length_append,List.length_append,List.length_take,List.length_drop,hn,dw,cp];omega
   ·exact⟨c,ty,(ee b lE).trans hb,rfl⟩)⟩
  ·subst hb
   rcases Nat.lt_or_ge o (L.length*sz)with h1|h1
   ·exact h1
   ·exact absurd h (o5 o h1)
  ·obtain⟨h1,h2,h3,⟨mC,ty,h4,kN⟩,h5⟩:=cC
   have lE:b≠gg:=by
    rintro rfl
    rw[o1]at h1
    cases h1
    exact hp ⟨i0,0,rfl,.inl hl⟩
   refine⟨⟨?_,h2,h3,⟨mC,ty,(ee b lE).trans h4,kN⟩,fun o ho=>?_⟩,fun _=>ee b lE⟩
   ·show(if b=gg then(dst.map fun d=>Pos.s d 0)else g.ow b)=some p
    rw[if_neg lE];exact h1
   ·rintro(h|h)
    ·exact h5 o ho h
    ·exact lE h.1
 refine⟨g',hI.hand hH hX ⟨rfl,rfl,rfl,by simp[w',World.setRow],fun k hk=>ee k (by omega)⟩ (fun d hd=>?_) rfl (fun b hb=>ee b (fun h=>o3 (h▸hb))) (fun b o h=>?_)⟩
 ·have hlen:(L++M).length =L.length+M.length:=List.length_append
  cases tI with
  |jN _ _ _ ha=>exact absurd rfl ha
  |sl _ _ _ _ _ vs O7 hm hL oJ bF hc=>
   have bt:=bj.sl (w:=w') (St:=g'.St) sz (L++M) gg 0 cap
    (fun o=>if o<L.length*sz then vs o else h (o-L.length*sz)) (by omega) (by omega) (fun x hx=>(List.mem_append.1 hx).elim (hL x) (hM x)) (fun x hx=>(List.mem_append.1 hx).elim (oJ x) (jR x))
    (fun o cC=>by
      rw[hlen,Nat.add_mul]at cC
      refine⟨?_,.inr ⟨rfl,by rw[Nat.add_mul];omega⟩⟩
      rw[Nat.zero_add,kJ]
      split
      ·rename_i h1
       have:=(bF o h1).1
       rw[Nat.zero_add,cell_of_row w gg o cur te (0,0) lq]at this
       exact this
      ·rename_i h1
       exact qM _ (by omega))
    (fun i x j c hx e8=>(Db hL hx e8 hc hh hM).mono hX.Qz)
   refine .v _ _ _ ?_
   have gZ:=bd.own (w:=w') (St:=g'.St) (base:=w0.heap.size) (gJ w0.heap.size w' g' d 0) sz (L++M) gg cap (by rw[hlen]at bt ⊢;exact bt) ja ?_
   ·rw[hlen]at gZ;exact gZ
   ·refine⟨by simp[g',hd],o2,o3,⟨_,te,iC,?_⟩,fun o ho=>?_⟩
    ·have dw:cur.toList.length=cap*sz:=by simpa using cp
     rw[List.size_toArray,List.length_append,List.length_append,List.length_take,List.length_drop,hn,dw];omega
    ·rw[hlen]at ho
     have:L.length*sz≤(L.length+M.length)*sz:=Nat.mul_le_mul_right _ (by omega)
     rintro(h|h)
     ·exact o5 o (by omega) h
     ·omega
 ·have hs:w'.heap.size=w.heap.size:=by simp[w',World.setRow]
  rcases h with h|h
  ·have:=hI.cP b o h
   exact⟨this.1,this.2.1,by omega⟩
  ·obtain⟨rfl,_⟩:=h
   exact⟨.inr o2,o3,by omega⟩
theorem Inv.O8(hI:Inv gl w0 ay e a w g){an:List Slot}{lost:Nat→Prop}{dst:Option Nat}(hH:qk e an lost dst){sz:Nat}{L M:List D}{cap:Nat}{te:TypeId}{fh news rest:List Value}
  (hL:∀x∈L,x.cells.length=sz)(hM:∀x∈M,x.cells.length=sz)(oJ:∀x∈L,∀c∈x.cells,c.one=true)(jR:∀x∈M,∀c∈x.cells,c.one=true)
  (ho:fh.length=L.length*sz)(hn:news.length=M.length*sz)(hr:rest.length=(cap-(L.length+M.length))*sz)(b9:L.length+M.length≤cap)(ja:cap≤maxLen)
  {f h:Nat→Value}(sF:∀j,j<L.length*sz→fh[j]? =some (f j))(qM:∀j,j<M.length*sz→news[j]? =some (h j))
  (hf:∀(i:Nat)x(j:Nat)c,L[i]? =some x→x.cells[j]? =some c→bj w g.St c (f (i*sz+j)))(hh:∀(i:Nat)x(j:Nat)c,M[i]? =some x→x.cells[j]? =some c→bj w g.St c (h (i*sz+j))):
  ∃g',Inv gl w0 ay ⟨cz an dst (.v (.cA sz (L++M))),e.boxes⟩ (a.put dst (.slice (some ⟨w.heap.size,0,none⟩) (L.length+M.length) cap))
   (w.drew.alloc (.cells (fh++news++rest).toArray te)) g':=by
 have hle:w0.heap.size≤w.heap.size:=hI.below.size
 have aQ:(w.drew.alloc (.cells (fh++news++rest).toArray te)).heap.size =w.heap.size+1:=Ag w.drew _
 have hold:=fun b(hb:b<w.heap.size)=>iQ w.drew (.cells (fh++news++rest).toArray te) b hb
 have iC:=uW w.drew (.cells (fh++news++rest).toArray te)
 have vo:∀b o,b<w.heap.size→(w.drew.alloc (.cells (fh++news++rest).toArray te)).cell? ⟨b,o,none⟩=w.cell? ⟨b,o,none⟩:=fun b o hb=>World.cell?_of_block (hold b hb)
 let g':Gh:={St:=g.St,bx:=g.bx,ow:=fun b=>if b=w.heap.size then(dst.map fun d=>.s d 0)else g.ow b}
 have hX:Ext w0.heap.size w g (w.drew.alloc (.cells (fh++news++rest).toArray te)) g' (wF lost dst):=by
  refine⟨fun D o hb ho h=>⟨(hold D (gn h)).trans h,hb,(by
   show(if D=w.heap.size then(dst.map fun d=>Pos.s d 0)else g.ow D)=none
   rw[if_neg (by have:=gn h;omega)];exact ho),fun x hx=>hx⟩,fun b o h=>⟨h,.rA (hold b (hI.nH h))⟩,fun b o h=>vo b o (by omega),fun _ _ h=>h,fun p b a' c' _ cC=>⟨?_,fun _=>hold b cC.lt⟩,.of fun b hb=>hold b hb⟩
  have aV:=cC.lt
  obtain⟨h1,h2,h3,⟨cur,ty,h4,kN⟩,h5⟩:=cC
  refine⟨?_,h2,h3,⟨cur,ty,(hold b aV).trans h4,kN⟩,h5⟩
  show(if b=w.heap.size then(dst.map fun d=>Pos.s d 0)else g.ow b)=some p
  rw[if_neg (by omega)];exact h1
 refine⟨g',hI.hand hH hX ⟨rfl,rfl,rfl,by omega,fun k hk=>hold k (by omega)⟩ (fun d hd=>?_) rfl (fun b hb=>hold b (hI.eb b hb).2) (fun b o h=>?_)⟩
 ·have hlen:(L++M).length =L.length+M.length:=List.length_append
  have cp:(fh++news++rest).toArray.size =cap*sz:=by
   simp only[List.size_toArray,List.length_append,ho,hn,hr]
   rw[←Nat.add_mul,←Nat.add_mul]
   congr 1
   omega
  refine .v _ _ _ ?_
  have hm:=bd.cA (w:=w.drew.alloc (.cells (fh++news++rest).toArray te)) (St:=g.St) (base:=w0.heap.size) (gJ w0.heap.size (w.drew.alloc (.cells (fh++news++rest).toArray te)) g' d 0)
   sz (L++M) w.heap.size cap (fun o=>if o<L.length*sz then f o else h (o-L.length*sz)) (by omega) ja (fun x hx=>(List.mem_append.1 hx).elim (hL x) (hM x)) (fun x hx=>(List.mem_append.1 hx).elim (oJ x) (jR x))
   ⟨by simp[g',hd],hle,fun hb=>by have:=(hI.eb _ hb).2;omega,⟨_,te,iC,cp⟩,fun o _ hs=>by have:=hI.nH hs;omega⟩
   (fun o cC=>by
     rw[hlen]at cC
     rw[cell_of_row _ w.heap.size o _ te (0,0) iC]
     simp only[List.getElem?_toArray]
     rw[List.append_assoc,List.getElem?_append]
     split
     ·rename_i h1
      rw[ho]at h1
      rw[if_pos h1];exact sF o h1
     ·rename_i h1
      rw[ho]at h1 ⊢
      rw[if_neg h1]
      have aV:o-L.length*sz<M.length*sz:=by rw[Nat.add_mul]at cC;omega
      rw[List.getElem?_append_left (by rw[hn];exact aV)]
      exact qM _ aV)
   (fun i x j c hx hc=>(Db hL hx hc hf hh hM).mono fun b o h=>⟨h,vo b o (hI.nH h)⟩)
  rw[hlen]at hm
  exact hm
 ·have:=hI.cP b o h
  exact⟨this.1,this.2.1,by omega⟩
theorem Inv.adv(hI:Inv gl w0 ay e a w g){an:List Slot}{lost:Nat→Prop}{dst:Option Nat}(hH:qk e an lost dst){sz:Nat}{L M:List D}{cap gg i0:Nat}{news:List Value}
  (oK:ga w0.heap.size w g (.s i0 0) gg 0 (cap*sz))(hl:lost i0){vs:Nat→Value}
  (hL:∀x∈L,x.cells.length=sz)(oJ:∀x∈L,∀c∈x.cells,c.one=true)(bF:∀(o:Nat),o<L.length*sz→w.cell? ⟨gg,o,none⟩=some (vs o))
  (hc:∀(i:Nat)x(j:Nat)c,L[i]? =some x→x.cells[j]? =some c→bj w g.St c (vs (i*sz+j))){cur:Array Value}{te:TypeId}(lq:w.heap[gg]? =some (.cells cur te (0,0)))(cp:cur.size=cap*sz)
  (hM:∀x∈M,x.cells.length=sz)(jR:∀x∈M,∀c∈x.cells,c.one=true)
  (hn:news.length=M.length*sz)(b9:L.length+M.length≤cap)(ja:cap≤maxLen)
  {h:Nat→Value}(qM:∀j,j<M.length*sz→news[j]? =some (h j))(hh:∀(i:Nat)x(j:Nat)c,M[i]? =some x→x.cells[j]? =some c→bj w g.St c (h (i*sz+j))):
  ∃g',Inv gl w0 ay ⟨cz an dst (.v (.cA sz (L++M))),e.boxes⟩ (a.put dst (.slice (some ⟨gg,0,none⟩) (L.length+M.length) cap))
   (w.setRow gg (cur.toList.take (L.length*sz)++news++cur.toList.drop (L.length*sz+news.length)).toArray) g':=by
 obtain⟨o1,o2,o3,_,o5⟩:=oK
 have nP:gg<w.heap.size:=(Array.getElem?_eq_some_iff.1 lq).1
 have nI:L.length*sz+M.length*sz≤cap*sz:=by rw[←Nat.add_mul];exact Nat.mul_le_mul_right _ b9
 let w':=w.setRow gg (cur.toList.take (L.length*sz)++news++cur.toList.drop (L.length*sz+news.length)).toArray
 let g':Gh:={St:=g.St,bx:=g.bx,ow:=fun b=>if b=gg then(dst.map fun d=>.s d 0)else g.ow b}
 have ee:∀k,k≠gg→w'.heap[k]? =w.heap[k]? :=fun k hk=>setRow_other w gg k _ hk
 have iC:w'.heap[gg]? =some (.cells (cur.toList.take (L.length*sz)++news++cur.toList.drop (L.length*sz+news.length)).toArray te (0,0)):=setRow_heap w gg cur _ te (0,0) lq
 have kJ:∀o,w'.cell? ⟨gg,o,none⟩=if o<L.length*sz then cur[o]? else if o<L.length*sz+M.length*sz then news[o-L.length*sz]? else cur[o]? :=by
  intro o
  rw[cell_of_row w' gg o _ te (0,0) iC]
  simp only[List.getElem?_toArray]
  rw[s9 cur.toList news (L.length*sz) (by simp[cp,hn];omega)]
  simp only[hn,Array.getElem?_toList]
 have aeB:∀b o,g.St b o→b≠gg:=fun b o h e=>by subst e;exact o5 o (Nat.zero_le _) h
 have A5:(cur.toList.take (L.length*sz)++news++cur.toList.drop (L.length*sz+news.length)).toArray.size =cap*sz:=by
  have dw:cur.toList.length=cap*sz:=by simpa using cp
  rw[List.size_toArray,List.length_append,List.length_append,List.length_take,List.length_drop,hn,dw];omega
 have hX:Ext w0.heap.size w g w' g' (wF lost dst):=by
  refine⟨fun D ob hb dH h=>(have ck:D≠gg:=(fun e=>by rw[e,o1]at dH;cases dH);⟨(ee D ck).trans h,hb,(by
   show(if D=gg then(dst.map fun d=>Pos.s d 0)else g.ow D)=none
   rw[if_neg ck];exact dH),fun x hx=>hx⟩),fun b o h=>⟨h,.rA (ee b (aeB b o h))⟩,fun b o hb=>World.cell?_of_block (ee b (fun h=>by omega)),fun _ _ h=>h,fun p b a' c' hp cC=>?_,fun b c ty hb=>(by
   by_cases lE:b=gg
   ·subst lE
    rw[lq]at hb;cases hb
    exact⟨_,_,iC,A5.trans cp.symm⟩
   ·exact⟨c,ty,(ee b lE).trans hb,rfl⟩)⟩
  obtain⟨h1,h2,h3,⟨mC,ty,h4,kN⟩,h5⟩:=cC
  have lE:b≠gg:=by
   rintro rfl
   rw[o1]at h1
   cases h1
   exact hp ⟨i0,0,rfl,.inl hl⟩
  refine⟨⟨?_,h2,h3,⟨mC,ty,(ee b lE).trans h4,kN⟩,h5⟩,fun _=>ee b lE⟩
  show(if b=gg then(dst.map fun d=>Pos.s d 0)else g.ow b)=some p
  rw[if_neg lE];exact h1
 refine⟨g',hI.hand hH hX ⟨rfl,rfl,rfl,by simp[w',World.setRow],fun k hk=>ee k (by omega)⟩ (fun d hd=>?_) rfl (fun b hb=>ee b (fun h=>o3 (h▸hb))) (fun b o h=>?_)⟩
 ·have hlen:(L++M).length =L.length+M.length:=List.length_append
  refine .v _ _ _ ?_
  have hm:=bd.cA (w:=w') (St:=g.St) (base:=w0.heap.size) (gJ w0.heap.size w' g' d 0)
   sz (L++M) gg cap (fun o=>if o<L.length*sz then vs o else h (o-L.length*sz)) (by omega) ja (fun x hx=>(List.mem_append.1 hx).elim (hL x) (hM x)) (fun x hx=>(List.mem_append.1 hx).elim (oJ x) (jR x))
   ⟨by simp[g',hd],o2,o3,⟨_,te,iC,A5⟩,fun o _ hs=>o5 o (Nat.zero_le _) hs⟩
   (fun o cC=>by
     rw[hlen,Nat.add_mul]at cC
     rw[kJ]
     split
     ·rename_i h1
      have:=bF o h1
      rw[cell_of_row w gg o cur te (0,0) lq]at this
      exact this
     ·rename_i h1
      exact qM _ (by omega))
   (fun i x j c hx e8=>(Db hL hx e8 hc hh hM).mono hX.Qz)
  rw[hlen]at hm
  exact hm
 ·have hs:w'.heap.size=w.heap.size:=by simp[w',World.setRow]
  have:=hI.cP b o h
  exact⟨this.1,this.2.1,by omega⟩
theorem U6{t:TypeId}{z:List D}(h:j0 P t=some z):∃i zv,P.info? t=some i∧i.zero=some zv∧zv.cells.size=z.length:=by
 unfold j0 at h
 split at h
 ·rename_i i hi
  split at h
  ·rename_i zv hz
   exact⟨i,zv,hi,hz,by have:=(Ad (w:=default) (St:=fun _ _=>False) h).1;simpa using this.symm⟩
  ·cases h
 ·cases h
theorem CA(z:Array Value)(n:Nat):∃l:List Value,Builtin.zeroCells z n=l.toArray∧l.length=n*z.size:=by
 refine⟨(Builtin.zeroCells z n).toList,by simp,by simp[size_zeroCells]⟩
theorem Uk(hI:Inv gl w0 ay e a w g){an:List Slot}{lost:Nat→Prop}{dst:Option Nat}(hH:qk e an lost dst){t ty e':TypeId}{i:TypeInfo}{zv:Value}{sz:Nat}
  (ht:P.underlying t=some (.slice e'))(hi:P.info? e'=some i)(hz:i.zero=some zv)(aQ:i.size=sz)(jc:zv.cells.size=sz)(zk:0<sz)
  {sx sy:SV}{vx vy:Value}{O Oy:Nat→Nat→Nat→Prop}(rx:bd w g.St w0.heap.size O sx vx)(ry:bd w g.St w0.heap.size Oy sy vy)
  (hO:∀b a' c,O b a' c→∃i0,ga w0.heap.size w g (.s i0 0) b a' c∧lost i0){r:SV}{n:Nat}(h:kH sz sx sy=some (r,n))(hb:n*i.bytes≤140737488355328)(il:0<i.bytes):
  ∃v w' g',(Builtin.append_ #[t,t] ty #[vx,vy]).run P w=.ok v w'∧Inv gl w0 ay ⟨cz an dst (.v r),e.boxes⟩ (a.put dst v) w' g':=by
 subst aQ
 unfold kH at h
 split at h
 ·cases h
 ·rename_i M hM
  have hy:=Lz hM ry
  have adw:M=[]→vy=.slice none 0 0∨∃ad c,vy=.slice (some ad) 0 c:=by
   intro hm
   subst hm
   rcases hy with⟨h,_⟩|⟨b,off,cap,vs,h,_⟩
   ·exact h
   ·exact .inr ⟨_,_,h⟩
  have same:∀(base:Option Addr)(m cap:Nat),M=[]→m≤cap→vx=.slice base m cap→∀(r:SV)(g':Gh),Ext w0.heap.size w g w g' (wF lost dst)→g'.bx=g.bx→g'.St=g.St→
    (∀d,dst=some d→bd w g'.St w0.heap.size (gJ w0.heap.size w g' d 0) r vx)→
    ∃v w' g',(Builtin.append_ #[t,t] ty #[vx,vy]).run P w=.ok v w'∧Inv gl w0 ay ⟨cz an dst (.v r),e.boxes⟩ (a.put dst v) w' g':=by
   intro base m cap hm hle hv r g' hX dQ b4 hr
   refine⟨vx,w,g',by rw[hv];exact Tf ht hi base m cap hle (adw hm),hI.hand hH hX (Below.refl _ _) (fun d hd=>.v _ _ _ (hr d hd)) dQ (fun _ _=>rfl) (fun b o h=>?_)⟩
   rw[b4]at h
   exact hI.cP b o h
  have grow:∀(L:List D)(ad:Addr)(cap:Nat),M≠[]→vx=.slice (some ad) L.length cap→bj w g.St (.sl .ro i.size L) vx→cap<L.length+M.length→(L.length+M.length)*i.bytes≤140737488355328→
    ∃v w' g',(Builtin.append_ #[t,t] ty #[vx,vy]).run P w=.ok v w'∧Inv gl w0 ay ⟨cz an dst (.v (.own i.size (L++M))),e.boxes⟩ (a.put dst v) w' g':=by
   intro L ad cap hm hv hL aV eJ
   rcases hy with⟨_,h0⟩|⟨b,off,tJ,ys,pJ,_,_,ki,jR,vJ,kO⟩
   ·exact absurd h0 hm
   ·rw[hv]at hL
    cases hL with
    |jN _ _ _ ha=>
     obtain⟨news,nl,nc,ng⟩:=wb (w:=w) (n:=M.length) (sz:=i.size) (vs:=ys) vJ
     have aT:(0+M.length)*1≤(0+M.length)*i.bytes:=Nat.mul_le_mul_left _ il
     simp only[List.length_nil]at aV eJ
     have lp:0+M.length≤maxLen:=by simp only[maxLen];omega
     have bz:=run_append_grow (P:=P) w t ty e' i zv ht hi hz ad 0 cap [] (by simp) (by simp) ⟨b,off,none⟩ M.length tJ news nl nc aV (by omega) (growslice_fits aV eJ)
     obtain⟨rest,tZ,ma⟩:=CA zv.cells (grownCap w (0+M.length) cap e'-(0+M.length))
     rw[tZ]at bz
     have jQ:=grownCap_ge w (0+M.length) cap e'
     obtain⟨g',iH⟩:=hI.grow hH (sz:=i.size) (L:=[]) (M:=M) (cap:=grownCap w (0+M.length) cap e') (te:=e') (fh:=[]) (news:=news) (rest:=rest) (f:=fun _=>.bool false) (by simp) ki (by simp) jR (by simp) nl (by rw[ma,jc];rfl) jQ
      (grownCap_le_maxLen w _ cap e' lp) (by simp) ng (by simp) kO
     refine⟨_,_,g',by rw[hv,pJ];exact bz,?_⟩
     simpa using iH
    |sl _ _ bx ox _ vs b9 ua B8 oJ iZ vK=>
     obtain⟨fh,ol,oc,og⟩:=wb (w:=w) (n:=L.length) (sz:=i.size) (vs:=vs) iZ
     obtain⟨news,nl,nc,ng⟩:=wb (w:=w) (n:=M.length) (sz:=i.size) (vs:=ys) vJ
     have aT:(L.length+M.length)*1≤(L.length+M.length)*i.bytes:=Nat.mul_le_mul_left _ il
     have lp:L.length+M.length≤maxLen:=by simp only[maxLen];omega
     have bz:=run_append_grow (P:=P) w t ty e' i zv ht hi hz ⟨bx,ox,none⟩ L.length cap fh ol oc ⟨b,off,none⟩ M.length tJ news nl nc aV (by omega) (growslice_fits aV eJ)
     obtain⟨rest,tZ,ma⟩:=CA zv.cells (grownCap w (L.length+M.length) cap e'-(L.length+M.length))
     rw[tZ]at bz
     have jQ:=grownCap_ge w (L.length+M.length) cap e'
     obtain⟨g',iH⟩:=hI.grow hH (sz:=i.size) (L:=L) (M:=M) (cap:=grownCap w (L.length+M.length) cap e') (te:=e') (fh:=fh) (news:=news) (rest:=rest) B8 ki oJ jR ol nl (by rw[ma,jc]) jQ
      (grownCap_le_maxLen w _ cap e' lp) og ng vK kO
     refine⟨_,_,g',by rw[hv,pJ];exact bz,?_⟩
     simpa using iH
  split at h
  ·
   rename_i s L
   split at h
   ·rename_i hs
    cases h
    subst hs
    cases rx with
    |own _ _ _ gg cap tI ja ho=>
     obtain⟨i0,oK,hl⟩:=hO _ _ _ ho
     by_cases hm:M=[]
     ·subst hm
      simp only[List.append_nil]
      have b9:L.length≤cap:=by cases tI with|sl _ _ _ _ _ _ b9=>exact b9|jN _ _ _ ha=>exact absurd rfl ha
      cases dst with
      |none=>
       refine same _ _ _ rfl b9 rfl _ g ⟨fun _ _ hb ho h=>⟨h,hb,ho,fun _ h=>h⟩,fun _ _ h=>(by first|exact⟨h,rfl⟩|exact⟨h,.refl _ _ _⟩),fun _ _ _=>rfl,fun _ _ h=>h,fun _ _ _ _ _ h=>⟨h,.refl _ _ _⟩,.refl _⟩ rfl rfl (fun d hd=>by cases hd)
      |some d=>
       refine same _ _ _ rfl b9 rfl _ (g.mv gg (.s d 0)) (Ext.mv oK hl _ _) rfl rfl (fun d' hd=>?_)
       cases hd
       refine .own _ i.size L gg cap tI ja ?_
       obtain⟨_,h2,h3,h4,h5⟩:=oK
       exact⟨by simp[Gh.mv],h2,h3,h4,h5⟩
     ·by_cases tt:L.length+M.length≤cap
      ·rcases hy with⟨_,h0⟩|⟨b,off,tJ,ys,pJ,_,_,ki,jR,vJ,kO⟩
       ·exact absurd h0 hm
       ·obtain⟨news,nl,nc,ng⟩:=wb (w:=w) (n:=M.length) (sz:=i.size) (vs:=ys) vJ
        have IA:=oK
        obtain⟨_,_,_,⟨cur,te,lq,cp⟩,_⟩:=IA
        have lA:∀u∈news,u.oneCell'=true:=by
         intro u hu
         obtain⟨j,hj⟩:=List.mem_iff_getElem?.1 hu
         have jS:j<M.length*i.size:=by rw[←nl];exact(List.getElem?_eq_some_iff.1 hj).1
         rw[ng j jS]at hj
         cases hj
         have hq:j / i.size<M.length:=Nat.div_lt_of_lt_mul (by rw[Nat.mul_comm];exact jS)
         have wT:=Nat.mod_lt j zk
         have eD:M[j / i.size]∈M:=List.getElem_mem hq
         have dw:=ki _ eD
         have hc:(M[j / i.size]).cells[j % i.size]? =some ((M[j / i.size]).cells[j % i.size]'(by omega)):=by simp
         have:=kO (j / i.size) _ (j % i.size) _ (List.getElem?_eq_getElem hq) hc
         rw[Nat.mul_comm,Nat.div_add_mod]at this
         exact this.rG (jR _ eD _ (List.getElem_mem _))
        have nI:L.length*i.size+news.length≤cur.size:=by rw[nl,cp,←Nat.add_mul];exact Nat.mul_le_mul_right _ tt
        have bz:=KV (P:=P) (w:=w) (ty:=ty) ht hi lq (ad:=⟨b,off,none⟩) (m:=M.length) (c:=tJ) news nl nc lA tt nI
        obtain⟨g',iH⟩:=hI.room hH oK hl tI lq cp ki jR nl tt ja ng kO
        exact⟨_,_,g',by rw[pJ];exact bz,iH⟩
      ·exact grow L ⟨gg,0,none⟩ cap hm rfl tI (by omega) hb
   ·cases h
  ·
   rename_i s L
   split at h
   ·rename_i hs
    subst hs
    cases rx with
    |full _ _ _ ad tI=>
     split at h
     ·rename_i hm
      cases h
      exact same _ _ _ hm (Nat.le_refl _) rfl _ g ⟨fun _ _ hb ho h=>⟨h,hb,ho,fun _ h=>h⟩,fun _ _ h=>(by first|exact⟨h,rfl⟩|exact⟨h,.refl _ _ _⟩),fun _ _ _=>rfl,fun _ _ h=>h,fun _ _ _ _ _ h=>⟨h,.refl _ _ _⟩,.refl _⟩ rfl rfl (fun d hd=>.full _ i.size L ad tI)
     ·rename_i hm
      cases h
      have:0<M.length:=List.length_pos_iff.2 hm
      exact grow L ad L.length hm rfl tI (by omega) hb
   ·cases h
  ·
   have hd:=rx.data
   split at h
   ·rename_i hm
    cases h
    cases hd
    exact same none 0 0 hm (Nat.le_refl _) rfl _ g ⟨fun _ _ hb ho h=>⟨h,hb,ho,fun _ h=>h⟩,fun _ _ h=>(by first|exact⟨h,rfl⟩|exact⟨h,.refl _ _ _⟩),fun _ _ _=>rfl,fun _ _ h=>h,fun _ _ _ _ _ h=>⟨h,.refl _ _ _⟩,.refl _⟩ rfl rfl (fun d hd=>.d _ _ _ (.jm _))
   ·rename_i hm
    cases h
    cases hd
    rcases hy with⟨_,h0⟩|⟨b,off,tJ,ys,pJ,_,_,ki,jR,vJ,kO⟩
    ·exact absurd h0 hm
    ·obtain⟨news,nl,nc,ng⟩:=wb (w:=w) (n:=M.length) (sz:=i.size) (vs:=ys) vJ
     have h0:0<M.length:=List.length_pos_iff.2 hm
     have aT:M.length*1≤M.length*i.bytes:=Nat.mul_le_mul_left _ il
     have lp:M.length≤maxLen:=by simp only[maxLen];omega
     have bz:=run_append_nil (P:=P) w t ty e' i zv ht hi hz ⟨b,off,none⟩ M.length tJ news nl nc h0 (by omega) (by omega)
     obtain⟨rest,tZ,ma⟩:=CA zv.cells (grownCap w M.length 0 e'-M.length)
     rw[tZ]at bz
     have jQ:=grownCap_ge w M.length 0 e'
     rename_i mk _ _
     cases EZ:Nat.beq mk AE with
     |false=>
      obtain⟨g',iH⟩:=hI.grow hH (sz:=i.size) (L:=[]) (M:=M) (cap:=grownCap w M.length 0 e') (te:=e') (fh:=[]) (news:=news) (rest:=rest) (by simp) ki (by simp) jR (by simp) nl (by rw[ma,jc];simp) (by simpa using jQ)
       (grownCap_le_maxLen w _ 0 e' lp) (f:=fun _=>undef) (by simp) ng (by simp) kO
      refine⟨_,_,g',by rw[pJ];exact bz,?_⟩
      simpa using iH
     |true=>
      obtain⟨g',iH⟩:=hI.O8 hH (sz:=i.size) (L:=[]) (M:=M) (cap:=grownCap w M.length 0 e') (te:=e') (fh:=[]) (news:=news) (rest:=rest) (by simp) ki (by simp) jR (by simp) nl (by rw[ma,jc];simp) (by simpa using jQ)
       (grownCap_le_maxLen w _ 0 e' lp) (f:=fun _=>undef) (by simp) ng (by simp) kO
      refine⟨_,_,g',by rw[pJ];exact bz,?_⟩
      simpa using iH
  ·
   rename_i s L
   split at h
   ·rename_i hs
    cases h
    subst hs
    cases rx with
    |cA _ _ _ gg cap vs b9 ja B8 oJ ho iZ vK=>
     obtain⟨i0,oK,hl⟩:=hO _ _ _ ho
     by_cases hm:M=[]
     ·subst hm
      simp only[List.append_nil]
      cases dst with
      |none=>
       refine same _ _ _ rfl b9 rfl _ g ⟨fun _ _ hb ho h=>⟨h,hb,ho,fun _ h=>h⟩,fun _ _ h=>⟨h,.refl _ _ _⟩,fun _ _ _=>rfl,fun _ _ h=>h,fun _ _ _ _ _ h=>⟨h,.refl _ _ _⟩,.refl _⟩ rfl rfl (fun d hd=>by cases hd)
      |some d=>
       refine same _ _ _ rfl b9 rfl _ (g.mv gg (.s d 0)) (Ext.mv oK hl _ _) rfl rfl (fun d' hd=>?_)
       cases hd
       refine .cA _ i.size L gg cap vs b9 ja B8 oJ ?_ iZ vK
       obtain⟨_,h2,h3,h4,h5⟩:=oK
       exact⟨by simp[Gh.mv],h2,h3,h4,h5⟩
     ·rcases hy with⟨_,h0⟩|⟨b,off,tJ,ys,pJ,_,_,ki,jR,vJ,kO⟩
      ·exact absurd h0 hm
      ·obtain⟨news,nl,nc,ng⟩:=wb (w:=w) (n:=M.length) (sz:=i.size) (vs:=ys) vJ
       have IA:=oK
       obtain⟨_,_,_,⟨cur,te,lq,cp⟩,_⟩:=IA
       by_cases tt:L.length+M.length≤cap
       ·have lA:∀u∈news,u.oneCell'=true:=by
         intro u hu
         obtain⟨j,hj⟩:=List.mem_iff_getElem?.1 hu
         have jS:j<M.length*i.size:=by rw[←nl];exact(List.getElem?_eq_some_iff.1 hj).1
         rw[ng j jS]at hj
         cases hj
         have hq:j / i.size<M.length:=Nat.div_lt_of_lt_mul (by rw[Nat.mul_comm];exact jS)
         have wT:=Nat.mod_lt j zk
         have eD:M[j / i.size]∈M:=List.getElem_mem hq
         have dw:=ki _ eD
         have hc:(M[j / i.size]).cells[j % i.size]? =some ((M[j / i.size]).cells[j % i.size]'(by omega)):=by simp
         have:=kO (j / i.size) _ (j % i.size) _ (List.getElem?_eq_getElem hq) hc
         rw[Nat.mul_comm,Nat.div_add_mod]at this
         exact this.rG (jR _ eD _ (List.getElem_mem _))
        have nI:L.length*i.size+news.length≤cur.size:=by rw[nl,cp,←Nat.add_mul];exact Nat.mul_le_mul_right _ tt
        have bz:=KV (P:=P) (w:=w) (ty:=ty) ht hi lq (ad:=⟨b,off,none⟩) (m:=M.length) (c:=tJ) news nl nc lA tt nI
        obtain⟨g',iH⟩:=hI.adv hH oK hl B8 oJ iZ vK lq cp ki jR nl tt ja ng kO
        exact⟨_,_,g',by rw[pJ];exact bz,iH⟩
       ·obtain⟨fh,ol,oc,og⟩:=wb (w:=w) (b:=gg) (off:=0) (St:=fun _ _=>True) (n:=L.length) (sz:=i.size) (vs:=vs) (fun o ho=>⟨by rw[Nat.zero_add];exact iZ o ho,trivial⟩)
        have aT:(L.length+M.length)*1≤(L.length+M.length)*i.bytes:=Nat.mul_le_mul_left _ il
        have lp:L.length+M.length≤maxLen:=by simp only[maxLen];omega
        have bz:=run_append_grow (P:=P) w t ty e' i zv ht hi hz ⟨gg,0,none⟩ L.length cap fh ol oc ⟨b,off,none⟩ M.length tJ news nl nc (by omega) (by omega) (growslice_fits (by omega) hb)
        obtain⟨rest,tZ,ma⟩:=CA zv.cells (grownCap w (L.length+M.length) cap e'-(L.length+M.length))
        rw[tZ]at bz
        have jQ:=grownCap_ge w (L.length+M.length) cap e'
        obtain⟨g',iH⟩:=hI.O8 hH (sz:=i.size) (L:=L) (M:=M) (cap:=grownCap w (L.length+M.length) cap e') (te:=e') (fh:=fh) (news:=news) (rest:=rest) B8 ki oJ jR ol nl (by rw[ma,jc]) jQ
         (grownCap_le_maxLen w _ cap e' lp) og ng vK kO
        refine⟨_,_,g',by rw[pJ];exact bz,?_⟩
        simpa using iH
   ·cases h
  ·cases h
end
end Go.Proofs.YtaknajjmldngiaaGreat.Ab
namespace Go.Proofs.YtaknajjmldngiaaGreat.Ab
open Go Go.RowKit
section
variable{P:Program}{gl:Nat→Option D}{w0:World}{ay:S0}{e:Env}{a:Act}{w:World}{g:Gh}
theorem xZ(f:Slot→SV):∀(l:List Slot),(ia f l).length =l.length∧∀(i:Nat),(ia f l)[i]? =(l[i]?).map f
 |[]=>⟨rfl,fun i=>by simp[ia]⟩
 |s::l=>by
  obtain⟨h1,h2⟩:=xZ f l
  refine⟨by simp[ia,h1],fun i=>?_⟩
  cases i with
  |zero=>rfl
  |succ i=>simp only[ia,List.getElem?_cons_succ];exact h2 i
theorem bd.Ap{St:Nat→Nat→Prop}{base A6:Nat}(hb:base≤A6){O:Nat→Nat→Nat→Prop}{y:SV}{v:Value}(h:bd w St base O y v):bd w St A6 O y v:=by
 induction h with
 |d O x v hd=>exact .d O x v hd
 |own O sz L gg cap hd b9 ho=>exact .own O sz L gg cap hd b9 ho
 |full O sz L ad hd=>exact .full O sz L ad hd
 |ref O cs off b o vs eK bF _ ih=>exact .ref O cs off b o vs (Nat.lt_of_lt_of_le eK hb) bF ih
 |aA O x off b o vs hf bF hc=>exact .aA O x off b o vs hf bF hc
 |dX O f first cap fv cv h1 h2 _ _ ih1 ih2=>exact .dX O f first cap fv cv h1 h2 ih1 ih2
 |cA O sz L gg cap vs h1 h2 h3 h4 h5 h6 h7=>exact .cA O sz L gg cap vs h1 h2 h3 h4 h5 h6 h7
 |mp O l r es clock hh hs hl hc=>exact .mp O l r es clock hh hs hl hc
 |undef O v=>exact .undef O v
theorem Na(hI:Inv gl w0 ay e a w g):∀(n:Nat){O:Nat→Nat→Nat→Nat→Prop}{s:Slot}{v:Value},cH w0.heap.size w g O s v→bd w g.St w.heap.size (fun _ _ _=>False) (snap e.boxes n s) v:=by
 have up:∀{O x v},bd w g.St w0.heap.size O x v→bd w g.St w.heap.size (fun _ _ _=>False) (aa x) v:=by
  intro O x v h
  exact(h.aa (O':=fun _ _ _=>False)).Ap hI.below.size
 intro n
 induction n with
 |zero=>intro O s v _;exact .undef _ _
 |succ n ih=>
  intro O s v h
  cases h with
  |a _ b n sz ao hb=>simp only[snap];exact .undef _ _
  |m _ b ao hb=>simp only[snap];exact .undef _ _
  |v _ x _ h=>simp only[snap];exact up h
  |p _ b off ao hb=>
   simp only[snap]
   split
   ·rename_i cs cp
    obtain⟨h0,c,t,hc,ct,hlen,bt⟩:=hI.boxes b _ ao cp hb
    have iG:=(hI.eb ao (List.mem_of_getElem? hb)).2
    have:=bd.ref (w:=w) (St:=g.St) (base:=w.heap.size) (fun _ _ _=>False) (cs.map aa) off ao 0 (fun i=>c.getD i undef) iG
     (fun i hi=>by
       have EW:i<cs.length:=by simpa using hi
       have eF:i<c.size:=Nat.lt_of_lt_of_le EW hlen
       rw[cell_of_row w ao (0+i) c t (0,0) hc]
       simp[eF]
       exact ct i _ EW (by simp))
     (fun i x hx=>by
       simp only[List.getElem?_map,Option.map_eq_some_iff]at hx
       obtain⟨y,hy,rfl⟩:=hx
       have eF:i<c.size:=Nat.lt_of_lt_of_le (List.getElem?_eq_some_iff.1 hy).1 hlen
       have h1:=bt i y c[i] hy (by simp)
       have h2:=up h1
       simpa[eF]using h2)
    simpa using this
   ·rename_i s' gT
    obtain⟨h0,c,t,hc,ct,hlen,bt⟩:=hI.boxes b _ ao gT hb
    have iG:=(hI.eb ao (List.mem_of_getElem? hb)).2
    have mb:c[0]? =some (c[0]'(by omega)):=by simp
    have:=bd.ref (w:=w) (St:=g.St) (base:=w.heap.size) (fun _ _ _=>False) [snap e.boxes n s'] off ao 0 (fun i=>c.getD i undef) iG
     (fun i hi=>by
       simp at hi;subst hi
       rw[cell_of_row w ao (0+0) c t (0,0) hc]
       simp[hlen]
       exact ct 0 _ Nat.one_pos (by simp))
     (fun i x hx=>by
       cases i with
       |succ i=>simp at hx
       |zero=>
        simp at hx;subst hx
        have:=ih (bt _ mb)
        simpa[hlen]using this)
    simpa using this
   ·exact .undef _ _
  |c _ f first cap fv cv hf hc rf rc=>
   simp only[snap]
   obtain⟨l1,g1⟩:=xZ (snap e.boxes n) first
   obtain⟨l2,g2⟩:=xZ (snap e.boxes n) cap
   refine .dX _ f _ _ fv cv (l1.trans hf) (l2.trans hc) (fun i x v hx hv=>?_) (fun i x v hx hv=>?_)
   ·rw[g1,Option.map_eq_some_iff]at hx
    obtain⟨y,hy,rfl⟩:=hx
    exact ih (rf i y v hy hv)
   ·rw[g2,Option.map_eq_some_iff]at hx
    obtain⟨y,hy,rfl⟩:=hx
    exact ih (rc i y v hy hv)
  |t _ xs vs _ _=>simp only[snap];exact .undef _ _
theorem LQ(au:List af)(ρ:Operand→Slot):∀(l:List Operand),(iW au ρ l).length =l.length∧∀(i:Nat),(iW au ρ l)[i]? =(l[i]?).map fun x=>snap au 6 (ρ x)
 |[]=>⟨rfl,fun i=>by simp[iW]⟩
 |s::l=>by
  obtain⟨h1,h2⟩:=LQ au ρ l
  refine⟨by simp[iW,h1],fun i=>?_⟩
  cases i with
  |zero=>rfl
  |succ i=>simp only[iW,List.getElem?_cons_succ];exact h2 i
def rH(w:World)(St:Nat→Nat→Prop)(args:List SV)(vs:Array Value):Prop:=
 args.length=vs.size∧∀(i:Nat)x v,args[i]? =some x→vs[i]? =some v→bd w St w.heap.size (fun _ _ _=>False) x v
theorem rH.append{St:Nat→Nat→Prop}{xs ys:List SV}{us vs:Array Value}(h:rH w St xs us)(k:rH w St ys vs):rH w St (xs++ys) (us++vs):=by
 refine⟨by simp[h.1,k.1],fun i x v hx hv=>?_⟩
 rw[List.getElem?_append]at hx
 rw[Array.getElem?_append]at hv
 split at hx
 ·rename_i hi
  rw[if_pos (by rw[←h.1];exact hi)]at hv
  exact h.2 i x v hx hv
 ·rename_i hi
  rw[if_neg (by rw[←h.1];exact hi),←h.1]at hv
  exact k.2 _ x v hx hv
theorem Nb(hI:Inv gl w0 ay e a w g)(l:Array Operand):rH w g.St (iW e.boxes (fun x=>(Ab.bc gl e x).aa) l.toList) (l.map a.eval):=by
 obtain⟨h1,h2⟩:=LQ e.boxes (fun x=>(Ab.bc gl e x).aa) l.toList
 refine⟨by rw[h1];simp,fun i x v hx hv=>?_⟩
 rw[h2,Option.map_eq_some_iff]at hx
 obtain⟨y,hy,rfl⟩:=hx
 rw[Array.getElem?_toList]at hy
 simp only[Array.getElem?_map,hy,Option.map_some,Option.some.injEq]at hv
 subst hv
 exact Na hI 6 (hI.bc y)
theorem Ll(hI:Inv gl w0 ay e a w g){l:List Slot}{vs:Array Value}(hl:l.length=vs.size)(h:∀(i:Nat)x v,l[i]? =some x→vs[i]? =some v→cH w0.heap.size w g (fun _ _ _ _=>False) x v):
  rH w g.St (ia (snap e.boxes 6) l) vs:=by
 obtain⟨h1,h2⟩:=xZ (snap e.boxes 6) l
 refine⟨h1.trans hl,fun i x v hx hv=>?_⟩
 rw[h2,Option.map_eq_some_iff]at hx
 obtain⟨y,hy,rfl⟩:=hx
 exact Na hI 6 (h i y v hy hv)
theorem Inv.called(hI:Inv gl w0 ay e a w g){w':World}{cK:Nat→Nat→Prop}{ow:Nat→Option Nat}(hb:Below w.heap.size w w')(h1:∀b o,g.St b o→cK b o)
  (h2:∀b o,cK b o→g.St b o∨(w.heap.size≤b∧b<w'.heap.size))(dst:Option Nat){s:Slot}{v:Value}
  (hs:∀g':Gh,g'.St=cK→(∀d,dst=some d→∀j b a c,tF w.heap.size w' cK ow j b a c→ga w0.heap.size w' g' (.s d j) b a c)→∀d,dst=some d→cH w0.heap.size w' g' (gJ w0.heap.size w' g' d) s v):
  ∃g',Inv gl w0 ay ⟨cz e.an dst s,e.boxes⟩ (a.put dst v) w' g':=by
 have hle:w0.heap.size≤w.heap.size:=hI.below.size
 let g':Gh:={St:=cK,bx:=g.bx,ow:=fun b=>if w.heap.size≤b then(ow b).bind fun j=>dst.map fun d=>Pos.s d j else g.ow b}
 refine⟨g',hI.D9 (g':=g') ⟨fun D o sD ho h=>⟨(hb.block D (gn h)).trans h,sD,(by
  show(if w.heap.size≤D then(ow D).bind fun j=>dst.map fun d=>Pos.s d j else g.ow D)=none
  rw[if_neg (by have:=gn h;omega)];exact ho),fun x hx=>(h2 D x hx).elim id fun e=>(by have:=gn h;omega)⟩,fun b o h=>⟨h1 b o h,.rA (hb.block b (hI.nH h))⟩,fun b o h=>World.cell?_of_block (hb.block b (by omega)),fun _ _ h=>h,fun p b a' c _ ho=>⟨?_,fun _=>hb.block b ho.lt⟩,.of fun b h=>hb.block b h⟩ hb (hs g' rfl (fun d hd j b a c hr=>?_)) rfl h2⟩
 ·have aV:=ho.lt
  obtain⟨o1,o2,o3,⟨cur,te,o4,qN⟩,o5⟩:=ho
  refine⟨?_,o2,o3,⟨cur,te,(hb.block b aV).trans o4,qN⟩,fun o cC b4=>?_⟩
  ·show(if w.heap.size≤b then(ow b).bind fun j=>dst.map fun d=>Pos.s d j else g.ow b)=some p
   rw[if_neg (by omega)];exact o1
  ·rcases h2 b o b4 with h|h
   ·exact o5 o cC h
   ·omega
 ·obtain⟨r1,r2,r3,r4⟩:=hr
  refine⟨?_,by omega,fun hm=>by have:=(hI.eb b hm).2;omega,r3,r4⟩
  show(if w.heap.size≤b then(ow b).bind fun j=>dst.map fun d=>Pos.s d j else g.ow b)=_
  rw[if_pos r2,r1,hd]
  rfl
theorem Hc:∀{n:Nat}{k:List SV→Prop},BU n k→∃rs,rs.length=n∧k rs
 |0,_,h=>⟨[],rfl,h⟩
 |n+1,_,h=>by
  obtain⟨r,h⟩:=h
  obtain⟨rs,hl,h⟩:=Hc h
  exact⟨r::rs,by simp[hl],h⟩
theorem CQ(hI:Inv gl w0 ay e a w g){o:Oper}{n:Nat}{k:Slot→List af→Prop}{f:FuncId}{args:List SV}{vs:Array Value}(hr:rH w g.St args vs)
  (bz:gH P f→(execOp a.eval o).run P w=.ok (.enter f vs) w)(h:lP (aF P gl) n e.boxes k f args):bI P gl w0 ay e.an o a w k:=by
 intro next Q hn
 have go:∀(r:SV)(s:Slot),aF P gl f args r→(∀(w':World)(v:Value)(cK:Nat→Nat→Prop)(ow:Nat→Option Nat),rO w.heap.size w' cK ow r v→∀g':Gh,g'.St=cK→
   ∀d,(∀j b a c,tF w.heap.size w' cK ow j b a c→ga w0.heap.size w' g' (.s d j) b a c)→cH w0.heap.size w' g' (gJ w0.heap.size w' g' d) s v)→k s e.boxes→o.wp P a w next Q:=by
  intro r s hH bt hk
  obtain⟨hE,hH⟩:=hH
  unfold Oper.wp
  rw[bz hE]
  refine(hH w g.St vs (fun b o h=>hI.nH h) hI.jK hr.1 hr.2).mono fun en w'⟨v,he,hb,cK,ow,h1,h2,h3⟩=>?_
  subst he
  obtain⟨g',iH⟩:=hI.called hb h1 h2 o.dst (s:=s) (v:=v) (fun g' jw hO d hd=>bt w' v cK ow h3 g' jw d (hO d hd))
  exact hn s v e.boxes w' g' iH hk
 unfold lP at h
 split at h
 ·obtain⟨r,hH,ht,hk⟩:=h
  refine go r (.v r) hH (fun w' v cK ow h3 g' jw d hO=>.v _ _ _ ?_) hk
  have h3':bd w' cK 0 (tF w.heap.size w' cK ow 0) r v:=by
   cases r<;>first|exact h3|simp[tp]at ht
  have:=(h3'.Ap (Nat.zero_le w0.heap.size))
  rw[←jw]at this
  exact this.mono (fun _ _ h=>(by first|exact⟨h,rfl⟩|exact⟨h,.refl _ _ _⟩)) (fun _ _ _=>rfl) _ (fun b a c h=>⟨hO 0 b a c (by rw[jw]at h;exact h),.refl _ _ _⟩)
 ·obtain⟨rs,hlen,hH,hk⟩:=Hc h
  refine go (.cR rs) (.t rs) hH (fun w' v cK ow h3 g' jw d hO=>?_) hk
  obtain⟨tv,rfl,hl,hc⟩:=h3
  refine .t _ rs tv hl fun j x y hx hy=>?_
  have:=((hc j x y hx hy).Ap (Nat.zero_le w0.heap.size))
  rw[←jw]at this
  exact this.mono (fun _ _ h=>(by first|exact⟨h,rfl⟩|exact⟨h,.refl _ _ _⟩)) (fun _ _ _=>rfl) _ (fun b a c h=>⟨hO j b a c (by rw[jw]at h;exact h),.refl _ _ _⟩)
theorem VR(hI:Inv gl w0 ay e a w g){o:Oper}{c:Call}(ho:o.op=.call c){f:Operand}(hc:c.callee=.value f){n:Nat}{k:Slot→List af→Prop}
  (h:match(Ab.bc gl e f).aa with
    | .v x=>withFn x (iW e.boxes (fun x=>(Ab.bc gl e x).aa) c.args.toList) (lP (aF P gl) n e.boxes k)
    | .c (.func g') first cap=>lP (aF P gl) n e.boxes k g' (ia (snap e.boxes 6) first++iW e.boxes (fun x=>(Ab.bc gl e x).aa) c.args.toList++ia (snap e.boxes 6) cap)
    |_=>False):bI P gl w0 ay e.an o a w k:=by
 have fp:=Nb hI c.args
 have bz:∀{f':FuncId}{first cap:Array Value},a.eval f=.func (.func f') first cap→gH P f'→(execOp a.eval o).run P w=.ok (.enter f' (first++c.args.map a.eval++cap)) w:=by
  intro f' first cap hv hE
  simp[execOp,ho,resolve,hc,hv,Deferred.ofValue,invoke,hE _ w]
 split at h
 ·rename_i x hx
  have hf:=hI.pF hx
  unfold withFn at h
  split at h
  ·rename_i f'
   have hv:a.eval f=.func (.func f') #[] #[]:=by
    have:=hf.data
    generalize a.eval f=u at this
    cases this;rfl
   refine CQ hI fp (fun hE=>?_) h
   rw[bz hv hE];simp
  ·rename_i f' first cap
   generalize hv:a.eval f=u at hf
   cases hf with
   |dX _ _ _ _ fv cv oH pM rf rc=>
    have up:∀{xs:List SV}{vs:Array Value},xs.length=vs.size→(∀(i:Nat)x v,xs[i]? =some x→vs[i]? =some v→bd w g.St w0.heap.size (fun _ _ _=>False) x v)→rH w g.St xs vs:=
     fun hl hr=>⟨hl,fun i x v hx hv=>(hr i x v hx hv).Ap hI.below.size⟩
    exact CQ hI (((up oH rf).append fp).append (up pM rc)) (fun hE=>bz hv hE) h
  ·exact h.elim
 ·rename_i f' first cap hs
  have hf:=hI.lZ hs
  generalize hv:a.eval f=u at hf
  cases hf with
  |c _ _ _ _ fv cv oH pM rf rc=>exact CQ hI (((Ll hI oH rf).append fp).append (Ll hI pM rc)) (fun hE=>bz hv hE) h
 ·exact h.elim
theorem W3{t:TypeId}{name:String}{f:FuncId}(h:wI P t name=some f)(fuel:Nat)(v:Value):(Go.method (fuel+1) t v name).run P w=.ok (f,v) w:=by
 unfold wI at h
 split at h
 ·rename_i i hi
  split at h
  ·rename_i m hm
   split at h
   ·rename_i f' hp hf
    have agF:m.path= #[]:=by
     have:m.path.toList=[]:=hp
     exact Array.toList_eq_nil_iff.mp this
    split at h
    ·cases h
    ·rename_i u zH hu
     cases h
     have kg:(underlying t).run P w=.ok u w:=run_underlying hu w
     have lC:(typeInfo t).run P w=.ok i w:=by simp[typeInfo,go_sem,hi]
     have zF:(follow ([]:List FieldStep) t (.val v)).run P w=.ok (t,.val v) w:=by simp[follow]
     have tZ:∀s,(receiverAt t (.val v) false s).run P w=.ok v w:=by
      intro s
      unfold receiverAt
      simp only[Sem.run_bind,kg,Result.andThen_ok]
      cases u<;>first|exact(zH _ rfl).elim |simp[Place.get]
     unfold Go.method
     simp only[Sem.run_bind,lC,Result.andThen_ok,hm,hp,zF,hf,tZ,Sem.run_pure]
    ·cases h
   ·cases h
  ·cases h
 ·cases h
theorem Ul(hI:Inv gl w0 ay e a w g){o:Oper}{c:Call}(ho:o.op=.call c){f:Operand}{name:String}(hc:c.callee=.invoke f name){n:Nat}{k:Slot→List af→Prop}
  (h:match(Ab.bc gl e f).aa with
    | .v x=>tg P x name (iW e.boxes (fun x=>(Ab.bc gl e x).aa) c.args.toList) (lP (aF P gl) n e.boxes k)
    |_=>False):bI P gl w0 ay e.an o a w k:=by
 have fp:=Nb hI c.args
 split at h
 ·rename_i x hx
  have hf:=hI.pF hx
  unfold tg at h
  split at h
  ·rename_i t y
   obtain⟨f',jz,h⟩:=aK h
   have hd:=hf.data
   generalize hv:a.eval f=u at hd
   cases hd with
   |iface _ _ v hy=>
    have hr:rH w g.St (.d y::iW e.boxes (fun x=>(Ab.bc gl e x).aa) c.args.toList) (#[v]++c.args.map a.eval):=by
     have h1:rH w g.St [SV.d y] #[v]:=⟨rfl,fun i x v' hx gS=>by
      cases i with
      |zero=>simp at hx gS;subst hx gS;exact .d _ _ _ hy
      |succ i=>simp at hx⟩
     exact h1.append fp
    refine CQ hI hr (fun hE=>?_) h
    have hmr:=W3 (P:=P) (w:=w) jz (P.types.size+99) v
    have adx:=hE (#[v]++c.args.map a.eval) w
    have h3:(callMethod (.iface t v) name (c.args.map a.eval)).run P w=.ok (.enter f' (#[v]++c.args.map a.eval)) w:=by
     unfold callMethod
     simp only[Sem.run_bind,run_program,Result.andThen_ok,Made.depth]
     rw[hmr]
     simp only[Result.andThen_ok]
     exact adx
    have e2:∀l:Array Value,(#[Value.iface t v]++l)[0]? =some (.iface t v):=fun l=>by simp[Array.getElem?_append]
    have e3:∀l:Array Value,(#[Value.iface t v]++l).extract 1 (#[Value.iface t v]++l).size =l:=fun l=>by
     apply Array.ext'
     simp[List.take_of_length_le]
    have h4:(invoke (.fn (.method name) #[]) (#[.iface t v]++c.args.map a.eval)).run P w=.ok (.enter f' (#[v]++c.args.map a.eval)) w:=by
     unfold invoke
     simp only[e2,e3]
     exact h3
    simp only[execOp,ho,resolve,hc,hv,Sem.run_bind,Sem.run_pure,Result.andThen_ok]
    exact h4
  ·exact h.elim
 ·exact h.elim
theorem F0(f:Int→Int→Int)(op:Value→Value→Sem Value)(gC:∀k a b,op (.int k a) (.int k b)=pure (.int k (f a b)))(hf:∀a b,f a b=a∨f a b=b):
  ∀(l:List SV)(vs:List Value)(x:SV)(vx:Value)(r:SV),nk f x l=some r→bd w g.St w0.heap.size (fun _ _ _=>False) x vx→l.length=vs.length→
   (∀(i:Nat)y v,l[i]? =some y→vs[i]? =some v→bd w g.St w0.heap.size (fun _ _ _=>False) y v)→
   ∃v,(vs.foldlM op vx).run P w=.ok v w∧bd w g.St w0.heap.size (fun _ _ _=>False) r v
 |[],[],x,vx,r,h,hx,_,_=>by
  unfold nk at h
  split at h
  ·cases h;exact⟨vx,rfl,hx⟩
  ·rename_i heq;cases heq
  ·cases h
 |y::l,v::vs,x,vx,r,h,hx,hl,hr=>by
  unfold nk at h
  split at h
  ·rename_i heq;cases heq
  ·rename_i k n k' n' l' heq
   cases heq
   split at h
   ·rename_i hk
    subst hk
    have hy:=hr 0 _ v rfl rfl
    obtain⟨ex,wx⟩:=hx.data.o8
    obtain⟨ey,wy⟩:=hy.data.o8
    rw[ex,ey]
    have hw:gv k (f n n')=true:=by rcases hf n n' with h|h<;>rw[h]<;>assumption
    obtain⟨u,hu,lD⟩:=F0 f op gC hf l vs _ (.int k (f n n')) r h (.d _ _ _ (.int _ _ hw)) (by simpa using hl) (fun i y u h1 h2=>hr (i+1) y u (by simpa using h1) (by simpa using h2))
    refine⟨u,?_,lD⟩
    rw[List.foldlM_cons,gC]
    exact hu
   ·cases h
  ·cases h
 |[],_::_,_,_,_,_,_,h,_=>by simp at h
 |_::_,[],_,_,_,_,_,h,_=>by simp at h
theorem Nc(hI:Inv gl w0 ay e a w g){o:Oper}{c:Call}(ho:o.op=.call c){b:Builtin}(hc:c.callee=.builtin b){x:Operand}{xs:List Operand}(hx:c.args.toList=x::xs){f:Int→Int→Int}
  (hb:(b=.min ∧f=minD)∨(b=.max ∧f=maxD)){k:Slot→List af→Prop}
  (h:ab (nk f ((Ab.bc gl e x).aa).bu (xs.map fun y=>((Ab.bc gl e y).aa).bu)) fun r=>k (.v r) e.boxes):bI P gl w0 ay e.an o a w k:=by
 obtain⟨r,hr,hk⟩:=aK h
 have fp:(c.args.map a.eval).toList =a.eval x::xs.map a.eval:=by rw[Array.toList_map,hx];rfl
 have Ea:∀(i:Nat)y v,(xs.map fun y=>((Ab.bc gl e y).aa).bu)[i]? =some y→(xs.map a.eval)[i]? =some v→bd w g.St w0.heap.size (fun _ _ _=>False) y v:=by
  intro i y v hy hv
  simp only[List.getElem?_map,Option.map_eq_some_iff]at hy hv
  obtain⟨z,hz,rfl⟩:=hy
  obtain⟨z',jB,rfl⟩:=hv
  rw[hz]at jB;cases jB
  exact hI.gX z
 rcases hb with⟨rfl,rfl⟩|⟨rfl,rfl⟩
 ·obtain⟨v,hv,JH⟩:=F0 (P:=P) (w0:=w0) minD Builtin.min2 (fun k a b=>rfl) (fun a b=>by unfold minD;split<;>simp) _ (xs.map a.eval) _ (a.eval x) r hr (hI.gX x) (by simp) Ea
  refine bI.fm hI (v:=v) ?_ JH hk
  have e1:Builtin.min_ c.argTypes o.type (c.args.map a.eval)=(xs.map a.eval).foldlM Builtin.min2 (a.eval x):=by unfold Builtin.min_;rw[fp]
  simp[execOp,ho,resolve,hc,invoke,builtin,e1,hv]
 ·obtain⟨v,hv,JH⟩:=F0 (P:=P) (w0:=w0) maxD Builtin.max2 (fun k a b=>rfl) (fun a b=>by unfold maxD;split<;>simp) _ (xs.map a.eval) _ (a.eval x) r hr (hI.gX x) (by simp) Ea
  refine bI.fm hI (v:=v) ?_ JH hk
  have e1:Builtin.max_ c.argTypes o.type (c.args.map a.eval)=(xs.map a.eval).foldlM Builtin.max2 (a.eval x):=by unfold Builtin.max_;rw[fp]
  simp[execOp,ho,resolve,hc,invoke,builtin,e1,hv]
end
end Go.Proofs.YtaknajjmldngiaaGreat.Ab
namespace Go.Proofs.YtaknajjmldngiaaGreat.Ab
open Go Go.RowKit
theorem VS{P:Program}{t:TypeId}{z:D}(h:rN P t=some z):∃zv:Value,(∀w:World,(zeroValue t).run P w=.ok zv w)∧∀(w:World)(St:Nat→Nat→Prop),bj w St z zv:=by
 unfold rN at h
 split at h
 ·rename_i i hi
  split at h
  ·rename_i zv hz
   exact⟨zv,fun w=>by simp[zeroValue,typeInfo,hi,hz],fun w St=>yg h⟩
  ·cases h
 ·cases h
def KS.cS:KS→D
 | .bool b=>.bool b
 | .int k n=>.int k n
 | .str s=>.str s
theorem Mp:∀{ks:List CK}{cs:List D}{l:List KS},rZ ks cs=some l→cs=l.map KS.cS∧dO ks cs=true
 |[],[],l,h=>by simp only[rZ,Option.some.injEq]at h;subst h;exact⟨rfl,rfl⟩
 |[],_::_,l,h=>by simp[rZ]at h
 |k::ks,[],l,h=>by cases k<;>simp[rZ]at h
 |k::ks,c::cs,l,h=>by
  cases k<;>cases c<;>simp only[rZ,reduceCtorEq]at h
  all_goals
   split at h
   ·rename_i r hr
    cases h
    obtain⟨h1,h2⟩:=Mp hr
    exact⟨by simp[KS.cS,h1],by simpa[dO]using h2⟩
   ·cases h
theorem Mq:∀{ks:List CK}{l m:List KS},dO ks (l.map KS.cS)=true→KS.j7 l m=true→dO ks (m.map KS.cS)=true
 |[],[],[],_,_=>rfl
 |_::_,[],[],h,_=>by simpa using h
 |[],x::l,y::m,h,_=>by cases x<;>simp[KS.cS,dO]at h
 |k::ks,x::l,y::m,h,h2=>by
  simp only[KS.j7,Bool.and_eq_true]at h2
  cases k<;>cases x<;>cases y<;>simp only[List.map_cons,KS.cS,dO,KS.same,Bool.false_eq_true,false_and,reduceCtorEq]at h h2 ⊢
  all_goals exact Mq h h2.2
 |_,[],_::_,_,h=>by simp[KS.j7]at h
 |_,_::_,[],_,h=>by simp[KS.j7]at h
theorem LR:∀{l m:List KS},KS.j7 l m=true→eW (l.map KS.cS) (m.map KS.cS)=some (decide (l=m))
 |[],[],_=>by simp[eW]
 |x::l,y::m,h=>by
  simp only[KS.j7,Bool.and_eq_true]at h
  have ih:=LR h.2
  have hx:jG x.cS y.cS=some (decide (x=y)):=by
   cases x<;>cases y<;>simp only[KS.same,Bool.false_eq_true,false_and]at h
   ·rename_i a b;simp only[KS.cS,jG,KS.bool.injEq];congr 1
   ·rename_i k a k' b
    have hk:k=k':=by simpa using h.1
    subst hk
    simp only[KS.cS,jG,if_true,KS.int.injEq,true_and];congr 1
   ·rename_i a b;simp only[KS.cS,jG,KS.str.injEq];congr 1
    rw[Bool.eq_iff_iff];simp
  simp only[List.map_cons,eW,hx,ih,List.cons.injEq]
  rw[←Bool.decide_and]
 |[],_::_,h=>by simp[KS.j7]at h
 |_::_,[],h=>by simp[KS.j7]at h
theorem tD.rep{w:World}{St:Nat→Nat→Prop}{k:KS}{v:Value}(h:tD k v):bj w St k.cS v:=by
 cases k with
 |bool b=>subst h;exact .bool b
 |int k n=>obtain⟨rfl,h⟩:=h;exact .int k n h
 |str s=>obtain⟨b,rfl,rfl,h⟩:=h;exact .str b h
theorem tD.of{w:World}{St:Nat→Nat→Prop}{k:KS}{v:Value}(h:bj w St k.cS v):tD k v:=by
 cases k with
 |bool b=>cases h;rfl
 |int k n=>cases h;exact⟨rfl,by assumption⟩
 |str s=>obtain⟨b,e1,e2,e3⟩:=h.ti;exact⟨b,e1,e2.symm,e3⟩
theorem Hd{w:World}{St:Nat→Nat→Prop}{l:List KS}{v:Value}(h:(MK.s l).Is v):gY w St true (l.map KS.cS) v:=by
 obtain⟨vs,rfl,h1,h2⟩:=h
 simp only[gY,if_true]
 refine⟨vs,rfl,by simp[h1],fun i x v hx hv=>?_⟩
 rw[List.getElem?_map,Option.map_eq_some_iff]at hx
 obtain⟨k,hk,rfl⟩:=hx
 exact(h2 i k v hk hv).rep
theorem aaQ{w:World}{St:Nat→Nat→Prop}{l:List KS}{vs:Array Value}(h:j9 w St (l.map KS.cS) vs):(MK.s l).Is (.agg vs):=by
 refine⟨vs,rfl,by have:=h.1;simpa using this.symm,fun i k u hk hu=>?_⟩
 exact tD.of (h.2 i k.cS u (by rw[List.getElem?_map,hk];rfl) hu)
def Ia:Option (List CK)→MK→Prop
 |none,n=>∃m,n=.i m
 |some ks,n=>∃l,n=.s l∧dO ks (l.map KS.cS)=true
def IB(P:Program)(kt:TypeId):Option (List CK)→Prop
 |none=>∃k,P.underlying kt=some (.int k)
 |some ks=>∃fs,P.underlying kt=some (.struct fs)∧shapeOf P 20 kt=some ks∧A2 P fs.toList=true
theorem LS{P:Program}{t et:TypeId}{kd:Option (List CK)}(h:vi P t=some (et,kd)):∃kt,P.underlying t=some (.map kt et)∧IB P kt kd:=by
 unfold vi at h
 split at h
 ·rename_i kt et' hu
  split at h
  ·rename_i k hk;cases h;exact⟨kt,hu,k,hk⟩
  ·rename_i fs hk
   split at h
   ·rename_i ks gD
    cases hf:A2 P fs.toList with
    |true=>rw[hf]at h;cases h;exact⟨kt,hu,fs,hk,gD,hf⟩
    |false=>rw[hf]at h;cases h
   ·cases h
  ·cases h
 ·cases h
def O9(l:List (MK×D))(n:MK)(es:List MapEntry)(i:Nat)(r:Option (Nat×Value)):Prop:=
 (eH l n=none∧r=none)∨∃j x y,r=some (i+j,y.val)∧l[j]? =some x∧es[j]? =some y∧eH l n=some x.2∧x.1=n∧∀(m:Nat)z,m<j→l[m]? =some z→n≠z.1
theorem He{n:MK}{S:List MapEntry→Nat→Option (Nat×Value)→Prop}(h0:∀i,S [] i none)(xt:∀(x:MK×D)e es i,x.1.Is e.key→n.same x.1=true→n=x.1→S (e::es) i (some (i,e.val)))
  (Px:∀(x:MK×D)e es i r,x.1.Is e.key→n.same x.1=true→n≠x.1→S es (i+1) r→S (e::es) i r):∀(es:List MapEntry)(l:List (MK×D))(i:Nat),l.length=es.length→
    (∀(j:Nat)x y,l[j]? =some x→es[j]? =some y→x.1.Is y.key)→nz l n=true→∃r,S es i r∧O9 l n es i r
 |[],l,i,hl,_,_=>by
  have:l=[]:=List.eq_nil_of_length_eq_zero hl
  subst this
  exact⟨none,h0 i,.inl ⟨rfl,rfl⟩⟩
 |e::es,[],i,hl,_,_=>by simp at hl
 |e::es,x::l,i,hl,hk,hs=>by
  simp only[nz,List.all_cons,Bool.and_eq_true]at hs
  have he:=hk 0 x e rfl rfl
  by_cases h:n=x.1
  ·exact⟨some (i,e.val),xt x e es i he hs.1 h,.inr ⟨0,x,e,rfl,rfl,rfl,by rw[eH,if_pos h],h.symm,fun m z hm=>by omega⟩⟩
  ·obtain⟨r,h1,h2⟩:=He h0 xt Px es l (i+1) (by simpa using hl) (fun j x y a b=>hk (j+1) x y (by simpa using a) (by simpa using b)) hs.2
   refine⟨r,Px x e es i r he hs.1 h h1,?_⟩
   rcases h2 with⟨h2,h3⟩|⟨j,x',y,a,b,c,d,d',f⟩
   ·exact .inl ⟨by rw[eH,if_neg h];exact h2,h3⟩
   ·refine .inr ⟨j+1,x',y,by rw[a];congr 2;omega,by simpa using b,by simpa using c,by rw[eH,if_neg h];exact d,d',fun m z hm hz=>?_⟩
    cases m with
    |zero=>simp at hz;subst hz;exact h
    |succ m=>exact f m z (by omega) (by simpa using hz)
theorem LC{P:Program}{w:World}{kt:TypeId}{kd:Option (List CK)}(qO:IB P kt kd){n:MK}{kv:Value}(hn:n.Is kv)(dH:Ia kd n)
  (es:List MapEntry)(l:List (MK×D))(hl:l.length=es.length)(hk:∀(j:Nat)x y,l[j]? =some x→es[j]? =some y→x.1.Is y.key)(hs:nz l n=true):
  ∃r,(Instr.findKey kt kv es).run P w=.ok r w∧O9 l n es 0 r:=by
 cases kd with
 |none=>
  obtain⟨k,hu⟩:=qO
  obtain⟨m,rfl⟩:=dH
  obtain⟨rfl,_⟩:=hn
  obtain⟨r,h1,h2⟩:=He (n:=.i m) (S:=fun es i r=>Instr.findNow (.int k) (.int .i64 m) es i=some r) (fun i=>rfl)
   (fun x e es i he nQ hx=>by
     rw[←hx]at he
     rw[Instr.findNow,show e.key=_ from he.1];simp[Instr.sameNow])
   (fun x e es i r he nQ hx hr=>by
     cases gi:x.1 with
     |i m'=>
      rw[gi]at he hx
      rw[Instr.findNow,show e.key=_ from he.1]
      have:(m==m')=false:=by simpa using fun h=>hx (by rw[h])
      simp[Instr.sameNow,this,hr]
     |s l=>rw[gi]at nQ;cases nQ) es l 0 hl hk hs
  exact⟨r,by simp[Instr.findKey,run_underlying hu,h1],h2⟩
 |some ks=>
  obtain⟨fs,hu,aY,_⟩:=qO
  obtain⟨kl,rfl,jO⟩:=dH
  have xn:dh P kt=some true:=by simp[dh,hu]
  have heq:∀(l':List KS)(v:Value),(MK.s l').Is v→KS.j7 kl l'=true→(Op.equal kt kv v).run P w=.ok (decide (kl=l')) w:=fun l' v hv hs=>
   FO (g:=⟨fun _ _=>False,[],fun _=>none⟩) 20 10000 kt ks true _ _ kv v _ aY (by omega) xn jO (Mq jO hs) (Hd hn) (Hd hv) (LR hs)
  obtain⟨r,h1,h2⟩:=He (n:=.s kl) (S:=fun es i r=>(Instr.findAsking kt kv es i).run P w=.ok r w) (fun i=>rfl)
   (fun x e es i he nQ hx=>by
     rw[←hx]at he nQ
     rw[Instr.findAsking]
     simp[heq kl _ he nQ])
   (fun x e es i r he nQ hx hr=>by
     cases gi:x.1 with
     |s l'=>
      rw[gi]at he hx nQ
      rw[Instr.findAsking]
      have:decide (kl=l')=false:=by simpa using fun h=>hx (by rw[h])
      simp[heq l' _ he nQ,this,hr]
     |i m=>rw[gi]at nQ;cases nQ) es l 0 hl hk hs
  refine⟨r,?_,h2⟩
  cases es with
  |nil=>simp[Instr.findKey,run_underlying hu,Instr.findNow];simpa[Instr.findAsking]using h1
  |cons e es=>simp[Instr.findKey,run_underlying hu,Instr.findNow,Instr.sameNow];exact h1
theorem Lm{P:Program}{w:World}{kt:TypeId}{kd:Option (List CK)}(qO:IB P kt kd){n:MK}{kv:Value}(hn:n.Is kv)(dH:Ia kd n)
  (em:Bool):(Instr.checkKey em 10000 kt kv).run P w=.ok () w:=by
 rw[show(10000:Nat)=9998+1+1 from rfl]
 cases kd with
 |none=>
  obtain⟨k,hu⟩:=qO
  rw[Instr.checkKey]
  obtain⟨m,rfl⟩:=dH
  obtain⟨rfl,_⟩:=hn
  simp[run_underlying hu]
 |some ks=>
  obtain⟨fs,hu,aY,zI⟩:=qO
  obtain⟨kl,rfl,jO⟩:=dH
  have hv:=Hd (w:=w) (St:=fun _ _=>False) hn
  simp only[gY,if_true]at hv
  obtain⟨cs,rfl,rx⟩:=hv
  rw[show(20:Nat)=19+1 from rfl,shapeOf,hu]at aY
  simp only at aY
  cases b4:P.stoodInHeld kt with
  |true=>rw[b4]at aY;cases aY
  |false=>
   rw[b4]at aY
   simp only[cond_false]at aY
   split at aY
   ·rename_i mN gD
    split at aY
    ·rename_i sz aQ
     cases hc:Nat.beq sz mN.length with
     |false=>rw[hc]at aY;cases aY
     |true=>
      rw[hc]at aY;cases aY
      rw[Instr.checkKey]
      simp only[Sem.run_bind,run_underlying hu,Result.andThen_ok]
      rw[←Array.forIn_toList]
      generalize E0:kl.map KS.cS=xs at jO rx
      have IC:dO ks (xs.drop 0)=true:=jO
      have h0:(0:Nat)≤xs.length:=Nat.zero_le _
      clear hu b4 aQ hc jO
      generalize fs.toList=L at gD zI
      generalize (0:Nat)=off at gD IC h0
      induction L generalizing off ks with
      |nil=>simp
      |cons f L ih=>
       simp only[yc]at gD
       simp only[A2,Bool.and_eq_true]at zI
       split at gD
       ·rename_i kf EP
        cases dJ:(f.name != "_" &&Nat.beq f.offset off)with
        |false=>rw[dJ]at gD;cases gD
        |true=>
         rw[dJ]at gD
         simp only[cond_true]at gD
         split at gD
         ·rename_i kr Jz
          cases gD
          simp only[Bool.and_eq_true,bne_iff_ne,ne_eq]at dJ
          have tG:=Nat.eq_of_beq_eq_true dJ.2
          obtain⟨gi,pG⟩:=yd IC
          obtain⟨gT,xn⟩:=z8 EP
          have lx:=rv IC
          simp only[List.length_drop,List.length_append]at lx
          obtain⟨b,hb,h1⟩:∃b,dh P f.type=some b∧(b=false→kf.length=1):=by
           rcases xn with⟨h1,h2⟩|h1
           ·exact⟨false,h1,fun _=>h2⟩
           ·exact⟨true,h1,by simp⟩
          obtain⟨vx,px,qx⟩:=j9.valOf (g:=⟨fun _ _=>False,[],fun _=>none⟩) rx (off:=f.offset) hb gT h1 (by omega)
          have p2:(Instr.checkKey em (9998+1) f.type vx).run P w=.ok () w:=by
           rw[Instr.checkKey]
           have B9:=zI.1
           split at B9
           ·rename_i kg;simp[run_underlying kg]
           ·rename_i kg;simp[run_underlying kg]
           ·rename_i kg;simp[run_underlying kg]
           ·cases B9
          simp only[List.forIn_cons,Sem.run_bind,dJ.1,ne_eq,not_false_eq_true,if_true,Result.andThen_ok,px,p2,Sem.run_pure]
          exact ih kr zI.2 (off+kf.length) Jz (by rw[List.drop_drop]at pG;exact pG) (by omega)
         ·cases gD
       ·cases gD
    ·cases aY
   ·cases aY
section
variable{P:Program}{gl:Nat→Option D}{w0:World}{ay:S0}{e:Env}{a:Act}{w:World}{g:Gh}
theorem VT(hI:Inv gl w0 ay e a w g){m:Operand}{l:List (MK×D)}(h:rT e.boxes (Ab.bc gl e m).aa =.mp l):
  ∃r es clock,a.eval m=.map (some r)∧w.heap[r]? =some (.map es clock)∧l.length=es.size∧∀(i:Nat)x y,l[i]? =some x→es[i]? =some y→x.1.Is y.key∧True∧bj w g.St x.2 y.val:=by
 have hx:=hI.bc m
 generalize (Ab.bc gl e m).aa =s at h hx
 cases s with
 |m b=>
  simp only[rT]at h
  split at h
  ·rename_i l' hb
   cases h
   generalize a.eval m=v at hx
   cases hx with
   |m _ _ ao c7=>
    obtain⟨_,es,clock,h1,h2,h3⟩:=hI.boxes b _ ao hb c7
    exact⟨ao,es,clock,rfl,h1,h2,h3⟩
  ·cases h
 |v x=>
  simp only[rT,Slot.bu]at h
  subst h
  have:=hx.ka
  generalize a.eval m=v at this
  cases this with
  |mp _ _ r es clock hh hs hl hc=>exact⟨r,es,clock,rfl,hh,hl,hc⟩
 |_=>simp[rT,Slot.bu]at h
theorem Mr{kd:Option (List CK)}{x:SV}{n:MK}(h:jn kd x=some n){St:Nat→Nat→Prop}{base:Nat}{O:Nat→Nat→Nat→Prop}{v:Value}(r:bd w St base O x v):
  n.Is v∧Ia kd n:=by
 cases kd with
 |none=>
  simp only[jn]at h
  split at h
  ·cases h
   have:=r.data.o8
   exact⟨⟨this.1,this.2⟩,_,rfl⟩
  ·cases h
 |some ks=>
  simp only[jn]at h
  split at h
  ·rename_i cs
   cases hl:rZ ks cs with
   |some l=>
    rw[hl]at h
    cases h
    obtain⟨rfl,jO⟩:=Mp hl
    obtain⟨vs,e1,r1,_⟩:=r.data.tj
    rw[e1]
    exact⟨aaQ r1,l,rfl,jO⟩
   |none=>rw[hl]at h;cases h
  ·cases h
theorem Um(hI:Inv gl w0 ay e a w g){o:Oper}{t:TypeId}{m x:Operand}{ok:Bool}(ho:o.op=.lookup t m x ok){k:Slot→List af→Prop}
  (h:ab (vi P t) fun et=>ab (rN P et.1) fun z=>ab (lR et.2 z (rT e.boxes (Ab.bc gl e m).aa) ((Ab.bc gl e x).aa).bu) fun r=>
    bif ok then k (.t [.d r.1,.d (.bool r.2)]) e.boxes else k (.v (.d r.1)) e.boxes):bI P gl w0 ay e.an o a w k:=by
 obtain⟨⟨et,kd⟩,het,h⟩:=aK h
 obtain⟨z,hz,h⟩:=aK h
 obtain⟨⟨d,b⟩,hr,hk⟩:=aK h
 have hm:=fun l=>VT hI (m:=m) (l:=l)
 have hx:=hI.gX x
 generalize rT e.boxes (Ab.bc gl e m).aa =sm at hr hm
 generalize ((Ab.bc gl e x).aa).bu =sx at hr hx
 obtain⟨zv,xo,vI⟩:=VS hz
 obtain⟨kt,hu,qO⟩:=LS het
 unfold lR at hr
 split at hr
 ·rename_i l
  split at hr
  ·rename_i n hn
   cases xu:nz l n with
   |false=>rw[xu]at hr;cases hr
   |true=>
    rw[xu,cond_true]at hr
    obtain⟨vL,dH⟩:=Mr hn hx
    obtain⟨r,es,clock,E1,hh,hl,hc⟩:=hm l rfl
    obtain⟨f,ub,uc⟩:=LC (w:=w) qO vL dH es.toList l (by simpa using hl) (fun j x y h1 h2=>(hc j x y h1 (by simpa using h2)).1) xu
    have jO:=fun em=>Lm (w:=w) qO vL dH em
    have qJ:(getObj r).run P w=.ok (.map es clock) w:=by simp[getObj,Sem.run,hh]
    have key:∃u,((Instr.lookup t (.map (some r)) (a.eval x) ok).run P w=.ok (if ok then .tuple #[u,.bool b]else u) w)∧bj w g.St d u:=by
     rcases uc with⟨h1,h2⟩|⟨j,x',y,h1,h2,h3,h4,_⟩
     ·rw[h1]at hr
      cases hr
      refine⟨zv,?_,vI _ _⟩
      subst h2
      simp[Instr.lookup,run_underlying hu,qJ,jO,ub,xo]
     ·rw[h4]at hr
      cases hr
      refine⟨y.val,?_,(hc j x' y h2 (by simpa using h3)).2.2⟩
      subst h1
      simp[Instr.lookup,run_underlying hu,qJ,jO,ub]
    obtain⟨u,zH,Py⟩:=key
    cases ok with
    |true=>
     refine bI.value hI (v:=.tuple #[u,.bool b]) ?_ (.t _ _ _ rfl fun j x v h1 h2=>?_) hk
     ·have h1:(Instr.lookup t (.map (some r)) (a.eval x) true).run P w=.ok (.tuple #[u,.bool b]) w:=zH
      simp[execOp,ho,E1,h1]
     ·match j,h1,h2 with
      |0,h1,h2=>cases h1;cases h2;exact .d _ _ _ Py
      |1,h1,h2=>cases h1;cases h2;exact .d _ _ _ (.bool _)
      |j+2,h1,h2=>simp at h1
    |false=>
     refine bI.fm hI (v:=u) ?_ (.d _ _ _ Py) hk
     have h1:(Instr.lookup t (.map (some r)) (a.eval x) false).run P w=.ok u w:=zH
     simp[execOp,ho,E1,h1]
  ·cases hr
 ·cases hr
theorem T3(hI:Inv gl w0 ay e a w g){o:Oper}{t:TypeId}(ho:o.op=.makeMap t none){id:Nat}{k:Slot→List af→Prop}
  (fj:e.boxes[id]? =some .none)(h:k (.m id) (e.boxes.set id (.map []))):bI P gl w0 ay e.an o a w k:=by
 refine bI.Ow hI fj (ob:=.map #[] 0) (vl:=.map (some w.heap.size)) (by simp[execOp,ho,Instr.makeMap]) (fun g' O hb=>.m _ _ _ hb) (fun g' hX hle=>?_) h
 exact⟨hle,#[],0,uW w _,rfl,fun i x y h=>by simp at h⟩
theorem Ms{n:MK}{d:D}:∀{l:List (MK×D)}{j:Nat}{x:MK×D},l[j]? =some x→x.1=n→(∀(i:Nat)y,i<j→l[i]? =some y→n≠y.1)→gK l n d=l.set j (n,d)
 |[],j,x,h,_,_=>by simp at h
 |y::l,0,x,h,hx,_=>by simp at h;subst h;simp[gK,hx]
 |y::l,j+1,x,h,hx,ck=>by
  have h0:=ck 0 y (Nat.succ_pos j) rfl
  simp only[gK,if_neg h0,List.set_cons_succ]
  rw[Ms (by simpa using h) hx fun i z hi hz=>ck (i+1) z (by omega) (by simpa using hz)]
theorem Mt{n:MK}{d:D}:∀{l:List (MK×D)},eH l n=none→gK l n d=l++[(n,d)]
 |[],_=>rfl
 |y::l,h=>by
  simp only[eH]at h
  split at h
  ·cases h
  ·rename_i hy
   simp[gK,hy,Mt h]
theorem tD.bits{k:KS}{u v:Value}(hu:tD k u)(hv:tD k v)(m:Nat):Instr.sameBits m u v=true:=by
 cases k with
 |bool b=>subst hu;subst hv;cases m<;>simp[Instr.sameBits]
 |int k n=>obtain⟨rfl,_⟩:=hu;obtain⟨rfl,_⟩:=hv;cases m<;>simp[Instr.sameBits]
 |str s=>
  obtain⟨b,rfl,h1,_⟩:=hu
  obtain⟨c,rfl,h2,_⟩:=hv
  have:b=c:=by
   have:b.data=c.data:=Array.toList_inj.1 (h1.trans h2.symm)
   cases b;cases c;simp only at this;rw[this]
  subst this
  have hb:(b==b)=true:=by show(b.data==b.data)=true;simp
  cases m<;>simp only[Instr.sameBits,hb]
theorem Is.bits{n:MK}{u v:Value}(hu:n.Is u)(hv:n.Is v):Instr.sameBits 10000 u v=true:=by
 cases n with
 |i m=>obtain⟨rfl,_⟩:=hu;obtain⟨rfl,_⟩:=hv;simp[Instr.sameBits]
 |s l=>
  obtain⟨us,rfl,h1,h2⟩:=hu
  obtain⟨vs,rfl,h3,h4⟩:=hv
  rw[show(10000:Nat)=9999+1 from rfl,Instr.sameBits]
  simp only[Bool.and_eq_true,beq_iff_eq,List.all_eq_true]
  refine⟨h1.trans h3.symm,fun⟨x,y⟩hxy=>?_⟩
  obtain⟨i,hi⟩:=List.mem_iff_getElem?.1 hxy
  rw[List.getElem?_zip_eq_some]at hi
  obtain⟨hx,hy⟩:=hi
  rw[Array.getElem?_toList]at hx hy
  have kj:i<l.length:=by have:=(Array.getElem?_eq_some_iff.1 hx).1;omega
  exact(h2 i _ x (List.getElem?_eq_getElem kj) hx).bits (h4 i _ y (List.getElem?_eq_getElem kj) hy) 9999
theorem T4{n:MK}{u v:Value}(hu:n.Is u)(hv:n.Is v):(Instr.keyThatStays u v).run P w=.ok v w:=by simp[Instr.keyThatStays,Is.bits hu hv]
theorem Tp(hI:Inv gl w0 ay e a w g){o:Oper}{t:TypeId}{m x y:Operand}(ho:o.op=.mapUpdate t m x y)(hd:o.dst=none){et:TypeId×Option (List CK)}(het:vi P t=some et){b:Nat}(hm:(Ab.bc gl e m).aa =.m b)
  {l:List (MK×D)}(hb:e.boxes[b]? =some (.map l)){n:MK}(hn:jn et.2 ((Ab.bc gl e x).aa).bu =some n){d:D}(hy:cS ((Ab.bc gl e y).aa).bu =some d){l':List (MK×D)}(Bm:ln l n d=some l'){k:Slot→List af→Prop}
  (hk:k (.t []) (e.boxes.set b (.map l'))):bI P gl w0 ay e.an o a w k:=by
 have hx:=hI.gX x
 obtain⟨vL,dH⟩:=Mr hn hx
 obtain⟨et,kd⟩:=et
 obtain⟨kt,hu,qO⟩:=LS het
 have QJ:=(hI.gX y).cS hy
 have nQ:=hI.lZ hm
 unfold ln at Bm
 cases xu:nz l n with
 |false=>rw[xu]at Bm;cases Bm
 |true=>
  rw[xu,cond_true]at Bm
  cases Bm
  generalize E1:a.eval m=vm at nQ
  cases nQ with
  |m _ _ ao c7=>
   obtain⟨mQ,es,clock,hh,hl,hc⟩:=hI.boxes b _ ao hb c7
   obtain⟨f,ub,uc⟩:=LC (w:=w) qO vL dH es.toList l (by simpa using hl) (fun j x y h1 h2=>(hc j x y h1 (by simpa using h2)).1) xu
   have jO:=Lm (w:=w) qO vL dH false
   have qJ:(getObj ao).run P w=.ok (.map es clock) w:=by simp[getObj,Sem.run,hh]
   have fin:∀(vM:Array MapEntry)(yP:Nat),(Instr.mapUpdate t (.map (some ao)) (a.eval x) (a.eval y)).run P w=.ok () {w with heap:=w.heap.setIfInBounds ao (.map vM yP)}→
     (gK l n d).length =vM.size→(∀(i:Nat)x z,(gK l n d)[i]? =some x→vM[i]? =some z→x.1.Is z.key∧True∧bj w g.St x.2 z.val)→bI P gl w0 ay e.an o a w k:=by
    intro vM yP bz hlen bt next Q H8
    have ady:(execOp a.eval o).run P w=.ok .skip {w with heap:=w.heap.setIfInBounds ao (.map vM yP)}:=by
     simp[execOp,ho,E1,bz]
    unfold Oper.wp
    rw[ady]
    have Bn:=MapKept.heap_set (o':=.map vM yP) hh
    refine H8 (.t []) undef _ _ g ?_ hk
    rw[hd]
    refine hI.Ox (dst:=none) (s:=.t []) (v:=undef) (an:=e.an) (w':={w with heap:=w.heap.setIfInBounds ao (.map vM yP)}) (fun _=>False) (fun _=>False) rfl rfl (fun _ _ _ _ _ h=>h) (fun _ h=>h) c7 Bn.2 (fun c ty h=>by rw[hh]at h;cases h) (by simp) ⟨rfl,rfl,rfl⟩ rfl
     (fun i x hx _=>⟨x,hx,.inl ⟨rfl,fun h=>h⟩⟩) (fun hX hle=>?_) (fun _ d h=>by cases h)
    exact⟨hle,vM,yP,Bn.1,hlen,fun i x z h1 h2=>⟨(bt i x z h1 h2).1,(bt i x z h1 h2).2.1,hX.Bk (bt i x z h1 h2).2.2⟩⟩
   rcases uc with⟨h1,h2⟩|⟨j,x',z,h1,h2,h3,_,h4,h5⟩
   ·subst h2
    rw[Mt h1]at fin
    refine fin (es.push {key:=a.eval x,val:=a.eval y,born:=clock}) (clock+1) ?_ (by simp[hl]) (fun i x z hx hz=>?_)
    ·simp[Instr.mapUpdate,run_underlying hu,qJ,jO,ub,MapKept.run_setObj_map _ hh]
    ·rw[List.getElem?_append]at hx
     rw[Array.getElem?_push]at hz
     split at hx
     ·rename_i hi
      rw[if_neg (by omega)]at hz
      exact hc i x z hx hz
     ·rename_i hi
      have:i-l.length=0:=by
       rcases Nat.eq_zero_or_pos (i-l.length)with h|h
       ·exact h
       ·rw[List.getElem?_eq_none (by simp;omega)]at hx;cases hx
      rw[this]at hx
      simp at hx;subst hx
      rw[if_pos (by omega)]at hz
      cases hz
      exact⟨vL,trivial,QJ⟩
   ·have hj:es[j]? =some z:=by simpa using h3
    subst h1
    have QK:=(hc j x' z h2 hj).1
    rw[h4]at QK
    rw[Ms h2 h4 h5]at fin
    have jS:j<es.size:=(Array.getElem?_eq_some_iff.1 hj).1
    refine fin (es.modify j fun e=>{e with key:=a.eval x,val:=a.eval y}) clock ?_ (by simp[hl]) (fun i x u hx kg=>?_)
    ·simp[Instr.mapUpdate,run_underlying hu,qJ,jO,ub,hj,T4 QK vL,MapKept.run_setObj_map _ hh]
    ·rw[List.getElem?_set]at hx
     rw[Array.getElem?_modify]at kg
     split at hx
     ·rename_i mR
      subst mR
      split at hx
      ·cases hx
       rw[if_pos rfl,hj]at kg
       cases kg
       exact⟨vL,trivial,QJ⟩
      ·cases hx
     ·rename_i mR
      rw[if_neg mR]at kg
      exact hc i x u hx kg
theorem U7{x y:SV}{m:Nat}(h:lenOf x y=some m):∃k,x=.d (.int k m)∧y=.d (.int k m):=by
 unfold lenOf at h
 split at h
 ·rename_i k a k' b
  split at h
  ·rename_i hc
   obtain⟨rfl,rfl,h0⟩:=hc
   cases h
   exact⟨k,by rw[Int.toNat_of_nonneg h0],by rw[Int.toNat_of_nonneg h0]⟩
  ·cases h
 ·cases h
theorem VU{t:TypeId}{z:D}(h:rN P t=some z):∃i zv,P.info? t=some i∧i.zero=some zv∧z.one=true∧zv.cells= #[zv]∧∀(w:World)(St:Nat→Nat→Prop),bj w St z zv:=by
 unfold rN at h
 split at h
 ·rename_i i hi
  split at h
  ·rename_i zv hz
   have h1:=(yg (w:=default) (St:=fun _ _=>False) h).rG (F7 h)
   exact⟨i,zv,hi,hz,F7 h,by cases zv<;>first|rfl|simp[Value.oneCell']at h1,fun w St=>yg h⟩
  ·cases h
 ·cases h
theorem D.Gt{d:D}(h:d.one=true):d.cells=[d]:=by cases d<;>first|rfl|simp[D.one]at h
theorem Tq(hI:Inv gl w0 ay e a w g){o:Oper}{t:TypeId}{n c:Operand}(ho:o.op=.makeSlice t n c){k:Slot→List af→Prop}
  (h:ab (kW P t) fun e'=>ab (dm P e') fun sz=>ab (p7 P e') fun dg=>ab (rN P e') fun z=>
    bif Nat.beq sz 1&&Nat.blt 0 dg then(ab (lenOf ((Ab.bc gl e n).aa).bu ((Ab.bc gl e c).aa).bu) fun m=>m*dg≤140737488355328∧k (.v (.cA 1 (List.replicate m z))) e.boxes)else False):
  bI P gl w0 ay e.an o a w k:=by
 obtain⟨e',he,h1⟩:=aK h
 obtain⟨sz,aQ,h2⟩:=aK h1
 obtain⟨dg,il,h3⟩:=aK h2
 obtain⟨z,hz,h4⟩:=aK h3
 clear h h1 h2 h3
 cases dJ:(Nat.beq sz 1&&Nat.blt 0 dg)with
 |false=>rw[dJ]at h4;exact h4.elim
 |true=>
  rw[dJ,cond_true]at h4
  simp only[Bool.and_eq_true]at dJ
  have jd:=Nat.eq_of_beq_eq_true dJ.1
  have mS:0<dg:=Nat.lt_of_succ_le (Nat.le_of_ble_eq_true dJ.2)
  subst jd
  obtain⟨m,hm,QL,hk⟩:=aK h4
  obtain⟨i,zv,hi,xo,ct,hzc,vI⟩:=VU hz
  obtain⟨kk,e1,e2⟩:=U7 hm
  have v1:=(hI.gX n)
  have v2:=(hI.gX c)
  rw[e1]at v1
  rw[e2]at v2
  have ID:i.size=1:=by simpa[dm,hi]using aQ
  have Ep:i.bytes=dg:=by simpa[p7,hi]using il
  have aT:m*1≤m*dg:=Nat.mul_le_mul_left _ mS
  have JI:(dg:Int)*(m:Int)≤281474976710656:=by
   have h:((dg*m:Nat):Int)≤281474976710656:=by rw[Nat.mul_comm];omega
   rwa[Int.natCast_mul]at h
  have bz:=Go.run_make (P:=P) w t e' i zv (Ga he) hi xo kk kk m m (by omega) (Int.le_refl _) (by rw[Ep];exact JI) (by omega)
  simp only[Int.toNat_natCast,ID,Nat.mul_one]at bz
  have JJ:(List.replicate m z).length =m:=by simp
  have dw:=D.Gt ct
  refine bI.NS hI (cells:=madeCells zv.cells m) (t:=e') (sz:=1) (L:=List.replicate m z) ?_ (by rw[JJ,Nat.mul_one];exact size_madeCells _ _) (by rw[JJ];simp only[maxLen];omega) (fun x hx=>?_) (fun i' x j c' hx hc=>?_) hk
  ·rw[JJ]
   simp[execOp,ho,v1.int,v2.int,bz]
  ·rw[(List.mem_replicate.1 hx).2,dw]
   exact⟨rfl,fun c hc=>by rw[List.mem_singleton.1 hc];exact ct⟩
  ·have dE:=(List.mem_replicate.1 (List.mem_of_getElem? hx)).2
   have kj:i'<m:=by have:=(List.getElem?_eq_some_iff.1 hx).1;simpa using this
   subst dE
   rw[dw]at hc
   have hj:j=0:=by
    cases j with
    |zero=>rfl
    |succ j=>simp at hc
   subst hj
   simp at hc
   subst hc
   refine⟨by rw[size_madeCells];omega,?_⟩
   simp only[Nat.mul_one,Nat.add_zero,madeCells,hzc]
   simp[kj,Nat.mod_one]
   exact vI _ _
theorem cH.y9{base:Nat}{O:Nat→Nat→Nat→Nat→Prop}{b n sz:Nat}{v:Value}(h:cH base w g O (.a b n sz) v):
  n≤maxLen∧∃ao cap,g.bx[b]? =some (some ao)∧n≤cap∧v=.slice (some ⟨ao,0,none⟩) n cap∧cap≤maxLen∧∃c ty,w.heap[ao]? =some (.cells c ty (0,0))∧c.size=cap*sz:=by
 cases h with
 |a _ _ _ _ _ hm h=>exact⟨hm,h⟩
theorem VV(hI:Inv gl w0 ay e a w g){o:Oper}{c:Call}(ho:o.op=.call c)(hc:c.callee=.builtin .len){x:Operand}{xs:List Operand}{t:TypeId}{ts:List TypeId}
  (hx:c.args.toList=x::xs)(ht:c.argTypes.toList=t::ts){b n sz:Nat}(hs:(Ab.bc gl e x).aa =.a b n sz)(jb:isSlice P t=true){k:Slot→List af→Prop}(hk:k (.v (.d (.int .i64 n))) e.boxes):bI P gl w0 ay e.an o a w k:=by
 obtain⟨hm,hv⟩:=(hI.lZ hs).y9
 have h0:c.args[0]? =some x:=by rw[←Array.getElem?_toList,hx];rfl
 have h1:c.argTypes[0]? =some t:=by rw[←Array.getElem?_toList,ht];rfl
 have hu:∃e',P.underlying t=some (.slice e'):=by
  unfold isSlice at jb
  split at jb
  ·exact⟨_,by assumption⟩
  ·cases jb
 obtain⟨e',hu⟩:=hu
 have gS:∃ad cap,a.eval x=.slice ad n cap:=by
  obtain⟨ao,cap,_,_,h,_⟩:=hv
  exact⟨_,_,h⟩
 obtain⟨ad,cap,gS⟩:=gS
 refine bI.fm hI (v:=.int .i64 n) ?_ (.d _ _ _ (.int _ _ ?_)) hk
 ·have hl:(Builtin.len_ c.argTypes o.type (c.args.map a.eval)).run P w=.ok (.int .i64 n) w:=by simp[Builtin.len_,h0,h1,run_underlying hu,gS,goInt]
  simp[execOp,ho,resolve,hc,invoke,builtin,hl]
 ·simp only[maxLen]at hm
  simp[gv,IntKind.min,IntKind.max,IntKind.signed,IntKind.bits]
  omega
theorem Un(hI:Inv gl w0 ay e a w g){o:Oper}{t:TypeId}{x i:Operand}(ho:o.op=.indexAddr t x i){e':TypeId}(hu:P.underlying t=some (.slice e')){sz:Nat}(aQ:dm P e'=some sz)
  {b n zJ:Nat}(hs:(Ab.bc gl e x).aa =.a b n zJ){j:Nat}(hj:dD ((Ab.bc gl e i).aa).bu n=some j){k:Slot→List af→Prop}(hk:k (.p b (j*sz)) e.boxes):bI P gl w0 ay e.an o a w k:=by
 obtain⟨hm,hv⟩:=(hI.lZ hs).y9
 obtain⟨kk,ii,e1,h1,h2,rfl⟩:=s8 hj
 have hi:=hI.gX i
 rw[e1]at hi
 have tV:=hi.int
 obtain⟨ao,cap,hb,hle,hv,_⟩:=hv
 refine bI.value hI (v:=.pointer (some ⟨ao,ii.toNat*sz,none⟩)) ?_ (.p _ _ _ _ hb) hk
 have:=n8 ao 0 (ii.toNat*sz)
 rw[Nat.zero_add]at this
 simp[execOp,ho,Instr.indexAt,tV,asIntOf,run_underlying hu,hv,h1,h2,j1 aQ,this]
end
end Go.Proofs.YtaknajjmldngiaaGreat.Ab
namespace Go.Proofs.YtaknajjmldngiaaGreat.Ab
open Go Go.RowKit
section
variable{P:Program}{gl:Nat→Option D}{w0:World}{ay:S0}{e:Env}{a:Act}{w:World}{g:Gh}
theorem LD(hI:Inv gl w0 ay e a w g){o:Oper}{c:Call}(ho:o.op=.call c)(hc:c.callee=.builtin .append){an:List Slot}{lost:Nat→Prop}(hH:qk e an lost o.dst)
  {x y:Operand}{t u:TypeId}
  (hx:c.args.toList=[x,y])(ht:c.argTypes.toList=[t,u]){sx sy:SV}{O:Nat→Nat→Nat→Prop}{Oy:Nat→Nat→Nat→Prop}(rx:bd w g.St w0.heap.size O sx (a.eval x))(ry:bd w g.St w0.heap.size Oy sy (a.eval y))
  (hO:∀b a' c,O b a' c→∃i0,ga w0.heap.size w g (.s i0 0) b a' c∧lost i0){k:Slot→List af→Prop}
  (h:bif Nat.beq t u then(ab (kW P t) fun e'=>ab (dm P e') fun sz=>ab (p7 P e') fun dg=>ab (j0 P e') fun z=>
    bif Nat.blt 0 dg&&Nat.blt 0 sz&&Nat.beq z.length sz then cm sz dg sx sy fun r=>k (.v r) e.boxes else False)else False):bI P gl w0 ay an o a w k:=by
 cases mT:Nat.beq t u with
 |false=>rw[mT]at h;exact h.elim
 |true=>
  have:=Nat.eq_of_beq_eq_true mT
  subst this
  rw[mT]at h
  simp only[cond_true]at h
  obtain⟨e',he,h⟩:=aK h
  obtain⟨sz,aQ,h⟩:=aK h
  obtain⟨dg,il,h⟩:=aK h
  obtain⟨z,hz,h⟩:=aK h
  cases dJ:(Nat.blt 0 dg&&Nat.blt 0 sz&&Nat.beq z.length sz)with
  |false=>simp only[dJ,cond_false]at h
  |true=>
   simp only[dJ,cond_true]at h
   simp only[Bool.and_eq_true]at dJ
   obtain⟨⟨h1,h2⟩,h3⟩:=dJ
   have mS:0<dg:=Nat.lt_of_succ_le (Nat.le_of_ble_eq_true h1)
   have lB:0<sz:=Nat.lt_of_succ_le (Nat.le_of_ble_eq_true h2)
   have B5:=Nat.eq_of_beq_eq_true h3
   obtain⟨⟨r,n⟩,hr,QL,hk⟩:=aK h
   obtain⟨i,zv,hi,xo,jc⟩:=U6 hz
   have hu:=Ga he
   have ID:i.size=sz:=by simpa[dm,hi]using aQ
   have Ep:i.bytes=dg:=by simpa[p7,hi]using il
   intro next Q hn
   obtain⟨v,w',g',bz,hinv⟩:=Uk (ty:=o.type) hI hH hu hi xo ID (by rw[jc,B5]) lB rx ry hO hr (by rw[Ep];exact QL) (by rw[Ep];exact mS)
   unfold Oper.wp
   have fp:c.args.map a.eval= #[a.eval x,a.eval y]:=by
    apply Array.toList_inj.1
    rw[Array.toList_map,hx];rfl
   have aeC:c.argTypes= #[t,t]:=by apply Array.toList_inj.1;rw[ht]
   have:(execOp a.eval o).run P w=.ok (.value v) w':=by
    simp only[execOp,ho,resolve,hc,Sem.run_bind,Sem.run_pure,Result.andThen_ok,invoke,builtin,fp,aeC,bz]
   rw[this]
   exact hn (.v r) v _ w' g' hinv hk
theorem U8{b:Bool}{A:Prop}(h:cond b A False):b=true∧A:=by cases b;exact h.elim;exact⟨rfl,h⟩
theorem W5(hI:Inv gl w0 ay e a w g){id:Nat}{o:Oper}{k:Slot→List af→Prop}(h:c8 P (aF P gl) id o (fun x=>(Ab.bc gl e x).aa) e.boxes k):bI P gl w0 ay e.an o a w k:=by
 cases ho:o.op<;>simp only[c8,ho]at h
 case move x=>exact bI.value hI (by simp[execOp,ho]) (hI.bc x) h
 case assign x=>exact bI.value hI (by simp[execOp,ho]) (hI.bc x) h
 case pick c x y=>
  split at h
  ·rename_i s hs
   obtain⟨b,rfl,h1,h2⟩:=yr h
   have hv:=(hI.pF hs).data.rB
   cases b
   ·exact bI.value hI (v:=a.eval y) (by simp[execOp,ho,hv,asBool]) (hI.bc y) (h2 rfl)
   ·exact bI.value hI (v:=a.eval x) (by simp[execOp,ho,hv,asBool]) (hI.bc x) (h1 rfl)
  ·exact h.elim
 case alloc t=>
  split at h
  ·rename_i fj;exact UX hI ho fj h
  ·exact h.elim
 case box t x=>
  split at h
  ·rename_i fj;exact WZ hI ho fj h
  ·exact h.elim
 case build t ps=>exact U5 hI ho h
 case buildSlice t n ps=>exact Te hI ho h
 case load t x=>
  obtain⟨⟨b,n⟩,hl,h⟩:=aK h
  split at h
  ·rename_i bn off hs;exact T0 hI ho hl hs h
  ·rename_i s hs;exact UZ hI ho hl hs h
  ·exact h.elim
 case store t x y=>
  obtain⟨n,hn,h⟩:=aK h
  split at h
  ·rename_i bn off hs
   split at h
   ·rename_i hd;exact U0 hI ho hd hn hs h
   ·exact h.elim
  ·exact h.elim
 case nilCheck x=>exact TD hI ho h
 case binOp op t x y u=>exact WY hI ho h
 case unOp op t x=>exact Yh hI ho h
 case convert src dst x=>
  cases hs:(P.underlying src).isSome with
  |false=>rw[hs]at h;exact h.elim
  |true=>rw[hs]at h;exact VP hI ho hs h
 case makeInterface t x=>exact U1 hI ho h
 case makeFunc fn first cap=>exact TE hI ho h
 case slice t x lo hi mx=>exact U4 hI ho h
 case fieldAddr t x f=>exact Tn hI ho h
 case field t x f=>exact U2 hI ho h
 case indexAddr t x i=>
  cases hs:(Ab.bc gl e x).aa with
  |a b n=>
   rw[hs]at h
   split at h
   ·rename_i e' hu
    obtain⟨sz,aQ,h1⟩:=aK h
    obtain⟨j,hj,hk⟩:=aK h1
    exact Un hI ho hu aQ hs hj hk
   ·obtain⟨sz,aQ,h1⟩:=aK h
    obtain⟨j,hj,hk⟩:=aK h1
    exact hk.elim
   ·exact h.elim
  |_=>exact To hI ho (by rw[hs]at h ⊢;exact h)
 case index t x i=>exact U3 hI ho h
 case extract x i=>exact T2 hI ho h
 case lookup t m x ok=>exact Um hI ho h
 case makeSlice t n c=>exact Tq hI ho h
 case makeMap t hn=>
  split at h
  ·rename_i hh fj;exact T3 hI ho fj h
  ·exact h.elim
 case mapUpdate t m x y=>
  obtain⟨et,het,h1⟩:=aK h
  split at h1
  ·rename_i b hm hd
   split at h1
   ·rename_i l hb
    obtain⟨n,hn,h2⟩:=aK h1
    obtain⟨d,jP,h3⟩:=aK h2
    obtain⟨l',fU,hk⟩:=aK h3
    exact Tp hI ho hd het hm hb hn jP fU hk
   ·exact h1.elim
  ·exact h1.elim
 case call c=>
  split at h
  ·rename_i f hc
   refine VR hI ho hc (n:=arity P o.type) ?_
   split at h
   ·rename_i s hs;simp only[hs];exact h
   ·rename_i g' first cap hs;simp only[hs];exact h
   ·exact h.elim
  ·rename_i recv name hc
   refine Ul hI ho hc (n:=arity P o.type) ?_
   split at h
   ·rename_i s hs;simp only[hs];exact h
   ·exact h.elim
  ·rename_i b hc
   split at h
   ·rename_i x xs t ts hx ht
    cases hs:(Ab.bc gl e x).aa with
    |a b n=>
     rw[hs]at h
     obtain⟨hb,hk⟩:=U8 h
     exact VV hI ho hc hx ht hs hb hk
    |_=>exact W0 hI ho hc hx ht (by rw[hs]at h ⊢;exact h)
   ·rename_i x y t u hx ht
    exact LD hI ho hc (qk.same e o.dst) hx ht (hI.gX x) (hI.gX y) (fun _ _ _ h=>h.elim) h
   ·rename_i x xs ts hx;exact Nc hI ho hc hx (.inl ⟨rfl,rfl⟩) h
   ·rename_i x xs ts hx;exact Nc hI ho hc hx (.inr ⟨rfl,rfl⟩) h
   ·exact h.elim
 all_goals exact h.elim
end
end Go.Proofs.YtaknajjmldngiaaGreat.Ab
namespace Go.Proofs.YtaknajjmldngiaaGreat.Ab
open Go Go.RowKit
section
variable{P:Program}{gl:Nat→Option D}{w0:World}{ay:S0}{e:Env}{a:Act}{w:World}{g:Gh}
abbrev wJ(P:Program)(gl:Nat→Option D)(w0:World)(ay:S0)(o:Oper)(a:Act)(w:World)(k:Env→Prop):Prop:=
 ∀(next:Act→World→Prop)(Q:Exit→Act→World→Prop),
  (∀e' v w' g',Inv gl w0 ay e' (a.put o.dst v) w' g'→k e'→next (a.put o.dst v) w')→o.wp P a w next Q
theorem lL(hI:Inv gl w0 ay e a w g)(t:Nat):cH w0.heap.size w g (gJ w0.heap.size w g t) (e.an.getD t (.v .undef)) (a.eval (.tmp t)):=by
 simp only[Act.eval,List.getD_eq_getElem?_getD]
 cases h:e.an[t]? with
 |none=>exact .v _ _ _ (.undef _ _)
 |some s=>exact hI.an t s h
def Gh.qQ(g:Gh)(t:Nat)(q:Nat→Pos):Gh:={g with ow:=fun b=>match g.ow b with
 |some (.s i j)=>if i=t then some (q j)else some (.s i j)
 |x=>x}
theorem Yk{base:Nat}{t:Nat}{q:Nat→Pos}{p:Pos}(hp:∀j,p≠.s t j){b a0 c0:Nat}(h:ga base w g p b a0 c0):ga base w (g.qQ t q) p b a0 c0:=by
 obtain⟨h1,h2,h3,h4,h5⟩:=h
 refine⟨?_,h2,h3,h4,h5⟩
 simp only[Gh.qQ,h1]
 cases p with
 |s i j=>
  simp only
  rw[if_neg (fun h=>hp j (by rw[h]))]
 |b i j=>rfl
theorem NT{base:Nat}{t:Nat}{q:Nat→Pos}{j:Nat}{b a0 c0:Nat}(h:ga base w g (.s t j) b a0 c0):ga base w (g.qQ t q) (q j) b a0 c0:=by
 obtain⟨h1,h2,h3,h4,h5⟩:=h
 exact⟨by simp[Gh.qQ,h1],h2,h3,h4,h5⟩
theorem Ext.qQ{base:Nat}(t:Nat)(q:Nat→Pos)(lost:Pos→Prop)(hl:∀j,lost (.s t j)):Ext base w g w (g.qQ t q) lost:=
 ⟨fun D _ hb hn h=>⟨h,hb,by simp[Gh.qQ,hn],fun _ h=>h⟩,fun _ _ h=>(by first|exact⟨h,rfl⟩|exact⟨h,.refl _ _ _⟩),fun _ _ _=>rfl,fun _ _ h=>h,fun _ _ _ _ hp ho=>⟨Yk (fun j hj=>hp (by rw[hj];exact hl j)) ho,.refl _ _ _⟩,.refl _⟩
theorem Mu(e:Env)(t:Nat)(dst:Option Nat):qk e (e.an.set t (e.an.getD t (.v .undef)).aa) (fun i=>i=t) dst:=by
 refine⟨by simp,fun i x hx _=>?_⟩
 rw[List.getElem?_set]at hx
 split at hx
 ·rename_i h
  subst h
  split at hx
  ·rename_i aV
   cases hx
   refine⟨e.an[t],List.getElem?_eq_getElem aV,.inr ?_⟩
   rw[List.getD_eq_getElem?_getD,List.getElem?_eq_getElem aV];rfl
  ·cases hx
 ·rename_i h
  exact⟨x,hx,.inl ⟨rfl,fun h'=>h h'.symm⟩⟩
theorem Nd(hI:Inv gl w0 ay e a w g){o:Oper}{t:Nat}(bz:(execOp a.eval o).run P w=.ok (.value (a.eval (.tmp t))) w){k:Env→Prop}
  (h:k ⟨cz (e.an.set t (e.an.getD t (.v .undef)).aa) o.dst (e.an.getD t (.v .undef)),e.boxes⟩):wJ P gl w0 ay o a w k:=by
 intro next Q hn
 unfold Oper.wp
 rw[bz]
 refine hn _ _ _ (match o.dst with|some d=>g.qQ t (fun j=>.s d j)|none=>g) (hI.hand (Mu e t o.dst) ?_ (Below.refl _ _) (fun d hd=>?_) ?_ (fun _ _=>rfl) (fun b o' b4=>?_)) h
 ·cases o.dst with
  |none=>exact⟨fun _ _ hb ho h=>⟨h,hb,ho,fun _ h=>h⟩,fun _ _ h=>(by first|exact⟨h,rfl⟩|exact⟨h,.refl _ _ _⟩),fun _ _ _=>rfl,fun _ _ h=>h,fun _ _ _ _ _ h=>⟨h,.refl _ _ _⟩,.refl _⟩
  |some d=>exact Ext.qQ t _ _ (fun j=>⟨t,j,rfl,.inl rfl⟩)
 ·rw[hd]
  exact(lL hI t).mono (fun _ _ h=>(by first|exact⟨h,rfl⟩|exact⟨h,.refl _ _ _⟩)) (fun _ _ _=>rfl) (fun _ _ h=>h) (.refl _) (fun j b a' c ho=>⟨NT (q:=fun j=>.s d j) ho,.refl _ _ _⟩)
 ·cases o.dst<;>rfl
 ·have:g.St b o':=by cases hd:o.dst<;>rw[hd]at b4<;>exact b4
  exact hI.cP b o' this
theorem U9(hI:Inv gl w0 ay e a w g){o:Oper}{c:Call}(ho:o.op=.call c)(hc:c.callee=.builtin .append){t:Nat}{y:Operand}{ty u:TypeId}
  (hx:c.args.toList=[.tmp t,y])(ht:c.argTypes.toList=[ty,u]){k:Env→Prop}
  (h:bif Nat.beq ty u then(ab (kW P ty) fun e'=>ab (dm P e') fun sz=>ab (p7 P e') fun dg=>ab (j0 P e') fun z=>
    bif Nat.blt 0 dg&&Nat.blt 0 sz&&Nat.beq z.length sz then cm sz dg (e.an.getD t (.v .undef)).bu ((Ab.bc gl e y).aa).bu fun r=>
     k ⟨cz (e.an.set t (e.an.getD t (.v .undef)).aa) o.dst (.v r),e.boxes⟩else False)else False):wJ P gl w0 ay o a w k:=by
 have hs:=lL hI t
 have rx:bd w g.St w0.heap.size (gJ w0.heap.size w g t 0) (e.an.getD t (.v .undef)).bu (a.eval (.tmp t)):=by
  revert hs
  generalize e.an.getD t (.v .undef)=s
  intro hs
  cases s with
  |v x=>exact hs.ka
  |_=>exact .undef _ _
 intro next Q hn
 refine LD hI ho hc (Mu e t o.dst) (lost:=fun i=>i=t) hx ht rx (hI.gX y) (fun b a' c' h=>⟨t,h,rfl⟩)
  (k:=fun s au=>k ⟨cz (e.an.set t (e.an.getD t (.v .undef)).aa) o.dst s,au⟩) h next Q (fun s v au w' g' hinv hk=>hn _ v w' g' hinv hk)
theorem Uo(hI:Inv gl w0 ay e a w g){o:Oper}{t i:Nat}(ho:o.op=.extract (.tmp t) i){vs:List SV}(hs:e.an.getD t (.v .undef)=.t vs){r:SV}(hr:vs[i]? =some r){k:Env→Prop}
  (h:k ⟨cz (e.an.set t (.t (vs.set i (aa r)))) o.dst (.v r),e.boxes⟩):wJ P gl w0 ay o a w k:=by
 have oq:=lL hI t
 rw[hs]at oq
 obtain⟨tv,hv,hl,hc⟩:=oq.H7
 have hi:i<tv.size:=by rw[←hl];exact(List.getElem?_eq_some_iff.1 hr).1
 have JK:t<e.an.length:=by
  rcases Nat.lt_or_ge t e.an.length with h|h
  ·exact h
  ·rw[List.getD_eq_getElem?_getD,List.getElem?_eq_none h]at hs;cases hs
 intro next Q hn
 have bz:(execOp a.eval o).run P w=.ok (.value tv[i]) w:=by simp[execOp,ho,Instr.extract,hv,hi]
 unfold Oper.wp
 rw[bz]
 let g':Gh:={g with ow:=fun b=>if g.ow b=some (.s t i)then o.dst.map (fun d=>.s d 0)else g.ow b}
 have hX:Ext w0.heap.size w g w g' (fun p=>p=.s t i∨∃d j,o.dst=some d∧p=.s d j):=by
  refine⟨fun D _ hb hn h=>⟨h,hb,(by
   show(if g.ow D=some (.s t i)then o.dst.map (fun d=>Pos.s d 0)else g.ow D)=none
   rw[if_neg (by rw[hn];simp)];exact hn),fun _ h=>h⟩,fun _ _ h=>(by first|exact⟨h,rfl⟩|exact⟨h,.refl _ _ _⟩),fun _ _ _=>rfl,fun _ _ h=>h,fun p b a' c' hp cC=>⟨?_,.refl _ _ _⟩,.refl _⟩
  obtain⟨h1,h2,h3,h4,h5⟩:=cC
  refine⟨?_,h2,h3,h4,h5⟩
  show(if g.ow b=some (.s t i)then o.dst.map (fun d=>Pos.s d 0)else g.ow b)=some p
  rw[if_neg (by rw[h1];intro h;cases h;exact hp (.inl rfl))]
  exact h1
 refine hn _ _ w g' (hI.stepG hX (Below.refl _ _) (by simp) (fun i' x hx hd=>?_) (fun d hd=>?_) hI.fo (fun b bx ao h1 h2=>?_) hI.nodup hI.eb hI.cP) h
 ·rw[List.getElem?_set]at hx
  split at hx
  ·rename_i he
   subst he
   simp only[JK,↓reduceIte,Option.some.injEq]at hx
   subst hx
   have hvt:a.tmps.getD t undef=.tuple tv:=hv
   rw[hvt]
   refine .t _ _ tv (by simpa using hl) fun j x v hx gS=>?_
   rw[List.getElem?_set]at hx
   split at hx
   ·rename_i je
    subst je
    split at hx
    ·cases hx
     exact((hc i r v hr gS).aa (O':=fun _ _ _=>False)).mono hX.st hX.bs _ (fun _ _ _ h=>h.elim)
    ·cases hx
   ·rename_i je
    refine(hc j x v hx gS).mono hX.st hX.bs _ (fun b a' c' cC=>hX.own _ b a' c' ?_ cC)
    rintro(h|⟨d,j',h1,h2⟩)
    ·cases h;exact je rfl
    ·cases h2;exact hd h1
  ·rename_i he
   refine hX.slot (fun j=>?_) (hI.an i' x hx)
   rintro(h|⟨d,j',h1,h2⟩)
   ·cases h;exact he rfl
   ·cases h2;exact hd h1
 ·refine .v _ _ _ ((hc i r tv[i] hr (by simp)).mono hX.st hX.bs _ (fun b a' c' cC=>⟨?_,.refl _ _ _⟩))
  obtain⟨h1,h2,h3,h4,h5⟩:=cC
  refine⟨?_,h2,h3,h4,h5⟩
  show(if g.ow b=some (.s t i)then o.dst.map (fun d=>Pos.s d 0)else g.ow b)=some (.s d 0)
  rw[if_pos h1,hd];rfl
 ·refine hX.box (fun j=>?_) rfl (hI.boxes b bx ao h1 h2)
  rintro(h|⟨d,j',h1,h2⟩)
  ·cases h
  ·cases h2
theorem W6(hI:Inv gl w0 ay e a w g){o:Oper}{ty:TypeId}{x:Operand}(ho:o.op=.load ty x){bn off:Nat}(hs:(Ab.bc gl e x).aa =.p bn off){ly:Bool×Nat}(hl:gy P ty=some ly)(fE:ly.1=false)
  {cs:List SV}(cp:e.boxes[bn]? =some (.cells cs)){y:SV}(hy:cs[off]? =some y){k:Env→Prop}(h:k ⟨cz e.an o.dst (.v y),e.boxes.set bn (.cells (cs.set off (aa y)))⟩):wJ P gl w0 ay o a w k:=by
 obtain⟨b0,n⟩:=ly
 simp only at fE
 subst fE
 obtain⟨ao,hv,c7⟩:=(hI.lZ hs).jJ
 obtain⟨h0,c,te,hc,ct,hlen,bt⟩:=hI.boxes bn _ ao cp c7
 have tG:off<c.size:=Nat.lt_of_lt_of_le (List.getElem?_eq_some_iff.1 hy).1 hlen
 have bF:w.cell? ⟨ao,off,none⟩=some c[off]:=by rw[cell_of_row w ao off c te (0,0) hc];simp[tG]
 have bz:(execOp a.eval o).run P w=.ok (.value c[off]) w:=by
  have:=uT (P:=P) (w:=w) hl ao off (fun _=>c[off]) (fun j hj=>by simp at hj;subst hj;exact bF)
  simp[execOp,ho,Instr.loadAt,Instr.sureAddr,hv,this]
 intro next Q hn
 unfold Oper.wp
 rw[bz]
 let g':Gh:={g with ow:=fun b=>if g.ow b=some (.b bn off)then o.dst.map (fun d=>.s d 0)else g.ow b}
 refine hn _ _ w g' (hI.HH (dst:=o.dst) (an:=e.an) (fun _=>False) (fun j=>j=off) (g':=g') rfl rfl (fun p b' h1 h2 h3 h4=>?_) (fun D hD=>by
   show(if g.ow D=some (.b bn off)then o.dst.map (fun d=>.s d 0)else g.ow D)=none
   rw[if_neg (by rw[hD];simp)];exact hD) c7 (fun j y hj=>ct j y (by simpa[af.size]using hj)) hc (fun c ty h=>by rw[hc]at h;cases h;rfl) (fun _ _=>rfl) rfl ⟨rfl,rfl,rfl⟩ rfl
  (fun i x hx _=>⟨x,hx,.inl ⟨rfl,fun h=>h⟩⟩) (fun hX=>?_) (fun hX d hd=>?_)) h
 ·show(if g.ow b'=some (.b bn off)then o.dst.map (fun d=>Pos.s d 0)else g.ow b')=some p
  rw[if_neg (by rw[h4];intro h;cases h;exact h2 off rfl rfl)]
  exact h4
 ·refine⟨by simpa using hlen,fun j x u hx hu=>?_⟩
  rw[List.getElem?_set]at hx
  split at hx
  ·rename_i hj
   subst hj
   split at hx
   ·cases hx
    exact((bt off y u hy hu).aa (O':=fun _ _ _=>False)).mono hX.st hX.bs _ (fun _ _ _ h=>h.elim)
   ·cases hx
  ·rename_i hj
   refine(bt j x u hx hu).mono hX.st hX.bs _ (fun b' a' c' cC=>hX.own _ b' a' c' ?_ cC)
   rintro(⟨i,j',h,_⟩|⟨j',h,h'⟩|⟨d,j',_,h⟩)
   ·cases h
   ·cases h;exact hj h'.symm
   ·cases h
 ·refine .v _ _ _ ((bt off y c[off] hy (by simp)).mono hX.st hX.bs _ (fun b' a' c' cC=>⟨?_,.refl _ _ _⟩))
  obtain⟨h1,h2,h3,h4,h5⟩:=cC
  refine⟨?_,h2,h3,h4,h5⟩
  show(if g.ow b'=some (.b bn off)then o.dst.map (fun d=>Pos.s d 0)else g.ow b')=some (.s d 0)
  rw[if_pos h1,hd];rfl
theorem VW(hI:Inv gl w0 ay e a w g){o:Oper}{ty:TypeId}{x:Operand}{t:Nat}(ho:o.op=.store ty x (.tmp t))(hd:o.dst=none){bn off:Nat}(hs:(Ab.bc gl e x).aa =.p bn off)
  (lA:dm P ty=some 1){y:SV}(hy:e.an.getD t (.v .undef)=.v y){cs:List SV}(cp:e.boxes[bn]? =some (.cells cs)){l:List SV}(hl:ax y=some l)(oH:l.length=1)(tG:off<cs.length)
  {k:Env→Prop}(h:k ⟨e.an.set t (.v (aa y)),e.boxes.set bn (.cells (setAt cs off l))⟩):wJ P gl w0 ay o a w k:=by
 obtain⟨ao,hv,c7⟩:=(hI.lZ hs).jJ
 obtain⟨h0,c,te,hc,ct,hlen,bt⟩:=hI.boxes bn _ ao cp c7
 have oq:=lL hI t
 rw[hy]at oq
 obtain⟨c1,c2,c3⟩:=oq.ka.cells hl
 have jy:(a.eval (.tmp t)).cells.size =1:=by rw[←c1,oH]
 have b4:=z9 (P:=P) (w:=w) lA hc jy c2 (off:=off) (by omega)
 have bz:(execOp a.eval o).run P w=.ok .skip (w.setRow ao (c.toList.take off++(a.eval (.tmp t)).cells.toList ++c.toList.drop (off+1)).toArray):=by
  simp[execOp,ho,Instr.storeAt,Instr.sureAddr,hv,b4]
 intro next Q hn
 unfold Oper.wp
 rw[bz]
 have iC:=setRow_heap w ao c (c.toList.take off++(a.eval (.tmp t)).cells.toList ++c.toList.drop (off+1)).toArray te (0,0) hc
 let g':Gh:=g.qQ t (fun _=>.b bn off)
 have kJ:∀j,(c.toList.take off++(a.eval (.tmp t)).cells.toList ++c.toList.drop (off+1)).toArray[j]? =if j<off then c[j]? else if j<off+1 then(a.eval (.tmp t)).cells[j-off]? else c[j]? :=by
  intro j
  have oG:(a.eval (.tmp t)).cells.toList.length =1:=by simpa using jy
  have:=s9 c.toList (a.eval (.tmp t)).cells.toList off (by rw[oG];simp;omega) j
  rw[oG]at this
  simp only[List.getElem?_toArray]
  rw[this]
  simp only[Array.getElem?_toList]
 have e0:(⟨e.an.set t (.v (aa y)),e.boxes.set bn (.cells (setAt cs off l))⟩:Env)=⟨cz (e.an.set t (.v (aa y))) o.dst (.t []),e.boxes.set bn (.cells (setAt cs off l))⟩:=by rw[hd];rfl
 rw[e0]at h
 refine hn _ undef _ g' (hI.HH (dst:=o.dst) (s:=.t []) (an:=e.an.set t (.v (aa y))) (fun i=>i=t) (fun j=>j=off) (g':=g') rfl rfl (fun p b' h1 h2 h3 h4=>?_) (fun D hD=>by simp[g',Gh.qQ,hD]) c7 ?_ iC (fun c ty h=>by rw[hc]at h;cases h;simp[jy];omega)
  (fun k hk=>setRow_other w ao k _ hk) (by simp[World.setRow]) ⟨rfl,rfl,rfl⟩ (by simp) (fun i x hx _=>?_) (fun hX=>?_) (fun hX d jP=>by rw[hd]at jP;cases jP)) h
 ·show(match g.ow b' with|some (.s i j)=>if i=t then some (Pos.b bn off)else some (.s i j)|x=>x)=some p
  rw[h4]
  cases p with
  |s i j=>simp only;rw[if_neg (fun h=>h1 i j rfl h)]
  |b i j=>rfl
 ·intro j u hj hu
  rw[←jy]at hu
  exact LO (m:=cs.length) (by omega) ct c2 j u (by simp only[af.size,yh l cs off (by omega),List.length_append,List.length_take,List.length_drop]at hj;omega) hu
 ·rw[List.getElem?_set]at hx
  split at hx
  ·rename_i he
   subst he
   split at hx
   ·rename_i aV
    cases hx
    rw[List.getD_eq_getElem?_getD,List.getElem?_eq_getElem aV]at hy
    simp only[Option.getD_some]at hy
    exact⟨_,List.getElem?_eq_getElem aV,.inr (by rw[hy];rfl)⟩
   ·cases hx
  ·rename_i he
   exact⟨x,hx,.inl ⟨rfl,fun h=>he h.symm⟩⟩
 ·rw[yh l cs off (by omega)]
  refine⟨by simp[jy,oH];omega,fun j x' u dE hu=>?_⟩
  rw[kJ]at hu
  rw[s9 cs l off (by omega),oH]at dE
  have gw:j≠off→cs[j]? =some x'→c[j]? =some u→bd (w.setRow ao (c.toList.take off++(a.eval (.tmp t)).cells.toList ++c.toList.drop (off+1)).toArray) g'.St w0.heap.size (po w0.heap.size _ g' bn j) x' u:=fun hj h4 h5=>
   (bt j x' u h4 h5).mono hX.st hX.bs _ (fun b' a' c' cC=>hX.own _ b' a' c' (by
     rintro(⟨i,j',h,_⟩|⟨j',h,h'⟩|⟨d,j',_,h⟩)
     ·cases h
     ·cases h;exact hj h'
     ·cases h) cC)
  split at dE
  ·rename_i hj
   rw[if_pos hj]at hu
   exact gw (by omega) dE hu
  ·rename_i hj
   rw[if_neg hj]at hu
   split at dE
   ·rename_i pL
    rw[if_pos pL]at hu
    have ES:j=off:=by omega
    subst ES
    refine(c3 (j-j) x' u dE hu).mono hX.st hX.bs _ (fun b' a' c' cC=>?_)
    have:=NT (q:=fun _=>Pos.b bn j) cC
    obtain⟨h1,h2,h3,⟨cur,tT,h4,kN⟩,h5⟩:=this
    have ck:b'≠ao:=fun h=>h3 (h▸List.mem_of_getElem? c7)
    exact⟨⟨h1,h2,h3,⟨cur,tT,(setRow_other w ao b' _ ck).trans h4,kN⟩,h5⟩,fun _=>setRow_other w ao b' _ ck⟩
   ·rename_i pL
    rw[if_neg pL]at hu
    exact gw (by omega) dE hu
theorem Va(hI:Inv gl w0 ay e a w g){o:Oper}{k:Env→Prop}(h:j8 P gl o e k):wJ P gl w0 ay o a w k:=by
 unfold j8 at h
 split at h
 ·rename_i t ho;exact Nd hI (by simp[execOp,ho]) h
 ·rename_i t ho;exact Nd hI (by simp[execOp,ho]) h
 ·rename_i t i ho
  split at h
  ·rename_i vs hs
   split at h
   ·rename_i r hr;exact Uo hI ho hs hr h
   ·exact h.elim
  ·exact h.elim
 ·rename_i ty x ho
  split at h
  ·rename_i b off hs
   obtain⟨ly,hl,h⟩:=aK h
   cases fE:ly.1 with
   |true=>rw[fE]at h;exact h.elim
   |false=>
    rw[fE]at h
    simp only[cond_false]at h
    split at h
    ·rename_i cs cp
     obtain⟨y,hy,h⟩:=aK h
     exact W6 hI ho hs hl fE cp hy h
    ·exact h.elim
  ·exact h.elim
 ·rename_i ty x t ho
  split at h
  ·rename_i b off y hs hy hd
   obtain⟨sz,aQ,h⟩:=aK h
   cases hb:Nat.beq sz 1 with
   |false=>rw[hb]at h;exact h.elim
   |true=>
    rw[hb]at h
    simp only[cond_true]at h
    have:=Nat.eq_of_beq_eq_true hb
    subst this
    split at h
    ·rename_i cs cp
     obtain⟨l,hl,h1,h2,h⟩:=aK h
     exact VW hI ho hd hs aQ hy cp hl h1 h2 h
    ·exact h.elim
  ·exact h.elim
 ·rename_i t n ps ho
  obtain⟨r',e',sz,L,hk,bz,aQ,lp,iZ,bt⟩:=KU hI ho (K:=fun sz L=>k ⟨cz e.an o.dst (.v (.cA sz L)),e.boxes⟩) h
  intro next Q hn
  exact bI.NS hI (k:=fun s au=>k ⟨cz e.an o.dst s,au⟩) bz aQ lp iZ bt hk next Q (fun s v au w' g' hinv hk=>hn _ v w' g' hinv hk)
 ·rename_i c ho
  split at h
  ·rename_i t y ty u hc hx ht
   exact U9 hI ho hc hx ht h
  ·exact h.elim
 ·exact h.elim
theorem Mv(hI:Inv gl w0 ay e a w g){id:Nat}{aE:Bool}{o:Oper}{k:Env→Prop}(h:kI P gl (aF P gl) id aE o e k):wJ P gl w0 ay o a w k:=by
 unfold kI at h
 cases aE<;>simp only[cond_true,cond_false]at h
 ·intro next Q hn
  exact W5 hI h next Q (fun s v au w' g' hinv hk=>hn _ v w' g' hinv hk)
 ·exact Va hI h
end
end Go.Proofs.YtaknajjmldngiaaGreat.Ab
namespace Go.Proofs.YtaknajjmldngiaaGreat.Ab
open Go Go.RowKit
def kP(U:Option (Nat×af))(au:List af):List af:=match U with
 |none=>au
 |some (b,bx)=>au.set b bx
def iD(src:Option (Nat×Slot))(l:List Slot):List Slot:=match src with
 |none=>l
 |some (t,s)=>l.set t s
def qq(x y:Option af):Prop:=x=y∨∃cs eR,x=some (.cells cs)∧y=some (.cells eR)∧cs.map Ab.aa=eR.map Ab.aa
theorem qq.refl(x:Option af):qq x x:=.inl rfl
theorem qq.symm{x y:Option af}(h:qq x y):qq y x:=by
 rcases h with h|⟨cs,eR,h1,h2,h3⟩
 ·exact .inl h.symm
 ·exact .inr ⟨eR,cs,h2,h1,h3.symm⟩
theorem qq.trans{x y z:Option af}(h:qq x y)(k:qq y z):qq x z:=by
 rcases h with rfl|⟨cs,eR,h1,h2,h3⟩
 ·exact k
 ·rcases k with rfl|⟨ds,JL,k1,k2,k3⟩
  ·exact .inr ⟨cs,eR,h1,h2,h3⟩
  ·rw[h2]at k1
   cases k1
   exact .inr ⟨cs,JL,h1,k2,h3.trans k3⟩
theorem Yl(x:SV):cS (aa x)=cS x:=by cases x<;>rfl
theorem GM:∀(l:List SV),eP (l.map aa)=eP l
 |[]=>rfl
 |x::l=>by simp only[List.map_cons,eP,Yl,GM l]
theorem Vb{agg:Bool}{sz off:Nat}{cs eR:List SV}{y:SV}(h:cs.map Ab.aa=eR.map Ab.aa)(hy:ag agg sz off cs=some y):∃y',ag agg sz off eR=some y'∧aa y'=aa y:=by
 have hlen:cs.length=eR.length:=by have:=congrArg List.length h;simpa using this
 cases agg with
 |false=>
  simp only[ag,cond_false]at hy ⊢
  have h1:(eR.map Ab.aa)[off]? =some (aa y):=by rw[←h];simp[hy]
  rw[List.getElem?_map]at h1
  obtain⟨y',h2,h3⟩:=Option.map_eq_some_iff.1 h1
  exact⟨y',h2,h3⟩
 |true=>
  refine⟨y,?_,rfl⟩
  simp only[ag,cond_true]at hy ⊢
  have h1:eP ((eR.drop off).take sz)=eP ((cs.drop off).take sz):=by
   rw[←GM,←GM ((cs.drop off).take sz),List.map_take,List.map_drop,List.map_take,List.map_drop,h]
  rw[h1,←hlen]
  exact hy
def kZ(aeD:Bool)(s:Slot)(au b':List af):Prop:=(∀b off,s=.p b off→qq b'[b]? au[b]? ∧(aeD=false→b'[b]? =au[b]?))∧(∀n,snap b' n s=snap au n s)∧∀b l,s=.m b→(b'[b]? =some (.map l)↔au[b]? =some (.map l))
structure tK(id:Nat)(aE:Bool)(o:Oper)(U:Option (Nat×af))(ρ:Operand→Slot)(au b':List af):Prop where
 mem:ib o=true→∀x∈o.op.operands,kZ (!iP o&& !aE) (ρ x) au b'
 fresh:fZ o=true→U≠none→b'[id]? =some .none
inductive tu(id:Nat)(o:Oper)(aE:Bool)(ρ:Operand→Slot)(au:List af):Option (Nat×af)→Prop
 |none:tu id o aE ρ au none
 |mk (bx:af) (h:fZ o=true) (hn:au[id]? =some .none) (hb:bx≠.none):tu id o aE ρ au (some (id,bx))
 |wr (b:Nat) (bx gw:af) (h:ib o=true) (hw:iP o=true∨aE=true) (x:Operand) (hx:x∈o.op.operands) (off:Nat) (hp:ρ x=.p b off∨ρ x=.m b) (ho:au[b]? =some gw) (hold:gw≠.none) (hb:bx≠.none ∧bx.isMap=gw.isMap)
   (pq:aE=true→iP o=false→∃cs eR,gw=.cells cs∧bx=.cells eR∧cs.map Ab.aa=eR.map Ab.aa)
   (ha:∀t y z,o.op=.store t y z→x=y):
   tu id o aE ρ au (some (b,bx))
inductive dR(K:Nat→Prop):Slot→Prop
 |v (x:SV):dR K (.v x)
 |t (l:List SV):dR K (.t l)
 |p (b off:Nat) (h:K b):dR K (.p b off)
 |a (b n sz:Nat) (h:K b):dR K (.a b n sz)
 |m (b:Nat) (h:K b):dR K (.m b)
 |c (f:Fn) (first cap:List Slot) (h1:∀s∈first,dR K s) (h2:∀s∈cap,dR K s):dR K (.c f first cap)
theorem dR.im{K:Nat→Prop}{s:Slot}(h:dR K s):dR K s.aa:=by
 cases h with
 |v x=>exact .v _
 |t l=>exact .t _
 |p b off h=>exact .p b off h
 |a b n sz h=>exact .a b n sz h
 |m b h=>exact .m b h
 |c f first cap h1 h2=>exact .c f first cap h1 h2
theorem dR.adz{K:Nat→Prop}{s:Slot}(h:dR K s.aa):dR K s:=by
 cases s with
 |v x=>exact .v _
 |t l=>exact .t _
 |p b off=>exact h
 |a b n sz=>exact h
 |m b=>exact h
 |c f first cap=>exact h
theorem dR.jJ{K:Nat→Prop}{b off:Nat}(h:dR K (.p b off)):K b:=by cases h;assumption
theorem dR.Pa{K:Nat→Prop}{b:Nat}(h:dR K (.m b)):K b:=by cases h;assumption
theorem dR.y9{K:Nat→Prop}{b n sz:Nat}(h:dR K (.a b n sz)):K b:=by cases h;assumption
def addrOf(o:Oper):Option Operand:=match o.op with| .store _ x _=>some x|_=>none
def zl(o:Oper)(ρ:Operand→Slot)(au:List af)(s:Slot)(U:Option (Nat×af)):Prop:=
 ∀(K B:Nat→Prop),(∀b,K b→B b)→(∀x∈o.op.operands,addrOf o≠some x→dR K (ρ x))→(∀t x y,o.op=.store t x y→dR K (ρ y))→(∀b s,B b→au[b]? =some (.one s)→dR K s)→
  (fZ o=false→dR K s)∧∀b s',U=some (b,.one s')→fZ o=false→dR K s'
theorem ij{o:Oper}{ρ:Operand→Slot}{au:List af}{x:SV}:zl o ρ au (.v x) none:=fun _ _ _ _ _ _=>⟨fun _=>.v _,fun _ _ h=>by cases h⟩
theorem Er{o:Oper}{ρ:Operand→Slot}{au:List af}{s:Slot}{U:Option (Nat×af)}(h:fZ o=true):zl o ρ au s U:=fun _ _ _ _ _ _=>⟨fun h2=>(by rw[h]at h2;cases h2),fun _ _ _ h2=>(by rw[h]at h2;cases h2)⟩
theorem Es{o:Oper}{ρ:Operand→Slot}{au:List af}{s:Slot}(h:∀K,dR K s):zl o ρ au s none:=fun K _ _ _ _ _=>⟨fun _=>h K,fun _ _ h=>by cases h⟩
theorem sa{o:Oper}{ρ:Operand→Slot}{au:List af}{s:Slot}{x:Operand}(hx:x∈o.op.operands)(ha:addrOf o=none)(h:∀K,dR K (ρ x)→dR K s):zl o ρ au s none:=fun K _ _ hρ _ _=>⟨fun _=>h K (hρ x hx (by rw[ha];simp)),fun _ _ h=>by cases h⟩
theorem Et{o:Oper}{ρ:Operand→Slot}{au:List af}{l:List SV}{b:Nat}{cs:List SV}:zl o ρ au (.t l) (some (b,.cells cs)):=fun _ _ _ _ _ _=>⟨fun _=>.t _,fun _ _ h=>by cases h⟩
section
variable{P:Program}{gl:Nat→Option D}{C:aP}
theorem CE{ρ ρ':Operand→Slot}:∀{l:List (Nat×Operand)},(∀p∈l,ρ' p.2=ρ p.2)→kX ρ' l=kX ρ l
 |[],_=>rfl
 |(i,x)::l,h=>by
  simp only[kX]
  rw[h (i,x) (by simp),CE (fun p hp=>h p (by simp[hp]))]
theorem Ln{ρ ρ':Operand→Slot}{au b':List af}:∀{l:List Operand},(∀x∈l,snap b' 6 (ρ' x)=snap au 6 (ρ x))→iW b' ρ' l=iW au ρ l
 |[],_=>rfl
 |x::l,h=>by
  simp only[iW]
  rw[h x (by simp),Ln (fun p hp=>h p (by simp[hp]))]
theorem Gb{ρ ρ':Operand→Slot}{x:Option Operand}(h:∀y,x=some y→ρ' y=ρ y):lV ρ' x=lV ρ x:=by
 cases x with
 |none=>rfl
 |some y=>simp only[lV];rw[h y rfl]
theorem Gu:∀{n:Nat}{k:List SV→Prop}(rs:List SV),rs.length=n→k rs→BU n k
 |0,_,[],_,h=>h
 |n+1,_,r::rs,hl,h=>⟨r,Gu rs (by simpa using hl) h⟩
 |0,_,_::_,hl,_=>by simp at hl
 |_+1,_,[],hl,_=>by simp at hl
theorem Gc{n:Nat}{au:List af}{k:Slot→List af→Prop}{f:FuncId}{args:List SV}(h:lP C n au k f args):
  ∃s,k s au∧(∀K,dR K s)∧∀b' k',k' s b'→lP C n b' k' f args:=by
 unfold lP at h
 split at h
 ·obtain⟨r,h1,h2,h3⟩:=h
  exact⟨.v r,h3,fun K=>.v _,fun b' k' hk=>⟨r,h1,h2,hk⟩⟩
 ·rename_i hn
  obtain⟨rs,hl,h1,h2⟩:=Hc h
  refine⟨.t rs,h2,fun K=>.t _,fun b' k' hk=>?_⟩
  unfold lP
  split
  ·exact absurd rfl hn
  ·exact Gu rs hl ⟨h1,hk⟩
theorem Up{x:SV}{args:List SV}{K:FuncId→List SV→Prop}(h:withFn x args K):∃f l,K f l∧∀K':FuncId→List SV→Prop,K' f l→withFn x args K':=by
 unfold withFn at h
 split at h
 ·exact⟨_,_,h,fun _ h=>h⟩
 ·exact⟨_,_,h,fun _ h=>h⟩
 ·exact h.elim
theorem TF{x:SV}{name:String}{args:List SV}{K:FuncId→List SV→Prop}(h:tg P x name args K):∃f l,K f l∧∀K':FuncId→List SV→Prop,K' f l→tg P x name args K':=by
 unfold tg at h
 split at h
 ·obtain⟨f,hf,h⟩:=aK h
  exact⟨_,_,h,fun K' hk=>by simp only[tg,hf];exact hk⟩
 ·exact h.elim
theorem Ym{au b':List af}{f:Fn}{first cap:List Slot}(h:∀n,snap b' n (.c f first cap)=snap au n (.c f first cap)):
  ia (snap b' 6) first=ia (snap au 6) first∧ia (snap b' 6) cap=ia (snap au 6) cap:=by
 have:=h 7
 simp only[snap,SV.dX.injEq,true_and]at this
 exact this
theorem W7{id:Nat}{o:Oper}{ρ:Operand→Slot}{au:List af}{k:Slot→List af→Prop}(h:c8 P C id o ρ au k):
  ∃s U,k s (kP U au)∧tu id o false ρ au U∧zl o ρ au s U∧
   ∀(ρ':Operand→Slot)(b':List af)(k':Slot→List af→Prop),(∀x∈o.op.operands,ρ' x=ρ x)→tK id false o U ρ au b'→k' s (kP U b')→c8 P C id o ρ' b' k':=by
 cases ho:o.op<;>simp only[c8,ho]at h
 case move x=>
  refine⟨_,none,h,.none,sa (x:=x) (by simp[ho,Op.operands]) (by simp[addrOf,ho]) (fun _ h=>h),fun ρ' b' k' hρ _ hk=>?_⟩
  simp only[c8,ho];rw[hρ x (by simp[Op.operands])];exact hk
 case assign x=>
  refine⟨_,none,h,.none,sa (x:=x) (by simp[ho,Op.operands]) (by simp[addrOf,ho]) (fun _ h=>h),fun ρ' b' k' hρ _ hk=>?_⟩
  simp only[c8,ho];rw[hρ x (by simp[Op.operands])];exact hk
 case pick c x y=>
  split at h
  ·rename_i s hs
   obtain⟨b,rfl,h1,h2⟩:=yr h
   cases b
   ·refine⟨_,none,h2 rfl,.none,sa (x:=y) (by simp[ho,Op.operands]) (by simp[addrOf,ho]) (fun _ h=>h),fun ρ' b' k' hρ _ hk=>?_⟩
    simp only[c8,ho];rw[hρ c (by simp[Op.operands]),hρ x (by simp[Op.operands]),hρ y (by simp[Op.operands]),hs];exact hk
   ·refine⟨_,none,h1 rfl,.none,sa (x:=x) (by simp[ho,Op.operands]) (by simp[addrOf,ho]) (fun _ h=>h),fun ρ' b' k' hρ _ hk=>?_⟩
    simp only[c8,ho];rw[hρ c (by simp[Op.operands]),hρ x (by simp[Op.operands]),hρ y (by simp[Op.operands]),hs];exact hk
  ·exact h.elim
 case alloc t=>
  split at h
  ·rename_i fj
   obtain⟨z,hz,hk⟩:=aK h
   refine⟨_,some (id,_),hk,.mk _ (by simp[fZ,ho]) fj (by simp),Er (by simp[fZ,ho]),fun ρ' b' k' hρ hS hk=>?_⟩
   simp only[c8,ho,hS.fresh (by simp[fZ,ho]) (by simp),hz,ab];exact hk
  ·exact h.elim
 case box t x=>
  split at h
  ·rename_i fj
   obtain⟨sz,aQ,h⟩:=aK h
   split at h
   ·rename_i y hy
    obtain⟨l,hl,hlen,hk⟩:=aK h
    refine⟨_,some (id,_),hk,.mk _ (by simp[fZ,ho]) fj (by simp),Er (by simp[fZ,ho]),fun ρ' b' k' hρ hS hk=>?_⟩
    simp only[c8,ho,hS.fresh (by simp[fZ,ho]) (by simp),aQ,ab];rw[hρ x (by simp[Op.operands]),hy];simp only[hl];exact⟨hlen,hk⟩
   ·exact h.elim
   ·rename_i h1 h2
    split at h
    ·refine⟨_,some (id,_),h,.mk _ (by simp[fZ,ho]) fj (by simp),Er (by simp[fZ,ho]),fun ρ' b' k' hρ hS hk=>?_⟩
     simp only[c8,ho,hS.fresh (by simp[fZ,ho]) (by simp),aQ,ab];rw[hρ x (by simp[Op.operands])]
     split
     ·rename_i y hy;exact absurd hy (h1 y)
     ·rename_i y hy;exact absurd hy (h2 y)
     ·exact hk
    ·exact h.elim
  ·exact h.elim
 case build t ps=>
  obtain⟨l,hl,h⟩:=aK h
  obtain⟨r,hr,h⟩:=aK h
  refine⟨_,none,h,.none,ij,fun ρ' b' k' hρ _ hk=>?_⟩
  simp only[c8,ho]
  rw[CE (fun p hp=>hρ p.2 (by simp only[Op.operands,List.mem_toArray,List.mem_map];exact⟨p,hp,rfl⟩)),hl]
  simp only[ab,hr];exact hk
 case buildSlice t n ps=>
  obtain⟨e,he,h⟩:=aK h
  obtain⟨ly,fE,h⟩:=aK h
  obtain⟨z,hz,h⟩:=aK h
  obtain⟨l,hl,h⟩:=aK h
  cases hc:(Nat.ble (n*ly.2) (2^24)&&Nat.blt 0 ly.2&&Nat.beq z.length ly.2)with
  |false=>rw[hc]at h;exact h.elim
  |true=>
   rw[hc]at h
   simp only[cond_true]at h
   refine⟨_,none,h.2,.none,ij,fun ρ' b' k' hρ _ hk=>?_⟩
   simp only[c8,ho]
   rw[CE (fun p hp=>hρ p.2 (by simp only[Op.operands,List.mem_toArray,List.mem_map];exact⟨p,hp,rfl⟩)),hl]
   simp only[ab,he,fE,hz,hc,cond_true];exact⟨h.1,hk⟩
 case load t x=>
  obtain⟨ly,hl,h⟩:=aK h
  split at h
  ·rename_i bn off hs
   unfold np at h
   have E2:∀{U b'},tK id false o U ρ au b'→qq b'[bn]? au[bn]? :=fun hS=>((hS.mem (by simp[ib,ho]) x (by simp[ho,Op.operands])).1 bn off hs).1
   split at h
   ·rename_i cs cp
    obtain⟨y,hy,h⟩:=aK h
    refine⟨_,none,h,.none,ij,fun ρ' b' k' hρ hS hk=>?_⟩
    simp only[c8,ho,hl,ab];rw[hρ x (by simp[Op.operands]),hs]
    rcases E2 hS with hn|⟨ds,JL,h1,h2,h3⟩
    ·simp only[np,hn,cp,ab,hy];exact hk
    ·rw[cp]at h2
     cases h2
     obtain⟨y',sE,hd⟩:=Vb h3.symm hy
     simp only[np,h1,ab,sE,hd];exact hk
   ·rename_i s cp
    cases hb:ly.1 with
    |true=>rw[hb]at h;exact h.elim
    |false=>
     rw[hb]at h
     simp only[cond_false]at h
     have zK:∀{U b'},tK id false o U ρ au b'→b'[bn]? =au[bn]? :=fun hS=>by
      rcases E2 hS with hn|⟨ds,JL,_,h2,_⟩
      ·exact hn
      ·rw[cp]at h2;cases h2
     split at h
     ·refine⟨_,none,h,.none,fun K B zL hρ' _ dQ=>⟨fun _=>(dQ bn s (zL bn (by have:=hρ' x (by simp[ho,Op.operands]) (by simp[addrOf,ho]);rw[hs]at this;exact this.jJ)) cp).im,fun _ _ h=>by cases h⟩,fun ρ' b' k' hρ hS hk=>?_⟩
      simp only[c8,ho,hl,ab];rw[hρ x (by simp[Op.operands]),hs];simp only[np,zK hS,cp,hb,cond_false];exact hk
     ·exact h.elim
   ·exact h.elim
  ·rename_i s hs
   obtain⟨y,hy,h⟩:=aK h
   refine⟨_,none,h,.none,ij,fun ρ' b' k' hρ hS hk=>?_⟩
   simp only[c8,ho,hl,ab];rw[hρ x (by simp[Op.operands]),hs];simp only[hy];exact hk
  ·exact h.elim
 case store t x y=>
  obtain⟨n,hn,h⟩:=aK h
  split at h
  ·rename_i bn off hs
   have zK:∀{U b'},tK id false o U ρ au b'→b'[bn]? =au[bn]? :=fun hS=>((hS.mem (by simp[ib,ho]) x (by simp[ho,Op.operands])).1 bn off hs).2 (by simp[iP,ho])
   split at h
   ·rename_i hd
    unfold oY at h
    have uf:∀bx gw,au[bn]? =some gw→gw≠.none →bx≠.none ∧bx.isMap=gw.isMap→tu id o false ρ au (some (bn,bx)):=fun bx gw h1 h2 h3=>
     .wr bn bx gw (by simp[ib,ho]) (.inl (by simp[iP,ho])) x (by simp[ho,Op.operands]) off (.inl hs) h1 h2 h3 (fun h=>by cases h) (fun t' y' z' h=>by rw[ho]at h;cases h;rfl)
    split at h
    ·rename_i cs cp
     split at h
     ·rename_i z hz
      obtain⟨l,hl,h1,h2,h⟩:=aK h
      refine⟨_,some (bn,_),h,uf _ _ cp (by simp) (by simp[af.isMap]),(by first|exact Et|exact fun K B _ _ hv _=>⟨fun _=>.t _,fun _ _ h _=>by cases h;exact hv _ _ _ (by assumption)⟩),fun ρ' b' k' hρ hS hk=>?_⟩
      simp only[c8,ho,hn,ab];rw[hρ x (by simp[Op.operands]),hρ y (by simp[Op.operands]),hs,hz,hd];simp only[oY,zK hS,cp,hl,ab];exact⟨h1,h2,hk⟩
     ·exact h.elim
     ·rename_i h1 h2
      split at h
      ·refine⟨_,some (bn,_),h,uf _ _ cp (by simp) (by simp[af.isMap]),(by first|exact Et|exact fun K B _ _ hv _=>⟨fun _=>.t _,fun _ _ h _=>by cases h;exact hv _ _ _ (by assumption)⟩),fun ρ' b' k' hρ hS hk=>?_⟩
       simp only[c8,ho,hn,ab];rw[hρ x (by simp[Op.operands]),hρ y (by simp[Op.operands]),hs,hd];simp only[oY,zK hS,cp];exact hk
      ·exact h.elim
    ·rename_i s0 cp
     split at h
     ·split at h
      ·rename_i z hz
       obtain⟨l,hl,h1,h⟩:=aK h
       refine⟨_,some (bn,_),h,uf _ _ cp (by simp) (by simp[af.isMap]),(by first|exact Et|exact fun K B _ _ hv _=>⟨fun _=>.t _,fun _ _ h _=>by cases h;exact hv _ _ _ (by assumption)⟩),fun ρ' b' k' hρ hS hk=>?_⟩
       simp only[c8,ho,hn,ab];rw[hρ x (by simp[Op.operands]),hρ y (by simp[Op.operands]),hs,hz,hd];simp only[oY,zK hS,cp,hl,ab];exact⟨h1,hk⟩
      ·exact h.elim
      ·rename_i h1 h2
       refine⟨_,some (bn,_),h,uf _ _ cp (by simp) (by simp[af.isMap]),(by first|exact Et|exact fun K B _ _ hv _=>⟨fun _=>.t _,fun _ _ h _=>by cases h;exact hv _ _ _ (by assumption)⟩),fun ρ' b' k' hρ hS hk=>?_⟩
       simp only[c8,ho,hn,ab];rw[hρ x (by simp[Op.operands]),hρ y (by simp[Op.operands]),hs,hd];simp only[oY,zK hS,cp];exact hk
     ·exact h.elim
    ·exact h.elim
   ·exact h.elim
  ·exact h.elim
 case nilCheck x=>
  split at h
  ·rename_i y hy
   obtain⟨z,hz,h⟩:=aK h
   refine⟨_,none,h,.none,ij,fun ρ' b' k' hρ _ hk=>?_⟩
   simp only[c8,ho];rw[hρ x (by simp[Op.operands]),hy];simp only[hz,ab];exact hk
  ·exact h.elim
  ·rename_i f first cap hy
   split at h
   ·refine⟨_,none,h,.none,sa (x:=x) (by simp[ho,Op.operands]) (by simp[addrOf,ho]) (fun _ h=>by rw[hy]at h;exact h),fun ρ' b' k' hρ _ hk=>?_⟩
    simp only[c8,ho];rw[hρ x (by simp[Op.operands]),hy];exact hk
   ·split at h
    ·obtain⟨z,hz,h⟩:=aK h
     refine⟨_,none,h,.none,sa (x:=x) (by simp[ho,Op.operands]) (by simp[addrOf,ho]) (fun _ h=>by rw[hy]at h;exact h),fun ρ' b' k' hρ _ hk=>?_⟩
     simp only[c8,ho];rw[hρ x (by simp[Op.operands]),hy];simp only[hz,ab];exact hk
    ·exact h.elim
   ·exact h.elim
  ·rename_i b off hy
   refine⟨_,none,h,.none,sa (x:=x) (by simp[ho,Op.operands]) (by simp[addrOf,ho]) (fun _ h=>by rw[hy]at h;exact h),fun ρ' b' k' hρ _ hk=>?_⟩
   simp only[c8,ho];rw[hρ x (by simp[Op.operands]),hy];exact hk
  ·exact h.elim
 case binOp op t x y u=>
  obtain⟨z,hz,h⟩:=aK h
  refine⟨_,none,h,.none,ij,fun ρ' b' k' hρ _ hk=>?_⟩
  simp only[c8,ho];rw[hρ x (by simp[Op.operands]),hρ y (by simp[Op.operands])];simp only[hz,ab];exact hk
 case unOp op t x=>
  obtain⟨z,hz,h⟩:=aK h
  refine⟨_,none,h,.none,ij,fun ρ' b' k' hρ _ hk=>?_⟩
  simp only[c8,ho];rw[hρ x (by simp[Op.operands])];simp only[hz,ab];exact hk
 case convert src dst x=>
  cases hs:(P.underlying src).isSome with
  |false=>rw[hs]at h;exact h.elim
  |true=>
   rw[hs]at h
   obtain⟨z,hz,h⟩:=aK h
   refine⟨_,none,h,.none,ij,fun ρ' b' k' hρ _ hk=>?_⟩
   simp only[c8,ho];rw[hρ x (by simp[Op.operands])];simp only[hs,cond_true,hz,ab];exact hk
 case makeInterface t x=>
  cases hs:isIface P t with
  |true=>rw[hs]at h;exact h.elim
  |false=>
   rw[hs]at h
   obtain⟨z,hz,h⟩:=aK h
   refine⟨_,none,h,.none,ij,fun ρ' b' k' hρ _ hk=>?_⟩
   simp only[c8,ho];rw[hρ x (by simp[Op.operands])];simp only[hs,cond_false,hz,ab];exact hk
 case makeFunc fn first cap=>
  refine⟨_,none,h,.none,(fun K B zL hρ' _ _=>⟨fun _=>.c _ _ _ (fun s hs=>by
   obtain⟨x,hx,rfl⟩:=List.mem_map.1 hs
   exact(hρ' x (by rw[ho];simp only[Op.operands,Array.mem_append];exact .inl (by simpa using hx)) (by simp[addrOf,ho])).im) (fun s hs=>by
   obtain⟨x,hx,rfl⟩:=List.mem_map.1 hs
   exact(hρ' x (by rw[ho];simp only[Op.operands,Array.mem_append];exact .inr (by simpa using hx)) (by simp[addrOf,ho])).im),fun _ _ h=>by cases h⟩),fun ρ' b' k' hρ _ hk=>?_⟩
  simp only[c8,ho]
  have e1:(first.toList.map fun x=>(ρ' x).aa)=first.toList.map fun x=>(ρ x).aa :=List.map_congr_left fun x hx=>by rw[hρ x (by simp only[Op.operands,Array.mem_append];exact .inl (by simpa using hx))]
  have e2:(cap.toList.map fun x=>(ρ' x).aa)=cap.toList.map fun x=>(ρ x).aa :=List.map_congr_left fun x hx=>by rw[hρ x (by simp only[Op.operands,Array.mem_append];exact .inr (by simpa using hx))]
  rw[e1,e2];exact hk
 case slice t x lo hi mx=>
  obtain⟨z,hz,h⟩:=aK h
  refine⟨_,none,h,.none,ij,fun ρ' b' k' hρ _ hk=>?_⟩
  simp only[c8,ho]
  rw[hρ x (by simp[Op.operands]),Gb (x:=lo) (fun y hy=>hρ y (by simp[Op.operands,hy])),Gb (x:=hi) (fun y hy=>hρ y (by simp[Op.operands,hy])),Gb (x:=mx) (fun y hy=>hρ y (by simp[Op.operands,hy]))]
  simp only[hz,ab];exact hk
 case fieldAddr t x f=>
  obtain⟨fd,mO,h⟩:=aK h
  obtain⟨sz,aQ,h⟩:=aK h
  cases hc:Nat.beq sz 0 with
  |true=>rw[hc]at h;exact h.elim
  |false=>
   rw[hc]at h
   simp only[cond_false]at h
   split at h
   ·rename_i b off hy
    refine⟨_,none,h,.none,sa (x:=x) (by simp[ho,Op.operands]) (by simp[addrOf,ho]) (fun _ h=>by rw[hy]at h;exact .p _ _ h.jJ),fun ρ' b' k' hρ _ hk=>?_⟩
    simp only[c8,ho,mO,aQ,ab,hc,cond_false];rw[hρ x (by simp[Op.operands]),hy];exact hk
   ·rename_i y hy
    obtain⟨z,hz,h⟩:=aK h
    refine⟨_,none,h,.none,ij,fun ρ' b' k' hρ _ hk=>?_⟩
    simp only[c8,ho,mO,aQ,ab,hc,cond_false];rw[hρ x (by simp[Op.operands]),hy];simp only[hz];exact hk
   ·exact h.elim
 case field t x f=>
  obtain⟨fd,mO,h⟩:=aK h
  obtain⟨ly,fE,h⟩:=aK h
  obtain⟨z,hz,h⟩:=aK h
  refine⟨_,none,h,.none,ij,fun ρ' b' k' hρ _ hk=>?_⟩
  simp only[c8,ho];rw[hρ x (by simp[Op.operands])];simp only[mO,fE,hz,ab];exact hk
 case indexAddr t x i=>
  split at h
  ·rename_i e he
   obtain⟨sz,aQ,h⟩:=aK h
   cases hs:ρ x with
   |a b n=>
    rw[hs]at h
    obtain⟨j,hj,h⟩:=aK h
    refine⟨_,none,h,.none,sa (x:=x) (by simp[ho,Op.operands]) (by simp[addrOf,ho]) (fun _ h=>by rw[hs]at h;exact .p _ _ h.y9),fun ρ' b' k' hρ _ hk=>?_⟩
    simp only[c8,ho];rw[hρ x (by simp[Op.operands]),hρ i (by simp[Op.operands]),hs];simp only[he,aQ,hj,ab];exact hk
   |_=>
    rw[hs]at h
    obtain⟨z,hz,h⟩:=aK h
    refine⟨_,none,h,.none,ij,fun ρ' b' k' hρ _ hk=>?_⟩
    simp only[c8,ho];rw[hρ x (by simp[Op.operands]),hρ i (by simp[Op.operands]),hs];simp only[he,aQ,hz,ab];exact hk
  ·rename_i n e he
   obtain⟨sz,aQ,h⟩:=aK h
   obtain⟨j,hj,h⟩:=aK h
   split at h
   ·rename_i b off hy
    refine⟨_,none,h,.none,sa (x:=x) (by simp[ho,Op.operands]) (by simp[addrOf,ho]) (fun _ h=>by rw[hy]at h;exact .p _ _ h.jJ),fun ρ' b' k' hρ _ hk=>?_⟩
    simp only[c8,ho];rw[hρ x (by simp[Op.operands]),hρ i (by simp[Op.operands])];simp only[he,aQ,hj,ab,hy];exact hk
   ·rename_i y hy
    obtain⟨z,hz,h⟩:=aK h
    refine⟨_,none,h,.none,ij,fun ρ' b' k' hρ _ hk=>?_⟩
    simp only[c8,ho];rw[hρ x (by simp[Op.operands]),hρ i (by simp[Op.operands])];simp only[he,aQ,hj,ab,hy,hz];exact hk
   ·exact h.elim
  ·exact h.elim
 case index t x i=>
  split at h
  ·rename_i n e he
   obtain⟨ly,fE,h⟩:=aK h
   obtain⟨z,hz,h⟩:=aK h
   refine⟨_,none,h,.none,ij,fun ρ' b' k' hρ _ hk=>?_⟩
   simp only[c8,ho];rw[hρ x (by simp[Op.operands]),hρ i (by simp[Op.operands])];simp only[he,fE,hz,ab];exact hk
  ·rename_i he
   obtain⟨z,hz,h⟩:=aK h
   refine⟨_,none,h,.none,ij,fun ρ' b' k' hρ _ hk=>?_⟩
   simp only[c8,ho];rw[hρ x (by simp[Op.operands]),hρ i (by simp[Op.operands])];simp only[he,hz,ab];exact hk
  ·exact h.elim
 case extract x i=>
  split at h
  ·rename_i vs hs
   split at h
   ·rename_i r hr
    refine⟨_,none,h,.none,ij,fun ρ' b' k' hρ _ hk=>?_⟩
    simp only[c8,ho];rw[hρ x (by simp[Op.operands]),hs];simp only[hr];exact hk
   ·exact h.elim
  ·exact h.elim
 case lookup t m x xv=>
  obtain⟨et,het,h⟩:=aK h
  obtain⟨z,hz,h⟩:=aK h
  obtain⟨r,hr,h⟩:=aK h
  have zM:∀{U b'},tK id false o U ρ au b'→lR et.2 z (rT b' (ρ m)) (ρ x).bu =some r:=by
   intro U b' hS
   have h3:=(hS.mem (by simp[ib,ho]) m (by simp[ho,Op.operands])).2.2
   cases hs:ρ m with
   |m b=>
    rw[hs]at hr
    simp only[rT]at hr ⊢
    cases hb:au[b]? with
    |none=>rw[hb]at hr;cases hr
    |some bx=>
     rw[hb]at hr
     cases bx with
     |map l=>simp only[(h3 b l hs).2 hb];exact hr
     |_=>cases hr
   |_=>rw[hs]at hr;exact hr
  cases xv with
  |true=>
   refine⟨_,none,h,.none,Es (fun _=>.t _),fun ρ' b' k' hρ hS hk=>?_⟩
   simp only[c8,ho];rw[hρ m (by simp[Op.operands]),hρ x (by simp[Op.operands])];simp only[het,hz,zM hS,ab];exact hk
  |false=>
   refine⟨_,none,h,.none,ij,fun ρ' b' k' hρ hS hk=>?_⟩
   simp only[c8,ho];rw[hρ m (by simp[Op.operands]),hρ x (by simp[Op.operands])];simp only[het,hz,zM hS,ab];exact hk
 case makeSlice t n c=>
  obtain⟨e',he,h1⟩:=aK h
  obtain⟨sz,aQ,h2⟩:=aK h1
  obtain⟨dg,il,h3⟩:=aK h2
  obtain⟨z,hz,h4⟩:=aK h3
  cases dJ:(Nat.beq sz 1&&Nat.blt 0 dg)with
  |false=>rw[dJ]at h4;exact h4.elim
  |true=>
   rw[dJ,cond_true]at h4
   obtain⟨m,hm,hb,hk⟩:=aK h4
   refine⟨_,none,hk,.none,ij,fun ρ' b' k' hρ _ hk=>?_⟩
   simp only[c8,ho];rw[hρ n (by simp[Op.operands]),hρ c (by simp[Op.operands])];simp only[he,aQ,il,hz,dJ,cond_true,hm,ab];exact⟨hb,hk⟩
 case makeMap t hn=>
  split at h
  ·rename_i fj
   refine⟨_,some (id,_),h,.mk _ (by simp[fZ,ho]) fj (by simp),Er (by simp[fZ,ho]),fun ρ' b' k' hρ hS hk=>?_⟩
   simp only[c8,ho,hS.fresh (by simp[fZ,ho]) (by simp)];exact hk
  ·exact h.elim
 case mapUpdate t m x y=>
  obtain⟨et,het,h1⟩:=aK h
  split at h1
  ·rename_i b hm hd
   split at h1
   ·rename_i l hb
    obtain⟨n,hn,h2⟩:=aK h1
    obtain⟨d,jP,pO⟩:=aK h2
    obtain⟨l',fU,hk⟩:=aK pO
    refine⟨_,some (b,_),hk,.wr b _ _ (by simp[ib,ho]) (.inl (by simp[iP,ho])) m (by simp[ho,Op.operands]) 0 (.inr hm) hb (by simp) (by simp[af.isMap]) (fun h=>by cases h) (fun t' y' z' h=>by rw[ho]at h;cases h),(fun K B zL hρ' _ _=>⟨fun _=>by first|exact .t _|exact .v _,fun _ _ h=>by cases h⟩),fun ρ' b' k' hρ hS hk=>?_⟩
    have h3:=((hS.mem (by simp[ib,ho]) m (by simp[ho,Op.operands])).2.2 b l hm).2 hb
    simp only[c8,ho,het,ab];rw[hρ m (by simp[Op.operands]),hρ x (by simp[Op.operands]),hρ y (by simp[Op.operands]),hm,hd];simp only[h3,hn,jP,fU];exact hk
   ·exact h1.elim
  ·exact h1.elim
 case call c=>
  have fp:∀{U ρ' b'},(∀x∈(Op.call c).operands,ρ' x=ρ x)→tK id false o U ρ au b'→iW b' ρ' c.args.toList=iW au ρ c.args.toList:=fun{U ρ' b'}hρ hS=>
   Ln fun x hx=>by
    have hm:x∈(Op.call c).operands :=by
     simp only[Op.operands,Call.operands,Array.mem_append];exact .inr (by simpa using hx)
    rw[hρ x hm]
    exact(hS.mem (by simp[ib,ho]) x (by rw[ho];exact hm)).2.1 6
  have eD:∀x,x∈c.args.toList→x∈(Op.call c).operands :=fun x hx=>by
   simp only[Op.operands,Call.operands,Array.mem_append];exact .inr (by simpa using hx)
  split at h
  ·rename_i f hc
   have hf:f∈(Op.call c).operands :=by simp[Op.operands,Call.operands,hc]
   split at h
   ·rename_i s hs
    obtain⟨f',l,hK,JM⟩:=Up h
    obtain⟨r,hk,mQ,hr⟩:=Gc hK
    refine⟨_,none,hk,.none,Es mQ,fun ρ' b' k' hρ hS hk=>?_⟩
    simp only[c8,ho,hc]
    rw[hρ f hf,hs]
    simp only[fp hρ hS]
    exact JM _ (hr _ _ hk)
   ·rename_i g' first cap hs
    obtain⟨r,hk,mQ,hr⟩:=Gc h
    refine⟨_,none,hk,.none,Es mQ,fun ρ' b' k' hρ hS hk=>?_⟩
    simp only[c8,ho,hc]
    rw[hρ f hf,hs]
    simp only[fp hρ hS]
    have QM:=(hS.mem (by simp[ib,ho]) f (by rw[ho];exact hf)).2.1
    rw[hs]at QM
    obtain⟨e1,e2⟩:=Ym QM
    rw[e1,e2]
    exact hr _ _ hk
   ·exact h.elim
  ·rename_i recv name hc
   have hf:recv∈(Op.call c).operands :=by simp[Op.operands,Call.operands,hc]
   split at h
   ·rename_i s hs
    obtain⟨f',l,hK,JM⟩:=TF h
    obtain⟨r,hk,mQ,hr⟩:=Gc hK
    refine⟨_,none,hk,.none,Es mQ,fun ρ' b' k' hρ hS hk=>?_⟩
    simp only[c8,ho,hc]
    rw[hρ recv hf,hs]
    simp only[fp hρ hS]
    exact JM _ (hr _ _ hk)
   ·exact h.elim
  ·rename_i b hc
   split at h
   ·rename_i x xs t ts hx ht
    cases hs:ρ x with
    |a b n=>
     rw[hs]at h
     cases jb:isSlice P t with
     |false=>rw[jb]at h;exact h.elim
     |true=>
      rw[jb]at h
      refine⟨_,none,h,.none,ij,fun ρ' b' k' hρ hS hk=>?_⟩
      simp only[c8,ho,hc,hx,ht]
      rw[hρ x (eD x (by simp[hx])),hs];simp only[jb,cond_true];exact hk
    |_=>
     rw[hs]at h
     obtain⟨z,hz,h⟩:=aK h
     refine⟨_,none,h,.none,ij,fun ρ' b' k' hρ hS hk=>?_⟩
     simp only[c8,ho,hc,hx,ht]
     rw[hρ x (eD x (by simp[hx])),hs];simp only[hz,ab];exact hk
   ·rename_i x y t u hx ht
    cases mT:Nat.beq t u with
    |false=>rw[mT]at h;exact h.elim
    |true=>
     rw[mT]at h
     simp only[cond_true]at h
     obtain⟨e',he,h⟩:=aK h
     obtain⟨sz,aQ,h⟩:=aK h
     obtain⟨dg,il,h⟩:=aK h
     obtain⟨z,hz,h⟩:=aK h
     cases dJ:(Nat.blt 0 dg&&Nat.blt 0 sz&&Nat.beq z.length sz)with
     |false=>rw[dJ]at h;exact h.elim
     |true=>
      rw[dJ]at h
      obtain⟨r,hr,hb,h⟩:=aK h
      refine⟨_,none,h,.none,ij,fun ρ' b' k' hρ hS hk=>?_⟩
      simp only[c8,ho,hc,hx,ht]
      rw[hρ x (eD x (by simp[hx])),hρ y (eD y (by simp[hx]))]
      simp only[mT,cond_true,he,aQ,il,hz,ab,dJ,cm,hr];exact⟨hb,hk⟩
   ·rename_i x xs hx
    obtain⟨z,hz,h⟩:=aK h
    refine⟨_,none,h,.none,ij,fun ρ' b' k' hρ hS hk=>?_⟩
    have e1:(xs.map fun y=>(ρ' y).bu)=xs.map fun y=>(ρ y).bu :=List.map_congr_left fun y hy=>by rw[hρ y (eD y (by simp[hx,hy]))]
    simp only[c8,ho,hc,hx]
    rw[hρ x (eD x (by simp[hx])),e1,hz];exact hk
   ·rename_i x xs hx
    obtain⟨z,hz,h⟩:=aK h
    refine⟨_,none,h,.none,ij,fun ρ' b' k' hρ hS hk=>?_⟩
    have e1:(xs.map fun y=>(ρ' y).bu)=xs.map fun y=>(ρ y).bu :=List.map_congr_left fun y hy=>by rw[hρ y (eD y (by simp[hx,hy]))]
    simp only[c8,ho,hc,hx]
    rw[hρ x (eD x (by simp[hx])),e1,hz];exact hk
   ·exact h.elim
 all_goals exact h.elim
end
end Go.Proofs.YtaknajjmldngiaaGreat.Ab
namespace Go.Proofs.YtaknajjmldngiaaGreat.Ab
open Go Go.RowKit
def fin(o:Oper)(src:Option (Nat×Slot))(s:Slot)(U:Option (Nat×af))(e:Env):Env:=⟨cz (iD src e.an) o.dst s,kP U e.boxes⟩
section
variable{P:Program}{gl:Nat→Option D}{C:aP}
def fV(gl:Nat→Option D)(e:Env)(x:Operand):Slot:=(Ab.bc gl e x).aa
theorem pY{o:Oper}{t:Nat}(h:Operand.tmp t∈o.op.operands):t∈tmpsOf o:=List.mem_filterMap.2 ⟨.tmp t,by simpa using h,rfl⟩
theorem we{e e':Env}{o:Oper}(h:∀t∈tmpsOf o,e'.an.getD t (.v .undef)=e.an.getD t (.v .undef)){x:Operand}(hx:x∈o.op.operands):Ab.bc gl e' x=Ab.bc gl e x:=by
 cases x with
 |tmp t=>exact h t (pY hx)
 |_=>rfl
theorem FR(s:Slot):s.aa.stays=s.stays:=by cases s<;>rfl
theorem Yn(x:SV):Ab.aa (Ab.aa x)=Ab.aa x:=by cases x<;>rfl
theorem Uq{cs:List SV}{off:Nat}{y:SV}(hy:cs[off]? =some y):cs.map Ab.aa=(cs.set off (Ab.aa y)).map Ab.aa:=by
 apply List.ext_getElem?
 intro i
 rw[List.getElem?_map,List.getElem?_map,List.getElem?_set]
 by_cases h:off=i
 ·subst h
  obtain⟨hl,hq⟩:=List.getElem?_eq_some_iff.1 hy
  simp[hl,hq,Yn]
 ·simp[h]
theorem VX{au:List af}{b:Nat}{cs eR:List SV}(hb:au[b]? =some (.cells cs))(h:cs.map Ab.aa=eR.map Ab.aa):∀(n:Nat)(s:Slot),snap (au.set b (.cells eR)) n s=snap au n s:=by
 intro n
 induction n with
 |zero=>intro s;rfl
 |succ n ih=>
  intro s
  have hf:snap (au.set b (.cells eR)) n=snap au n:=funext ih
  cases s with
  |v x=>rfl
  |a _ _ _=>rfl
  |m _=>rfl
  |p b2 off=>
   simp only[snap]
   by_cases h2:b=b2
   ·subst h2
    rw[List.getElem?_set_self (List.getElem?_eq_some_iff.1 hb).1,hb]
    simp only[h]
   ·rw[List.getElem?_set_ne h2,hf]
  |c f first cap=>simp only[snap,hf]
  |t l=>rfl
theorem Mw{w:Bool}(hw:w=true){au:List af}{b:Nat}{gw bx:af}(hb:au[b]? =some gw)(h:∃cs eR,gw=.cells cs∧bx=.cells eR∧cs.map Ab.aa=eR.map Ab.aa)(s:Slot):kZ w s au (au.set b bx):=by
 obtain⟨cs,eR,rfl,rfl,hm⟩:=h
 refine⟨fun b2 off hs=>⟨?_,fun h=>by rw[hw]at h;cases h⟩,fun n=>VX hb hm n s,fun b2 l _=>?_⟩
 rotate_left
 ·by_cases h2:b=b2
  ·subst h2
   rw[List.getElem?_set_self (List.getElem?_eq_some_iff.1 hb).1,hb]
   simp
  ·rw[List.getElem?_set_ne h2]
 by_cases h2:b=b2
 ·subst h2
  rw[List.getElem?_set_self (List.getElem?_eq_some_iff.1 hb).1,hb]
  exact .inr ⟨eR,cs,rfl,rfl,hm.symm⟩
 ·rw[List.getElem?_set_ne h2]
  exact .refl _
def Bo(gl:Nat→Option D)(aE:Bool)(o:Oper)(e:Env)(src:Option (Nat×Slot))(s:Slot)(U:Option (Nat×af)):Prop:=
 ∀(K B:Nat→Prop),(∀b,K b→B b)→(∀x∈o.op.operands,(aE=false→addrOf o≠some x)→dR K (fV gl e x))→(∀t x y,o.op=.store t x y→dR K (fV gl e y))→
  (∀b s,B b→e.boxes[b]? =some (.one s)→dR K s)→fZ o=false→dR K s∧(∀t d,src=some (t,d)→dR K d)∧∀b s',U=some (b,.one s')→dR K s'
theorem Oz{o:Oper}{e:Env}{x:SV}{U:Option (Nat×af)}(hU:∀b s',U≠some (b,.one s')):Bo gl true o e none (.v x) U:=fun _ _ _ _ _ _ _=>⟨.v _,fun _ _ h=>(by cases h),fun b s' h=>absurd h (hU b s')⟩
theorem HI{o:Oper}{e:Env}{t:Nat}{s:Slot}(ht:Operand.tmp t∈o.op.operands)(hs:∀K,dR K (e.an.getD t (.v .undef))→dR K s):Bo gl true o e (some (t,(e.an.getD t (.v .undef)).aa)) s none:=fun K _ _ h _ _ _=>by
 have h1:dR K (e.an.getD t (.v .undef)).aa :=h (.tmp t) ht (fun h=>by cases h)
 exact⟨hs K h1.adz,fun t' d hd=>by cases hd;exact h1,fun _ _ h=>by cases h⟩
theorem Vc{id:Nat}{o:Oper}{e:Env}{k:Env→Prop}(h:j8 P gl o e k):
  ∃src s U,k (fin o src s U e)∧tu id o true (fV gl e) e.boxes U∧Bo gl true o e src s U∧(∀t d,src=some (t,d)→t∈tmpsOf o∧d.stays=(e.an.getD t (.v .undef)).stays)∧
   ∀(e':Env)(k':Env→Prop),(∀t∈tmpsOf o,e'.an.getD t (.v .undef)=e.an.getD t (.v .undef))→tK id true o U (fV gl e) e.boxes e'.boxes→k' (fin o src s U e')→j8 P gl o e' k':=by
 unfold j8 at h
 split at h
 ·rename_i t ho
  refine⟨some (t,_),_,none,h,.none,HI (by rw[ho];simp[Op.operands]) (fun _ h=>h),fun t' d hd=>by cases hd;exact⟨pY (by rw[ho];simp[Op.operands]),FR _⟩,fun e' k' hl _ hk=>?_⟩
  simp only[j8,ho];rw[hl t (pY (by rw[ho];simp[Op.operands]))];exact hk
 ·rename_i t ho
  refine⟨some (t,_),_,none,h,.none,HI (by rw[ho];simp[Op.operands]) (fun _ h=>h),fun t' d hd=>by cases hd;exact⟨pY (by rw[ho];simp[Op.operands]),FR _⟩,fun e' k' hl _ hk=>?_⟩
  simp only[j8,ho];rw[hl t (pY (by rw[ho];simp[Op.operands]))];exact hk
 ·rename_i t i ho
  split at h
  ·rename_i vs hs
   split at h
   ·rename_i r hr
    refine⟨some (t,_),_,none,h,.none,(fun K _ _ _ _ _ _=>⟨.v _,fun t' d hd=>by cases hd;exact .t _,fun _ _ h=>by cases h⟩),fun t' d hd=>by cases hd;exact⟨pY (by rw[ho];simp[Op.operands]),by rw[hs];rfl⟩,fun e' k' hl _ hk=>?_⟩
    simp only[j8,ho];rw[hl t (pY (by rw[ho];simp[Op.operands])),hs];simp only[hr];exact hk
   ·exact h.elim
  ·exact h.elim
 ·rename_i ty x ho
  split at h
  ·rename_i b off hs
   obtain⟨ly,hl,h⟩:=aK h
   cases fE:ly.1 with
   |true=>rw[fE]at h;exact h.elim
   |false=>
    rw[fE]at h
    simp only[cond_false]at h
    split at h
    ·rename_i cs cp
     obtain⟨y,hy,h⟩:=aK h
     refine⟨none,_,some (b,_),h,.wr b _ _ (by simp[ib,ho]) (.inr rfl) x (by rw[ho];simp[Op.operands]) off (.inl hs) cp (by simp) (by simp[af.isMap]) (fun _ _=>⟨cs,_,rfl,rfl,Uq hy⟩) (fun t' y' z' h=>by rw[ho]at h;cases h),Oz (by simp),fun _ _ h=>(by cases h),fun e' k' ud hS hk=>?_⟩
     have hb:=((hS.mem (by simp[ib,ho]) x (by rw[ho];simp[Op.operands])).1 b off hs).2 (by simp)
     simp only[j8,ho,hl,ab,fE,cond_false]
     rw[we ud (x:=x) (by rw[ho];simp[Op.operands]),hs]
     simp only[hb,cp,hy];exact hk
    ·exact h.elim
  ·exact h.elim
 ·rename_i ty x t ho
  split at h
  ·rename_i b off y hs hy hd
   obtain⟨sz,aQ,h⟩:=aK h
   cases hb:Nat.beq sz 1 with
   |false=>rw[hb]at h;exact h.elim
   |true=>
    rw[hb]at h
    simp only[cond_true]at h
    split at h
    ·rename_i cs cp
     obtain⟨l,hl,h1,h2,h⟩:=aK h
     refine⟨some (t,.v (aa y)),.t [],some (b,.cells (setAt cs off l)),?_,.wr b _ _ (by simp[ib,ho]) (.inr rfl) x (by rw[ho];simp[Op.operands]) off (.inl hs) cp (by simp) (by simp[af.isMap]) (fun _ h=>by simp[iP,ho]at h) (fun t' y' z' h=>by rw[ho]at h;cases h;rfl),(fun K _ _ _ _ _ _=>⟨.t _,fun t' d hd=>by cases hd;exact .v _,fun _ _ h=>by cases h⟩),fun t' d hd=>by cases hd;exact⟨pY (by rw[ho];simp[Op.operands]),by rw[hy];rfl⟩,fun e' k' ud hS hk=>?_⟩
     ·simp only[fin,hd,cz,iD,kP];exact h
     ·have eJ:=((hS.mem (by simp[ib,ho]) x (by rw[ho];simp[Op.operands])).1 b off hs).2 (by simp)
      simp only[fin,hd,cz,iD,kP]at hk
      simp only[j8,ho]
      rw[we ud (x:=x) (by rw[ho];simp[Op.operands]),hs,ud t (pY (by rw[ho];simp[Op.operands])),hy,hd]
      simp only[aQ,ab,hb,cond_true,eJ,cp,hl];exact⟨h1,h2,hk⟩
    ·exact h.elim
  ·exact h.elim
 ·rename_i t n ps ho
  obtain⟨e',he,h1⟩:=aK h
  obtain⟨ly,fE,h2⟩:=aK h1
  obtain⟨z,hz,h3⟩:=aK h2
  obtain⟨l,hl,h4⟩:=aK h3
  cases hc:(Nat.ble (n*ly.2) (2^24)&&Nat.blt 0 ly.2&&Nat.beq z.length ly.2)with
  |false=>rw[hc]at h4;exact h4.elim
  |true=>
   rw[hc,cond_true]at h4
   refine⟨none,_,none,h4.2,.none,Oz (by simp),fun _ _ h=>(by cases h),fun e2 k' ud hS hk=>?_⟩
   have hpd:kX (fun x=>(Ab.bc gl e2 x).aa) ps.toList=some l:=
    (CE (fun p hp=>by
      have hm:p.2∈o.op.operands:=by rw[ho];simp only[Op.operands,List.mem_toArray,List.mem_map];exact⟨p,hp,rfl⟩
      show(Ab.bc gl e2 p.2).aa =(Ab.bc gl e p.2).aa
      rw[we ud hm])).trans hl
   simp only[j8,ho,he,fE,hz,hpd,hc,cond_true,ab];exact⟨h4.1,hk⟩
 ·rename_i c ho
  split at h
  ·rename_i t y ty u hc hx ht
   have zN:Operand.tmp t∈o.op.operands:=by
    rw[ho];simp only[Op.operands,Call.operands,Array.mem_append];exact .inr (by rw[←Array.mem_toList_iff,hx];simp)
   have vN:y∈o.op.operands:=by
    rw[ho];simp only[Op.operands,Call.operands,Array.mem_append];exact .inr (by rw[←Array.mem_toList_iff,hx];simp)
   cases mT:Nat.beq ty u with
   |false=>rw[mT]at h;exact h.elim
   |true=>
    rw[mT]at h
    simp only[cond_true]at h
    obtain⟨e',he,h⟩:=aK h
    obtain⟨sz,aQ,h⟩:=aK h
    obtain⟨dg,il,h⟩:=aK h
    obtain⟨z,hz,h⟩:=aK h
    cases dJ:(Nat.blt 0 dg&&Nat.blt 0 sz&&Nat.beq z.length sz)with
    |false=>rw[dJ]at h;exact h.elim
    |true=>
     rw[dJ]at h
     obtain⟨r,hr,hb,h⟩:=aK h
     refine⟨some (t,_),_,none,h,.none,HI zN (fun _ _=>.v _),fun t' d hd=>by cases hd;exact⟨pY zN,FR _⟩,fun e' k' ud hS hk=>?_⟩
     simp only[j8,ho,hc,hx,ht]
     rw[ud t (pY zN),we ud vN]
     simp only[mT,cond_true,he,aQ,il,hz,ab,dJ,cm,hr];exact⟨hb,hk⟩
  ·exact h.elim
 ·exact h.elim
theorem VY{id:Nat}{aE:Bool}{o:Oper}{e:Env}{k:Env→Prop}(h:kI P gl C id aE o e k):
  ∃src s U,k (fin o src s U e)∧tu id o aE (fV gl e) e.boxes U∧Bo gl aE o e src s U∧(∀t d,src=some (t,d)→aE=true∧t∈tmpsOf o∧d.stays=(e.an.getD t (.v .undef)).stays)∧
   ∀(e':Env)(k':Env→Prop),(∀t∈tmpsOf o,e'.an.getD t (.v .undef)=e.an.getD t (.v .undef))→tK id aE o U (fV gl e) e.boxes e'.boxes→k' (fin o src s U e')→kI P gl C id aE o e' k':=by
 unfold kI at h
 cases aE<;>simp only[cond_true,cond_false]at h
 ·obtain⟨s,U,hk,hu,mQ,hs⟩:=W7 h
  refine⟨none,s,U,hk,hu,fun K B zL h1 h2 h3 h4=>⟨(mQ K B zL (fun x hx ha=>h1 x hx fun _=>ha) h2 h3).1 h4,fun _ _ h=>(by cases h),fun b s' hU=>(mQ K B zL (fun x hx ha=>h1 x hx fun _=>ha) h2 h3).2 b s' hU h4⟩,fun t d h=>(by cases h),?_⟩
  intro e' k' hl hS hk
  unfold kI
  simp only[cond_false]
  exact hs _ _ _ (fun x hx=>by rw[we hl hx]) hS hk
 ·obtain⟨src,s,U,hk,hu,mQ,vO,hs⟩:=Vc (id:=id) h
  refine⟨src,s,U,hk,hu,mQ,fun t d h=>⟨rfl,vO t d h⟩,fun e' k' hl hS hk=>?_⟩
  unfold kI
  simp only[cond_true]
  exact hs e' k' hl hS hk
def qt(all:List Oper)(o:Oper)(e:Env):Option Bool:=match o.guard with
 |none=>some true
 |some (j,want)=>(match(match all[j]? with|some g=>g.dst|none=>none)with
  |some t=>(match e.an.getD t (.v .undef)with
   | .v (.d (.bool c))=>some (c==want)
   | .t _=>some false
   |_=>none)
  |none=>none)
theorem ta{e:Env}{t:Nat}{c:Bool}(h:e.an.getD t (.v .undef)=.v (.d (.bool c))):e.pn t c=e:=by
 unfold Env.pn
 rcases Nat.lt_or_ge t e.an.length with hl|hl
 ·rw[List.getD_eq_getElem?_getD,List.getElem?_eq_getElem hl]at h
  simp only[Option.getD_some]at h
  rw[←h,List.set_getElem_self]
 ·rw[List.getD_eq_getElem?_getD,List.getElem?_eq_none hl]at h
  simp at h
theorem yi{all:List Oper}{o:Oper}{e:Env}{A B:Env→Prop}:vj all o e A B↔(match qt all o e with|some true=>A e|some false=>B e|none=>False):=by
 unfold vj qt
 cases hg:o.guard with
 |none=>exact Iff.rfl
 |some p=>
  obtain⟨j,want⟩:=p
  simp only
  cases hj:all[j]? with
  |none=>exact Iff.rfl
  |some q=>
   simp only
   cases hq:q.dst with
   |none=>exact Iff.rfl
   |some t=>
    simp only
    cases hx:e.an.getD t (.v .undef)with
    |v x=>
     cases x with
     |d y=>
      cases y with
      |bool c=>
       have h1:=ta hx
       simp only[ai]
       cases c<;>cases want<;>simp[h1]
      |_=>exact Iff.rfl
     |_=>exact Iff.rfl
    |_=>exact Iff.rfl
def my(P:Program)(gl:Nat→Option D)(C:aP)(all:List Oper)(id:Nat)(aE:Bool)(o:Oper)(e:Env)(k:Env→Prop):Prop:=
 vj all o e (fun e'=>kI P gl C id aE o e' k) (fun e'=>k ⟨cz e'.an o.dst (.t []),e'.boxes⟩)
structure Out(P:Program)(gl:Nat→Option D)(C:aP)(ops:Array Oper)(id:Nat)(aE:Bool)(o:Oper)(e:Env)(src:Option (Nat×Slot))(s:Slot)(U:Option (Nat×af)):Prop where
 uf:tu id o aE (fV gl e) e.boxes U
 wU:∀t d,src=some (t,d)→aE=true∧t∈tmpsOf o
 IE:∀(e':Env)(k':Env→Prop),(∀t∈o.looksAt ops,e'.an.getD t (.v .undef)=e.an.getD t (.v .undef))→tK id aE o U (fV gl e) e.boxes e'.boxes→k' (fin o src s U e')→my P gl C ops.toList id aE o e' k'
theorem Mx{ops:Array Oper}{o:Oper}{e e':Env}(h:∀t∈o.looksAt ops,e'.an.getD t (.v .undef)=e.an.getD t (.v .undef)):qt ops.toList o e'=qt ops.toList o e:=by
 unfold qt
 split
 ·rfl
 ·rename_i j want hg
  split
  ·rename_i t ht
   have hm:t∈o.looksAt ops:=by
    refine List.mem_append_right _ ?_
    rw[hg]
    simp only[Option.mem_toList]
    rw[Array.getElem?_toList]at ht
    cases hj:ops[j]? with
    |none=>rw[hj]at ht;cases ht
    |some g=>rw[hj]at ht;exact ht
   rw[h t hm]
  ·rfl
theorem Gd{ops:Array Oper}{o:Oper}{t:Nat}(h:t∈tmpsOf o):t∈o.looksAt ops:=List.mem_append_left _ h
theorem wc{ops:Array Oper}{id:Nat}{aE:Bool}{o:Oper}{e:Env}{k:Env→Prop}(h:my P gl C ops.toList id aE o e k):∃src s U,k (fin o src s U e)∧Out P gl C ops id aE o e src s U∧(∀t d,src=some (t,d)→d.stays=(e.an.getD t (.v .undef)).stays)∧Bo gl aE o e src s U∧(qt ops.toList o e=some true∨(o.guard≠none∧s=.t []∧src=none∧U=none)):=by
 have h':=yi.1 h
 split at h'
 ·rename_i hg
  obtain⟨src,s,U,hk,hu,mQ,vO,hs⟩:=VY h'
  refine⟨src,s,U,hk,⟨hu,fun t d h=>⟨(vO t d h).1,(vO t d h).2.1⟩,fun e' k' hl hS hk=>?_⟩,fun t d h=>(vO t d h).2.2,mQ,.inl hg⟩
  refine yi.2 ?_
  rw[Mx hl,hg]
  exact hs e' k' (fun t ht=>hl t (Gd ht)) hS hk
 ·rename_i hg
  refine⟨none,.t [],none,h',⟨.none,fun t d h=>(by cases h),?_⟩,fun t d h=>(by cases h),fun K B _ _ _ _ _=>⟨.t _,fun _ _ h=>(by cases h),fun _ _ h=>(by cases h)⟩,.inr ⟨fun hn=>?_,rfl,rfl,rfl⟩⟩
  rotate_left
  ·unfold qt at hg;rw[hn]at hg;cases hg
  intro e' k' hl hS hk
  refine yi.2 ?_
  rw[Mx hl,hg]
  exact hk
 ·exact h'.elim
theorem Lo{o:Oper}(h:fZ o=true):ib o=false:=by
 unfold fZ at h
 unfold ib
 split at h
 ·rename_i ho;simp[ho]
 ·rename_i ho;simp[ho]
 ·rename_i ho;simp[ho]
 ·cases h
theorem kZ.refl{q:Bool}(s:Slot)(b:List af):kZ q s b b:=⟨fun _ _ _=>⟨.refl _,fun _=>rfl⟩,fun _=>rfl,fun _ _ _=>Iff.rfl⟩
theorem kZ.trans{q:Bool}{s:Slot}{a b c:List af}(h:kZ q s a b)(k:kZ q s b c):kZ q s a c:=
 ⟨fun x off hx=>⟨(k.1 x off hx).1.trans (h.1 x off hx).1,fun hq=>((k.1 x off hx).2 hq).trans ((h.1 x off hx).2 hq)⟩,fun n=>(k.2.1 n).trans (h.2.1 n),fun b l hs=>(k.2.2 b l hs).trans (h.2.2 b l hs)⟩
theorem kZ.symm{q:Bool}{s:Slot}{a b:List af}(h:kZ q s a b):kZ q s b a:=⟨fun x off hx=>⟨(h.1 x off hx).1.symm,fun hq=>((h.1 x off hx).2 hq).symm⟩,fun n=>(h.2.1 n).symm,fun b l hs=>(h.2.2 b l hs).symm⟩
theorem Out.aaR{ops:Array Oper}{id:Nat}{aE:Bool}{o:Oper}{e:Env}{src:Option (Nat×Slot)}{s:Slot}{U:Option (Nat×af)}(h:Out P gl C ops id aE o e src s U)
  (hm:fZ o=true)(hU:U≠none):∃bx,U=some (id,bx)∧bx≠.none ∧e.boxes[id]? =some .none :=by
 cases h.uf with
 |none=>exact absurd rfl hU
 |mk bx _ hn hb=>exact⟨bx,rfl,hb,hn⟩
 |wr b bx gw h'=>rw[Lo hm]at h';cases h'
theorem Out.run{ops:Array Oper}{id:Nat}{aE:Bool}{o:Oper}{e:Env}{src:Option (Nat×Slot)}{s:Slot}{U:Option (Nat×af)}(h:Out P gl C ops id aE o e src s U){k:Env→Prop}
  (hk:k (fin o src s U e)):my P gl C ops.toList id aE o e k:=
 h.IE e k (fun _ _=>rfl) ⟨fun _ x _=>.refl _ _,fun hm hU=>(h.aaR hm hU).choose_spec.2.2⟩ hk
def Good(gl:Nat→Option D)(e:Env):Prop:=∃w0 ay a w g,Inv gl w0 ay e a w g
theorem Ae{w0:World}{ay:S0}{e:Env}{a:Act}{w:World}{g:Gh}(hI:Inv gl w0 ay e a w g){id:Nat}(fj:e.boxes[id]? =some .none)(bx:af):
  ∀(n:Nat){O:Nat→Nat→Nat→Nat→Prop}{s:Slot}{v:Value},cH w0.heap.size w g O s v→((∀b off,s=.p b off→b≠id)∧∀b,s=.m b→b≠id)∧snap (e.boxes.set id bx) n s=snap e.boxes n s:=by
 have ck:∀b ao,g.bx[b]? =some (some ao)→b≠id:=by
  rintro b ao hb rfl
  exact hI.boxes b .none ao fj hb
 have QN:∀{O:Nat→Nat→Nat→Nat→Prop}{s:Slot}{v:Value},cH w0.heap.size w g O s v→(∀b off,s=.p b off→b≠id)∧∀b,s=.m b→b≠id:=by
  intro O s v h
  refine⟨fun b off hs=>?_,fun b hs=>?_⟩
  ·subst hs
   obtain⟨ao,_,hb⟩:=h.jJ
   exact ck b ao hb
  ·subst hs
   cases h with
   |m _ _ ao hb=>exact ck b ao hb
 intro n
 induction n with
 |zero=>
  intro O s v h
  exact⟨QN h,rfl⟩
 |succ n ih=>
  intro O s v h
  refine⟨QN h,?_⟩
  cases h with
  |v _ x _ h=>rfl
  |a=>rfl
  |m=>rfl
  |p _ b off ao hb=>
   simp only[snap]
   rw[List.getElem?_set_ne (fun h=>ck b ao hb h.symm)]
   cases dQ:e.boxes[b]? with
   |none=>rfl
   |some bxv=>
    cases bxv with
    |none=>rfl
    |map l=>rfl
    |cells cs=>rfl
    |one s'=>
     simp only
     obtain⟨_,c,t,hc,_,aQ,hr⟩:=hI.boxes b _ ao dQ hb
     have mb:c[0]? =some (c[0]'(by omega)):=by simp
     rw[(ih (hr _ mb)).2]
  |c _ f first cap fv cv hf hc rf rc=>
   simp only[snap]
   have Pb:∀(l:List Slot)(vs:Array Value),l.length=vs.size→(∀(i:Nat)x v,l[i]? =some x→vs[i]? =some v→cH w0.heap.size w g (fun _ _ _ _=>False) x v)→
     ia (snap (e.boxes.set id bx) n) l=ia (snap e.boxes n) l:=by
    intro l vs hl hr
    apply List.ext_getElem?
    intro i
    rw[(xZ _ l).2,(xZ _ l).2]
    cases hi:l[i]? with
    |none=>rfl
    |some x=>
     have aV:i<vs.size:=by rw[←hl];exact(List.getElem?_eq_some_iff.1 hi).1
     simp only[Option.map_some]
     rw[(ih (hr i x vs[i] hi (by simp))).2]
   rw[Pb first fv hf rf,Pb cap cv hc rc]
  |t=>rfl
theorem OA{q:Bool}{e:Env}(hG:Good gl e){id:Nat}(fj:e.boxes[id]? =some .none)(bx:af)(x:Operand):kZ q (fV gl e x) e.boxes (e.boxes.set id bx):=by
 obtain⟨w0,ay,a,w,g,hI⟩:=hG
 have h:=hI.bc x
 refine⟨fun b off hs=>?_,fun n=>(Ae hI fj bx n h).2,fun b l hs=>?_⟩
 ·have:=(Ae hI fj bx 0 h).1.1 b off hs
  rw[List.getElem?_set_ne (fun h=>this h.symm)]
  exact⟨.refl _,fun _=>rfl⟩
 ·have:=(Ae hI fj bx 0 h).1.2 b hs
  rw[List.getElem?_set_ne (fun h=>this h.symm)]
theorem OB{e:Env}(hG:Good gl e){x:Operand}{b off:Nat}(hp:fV gl e x=.p b off∨fV gl e x=.m b):e.boxes[b]? ≠some .none :=by
 intro fj
 obtain⟨w0,ay,a,w,g,hI⟩:=hG
 rcases hp with hp|hp
 ·exact(Ae hI fj .none 0 (hI.bc x)).1.1 b off hp rfl
 ·exact(Ae hI fj .none 0 (hI.bc x)).1.2 b hp rfl
theorem mi{l:List Slot}{i j:Nat}{x d:Slot}(h:i≠j):(l.set i x).getD j d=l.getD j d:=by
 rw[List.getD_eq_getElem?_getD,List.getElem?_set_ne h,←List.getD_eq_getElem?_getD]
theorem Nf{o:Oper}{aE:Bool}{src:Option (Nat×Slot)}{s:Slot}{U:Option (Nat×af)}{e:Env}(IF:∀t d,src=some (t,d)→aE=true∧t∈tmpsOf o){t:Nat}(ht:t∉gW aE o):
  (fin o src s U e).an.getD t (.v .undef)=e.an.getD t (.v .undef):=by
 have h1:∀d,o.dst=some d→d≠t:=fun d hd h=>ht (by subst h;simp[gW,hd])
 have h2:∀u d,src=some (u,d)→u≠t:=fun u d hd h=>by
  obtain⟨h3,h4⟩:=IF u d hd
  subst h
  exact ht (by simp[gW,h3,h4])
 unfold fin cz iD
 simp only
 cases hd:o.dst with
 |none=>
  simp only
  cases hs:src with
  |none=>rfl
  |some p=>exact mi (h2 p.1 p.2 hs)
 |some d=>
  simp only
  rw[mi (h1 d hd)]
  cases hs:src with
  |none=>rfl
  |some p=>exact mi (h2 p.1 p.2 hs)
theorem lM(l:List Slot){i j:Nat}(x y:Slot)(h:i≠j):(l.set i x).set j y=(l.set j y).set i x:=List.set_comm _ _ h
theorem Vd{ox oy:Oper}{lx ly:Bool}{sx sy:Option (Nat×Slot)}{rx ry:Slot}(hx:∀t d,sx=some (t,d)→lx=true∧t∈tmpsOf ox)(hy:∀t d,sy=some (t,d)→ly=true∧t∈tmpsOf oy)
  (hd:∀t,t∈gW lx ox→t∉gW ly oy)(l:List Slot):cz (iD sx (cz (iD sy l) oy.dst ry)) ox.dst rx=cz (iD sy (cz (iD sx l) ox.dst rx)) oy.dst ry:=by
 have a1:∀d,ox.dst=some d→d∈gW lx ox:=fun d h=>by simp[gW,h]
 have a2:∀d,oy.dst=some d→d∈gW ly oy:=fun d h=>by simp[gW,h]
 have a3:∀t d,sx=some (t,d)→t∈gW lx ox:=fun t d h=>by obtain⟨h1,h2⟩:=hx t d h;simp[gW,h1,h2]
 have a4:∀t d,sy=some (t,d)→t∈gW ly oy:=fun t d h=>by obtain⟨h1,h2⟩:=hy t d h;simp[gW,h1,h2]
 have ne:∀{s t:Nat},s∈gW lx ox→t∈gW ly oy→s≠t:=fun h1 h2 h=>hd _ h1 (h▸h2)
 cases Ca:ox.dst with
 |none=>
  cases zO:oy.dst with
  |none=>
   cases sx with
   |none=>rfl
   |some p=>
    cases sy with
    |none=>rfl
    |some q=>simp only[cz,iD];exact lM _ _ _ (ne (a3 _ _ rfl) (a4 _ _ rfl)).symm
  |some d=>
   cases sx with
   |none=>rfl
   |some p=>
    cases sy with
    |none=>simp only[cz,iD];exact lM _ _ _ (ne (a3 _ _ rfl) (a2 _ zO)).symm
    |some q=>simp only[cz,iD];rw[lM _ _ _ (ne (a3 _ _ rfl) (a2 _ zO)).symm,lM l _ _ (ne (a3 _ _ rfl) (a4 _ _ rfl)).symm]
 |some c=>
  cases zO:oy.dst with
  |none=>
   cases sy with
   |none=>rfl
   |some q=>
    cases sx with
    |none=>simp only[cz,iD];exact lM _ _ _ (ne (a1 _ Ca) (a4 _ _ rfl)).symm
    |some p=>simp only[cz,iD];rw[lM l _ _ (ne (a3 _ _ rfl) (a4 _ _ rfl)).symm,lM _ _ _ (ne (a1 _ Ca) (a4 _ _ rfl)).symm]
  |some d=>
   have E3:=ne (a1 _ Ca) (a2 _ zO)
   cases sx with
   |none=>
    cases sy with
    |none=>simp only[cz,iD];exact lM _ _ _ E3.symm
    |some q=>simp only[cz,iD];rw[lM _ _ _ E3.symm,lM l _ _ (ne (a1 _ Ca) (a4 _ _ rfl)).symm]
   |some p=>
    cases sy with
    |none=>simp only[cz,iD];rw[lM l _ _ (ne (a3 _ _ rfl) (a2 _ zO)).symm,lM _ _ _ E3.symm]
    |some q=>
     simp only[cz,iD]
     rw[lM _ _ _ (ne (a3 _ _ rfl) (a2 _ zO)).symm,lM l _ _ (ne (a3 _ _ rfl) (a4 _ _ rfl)).symm,lM _ _ _ E3.symm,lM (l.set _ _) _ _ (ne (a1 _ Ca) (a4 _ _ rfl)).symm]
structure Eb(ops:Array Oper)(lx ly:Bool)(x y:Oper):Prop where
 d1:∀t∈gW lx x,t∉y.looksAt ops
 d2:∀t∈gW lx x,t∉gW ly y
 d3:∀t∈gW ly y,t∉x.looksAt ops
structure IG(lx ly:Bool)(x y:Oper):Prop where
 m1:¬(iP x=true∧ib y=true)
 m2:¬(iP y=true∧ib x=true)
 m3:¬(lx=true∧ly=true∧ib x=true∧ib y=true)
theorem VZ{ops:Array Oper}{lx ly:Bool}{x y:Oper}(h:indep ops lx ly x y=true):Eb ops lx ly x y∧IG lx ly x y:=by
 simp only[indep,Bool.and_eq_true,List.all_eq_true,Bool.not_eq_true',List.contains_eq_mem,decide_eq_false_iff_not,Bool.and_eq_false_iff]at h
 obtain⟨⟨⟨⟨h1,h2⟩,h3⟩,h4⟩,h5⟩:=h
 refine⟨⟨fun t ht=>(h1 t ht).1,fun t ht=>(h1 t ht).2,fun t ht=>h2 t ht⟩,⟨?_,?_,?_⟩⟩
 ·rintro⟨a,b⟩;rcases h3 with h|h<;>simp_all
 ·rintro⟨a,b⟩;rcases h4 with h|h<;>simp_all
 ·rintro⟨a,b,c,d⟩;rcases h5 with((h|h)|h)|h<;>simp_all
def wK(gl:Nat→Option D)(lx:Bool)(x y:Oper)(e:Env):Prop:=(iP x=true∨lx=true)→∀z∈x.op.operands,(∀t u v,x.op=.store t u v→z=u)→∀b off,(fV gl e z=.p b off∨fV gl e z=.m b)→
 (∀z'∈y.op.operands,∀q eL,kZ q (fV gl e z') e.boxes (e.boxes.set b eL))∧
 ∀z'∈y.op.operands,(∀t u v,y.op=.store t u v→z'=u)→∀nJ,fV gl e z'≠.p b nJ∧fV gl e z'≠.m b
theorem Yo{ops:Array Oper}{ix iy:Nat}{lx ly:Bool}{x y:Oper}{e:Env}{sx sy:Option (Nat×Slot)}{rx ry:Slot}{Ux Uy:Option (Nat×af)}(hG:Good gl e)(hi:Eb ops lx ly x y)(hm:IG lx ly x y∨(wK gl lx x y e∧wK gl ly y x e))
  (hx:Out P gl C ops ix lx x e sx rx Ux)(hy:Out P gl C ops iy ly y (fin x sx rx Ux e) sy ry Uy):
  Out P gl C ops iy ly y e sy ry Uy∧Out P gl C ops ix lx x (fin y sy ry Uy e) sx rx Ux∧fin y sy ry Uy (fin x sx rx Ux e)=fin x sx rx Ux (fin y sy ry Uy e):=by
 have xr:=hm
 have QO:∀t∈y.looksAt ops,(fin x sx rx Ux e).an.getD t (.v .undef)=e.an.getD t (.v .undef):=fun t ht=>Nf hx.wU fun h=>hi.d1 t h ht
 have QP:∀t∈x.looksAt ops,(fin y sy ry Uy e).an.getD t (.v .undef)=e.an.getD t (.v .undef):=fun t ht=>Nf hy.wU fun h=>hi.d3 t h ht
 have QQ:∀z∈y.op.operands,fV gl (fin x sx rx Ux e) z=fV gl e z:=fun z hz=>by unfold fV;rw[we (fun t ht=>QO t (Gd ht)) hz]
 have QR:∀z∈x.op.operands,fV gl (fin y sy ry Uy e) z=fV gl e z:=fun z hz=>by unfold fV;rw[we (fun t ht=>QP t (Gd ht)) hz]
 have dQ:(fin x sx rx Ux e).boxes =kP Ux e.boxes:=rfl
 have il:(fin y sy ry Uy e).boxes =kP Uy e.boxes:=rfl
 have yU:tu iy y ly (fV gl e) e.boxes Uy:=by
  cases hy.uf with
  |none=>exact .none
  |mk bx h hn hb=>
   refine .mk bx h ?_ hb
   rw[dQ]at hn
   cases hx.uf with
   |none=>exact hn
   |mk eL h' mU eK=>
    simp only[kP]at hn
    by_cases ue:ix=iy
    ·subst ue
     rw[List.getElem?_set_self (List.getElem?_eq_some_iff.1 mU).1]at hn
     exact absurd (Option.some.inj hn) eK
    ·rwa[List.getElem?_set_ne ue]at hn
   |wr b eL gw h' jf z hz off hp ho hold eK=>
    simp only[kP]at hn
    by_cases ue:b=iy
    ·subst ue
     rw[List.getElem?_set_self (List.getElem?_eq_some_iff.1 ho).1]at hn
     exact absurd (Option.some.inj hn) eK.1
    ·rwa[List.getElem?_set_ne ue]at hn
  |wr b bx gw h hw z hz off hp ho hold hb pq ha=>
   rw[QQ z hz]at hp
   rw[dQ]at ho
   cases hx.uf with
   |none=>exact .wr b bx gw h hw z hz off hp ho hold hb pq ha
   |mk eL h' mU eK=>
    have ck:ix≠b:=by
     rintro rfl
     exact OB hG hp mU
    simp only[kP]at ho
    rw[List.getElem?_set_ne ck]at ho
    exact .wr b bx gw h hw z hz off hp ho hold hb pq ha
   |wr b' eL Bp h' jf z' jB nJ qK cC za eK adA iI=>
    rcases hm with hm|hm
    ·exfalso
     rcases jf with jf|jf
     ·exact hm.m1 ⟨jf,h⟩
     ·rcases hw with hw|hw
      ·exact hm.m2 ⟨hw,h'⟩
      ·exact hm.m3 ⟨jf,hw,h',h⟩
    ·have ck:b'≠b:=by
      rintro rfl
      have:=(hm.1 jf z' jB iI b' nJ qK).2 z hz ha off
      rcases hp with hp|hp
      ·exact this.1 hp
      ·exact this.2 hp
     simp only[kP]at ho
     rw[List.getElem?_set_ne ck]at ho
     exact .wr b bx gw h hw z hz off hp ho hold hb pq ha
 have Ib:∀b bx b' eL,Ux=some (b,bx)→Uy=some (b',eL)→b≠b':=by
  intro b bx b' eL h1 h2
  subst h1 h2
  have hyf:=hy.uf
  cases hx.uf with
  |mk _ h' mU eK=>
   cases yU with
   |mk _ h hn hb=>
    rintro rfl
    cases hyf with
    |mk _ h2 zP pI=>
     rw[dQ]at zP
     simp only[kP]at zP
     rw[List.getElem?_set_self (List.getElem?_eq_some_iff.1 mU).1]at zP
     exact eK (Option.some.inj zP)
    |wr _ _ _ h2=>rw[Lo h]at h2;cases h2
   |wr _ _ gw h hw z hz off hp ho hold hb=>
    rintro rfl
    exact OB hG hp mU
  |wr _ _ Bp h' jf z' jB nJ qK cC za eK adA iI=>
   cases yU with
   |mk _ h hn hb=>
    rintro rfl
    rw[cC]at hn
    exact za (Option.some.inj hn)
   |wr _ _ gw h hw z hz off hp ho hold hb pq ha=>
    rcases hm with hm|hm
    ·exfalso
     rcases jf with jf|jf
     ·exact hm.m1 ⟨jf,h⟩
     ·rcases hw with hw|hw
      ·exact hm.m2 ⟨hw,h'⟩
      ·exact hm.m3 ⟨jf,hw,h',h⟩
    ·rintro rfl
     have:=(hm.1 jf z' jB iI _ nJ qK).2 z hz ha off
     rcases hp with hp|hp
     ·exact this.1 hp
     ·exact this.2 hp
 refine⟨⟨yU,hy.wU,fun e' k' hl hS hk=>?_⟩,⟨?_,hx.wU,fun e' k' hl hS hk=>?_⟩,?_⟩
 ·refine hy.IE e' k' (fun t ht=>(hl t ht).trans (QO t ht).symm) ⟨fun hm z hz=>?_,fun hm hU=>hS.fresh hm hU⟩ hk
  rw[QQ z hz]
  refine kZ.trans ?_ (hS.mem hm z hz)
  rw[dQ]
  cases hx.uf with
  |none=>exact .refl _ _
  |mk eL h' mU eK=>exact(OA hG mU eL z).symm
  |wr b' eL Bp h' jf z' jB nJ qK cC za eK pq iI=>
   rcases xr with eF|eF
   ·have nx:iP x=false:=by cases hq:iP x with|false=>rfl|true=>exact absurd ⟨hq,hm⟩ eF.m1
    have E4:lx=true:=by rcases jf with h|h;exact absurd ⟨h,hm⟩ eF.m1;exact h
    have ny:iP y=false:=by cases hq:iP y with|false=>rfl|true=>exact absurd ⟨hq,h'⟩ eF.m2
    have E5:ly=false:=by cases hq:ly with|false=>rfl|true=>exact absurd ⟨E4,hq,h',hm⟩ eF.m3
    exact(Mw (by rw[ny,E5];rfl) cC (pq E4 nx) _).symm
   ·exact((eF.1 jf z' jB iI b' nJ qK).1 z hz _ eL).symm
 ·cases hxu:hx.uf with
  |none=>exact .none
  |mk eL h' mU eK=>
   refine .mk eL h' ?_ eK
   rw[il]
   cases hU:Uy with
   |none=>exact mU
   |some p=>
    simp only[kP]
    rw[List.getElem?_set_ne (Ib _ _ _ _ rfl hU).symm]
    exact mU
  |wr b' eL Bp h' jf z' jB nJ qK cC za eK pq iI=>
   refine .wr b' eL Bp h' jf z' jB nJ (by rw[QR z' jB];exact qK) ?_ za eK pq iI
   rw[il]
   cases hU:Uy with
   |none=>exact cC
   |some p=>
    simp only[kP]
    rw[List.getElem?_set_ne (Ib _ _ _ _ rfl hU).symm]
    exact cC
 ·refine hx.IE e' k' (fun t ht=>(hl t ht).trans (QP t ht)) ⟨fun hm z hz=>?_,fun hm hU=>hS.fresh hm hU⟩ hk
  have h1:=hS.mem hm z hz
  rw[QR z hz]at h1
  refine kZ.trans ?_ h1
  rw[il]
  cases yU with
  |none=>exact .refl _ _
  |mk eL h' mU eK=>exact OA hG mU eL z
  |wr b' eL Bp h' jf z' jB nJ qK cC za eK pq iI=>
   rcases xr with eF|eF
   ·have ny:iP y=false:=by cases hq:iP y with|false=>rfl|true=>exact absurd ⟨hq,hm⟩ eF.m2
    have E5:ly=true:=by rcases jf with h|h;exact absurd ⟨h,hm⟩ eF.m2;exact h
    have nx:iP x=false:=by cases hq:iP x with|false=>rfl|true=>exact absurd ⟨hq,h'⟩ eF.m1
    have E4:lx=false:=by cases hq:lx with|false=>rfl|true=>exact absurd ⟨hq,E5,hm,h'⟩ eF.m3
    exact Mw (by rw[nx,E4];rfl) cC (pq E5 ny) _
   ·exact(eF.2 jf z' jB iI b' nJ qK).1 z hz _ eL
 ·unfold fin
  rw[Env.mk.injEq]
  refine⟨(Vd hx.wU hy.wU hi.d2 e.an).symm,?_⟩
  simp only
  cases hUx:Ux with
  |none=>rfl
  |some p=>
   cases hUy:Uy with
   |none=>rfl
   |some q=>exact List.set_comm _ _ (Ib _ _ _ _ hUx hUy)
end
end Go.Proofs.YtaknajjmldngiaaGreat.Ab
namespace Go.Proofs.YtaknajjmldngiaaGreat.Ab
open Go Go.RowKit
theorem W8{l:List Nat}(h:DM l=true):l.Nodup:=by
 induction l with
 |nil=>exact .nil
 |cons a l ih=>
  simp only[DM,Bool.and_eq_true,Bool.not_eq_true',List.contains_eq_mem,decide_eq_false_iff_not]at h
  exact List.nodup_cons.2 ⟨h.1,ih h.2⟩
structure wV(ops:Array Oper)(aE:Nat→Bool):Prop where
 inj:∀(i j:Nat)oi oj a,ops[i]? =some oi→ops[j]? =some oj→ml oi=some a→ml oj=some a→i=j
 mem:∀(i:Nat)o,ops[i]? =some o→ml o=none→fZ o=false∧∀d,o.dst=some d→d∉jI ops.toList
 JN:∀(i:Nat)o,ops[i]? =some o→∀x∈o.op.operands,(aE i=false→addrOf o≠some x)→∀t,x=.tmp t→t∉jI ops.toList
 val:∀(i:Nat)o,ops[i]? =some o→∀t x y,o.op=.store t x y→∀u,y=.tmp u→u∉jI ops.toList
 waits:∀(j:Nat)o a,ops[j]? =some o→nA (jI ops.toList) o=some a→∀(i:Nat)oi,ops[i]? =some oi→ml oi=some a→((reach [] ops.toList).getD j 0).testBit i=true
theorem K8{α:Type}{f:α→Option Nat}:∀{l:List α},(l.filterMap f).Nodup →∀(i j:Nat)x y a,l[i]? =some x→l[j]? =some y→f x=some a→f y=some a→i=j
 |[],_,i,j,x,y,a,hx,_,_,_=>by simp at hx
 |z::l,h,i,j,x,y,a,hx,hy,fx,fy=>by
  have mem:∀(k:Nat)w,l[k]? =some w→f w=some a→a∈l.filterMap f:=fun k w hw fw=>List.mem_filterMap.2 ⟨w,List.mem_of_getElem? hw,fw⟩
  cases i with
  |zero=>
   cases j with
   |zero=>rfl
   |succ j=>
    simp only[List.getElem?_cons_zero,Option.some.injEq]at hx
    simp only[List.getElem?_cons_succ]at hy
    subst hx
    rw[List.filterMap_cons_some fx]at h
    exact absurd (mem j y hy fy) (List.nodup_cons.1 h).1
  |succ i=>
   simp only[List.getElem?_cons_succ]at hx
   cases j with
   |zero=>
    simp only[List.getElem?_cons_zero,Option.some.injEq]at hy
    subst hy
    rw[List.filterMap_cons_some fy]at h
    exact absurd (mem i x hx fx) (List.nodup_cons.1 h).1
   |succ j=>
    simp only[List.getElem?_cons_succ]at hy
    have h':(l.filterMap f).Nodup :=by
     cases hz:f z with
     |none=>rw[List.filterMap_cons_none hz]at h;exact h
     |some b=>rw[List.filterMap_cons_some hz]at h;exact(List.nodup_cons.1 h).2
    rw[K8 h' i j x y a hx hy fx fy]
theorem K9{all:List Oper}{A:List Nat}{aE:Nat→Bool}{R:List Nat}:∀{l:List Oper}{i:Nat},Da all A aE R l i=true→∀(n:Nat)o,l[n]? =some o→
  AT A (aE (i+n)) o=true∧∀a,nA A o=some a→Ao a (R.getD (i+n) 0) all 0=true
 |[],_,_,n,o,h=>by simp at h
 |p::l,i,h,n,o,ho=>by
  simp only[Da,Bool.and_eq_true]at h
  obtain⟨⟨h1,h2⟩,h3⟩:=h
  cases n with
  |zero=>
   simp only[List.getElem?_cons_zero,Option.some.injEq]at ho
   subst ho
   refine⟨h1,fun a ha=>?_⟩
   rw[ha]at h2
   exact h2
  |succ n=>
   have:=K9 h3 n o (by simpa using ho)
   rw[show i+1+n=i+(n+1) by omega]at this
   exact this
theorem KZ{a m:Nat}:∀{l:List Oper}{i:Nat},Ao a m l i=true→∀(n:Nat)o,l[n]? =some o→ml o=some a→m.testBit (i+n)=true
 |[],_,_,n,o,h,_=>by simp at h
 |p::l,i,h,n,o,ho,ha=>by
  simp only[Ao,Bool.and_eq_true]at h
  cases n with
  |zero=>
   simp only[List.getElem?_cons_zero,Option.some.injEq]at ho
   subst ho
   have:=h.1
   rw[ha]at this
   simpa using this
  |succ n=>
   have:=KZ h.2 n o (by simpa using ho) ha
   rw[show i+1+n=i+(n+1) by omega]at this
   exact this
theorem Dc{A:List Nat}{x:Operand}(h:BV A x=false):∀t,x=.tmp t→t∉A:=by
 rintro t rfl
 simpa[BV]using h
theorem NU{ops:Array Oper}{aE:Nat→Bool}(h:eligible ops.toList aE (reach [] ops.toList)=true):wV ops aE:=by
 simp only[eligible,Bool.and_eq_true]at h
 obtain⟨hn,hf⟩:=h
 have sp:=fun(i:Nat)(o:Oper)(ho:ops[i]? =some o)=>K9 hf i o (by rw[Array.getElem?_toList];exact ho)
 simp only[Nat.zero_add]at sp
 refine⟨fun i j oi oj a h1 h2 h3 h4=>K8 (W8 hn) i j oi oj a (by rw[Array.getElem?_toList];exact h1) (by rw[Array.getElem?_toList];exact h2) h3 h4,fun i o ho ha=>?_,fun i o ho x hx E6=>?_,fun i o ho t x y gC=>?_,fun j o a ho hs i oi hoi JO=>?_⟩
 ·have:=(sp i o ho).1
  simp only[AT,ha,Bool.and_eq_true,Bool.not_eq_true']at this
  refine⟨this.1.1,fun d hd=>?_⟩
  have h2:=this.1.2
  rw[hd]at h2
  simpa using h2
 ·have:=(sp i o ho).1
  simp only[AT,Bool.and_eq_true]at this
  have h2:=this.2
  cases gC:o.op with
  |store t u v=>
   rw[gC]at h2 hx
   simp only[Bool.and_eq_true,Bool.not_eq_true',Bool.or_eq_true]at h2
   simp only[Op.operands,List.mem_toArray,List.mem_cons,List.not_mem_nil,or_false]at hx
   rcases hx with rfl|rfl
   ·rcases h2.2 with h3|h3
    ·exact Dc h3
    ·exact absurd (by simp[addrOf,gC]) (E6 h3)
   ·exact Dc h2.1
  |_=>
   rw[gC]at h2 hx
   simp only[List.all_eq_true,Bool.not_eq_true']at h2
   exact Dc (h2 x (by simpa using hx))
 ·have:=(sp i o ho).1
  simp only[AT,Bool.and_eq_true]at this
  have h2:=this.2
  rw[gC]at h2
  simp only[Bool.and_eq_true,Bool.not_eq_true']at h2
  exact Dc h2.1
 ·have:=KZ ((sp j o ho).2 a hs) i oi (by rw[Array.getElem?_toList];exact hoi) JO
  simpa using this
section
variable{P:Program}{gl:Nat→Option D}{C:aP}{ops:Array Oper}{aE:Nat→Bool}{base:Nat}{K:Nat→Prop}
structure Jv(ops:Array Oper)(base:Nat)(K:Nat→Prop)(bM:Array Bool)(e:Env):Prop where
 k:∀b,K b→b<base
 low:∀t,t∉jI ops.toList→dR K (e.an.getD t (.v .undef))
 box:∀b s,(K b∨base≤b)→e.boxes[b]? =some (.one s)→dR K s
 own:∀(i:Nat)o a,ops[i]? =some o→ml o=some a→bM.getD i false=true→e.an.getD a (.v .undef)=.v .undef ∨e.an.getD a (.v .undef)=.p (base+fl ops.toList i) 0
theorem GN{e:Env}{x:Operand}(h:∀t,x=.tmp t→dR K (e.an.getD t (.v .undef))):dR K (fV gl e x):=by
 unfold fV
 cases x with
 |tmp t=>exact(h t rfl).im
 |_=>
  simp only[Ab.bc]
  repeat' split
  all_goals exact .v _
theorem F1(l:List Slot)(i j:Nat)(x d:Slot):((l.set i x).getD j d=x∧i=j)∨(l.set i x).getD j d=l.getD j d:=by
 by_cases h:i=j
 ·subst h
  rcases Nat.lt_or_ge i l.length with hl|hl
  ·left;simp[List.getD_eq_getElem?_getD,List.getElem?_set_self hl]
  ·right;rw[List.set_eq_of_length_le hl]
 ·right;exact mi h
theorem Hf:∀{l:List Oper}{i j:Nat}{o:Oper},i<j→l[i]? =some o→fZ o=true→fl l i<fl l j
 |[],i,j,o,_,h,_=>by simp at h
 |p::l,i,j,o,je,h,hm=>by
  cases j with
  |zero=>omega
  |succ j=>
   cases i with
   |zero=>
    simp only[List.getElem?_cons_zero,Option.some.injEq]at h
    subst h
    simp only[fl,hm,cond_true]
    omega
   |succ i=>
    have:=Hf (Nat.lt_of_succ_lt_succ je) (by simpa using h) hm
    simp only[fl]
    omega
theorem Gv{o:Oper}{a:Nat}(h:ml o=some a):(∃t,o.op=.alloc t)∧o.guard=none∧o.dst=some a:=by
 unfold ml at h
 split at h
 ·rename_i t h1 h2;exact⟨⟨t,h1⟩,h2,h⟩
 ·cases h
theorem My{i:Nat}{o:Oper}{a:Nat}(ho:ops[i]? =some o)(h:ml o=some a):a∈jI ops.toList:=
 List.mem_filterMap.2 ⟨o,List.mem_of_getElem? (by rw[Array.getElem?_toList];exact ho),h⟩
theorem Mz{a:Nat}(h:a∈jI ops.toList):∃(i:Nat) (o:Oper),ops[i]? =some o∧ml o=some a:=by
 obtain⟨o,ho,h⟩:=List.mem_filterMap.1 h
 obtain⟨i,hi⟩:=List.mem_iff_getElem?.1 ho
 exact⟨i,o,by rw[←Array.getElem?_toList];exact hi,h⟩
theorem Jv.step{bM:Array Bool}{e e':Env}(hE:wV ops aE)(hJ:Jv ops base K bM e){i:Nat}{o:Oper}(ho:ops[i]? =some o)
  (h:my P gl C ops.toList (base+fl ops.toList i) (aE i) o e (fun x=>x=e')):Jv ops base K (bM.setIfInBounds i true) e':=by
 cases ha:ml o with
 |some a=>
  obtain⟨⟨t,gC⟩,hg,hd⟩:=Gv ha
  have h':=yi.1 h
  have jw:qt ops.toList o e=some true:=by unfold qt;rw[hg]
  rw[jw]at h'
  simp only[kI]at h'
  cases hl:aE i with
  |true=>rw[hl]at h';simp only[cond_true,j8,gC]at h'
  |false=>
   rw[hl]at h'
   simp only[cond_false,c8,gC]at h'
   split at h'
   ·rename_i fj
    obtain⟨z,hz,h2⟩:=aK h'
    subst h2
    rw[hd]
    refine⟨hJ.k,fun t' fq=>?_,fun b s hb gE=>?_,fun j oj a' iJ ug xw=>?_⟩
    ·simp only[cz]
     rw[mi (fun h:a=t'=>fq (by rw[←h];exact My ho ha))]
     exact hJ.low t' fq
    ·simp only at gE
     rw[List.getElem?_set]at gE
     split at gE
     ·split at gE
      ·cases gE
      ·cases gE
     ·exact hJ.box b s hb gE
    ·simp only[cz]
     by_cases je:i=j
     ·subst je
      rw[ho]at iJ;cases iJ
      rw[ha]at ug;cases ug
      rcases F1 e.an a a (.p (base+fl ops.toList i) 0) (.v .undef)with⟨h,_⟩|h
      ·exact .inr h
      ·rcases Nat.lt_or_ge a e.an.length with aV|jQ
       ·right;simp[List.getD_eq_getElem?_getD,List.getElem?_set_self aV]
       ·left;rw[h,List.getD_eq_getElem?_getD,List.getElem?_eq_none jQ];rfl
     ·have ck:a≠a':=fun h=>je (hE.inj i j o oj a ho iJ ha (h▸ug))
      rw[mi ck]
      refine hJ.own j oj a' iJ ug ?_
      rw[getD_set_ne false je]at xw
      exact xw
   ·exact h'.elim
 |none=>
  obtain⟨EZ,mB⟩:=hE.mem i o ho ha
  obtain⟨src,s,U,hk,hO,_,qu,_⟩:=wc h
  subst hk
  obtain⟨l1,l2,l3⟩:=qu K (fun b=>K b∨base≤b) (fun b h=>.inl h) (fun x hx E6=>GN fun t ht=>hJ.low t (hE.JN i o ho x hx E6 t ht))
   (fun t x y gC=>GN fun u hu=>hJ.low u (hE.val i o ho t x y gC u hu)) hJ.box EZ
  have IF:∀t d,src=some (t,d)→t∉jI ops.toList:=fun t d hs=>by
   obtain⟨hl,ht⟩:=hO.wU t d hs
   obtain⟨z,hz,Cb⟩:=List.mem_filterMap.1 ht
   refine hE.JN i o ho (.tmp t) ?_ (fun h=>by rw[hl]at h;cases h) t rfl
   cases z with
   |tmp u=>simp only[Option.some.injEq]at Cb;subst Cb;simpa using hz
   |_=>simp at Cb
  have jd:∀t,(dR K (e.an.getD t (.v .undef))→dR K ((iD src e.an).getD t (.v .undef)))∧(t∈jI ops.toList→(iD src e.an).getD t (.v .undef)=e.an.getD t (.v .undef)):=fun t=>by
   cases vO:src with
   |none=>exact⟨fun h=>h,fun _=>rfl⟩
   |some p=>
    obtain⟨u,d⟩:=p
    simp only[iD]
    refine⟨fun h=>?_,fun ht=>mi fun hh=>IF u d vO (hh▸ht)⟩
    rcases F1 e.an u t d (.v .undef)with⟨h2,_⟩|h2
    ·rw[h2];exact l2 u d vO
    ·rw[h2];exact h
  refine⟨hJ.k,fun t ht=>?_,fun b s' hb gE=>?_,fun j oj a' iJ ug xw=>?_⟩
  ·unfold fin
   simp only
   cases hd:o.dst with
   |none=>exact(jd t).1 (hJ.low t ht)
   |some d=>
    simp only[cz]
    rcases F1 (iD src e.an) d t s (.v .undef)with⟨h2,_⟩|h2
    ·rw[h2];exact l1
    ·rw[h2];exact(jd t).1 (hJ.low t ht)
  ·unfold fin at gE
   simp only at gE
   cases hU:U with
   |none=>rw[hU]at gE;exact hJ.box b s' hb gE
   |some p=>
    obtain⟨b0,bx⟩:=p
    rw[hU]at gE
    simp only[kP]at gE
    rw[List.getElem?_set]at gE
    split at gE
    ·rename_i eJ
     split at gE
     ·cases gE
      exact l3 b0 s' hU
     ·cases gE
    ·exact hJ.box b s' hb gE
  ·have je:i≠j:=by
    rintro rfl
    rw[ho]at iJ;cases iJ
    rw[ha]at ug;cases ug
   have eD:=My iJ ug
   have kJ:(fin o src s U e).an.getD a' (.v .undef)=e.an.getD a' (.v .undef):=by
    unfold fin
    simp only
    cases hd:o.dst with
    |none=>exact(jd a').2 eD
    |some d=>
     simp only[cz]
     rw[mi (fun h:d=a'=>mB d hd (by rw[h];exact eD))]
     exact(jd a').2 eD
   rw[kJ]
   refine hJ.own j oj a' iJ ug ?_
   rw[getD_set_ne false je]at xw
   exact xw
theorem Ng{e:Env}{bM:Array Bool}(hJ:Jv ops base K bM e){b:Nat}(hb:base≤b)(bx:af):∀(n:Nat)(s:Slot),dR K s→snap (e.boxes.set b bx) n s=snap e.boxes n s:=by
 intro n
 induction n with
 |zero=>intro s _;rfl
 |succ n ih=>
  intro s hs
  cases hs with
  |v x=>rfl
  |t l=>rfl
  |a c m h=>rfl
  |m c h=>rfl
  |p c off h=>
   have ck:b≠c:=fun h2=>by have:=hJ.k c h;omega
   simp only[snap]
   rw[List.getElem?_set_ne ck]
   cases hc:e.boxes[c]? with
   |none=>rfl
   |some y=>
    cases y with
    |one s'=>simp only;rw[ih s' (hJ.box c s' (.inl h) hc)]
    |_=>rfl
  |c f first cap h1 h2=>
   simp only[snap]
   have hl:∀(l:List Slot),(∀s∈l,dR K s)→ia (snap (e.boxes.set b bx) n) l=ia (snap e.boxes n) l:=by
    intro l hl
    induction l with
    |nil=>rfl
    |cons a l ihl=>simp only[ia];rw[ih a (hl a (by simp)),ihl fun s hs=>hl s (by simp[hs])]
   rw[hl first h1,hl cap h2]
theorem W9{e:Env}{bM:Array Bool}(hJ:Jv ops base K bM e){b:Nat}(hb:base≤b)(bx:af){s:Slot}(hs:dR K s)(q:Bool):kZ q s e.boxes (e.boxes.set b bx):=by
 refine⟨fun c off h=>?_,fun n=>Ng hJ hb bx n s hs,fun c l h=>?_⟩
 ·subst h
  have ck:b≠c:=fun h2=>by have:=hJ.k c hs.jJ;omega
  rw[List.getElem?_set_ne ck]
  exact⟨.refl _,fun _=>rfl⟩
 ·subst h
  have ck:b≠c:=fun h2=>by have:=hJ.k c hs.Pa;omega
  rw[List.getElem?_set_ne ck]
theorem Xa{e:Env}{bM:Array Bool}(hJ:Jv ops base K bM e){b c off:Nat}(hb:base≤b)(hc:base≤c)(ck:b≠c)(bx:af)(q:Bool):kZ q (.p c off) e.boxes (e.boxes.set b bx):=by
 refine⟨fun c' nJ h=>?_,fun n=>?_,fun c l h=>by cases h⟩
 ·cases h
  rw[List.getElem?_set_ne ck]
  exact⟨.refl _,fun _=>rfl⟩
 ·cases n with
  |zero=>rfl
  |succ n=>
   simp only[snap]
   rw[List.getElem?_set_ne ck]
   cases hx:e.boxes[c]? with
   |none=>rfl
   |some y=>
    cases y with
    |one s'=>simp only;rw[Ng hJ hb bx n s' (hJ.box c s' (.inr hc) hx)]
    |_=>rfl
theorem Nh{A:List Nat}{o:Oper}{a:Nat}(h:nA A o=some a):a∈A∧∃t y,o.op=.store t (.tmp a) y:=by
 unfold nA at h
 split at h
 ·rename_i t a' y gC
  cases hc:A.contains a' with
  |false=>rw[hc]at h;cases h
  |true=>
   rw[hc]at h
   cases h
   exact⟨by simpa using hc,t,y,gC⟩
 ·cases h
def Made(ops:Array Oper)(bM:Array Bool)(o:Oper):Prop:=∀a,nA (jI ops.toList) o=some a→∀(i:Nat)oi,ops[i]? =some oi→ml oi=some a→bM.getD i false=true
theorem aaS{e:Env}{bM:Array Bool}(hE:wV ops aE)(hJ:Jv ops base K bM e){j:Nat}{y:Oper}(hy:ops[j]? =some y){z:Operand}(hz:z∈y.op.operands)(h:nA (jI ops.toList) y=none∨addrOf y≠some z):dR K (fV gl e z):=by
 refine GN fun t ht=>hJ.low t ?_
 by_cases vP:addrOf y=some z
 ·rcases h with h|h
  ·subst ht
   unfold addrOf at vP
   split at vP
   ·rename_i t' x' y' gC
    cases vP
    intro hm
    unfold nA at h
    rw[gC]at h
    simp[hm]at h
   ·cases vP
  ·exact absurd vP h
 ·exact hE.JN j y hy z hz (fun _=>vP) t ht
theorem CR{e:Env}{bM:Array Bool}(hE:wV ops aE)(hJ:Jv ops base K bM e){i j:Nat}{x y:Oper}(_hx:ops[i]? =some x)(hy:ops[j]? =some y){a:Nat}(hs:nA (jI ops.toList) x=some a)
  (ua:Made ops bM x)(vN:Made ops bM y)(ck:nA (jI ops.toList) y≠some a){lx:Bool}:wK gl lx x y e:=by
 intro hw z hz vP b off hp
 obtain⟨hm,t,v,gC⟩:=Nh hs
 obtain⟨k,ok,di,uh⟩:=Mz hm
 have Cb:=vP _ _ _ gC
 subst Cb
 have EZ:fZ ok=true:=by obtain⟨⟨t,h⟩,_⟩:=Gv uh;simp[fZ,h]
 have hrz:fV gl e (.tmp a)=(e.an.getD a (.v .undef)).aa :=rfl
 have hb:b=base+fl ops.toList k:=by
  rw[hrz]at hp
  rcases hJ.own k ok a di uh (ua a hs k ok di uh)with h|h
  ·rw[h]at hp;rcases hp with hp|hp<;>cases hp
  ·rw[h]at hp;rcases hp with hp|hp<;>cases hp;rfl
 have eJ:base≤b:=by omega
 have sE:∀z'∈y.op.operands,dR K (fV gl e z')∨∃c,base≤c∧b≠c∧fV gl e z'=.p c 0:=by
  intro z' jB
  by_cases h:nA (jI ops.toList) y=none∨addrOf y≠some z'
  ·exact .inl (aaS hE hJ hy jB h)
  ·have h1:nA (jI ops.toList) y≠none:=fun h2=>h (.inl h2)
   have h2:addrOf y=some z':=Classical.byContradiction fun h2=>h (.inr h2)
   obtain⟨a',iI⟩:=Option.ne_none_iff_exists'.1 h1
   obtain⟨qR,t',v',aeE⟩:=Nh iI
   obtain⟨k',JP,Bq,Br⟩:=Mz qR
   have E7:z'=.tmp a':=by
    unfold addrOf at h2
    rw[aeE]at h2
    exact(Option.some.inj h2).symm
   subst E7
   have hr:fV gl e (.tmp a')=(e.an.getD a' (.v .undef)).aa :=rfl
   rcases hJ.own k' JP a' Bq Br (vN a' iI k' JP Bq Br)with h|h
   ·left;rw[hr,h];exact .v _
   ·right
    refine⟨base+fl ops.toList k',by omega,?_,by rw[hr,h];rfl⟩
    rw[hb]
    have JB:k≠k':=by
     rintro rfl
     rw[di]at Bq;cases Bq
     rw[uh]at Br;cases Br
     exact ck iI
    have aeF:fZ JP=true:=by obtain⟨⟨t,h⟩,_⟩:=Gv Br;simp[fZ,h]
    rcases Nat.lt_or_gt_of_ne JB with h|h
    ·have:=Hf (l:=ops.toList) h (by rw[Array.getElem?_toList];exact di) EZ;omega
    ·have:=Hf (l:=ops.toList) h (by rw[Array.getElem?_toList];exact Bq) aeF;omega
 refine⟨fun z' jB q eL=>?_,fun z' jB _ nJ=>?_⟩
 ·rcases sE z' jB with h|⟨c,hc,JQ,h⟩
  ·exact W9 hJ eJ eL h q
  ·rw[h];exact Xa hJ eJ hc JQ eL q
 ·rcases sE z' jB with h|⟨c,hc,JQ,h⟩
  ·refine⟨fun h2=>?_,fun h2=>?_⟩
   ·rw[h2]at h;have:=hJ.k b h.jJ;omega
   ·rw[h2]at h;have:=hJ.k b h.Pa;omega
  ·rw[h]
   refine⟨fun h2=>?_,fun h2=>by cases h2⟩
   cases h2
   exact JQ rfl
theorem Xb{e:Env}{bM:Array Bool}(hE:wV ops aE)(hJ:Jv ops base K bM e){i j:Nat}{x y:Oper}(hx:ops[i]? =some x)(hy:ops[j]? =some y){lx ly:Bool}(hf:D7 (jI ops.toList) lx ly x y=true)
  (ua:Made ops bM x)(vN:Made ops bM y):wK gl lx x y e∧wK gl ly y x e:=by
 unfold D7 at hf
 split at hf
 ·rename_i a b ha hb
  simp only[Bool.and_eq_true,Bool.not_eq_true']at hf
  have mP:a≠b:=fun h=>by rw[h,Nat.beq_refl]at hf;exact absurd hf.1.1 (by simp)
  exact⟨CR hE hJ hx hy ha ua vN (by rw[hb];simpa using Ne.symm mP),CR hE hJ hy hx hb vN ua (by rw[ha];simpa using mP)⟩
 ·rename_i a ha hb
  simp only[Bool.and_eq_true,Bool.not_eq_true']at hf
  refine⟨CR hE hJ hx hy ha ua vN (by rw[hb];simp),fun hw=>?_⟩
  rcases hw with h|h
  ·rw[hf.1.2]at h;cases h
  ·rw[hf.2]at h;cases h
 ·rename_i b ha hb
  simp only[Bool.and_eq_true,Bool.not_eq_true']at hf
  refine⟨fun hw=>?_,CR hE hJ hy hx hb vN ua (by rw[ha];simp)⟩
  rcases hw with h|h
  ·rw[hf.1.2]at h;cases h
  ·rw[hf.2]at h;cases h
 ·cases hf
theorem Ve{A:List Nat}{lx ly:Bool}{x y:Oper}(h:HF ops A lx ly x y=true):Eb ops lx ly x y∧D7 A lx ly x y=true:=by
 simp only[HF,Bool.and_eq_true,List.all_eq_true,Bool.not_eq_true',List.contains_eq_mem,decide_eq_false_iff_not]at h
 obtain⟨⟨h1,h2⟩,h3⟩:=h
 exact⟨⟨fun t ht=>(h1 t ht).1,fun t ht=>(h1 t ht).2,fun t ht=>h2 t ht⟩,h3⟩
end
end Go.Proofs.YtaknajjmldngiaaGreat.Ab
namespace Go.Proofs.YtaknajjmldngiaaGreat.Ab
open Go Go.RowKit
theorem Gw:∀(l:List Oper)(acc:List Nat)(k:Nat),k<acc.length→(reach acc l)[k]? =acc[k]?
 |[],acc,k,_=>rfl
 |o::l,acc,k,h=>by
  rw[reach,Gw l _ k (by simp;omega),List.getElem?_append_left h]
theorem MA(acc:List Nat)(i:Nat):∀(es:List Edge)(s:Nat),(es.foldl (fun s e=>bif Region.binds .any e then s|||2^e.on|||acc.getD e.on 0 else s) s).testBit i=true→
  s.testBit i=true∨∃e∈es,Region.binds .any e=true∧(e.on=i∨(acc.getD e.on 0).testBit i=true)
 |[],s,h=>.inl h
 |e::es,s,h=>by
  rw[List.foldl_cons]at h
  rcases MA acc i es _ h with h|⟨e',he,hb,h⟩
  ·cases hb:Region.binds .any e with
   |false=>rw[hb]at h;exact .inl h
   |true=>
    rw[hb]at h
    simp only[cond_true,Nat.testBit_or,Bool.or_eq_true]at h
    rcases h with(h|h)|h
    ·exact .inl h
    ·refine .inr ⟨e,by simp,hb,.inl ?_⟩
     simpa[Nat.testBit_two_pow]using h
    ·exact .inr ⟨e,by simp,hb,.inr h⟩
  ·exact .inr ⟨e',by simp[he],hb,h⟩
theorem LU:∀(l:List Oper)(acc:List Nat)(k i:Nat),acc.length≤k→((reach acc l).getD k 0).testBit i=true→
  ∃o,l[k-acc.length]? =some o∧∃e∈o.after.toList,Region.binds .any e=true∧(e.on=i∨(e.on<k∧((reach acc l).getD e.on 0).testBit i=true))
 |[],acc,k,i,hk,h=>by
  rw[reach,List.getD_eq_getElem?_getD,List.getElem?_eq_none hk]at h
  simp at h
 |o::l,acc,k,i,hk,h=>by
  rw[reach]at h ⊢
  rcases Nat.eq_or_lt_of_le hk with ef|ef
  ·subst ef
   refine⟨o,by simp,?_⟩
   rw[List.getD_eq_getElem?_getD,Gw l _ acc.length (by simp),List.getElem?_append_right (Nat.le_refl _)]at h
   simp only[Nat.sub_self,List.getElem?_cons_zero,Option.getD_some]at h
   rcases MA acc i _ 0 h with h|⟨e,he,hb,h⟩
   ·simp at h
   ·refine⟨e,he,hb,h.imp id fun h=>?_⟩
    have aV:e.on<acc.length:=by
     rcases Nat.lt_or_ge e.on acc.length with h'|h'
     ·exact h'
     ·rw[List.getD_eq_getElem?_getD,List.getElem?_eq_none h']at h;simp at h
    refine⟨aV,?_⟩
    rw[List.getD_eq_getElem?_getD,Gw l _ e.on (by simp;omega),List.getElem?_append_left aV,←List.getD_eq_getElem?_getD]
    exact h
  ·obtain⟨p,hp,hr⟩:=LU l _ k i (by simp;omega) h
   refine⟨p,?_,hr⟩
   rw[←hp]
   have:k-acc.length=(k-(acc++[o.after.toList.foldl (fun s e=>bif Region.binds .any e then s|||2^e.on|||acc.getD e.on 0 else s) 0]).length)+1:=by simp;omega
   rw[this,List.getElem?_cons_succ]
section
variable{P:Program}{gl:Nat→Option D}{ops:Array Oper}{aE:Nat→Bool}{base:Nat}
def rQ(ops:Array Oper)(bM:Array Bool):Prop:=∀(j:Nat)o,ops[j]? =some o→bM.getD j false=true→∀e∈o.after,Region.binds .any e=true→bM.getD e.on false=true
theorem rQ.waits{bM:Array Bool}(hc:rQ ops bM){i:Nat}:∀(j:Nat)o,ops[j]? =some o→(∀e∈o.after,Region.binds .any e=true→bM.getD e.on false=true)→
  ((reach [] ops.toList).getD j 0).testBit i=true→bM.getD i false=true:=by
 intro j
 induction j using Nat.strongRecOn with
 |_ j ih=>
  intro o ho gq h
  obtain⟨o',cC,e,he,hb,h⟩:=LU ops.toList [] j i (Nat.zero_le _) h
  simp only[List.length_nil,Nat.sub_zero,Array.getElem?_toList]at cC
  rw[ho]at cC
  cases cC
  have hl:=gq e (by simpa using he) hb
  rcases h with h|⟨aV,h⟩
  ·rw[←h];exact hl
  ·have hex:∃p,ops[e.on]? =some p:=by
    have:=(Array.getElem?_eq_some_iff.1 ho).1
    exact⟨ops[e.on],by simp[show e.on<ops.size by omega]⟩
   obtain⟨p,hp⟩:=hex
   exact ih e.on aV p hp (hc e.on p hp hl) h
theorem rQ.set{bM:Array Bool}(hc:rQ ops bM){j:Nat}(hj:j∈Region.ready .any ops bM):rQ ops (bM.setIfInBounds j true):=by
 obtain⟨_,o,ho,gq⟩:=mem_ready.1 hj
 intro k p hk hl e he hb
 by_cases Cc:j=k
 ·subst Cc
  rw[ho]at hk;cases hk
  exact getD_set_true (gq e he hb)
 ·rw[getD_set_ne false Cc]at hl
  exact getD_set_true (hc k p hk hl e he hb)
def vB(P:Program)(gl:Nat→Option D)(ops:Array Oper)(aE:Nat→Bool)(base:Nat)(Q:Env→Prop):Nat→Array Bool→Env→Prop
 |0,bM,e=>Region.ready .any ops bM=[]∧Q e
 |fuel+1,bM,e=>
  (Region.ready .any ops bM=[]→Q e)∧
  ∀i∈Region.ready .any ops bM,∃o,ops[i]? =some o∧my P gl (aF P gl) ops.toList (base+fl ops.toList i) (aE i) o e (vB P gl ops aE base Q fuel (bM.setIfInBounds i true))
theorem CX{w0:World}{ay:S0}{e:Env}{a:Act}{w:World}{g:Gh}(hI:Inv gl w0 ay e a w g){o:Oper}{c:Bool}(h:qt ops.toList o e=some c):Region.wanted o (yielded ops a.tmps)=c:=by
 unfold qt at h
 unfold Region.wanted
 split at h
 ·rename_i hg;rw[hg];exact(Option.some.inj h)
 ·rename_i j want hg
  rw[hg]
  simp only
  unfold yielded
  split at h
  ·rename_i t ht
   have fq:(ops[j]?).bind (·.dst)=some t:=by
    rw[Array.getElem?_toList]at ht
    cases hj:ops[j]? with
    |none=>rw[hj]at ht;cases ht
    |some q=>rw[hj]at ht;exact ht
   rw[fq]
   have hs:=lL hI t
   have aV:∀{s},e.an.getD t (.v .undef)=s→s≠.v .undef →a.tmps[t]? =some (a.tmps.getD t undef):=by
    intro s h1 h2
    have:t<e.an.length:=by
     rcases Nat.lt_or_ge t e.an.length with h|h
     ·exact h
     ·rw[List.getD_eq_getElem?_getD,List.getElem?_eq_none h]at h1;exact absurd h1.symm h2
    rw[←hI.size]at this
    simp[this]
   split at h
   ·rename_i c' hx
    rw[hx]at hs
    have hv:=hs.ka.data.rB
    have h1:=aV hx (by simp)
    simp only[Act.eval]at hv
    rw[hv]at h1
    simp only[Option.bind_some,h1]
    cases h
    cases c'<;>cases want<;>rfl
   ·rename_i vs hx
    rw[hx]at hs
    obtain⟨tv,hv,_⟩:=hs.H7
    have h1:=aV hx (by simp)
    simp only[Act.eval]at hv
    rw[hv]at h1
    simp only[Option.bind_some,h1]
    cases h
    rfl
   ·cases h
  ·cases h
theorem Ni{w0:World}{ay:S0}{e:Env}{a:Act}{w:World}{g:Gh}(hI:Inv gl w0 ay e a w g)(dst:Option Nat):Inv gl w0 ay ⟨cz e.an dst (.t []),e.boxes⟩ (a.put dst undef) w g:=
 hI.value (.t _ [] #[] rfl (fun j x v h=>by simp at h))
theorem GO{w0:World}{ay:S0}{e:Env}{a:Act}{w:World}{g:Gh}(hI:Inv gl w0 ay e a w g){i id:Nat}{l:Bool}{o:Oper}(ho:ops[i]? =some o){k:Env→Prop}
  (h:my P gl (aF P gl) ops.toList id l o e k){next:Act→World→Prop}{Q:Exit→Act→World→Prop}(hn:∀e' a' w' g',Inv gl w0 ay e' a' w' g'→k e'→next a' w'):wpOp P ops Q i next a w:=by
 have h':=yi.1 h
 unfold wpOp
 simp only[ho]
 split at h'
 ·rename_i hg
  rw[if_pos (CX hI hg)]
  exact .inl (Mv hI h' next Q fun e' v w' g' hinv hk=>hn e' _ w' g' hinv hk)
 ·rename_i hg
  rw[if_neg (by rw[CX hI hg];simp)]
  exact hn _ _ _ _ (Ni hI o.dst) h'
 ·exact h'.elim
theorem Gx{e e':Env}(hG:Good gl e){i id:Nat}{l:Bool}{o:Oper}(ho:ops[i]? =some o)(h:my P gl (aF P gl) ops.toList id l o e (fun x=>x=e')):Good gl e':=by
 obtain⟨w0,ay,a,w,g,hI⟩:=hG
 have:=GO (Q:=fun _ _ _=>False) hI ho h (next:=fun a' w'=>∃g',Inv gl w0 ay e' a' w' g') (fun oE a' w' g' hinv hk=>⟨g',hk▸hinv⟩)
 have aaT:∀{next:Act→World→Prop},o.wp P a w next (fun _ _ _=>False)→∃a' w',next a' w':=by
  intro next h
  unfold Oper.wp at h
  generalize (execOp a.eval o).run P w=r at h
  cases r with
  |ok n w'=>
   cases n<;>simp only[Oper.upon]at h
   case value v=>exact⟨_,_,h⟩
   case skip=>exact⟨_,_,h⟩
   case defer d=>exact⟨_,_,h⟩
   case enter f args=>
    obtain⟨e,EO,fr,hR,_⟩:=h []
    cases e with
    |returned v=>exact⟨_,_,hR⟩
    |panicked c=>exact hR.elim
    |outgrown=>obtain⟨_,_,hf⟩:=hR;exact hf.elim
   case row row args=>
    obtain⟨v,EO,hR,_⟩:=h default []
    exact⟨_,_,hR⟩
  |halt x w'=>cases x<;>simp only[Oper.upon]at h
 unfold wpOp at this
 simp only[ho]at this
 have Eu:∃a' w',∃g',Inv gl w0 ay e' a' w' g':=by
  split at this
  ·rcases this with h|⟨_,_,_,hf⟩
   ·exact aaT h
   ·exact hf.elim
  ·exact⟨_,_,this⟩
 obtain⟨a',w',g',hinv⟩:=Eu
 exact⟨w0,ay,a',w',g',hinv⟩
def Js(ops:Array Oper)(aE:Nat→Bool)(base:Nat)(K:Nat→Prop)(E:Option (List Nat))(bM:Array Bool)(e:Env):Prop:=
 ∀A,E=some A→A=jI ops.toList∧wV ops aE∧Jv ops base K bM e
theorem Js.step{C:aP}{K:Nat→Prop}{E:Option (List Nat)}{bM:Array Bool}{e e':Env}(h:Js ops aE base K E bM e){i:Nat}{o:Oper}(ho:ops[i]? =some o)
  (hs:my P gl C ops.toList (base+fl ops.toList i) (aE i) o e (fun x=>x=e')):Js ops aE base K E (bM.setIfInBounds i true) e':=fun A hA=>by
 obtain⟨h1,h2,h3⟩:=h A hA
 exact⟨h1,h2,h3.step h2 ho hs⟩
theorem NV{bM:Array Bool}(hE:wV ops aE)(hc:rQ ops bM){i:Nat}{o:Oper}(ho:ops[i]? =some o)(hr:i∈Region.ready .any ops bM):Made ops bM o:=by
 intro a ha k ok hk uh
 obtain⟨_,o',cC,gq⟩:=mem_ready.1 hr
 rw[ho]at cC;cases cC
 exact hc.waits i o ho gq (hE.waits i o a ho ha k ok hk uh)
theorem Vf{K:Nat→Prop}{E:Option (List Nat)}{bM:Array Bool}{e:Env}(hJ:Js ops aE base K E bM e)(hc:rQ ops bM){i j:Nat}{x y:Oper}(hx:ops[i]? =some x)(hy:ops[j]? =some y)
  (xy:i∈Region.ready .any ops bM)(JR:j∈Region.ready .any ops bM)(h:yN E ops (aE i) (aE j) x y=true):
  Eb ops (aE i) (aE j) x y∧(IG (aE i) (aE j) x y∨(wK gl (aE i) x y e∧wK gl (aE j) y x e)):=by
 simp only[yN,Bool.or_eq_true]at h
 rcases h with h|h
 ·obtain⟨h1,h2⟩:=VZ h
  exact⟨h1,.inl h2⟩
 ·cases hE:E with
  |none=>rw[hE]at h;cases h
  |some A=>
   rw[hE]at h
   obtain⟨rfl,h2,h3⟩:=hJ A hE
   obtain⟨h4,h5⟩:=Ve h
   exact⟨h4,.inr (Xb h2 h3 hx hy h5 (NV h2 hc hx xy) (NV h2 hc hy JR))⟩
theorem MB{K:Nat→Prop}{E:Option (List Nat)}{Q:Env→Prop}{i:Nat}{oi:Oper}(hi:ops[i]? =some oi):∀(fuel:Nat)(bM:Array Bool)(e:Env)(src:Option (Nat×Slot))(s:Slot)(U:Option (Nat×af)),
  (∀(j:Nat)oj,ops[j]? =some oj→j≠i→bM.getD j true=false→((reach [] ops.toList).getD j 0).testBit i=false→yN E ops (aE i) (aE j) oi oj=true)→
  rQ ops bM→i∈Region.ready .any ops bM→Good gl e→Js ops aE base K E bM e→Out P gl (aF P gl) ops (base+fl ops.toList i) (aE i) oi e src s U→
  vB P gl ops aE base Q fuel (bM.setIfInBounds i true) (fin oi src s U e)→vB P gl ops aE base Q (fuel+1) bM e:=by
 intro fuel
 induction fuel with
 |zero=>
  intro bM e src s U _ _ hr _ _ hO H
  refine⟨fun h=>(by rw[h]at hr;cases hr),fun j hj=>?_⟩
  by_cases mR:j=i
  ·subst mR;exact⟨oi,hi,hO.run H⟩
  ·have:=ready_mono hj mR
   rw[H.1]at this
   cases this
 |succ fuel ih=>
  intro bM e src s U Pc hc hr hG ui hO H
  refine⟨fun h=>(by rw[h]at hr;cases hr),fun j hj=>?_⟩
  by_cases mR:j=i
  ·subst mR;exact⟨oi,hi,hO.run H⟩
  ·obtain⟨oj,iJ,h1⟩:=H.2 j (ready_mono hj mR)
   obtain⟨Pz,oj',PA,gq⟩:=mem_ready.1 hj
   rw[iJ]at PA
   cases PA
   have JS:((reach [] ops.toList).getD j 0).testBit i=false:=by
    cases hb:((reach [] ops.toList).getD j 0).testBit i with
    |false=>rfl
    |true=>
     have h2:=hc.waits j oj iJ gq hb
     have h0:=(mem_ready.1 hr).1
     rcases Nat.lt_or_ge i bM.size with h'|h'
     ·simp[h']at h0 h2;rw[h0]at h2;cases h2
     ·simp[Array.getElem?_eq_none h']at h2
   obtain⟨aeG,eD⟩:=Vf ui hc hi iJ hr hj (Pc j oj iJ mR Pz JS)
   obtain⟨agI,s',U',hk,hO',_⟩:=wc h1
   obtain⟨d1,d2,d3⟩:=Yo hG aeG eD hO hO'
   refine⟨oj,iJ,d1.run ?_⟩
   rw[Array.setIfInBounds_comm _ _ (Ne.symm mR)]at hk
   refine ih (bM.setIfInBounds j true) _ src s U (fun k ok hk hki qS dH=>?_) (hc.set hj) (ready_mono hr (Ne.symm mR)) (Gx hG iJ (d1.run rfl)) (ui.step iJ (d1.run rfl)) d2 (by rw[←d3];exact hk)
   refine Pc k ok hk hki ?_ dH
   by_cases Cc:j=k
   ·subst Cc;exact Pz
   ·rw[getD_set_ne true Cc]at qS;exact qS
theorem LF{E:Option (List Nat)}{R:List Nat}{i:Nat}{o:Oper}:∀{l:List Oper}{j:Nat},DN E ops aE R i o l j=true→∀(n:Nat)p,l[n]? =some p→(R.getD (j+n) 0).testBit i=true∨yN E ops (aE i) (aE (j+n)) o p=true
 |[],j,_,n,p,h=>by simp at h
 |q::l,j,h,n,p,hp=>by
  simp only[DN,Bool.and_eq_true,Bool.or_eq_true]at h
  cases n with
  |zero=>simp at hp;subst hp;exact h.1
  |succ n=>
   have:=LF h.2 n p (by simpa using hp)
   rw[show j+(n+1)=j+1+n by omega]
   exact this
theorem yt{all:List Oper}{C:aP}(o:Oper)(rest:List Oper)(i:Nat)(e:Env)(k:Env→Prop):
 ie P gl C aE all base (o::rest) i e k=my P gl C all (base+fl all i) (aE i) o e (fun oE=>ie P gl C aE all base rest (i+1) oE k):=rfl
theorem Hg{KK:Nat→Prop}{E:Option (List Nat)}{K:Env→Prop}:∀(l:List Oper)(i:Nat)(bM:Array Bool)(e:Env),(∀j,l[j]? =ops[i+j]?)→(∀j,j<i→bM.getD j false=true)→(∀j,i≤j→j<ops.size→bM.getD j true=false)→bM.size=ops.size→
  rQ ops bM→Good gl e→Js ops aE base KK E bM e→wA E ops aE (reach [] ops.toList) l i=true→ie P gl (aF P gl) aE ops.toList base l i e K→vB P gl ops aE base K l.length bM e
 |[],i,bM,e,hl,h1,h2,aQ,_,_,_,_,h=>by
  refine⟨?_,h⟩
  rw[List.eq_nil_iff_forall_not_mem]
  intro j hj
  obtain⟨qS,o,ho,_⟩:=mem_ready.1 hj
  have aV:j<ops.size:=(Array.getElem?_eq_some_iff.1 ho).1
  have hle:ops.size≤i:=by
   have:=hl 0
   simp only[List.getElem?_nil,Nat.add_zero]at this
   exact Array.getElem?_eq_none_iff.1 this.symm
  have:=h1 j (by omega)
  simp[aQ,aV]at this qS
  rw[this]at qS;cases qS
 |o::l,i,bM,e,hl,h1,h2,aQ,hc,hG,ui,hB,h=>by
  have h0:ops[i]? =some o:=by simpa using(hl 0).symm
  have aV:i<ops.size:=(Array.getElem?_eq_some_iff.1 h0).1
  simp only[wA,Bool.and_eq_true]at hB
  obtain⟨⟨hr,hp⟩,hB'⟩:=hB
  have OC:i∈Region.ready .any ops bM:=by
   refine mem_ready.2 ⟨h2 i (Nat.le_refl _) aV,o,h0,fun e he hb=>?_⟩
   have:=List.all_eq_true.1 hr e (by simpa using he)
   rw[hb]at this
   simp only[Bool.not_true,Bool.false_or]at this
   exact h1 e.on (Nat.lt_of_succ_le (Nat.le_of_ble_eq_true this))
  rw[yt]at h
  obtain⟨src,s,U,hk,hO,_⟩:=wc h
  refine MB h0 l.length bM e src s U (fun j oj iJ mR qS dH=>?_) hc OC hG ui hO ?_
  ·have jS:j<ops.size:=(Array.getElem?_eq_some_iff.1 iJ).1
   have je:i<j:=by
    rcases Nat.lt_or_ge i j with h|h
    ·exact h
    ·exfalso
     have:=h1 j (by omega)
     simp[aQ,jS]at this qS
     rw[this]at qS;cases qS
   have xw:l[j-(i+1)]? =some oj:=by
    have:=hl (j-i)
    rw[show i+(j-i)=j by omega,iJ]at this
    rw[show j-i=(j-(i+1))+1 by omega]at this
    simpa using this
   have:=LF hp (j-(i+1)) oj xw
   rw[show i+1+(j-(i+1))=j by omega,dH]at this
   simpa using this
  ·refine Hg l (i+1) _ _ (fun j=>?_) (fun j hj=>?_) (fun j hj hjs=>?_) (by simpa using aQ) (hc.set OC) (Gx hG h0 (hO.run rfl)) (ui.step h0 (hO.run rfl)) hB' hk
   ·have:=hl (j+1)
    simpa[Nat.add_assoc,Nat.add_comm 1 j]using this
   ·by_cases je:i=j
    ·subst je
     simp[aQ,aV]
    ·exact getD_set_true (h1 j (by omega))
   ·rw[getD_set_ne true (by omega)]
    exact h2 j (by omega) hjs
theorem HJ{w0:World}{ay:S0}{K:Env→Prop}{Q:Exit→Act→World→Prop}(hQ:∀e a w g,Inv gl w0 ay e a w g→K e→Q .normal a w):∀(fuel:Nat)(bM:Array Bool)(e:Env)(a:Act)(w:World)(g:Gh),
  Inv gl w0 ay e a w g→vB P gl ops aE base K fuel bM e→wpAny P .any ops Q fuel bM a w
 |0,_,e,a,w,g,hI,h=>⟨h.1,hQ e a w g hI h.2⟩
 |fuel+1,_,e,a,w,g,hI,h=>⟨fun h0=>hQ e a w g hI (h.1 h0),fun i hi=>by
   obtain⟨o,ho,hs⟩:=h.2 i hi
   exact GO hI ho hs fun e' a' w' g' hinv hk=>HJ hQ fuel _ e' a' w' g' hinv hk⟩
theorem NW{w0:World}{ay:S0}{K:Env→Prop}{Q:Exit→Act→World→Prop}(hQ:∀e a w g,Inv gl w0 ay e a w g→K e→Q .normal a w):∀(l:List Oper)(i:Nat)(e:Env)(a:Act)(w:World)(g:Gh),
  (∀j,l[j]? =ops[i+j]?)→Inv gl w0 ay e a w g→ie P gl (aF P gl) aE ops.toList base l i e K→wpOps P ops Q (List.range' i l.length) a w
 |[],_,e,a,w,g,_,hI,h=>hQ e a w g hI h
 |o::l,i,e,a,w,g,hl,hI,h=>by
  have h0:ops[i]? =some o:=by simpa using(hl 0).symm
  rw[List.length_cons,List.range'_succ,wpOps_cons]
  rw[yt]at h
  exact GO hI h0 h fun e' a' w' g' hinv hk=>NW hQ l (i+1) e' a' w' g' (fun j=>by have:=hl (j+1);simpa[Nat.add_assoc,Nat.add_comm 1 j]using this) hinv hk
theorem LV{m:Nat}:∀(l:List Oper)(i j:Nat),j∈nB m l i↔i≤j∧m.testBit j=false∧∃o,l[j-i]? =some o∧∀e∈o.after,Region.binds .any e=true→m.testBit e.on=true
 |[],i,j=>by simp[nB]
 |o::l,i,j=>by
  have ih:=LV (m:=m) l (i+1) j
  have aY:i+1≤j→(o::l)[j-i]? =l[j-(i+1)]? :=fun h=>by rw[show j-i=(j-(i+1))+1 by omega,List.getElem?_cons_succ]
  rw[nB]
  cases hc:(!Nat.testBit m i&&o.after.toList.all (fun e=> !Region.binds .any e||Nat.testBit m e.on))with
  |true=>
   simp only[Bool.and_eq_true,Bool.not_eq_true',List.all_eq_true,Bool.or_eq_true]at hc
   simp only[cond_true,List.mem_cons,ih]
   constructor
   ·rintro(rfl|⟨h1,h2,p,h3,h4⟩)
    ·refine⟨Nat.le_refl _,hc.1,o,by simp,fun e he hb=>?_⟩
     rcases hc.2 e (by simpa using he)with h|h
     ·rw[hb]at h;cases h
     ·exact h
    ·exact⟨by omega,h2,p,(aY h1).trans h3,h4⟩
   ·rintro⟨h1,h2,p,h3,h4⟩
    rcases Nat.eq_or_lt_of_le h1 with h|h
    ·exact .inl h.symm
    ·exact .inr ⟨h,h2,p,(aY h).symm.trans h3,h4⟩
  |false=>
   simp only[cond_false,ih]
   constructor
   ·rintro⟨h1,h2,p,h3,h4⟩
    exact⟨by omega,h2,p,(aY h1).trans h3,h4⟩
   ·rintro⟨h1,h2,p,h3,h4⟩
    rcases Nat.eq_or_lt_of_le h1 with h|h
    ·subst h
     exfalso
     simp only[Nat.sub_self,List.getElem?_cons_zero,Option.some.injEq]at h3
     subst h3
     have:(!Nat.testBit m i&&o.after.toList.all (fun e=> !Region.binds .any e||Nat.testBit m e.on))=true:=by
      simp only[Bool.and_eq_true,Bool.not_eq_true',List.all_eq_true,Bool.or_eq_true]
      refine⟨h2,fun e he=>?_⟩
      cases hb:Region.binds .any e with
      |false=>exact .inl rfl
      |true=>exact .inr (h4 e (by simpa using he) hb)
     rw[this]at hc;cases hc
    ·exact⟨h,h2,p,(aY h).symm.trans h3,h4⟩
theorem Ah{m:Nat}{bM:Array Bool}(hm:∀j,m.testBit j=bM.getD j false)(hs:bM.size=ops.size){j:Nat}:j∈nB m ops.toList 0↔j∈Region.ready .any ops bM:=by
 rw[LV,mem_ready]
 simp only[Nat.zero_le,true_and,Nat.sub_zero,Array.getElem?_toList]
 constructor
 ·rintro⟨h1,o,h2,h3⟩
  refine⟨?_,o,h2,fun e he hb=>(hm e.on).symm.trans (h3 e he hb)⟩
  have hj:j<bM.size:=by rw[hs];exact(Array.getElem?_eq_some_iff.1 h2).1
  rw[hm]at h1
  simp only[Array.getD_eq_getD_getElem?,Array.getElem?_eq_getElem hj,Option.getD_some]at h1 ⊢
  exact h1
 ·rintro⟨h1,o,h2,h3⟩
  refine⟨?_,o,h2,fun e he hb=>(hm e.on).trans (h3 e he hb)⟩
  have hj:j<bM.size:=by rw[hs];exact(Array.getElem?_eq_some_iff.1 h2).1
  rw[hm]
  simp only[Array.getD_eq_getD_getElem?,Array.getElem?_eq_getElem hj,Option.getD_some]at h1 ⊢
  exact h1
theorem LX{R:List Nat}{m i:Nat}{o:Oper}:∀{l:List Oper}{j:Nat},D8 ops aE R m i o l j=true→∀(n:Nat)p,l[n]? =some p→
  i=j+n∨m.testBit (j+n)=true∨(R.getD (j+n) 0).testBit i=true∨indep ops (aE i) (aE (j+n)) o p=true
 |[],j,_,n,p,h=>by simp at h
 |q::l,j,h,n,p,hp=>by
  simp only[D8,Bool.and_eq_true,Bool.or_eq_true]at h
  cases n with
  |zero=>
   simp at hp;subst hp
   rcases h.1 with((h|h)|h)|h
   ·exact .inl (Nat.eq_of_beq_eq_true h)
   ·exact .inr (.inl h)
   ·exact .inr (.inr (.inl h))
   ·exact .inr (.inr (.inr h))
  |succ n=>
   have:=LX h.2 n p (by simpa using hp)
   rw[show j+(n+1)=j+1+n by omega]
   exact this
theorem K0{R:List Nat}{m i:Nat}:∀{l:List Nat},firstFree ops aE R m l=some i→i∈l∧DO ops aE R m i=true
 |[],h=>by simp[firstFree]at h
 |k::l,h=>by
  rw[firstFree]at h
  cases hk:DO ops aE R m k with
  |true=>rw[hk]at h;cases h;exact⟨by simp,hk⟩
  |false=>rw[hk]at h;have:=K0 h;exact⟨by simp[this.1],this.2⟩
theorem Nj{f:Nat→Prop}:∀{l:List Nat},Eo f l→∀i∈l,f i
 |[],_,i,h=>by cases h
 |[j],hf,i,h=>by
  simp only[List.mem_cons,List.not_mem_nil,or_false]at h
  subst h;exact hf
 |j::k::l,hf,i,h=>by
  have hf:f j∧Eo f (k::l):=hf
  rcases List.mem_cons.1 h with h|h
  ·subst h;exact hf.1
  ·exact Nj hf.2 i h
theorem Tr{m i j:Nat}:(m|||2^i).testBit j=(m.testBit j||decide (i=j)):=by
 rw[Nat.testBit_or,Nat.testBit_two_pow]
theorem Ge{K:Env→Prop}:∀(n m:Nat)(bM:Array Bool)(e:Env),(∀j,m.testBit j=bM.getD j false)→bM.size=ops.size→rQ ops bM→Good gl e→
  wR P gl (aF P gl) ops aE (reach [] ops.toList) base K n m e→vB P gl ops aE base K n bM e
 |0,m,bM,e,hm,hs,hc,hG,h=>by
  rw[wR]at h
  cases hr:(nB m ops.toList 0).isEmpty with
  |false=>rw[hr]at h;exact h.elim
  |true=>
   rw[hr]at h
   refine⟨?_,h⟩
   rw[List.eq_nil_iff_forall_not_mem]
   intro j hj
   have:=(Ah hm hs).2 hj
   rw[List.isEmpty_iff.1 hr]at this
   cases this
 |n+1,m,bM,e,hm,hs,hc,hG,h=>by
  rw[wR]at h
  cases hr:(nB m ops.toList 0).isEmpty with
  |true=>
   rw[hr]at h
   refine⟨fun _=>h,fun i hi=>?_⟩
   have:=(Ah hm hs).2 hi
   rw[List.isEmpty_iff.1 hr]at this
   cases this
  |false=>
   rw[hr,cond_false]at h
   have qR:∀{i:Nat},i∈Region.ready .any ops bM→∀j,(m|||2^i).testBit j=(bM.setIfInBounds i true).getD j false:=by
    intro i hi j
    rw[Tr,hm]
    have kj:i<bM.size:=by
     obtain⟨_,o,ho,_⟩:=mem_ready.1 hi
     rw[hs];exact(Array.getElem?_eq_some_iff.1 ho).1
    by_cases je:i=j
    ·subst je;simp[kj]
    ·rw[getD_set_ne false je];simp[je]
   have step:∀{i:Nat}{o:Oper},i∈Region.ready .any ops bM→ops[i]? =some o→
     my P gl (aF P gl) ops.toList (base+fl ops.toList i) (aE i) o e (fun e'=>wR P gl (aF P gl) ops aE (reach [] ops.toList) base K n (m|||2^i) e')→
     ∃src s U,Out P gl (aF P gl) ops (base+fl ops.toList i) (aE i) o e src s U∧vB P gl ops aE base K n (bM.setIfInBounds i true) (fin o src s U e):=by
    intro i o hi ho h1
    obtain⟨src,s,U,hk,hO,_⟩:=wc h1
    exact⟨src,s,U,hO,Ge n _ _ _ (qR hi) (by simpa using hs) (hc.set hi) (Gx hG ho (hO.run rfl)) hk⟩
   have gq:=Nj h
   unfold O6 at gq
   cases hf:firstFree ops aE (reach [] ops.toList) m (nB m ops.toList 0)with
   |some i=>
    rw[hf]at gq
    obtain⟨him,qT⟩:=K0 hf
    have hi:=(Ah hm hs).1 him
    obtain⟨qS,o,ho,_⟩:=mem_ready.1 hi
    have h1:=gq i (by simp)
    simp only[Array.getElem?_toList,ho]at h1
    obtain⟨src,s,U,hO,hA⟩:=step hi ho h1
    unfold DO at qT
    simp only[Array.getElem?_toList,ho]at qT
    refine MB (E:=none) (K:=fun _=>False) ho n bM e src s U (fun j oj iJ mR IH dH=>?_) hc hi hG (fun A hA=>by cases hA) hO hA
    have:=LX qT j oj (by rw[Array.getElem?_toList];exact iJ)
    rw[Nat.zero_add]at this
    rcases this with h|h|h|h
    ·exact absurd h.symm mR
    ·exfalso
     have jS:j<bM.size:=by rw[hs];exact(Array.getElem?_eq_some_iff.1 iJ).1
     rw[hm]at h
     simp only[Array.getD_eq_getD_getElem?,Array.getElem?_eq_getElem jS,Option.getD_some]at h IH
     rw[h]at IH;cases IH
    ·rw[dH]at h;cases h
    ·simp[yN,h]
   |none=>
    rw[hf]at gq
    refine⟨fun h0=>?_,fun i hi=>?_⟩
    ·exfalso
     cases hl:nB m ops.toList 0 with
     |nil=>rw[hl]at hr;cases hr
     |cons i l=>
      have:=(Ah hm hs (j:=i)).1 (by rw[hl];simp)
      rw[h0]at this;cases this
    ·have h1:=gq i ((Ah hm hs).2 hi)
     obtain⟨_,o,ho,_⟩:=mem_ready.1 hi
     simp only[Array.getElem?_toList,ho]at h1
     obtain⟨src,s,U,hO,hA⟩:=step hi ho h1
     exact⟨o,ho,hO.run hA⟩
theorem Gf{all:List Oper}{K:Env→Prop}:∀(l:List Oper)(i:Nat)(e:Env),ie P gl (aF P gl) aE all base l i e K→∃e',K e'
 |[],_,e,h=>⟨e,h⟩
 |o::l,i,e,h=>by
  rw[yt]at h
  have gq:all=all.toArray.toList:=by simp
  rw[gq]at h
  obtain⟨src,s,U,hk,hO,_⟩:=wc h
  rw[←gq]at hk
  exact Gf l (i+1) _ hk
theorem Inv.De{w0:World}{ay:S0}{e:Env}{a:Act}{w:World}{g:Gh}(hI:Inv gl w0 ay e a w g)(n:Nat):
  Inv gl w0 ay ⟨e.an,e.boxes++List.replicate n .none⟩ a w {g with bx:=g.bx++List.replicate n none}:=by
 have eD:∀b,some b∈g.bx++List.replicate n (none:Option Nat)→some b∈g.bx:=fun b h=>by
  rcases List.mem_append.1 h with h|h
  ·exact h
  ·have:=(List.mem_replicate.1 h).2;cases this
 have kJ:∀(i:Nat)ao,(g.bx++List.replicate n (none:Option Nat))[i]? =some (some ao)→g.bx[i]? =some (some ao):=fun i ao h=>by
  rw[List.getElem?_append]at h
  split at h
  ·exact h
  ·have:=(List.mem_replicate.1 (List.mem_of_getElem? h)).2;cases this
 have hX:Ext w0.heap.size w g w {g with bx:=g.bx++List.replicate n none} (fun _=>False):=by
  refine⟨fun _ _ hb ho h=>⟨h,fun hm=>hb (eD _ hm),ho,fun _ h=>h⟩,fun _ _ h=>(by first|exact⟨h,rfl⟩|exact⟨h,.refl _ _ _⟩),fun _ _ _=>rfl,fun i ao h=>?_,fun p b a' c _ ho=>?_,.refl _⟩
  ·simp only;rw[List.getElem?_append_left (List.getElem?_eq_some_iff.1 h).1];exact h
  ·obtain⟨h1,h2,h3,h4,h5⟩:=ho
   exact⟨⟨h1,h2,fun h=>h3 (eD b h),h4,h5⟩,.refl _ _ _⟩
 refine⟨hI.below,hI.size,fun i s hs=>hX.slot (fun _ h=>h) (hI.an i s hs),by simp[hI.fo],fun b bx ao h1 h2=>?_,fun i j ao h1 h2=>hI.nodup i j ao (kJ i ao h1) (kJ j ao h2),hI.fT,
  fun b o h=>⟨(hI.cP b o h).1,fun hm=>(hI.cP b o h).2.1 (eD b hm),(hI.cP b o h).2.2⟩,fun b h=>hI.eb b (eD b h),hI.jK.ext hX,hI.defers,fun D o hD=>(have h:=hI.fe D o hD;⟨fun hm=>h.1 (eD D hm),h.2⟩),hI.cls,hI.jv⟩
 have pO:=kJ b ao h2
 simp only at h1
 rw[List.getElem?_append_left (by rw[←hI.fo];exact(List.getElem?_eq_some_iff.1 pO).1)]at h1
 exact hX.box (fun _ h=>h) rfl (hI.boxes b bx ao h1 pO)
theorem Inv.drew{w0:World}{ay:S0}{e:Env}{a:Act}{w:World}{g:Gh}(hI:Inv gl w0 ay e a w g):Inv gl w0 ay e a {w with drawn:=w.drawn+1} g:=by
 have hX:Ext w0.heap.size w g {w with drawn:=w.drawn+1} g (fun _=>False):=⟨fun _ _ hb ho h=>⟨h,hb,ho,fun _ h=>h⟩,fun _ _ h=>(by first|exact⟨h,rfl⟩|exact⟨h,.refl _ _ _⟩),fun _ _ _=>rfl,fun _ _ h=>h,fun _ _ _ _ _ h=>⟨h,.refl _ _ _⟩,fun _ c ty h=>⟨c,ty,h,rfl⟩⟩
 refine⟨⟨hI.below.os,hI.below.tape,hI.below.output,hI.below.size,hI.below.block⟩,hI.size,fun i s hs=>hX.slot (fun _ h=>h) (hI.an i s hs),hI.fo,fun b bx ao h1 h2=>hX.box (fun _ h=>h) rfl (hI.boxes b bx ao h1 h2),hI.nodup,hI.fT,hI.cP,hI.eb,hI.jK.ext hX,hI.defers,hI.fe,hI.cls,hI.jv⟩
theorem Inv.Pd{w0:World}{ay:S0}{e:Env}{a:Act}{w:World}{g:Gh}(hI:Inv gl w0 ay e a w g)(n:Nat){e':Env}(he:e'=⟨e.an,e.boxes++List.replicate n .none⟩):
  Jv ops e.boxes.length (fun b=>∃ao,g.bx[b]? =some (some ao)) (Array.replicate ops.size false) e':=by
 subst he
 have qu:∀{O:Nat→Nat→Nat→Nat→Prop}{s:Slot}{v:Value},cH w0.heap.size w g O s v→dR (fun b=>∃ao,g.bx[b]? =some (some ao)) s:=by
  intro O s v h
  induction h with
  |v O x y h=>exact .v _
  |t O xs vs hl hc=>exact .t _
  |p O b off ao h=>exact .p _ _ ⟨ao,h⟩
  |a O b n sz v hm h=>obtain⟨ao,cap,h1,_⟩:=h;exact .a _ _ _ ⟨ao,h1⟩
  |m O b ao h=>exact .m _ ⟨ao,h⟩
  |c O f first cap fv cv hf hc _ _ jt ju=>
   refine .c _ _ _ (fun s hs=>?_) (fun s hs=>?_)
   ·obtain⟨i,hi,rfl⟩:=List.mem_iff_getElem.1 hs
    exact jt i _ (fv[i]'(by omega)) (by simp) (by simp)
   ·obtain⟨i,hi,rfl⟩:=List.mem_iff_getElem.1 hs
    exact ju i _ (cv[i]'(by omega)) (by simp) (by simp)
 refine⟨fun b⟨ao,hb⟩=>by rw[←hI.fo];exact(List.getElem?_eq_some_iff.1 hb).1,fun t _=>?_,fun b s hb hs=>?_,fun i o a' _ _ hl=>?_⟩
 ·exact qu (lL hI t)
 ·simp only at hs
  rw[List.getElem?_append]at hs
  split at hs
  ·rename_i aV
   rcases hb with⟨ao,hb⟩|hb
   ·obtain⟨_,c,t,hc,_,aQ,hr⟩:=hI.boxes b _ ao hs hb
    have mb:c[0]? =some (c[0]'(by omega)):=by simp
    exact qu (hr _ mb)
   ·omega
  ·have:=(List.mem_replicate.1 (List.mem_of_getElem? hs)).2;cases this
 ·exfalso
  rcases Nat.lt_or_ge i ops.size with h|h
  ·simp[h]at hl
  ·simp[h]at hl
theorem V0{w0:World}{ay:S0}{e:Env}{a:Act}{w:World}{g:Gh}(hI:Inv gl w0 ay e a w g){id:Nat}{draw:Bool}{K:Env→Prop}{Q:Exit→Act→World→Prop}(hm:P.follows .mixedOrders =true)
  (h:wh P gl (aF P gl) aE ops.toList e (qp P gl (aF P gl) (!draw||qi aE ops) ops aE e K))(hQ:∀e a w g,Inv gl w0 ay e a w g→K e→Q .normal a w):(Code.region id ops draw).wp P Q a w:=by
 unfold wh at h
 cases di:(!draw||qi aE ops)with
 |false=>
  rw[di]at h
  obtain⟨e',II,hK⟩:=Gf _ _ _ h
  have hd:draw=true:=by cases draw<;>simp_all
  subst hd
  refine wp_region_any hm ?_
  have cD:=(hI.De (fl ops.toList ops.toList.length)).drew
  have:=Ge (P:=P) (gl:=gl) (aE:=aE) (K:=fun x=>x=e') _ 0 (Array.replicate ops.size false) _ (fun j=>by simp[Array.getElem?_replicate];split<;>rfl) (by simp) (fun j o ho hl=>by
   have hj:j<ops.size:=(Array.getElem?_eq_some_iff.1 ho).1
   simp[hj]at hl) ⟨w0,ay,a,_,_,cD⟩ II
  have h2:=HJ (Q:=Q) (K:=fun x=>x=e') (fun e1 a1 w1 g1 hinv hk=>hQ e1 a1 w1 g1 hinv (by rw[hk];exact hK)) _ _ _ _ _ _ cD this
  simpa using h2
 |true=>
 rw[di]at h
 replace h:ie P gl (aF P gl) aE ops.toList e.boxes.length ops.toList 0 ⟨e.an,e.boxes++List.replicate (fl ops.toList ops.toList.length) .none⟩ K:=h
 have bJ:=hI.De (fl ops.toList ops.toList.length)
 cases draw with
 |false=>
  refine wp_region ?_
  have:=NW (base:=e.boxes.length) (aE:=aE) hQ ops.toList 0 _ a w _ (fun j=>by simp) bJ h
  rw[List.range_eq_range']
  simpa using this
 |true=>
  simp only[Bool.not_true,Bool.false_or]at di
  refine wp_region_any hm ?_
  have cD:=bJ.drew
  have aQ:(Array.replicate ops.size false).size =ops.size:=by simp
  have JT:=hI.Pd (ops:=ops) (fl ops.toList ops.toList.length) rfl
  obtain⟨E,ui,di⟩:∃E,Js ops aE e.boxes.length _ E (Array.replicate ops.size false) ⟨e.an,e.boxes++List.replicate (fl ops.toList ops.toList.length) .none⟩∧wA E ops aE (reach [] ops.toList) ops.toList 0=true:=by
   unfold qi at di
   cases pN:eligible ops.toList aE (reach [] ops.toList)with
   |true=>rw[pN]at di;exact⟨_,fun A hA=>by cases hA;exact⟨rfl,NU pN,JT⟩,di⟩
   |false=>rw[pN]at di;exact⟨none,fun A hA=>(by cases hA),di⟩
  have:=Hg (P:=P) (gl:=gl) (base:=e.boxes.length) (aE:=aE) ops.toList 0 (Array.replicate ops.size false) _ (fun j=>by simp) (fun j hj=>by omega) (fun j _ hj=>by simp[hj]) aQ
   (fun j o ho hl=>by
     have hj:j<ops.size:=(Array.getElem?_eq_some_iff.1 ho).1
     simp[hj]at hl) ⟨w0,ay,a,_,_,cD⟩ ui di h
  have h2:=HJ hQ _ _ _ _ _ _ cD this
  simpa using h2
end
end Go.Proofs.YtaknajjmldngiaaGreat.Ab
