/-
  THE ABSTRACT WALK: appends.
-/
import Derived.Test.YtaknajjmldngiaaTa
import Derived.MapKept
import Derived.Laws.MakeOwn
set_option linter.unusedVariables false
set_option linter.unusedSimpArgs false
namespace Go.Proofs.Ytaknajjmldngiaa.Ab
open Go Go.RowKit
section
variable{P:Program}{gl:Nat→Option D}{w0:World}{an:S0}{e:Env}{a:Act}{w:World}{g:Gh}
structure oS(e:Env)(ai:List Slot)(lost:Nat→Prop)(dst:Option Nat):Prop where
 len:ai.length=e.ai.length
 at_:∀(i:Nat)x,ai[i]? =some x→dst≠some i→∃y,e.ai[i]? =some y∧((x=y∧¬lost i)∨x=y.aa)
theorem oS.same(e:Env)(dst:Option Nat):oS e e.ai (fun _=>False) dst:=⟨rfl,fun _ x h _=>⟨x,h,.inl ⟨rfl,fun h=>h⟩⟩⟩
def uE(lost:Nat→Prop)(dst:Option Nat)(p:Pos):Prop:=∃i j,p=.s i j∧(lost i∨dst=some i)
theorem Inv.hand(hI:Inv gl w0 an e a w g){w':World}{g':Gh}{ai:List Slot}{lost:Nat→Prop}{dst:Option Nat}(hH:oS e ai lost dst)
  (hX:Ext w0.heap.size w g w' g' (uE lost dst)){s:Slot}{v:Value}(mD:Below w0.heap.size w w')
  (lJ:∀d,dst=some d→bM w0.heap.size w' g' (fT w0.heap.size w' g' d) s v)(cR:g'.bx=g.bx)(b6:∀b,some b∈g.bx→w'.heap[b]? =w.heap[b]?)
  (uP:∀b o,g'.St b o→(an b o∨w0.heap.size≤b)∧some b∉g.bx∧b<w'.heap.size):
  Inv gl w0 an ⟨bF ai dst s,e.boxes⟩ (a.put dst v) w' g':=by
 refine hI.step hX mD hH.len (fun i x hx hd=>?_) lJ (by rw[cR];exact hI.er) ?_ (by rw[cR];exact hI.nodup) ?_ (fun b o h=>by rw[cR];exact uP b o h)
 ·obtain⟨y,hy,⟨rfl,hl⟩|h⟩:=hH.at_ i x hx hd
  ·refine⟨x,hy,.inl ⟨rfl,fun j=>?_⟩⟩
   rintro⟨i',j',h,dM|dM⟩
   ·cases h;exact hl dM
   ·cases h;exact hd dM
  ·exact⟨y,hy,.inr h⟩
 ·intro b bx aj h1 h2
  rw[cR]at h2
  refine hX.box (fun j=>?_) (b6 aj (List.mem_of_getElem? h2)) (hI.boxes b bx aj h1 h2)
  rintro⟨i,j',h,_⟩
  cases h
 ·intro b hb
  rw[cR]at hb
  have:=mD.size
  have:=hI.cU b hb
  omega
def Gh.mv(g:Gh)(b:Nat)(p:Pos):Gh:={g with ow:=fun b'=>if b'=b then some p else g.ow b'}
theorem Ext.mv{base:Nat}{i:Nat}{b a0 c0:Nat}(ho:fe base w g (.s i 0) b a0 c0){lost:Nat→Prop}(hl:lost i)(dst:Option Nat)(q:Pos):Ext base w g w (g.mv b q) (uE lost dst):=by
 refine⟨fun D _ hb hn h=>⟨h,hb,(by
  simp only[Gh.mv]
  rw[if_neg (fun e=>by rw[e,ho.1]at hn;cases hn)];exact hn),fun _ h=>h⟩,fun _ _ h=>(by first|exact⟨h,rfl⟩|exact⟨h,.refl _ _ _⟩),fun _ _ _=>rfl,fun _ _ h=>h,fun p b' a' c' hp bJ=>⟨?_,.refl _ _ _⟩,.refl _⟩
 obtain⟨h1,h2,h3,h4,h5⟩:=bJ
 refine⟨?_,h2,h3,h4,h5⟩
 simp only[Gh.mv]
 split
 ·rename_i hb
  subst hb
  exfalso
  rw[ho.1]at h1
  cases h1
  exact hp ⟨i,0,rfl,.inl hl⟩
 ·exact h1
theorem Ov{t ty e':TypeId}{i:TypeInfo}(ht:P.underlying t=some (.slice e'))(hi:P.info? e'=some i)(base:Option Addr)(n cap:Nat)(hn:n≤cap){y:Value}
  (hy:y=.slice none 0 0∨∃ad c,y=.slice (some ad) 0 c):(Builtin.append_ #[t,t] ty #[.slice base n cap,y]).run P w=.ok (.slice base n cap) w:=by
 rcases hy with rfl|⟨ad,c,rfl⟩
 ·cases base<;>simp[Builtin.append_,run_underlying ht,sizeOf,typeInfo,hi,Builtin.lenOf,hn,Builtin.firstCells,storeCells]
 ·cases base<;>simp[Builtin.append_,run_underlying ht,sizeOf,typeInfo,hi,Builtin.lenOf,hn,Builtin.firstCells,loadCells,loadCellsFrom,storeCells]
theorem HB{t ty e' te:TypeId}{i:TypeInfo}(ht:P.underlying t=some (.slice e'))(hi:P.info? e'=some i){gg n cap:Nat}{cur:Array Value}(hg:w.heap[gg]? =some (.cells cur te (0,0)))
  {ad:Addr}{m c:Nat}(news:List Value)(hl:news.length=m*i.size)(Vz:∀j u,news[j]? =some u→w.cell? (ad.add j)=some u)(h1:∀u∈news,u.oneCell'=true)
  (rz:n+m≤cap)(mK:n*i.size+news.length≤cur.size):
  (Builtin.append_ #[t,t] ty #[.slice (some ⟨gg,0,none⟩) n cap,.slice (some ad) m c]).run P w=
    .ok (.slice (some ⟨gg,0,none⟩) (n+m) cap) (w.setRow gg (cur.toList.take (n*i.size)++news++cur.toList.drop (n*i.size+news.length)).toArray):=by
 have hf:=run_firstCells_some (P:=P) w i.size m ad m c news hl Vz
 have bB:=run_storeCells_at P gg (n*i.size) te news 0 cur w hg (by simpa using mK) h1
 simp only[Nat.add_zero]at bB
 simp[Builtin.append_,run_underlying ht,sizeOf,typeInfo,hi,Builtin.lenOf,rz,hf,Addr.add_lit,bB]
theorem uh{sz n:Nat}{vs:Nat→Value}{b off:Nat}{St:Nat→Nat→Prop}(aN:∀(o:Nat),o<n*sz→w.cell? ⟨b,off+o,none⟩=some (vs o)∧St b (off+o)):
  ∃l:List Value,l.length=n*sz∧(∀j u,l[j]? =some u→w.cell? ((⟨b,off,none⟩:Addr).add j)=some u)∧∀j,j<n*sz→l[j]? =some (vs j):=by
 refine⟨(List.range (n*sz)).map vs,by simp,fun j u hu=>?_,fun j hj=>by simp[hj]⟩
 have hj:j<n*sz:=by have:=(List.getElem?_eq_some_iff.1 hu).1;simpa using this
 simp[hj]at hu
 subst hu
 rw[mw]
 exact(aN j hj).1
theorem AA{sz:Nat}{L M:List D}(hL:∀x∈L,x.cells.length=sz){i:Nat}{x:D}(hx:(L++M)[i]? =some x){j:Nat}{c:D}(hc:x.cells[j]? =some c){St:Nat→Nat→Prop}
  {f h:Nat→Value}(hf:∀(i:Nat)x(j:Nat)c,L[i]? =some x→x.cells[j]? =some c→aK w St c (f (i*sz+j)))(hh:∀(i:Nat)x(j:Nat)c,M[i]? =some x→x.cells[j]? =some c→aK w St c (h (i*sz+j)))
  (hM:∀x∈M,x.cells.length=sz):aK w St c (if i*sz+j<L.length*sz then f (i*sz+j)else h (i*sz+j-L.length*sz)):=by
 rw[List.getElem?_append]at hx
 have hj:=(List.getElem?_eq_some_iff.1 hc).1
 split at hx
 ·rename_i hi
  rw[hL x (List.mem_of_getElem? hx)]at hj
  have:(i+1)*sz≤L.length*sz:=Nat.mul_le_mul_right _ hi
  rw[Nat.succ_mul]at this
  rw[if_pos (by omega)]
  exact hf i x j c hx hc
 ·rename_i hi
  rw[hM x (List.mem_of_getElem? hx)]at hj
  have h1:L.length*sz≤i*sz:=Nat.mul_le_mul_right _ (by omega)
  rw[if_neg (by omega)]
  have:=hh (i-L.length) x j c hx hc
  have e1:i*sz+j-L.length*sz=(i-L.length)*sz+j:=by rw[Nat.sub_mul];omega
  rw[e1]
  exact this
theorem Inv.grow(hI:Inv gl w0 an e a w g){ai:List Slot}{lost:Nat→Prop}{dst:Option Nat}(hH:oS e ai lost dst){sz:Nat}{L M:List D}{cap:Nat}{te:TypeId}{ei news rest:List Value}
  (hL:∀x∈L,x.cells.length=sz)(hM:∀x∈M,x.cells.length=sz)(nr:∀x∈L,∀c∈x.cells,c.one=true)(jv:∀x∈M,∀c∈x.cells,c.one=true)
  (ho:ei.length=L.length*sz)(hn:news.length=M.length*sz)(hr:rest.length=(cap-(L.length+M.length))*sz)(bq:L.length+M.length≤cap)(gP:cap≤maxLen)
  {f h:Nat→Value}(qE:∀j,j<L.length*sz→ei[j]? =some (f j))(pq:∀j,j<M.length*sz→news[j]? =some (h j))
  (hf:∀(i:Nat)x(j:Nat)c,L[i]? =some x→x.cells[j]? =some c→aK w g.St c (f (i*sz+j)))(hh:∀(i:Nat)x(j:Nat)c,M[i]? =some x→x.cells[j]? =some c→aK w g.St c (h (i*sz+j))):
  ∃g',Inv gl w0 an ⟨bF ai dst (.v (.own sz (L++M))),e.boxes⟩ (a.put dst (.slice (some ⟨w.heap.size,0,none⟩) (L.length+M.length) cap))
   (w.drew.alloc (.cells (ei++news++rest).toArray te)) g':=by
 have hle:w0.heap.size≤w.heap.size:=hI.below.size
 have ZO:w.drew.heap=w.heap:=rfl
 have aB:(w.drew.alloc (.cells (ei++news++rest).toArray te)).heap.size =w.heap.size+1:=xS w.drew _
 have hold:=fun b(hb:b<w.heap.size)=>iu w.drew (.cells (ei++news++rest).toArray te) b hb
 have g9:=sY w.drew (.cells (ei++news++rest).toArray te)
 have tn:∀b o,b<w.heap.size→(w.drew.alloc (.cells (ei++news++rest).toArray te)).cell? ⟨b,o,none⟩=w.cell? ⟨b,o,none⟩:=fun b o hb=>World.cell?_of_block (hold b hb)
 refine⟨{St:=fun b o=>g.St b o∨(b=w.heap.size∧o<(L.length+M.length)*sz),bx:=g.bx,ow:=fun b=>if b=w.heap.size then(dst.map fun d=>.s d 0)else g.ow b},?_⟩
 have hX:Ext w0.heap.size w g (w.drew.alloc (.cells (ei++news++rest).toArray te))
   {St:=fun b o=>g.St b o∨(b=w.heap.size∧o<(L.length+M.length)*sz),bx:=g.bx,ow:=fun b=>if b=w.heap.size then(dst.map fun d=>.s d 0)else g.ow b} (uE lost dst):=by
  refine⟨fun D o hb ho h=>⟨(hold D (fo h)).trans h,hb,(by
   simp only
   rw[if_neg (by have:=fo h;omega)];exact ho),fun x hx=>hx.elim id fun e=>(by have:=fo h;omega)⟩,fun b o h=>⟨.inl h,.pS (hold b (hI.mJ h))⟩,fun b o h=>tn b o (by omega),fun _ _ h=>h,fun p b a' c' _ bJ=>⟨?_,fun _=>hold b bJ.lt⟩,.of fun b hb=>hold b hb⟩
  have aS:=bJ.lt
  obtain⟨h1,h2,h3,⟨cur,ty,h4,kz⟩,h5⟩:=bJ
  refine⟨?_,h2,h3,⟨cur,ty,(hold b aS).trans h4,kz⟩,fun o ho=>?_⟩
  ·simp only
   rw[if_neg (by omega)];exact h1
  ·rintro(h|h)
   ·exact h5 o ho h
   ·omega
 refine hI.hand hH hX ⟨rfl,rfl,rfl,by omega,fun k hk=>hold k (by omega)⟩ (fun d hd=>?_) rfl (fun b hb=>hold b (hI.cU b hb).2) (fun b o h=>?_)
 ·have hlen:(L++M).length =L.length+M.length:=List.length_append
  have bw:(ei++news++rest).toArray.size =cap*sz:=by
   simp only[List.size_toArray,List.length_append,ho,hn,hr]
   rw[←Nat.add_mul,←Nat.add_mul]
   congr 1
   omega
  have aQ:=aK.sl (w:=w.drew.alloc (.cells (ei++news++rest).toArray te)) (St:=fun b o=>g.St b o∨(b=w.heap.size∧o<(L.length+M.length)*sz)) sz (L++M) w.heap.size 0 cap
   (fun o=>if o<L.length*sz then f o else h (o-L.length*sz)) (by omega) (by omega) (fun x hx=>(List.mem_append.1 hx).elim (hL x) (hM x)) (fun x hx=>(List.mem_append.1 hx).elim (nr x) (jv x))
   (fun o bJ=>by
     rw[hlen]at bJ
     refine⟨?_,.inr ⟨rfl,by omega⟩⟩
     rw[cell_of_row _ w.heap.size (0+o) _ te (0,0) g9]
     simp only[Nat.zero_add,List.getElem?_toArray]
     rw[List.append_assoc,List.getElem?_append]
     split
     ·rename_i h1
      rw[ho]at h1
      rw[if_pos h1];exact qE o h1
     ·rename_i h1
      rw[ho]at h1 ⊢
      rw[if_neg h1]
      have aS:o-L.length*sz<M.length*sz:=by rw[Nat.add_mul]at bJ;omega
      rw[List.getElem?_append_left (by rw[hn];exact aS)]
      exact pq _ aS)
   (fun i x j c hx hc=>(AA hL hx hc hf hh hM).mono fun b o h=>⟨.inl h,tn b o (hI.mJ h)⟩)
  rw[hlen]at aQ
  refine .v _ _ _ ?_
  have gn:=aG.own (w:=w.drew.alloc (.cells (ei++news++rest).toArray te)) (St:=fun b o=>g.St b o∨(b=w.heap.size∧o<(L.length+M.length)*sz)) (base:=w0.heap.size)
   (fT w0.heap.size (w.drew.alloc (.cells (ei++news++rest).toArray te)) {St:=fun b o=>g.St b o∨(b=w.heap.size∧o<(L.length+M.length)*sz),bx:=g.bx,ow:=fun b=>if b=w.heap.size then(dst.map fun d=>.s d 0)else g.ow b} d 0)
   sz (L++M) w.heap.size cap (by rw[hlen];exact aQ) gP ?_
  ·rw[hlen]at gn;exact gn
  ·refine⟨by simp[hd],hle,fun hb=>by have:=(hI.cU _ hb).2;omega,⟨_,te,g9,bw⟩,fun o ho=>?_⟩
   rw[hlen]at ho
   rintro(h|h)
   ·have:=hI.mJ h;omega
   ·omega
 ·rcases h with h|h
  ·have:=hI.bT b o h
   exact⟨this.1,this.2.1,by omega⟩
  ·obtain⟨rfl,_⟩:=h
   exact⟨.inr hle,fun hb=>by have:=(hI.cU _ hb).2;omega,by omega⟩
theorem Inv.room(hI:Inv gl w0 an e a w g){ai:List Slot}{lost:Nat→Prop}{dst:Option Nat}(hH:oS e ai lost dst){sz:Nat}{L M:List D}{cap gg i0:Nat}{news:List Value}
  (ns:fe w0.heap.size w g (.s i0 0) gg (L.length*sz) (cap*sz))(hl:lost i0)
  (rJ:aK w g.St (.sl .ro sz L) (.slice (some ⟨gg,0,none⟩) L.length cap)){cur:Array Value}{te:TypeId}(ko:w.heap[gg]? =some (.cells cur te (0,0)))(bw:cur.size=cap*sz)
  (hM:∀x∈M,x.cells.length=sz)(jv:∀x∈M,∀c∈x.cells,c.one=true)
  (hn:news.length=M.length*sz)(bq:L.length+M.length≤cap)(gP:cap≤maxLen)
  {h:Nat→Value}(pq:∀j,j<M.length*sz→news[j]? =some (h j))(hh:∀(i:Nat)x(j:Nat)c,M[i]? =some x→x.cells[j]? =some c→aK w g.St c (h (i*sz+j))):
  ∃g',Inv gl w0 an ⟨bF ai dst (.v (.own sz (L++M))),e.boxes⟩ (a.put dst (.slice (some ⟨gg,0,none⟩) (L.length+M.length) cap))
   (w.setRow gg (cur.toList.take (L.length*sz)++news++cur.toList.drop (L.length*sz+news.length)).toArray) g':=by
 obtain⟨o1,o2,o3,_,o5⟩:=ns
 have mR:gg<w.heap.size:=(Array.getElem?_eq_some_iff.1 ko).1
 have mK:L.length*sz+M.length*sz≤cap*sz:=by rw[←Nat.add_mul];exact Nat.mul_le_mul_right _ bq
 let w':=w.setRow gg (cur.toList.take (L.length*sz)++news++cur.toList.drop (L.length*sz+news.length)).toArray
 let g':Gh:={St:=fun b o=>g.St b o∨(b=gg∧o<(L.length+M.length)*sz),bx:=g.bx,ow:=fun b=>if b=gg then(dst.map fun d=>.s d 0)else g.ow b}
 have de:∀k,k≠gg→w'.heap[k]? =w.heap[k]? :=fun k hk=>setRow_other w gg k _ hk
 have g9:w'.heap[gg]? =some (.cells (cur.toList.take (L.length*sz)++news++cur.toList.drop (L.length*sz+news.length)).toArray te (0,0)):=setRow_heap w gg cur _ te (0,0) ko
 have j4:∀o,w'.cell? ⟨gg,o,none⟩=if o<L.length*sz then cur[o]? else if o<L.length*sz+M.length*sz then news[o-L.length*sz]? else cur[o]? :=by
  intro o
  rw[cell_of_row w' gg o _ te (0,0) g9]
  simp only[List.getElem?_toArray]
  rw[qP cur.toList news (L.length*sz) (by simp[bw,hn];omega)]
  simp only[hn,Array.getElem?_toList]
 have tn:∀b o,(b=gg→o<L.length*sz)→w'.cell? ⟨b,o,none⟩=w.cell? ⟨b,o,none⟩:=by
  intro b o hb
  by_cases kD:b=gg
  ·subst kD
   rw[j4,if_pos (hb rfl),cell_of_row w b o cur te (0,0) ko]
  ·exact World.cell?_of_block (de b kD)
 have hX:Ext w0.heap.size w g w' g' (uE lost dst):=by
  refine⟨fun D ob hb dh h=>(have bm:D≠gg:=(fun e=>by rw[e,o1]at dh;cases dh);⟨(de D bm).trans h,hb,(by
   show(if D=gg then(dst.map fun d=>Pos.s d 0)else g.ow D)=none
   rw[if_neg bm];exact dh),fun x hx=>hx.elim id fun e=>absurd e.1 bm⟩),fun b o h=>⟨.inl h,tn b o (fun hb=>?_),fun es c hm=>(de b (fun hb=>by rw[hb,ko]at hm;cases hm)).trans hm⟩,fun b o hb=>tn b o (fun h=>by omega),fun _ _ h=>h,fun p b a' c' hp bJ=>?_,fun b c ty hb=>(by
   by_cases kD:b=gg
   ·subst kD
    rw[ko]at hb;cases hb
    refine⟨_,_,g9,?_⟩
    have cz:cur.toList.length=cap*sz:=by simpa using bw
    rw[List.size_toArray,List.length_append,List.length_append,List.length_take,List.length_drop,hn,cz,bw];omega
   ·exact⟨c,ty,(de b kD).trans hb,rfl⟩)⟩
  ·subst hb
   rcases Nat.lt_or_ge o (L.length*sz)with h1|h1
   ·exact h1
   ·exact absurd h (o5 o h1)
  ·obtain⟨h1,h2,h3,⟨lK,ty,h4,kz⟩,h5⟩:=bJ
   have kD:b≠gg:=by
    rintro rfl
    rw[o1]at h1
    cases h1
    exact hp ⟨i0,0,rfl,.inl hl⟩
   refine⟨⟨?_,h2,h3,⟨lK,ty,(de b kD).trans h4,kz⟩,fun o ho=>?_⟩,fun _=>de b kD⟩
   ·show(if b=gg then(dst.map fun d=>Pos.s d 0)else g.ow b)=some p
    rw[if_neg kD];exact h1
   ·rintro(h|h)
    ·exact h5 o ho h
    ·exact kD h.1
 refine⟨g',hI.hand hH hX ⟨rfl,rfl,rfl,by simp[w',World.setRow],fun k hk=>de k (by omega)⟩ (fun d hd=>?_) rfl (fun b hb=>de b (fun h=>o3 (h▸hb))) (fun b o h=>?_)⟩
 ·have hlen:(L++M).length =L.length+M.length:=List.length_append
  cases rJ with
  |iU _ _ _ ha=>exact absurd rfl ha
  |sl _ _ _ _ _ vs LM hm hL nr aN hc=>
   have aQ:=aK.sl (w:=w') (St:=g'.St) sz (L++M) gg 0 cap
    (fun o=>if o<L.length*sz then vs o else h (o-L.length*sz)) (by omega) (by omega) (fun x hx=>(List.mem_append.1 hx).elim (hL x) (hM x)) (fun x hx=>(List.mem_append.1 hx).elim (nr x) (jv x))
    (fun o bJ=>by
      rw[hlen,Nat.add_mul]at bJ
      refine⟨?_,.inr ⟨rfl,by rw[Nat.add_mul];omega⟩⟩
      rw[Nat.zero_add,j4]
      split
      ·rename_i h1
       have:=(aN o h1).1
       rw[Nat.zero_add,cell_of_row w gg o cur te (0,0) ko]at this
       exact this
      ·rename_i h1
       exact pq _ (by omega))
    (fun i x j c hx ib=>(AA hL hx ib hc hh hM).mono hX.MJ)
   refine .v _ _ _ ?_
   have gn:=aG.own (w:=w') (St:=g'.St) (base:=w0.heap.size) (fT w0.heap.size w' g' d 0) sz (L++M) gg cap (by rw[hlen]at aQ ⊢;exact aQ) gP ?_
   ·rw[hlen]at gn;exact gn
   ·refine⟨by simp[g',hd],o2,o3,⟨_,te,g9,?_⟩,fun o ho=>?_⟩
    ·have cz:cur.toList.length=cap*sz:=by simpa using bw
     rw[List.size_toArray,List.length_append,List.length_append,List.length_take,List.length_drop,hn,cz];omega
    ·rw[hlen]at ho
     have:L.length*sz≤(L.length+M.length)*sz:=Nat.mul_le_mul_right _ (by omega)
     rintro(h|h)
     ·exact o5 o (by omega) h
     ·omega
 ·have hs:w'.heap.size=w.heap.size:=by simp[w',World.setRow]
  rcases h with h|h
  ·have:=hI.bT b o h
   exact⟨this.1,this.2.1,by omega⟩
  ·obtain⟨rfl,_⟩:=h
   exact⟨.inr o2,o3,by omega⟩
theorem Inv.LN(hI:Inv gl w0 an e a w g){ai:List Slot}{lost:Nat→Prop}{dst:Option Nat}(hH:oS e ai lost dst){sz:Nat}{L M:List D}{cap:Nat}{te:TypeId}{ei news rest:List Value}
  (hL:∀x∈L,x.cells.length=sz)(hM:∀x∈M,x.cells.length=sz)(nr:∀x∈L,∀c∈x.cells,c.one=true)(jv:∀x∈M,∀c∈x.cells,c.one=true)
  (ho:ei.length=L.length*sz)(hn:news.length=M.length*sz)(hr:rest.length=(cap-(L.length+M.length))*sz)(bq:L.length+M.length≤cap)(gP:cap≤maxLen)
  {f h:Nat→Value}(qE:∀j,j<L.length*sz→ei[j]? =some (f j))(pq:∀j,j<M.length*sz→news[j]? =some (h j))
  (hf:∀(i:Nat)x(j:Nat)c,L[i]? =some x→x.cells[j]? =some c→aK w g.St c (f (i*sz+j)))(hh:∀(i:Nat)x(j:Nat)c,M[i]? =some x→x.cells[j]? =some c→aK w g.St c (h (i*sz+j))):
  ∃g',Inv gl w0 an ⟨bF ai dst (.v (.bj sz (L++M))),e.boxes⟩ (a.put dst (.slice (some ⟨w.heap.size,0,none⟩) (L.length+M.length) cap))
   (w.drew.alloc (.cells (ei++news++rest).toArray te)) g':=by
 have hle:w0.heap.size≤w.heap.size:=hI.below.size
 have aB:(w.drew.alloc (.cells (ei++news++rest).toArray te)).heap.size =w.heap.size+1:=xS w.drew _
 have hold:=fun b(hb:b<w.heap.size)=>iu w.drew (.cells (ei++news++rest).toArray te) b hb
 have g9:=sY w.drew (.cells (ei++news++rest).toArray te)
 have tn:∀b o,b<w.heap.size→(w.drew.alloc (.cells (ei++news++rest).toArray te)).cell? ⟨b,o,none⟩=w.cell? ⟨b,o,none⟩:=fun b o hb=>World.cell?_of_block (hold b hb)
 let g':Gh:={St:=g.St,bx:=g.bx,ow:=fun b=>if b=w.heap.size then(dst.map fun d=>.s d 0)else g.ow b}
 have hX:Ext w0.heap.size w g (w.drew.alloc (.cells (ei++news++rest).toArray te)) g' (uE lost dst):=by
  refine⟨fun D o hb ho h=>⟨(hold D (fo h)).trans h,hb,(by
   show(if D=w.heap.size then(dst.map fun d=>Pos.s d 0)else g.ow D)=none
   rw[if_neg (by have:=fo h;omega)];exact ho),fun x hx=>hx⟩,fun b o h=>⟨h,.pS (hold b (hI.mJ h))⟩,fun b o h=>tn b o (by omega),fun _ _ h=>h,fun p b a' c' _ bJ=>⟨?_,fun _=>hold b bJ.lt⟩,.of fun b hb=>hold b hb⟩
  have aS:=bJ.lt
  obtain⟨h1,h2,h3,⟨cur,ty,h4,kz⟩,h5⟩:=bJ
  refine⟨?_,h2,h3,⟨cur,ty,(hold b aS).trans h4,kz⟩,h5⟩
  show(if b=w.heap.size then(dst.map fun d=>Pos.s d 0)else g.ow b)=some p
  rw[if_neg (by omega)];exact h1
 refine⟨g',hI.hand hH hX ⟨rfl,rfl,rfl,by omega,fun k hk=>hold k (by omega)⟩ (fun d hd=>?_) rfl (fun b hb=>hold b (hI.cU b hb).2) (fun b o h=>?_)⟩
 ·have hlen:(L++M).length =L.length+M.length:=List.length_append
  have bw:(ei++news++rest).toArray.size =cap*sz:=by
   simp only[List.size_toArray,List.length_append,ho,hn,hr]
   rw[←Nat.add_mul,←Nat.add_mul]
   congr 1
   omega
  refine .v _ _ _ ?_
  have hm:=aG.bj (w:=w.drew.alloc (.cells (ei++news++rest).toArray te)) (St:=g.St) (base:=w0.heap.size) (fT w0.heap.size (w.drew.alloc (.cells (ei++news++rest).toArray te)) g' d 0)
   sz (L++M) w.heap.size cap (fun o=>if o<L.length*sz then f o else h (o-L.length*sz)) (by omega) gP (fun x hx=>(List.mem_append.1 hx).elim (hL x) (hM x)) (fun x hx=>(List.mem_append.1 hx).elim (nr x) (jv x))
   ⟨by simp[g',hd],hle,fun hb=>by have:=(hI.cU _ hb).2;omega,⟨_,te,g9,bw⟩,fun o _ hs=>by have:=hI.mJ hs;omega⟩
   (fun o bJ=>by
     rw[hlen]at bJ
     rw[cell_of_row _ w.heap.size o _ te (0,0) g9]
     simp only[List.getElem?_toArray]
     rw[List.append_assoc,List.getElem?_append]
     split
     ·rename_i h1
      rw[ho]at h1
      rw[if_pos h1];exact qE o h1
     ·rename_i h1
      rw[ho]at h1 ⊢
      rw[if_neg h1]
      have aS:o-L.length*sz<M.length*sz:=by rw[Nat.add_mul]at bJ;omega
      rw[List.getElem?_append_left (by rw[hn];exact aS)]
      exact pq _ aS)
   (fun i x j c hx hc=>(AA hL hx hc hf hh hM).mono fun b o h=>⟨h,tn b o (hI.mJ h)⟩)
  rw[hlen]at hm
  exact hm
 ·have:=hI.bT b o h
  exact⟨this.1,this.2.1,by omega⟩
theorem Inv.VA(hI:Inv gl w0 an e a w g){ai:List Slot}{lost:Nat→Prop}{dst:Option Nat}(hH:oS e ai lost dst){sz:Nat}{L M:List D}{cap gg i0:Nat}{news:List Value}
  (ns:fe w0.heap.size w g (.s i0 0) gg 0 (cap*sz))(hl:lost i0){vs:Nat→Value}
  (hL:∀x∈L,x.cells.length=sz)(nr:∀x∈L,∀c∈x.cells,c.one=true)(aN:∀(o:Nat),o<L.length*sz→w.cell? ⟨gg,o,none⟩=some (vs o))
  (hc:∀(i:Nat)x(j:Nat)c,L[i]? =some x→x.cells[j]? =some c→aK w g.St c (vs (i*sz+j))){cur:Array Value}{te:TypeId}(ko:w.heap[gg]? =some (.cells cur te (0,0)))(bw:cur.size=cap*sz)
  (hM:∀x∈M,x.cells.length=sz)(jv:∀x∈M,∀c∈x.cells,c.one=true)
  (hn:news.length=M.length*sz)(bq:L.length+M.length≤cap)(gP:cap≤maxLen)
  {h:Nat→Value}(pq:∀j,j<M.length*sz→news[j]? =some (h j))(hh:∀(i:Nat)x(j:Nat)c,M[i]? =some x→x.cells[j]? =some c→aK w g.St c (h (i*sz+j))):
  ∃g',Inv gl w0 an ⟨bF ai dst (.v (.bj sz (L++M))),e.boxes⟩ (a.put dst (.slice (some ⟨gg,0,none⟩) (L.length+M.length) cap))
   (w.setRow gg (cur.toList.take (L.length*sz)++news++cur.toList.drop (L.length*sz+news.length)).toArray) g':=by
 obtain⟨o1,o2,o3,_,o5⟩:=ns
 have mR:gg<w.heap.size:=(Array.getElem?_eq_some_iff.1 ko).1
 have mK:L.length*sz+M.length*sz≤cap*sz:=by rw[←Nat.add_mul];exact Nat.mul_le_mul_right _ bq
 let w':=w.setRow gg (cur.toList.take (L.length*sz)++news++cur.toList.drop (L.length*sz+news.length)).toArray
 let g':Gh:={St:=g.St,bx:=g.bx,ow:=fun b=>if b=gg then(dst.map fun d=>.s d 0)else g.ow b}
 have de:∀k,k≠gg→w'.heap[k]? =w.heap[k]? :=fun k hk=>setRow_other w gg k _ hk
 have g9:w'.heap[gg]? =some (.cells (cur.toList.take (L.length*sz)++news++cur.toList.drop (L.length*sz+news.length)).toArray te (0,0)):=setRow_heap w gg cur _ te (0,0) ko
 have j4:∀o,w'.cell? ⟨gg,o,none⟩=if o<L.length*sz then cur[o]? else if o<L.length*sz+M.length*sz then news[o-L.length*sz]? else cur[o]? :=by
  intro o
  rw[cell_of_row w' gg o _ te (0,0) g9]
  simp only[List.getElem?_toArray]
  rw[qP cur.toList news (L.length*sz) (by simp[bw,hn];omega)]
  simp only[hn,Array.getElem?_toList]
 have WE:∀b o,g.St b o→b≠gg:=fun b o h e=>by subst e;exact o5 o (Nat.zero_le _) h
 have yw:(cur.toList.take (L.length*sz)++news++cur.toList.drop (L.length*sz+news.length)).toArray.size =cap*sz:=by
  have cz:cur.toList.length=cap*sz:=by simpa using bw
  rw[List.size_toArray,List.length_append,List.length_append,List.length_take,List.length_drop,hn,cz];omega
 have hX:Ext w0.heap.size w g w' g' (uE lost dst):=by
  refine⟨fun D ob hb dh h=>(have bm:D≠gg:=(fun e=>by rw[e,o1]at dh;cases dh);⟨(de D bm).trans h,hb,(by
   show(if D=gg then(dst.map fun d=>Pos.s d 0)else g.ow D)=none
   rw[if_neg bm];exact dh),fun x hx=>hx⟩),fun b o h=>⟨h,.pS (de b (WE b o h))⟩,fun b o hb=>World.cell?_of_block (de b (fun h=>by omega)),fun _ _ h=>h,fun p b a' c' hp bJ=>?_,fun b c ty hb=>(by
   by_cases kD:b=gg
   ·subst kD
    rw[ko]at hb;cases hb
    exact⟨_,_,g9,yw.trans bw.symm⟩
   ·exact⟨c,ty,(de b kD).trans hb,rfl⟩)⟩
  obtain⟨h1,h2,h3,⟨lK,ty,h4,kz⟩,h5⟩:=bJ
  have kD:b≠gg:=by
   rintro rfl
   rw[o1]at h1
   cases h1
   exact hp ⟨i0,0,rfl,.inl hl⟩
  refine⟨⟨?_,h2,h3,⟨lK,ty,(de b kD).trans h4,kz⟩,h5⟩,fun _=>de b kD⟩
  show(if b=gg then(dst.map fun d=>Pos.s d 0)else g.ow b)=some p
  rw[if_neg kD];exact h1
 refine⟨g',hI.hand hH hX ⟨rfl,rfl,rfl,by simp[w',World.setRow],fun k hk=>de k (by omega)⟩ (fun d hd=>?_) rfl (fun b hb=>de b (fun h=>o3 (h▸hb))) (fun b o h=>?_)⟩
 ·have hlen:(L++M).length =L.length+M.length:=List.length_append
  refine .v _ _ _ ?_
  have hm:=aG.bj (w:=w') (St:=g.St) (base:=w0.heap.size) (fT w0.heap.size w' g' d 0)
   sz (L++M) gg cap (fun o=>if o<L.length*sz then vs o else h (o-L.length*sz)) (by omega) gP (fun x hx=>(List.mem_append.1 hx).elim (hL x) (hM x)) (fun x hx=>(List.mem_append.1 hx).elim (nr x) (jv x))
   ⟨by simp[g',hd],o2,o3,⟨_,te,g9,yw⟩,fun o _ hs=>o5 o (Nat.zero_le _) hs⟩
   (fun o bJ=>by
     rw[hlen,Nat.add_mul]at bJ
     rw[j4]
     split
     ·rename_i h1
      have:=aN o h1
      rw[cell_of_row w gg o cur te (0,0) ko]at this
      exact this
     ·rename_i h1
      exact pq _ (by omega))
   (fun i x j c hx ib=>(AA hL hx ib hc hh hM).mono hX.MJ)
  rw[hlen]at hm
  exact hm
 ·have hs:w'.heap.size=w.heap.size:=by simp[w',World.setRow]
  have:=hI.bT b o h
  exact⟨this.1,this.2.1,by omega⟩
theorem PQ{t:TypeId}{z:List D}(h:jB P t=some z):∃i zv,P.info? t=some i∧i.zero=some zv∧zv.cells.size=z.length:=by
 unfold jB at h
 split at h
 ·rename_i i hi
  split at h
  ·rename_i zv hz
   exact⟨i,zv,hi,hz,by have:=(xP (w:=default) (St:=fun _ _=>False) h).1;simpa using this.symm⟩
  ·cases h
 ·cases h
theorem z6(z:Array Value)(n:Nat):∃l:List Value,Builtin.zeroCells z n=l.toArray∧l.length=n*z.size:=by
 refine⟨(Builtin.zeroCells z n).toList,by simp,by simp[size_zeroCells]⟩
theorem O9(hI:Inv gl w0 an e a w g){ai:List Slot}{lost:Nat→Prop}{dst:Option Nat}(hH:oS e ai lost dst){t ty e':TypeId}{i:TypeInfo}{zv:Value}{sz:Nat}
  (ht:P.underlying t=some (.slice e'))(hi:P.info? e'=some i)(hz:i.zero=some zv)(aB:i.size=sz)(fA:zv.cells.size=sz)(w7:0<sz)
  {sx sy:SV}{vx vy:Value}{O Oy:Nat→Nat→Nat→Prop}(rx:aG w g.St w0.heap.size O sx vx)(ry:aG w g.St w0.heap.size Oy sy vy)
  (hO:∀b a' c,O b a' c→∃i0,fe w0.heap.size w g (.s i0 0) b a' c∧lost i0){r:SV}{n:Nat}(h:kU sz sx sy=some (r,n))(hb:n*i.bytes≤140737488355328)(gS:0<i.bytes):
  ∃v w' g',(Builtin.append_ #[t,t] ty #[vx,vy]).run P w=.ok v w'∧Inv gl w0 an ⟨bF ai dst (.v r),e.boxes⟩ (a.put dst v) w' g':=by
 subst aB
 unfold kU at h
 split at h
 ·cases h
 ·rename_i M hM
  have hy:=Ib hM ry
  have VB:M=[]→vy=.slice none 0 0∨∃ad c,vy=.slice (some ad) 0 c:=by
   intro hm
   subst hm
   rcases hy with⟨h,_⟩|⟨b,off,cap,vs,h,_⟩
   ·exact h
   ·exact .inr ⟨_,_,h⟩
  have same:∀(base:Option Addr)(m cap:Nat),M=[]→m≤cap→vx=.slice base m cap→∀(r:SV)(g':Gh),Ext w0.heap.size w g w g' (uE lost dst)→g'.bx=g.bx→g'.St=g.St→
    (∀d,dst=some d→aG w g'.St w0.heap.size (fT w0.heap.size w g' d 0) r vx)→
    ∃v w' g',(Builtin.append_ #[t,t] ty #[vx,vy]).run P w=.ok v w'∧Inv gl w0 an ⟨bF ai dst (.v r),e.boxes⟩ (a.put dst v) w' g':=by
   intro base m cap hm hle hv r g' hX cR bB hr
   refine⟨vx,w,g',by rw[hv];exact Ov ht hi base m cap hle (VB hm),hI.hand hH hX (Below.refl _ _) (fun d hd=>.v _ _ _ (hr d hd)) cR (fun _ _=>rfl) (fun b o h=>?_)⟩
   rw[bB]at h
   exact hI.bT b o h
  have grow:∀(L:List D)(ad:Addr)(cap:Nat),M≠[]→vx=.slice (some ad) L.length cap→aK w g.St (.sl .ro i.size L) vx→cap<L.length+M.length→(L.length+M.length)*i.bytes≤140737488355328→
    ∃v w' g',(Builtin.append_ #[t,t] ty #[vx,vy]).run P w=.ok v w'∧Inv gl w0 an ⟨bF ai dst (.v (.own i.size (L++M))),e.boxes⟩ (a.put dst v) w' g':=by
   intro L ad cap hm hv hL aS cD
   rcases hy with⟨_,h0⟩|⟨b,off,rK,ys,oa,_,_,jN,jv,tL,jc⟩
   ·exact absurd h0 hm
   ·rw[hv]at hL
    cases hL with
    |iU _ _ _ ha=>
     obtain⟨news,nl,nc,ng⟩:=uh (w:=w) (n:=M.length) (sz:=i.size) (vs:=ys) tL
     have bH:(0+M.length)*1≤(0+M.length)*i.bytes:=Nat.mul_le_mul_left _ gS
     simp only[List.length_nil]at aS cD
     have kn:0+M.length≤maxLen:=by simp only[maxLen];omega
     have aU:=run_append_grow (P:=P) w t ty e' i zv ht hi hz ad 0 cap [] (by simp) (by simp) ⟨b,off,none⟩ M.length rK news nl nc aS (by omega) (growslice_fits aS cD)
     obtain⟨rest,pr,tM⟩:=z6 zv.cells (grownCap w (0+M.length) cap e'-(0+M.length))
     rw[pr]at aU
     have kB:=grownCap_ge w (0+M.length) cap e'
     obtain⟨g',ig⟩:=hI.grow hH (sz:=i.size) (L:=[]) (M:=M) (cap:=grownCap w (0+M.length) cap e') (te:=e') (ei:=[]) (news:=news) (rest:=rest) (f:=fun _=>.bool false) (by simp) jN (by simp) jv (by simp) nl (by rw[tM,fA];rfl) kB
      (grownCap_le_maxLen w _ cap e' kn) (by simp) ng (by simp) jc
     refine⟨_,_,g',by rw[hv,oa];exact aU,?_⟩
     simpa using ig
    |sl _ _ bx ox _ vs bq nt zw nr iD tN=>
     obtain⟨ei,ol,oc,og⟩:=uh (w:=w) (n:=L.length) (sz:=i.size) (vs:=vs) iD
     obtain⟨news,nl,nc,ng⟩:=uh (w:=w) (n:=M.length) (sz:=i.size) (vs:=ys) tL
     have bH:(L.length+M.length)*1≤(L.length+M.length)*i.bytes:=Nat.mul_le_mul_left _ gS
     have kn:L.length+M.length≤maxLen:=by simp only[maxLen];omega
     have aU:=run_append_grow (P:=P) w t ty e' i zv ht hi hz ⟨bx,ox,none⟩ L.length cap ei ol oc ⟨b,off,none⟩ M.length rK news nl nc aS (by omega) (growslice_fits aS cD)
     obtain⟨rest,pr,tM⟩:=z6 zv.cells (grownCap w (L.length+M.length) cap e'-(L.length+M.length))
     rw[pr]at aU
     have kB:=grownCap_ge w (L.length+M.length) cap e'
     obtain⟨g',ig⟩:=hI.grow hH (sz:=i.size) (L:=L) (M:=M) (cap:=grownCap w (L.length+M.length) cap e') (te:=e') (ei:=ei) (news:=news) (rest:=rest) zw jN nr jv ol nl (by rw[tM,fA]) kB
      (grownCap_le_maxLen w _ cap e' kn) og ng tN jc
     refine⟨_,_,g',by rw[hv,oa];exact aU,?_⟩
     simpa using ig
  split at h
  ·
   rename_i s L
   split at h
   ·rename_i hs
    cases h
    subst hs
    cases rx with
    |own _ _ _ gg cap rJ gP ho=>
     obtain⟨i0,ns,hl⟩:=hO _ _ _ ho
     by_cases hm:M=[]
     ·subst hm
      simp only[List.append_nil]
      have bq:L.length≤cap:=by cases rJ with|sl _ _ _ _ _ _ bq=>exact bq|iU _ _ _ ha=>exact absurd rfl ha
      cases dst with
      |none=>
       refine same _ _ _ rfl bq rfl _ g ⟨fun _ _ hb ho h=>⟨h,hb,ho,fun _ h=>h⟩,fun _ _ h=>(by first|exact⟨h,rfl⟩|exact⟨h,.refl _ _ _⟩),fun _ _ _=>rfl,fun _ _ h=>h,fun _ _ _ _ _ h=>⟨h,.refl _ _ _⟩,.refl _⟩ rfl rfl (fun d hd=>by cases hd)
      |some d=>
       refine same _ _ _ rfl bq rfl _ (g.mv gg (.s d 0)) (Ext.mv ns hl _ _) rfl rfl (fun d' hd=>?_)
       cases hd
       refine .own _ i.size L gg cap rJ gP ?_
       obtain⟨_,h2,h3,h4,h5⟩:=ns
       exact⟨by simp[Gh.mv],h2,h3,h4,h5⟩
     ·by_cases rz:L.length+M.length≤cap
      ·rcases hy with⟨_,h0⟩|⟨b,off,rK,ys,oa,_,_,jN,jv,tL,jc⟩
       ·exact absurd h0 hm
       ·obtain⟨news,nl,nc,ng⟩:=uh (w:=w) (n:=M.length) (sz:=i.size) (vs:=ys) tL
        have E1:=ns
        obtain⟨_,_,_,⟨cur,te,ko,bw⟩,_⟩:=E1
        have n9:∀u∈news,u.oneCell'=true:=by
         intro u hu
         obtain⟨j,hj⟩:=List.mem_iff_getElem?.1 hu
         have jd:j<M.length*i.size:=by rw[←nl];exact(List.getElem?_eq_some_iff.1 hj).1
         rw[ng j jd]at hj
         cases hj
         have hq:j / i.size<M.length:=Nat.div_lt_of_lt_mul (by rw[Nat.mul_comm];exact jd)
         have uQ:=Nat.mod_lt j w7
         have dq:M[j / i.size]∈M:=List.getElem_mem hq
         have cz:=jN _ dq
         have hc:(M[j / i.size]).cells[j % i.size]? =some ((M[j / i.size]).cells[j % i.size]'(by omega)):=by simp
         have:=jc (j / i.size) _ (j % i.size) _ (List.getElem?_eq_getElem hq) hc
         rw[Nat.mul_comm,Nat.div_add_mod]at this
         exact this.pX (jv _ dq _ (List.getElem_mem _))
        have mK:L.length*i.size+news.length≤cur.size:=by rw[nl,bw,←Nat.add_mul];exact Nat.mul_le_mul_right _ rz
        have aU:=HB (P:=P) (w:=w) (ty:=ty) ht hi ko (ad:=⟨b,off,none⟩) (m:=M.length) (c:=rK) news nl nc n9 rz mK
        obtain⟨g',ig⟩:=hI.room hH ns hl rJ ko bw jN jv nl rz gP ng jc
        exact⟨_,_,g',by rw[oa];exact aU,ig⟩
      ·exact grow L ⟨gg,0,none⟩ cap hm rfl rJ (by omega) hb
   ·cases h
  ·
   rename_i s L
   split at h
   ·rename_i hs
    subst hs
    cases rx with
    |full _ _ _ ad rJ=>
     split at h
     ·rename_i hm
      cases h
      exact same _ _ _ hm (Nat.le_refl _) rfl _ g ⟨fun _ _ hb ho h=>⟨h,hb,ho,fun _ h=>h⟩,fun _ _ h=>(by first|exact⟨h,rfl⟩|exact⟨h,.refl _ _ _⟩),fun _ _ _=>rfl,fun _ _ h=>h,fun _ _ _ _ _ h=>⟨h,.refl _ _ _⟩,.refl _⟩ rfl rfl (fun d hd=>.full _ i.size L ad rJ)
     ·rename_i hm
      cases h
      have:0<M.length:=List.length_pos_iff.2 hm
      exact grow L ad L.length hm rfl rJ (by omega) hb
   ·cases h
  ·
   have hd:=rx.data
   split at h
   ·rename_i hm
    cases h
    cases hd
    exact same none 0 0 hm (Nat.le_refl _) rfl _ g ⟨fun _ _ hb ho h=>⟨h,hb,ho,fun _ h=>h⟩,fun _ _ h=>(by first|exact⟨h,rfl⟩|exact⟨h,.refl _ _ _⟩),fun _ _ _=>rfl,fun _ _ h=>h,fun _ _ _ _ _ h=>⟨h,.refl _ _ _⟩,.refl _⟩ rfl rfl (fun d hd=>.d _ _ _ (.iT _))
   ·rename_i hm
    cases h
    cases hd
    rcases hy with⟨_,h0⟩|⟨b,off,rK,ys,oa,_,_,jN,jv,tL,jc⟩
    ·exact absurd h0 hm
    ·obtain⟨news,nl,nc,ng⟩:=uh (w:=w) (n:=M.length) (sz:=i.size) (vs:=ys) tL
     have h0:0<M.length:=List.length_pos_iff.2 hm
     have bH:M.length*1≤M.length*i.bytes:=Nat.mul_le_mul_left _ gS
     have kn:M.length≤maxLen:=by simp only[maxLen];omega
     have aU:=run_append_nil (P:=P) w t ty e' i zv ht hi hz ⟨b,off,none⟩ M.length rK news nl nc h0 (by omega) (by omega)
     obtain⟨rest,pr,tM⟩:=z6 zv.cells (grownCap w M.length 0 e'-M.length)
     rw[pr]at aU
     have kB:=grownCap_ge w M.length 0 e'
     rename_i mk _ _
     cases B9:Nat.beq mk wz with
     |false=>
      obtain⟨g',ig⟩:=hI.grow hH (sz:=i.size) (L:=[]) (M:=M) (cap:=grownCap w M.length 0 e') (te:=e') (ei:=[]) (news:=news) (rest:=rest) (by simp) jN (by simp) jv (by simp) nl (by rw[tM,fA];simp) (by simpa using kB)
       (grownCap_le_maxLen w _ 0 e' kn) (f:=fun _=>undef) (by simp) ng (by simp) jc
      refine⟨_,_,g',by rw[oa];exact aU,?_⟩
      simpa using ig
     |true=>
      obtain⟨g',ig⟩:=hI.LN hH (sz:=i.size) (L:=[]) (M:=M) (cap:=grownCap w M.length 0 e') (te:=e') (ei:=[]) (news:=news) (rest:=rest) (by simp) jN (by simp) jv (by simp) nl (by rw[tM,fA];simp) (by simpa using kB)
       (grownCap_le_maxLen w _ 0 e' kn) (f:=fun _=>undef) (by simp) ng (by simp) jc
      refine⟨_,_,g',by rw[oa];exact aU,?_⟩
      simpa using ig
  ·
   rename_i s L
   split at h
   ·rename_i hs
    cases h
    subst hs
    cases rx with
    |bj _ _ _ gg cap vs bq gP zw nr ho iD tN=>
     obtain⟨i0,ns,hl⟩:=hO _ _ _ ho
     by_cases hm:M=[]
     ·subst hm
      simp only[List.append_nil]
      cases dst with
      |none=>
       refine same _ _ _ rfl bq rfl _ g ⟨fun _ _ hb ho h=>⟨h,hb,ho,fun _ h=>h⟩,fun _ _ h=>⟨h,.refl _ _ _⟩,fun _ _ _=>rfl,fun _ _ h=>h,fun _ _ _ _ _ h=>⟨h,.refl _ _ _⟩,.refl _⟩ rfl rfl (fun d hd=>by cases hd)
      |some d=>
       refine same _ _ _ rfl bq rfl _ (g.mv gg (.s d 0)) (Ext.mv ns hl _ _) rfl rfl (fun d' hd=>?_)
       cases hd
       refine .bj _ i.size L gg cap vs bq gP zw nr ?_ iD tN
       obtain⟨_,h2,h3,h4,h5⟩:=ns
       exact⟨by simp[Gh.mv],h2,h3,h4,h5⟩
     ·rcases hy with⟨_,h0⟩|⟨b,off,rK,ys,oa,_,_,jN,jv,tL,jc⟩
      ·exact absurd h0 hm
      ·obtain⟨news,nl,nc,ng⟩:=uh (w:=w) (n:=M.length) (sz:=i.size) (vs:=ys) tL
       have E1:=ns
       obtain⟨_,_,_,⟨cur,te,ko,bw⟩,_⟩:=E1
       by_cases rz:L.length+M.length≤cap
       ·have n9:∀u∈news,u.oneCell'=true:=by
         intro u hu
         obtain⟨j,hj⟩:=List.mem_iff_getElem?.1 hu
         have jd:j<M.length*i.size:=by rw[←nl];exact(List.getElem?_eq_some_iff.1 hj).1
         rw[ng j jd]at hj
         cases hj
         have hq:j / i.size<M.length:=Nat.div_lt_of_lt_mul (by rw[Nat.mul_comm];exact jd)
         have uQ:=Nat.mod_lt j w7
         have dq:M[j / i.size]∈M:=List.getElem_mem hq
         have cz:=jN _ dq
         have hc:(M[j / i.size]).cells[j % i.size]? =some ((M[j / i.size]).cells[j % i.size]'(by omega)):=by simp
         have:=jc (j / i.size) _ (j % i.size) _ (List.getElem?_eq_getElem hq) hc
         rw[Nat.mul_comm,Nat.div_add_mod]at this
         exact this.pX (jv _ dq _ (List.getElem_mem _))
        have mK:L.length*i.size+news.length≤cur.size:=by rw[nl,bw,←Nat.add_mul];exact Nat.mul_le_mul_right _ rz
        have aU:=HB (P:=P) (w:=w) (ty:=ty) ht hi ko (ad:=⟨b,off,none⟩) (m:=M.length) (c:=rK) news nl nc n9 rz mK
        obtain⟨g',ig⟩:=hI.VA hH ns hl zw nr iD tN ko bw jN jv nl rz gP ng jc
        exact⟨_,_,g',by rw[oa];exact aU,ig⟩
       ·obtain⟨ei,ol,oc,og⟩:=uh (w:=w) (b:=gg) (off:=0) (St:=fun _ _=>True) (n:=L.length) (sz:=i.size) (vs:=vs) (fun o ho=>⟨by rw[Nat.zero_add];exact iD o ho,trivial⟩)
        have bH:(L.length+M.length)*1≤(L.length+M.length)*i.bytes:=Nat.mul_le_mul_left _ gS
        have kn:L.length+M.length≤maxLen:=by simp only[maxLen];omega
        have aU:=run_append_grow (P:=P) w t ty e' i zv ht hi hz ⟨gg,0,none⟩ L.length cap ei ol oc ⟨b,off,none⟩ M.length rK news nl nc (by omega) (by omega) (growslice_fits (by omega) hb)
        obtain⟨rest,pr,tM⟩:=z6 zv.cells (grownCap w (L.length+M.length) cap e'-(L.length+M.length))
        rw[pr]at aU
        have kB:=grownCap_ge w (L.length+M.length) cap e'
        obtain⟨g',ig⟩:=hI.LN hH (sz:=i.size) (L:=L) (M:=M) (cap:=grownCap w (L.length+M.length) cap e') (te:=e') (ei:=ei) (news:=news) (rest:=rest) zw jN nr jv ol nl (by rw[tM,fA]) kB
         (grownCap_le_maxLen w _ cap e' kn) og ng tN jc
        refine⟨_,_,g',by rw[oa];exact aU,?_⟩
        simpa using ig
   ·cases h
  ·cases h
end
end Go.Proofs.Ytaknajjmldngiaa.Ab
namespace Go.Proofs.Ytaknajjmldngiaa.Ab
open Go Go.RowKit
section
variable{P:Program}{gl:Nat→Option D}{w0:World}{an:S0}{e:Env}{a:Act}{w:World}{g:Gh}
theorem vW(f:Slot→SV):∀(l:List Slot),(gE f l).length =l.length∧∀(i:Nat),(gE f l)[i]? =(l[i]?).map f
 |[]=>⟨rfl,fun i=>by simp[gE]⟩
 |s::l=>by
  obtain⟨h1,h2⟩:=vW f l
  refine⟨by simp[gE,h1],fun i=>?_⟩
  cases i with
  |zero=>rfl
  |succ i=>simp only[gE,List.getElem?_cons_succ];exact h2 i
theorem aG.xX{St:Nat→Nat→Prop}{base yx:Nat}(hb:base≤yx){O:Nat→Nat→Nat→Prop}{y:SV}{v:Value}(h:aG w St base O y v):aG w St yx O y v:=by
 induction h with
 |d O x v hd=>exact .d O x v hd
 |own O sz L gg cap hd bq ho=>exact .own O sz L gg cap hd bq ho
 |full O sz L ad hd=>exact .full O sz L ad hd
 |ref O cs off b o vs di aN _ ih=>exact .ref O cs off b o vs (Nat.lt_of_lt_of_le di hb) aN ih
 |ev O n sz cs b cap vs di hn hm aN _ ih=>exact .ev O n sz cs b cap vs (Nat.lt_of_lt_of_le di hb) hn hm aN ih
 |aE O x off b o vs hf aN hc=>exact .aE O x off b o vs hf aN hc
 |dg O f first cap fv cv h1 h2 _ _ X6 X7=>exact .dg O f first cap fv cv h1 h2 X6 X7
 |bj O sz L gg cap vs h1 h2 h3 h4 h5 h6 h7=>exact .bj O sz L gg cap vs h1 h2 h3 h4 h5 h6 h7
 |mp O l r es clock hh hs hl hc=>exact .mp O l r es clock hh hs hl hc
 |undef O v=>exact .undef O v
theorem JQ(hI:Inv gl w0 an e a w g):∀(n:Nat){O:Nat→Nat→Nat→Nat→Prop}{s:Slot}{v:Value},bM w0.heap.size w g O s v→aG w g.St w.heap.size (fun _ _ _=>False) (snap e.boxes n s) v:=by
 have up:∀{O x v},aG w g.St w0.heap.size O x v→aG w g.St w.heap.size (fun _ _ _=>False) (aa x) v:=by
  intro O x v h
  exact(h.aa (O':=fun _ _ _=>False)).xX hI.below.size
 intro n
 induction n with
 |zero=>intro O s v _;exact .undef _ _
 |succ n ih=>
  intro O s v h
  cases h with
  |a _ b m sz v hm hb=>
   obtain⟨aj,cap,hb,bq,rfl,gP,_⟩:=hb
   simp only[snap]
   split
   ·rename_i cs bw
    obtain⟨h0,c,t,hc,bz,hlen,aQ⟩:=hI.boxes b _ aj bw hb
    have gp:=(hI.cU aj (List.mem_of_getElem? hb)).2
    exact aG.ev (w:=w) (St:=g.St) (base:=w.heap.size) (fun _ _ _=>False) m sz (cs.map aa) aj cap (fun i=>c.getD i undef) gp bq gP
     (fun i hi=>by
       have vd:i<cs.length:=by simpa using hi
       have dp:i<c.size:=Nat.lt_of_lt_of_le vd hlen
       rw[cell_of_row w aj (0+i) c t (0,0) hc]
       simp[dp]
       exact bz i _ vd (by simp))
     (fun i x hx=>by
       simp only[List.getElem?_map,Option.map_eq_some_iff]at hx
       obtain⟨y,hy,rfl⟩:=hx
       have dp:i<c.size:=Nat.lt_of_lt_of_le (List.getElem?_eq_some_iff.1 hy).1 hlen
       have h1:=aQ i y c[i] hy (by simp)
       have h2:=up h1
       simpa[dp]using h2)
   ·exact .undef _ _
  |m _ b aj hb=>simp only[snap];exact .undef _ _
  |v _ x _ h=>simp only[snap];exact up h
  |p _ b off aj hb=>
   simp only[snap]
   split
   ·rename_i cs bw
    obtain⟨h0,c,t,hc,bz,hlen,aQ⟩:=hI.boxes b _ aj bw hb
    have gp:=(hI.cU aj (List.mem_of_getElem? hb)).2
    have:=aG.ref (w:=w) (St:=g.St) (base:=w.heap.size) (fun _ _ _=>False) (cs.map aa) off aj 0 (fun i=>c.getD i undef) gp
     (fun i hi=>by
       have vd:i<cs.length:=by simpa using hi
       have dp:i<c.size:=Nat.lt_of_lt_of_le vd hlen
       rw[cell_of_row w aj (0+i) c t (0,0) hc]
       simp[dp]
       exact bz i _ vd (by simp))
     (fun i x hx=>by
       simp only[List.getElem?_map,Option.map_eq_some_iff]at hx
       obtain⟨y,hy,rfl⟩:=hx
       have dp:i<c.size:=Nat.lt_of_lt_of_le (List.getElem?_eq_some_iff.1 hy).1 hlen
       have h1:=aQ i y c[i] hy (by simp)
       have h2:=up h1
       simpa[dp]using h2)
    simpa using this
   ·rename_i s' ew
    obtain⟨h0,c,t,hc,bz,hlen,aQ⟩:=hI.boxes b _ aj ew hb
    have gp:=(hI.cU aj (List.mem_of_getElem? hb)).2
    have kZ:c[0]? =some (c[0]'(by omega)):=by simp
    have:=aG.ref (w:=w) (St:=g.St) (base:=w.heap.size) (fun _ _ _=>False) [snap e.boxes n s'] off aj 0 (fun i=>c.getD i undef) gp
     (fun i hi=>by
       simp at hi;subst hi
       rw[cell_of_row w aj (0+0) c t (0,0) hc]
       simp[hlen]
       exact bz 0 _ Nat.one_pos (by simp))
     (fun i x hx=>by
       cases i with
       |succ i=>simp at hx
       |zero=>
        simp at hx;subst hx
        have:=ih (aQ _ kZ)
        simpa[hlen]using this)
    simpa using this
   ·exact .undef _ _
  |c _ f first cap fv cv hf hc rf rc=>
   simp only[snap]
   obtain⟨l1,g1⟩:=vW (snap e.boxes n) first
   obtain⟨l2,g2⟩:=vW (snap e.boxes n) cap
   refine .dg _ f _ _ fv cv (l1.trans hf) (l2.trans hc) (fun i x v hx hv=>?_) (fun i x v hx hv=>?_)
   ·rw[g1,Option.map_eq_some_iff]at hx
    obtain⟨y,hy,rfl⟩:=hx
    exact ih (rf i y v hy hv)
   ·rw[g2,Option.map_eq_some_iff]at hx
    obtain⟨y,hy,rfl⟩:=hx
    exact ih (rc i y v hy hv)
  |t _ xs vs _ _=>simp only[snap];exact .undef _ _
theorem Iw(ak:List af)(ρ:Operand→Slot):∀(l:List Operand),(iz ak ρ l).length =l.length∧∀(i:Nat),(iz ak ρ l)[i]? =(l[i]?).map fun x=>snap ak 6 (ρ x)
 |[]=>⟨rfl,fun i=>by simp[iz]⟩
 |s::l=>by
  obtain⟨h1,h2⟩:=Iw ak ρ l
  refine⟨by simp[iz,h1],fun i=>?_⟩
  cases i with
  |zero=>rfl
  |succ i=>simp only[iz,List.getElem?_cons_succ];exact h2 i
def pY(w:World)(St:Nat→Nat→Prop)(args:List SV)(vs:Array Value):Prop:=
 args.length=vs.size∧∀(i:Nat)x v,args[i]? =some x→vs[i]? =some v→aG w St w.heap.size (fun _ _ _=>False) x v
theorem pY.append{St:Nat→Nat→Prop}{xs ys:List SV}{us vs:Array Value}(h:pY w St xs us)(k:pY w St ys vs):pY w St (xs++ys) (us++vs):=by
 refine⟨by simp[h.1,k.1],fun i x v hx hv=>?_⟩
 rw[List.getElem?_append]at hx
 rw[Array.getElem?_append]at hv
 split at hx
 ·rename_i hi
  rw[if_pos (by rw[←h.1];exact hi)]at hv
  exact h.2 i x v hx hv
 ·rename_i hi
  rw[if_neg (by rw[←h.1];exact hi),←h.1]at hv
  exact k.2 _ x v hx hv
theorem JR(hI:Inv gl w0 an e a w g)(l:Array Operand):pY w g.St (iz e.boxes (fun x=>(Ab.aJ gl e x).aa) l.toList) (l.map a.eval):=by
 obtain⟨h1,h2⟩:=Iw e.boxes (fun x=>(Ab.aJ gl e x).aa) l.toList
 refine⟨by rw[h1];simp,fun i x v hx hv=>?_⟩
 rw[h2,Option.map_eq_some_iff]at hx
 obtain⟨y,hy,rfl⟩:=hx
 rw[Array.getElem?_toList]at hy
 simp only[Array.getElem?_map,hy,Option.map_some,Option.some.injEq]at hv
 subst hv
 exact JQ hI 6 (hI.aJ y)
theorem HX(hI:Inv gl w0 an e a w g){l:List Slot}{vs:Array Value}(hl:l.length=vs.size)(h:∀(i:Nat)x v,l[i]? =some x→vs[i]? =some v→bM w0.heap.size w g (fun _ _ _ _=>False) x v):
  pY w g.St (gE (snap e.boxes 6) l) vs:=by
 obtain⟨h1,h2⟩:=vW (snap e.boxes 6) l
 refine⟨h1.trans hl,fun i x v hx hv=>?_⟩
 rw[h2,Option.map_eq_some_iff]at hx
 obtain⟨y,hy,rfl⟩:=hx
 exact JQ hI 6 (h i y v hy hv)
theorem Inv.called(hI:Inv gl w0 an e a w g){w':World}{bA:Nat→Nat→Prop}{ow:Nat→Option Nat}(hb:Below w.heap.size w w')(h1:∀b o,g.St b o→bA b o)
  (h2:∀b o,bA b o→g.St b o∨(w.heap.size≤b∧b<w'.heap.size))(dst:Option Nat){s:Slot}{v:Value}
  (hs:∀g':Gh,g'.St=bA→(∀d,dst=some d→∀j b a c,qq w.heap.size w' bA ow j b a c→fe w0.heap.size w' g' (.s d j) b a c)→∀d,dst=some d→bM w0.heap.size w' g' (fT w0.heap.size w' g' d) s v):
  ∃g',Inv gl w0 an ⟨bF e.ai dst s,e.boxes⟩ (a.put dst v) w' g':=by
 have hle:w0.heap.size≤w.heap.size:=hI.below.size
 let g':Gh:={St:=bA,bx:=g.bx,ow:=fun b=>if w.heap.size≤b then(ow b).bind fun j=>dst.map fun d=>Pos.s d j else g.ow b}
 refine⟨g',hI.Bz (g':=g') ⟨fun D o qB ho h=>⟨(hb.block D (fo h)).trans h,qB,(by
  show(if w.heap.size≤D then(ow D).bind fun j=>dst.map fun d=>Pos.s d j else g.ow D)=none
  rw[if_neg (by have:=fo h;omega)];exact ho),fun x hx=>(h2 D x hx).elim id fun e=>(by have:=fo h;omega)⟩,fun b o h=>⟨h1 b o h,.pS (hb.block b (hI.mJ h))⟩,fun b o h=>World.cell?_of_block (hb.block b (by omega)),fun _ _ h=>h,fun p b a' c _ ho=>⟨?_,fun _=>hb.block b ho.lt⟩,.of fun b h=>hb.block b h⟩ hb (hs g' rfl (fun d hd j b a c hr=>?_)) rfl h2⟩
 ·have aS:=ho.lt
  obtain⟨o1,o2,o3,⟨cur,te,o4,oe⟩,o5⟩:=ho
  refine⟨?_,o2,o3,⟨cur,te,(hb.block b aS).trans o4,oe⟩,fun o bJ bB=>?_⟩
  ·show(if w.heap.size≤b then(ow b).bind fun j=>dst.map fun d=>Pos.s d j else g.ow b)=some p
   rw[if_neg (by omega)];exact o1
  ·rcases h2 b o bB with h|h
   ·exact o5 o bJ h
   ·omega
 ·obtain⟨r1,r2,r3,r4⟩:=hr
  refine⟨?_,by omega,fun hm=>by have:=(hI.cU b hm).2;omega,r3,r4⟩
  show(if w.heap.size≤b then(ow b).bind fun j=>dst.map fun d=>Pos.s d j else g.ow b)=_
  rw[if_pos r2,r1,hd]
  rfl
theorem D8:∀{n:Nat}{k:List SV→Prop},zh n k→∃rs,rs.length=n∧k rs
 |0,_,h=>⟨[],rfl,h⟩
 |n+1,_,h=>by
  obtain⟨r,h⟩:=h
  obtain⟨rs,hl,h⟩:=D8 h
  exact⟨r::rs,by simp[hl],h⟩
theorem Ai(hI:Inv gl w0 an e a w g){o:Oper}{n:Nat}{k:Slot→List af→Prop}{f:FuncId}{args:List SV}{vs:Array Value}(hr:pY w g.St args vs)
  (aU:mE P f→(execOp a.eval o).run P w=.ok (.enter f vs) w)(h:kQ (aD P gl) n e.boxes k f args):aV P gl w0 an e.ai o a w k:=by
 intro next Q hn
 have go:∀(r:SV)(s:Slot),aD P gl f args r→(∀(w':World)(v:Value)(bA:Nat→Nat→Prop)(ow:Nat→Option Nat),qc w.heap.size w' bA ow r v→∀g':Gh,g'.St=bA→
   ∀d,(∀j b a c,qq w.heap.size w' bA ow j b a c→fe w0.heap.size w' g' (.s d j) b a c)→bM w0.heap.size w' g' (fT w0.heap.size w' g' d) s v)→k s e.boxes→o.wp P a w next Q:=by
  intro r s hH aQ hk
  obtain⟨hE,hH⟩:=hH
  unfold Oper.wp
  rw[aU hE]
  refine(hH w g.St vs (fun b o h=>hI.mJ h) hI.js hr.1 hr.2).mono fun en w'⟨v,he,hb,bA,ow,h1,h2,h3⟩=>?_
  subst he
  obtain⟨g',ig⟩:=hI.called hb h1 h2 o.dst (s:=s) (v:=v) (fun g' iY hO d hd=>aQ w' v bA ow h3 g' iY d (hO d hd))
  exact hn s v e.boxes w' g' ig hk
 unfold kQ at h
 split at h
 ·obtain⟨r,hH,ht,hk⟩:=h
  refine go r (.v r) hH (fun w' v bA ow h3 g' iY d hO=>.v _ _ _ ?_) hk
  have X8:aG w' bA 0 (qq w.heap.size w' bA ow 0) r v:=by
   cases r<;>first|exact h3|simp[rq]at ht
  have:=(X8.xX (Nat.zero_le w0.heap.size))
  rw[←iY]at this
  exact this.mono (fun _ _ h=>(by first|exact⟨h,rfl⟩|exact⟨h,.refl _ _ _⟩)) (fun _ _ _=>rfl) _ (fun b a c h=>⟨hO 0 b a c (by rw[iY]at h;exact h),.refl _ _ _⟩)
 ·obtain⟨rs,hlen,hH,hk⟩:=D8 h
  refine go (.dA rs) (.t rs) hH (fun w' v bA ow h3 g' iY d hO=>?_) hk
  obtain⟨tv,rfl,hl,hc⟩:=h3
  refine .t _ rs tv hl fun j x y hx hy=>?_
  have:=((hc j x y hx hy).xX (Nat.zero_le w0.heap.size))
  rw[←iY]at this
  exact this.mono (fun _ _ h=>(by first|exact⟨h,rfl⟩|exact⟨h,.refl _ _ _⟩)) (fun _ _ _=>rfl) _ (fun b a c h=>⟨hO j b a c (by rw[iY]at h;exact h),.refl _ _ _⟩)
theorem Qu(hI:Inv gl w0 an e a w g){o:Oper}{c:Call}(ho:o.op=.call c){f:Operand}(hc:c.callee=.value f){n:Nat}{k:Slot→List af→Prop}
  (h:match(Ab.aJ gl e f).aa with
    | .v x=>withFn x (iz e.boxes (fun x=>(Ab.aJ gl e x).aa) c.args.toList) (kQ (aD P gl) n e.boxes k)
    | .c (.func g') first cap=>kQ (aD P gl) n e.boxes k g' (gE (snap e.boxes 6) first++iz e.boxes (fun x=>(Ab.aJ gl e x).aa) c.args.toList++gE (snap e.boxes 6) cap)
    |_=>False):aV P gl w0 an e.ai o a w k:=by
 have eu:=JR hI c.args
 have aU:∀{f':FuncId}{first cap:Array Value},a.eval f=.func (.func f') first cap→mE P f'→(execOp a.eval o).run P w=.ok (.enter f' (first++c.args.map a.eval++cap)) w:=by
  intro f' first cap hv hE
  simp[execOp,ho,resolve,hc,hv,Deferred.ofValue,invoke,hE _ w]
 split at h
 ·rename_i x hx
  have hf:=hI.n8 hx
  unfold withFn at h
  split at h
  ·rename_i f'
   have hv:a.eval f=.func (.func f') #[] #[]:=by
    have:=hf.data
    generalize a.eval f=u at this
    cases this;rfl
   refine Ai hI eu (fun hE=>?_) h
   rw[aU hv hE];simp
  ·rename_i f' first cap
   generalize hv:a.eval f=u at hf
   cases hf with
   |dg _ _ _ _ fv cv pj pk rf rc=>
    have up:∀{xs:List SV}{vs:Array Value},xs.length=vs.size→(∀(i:Nat)x v,xs[i]? =some x→vs[i]? =some v→aG w g.St w0.heap.size (fun _ _ _=>False) x v)→pY w g.St xs vs:=
     fun hl hr=>⟨hl,fun i x v hx hv=>(hr i x v hx hv).xX hI.below.size⟩
    exact Ai hI (((up pj rf).append eu).append (up pk rc)) (fun hE=>aU hv hE) h
  ·exact h.elim
 ·rename_i f' first cap hs
  have hf:=hI.kX hs
  generalize hv:a.eval f=u at hf
  cases hf with
  |c _ _ _ _ fv cv pj pk rf rc=>exact Ai hI (((HX hI pj rf).append eu).append (HX hI pk rc)) (fun hE=>aU hv hE) h
 ·exact h.elim
theorem Rs{t:TypeId}{name:String}{f:FuncId}(h:uG P t name=some f)(fuel:Nat)(v:Value):(Go.method (fuel+1) t v name).run P w=.ok (f,v) w:=by
 unfold uG at h
 split at h
 ·rename_i i hi
  split at h
  ·rename_i m hm
   split at h
   ·rename_i f' hp hf
    have ZP:m.path= #[]:=by
     have:m.path.toList=[]:=hp
     exact Array.toList_eq_nil_iff.mp this
    split at h
    ·cases h
    ·rename_i u xq hu
     cases h
     have lQ:(underlying t).run P w=.ok u w:=run_underlying hu w
     have j8:(typeInfo t).run P w=.ok i w:=by simp[typeInfo,go_sem,hi]
     have xo:(follow ([]:List FieldStep) t (.val v)).run P w=.ok (t,.val v) w:=by simp[follow]
     have pr:∀s,(receiverAt t (.val v) false s).run P w=.ok v w:=by
      intro s
      unfold receiverAt
      simp only[Sem.run_bind,lQ,Result.andThen_ok]
      cases u<;>first|exact(xq _ rfl).elim |simp[Place.get]
     unfold Go.method
     simp only[Sem.run_bind,j8,Result.andThen_ok,hm,hp,xo,hf,pr,Sem.run_pure]
    ·cases h
   ·cases h
  ·cases h
 ·cases h
theorem Pa(hI:Inv gl w0 an e a w g){o:Oper}{c:Call}(ho:o.op=.call c){f:Operand}{name:String}(hc:c.callee=.invoke f name){n:Nat}{k:Slot→List af→Prop}
  (h:match(Ab.aJ gl e f).aa with
    | .v x=>qS P x name (iz e.boxes (fun x=>(Ab.aJ gl e x).aa) c.args.toList) (kQ (aD P gl) n e.boxes k)
    |_=>False):aV P gl w0 an e.ai o a w k:=by
 have eu:=JR hI c.args
 split at h
 ·rename_i x hx
  have hf:=hI.n8 hx
  unfold qS at h
  split at h
  ·rename_i t y
   obtain⟨f',jb,h⟩:=az h
   have hd:=hf.data
   generalize hv:a.eval f=u at hd
   cases hd with
   |iface _ _ v hy=>
    have hr:pY w g.St (.d y::iz e.boxes (fun x=>(Ab.aJ gl e x).aa) c.args.toList) (#[v]++c.args.map a.eval):=by
     have h1:pY w g.St [SV.d y] #[v]:=⟨rfl,fun i x v' hx fX=>by
      cases i with
      |zero=>simp at hx fX;subst hx fX;exact .d _ _ _ hy
      |succ i=>simp at hx⟩
     exact h1.append eu
    refine Ai hI hr (fun hE=>?_) h
    have X9:=Rs (P:=P) (w:=w) jb (P.types.size+99) v
    have VC:=hE (#[v]++c.args.map a.eval) w
    have h3:(callMethod (.iface t v) name (c.args.map a.eval)).run P w=.ok (.enter f' (#[v]++c.args.map a.eval)) w:=by
     unfold callMethod
     simp only[Sem.run_bind,run_program,Result.andThen_ok,Made.depth]
     rw[X9]
     simp only[Result.andThen_ok]
     exact VC
    have e2:∀l:Array Value,(#[Value.iface t v]++l)[0]? =some (.iface t v):=fun l=>by simp[Array.getElem?_append]
    have e3:∀l:Array Value,(#[Value.iface t v]++l).extract 1 (#[Value.iface t v]++l).size =l:=fun l=>by
     apply Array.ext'
     simp[List.take_of_length_le]
    have h4:(invoke (.fn (.method name) #[]) (#[.iface t v]++c.args.map a.eval)).run P w=.ok (.enter f' (#[v]++c.args.map a.eval)) w:=by
     unfold invoke
     simp only[e2,e3]
     exact h3
    simp only[execOp,ho,resolve,hc,hv,Sem.run_bind,Sem.run_pure,Result.andThen_ok]
    exact h4
  ·exact h.elim
 ·exact h.elim
theorem CW(f:Int→Int→Int)(op:Value→Value→Sem Value)(gQ:∀k a b,op (.int k a) (.int k b)=pure (.int k (f a b)))(hf:∀a b,f a b=a∨f a b=b):
  ∀(l:List SV)(vs:List Value)(x:SV)(vx:Value)(r:SV),qT f x l=some r→aG w g.St w0.heap.size (fun _ _ _=>False) x vx→l.length=vs.length→
   (∀(i:Nat)y v,l[i]? =some y→vs[i]? =some v→aG w g.St w0.heap.size (fun _ _ _=>False) y v)→
   ∃v,(vs.foldlM op vx).run P w=.ok v w∧aG w g.St w0.heap.size (fun _ _ _=>False) r v
 |[],[],x,vx,r,h,hx,_,_=>by
  unfold qT at h
  split at h
  ·cases h;exact⟨vx,rfl,hx⟩
  ·rename_i heq;cases heq
  ·cases h
 |y::l,v::vs,x,vx,r,h,hx,hl,hr=>by
  unfold qT at h
  split at h
  ·rename_i heq;cases heq
  ·rename_i k n k' n' l' heq
   cases heq
   split at h
   ·rename_i hk
    subst hk
    have hy:=hr 0 _ v rfl rfl
    obtain⟨ex,wx⟩:=hx.data.oJ
    obtain⟨ey,wy⟩:=hy.data.oJ
    rw[ex,ey]
    have hw:fg k (f n n')=true:=by rcases hf n n' with h|h<;>rw[h]<;>assumption
    obtain⟨u,hu,np⟩:=CW f op gQ hf l vs _ (.int k (f n n')) r h (.d _ _ _ (.int _ _ hw)) (by simpa using hl) (fun i y u h1 h2=>hr (i+1) y u (by simpa using h1) (by simpa using h2))
    refine⟨u,?_,np⟩
    rw[List.foldlM_cons,gQ]
    exact hu
   ·cases h
  ·cases h
 |[],_::_,_,_,_,_,_,h,_=>by simp at h
 |_::_,[],_,_,_,_,_,h,_=>by simp at h
theorem JS(hI:Inv gl w0 an e a w g){o:Oper}{c:Call}(ho:o.op=.call c){b:Builtin}(hc:c.callee=.builtin b){x:Operand}{xs:List Operand}(hx:c.args.toList=x::xs){f:Int→Int→Int}
  (hb:(b=.min ∧f=minD)∨(b=.max ∧f=maxD)){k:Slot→List af→Prop}
  (h:ab (qT f ((Ab.aJ gl e x).aa).aT (xs.map fun y=>((Ab.aJ gl e y).aa).aT)) fun r=>k (.v r) e.boxes):aV P gl w0 an e.ai o a w k:=by
 obtain⟨r,hr,hk⟩:=az h
 have eu:(c.args.map a.eval).toList =a.eval x::xs.map a.eval:=by rw[Array.toList_map,hx];rfl
 have BA:∀(i:Nat)y v,(xs.map fun y=>((Ab.aJ gl e y).aa).aT)[i]? =some y→(xs.map a.eval)[i]? =some v→aG w g.St w0.heap.size (fun _ _ _=>False) y v:=by
  intro i y v hy hv
  simp only[List.getElem?_map,Option.map_eq_some_iff]at hy hv
  obtain⟨z,hz,rfl⟩:=hy
  obtain⟨z',fh,rfl⟩:=hv
  rw[hz]at fh;cases fh
  exact hI.gk z
 rcases hb with⟨rfl,rfl⟩|⟨rfl,rfl⟩
 ·obtain⟨v,hv,F7⟩:=CW (P:=P) (w0:=w0) minD Builtin.min2 (fun k a b=>rfl) (fun a b=>by unfold minD;split<;>simp) _ (xs.map a.eval) _ (a.eval x) r hr (hI.gk x) (by simp) BA
  refine aV.ea hI (v:=v) ?_ F7 hk
  have e1:Builtin.min_ c.argTypes o.type (c.args.map a.eval)=(xs.map a.eval).foldlM Builtin.min2 (a.eval x):=by unfold Builtin.min_;rw[eu]
  simp[execOp,ho,resolve,hc,invoke,builtin,e1,hv]
 ·obtain⟨v,hv,F7⟩:=CW (P:=P) (w0:=w0) maxD Builtin.max2 (fun k a b=>rfl) (fun a b=>by unfold maxD;split<;>simp) _ (xs.map a.eval) _ (a.eval x) r hr (hI.gk x) (by simp) BA
  refine aV.ea hI (v:=v) ?_ F7 hk
  have e1:Builtin.max_ c.argTypes o.type (c.args.map a.eval)=(xs.map a.eval).foldlM Builtin.max2 (a.eval x):=by unfold Builtin.max_;rw[eu]
  simp[execOp,ho,resolve,hc,invoke,builtin,e1,hv]
end
end Go.Proofs.Ytaknajjmldngiaa.Ab
namespace Go.Proofs.Ytaknajjmldngiaa.Ab
open Go Go.RowKit
theorem Qv{P:Program}{t:TypeId}{z:D}(h:qb P t=some z):∃zv:Value,(∀w:World,(zeroValue t).run P w=.ok zv w)∧∀(w:World)(St:Nat→Nat→Prop),aK w St z zv:=by
 unfold qb at h
 split at h
 ·rename_i i hi
  split at h
  ·rename_i zv hz
   exact⟨zv,fun w=>by simp[zeroValue,typeInfo,hi,hz],fun w St=>v7 h⟩
  ·cases h
 ·cases h
def KS.cg:KS→D
 | .bool b=>.bool b
 | .int k n=>.int k n
 | .str s=>.str s
theorem Jc:∀{ks:List CK}{cs:List D}{l:List KS},qp ks cs=some l→cs=l.map KS.cg∧cX ks cs=true
 |[],[],l,h=>by simp only[qp,Option.some.injEq]at h;subst h;exact⟨rfl,rfl⟩
 |[],_::_,l,h=>by simp[qp]at h
 |k::ks,[],l,h=>by cases k<;>simp[qp]at h
 |k::ks,c::cs,l,h=>by
  cases k<;>cases c<;>simp only[qp,reduceCtorEq]at h
  all_goals
   split at h
   ·rename_i r hr
    cases h
    obtain⟨h1,h2⟩:=Jc hr
    exact⟨by simp[KS.cg,h1],by simpa[cX]using h2⟩
   ·cases h
theorem Jd:∀{ks:List CK}{l m:List KS},cX ks (l.map KS.cg)=true→KS.kR l m=true→cX ks (m.map KS.cg)=true
 |[],[],[],_,_=>rfl
 |_::_,[],[],h,_=>by simpa using h
 |[],x::l,y::m,h,_=>by cases x<;>simp[KS.cg,cX]at h
 |k::ks,x::l,y::m,h,h2=>by
  simp only[KS.kR,Bool.and_eq_true]at h2
  cases k<;>cases x<;>cases y<;>simp only[List.map_cons,KS.cg,cX,KS.same,Bool.false_eq_true,false_and,reduceCtorEq]at h h2 ⊢
  all_goals exact Jd h h2.2
 |_,[],_::_,_,h=>by simp[KS.kR]at h
 |_,_::_,[],_,h=>by simp[KS.kR]at h
theorem Ix:∀{l m:List KS},KS.kR l m=true→eC (l.map KS.cg) (m.map KS.cg)=some (decide (l=m))
 |[],[],_=>by simp[eC]
 |x::l,y::m,h=>by
  simp only[KS.kR,Bool.and_eq_true]at h
  have ih:=Ix h.2
  have hx:kg x.cg y.cg=some (decide (x=y)):=by
   cases x<;>cases y<;>simp only[KS.same,Bool.false_eq_true,false_and]at h
   ·rename_i a b;simp only[KS.cg,kg,KS.bool.injEq];congr 1
   ·rename_i k a k' b
    have hk:k=k':=by simpa using h.1
    subst hk
    simp only[KS.cg,kg,if_true,KS.int.injEq,true_and];congr 1
   ·rename_i a b;simp only[KS.cg,kg,KS.str.injEq];congr 1
    rw[Bool.eq_iff_iff];simp
  simp only[List.map_cons,eC,hx,ih,List.cons.injEq]
  rw[←Bool.decide_and]
 |[],_::_,h=>by simp[KS.kR]at h
 |_::_,[],h=>by simp[KS.kR]at h
theorem rE.rep{w:World}{St:Nat→Nat→Prop}{k:KS}{v:Value}(h:rE k v):aK w St k.cg v:=by
 cases k with
 |bool b=>subst h;exact .bool b
 |int k n=>obtain⟨rfl,h⟩:=h;exact .int k n h
 |str s=>obtain⟨b,rfl,rfl,h⟩:=h;exact .str b h
theorem rE.of{w:World}{St:Nat→Nat→Prop}{k:KS}{v:Value}(h:aK w St k.cg v):rE k v:=by
 cases k with
 |bool b=>cases h;rfl
 |int k n=>cases h;exact⟨rfl,by assumption⟩
 |str s=>obtain⟨b,e1,e2,e3⟩:=h.qX;exact⟨b,e1,e2.symm,e3⟩
theorem D9{w:World}{St:Nat→Nat→Prop}{l:List KS}{v:Value}(h:(MK.s l).Is v):gm w St true (l.map KS.cg) v:=by
 obtain⟨vs,rfl,h1,h2⟩:=h
 simp only[gm,if_true]
 refine⟨vs,rfl,by simp[h1],fun i x v hx hv=>?_⟩
 rw[List.getElem?_map,Option.map_eq_some_iff]at hx
 obtain⟨k,hk,rfl⟩:=hx
 exact(h2 i k v hk hv).rep
theorem TQ{w:World}{St:Nat→Nat→Prop}{l:List KS}{vs:Array Value}(h:jF w St (l.map KS.cg) vs):(MK.s l).Is (.agg vs):=by
 refine⟨vs,rfl,by have:=h.1;simpa using this.symm,fun i k u hk hu=>?_⟩
 exact rE.of (h.2 i k.cg u (by rw[List.getElem?_map,hk];rfl) hu)
def EL:Option (List CK)→MK→Prop
 |none,n=>∃m,n=.i m
 |some ks,n=>∃l,n=.s l∧cX ks (l.map KS.cg)=true
def E2(P:Program)(kt:TypeId):Option (List CK)→Prop
 |none=>∃k,P.underlying kt=some (.int k)
 |some ks=>∃fs,P.underlying kt=some (.struct fs)∧shapeOf P 20 kt=some ks∧yr P fs.toList=true
theorem Iy{P:Program}{t et:TypeId}{kd:Option (List CK)}(h:tj P t=some (et,kd)):∃kt,P.underlying t=some (.map kt et)∧E2 P kt kd:=by
 unfold tj at h
 split at h
 ·rename_i kt et' hu
  split at h
  ·rename_i k hk;cases h;exact⟨kt,hu,k,hk⟩
  ·rename_i fs hk
   split at h
   ·rename_i ks fL
    cases hf:yr P fs.toList with
    |true=>rw[hf]at h;cases h;exact⟨kt,hu,fs,hk,fL,hf⟩
    |false=>rw[hf]at h;cases h
   ·cases h
  ·cases h
 ·cases h
def LO(l:List (MK×D))(n:MK)(es:List MapEntry)(i:Nat)(r:Option (Nat×Value)):Prop:=
 (jZ l n=none∧r=none)∨∃j x y,r=some (i+j,y.val)∧l[j]? =some x∧es[j]? =some y∧jZ l n=some x.2∧x.1=n∧∀(m:Nat)z,m<j→l[m]? =some z→n≠z.1
theorem Ea{n:MK}{S:List MapEntry→Nat→Option (Nat×Value)→Prop}(h0:∀i,S [] i none)(ve:∀(x:MK×D)e es i,x.1.Is e.key→n.same x.1=true→n=x.1→S (e::es) i (some (i,e.val)))
  (Mb:∀(x:MK×D)e es i r,x.1.Is e.key→n.same x.1=true→n≠x.1→S es (i+1) r→S (e::es) i r):∀(es:List MapEntry)(l:List (MK×D))(i:Nat),l.length=es.length→
    (∀(j:Nat)x y,l[j]? =some x→es[j]? =some y→x.1.Is y.key)→qa l n=true→∃r,S es i r∧LO l n es i r
 |[],l,i,hl,_,_=>by
  have:l=[]:=List.eq_nil_of_length_eq_zero hl
  subst this
  exact⟨none,h0 i,.inl ⟨rfl,rfl⟩⟩
 |e::es,[],i,hl,_,_=>by simp at hl
 |e::es,x::l,i,hl,hk,hs=>by
  simp only[qa,List.all_cons,Bool.and_eq_true]at hs
  have he:=hk 0 x e rfl rfl
  by_cases h:n=x.1
  ·exact⟨some (i,e.val),ve x e es i he hs.1 h,.inr ⟨0,x,e,rfl,rfl,rfl,by rw[jZ,if_pos h],h.symm,fun m z hm=>by omega⟩⟩
  ·obtain⟨r,h1,h2⟩:=Ea h0 ve Mb es l (i+1) (by simpa using hl) (fun j x y a b=>hk (j+1) x y (by simpa using a) (by simpa using b)) hs.2
   refine⟨r,Mb x e es i r he hs.1 h h1,?_⟩
   rcases h2 with⟨h2,h3⟩|⟨j,x',y,a,b,c,d,d',f⟩
   ·exact .inl ⟨by rw[jZ,if_neg h];exact h2,h3⟩
   ·refine .inr ⟨j+1,x',y,by rw[a];congr 2;omega,by simpa using b,by simpa using c,by rw[jZ,if_neg h];exact d,d',fun m z hm hz=>?_⟩
    cases m with
    |zero=>simp at hz;subst hz;exact h
    |succ m=>exact f m z (by omega) (by simpa using hz)
theorem Ig{P:Program}{w:World}{kt:TypeId}{kd:Option (List CK)}(pt:E2 P kt kd){n:MK}{kv:Value}(hn:n.Is kv)(dh:EL kd n)
  (es:List MapEntry)(l:List (MK×D))(hl:l.length=es.length)(hk:∀(j:Nat)x y,l[j]? =some x→es[j]? =some y→x.1.Is y.key)(hs:qa l n=true):
  ∃r,(Instr.findKey kt kv es).run P w=.ok r w∧LO l n es 0 r:=by
 cases kd with
 |none=>
  obtain⟨k,hu⟩:=pt
  obtain⟨m,rfl⟩:=dh
  obtain⟨rfl,_⟩:=hn
  obtain⟨r,h1,h2⟩:=Ea (n:=.i m) (S:=fun es i r=>Instr.findNow (.int k) (.int .i64 m) es i=some r) (fun i=>rfl)
   (fun x e es i he gq hx=>by
     rw[←hx]at he
     rw[Instr.findNow,show e.key=_ from he.1];simp[Instr.sameNow])
   (fun x e es i r he gq hx hr=>by
     cases gR:x.1 with
     |i m'=>
      rw[gR]at he hx
      rw[Instr.findNow,show e.key=_ from he.1]
      have:(m==m')=false:=by simpa using fun h=>hx (by rw[h])
      simp[Instr.sameNow,this,hr]
     |s l=>rw[gR]at gq;cases gq) es l 0 hl hk hs
  exact⟨r,by simp[Instr.findKey,run_underlying hu,h1],h2⟩
 |some ks=>
  obtain⟨fs,hu,aH,_⟩:=pt
  obtain⟨kl,rfl,ju⟩:=dh
  have u6:cZ P kt=some true:=by simp[cZ,hu]
  have heq:∀(l':List KS)(v:Value),(MK.s l').Is v→KS.kR kl l'=true→(Op.equal kt kv v).run P w=.ok (decide (kl=l')) w:=fun l' v hv hs=>
   CL (g:=⟨fun _ _=>False,[],fun _=>none⟩) 20 10000 kt ks true _ _ kv v _ aH (by omega) u6 ju (Jd ju hs) (D9 hn) (D9 hv) (Ix hs)
  obtain⟨r,h1,h2⟩:=Ea (n:=.s kl) (S:=fun es i r=>(Instr.findAsking kt kv es i).run P w=.ok r w) (fun i=>rfl)
   (fun x e es i he gq hx=>by
     rw[←hx]at he gq
     rw[Instr.findAsking]
     simp[heq kl _ he gq])
   (fun x e es i r he gq hx hr=>by
     cases gR:x.1 with
     |s l'=>
      rw[gR]at he hx gq
      rw[Instr.findAsking]
      have:decide (kl=l')=false:=by simpa using fun h=>hx (by rw[h])
      simp[heq l' _ he gq,this,hr]
     |i m=>rw[gR]at gq;cases gq) es l 0 hl hk hs
  refine⟨r,?_,h2⟩
  cases es with
  |nil=>simp[Instr.findKey,run_underlying hu,Instr.findNow];simpa[Instr.findAsking]using h1
  |cons e es=>simp[Instr.findKey,run_underlying hu,Instr.findNow,Instr.sameNow];exact h1
theorem HY{P:Program}{w:World}{kt:TypeId}{kd:Option (List CK)}(pt:E2 P kt kd){n:MK}{kv:Value}(hn:n.Is kv)(dh:EL kd n)
  (em:Bool):(Instr.checkKey em 10000 kt kv).run P w=.ok () w:=by
 rw[show(10000:Nat)=9998+1+1 from rfl]
 cases kd with
 |none=>
  obtain⟨k,hu⟩:=pt
  rw[Instr.checkKey]
  obtain⟨m,rfl⟩:=dh
  obtain⟨rfl,_⟩:=hn
  simp[run_underlying hu]
 |some ks=>
  obtain⟨fs,hu,aH,xr⟩:=pt
  obtain⟨kl,rfl,ju⟩:=dh
  have hv:=D9 (w:=w) (St:=fun _ _=>False) hn
  simp only[gm,if_true]at hv
  obtain⟨cs,rfl,rx⟩:=hv
  rw[show(20:Nat)=19+1 from rfl,shapeOf,hu]at aH
  simp only at aH
  cases bB:P.stoodInHeld kt with
  |true=>rw[bB]at aH;cases aH
  |false=>
   rw[bB]at aH
   simp only[cond_false]at aH
   split at aH
   ·rename_i lO fL
    split at aH
    ·rename_i sz aB
     cases hc:Nat.beq sz lO.length with
     |false=>rw[hc]at aH;cases aH
     |true=>
      rw[hc]at aH;cases aH
      rw[Instr.checkKey]
      simp only[Sem.run_bind,run_underlying hu,Result.andThen_ok]
      rw[←Array.forIn_toList]
      generalize tO:kl.map KS.cg=xs at ju rx
      have E3:cX ks (xs.drop 0)=true:=ju
      have h0:(0:Nat)≤xs.length:=Nat.zero_le _
      clear hu bB aB hc ju
      generalize fs.toList=L at fL xr
      generalize (0:Nat)=off at fL E3 h0
      induction L generalizing off ks with
      |nil=>simp
      |cons f L ih=>
       simp only[vY]at fL
       simp only[yr,Bool.and_eq_true]at xr
       split at fL
       ·rename_i kf B3
        cases cJ:(f.name != "_" &&Nat.beq f.offset off)with
        |false=>rw[cJ]at fL;cases fL
        |true=>
         rw[cJ]at fL
         simp only[cond_true]at fL
         split at fL
         ·rename_i kr F1
          cases fL
          simp only[Bool.and_eq_true,bne_iff_ne,ne_eq]at cJ
          have rG:=Nat.eq_of_beq_eq_true cJ.2
          obtain⟨gR,tH⟩:=vZ E3
          obtain⟨ew,u6⟩:=xN B3
          have lx:=pQ E3
          simp only[List.length_drop,List.length_append]at lx
          obtain⟨b,hb,h1⟩:∃b,cZ P f.type=some b∧(b=false→kf.length=1):=by
           rcases u6 with⟨h1,h2⟩|h1
           ·exact⟨false,h1,fun _=>h2⟩
           ·exact⟨true,h1,by simp⟩
          obtain⟨vx,px,qx⟩:=jF.valOf (g:=⟨fun _ _=>False,[],fun _=>none⟩) rx (off:=f.offset) hb ew h1 (by omega)
          have p2:(Instr.checkKey em (9998+1) f.type vx).run P w=.ok () w:=by
           rw[Instr.checkKey]
           have MT:=xr.1
           split at MT
           ·rename_i lQ;simp[run_underlying lQ]
           ·rename_i lQ;simp[run_underlying lQ]
           ·rename_i lQ;simp[run_underlying lQ]
           ·cases MT
          simp only[List.forIn_cons,Sem.run_bind,cJ.1,ne_eq,not_false_eq_true,if_true,Result.andThen_ok,px,p2,Sem.run_pure]
          exact ih kr xr.2 (off+kf.length) F1 (by rw[List.drop_drop]at tH;exact tH) (by omega)
         ·cases fL
       ·cases fL
    ·cases aH
   ·cases aH
section
variable{P:Program}{gl:Nat→Option D}{w0:World}{an:S0}{e:Env}{a:Act}{w:World}{g:Gh}
theorem Qw(hI:Inv gl w0 an e a w g){m:Operand}{l:List (MK×D)}(h:qj e.boxes (Ab.aJ gl e m).aa =.mp l):
  ∃r es clock,a.eval m=.map (some r)∧w.heap[r]? =some (.map es clock)∧l.length=es.size∧∀(i:Nat)x y,l[i]? =some x→es[i]? =some y→x.1.Is y.key∧True∧aK w g.St x.2 y.val:=by
 have hx:=hI.aJ m
 generalize (Ab.aJ gl e m).aa =s at h hx
 cases s with
 |m b=>
  simp only[qj]at h
  split at h
  ·rename_i l' hb
   cases h
   generalize a.eval m=v at hx
   cases hx with
   |m _ _ aj b6=>
    obtain⟨_,es,clock,h1,h2,h3⟩:=hI.boxes b _ aj hb b6
    exact⟨aj,es,clock,rfl,h1,h2,h3⟩
  ·cases h
 |v x=>
  simp only[qj,Slot.aT]at h
  subst h
  have:=hx.jG
  generalize a.eval m=v at this
  cases this with
  |mp _ _ r es clock hh hs hl hc=>exact⟨r,es,clock,rfl,hh,hl,hc⟩
 |_=>simp[qj,Slot.aT]at h
theorem Je{kd:Option (List CK)}{x:SV}{n:MK}(h:jI kd x=some n){St:Nat→Nat→Prop}{base:Nat}{O:Nat→Nat→Nat→Prop}{v:Value}(r:aG w St base O x v):
  n.Is v∧EL kd n:=by
 cases kd with
 |none=>
  simp only[jI]at h
  split at h
  ·cases h
   have:=r.data.oJ
   exact⟨⟨this.1,this.2⟩,_,rfl⟩
  ·cases h
 |some ks=>
  simp only[jI]at h
  split at h
  ·rename_i cs
   cases hl:qp ks cs with
   |some l=>
    rw[hl]at h
    cases h
    obtain⟨rfl,ju⟩:=Jc hl
    obtain⟨vs,e1,r1,_⟩:=r.data.qY
    rw[e1]
    exact⟨TQ r1,l,rfl,ju⟩
   |none=>rw[hl]at h;cases h
  ·cases h
theorem Pb(hI:Inv gl w0 an e a w g){o:Oper}{t:TypeId}{m x:Operand}{ok:Bool}(ho:o.op=.lookup t m x ok){k:Slot→List af→Prop}
  (h:ab (tj P t) fun et=>ab (qb P et.1) fun z=>ab (nO et.2 z (qj e.boxes (Ab.aJ gl e m).aa) ((Ab.aJ gl e x).aa).aT) fun r=>
    bif ok then k (.t [.d r.1,.d (.bool r.2)]) e.boxes else k (.v (.d r.1)) e.boxes):aV P gl w0 an e.ai o a w k:=by
 obtain⟨⟨et,kd⟩,het,h⟩:=az h
 obtain⟨z,hz,h⟩:=az h
 obtain⟨⟨d,b⟩,hr,hk⟩:=az h
 have hm:=fun l=>Qw hI (m:=m) (l:=l)
 have hx:=hI.gk x
 generalize qj e.boxes (Ab.aJ gl e m).aa =sm at hr hm
 generalize ((Ab.aJ gl e x).aa).aT =sx at hr hx
 obtain⟨zv,u7,kY⟩:=Qv hz
 obtain⟨kt,hu,pt⟩:=Iy het
 unfold nO at hr
 split at hr
 ·rename_i l
  split at hr
  ·rename_i n hn
   cases vf:qa l n with
   |false=>rw[vf]at hr;cases hr
   |true=>
    rw[vf,cond_true]at hr
    obtain⟨tP,dh⟩:=Je hn hx
    obtain⟨r,es,clock,Ca,hh,hl,hc⟩:=hm l rfl
    obtain⟨f,rZ,vi⟩:=Ig (w:=w) pt tP dh es.toList l (by simpa using hl) (fun j x y h1 h2=>(hc j x y h1 (by simpa using h2)).1) vf
    have ju:=fun em=>HY (w:=w) pt tP dh em
    have pe:(getObj r).run P w=.ok (.map es clock) w:=by simp[getObj,Sem.run,hh]
    have key:∃u,((Instr.lookup t (.map (some r)) (a.eval x) ok).run P w=.ok (if ok then .tuple #[u,.bool b]else u) w)∧aK w g.St d u:=by
     rcases vi with⟨h1,h2⟩|⟨j,x',y,h1,h2,h3,h4,_⟩
     ·rw[h1]at hr
      cases hr
      refine⟨zv,?_,kY _ _⟩
      subst h2
      simp[Instr.lookup,run_underlying hu,pe,ju,rZ,u7]
     ·rw[h4]at hr
      cases hr
      refine⟨y.val,?_,(hc j x' y h2 (by simpa using h3)).2.2⟩
      subst h1
      simp[Instr.lookup,run_underlying hu,pe,ju,rZ]
    obtain⟨u,xq,Mc⟩:=key
    cases ok with
    |true=>
     refine aV.value hI (v:=.tuple #[u,.bool b]) ?_ (.t _ _ _ rfl fun j x v h1 h2=>?_) hk
     ·have h1:(Instr.lookup t (.map (some r)) (a.eval x) true).run P w=.ok (.tuple #[u,.bool b]) w:=xq
      simp[execOp,ho,Ca,h1]
     ·match j,h1,h2 with
      |0,h1,h2=>cases h1;cases h2;exact .d _ _ _ Mc
      |1,h1,h2=>cases h1;cases h2;exact .d _ _ _ (.bool _)
      |j+2,h1,h2=>simp at h1
    |false=>
     refine aV.ea hI (v:=u) ?_ (.d _ _ _ Mc) hk
     have h1:(Instr.lookup t (.map (some r)) (a.eval x) false).run P w=.ok u w:=xq
     simp[execOp,ho,Ca,h1]
  ·cases hr
 ·cases hr
theorem OX(hI:Inv gl w0 an e a w g){o:Oper}{t:TypeId}(ho:o.op=.makeMap t none){id:Nat}{k:Slot→List af→Prop}
  (ej:e.boxes[id]? =some .none)(h:k (.m id) (e.boxes.set id (.map []))):aV P gl w0 an e.ai o a w k:=by
 refine aV.K9 hI ej (ob:=.map #[] 0) (vl:=.map (some w.heap.size)) (by simp[execOp,ho,Instr.makeMap]) (fun g' O hb=>.m _ _ _ hb) (fun g' hX hle=>?_) h
 exact⟨hle,#[],0,sY w _,rfl,fun i x y h=>by simp at h⟩
theorem Jf{n:MK}{d:D}:∀{l:List (MK×D)}{j:Nat}{x:MK×D},l[j]? =some x→x.1=n→(∀(i:Nat)y,i<j→l[i]? =some y→n≠y.1)→j1 l n d=l.set j (n,d)
 |[],j,x,h,_,_=>by simp at h
 |y::l,0,x,h,hx,_=>by simp at h;subst h;simp[j1,hx]
 |y::l,j+1,x,h,hx,bm=>by
  have h0:=bm 0 y (Nat.succ_pos j) rfl
  simp only[j1,if_neg h0,List.set_cons_succ]
  rw[Jf (by simpa using h) hx fun i z hi hz=>bm (i+1) z (by omega) (by simpa using hz)]
theorem Jg{n:MK}{d:D}:∀{l:List (MK×D)},jZ l n=none→j1 l n d=l++[(n,d)]
 |[],_=>rfl
 |y::l,h=>by
  simp only[jZ]at h
  split at h
  ·cases h
  ·rename_i hy
   simp[j1,hy,Jg h]
theorem rE.bits{k:KS}{u v:Value}(hu:rE k u)(hv:rE k v)(m:Nat):Instr.sameBits m u v=true:=by
 cases k with
 |bool b=>subst hu;subst hv;cases m<;>simp[Instr.sameBits]
 |int k n=>obtain⟨rfl,_⟩:=hu;obtain⟨rfl,_⟩:=hv;cases m<;>simp[Instr.sameBits]
 |str s=>
  obtain⟨b,rfl,h1,_⟩:=hu
  obtain⟨c,rfl,h2,_⟩:=hv
  have:b=c:=by
   have:b.data=c.data:=Array.toList_inj.1 (h1.trans h2.symm)
   cases b;cases c;simp only at this;rw[this]
  subst this
  have hb:(b==b)=true:=by show(b.data==b.data)=true;simp
  cases m<;>simp only[Instr.sameBits,hb]
theorem Is.bits{n:MK}{u v:Value}(hu:n.Is u)(hv:n.Is v):Instr.sameBits 10000 u v=true:=by
 cases n with
 |i m=>obtain⟨rfl,_⟩:=hu;obtain⟨rfl,_⟩:=hv;simp[Instr.sameBits]
 |s l=>
  obtain⟨us,rfl,h1,h2⟩:=hu
  obtain⟨vs,rfl,h3,h4⟩:=hv
  rw[show(10000:Nat)=9999+1 from rfl,Instr.sameBits]
  simp only[Bool.and_eq_true,beq_iff_eq,List.all_eq_true]
  refine⟨h1.trans h3.symm,fun⟨x,y⟩Ya=>?_⟩
  obtain⟨i,hi⟩:=List.mem_iff_getElem?.1 Ya
  rw[List.getElem?_zip_eq_some]at hi
  obtain⟨hx,hy⟩:=hi
  rw[Array.getElem?_toList]at hx hy
  have jO:i<l.length:=by have:=(Array.getElem?_eq_some_iff.1 hx).1;omega
  exact(h2 i _ x (List.getElem?_eq_getElem jO) hx).bits (h4 i _ y (List.getElem?_eq_getElem jO) hy) 9999
theorem OY{n:MK}{u v:Value}(hu:n.Is u)(hv:n.Is v):(Instr.keyThatStays u v).run P w=.ok v w:=by simp[Instr.keyThatStays,Is.bits hu hv]
theorem OC(hI:Inv gl w0 an e a w g){o:Oper}{t:TypeId}{m x y:Operand}(ho:o.op=.mapUpdate t m x y)(hd:o.dst=none){et:TypeId×Option (List CK)}(het:tj P t=some et){b:Nat}(hm:(Ab.aJ gl e m).aa =.m b)
  {l:List (MK×D)}(hb:e.boxes[b]? =some (.map l)){n:MK}(hn:jI et.2 ((Ab.aJ gl e x).aa).aT =some n){d:D}(hy:cg ((Ab.aJ gl e y).aa).aT =some d){l':List (MK×D)}(yM:lH l n d=some l'){k:Slot→List af→Prop}
  (hk:k (.t []) (e.boxes.set b (.map l'))):aV P gl w0 an e.ai o a w k:=by
 have hx:=hI.gk x
 obtain⟨tP,dh⟩:=Je hn hx
 obtain⟨et,kd⟩:=et
 obtain⟨kt,hu,pt⟩:=Iy het
 have MU:=(hI.gk y).cg hy
 have gq:=hI.kX hm
 unfold lH at yM
 cases vf:qa l n with
 |false=>rw[vf]at yM;cases yM
 |true=>
  rw[vf,cond_true]at yM
  cases yM
  generalize Ca:a.eval m=vm at gq
  cases gq with
  |m _ _ aj b6=>
   obtain⟨lR,es,clock,hh,hl,hc⟩:=hI.boxes b _ aj hb b6
   obtain⟨f,rZ,vi⟩:=Ig (w:=w) pt tP dh es.toList l (by simpa using hl) (fun j x y h1 h2=>(hc j x y h1 (by simpa using h2)).1) vf
   have ju:=HY (w:=w) pt tP dh false
   have pe:(getObj aj).run P w=.ok (.map es clock) w:=by simp[getObj,Sem.run,hh]
   have fin:∀(tQ:Array MapEntry)(wG:Nat),(Instr.mapUpdate t (.map (some aj)) (a.eval x) (a.eval y)).run P w=.ok () {w with heap:=w.heap.setIfInBounds aj (.map tQ wG)}→
     (j1 l n d).length =tQ.size→(∀(i:Nat)x z,(j1 l n d)[i]? =some x→tQ[i]? =some z→x.1.Is z.key∧True∧aK w g.St x.2 z.val)→aV P gl w0 an e.ai o a w k:=by
    intro tQ wG aU hlen aQ next Q EJ
    have VD:(execOp a.eval o).run P w=.ok .skip {w with heap:=w.heap.setIfInBounds aj (.map tQ wG)}:=by
     simp[execOp,ho,Ca,aU]
    unfold Oper.wp
    rw[VD]
    have yN:=MapKept.heap_set (o':=.map tQ wG) hh
    refine EJ (.t []) undef _ _ g ?_ hk
    rw[hd]
    refine hI.Lc (dst:=none) (s:=.t []) (v:=undef) (ai:=e.ai) (w':={w with heap:=w.heap.setIfInBounds aj (.map tQ wG)}) (fun _=>False) (fun _=>False) rfl rfl (fun _ _ _ _ _ h=>h) (fun _ h=>h) b6 yN.2 (fun c ty h=>by rw[hh]at h;cases h) (by simp) ⟨rfl,rfl,rfl⟩ rfl
     (fun i x hx _=>⟨x,hx,.inl ⟨rfl,fun h=>h⟩⟩) (fun hX hle=>?_) (fun _ d h=>by cases h)
    exact⟨hle,tQ,wG,yN.1,hlen,fun i x z h1 h2=>⟨(aQ i x z h1 h2).1,(aQ i x z h1 h2).2.1,hX.yJ (aQ i x z h1 h2).2.2⟩⟩
   rcases vi with⟨h1,h2⟩|⟨j,x',z,h1,h2,h3,_,h4,h5⟩
   ·subst h2
    rw[Jg h1]at fin
    refine fin (es.push {key:=a.eval x,val:=a.eval y,born:=clock}) (clock+1) ?_ (by simp[hl]) (fun i x z hx hz=>?_)
    ·simp[Instr.mapUpdate,run_underlying hu,pe,ju,rZ,MapKept.run_setObj_map _ hh]
    ·rw[List.getElem?_append]at hx
     rw[Array.getElem?_push]at hz
     split at hx
     ·rename_i hi
      rw[if_neg (by omega)]at hz
      exact hc i x z hx hz
     ·rename_i hi
      have:i-l.length=0:=by
       rcases Nat.eq_zero_or_pos (i-l.length)with h|h
       ·exact h
       ·rw[List.getElem?_eq_none (by simp;omega)]at hx;cases hx
      rw[this]at hx
      simp at hx;subst hx
      rw[if_pos (by omega)]at hz
      cases hz
      exact⟨tP,trivial,MU⟩
   ·have hj:es[j]? =some z:=by simpa using h3
    subst h1
    have Cb:=(hc j x' z h2 hj).1
    rw[h4]at Cb
    rw[Jf h2 h4 h5]at fin
    have jd:j<es.size:=(Array.getElem?_eq_some_iff.1 hj).1
    refine fin (es.modify j fun e=>{e with key:=a.eval x,val:=a.eval y}) clock ?_ (by simp[hl]) (fun i x u hx lQ=>?_)
    ·simp[Instr.mapUpdate,run_underlying hu,pe,ju,rZ,hj,OY Cb tP,MapKept.run_setObj_map _ hh]
    ·rw[List.getElem?_set]at hx
     rw[Array.getElem?_modify]at lQ
     split at hx
     ·rename_i kE
      subst kE
      split at hx
      ·cases hx
       rw[if_pos rfl,hj]at lQ
       cases lQ
       exact⟨tP,trivial,MU⟩
      ·cases hx
     ·rename_i kE
      rw[if_neg kE]at lQ
      exact hc i x u hx lQ
theorem PR{x y:SV}{m:Nat}(h:lenOf x y=some m):∃k,x=.d (.int k m)∧y=.d (.int k m):=by
 unfold lenOf at h
 split at h
 ·rename_i k a k' b
  split at h
  ·rename_i hc
   obtain⟨rfl,rfl,h0⟩:=hc
   cases h
   exact⟨k,by rw[Int.toNat_of_nonneg h0],by rw[Int.toNat_of_nonneg h0]⟩
  ·cases h
 ·cases h
theorem Qx{t:TypeId}{z:D}(h:qb P t=some z):∃i zv,P.info? t=some i∧i.zero=some zv∧z.one=true∧zv.cells= #[zv]∧∀(w:World)(St:Nat→Nat→Prop),aK w St z zv:=by
 unfold qb at h
 split at h
 ·rename_i i hi
  split at h
  ·rename_i zv hz
   have h1:=(v7 (w:=default) (St:=fun _ _=>False) h).pX (C5 h)
   exact⟨i,zv,hi,hz,C5 h,by cases zv<;>first|rfl|simp[Value.oneCell']at h1,fun w St=>v7 h⟩
  ·cases h
 ·cases h
theorem D.Dt{d:D}(h:d.one=true):d.cells=[d]:=by cases d<;>first|rfl|simp[D.one]at h
theorem OD(hI:Inv gl w0 an e a w g){o:Oper}{t:TypeId}{n c:Operand}(ho:o.op=.makeSlice t n c){k:Slot→List af→Prop}
  (h:ab (ke P t) fun e'=>ab (ck P e') fun sz=>ab (oF P e') fun bZ=>ab (qb P e') fun z=>
    bif Nat.beq sz 1&&Nat.blt 0 bZ then(ab (lenOf ((Ab.aJ gl e n).aa).aT ((Ab.aJ gl e c).aa).aT) fun m=>m*bZ≤140737488355328∧k (.v (.bj 1 (List.replicate m z))) e.boxes)else False):
  aV P gl w0 an e.ai o a w k:=by
 obtain⟨e',he,h1⟩:=az h
 obtain⟨sz,aB,h2⟩:=az h1
 obtain⟨bZ,gS,h3⟩:=az h2
 obtain⟨z,hz,h4⟩:=az h3
 clear h h1 h2 h3
 cases cJ:(Nat.beq sz 1&&Nat.blt 0 bZ)with
 |false=>rw[cJ]at h4;exact h4.elim
 |true=>
  rw[cJ,cond_true]at h4
  simp only[Bool.and_eq_true]at cJ
  have gT:=Nat.eq_of_beq_eq_true cJ.1
  have pv:0<bZ:=Nat.lt_of_succ_le (Nat.le_of_ble_eq_true cJ.2)
  subst gT
  obtain⟨m,hm,MV,hk⟩:=az h4
  obtain⟨i,zv,hi,u7,bz,Yb,kY⟩:=Qx hz
  obtain⟨kk,e1,e2⟩:=PR hm
  have v1:=(hI.gk n)
  have v2:=(hI.gk c)
  rw[e1]at v1
  rw[e2]at v2
  have E4:i.size=1:=by simpa[ck,hi]using aB
  have BM:i.bytes=bZ:=by simpa[oF,hi]using gS
  have bH:m*1≤m*bZ:=Nat.mul_le_mul_left _ pv
  have F8:(bZ:Int)*(m:Int)≤281474976710656:=by
   have h:((bZ*m:Nat):Int)≤281474976710656:=by rw[Nat.mul_comm];omega
   rwa[Int.natCast_mul]at h
  have aU:=Go.run_make (P:=P) w t e' i zv (C8 he) hi u7 kk kk m m (by omega) (Int.le_refl _) (by rw[BM];exact F8) (by omega)
  simp only[Int.toNat_natCast,E4,Nat.mul_one]at aU
  have F9:(List.replicate m z).length =m:=by simp
  have cz:=D.Dt bz
  refine aV.KC hI (cells:=madeCells zv.cells m) (t:=e') (sz:=1) (L:=List.replicate m z) ?_ (by rw[F9,Nat.mul_one];exact size_madeCells _ _) (by rw[F9];simp only[maxLen];omega) (fun x hx=>?_) (fun i' x j c' hx hc=>?_) hk
  ·rw[F9]
   simp[execOp,ho,v1.int,v2.int,aU]
  ·rw[(List.mem_replicate.1 hx).2,cz]
   exact⟨rfl,fun c hc=>by rw[List.mem_singleton.1 hc];exact bz⟩
  ·have cB:=(List.mem_replicate.1 (List.mem_of_getElem? hx)).2
   have jO:i'<m:=by have:=(List.getElem?_eq_some_iff.1 hx).1;simpa using this
   subst cB
   rw[cz]at hc
   have hj:j=0:=by
    cases j with
    |zero=>rfl
    |succ j=>simp at hc
   subst hj
   simp at hc
   subst hc
   refine⟨by rw[size_madeCells];omega,?_⟩
   simp only[Nat.mul_one,Nat.add_zero,madeCells,Yb]
   simp[jO,Nat.mod_one]
   exact kY _ _
theorem bM.wP{base:Nat}{O:Nat→Nat→Nat→Nat→Prop}{b n sz:Nat}{v:Value}(h:bM base w g O (.a b n sz) v):
  n≤maxLen∧∃aj cap,g.bx[b]? =some (some aj)∧n≤cap∧v=.slice (some ⟨aj,0,none⟩) n cap∧cap≤maxLen∧∃c ty,w.heap[aj]? =some (.cells c ty (0,0))∧c.size=cap*sz:=by
 cases h with
 |a _ _ _ _ _ hm h=>exact⟨hm,h⟩
theorem Qy(hI:Inv gl w0 an e a w g){o:Oper}{c:Call}(ho:o.op=.call c)(hc:c.callee=.builtin .len){x:Operand}{xs:List Operand}{t:TypeId}{ts:List TypeId}
  (hx:c.args.toList=x::xs)(ht:c.argTypes.toList=t::ts){b n sz:Nat}(hs:(Ab.aJ gl e x).aa =.a b n sz)(jL:isSlice P t=true){k:Slot→List af→Prop}(hk:k (.v (.d (.int .i64 n))) e.boxes):aV P gl w0 an e.ai o a w k:=by
 obtain⟨hm,hv⟩:=(hI.kX hs).wP
 have h0:c.args[0]? =some x:=by rw[←Array.getElem?_toList,hx];rfl
 have h1:c.argTypes[0]? =some t:=by rw[←Array.getElem?_toList,ht];rfl
 have hu:∃e',P.underlying t=some (.slice e'):=by
  unfold isSlice at jL
  split at jL
  ·exact⟨_,by assumption⟩
  ·cases jL
 obtain⟨e',hu⟩:=hu
 have fX:∃ad cap,a.eval x=.slice ad n cap:=by
  obtain⟨aj,cap,_,_,h,_⟩:=hv
  exact⟨_,_,h⟩
 obtain⟨ad,cap,fX⟩:=fX
 refine aV.ea hI (v:=.int .i64 n) ?_ (.d _ _ _ (.int _ _ ?_)) hk
 ·have hl:(Builtin.len_ c.argTypes o.type (c.args.map a.eval)).run P w=.ok (.int .i64 n) w:=by simp[Builtin.len_,h0,h1,run_underlying hu,fX,goInt]
  simp[execOp,ho,resolve,hc,invoke,builtin,hl]
 ·simp only[maxLen]at hm
  simp[fg,IntKind.min,IntKind.max,IntKind.signed,IntKind.bits]
  omega
theorem Pc(hI:Inv gl w0 an e a w g){o:Oper}{t:TypeId}{x i:Operand}(ho:o.op=.indexAddr t x i){e':TypeId}(hu:P.underlying t=some (.slice e')){sz:Nat}(aB:ck P e'=some sz)
  {b n xu:Nat}(hs:(Ab.aJ gl e x).aa =.a b n xu){j:Nat}(hj:eh ((Ab.aJ gl e i).aa).aT n=some j){k:Slot→List af→Prop}(hk:k (.p b (j*sz)) e.boxes):aV P gl w0 an e.ai o a w k:=by
 obtain⟨hm,hv⟩:=(hI.kX hs).wP
 obtain⟨kk,ii,e1,h1,h2,rfl⟩:=pP hj
 have hi:=hI.gk i
 rw[e1]at hi
 have pn:=hi.int
 obtain⟨aj,cap,hb,hle,hv,_⟩:=hv
 refine aV.value hI (v:=.pointer (some ⟨aj,ii.toNat*sz,none⟩)) ?_ (.p _ _ _ _ hb) hk
 have:=mw aj 0 (ii.toNat*sz)
 rw[Nat.zero_add]at this
 simp[execOp,ho,Instr.indexAt,pn,asIntOf,run_underlying hu,hv,h1,h2,jh aB,this]
end
end Go.Proofs.Ytaknajjmldngiaa.Ab
namespace Go.Proofs.Ytaknajjmldngiaa.Ab
open Go Go.RowKit
section
variable{P:Program}{gl:Nat→Option D}{w0:World}{an:S0}{e:Env}{a:Act}{w:World}{g:Gh}
theorem Ih(hI:Inv gl w0 an e a w g){o:Oper}{c:Call}(ho:o.op=.call c)(hc:c.callee=.builtin .append){ai:List Slot}{lost:Nat→Prop}(hH:oS e ai lost o.dst)
  {x y:Operand}{t u:TypeId}
  (hx:c.args.toList=[x,y])(ht:c.argTypes.toList=[t,u]){sx sy:SV}{O:Nat→Nat→Nat→Prop}{Oy:Nat→Nat→Nat→Prop}(rx:aG w g.St w0.heap.size O sx (a.eval x))(ry:aG w g.St w0.heap.size Oy sy (a.eval y))
  (hO:∀b a' c,O b a' c→∃i0,fe w0.heap.size w g (.s i0 0) b a' c∧lost i0){k:Slot→List af→Prop}
  (h:bif Nat.beq t u then(ab (ke P t) fun e'=>ab (ck P e') fun sz=>ab (oF P e') fun bZ=>ab (jB P e') fun z=>
    bif Nat.blt 0 bZ&&Nat.blt 0 sz&&Nat.beq z.length sz then bW sz bZ sx sy fun r=>k (.v r) e.boxes else False)else False):aV P gl w0 an ai o a w k:=by
 cases lS:Nat.beq t u with
 |false=>rw[lS]at h;exact h.elim
 |true=>
  have:=Nat.eq_of_beq_eq_true lS
  subst this
  rw[lS]at h
  simp only[cond_true]at h
  obtain⟨e',he,h⟩:=az h
  obtain⟨sz,aB,h⟩:=az h
  obtain⟨bZ,gS,h⟩:=az h
  obtain⟨z,hz,h⟩:=az h
  cases cJ:(Nat.blt 0 bZ&&Nat.blt 0 sz&&Nat.beq z.length sz)with
  |false=>simp only[cJ,cond_false]at h
  |true=>
   simp only[cJ,cond_true]at h
   simp only[Bool.and_eq_true]at cJ
   obtain⟨⟨h1,h2⟩,h3⟩:=cJ
   have pv:0<bZ:=Nat.lt_of_succ_le (Nat.le_of_ble_eq_true h1)
   have ie:0<sz:=Nat.lt_of_succ_le (Nat.le_of_ble_eq_true h2)
   have zr:=Nat.eq_of_beq_eq_true h3
   obtain⟨⟨r,n⟩,hr,MV,hk⟩:=az h
   obtain⟨i,zv,hi,u7,fA⟩:=PQ hz
   have hu:=C8 he
   have E4:i.size=sz:=by simpa[ck,hi]using aB
   have BM:i.bytes=bZ:=by simpa[oF,hi]using gS
   intro next Q hn
   obtain⟨v,w',g',aU,hinv⟩:=O9 (ty:=o.type) hI hH hu hi u7 E4 (by rw[fA,zr]) ie rx ry hO hr (by rw[BM];exact MV) (by rw[BM];exact pv)
   unfold Oper.wp
   have eu:c.args.map a.eval= #[a.eval x,a.eval y]:=by
    apply Array.toList_inj.1
    rw[Array.toList_map,hx];rfl
   have WG:c.argTypes= #[t,t]:=by apply Array.toList_inj.1;rw[ht]
   have:(execOp a.eval o).run P w=.ok (.value v) w':=by
    simp only[execOp,ho,resolve,hc,Sem.run_bind,Sem.run_pure,Result.andThen_ok,invoke,builtin,eu,WG,aU]
   rw[this]
   exact hn (.v r) v _ w' g' hinv hk
theorem PS{b:Bool}{A:Prop}(h:cond b A False):b=true∧A:=by cases b;exact h.elim;exact⟨rfl,h⟩
theorem Rt(hI:Inv gl w0 an e a w g){id:Nat}{o:Oper}{k:Slot→List af→Prop}(h:b7 P (aD P gl) id o (fun x=>(Ab.aJ gl e x).aa) e.boxes k):aV P gl w0 an e.ai o a w k:=by
 cases ho:o.op<;>simp only[b7,ho]at h
 case move x=>exact aV.value hI (by simp[execOp,ho]) (hI.aJ x) h
 case assign x=>exact aV.value hI (by simp[execOp,ho]) (hI.aJ x) h
 case pick c x y=>
  split at h
  ·rename_i s hs
   obtain⟨b,rfl,h1,h2⟩:=wi h
   have hv:=(hI.n8 hs).data.pT
   cases b
   ·exact aV.value hI (v:=a.eval y) (by simp[execOp,ho,hv,asBool]) (hI.aJ y) (h2 rfl)
   ·exact aV.value hI (v:=a.eval x) (by simp[execOp,ho,hv,asBool]) (hI.aJ x) (h1 rfl)
  ·exact h.elim
 case alloc t=>
  split at h
  ·rename_i ej;exact PG hI ho ej h
  ·exact h.elim
 case box t x=>
  split at h
  ·rename_i ej;exact Rq hI ho ej h
  ·exact h.elim
 case build t ps=>exact PO hI ho h
 case buildSlice t n ps=>exact Ou hI ho h
 case load t x=>
  obtain⟨⟨b,n⟩,hl,h⟩:=az h
  split at h
  ·rename_i bn off hs;exact OT hI ho hl hs h
  ·rename_i s hs;exact PI hI ho hl hs h
  ·exact h.elim
 case store t x y=>
  obtain⟨n,hn,h⟩:=az h
  split at h
  ·rename_i bn off hs
   split at h
   ·rename_i hd;exact PJ hI ho hd hn hs h
   ·exact h.elim
  ·exact h.elim
 case nilCheck x=>exact OK hI ho h
 case binOp op t x y u=>exact Rp hI ho h
 case unOp op t x=>exact SE hI ho h
 case convert src dst x=>
  cases hs:(P.underlying src).isSome with
  |false=>rw[hs]at h;exact h.elim
  |true=>rw[hs]at h;exact Qs hI ho hs h
 case makeInterface t x=>exact PK hI ho h
 case makeFunc fn first cap=>exact OL hI ho h
 case slice t x lo hi mx=>exact PN hI ho h
 case fieldAddr t x f=>exact OA hI ho h
 case field t x f=>exact PL hI ho h
 case indexAddr t x i=>
  cases hs:(Ab.aJ gl e x).aa with
  |a b n=>
   rw[hs]at h
   split at h
   ·rename_i e' hu
    obtain⟨sz,aB,h1⟩:=az h
    obtain⟨j,hj,hk⟩:=az h1
    exact Pc hI ho hu aB hs hj hk
   ·obtain⟨sz,aB,h1⟩:=az h
    obtain⟨j,hj,hk⟩:=az h1
    exact hk.elim
   ·exact h.elim
  |_=>exact OB hI ho (by rw[hs]at h ⊢;exact h)
 case index t x i=>exact PM hI ho h
 case extract x i=>exact OV hI ho h
 case lookup t m x ok=>exact Pb hI ho h
 case makeSlice t n c=>exact OD hI ho h
 case makeMap t hn=>
  split at h
  ·rename_i hh ej;exact OX hI ho ej h
  ·exact h.elim
 case mapUpdate t m x y=>
  obtain⟨et,het,h1⟩:=az h
  split at h1
  ·rename_i b hm hd
   split at h1
   ·rename_i l hb
    obtain⟨n,hn,h2⟩:=az h1
    obtain⟨d,ic,h3⟩:=az h2
    obtain⟨l',dM,hk⟩:=az h3
    exact OC hI ho hd het hm hb hn ic dM hk
   ·exact h1.elim
  ·exact h1.elim
 case call c=>
  split at h
  ·rename_i f hc
   refine Qu hI ho hc (n:=arity P o.type) ?_
   split at h
   ·rename_i s hs;simp only[hs];exact h
   ·rename_i g' first cap hs;simp only[hs];exact h
   ·exact h.elim
  ·rename_i recv name hc
   refine Pa hI ho hc (n:=arity P o.type) ?_
   split at h
   ·rename_i s hs;simp only[hs];exact h
   ·exact h.elim
  ·rename_i b hc
   split at h
   ·rename_i x xs t ts hx ht
    cases hs:(Ab.aJ gl e x).aa with
    |a b n=>
     rw[hs]at h
     obtain⟨hb,hk⟩:=PS h
     exact Qy hI ho hc hx ht hs hb hk
    |_=>exact Rr hI ho hc hx ht (by rw[hs]at h ⊢;exact h)
   ·rename_i x y t u hx ht
    exact Ih hI ho hc (oS.same e o.dst) hx ht (hI.gk x) (hI.gk y) (fun _ _ _ h=>h.elim) h
   ·rename_i x xs ts hx;exact JS hI ho hc hx (.inl ⟨rfl,rfl⟩) h
   ·rename_i x xs ts hx;exact JS hI ho hc hx (.inr ⟨rfl,rfl⟩) h
   ·exact h.elim
 all_goals exact h.elim
end
end Go.Proofs.Ytaknajjmldngiaa.Ab
namespace Go.Proofs.Ytaknajjmldngiaa.Ab
open Go Go.RowKit
section
variable{P:Program}{gl:Nat→Option D}{w0:World}{an:S0}{e:Env}{a:Act}{w:World}{g:Gh}
abbrev uH(P:Program)(gl:Nat→Option D)(w0:World)(an:S0)(o:Oper)(a:Act)(w:World)(k:Env→Prop):Prop:=
 ∀(next:Act→World→Prop)(Q:Exit→Act→World→Prop),
  (∀e' v w' g',Inv gl w0 an e' (a.put o.dst v) w' g'→k e'→next (a.put o.dst v) w')→o.wp P a w next Q
theorem kK(hI:Inv gl w0 an e a w g)(t:Nat):bM w0.heap.size w g (fT w0.heap.size w g t) (e.ai.getD t (.v .undef)) (a.eval (.tmp t)):=by
 simp only[Act.eval,List.getD_eq_getElem?_getD]
 cases h:e.ai[t]? with
 |none=>exact .v _ _ _ (.undef _ _)
 |some s=>exact hI.ai t s h
def Gh.pw(g:Gh)(t:Nat)(q:Nat→Pos):Gh:={g with ow:=fun b=>match g.ow b with
 |some (.s i j)=>if i=t then some (q j)else some (.s i j)
 |x=>x}
theorem SH{base:Nat}{t:Nat}{q:Nat→Pos}{p:Pos}(hp:∀j,p≠.s t j){b a0 c0:Nat}(h:fe base w g p b a0 c0):fe base w (g.pw t q) p b a0 c0:=by
 obtain⟨h1,h2,h3,h4,h5⟩:=h
 refine⟨?_,h2,h3,h4,h5⟩
 simp only[Gh.pw,h1]
 cases p with
 |s i j=>
  simp only
  rw[if_neg (fun h=>hp j (by rw[h]))]
 |b i j=>rfl
theorem KD{base:Nat}{t:Nat}{q:Nat→Pos}{j:Nat}{b a0 c0:Nat}(h:fe base w g (.s t j) b a0 c0):fe base w (g.pw t q) (q j) b a0 c0:=by
 obtain⟨h1,h2,h3,h4,h5⟩:=h
 exact⟨by simp[Gh.pw,h1],h2,h3,h4,h5⟩
theorem Ext.pw{base:Nat}(t:Nat)(q:Nat→Pos)(lost:Pos→Prop)(hl:∀j,lost (.s t j)):Ext base w g w (g.pw t q) lost:=
 ⟨fun D _ hb hn h=>⟨h,hb,by simp[Gh.pw,hn],fun _ h=>h⟩,fun _ _ h=>(by first|exact⟨h,rfl⟩|exact⟨h,.refl _ _ _⟩),fun _ _ _=>rfl,fun _ _ h=>h,fun _ _ _ _ hp ho=>⟨SH (fun j hj=>hp (by rw[hj];exact hl j)) ho,.refl _ _ _⟩,.refl _⟩
theorem Jh(e:Env)(t:Nat)(dst:Option Nat):oS e (e.ai.set t (e.ai.getD t (.v .undef)).aa) (fun i=>i=t) dst:=by
 refine⟨by simp,fun i x hx _=>?_⟩
 rw[List.getElem?_set]at hx
 split at hx
 ·rename_i h
  subst h
  split at hx
  ·rename_i aS
   cases hx
   refine⟨e.ai[t],List.getElem?_eq_getElem aS,.inr ?_⟩
   rw[List.getD_eq_getElem?_getD,List.getElem?_eq_getElem aS];rfl
  ·cases hx
 ·rename_i h
  exact⟨x,hx,.inl ⟨rfl,fun h'=>h h'.symm⟩⟩
theorem JT(hI:Inv gl w0 an e a w g){o:Oper}{t:Nat}(aU:(execOp a.eval o).run P w=.ok (.value (a.eval (.tmp t))) w){k:Env→Prop}
  (h:k ⟨bF (e.ai.set t (e.ai.getD t (.v .undef)).aa) o.dst (e.ai.getD t (.v .undef)),e.boxes⟩):uH P gl w0 an o a w k:=by
 intro next Q hn
 unfold Oper.wp
 rw[aU]
 refine hn _ _ _ (match o.dst with|some d=>g.pw t (fun j=>.s d j)|none=>g) (hI.hand (Jh e t o.dst) ?_ (Below.refl _ _) (fun d hd=>?_) ?_ (fun _ _=>rfl) (fun b o' bB=>?_)) h
 ·cases o.dst with
  |none=>exact⟨fun _ _ hb ho h=>⟨h,hb,ho,fun _ h=>h⟩,fun _ _ h=>(by first|exact⟨h,rfl⟩|exact⟨h,.refl _ _ _⟩),fun _ _ _=>rfl,fun _ _ h=>h,fun _ _ _ _ _ h=>⟨h,.refl _ _ _⟩,.refl _⟩
  |some d=>exact Ext.pw t _ _ (fun j=>⟨t,j,rfl,.inl rfl⟩)
 ·rw[hd]
  exact(kK hI t).mono (fun _ _ h=>(by first|exact⟨h,rfl⟩|exact⟨h,.refl _ _ _⟩)) (fun _ _ _=>rfl) (fun _ _ h=>h) (.refl _) (fun j b a' c ho=>⟨KD (q:=fun j=>.s d j) ho,.refl _ _ _⟩)
 ·cases o.dst<;>rfl
 ·have:g.St b o':=by cases hd:o.dst<;>rw[hd]at bB<;>exact bB
  exact hI.bT b o' this
theorem PT(hI:Inv gl w0 an e a w g){o:Oper}{c:Call}(ho:o.op=.call c)(hc:c.callee=.builtin .append){t:Nat}{y:Operand}{ty u:TypeId}
  (hx:c.args.toList=[.tmp t,y])(ht:c.argTypes.toList=[ty,u]){k:Env→Prop}
  (h:bif Nat.beq ty u then(ab (ke P ty) fun e'=>ab (ck P e') fun sz=>ab (oF P e') fun bZ=>ab (jB P e') fun z=>
    bif Nat.blt 0 bZ&&Nat.blt 0 sz&&Nat.beq z.length sz then bW sz bZ (e.ai.getD t (.v .undef)).aT ((Ab.aJ gl e y).aa).aT fun r=>
     k ⟨bF (e.ai.set t (e.ai.getD t (.v .undef)).aa) o.dst (.v r),e.boxes⟩else False)else False):uH P gl w0 an o a w k:=by
 have hs:=kK hI t
 have rx:aG w g.St w0.heap.size (fT w0.heap.size w g t 0) (e.ai.getD t (.v .undef)).aT (a.eval (.tmp t)):=by
  revert hs
  generalize e.ai.getD t (.v .undef)=s
  intro hs
  cases s with
  |v x=>exact hs.jG
  |_=>exact .undef _ _
 intro next Q hn
 refine Ih hI ho hc (Jh e t o.dst) (lost:=fun i=>i=t) hx ht rx (hI.gk y) (fun b a' c' h=>⟨t,h,rfl⟩)
  (k:=fun s ak=>k ⟨bF (e.ai.set t (e.ai.getD t (.v .undef)).aa) o.dst s,ak⟩) h next Q (fun s v ak w' g' hinv hk=>hn _ v w' g' hinv hk)
theorem Pd(hI:Inv gl w0 an e a w g){o:Oper}{t i:Nat}(ho:o.op=.extract (.tmp t) i){vs:List SV}(hs:e.ai.getD t (.v .undef)=.t vs){r:SV}(hr:vs[i]? =some r){k:Env→Prop}
  (h:k ⟨bF (e.ai.set t (.t (vs.set i (aa r)))) o.dst (.v r),e.boxes⟩):uH P gl w0 an o a w k:=by
 have na:=kK hI t
 rw[hs]at na
 obtain⟨tv,hv,hl,hc⟩:=na.EI
 have hi:i<tv.size:=by rw[←hl];exact(List.getElem?_eq_some_iff.1 hr).1
 have Ga:t<e.ai.length:=by
  rcases Nat.lt_or_ge t e.ai.length with h|h
  ·exact h
  ·rw[List.getD_eq_getElem?_getD,List.getElem?_eq_none h]at hs;cases hs
 intro next Q hn
 have aU:(execOp a.eval o).run P w=.ok (.value tv[i]) w:=by simp[execOp,ho,Instr.extract,hv,hi]
 unfold Oper.wp
 rw[aU]
 let g':Gh:={g with ow:=fun b=>if g.ow b=some (.s t i)then o.dst.map (fun d=>.s d 0)else g.ow b}
 have hX:Ext w0.heap.size w g w g' (fun p=>p=.s t i∨∃d j,o.dst=some d∧p=.s d j):=by
  refine⟨fun D _ hb hn h=>⟨h,hb,(by
   show(if g.ow D=some (.s t i)then o.dst.map (fun d=>Pos.s d 0)else g.ow D)=none
   rw[if_neg (by rw[hn];simp)];exact hn),fun _ h=>h⟩,fun _ _ h=>(by first|exact⟨h,rfl⟩|exact⟨h,.refl _ _ _⟩),fun _ _ _=>rfl,fun _ _ h=>h,fun p b a' c' hp bJ=>⟨?_,.refl _ _ _⟩,.refl _⟩
  obtain⟨h1,h2,h3,h4,h5⟩:=bJ
  refine⟨?_,h2,h3,h4,h5⟩
  show(if g.ow b=some (.s t i)then o.dst.map (fun d=>Pos.s d 0)else g.ow b)=some p
  rw[if_neg (by rw[h1];intro h;cases h;exact hp (.inl rfl))]
  exact h1
 refine hn _ _ w g' (hI.stepG hX (Below.refl _ _) (by simp) (fun i' x hx hd=>?_) (fun d hd=>?_) hI.er (fun b bx aj h1 h2=>?_) hI.nodup hI.cU hI.bT) h
 ·rw[List.getElem?_set]at hx
  split at hx
  ·rename_i he
   subst he
   simp only[Ga,↓reduceIte,Option.some.injEq]at hx
   subst hx
   have Yc:a.tmps.getD t undef=.tuple tv:=hv
   rw[Yc]
   refine .t _ _ tv (by simpa using hl) fun j x v hx fX=>?_
   rw[List.getElem?_set]at hx
   split at hx
   ·rename_i j9
    subst j9
    split at hx
    ·cases hx
     exact((hc i r v hr fX).aa (O':=fun _ _ _=>False)).mono hX.st hX.bs _ (fun _ _ _ h=>h.elim)
    ·cases hx
   ·rename_i j9
    refine(hc j x v hx fX).mono hX.st hX.bs _ (fun b a' c' bJ=>hX.own _ b a' c' ?_ bJ)
    rintro(h|⟨d,j',h1,h2⟩)
    ·cases h;exact j9 rfl
    ·cases h2;exact hd h1
  ·rename_i he
   refine hX.slot (fun j=>?_) (hI.ai i' x hx)
   rintro(h|⟨d,j',h1,h2⟩)
   ·cases h;exact he rfl
   ·cases h2;exact hd h1
 ·refine .v _ _ _ ((hc i r tv[i] hr (by simp)).mono hX.st hX.bs _ (fun b a' c' bJ=>⟨?_,.refl _ _ _⟩))
  obtain⟨h1,h2,h3,h4,h5⟩:=bJ
  refine⟨?_,h2,h3,h4,h5⟩
  show(if g.ow b=some (.s t i)then o.dst.map (fun d=>Pos.s d 0)else g.ow b)=some (.s d 0)
  rw[if_pos h1,hd];rfl
 ·refine hX.box (fun j=>?_) rfl (hI.boxes b bx aj h1 h2)
  rintro(h|⟨d,j',h1,h2⟩)
  ·cases h
  ·cases h2
theorem Ru(hI:Inv gl w0 an e a w g){o:Oper}{ty:TypeId}{x:Operand}(ho:o.op=.load ty x){bn off:Nat}(hs:(Ab.aJ gl e x).aa =.p bn off){ly:Bool×Nat}(hl:fH P ty=some ly)(eK:ly.1=false)
  {cs:List SV}(bw:e.boxes[bn]? =some (.cells cs)){y:SV}(hy:cs[off]? =some y){k:Env→Prop}(h:k ⟨bF e.ai o.dst (.v y),e.boxes.set bn (.cells (cs.set off (aa y)))⟩):uH P gl w0 an o a w k:=by
 obtain⟨b0,n⟩:=ly
 simp only at eK
 subst eK
 obtain⟨aj,hv,b6⟩:=(hI.kX hs).jq
 obtain⟨h0,c,te,hc,bz,hlen,aQ⟩:=hI.boxes bn _ aj bw b6
 have rG:off<c.size:=Nat.lt_of_lt_of_le (List.getElem?_eq_some_iff.1 hy).1 hlen
 have aN:w.cell? ⟨aj,off,none⟩=some c[off]:=by rw[cell_of_row w aj off c te (0,0) hc];simp[rG]
 have aU:(execOp a.eval o).run P w=.ok (.value c[off]) w:=by
  have:=sQ (P:=P) (w:=w) hl aj off (fun _=>c[off]) (fun j hj=>by simp at hj;subst hj;exact aN)
  simp[execOp,ho,Instr.loadAt,Instr.sureAddr,hv,this]
 intro next Q hn
 unfold Oper.wp
 rw[aU]
 let g':Gh:={g with ow:=fun b=>if g.ow b=some (.b bn off)then o.dst.map (fun d=>.s d 0)else g.ow b}
 refine hn _ _ w g' (hI.Eu (dst:=o.dst) (ai:=e.ai) (fun _=>False) (fun j=>j=off) (g':=g') rfl rfl (fun p b' h1 h2 h3 h4=>?_) (fun D hD=>by
   show(if g.ow D=some (.b bn off)then o.dst.map (fun d=>.s d 0)else g.ow D)=none
   rw[if_neg (by rw[hD];simp)];exact hD) b6 (fun j y hj=>bz j y (by simpa[af.size]using hj)) hc (fun c ty h=>by rw[hc]at h;cases h;rfl) (fun _ _=>rfl) rfl ⟨rfl,rfl,rfl⟩ rfl
  (fun i x hx _=>⟨x,hx,.inl ⟨rfl,fun h=>h⟩⟩) (fun hX=>?_) (fun hX d hd=>?_)) h
 ·show(if g.ow b'=some (.b bn off)then o.dst.map (fun d=>Pos.s d 0)else g.ow b')=some p
  rw[if_neg (by rw[h4];intro h;cases h;exact h2 off rfl rfl)]
  exact h4
 ·refine⟨by simpa using hlen,fun j x u hx hu=>?_⟩
  rw[List.getElem?_set]at hx
  split at hx
  ·rename_i hj
   subst hj
   split at hx
   ·cases hx
    exact((aQ off y u hy hu).aa (O':=fun _ _ _=>False)).mono hX.st hX.bs _ (fun _ _ _ h=>h.elim)
   ·cases hx
  ·rename_i hj
   refine(aQ j x u hx hu).mono hX.st hX.bs _ (fun b' a' c' bJ=>hX.own _ b' a' c' ?_ bJ)
   rintro(⟨i,j',h,_⟩|⟨j',h,h'⟩|⟨d,j',_,h⟩)
   ·cases h
   ·cases h;exact hj h'.symm
   ·cases h
 ·refine .v _ _ _ ((aQ off y c[off] hy (by simp)).mono hX.st hX.bs _ (fun b' a' c' bJ=>⟨?_,.refl _ _ _⟩))
  obtain⟨h1,h2,h3,h4,h5⟩:=bJ
  refine⟨?_,h2,h3,h4,h5⟩
  show(if g.ow b'=some (.b bn off)then o.dst.map (fun d=>Pos.s d 0)else g.ow b')=some (.s d 0)
  rw[if_pos h1,hd];rfl
theorem Qz(hI:Inv gl w0 an e a w g){o:Oper}{ty:TypeId}{x:Operand}{t:Nat}(ho:o.op=.store ty x (.tmp t))(hd:o.dst=none){bn off:Nat}(hs:(Ab.aJ gl e x).aa =.p bn off)
  (n9:ck P ty=some 1){y:SV}(hy:e.ai.getD t (.v .undef)=.v y){cs:List SV}(bw:e.boxes[bn]? =some (.cells cs)){l:List SV}(hl:aA y=some l)(pj:l.length=1)(rG:off<cs.length)
  {k:Env→Prop}(h:k ⟨e.ai.set t (.v (aa y)),e.boxes.set bn (.cells (setAt cs off l))⟩):uH P gl w0 an o a w k:=by
 obtain⟨aj,hv,b6⟩:=(hI.kX hs).jq
 obtain⟨h0,c,te,hc,bz,hlen,aQ⟩:=hI.boxes bn _ aj bw b6
 have na:=kK hI t
 rw[hy]at na
 obtain⟨c1,c2,c3⟩:=na.jG.cells hl
 have ja:(a.eval (.tmp t)).cells.size =1:=by rw[←c1,pj]
 have bB:=xO (P:=P) (w:=w) n9 hc ja c2 (off:=off) (by omega)
 have aU:(execOp a.eval o).run P w=.ok .skip (w.setRow aj (c.toList.take off++(a.eval (.tmp t)).cells.toList ++c.toList.drop (off+1)).toArray):=by
  simp[execOp,ho,Instr.storeAt,Instr.sureAddr,hv,bB]
 intro next Q hn
 unfold Oper.wp
 rw[aU]
 have g9:=setRow_heap w aj c (c.toList.take off++(a.eval (.tmp t)).cells.toList ++c.toList.drop (off+1)).toArray te (0,0) hc
 let g':Gh:=g.pw t (fun _=>.b bn off)
 have j4:∀j,(c.toList.take off++(a.eval (.tmp t)).cells.toList ++c.toList.drop (off+1)).toArray[j]? =if j<off then c[j]? else if j<off+1 then(a.eval (.tmp t)).cells[j-off]? else c[j]? :=by
  intro j
  have nn:(a.eval (.tmp t)).cells.toList.length =1:=by simpa using ja
  have:=qP c.toList (a.eval (.tmp t)).cells.toList off (by rw[nn];simp;omega) j
  rw[nn]at this
  simp only[List.getElem?_toArray]
  rw[this]
  simp only[Array.getElem?_toList]
 have e0:(⟨e.ai.set t (.v (aa y)),e.boxes.set bn (.cells (setAt cs off l))⟩:Env)=⟨bF (e.ai.set t (.v (aa y))) o.dst (.t []),e.boxes.set bn (.cells (setAt cs off l))⟩:=by rw[hd];rfl
 rw[e0]at h
 refine hn _ undef _ g' (hI.Eu (dst:=o.dst) (s:=.t []) (ai:=e.ai.set t (.v (aa y))) (fun i=>i=t) (fun j=>j=off) (g':=g') rfl rfl (fun p b' h1 h2 h3 h4=>?_) (fun D hD=>by simp[g',Gh.pw,hD]) b6 ?_ g9 (fun c ty h=>by rw[hc]at h;cases h;simp[ja];omega)
  (fun k hk=>setRow_other w aj k _ hk) (by simp[World.setRow]) ⟨rfl,rfl,rfl⟩ (by simp) (fun i x hx _=>?_) (fun hX=>?_) (fun hX d ic=>by rw[hd]at ic;cases ic)) h
 ·show(match g.ow b' with|some (.s i j)=>if i=t then some (Pos.b bn off)else some (.s i j)|x=>x)=some p
  rw[h4]
  cases p with
  |s i j=>simp only;rw[if_neg (fun h=>h1 i j rfl h)]
  |b i j=>rfl
 ·intro j u hj hu
  rw[←ja]at hu
  exact Iu (m:=cs.length) (by omega) bz c2 j u (by simp only[af.size,v8 l cs off (by omega),List.length_append,List.length_take,List.length_drop]at hj;omega) hu
 ·rw[List.getElem?_set]at hx
  split at hx
  ·rename_i he
   subst he
   split at hx
   ·rename_i aS
    cases hx
    rw[List.getD_eq_getElem?_getD,List.getElem?_eq_getElem aS]at hy
    simp only[Option.getD_some]at hy
    exact⟨_,List.getElem?_eq_getElem aS,.inr (by rw[hy];rfl)⟩
   ·cases hx
  ·rename_i he
   exact⟨x,hx,.inl ⟨rfl,fun h=>he h.symm⟩⟩
 ·rw[v8 l cs off (by omega)]
  refine⟨by simp[ja,pj];omega,fun j x' u cB hu=>?_⟩
  rw[j4]at hu
  rw[qP cs l off (by omega),pj]at cB
  have fB:j≠off→cs[j]? =some x'→c[j]? =some u→aG (w.setRow aj (c.toList.take off++(a.eval (.tmp t)).cells.toList ++c.toList.drop (off+1)).toArray) g'.St w0.heap.size (nT w0.heap.size _ g' bn j) x' u:=fun hj h4 h5=>
   (aQ j x' u h4 h5).mono hX.st hX.bs _ (fun b' a' c' bJ=>hX.own _ b' a' c' (by
     rintro(⟨i,j',h,_⟩|⟨j',h,h'⟩|⟨d,j',_,h⟩)
     ·cases h
     ·cases h;exact hj h'
     ·cases h) bJ)
  split at cB
  ·rename_i hj
   rw[if_pos hj]at hu
   exact fB (by omega) cB hu
  ·rename_i hj
   rw[if_neg hj]at hu
   split at cB
   ·rename_i od
    rw[if_pos od]at hu
    have B4:j=off:=by omega
    subst B4
    refine(c3 (j-j) x' u cB hu).mono hX.st hX.bs _ (fun b' a' c' bJ=>?_)
    have:=KD (q:=fun _=>Pos.b bn j) bJ
    obtain⟨h1,h2,h3,⟨cur,rU,h4,kz⟩,h5⟩:=this
    have bm:b'≠aj:=fun h=>h3 (h▸List.mem_of_getElem? b6)
    exact⟨⟨h1,h2,h3,⟨cur,rU,(setRow_other w aj b' _ bm).trans h4,kz⟩,h5⟩,fun _=>setRow_other w aj b' _ bm⟩
   ·rename_i od
    rw[if_neg od]at hu
    exact fB (by omega) cB hu
theorem PU(hI:Inv gl w0 an e a w g){o:Oper}{k:Env→Prop}(h:jD P gl o e k):uH P gl w0 an o a w k:=by
 unfold jD at h
 split at h
 ·rename_i t ho;exact JT hI (by simp[execOp,ho]) h
 ·rename_i t ho;exact JT hI (by simp[execOp,ho]) h
 ·rename_i t i ho
  split at h
  ·rename_i vs hs
   split at h
   ·rename_i r hr;exact Pd hI ho hs hr h
   ·exact h.elim
  ·exact h.elim
 ·rename_i ty x ho
  split at h
  ·rename_i b off hs
   obtain⟨ly,hl,h⟩:=az h
   cases eK:ly.1 with
   |true=>rw[eK]at h;exact h.elim
   |false=>
    rw[eK]at h
    simp only[cond_false]at h
    split at h
    ·rename_i cs bw
     obtain⟨y,hy,h⟩:=az h
     exact Ru hI ho hs hl eK bw hy h
    ·exact h.elim
  ·exact h.elim
 ·rename_i ty x t ho
  split at h
  ·rename_i b off y hs hy hd
   obtain⟨sz,aB,h⟩:=az h
   cases hb:Nat.beq sz 1 with
   |false=>rw[hb]at h;exact h.elim
   |true=>
    rw[hb]at h
    simp only[cond_true]at h
    have:=Nat.eq_of_beq_eq_true hb
    subst this
    split at h
    ·rename_i cs bw
     obtain⟨l,hl,h1,h2,h⟩:=az h
     exact Qz hI ho hd hs aB hy bw hl h1 h2 h
    ·exact h.elim
  ·exact h.elim
 ·rename_i t n ps ho
  obtain⟨r',e',sz,L,hk,aU,aB,kn,iD,aQ⟩:=HA hI ho (K:=fun sz L=>k ⟨bF e.ai o.dst (.v (.bj sz L)),e.boxes⟩) h
  intro next Q hn
  exact aV.KC hI (k:=fun s ak=>k ⟨bF e.ai o.dst s,ak⟩) aU aB kn iD aQ hk next Q (fun s v ak w' g' hinv hk=>hn _ v w' g' hinv hk)
 ·rename_i c ho
  split at h
  ·rename_i t y ty u hc hx ht
   exact PT hI ho hc hx ht h
  ·exact h.elim
 ·exact h.elim
theorem Ji(hI:Inv gl w0 an e a w g){id:Nat}{ax:Bool}{o:Oper}{k:Env→Prop}(h:j3 P gl (aD P gl) id ax o e k):uH P gl w0 an o a w k:=by
 unfold j3 at h
 cases ax<;>simp only[cond_true,cond_false]at h
 ·intro next Q hn
  exact Rt hI h next Q (fun s v ak w' g' hinv hk=>hn _ v w' g' hinv hk)
 ·exact PU hI h
end
end Go.Proofs.Ytaknajjmldngiaa.Ab
namespace Go.Proofs.Ytaknajjmldngiaa.Ab
open Go Go.RowKit
def ka(U:Option (Nat×af))(ak:List af):List af:=match U with
 |none=>ak
 |some (b,bx)=>ak.set b bx
def hN(src:Option (Nat×Slot))(l:List Slot):List Slot:=match src with
 |none=>l
 |some (t,s)=>l.set t s
def oW(x y:Option af):Prop:=x=y∨∃cs dJ,x=some (.cells cs)∧y=some (.cells dJ)∧cs.map Ab.aa=dJ.map Ab.aa
theorem oW.refl(x:Option af):oW x x:=.inl rfl
theorem oW.symm{x y:Option af}(h:oW x y):oW y x:=by
 rcases h with h|⟨cs,dJ,h1,h2,h3⟩
 ·exact .inl h.symm
 ·exact .inr ⟨dJ,cs,h2,h1,h3.symm⟩
theorem oW.trans{x y z:Option af}(h:oW x y)(k:oW y z):oW x z:=by
 rcases h with rfl|⟨cs,dJ,h1,h2,h3⟩
 ·exact k
 ·rcases k with rfl|⟨ds,Gb,k1,k2,k3⟩
  ·exact .inr ⟨cs,dJ,h1,h2,h3⟩
  ·rw[h2]at k1
   cases k1
   exact .inr ⟨cs,Gb,h1,k2,h3.trans k3⟩
theorem SI(x:SV):cg (aa x)=cg x:=by cases x<;>rfl
theorem DM:∀(l:List SV),dT (l.map aa)=dT l
 |[]=>rfl
 |x::l=>by simp only[List.map_cons,dT,SI,DM l]
theorem PV{agg:Bool}{sz off:Nat}{cs dJ:List SV}{y:SV}(h:cs.map Ab.aa=dJ.map Ab.aa)(hy:ag agg sz off cs=some y):∃y',ag agg sz off dJ=some y'∧aa y'=aa y:=by
 have hlen:cs.length=dJ.length:=by have:=congrArg List.length h;simpa using this
 cases agg with
 |false=>
  simp only[ag,cond_false]at hy ⊢
  have h1:(dJ.map Ab.aa)[off]? =some (aa y):=by rw[←h];simp[hy]
  rw[List.getElem?_map]at h1
  obtain⟨y',h2,h3⟩:=Option.map_eq_some_iff.1 h1
  exact⟨y',h2,h3⟩
 |true=>
  refine⟨y,?_,rfl⟩
  simp only[ag,cond_true]at hy ⊢
  have h1:dT ((dJ.drop off).take sz)=dT ((cs.drop off).take sz):=by
   rw[←DM,←DM ((cs.drop off).take sz),List.map_take,List.map_drop,List.map_take,List.map_drop,h]
  rw[h1,←hlen]
  exact hy
def ki(WH:Bool)(s:Slot)(ak b':List af):Prop:=(∀b off,s=.p b off→oW b'[b]? ak[b]? ∧(WH=false→b'[b]? =ak[b]?))∧(∀n,snap b' n s=snap ak n s)∧∀b l,s=.m b→(b'[b]? =some (.map l)↔ak[b]? =some (.map l))
structure rL(id:Nat)(ax:Bool)(o:Oper)(U:Option (Nat×af))(ρ:Operand→Slot)(ak b':List af):Prop where
 mem:gF o=true→∀x∈o.op.operands,ki (!ir o&& !ax) (ρ x) ak b'
 fresh:e9 o=true→U≠none→b'[id]? =some .none
inductive rA(id:Nat)(o:Oper)(ax:Bool)(ρ:Operand→Slot)(ak:List af):Option (Nat×af)→Prop
 |none:rA id o ax ρ ak none
 |mk (bx:af) (h:e9 o=true) (hn:ak[id]? =some .none) (hb:bx≠.none):rA id o ax ρ ak (some (id,bx))
 |wr (b:Nat) (bx fB:af) (h:gF o=true) (hw:ir o=true∨ax=true) (x:Operand) (hx:x∈o.op.operands) (off:Nat) (hp:ρ x=.p b off∨ρ x=.m b) (ho:ak[b]? =some fB) (hold:fB≠.none) (hb:bx≠.none ∧bx.isMap=fB.isMap)
   (nU:ax=true→ir o=false→∃cs dJ,fB=.cells cs∧bx=.cells dJ∧cs.map Ab.aa=dJ.map Ab.aa)
   (ha:∀t y z,o.op=.store t y z→x=y):
   rA id o ax ρ ak (some (b,bx))
inductive cS(K:Nat→Prop):Slot→Prop
 |v (x:SV):cS K (.v x)
 |t (l:List SV):cS K (.t l)
 |p (b off:Nat) (h:K b):cS K (.p b off)
 |a (b n sz:Nat) (h:K b):cS K (.a b n sz)
 |m (b:Nat) (h:K b):cS K (.m b)
 |c (f:Fn) (first cap:List Slot) (h1:∀s∈first,cS K s) (h2:∀s∈cap,cS K s):cS K (.c f first cap)
theorem cS.cF{K:Nat→Prop}{s:Slot}(h:cS K s):cS K s.aa:=by
 cases h with
 |v x=>exact .v _
 |t l=>exact .t _
 |p b off h=>exact .p b off h
 |a b n sz h=>exact .a b n sz h
 |m b h=>exact .m b h
 |c f first cap h1 h2=>exact .c f first cap h1 h2
theorem cS.VE{K:Nat→Prop}{s:Slot}(h:cS K s.aa):cS K s:=by
 cases s with
 |v x=>exact .v _
 |t l=>exact .t _
 |p b off=>exact h
 |a b n sz=>exact h
 |m b=>exact h
 |c f first cap=>exact h
theorem cS.jq{K:Nat→Prop}{b off:Nat}(h:cS K (.p b off)):K b:=by cases h;assumption
theorem cS.LP{K:Nat→Prop}{b:Nat}(h:cS K (.m b)):K b:=by cases h;assumption
theorem cS.wP{K:Nat→Prop}{b n sz:Nat}(h:cS K (.a b n sz)):K b:=by cases h;assumption
def addrOf(o:Oper):Option Operand:=match o.op with| .store _ x _=>some x|_=>none
def w8(o:Oper)(ρ:Operand→Slot)(ak:List af)(s:Slot)(U:Option (Nat×af)):Prop:=
 ∀(K B:Nat→Prop),(∀b,K b→B b)→(∀x∈o.op.operands,addrOf o≠some x→cS K (ρ x))→(∀t x y,o.op=.store t x y→cS K (ρ y))→(∀b s,B b→ak[b]? =some (.one s)→cS K s)→
  (e9 o=false→cS K s)∧∀b s',U=some (b,.one s')→e9 o=false→cS K s'
theorem gI{o:Oper}{ρ:Operand→Slot}{ak:List af}{x:SV}:w8 o ρ ak (.v x) none:=fun _ _ _ _ _ _=>⟨fun _=>.v _,fun _ _ h=>by cases h⟩
theorem BN{o:Oper}{ρ:Operand→Slot}{ak:List af}{s:Slot}{U:Option (Nat×af)}(h:e9 o=true):w8 o ρ ak s U:=fun _ _ _ _ _ _=>⟨fun h2=>(by rw[h]at h2;cases h2),fun _ _ _ h2=>(by rw[h]at h2;cases h2)⟩
theorem BO{o:Oper}{ρ:Operand→Slot}{ak:List af}{s:Slot}(h:∀K,cS K s):w8 o ρ ak s none:=fun K _ _ _ _ _=>⟨fun _=>h K,fun _ _ h=>by cases h⟩
theorem qt{o:Oper}{ρ:Operand→Slot}{ak:List af}{s:Slot}{x:Operand}(hx:x∈o.op.operands)(ha:addrOf o=none)(h:∀K,cS K (ρ x)→cS K s):w8 o ρ ak s none:=fun K _ _ hρ _ _=>⟨fun _=>h K (hρ x hx (by rw[ha];simp)),fun _ _ h=>by cases h⟩
theorem BP{o:Oper}{ρ:Operand→Slot}{ak:List af}{l:List SV}{b:Nat}{cs:List SV}:w8 o ρ ak (.t l) (some (b,.cells cs)):=fun _ _ _ _ _ _=>⟨fun _=>.t _,fun _ _ h=>by cases h⟩
section
variable{P:Program}{gl:Nat→Option D}{C:bu}
theorem z9{ρ ρ':Operand→Slot}:∀{l:List (Nat×Operand)},(∀p∈l,ρ' p.2=ρ p.2)→kh ρ' l=kh ρ l
 |[],_=>rfl
 |(i,x)::l,h=>by
  simp only[kh]
  rw[h (i,x) (by simp),z9 (fun p hp=>h p (by simp[hp]))]
theorem HZ{ρ ρ':Operand→Slot}{ak b':List af}:∀{l:List Operand},(∀x∈l,snap b' 6 (ρ' x)=snap ak 6 (ρ x))→iz b' ρ' l=iz ak ρ l
 |[],_=>rfl
 |x::l,h=>by
  simp only[iz]
  rw[h x (by simp),HZ (fun p hp=>h p (by simp[hp]))]
theorem C9{ρ ρ':Operand→Slot}{x:Option Operand}(h:∀y,x=some y→ρ' y=ρ y):kV ρ' x=kV ρ x:=by
 cases x with
 |none=>rfl
 |some y=>simp only[kV];rw[h y rfl]
theorem Du:∀{n:Nat}{k:List SV→Prop}(rs:List SV),rs.length=n→k rs→zh n k
 |0,_,[],_,h=>h
 |n+1,_,r::rs,hl,h=>⟨r,Du rs (by simpa using hl) h⟩
 |0,_,_::_,hl,_=>by simp at hl
 |_+1,_,[],hl,_=>by simp at hl
theorem Da{n:Nat}{ak:List af}{k:Slot→List af→Prop}{f:FuncId}{args:List SV}(h:kQ C n ak k f args):
  ∃s,k s ak∧(∀K,cS K s)∧∀b' k',k' s b'→kQ C n b' k' f args:=by
 unfold kQ at h
 split at h
 ·obtain⟨r,h1,h2,h3⟩:=h
  exact⟨.v r,h3,fun K=>.v _,fun b' k' hk=>⟨r,h1,h2,hk⟩⟩
 ·rename_i hn
  obtain⟨rs,hl,h1,h2⟩:=D8 h
  refine⟨.t rs,h2,fun K=>.t _,fun b' k' hk=>?_⟩
  unfold kQ
  split
  ·exact absurd rfl hn
  ·exact Du rs hl ⟨h1,hk⟩
theorem Pe{x:SV}{args:List SV}{K:FuncId→List SV→Prop}(h:withFn x args K):∃f l,K f l∧∀K':FuncId→List SV→Prop,K' f l→withFn x args K':=by
 unfold withFn at h
 split at h
 ·exact⟨_,_,h,fun _ h=>h⟩
 ·exact⟨_,_,h,fun _ h=>h⟩
 ·exact h.elim
theorem OM{x:SV}{name:String}{args:List SV}{K:FuncId→List SV→Prop}(h:qS P x name args K):∃f l,K f l∧∀K':FuncId→List SV→Prop,K' f l→qS P x name args K':=by
 unfold qS at h
 split at h
 ·obtain⟨f,hf,h⟩:=az h
  exact⟨_,_,h,fun K' hk=>by simp only[qS,hf];exact hk⟩
 ·exact h.elim
theorem SJ{ak b':List af}{f:Fn}{first cap:List Slot}(h:∀n,snap b' n (.c f first cap)=snap ak n (.c f first cap)):
  gE (snap b' 6) first=gE (snap ak 6) first∧gE (snap b' 6) cap=gE (snap ak 6) cap:=by
 have:=h 7
 simp only[snap,SV.dg.injEq,true_and]at this
 exact this
theorem Rv{id:Nat}{o:Oper}{ρ:Operand→Slot}{ak:List af}{k:Slot→List af→Prop}(h:b7 P C id o ρ ak k):
  ∃s U,k s (ka U ak)∧rA id o false ρ ak U∧w8 o ρ ak s U∧
   ∀(ρ':Operand→Slot)(b':List af)(k':Slot→List af→Prop),(∀x∈o.op.operands,ρ' x=ρ x)→rL id false o U ρ ak b'→k' s (ka U b')→b7 P C id o ρ' b' k':=by
 cases ho:o.op<;>simp only[b7,ho]at h
 case move x=>
  refine⟨_,none,h,.none,qt (x:=x) (by simp[ho,Op.operands]) (by simp[addrOf,ho]) (fun _ h=>h),fun ρ' b' k' hρ _ hk=>?_⟩
  simp only[b7,ho];rw[hρ x (by simp[Op.operands])];exact hk
 case assign x=>
  refine⟨_,none,h,.none,qt (x:=x) (by simp[ho,Op.operands]) (by simp[addrOf,ho]) (fun _ h=>h),fun ρ' b' k' hρ _ hk=>?_⟩
  simp only[b7,ho];rw[hρ x (by simp[Op.operands])];exact hk
 case pick c x y=>
  split at h
  ·rename_i s hs
   obtain⟨b,rfl,h1,h2⟩:=wi h
   cases b
   ·refine⟨_,none,h2 rfl,.none,qt (x:=y) (by simp[ho,Op.operands]) (by simp[addrOf,ho]) (fun _ h=>h),fun ρ' b' k' hρ _ hk=>?_⟩
    simp only[b7,ho];rw[hρ c (by simp[Op.operands]),hρ x (by simp[Op.operands]),hρ y (by simp[Op.operands]),hs];exact hk
   ·refine⟨_,none,h1 rfl,.none,qt (x:=x) (by simp[ho,Op.operands]) (by simp[addrOf,ho]) (fun _ h=>h),fun ρ' b' k' hρ _ hk=>?_⟩
    simp only[b7,ho];rw[hρ c (by simp[Op.operands]),hρ x (by simp[Op.operands]),hρ y (by simp[Op.operands]),hs];exact hk
  ·exact h.elim
 case alloc t=>
  split at h
  ·rename_i ej
   obtain⟨z,hz,hk⟩:=az h
   refine⟨_,some (id,_),hk,.mk _ (by simp[e9,ho]) ej (by simp),BN (by simp[e9,ho]),fun ρ' b' k' hρ hS hk=>?_⟩
   simp only[b7,ho,hS.fresh (by simp[e9,ho]) (by simp),hz,ab];exact hk
  ·exact h.elim
 case box t x=>
  split at h
  ·rename_i ej
   obtain⟨sz,aB,h⟩:=az h
   split at h
   ·rename_i y hy
    obtain⟨l,hl,hlen,hk⟩:=az h
    refine⟨_,some (id,_),hk,.mk _ (by simp[e9,ho]) ej (by simp),BN (by simp[e9,ho]),fun ρ' b' k' hρ hS hk=>?_⟩
    simp only[b7,ho,hS.fresh (by simp[e9,ho]) (by simp),aB,ab];rw[hρ x (by simp[Op.operands]),hy];simp only[hl];exact⟨hlen,hk⟩
   ·exact h.elim
   ·rename_i h1 h2
    split at h
    ·refine⟨_,some (id,_),h,.mk _ (by simp[e9,ho]) ej (by simp),BN (by simp[e9,ho]),fun ρ' b' k' hρ hS hk=>?_⟩
     simp only[b7,ho,hS.fresh (by simp[e9,ho]) (by simp),aB,ab];rw[hρ x (by simp[Op.operands])]
     split
     ·rename_i y hy;exact absurd hy (h1 y)
     ·rename_i y hy;exact absurd hy (h2 y)
     ·exact hk
    ·exact h.elim
  ·exact h.elim
 case build t ps=>
  obtain⟨l,hl,h⟩:=az h
  obtain⟨r,hr,h⟩:=az h
  refine⟨_,none,h,.none,gI,fun ρ' b' k' hρ _ hk=>?_⟩
  simp only[b7,ho]
  rw[z9 (fun p hp=>hρ p.2 (by simp only[Op.operands,List.mem_toArray,List.mem_map];exact⟨p,hp,rfl⟩)),hl]
  simp only[ab,hr];exact hk
 case buildSlice t n ps=>
  obtain⟨e,he,h⟩:=az h
  obtain⟨ly,eK,h⟩:=az h
  obtain⟨z,hz,h⟩:=az h
  obtain⟨l,hl,h⟩:=az h
  cases hc:(Nat.ble (n*ly.2) (2^24)&&Nat.blt 0 ly.2&&Nat.beq z.length ly.2)with
  |false=>rw[hc]at h;exact h.elim
  |true=>
   rw[hc]at h
   simp only[cond_true]at h
   refine⟨_,none,h.2,.none,gI,fun ρ' b' k' hρ _ hk=>?_⟩
   simp only[b7,ho]
   rw[z9 (fun p hp=>hρ p.2 (by simp only[Op.operands,List.mem_toArray,List.mem_map];exact⟨p,hp,rfl⟩)),hl]
   simp only[ab,he,eK,hz,hc,cond_true];exact⟨h.1,hk⟩
 case load t x=>
  obtain⟨ly,hl,h⟩:=az h
  split at h
  ·rename_i bn off hs
   unfold my at h
   have Cc:∀{U b'},rL id false o U ρ ak b'→oW b'[bn]? ak[bn]? :=fun hS=>((hS.mem (by simp[gF,ho]) x (by simp[ho,Op.operands])).1 bn off hs).1
   split at h
   ·rename_i cs bw
    obtain⟨y,hy,h⟩:=az h
    refine⟨_,none,h,.none,gI,fun ρ' b' k' hρ hS hk=>?_⟩
    simp only[b7,ho,hl,ab];rw[hρ x (by simp[Op.operands]),hs]
    rcases Cc hS with hn|⟨ds,Gb,h1,h2,h3⟩
    ·simp only[my,hn,bw,ab,hy];exact hk
    ·rw[bw]at h2
     cases h2
     obtain⟨y',qC,hd⟩:=PV h3.symm hy
     simp only[my,h1,ab,qC,hd];exact hk
   ·rename_i s bw
    cases hb:ly.1 with
    |true=>rw[hb]at h;exact h.elim
    |false=>
     rw[hb]at h
     simp only[cond_false]at h
     have xv:∀{U b'},rL id false o U ρ ak b'→b'[bn]? =ak[bn]? :=fun hS=>by
      rcases Cc hS with hn|⟨ds,Gb,_,h2,_⟩
      ·exact hn
      ·rw[bw]at h2;cases h2
     split at h
     ·refine⟨_,none,h,.none,fun K B xw hρ' _ cR=>⟨fun _=>(cR bn s (xw bn (by have:=hρ' x (by simp[ho,Op.operands]) (by simp[addrOf,ho]);rw[hs]at this;exact this.jq)) bw).cF,fun _ _ h=>by cases h⟩,fun ρ' b' k' hρ hS hk=>?_⟩
      simp only[b7,ho,hl,ab];rw[hρ x (by simp[Op.operands]),hs];simp only[my,xv hS,bw,hb,cond_false];exact hk
     ·exact h.elim
   ·exact h.elim
  ·rename_i s hs
   obtain⟨y,hy,h⟩:=az h
   refine⟨_,none,h,.none,gI,fun ρ' b' k' hρ hS hk=>?_⟩
   simp only[b7,ho,hl,ab];rw[hρ x (by simp[Op.operands]),hs];simp only[hy];exact hk
  ·exact h.elim
 case store t x y=>
  obtain⟨n,hn,h⟩:=az h
  split at h
  ·rename_i bn off hs
   have xv:∀{U b'},rL id false o U ρ ak b'→b'[bn]? =ak[bn]? :=fun hS=>((hS.mem (by simp[gF,ho]) x (by simp[ho,Op.operands])).1 bn off hs).2 (by simp[ir,ho])
   split at h
   ·rename_i hd
    unfold nL at h
    have uf:∀bx fB,ak[bn]? =some fB→fB≠.none →bx≠.none ∧bx.isMap=fB.isMap→rA id o false ρ ak (some (bn,bx)):=fun bx fB h1 h2 h3=>
     .wr bn bx fB (by simp[gF,ho]) (.inl (by simp[ir,ho])) x (by simp[ho,Op.operands]) off (.inl hs) h1 h2 h3 (fun h=>by cases h) (fun t' y' z' h=>by rw[ho]at h;cases h;rfl)
    split at h
    ·rename_i cs bw
     split at h
     ·rename_i z hz
      obtain⟨l,hl,h1,h2,h⟩:=az h
      refine⟨_,some (bn,_),h,uf _ _ bw (by simp) (by simp[af.isMap]),(by first|exact BP|exact fun K B _ _ hv _=>⟨fun _=>.t _,fun _ _ h _=>by cases h;exact hv _ _ _ (by assumption)⟩),fun ρ' b' k' hρ hS hk=>?_⟩
      simp only[b7,ho,hn,ab];rw[hρ x (by simp[Op.operands]),hρ y (by simp[Op.operands]),hs,hz,hd];simp only[nL,xv hS,bw,hl,ab];exact⟨h1,h2,hk⟩
     ·exact h.elim
     ·rename_i h1 h2
      split at h
      ·refine⟨_,some (bn,_),h,uf _ _ bw (by simp) (by simp[af.isMap]),(by first|exact BP|exact fun K B _ _ hv _=>⟨fun _=>.t _,fun _ _ h _=>by cases h;exact hv _ _ _ (by assumption)⟩),fun ρ' b' k' hρ hS hk=>?_⟩
       simp only[b7,ho,hn,ab];rw[hρ x (by simp[Op.operands]),hρ y (by simp[Op.operands]),hs,hd];simp only[nL,xv hS,bw];exact hk
      ·exact h.elim
    ·rename_i s0 bw
     split at h
     ·split at h
      ·rename_i z hz
       obtain⟨l,hl,h1,h⟩:=az h
       refine⟨_,some (bn,_),h,uf _ _ bw (by simp) (by simp[af.isMap]),(by first|exact BP|exact fun K B _ _ hv _=>⟨fun _=>.t _,fun _ _ h _=>by cases h;exact hv _ _ _ (by assumption)⟩),fun ρ' b' k' hρ hS hk=>?_⟩
       simp only[b7,ho,hn,ab];rw[hρ x (by simp[Op.operands]),hρ y (by simp[Op.operands]),hs,hz,hd];simp only[nL,xv hS,bw,hl,ab];exact⟨h1,hk⟩
      ·exact h.elim
      ·rename_i h1 h2
       refine⟨_,some (bn,_),h,uf _ _ bw (by simp) (by simp[af.isMap]),(by first|exact BP|exact fun K B _ _ hv _=>⟨fun _=>.t _,fun _ _ h _=>by cases h;exact hv _ _ _ (by assumption)⟩),fun ρ' b' k' hρ hS hk=>?_⟩
       simp only[b7,ho,hn,ab];rw[hρ x (by simp[Op.operands]),hρ y (by simp[Op.operands]),hs,hd];simp only[nL,xv hS,bw];exact hk
     ·exact h.elim
    ·exact h.elim
   ·exact h.elim
  ·exact h.elim
 case nilCheck x=>
  split at h
  ·rename_i y hy
   obtain⟨z,hz,h⟩:=az h
   refine⟨_,none,h,.none,gI,fun ρ' b' k' hρ _ hk=>?_⟩
   simp only[b7,ho];rw[hρ x (by simp[Op.operands]),hy];simp only[hz,ab];exact hk
  ·exact h.elim
  ·rename_i f first cap hy
   split at h
   ·refine⟨_,none,h,.none,qt (x:=x) (by simp[ho,Op.operands]) (by simp[addrOf,ho]) (fun _ h=>by rw[hy]at h;exact h),fun ρ' b' k' hρ _ hk=>?_⟩
    simp only[b7,ho];rw[hρ x (by simp[Op.operands]),hy];exact hk
   ·split at h
    ·obtain⟨z,hz,h⟩:=az h
     refine⟨_,none,h,.none,qt (x:=x) (by simp[ho,Op.operands]) (by simp[addrOf,ho]) (fun _ h=>by rw[hy]at h;exact h),fun ρ' b' k' hρ _ hk=>?_⟩
     simp only[b7,ho];rw[hρ x (by simp[Op.operands]),hy];simp only[hz,ab];exact hk
    ·exact h.elim
   ·exact h.elim
  ·rename_i b off hy
   refine⟨_,none,h,.none,qt (x:=x) (by simp[ho,Op.operands]) (by simp[addrOf,ho]) (fun _ h=>by rw[hy]at h;exact h),fun ρ' b' k' hρ _ hk=>?_⟩
   simp only[b7,ho];rw[hρ x (by simp[Op.operands]),hy];exact hk
  ·exact h.elim
 case binOp op t x y u=>
  obtain⟨z,hz,h⟩:=az h
  refine⟨_,none,h,.none,gI,fun ρ' b' k' hρ _ hk=>?_⟩
  simp only[b7,ho];rw[hρ x (by simp[Op.operands]),hρ y (by simp[Op.operands])];simp only[hz,ab];exact hk
 case unOp op t x=>
  obtain⟨z,hz,h⟩:=az h
  refine⟨_,none,h,.none,gI,fun ρ' b' k' hρ _ hk=>?_⟩
  simp only[b7,ho];rw[hρ x (by simp[Op.operands])];simp only[hz,ab];exact hk
 case convert src dst x=>
  cases hs:(P.underlying src).isSome with
  |false=>rw[hs]at h;exact h.elim
  |true=>
   rw[hs]at h
   obtain⟨z,hz,h⟩:=az h
   refine⟨_,none,h,.none,gI,fun ρ' b' k' hρ _ hk=>?_⟩
   simp only[b7,ho];rw[hρ x (by simp[Op.operands])];simp only[hs,cond_true,hz,ab];exact hk
 case makeInterface t x=>
  cases hs:isIface P t with
  |true=>rw[hs]at h;exact h.elim
  |false=>
   rw[hs]at h
   obtain⟨z,hz,h⟩:=az h
   refine⟨_,none,h,.none,gI,fun ρ' b' k' hρ _ hk=>?_⟩
   simp only[b7,ho];rw[hρ x (by simp[Op.operands])];simp only[hs,cond_false,hz,ab];exact hk
 case makeFunc fn first cap=>
  refine⟨_,none,h,.none,(fun K B xw hρ' _ _=>⟨fun _=>.c _ _ _ (fun s hs=>by
   obtain⟨x,hx,rfl⟩:=List.mem_map.1 hs
   exact(hρ' x (by rw[ho];simp only[Op.operands,Array.mem_append];exact .inl (by simpa using hx)) (by simp[addrOf,ho])).cF) (fun s hs=>by
   obtain⟨x,hx,rfl⟩:=List.mem_map.1 hs
   exact(hρ' x (by rw[ho];simp only[Op.operands,Array.mem_append];exact .inr (by simpa using hx)) (by simp[addrOf,ho])).cF),fun _ _ h=>by cases h⟩),fun ρ' b' k' hρ _ hk=>?_⟩
  simp only[b7,ho]
  have e1:(first.toList.map fun x=>(ρ' x).aa)=first.toList.map fun x=>(ρ x).aa :=List.map_congr_left fun x hx=>by rw[hρ x (by simp only[Op.operands,Array.mem_append];exact .inl (by simpa using hx))]
  have e2:(cap.toList.map fun x=>(ρ' x).aa)=cap.toList.map fun x=>(ρ x).aa :=List.map_congr_left fun x hx=>by rw[hρ x (by simp only[Op.operands,Array.mem_append];exact .inr (by simpa using hx))]
  rw[e1,e2];exact hk
 case slice t x lo hi mx=>
  obtain⟨z,hz,h⟩:=az h
  refine⟨_,none,h,.none,gI,fun ρ' b' k' hρ _ hk=>?_⟩
  simp only[b7,ho]
  rw[hρ x (by simp[Op.operands]),C9 (x:=lo) (fun y hy=>hρ y (by simp[Op.operands,hy])),C9 (x:=hi) (fun y hy=>hρ y (by simp[Op.operands,hy])),C9 (x:=mx) (fun y hy=>hρ y (by simp[Op.operands,hy]))]
  simp only[hz,ab];exact hk
 case fieldAddr t x f=>
  obtain⟨fd,lP,h⟩:=az h
  obtain⟨sz,aB,h⟩:=az h
  cases hc:Nat.beq sz 0 with
  |true=>rw[hc]at h;exact h.elim
  |false=>
   rw[hc]at h
   simp only[cond_false]at h
   split at h
   ·rename_i b off hy
    refine⟨_,none,h,.none,qt (x:=x) (by simp[ho,Op.operands]) (by simp[addrOf,ho]) (fun _ h=>by rw[hy]at h;exact .p _ _ h.jq),fun ρ' b' k' hρ _ hk=>?_⟩
    simp only[b7,ho,lP,aB,ab,hc,cond_false];rw[hρ x (by simp[Op.operands]),hy];exact hk
   ·rename_i y hy
    obtain⟨z,hz,h⟩:=az h
    refine⟨_,none,h,.none,gI,fun ρ' b' k' hρ _ hk=>?_⟩
    simp only[b7,ho,lP,aB,ab,hc,cond_false];rw[hρ x (by simp[Op.operands]),hy];simp only[hz];exact hk
   ·exact h.elim
 case field t x f=>
  obtain⟨fd,lP,h⟩:=az h
  obtain⟨ly,eK,h⟩:=az h
  obtain⟨z,hz,h⟩:=az h
  refine⟨_,none,h,.none,gI,fun ρ' b' k' hρ _ hk=>?_⟩
  simp only[b7,ho];rw[hρ x (by simp[Op.operands])];simp only[lP,eK,hz,ab];exact hk
 case indexAddr t x i=>
  split at h
  ·rename_i e he
   obtain⟨sz,aB,h⟩:=az h
   cases hs:ρ x with
   |a b n=>
    rw[hs]at h
    obtain⟨j,hj,h⟩:=az h
    refine⟨_,none,h,.none,qt (x:=x) (by simp[ho,Op.operands]) (by simp[addrOf,ho]) (fun _ h=>by rw[hs]at h;exact .p _ _ h.wP),fun ρ' b' k' hρ _ hk=>?_⟩
    simp only[b7,ho];rw[hρ x (by simp[Op.operands]),hρ i (by simp[Op.operands]),hs];simp only[he,aB,hj,ab];exact hk
   |_=>
    rw[hs]at h
    obtain⟨z,hz,h⟩:=az h
    refine⟨_,none,h,.none,gI,fun ρ' b' k' hρ _ hk=>?_⟩
    simp only[b7,ho];rw[hρ x (by simp[Op.operands]),hρ i (by simp[Op.operands]),hs];simp only[he,aB,hz,ab];exact hk
  ·rename_i n e he
   obtain⟨sz,aB,h⟩:=az h
   obtain⟨j,hj,h⟩:=az h
   split at h
   ·rename_i b off hy
    refine⟨_,none,h,.none,qt (x:=x) (by simp[ho,Op.operands]) (by simp[addrOf,ho]) (fun _ h=>by rw[hy]at h;exact .p _ _ h.jq),fun ρ' b' k' hρ _ hk=>?_⟩
    simp only[b7,ho];rw[hρ x (by simp[Op.operands]),hρ i (by simp[Op.operands])];simp only[he,aB,hj,ab,hy];exact hk
   ·rename_i y hy
    obtain⟨z,hz,h⟩:=az h
    refine⟨_,none,h,.none,gI,fun ρ' b' k' hρ _ hk=>?_⟩
    simp only[b7,ho];rw[hρ x (by simp[Op.operands]),hρ i (by simp[Op.operands])];simp only[he,aB,hj,ab,hy,hz];exact hk
   ·exact h.elim
  ·exact h.elim
 case index t x i=>
  split at h
  ·rename_i n e he
   obtain⟨ly,eK,h⟩:=az h
   obtain⟨z,hz,h⟩:=az h
   refine⟨_,none,h,.none,gI,fun ρ' b' k' hρ _ hk=>?_⟩
   simp only[b7,ho];rw[hρ x (by simp[Op.operands]),hρ i (by simp[Op.operands])];simp only[he,eK,hz,ab];exact hk
  ·rename_i he
   obtain⟨z,hz,h⟩:=az h
   refine⟨_,none,h,.none,gI,fun ρ' b' k' hρ _ hk=>?_⟩
   simp only[b7,ho];rw[hρ x (by simp[Op.operands]),hρ i (by simp[Op.operands])];simp only[he,hz,ab];exact hk
  ·exact h.elim
 case extract x i=>
  split at h
  ·rename_i vs hs
   split at h
   ·rename_i r hr
    refine⟨_,none,h,.none,gI,fun ρ' b' k' hρ _ hk=>?_⟩
    simp only[b7,ho];rw[hρ x (by simp[Op.operands]),hs];simp only[hr];exact hk
   ·exact h.elim
  ·exact h.elim
 case lookup t m x vj=>
  obtain⟨et,het,h⟩:=az h
  obtain⟨z,hz,h⟩:=az h
  obtain⟨r,hr,h⟩:=az h
  have MW:∀{U b'},rL id false o U ρ ak b'→nO et.2 z (qj b' (ρ m)) (ρ x).aT =some r:=by
   intro U b' hS
   have h3:=(hS.mem (by simp[gF,ho]) m (by simp[ho,Op.operands])).2.2
   cases hs:ρ m with
   |m b=>
    rw[hs]at hr
    simp only[qj]at hr ⊢
    cases hb:ak[b]? with
    |none=>rw[hb]at hr;cases hr
    |some bx=>
     rw[hb]at hr
     cases bx with
     |map l=>simp only[(h3 b l hs).2 hb];exact hr
     |_=>cases hr
   |_=>rw[hs]at hr;exact hr
  cases vj with
  |true=>
   refine⟨_,none,h,.none,BO (fun _=>.t _),fun ρ' b' k' hρ hS hk=>?_⟩
   simp only[b7,ho];rw[hρ m (by simp[Op.operands]),hρ x (by simp[Op.operands])];simp only[het,hz,MW hS,ab];exact hk
  |false=>
   refine⟨_,none,h,.none,gI,fun ρ' b' k' hρ hS hk=>?_⟩
   simp only[b7,ho];rw[hρ m (by simp[Op.operands]),hρ x (by simp[Op.operands])];simp only[het,hz,MW hS,ab];exact hk
 case makeSlice t n c=>
  obtain⟨e',he,h1⟩:=az h
  obtain⟨sz,aB,h2⟩:=az h1
  obtain⟨bZ,gS,h3⟩:=az h2
  obtain⟨z,hz,h4⟩:=az h3
  cases cJ:(Nat.beq sz 1&&Nat.blt 0 bZ)with
  |false=>rw[cJ]at h4;exact h4.elim
  |true=>
   rw[cJ,cond_true]at h4
   obtain⟨m,hm,hb,hk⟩:=az h4
   refine⟨_,none,hk,.none,gI,fun ρ' b' k' hρ _ hk=>?_⟩
   simp only[b7,ho];rw[hρ n (by simp[Op.operands]),hρ c (by simp[Op.operands])];simp only[he,aB,gS,hz,cJ,cond_true,hm,ab];exact⟨hb,hk⟩
 case makeMap t hn=>
  split at h
  ·rename_i ej
   refine⟨_,some (id,_),h,.mk _ (by simp[e9,ho]) ej (by simp),BN (by simp[e9,ho]),fun ρ' b' k' hρ hS hk=>?_⟩
   simp only[b7,ho,hS.fresh (by simp[e9,ho]) (by simp)];exact hk
  ·exact h.elim
 case mapUpdate t m x y=>
  obtain⟨et,het,h1⟩:=az h
  split at h1
  ·rename_i b hm hd
   split at h1
   ·rename_i l hb
    obtain⟨n,hn,h2⟩:=az h1
    obtain⟨d,ic,oh⟩:=az h2
    obtain⟨l',dM,hk⟩:=az oh
    refine⟨_,some (b,_),hk,.wr b _ _ (by simp[gF,ho]) (.inl (by simp[ir,ho])) m (by simp[ho,Op.operands]) 0 (.inr hm) hb (by simp) (by simp[af.isMap]) (fun h=>by cases h) (fun t' y' z' h=>by rw[ho]at h;cases h),(fun K B xw hρ' _ _=>⟨fun _=>by first|exact .t _|exact .v _,fun _ _ h=>by cases h⟩),fun ρ' b' k' hρ hS hk=>?_⟩
    have h3:=((hS.mem (by simp[gF,ho]) m (by simp[ho,Op.operands])).2.2 b l hm).2 hb
    simp only[b7,ho,het,ab];rw[hρ m (by simp[Op.operands]),hρ x (by simp[Op.operands]),hρ y (by simp[Op.operands]),hm,hd];simp only[h3,hn,ic,dM];exact hk
   ·exact h1.elim
  ·exact h1.elim
 case call c=>
  have eu:∀{U ρ' b'},(∀x∈(Op.call c).operands,ρ' x=ρ x)→rL id false o U ρ ak b'→iz b' ρ' c.args.toList=iz ak ρ c.args.toList:=fun{U ρ' b'}hρ hS=>
   HZ fun x hx=>by
    have hm:x∈(Op.call c).operands :=by
     simp only[Op.operands,Call.operands,Array.mem_append];exact .inr (by simpa using hx)
    rw[hρ x hm]
    exact(hS.mem (by simp[gF,ho]) x (by rw[ho];exact hm)).2.1 6
  have dq:∀x,x∈c.args.toList→x∈(Op.call c).operands :=fun x hx=>by
   simp only[Op.operands,Call.operands,Array.mem_append];exact .inr (by simpa using hx)
  split at h
  ·rename_i f hc
   have hf:f∈(Op.call c).operands :=by simp[Op.operands,Call.operands,hc]
   split at h
   ·rename_i s hs
    obtain⟨f',l,hK,Gc⟩:=Pe h
    obtain⟨r,hk,lR,hr⟩:=Da hK
    refine⟨_,none,hk,.none,BO lR,fun ρ' b' k' hρ hS hk=>?_⟩
    simp only[b7,ho,hc]
    rw[hρ f hf,hs]
    simp only[eu hρ hS]
    exact Gc _ (hr _ _ hk)
   ·rename_i g' first cap hs
    obtain⟨r,hk,lR,hr⟩:=Da h
    refine⟨_,none,hk,.none,BO lR,fun ρ' b' k' hρ hS hk=>?_⟩
    simp only[b7,ho,hc]
    rw[hρ f hf,hs]
    simp only[eu hρ hS]
    have zx:=(hS.mem (by simp[gF,ho]) f (by rw[ho];exact hf)).2.1
    rw[hs]at zx
    obtain⟨e1,e2⟩:=SJ zx
    rw[e1,e2]
    exact hr _ _ hk
   ·exact h.elim
  ·rename_i recv name hc
   have hf:recv∈(Op.call c).operands :=by simp[Op.operands,Call.operands,hc]
   split at h
   ·rename_i s hs
    obtain⟨f',l,hK,Gc⟩:=OM h
    obtain⟨r,hk,lR,hr⟩:=Da hK
    refine⟨_,none,hk,.none,BO lR,fun ρ' b' k' hρ hS hk=>?_⟩
    simp only[b7,ho,hc]
    rw[hρ recv hf,hs]
    simp only[eu hρ hS]
    exact Gc _ (hr _ _ hk)
   ·exact h.elim
  ·rename_i b hc
   split at h
   ·rename_i x xs t ts hx ht
    cases hs:ρ x with
    |a b n=>
     rw[hs]at h
     cases jL:isSlice P t with
     |false=>rw[jL]at h;exact h.elim
     |true=>
      rw[jL]at h
      refine⟨_,none,h,.none,gI,fun ρ' b' k' hρ hS hk=>?_⟩
      simp only[b7,ho,hc,hx,ht]
      rw[hρ x (dq x (by simp[hx])),hs];simp only[jL,cond_true];exact hk
    |_=>
     rw[hs]at h
     obtain⟨z,hz,h⟩:=az h
     refine⟨_,none,h,.none,gI,fun ρ' b' k' hρ hS hk=>?_⟩
     simp only[b7,ho,hc,hx,ht]
     rw[hρ x (dq x (by simp[hx])),hs];simp only[hz,ab];exact hk
   ·rename_i x y t u hx ht
    cases lS:Nat.beq t u with
    |false=>rw[lS]at h;exact h.elim
    |true=>
     rw[lS]at h
     simp only[cond_true]at h
     obtain⟨e',he,h⟩:=az h
     obtain⟨sz,aB,h⟩:=az h
     obtain⟨bZ,gS,h⟩:=az h
     obtain⟨z,hz,h⟩:=az h
     cases cJ:(Nat.blt 0 bZ&&Nat.blt 0 sz&&Nat.beq z.length sz)with
     |false=>rw[cJ]at h;exact h.elim
     |true=>
      rw[cJ]at h
      obtain⟨r,hr,hb,h⟩:=az h
      refine⟨_,none,h,.none,gI,fun ρ' b' k' hρ hS hk=>?_⟩
      simp only[b7,ho,hc,hx,ht]
      rw[hρ x (dq x (by simp[hx])),hρ y (dq y (by simp[hx]))]
      simp only[lS,cond_true,he,aB,gS,hz,ab,cJ,bW,hr];exact⟨hb,hk⟩
   ·rename_i x xs hx
    obtain⟨z,hz,h⟩:=az h
    refine⟨_,none,h,.none,gI,fun ρ' b' k' hρ hS hk=>?_⟩
    have e1:(xs.map fun y=>(ρ' y).aT)=xs.map fun y=>(ρ y).aT :=List.map_congr_left fun y hy=>by rw[hρ y (dq y (by simp[hx,hy]))]
    simp only[b7,ho,hc,hx]
    rw[hρ x (dq x (by simp[hx])),e1,hz];exact hk
   ·rename_i x xs hx
    obtain⟨z,hz,h⟩:=az h
    refine⟨_,none,h,.none,gI,fun ρ' b' k' hρ hS hk=>?_⟩
    have e1:(xs.map fun y=>(ρ' y).aT)=xs.map fun y=>(ρ y).aT :=List.map_congr_left fun y hy=>by rw[hρ y (dq y (by simp[hx,hy]))]
    simp only[b7,ho,hc,hx]
    rw[hρ x (dq x (by simp[hx])),e1,hz];exact hk
   ·exact h.elim
 all_goals exact h.elim
end
end Go.Proofs.Ytaknajjmldngiaa.Ab
namespace Go.Proofs.Ytaknajjmldngiaa.Ab
open Go Go.RowKit
def fin(o:Oper)(src:Option (Nat×Slot))(s:Slot)(U:Option (Nat×af))(e:Env):Env:=⟨bF (hN src e.ai) o.dst s,ka U e.boxes⟩
section
variable{P:Program}{gl:Nat→Option D}{C:bu}
def e6(gl:Nat→Option D)(e:Env)(x:Operand):Slot:=(Ab.aJ gl e x).aa
theorem oC{o:Oper}{t:Nat}(h:Operand.tmp t∈o.op.operands):t∈tmpsOf o:=List.mem_filterMap.2 ⟨.tmp t,by simpa using h,rfl⟩
theorem uj{e e':Env}{o:Oper}(h:∀t∈tmpsOf o,e'.ai.getD t (.v .undef)=e.ai.getD t (.v .undef)){x:Operand}(hx:x∈o.op.operands):Ab.aJ gl e' x=Ab.aJ gl e x:=by
 cases x with
 |tmp t=>exact h t (oC hx)
 |_=>rfl
theorem CN(s:Slot):s.aa.stays=s.stays:=by cases s<;>rfl
theorem SL(x:SV):Ab.aa (Ab.aa x)=Ab.aa x:=by cases x<;>rfl
theorem Pf{cs:List SV}{off:Nat}{y:SV}(hy:cs[off]? =some y):cs.map Ab.aa=(cs.set off (Ab.aa y)).map Ab.aa:=by
 apply List.ext_getElem?
 intro i
 rw[List.getElem?_map,List.getElem?_map,List.getElem?_set]
 by_cases h:off=i
 ·subst h
  obtain⟨hl,hq⟩:=List.getElem?_eq_some_iff.1 hy
  simp[hl,hq,SL]
 ·simp[h]
theorem QB{ak:List af}{b:Nat}{cs dJ:List SV}(hb:ak[b]? =some (.cells cs))(h:cs.map Ab.aa=dJ.map Ab.aa):∀(n:Nat)(s:Slot),snap (ak.set b (.cells dJ)) n s=snap ak n s:=by
 intro n
 induction n with
 |zero=>intro s;rfl
 |succ n ih=>
  intro s
  have hf:snap (ak.set b (.cells dJ)) n=snap ak n:=funext ih
  cases s with
  |v x=>rfl
  |a b2 _ _=>
   simp only[snap]
   by_cases h2:b=b2
   ·subst h2
    rw[List.getElem?_set_self (List.getElem?_eq_some_iff.1 hb).1,hb]
    simp only[h]
   ·rw[List.getElem?_set_ne h2]
  |m _=>rfl
  |p b2 off=>
   simp only[snap]
   by_cases h2:b=b2
   ·subst h2
    rw[List.getElem?_set_self (List.getElem?_eq_some_iff.1 hb).1,hb]
    simp only[h]
   ·rw[List.getElem?_set_ne h2,hf]
  |c f first cap=>simp only[snap,hf]
  |t l=>rfl
theorem Jj{w:Bool}(hw:w=true){ak:List af}{b:Nat}{fB bx:af}(hb:ak[b]? =some fB)(h:∃cs dJ,fB=.cells cs∧bx=.cells dJ∧cs.map Ab.aa=dJ.map Ab.aa)(s:Slot):ki w s ak (ak.set b bx):=by
 obtain⟨cs,dJ,rfl,rfl,hm⟩:=h
 refine⟨fun b2 off hs=>⟨?_,fun h=>by rw[hw]at h;cases h⟩,fun n=>QB hb hm n s,fun b2 l _=>?_⟩
 rotate_left
 ·by_cases h2:b=b2
  ·subst h2
   rw[List.getElem?_set_self (List.getElem?_eq_some_iff.1 hb).1,hb]
   simp
  ·rw[List.getElem?_set_ne h2]
 by_cases h2:b=b2
 ·subst h2
  rw[List.getElem?_set_self (List.getElem?_eq_some_iff.1 hb).1,hb]
  exact .inr ⟨dJ,cs,rfl,rfl,hm.symm⟩
 ·rw[List.getElem?_set_ne h2]
  exact .refl _
def yO(gl:Nat→Option D)(ax:Bool)(o:Oper)(e:Env)(src:Option (Nat×Slot))(s:Slot)(U:Option (Nat×af)):Prop:=
 ∀(K B:Nat→Prop),(∀b,K b→B b)→(∀x∈o.op.operands,(ax=false→addrOf o≠some x)→cS K (e6 gl e x))→(∀t x y,o.op=.store t x y→cS K (e6 gl e y))→
  (∀b s,B b→e.boxes[b]? =some (.one s)→cS K s)→e9 o=false→cS K s∧(∀t d,src=some (t,d)→cS K d)∧∀b s',U=some (b,.one s')→cS K s'
theorem Ld{o:Oper}{e:Env}{x:SV}{U:Option (Nat×af)}(hU:∀b s',U≠some (b,.one s')):yO gl true o e none (.v x) U:=fun _ _ _ _ _ _ _=>⟨.v _,fun _ _ h=>(by cases h),fun b s' h=>absurd h (hU b s')⟩
theorem Ev{o:Oper}{e:Env}{t:Nat}{s:Slot}(ht:Operand.tmp t∈o.op.operands)(hs:∀K,cS K (e.ai.getD t (.v .undef))→cS K s):yO gl true o e (some (t,(e.ai.getD t (.v .undef)).aa)) s none:=fun K _ _ h _ _ _=>by
 have h1:cS K (e.ai.getD t (.v .undef)).aa :=h (.tmp t) ht (fun h=>by cases h)
 exact⟨hs K h1.VE,fun t' d hd=>by cases hd;exact h1,fun _ _ h=>by cases h⟩
theorem PW{id:Nat}{o:Oper}{e:Env}{k:Env→Prop}(h:jD P gl o e k):
  ∃src s U,k (fin o src s U e)∧rA id o true (e6 gl e) e.boxes U∧yO gl true o e src s U∧(∀t d,src=some (t,d)→t∈tmpsOf o∧d.stays=(e.ai.getD t (.v .undef)).stays)∧
   ∀(e':Env)(k':Env→Prop),(∀t∈tmpsOf o,e'.ai.getD t (.v .undef)=e.ai.getD t (.v .undef))→rL id true o U (e6 gl e) e.boxes e'.boxes→k' (fin o src s U e')→jD P gl o e' k':=by
 unfold jD at h
 split at h
 ·rename_i t ho
  refine⟨some (t,_),_,none,h,.none,Ev (by rw[ho];simp[Op.operands]) (fun _ h=>h),fun t' d hd=>by cases hd;exact⟨oC (by rw[ho];simp[Op.operands]),CN _⟩,fun e' k' hl _ hk=>?_⟩
  simp only[jD,ho];rw[hl t (oC (by rw[ho];simp[Op.operands]))];exact hk
 ·rename_i t ho
  refine⟨some (t,_),_,none,h,.none,Ev (by rw[ho];simp[Op.operands]) (fun _ h=>h),fun t' d hd=>by cases hd;exact⟨oC (by rw[ho];simp[Op.operands]),CN _⟩,fun e' k' hl _ hk=>?_⟩
  simp only[jD,ho];rw[hl t (oC (by rw[ho];simp[Op.operands]))];exact hk
 ·rename_i t i ho
  split at h
  ·rename_i vs hs
   split at h
   ·rename_i r hr
    refine⟨some (t,_),_,none,h,.none,(fun K _ _ _ _ _ _=>⟨.v _,fun t' d hd=>by cases hd;exact .t _,fun _ _ h=>by cases h⟩),fun t' d hd=>by cases hd;exact⟨oC (by rw[ho];simp[Op.operands]),by rw[hs];rfl⟩,fun e' k' hl _ hk=>?_⟩
    simp only[jD,ho];rw[hl t (oC (by rw[ho];simp[Op.operands])),hs];simp only[hr];exact hk
   ·exact h.elim
  ·exact h.elim
 ·rename_i ty x ho
  split at h
  ·rename_i b off hs
   obtain⟨ly,hl,h⟩:=az h
   cases eK:ly.1 with
   |true=>rw[eK]at h;exact h.elim
   |false=>
    rw[eK]at h
    simp only[cond_false]at h
    split at h
    ·rename_i cs bw
     obtain⟨y,hy,h⟩:=az h
     refine⟨none,_,some (b,_),h,.wr b _ _ (by simp[gF,ho]) (.inr rfl) x (by rw[ho];simp[Op.operands]) off (.inl hs) bw (by simp) (by simp[af.isMap]) (fun _ _=>⟨cs,_,rfl,rfl,Pf hy⟩) (fun t' y' z' h=>by rw[ho]at h;cases h),Ld (by simp),fun _ _ h=>(by cases h),fun e' k' sa hS hk=>?_⟩
     have hb:=((hS.mem (by simp[gF,ho]) x (by rw[ho];simp[Op.operands])).1 b off hs).2 (by simp)
     simp only[jD,ho,hl,ab,eK,cond_false]
     rw[uj sa (x:=x) (by rw[ho];simp[Op.operands]),hs]
     simp only[hb,bw,hy];exact hk
    ·exact h.elim
  ·exact h.elim
 ·rename_i ty x t ho
  split at h
  ·rename_i b off y hs hy hd
   obtain⟨sz,aB,h⟩:=az h
   cases hb:Nat.beq sz 1 with
   |false=>rw[hb]at h;exact h.elim
   |true=>
    rw[hb]at h
    simp only[cond_true]at h
    split at h
    ·rename_i cs bw
     obtain⟨l,hl,h1,h2,h⟩:=az h
     refine⟨some (t,.v (aa y)),.t [],some (b,.cells (setAt cs off l)),?_,.wr b _ _ (by simp[gF,ho]) (.inr rfl) x (by rw[ho];simp[Op.operands]) off (.inl hs) bw (by simp) (by simp[af.isMap]) (fun _ h=>by simp[ir,ho]at h) (fun t' y' z' h=>by rw[ho]at h;cases h;rfl),(fun K _ _ _ _ _ _=>⟨.t _,fun t' d hd=>by cases hd;exact .v _,fun _ _ h=>by cases h⟩),fun t' d hd=>by cases hd;exact⟨oC (by rw[ho];simp[Op.operands]),by rw[hy];rfl⟩,fun e' k' sa hS hk=>?_⟩
     ·simp only[fin,hd,bF,hN,ka];exact h
     ·have cD:=((hS.mem (by simp[gF,ho]) x (by rw[ho];simp[Op.operands])).1 b off hs).2 (by simp)
      simp only[fin,hd,bF,hN,ka]at hk
      simp only[jD,ho]
      rw[uj sa (x:=x) (by rw[ho];simp[Op.operands]),hs,sa t (oC (by rw[ho];simp[Op.operands])),hy,hd]
      simp only[aB,ab,hb,cond_true,cD,bw,hl];exact⟨h1,h2,hk⟩
    ·exact h.elim
  ·exact h.elim
 ·rename_i t n ps ho
  obtain⟨e',he,h1⟩:=az h
  obtain⟨ly,eK,h2⟩:=az h1
  obtain⟨z,hz,h3⟩:=az h2
  obtain⟨l,hl,h4⟩:=az h3
  cases hc:(Nat.ble (n*ly.2) (2^24)&&Nat.blt 0 ly.2&&Nat.beq z.length ly.2)with
  |false=>rw[hc]at h4;exact h4.elim
  |true=>
   rw[hc,cond_true]at h4
   refine⟨none,_,none,h4.2,.none,Ld (by simp),fun _ _ h=>(by cases h),fun e2 k' sa hS hk=>?_⟩
   have Yd:kh (fun x=>(Ab.aJ gl e2 x).aa) ps.toList=some l:=
    (z9 (fun p hp=>by
      have hm:p.2∈o.op.operands:=by rw[ho];simp only[Op.operands,List.mem_toArray,List.mem_map];exact⟨p,hp,rfl⟩
      show(Ab.aJ gl e2 p.2).aa =(Ab.aJ gl e p.2).aa
      rw[uj sa hm])).trans hl
   simp only[jD,ho,he,eK,hz,Yd,hc,cond_true,ab];exact⟨h4.1,hk⟩
 ·rename_i c ho
  split at h
  ·rename_i t y ty u hc hx ht
   have Gd:Operand.tmp t∈o.op.operands:=by
    rw[ho];simp only[Op.operands,Call.operands,Array.mem_append];exact .inr (by rw[←Array.mem_toList_iff,hx];simp)
   have tR:y∈o.op.operands:=by
    rw[ho];simp only[Op.operands,Call.operands,Array.mem_append];exact .inr (by rw[←Array.mem_toList_iff,hx];simp)
   cases lS:Nat.beq ty u with
   |false=>rw[lS]at h;exact h.elim
   |true=>
    rw[lS]at h
    simp only[cond_true]at h
    obtain⟨e',he,h⟩:=az h
    obtain⟨sz,aB,h⟩:=az h
    obtain⟨bZ,gS,h⟩:=az h
    obtain⟨z,hz,h⟩:=az h
    cases cJ:(Nat.blt 0 bZ&&Nat.blt 0 sz&&Nat.beq z.length sz)with
    |false=>rw[cJ]at h;exact h.elim
    |true=>
     rw[cJ]at h
     obtain⟨r,hr,hb,h⟩:=az h
     refine⟨some (t,_),_,none,h,.none,Ev Gd (fun _ _=>.v _),fun t' d hd=>by cases hd;exact⟨oC Gd,CN _⟩,fun e' k' sa hS hk=>?_⟩
     simp only[jD,ho,hc,hx,ht]
     rw[sa t (oC Gd),uj sa tR]
     simp only[lS,cond_true,he,aB,gS,hz,ab,cJ,bW,hr];exact⟨hb,hk⟩
  ·exact h.elim
 ·exact h.elim
theorem QC{id:Nat}{ax:Bool}{o:Oper}{e:Env}{k:Env→Prop}(h:j3 P gl C id ax o e k):
  ∃src s U,k (fin o src s U e)∧rA id o ax (e6 gl e) e.boxes U∧yO gl ax o e src s U∧(∀t d,src=some (t,d)→ax=true∧t∈tmpsOf o∧d.stays=(e.ai.getD t (.v .undef)).stays)∧
   ∀(e':Env)(k':Env→Prop),(∀t∈tmpsOf o,e'.ai.getD t (.v .undef)=e.ai.getD t (.v .undef))→rL id ax o U (e6 gl e) e.boxes e'.boxes→k' (fin o src s U e')→j3 P gl C id ax o e' k':=by
 unfold j3 at h
 cases ax<;>simp only[cond_true,cond_false]at h
 ·obtain⟨s,U,hk,hu,lR,hs⟩:=Rv h
  refine⟨none,s,U,hk,hu,fun K B xw h1 h2 h3 h4=>⟨(lR K B xw (fun x hx ha=>h1 x hx fun _=>ha) h2 h3).1 h4,fun _ _ h=>(by cases h),fun b s' hU=>(lR K B xw (fun x hx ha=>h1 x hx fun _=>ha) h2 h3).2 b s' hU h4⟩,fun t d h=>(by cases h),?_⟩
  intro e' k' hl hS hk
  unfold j3
  simp only[cond_false]
  exact hs _ _ _ (fun x hx=>by rw[uj hl hx]) hS hk
 ·obtain⟨src,s,U,hk,hu,lR,tS,hs⟩:=PW (id:=id) h
  refine⟨src,s,U,hk,hu,lR,fun t d h=>⟨rfl,tS t d h⟩,fun e' k' hl hS hk=>?_⟩
  unfold j3
  simp only[cond_true]
  exact hs e' k' hl hS hk
def oX(all:List Oper)(o:Oper)(e:Env):Option Bool:=match o.guard with
 |none=>some true
 |some (j,want)=>(match(match all[j]? with|some g=>g.dst|none=>none)with
  |some t=>(match e.ai.getD t (.v .undef)with
   | .v (.d (.bool c))=>some (c==want)
   | .t _=>some false
   |_=>none)
  |none=>none)
theorem qQ{e:Env}{t:Nat}{c:Bool}(h:e.ai.getD t (.v .undef)=.v (.d (.bool c))):e.nS t c=e:=by
 unfold Env.nS
 rcases Nat.lt_or_ge t e.ai.length with hl|hl
 ·rw[List.getD_eq_getElem?_getD,List.getElem?_eq_getElem hl]at h
  simp only[Option.getD_some]at h
  rw[←h,List.set_getElem_self]
 ·rw[List.getD_eq_getElem?_getD,List.getElem?_eq_none hl]at h
  simp at h
theorem v9{all:List Oper}{o:Oper}{e:Env}{A B:Env→Prop}:tk all o e A B↔(match oX all o e with|some true=>A e|some false=>B e|none=>False):=by
 unfold tk oX
 cases hg:o.guard with
 |none=>exact Iff.rfl
 |some p=>
  obtain⟨j,want⟩:=p
  simp only
  cases hj:all[j]? with
  |none=>exact Iff.rfl
  |some q=>
   simp only
   cases hq:q.dst with
   |none=>exact Iff.rfl
   |some t=>
    simp only
    cases hx:e.ai.getD t (.v .undef)with
    |v x=>
     cases x with
     |d y=>
      cases y with
      |bool c=>
       have h1:=qQ hx
       simp only[ao]
       cases c<;>cases want<;>simp[h1]
      |_=>exact Iff.rfl
     |_=>exact Iff.rfl
    |_=>exact Iff.rfl
def lG(P:Program)(gl:Nat→Option D)(C:bu)(all:List Oper)(id:Nat)(ax:Bool)(o:Oper)(e:Env)(k:Env→Prop):Prop:=
 tk all o e (fun e'=>j3 P gl C id ax o e' k) (fun e'=>k ⟨bF e'.ai o.dst (.t []),e'.boxes⟩)
structure Out(P:Program)(gl:Nat→Option D)(C:bu)(ops:Array Oper)(id:Nat)(ax:Bool)(o:Oper)(e:Env)(src:Option (Nat×Slot))(s:Slot)(U:Option (Nat×af)):Prop where
 uf:rA id o ax (e6 gl e) e.boxes U
 uR:∀t d,src=some (t,d)→ax=true∧t∈tmpsOf o
 E5:∀(e':Env)(k':Env→Prop),(∀t∈o.looksAt ops,e'.ai.getD t (.v .undef)=e.ai.getD t (.v .undef))→rL id ax o U (e6 gl e) e.boxes e'.boxes→k' (fin o src s U e')→lG P gl C ops.toList id ax o e' k'
theorem Jk{ops:Array Oper}{o:Oper}{e e':Env}(h:∀t∈o.looksAt ops,e'.ai.getD t (.v .undef)=e.ai.getD t (.v .undef)):oX ops.toList o e'=oX ops.toList o e:=by
 unfold oX
 split
 ·rfl
 ·rename_i j want hg
  split
  ·rename_i t ht
   have hm:t∈o.looksAt ops:=by
    refine List.mem_append_right _ ?_
    rw[hg]
    simp only[Option.mem_toList]
    rw[Array.getElem?_toList]at ht
    cases hj:ops[j]? with
    |none=>rw[hj]at ht;cases ht
    |some g=>rw[hj]at ht;exact ht
   rw[h t hm]
  ·rfl
theorem Db{ops:Array Oper}{o:Oper}{t:Nat}(h:t∈tmpsOf o):t∈o.looksAt ops:=List.mem_append_left _ h
theorem ui{ops:Array Oper}{id:Nat}{ax:Bool}{o:Oper}{e:Env}{k:Env→Prop}(h:lG P gl C ops.toList id ax o e k):∃src s U,k (fin o src s U e)∧Out P gl C ops id ax o e src s U∧(∀t d,src=some (t,d)→d.stays=(e.ai.getD t (.v .undef)).stays)∧yO gl ax o e src s U∧(oX ops.toList o e=some true∨(o.guard≠none∧s=.t []∧src=none∧U=none)):=by
 have h':=v9.1 h
 split at h'
 ·rename_i hg
  obtain⟨src,s,U,hk,hu,lR,tS,hs⟩:=QC h'
  refine⟨src,s,U,hk,⟨hu,fun t d h=>⟨(tS t d h).1,(tS t d h).2.1⟩,fun e' k' hl hS hk=>?_⟩,fun t d h=>(tS t d h).2.2,lR,.inl hg⟩
  refine v9.2 ?_
  rw[Jk hl,hg]
  exact hs e' k' (fun t ht=>hl t (Db ht)) hS hk
 ·rename_i hg
  refine⟨none,.t [],none,h',⟨.none,fun t d h=>(by cases h),?_⟩,fun t d h=>(by cases h),fun K B _ _ _ _ _=>⟨.t _,fun _ _ h=>(by cases h),fun _ _ h=>(by cases h)⟩,.inr ⟨fun hn=>?_,rfl,rfl,rfl⟩⟩
  rotate_left
  ·unfold oX at hg;rw[hn]at hg;cases hg
  intro e' k' hl hS hk
  refine v9.2 ?_
  rw[Jk hl,hg]
  exact hk
 ·exact h'.elim
theorem H0{o:Oper}(h:e9 o=true):gF o=false:=by
 unfold e9 at h
 unfold gF
 split at h
 ·rename_i ho;simp[ho]
 ·rename_i ho;simp[ho]
 ·rename_i ho;simp[ho]
 ·cases h
theorem ki.refl{q:Bool}(s:Slot)(b:List af):ki q s b b:=⟨fun _ _ _=>⟨.refl _,fun _=>rfl⟩,fun _=>rfl,fun _ _ _=>Iff.rfl⟩
theorem ki.trans{q:Bool}{s:Slot}{a b c:List af}(h:ki q s a b)(k:ki q s b c):ki q s a c:=
 ⟨fun x off hx=>⟨(k.1 x off hx).1.trans (h.1 x off hx).1,fun hq=>((k.1 x off hx).2 hq).trans ((h.1 x off hx).2 hq)⟩,fun n=>(k.2.1 n).trans (h.2.1 n),fun b l hs=>(k.2.2 b l hs).trans (h.2.2 b l hs)⟩
theorem ki.symm{q:Bool}{s:Slot}{a b:List af}(h:ki q s a b):ki q s b a:=⟨fun x off hx=>⟨(h.1 x off hx).1.symm,fun hq=>((h.1 x off hx).2 hq).symm⟩,fun n=>(h.2.1 n).symm,fun b l hs=>(h.2.2 b l hs).symm⟩
theorem Out.TR{ops:Array Oper}{id:Nat}{ax:Bool}{o:Oper}{e:Env}{src:Option (Nat×Slot)}{s:Slot}{U:Option (Nat×af)}(h:Out P gl C ops id ax o e src s U)
  (hm:e9 o=true)(hU:U≠none):∃bx,U=some (id,bx)∧bx≠.none ∧e.boxes[id]? =some .none :=by
 cases h.uf with
 |none=>exact absurd rfl hU
 |mk bx _ hn hb=>exact⟨bx,rfl,hb,hn⟩
 |wr b bx fB h'=>rw[H0 hm]at h';cases h'
theorem Out.run{ops:Array Oper}{id:Nat}{ax:Bool}{o:Oper}{e:Env}{src:Option (Nat×Slot)}{s:Slot}{U:Option (Nat×af)}(h:Out P gl C ops id ax o e src s U){k:Env→Prop}
  (hk:k (fin o src s U e)):lG P gl C ops.toList id ax o e k:=
 h.E5 e k (fun _ _=>rfl) ⟨fun _ x _=>.refl _ _,fun hm hU=>(h.TR hm hU).choose_spec.2.2⟩ hk
def Good(gl:Nat→Option D)(e:Env):Prop:=∃w0 an a w g,Inv gl w0 an e a w g
theorem xQ{w0:World}{an:S0}{e:Env}{a:Act}{w:World}{g:Gh}(hI:Inv gl w0 an e a w g){id:Nat}(ej:e.boxes[id]? =some .none)(bx:af):
  ∀(n:Nat){O:Nat→Nat→Nat→Nat→Prop}{s:Slot}{v:Value},bM w0.heap.size w g O s v→((∀b off,s=.p b off→b≠id)∧∀b,s=.m b→b≠id)∧snap (e.boxes.set id bx) n s=snap e.boxes n s:=by
 have bm:∀b aj,g.bx[b]? =some (some aj)→b≠id:=by
  rintro b aj hb rfl
  exact hI.boxes b .none aj ej hb
 have MX:∀{O:Nat→Nat→Nat→Nat→Prop}{s:Slot}{v:Value},bM w0.heap.size w g O s v→(∀b off,s=.p b off→b≠id)∧∀b,s=.m b→b≠id:=by
  intro O s v h
  refine⟨fun b off hs=>?_,fun b hs=>?_⟩
  ·subst hs
   obtain⟨aj,_,hb⟩:=h.jq
   exact bm b aj hb
  ·subst hs
   cases h with
   |m _ _ aj hb=>exact bm b aj hb
 intro n
 induction n with
 |zero=>
  intro O s v h
  exact⟨MX h,rfl⟩
 |succ n ih=>
  intro O s v h
  refine⟨MX h,?_⟩
  cases h with
  |v _ x _ h=>rfl
  |a _ b n' sz v hm hb=>
   obtain⟨aj,cap,hb,_⟩:=hb
   simp only[snap]
   rw[List.getElem?_set_ne (fun h=>bm b aj hb h.symm)]
  |m=>rfl
  |p _ b off aj hb=>
   simp only[snap]
   rw[List.getElem?_set_ne (fun h=>bm b aj hb h.symm)]
   cases cR:e.boxes[b]? with
   |none=>rfl
   |some Ye=>
    cases Ye with
    |none=>rfl
    |map l=>rfl
    |cells cs=>rfl
    |one s'=>
     simp only
     obtain⟨_,c,t,hc,_,aB,hr⟩:=hI.boxes b _ aj cR hb
     have kZ:c[0]? =some (c[0]'(by omega)):=by simp
     rw[(ih (hr _ kZ)).2]
  |c _ f first cap fv cv hf hc rf rc=>
   simp only[snap]
   have LQ:∀(l:List Slot)(vs:Array Value),l.length=vs.size→(∀(i:Nat)x v,l[i]? =some x→vs[i]? =some v→bM w0.heap.size w g (fun _ _ _ _=>False) x v)→
     gE (snap (e.boxes.set id bx) n) l=gE (snap e.boxes n) l:=by
    intro l vs hl hr
    apply List.ext_getElem?
    intro i
    rw[(vW _ l).2,(vW _ l).2]
    cases hi:l[i]? with
    |none=>rfl
    |some x=>
     have aS:i<vs.size:=by rw[←hl];exact(List.getElem?_eq_some_iff.1 hi).1
     simp only[Option.map_some]
     rw[(ih (hr i x vs[i] hi (by simp))).2]
   rw[LQ first fv hf rf,LQ cap cv hc rc]
  |t=>rfl
theorem Le{q:Bool}{e:Env}(hG:Good gl e){id:Nat}(ej:e.boxes[id]? =some .none)(bx:af)(x:Operand):ki q (e6 gl e x) e.boxes (e.boxes.set id bx):=by
 obtain⟨w0,an,a,w,g,hI⟩:=hG
 have h:=hI.aJ x
 refine⟨fun b off hs=>?_,fun n=>(xQ hI ej bx n h).2,fun b l hs=>?_⟩
 ·have:=(xQ hI ej bx 0 h).1.1 b off hs
  rw[List.getElem?_set_ne (fun h=>this h.symm)]
  exact⟨.refl _,fun _=>rfl⟩
 ·have:=(xQ hI ej bx 0 h).1.2 b hs
  rw[List.getElem?_set_ne (fun h=>this h.symm)]
theorem Lf{e:Env}(hG:Good gl e){x:Operand}{b off:Nat}(hp:e6 gl e x=.p b off∨e6 gl e x=.m b):e.boxes[b]? ≠some .none :=by
 intro ej
 obtain⟨w0,an,a,w,g,hI⟩:=hG
 rcases hp with hp|hp
 ·exact(xQ hI ej .none 0 (hI.aJ x)).1.1 b off hp rfl
 ·exact(xQ hI ej .none 0 (hI.aJ x)).1.2 b hp rfl
theorem lr{l:List Slot}{i j:Nat}{x d:Slot}(h:i≠j):(l.set i x).getD j d=l.getD j d:=by
 rw[List.getD_eq_getElem?_getD,List.getElem?_set_ne h,←List.getD_eq_getElem?_getD]
theorem JU{o:Oper}{ax:Bool}{src:Option (Nat×Slot)}{s:Slot}{U:Option (Nat×af)}{e:Env}(E6:∀t d,src=some (t,d)→ax=true∧t∈tmpsOf o){t:Nat}(ht:t∉gj ax o):
  (fin o src s U e).ai.getD t (.v .undef)=e.ai.getD t (.v .undef):=by
 have h1:∀d,o.dst=some d→d≠t:=fun d hd h=>ht (by subst h;simp[gj,hd])
 have h2:∀u d,src=some (u,d)→u≠t:=fun u d hd h=>by
  obtain⟨h3,h4⟩:=E6 u d hd
  subst h
  exact ht (by simp[gj,h3,h4])
 unfold fin bF hN
 simp only
 cases hd:o.dst with
 |none=>
  simp only
  cases hs:src with
  |none=>rfl
  |some p=>exact lr (h2 p.1 p.2 hs)
 |some d=>
  simp only
  rw[lr (h1 d hd)]
  cases hs:src with
  |none=>rfl
  |some p=>exact lr (h2 p.1 p.2 hs)
theorem kL(l:List Slot){i j:Nat}(x y:Slot)(h:i≠j):(l.set i x).set j y=(l.set j y).set i x:=List.set_comm _ _ h
theorem PX{ox oy:Oper}{lx ly:Bool}{sx sy:Option (Nat×Slot)}{rx ry:Slot}(hx:∀t d,sx=some (t,d)→lx=true∧t∈tmpsOf ox)(hy:∀t d,sy=some (t,d)→ly=true∧t∈tmpsOf oy)
  (hd:∀t,t∈gj lx ox→t∉gj ly oy)(l:List Slot):bF (hN sx (bF (hN sy l) oy.dst ry)) ox.dst rx=bF (hN sy (bF (hN sx l) ox.dst rx)) oy.dst ry:=by
 have a1:∀d,ox.dst=some d→d∈gj lx ox:=fun d h=>by simp[gj,h]
 have a2:∀d,oy.dst=some d→d∈gj ly oy:=fun d h=>by simp[gj,h]
 have a3:∀t d,sx=some (t,d)→t∈gj lx ox:=fun t d h=>by obtain⟨h1,h2⟩:=hx t d h;simp[gj,h1,h2]
 have a4:∀t d,sy=some (t,d)→t∈gj ly oy:=fun t d h=>by obtain⟨h1,h2⟩:=hy t d h;simp[gj,h1,h2]
 have ne:∀{s t:Nat},s∈gj lx ox→t∈gj ly oy→s≠t:=fun h1 h2 h=>hd _ h1 (h▸h2)
 cases zy:ox.dst with
 |none=>
  cases xy:oy.dst with
  |none=>
   cases sx with
   |none=>rfl
   |some p=>
    cases sy with
    |none=>rfl
    |some q=>simp only[bF,hN];exact kL _ _ _ (ne (a3 _ _ rfl) (a4 _ _ rfl)).symm
  |some d=>
   cases sx with
   |none=>rfl
   |some p=>
    cases sy with
    |none=>simp only[bF,hN];exact kL _ _ _ (ne (a3 _ _ rfl) (a2 _ xy)).symm
    |some q=>simp only[bF,hN];rw[kL _ _ _ (ne (a3 _ _ rfl) (a2 _ xy)).symm,kL l _ _ (ne (a3 _ _ rfl) (a4 _ _ rfl)).symm]
 |some c=>
  cases xy:oy.dst with
  |none=>
   cases sy with
   |none=>rfl
   |some q=>
    cases sx with
    |none=>simp only[bF,hN];exact kL _ _ _ (ne (a1 _ zy) (a4 _ _ rfl)).symm
    |some p=>simp only[bF,hN];rw[kL l _ _ (ne (a3 _ _ rfl) (a4 _ _ rfl)).symm,kL _ _ _ (ne (a1 _ zy) (a4 _ _ rfl)).symm]
  |some d=>
   have vk:=ne (a1 _ zy) (a2 _ xy)
   cases sx with
   |none=>
    cases sy with
    |none=>simp only[bF,hN];exact kL _ _ _ vk.symm
    |some q=>simp only[bF,hN];rw[kL _ _ _ vk.symm,kL l _ _ (ne (a1 _ zy) (a4 _ _ rfl)).symm]
   |some p=>
    cases sy with
    |none=>simp only[bF,hN];rw[kL l _ _ (ne (a3 _ _ rfl) (a2 _ xy)).symm,kL _ _ _ vk.symm]
    |some q=>
     simp only[bF,hN]
     rw[kL _ _ _ (ne (a3 _ _ rfl) (a2 _ xy)).symm,kL l _ _ (ne (a3 _ _ rfl) (a4 _ _ rfl)).symm,kL _ _ _ vk.symm,kL (l.set _ _) _ _ (ne (a1 _ zy) (a4 _ _ rfl)).symm]
structure BB(ops:Array Oper)(lx ly:Bool)(x y:Oper):Prop where
 d1:∀t∈gj lx x,t∉y.looksAt ops
 d2:∀t∈gj lx x,t∉gj ly y
 d3:∀t∈gj ly y,t∉x.looksAt ops
structure E7(lx ly:Bool)(x y:Oper):Prop where
 m1:¬(ir x=true∧gF y=true)
 m2:¬(ir y=true∧gF x=true)
 m3:¬(lx=true∧ly=true∧gF x=true∧gF y=true)
theorem QD{ops:Array Oper}{lx ly:Bool}{x y:Oper}(h:indep ops lx ly x y=true):BB ops lx ly x y∧E7 lx ly x y:=by
 simp only[indep,Bool.and_eq_true,List.all_eq_true,Bool.not_eq_true',List.contains_eq_mem,decide_eq_false_iff_not,Bool.and_eq_false_iff]at h
 obtain⟨⟨⟨⟨h1,h2⟩,h3⟩,h4⟩,h5⟩:=h
 refine⟨⟨fun t ht=>(h1 t ht).1,fun t ht=>(h1 t ht).2,fun t ht=>h2 t ht⟩,⟨?_,?_,?_⟩⟩
 ·rintro⟨a,b⟩;rcases h3 with h|h<;>simp_all
 ·rintro⟨a,b⟩;rcases h4 with h|h<;>simp_all
 ·rintro⟨a,b,c,d⟩;rcases h5 with((h|h)|h)|h<;>simp_all
def uI(gl:Nat→Option D)(lx:Bool)(x y:Oper)(e:Env):Prop:=(ir x=true∨lx=true)→∀z∈x.op.operands,(∀t u v,x.op=.store t u v→z=u)→∀b off,(e6 gl e z=.p b off∨e6 gl e z=.m b)→
 (∀z'∈y.op.operands,∀q dB,ki q (e6 gl e z') e.boxes (e.boxes.set b dB))∧
 ∀z'∈y.op.operands,(∀t u v,y.op=.store t u v→z'=u)→∀mL,e6 gl e z'≠.p b mL∧e6 gl e z'≠.m b
theorem SM{ops:Array Oper}{ix iy:Nat}{lx ly:Bool}{x y:Oper}{e:Env}{sx sy:Option (Nat×Slot)}{rx ry:Slot}{Ux Uy:Option (Nat×af)}(hG:Good gl e)(hi:BB ops lx ly x y)(hm:E7 lx ly x y∨(uI gl lx x y e∧uI gl ly y x e))
  (hx:Out P gl C ops ix lx x e sx rx Ux)(hy:Out P gl C ops iy ly y (fin x sx rx Ux e) sy ry Uy):
  Out P gl C ops iy ly y e sy ry Uy∧Out P gl C ops ix lx x (fin y sy ry Uy e) sx rx Ux∧fin y sy ry Uy (fin x sx rx Ux e)=fin x sx rx Ux (fin y sy ry Uy e):=by
 have vc:=hm
 have MY:∀t∈y.looksAt ops,(fin x sx rx Ux e).ai.getD t (.v .undef)=e.ai.getD t (.v .undef):=fun t ht=>JU hx.uR fun h=>hi.d1 t h ht
 have MZ:∀t∈x.looksAt ops,(fin y sy ry Uy e).ai.getD t (.v .undef)=e.ai.getD t (.v .undef):=fun t ht=>JU hy.uR fun h=>hi.d3 t h ht
 have M0:∀z∈y.op.operands,e6 gl (fin x sx rx Ux e) z=e6 gl e z:=fun z hz=>by unfold e6;rw[uj (fun t ht=>MY t (Db ht)) hz]
 have M1:∀z∈x.op.operands,e6 gl (fin y sy ry Uy e) z=e6 gl e z:=fun z hz=>by unfold e6;rw[uj (fun t ht=>MZ t (Db ht)) hz]
 have cR:(fin x sx rx Ux e).boxes =ka Ux e.boxes:=rfl
 have gS:(fin y sy ry Uy e).boxes =ka Uy e.boxes:=rfl
 have yU:rA iy y ly (e6 gl e) e.boxes Uy:=by
  cases hy.uf with
  |none=>exact .none
  |mk bx h hn hb=>
   refine .mk bx h ?_ hb
   rw[cR]at hn
   cases hx.uf with
   |none=>exact hn
   |mk dB h' kF di=>
    simp only[ka]at hn
    by_cases sc:ix=iy
    ·subst sc
     rw[List.getElem?_set_self (List.getElem?_eq_some_iff.1 kF).1]at hn
     exact absurd (Option.some.inj hn) di
    ·rwa[List.getElem?_set_ne sc]at hn
   |wr b dB fB h' iF z hz off hp ho hold di=>
    simp only[ka]at hn
    by_cases sc:b=iy
    ·subst sc
     rw[List.getElem?_set_self (List.getElem?_eq_some_iff.1 ho).1]at hn
     exact absurd (Option.some.inj hn) di.1
    ·rwa[List.getElem?_set_ne sc]at hn
  |wr b bx fB h hw z hz off hp ho hold hb nU ha=>
   rw[M0 z hz]at hp
   rw[cR]at ho
   cases hx.uf with
   |none=>exact .wr b bx fB h hw z hz off hp ho hold hb nU ha
   |mk dB h' kF di=>
    have bm:ix≠b:=by
     rintro rfl
     exact Lf hG hp kF
    simp only[ka]at ho
    rw[List.getElem?_set_ne bm]at ho
    exact .wr b bx fB h hw z hz off hp ho hold hb nU ha
   |wr b' dB yP h' iF z' fh mL pg bJ wQ di VF gr=>
    rcases hm with hm|hm
    ·exfalso
     rcases iF with iF|iF
     ·exact hm.m1 ⟨iF,h⟩
     ·rcases hw with hw|hw
      ·exact hm.m2 ⟨hw,h'⟩
      ·exact hm.m3 ⟨iF,hw,h',h⟩
    ·have bm:b'≠b:=by
      rintro rfl
      have:=(hm.1 iF z' fh gr b' mL pg).2 z hz ha off
      rcases hp with hp|hp
      ·exact this.1 hp
      ·exact this.2 hp
     simp only[ka]at ho
     rw[List.getElem?_set_ne bm]at ho
     exact .wr b bx fB h hw z hz off hp ho hold hb nU ha
 have EM:∀b bx b' dB,Ux=some (b,bx)→Uy=some (b',dB)→b≠b':=by
  intro b bx b' dB h1 h2
  subst h1 h2
  have Yf:=hy.uf
  cases hx.uf with
  |mk _ h' kF di=>
   cases yU with
   |mk _ h hn hb=>
    rintro rfl
    cases Yf with
    |mk _ h2 vn pd=>
     rw[cR]at vn
     simp only[ka]at vn
     rw[List.getElem?_set_self (List.getElem?_eq_some_iff.1 kF).1]at vn
     exact di (Option.some.inj vn)
    |wr _ _ _ h2=>rw[H0 h]at h2;cases h2
   |wr _ _ fB h hw z hz off hp ho hold hb=>
    rintro rfl
    exact Lf hG hp kF
  |wr _ _ yP h' iF z' fh mL pg bJ wQ di VF gr=>
   cases yU with
   |mk _ h hn hb=>
    rintro rfl
    rw[bJ]at hn
    exact wQ (Option.some.inj hn)
   |wr _ _ fB h hw z hz off hp ho hold hb nU ha=>
    rcases hm with hm|hm
    ·exfalso
     rcases iF with iF|iF
     ·exact hm.m1 ⟨iF,h⟩
     ·rcases hw with hw|hw
      ·exact hm.m2 ⟨hw,h'⟩
      ·exact hm.m3 ⟨iF,hw,h',h⟩
    ·rintro rfl
     have:=(hm.1 iF z' fh gr _ mL pg).2 z hz ha off
     rcases hp with hp|hp
     ·exact this.1 hp
     ·exact this.2 hp
 refine⟨⟨yU,hy.uR,fun e' k' hl hS hk=>?_⟩,⟨?_,hx.uR,fun e' k' hl hS hk=>?_⟩,?_⟩
 ·refine hy.E5 e' k' (fun t ht=>(hl t ht).trans (MY t ht).symm) ⟨fun hm z hz=>?_,fun hm hU=>hS.fresh hm hU⟩ hk
  rw[M0 z hz]
  refine ki.trans ?_ (hS.mem hm z hz)
  rw[cR]
  cases hx.uf with
  |none=>exact .refl _ _
  |mk dB h' kF di=>exact(Le hG kF dB z).symm
  |wr b' dB yP h' iF z' fh mL pg bJ wQ di nU gr=>
   rcases vc with dp|dp
   ·have nx:ir x=false:=by cases hq:ir x with|false=>rfl|true=>exact absurd ⟨hq,hm⟩ dp.m1
    have Cd:lx=true:=by rcases iF with h|h;exact absurd ⟨h,hm⟩ dp.m1;exact h
    have ny:ir y=false:=by cases hq:ir y with|false=>rfl|true=>exact absurd ⟨hq,h'⟩ dp.m2
    have Ce:ly=false:=by cases hq:ly with|false=>rfl|true=>exact absurd ⟨Cd,hq,h',hm⟩ dp.m3
    exact(Jj (by rw[ny,Ce];rfl) bJ (nU Cd nx) _).symm
   ·exact((dp.1 iF z' fh gr b' mL pg).1 z hz _ dB).symm
 ·cases hxu:hx.uf with
  |none=>exact .none
  |mk dB h' kF di=>
   refine .mk dB h' ?_ di
   rw[gS]
   cases hU:Uy with
   |none=>exact kF
   |some p=>
    simp only[ka]
    rw[List.getElem?_set_ne (EM _ _ _ _ rfl hU).symm]
    exact kF
  |wr b' dB yP h' iF z' fh mL pg bJ wQ di nU gr=>
   refine .wr b' dB yP h' iF z' fh mL (by rw[M1 z' fh];exact pg) ?_ wQ di nU gr
   rw[gS]
   cases hU:Uy with
   |none=>exact bJ
   |some p=>
    simp only[ka]
    rw[List.getElem?_set_ne (EM _ _ _ _ rfl hU).symm]
    exact bJ
 ·refine hx.E5 e' k' (fun t ht=>(hl t ht).trans (MZ t ht)) ⟨fun hm z hz=>?_,fun hm hU=>hS.fresh hm hU⟩ hk
  have h1:=hS.mem hm z hz
  rw[M1 z hz]at h1
  refine ki.trans ?_ h1
  rw[gS]
  cases yU with
  |none=>exact .refl _ _
  |mk dB h' kF di=>exact Le hG kF dB z
  |wr b' dB yP h' iF z' fh mL pg bJ wQ di nU gr=>
   rcases vc with dp|dp
   ·have ny:ir y=false:=by cases hq:ir y with|false=>rfl|true=>exact absurd ⟨hq,hm⟩ dp.m2
    have Ce:ly=true:=by rcases iF with h|h;exact absurd ⟨h,hm⟩ dp.m2;exact h
    have nx:ir x=false:=by cases hq:ir x with|false=>rfl|true=>exact absurd ⟨hq,h'⟩ dp.m1
    have Cd:lx=false:=by cases hq:lx with|false=>rfl|true=>exact absurd ⟨hq,Ce,hm,h'⟩ dp.m3
    exact Jj (by rw[nx,Cd];rfl) bJ (nU Ce ny) _
   ·exact(dp.2 iF z' fh gr b' mL pg).1 z hz _ dB
 ·unfold fin
  rw[Env.mk.injEq]
  refine⟨(PX hx.uR hy.uR hi.d2 e.ai).symm,?_⟩
  simp only
  cases Yg:Ux with
  |none=>rfl
  |some p=>
   cases Yh:Uy with
   |none=>rfl
   |some q=>exact List.set_comm _ _ (EM _ _ _ _ Yg Yh)
end
end Go.Proofs.Ytaknajjmldngiaa.Ab
namespace Go.Proofs.Ytaknajjmldngiaa.Ab
open Go Go.RowKit
theorem Rw{l:List Nat}(h:Bb l=true):l.Nodup:=by
 induction l with
 |nil=>exact .nil
 |cons a l ih=>
  simp only[Bb,Bool.and_eq_true,Bool.not_eq_true',List.contains_eq_mem,decide_eq_false_iff_not]at h
  exact List.nodup_cons.2 ⟨h.1,ih h.2⟩
structure uS(ops:Array Oper)(ax:Nat→Bool):Prop where
 inj:∀(i j:Nat)oi oj a,ops[i]? =some oi→ops[j]? =some oj→lz oi=some a→lz oj=some a→i=j
 mem:∀(i:Nat)o,ops[i]? =some o→lz o=none→e9 o=false∧∀d,o.dst=some d→d∉jo ops.toList
 Ge:∀(i:Nat)o,ops[i]? =some o→∀x∈o.op.operands,(ax i=false→addrOf o≠some x)→∀t,x=.tmp t→t∉jo ops.toList
 val:∀(i:Nat)o,ops[i]? =some o→∀t x y,o.op=.store t x y→∀u,y=.tmp u→u∉jo ops.toList
 waits:∀(j:Nat)o a,ops[j]? =some o→mB (jo ops.toList) o=some a→∀(i:Nat)oi,ops[i]? =some oi→lz oi=some a→((reach [] ops.toList).getD j 0).testBit i=true
theorem HM{α:Type}{f:α→Option Nat}:∀{l:List α},(l.filterMap f).Nodup →∀(i j:Nat)x y a,l[i]? =some x→l[j]? =some y→f x=some a→f y=some a→i=j
 |[],_,i,j,x,y,a,hx,_,_,_=>by simp at hx
 |z::l,h,i,j,x,y,a,hx,hy,fx,fy=>by
  have mem:∀(k:Nat)w,l[k]? =some w→f w=some a→a∈l.filterMap f:=fun k w hw fw=>List.mem_filterMap.2 ⟨w,List.mem_of_getElem? hw,fw⟩
  cases i with
  |zero=>
   cases j with
   |zero=>rfl
   |succ j=>
    simp only[List.getElem?_cons_zero,Option.some.injEq]at hx
    simp only[List.getElem?_cons_succ]at hy
    subst hx
    rw[List.filterMap_cons_some fx]at h
    exact absurd (mem j y hy fy) (List.nodup_cons.1 h).1
  |succ i=>
   simp only[List.getElem?_cons_succ]at hx
   cases j with
   |zero=>
    simp only[List.getElem?_cons_zero,Option.some.injEq]at hy
    subst hy
    rw[List.filterMap_cons_some fy]at h
    exact absurd (mem i x hx fx) (List.nodup_cons.1 h).1
   |succ j=>
    simp only[List.getElem?_cons_succ]at hy
    have h':(l.filterMap f).Nodup :=by
     cases hz:f z with
     |none=>rw[List.filterMap_cons_none hz]at h;exact h
     |some b=>rw[List.filterMap_cons_some hz]at h;exact(List.nodup_cons.1 h).2
    rw[HM h' i j x y a hx hy fx fy]
theorem HN{all:List Oper}{A:List Nat}{ax:Nat→Bool}{R:List Nat}:∀{l:List Oper}{i:Nat},Az all A ax R l i=true→∀(n:Nat)o,l[n]? =some o→
  yi A (ax (i+n)) o=true∧∀a,mB A o=some a→xW a (R.getD (i+n) 0) all 0=true
 |[],_,_,n,o,h=>by simp at h
 |p::l,i,h,n,o,ho=>by
  simp only[Az,Bool.and_eq_true]at h
  obtain⟨⟨h1,h2⟩,h3⟩:=h
  cases n with
  |zero=>
   simp only[List.getElem?_cons_zero,Option.some.injEq]at ho
   subst ho
   refine⟨h1,fun a ha=>?_⟩
   rw[ha]at h2
   exact h2
  |succ n=>
   have:=HN h3 n o (by simpa using ho)
   rw[show i+1+n=i+(n+1) by omega]at this
   exact this
theorem HE{a m:Nat}:∀{l:List Oper}{i:Nat},xW a m l i=true→∀(n:Nat)o,l[n]? =some o→lz o=some a→m.testBit (i+n)=true
 |[],_,_,n,o,h,_=>by simp at h
 |p::l,i,h,n,o,ho,ha=>by
  simp only[xW,Bool.and_eq_true]at h
  cases n with
  |zero=>
   simp only[List.getElem?_cons_zero,Option.some.injEq]at ho
   subst ho
   have:=h.1
   rw[ha]at this
   simpa using this
  |succ n=>
   have:=HE h.2 n o (by simpa using ho) ha
   rw[show i+1+n=i+(n+1) by omega]at this
   exact this
theorem AB{A:List Nat}{x:Operand}(h:zi A x=false):∀t,x=.tmp t→t∉A:=by
 rintro t rfl
 simpa[zi]using h
theorem KE{ops:Array Oper}{ax:Nat→Bool}(h:eligible ops.toList ax (reach [] ops.toList)=true):uS ops ax:=by
 simp only[eligible,Bool.and_eq_true]at h
 obtain⟨hn,hf⟩:=h
 have sp:=fun(i:Nat)(o:Oper)(ho:ops[i]? =some o)=>HN hf i o (by rw[Array.getElem?_toList];exact ho)
 simp only[Nat.zero_add]at sp
 refine⟨fun i j oi oj a h1 h2 h3 h4=>HM (Rw hn) i j oi oj a (by rw[Array.getElem?_toList];exact h1) (by rw[Array.getElem?_toList];exact h2) h3 h4,fun i o ho ha=>?_,fun i o ho x hx zz=>?_,fun i o ho t x y gQ=>?_,fun j o a ho hs i oi Yi Gf=>?_⟩
 ·have:=(sp i o ho).1
  simp only[yi,ha,Bool.and_eq_true,Bool.not_eq_true']at this
  refine⟨this.1.1,fun d hd=>?_⟩
  have h2:=this.1.2
  rw[hd]at h2
  simpa using h2
 ·have:=(sp i o ho).1
  simp only[yi,Bool.and_eq_true]at this
  have h2:=this.2
  cases gQ:o.op with
  |store t u v=>
   rw[gQ]at h2 hx
   simp only[Bool.and_eq_true,Bool.not_eq_true',Bool.or_eq_true]at h2
   simp only[Op.operands,List.mem_toArray,List.mem_cons,List.not_mem_nil,or_false]at hx
   rcases hx with rfl|rfl
   ·rcases h2.2 with h3|h3
    ·exact AB h3
    ·exact absurd (by simp[addrOf,gQ]) (zz h3)
   ·exact AB h2.1
  |_=>
   rw[gQ]at h2 hx
   simp only[List.all_eq_true,Bool.not_eq_true']at h2
   exact AB (h2 x (by simpa using hx))
 ·have:=(sp i o ho).1
  simp only[yi,Bool.and_eq_true]at this
  have h2:=this.2
  rw[gQ]at h2
  simp only[Bool.and_eq_true,Bool.not_eq_true']at h2
  exact AB h2.1
 ·have:=HE ((sp j o ho).2 a hs) i oi (by rw[Array.getElem?_toList];exact Yi) Gf
  simpa using this
section
variable{P:Program}{gl:Nat→Option D}{C:bu}{ops:Array Oper}{ax:Nat→Bool}{base:Nat}{K:Nat→Prop}
structure Jv(ops:Array Oper)(base:Nat)(K:Nat→Prop)(aX:Array Bool)(e:Env):Prop where
 k:∀b,K b→b<base
 low:∀t,t∉jo ops.toList→cS K (e.ai.getD t (.v .undef))
 box:∀b s,(K b∨base≤b)→e.boxes[b]? =some (.one s)→cS K s
 own:∀(i:Nat)o a,ops[i]? =some o→lz o=some a→aX.getD i false=true→e.ai.getD a (.v .undef)=.v .undef ∨e.ai.getD a (.v .undef)=.p (base+ep ops.toList i) 0
theorem DN{e:Env}{x:Operand}(h:∀t,x=.tmp t→cS K (e.ai.getD t (.v .undef))):cS K (e6 gl e x):=by
 unfold e6
 cases x with
 |tmp t=>exact(h t rfl).cF
 |_=>
  simp only[Ab.aJ]
  repeat' split
  all_goals exact .v _
theorem CX(l:List Slot)(i j:Nat)(x d:Slot):((l.set i x).getD j d=x∧i=j)∨(l.set i x).getD j d=l.getD j d:=by
 by_cases h:i=j
 ·subst h
  rcases Nat.lt_or_ge i l.length with hl|hl
  ·left;simp[List.getD_eq_getElem?_getD,List.getElem?_set_self hl]
  ·right;rw[List.set_eq_of_length_le hl]
 ·right;exact lr h
theorem Eb:∀{l:List Oper}{i j:Nat}{o:Oper},i<j→l[i]? =some o→e9 o=true→ep l i<ep l j
 |[],i,j,o,_,h,_=>by simp at h
 |p::l,i,j,o,j9,h,hm=>by
  cases j with
  |zero=>omega
  |succ j=>
   cases i with
   |zero=>
    simp only[List.getElem?_cons_zero,Option.some.injEq]at h
    subst h
    simp only[ep,hm,cond_true]
    omega
   |succ i=>
    have:=Eb (Nat.lt_of_succ_lt_succ j9) (by simpa using h) hm
    simp only[ep]
    omega
theorem Dv{o:Oper}{a:Nat}(h:lz o=some a):(∃t,o.op=.alloc t)∧o.guard=none∧o.dst=some a:=by
 unfold lz at h
 split at h
 ·rename_i t h1 h2;exact⟨⟨t,h1⟩,h2,h⟩
 ·cases h
theorem Jl{i:Nat}{o:Oper}{a:Nat}(ho:ops[i]? =some o)(h:lz o=some a):a∈jo ops.toList:=
 List.mem_filterMap.2 ⟨o,List.mem_of_getElem? (by rw[Array.getElem?_toList];exact ho),h⟩
theorem Jm{a:Nat}(h:a∈jo ops.toList):∃(i:Nat) (o:Oper),ops[i]? =some o∧lz o=some a:=by
 obtain⟨o,ho,h⟩:=List.mem_filterMap.1 h
 obtain⟨i,hi⟩:=List.mem_iff_getElem?.1 ho
 exact⟨i,o,by rw[←Array.getElem?_toList];exact hi,h⟩
theorem Jv.step{aX:Array Bool}{e e':Env}(hE:uS ops ax)(hJ:Jv ops base K aX e){i:Nat}{o:Oper}(ho:ops[i]? =some o)
  (h:lG P gl C ops.toList (base+ep ops.toList i) (ax i) o e (fun x=>x=e')):Jv ops base K (aX.setIfInBounds i true) e':=by
 cases ha:lz o with
 |some a=>
  obtain⟨⟨t,gQ⟩,hg,hd⟩:=Dv ha
  have h':=v9.1 h
  have iY:oX ops.toList o e=some true:=by unfold oX;rw[hg]
  rw[iY]at h'
  simp only[j3]at h'
  cases hl:ax i with
  |true=>rw[hl]at h';simp only[cond_true,jD,gQ]at h'
  |false=>
   rw[hl]at h'
   simp only[cond_false,b7,gQ]at h'
   split at h'
   ·rename_i ej
    obtain⟨z,hz,h2⟩:=az h'
    subst h2
    rw[hd]
    refine⟨hJ.k,fun t' mS=>?_,fun b s hb fM=>?_,fun j oj a' ij sd vo=>?_⟩
    ·simp only[bF]
     rw[lr (fun h:a=t'=>mS (by rw[←h];exact Jl ho ha))]
     exact hJ.low t' mS
    ·simp only at fM
     rw[List.getElem?_set]at fM
     split at fM
     ·split at fM
      ·cases fM
      ·cases fM
     ·exact hJ.box b s hb fM
    ·simp only[bF]
     by_cases j9:i=j
     ·subst j9
      rw[ho]at ij;cases ij
      rw[ha]at sd;cases sd
      rcases CX e.ai a a (.p (base+ep ops.toList i) 0) (.v .undef)with⟨h,_⟩|h
      ·exact .inr h
      ·rcases Nat.lt_or_ge a e.ai.length with aS|kB
       ·right;simp[List.getD_eq_getElem?_getD,List.getElem?_set_self aS]
       ·left;rw[h,List.getD_eq_getElem?_getD,List.getElem?_eq_none kB];rfl
     ·have bm:a≠a':=fun h=>j9 (hE.inj i j o oj a ho ij ha (h▸sd))
      rw[lr bm]
      refine hJ.own j oj a' ij sd ?_
      rw[getD_set_ne false j9]at vo
      exact vo
   ·exact h'.elim
 |none=>
  obtain⟨B9,lJ⟩:=hE.mem i o ho ha
  obtain⟨src,s,U,hk,hO,_,oY,_⟩:=ui h
  subst hk
  obtain⟨l1,l2,l3⟩:=oY K (fun b=>K b∨base≤b) (fun b h=>.inl h) (fun x hx zz=>DN fun t ht=>hJ.low t (hE.Ge i o ho x hx zz t ht))
   (fun t x y gQ=>DN fun u hu=>hJ.low u (hE.val i o ho t x y gQ u hu)) hJ.box B9
  have E6:∀t d,src=some (t,d)→t∉jo ops.toList:=fun t d hs=>by
   obtain⟨hl,ht⟩:=hO.uR t d hs
   obtain⟨z,hz,zA⟩:=List.mem_filterMap.1 ht
   refine hE.Ge i o ho (.tmp t) ?_ (fun h=>by rw[hl]at h;cases h) t rfl
   cases z with
   |tmp u=>simp only[Option.some.injEq]at zA;subst zA;simpa using hz
   |_=>simp at zA
  have gT:∀t,(cS K (e.ai.getD t (.v .undef))→cS K ((hN src e.ai).getD t (.v .undef)))∧(t∈jo ops.toList→(hN src e.ai).getD t (.v .undef)=e.ai.getD t (.v .undef)):=fun t=>by
   cases tS:src with
   |none=>exact⟨fun h=>h,fun _=>rfl⟩
   |some p=>
    obtain⟨u,d⟩:=p
    simp only[hN]
    refine⟨fun h=>?_,fun ht=>lr fun hh=>E6 u d tS (hh▸ht)⟩
    rcases CX e.ai u t d (.v .undef)with⟨h2,_⟩|h2
    ·rw[h2];exact l2 u d tS
    ·rw[h2];exact h
  refine⟨hJ.k,fun t ht=>?_,fun b s' hb fM=>?_,fun j oj a' ij sd vo=>?_⟩
  ·unfold fin
   simp only
   cases hd:o.dst with
   |none=>exact(gT t).1 (hJ.low t ht)
   |some d=>
    simp only[bF]
    rcases CX (hN src e.ai) d t s (.v .undef)with⟨h2,_⟩|h2
    ·rw[h2];exact l1
    ·rw[h2];exact(gT t).1 (hJ.low t ht)
  ·unfold fin at fM
   simp only at fM
   cases hU:U with
   |none=>rw[hU]at fM;exact hJ.box b s' hb fM
   |some p=>
    obtain⟨b0,bx⟩:=p
    rw[hU]at fM
    simp only[ka]at fM
    rw[List.getElem?_set]at fM
    split at fM
    ·rename_i cD
     split at fM
     ·cases fM
      exact l3 b0 s' hU
     ·cases fM
    ·exact hJ.box b s' hb fM
  ·have j9:i≠j:=by
    rintro rfl
    rw[ho]at ij;cases ij
    rw[ha]at sd;cases sd
   have dq:=Jl ij sd
   have j4:(fin o src s U e).ai.getD a' (.v .undef)=e.ai.getD a' (.v .undef):=by
    unfold fin
    simp only
    cases hd:o.dst with
    |none=>exact(gT a').2 dq
    |some d=>
     simp only[bF]
     rw[lr (fun h:d=a'=>lJ d hd (by rw[h];exact dq))]
     exact(gT a').2 dq
   rw[j4]
   refine hJ.own j oj a' ij sd ?_
   rw[getD_set_ne false j9]at vo
   exact vo
theorem JV{e:Env}{aX:Array Bool}(hJ:Jv ops base K aX e){b:Nat}(hb:base≤b)(bx:af):∀(n:Nat)(s:Slot),cS K s→snap (e.boxes.set b bx) n s=snap e.boxes n s:=by
 intro n
 induction n with
 |zero=>intro s _;rfl
 |succ n ih=>
  intro s hs
  cases hs with
  |v x=>rfl
  |t l=>rfl
  |a c m sz h=>
   have bm:b≠c:=fun h2=>by have:=hJ.k c h;omega
   simp only[snap]
   rw[List.getElem?_set_ne bm]
  |m c h=>rfl
  |p c off h=>
   have bm:b≠c:=fun h2=>by have:=hJ.k c h;omega
   simp only[snap]
   rw[List.getElem?_set_ne bm]
   cases hc:e.boxes[c]? with
   |none=>rfl
   |some y=>
    cases y with
    |one s'=>simp only;rw[ih s' (hJ.box c s' (.inl h) hc)]
    |_=>rfl
  |c f first cap h1 h2=>
   simp only[snap]
   have hl:∀(l:List Slot),(∀s∈l,cS K s)→gE (snap (e.boxes.set b bx) n) l=gE (snap e.boxes n) l:=by
    intro l hl
    induction l with
    |nil=>rfl
    |cons a l Yj=>simp only[gE];rw[ih a (hl a (by simp)),Yj fun s hs=>hl s (by simp[hs])]
   rw[hl first h1,hl cap h2]
theorem Rx{e:Env}{aX:Array Bool}(hJ:Jv ops base K aX e){b:Nat}(hb:base≤b)(bx:af){s:Slot}(hs:cS K s)(q:Bool):ki q s e.boxes (e.boxes.set b bx):=by
 refine⟨fun c off h=>?_,fun n=>JV hJ hb bx n s hs,fun c l h=>?_⟩
 ·subst h
  have bm:b≠c:=fun h2=>by have:=hJ.k c hs.jq;omega
  rw[List.getElem?_set_ne bm]
  exact⟨.refl _,fun _=>rfl⟩
 ·subst h
  have bm:b≠c:=fun h2=>by have:=hJ.k c hs.LP;omega
  rw[List.getElem?_set_ne bm]
theorem Ry{e:Env}{aX:Array Bool}(hJ:Jv ops base K aX e){b c off:Nat}(hb:base≤b)(hc:base≤c)(bm:b≠c)(bx:af)(q:Bool):ki q (.p c off) e.boxes (e.boxes.set b bx):=by
 refine⟨fun c' mL h=>?_,fun n=>?_,fun c l h=>by cases h⟩
 ·cases h
  rw[List.getElem?_set_ne bm]
  exact⟨.refl _,fun _=>rfl⟩
 ·cases n with
  |zero=>rfl
  |succ n=>
   simp only[snap]
   rw[List.getElem?_set_ne bm]
   cases hx:e.boxes[c]? with
   |none=>rfl
   |some y=>
    cases y with
    |one s'=>simp only;rw[JV hJ hb bx n s' (hJ.box c s' (.inr hc) hx)]
    |_=>rfl
theorem JW{A:List Nat}{o:Oper}{a:Nat}(h:mB A o=some a):a∈A∧∃t y,o.op=.store t (.tmp a) y:=by
 unfold mB at h
 split at h
 ·rename_i t a' y gQ
  cases hc:A.contains a' with
  |false=>rw[hc]at h;cases h
  |true=>
   rw[hc]at h
   cases h
   exact⟨by simpa using hc,t,y,gQ⟩
 ·cases h
def Made(ops:Array Oper)(aX:Array Bool)(o:Oper):Prop:=∀a,mB (jo ops.toList) o=some a→∀(i:Nat)oi,ops[i]? =some oi→lz oi=some a→aX.getD i false=true
theorem TS{e:Env}{aX:Array Bool}(hE:uS ops ax)(hJ:Jv ops base K aX e){j:Nat}{y:Oper}(hy:ops[j]? =some y){z:Operand}(hz:z∈y.op.operands)(h:mB (jo ops.toList) y=none∨addrOf y≠some z):cS K (e6 gl e z):=by
 refine DN fun t ht=>hJ.low t ?_
 by_cases tT:addrOf y=some z
 ·rcases h with h|h
  ·subst ht
   unfold addrOf at tT
   split at tT
   ·rename_i t' x' y' gQ
    cases tT
    intro hm
    unfold mB at h
    rw[gQ]at h
    simp[hm]at h
   ·cases tT
  ·exact absurd tT h
 ·exact hE.Ge j y hy z hz (fun _=>tT) t ht
theorem Aj{e:Env}{aX:Array Bool}(hE:uS ops ax)(hJ:Jv ops base K aX e){i j:Nat}{x y:Oper}(_hx:ops[i]? =some x)(hy:ops[j]? =some y){a:Nat}(hs:mB (jo ops.toList) x=some a)
  (nt:Made ops aX x)(tR:Made ops aX y)(bm:mB (jo ops.toList) y≠some a){lx:Bool}:uI gl lx x y e:=by
 intro hw z hz tT b off hp
 obtain⟨hm,t,v,gQ⟩:=JW hs
 obtain⟨k,ok,eO,sf⟩:=Jm hm
 have zA:=tT _ _ _ gQ
 subst zA
 have B9:e9 ok=true:=by obtain⟨⟨t,h⟩,_⟩:=Dv sf;simp[e9,h]
 have Yk:e6 gl e (.tmp a)=(e.ai.getD a (.v .undef)).aa :=rfl
 have hb:b=base+ep ops.toList k:=by
  rw[Yk]at hp
  rcases hJ.own k ok a eO sf (nt a hs k ok eO sf)with h|h
  ·rw[h]at hp;rcases hp with hp|hp<;>cases hp
  ·rw[h]at hp;rcases hp with hp|hp<;>cases hp;rfl
 have cD:base≤b:=by omega
 have qC:∀z'∈y.op.operands,cS K (e6 gl e z')∨∃c,base≤c∧b≠c∧e6 gl e z'=.p c 0:=by
  intro z' fh
  by_cases h:mB (jo ops.toList) y=none∨addrOf y≠some z'
  ·exact .inl (TS hE hJ hy fh h)
  ·have h1:mB (jo ops.toList) y≠none:=fun h2=>h (.inl h2)
   have h2:addrOf y=some z':=Classical.byContradiction fun h2=>h (.inr h2)
   obtain⟨a',gr⟩:=Option.ne_none_iff_exists'.1 h1
   obtain⟨pz,t',v',WI⟩:=JW gr
   obtain⟨k',Gg,yQ,yR⟩:=Jm pz
   have Yl:z'=.tmp a':=by
    unfold addrOf at h2
    rw[WI]at h2
    exact(Option.some.inj h2).symm
   subst Yl
   have hr:e6 gl e (.tmp a')=(e.ai.getD a' (.v .undef)).aa :=rfl
   rcases hJ.own k' Gg a' yQ yR (tR a' gr k' Gg yQ yR)with h|h
   ·left;rw[hr,h];exact .v _
   ·right
    refine⟨base+ep ops.toList k',by omega,?_,by rw[hr,h];rfl⟩
    rw[hb]
    have F3:k≠k':=by
     rintro rfl
     rw[eO]at yQ;cases yQ
     rw[sf]at yR;cases yR
     exact bm gr
    have WJ:e9 Gg=true:=by obtain⟨⟨t,h⟩,_⟩:=Dv yR;simp[e9,h]
    rcases Nat.lt_or_gt_of_ne F3 with h|h
    ·have:=Eb (l:=ops.toList) h (by rw[Array.getElem?_toList];exact eO) B9;omega
    ·have:=Eb (l:=ops.toList) h (by rw[Array.getElem?_toList];exact yQ) WJ;omega
 refine⟨fun z' fh q dB=>?_,fun z' fh _ mL=>?_⟩
 ·rcases qC z' fh with h|⟨c,hc,Gi,h⟩
  ·exact Rx hJ cD dB h q
  ·rw[h];exact Ry hJ cD hc Gi dB q
 ·rcases qC z' fh with h|⟨c,hc,Gi,h⟩
  ·refine⟨fun h2=>?_,fun h2=>?_⟩
   ·rw[h2]at h;have:=hJ.k b h.jq;omega
   ·rw[h2]at h;have:=hJ.k b h.LP;omega
  ·rw[h]
   refine⟨fun h2=>?_,fun h2=>by cases h2⟩
   cases h2
   exact Gi rfl
theorem Rz{e:Env}{aX:Array Bool}(hE:uS ops ax)(hJ:Jv ops base K aX e){i j:Nat}{x y:Oper}(hx:ops[i]? =some x)(hy:ops[j]? =some y){lx ly:Bool}(hf:Bx (jo ops.toList) lx ly x y=true)
  (nt:Made ops aX x)(tR:Made ops aX y):uI gl lx x y e∧uI gl ly y x e:=by
 unfold Bx at hf
 split at hf
 ·rename_i a b ha hb
  simp only[Bool.and_eq_true,Bool.not_eq_true']at hf
  have qD:a≠b:=fun h=>by rw[h,Nat.beq_refl]at hf;exact absurd hf.1.1 (by simp)
  exact⟨Aj hE hJ hx hy ha nt tR (by rw[hb];simpa using Ne.symm qD),Aj hE hJ hy hx hb tR nt (by rw[ha];simpa using qD)⟩
 ·rename_i a ha hb
  simp only[Bool.and_eq_true,Bool.not_eq_true']at hf
  refine⟨Aj hE hJ hx hy ha nt tR (by rw[hb];simp),fun hw=>?_⟩
  rcases hw with h|h
  ·rw[hf.1.2]at h;cases h
  ·rw[hf.2]at h;cases h
 ·rename_i b ha hb
  simp only[Bool.and_eq_true,Bool.not_eq_true']at hf
  refine⟨fun hw=>?_,Aj hE hJ hy hx hb tR nt (by rw[ha];simp)⟩
  rcases hw with h|h
  ·rw[hf.1.2]at h;cases h
  ·rw[hf.2]at h;cases h
 ·cases hf
theorem PY{A:List Nat}{lx ly:Bool}{x y:Oper}(h:Er ops A lx ly x y=true):BB ops lx ly x y∧Bx A lx ly x y=true:=by
 simp only[Er,Bool.and_eq_true,List.all_eq_true,Bool.not_eq_true',List.contains_eq_mem,decide_eq_false_iff_not]at h
 obtain⟨⟨h1,h2⟩,h3⟩:=h
 exact⟨⟨fun t ht=>(h1 t ht).1,fun t ht=>(h1 t ht).2,fun t ht=>h2 t ht⟩,h3⟩
end
end Go.Proofs.Ytaknajjmldngiaa.Ab
namespace Go.Proofs.Ytaknajjmldngiaa.Ab
open Go Go.RowKit
theorem Dw:∀(l:List Oper)(acc:List Nat)(k:Nat),k<acc.length→(reach acc l)[k]? =acc[k]?
 |[],acc,k,_=>rfl
 |o::l,acc,k,h=>by
  rw[reach,Dw l _ k (by simp;omega),List.getElem?_append_left h]
theorem Jn(acc:List Nat)(i:Nat):∀(es:List Edge)(s:Nat),(es.foldl (fun s e=>bif Region.binds .any e then s|||2^e.on|||acc.getD e.on 0 else s) s).testBit i=true→
  s.testBit i=true∨∃e∈es,Region.binds .any e=true∧(e.on=i∨(acc.getD e.on 0).testBit i=true)
 |[],s,h=>.inl h
 |e::es,s,h=>by
  rw[List.foldl_cons]at h
  rcases Jn acc i es _ h with h|⟨e',he,hb,h⟩
  ·cases hb:Region.binds .any e with
   |false=>rw[hb]at h;exact .inl h
   |true=>
    rw[hb]at h
    simp only[cond_true,Nat.testBit_or,Bool.or_eq_true]at h
    rcases h with(h|h)|h
    ·exact .inl h
    ·refine .inr ⟨e,by simp,hb,.inl ?_⟩
     simpa[Nat.testBit_two_pow]using h
    ·exact .inr ⟨e,by simp,hb,.inr h⟩
  ·exact .inr ⟨e',by simp[he],hb,h⟩
theorem Iz:∀(l:List Oper)(acc:List Nat)(k i:Nat),acc.length≤k→((reach acc l).getD k 0).testBit i=true→
  ∃o,l[k-acc.length]? =some o∧∃e∈o.after.toList,Region.binds .any e=true∧(e.on=i∨(e.on<k∧((reach acc l).getD e.on 0).testBit i=true))
 |[],acc,k,i,hk,h=>by
  rw[reach,List.getD_eq_getElem?_getD,List.getElem?_eq_none hk]at h
  simp at h
 |o::l,acc,k,i,hk,h=>by
  rw[reach]at h ⊢
  rcases Nat.eq_or_lt_of_le hk with dj|dj
  ·subst dj
   refine⟨o,by simp,?_⟩
   rw[List.getD_eq_getElem?_getD,Dw l _ acc.length (by simp),List.getElem?_append_right (Nat.le_refl _)]at h
   simp only[Nat.sub_self,List.getElem?_cons_zero,Option.getD_some]at h
   rcases Jn acc i _ 0 h with h|⟨e,he,hb,h⟩
   ·simp at h
   ·refine⟨e,he,hb,h.imp id fun h=>?_⟩
    have aS:e.on<acc.length:=by
     rcases Nat.lt_or_ge e.on acc.length with h'|h'
     ·exact h'
     ·rw[List.getD_eq_getElem?_getD,List.getElem?_eq_none h']at h;simp at h
    refine⟨aS,?_⟩
    rw[List.getD_eq_getElem?_getD,Dw l _ e.on (by simp;omega),List.getElem?_append_left aS,←List.getD_eq_getElem?_getD]
    exact h
  ·obtain⟨p,hp,hr⟩:=Iz l _ k i (by simp;omega) h
   refine⟨p,?_,hr⟩
   rw[←hp]
   have:k-acc.length=(k-(acc++[o.after.toList.foldl (fun s e=>bif Region.binds .any e then s|||2^e.on|||acc.getD e.on 0 else s) 0]).length)+1:=by simp;omega
   rw[this,List.getElem?_cons_succ]
section
variable{P:Program}{gl:Nat→Option D}{ops:Array Oper}{ax:Nat→Bool}{base:Nat}
def qe(ops:Array Oper)(aX:Array Bool):Prop:=∀(j:Nat)o,ops[j]? =some o→aX.getD j false=true→∀e∈o.after,Region.binds .any e=true→aX.getD e.on false=true
theorem qe.waits{aX:Array Bool}(hc:qe ops aX){i:Nat}:∀(j:Nat)o,ops[j]? =some o→(∀e∈o.after,Region.binds .any e=true→aX.getD e.on false=true)→
  ((reach [] ops.toList).getD j 0).testBit i=true→aX.getD i false=true:=by
 intro j
 induction j using Nat.strongRecOn with
 |_ j ih=>
  intro o ho eF h
  obtain⟨o',bJ,e,he,hb,h⟩:=Iz ops.toList [] j i (Nat.zero_le _) h
  simp only[List.length_nil,Nat.sub_zero,Array.getElem?_toList]at bJ
  rw[ho]at bJ
  cases bJ
  have hl:=eF e (by simpa using he) hb
  rcases h with h|⟨aS,h⟩
  ·rw[←h];exact hl
  ·have hex:∃p,ops[e.on]? =some p:=by
    have:=(Array.getElem?_eq_some_iff.1 ho).1
    exact⟨ops[e.on],by simp[show e.on<ops.size by omega]⟩
   obtain⟨p,hp⟩:=hex
   exact ih e.on aS p hp (hc e.on p hp hl) h
theorem qe.set{aX:Array Bool}(hc:qe ops aX){j:Nat}(hj:j∈Region.ready .any ops aX):qe ops (aX.setIfInBounds j true):=by
 obtain⟨_,o,ho,eF⟩:=mem_ready.1 hj
 intro k p hk hl e he hb
 by_cases zB:j=k
 ·subst zB
  rw[ho]at hk;cases hk
  exact getD_set_true (eF e he hb)
 ·rw[getD_set_ne false zB]at hl
  exact getD_set_true (hc k p hk hl e he hb)
def tA(P:Program)(gl:Nat→Option D)(ops:Array Oper)(ax:Nat→Bool)(base:Nat)(Q:Env→Prop):Nat→Array Bool→Env→Prop
 |0,aX,e=>Region.ready .any ops aX=[]∧Q e
 |fuel+1,aX,e=>
  (Region.ready .any ops aX=[]→Q e)∧
  ∀i∈Region.ready .any ops aX,∃o,ops[i]? =some o∧lG P gl (aD P gl) ops.toList (base+ep ops.toList i) (ax i) o e (tA P gl ops ax base Q fuel (aX.setIfInBounds i true))
theorem Ap{w0:World}{an:S0}{e:Env}{a:Act}{w:World}{g:Gh}(hI:Inv gl w0 an e a w g){o:Oper}{c:Bool}(h:oX ops.toList o e=some c):Region.wanted o (yielded ops a.tmps)=c:=by
 unfold oX at h
 unfold Region.wanted
 split at h
 ·rename_i hg;rw[hg];exact(Option.some.inj h)
 ·rename_i j want hg
  rw[hg]
  simp only
  unfold yielded
  split at h
  ·rename_i t ht
   have mS:(ops[j]?).bind (·.dst)=some t:=by
    rw[Array.getElem?_toList]at ht
    cases hj:ops[j]? with
    |none=>rw[hj]at ht;cases ht
    |some q=>rw[hj]at ht;exact ht
   rw[mS]
   have hs:=kK hI t
   have aS:∀{s},e.ai.getD t (.v .undef)=s→s≠.v .undef →a.tmps[t]? =some (a.tmps.getD t undef):=by
    intro s h1 h2
    have:t<e.ai.length:=by
     rcases Nat.lt_or_ge t e.ai.length with h|h
     ·exact h
     ·rw[List.getD_eq_getElem?_getD,List.getElem?_eq_none h]at h1;exact absurd h1.symm h2
    rw[←hI.size]at this
    simp[this]
   split at h
   ·rename_i c' hx
    rw[hx]at hs
    have hv:=hs.jG.data.pT
    have h1:=aS hx (by simp)
    simp only[Act.eval]at hv
    rw[hv]at h1
    simp only[Option.bind_some,h1]
    cases h
    cases c'<;>cases want<;>rfl
   ·rename_i vs hx
    rw[hx]at hs
    obtain⟨tv,hv,_⟩:=hs.EI
    have h1:=aS hx (by simp)
    simp only[Act.eval]at hv
    rw[hv]at h1
    simp only[Option.bind_some,h1]
    cases h
    rfl
   ·cases h
  ·cases h
theorem JX{w0:World}{an:S0}{e:Env}{a:Act}{w:World}{g:Gh}(hI:Inv gl w0 an e a w g)(dst:Option Nat):Inv gl w0 an ⟨bF e.ai dst (.t []),e.boxes⟩ (a.put dst undef) w g:=
 hI.value (.t _ [] #[] rfl (fun j x v h=>by simp at h))
theorem DO{w0:World}{an:S0}{e:Env}{a:Act}{w:World}{g:Gh}(hI:Inv gl w0 an e a w g){i id:Nat}{l:Bool}{o:Oper}(ho:ops[i]? =some o){k:Env→Prop}
  (h:lG P gl (aD P gl) ops.toList id l o e k){next:Act→World→Prop}{Q:Exit→Act→World→Prop}(hn:∀e' a' w' g',Inv gl w0 an e' a' w' g'→k e'→next a' w'):wpOp P ops Q i next a w:=by
 have h':=v9.1 h
 unfold wpOp
 simp only[ho]
 split at h'
 ·rename_i hg
  rw[if_pos (Ap hI hg)]
  exact .inl (Ji hI h' next Q fun e' v w' g' hinv hk=>hn e' _ w' g' hinv hk)
 ·rename_i hg
  rw[if_neg (by rw[Ap hI hg];simp)]
  exact hn _ _ _ _ (JX hI o.dst) h'
 ·exact h'.elim
theorem Dx{e e':Env}(hG:Good gl e){i id:Nat}{l:Bool}{o:Oper}(ho:ops[i]? =some o)(h:lG P gl (aD P gl) ops.toList id l o e (fun x=>x=e')):Good gl e':=by
 obtain⟨w0,an,a,w,g,hI⟩:=hG
 have:=DO (Q:=fun _ _ _=>False) hI ho h (next:=fun a' w'=>∃g',Inv gl w0 an e' a' w' g') (fun gO a' w' g' hinv hk=>⟨g',hk▸hinv⟩)
 have TT:∀{next:Act→World→Prop},o.wp P a w next (fun _ _ _=>False)→∃a' w',next a' w':=by
  intro next h
  unfold Oper.wp at h
  generalize (execOp a.eval o).run P w=r at h
  cases r with
  |ok n w'=>
   cases n<;>simp only[Oper.upon]at h
   case value v=>exact⟨_,_,h⟩
   case skip=>exact⟨_,_,h⟩
   case defer d=>exact⟨_,_,h⟩
   case enter f args=>
    obtain⟨e,B2,fr,hR,_⟩:=h []
    cases e with
    |returned v=>exact⟨_,_,hR⟩
    |panicked c=>exact hR.elim
    |outgrown=>obtain⟨_,_,hf⟩:=hR;exact hf.elim
   case row row args=>
    obtain⟨v,B2,hR,_⟩:=h default []
    exact⟨_,_,hR⟩
  |halt x w'=>cases x<;>simp only[Oper.upon]at h
 unfold wpOp at this
 simp only[ho]at this
 have BQ:∃a' w',∃g',Inv gl w0 an e' a' w' g':=by
  split at this
  ·rcases this with h|⟨_,_,_,hf⟩
   ·exact TT h
   ·exact hf.elim
  ·exact⟨_,_,this⟩
 obtain⟨a',w',g',hinv⟩:=BQ
 exact⟨w0,an,a',w',g',hinv⟩
def Js(ops:Array Oper)(ax:Nat→Bool)(base:Nat)(K:Nat→Prop)(E:Option (List Nat))(aX:Array Bool)(e:Env):Prop:=
 ∀A,E=some A→A=jo ops.toList∧uS ops ax∧Jv ops base K aX e
theorem Js.step{C:bu}{K:Nat→Prop}{E:Option (List Nat)}{aX:Array Bool}{e e':Env}(h:Js ops ax base K E aX e){i:Nat}{o:Oper}(ho:ops[i]? =some o)
  (hs:lG P gl C ops.toList (base+ep ops.toList i) (ax i) o e (fun x=>x=e')):Js ops ax base K E (aX.setIfInBounds i true) e':=fun A hA=>by
 obtain⟨h1,h2,h3⟩:=h A hA
 exact⟨h1,h2,h3.step h2 ho hs⟩
theorem KF{aX:Array Bool}(hE:uS ops ax)(hc:qe ops aX){i:Nat}{o:Oper}(ho:ops[i]? =some o)(hr:i∈Region.ready .any ops aX):Made ops aX o:=by
 intro a ha k ok hk sf
 obtain⟨_,o',bJ,eF⟩:=mem_ready.1 hr
 rw[ho]at bJ;cases bJ
 exact hc.waits i o ho eF (hE.waits i o a ho ha k ok hk sf)
theorem PZ{K:Nat→Prop}{E:Option (List Nat)}{aX:Array Bool}{e:Env}(hJ:Js ops ax base K E aX e)(hc:qe ops aX){i j:Nat}{x y:Oper}(hx:ops[i]? =some x)(hy:ops[j]? =some y)
  (vp:i∈Region.ready .any ops aX)(Gj:j∈Region.ready .any ops aX)(h:wE E ops (ax i) (ax j) x y=true):
  BB ops (ax i) (ax j) x y∧(E7 (ax i) (ax j) x y∨(uI gl (ax i) x y e∧uI gl (ax j) y x e)):=by
 simp only[wE,Bool.or_eq_true]at h
 rcases h with h|h
 ·obtain⟨h1,h2⟩:=QD h
  exact⟨h1,.inl h2⟩
 ·cases hE:E with
  |none=>rw[hE]at h;cases h
  |some A=>
   rw[hE]at h
   obtain⟨rfl,h2,h3⟩:=hJ A hE
   obtain⟨h4,h5⟩:=PY h
   exact⟨h4,.inr (Rz h2 h3 hx hy h5 (KF h2 hc hx vp) (KF h2 hc hy Gj))⟩
theorem Jo{K:Nat→Prop}{E:Option (List Nat)}{Q:Env→Prop}{i:Nat}{oi:Oper}(hi:ops[i]? =some oi):∀(fuel:Nat)(aX:Array Bool)(e:Env)(src:Option (Nat×Slot))(s:Slot)(U:Option (Nat×af)),
  (∀(j:Nat)oj,ops[j]? =some oj→j≠i→aX.getD j true=false→((reach [] ops.toList).getD j 0).testBit i=false→wE E ops (ax i) (ax j) oi oj=true)→
  qe ops aX→i∈Region.ready .any ops aX→Good gl e→Js ops ax base K E aX e→Out P gl (aD P gl) ops (base+ep ops.toList i) (ax i) oi e src s U→
  tA P gl ops ax base Q fuel (aX.setIfInBounds i true) (fin oi src s U e)→tA P gl ops ax base Q (fuel+1) aX e:=by
 intro fuel
 induction fuel with
 |zero=>
  intro aX e src s U _ _ hr _ _ hO H
  refine⟨fun h=>(by rw[h]at hr;cases hr),fun j hj=>?_⟩
  by_cases kE:j=i
  ·subst kE;exact⟨oi,hi,hO.run H⟩
  ·have:=ready_mono hj kE
   rw[H.1]at this
   cases this
 |succ fuel ih=>
  intro aX e src s U LR hc hr hG sg hO H
  refine⟨fun h=>(by rw[h]at hr;cases hr),fun j hj=>?_⟩
  by_cases kE:j=i
  ·subst kE;exact⟨oi,hi,hO.run H⟩
  ·obtain⟨oj,ij,h1⟩:=H.2 j (ready_mono hj kE)
   obtain⟨Md,oj',Me,eF⟩:=mem_ready.1 hj
   rw[ij]at Me
   cases Me
   have Gk:((reach [] ops.toList).getD j 0).testBit i=false:=by
    cases hb:((reach [] ops.toList).getD j 0).testBit i with
    |false=>rfl
    |true=>
     have h2:=hc.waits j oj ij eF hb
     have h0:=(mem_ready.1 hr).1
     rcases Nat.lt_or_ge i aX.size with h'|h'
     ·simp[h']at h0 h2;rw[h0]at h2;cases h2
     ·simp[Array.getElem?_eq_none h']at h2
   obtain⟨WK,dq⟩:=PZ sg hc hi ij hr hj (LR j oj ij kE Md Gk)
   obtain⟨ZQ,s',U',hk,Ym,_⟩:=ui h1
   obtain⟨d1,d2,d3⟩:=SM hG WK dq hO Ym
   refine⟨oj,ij,d1.run ?_⟩
   rw[Array.setIfInBounds_comm _ _ (Ne.symm kE)]at hk
   refine ih (aX.setIfInBounds j true) _ src s U (fun k ok hk Yn pA dh=>?_) (hc.set hj) (ready_mono hr (Ne.symm kE)) (Dx hG ij (d1.run rfl)) (sg.step ij (d1.run rfl)) d2 (by rw[←d3];exact hk)
   refine LR k ok hk Yn ?_ dh
   by_cases zB:j=k
   ·subst zB;exact Md
   ·rw[getD_set_ne true zB]at pA;exact pA
theorem Ii{E:Option (List Nat)}{R:List Nat}{i:Nat}{o:Oper}:∀{l:List Oper}{j:Nat},Bc E ops ax R i o l j=true→∀(n:Nat)p,l[n]? =some p→(R.getD (j+n) 0).testBit i=true∨wE E ops (ax i) (ax (j+n)) o p=true
 |[],j,_,n,p,h=>by simp at h
 |q::l,j,h,n,p,hp=>by
  simp only[Bc,Bool.and_eq_true,Bool.or_eq_true]at h
  cases n with
  |zero=>simp at hp;subst hp;exact h.1
  |succ n=>
   have:=Ii h.2 n p (by simpa using hp)
   rw[show j+(n+1)=j+1+n by omega]
   exact this
theorem wj{all:List Oper}{C:bu}(o:Oper)(rest:List Oper)(i:Nat)(e:Env)(k:Env→Prop):
 gH P gl C ax all base (o::rest) i e k=lG P gl C all (base+ep all i) (ax i) o e (fun gO=>gH P gl C ax all base rest (i+1) gO k):=rfl
theorem Ec{KK:Nat→Prop}{E:Option (List Nat)}{K:Env→Prop}:∀(l:List Oper)(i:Nat)(aX:Array Bool)(e:Env),(∀j,l[j]? =ops[i+j]?)→(∀j,j<i→aX.getD j false=true)→(∀j,i≤j→j<ops.size→aX.getD j true=false)→aX.size=ops.size→
  qe ops aX→Good gl e→Js ops ax base KK E aX e→ux E ops ax (reach [] ops.toList) l i=true→gH P gl (aD P gl) ax ops.toList base l i e K→tA P gl ops ax base K l.length aX e
 |[],i,aX,e,hl,h1,h2,aB,_,_,_,_,h=>by
  refine⟨?_,h⟩
  rw[List.eq_nil_iff_forall_not_mem]
  intro j hj
  obtain⟨pA,o,ho,_⟩:=mem_ready.1 hj
  have aS:j<ops.size:=(Array.getElem?_eq_some_iff.1 ho).1
  have hle:ops.size≤i:=by
   have:=hl 0
   simp only[List.getElem?_nil,Nat.add_zero]at this
   exact Array.getElem?_eq_none_iff.1 this.symm
  have:=h1 j (by omega)
  simp[aB,aS]at this pA
  rw[this]at pA;cases pA
 |o::l,i,aX,e,hl,h1,h2,aB,hc,hG,sg,hB,h=>by
  have h0:ops[i]? =some o:=by simpa using(hl 0).symm
  have aS:i<ops.size:=(Array.getElem?_eq_some_iff.1 h0).1
  simp only[ux,Bool.and_eq_true]at hB
  obtain⟨⟨hr,hp⟩,Yo⟩:=hB
  have Lg:i∈Region.ready .any ops aX:=by
   refine mem_ready.2 ⟨h2 i (Nat.le_refl _) aS,o,h0,fun e he hb=>?_⟩
   have:=List.all_eq_true.1 hr e (by simpa using he)
   rw[hb]at this
   simp only[Bool.not_true,Bool.false_or]at this
   exact h1 e.on (Nat.lt_of_succ_le (Nat.le_of_ble_eq_true this))
  rw[wj]at h
  obtain⟨src,s,U,hk,hO,_⟩:=ui h
  refine Jo h0 l.length aX e src s U (fun j oj ij kE pA dh=>?_) hc Lg hG sg hO ?_
  ·have jd:j<ops.size:=(Array.getElem?_eq_some_iff.1 ij).1
   have j9:i<j:=by
    rcases Nat.lt_or_ge i j with h|h
    ·exact h
    ·exfalso
     have:=h1 j (by omega)
     simp[aB,jd]at this pA
     rw[this]at pA;cases pA
   have vo:l[j-(i+1)]? =some oj:=by
    have:=hl (j-i)
    rw[show i+(j-i)=j by omega,ij]at this
    rw[show j-i=(j-(i+1))+1 by omega]at this
    simpa using this
   have:=Ii hp (j-(i+1)) oj vo
   rw[show i+1+(j-(i+1))=j by omega,dh]at this
   simpa using this
  ·refine Ec l (i+1) _ _ (fun j=>?_) (fun j hj=>?_) (fun j hj Yp=>?_) (by simpa using aB) (hc.set Lg) (Dx hG h0 (hO.run rfl)) (sg.step h0 (hO.run rfl)) Yo hk
   ·have:=hl (j+1)
    simpa[Nat.add_assoc,Nat.add_comm 1 j]using this
   ·by_cases j9:i=j
    ·subst j9
     simp[aB,aS]
    ·exact getD_set_true (h1 j (by omega))
   ·rw[getD_set_ne true (by omega)]
    exact h2 j (by omega) Yp
theorem Ew{w0:World}{an:S0}{K:Env→Prop}{Q:Exit→Act→World→Prop}(hQ:∀e a w g,Inv gl w0 an e a w g→K e→Q .normal a w):∀(fuel:Nat)(aX:Array Bool)(e:Env)(a:Act)(w:World)(g:Gh),
  Inv gl w0 an e a w g→tA P gl ops ax base K fuel aX e→wpAny P .any ops Q fuel aX a w
 |0,_,e,a,w,g,hI,h=>⟨h.1,hQ e a w g hI h.2⟩
 |fuel+1,_,e,a,w,g,hI,h=>⟨fun h0=>hQ e a w g hI (h.1 h0),fun i hi=>by
   obtain⟨o,ho,hs⟩:=h.2 i hi
   exact DO hI ho hs fun e' a' w' g' hinv hk=>Ew hQ fuel _ e' a' w' g' hinv hk⟩
theorem KG{w0:World}{an:S0}{K:Env→Prop}{Q:Exit→Act→World→Prop}(hQ:∀e a w g,Inv gl w0 an e a w g→K e→Q .normal a w):∀(l:List Oper)(i:Nat)(e:Env)(a:Act)(w:World)(g:Gh),
  (∀j,l[j]? =ops[i+j]?)→Inv gl w0 an e a w g→gH P gl (aD P gl) ax ops.toList base l i e K→wpOps P ops Q (List.range' i l.length) a w
 |[],_,e,a,w,g,_,hI,h=>hQ e a w g hI h
 |o::l,i,e,a,w,g,hl,hI,h=>by
  have h0:ops[i]? =some o:=by simpa using(hl 0).symm
  rw[List.length_cons,List.range'_succ,wpOps_cons]
  rw[wj]at h
  exact DO hI h0 h fun e' a' w' g' hinv hk=>KG hQ l (i+1) e' a' w' g' (fun j=>by have:=hl (j+1);simpa[Nat.add_assoc,Nat.add_comm 1 j]using this) hinv hk
theorem IA{m:Nat}:∀(l:List Oper)(i j:Nat),j∈mC m l i↔i≤j∧m.testBit j=false∧∃o,l[j-i]? =some o∧∀e∈o.after,Region.binds .any e=true→m.testBit e.on=true
 |[],i,j=>by simp[mC]
 |o::l,i,j=>by
  have ih:=IA (m:=m) l (i+1) j
  have aH:i+1≤j→(o::l)[j-i]? =l[j-(i+1)]? :=fun h=>by rw[show j-i=(j-(i+1))+1 by omega,List.getElem?_cons_succ]
  rw[mC]
  cases hc:(!Nat.testBit m i&&o.after.toList.all (fun e=> !Region.binds .any e||Nat.testBit m e.on))with
  |true=>
   simp only[Bool.and_eq_true,Bool.not_eq_true',List.all_eq_true,Bool.or_eq_true]at hc
   simp only[cond_true,List.mem_cons,ih]
   constructor
   ·rintro(rfl|⟨h1,h2,p,h3,h4⟩)
    ·refine⟨Nat.le_refl _,hc.1,o,by simp,fun e he hb=>?_⟩
     rcases hc.2 e (by simpa using he)with h|h
     ·rw[hb]at h;cases h
     ·exact h
    ·exact⟨by omega,h2,p,(aH h1).trans h3,h4⟩
   ·rintro⟨h1,h2,p,h3,h4⟩
    rcases Nat.eq_or_lt_of_le h1 with h|h
    ·exact .inl h.symm
    ·exact .inr ⟨h,h2,p,(aH h).symm.trans h3,h4⟩
  |false=>
   simp only[cond_false,ih]
   constructor
   ·rintro⟨h1,h2,p,h3,h4⟩
    exact⟨by omega,h2,p,(aH h1).trans h3,h4⟩
   ·rintro⟨h1,h2,p,h3,h4⟩
    rcases Nat.eq_or_lt_of_le h1 with h|h
    ·subst h
     exfalso
     simp only[Nat.sub_self,List.getElem?_cons_zero,Option.some.injEq]at h3
     subst h3
     have:(!Nat.testBit m i&&o.after.toList.all (fun e=> !Region.binds .any e||Nat.testBit m e.on))=true:=by
      simp only[Bool.and_eq_true,Bool.not_eq_true',List.all_eq_true,Bool.or_eq_true]
      refine⟨h2,fun e he=>?_⟩
      cases hb:Region.binds .any e with
      |false=>exact .inl rfl
      |true=>exact .inr (h4 e (by simpa using he) hb)
     rw[this]at hc;cases hc
    ·exact⟨h,h2,p,(aH h).symm.trans h3,h4⟩
theorem xT{m:Nat}{aX:Array Bool}(hm:∀j,m.testBit j=aX.getD j false)(hs:aX.size=ops.size){j:Nat}:j∈mC m ops.toList 0↔j∈Region.ready .any ops aX:=by
 rw[IA,mem_ready]
 simp only[Nat.zero_le,true_and,Nat.sub_zero,Array.getElem?_toList]
 constructor
 ·rintro⟨h1,o,h2,h3⟩
  refine⟨?_,o,h2,fun e he hb=>(hm e.on).symm.trans (h3 e he hb)⟩
  have hj:j<aX.size:=by rw[hs];exact(Array.getElem?_eq_some_iff.1 h2).1
  rw[hm]at h1
  simp only[Array.getD_eq_getD_getElem?,Array.getElem?_eq_getElem hj,Option.getD_some]at h1 ⊢
  exact h1
 ·rintro⟨h1,o,h2,h3⟩
  refine⟨?_,o,h2,fun e he hb=>(hm e.on).trans (h3 e he hb)⟩
  have hj:j<aX.size:=by rw[hs];exact(Array.getElem?_eq_some_iff.1 h2).1
  rw[hm]
  simp only[Array.getD_eq_getD_getElem?,Array.getElem?_eq_getElem hj,Option.getD_some]at h1 ⊢
  exact h1
theorem IB{R:List Nat}{m i:Nat}{o:Oper}:∀{l:List Oper}{j:Nat},By ops ax R m i o l j=true→∀(n:Nat)p,l[n]? =some p→
  i=j+n∨m.testBit (j+n)=true∨(R.getD (j+n) 0).testBit i=true∨indep ops (ax i) (ax (j+n)) o p=true
 |[],j,_,n,p,h=>by simp at h
 |q::l,j,h,n,p,hp=>by
  simp only[By,Bool.and_eq_true,Bool.or_eq_true]at h
  cases n with
  |zero=>
   simp at hp;subst hp
   rcases h.1 with((h|h)|h)|h
   ·exact .inl (Nat.eq_of_beq_eq_true h)
   ·exact .inr (.inl h)
   ·exact .inr (.inr (.inl h))
   ·exact .inr (.inr (.inr h))
  |succ n=>
   have:=IB h.2 n p (by simpa using hp)
   rw[show j+(n+1)=j+1+n by omega]
   exact this
theorem HF{R:List Nat}{m i:Nat}:∀{l:List Nat},firstFree ops ax R m l=some i→i∈l∧Bd ops ax R m i=true
 |[],h=>by simp[firstFree]at h
 |k::l,h=>by
  rw[firstFree]at h
  cases hk:Bd ops ax R m k with
  |true=>rw[hk]at h;cases h;exact⟨by simp,hk⟩
  |false=>rw[hk]at h;have:=HF h;exact⟨by simp[this.1],this.2⟩
theorem JY{f:Nat→Prop}:∀{l:List Nat},BL f l→∀i∈l,f i
 |[],_,i,h=>by cases h
 |[j],hf,i,h=>by
  simp only[List.mem_cons,List.not_mem_nil,or_false]at h
  subst h;exact hf
 |j::k::l,hf,i,h=>by
  have hf:f j∧BL f (k::l):=hf
  rcases List.mem_cons.1 h with h|h
  ·subst h;exact hf.1
  ·exact JY hf.2 i h
theorem OE{m i j:Nat}:(m|||2^i).testBit j=(m.testBit j||decide (i=j)):=by
 rw[Nat.testBit_or,Nat.testBit_two_pow]
theorem Dc{K:Env→Prop}:∀(n m:Nat)(aX:Array Bool)(e:Env),(∀j,m.testBit j=aX.getD j false)→aX.size=ops.size→qe ops aX→Good gl e→
  uO P gl (aD P gl) ops ax (reach [] ops.toList) base K n m e→tA P gl ops ax base K n aX e
 |0,m,aX,e,hm,hs,hc,hG,h=>by
  rw[uO]at h
  cases hr:(mC m ops.toList 0).isEmpty with
  |false=>rw[hr]at h;exact h.elim
  |true=>
   rw[hr]at h
   refine⟨?_,h⟩
   rw[List.eq_nil_iff_forall_not_mem]
   intro j hj
   have:=(xT hm hs).2 hj
   rw[List.isEmpty_iff.1 hr]at this
   cases this
 |n+1,m,aX,e,hm,hs,hc,hG,h=>by
  rw[uO]at h
  cases hr:(mC m ops.toList 0).isEmpty with
  |true=>
   rw[hr]at h
   refine⟨fun _=>h,fun i hi=>?_⟩
   have:=(xT hm hs).2 hi
   rw[List.isEmpty_iff.1 hr]at this
   cases this
  |false=>
   rw[hr,cond_false]at h
   have pz:∀{i:Nat},i∈Region.ready .any ops aX→∀j,(m|||2^i).testBit j=(aX.setIfInBounds i true).getD j false:=by
    intro i hi j
    rw[OE,hm]
    have jO:i<aX.size:=by
     obtain⟨_,o,ho,_⟩:=mem_ready.1 hi
     rw[hs];exact(Array.getElem?_eq_some_iff.1 ho).1
    by_cases j9:i=j
    ·subst j9;simp[jO]
    ·rw[getD_set_ne false j9];simp[j9]
   have step:∀{i:Nat}{o:Oper},i∈Region.ready .any ops aX→ops[i]? =some o→
     lG P gl (aD P gl) ops.toList (base+ep ops.toList i) (ax i) o e (fun e'=>uO P gl (aD P gl) ops ax (reach [] ops.toList) base K n (m|||2^i) e')→
     ∃src s U,Out P gl (aD P gl) ops (base+ep ops.toList i) (ax i) o e src s U∧tA P gl ops ax base K n (aX.setIfInBounds i true) (fin o src s U e):=by
    intro i o hi ho h1
    obtain⟨src,s,U,hk,hO,_⟩:=ui h1
    exact⟨src,s,U,hO,Dc n _ _ _ (pz hi) (by simpa using hs) (hc.set hi) (Dx hG ho (hO.run rfl)) hk⟩
   have eF:=JY h
   unfold LL at eF
   cases hf:firstFree ops ax (reach [] ops.toList) m (mC m ops.toList 0)with
   |some i=>
    rw[hf]at eF
    obtain⟨Yq,pB⟩:=HF hf
    have hi:=(xT hm hs).1 Yq
    obtain⟨pA,o,ho,_⟩:=mem_ready.1 hi
    have h1:=eF i (by simp)
    simp only[Array.getElem?_toList,ho]at h1
    obtain⟨src,s,U,hO,hA⟩:=step hi ho h1
    unfold Bd at pB
    simp only[Array.getElem?_toList,ho]at pB
    refine Jo (E:=none) (K:=fun _=>False) ho n aX e src s U (fun j oj ij kE E9 dh=>?_) hc hi hG (fun A hA=>by cases hA) hO hA
    have:=IB pB j oj (by rw[Array.getElem?_toList];exact ij)
    rw[Nat.zero_add]at this
    rcases this with h|h|h|h
    ·exact absurd h.symm kE
    ·exfalso
     have jd:j<aX.size:=by rw[hs];exact(Array.getElem?_eq_some_iff.1 ij).1
     rw[hm]at h
     simp only[Array.getD_eq_getD_getElem?,Array.getElem?_eq_getElem jd,Option.getD_some]at h E9
     rw[h]at E9;cases E9
    ·rw[dh]at h;cases h
    ·simp[wE,h]
   |none=>
    rw[hf]at eF
    refine⟨fun h0=>?_,fun i hi=>?_⟩
    ·exfalso
     cases hl:mC m ops.toList 0 with
     |nil=>rw[hl]at hr;cases hr
     |cons i l=>
      have:=(xT hm hs (j:=i)).1 (by rw[hl];simp)
      rw[h0]at this;cases this
    ·have h1:=eF i ((xT hm hs).2 hi)
     obtain⟨_,o,ho,_⟩:=mem_ready.1 hi
     simp only[Array.getElem?_toList,ho]at h1
     obtain⟨src,s,U,hO,hA⟩:=step hi ho h1
     exact⟨o,ho,hO.run hA⟩
theorem De{all:List Oper}{K:Env→Prop}:∀(l:List Oper)(i:Nat)(e:Env),gH P gl (aD P gl) ax all base l i e K→∃e',K e'
 |[],_,e,h=>⟨e,h⟩
 |o::l,i,e,h=>by
  rw[wj]at h
  have eF:all=all.toArray.toList:=by simp
  rw[eF]at h
  obtain⟨src,s,U,hk,hO,_⟩:=ui h
  rw[←eF]at hk
  exact De l (i+1) _ hk
theorem Inv.AD{w0:World}{an:S0}{e:Env}{a:Act}{w:World}{g:Gh}(hI:Inv gl w0 an e a w g)(n:Nat):
  Inv gl w0 an ⟨e.ai,e.boxes++List.replicate n .none⟩ a w {g with bx:=g.bx++List.replicate n none}:=by
 have dq:∀b,some b∈g.bx++List.replicate n (none:Option Nat)→some b∈g.bx:=fun b h=>by
  rcases List.mem_append.1 h with h|h
  ·exact h
  ·have:=(List.mem_replicate.1 h).2;cases this
 have j4:∀(i:Nat)aj,(g.bx++List.replicate n (none:Option Nat))[i]? =some (some aj)→g.bx[i]? =some (some aj):=fun i aj h=>by
  rw[List.getElem?_append]at h
  split at h
  ·exact h
  ·have:=(List.mem_replicate.1 (List.mem_of_getElem? h)).2;cases this
 have hX:Ext w0.heap.size w g w {g with bx:=g.bx++List.replicate n none} (fun _=>False):=by
  refine⟨fun _ _ hb ho h=>⟨h,fun hm=>hb (dq _ hm),ho,fun _ h=>h⟩,fun _ _ h=>(by first|exact⟨h,rfl⟩|exact⟨h,.refl _ _ _⟩),fun _ _ _=>rfl,fun i aj h=>?_,fun p b a' c _ ho=>?_,.refl _⟩
  ·simp only;rw[List.getElem?_append_left (List.getElem?_eq_some_iff.1 h).1];exact h
  ·obtain⟨h1,h2,h3,h4,h5⟩:=ho
   exact⟨⟨h1,h2,fun h=>h3 (dq b h),h4,h5⟩,.refl _ _ _⟩
 refine⟨hI.below,hI.size,fun i s hs=>hX.slot (fun _ h=>h) (hI.ai i s hs),by simp[hI.er],fun b bx aj h1 h2=>?_,fun i j aj h1 h2=>hI.nodup i j aj (j4 i aj h1) (j4 j aj h2),hI.eZ,
  fun b o h=>⟨(hI.bT b o h).1,fun hm=>(hI.bT b o h).2.1 (dq b hm),(hI.bT b o h).2.2⟩,fun b h=>hI.cU b (dq b h),hI.js.ext hX,hI.defers,fun D o hD=>(have h:=hI.ec D o hD;⟨fun hm=>h.1 (dq D hm),h.2⟩),hI.cls,hI.iX⟩
 have oh:=j4 b aj h2
 simp only at h1
 rw[List.getElem?_append_left (by rw[←hI.er];exact(List.getElem?_eq_some_iff.1 oh).1)]at h1
 exact hX.box (fun _ h=>h) rfl (hI.boxes b bx aj h1 oh)
theorem Inv.drew{w0:World}{an:S0}{e:Env}{a:Act}{w:World}{g:Gh}(hI:Inv gl w0 an e a w g):Inv gl w0 an e a {w with drawn:=w.drawn+1} g:=by
 have hX:Ext w0.heap.size w g {w with drawn:=w.drawn+1} g (fun _=>False):=⟨fun _ _ hb ho h=>⟨h,hb,ho,fun _ h=>h⟩,fun _ _ h=>(by first|exact⟨h,rfl⟩|exact⟨h,.refl _ _ _⟩),fun _ _ _=>rfl,fun _ _ h=>h,fun _ _ _ _ _ h=>⟨h,.refl _ _ _⟩,fun _ c ty h=>⟨c,ty,h,rfl⟩⟩
 refine⟨⟨hI.below.os,hI.below.tape,hI.below.output,hI.below.size,hI.below.block⟩,hI.size,fun i s hs=>hX.slot (fun _ h=>h) (hI.ai i s hs),hI.er,fun b bx aj h1 h2=>hX.box (fun _ h=>h) rfl (hI.boxes b bx aj h1 h2),hI.nodup,hI.eZ,hI.bT,hI.cU,hI.js.ext hX,hI.defers,hI.ec,hI.cls,hI.iX⟩
theorem Inv.LS{w0:World}{an:S0}{e:Env}{a:Act}{w:World}{g:Gh}(hI:Inv gl w0 an e a w g)(n:Nat){e':Env}(he:e'=⟨e.ai,e.boxes++List.replicate n .none⟩):
  Jv ops e.boxes.length (fun b=>∃aj,g.bx[b]? =some (some aj)) (Array.replicate ops.size false) e':=by
 subst he
 have oY:∀{O:Nat→Nat→Nat→Nat→Prop}{s:Slot}{v:Value},bM w0.heap.size w g O s v→cS (fun b=>∃aj,g.bx[b]? =some (some aj)) s:=by
  intro O s v h
  induction h with
  |v O x y h=>exact .v _
  |t O xs vs hl hc=>exact .t _
  |p O b off aj h=>exact .p _ _ ⟨aj,h⟩
  |a O b n sz v hm h=>obtain⟨aj,cap,h1,_⟩:=h;exact .a _ _ _ ⟨aj,h1⟩
  |m O b aj h=>exact .m _ ⟨aj,h⟩
  |c O f first cap fv cv hf hc _ _ iV iW=>
   refine .c _ _ _ (fun s hs=>?_) (fun s hs=>?_)
   ·obtain⟨i,hi,rfl⟩:=List.mem_iff_getElem.1 hs
    exact iV i _ (fv[i]'(by omega)) (by simp) (by simp)
   ·obtain⟨i,hi,rfl⟩:=List.mem_iff_getElem.1 hs
    exact iW i _ (cv[i]'(by omega)) (by simp) (by simp)
 refine⟨fun b⟨aj,hb⟩=>by rw[←hI.er];exact(List.getElem?_eq_some_iff.1 hb).1,fun t _=>?_,fun b s hb hs=>?_,fun i o a' _ _ hl=>?_⟩
 ·exact oY (kK hI t)
 ·simp only at hs
  rw[List.getElem?_append]at hs
  split at hs
  ·rename_i aS
   rcases hb with⟨aj,hb⟩|hb
   ·obtain⟨_,c,t,hc,_,aB,hr⟩:=hI.boxes b _ aj hs hb
    have kZ:c[0]? =some (c[0]'(by omega)):=by simp
    exact oY (hr _ kZ)
   ·omega
  ·have:=(List.mem_replicate.1 (List.mem_of_getElem? hs)).2;cases this
 ·exfalso
  rcases Nat.lt_or_ge i ops.size with h|h
  ·simp[h]at hl
  ·simp[h]at hl
theorem QE{w0:World}{an:S0}{e:Env}{a:Act}{w:World}{g:Gh}(hI:Inv gl w0 an e a w g){id:Nat}{draw:Bool}{K:Env→Prop}{Q:Exit→Act→World→Prop}(hm:P.follows .mixedOrders =true)
  (h:oG P gl (aD P gl) ax ops.toList e (lI P gl (aD P gl) (!draw||jE ax ops) ops ax e K))(hQ:∀e a w g,Inv gl w0 an e a w g→K e→Q .normal a w):(Code.region id ops draw).wp P Q a w:=by
 unfold oG at h
 cases eO:(!draw||jE ax ops)with
 |false=>
  rw[eO]at h
  obtain⟨e',Fa,hK⟩:=De _ _ _ h
  have hd:draw=true:=by cases draw<;>simp_all
  subst hd
  refine wp_region_any hm ?_
  have cN:=(hI.AD (ep ops.toList ops.toList.length)).drew
  have:=Dc (P:=P) (gl:=gl) (ax:=ax) (K:=fun x=>x=e') _ 0 (Array.replicate ops.size false) _ (fun j=>by simp[Array.getElem?_replicate];split<;>rfl) (by simp) (fun j o ho hl=>by
   have hj:j<ops.size:=(Array.getElem?_eq_some_iff.1 ho).1
   simp[hj]at hl) ⟨w0,an,a,_,_,cN⟩ Fa
  have h2:=Ew (Q:=Q) (K:=fun x=>x=e') (fun e1 a1 w1 g1 hinv hk=>hQ e1 a1 w1 g1 hinv (by rw[hk];exact hK)) _ _ _ _ _ _ cN this
  simpa using h2
 |true=>
 rw[eO]at h
 replace h:gH P gl (aD P gl) ax ops.toList e.boxes.length ops.toList 0 ⟨e.ai,e.boxes++List.replicate (ep ops.toList ops.toList.length) .none⟩ K:=h
 have bd:=hI.AD (ep ops.toList ops.toList.length)
 cases draw with
 |false=>
  refine wp_region ?_
  have:=KG (base:=e.boxes.length) (ax:=ax) hQ ops.toList 0 _ a w _ (fun j=>by simp) bd h
  rw[List.range_eq_range']
  simpa using this
 |true=>
  simp only[Bool.not_true,Bool.false_or]at eO
  refine wp_region_any hm ?_
  have cN:=bd.drew
  have aB:(Array.replicate ops.size false).size =ops.size:=by simp
  have Gl:=hI.LS (ops:=ops) (ep ops.toList ops.toList.length) rfl
  obtain⟨E,sg,eO⟩:∃E,Js ops ax e.boxes.length _ E (Array.replicate ops.size false) ⟨e.ai,e.boxes++List.replicate (ep ops.toList ops.toList.length) .none⟩∧ux E ops ax (reach [] ops.toList) ops.toList 0=true:=by
   unfold jE at eO
   cases kC:eligible ops.toList ax (reach [] ops.toList)with
   |true=>rw[kC]at eO;exact⟨_,fun A hA=>by cases hA;exact⟨rfl,KE kC,Gl⟩,eO⟩
   |false=>rw[kC]at eO;exact⟨none,fun A hA=>(by cases hA),eO⟩
  have:=Ec (P:=P) (gl:=gl) (base:=e.boxes.length) (ax:=ax) ops.toList 0 (Array.replicate ops.size false) _ (fun j=>by simp) (fun j hj=>by omega) (fun j _ hj=>by simp[hj]) aB
   (fun j o ho hl=>by
     have hj:j<ops.size:=(Array.getElem?_eq_some_iff.1 ho).1
     simp[hj]at hl) ⟨w0,an,a,_,_,cN⟩ sg eO h
  have h2:=Ew hQ _ _ _ _ _ _ cN this
  simpa using h2
end
end Go.Proofs.Ytaknajjmldngiaa.Ab
