/-
  THE ROW: from arguments that read as data to what the abstract walk speaks of, and back.
-/
import Derived.Test.YtimbllcalipehaaTc
import Derived.ChangeStays
import Derived.ChangeSame
import Derived.OpenShut
import Derived.Carry
import Derived.Lib.LaidTab
import Derived.ControlIn
import Derived.OrdersIn
import Derived.TacticsIn
import Derived.RangeFuncCalls
import Derived.RangeFuncNested
import Derived.RangeFuncRecord
import Derived.LoopNIn
import Derived.Scope
set_option linter.unusedVariables false
set_option linter.unusedSimpArgs false
namespace Go.Proofs.Ytimbllcalipehaa.Ab
open Go Go.RowKit Go.ChangeShapes Go.WideShapes
inductive RL{α β:Type}(R:α→β→Prop):List α→List β→Prop
 |nil:RL R [] []
 |cons {a:α} {b:β} {l:List α} {m:List β} (h:R a b) (t:RL R l m):RL R (a::l) (b::m)
section
variable{α β:Type}{R S:α→β→Prop}
theorem RL.length{l:List α}{m:List β}(h:RL R l m):l.length=m.length:=by induction h<;>simp_all
theorem RL.append{l l':List α}{m m':List β}(h:RL R l m)(h':RL R l' m'):RL R (l++l') (m++m'):=by
 induction h with
 |nil=>exact h'
 |cons h _ ih=>exact .cons h ih
theorem RL.mono(hm:∀a b,R a b→S a b){l:List α}{m:List β}(h:RL R l m):RL S l m:=by
 induction h with
 |nil=>exact .nil
 |cons h _ ih=>exact .cons (hm _ _ h) ih
theorem RL.get{l:List α}{m:List β}(h:RL R l m):∀(i:Nat)(a:α)(b:β),l[i]? =some a→m[i]? =some b→R a b:=by
 induction h with
 |nil=>intro i a b h;simp at h
 |cons h _ ih=>
  intro i a b ha hb
  cases i with
  |zero=>simp at ha hb;subst ha hb;exact h
  |succ i=>exact ih i a b (by simpa using ha) (by simpa using hb)
end
def pack(b:Bool)(xs:List D):D:=match b,xs with
 |true,xs=>.agg xs
 |false,[x]=>x
 |false,_=>.nZ
inductive Is(P:Program):TypeId→List D→Prop
 |bool {t:TypeId} (h:P.underlying t=some .bool) (b:Bool):Is P t [.bool b]
 |int {t:TypeId} {k:IntKind} (h:P.underlying t=some (.int k)) (n:Int) (hn:iG k n=true):Is P t [.int k n]
 |str {t:TypeId} (h:P.underlying t=some .string) (s:List UInt8) (hs:s.length≤maxLen):Is P t [.str s]
 |jU {t e:TypeId} (h:P.underlying t=some (.slice e)):Is P t [.sl .nil 0 []]
 |sl {t e:TypeId} (h:P.underlying t=some (.slice e)) (b:Bool) (hb:eJ P e=some b) (L:List (List D)) (hm:L.length≤maxLen) (hL:∀x∈L,Is P e x):
   Is P t [.sl .ro (P.cellsOf e) (L.map (pack b))]
 |struct {t:TypeId} {fs:Array Field} (h:P.underlying t=some (.struct fs)) (parts:List (List D)) (hl:parts.length=fs.size)
   (hp:∀(i:Nat)f p,fs[i]? =some f→parts[i]? =some p→Is P f.type p):Is P t parts.flatten
 |array {t e:TypeId} {n:Nat} (h:P.underlying t=some (.array n e)) (parts:List (List D)) (hl:parts.length=n) (hp:∀p∈parts,Is P e p):Is P t parts.flatten
section
variable{P:Program}{t:TypeId}{xs:List D}
theorem Is.wA(ht:P.underlying t=some .bool)(h:Is P t xs):∃b,xs=[.bool b]:=by
 cases h with
 |bool _ b=>exact⟨b,rfl⟩
 |_=>simp_all
theorem Is.uT{k:IntKind}(ht:P.underlying t=some (.int k))(h:Is P t xs):∃n,xs=[.int k n]∧iG k n=true:=by
 cases h with
 |int h n hn=>rw[ht]at h;cases h;exact⟨n,rfl,hn⟩
 |_=>simp_all
theorem Is.x8(ht:P.underlying t=some .string)(h:Is P t xs):∃s,xs=[.str s]∧s.length≤maxLen:=by
 cases h with
 |str h s hs=>exact⟨s,rfl,hs⟩
 |_=>simp_all
theorem Is.Pr{e:TypeId}{b:Bool}(ht:P.underlying t=some (.slice e))(hb:eJ P e=some b)(h:Is P t xs):
  xs=[.sl .nil 0 []]∨∃L:List (List D),xs=[.sl .ro (P.cellsOf e) (L.map (pack b))]∧L.length≤maxLen∧∀x∈L,Is P e x:=by
 cases h with
 |jU h=>exact .inl rfl
 |sl h b' eC L hm hL=>rw[ht]at h;cases h;rw[hb]at eC;cases eC;exact .inr ⟨L,rfl,hm,hL⟩
 |_=>simp_all
theorem Is.Bu{fs:Array Field}(ht:P.underlying t=some (.struct fs))(h:Is P t xs):
  ∃parts:List (List D),xs=parts.flatten∧parts.length=fs.size∧∀(i:Nat)f p,fs[i]? =some f→parts[i]? =some p→Is P f.type p:=by
 cases h with
 |struct h parts hl hp=>rw[ht]at h;cases h;exact⟨parts,rfl,hl,hp⟩
 |_=>simp_all
theorem Is.ac1{e:TypeId}{n:Nat}(ht:P.underlying t=some (.array n e))(h:Is P t xs):∃parts:List (List D),xs=parts.flatten∧parts.length=n∧∀p∈parts,Is P e p:=by
 cases h with
 |array h parts hl hp=>rw[ht]at h;cases h;exact⟨parts,rfl,hl,hp⟩
 |_=>simp_all
end
def w5(P:Program):List Field→Nat→Option Nat
 |[],n=>some n
 |f::fs,n=>bif Nat.beq f.offset n then w5 P fs (n+P.cellsOf f.type)else none
def vH(P:Program)(L:List Nat)(t:TypeId):Bool:=match P.underlying t with
 |some .bool =>Nat.beq (P.cellsOf t) 1
 |some (.int _)=>Nat.beq (P.cellsOf t) 1
 |some .string =>Nat.beq (P.cellsOf t) 1
 |some (.slice e)=>Nat.beq (P.cellsOf t) 1&&L.contains e&&Nat.ble 1 (P.cellsOf e)
 |some (.array n e)=>L.contains e&&Nat.beq (P.cellsOf t) (n*P.cellsOf e)
 |some (.struct fs)=>fs.toList.all (fun f=>L.contains f.type)&&(match w5 P fs.toList 0 with|some n=>Nat.beq n (P.cellsOf t)|none=>false)
 |_=>false
def wG(P:Program)(L:List Nat):Bool:=L.all (vH P L)
section
variable{P:Program}{L:List Nat}
theorem Oq:∀(fs:List Field)(n m:Nat),w5 P fs n=some m→m=n+(fs.map fun f=>P.cellsOf f.type).sum
 |[],n,m,h=>by simp[w5]at h;simp[h]
 |f::fs,n,m,h=>by
  simp only[w5]at h
  cases hb:Nat.beq f.offset n<;>rw[hb]at h
  ·cases h
  ·have:=Oq fs _ _ h
   simp only[List.map_cons,List.sum_cons]
   omega
theorem Wb:∀(fs:List Field)(n m:Nat),w5 P fs n=some m→∀(j:Nat)f,fs[j]? =some f→f.offset=n+((fs.take j).map fun f=>P.cellsOf f.type).sum
 |[],n,m,h,j,f,hj=>by simp at hj
 |f::fs,n,m,h,j,g,hj=>by
  simp only[w5]at h
  cases hb:Nat.beq f.offset n<;>rw[hb]at h
  ·cases h
  ·have hn:=Nat.eq_of_beq_eq_true hb
   cases j with
   |zero=>simp at hj;subst hj;simp[hn]
   |succ j=>
    have:=Wb fs _ _ h j g (by simpa using hj)
    simp only[List.take_succ_cons,List.map_cons,List.sum_cons]
    omega
theorem xX(h:wG P L=true){t:TypeId}(ht:t∈L):vH P L t=true:=List.all_eq_true.1 h t ht
theorem abd(h:wG P L=true):Kids P (· ∈L) where
 pointer:=fun{t e}ht hu=>by have:=xX h ht;simp[vH,hu]at this
 slice:=fun{t e}ht hu=>by have:=xX h ht;simp[vH,hu]at this;exact this.1.2
 array:=fun{t e n}ht hu=>by
  have:=xX h ht
  simp only[vH,hu,Bool.and_eq_true]at this
  exact⟨by simpa using this.1,Nat.eq_of_beq_eq_true this.2⟩
 struct:=fun{t fs}ht hu=>by
  have:=xX h ht
  simp only[vH,hu,Bool.and_eq_true]at this
  refine⟨fun f hf=>by simpa using List.all_eq_true.1 this.1 f hf,?_⟩
  have h2:=this.2
  split at h2
  ·rename_i n hn
   have e:=Nat.eq_of_beq_eq_true h2
   refine⟨by rw[←e,Oq _ _ _ hn];omega,fun j f hj=>by rw[Wb _ _ _ hn j f hj];omega⟩
  ·cases h2
 map:=fun{t k e}ht hu=>by have:=xX h ht;simp[vH,hu]at this
theorem ab4(h:wG P L=true){t e:TypeId}(ht:t∈L)(hu:P.underlying t=some (.slice e)):0<P.cellsOf e:=by
 have:=xX h ht
 simp[vH,hu]at this
 omega
theorem UO{β:Type}(cs:List β):∀(fs:List Field)(n m:Nat),w5 P fs n=some m→cs.length=m→cs.drop n=(fs.map fun f=>(cs.drop f.offset).take (P.cellsOf f.type)).flatten
 |[],n,m,h,hm=>by simp[w5]at h;simp;omega
 |f::fs,n,m,h,hm=>by
  simp only[w5]at h
  cases hb:Nat.beq f.offset n<;>rw[hb]at h
  ·cases h
  ·have hn:=Nat.eq_of_beq_eq_true hb
   have ih:=UO cs fs _ _ h hm
   simp only[List.map_cons,List.flatten_cons,←ih,hn]
   rw[←List.drop_drop,List.take_append_drop]
theorem Vt{β:Type}(s:Nat):∀(n:Nat)(cs:List β),cs.length=n*s→cs=((List.range n).map fun i=>(cs.drop (i*s)).take s).flatten
 |0,cs,h=>by simp at h;subst h;rfl
 |n+1,cs,h=>by
  rw[List.range_succ_eq_map,List.map_cons,List.flatten_cons,List.map_map]
  have ih:=Vt s n (cs.drop s) (by rw[List.length_drop,h,Nat.add_mul];omega)
  have:((fun i=>(cs.drop (i*s)).take s) ∘ Nat.succ)=fun i=>((cs.drop s).drop (i*s)).take s:=by
   funext i
   simp only[Function.comp,List.drop_drop]
   rw[Nat.succ_mul,Nat.add_comm]
  rw[this,←ih]
  simp
end
section
variable{H:Type}{enc:TypeId×Value→H}{P:Program}{w:World}{L:List Nat}
def Eh(ps:List MemPlace)(b o:Nat):Prop:=MemPlace.cell b o∈ps
def xg(w:World)(ps:List MemPlace)(c:D)(v:Value):Prop:=c.one=true∧bh w (Eh ps) c v
theorem xg.mono{ps qs:List MemPlace}(h:∀p∈ps,p∈qs)(c:D)(v:Value)(r:xg w ps c v):xg w qs c v:=⟨r.1,r.2.mono fun b o hb=>⟨h _ hb,rfl⟩⟩
theorem ab5{b:Bool}{e:TypeId}(hL:wG P L=true)(he:e∈L)(hb:eJ P e=some b){x:List D}(hx:Is P e x):(pack b x).cells =x∨∃y,x=[y]∧b=false:=by
 cases b with
 |true=>exact .inl rfl
 |false=>
  right
  unfold eJ at hb
  cases hx with
  |bool h b=>exact⟨_,rfl,rfl⟩
  |int h n hn=>exact⟨_,rfl,rfl⟩
  |str h s hs=>exact⟨_,rfl,rfl⟩
  |jU h=>exact⟨_,rfl,rfl⟩
  |sl h=>exact⟨_,rfl,rfl⟩
  |struct h=>rw[h]at hb;cases hb
  |array h=>rw[h]at hb;cases hb
theorem abe{b:Bool}{e:TypeId}(hL:wG P L=true)(he:e∈L)(hb:eJ P e=some b){x:List D}(hx:Is P e x)(h1:∀c∈x,c.one=true):(pack b x).cells =x:=by
 rcases ab5 hL he hb hx with h|⟨y,rfl,rfl⟩
 ·exact h
 ·have:=h1 y (by simp)
  cases y<;>first|rfl|simp[D.one]at this
theorem afI(hL:wG P L=true):∀(fuel:Nat)(t:TypeId)(cs:List Value)(x:DataW H×List MemPlace),t∈L→DataW.trod enc P w 0 (fun _=>true) true fuel t cs=some x→
  ∃xs:List D,Is P t xs∧xs.length=P.cellsOf t∧RL (xg w x.2) xs cs:=by
 intro fuel
 induction fuel with
 |zero=>intro t cs x _ h;simp[DataW.trod]at h
 |succ fuel ih=>
  intro t cs x ht h
  have eU:=xX hL ht
  unfold vH at eU
  split at eU
  ·rename_i hu
   obtain⟨b,rfl,rfl⟩:=DataW.trod_bool hu h
   exact⟨[.bool b],.bool hu b,(Nat.eq_of_beq_eq_true eU).symm,.cons ⟨rfl,.bool b⟩ .nil⟩
  ·rename_i k hu
   obtain⟨n,rfl,rfl,hw⟩:=DataW.trod_int hu h
   exact⟨[.int k n],.int hu n hw,(Nat.eq_of_beq_eq_true eU).symm,.cons ⟨rfl,.int k n hw⟩ .nil⟩
  ·rename_i hu
   obtain⟨s,rfl,rfl,hs⟩:=DataW.trod_string hu h
   exact⟨[.str s.data.toList],.str hu _ (by simpa using hs),(Nat.eq_of_beq_eq_true eU).symm,.cons ⟨rfl,.str s hs⟩ .nil⟩
  ·rename_i e hu
   simp only[Bool.and_eq_true]at eU
   obtain⟨⟨h1,he⟩,Eg⟩:=eU
   have he:e∈L:=by simpa using he
   have h1:=Nat.eq_of_beq_eq_true h1
   have Eg:=Nat.le_of_ble_eq_true Eg
   obtain⟨bb,fh⟩:∃bb,eJ P e=some bb:=by
    have:=xX hL he
    unfold vH at this
    unfold eJ
    split at this<;>simp_all
   rcases DataW.trod_slice hu h with⟨rfl,rfl⟩|⟨a,len,cap,elems,rest,n,hn,rfl,rfl,_,H5,gB,fU,akT,_,_⟩
   ·exact⟨[.sl .nil 0 []],.jU hu,by rw[h1];rfl,.cons ⟨rfl,.jU 0⟩ .nil⟩
   ·cases hn
    have key:∀k,k≤len→∃M:List (List D),M.length=k∧∀i,i<k→∃y fK,M[i]? =some y∧w.cells? 0 (a.add (i*P.cellsOf e)) (P.cellsOf e)=some fK∧Is P e y∧y.length=P.cellsOf e∧
      RL (xg w ((elems++rest).flatMap (·.2))) y fK:=by
     intro k
     induction k with
     |zero=>intro _;exact⟨[],rfl,fun i hi=>by omega⟩
     |succ k H6=>
      intro hk
      obtain⟨M,hM,mV⟩:=H6 (by omega)
      have hq:=akT k (by omega)
      have lq:elems[k]? =some (elems[k]'(by omega)):=List.getElem?_eq_getElem (by omega)
      rw[lq]at hq
      obtain⟨fK,iI,ee⟩:=Option.bind_eq_some_iff.1 hq
      obtain⟨y,hy,R4,lO⟩:=ih e fK _ he ee
      refine⟨M++[y],by simp[hM],fun i hi=>?_⟩
      rcases Nat.lt_or_ge i k with h|h
      ·obtain⟨y',akU,q1,q2⟩:=mV i h
       exact⟨y',akU,by rw[List.getElem?_append_left (by omega)];exact q1,q2⟩
      ·have:i=k:=by omega
       subst this
       refine⟨y,fK,by rw[List.getElem?_append_right (by omega),hM];simp,iI,hy,R4,lO.mono (xg.mono fun p hp=>?_)⟩
       exact List.mem_flatMap.2 ⟨_,List.mem_append_left _ (List.getElem_mem (by omega)),hp⟩
    obtain⟨M,hM,mV⟩:=key len (Nat.le_refl _)
    have H7:∀y∈M,Is P e y∧y.length=P.cellsOf e∧∀c∈y,c.one=true:=by
     intro y hy
     obtain⟨i,hi,rfl⟩:=List.mem_iff_getElem.1 hy
     obtain⟨y',fK,q1,_,q2,q3,q4⟩:=mV i (by omega)
     rw[List.getElem?_eq_getElem hi]at q1
     cases q1
     refine⟨q2,q3,fun c hc=>?_⟩
     obtain⟨j,hj,rfl⟩:=List.mem_iff_getElem.1 hc
     have:=q4.length
     exact(q4.get j _ (fK[j]'(by omega)) (List.getElem?_eq_getElem hj) (List.getElem?_eq_getElem (by omega))).1
    have R5:∀y∈M,(pack bb y).cells =y:=fun y hy=>abe hL he fh (H7 y hy).1 (H7 y hy).2.2
    refine⟨[.sl .ro (P.cellsOf e) (M.map (pack bb))],.sl hu bb fh M (by omega) (fun y hy=>(H7 y hy).1),by rw[h1];rfl,.cons ⟨rfl,?_⟩ .nil⟩
    have hlen:(M.map (pack bb)).length =len:=by simp[hM]
    by_cases lL:a.spot=none
    ·obtain⟨b,off,spot⟩:=a
     simp only at lL
     subst lL
     have aR:∀o,o<len*P.cellsOf e→∃v,w.cell? ⟨b,off+o,none⟩=some v:=by
      intro o ho
      have hq:o / P.cellsOf e<len:=Nat.div_lt_of_lt_mul (by rw[Nat.mul_comm];exact ho)
      have Ce:=Nat.mod_lt o Eg
      obtain⟨y,fK,q1,q2,q3,q4,q5⟩:=mV _ hq
      obtain⟨_,l1,l2⟩:=World.cells?_some q2
      have:=l2 (o % P.cellsOf e) Ce
      refine⟨fK[o % P.cellsOf e]'(by omega),?_⟩
      rw[List.getElem?_eq_getElem (by omega)]at this
      rw[←this]
      simp only[add_plain]
      congr 2
      rw[Nat.add_assoc]
      congr 1
      rw[Nat.mul_comm]
      exact(Nat.div_add_mod _ _).symm
     have hv:∀o,o<len*P.cellsOf e→w.cell? ⟨b,off+o,none⟩=some ((w.cell? ⟨b,off+o,none⟩).getD (.bool false)):=fun o ho=>by
      obtain⟨v,hv⟩:=aR o ho
      rw[hv];rfl
     have:=bh.sl (w:=w) (St:=Eh (MemPlace.row ⟨b,off,none⟩ ((elems.length+rest.length)*P.cellsOf e)++(elems++rest).flatMap (·.2))) (P.cellsOf e) (M.map (pack bb)) b off cap
      (fun o=>(w.cell? ⟨b,off+o,none⟩).getD (.bool false)) (by omega) (by omega) (fun x hx=>by
        obtain⟨y,hy,rfl⟩:=List.mem_map.1 hx
        rw[R5 y hy]
        exact(H7 y hy).2.1) (fun x hx c hc=>by
        obtain⟨y,hy,rfl⟩:=List.mem_map.1 hx
        rw[R5 y hy]at hc
        exact(H7 y hy).2.2 c hc) (fun o ho=>by
        rw[hlen]at ho
        refine⟨hv o ho,List.mem_append_left _ (MemPlace.mem_row.2 ⟨o,?_,rfl⟩)⟩
        rw[Nat.add_mul];rw[fU];omega) (fun i x j c hi hj=>by
        rw[List.getElem?_map]at hi
        obtain⟨y,hy,rfl⟩:=Option.map_eq_some_iff.1 hi
        have pZ:i<M.length:=(List.getElem?_eq_some_iff.1 hy).1
        have hym:y∈M:=List.mem_of_getElem? hy
        rw[R5 y hym]at hj
        obtain⟨y',fK,q1,q2,q3,q4,q5⟩:=mV i (by omega)
        rw[hy]at q1
        cases q1
        obtain⟨_,l1,l2⟩:=World.cells?_some q2
        have kH:j<y.length:=(List.getElem?_eq_some_iff.1 hj).1
        have l3:=l2 j (by omega)
        rw[List.getElem?_eq_getElem (by omega)]at l3
        have hr:=(q5.get j c (fK[j]'(by omega)) hj (List.getElem?_eq_getElem (by omega))).2
        simp only[add_plain,Nat.add_assoc]at l3
        simp only[l3,Option.getD_some]
        exact hr.mono fun b' o' eC=>⟨List.mem_append_right _ eC,rfl⟩)
     rw[hlen]at this
     exact this
    ·have h0:len=0:=by
      rcases Nat.eq_zero_or_pos len with h|h
      ·exact h
      ·obtain⟨y,fK,q1,q2,q3,q4,q5⟩:=mV 0 h
       obtain⟨_,l1,l2⟩:=World.cells?_some q2
       have:=l2 0 Eg
       rw[List.getElem?_eq_getElem (by omega)]at this
       exact absurd (World.cell?_spot this) (by simpa[Addr.add]using lL)
     subst h0
     have:M=[]:=List.length_eq_zero_iff.1 hM
     subst this
     exact .mr _ a cap lL
  ·rename_i n e hu
   simp only[Bool.and_eq_true]at eU
   obtain⟨he,hc⟩:=eU
   have he:e∈L:=by simpa using he
   have hc:=Nat.eq_of_beq_eq_true hc
   obtain⟨ys,m,hm,rfl,dv,R4,tf⟩:=DataW.trod_array hu h
   cases hm
   have key:∀k,k≤n→∃M:List (List D),M.length=k∧(∀y∈M,Is P e y)∧M.flatten.length=k*P.cellsOf e∧RL (xg w (ys.flatMap (·.2))) M.flatten ((List.range k).map fun i=>(cs.drop (i*P.cellsOf e)).take (P.cellsOf e)).flatten :=by
    intro k
    induction k with
    |zero=>intro _;exact⟨[],rfl,by simp,by simp,by simp;exact .nil⟩
    |succ k H6=>
     intro hk
     obtain⟨M,hM,zC,Bg,xK⟩:=H6 (by omega)
     have hq:=tf k (by omega)
     have lq:ys[k]? =some (ys[k]'(by omega)):=List.getElem?_eq_getElem (by omega)
     rw[lq]at hq
     obtain⟨y,hy,QB,lO⟩:=ih e _ _ he hq
     refine⟨M++[y],by simp[hM],fun z hz=>?_,by simp[Bg,QB,Nat.add_mul],?_⟩
     ·rcases List.mem_append.1 hz with h|h
      ·exact zC z h
      ·simp at h;subst h;exact hy
     ·rw[List.range_succ,List.map_append,List.flatten_append,List.flatten_append]
      refine xK.append ?_
      simp only[List.map_cons,List.map_nil,List.flatten_cons,List.flatten_nil,List.append_nil]
      exact lO.mono (xg.mono fun p hp=>List.mem_flatMap.2 ⟨_,List.getElem_mem (by omega),hp⟩)
   obtain⟨M,hM,zC,Bg,xK⟩:=key n (Nat.le_refl _)
   refine⟨M.flatten,.array hu M hM zC,by rw[Bg,hc],?_⟩
   rw[←Vt (P.cellsOf e) n cs (by rw[dv,hc])]at xK
   exact xK
  ·rename_i fs hu
   simp only[Bool.and_eq_true]at eU
   obtain⟨HD,sV⟩:=eU
   split at sV
   ·rename_i tot Zs
    have sV:=Nat.eq_of_beq_eq_true sV
    obtain⟨ys,m,hm,rfl,dv,R4,tf⟩:=DataW.trod_struct hu h
    cases hm
    have key:∀k,k≤fs.size→∃M:List (List D),M.length=k∧(∀(i:Nat)f p,fs[i]? =some f→M[i]? =some p→Is P f.type p)∧M.flatten.length=((fs.toList.take k).map fun f=>P.cellsOf f.type).sum ∧
      RL (xg w (ys.flatMap (·.2))) M.flatten ((fs.toList.take k).map fun f=>(cs.drop f.offset).take (P.cellsOf f.type)).flatten :=by
     intro k
     induction k with
     |zero=>intro _;exact⟨[],rfl,fun i f p _ hp=>by simp at hp,by simp,by simp;exact .nil⟩
     |succ k H6=>
      intro hk
      obtain⟨M,hM,zC,Bg,xK⟩:=H6 (by omega)
      have zy:fs[k]? =some (fs[k]'(by omega)):=Array.getElem?_eq_getElem (by omega)
      have hq:=tf k _ zy
      have lq:ys[k]? =some (ys[k]'(by omega)):=List.getElem?_eq_getElem (by omega)
      rw[lq]at hq
      have hfm:(fs[k]'(by omega)).type ∈L:=by simpa using List.all_eq_true.1 HD _ (by simp:fs[k]'(by omega)∈fs.toList)
      obtain⟨y,hy,QB,lO⟩:=ih _ _ _ hfm hq
      have L8:fs.toList.take (k+1)=fs.toList.take k++[fs[k]'(by omega)]:=by
       rw[List.take_add_one]
       simp[zy]
      refine⟨M++[y],by simp[hM],fun i f p hf hp=>?_,?_,?_⟩
      ·rcases Nat.lt_or_ge i k with h|h
       ·rw[List.getElem?_append_left (by omega)]at hp
        exact zC i f p hf hp
       ·rw[List.getElem?_append_right (by omega),hM]at hp
        have HT:i=k:=by
         have:=(List.getElem?_eq_some_iff.1 hp).1
         simp at this
         omega
        subst HT
        simp at hp
        subst hp
        rw[zy]at hf
        cases hf
        exact hy
      ·rw[L8]
       simp[Bg,QB]
      ·rw[L8,List.map_append,List.flatten_append,List.flatten_append]
       refine xK.append ?_
       simp only[List.map_cons,List.map_nil,List.flatten_cons,List.flatten_nil,List.append_nil]
       exact lO.mono (xg.mono fun p hp=>List.mem_flatMap.2 ⟨_,List.getElem_mem (by omega),hp⟩)
    obtain⟨M,hM,zC,Bg,xK⟩:=key fs.size (Nat.le_refl _)
    have hta:fs.toList.take fs.size=fs.toList:=List.take_of_length_le (by simp)
    rw[hta]at Bg xK
    have HJ:=Oq _ _ _ Zs
    refine⟨M.flatten,.struct hu M hM zC,by rw[Bg,←sV,HJ];omega,?_⟩
    rw[←UO cs fs.toList 0 tot Zs (by rw[dv,sV]),List.drop_zero]at xK
    exact xK
   ·cases sV
  ·cases eU
end
end Go.Proofs.Ytimbllcalipehaa.Ab
namespace Go.Proofs.Ytimbllcalipehaa.Ab
open Go Go.RowKit Go.ChangeShapes Go.WideShapes
section
variable{H:Type}{enc:TypeId×Value→H}{P:Program}{W:World}{L:List Nat}
theorem afJ(hL:wG P L=true){t:TypeId}{v:Value}{d:DataW H}{ps:List MemPlace}{b:Bool}{r:Reach}{b0:Nat}(ht:t∈L)(hb:eJ P t=some b)
  (mN:Value.okWide P W r b0 t v)(h:DataW.Trod enc P W 0 (fun _=>true) true t v d ps):∃xs,Is P t xs∧bh W (Eh ps) (pack b xs) v:=by
 obtain⟨fuel,hf⟩:=h
 obtain⟨xs,hi,hl,hr⟩:=afI hL fuel t _ _ ht hf
 refine⟨xs,hi,?_⟩
 have eU:=xX hL ht
 unfold eJ at hb
 cases b with
 |true=>
  have:∃cs,v=.agg cs:=by
   unfold Value.okWide at mN
   split at mN
   ·obtain⟨cs,h,_⟩:=mN;exact⟨cs,h⟩
   ·obtain⟨cs,h,_⟩:=mN;exact⟨cs,h⟩
   ·rename_i h1 h2
    split at hb
    ·rename_i fs hu;exact absurd hu (h1 fs)
    ·rename_i n e hu;exact absurd hu (h2 n e)
    ·cases hb
    ·cases hb
  obtain⟨cs,rfl⟩:=this
  simp only[Value.cells]at hr
  refine .agg xs cs (fun c hc=>?_) (by simpa using hr.length) (fun i c u hc hu=>(hr.get i c u hc (by simpa using hu)).2)
  obtain⟨j,hj,rfl⟩:=List.mem_iff_getElem.1 hc
  have kH:=hr.length
  exact(hr.get j _ (cs.toList[j]'(by omega)) (List.getElem?_eq_getElem hj) (List.getElem?_eq_getElem (by omega))).1
 |false=>
  have bY:∃y,xs=[y]:=by
   cases hi with
   |bool h b=>exact⟨_,rfl⟩
   |int h n hn=>exact⟨_,rfl⟩
   |str h s hs=>exact⟨_,rfl⟩
   |jU h=>exact⟨_,rfl⟩
   |sl h=>exact⟨_,rfl⟩
   |struct h=>rw[h]at hb;cases hb
   |array h=>rw[h]at hb;cases hb
  obtain⟨y,rfl⟩:=bY
  have hv:v.cells.toList=[v]:=by
   cases v with
   |agg cs=>
    exfalso
    unfold Value.okWide at mN
    split at mN
    ·rename_i h;rw[h]at hb;cases hb
    ·rename_i h;rw[h]at hb;cases hb
    ·unfold vH at eU
     unfold Cell.okWide at mN
     split at mN<;>simp_all [Cell.ok]
   |_=>rfl
  rw[hv]at hr
  cases hr with
  |cons h _=>exact h.2
theorem TE(hL:wG P L=true){W':World}(hb:Below W.heap.size W W'):∀{ts:List TypeId}{vs:List Value}{ds:List (DataW H)}{ps:List MemPlace},(∀t∈ts,t∈L)→
  DataW.TrodAll enc P W 0 (fun _=>true) true ts vs ds ps→(∀p∈ps,p.block<W.heap.size)→DataW.TrodAll enc P W' 0 (fun b=>decide (b<W.heap.size)) true ts vs ds ps
 |[],[],[],_,_,h,_=>h
 |t::ts,v::vs,d::ds,_,kM,⟨p,q,⟨fuel,hf⟩,h2,e⟩,aO=>by
  subst e
  refine⟨p,q,⟨fuel,?_⟩,TE hL hb (fun t ht=>kM t (List.mem_cons_of_mem _ ht)) h2 (fun x hx=>aO x (List.mem_append_right _ hx)),rfl⟩
  exact DataW.trod_stays (abd hL) (fun ht hu=>ab4 hL ht hu) (fun h=>by cases h) (kM t List.mem_cons_self) hf (fun x hx=>hb.same (aO x (List.mem_append_left _ hx))) (fun x hx=>by simpa using aO x (List.mem_append_left _ hx))
theorem ab6{gl:Nat→Option D}{fid:FuncId}{f:Func}{s:ChangeSpec}{args:Array Value}{ds gs:List (DataW H)}{before:List MemPlace}{tb:TypeId}{St:Nat→Nat→Prop}{KN:List SV}
  (hH:aG P gl fid KN (.d (.bool true)))(hL:wG P L=true)(kM:∀t∈f.params.toList,t∈L)(zw:s.vars=[])
  (hW:DataW.Whole enc P f.params.toList s.vars false W args.toList ds gs before)
  (oK:(s.fn H (ds++gs)).results =[.lit (.bool true)])(rK:(s.fn H (ds++gs)).args =ds)(zp:(s.fn H (ds++gs)).vars =[])
  (Ci:f.resultTypes= #[tb])(htb:P.underlying tb=some .bool)
  (aY:∀b o,St b o→b<W.heap.size)(hG:yr gl W St)(hlen:KN.length=args.size)
  (bw:∀(i:Nat)x v,KN[i]? =some x→args[i]? =some v→aP W St W.heap.size (fun _ _ _=>False) x v):
  Calls P fid args W fun e W'=>∃v,e=.returned v∧s.post enc P f false true false false W args v W':=by
 rw[Bw (adU (O:=fun _ _ _ _=>False) hlen bw)]at hH
 refine(hH.2 W St args aY hG hlen bw).mono ?_
 rintro e W' ⟨v,rfl,hb,bS,ow,_,_,hr⟩
 refine⟨v,rfl,?_⟩
 have hv:v=.bool true:=by
  have:=aP.data (show aP W' bS 0 (yV W.heap.size W' bS ow 0) (.d (.bool true)) v from hr)
  cases this
  rfl
 subst hv
 have aO:=hW.lt
 refine⟨ds,gs,before,[],before,[],hW,?_,?_,?_,World.keptBut_mono (fun p hp=>⟨hp,.inr (.inl hp)⟩) (hb.frame _),fun h=>by cases h⟩
 ·rw[oK,Ci]
  exact trodAll_cons_mk (shut_bool htb _) trodAll_mk0
 ·rw[rK]
  obtain⟨p,q,hA,hV,rfl,_,_⟩:=hW
  rw[zw]at hV
  have:q=[]:=by
   cases gs with
   |nil=>exact hV
   |cons _ _=>exact hV.elim
  subst this
  rw[List.append_nil]at aO ⊢
  exact TE hL hb kM hA aO
 ·rw[zp,zw]
  rfl
theorem afK{St:Nat→Nat→Prop}{ps:List MemPlace}{x:D}{v:Value}{base:Nat}{O:Nat→Nat→Nat→Prop}(h:bh W (Eh ps) x v)(hs:∀b o,MemPlace.cell b o∈ps→St b o):aP W St base O (.d x) v:=
 .d _ _ _ (h.mono fun b o hb=>⟨hs b o hb,rfl⟩)
end
end Go.Proofs.Ytimbllcalipehaa.Ab
namespace Go.Proofs.Ytimbllcalipehaa.Ab
open Go
def ob{α β:Type}(o:Option α)(k:α→Option β):Option β:=match o with|some x=>k x|none=>none
section
variable(P:Program)(gl:Nat→Option D)(call:FuncId→List SV→Option SV)
variable{P gl call}{C:bA}(hC:∀f args r,call f args=some r→C f args r)
include hC
end
end Go.Proofs.Ytimbllcalipehaa.Ab
namespace Go.Proofs.Ytimbllcalipehaa.Ab
open Go
section
variable{P:Program}{gl:Nat→Option D}{call:FuncId→List SV→Option SV}{C:bA}(hC:∀f args r,call f args=some r→C f args r)
end
end Go.Proofs.Ytimbllcalipehaa.Ab
namespace Go.Proofs.Ytimbllcalipehaa.Ab
open Go
section
variable(P:Program)(gl:Nat→Option D)(call:FuncId→List SV→Option SV)(h:Hints)
end
section
variable{P:Program}{gl:Nat→Option D}{call:FuncId→List SV→Option SV}{h:Hints}{C:bA}(hC:∀f args r,call f args=some r→C f args r)
end
end Go.Proofs.Ytimbllcalipehaa.Ab
namespace Go.Proofs.Ytimbllcalipehaa.Ab
open Go
def Pt{X:Type}(T:(X→Prop)→Prop):Prop:=∀Q,T Q→∃x,Q x∧∀Q',Q' x→T Q'
section
variable{X Y α:Type}
theorem Pt.false:Pt (fun _:X→Prop=>False):=fun _ h=>h.elim
theorem Pt.pure(x:X):Pt (fun Q:X→Prop=>Q x):=fun _ h=>⟨x,h,fun _ h'=>h'⟩
theorem Pt.ab{o:Option α}{T:α→(X→Prop)→Prop}(h:∀x,Pt (T x)):Pt (fun Q=>ab o fun x=>T x Q):=by
 intro Q hq
 cases o with
 |none=>exact hq.elim
 |some x=>exact h x Q hq
theorem Pt.au{x:SV}{A B:(X→Prop)→Prop}(hA:Pt A)(hB:Pt B):Pt (fun Q=>au x (A Q) (B Q)):=by
 intro Q hq
 obtain⟨b,rfl,h1,h2⟩:=Dw hq
 cases b with
 |true=>exact hA Q (h1 rfl)
 |false=>exact hB Q (h2 rfl)
theorem Pt.and{p:Prop}{A:(X→Prop)→Prop}(hA:Pt A):Pt (fun Q=>p∧A Q):=by
 intro Q ⟨hp,hq⟩
 obtain⟨x,h1,h2⟩:=hA Q hq
 exact⟨x,h1,fun Q' h=>⟨hp,h2 Q' h⟩⟩
theorem Pt.ex{T:α→(X→Prop)→Prop}(h:∀a,Pt (T a)):Pt (fun Q=>∃a,T a Q):=by
 intro Q ⟨a,hq⟩
 obtain⟨x,h1,h2⟩:=h a Q hq
 exact⟨x,h1,fun Q' h=>⟨a,h2 Q' h⟩⟩
theorem Pt.cond{b:Bool}{A B:(X→Prop)→Prop}(hA:Pt A)(hB:Pt B):Pt (fun Q=>cond b (A Q) (B Q)):=by
 intro Q hq
 cases b with
 |true=>exact hA Q hq
 |false=>exact hB Q hq
theorem Pt.seq{T:(Y→Prop)→Prop}{S:Y→(X→Prop)→Prop}(hT:Pt T)(hS:∀y,Pt (S y)):Pt (fun Q=>T fun y=>S y Q):=by
 intro Q hq
 obtain⟨y,h1,h2⟩:=hT _ hq
 obtain⟨x,h3,h4⟩:=hS y Q h1
 exact⟨x,h3,fun Q' h=>h2 _ (h4 Q' h)⟩
theorem Pt.Cj{β:Type}{T:(α→β→Prop)→Prop}{S:α→β→(X→Prop)→Prop}(hT:Pt (fun Q:α×β→Prop=>T fun a b=>Q (a,b)))(hS:∀a b,Pt (S a b)):Pt (fun Q=>T fun a b=>S a b Q):=by
 intro Q hq
 obtain⟨y,h1,h2⟩:=hT (fun y=>S y.1 y.2 Q) hq
 obtain⟨x,h3,h4⟩:=hS y.1 y.2 Q h1
 exact⟨x,h3,fun Q' h=>h2 (fun y=>S y.1 y.2 Q') (h4 Q' h)⟩
end
section
variable{P:Program}{gl:Nat→Option D}{C:bA}{h:Hints}{X:Type}
theorem aed{f:FuncId}{args:List SV}{T:SV→(X→Prop)→Prop}(hT:∀r,Pt (T r)):Pt (fun Q=>ba C f args fun r=>T r Q):=
 Pt.ex fun r=>Pt.and (Pt.and (hT r))
theorem Ps:∀(n:Nat){T:List SV→(X→Prop)→Prop},(∀l,Pt (T l))→Pt (fun Q=>AZ n fun l=>T l Q)
 |0,_,hT=>hT []
 |n+1,_,hT=>Pt.ex fun r=>Ps n fun l=>hT (r::l)
theorem JI{n:Nat}{aF:List af}{f:FuncId}{args:List SV}:Pt (fun Q:Slot×List af→Prop=>qR C n aF (fun s b=>Q (s,b)) f args):=by
 unfold qR
 split
 ·exact aed fun r=>Pt.pure _
 ·exact Ps _ fun l=>Pt.and (Pt.pure _)
theorem W3{sz cX:Nat}{x y:SV}{T:SV→(X→Prop)→Prop}(hT:∀r,Pt (T r)):Pt (fun Q=>bR sz cX x y fun r=>T r Q):=
 Pt.ab fun r=>Pt.and (hT r.1)
theorem UP{agg:Bool}{sz b off:Nat}{aF:List af}:Pt (fun Q:Slot×List af→Prop=>tD agg sz b off aF fun s b=>Q (s,b)):=by
 unfold tD
 cases aF[b]? with
 |none=>exact Pt.false
 |some x=>
  cases x with
  |none=>exact Pt.false
  |map l=>exact Pt.false
  |cells cs=>exact Pt.ab fun x=>Pt.pure _
  |one s=>
   refine Pt.cond Pt.false ?_
   cases off with
   |zero=>exact Pt.pure _
   |succ n=>exact Pt.false
theorem abf{sz b off:Nat}{x:Slot}{aF:List af}{T:List af→(X→Prop)→Prop}(hT:∀r,Pt (T r)):Pt (fun Q=>wv sz b off x aF fun b=>T b Q):=by
 unfold wv
 cases aF[b]? with
 |none=>exact Pt.false
 |some y=>
  cases y with
  |none=>exact Pt.false
  |map l=>exact Pt.false
  |cells cs=>
   cases x with
   |v y=>exact Pt.ab fun l=>Pt.and (Pt.and (hT _))
   |t _=>exact Pt.false
   |_=>
    dsimp only
    split
    ·exact hT _
    ·exact Pt.false
  |one s=>
   dsimp only
   split
   ·cases x with
    |v y=>exact Pt.ab fun l=>Pt.and (hT _)
    |t _=>exact Pt.false
    |_=>exact hT _
   ·exact Pt.false
theorem ahe{id:Nat}{o:Oper}{ρ:Operand→Slot}{aF:List af}:Pt (fun Q:Slot×List af→Prop=>dH P C id o ρ aF fun s b=>Q (s,b)):=by
 unfold dH
 cases o.op
 case move x=>exact Pt.pure _
 case assign x=>exact Pt.pure _
 case pick c a b=>
  dsimp only
  cases ρ c with
  |v x=>exact Pt.au (Pt.pure _) (Pt.pure _)
  |_=>exact Pt.false
 case alloc t=>
  dsimp only
  split
  ·exact Pt.ab fun z=>Pt.pure _
  ·exact Pt.false
 case box t x=>
  dsimp only
  split
  ·refine Pt.ab fun sz=>?_
   cases ρ x with
   |v y=>exact Pt.ab fun l=>Pt.and (Pt.pure _)
   |t _=>exact Pt.false
   |_=>
    dsimp only
    split
    ·exact Pt.pure _
    ·exact Pt.false
  ·exact Pt.false
 case build t ps=>exact Pt.ab fun l=>Pt.ab fun r=>Pt.pure _
 case buildSlice t n ps=>exact Pt.ab fun e=>Pt.ab fun ly=>Pt.ab fun z=>Pt.ab fun l=>Pt.cond (Pt.and (Pt.pure _)) Pt.false
 case load t a=>
  refine Pt.ab fun ly=>?_
  cases ρ a with
  |p b off=>exact UP
  |v x=>exact Pt.ab fun y=>Pt.pure _
  |_=>exact Pt.false
 case store t a x=>
  refine Pt.ab fun sz=>?_
  cases ρ a with
  |p b off=>
   cases o.dst with
   |none=>exact abf fun r=>Pt.pure _
   |some _=>exact Pt.false
  |_=>exact Pt.false
 case nilCheck x=>
  dsimp only
  cases ρ x with
  |v y=>exact Pt.ab fun z=>Pt.pure _
  |t _=>exact Pt.false
  |c f first cap=>
   cases f with
   |func _=>exact Pt.pure _
   |method name=>
    dsimp only
    split
    ·exact Pt.ab fun _=>Pt.pure _
    ·exact Pt.false
   |_=>exact Pt.false
  |p b off=>exact Pt.pure _
  |a _ _ _=>exact Pt.false
  |m _=>exact Pt.false
 case binOp op t x y _=>exact Pt.ab fun r=>Pt.pure _
 case unOp op _ x=>exact Pt.ab fun r=>Pt.pure _
 case convert src dst x=>exact Pt.cond (Pt.ab fun r=>Pt.pure _) Pt.false
 case makeInterface t x=>exact Pt.cond Pt.false (Pt.ab fun r=>Pt.pure _)
 case makeFunc fn first cap=>exact Pt.pure _
 case slice t x lo hi mx=>exact Pt.ab fun r=>Pt.pure _
 case fieldAddr t x f=>
  refine Pt.ab fun fd=>Pt.ab fun sz=>Pt.cond Pt.false ?_
  cases ρ x with
  |p b off=>exact Pt.pure _
  |v y=>exact Pt.ab fun z=>Pt.pure _
  |_=>exact Pt.false
 case field t x f=>exact Pt.ab fun fd=>Pt.ab fun ly=>Pt.ab fun r=>Pt.pure _
 case indexAddr t x i=>
  dsimp only
  split
  ·refine Pt.ab fun sz=>?_
   cases ρ x with
   |a b n=>exact Pt.ab fun j=>Pt.pure _
   |_=>exact Pt.ab fun r=>Pt.pure _
  ·refine Pt.ab fun sz=>Pt.ab fun j=>?_
   cases ρ x with
   |p b off=>exact Pt.pure _
   |v y=>exact Pt.ab fun z=>Pt.pure _
   |_=>exact Pt.false
  ·exact Pt.false
 case index t x i=>
  dsimp only
  split
  ·exact Pt.ab fun ly=>Pt.ab fun r=>Pt.pure _
  ·exact Pt.ab fun r=>Pt.pure _
  ·exact Pt.false
 case extract x i=>
  dsimp only
  cases ρ x with
  |t vs=>
   dsimp only
   split
   ·exact Pt.pure _
   ·exact Pt.false
  |_=>exact Pt.false
 case lookup t m x Rv=>
  dsimp only
  cases Rv with
  |true=>exact Pt.ab fun et=>Pt.ab fun z=>Pt.ab fun r=>Pt.pure (X:=Slot×List af) (Slot.t [.d r.1,.d (.bool r.2)],aF)
  |false=>exact Pt.ab fun et=>Pt.ab fun z=>Pt.ab fun r=>Pt.pure (X:=Slot×List af) (Slot.v (.d r.1),aF)
 case makeSlice t n c=>exact Pt.ab fun e=>Pt.ab fun sz=>Pt.ab fun cX=>Pt.ab fun z=>Pt.cond (Pt.ab fun m=>Pt.and (Pt.pure _)) Pt.false
 case makeMap t hn=>
  dsimp only
  split
  ·exact Pt.pure _
  ·exact Pt.false
 case mapUpdate t m x y=>
  refine Pt.ab fun et=>?_
  split
  ·split
   ·exact Pt.ab fun n=>Pt.ab fun d=>Pt.ab fun l'=>Pt.pure _
   ·exact Pt.false
  ·exact Pt.false
 case call c=>
  dsimp only
  cases c.callee with
  |value f=>
   dsimp only
   cases ρ f with
   |v x=>
    dsimp only
    unfold withFn
    split
    ·exact JI
    ·exact JI
    ·exact Pt.false
   |c g first cap=>
    cases g with
    |func g=>exact JI
    |_=>exact Pt.false
   |_=>exact Pt.false
  |invoke f name=>
   dsimp only
   cases ρ f with
   |v x=>
    dsimp only
    unfold z9
    split
    ·exact Pt.ab fun f=>JI
    ·exact Pt.false
   |_=>exact Pt.false
  |builtin b=>
   dsimp only
   split
   ·rename_i x xs t ts _ _
    cases ρ x with
    |a b n=>exact Pt.cond (Pt.pure _) Pt.false
    |_=>exact Pt.ab fun r=>Pt.pure _
   ·exact Pt.cond (Pt.ab fun e=>Pt.ab fun sz=>Pt.ab fun cX=>Pt.ab fun z=>Pt.cond (W3 fun r=>Pt.pure _) Pt.false) Pt.false
   ·exact Pt.ab fun r=>Pt.pure _
   ·exact Pt.ab fun r=>Pt.pure _
   ·exact Pt.false
 all_goals exact Pt.false
theorem aee{o:Oper}{e:Env}:Pt (fun Q=>nu P gl C o e Q):=by
 unfold nu
 split
 ·exact Pt.pure _
 ·exact Pt.pure _
 ·split
  ·split
   ·exact Pt.pure _
   ·exact Pt.false
  ·exact Pt.false
 ·split
  ·refine Pt.ab fun ly=>Pt.cond Pt.false ?_
   split
   ·exact Pt.ab fun x=>Pt.pure _
   ·exact Pt.false
  ·exact Pt.false
 ·split
  ·refine Pt.ab fun sz=>Pt.cond ?_ Pt.false
   split
   ·exact Pt.ab fun l=>Pt.and (Pt.and (Pt.pure _))
   ·exact Pt.false
  ·exact Pt.false
 ·exact Pt.ab fun e'=>Pt.ab fun ly=>Pt.ab fun z=>Pt.ab fun l=>Pt.cond (Pt.and (Pt.pure _)) Pt.false
 ·split
  ·exact Pt.cond (Pt.ab fun e'=>Pt.ab fun sz=>Pt.ab fun cX=>Pt.ab fun z=>Pt.cond (W3 fun r=>Pt.pure _) Pt.false) Pt.false
  ·split
   ·split
    ·exact Ps _ fun rs=>Pt.ex fun bk=>Pt.and (Pt.and (Pt.pure _))
    ·exact Pt.false
   ·exact Pt.false
  ·exact Pt.false
 ·exact Pt.false
theorem afL{id:Nat}{aH:Bool}{o:Oper}{e:Env}:Pt (fun Q=>pN P gl C id aH o e Q):=by
 unfold pN
 cases aH with
 |true=>exact aee
 |false=>exact Pt.Cj (X:=Env) (S:=fun(r:Slot)(aF:List af)(Q:Env→Prop)=>Q ⟨cS e.ak o.dst r,aF⟩) ahe fun a b=>Pt.pure (X:=Env) _
theorem ac2{all:List Oper}{o:Oper}{e:Env}{A B:Env→(X→Prop)→Prop}(hA:∀e,Pt (A e))(hB:∀e,Pt (B e)):Pt (fun Q=>BV all o e (fun e=>A e Q) (fun e=>B e Q)):=by
 unfold BV
 split
 ·exact hA e
 ·rename_i j want _
  split
  ·split
   ·cases want with
    |true=>exact Pt.au (hA _) (hB _)
    |false=>exact Pt.au (hB _) (hA _)
   ·exact hB e
   ·exact Pt.false
  ·exact Pt.false
theorem Dy{aH:Nat→Bool}{all:List Oper}{base:Nat}:∀(l:List Oper)(i:Nat)(e:Env),Pt (fun Q=>iE P gl C aH all base l i e Q)
 |[],i,e=>by unfold iE;exact Pt.pure _
 |o::rest,i,e=>by
  unfold iE
  exact ac2 (fun e=>Pt.seq afL fun e=>Dy rest (i+1) e) (fun e=>Dy rest (i+1) _)
theorem ahf{e:Env}{x:iQ}:Pt (fun Q:Env→Prop=>gu e Q x):=by
 cases x with
 |box t sz=>
  simp only[gu]
  split
  ·rename_i x _
   unfold gI
   cases x<;>first|exact Pt.pure _|exact Pt.false|exact Pt.and (Pt.pure _)
  ·exact Pt.false
 |mq t ts=>
  simp only[gu]
  split
  ·split
   ·exact Pt.cond (Pt.ab fun ds=>Pt.and (Pt.pure _)) Pt.false
   ·exact Pt.false
  ·split
   ·exact Pt.cond (Pt.pure _) Pt.false
   ·exact Pt.false
  ·exact Pt.pure _
  ·exact Pt.false
 |jm t agg sz ts=>
  simp only[gu]
  split
  ·split
   ·exact Pt.cond (Pt.ab fun ds=>Pt.ab fun L=>Pt.pure _) Pt.false
   ·exact Pt.false
  ·exact Pt.pure _
  ·exact Pt.false
 |emp t=>
  simp only[gu]
  split
  ·exact Pt.ab fun y=>Pt.pure _
  ·exact Pt.false
 |jG t=>
  simp only[gu]
  split
  ·exact Pt.ab fun y=>Pt.pure _
  ·exact Pt.false
 |sO t ts=>
  simp only[gu]
  split
  ·split
   ·split
    ·exact Pt.cond (Pt.pure _) Pt.false
    ·exact Pt.false
   ·exact Pt.false
  ·exact Pt.false
theorem J1:∀(l:List iQ)(e:Env),Pt (fun Q:Env→Prop=>hY l e Q)
 |[],e=>by unfold hY;exact Pt.pure _
 |x::l,e=>by unfold hY;exact Pt.seq (X:=Env) (S:=fun(e':Env)(Q:Env→Prop)=>hY l e' Q) ahf fun e'=>J1 l e'
theorem aef{e:Env}{c:Operand}{A B:Env→(X→Prop)→Prop}(hA:∀e,Pt (A e))(hB:∀e,Pt (B e)):Pt (fun Q=>qT e c (fun e=>A e Q) (fun e=>B e Q)):=by
 unfold qT
 split
 ·split
  ·exact Pt.au (hA _) (hB _)
  ·exact Pt.false
 ·exact Pt.cond (hA _) (hB _)
 ·exact Pt.false
theorem aeg{F:(X→Prop)→List SV→List (List SV)→(List SV→List (List SV)→Prop)→Prop}
  (hF:∀vs bs,Pt (fun Q:(List SV×List (List SV)) ⊕ X→Prop=>F (fun x=>Q (.inr x)) vs bs fun v b=>Q (.inl (v,b))))(vs:List SV)(bs:List (List SV)):Pt (fun Q=>bT (F Q) vs bs):=by
 intro Q hq
 refine hq (fun vs bs=>∃x,Q x∧∀Q',Q' x→bT (F Q') vs bs) fun vs bs jD=>?_
 obtain⟨y,h1,h2⟩:=hF vs bs (fun y=>match y with| .inl p=>∃x,Q x∧∀Q',Q' x→bT (F Q') p.1 p.2| .inr x=>Q x) jD
 cases y with
 |inl p=>
  obtain⟨x,hx,hl⟩:=h1
  refine⟨x,hx,fun Q' vG I hI=>hI _ _ ?_⟩
  exact h2 (fun y=>match y with| .inl p=>I p.1 p.2| .inr x=>Q' x) (hl Q' vG I hI)
 |inr x=>
  refine⟨x,h1,fun Q' vG I hI=>hI _ _ ?_⟩
  exact h2 (fun y=>match y with| .inl p=>I p.1 p.2| .inr x=>Q' x) vG
theorem Wc{key:Nat}{c:Code}{e:Env}{T:(Ex→Env→Prop)→Prop}(hT:Pt (fun Q:Ex×Env→Prop=>T fun x e=>Q (x,e))):Pt (fun Q:Ex×Env→Prop=>tI h key c e (fun x e=>Q (x,e)) T):=by
 unfold tI
 generalize pG h.fk key=kk
 obtain⟨vars,consts⟩:=kk
 cases vars<;>cases consts
 ·exact hT
 all_goals
  refine Pt.cond ?_ Pt.false
  unfold qU
  refine Pt.Cj (T:=T) (S:=fun(x:Ex)(e':Env)(Q:Ex×Env→Prop)=>match x with| .normal =>Q (Ex.normal,_)| .exit i=>Q (Ex.exit i,e')| .ret =>Q (Ex.ret,e')) hT fun x e'=>?_
  cases x<;>exact Pt.pure _
theorem aeh{X:Type}{e:Env}{s:Spec}{T:Env→(X→Prop)→Prop}(hT:∀e,Pt (T e)):Pt (fun Q:X→Prop=>gG P C e (fun e'=>T e' Q) s):=by
 cases s with
 |zm t d ty=>
  unfold gG
  dsimp only
  split
  ·refine Pt.cond ?_ Pt.false
   exact Pt.ab fun y=>hT _
  ·exact Pt.false
 |cut t d1 d2 ty=>
  unfold gG
  dsimp only
  split
  ·refine Pt.cond ?_ Pt.false
   exact Pt.ab fun y=>hT _
  ·exact Pt.false
 |yR t d f u=>
  unfold gG
  dsimp only
  split
  ·refine Pt.cond ?_ Pt.false
   exact Pt.ex fun bk=>Pt.and (Pt.and (hT _))
  ·exact Pt.false
 |yF t d t2 d2 f u=>
  unfold gG
  dsimp only
  split
  ·refine Pt.cond ?_ Pt.false
   exact Pt.ex fun bk=>Pt.and (Pt.and (hT _))
  ·exact Pt.false
 |push t u d1 d2 d3 d4 ty=>
  unfold gG
  dsimp only
  split
  ·refine Pt.cond ?_ Pt.false
   unfold Ar
   exact Pt.ab fun n=>Pt.ab fun r=>Pt.and (Pt.and (hT _))
  ·exact Pt.false
 |tO t i j d1 d2 d3 d4 d5 d6 pR mP pS b=>
  unfold gG
  dsimp only
  split
  ·refine Pt.cond ?_ Pt.false
   unfold yG
   split
   ·exact Pt.ab fun i=>Pt.ab fun L=>Pt.ab fun j=>hT _
   ·exact Pt.false
  ·exact Pt.false
theorem X6{X:Type}{e:Env}{F:(X→Prop)→Prop}(hF:Pt F):∀T:List Nat,Pt (fun Q:X→Prop=>zn e (F Q) T)
 |[]=>hF
 |_::T=>Pt.and (X6 hF T)
theorem aei{X:Type}{m0 m1:Nat}{T:List Nat}{ops:List Oper}{aH:Nat→Bool}{e:Env}{F:Env→(X→Prop)→Prop}(hF:∀e,Pt (F e)):Pt (fun Q:X→Prop=>qV P gl C m0 m1 T ops aH e (fun e'=>F e' Q)):=by
 unfold qV
 refine Pt.seq (X:=X) (S:=fun e1 Q=>iE P gl C aH ops 0 ((ops.drop m0).take m1) m0 (sE e1) fun e2=>zn e2 (iE P gl C aH ops e.boxes.length ((ops.drop m0).drop m1) (m0+m1) (tQ (((ops.drop m0).take m1).filterMap (·.dst)) T e1 e2) fun e'=>F e' Q) T) (Dy _ _ _) fun e1=>?_
 refine Pt.seq (X:=X) (S:=fun e2 Q=>zn e2 (iE P gl C aH ops e.boxes.length ((ops.drop m0).drop m1) (m0+m1) (tQ (((ops.drop m0).take m1).filterMap (·.dst)) T e1 e2) fun e'=>F e' Q) T) (Dy _ _ _) fun e2=>?_
 refine X6 ?_ T
 exact Pt.seq (X:=X) (S:=fun e' Q=>F e' Q) (Dy _ _ _) hF
theorem afM{id:Nat}{ops:Array Oper}{draw:Bool}{e:Env}{T:Env→(Ex×Env→Prop)→Prop}(hT:∀e,Pt (T e)):Pt (fun Q:Ex×Env→Prop=>ot P gl C h id ops draw e (fun e'=>T e' Q)):=by
 unfold ot
 refine Pt.cond ?_ Pt.false
 have KO:∀e,Pt (fun Q:Ex×Env→Prop=>hY (jT h.gh (4000000+id)) e (fun e'=>T e' Q)):=fun e=>Pt.seq (X:=Ex×Env) (S:=fun e' Q=>T e' Q) (J1 _ _) hT
 cases DM h.gh id with
 |some mT=>
  refine Pt.seq (X:=Ex×Env) (S:=fun(e1:Env)(Q:Ex×Env→Prop)=>bif BO ops draw (!draw||oe (qS h id) ops) mT.1 mT.2.1 mT.2.2 then qV P gl C mT.1 mT.2.1 mT.2.2 ops.toList (qS h id) e1 (fun e2=>hY (jT h.gh (4000000+id)) e2 fun e'=>T e' Q)else False) (J1 _ _) fun e1=>?_
  exact Pt.cond (aei (F:=fun e2 Q=>hY (jT h.gh (4000000+id)) e2 fun e'=>T e' Q) KO) Pt.false
 |none=>
 refine Pt.seq (X:=Ex×Env) (S:=fun(e1:Env)(Q:Ex×Env→Prop)=>match yu P (BW h.gh id) draw ops.toList with
  |some s=>gG P C e1 (fun e2=>hY (jT h.gh (4000000+id)) e2 fun e'=>T e' Q) s
  |none=>Dv P gl C (qS h id) ops.toList e1 (yQ P gl C (!draw||oe (qS h id) ops) ops (qS h id) e1 fun e2=>hY (jT h.gh (4000000+id)) e2 fun e'=>T e' Q)) (J1 _ _) fun e1=>?_
 cases yu P (BW h.gh id) draw ops.toList with
 |some s=>exact aeh KO
 |none=>
  refine Pt.seq (X:=Ex×Env) (S:=fun(e:Env)(Q:Ex×Env→Prop)=>yQ P gl C (!draw||oe (qS h id) ops) ops (qS h id) e1 (fun e2=>hY (jT h.gh (4000000+id)) e2 fun e'=>T e' Q) e) (Dy _ _ _) fun e=>?_
  cases (!draw||oe (qS h id) ops)
  ·exact Pt.and (KO _)
  ·exact KO _
theorem B4:∀(c:Code)(e:Env),Pt (fun Q:Ex×Env→Prop=>aw P gl C h c (fun x e=>Q (x,e)) e)
 | .skip,e=>by unfold aw;exact Pt.pure _
 | .region id ops draw,e=>by
   unfold aw
   exact Wc (afM (T:=fun e(Q:Ex×Env→Prop)=>Q (Ex.normal,e)) fun e=>Pt.pure _)
 | .seq a b,e=>by
   unfold aw
   refine Pt.Cj (T:=fun(k:Ex→Env→Prop)=>aw P gl C h a k e) (S:=fun(x:Ex)(e':Env)(Q:_→Prop)=>match x with| .normal =>aw P gl C h b (fun x e=>Q (x,e)) e'| .exit i=>Q (Ex.exit i,e')| .ret =>Q (Ex.ret,e')) (B4 a e) fun x e'=>?_
   cases x with
   |normal=>exact B4 b e'
   |exit i=>exact Pt.pure _
   |ret=>exact Pt.pure _
 | .cond c a b,e=>by
   unfold aw
   exact Wc (aef (fun e=>B4 a e) (fun e=>B4 b e))
 | .block id b,e=>by
   unfold aw
   refine Pt.Cj (T:=fun(k:Ex→Env→Prop)=>aw P gl C h b k e) (S:=fun(x:Ex)(e':Env)(Q:_→Prop)=>match x with| .normal =>Q (Ex.normal,e')| .exit i=>bif i==id then Q (Ex.normal,e')else Q (Ex.exit i,e')| .ret =>Q (Ex.ret,e')) (B4 b e) fun x e'=>?_
   cases x with
   |normal=>exact Pt.pure _
   |exit i=>exact Pt.cond (Pt.pure _) (Pt.pure _)
   |ret=>exact Pt.pure _
 | .loop b,e=>by
   unfold aw
   refine Pt.cond ?_ Pt.false
   refine aeg (F:=fun(Q:Ex×Env→Prop)vs bs I=>aw P gl C h b (fun x e'=>match x with| .normal =>I (wL e' (pG h.fk (oV b)).1) (wD e.boxes.length e')| .exit i=>Q (Ex.exit i,e')| .ret =>Q (Ex.ret,e'))
    ⟨uK (pG h.fk (oV b)).1 (pG h.fk (oV b)).2 vs e.ak 0,uL bs e.boxes 0⟩) (fun vs bs=>?_) _ _
   refine Pt.Cj (T:=fun(k:Ex→Env→Prop)=>aw P gl C h b k _) (S:=fun(x:Ex)(e':Env)(Q:_→Prop)=>match x with| .normal =>Q (Sum.inl (wL e' (pG h.fk (oV b)).1,wD e.boxes.length e'))| .exit i=>Q (Sum.inr (Ex.exit i,e'))| .ret =>Q (Sum.inr (Ex.ret,e'))) (B4 b _) fun x e'=>?_
   cases x<;>exact Pt.pure _
 | .exit id,e=>by unfold aw;exact Pt.pure _
 | .ret,e=>by unfold aw;exact Pt.pure _
 | .scope _,e=>by unfold aw;exact Pt.false
 | .rangeFunc ..,e=>by unfold aw;exact Pt.false
 | .label ..,e=>by unfold aw;exact Pt.pure _
 | .goto ..,e=>by unfold aw;exact Pt.false
 | .refuse ..,e=>by unfold aw;exact Pt.false
theorem W5{e:Env}{used:List Nat}{r:ResultVar}{T:SV→(X→Prop)→Prop}(hT:∀r,Pt (T r)):Pt (fun Q=>Cb P e used r fun x=>T x Q):=by
 unfold Cb
 cases r with
 |tmp t=>
  dsimp only
  split
  ·exact Pt.and (hT _)
  ·exact Pt.false
 |cell a t=>
  dsimp only
  refine Pt.ab fun ly=>?_
  split
  ·refine Pt.Cj (S:=fun(s:Slot)(_:List af)Q=>match s with| .v x=>x.aD=true∧T x Q|_=>False) UP fun s b=>?_
   cases s with
   |v x=>exact Pt.and (hT x)
   |_=>exact Pt.false
  ·exact Pt.false
theorem Wd{e:Env}:∀(l:List ResultVar)(used:List Nat){T:List SV→(X→Prop)→Prop},(∀r,Pt (T r))→Pt (fun Q=>B0 P e used l fun x=>T x Q)
 |[],used,T,hT=>by unfold B0;exact hT []
 |r::l,used,T,hT=>by
  unfold B0
  exact W5 fun x=>Wd l _ fun xs=>hT (x::xs)
theorem ac3{fn:Func}{e:Env}:Pt (fun K:SV→Prop=>finish P fn e K):=by
 unfold finish
 split
 ·exact W5 fun x=>Pt.pure x
 ·exact Wd _ _ fun xs=>Pt.pure _
theorem afN{f:FuncId}{args:List SV}(bJ:SV.iH args):Pt (fun K:SV→Prop=>body P gl C h f args K):=by
 unfold body
 cases P.funcs[f]? with
 |none=>exact Pt.false
 |some fn=>
  dsimp only
  cases fn.body with
  |none=>exact Pt.false
  |some c=>
   have:Pt (fun K:SV→Prop=>aw P gl C h c (fun x e=>match x with| .normal =>finish P fn e K| .ret =>finish P fn e K| .exit _=>False) (enter fn.ntmps args)):=by
    refine Pt.Cj (T:=fun(k:Ex→Env→Prop)=>aw P gl C h c k _) (S:=fun(x:Ex)(e:Env)K=>match x with| .normal =>finish P fn e K| .ret =>finish P fn e K| .exit _=>False) (B4 c _) fun x e=>?_
    cases x with
    |exit i=>exact Pt.false
    |_=>exact ac3
   intro Q hq
   obtain⟨x,h1,h2⟩:=this Q (hq bJ)
   exact⟨x,h1,fun Q' h _=>h2 Q' h⟩
end
theorem ac4{P:Program}{gl:Nat→Option D}{f:FuncId}{args:List SV}{r:SV}(hE:n0 P f)(hw:¬SV.iH args)(ha:ou args=none:=by rfl):aG P gl f args r:=by
 rw[Bw ha]
 refine⟨hE,fun w St vs p9 oH hlen fI=>absurd ?_ hw⟩
 rw[SV.mK]
 intro x hx
 obtain⟨i,hi,rfl⟩:=List.mem_iff_getElem.1 hx
 exact(fI i _ (vs[i]'(by omega)) (by simp) (by simp)).wf
theorem ab7{P:Program}{gl:Nat→Option D}{h:Hints}(hm:P.follows .mixedOrders =true){f:FuncId}{args:List SV}{Q:SV→Prop}(hE:n0 P f)(hQ:∃r,Q r)(hh:body P gl (aG P gl) h f args Q)(ha:ou args=none:=by rfl):∃r,Q r∧aG P gl f args r:=by
 by_cases hw:SV.iH args
 ·obtain⟨r,h1,h2⟩:=afN hw Q hh
  exact⟨r,h1,cM hm hE (h2 _ rfl) ha⟩
 ·obtain⟨r,hr⟩:=hQ
  exact⟨r,hr,ac4 hE hw ha⟩
end Go.Proofs.Ytimbllcalipehaa.Ab
namespace Go.Proofs.Ytimbllcalipehaa.Ab
open Go Go.RowKit
def FW(r:Option Nat):Fence:={Fence.wide with round:=r}
theorem afO(l:Nat):FW (some l)=Fence.wide.inRound l:=rfl
section
variable{P:Program}{gl:Nat→Option D}{ops:Array Oper}{aH:Nat→Bool}{base:Nat}{r:Option Nat}{n:Nat}{ds:List Deferred}
def wd(a:Act)(ds:List Deferred):Act:={a with defers:=ds}
theorem Gw(a:Act)(ds:List Deferred)(dst:Option Tmp)(v:Value):(wd a ds).put dst v=wd (a.put dst v) ds:=by cases dst<;>rfl
theorem BY{a:Act}(h:a.defers=[]):wd a []=a:=by cases a;simp only at h;subst h;rfl
theorem afP(a:Act)(ds:List Deferred):(wd a ds).eval =a.eval:=funext fun x=>by cases x<;>rfl
theorem afQ{o:Oper}{a:Act}{next:Act→World→Prop}{Q:Exit→Act→World→Prop}{x:Result Next}
  (h:o.upon P a (fun a1 w1=>a1.defers=[]∧next (wd a1 ds) w1) (fun x a1 w1=>Q x (wd a1 ds) w1) x):o.uponIn (FW r) n P (wd a ds) next Q x:=by
 cases x with
 |ok nx w'=>
  cases nx with
  |enter f args=>
   refine⟨fun h=>(by cases h),?_⟩
   have h1:CallsIn Fence.wide (n-1) P f args w' _:=callsIn_wide.2 h
   refine CallsIn.mono (F:=FW r) h1 fun e w2 he=>?_
   cases e with
   |returned v=>show next ((wd a ds).put o.dst v) w2;rw[Gw];exact he.2
   |panicked ch=>exact he
   |outgrown=>obtain⟨b1,b2,b3⟩:=he;exact⟨wd b1 ds,b2,b3⟩
  |row row args=>
   refine⟨fun h=>(by cases h),fun c cs _=>?_⟩
   obtain⟨v,w2,h1,h2⟩:=h c cs
   exact⟨v,w2,by show next ((wd a ds).put o.dst v) w2;rw[Gw];exact h1.2,stepsIn_wide.2 h2⟩
  |value v=>rw[Oper.uponIn_value,Gw];exact h.2
  |skip=>rw[Oper.uponIn_skip,Gw];exact h.2
  |defer d=>
   obtain⟨h1,_⟩:=h
   rw[put_defers]at h1
   cases h1
  |_=>exact h.elim
 |halt x w'=>cases x<;>first|exact h|exact h.elim
theorem W6{o:Oper}{a:Act}{w:World}{next:Act→World→Prop}{Q:Exit→Act→World→Prop}(nF:∀c,o.op≠.defer c)
  (h:o.wp P a w (fun a1 w1=>a1.defers=[]∧next (wd a1 ds) w1) (fun x a1 w1=>Q x (wd a1 ds) w1)):o.wpIn (FW r) n P (wd a ds) w next Q:=by
 refine⟨fun _ _=>trivial,?_⟩
 have hs:o.semAt (FW r).round (wd a ds).eval =execOp a.eval o:=by
  rw[afP]
  cases r with
  |none=>rfl
  |some l=>exact Oper.semAt_some l _ o nF
 rw[hs]
 exact afQ h
theorem ab8{C:bA}{id:Nat}{l:Bool}{o:Oper}{e:Env}{k:Env→Prop}(h:pN P gl C id l o e k):∀c,o.op≠.defer c:=by
 intro c hc
 unfold pN at h
 cases l with
 |true=>simp only[cond_true,nu,hc]at h
 |false=>simp only[cond_false,dH,hc]at h
theorem Jk{w0:World}{ar:S0}{e:Env}{a:Act}{w:World}{g:Gh}(hI:Inv gl w0 ar e a w g){i id:Nat}{l:Bool}{o:Oper}(ho:ops[i]? =some o){k:Env→Prop}
  (h:o8 P gl (aG P gl) ops.toList id l o e k){next:Act→World→Prop}{Q:Exit→Act→World→Prop}(hn:∀e' v w' g',Inv gl w0 ar e' (a.put o.dst v) w' g'→k e'→next (wd (a.put o.dst v) ds) w'):wpOpIn (FW r) n P ops Q i next (wd a ds) w:=by
 have h':=Bs.1 h
 unfold wpOpIn
 simp only[ho]
 split at h'
 ·rename_i hg
  rw[if_pos (show Region.wanted o (yielded ops (wd a ds).tmps)=true from Dm hI hg)]
  exact W6 (ab8 h') (NP hI h' _ _ fun e' v w' g' hinv hk=>⟨hinv.defers,hn e' _ w' g' hinv hk⟩)
 ·rename_i hg
  rw[if_neg (by rw[show Region.wanted o (yielded ops (wd a ds).tmps)=false from Dm hI hg];simp)]
  refine⟨fun _ _=>trivial,?_⟩
  rw[Gw]
  exact hn _ _ _ _ (Oj hI o.dst) h'
 ·exact h'.elim
theorem JJ{w0:World}{ar:S0}{K:Env→Prop}{Q:Exit→Act→World→Prop}{a0:Act}(hQ:∀e a w g,Inv gl w0 ar e a w g→K e→fG ops.toList a0 a→Q .normal (wd a ds) w):∀(fuel:Nat)(bI:Array Bool)(e:Env)(a:Act)(w:World)(g:Gh),
  Inv gl w0 ar e a w g→fG ops.toList a0 a→a.tmps.size=a0.tmps.size→xf P gl ops aH base K fuel bI e→wpAnyIn (FW r) n P .any ops Q fuel bI (wd a ds) w
 |0,_,e,a,w,g,hI,er,_,h=>⟨h.1,hQ e a w g hI h.2 er⟩
 |fuel+1,_,e,a,w,g,hI,er,lN,h=>⟨fun h0=>hQ e a w g hI (h.1 h0) er,fun i hi=>by
   obtain⟨o,ho,hs⟩:=h.2 i hi
   exact Jk hI ho hs fun e' v w' g' hinv hk=>JJ hQ fuel _ e' _ w' g' hinv (er.put (by simpa using Array.mem_of_getElem? ho) lN v) (by rw[rW,lN]) hk⟩
theorem Vu{w0:World}{ar:S0}{K:Env→Prop}{Q:Exit→Act→World→Prop}{a0:Act}(hQ:∀e a w g,Inv gl w0 ar e a w g→K e→fG ops.toList a0 a→Q .normal (wd a ds) w):∀(l:List Oper)(i:Nat)(e:Env)(a:Act)(w:World)(g:Gh),
  (∀j,l[j]? =ops[i+j]?)→Inv gl w0 ar e a w g→fG ops.toList a0 a→a.tmps.size=a0.tmps.size→iE P gl (aG P gl) aH ops.toList base l i e K→wpOpsIn (FW r) n P ops Q (List.range' i l.length) (wd a ds) w
 |[],_,e,a,w,g,_,hI,er,_,h=>hQ e a w g hI h er
 |o::l,i,e,a,w,g,hl,hI,er,lN,h=>by
  have h0:ops[i]? =some o:=by simpa using(hl 0).symm
  rw[List.length_cons,List.range'_succ,wpOpsIn_cons]
  rw[Ac]at h
  exact Jk hI h0 h fun e' v w' g' hinv hk=>Vu hQ l (i+1) e' _ w' g' (fun j=>by have:=hl (j+1);simpa[Nat.add_assoc,Nat.add_comm 1 j]using this) hinv (er.put (by simpa using Array.mem_of_getElem? h0) lN v) (by rw[rW,lN]) hk
theorem abg{w0:World}{ar:S0}{e:Env}{a:Act}{w:World}{g:Gh}(hI:Inv gl w0 ar e a w g){id:Nat}{draw:Bool}{K:Env→Prop}{Q:Exit→Act→World→Prop}(hm:P.follows .mixedOrders =true)
  (h:Dv P gl (aG P gl) aH ops.toList e (yQ P gl (aG P gl) (!draw||oe aH ops) ops aH e K))(hQ:∀e a' w g,Inv gl w0 ar e a' w g→K e→fG ops.toList a a'→Q .normal (wd a' ds) w):(Code.region id ops draw).wpIn (FW r) n P Q (wd a ds) w:=by
 unfold Dv at h
 cases ej:(!draw||oe aH ops)with
 |false=>
  rw[ej]at h
  obtain⟨e',Ch,hK⟩:=Nz _ _ _ h
  have hd:draw=true:=by cases draw<;>simp_all
  subst hd
  refine wpIn_region_any hm ?_
  have cq:=(hI.FL (fM ops.toList ops.toList.length)).drew
  have:=Ny (P:=P) (gl:=gl) (aH:=aH) (K:=fun x=>x=e') _ 0 (Array.replicate ops.size false) _ (fun j=>by simp[Array.getElem?_replicate];split<;>rfl) (by simp) (fun j o ho hl=>by
   have hj:j<ops.size:=(Array.getElem?_eq_some_iff.1 ho).1
   simp[hj]at hl) ⟨w0,ar,a,_,_,cq⟩ Ch
  have h2:=JJ (r:=r) (n:=n) (Q:=Q) (K:=fun x=>x=e') (fun e1 a1 w1 g1 hinv hk=>hQ e1 a1 w1 g1 hinv (by rw[hk];exact hK)) _ _ _ _ _ _ cq (fG.refl _ _) rfl this
  simpa using h2
 |true=>
 rw[ej]at h
 replace h:iE P gl (aG P gl) aH ops.toList e.boxes.length ops.toList 0 ⟨e.ak,e.boxes++List.replicate (fM ops.toList ops.toList.length) .none⟩ K:=h
 have bt:=hI.FL (fM ops.toList ops.toList.length)
 cases draw with
 |false=>
  refine wpIn_region ?_
  have:=Vu (r:=r) (n:=n) (base:=e.boxes.length) (aH:=aH) hQ ops.toList 0 _ a w _ (fun j=>by simp) bt (fG.refl _ _) rfl h
  rw[List.range_eq_range']
  simpa using this
 |true=>
  simp only[Bool.not_true,Bool.false_or]at ej
  refine wpIn_region_any hm ?_
  have cq:=bt.drew
  have aM:(Array.replicate ops.size false).size =ops.size:=by simp
  have HN:=hI.P0 (ops:=ops) (fM ops.toList ops.toList.length) rfl
  obtain⟨E,vE,ej⟩:∃E,Js ops aH e.boxes.length _ E (Array.replicate ops.size false) ⟨e.ak,e.boxes++List.replicate (fM ops.toList ops.toList.length) .none⟩∧Ai E ops aH (reach [] ops.toList) ops.toList 0=true:=by
   unfold oe at ej
   cases fU:eligible ops.toList aH (reach [] ops.toList)with
   |true=>rw[fU]at ej;exact⟨_,fun A hA=>by cases hA;exact⟨rfl,OQ fU,HN⟩,ej⟩
   |false=>rw[fU]at ej;exact⟨none,fun A hA=>(by cases hA),ej⟩
  have:=JZ (P:=P) (gl:=gl) (base:=e.boxes.length) (aH:=aH) ops.toList 0 (Array.replicate ops.size false) _ (fun j=>by simp) (fun j hj=>by omega) (fun j _ hj=>by simp[hj]) aM
   (fun j o ho hl=>by
     have hj:j<ops.size:=(Array.getElem?_eq_some_iff.1 ho).1
     simp[hj]at hl) ⟨w0,ar,a,_,_,cq⟩ vE ej h
  have h2:=JJ (r:=r) (n:=n) hQ _ _ _ _ _ _ cq (fG.refl _ _) rfl this
  simpa using h2
end
section
variable{P:Program}{gl:Nat→Option D}{h:Hints}{r:Option Nat}{n:Nat}{ds:List Deferred}
def Kt(gh:List (Nat×List iQ))(c:Code)(a a':Act):Prop:=∀t,t∉da gh c→a'.tmps.getD t undef=a.tmps.getD t undef
theorem Kt.refl(gh:List (Nat×List iQ))(c:Code)(a:Act):Kt gh c a a:=fun _ _=>rfl
theorem Kt.trans{gh:List (Nat×List iQ)}{x y c:Code}{a a1 a2:Act}(h1:Kt gh x a a1)(h2:Kt gh y a1 a2)(hx:∀t,t∈da gh x→t∈da gh c)(hy:∀t,t∈da gh y→t∈da gh c):Kt gh c a a2:=
 fun t ht=>(h2 t fun hm=>ht (hy t hm)).trans (h1 t fun hm=>ht (hx t hm))
theorem Kt.mono{gh:List (Nat×List iQ)}{x c:Code}{a a1:Act}(h1:Kt gh x a a1)(hx:∀t,t∈da gh x→t∈da gh c):Kt gh c a a1:=fun t ht=>h1 t fun hm=>ht (hx t hm)
theorem Vv{ops:Array Oper}{Q:Exit→Act→World→Prop}{a0:Act}{R:Act→World→Prop}(hR:∀a w,R a w→fG ops.toList a0 a→Q .normal (wd a ds) w):∀(l:List Oper)(i:Nat){a:Act}{w:World},(∀j,l[j]? =ops[i+j]?)→ic P l a w R→fG ops.toList a0 a→a.tmps.size=a0.tmps.size→wpOpsIn (FW r) n P ops Q (List.range' i l.length) (wd a ds) w
 |[],_,_,_,_,h,hk,_=>hR _ _ h hk
 |o::l,i,a,w,hl,h,hk,aM=>by
  obtain⟨hg,nF,h⟩:=h
  have h0:ops[i]? =some o:=by simpa using(hl 0).symm
  rw[List.length_cons,List.range'_succ,wpOpsIn_cons]
  unfold wpOpIn
  simp only[h0]
  rw[if_pos (by simp[Region.wanted,hg])]
  exact W6 nF (h _ _ fun v w1 hd h1=>⟨hd,Vv hR l (i+1) (fun j=>by have:=hl (j+1);simpa[Nat.add_assoc,Nat.add_comm 1 j]using this) h1 (hk.put (by simpa using Array.mem_of_getElem? h0) aM v) (by rw[rW,aM])⟩)
theorem Jl{ops:Array Oper}{aH:Nat→Bool}{base:Nat}{w0:World}{ar:S0}{l0:List Oper}{K:Env→Prop}{Q:Exit→Act→World→Prop}{a0:Act}{rest:List Nat}(hQ:∀e a w g,Inv gl w0 ar e a w g→K e→fG l0 a0 a→wpOpsIn (FW r) n P ops Q rest (wd a ds) w):∀(l:List Oper)(i:Nat)(e:Env)(a:Act)(w:World)(g:Gh),
  (∀j,j<l.length→l[j]? =ops[i+j]?)→(∀o∈l,o∈l0)→Inv gl w0 ar e a w g→fG l0 a0 a→iE P gl (aG P gl) aH ops.toList base l i e K→wpOpsIn (FW r) n P ops Q (List.range' i l.length++rest) (wd a ds) w
 |[],_,e,a,w,g,_,_,hI,er,h=>hQ e a w g hI h er
 |o::l,i,e,a,w,g,hl,hm,hI,er,h=>by
  have h0:ops[i]? =some o:=by simpa using(hl 0 (by simp)).symm
  rw[List.length_cons,List.range'_succ,List.cons_append,wpOpsIn_cons]
  rw[Ac]at h
  exact Jk hI h0 h fun e' v w' g' hinv hk=>Jl hQ l (i+1) e' _ w' g' (fun j hj=>by have:=hl (j+1) (by simpa using hj);simpa[Nat.add_assoc,Nat.add_comm 1 j]using this) (fun o ho=>hm o (List.mem_cons_of_mem _ ho)) hinv (er.Qy (hm o (by simp)) v) hk
theorem fG.tr{l l1 l2:List Oper}{a a1 a2:Act}(h1:fG l1 a a1)(h2:fG l2 a1 a2)(m1:∀o∈l1,o∈l)(m2:∀o∈l2,o∈l):fG l a a2:=fun t ht=>
 (h2 t fun hm=>by obtain⟨o,ho,hd⟩:=List.mem_filterMap.1 hm;exact ht (List.mem_filterMap.2 ⟨o,m2 o ho,hd⟩)).trans (h1 t fun hm=>by obtain⟨o,ho,hd⟩:=List.mem_filterMap.1 hm;exact ht (List.mem_filterMap.2 ⟨o,m1 o ho,hd⟩))
theorem ab9{ops:Array Oper}{aH:Nat→Bool}{w0:World}{ar:S0}{e:Env}{a:Act}{w:World}{g:Gh}(hI:Inv gl w0 ar e a w g){id:Nat}{draw ok:Bool}(ej:ok=(!draw||oe aH ops)){m0 m1:Nat}{T:List Nat}(hf:BO ops draw ok m0 m1 T=true){K:Env→Prop}{Q:Exit→Act→World→Prop}(hm:P.follows .mixedOrders =true)
  (h:qV P gl (aG P gl) m0 m1 T ops.toList aH e K)(hQ:∀e a' w g,Inv gl w0 ar e a' w g→K e→fG ops.toList a a'→Q .normal (wd a' ds) w):(Code.region id ops draw).wpIn (FW r) n P Q (wd a ds) w:=by
 cases draw with
 |true=>
  obtain⟨h1,h2,h3⟩:=Vr hf rfl h
  rw[h1]at ej
  refine wpIn_region_any hm ?_
  have hlen:∀{e2:Env},e2.ak.length=(sE e).ak.length →e2.ak.length=e.ak.length:=fun h=>by rw[h];simp[sE]
  obtain⟨g2,cq,Ch⟩:=X4 hI.KM (by simpa using ej.symm) h2 (xT _ _ _ h3)
  refine JJ (a0:=a) (fun e2 a2 w2 g2 hinv hk er=>?_) _ _ _ _ _ _ cq (fG.refl _ _) rfl Ch
  obtain⟨hk,oK,_⟩:=hk
  obtain⟨hK,hT⟩:=FN _ hk
  obtain⟨g',gC⟩:=hI.Kq (ws:=ops.toList.filterMap (fun o:Oper=>o.dst)) (T:=T) hinv (hlen oK) er hT
  exact hQ _ _ _ _ gC hK er
 |false=>
  obtain⟨h1,_,_,h4,h5⟩:=IY hf
  unfold qV at h
  refine wpIn_region ?_
  have aM:ops.toList.length=ops.size:=by simp
  have hr:List.range ops.size=List.range' 0 (ops.toList.take m0).length ++(List.range' m0 ((ops.toList.drop m0).take m1).length ++(List.range' (m0+m1) ((ops.toList.drop m0).drop m1).length ++[])):=by
   rw[List.range_eq_range',List.append_nil]
   simp only[List.length_take,List.length_drop]
   rw[show min m0 ops.toList.length=m0 by omega,show min m1 (ops.toList.length-m0)=m1 by omega]
   have:=List.range'_append_1 (s:=m0) (m:=m1) (n:=ops.toList.length-m0-m1)
   rw[this]
   have:=List.range'_append_1 (s:=0) (m:=m0) (n:=m1+(ops.toList.length-m0-m1))
   rw[Nat.zero_add]at this
   rw[this]
   congr 1;omega
  rw[hr]
  refine Jl (l0:=ops.toList.take m0) (a0:=a) (fun e1 a1 w1 g1 dn jr akV=>?_) _ 0 e a w g (fun j hj=>?_) (fun _ h=>h) hI (fG.refl _ _) h
  ·refine Jl (l0:=(ops.toList.drop m0).take m1) (a0:=a1) (fun e2 a2 w2 g2 cq jd rb=>?_) _ m0 _ a1 w1 _ (fun j hj=>?_) (fun _ h=>h) dn.KM (fG.refl _ _) (xT _ _ _ jr)
   ·obtain⟨jd,oK,_⟩:=jd
    obtain⟨hK,hT⟩:=FN _ jd
    obtain⟨g',gC⟩:=dn.Kq (ws:=((ops.toList.drop m0).take m1).filterMap (fun o:Oper=>o.dst)) (T:=T) cq (by rw[oK];simp[sE]) rb hT
    refine Jl (P:=P) (Q:=Q) (rest:=[]) (l0:=(ops.toList.drop m0).drop m1) (a0:=a2) (fun e3 a3 w3 g3 gm RV akW=>hQ _ _ _ _ gm RV ?_) _ _ _ a2 w2 g' (fun j hj=>?_) (fun _ h=>h) gC (fG.refl _ _) hK
    ·exact(akV.tr rb (l:=ops.toList) (fun o ho=>List.mem_of_mem_take ho) (fun o ho=>List.mem_of_mem_drop (List.mem_of_mem_take ho))).tr akW (fun _ h=>h) (fun o ho=>List.mem_of_mem_drop (List.mem_of_mem_drop ho))
    ·rw[List.getElem?_drop,List.getElem?_drop,Array.getElem?_toList]
     congr 1;omega
   ·simp only[List.length_take]at hj
    rw[List.getElem?_take,if_pos (by omega),List.getElem?_drop,Array.getElem?_toList]
  ·simp only[List.length_take]at hj
   rw[List.getElem?_take,if_pos (by omega),Array.getElem?_toList,Nat.zero_add]
theorem ac5{w0:World}{ar:S0}{e:Env}{a:Act}{w:World}{g:Gh}(hI:Inv gl w0 ar e a w g){id:Nat}{ops:Array Oper}{draw:Bool}{K:Env→Prop}{Q:Exit→Act→World→Prop}(hm:P.follows .mixedOrders =true)
  (hh:ot P gl (aG P gl) h id ops draw e K)(hQ:∀e a' w g,Inv gl w0 ar e a' w g→K e→fG ops.toList a a'→Q .normal (wd a' ds) w):(Code.region id ops draw).wpIn (FW r) n P Q (wd a ds) w:=by
 unfold ot at hh
 obtain⟨hb,hh⟩:=pA hh
 obtain⟨e1,g1,dn,h1⟩:=Dx hI hh
 have vG:∀e a' w g,Inv gl w0 ar e a' w g→hY (jT h.gh (4000000+id)) e K→fG ops.toList a a'→Q .normal (wd a' ds) w:=fun e a w g h1 h2 hk=>by
  obtain⟨e2,g2,cq,h3⟩:=Dx h1 h2
  exact hQ e2 a w g2 cq h3 hk
 cases hl:DM h.gh id with
 |some mT=>
  simp only[hl]at h1
  obtain⟨hf,h1⟩:=pA h1
  exact ab9 dn rfl hf hm h1 fun e' a' w' g' bt hk er=>vG e' a' w' g' bt hk er
 |none=>
 simp only[hl]at h1
 cases hs:yu P (BW h.gh id) draw ops.toList with
 |some s=>
  simp only[hs]at h1
  obtain⟨hd,RX⟩:=Nk hs
  subst hd
  have hr:=V9 dn RX h1
  refine wpIn_region ?_
  have:=Vv (r:=r) (n:=n) (ds:=ds) (ops:=ops) (Q:=Q) (a0:=a) (fun a' w'⟨e',g',bt,hk⟩er=>vG e' a' w' g' bt hk er) ops.toList 0 (fun j=>by simp) hr (fG.refl _ _) rfl
  rw[List.range_eq_range']
  simpa using this
 |none=>
  simp only[hs]at h1
  exact abg dn hm h1 fun e' a' w' g' bt hk er=>vG e' a' w' g' bt hk er
theorem tz(hm:P.follows .mixedOrders =true):∀(c:Code){w0:World}{ar:S0}{QA:Ex→Env→Prop}{e:Env}{a:Act}{w:World}{g:Gh}{Q:Exit→Act→World→Prop},
  Inv gl w0 ar e a w g→aw P gl (aG P gl) h c QA e→(∀x e' a' w' g',Inv gl w0 ar e' a' w' g'→QA x e'→Kt [] c a a'→Q x.to (wd a' ds) w')→c.wpIn (FW r) n P Q (wd a ds) w
 | .skip,_,_,_,_,_,_,_,_,hI,hh,hQ=>wpIn_skip (hQ .normal _ _ _ _ hI hh (Kt.refl _ _ _))
 | .region id ops draw,w0,ar,QA,e,a,w,g,Q,hI,hh,hQ=>by
   obtain⟨xJ,hh,hj⟩:=Jj hI (c:=.region id ops draw) (T:=fun Q=>ot P gl (aG P gl) h id ops draw e (Q .normal)) (fun Q hh=>TP Q hh) hh
   have hQ:∀ex e' a' w' g',Inv gl w0 ar e' a' w' g'→xJ ex e'→Kt [] (.region id ops draw) a a'→Q ex.to (wd a' ds) w':=fun ex e' a' w' g' h1 h2 h5=>(by
    obtain⟨nD,zB,h3,h4⟩:=hj ex e' a' w' g' h1 h2
    exact hQ ex nD a' w' zB h3 h4 h5)
   clear hj
   exact ac5 hI hm hh fun e' a' w' g' bt hk er=>hQ .normal e' a' w' g' bt hk fun t ht=>er t fun hm=>ht (by simp only[da,List.mem_append];exact .inr (.inr hm))
 | .seq x y,w0,ar,QA,e,a,w,g,Q,hI,hh,hQ=>by
   have jb:∀t,t∈da [] x→t∈da [] (.seq x y):=fun t ht=>by simp[da,ht]
   have Cw:∀t,t∈da [] y→t∈da [] (.seq x y):=fun t ht=>by simp[da,ht]
   refine wpIn_seq (tz hm x hI hh fun ex e' a' w' g' bt hk er=>?_)
   cases ex with
   |normal=>exact tz hm y bt hk fun x2 e2 a2 w2 g2 cq jd rb=>hQ x2 e2 a2 w2 g2 cq jd (er.trans rb jb Cw)
   |exit i=>exact hQ (.exit i) e' a' w' g' bt hk (er.mono jb)
   |ret=>exact hQ .ret e' a' w' g' bt hk (er.mono jb)
 | .cond c x y,w0,ar,QA,e,a,w,g,Q,hI,hh,hQ=>by
   obtain⟨xJ,hh,hj⟩:=Jj hI (c:=.cond c x y) (T:=fun Q=>qT e c (aw P gl (aG P gl) h x Q) (aw P gl (aG P gl) h y Q)) (fun Q hh=>UN Q hh) hh
   have hQ:∀ex e' a' w' g',Inv gl w0 ar e' a' w' g'→xJ ex e'→Kt [] (.cond c x y) a a'→Q ex.to (wd a' ds) w':=fun ex e' a' w' g' h1 h2 h5=>(by
    obtain⟨nD,zB,h3,h4⟩:=hj ex e' a' w' g' h1 h2
    exact hQ ex nD a' w' zB h3 h4 h5)
   clear hj
   cases c with
   |tmp t=>
    simp only[qT]at hh
    have hs:=kb hI t
    cases hx:e.ak.getD t (.v .undef)with
    |v z=>
     rw[hx]at hh hs
     obtain⟨b,rfl,h1,h2⟩:=Dw hh
     have hv:=hs.jV.data.wA
     refine wpIn_cond_split hv (fun hb=>?_) (fun hb=>?_)
     ·have:=h1 hb
      subst hb
      rw[xW hx]at this
      exact tz hm x hI this fun x2 e2 a2 w2 g2 cq jd rb=>hQ x2 e2 a2 w2 g2 cq jd (rb.mono fun t ht=>by simp[da,ht])
     ·have:=h2 hb
      subst hb
      rw[xW hx]at this
      exact tz hm y hI this fun x2 e2 a2 w2 g2 cq jd rb=>hQ x2 e2 a2 w2 g2 cq jd (rb.mono fun t ht=>by simp[da,ht])
    |_=>rw[hx]at hh;exact hh.elim
   |const v=>
    cases v with
    |bool b=>
     refine wpIn_cond_split (t:=b) rfl (fun hb=>?_) (fun hb=>?_)
     ·subst hb;exact tz hm x hI hh fun x2 e2 a2 w2 g2 cq jd rb=>hQ x2 e2 a2 w2 g2 cq jd (rb.mono fun t ht=>by simp[da,ht])
     ·subst hb;exact tz hm y hI hh fun x2 e2 a2 w2 g2 cq jd rb=>hQ x2 e2 a2 w2 g2 cq jd (rb.mono fun t ht=>by simp[da,ht])
    |_=>exact hh.elim
   |_=>exact hh.elim
 | .block id b,w0,ar,QA,e,a,w,g,Q,hI,hh,hQ=>by
   refine wpIn_block (tz hm b hI hh fun ex e' a' w' g' bt hk er=>?_)
   cases ex with
   |normal=>exact hQ .normal e' a' w' g' bt hk er
   |exit i=>
    have bU:cond (i==id) (QA .normal e') (QA (.exit i) e'):=hk
    show(if i=id then Q .normal (wd a' ds) w' else Q (.exit i) (wd a' ds) w')
    cases hb:(i==id)with
    |true=>
     rw[hb]at bU
     rw[if_pos (beq_iff_eq.1 hb)]
     exact hQ .normal e' a' w' g' bt bU er
    |false=>
     rw[hb]at bU
     rw[if_neg (beq_eq_false_iff_ne.1 hb)]
     exact hQ (.exit i) e' a' w' g' bt bU er
   |ret=>exact hQ .ret e' a' w' g' bt hk er
 | .loop b,w0,ar,QA,e,a,w,g,Q,hI,hh,hQ=>by
   obtain⟨hb,hh⟩:=pA (hh:cond _ _ False)
   simp only[Bool.and_eq_true,List.all_eq_true,Bool.not_eq_true',List.contains_eq_mem,decide_eq_false_iff_not]at hb
   obtain⟨Qz,hk⟩:=hb
   let LW:Act→World→Prop:=fun a1 w1=>∀(fr:Frame)(k:List Item)(cs:List Frame),fr.roundOf=(FW r).round →(FW r).fn fr.fn→(FW r).room (cs.length+1+n)→∃ex a' w',Q ex a' w'∧ArrivesIn (Machine.fenced P (FW r)) P (lone (fr.atR a1 (.code b::.inLoop b::k)) cs w1) fr k cs ex a' w'
   let I:List SV→List (List SV)→Prop:=fun vs bs=>∀e1 a1 w1 g1,Inv gl w0 ar e1 a1 w1 g1→Fr h.gh b e e1→Kt [] b a a1→wL e1 (pG h.fk (oV b)).1=vs→wD e.boxes.length e1=bs→LW (wd a1 ds) w1
   have key:I _ _:=hh I fun vs bs hF e1 a1 w1 g1 dn oK er lM jc=>by
    subst lM jc
    have RY:=NV hI dn oK (vars:=(pG h.fk (oV b)).1) Qz
    have kh:=tz hm b (Q:=fun ex a' w'=>match ex with| .normal =>LW a' w'|ex=>Q ex a' w') RY (tB b hF) (fun ex e' a' w' g' bt bU QC=>by
     obtain⟨jr,jd⟩:=bU
     cases ex with
     |normal=>exact jr e' a' w' g' bt ((JG hk).trans jd (fun t ht=>ht) (fun t ht=>ht)) (er.trans QC (fun t ht=>ht) (fun t ht=>ht)) rfl rfl
     |exit i=>exact hQ (.exit i) e' a' w' g' bt jr (er.trans QC (fun t ht=>ht) (fun t ht=>ht))
     |ret=>exact hQ .ret e' a' w' g' bt jr (er.trans QC (fun t ht=>ht) (fun t ht=>ht)))
    intro fr k cs L9 hb hr
    obtain⟨ex,a2,w2,hq,oz⟩:=kh fr (.inLoop b::k) cs L9 hb hr
    cases ex with
    |normal=>
     obtain⟨e₂,a₂,w₂,RZ,P2⟩:=hq fr k cs L9 hb hr
     exact⟨e₂,a₂,w₂,RZ,.of_steps (StepsIn.trans oz (.one (fenced_calm hb hr rfl) stepR_inLoop)) P2⟩
    |exit id=>exact⟨_,a2,w2,hq,.pass (x:=.inLoop b) rfl (fun _ _=>.inl (by simp)) oz⟩
    |goto l=>exact⟨_,a2,w2,hq,.pass (x:=.inLoop b) rfl (fun _ _=>.inl (by simp)) oz⟩
    |ret=>exact⟨_,a2,w2,hq,.pass (x:=.inLoop b) rfl (fun _ _=>.inl (by simp)) oz⟩
    |panic ch=>exact⟨_,a2,w2,hq,.pass (x:=.inLoop b) rfl (fun _ _=>.inl (by simp)) oz⟩
    |outgrown=>exact⟨_,a2,w2,hq,.pass (x:=.inLoop b) rfl (fun _ _=>.inl (by simp)) oz⟩
   have R0:LW (wd a ds) w:=key e a w g hI (Fr.refl _ _) (Kt.refl _ _ _) rfl rfl
   intro fr k cs L9 hb hr
   obtain⟨ex,a',w',hq,oz⟩:=R0 fr k cs L9 hb hr
   exact⟨ex,a',w',hq,.of_steps (.one (fenced_calm hb hr rfl) stepR_loop) oz⟩
 | .exit id,_,_,_,_,_,_,_,_,hI,hh,hQ=>wpIn_exit (hQ (.exit id) _ _ _ _ hI hh (Kt.refl _ _ _))
 | .ret,_,_,_,_,_,_,_,_,hI,hh,hQ=>wpIn_ret (hQ .ret _ _ _ _ hI hh (Kt.refl _ _ _))
 | .goto _,_,_,_,_,_,_,_,_,_,hh,_=>hh.elim
 | .label _,_,_,_,_,_,_,_,_,hI,hh,hQ=>wpIn_label (hQ .normal _ _ _ _ hI hh (Kt.refl _ _ _))
 | .scope _,_,_,_,_,_,_,_,_,_,hh,_=>hh.elim
 | .rangeFunc _ _ _ _,_,_,_,_,_,_,_,_,_,hh,_=>hh.elim
 | .refuse _,_,_,_,_,_,_,_,_,_,hh,_=>hh.elim
theorem zW{gh:List (Nat×List iQ)}:∀(c:Code){t:Nat},t∈da [] c→t∈da gh c
 | .region id ops draw,t,h=>by
   simp only[da,List.mem_append]at h ⊢
   rcases h with h|h|h
   ·simp[jT,gA]at h
   ·simp[jT,gA]at h
   ·exact .inr (.inr h)
 | .seq a b,t,h=>by
   simp only[da,List.mem_append]at h ⊢
   exact h.imp (zW a) (zW b)
 | .cond c a b,t,h=>by
   simp only[da,List.mem_append]at h ⊢
   exact h.imp (zW a) (zW b)
 | .block id b,t,h=>zW (gh:=gh) b h
 | .loop b,t,h=>zW (gh:=gh) b h
 | .scope b,t,h=>zW (gh:=gh) b h
 | .skip,t,h=>by simp[da]at h
 | .exit _,t,h=>by simp[da]at h
 | .ret,t,h=>by simp[da]at h
 | .goto _,t,h=>by simp[da]at h
 | .label _,t,h=>by simp[da]at h
 | .rangeFunc ..,t,h=>by simp[da]at h
 | .refuse ..,t,h=>by simp[da]at h
theorem Kt.any{gh:List (Nat×List iQ)}{c:Code}{a a':Act}(h:Kt [] c a a'):Kt gh c a a':=fun t ht=>h t fun hm=>ht (zW c hm)
theorem UQ(hm:P.follows .mixedOrders =true)(c:Code){w0:World}{ar:S0}{QA:Ex→Env→Prop}{e:Env}{a:Act}{w:World}{g:Gh}{Q:Exit→Act→World→Prop}
  (hI:Inv gl w0 ar e a w g)(hh:aw P gl (aG P gl) h c QA e)(hQ:∀x e' a' w' g',Inv gl w0 ar e' a' w' g'→QA x e'→Q x.to (wd a' ds) w'):c.wpIn (FW r) n P Q (wd a ds) w:=
 tz hm c hI hh fun x e' a' w' g' h1 h2 _=>hQ x e' a' w' g' h1 h2
end
end Go.Proofs.Ytimbllcalipehaa.Ab
namespace Go.Proofs.Ytimbllcalipehaa.Ab
open Go Go.RowKit
mutual
def SV.re:SV→Bool
 | .mp _=>false
 | .ref cs _=>SV.sH cs
 | .cU _ _ cs=>SV.sH cs
 | .dT _ a b=>SV.sH a&&SV.sH b
 | .aJ l=>SV.sH l
 |_=>true
def SV.sH:List SV→Bool
 |[]=>true
 |x::l=>SV.re x&&SV.sH l
end
theorem z7:∀{l:List SV},SV.sH l=true↔∀x∈l,SV.re x=true
 |[]=>by simp[SV.sH]
 |x::l=>by simp[SV.sH,z7 (l:=l)]
end Go.Proofs.Ytimbllcalipehaa.Ab
namespace Go.Proofs.Ytimbllcalipehaa.Ab
open Go Go.RowKit
theorem uN:∀{l:List SV},SV.iB l=true↔∀x∈l,SV.aD x=true
 |[]=>by simp[SV.iB]
 |x::l=>by simp[SV.iB,uN (l:=l)]
section
variable{W W':World}{gl:Nat→Option D}
theorem bh.fk{St:Nat→Nat→Prop}(hc:∀b o v,St b o→W.cell? ⟨b,o,none⟩=some v→W'.cell? ⟨b,o,none⟩=some v){x:D}{v:Value}(r:bh W St x v):bh W' St x v:=by
 induction r with
 |bool b=>exact .bool b
 |int k n hk=>exact .int k n hk
 |str s hs=>exact .str s hs
 |agg ds vs hf hl _ ih=>exact .agg ds vs hf hl ih
 |jU sz=>exact .jU sz
 |sl sz L b off cap vs bM hm aM hf aR _ ih=>exact .sl sz L b off cap vs bM hm aM hf (fun o ho=>⟨hc _ _ _ (aR o ho).2 (aR o ho).1,(aR o ho).2⟩) ih
 |mr sz a cap ha=>exact .mr sz a cap ha
 |fn f=>exact .fn f
 |wU=>exact .wU
 |iface t x v _ ih=>exact .iface t x v ih
 |wV=>exact .wV
 |nZ=>exact .nZ
theorem aP.fk{St:Nat→Nat→Prop}{base:Nat}(hc:∀b o v,St b o→W.cell? ⟨b,o,none⟩=some v→W'.cell? ⟨b,o,none⟩=some v){O:Nat→Nat→Nat→Prop}{x:SV}{v:Value}(r:aP W St base O x v):
  ∀O':Nat→Nat→Nat→Prop,(∀g a c,O g a c→O' g a c∧W'.heap[g]? =W.heap[g]?)→x.re=true→x.aD=true→aP W' St base O' x v:=by
 induction r with
 |d O x v hd=>exact fun O' _ _ _=>.d O' x v (hd.fk hc)
 |own O sz L g cap hd bM ho=>exact fun O' hO _ _=>.own O' sz L g cap (hd.fk hc) bM (hO _ _ _ ho).1
 |full O sz L a hd=>exact fun O' _ _ _=>.full O' sz L a (hd.fk hc)
 |ref O cs off b o vs fh aR _ ih=>exact fun O' _ _ hr=>by cases hr
 |cU O n sz cs b cap vs fh hn hm aR _ ih=>exact fun O' _ _ hr=>by cases hr
 |aX O x off b o vs hf aR ei=>exact fun O' _ _ _=>.aX O' x off b o vs hf (fun i hi=>⟨hc _ _ _ (aR i hi).2 (aR i hi).1,(aR i hi).2⟩) fun i c hi=>(ei i c hi).fk hc
 |dT O f first cap fv cv hf dv _ _ kB kC=>
  intro O' _ hn hr
  simp only[SV.re,SV.aD,Bool.and_eq_true]at hn hr
  exact .dT O' f first cap fv cv hf dv (fun i x v a b=>kB i x v a b _ (fun _ _ _ h=>h.elim) (z7.1 hn.1 x (List.mem_of_getElem? a)) (uN.1 hr.1 x (List.mem_of_getElem? a))) (fun i x v a b=>kC i x v a b _ (fun _ _ _ h=>h.elim) (z7.1 hn.2 x (List.mem_of_getElem? a)) (uN.1 hr.2 x (List.mem_of_getElem? a)))
 |aZ O sz L g cap vs bM hm aM hf ho aR ei=>
  exact fun O' hO _ _=>.aZ O' sz L g cap vs bM hm aM hf (hO _ _ _ ho).1 (fun o bQ=>(World.cell?_of_block (hO _ _ _ ho).2).trans (aR o bQ)) fun i x j c hx iZ=>(ei i x j c hx iZ).fk hc
 |mp O l r es clock hh hs hl ei=>exact fun O' _ hn=>by cases hn
 |nest O LL gg cap bk cp h1 h2 h3 h4 h5 h6=>
  exact fun O' hO _ _=>.nest O' LL gg cap bk cp h1 h2 (hO _ _ _ h3).1 (fun i L hL=>(World.cell?_of_block (hO _ _ _ h3).2).trans (h4 i L hL)) (fun i L hL=>(by
   obtain⟨r1,r2,r3,r4,r5,r6⟩:=h5 i L hL
   exact⟨(hO _ _ _ r1).1,r2,r3,r4,r5,fun j x hx=>(by
    obtain⟨v,k1,k2⟩:=r6 j x hx
    exact⟨v,(World.cell?_of_block (hO _ _ _ r1).2).trans k1,k2.fk hc⟩)⟩)) h6
 |undef O v=>exact fun O' _ _ _=>.undef O' v
inductive Plain:Slot→Prop
 |v (x:SV) (h:x.re=true) (h2:x.aD=true):Plain (.v x)
 |t (l:List SV) (h:SV.sH l=true) (h2:SV.iB l=true):Plain (.t l)
 |p (b off:Nat):Plain (.p b off)
 |a (b n sz:Nat):Plain (.a b n sz)
 |m (b:Nat):Plain (.m b)
 |c (f:Fn) (first cap:List Slot) (h1:∀s∈first,Plain s) (h2:∀s∈cap,Plain s):Plain (.c f first cap)
structure Kr(e:Env):Prop where
 s:∀s∈e.ak,Plain s
 b:∀bx∈e.boxes,match bx with| .cells cs=>SV.sH cs=true∧SV.iB cs=true| .one s=>Plain s|_=>True
theorem cE.fk{base:Nat}{g:Gh}(eB:∀b,some b∈g.bx→W'.heap[b]? =W.heap[b]?)(hc:∀b o v,g.St b o→W.cell? ⟨b,o,none⟩=some v→W'.cell? ⟨b,o,none⟩=some v){O:Nat→Nat→Nat→Nat→Prop}{s:Slot}{v:Value}(r:cE base W g O s v):
  ∀O':Nat→Nat→Nat→Nat→Prop,(∀j b a c,O j b a c→O' j b a c∧W'.heap[b]? =W.heap[b]?)→Plain s→cE base W' g O' s v:=by
 induction r with
 |v O x y h=>exact fun O' hO hn=>.v _ x y (by cases hn with|v _ h1 h2=>exact h.fk hc _ (hO 0) h1 h2)
 |p O b off ao h=>exact fun O' _ _=>.p _ b off ao h
 |a O b n sz v hm h=>exact fun O' _ _=>.a _ b n sz v hm (by obtain⟨ao,cap,h1,h2,h3,h4,c,ty,h5,h6⟩:=h;exact⟨ao,cap,h1,h2,h3,h4,c,ty,(eB ao (List.mem_of_getElem? h1)).trans h5,h6⟩)
 |m O b ao h=>exact fun O' _ _=>.m _ b ao h
 |c O f first cap fv cv hf dv _ _ kB kC=>
  intro O' _ hn
  cases hn with
  |c _ _ _ h1 h2=>
   exact .c _ f first cap fv cv hf dv (fun i x v a b=>kB i x v a b _ (fun _ _ _ _ h=>h.elim) (h1 x (List.mem_of_getElem? a))) (fun i x v a b=>kC i x v a b _ (fun _ _ _ _ h=>h.elim) (h2 x (List.mem_of_getElem? a)))
 |t O xs vs hl ei=>
  intro O' hO hn
  cases hn with
  |t _ h h2=>exact .t _ xs vs hl fun j x v a b=>(ei j x v a b).fk hc _ (hO j) (z7.1 h x (List.mem_of_getElem? a)) (uN.1 h2 x (List.mem_of_getElem? a))
def Hg(W:World)(n:Nat):World:={W with heap:=W.heap.extract 0 n}
theorem Vw{W:World}{n:Nat}(h:n≤W.heap.size):(Hg W n).heap.size =n:=by simp[Hg];omega
theorem Inv.move{w0 R6:World}{ar:S0}{e:Env}{a:Act}{g:Gh}(hI:Inv gl w0 ar e a W g)(hn:Kr e)(h0:R6.heap.size=w0.heap.size)(hb:Below w0.heap.size R6 W')(hs:W.heap.size≤W'.heap.size)
  (hc:∀b o v,g.St b o→W.cell? ⟨b,o,none⟩=some v→W'.cell? ⟨b,o,none⟩=some v)
  (eB:∀b,some b∈g.bx→W'.heap[b]? =W.heap[b]?)(ue:∀b p,g.ow b=some p→w0.heap.size≤b→b<W.heap.size→W'.heap[b]? =W.heap[b]?)
  (lT:∀D o,ar.df D o→W'.heap[D]? =W.heap[D]?):Inv gl R6 ar e a W' g:=by
 have iO:∀p b a' c,fa w0.heap.size W g p b a' c→fa w0.heap.size W' g p b a' c∧W'.heap[b]? =W.heap[b]? :=by
  rintro p b a' c ⟨h1,h2,h3,⟨cur,t,h4,h5⟩,h6⟩
  have:=ue b p h1 h2 (fL h4)
  exact⟨⟨h1,h2,h3,⟨cur,t,this.trans h4,h5⟩,h6⟩,this⟩
 refine⟨by rw[h0];exact hb,hI.size,fun i s hs=>?_,hI.fQ,fun b bx ao h1 h2=>?_,hI.nodup,hI.gU,fun b o h=>⟨by rw[h0];exact(hI.cW b o h).1,(hI.cW b o h).2.1,by have:=(hI.cW b o h).2.2;omega⟩,
  fun b h=>⟨by rw[h0];exact(hI.dF b h).1,by have:=(hI.dF b h).2;omega⟩,?_,hI.defers,
  fun D o hD=>(have h:=hI.fT D o hD;⟨h.1,h.2.1,(lT D o hD).trans h.2.2.1,h.2.2.2⟩),fun b o v hv=>(have h:=hI.cls b o v hv;⟨h.1,hc _ _ _ h.1 h.2⟩),Nat.le_trans hI.kD hs⟩
 ·rw[h0]
  exact(hI.ak i s hs).fk eB hc _ (fun j b a' c h=>iO _ b a' c h) (hn.s s (List.mem_of_getElem? hs))
 ·rw[h0]
  have lS:=hI.boxes b bx ao h1 h2
  have fW:=hn.b bx (List.mem_of_getElem? h1)
  have hb:=eB ao (List.mem_of_getElem? h2)
  cases bx with
  |none=>exact lS.elim
  |map l=>
   obtain⟨h0,es,clock,hh,hl,bw⟩:=lS
   exact⟨h0,es,clock,hb.trans hh,hl,fun i x y hx hy=>⟨(bw i x y hx hy).1,(bw i x y hx hy).2.1,(bw i x y hx hy).2.2.fk hc⟩⟩
  |cells cs=>
   obtain⟨h0,c,t,hh,bY,hl,bw⟩:=lS
   exact⟨h0,c,t,hb.trans hh,bY,hl,fun j x y hx hy=>(bw j x y hx hy).fk hc _ (fun b' a' c' h=>iO _ b' a' c' h) (z7.1 fW.1 x (List.mem_of_getElem? hx)) (uN.1 fW.2 x (List.mem_of_getElem? hx))⟩
  |one s=>
   obtain⟨h0,c,t,hh,bY,hl,bw⟩:=lS
   exact⟨h0,c,t,hb.trans hh,bY,hl,fun y hy=>(bw y hy).fk eB hc _ (fun _ b' a' c' h=>iO _ b' a' c' h) fW⟩
 ·intro n x hx
  obtain⟨h0,vs,h1,h2⟩:=hI.lg n x hx
  exact⟨h0,vs,fun i hi=>⟨hc _ _ _ (h1 i hi).2 (h1 i hi).1,(h1 i hi).2⟩,fun i c iI=>(h2 i c iI).fk hc⟩
theorem Inv.xL{w0:World}{ar Ck:S0}{e:Env}{a:Act}{g:Gh}(hI:Inv gl w0 ar e a W g)(h0:∀b o,Ck.St b o→g.St b o)(h1:∀b o,g.St b o→Ck.St b o∨w0.heap.size≤b)
  (lT:∀D o,Ck.df D o→some D∉g.bx∧g.ow D=none∧W.heap[D]? =some o∧∀x,g.St D x→Ck.St D x)(dv:∀b o v,Ck.cl b o v→g.St b o∧W.cell? ⟨b,o,none⟩=some v)
  (aM:Ck.sz≤W.heap.size):Inv gl w0 Ck e a W g:=
 ⟨hI.below,hI.size,hI.ak,hI.fQ,hI.boxes,hI.nodup,h0,fun b o h=>⟨h1 b o h,(hI.cW b o h).2⟩,hI.dF,hI.lg,hI.defers,lT,dv,aM⟩
theorem aP.P4{St bS:Nat→Nat→Prop}(h:∀b o,St b o→bS b o){base:Nat}{O:Nat→Nat→Nat→Prop}{x:SV}{v:Value}(r:aP W St base O x v){O':Nat→Nat→Nat→Prop}(hO:∀b a c,O b a c→O' b a c):aP W bS base O' x v:=
 r.mono (fun b o hs=>⟨h b o hs,.refl _ _ _⟩) (fun _ _ _=>rfl) _ fun b a c ho=>⟨hO b a c ho,.refl _ _ _⟩
theorem Inv.ahg{w0:World}{ar:S0}{e:Env}{a:Act}{g:Gh}(hI:Inv gl w0 ar e a W g){S:Nat→Nat→Prop}(hS:∀b o,S b o→g.St b o∨(w0.heap.size≤b∧b<W.heap.size∧some b∉g.bx∧g.ow b=none))
  (lT:∀D o,ar.df D o→∀x,S D x→g.St D x):Inv gl w0 ar e a W {g with St:=fun b o=>g.St b o∨S b o}:=by
 have iO:∀p b a' c,fa w0.heap.size W g p b a' c→fa w0.heap.size W {g with St:=fun b o=>g.St b o∨S b o} p b a' c:=by
  rintro p b a' c ⟨h1,h2,h3,h4,h5⟩
  refine⟨h1,h2,h3,h4,fun o ho=>?_⟩
  rintro(h|h)
  ·exact h5 o ho h
  ·rcases hS b o h with h|⟨_,_,_,h⟩
   ·exact h5 o ho h
   ·rw[h1]at h;cases h
 refine⟨hI.below,hI.size,fun i s hs=>?_,hI.fQ,fun b bx ao h1 h2=>?_,hI.nodup,fun b o h=>.inl (hI.gU b o h),fun b o h=>?_,hI.dF,?_,hI.defers,
  fun D o hD=>(have h:=hI.fT D o hD;⟨h.1,h.2.1,h.2.2.1,fun x hx=>h.2.2.2 x (hx.elim id (lT D o hD x))⟩),fun b o v hv=>⟨.inl (hI.cls b o v hv).1,(hI.cls b o v hv).2⟩,hI.kD⟩
 ·exact(hI.ak i s hs).mono (fun b o h=>⟨.inl h,.refl _ _ _⟩) (fun _ _ _=>rfl) (fun _ _ h=>h) (.refl _) fun j b a' c h=>⟨iO _ b a' c h,.refl _ _ _⟩
 ·have lS:=hI.boxes b bx ao h1 h2
  cases bx with
  |none=>exact lS.elim
  |map l=>
   obtain⟨h0,es,clock,hh,hl,bw⟩:=lS
   exact⟨h0,es,clock,hh,hl,fun i x y hx hy=>⟨(bw i x y hx hy).1,(bw i x y hx hy).2.1,(bw i x y hx hy).2.2.mono fun b o h=>⟨.inl h,rfl⟩⟩⟩
  |cells cs=>
   obtain⟨h0,c,t,hh,bY,hl,bw⟩:=lS
   exact⟨h0,c,t,hh,bY,hl,fun j x y hx hy=>(bw j x y hx hy).P4 (fun _ _ h=>.inl h) (fun b' a' c' h=>iO _ b' a' c' h)⟩
  |one s=>
   obtain⟨h0,c,t,hh,bY,hl,bw⟩:=lS
   exact⟨h0,c,t,hh,bY,hl,fun y hy=>(bw y hy).mono (fun b o h=>⟨.inl h,.refl _ _ _⟩) (fun _ _ _=>rfl) (fun _ _ h=>h) (.refl _) fun _ b' a' c' h=>⟨iO _ b' a' c' h,.refl _ _ _⟩⟩
 ·rcases h with h|h
  ·exact hI.cW b o h
  ·rcases hS b o h with h|⟨h1,h2,h3,_⟩
   ·exact hI.cW b o h
   ·exact⟨.inr h1,h3,h2⟩
 ·intro n x hx
  obtain⟨h0,vs,h1,h2⟩:=hI.lg n x hx
  exact⟨h0,vs,fun i hi=>⟨(h1 i hi).1,.inl (h1 i hi).2⟩,fun i c iI=>(h2 i c iI).mono fun b o h=>⟨.inl h,rfl⟩⟩
end
end Go.Proofs.Ytimbllcalipehaa.Ab
set_option linter.unusedVariables false
set_option linter.unusedSimpArgs false
namespace Go.Proofs.Ytimbllcalipehaa.Ab
open Go Go.RowKit
structure yw(Fr:Nat→Prop)(dw:Nat→Nat→Prop)(W W':World):Prop where
 os:W'.os=W.os
 tape:W'.tape=W.tape
 output:W'.output=W.output
 size:W.heap.size≤W'.heap.size
 ao:∀b,b<W.heap.size→¬Fr b→W'.heap[b]? =W.heap[b]?
 jG:∀b o v,dw b o→W.cell? ⟨b,o,none⟩=some v→W'.cell? ⟨b,o,none⟩=some v
def Iter(P:Program)(gl:Nat→Option D)(f:FuncId)(cap:List SV)(L:List D):Prop:=n0 P f∧
 ∀(w:World)(St:Nat→Nat→Prop)(l:Nat)(vs:Array Value),(∀b o,St b o→b<w.heap.size)→yr gl w St→cap.length=vs.size→
  (∀(i:Nat)x v,cap[i]? =some x→vs[i]? =some v→aP w St w.heap.size (fun _ _ _=>False) x v)→
  ∀(J:Option Unit→(Nat→Prop)→(Nat→Nat→Prop)→List D→World→Prop),
   (∀q Fr dw pre W W' pj tT,J q Fr dw pre W→yw Fr dw W W'→(∀b,pj b→Fr b∨(W.heap.size≤b∧b<W'.heap.size))→(∀b,Fr b→pj b)→(∀b o,dw b o→tT b o)→
     (∀b o,tT b o→(dw b o∨pj b)∧b<W'.heap.size)→J q pj tT pre W')→
   (∀Fr dw pre d v W,J none Fr dw pre W→bh W dw d v→L[pre.length]? =some d→∃fn tmps assign body,(Instr.yield l #[v]).run P W=.ok (.round l fn tmps assign body) W∧
     ∀n,RoundIn Fence.wide n P l fn tmps assign body W fun e W'=>∃b,e=.returned (.bool b)∧yw (fun b=>¬Fr b) dw W W'∧J (bif b then none else some ()) Fr dw (pre++[d]) W')→
   J none (fun _=>False) St [] w→
   Calls P f (#[.func (.yield l) #[] #[]]++vs) w fun e W'=>(∃v,e=.returned v)∧∃Fr dw pre q,J q Fr dw pre W'∧(q=none→pre=L)
def Ma(o:Obj):Prop:=o.isCells=false∧∀es c,o≠.map es c
section
variable{W:World}{gl:Nat→Option D}
theorem aej{l:Nat}{o o':Obj}(h:W.heap[l]? =some o)(ho:o.isCells=false)(bQ:o'.isCells=false)(b off:Nat):(W.putObj l o').cell? ⟨b,off,none⟩=W.cell? ⟨b,off,none⟩:=by
 by_cases hb:b=l
 ·subst hb
  have h1:=World.putObj_heap_same (w:=W) (o:=o') (fL h)
  simp only[World.cell?,h,h1]
  cases o<;>cases o'<;>first|rfl|exact absurd (show true=false from ho) (by decide)|exact absurd (show true=false from bQ) (by decide)
 ·exact World.cell?_of_block (World.putObj_heap_other hb)
theorem Inv.other{w0:World}{ar:S0}{e:Env}{a:Act}{g:Gh}(hI:Inv gl w0 ar e a W g){l:Nat}{o o':Obj}(h:W.heap[l]? =some o)(ho:Ma o)(bQ:Ma o')(hl:w0.heap.size≤l)(lT:∀D ob,ar.df D ob→D≠l):
  Inv gl w0 ar e a (W.putObj l o') g:=by
 have aR:=aej h ho.1 bQ.1
 have dQ:∀b,b≠l→(W.putObj l o').heap[b]? =W.heap[b]? :=fun b hb=>World.putObj_heap_other hb
 have tF:∀(b:Nat)(c:Array Value)(t:TypeId)(p:Nat×Nat),W.heap[b]? =some (Obj.cells c t p)→(W.putObj l o').heap[b]? =some (Obj.cells c t p):=fun b c t p hb=>(dQ b (fun e=>by subst e;rw[h]at hb;cases hb;exact absurd (show true=false from ho.1) (by decide))).trans hb
 have Hh:∀(b:Nat)(es:Array MapEntry)(c:Nat),W.heap[b]? =some (Obj.map es c)→(W.putObj l o').heap[b]? =some (Obj.map es c):=fun b es c hb=>(dQ b (fun e=>by subst e;rw[h]at hb;cases hb;exact absurd rfl (ho.2 es c))).trans hb
 have gv:∀b off,qH W (W.putObj l o') b off:=fun b off=>⟨aR b off,fun es c hm=>Hh b es c hm⟩
 have bj:uV g W (W.putObj l o'):=fun b c ty _ hb=>⟨c,ty,tF b c ty _ hb,rfl⟩
 have iO:∀p b a' c,fa w0.heap.size W g p b a' c→fa w0.heap.size (W.putObj l o') g p b a' c∧wE W (W.putObj l o') b a':=by
  rintro p b a' c ⟨h1,h2,h3,⟨cur,t,h4,h5⟩,h6⟩
  exact⟨⟨h1,h2,h3,⟨cur,t,tF b _ _ _ h4,h5⟩,h6⟩,fun _=>(tF b _ _ _ h4).trans h4.symm⟩
 refine⟨hI.below.trans ⟨rfl,rfl,rfl,by simp,fun k hk=>dQ k (by omega)⟩,hI.size,fun i s hs=>?_,hI.fQ,fun b bx ao h1 h2=>?_,hI.nodup,hI.gU,fun b o h=>?_,fun b h=>?_,?_,hI.defers,
  fun D ob hD=>(have h:=hI.fT D ob hD;⟨h.1,h.2.1,(dQ D (lT D ob hD)).trans h.2.2.1,h.2.2.2⟩),fun b o v hv=>⟨(hI.cls b o v hv).1,(aR b o).trans (hI.cls b o v hv).2⟩,by simp;exact hI.kD⟩
 ·exact(hI.ak i s hs).mono (fun b o h=>⟨h,gv b o⟩) (fun b o _=>aR b o) (fun _ _ h=>h) bj fun j b a' c h=>iO _ b a' c h
 ·have lS:=hI.boxes b bx ao h1 h2
  cases bx with
  |none=>exact lS.elim
  |map l=>
   obtain⟨h0,es,clock,hh,hl,bw⟩:=lS
   exact⟨h0,es,clock,Hh _ _ _ hh,hl,fun i x y hx hy=>⟨(bw i x y hx hy).1,(bw i x y hx hy).2.1,(bw i x y hx hy).2.2.mono fun b o h=>⟨h,aR b o⟩⟩⟩
  |cells cs=>
   obtain⟨h0,c,t,hh,bY,hl,bw⟩:=lS
   exact⟨h0,c,t,tF _ _ _ _ hh,bY,hl,fun j x y hx hy=>(bw j x y hx hy).mono (fun b o h=>⟨h,gv b o⟩) (fun b o _=>aR b o) _ fun b' a' c' h=>iO _ b' a' c' h⟩
  |one s=>
   obtain⟨h0,c,t,hh,bY,hl,bw⟩:=lS
   exact⟨h0,c,t,tF _ _ _ _ hh,bY,hl,fun y hy=>(bw y hy).mono (fun b o h=>⟨h,gv b o⟩) (fun b o _=>aR b o) (fun _ _ h=>h) bj fun _ b' a' c' h=>iO _ b' a' c' h⟩
 ·have:=hI.cW b o h
  exact⟨this.1,this.2.1,by simp;exact this.2.2⟩
 ·have:=hI.dF b h
  exact⟨this.1,by simp;exact this.2⟩
 ·intro n x hx
  obtain⟨h0,vs,h1,h2⟩:=hI.lg n x hx
  exact⟨h0,vs,fun i hi=>⟨(aR _ _).trans (h1 i hi).1,(h1 i hi).2⟩,fun i c iI=>(h2 i c iI).mono fun b o h=>⟨h,aR b o⟩⟩
theorem Inv.norm{w0:World}{ar:S0}{e:Env}{a:Act}{g:Gh}(hI:Inv gl w0 ar e a W g):Inv gl w0 ar e a W {g with ow:=fun b=>if b<W.heap.size then g.ow b else none}:=by
 have iO:∀p b a' c,fa w0.heap.size W g p b a' c→fa w0.heap.size W {g with ow:=fun b=>if b<W.heap.size then g.ow b else none} p b a' c:=by
  rintro p b a' c ⟨h1,h2,h3,h4,h5⟩
  have aO:b<W.heap.size:=by obtain⟨cur,t,h,_⟩:=h4;exact fL h
  exact⟨by simp only;rw[if_pos aO];exact h1,h2,h3,h4,h5⟩
 refine⟨hI.below,hI.size,fun i s hs=>?_,hI.fQ,fun b bx ao h1 h2=>?_,hI.nodup,hI.gU,hI.cW,hI.dF,hI.lg,hI.defers,fun D ob hD=>(have h:=hI.fT D ob hD;⟨h.1,by simp only;split;exact h.2.1;rfl,h.2.2⟩),hI.cls,hI.kD⟩
 ·exact(hI.ak i s hs).mono (fun b o h=>⟨h,.refl _ _ _⟩) (fun _ _ _=>rfl) (fun _ _ h=>h) (.refl _) fun j b a' c h=>⟨iO _ b a' c h,.refl _ _ _⟩
 ·have lS:=hI.boxes b bx ao h1 h2
  cases bx with
  |none=>exact lS.elim
  |map l=>exact lS
  |cells cs=>
   obtain⟨h0,c,t,hh,bY,hl,bw⟩:=lS
   exact⟨h0,c,t,hh,bY,hl,fun j x y hx hy=>(bw j x y hx hy).P4 (fun _ _ h=>h) (fun b' a' c' h=>iO _ b' a' c' h)⟩
  |one s=>
   obtain⟨h0,c,t,hh,bY,hl,bw⟩:=lS
   exact⟨h0,c,t,hh,bY,hl,fun y hy=>(bw y hy).mono (fun b o h=>⟨h,.refl _ _ _⟩) (fun _ _ _=>rfl) (fun _ _ h=>h) (.refl _) fun _ b' a' c' h=>⟨iO _ b' a' c' h,.refl _ _ _⟩⟩
def W7:SV→Bool
 | .own _ _=>false
 | .aZ _ _=>false
 | .nest _=>false
 |_=>true
theorem aP.free{w:World}{St:Nat→Nat→Prop}{base:Nat}{O O':Nat→Nat→Nat→Prop}{x:SV}{v:Value}(r:aP w St base O x v)(h:W7 x=true):aP w St base O' x v:=by
 cases r with
 |d _ x v hd=>exact .d _ x v hd
 |own=>cases h
 |full _ sz L g hd=>exact .full _ sz L g hd
 |ref _ cs off b o vs fh aR hc=>exact .ref _ cs off b o vs fh aR hc
 |cU _ n sz cs b cap vs fh hn hm aR hc=>exact .cU _ n sz cs b cap vs fh hn hm aR hc
 |aX _ x off b o vs hf aR hc=>exact .aX _ x off b o vs hf aR hc
 |dT _ f first cap fv cv hf hc rf rc=>exact .dT _ f first cap fv cv hf hc rf rc
 |aZ=>cases h
 |nest=>cases h
 |mp _ l r es clock hh hs hl hc=>exact .mp _ l r es clock hh hs hl hc
 |undef _ v=>exact .undef _ _
def yL(n:Nat):Slot→Bool
 | .v x=>W7 x&&x.re&&x.aD
 | .p b _=>Nat.blt b n
 | .m b=>Nat.blt b n
 |_=>false
def mO(n:Nat):af→Bool
 | .one (.p b _)=>Nat.blt b n
 | .one (.m b)=>Nat.blt b n
 | .one _=>false
 | .cells cs=>cs.all fun x=>x.re&&x.aD
 |_=>true
def Hi:Slot→Bool
 | .v _=>false
 |_=>true
end
end Go.Proofs.Ytimbllcalipehaa.Ab
set_option linter.unusedVariables false
set_option linter.unusedSimpArgs false
namespace Go.Proofs.Ytimbllcalipehaa.Ab
open Go Go.RowKit
section
variable{P:Program}{gl:Nat→Option D}{hh:Hints}{n:Nat}
def Ex.code:Ex→Option Code
 | .normal =>none
 | .exit i=>some (.exit i)
 | .ret =>some .ret
theorem aek{n:Nat}{l:List af}(h:l.all (mO n)=true){i:Nat}{bx:af}(hi:l[i]? =some bx):mO n bx=true:=List.all_eq_true.1 h bx (List.mem_of_getElem? hi)
theorem qX.cut{base:Nat}{w:World}{g:Gh}{n b:Nat}{bx:af}{ao:Nat}(r:qX base w g b bx ao)(h:mO n bx=true):qX base w (g.cut n) b bx ao:=by
 cases bx with
 |none=>exact r.elim
 |map l=>exact r
 |cells cs=>
  obtain⟨h0,c,t,hh,bY,hl,bw⟩:=r
  exact⟨h0,c,t,hh,bY,hl,fun j x y hx hy=>(bw j x y hx hy).P4 (fun _ _ h=>h) (fun b' a' c' h=>OT h)⟩
 |one s=>
  obtain⟨h0,c,t,hh,bY,hl,bw⟩:=r
  refine⟨h0,c,t,hh,bY,hl,fun y hy=>?_⟩
  have:=bw y hy
  cases s with
  |p b' off=>
   have hb:b'<n:=by simpa[mO,Nat.blt_eq]using h
   cases this with
   |p _ _ _ qY eC=>exact .p _ _ _ _ ((F8 hb).2 eC)
  |m b'=>
   have hb:b'<n:=by simpa[mO,Nat.blt_eq]using h
   cases this with
   |m _ _ qY eC=>exact .m _ _ _ ((F8 hb).2 eC)
  |_=>simp[mO]at h
structure zD(P:Program)(gl:Nat→Option D)(w0:World)(eZ:S0)(St:Nat→Nat→Prop)(base l Dd:Nat)(rec:Loop)(sh:List Slot)(aC:Act)(I:List af→Prop)(Fr:Nat→Prop)(dw:Nat→Nat→Prop)(W:World)(aF:List af)(g:Gh):Prop where
 inv:Inv gl w0 eZ ⟨sh,aF⟩ aC W g
 i:I aF
 low:aF.all (mO aF.length)=true
 bx:∀b,some b∈g.bx→¬Fr b
 ow:∀b p,g.ow b=some p→b<W.heap.size∧¬Fr b
 st:∀b o,g.St b o→dw b o∨¬Fr b
 CS:∀b o,St b o→dw b o∧g.St b o
 jG:∀b o,dw b o→(St b o∨Fr b)∧b<W.heap.size
 fr:∀b,Fr b→base≤b∧b<W.heap.size∧b≠l∧b≠Dd
 Cl:W.heap[l]? =some (.loop rec)
 dd:W.heap[Dd]? =some (.deferred (some []))
 lo:∀b,b=l∨b=Dd→some b∉g.bx∧g.ow b=none∧∀o,¬g.St b o
theorem Vx{sh:List Slot}{m:Nat}(bj:sh.all (yL m)=true){aF:List af}{k:Nat}(ko:aF.all (mO k)=true):Kr ⟨sh,aF⟩:=by
 refine⟨fun s hs=>?_,fun bx hb=>?_⟩
 ·have:=List.all_eq_true.1 bj s hs
  cases s with
  |v x=>simp only[yL,Bool.and_eq_true]at this;exact .v _ this.1.2 this.2
  |p b off=>exact .p _ _
  |m b=>exact .m _
  |_=>simp[yL]at this
 ·have:=List.all_eq_true.1 ko bx hb
  cases bx with
  |none=>trivial
  |map l=>trivial
  |cells cs=>
   simp only[mO,List.all_eq_true,Bool.and_eq_true]at this
   exact⟨z7.2 fun x hx=>(this x hx).1,uN.2 fun x hx=>(this x hx).2⟩
  |one s=>
   cases s with
   |p b off=>exact .p _ _
   |m b=>exact .m _
   |_=>simp[mO]at this
theorem zD.P5{w0:World}{eZ:S0}{St:Nat→Nat→Prop}{base l Dd:Nat}{rec:Loop}{sh:List Slot}{aC:Act}{I:List af→Prop}{Fr:Nat→Prop}{dw:Nat→Nat→Prop}{W:World}{aF:List af}{g:Gh}
  (h:zD P gl w0 eZ St base l Dd rec sh aC I Fr dw W aF g){m:Nat}(bj:sh.all (yL m)=true)(D5:w0.heap.size≤base)(CT:l<base∧Dd<base)(lT:∀D o,eZ.df D o→D<base){W':World}{pj:Nat→Prop}{tT:Nat→Nat→Prop}(hb:yw Fr dw W W')
  (H8:base≤W.heap.size)(f1:∀b,pj b→Fr b∨(W.heap.size≤b∧b<W'.heap.size))(f2:∀b,Fr b→pj b)(p1:∀b o,dw b o→tT b o)(p2:∀b o,tT b o→(dw b o∨pj b)∧b<W'.heap.size):
  zD P gl w0 eZ St base l Dd rec sh aC I pj tT W' aF g:=by
 have aM:=hb.size
 have hI:=h.inv
 have vw:∀b,b<W.heap.size→¬Fr b→¬pj b:=fun b aO hn hf=>(f1 b hf).elim hn fun h=>by omega
 have bf:∀b,b=l∨b=Dd→b<W.heap.size∧¬Fr b:=fun b hb=>by
  refine⟨?_,fun hf=>?_⟩
  ·rcases hb with rfl|rfl
   ·exact fL h.Cl
   ·exact fL h.dd
  ·have:=h.fr b hf
   rcases hb with rfl|rfl
   ·exact this.2.2.1 rfl
   ·exact this.2.2.2 rfl
 have X7:∀b,b<base→b<W.heap.size→W'.heap[b]? =W.heap[b]? :=fun b aO mh=>hb.ao b mh fun hf=>by have:=(h.fr b hf).1;omega
 have bt:Inv gl w0 eZ ⟨sh,aF⟩ aC W' g:=by
  refine hI.move (Vx bj h.low) rfl (hI.below.trans ⟨hb.os,hb.tape,hb.output,hb.size,fun k hk=>?_⟩) hb.size (fun b o v hs hc=>?_) (fun b hm=>hb.ao b (hI.dF b hm).2 (h.bx b hm)) (fun b p ho _ aO=>hb.ao b aO (h.ow b p ho).2) (fun D o hD=>?_)
  ·have:=hI.below.size
   exact X7 k (by omega) (by omega)
  ·rcases h.st b o hs with hp|hn
   ·exact hb.jG b o v hp hc
   ·rw[World.cell?_of_block (hb.ao b (hI.cW b o hs).2.2 hn)];exact hc
  ·have h1:=fL (hI.fT D o hD).2.2.1
   exact X7 D (lT D o hD) h1
 refine⟨bt,h.i,h.low,fun b hm=>vw b (hI.dF b hm).2 (h.bx b hm),fun b p ho=>?_,fun b o hs=>?_,fun b o hs=>⟨p1 b o (h.CS b o hs).1,(h.CS b o hs).2⟩,fun b o hp=>?_,fun b hf=>?_,?_,?_,h.lo⟩
 ·have:=h.ow b p ho
  exact⟨by omega,vw b this.1 this.2⟩
 ·rcases h.st b o hs with hp|hn
  ·exact .inl (p1 b o hp)
  ·exact .inr (vw b (hI.cW b o hs).2.2 hn)
 ·obtain⟨h1,h2⟩:=p2 b o hp
  refine⟨?_,h2⟩
  rcases h1 with h1|h1
  ·exact(h.jG b o h1).1.imp id (f2 b)
  ·exact .inr h1
 ·rcases f1 b hf with mS|mS
  ·have:=h.fr b mS;exact⟨this.1,by omega,this.2.2⟩
  ·exact⟨by omega,mS.2,fun e=>by have:=(bf b (.inl e)).1;omega,fun e=>by have:=(bf b (.inr e)).1;omega⟩
 ·rw[hb.ao l (bf l (.inl rfl)).1 (bf l (.inl rfl)).2];exact h.Cl
 ·rw[hb.ao Dd (bf Dd (.inr rfl)).1 (bf Dd (.inr rfl)).2];exact h.dd
theorem bh.GV{W W':World}{St bS:Nat→Nat→Prop}(hc:∀b o v,St b o→W.cell? ⟨b,o,none⟩=some v→W'.cell? ⟨b,o,none⟩=some v∧bS b o){x:D}{v:Value}(r:bh W St x v):bh W' bS x v:=by
 induction r with
 |bool b=>exact .bool b
 |int k n hk=>exact .int k n hk
 |str s hs=>exact .str s hs
 |agg ds vs hf hl _ ih=>exact .agg ds vs hf hl ih
 |jU sz=>exact .jU sz
 |sl sz L b off cap vs bM hm aM hf aR _ ih=>exact .sl sz L b off cap vs bM hm aM hf (fun o ho=>hc _ _ _ (aR o ho).2 (aR o ho).1) ih
 |mr sz a cap ha=>exact .mr sz a cap ha
 |fn f=>exact .fn f
 |wU=>exact .wU
 |iface t x v _ ih=>exact .iface t x v ih
 |wV=>exact .wV
 |nZ=>exact .nZ
theorem aP.GV{W W':World}{St bS:Nat→Nat→Prop}{base:Nat}(hc:∀b o v,St b o→W.cell? ⟨b,o,none⟩=some v→W'.cell? ⟨b,o,none⟩=some v∧bS b o){O:Nat→Nat→Nat→Prop}(hO:∀b a c,¬O b a c){x:SV}{v:Value}(r:aP W St base O x v):
  x.re=true→x.aD=true→aP W' bS base (fun _ _ _=>False) x v:=by
 induction r with
 |d O x v hd=>exact fun _ _=>.d _ x v (hd.GV hc)
 |own O sz L g cap hd bM ho=>exact absurd ho (hO _ _ _)
 |full O sz L a hd=>exact fun _ _=>.full _ sz L a (hd.GV hc)
 |ref O cs off b o vs fh aR _ ih=>exact fun _ hr=>by cases hr
 |cU O n sz cs b cap vs fh hn hm aR _ ih=>exact fun _ hr=>by cases hr
 |aX O x off b o vs hf aR ei=>exact fun _ _=>.aX _ x off b o vs hf (fun i hi=>hc _ _ _ (aR i hi).2 (aR i hi).1) fun i c hi=>(ei i c hi).GV hc
 |dT O f first cap fv cv hf dv _ _ kB kC=>
  intro hn hr
  simp only[SV.re,SV.aD,Bool.and_eq_true]at hn hr
  exact .dT _ f first cap fv cv hf dv (fun i x v a b=>kB i x v a b (fun _ _ _ h=>h) (z7.1 hn.1 x (List.mem_of_getElem? a)) (uN.1 hr.1 x (List.mem_of_getElem? a))) (fun i x v a b=>kC i x v a b (fun _ _ _ h=>h) (z7.1 hn.2 x (List.mem_of_getElem? a)) (uN.1 hr.2 x (List.mem_of_getElem? a)))
 |aZ O sz L g cap vs bM hm aM hf ho aR ei=>exact absurd ho (hO _ _ _)
 |mp O l r es clock hh hs hl ei=>exact fun hn=>by cases hn
 |nest O LL gg cap bk cp h1 h2 h3 h4 h5 h6=>exact absurd h3 (hO _ _ _)
 |undef O v=>exact fun _ _=>.undef _ v
def Ei(eZ:S0)(Fr:Nat→Prop)(dw:Nat→Nat→Prop)(W:World)(g:Gh)(l Dd:Nat)(rec:Loop):S0 where
 St:=fun b o=>eZ.St b o∨dw b o
 df:=fun D o=>eZ.df D o∨(Fr D∧W.heap[D]? =some o)∨(D=l∧o=.loop rec)∨(D=Dd∧o=.deferred (some []))
 cl:=fun b o v=>(g.St b o∨dw b o)∧W.cell? ⟨b,o,none⟩=some v
 sz:=W.heap.size
theorem JK(r:Loop):Ma (.loop r):=⟨rfl,fun _ _=>by simp⟩
theorem W8(d:Option (List Deferred)):Ma (.deferred d):=⟨rfl,fun _ _=>by simp⟩
theorem Inv.YT{w0:World}{eZ:S0}{Fr:Nat→Prop}{dw:Nat→Nat→Prop}{W W1:World}{g g1:Gh}{l Dd:Nat}{rec Hj:Loop}{e:Env}{a:Act}(hI:Inv gl w0 (Ei eZ Fr dw W g l Dd rec) e a W1 g1)(hl:w0.heap.size≤l)(bf:l≠Dd)(hFr:¬Fr l)
  (lT:∀D o,eZ.df D o→D≠l)(Hk:∀o,¬(eZ.St l o∨dw l o)):Inv gl w0 (Ei eZ Fr dw W g l Dd Hj) e a (W1.putObj l (.loop Hj)) g1:=by
 have hr:=hI.fT l (.loop rec) (.inr (.inr (.inl ⟨rfl,rfl⟩)))
 have h1:Inv gl w0 {Ei eZ Fr dw W g l Dd rec with df:=fun D o=>eZ.df D o∨(Fr D∧W.heap[D]? =some o)∨(D=Dd∧o=.deferred (some []))} e a W1 g1:=
  hI.xL hI.gU (fun b o h=>(hI.cW b o h).1) (fun D o hD=>hI.fT D o (by
   rcases hD with h|h|h
   ·exact .inl h
   ·exact .inr (.inl h)
   ·exact .inr (.inr (.inr h)))) hI.cls hI.kD
 have h2:=h1.other hr.2.2.1 (JK _) (JK Hj) hl (fun D ob hD=>by
  rcases hD with h|⟨h,_⟩|⟨h,_⟩
  ·exact lT D ob h
  ·exact fun e=>hFr (e▸h)
  ·exact fun e=>bf (by rw[←e,h]))
 refine h2.xL h2.gU (fun b o h=>(h2.cW b o h).1) (fun D o hD=>?_) h2.cls h2.kD
 rcases hD with h|h|⟨rfl,rfl⟩|h
 ·exact h2.fT D o (.inl h)
 ·exact h2.fT D o (.inr (.inl h))
 ·exact⟨hr.1,hr.2.1,World.putObj_heap_same (fL hr.2.2.1),fun x hx=>hr.2.2.2 x hx⟩
 ·exact h2.fT D o (.inr (.inr h))
theorem zD.round(hm:P.follows .mixedOrders =true){w0:World}{eZ:S0}{St:Nat→Nat→Prop}{base l Dd:Nat}{rec:Loop}{sh:List Slot}{aC:Act}{I:List af→Prop}{Fr:Nat→Prop}{dw:Nat→Nat→Prop}{W:World}{aF:List af}{g:Gh}
  (h:zD P gl w0 eZ St base l Dd rec sh aC I Fr dw W aF g)(bj:sh.all (yL aF.length)=true)(D5:w0.heap.size≤l∧w0.heap.size≤Dd)(CT:l<base∧Dd<base∧l≠Dd)(lT:∀D o,eZ.df D o→D<base∧D≠l∧D≠Dd)(va:∀b o,eZ.St b o→b<base∧b≠l∧b≠Dd)(aY:∀b o,St b o→b≠l∧b≠Dd)
  {ps:Nat}(hrt:rec.tmps=aC.tmps)(hrp:rec.params= #[ps])(R2:rec.state=.ready)(hrn:rec.pending=none){d:D}{v:Value}(hd:bh W dw d v){I':Ex→List af→Prop}
  (ja:∀(t:Nat)s,sh[t]? =some s→Hi s=true→t∉da hh.gh rec.assign∧t∉da hh.gh rec.body∧t≠ps)
  (Lg:aw P gl (aG P gl) hh rec.assign (fun x e1=>x=.normal ∧aw P gl (aG P gl) hh rec.body (fun x e2=>(e2.boxes.take aF.length).all (mO aF.length)=true∧I' x (e2.boxes.take aF.length)) e1) ⟨cS sh (some ps) (.v (.d d)),aF⟩):
  ∃tmps,(Instr.yield l #[v]).run P W=.ok (.round l rec.fn tmps rec.assign rec.body) W∧∀n,RoundIn Fence.wide n P l rec.fn tmps rec.assign rec.body W fun e W'=>∃x:Ex,e=.returned (.bool x.code.isNone)∧yw (fun b=>¬Fr b) dw W W'∧
   ∃dP g',dP.length=aF.length∧zD P gl w0 eZ St base l Dd {rec with state:=if x.code.isNone then .ready else .done,pending:=x.code} sh aC (I' x) Fr dw W' dP g':=by
 have hI:=h.inv
 refine⟨_,run_yield h.Cl (by rw[hrp];rfl),fun n=>roundIn_of_wpIn trivial ?_⟩
 have hdC:=hI.defers
 have hlW:=fL h.Cl
 have hdW:=fL h.dd
 have QD:({tmps:=(rec.params.zip #[v]).foldl (fun tmps x=>tmps.setIfInBounds x.1 x.2) rec.tmps,defers:=[]}:Act)=wd (aC.put (some ps) v) []:=by
  rw[hrp,hrt]
  cases aC
  simp[wd,Act.put]
 show rec.assign.wpIn (Fence.wide.inRound l) n P _ {tmps:=(rec.params.zip #[v]).foldl (fun tmps x=>tmps.setIfInBounds x.1 x.2) rec.tmps,defers:=[]} W
 rw[QD,←afO]
 have gv:∀b o,dw b o→b≠l∧b≠Dd:=fun b o hp=>by
  rcases(h.jG b o hp).1 with hs|hf
  ·exact aY b o hs
  ·exact(h.fr b hf).2.2
 have dn:=hI.ahg (S:=dw) (fun b o hp=>by
  rcases(h.jG b o hp).1 with hs|hf
  ·exact .inl (h.CS b o hs).2
  ·have mS:=h.fr b hf
   refine .inr ⟨by omega,mS.2.1,fun hm=>h.bx b hm hf,?_⟩
   cases ue:g.ow b with
   |none=>rfl
   |some p=>exact absurd hf (h.ow b p ue).2) (fun D o hD x hx=>by
  rcases(h.jG D x hx).1 with hs|hf
  ·exact(h.CS D x hs).2
  ·have:=(h.fr D hf).1
   have:=(lT D o hD).1
   omega)
 have cq:Inv gl w0 (Ei eZ Fr dw W g l Dd rec) ⟨sh,aF⟩ aC W {g with St:=fun b o=>g.St b o∨dw b o}:=by
  refine dn.xL (fun b o hs=>hs.imp (hI.gU b o) id) (fun b o hs=>?_) (fun D o hD=>?_) (fun b o v hv=>hv) (Nat.le_refl _)
  ·rcases(dn.cW b o hs).1 with h1|h1
   ·exact .inl (.inl h1)
   ·exact .inr h1
  ·rcases hD with h1|⟨h1,h2⟩|⟨rfl,rfl⟩|⟨rfl,rfl⟩
   ·have:=dn.fT D o h1
    exact⟨this.1,this.2.1,this.2.2.1,fun x hx=>.inl (this.2.2.2 x hx)⟩
   ·refine⟨fun hm=>h.bx D hm h1,?_,h2,fun x hx=>?_⟩
    ·cases ue:g.ow D with
     |none=>rfl
     |some p=>exact absurd h1 (h.ow D p ue).2
    ·rcases hx with hx|hx
     ·exact .inr ((h.st D x hx).resolve_right fun hn=>hn h1)
     ·exact .inr hx
   ·have:=h.lo D (.inl rfl)
    exact⟨this.1,this.2.1,h.Cl,fun x hx=>hx.elim (fun hx=>absurd hx (this.2.2 x)) fun hx=>absurd rfl (gv D x hx).1⟩
   ·have:=h.lo D (.inr rfl)
    exact⟨this.1,this.2.1,h.dd,fun x hx=>hx.elim (fun hx=>absurd hx (this.2.2 x)) fun hx=>absurd rfl (gv D x hx).2⟩
 have gm:Inv gl w0 (Ei eZ Fr dw W g l Dd rec) ⟨cS sh (some ps) (.v (.d d)),aF⟩ (aC.put (some ps) v) W {g with St:=fun b o=>g.St b o∨dw b o}:=
  cq.value (dst:=some ps) (.v _ _ _ (.d _ _ _ (hd.mono fun b o hp=>⟨.inr hp,rfl⟩)))
 refine tz hm rec.assign gm (tB _ Lg) fun x e1 a1 w1 g1 Mb hQ1 jr=>?_
 replace jr:=jr.any (gh:=hh.gh)
 obtain⟨⟨rfl,kh⟩,Zt⟩:=hQ1
 have ER:=Mb.fT l (.loop rec) (.inr (.inr (.inl ⟨rfl,rfl⟩)))
 refine⟨_,run_beginRound ER.2.2.1 R2,?_⟩
 have hFl:¬Fr l:=fun hf=>(h.fr l hf).2.2.1 rfl
 have hFD:¬Fr Dd:=fun hf=>(h.fr Dd hf).2.2.2 rfl
 have Hk:∀o,¬(eZ.St l o∨dw l o):=fun o hx=>hx.elim (fun hx=>(va l o hx).2.1 rfl) (fun hx=>(gv l o hx).1 rfl)
 have lz:=Mb.YT (Hj:={rec with state:=.busy}) D5.1 CT.2.2 hFl (fun D o hD=>(lT D o hD).2.1) Hk
 refine tz hm rec.body lz (tB _ kh) fun x e2 a2 w3 g2 Mc hQ2 jd=>?_
 replace jd:=jd.any (gh:=hh.gh)
 obtain⟨⟨YU,A0⟩,Zu⟩:=hQ2
 have R7:=Mc.fT l _ (.inr (.inr (.inl ⟨rfl,rfl⟩)))
 have pQ:=run_endRound (P:=P) x.code R7.2.2.1
 have pk:=Mc.YT (Hj:={rec with state:=if x.code.isNone then .ready else .done,pending:=x.code}) D5.1 CT.2.2 hFl (fun D o hD=>(lT D o hD).2.1) Hk
 have akX:W.heap.size≤w3.heap.size:=Mc.kD
 have EX:yw (fun b=>¬Fr b) dw W (w3.putObj l (.loop {rec with state:=if x.code.isNone then .ready else .done,pending:=x.code})):=by
  refine⟨pk.below.os.trans hI.below.os.symm,pk.below.tape.trans hI.below.tape.symm,pk.below.output.trans hI.below.output.symm,by simp;exact akX,fun b hb hf=>?_,fun b o v hp hc=>(pk.cls b o v ⟨.inr hp,hc⟩).2⟩
  have hf:=Classical.not_not.1 hf
  have zE:W.heap[b]? =some W.heap[b]:=by simp[hb]
  rw[zE]
  exact(pk.fT b _ (.inr (.inl ⟨hf,zE⟩))).2.2.1
 have HL:aF.length≤e2.boxes.length:=Nat.le_trans Zt.2.1 Zu.2.1
 have eh:(e2.boxes.take aF.length).length =aF.length:=by simp;omega
 let W4:=w3.putObj l (.loop {rec with state:=if x.code.isNone then .ready else .done,pending:=x.code})
 let gc:Gh:=g2.cut aF.length
 have tF:∀b o v,g.St b o→W.cell? ⟨b,o,none⟩=some v→g2.St b o∧W4.cell? ⟨b,o,none⟩=some v:=fun b o v hs hc=>pk.cls b o v ⟨.inl hs,hc⟩
 have akY:∀b o,St b o→g2.St b o:=fun b o hs=>pk.gU b o (.inr (h.CS b o hs).1)
 have jq:∀(i:Nat)s,sh[i]? =some s→cE w0.heap.size W4 gc (fun _ _ _ _=>False) s (aC.tmps.getD i undef):=by
  intro i s hs
  have tJ:=List.all_eq_true.1 bj s (List.mem_of_getElem? hs)
  have h0:=hI.ak i s hs
  have ptr:Hi s=true→(∀z,s≠.v z)→(∀z,s≠.t z)→s.stays=s→cE w0.heap.size W4 gc (fun _ _ _ _=>False) s (aC.tmps.getD i undef):=by
   intro hp hv ht pV
   obtain⟨n1,n2,n3⟩:=ja i s hs hp
   have pZ:i<aC.tmps.size:=by rw[hI.size];exact(List.getElem?_eq_some_iff.1 hs).1
   have ht2:a2.tmps.getD i undef=aC.tmps.getD i undef:=by
    rw[jd i n2,jr i n1,Od _ _ _ _ pZ]
    rw[if_neg (by simp;exact fun e=>n3 e.symm)]
   have ahh:(e2.ak.getD i (.v .undef)).stays =s:=by
    rw[Zu.2.2.1 i n2,Zt.2.2.1 i n1]
    have:(cS sh (some ps) (.v (.d d))).getD i (.v .undef)=s:=by
     simp only[cS]
     rw[dk (fun e=>n3 e.symm),List.getD_eq_getElem?_getD,hs];rfl
    rw[this,pV]
   have lR:e2.ak.getD i (.v .undef)=s:=by
    revert ahh
    cases s with
    |v z=>exact absurd rfl (hv z)
    |t z=>exact absurd rfl (ht z)
    |_=>cases e2.ak.getD i (.v .undef)<;>simp[Slot.stays]<;>intros<;>simp_all
   have h1:=kb pk i
   rw[lR]at h1
   have oL:a2.eval (.tmp i)=a2.tmps.getD i undef:=rfl
   rw[oL,ht2]at h1
   exact FO h0 h1 (by rw[hI.fQ];exact Nat.le_refl _) _ hv ht
  cases s with
  |v z=>
   simp only[yL,Bool.and_eq_true]at tJ
   exact .v _ _ _ ((h0.jV.free (O':=fun _ _ _=>False) tJ.1.1).GV (fun b o v hs hc=>(tF b o v hs hc).symm) (fun _ _ _ h=>h) tJ.1.2 tJ.2)
  |p b off=>exact ptr rfl (by simp) (by simp) rfl
  |m b=>exact ptr rfl (by simp) (by simp) rfl
  |_=>simp[yL]at tJ
 have hnW:∀b,b<W.heap.size→b<W4.heap.size:=fun b hb=>Nat.lt_of_lt_of_le hb EX.size
 have zF:=pk.norm
 have hIc:Inv gl w0 eZ ⟨sh,e2.boxes.take aF.length⟩ aC W4 {g2.cut aF.length with ow:=fun b=>if b<W4.heap.size then g2.ow b else none}:=by
  refine⟨zF.below,hI.size,fun i s hs=>?_,?_,fun b bx ao h1 h2=>?_,fun i j ao h1 h2=>zF.nodup i j ao (Dh h1).2 (Dh h2).2,fun b o hs=>zF.gU b o (.inl hs),fun b o hs=>?_,fun b hb=>zF.dF b (yc hb),zF.lg,hI.defers,
   fun D o hD=>?_,fun b o v hv=>?_,Nat.le_trans hI.kD (Nat.le_trans Mc.kD (by simp[W4]))⟩
  ·exact(jq i s hs).mono (fun b o h=>⟨h,.refl _ _ _⟩) (fun _ _ _=>rfl) (fun _ _ h=>h) (.refl _) fun _ _ _ _ h=>h.elim
  ·show(g2.bx.take aF.length).length =_
   have:=pk.fQ
   rw[List.length_take,List.length_take,this]
  ·obtain⟨aO,h2⟩:=Dh h2
   have vv:e2.boxes[b]? =some bx:=by
    simp only[List.getElem?_take]at h1
    rw[if_pos aO]at h1;exact h1
   exact(zF.boxes b bx ao vv h2).cut (aek YU h1)
  ·obtain⟨h1,h2,h3⟩:=zF.cW b o hs
   refine⟨?_,fun hm=>h2 (yc hm),h3⟩
   rcases h1 with(h1|h1)|h1
   ·exact .inl h1
   ·exact(dn.cW b o (.inr h1)).1
   ·exact .inr h1
  ·have Bh:=zF.fT D o (.inl hD)
   refine⟨fun hm=>Bh.1 (yc hm),Bh.2.1,Bh.2.2.1,fun x hx=>?_⟩
   rcases Bh.2.2.2 x hx with h1|h1
   ·exact h1
   ·rcases(h.jG D x h1).1 with hs|hf
    ·exact(hI.fT D o hD).2.2.2 x (h.CS D x hs).2
    ·have:=(h.fr D hf).1
     have:=(lT D o hD).1
     omega
  ·have:=hI.cls b o v hv
   exact zF.cls b o v ⟨.inl this.1,this.2⟩
 have hR:zD P gl w0 eZ St base l Dd {rec with state:=if x.code.isNone then .ready else .done,pending:=x.code} sh aC (I' x) Fr dw W4 (e2.boxes.take aF.length) {g2.cut aF.length with ow:=fun b=>if b<W4.heap.size then g2.ow b else none}:=by
  have sO:∀b,Fr b→∃o,W.heap[b]? =some o:=fun b hf=>⟨W.heap[b]'(h.fr b hf).2.1,by simp⟩
  have nI:∀b,b=l∨b=Dd→∃o,(Ei eZ Fr dw W g l Dd {rec with state:=if x.code.isNone then .ready else .done,pending:=x.code}).df b o:=fun b hb=>by
   rcases hb with rfl|rfl
   ·exact⟨_,.inr (.inr (.inl ⟨rfl,rfl⟩))⟩
   ·exact⟨_,.inr (.inr (.inr ⟨rfl,rfl⟩))⟩
  refine⟨hIc,A0,by rw[eh];exact YU,fun b hm hf=>?_,fun b p ho=>?_,fun b o hs=>?_,fun b o hs=>⟨(h.CS b o hs).1,akY b o hs⟩,fun b o hp=>⟨(h.jG b o hp).1,hnW b (h.jG b o hp).2⟩,fun b hf=>⟨(h.fr b hf).1,hnW b (h.fr b hf).2.1,(h.fr b hf).2.2⟩,(pk.fT l _ (.inr (.inr (.inl ⟨rfl,rfl⟩)))).2.2.1,(pk.fT Dd _ (.inr (.inr (.inr ⟨rfl,rfl⟩)))).2.2.1,fun b hb=>?_⟩
  ·obtain⟨o,ho⟩:=sO b hf
   exact(pk.fT b o (.inr (.inl ⟨hf,ho⟩))).1 (yc hm)
  ·simp only at ho
   split at ho
   ·refine⟨by assumption,fun hf=>?_⟩
    obtain⟨o,zE⟩:=sO b hf
    rw[(pk.fT b o (.inr (.inl ⟨hf,zE⟩))).2.1]at ho
    cases ho
   ·cases ho
  ·by_cases hf:Fr b
   ·left
    obtain⟨ob,zE⟩:=sO b hf
    rcases(pk.fT b ob (.inr (.inl ⟨hf,zE⟩))).2.2.2 o hs with h1|h1
    ·have:=(va b o h1).1
     have:=(h.fr b hf).1
     omega
    ·exact h1
   ·exact .inr hf
  ·obtain⟨o,ho⟩:=nI b hb
   have Bh:=pk.fT b o ho
   refine⟨fun hm=>Bh.1 (yc hm),?_,fun x hx=>?_⟩
   ·simp only
    split
    ·exact Bh.2.1
    ·rfl
   ·rcases Bh.2.2.2 x hx with h1|h1
    ·rcases hb with rfl|rfl
     ·exact(va _ x h1).2.1 rfl
     ·exact(va _ x h1).2.2 rfl
    ·rcases hb with rfl|rfl
     ·exact(gv _ x h1).1 rfl
     ·exact(gv _ x h1).2 rfl
 have fin:∃x':Ex,(Ending.returned (Value.bool x.code.isNone))=.returned (.bool x'.code.isNone)∧yw (fun b=>¬Fr b) dw W W4∧
  ∃dP g',dP.length=aF.length∧zD P gl w0 eZ St base l Dd {rec with state:=if x'.code.isNone then .ready else .done,pending:=x'.code} sh aC (I' x') Fr dw W4 dP g':=⟨x,rfl,EX,_,_,eh,hR⟩
 cases x with
 |normal=>exact⟨_,_,pQ,fin⟩
 |exit i=>exact⟨_,_,pQ,fin⟩
 |ret=>exact⟨_,_,pQ,fin⟩
end
end Go.Proofs.Ytimbllcalipehaa.Ab
set_option linter.unusedVariables false
set_option linter.unusedSimpArgs false
namespace Go.Proofs.Ytimbllcalipehaa.Ab
open Go Go.RowKit
section
variable{P:Program}{gl:Nat→Option D}{hh:Hints}{n:Nat}
theorem aP.reb{w:World}{St:Nat→Nat→Prop}{base yI:Nat}{O:Nat→Nat→Nat→Prop}{x:SV}{v:Value}(r:aP w St base O x v)(hx:x.aD=true):aP w St yI O x v:=by
 induction r with
 |d O x v hd=>exact .d O x v hd
 |own O sz L g cap hd bM ho=>exact .own O sz L g cap hd bM ho
 |full O sz L a hd=>exact .full O sz L a hd
 |ref=>simp[SV.aD]at hx
 |cU=>simp[SV.aD]at hx
 |aX O x off b o vs hf aR hc=>exact .aX O x off b o vs hf aR hc
 |dT O f first cap fv cv hf hc _ _ kB kC=>
  simp only[SV.aD,Bool.and_eq_true]at hx
  exact .dT O f first cap fv cv hf hc (fun i x v a b=>kB i x v a b (uN.1 hx.1 x (List.mem_of_getElem? a))) (fun i x v a b=>kC i x v a b (uN.1 hx.2 x (List.mem_of_getElem? a)))
 |aZ O sz L g cap vs h1 h2 h3 h4 h5 h6 h7=>exact .aZ O sz L g cap vs h1 h2 h3 h4 h5 h6 h7
 |mp O l r es clock hh hs hl hc=>exact .mp O l r es clock hh hs hl hc
 |nest O LL gg cap bk cp h1 h2 h3 h4 h5 h6=>exact .nest O LL gg cap bk cp h1 h2 h3 h4 h5 h6
 |undef O v=>exact .undef O v
theorem Inv.drop{w0:World}{eZ:S0}{ak sh:List Slot}{aF:List af}{a:Act}{w:World}{g:Gh}(hI:Inv gl w0 eZ ⟨ak,aF⟩ a w g)(hl:sh.length=ak.length)
  (h:∀(i:Nat)s,sh[i]? =some s→s=.v .undef ∨∃s0,ak[i]? =some s0∧(s=s0∨s=s0.aa)):Inv gl w0 eZ ⟨sh,aF⟩ a w g:=by
 refine⟨hI.below,by rw[hI.size];exact hl.symm,fun i s hs=>?_,hI.fQ,hI.boxes,hI.nodup,hI.gU,hI.cW,hI.dF,hI.lg,hI.defers,hI.fT,hI.cls,hI.kD⟩
 rcases h i s hs with rfl|⟨s0,h0,rfl|rfl⟩
 ·exact .v _ _ _ (.undef _ _)
 ·exact hI.ak i s h0
 ·exact(hI.ak i s0 h0).aa
def S0.P6(eZ:S0)(Dd:Nat):S0:={eZ with df:=fun D o=>eZ.df D o∨(D=Dd∧o=.deferred (some []))}
def AG(I:Nat→List af→Prop)(X:Ex→List af→Prop)(k:Nat):Ex→List af→Prop
 | .normal =>I k
 |x=>X x
theorem aam(hm:P.follows .mixedOrders =true){w0:World}{eZ:S0}{sh:List Slot}{aF:List af}{aC:Act}{w:World}{g:Gh}(hI:Inv gl w0 eZ ⟨sh,aF⟩ aC w g)(bj:sh.all (yL aF.length)=true)(ko:aF.all (mO aF.length)=true)
  {CU:Operand}{it:FuncId}{cap:List SV}(hg:aP w g.St w0.heap.size (fun _ _ _=>False) (.dT (.func it) [] cap) (aC.eval CU))(bM:SV.iB cap=true){L:List D}(CA:Iter P gl it cap L)
  {ps:Nat}{assign body:Code}(ja:∀(t:Nat)s,sh[t]? =some s→Hi s=true→t∉da hh.gh assign∧t∉da hh.gh body∧t≠ps)
  (I:Nat→List af→Prop)(X:Ex→List af→Prop)(h0:I 0 aF)
  (Gx:∀(k:Nat)d dP,I k dP→L[k]? =some d→dP.length=aF.length→aw P gl (aG P gl) hh assign (fun x e1=>x=.normal ∧aw P gl (aG P gl) hh body (fun x e2=>(e2.boxes.take aF.length).all (mO aF.length)=true∧AG I X (k+1) x (e2.boxes.take aF.length)) e1) ⟨cS sh (some ps) (.v (.d d)),dP⟩)
  {Q:Exit→Act→World→Prop}(hQ:∀(x:Ex)dP w' g' Dd,AG I X L.length x dP→dP.length=aF.length→Inv gl w0 (eZ.P6 Dd) ⟨sh,dP⟩ aC w' g'→w0.heap.size≤Dd→(∀o,¬eZ.df Dd o)→(∀o,¬eZ.St Dd o)→Q x.to (wd aC [{target:=.collected Dd,args:= #[]}]) w'):
  (Code.rangeFunc CU #[ps] assign body).wpIn Fence.wide n P Q aC w:=by
 generalize hvg:aC.eval CU=vg at hg
 cases hg with
 |dT _ _ _ _ fv cv hf hc rf rc=>
  have zp:fv= #[]:=by
   have:fv.size=0:=by simpa using hf.symm
   exact Array.eq_empty_of_size_eq_zero this
  subst zp
  refine wpIn_rangeFunc fun fn _=>?_
  obtain⟨AH,P7⟩:∃AH:Loop,AH={state:=.ready,pending:=none,fn,tmps:=aC.tmps,params:= #[ps],assign,body,defers:=w.heap.size}:=⟨_,rfl⟩
  obtain⟨w1,Bi⟩:∃w1,(w.alloc (.deferred (some []))).alloc (.loop AH)=w1:=⟨_,rfl⟩
  have gk:w1.heap.size=w.heap.size+2:=by rw[←Bi];simp
  have hL1:w1.heap[w.heap.size+1]? =some (.loop AH):=by
   rw[←Bi]
   have:=World.alloc_heap_new (w.alloc (.deferred (some []))) (.loop AH)
   simpa using this
  have hD1:w1.heap[w.heap.size]? =some (.deferred (some [])):=by
   rw[←Bi,jw (w.alloc (.deferred (some []))) _ w.heap.size (by simp)]
   exact World.alloc_heap_new w _
  have hold:∀b,b<w.heap.size→w1.heap[b]? =w.heap[b]? :=fun b hb=>by
   rw[←Bi,jw (w.alloc (.deferred (some []))) _ b (by simp;omega),jw w _ b hb]
  have hle:w0.heap.size≤w.heap.size:=hI.below.size
  have ahi:∀b o,b<w.heap.size→w1.cell? ⟨b,o,none⟩=w.cell? ⟨b,o,none⟩:=fun b o hb=>World.cell?_of_block (hold b hb)
  have hIn:=hI.norm
  have dn:Inv gl w0 eZ ⟨sh,aF⟩ aC w1 {g with ow:=fun b=>if b<w.heap.size then g.ow b else none}:=
   hIn.move (Vx bj ko) rfl (hI.below.trans ⟨by rw[←Bi];rfl,by rw[←Bi];rfl,by rw[←Bi];rfl,by omega,fun k hk=>hold k (by omega)⟩) (by omega)
    (fun b o v hs dv=>by rw[ahi b o (hI.cW b o hs).2.2];exact dv) (fun b hm=>hold b (hI.dF b hm).2) (fun b p _ _ hb=>hold b hb) (fun D o hD=>hold D (fL (hI.fT D o hD).2.2.1))
  refine⟨w.heap.size+1,[{target:=.collected w.heap.size,args:= #[]}],w1,{target:=.fn (.func it) cv,args:= #[.func (.yield (w.heap.size+1)) #[] #[]]},w1,it,#[.func (.yield (w.heap.size+1)) #[] #[]]++cv,w1,?_,?_,fun _ _=>trivial,?_,(fun h=>by cases h),?_⟩
  ·rw[←Bi,P7];exact run_enterLoop_outer _ _ _ _ _
  ·simp only[resolve,hvg]
   simp[go_sem]
  ·simp[invoke,go_sem,CA.1 _ _]
  ·have D5:w0.heap.size≤w.heap.size+1∧w0.heap.size≤w.heap.size:=⟨by omega,hle⟩
   have CT:w.heap.size+1<w1.heap.size∧w.heap.size<w1.heap.size∧w.heap.size+1≠w.heap.size:=⟨by omega,by omega,by omega⟩
   have lT:∀D o,eZ.df D o→D<w1.heap.size∧D≠w.heap.size+1∧D≠w.heap.size:=fun D o hD=>by have:=fL (hI.fT D o hD).2.2.1;omega
   have va:∀b o,eZ.St b o→b<w1.heap.size∧b≠w.heap.size+1∧b≠w.heap.size:=fun b o hs=>by have:=(hI.cW b o (hI.gU b o hs)).2.2;omega
   have aY:∀b o,g.St b o→b≠w.heap.size+1∧b≠w.heap.size:=fun b o hs=>by have:=(hI.cW b o hs).2.2;omega
   have main:=CA.2 w1 g.St (w.heap.size+1) cv (fun b o h=>by have:=(hI.cW b o h).2.2;omega) dn.lg hc (fun i x v hx hv=>?_)
    (fun q Fr dw pre W=>w1.heap.size≤W.heap.size∧∃x:Ex,(q=none↔x=.normal)∧(x=.normal →pre=L.take pre.length)∧∃dP g',dP.length=aF.length∧
      zD P gl w0 eZ g.St w1.heap.size (w.heap.size+1) w.heap.size {AH with state:=if x.code.isNone then .ready else .done,pending:=x.code} sh aC (AG I X pre.length x) Fr dw W dP g') ?_ ?_ ?_
   ·refine callsIn_wide.2 (Calls.mono main ?_)
    rintro e W2 ⟨⟨v,rfl⟩,Fr,dw,pre,q,⟨H8,x,H9,Lh,dP,g',eh,hR⟩,hq⟩
    have pQ:=run_endLoop (P:=P) hR.Cl (by cases x<;>simp[Ex.code])
    have pn:=hR.inv.other hR.Cl (JK _) (JK {AH with state:=.exhausted,pending:=x.code}) D5.1 (fun D ob hD=>(lT D ob hD).2.1)
    have R8:=hR.lo w.heap.size (.inr rfl)
    have vI:Inv gl w0 (eZ.P6 w.heap.size) ⟨sh,dP⟩ aC (W2.putObj (w.heap.size+1) (.loop {AH with state:=.exhausted,pending:=x.code})) g':=by
     refine pn.xL pn.gU (fun b o h=>(pn.cW b o h).1) (fun D o hD=>?_) pn.cls pn.kD
     rcases hD with hD|⟨rfl,rfl⟩
     ·exact pn.fT D o hD
     ·exact⟨R8.1,R8.2.1,(World.putObj_heap_other (by omega)).trans hR.dd,fun x hx=>absurd hx (R8.2.2 x)⟩
    have ml:∀x',x=x'→AG I X L.length x' dP:=fun x' hx=>by
     subst hx
     have:=hR.i
     cases x with
     |normal=>
      have h1:=hq (H9.2 rfl)
      rw[h1]at this
      exact this
     |exit i=>exact this
     |ret=>exact this
    have hdC:=hI.defers
    have QD:({aC with defers:=[{target:=.collected w.heap.size,args:= #[]}]++aC.defers}:Act)=wd aC [{target:=.collected w.heap.size,args:= #[]}]:=by
     rw[hdC];rfl
    have Pu:=hQ x dP _ g' w.heap.size (ml x rfl) eh vI hle (fun o hD=>(lT _ o hD).2.2 rfl) (fun o hs=>(va _ o hs).2.2 rfl)
    refine⟨x.code,_,pQ,?_⟩
    rw[QD]
    cases x with
    |normal=>exact Pu
    |exit i=>exact wpIn_exit Pu
    |ret=>exact wpIn_ret Pu
   ·have vz:x.aD=true:=uN.1 bM x (List.mem_of_getElem? hx)
    exact(((rc i x v hx hv).reb (yI:=0) vz).mono (fun b o h=>⟨h,.qF (hold b (hI.cW b o h).2.2)⟩) (fun b o hb=>absurd hb (Nat.not_lt_zero _)) _ (fun _ _ _ h=>h.elim)).reb vz
   ·rintro q Fr dw pre W W' pj tT ⟨H8,x,H9,Lh,dP,g',eh,hR⟩ hb f1 f2 p1 p2
    exact⟨Nat.le_trans H8 hb.size,x,H9,Lh,dP,g',eh,hR.P5 bj (by omega) ⟨CT.1,CT.2.1⟩ (fun D o hD=>(lT D o hD).1) hb H8 f1 f2 p1 p2⟩
   ·rintro Fr dw pre d v W ⟨H8,x,H9,Lh,dP,g',eh,hR⟩ hd hLd
    have hxn:=H9.1 rfl
    subst hxn
    subst P7
    have Lg:=Gx pre.length d dP hR.i hLd eh
    rw[←eh]at Lg
    obtain⟨tmps,hy,hr⟩:=hR.round (hh:=hh) hm (by rw[eh];exact bj) D5 CT lT va aY (ps:=ps) rfl rfl rfl rfl hd ja (I':=AG I X (pre.length+1)) Lg
    refine⟨_,tmps,_,_,hy,fun n=>(hr n).mono fun e W'⟨x',he,jc,akZ,g2,sQ,R9⟩=>⟨x'.code.isNone,he,jc,?_,x',?_,fun ee=>?_,akZ,g2,sQ.trans eh,?_⟩⟩
    ·have:=fL R9.dd
     have h1:=R9.fr
     have:W.heap.size≤W'.heap.size:=jc.size
     omega
    ·cases x'<;>simp[Ex.code]
    ·have h1:=Lh rfl
     rw[List.length_append,List.length_singleton,List.take_add_one,hLd,←h1]
     rfl
    ·rw[List.length_append,List.length_singleton]
     exact R9
   ·subst P7
    refine⟨Nat.le_refl _,.normal,by simp,fun _=>by simp,aF,_,rfl,⟨dn,h0,ko,fun _ _ h=>h,fun b p ho=>?_,fun b o h=>.inl h,fun b o h=>⟨h,h⟩,fun b o h=>⟨.inl h,by have:=(hI.cW b o h).2.2;omega⟩,fun b h=>h.elim,hL1,hD1,fun b hb=>?_⟩⟩
    ·simp only at ho
     split at ho
     ·exact⟨by omega,fun h=>h⟩
     ·cases ho
    ·have CH:¬b<w.heap.size:=by omega
     exact⟨fun hm=>CH (hI.dF b hm).2,by simp only;rw[if_neg CH],fun o h=>CH (hI.cW b o h).2.2⟩
end
end Go.Proofs.Ytimbllcalipehaa.Ab
set_option linter.unusedVariables false
set_option linter.unusedSimpArgs false
namespace Go.Proofs.Ytimbllcalipehaa.Ab
open Go Go.RowKit
structure xM(gl:Nat→Option D)(base:Nat)(S0i:S0)(Fr:Nat→Prop)(e:Env)(a:Act)(W:World)(g:Gh):Prop where
 inv:∃w0:World,w0.heap.size=base∧Inv gl w0 S0i e a W g
 bx:∀b,some b∈g.bx→Fr b
 ow:∀b p,g.ow b=some p→b<W.heap.size→Fr b
 st:∀b o,g.St b o→Fr b∨S0i.St b o
 fr:∀b,Fr b→base≤b∧b<W.heap.size
def uj(St:Nat→Nat→Prop):S0:={St:=St,df:=fun _ _=>False,cl:=fun _ _ _=>False}
def Hl(Fr:Nat→Prop)(W:World)(g:Gh):S0:={St:=g.St,df:=fun D o=>¬Fr D∧W.heap[D]? =some o,cl:=fun b o v=>g.St b o∧W.cell? ⟨b,o,none⟩=some v,sz:=W.heap.size}
section
variable{P:Program}{gl:Nat→Option D}{hh:Hints}{n:Nat}{base:Nat}{St:Nat→Nat→Prop}{Fr:Nat→Prop}{e:Env}{a:Act}{W:World}{g:Gh}
theorem xM.xL(h:xM gl base (uj St) Fr e a W g):∃w0:World,w0.heap.size=base∧Inv gl w0 (Hl Fr W g) e a W g:=by
 obtain⟨w0,h0,hI⟩:=h.inv
 refine⟨w0,h0,hI.xL (fun _ _ h=>h) (fun _ _ h=>.inl h) (fun D o hD=>?_) (fun _ _ _ h=>h) (Nat.le_refl _)⟩
 obtain⟨h1,h2⟩:=hD
 refine⟨fun hm=>h1 (h.bx D hm),?_,h2,fun x hx=>hx⟩
 cases ue:g.ow D with
 |none=>rfl
 |some p=>exact absurd (h.ow D p ue (fL h2)) h1
theorem xM.ajG(h:xM gl base (uj St) Fr e a W g){w0:World}(h0:w0.heap.size=base)(rA:Inv gl w0 (Hl Fr W g) e a W g){e':Env}{a':Act}{W':World}{g':Gh}(hI:Inv gl w0 (Hl Fr W g) e' a' W' g'):
  xM gl base (uj St) (fun b=>Fr b∨(W.heap.size≤b∧b<W'.heap.size)) e' a' W' g'∧yw Fr g.St W W'∧∀b o,g.St b o→g'.St b o:=by
 have aM:W.heap.size≤W'.heap.size:=hI.kD
 obtain⟨w1,h1,dn⟩:=h.inv
 have hold:∀b,b<W.heap.size→¬Fr b→some b∉g'.bx∧g'.ow b=none∧W'.heap[b]? =W.heap[b]? ∧∀x,g'.St b x→g.St b x:=fun b hb hf=>by
  have zE:W.heap[b]? =some W.heap[b]:=by simp[hb]
  have:=hI.fT b _ ⟨hf,zE⟩
  exact⟨this.1,this.2.1,this.2.2.1.trans zE.symm,this.2.2.2⟩
 refine⟨⟨⟨w0,h0,hI.xL (fun b o hs=>hI.gU b o (dn.gU b o hs)) (fun b o hs=>?_) (fun D o hD=>hD.elim) (fun b o v hv=>hv.elim) (Nat.zero_le _)⟩,fun b hm=>?_,fun b p ho hb=>?_,fun b o hs=>?_,fun b hf=>?_⟩,
  ⟨hI.below.os.trans rA.below.os.symm,hI.below.tape.trans rA.below.tape.symm,hI.below.output.trans rA.below.output.symm,aM,fun b hb hf=>(hold b hb hf).2.2.1,fun b o v hs hc=>(hI.cls b o v ⟨hs,hc⟩).2⟩,fun b o hs=>hI.gU b o hs⟩
 ·rcases(hI.cW b o hs).1 with h2|h2
  ·have:=(dn.cW b o h2).1
   rw[h1]at this
   rw[h0]
   exact this
  ·exact .inr h2
 ·by_cases hf:Fr b
  ·exact .inl hf
  ·by_cases hb:b<W.heap.size
   ·exact absurd hm (hold b hb hf).1
   ·exact .inr ⟨by omega,(hI.dF b hm).2⟩
 ·by_cases hf:Fr b
  ·exact .inl hf
  ·by_cases eC:b<W.heap.size
   ·rw[(hold b eC hf).2.1]at ho;cases ho
   ·exact .inr ⟨by omega,hb⟩
 ·by_cases hf:Fr b
  ·exact .inl (.inl hf)
  ·by_cases hb:b<W.heap.size
   ·exact(h.st b o ((hold b hb hf).2.2.2 o hs)).imp .inl id
   ·exact .inl (.inr ⟨by omega,(hI.cW b o hs).2.2⟩)
 ·rcases hf with hf|hf
  ·have:=h.fr b hf;exact⟨this.1,by omega⟩
  ·refine⟨?_,hf.2⟩
   have:=rA.below.size
   omega
theorem xM.norm(h:xM gl base (uj St) Fr e a W g):∃g',xM gl base (uj St) Fr e a W g'∧g'.St=g.St∧∀b p,g'.ow b=some p→b<W.heap.size:=by
 obtain⟨w0,h0,hI⟩:=h.inv
 refine⟨_,⟨⟨w0,h0,hI.norm⟩,h.bx,fun b p ho hb=>?_,h.st,h.fr⟩,rfl,fun b p ho=>?_⟩
 ·simp only at ho
  rw[if_pos hb]at ho
  exact h.ow b p ho hb
 ·simp only at ho
  split at ho
  ·assumption
  ·cases ho
structure vJ(P:Program)(gl:Nat→Option D) where
 base:Nat
 St:Nat→Nat→Prop
 l:Nat
 L:List D
 J:Option Unit→(Nat→Prop)→(Nat→Nat→Prop)→List D→World→Prop
 p9:∀b o,St b o→b<base
 P5:∀q Fr dw pre W W' pj tT,J q Fr dw pre W→yw Fr dw W W'→(∀b,pj b→Fr b∨(W.heap.size≤b∧b<W'.heap.size))→(∀b,Fr b→pj b)→(∀b o,dw b o→tT b o)→
  (∀b o,tT b o→(dw b o∨pj b)∧b<W'.heap.size)→J q pj tT pre W'
 round:∀Fr dw pre d v W,J none Fr dw pre W→bh W dw d v→L[pre.length]? =some d→∃fn tmps assign body,(Instr.yield l #[v]).run P W=.ok (.round l fn tmps assign body) W∧
  ∀n,RoundIn Fence.wide n P l fn tmps assign body W fun e W'=>∃b,e=.returned (.bool b)∧yw (fun b=>¬Fr b) dw W W'∧J (bif b then none else some ()) Fr dw (pre++[d]) W'
def vJ.tU(C:vJ P gl)(e:Env)(log:List D)(q:Option Unit)(a:Act)(W:World):Prop:=
 ∃Fr g,xM gl C.base (uj C.St) Fr e a W g∧C.J q Fr g.St log W
theorem vJ.go(C:vJ P gl){log:List D}{q:Option Unit}(h:xM gl C.base (uj C.St) Fr e a W g)(hJ:C.J q Fr g.St log W){w0:World}(h0:w0.heap.size=C.base)(rA:Inv gl w0 (Hl Fr W g) e a W g){e':Env}{a':Act}{W':World}{g':Gh}
  (hI:Inv gl w0 (Hl Fr W g) e' a' W' g'):C.tU e' log q a' W':=by
 obtain⟨h1,h2,h3⟩:=h.ajG h0 rA hI
 refine⟨_,g',h1,C.P5 _ _ _ _ _ _ _ _ hJ h2 (fun b hb=>hb) (fun b hb=>.inl hb) h3 (fun b o hs=>⟨?_,(hI.cW b o hs).2.2⟩)⟩
 rcases h1.st b o hs with hf|ph
 ·exact .inr hf
 ·obtain⟨_,_,dn⟩:=h.inv
  exact .inl (dn.gU b o ph)
def IW(C:vJ P gl)(n:Nat)(c:Code)(Q:Ex→Env→List D→Option Unit→Prop)(e:Env)(log:List D)(q:Option Unit):Prop:=
 ∀a W,C.tU e log q a W→c.wpIn Fence.wide n P (fun x a' W'=>∃xx e' oA q',x=Ex.to xx∧C.tU e' oA q' a' W'∧Q xx e' oA q') a W
def OW(C:vJ P gl)(n:Nat)(ops:Array Oper)(Q:Ex→Env→List D→Option Unit→Prop)(idx:List Nat)(e:Env)(log:List D)(q:Option Unit):Prop:=
 ∀a W,C.tU e log q a W→wpOpsIn Fence.wide n P ops (fun x a' W'=>∃xx e' oA q',x=Ex.to xx∧C.tU e' oA q' a' W'∧Q xx e' oA q') idx a W
theorem Ua{F:Fence}{c:Code}{Q:Exit→Act→World→Prop}:∀{m k:Nat},m≤k→∀{a:Act}{w:World},Code.roundsIn F n P c Q m a w→Code.roundsIn F n P c Q k a w
 |0,_,_,_,_,h=>h.elim
 |m+1,0,hk,_,_,_=>by omega
 |m+1,k+1,hk,a,w,h=>by
  refine wpIn_mono h fun x a' w' hx=>?_
  cases x with
  |normal=>exact Ua (by omega) hx
  |_=>exact hx
variable{C:vJ P gl}{log:List D}{q:Option Unit}
theorem IW.mono{c:Code}{Q Q':Ex→Env→List D→Option Unit→Prop}(h:IW C n c Q e log q)(hq:∀x e l q,Q x e l q→Q' x e l q):IW C n c Q' e log q:=fun a W hH=>
 wpIn_mono (h a W hH) fun x a' W'⟨xx,e',l',q',h1,h2,h3⟩=>⟨xx,e',l',q',h1,h2,hq _ _ _ _ h3⟩
theorem IW.aw(hm:P.follows .mixedOrders =true){c:Code}{Q:Ex→Env→List D→Option Unit→Prop}(h:aw P gl (aG P gl) hh c (fun x e'=>Q x e' log q) e):IW C n c Q e log q:=by
 rintro a W ⟨Fr,g,hS,hJ⟩
 obtain⟨w0,h0,hI⟩:=hS.xL
 have:=UQ (r:=none) (n:=n) (ds:=[]) hm c hI h (Q:=fun x a' W'=>∃xx e' oA q',x=Ex.to xx∧C.tU e' oA q' a' W'∧Q xx e' oA q') (fun x e' a' W' g' bt hQ=>by
  refine⟨x,e',log,q,rfl,?_,hQ⟩
  rw[BY bt.defers]
  exact C.go hS hJ h0 hI bt)
 rw[BY hI.defers]at this
 exact this
theorem IW.seq{x y:Code}{Q:Ex→Env→List D→Option Unit→Prop}(h:IW C n x (fun ex e' l' q'=>match ex with| .normal =>IW C n y Q e' l' q'|ex=>Q ex e' l' q') e log q):IW C n (.seq x y) Q e log q:=fun a W hH=>by
 refine wpIn_seq (wpIn_mono (h a W hH) ?_)
 rintro ex a' W' ⟨xx,e',l',q',rfl,h2,h3⟩
 cases xx with
 |normal=>exact h3 a' W' h2
 |exit i=>exact⟨.exit i,e',l',q',rfl,h2,h3⟩
 |ret=>exact⟨.ret,e',l',q',rfl,h2,h3⟩
theorem IW.block{id:Nat}{b:Code}{Q:Ex→Env→List D→Option Unit→Prop}(h:IW C n b (fun ex e' l' q'=>match ex with| .normal =>Q .normal e' l' q'| .exit i=>cond (i==id) (Q .normal e' l' q') (Q (.exit i) e' l' q')| .ret =>Q .ret e' l' q') e log q):
  IW C n (.block id b) Q e log q:=fun a W hH=>by
 refine wpIn_block (wpIn_mono (h a W hH) ?_)
 rintro ex a' W' ⟨xx,e',l',q',rfl,h2,h3⟩
 cases xx with
 |normal=>exact⟨.normal,e',l',q',rfl,h2,h3⟩
 |exit i=>
  have h3:cond (i==id) (Q .normal e' l' q') (Q (.exit i) e' l' q'):=h3
  show(if i=id then _ else _)
  cases hb:(i==id)with
  |true=>
   rw[hb]at h3
   rw[if_pos (beq_iff_eq.1 hb)]
   exact⟨.normal,e',l',q',rfl,h2,h3⟩
  |false=>
   rw[hb]at h3
   rw[if_neg (beq_eq_false_iff_ne.1 hb)]
   exact⟨.exit i,e',l',q',rfl,h2,h3⟩
 |ret=>exact⟨.ret,e',l',q',rfl,h2,h3⟩
theorem IW.cond{t:Nat}{b:Bool}{x y:Code}{Q:Ex→Env→List D→Option Unit→Prop}(hs:e.ak[t]? =some (.v (.d (.bool b))))(h:IW C n (if b then x else y) Q e log q):IW C n (.cond (.tmp t) x y) Q e log q:=fun a W hH=>by
 have hH':=hH
 obtain⟨Fr,g,hS,_⟩:=hH'
 obtain⟨w0,_,hI⟩:=hS.inv
 have h1:=(hI.ak t _ hs).jV.data.wA
 exact wpIn_cond (t:=b) h1 (h a W hH)
theorem IW.loop{b:Code}{Q:Ex→Env→List D→Option Unit→Prop}(I:Nat→Env→List D→Option Unit→Prop)
  (hb:∀m e l q,I m e l q→IW C n b (fun ex e' l' q'=>match ex with| .normal =>(∃m',m'<m∧I m' e' l' q')|ex=>Q ex e' l' q') e l q):∀(m:Nat)(e:Env)(log:List D)(q:Option Unit),I m e log q→IW C n (.loop b) Q e log q:=by
 have key:∀(m:Nat)(e:Env)(log:List D)(q:Option Unit),I m e log q→∀a W,C.tU e log q a W→Code.roundsIn Fence.wide n P b (fun x a' W'=>∃xx e' oA q',x=Ex.to xx∧C.tU e' oA q' a' W'∧Q xx e' oA q') (m+1) a W:=by
  intro m
  induction m using Nat.strongRecOn with
  |_ m ih=>
   intro e log q hI a W hH
   refine wpIn_mono (hb m e log q hI a W hH) ?_
   rintro ex a' W' ⟨xx,e',l',q',rfl,h2,h3⟩
   cases xx with
   |normal=>
    obtain⟨m',lQ,bt⟩:=h3
    have:=ih m' lQ e' l' q' bt a' W' h2
    exact Ua (by omega) this
   |exit i=>exact⟨.exit i,e',l',q',rfl,h2,h3⟩
   |ret=>exact⟨.ret,e',l',q',rfl,h2,h3⟩
 exact fun m e log q hI a W hH=>wpIn_loop_rounds (m+1) (key m e log q hI a W hH)
theorem OW.nil{ops:Array Oper}{Q:Ex→Env→List D→Option Unit→Prop}(h:Q .normal e log q):OW C n ops Q [] e log q:=fun a W hH=>⟨.normal,e,log,q,rfl,hH,h⟩
theorem IW.region{id:Nat}{ops:Array Oper}{Q:Ex→Env→List D→Option Unit→Prop}(h:OW C n ops Q (List.range ops.size) e log q):IW C n (.region id ops false) Q e log q:=fun a W hH=>wpIn_region (h a W hH)
theorem OW.step{ops:Array Oper}{Q:Ex→Env→List D→Option Unit→Prop}{i:Nat}{rest:List Nat}{id:Nat}{aH:Bool}{o:Oper}(ho:ops[i]? =some o)
  (h:o8 P gl (aG P gl) ops.toList id aH o e (fun e'=>OW C n ops Q rest e' log q)):OW C n ops Q (i::rest) e log q:=by
 rintro a W ⟨Fr,g,hS,hJ⟩
 obtain⟨w0,h0,hI⟩:=hS.xL
 rw[wpOpsIn_cons]
 have:=Jk (r:=none) (n:=n) (ds:=[]) hI ho h (next:=wpOpsIn Fence.wide n P ops (fun x a' W'=>∃xx e' oA q',x=Ex.to xx∧C.tU e' oA q' a' W'∧Q xx e' oA q') rest)
  (Q:=fun x a' W'=>∃xx e' oA q',x=Ex.to xx∧C.tU e' oA q' a' W'∧Q xx e' oA q') (fun e' v W' g' bt hk=>by
    rw[BY bt.defers]
    exact hk _ _ (C.go hS hJ h0 hI bt))
 rw[BY hI.defers]at this
 exact this
theorem OW.yield{ops:Array Oper}{Q:Ex→Env→List D→Option Unit→Prop}{i:Nat}{rest:List Nat}{o:Oper}(ho:ops[i]? =some o)(hg:o.guard=none){c:Call}(hc:o.op=.call c){f x:Operand}(hf:c.callee=.value f)(hx:c.args= #[x]){d:Nat}(hd:o.dst=some d)
  (hsf:(Ab.bp gl e f).aa =.v (.d (.fn (.yield C.l)))){y:D}(hsx:(Ab.bp gl e x).aa =.v (.d y))(hy:C.L[log.length]? =some y)(hp:Kr e)
  (h1:OW C n ops Q rest ⟨e.ak.set d (.v (.d (.bool true))),e.boxes⟩ (log++[y]) none)(h2:OW C n ops Q rest ⟨e.ak.set d (.v (.d (.bool false))),e.boxes⟩ (log++[y]) (some ())):OW C n ops Q (i::rest) e log none:=by
 rintro a W ⟨Fr,g0,LR,hJ⟩
 obtain⟨g,hS,kF,vq⟩:=LR.norm
 rw[←kF]at hJ
 obtain⟨w0,h0,hI⟩:=hS.inv
 rw[wpOpsIn_cons]
 unfold wpOpIn
 simp only[ho]
 have hw:Region.wanted o (yielded ops a.tmps)=true:=by simp[Region.wanted,hg]
 rw[if_pos hw]
 refine⟨fun _ _=>trivial,?_⟩
 have Ia:a.eval f=.func (.yield C.l) #[] #[]:=by
  have:=(hI.sP hsf).data
  generalize a.eval f=u at this
  cases this
  rfl
 have HA:bh W g.St y (a.eval x):=(hI.sP hsx).data
 obtain⟨fn,tmps,assign,body,bq,hr⟩:=C.round Fr g.St log y (a.eval x) W hJ HA hy
 have hex:(o.semAt Fence.wide.round a.eval).run P W=.ok (.round C.l fn tmps assign body) W:=by
  show(execOp a.eval o).run P W=_
  generalize a.eval=ρ at Ia bq
  simp[execOp,hc,resolve,hf,hx,Ia,invoke,go_sem,bq]
 rw[hex,Oper.uponIn_round]
 refine⟨fun h=>(by cases h),(hr (n-1)).mono ?_⟩
 rintro e1 W1 ⟨b,rfl,hB,Mb⟩
 show wpOpsIn _ _ _ _ _ rest (a.put o.dst (.bool b)) W1
 rw[hd]
 have LO:Inv gl (Hg W1 C.base) (uj C.St) e a W1 g:=by
  have hle:=hI.below.size
  have gk:=hB.size
  have ck:(Hg W1 C.base).heap.size =C.base:=Vw (by omega)
  refine hI.move hp (by rw[ck,h0]) ?_ hB.size (fun b o v hs hc=>hB.jG b o v hs hc) (fun b hm=>?_) (fun b p hw _ hb=>?_) (fun D o hD=>hD.elim)
  ·rw[h0]
   refine⟨rfl,rfl,rfl,by rw[ck];omega,fun k hk=>?_⟩
   show W1.heap[k]? =(W1.heap.extract 0 C.base)[k]?
   rw[Array.getElem?_extract,if_pos (by omega),Nat.zero_add]
  ·exact hB.ao b (hI.dF b hm).2 fun hn=>hn (hS.bx b hm)
  ·exact hB.ao b hb fun hn=>hn (hS.ow b p hw hb)
 have ck:(Hg W1 C.base).heap.size =C.base:=Vw (by have:=hI.below.size;have:=hB.size;omega)
 have hv:=LO.value (dst:=some d) (s:=.v (.d (.bool b))) (v:=.bool b) (.v _ _ _ (.d _ _ _ (.bool b)))
 have hH:C.tU ⟨e.ak.set d (.v (.d (.bool b))),e.boxes⟩ (log++[y]) (bif b then none else some ()) (a.put (some d) (.bool b)) W1:=by
  refine⟨Fr,g,⟨⟨_,ck,hv⟩,hS.bx,fun b p hw hb=>hS.ow b p hw (vq b p hw),hS.st,fun b hf=>⟨(hS.fr b hf).1,Nat.lt_of_lt_of_le (hS.fr b hf).2 hB.size⟩⟩,Mb⟩
 cases b with
 |true=>exact h1 _ _ hH
 |false=>exact h2 _ _ hH
end
end Go.Proofs.Ytimbllcalipehaa.Ab
set_option linter.unusedVariables false
set_option linter.unusedSimpArgs false
namespace Go.Proofs.Ytimbllcalipehaa.Ab
open Go Go.RowKit
def gQ:Code→List Code
 | .seq a b=>gQ a++gQ b
 |c=>[c]
def uk(F:Fence)(n:Nat)(P:Program):List Code→(Exit→Act→World→Prop)→Act→World→Prop
 |[],Q,a,w=>Q .normal a w
 |c::l,Q,a,w=>c.wpIn F n P (Exit.then (uk F n P l Q) Q) a w
section
variable{P:Program}{gl:Nat→Option D}{hh:Hints}{F:Fence}{n:Nat}
theorem UR{Q:Exit→Act→World→Prop}:∀(l m:List Code)(a:Act)(w:World),uk F n P l (Exit.then (uk F n P m Q) Q) a w→uk F n P (l++m) Q a w
 |[],m,a,w,h=>h
 |c::l,m,a,w,h=>by
  refine wpIn_mono (h:c.wpIn F n P _ a w) fun x a' w' hx=>?_
  cases x with
  |normal=>exact UR l m a' w' hx
  |_=>exact hx
theorem NW{Q:Exit→Act→World→Prop}:∀(c:Code)(a:Act)(w:World),uk F n P (gQ c) Q a w→c.wpIn F n P Q a w
 | .seq x y,a,w,h=>by
   have h:uk F n P (gQ x++gQ y) Q a w:=h
   refine wpIn_seq (NW x a w ?_)
   have key:∀(l m:List Code)(a:Act)(w:World),uk F n P (l++m) Q a w→uk F n P l (Exit.then (uk F n P m Q) Q) a w:=by
    intro l
    induction l with
    |nil=>intro m a w h;exact h
    |cons c l ih=>
     intro m a w h
     refine wpIn_mono (h:c.wpIn F n P _ a w) fun x a' w' hx=>?_
     cases x with
     |normal=>exact ih m a' w' hx
     |_=>exact hx
   have:=key _ _ a w h
   have mono:∀(l:List Code)(a:Act)(w:World)(R R':Exit→Act→World→Prop),(∀x a w,R x a w→R' x a w)→uk F n P l R a w→uk F n P l R' a w:=by
    intro l
    induction l with
    |nil=>intro a w R R' hr h;exact hr _ _ _ h
    |cons c l ih=>
     intro a w R R' hr h
     refine wpIn_mono (h:c.wpIn F n P _ a w) fun x a' w' hx=>?_
     cases x with
     |normal=>exact ih a' w' R R' hr hx
     |_=>exact hr _ _ _ hx
   refine mono _ a w _ _ (fun x a' w' hx=>?_) this
   cases x with
   |normal=>exact NW y a' w' hx
   |_=>exact hx
 | .skip,a,w,h=>wpIn_mono (show Code.wpIn F n P _ _ a w from h) fun x a' w' hx=>by cases x<;>exact hx
 | .region ..,a,w,h=>wpIn_mono (show Code.wpIn F n P _ _ a w from h) fun x a' w' hx=>by cases x<;>exact hx
 | .cond ..,a,w,h=>wpIn_mono (show Code.wpIn F n P _ _ a w from h) fun x a' w' hx=>by cases x<;>exact hx
 | .block ..,a,w,h=>wpIn_mono (show Code.wpIn F n P _ _ a w from h) fun x a' w' hx=>by cases x<;>exact hx
 | .loop ..,a,w,h=>wpIn_mono (show Code.wpIn F n P _ _ a w from h) fun x a' w' hx=>by cases x<;>exact hx
 | .exit _,a,w,h=>wpIn_mono (show Code.wpIn F n P _ _ a w from h) fun x a' w' hx=>by cases x<;>exact hx
 | .ret,a,w,h=>wpIn_mono (show Code.wpIn F n P _ _ a w from h) fun x a' w' hx=>by cases x<;>exact hx
 | .goto _,a,w,h=>wpIn_mono (show Code.wpIn F n P _ _ a w from h) fun x a' w' hx=>by cases x<;>exact hx
 | .label _,a,w,h=>wpIn_mono (show Code.wpIn F n P _ _ a w from h) fun x a' w' hx=>by cases x<;>exact hx
 | .scope _,a,w,h=>wpIn_mono (show Code.wpIn F n P _ _ a w from h) fun x a' w' hx=>by cases x<;>exact hx
 | .rangeFunc ..,a,w,h=>wpIn_mono (show Code.wpIn F n P _ _ a w from h) fun x a' w' hx=>by cases x<;>exact hx
 | .refuse _,a,w,h=>wpIn_mono (show Code.wpIn F n P _ _ a w from h) fun x a' w' hx=>by cases x<;>exact hx
end
section
variable(P:Program)(gl:Nat→Option D)(C:bA)(h:Hints)
def mC:List Code→(Ex→Env→Prop)→Env→Prop
 |[],Q,e=>Q .normal e
 |c::l,Q,e=>aw P gl C h c (fun x e'=>match x with| .normal =>mC l Q e'| .exit i=>Q (.exit i) e'| .ret =>Q .ret e') e
def Ej(fn:Func)(K:SV→Prop)(x:Ex)(e:Env):Prop:=match x with| .normal =>finish P fn e K| .ret =>finish P fn e K| .exit _=>False
end
section
variable{P:Program}{gl:Nat→Option D}{hh:Hints}{n:Nat}
theorem Nm(hm:P.follows .mixedOrders =true){ds:List Deferred}{r:Option Nat}:∀(l:List Code){w0:World}{ar:S0}{QA:Ex→Env→Prop}{e:Env}{a:Act}{w:World}{g:Gh}{Q:Exit→Act→World→Prop},
  Inv gl w0 ar e a w g→mC P gl (aG P gl) hh l QA e→(∀x e' a' w' g',Inv gl w0 ar e' a' w' g'→QA x e'→Q x.to (wd a' ds) w')→uk (FW r) n P l Q (wd a ds) w
 |[],_,_,_,_,_,_,_,_,hI,h,hQ=>hQ .normal _ _ _ _ hI h
 |c::l,w0,ar,QA,e,a,w,g,Q,hI,h,hQ=>by
  refine UQ hm c hI h fun x e' a' w' g' bt hx=>?_
  cases x with
  |normal=>exact Nm hm l bt hx hQ
  |exit i=>exact hQ (.exit i) e' a' w' g' bt hx
  |ret=>exact hQ .ret e' a' w' g' bt hx
theorem NX{fn:Func}{args:List SV}{w:World}{St:Nat→Nat→Prop}{vs:Array Value}(p9:∀b o,St b o→b<w.heap.size)(oH:yr gl w St)(hlen:args.length=vs.size)
  (fI:∀(i:Nat)x v,args[i]? =some x→vs[i]? =some v→aP w St w.heap.size (fun _ _ _=>False) x v):
  Inv gl w (uj St) (enter fn.ntmps args) {tmps:=vs++Array.replicate (fn.ntmps-vs.size) undef,defers:=[]} w ⟨St,[],fun _=>none⟩:=by
 refine⟨Below.refl _ _,by simp[enter,hlen],fun i s hs=>?_,rfl,fun b bx ao h1=>by simp[enter]at h1,fun i j ao h1=>by simp at h1,fun _ _ h=>h,fun b o hb=>⟨.inl hb,by simp,p9 b o hb⟩,fun b hb=>by simp at hb,oH,rfl,fun D o hD=>hD.elim,fun b o v hv=>hv.elim,Nat.zero_le _⟩
 simp only[enter]at hs
 rw[List.getElem?_append]at hs
 split at hs
 ·rename_i hi
  simp only[List.length_map]at hi
  simp only[List.getElem?_map,Option.map_eq_some_iff]at hs
  obtain⟨x,hx,rfl⟩:=hs
  have H4:i<vs.size:=by omega
  have:=fI i x vs[i] hx (by simp)
  have jF:(vs++Array.replicate (fn.ntmps-vs.size) undef).getD i undef=vs[i]:=by
   simp[Array.getElem?_append,H4]
  rw[jF]
  exact .v _ _ _ (this.mono (fun _ _ h=>⟨h,.refl _ _ _⟩) (fun _ _ _=>rfl) _ (fun _ _ _ h=>h.elim))
 ·have:=(List.mem_replicate.1 (List.mem_of_getElem? hs)).2
  subst this
  exact .v _ _ _ (.undef _ _)
theorem abh(hm:P.follows .mixedOrders =true){f:FuncId}{fn:Func}{c:Code}{args:List SV}{r:SV}(hf:P.funcs[f]? =some fn)(hb:fn.body=some c)(hE:n0 P f){A B:List Code}{id:Nat}{CU:Operand}{ps:Nat}{assign body:Code}
  (Pv:gQ c=A++.block id (.rangeFunc CU #[ps] assign body)::B){it:FuncId}{cap:List SV}{L:List D}(CA:Iter P gl it cap L)(bM:SV.iB cap=true)
  (hA:cA args (mC P gl (aG P gl) hh A (fun x e=>x=.normal ∧(Ab.bp gl e CU).aa =.v (.dT (.func it) [] cap)∧∃(sh:List Slot) (I:Nat→List af→Prop) (X:Ex→List af→Prop),sh.length=e.ak.length∧
    (∀(i:Nat)s,sh[i]? =some s→s=.v .undef ∨∃s0,e.ak[i]? =some s0∧(s=s0∨s=s0.aa))∧sh.all (yL e.boxes.length)=true∧e.boxes.all (mO e.boxes.length)=true∧
    (∀(t:Nat)s,sh[t]? =some s→Hi s=true→t∉da hh.gh assign∧t∉da hh.gh body∧t≠ps)∧I 0 e.boxes∧
    (∀(k:Nat)d dP,I k dP→L[k]? =some d→dP.length=e.boxes.length→aw P gl (aG P gl) hh assign (fun x e1=>x=.normal ∧aw P gl (aG P gl) hh body (fun x e2=>(e2.boxes.take e.boxes.length).all (mO e.boxes.length)=true∧AG I X (k+1) x (e2.boxes.take e.boxes.length)) e1) ⟨cS sh (some ps) (.v (.d d)),dP⟩)∧
    (∀dP,I L.length dP→dP.length=e.boxes.length→mC P gl (aG P gl) hh B (Ej P fn (fun x=>x=r)) ⟨sh,dP⟩)∧
    (∀x dP,x≠.normal →X x dP→dP.length=e.boxes.length→x=.ret ∧finish P fn ⟨sh,dP⟩ (fun x=>x=r))) (enter fn.ntmps args)))(ha:ou args=none:=by rfl):aG P gl f args r:=by
 rw[Bw ha]
 refine⟨hE,fun w St vs p9 oH hlen fI=>(callsIn_wide (n:=0)).1 (callsIn_of_wp_marks hf hb trivial ?_)⟩
 have bJ:SV.iH args:=by
  rw[SV.mK]
  intro x hx
  obtain⟨i,hi,rfl⟩:=List.mem_iff_getElem.1 hx
  exact(fI i _ (vs[i]'(by omega)) (by simp) (by simp)).wf
 have hI:=NX (fn:=fn) p9 oH hlen fI
 have hA:=hA bJ
 refine NW c _ w ?_
 rw[Pv]
 refine UR _ _ _ _ ?_
 refine Nm (r:=none) (n:=0) (ds:=[]) hm A hI hA ?_
 rintro x e a1 w1 g1 dn ⟨rfl,ak0,sh,I,X,jq,hs,tJ,ko,ja,h0,Gx,hB,hX⟩
 rw[BY dn.defers]
 have cq:=dn.drop (ak:=e.ak) (aF:=e.boxes) jq hs
 have fin:∀(x:Ex)e' a' W' g' Dd,Inv gl w ((uj St).P6 Dd) e' a' W' g'→w.heap.size≤Dd→(x=.normal ∨x=.ret)→finish P fn e' (fun x=>x=r)→
   bodyPostM Fence.wide 0 P fn (fun e w'=>∃v,e=.returned v∧Below w.heap.size w w'∧∃bS ow,(∀b o,St b o→bS b o)∧(∀b o,bS b o→St b o∨(w.heap.size≤b∧b<w'.heap.size))∧yv w.heap.size w' bS ow r v) x.to (wd a' [{target:=.collected Dd,args:= #[]}]) W':=by
  intro x e' a' W' g' Dd bt Ib hx ml
  have hD:=bt.fT Dd _ (.inr ⟨rfl,rfl⟩)
  have gm:Inv gl w (uj St) e' a' W' g':=bt.xL bt.gU (fun b o h=>(bt.cW b o h).1) (fun D o hD=>hD.elim) (fun b o v hv=>hv.elim) (Nat.zero_le _)
  have um:=gm.other (o':=.deferred none) hD.2.2.1 (W8 _) (W8 _) Ib (fun D ob hD=>hD.elim)
  obtain⟨r',v,jr,bq,bw⟩:=NC um ml
  subst jr
  have ahj:LeavesInM Fence.wide 0 P fn a'.tmps (fun e w'=>∃v,e=.returned v∧Below w.heap.size w w'∧∃bS ow,(∀b o,St b o→bS b o)∧(∀b o,bS b o→St b o∨(w.heap.size≤b∧b<w'.heap.size))∧yv w.heap.size w' bS ow r' v) [{target:=.collected Dd,args:= #[]}] .returning W':=
   ⟨by simp,.inl ⟨Dd,_,rfl,run_takeDeferred hD.2.2.1,v,bq,v,rfl,um.below,g'.St,_,um.gU,fun b o h=>(um.cW b o h).1.imp (fun h=>h) fun h1=>⟨h1,(um.cW b o h).2.2⟩,bw⟩⟩
  rcases hx with rfl|rfl<;>exact ahj
 show(Code.block id (.rangeFunc CU #[ps] assign body)).wpIn Fence.wide 0 P _ a1 w1
 refine wpIn_block (aam (hh:=hh) hm cq tJ ko (dn.sP ak0) bM CA ja I X h0 Gx ?_)
 intro x dP w' g' Dd pQ eh bt Ib _ _
 cases x with
 |normal=>
  have hb:=hB dP pQ eh
  refine Nm (r:=none) hm B bt hb fun x e' a' W' g' Zv hx=>?_
  cases x with
  |normal=>exact fin .normal e' a' W' g' Dd Zv Ib (.inl rfl) hx
  |ret=>exact fin .ret e' a' W' g' Dd Zv Ib (.inr rfl) hx
  |exit i=>exact hx.elim
 |exit i=>exact absurd (hX (.exit i) dP (by simp) pQ eh).1 (by simp)
 |ret=>
  obtain⟨_,ml⟩:=hX .ret dP (by simp) pQ eh
  exact fin .ret _ _ _ _ Dd bt Ib (.inr rfl) ml
theorem afR(hm:P.follows .mixedOrders =true){f:FuncId}{fn:Func}{c:Code}{cap:List SV}{L:List D}(hf:P.funcs[f]? =some fn)(hb:fn.body=some c)(hE:n0 P f)(Ci:fn.results= #[])
  (hc:∀(C:vJ P gl),C.L=L→SV.iH cap→IW C 0 c (fun x e log q=>(x=.normal ∨x=.ret)∧(q=none→log=L)) (enter fn.ntmps (.d (.fn (.yield C.l))::cap)) [] none):Iter P gl f cap L:=by
 refine⟨hE,fun w St l vs p9 oH hlen fI J ahk Gx hJ0=>?_⟩
 let C:vJ P gl:=⟨w.heap.size,St,l,L,J,p9,ahk,Gx⟩
 have ahl:∀(i:Nat)x v,(SV.d (.fn (.yield l))::cap)[i]? =some x→(#[Value.func (.yield l) #[] #[]]++vs)[i]? =some v→aP w St w.heap.size (fun _ _ _=>False) x v:=by
  intro i x v hx hv
  cases i with
  |zero=>
   simp at hx hv
   subst hx
   simp[Array.getElem?_append]at hv
   subst hv
   exact .d _ _ _ (.fn _)
  |succ i=>
   rw[List.getElem?_cons_succ]at hx
   rw[Array.getElem?_append_right (by simp)]at hv
   simp only[List.size_toArray,List.length_cons,List.length_nil,Nat.zero_add,Nat.add_sub_cancel]at hv
   exact fI i x v hx hv
 have ajH:(SV.d (.fn (.yield l))::cap).length =(#[Value.func (.yield l) #[] #[]]++vs).size :=by simp[hlen];omega
 have hI:=NX (gl:=gl) (fn:=fn) p9 oH ajH ahl
 have bJ:SV.iH cap:=by
  rw[SV.mK]
  intro x hx
  obtain⟨i,hi,rfl⟩:=List.mem_iff_getElem.1 hx
  exact(fI i _ (vs[i]'(by omega)) (by simp) (by simp)).wf
 have hH:C.tU (enter fn.ntmps (.d (.fn (.yield l))::cap)) [] none {tmps:=(#[Value.func (.yield l) #[] #[]]++vs)++Array.replicate (fn.ntmps-(#[Value.func (.yield l) #[] #[]]++vs).size) undef,defers:=[]} w:=
  ⟨fun _=>False,⟨St,[],fun _=>none⟩,⟨⟨w,rfl,hI⟩,fun b hm=>by simp at hm,fun b p ho=>by simp at ho,fun b o hs=>.inr hs,fun b h=>h.elim⟩,hJ0⟩
 have hw:=hc C rfl bJ _ _ hH
 refine(callsIn_wide (n:=0)).1 (callsIn_of_wp hf hb trivial (wpIn_mono hw ?_))
 rintro x a' W' ⟨xx,e',log,q,rfl,⟨Fr,g',hS,hJ⟩,hx,hq⟩
 obtain⟨w0,h0,bt⟩:=hS.inv
 have bq:(results fn a'.tmps).run P W'=.ok (.tuple #[]) W':=by
  have:=FB (P:=P) (fn:=fn) (tmps:=a'.tmps) (w:=W') (vs:=[]) (by rw[Ci];simp)
  exact this
 have ml:a'.defers=[]∧∃v,(results fn a'.tmps).run P W'=.ok v W'∧((∃v',Ending.returned v=.returned v')∧∃Fr dw pre q,J q Fr dw pre W'∧(q=none→pre=L)):=
  ⟨bt.defers,_,bq,⟨_,rfl⟩,Fr,g'.St,log,q,hJ,hq⟩
 rcases hx with rfl|rfl<;>exact ml
end
end Go.Proofs.Ytimbllcalipehaa.Ab
set_option linter.unusedVariables false
set_option linter.unusedSimpArgs false
namespace Go.Proofs.Ytimbllcalipehaa.Ab
open Go Go.RowKit
section
variable{P:Program}{gl:Nat→Option D}{hh:Hints}
theorem abi(hm:P.follows .mixedOrders =true){f:FuncId}{fn:Func}{c:Code}{args:List SV}{r:SV}(hf:P.funcs[f]? =some fn)(hb:fn.body=some c)(hE:n0 P f){QA:Ex→Env→Prop}
  (h:cA args (aw P gl (aG P gl) hh c (fun x e=>(x=.normal ∨x=.ret)∧QA x e) (enter fn.ntmps args)))
  (fin:∀(w:World)(St:Nat→Nat→Prop)x e' a' w' g',Inv gl w (uj St) e' a' w' g'→QA x e'→∃v,(results fn a'.tmps).run P w'=.ok v w'∧∃bS ow,(∀b o,St b o→bS b o)∧(∀b o,bS b o→St b o∨(w.heap.size≤b∧b<w'.heap.size))∧yv w.heap.size w' bS ow r v)(ha:ou args=none:=by rfl):aG P gl f args r:=by
 rw[Bw ha]
 refine⟨hE,fun w St vs p9 oH hlen fI=>?_⟩
 have bJ:SV.iH args:=by
  rw[SV.mK]
  intro x hx
  obtain⟨i,hi,rfl⟩:=List.mem_iff_getElem.1 hx
  exact(fI i _ (vs[i]'(by omega)) (by simp) (by simp)).wf
 have hI:=NX (fn:=fn) p9 oH hlen fI
 refine calls_of_wp hf hb (wB hm c hI (h bJ) fun x e' a' w' g' bt hk=>?_)
 obtain⟨hx,hk⟩:=hk
 obtain⟨v,bq,bS,ow,h1,h2,h3⟩:=fin w St x e' a' w' g' bt hk
 have:a'.defers=[]∧∃v,(results fn a'.tmps).run P w'=.ok v w'∧(∃v',(Ending.returned v)=.returned v'∧Below w.heap.size w w'∧∃bS ow,(∀b o,St b o→bS b o)∧
  (∀b o,bS b o→St b o∨(w.heap.size≤b∧b<w'.heap.size))∧yv w.heap.size w' bS ow r v'):=⟨bt.defers,v,bq,v,rfl,bt.below,bS,ow,h1,h2,h3⟩
 rcases hx with rfl|rfl<;>exact this
theorem ac6(hm:P.follows .mixedOrders =true){f:FuncId}{fn:Func}{c:Code}{args:List SV}(hf:P.funcs[f]? =some fn)(hb:fn.body=some c)(hE:n0 P f){t b it:Nat}{x:D}(jb:x.one=true)(Ci:fn.results= #[.tmp t])
  (h:cA args (aw P gl (aG P gl) hh c (fun ex e=>(ex=.normal ∨ex=.ret)∧(e.ak[t]? =some (.c (.func it) [] [.p b 0])∧e.boxes[b]? =some (.cells [.d x]))) (enter fn.ntmps args)))(ha:ou args=none:=by rfl):aG P gl f args (.dT (.func it) [] [.aX x 0]):=by
 refine abi hm hf hb hE h (ha:=ha) fun w St ex e' a' w' g' hI⟨hs,eB⟩=>?_
 have hr:=hI.ak t _ hs
 have bq:(results fn a'.tmps).run P w'=.ok (a'.tmps.getD t undef) w':=by
  have:=FB (P:=P) (fn:=fn) (tmps:=a'.tmps) (w:=w') (vs:=[a'.tmps.getD t undef]) (by rw[Ci];simp[By])
  exact this
 refine⟨_,bq,?_⟩
 generalize a'.tmps.getD t undef=v at hr
 cases hr with
 |c _ _ _ _ fv cv rG dv rf rc=>
  have zp:fv= #[]:=Array.eq_empty_of_size_eq_zero (by simpa using rG.symm)
  subst zp
  have rE:cv[0]? =some (cv[0]'(by simp at dv;omega)):=by simp
  have hp:=rc 0 _ _ rfl rE
  generalize cv[0]'(by simp at dv;omega)=u at hp rE
  cases hp with
  |p _ _ _ ao dM=>
   obtain⟨q0,cs,ty,q1,q2,q3,q4⟩:=hI.boxes b _ ao eB dM
   have vp:cs[0]? =some (cs[0]'(by simp at q3;omega)):=by simp
   have bw:=(q4 0 _ _ rfl vp).data
   generalize cs[0]'(by simp at q3;omega)=y at vp bw
   have bY:(x.cells)=[x]:=D.uP jb
   refine⟨fun b' o=>g'.St b' o∨(b'=ao∧o=0),fun _=>none,fun b' o h=>.inl (hI.gU b' o h),fun b' o h=>?_,?_⟩
   ·rcases h with h|⟨rfl,_⟩
    ·have:=hI.cW b' o h
     exact this.1.imp (fun h=>h) fun h1=>⟨h1,this.2.2⟩
    ·exact .inr (hI.dF b' (List.mem_of_getElem? dM))
   ·show aP w' _ 0 _ (.dT (.func it) [] [.aX x 0]) _
    refine .dT _ _ _ _ #[] cv rfl (by simpa using dv) (fun i x v h=>by simp at h) (fun i z v' hz iR=>?_)
    cases i with
    |succ i=>simp at hz
    |zero=>
     simp at hz;subst hz
     rw[rE]at iR;cases iR
     refine .aX _ x 0 ao 0 (fun _=>y) (fun c hc=>by rw[bY]at hc;rw[List.mem_singleton.1 hc];exact jb) (fun i hi=>?_) (fun i c hc=>?_)
     ·rw[bY]at hi
      have:i=0:=by simp at hi;omega
      subst this
      refine⟨?_,.inr ⟨rfl,rfl⟩⟩
      rw[cell_of_row w' ao (0+0) cs ty (0,0) q1];exact vp
     ·rw[bY]at hc
      cases i with
      |succ i=>simp at hc
      |zero=>simp at hc;subst hc;exact bw.mono fun b' o h=>⟨.inl h,rfl⟩
end
end Go.Proofs.Ytimbllcalipehaa.Ab
set_option linter.unusedVariables false
set_option linter.unusedSimpArgs false
namespace Go.Proofs.Ytimbllcalipehaa.Ab
open Go Go.RowKit
def Ax:List Slot→List Slot→Prop
 |[],[]=>True
 |s::l,t::m=>(s=.v .undef ∨∃x,t=.v x∧s=.v (aa x))∧Ax l m
 |_,_=>False
theorem Vy:∀{l m:List Slot},Ax l m→l.length=m.length
 |[],[],_=>rfl
 |s::l,t::m,h=>by simp[Vy h.2]
 |[],_::_,h=>h.elim
 |_::_,[],h=>h.elim
theorem Vz:∀{l m:List Slot},Ax l m→∀(i:Nat)s,l[i]? =some s→s=.v .undef ∨∃x,m[i]? =some (.v x)∧s=.v (aa x)
 |[],[],_,i,s,h=>by simp at h
 |s::l,t::m,h,0,s',h'=>by
  simp at h';subst h'
  rcases h.1 with h1|⟨x,rfl,h1⟩
  ·exact .inl h1
  ·exact .inr ⟨x,rfl,h1⟩
 |s::l,t::m,h,i+1,s',h'=>by simpa using Vz h.2 i s' (by simpa using h')
 |[],_::_,h,_,_,_=>h.elim
 |_::_,[],h,_,_,_=>h.elim
section
variable{P:Program}{gl:Nat→Option D}{n:Nat}{e:Env}{C:vJ P gl}{log:List D}{q:Option Unit}
theorem IW.D6{c:Code}{Q:Ex→Env→List D→Option Unit→Prop}{sh:List Slot}(hw:Ax sh e.ak)(h:IW C n c Q ⟨sh,[]⟩ log q):IW C n c Q e log q:=fun a W hH=>by
 refine h a W ?_
 obtain⟨Fr,g,hS,hJ⟩:=hH
 obtain⟨w0,h0,hI⟩:=hS.inv
 refine⟨Fr,g.cut 0,⟨⟨w0,h0,?_⟩,fun b hm=>by simp[Gh.cut]at hm,hS.ow,hS.st,hS.fr⟩,hJ⟩
 refine⟨hI.below,by rw[hI.size,Vy hw],fun i s hi=>?_,by simp[Gh.cut],fun b bx ao h1=>by simp at h1,fun i j ao h1=>by simp[Gh.cut]at h1,hI.gU,fun b o hs=>⟨(hI.cW b o hs).1,by simp[Gh.cut],(hI.cW b o hs).2.2⟩,fun b hm=>by simp[Gh.cut]at hm,hI.lg,hI.defers,fun D o hD=>hD.elim,fun b o v hv=>hv.elim,hI.kD⟩
 rcases Vz hw i s hi with rfl|⟨x,he,rfl⟩
 ·exact .v _ _ _ (.undef _ _)
 ·exact .v _ _ _ (hI.ak i _ he).jV.aa
end
end Go.Proofs.Ytimbllcalipehaa.Ab
set_option linter.unusedVariables false
set_option linter.unusedSimpArgs false
namespace Go.Proofs.Ytimbllcalipehaa.Ab
open Go Go.RowKit
def QE(rs:List SV):SV:=match rs with
 |[r]=>r
 |rs=>.aJ rs
theorem wZ.sG{w:World}{St:Nat→Nat→Prop}{O O':Nat→Nat→Nat→Nat→Prop}:∀{rs:List SV}{v:Value},wZ w St O rs v→(∀j b a c,O j b a c→O' j b a c)→wZ w St O' rs v
 |[r],v,hr,h=>aP.sG (show aP w St 0 (O 1) r v from hr) fun b a c ho=>h _ b a c ho
 |[],v,hr,h=>by
  obtain⟨us,h1,h2,h3⟩:=hr
  exact⟨us,h1,h2,fun j x y hx hy=>by simp at hx⟩
 |r1::r2::l,v,hr,h=>by
  obtain⟨us,h1,h2,h3⟩:=hr
  exact⟨us,h1,h2,fun j x y hx hy=>(h3 j x y hx hy).sG fun b a c ho=>h _ b a c ho⟩
section
variable{P:Program}{gl:Nat→Option D}{hh:Hints}
theorem aaM{P:Program}{n:Nat}{c:Code}{Q:Exit→Act→World→Prop}{a:Act}{w:World}(h:(F4 c).wpIn Fence.wide n P (Exit.noGoto Q) a w):c.wpIn Fence.wide n P Q a w:=by
 have key:∀c':Code,c'.wpIn Fence.wide n P (Exit.noGoto Q) a w→c'.wpIn Fence.wide n P Q a w:=fun c' h=>wpIn_mono h fun e a w hq=>by
  cases e<;>first|exact hq|exact hq.elim
 cases c with
 |scope c'=>exact wpIn_wide.2 (wp_scope_straight (wpIn_wide.1 h))
 |_=>exact key _ h
theorem Ub(hm:P.follows .mixedOrders =true){f:FuncId}{fn:Func}{c c':Code}{gs:List iQ}{args:List SV}{p:Nat}{rs:List SV}{bk:SV}(hf:P.funcs[f]? =some fn)(hb:fn.body=some c)(ei:∀{Q:Exit→Act→World→Prop}{a:Act}{w:World},c'.wpIn Fence.wide 0 P (Exit.noGoto Q) a w→c.wpIn Fence.wide 0 P Q a w)(hE:n0 P f)(CC:SV.iB args=true){QA:Ex→Env→Prop}
  (h:cA args (aw P gl (aG P gl) hh c' (fun x e=>(x=.normal ∨x=.ret)∧hY gs e (QA x)) (enter fn.ntmps args)))
  (fin:∀(w w':World)(St:Nat→Nat→Prop)(vs:Array Value)(w0:World)(ar:S0)x e' a' g',w0.heap.size=0→Inv gl w0 ar e' a' w' g'→QA x e'→
    (∀t,t∉da [] c'→a'.tmps.getD t undef=(vs++Array.replicate (fn.ntmps-vs.size) undef).getD t undef)→(∀b o,St b o→g'.St b o∧qH w w' b o)→
    (∀x y,args[p]? =some x→vs[p]? =some y→aP w St 0 (fun _ _ _=>False) (aa x) y)→args.length=vs.size→
    ∃v,∃ow:Nat→Option Nat,(results fn a'.tmps).run P w'=.ok v w'∧(∀b,ow b≠none→g'.ow b≠none)∧
     wZ w' g'.St (fun j b a c=>ow b=some j∧(∃cur e,w'.heap[b]? =some (.cells cur e (0,0))∧cur.size=c)∧∀o,a≤o→¬g'.St b o) rs v∧
     ∀y,vs[p]? =some y→aP w' g'.St 0 (fun b a c=>ow b=some 0∧(∃cur e,w'.heap[b]? =some (.cells cur e (0,0))∧cur.size=c)∧∀o,a≤o→¬g'.St b o) bk y):Pk P gl f args p rs bk:=by
 refine⟨hE,CC,fun w St A vs p9 hA oH hlen fI=>?_⟩
 have bJ:SV.iH args:=by
  rw[SV.mK]
  intro x hx
  obtain⟨i,hi,rfl⟩:=List.mem_iff_getElem.1 hx
  exact(fI i _ (vs[i]'(by omega)) (by simp) (by simp)).wf
 let w0:World:={w with heap:= #[]}
 have h0:w0.heap.size=0:=rfl
 let ar:S0:={St:=St,df:=fun D o=>A D=none∧w.heap[D]? =some o,cl:=fun b o v=>St b o∧w.cell? ⟨b,o,none⟩=some v,sz:=w.heap.size}
 let g:Gh:=⟨St,[],fun b=>(A b).map fun i=>Pos.s i 0⟩
 have hI:Inv gl w0 ar (enter fn.ntmps args) {tmps:=vs++Array.replicate (fn.ntmps-vs.size) undef,defers:=[]} w g:=by
  refine⟨⟨rfl,rfl,rfl,by rw[h0];exact Nat.zero_le _,fun k hk=>by rw[h0]at hk;omega⟩,by simp[enter,hlen],fun i s hs=>?_,rfl,fun b bx ao h1=>by simp[enter]at h1,fun i j ao h1=>by simp[g]at h1,fun _ _ h=>h,fun b o hb=>⟨.inl hb,by simp[g],p9 b o hb⟩,fun b hb=>by simp[g]at hb,oH,rfl,fun D o hD=>⟨by simp[g],by simp[g,hD.1],hD.2,fun x hx=>hx⟩,fun b o v hv=>hv,Nat.le_refl _⟩
  simp only[enter]at hs
  rw[List.getElem?_append]at hs
  split at hs
  ·rename_i hi
   simp only[List.length_map]at hi
   simp only[List.getElem?_map,Option.map_eq_some_iff]at hs
   obtain⟨x,hx,rfl⟩:=hs
   have H4:i<vs.size:=by omega
   have:=fI i x vs[i] hx (by simp)
   have jF:(vs++Array.replicate (fn.ntmps-vs.size) undef).getD i undef=vs[i]:=by
    simp[Array.getElem?_append,H4]
   rw[jF]
   refine .v _ _ _ (this.sG fun b a' c' ho=>?_)
   obtain⟨o1,o2,o3⟩:=ho
   exact⟨by simp[g,o1],by rw[h0];exact Nat.zero_le _,by simp[g],o2,o3⟩
  ·have:=(List.mem_replicate.1 (List.mem_of_getElem? hs)).2
   subst this
   exact .v _ _ _ (.undef _ _)
 refine(callsIn_wide (n:=0)).1 (callsIn_of_wp hf hb trivial ?_)
 refine ei ?_
 have hk:=tz (r:=none) (n:=0) (ds:=[]) (Q:=Exit.noGoto (bodyPost P fn (fun e w'=>∃v,e=.returned v∧w'.os=w.os∧w'.tape=w.tape∧w'.output=w.output∧w.heap.size≤w'.heap.size∧(∀b,b<w.heap.size→A b=none→w'.heap[b]? =w.heap[b]?)∧
  ∃bS ow,(∀b o,St b o→bS b o∧qH w w' b o)∧(∀b o,bS b o→St b o∨((w.heap.size≤b∨A b≠none)∧b<w'.heap.size))∧
   wZ w' bS (XO w.heap.size A w' bS ow) rs v∧∀y,vs[p]? =some y→aP w' bS 0 (XO w.heap.size A w' bS ow 0) bk y))) hm c' hI (h bJ) ?_
 ·rw[BY rfl]at hk
  exact hk
 rintro x e1 a' w' g1 dn ⟨hx,hq⟩ er
 obtain⟨e',g',bt,hq⟩:=Dx dn hq
 rw[BY bt.defers]
 have tJ:∀b,b<w.heap.size→A b=none→w'.heap[b]? =w.heap[b]? ∧g'.ow b=none∧∀o,g'.St b o→St b o:=fun b hb xN=>by
  have:=bt.fT b (w.heap[b]'hb) ⟨xN,by simp⟩
  exact⟨by rw[this.2.2.1];simp,this.2.1,this.2.2.2⟩
 have GW:∀b o,St b o→g'.St b o∧qH w w' b o:=fun b o hs=>by
  refine⟨bt.gU b o hs,?_⟩
  cases xN:A b with
  |none=>exact .qF (tJ b (p9 b o hs) xN).1
  |some i=>
   obtain⟨cur,te,h1,h2⟩:=hA b i xN
   have ho:o<cur.size:=Nat.lt_of_not_le fun hle=>h2 o hle hs
   have hc:w.cell? ⟨b,o,none⟩=some cur[o]:=by
    have:=cell_of_row w b o cur te (0,0) h1
    rw[this];simp[ho]
   exact⟨(bt.cls b o _ ⟨hs,hc⟩).2.trans hc.symm,fun es cl Hh=>by rw[h1]at Hh;cases Hh⟩
 obtain⟨v,ow,bq,ue,hr,vD⟩:=fin w w' St vs w0 ar x e' a' g' h0 bt hq er GW (fun x y hx hy=>(fI p x y hx hy).aa) hlen
 have ko:∀{j b a' c'},(ow b=some j∧(∃cur e,w'.heap[b]? =some (.cells cur e (0,0))∧cur.size=c')∧∀o,a'≤o→¬g'.St b o)→XO w.heap.size A w' g'.St ow j b a' c':=fun{j b a' c'}ho=>by
  refine⟨ho.1,?_,ho.2.1,ho.2.2⟩
  rcases Nat.lt_or_ge b w.heap.size with hb|hb
  ·refine .inr fun xN=>?_
   exact ue b (by rw[ho.1];simp) (tJ b hb xN).2.1
  ·exact .inl hb
 have Ef:a'.defers=[]∧∃v,(results fn a'.tmps).run P w'=.ok v w'∧(∃v',(Ending.returned v)=.returned v'∧w'.os=w.os∧w'.tape=w.tape∧w'.output=w.output∧w.heap.size≤w'.heap.size∧(∀b,b<w.heap.size→A b=none→w'.heap[b]? =w.heap[b]?)∧
   ∃bS ow,(∀b o,St b o→bS b o∧qH w w' b o)∧(∀b o,bS b o→St b o∨((w.heap.size≤b∨A b≠none)∧b<w'.heap.size))∧
    wZ w' bS (XO w.heap.size A w' bS ow) rs v'∧∀y,vs[p]? =some y→aP w' bS 0 (XO w.heap.size A w' bS ow 0) bk y):=by
  refine⟨bt.defers,v,bq,v,rfl,bt.below.os,bt.below.tape,bt.below.output,bt.kD,fun b hb xN=>(tJ b hb xN).1,g'.St,ow,GW,fun b o hs=>?_,?_,fun y hy=>(vD y hy).sG fun b a c ho=>ko ho⟩
  ·have aO:=(bt.cW b o hs).2.2
   rcases Nat.lt_or_ge b w.heap.size with hb|hb
   ·cases xN:A b with
    |none=>exact .inl ((tJ b hb xN).2.2 o hs)
    |some i=>exact .inr ⟨.inr (by simp),aO⟩
   ·exact .inr ⟨.inl hb,aO⟩
  ·exact wZ.sG hr fun j b a c ho=>ko ho
 rcases hx with rfl|rfl<;>exact Ef
theorem FE(hm:P.follows .mixedOrders =true){f:FuncId}{args:List SV}{p:Nat}{y:SV}{rs:List SV}(hE:n0 P f)(CC:SV.iB args=true)(hp:args[p]? =some y)(ht:∀r∈rs,wW r=false)
  (kh:body P gl (aG P gl) hh f args fun x=>x=QE rs):aG P gl f (pM p args) (.aJ (aa y::rs)):=by
 rw[OM]
 unfold body at kh
 split at kh
 ·rename_i fn hf
  split at kh
  ·rename_i c hb
   refine Ub (hh:=hh) (gs:=[]) (c':=c) hm hf hb (fun h=>wpIn_mono h fun e a w hq=>by cases e<;>first|exact hq|exact hq.elim) hE CC (QA:=fun x e=>finish P fn e fun x=>x=QE rs) (fun bJ=>?_) ?_
   ·refine nr _ ?_ (kh bJ)
    intro x e hx
    cases x with
    |normal=>exact⟨.inl rfl,hx⟩
    |ret=>exact⟨.inr rfl,hx⟩
    |exit i=>exact hx.elim
   ·intro w w' St vs w0 ar x e' a' g' h0 bt hq er GW hold hlen
    obtain⟨r',v,jr,bq,bw⟩:=NC bt hq
    subst jr
    refine⟨v,fun b=>(yK g' fn.results.toList b).map (· +1),bq,fun b hb hn=>hb ?_,?_,fun y' rB=>?_⟩
    ·simp[yK,hn]
    ·have hO:∀j b a c,yV w0.heap.size w' g'.St (yK g' fn.results.toList) j b a c→(yK g' fn.results.toList b).map (· +1)=some (j+1)∧(∃cur e,w'.heap[b]? =some (.cells cur e (0,0))∧cur.size=c)∧∀o,a≤o→¬g'.St b o:=fun j b a c ho=>⟨by rw[ho.1];rfl,ho.2.2.1,ho.2.2.2⟩
     unfold wZ
     match rs,ht,bw with
     |[r],ht,bw=>
      have hr:yv w0.heap.size w' g'.St (yK g' fn.results.toList) r v:=bw
      have Sa:=ht r (by simp)
      cases r with
      |aJ l=>cases Sa
      |_=>exact aP.sG hr fun b a c ho=>hO 0 b a c ho
     |[],_,bw=>
      obtain⟨us,h1,h2,h3⟩:=bw
      exact⟨us,h1,h2,fun j x y hx hy=>by simp at hx⟩
     |r1::r2::l,_,bw=>
      obtain⟨us,h1,h2,h3⟩:=bw
      exact⟨us,h1,h2,fun j x y hx hy=>(h3 j x y hx hy).sG fun b a c ho=>hO j b a c ho⟩
    ·exact(hold y y' hp rB).mono GW (fun b o hb=>by omega) _ (fun _ _ _ h=>h.elim)
  ·exact kh.elim
 ·exact kh.elim
theorem Jm(hm:P.follows .mixedOrders =true){f:FuncId}{args:List SV}{p:Nat}{bk:SV}(hE:n0 P f)(CC:SV.iB args=true)(hp:p<args.length)(vD:bk≠.undef)
  (kh:D0 P gl (aG P gl) hh p f args fun x=>x=bk):aG P gl f (pM p args) (.aJ [bk]):=by
 rw[OM]
 unfold D0 at kh
 split at kh
 ·rename_i fn hf
  split at kh
  ·rename_i c hb
   cases xG:fn.results.isEmpty&& !(da [] (F4 c)).contains p with
   |false=>rw[xG]at kh;exact kh.elim
   |true=>
    rw[xG]at kh
    simp only[cond_true]at kh
    simp only[Bool.and_eq_true,Array.isEmpty_iff,Bool.not_eq_true',List.contains_eq_mem,decide_eq_false_iff_not]at xG
    refine Ub (hh:=hh) (gs:=jT hh.gh 3000000) (c':=F4 c) hm hf hb aaM hE CC (QA:=fun x e=>(e.ak.getD p (.v .undef)).bW =bk) (fun bJ=>?_) ?_
    ·refine nr _ ?_ (kh bJ)
     intro x e hx
     cases x with
     |normal=>exact⟨.inl rfl,hx⟩
     |ret=>exact⟨.inr rfl,hx⟩
     |exit i=>exact hx.elim
    ·intro w w' St vs w0 ar x e' a' g' h0 bt hq er GW hold hlen
     have bq:(results fn a'.tmps).run P w'=.ok (.tuple #[]) w':=by
      have:=FB (P:=P) (fn:=fn) (tmps:=a'.tmps) (w:=w') (vs:=[]) (by rw[xG.1];simp)
      exact this
     refine⟨_,fun b=>if g'.ow b=some (.s p 0)then some 0 else none,bq,fun b hb hn=>hb (by show(if g'.ow b=some (.s p 0)then some 0 else none)=none;rw[hn];simp),⟨#[],rfl,rfl,fun j x y hx hy=>by simp at hx⟩,fun y hy=>?_⟩
     have hs:cE w0.heap.size w' g' (fO w0.heap.size w' g' p) (e'.ak.getD p (.v .undef)) (a'.tmps.getD p undef):=kb bt p
     have jF:(vs++Array.replicate (fn.ntmps-vs.size) undef).getD p undef=y:=by
      have hpv:=(Array.getElem?_eq_some_iff.1 hy)
      obtain⟨h1,h2⟩:=hpv
      simp[Array.getElem?_append,h1,h2]
     rw[er p xG.2,jF]at hs
     cases jq:e'.ak.getD p (.v .undef)with
     |v x=>
      rw[jq]at hs hq
      have hx:x=bk:=hq
      subst hx
      have:=hs.jV
      rw[h0]at this
      refine this.sG fun b a c ho=>⟨by show(if g'.ow b=some (.s p 0)then some 0 else none)=some 0;rw[if_pos ho.1],ho.2.2.2.1,ho.2.2.2.2⟩
     |_=>rw[jq]at hq;exact absurd hq.symm vD
  ·exact kh.elim
 ·exact kh.elim
end
end Go.Proofs.Ytimbllcalipehaa.Ab
