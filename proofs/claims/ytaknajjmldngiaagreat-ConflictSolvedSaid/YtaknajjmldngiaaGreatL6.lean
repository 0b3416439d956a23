/-
  LAW: without the later ones there are no conflicts left.
-/
import Derived.Test.YtaknajjmldngiaaGreatTi
set_option linter.unusedVariables false
set_option linter.unusedSimpArgs false
namespace Go.Proofs.YtaknajjmldngiaaGreat.Ab
open Go
set_option linter.unusedVariables false
set_option maxRecDepth 4000
def kG{α:Type}(q:Nat→Bool)(l:List α)(z:α)(i:Nat):List α:=((List.range i).filter q).map fun k=>l.getD k z
theorem C6{α:Type}{q:Nat→Bool}{l:List α}{z a:α}{i:Nat}(h:q i=true)(ha:l[i]? =some a):kG q l z (i+1)=kG q l z i++[a]:=by
 simp[kG,List.range_succ,h,List.getD_eq_getElem?_getD,ha]
theorem Dt{α:Type}{q:Nat→Bool}{l:List α}{z:α}{i:Nat}(h:q i=false):kG q l z (i+1)=kG q l z i:=by
 simp[kG,List.range_succ,h]
theorem C7{α:Type}(q:Nat→Bool)(l:List α)(z:α)(i:Nat):(kG q l z i).length ≤i:=by
 have:=List.length_filter_le q (List.range i)
 simpa[kG]using this
def lU(L:List D)(nm:List UInt8)(i:Nat):Bool:= !L.any (mh (i:Int) nm)
theorem C8{α:Type}{T:α→α→Bool}{l:List α}{z:α}{xX:Nat→List UInt8}{nm:List UInt8}{L:List D}
  (hL:∀a b:Nat,a<b→b<l.length→T (l.getD a z) (l.getD b z)=true→bH 16 a b (xX a)∈L)(hn:nm=[]∨∀a,xX a=nm)
  {i k:Nat}(iK:i<k)(hk:k<(kG (lU L nm) l z l.length).length):T ((kG (lU L nm) l z l.length).getD i z) ((kG (lU L nm) l z l.length).getD k z)=false:=by
 have ef:k<((List.range l.length).filter (lU L nm)).length :=by simpa[kG]using hk
 have eF:i<((List.range l.length).filter (lU L nm)).length :=by omega
 have hp:((List.range l.length).filter (lU L nm)).Pairwise (· < ·):=List.pairwise_lt_range.filter _
 have aV:=List.pairwise_iff_getElem.1 hp i k eF ef iK
 have hm:=List.mem_filter.1 (List.getElem_mem ef)
 have hb:=List.mem_range.1 hm.1
 have e:∀j(hj:j<((List.range l.length).filter (lU L nm)).length),(kG (lU L nm) l z l.length).getD j z=l.getD (((List.range l.length).filter (lU L nm))[j]) z:=fun j hj=>by
  rw[kG,List.getD_eq_getElem?_getD,List.getElem?_map,List.getElem?_eq_getElem hj];rfl
 rw[e i eF,e k ef]
 generalize ((List.range l.length).filter (lU L nm))[i]=a at aV ⊢
 generalize ((List.range l.length).filter (lU L nm))[k]=b at aV hm hb ⊢
 cases hT:T (l.getD a z) (l.getD b z)with
 |false=>rfl
 |true=>
  have pK:=hL a b aV hb hT
  have hs:L.any (mh (b:Int) nm)=false:=by simpa[lU]using hm.2
  have:=List.any_eq_false.1 hs _ pK
  exact absurd (show mh (b:Int) nm (bH 16 a b (xX a))=true by
   rcases hn with rfl|h
   ·simp[mh,bH,xP]
   ·simp[mh,bH,xP,z0,h a]) this
theorem DF{T:Nat→Nat→Bool}{c:Nat→Nat→D}{N:Nat}(h:∀i k,i<k→k<N→T i k=false):jC T c N=[]:=by
 have row:∀i d,i+1+d≤N→ei T c i (i+1+d)=[]:=by
  intro i d
  induction d with
  |zero=>intro _;exact rq T c i
  |succ d ih=>
   intro hd
   rw[y5 (by omega) (h i (i+1+d) (by omega) (by omega))]
   exact ih (by omega)
 have up:∀i,i≤N→dc T c N i=[]:=by
  intro i
  induction i with
  |zero=>intro _;rfl
  |succ i ih=>
   intro hi
   have h2:=row i (N-(i+1)) (by omega)
   rw[show i+1+(N-(i+1))=N by omega]at h2
   rw[n7,ih (by omega),h2];rfl
 exact up N (Nat.le_refl _)
theorem CW{T:Nat→Nat→Bool}{c:Nat→Nat→D}{N i k:Nat}(iK:i<k)(hk:k<N)(hT:T i k=true):c i k∈jC T c N:=wB (OZ iK hk hT)
def rp(p:aq)(i:Nat):List aN:=kG (lU (jM p) []) p.tr jZ i
theorem HB(p:aq)(i:Nat):(rp p i).length ≤i:=C7 _ _ _ _
def s6(p:aq)(i:Nat):List bU:=kG (lU (mJ p++mK p) ot) p.rt oT i
theorem HC(p:aq)(i:Nat):(s6 p i).length ≤i:=C7 _ _ _ _
def uL(p:aq)(i:Nat):List bA:=kG (lU (mJ p++mK p) oa) p.ra oU i
theorem HD(p:aq)(i:Nat):(uL p i).length ≤i:=C7 _ _ _ _
def v8(p:aq)(i:Nat):List bO:=kG (lU (oD p) []) p.fi nW i
theorem HE(p:aq)(i:Nat):(v8 p i).length ≤i:=C7 _ _ _ _
def qP(p:aq):aq:={p with tr:=rp p p.tr.length,qZ:=cU 13 ((rp p p.tr.length).map aN.enc),zX:=ed 13 _,Co:=Nat.le_trans (HB p _) p.Co,rt:=s6 p p.rt.length,uw:=cU 10 ((s6 p p.rt.length).map bU.enc),Ff:=ed 10 _,Kn:=Nat.le_trans (HC p _) p.Kn,ra:=uL p p.ra.length,ux:=cU 13 ((uL p p.ra.length).map bA.enc),Fg:=ed 13 _,Ko:=Nat.le_trans (HD p _) p.Ko,fi:=v8 p p.fi.length,uy:=cU 9 ((v8 p p.fi.length).map bO.enc),Fh:=ed 9 _,Kr:=Nat.le_trans (HE p _) p.Kr}
def cQ(p:aq)(a b c d:SV):List SV:=[.d p.sM,.d p.sN,.d p.sf,.d p.sO,.d p.sQ,.d p.sR,.d p.uu,.d p.uv,.d p.pQ,.d p.qY,a,b,c,.d p.rb,.d p.re,d,.d p.qA]
theorem Yd(p:aq):setAt (setAt (setAt (setAt (bG p) 10 [.d (.sl .nil 0 [])]) 11 [.d (.sl .nil 0 [])]) 12 [.d (.sl .nil 0 [])]) 15 [.d (.sl .nil 0 [])]=cQ p (aJ 13 []) (aJ 10 []) (aJ 13 []) (aJ 9 []):=rfl
theorem D1(p:aq)(a b c d:SV):(cQ p a b c d).length =17:=rfl
theorem aaD(p:aq)(a b c d:SV):(cQ p a b c d)[10]? =some a:=rfl
theorem aaE(p:aq)(a b c d x:SV):(cQ p a b c d).set 10 x=cQ p x b c d:=rfl
theorem aaF(p:aq)(a b c d x:SV):setAt (cQ p a b c d) 10 [x]=cQ p x b c d:=rfl
theorem aaG(p:aq)(a b c d:SV):(cQ p a b c d)[11]? =some b:=rfl
theorem aaH(p:aq)(a b c d x:SV):(cQ p a b c d).set 11 x=cQ p a x c d:=rfl
theorem aaI(p:aq)(a b c d x:SV):setAt (cQ p a b c d) 11 [x]=cQ p a x c d:=rfl
theorem aaJ(p:aq)(a b c d:SV):(cQ p a b c d)[12]? =some c:=rfl
theorem aaK(p:aq)(a b c d x:SV):(cQ p a b c d).set 12 x=cQ p a b x d:=rfl
theorem aaL(p:aq)(a b c d x:SV):setAt (cQ p a b c d) 12 [x]=cQ p a b x d:=rfl
theorem aaM(p:aq)(a b c d:SV):(cQ p a b c d)[15]? =some d:=rfl
theorem aaN(p:aq)(a b c d x:SV):(cQ p a b c d).set 15 x=cQ p a b c x:=rfl
theorem aaO(p:aq)(a b c d x:SV):setAt (cQ p a b c d) 15 [x]=cQ p a b c x:=rfl
theorem agD(x:D)(l:List SV)(L:List D)(h:eP l=some L):eP (.d x::l)=some (x::L):=by simp only[eP,h,cS,aa]
theorem aaP(p:aq)(A B C E:List D):ag true 17 0 (cQ p (aJ 13 A) (aJ 10 B) (aJ 13 C) (aJ 9 E))=some (.d (.agg [p.sM,p.sN,p.sf,p.sO,p.sQ,p.sR,p.uu,p.uv,p.pQ,p.qY,cU 13 A,cU 10 B,cU 13 C,p.rb,p.re,cU 9 E,p.qA])):=by
 cases A<;>cases B<;>cases C<;>cases E<;>rfl
theorem aey(p:aq):lI (qP p)=lI p:=by
 funext x y
 unfold lI
 rfl
theorem Ye(p:aq):lT (qP p)=[]:=by
 have h1:jM (qP p)=[]:=by
  refine DF fun i k iK hk=>?_
  rw[aey]
  exact C8 (xX:=fun a=>(p.tr.getD a jZ).name) (fun a b mP hb hT=>CW (T:=fun i k=>lI p (p.tr.getD i jZ) (p.tr.getD k jZ)) (c:=fun i k=>bH 16 i k (p.tr.getD i jZ).name) mP hb hT) (.inl rfl) iK hk
 have h2:mJ (qP p)=[]:=DF fun i k iK hk=>
  C8 (xX:=fun a=>ot) (fun a b mP hb hT=>List.mem_append_left _ (CW (T:=fun i k=>vY (p.rt.getD i oT) (p.rt.getD k oT)) (c:=fun i k=>bH 16 i k ot) mP hb hT)) (.inr fun _=>rfl) iK hk
 have h3:mK (qP p)=[]:=DF fun i k iK hk=>
  C8 (xX:=fun a=>oa) (fun a b mP hb hT=>List.mem_append_right _ (CW (T:=fun i k=>vZ (p.ra.getD i oU) (p.ra.getD k oU)) (c:=fun i k=>bH 16 i k oa) mP hb hT)) (.inr fun _=>rfl) iK hk
 have h4:oD (qP p)=[]:=DF fun i k iK hk=>
  C8 (xX:=fun a=>(p.fi.getD a nW).pat) (fun a b mP hb hT=>CW (T:=fun i k=>pU (p.fi.getD i nW) (p.fi.getD k nW)) (c:=fun i k=>bH 16 i k (p.fi.getD i nW).pat) mP hb hT) (.inl rfl) iK hk
 unfold lT
 rw[h1,h2,h3,h4];rfl
theorem DG(x:D):aM [(0,.v (.d x))]=some [(0,x)]:=rfl
theorem DH(z x:D):bW z [(0,x)] 1 0=[x]:=rfl
theorem D2(sz:Nat)(x:D):elems sz (.full sz [x])=some [x]:=by simp[elems]
theorem NQ{m n:Nat}(h:m+n≤maxLen):ah none .add (.d (.int .i64 (m:Int))) (.d (.int .i64 (n:Int)))=some (.d (.int .i64 ((m+n:Nat):Int))):=by
 simp only[maxLen]at h
 have h2:IntKind.i64.wrap ((m:Int)+(n:Int))=((m+n:Nat):Int):=by rw[wrap_i64 (by omega) (by omega)];omega
 simp only[ah,ej,gp,h2,↓reduceIte]
theorem VN(p:aq):aF Tryz.prog gl 6 [.d (dv p)] (.d (.bool true)):=by
 refine cG aT (bp (fn:=Tryz.f6) (by kernel_rfl) (by kernel_rfl) (by kernel_rfl)) (h:=h6) ?_;rw[adY];intro aW
 obtain⟨b,hb,hB⟩:=Am p
 simp only[sS,sT,sZ,sP]
 refine aO hB ?_
 simp only[jH,sS,sT,sZ]
 refine And.intro (fun h=>?_) (fun h=>?_)
 ·refine aO rz ?_
  simp only[sS,sT,sZ]
 have di:=hb (by simpa using h)
 clear hB hb aW
 have fk:=D0 di.1
 obtain⟨a1,a2,a3,a4⟩:=wj fk
 simp only[sS,sT,sZ,sP,Gr,oZ,M4,GJ,M5,Yd]
 refine⟨by decide,by decide,by decide,by decide,?_⟩
 refine ec (Cx p fk.tr) (fb _ _) ?_
 refine ec (F3 p fk.rt fk.ra) (fb _ _) ?_
 refine ec (F4 p fk.fi) (fb _ _) ?_
 simp only[sS,sT,sZ,ev]
 have KP:=ed 8 (jM p)
 have gi:=ed 8 (mJ p++mK p)
 have pG:=ed 8 (oD p)
 generalize cU 8 (jM p)=x0 at KP ⊢
 generalize cU 8 (mJ p++mK p)=x1 at gi ⊢
 generalize cU 8 (oD p)=x2 at pG ⊢
 have J0:=Ol p
 have B9:=Om p
 have uc:=On p
 have tY:(jM p).length ≤maxLen:=by simp only[maxLen];omega
 have oH:(mJ p++mK p).length ≤maxLen:=by simp only[maxLen,List.length_append];omega
 have pM:(oD p).length ≤maxLen:=by simp only[maxLen];omega
 have hN0:=fk.tr
 refine de (fun i=>[.d x0,.d x1,.d x2,.d (.int .i64 ((i:Nat):Int))]) (fun i=>[bG p,cQ p (aJ 13 ((rp p i).map aN.enc)) (aJ 10 []) (aJ 13 []) (aJ 9 [])]) p.tr.length (fun i hi I hI=>?_) (fun I=>?_)
 ·simp only[sS,sT,sZ,sP]
  refine And.intro (fun _=>?_) (fun h=>absurd h (by simp;omega))
  obtain⟨a,ha⟩:=get_some hi
  have gU:=ba hi p.Co
  have zR:=HB p i
  refine aO (CN KP J0 tY (i:Int) []) ?_
  simp only[jH,sS,sT,sZ]
  refine And.intro (fun h=>?_) (fun h=>?_)
  ·have h2:=hI
   rw[show rp p (i+1)=rp p i++[a] from C6 h ha,List.map_append,List.map_cons,List.map_nil]at h2
   simp only[sS,sT,sZ,sP,p.sg ha,aaD,DG,DH,show bY 13 1 [(0,a.enc)]=true from rfl]
   refine eN (D2 _ _) (by simp only[List.length_map,List.length_singleton];omega) ?_
   simp only[Ak,ev,aaE,aaF,D1,List.length_singleton,gU,sS,sT,sZ]
   exact⟨by decide,h2⟩
  ·have h2:=hI
   rw[show rp p (i+1)=rp p i from Dt h]at h2
   simp only[sS,sT,sZ,gU]
   exact h2
 ·simp only[sS,sT,sZ,sP]
  refine And.intro (fun h=>absurd h (by simp)) (fun _=>?_)
  have hN1:=fk.rt
  refine de (fun i=>[.d x0,.d x1,.d x2,.d (.int .i64 ((i:Nat):Int))]) (fun i=>[bG p,cQ p (aJ 13 ((rp p p.tr.length).map aN.enc)) (aJ 10 ((s6 p i).map bU.enc)) (aJ 13 []) (aJ 9 [])]) p.rt.length (fun i hi I hI=>?_) (fun I=>?_)
  ·simp only[sS,sT,sZ,sP]
   refine And.intro (fun _=>?_) (fun h=>absurd h (by simp;omega))
   obtain⟨a,ha⟩:=get_some hi
   have gU:=ba hi p.Kn
   have zR:=HC p i
   refine aO (CN gi B9 oH (i:Int) ot) ?_
   simp only[jH,sS,sT,sZ]
   refine And.intro (fun h=>?_) (fun h=>?_)
   ·have h2:=hI
    rw[show s6 p (i+1)=s6 p i++[a] from C6 h ha,List.map_append,List.map_cons,List.map_nil]at h2
    simp only[sS,sT,sZ,sP,p.EC ha,aaG,DG,DH,show bY 10 1 [(0,a.enc)]=true from rfl]
    refine eN (D2 _ _) (by simp only[List.length_map,List.length_singleton];omega) ?_
    simp only[Ak,ev,aaH,aaI,D1,List.length_singleton,gU,sS,sT,sZ]
    exact⟨by decide,h2⟩
   ·have h2:=hI
    rw[show s6 p (i+1)=s6 p i from Dt h]at h2
    simp only[sS,sT,sZ,gU]
    exact h2
  ·simp only[sS,sT,sZ,sP]
   refine And.intro (fun h=>absurd h (by simp)) (fun _=>?_)
   have Cw:=fk.ra
   refine de (fun i=>[.d x0,.d x1,.d x2,.d (.int .i64 ((i:Nat):Int))]) (fun i=>[bG p,cQ p (aJ 13 ((rp p p.tr.length).map aN.enc)) (aJ 10 ((s6 p p.rt.length).map bU.enc)) (aJ 13 ((uL p i).map bA.enc)) (aJ 9 [])]) p.ra.length (fun i hi I hI=>?_) (fun I=>?_)
   ·simp only[sS,sT,sZ,sP]
    refine And.intro (fun _=>?_) (fun h=>absurd h (by simp;omega))
    obtain⟨a,ha⟩:=get_some hi
    have gU:=ba hi p.Ko
    have zR:=HD p i
    refine aO (CN gi B9 oH (i:Int) oa) ?_
    simp only[jH,sS,sT,sZ]
    refine And.intro (fun h=>?_) (fun h=>?_)
    ·have h2:=hI
     rw[show uL p (i+1)=uL p i++[a] from C6 h ha,List.map_append,List.map_cons,List.map_nil]at h2
     simp only[sS,sT,sZ,sP,p.ED ha,aaJ,DG,DH,show bY 13 1 [(0,a.enc)]=true from rfl]
     refine eN (D2 _ _) (by simp only[List.length_map,List.length_singleton];omega) ?_
     simp only[Ak,ev,aaK,aaL,D1,List.length_singleton,gU,sS,sT,sZ]
     exact⟨by decide,h2⟩
    ·have h2:=hI
     rw[show uL p (i+1)=uL p i from Dt h]at h2
     simp only[sS,sT,sZ,gU]
     exact h2
   ·simp only[sS,sT,sZ,sP]
    refine And.intro (fun h=>absurd h (by simp)) (fun _=>?_)
    have hN3:=fk.fi
    refine de (fun i=>[.d x0,.d x1,.d x2,.d (.int .i64 ((i:Nat):Int))]) (fun i=>[bG p,cQ p (aJ 13 ((rp p p.tr.length).map aN.enc)) (aJ 10 ((s6 p p.rt.length).map bU.enc)) (aJ 13 ((uL p p.ra.length).map bA.enc)) (aJ 9 ((v8 p i).map bO.enc))]) p.fi.length (fun i hi I hI=>?_) (fun I=>?_)
    ·simp only[sS,sT,sZ,sP]
     refine And.intro (fun _=>?_) (fun h=>absurd h (by simp;omega))
     obtain⟨a,ha⟩:=get_some hi
     have gU:=ba hi p.Kr
     have zR:=HE p i
     refine aO (CN pG uc pM (i:Int) []) ?_
     simp only[jH,sS,sT,sZ]
     refine And.intro (fun h=>?_) (fun h=>?_)
     ·have h2:=hI
      rw[show v8 p (i+1)=v8 p i++[a] from C6 h ha,List.map_append,List.map_cons,List.map_nil]at h2
      simp only[sS,sT,sZ,sP,p.EE ha,aaM,DG,DH,show bY 9 1 [(0,a.enc)]=true from rfl]
      refine eN (D2 _ _) (by simp only[List.length_map,List.length_singleton];omega) ?_
      simp only[Ak,ev,aaN,aaO,D1,List.length_singleton,gU,sS,sT,sZ]
      exact⟨by decide,h2⟩
     ·have h2:=hI
      rw[show v8 p (i+1)=v8 p i from Dt h]at h2
      simp only[sS,sT,sZ,gU]
      exact h2
    ·simp only[sS,sT,sZ,sP]
     refine And.intro (fun h=>absurd h (by simp)) (fun _=>?_)
     have hq:xO (qP p):=⟨Nat.le_trans (HB p _) hN0,Nat.le_trans (HC p _) hN1,Nat.le_trans (HD p _) Cw,Nat.le_trans (HE p _) hN3⟩
     have Qy:=Ac (qP p) hq
     rw[Ye]at Qy
     simp only[aaP,sS,sT,sZ]
     refine ec Qy rfl ?_
     simp only[show aD (aa (aJ 8 []))=some (.d (.int .i64 0)) from rfl,sS,sT,sZ,sP]
     refine And.intro (fun _=>?_) (fun h=>absurd h (by simp))
     refine ec (Ac p fk) (fb _ _) ?_
     have ha:=(ed 8 (lT p)).len
     have jd:=NQ (m:=(jM p).length) (n:=(mJ p++mK p).length) (by simp only[maxLen,List.length_append];omega)
     have xB:=NQ (m:=(jM p).length +(mJ p++mK p).length) (n:=(oD p).length) (by simp only[maxLen,List.length_append];omega)
     have agC:(lT p).length =(jM p).length +(mJ p++mK p).length +(oD p).length :=by simp only[lT,List.length_append]
     simp only[ev,ha,KP.len,gi.len,pG.len,jd,xB,agC,sS,sT,sZ]
     refine And.intro (fun _=>?_) (fun h=>absurd h (by simp))
     refine aO rz ?_
     simp only[sS,sT,sZ]
end Go.Proofs.YtaknajjmldngiaaGreat.Ab
