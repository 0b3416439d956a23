/-
  LAW: two transitions are in conflict exactly if they disagree in a state.
-/
import Derived.Test.YtaknajjmldngiaaGreatTi
set_option linter.unusedVariables false
set_option linter.unusedSimpArgs false
namespace Go.Proofs.YtaknajjmldngiaaGreat.Ab
open Go
set_option linter.unusedVariables false
set_option maxRecDepth 4000
theorem VM(p:aq):aF Tryz.prog gl 5 [.d (dv p)] (.d (.bool true)):=by
 refine cG aT (bp (fn:=Tryz.f5) (by kernel_rfl) (by kernel_rfl) (by kernel_rfl)) (h:=h5) ?_;rw[adX];intro aW
 obtain⟨b,hb,hB⟩:=Am p
 simp only[sS,sT,sZ,sP]
 refine aO hB ?_
 simp only[jH,sS,sT,sZ]
 refine And.intro (fun h=>?_) (fun h=>?_)
 ·refine aO rz ?_
  simp only[sS,sT,sZ]
 ·have di:=hb (by simpa using h)
  clear hB hb aW
  have fk:=D0 di.1
  have KN:=Nat.le_trans di.1.bo (by decide:6≤16)
  obtain⟨a1,a2,a3,a4⟩:=wj fk
  refine ec (Cx p fk.tr) (fb _ _) ?_
  simp only[sS,sT,sZ,ev]
  let T:Nat→Nat→Bool:=fun i k=>lI p (p.tr.getD i jZ) (p.tr.getD k jZ)
  let c:Nat→Nat→D:=fun i k=>bH 16 i k (p.tr.getD i jZ).name
  have hN:=fk.tr
  have hM:p.tr.length≤maxLen:=by simp only[maxLen];omega
  have hL:jM p=jC T c p.tr.length:=rfl
  have hS:(jM p).length ≤maxLen:=by simp only[maxLen];omega
  have hx:=ed 8 (jM p)
  generalize cU 8 (jM p)=x at hx ⊢
  refine de (fun i=>[.d x,.d (.int .i64 ((dc T c p.tr.length i).length :Int)),.d (.int .i64 ((i:Nat):Int))]) (fun i=>[bG p]) p.tr.length (fun i hi I hI=>?_) (fun I=>?_)
  ·simp only[sS,sT,sZ,sP]
   refine And.intro (fun _=>?_) (fun h=>absurd h (by simp;omega))
   refine bL (ba hi hM) ?_
   obtain⟨a,ha⟩:=get_some hi
   have b4:(dc T c p.tr.length i).length =(dc T c p.tr.length i++ei T c i (i+1)).length :=by rw[rq,List.append_nil]
   rw[b4]
   refine de (fun j=>[.d x,.d (.int .i64 ((dc T c p.tr.length i++ei T c i (i+1+j)).length :Int)),.d (.int .i64 (i:Int)),.d (.int .i64 ((i+1+j:Nat):Int))]) (fun j=>[bG p]) (p.tr.length-(i+1)) (fun j hj I2 cD=>?_) (fun I2=>?_)
   ·have hk:i+1+j<p.tr.length:=by omega
    simp only[sS,sT,sZ,sP]
    refine And.intro (fun _=>?_) (fun h=>absurd (of_decide_eq_false h) (by omega))
    obtain⟨b,hb⟩:=get_some hk
    have hT:T i (i+1+j)=lI p a b:=by simp only[T,getD_some ha,getD_some hb]
    have hc:c i (i+1+j)=bH 16 i (i+1+j:Nat) a.name:=by simp only[c,getD_some ha]
    have gU:=ba hk hM
    simp only[p.sg ha,p.sg hb,sS,sT,sZ,sP]
    refine aO (TC p a b KN) ?_
    rw[ac9 di.1 di.2 (di.2.tr i a ha)]
    simp only[jH,sS,sT,sZ,sP]
    refine And.intro (fun h=>?_) (fun h=>?_)
    ·simp only[gU,sS,sT,sZ]
     have h2:=cD
     rw[y5 (by omega) (hT.trans (by simpa using h))]at h2
     exact h2
    ·have h1:T i (i+1+j)=true:=hT.trans (by simpa using h)
     have KO:=OZ (c:=c) (show i<i+1+j by omega) hk h1
     rw[←hL,hc]at KO
     have aV:=(List.getElem?_eq_some_iff.1 KO).1
     have h2:=cD
     rw[AP (by omega) h1,←List.append_assoc,List.length_append]at h2
     have agB:=ba aV hS
     simp only[hx.len,sS,sT,sZ]
     refine And.intro (fun h=>absurd (of_decide_eq_true h) (by omega)) (fun _=>?_)
     rw[hx.at KO]
     simp only[show az true 8 (.aA (bH 16 i (i+1+j:Nat) a.name) 0)=some (.d (bH 16 i (i+1+j:Nat) a.name)) from rfl,p.sg ha,show dT (.aA a.enc 0) 10=some (.aA a.enc 10) from rfl,show az false 1 (.aA a.enc 10)=some (.d (.str a.name)) from rfl,sS,sT,sZ,sP,As,At,Pm,beq_self_eq_true,Bool.and_self,Bool.not_true,gU,agB]
     refine And.intro (fun h=>absurd h (by simp)) (fun _=>?_)
     exact h2
   ·have e:i+1+(p.tr.length-(i+1))=p.tr.length:=by omega
    simp only[sS,sT,sZ,sP,e]
    refine And.intro (fun h=>absurd h (by simp)) (fun _=>?_)
    refine bL (ba hi hM) ?_
    rw[←n7]
    exact hI
  ·simp only[sS,sT,sZ,sP,hx.len]
   have hl:dc T c p.tr.length p.tr.length=jM p:=rfl
   rw[hl]
   refine And.intro (fun h=>absurd h (by simp)) (fun _=>?_)
   refine And.intro (fun _=>?_) (fun h=>absurd h (by simp))
   refine aO rz ?_
   simp only[sS,sT,sZ]
end Go.Proofs.YtaknajjmldngiaaGreat.Ab
