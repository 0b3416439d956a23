/-
  LAW: Roles, Files and Policy return the conflicts of a policy.
-/
import Derived.Test.YtaknajjmldngiaaGreatTi
set_option linter.unusedVariables false
set_option linter.unusedSimpArgs false
namespace Go.Proofs.YtaknajjmldngiaaGreat.Ab
open Go
set_option linter.unusedVariables false
set_option maxRecDepth 4000
theorem VL(p:aq):aF Tryz.prog gl 4 [.d (dv p)] (.d (.bool true)):=by
 refine cG aT (bp (fn:=Tryz.f4) (by kernel_rfl) (by kernel_rfl) (by kernel_rfl)) (h:=h4) ?_;rw[adW];intro aW
 obtain⟨b,hb,hB⟩:=Am p
 simp only[sS,sT,sZ,sP]
 refine aO hB ?_
 simp only[jH,sS,sT,sZ]
 refine And.intro (fun h=>?_) (fun h=>?_)
 ·refine aO rz ?_
  simp only[sS,sT,sZ]
 ·have di:=hb (by simpa using h)
  have fk:=D0 di.1
  have KN:=Nat.le_trans di.1.bo (by decide:6≤16)
  obtain⟨a1,a2,a3,a4⟩:=wj fk
  refine ec (F3 p fk.rt fk.ra) (fb _ _) ?_
  refine ec (Lv p fk.rt fk.ra) (fb _ _) ?_
  simp only[sS,sT,sZ,ev]
  refine aO (C5 (Om p) (by rw[M8,M9]) (by simp only[maxLen,List.length_append];omega)) ?_
  simp only[sS,sT,sZ,sP]
  refine And.intro (fun _=>?_) (fun h=>absurd h (by simp))
  refine ec (F4 p fk.fi) (fb _ _) ?_
  refine ec (Lu p fk.fi) (fb _ _) ?_
  simp only[sS,sT,sZ,ev]
  refine aO (C5 (On p) rfl (by simp only[maxLen];omega)) ?_
  simp only[sS,sT,sZ,sP]
  refine And.intro (fun _=>?_) (fun h=>absurd h (by simp))
  refine ec (Ac p fk) (fb _ _) ?_
  refine ec (TY p KN fk) (fb _ _) ?_
  simp only[sS,sT,sZ,ev]
  refine aO (C5 (G8 p) (VJ di.1 di.2) (by simp only[maxLen,lT,List.length_append];omega)) ?_
  simp only[sS,sT,sZ]
  refine And.intro (fun _=>?_) (fun h=>absurd h (by simp))
  refine aO rz ?_
  simp only[sS,sT,sZ]
end Go.Proofs.YtaknajjmldngiaaGreat.Ab
