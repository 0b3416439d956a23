/-
  THE STATEMENT OptionalEnabledSaid IS PROVED HERE: for every input the law returns true, and each argument reads behind the call as it read before. Conditions: none beyond the row.
-/
import Derived.Test.YtimbllcalipehaaTi
import Derived.Test.YtimbllcalipehaaRows
import Derived.WalkKit
import Derived.ProofKit
import Derived.OpenShut
set_option linter.unusedVariables false
set_option linter.unusedSimpArgs false
namespace Go.Proofs.Ytimbllcalipehaa.optionalEnabled
open Go Go.ChangeShapes Go.WideShapes Go.RowKit Go.Proofs.Ytimbllcalipehaa.Ab
theorem own:ownKnob Try.prog.godebug=none:=by kernel_rfl
set_option maxRecDepth 100000 in
theorem contract(H:Type)(enc:TypeId×Value→H)(W:World)(base:Nat)(args:Array Value)(ds gs:List (DataW H))(before:List MemPlace)
  (mN:∀(j:Nat)t v,Try.f3.params[j]? =some t→args[j]? =some v→Value.okWide Try.prog W .any base t v)
  (hW:DataW.Whole enc Try.prog Try.f3.params.toList Rows.optionalEnabledSpec.vars false W args.toList ds gs before):
  Calls Try.prog 3 args W fun e W'=>∃v,e=.returned v∧Rows.optionalEnabledSpec.post enc Try.prog Try.f3 false true false false W args v W':=by
 have hW':=hW
 obtain⟨p,q,hA0,hV,rfl,hfz,nF⟩:=hW
 have hA:DataW.TrodAll enc Try.prog W 0 (fun _=>true) true Try.f3.params.toList args.toList ds p:=hA0
 rw[Try.params3]at hA mN
 obtain⟨v0,bC,d0,ds0,pp0,qq0,amQ,rfl,rfl,h0,r0⟩:=trodAll_cons hA
 obtain⟨rfl,rfl,rfl⟩:=trodAll_nil r0
 obtain rfl:args= #[v0]:=by cases args;simp_all
 obtain⟨rfl,rfl⟩:=trodVars_none hV
 have aO:=hW'.lt
 obtain⟨xs0,i0,a0⟩:=afJ XN (t:=22) (by decide) ag5 (mN 0 22 v0 (by simp) (by simp)) h0
 obtain⟨l0,L0,x0,rfl,hx0,zu⟩:=ajp i0
 change bh W (Eh pp0) x0 v0 at a0
 refine ab6 (ds:=[d0]) (gs:=[]) (tb:=4) (St:=fun b o=>Eh ((pp0++([]:List MemPlace))++[]) b o) (KN:=[.d x0]) (acI hx0 zu) XN (by rw[Try.params3];decide) rfl hW' rfl rfl rfl rfl Try.underlying4 (fun b o h=>aO _ h) (fun _ _ h=>by cases h) rfl ?_
 intro i x v hx hv
 match i,hx,hv with
 |0,hx,hv=>cases hx;cases hv;exact afK a0 (fun b o h=>List.mem_append_left _ (List.mem_append_left _ h))
 |n+1,hx,hv=>simp at hx
set_option maxRecDepth 100000 in
theorem lifted(os:Os)(started:os.Started)(H:Type)(enc:TypeId×Value→H):
  ReturnsInHanded {} Try.checked os 3 .any (Rows.optionalEnabledSpec.pre6 enc Try.prog Try.f3 Rows.optionalEnabledRow.domain false) (Rows.optionalEnabledSpec.post enc Try.prog Try.f3 false true false false):=by
 refine returnsInHanded_of_change (C:=Try.checked) own started (by kernel_rfl) Try.func3
  (ChangeSpec.witness6 (enc:=enc) (C:=Try.checked) false ⟨#[],#[.slice none 0 0],[]⟩ 12 (by kernel_rfl) (by kernel_rfl) (by kernel_rfl) (by kernel_rfl)) ?_
 intro W base args ds gs before mN hW _ _
 exact contract H enc W base args ds gs before mN hW
theorem over:Rows.optionalEnabledRow.holds Try.pinned (OpenSpec.ofChange Rows.optionalEnabledSpec):=
 OpenClaim.holds_of_wide 3 Try.f3 rfl rfl rfl rfl rfl rfl rfl ⟨rfl,rfl,rfl,rfl,rfl⟩ rfl rfl rfl rfl rfl (by kernel_rfl) Try.func3 (by kernel_rfl)
  (of_decide_eq_true (by kernel_rfl)) (by unfold Func.isWrapper;first|(rw[if_pos (by decide+kernel)];kernel_rfl)|(rw[if_neg (by decide+kernel)];exact⟨rfl,rfl⟩))
  (fun os started H enc _=>lifted os started H enc)
theorem proved:Rows.OptionalEnabledSaid:=over
end Go.Proofs.Ytimbllcalipehaa.optionalEnabled
