/-
  THE STATEMENT ConflictTransitionsSaid IS PROVED HERE: for every input the law returns true, and each argument reads behind the call as it read before. Conditions: none beyond the row.
-/
import Derived.Test.YtaknajjmldngiaaGreatTi
import Derived.Test.YtaknajjmldngiaaGreatRwPol
import Derived.Test.YtaknajjmldngiaaGreatRows
import Derived.WalkKit
import Derived.ProofKit
import Derived.OpenShut
set_option linter.unusedVariables false
set_option linter.unusedSimpArgs false
namespace Go.Proofs.YtaknajjmldngiaaGreat.conflictTransitions
open Go Go.ChangeShapes Go.WideShapes Go.RowKit Go.Proofs.YtaknajjmldngiaaGreat.Ab
theorem own:ownKnob Tryz.prog.godebug=none:=by kernel_rfl
set_option maxRecDepth 100000 in
theorem contract(H:Type)(enc:TypeId×Value→H)(W:World)(base:Nat)(args:Array Value)(ds gs:List (DataW H))(before:List MemPlace)
  (ew:∀(j:Nat)t v,Tryz.f3.params[j]? =some t→args[j]? =some v→Value.okWide Tryz.prog W .any base t v)
  (hW:DataW.Whole enc Tryz.prog Tryz.f3.params.toList Rows.conflictTransitionsSpec.vars false W args.toList ds gs before):
  Calls Tryz.prog 3 args W fun e W'=>∃v,e=.returned v∧Rows.conflictTransitionsSpec.post enc Tryz.prog Tryz.f3 false true false false W args v W':=by
 have nX:=hW
 obtain⟨p,q,uM,hV,rfl,Fy,lY⟩:=hW
 have hA:DataW.TrodAll enc Tryz.prog W 0 (fun _=>true) true Tryz.f3.params.toList args.toList ds p:=uM
 rw[Tryz.params3]at hA ew
 obtain⟨v0,aZ,d0,Fz,uN,FA,D3,rfl,rfl,h0,r0⟩:=trodAll_cons hA
 obtain⟨rfl,rfl,rfl⟩:=trodAll_nil r0
 obtain rfl:args= #[v0]:=by cases args;simp_all
 obtain⟨rfl,rfl⟩:=trodVars_none hV
 have aV:=nX.lt
 obtain⟨FB,i0,a0⟩:=AG rM (t:=39) (by decide) AR (ew 0 39 v0 (by simp) (by simp)) h0
 obtain⟨e0,uO⟩:=A1 i0
 rw[uO]at a0
 refine Ai (ds:=[d0]) (gs:=[]) (tb:=4) (St:=fun b o=>tL ((uN++([]:List MemPlace))++[]) b o) (vq:=[.d (dv e0)]) (VK e0) rM (by rw[Tryz.params3];decide) rfl nX rfl rfl rfl rfl Tryz.underlying4 (fun b o h=>aV _ h) (fun _ _ h=>by cases h) rfl ?_
 intro i x v hx hv
 match i,hx,hv with
 |0,hx,hv=>cases hx;cases hv;exact AH a0 (fun b o h=>List.mem_append_left _ (List.mem_append_left _ h))
 |n+1,hx,hv=>simp at hx
set_option maxRecDepth 100000 in
theorem lifted(os:Os)(started:os.Started)(H:Type)(enc:TypeId×Value→H):
  ReturnsInHanded {} Tryz.checked os 3 .any (Rows.conflictTransitionsSpec.pre6 enc Tryz.prog Tryz.f3 Rows.conflictTransitionsRow.domain false) (Rows.conflictTransitionsSpec.post enc Tryz.prog Tryz.f3 false true false false):=by
 refine returnsInHanded_of_change (C:=Tryz.checked) own started (by kernel_rfl) Tryz.func3
  (ChangeSpec.witness6 (enc:=enc) (C:=Tryz.checked) false ⟨#[],#[.agg #[.slice none 0 0,.slice none 0 0,.slice none 0 0,.slice none 0 0,.slice none 0 0,.slice none 0 0,.slice none 0 0,.slice none 0 0,.slice none 0 0,.slice none 0 0,.slice none 0 0,.slice none 0 0,.slice none 0 0,.slice none 0 0,.slice none 0 0,.slice none 0 0,.slice none 0 0]],[]⟩ 12 (by kernel_rfl) (by kernel_rfl) (by kernel_rfl) (by kernel_rfl)) ?_
 intro W base args ds gs before ew hW _ _
 exact contract H enc W base args ds gs before ew hW
theorem over:Rows.conflictTransitionsRow.holds Tryz.pinned (OpenSpec.ofChange Rows.conflictTransitionsSpec):=
 OpenClaim.holds_of_wide 3 Tryz.f3 rfl rfl rfl rfl rfl rfl rfl ⟨rfl,rfl,rfl,rfl,rfl⟩ rfl rfl rfl rfl rfl (by kernel_rfl) Tryz.func3 (by kernel_rfl)
  (of_decide_eq_true (by kernel_rfl)) (by unfold Func.isWrapper;first|(rw[if_pos (by decide+kernel)];kernel_rfl)|(rw[if_neg (by decide+kernel)];exact⟨rfl,rfl⟩))
  (fun os started H enc _=>lifted os started H enc)
theorem proved:Rows.ConflictTransitionsSaid:=over
end Go.Proofs.YtaknajjmldngiaaGreat.conflictTransitions
