/-
  THE STATEMENT ConflictPairsSaid IS PROVED HERE: for every input the law returns true, and each argument reads behind the call as it read before. Conditions: none beyond the row.
-/
import Derived.Test.YtaknajjmldngiaaTh
import Derived.Test.YtaknajjmldngiaaRows
import Derived.WalkKit
import Derived.ProofKit
import Derived.OpenShut
set_option linter.unusedVariables false
set_option linter.unusedSimpArgs false
namespace Go.Proofs.Ytaknajjmldngiaa.conflictPairs
open Go Go.ChangeShapes Go.WideShapes Go.RowKit Go.Proofs.Ytaknajjmldngiaa.Ab
theorem own:ownKnob Try.prog.godebug=none:=by kernel_rfl
set_option maxRecDepth 100000 in
theorem contract(H:Type)(enc:TypeId×Value→H)(W:World)(base:Nat)(args:Array Value)(ds gs:List (DataW H))(before:List MemPlace)
  (fq:∀(j:Nat)t v,Try.f4.params[j]? =some t→args[j]? =some v→Value.okWide Try.prog W .any base t v)
  (hW:DataW.Whole enc Try.prog Try.f4.params.toList Rows.conflictPairsSpec.vars false W args.toList ds gs before):
  Calls Try.prog 4 args W fun e W'=>∃v,e=.returned v∧Rows.conflictPairsSpec.post enc Try.prog Try.f4 false true false false W args v W':=by
 have z3:=hW
 obtain⟨p,q,Hy,hV,rfl,ZH,nk⟩:=hW
 have hA:DataW.TrodAll enc Try.prog W 0 (fun _=>true) true Try.f4.params.toList args.toList ds p:=Hy
 rw[Try.params4]at hA fq
 obtain⟨v0,bp,d0,ZI,z4,ZJ,Vv,rfl,rfl,h0,r0⟩:=trodAll_cons hA
 obtain⟨rfl,rfl,rfl⟩:=trodAll_nil r0
 obtain rfl:args= #[v0]:=by cases args;simp_all
 obtain⟨rfl,rfl⟩:=trodVars_none hV
 have aS:=z3.lt
 obtain⟨ZK,i0,a0⟩:=KH AZ (t:=22) (by decide) K1 (fq 0 22 v0 (by simp) (by simp)) h0
 obtain⟨l0,x0,rfl,Hz,ZL⟩:=LG i0
 change aK W (tB z4) x0 v0 at a0
 refine IJ (ds:=[d0]) (gs:=[]) (tb:=4) (St:=fun b o=>tB ((z4++([]:List MemPlace))++[]) b o) (yz:=[.d x0]) (Qq l0 Hz) AZ (by rw[Try.params4];decide) rfl z3 rfl rfl rfl rfl Try.underlying4 (fun b o h=>aS _ h) (fun _ _ h=>by cases h) rfl ?_
 intro i x v hx hv
 match i,hx,hv with
 |0,hx,hv=>cases hx;cases hv;exact KI a0 (fun b o h=>List.mem_append_left _ (List.mem_append_left _ h))
 |n+1,hx,hv=>simp at hx
set_option maxRecDepth 100000 in
theorem lifted(os:Os)(started:os.Started)(H:Type)(enc:TypeId×Value→H):
  ReturnsInHanded {} Try.checked os 4 .any (Rows.conflictPairsSpec.pre6 enc Try.prog Try.f4 Rows.conflictPairsRow.domain false) (Rows.conflictPairsSpec.post enc Try.prog Try.f4 false true false false):=by
 refine returnsInHanded_of_change (C:=Try.checked) own started (by kernel_rfl) Try.func4
  (ChangeSpec.witness6 (enc:=enc) (C:=Try.checked) false ⟨#[],#[.slice none 0 0],[]⟩ 12 (by kernel_rfl) (by kernel_rfl) (by kernel_rfl) (by kernel_rfl)) ?_
 intro W base args ds gs before fq hW _ _
 exact contract H enc W base args ds gs before fq hW
theorem over:Rows.conflictPairsRow.holds Try.pinned (OpenSpec.ofChange Rows.conflictPairsSpec):=
 OpenClaim.holds_of_wide 4 Try.f4 rfl rfl rfl rfl rfl rfl rfl ⟨rfl,rfl,rfl,rfl,rfl⟩ rfl rfl rfl rfl rfl (by kernel_rfl) Try.func4 (by kernel_rfl)
  (of_decide_eq_true (by kernel_rfl)) (by unfold Func.isWrapper;first|(rw[if_pos (by decide+kernel)];kernel_rfl)|(rw[if_neg (by decide+kernel)];exact⟨rfl,rfl⟩))
  (fun os started H enc _=>lifted os started H enc)
theorem proved:Rows.ConflictPairsSaid:=over
end Go.Proofs.Ytaknajjmldngiaa.conflictPairs
