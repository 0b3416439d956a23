/-
  THE STATEMENT OptionalFlattensSaid IS PROVED HERE: for every input the law returns true, and each argument reads behind the call as it read before. Conditions: none beyond the row.
-/
import Derived.Test.YtimbllcalipehaaTi
import Derived.Test.YtimbllcalipehaaRows
import Derived.WalkKit
import Derived.ProofKit
import Derived.OpenShut
set_option linter.unusedVariables false
set_option linter.unusedSimpArgs false
namespace Go.Proofs.Ytimbllcalipehaa.optionalFlattens
open Go Go.ChangeShapes Go.WideShapes Go.RowKit Go.Proofs.Ytimbllcalipehaa.Ab
theorem own:ownKnob Try.prog.godebug=none:=by kernel_rfl
set_option maxRecDepth 100000 in
theorem contract(H:Type)(enc:TypeId×Value→H)(W:World)(base:Nat)(args:Array Value)(ds gs:List (DataW H))(before:List MemPlace)
  (nI:∀(j:Nat)t v,Try.f7.params[j]? =some t→args[j]? =some v→Value.okWide Try.prog W .any base t v)
  (hW:DataW.Whole enc Try.prog Try.f7.params.toList Rows.optionalFlattensSpec.vars false W args.toList ds gs before)
  (aN:(DataW.weightsEach Try.prog (Try.f7.params.toList++Rows.optionalFlattensSpec.plain.varTypes Try.prog) (ds++gs)).all (· ≤reachBytes)=true):
  Calls Try.prog 7 args W fun e W'=>∃v,e=.returned v∧Rows.optionalFlattensSpec.post enc Try.prog Try.f7 false true false false W args v W':=by
 have hW':=hW
 obtain⟨p,q,hA0,hV,rfl,hfz,oC⟩:=hW
 have hA:DataW.TrodAll enc Try.prog W 0 (fun _=>true) true Try.f7.params.toList args.toList ds p:=hA0
 rw[Try.params7]at hA nI aN
 obtain⟨v0,aZ,d0,ds0,pp0,qq0,arW,rfl,rfl,h0,r0⟩:=trodAll_cons hA
 obtain⟨rfl,rfl,rfl⟩:=trodAll_nil r0
 obtain rfl:args= #[v0]:=by cases args;simp_all
 obtain⟨rfl,rfl⟩:=trodVars_none hV
 have aP:=hW'.lt
 have arT:∀n∈d0.weights Try.prog 22,n≤reachBytes:=fun n hn=>by
  have:=List.all_eq_true.1 aN n (DataW.weights_mem_each (j:=0) (t:=22) (d:=d0) (by simp) (by simp) n hn)
  simpa using this
 obtain⟨xs0,i0,a0⟩:=ahD aaB (t:=22) (by decide) akz (nI 0 22 v0 (by simp) (by simp)) h0 arT
 obtain⟨l0,L0,x0,rfl,A5,AA,hw0⟩:=aoU i0
 change bp W (FE pp0) x0 v0 at a0
 refine afm (ds:=[d0]) (gs:=[]) (tb:=4) (St:=fun b o=>FE ((pp0++([]:List MemPlace))++[]) b o) (MQ:=[.d x0]) (afY A5 AA hw0) aaB (by rw[Try.params7];decide) rfl hW' rfl rfl rfl rfl Try.underlying4 (fun b o h=>aP _ h) (fun _ _ h=>by cases h) rfl ?_
 intro i x v hx hv
 match i,hx,hv with
 |0,hx,hv=>cases hx;cases hv;exact ai9 a0 (fun b o h=>List.mem_append_left _ (List.mem_append_left _ h))
 |n+1,hx,hv=>simp at hx
set_option maxRecDepth 100000 in
theorem lifted(os:Os)(started:os.Started)(H:Type)(enc:TypeId×Value→H):
  ReturnsInHanded {} Try.checked os 7 .any (Rows.optionalFlattensSpec.pre6 enc Try.prog Try.f7 Rows.optionalFlattensRow.domain false) (Rows.optionalFlattensSpec.post enc Try.prog Try.f7 false true false false):=by
 refine returnsInHanded_of_change_sized (C:=Try.checked) own started (by kernel_rfl) Try.func7
  (ChangeSpec.witness6 (enc:=enc) (C:=Try.checked) false ⟨#[],#[.slice none 0 0],[]⟩ 12 (by kernel_rfl) (by kernel_rfl) (by kernel_rfl) (by kernel_rfl)) ?_
 intro W base args ds gs before nI hW _ aN _
 exact contract H enc W base args ds gs before nI hW aN
theorem over:Rows.optionalFlattensRow.holds Try.pinned (OpenSpec.ofChange Rows.optionalFlattensSpec):=
 OpenClaim.holds_of_wide 7 Try.f7 rfl rfl rfl rfl rfl rfl rfl ⟨rfl,rfl,rfl,rfl,rfl⟩ rfl rfl rfl rfl rfl (by kernel_rfl) Try.func7 (by kernel_rfl)
  (of_decide_eq_true (by kernel_rfl)) (by unfold Func.isWrapper;first|(rw[if_pos (by decide+kernel)];kernel_rfl)|(rw[if_neg (by decide+kernel)];exact⟨rfl,rfl⟩))
  (fun os started H enc _=>lifted os started H enc)
theorem proved:Rows.OptionalFlattensSaid:=over
end Go.Proofs.Ytimbllcalipehaa.optionalFlattens
