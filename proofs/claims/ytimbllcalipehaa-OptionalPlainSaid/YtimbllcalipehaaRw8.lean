/-
  THE STATEMENT OptionalPlainSaid IS PROVED HERE: for every input the law returns true, and each argument reads behind the call as it read before. Conditions: none beyond the row.
-/
import Derived.Test.YtimbllcalipehaaTh
import Derived.Test.YtimbllcalipehaaRows
import Derived.WalkKit
import Derived.ProofKit
import Derived.OpenShut
set_option linter.unusedVariables false
set_option linter.unusedSimpArgs false
namespace Go.Proofs.Ytimbllcalipehaa.optionalPlain
open Go Go.ChangeShapes Go.WideShapes Go.RowKit Go.Proofs.Ytimbllcalipehaa.Ab
theorem own:ownKnob Try.prog.godebug=none:=by kernel_rfl
set_option maxRecDepth 100000 in
theorem contract(H:Type)(enc:TypeId×Value→H)(W:World)(base:Nat)(args:Array Value)(ds gs:List (DataW H))(before:List MemPlace)
  (jv:∀(j:Nat)t v,Try.f8.params[j]? =some t→args[j]? =some v→Value.okWide Try.prog W .any base t v)
  (hW:DataW.Whole enc Try.prog Try.f8.params.toList Rows.optionalPlainSpec.vars false W args.toList ds gs before)
  (aH:(DataW.weightsEach Try.prog (Try.f8.params.toList++Rows.optionalPlainSpec.plain.varTypes Try.prog) (ds++gs)).all (· ≤reachBytes)=true):
  Calls Try.prog 8 args W fun e W'=>∃v,e=.returned v∧Rows.optionalPlainSpec.post enc Try.prog Try.f8 false true false false W args v W':=by
 have T9:=hW
 obtain⟨p,q,hA0,hV,rfl,hfz,kZ⟩:=hW
 have hA:DataW.TrodAll enc Try.prog W 0 (fun _=>true) true Try.f8.params.toList args.toList ds p:=hA0
 rw[Try.params8]at hA jv aH
 obtain⟨v0,AG,d0,ds0,Ua,qq0,afX,rfl,rfl,h0,r0⟩:=trodAll_cons hA
 obtain⟨rfl,rfl,rfl⟩:=trodAll_nil r0
 obtain rfl:args= #[v0]:=by cases args;simp_all
 obtain⟨rfl,rfl⟩:=trodVars_none hV
 have aI:=T9.lt
 have afU:∀n∈d0.weights Try.prog 22,n≤reachBytes:=fun n hn=>by
  have:=List.all_eq_true.1 aH n (DataW.weights_mem_each (j:=0) (t:=22) (d:=d0) (by simp) (by simp) n hn)
  simpa using this
 obtain⟨xs0,i0,a0⟩:=XY Qc (t:=22) (by decide) aat (jv 0 22 v0 (by simp) (by simp)) h0 afU
 obtain⟨l0,L0,x0,rfl,yP,uo,hw0⟩:=ad6 i0
 change aU W (z6 Ua) x0 v0 at a0
 refine V0 (ds:=[d0]) (gs:=[]) (tb:=4) (St:=fun b o=>z6 ((Ua++([]:List MemPlace))++[]) b o) (EK:=[.d x0]) (Ws yP uo hw0) Qc (by rw[Try.params8];decide) rfl T9 rfl rfl rfl rfl Try.underlying4 (fun b o h=>aI _ h) (fun _ _ h=>by cases h) rfl ?_
 intro i x v hx hv
 match i,hx,hv with
 |0,hx,hv=>cases hx;cases hv;exact Zk a0 (fun b o h=>List.mem_append_left _ (List.mem_append_left _ h))
 |n+1,hx,hv=>simp at hx
set_option maxRecDepth 100000 in
theorem lifted(os:Os)(started:os.Started)(H:Type)(enc:TypeId×Value→H):
  ReturnsInHanded {} Try.checked os 8 .any (Rows.optionalPlainSpec.pre6 enc Try.prog Try.f8 Rows.optionalPlainRow.domain false) (Rows.optionalPlainSpec.post enc Try.prog Try.f8 false true false false):=by
 refine returnsInHanded_of_change_sized (C:=Try.checked) own started (by kernel_rfl) Try.func8
  (ChangeSpec.witness6 (enc:=enc) (C:=Try.checked) false ⟨#[],#[.slice none 0 0],[]⟩ 12 (by kernel_rfl) (by kernel_rfl) (by kernel_rfl) (by kernel_rfl)) ?_
 intro W base args ds gs before jv hW _ aH _
 exact contract H enc W base args ds gs before jv hW aH
theorem over:Rows.optionalPlainRow.holds Try.pinned (OpenSpec.ofChange Rows.optionalPlainSpec):=
 OpenClaim.holds_of_wide 8 Try.f8 rfl rfl rfl rfl rfl rfl rfl ⟨rfl,rfl,rfl,rfl,rfl⟩ rfl rfl rfl rfl rfl (by kernel_rfl) Try.func8 (by kernel_rfl)
  (of_decide_eq_true (by kernel_rfl)) (by unfold Func.isWrapper;first|(rw[if_pos (by decide+kernel)];kernel_rfl)|(rw[if_neg (by decide+kernel)];exact⟨rfl,rfl⟩))
  (fun os started H enc _=>lifted os started H enc)
theorem proved:Rows.OptionalPlainSaid:=over
end Go.Proofs.Ytimbllcalipehaa.optionalPlain
