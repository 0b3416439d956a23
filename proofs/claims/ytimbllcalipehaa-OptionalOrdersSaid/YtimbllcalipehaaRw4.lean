/-
  THE STATEMENT OptionalOrdersSaid IS PROVED HERE: for every input the law returns true, and each argument reads behind the call as it read before. Conditions: none beyond the row.
-/
import Derived.Test.YtimbllcalipehaaTh
import Derived.Test.YtimbllcalipehaaRows
import Derived.WalkKit
import Derived.ProofKit
import Derived.OpenShut
set_option linter.unusedVariables false
set_option linter.unusedSimpArgs false
namespace Go.Proofs.Ytimbllcalipehaa.optionalOrders
open Go Go.ChangeShapes Go.WideShapes Go.RowKit Go.Proofs.Ytimbllcalipehaa.Ab
theorem own:ownKnob Try.prog.godebug=none:=by kernel_rfl
set_option maxRecDepth 100000 in
theorem contract(H:Type)(enc:TypeId×Value→H)(W:World)(base:Nat)(args:Array Value)(ds gs:List (DataW H))(before:List MemPlace)
  (hZ:∀(j:Nat)t v,Try.f4.params[j]? =some t→args[j]? =some v→Value.okWide Try.prog W .any base t v)
  (hW:DataW.Whole enc Try.prog Try.f4.params.toList Rows.optionalOrdersSpec.vars false W args.toList ds gs before):
  Calls Try.prog 4 args W fun e W'=>∃v,e=.returned v∧Rows.optionalOrdersSpec.post enc Try.prog Try.f4 false true false false W args v W':=by
 have Ew:=hW
 obtain⟨p,q,Na,hV,rfl,hfz,gm⟩:=hW
 have hA:DataW.TrodAll enc Try.prog W 0 (fun _=>true) true Try.f4.params.toList args.toList ds p:=Na
 rw[Try.params4]at hA hZ
 obtain⟨v0,cN,d0,ds0,Ey,qq0,adu,rfl,rfl,h0,r0⟩:=trodAll_cons hA
 obtain⟨v1,ar,d1,ds1,U9,qq1,adv,rfl,rfl,h1,r1⟩:=trodAll_cons r0
 obtain⟨rfl,rfl,rfl⟩:=trodAll_nil r1
 subst adv
 obtain rfl:args= #[v0,v1]:=by cases args;simp_all
 obtain⟨rfl,rfl⟩:=trodVars_none hV
 have aF:=Ew.lt
 obtain⟨xs0,i0,a0⟩:=Jn CI (t:=22) (by decide) Q1 (hZ 0 22 v0 (by simp) (by simp)) h0
 obtain⟨l0,L0,x0,rfl,Nb,rZ⟩:=RO i0
 change aY W (vf Ey) x0 v0 at a0
 obtain⟨xs1,i1,a1⟩:=Jn CI (t:=3) (by decide) aeq (hZ 1 3 v1 (by simp) (by simp)) h1
 obtain⟨n1,rfl⟩:=tn i1
 change aY W (vf U9) (.int .i64 n1) v1 at a1
 refine Oz (ds:=[d0,d1]) (gs:=[]) (tb:=4) (St:=fun b o=>vf ((Ey++(U9++([]:List MemPlace)))++[]) b o) (CZ:=[.d x0,.d (.int .i64 n1)]) (Xq Nb rZ n1) CI (by rw[Try.params4];decide) rfl Ew rfl rfl rfl rfl Try.underlying4 (fun b o h=>aF _ h) (fun _ _ h=>by cases h) rfl ?_
 intro i x v hx hv
 match i,hx,hv with
 |0,hx,hv=>cases hx;cases hv;exact Jo a0 (fun b o h=>List.mem_append_left _ (List.mem_append_left _ h))
 |1,hx,hv=>cases hx;cases hv;exact Jo a1 (fun b o h=>List.mem_append_left _ (List.mem_append_right _ (List.mem_append_left _ h)))
 |n+2,hx,hv=>simp at hx
set_option maxRecDepth 100000 in
theorem lifted(os:Os)(started:os.Started)(H:Type)(enc:TypeId×Value→H):
  ReturnsInHanded {} Try.checked os 4 .any (Rows.optionalOrdersSpec.pre6 enc Try.prog Try.f4 Rows.optionalOrdersRow.domain false) (Rows.optionalOrdersSpec.post enc Try.prog Try.f4 false true false false):=by
 refine returnsInHanded_of_change (C:=Try.checked) own started (by kernel_rfl) Try.func4
  (ChangeSpec.witness6 (enc:=enc) (C:=Try.checked) false ⟨#[],#[.slice none 0 0,.int .i64 0],[]⟩ 12 (by kernel_rfl) (by kernel_rfl) (by kernel_rfl) (by kernel_rfl)) ?_
 intro W base args ds gs before hZ hW _ _
 exact contract H enc W base args ds gs before hZ hW
theorem over:Rows.optionalOrdersRow.holds Try.pinned (OpenSpec.ofChange Rows.optionalOrdersSpec):=
 OpenClaim.holds_of_wide 4 Try.f4 rfl rfl rfl rfl rfl rfl rfl ⟨rfl,rfl,rfl,rfl,rfl⟩ rfl rfl rfl rfl rfl (by kernel_rfl) Try.func4 (by kernel_rfl)
  (of_decide_eq_true (by kernel_rfl)) (by unfold Func.isWrapper;first|(rw[if_pos (by decide+kernel)];kernel_rfl)|(rw[if_neg (by decide+kernel)];exact⟨rfl,rfl⟩))
  (fun os started H enc _=>lifted os started H enc)
theorem proved:Rows.OptionalOrdersSaid:=over
end Go.Proofs.Ytimbllcalipehaa.optionalOrders
