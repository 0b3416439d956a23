/-
  THE STATEMENT ConstraintBackSaid IS PROVED HERE: for every input the law returns true, and each argument reads behind the call as it read before. Conditions: none beyond the row.
-/
import Derived.Test.YtcnnhnjcnekhcaaGreatL8
import Derived.Test.YtcnnhnjcnekhcaaGreatRwPol
import Derived.Test.YtcnnhnjcnekhcaaGreatRows
import Derived.WalkKit
import Derived.ProofKit
import Derived.OpenShut
set_option linter.unusedVariables false
set_option linter.unusedSimpArgs false
namespace Go.Proofs.YtcnnhnjcnekhcaaGreat.constraintBack
open Go Go.ChangeShapes Go.WideShapes Go.RowKit Go.Proofs.YtcnnhnjcnekhcaaGreat.Ab

theorem own : ownKnob Tryz.prog.godebug = none := by kernel_rfl
set_option maxRecDepth 100000 in
theorem contract (H : Type) (enc : TypeId × Value → H) (W : World) (base : Nat) (args : Array Value) (ds gs : List (DataW H)) (before : List MemPlace)
    (hval : ∀ (j : Nat) t v, Tryz.f8.params[j]? = some t → args[j]? = some v → Value.okWide Tryz.prog W .any base t v)
    (hW : DataW.Whole enc Tryz.prog Tryz.f8.params.toList Rows.constraintBackSpec.vars false W args.toList ds gs before) :
    Calls Tryz.prog 8 args W fun e W' => ∃ v, e = .returned v ∧ Rows.constraintBackSpec.post enc Tryz.prog Tryz.f8 false true false false W args v W' := by
  have hW' := hW
  obtain ⟨p, q, hA0, hV, rfl, hfz, hnd⟩ := hW
  have hA : DataW.TrodAll enc Tryz.prog W 0 (fun _ => true) true Tryz.f8.params.toList args.toList ds p := hA0
  rw [Tryz.params8] at hA hval
  obtain ⟨v0, vs0, d0, ds0, pp0, qq0, hargs0, rfl, rfl, h0, r0⟩ := trodAll_cons hA
  obtain ⟨v1, vs1, d1, ds1, pp1, qq1, hargs1, rfl, rfl, h1, r1⟩ := trodAll_cons r0
  obtain ⟨v2, vs2, d2, ds2, pp2, qq2, hargs2, rfl, rfl, h2, r2⟩ := trodAll_cons r1
  obtain ⟨rfl, rfl, rfl⟩ := trodAll_nil r2
  subst hargs1
  subst hargs2
  obtain rfl : args = #[v0, v1, v2] := by cases args; simp_all
  obtain ⟨rfl, rfl⟩ := trodVars_none hV
  have hlt := hW'.lt
  obtain ⟨xs0, i0, a0⟩ := arg_rep closedP (t := 28) (by decide) agg_ex (hval 0 28 v0 (by simp) (by simp)) h0
  obtain ⟨e0, he0⟩ := is_ex i0
  obtain ⟨xs1, i1, a1⟩ := arg_rep closedP (t := 44) (by decide) agg_pol (hval 1 44 v1 (by simp) (by simp)) h1
  obtain ⟨e1, he1⟩ := is_pol i1
  rw [he1] at a1
  obtain ⟨xs2, i2, a2⟩ := arg_rep closedP (t := 4) (by decide) agg_b (hval 2 4 v2 (by simp) (by simp)) h2
  obtain ⟨b2, rfl⟩ := is_bool i2
  change RepD W (InPs pp2) (.bool b2) v2 at a2
  refine calls_post (ds := [d0, d1, d2]) (gs := []) (tb := 4) (St := fun b o => InPs ((pp0 ++ (pp1 ++ (pp2 ++ ([] : List MemPlace)))) ++ []) b o) (dargs := [.d (pack true xs0), .d (dPol e1), .d (.bool b2)]) (law8_holds he0 e1 b2) closedP (by rw [Tryz.params8]; decide) rfl hW' rfl rfl rfl rfl Tryz.underlying4 (fun b o h => hlt _ h) (fun _ _ h => by cases h) rfl ?_
  intro i x v hx hv
  match i, hx, hv with
  | 0, hx, hv => cases hx; cases hv; exact rep_arg a0 (fun b o h => List.mem_append_left _ (List.mem_append_left _ h))
  | 1, hx, hv => cases hx; cases hv; exact rep_arg a1 (fun b o h => List.mem_append_left _ (List.mem_append_right _ (List.mem_append_left _ h)))
  | 2, hx, hv => cases hx; cases hv; exact rep_arg a2 (fun b o h => List.mem_append_left _ (List.mem_append_right _ (List.mem_append_right _ (List.mem_append_left _ h))))
  | n + 3, hx, hv => simp at hx

set_option maxRecDepth 100000 in
theorem lifted (os : Os) (started : os.Started) (H : Type) (enc : TypeId × Value → H) :
    ReturnsInHanded {} Tryz.checked os 8 .any (Rows.constraintBackSpec.pre6 enc Tryz.prog Tryz.f8 Rows.constraintBackRow.domain false) (Rows.constraintBackSpec.post enc Tryz.prog Tryz.f8 false true false false) := by
  refine returnsInHanded_of_change (C := Tryz.checked) own started (by kernel_rfl) Tryz.func8
    (ChangeSpec.witness6 (enc := enc) (C := Tryz.checked) false ⟨#[], #[.agg #[.int .i64 0, .int .i64 0, .int .i64 0, .int .i64 0, .slice none 0 0, .int .u64 0, .int .u64 0, .int .u64 0, .int .u64 0, .slice none 0 0], .agg #[.slice none 0 0, .slice none 0 0, .slice none 0 0, .slice none 0 0, .slice none 0 0, .slice none 0 0, .slice none 0 0, .slice none 0 0, .slice none 0 0, .slice none 0 0, .slice none 0 0, .slice none 0 0, .slice none 0 0, .slice none 0 0, .slice none 0 0, .slice none 0 0, .slice none 0 0], .bool false], []⟩ 12 (by kernel_rfl) (by kernel_rfl) (by kernel_rfl) (by kernel_rfl)) ?_
  intro W base args ds gs before hval hW _ _
  exact contract H enc W base args ds gs before hval hW

theorem over : Rows.constraintBackRow.holds Tryz.pinned (OpenSpec.ofChange Rows.constraintBackSpec) :=
  OpenClaim.holds_of_wide 8 Tryz.f8 rfl rfl rfl rfl rfl rfl rfl ⟨rfl, rfl, rfl, rfl, rfl⟩ rfl rfl rfl rfl rfl (by kernel_rfl) Tryz.func8 (by kernel_rfl)
    (of_decide_eq_true (by kernel_rfl)) (by unfold Func.isWrapper; first | (rw [if_pos (by decide +kernel)]; kernel_rfl) | (rw [if_neg (by decide +kernel)]; exact ⟨rfl, rfl⟩))
    (fun os started H enc _ => lifted os started H enc)

theorem proved : Rows.ConstraintBackSaid := over
end Go.Proofs.YtcnnhnjcnekhcaaGreat.constraintBack
