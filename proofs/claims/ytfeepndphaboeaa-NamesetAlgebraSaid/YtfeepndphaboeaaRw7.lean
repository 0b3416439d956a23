/-
  THE STATEMENT NamesetAlgebraSaid IS PROVED HERE: for every input the law returns true, and each argument reads behind the call as it read before. Conditions: none beyond the row.
-/
import Derived.Test.YtfeepndphaboeaaRw0
import Derived.Test.YtfeepndphaboeaaE15
import Derived.Test.YtfeepndphaboeaaRows
import Derived.WalkKit
import Derived.ProofKit
import Derived.OpenShut
set_option linter.unusedVariables false
set_option linter.unusedSimpArgs false
namespace Go.Proofs.Ytfeepndphaboeaa.namesetAlgebra
open Go Go.ChangeShapes Go.WideShapes Go.RowKit Go.Proofs.Ytfeepndphaboeaa.Ab

theorem own : ownKnob Try.prog.godebug = none := by kernel_rfl
theorem contract (H : Type) (enc : TypeId × Value → H) (W : World) (base : Nat) (args : Array Value) (ds gs : List (DataW H)) (before : List MemPlace)
    (hval : ∀ (j : Nat) t v, Try.f7.params[j]? = some t → args[j]? = some v → Value.okWide Try.prog W .any base t v)
    (hW : DataW.Whole enc Try.prog Try.f7.params.toList Rows.namesetAlgebraSpec.vars false W args.toList ds gs before) :
    Calls Try.prog 7 args W fun e W' => ∃ v, e = .returned v ∧ Rows.namesetAlgebraSpec.post enc Try.prog Try.f7 false true false false W args v W' := by
  have hW' := hW
  obtain ⟨p, q, hA0, hV, rfl, hfz, hnd⟩ := hW
  have hA : DataW.TrodAll enc Try.prog W 0 (fun _ => true) true Try.f7.params.toList args.toList ds p := hA0
  rw [Try.params7] at hA hval
  obtain ⟨v0, vs0, d0, ds0, p0, q0, hargs0, rfl, rfl, h0, r0⟩ := trodAll_cons hA
  obtain ⟨v1, vs1, d1, ds1, p1, q1, hargs1, rfl, rfl, h1, r1⟩ := trodAll_cons r0
  obtain ⟨rfl, rfl, rfl⟩ := trodAll_nil r1
  subst hargs1
  obtain rfl : args = #[v0, v1] := by cases args; simp_all
  obtain ⟨rfl, rfl⟩ := trodVars_none hV
  have hlt := hW'.lt
  obtain ⟨xs0, i0, a0⟩ := arg_rep closed09 (t := 29) (by decide) agg29 (hval 0 29 v0 rfl rfl) h0
  obtain ⟨n0, hn0⟩ := is_ns i0
  rw [hn0] at a0
  obtain ⟨xs1, i1, a1⟩ := arg_rep closed09 (t := 25) (by decide) agg25 (hval 1 25 v1 rfl rfl) h1
  obtain ⟨e1, he1⟩ := is_env i1
  rw [he1] at a1
  refine calls_post (ds := [d0, d1]) (gs := []) (tb := 4) (St := fun b o => InPs ((p0 ++ (p1 ++ ([] : List MemPlace))) ++ []) b o) (dargs := [.d n0.enc, .d e1.enc]) (law7_holds n0 e1) closed09 (by rw [Try.params7]; decide) rfl hW' rfl rfl rfl rfl Try.underlying4 (fun b o h => hlt _ h) (fun _ _ h => by cases h) rfl ?_
  intro i x v hx hv
  match i, hx, hv with
  | 0, hx, hv => cases hx; cases hv; exact rep_arg a0 (fun b o h => List.mem_append_left _ (List.mem_append_left _ h))
  | 1, hx, hv => cases hx; cases hv; exact rep_arg a1 (fun b o h => List.mem_append_left _ (List.mem_append_right _ (List.mem_append_left _ h)))
  | n + 2, hx, hv => simp at hx

set_option maxRecDepth 100000 in
theorem lifted (os : Os) (started : os.Started) (H : Type) (enc : TypeId × Value → H) :
    ReturnsInHanded {} Try.checked os 7 .any (Rows.namesetAlgebraSpec.pre6 enc Try.prog Try.f7 Rows.namesetAlgebraRow.domain false) (Rows.namesetAlgebraSpec.post enc Try.prog Try.f7 false true false false) := by
  refine returnsInHanded_of_change (C := Try.checked) own started (by kernel_rfl) Try.func7
    (ChangeSpec.witness6 (enc := enc) (C := Try.checked) false ⟨#[], #[.agg #[.bool false, .bool false, .bool false, .slice none 0 0, .slice none 0 0], .agg #[.slice none 0 0, .slice none 0 0]], []⟩ 8 (by kernel_rfl) (by kernel_rfl) (by kernel_rfl) (by kernel_rfl)) ?_
  intro W base args ds gs before hval hW _ _
  exact contract H enc W base args ds gs before hval hW

theorem over : Rows.namesetAlgebraRow.holds Try.pinned (OpenSpec.ofChange Rows.namesetAlgebraSpec) :=
  OpenClaim.holds_of_wide 7 Try.f7 rfl rfl rfl rfl rfl rfl rfl ⟨rfl, rfl, rfl, rfl, rfl⟩ rfl rfl rfl rfl rfl (by kernel_rfl) Try.func7 (by kernel_rfl)
    (of_decide_eq_true (by kernel_rfl)) (by unfold Func.isWrapper; first | (rw [if_pos (by decide +kernel)]; kernel_rfl) | (rw [if_neg (by decide +kernel)]; exact ⟨rfl, rfl⟩))
    (fun os started H enc _ => lifted os started H enc)

theorem proved : Rows.NamesetAlgebraSaid := over
end Go.Proofs.Ytfeepndphaboeaa.namesetAlgebra
