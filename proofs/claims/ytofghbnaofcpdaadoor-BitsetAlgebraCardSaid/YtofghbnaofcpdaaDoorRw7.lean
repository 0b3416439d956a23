/-
  THE STATEMENT BitsetAlgebraCardSaid IS PROVED HERE: for every input the law returns true, and each argument reads behind the call as it read before. Condition: the listed table math/bits.deBruijn64tab holds what the program lays into it (the card ties that to the text).
-/
import Derived.Test.YtofghbnaofcpdaaDoorRw0
import Derived.Test.YtofghbnaofcpdaaDoorCards
import Derived.Test.YtofghbnaofcpdaaDoorTie
import Derived.WalkKit
import Derived.ProofKit
import Derived.OpenShut
import Derived.Deep.DeepHandedRow
import Derived.Lib.LaidTab
set_option linter.unusedVariables false
set_option linter.unusedSimpArgs false
namespace Go.Proofs.YtofghbnaofcpdaaDoor.bitsetAlgebra
open Go Go.ChangeShapes Go.WideShapes Go.RowKit Go.Proofs.YtofghbnaofcpdaaDoor.Ab

theorem own : ownKnob Tryd.prog.godebug = none := by kernel_rfl
theorem gTab : Tryd.prog.globalNamed "math/bits.deBruijn64tab" = some 0 := by kernel_rfl
theorem gTabType : (Tryd.prog.globals[0]?).map (·.type) = some 43 := by kernel_rfl
theorem cells43 : Tryd.prog.cellsOf 43 = 64 := by kernel_rfl
theorem cells5 : Tryd.prog.cellsOf 5 = 1 := by kernel_rfl
theorem table {W : World} (h : laidMetH Tryd.prog Rows.bitsetAlgebraRow.laid W) : Lib.TabIs Tryd.prog W "math/bits.deBruijn64tab" .u8 tz64 :=
  Lib.tabIs_of_head (rest := []) gTab gTabType Tryd.underlying43 Tryd.underlying5 cells5 cells43 h
theorem glTab (n : Nat) (x : D) (h : gl n = some x) : n = 0 ∧ x = .agg (tz64.map (.int .u8)) := by
  unfold gl at h
  cases hb : Nat.beq n 0 with
  | true => rw [hb] at h; exact ⟨Nat.eq_of_beq_eq_true hb, (Option.some.inj h).symm⟩
  | false => rw [hb] at h; cases h

theorem contract (H : Type) (enc : TypeId × Value → H) (W : World) (base : Nat) (args : Array Value) (ds gs : List (DataW H)) (before : List MemPlace)
    (hval : ∀ (j : Nat) t v, Tryd.f7.params[j]? = some t → args[j]? = some v → Value.okWide Tryd.prog W .any base t v)
    (hW : DataW.Whole enc Tryd.prog Tryd.f7.params.toList Rows.bitsetAlgebraSpec.vars false W args.toList ds gs before) (hL : laidMetH Tryd.prog Rows.bitsetAlgebraRow.laid W) :
    Calls Tryd.prog 7 args W fun e W' => ∃ v, e = .returned v ∧ Rows.bitsetAlgebraSpec.post enc Tryd.prog Tryd.f7 false true false false W args v W' := by
  have hW' := hW
  obtain ⟨p, q, hA0, hV, rfl, hfz, hnd⟩ := hW
  have hA : DataW.TrodAll enc Tryd.prog W 0 (fun _ => true) true Tryd.f7.params.toList args.toList ds p := hA0
  rw [Tryd.params7] at hA hval
  obtain ⟨v0, vs0, d0, ds0, p0, q0, hargs0, rfl, rfl, h0, r0⟩ := trodAll_cons hA
  obtain ⟨v1, vs1, d1, ds1, p1, q1, hargs1, rfl, rfl, h1, r1⟩ := trodAll_cons r0
  obtain ⟨v2, vs2, d2, ds2, p2, q2, hargs2, rfl, rfl, h2, r2⟩ := trodAll_cons r1
  obtain ⟨rfl, rfl, rfl⟩ := trodAll_nil r2
  subst hargs1
  subst hargs2
  obtain rfl : args = #[v0, v1, v2] := by cases args; simp_all
  obtain ⟨rfl, rfl⟩ := trodVars_none hV
  have hlt := hW'.lt
  obtain ⟨xs0, i0, a0⟩ := arg_rep closed01 (t := 24) (by decide) agg24 (hval 0 24 v0 rfl rfl) h0
  obtain ⟨w0, hw0⟩ := is_set i0
  rw [hw0] at a0
  obtain ⟨xs1, i1, a1⟩ := arg_rep closed01 (t := 24) (by decide) agg24 (hval 1 24 v1 rfl rfl) h1
  obtain ⟨w1, hw1⟩ := is_set i1
  rw [hw1] at a1
  obtain ⟨xs2, i2, a2⟩ := arg_rep closed01 (t := 24) (by decide) agg24 (hval 2 24 v2 rfl rfl) h2
  obtain ⟨w2, hw2⟩ := is_set i2
  rw [hw2] at a2
  have hT := table hL
  refine calls_post (ds := [d0, d1, d2]) (gs := []) (tb := 4) (St := fun b o => InPs ((p0 ++ (p1 ++ (p2 ++ ([] : List MemPlace)))) ++ []) b o ∨ (b = 0 ∧ o < tz64.length)) (dargs := [.d (dSet w0), .d (dSet w1), .d (dSet w2)]) (law7_holds w0 w1 w2) closed01 (by rw [Tryd.params7]; decide) rfl hW' rfl rfl rfl rfl Tryd.underlying4 ?_ ?_ rfl ?_
  · rintro b o (h | ⟨rfl, h⟩)
    · exact hlt _ h
    · exact tab_lt hT gTab h
  · exact glob_tab hT gTab (by decide +kernel) glTab
  · intro i x v hx hv
    match i, hx, hv with
    | 0, hx, hv => cases hx; cases hv; exact rep_arg a0 (fun b o h => .inl (List.mem_append_left _ (List.mem_append_left _ h)))
    | 1, hx, hv => cases hx; cases hv; exact rep_arg a1 (fun b o h => .inl (List.mem_append_left _ (List.mem_append_right _ (List.mem_append_left _ h))))
    | 2, hx, hv => cases hx; cases hv; exact rep_arg a2 (fun b o h => .inl (List.mem_append_left _ (List.mem_append_right _ (List.mem_append_right _ (List.mem_append_left _ h)))))
    | n + 3, hx, hv => simp at hx

/-- A WORLD FOR THE WITNESS: the settled one, the table (block 0) holding what its initialiser lays. -/
noncomputable def laidWorld (os : Os) : World :=
  { World.holding Tryd.prog os ⟨#[], #[], []⟩ with heap := (World.holding Tryd.prog os ⟨#[], #[], []⟩).heap.modify 0 fun
      | .cells _ t frozen => .cells (tz64.map fun z => Value.int .u8 z).toArray t frozen
      | o => o }
theorem laid_met (os : Os) : laidMet Tryd.prog Rows.bitsetAlgebraRow.laid ((laidWorld os).forCall (fun _ _ => 0) ⟨#[], #[.agg #[.int .u64 0, .int .u64 0, .int .u64 0, .int .u64 0], .agg #[.int .u64 0, .int .u64 0, .int .u64 0, .int .u64 0], .agg #[.int .u64 0, .int .u64 0, .int .u64 0, .int .u64 0]], []⟩).memory :=
  laidMet_of_run' 8 (by kernel_rfl) (by kernel_rfl)
theorem reads (os : Os) {H : Type} (enc : TypeId × Value → H) : ∃ places, DataW.whole enc Tryd.prog ((laidWorld os).forCall (fun _ _ => 0) ⟨#[], #[.agg #[.int .u64 0, .int .u64 0, .int .u64 0, .int .u64 0], .agg #[.int .u64 0, .int .u64 0, .int .u64 0, .int .u64 0], .agg #[.int .u64 0, .int .u64 0, .int .u64 0, .int .u64 0]], []⟩).memory Tryd.f7.params.toList Rows.bitsetAlgebraSpec.vars false (#[.agg #[.int .u64 0, .int .u64 0, .int .u64 0, .int .u64 0], .agg #[.int .u64 0, .int .u64 0, .int .u64 0, .int .u64 0], .agg #[.int .u64 0, .int .u64 0, .int .u64 0, .int .u64 0]] : Array Value).toList 8 = some ([.agg [.lit (.int .u64 0), .lit (.int .u64 0), .lit (.int .u64 0), .lit (.int .u64 0)], .agg [.lit (.int .u64 0), .lit (.int .u64 0), .lit (.int .u64 0), .lit (.int .u64 0)], .agg [.lit (.int .u64 0), .lit (.int .u64 0), .lit (.int .u64 0), .lit (.int .u64 0)]], [], places) :=
  ⟨[], by kernel_rfl⟩

set_option maxRecDepth 100000 in
theorem lifted (os : Os) (started : os.Started) (H : Type) (enc : TypeId × Value → H) (F : Stop.Interp) :
    ReturnsInHanded {} Tryd.checked os 7 .any ((OpenSpec.ofChange Rows.bitsetAlgebraSpec).preRow enc Tryd.prog Tryd.f7 Rows.bitsetAlgebraRow.domain false Rows.bitsetAlgebraRow.laid) (((OpenSpec.ofChange Rows.bitsetAlgebraSpec).at F).post enc Tryd.prog Tryd.f7 false true false false) := by
  obtain ⟨places, hx⟩ := reads os enc
  refine returnsInHanded_of_row (C := Tryd.checked) (s := OpenSpec.ofChange Rows.bitsetAlgebraSpec) own started (by kernel_rfl) Tryd.func7
    (witness_row_at (enc := enc) (C := Tryd.checked) false (laidWorld os) #[.agg #[.int .u64 0, .int .u64 0, .int .u64 0, .int .u64 0], .agg #[.int .u64 0, .int .u64 0, .int .u64 0, .int .u64 0], .agg #[.int .u64 0, .int .u64 0, .int .u64 0, .int .u64 0]] rfl (by kernel_rfl) (by kernel_rfl) (by kernel_rfl)
      (OpenSpec.preRow_of_cond 8 hx (by kernel_rfl) (fun k hk => by cases hk) (by kernel_rfl) (laid_met os))) ?_
  intro W base args ds gs before hval hW _ _ _ hL _ _
  exact contract H enc W base args ds gs before hval hW hL

theorem said : Rows.BitsetAlgebraSaid :=
  OpenClaim.holds_of_cond 7 Tryd.f7 rfl rfl rfl rfl rfl rfl rfl ⟨rfl, rfl, rfl, rfl, rfl⟩ rfl rfl rfl rfl rfl (by kernel_rfl) Tryd.func7 (by kernel_rfl)
    (of_decide_eq_true (by kernel_rfl)) (by unfold Func.isWrapper; first | (rw [if_pos (by decide +kernel)]; kernel_rfl) | (rw [if_neg (by decide +kernel)]; exact ⟨rfl, rfl⟩))
    (fun os started H enc _ F => by rw [OpenClaim.pre_eq_preRow]; exact lifted os started H enc F)

theorem plain (f : FuncId) (fn : Func) (hf : Tryd.pinned.checked.prog.funcNamed "accesscontrol/accesscontrollaw01.BitsetAlgebra" = some f) (hfn : Tryd.pinned.checked.prog.funcs[f]? = some fn) :
    false = Tryd.pinned.checked.prog.looks [] ∧ ∀ (j : Nat) t, fn.params[j]? = some t → Tryd.pinned.checked.prog.wantsStandIn t = false := by
  obtain rfl : f = 7 := Option.some.inj ((show Tryd.prog.funcNamed "accesscontrol/accesscontrollaw01.BitsetAlgebra" = some 7 by kernel_rfl).symm.trans hf) |>.symm
  obtain rfl : fn = Tryd.f7 := (Option.some.inj (Tryd.func7.symm.trans hfn)).symm
  refine ⟨by kernel_rfl, fun j t ht => ?_⟩
  rw [Tryd.params7] at ht
  have hm : t ∈ ([24] : List Nat) := by simpa using Array.mem_of_getElem? ht
  have hall := List.all_eq_true.1 (show (([24] : List Nat).all fun t => Tryd.prog.wantsStandIn t == false) = true by kernel_rfl) t hm
  exact eq_of_beq hall

/-- THE CARD -/
theorem card : Rows.BitsetAlgebraCardSaid :=
  Claim7.holds_tied_plain_at .later [] _ _ _ _ said (fun _ h => by cases h) (by kernel_rfl) (fun _ h => by cases h) bitsetAlgebra_row_tie rfl ⟨rfl, rfl⟩ (by kernel_rfl) rfl plain (by kernel_rfl)
end Go.Proofs.YtofghbnaofcpdaaDoor.bitsetAlgebra
