/-
  THE LAW ConstraintEval, walked.
-/
import Derived.Test.YtcnnhnjcnekhcaaAw
set_option linter.unusedVariables false
set_option linter.unusedSimpArgs false
namespace Go.Proofs.Ytcnnhnjcnekhcaa.Ab
open Go
theorem law3_holds {e : Xp} {x : D} (hx : IsE e x) (c : CaseD) : Holds Try.prog gl 3 [.d x, .d (dCase c)] (.d (.bool true)) := by
  refine holds_of_body hm1 (enters_some (fn := Try.f3) (by kernel_rfl) (by kernel_rfl) (by kernel_rfl)) (h := h3) ?_; rw [body3]; intro hwf
  have hsm := small_holds e.lv e x 15 (Nat.le_refl _) hx (by decide)
  have h1 := fun h => evalC_holds hx c h
  have h2 := evalR_holds hx c
  obtain ⟨nm, kd, L, rfl, hnm, hl, hd, hk⟩ := hx.inv
  simp only [demote_d, dem_ptr, bindO_some', noRef_d, true_and, ifP_dec, ifP_true, ifP_false, eql_int, neq_int, lss_int, leq_int, gtr_int, geq_int, un_not, eql_bool, neq_bool, eql_set, neq_set, cells_ex, len_cEx, part_exAll, part_ex0, part_ex1, part_ex2, part_ex3, part_ex4, part_ex5, part_ex9, parts_nil, dI, List.map_cons, List.map_nil, vget, bget, List.getD_cons_zero, List.getD_cons_succ, Box.vals, Nat.le_refl, cells_case, len_case, part_case, part_case0, part_case7, part_case14, cells_ctx, len_ctx, part_ctx, part_ctx0, part_ctx1, part_ctx2, part_ctx3, part_ctx5, set_ctx, cells_lev, len_lev, part_lev, part_lev0, part_lev1, set_lev, field_rng, field_lo, field_hi, eql_lev, neq_lev]
  refine callP_of hsm ?_
  simp only [demote_d, dem_ptr, bindO_some', noRef_d, true_and, ifP_dec, ifP_true, ifP_false, eql_int, neq_int, lss_int, leq_int, gtr_int, geq_int, un_not, eql_bool, neq_bool, eql_set, neq_set, cells_ex, len_cEx, part_exAll, part_ex0, part_ex1, part_ex2, part_ex3, part_ex4, part_ex5, part_ex9, parts_nil, dI, List.map_cons, List.map_nil, vget, bget, List.getD_cons_zero, List.getD_cons_succ, Box.vals, Nat.le_refl, cells_case, len_case, part_case, part_case0, part_case7, part_case14, cells_ctx, len_ctx, part_ctx, part_ctx0, part_ctx1, part_ctx2, part_ctx3, part_ctx5, set_ctx, cells_lev, len_lev, part_lev, part_lev0, part_lev1, set_lev, field_rng, field_lo, field_hi, eql_lev, neq_lev]
  refine And.intro (fun h => ?_) (fun h => ?_)
  · refine callP_of awake_holds ?_
    simp only [demote_d, dem_ptr, bindO_some', noRef_d, true_and, ifP_dec, ifP_true, ifP_false, eql_int, neq_int, lss_int, leq_int, gtr_int, geq_int, un_not, eql_bool, neq_bool, eql_set, neq_set, cells_ex, len_cEx, part_exAll, part_ex0, part_ex1, part_ex2, part_ex3, part_ex4, part_ex5, part_ex9, parts_nil, dI, List.map_cons, List.map_nil, vget, bget, List.getD_cons_zero, List.getD_cons_succ, Box.vals, Nat.le_refl, cells_case, len_case, part_case, part_case0, part_case7, part_case14, cells_ctx, len_ctx, part_ctx, part_ctx0, part_ctx1, part_ctx2, part_ctx3, part_ctx5, set_ctx, cells_lev, len_lev, part_lev, part_lev0, part_lev1, set_lev, field_rng, field_lo, field_hi, eql_lev, neq_lev]
  · have hlv := allX_lv e.lv e 15 (Nat.le_refl _) (by simpa using h)
    refine callP_of (h1 (by omega)) ?_
    simp only [demote_d, dem_ptr, bindO_some', noRef_d, true_and, ifP_dec, ifP_true, ifP_false, eql_int, neq_int, lss_int, leq_int, gtr_int, geq_int, un_not, eql_bool, neq_bool, eql_set, neq_set, cells_ex, len_cEx, part_exAll, part_ex0, part_ex1, part_ex2, part_ex3, part_ex4, part_ex5, part_ex9, parts_nil, dI, List.map_cons, List.map_nil, vget, bget, List.getD_cons_zero, List.getD_cons_succ, Box.vals, Nat.le_refl, cells_case, len_case, part_case, part_case0, part_case7, part_case14, cells_ctx, len_ctx, part_ctx, part_ctx0, part_ctx1, part_ctx2, part_ctx3, part_ctx5, set_ctx, cells_lev, len_lev, part_lev, part_lev0, part_lev1, set_lev, field_rng, field_lo, field_hi, eql_lev, neq_lev]
    refine callP_of h2 ?_
    simp only [demote_d, dem_ptr, bindO_some', noRef_d, true_and, ifP_dec, ifP_true, ifP_false, eql_int, neq_int, lss_int, leq_int, gtr_int, geq_int, un_not, eql_bool, neq_bool, eql_set, neq_set, cells_ex, len_cEx, part_exAll, part_ex0, part_ex1, part_ex2, part_ex3, part_ex4, part_ex5, part_ex9, parts_nil, dI, List.map_cons, List.map_nil, vget, bget, List.getD_cons_zero, List.getD_cons_succ, Box.vals, Nat.le_refl, cells_case, len_case, part_case, part_case0, part_case7, part_case14, cells_ctx, len_ctx, part_ctx, part_ctx0, part_ctx1, part_ctx2, part_ctx3, part_ctx5, set_ctx, cells_lev, len_lev, part_lev, part_lev0, part_lev1, set_lev, field_rng, field_lo, field_hi, eql_lev, neq_lev, beq_self_eq_true]
    refine And.intro (fun _ => ?_) (fun h => by cases h)
    refine callP_of awake_holds ?_
    simp only [demote_d, dem_ptr, bindO_some', noRef_d, true_and, ifP_dec, ifP_true, ifP_false, eql_int, neq_int, lss_int, leq_int, gtr_int, geq_int, un_not, eql_bool, neq_bool, eql_set, neq_set, cells_ex, len_cEx, part_exAll, part_ex0, part_ex1, part_ex2, part_ex3, part_ex4, part_ex5, part_ex9, parts_nil, dI, List.map_cons, List.map_nil, vget, bget, List.getD_cons_zero, List.getD_cons_succ, Box.vals, Nat.le_refl, cells_case, len_case, part_case, part_case0, part_case7, part_case14, cells_ctx, len_ctx, part_ctx, part_ctx0, part_ctx1, part_ctx2, part_ctx3, part_ctx5, set_ctx, cells_lev, len_lev, part_lev, part_lev0, part_lev1, set_lev, field_rng, field_lo, field_hi, eql_lev, neq_lev]
end Go.Proofs.Ytcnnhnjcnekhcaa.Ab
