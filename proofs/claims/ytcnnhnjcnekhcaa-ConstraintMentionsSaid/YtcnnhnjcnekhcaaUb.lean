/-
  CONSTRAINTS: attributes, comparisons, values.
-/
import Derived.Test.YtcnnhnjcnekhcaaUa
import Derived.Test.YtcnnhnjcnekhcaaTy
set_option linter.unusedVariables false
set_option linter.unusedSimpArgs false
namespace Go.Proofs.Ytcnnhnjcnekhcaa.Ab
open Go
theorem quo_lit {a : Int} (h1 : 0 ≤ a) (h2 : a < 15) : binV none .quo (.d (.int .i64 a)) (.d (.int .i64 5)) = some (.d (.int .i64 (a.tdiv 5))) := by
  have h3 : 0 ≤ a.tdiv 5 := Int.tdiv_nonneg h1 (by decide)
  have h4 : a.tdiv 5 ≤ a := by rw [Int.tdiv_eq_ediv_of_nonneg h1]; omega
  have h5 : IntKind.i64.wrap (a.tdiv 5) = a.tdiv 5 := wrap_i64 (by omega) (by omega)
  simp only [binV, binD, intBop, h5, ↓reduceIte]
  rfl
theorem part_holds (c : CaseD) {a : Int} (h1 : 0 ≤ a) (h2 : a < 15) : Holds Try.prog gl 43 [.d (dCase c), .d (.int .i64 a)] (.d (dCtx (partF c a))) := by
  refine holds_of_body hm1 (enters_some (fn := Try.f43) (by kernel_rfl) (by kernel_rfl) (by kernel_rfl)) (h := h43) ?_; rw [body43]; intro hwf
  simp only [demote_d, dem_ptr, bindO_some', noRef_d, true_and, ifP_dec, ifP_true, ifP_false, eql_int, neq_int, lss_int, leq_int, gtr_int, geq_int, un_not, eql_bool, neq_bool, eql_set, neq_set, cells_ex, len_cEx, part_exAll, part_ex0, part_ex1, part_ex2, part_ex3, part_ex4, part_ex5, part_ex9, parts_nil, dI, List.map_cons, List.map_nil, vget, bget, List.getD_cons_zero, List.getD_cons_succ, Box.vals, Nat.le_refl, cells_case, len_case, part_case, part_case0, part_case7, part_case14, cells_ctx, len_ctx, part_ctx, part_ctx0, part_ctx1, part_ctx2, part_ctx3, part_ctx5, set_ctx, cells_lev, len_lev, part_lev, part_lev0, part_lev1, set_lev, field_rng, field_lo, field_hi, eql_lev, neq_lev, quo_lit h1 h2]
  repeat' first | refine And.intro (fun h => ?_) (fun h => ?_)
  all_goals (simp only [partF]; simp_all)
theorem of17_holds (c : CaseD) {a : Int} (h1 : 0 ≤ a) (h2 : a < 15) : Holds Try.prog gl 62 [.d (dCase c), .d (.int .i64 a)] (.d (dCtx (partF c a))) := by
  refine holds_of_body hm1 (enters_some (fn := Try.f62) (by kernel_rfl) (by kernel_rfl) (by kernel_rfl)) (h := h62) ?_; rw [body62]; intro hwf
  simp only [demote_d, dem_ptr, bindO_some', noRef_d, true_and, ifP_dec, ifP_true, ifP_false, eql_int, neq_int, lss_int, leq_int, gtr_int, geq_int, un_not, eql_bool, neq_bool, eql_set, neq_set, cells_ex, len_cEx, part_exAll, part_ex0, part_ex1, part_ex2, part_ex3, part_ex4, part_ex5, part_ex9, parts_nil, dI, List.map_cons, List.map_nil, vget, bget, List.getD_cons_zero, List.getD_cons_succ, Box.vals, Nat.le_refl, cells_case, len_case, part_case, part_case0, part_case7, part_case14, cells_ctx, len_ctx, part_ctx, part_ctx0, part_ctx1, part_ctx2, part_ctx3, part_ctx5, set_ctx, cells_lev, len_lev, part_lev, part_lev0, part_lev1, set_lev, field_rng, field_lo, field_hi, eql_lev, neq_lev, quo_lit h1 h2]
  repeat' first | refine And.intro (fun h => ?_) (fun h => ?_)
  all_goals (simp only [partF]; simp_all)
theorem name17_holds (c : CaseD) {a : Int} (h1 : 0 ≤ a) (h2 : a < 15) : Holds Try.prog gl 46 [.d (dCase c), .d (.int .i64 a)] (.d (.int .i64 (nameF c a))) := by
  refine holds_of_body hm1 (enters_some (fn := Try.f46) (by kernel_rfl) (by kernel_rfl) (by kernel_rfl)) (h := h46) ?_; rw [body46]; intro hwf
  simp only [demote_d, dem_ptr, bindO_some', noRef_d, true_and, ifP_dec, ifP_true, ifP_false, eql_int, neq_int, lss_int, leq_int, gtr_int, geq_int, un_not, eql_bool, neq_bool, eql_set, neq_set, cells_ex, len_cEx, part_exAll, part_ex0, part_ex1, part_ex2, part_ex3, part_ex4, part_ex5, part_ex9, parts_nil, dI, List.map_cons, List.map_nil, vget, bget, List.getD_cons_zero, List.getD_cons_succ, Box.vals, Nat.le_refl, cells_case, len_case, part_case, part_case0, part_case7, part_case14, cells_ctx, len_ctx, part_ctx, part_ctx0, part_ctx1, part_ctx2, part_ctx3, part_ctx5, set_ctx, cells_lev, len_lev, part_lev, part_lev0, part_lev1, set_lev, field_rng, field_lo, field_hi, eql_lev, neq_lev]
  refine callP_of (of17_holds c h1 h2) ?_
  simp only [demote_d, dem_ptr, bindO_some', noRef_d, true_and, ifP_dec, ifP_true, ifP_false, eql_int, neq_int, lss_int, leq_int, gtr_int, geq_int, un_not, eql_bool, neq_bool, eql_set, neq_set, cells_ex, len_cEx, part_exAll, part_ex0, part_ex1, part_ex2, part_ex3, part_ex4, part_ex5, part_ex9, parts_nil, dI, List.map_cons, List.map_nil, vget, bget, List.getD_cons_zero, List.getD_cons_succ, Box.vals, Nat.le_refl, cells_case, len_case, part_case, part_case0, part_case7, part_case14, cells_ctx, len_ctx, part_ctx, part_ctx0, part_ctx1, part_ctx2, part_ctx3, part_ctx5, set_ctx, cells_lev, len_lev, part_lev, part_lev0, part_lev1, set_lev, field_rng, field_lo, field_hi, eql_lev, neq_lev]
  refine callP_of (sortR_holds a) ?_
  simp only [demote_d, dem_ptr, bindO_some', noRef_d, true_and, ifP_dec, ifP_true, ifP_false, eql_int, neq_int, lss_int, leq_int, gtr_int, geq_int, un_not, eql_bool, neq_bool, eql_set, neq_set, cells_ex, len_cEx, part_exAll, part_ex0, part_ex1, part_ex2, part_ex3, part_ex4, part_ex5, part_ex9, parts_nil, dI, List.map_cons, List.map_nil, vget, bget, List.getD_cons_zero, List.getD_cons_succ, Box.vals, Nat.le_refl, cells_case, len_case, part_case, part_case0, part_case7, part_case14, cells_ctx, len_ctx, part_ctx, part_ctx0, part_ctx1, part_ctx2, part_ctx3, part_ctx5, set_ctx, cells_lev, len_lev, part_lev, part_lev0, part_lev1, set_lev, field_rng, field_lo, field_hi, eql_lev, neq_lev]
  repeat' first | refine And.intro (fun h => ?_) (fun h => ?_)
  all_goals (simp only [nameF]; simp_all)
theorem level17_holds (c : CaseD) {a : Int} (h1 : 0 ≤ a) (h2 : a < 15) : Holds Try.prog gl 63 [.d (dCase c), .d (.int .i64 a)] (.d (dLev (levF c a))) := by
  refine holds_of_body hm1 (enters_some (fn := Try.f63) (by kernel_rfl) (by kernel_rfl) (by kernel_rfl)) (h := h63) ?_; rw [body63]; intro hwf
  simp only [demote_d, dem_ptr, bindO_some', noRef_d, true_and, ifP_dec, ifP_true, ifP_false, eql_int, neq_int, lss_int, leq_int, gtr_int, geq_int, un_not, eql_bool, neq_bool, eql_set, neq_set, cells_ex, len_cEx, part_exAll, part_ex0, part_ex1, part_ex2, part_ex3, part_ex4, part_ex5, part_ex9, parts_nil, dI, List.map_cons, List.map_nil, vget, bget, List.getD_cons_zero, List.getD_cons_succ, Box.vals, Nat.le_refl, cells_case, len_case, part_case, part_case0, part_case7, part_case14, cells_ctx, len_ctx, part_ctx, part_ctx0, part_ctx1, part_ctx2, part_ctx3, part_ctx5, set_ctx, cells_lev, len_lev, part_lev, part_lev0, part_lev1, set_lev, field_rng, field_lo, field_hi, eql_lev, neq_lev, rem_lit]
  repeat' first | refine And.intro (fun h => ?_) (fun h => ?_) | (refine callP_of (of17_holds c h1 h2) ?_; simp only [demote_d, dem_ptr, bindO_some', noRef_d, true_and, ifP_dec, ifP_true, ifP_false, eql_int, neq_int, lss_int, leq_int, gtr_int, geq_int, un_not, eql_bool, neq_bool, eql_set, neq_set, cells_ex, len_cEx, part_exAll, part_ex0, part_ex1, part_ex2, part_ex3, part_ex4, part_ex5, part_ex9, parts_nil, dI, List.map_cons, List.map_nil, vget, bget, List.getD_cons_zero, List.getD_cons_succ, Box.vals, Nat.le_refl, cells_case, len_case, part_case, part_case0, part_case7, part_case14, cells_ctx, len_ctx, part_ctx, part_ctx0, part_ctx1, part_ctx2, part_ctx3, part_ctx5, set_ctx, cells_lev, len_lev, part_lev, part_lev0, part_lev1, set_lev, field_rng, field_lo, field_hi, eql_lev, neq_lev])
  all_goals (simp only [levF]; simp_all)
theorem conv_nat (n : Nat) (h : n < 64) : convI .u64 (.d (.int .i64 (n : Int))) = some (.d (.int .u64 (n : Int))) := by
  simp only [convI]
  rw [wrap64, Int.emod_eq_of_lt (by omega) (by omega)]
theorem has5_holds (l : Int × BitVec 64) (n : Nat) (hn : n < 64) : Holds Try.prog gl 78 [.d (dLev l), .d (.int .i64 (n : Int))] (.d (.bool (l.2.getLsbD n))) := by
  refine holds_of_body hm1 (enters_some (fn := Try.f78) (by kernel_rfl) (by kernel_rfl) (by kernel_rfl)) (h := h78) ?_; rw [body78]; intro hwf
  simp only [demote_d, dem_ptr, bindO_some', noRef_d, true_and, ifP_dec, ifP_true, ifP_false, eql_int, neq_int, lss_int, leq_int, gtr_int, geq_int, un_not, eql_bool, neq_bool, eql_set, neq_set, cells_ex, len_cEx, part_exAll, part_ex0, part_ex1, part_ex2, part_ex3, part_ex4, part_ex5, part_ex9, parts_nil, dI, List.map_cons, List.map_nil, vget, bget, List.getD_cons_zero, List.getD_cons_succ, Box.vals, Nat.le_refl, cells_case, len_case, part_case, part_case0, part_case7, part_case14, cells_ctx, len_ctx, part_ctx, part_ctx0, part_ctx1, part_ctx2, part_ctx3, part_ctx5, set_ctx, cells_lev, len_lev, part_lev, part_lev0, part_lev1, set_lev, field_rng, field_lo, field_hi, eql_lev, neq_lev, conv_nat n hn]
  refine And.intro (fun _ => ?_) (fun h => absurd h (by simp))
  refine And.intro (fun _ => ?_) (fun h => absurd h (by simp; omega))
  rw [bin_shr]
  simp only [demote_d, dem_ptr, bindO_some', noRef_d, true_and, ifP_dec, ifP_true, ifP_false, eql_int, neq_int, lss_int, leq_int, gtr_int, geq_int, un_not, eql_bool, neq_bool, eql_set, neq_set, cells_ex, len_cEx, part_exAll, part_ex0, part_ex1, part_ex2, part_ex3, part_ex4, part_ex5, part_ex9, parts_nil, dI, List.map_cons, List.map_nil, vget, bget, List.getD_cons_zero, List.getD_cons_succ, Box.vals, Nat.le_refl, cells_case, len_case, part_case, part_case0, part_case7, part_case14, cells_ctx, len_ctx, part_ctx, part_ctx0, part_ctx1, part_ctx2, part_ctx3, part_ctx5, set_ctx, cells_lev, len_lev, part_lev, part_lev0, part_lev1, set_lev, field_rng, field_lo, field_hi, eql_lev, neq_lev]
  rw [one_word, bin_and]
  simp only [demote_d, dem_ptr, bindO_some', noRef_d, true_and, ifP_dec, ifP_true, ifP_false, eql_int, neq_int, lss_int, leq_int, gtr_int, geq_int, un_not, eql_bool, neq_bool, eql_set, neq_set, cells_ex, len_cEx, part_exAll, part_ex0, part_ex1, part_ex2, part_ex3, part_ex4, part_ex5, part_ex9, parts_nil, dI, List.map_cons, List.map_nil, vget, bget, List.getD_cons_zero, List.getD_cons_succ, Box.vals, Nat.le_refl, cells_case, len_case, part_case, part_case0, part_case7, part_case14, cells_ctx, len_ctx, part_ctx, part_ctx0, part_ctx1, part_ctx2, part_ctx3, part_ctx5, set_ctx, cells_lev, len_lev, part_lev, part_lev0, part_lev1, set_lev, field_rng, field_lo, field_hi, eql_lev, neq_lev]
  rw [bin_eqlW]
  simp only [demote_d, dem_ptr, bindO_some', noRef_d, true_and, ifP_dec, ifP_true, ifP_false, eql_int, neq_int, lss_int, leq_int, gtr_int, geq_int, un_not, eql_bool, neq_bool, eql_set, neq_set, cells_ex, len_cEx, part_exAll, part_ex0, part_ex1, part_ex2, part_ex3, part_ex4, part_ex5, part_ex9, parts_nil, dI, List.map_cons, List.map_nil, vget, bget, List.getD_cons_zero, List.getD_cons_succ, Box.vals, Nat.le_refl, cells_case, len_case, part_case, part_case0, part_case7, part_case14, cells_ctx, len_ctx, part_ctx, part_ctx0, part_ctx1, part_ctx2, part_ctx3, part_ctx5, set_ctx, cells_lev, len_lev, part_lev, part_lev0, part_lev1, set_lev, field_rng, field_lo, field_hi, eql_lev, neq_lev]
  rw [show (1 : BitVec 64) = 1#64 from rfl, bit_eq]
theorem dom5_holds (a b : Int × BitVec 64) : Holds Try.prog gl 64 [.d (dLev a), .d (dLev b)] (.d (.bool (domF a b))) := by
  refine holds_of_body hm1 (enters_some (fn := Try.f64) (by kernel_rfl) (by kernel_rfl) (by kernel_rfl)) (h := h64) ?_; rw [body64]; intro hwf
  simp only [demote_d, dem_ptr, bindO_some', noRef_d, true_and, ifP_dec, ifP_true, ifP_false, eql_int, neq_int, lss_int, leq_int, gtr_int, geq_int, un_not, eql_bool, neq_bool, eql_set, neq_set, cells_ex, len_cEx, part_exAll, part_ex0, part_ex1, part_ex2, part_ex3, part_ex4, part_ex5, part_ex9, parts_nil, dI, List.map_cons, List.map_nil, vget, bget, List.getD_cons_zero, List.getD_cons_succ, Box.vals, Nat.le_refl, cells_case, len_case, part_case, part_case0, part_case7, part_case14, cells_ctx, len_ctx, part_ctx, part_ctx0, part_ctx1, part_ctx2, part_ctx3, part_ctx5, set_ctx, cells_lev, len_lev, part_lev, part_lev0, part_lev1, set_lev, field_rng, field_lo, field_hi, eql_lev, neq_lev]
  refine loopP_inv (fun i => ∀ n, n < i → b.2.getLsbD n = true → a.2.getLsbD n = true) (fun i => [.d (.int .i64 ((i : Nat) : Int))]) (fun i => [cLev a, cLev b]) 64 (fun n hn => by omega) (fun i hi hJ I hI => ?_) (fun hJ I => ?_)
  · simp only [demote_d, dem_ptr, bindO_some', noRef_d, true_and, ifP_dec, ifP_true, ifP_false, eql_int, neq_int, lss_int, leq_int, gtr_int, geq_int, un_not, eql_bool, neq_bool, eql_set, neq_set, cells_ex, len_cEx, part_exAll, part_ex0, part_ex1, part_ex2, part_ex3, part_ex4, part_ex5, part_ex9, parts_nil, dI, List.map_cons, List.map_nil, vget, bget, List.getD_cons_zero, List.getD_cons_succ, Box.vals, Nat.le_refl, cells_case, len_case, part_case, part_case0, part_case7, part_case14, cells_ctx, len_ctx, part_ctx, part_ctx0, part_ctx1, part_ctx2, part_ctx3, part_ctx5, set_ctx, cells_lev, len_lev, part_lev, part_lev0, part_lev1, set_lev, field_rng, field_lo, field_hi, eql_lev, neq_lev]
    refine And.intro (fun _ => ?_) (fun h => absurd h (by simp; omega))
    refine callP_of (has5_holds b i hi) ?_
    simp only [demote_d, dem_ptr, bindO_some', noRef_d, true_and, ifP_dec, ifP_true, ifP_false, eql_int, neq_int, lss_int, leq_int, gtr_int, geq_int, un_not, eql_bool, neq_bool, eql_set, neq_set, cells_ex, len_cEx, part_exAll, part_ex0, part_ex1, part_ex2, part_ex3, part_ex4, part_ex5, part_ex9, parts_nil, dI, List.map_cons, List.map_nil, vget, bget, List.getD_cons_zero, List.getD_cons_succ, Box.vals, Nat.le_refl, cells_case, len_case, part_case, part_case0, part_case7, part_case14, cells_ctx, len_ctx, part_ctx, part_ctx0, part_ctx1, part_ctx2, part_ctx3, part_ctx5, set_ctx, cells_lev, len_lev, part_lev, part_lev0, part_lev1, set_lev, field_rng, field_lo, field_hi, eql_lev, neq_lev]
    have step : ∀ n, n < i → b.2.getLsbD n = true → a.2.getLsbD n = true := hJ
    refine And.intro (fun hb => ?_) (fun hb => ?_)
    · refine callP_of (has5_holds a i hi) ?_
      simp only [demote_d, dem_ptr, bindO_some', noRef_d, true_and, ifP_dec, ifP_true, ifP_false, eql_int, neq_int, lss_int, leq_int, gtr_int, geq_int, un_not, eql_bool, neq_bool, eql_set, neq_set, cells_ex, len_cEx, part_exAll, part_ex0, part_ex1, part_ex2, part_ex3, part_ex4, part_ex5, part_ex9, parts_nil, dI, List.map_cons, List.map_nil, vget, bget, List.getD_cons_zero, List.getD_cons_succ, Box.vals, Nat.le_refl, cells_case, len_case, part_case, part_case0, part_case7, part_case14, cells_ctx, len_ctx, part_ctx, part_ctx0, part_ctx1, part_ctx2, part_ctx3, part_ctx5, set_ctx, cells_lev, len_lev, part_lev, part_lev0, part_lev1, set_lev, field_rng, field_lo, field_hi, eql_lev, neq_lev]
      refine And.intro (fun ha => ?_) (fun ha => ?_)
      · have ha' : a.2.getLsbD i = false := by simpa using ha
        have : (a.2 &&& b.2 == b.2) = false := by
          rw [Bool.eq_false_iff]
          intro hh
          have := (dom_bits _ _).1 hh i hi hb
          rw [ha'] at this
          cases this
        rw [domF, this, Bool.and_false]
      · refine bindO_to (add_one (by omega)) ?_
        refine hI fun n hn hbn => ?_
        rcases Nat.lt_or_ge n i with h | h
        · exact hJ n h hbn
        · have : n = i := by omega
          subst this
          simpa using ha
    · refine bindO_to (add_one (by omega)) ?_
      refine hI fun n hn hbn => ?_
      rcases Nat.lt_or_ge n i with h | h
      · exact hJ n h hbn
      · have : n = i := by omega
        subst this
        rw [hb] at hbn
        cases hbn
  · simp only [demote_d, dem_ptr, bindO_some', noRef_d, true_and, ifP_dec, ifP_true, ifP_false, eql_int, neq_int, lss_int, leq_int, gtr_int, geq_int, un_not, eql_bool, neq_bool, eql_set, neq_set, cells_ex, len_cEx, part_exAll, part_ex0, part_ex1, part_ex2, part_ex3, part_ex4, part_ex5, part_ex9, parts_nil, dI, List.map_cons, List.map_nil, vget, bget, List.getD_cons_zero, List.getD_cons_succ, Box.vals, Nat.le_refl, cells_case, len_case, part_case, part_case0, part_case7, part_case14, cells_ctx, len_ctx, part_ctx, part_ctx0, part_ctx1, part_ctx2, part_ctx3, part_ctx5, set_ctx, cells_lev, len_lev, part_lev, part_lev0, part_lev1, set_lev, field_rng, field_lo, field_hi, eql_lev, neq_lev]
    refine And.intro (fun h => absurd h (by simp)) (fun _ => ?_)
    rw [domF, (dom_bits _ _).2 hJ, Bool.and_true]
theorem compareR_holds {e : Xp} {x : D} (hx : IsE e x) (c : CaseD) (ha : 0 ≤ e.a ∧ e.a < 15) (hb : 0 ≤ e.b ∧ e.b < 15) (hr : 0 ≤ e.rel ∧ e.rel ≤ 4) (hs : sortI e.a = sortI e.b) : Holds Try.prog gl 47 [.d x, .d (dCase c)] (.d (.bool (cmpF e c))) := by
  refine holds_of_body hm1 (enters_some (fn := Try.f47) (by kernel_rfl) (by kernel_rfl) (by kernel_rfl)) (h := h47) ?_; rw [body47]; intro hwf
  obtain ⟨nm, kd, L, rfl, hn, hl, hd, hk⟩ := hx.inv
  simp only [demote_d, dem_ptr, bindO_some', noRef_d, true_and, ifP_dec, ifP_true, ifP_false, eql_int, neq_int, lss_int, leq_int, gtr_int, geq_int, un_not, eql_bool, neq_bool, eql_set, neq_set, cells_ex, len_cEx, part_exAll, part_ex0, part_ex1, part_ex2, part_ex3, part_ex4, part_ex5, part_ex9, parts_nil, dI, List.map_cons, List.map_nil, vget, bget, List.getD_cons_zero, List.getD_cons_succ, Box.vals, Nat.le_refl, cells_case, len_case, part_case, part_case0, part_case7, part_case14, cells_ctx, len_ctx, part_ctx, part_ctx0, part_ctx1, part_ctx2, part_ctx3, part_ctx5, set_ctx, cells_lev, len_lev, part_lev, part_lev0, part_lev1, set_lev, field_rng, field_lo, field_hi, eql_lev, neq_lev]
  refine callP_of (sortR_holds e.a) ?_
  simp only [demote_d, dem_ptr, bindO_some', noRef_d, true_and, ifP_dec, ifP_true, ifP_false, eql_int, neq_int, lss_int, leq_int, gtr_int, geq_int, un_not, eql_bool, neq_bool, eql_set, neq_set, cells_ex, len_cEx, part_exAll, part_ex0, part_ex1, part_ex2, part_ex3, part_ex4, part_ex5, part_ex9, parts_nil, dI, List.map_cons, List.map_nil, vget, bget, List.getD_cons_zero, List.getD_cons_succ, Box.vals, Nat.le_refl, cells_case, len_case, part_case, part_case0, part_case7, part_case14, cells_ctx, len_ctx, part_ctx, part_ctx0, part_ctx1, part_ctx2, part_ctx3, part_ctx5, set_ctx, cells_lev, len_lev, part_lev, part_lev0, part_lev1, set_lev, field_rng, field_lo, field_hi, eql_lev, neq_lev]
  refine And.intro (fun h => ?_) (fun h => ?_)
  · refine callP_of (name17_holds c ha.1 ha.2) ?_
    simp only [demote_d, dem_ptr, bindO_some', noRef_d, true_and, ifP_dec, ifP_true, ifP_false, eql_int, neq_int, lss_int, leq_int, gtr_int, geq_int, un_not, eql_bool, neq_bool, eql_set, neq_set, cells_ex, len_cEx, part_exAll, part_ex0, part_ex1, part_ex2, part_ex3, part_ex4, part_ex5, part_ex9, parts_nil, dI, List.map_cons, List.map_nil, vget, bget, List.getD_cons_zero, List.getD_cons_succ, Box.vals, Nat.le_refl, cells_case, len_case, part_case, part_case0, part_case7, part_case14, cells_ctx, len_ctx, part_ctx, part_ctx0, part_ctx1, part_ctx2, part_ctx3, part_ctx5, set_ctx, cells_lev, len_lev, part_lev, part_lev0, part_lev1, set_lev, field_rng, field_lo, field_hi, eql_lev, neq_lev]
    refine callP_of (name17_holds c hb.1 hb.2) ?_
    simp only [demote_d, dem_ptr, bindO_some', noRef_d, true_and, ifP_dec, ifP_true, ifP_false, eql_int, neq_int, lss_int, leq_int, gtr_int, geq_int, un_not, eql_bool, neq_bool, eql_set, neq_set, cells_ex, len_cEx, part_exAll, part_ex0, part_ex1, part_ex2, part_ex3, part_ex4, part_ex5, part_ex9, parts_nil, dI, List.map_cons, List.map_nil, vget, bget, List.getD_cons_zero, List.getD_cons_succ, Box.vals, Nat.le_refl, cells_case, len_case, part_case, part_case0, part_case7, part_case14, cells_ctx, len_ctx, part_ctx, part_ctx0, part_ctx1, part_ctx2, part_ctx3, part_ctx5, set_ctx, cells_lev, len_lev, part_lev, part_lev0, part_lev1, set_lev, field_rng, field_lo, field_hi, eql_lev, neq_lev]
    rw [cmpF, h, if_pos rfl]
  · refine callP_of (level17_holds c ha.1 ha.2) ?_
    simp only [demote_d, dem_ptr, bindO_some', noRef_d, true_and, ifP_dec, ifP_true, ifP_false, eql_int, neq_int, lss_int, leq_int, gtr_int, geq_int, un_not, eql_bool, neq_bool, eql_set, neq_set, cells_ex, len_cEx, part_exAll, part_ex0, part_ex1, part_ex2, part_ex3, part_ex4, part_ex5, part_ex9, parts_nil, dI, List.map_cons, List.map_nil, vget, bget, List.getD_cons_zero, List.getD_cons_succ, Box.vals, Nat.le_refl, cells_case, len_case, part_case, part_case0, part_case7, part_case14, cells_ctx, len_ctx, part_ctx, part_ctx0, part_ctx1, part_ctx2, part_ctx3, part_ctx5, set_ctx, cells_lev, len_lev, part_lev, part_lev0, part_lev1, set_lev, field_rng, field_lo, field_hi, eql_lev, neq_lev]
    refine callP_of (level17_holds c hb.1 hb.2) ?_
    simp only [demote_d, dem_ptr, bindO_some', noRef_d, true_and, ifP_dec, ifP_true, ifP_false, eql_int, neq_int, lss_int, leq_int, gtr_int, geq_int, un_not, eql_bool, neq_bool, eql_set, neq_set, cells_ex, len_cEx, part_exAll, part_ex0, part_ex1, part_ex2, part_ex3, part_ex4, part_ex5, part_ex9, parts_nil, dI, List.map_cons, List.map_nil, vget, bget, List.getD_cons_zero, List.getD_cons_succ, Box.vals, Nat.le_refl, cells_case, len_case, part_case, part_case0, part_case7, part_case14, cells_ctx, len_ctx, part_ctx, part_ctx0, part_ctx1, part_ctx2, part_ctx3, part_ctx5, set_ctx, cells_lev, len_lev, part_lev, part_lev0, part_lev1, set_lev, field_rng, field_lo, field_hi, eql_lev, neq_lev]
    refine callP_of (dom5_holds _ _) ?_
    simp only [demote_d, dem_ptr, bindO_some', noRef_d, true_and, ifP_dec, ifP_true, ifP_false, eql_int, neq_int, lss_int, leq_int, gtr_int, geq_int, un_not, eql_bool, neq_bool, eql_set, neq_set, cells_ex, len_cEx, part_exAll, part_ex0, part_ex1, part_ex2, part_ex3, part_ex4, part_ex5, part_ex9, parts_nil, dI, List.map_cons, List.map_nil, vget, bget, List.getD_cons_zero, List.getD_cons_succ, Box.vals, Nat.le_refl, cells_case, len_case, part_case, part_case0, part_case7, part_case14, cells_ctx, len_ctx, part_ctx, part_ctx0, part_ctx1, part_ctx2, part_ctx3, part_ctx5, set_ctx, cells_lev, len_lev, part_lev, part_lev0, part_lev1, set_lev, field_rng, field_lo, field_hi, eql_lev, neq_lev]
    refine callP_of (dom5_holds _ _) ?_
    simp only [demote_d, dem_ptr, bindO_some', noRef_d, true_and, ifP_dec, ifP_true, ifP_false, eql_int, neq_int, lss_int, leq_int, gtr_int, geq_int, un_not, eql_bool, neq_bool, eql_set, neq_set, cells_ex, len_cEx, part_exAll, part_ex0, part_ex1, part_ex2, part_ex3, part_ex4, part_ex5, part_ex9, parts_nil, dI, List.map_cons, List.map_nil, vget, bget, List.getD_cons_zero, List.getD_cons_succ, Box.vals, Nat.le_refl, cells_case, len_case, part_case, part_case0, part_case7, part_case14, cells_ctx, len_ctx, part_ctx, part_ctx0, part_ctx1, part_ctx2, part_ctx3, part_ctx5, set_ctx, cells_lev, len_lev, part_lev, part_lev0, part_lev1, set_lev, field_rng, field_lo, field_hi, eql_lev, neq_lev]
    have e1 : cmpF e c = if e.rel == 1 then relF (levF c e.a) (levF c e.b) != 0
      else if e.rel == 2 || e.rel == 3 then (relF (levF c e.a) (levF c e.b) == 0 || relF (levF c e.a) (levF c e.b) == e.rel)
      else relF (levF c e.a) (levF c e.b) == e.rel := by rw [cmpF, h, if_neg (by decide)]
    rw [e1]
    generalize levF c e.a = p
    generalize levF c e.b = q
    have hd1 : eqL p q = true → domF p q = true ∧ domF q p = true := by
      unfold eqL domF
      intro h
      simp only [Bool.and_true, Bool.and_eq_true, beq_iff_eq] at h
      rw [h.1, h.2]
      simp
    have hd2 : domF p q = true → domF q p = true → eqL p q = true := by
      unfold eqL domF
      simp only [Bool.and_true, Bool.and_eq_true, beq_iff_eq, decide_eq_true_eq]
      intro h1 h2
      refine ⟨by omega, ?_⟩
      have h3 := h2.2
      rw [BitVec.and_comm, h1.2] at h3
      exact h3.symm
    clear hwf hx hn hd hk e1
    unfold relF
    generalize eqL p q = X at *
    generalize domF p q = A at *
    generalize domF q p = B at *
    have hrel : e.rel = 0 ∨ e.rel = 1 ∨ e.rel = 2 ∨ e.rel = 3 ∨ e.rel = 4 := by omega
    rcases hrel with hrel | hrel | hrel | hrel | hrel <;> rw [hrel] <;> clear hrel <;> cases X <;> cases A <;> cases B <;> simp_all
end Go.Proofs.Ytcnnhnjcnekhcaa.Ab
/-
  CONSTRAINTS: the views behind the interface, and evaluation.
-/
namespace Go.Proofs.Ytcnnhnjcnekhcaa.Ab
open Go
def viewF (a : Int) : D := if a.tmod 5 == 0 then .iface 124 (.agg []) else if a.tmod 5 == 1 then .iface 125 (.agg []) else if a.tmod 5 == 2 then .iface 126 (.agg []) else .iface 128 (.agg [.bool (a.tmod 5 == 4)])
theorem build_uv : buildD Try.prog 124 [] = some (.agg []) := by kernel_rfl
theorem build_rv : buildD Try.prog 125 [] = some (.agg []) := by kernel_rfl
theorem build_tv : buildD Try.prog 126 [] = some (.agg []) := by kernel_rfl
theorem build_lv (b : Bool) : buildD Try.prog 128 [(0, .bool b)] = some (.agg [.bool b]) := by kernel_rfl
theorem iface_d (t : Nat) (y : D) : ifaceV t (.d y) = some (.d (.iface t y)) := rfl
theorem parts_bool (b : Bool) : partsS [(0, .v (.d (.bool b)))] = some [(0, .bool b)] := rfl
theorem viewed_holds (a : Int) : Holds Try.prog gl 42 [.d (.int .i64 a)] (.d (viewF a)) := by
  refine holds_of_body hm1 (enters_some (fn := Try.f42) (by kernel_rfl) (by kernel_rfl) (by kernel_rfl)) (h := h42) ?_; rw [body42]; intro hwf
  simp only [demote_d, dem_ptr, bindO_some', noRef_d, true_and, ifP_dec, ifP_true, ifP_false, eql_int, neq_int, lss_int, leq_int, gtr_int, geq_int, un_not, eql_bool, neq_bool, eql_set, neq_set, cells_ex, len_cEx, part_exAll, part_ex0, part_ex1, part_ex2, part_ex3, part_ex4, part_ex5, part_ex9, parts_nil, dI, List.map_cons, List.map_nil, vget, bget, List.getD_cons_zero, List.getD_cons_succ, Box.vals, Nat.le_refl, cells_case, len_case, part_case, part_case0, part_case7, part_case14, cells_ctx, len_ctx, part_ctx, part_ctx0, part_ctx1, part_ctx2, part_ctx3, part_ctx5, set_ctx, cells_lev, len_lev, part_lev, part_lev0, part_lev1, set_lev, field_rng, field_lo, field_hi, eql_lev, neq_lev, rem_lit, build_uv, build_rv, build_tv, iface_d, parts_bool, build_lv]
  repeat' first | refine And.intro (fun h => ?_) (fun h => ?_)
  all_goals (simp only [viewF]; simp_all)
theorem cells_nilagg : cellsV (.d (.agg [])) = some [] := rfl
theorem cells_bool1 (b : Bool) : cellsV (.d (.agg [.bool b])) = some [.d (.bool b)] := rfl
theorem part_bool1 (b : Bool) : partV false 1 0 [.d (.bool b)] = some (.d (.bool b)) := rfl
theorem userNum (c : CtxD) : Holds Try.prog gl 96 [.d (.agg []), .d (dCtx c)] (.d (.int .i64 c.u)) := by
  refine holds_of_body hm1 (enters_some (fn := Try.f96) (by kernel_rfl) (by kernel_rfl) (by kernel_rfl)) (h := h96) ?_; rw [body96]; intro hwf
  simp only [demote_d, dem_ptr, bindO_some', noRef_d, true_and, ifP_dec, ifP_true, ifP_false, eql_int, neq_int, lss_int, leq_int, gtr_int, geq_int, un_not, eql_bool, neq_bool, eql_set, neq_set, cells_ex, len_cEx, part_exAll, part_ex0, part_ex1, part_ex2, part_ex3, part_ex4, part_ex5, part_ex9, parts_nil, dI, List.map_cons, List.map_nil, vget, bget, List.getD_cons_zero, List.getD_cons_succ, Box.vals, Nat.le_refl, cells_case, len_case, part_case, part_case0, part_case7, part_case14, cells_ctx, len_ctx, part_ctx, part_ctx0, part_ctx1, part_ctx2, part_ctx3, part_ctx5, set_ctx, cells_lev, len_lev, part_lev, part_lev0, part_lev1, set_lev, field_rng, field_lo, field_hi, eql_lev, neq_lev, cells_nilagg, List.length_nil]
theorem roleNum (c : CtxD) : Holds Try.prog gl 98 [.d (.agg []), .d (dCtx c)] (.d (.int .i64 c.r)) := by
  refine holds_of_body hm1 (enters_some (fn := Try.f98) (by kernel_rfl) (by kernel_rfl) (by kernel_rfl)) (h := h98) ?_; rw [body98]; intro hwf
  simp only [demote_d, dem_ptr, bindO_some', noRef_d, true_and, ifP_dec, ifP_true, ifP_false, eql_int, neq_int, lss_int, leq_int, gtr_int, geq_int, un_not, eql_bool, neq_bool, eql_set, neq_set, cells_ex, len_cEx, part_exAll, part_ex0, part_ex1, part_ex2, part_ex3, part_ex4, part_ex5, part_ex9, parts_nil, dI, List.map_cons, List.map_nil, vget, bget, List.getD_cons_zero, List.getD_cons_succ, Box.vals, Nat.le_refl, cells_case, len_case, part_case, part_case0, part_case7, part_case14, cells_ctx, len_ctx, part_ctx, part_ctx0, part_ctx1, part_ctx2, part_ctx3, part_ctx5, set_ctx, cells_lev, len_lev, part_lev, part_lev0, part_lev1, set_lev, field_rng, field_lo, field_hi, eql_lev, neq_lev, cells_nilagg, List.length_nil]
theorem typeNum (c : CtxD) : Holds Try.prog gl 100 [.d (.agg []), .d (dCtx c)] (.d (.int .i64 c.t)) := by
  refine holds_of_body hm1 (enters_some (fn := Try.f100) (by kernel_rfl) (by kernel_rfl) (by kernel_rfl)) (h := h100) ?_; rw [body100]; intro hwf
  simp only [demote_d, dem_ptr, bindO_some', noRef_d, true_and, ifP_dec, ifP_true, ifP_false, eql_int, neq_int, lss_int, leq_int, gtr_int, geq_int, un_not, eql_bool, neq_bool, eql_set, neq_set, cells_ex, len_cEx, part_exAll, part_ex0, part_ex1, part_ex2, part_ex3, part_ex4, part_ex5, part_ex9, parts_nil, dI, List.map_cons, List.map_nil, vget, bget, List.getD_cons_zero, List.getD_cons_succ, Box.vals, Nat.le_refl, cells_case, len_case, part_case, part_case0, part_case7, part_case14, cells_ctx, len_ctx, part_ctx, part_ctx0, part_ctx1, part_ctx2, part_ctx3, part_ctx5, set_ctx, cells_lev, len_lev, part_lev, part_lev0, part_lev1, set_lev, field_rng, field_lo, field_hi, eql_lev, neq_lev, cells_nilagg, List.length_nil]
theorem levelGrade (b : Bool) (c : CtxD) : Holds Try.prog gl 101 [.d (.agg [.bool b]), .d (dCtx c)] (.d (dLev (if b then (c.hs, c.hc) else (c.ls, c.lc)))) := by
  refine holds_of_body hm1 (enters_some (fn := Try.f101) (by kernel_rfl) (by kernel_rfl) (by kernel_rfl)) (h := h101) ?_; rw [body101]; intro hwf
  simp only [demote_d, dem_ptr, bindO_some', noRef_d, true_and, ifP_dec, ifP_true, ifP_false, eql_int, neq_int, lss_int, leq_int, gtr_int, geq_int, un_not, eql_bool, neq_bool, eql_set, neq_set, cells_ex, len_cEx, part_exAll, part_ex0, part_ex1, part_ex2, part_ex3, part_ex4, part_ex5, part_ex9, parts_nil, dI, List.map_cons, List.map_nil, vget, bget, List.getD_cons_zero, List.getD_cons_succ, Box.vals, Nat.le_refl, cells_case, len_case, part_case, part_case0, part_case7, part_case14, cells_ctx, len_ctx, part_ctx, part_ctx0, part_ctx1, part_ctx2, part_ctx3, part_ctx5, set_ctx, cells_lev, len_lev, part_lev, part_lev0, part_lev1, set_lev, field_rng, field_lo, field_hi, eql_lev, neq_lev, cells_bool1, List.length_singleton, part_bool1]
  repeat' first | refine And.intro (fun h => ?_) (fun h => ?_)
  all_goals simp_all
theorem meth_un : meth? Try.prog 124 "accesscontrol/constraint.number" = some 96 := by kernel_rfl
theorem meth_rn : meth? Try.prog 125 "accesscontrol/constraint.number" = some 98 := by kernel_rfl
theorem meth_tn : meth? Try.prog 126 "accesscontrol/constraint.number" = some 100 := by kernel_rfl
theorem meth_lg : meth? Try.prog 128 "accesscontrol/constraint.grade" = some 101 := by kernel_rfl
theorem withMeth_iface {P : Program} (t : TypeId) (y : D) (name : String) (args : List SV) (k : FuncId → List SV → Prop) : withMeth P (.d (.iface t y)) name args k = bindO (meth? P t name) fun f => k f (.d y :: args) := rfl
theorem methV_iface {P : Program} (t : TypeId) (y : D) (name : String) : methV P (.d (.iface t y)) name = meth? P t name := rfl
theorem sort_ne {a : Int} (h1 : 0 ≤ a) (hs : sortI a ≠ 3) : (a.tmod 5 = 0 ∧ sortI a = 0) ∨ (a.tmod 5 = 1 ∧ sortI a = 1) ∨ (a.tmod 5 = 2 ∧ sortI a = 2) := by
  have h2 : 0 ≤ a.tmod 5 := Int.tmod_nonneg _ h1
  have h3 : a.tmod 5 < 5 := Int.tmod_lt_of_pos _ (by decide)
  unfold sortI minD at *
  split at hs
  · exact absurd rfl hs
  · rw [if_neg (by assumption)]
    omega
theorem sort_eq3 {a : Int} (h1 : 0 ≤ a) (hs : sortI a = 3) : a.tmod 5 = 3 ∨ a.tmod 5 = 4 := by
  have h2 : 0 ≤ a.tmod 5 := Int.tmod_nonneg _ h1
  have h3 : a.tmod 5 < 5 := Int.tmod_lt_of_pos _ (by decide)
  unfold sortI minD at hs
  split at hs <;> omega
/-- the number through the interface -/
theorem number_call (c : CaseD) {a : Int} (h1 : 0 ≤ a) (hs : sortI a ≠ 3) {K : SV → Prop} (hK : K (.d (.int .i64 (nameF c a)))) :
    withMeth Try.prog (.d (viewF a)) "accesscontrol/constraint.number" [.d (dCtx (partF c a))] fun f l => callP (Holds Try.prog gl) f l K := by
  rcases sort_ne h1 hs with ⟨h2, h3⟩ | ⟨h2, h3⟩ | ⟨h2, h3⟩
  · rw [viewF, h2, if_pos (by decide)]
    rw [withMeth_iface, meth_un, bindO_some']
    refine callP_of (userNum _) ?_
    rw [nameF, h3, if_pos (by decide)] at hK
    exact hK
  · rw [viewF, h2, if_neg (by decide), if_pos (by decide)]
    rw [withMeth_iface, meth_rn, bindO_some']
    refine callP_of (roleNum _) ?_
    rw [nameF, h3, if_neg (by decide), if_pos (by decide)] at hK
    exact hK
  · rw [viewF, h2, if_neg (by decide), if_neg (by decide), if_pos (by decide)]
    rw [withMeth_iface, meth_tn, bindO_some']
    refine callP_of (typeNum _) ?_
    rw [nameF, h3, if_neg (by decide), if_neg (by decide)] at hK
    exact hK
theorem number_meth {a : Int} (h1 : 0 ≤ a) (hs : sortI a ≠ 3) {k : FuncId → Prop} (hk : ∀ f, k f) : bindO (methV Try.prog (.d (viewF a)) "accesscontrol/constraint.number") k := by
  rcases sort_ne h1 hs with ⟨h2, h3⟩ | ⟨h2, h3⟩ | ⟨h2, h3⟩
  · rw [viewF, h2, if_pos (by decide)]
    rw [methV_iface, meth_un, bindO_some']; exact hk _
  · rw [viewF, h2, if_neg (by decide), if_pos (by decide)]
    rw [methV_iface, meth_rn, bindO_some']; exact hk _
  · rw [viewF, h2, if_neg (by decide), if_neg (by decide), if_pos (by decide)]
    rw [methV_iface, meth_tn, bindO_some']; exact hk _
theorem grade_call (c : CaseD) {a : Int} (h1 : 0 ≤ a) (hs : sortI a = 3) {K : SV → Prop} (hK : K (.d (dLev (levF c a)))) :
    withMeth Try.prog (.d (viewF a)) "accesscontrol/constraint.grade" [.d (dCtx (partF c a))] fun f l => callP (Holds Try.prog gl) f l K := by
  have h2 := sort_eq3 h1 hs
  rw [viewF, if_neg (by simp; omega), if_neg (by simp; omega), if_neg (by simp; omega)]
  rw [withMeth_iface, meth_lg, bindO_some']
  refine callP_of (levelGrade _ _) ?_
  rw [levF] at hK
  exact hK
theorem ldom_holds (a b : Int × BitVec 64) : Holds Try.prog gl 77 [.d (dLev a), .d (dLev b)] (.d (.bool (domF a b))) := by
  refine holds_of_body hm1 (enters_some (fn := Try.f77) (by kernel_rfl) (by kernel_rfl) (by kernel_rfl)) (h := h77) ?_; rw [body77]; intro hwf
  simp only [demote_d, dem_ptr, bindO_some', noRef_d, true_and, ifP_dec, ifP_true, ifP_false, eql_int, neq_int, lss_int, leq_int, gtr_int, geq_int, un_not, eql_bool, neq_bool, eql_set, neq_set, cells_ex, len_cEx, part_exAll, part_ex0, part_ex1, part_ex2, part_ex3, part_ex4, part_ex5, part_ex9, parts_nil, dI, List.map_cons, List.map_nil, vget, bget, List.getD_cons_zero, List.getD_cons_succ, Box.vals, Nat.le_refl, cells_case, len_case, part_case, part_case0, part_case7, part_case14, cells_ctx, len_ctx, part_ctx, part_ctx0, part_ctx1, part_ctx2, part_ctx3, part_ctx5, set_ctx, cells_lev, len_lev, part_lev, part_lev0, part_lev1, set_lev, field_rng, field_lo, field_hi, eql_lev, neq_lev, bin_and, bin_eqlW]
  repeat' first | refine And.intro (fun h => ?_) (fun h => ?_)
  all_goals (simp only [domF]; first | (simp_all; done) | (simp_all; omega))
theorem relation_holds (a b : Int × BitVec 64) : Holds Try.prog gl 60 [.d (dLev a), .d (dLev b)] (.d (.int .i64 (relF a b))) := by
  refine holds_of_body hm1 (enters_some (fn := Try.f60) (by kernel_rfl) (by kernel_rfl) (by kernel_rfl)) (h := h60) ?_; rw [body60]; intro hwf
  simp only [demote_d, dem_ptr, bindO_some', noRef_d, true_and, ifP_dec, ifP_true, ifP_false, eql_int, neq_int, lss_int, leq_int, gtr_int, geq_int, un_not, eql_bool, neq_bool, eql_set, neq_set, cells_ex, len_cEx, part_exAll, part_ex0, part_ex1, part_ex2, part_ex3, part_ex4, part_ex5, part_ex9, parts_nil, dI, List.map_cons, List.map_nil, vget, bget, List.getD_cons_zero, List.getD_cons_succ, Box.vals, Nat.le_refl, cells_case, len_case, part_case, part_case0, part_case7, part_case14, cells_ctx, len_ctx, part_ctx, part_ctx0, part_ctx1, part_ctx2, part_ctx3, part_ctx5, set_ctx, cells_lev, len_lev, part_lev, part_lev0, part_lev1, set_lev, field_rng, field_lo, field_hi, eql_lev, neq_lev]
  repeat' first | refine And.intro (fun h => ?_) (fun h => ?_) | (refine callP_of (ldom_holds _ _) ?_; simp only [demote_d, dem_ptr, bindO_some', noRef_d, true_and, ifP_dec, ifP_true, ifP_false, eql_int, neq_int, lss_int, leq_int, gtr_int, geq_int, un_not, eql_bool, neq_bool, eql_set, neq_set, cells_ex, len_cEx, part_exAll, part_ex0, part_ex1, part_ex2, part_ex3, part_ex4, part_ex5, part_ex9, parts_nil, dI, List.map_cons, List.map_nil, vget, bget, List.getD_cons_zero, List.getD_cons_succ, Box.vals, Nat.le_refl, cells_case, len_case, part_case, part_case0, part_case7, part_case14, cells_ctx, len_ctx, part_ctx, part_ctx0, part_ctx1, part_ctx2, part_ctx3, part_ctx5, set_ctx, cells_lev, len_lev, part_lev, part_lev0, part_lev1, set_lev, field_rng, field_lo, field_hi, eql_lev, neq_lev])
  all_goals (simp only [relF]; simp_all)
theorem compared_holds {e : Xp} {x : D} (hx : IsE e x) (c : CaseD) (ha : 0 ≤ e.a ∧ e.a < 15) (hb : 0 ≤ e.b ∧ e.b < 15) (hs : sortI e.a = sortI e.b) : Holds Try.prog gl 44 [.d x, .d (dCase c)] (.d (.bool (cmpF e c))) := by
  refine holds_of_body hm1 (enters_some (fn := Try.f44) (by kernel_rfl) (by kernel_rfl) (by kernel_rfl)) (h := h44) ?_; rw [body44]; intro hwf
  obtain ⟨nm, kd, L, rfl, hn, hl, hd, hk⟩ := hx.inv
  simp only [demote_d, dem_ptr, bindO_some', noRef_d, true_and, ifP_dec, ifP_true, ifP_false, eql_int, neq_int, lss_int, leq_int, gtr_int, geq_int, un_not, eql_bool, neq_bool, eql_set, neq_set, cells_ex, len_cEx, part_exAll, part_ex0, part_ex1, part_ex2, part_ex3, part_ex4, part_ex5, part_ex9, parts_nil, dI, List.map_cons, List.map_nil, vget, bget, List.getD_cons_zero, List.getD_cons_succ, Box.vals, Nat.le_refl, cells_case, len_case, part_case, part_case0, part_case7, part_case14, cells_ctx, len_ctx, part_ctx, part_ctx0, part_ctx1, part_ctx2, part_ctx3, part_ctx5, set_ctx, cells_lev, len_lev, part_lev, part_lev0, part_lev1, set_lev, field_rng, field_lo, field_hi, eql_lev, neq_lev]
  refine callP_of (viewed_holds e.a) ?_
  simp only [demote_d, dem_ptr, bindO_some', noRef_d, true_and, ifP_dec, ifP_true, ifP_false, eql_int, neq_int, lss_int, leq_int, gtr_int, geq_int, un_not, eql_bool, neq_bool, eql_set, neq_set, cells_ex, len_cEx, part_exAll, part_ex0, part_ex1, part_ex2, part_ex3, part_ex4, part_ex5, part_ex9, parts_nil, dI, List.map_cons, List.map_nil, vget, bget, List.getD_cons_zero, List.getD_cons_succ, Box.vals, Nat.le_refl, cells_case, len_case, part_case, part_case0, part_case7, part_case14, cells_ctx, len_ctx, part_ctx, part_ctx0, part_ctx1, part_ctx2, part_ctx3, part_ctx5, set_ctx, cells_lev, len_lev, part_lev, part_lev0, part_lev1, set_lev, field_rng, field_lo, field_hi, eql_lev, neq_lev]
  refine callP_of (viewed_holds e.b) ?_
  simp only [demote_d, dem_ptr, bindO_some', noRef_d, true_and, ifP_dec, ifP_true, ifP_false, eql_int, neq_int, lss_int, leq_int, gtr_int, geq_int, un_not, eql_bool, neq_bool, eql_set, neq_set, cells_ex, len_cEx, part_exAll, part_ex0, part_ex1, part_ex2, part_ex3, part_ex4, part_ex5, part_ex9, parts_nil, dI, List.map_cons, List.map_nil, vget, bget, List.getD_cons_zero, List.getD_cons_succ, Box.vals, Nat.le_refl, cells_case, len_case, part_case, part_case0, part_case7, part_case14, cells_ctx, len_ctx, part_ctx, part_ctx0, part_ctx1, part_ctx2, part_ctx3, part_ctx5, set_ctx, cells_lev, len_lev, part_lev, part_lev0, part_lev1, set_lev, field_rng, field_lo, field_hi, eql_lev, neq_lev]
  refine callP_of (part_holds c ha.1 ha.2) ?_
  simp only [demote_d, dem_ptr, bindO_some', noRef_d, true_and, ifP_dec, ifP_true, ifP_false, eql_int, neq_int, lss_int, leq_int, gtr_int, geq_int, un_not, eql_bool, neq_bool, eql_set, neq_set, cells_ex, len_cEx, part_exAll, part_ex0, part_ex1, part_ex2, part_ex3, part_ex4, part_ex5, part_ex9, parts_nil, dI, List.map_cons, List.map_nil, vget, bget, List.getD_cons_zero, List.getD_cons_succ, Box.vals, Nat.le_refl, cells_case, len_case, part_case, part_case0, part_case7, part_case14, cells_ctx, len_ctx, part_ctx, part_ctx0, part_ctx1, part_ctx2, part_ctx3, part_ctx5, set_ctx, cells_lev, len_lev, part_lev, part_lev0, part_lev1, set_lev, field_rng, field_lo, field_hi, eql_lev, neq_lev]
  refine callP_of (part_holds c hb.1 hb.2) ?_
  simp only [demote_d, dem_ptr, bindO_some', noRef_d, true_and, ifP_dec, ifP_true, ifP_false, eql_int, neq_int, lss_int, leq_int, gtr_int, geq_int, un_not, eql_bool, neq_bool, eql_set, neq_set, cells_ex, len_cEx, part_exAll, part_ex0, part_ex1, part_ex2, part_ex3, part_ex4, part_ex5, part_ex9, parts_nil, dI, List.map_cons, List.map_nil, vget, bget, List.getD_cons_zero, List.getD_cons_succ, Box.vals, Nat.le_refl, cells_case, len_case, part_case, part_case0, part_case7, part_case14, cells_ctx, len_ctx, part_ctx, part_ctx0, part_ctx1, part_ctx2, part_ctx3, part_ctx5, set_ctx, cells_lev, len_lev, part_lev, part_lev0, part_lev1, set_lev, field_rng, field_lo, field_hi, eql_lev, neq_lev]
  refine callP_of (isLevel_holds e.a) ?_
  simp only [demote_d, dem_ptr, bindO_some', noRef_d, true_and, ifP_dec, ifP_true, ifP_false, eql_int, neq_int, lss_int, leq_int, gtr_int, geq_int, un_not, eql_bool, neq_bool, eql_set, neq_set, cells_ex, len_cEx, part_exAll, part_ex0, part_ex1, part_ex2, part_ex3, part_ex4, part_ex5, part_ex9, parts_nil, dI, List.map_cons, List.map_nil, vget, bget, List.getD_cons_zero, List.getD_cons_succ, Box.vals, Nat.le_refl, cells_case, len_case, part_case, part_case0, part_case7, part_case14, cells_ctx, len_ctx, part_ctx, part_ctx0, part_ctx1, part_ctx2, part_ctx3, part_ctx5, set_ctx, cells_lev, len_lev, part_lev, part_lev0, part_lev1, set_lev, field_rng, field_lo, field_hi, eql_lev, neq_lev]
  refine And.intro (fun h => ?_) (fun h => ?_)
  · have h3 : sortI e.a ≠ 3 := by simpa using h
    refine number_call c ha.1 h3 ?_
    simp only [demote_d, dem_ptr, bindO_some', noRef_d, true_and, ifP_dec, ifP_true, ifP_false, eql_int, neq_int, lss_int, leq_int, gtr_int, geq_int, un_not, eql_bool, neq_bool, eql_set, neq_set, cells_ex, len_cEx, part_exAll, part_ex0, part_ex1, part_ex2, part_ex3, part_ex4, part_ex5, part_ex9, parts_nil, dI, List.map_cons, List.map_nil, vget, bget, List.getD_cons_zero, List.getD_cons_succ, Box.vals, Nat.le_refl, cells_case, len_case, part_case, part_case0, part_case7, part_case14, cells_ctx, len_ctx, part_ctx, part_ctx0, part_ctx1, part_ctx2, part_ctx3, part_ctx5, set_ctx, cells_lev, len_lev, part_lev, part_lev0, part_lev1, set_lev, field_rng, field_lo, field_hi, eql_lev, neq_lev]
    refine number_call c hb.1 (by rw [← hs]; exact h3) ?_
    simp only [demote_d, dem_ptr, bindO_some', noRef_d, true_and, ifP_dec, ifP_true, ifP_false, eql_int, neq_int, lss_int, leq_int, gtr_int, geq_int, un_not, eql_bool, neq_bool, eql_set, neq_set, cells_ex, len_cEx, part_exAll, part_ex0, part_ex1, part_ex2, part_ex3, part_ex4, part_ex5, part_ex9, parts_nil, dI, List.map_cons, List.map_nil, vget, bget, List.getD_cons_zero, List.getD_cons_succ, Box.vals, Nat.le_refl, cells_case, len_case, part_case, part_case0, part_case7, part_case14, cells_ctx, len_ctx, part_ctx, part_ctx0, part_ctx1, part_ctx2, part_ctx3, part_ctx5, set_ctx, cells_lev, len_lev, part_lev, part_lev0, part_lev1, set_lev, field_rng, field_lo, field_hi, eql_lev, neq_lev]
    rw [cmpF, if_pos (by simpa using h3)]
  · have h3 : sortI e.a = 3 := by simpa using h
    refine grade_call c ha.1 h3 ?_
    simp only [demote_d, dem_ptr, bindO_some', noRef_d, true_and, ifP_dec, ifP_true, ifP_false, eql_int, neq_int, lss_int, leq_int, gtr_int, geq_int, un_not, eql_bool, neq_bool, eql_set, neq_set, cells_ex, len_cEx, part_exAll, part_ex0, part_ex1, part_ex2, part_ex3, part_ex4, part_ex5, part_ex9, parts_nil, dI, List.map_cons, List.map_nil, vget, bget, List.getD_cons_zero, List.getD_cons_succ, Box.vals, Nat.le_refl, cells_case, len_case, part_case, part_case0, part_case7, part_case14, cells_ctx, len_ctx, part_ctx, part_ctx0, part_ctx1, part_ctx2, part_ctx3, part_ctx5, set_ctx, cells_lev, len_lev, part_lev, part_lev0, part_lev1, set_lev, field_rng, field_lo, field_hi, eql_lev, neq_lev]
    refine grade_call c hb.1 (by rw [← hs]; exact h3) ?_
    simp only [demote_d, dem_ptr, bindO_some', noRef_d, true_and, ifP_dec, ifP_true, ifP_false, eql_int, neq_int, lss_int, leq_int, gtr_int, geq_int, un_not, eql_bool, neq_bool, eql_set, neq_set, cells_ex, len_cEx, part_exAll, part_ex0, part_ex1, part_ex2, part_ex3, part_ex4, part_ex5, part_ex9, parts_nil, dI, List.map_cons, List.map_nil, vget, bget, List.getD_cons_zero, List.getD_cons_succ, Box.vals, Nat.le_refl, cells_case, len_case, part_case, part_case0, part_case7, part_case14, cells_ctx, len_ctx, part_ctx, part_ctx0, part_ctx1, part_ctx2, part_ctx3, part_ctx5, set_ctx, cells_lev, len_lev, part_lev, part_lev0, part_lev1, set_lev, field_rng, field_lo, field_hi, eql_lev, neq_lev]
    refine callP_of (relation_holds _ _) ?_
    simp only [demote_d, dem_ptr, bindO_some', noRef_d, true_and, ifP_dec, ifP_true, ifP_false, eql_int, neq_int, lss_int, leq_int, gtr_int, geq_int, un_not, eql_bool, neq_bool, eql_set, neq_set, cells_ex, len_cEx, part_exAll, part_ex0, part_ex1, part_ex2, part_ex3, part_ex4, part_ex5, part_ex9, parts_nil, dI, List.map_cons, List.map_nil, vget, bget, List.getD_cons_zero, List.getD_cons_succ, Box.vals, Nat.le_refl, cells_case, len_case, part_case, part_case0, part_case7, part_case14, cells_ctx, len_ctx, part_ctx, part_ctx0, part_ctx1, part_ctx2, part_ctx3, part_ctx5, set_ctx, cells_lev, len_lev, part_lev, part_lev0, part_lev1, set_lev, field_rng, field_lo, field_hi, eql_lev, neq_lev]
    have h4 : ¬ (sortI e.a != 3) = true := by simpa using h3
    clear hwf hx hn hd hk
    repeat' first | refine And.intro (fun h => ?_) (fun h => ?_)
    all_goals (rw [cmpF, if_neg h4]; simp_all)
end Go.Proofs.Ytcnnhnjcnekhcaa.Ab
/-
  CONSTRAINTS: the value of an expression, both ways.
-/
namespace Go.Proofs.Ytcnnhnjcnekhcaa.Ab
open Go
def okN (e : Xp) : Bool := nodeF e false 15 == 0
theorem kid_at {e : Xp} {L : List D} {kd : D} (hl : L.length = e.kids.length) (hd : IsD 10 L kd) (hk : ∀ (i : Nat) k y, e.kids[i]? = some k → L[i]? = some y → IsE k y) {i : Nat} (hi : i < e.kids.length) :
    ∃ k y, e.kids[i]? = some k ∧ IsE k y ∧ elemPtr 10 (.d kd) (.d (.int .i64 (i : Int))) = some (.dptr y 0) := by
  obtain ⟨k, hky⟩ := get_some hi
  obtain ⟨y, hy⟩ := get_some (show i < L.length by omega)
  exact ⟨k, y, hky, hk i k y hky hy, hd.at hy⟩
theorem eval_holds : ∀ (n : Nat) (e : Xp) (x : D) (c : CaseD) (m : Int), e.lv ≤ n → IsE e x → allX okN e m = true → Holds Try.prog gl 25 [.d x, .d (dCase c)] (.d (.bool (valF c e)))
  | 0, e, x, _, _, hn, _, _ => absurd hn (by have := lv_pos e; omega)
  | n + 1, e, x, c, m, hn, hx, hok => by
    refine holds_of_body hm1 (enters_some (fn := Try.f25) (by kernel_rfl) (by kernel_rfl) (by kernel_rfl)) (h := h25) ?_; rw [body25]; intro hwf
    have hnode : nodeF e false 15 = 0 := by have := allX_node hok; simpa [okN] using this
    have hcmp := fun h1 h2 h3 => compared_holds hx c h1 h2 h3
    rw [valF_eq]
    obtain ⟨nm, kd, L, rfl, hnm, hl, hd, hk⟩ := hx.inv
    have ih := fun (i : Nat) k y (hky : e.kids[i]? = some k) (hek : IsE k y) => eval_holds n k y c (m - 1) (by have := Xp.kid_lt hky; omega) hek (allX_kid hok hky)
    rcases node_ok hnode with ⟨hop, h⟩ | ⟨hop, h⟩ | ⟨hop, h⟩ | ⟨hop, h⟩ | ⟨hop, h⟩ <;> rw [hop]
    · obtain ⟨k0, y0, hk0, he0, hp0⟩ := kid_at hl hd hk (show 0 < e.kids.length by omega)
      simp only [demote_d, dem_ptr, bindO_some', noRef_d, true_and, ifP_dec, ifP_true, ifP_false, eql_int, neq_int, lss_int, leq_int, gtr_int, geq_int, un_not, eql_bool, neq_bool, eql_set, neq_set, cells_ex, len_cEx, part_exAll, part_ex0, part_ex1, part_ex2, part_ex3, part_ex4, part_ex5, part_ex9, parts_nil, dI, List.map_cons, List.map_nil, vget, bget, List.getD_cons_zero, List.getD_cons_succ, Box.vals, Nat.le_refl, cells_case, len_case, part_case, part_case0, part_case7, part_case14, cells_ctx, len_ctx, part_ctx, part_ctx0, part_ctx1, part_ctx2, part_ctx3, part_ctx5, set_ctx, cells_lev, len_lev, part_lev, part_lev0, part_lev1, set_lev, field_rng, field_lo, field_hi, eql_lev, neq_lev]
      refine And.intro (fun _ => ?_) (fun h => absurd h (by decide))
      refine bindO_to hp0 ?_
      simp only [demote_d, dem_ptr, bindO_some', noRef_d, true_and, ifP_dec, ifP_true, ifP_false, eql_int, neq_int, lss_int, leq_int, gtr_int, geq_int, un_not, eql_bool, neq_bool, eql_set, neq_set, cells_ex, len_cEx, part_exAll, part_ex0, part_ex1, part_ex2, part_ex3, part_ex4, part_ex5, part_ex9, parts_nil, dI, List.map_cons, List.map_nil, vget, bget, List.getD_cons_zero, List.getD_cons_succ, Box.vals, Nat.le_refl, cells_case, len_case, part_case, part_case0, part_case7, part_case14, cells_ctx, len_ctx, part_ctx, part_ctx0, part_ctx1, part_ctx2, part_ctx3, part_ctx5, set_ctx, cells_lev, len_lev, part_lev, part_lev0, part_lev1, set_lev, field_rng, field_lo, field_hi, eql_lev, neq_lev, he0.load]
      refine callP_of (ih 0 k0 y0 hk0 he0) ?_
      simp only [demote_d, dem_ptr, bindO_some', noRef_d, true_and, ifP_dec, ifP_true, ifP_false, eql_int, neq_int, lss_int, leq_int, gtr_int, geq_int, un_not, eql_bool, neq_bool, eql_set, neq_set, cells_ex, len_cEx, part_exAll, part_ex0, part_ex1, part_ex2, part_ex3, part_ex4, part_ex5, part_ex9, parts_nil, dI, List.map_cons, List.map_nil, vget, bget, List.getD_cons_zero, List.getD_cons_succ, Box.vals, Nat.le_refl, cells_case, len_case, part_case, part_case0, part_case7, part_case14, cells_ctx, len_ctx, part_ctx, part_ctx0, part_ctx1, part_ctx2, part_ctx3, part_ctx5, set_ctx, cells_lev, len_lev, part_lev, part_lev0, part_lev1, set_lev, field_rng, field_lo, field_hi, eql_lev, neq_lev]
      rw [if_pos (by decide), vals_get hk0]
    · obtain ⟨k0, y0, hk0, he0, hp0⟩ := kid_at hl hd hk (show 0 < e.kids.length by omega)
      obtain ⟨k1, y1, hk1, he1, hp1⟩ := kid_at hl hd hk (show 1 < e.kids.length by omega)
      simp only [demote_d, dem_ptr, bindO_some', noRef_d, true_and, ifP_dec, ifP_true, ifP_false, eql_int, neq_int, lss_int, leq_int, gtr_int, geq_int, un_not, eql_bool, neq_bool, eql_set, neq_set, cells_ex, len_cEx, part_exAll, part_ex0, part_ex1, part_ex2, part_ex3, part_ex4, part_ex5, part_ex9, parts_nil, dI, List.map_cons, List.map_nil, vget, bget, List.getD_cons_zero, List.getD_cons_succ, Box.vals, Nat.le_refl, cells_case, len_case, part_case, part_case0, part_case7, part_case14, cells_ctx, len_ctx, part_ctx, part_ctx0, part_ctx1, part_ctx2, part_ctx3, part_ctx5, set_ctx, cells_lev, len_lev, part_lev, part_lev0, part_lev1, set_lev, field_rng, field_lo, field_hi, eql_lev, neq_lev]
      refine And.intro (fun h => absurd h (by decide)) (fun _ => ?_)
      refine And.intro (fun _ => ?_) (fun h => absurd h (by decide))
      refine bindO_to hp0 ?_
      simp only [demote_d, dem_ptr, bindO_some', noRef_d, true_and, ifP_dec, ifP_true, ifP_false, eql_int, neq_int, lss_int, leq_int, gtr_int, geq_int, un_not, eql_bool, neq_bool, eql_set, neq_set, cells_ex, len_cEx, part_exAll, part_ex0, part_ex1, part_ex2, part_ex3, part_ex4, part_ex5, part_ex9, parts_nil, dI, List.map_cons, List.map_nil, vget, bget, List.getD_cons_zero, List.getD_cons_succ, Box.vals, Nat.le_refl, cells_case, len_case, part_case, part_case0, part_case7, part_case14, cells_ctx, len_ctx, part_ctx, part_ctx0, part_ctx1, part_ctx2, part_ctx3, part_ctx5, set_ctx, cells_lev, len_lev, part_lev, part_lev0, part_lev1, set_lev, field_rng, field_lo, field_hi, eql_lev, neq_lev, he0.load]
      refine callP_of (ih 0 k0 y0 hk0 he0) ?_
      simp only [demote_d, dem_ptr, bindO_some', noRef_d, true_and, ifP_dec, ifP_true, ifP_false, eql_int, neq_int, lss_int, leq_int, gtr_int, geq_int, un_not, eql_bool, neq_bool, eql_set, neq_set, cells_ex, len_cEx, part_exAll, part_ex0, part_ex1, part_ex2, part_ex3, part_ex4, part_ex5, part_ex9, parts_nil, dI, List.map_cons, List.map_nil, vget, bget, List.getD_cons_zero, List.getD_cons_succ, Box.vals, Nat.le_refl, cells_case, len_case, part_case, part_case0, part_case7, part_case14, cells_ctx, len_ctx, part_ctx, part_ctx0, part_ctx1, part_ctx2, part_ctx3, part_ctx5, set_ctx, cells_lev, len_lev, part_lev, part_lev0, part_lev1, set_lev, field_rng, field_lo, field_hi, eql_lev, neq_lev]
      rw [if_neg (by decide), if_pos (by decide), vals_get hk0, vals_get hk1]
      refine And.intro (fun h => ?_) (fun h => ?_)
      · refine bindO_to hp1 ?_
        simp only [demote_d, dem_ptr, bindO_some', noRef_d, true_and, ifP_dec, ifP_true, ifP_false, eql_int, neq_int, lss_int, leq_int, gtr_int, geq_int, un_not, eql_bool, neq_bool, eql_set, neq_set, cells_ex, len_cEx, part_exAll, part_ex0, part_ex1, part_ex2, part_ex3, part_ex4, part_ex5, part_ex9, parts_nil, dI, List.map_cons, List.map_nil, vget, bget, List.getD_cons_zero, List.getD_cons_succ, Box.vals, Nat.le_refl, cells_case, len_case, part_case, part_case0, part_case7, part_case14, cells_ctx, len_ctx, part_ctx, part_ctx0, part_ctx1, part_ctx2, part_ctx3, part_ctx5, set_ctx, cells_lev, len_lev, part_lev, part_lev0, part_lev1, set_lev, field_rng, field_lo, field_hi, eql_lev, neq_lev, he1.load]
        refine callP_of (ih 1 k1 y1 hk1 he1) ?_
        simp only [demote_d, dem_ptr, bindO_some', noRef_d, true_and, ifP_dec, ifP_true, ifP_false, eql_int, neq_int, lss_int, leq_int, gtr_int, geq_int, un_not, eql_bool, neq_bool, eql_set, neq_set, cells_ex, len_cEx, part_exAll, part_ex0, part_ex1, part_ex2, part_ex3, part_ex4, part_ex5, part_ex9, parts_nil, dI, List.map_cons, List.map_nil, vget, bget, List.getD_cons_zero, List.getD_cons_succ, Box.vals, Nat.le_refl, cells_case, len_case, part_case, part_case0, part_case7, part_case14, cells_ctx, len_ctx, part_ctx, part_ctx0, part_ctx1, part_ctx2, part_ctx3, part_ctx5, set_ctx, cells_lev, len_lev, part_lev, part_lev0, part_lev1, set_lev, field_rng, field_lo, field_hi, eql_lev, neq_lev]
        rw [h, Bool.true_and]
      · rw [h, Bool.false_and]
    · obtain ⟨k0, y0, hk0, he0, hp0⟩ := kid_at hl hd hk (show 0 < e.kids.length by omega)
      obtain ⟨k1, y1, hk1, he1, hp1⟩ := kid_at hl hd hk (show 1 < e.kids.length by omega)
      simp only [demote_d, dem_ptr, bindO_some', noRef_d, true_and, ifP_dec, ifP_true, ifP_false, eql_int, neq_int, lss_int, leq_int, gtr_int, geq_int, un_not, eql_bool, neq_bool, eql_set, neq_set, cells_ex, len_cEx, part_exAll, part_ex0, part_ex1, part_ex2, part_ex3, part_ex4, part_ex5, part_ex9, parts_nil, dI, List.map_cons, List.map_nil, vget, bget, List.getD_cons_zero, List.getD_cons_succ, Box.vals, Nat.le_refl, cells_case, len_case, part_case, part_case0, part_case7, part_case14, cells_ctx, len_ctx, part_ctx, part_ctx0, part_ctx1, part_ctx2, part_ctx3, part_ctx5, set_ctx, cells_lev, len_lev, part_lev, part_lev0, part_lev1, set_lev, field_rng, field_lo, field_hi, eql_lev, neq_lev]
      refine And.intro (fun h => absurd h (by decide)) (fun _ => ?_)
      refine And.intro (fun h => absurd h (by decide)) (fun _ => ?_)
      refine And.intro (fun _ => ?_) (fun h => absurd h (by decide))
      refine bindO_to hp0 ?_
      simp only [demote_d, dem_ptr, bindO_some', noRef_d, true_and, ifP_dec, ifP_true, ifP_false, eql_int, neq_int, lss_int, leq_int, gtr_int, geq_int, un_not, eql_bool, neq_bool, eql_set, neq_set, cells_ex, len_cEx, part_exAll, part_ex0, part_ex1, part_ex2, part_ex3, part_ex4, part_ex5, part_ex9, parts_nil, dI, List.map_cons, List.map_nil, vget, bget, List.getD_cons_zero, List.getD_cons_succ, Box.vals, Nat.le_refl, cells_case, len_case, part_case, part_case0, part_case7, part_case14, cells_ctx, len_ctx, part_ctx, part_ctx0, part_ctx1, part_ctx2, part_ctx3, part_ctx5, set_ctx, cells_lev, len_lev, part_lev, part_lev0, part_lev1, set_lev, field_rng, field_lo, field_hi, eql_lev, neq_lev, he0.load]
      refine callP_of (ih 0 k0 y0 hk0 he0) ?_
      simp only [demote_d, dem_ptr, bindO_some', noRef_d, true_and, ifP_dec, ifP_true, ifP_false, eql_int, neq_int, lss_int, leq_int, gtr_int, geq_int, un_not, eql_bool, neq_bool, eql_set, neq_set, cells_ex, len_cEx, part_exAll, part_ex0, part_ex1, part_ex2, part_ex3, part_ex4, part_ex5, part_ex9, parts_nil, dI, List.map_cons, List.map_nil, vget, bget, List.getD_cons_zero, List.getD_cons_succ, Box.vals, Nat.le_refl, cells_case, len_case, part_case, part_case0, part_case7, part_case14, cells_ctx, len_ctx, part_ctx, part_ctx0, part_ctx1, part_ctx2, part_ctx3, part_ctx5, set_ctx, cells_lev, len_lev, part_lev, part_lev0, part_lev1, set_lev, field_rng, field_lo, field_hi, eql_lev, neq_lev]
      rw [if_neg (by decide), if_neg (by decide), if_pos (by decide), vals_get hk0, vals_get hk1]
      refine And.intro (fun h => ?_) (fun h => ?_)
      · rw [h, Bool.true_or]
      · refine bindO_to hp1 ?_
        simp only [demote_d, dem_ptr, bindO_some', noRef_d, true_and, ifP_dec, ifP_true, ifP_false, eql_int, neq_int, lss_int, leq_int, gtr_int, geq_int, un_not, eql_bool, neq_bool, eql_set, neq_set, cells_ex, len_cEx, part_exAll, part_ex0, part_ex1, part_ex2, part_ex3, part_ex4, part_ex5, part_ex9, parts_nil, dI, List.map_cons, List.map_nil, vget, bget, List.getD_cons_zero, List.getD_cons_succ, Box.vals, Nat.le_refl, cells_case, len_case, part_case, part_case0, part_case7, part_case14, cells_ctx, len_ctx, part_ctx, part_ctx0, part_ctx1, part_ctx2, part_ctx3, part_ctx5, set_ctx, cells_lev, len_lev, part_lev, part_lev0, part_lev1, set_lev, field_rng, field_lo, field_hi, eql_lev, neq_lev, he1.load]
        refine callP_of (ih 1 k1 y1 hk1 he1) ?_
        simp only [demote_d, dem_ptr, bindO_some', noRef_d, true_and, ifP_dec, ifP_true, ifP_false, eql_int, neq_int, lss_int, leq_int, gtr_int, geq_int, un_not, eql_bool, neq_bool, eql_set, neq_set, cells_ex, len_cEx, part_exAll, part_ex0, part_ex1, part_ex2, part_ex3, part_ex4, part_ex5, part_ex9, parts_nil, dI, List.map_cons, List.map_nil, vget, bget, List.getD_cons_zero, List.getD_cons_succ, Box.vals, Nat.le_refl, cells_case, len_case, part_case, part_case0, part_case7, part_case14, cells_ctx, len_ctx, part_ctx, part_ctx0, part_ctx1, part_ctx2, part_ctx3, part_ctx5, set_ctx, cells_lev, len_lev, part_lev, part_lev0, part_lev1, set_lev, field_rng, field_lo, field_hi, eql_lev, neq_lev]
        rw [h, Bool.false_or]
    · simp only [demote_d, dem_ptr, bindO_some', noRef_d, true_and, ifP_dec, ifP_true, ifP_false, eql_int, neq_int, lss_int, leq_int, gtr_int, geq_int, un_not, eql_bool, neq_bool, eql_set, neq_set, cells_ex, len_cEx, part_exAll, part_ex0, part_ex1, part_ex2, part_ex3, part_ex4, part_ex5, part_ex9, parts_nil, dI, List.map_cons, List.map_nil, vget, bget, List.getD_cons_zero, List.getD_cons_succ, Box.vals, Nat.le_refl, cells_case, len_case, part_case, part_case0, part_case7, part_case14, cells_ctx, len_ctx, part_ctx, part_ctx0, part_ctx1, part_ctx2, part_ctx3, part_ctx5, set_ctx, cells_lev, len_lev, part_lev, part_lev0, part_lev1, set_lev, field_rng, field_lo, field_hi, eql_lev, neq_lev]
      refine And.intro (fun h => absurd h (by decide)) (fun _ => ?_)
      refine And.intro (fun h => absurd h (by decide)) (fun _ => ?_)
      refine And.intro (fun h => absurd h (by decide)) (fun _ => ?_)
      refine And.intro (fun _ => ?_) (fun h => absurd h (by decide))
      refine callP_of (viewed_holds e.a) ?_
      simp only [demote_d, dem_ptr, bindO_some', noRef_d, true_and, ifP_dec, ifP_true, ifP_false, eql_int, neq_int, lss_int, leq_int, gtr_int, geq_int, un_not, eql_bool, neq_bool, eql_set, neq_set, cells_ex, len_cEx, part_exAll, part_ex0, part_ex1, part_ex2, part_ex3, part_ex4, part_ex5, part_ex9, parts_nil, dI, List.map_cons, List.map_nil, vget, bget, List.getD_cons_zero, List.getD_cons_succ, Box.vals, Nat.le_refl, cells_case, len_case, part_case, part_case0, part_case7, part_case14, cells_ctx, len_ctx, part_ctx, part_ctx0, part_ctx1, part_ctx2, part_ctx3, part_ctx5, set_ctx, cells_lev, len_lev, part_lev, part_lev0, part_lev1, set_lev, field_rng, field_lo, field_hi, eql_lev, neq_lev]
      refine callP_of (part_holds c h.1 h.2.1) ?_
      simp only [demote_d, dem_ptr, bindO_some', noRef_d, true_and, ifP_dec, ifP_true, ifP_false, eql_int, neq_int, lss_int, leq_int, gtr_int, geq_int, un_not, eql_bool, neq_bool, eql_set, neq_set, cells_ex, len_cEx, part_exAll, part_ex0, part_ex1, part_ex2, part_ex3, part_ex4, part_ex5, part_ex9, parts_nil, dI, List.map_cons, List.map_nil, vget, bget, List.getD_cons_zero, List.getD_cons_succ, Box.vals, Nat.le_refl, cells_case, len_case, part_case, part_case0, part_case7, part_case14, cells_ctx, len_ctx, part_ctx, part_ctx0, part_ctx1, part_ctx2, part_ctx3, part_ctx5, set_ctx, cells_lev, len_lev, part_lev, part_lev0, part_lev1, set_lev, field_rng, field_lo, field_hi, eql_lev, neq_lev]
      refine number_meth h.1 h.2.2 fun _ => ?_
      refine number_call c h.1 h.2.2 ?_
      simp only [demote_d, dem_ptr, bindO_some', noRef_d, true_and, ifP_dec, ifP_true, ifP_false, eql_int, neq_int, lss_int, leq_int, gtr_int, geq_int, un_not, eql_bool, neq_bool, eql_set, neq_set, cells_ex, len_cEx, part_exAll, part_ex0, part_ex1, part_ex2, part_ex3, part_ex4, part_ex5, part_ex9, parts_nil, dI, List.map_cons, List.map_nil, vget, bget, List.getD_cons_zero, List.getD_cons_succ, Box.vals, Nat.le_refl, cells_case, len_case, part_case, part_case0, part_case7, part_case14, cells_ctx, len_ctx, part_ctx, part_ctx0, part_ctx1, part_ctx2, part_ctx3, part_ctx5, set_ctx, cells_lev, len_lev, part_lev, part_lev0, part_lev1, set_lev, field_rng, field_lo, field_hi, eql_lev, neq_lev]
      refine callP_of (has_holds e.w (nameF c e.a)) ?_
      simp only [demote_d, dem_ptr, bindO_some', noRef_d, true_and, ifP_dec, ifP_true, ifP_false, eql_int, neq_int, lss_int, leq_int, gtr_int, geq_int, un_not, eql_bool, neq_bool, eql_set, neq_set, cells_ex, len_cEx, part_exAll, part_ex0, part_ex1, part_ex2, part_ex3, part_ex4, part_ex5, part_ex9, parts_nil, dI, List.map_cons, List.map_nil, vget, bget, List.getD_cons_zero, List.getD_cons_succ, Box.vals, Nat.le_refl, cells_case, len_case, part_case, part_case0, part_case7, part_case14, cells_ctx, len_ctx, part_ctx, part_ctx0, part_ctx1, part_ctx2, part_ctx3, part_ctx5, set_ctx, cells_lev, len_lev, part_lev, part_lev0, part_lev1, set_lev, field_rng, field_lo, field_hi, eql_lev, neq_lev]
      rw [if_neg (by decide), if_neg (by decide), if_neg (by decide), if_pos (by decide)]
      rfl
    · have hcmp := hcmp ⟨h.1, h.2.1⟩ ⟨h.2.2.1, h.2.2.2.1⟩ h.2.2.2.2.2.2.1
      rw [hop] at hcmp
      simp only [demote_d, dem_ptr, bindO_some', noRef_d, true_and, ifP_dec, ifP_true, ifP_false, eql_int, neq_int, lss_int, leq_int, gtr_int, geq_int, un_not, eql_bool, neq_bool, eql_set, neq_set, cells_ex, len_cEx, part_exAll, part_ex0, part_ex1, part_ex2, part_ex3, part_ex4, part_ex5, part_ex9, parts_nil, dI, List.map_cons, List.map_nil, vget, bget, List.getD_cons_zero, List.getD_cons_succ, Box.vals, Nat.le_refl, cells_case, len_case, part_case, part_case0, part_case7, part_case14, cells_ctx, len_ctx, part_ctx, part_ctx0, part_ctx1, part_ctx2, part_ctx3, part_ctx5, set_ctx, cells_lev, len_lev, part_lev, part_lev0, part_lev1, set_lev, field_rng, field_lo, field_hi, eql_lev, neq_lev]
      refine And.intro (fun h => absurd h (by decide)) (fun _ => ?_)
      refine And.intro (fun h => absurd h (by decide)) (fun _ => ?_)
      refine And.intro (fun h => absurd h (by decide)) (fun _ => ?_)
      refine And.intro (fun h => absurd h (by decide)) (fun _ => ?_)
      refine callP_of hcmp ?_
      simp only [demote_d, dem_ptr, bindO_some', noRef_d, true_and, ifP_dec, ifP_true, ifP_false, eql_int, neq_int, lss_int, leq_int, gtr_int, geq_int, un_not, eql_bool, neq_bool, eql_set, neq_set, cells_ex, len_cEx, part_exAll, part_ex0, part_ex1, part_ex2, part_ex3, part_ex4, part_ex5, part_ex9, parts_nil, dI, List.map_cons, List.map_nil, vget, bget, List.getD_cons_zero, List.getD_cons_succ, Box.vals, Nat.le_refl, cells_case, len_case, part_case, part_case0, part_case7, part_case14, cells_ctx, len_ctx, part_ctx, part_ctx0, part_ctx1, part_ctx2, part_ctx3, part_ctx5, set_ctx, cells_lev, len_lev, part_lev, part_lev0, part_lev1, set_lev, field_rng, field_lo, field_hi, eql_lev, neq_lev]
      rw [if_neg (by decide), if_neg (by decide), if_neg (by decide), if_neg (by decide)]
theorem value_holds : ∀ (n : Nat) (e : Xp) (x : D) (c : CaseD) (m : Int), e.lv ≤ n → IsE e x → allX okN e m = true → Holds Try.prog gl 26 [.d x, .d (dCase c)] (.d (.bool (valF c e)))
  | 0, e, x, _, _, hn, _, _ => absurd hn (by have := lv_pos e; omega)
  | n + 1, e, x, c, m, hn, hx, hok => by
    refine holds_of_body hm1 (enters_some (fn := Try.f26) (by kernel_rfl) (by kernel_rfl) (by kernel_rfl)) (h := h26) ?_; rw [body26]; intro hwf
    have hnode : nodeF e false 15 = 0 := by have := allX_node hok; simpa [okN] using this
    have hcmp := fun h1 h2 h3 h4 => compareR_holds hx c h1 h2 h3 h4
    rw [valF_eq]
    obtain ⟨nm, kd, L, rfl, hnm, hl, hd, hk⟩ := hx.inv
    have ih := fun (i : Nat) k y (hky : e.kids[i]? = some k) (hek : IsE k y) => value_holds n k y c (m - 1) (by have := Xp.kid_lt hky; omega) hek (allX_kid hok hky)
    rcases node_ok hnode with ⟨hop, h⟩ | ⟨hop, h⟩ | ⟨hop, h⟩ | ⟨hop, h⟩ | ⟨hop, h⟩ <;> rw [hop]
    · obtain ⟨k0, y0, hk0, he0, hp0⟩ := kid_at hl hd hk (show 0 < e.kids.length by omega)
      simp only [demote_d, dem_ptr, bindO_some', noRef_d, true_and, ifP_dec, ifP_true, ifP_false, eql_int, neq_int, lss_int, leq_int, gtr_int, geq_int, un_not, eql_bool, neq_bool, eql_set, neq_set, cells_ex, len_cEx, part_exAll, part_ex0, part_ex1, part_ex2, part_ex3, part_ex4, part_ex5, part_ex9, parts_nil, dI, List.map_cons, List.map_nil, vget, bget, List.getD_cons_zero, List.getD_cons_succ, Box.vals, Nat.le_refl, cells_case, len_case, part_case, part_case0, part_case7, part_case14, cells_ctx, len_ctx, part_ctx, part_ctx0, part_ctx1, part_ctx2, part_ctx3, part_ctx5, set_ctx, cells_lev, len_lev, part_lev, part_lev0, part_lev1, set_lev, field_rng, field_lo, field_hi, eql_lev, neq_lev]
      refine And.intro (fun _ => ?_) (fun h => absurd h (by decide))
      refine bindO_to hp0 ?_
      simp only [demote_d, dem_ptr, bindO_some', noRef_d, true_and, ifP_dec, ifP_true, ifP_false, eql_int, neq_int, lss_int, leq_int, gtr_int, geq_int, un_not, eql_bool, neq_bool, eql_set, neq_set, cells_ex, len_cEx, part_exAll, part_ex0, part_ex1, part_ex2, part_ex3, part_ex4, part_ex5, part_ex9, parts_nil, dI, List.map_cons, List.map_nil, vget, bget, List.getD_cons_zero, List.getD_cons_succ, Box.vals, Nat.le_refl, cells_case, len_case, part_case, part_case0, part_case7, part_case14, cells_ctx, len_ctx, part_ctx, part_ctx0, part_ctx1, part_ctx2, part_ctx3, part_ctx5, set_ctx, cells_lev, len_lev, part_lev, part_lev0, part_lev1, set_lev, field_rng, field_lo, field_hi, eql_lev, neq_lev, he0.load]
      refine callP_of (ih 0 k0 y0 hk0 he0) ?_
      simp only [demote_d, dem_ptr, bindO_some', noRef_d, true_and, ifP_dec, ifP_true, ifP_false, eql_int, neq_int, lss_int, leq_int, gtr_int, geq_int, un_not, eql_bool, neq_bool, eql_set, neq_set, cells_ex, len_cEx, part_exAll, part_ex0, part_ex1, part_ex2, part_ex3, part_ex4, part_ex5, part_ex9, parts_nil, dI, List.map_cons, List.map_nil, vget, bget, List.getD_cons_zero, List.getD_cons_succ, Box.vals, Nat.le_refl, cells_case, len_case, part_case, part_case0, part_case7, part_case14, cells_ctx, len_ctx, part_ctx, part_ctx0, part_ctx1, part_ctx2, part_ctx3, part_ctx5, set_ctx, cells_lev, len_lev, part_lev, part_lev0, part_lev1, set_lev, field_rng, field_lo, field_hi, eql_lev, neq_lev]
      rw [if_pos (by decide), vals_get hk0]
    · obtain ⟨k0, y0, hk0, he0, hp0⟩ := kid_at hl hd hk (show 0 < e.kids.length by omega)
      obtain ⟨k1, y1, hk1, he1, hp1⟩ := kid_at hl hd hk (show 1 < e.kids.length by omega)
      simp only [demote_d, dem_ptr, bindO_some', noRef_d, true_and, ifP_dec, ifP_true, ifP_false, eql_int, neq_int, lss_int, leq_int, gtr_int, geq_int, un_not, eql_bool, neq_bool, eql_set, neq_set, cells_ex, len_cEx, part_exAll, part_ex0, part_ex1, part_ex2, part_ex3, part_ex4, part_ex5, part_ex9, parts_nil, dI, List.map_cons, List.map_nil, vget, bget, List.getD_cons_zero, List.getD_cons_succ, Box.vals, Nat.le_refl, cells_case, len_case, part_case, part_case0, part_case7, part_case14, cells_ctx, len_ctx, part_ctx, part_ctx0, part_ctx1, part_ctx2, part_ctx3, part_ctx5, set_ctx, cells_lev, len_lev, part_lev, part_lev0, part_lev1, set_lev, field_rng, field_lo, field_hi, eql_lev, neq_lev]
      refine And.intro (fun h => absurd h (by decide)) (fun _ => ?_)
      refine And.intro (fun _ => ?_) (fun h => absurd h (by decide))
      refine bindO_to hp0 ?_
      simp only [demote_d, dem_ptr, bindO_some', noRef_d, true_and, ifP_dec, ifP_true, ifP_false, eql_int, neq_int, lss_int, leq_int, gtr_int, geq_int, un_not, eql_bool, neq_bool, eql_set, neq_set, cells_ex, len_cEx, part_exAll, part_ex0, part_ex1, part_ex2, part_ex3, part_ex4, part_ex5, part_ex9, parts_nil, dI, List.map_cons, List.map_nil, vget, bget, List.getD_cons_zero, List.getD_cons_succ, Box.vals, Nat.le_refl, cells_case, len_case, part_case, part_case0, part_case7, part_case14, cells_ctx, len_ctx, part_ctx, part_ctx0, part_ctx1, part_ctx2, part_ctx3, part_ctx5, set_ctx, cells_lev, len_lev, part_lev, part_lev0, part_lev1, set_lev, field_rng, field_lo, field_hi, eql_lev, neq_lev, he0.load]
      refine callP_of (ih 0 k0 y0 hk0 he0) ?_
      simp only [demote_d, dem_ptr, bindO_some', noRef_d, true_and, ifP_dec, ifP_true, ifP_false, eql_int, neq_int, lss_int, leq_int, gtr_int, geq_int, un_not, eql_bool, neq_bool, eql_set, neq_set, cells_ex, len_cEx, part_exAll, part_ex0, part_ex1, part_ex2, part_ex3, part_ex4, part_ex5, part_ex9, parts_nil, dI, List.map_cons, List.map_nil, vget, bget, List.getD_cons_zero, List.getD_cons_succ, Box.vals, Nat.le_refl, cells_case, len_case, part_case, part_case0, part_case7, part_case14, cells_ctx, len_ctx, part_ctx, part_ctx0, part_ctx1, part_ctx2, part_ctx3, part_ctx5, set_ctx, cells_lev, len_lev, part_lev, part_lev0, part_lev1, set_lev, field_rng, field_lo, field_hi, eql_lev, neq_lev]
      rw [if_neg (by decide), if_pos (by decide), vals_get hk0, vals_get hk1]
      refine And.intro (fun h => ?_) (fun h => ?_)
      · refine bindO_to hp1 ?_
        simp only [demote_d, dem_ptr, bindO_some', noRef_d, true_and, ifP_dec, ifP_true, ifP_false, eql_int, neq_int, lss_int, leq_int, gtr_int, geq_int, un_not, eql_bool, neq_bool, eql_set, neq_set, cells_ex, len_cEx, part_exAll, part_ex0, part_ex1, part_ex2, part_ex3, part_ex4, part_ex5, part_ex9, parts_nil, dI, List.map_cons, List.map_nil, vget, bget, List.getD_cons_zero, List.getD_cons_succ, Box.vals, Nat.le_refl, cells_case, len_case, part_case, part_case0, part_case7, part_case14, cells_ctx, len_ctx, part_ctx, part_ctx0, part_ctx1, part_ctx2, part_ctx3, part_ctx5, set_ctx, cells_lev, len_lev, part_lev, part_lev0, part_lev1, set_lev, field_rng, field_lo, field_hi, eql_lev, neq_lev, he1.load]
        refine callP_of (ih 1 k1 y1 hk1 he1) ?_
        simp only [demote_d, dem_ptr, bindO_some', noRef_d, true_and, ifP_dec, ifP_true, ifP_false, eql_int, neq_int, lss_int, leq_int, gtr_int, geq_int, un_not, eql_bool, neq_bool, eql_set, neq_set, cells_ex, len_cEx, part_exAll, part_ex0, part_ex1, part_ex2, part_ex3, part_ex4, part_ex5, part_ex9, parts_nil, dI, List.map_cons, List.map_nil, vget, bget, List.getD_cons_zero, List.getD_cons_succ, Box.vals, Nat.le_refl, cells_case, len_case, part_case, part_case0, part_case7, part_case14, cells_ctx, len_ctx, part_ctx, part_ctx0, part_ctx1, part_ctx2, part_ctx3, part_ctx5, set_ctx, cells_lev, len_lev, part_lev, part_lev0, part_lev1, set_lev, field_rng, field_lo, field_hi, eql_lev, neq_lev]
        rw [h, Bool.true_and]
      · rw [h, Bool.false_and]
    · obtain ⟨k0, y0, hk0, he0, hp0⟩ := kid_at hl hd hk (show 0 < e.kids.length by omega)
      obtain ⟨k1, y1, hk1, he1, hp1⟩ := kid_at hl hd hk (show 1 < e.kids.length by omega)
      simp only [demote_d, dem_ptr, bindO_some', noRef_d, true_and, ifP_dec, ifP_true, ifP_false, eql_int, neq_int, lss_int, leq_int, gtr_int, geq_int, un_not, eql_bool, neq_bool, eql_set, neq_set, cells_ex, len_cEx, part_exAll, part_ex0, part_ex1, part_ex2, part_ex3, part_ex4, part_ex5, part_ex9, parts_nil, dI, List.map_cons, List.map_nil, vget, bget, List.getD_cons_zero, List.getD_cons_succ, Box.vals, Nat.le_refl, cells_case, len_case, part_case, part_case0, part_case7, part_case14, cells_ctx, len_ctx, part_ctx, part_ctx0, part_ctx1, part_ctx2, part_ctx3, part_ctx5, set_ctx, cells_lev, len_lev, part_lev, part_lev0, part_lev1, set_lev, field_rng, field_lo, field_hi, eql_lev, neq_lev]
      refine And.intro (fun h => absurd h (by decide)) (fun _ => ?_)
      refine And.intro (fun h => absurd h (by decide)) (fun _ => ?_)
      refine And.intro (fun _ => ?_) (fun h => absurd h (by decide))
      refine bindO_to hp0 ?_
      simp only [demote_d, dem_ptr, bindO_some', noRef_d, true_and, ifP_dec, ifP_true, ifP_false, eql_int, neq_int, lss_int, leq_int, gtr_int, geq_int, un_not, eql_bool, neq_bool, eql_set, neq_set, cells_ex, len_cEx, part_exAll, part_ex0, part_ex1, part_ex2, part_ex3, part_ex4, part_ex5, part_ex9, parts_nil, dI, List.map_cons, List.map_nil, vget, bget, List.getD_cons_zero, List.getD_cons_succ, Box.vals, Nat.le_refl, cells_case, len_case, part_case, part_case0, part_case7, part_case14, cells_ctx, len_ctx, part_ctx, part_ctx0, part_ctx1, part_ctx2, part_ctx3, part_ctx5, set_ctx, cells_lev, len_lev, part_lev, part_lev0, part_lev1, set_lev, field_rng, field_lo, field_hi, eql_lev, neq_lev, he0.load]
      refine callP_of (ih 0 k0 y0 hk0 he0) ?_
      simp only [demote_d, dem_ptr, bindO_some', noRef_d, true_and, ifP_dec, ifP_true, ifP_false, eql_int, neq_int, lss_int, leq_int, gtr_int, geq_int, un_not, eql_bool, neq_bool, eql_set, neq_set, cells_ex, len_cEx, part_exAll, part_ex0, part_ex1, part_ex2, part_ex3, part_ex4, part_ex5, part_ex9, parts_nil, dI, List.map_cons, List.map_nil, vget, bget, List.getD_cons_zero, List.getD_cons_succ, Box.vals, Nat.le_refl, cells_case, len_case, part_case, part_case0, part_case7, part_case14, cells_ctx, len_ctx, part_ctx, part_ctx0, part_ctx1, part_ctx2, part_ctx3, part_ctx5, set_ctx, cells_lev, len_lev, part_lev, part_lev0, part_lev1, set_lev, field_rng, field_lo, field_hi, eql_lev, neq_lev]
      rw [if_neg (by decide), if_neg (by decide), if_pos (by decide), vals_get hk0, vals_get hk1]
      refine And.intro (fun h => ?_) (fun h => ?_)
      · rw [h, Bool.true_or]
      · refine bindO_to hp1 ?_
        simp only [demote_d, dem_ptr, bindO_some', noRef_d, true_and, ifP_dec, ifP_true, ifP_false, eql_int, neq_int, lss_int, leq_int, gtr_int, geq_int, un_not, eql_bool, neq_bool, eql_set, neq_set, cells_ex, len_cEx, part_exAll, part_ex0, part_ex1, part_ex2, part_ex3, part_ex4, part_ex5, part_ex9, parts_nil, dI, List.map_cons, List.map_nil, vget, bget, List.getD_cons_zero, List.getD_cons_succ, Box.vals, Nat.le_refl, cells_case, len_case, part_case, part_case0, part_case7, part_case14, cells_ctx, len_ctx, part_ctx, part_ctx0, part_ctx1, part_ctx2, part_ctx3, part_ctx5, set_ctx, cells_lev, len_lev, part_lev, part_lev0, part_lev1, set_lev, field_rng, field_lo, field_hi, eql_lev, neq_lev, he1.load]
        refine callP_of (ih 1 k1 y1 hk1 he1) ?_
        simp only [demote_d, dem_ptr, bindO_some', noRef_d, true_and, ifP_dec, ifP_true, ifP_false, eql_int, neq_int, lss_int, leq_int, gtr_int, geq_int, un_not, eql_bool, neq_bool, eql_set, neq_set, cells_ex, len_cEx, part_exAll, part_ex0, part_ex1, part_ex2, part_ex3, part_ex4, part_ex5, part_ex9, parts_nil, dI, List.map_cons, List.map_nil, vget, bget, List.getD_cons_zero, List.getD_cons_succ, Box.vals, Nat.le_refl, cells_case, len_case, part_case, part_case0, part_case7, part_case14, cells_ctx, len_ctx, part_ctx, part_ctx0, part_ctx1, part_ctx2, part_ctx3, part_ctx5, set_ctx, cells_lev, len_lev, part_lev, part_lev0, part_lev1, set_lev, field_rng, field_lo, field_hi, eql_lev, neq_lev]
        rw [h, Bool.false_or]
    · simp only [demote_d, dem_ptr, bindO_some', noRef_d, true_and, ifP_dec, ifP_true, ifP_false, eql_int, neq_int, lss_int, leq_int, gtr_int, geq_int, un_not, eql_bool, neq_bool, eql_set, neq_set, cells_ex, len_cEx, part_exAll, part_ex0, part_ex1, part_ex2, part_ex3, part_ex4, part_ex5, part_ex9, parts_nil, dI, List.map_cons, List.map_nil, vget, bget, List.getD_cons_zero, List.getD_cons_succ, Box.vals, Nat.le_refl, cells_case, len_case, part_case, part_case0, part_case7, part_case14, cells_ctx, len_ctx, part_ctx, part_ctx0, part_ctx1, part_ctx2, part_ctx3, part_ctx5, set_ctx, cells_lev, len_lev, part_lev, part_lev0, part_lev1, set_lev, field_rng, field_lo, field_hi, eql_lev, neq_lev]
      refine And.intro (fun h => absurd h (by decide)) (fun _ => ?_)
      refine And.intro (fun h => absurd h (by decide)) (fun _ => ?_)
      refine And.intro (fun h => absurd h (by decide)) (fun _ => ?_)
      refine And.intro (fun _ => ?_) (fun h => absurd h (by decide))
      refine callP_of (name17_holds c h.1 h.2.1) ?_
      simp only [demote_d, dem_ptr, bindO_some', noRef_d, true_and, ifP_dec, ifP_true, ifP_false, eql_int, neq_int, lss_int, leq_int, gtr_int, geq_int, un_not, eql_bool, neq_bool, eql_set, neq_set, cells_ex, len_cEx, part_exAll, part_ex0, part_ex1, part_ex2, part_ex3, part_ex4, part_ex5, part_ex9, parts_nil, dI, List.map_cons, List.map_nil, vget, bget, List.getD_cons_zero, List.getD_cons_succ, Box.vals, Nat.le_refl, cells_case, len_case, part_case, part_case0, part_case7, part_case14, cells_ctx, len_ctx, part_ctx, part_ctx0, part_ctx1, part_ctx2, part_ctx3, part_ctx5, set_ctx, cells_lev, len_lev, part_lev, part_lev0, part_lev1, set_lev, field_rng, field_lo, field_hi, eql_lev, neq_lev]
      refine callP_of (hasR_holds e.w (nameF c e.a)) ?_
      simp only [demote_d, dem_ptr, bindO_some', noRef_d, true_and, ifP_dec, ifP_true, ifP_false, eql_int, neq_int, lss_int, leq_int, gtr_int, geq_int, un_not, eql_bool, neq_bool, eql_set, neq_set, cells_ex, len_cEx, part_exAll, part_ex0, part_ex1, part_ex2, part_ex3, part_ex4, part_ex5, part_ex9, parts_nil, dI, List.map_cons, List.map_nil, vget, bget, List.getD_cons_zero, List.getD_cons_succ, Box.vals, Nat.le_refl, cells_case, len_case, part_case, part_case0, part_case7, part_case14, cells_ctx, len_ctx, part_ctx, part_ctx0, part_ctx1, part_ctx2, part_ctx3, part_ctx5, set_ctx, cells_lev, len_lev, part_lev, part_lev0, part_lev1, set_lev, field_rng, field_lo, field_hi, eql_lev, neq_lev]
      rw [if_neg (by decide), if_neg (by decide), if_neg (by decide), if_pos (by decide)]
      rfl
    · have hcmp := hcmp ⟨h.1, h.2.1⟩ ⟨h.2.2.1, h.2.2.2.1⟩ ⟨h.2.2.2.2.1, h.2.2.2.2.2.1⟩ h.2.2.2.2.2.2.1
      rw [hop] at hcmp
      simp only [demote_d, dem_ptr, bindO_some', noRef_d, true_and, ifP_dec, ifP_true, ifP_false, eql_int, neq_int, lss_int, leq_int, gtr_int, geq_int, un_not, eql_bool, neq_bool, eql_set, neq_set, cells_ex, len_cEx, part_exAll, part_ex0, part_ex1, part_ex2, part_ex3, part_ex4, part_ex5, part_ex9, parts_nil, dI, List.map_cons, List.map_nil, vget, bget, List.getD_cons_zero, List.getD_cons_succ, Box.vals, Nat.le_refl, cells_case, len_case, part_case, part_case0, part_case7, part_case14, cells_ctx, len_ctx, part_ctx, part_ctx0, part_ctx1, part_ctx2, part_ctx3, part_ctx5, set_ctx, cells_lev, len_lev, part_lev, part_lev0, part_lev1, set_lev, field_rng, field_lo, field_hi, eql_lev, neq_lev]
      refine And.intro (fun h => absurd h (by decide)) (fun _ => ?_)
      refine And.intro (fun h => absurd h (by decide)) (fun _ => ?_)
      refine And.intro (fun h => absurd h (by decide)) (fun _ => ?_)
      refine And.intro (fun h => absurd h (by decide)) (fun _ => ?_)
      refine callP_of hcmp ?_
      simp only [demote_d, dem_ptr, bindO_some', noRef_d, true_and, ifP_dec, ifP_true, ifP_false, eql_int, neq_int, lss_int, leq_int, gtr_int, geq_int, un_not, eql_bool, neq_bool, eql_set, neq_set, cells_ex, len_cEx, part_exAll, part_ex0, part_ex1, part_ex2, part_ex3, part_ex4, part_ex5, part_ex9, parts_nil, dI, List.map_cons, List.map_nil, vget, bget, List.getD_cons_zero, List.getD_cons_succ, Box.vals, Nat.le_refl, cells_case, len_case, part_case, part_case0, part_case7, part_case14, cells_ctx, len_ctx, part_ctx, part_ctx0, part_ctx1, part_ctx2, part_ctx3, part_ctx5, set_ctx, cells_lev, len_lev, part_lev, part_lev0, part_lev1, set_lev, field_rng, field_lo, field_hi, eql_lev, neq_lev]
      rw [if_neg (by decide), if_neg (by decide), if_neg (by decide), if_neg (by decide)]
/-- Eval -/
def evalF (e : Xp) (c : CaseD) : Bool := allX okN e 12 && valF c e
theorem okN_eq : (fun e => nodeRF e false true == 0) = okN := rfl
theorem okN_first (e : Xp) (n : Int) : allX okN e n = (decide ((e.lv : Int) ≤ n) && firstF (fun e => nodeF e false 15) e == 0) := allX_first e.lv e n (Nat.le_refl _)
theorem exam_fn {f : FuncId} {F : Xp → Int} {m : Nat} (h : ∀ (k : Xp) (y : D), IsE k y → Holds Try.prog gl f [.d y] (.d (.int .i64 (F k)))) : Exam (.d (.fn (.func f))) F m :=
  ⟨rfl, fun k y _ hk K hK => by rw [withFn_fn]; exact callP_of (h k y hk) hK⟩
theorem evalC_holds {e : Xp} {x : D} (hx : IsE e x) (c : CaseD) (hlv : e.lv ≤ 1000) : Holds Try.prog gl 8 [.d x, .d (dCase c)] (.d (.bool (evalF e c))) := by
  refine holds_of_body hm1 (enters_some (fn := Try.f8) (by kernel_rfl) (by kernel_rfl) (by kernel_rfl)) (h := h8) ?_; rw [body8]; intro hwf
  have h1 := levels_holds e.lv e x (Nat.le_refl _) hlv hx
  have h2 := first_holds e.lv e x (Nat.le_refl _) hx (exam_fn fun k y hk => eval1_holds hk)
  have h3 := fun h => eval_holds e.lv e x c 12 (Nat.le_refl _) hx h
  have h0 := okN_first e 12
  obtain ⟨nm, kd, L, rfl, hnm, hl, hd, hk⟩ := hx.inv
  simp only [demote_d, dem_ptr, bindO_some', noRef_d, true_and, ifP_dec, ifP_true, ifP_false, eql_int, neq_int, lss_int, leq_int, gtr_int, geq_int, un_not, eql_bool, neq_bool, eql_set, neq_set, cells_ex, len_cEx, part_exAll, part_ex0, part_ex1, part_ex2, part_ex3, part_ex4, part_ex5, part_ex9, parts_nil, dI, List.map_cons, List.map_nil, vget, bget, List.getD_cons_zero, List.getD_cons_succ, Box.vals, Nat.le_refl, cells_case, len_case, part_case, part_case0, part_case7, part_case14, cells_ctx, len_ctx, part_ctx, part_ctx0, part_ctx1, part_ctx2, part_ctx3, part_ctx5, set_ctx, cells_lev, len_lev, part_lev, part_lev0, part_lev1, set_lev, field_rng, field_lo, field_hi, eql_lev, neq_lev]
  refine callP_of h1 ?_
  simp only [demote_d, dem_ptr, bindO_some', noRef_d, true_and, ifP_dec, ifP_true, ifP_false, eql_int, neq_int, lss_int, leq_int, gtr_int, geq_int, un_not, eql_bool, neq_bool, eql_set, neq_set, cells_ex, len_cEx, part_exAll, part_ex0, part_ex1, part_ex2, part_ex3, part_ex4, part_ex5, part_ex9, parts_nil, dI, List.map_cons, List.map_nil, vget, bget, List.getD_cons_zero, List.getD_cons_succ, Box.vals, Nat.le_refl, cells_case, len_case, part_case, part_case0, part_case7, part_case14, cells_ctx, len_ctx, part_ctx, part_ctx0, part_ctx1, part_ctx2, part_ctx3, part_ctx5, set_ctx, cells_lev, len_lev, part_lev, part_lev0, part_lev1, set_lev, field_rng, field_lo, field_hi, eql_lev, neq_lev]
  refine And.intro (fun h => ?_) (fun h => ?_)
  · refine callP_of h2 ?_
    simp only [demote_d, dem_ptr, bindO_some', noRef_d, true_and, ifP_dec, ifP_true, ifP_false, eql_int, neq_int, lss_int, leq_int, gtr_int, geq_int, un_not, eql_bool, neq_bool, eql_set, neq_set, cells_ex, len_cEx, part_exAll, part_ex0, part_ex1, part_ex2, part_ex3, part_ex4, part_ex5, part_ex9, parts_nil, dI, List.map_cons, List.map_nil, vget, bget, List.getD_cons_zero, List.getD_cons_succ, Box.vals, Nat.le_refl, cells_case, len_case, part_case, part_case0, part_case7, part_case14, cells_ctx, len_ctx, part_ctx, part_ctx0, part_ctx1, part_ctx2, part_ctx3, part_ctx5, set_ctx, cells_lev, len_lev, part_lev, part_lev0, part_lev1, set_lev, field_rng, field_lo, field_hi, eql_lev, neq_lev]
    refine And.intro (fun h' => ?_) (fun h' => ?_)
    · rw [h, h', Bool.true_and] at h0
      refine callP_of (h3 h0) ?_
      simp only [demote_d, dem_ptr, bindO_some', noRef_d, true_and, ifP_dec, ifP_true, ifP_false, eql_int, neq_int, lss_int, leq_int, gtr_int, geq_int, un_not, eql_bool, neq_bool, eql_set, neq_set, cells_ex, len_cEx, part_exAll, part_ex0, part_ex1, part_ex2, part_ex3, part_ex4, part_ex5, part_ex9, parts_nil, dI, List.map_cons, List.map_nil, vget, bget, List.getD_cons_zero, List.getD_cons_succ, Box.vals, Nat.le_refl, cells_case, len_case, part_case, part_case0, part_case7, part_case14, cells_ctx, len_ctx, part_ctx, part_ctx0, part_ctx1, part_ctx2, part_ctx3, part_ctx5, set_ctx, cells_lev, len_lev, part_lev, part_lev0, part_lev1, set_lev, field_rng, field_lo, field_hi, eql_lev, neq_lev]
      rw [evalF, h0, Bool.true_and]
    · rw [h', Bool.and_false] at h0
      rw [evalF, h0, Bool.false_and]
  · rw [h, Bool.false_and] at h0
    rw [evalF, h0, Bool.false_and]
theorem evalR_holds {e : Xp} {x : D} (hx : IsE e x) (c : CaseD) : Holds Try.prog gl 9 [.d x, .d (dCase c)] (.d (.bool (evalF e c))) := by
  refine holds_of_body hm1 (enters_some (fn := Try.f9) (by kernel_rfl) (by kernel_rfl) (by kernel_rfl)) (h := h9) ?_; rw [body9]; intro hwf
  have h2 := wellFormed_holds e.lv e x 12 (Nat.le_refl _) hx (by decide)
  rw [okN_eq] at h2
  have h3 := fun h => value_holds e.lv e x c 12 (Nat.le_refl _) hx h
  obtain ⟨nm, kd, L, rfl, hnm, hl, hd, hk⟩ := hx.inv
  simp only [demote_d, dem_ptr, bindO_some', noRef_d, true_and, ifP_dec, ifP_true, ifP_false, eql_int, neq_int, lss_int, leq_int, gtr_int, geq_int, un_not, eql_bool, neq_bool, eql_set, neq_set, cells_ex, len_cEx, part_exAll, part_ex0, part_ex1, part_ex2, part_ex3, part_ex4, part_ex5, part_ex9, parts_nil, dI, List.map_cons, List.map_nil, vget, bget, List.getD_cons_zero, List.getD_cons_succ, Box.vals, Nat.le_refl, cells_case, len_case, part_case, part_case0, part_case7, part_case14, cells_ctx, len_ctx, part_ctx, part_ctx0, part_ctx1, part_ctx2, part_ctx3, part_ctx5, set_ctx, cells_lev, len_lev, part_lev, part_lev0, part_lev1, set_lev, field_rng, field_lo, field_hi, eql_lev, neq_lev]
  refine callP_of h2 ?_
  simp only [demote_d, dem_ptr, bindO_some', noRef_d, true_and, ifP_dec, ifP_true, ifP_false, eql_int, neq_int, lss_int, leq_int, gtr_int, geq_int, un_not, eql_bool, neq_bool, eql_set, neq_set, cells_ex, len_cEx, part_exAll, part_ex0, part_ex1, part_ex2, part_ex3, part_ex4, part_ex5, part_ex9, parts_nil, dI, List.map_cons, List.map_nil, vget, bget, List.getD_cons_zero, List.getD_cons_succ, Box.vals, Nat.le_refl, cells_case, len_case, part_case, part_case0, part_case7, part_case14, cells_ctx, len_ctx, part_ctx, part_ctx0, part_ctx1, part_ctx2, part_ctx3, part_ctx5, set_ctx, cells_lev, len_lev, part_lev, part_lev0, part_lev1, set_lev, field_rng, field_lo, field_hi, eql_lev, neq_lev]
  refine And.intro (fun h => ?_) (fun h => ?_)
  · refine callP_of (h3 h) ?_
    simp only [demote_d, dem_ptr, bindO_some', noRef_d, true_and, ifP_dec, ifP_true, ifP_false, eql_int, neq_int, lss_int, leq_int, gtr_int, geq_int, un_not, eql_bool, neq_bool, eql_set, neq_set, cells_ex, len_cEx, part_exAll, part_ex0, part_ex1, part_ex2, part_ex3, part_ex4, part_ex5, part_ex9, parts_nil, dI, List.map_cons, List.map_nil, vget, bget, List.getD_cons_zero, List.getD_cons_succ, Box.vals, Nat.le_refl, cells_case, len_case, part_case, part_case0, part_case7, part_case14, cells_ctx, len_ctx, part_ctx, part_ctx0, part_ctx1, part_ctx2, part_ctx3, part_ctx5, set_ctx, cells_lev, len_lev, part_lev, part_lev0, part_lev1, set_lev, field_rng, field_lo, field_hi, eql_lev, neq_lev]
    rw [evalF, h, Bool.true_and]
  · rw [evalF, h, Bool.false_and]
end Go.Proofs.Ytcnnhnjcnekhcaa.Ab
/-
  CONSTRAINTS: what is mentioned, both ways.
-/
namespace Go.Proofs.Ytcnnhnjcnekhcaa.Ab
open Go
theorem first_next {α : Type} {p : α → Bool} : ∀ {l : List α} {i : Nat} {x : α}, l[i]? = some x → p x = true → (∀ (j : Nat) y, j < i → l[j]? = some y → p y = false) → first p l = some i := fun h1 h2 h3 => first_at h1 h2 h3
/-- the first kid that is so, through a function value -/
theorem indexX_holds {g : SV} {p : Xp → Bool} (l : List Xp) {L : List D} {kd : D} (hl : L.length = l.length) (hd : IsD 10 L kd) (hk : ∀ (i : Nat) k y, l[i]? = some k → L[i]? = some y → IsE k y) (hg : demote g = g)
    (hp : ∀ (i : Nat) k y, l[i]? = some k → IsE k y → ∀ K : SV → Prop, K (.d (.bool (p k))) → withFn g [.d y] fun f l => callP (Holds Try.prog gl) f l K) :
    Holds Try.prog gl 52 [.d kd, g] (.d (.int .i64 (orM (first p l)))) := by
  refine holds_of_body hm1 (enters_some (fn := Try.f52) (by kernel_rfl) (by kernel_rfl) (by kernel_rfl)) (h := h52) ?_; rw [body52]; intro hwf
  have hcap : L.length ≤ maxLen := by
    have := (SV.WfL_iff _).1 hwf (.d kd) (by simp)
    simp only [SV.Wf] at this
    cases hd with
    | nil s h => subst h; simp
    | ro => rw [D.Wf] at this; exact this.1
  simp only [demote_d, dem_ptr, bindO_some', noRef_d, true_and, ifP_dec, ifP_true, ifP_false, eql_int, neq_int, lss_int, leq_int, gtr_int, geq_int, un_not, eql_bool, neq_bool, eql_set, neq_set, cells_ex, len_cEx, part_exAll, part_ex0, part_ex1, part_ex2, part_ex3, part_ex4, part_ex5, part_ex9, parts_nil, dI, List.map_cons, List.map_nil, vget, bget, List.getD_cons_zero, List.getD_cons_succ, Box.vals, Nat.le_refl, cells_case, len_case, part_case, part_case0, part_case7, part_case14, cells_ctx, len_ctx, part_ctx, part_ctx0, part_ctx1, part_ctx2, part_ctx3, part_ctx5, set_ctx, cells_lev, len_lev, part_lev, part_lev0, part_lev1, set_lev, field_rng, field_lo, field_hi, eql_lev, neq_lev, hd.len, hg]
  refine loopP_inv (fun i => ∀ (j : Nat) k, j < i → l[j]? = some k → p k = false) (fun i => [.d kd, g, .d (.int .i64 (L.length : Int)), .d (.int .i64 ((i : Nat) : Int))]) (fun i => []) L.length (fun j k hj _ => by omega) (fun i hi hJ I hI => ?_) (fun hJ I => ?_)
  · simp only [demote_d, dem_ptr, bindO_some', noRef_d, true_and, ifP_dec, ifP_true, ifP_false, eql_int, neq_int, lss_int, leq_int, gtr_int, geq_int, un_not, eql_bool, neq_bool, eql_set, neq_set, cells_ex, len_cEx, part_exAll, part_ex0, part_ex1, part_ex2, part_ex3, part_ex4, part_ex5, part_ex9, parts_nil, dI, List.map_cons, List.map_nil, vget, bget, List.getD_cons_zero, List.getD_cons_succ, Box.vals, Nat.le_refl, cells_case, len_case, part_case, part_case0, part_case7, part_case14, cells_ctx, len_ctx, part_ctx, part_ctx0, part_ctx1, part_ctx2, part_ctx3, part_ctx5, set_ctx, cells_lev, len_lev, part_lev, part_lev0, part_lev1, set_lev, field_rng, field_lo, field_hi, eql_lev, neq_lev, hg]
    refine And.intro (fun _ => ?_) (fun h => absurd h (by simp; omega))
    obtain ⟨y, hy⟩ := get_some hi
    obtain ⟨k, hky⟩ := get_some (show i < l.length by omega)
    have hek := hk i k y hky hy
    rw [hd.at hy]
    simp only [demote_d, dem_ptr, bindO_some', noRef_d, true_and, ifP_dec, ifP_true, ifP_false, eql_int, neq_int, lss_int, leq_int, gtr_int, geq_int, un_not, eql_bool, neq_bool, eql_set, neq_set, cells_ex, len_cEx, part_exAll, part_ex0, part_ex1, part_ex2, part_ex3, part_ex4, part_ex5, part_ex9, parts_nil, dI, List.map_cons, List.map_nil, vget, bget, List.getD_cons_zero, List.getD_cons_succ, Box.vals, Nat.le_refl, cells_case, len_case, part_case, part_case0, part_case7, part_case14, cells_ctx, len_ctx, part_ctx, part_ctx0, part_ctx1, part_ctx2, part_ctx3, part_ctx5, set_ctx, cells_lev, len_lev, part_lev, part_lev0, part_lev1, set_lev, field_rng, field_lo, field_hi, eql_lev, neq_lev, hek.load, hg]
    refine hp i k y hky hek _ ?_
    simp only [demote_d, dem_ptr, bindO_some', noRef_d, true_and, ifP_dec, ifP_true, ifP_false, eql_int, neq_int, lss_int, leq_int, gtr_int, geq_int, un_not, eql_bool, neq_bool, eql_set, neq_set, cells_ex, len_cEx, part_exAll, part_ex0, part_ex1, part_ex2, part_ex3, part_ex4, part_ex5, part_ex9, parts_nil, dI, List.map_cons, List.map_nil, vget, bget, List.getD_cons_zero, List.getD_cons_succ, Box.vals, Nat.le_refl, cells_case, len_case, part_case, part_case0, part_case7, part_case14, cells_ctx, len_ctx, part_ctx, part_ctx0, part_ctx1, part_ctx2, part_ctx3, part_ctx5, set_ctx, cells_lev, len_lev, part_lev, part_lev0, part_lev1, set_lev, field_rng, field_lo, field_hi, eql_lev, neq_lev]
    refine And.intro (fun h => ?_) (fun h => ?_)
    · rw [first_at hky h hJ]; rfl
    · refine bindO_to (add_up hi hcap) ?_
      refine hI fun j k' hj hk' => ?_
      rcases Nat.lt_or_ge j i with h2 | h2
      · exact hJ j k' h2 hk'
      · have : j = i := by omega
        subst this
        rw [hky] at hk'
        cases hk'
        exact h
  · simp only [demote_d, dem_ptr, bindO_some', noRef_d, true_and, ifP_dec, ifP_true, ifP_false, eql_int, neq_int, lss_int, leq_int, gtr_int, geq_int, un_not, eql_bool, neq_bool, eql_set, neq_set, cells_ex, len_cEx, part_exAll, part_ex0, part_ex1, part_ex2, part_ex3, part_ex4, part_ex5, part_ex9, parts_nil, dI, List.map_cons, List.map_nil, vget, bget, List.getD_cons_zero, List.getD_cons_succ, Box.vals, Nat.le_refl, cells_case, len_case, part_case, part_case0, part_case7, part_case14, cells_ctx, len_ctx, part_ctx, part_ctx0, part_ctx1, part_ctx2, part_ctx3, part_ctx5, set_ctx, cells_lev, len_lev, part_lev, part_lev0, part_lev1, set_lev, field_rng, field_lo, field_hi, eql_lev, neq_lev]
    refine And.intro (fun h => absurd h (by simp)) (fun _ => ?_)
    rw [first_none fun j k hk' => hJ j k (by have := (List.getElem?_eq_some_iff.1 hk').1; omega) hk']
    rfl
theorem load_ref1 (x : SV) (h : demote x = x) : loadV false 1 (.ref [x] 0) = some x := by
  have : partV false 1 0 [x] = some x := rfl
  simp only [loadV, this, h]
theorem dem_ref (cs : List SV) (o : Nat) : demote (.ref cs o) = .ref cs o := rfl
theorem dem_clo (f : Fn) (a b : List SV) : demote (.clo f a b) = .clo f a b := rfl
theorem part_one (x : SV) : partV false 1 0 [x] = some x := rfl
theorem mentions_holds (t : Int) : ∀ (n : Nat) (e : Xp) (x : D), e.lv ≤ n → IsE e x → Holds Try.prog gl 11 [.d x, .d (.int .i64 t)] (.d (.bool (menF t e)))
  | 0, e, x, hn, _ => absurd hn (by have := lv_pos e; omega)
  | n + 1, e, x, hn, hx => by
    refine holds_of_body hm1 (enters_some (fn := Try.f11) (by kernel_rfl) (by kernel_rfl) (by kernel_rfl)) (h := h11) ?_; rw [body11]; intro hwf
    rw [menF_eq, men1]
    obtain ⟨nm, kd, L, rfl, hnm, hl, hd, hk⟩ := hx.inv
    have hclo : ∀ (i : Nat) k y, e.kids[i]? = some k → IsE k y → Holds Try.prog gl 29 [.d y, .ref [.d (.int .i64 t)] 0] (.d (.bool (menF t k))) := by
      intro i k y hky hek
      have ih := mentions_holds t n k y (by have := Xp.kid_lt hky; omega) hek
      refine holds_of_body hm1 (enters_some (fn := Try.f29) (by kernel_rfl) (by kernel_rfl) (by kernel_rfl)) (h := h29) ?_; rw [body29]; intro hwf
      obtain ⟨cs, c1, c2, c3, c4⟩ := hek.cells
      have hl1 : loadV false 1 (.ref [.d (.int .i64 t)] 0) = some (.d (.int .i64 t)) := rfl
      simp only [demote_d, dem_ptr, bindO_some', noRef_d, true_and, ifP_dec, ifP_true, ifP_false, eql_int, neq_int, lss_int, leq_int, gtr_int, geq_int, un_not, eql_bool, neq_bool, eql_set, neq_set, cells_ex, len_cEx, part_exAll, part_ex0, part_ex1, part_ex2, part_ex3, part_ex4, part_ex5, part_ex9, parts_nil, dI, List.map_cons, List.map_nil, vget, bget, List.getD_cons_zero, List.getD_cons_succ, Box.vals, Nat.le_refl, cells_case, len_case, part_case, part_case0, part_case7, part_case14, cells_ctx, len_ctx, part_ctx, part_ctx0, part_ctx1, part_ctx2, part_ctx3, part_ctx5, set_ctx, cells_lev, len_lev, part_lev, part_lev0, part_lev1, set_lev, field_rng, field_lo, field_hi, eql_lev, neq_lev, c1, c2, c3, dem_ref, hl1]
      refine callP_of ih ?_
      simp only [demote_d, dem_ptr, bindO_some', noRef_d, true_and, ifP_dec, ifP_true, ifP_false, eql_int, neq_int, lss_int, leq_int, gtr_int, geq_int, un_not, eql_bool, neq_bool, eql_set, neq_set, cells_ex, len_cEx, part_exAll, part_ex0, part_ex1, part_ex2, part_ex3, part_ex4, part_ex5, part_ex9, parts_nil, dI, List.map_cons, List.map_nil, vget, bget, List.getD_cons_zero, List.getD_cons_succ, Box.vals, Nat.le_refl, cells_case, len_case, part_case, part_case0, part_case7, part_case14, cells_ctx, len_ctx, part_ctx, part_ctx0, part_ctx1, part_ctx2, part_ctx3, part_ctx5, set_ctx, cells_lev, len_lev, part_lev, part_lev0, part_lev1, set_lev, field_rng, field_lo, field_hi, eql_lev, neq_lev]
    have hi := indexX_holds (g := .clo (.func 29) [] [.ref [.d (.int .i64 t)] 0]) (p := menF t) e.kids hl hd hk rfl (fun i k y hky hek K hK => by rw [withFn_clo]; exact callP_of (hclo i k y hky hek) hK)
    have hc : Holds Try.prog gl 28 [.d kd, .clo (.func 29) [] [.ref [.d (.int .i64 t)] 0]] (.d (.bool (menF.go t e.kids))) := by
      refine holds_of_body hm1 (enters_some (fn := Try.f28) (by kernel_rfl) (by kernel_rfl) (by kernel_rfl)) (h := h28) ?_; rw [body28]; intro hwf
      simp only [demote_d, dem_ptr, bindO_some', noRef_d, true_and, ifP_dec, ifP_true, ifP_false, eql_int, neq_int, lss_int, leq_int, gtr_int, geq_int, un_not, eql_bool, neq_bool, eql_set, neq_set, cells_ex, len_cEx, part_exAll, part_ex0, part_ex1, part_ex2, part_ex3, part_ex4, part_ex5, part_ex9, parts_nil, dI, List.map_cons, List.map_nil, vget, bget, List.getD_cons_zero, List.getD_cons_succ, Box.vals, Nat.le_refl, cells_case, len_case, part_case, part_case0, part_case7, part_case14, cells_ctx, len_ctx, part_ctx, part_ctx0, part_ctx1, part_ctx2, part_ctx3, part_ctx5, set_ctx, cells_lev, len_lev, part_lev, part_lev0, part_lev1, set_lev, field_rng, field_lo, field_hi, eql_lev, neq_lev, dem_clo]
      refine callP_of hi ?_
      simp only [demote_d, dem_ptr, bindO_some', noRef_d, true_and, ifP_dec, ifP_true, ifP_false, eql_int, neq_int, lss_int, leq_int, gtr_int, geq_int, un_not, eql_bool, neq_bool, eql_set, neq_set, cells_ex, len_cEx, part_exAll, part_ex0, part_ex1, part_ex2, part_ex3, part_ex4, part_ex5, part_ex9, parts_nil, dI, List.map_cons, List.map_nil, vget, bget, List.getD_cons_zero, List.getD_cons_succ, Box.vals, Nat.le_refl, cells_case, len_case, part_case, part_case0, part_case7, part_case14, cells_ctx, len_ctx, part_ctx, part_ctx0, part_ctx1, part_ctx2, part_ctx3, part_ctx5, set_ctx, cells_lev, len_lev, part_lev, part_lev0, part_lev1, set_lev, field_rng, field_lo, field_hi, eql_lev, neq_lev]
      rw [orM_geq, mens_first]
    clear hwf
    simp only [demote_d, dem_ptr, bindO_some', noRef_d, true_and, ifP_dec, ifP_true, ifP_false, eql_int, neq_int, lss_int, leq_int, gtr_int, geq_int, un_not, eql_bool, neq_bool, eql_set, neq_set, cells_ex, len_cEx, part_exAll, part_ex0, part_ex1, part_ex2, part_ex3, part_ex4, part_ex5, part_ex9, parts_nil, dI, List.map_cons, List.map_nil, vget, bget, List.getD_cons_zero, List.getD_cons_succ, Box.vals, Nat.le_refl, cells_case, len_case, part_case, part_case0, part_case7, part_case14, cells_ctx, len_ctx, part_ctx, part_ctx0, part_ctx1, part_ctx2, part_ctx3, part_ctx5, set_ctx, cells_lev, len_lev, part_lev, part_lev0, part_lev1, set_lev, field_rng, field_lo, field_hi, eql_lev, neq_lev, cells_int, List.length_singleton, part_one]
    repeat' first | refine And.intro (fun h => ?_) (fun h => ?_) | (refine callP_of hc ?_; simp only [demote_d, dem_ptr, bindO_some', noRef_d, true_and, ifP_dec, ifP_true, ifP_false, eql_int, neq_int, lss_int, leq_int, gtr_int, geq_int, un_not, eql_bool, neq_bool, eql_set, neq_set, cells_ex, len_cEx, part_exAll, part_ex0, part_ex1, part_ex2, part_ex3, part_ex4, part_ex5, part_ex9, parts_nil, dI, List.map_cons, List.map_nil, vget, bget, List.getD_cons_zero, List.getD_cons_succ, Box.vals, Nat.le_refl, cells_case, len_case, part_case, part_case0, part_case7, part_case14, cells_ctx, len_ctx, part_ctx, part_ctx0, part_ctx1, part_ctx2, part_ctx3, part_ctx5, set_ctx, cells_lev, len_lev, part_lev, part_lev0, part_lev1, set_lev, field_rng, field_lo, field_hi, eql_lev, neq_lev])
    all_goals simp_all
theorem mentionsR_holds (t : Int) : ∀ (n : Nat) (e : Xp) (x : D), e.lv ≤ n → IsE e x → Holds Try.prog gl 12 [.d x, .d (.int .i64 t)] (.d (.bool (menF t e)))
  | 0, e, x, hn, _ => absurd hn (by have := lv_pos e; omega)
  | n + 1, e, x, hn, hx => by
    refine holds_of_body hm1 (enters_some (fn := Try.f12) (by kernel_rfl) (by kernel_rfl) (by kernel_rfl)) (h := h12) ?_; rw [body12]; intro hwf
    rw [menF_eq, men1]
    obtain ⟨nm, kd, L, rfl, hnm, hl, hd, hk⟩ := hx.inv
    have hcap := ex_cap hwf hd
    have hloop : loopP (fun vs11 bs12 I13 =>
              bindO (partV false 1 9 (bget bs12 0)) fun r14 =>
              bindO (lenL (demote (demote r14))) fun r15 =>
              bindO (binV none .lss (demote (demote (vget vs11 1))) (demote r15)) fun r16 =>
              ifP r16
                (bindO (partV false 1 9 (bget bs12 0)) fun r17 =>
                bindO (elemPtr 10 (demote (demote r17)) (demote (demote (vget vs11 1)))) fun r18 =>
                bindO (loadV true 10 (demote r18)) fun r19 =>
                callP (Holds Try.prog gl) 12 [(demote (demote r19)), (demote (demote (demote (vget vs11 0))))] fun r20 =>
                ifP r20
                  ((SV.noRef (.d (.bool true))) = true ∧
                  (SV.d (.bool true) = SV.d (.bool (menF.go t e.kids))))
                  (bindO (binV none .add (demote (demote (vget vs11 1))) (.d (.int .i64 1))) fun r21 =>
                  (I13 [(vget vs11 0), (demote r21)] [(Box.vals (Box.cells (bget bs12 0)))])))
                ((SV.noRef (.d (.bool false))) = true ∧
                (SV.d (.bool false) = SV.d (.bool (menF.go t e.kids)))))
            [.d (.int .i64 t), (.d (.int .i64 0))] [(Box.vals (Box.cells (cEx e.op e.a e.rel e.b nm e.w kd)))] := by
      refine loopP_inv (fun i => ∀ (j : Nat) k, j < i → e.kids[j]? = some k → menF t k = false) (fun i => [.d (.int .i64 t), .d (.int .i64 ((i : Nat) : Int))]) (fun i => [cEx e.op e.a e.rel e.b nm e.w kd]) L.length (fun j k hj _ => by omega) (fun i hi hJ I hI => ?_) (fun hJ I => ?_)
      · simp only [demote_d, dem_ptr, bindO_some', noRef_d, true_and, ifP_dec, ifP_true, ifP_false, eql_int, neq_int, lss_int, leq_int, gtr_int, geq_int, un_not, eql_bool, neq_bool, eql_set, neq_set, cells_ex, len_cEx, part_exAll, part_ex0, part_ex1, part_ex2, part_ex3, part_ex4, part_ex5, part_ex9, parts_nil, dI, List.map_cons, List.map_nil, vget, bget, List.getD_cons_zero, List.getD_cons_succ, Box.vals, Nat.le_refl, cells_case, len_case, part_case, part_case0, part_case7, part_case14, cells_ctx, len_ctx, part_ctx, part_ctx0, part_ctx1, part_ctx2, part_ctx3, part_ctx5, set_ctx, cells_lev, len_lev, part_lev, part_lev0, part_lev1, set_lev, field_rng, field_lo, field_hi, eql_lev, neq_lev, hd.len]
        refine And.intro (fun _ => ?_) (fun h => absurd h (by simp; omega))
        obtain ⟨y, hy⟩ := get_some hi
        obtain ⟨k, hky⟩ := get_some (show i < e.kids.length by omega)
        have hek := hk i k y hky hy
        rw [hd.at hy]
        simp only [demote_d, dem_ptr, bindO_some', noRef_d, true_and, ifP_dec, ifP_true, ifP_false, eql_int, neq_int, lss_int, leq_int, gtr_int, geq_int, un_not, eql_bool, neq_bool, eql_set, neq_set, cells_ex, len_cEx, part_exAll, part_ex0, part_ex1, part_ex2, part_ex3, part_ex4, part_ex5, part_ex9, parts_nil, dI, List.map_cons, List.map_nil, vget, bget, List.getD_cons_zero, List.getD_cons_succ, Box.vals, Nat.le_refl, cells_case, len_case, part_case, part_case0, part_case7, part_case14, cells_ctx, len_ctx, part_ctx, part_ctx0, part_ctx1, part_ctx2, part_ctx3, part_ctx5, set_ctx, cells_lev, len_lev, part_lev, part_lev0, part_lev1, set_lev, field_rng, field_lo, field_hi, eql_lev, neq_lev, hek.load]
        refine callP_of (mentionsR_holds t n k y (by have := Xp.kid_lt hky; omega) hek) ?_
        simp only [demote_d, dem_ptr, bindO_some', noRef_d, true_and, ifP_dec, ifP_true, ifP_false, eql_int, neq_int, lss_int, leq_int, gtr_int, geq_int, un_not, eql_bool, neq_bool, eql_set, neq_set, cells_ex, len_cEx, part_exAll, part_ex0, part_ex1, part_ex2, part_ex3, part_ex4, part_ex5, part_ex9, parts_nil, dI, List.map_cons, List.map_nil, vget, bget, List.getD_cons_zero, List.getD_cons_succ, Box.vals, Nat.le_refl, cells_case, len_case, part_case, part_case0, part_case7, part_case14, cells_ctx, len_ctx, part_ctx, part_ctx0, part_ctx1, part_ctx2, part_ctx3, part_ctx5, set_ctx, cells_lev, len_lev, part_lev, part_lev0, part_lev1, set_lev, field_rng, field_lo, field_hi, eql_lev, neq_lev]
        refine And.intro (fun h => ?_) (fun h => ?_)
        · rw [mens_get hky h]
        · refine bindO_to (add_up hi hcap) ?_
          refine hI fun j k' hj hk' => ?_
          rcases Nat.lt_or_ge j i with h2 | h2
          · exact hJ j k' h2 hk'
          · have : j = i := by omega
            subst this
            rw [hky] at hk'
            cases hk'
            exact h
      · simp only [demote_d, dem_ptr, bindO_some', noRef_d, true_and, ifP_dec, ifP_true, ifP_false, eql_int, neq_int, lss_int, leq_int, gtr_int, geq_int, un_not, eql_bool, neq_bool, eql_set, neq_set, cells_ex, len_cEx, part_exAll, part_ex0, part_ex1, part_ex2, part_ex3, part_ex4, part_ex5, part_ex9, parts_nil, dI, List.map_cons, List.map_nil, vget, bget, List.getD_cons_zero, List.getD_cons_succ, Box.vals, Nat.le_refl, cells_case, len_case, part_case, part_case0, part_case7, part_case14, cells_ctx, len_ctx, part_ctx, part_ctx0, part_ctx1, part_ctx2, part_ctx3, part_ctx5, set_ctx, cells_lev, len_lev, part_lev, part_lev0, part_lev1, set_lev, field_rng, field_lo, field_hi, eql_lev, neq_lev, hd.len]
        refine And.intro (fun h => absurd h (by simp)) (fun _ => ?_)
        rw [mens_none fun j k hk' => hJ j k (by have := (List.getElem?_eq_some_iff.1 hk').1; omega) hk']
    simp only [demote_d, dem_ptr, bindO_some', noRef_d, true_and, ifP_dec, ifP_true, ifP_false, eql_int, neq_int, lss_int, leq_int, gtr_int, geq_int, un_not, eql_bool, neq_bool, eql_set, neq_set, cells_ex, len_cEx, part_exAll, part_ex0, part_ex1, part_ex2, part_ex3, part_ex4, part_ex5, part_ex9, parts_nil, dI, List.map_cons, List.map_nil, vget, bget, List.getD_cons_zero, List.getD_cons_succ, Box.vals, Nat.le_refl, cells_case, len_case, part_case, part_case0, part_case7, part_case14, cells_ctx, len_ctx, part_ctx, part_ctx0, part_ctx1, part_ctx2, part_ctx3, part_ctx5, set_ctx, cells_lev, len_lev, part_lev, part_lev0, part_lev1, set_lev, field_rng, field_lo, field_hi, eql_lev, neq_lev] at hloop
    clear hwf
    simp only [demote_d, dem_ptr, bindO_some', noRef_d, true_and, ifP_dec, ifP_true, ifP_false, eql_int, neq_int, lss_int, leq_int, gtr_int, geq_int, un_not, eql_bool, neq_bool, eql_set, neq_set, cells_ex, len_cEx, part_exAll, part_ex0, part_ex1, part_ex2, part_ex3, part_ex4, part_ex5, part_ex9, parts_nil, dI, List.map_cons, List.map_nil, vget, bget, List.getD_cons_zero, List.getD_cons_succ, Box.vals, Nat.le_refl, cells_case, len_case, part_case, part_case0, part_case7, part_case14, cells_ctx, len_ctx, part_ctx, part_ctx0, part_ctx1, part_ctx2, part_ctx3, part_ctx5, set_ctx, cells_lev, len_lev, part_lev, part_lev0, part_lev1, set_lev, field_rng, field_lo, field_hi, eql_lev, neq_lev]
    cases hA : (e.op == 8 && (e.a == t || e.b == t)) || (e.op == 9 && e.a == t) with
    | false =>
      simp only [Bool.or_eq_false_iff, Bool.and_eq_false_iff] at hA
      rw [Bool.false_or]
      repeat' first | refine And.intro (fun h => ?_) (fun h => ?_)
      all_goals first | exact hloop | (simp_all; done)
    | true =>
      rw [Bool.true_or]
      repeat' first | refine And.intro (fun h => ?_) (fun h => ?_)
      all_goals first | rfl | (exfalso; simp_all; done)
end Go.Proofs.Ytcnnhnjcnekhcaa.Ab
