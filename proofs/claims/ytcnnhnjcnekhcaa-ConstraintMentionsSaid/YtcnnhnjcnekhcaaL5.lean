/-
  THE LAW ConstraintMentions, walked.
-/
import Derived.Test.YtcnnhnjcnekhcaaAw
set_option linter.unusedVariables false
set_option linter.unusedSimpArgs false
namespace Go.Proofs.Ytcnnhnjcnekhcaa.Ab
open Go
def fCase (x : CaseD) : List D := [.int .i64 x.f.u, .int .i64 x.f.r, .int .i64 x.f.t, .int .i64 x.f.ls, dW x.f.lc, .int .i64 x.f.hs, dW x.f.hc,
  .int .i64 x.s.u, .int .i64 x.s.r, .int .i64 x.s.t, .int .i64 x.s.ls, dW x.s.lc, .int .i64 x.s.hs, dW x.s.hc, .int .i64 x.t.u, .int .i64 x.t.r, .int .i64 x.t.t, .int .i64 x.t.ls, dW x.t.lc, .int .i64 x.t.hs, dW x.t.hc]
def dTwo (p q : CaseD) : D := .agg (fCase p ++ fCase q)
def cTwo (p q : CaseD) : List SV := cCase p ++ cCase q
theorem cells_two (p q : CaseD) : cellsV (.d (dTwo p q)) = some (cTwo p q) := rfl
theorem len_two (p q : CaseD) : (cTwo p q).length = 42 := rfl
theorem idx_0 : indexOk (.d (.int .i64 0)) 2 = some 0 := rfl
theorem idx_1 : indexOk (.d (.int .i64 1)) 2 = some 1 := rfl
theorem part_two0 (p q : CaseD) : partV true 21 (0 + 0 * 21) (cTwo p q) = some (.d (dCase p)) := rfl
theorem part_two1f (p q : CaseD) : partV true 7 (0 + 1 * 21 + 0) (cTwo p q) = some (.d (dCtx q.f)) := rfl
theorem part_two1s (p q : CaseD) : partV true 7 (0 + 1 * 21 + 7) (cTwo p q) = some (.d (dCtx q.s)) := rfl
theorem part_two1t (p q : CaseD) : partV true 7 (0 + 1 * 21 + 14) (cTwo p q) = some (.d (dCtx q.t)) := rfl
theorem zset_case (a0 a1 a2 a3 a4 a5 a6 a7 a8 a9 b0 b1 b2 b3 b4 b5 b6 b7 b8 b9 c0 : SV) (c : CaseD) : setAt [a0, a1, a2, a3, a4, a5, a6, a7, a8, a9, b0, b1, b2, b3, b4, b5, b6, b7, b8, b9, c0] 0 (cCase c) = cCase c := by
  unfold cCase
  simp only [setAt, List.set_cons_zero, List.set_cons_succ]
theorem set_case0 (c : CaseD) (x : CtxD) : setAt (cCase c) 0 (cCtx x) = cCase { c with f := x } := rfl
theorem set_case7 (c : CaseD) (x : CtxD) : setAt (cCase c) 7 (cCtx x) = cCase { c with s := x } := rfl
theorem set_case14 (c : CaseD) (x : CtxD) : setAt (cCase c) 14 (cCtx x) = cCase { c with t := x } := rfl
theorem changed_holds (x o : CtxD) (j : Int) : Holds Try.prog gl 13 [.d (dCtx x), .d (.int .i64 j), .d (dCtx o)] (.d (dCtx (chgF x j o))) := by
  refine holds_of_body hm1 (enters_some (fn := Try.f13) (by kernel_rfl) (by kernel_rfl) (by kernel_rfl)) (h := h13) ?_; rw [body13]; intro hwf
  have c1 : ∀ n, cellsV (.d (.int .i64 n)) = some [.d (.int .i64 n)] := fun _ => rfl
  have s0 : ∀ n, setAt (cCtx x) 0 [.d (.int .i64 n)] = cCtx { x with u := n } := fun _ => rfl
  have s1 : ∀ n, setAt (cCtx x) 1 [.d (.int .i64 n)] = cCtx { x with r := n } := fun _ => rfl
  have s2 : ∀ n, setAt (cCtx x) 2 [.d (.int .i64 n)] = cCtx { x with t := n } := fun _ => rfl
  have s3 : ∀ l, setAt (cCtx x) 3 (cLev l) = cCtx { x with ls := l.1, lc := l.2 } := fun _ => rfl
  have s5 : ∀ l, setAt (cCtx x) 5 (cLev l) = cCtx { x with hs := l.1, hc := l.2 } := fun _ => rfl
  have g1 : (1 ≤ 7) = True := by simp
  have g2 : (2 ≤ 7) = True := by simp
  have g3 : (3 ≤ 7) = True := by simp
  have g5 : (5 ≤ 7) = True := by simp
  simp only [demote_d, dem_ptr, bindO_some', noRef_d, true_and, ifP_dec, ifP_true, ifP_false, eql_int, neq_int, lss_int, leq_int, gtr_int, geq_int, un_not, eql_bool, neq_bool, eql_set, neq_set, cells_ex, len_cEx, part_exAll, part_ex0, part_ex1, part_ex2, part_ex3, part_ex4, part_ex5, part_ex9, parts_nil, dI, List.map_cons, List.map_nil, vget, bget, List.getD_cons_zero, List.getD_cons_succ, Box.vals, Nat.le_refl, cells_case, len_case, part_case, part_case0, part_case7, part_case14, cells_ctx, len_ctx, part_ctx, part_ctx0, part_ctx1, part_ctx2, part_ctx3, part_ctx5, set_ctx, cells_lev, len_lev, part_lev, part_lev0, part_lev1, set_lev, field_rng, field_lo, field_hi, eql_lev, neq_lev, c1, List.length_singleton, s0, s1, s2, s3, s5, g1, g2, g3, g5]
  repeat' first | refine And.intro (fun h => ?_) (fun h => ?_)
  all_goals (simp only [chgF]; simp_all)
theorem law5_holds {e : Xp} {x : D} (hx : IsE e x) (t : Int) (p q : CaseD) : Holds Try.prog gl 5 [.d x, .d (.int .i64 t), .d (dTwo p q)] (.d (.bool true)) := by
  refine holds_of_body hm1 (enters_some (fn := Try.f5) (by kernel_rfl) (by kernel_rfl) (by kernel_rfl)) (h := h5) ?_; rw [body5]; intro hwf
  clear hwf
  have hsm := small_holds e.lv e x 15 (Nat.le_refl _) hx (by decide)
  have hm1' := mentions_holds t e.lv e x (Nat.le_refl _) hx
  have hm2 := mentionsR_holds t e.lv e x (Nat.le_refl _) hx
  have hwe := wellFormed_holds e.lv e x 12 (Nat.le_refl _) hx (by decide)
  rw [okN_eq] at hwe
  have hev := fun c h => evalC_holds hx c h
  obtain ⟨nm, kd, L, rfl, hnm, hl, hd, hk⟩ := hx.inv
  have aw : ∀ {k : SV → Prop}, k (.d (.bool true)) → callP (Holds Try.prog gl) 7 [] k := fun h => callP_of awake_holds h
  simp only [demote_d, dem_ptr, bindO_some', noRef_d, true_and, ifP_dec, ifP_true, ifP_false, eql_int, neq_int, lss_int, leq_int, gtr_int, geq_int, un_not, eql_bool, neq_bool, eql_set, neq_set, cells_ex, len_cEx, part_exAll, part_ex0, part_ex1, part_ex2, part_ex3, part_ex4, part_ex5, part_ex9, parts_nil, dI, List.map_cons, List.map_nil, vget, bget, List.getD_cons_zero, List.getD_cons_succ, Box.vals, Nat.le_refl, cells_case, len_case, part_case, part_case0, part_case7, part_case14, cells_ctx, len_ctx, part_ctx, part_ctx0, part_ctx1, part_ctx2, part_ctx3, part_ctx5, set_ctx, cells_lev, len_lev, part_lev, part_lev0, part_lev1, set_lev, field_rng, field_lo, field_hi, eql_lev, neq_lev, cells_two, len_two]
  refine callP_of hsm ?_
  simp only [demote_d, dem_ptr, bindO_some', noRef_d, true_and, ifP_dec, ifP_true, ifP_false, eql_int, neq_int, lss_int, leq_int, gtr_int, geq_int, un_not, eql_bool, neq_bool, eql_set, neq_set, cells_ex, len_cEx, part_exAll, part_ex0, part_ex1, part_ex2, part_ex3, part_ex4, part_ex5, part_ex9, parts_nil, dI, List.map_cons, List.map_nil, vget, bget, List.getD_cons_zero, List.getD_cons_succ, Box.vals, Nat.le_refl, cells_case, len_case, part_case, part_case0, part_case7, part_case14, cells_ctx, len_ctx, part_ctx, part_ctx0, part_ctx1, part_ctx2, part_ctx3, part_ctx5, set_ctx, cells_lev, len_lev, part_lev, part_lev0, part_lev1, set_lev, field_rng, field_lo, field_hi, eql_lev, neq_lev]
  refine And.intro (fun h => ?_) (fun h => ?_)
  · refine aw ?_; simp only [demote_d, dem_ptr, bindO_some', noRef_d, true_and, ifP_dec, ifP_true, ifP_false, eql_int, neq_int, lss_int, leq_int, gtr_int, geq_int, un_not, eql_bool, neq_bool, eql_set, neq_set, cells_ex, len_cEx, part_exAll, part_ex0, part_ex1, part_ex2, part_ex3, part_ex4, part_ex5, part_ex9, parts_nil, dI, List.map_cons, List.map_nil, vget, bget, List.getD_cons_zero, List.getD_cons_succ, Box.vals, Nat.le_refl, cells_case, len_case, part_case, part_case0, part_case7, part_case14, cells_ctx, len_ctx, part_ctx, part_ctx0, part_ctx1, part_ctx2, part_ctx3, part_ctx5, set_ctx, cells_lev, len_lev, part_lev, part_lev0, part_lev1, set_lev, field_rng, field_lo, field_hi, eql_lev, neq_lev]
  have hlv := allX_lv e.lv e 15 (Nat.le_refl _) (by simpa using h)
  refine callP_of hm1' ?_
  simp only [demote_d, dem_ptr, bindO_some', noRef_d, true_and, ifP_dec, ifP_true, ifP_false, eql_int, neq_int, lss_int, leq_int, gtr_int, geq_int, un_not, eql_bool, neq_bool, eql_set, neq_set, cells_ex, len_cEx, part_exAll, part_ex0, part_ex1, part_ex2, part_ex3, part_ex4, part_ex5, part_ex9, parts_nil, dI, List.map_cons, List.map_nil, vget, bget, List.getD_cons_zero, List.getD_cons_succ, Box.vals, Nat.le_refl, cells_case, len_case, part_case, part_case0, part_case7, part_case14, cells_ctx, len_ctx, part_ctx, part_ctx0, part_ctx1, part_ctx2, part_ctx3, part_ctx5, set_ctx, cells_lev, len_lev, part_lev, part_lev0, part_lev1, set_lev, field_rng, field_lo, field_hi, eql_lev, neq_lev]
  refine callP_of hm2 ?_
  simp only [demote_d, dem_ptr, bindO_some', noRef_d, true_and, ifP_dec, ifP_true, ifP_false, eql_int, neq_int, lss_int, leq_int, gtr_int, geq_int, un_not, eql_bool, neq_bool, eql_set, neq_set, cells_ex, len_cEx, part_exAll, part_ex0, part_ex1, part_ex2, part_ex3, part_ex4, part_ex5, part_ex9, parts_nil, dI, List.map_cons, List.map_nil, vget, bget, List.getD_cons_zero, List.getD_cons_succ, Box.vals, Nat.le_refl, cells_case, len_case, part_case, part_case0, part_case7, part_case14, cells_ctx, len_ctx, part_ctx, part_ctx0, part_ctx1, part_ctx2, part_ctx3, part_ctx5, set_ctx, cells_lev, len_lev, part_lev, part_lev0, part_lev1, set_lev, field_rng, field_lo, field_hi, eql_lev, neq_lev]
  refine And.intro (fun h => absurd h (by simp)) (fun _ => ?_)
  refine And.intro (fun h => ?_) (fun hmen => ?_)
  · refine aw ?_; simp only [demote_d, dem_ptr, bindO_some', noRef_d, true_and, ifP_dec, ifP_true, ifP_false, eql_int, neq_int, lss_int, leq_int, gtr_int, geq_int, un_not, eql_bool, neq_bool, eql_set, neq_set, cells_ex, len_cEx, part_exAll, part_ex0, part_ex1, part_ex2, part_ex3, part_ex4, part_ex5, part_ex9, parts_nil, dI, List.map_cons, List.map_nil, vget, bget, List.getD_cons_zero, List.getD_cons_succ, Box.vals, Nat.le_refl, cells_case, len_case, part_case, part_case0, part_case7, part_case14, cells_ctx, len_ctx, part_ctx, part_ctx0, part_ctx1, part_ctx2, part_ctx3, part_ctx5, set_ctx, cells_lev, len_lev, part_lev, part_lev0, part_lev1, set_lev, field_rng, field_lo, field_hi, eql_lev, neq_lev]
  refine And.intro (fun h => ?_) (fun ht0 => ?_)
  · refine aw ?_; simp only [demote_d, dem_ptr, bindO_some', noRef_d, true_and, ifP_dec, ifP_true, ifP_false, eql_int, neq_int, lss_int, leq_int, gtr_int, geq_int, un_not, eql_bool, neq_bool, eql_set, neq_set, cells_ex, len_cEx, part_exAll, part_ex0, part_ex1, part_ex2, part_ex3, part_ex4, part_ex5, part_ex9, parts_nil, dI, List.map_cons, List.map_nil, vget, bget, List.getD_cons_zero, List.getD_cons_succ, Box.vals, Nat.le_refl, cells_case, len_case, part_case, part_case0, part_case7, part_case14, cells_ctx, len_ctx, part_ctx, part_ctx0, part_ctx1, part_ctx2, part_ctx3, part_ctx5, set_ctx, cells_lev, len_lev, part_lev, part_lev0, part_lev1, set_lev, field_rng, field_lo, field_hi, eql_lev, neq_lev]
  refine And.intro (fun h => ?_) (fun ht1 => ?_)
  · refine aw ?_; simp only [demote_d, dem_ptr, bindO_some', noRef_d, true_and, ifP_dec, ifP_true, ifP_false, eql_int, neq_int, lss_int, leq_int, gtr_int, geq_int, un_not, eql_bool, neq_bool, eql_set, neq_set, cells_ex, len_cEx, part_exAll, part_ex0, part_ex1, part_ex2, part_ex3, part_ex4, part_ex5, part_ex9, parts_nil, dI, List.map_cons, List.map_nil, vget, bget, List.getD_cons_zero, List.getD_cons_succ, Box.vals, Nat.le_refl, cells_case, len_case, part_case, part_case0, part_case7, part_case14, cells_ctx, len_ctx, part_ctx, part_ctx0, part_ctx1, part_ctx2, part_ctx3, part_ctx5, set_ctx, cells_lev, len_lev, part_lev, part_lev0, part_lev1, set_lev, field_rng, field_lo, field_hi, eql_lev, neq_lev]
  have ht0 : 0 ≤ t := by simpa using ht0
  have ht1 : t < 15 := by simpa using ht1
  refine callP_of hwe ?_
  simp only [demote_d, dem_ptr, bindO_some', noRef_d, true_and, ifP_dec, ifP_true, ifP_false, eql_int, neq_int, lss_int, leq_int, gtr_int, geq_int, un_not, eql_bool, neq_bool, eql_set, neq_set, cells_ex, len_cEx, part_exAll, part_ex0, part_ex1, part_ex2, part_ex3, part_ex4, part_ex5, part_ex9, parts_nil, dI, List.map_cons, List.map_nil, vget, bget, List.getD_cons_zero, List.getD_cons_succ, Box.vals, Nat.le_refl, cells_case, len_case, part_case, part_case0, part_case7, part_case14, cells_ctx, len_ctx, part_ctx, part_ctx0, part_ctx1, part_ctx2, part_ctx3, part_ctx5, set_ctx, cells_lev, len_lev, part_lev, part_lev0, part_lev1, set_lev, field_rng, field_lo, field_hi, eql_lev, neq_lev]
  refine And.intro (fun h => ?_) (fun hok => ?_)
  · refine aw ?_; simp only [demote_d, dem_ptr, bindO_some', noRef_d, true_and, ifP_dec, ifP_true, ifP_false, eql_int, neq_int, lss_int, leq_int, gtr_int, geq_int, un_not, eql_bool, neq_bool, eql_set, neq_set, cells_ex, len_cEx, part_exAll, part_ex0, part_ex1, part_ex2, part_ex3, part_ex4, part_ex5, part_ex9, parts_nil, dI, List.map_cons, List.map_nil, vget, bget, List.getD_cons_zero, List.getD_cons_succ, Box.vals, Nat.le_refl, cells_case, len_case, part_case, part_case0, part_case7, part_case14, cells_ctx, len_ctx, part_ctx, part_ctx0, part_ctx1, part_ctx2, part_ctx3, part_ctx5, set_ctx, cells_lev, len_lev, part_lev, part_lev0, part_lev1, set_lev, field_rng, field_lo, field_hi, eql_lev, neq_lev]
  have hok : allX okN e 12 = true := by simpa using hok
  simp only [demote_d, dem_ptr, bindO_some', noRef_d, true_and, ifP_dec, ifP_true, ifP_false, eql_int, neq_int, lss_int, leq_int, gtr_int, geq_int, un_not, eql_bool, neq_bool, eql_set, neq_set, cells_ex, len_cEx, part_exAll, part_ex0, part_ex1, part_ex2, part_ex3, part_ex4, part_ex5, part_ex9, parts_nil, dI, List.map_cons, List.map_nil, vget, bget, List.getD_cons_zero, List.getD_cons_succ, Box.vals, Nat.le_refl, cells_case, len_case, part_case, part_case0, part_case7, part_case14, cells_ctx, len_ctx, part_ctx, part_ctx0, part_ctx1, part_ctx2, part_ctx3, part_ctx5, set_ctx, cells_lev, len_lev, part_lev, part_lev0, part_lev1, set_lev, field_rng, field_lo, field_hi, eql_lev, neq_lev, idx_0, idx_1, part_two0, part_two1f, part_two1s, part_two1t, rem_lit, quo_lit ht0 ht1, zset_case]
  have g1 : (7 ≤ 21) = True := by simp
  have g2 : (14 ≤ 21) = True := by simp
  have key : ∀ c : CaseD, c = chgC p q t → evalF e c = evalF e p := by
    intro c hc
    rw [evalF, evalF, hok, Bool.true_and, Bool.true_and]
    subst hc
    exact valF_same (chg_agree p q ht0 ht1) e.lv e 12 (Nat.le_refl _) hok hmen
  refine And.intro (fun h0 => ?_) (fun h0 => ?_)
  · refine callP_of (changed_holds _ _ _) ?_
    simp only [demote_d, dem_ptr, bindO_some', noRef_d, true_and, ifP_dec, ifP_true, ifP_false, eql_int, neq_int, lss_int, leq_int, gtr_int, geq_int, un_not, eql_bool, neq_bool, eql_set, neq_set, cells_ex, len_cEx, part_exAll, part_ex0, part_ex1, part_ex2, part_ex3, part_ex4, part_ex5, part_ex9, parts_nil, dI, List.map_cons, List.map_nil, vget, bget, List.getD_cons_zero, List.getD_cons_succ, Box.vals, Nat.le_refl, cells_case, len_case, part_case, part_case0, part_case7, part_case14, cells_ctx, len_ctx, part_ctx, part_ctx0, part_ctx1, part_ctx2, part_ctx3, part_ctx5, set_ctx, cells_lev, len_lev, part_lev, part_lev0, part_lev1, set_lev, field_rng, field_lo, field_hi, eql_lev, neq_lev, g1, set_case0]
    refine callP_of (hev _ (by omega)) ?_
    simp only [demote_d, dem_ptr, bindO_some', noRef_d, true_and, ifP_dec, ifP_true, ifP_false, eql_int, neq_int, lss_int, leq_int, gtr_int, geq_int, un_not, eql_bool, neq_bool, eql_set, neq_set, cells_ex, len_cEx, part_exAll, part_ex0, part_ex1, part_ex2, part_ex3, part_ex4, part_ex5, part_ex9, parts_nil, dI, List.map_cons, List.map_nil, vget, bget, List.getD_cons_zero, List.getD_cons_succ, Box.vals, Nat.le_refl, cells_case, len_case, part_case, part_case0, part_case7, part_case14, cells_ctx, len_ctx, part_ctx, part_ctx0, part_ctx1, part_ctx2, part_ctx3, part_ctx5, set_ctx, cells_lev, len_lev, part_lev, part_lev0, part_lev1, set_lev, field_rng, field_lo, field_hi, eql_lev, neq_lev]
    refine callP_of (hev _ (by omega)) ?_
    rw [key _ (by rw [chgC, if_pos h0])]
    simp only [demote_d, dem_ptr, bindO_some', noRef_d, true_and, ifP_dec, ifP_true, ifP_false, eql_int, neq_int, lss_int, leq_int, gtr_int, geq_int, un_not, eql_bool, neq_bool, eql_set, neq_set, cells_ex, len_cEx, part_exAll, part_ex0, part_ex1, part_ex2, part_ex3, part_ex4, part_ex5, part_ex9, parts_nil, dI, List.map_cons, List.map_nil, vget, bget, List.getD_cons_zero, List.getD_cons_succ, Box.vals, Nat.le_refl, cells_case, len_case, part_case, part_case0, part_case7, part_case14, cells_ctx, len_ctx, part_ctx, part_ctx0, part_ctx1, part_ctx2, part_ctx3, part_ctx5, set_ctx, cells_lev, len_lev, part_lev, part_lev0, part_lev1, set_lev, field_rng, field_lo, field_hi, eql_lev, neq_lev, beq_self_eq_true]
    refine And.intro (fun _ => ?_) (fun h => by cases h)
    refine aw ?_; simp only [demote_d, dem_ptr, bindO_some', noRef_d, true_and, ifP_dec, ifP_true, ifP_false, eql_int, neq_int, lss_int, leq_int, gtr_int, geq_int, un_not, eql_bool, neq_bool, eql_set, neq_set, cells_ex, len_cEx, part_exAll, part_ex0, part_ex1, part_ex2, part_ex3, part_ex4, part_ex5, part_ex9, parts_nil, dI, List.map_cons, List.map_nil, vget, bget, List.getD_cons_zero, List.getD_cons_succ, Box.vals, Nat.le_refl, cells_case, len_case, part_case, part_case0, part_case7, part_case14, cells_ctx, len_ctx, part_ctx, part_ctx0, part_ctx1, part_ctx2, part_ctx3, part_ctx5, set_ctx, cells_lev, len_lev, part_lev, part_lev0, part_lev1, set_lev, field_rng, field_lo, field_hi, eql_lev, neq_lev]
  refine And.intro (fun h1 => ?_) (fun h1 => ?_)
  · refine callP_of (changed_holds _ _ _) ?_
    simp only [demote_d, dem_ptr, bindO_some', noRef_d, true_and, ifP_dec, ifP_true, ifP_false, eql_int, neq_int, lss_int, leq_int, gtr_int, geq_int, un_not, eql_bool, neq_bool, eql_set, neq_set, cells_ex, len_cEx, part_exAll, part_ex0, part_ex1, part_ex2, part_ex3, part_ex4, part_ex5, part_ex9, parts_nil, dI, List.map_cons, List.map_nil, vget, bget, List.getD_cons_zero, List.getD_cons_succ, Box.vals, Nat.le_refl, cells_case, len_case, part_case, part_case0, part_case7, part_case14, cells_ctx, len_ctx, part_ctx, part_ctx0, part_ctx1, part_ctx2, part_ctx3, part_ctx5, set_ctx, cells_lev, len_lev, part_lev, part_lev0, part_lev1, set_lev, field_rng, field_lo, field_hi, eql_lev, neq_lev, g2, set_case7]
    refine callP_of (hev _ (by omega)) ?_
    simp only [demote_d, dem_ptr, bindO_some', noRef_d, true_and, ifP_dec, ifP_true, ifP_false, eql_int, neq_int, lss_int, leq_int, gtr_int, geq_int, un_not, eql_bool, neq_bool, eql_set, neq_set, cells_ex, len_cEx, part_exAll, part_ex0, part_ex1, part_ex2, part_ex3, part_ex4, part_ex5, part_ex9, parts_nil, dI, List.map_cons, List.map_nil, vget, bget, List.getD_cons_zero, List.getD_cons_succ, Box.vals, Nat.le_refl, cells_case, len_case, part_case, part_case0, part_case7, part_case14, cells_ctx, len_ctx, part_ctx, part_ctx0, part_ctx1, part_ctx2, part_ctx3, part_ctx5, set_ctx, cells_lev, len_lev, part_lev, part_lev0, part_lev1, set_lev, field_rng, field_lo, field_hi, eql_lev, neq_lev]
    refine callP_of (hev _ (by omega)) ?_
    rw [key _ (by rw [chgC, if_neg (by rw [h0]; decide), if_pos h1])]
    simp only [demote_d, dem_ptr, bindO_some', noRef_d, true_and, ifP_dec, ifP_true, ifP_false, eql_int, neq_int, lss_int, leq_int, gtr_int, geq_int, un_not, eql_bool, neq_bool, eql_set, neq_set, cells_ex, len_cEx, part_exAll, part_ex0, part_ex1, part_ex2, part_ex3, part_ex4, part_ex5, part_ex9, parts_nil, dI, List.map_cons, List.map_nil, vget, bget, List.getD_cons_zero, List.getD_cons_succ, Box.vals, Nat.le_refl, cells_case, len_case, part_case, part_case0, part_case7, part_case14, cells_ctx, len_ctx, part_ctx, part_ctx0, part_ctx1, part_ctx2, part_ctx3, part_ctx5, set_ctx, cells_lev, len_lev, part_lev, part_lev0, part_lev1, set_lev, field_rng, field_lo, field_hi, eql_lev, neq_lev, beq_self_eq_true]
    refine And.intro (fun _ => ?_) (fun h => by cases h)
    refine aw ?_; simp only [demote_d, dem_ptr, bindO_some', noRef_d, true_and, ifP_dec, ifP_true, ifP_false, eql_int, neq_int, lss_int, leq_int, gtr_int, geq_int, un_not, eql_bool, neq_bool, eql_set, neq_set, cells_ex, len_cEx, part_exAll, part_ex0, part_ex1, part_ex2, part_ex3, part_ex4, part_ex5, part_ex9, parts_nil, dI, List.map_cons, List.map_nil, vget, bget, List.getD_cons_zero, List.getD_cons_succ, Box.vals, Nat.le_refl, cells_case, len_case, part_case, part_case0, part_case7, part_case14, cells_ctx, len_ctx, part_ctx, part_ctx0, part_ctx1, part_ctx2, part_ctx3, part_ctx5, set_ctx, cells_lev, len_lev, part_lev, part_lev0, part_lev1, set_lev, field_rng, field_lo, field_hi, eql_lev, neq_lev]
  · refine callP_of (changed_holds _ _ _) ?_
    simp only [demote_d, dem_ptr, bindO_some', noRef_d, true_and, ifP_dec, ifP_true, ifP_false, eql_int, neq_int, lss_int, leq_int, gtr_int, geq_int, un_not, eql_bool, neq_bool, eql_set, neq_set, cells_ex, len_cEx, part_exAll, part_ex0, part_ex1, part_ex2, part_ex3, part_ex4, part_ex5, part_ex9, parts_nil, dI, List.map_cons, List.map_nil, vget, bget, List.getD_cons_zero, List.getD_cons_succ, Box.vals, Nat.le_refl, cells_case, len_case, part_case, part_case0, part_case7, part_case14, cells_ctx, len_ctx, part_ctx, part_ctx0, part_ctx1, part_ctx2, part_ctx3, part_ctx5, set_ctx, cells_lev, len_lev, part_lev, part_lev0, part_lev1, set_lev, field_rng, field_lo, field_hi, eql_lev, neq_lev, set_case14]
    refine callP_of (hev _ (by omega)) ?_
    simp only [demote_d, dem_ptr, bindO_some', noRef_d, true_and, ifP_dec, ifP_true, ifP_false, eql_int, neq_int, lss_int, leq_int, gtr_int, geq_int, un_not, eql_bool, neq_bool, eql_set, neq_set, cells_ex, len_cEx, part_exAll, part_ex0, part_ex1, part_ex2, part_ex3, part_ex4, part_ex5, part_ex9, parts_nil, dI, List.map_cons, List.map_nil, vget, bget, List.getD_cons_zero, List.getD_cons_succ, Box.vals, Nat.le_refl, cells_case, len_case, part_case, part_case0, part_case7, part_case14, cells_ctx, len_ctx, part_ctx, part_ctx0, part_ctx1, part_ctx2, part_ctx3, part_ctx5, set_ctx, cells_lev, len_lev, part_lev, part_lev0, part_lev1, set_lev, field_rng, field_lo, field_hi, eql_lev, neq_lev]
    refine callP_of (hev _ (by omega)) ?_
    rw [key _ (by rw [chgC, if_neg (by rw [h0]; decide), if_neg (by rw [h1]; decide)])]
    simp only [demote_d, dem_ptr, bindO_some', noRef_d, true_and, ifP_dec, ifP_true, ifP_false, eql_int, neq_int, lss_int, leq_int, gtr_int, geq_int, un_not, eql_bool, neq_bool, eql_set, neq_set, cells_ex, len_cEx, part_exAll, part_ex0, part_ex1, part_ex2, part_ex3, part_ex4, part_ex5, part_ex9, parts_nil, dI, List.map_cons, List.map_nil, vget, bget, List.getD_cons_zero, List.getD_cons_succ, Box.vals, Nat.le_refl, cells_case, len_case, part_case, part_case0, part_case7, part_case14, cells_ctx, len_ctx, part_ctx, part_ctx0, part_ctx1, part_ctx2, part_ctx3, part_ctx5, set_ctx, cells_lev, len_lev, part_lev, part_lev0, part_lev1, set_lev, field_rng, field_lo, field_hi, eql_lev, neq_lev, beq_self_eq_true]
    refine And.intro (fun _ => ?_) (fun h => by cases h)
    refine aw ?_; simp only [demote_d, dem_ptr, bindO_some', noRef_d, true_and, ifP_dec, ifP_true, ifP_false, eql_int, neq_int, lss_int, leq_int, gtr_int, geq_int, un_not, eql_bool, neq_bool, eql_set, neq_set, cells_ex, len_cEx, part_exAll, part_ex0, part_ex1, part_ex2, part_ex3, part_ex4, part_ex5, part_ex9, parts_nil, dI, List.map_cons, List.map_nil, vget, bget, List.getD_cons_zero, List.getD_cons_succ, Box.vals, Nat.le_refl, cells_case, len_case, part_case, part_case0, part_case7, part_case14, cells_ctx, len_ctx, part_ctx, part_ctx0, part_ctx1, part_ctx2, part_ctx3, part_ctx5, set_ctx, cells_lev, len_lev, part_lev, part_lev0, part_lev1, set_lev, field_rng, field_lo, field_hi, eql_lev, neq_lev]
end Go.Proofs.Ytcnnhnjcnekhcaa.Ab
