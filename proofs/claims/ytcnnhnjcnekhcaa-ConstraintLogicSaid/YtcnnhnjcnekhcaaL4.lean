/-
  THE LAW ConstraintLogic, walked.
-/
import Derived.Test.YtcnnhnjcnekhcaaAw
import Derived.Test.YtcnnhnjcnekhcaaTy
set_option linter.unusedVariables false
set_option linter.unusedSimpArgs false
namespace Go.Proofs.Ytcnnhnjcnekhcaa.Ab
open Go
theorem build_op (op : Int) (L : List D) : buildD Try.prog 28 [(0, .int .i64 op), (6, .sl .ro 10 L)] = some (.agg (fEx op 0 0 0 (.sl .nil 0 []) zW (.sl .ro 10 L))) := by kernel_rfl
theorem build_lev (i : Int) : buildD Try.prog 28 [(0, .int .i64 8), (1, .int .i64 3), (2, .int .i64 i), (3, .int .i64 9)] = some (.agg (fEx 8 3 i 9 (.sl .nil 0 []) zW (.sl .nil 0 []))) := by kernel_rfl
theorem isE_one {a : Xp} {x : D} (op : Int) (hx : IsE a x) : IsE (.mk op 0 0 0 [] zW [a]) (.agg (fEx op 0 0 0 (.sl .nil 0 []) zW (.sl .ro 10 [x]))) := by
  refine .mk op 0 0 0 [] zW [a] _ _ [x] (.nil 0 rfl) rfl (fun i k y h1 h2 => ?_) .ro
  match i, h1, h2 with
  | 0, h1, h2 => simp at h1 h2; subst h1 h2; exact hx
  | n + 1, h1, h2 => simp at h1
theorem isE_two {a b : Xp} {x y : D} (op : Int) (hx : IsE a x) (hy : IsE b y) : IsE (.mk op 0 0 0 [] zW [a, b]) (.agg (fEx op 0 0 0 (.sl .nil 0 []) zW (.sl .ro 10 [x, y]))) := by
  refine .mk op 0 0 0 [] zW [a, b] _ _ [x, y] (.nil 0 rfl) rfl (fun i k z h1 h2 => ?_) .ro
  match i, h1, h2 with
  | 0, h1, h2 => simp at h1 h2; subst h1 h2; exact hx
  | 1, h1, h2 => simp at h1 h2; subst h1 h2; exact hy
  | n + 2, h1, h2 => simp at h1
theorem isE_lev (i : Int) : IsE (xLev i) (.agg (fEx 8 3 i 9 (.sl .nil 0 []) zW (.sl .nil 0 []))) :=
  .mk 8 3 i 9 [] zW [] _ _ [] (.nil 0 rfl) rfl (fun i k y h1 h2 => by simp at h1) (.nil 0 rfl)
theorem parts_d1 (y : D) : partsS [(0, .v (.d y))] = some [(0, y)] := rfl
theorem parts_d2 (y z : D) : partsS [(0, .v (.d y)), (1, .v (.d z))] = some [(0, y), (1, z)] := rfl
theorem parts_full (op : Int) (L : List D) : partsS [(0, .v (.d (.int .i64 op))), (6, .v (.full 10 L))] = some [(0, .int .i64 op), (6, .sl .ro 10 L)] := rfl
theorem parts_lev (i : Int) : partsS [(0, .v (.d (.int .i64 8))), (1, .v (.d (.int .i64 3))), (2, .v (.d (.int .i64 i))), (3, .v (.d (.int .i64 9)))] = some [(0, .int .i64 8), (1, .int .i64 3), (2, .int .i64 i), (3, .int .i64 9)] := rfl
theorem fit_e1 {a : Xp} {x : D} (hx : IsE a x) : partsFit 10 1 [(0, x)] = true := by obtain ⟨nm, kd, L, rfl, _⟩ := hx.inv; rfl
theorem fit_e2 {a b : Xp} {x y : D} (hx : IsE a x) (hy : IsE b y) : partsFit 10 2 [(0, x), (1, y)] = true := by
  obtain ⟨nm, kd, L, rfl, _⟩ := hx.inv
  obtain ⟨nm', kd', L', rfl, _⟩ := hy.inv
  rfl
theorem elems_1 (z x : D) : buildElems z [(0, x)] 1 0 = [x] := rfl
theorem elems_2 (z x y : D) : buildElems z [(0, x), (1, y)] 2 0 = [x, y] := rfl
def cB5 (B : Nat → Bool) (i : Nat) : List SV := [.d (.bool (decide (0 < i) && B 0)), .d (.bool (decide (1 < i) && B 1)), .d (.bool (decide (2 < i) && B 2)), .d (.bool (decide (3 < i) && B 3)), .d (.bool (decide (4 < i) && B 4))]
theorem cB5_zero (B : Nat → Bool) : [SV.d (.bool false), .d (.bool false), .d (.bool false), .d (.bool false), .d (.bool false)] = cB5 B 0 := rfl
theorem cB5_set (B : Nat → Bool) : ∀ (i : Nat), i < 5 → setAt (cB5 B i) (0 + i * 1) [.d (.bool (B i))] = cB5 B (i + 1)
  | 0, _ => rfl
  | 1, _ => rfl
  | 2, _ => rfl
  | 3, _ => rfl
  | 4, _ => rfl
theorem cells_b (b : Bool) : cellsV (.d (.bool b)) = some [.d (.bool b)] := rfl
theorem at5 (B : Nat → Bool) : partV false 1 (0 + 0 * 1) (cB5 B 5) = some (.d (.bool (B 0))) ∧ partV false 1 (0 + 1 * 1) (cB5 B 5) = some (.d (.bool (B 1))) ∧ partV false 1 (0 + 2 * 1) (cB5 B 5) = some (.d (.bool (B 2))) ∧
    partV false 1 (0 + 3 * 1) (cB5 B 5) = some (.d (.bool (B 3))) ∧ partV false 1 (0 + 4 * 1) (cB5 B 5) = some (.d (.bool (B 4))) := ⟨rfl, rfl, rfl, rfl, rfl⟩
theorem ix5 : indexOk (.d (.int .i64 0)) 5 = some 0 ∧ indexOk (.d (.int .i64 1)) 5 = some 1 ∧ indexOk (.d (.int .i64 2)) 5 = some 2 ∧ indexOk (.d (.int .i64 3)) 5 = some 3 ∧ indexOk (.d (.int .i64 4)) 5 = some 4 := ⟨rfl, rfl, rfl, rfl, rfl⟩
theorem lit_i (i : Nat) : (SV.d (.int .i64 ((i : Nat) : Int))) = .d (.int .i64 ((i : Nat) : Int)) := rfl

theorem law4_holds {a b : Xp} {x y : D} (hx : IsE a x) (hy : IsE b y) (c : CaseD) : Holds Try.prog gl 4 [.d x, .d y, .d (dCase c)] (.d (.bool true)) := by
  refine holds_of_body hm1 (enters_some (fn := Try.f4) (by kernel_rfl) (by kernel_rfl) (by kernel_rfl)) (h := h4) ?_; rw [body4]; intro hwf
  have hsa := small_holds a.lv a x 15 (Nat.le_refl _) hx (by decide)
  have hsb := small_holds b.lv b y 15 (Nat.le_refl _) hy (by decide)
  have hwa := wellFormed_holds a.lv a x 11 (Nat.le_refl _) hx (by decide)
  have hwb := wellFormed_holds b.lv b y 11 (Nat.le_refl _) hy (by decide)
  rw [okN_eq] at hwa hwb
  have hev : ∀ (e : Xp) (z : D), IsE e z → e.lv ≤ 1000 → Holds Try.prog gl 8 [.d z, .d (dCase c)] (.d (.bool (evalF e c))) := fun e z h h' => evalC_holds h c h'
  have aw : ∀ {k : SV → Prop}, k (.d (.bool true)) → callP (Holds Try.prog gl) 7 [] k := fun h => callP_of awake_holds h
  have hxa := hev a x hx
  have hxb := hev b y hy
  have f1 := fit_e1 hx
  have f2 := fit_e2 hx hy
  have v1 := hev _ _ (isE_one 2 hx)
  have v3 := hev _ _ (isE_two 3 hx hy)
  have v4 := hev _ _ (isE_two 4 hx hy)
  have q1 : (xNot a).lv = a.lv + 1 := by simp [xNot, Xp.lv, Xp.lv.lvs]
  have q2 : ∀ op, (Xp.mk op 0 0 0 [] zW [a, b]).lv = max a.lv b.lv + 1 := by intro op; simp [Xp.lv, Xp.lv.lvs]
  obtain ⟨nm, kd, L, rfl, hnm, hl, hd, hk⟩ := hx.inv
  obtain ⟨nm', kd', L', rfl, hnm', hl', hd', hk'⟩ := hy.inv
  clear hx hy hk hk' hd hd' hnm hnm' hl hl'
  simp only [demote_d, dem_ptr, bindO_some', noRef_d, true_and, ifP_dec, ifP_true, ifP_false, eql_int, neq_int, lss_int, leq_int, gtr_int, geq_int, un_not, eql_bool, neq_bool, eql_set, neq_set, cells_ex, len_cEx, part_exAll, part_ex0, part_ex1, part_ex2, part_ex3, part_ex4, part_ex5, part_ex9, parts_nil, dI, List.map_cons, List.map_nil, vget, bget, List.getD_cons_zero, List.getD_cons_succ, Box.vals, Nat.le_refl, cells_case, len_case, part_case, part_case0, part_case7, part_case14, cells_ctx, len_ctx, part_ctx, part_ctx0, part_ctx1, part_ctx2, part_ctx3, part_ctx5, set_ctx, cells_lev, len_lev, part_lev, part_lev0, part_lev1, set_lev, field_rng, field_lo, field_hi, eql_lev, neq_lev]
  refine callP_of hsa ?_
  simp only [demote_d, dem_ptr, bindO_some', noRef_d, true_and, ifP_dec, ifP_true, ifP_false, eql_int, neq_int, lss_int, leq_int, gtr_int, geq_int, un_not, eql_bool, neq_bool, eql_set, neq_set, cells_ex, len_cEx, part_exAll, part_ex0, part_ex1, part_ex2, part_ex3, part_ex4, part_ex5, part_ex9, parts_nil, dI, List.map_cons, List.map_nil, vget, bget, List.getD_cons_zero, List.getD_cons_succ, Box.vals, Nat.le_refl, cells_case, len_case, part_case, part_case0, part_case7, part_case14, cells_ctx, len_ctx, part_ctx, part_ctx0, part_ctx1, part_ctx2, part_ctx3, part_ctx5, set_ctx, cells_lev, len_lev, part_lev, part_lev0, part_lev1, set_lev, field_rng, field_lo, field_hi, eql_lev, neq_lev]
  refine And.intro (fun h => ?_) (fun h => ?_)
  · refine aw ?_; simp only [demote_d, dem_ptr, bindO_some', noRef_d, true_and, ifP_dec, ifP_true, ifP_false, eql_int, neq_int, lss_int, leq_int, gtr_int, geq_int, un_not, eql_bool, neq_bool, eql_set, neq_set, cells_ex, len_cEx, part_exAll, part_ex0, part_ex1, part_ex2, part_ex3, part_ex4, part_ex5, part_ex9, parts_nil, dI, List.map_cons, List.map_nil, vget, bget, List.getD_cons_zero, List.getD_cons_succ, Box.vals, Nat.le_refl, cells_case, len_case, part_case, part_case0, part_case7, part_case14, cells_ctx, len_ctx, part_ctx, part_ctx0, part_ctx1, part_ctx2, part_ctx3, part_ctx5, set_ctx, cells_lev, len_lev, part_lev, part_lev0, part_lev1, set_lev, field_rng, field_lo, field_hi, eql_lev, neq_lev]
  have hla := allX_lv a.lv a 15 (Nat.le_refl _) (by simpa using h)
  refine callP_of hsb ?_
  simp only [demote_d, dem_ptr, bindO_some', noRef_d, true_and, ifP_dec, ifP_true, ifP_false, eql_int, neq_int, lss_int, leq_int, gtr_int, geq_int, un_not, eql_bool, neq_bool, eql_set, neq_set, cells_ex, len_cEx, part_exAll, part_ex0, part_ex1, part_ex2, part_ex3, part_ex4, part_ex5, part_ex9, parts_nil, dI, List.map_cons, List.map_nil, vget, bget, List.getD_cons_zero, List.getD_cons_succ, Box.vals, Nat.le_refl, cells_case, len_case, part_case, part_case0, part_case7, part_case14, cells_ctx, len_ctx, part_ctx, part_ctx0, part_ctx1, part_ctx2, part_ctx3, part_ctx5, set_ctx, cells_lev, len_lev, part_lev, part_lev0, part_lev1, set_lev, field_rng, field_lo, field_hi, eql_lev, neq_lev]
  refine And.intro (fun h => ?_) (fun h => ?_)
  · refine aw ?_; simp only [demote_d, dem_ptr, bindO_some', noRef_d, true_and, ifP_dec, ifP_true, ifP_false, eql_int, neq_int, lss_int, leq_int, gtr_int, geq_int, un_not, eql_bool, neq_bool, eql_set, neq_set, cells_ex, len_cEx, part_exAll, part_ex0, part_ex1, part_ex2, part_ex3, part_ex4, part_ex5, part_ex9, parts_nil, dI, List.map_cons, List.map_nil, vget, bget, List.getD_cons_zero, List.getD_cons_succ, Box.vals, Nat.le_refl, cells_case, len_case, part_case, part_case0, part_case7, part_case14, cells_ctx, len_ctx, part_ctx, part_ctx0, part_ctx1, part_ctx2, part_ctx3, part_ctx5, set_ctx, cells_lev, len_lev, part_lev, part_lev0, part_lev1, set_lev, field_rng, field_lo, field_hi, eql_lev, neq_lev]
  have hlb := allX_lv b.lv b 15 (Nat.le_refl _) (by simpa using h)
  refine callP_of hwa ?_
  simp only [demote_d, dem_ptr, bindO_some', noRef_d, true_and, ifP_dec, ifP_true, ifP_false, eql_int, neq_int, lss_int, leq_int, gtr_int, geq_int, un_not, eql_bool, neq_bool, eql_set, neq_set, cells_ex, len_cEx, part_exAll, part_ex0, part_ex1, part_ex2, part_ex3, part_ex4, part_ex5, part_ex9, parts_nil, dI, List.map_cons, List.map_nil, vget, bget, List.getD_cons_zero, List.getD_cons_succ, Box.vals, Nat.le_refl, cells_case, len_case, part_case, part_case0, part_case7, part_case14, cells_ctx, len_ctx, part_ctx, part_ctx0, part_ctx1, part_ctx2, part_ctx3, part_ctx5, set_ctx, cells_lev, len_lev, part_lev, part_lev0, part_lev1, set_lev, field_rng, field_lo, field_hi, eql_lev, neq_lev]
  refine And.intro (fun h => ?_) (fun hoa => ?_)
  · refine aw ?_; simp only [demote_d, dem_ptr, bindO_some', noRef_d, true_and, ifP_dec, ifP_true, ifP_false, eql_int, neq_int, lss_int, leq_int, gtr_int, geq_int, un_not, eql_bool, neq_bool, eql_set, neq_set, cells_ex, len_cEx, part_exAll, part_ex0, part_ex1, part_ex2, part_ex3, part_ex4, part_ex5, part_ex9, parts_nil, dI, List.map_cons, List.map_nil, vget, bget, List.getD_cons_zero, List.getD_cons_succ, Box.vals, Nat.le_refl, cells_case, len_case, part_case, part_case0, part_case7, part_case14, cells_ctx, len_ctx, part_ctx, part_ctx0, part_ctx1, part_ctx2, part_ctx3, part_ctx5, set_ctx, cells_lev, len_lev, part_lev, part_lev0, part_lev1, set_lev, field_rng, field_lo, field_hi, eql_lev, neq_lev]
  refine callP_of hwb ?_
  simp only [demote_d, dem_ptr, bindO_some', noRef_d, true_and, ifP_dec, ifP_true, ifP_false, eql_int, neq_int, lss_int, leq_int, gtr_int, geq_int, un_not, eql_bool, neq_bool, eql_set, neq_set, cells_ex, len_cEx, part_exAll, part_ex0, part_ex1, part_ex2, part_ex3, part_ex4, part_ex5, part_ex9, parts_nil, dI, List.map_cons, List.map_nil, vget, bget, List.getD_cons_zero, List.getD_cons_succ, Box.vals, Nat.le_refl, cells_case, len_case, part_case, part_case0, part_case7, part_case14, cells_ctx, len_ctx, part_ctx, part_ctx0, part_ctx1, part_ctx2, part_ctx3, part_ctx5, set_ctx, cells_lev, len_lev, part_lev, part_lev0, part_lev1, set_lev, field_rng, field_lo, field_hi, eql_lev, neq_lev]
  refine And.intro (fun h => ?_) (fun hob => ?_)
  · refine aw ?_; simp only [demote_d, dem_ptr, bindO_some', noRef_d, true_and, ifP_dec, ifP_true, ifP_false, eql_int, neq_int, lss_int, leq_int, gtr_int, geq_int, un_not, eql_bool, neq_bool, eql_set, neq_set, cells_ex, len_cEx, part_exAll, part_ex0, part_ex1, part_ex2, part_ex3, part_ex4, part_ex5, part_ex9, parts_nil, dI, List.map_cons, List.map_nil, vget, bget, List.getD_cons_zero, List.getD_cons_succ, Box.vals, Nat.le_refl, cells_case, len_case, part_case, part_case0, part_case7, part_case14, cells_ctx, len_ctx, part_ctx, part_ctx0, part_ctx1, part_ctx2, part_ctx3, part_ctx5, set_ctx, cells_lev, len_lev, part_lev, part_lev0, part_lev1, set_lev, field_rng, field_lo, field_hi, eql_lev, neq_lev]
  have hoa' : allX okN a 11 = true := by simpa using hoa
  have hoa : allX okX a 11 = true := hoa'
  have hob' : allX okN b 11 = true := by simpa using hob
  have hob : allX okX b 11 = true := hob'
  clear hsa hsb hwa hwb
  refine callP_of (hxa (by omega)) ?_
  simp only [demote_d, dem_ptr, bindO_some', noRef_d, true_and, ifP_dec, ifP_true, ifP_false, eql_int, neq_int, lss_int, leq_int, gtr_int, geq_int, un_not, eql_bool, neq_bool, eql_set, neq_set, cells_ex, len_cEx, part_exAll, part_ex0, part_ex1, part_ex2, part_ex3, part_ex4, part_ex5, part_ex9, parts_nil, dI, List.map_cons, List.map_nil, vget, bget, List.getD_cons_zero, List.getD_cons_succ, Box.vals, Nat.le_refl, cells_case, len_case, part_case, part_case0, part_case7, part_case14, cells_ctx, len_ctx, part_ctx, part_ctx0, part_ctx1, part_ctx2, part_ctx3, part_ctx5, set_ctx, cells_lev, len_lev, part_lev, part_lev0, part_lev1, set_lev, field_rng, field_lo, field_hi, eql_lev, neq_lev]
  refine callP_of (hxb (by omega)) ?_
  simp only [demote_d, dem_ptr, bindO_some', noRef_d, true_and, ifP_dec, ifP_true, ifP_false, eql_int, neq_int, lss_int, leq_int, gtr_int, geq_int, un_not, eql_bool, neq_bool, eql_set, neq_set, cells_ex, len_cEx, part_exAll, part_ex0, part_ex1, part_ex2, part_ex3, part_ex4, part_ex5, part_ex9, parts_nil, dI, List.map_cons, List.map_nil, vget, bget, List.getD_cons_zero, List.getD_cons_succ, Box.vals, Nat.le_refl, cells_case, len_case, part_case, part_case0, part_case7, part_case14, cells_ctx, len_ctx, part_ctx, part_ctx0, part_ctx1, part_ctx2, part_ctx3, part_ctx5, set_ctx, cells_lev, len_lev, part_lev, part_lev0, part_lev1, set_lev, field_rng, field_lo, field_hi, eql_lev, neq_lev, parts_d1, parts_d2, f1, f2, elems_1, elems_2, parts_full, build_op]
  have e1 : evalF (.mk 2 0 0 0 [] zW [a]) c = !evalF a c := ev_not c hoa
  have e3 : evalF (.mk 3 0 0 0 [] zW [a, b]) c = (evalF a c && evalF b c) := ev_and c hoa hob
  have e4 : evalF (.mk 4 0 0 0 [] zW [a, b]) c = (evalF a c || evalF b c) := ev_or c hoa hob
  refine callP_of (v1 (by show (xNot a).lv ≤ 1000; omega)) ?_
  simp only [demote_d, dem_ptr, bindO_some', noRef_d, true_and, ifP_dec, ifP_true, ifP_false, eql_int, neq_int, lss_int, leq_int, gtr_int, geq_int, un_not, eql_bool, neq_bool, eql_set, neq_set, cells_ex, len_cEx, part_exAll, part_ex0, part_ex1, part_ex2, part_ex3, part_ex4, part_ex5, part_ex9, parts_nil, dI, List.map_cons, List.map_nil, vget, bget, List.getD_cons_zero, List.getD_cons_succ, Box.vals, Nat.le_refl, cells_case, len_case, part_case, part_case0, part_case7, part_case14, cells_ctx, len_ctx, part_ctx, part_ctx0, part_ctx1, part_ctx2, part_ctx3, part_ctx5, set_ctx, cells_lev, len_lev, part_lev, part_lev0, part_lev1, set_lev, field_rng, field_lo, field_hi, eql_lev, neq_lev]
  rw [e1]
  refine And.intro (fun h => absurd h (by simp)) (fun _ => ?_)
  refine callP_of (v3 (by rw [q2]; omega)) ?_
  simp only [demote_d, dem_ptr, bindO_some', noRef_d, true_and, ifP_dec, ifP_true, ifP_false, eql_int, neq_int, lss_int, leq_int, gtr_int, geq_int, un_not, eql_bool, neq_bool, eql_set, neq_set, cells_ex, len_cEx, part_exAll, part_ex0, part_ex1, part_ex2, part_ex3, part_ex4, part_ex5, part_ex9, parts_nil, dI, List.map_cons, List.map_nil, vget, bget, List.getD_cons_zero, List.getD_cons_succ, Box.vals, Nat.le_refl, cells_case, len_case, part_case, part_case0, part_case7, part_case14, cells_ctx, len_ctx, part_ctx, part_ctx0, part_ctx1, part_ctx2, part_ctx3, part_ctx5, set_ctx, cells_lev, len_lev, part_lev, part_lev0, part_lev1, set_lev, field_rng, field_lo, field_hi, eql_lev, neq_lev]
  rw [e3]
  refine And.intro (fun ha => ?_) (fun ha => ?_)
  · refine And.intro (fun h => absurd h (by rw [ha]; simp)) (fun _ => ?_)
    refine callP_of (v4 (by rw [q2]; omega)) ?_
    simp only [demote_d, dem_ptr, bindO_some', noRef_d, true_and, ifP_dec, ifP_true, ifP_false, eql_int, neq_int, lss_int, leq_int, gtr_int, geq_int, un_not, eql_bool, neq_bool, eql_set, neq_set, cells_ex, len_cEx, part_exAll, part_ex0, part_ex1, part_ex2, part_ex3, part_ex4, part_ex5, part_ex9, parts_nil, dI, List.map_cons, List.map_nil, vget, bget, List.getD_cons_zero, List.getD_cons_succ, Box.vals, Nat.le_refl, cells_case, len_case, part_case, part_case0, part_case7, part_case14, cells_ctx, len_ctx, part_ctx, part_ctx0, part_ctx1, part_ctx2, part_ctx3, part_ctx5, set_ctx, cells_lev, len_lev, part_lev, part_lev0, part_lev1, set_lev, field_rng, field_lo, field_hi, eql_lev, neq_lev]
    rw [e4]
    refine And.intro (fun _ => ?_) (fun h => absurd h (by rw [ha]; decide))
    refine And.intro (fun h => absurd h (by rw [ha]; simp)) (fun _ => ?_)
    refine loopP_count (fun i => [.d (.int .i64 ((i : Nat) : Int))]) (fun i => [cEx a.op a.a a.rel a.b nm a.w kd, cEx b.op b.a b.rel b.b nm' b.w kd', cCase c, cB5 (vLev c) i]) 5 (fun i hi I hI => ?_) (fun I => ?_)
    · simp only [demote_d, dem_ptr, bindO_some', noRef_d, true_and, ifP_dec, ifP_true, ifP_false, eql_int, neq_int, lss_int, leq_int, gtr_int, geq_int, un_not, eql_bool, neq_bool, eql_set, neq_set, cells_ex, len_cEx, part_exAll, part_ex0, part_ex1, part_ex2, part_ex3, part_ex4, part_ex5, part_ex9, parts_nil, dI, List.map_cons, List.map_nil, vget, bget, List.getD_cons_zero, List.getD_cons_succ, Box.vals, Nat.le_refl, cells_case, len_case, part_case, part_case0, part_case7, part_case14, cells_ctx, len_ctx, part_ctx, part_ctx0, part_ctx1, part_ctx2, part_ctx3, part_ctx5, set_ctx, cells_lev, len_lev, part_lev, part_lev0, part_lev1, set_lev, field_rng, field_lo, field_hi, eql_lev, neq_lev]
      refine And.intro (fun _ => ?_) (fun h => absurd h (by simp; omega))
      simp only [parts_lev, build_lev, demote_d, dem_ptr, bindO_some', noRef_d, true_and, ifP_dec, ifP_true, ifP_false, eql_int, neq_int, lss_int, leq_int, gtr_int, geq_int, un_not, eql_bool, neq_bool, eql_set, neq_set, cells_ex, len_cEx, part_exAll, part_ex0, part_ex1, part_ex2, part_ex3, part_ex4, part_ex5, part_ex9, parts_nil, dI, List.map_cons, List.map_nil, vget, bget, List.getD_cons_zero, List.getD_cons_succ, Box.vals, Nat.le_refl, cells_case, len_case, part_case, part_case0, part_case7, part_case14, cells_ctx, len_ctx, part_ctx, part_ctx0, part_ctx1, part_ctx2, part_ctx3, part_ctx5, set_ctx, cells_lev, len_lev, part_lev, part_lev0, part_lev1, set_lev, field_rng, field_lo, field_hi, eql_lev, neq_lev]
      refine callP_of (hev _ _ (isE_lev _) (by show (1 : Nat) ≤ 1000; decide)) ?_
      simp only [demote_d, dem_ptr, bindO_some', noRef_d, true_and, ifP_dec, ifP_true, ifP_false, eql_int, neq_int, lss_int, leq_int, gtr_int, geq_int, un_not, eql_bool, neq_bool, eql_set, neq_set, cells_ex, len_cEx, part_exAll, part_ex0, part_ex1, part_ex2, part_ex3, part_ex4, part_ex5, part_ex9, parts_nil, dI, List.map_cons, List.map_nil, vget, bget, List.getD_cons_zero, List.getD_cons_succ, Box.vals, Nat.le_refl, cells_case, len_case, part_case, part_case0, part_case7, part_case14, cells_ctx, len_ctx, part_ctx, part_ctx0, part_ctx1, part_ctx2, part_ctx3, part_ctx5, set_ctx, cells_lev, len_lev, part_lev, part_lev0, part_lev1, set_lev, field_rng, field_lo, field_hi, eql_lev, neq_lev]
      rw [index_nat hi]
      simp only [demote_d, dem_ptr, bindO_some', noRef_d, true_and, ifP_dec, ifP_true, ifP_false, eql_int, neq_int, lss_int, leq_int, gtr_int, geq_int, un_not, eql_bool, neq_bool, eql_set, neq_set, cells_ex, len_cEx, part_exAll, part_ex0, part_ex1, part_ex2, part_ex3, part_ex4, part_ex5, part_ex9, parts_nil, dI, List.map_cons, List.map_nil, vget, bget, List.getD_cons_zero, List.getD_cons_succ, Box.vals, Nat.le_refl, cells_case, len_case, part_case, part_case0, part_case7, part_case14, cells_ctx, len_ctx, part_ctx, part_ctx0, part_ctx1, part_ctx2, part_ctx3, part_ctx5, set_ctx, cells_lev, len_lev, part_lev, part_lev0, part_lev1, set_lev, field_rng, field_lo, field_hi, eql_lev, neq_lev, cells_b, List.length_singleton]
      refine ⟨by show 0 + i * 1 + 1 ≤ 5; omega, ?_⟩
      rw [add_one (by omega)]
      simp only [demote_d, dem_ptr, bindO_some', noRef_d, true_and, ifP_dec, ifP_true, ifP_false, eql_int, neq_int, lss_int, leq_int, gtr_int, geq_int, un_not, eql_bool, neq_bool, eql_set, neq_set, cells_ex, len_cEx, part_exAll, part_ex0, part_ex1, part_ex2, part_ex3, part_ex4, part_ex5, part_ex9, parts_nil, dI, List.map_cons, List.map_nil, vget, bget, List.getD_cons_zero, List.getD_cons_succ, Box.vals, Nat.le_refl, cells_case, len_case, part_case, part_case0, part_case7, part_case14, cells_ctx, len_ctx, part_ctx, part_ctx0, part_ctx1, part_ctx2, part_ctx3, part_ctx5, set_ctx, cells_lev, len_lev, part_lev, part_lev0, part_lev1, set_lev, field_rng, field_lo, field_hi, eql_lev, neq_lev]
      rw [show evalF (xLev (i : Int)) c = vLev c i from rfl, cB5_set _ i hi]
      exact hI
    · have hdec : decide (((5 : Nat) : Int) < 5) = false := by decide
      have hft : ∀ X : Prop, (false = true → X) = True := by intro X; simp
      have hff : ∀ X : Prop, (false = false → X) = X := by intro X; simp
      simp only [demote_d, dem_ptr, bindO_some', noRef_d, true_and, ifP_dec, ifP_true, ifP_false, eql_int, neq_int, lss_int, leq_int, gtr_int, geq_int, un_not, eql_bool, neq_bool, eql_set, neq_set, cells_ex, len_cEx, part_exAll, part_ex0, part_ex1, part_ex2, part_ex3, part_ex4, part_ex5, part_ex9, parts_nil, dI, List.map_cons, List.map_nil, vget, bget, List.getD_cons_zero, List.getD_cons_succ, Box.vals, Nat.le_refl, cells_case, len_case, part_case, part_case0, part_case7, part_case14, cells_ctx, len_ctx, part_ctx, part_ctx0, part_ctx1, part_ctx2, part_ctx3, part_ctx5, set_ctx, cells_lev, len_lev, part_lev, part_lev0, part_lev1, set_lev, field_rng, field_lo, field_hi, eql_lev, neq_lev, hdec, hft, hff]
      intro _
      obtain ⟨p0, p1, p2, p3, p4⟩ := at5 (vLev c)
      obtain ⟨i0, i1, i2, i3, i4⟩ := ix5
      obtain ⟨l0, l1, l4⟩ := lev_laws c
      simp only [i0, i1, i2, i3, i4, p0, p1, p2, p3, p4, demote_d, dem_ptr, bindO_some', noRef_d, true_and, ifP_dec, ifP_true, ifP_false, eql_int, neq_int, lss_int, leq_int, gtr_int, geq_int, un_not, eql_bool, neq_bool, eql_set, neq_set, cells_ex, len_cEx, part_exAll, part_ex0, part_ex1, part_ex2, part_ex3, part_ex4, part_ex5, part_ex9, parts_nil, dI, List.map_cons, List.map_nil, vget, bget, List.getD_cons_zero, List.getD_cons_succ, Box.vals, Nat.le_refl, cells_case, len_case, part_case, part_case0, part_case7, part_case14, cells_ctx, len_ctx, part_ctx, part_ctx0, part_ctx1, part_ctx2, part_ctx3, part_ctx5, set_ctx, cells_lev, len_lev, part_lev, part_lev0, part_lev1, set_lev, field_rng, field_lo, field_hi, eql_lev, neq_lev]
      clear hdec hft hff
      repeat' first | refine And.intro (fun h => ?_) (fun h => ?_) | (refine callP_of awake_holds ?_; simp only [demote_d, dem_ptr, bindO_some', noRef_d, true_and, ifP_dec, ifP_true, ifP_false, eql_int, neq_int, lss_int, leq_int, gtr_int, geq_int, un_not, eql_bool, neq_bool, eql_set, neq_set, cells_ex, len_cEx, part_exAll, part_ex0, part_ex1, part_ex2, part_ex3, part_ex4, part_ex5, part_ex9, parts_nil, dI, List.map_cons, List.map_nil, vget, bget, List.getD_cons_zero, List.getD_cons_succ, Box.vals, Nat.le_refl, cells_case, len_case, part_case, part_case0, part_case7, part_case14, cells_ctx, len_ctx, part_ctx, part_ctx0, part_ctx1, part_ctx2, part_ctx3, part_ctx5, set_ctx, cells_lev, len_lev, part_lev, part_lev0, part_lev1, set_lev, field_rng, field_lo, field_hi, eql_lev, neq_lev])
      all_goals (exfalso; generalize vLev c 0 = b0 at *; generalize vLev c 1 = b1 at *; generalize vLev c 2 = b2 at *; generalize vLev c 3 = b3 at *; generalize vLev c 4 = b4 at *; clear p0 p1 p2 p3 p4 i0 i1 i2 i3 i4 hev hwf aw hxa hxb f1 f2 v1 v3 v4 e1 e3 e4 q1 q2; grind)
  · refine And.intro (fun h => absurd h (by rw [ha]; simp)) (fun _ => ?_)
    refine callP_of (v4 (by rw [q2]; omega)) ?_
    simp only [demote_d, dem_ptr, bindO_some', noRef_d, true_and, ifP_dec, ifP_true, ifP_false, eql_int, neq_int, lss_int, leq_int, gtr_int, geq_int, un_not, eql_bool, neq_bool, eql_set, neq_set, cells_ex, len_cEx, part_exAll, part_ex0, part_ex1, part_ex2, part_ex3, part_ex4, part_ex5, part_ex9, parts_nil, dI, List.map_cons, List.map_nil, vget, bget, List.getD_cons_zero, List.getD_cons_succ, Box.vals, Nat.le_refl, cells_case, len_case, part_case, part_case0, part_case7, part_case14, cells_ctx, len_ctx, part_ctx, part_ctx0, part_ctx1, part_ctx2, part_ctx3, part_ctx5, set_ctx, cells_lev, len_lev, part_lev, part_lev0, part_lev1, set_lev, field_rng, field_lo, field_hi, eql_lev, neq_lev]
    rw [e4]
    refine And.intro (fun h => absurd h (by rw [ha]; decide)) (fun _ => ?_)
    refine And.intro (fun h => absurd h (by rw [ha]; simp)) (fun _ => ?_)
    refine loopP_count (fun i => [.d (.int .i64 ((i : Nat) : Int))]) (fun i => [cEx a.op a.a a.rel a.b nm a.w kd, cEx b.op b.a b.rel b.b nm' b.w kd', cCase c, cB5 (vLev c) i]) 5 (fun i hi I hI => ?_) (fun I => ?_)
    · simp only [demote_d, dem_ptr, bindO_some', noRef_d, true_and, ifP_dec, ifP_true, ifP_false, eql_int, neq_int, lss_int, leq_int, gtr_int, geq_int, un_not, eql_bool, neq_bool, eql_set, neq_set, cells_ex, len_cEx, part_exAll, part_ex0, part_ex1, part_ex2, part_ex3, part_ex4, part_ex5, part_ex9, parts_nil, dI, List.map_cons, List.map_nil, vget, bget, List.getD_cons_zero, List.getD_cons_succ, Box.vals, Nat.le_refl, cells_case, len_case, part_case, part_case0, part_case7, part_case14, cells_ctx, len_ctx, part_ctx, part_ctx0, part_ctx1, part_ctx2, part_ctx3, part_ctx5, set_ctx, cells_lev, len_lev, part_lev, part_lev0, part_lev1, set_lev, field_rng, field_lo, field_hi, eql_lev, neq_lev]
      refine And.intro (fun _ => ?_) (fun h => absurd h (by simp; omega))
      simp only [parts_lev, build_lev, demote_d, dem_ptr, bindO_some', noRef_d, true_and, ifP_dec, ifP_true, ifP_false, eql_int, neq_int, lss_int, leq_int, gtr_int, geq_int, un_not, eql_bool, neq_bool, eql_set, neq_set, cells_ex, len_cEx, part_exAll, part_ex0, part_ex1, part_ex2, part_ex3, part_ex4, part_ex5, part_ex9, parts_nil, dI, List.map_cons, List.map_nil, vget, bget, List.getD_cons_zero, List.getD_cons_succ, Box.vals, Nat.le_refl, cells_case, len_case, part_case, part_case0, part_case7, part_case14, cells_ctx, len_ctx, part_ctx, part_ctx0, part_ctx1, part_ctx2, part_ctx3, part_ctx5, set_ctx, cells_lev, len_lev, part_lev, part_lev0, part_lev1, set_lev, field_rng, field_lo, field_hi, eql_lev, neq_lev]
      refine callP_of (hev _ _ (isE_lev _) (by show (1 : Nat) ≤ 1000; decide)) ?_
      simp only [demote_d, dem_ptr, bindO_some', noRef_d, true_and, ifP_dec, ifP_true, ifP_false, eql_int, neq_int, lss_int, leq_int, gtr_int, geq_int, un_not, eql_bool, neq_bool, eql_set, neq_set, cells_ex, len_cEx, part_exAll, part_ex0, part_ex1, part_ex2, part_ex3, part_ex4, part_ex5, part_ex9, parts_nil, dI, List.map_cons, List.map_nil, vget, bget, List.getD_cons_zero, List.getD_cons_succ, Box.vals, Nat.le_refl, cells_case, len_case, part_case, part_case0, part_case7, part_case14, cells_ctx, len_ctx, part_ctx, part_ctx0, part_ctx1, part_ctx2, part_ctx3, part_ctx5, set_ctx, cells_lev, len_lev, part_lev, part_lev0, part_lev1, set_lev, field_rng, field_lo, field_hi, eql_lev, neq_lev]
      rw [index_nat hi]
      simp only [demote_d, dem_ptr, bindO_some', noRef_d, true_and, ifP_dec, ifP_true, ifP_false, eql_int, neq_int, lss_int, leq_int, gtr_int, geq_int, un_not, eql_bool, neq_bool, eql_set, neq_set, cells_ex, len_cEx, part_exAll, part_ex0, part_ex1, part_ex2, part_ex3, part_ex4, part_ex5, part_ex9, parts_nil, dI, List.map_cons, List.map_nil, vget, bget, List.getD_cons_zero, List.getD_cons_succ, Box.vals, Nat.le_refl, cells_case, len_case, part_case, part_case0, part_case7, part_case14, cells_ctx, len_ctx, part_ctx, part_ctx0, part_ctx1, part_ctx2, part_ctx3, part_ctx5, set_ctx, cells_lev, len_lev, part_lev, part_lev0, part_lev1, set_lev, field_rng, field_lo, field_hi, eql_lev, neq_lev, cells_b, List.length_singleton]
      refine ⟨by show 0 + i * 1 + 1 ≤ 5; omega, ?_⟩
      rw [add_one (by omega)]
      simp only [demote_d, dem_ptr, bindO_some', noRef_d, true_and, ifP_dec, ifP_true, ifP_false, eql_int, neq_int, lss_int, leq_int, gtr_int, geq_int, un_not, eql_bool, neq_bool, eql_set, neq_set, cells_ex, len_cEx, part_exAll, part_ex0, part_ex1, part_ex2, part_ex3, part_ex4, part_ex5, part_ex9, parts_nil, dI, List.map_cons, List.map_nil, vget, bget, List.getD_cons_zero, List.getD_cons_succ, Box.vals, Nat.le_refl, cells_case, len_case, part_case, part_case0, part_case7, part_case14, cells_ctx, len_ctx, part_ctx, part_ctx0, part_ctx1, part_ctx2, part_ctx3, part_ctx5, set_ctx, cells_lev, len_lev, part_lev, part_lev0, part_lev1, set_lev, field_rng, field_lo, field_hi, eql_lev, neq_lev]
      rw [show evalF (xLev (i : Int)) c = vLev c i from rfl, cB5_set _ i hi]
      exact hI
    · have hdec : decide (((5 : Nat) : Int) < 5) = false := by decide
      have hft : ∀ X : Prop, (false = true → X) = True := by intro X; simp
      have hff : ∀ X : Prop, (false = false → X) = X := by intro X; simp
      simp only [demote_d, dem_ptr, bindO_some', noRef_d, true_and, ifP_dec, ifP_true, ifP_false, eql_int, neq_int, lss_int, leq_int, gtr_int, geq_int, un_not, eql_bool, neq_bool, eql_set, neq_set, cells_ex, len_cEx, part_exAll, part_ex0, part_ex1, part_ex2, part_ex3, part_ex4, part_ex5, part_ex9, parts_nil, dI, List.map_cons, List.map_nil, vget, bget, List.getD_cons_zero, List.getD_cons_succ, Box.vals, Nat.le_refl, cells_case, len_case, part_case, part_case0, part_case7, part_case14, cells_ctx, len_ctx, part_ctx, part_ctx0, part_ctx1, part_ctx2, part_ctx3, part_ctx5, set_ctx, cells_lev, len_lev, part_lev, part_lev0, part_lev1, set_lev, field_rng, field_lo, field_hi, eql_lev, neq_lev, hdec, hft, hff]
      intro _
      obtain ⟨p0, p1, p2, p3, p4⟩ := at5 (vLev c)
      obtain ⟨i0, i1, i2, i3, i4⟩ := ix5
      obtain ⟨l0, l1, l4⟩ := lev_laws c
      simp only [i0, i1, i2, i3, i4, p0, p1, p2, p3, p4, demote_d, dem_ptr, bindO_some', noRef_d, true_and, ifP_dec, ifP_true, ifP_false, eql_int, neq_int, lss_int, leq_int, gtr_int, geq_int, un_not, eql_bool, neq_bool, eql_set, neq_set, cells_ex, len_cEx, part_exAll, part_ex0, part_ex1, part_ex2, part_ex3, part_ex4, part_ex5, part_ex9, parts_nil, dI, List.map_cons, List.map_nil, vget, bget, List.getD_cons_zero, List.getD_cons_succ, Box.vals, Nat.le_refl, cells_case, len_case, part_case, part_case0, part_case7, part_case14, cells_ctx, len_ctx, part_ctx, part_ctx0, part_ctx1, part_ctx2, part_ctx3, part_ctx5, set_ctx, cells_lev, len_lev, part_lev, part_lev0, part_lev1, set_lev, field_rng, field_lo, field_hi, eql_lev, neq_lev]
      clear hdec hft hff
      repeat' first | refine And.intro (fun h => ?_) (fun h => ?_) | (refine callP_of awake_holds ?_; simp only [demote_d, dem_ptr, bindO_some', noRef_d, true_and, ifP_dec, ifP_true, ifP_false, eql_int, neq_int, lss_int, leq_int, gtr_int, geq_int, un_not, eql_bool, neq_bool, eql_set, neq_set, cells_ex, len_cEx, part_exAll, part_ex0, part_ex1, part_ex2, part_ex3, part_ex4, part_ex5, part_ex9, parts_nil, dI, List.map_cons, List.map_nil, vget, bget, List.getD_cons_zero, List.getD_cons_succ, Box.vals, Nat.le_refl, cells_case, len_case, part_case, part_case0, part_case7, part_case14, cells_ctx, len_ctx, part_ctx, part_ctx0, part_ctx1, part_ctx2, part_ctx3, part_ctx5, set_ctx, cells_lev, len_lev, part_lev, part_lev0, part_lev1, set_lev, field_rng, field_lo, field_hi, eql_lev, neq_lev])
      all_goals (exfalso; generalize vLev c 0 = b0 at *; generalize vLev c 1 = b1 at *; generalize vLev c 2 = b2 at *; generalize vLev c 3 = b3 at *; generalize vLev c 4 = b4 at *; clear p0 p1 p2 p3 p4 i0 i1 i2 i3 i4 hev hwf aw hxa hxb f1 f2 v1 v3 v4 e1 e3 e4 q1 q2; grind)
end Go.Proofs.Ytcnnhnjcnekhcaa.Ab
