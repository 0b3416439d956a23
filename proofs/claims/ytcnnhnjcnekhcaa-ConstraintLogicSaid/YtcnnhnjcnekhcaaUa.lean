/-
  Steps towards the claim of this seat (D1).
-/
import Derived.Test.YtcnnhnjcnekhcaaB17
import Derived.Test.YtcnnhnjcnekhcaaTy
set_option linter.unusedVariables false
set_option linter.unusedSimpArgs false
namespace Go.Proofs.Ytcnnhnjcnekhcaa.Ab
open Go
theorem hm1 : (Try.prog).follows .mixedOrders = true := by kernel_rfl
theorem e59 : Enters Try.prog 59 := enters_some (fn := Try.f59) (by kernel_rfl) (by kernel_rfl) (by kernel_rfl)
theorem inside_holds (n : Int) : Holds Try.prog gl 59 [.d (dI n)] (.d (.bool (decide (0 ≤ n) && decide (n < 256)))) := by
  refine holds_of_body hm1 e59 (h := h59) ?_
  rw [body59]
  intro hwf
  simp only [demote_d, dI, binV, binD, intBop, bindO_some', ifP_dec, noRef_d, true_and, ↓reduceIte]
  refine ⟨fun h => ?_, fun h => ?_⟩
  · simp only [ge_iff_le] at h; rw [h]; rfl
  · simp only [ge_iff_le] at h; rw [h]; rfl
theorem e41 : Enters Try.prog 41 := enters_some (fn := Try.f41) (by kernel_rfl) (by kernel_rfl) (by kernel_rfl)
def hasI (w : Nat → BitVec 64) (n : Int) : Bool := decide (0 ≤ n) && decide (n < 256) && hasW w n.toNat
theorem has_holds (w : Nat → BitVec 64) (n : Int) : Holds Try.prog gl 41 [.d (dSet w), .d (dI n)] (.d (.bool (hasI w n))) := by
  refine holds_of_body hm1 e41 (h := h41) ?_
  rw [body41]
  intro hwf
  simp only [demote_d, cells_set, bindO_some', len_cSet, true_and]
  refine callP_of (inside_holds n) ?_
  simp only [demote_d, ifP_dec, noRef_d, true_and]
  refine ⟨fun h => ?_, fun h => ?_⟩
  · simp only [Bool.and_eq_true, decide_eq_true_eq] at h
    obtain ⟨m, rfl⟩ := Int.eq_ofNat_of_zero_le h.1
    have hm : m < 256 := by omega
    rw [dI, quo64 (by omega), rem64]
    simp only [bindO_some', demote_d]
    rw [index_nat (show m / 64 < 4 by omega)]
    simp only [bindO_some', Nat.zero_add, Nat.mul_one]
    rw [part_word w (show m / 64 < 4 by omega)]
    simp only [bindO_some', demote_d, bin_shr, one_word, bin_and, bin_eqlW, noRef_d, true_and]
    have e : hasI w (m : Int) = ((w (m / 64) >>> (m % 64)) &&& 1#64 == 1#64) := by
      rw [bit_eq]
      simp only [hasI, hasW, Int.toNat_natCast, decide_eq_true h.1, decide_eq_true h.2, Bool.true_and]
    rw [e]
    rfl
  · rw [hasI, h]; rfl
/-- with a number -/
def withW (w : Nat → BitVec 64) (n : Int) : Nat → BitVec 64 := if 0 ≤ n ∧ n < 256 then upW w (n.toNat / 64) (w (n.toNat / 64) ||| 1#64 <<< (n.toNat % 64)) else w
/-- without a number -/
def withoutW (w : Nat → BitVec 64) (n : Int) : Nat → BitVec 64 := if 0 ≤ n ∧ n < 256 then upW w (n.toNat / 64) (w (n.toNat / 64) &&& ~~~(1#64 <<< (n.toNat % 64))) else w
theorem e61 : Enters Try.prog 61 := enters_some (fn := Try.f61) (by kernel_rfl) (by kernel_rfl) (by kernel_rfl)
theorem bit_holds (m : Nat) : Holds Try.prog gl 61 [.d (.int .i64 (m : Int))] (.d (dW (1#64 <<< (m % 64)))) := by
  refine holds_of_body hm1 e61 (h := h61) ?_
  rw [body61]
  intro hwf
  simp only [demote_d, rem64, bindO_some', one_word, bin_shl, noRef_d, true_and]
  rfl
theorem and_bit (x : BitVec 64) (n : Nat) (h : n < 64) : ((x &&& 1#64 <<< n) != 0) = x.getLsbD n := by
  rw [Bool.eq_iff_iff, bne_iff_ne]
  constructor
  · intro hne
    cases hb : x.getLsbD n with
    | true => rfl
    | false =>
      exfalso
      apply hne
      apply BitVec.eq_of_getLsbD_eq
      intro i hi
      by_cases hin : i = n
      · subst hin; simp [hb]
      · have : (1#64 <<< n).getLsbD i = false := by
          simp only [BitVec.getLsbD_shiftLeft, BitVec.getLsbD_one]
          rcases Nat.lt_or_ge i n with h1 | h1
          · simp [h1]
          · have : i - n ≠ 0 := by omega
            simp [this]
        simp [this]
  · intro hb h0
    have := congrArg (fun z => z.getLsbD n) h0
    rw [BitVec.getLsbD_eq_getElem h] at hb
    simp [h] at this
    rw [hb] at this
    cases this
theorem e45 : Enters Try.prog 45 := enters_some (fn := Try.f45) (by kernel_rfl) (by kernel_rfl) (by kernel_rfl)
theorem hasR_holds (w : Nat → BitVec 64) (n : Int) : Holds Try.prog gl 45 [.d (dSet w), .d (dI n)] (.d (.bool (hasI w n))) := by
  refine holds_of_body hm1 e45 (h := h45) ?_
  rw [body45]
  intro hwf
  simp only [demote_d, cells_set, bindO_some', len_cSet, true_and, noRef_d, dI, geq_lit, lss_lit, ifP_dec]
  have hno : ¬ (0 ≤ n ∧ n < 256) → SV.d (.bool false) = .d (.bool (hasI w n)) := fun h => by
    have : hasI w n = false := by
      unfold hasI
      rcases Int.lt_or_le n 0 with h1 | h1
      · simp [show ¬ 0 ≤ n by omega]
      · simp [show ¬ n < 256 by omega]
    rw [this]
  refine ⟨fun h0 => ⟨fun h1 => ?_, fun h1 => hno (by simp at h1; omega)⟩, fun h0 => hno (by simp at h0; omega)⟩
  have h : 0 ≤ n ∧ n < 256 := ⟨by simpa using h0, by simpa using h1⟩
  obtain ⟨m, rfl⟩ := Int.eq_ofNat_of_zero_le h.1
  have hm : m < 256 := by omega
  rw [quo64 (by omega)]
  simp only [bindO_some', demote_d]
  rw [index_nat (show m / 64 < 4 by omega)]
  simp only [bindO_some', Nat.zero_add, Nat.mul_one]
  rw [part_word w (show m / 64 < 4 by omega)]
  simp only [bindO_some', demote_d]
  refine callP_of (bit_holds m) ?_
  simp only [demote_d, bin_and, bindO_some', zero_word, neq_word, noRef_d, true_and]
  have e : hasI w (m : Int) = ((w (m / 64) &&& 1#64 <<< (m % 64)) != 0) := by
    rw [and_bit _ _ (by omega)]
    simp only [hasI, hasW, Int.toNat_natCast, decide_eq_true h.1, decide_eq_true h.2, Bool.true_and]
  rw [e]

end Go.Proofs.Ytcnnhnjcnekhcaa.Ab
/-
  CONSTRAINTS: the forms of nodes.
-/
namespace Go.Proofs.Ytcnnhnjcnekhcaa.Ab
open Go
theorem rem_lit (a : Int) : binV none .rem (.d (.int .i64 a)) (.d (.int .i64 5)) = some (.d (.int .i64 (a.tmod 5))) := rfl
theorem build_set : buildD Try.prog 25 [] = some (dSet zW) := by kernel_rfl
theorem fold_min (a : Int) : foldIntV minD (.d (.int .i64 a)) [.d (.int .i64 3)] = some (.d (.int .i64 (minD a 3))) := rfl
theorem fold_max (a b : Int) : foldIntV maxD (.d (.int .i64 a)) [.d (.int .i64 b)] = some (.d (.int .i64 (maxD a b))) := rfl
theorem sort_holds (a : Int) : Holds Try.prog gl 40 [.d (.int .i64 a)] (.d (.int .i64 (sortI a))) := by
  refine holds_of_body hm1 (enters_some (fn := Try.f40) (by kernel_rfl) (by kernel_rfl) (by kernel_rfl)) (h := h40) ?_; rw [body40]; intro hwf
  simp only [demote_d, dem_ptr, bindO_some', noRef_d, true_and, ifP_dec, ifP_true, ifP_false, eql_int, neq_int, lss_int, leq_int, gtr_int, geq_int, un_not, eql_bool, neq_bool, eql_set, neq_set, cells_ex, len_cEx, part_exAll, part_ex0, part_ex1, part_ex2, part_ex3, part_ex4, part_ex5, part_ex9, parts_nil, dI, List.map_cons, List.map_nil, vget, bget, List.getD_cons_zero, List.getD_cons_succ, Box.vals, Nat.le_refl, cells_case, len_case, part_case, part_case0, part_case7, part_case14, cells_ctx, len_ctx, part_ctx, part_ctx0, part_ctx1, part_ctx2, part_ctx3, part_ctx5, set_ctx, cells_lev, len_lev, part_lev, part_lev0, part_lev1, set_lev, field_rng, field_lo, field_hi, eql_lev, neq_lev, rem_lit, fold_min]
  rfl
theorem isLevel_holds (a : Int) : Holds Try.prog gl 39 [.d (.int .i64 a)] (.d (.bool (sortI a == 3))) := by
  refine holds_of_body hm1 (enters_some (fn := Try.f39) (by kernel_rfl) (by kernel_rfl) (by kernel_rfl)) (h := h39) ?_; rw [body39]; intro hwf
  refine callP_of (sort_holds a) ?_
  simp only [demote_d, dem_ptr, bindO_some', noRef_d, true_and, ifP_dec, ifP_true, ifP_false, eql_int, neq_int, lss_int, leq_int, gtr_int, geq_int, un_not, eql_bool, neq_bool, eql_set, neq_set, cells_ex, len_cEx, part_exAll, part_ex0, part_ex1, part_ex2, part_ex3, part_ex4, part_ex5, part_ex9, parts_nil, dI, List.map_cons, List.map_nil, vget, bget, List.getD_cons_zero, List.getD_cons_succ, Box.vals, Nat.le_refl, cells_case, len_case, part_case, part_case0, part_case7, part_case14, cells_ctx, len_ctx, part_ctx, part_ctx0, part_ctx1, part_ctx2, part_ctx3, part_ctx5, set_ctx, cells_lev, len_lev, part_lev, part_lev0, part_lev1, set_lev, field_rng, field_lo, field_hi, eql_lev, neq_lev]
theorem inside1_holds (a lim : Int) : Holds Try.prog gl 38 [.d (.int .i64 a), .ref [.d (.int .i64 lim)] 0] (.d (.bool (insideF a lim))) := by
  refine holds_of_body hm1 (enters_some (fn := Try.f38) (by kernel_rfl) (by kernel_rfl) (by kernel_rfl)) (h := h38) ?_; rw [body38]; intro hwf
  have hl : loadV false 1 (.ref [.d (.int .i64 lim)] 0) = some (.d (.int .i64 lim)) := rfl
  have hd : demote (.ref [.d (.int .i64 lim)] 0) = .ref [.d (.int .i64 lim)] 0 := rfl
  simp only [demote_d, dem_ptr, bindO_some', noRef_d, true_and, ifP_dec, ifP_true, ifP_false, eql_int, neq_int, lss_int, leq_int, gtr_int, geq_int, un_not, eql_bool, neq_bool, eql_set, neq_set, cells_ex, len_cEx, part_exAll, part_ex0, part_ex1, part_ex2, part_ex3, part_ex4, part_ex5, part_ex9, parts_nil, dI, List.map_cons, List.map_nil, vget, bget, List.getD_cons_zero, List.getD_cons_succ, Box.vals, Nat.le_refl, cells_case, len_case, part_case, part_case0, part_case7, part_case14, cells_ctx, len_ctx, part_ctx, part_ctx0, part_ctx1, part_ctx2, part_ctx3, part_ctx5, set_ctx, cells_lev, len_lev, part_lev, part_lev0, part_lev1, set_lev, field_rng, field_lo, field_hi, eql_lev, neq_lev, hd, hl]
  refine And.intro (fun h => ?_) (fun h => ?_) <;> simp [insideF, h] <;> simp_all
theorem bare_holds {e : Xp} {x : D} (hx : IsE e x) (n : Int) : Holds Try.prog gl 37 [.d x, .d (.int .i64 n)] (.d (.bool (bareF e n))) := by
  refine holds_of_body hm1 (enters_some (fn := Try.f37) (by kernel_rfl) (by kernel_rfl) (by kernel_rfl)) (h := h37) ?_; rw [body37]; intro hwf
  obtain ⟨nm, kd, L, rfl, hn, hl, hd, hk⟩ := hx.inv
  simp only [demote_d, dem_ptr, bindO_some', noRef_d, true_and, ifP_dec, ifP_true, ifP_false, eql_int, neq_int, lss_int, leq_int, gtr_int, geq_int, un_not, eql_bool, neq_bool, eql_set, neq_set, cells_ex, len_cEx, part_exAll, part_ex0, part_ex1, part_ex2, part_ex3, part_ex4, part_ex5, part_ex9, parts_nil, dI, List.map_cons, List.map_nil, vget, bget, List.getD_cons_zero, List.getD_cons_succ, Box.vals, Nat.le_refl, cells_case, len_case, part_case, part_case0, part_case7, part_case14, cells_ctx, len_ctx, part_ctx, part_ctx0, part_ctx1, part_ctx2, part_ctx3, part_ctx5, set_ctx, cells_lev, len_lev, part_lev, part_lev0, part_lev1, set_lev, field_rng, field_lo, field_hi, eql_lev, neq_lev, hn.len, hd.len, len_strs, hl, build_set]
  simp only [bareF, lenN, lenK]
  repeat' first | refine And.intro (fun h => ?_) (fun h => ?_)
  all_goals simp_all
theorem form_holds {e : Xp} {x : D} (hx : IsE e x) (named : Bool) : Holds Try.prog gl 21 [.d x, .d (.bool named)] (.d (.int .i64 (formE e named))) := by
  refine holds_of_body hm1 (enters_some (fn := Try.f21) (by kernel_rfl) (by kernel_rfl) (by kernel_rfl)) (h := h21) ?_; rw [body21]; intro hwf
  have hb := fun n => bare_holds hx n
  obtain ⟨nm, kd, L, rfl, hn, hl, hd, hk⟩ := hx.inv
  simp only [demote_d, dem_ptr, bindO_some', noRef_d, true_and, ifP_dec, ifP_true, ifP_false, eql_int, neq_int, lss_int, leq_int, gtr_int, geq_int, un_not, eql_bool, neq_bool, eql_set, neq_set, cells_ex, len_cEx, part_exAll, part_ex0, part_ex1, part_ex2, part_ex3, part_ex4, part_ex5, part_ex9, parts_nil, dI, List.map_cons, List.map_nil, vget, bget, List.getD_cons_zero, List.getD_cons_succ, Box.vals, Nat.le_refl, cells_case, len_case, part_case, part_case0, part_case7, part_case14, cells_ctx, len_ctx, part_ctx, part_ctx0, part_ctx1, part_ctx2, part_ctx3, part_ctx5, set_ctx, cells_lev, len_lev, part_lev, part_lev0, part_lev1, set_lev, field_rng, field_lo, field_hi, eql_lev, neq_lev, hn.len, hd.len, len_strs, hl, build_set]
  repeat' first | refine And.intro (fun h => ?_) (fun h => ?_) | (refine callP_of (hb _) ?_; simp only [demote_d, dem_ptr, bindO_some', noRef_d, true_and, ifP_dec, ifP_true, ifP_false, eql_int, neq_int, lss_int, leq_int, gtr_int, geq_int, un_not, eql_bool, neq_bool, eql_set, neq_set, cells_ex, len_cEx, part_exAll, part_ex0, part_ex1, part_ex2, part_ex3, part_ex4, part_ex5, part_ex9, parts_nil, dI, List.map_cons, List.map_nil, vget, bget, List.getD_cons_zero, List.getD_cons_succ, Box.vals, Nat.le_refl, cells_case, len_case, part_case, part_case0, part_case7, part_case14, cells_ctx, len_ctx, part_ctx, part_ctx0, part_ctx1, part_ctx2, part_ctx3, part_ctx5, set_ctx, cells_lev, len_lev, part_lev, part_lev0, part_lev1, set_lev, field_rng, field_lo, field_hi, eql_lev, neq_lev])
  all_goals (simp only [formE, formF, lenN, lenK]; simp_all)
end Go.Proofs.Ytcnnhnjcnekhcaa.Ab
/-
  CONSTRAINTS: the meaning of nodes, and the reference's nodes.
-/
namespace Go.Proofs.Ytcnnhnjcnekhcaa.Ab
open Go
theorem cells_int (k : IntKind) (n : Int) : cellsV (.d (.int k n)) = some [.d (.int k n)] := rfl
theorem meaning_holds {e : Xp} {x : D} (hx : IsE e x) (lim : Int) : Holds Try.prog gl 22 [.d x, .d (.int .i64 lim)] (.d (.int .i64 (meaningF e lim))) := by
  refine holds_of_body hm1 (enters_some (fn := Try.f22) (by kernel_rfl) (by kernel_rfl) (by kernel_rfl)) (h := h22) ?_; rw [body22]; intro hwf
  obtain ⟨nm, kd, L, rfl, hn, hl, hd, hk⟩ := hx.inv
  simp only [demote_d, dem_ptr, bindO_some', noRef_d, true_and, ifP_dec, ifP_true, ifP_false, eql_int, neq_int, lss_int, leq_int, gtr_int, geq_int, un_not, eql_bool, neq_bool, eql_set, neq_set, cells_ex, len_cEx, part_exAll, part_ex0, part_ex1, part_ex2, part_ex3, part_ex4, part_ex5, part_ex9, parts_nil, dI, List.map_cons, List.map_nil, vget, bget, List.getD_cons_zero, List.getD_cons_succ, Box.vals, Nat.le_refl, cells_case, len_case, part_case, part_case0, part_case7, part_case14, cells_ctx, len_ctx, part_ctx, part_ctx0, part_ctx1, part_ctx2, part_ctx3, part_ctx5, set_ctx, cells_lev, len_lev, part_lev, part_lev0, part_lev1, set_lev, field_rng, field_lo, field_hi, eql_lev, neq_lev, cells_int, List.length_singleton]
  repeat' first | refine And.intro (fun h => ?_) (fun h => ?_) | (refine callP_of (inside1_holds _ _) ?_; simp only [demote_d, dem_ptr, bindO_some', noRef_d, true_and, ifP_dec, ifP_true, ifP_false, eql_int, neq_int, lss_int, leq_int, gtr_int, geq_int, un_not, eql_bool, neq_bool, eql_set, neq_set, cells_ex, len_cEx, part_exAll, part_ex0, part_ex1, part_ex2, part_ex3, part_ex4, part_ex5, part_ex9, parts_nil, dI, List.map_cons, List.map_nil, vget, bget, List.getD_cons_zero, List.getD_cons_succ, Box.vals, Nat.le_refl, cells_case, len_case, part_case, part_case0, part_case7, part_case14, cells_ctx, len_ctx, part_ctx, part_ctx0, part_ctx1, part_ctx2, part_ctx3, part_ctx5, set_ctx, cells_lev, len_lev, part_lev, part_lev0, part_lev1, set_lev, field_rng, field_lo, field_hi, eql_lev, neq_lev]) | (refine callP_of (isLevel_holds _) ?_; simp only [demote_d, dem_ptr, bindO_some', noRef_d, true_and, ifP_dec, ifP_true, ifP_false, eql_int, neq_int, lss_int, leq_int, gtr_int, geq_int, un_not, eql_bool, neq_bool, eql_set, neq_set, cells_ex, len_cEx, part_exAll, part_ex0, part_ex1, part_ex2, part_ex3, part_ex4, part_ex5, part_ex9, parts_nil, dI, List.map_cons, List.map_nil, vget, bget, List.getD_cons_zero, List.getD_cons_succ, Box.vals, Nat.le_refl, cells_case, len_case, part_case, part_case0, part_case7, part_case14, cells_ctx, len_ctx, part_ctx, part_ctx0, part_ctx1, part_ctx2, part_ctx3, part_ctx5, set_ctx, cells_lev, len_lev, part_lev, part_lev0, part_lev1, set_lev, field_rng, field_lo, field_hi, eql_lev, neq_lev]) | (refine callP_of (sort_holds _) ?_; simp only [demote_d, dem_ptr, bindO_some', noRef_d, true_and, ifP_dec, ifP_true, ifP_false, eql_int, neq_int, lss_int, leq_int, gtr_int, geq_int, un_not, eql_bool, neq_bool, eql_set, neq_set, cells_ex, len_cEx, part_exAll, part_ex0, part_ex1, part_ex2, part_ex3, part_ex4, part_ex5, part_ex9, parts_nil, dI, List.map_cons, List.map_nil, vget, bget, List.getD_cons_zero, List.getD_cons_succ, Box.vals, Nat.le_refl, cells_case, len_case, part_case, part_case0, part_case7, part_case14, cells_ctx, len_ctx, part_ctx, part_ctx0, part_ctx1, part_ctx2, part_ctx3, part_ctx5, set_ctx, cells_lev, len_lev, part_lev, part_lev0, part_lev1, set_lev, field_rng, field_lo, field_hi, eql_lev, neq_lev])
  all_goals (simp only [meaningF]; first | (simp_all; done) | (simp_all; grind))
theorem sortR_holds (a : Int) : Holds Try.prog gl 51 [.d (.int .i64 a)] (.d (.int .i64 (sortI a))) := by
  refine holds_of_body hm1 (enters_some (fn := Try.f51) (by kernel_rfl) (by kernel_rfl) (by kernel_rfl)) (h := h51) ?_; rw [body51]; intro hwf
  simp only [demote_d, dem_ptr, bindO_some', noRef_d, true_and, ifP_dec, ifP_true, ifP_false, eql_int, neq_int, lss_int, leq_int, gtr_int, geq_int, un_not, eql_bool, neq_bool, eql_set, neq_set, cells_ex, len_cEx, part_exAll, part_ex0, part_ex1, part_ex2, part_ex3, part_ex4, part_ex5, part_ex9, parts_nil, dI, List.map_cons, List.map_nil, vget, bget, List.getD_cons_zero, List.getD_cons_succ, Box.vals, Nat.le_refl, cells_case, len_case, part_case, part_case0, part_case7, part_case14, cells_ctx, len_ctx, part_ctx, part_ctx0, part_ctx1, part_ctx2, part_ctx3, part_ctx5, set_ctx, cells_lev, len_lev, part_lev, part_lev0, part_lev1, set_lev, field_rng, field_lo, field_hi, eql_lev, neq_lev, rem_lit, fold_min]
  rfl
theorem kids_holds (op : Int) : Holds Try.prog gl 49 [.d (.int .i64 op)] (.d (.int .i64 (kidsN op))) := by
  refine holds_of_body hm1 (enters_some (fn := Try.f49) (by kernel_rfl) (by kernel_rfl) (by kernel_rfl)) (h := h49) ?_; rw [body49]; intro hwf
  simp only [demote_d, dem_ptr, bindO_some', noRef_d, true_and, ifP_dec, ifP_true, ifP_false, eql_int, neq_int, lss_int, leq_int, gtr_int, geq_int, un_not, eql_bool, neq_bool, eql_set, neq_set, cells_ex, len_cEx, part_exAll, part_ex0, part_ex1, part_ex2, part_ex3, part_ex4, part_ex5, part_ex9, parts_nil, dI, List.map_cons, List.map_nil, vget, bget, List.getD_cons_zero, List.getD_cons_succ, Box.vals, Nat.le_refl, cells_case, len_case, part_case, part_case0, part_case7, part_case14, cells_ctx, len_ctx, part_ctx, part_ctx0, part_ctx1, part_ctx2, part_ctx3, part_ctx5, set_ctx, cells_lev, len_lev, part_lev, part_lev0, part_lev1, set_lev, field_rng, field_lo, field_hi, eql_lev, neq_lev]
  repeat' first | refine And.intro (fun h => ?_) (fun h => ?_)
  all_goals (simp only [kidsN]; simp_all)
theorem withinI_holds (a lim : Int) : Holds Try.prog gl 50 [.d (.int .i64 a), .d (.int .i64 lim)] (.d (.bool (insideF a lim))) := by
  refine holds_of_body hm1 (enters_some (fn := Try.f50) (by kernel_rfl) (by kernel_rfl) (by kernel_rfl)) (h := h50) ?_; rw [body50]; intro hwf
  simp only [demote_d, dem_ptr, bindO_some', noRef_d, true_and, ifP_dec, ifP_true, ifP_false, eql_int, neq_int, lss_int, leq_int, gtr_int, geq_int, un_not, eql_bool, neq_bool, eql_set, neq_set, cells_ex, len_cEx, part_exAll, part_ex0, part_ex1, part_ex2, part_ex3, part_ex4, part_ex5, part_ex9, parts_nil, dI, List.map_cons, List.map_nil, vget, bget, List.getD_cons_zero, List.getD_cons_succ, Box.vals, Nat.le_refl, cells_case, len_case, part_case, part_case0, part_case7, part_case14, cells_ctx, len_ctx, part_ctx, part_ctx0, part_ctx1, part_ctx2, part_ctx3, part_ctx5, set_ctx, cells_lev, len_lev, part_lev, part_lev0, part_lev1, set_lev, field_rng, field_lo, field_hi, eql_lev, neq_lev]
  repeat' first | refine And.intro (fun h => ?_) (fun h => ?_)
  all_goals (simp only [insideF]; first | (simp_all; done) | (simp_all; omega))
theorem zset_eq : [SV.d (.int .u64 0), .d (.int .u64 0), .d (.int .u64 0), .d (.int .u64 0)] = cSet zW := rfl
theorem fields_holds {e : Xp} {x : D} (hx : IsE e x) (s : Bool) : Holds Try.prog gl 48 [.d x, .d (.bool s)] (.d (.bool (fieldsF e s))) := by
  refine holds_of_body hm1 (enters_some (fn := Try.f48) (by kernel_rfl) (by kernel_rfl) (by kernel_rfl)) (h := h48) ?_; rw [body48]; intro hwf
  obtain ⟨nm, kd, L, rfl, hn, hl, hd, hk⟩ := hx.inv
  simp only [demote_d, dem_ptr, bindO_some', noRef_d, true_and, ifP_dec, ifP_true, ifP_false, eql_int, neq_int, lss_int, leq_int, gtr_int, geq_int, un_not, eql_bool, neq_bool, eql_set, neq_set, cells_ex, len_cEx, part_exAll, part_ex0, part_ex1, part_ex2, part_ex3, part_ex4, part_ex5, part_ex9, parts_nil, dI, List.map_cons, List.map_nil, vget, bget, List.getD_cons_zero, List.getD_cons_succ, Box.vals, Nat.le_refl, cells_case, len_case, part_case, part_case0, part_case7, part_case14, cells_ctx, len_ctx, part_ctx, part_ctx0, part_ctx1, part_ctx2, part_ctx3, part_ctx5, set_ctx, cells_lev, len_lev, part_lev, part_lev0, part_lev1, set_lev, field_rng, field_lo, field_hi, eql_lev, neq_lev, hn.len, hd.len, len_strs, hl, zset_eq, part_set]
  repeat' first | refine And.intro (fun h => ?_) (fun h => ?_) | (refine callP_of (kids_holds _) ?_; simp only [demote_d, dem_ptr, bindO_some', noRef_d, true_and, ifP_dec, ifP_true, ifP_false, eql_int, neq_int, lss_int, leq_int, gtr_int, geq_int, un_not, eql_bool, neq_bool, eql_set, neq_set, cells_ex, len_cEx, part_exAll, part_ex0, part_ex1, part_ex2, part_ex3, part_ex4, part_ex5, part_ex9, parts_nil, dI, List.map_cons, List.map_nil, vget, bget, List.getD_cons_zero, List.getD_cons_succ, Box.vals, Nat.le_refl, cells_case, len_case, part_case, part_case0, part_case7, part_case14, cells_ctx, len_ctx, part_ctx, part_ctx0, part_ctx1, part_ctx2, part_ctx3, part_ctx5, set_ctx, cells_lev, len_lev, part_lev, part_lev0, part_lev1, set_lev, field_rng, field_lo, field_hi, eql_lev, neq_lev])
  all_goals (simp only [fieldsF, lenN, lenK]; simp_all)
def nodeRF (e : Xp) (s v : Bool) : Int := nodeF e s (if v then 15 else 10)
theorem nodeR_holds {e : Xp} {x : D} (hx : IsE e x) (s v : Bool) : Holds Try.prog gl 27 [.d x, .d (.bool s), .d (.bool v)] (.d (.int .i64 (nodeRF e s v))) := by
  refine holds_of_body hm1 (enters_some (fn := Try.f27) (by kernel_rfl) (by kernel_rfl) (by kernel_rfl)) (h := h27) ?_; rw [body27]; intro hwf
  have hb := fun s => fields_holds hx s
  obtain ⟨nm, kd, L, rfl, hn, hl, hd, hk⟩ := hx.inv
  simp only [demote_d, dem_ptr, bindO_some', noRef_d, true_and, ifP_dec, ifP_true, ifP_false, eql_int, neq_int, lss_int, leq_int, gtr_int, geq_int, un_not, eql_bool, neq_bool, eql_set, neq_set, cells_ex, len_cEx, part_exAll, part_ex0, part_ex1, part_ex2, part_ex3, part_ex4, part_ex5, part_ex9, parts_nil, dI, List.map_cons, List.map_nil, vget, bget, List.getD_cons_zero, List.getD_cons_succ, Box.vals, Nat.le_refl, cells_case, len_case, part_case, part_case0, part_case7, part_case14, cells_ctx, len_ctx, part_ctx, part_ctx0, part_ctx1, part_ctx2, part_ctx3, part_ctx5, set_ctx, cells_lev, len_lev, part_lev, part_lev0, part_lev1, set_lev, field_rng, field_lo, field_hi, eql_lev, neq_lev]
  have hk8 : (e.op == 8 || e.op == 9) = true → (kidsN e.op > 0) = False := by
    intro h; simp only [Bool.or_eq_true, beq_iff_eq] at h; rcases h with h | h <;> simp [kidsN, h]
  have hk0 : formF e s = true → (e.op == 8 || e.op == 9) = false → (kidsN e.op > 0) = True := by
    intro h h'
    simp only [Bool.or_eq_false_iff, beq_eq_false_iff_ne] at h'
    unfold formF at h
    simp only [kidsN]
    by_cases h2 : e.op = 2
    · simp [h2]
    by_cases h3 : e.op = 3
    · simp [h3]
    by_cases h4 : e.op = 4
    · simp [h4]
    · simp [h2, h3, h4, h'] at h
  have hr : (!insideF e.rel 5) = (decide (e.rel < 0) || decide (e.rel > 4)) := by
    unfold insideF
    rw [Bool.eq_iff_iff]; simp; omega
  repeat' first | refine And.intro (fun h => ?_) (fun h => ?_) | (refine callP_of (hb _) ?_; rw [fields_form]; simp only [demote_d, dem_ptr, bindO_some', noRef_d, true_and, ifP_dec, ifP_true, ifP_false, eql_int, neq_int, lss_int, leq_int, gtr_int, geq_int, un_not, eql_bool, neq_bool, eql_set, neq_set, cells_ex, len_cEx, part_exAll, part_ex0, part_ex1, part_ex2, part_ex3, part_ex4, part_ex5, part_ex9, parts_nil, dI, List.map_cons, List.map_nil, vget, bget, List.getD_cons_zero, List.getD_cons_succ, Box.vals, Nat.le_refl, cells_case, len_case, part_case, part_case0, part_case7, part_case14, cells_ctx, len_ctx, part_ctx, part_ctx0, part_ctx1, part_ctx2, part_ctx3, part_ctx5, set_ctx, cells_lev, len_lev, part_lev, part_lev0, part_lev1, set_lev, field_rng, field_lo, field_hi, eql_lev, neq_lev]) | (refine callP_of (kids_holds _) ?_; simp only [demote_d, dem_ptr, bindO_some', noRef_d, true_and, ifP_dec, ifP_true, ifP_false, eql_int, neq_int, lss_int, leq_int, gtr_int, geq_int, un_not, eql_bool, neq_bool, eql_set, neq_set, cells_ex, len_cEx, part_exAll, part_ex0, part_ex1, part_ex2, part_ex3, part_ex4, part_ex5, part_ex9, parts_nil, dI, List.map_cons, List.map_nil, vget, bget, List.getD_cons_zero, List.getD_cons_succ, Box.vals, Nat.le_refl, cells_case, len_case, part_case, part_case0, part_case7, part_case14, cells_ctx, len_ctx, part_ctx, part_ctx0, part_ctx1, part_ctx2, part_ctx3, part_ctx5, set_ctx, cells_lev, len_lev, part_lev, part_lev0, part_lev1, set_lev, field_rng, field_lo, field_hi, eql_lev, neq_lev]) | (refine callP_of (withinI_holds _ _) ?_; simp only [demote_d, dem_ptr, bindO_some', noRef_d, true_and, ifP_dec, ifP_true, ifP_false, eql_int, neq_int, lss_int, leq_int, gtr_int, geq_int, un_not, eql_bool, neq_bool, eql_set, neq_set, cells_ex, len_cEx, part_exAll, part_ex0, part_ex1, part_ex2, part_ex3, part_ex4, part_ex5, part_ex9, parts_nil, dI, List.map_cons, List.map_nil, vget, bget, List.getD_cons_zero, List.getD_cons_succ, Box.vals, Nat.le_refl, cells_case, len_case, part_case, part_case0, part_case7, part_case14, cells_ctx, len_ctx, part_ctx, part_ctx0, part_ctx1, part_ctx2, part_ctx3, part_ctx5, set_ctx, cells_lev, len_lev, part_lev, part_lev0, part_lev1, set_lev, field_rng, field_lo, field_hi, eql_lev, neq_lev, hr]) | (refine callP_of (sortR_holds _) ?_; simp only [demote_d, dem_ptr, bindO_some', noRef_d, true_and, ifP_dec, ifP_true, ifP_false, eql_int, neq_int, lss_int, leq_int, gtr_int, geq_int, un_not, eql_bool, neq_bool, eql_set, neq_set, cells_ex, len_cEx, part_exAll, part_ex0, part_ex1, part_ex2, part_ex3, part_ex4, part_ex5, part_ex9, parts_nil, dI, List.map_cons, List.map_nil, vget, bget, List.getD_cons_zero, List.getD_cons_succ, Box.vals, Nat.le_refl, cells_case, len_case, part_case, part_case0, part_case7, part_case14, cells_ctx, len_ctx, part_ctx, part_ctx0, part_ctx1, part_ctx2, part_ctx3, part_ctx5, set_ctx, cells_lev, len_lev, part_lev, part_lev0, part_lev1, set_lev, field_rng, field_lo, field_hi, eql_lev, neq_lev])
  all_goals (simp only [nodeRF, nodeF, meaningF]; clear hb hwf hx hn hd hk; first | (simp_all; done) | (simp_all; grind) | grind)
end Go.Proofs.Ytcnnhnjcnekhcaa.Ab
/-
  CONSTRAINTS: what goes through all nodes.
-/
namespace Go.Proofs.Ytcnnhnjcnekhcaa.Ab
open Go
theorem set_ex (a0 a1 a2 a3 a4 a5 a6 a7 a8 a9 : SV) (op a rel b : Int) (nm : D) (w : Nat → BitVec 64) (kd : D) : setAt [a0, a1, a2, a3, a4, a5, a6, a7, a8, a9] 0 (cEx op a rel b nm w kd) = cEx op a rel b nm w kd := rfl
theorem IsE.load {k : Xp} {y : D} (h : IsE k y) : loadV true 10 (.dptr y 0) = some (.d y) := by
  obtain ⟨nm, kd, L, rfl, _⟩ := h.inv
  exact load_agg _ 10 rfl
theorem IsE.cells {k : Xp} {y : D} (h : IsE k y) : ∃ cs, cellsV (.d y) = some cs ∧ cs.length = 10 ∧ partV true 10 0 cs = some (.d y) ∧ ∀ a0 a1 a2 a3 a4 a5 a6 a7 a8 a9 : SV, setAt [a0, a1, a2, a3, a4, a5, a6, a7, a8, a9] 0 cs = cs := by
  obtain ⟨nm, kd, L, rfl, _⟩ := h.inv
  exact ⟨_, cells_ex _ _ _ _ _ _ _, rfl, rfl, fun a0 a1 a2 a3 a4 a5 a6 a7 a8 a9 => set_ex a0 a1 a2 a3 a4 a5 a6 a7 a8 a9 _ _ _ _ _ _ _⟩
theorem sub_int1 {n : Int} (h1 : -1000000 < n) (h2 : n < 1000000) : binV none .sub (.d (.int .i64 n)) (.d (.int .i64 1)) = some (.d (.int .i64 (n - 1))) := by
  have h3 : IntKind.i64.wrap (n - 1) = n - 1 := wrap_i64 (by omega) (by omega)
  simp only [binV, binD, intBop, h3, ↓reduceIte]
theorem lvs_take : ∀ {l : List Xp} {i : Nat} {k : Xp}, l[i]? = some k → Xp.lv.lvs (l.take (i + 1)) = max (Xp.lv.lvs (l.take i)) k.lv
  | [], i, k, h => by simp at h
  | x :: l, 0, k, h => by simp at h; subst h; simp [Xp.lv.lvs]
  | x :: l, i + 1, k, h => by
    rw [List.take_succ_cons, Xp.lv.lvs, lvs_take (l := l) (by simpa using h), List.take_succ_cons, Xp.lv.lvs]
    omega
theorem maxD_nat (a b : Nat) : maxD (a : Int) (b : Int) = ((max a b : Nat) : Int) := by
  unfold maxD
  split <;> omega
theorem levels_holds : ∀ (n : Nat) (e : Xp) (x : D), e.lv ≤ n → n ≤ 1000 → IsE e x → Holds Try.prog gl 23 [.d x] (.d (.int .i64 (e.lv : Int)))
  | 0, e, x, hn, _, _ => absurd hn (by have := lv_pos e; omega)
  | n + 1, e, x, hn, hm, hx => by
    refine holds_of_body hm1 (enters_some (fn := Try.f23) (by kernel_rfl) (by kernel_rfl) (by kernel_rfl)) (h := h23) ?_; rw [body23]; intro hwf
    have hlv := e.lv_eq
    obtain ⟨nm, kd, L, rfl, hnm, hl, hd, hk⟩ := hx.inv
    simp only [demote_d, dem_ptr, bindO_some', noRef_d, true_and, ifP_dec, ifP_true, ifP_false, eql_int, neq_int, lss_int, leq_int, gtr_int, geq_int, un_not, eql_bool, neq_bool, eql_set, neq_set, cells_ex, len_cEx, part_exAll, part_ex0, part_ex1, part_ex2, part_ex3, part_ex4, part_ex5, part_ex9, parts_nil, dI, List.map_cons, List.map_nil, vget, bget, List.getD_cons_zero, List.getD_cons_succ, Box.vals, Nat.le_refl, cells_case, len_case, part_case, part_case0, part_case7, part_case14, cells_ctx, len_ctx, part_ctx, part_ctx0, part_ctx1, part_ctx2, part_ctx3, part_ctx5, set_ctx, cells_lev, len_lev, part_lev, part_lev0, part_lev1, set_lev, field_rng, field_lo, field_hi, eql_lev, neq_lev, hd.len]
    refine loopP_count (fun i => [.d (.int .i64 ((Xp.lv.lvs (e.kids.take i) : Nat) : Int)), .d kd, .d (.int .i64 (L.length : Int)), .d (.int .i64 ((i : Nat) : Int))]) (fun i => [cEx e.op e.a e.rel e.b nm e.w kd]) L.length (fun i hi I hI => ?_) (fun I => ?_)
    · simp only [demote_d, dem_ptr, bindO_some', noRef_d, true_and, ifP_dec, ifP_true, ifP_false, eql_int, neq_int, lss_int, leq_int, gtr_int, geq_int, un_not, eql_bool, neq_bool, eql_set, neq_set, cells_ex, len_cEx, part_exAll, part_ex0, part_ex1, part_ex2, part_ex3, part_ex4, part_ex5, part_ex9, parts_nil, dI, List.map_cons, List.map_nil, vget, bget, List.getD_cons_zero, List.getD_cons_succ, Box.vals, Nat.le_refl, cells_case, len_case, part_case, part_case0, part_case7, part_case14, cells_ctx, len_ctx, part_ctx, part_ctx0, part_ctx1, part_ctx2, part_ctx3, part_ctx5, set_ctx, cells_lev, len_lev, part_lev, part_lev0, part_lev1, set_lev, field_rng, field_lo, field_hi, eql_lev, neq_lev]
      refine And.intro (fun _ => ?_) (fun h => absurd h (by simp; omega))
      obtain ⟨y, hy⟩ := get_some hi
      obtain ⟨k, hky⟩ := get_some (show i < e.kids.length by omega)
      have hek := hk i k y hky hy
      have hlt := Xp.kid_lt hky
      obtain ⟨cs, c1, c2, c3, c4⟩ := hek.cells
      have hcap : L.length ≤ maxLen := by
        have := (SV.WfL_iff _).1 hwf (.d (.agg (fEx e.op e.a e.rel e.b nm e.w kd))) (by simp)
        simp only [SV.Wf, D.Wf, fEx, D.WfL] at this
        have h9 := this.2.2.2.2.2.2.2.2.2.1
        cases hd with
        | nil s h => subst h; simp
        | ro => exact h9.1
      rw [hd.at hy]
      simp only [demote_d, dem_ptr, bindO_some', noRef_d, true_and, ifP_dec, ifP_true, ifP_false, eql_int, neq_int, lss_int, leq_int, gtr_int, geq_int, un_not, eql_bool, neq_bool, eql_set, neq_set, cells_ex, len_cEx, part_exAll, part_ex0, part_ex1, part_ex2, part_ex3, part_ex4, part_ex5, part_ex9, parts_nil, dI, List.map_cons, List.map_nil, vget, bget, List.getD_cons_zero, List.getD_cons_succ, Box.vals, Nat.le_refl, cells_case, len_case, part_case, part_case0, part_case7, part_case14, cells_ctx, len_ctx, part_ctx, part_ctx0, part_ctx1, part_ctx2, part_ctx3, part_ctx5, set_ctx, cells_lev, len_lev, part_lev, part_lev0, part_lev1, set_lev, field_rng, field_lo, field_hi, eql_lev, neq_lev, hek.load, c1, c2, c3, c4]
      refine callP_of (levels_holds n k y (by omega) (by omega) hek) ?_
      simp only [demote_d, dem_ptr, bindO_some', noRef_d, true_and, ifP_dec, ifP_true, ifP_false, eql_int, neq_int, lss_int, leq_int, gtr_int, geq_int, un_not, eql_bool, neq_bool, eql_set, neq_set, cells_ex, len_cEx, part_exAll, part_ex0, part_ex1, part_ex2, part_ex3, part_ex4, part_ex5, part_ex9, parts_nil, dI, List.map_cons, List.map_nil, vget, bget, List.getD_cons_zero, List.getD_cons_succ, Box.vals, Nat.le_refl, cells_case, len_case, part_case, part_case0, part_case7, part_case14, cells_ctx, len_ctx, part_ctx, part_ctx0, part_ctx1, part_ctx2, part_ctx3, part_ctx5, set_ctx, cells_lev, len_lev, part_lev, part_lev0, part_lev1, set_lev, field_rng, field_lo, field_hi, eql_lev, neq_lev, fold_max, maxD_nat]
      refine bindO_to (add_up hi hcap) ?_
      rw [lvs_take hky] at hI
      exact hI
    · simp only [demote_d, dem_ptr, bindO_some', noRef_d, true_and, ifP_dec, ifP_true, ifP_false, eql_int, neq_int, lss_int, leq_int, gtr_int, geq_int, un_not, eql_bool, neq_bool, eql_set, neq_set, cells_ex, len_cEx, part_exAll, part_ex0, part_ex1, part_ex2, part_ex3, part_ex4, part_ex5, part_ex9, parts_nil, dI, List.map_cons, List.map_nil, vget, bget, List.getD_cons_zero, List.getD_cons_succ, Box.vals, Nat.le_refl, cells_case, len_case, part_case, part_case0, part_case7, part_case14, cells_ctx, len_ctx, part_ctx, part_ctx0, part_ctx1, part_ctx2, part_ctx3, part_ctx5, set_ctx, cells_lev, len_lev, part_lev, part_lev0, part_lev1, set_lev, field_rng, field_lo, field_hi, eql_lev, neq_lev]
      refine And.intro (fun h => absurd h (by simp)) (fun _ => ?_)
      rw [hl, List.take_length]
      refine bindO_to (add_one (by omega)) ?_
      simp only [demote_d, dem_ptr, bindO_some', noRef_d, true_and, ifP_dec, ifP_true, ifP_false, eql_int, neq_int, lss_int, leq_int, gtr_int, geq_int, un_not, eql_bool, neq_bool, eql_set, neq_set, cells_ex, len_cEx, part_exAll, part_ex0, part_ex1, part_ex2, part_ex3, part_ex4, part_ex5, part_ex9, parts_nil, dI, List.map_cons, List.map_nil, vget, bget, List.getD_cons_zero, List.getD_cons_succ, Box.vals, Nat.le_refl, cells_case, len_case, part_case, part_case0, part_case7, part_case14, cells_ctx, len_ctx, part_ctx, part_ctx0, part_ctx1, part_ctx2, part_ctx3, part_ctx5, set_ctx, cells_lev, len_lev, part_lev, part_lev0, part_lev1, set_lev, field_rng, field_lo, field_hi, eql_lev, neq_lev, hlv]
end Go.Proofs.Ytcnnhnjcnekhcaa.Ab
/-
  CONSTRAINTS: the first error; well-formed, small.
-/
namespace Go.Proofs.Ytcnnhnjcnekhcaa.Ab
open Go
theorem ex_cap {op a rel b : Int} {nm kd : D} {w : Nat → BitVec 64} {rest : List SV} {L : List D} (hwf : SV.WfL (.d (.agg (fEx op a rel b nm w kd)) :: rest)) (hd : IsD 10 L kd) : L.length ≤ maxLen := by
  have := (SV.WfL_iff _).1 hwf (.d (.agg (fEx op a rel b nm w kd))) (by simp)
  simp only [SV.Wf, D.Wf, fEx, D.WfL] at this
  have h9 := this.2.2.2.2.2.2.2.2.2.1
  cases hd with
  | nil s h => subst h; simp
  | ro => exact h9.1
theorem withFn_fn (f : FuncId) (args : List SV) (k : FuncId → List SV → Prop) : withFn (.d (.fn (.func f))) args k = k f args := rfl
theorem withFn_clo (f : FuncId) (cap args : List SV) (k : FuncId → List SV → Prop) : withFn (.clo (.func f) [] cap) args k = k f (args ++ cap) := rfl
/-- what is called examines a node -/
def Exam (g : SV) (F : Xp → Int) (m : Nat) : Prop := demote g = g ∧ ∀ (k : Xp) (y : D), k.lv ≤ m → IsE k y → ∀ K : SV → Prop, K (.d (.int .i64 (F k))) → withFn g [.d y] fun f l => callP (Holds Try.prog gl) f l K
theorem first_holds {g : SV} {F : Xp → Int} : ∀ (n : Nat) (e : Xp) (x : D), e.lv ≤ n → IsE e x → Exam g F n → Holds Try.prog gl 24 [.d x, g] (.d (.int .i64 (firstF F e)))
  | 0, e, x, hn, _, _ => absurd hn (by have := lv_pos e; omega)
  | n + 1, e, x, hn, hx, hg => by
    refine holds_of_body hm1 (enters_some (fn := Try.f24) (by kernel_rfl) (by kernel_rfl) (by kernel_rfl)) (h := h24) ?_; rw [body24]; intro hwf
    have hex := hg.2 e x hn hx
    have hg1 := hg.1
    obtain ⟨nm, kd, L, rfl, hnm, hl, hd, hk⟩ := hx.inv
    have hcap := ex_cap hwf hd
    simp only [demote_d, dem_ptr, bindO_some', noRef_d, true_and, ifP_dec, ifP_true, ifP_false, eql_int, neq_int, lss_int, leq_int, gtr_int, geq_int, un_not, eql_bool, neq_bool, eql_set, neq_set, cells_ex, len_cEx, part_exAll, part_ex0, part_ex1, part_ex2, part_ex3, part_ex4, part_ex5, part_ex9, parts_nil, dI, List.map_cons, List.map_nil, vget, bget, List.getD_cons_zero, List.getD_cons_succ, Box.vals, Nat.le_refl, cells_case, len_case, part_case, part_case0, part_case7, part_case14, cells_ctx, len_ctx, part_ctx, part_ctx0, part_ctx1, part_ctx2, part_ctx3, part_ctx5, set_ctx, cells_lev, len_lev, part_lev, part_lev0, part_lev1, set_lev, field_rng, field_lo, field_hi, eql_lev, neq_lev, hg1]
    refine hex _ ?_
    simp only [demote_d, dem_ptr, bindO_some', noRef_d, true_and, ifP_dec, ifP_true, ifP_false, eql_int, neq_int, lss_int, leq_int, gtr_int, geq_int, un_not, eql_bool, neq_bool, eql_set, neq_set, cells_ex, len_cEx, part_exAll, part_ex0, part_ex1, part_ex2, part_ex3, part_ex4, part_ex5, part_ex9, parts_nil, dI, List.map_cons, List.map_nil, vget, bget, List.getD_cons_zero, List.getD_cons_succ, Box.vals, Nat.le_refl, cells_case, len_case, part_case, part_case0, part_case7, part_case14, cells_ctx, len_ctx, part_ctx, part_ctx0, part_ctx1, part_ctx2, part_ctx3, part_ctx5, set_ctx, cells_lev, len_lev, part_lev, part_lev0, part_lev1, set_lev, field_rng, field_lo, field_hi, eql_lev, neq_lev]
    refine And.intro (fun h => ?_) (fun h => ?_)
    · rw [firstF_eq, if_pos (by simpa using h)]
    · have h0 : firstF F e = firstF.go F e.kids := by rw [firstF_eq, if_neg (by simpa using h)]
      rw [h0]
      simp only [hd.len, demote_d, dem_ptr, bindO_some', noRef_d, true_and, ifP_dec, ifP_true, ifP_false, eql_int, neq_int, lss_int, leq_int, gtr_int, geq_int, un_not, eql_bool, neq_bool, eql_set, neq_set, cells_ex, len_cEx, part_exAll, part_ex0, part_ex1, part_ex2, part_ex3, part_ex4, part_ex5, part_ex9, parts_nil, dI, List.map_cons, List.map_nil, vget, bget, List.getD_cons_zero, List.getD_cons_succ, Box.vals, Nat.le_refl, cells_case, len_case, part_case, part_case0, part_case7, part_case14, cells_ctx, len_ctx, part_ctx, part_ctx0, part_ctx1, part_ctx2, part_ctx3, part_ctx5, set_ctx, cells_lev, len_lev, part_lev, part_lev0, part_lev1, set_lev, field_rng, field_lo, field_hi, eql_lev, neq_lev]
      refine loopP_inv (fun i => firstF.go F (e.kids.take i) = 0) (fun i => [g, .d kd, .d (.int .i64 (L.length : Int)), .d (.int .i64 ((i : Nat) : Int))]) (fun i => [cEx e.op e.a e.rel e.b nm e.w kd]) L.length rfl (fun i hi hJ I hI => ?_) (fun hJ I => ?_)
      · simp only [demote_d, dem_ptr, bindO_some', noRef_d, true_and, ifP_dec, ifP_true, ifP_false, eql_int, neq_int, lss_int, leq_int, gtr_int, geq_int, un_not, eql_bool, neq_bool, eql_set, neq_set, cells_ex, len_cEx, part_exAll, part_ex0, part_ex1, part_ex2, part_ex3, part_ex4, part_ex5, part_ex9, parts_nil, dI, List.map_cons, List.map_nil, vget, bget, List.getD_cons_zero, List.getD_cons_succ, Box.vals, Nat.le_refl, cells_case, len_case, part_case, part_case0, part_case7, part_case14, cells_ctx, len_ctx, part_ctx, part_ctx0, part_ctx1, part_ctx2, part_ctx3, part_ctx5, set_ctx, cells_lev, len_lev, part_lev, part_lev0, part_lev1, set_lev, field_rng, field_lo, field_hi, eql_lev, neq_lev, hg1]
        refine And.intro (fun _ => ?_) (fun h => absurd h (by simp; omega))
        obtain ⟨y, hy⟩ := get_some hi
        obtain ⟨k, hky⟩ := get_some (show i < e.kids.length by omega)
        have hek := hk i k y hky hy
        have hlt := Xp.kid_lt hky
        obtain ⟨cs, c1, c2, c3, c4⟩ := hek.cells
        rw [hd.at hy]
        simp only [demote_d, dem_ptr, bindO_some', noRef_d, true_and, ifP_dec, ifP_true, ifP_false, eql_int, neq_int, lss_int, leq_int, gtr_int, geq_int, un_not, eql_bool, neq_bool, eql_set, neq_set, cells_ex, len_cEx, part_exAll, part_ex0, part_ex1, part_ex2, part_ex3, part_ex4, part_ex5, part_ex9, parts_nil, dI, List.map_cons, List.map_nil, vget, bget, List.getD_cons_zero, List.getD_cons_succ, Box.vals, Nat.le_refl, cells_case, len_case, part_case, part_case0, part_case7, part_case14, cells_ctx, len_ctx, part_ctx, part_ctx0, part_ctx1, part_ctx2, part_ctx3, part_ctx5, set_ctx, cells_lev, len_lev, part_lev, part_lev0, part_lev1, set_lev, field_rng, field_lo, field_hi, eql_lev, neq_lev, hek.load, c1, c2, c3, c4]
        refine callP_of (first_holds n k y (by omega) hek ⟨hg1, fun k y hk => hg.2 k y (by omega)⟩) ?_
        simp only [demote_d, dem_ptr, bindO_some', noRef_d, true_and, ifP_dec, ifP_true, ifP_false, eql_int, neq_int, lss_int, leq_int, gtr_int, geq_int, un_not, eql_bool, neq_bool, eql_set, neq_set, cells_ex, len_cEx, part_exAll, part_ex0, part_ex1, part_ex2, part_ex3, part_ex4, part_ex5, part_ex9, parts_nil, dI, List.map_cons, List.map_nil, vget, bget, List.getD_cons_zero, List.getD_cons_succ, Box.vals, Nat.le_refl, cells_case, len_case, part_case, part_case0, part_case7, part_case14, cells_ctx, len_ctx, part_ctx, part_ctx0, part_ctx1, part_ctx2, part_ctx3, part_ctx5, set_ctx, cells_lev, len_lev, part_lev, part_lev0, part_lev1, set_lev, field_rng, field_lo, field_hi, eql_lev, neq_lev]
        have ht := firsts_take hky hJ
        refine And.intro (fun h' => ?_) (fun h' => ?_)
        · have h1 : firstF F k ≠ 0 := by simpa using h'
          rw [firsts_ne (i := i + 1) (by rw [ht]; exact h1), ht]
        · have h1 : firstF F k = 0 := by simpa using h'
          refine bindO_to (add_up hi hcap) ?_
          exact hI (by rw [ht, h1])
      · simp only [demote_d, dem_ptr, bindO_some', noRef_d, true_and, ifP_dec, ifP_true, ifP_false, eql_int, neq_int, lss_int, leq_int, gtr_int, geq_int, un_not, eql_bool, neq_bool, eql_set, neq_set, cells_ex, len_cEx, part_exAll, part_ex0, part_ex1, part_ex2, part_ex3, part_ex4, part_ex5, part_ex9, parts_nil, dI, List.map_cons, List.map_nil, vget, bget, List.getD_cons_zero, List.getD_cons_succ, Box.vals, Nat.le_refl, cells_case, len_case, part_case, part_case0, part_case7, part_case14, cells_ctx, len_ctx, part_ctx, part_ctx0, part_ctx1, part_ctx2, part_ctx3, part_ctx5, set_ctx, cells_lev, len_lev, part_lev, part_lev0, part_lev1, set_lev, field_rng, field_lo, field_hi, eql_lev, neq_lev]
        refine And.intro (fun h => absurd h (by simp)) (fun _ => ?_)
        rw [hl, List.take_length] at hJ
        rw [hJ]
theorem wellFormed_holds : ∀ (n : Nat) (e : Xp) (x : D) (lev : Int), e.lv ≤ n → IsE e x → lev ≤ 1000 → Holds Try.prog gl 10 [.d x, .d (.int .i64 lev)] (.d (.bool (allX (fun e => nodeRF e false true == 0) e lev)))
  | 0, e, x, _, hn, _, _ => absurd hn (by have := lv_pos e; omega)
  | n + 1, e, x, lev, hn, hx, hlev => by
    refine holds_of_body hm1 (enters_some (fn := Try.f10) (by kernel_rfl) (by kernel_rfl) (by kernel_rfl)) (h := h10) ?_; rw [body10]; intro hwf
    have hnode := nodeR_holds hx false true
    rw [allX_eq]
    obtain ⟨nm, kd, L, rfl, hnm, hl, hd, hk⟩ := hx.inv
    have hcap := ex_cap hwf hd
    simp only [demote_d, dem_ptr, bindO_some', noRef_d, true_and, ifP_dec, ifP_true, ifP_false, eql_int, neq_int, lss_int, leq_int, gtr_int, geq_int, un_not, eql_bool, neq_bool, eql_set, neq_set, cells_ex, len_cEx, part_exAll, part_ex0, part_ex1, part_ex2, part_ex3, part_ex4, part_ex5, part_ex9, parts_nil, dI, List.map_cons, List.map_nil, vget, bget, List.getD_cons_zero, List.getD_cons_succ, Box.vals, Nat.le_refl, cells_case, len_case, part_case, part_case0, part_case7, part_case14, cells_ctx, len_ctx, part_ctx, part_ctx0, part_ctx1, part_ctx2, part_ctx3, part_ctx5, set_ctx, cells_lev, len_lev, part_lev, part_lev0, part_lev1, set_lev, field_rng, field_lo, field_hi, eql_lev, neq_lev]
    refine And.intro (fun h => ?_) (fun h0 => ?_)
    · rw [h]; rfl
    rw [h0, Bool.not_false, Bool.true_and]
    refine callP_of hnode ?_
    simp only [demote_d, dem_ptr, bindO_some', noRef_d, true_and, ifP_dec, ifP_true, ifP_false, eql_int, neq_int, lss_int, leq_int, gtr_int, geq_int, un_not, eql_bool, neq_bool, eql_set, neq_set, cells_ex, len_cEx, part_exAll, part_ex0, part_ex1, part_ex2, part_ex3, part_ex4, part_ex5, part_ex9, parts_nil, dI, List.map_cons, List.map_nil, vget, bget, List.getD_cons_zero, List.getD_cons_succ, Box.vals, Nat.le_refl, cells_case, len_case, part_case, part_case0, part_case7, part_case14, cells_ctx, len_ctx, part_ctx, part_ctx0, part_ctx1, part_ctx2, part_ctx3, part_ctx5, set_ctx, cells_lev, len_lev, part_lev, part_lev0, part_lev1, set_lev, field_rng, field_lo, field_hi, eql_lev, neq_lev]
    refine And.intro (fun h => ?_) (fun h => ?_)
    · rw [bne, Bool.not_eq_true'] at h; rw [h]; rfl
    rw [bne, Bool.not_eq_false'] at h
    rw [h, Bool.true_and]
    have hlev0 : ¬ lev ≤ 0 := of_decide_eq_false h0
    refine loopP_inv (fun i => ∀ (j : Nat) k, j < i → e.kids[j]? = some k → allX (fun e => nodeRF e false true == 0) k (lev - 1) = true) (fun i => [.d (.int .i64 lev), .d (.int .i64 ((i : Nat) : Int))]) (fun i => [cEx e.op e.a e.rel e.b nm e.w kd]) L.length (fun j k hj _ => by omega) (fun i hi hJ I hI => ?_) (fun hJ I => ?_)
    · simp only [demote_d, dem_ptr, bindO_some', noRef_d, true_and, ifP_dec, ifP_true, ifP_false, eql_int, neq_int, lss_int, leq_int, gtr_int, geq_int, un_not, eql_bool, neq_bool, eql_set, neq_set, cells_ex, len_cEx, part_exAll, part_ex0, part_ex1, part_ex2, part_ex3, part_ex4, part_ex5, part_ex9, parts_nil, dI, List.map_cons, List.map_nil, vget, bget, List.getD_cons_zero, List.getD_cons_succ, Box.vals, Nat.le_refl, cells_case, len_case, part_case, part_case0, part_case7, part_case14, cells_ctx, len_ctx, part_ctx, part_ctx0, part_ctx1, part_ctx2, part_ctx3, part_ctx5, set_ctx, cells_lev, len_lev, part_lev, part_lev0, part_lev1, set_lev, field_rng, field_lo, field_hi, eql_lev, neq_lev, hd.len]
      refine And.intro (fun _ => ?_) (fun h => absurd h (by simp; omega))
      obtain ⟨y, hy⟩ := get_some hi
      obtain ⟨k, hky⟩ := get_some (show i < e.kids.length by omega)
      have hek := hk i k y hky hy
      have hlt := Xp.kid_lt hky
      rw [hd.at hy]
      simp only [demote_d, dem_ptr, bindO_some', noRef_d, true_and, ifP_dec, ifP_true, ifP_false, eql_int, neq_int, lss_int, leq_int, gtr_int, geq_int, un_not, eql_bool, neq_bool, eql_set, neq_set, cells_ex, len_cEx, part_exAll, part_ex0, part_ex1, part_ex2, part_ex3, part_ex4, part_ex5, part_ex9, parts_nil, dI, List.map_cons, List.map_nil, vget, bget, List.getD_cons_zero, List.getD_cons_succ, Box.vals, Nat.le_refl, cells_case, len_case, part_case, part_case0, part_case7, part_case14, cells_ctx, len_ctx, part_ctx, part_ctx0, part_ctx1, part_ctx2, part_ctx3, part_ctx5, set_ctx, cells_lev, len_lev, part_lev, part_lev0, part_lev1, set_lev, field_rng, field_lo, field_hi, eql_lev, neq_lev, hek.load]
      rw [sub_int1 (by omega) (by omega)]
      simp only [demote_d, dem_ptr, bindO_some', noRef_d, true_and, ifP_dec, ifP_true, ifP_false, eql_int, neq_int, lss_int, leq_int, gtr_int, geq_int, un_not, eql_bool, neq_bool, eql_set, neq_set, cells_ex, len_cEx, part_exAll, part_ex0, part_ex1, part_ex2, part_ex3, part_ex4, part_ex5, part_ex9, parts_nil, dI, List.map_cons, List.map_nil, vget, bget, List.getD_cons_zero, List.getD_cons_succ, Box.vals, Nat.le_refl, cells_case, len_case, part_case, part_case0, part_case7, part_case14, cells_ctx, len_ctx, part_ctx, part_ctx0, part_ctx1, part_ctx2, part_ctx3, part_ctx5, set_ctx, cells_lev, len_lev, part_lev, part_lev0, part_lev1, set_lev, field_rng, field_lo, field_hi, eql_lev, neq_lev]
      refine callP_of (wellFormed_holds n k y (lev - 1) (by omega) hek (by omega)) ?_
      simp only [demote_d, dem_ptr, bindO_some', noRef_d, true_and, ifP_dec, ifP_true, ifP_false, eql_int, neq_int, lss_int, leq_int, gtr_int, geq_int, un_not, eql_bool, neq_bool, eql_set, neq_set, cells_ex, len_cEx, part_exAll, part_ex0, part_ex1, part_ex2, part_ex3, part_ex4, part_ex5, part_ex9, parts_nil, dI, List.map_cons, List.map_nil, vget, bget, List.getD_cons_zero, List.getD_cons_succ, Box.vals, Nat.le_refl, cells_case, len_case, part_case, part_case0, part_case7, part_case14, cells_ctx, len_ctx, part_ctx, part_ctx0, part_ctx1, part_ctx2, part_ctx3, part_ctx5, set_ctx, cells_lev, len_lev, part_lev, part_lev0, part_lev1, set_lev, field_rng, field_lo, field_hi, eql_lev, neq_lev]
      refine And.intro (fun h' => ?_) (fun h' => ?_)
      · have h1 : allX (fun e => nodeRF e false true == 0) k (lev - 1) = false := by simpa using h'
        rw [alls_not hky h1]
      · have h1 : allX (fun e => nodeRF e false true == 0) k (lev - 1) = true := by simpa using h'
        refine bindO_to (add_up hi hcap) ?_
        refine hI fun j k' hj hk' => ?_
        rcases Nat.lt_or_ge j i with h2 | h2
        · exact hJ j k' h2 hk'
        · have : j = i := by omega
          subst this
          rw [hky] at hk'
          cases hk'
          exact h1
    · simp only [demote_d, dem_ptr, bindO_some', noRef_d, true_and, ifP_dec, ifP_true, ifP_false, eql_int, neq_int, lss_int, leq_int, gtr_int, geq_int, un_not, eql_bool, neq_bool, eql_set, neq_set, cells_ex, len_cEx, part_exAll, part_ex0, part_ex1, part_ex2, part_ex3, part_ex4, part_ex5, part_ex9, parts_nil, dI, List.map_cons, List.map_nil, vget, bget, List.getD_cons_zero, List.getD_cons_succ, Box.vals, Nat.le_refl, cells_case, len_case, part_case, part_case0, part_case7, part_case14, cells_ctx, len_ctx, part_ctx, part_ctx0, part_ctx1, part_ctx2, part_ctx3, part_ctx5, set_ctx, cells_lev, len_lev, part_lev, part_lev0, part_lev1, set_lev, field_rng, field_lo, field_hi, eql_lev, neq_lev, hd.len]
      refine And.intro (fun h => absurd h (by simp)) (fun _ => ?_)
      rw [alls_all (fun i k hk' => hJ i k (by have := (List.getElem?_eq_some_iff.1 hk').1; omega) hk')]
def smallN (e : Xp) : Bool := !decide (lenK e > 3) && !decide (lenN e > 20)
theorem small_holds : ∀ (n : Nat) (e : Xp) (x : D) (lev : Int), e.lv ≤ n → IsE e x → lev ≤ 1000 → Holds Try.prog gl 6 [.d x, .d (.int .i64 lev)] (.d (.bool (allX smallN e lev)))
  | 0, e, x, _, hn, _, _ => absurd hn (by have := lv_pos e; omega)
  | n + 1, e, x, lev, hn, hx, hlev => by
    refine holds_of_body hm1 (enters_some (fn := Try.f6) (by kernel_rfl) (by kernel_rfl) (by kernel_rfl)) (h := h6) ?_; rw [body6]; intro hwf
    rw [allX_eq]
    obtain ⟨nm, kd, L, rfl, hnm, hl, hd, hk⟩ := hx.inv
    have hcap := ex_cap hwf hd
    simp only [demote_d, dem_ptr, bindO_some', noRef_d, true_and, ifP_dec, ifP_true, ifP_false, eql_int, neq_int, lss_int, leq_int, gtr_int, geq_int, un_not, eql_bool, neq_bool, eql_set, neq_set, cells_ex, len_cEx, part_exAll, part_ex0, part_ex1, part_ex2, part_ex3, part_ex4, part_ex5, part_ex9, parts_nil, dI, List.map_cons, List.map_nil, vget, bget, List.getD_cons_zero, List.getD_cons_succ, Box.vals, Nat.le_refl, cells_case, len_case, part_case, part_case0, part_case7, part_case14, cells_ctx, len_ctx, part_ctx, part_ctx0, part_ctx1, part_ctx2, part_ctx3, part_ctx5, set_ctx, cells_lev, len_lev, part_lev, part_lev0, part_lev1, set_lev, field_rng, field_lo, field_hi, eql_lev, neq_lev, hd.len, hnm.len, len_strs]
    refine And.intro (fun h => ?_) (fun h0 => ?_)
    · rw [h]; rfl
    rw [h0, Bool.not_false, Bool.true_and]
    have e1 : lenK e = (L.length : Int) := by rw [hl]; rfl
    refine And.intro (fun h => ?_) (fun h1 => ?_)
    · rw [smallN, e1, h]; rfl
    refine And.intro (fun h => ?_) (fun h2 => ?_)
    · rw [smallN, e1, h1, lenN, h]; rfl
    rw [smallN, e1, h1, lenN, h2, Bool.not_false, Bool.true_and, Bool.true_and]
    have hlev0 : ¬ lev ≤ 0 := of_decide_eq_false h0
    refine loopP_inv (fun i => ∀ (j : Nat) k, j < i → e.kids[j]? = some k → allX smallN k (lev - 1) = true) (fun i => [.d (.int .i64 lev), .d (.int .i64 ((i : Nat) : Int))]) (fun i => [cEx e.op e.a e.rel e.b nm e.w kd]) L.length (fun j k hj _ => by omega) (fun i hi hJ I hI => ?_) (fun hJ I => ?_)
    · simp only [demote_d, dem_ptr, bindO_some', noRef_d, true_and, ifP_dec, ifP_true, ifP_false, eql_int, neq_int, lss_int, leq_int, gtr_int, geq_int, un_not, eql_bool, neq_bool, eql_set, neq_set, cells_ex, len_cEx, part_exAll, part_ex0, part_ex1, part_ex2, part_ex3, part_ex4, part_ex5, part_ex9, parts_nil, dI, List.map_cons, List.map_nil, vget, bget, List.getD_cons_zero, List.getD_cons_succ, Box.vals, Nat.le_refl, cells_case, len_case, part_case, part_case0, part_case7, part_case14, cells_ctx, len_ctx, part_ctx, part_ctx0, part_ctx1, part_ctx2, part_ctx3, part_ctx5, set_ctx, cells_lev, len_lev, part_lev, part_lev0, part_lev1, set_lev, field_rng, field_lo, field_hi, eql_lev, neq_lev, hd.len]
      refine And.intro (fun _ => ?_) (fun h => absurd h (by simp; omega))
      obtain ⟨y, hy⟩ := get_some hi
      obtain ⟨k, hky⟩ := get_some (show i < e.kids.length by omega)
      have hek := hk i k y hky hy
      have hlt := Xp.kid_lt hky
      rw [hd.at hy]
      simp only [demote_d, dem_ptr, bindO_some', noRef_d, true_and, ifP_dec, ifP_true, ifP_false, eql_int, neq_int, lss_int, leq_int, gtr_int, geq_int, un_not, eql_bool, neq_bool, eql_set, neq_set, cells_ex, len_cEx, part_exAll, part_ex0, part_ex1, part_ex2, part_ex3, part_ex4, part_ex5, part_ex9, parts_nil, dI, List.map_cons, List.map_nil, vget, bget, List.getD_cons_zero, List.getD_cons_succ, Box.vals, Nat.le_refl, cells_case, len_case, part_case, part_case0, part_case7, part_case14, cells_ctx, len_ctx, part_ctx, part_ctx0, part_ctx1, part_ctx2, part_ctx3, part_ctx5, set_ctx, cells_lev, len_lev, part_lev, part_lev0, part_lev1, set_lev, field_rng, field_lo, field_hi, eql_lev, neq_lev, hek.load]
      rw [sub_int1 (by omega) (by omega)]
      simp only [demote_d, dem_ptr, bindO_some', noRef_d, true_and, ifP_dec, ifP_true, ifP_false, eql_int, neq_int, lss_int, leq_int, gtr_int, geq_int, un_not, eql_bool, neq_bool, eql_set, neq_set, cells_ex, len_cEx, part_exAll, part_ex0, part_ex1, part_ex2, part_ex3, part_ex4, part_ex5, part_ex9, parts_nil, dI, List.map_cons, List.map_nil, vget, bget, List.getD_cons_zero, List.getD_cons_succ, Box.vals, Nat.le_refl, cells_case, len_case, part_case, part_case0, part_case7, part_case14, cells_ctx, len_ctx, part_ctx, part_ctx0, part_ctx1, part_ctx2, part_ctx3, part_ctx5, set_ctx, cells_lev, len_lev, part_lev, part_lev0, part_lev1, set_lev, field_rng, field_lo, field_hi, eql_lev, neq_lev]
      refine callP_of (small_holds n k y (lev - 1) (by omega) hek (by omega)) ?_
      simp only [demote_d, dem_ptr, bindO_some', noRef_d, true_and, ifP_dec, ifP_true, ifP_false, eql_int, neq_int, lss_int, leq_int, gtr_int, geq_int, un_not, eql_bool, neq_bool, eql_set, neq_set, cells_ex, len_cEx, part_exAll, part_ex0, part_ex1, part_ex2, part_ex3, part_ex4, part_ex5, part_ex9, parts_nil, dI, List.map_cons, List.map_nil, vget, bget, List.getD_cons_zero, List.getD_cons_succ, Box.vals, Nat.le_refl, cells_case, len_case, part_case, part_case0, part_case7, part_case14, cells_ctx, len_ctx, part_ctx, part_ctx0, part_ctx1, part_ctx2, part_ctx3, part_ctx5, set_ctx, cells_lev, len_lev, part_lev, part_lev0, part_lev1, set_lev, field_rng, field_lo, field_hi, eql_lev, neq_lev]
      refine And.intro (fun h' => ?_) (fun h' => ?_)
      · have h1 : allX smallN k (lev - 1) = false := by simpa using h'
        rw [alls_not hky h1]
      · have h1 : allX smallN k (lev - 1) = true := by simpa using h'
        refine bindO_to (add_up hi hcap) ?_
        refine hI fun j k' hj hk' => ?_
        rcases Nat.lt_or_ge j i with h2 | h2
        · exact hJ j k' h2 hk'
        · have : j = i := by omega
          subst this
          rw [hky] at hk'
          cases hk'
          exact h1
    · simp only [demote_d, dem_ptr, bindO_some', noRef_d, true_and, ifP_dec, ifP_true, ifP_false, eql_int, neq_int, lss_int, leq_int, gtr_int, geq_int, un_not, eql_bool, neq_bool, eql_set, neq_set, cells_ex, len_cEx, part_exAll, part_ex0, part_ex1, part_ex2, part_ex3, part_ex4, part_ex5, part_ex9, parts_nil, dI, List.map_cons, List.map_nil, vget, bget, List.getD_cons_zero, List.getD_cons_succ, Box.vals, Nat.le_refl, cells_case, len_case, part_case, part_case0, part_case7, part_case14, cells_ctx, len_ctx, part_ctx, part_ctx0, part_ctx1, part_ctx2, part_ctx3, part_ctx5, set_ctx, cells_lev, len_lev, part_lev, part_lev0, part_lev1, set_lev, field_rng, field_lo, field_hi, eql_lev, neq_lev, hd.len]
      refine And.intro (fun h => absurd h (by simp)) (fun _ => ?_)
      rw [alls_all (fun i k hk' => hJ i k (by have := (List.getElem?_eq_some_iff.1 hk').1; omega) hk')]
theorem eval1_holds {e : Xp} {x : D} (hx : IsE e x) : Holds Try.prog gl 20 [.d x] (.d (.int .i64 (nodeF e false 15))) := by
  refine holds_of_body hm1 (enters_some (fn := Try.f20) (by kernel_rfl) (by kernel_rfl) (by kernel_rfl)) (h := h20) ?_; rw [body20]; intro hwf
  have hf := form_holds hx false
  have hm := meaning_holds hx 15
  obtain ⟨nm, kd, L, rfl, hnm, hl, hd, hk⟩ := hx.inv
  simp only [demote_d, dem_ptr, bindO_some', noRef_d, true_and, ifP_dec, ifP_true, ifP_false, eql_int, neq_int, lss_int, leq_int, gtr_int, geq_int, un_not, eql_bool, neq_bool, eql_set, neq_set, cells_ex, len_cEx, part_exAll, part_ex0, part_ex1, part_ex2, part_ex3, part_ex4, part_ex5, part_ex9, parts_nil, dI, List.map_cons, List.map_nil, vget, bget, List.getD_cons_zero, List.getD_cons_succ, Box.vals, Nat.le_refl, cells_case, len_case, part_case, part_case0, part_case7, part_case14, cells_ctx, len_ctx, part_ctx, part_ctx0, part_ctx1, part_ctx2, part_ctx3, part_ctx5, set_ctx, cells_lev, len_lev, part_lev, part_lev0, part_lev1, set_lev, field_rng, field_lo, field_hi, eql_lev, neq_lev]
  refine callP_of hf ?_
  simp only [demote_d, dem_ptr, bindO_some', noRef_d, true_and, ifP_dec, ifP_true, ifP_false, eql_int, neq_int, lss_int, leq_int, gtr_int, geq_int, un_not, eql_bool, neq_bool, eql_set, neq_set, cells_ex, len_cEx, part_exAll, part_ex0, part_ex1, part_ex2, part_ex3, part_ex4, part_ex5, part_ex9, parts_nil, dI, List.map_cons, List.map_nil, vget, bget, List.getD_cons_zero, List.getD_cons_succ, Box.vals, Nat.le_refl, cells_case, len_case, part_case, part_case0, part_case7, part_case14, cells_ctx, len_ctx, part_ctx, part_ctx0, part_ctx1, part_ctx2, part_ctx3, part_ctx5, set_ctx, cells_lev, len_lev, part_lev, part_lev0, part_lev1, set_lev, field_rng, field_lo, field_hi, eql_lev, neq_lev, formE, nodeF]
  refine And.intro (fun h => ?_) (fun h => ?_)
  · by_cases hh : formF e false = true
    · rw [if_pos hh] at h; cases h
    · rw [if_neg hh, if_neg hh]
  · by_cases hh : formF e false = true
    · refine callP_of hm ?_
      simp only [demote_d, dem_ptr, bindO_some', noRef_d, true_and, ifP_dec, ifP_true, ifP_false, eql_int, neq_int, lss_int, leq_int, gtr_int, geq_int, un_not, eql_bool, neq_bool, eql_set, neq_set, cells_ex, len_cEx, part_exAll, part_ex0, part_ex1, part_ex2, part_ex3, part_ex4, part_ex5, part_ex9, parts_nil, dI, List.map_cons, List.map_nil, vget, bget, List.getD_cons_zero, List.getD_cons_succ, Box.vals, Nat.le_refl, cells_case, len_case, part_case, part_case0, part_case7, part_case14, cells_ctx, len_ctx, part_ctx, part_ctx0, part_ctx1, part_ctx2, part_ctx3, part_ctx5, set_ctx, cells_lev, len_lev, part_lev, part_lev0, part_lev1, set_lev, field_rng, field_lo, field_hi, eql_lev, neq_lev]
      rw [if_pos hh]
    · rw [if_neg hh] at h; cases h
end Go.Proofs.Ytcnnhnjcnekhcaa.Ab
