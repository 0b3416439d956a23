/-
  POLICIES ARE CHECKED: names.
-/
import Derived.Test.YtcnnhnjcnekhcaaGreatUb
import Derived.Test.YtcnnhnjcnekhcaaGreatTp
import Derived.Test.YtcnnhnjcnekhcaaGreatB18
set_option linter.unusedVariables false
set_option linter.unusedSimpArgs false
namespace Go.Proofs.YtcnnhnjcnekhcaaGreat.Ab
open Go
theorem letter_holds (n : Int) : ∃ b, True ∧ Holds Tryz.prog gl 150 [.d (.int .u8 n)] (.d (.bool b)) := by
  refine tot_bool hm1 (enters_some (fn := Tryz.f150) (by kernel_rfl) (by kernel_rfl) (by kernel_rfl)) ⟨true, trivial⟩ (h := h150) ?_
  rw [body150]; intro hwf
  simp only [sS, true_and, List.map_cons, List.map_nil, vget, bget, List.getD_cons_zero, List.getD_cons_succ, Box.vals, dI, Nat.le_refl]
  repeat' first | with_reducible refine And.intro (fun h => ?_) (fun h => ?_)
  all_goals first | exact ⟨_, rfl, trivial⟩ | exact ⟨_, rfl, fun h => absurd h (by decide)⟩ | exact ⟨_, rfl, fun h => by simp_all⟩
theorem digit_holds (n : Int) : ∃ b, True ∧ Holds Tryz.prog gl 151 [.d (.int .u8 n)] (.d (.bool b)) := by
  refine tot_bool hm1 (enters_some (fn := Tryz.f151) (by kernel_rfl) (by kernel_rfl) (by kernel_rfl)) ⟨true, trivial⟩ (h := h151) ?_
  rw [body151]; intro hwf
  simp only [sS, true_and, List.map_cons, List.map_nil, vget, bget, List.getD_cons_zero, List.getD_cons_succ, Box.vals, dI, Nat.le_refl]
  repeat' first | with_reducible refine And.intro (fun h => ?_) (fun h => ?_)
  all_goals first | exact ⟨_, rfl, trivial⟩ | exact ⟨_, rfl, fun h => absurd h (by decide)⟩ | exact ⟨_, rfl, fun h => by simp_all⟩
theorem name02_holds (s : List UInt8) : ∃ b, True ∧ Holds Tryz.prog gl 135 [.d (.str s)] (.d (.bool b)) := by
  refine tot_bool hm1 (enters_some (fn := Tryz.f135) (by kernel_rfl) (by kernel_rfl) (by kernel_rfl)) ⟨true, trivial⟩ (h := h135) ?_
  rw [body135]; intro hwf
  have hm := strs_wf hwf
  refine loopP_count (fun i => [.d (.str s), .d (.int .i64 ((i : Nat) : Int))]) (fun i => []) s.length (fun i hi I hI => ?_) (fun I => ?_)
  · simp only [sS, true_and, List.map_cons, List.map_nil, vget, bget, List.getD_cons_zero, List.getD_cons_succ, Box.vals, dI, Nat.le_refl, len_strS, parts_s1, fit_s1, elems_s1]
    refine And.intro (fun _ => ?_) (fun h => absurd h (by simp; omega))
    obtain ⟨b, hb⟩ := get_some hi
    simp only [str_at hb, sS, true_and, List.map_cons, List.map_nil, vget, bget, List.getD_cons_zero, List.getD_cons_succ, Box.vals, dI, Nat.le_refl]
    refine ex_bool (letter_holds _) fun b1 _ => ?_
    simp only [sS, true_and, List.map_cons, List.map_nil, vget, bget, List.getD_cons_zero, List.getD_cons_succ, Box.vals, dI, Nat.le_refl, add_up hi hm]
    repeat' first | with_reducible refine And.intro (fun h => ?_) (fun h => ?_) | (with_reducible refine ex_bool (digit_holds _) fun b2 _ => ?_; simp only [sS, true_and, List.map_cons, List.map_nil, vget, bget, List.getD_cons_zero, List.getD_cons_succ, Box.vals, dI, Nat.le_refl]) | with_reducible exact hI
    all_goals first | exact ⟨_, rfl, trivial⟩ | exact ⟨_, rfl, fun h => absurd h (by decide)⟩ | exact ⟨_, rfl, fun h => by simp_all⟩
  · simp only [sS, true_and, List.map_cons, List.map_nil, vget, bget, List.getD_cons_zero, List.getD_cons_succ, Box.vals, dI, Nat.le_refl, len_strS, parts_s1, fit_s1, elems_s1]
    refine And.intro (fun h => absurd h (by simp)) (fun _ => ?_)
    repeat' first | with_reducible refine And.intro (fun h => ?_) (fun h => ?_)
    all_goals first | exact ⟨_, rfl, trivial⟩ | exact ⟨_, rfl, fun h => absurd h (by decide)⟩ | exact ⟨_, rfl, fun h => by simp_all⟩
theorem within02_holds (s w : List UInt8) (hw : w.length ≤ 10000) : ∃ b, True ∧ Holds Tryz.prog gl 138 [.d (.str s), .d (.str w)] (.d (.bool b)) := by
  refine tot_bool hm1 (enters_some (fn := Tryz.f138) (by kernel_rfl) (by kernel_rfl) (by kernel_rfl)) ⟨true, trivial⟩ (h := h138) ?_
  rw [body138]; intro hwf
  have hm : w.length ≤ maxLen := by simp only [maxLen]; omega
  refine loopP_ex (α := Nat) (fun i a => a ≤ i) (fun i a => [.d (.str s), .d (.str w), .d (.int .i64 (a : Int)), .d (.int .i64 ((i : Nat) : Int))]) (fun i a => []) w.length 0 (Nat.le_refl 0) (fun i a hi ha I hI => ?_) (fun a ha I => ?_)
  · simp only [sS, true_and, List.map_cons, List.map_nil, vget, bget, List.getD_cons_zero, List.getD_cons_succ, Box.vals, dI, Nat.le_refl, len_strS, parts_s1, fit_s1, elems_s1]
    refine And.intro (fun _ => ?_) (fun h => absurd h (by simp; omega))
    obtain ⟨b, hb⟩ := get_some hi
    simp only [str_at hb, sS, true_and, List.map_cons, List.map_nil, vget, bget, List.getD_cons_zero, List.getD_cons_succ, Box.vals, dI, Nat.le_refl, add_up hi hm, sub_str ha (Nat.le_of_lt hi), eql_str, neq_str]
    repeat' first | with_reducible refine And.intro (fun h => ?_) (fun h => ?_) | with_reducible exact hI a (Nat.le_succ_of_le ha) | with_reducible exact hI (i + 1) (Nat.le_refl _)
    all_goals first | exact ⟨_, rfl, trivial⟩ | exact ⟨_, rfl, fun h => absurd h (by decide)⟩ | exact ⟨_, rfl, fun h => by simp_all⟩
  · simp only [sS, true_and, List.map_cons, List.map_nil, vget, bget, List.getD_cons_zero, List.getD_cons_succ, Box.vals, dI, Nat.le_refl, len_strS, parts_s1, fit_s1, elems_s1]
    refine And.intro (fun h => absurd h (by simp)) (fun _ => ?_)
    first | exact ⟨_, rfl, trivial⟩ | exact ⟨_, rfl, fun h => absurd h (by decide)⟩ | exact ⟨_, rfl, fun h => by simp_all⟩
theorem keyword_holds (s : List UInt8) : ∃ b, True ∧ Holds Tryz.prog gl 153 [.d (.str s)] (.d (.bool b)) := by
  refine tot_bool hm1 (enters_some (fn := Tryz.f153) (by kernel_rfl) (by kernel_rfl) (by kernel_rfl)) ⟨true, trivial⟩ (h := h153) ?_
  rw [body153]; intro hwf
  rw [demote_d, demote_d, demote_d]
  refine ex_bool (within02_holds _ _ (Nat.le_of_ble_eq_true (by kernel_rfl))) fun b1 _ => ?_
  simp only [sS, true_and, List.map_cons, List.map_nil, vget, bget, List.getD_cons_zero, List.getD_cons_succ, Box.vals, dI, Nat.le_refl]
  first | exact ⟨_, rfl, trivial⟩ | exact ⟨_, rfl, fun h => absurd h (by decide)⟩ | exact ⟨_, rfl, fun h => by simp_all⟩
theorem ident02_holds (s : List UInt8) : ∃ b, True ∧ Holds Tryz.prog gl 145 [.d (.str s)] (.d (.bool b)) := by
  refine tot_bool hm1 (enters_some (fn := Tryz.f145) (by kernel_rfl) (by kernel_rfl) (by kernel_rfl)) ⟨true, trivial⟩ (h := h145) ?_
  rw [body145]; intro hwf
  simp only [sS, true_and, List.map_cons, List.map_nil, vget, bget, List.getD_cons_zero, List.getD_cons_succ, Box.vals, dI, Nat.le_refl]
  refine ex_bool (name02_holds s) fun b1 _ => ?_
  simp only [sS, true_and, List.map_cons, List.map_nil, vget, bget, List.getD_cons_zero, List.getD_cons_succ, Box.vals, dI, Nat.le_refl]
  repeat' first | with_reducible refine And.intro (fun h => ?_) (fun h => ?_) | (with_reducible refine ex_bool (keyword_holds _) fun b2 _ => ?_; simp only [sS, true_and, List.map_cons, List.map_nil, vget, bget, List.getD_cons_zero, List.getD_cons_succ, Box.vals, dI, Nat.le_refl])
  all_goals first | exact ⟨_, rfl, trivial⟩ | exact ⟨_, rfl, fun h => absurd h (by decide)⟩ | exact ⟨_, rfl, fun h => by simp_all⟩
theorem ident_holds (s : List UInt8) : ∃ b, True ∧ Holds Tryz.prog gl 130 [.d (.str s)] (.d (.bool b)) := by
  refine tot_bool hm1 (enters_some (fn := Tryz.f130) (by kernel_rfl) (by kernel_rfl) (by kernel_rfl)) ⟨true, trivial⟩ (h := h130) ?_
  rw [body130]; intro hwf
  simp only [sS, true_and, List.map_cons, List.map_nil, vget, bget, List.getD_cons_zero, List.getD_cons_succ, Box.vals, dI, Nat.le_refl]
  refine ex_bool (ident02_holds s) fun b1 _ => ?_
  simp only [sS, true_and, List.map_cons, List.map_nil, vget, bget, List.getD_cons_zero, List.getD_cons_succ, Box.vals, dI, Nat.le_refl]
  first | exact ⟨_, rfl, trivial⟩ | exact ⟨_, rfl, fun h => absurd h (by decide)⟩ | exact ⟨_, rfl, fun h => by simp_all⟩
end Go.Proofs.YtcnnhnjcnekhcaaGreat.Ab
/-
  POLICIES ARE CHECKED: lists of names, sets, levels.
-/
namespace Go.Proofs.YtcnnhnjcnekhcaaGreat.Ab
open Go
theorem within13_holds (s : List UInt8) (l : List (List UInt8)) {x : SV} (hx : IsSl 1 (dStrs l) x) (hl : l.length ≤ maxLen) : Holds Tryz.prog gl 131 [.d (.str s), x] (.d (.bool (hasS s l))) := by
  refine holds_of_body hm1 (enters_some (fn := Tryz.f131) (by kernel_rfl) (by kernel_rfl) (by kernel_rfl)) (h := h131) ?_; rw [body131]; intro hwf
  refine loopP_inv (fun i => ∀ (j : Nat) t, j < i → l[j]? = some t → (t == s) = false) (fun i => [.d (.str s), x, .d (.int .i64 ((i : Nat) : Int))]) (fun i => []) l.length (fun j t hj => by omega) (fun i hi hJ I hI => ?_) (fun hJ I => ?_)
  · simp only [sS, true_and, List.map_cons, List.map_nil, vget, bget, List.getD_cons_zero, List.getD_cons_succ, Box.vals, dI, Nat.le_refl, hx.dem, hx.len, len_strs]
    refine And.intro (fun _ => ?_) (fun h => absurd h (by simp; omega))
    obtain ⟨t, ht⟩ := get_some hi
    simp only [hx.at (at_strs ht), sS, true_and, List.map_cons, List.map_nil, vget, bget, List.getD_cons_zero, List.getD_cons_succ, Box.vals, dI, Nat.le_refl, load_str, eql_str]
    refine And.intro (fun h => ?_) (fun h => ?_)
    · rw [hasS_get ht h]
    · refine bindO_to (add_up hi hl) ?_
      refine hI fun j t' hj ht' => ?_
      rcases Nat.lt_or_ge j i with h2 | h2
      · exact hJ j t' h2 ht'
      · have : j = i := by omega
        subst this
        rw [ht] at ht'
        cases ht'
        exact h
  · simp only [sS, true_and, List.map_cons, List.map_nil, vget, bget, List.getD_cons_zero, List.getD_cons_succ, Box.vals, dI, Nat.le_refl, hx.dem, hx.len, len_strs]
    refine And.intro (fun h => absurd h (by simp)) (fun _ => ?_)
    rw [hasS_none fun i t ht => hJ i t (List.getElem?_eq_some_iff.1 ht).1 ht]
theorem names13_holds (l oth : List (List UInt8)) {x y : SV} (hx : IsSl 1 (dStrs l) x) (hl : l.length ≤ maxLen) (hy : IsSl 1 (dStrs oth) y) (ho : oth.length ≤ maxLen) :
    ∃ n, (n = 0 → namesOk l oth) ∧ Holds Tryz.prog gl 91 [x, y] (.d (.int .i64 n)) := by
  refine tot_int hm1 (enters_some (fn := Tryz.f91) (by kernel_rfl) (by kernel_rfl) (by kernel_rfl)) ⟨1, fun h => absurd h (by decide)⟩ (h := h91) ?_
  rw [body91]; intro hwf
  refine loopP_inv (fun i => ∀ (j : Nat) s, j < i → l[j]? = some s → hasS s (l.take j) = false ∧ hasS s oth = false) (fun i => [x, y, .d (.int .i64 ((i : Nat) : Int))]) (fun i => []) l.length (fun j t hj => by omega) (fun i hi hJ I hI => ?_) (fun hJ I => ?_)
  · simp only [sS, true_and, List.map_cons, List.map_nil, vget, bget, List.getD_cons_zero, List.getD_cons_succ, Box.vals, dI, Nat.le_refl, hx.dem, hy.dem, hx.len, len_strs]
    refine And.intro (fun _ => ?_) (fun h => absurd h (by simp; omega))
    obtain ⟨t, ht⟩ := get_some hi
    simp only [hx.at (at_strs ht), sS, true_and, List.map_cons, List.map_nil, vget, bget, List.getD_cons_zero, List.getD_cons_succ, Box.vals, dI, Nat.le_refl, load_str]
    refine ex_bool (ident_holds t) fun b1 _ => ?_
    simp only [sS, true_and, List.map_cons, List.map_nil, vget, bget, List.getD_cons_zero, List.getD_cons_succ, Box.vals, dI, Nat.le_refl]
    refine And.intro (fun h => ⟨_, rfl, fun h => absurd h (by decide)⟩) (fun _ => ?_)
    obtain ⟨z, hz1, hz2⟩ := sub_sl hx (i := i) (by rw [len_strs]; omega)
    rw [show (dStrs l).take i = dStrs (l.take i) from by rw [dStrs, dStrs, List.map_take]] at hz2
    refine bindO_to hz1 ?_
    simp only [sS, true_and, List.map_cons, List.map_nil, vget, bget, List.getD_cons_zero, List.getD_cons_succ, Box.vals, dI, Nat.le_refl]
    refine callP_of (within13_holds t (l.take i) hz2.sv (by rw [List.length_take]; omega)) ?_
    simp only [sS, true_and, List.map_cons, List.map_nil, vget, bget, List.getD_cons_zero, List.getD_cons_succ, Box.vals, dI, Nat.le_refl]
    refine And.intro (fun h => ⟨_, rfl, fun h => absurd h (by decide)⟩) (fun h1 => ?_)
    refine callP_of (within13_holds t oth hy ho) ?_
    simp only [sS, true_and, List.map_cons, List.map_nil, vget, bget, List.getD_cons_zero, List.getD_cons_succ, Box.vals, dI, Nat.le_refl]
    refine And.intro (fun h => ⟨_, rfl, fun h => absurd h (by decide)⟩) (fun h2 => ?_)
    refine bindO_to (add_up hi hl) ?_
    refine hI fun j t' hj ht' => ?_
    rcases Nat.lt_or_ge j i with h3 | h3
    · exact hJ j t' h3 ht'
    · have : j = i := by omega
      subst this
      rw [ht] at ht'
      cases ht'
      exact ⟨h1, h2⟩
  · simp only [sS, true_and, List.map_cons, List.map_nil, vget, bget, List.getD_cons_zero, List.getD_cons_succ, Box.vals, dI, Nat.le_refl, hx.dem, hy.dem, hx.len, len_strs]
    refine And.intro (fun h => absurd h (by simp)) (fun _ => ?_)
    exact ⟨_, rfl, fun _ i s h => hJ i s (List.getElem?_eq_some_iff.1 h).1 h⟩
theorem typeNames_holds (p : PolD) (n : Nat) (hn : n ≤ p.ty.length) (h1 : p.ty.length ≤ 12) (h2 : ∀ t ∈ p.ty, t.als.length ≤ 4) : Holds Tryz.prog gl 92 [.d (dPol p), .d (.int .i64 (n : Int))] (gown 1 (dStrs (tyN (p.ty.take n)))) := by
  refine holds_of_body hm1 (enters_some (fn := Tryz.f92) (by kernel_rfl) (by kernel_rfl) (by kernel_rfl)) (h := h92) ?_; rw [body92]; intro hwf
  simp only [sS, true_and, List.map_cons, List.map_nil, vget, bget, List.getD_cons_zero, List.getD_cons_succ, Box.vals, dI, Nat.le_refl, sP]
  refine loopP_count (fun i => [.d (.int .i64 (n : Int)), gown 1 (dStrs (tyN (p.ty.take i))), .d (.int .i64 ((i : Nat) : Int))]) (fun i => [cPol p]) n (fun i hi I hI => ?_) (fun I => ?_)
  · simp only [sS, true_and, List.map_cons, List.map_nil, vget, bget, List.getD_cons_zero, List.getD_cons_succ, Box.vals, dI, Nat.le_refl, sP]
    refine And.intro (fun _ => ?_) (fun h => absurd h (by simp; omega))
    obtain ⟨t, ht⟩ := get_some (show i < p.ty.length by omega)
    have e0 : 0 + 0 = 0 := rfl
    have e1 : 0 + 1 = 1 := rfl
    have hb := tyN_len (l := p.ty.take i) (m := 4) fun t' ht' => h2 t' (List.mem_of_mem_take ht')
    have hta := h2 t (List.mem_of_getElem? ht)
    rw [List.length_take] at hb
    simp only [p.g_ty ht, sS, true_and, List.map_cons, List.map_nil, vget, bget, List.getD_cons_zero, List.getD_cons_succ, Box.vals, dI, Nat.le_refl, sP, sW, Nat.zero_add, len_strS, parts_s1, fit_s1, elems_s1]
    refine app_gown (elems_full _ _) ?_ ?_
    · rw [len_strs]; show (_ + 1) * 16 ≤ _; omega
    refine app_gown (isSl_el t.alsH.sv) ?_ ?_
    · simp [dStrs]; omega
    refine bindO_to (add_up hi (by simp only [maxLen]; omega)) ?_
    rw [tyN_take ht] at hI
    have e : dStrs (tyN (p.ty.take i) ++ [t.name] ++ t.als) = dStrs (tyN (p.ty.take i)) ++ [.str t.name] ++ dStrs t.als := by simp [dStrs]
    rw [e] at hI
    exact hI
  · simp only [sS, true_and, List.map_cons, List.map_nil, vget, bget, List.getD_cons_zero, List.getD_cons_succ, Box.vals, dI, Nat.le_refl, sP]
    refine And.intro (fun h => absurd h (by simp)) (fun _ => ?_)
    exact ⟨noRef_gown _ _, trivial⟩
theorem some_holds (w : Nat → BitVec 64) (n : Int) : Holds Tryz.prog gl 93 [.d (dSet w), .d (.int .i64 n)] (.tup [.d (.bool (!eqW w zW)), .d (.bool (insW w (allW (clip n))))]) := by
  refine holds_of_body hm1 (enters_some (fn := Tryz.f93) (by kernel_rfl) (by kernel_rfl) (by kernel_rfl)) (h := h93) ?_; rw [body93]; intro hwf
  simp only [sS, true_and, List.map_cons, List.map_nil, vget, bget, List.getD_cons_zero, List.getD_cons_succ, Box.vals, dI, Nat.le_refl, cells_set, len_cSet, part_set, build_zset]
  refine callP_of (allR_holds n) ?_
  simp only [sS, true_and, List.map_cons, List.map_nil, vget, bget, List.getD_cons_zero, List.getD_cons_succ, Box.vals, dI, Nat.le_refl]
  refine callP_of (withinR_holds w _) ?_
  simp only [sS, true_and, List.map_cons, List.map_nil, vget, bget, List.getD_cons_zero, List.getD_cons_succ, Box.vals, dI, Nat.le_refl]
  rfl
theorem procRoles_holds (p : PolD) (w : Nat → BitVec 64) : Holds Tryz.prog gl 94 [.d (dPol p), .d (dSet w)] (.d (.bool (insW w (withoutW (allW (clip (p.ro.length : Int))) 0)))) := by
  refine holds_of_body hm1 (enters_some (fn := Tryz.f94) (by kernel_rfl) (by kernel_rfl) (by kernel_rfl)) (h := h94) ?_; rw [body94]; intro hwf
  simp only [sS, true_and, List.map_cons, List.map_nil, vget, bget, List.getD_cons_zero, List.getD_cons_succ, Box.vals, dI, Nat.le_refl, sP, cells_set, len_cSet, part_set]
  refine callP_of (allR_holds _) ?_
  simp only [sS, true_and, List.map_cons, List.map_nil, vget, bget, List.getD_cons_zero, List.getD_cons_succ, Box.vals, dI, Nat.le_refl]
  refine callP_of (withoutR_holds _ 0) ?_
  simp only [sS, true_and, List.map_cons, List.map_nil, vget, bget, List.getD_cons_zero, List.getD_cons_succ, Box.vals, dI, Nat.le_refl]
  refine callP_of (withinR_holds w _) ?_
  simp only [sS, true_and, List.map_cons, List.map_nil, vget, bget, List.getD_cons_zero, List.getD_cons_succ, Box.vals, dI, Nat.le_refl]
  rfl
def belF (i n : Int) : Bool := decide (i ≥ 0) && decide (i < n)
theorem below_holds (i n : Int) : Holds Tryz.prog gl 101 [.d (.int .i64 i), .d (.int .i64 n)] (.d (.bool (belF i n))) := by
  refine holds_of_body hm1 (enters_some (fn := Tryz.f101) (by kernel_rfl) (by kernel_rfl) (by kernel_rfl)) (h := h101) ?_; rw [body101]; intro hwf
  simp only [sS, true_and, List.map_cons, List.map_nil, vget, bget, List.getD_cons_zero, List.getD_cons_succ, Box.vals, dI, Nat.le_refl]
  repeat' first | with_reducible refine And.intro (fun h => ?_) (fun h => ?_)
  all_goals (unfold belF; first | (simp_all; done) | (simp_all; omega))
theorem dom13_holds (a b : Int × BitVec 64) : ∃ r, True ∧ Holds Tryz.prog gl 97 [.d (dLev a), .d (dLev b)] (.d (.bool r)) := by
  refine tot_bool hm1 (enters_some (fn := Tryz.f97) (by kernel_rfl) (by kernel_rfl) (by kernel_rfl)) ⟨true, trivial⟩ (h := h97) ?_
  rw [body97]; intro hwf
  simp only [sS, true_and, List.map_cons, List.map_nil, vget, bget, List.getD_cons_zero, List.getD_cons_succ, Box.vals, dI, Nat.le_refl, sW, Nat.zero_add]
  repeat' first | with_reducible refine And.intro (fun h => ?_) (fun h => ?_)
  all_goals first | exact ⟨_, rfl, trivial⟩ | exact ⟨_, rfl, fun h => absurd h (by decide)⟩ | exact ⟨_, rfl, fun h => by simp_all⟩
theorem level13_holds (p : PolD) (a : Int × BitVec 64) : ∃ r, True ∧ Holds Tryz.prog gl 96 [.d (dPol p), .d (dLev a)] (.d (.bool r)) := by
  refine tot_bool hm1 (enters_some (fn := Tryz.f96) (by kernel_rfl) (by kernel_rfl) (by kernel_rfl)) ⟨true, trivial⟩ (h := h96) ?_
  rw [body96]; intro hwf
  simp only [sS, true_and, List.map_cons, List.map_nil, vget, bget, List.getD_cons_zero, List.getD_cons_succ, Box.vals, dI, Nat.le_refl, sP, sW, Nat.zero_add]
  refine callP_of (below_holds _ _) ?_
  simp only [sS, true_and, List.map_cons, List.map_nil, vget, bget, List.getD_cons_zero, List.getD_cons_succ, Box.vals, dI, Nat.le_refl]
  repeat' first | with_reducible refine And.intro (fun h => ?_) (fun h => ?_)
  all_goals first | exact ⟨_, rfl, trivial⟩ | exact ⟨_, rfl, fun h => absurd h (by decide)⟩ | exact ⟨_, rfl, fun h => by simp_all⟩
theorem range13_holds (p : PolD) (a : (Int × BitVec 64) × (Int × BitVec 64)) : ∃ r, True ∧ Holds Tryz.prog gl 95 [.d (dPol p), .d (dRg a)] (.d (.bool r)) := by
  refine tot_bool hm1 (enters_some (fn := Tryz.f95) (by kernel_rfl) (by kernel_rfl) (by kernel_rfl)) ⟨true, trivial⟩ (h := h95) ?_
  rw [body95]; intro hwf
  simp only [sS, true_and, List.map_cons, List.map_nil, vget, bget, List.getD_cons_zero, List.getD_cons_succ, Box.vals, dI, Nat.le_refl, sP]
  refine ex_bool (level13_holds p a.1) fun b1 _ => ?_
  simp only [sS, true_and, List.map_cons, List.map_nil, vget, bget, List.getD_cons_zero, List.getD_cons_succ, Box.vals, dI, Nat.le_refl]
  refine And.intro (fun _ => ?_) (fun _ => ⟨_, rfl, trivial⟩)
  refine ex_bool (level13_holds p a.2) fun b2 _ => ?_
  simp only [sS, true_and, List.map_cons, List.map_nil, vget, bget, List.getD_cons_zero, List.getD_cons_succ, Box.vals, dI, Nat.le_refl]
  refine And.intro (fun _ => ?_) (fun _ => ⟨_, rfl, trivial⟩)
  refine ex_bool (dom13_holds a.2 a.1) fun b3 _ => ?_
  simp only [sS, true_and, List.map_cons, List.map_nil, vget, bget, List.getD_cons_zero, List.getD_cons_succ, Box.vals, dI, Nat.le_refl]
  exact ⟨_, rfl, trivial⟩
theorem bel_get {α : Type} {l : List α} {i : Int} (h : belF i (l.length : Int) = true) : ∃ (n : Nat) (x : α), i = (n : Int) ∧ l[n]? = some x := by
  simp only [belF, Bool.and_eq_true, decide_eq_true_eq] at h
  obtain ⟨n, rfl⟩ := Int.eq_ofNat_of_zero_le h.1
  obtain ⟨x, hx⟩ := get_some (show n < l.length by omega)
  exact ⟨n, x, rfl, hx⟩
theorem vector_holds (p : PolD) (c : Int) (v : BitVec 32) : ∃ r, True ∧ Holds Tryz.prog gl 99 [.d (dPol p), .d (.int .i64 c), .d (dU v)] (.d (.bool r)) := by
  refine tot_bool hm1 (enters_some (fn := Tryz.f99) (by kernel_rfl) (by kernel_rfl) (by kernel_rfl)) ⟨true, trivial⟩ (h := h99) ?_
  rw [body99]; intro hwf
  simp only [sS, true_and, List.map_cons, List.map_nil, vget, bget, List.getD_cons_zero, List.getD_cons_succ, Box.vals, dI, Nat.le_refl, sP]
  refine callP_of (below_holds _ _) ?_
  simp only [sS, true_and, List.map_cons, List.map_nil, vget, bget, List.getD_cons_zero, List.getD_cons_succ, Box.vals, dI, Nat.le_refl]
  refine And.intro (fun h => ?_) (fun h => ?_)
  · obtain ⟨n, x, rfl, hx⟩ := bel_get h
    have e1 : 0 + 1 = 1 := rfl
    simp only [p.g_cl hx, sS, true_and, List.map_cons, List.map_nil, vget, bget, List.getD_cons_zero, List.getD_cons_succ, Box.vals, dI, Nat.le_refl, sP, sW, Nat.zero_add, e1]
    repeat' first | with_reducible refine And.intro (fun h => ?_) (fun h => ?_)
    all_goals first | exact ⟨_, rfl, trivial⟩ | exact ⟨_, rfl, fun h => absurd h (by decide)⟩ | exact ⟨_, rfl, fun h => by simp_all⟩
  · first | exact ⟨_, rfl, trivial⟩ | exact ⟨_, rfl, fun h => absurd h (by decide)⟩ | exact ⟨_, rfl, fun h => by simp_all⟩
theorem neg_len {α : Type} {l : List α} (h : l.length ≤ maxLen) : unV .neg (.d (.int .i64 (l.length : Int))) = some (.d (.int .i64 (-(l.length : Int)))) := by
  have h2 : IntKind.i64.wrap (0 - (l.length : Int)) = -(l.length : Int) := by rw [wrap_i64 (by simp only [maxLen] at h; omega) (by omega)]; omega
  simp only [unV, h2]
def condF (p : PolD) (n : Int) : Bool := decide (n ≥ -(p.co.length : Int)) && decide (n ≤ (p.co.length : Int))
theorem cond13_holds (p : PolD) (n : Int) : Holds Tryz.prog gl 100 [.d (dPol p), .d (.int .i64 n)] (.d (.bool (condF p n))) := by
  refine holds_of_body hm1 (enters_some (fn := Tryz.f100) (by kernel_rfl) (by kernel_rfl) (by kernel_rfl)) (h := h100) ?_; rw [body100]; intro hwf
  simp only [sS, true_and, List.map_cons, List.map_nil, vget, bget, List.getD_cons_zero, List.getD_cons_succ, Box.vals, dI, Nat.le_refl, sP, neg_len p.coM]
  repeat' first | with_reducible refine And.intro (fun h => ?_) (fun h => ?_)
  all_goals (unfold condF; first | (simp_all; done) | (simp_all; omega))
theorem objName_holds (s : List UInt8) : ∃ b, True ∧ Holds Tryz.prog gl 102 [.d (.str s)] (.d (.bool b)) := by
  refine tot_bool hm1 (enters_some (fn := Tryz.f102) (by kernel_rfl) (by kernel_rfl) (by kernel_rfl)) ⟨true, trivial⟩ (h := h102) ?_
  rw [body102]; intro hwf
  have hm := strs_wf hwf
  refine loopP_count (fun i => [.d (.str s), .d (.int .i64 ((i : Nat) : Int))]) (fun i => []) s.length (fun i hi I hI => ?_) (fun I => ?_)
  · simp only [sS, true_and, List.map_cons, List.map_nil, vget, bget, List.getD_cons_zero, List.getD_cons_succ, Box.vals, dI, Nat.le_refl, len_strS, parts_s1, fit_s1, elems_s1]
    refine And.intro (fun _ => ?_) (fun h => absurd h (by simp; omega))
    obtain ⟨b, hb⟩ := get_some hi
    simp only [str_at hb, sS, true_and, List.map_cons, List.map_nil, vget, bget, List.getD_cons_zero, List.getD_cons_succ, Box.vals, dI, Nat.le_refl, add_up hi hm]
    repeat' first | with_reducible refine And.intro (fun h => ?_) (fun h => ?_) | with_reducible exact hI
    all_goals first | exact ⟨_, rfl, trivial⟩ | exact ⟨_, rfl, fun h => absurd h (by decide)⟩ | exact ⟨_, rfl, fun h => by simp_all⟩
  · simp only [sS, true_and, List.map_cons, List.map_nil, vget, bget, List.getD_cons_zero, List.getD_cons_succ, Box.vals, dI, Nat.le_refl, len_strS, parts_s1, fit_s1, elems_s1]
    refine And.intro (fun h => absurd h (by simp)) (fun _ => ?_)
    repeat' first | with_reducible refine And.intro (fun h => ?_) (fun h => ?_)
    all_goals first | exact ⟨_, rfl, trivial⟩ | exact ⟨_, rfl, fun h => absurd h (by decide)⟩ | exact ⟨_, rfl, fun h => by simp_all⟩
end Go.Proofs.YtcnnhnjcnekhcaaGreat.Ab
/-
  POLICIES ARE CHECKED: classes, types, roles, users.
-/
namespace Go.Proofs.YtcnnhnjcnekhcaaGreat.Ab
open Go
theorem names1_holds (s : List UInt8) (L : List (List UInt8)) (hl : L.length ≤ 1000) : ∃ n, (n = 0 → hasS s L = false) ∧ Holds Tryz.prog gl 91 [.full 1 [.str s], .d (gsl 1 (dStrs L))] (.d (.int .i64 n)) := by
  obtain ⟨n, h1, h2⟩ := names13_holds [s] L (x := .full 1 [.str s]) (y := .d (gsl 1 (dStrs L))) .full (by simp [maxLen]) (is_gsl 1 _).sv (by simp only [maxLen]; omega)
  exact ⟨n, fun h => (h1 h 0 s rfl).2, h2⟩
theorem namesN_holds (l : List (List UInt8)) {x : D} (hx : IsD 1 (dStrs l) x) (hl : l.length ≤ maxLen) : ∃ n, True ∧ Holds Tryz.prog gl 91 [.d x, .d (.sl .nil 0 [])] (.d (.int .i64 n)) := by
  obtain ⟨n, h1, h2⟩ := names13_holds l [] hx.sv hl (y := .d (.sl .nil 0 [])) (.nil 0 rfl) (by simp)
  exact ⟨n, trivial, h2⟩
theorem classes_holds (p : PolD) : ∃ n, True ∧ Holds Tryz.prog gl 51 [.d (dPol p)] (.d (.int .i64 n)) := by
  refine tot_int hm1 (enters_some (fn := Tryz.f51) (by kernel_rfl) (by kernel_rfl) (by kernel_rfl)) ⟨1, trivial⟩ (h := h51) ?_
  rw [body51]; intro hwf
  simp only [sS, true_and, List.map_cons, List.map_nil, vget, bget, List.getD_cons_zero, List.getD_cons_succ, Box.vals, dI, Nat.le_refl, sP]
  refine And.intro (fun _ => ⟨_, rfl, trivial⟩) (fun h32 => ?_)
  have h32 : p.cl.length ≤ 32 := by have := of_decide_eq_false h32; omega
  refine loopP_count (fun i => [gown 1 (dStrs ((p.cl.take i).map ClD.name)), .d (.int .i64 ((i : Nat) : Int))]) (fun i => [cPol p]) p.cl.length (fun i hi I hI => ?_) (fun I => ?_)
  · simp only [sS, true_and, List.map_cons, List.map_nil, vget, bget, List.getD_cons_zero, List.getD_cons_succ, Box.vals, dI, Nat.le_refl, sP]
    refine And.intro (fun _ => ?_) (fun h => absurd h (by simp; omega))
    obtain ⟨c, hc⟩ := get_some hi
    simp only [p.g_cl hc, sS, true_and, List.map_cons, List.map_nil, vget, bget, List.getD_cons_zero, List.getD_cons_succ, Box.vals, dI, Nat.le_refl, sP, sW, Nat.zero_add, len_strS, parts_s1, fit_s1, elems_s1, dem_gown, noRef_gown]
    have hlen := names_len ClD.name p.cl i
    refine ex_int (names1_holds _ _ (by rw [len_strs] at hlen; omega)) fun n1 _ => ?_
    simp only [sS, true_and, List.map_cons, List.map_nil, vget, bget, List.getD_cons_zero, List.getD_cons_succ, Box.vals, dI, Nat.le_refl]
    refine And.intro (fun _ => ⟨_, rfl, trivial⟩) (fun _ => ?_)
    refine app_gown (elems_full _ _) ?_ ?_
    · show (_ + 1) * 16 ≤ _; omega
    refine And.intro (fun _ => ⟨_, rfl, trivial⟩) (fun _ => ?_)
    refine And.intro (fun _ => ⟨_, rfl, trivial⟩) (fun _ => ?_)
    refine ex_int (namesN_holds _ c.permsH c.permsM) fun n2 _ => ?_
    simp only [sS, true_and, List.map_cons, List.map_nil, vget, bget, List.getD_cons_zero, List.getD_cons_succ, Box.vals, dI, Nat.le_refl]
    refine And.intro (fun _ => ⟨_, rfl, trivial⟩) (fun _ => ?_)
    refine bindO_to (add_up hi (by simp only [maxLen]; omega)) ?_
    rw [names_take ClD.name hc] at hI
    exact hI
  · simp only [sS, true_and, List.map_cons, List.map_nil, vget, bget, List.getD_cons_zero, List.getD_cons_succ, Box.vals, dI, Nat.le_refl, sP]
    refine And.intro (fun h => absurd h (by simp)) (fun _ => ⟨_, rfl, trivial⟩)
/-- what is known of the types of a policy -/
structure TyOk (p : PolD) : Prop where
  names : ∀ (i : Nat) t, p.ty[i]? = some t → namesOk (t.name :: t.als) (tyN (p.ty.take i))
  sets : ∀ (i : Nat) a, p.at_[i]? = some a → insW a.w (allW (clip (p.ty.length : Int))) = true
theorem types13_holds (p : PolD) (h1 : p.ty.length ≤ 12) (h2 : ∀ t ∈ p.ty, t.als.length ≤ 4) (h3 : p.at_.length ≤ 6) : ∃ n, (n = 0 → TyOk p) ∧ Holds Tryz.prog gl 52 [.d (dPol p)] (.d (.int .i64 n)) := by
  refine tot_int hm1 (enters_some (fn := Tryz.f52) (by kernel_rfl) (by kernel_rfl) (by kernel_rfl)) ⟨1, fun h => absurd h (by decide)⟩ (h := h52) ?_
  rw [body52]; intro hwf
  simp only [sS, true_and, List.map_cons, List.map_nil, vget, bget, List.getD_cons_zero, List.getD_cons_succ, Box.vals, dI, Nat.le_refl, sP]
  refine And.intro (fun _ => ⟨_, rfl, fun h => absurd h (by decide)⟩) (fun _ => ?_)
  refine loopP_inv (fun i => ∀ (j : Nat) t, j < i → p.ty[j]? = some t → namesOk (t.name :: t.als) (tyN (p.ty.take j))) (fun i => [.d (.int .i64 ((i : Nat) : Int))]) (fun i => [cPol p]) p.ty.length (fun j t hj => by omega) (fun i hi hJ I hI => ?_) (fun hJ I => ?_)
  · simp only [sS, true_and, List.map_cons, List.map_nil, vget, bget, List.getD_cons_zero, List.getD_cons_succ, Box.vals, dI, Nat.le_refl, sP]
    refine And.intro (fun _ => ?_) (fun h => absurd h (by simp; omega))
    obtain ⟨t, ht⟩ := get_some hi
    have hta := h2 t (List.mem_of_getElem? ht)
    simp only [p.g_ty ht, sS, true_and, List.map_cons, List.map_nil, vget, bget, List.getD_cons_zero, List.getD_cons_succ, Box.vals, dI, Nat.le_refl, sP, sW, Nat.zero_add, len_strS, parts_s1, fit_s1, elems_s1]
    refine app_full (isSl_el t.alsH.sv) ?_ ?_
    · rw [len_strs]; show (1 + _) * 16 ≤ _; omega
    refine callP_to (typeNames_holds p i (by omega) h1 h2) (isTup_gown _ _) ?_
    simp only [sS, true_and, List.map_cons, List.map_nil, vget, bget, List.getD_cons_zero, List.getD_cons_succ, Box.vals, dI, Nat.le_refl, dem_gown, noRef_gown, demote_two]
    have hb := tyN_len (l := p.ty.take i) (m := 4) fun t' ht' => h2 t' (List.mem_of_mem_take ht')
    rw [List.length_take] at hb
    refine ex_int (names13_holds (t.name :: t.als) _ (is_fown 1 [.str t.name] (dStrs t.als)) (by simp only [maxLen, List.length_cons]; omega) (is_gsl 1 _).sv (by simp only [maxLen]; omega)) fun n1 hn1 => ?_
    simp only [sS, true_and, List.map_cons, List.map_nil, vget, bget, List.getD_cons_zero, List.getD_cons_succ, Box.vals, dI, Nat.le_refl]
    refine And.intro (fun h => ⟨_, rfl, fun h' => by rw [h'] at h; cases h⟩) (fun h => ?_)
    refine bindO_to (add_up hi (by simp only [maxLen]; omega)) ?_
    refine hI fun j t' hj ht' => ?_
    rcases Nat.lt_or_ge j i with h3 | h3
    · exact hJ j t' h3 ht'
    · have : j = i := by omega
      subst this
      rw [ht] at ht'
      cases ht'
      exact hn1 (by simpa using h)
  · simp only [sS, true_and, List.map_cons, List.map_nil, vget, bget, List.getD_cons_zero, List.getD_cons_succ, Box.vals, dI, Nat.le_refl, sP]
    refine And.intro (fun h => absurd h (by simp)) (fun _ => ?_)
    refine And.intro (fun _ => ⟨_, rfl, fun h => absurd h (by decide)⟩) (fun _ => ?_)
    refine callP_to (typeNames_holds p p.ty.length (Nat.le_refl _) h1 h2) (isTup_gown _ _) ?_
    rw [List.take_length]
    have hb := tyN_len (l := p.ty) (m := 4) h2
    have e0 : gown 1 (dStrs (tyN p.ty)) = gown 1 (dStrs (tyN p.ty) ++ dStrs ((p.at_.take 0).map AtD.name)) := by simp [dStrs]
    rw [e0]
    refine loopP_inv (fun i => ∀ (j : Nat) a, j < i → p.at_[j]? = some a → insW a.w (allW (clip (p.ty.length : Int))) = true) (fun i => [gown 1 (dStrs (tyN p.ty) ++ dStrs ((p.at_.take i).map AtD.name)), .d (.int .i64 ((i : Nat) : Int))]) (fun i => [cPol p]) p.at_.length (fun j t hj => by omega) (fun i hi hJ' I hI => ?_) (fun hJ' I => ?_)
    · simp only [sS, true_and, List.map_cons, List.map_nil, vget, bget, List.getD_cons_zero, List.getD_cons_succ, Box.vals, dI, Nat.le_refl, sP]
      refine And.intro (fun _ => ?_) (fun h => absurd h (by simp; omega))
      obtain ⟨a, ha⟩ := get_some hi
      have hlen := names_len AtD.name p.at_ i
      rw [show dStrs (tyN p.ty) ++ dStrs ((p.at_.take i).map AtD.name) = dStrs (tyN p.ty ++ (p.at_.take i).map AtD.name) from by simp [dStrs]]
      simp only [p.g_at_ ha, sS, true_and, List.map_cons, List.map_nil, vget, bget, List.getD_cons_zero, List.getD_cons_succ, Box.vals, dI, Nat.le_refl, sP, sW, Nat.zero_add, len_strS, parts_s1, fit_s1, elems_s1, dem_gown, noRef_gown]
      refine ex_int (names1_holds _ _ (by rw [len_strs] at hlen; rw [List.length_append]; omega)) fun n1 _ => ?_
      simp only [sS, true_and, List.map_cons, List.map_nil, vget, bget, List.getD_cons_zero, List.getD_cons_succ, Box.vals, dI, Nat.le_refl]
      refine And.intro (fun h => ⟨_, rfl, fun h' => by rw [h'] at h; cases h⟩) (fun _ => ?_)
      refine app_gown (elems_full _ _) ?_ ?_
      · rw [len_strs] at hlen; rw [len_strs, List.length_append]; show (_ + 1) * 16 ≤ _; omega
      refine call2 (some_holds a.w _) ?_
      simp only [sS, true_and, List.map_cons, List.map_nil, vget, bget, List.getD_cons_zero, List.getD_cons_succ, Box.vals, dI, Nat.le_refl]
      refine And.intro (fun h => ⟨_, rfl, fun h' => absurd h' (by decide)⟩) (fun h => ?_)
      refine bindO_to (add_up hi (by simp only [maxLen]; omega)) ?_
      rw [names_take AtD.name ha] at hI
      rw [show dStrs (tyN p.ty ++ (p.at_.take i).map AtD.name) ++ [.str a.name] = dStrs (tyN p.ty) ++ (dStrs ((p.at_.take i).map AtD.name) ++ [.str a.name]) from by simp [dStrs]]
      refine hI fun j a' hj ha' => ?_
      rcases Nat.lt_or_ge j i with h3 | h3
      · exact hJ' j a' h3 ha'
      · have : j = i := by omega
        subst this
        rw [ha] at ha'
        cases ha'
        simpa using h
    · simp only [sS, true_and, List.map_cons, List.map_nil, vget, bget, List.getD_cons_zero, List.getD_cons_succ, Box.vals, dI, Nat.le_refl, sP]
      refine And.intro (fun h => absurd h (by simp)) (fun _ => ?_)
      exact ⟨_, rfl, fun _ => ⟨fun i t ht => hJ i t (List.getElem?_eq_some_iff.1 ht).1 ht, fun i a ha => hJ' i a (List.getElem?_eq_some_iff.1 ha).1 ha⟩⟩
end Go.Proofs.YtcnnhnjcnekhcaaGreat.Ab
/-
  POLICIES ARE CHECKED: expressions.
-/
namespace Go.Proofs.YtcnnhnjcnekhcaaGreat.Ab
open Go
theorem maxD_natI (a b : Nat) : maxD (a : Int) (b : Int) = ((max a b : Nat) : Int) := by
  unfold maxD
  split <;> omega
theorem levels13_holds : ∀ (n : Nat) (e : Xp) (x : D) (m : Nat), e.lv ≤ n → IsE e x → m ≤ 100 → Holds Tryz.prog gl 90 [.d x, .d (.int .i64 (m : Int))] (.d (.int .i64 ((min e.lv m : Nat) : Int)))
  | 0, e, x, _, hn, _, _ => absurd hn (by have := lv_pos e; omega)
  | n + 1, e, x, m, hn, hx, hm => by
    refine holds_of_body hm1 (enters_some (fn := Tryz.f90) (by kernel_rfl) (by kernel_rfl) (by kernel_rfl)) (h := h90) ?_; rw [body90]; intro hwf
    have hlv := e.lv_eq
    obtain ⟨nm, kd, L, rfl, hnm, hl, hd, hk⟩ := hx.inv
    have hcap := ex_cap hwf hd
    simp only [sS, true_and, List.map_cons, List.map_nil, vget, bget, List.getD_cons_zero, List.getD_cons_succ, Box.vals, dI, Nat.le_refl]
    refine And.intro (fun h => ?_) (fun h => ?_)
    · have : m = 0 := by simpa using h
      subst this
      simp
    have hm0 : 1 ≤ m := by
      have : m ≠ 0 := by simpa using h
      omega
    refine loopP_count (fun i => [.d (.int .i64 (m : Int)), .d (.int .i64 ((min (Xp.lv.lvs (e.kids.take i)) (m - 1) : Nat) : Int)), .d (.int .i64 ((i : Nat) : Int))]) (fun i => [cEx e.op e.a e.rel e.b nm e.w kd]) L.length (fun i hi I hI => ?_) (fun I => ?_)
    · simp only [sS, true_and, List.map_cons, List.map_nil, vget, bget, List.getD_cons_zero, List.getD_cons_succ, Box.vals, dI, Nat.le_refl, hd.len]
      refine And.intro (fun _ => ?_) (fun h => absurd h (by simp; omega))
      obtain ⟨y, hy⟩ := get_some hi
      obtain ⟨k, hky⟩ := get_some (show i < e.kids.length by omega)
      have hek := hk i k y hky hy
      have hlt := Xp.kid_lt hky
      rw [hd.at hy]
      simp only [sS, true_and, List.map_cons, List.map_nil, vget, bget, List.getD_cons_zero, List.getD_cons_succ, Box.vals, dI, Nat.le_refl, hek.load]
      rw [sub_int1 (by omega) (by omega)]
      simp only [sS, true_and, List.map_cons, List.map_nil, vget, bget, List.getD_cons_zero, List.getD_cons_succ, Box.vals, dI, Nat.le_refl]
      rw [show (m : Int) - 1 = ((m - 1 : Nat) : Int) from by omega]
      refine callP_of (levels13_holds n k y (m - 1) (by omega) hek (by omega)) ?_
      simp only [sS, true_and, List.map_cons, List.map_nil, vget, bget, List.getD_cons_zero, List.getD_cons_succ, Box.vals, dI, Nat.le_refl, fold_max, maxD_natI]
      refine bindO_to (add_up hi hcap) ?_
      rw [lvs_min (m - 1) hky] at hI
      exact hI
    · simp only [sS, true_and, List.map_cons, List.map_nil, vget, bget, List.getD_cons_zero, List.getD_cons_succ, Box.vals, dI, Nat.le_refl, hd.len]
      refine And.intro (fun h => absurd h (by simp)) (fun _ => ?_)
      rw [hl, List.take_length]
      refine bindO_to (add_one (by omega)) ?_
      simp only [sS, true_and, List.map_cons, List.map_nil, vget, bget, List.getD_cons_zero, List.getD_cons_succ, Box.vals, dI, Nat.le_refl]
      rw [hlv, show min (Xp.lv.lvs e.kids) (m - 1) + 1 = min (Xp.lv.lvs e.kids + 1) m from by omega]
theorem levelsR13_holds {e : Xp} {x : D} (hx : IsE e x) : Holds Tryz.prog gl 49 [.d x] (.d (.int .i64 ((min e.lv 13 : Nat) : Int))) := by
  refine holds_of_body hm1 (enters_some (fn := Tryz.f49) (by kernel_rfl) (by kernel_rfl) (by kernel_rfl)) (h := h49) ?_; rw [body49]; intro hwf
  have h := levels13_holds e.lv e x 13 (Nat.le_refl _) hx (by decide)
  obtain ⟨cs, c1, c2, c3, c4⟩ := hx.cells
  simp only [sS, true_and, List.map_cons, List.map_nil, vget, bget, List.getD_cons_zero, List.getD_cons_succ, Box.vals, dI, Nat.le_refl, c1, c2, c3]
  refine callP_of h ?_
  simp only [sS, true_and, List.map_cons, List.map_nil, vget, bget, List.getD_cons_zero, List.getD_cons_succ, Box.vals, dI, Nat.le_refl]
theorem kids13_holds (op : Int) : Holds Tryz.prog gl 146 [.d (.int .i64 op)] (.d (.int .i64 (kids13 op))) := by
  refine holds_of_body hm1 (enters_some (fn := Tryz.f146) (by kernel_rfl) (by kernel_rfl) (by kernel_rfl)) (h := h146) ?_; rw [body146]; intro hwf
  simp only [sS, true_and, List.map_cons, List.map_nil, vget, bget, List.getD_cons_zero, List.getD_cons_succ, Box.vals, dI, Nat.le_refl]
  repeat' first | with_reducible refine And.intro (fun h => ?_) (fun h => ?_)
  all_goals (simp only [kids13]; simp_all)
theorem condition13_holds (p : PolD) : ∀ (n : Nat) (e : Xp) (x : D), e.lv ≤ n → IsE e x → Holds Tryz.prog gl 133 [.d (dPol p), .d x] (.d (.int .i64 (firstF (cnd1 (p.bo.length : Int)) e)))
  | 0, e, x, hn, _ => absurd hn (by have := lv_pos e; omega)
  | n + 1, e, x, hn, hx => by
    refine holds_of_body hm1 (enters_some (fn := Tryz.f133) (by kernel_rfl) (by kernel_rfl) (by kernel_rfl)) (h := h133) ?_; rw [body133]; intro hwf
    have hkids := kids13_holds e.op
    obtain ⟨nm, kd, L, rfl, hnm, hl, hd, hk⟩ := hx.inv
    have hcap := ex_cap (rest := []) ((SV.WfL_iff _).2 fun z hz => (SV.WfL_iff _).1 hwf z (List.mem_cons_of_mem _ hz)) hd
    have hloop : loopP (fun vs33 bs34 I35 =>
                          bindO (partV false 1 9 (bget bs34 1)) fun r36 =>
                          bindO (lenL (demote (demote r36))) fun r37 =>
                          bindO (binV none .lss (demote (demote (vget vs33 0))) (demote r37)) fun r38 =>
                          ifP r38
                            (bindO (partV true 17 0 (bget bs34 0)) fun r39 =>
                            bindO (partV false 1 9 (bget bs34 1)) fun r40 =>
                            bindO (elemPtr 10 (demote (demote r40)) (demote (demote (vget vs33 0)))) fun r41 =>
                            bindO (loadV true 10 (demote r41)) fun r42 =>
                            callP (Holds Tryz.prog gl) 133 [(demote (demote (demote r39))), (demote (demote r42))] fun r43 =>
                            bindO (binV (some (false, [.int])) .neq (demote (demote (demote r43))) (.d (.int .i64 0))) fun r44 =>
                            ifP r44
                              ((SV.noRef (demote (demote (demote r43)))) = true ∧
                              ((demote (demote (demote r43))) = SV.d (.int .i64 (firstF.go (cnd1 (p.bo.length : Int)) e.kids))))
                              (bindO (binV none .add (demote (demote (vget vs33 0))) (.d (.int .i64 1))) fun r45 =>
                              (I35 [(demote r45)] [(Box.vals (Box.cells (bget bs34 0))), (Box.vals (Box.cells (bget bs34 1)))])))
                            ((SV.noRef (.d (.int .i64 0))) = true ∧
                            (SV.d (.int .i64 0) = SV.d (.int .i64 (firstF.go (cnd1 (p.bo.length : Int)) e.kids)))))
                        [(.d (.int .i64 0))] [(Box.vals (Box.cells (cPol p))), (Box.vals (Box.cells (cEx e.op e.a e.rel e.b nm e.w kd)))] := by
      refine loopP_inv (fun i => firstF.go (cnd1 (p.bo.length : Int)) (e.kids.take i) = 0) (fun i => [.d (.int .i64 ((i : Nat) : Int))]) (fun i => [cPol p, cEx e.op e.a e.rel e.b nm e.w kd]) L.length rfl (fun i hi hJ I hI => ?_) (fun hJ I => ?_)
      · simp only [sS, true_and, List.map_cons, List.map_nil, vget, bget, List.getD_cons_zero, List.getD_cons_succ, Box.vals, dI, Nat.le_refl, sP, hd.len]
        refine And.intro (fun _ => ?_) (fun h => absurd h (by simp; omega))
        obtain ⟨y, hy⟩ := get_some hi
        obtain ⟨k, hky⟩ := get_some (show i < e.kids.length by omega)
        have hek := hk i k y hky hy
        have hlt := Xp.kid_lt hky
        rw [hd.at hy]
        simp only [sS, true_and, List.map_cons, List.map_nil, vget, bget, List.getD_cons_zero, List.getD_cons_succ, Box.vals, dI, Nat.le_refl, hek.load]
        refine callP_of (condition13_holds p n k y (by omega) hek) ?_
        simp only [sS, true_and, List.map_cons, List.map_nil, vget, bget, List.getD_cons_zero, List.getD_cons_succ, Box.vals, dI, Nat.le_refl]
        have ht := firsts_take hky hJ
        refine And.intro (fun h' => ?_) (fun h' => ?_)
        · have h1 : firstF (cnd1 (p.bo.length : Int)) k ≠ 0 := by simpa using h'
          rw [firsts_ne (i := i + 1) (by rw [ht]; exact h1), ht]
        · have h1 : firstF (cnd1 (p.bo.length : Int)) k = 0 := by simpa using h'
          refine bindO_to (add_up hi hcap) ?_
          exact hI (by rw [ht, h1])
      · simp only [sS, true_and, List.map_cons, List.map_nil, vget, bget, List.getD_cons_zero, List.getD_cons_succ, Box.vals, dI, Nat.le_refl, sP, hd.len]
        refine And.intro (fun h => absurd h (by simp)) (fun _ => ?_)
        rw [hl, List.take_length] at hJ
        rw [hJ]
    rw [firstF_eq]
    simp only [sS, true_and, List.map_cons, List.map_nil, vget, bget, List.getD_cons_zero, List.getD_cons_succ, Box.vals, dI, Nat.le_refl, sP] at hloop
    simp only [sS, true_and, List.map_cons, List.map_nil, vget, bget, List.getD_cons_zero, List.getD_cons_succ, Box.vals, dI, Nat.le_refl, sP, hd.len, hnm.len, len_strs, hl, build_zset]
    clear hwf hx hd hnm hk
    cases hA : cnd1 (p.bo.length : Int) e with
    | ofNat z =>
      by_cases hz : z = 0
      · subst hz
        have e0 : (if (Int.ofNat 0 != 0) = true then Int.ofNat 0 else firstF.go (cnd1 (p.bo.length : Int)) e.kids) = firstF.go (cnd1 (p.bo.length : Int)) e.kids := rfl
        rw [e0]
        unfold cnd1 lenK lenN at hA
        repeat' first | with_reducible refine And.intro (fun h => ?_) (fun h => ?_) | (with_reducible refine callP_of hkids ?_; simp only [sS, true_and, List.map_cons, List.map_nil, vget, bget, List.getD_cons_zero, List.getD_cons_succ, Box.vals, dI, Nat.le_refl]) | (with_reducible refine callP_of (below_holds _ _) ?_; simp only [sS, true_and, List.map_cons, List.map_nil, vget, bget, List.getD_cons_zero, List.getD_cons_succ, Box.vals, dI, Nat.le_refl, show ∀ a b, belF a b = belI a b from fun _ _ => rfl]) | exact hloop
        all_goals (exfalso; clear hloop; simp_all; done)
      · have e1 : (if (Int.ofNat z != 0) = true then Int.ofNat z else firstF.go (cnd1 (p.bo.length : Int)) e.kids) = Int.ofNat z := if_pos (by simpa using hz)
        rw [e1, ← hA]
        have hA' : cnd1 (p.bo.length : Int) e ≠ 0 := by rw [hA]; simpa using hz
        clear hA e1 hloop
        unfold cnd1 lenK lenN at *
        repeat' first | with_reducible refine And.intro (fun h => ?_) (fun h => ?_) | (with_reducible refine callP_of hkids ?_; simp only [sS, true_and, List.map_cons, List.map_nil, vget, bget, List.getD_cons_zero, List.getD_cons_succ, Box.vals, dI, Nat.le_refl]) | (with_reducible refine callP_of (below_holds _ _) ?_; simp only [sS, true_and, List.map_cons, List.map_nil, vget, bget, List.getD_cons_zero, List.getD_cons_succ, Box.vals, dI, Nat.le_refl, show ∀ a b, belF a b = belI a b from fun _ _ => rfl])
        all_goals first | (simp_all; done) | (exfalso; simp_all; done)
    | negSucc z =>
      exfalso
      unfold cnd1 at hA
      split at hA
      · cases hA
      · split at hA <;> cases hA
end Go.Proofs.YtcnnhnjcnekhcaaGreat.Ab
/-
  POLICIES ARE CHECKED: conditions, expressions of constraints.
-/
namespace Go.Proofs.YtcnnhnjcnekhcaaGreat.Ab
open Go
def condE (p : PolD) (e : Xp) : Int := if min e.lv 13 > 12 then 4 else firstF (cnd1 (p.bo.length : Int)) e
theorem Condition_holds (p : PolD) {e : Xp} {x : D} (hx : IsE e x) : Holds Tryz.prog gl 98 [.d (dPol p), .d x] (.d (.int .i64 (condE p e))) := by
  refine holds_of_body hm1 (enters_some (fn := Tryz.f98) (by kernel_rfl) (by kernel_rfl) (by kernel_rfl)) (h := h98) ?_; rw [body98]; intro hwf
  have h1 := levelsR13_holds hx
  have h2 := condition13_holds p e.lv e x (Nat.le_refl _) hx
  obtain ⟨cs, c1, c2, c3, c4⟩ := hx.cells
  simp only [sS, true_and, List.map_cons, List.map_nil, vget, bget, List.getD_cons_zero, List.getD_cons_succ, Box.vals, dI, Nat.le_refl, sP, c1, c2, c3]
  refine callP_of h1 ?_
  simp only [sS, true_and, List.map_cons, List.map_nil, vget, bget, List.getD_cons_zero, List.getD_cons_succ, Box.vals, dI, Nat.le_refl]
  refine And.intro (fun h => ?_) (fun h => ?_)
  · have : min e.lv 13 > 12 := by have := of_decide_eq_true h; omega
    rw [condE, if_pos this]
  · have : ¬ min e.lv 13 > 12 := by have := of_decide_eq_false h; omega
    refine callP_of h2 ?_
    simp only [sS, true_and, List.map_cons, List.map_nil, vget, bget, List.getD_cons_zero, List.getD_cons_succ, Box.vals, dI, Nat.le_refl]
    rw [condE, if_neg this]
theorem fields13_holds {e : Xp} {x : D} (hx : IsE e x) : ∃ b, True ∧ Holds Tryz.prog gl 147 [.d x] (.d (.bool b)) := by
  refine tot_bool hm1 (enters_some (fn := Tryz.f147) (by kernel_rfl) (by kernel_rfl) (by kernel_rfl)) ⟨true, trivial⟩ (h := h147) ?_
  rw [body147]; intro hwf
  obtain ⟨nm, kd, L, rfl, hn, hl, hd, hk⟩ := hx.inv
  simp only [sS, true_and, List.map_cons, List.map_nil, vget, bget, List.getD_cons_zero, List.getD_cons_succ, Box.vals, dI, Nat.le_refl, hd.len, hn.len, len_strs, build_zset]
  repeat' first | with_reducible refine And.intro (fun h => ?_) (fun h => ?_) | (with_reducible refine callP_of (kids13_holds _) ?_; simp only [sS, true_and, List.map_cons, List.map_nil, vget, bget, List.getD_cons_zero, List.getD_cons_succ, Box.vals, dI, Nat.le_refl])
  all_goals first | exact ⟨_, rfl, trivial⟩ | exact ⟨_, rfl, fun h => absurd h (by decide)⟩ | exact ⟨_, rfl, fun h => by simp_all⟩
theorem number13_holds (p : PolD) (a : Int) : ∃ n, True ∧ Holds Tryz.prog gl 149 [.d (dPol p), .d (.int .i64 a)] (.d (.int .i64 n)) := by
  refine tot_int hm1 (enters_some (fn := Tryz.f149) (by kernel_rfl) (by kernel_rfl) (by kernel_rfl)) ⟨1, trivial⟩ (h := h149) ?_
  rw [body149]; intro hwf
  simp only [sS, true_and, List.map_cons, List.map_nil, vget, bget, List.getD_cons_zero, List.getD_cons_succ, Box.vals, dI, Nat.le_refl, sP, rem_lit]
  repeat' first | with_reducible refine And.intro (fun h => ?_) (fun h => ?_)
  all_goals first | exact ⟨_, rfl, trivial⟩ | exact ⟨_, rfl, fun h => absurd h (by decide)⟩ | exact ⟨_, rfl, fun h => by simp_all⟩
theorem compare13_holds {e : Xp} {x : D} (hx : IsE e x) (m : Int) : ∃ n, True ∧ Holds Tryz.prog gl 148 [.d x, .d (.int .i64 m)] (.d (.int .i64 n)) := by
  refine tot_int hm1 (enters_some (fn := Tryz.f148) (by kernel_rfl) (by kernel_rfl) (by kernel_rfl)) ⟨1, trivial⟩ (h := h148) ?_
  rw [body148]; intro hwf
  obtain ⟨nm, kd, L, rfl, hn, hl, hd, hk⟩ := hx.inv
  simp only [sS, true_and, List.map_cons, List.map_nil, vget, bget, List.getD_cons_zero, List.getD_cons_succ, Box.vals, dI, Nat.le_refl, rem_lit]
  repeat' first | with_reducible refine And.intro (fun h => ?_) (fun h => ?_) | (with_reducible refine callP_of (below_holds _ _) ?_; simp only [sS, true_and, List.map_cons, List.map_nil, vget, bget, List.getD_cons_zero, List.getD_cons_succ, Box.vals, dI, Nat.le_refl])
  all_goals first | exact ⟨_, rfl, trivial⟩ | exact ⟨_, rfl, fun h => absurd h (by decide)⟩ | exact ⟨_, rfl, fun h => by simp_all⟩
theorem expression13_holds (p : PolD) (m : Int) : ∀ (n : Nat) (e : Xp) (x : D), e.lv ≤ n → IsE e x → ∃ r, True ∧ Holds Tryz.prog gl 134 [.d (dPol p), .d x, .d (.int .i64 m)] (.d (.int .i64 r))
  | 0, e, x, hn, _ => absurd hn (by have := lv_pos e; omega)
  | n + 1, e, x, hn, hx => by
    refine tot_int hm1 (enters_some (fn := Tryz.f134) (by kernel_rfl) (by kernel_rfl) (by kernel_rfl)) ⟨1, trivial⟩ (h := h134) ?_
    rw [body134]; intro hwf
    have hf := fields13_holds hx
    have hc := compare13_holds hx m
    obtain ⟨nm, kd, L, rfl, hnm, hl, hd, hk⟩ := hx.inv
    have hcap := ex_cap (rest := [.d (.int .i64 m)]) ((SV.WfL_iff _).2 fun z hz => (SV.WfL_iff _).1 hwf z (List.mem_cons_of_mem _ hz)) hd
    have hloop : loopP (fun vs23 bs24 I25 =>
                  bindO (partV false 1 9 (bget bs24 1)) fun r26 =>
                  bindO (lenL (demote (demote r26))) fun r27 =>
                  bindO (binV none .lss (demote (demote (vget vs23 1))) (demote r27)) fun r28 =>
                  ifP r28
                    (bindO (partV true 17 0 (bget bs24 0)) fun r29 =>
                    bindO (partV false 1 9 (bget bs24 1)) fun r30 =>
                    bindO (elemPtr 10 (demote (demote r30)) (demote (demote (vget vs23 1)))) fun r31 =>
                    bindO (loadV true 10 (demote r31)) fun r32 =>
                    callP (Holds Tryz.prog gl) 134 [(demote (demote (demote r29))), (demote (demote r32)), (demote (demote (demote (vget vs23 0))))] fun r33 =>
                    bindO (binV (some (false, [.int])) .neq (demote (demote (demote r33))) (.d (.int .i64 0))) fun r34 =>
                    ifP r34
                      ((SV.noRef (demote (demote (demote r33)))) = true ∧
                      (∃ b, (demote (demote (demote r33))) = SV.d (.int .i64 b) ∧ True))
                      (bindO (binV none .add (demote (demote (vget vs23 1))) (.d (.int .i64 1))) fun r35 =>
                      (I25 [(vget vs23 0), (demote r35)] [(Box.vals (Box.cells (bget bs24 0))), (Box.vals (Box.cells (bget bs24 1)))])))
                    ((SV.noRef (.d (.int .i64 0))) = true ∧
                    (∃ b, (SV.d (.int .i64 0)) = SV.d (.int .i64 b) ∧ True)))
                [.d (.int .i64 m), (.d (.int .i64 0))] [(Box.vals (Box.cells (cPol p))), (Box.vals (Box.cells (cEx e.op e.a e.rel e.b nm e.w kd)))] := by
      refine loopP_count (fun i => [.d (.int .i64 m), .d (.int .i64 ((i : Nat) : Int))]) (fun i => [cPol p, cEx e.op e.a e.rel e.b nm e.w kd]) L.length (fun i hi I hI => ?_) (fun I => ?_)
      · simp only [sS, true_and, List.map_cons, List.map_nil, vget, bget, List.getD_cons_zero, List.getD_cons_succ, Box.vals, dI, Nat.le_refl, sP, hd.len]
        refine And.intro (fun _ => ?_) (fun h => absurd h (by simp; omega))
        obtain ⟨y, hy⟩ := get_some hi
        obtain ⟨k, hky⟩ := get_some (show i < e.kids.length by omega)
        have hek := hk i k y hky hy
        have hlt := Xp.kid_lt hky
        rw [hd.at hy]
        simp only [sS, true_and, List.map_cons, List.map_nil, vget, bget, List.getD_cons_zero, List.getD_cons_succ, Box.vals, dI, Nat.le_refl, hek.load]
        refine ex_int (expression13_holds p m n k y (by omega) hek) fun r _ => ?_
        simp only [sS, true_and, List.map_cons, List.map_nil, vget, bget, List.getD_cons_zero, List.getD_cons_succ, Box.vals, dI, Nat.le_refl]
        refine And.intro (fun h' => ⟨_, rfl, trivial⟩) (fun h' => ?_)
        refine bindO_to (add_up hi hcap) ?_
        exact hI
      · simp only [sS, true_and, List.map_cons, List.map_nil, vget, bget, List.getD_cons_zero, List.getD_cons_succ, Box.vals, dI, Nat.le_refl, sP, hd.len]
        refine And.intro (fun h => absurd h (by simp)) (fun _ => ⟨_, rfl, trivial⟩)
    simp only [sS, true_and, List.map_cons, List.map_nil, vget, bget, List.getD_cons_zero, List.getD_cons_succ, Box.vals, dI, Nat.le_refl, sP] at hloop
    clear hwf hk
    simp only [sS, true_and, List.map_cons, List.map_nil, vget, bget, List.getD_cons_zero, List.getD_cons_succ, Box.vals, dI, Nat.le_refl, sP]
    refine ex_bool hf fun b1 _ => ?_
    simp only [sS, true_and, List.map_cons, List.map_nil, vget, bget, List.getD_cons_zero, List.getD_cons_succ, Box.vals, dI, Nat.le_refl]
    refine And.intro (fun _ => ⟨_, rfl, trivial⟩) (fun _ => ?_)
    refine And.intro (fun _ => ?_) (fun _ => ?_)
    · refine ex_int hc fun r _ => ?_
      simp only [sS, true_and, List.map_cons, List.map_nil, vget, bget, List.getD_cons_zero, List.getD_cons_succ, Box.vals, dI, Nat.le_refl]
      exact ⟨_, rfl, trivial⟩
    refine And.intro (fun _ => ?_) (fun _ => ?_)
    · refine callP_of (below_holds _ _) ?_
      simp only [sS, true_and, List.map_cons, List.map_nil, vget, bget, List.getD_cons_zero, List.getD_cons_succ, Box.vals, dI, Nat.le_refl]
      refine And.intro (fun _ => ⟨_, rfl, trivial⟩) (fun _ => ?_)
      refine ex_int (number13_holds p e.a) fun r _ => ?_
      simp only [sS, true_and, List.map_cons, List.map_nil, vget, bget, List.getD_cons_zero, List.getD_cons_succ, Box.vals, dI, Nat.le_refl]
      refine And.intro (fun _ => ⟨_, rfl, trivial⟩) (fun _ => ?_)
      refine call2 (some_holds e.w r) ?_
      simp only [sS, true_and, List.map_cons, List.map_nil, vget, bget, List.getD_cons_zero, List.getD_cons_succ, Box.vals, dI, Nat.le_refl]
      refine And.intro (fun _ => ⟨_, rfl, trivial⟩) (fun _ => ?_)
      refine And.intro (fun _ => ⟨_, rfl, trivial⟩) (fun _ => ?_)
      exact hloop
    · exact hloop
theorem Expression_holds (p : PolD) {e : Xp} {x : D} (hx : IsE e x) (v : Bool) : ∃ r, True ∧ Holds Tryz.prog gl 103 [.d (dPol p), .d x, .d (.bool v)] (.d (.int .i64 r)) := by
  refine tot_int hm1 (enters_some (fn := Tryz.f103) (by kernel_rfl) (by kernel_rfl) (by kernel_rfl)) ⟨1, trivial⟩ (h := h103) ?_
  rw [body103]; intro hwf
  have h1 := levelsR13_holds hx
  have h2 := fun m => expression13_holds p m e.lv e x (Nat.le_refl _) hx
  obtain ⟨cs, c1, c2, c3, c4⟩ := hx.cells
  simp only [sS, true_and, List.map_cons, List.map_nil, vget, bget, List.getD_cons_zero, List.getD_cons_succ, Box.vals, dI, Nat.le_refl, sP, c1, c2, c3]
  refine callP_of h1 ?_
  simp only [sS, true_and, List.map_cons, List.map_nil, vget, bget, List.getD_cons_zero, List.getD_cons_succ, Box.vals, dI, Nat.le_refl]
  repeat' first | with_reducible refine And.intro (fun h => ?_) (fun h => ?_) | (with_reducible refine ex_int (h2 _) fun r _ => ?_; simp only [sS, true_and, List.map_cons, List.map_nil, vget, bget, List.getD_cons_zero, List.getD_cons_succ, Box.vals, dI, Nat.le_refl])
  all_goals first | exact ⟨_, rfl, trivial⟩ | exact ⟨_, rfl, fun h => absurd h (by decide)⟩ | exact ⟨_, rfl, fun h => by simp_all⟩
end Go.Proofs.YtcnnhnjcnekhcaaGreat.Ab
