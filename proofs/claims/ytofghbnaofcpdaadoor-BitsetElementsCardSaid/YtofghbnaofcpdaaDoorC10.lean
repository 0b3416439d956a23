/-
  THE LAWS OF PACKAGE 01.
-/
import Derived.Test.YtofghbnaofcpdaaDoorPl1
set_option linter.unusedVariables false
set_option linter.unusedSimpArgs false
namespace Go.Proofs.YtofghbnaofcpdaaDoor.Ab
open Go

theorem eql_bool (a b : Bool) : binV (some (false, [.bool])) .eql (.d (.bool a)) (.d (.bool b)) = some (.d (.bool (a == b))) := by
  simp only [binV, binD]
theorem leq_lit (m n : Int) : binV none .leq (.d (.int .i64 m)) (.d (.int .i64 n)) = some (.d (.bool (decide (m ≤ n)))) := by
  simp only [binV, binD, intBop, ↓reduceIte]
theorem gtr_lit (m n : Int) : binV none .gtr (.d (.int .i64 m)) (.d (.int .i64 n)) = some (.d (.bool (decide (m > n)))) := by
  simp only [binV, binD, intBop, ↓reduceIte]
theorem ints_nown (w : Nat → BitVec 64) : IsInts (listW w 256) (demote (nown (listW w 256))) := is_list w _ rfl

theorem e3 : Enters Tryd.prog 3 := enters_some (fn := Tryd.f3) (by kernel_rfl) (by kernel_rfl) (by kernel_rfl)
theorem law3_holds (w : Nat → BitVec 64) : Holds Tryd.prog gl 3 [.d (dSet w)] (.d (.bool true)) := by
  refine holds_of_body hm1 e3 (h := h3) ?_
  rw [body3]
  intro hwf
  have hx := ints_nown w
  have hl := listW_len w 256
  obtain ⟨c, hc⟩ : ∃ c : Int, (cntW w 4 : Nat) = c := ⟨_, rfl⟩
  have hcount : Holds Tryd.prog gl 9 [.d (dSet w)] (.d (dI c)) := by rw [← hc]; exact count_holds w
  have hcountR : Holds Tryd.prog gl 10 [.d (dSet w)] (.d (dI c)) := by rw [← hc]; exact countR_holds w
  obtain ⟨m, hm⟩ : ∃ m : Int, leastF w 256 0 = m := ⟨_, rfl⟩
  have hleast : Holds Tryd.prog gl 11 [.d (dSet w)] (.d (dI m)) := by rw [← hm]; exact least_holds w
  have hleastR : Holds Tryd.prog gl 12 [.d (dSet w)] (.d (dI m)) := by rw [← hm]; exact leastR_holds w
  have hof := of_list w
  have hlist := list_holds w
  have hlistR := listR_holds w
  have ht := isTup_nown (listW w 256)
  generalize listW w 256 = l at *
  have hd2 := demote_two (nown l)
  refine bindO_to (cells_set w) ⟨len_cSet w, ?_⟩
  refine bindO_to (part_set w) ?_
  rw [demote_d, demote_d, demote_d]
  refine callP_to hlist ht ?_
  refine bindO_to (part_set w) ?_
  refine callP_of hcount ?_
  refine bindO_to (part_set w) ?_
  refine callP_of hcountR ?_
  refine bindO_to (eql_int _ _) ?_
  refine ifP_to rfl (beq_self_eq_true _) ?_
  refine bindO_to (part_set w) ?_
  refine callP_of hleast ?_
  refine bindO_to (part_set w) ?_
  refine callP_of hleastR ?_
  refine bindO_to (eql_int _ _) ?_
  refine ifP_to rfl (beq_self_eq_true _) ?_
  refine bindO_to (part_set w) ?_
  refine callP_to hlistR ht ?_
  rw [demote_two, demote_two, demote_two]
  generalize demote (nown l) = y at *
  refine callP_of (ints_holds l l hx hx (by omega) rfl) ?_
  refine ifP_to rfl rfl ?_
  refine callP_of (of_holds l hx (by omega)) ?_
  refine bindO_to (part_set w) ?_
  refine bindO_to (eql_set _ w) ?_
  refine ifP_to rfl hof ?_
  refine callP_of alive_holds ?_
  exact ⟨rfl, rfl⟩

theorem e4 : Enters Tryd.prog 4 := enters_some (fn := Tryd.f4) (by kernel_rfl) (by kernel_rfl) (by kernel_rfl)
theorem add_one_int (i : Nat) (h : i < 2 ^ 40) : binV none .add (.d (.int .i64 ((i : Int) - 1))) (.d (.int .i64 1)) = some (.d (.int .i64 (((i + 1 : Nat) : Int) - 1))) := by
  have h2 : IntKind.i64.wrap (((i : Int) - 1) + 1) = ((i + 1 : Nat) : Int) - 1 := by rw [wrap_i64 (by omega) (by omega)]; omega
  simp only [binV, binD, intBop, h2, ↓reduceIte]
theorem law4_holds (a b : Nat → BitVec 64) : Holds Tryd.prog gl 4 [.d (dSet a), .d (dSet b)] (.d (.bool true)) := by
  refine holds_of_body hm1 e4 (h := h4) ?_
  rw [body4]
  intro hwf
  rw [demote_d, demote_d]
  refine bindO_to (cells_set a) ⟨len_cSet a, ?_⟩
  refine bindO_to (cells_set b) ⟨len_cSet b, ?_⟩
  refine loopP_count (fun i => [.d (.bool (smW a b i)), .d (.int .i64 ((i : Int) - 1))]) (fun i => [cSet a, cSet b]) 258 (fun i hi I hI => ?_) (fun I => ?_)
  · simp only [vget, bget, List.getD_cons_zero, List.getD_cons_succ, demote_d, Box.vals]
    refine bindO_to (leq_lit _ _) ?_
    refine ifP_to rfl (decide_eq_true (by omega)) ?_
    cases hs : smW a b i with
    | true =>
      refine ifP_to rfl rfl ?_
      refine bindO_to (part_set a) ?_
      refine callP_of (has_holds a _) ?_
      refine bindO_to (part_set b) ?_
      refine callP_of (has_holds b _) ?_
      refine bindO_to (eql_bool _ _) ?_
      refine bindO_to (add_one_int i (by omega)) ?_
      rw [smW, hs, Bool.true_and] at hI
      exact hI
    | false =>
      refine ifP_no rfl rfl ?_
      refine bindO_to (add_one_int i (by omega)) ?_
      rw [smW, hs, Bool.false_and] at hI
      exact hI
  · have hs := smW_end a b
    generalize smW a b 258 = s at hs ⊢
    simp only [vget, bget, List.getD_cons_zero, List.getD_cons_succ, demote_d, Box.vals]
    rw [show ((258 : Nat) : Int) - 1 = 257 by decide, leq_lit, bindO_some']
    refine ifP_no rfl (by decide) ?_
    refine bindO_to (part_set a) ?_
    refine bindO_to (part_set b) ?_
    refine bindO_to (eql_set a b) ?_
    rw [demote_d, hs]
    refine bindO_to (eql_bool _ _) ?_
    refine ifP_to rfl (beq_self_eq_true _) ?_
    refine callP_of alive_holds ?_
    exact ⟨rfl, rfl⟩

theorem e5 : Enters Tryd.prog 5 := enters_some (fn := Tryd.f5) (by kernel_rfl) (by kernel_rfl) (by kernel_rfl)
theorem law5_holds (w : Nat → BitVec 64) (l : List Int) (x : D) (hx : IsInts l (.d x)) (n : Int) : Holds Tryd.prog gl 5 [.d (dSet w), .d x, .d (dI n)] (.d (.bool true)) := by
  refine holds_of_body hm1 e5 (h := h5) ?_
  rw [body5]
  intro hwf
  rw [demote_d, demote_d, demote_d, demote_d]
  refine bindO_to (cells_set w) ⟨len_cSet w, ?_⟩
  refine bindO_to hx.len ?_
  refine bindO_to (gtr_lit _ _) ?_
  by_cases hc : (l.length : Int) > 1000
  · refine ifP_to rfl (decide_eq_true hc) ?_
    refine callP_of alive_holds ?_
    exact ⟨rfl, rfl⟩
  · have hl : l.length < 2 ^ 62 := by omega
    refine ifP_no rfl (decide_eq_false hc) ?_
    refine callP_of (of_holds l hx hl) ?_
    refine callP_of (ofR_holds l hx hl) ?_
    refine bindO_to (eql_set _ _) ?_
    refine ifP_to rfl (eqW_refl _) ?_
    refine callP_of (all_holds n) ?_
    refine callP_of (allR_holds n) ?_
    refine bindO_to (eql_set _ _) ?_
    refine ifP_to rfl (eqW_refl _) ?_
    refine bindO_to (part_set w) ?_
    refine callP_of (has_holds w n) ?_
    refine bindO_to (part_set w) ?_
    refine callP_of (hasR_holds w n) ?_
    refine bindO_to (eql_bool _ _) ?_
    refine ifP_to rfl (beq_self_eq_true _) ?_
    refine bindO_to (part_set w) ?_
    refine callP_of (with_holds w n) ?_
    refine bindO_to (part_set w) ?_
    refine callP_of (withR_holds w n) ?_
    refine bindO_to (eql_set _ _) ?_
    refine ifP_to rfl (eqW_refl _) ?_
    refine bindO_to (part_set w) ?_
    refine callP_of (without_holds w n) ?_
    refine bindO_to (part_set w) ?_
    refine callP_of (withoutR_holds w n) ?_
    refine bindO_to (eql_set _ _) ?_
    refine ifP_to rfl (eqW_refl _) ?_
    refine callP_of alive_holds ?_
    exact ⟨rfl, rfl⟩

theorem e6 : Enters Tryd.prog 6 := enters_some (fn := Tryd.f6) (by kernel_rfl) (by kernel_rfl) (by kernel_rfl)
theorem law6_holds (a b : Nat → BitVec 64) : Holds Tryd.prog gl 6 [.d (dSet a), .d (dSet b)] (.d (.bool true)) := by
  refine holds_of_body hm1 e6 (h := h6) ?_
  rw [body6]
  intro hwf
  rw [demote_d, demote_d]
  refine bindO_to (cells_set a) ⟨len_cSet a, ?_⟩
  refine bindO_to (cells_set b) ⟨len_cSet b, ?_⟩
  refine bindO_to (part_set a) ?_
  refine bindO_to (part_set b) ?_
  refine callP_of (union_holds a b) ?_
  refine bindO_to (part_set a) ?_
  refine bindO_to (part_set b) ?_
  refine callP_of (unionR_holds a b) ?_
  refine bindO_to (eql_set _ _) ?_
  refine ifP_to rfl (eqW_refl _) ?_
  refine bindO_to (part_set a) ?_
  refine bindO_to (part_set b) ?_
  refine callP_of (meet_holds a b) ?_
  refine bindO_to (part_set a) ?_
  refine bindO_to (part_set b) ?_
  refine callP_of (meetR_holds a b) ?_
  refine bindO_to (eql_set _ _) ?_
  refine ifP_to rfl (eqW_refl _) ?_
  refine bindO_to (part_set a) ?_
  refine bindO_to (part_set b) ?_
  refine callP_of (minus_holds a b) ?_
  refine bindO_to (part_set a) ?_
  refine bindO_to (part_set b) ?_
  refine callP_of (minusR_holds a b) ?_
  refine bindO_to (eql_set _ _) ?_
  refine ifP_to rfl (eqW_refl _) ?_
  refine bindO_to (part_set a) ?_
  refine bindO_to (part_set b) ?_
  refine callP_of (within_holds a b) ?_
  refine bindO_to (part_set a) ?_
  refine bindO_to (part_set b) ?_
  refine callP_of (withinR_holds a b) ?_
  refine bindO_to (eql_bool _ _) ?_
  refine ifP_to rfl (by rw [within_eq]; exact beq_self_eq_true _) ?_
  refine bindO_to (part_set a) ?_
  refine bindO_to (part_set b) ?_
  refine callP_of (meet_holds a b) ?_
  refine bindO_to (part_set a) ?_
  refine callP_of (within_holds _ a) ?_
  refine ifP_to rfl (eqW_of fun k _ => by rw [BitVec.and_assoc, BitVec.and_comm (b k), ← BitVec.and_assoc, BitVec.and_self]) ?_
  refine callP_of alive_holds ?_
  exact ⟨rfl, rfl⟩

theorem neg_of {w v : Nat → BitVec 64} (h : ∀ k, w k = v k) : (!eqW w v) = false := by rw [eqW_of fun k _ => h k]; rfl
theorem bits2 (x y : BitVec 64) (h : ∀ i, i < 64 → x.getLsbD i = y.getLsbD i) : x = y := BitVec.eq_of_getLsbD_eq h
theorem e7 : Enters Tryd.prog 7 := enters_some (fn := Tryd.f7) (by kernel_rfl) (by kernel_rfl) (by kernel_rfl)
theorem law7_holds (a b c : Nat → BitVec 64) : Holds Tryd.prog gl 7 [.d (dSet a), .d (dSet b), .d (dSet c)] (.d (.bool true)) := by
  refine holds_of_body hm1 e7 (h := h7) ?_
  rw [body7]
  intro hwf
  rw [demote_d, demote_d, demote_d]
  refine bindO_to (cells_set a) ⟨len_cSet a, ?_⟩
  refine bindO_to (cells_set b) ⟨len_cSet b, ?_⟩
  refine bindO_to (cells_set c) ⟨len_cSet c, ?_⟩
  refine bindO_to (part_set a) ?_
  refine bindO_to (part_set b) ?_
  refine callP_of (union_holds a b) ?_
  refine bindO_to (part_set a) ?_
  refine bindO_to (part_set b) ?_
  refine callP_of (meet_holds a b) ?_
  obtain ⟨u, hu⟩ : ∃ u, u = fun k => a k ||| b k := ⟨_, rfl⟩
  obtain ⟨m, hm⟩ : ∃ m, m = fun k => a k &&& b k := ⟨_, rfl⟩
  rw [← hu, ← hm]
  refine bindO_to (cells_set u) ⟨len_cSet u, Nat.le_refl 4, ?_⟩
  refine bindO_to (cells_set m) ⟨len_cSet m, Nat.le_refl 4, ?_⟩
  rw [zero_set, set_all, set_all]
  refine bindO_to (part_set u) ?_
  refine bindO_to (part_set b) ?_
  refine bindO_to (part_set a) ?_
  refine callP_of (union_holds b a) ?_
  refine bindO_to (neq_set _ _) ?_
  refine ifP_no rfl (neg_of (fun k => by rw [hu]; exact BitVec.or_comm _ _)) ?_
  refine bindO_to (part_set m) ?_
  refine bindO_to (part_set b) ?_
  refine bindO_to (part_set a) ?_
  refine callP_of (meet_holds b a) ?_
  refine bindO_to (neq_set _ _) ?_
  refine ifP_no rfl (neg_of (fun k => by rw [hm]; exact BitVec.and_comm _ _)) ?_
  refine bindO_to (part_set u) ?_
  refine bindO_to (part_set c) ?_
  refine callP_of (union_holds u c) ?_
  refine bindO_to (part_set a) ?_
  refine bindO_to (part_set b) ?_
  refine bindO_to (part_set c) ?_
  refine callP_of (union_holds b c) ?_
  refine callP_of (union_holds a _) ?_
  refine bindO_to (neq_set _ _) ?_
  refine ifP_no rfl (neg_of (fun k => by rw [hu]; exact BitVec.or_assoc _ _ _)) ?_
  refine bindO_to (part_set m) ?_
  refine bindO_to (part_set c) ?_
  refine callP_of (meet_holds m c) ?_
  refine bindO_to (part_set a) ?_
  refine bindO_to (part_set b) ?_
  refine bindO_to (part_set c) ?_
  refine callP_of (meet_holds b c) ?_
  refine callP_of (meet_holds a _) ?_
  refine bindO_to (neq_set _ _) ?_
  refine ifP_no rfl (neg_of (fun k => by rw [hm]; exact BitVec.and_assoc _ _ _)) ?_
  refine bindO_to (part_set a) ?_
  refine bindO_to (part_set b) ?_
  refine bindO_to (part_set c) ?_
  refine callP_of (union_holds b c) ?_
  refine callP_of (meet_holds a _) ?_
  refine bindO_to (part_set m) ?_
  refine bindO_to (part_set a) ?_
  refine bindO_to (part_set c) ?_
  refine callP_of (meet_holds a c) ?_
  refine callP_of (union_holds m _) ?_
  refine bindO_to (neq_set _ _) ?_
  refine ifP_no rfl (neg_of (fun k => by rw [hm]; exact bits2 _ _ (fun i _ => by simp only [BitVec.getLsbD_and, BitVec.getLsbD_or]; cases (a k).getLsbD i <;> cases (b k).getLsbD i <;> cases (c k).getLsbD i <;> rfl))) ?_
  refine bindO_to (part_set a) ?_
  refine bindO_to (part_set b) ?_
  refine bindO_to (part_set c) ?_
  refine callP_of (meet_holds b c) ?_
  refine callP_of (union_holds a _) ?_
  refine bindO_to (part_set u) ?_
  refine bindO_to (part_set a) ?_
  refine bindO_to (part_set c) ?_
  refine callP_of (union_holds a c) ?_
  refine callP_of (meet_holds u _) ?_
  refine bindO_to (neq_set _ _) ?_
  refine ifP_no rfl (neg_of (fun k => by rw [hu]; exact bits2 _ _ (fun i _ => by simp only [BitVec.getLsbD_and, BitVec.getLsbD_or]; cases (a k).getLsbD i <;> cases (b k).getLsbD i <;> cases (c k).getLsbD i <;> rfl))) ?_
  refine bindO_to (part_set a) ?_
  refine bindO_to (part_set b) ?_
  refine callP_of (minus_holds a b) ?_
  obtain ⟨d, hd⟩ : ∃ d, d = fun k => a k &&& ~~~ b k := ⟨_, rfl⟩
  rw [← hd]
  refine bindO_to (cells_set d) ⟨len_cSet d, Nat.le_refl 4, ?_⟩
  rw [set_all]
  refine bindO_to (part_set d) ?_
  refine bindO_to (part_set m) ?_
  refine callP_of (meet_holds d m) ?_
  refine bindO_to parts_nil ?_
  refine bindO_to build_set ?_
  refine bindO_to (eql_set _ _) ?_
  refine ifP_to rfl (eqW_of fun k _ => by rw [hd, hm]; exact bits2 _ _ (fun i hi => by simp only [BitVec.getLsbD_and, BitVec.getLsbD_not, hi, decide_true, Bool.true_and]; rw [show ((0 : BitVec 64)).getLsbD i = false from BitVec.getLsbD_zero]; cases (a k).getLsbD i <;> cases (b k).getLsbD i <;> rfl)) ?_
  refine bindO_to (part_set d) ?_
  refine bindO_to (part_set m) ?_
  refine callP_of (union_holds d m) ?_
  refine bindO_to (part_set a) ?_
  refine bindO_to (eql_set _ _) ?_
  refine ifP_to rfl (eqW_of fun k _ => by rw [hd, hm]; exact bits2 _ _ (fun i hi => by simp only [BitVec.getLsbD_and, BitVec.getLsbD_or, BitVec.getLsbD_not, hi, decide_true, Bool.true_and]; cases (a k).getLsbD i <;> cases (b k).getLsbD i <;> rfl)) ?_
  have hcnt := cnt_or_and a b 4
  rw [← hu, ← hm] at hcnt
  have b1 := cntW_le u 4
  have b2 := cntW_le m 4
  have b3 := cntW_le a 4
  have b4 := cntW_le b 4
  refine bindO_to (part_set u) ?_
  obtain ⟨nu, hnu⟩ : ∃ n, cntW u 4 = n := ⟨_, rfl⟩
  refine callP_of (count_is u nu hnu) ?_
  refine bindO_to (part_set m) ?_
  obtain ⟨nm, hnm⟩ : ∃ n, cntW m 4 = n := ⟨_, rfl⟩
  refine callP_of (count_is m nm hnm) ?_
  rw [demote_d, demote_d]
  refine bindO_to (add_nat (by omega)) ?_
  refine bindO_to (part_set a) ?_
  obtain ⟨na, hna⟩ : ∃ n, cntW a 4 = n := ⟨_, rfl⟩
  refine callP_of (count_is a na hna) ?_
  refine bindO_to (part_set b) ?_
  obtain ⟨nb, hnb⟩ : ∃ n, cntW b 4 = n := ⟨_, rfl⟩
  refine callP_of (count_is b nb hnb) ?_
  rw [demote_d, demote_d]
  refine bindO_to (add_nat (by omega)) ?_
  refine bindO_to (eql_int _ _) ?_
  refine ifP_to rfl (by rw [beq_iff_eq]; omega) ?_
  refine bindO_to (part_set a) ?_
  refine bindO_to (part_set b) ?_
  refine callP_of (within_holds a b) ?_
  refine bindO_to (part_set d) ?_
  refine bindO_to parts_nil ?_
  refine bindO_to build_set ?_
  refine bindO_to (eql_set d _) ?_
  refine bindO_to (eql_bool _ _) ?_
  refine ifP_to rfl (by rw [within_eq, hd]; exact beq_self_eq_true _) ?_
  refine callP_of alive_holds ?_
  exact ⟨rfl, rfl⟩
end Go.Proofs.YtofghbnaofcpdaaDoor.Ab
