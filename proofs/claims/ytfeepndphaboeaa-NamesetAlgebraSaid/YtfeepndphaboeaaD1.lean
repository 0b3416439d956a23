/-
  Steps towards the claim of this seat (D1).
-/
import Derived.Test.YtfeepndphaboeaaB9
import Derived.Test.YtfeepndphaboeaaTy2
set_option linter.unusedVariables false
set_option linter.unusedSimpArgs false
namespace Go.Proofs.Ytfeepndphaboeaa.Ab
open Go
theorem hm1 : (Try.prog).follows .mixedOrders = true := by kernel_rfl
theorem e55 : Enters Try.prog 55 := enters_some (fn := Try.f55) (by kernel_rfl) (by kernel_rfl) (by kernel_rfl)
theorem inside_holds (n : Int) : Holds Try.prog gl 55 [.d (dI n)] (.d (.bool (decide (0 ≤ n) && decide (n < 256)))) := by
  refine holds_of_body hm1 e55 (h := h55) ?_
  rw [body55]
  intro hwf
  simp only [demote_d, dI, binV, binD, intBop, bindO_some', ifP_dec, noRef_d, true_and, ↓reduceIte]
  refine ⟨fun h => ?_, fun h => ?_⟩
  · simp only [ge_iff_le] at h; rw [h]; rfl
  · simp only [ge_iff_le] at h; rw [h]; rfl
theorem e44 : Enters Try.prog 44 := enters_some (fn := Try.f44) (by kernel_rfl) (by kernel_rfl) (by kernel_rfl)
def hasI (w : Nat → BitVec 64) (n : Int) : Bool := decide (0 ≤ n) && decide (n < 256) && hasW w n.toNat
theorem has_holds (w : Nat → BitVec 64) (n : Int) : Holds Try.prog gl 44 [.d (dSet w), .d (dI n)] (.d (.bool (hasI w n))) := by
  refine holds_of_body hm1 e44 (h := h44) ?_
  rw [body44]
  intro hwf
  simp only [demote_d, cells_set, bindO_some', len_cSet, true_and]
  refine callP_of (inside_holds n) ?_
  simp only [demote_d, ifP_dec, noRef_d, true_and]
  refine ⟨fun h => ?_, fun h => ?_⟩
  · simp only [Bool.and_eq_true, decide_eq_true_eq] at h
    obtain ⟨m, rfl⟩ := Int.eq_ofNat_of_zero_le h.1
    have hm : m < 256 := by omega
    rw [dI, quo64 (by omega), rem64]
    simp only [bindO_some', demote_d]
    rw [index_nat (show m / 64 < 4 by omega)]
    simp only [bindO_some', Nat.zero_add, Nat.mul_one]
    rw [part_word w (show m / 64 < 4 by omega)]
    simp only [bindO_some', demote_d, bin_shr, one_word, bin_and, bin_eqlW, noRef_d, true_and]
    have e : hasI w (m : Int) = ((w (m / 64) >>> (m % 64)) &&& 1#64 == 1#64) := by
      rw [bit_eq]
      simp only [hasI, hasW, Int.toNat_natCast, decide_eq_true h.1, decide_eq_true h.2, Bool.true_and]
    rw [e]
    rfl
  · rw [hasI, h]; rfl
theorem e48 : Enters Try.prog 48 := enters_some (fn := Try.f48) (by kernel_rfl) (by kernel_rfl) (by kernel_rfl)
/-- with a number -/
def withW (w : Nat → BitVec 64) (n : Int) : Nat → BitVec 64 := if 0 ≤ n ∧ n < 256 then upW w (n.toNat / 64) (w (n.toNat / 64) ||| 1#64 <<< (n.toNat % 64)) else w
theorem with_holds (w : Nat → BitVec 64) (n : Int) : Holds Try.prog gl 48 [.d (dSet w), .d (dI n)] (.d (dSet (withW w n))) := by
  refine holds_of_body hm1 e48 (h := h48) ?_
  rw [body48]
  intro hwf
  simp only [demote_d, cells_set, bindO_some', len_cSet, true_and, zero_set, set_all, part_set, noRef_d, Nat.le_refl]
  refine callP_of (inside_holds n) ?_
  simp only [ifP_dec]
  refine ⟨fun h => ?_, fun h => ?_⟩
  · simp only [Bool.and_eq_true, decide_eq_true_eq] at h
    obtain ⟨m, rfl⟩ := Int.eq_ofNat_of_zero_le h.1
    have hm : m < 256 := by omega
    rw [dI, quo64 (by omega), rem64]
    simp only [bindO_some', demote_d]
    rw [index_nat (show m / 64 < 4 by omega)]
    simp only [bindO_some', Nat.zero_add, Nat.mul_one]
    rw [part_word w (show m / 64 < 4 by omega)]
    simp only [bindO_some', demote_d, one_word, bin_shl, bin_or, cells_word, List.length_singleton, true_and]
    refine ⟨by omega, ?_⟩
    rw [set_word w (show m / 64 < 4 by omega)]
    simp only [part_set, bindO_some', demote_d, cells_set, len_cSet, true_and, set_all, noRef_d, Nat.le_refl]
    rw [withW, if_pos h]
    rfl
  · have : ¬ (0 ≤ n ∧ n < 256) := by simpa using h
    rw [withW, if_neg this]
theorem e49 : Enters Try.prog 49 := enters_some (fn := Try.f49) (by kernel_rfl) (by kernel_rfl) (by kernel_rfl)
theorem union_holds (w v : Nat → BitVec 64) : Holds Try.prog gl 49 [.d (dSet w), .d (dSet v)] (.d (dSet fun k => w k ||| v k)) := by
  refine holds_of_body hm1 e49 (h := h49) ?_
  rw [body49]
  intro hwf
  simp only [demote_d, cells_set, bindO_some', len_cSet, true_and, zero_set, Box.vals]
  refine loopP_count (fun i => [.d (.int .i64 ((i : Nat) : Int))]) (fun i => [cSet (fun k => if k < i then w k ||| v k else w k), cSet v, cSet fun _ => 0]) 4 (fun i hi I hI => ?_) (fun I => ?_)
  · simp only [vget, bget, List.getD_cons_zero, List.getD_cons_succ, demote_d, lss_lit, bindO_some', ifP_dec]
    refine ⟨fun _ => ?_, fun h => absurd h (by simp; omega)⟩
    rw [index_nat hi]
    simp only [bindO_some', Nat.zero_add, Nat.mul_one]
    rw [part_word _ hi, part_word _ hi]
    simp only [bindO_some', demote_d, bin_or, cells_word, List.length_singleton, true_and, len_cSet]
    refine ⟨by omega, ?_⟩
    rw [add_one (by omega), set_word _ hi]
    simp only [bindO_some', demote_d, Nat.lt_irrefl, ↓reduceIte]
    rw [set_or w v i (fun a b => a ||| b)]
    exact hI
  · simp only [vget, bget, List.getD_cons_zero, List.getD_cons_succ, demote_d, lss_lit, bindO_some', ifP_dec]
    refine ⟨fun h => absurd h (by simp), fun _ => ?_⟩
    simp only [part_set, bindO_some', demote_d, cells_set, len_cSet, true_and, set_all, noRef_d, Nat.le_refl]
    rfl
theorem e29 : Enters Try.prog 29 := enters_some (fn := Try.f29) (by kernel_rfl) (by kernel_rfl) (by kernel_rfl)
theorem unionR_holds (w v : Nat → BitVec 64) : Holds Try.prog gl 29 [.d (dSet w), .d (dSet v)] (.d (dSet fun k => w k ||| v k)) := by
  refine holds_of_body hm1 e29 (h := h29) ?_
  rw [body29]
  intro hwf
  simp only [demote_d, cells_set, bindO_some', len_cSet, true_and, zero_set, Box.vals]
  refine loopP_count (fun i => [.d (.int .i64 ((i : Nat) : Int))]) (fun i => [cSet (fun k => if k < i then w k ||| v k else w k), cSet v, cSet fun _ => 0]) 4 (fun i hi I hI => ?_) (fun I => ?_)
  · simp only [vget, bget, List.getD_cons_zero, List.getD_cons_succ, demote_d, lss_lit, bindO_some', ifP_dec]
    refine ⟨fun _ => ?_, fun h => absurd h (by simp; omega)⟩
    rw [index_nat hi]
    simp only [bindO_some', Nat.zero_add, Nat.mul_one]
    rw [part_word _ hi, part_word _ hi]
    simp only [bindO_some', demote_d, bin_or, cells_word, List.length_singleton, true_and, len_cSet]
    refine ⟨by omega, ?_⟩
    rw [add_one (by omega), set_word _ hi]
    simp only [bindO_some', demote_d, Nat.lt_irrefl, ↓reduceIte]
    rw [set_or w v i (fun a b => a ||| b)]
    exact hI
  · simp only [vget, bget, List.getD_cons_zero, List.getD_cons_succ, demote_d, lss_lit, bindO_some', ifP_dec]
    refine ⟨fun h => absurd h (by simp), fun _ => ?_⟩
    simp only [part_set, bindO_some', demote_d, cells_set, len_cSet, true_and, set_all, noRef_d, Nat.le_refl]
    rfl
theorem e35 : Enters Try.prog 35 := enters_some (fn := Try.f35) (by kernel_rfl) (by kernel_rfl) (by kernel_rfl)
theorem meet_holds (w v : Nat → BitVec 64) : Holds Try.prog gl 35 [.d (dSet w), .d (dSet v)] (.d (dSet fun k => w k &&& v k)) := by
  refine holds_of_body hm1 e35 (h := h35) ?_
  rw [body35]
  intro hwf
  simp only [demote_d, cells_set, bindO_some', len_cSet, true_and, zero_set, Box.vals]
  refine loopP_count (fun i => [.d (.int .i64 ((i : Nat) : Int))]) (fun i => [cSet (fun k => if k < i then w k &&& v k else w k), cSet v, cSet fun _ => 0]) 4 (fun i hi I hI => ?_) (fun I => ?_)
  · simp only [vget, bget, List.getD_cons_zero, List.getD_cons_succ, demote_d, lss_lit, bindO_some', ifP_dec]
    refine ⟨fun _ => ?_, fun h => absurd h (by simp; omega)⟩
    rw [index_nat hi]
    simp only [bindO_some', Nat.zero_add, Nat.mul_one]
    rw [part_word _ hi, part_word _ hi]
    simp only [bindO_some', demote_d, bin_and, cells_word, List.length_singleton, true_and, len_cSet]
    refine ⟨by omega, ?_⟩
    rw [add_one (by omega), set_word _ hi]
    simp only [bindO_some', demote_d, Nat.lt_irrefl, ↓reduceIte]
    rw [set_or w v i (fun a b => a &&& b)]
    exact hI
  · simp only [vget, bget, List.getD_cons_zero, List.getD_cons_succ, demote_d, lss_lit, bindO_some', ifP_dec]
    refine ⟨fun h => absurd h (by simp), fun _ => ?_⟩
    simp only [part_set, bindO_some', demote_d, cells_set, len_cSet, true_and, set_all, noRef_d, Nat.le_refl]
    rfl
theorem e28 : Enters Try.prog 28 := enters_some (fn := Try.f28) (by kernel_rfl) (by kernel_rfl) (by kernel_rfl)
theorem meetR_holds (w v : Nat → BitVec 64) : Holds Try.prog gl 28 [.d (dSet w), .d (dSet v)] (.d (dSet fun k => w k &&& v k)) := by
  refine holds_of_body hm1 e28 (h := h28) ?_
  rw [body28]
  intro hwf
  simp only [demote_d, cells_set, bindO_some', len_cSet, true_and, zero_set, Box.vals]
  refine loopP_count (fun i => [.d (.int .i64 ((i : Nat) : Int))]) (fun i => [cSet (fun k => if k < i then w k &&& v k else w k), cSet v, cSet fun _ => 0]) 4 (fun i hi I hI => ?_) (fun I => ?_)
  · simp only [vget, bget, List.getD_cons_zero, List.getD_cons_succ, demote_d, lss_lit, bindO_some', ifP_dec]
    refine ⟨fun _ => ?_, fun h => absurd h (by simp; omega)⟩
    rw [index_nat hi]
    simp only [bindO_some', Nat.zero_add, Nat.mul_one]
    rw [part_word _ hi, part_word _ hi]
    simp only [bindO_some', demote_d, bin_and, cells_word, List.length_singleton, true_and, len_cSet]
    refine ⟨by omega, ?_⟩
    rw [add_one (by omega), set_word _ hi]
    simp only [bindO_some', demote_d, Nat.lt_irrefl, ↓reduceIte]
    rw [set_or w v i (fun a b => a &&& b)]
    exact hI
  · simp only [vget, bget, List.getD_cons_zero, List.getD_cons_succ, demote_d, lss_lit, bindO_some', ifP_dec]
    refine ⟨fun h => absurd h (by simp), fun _ => ?_⟩
    simp only [part_set, bindO_some', demote_d, cells_set, len_cSet, true_and, set_all, noRef_d, Nat.le_refl]
    rfl
theorem e50 : Enters Try.prog 50 := enters_some (fn := Try.f50) (by kernel_rfl) (by kernel_rfl) (by kernel_rfl)
theorem minus_holds (w v : Nat → BitVec 64) : Holds Try.prog gl 50 [.d (dSet w), .d (dSet v)] (.d (dSet fun k => w k &&& ~~~ v k)) := by
  refine holds_of_body hm1 e50 (h := h50) ?_
  rw [body50]
  intro hwf
  simp only [demote_d, cells_set, bindO_some', len_cSet, true_and, zero_set, Box.vals]
  refine loopP_count (fun i => [.d (.int .i64 ((i : Nat) : Int))]) (fun i => [cSet (fun k => if k < i then w k &&& ~~~ v k else w k), cSet v, cSet fun _ => 0]) 4 (fun i hi I hI => ?_) (fun I => ?_)
  · simp only [vget, bget, List.getD_cons_zero, List.getD_cons_succ, demote_d, lss_lit, bindO_some', ifP_dec]
    refine ⟨fun _ => ?_, fun h => absurd h (by simp; omega)⟩
    rw [index_nat hi]
    simp only [bindO_some', Nat.zero_add, Nat.mul_one]
    rw [part_word _ hi, part_word _ hi]
    simp only [bindO_some', demote_d, bin_andNot, cells_word, List.length_singleton, true_and, len_cSet]
    refine ⟨by omega, ?_⟩
    rw [add_one (by omega), set_word _ hi]
    simp only [bindO_some', demote_d, Nat.lt_irrefl, ↓reduceIte]
    rw [set_or w v i (fun a b => a &&& ~~~ b)]
    exact hI
  · simp only [vget, bget, List.getD_cons_zero, List.getD_cons_succ, demote_d, lss_lit, bindO_some', ifP_dec]
    refine ⟨fun h => absurd h (by simp), fun _ => ?_⟩
    simp only [part_set, bindO_some', demote_d, cells_set, len_cSet, true_and, set_all, noRef_d, Nat.le_refl]
    rfl
theorem e52 : Enters Try.prog 52 := enters_some (fn := Try.f52) (by kernel_rfl) (by kernel_rfl) (by kernel_rfl)
theorem minusR_holds (w v : Nat → BitVec 64) : Holds Try.prog gl 52 [.d (dSet w), .d (dSet v)] (.d (dSet fun k => w k &&& ~~~ v k)) := by
  refine holds_of_body hm1 e52 (h := h52) ?_
  rw [body52]
  intro hwf
  simp only [demote_d, cells_set, bindO_some', len_cSet, true_and, zero_set, Box.vals]
  refine loopP_count (fun i => [.d (.int .i64 ((i : Nat) : Int))]) (fun i => [cSet (fun k => if k < i then w k &&& ~~~ v k else w k), cSet v, cSet fun _ => 0]) 4 (fun i hi I hI => ?_) (fun I => ?_)
  · simp only [vget, bget, List.getD_cons_zero, List.getD_cons_succ, demote_d, lss_lit, bindO_some', ifP_dec]
    refine ⟨fun _ => ?_, fun h => absurd h (by simp; omega)⟩
    rw [index_nat hi]
    simp only [bindO_some', Nat.zero_add, Nat.mul_one]
    rw [part_word _ hi, part_word _ hi]
    simp only [bindO_some', demote_d, bin_andNot, cells_word, List.length_singleton, true_and, len_cSet]
    refine ⟨by omega, ?_⟩
    rw [add_one (by omega), set_word _ hi]
    simp only [bindO_some', demote_d, Nat.lt_irrefl, ↓reduceIte]
    rw [set_or w v i (fun a b => a &&& ~~~ b)]
    exact hI
  · simp only [vget, bget, List.getD_cons_zero, List.getD_cons_succ, demote_d, lss_lit, bindO_some', ifP_dec]
    refine ⟨fun h => absurd h (by simp), fun _ => ?_⟩
    simp only [part_set, bindO_some', demote_d, cells_set, len_cSet, true_and, set_all, noRef_d, Nat.le_refl]
    rfl
/-- without a number -/
def withoutW (w : Nat → BitVec 64) (n : Int) : Nat → BitVec 64 := if 0 ≤ n ∧ n < 256 then upW w (n.toNat / 64) (w (n.toNat / 64) &&& ~~~(1#64 <<< (n.toNat % 64))) else w
theorem e56 : Enters Try.prog 56 := enters_some (fn := Try.f56) (by kernel_rfl) (by kernel_rfl) (by kernel_rfl)
theorem bit_holds (m : Nat) : Holds Try.prog gl 56 [.d (.int .i64 (m : Int))] (.d (dW (1#64 <<< (m % 64)))) := by
  refine holds_of_body hm1 e56 (h := h56) ?_
  rw [body56]
  intro hwf
  simp only [demote_d, rem64, bindO_some', one_word, bin_shl, noRef_d, true_and]
  rfl
theorem e46 : Enters Try.prog 46 := enters_some (fn := Try.f46) (by kernel_rfl) (by kernel_rfl) (by kernel_rfl)
theorem withR_holds (w : Nat → BitVec 64) (n : Int) : Holds Try.prog gl 46 [.d (dSet w), .d (dI n)] (.d (dSet (withW w n))) := by
  refine holds_of_body hm1 e46 (h := h46) ?_
  rw [body46]
  intro hwf
  simp only [demote_d, cells_set, bindO_some', len_cSet, true_and, zero_set, set_all, part_set, noRef_d, Nat.le_refl, dI, geq_lit, lss_lit, ifP_dec]
  have hno : ¬ (0 ≤ n ∧ n < 256) → SV.d (dSet w) = .d (dSet (withW w n)) := fun h => by rw [withW, if_neg h]
  refine ⟨fun h0 => ⟨fun h1 => ?_, fun h1 => hno (by simp at h1; omega)⟩, fun h0 => hno (by simp at h0; omega)⟩
  have h : 0 ≤ n ∧ n < 256 := ⟨by simpa using h0, by simpa using h1⟩
  obtain ⟨m, rfl⟩ := Int.eq_ofNat_of_zero_le h.1
  have hm : m < 256 := by omega
  rw [quo64 (by omega)]
  simp only [bindO_some', demote_d]
  rw [index_nat (show m / 64 < 4 by omega)]
  simp only [bindO_some', Nat.zero_add, Nat.mul_one]
  rw [part_word w (show m / 64 < 4 by omega)]
  simp only [bindO_some', demote_d]
  refine callP_of (bit_holds m) ?_
  simp only [demote_d, bin_or, bindO_some', cells_word, List.length_singleton, true_and]
  refine ⟨by omega, ?_⟩
  rw [set_word w (show m / 64 < 4 by omega)]
  simp only [part_set, bindO_some', demote_d, cells_set, len_cSet, true_and, set_all, noRef_d, Nat.le_refl]
  rw [withW, if_pos h]
  rfl
theorem and_bit (x : BitVec 64) (n : Nat) (h : n < 64) : ((x &&& 1#64 <<< n) != 0) = x.getLsbD n := by
  rw [Bool.eq_iff_iff, bne_iff_ne]
  constructor
  · intro hne
    cases hb : x.getLsbD n with
    | true => rfl
    | false =>
      exfalso
      apply hne
      apply BitVec.eq_of_getLsbD_eq
      intro i hi
      by_cases hin : i = n
      · subst hin; simp [hb]
      · have : (1#64 <<< n).getLsbD i = false := by
          simp only [BitVec.getLsbD_shiftLeft, BitVec.getLsbD_one]
          rcases Nat.lt_or_ge i n with h1 | h1
          · simp [h1]
          · have : i - n ≠ 0 := by omega
            simp [this]
        simp [this]
  · intro hb h0
    have := congrArg (fun z => z.getLsbD n) h0
    rw [BitVec.getLsbD_eq_getElem h] at hb
    simp [h] at this
    rw [hb] at this
    cases this
theorem e45 : Enters Try.prog 45 := enters_some (fn := Try.f45) (by kernel_rfl) (by kernel_rfl) (by kernel_rfl)
theorem hasR_holds (w : Nat → BitVec 64) (n : Int) : Holds Try.prog gl 45 [.d (dSet w), .d (dI n)] (.d (.bool (hasI w n))) := by
  refine holds_of_body hm1 e45 (h := h45) ?_
  rw [body45]
  intro hwf
  simp only [demote_d, cells_set, bindO_some', len_cSet, true_and, noRef_d, dI, geq_lit, lss_lit, ifP_dec]
  have hno : ¬ (0 ≤ n ∧ n < 256) → SV.d (.bool false) = .d (.bool (hasI w n)) := fun h => by
    have : hasI w n = false := by
      unfold hasI
      rcases Int.lt_or_le n 0 with h1 | h1
      · simp [show ¬ 0 ≤ n by omega]
      · simp [show ¬ n < 256 by omega]
    rw [this]
  refine ⟨fun h0 => ⟨fun h1 => ?_, fun h1 => hno (by simp at h1; omega)⟩, fun h0 => hno (by simp at h0; omega)⟩
  have h : 0 ≤ n ∧ n < 256 := ⟨by simpa using h0, by simpa using h1⟩
  obtain ⟨m, rfl⟩ := Int.eq_ofNat_of_zero_le h.1
  have hm : m < 256 := by omega
  rw [quo64 (by omega)]
  simp only [bindO_some', demote_d]
  rw [index_nat (show m / 64 < 4 by omega)]
  simp only [bindO_some', Nat.zero_add, Nat.mul_one]
  rw [part_word w (show m / 64 < 4 by omega)]
  simp only [bindO_some', demote_d]
  refine callP_of (bit_holds m) ?_
  simp only [demote_d, bin_and, bindO_some', zero_word, neq_word, noRef_d, true_and]
  have e : hasI w (m : Int) = ((w (m / 64) &&& 1#64 <<< (m % 64)) != 0) := by
    rw [and_bit _ _ (by omega)]
    simp only [hasI, hasW, Int.toNat_natCast, decide_eq_true h.1, decide_eq_true h.2, Bool.true_and]
  rw [e]
theorem build_set : buildD Try.prog 35 [] = some (dSet fun _ => 0) := by kernel_rfl
theorem parts_nil : partsS [] = some [] := rfl
/-- the numbers below i -/
def allW : Nat → Nat → BitVec 64
  | 0 => fun _ => 0
  | i + 1 => withW (allW i) i
def clip (n : Int) : Nat := (min (max n 0) 256).toNat
theorem clip_le (n : Int) : clip n ≤ 256 := by unfold clip; omega
theorem max_lit (m n : Int) : foldIntV maxD (.d (.int .i64 m)) [.d (.int .i64 n)] = some (.d (.int .i64 (maxD m n))) := rfl
theorem min_lit (m n : Int) : foldIntV minD (.d (.int .i64 m)) [.d (.int .i64 n)] = some (.d (.int .i64 (minD m n))) := rfl
theorem clip_eq (n : Int) : minD (maxD n 0) 256 = (clip n : Int) := by
  unfold minD maxD clip
  split <;> split <;> omega
theorem e36 : Enters Try.prog 36 := enters_some (fn := Try.f36) (by kernel_rfl) (by kernel_rfl) (by kernel_rfl)
theorem all_holds (n : Int) : Holds Try.prog gl 36 [.d (dI n)] (.d (dSet (allW (clip n)))) := by
  refine holds_of_body hm1 e36 (h := h36) ?_
  rw [body36]
  intro hwf
  simp only [demote_d, dI, max_lit, min_lit, bindO_some', zero_set, clip_eq]
  have hc := clip_le n
  refine loopP_count (fun i => [.d (.int .i64 (clip n : Int)), .d (.int .i64 ((i : Nat) : Int))]) (fun i => [cSet fun _ => 0, cSet (allW i)]) (clip n) (fun i hi I hI => ?_) (fun I => ?_)
  · simp only [vget, bget, List.getD_cons_zero, List.getD_cons_succ, demote_d, lss_lit, bindO_some', ifP_dec]
    refine ⟨fun _ => ?_, fun h => absurd h (by simp; omega)⟩
    simp only [part_set, bindO_some', demote_d]
    refine callP_of (with_holds (allW i) i) ?_
    simp only [demote_d, cells_set, bindO_some', len_cSet, true_and, set_all, Nat.le_refl]
    rw [add_one (by omega)]
    exact hI
  · simp only [vget, bget, List.getD_cons_zero, List.getD_cons_succ, demote_d, lss_lit, bindO_some', ifP_dec]
    refine ⟨fun h => absurd h (by simp), fun _ => ?_⟩
    simp only [part_set, bindO_some', demote_d, cells_set, len_cSet, true_and, set_all, noRef_d, Nat.le_refl]
theorem e27 : Enters Try.prog 27 := enters_some (fn := Try.f27) (by kernel_rfl) (by kernel_rfl) (by kernel_rfl)
theorem allR_holds (n : Int) : Holds Try.prog gl 27 [.d (dI n)] (.d (dSet (allW (clip n)))) := by
  refine holds_of_body hm1 e27 (h := h27) ?_
  rw [body27]
  intro hwf
  simp only [demote_d, dI, parts_nil, build_set, bindO_some', zero_set, cells_set, len_cSet, true_and, Nat.le_refl, set_all, Box.vals]
  have hc := clip_le n
  refine loopP_count (fun i => [.d (.int .i64 n), .d (.int .i64 ((i : Nat) : Int))]) (fun i => [cSet fun _ => 0, cSet (allW i)]) (clip n) (fun i hi I hI => ?_) (fun I => ?_)
  · simp only [vget, bget, List.getD_cons_zero, List.getD_cons_succ, demote_d, lss_lit, bindO_some', ifP_dec]
    have h1 : (i : Int) < n := by unfold clip at hi; omega
    have h2 : (i : Int) < 256 := by omega
    refine ⟨fun _ => ⟨fun _ => ?_, fun h => absurd h (by simpa using h2)⟩, fun h => absurd h (by simpa using h1)⟩
    simp only [part_set, bindO_some', demote_d]
    refine callP_of (withR_holds (allW i) i) ?_
    simp only [demote_d, cells_set, bindO_some', len_cSet, true_and, set_all, Nat.le_refl]
    rw [add_one (by omega)]
    exact hI
  · simp only [vget, bget, List.getD_cons_zero, List.getD_cons_succ, demote_d, lss_lit, bindO_some', ifP_dec, part_set, cells_set, len_cSet, true_and, set_all, noRef_d, Nat.le_refl]
    refine ⟨fun h => ⟨fun h' => ?_, fun _ => ?_⟩, fun _ => ?_⟩
    · exfalso
      have h3 : ((clip n : Nat) : Int) < n := by simpa using h
      have h4 : ((clip n : Nat) : Int) < 256 := by simpa using h'
      unfold clip at h3 h4; omega
    · trivial
    · trivial
/-- a list of numbers, as a slice that is read -/
def dIs (l : List Int) : D := .sl .ro 1 (l.map dI)
def ofW : List Int → (Nat → BitVec 64) → (Nat → BitVec 64)
  | [], w => w
  | n :: l, w => ofW l (withW w n)
theorem ofW_append : ∀ (l m : List Int) (w : Nat → BitVec 64), ofW (l ++ m) w = ofW m (ofW l w)
  | [], _, _ => rfl
  | n :: l, m, w => ofW_append l m _
/-- a slice of numbers in one of its forms -/
inductive IsInts (l : List Int) : SV → Prop
  | nil (sz : Nat) (h : l = []) : IsInts l (.d (.sl .nil sz []))
  | ro : IsInts l (.d (dIs l))
  | full : IsInts l (.full 1 (l.map dI))
theorem IsInts.elems {l : List Int} {x : SV} (h : IsInts l x) : elems 1 x = some (l.map dI) ∧ elemsAny x = some (l.map dI) ∧ demote x = x := by
  cases h with
  | nil sz h => subst h; exact ⟨rfl, rfl, rfl⟩
  | ro => exact ⟨rfl, rfl, rfl⟩
  | full => exact ⟨rfl, rfl, rfl⟩
theorem IsInts.len {l : List Int} {x : SV} (h : IsInts l x) : lenL x = some (.d (.int .i64 (l.length : Int))) := by
  simp [lenL, h.elems.2.1]
theorem IsInts.at {l : List Int} {x : SV} (h : IsInts l x) {i : Nat} (hi : i < l.length) : elemPtr 1 x (.d (.int .i64 (i : Int))) = some (.dptr (dI l[i]) 0) := by
  unfold elemPtr
  rw [h.elems.1]
  simp only [List.length_map]
  rw [index_nat hi]
  simp [hi]
theorem load_int (n : Int) : loadV false 1 (.dptr (dI n) 0) = some (.d (dI n)) := rfl
theorem e32 : Enters Try.prog 32 := enters_some (fn := Try.f32) (by kernel_rfl) (by kernel_rfl) (by kernel_rfl)
theorem ofR_holds (l : List Int) {x : SV} (hx : IsInts l x) (hl : l.length < 2 ^ 62) : Holds Try.prog gl 32 [x] (.d (dSet (ofW l fun _ => 0))) := by
  refine holds_of_body hm1 e32 (h := h32) ?_
  rw [body32]
  intro hwf
  have hd := hx.elems.2.2
  simp only [demote_d, parts_nil, build_set, bindO_some', zero_set, cells_set, len_cSet, true_and, Nat.le_refl, set_all, Box.vals]
  refine loopP_count (fun i => [x, .d (.int .i64 ((i : Nat) : Int))]) (fun i => [cSet fun _ => 0, cSet (ofW (l.take i) fun _ => 0)]) l.length (fun i hi I hI => ?_) (fun I => ?_)
  · simp only [vget, bget, List.getD_cons_zero, List.getD_cons_succ, hd, hx.len, demote_d, lss_lit, bindO_some', ifP_dec]
    refine ⟨fun _ => ?_, fun h => absurd h (by simpa using hi)⟩
    simp only [part_set, bindO_some', demote_d]
    rw [hx.at hi]
    simp only [bindO_some', demote, load_int]
    refine callP_of (withR_holds _ _) ?_
    simp only [demote_d, cells_set, bindO_some', len_cSet, true_and, set_all, Nat.le_refl]
    rw [add_one (by omega)]
    have e : ofW (l.take (i + 1)) (fun _ => 0) = withW (ofW (l.take i) fun _ => 0) l[i] := by
      rw [List.take_add_one, ofW_append]
      simp [hi, ofW]
    rw [e] at hI
    exact hI
  · simp only [vget, bget, List.getD_cons_zero, List.getD_cons_succ, hd, hx.len, demote_d, lss_lit, bindO_some', ifP_dec, List.take_length]
    refine ⟨fun h => absurd h (by simp), fun _ => ?_⟩
    simp only [part_set, bindO_some', demote_d, cells_set, len_cSet, true_and, set_all, noRef_d, Nat.le_refl]
theorem e39 : Enters Try.prog 39 := enters_some (fn := Try.f39) (by kernel_rfl) (by kernel_rfl) (by kernel_rfl)
theorem of_holds (l : List Int) {x : SV} (hx : IsInts l x) (hl : l.length < 2 ^ 62) : Holds Try.prog gl 39 [x] (.d (dSet (ofW l fun _ => 0))) := by
  refine holds_of_body hm1 e39 (h := h39) ?_
  rw [body39]
  intro hwf
  have hd := hx.elems.2.2
  simp only [hd, hx.len, demote_d, bindO_some', zero_set]
  refine loopP_count (fun i => [x, .d (.int .i64 (l.length : Int)), .d (.int .i64 ((i : Nat) : Int))]) (fun i => [cSet fun _ => 0, cSet (ofW (l.take i) fun _ => 0)]) l.length (fun i hi I hI => ?_) (fun I => ?_)
  · simp only [vget, bget, List.getD_cons_zero, List.getD_cons_succ, hd, hx.len, demote_d, lss_lit, bindO_some', ifP_dec]
    refine ⟨fun _ => ?_, fun h => absurd h (by simpa using hi)⟩
    simp only [part_set, bindO_some', demote_d]
    rw [hx.at hi]
    simp only [bindO_some', demote, load_int]
    refine callP_of (with_holds _ _) ?_
    simp only [demote_d, cells_set, bindO_some', len_cSet, true_and, set_all, Nat.le_refl]
    rw [add_one (by omega)]
    have e : ofW (l.take (i + 1)) (fun _ => 0) = withW (ofW (l.take i) fun _ => 0) l[i] := by
      rw [List.take_add_one, ofW_append]
      simp [hi, ofW]
    rw [e] at hI
    exact hI
  · simp only [vget, bget, List.getD_cons_zero, List.getD_cons_succ, hd, hx.len, demote_d, lss_lit, bindO_some', ifP_dec, List.take_length]
    refine ⟨fun h => absurd h (by simp), fun _ => ?_⟩
    simp only [part_set, bindO_some', demote_d, cells_set, len_cSet, true_and, set_all, noRef_d, Nat.le_refl]

end Go.Proofs.Ytfeepndphaboeaa.Ab
