/-
  Steps towards the claim of this seat (D1).
-/
import Derived.Test.YtcnnhnjcnekhcaaGreatB17
import Derived.Test.YtcnnhnjcnekhcaaGreatTy
set_option linter.unusedVariables false
set_option linter.unusedSimpArgs false
namespace Go.Proofs.YtcnnhnjcnekhcaaGreat.Ab
open Go
theorem hm1 : (Tryz.prog).follows .mixedOrders = true := by kernel_rfl
theorem e124 : Enters Tryz.prog 124 := enters_some (fn := Tryz.f124) (by kernel_rfl) (by kernel_rfl) (by kernel_rfl)
theorem inside_holds (n : Int) : Holds Tryz.prog gl 124 [.d (dI n)] (.d (.bool (decide (0 ≤ n) && decide (n < 256)))) := by
  refine holds_of_body hm1 e124 (h := h124) ?_
  rw [body124]
  intro hwf
  simp only [demote_d, dI, binV, binD, intBop, bindO_some', ifP_dec, noRef_d, true_and, ↓reduceIte]
  refine ⟨fun h => ?_, fun h => ?_⟩
  · simp only [ge_iff_le] at h; rw [h]; rfl
  · simp only [ge_iff_le] at h; rw [h]; rfl
theorem e81 : Enters Tryz.prog 81 := enters_some (fn := Tryz.f81) (by kernel_rfl) (by kernel_rfl) (by kernel_rfl)
def hasI (w : Nat → BitVec 64) (n : Int) : Bool := decide (0 ≤ n) && decide (n < 256) && hasW w n.toNat
theorem has_holds (w : Nat → BitVec 64) (n : Int) : Holds Tryz.prog gl 81 [.d (dSet w), .d (dI n)] (.d (.bool (hasI w n))) := by
  refine holds_of_body hm1 e81 (h := h81) ?_
  rw [body81]
  intro hwf
  simp only [demote_d, cells_set, bindO_some', len_cSet, true_and]
  refine callP_of (inside_holds n) ?_
  simp only [demote_d, ifP_dec, noRef_d, true_and]
  refine ⟨fun h => ?_, fun h => ?_⟩
  · simp only [Bool.and_eq_true, decide_eq_true_eq] at h
    obtain ⟨m, rfl⟩ := Int.eq_ofNat_of_zero_le h.1
    have hm : m < 256 := by omega
    rw [dI, quo64 (by omega), rem64]
    simp only [bindO_some', demote_d]
    rw [index_nat (show m / 64 < 4 by omega)]
    simp only [bindO_some', Nat.zero_add, Nat.mul_one]
    rw [part_word w (show m / 64 < 4 by omega)]
    simp only [bindO_some', demote_d, bin_shr, one_word, bin_and, bin_eqlW, noRef_d, true_and]
    have e : hasI w (m : Int) = ((w (m / 64) >>> (m % 64)) &&& 1#64 == 1#64) := by
      rw [bit_eq]
      simp only [hasI, hasW, Int.toNat_natCast, decide_eq_true h.1, decide_eq_true h.2, Bool.true_and]
    rw [e]
    rfl
  · rw [hasI, h]; rfl
theorem e109 : Enters Tryz.prog 109 := enters_some (fn := Tryz.f109) (by kernel_rfl) (by kernel_rfl) (by kernel_rfl)
/-- with a number -/
def withW (w : Nat → BitVec 64) (n : Int) : Nat → BitVec 64 := if 0 ≤ n ∧ n < 256 then upW w (n.toNat / 64) (w (n.toNat / 64) ||| 1#64 <<< (n.toNat % 64)) else w
theorem with_holds (w : Nat → BitVec 64) (n : Int) : Holds Tryz.prog gl 109 [.d (dSet w), .d (dI n)] (.d (dSet (withW w n))) := by
  refine holds_of_body hm1 e109 (h := h109) ?_
  rw [body109]
  intro hwf
  simp only [demote_d, cells_set, bindO_some', len_cSet, true_and, zero_set, set_all, part_set, noRef_d, Nat.le_refl]
  refine callP_of (inside_holds n) ?_
  simp only [ifP_dec]
  refine ⟨fun h => ?_, fun h => ?_⟩
  · simp only [Bool.and_eq_true, decide_eq_true_eq] at h
    obtain ⟨m, rfl⟩ := Int.eq_ofNat_of_zero_le h.1
    have hm : m < 256 := by omega
    rw [dI, quo64 (by omega), rem64]
    simp only [bindO_some', demote_d]
    rw [index_nat (show m / 64 < 4 by omega)]
    simp only [bindO_some', Nat.zero_add, Nat.mul_one]
    rw [part_word w (show m / 64 < 4 by omega)]
    simp only [bindO_some', demote_d, one_word, bin_shl, bin_or, cells_word, List.length_singleton, true_and]
    refine ⟨by omega, ?_⟩
    rw [set_word w (show m / 64 < 4 by omega)]
    simp only [part_set, bindO_some', demote_d, cells_set, len_cSet, true_and, set_all, noRef_d, Nat.le_refl]
    rw [withW, if_pos h]
    rfl
  · have : ¬ (0 ≤ n ∧ n < 256) := by simpa using h
    rw [withW, if_neg this]
theorem e78 : Enters Tryz.prog 78 := enters_some (fn := Tryz.f78) (by kernel_rfl) (by kernel_rfl) (by kernel_rfl)
theorem union_holds (w v : Nat → BitVec 64) : Holds Tryz.prog gl 78 [.d (dSet w), .d (dSet v)] (.d (dSet fun k => w k ||| v k)) := by
  refine holds_of_body hm1 e78 (h := h78) ?_
  rw [body78]
  intro hwf
  simp only [demote_d, cells_set, bindO_some', len_cSet, true_and, zero_set, Box.vals]
  refine loopP_count (fun i => [.d (.int .i64 ((i : Nat) : Int))]) (fun i => [cSet (fun k => if k < i then w k ||| v k else w k), cSet v, cSet fun _ => 0]) 4 (fun i hi I hI => ?_) (fun I => ?_)
  · simp only [vget, bget, List.getD_cons_zero, List.getD_cons_succ, demote_d, lss_lit, bindO_some', ifP_dec]
    refine ⟨fun _ => ?_, fun h => absurd h (by simp; omega)⟩
    rw [index_nat hi]
    simp only [bindO_some', Nat.zero_add, Nat.mul_one]
    rw [part_word _ hi, part_word _ hi]
    simp only [bindO_some', demote_d, bin_or, cells_word, List.length_singleton, true_and, len_cSet]
    refine ⟨by omega, ?_⟩
    rw [add_one (by omega), set_word _ hi]
    simp only [bindO_some', demote_d, Nat.lt_irrefl, ↓reduceIte]
    rw [set_or w v i (fun a b => a ||| b)]
    exact hI
  · simp only [vget, bget, List.getD_cons_zero, List.getD_cons_succ, demote_d, lss_lit, bindO_some', ifP_dec]
    refine ⟨fun h => absurd h (by simp), fun _ => ?_⟩
    simp only [part_set, bindO_some', demote_d, cells_set, len_cSet, true_and, set_all, noRef_d, Nat.le_refl]
    rfl
theorem e80 : Enters Tryz.prog 80 := enters_some (fn := Tryz.f80) (by kernel_rfl) (by kernel_rfl) (by kernel_rfl)
theorem unionR_holds (w v : Nat → BitVec 64) : Holds Tryz.prog gl 80 [.d (dSet w), .d (dSet v)] (.d (dSet fun k => w k ||| v k)) := by
  refine holds_of_body hm1 e80 (h := h80) ?_
  rw [body80]
  intro hwf
  simp only [demote_d, cells_set, bindO_some', len_cSet, true_and, zero_set, Box.vals]
  refine loopP_count (fun i => [.d (.int .i64 ((i : Nat) : Int))]) (fun i => [cSet (fun k => if k < i then w k ||| v k else w k), cSet v, cSet fun _ => 0]) 4 (fun i hi I hI => ?_) (fun I => ?_)
  · simp only [vget, bget, List.getD_cons_zero, List.getD_cons_succ, demote_d, lss_lit, bindO_some', ifP_dec]
    refine ⟨fun _ => ?_, fun h => absurd h (by simp; omega)⟩
    rw [index_nat hi]
    simp only [bindO_some', Nat.zero_add, Nat.mul_one]
    rw [part_word _ hi, part_word _ hi]
    simp only [bindO_some', demote_d, bin_or, cells_word, List.length_singleton, true_and, len_cSet]
    refine ⟨by omega, ?_⟩
    rw [add_one (by omega), set_word _ hi]
    simp only [bindO_some', demote_d, Nat.lt_irrefl, ↓reduceIte]
    rw [set_or w v i (fun a b => a ||| b)]
    exact hI
  · simp only [vget, bget, List.getD_cons_zero, List.getD_cons_succ, demote_d, lss_lit, bindO_some', ifP_dec]
    refine ⟨fun h => absurd h (by simp), fun _ => ?_⟩
    simp only [part_set, bindO_some', demote_d, cells_set, len_cSet, true_and, set_all, noRef_d, Nat.le_refl]
    rfl
theorem e108 : Enters Tryz.prog 108 := enters_some (fn := Tryz.f108) (by kernel_rfl) (by kernel_rfl) (by kernel_rfl)
theorem meet_holds (w v : Nat → BitVec 64) : Holds Tryz.prog gl 108 [.d (dSet w), .d (dSet v)] (.d (dSet fun k => w k &&& v k)) := by
  refine holds_of_body hm1 e108 (h := h108) ?_
  rw [body108]
  intro hwf
  simp only [demote_d, cells_set, bindO_some', len_cSet, true_and, zero_set, Box.vals]
  refine loopP_count (fun i => [.d (.int .i64 ((i : Nat) : Int))]) (fun i => [cSet (fun k => if k < i then w k &&& v k else w k), cSet v, cSet fun _ => 0]) 4 (fun i hi I hI => ?_) (fun I => ?_)
  · simp only [vget, bget, List.getD_cons_zero, List.getD_cons_succ, demote_d, lss_lit, bindO_some', ifP_dec]
    refine ⟨fun _ => ?_, fun h => absurd h (by simp; omega)⟩
    rw [index_nat hi]
    simp only [bindO_some', Nat.zero_add, Nat.mul_one]
    rw [part_word _ hi, part_word _ hi]
    simp only [bindO_some', demote_d, bin_and, cells_word, List.length_singleton, true_and, len_cSet]
    refine ⟨by omega, ?_⟩
    rw [add_one (by omega), set_word _ hi]
    simp only [bindO_some', demote_d, Nat.lt_irrefl, ↓reduceIte]
    rw [set_or w v i (fun a b => a &&& b)]
    exact hI
  · simp only [vget, bget, List.getD_cons_zero, List.getD_cons_succ, demote_d, lss_lit, bindO_some', ifP_dec]
    refine ⟨fun h => absurd h (by simp), fun _ => ?_⟩
    simp only [part_set, bindO_some', demote_d, cells_set, len_cSet, true_and, set_all, noRef_d, Nat.le_refl]
    rfl
theorem e113 : Enters Tryz.prog 113 := enters_some (fn := Tryz.f113) (by kernel_rfl) (by kernel_rfl) (by kernel_rfl)
theorem minusR_holds (w v : Nat → BitVec 64) : Holds Tryz.prog gl 113 [.d (dSet w), .d (dSet v)] (.d (dSet fun k => w k &&& ~~~ v k)) := by
  refine holds_of_body hm1 e113 (h := h113) ?_
  rw [body113]
  intro hwf
  simp only [demote_d, cells_set, bindO_some', len_cSet, true_and, zero_set, Box.vals]
  refine loopP_count (fun i => [.d (.int .i64 ((i : Nat) : Int))]) (fun i => [cSet (fun k => if k < i then w k &&& ~~~ v k else w k), cSet v, cSet fun _ => 0]) 4 (fun i hi I hI => ?_) (fun I => ?_)
  · simp only [vget, bget, List.getD_cons_zero, List.getD_cons_succ, demote_d, lss_lit, bindO_some', ifP_dec]
    refine ⟨fun _ => ?_, fun h => absurd h (by simp; omega)⟩
    rw [index_nat hi]
    simp only [bindO_some', Nat.zero_add, Nat.mul_one]
    rw [part_word _ hi, part_word _ hi]
    simp only [bindO_some', demote_d, bin_andNot, cells_word, List.length_singleton, true_and, len_cSet]
    refine ⟨by omega, ?_⟩
    rw [add_one (by omega), set_word _ hi]
    simp only [bindO_some', demote_d, Nat.lt_irrefl, ↓reduceIte]
    rw [set_or w v i (fun a b => a &&& ~~~ b)]
    exact hI
  · simp only [vget, bget, List.getD_cons_zero, List.getD_cons_succ, demote_d, lss_lit, bindO_some', ifP_dec]
    refine ⟨fun h => absurd h (by simp), fun _ => ?_⟩
    simp only [part_set, bindO_some', demote_d, cells_set, len_cSet, true_and, set_all, noRef_d, Nat.le_refl]
    rfl
/-- without a number -/
def withoutW (w : Nat → BitVec 64) (n : Int) : Nat → BitVec 64 := if 0 ≤ n ∧ n < 256 then upW w (n.toNat / 64) (w (n.toNat / 64) &&& ~~~(1#64 <<< (n.toNat % 64))) else w
theorem e139 : Enters Tryz.prog 139 := enters_some (fn := Tryz.f139) (by kernel_rfl) (by kernel_rfl) (by kernel_rfl)
theorem bit_holds (m : Nat) : Holds Tryz.prog gl 139 [.d (.int .i64 (m : Int))] (.d (dW (1#64 <<< (m % 64)))) := by
  refine holds_of_body hm1 e139 (h := h139) ?_
  rw [body139]
  intro hwf
  simp only [demote_d, rem64, bindO_some', one_word, bin_shl, noRef_d, true_and]
  rfl
theorem e106 : Enters Tryz.prog 106 := enters_some (fn := Tryz.f106) (by kernel_rfl) (by kernel_rfl) (by kernel_rfl)
theorem withR_holds (w : Nat → BitVec 64) (n : Int) : Holds Tryz.prog gl 106 [.d (dSet w), .d (dI n)] (.d (dSet (withW w n))) := by
  refine holds_of_body hm1 e106 (h := h106) ?_
  rw [body106]
  intro hwf
  simp only [demote_d, cells_set, bindO_some', len_cSet, true_and, zero_set, set_all, part_set, noRef_d, Nat.le_refl, dI, geq_lit, lss_lit, ifP_dec]
  have hno : ¬ (0 ≤ n ∧ n < 256) → SV.d (dSet w) = .d (dSet (withW w n)) := fun h => by rw [withW, if_neg h]
  refine ⟨fun h0 => ⟨fun h1 => ?_, fun h1 => hno (by simp at h1; omega)⟩, fun h0 => hno (by simp at h0; omega)⟩
  have h : 0 ≤ n ∧ n < 256 := ⟨by simpa using h0, by simpa using h1⟩
  obtain ⟨m, rfl⟩ := Int.eq_ofNat_of_zero_le h.1
  have hm : m < 256 := by omega
  rw [quo64 (by omega)]
  simp only [bindO_some', demote_d]
  rw [index_nat (show m / 64 < 4 by omega)]
  simp only [bindO_some', Nat.zero_add, Nat.mul_one]
  rw [part_word w (show m / 64 < 4 by omega)]
  simp only [bindO_some', demote_d]
  refine callP_of (bit_holds m) ?_
  simp only [demote_d, bin_or, bindO_some', cells_word, List.length_singleton, true_and]
  refine ⟨by omega, ?_⟩
  rw [set_word w (show m / 64 < 4 by omega)]
  simp only [part_set, bindO_some', demote_d, cells_set, len_cSet, true_and, set_all, noRef_d, Nat.le_refl]
  rw [withW, if_pos h]
  rfl
theorem e132 : Enters Tryz.prog 132 := enters_some (fn := Tryz.f132) (by kernel_rfl) (by kernel_rfl) (by kernel_rfl)
theorem withoutR_holds (w : Nat → BitVec 64) (n : Int) : Holds Tryz.prog gl 132 [.d (dSet w), .d (dI n)] (.d (dSet (withoutW w n))) := by
  refine holds_of_body hm1 e132 (h := h132) ?_
  rw [body132]
  intro hwf
  simp only [demote_d, cells_set, bindO_some', len_cSet, true_and, zero_set, set_all, part_set, noRef_d, Nat.le_refl, dI, geq_lit, lss_lit, ifP_dec]
  have hno : ¬ (0 ≤ n ∧ n < 256) → SV.d (dSet w) = .d (dSet (withoutW w n)) := fun h => by rw [withoutW, if_neg h]
  refine ⟨fun h0 => ⟨fun h1 => ?_, fun h1 => hno (by simp at h1; omega)⟩, fun h0 => hno (by simp at h0; omega)⟩
  have h : 0 ≤ n ∧ n < 256 := ⟨by simpa using h0, by simpa using h1⟩
  obtain ⟨m, rfl⟩ := Int.eq_ofNat_of_zero_le h.1
  have hm : m < 256 := by omega
  rw [quo64 (by omega)]
  simp only [bindO_some', demote_d]
  rw [index_nat (show m / 64 < 4 by omega)]
  simp only [bindO_some', Nat.zero_add, Nat.mul_one]
  rw [part_word w (show m / 64 < 4 by omega)]
  simp only [bindO_some', demote_d]
  refine callP_of (bit_holds m) ?_
  simp only [demote_d, bin_andNot, bindO_some', cells_word, List.length_singleton, true_and]
  refine ⟨by omega, ?_⟩
  rw [set_word w (show m / 64 < 4 by omega)]
  simp only [part_set, bindO_some', demote_d, cells_set, len_cSet, true_and, set_all, noRef_d, Nat.le_refl]
  rw [withoutW, if_pos h]
  rfl
theorem and_bit (x : BitVec 64) (n : Nat) (h : n < 64) : ((x &&& 1#64 <<< n) != 0) = x.getLsbD n := by
  rw [Bool.eq_iff_iff, bne_iff_ne]
  constructor
  · intro hne
    cases hb : x.getLsbD n with
    | true => rfl
    | false =>
      exfalso
      apply hne
      apply BitVec.eq_of_getLsbD_eq
      intro i hi
      by_cases hin : i = n
      · subst hin; simp [hb]
      · have : (1#64 <<< n).getLsbD i = false := by
          simp only [BitVec.getLsbD_shiftLeft, BitVec.getLsbD_one]
          rcases Nat.lt_or_ge i n with h1 | h1
          · simp [h1]
          · have : i - n ≠ 0 := by omega
            simp [this]
        simp [this]
  · intro hb h0
    have := congrArg (fun z => z.getLsbD n) h0
    rw [BitVec.getLsbD_eq_getElem h] at hb
    simp [h] at this
    rw [hb] at this
    cases this
theorem e126 : Enters Tryz.prog 126 := enters_some (fn := Tryz.f126) (by kernel_rfl) (by kernel_rfl) (by kernel_rfl)
theorem hasR_holds (w : Nat → BitVec 64) (n : Int) : Holds Tryz.prog gl 126 [.d (dSet w), .d (dI n)] (.d (.bool (hasI w n))) := by
  refine holds_of_body hm1 e126 (h := h126) ?_
  rw [body126]
  intro hwf
  simp only [demote_d, cells_set, bindO_some', len_cSet, true_and, noRef_d, dI, geq_lit, lss_lit, ifP_dec]
  have hno : ¬ (0 ≤ n ∧ n < 256) → SV.d (.bool false) = .d (.bool (hasI w n)) := fun h => by
    have : hasI w n = false := by
      unfold hasI
      rcases Int.lt_or_le n 0 with h1 | h1
      · simp [show ¬ 0 ≤ n by omega]
      · simp [show ¬ n < 256 by omega]
    rw [this]
  refine ⟨fun h0 => ⟨fun h1 => ?_, fun h1 => hno (by simp at h1; omega)⟩, fun h0 => hno (by simp at h0; omega)⟩
  have h : 0 ≤ n ∧ n < 256 := ⟨by simpa using h0, by simpa using h1⟩
  obtain ⟨m, rfl⟩ := Int.eq_ofNat_of_zero_le h.1
  have hm : m < 256 := by omega
  rw [quo64 (by omega)]
  simp only [bindO_some', demote_d]
  rw [index_nat (show m / 64 < 4 by omega)]
  simp only [bindO_some', Nat.zero_add, Nat.mul_one]
  rw [part_word w (show m / 64 < 4 by omega)]
  simp only [bindO_some', demote_d]
  refine callP_of (bit_holds m) ?_
  simp only [demote_d, bin_and, bindO_some', zero_word, neq_word, noRef_d, true_and]
  have e : hasI w (m : Int) = ((w (m / 64) &&& 1#64 <<< (m % 64)) != 0) := by
    rw [and_bit _ _ (by omega)]
    simp only [hasI, hasW, Int.toNat_natCast, decide_eq_true h.1, decide_eq_true h.2, Bool.true_and]
  rw [e]
theorem build_set : buildD Tryz.prog 25 [] = some (dSet fun _ => 0) := by kernel_rfl
/-- the numbers below i -/
def allW : Nat → Nat → BitVec 64
  | 0 => fun _ => 0
  | i + 1 => withW (allW i) i
def clip (n : Int) : Nat := (min (max n 0) 256).toNat
theorem clip_le (n : Int) : clip n ≤ 256 := by unfold clip; omega
theorem max_lit (m n : Int) : foldIntV maxD (.d (.int .i64 m)) [.d (.int .i64 n)] = some (.d (.int .i64 (maxD m n))) := rfl
theorem min_lit (m n : Int) : foldIntV minD (.d (.int .i64 m)) [.d (.int .i64 n)] = some (.d (.int .i64 (minD m n))) := rfl
theorem clip_eq (n : Int) : minD (maxD n 0) 256 = (clip n : Int) := by
  unfold minD maxD clip
  split <;> split <;> omega
theorem e66 : Enters Tryz.prog 66 := enters_some (fn := Tryz.f66) (by kernel_rfl) (by kernel_rfl) (by kernel_rfl)
theorem all_holds (n : Int) : Holds Tryz.prog gl 66 [.d (dI n)] (.d (dSet (allW (clip n)))) := by
  refine holds_of_body hm1 e66 (h := h66) ?_
  rw [body66]
  intro hwf
  simp only [demote_d, dI, max_lit, min_lit, bindO_some', zero_set, clip_eq]
  have hc := clip_le n
  refine loopP_count (fun i => [.d (.int .i64 (clip n : Int)), .d (.int .i64 ((i : Nat) : Int))]) (fun i => [cSet fun _ => 0, cSet (allW i)]) (clip n) (fun i hi I hI => ?_) (fun I => ?_)
  · simp only [vget, bget, List.getD_cons_zero, List.getD_cons_succ, demote_d, lss_lit, bindO_some', ifP_dec]
    refine ⟨fun _ => ?_, fun h => absurd h (by simp; omega)⟩
    simp only [part_set, bindO_some', demote_d]
    refine callP_of (with_holds (allW i) i) ?_
    simp only [demote_d, cells_set, bindO_some', len_cSet, true_and, set_all, Nat.le_refl]
    rw [add_one (by omega)]
    exact hI
  · simp only [vget, bget, List.getD_cons_zero, List.getD_cons_succ, demote_d, lss_lit, bindO_some', ifP_dec]
    refine ⟨fun h => absurd h (by simp), fun _ => ?_⟩
    simp only [part_set, bindO_some', demote_d, cells_set, len_cSet, true_and, set_all, noRef_d, Nat.le_refl]
theorem e70 : Enters Tryz.prog 70 := enters_some (fn := Tryz.f70) (by kernel_rfl) (by kernel_rfl) (by kernel_rfl)
theorem allR_holds (n : Int) : Holds Tryz.prog gl 70 [.d (dI n)] (.d (dSet (allW (clip n)))) := by
  refine holds_of_body hm1 e70 (h := h70) ?_
  rw [body70]
  intro hwf
  simp only [demote_d, dI, parts_nil, build_set, bindO_some', zero_set, cells_set, len_cSet, true_and, Nat.le_refl, set_all, Box.vals]
  have hc := clip_le n
  refine loopP_count (fun i => [.d (.int .i64 n), .d (.int .i64 ((i : Nat) : Int))]) (fun i => [cSet fun _ => 0, cSet (allW i)]) (clip n) (fun i hi I hI => ?_) (fun I => ?_)
  · simp only [vget, bget, List.getD_cons_zero, List.getD_cons_succ, demote_d, lss_lit, bindO_some', ifP_dec]
    have h1 : (i : Int) < n := by unfold clip at hi; omega
    have h2 : (i : Int) < 256 := by omega
    refine ⟨fun _ => ⟨fun _ => ?_, fun h => absurd h (by simpa using h2)⟩, fun h => absurd h (by simpa using h1)⟩
    simp only [part_set, bindO_some', demote_d]
    refine callP_of (withR_holds (allW i) i) ?_
    simp only [demote_d, cells_set, bindO_some', len_cSet, true_and, set_all, Nat.le_refl]
    rw [add_one (by omega)]
    exact hI
  · simp only [vget, bget, List.getD_cons_zero, List.getD_cons_succ, demote_d, lss_lit, bindO_some', ifP_dec, part_set, cells_set, len_cSet, true_and, set_all, noRef_d, Nat.le_refl]
    refine ⟨fun h => ⟨fun h' => ?_, fun _ => ?_⟩, fun _ => ?_⟩
    · exfalso
      have h3 : ((clip n : Nat) : Int) < n := by simpa using h
      have h4 : ((clip n : Nat) : Int) < 256 := by simpa using h'
      unfold clip at h3 h4; omega
    · trivial
    · trivial
/-- a list of numbers, as a slice that is read -/
def dIs (l : List Int) : D := .sl .ro 1 (l.map dI)
def ofW : List Int → (Nat → BitVec 64) → (Nat → BitVec 64)
  | [], w => w
  | n :: l, w => ofW l (withW w n)
theorem ofW_append : ∀ (l m : List Int) (w : Nat → BitVec 64), ofW (l ++ m) w = ofW m (ofW l w)
  | [], _, _ => rfl
  | n :: l, m, w => ofW_append l m _
/-- a slice of numbers in one of its forms -/
inductive IsInts (l : List Int) : SV → Prop
  | nil (sz : Nat) (h : l = []) : IsInts l (.d (.sl .nil sz []))
  | ro : IsInts l (.d (dIs l))
  | full : IsInts l (.full 1 (l.map dI))
theorem IsInts.elems {l : List Int} {x : SV} (h : IsInts l x) : elems 1 x = some (l.map dI) ∧ elemsAny x = some (l.map dI) ∧ demote x = x := by
  cases h with
  | nil sz h => subst h; exact ⟨rfl, rfl, rfl⟩
  | ro => exact ⟨rfl, rfl, rfl⟩
  | full => exact ⟨rfl, rfl, rfl⟩
theorem IsInts.len {l : List Int} {x : SV} (h : IsInts l x) : lenL x = some (.d (.int .i64 (l.length : Int))) := by
  simp [lenL, h.elems.2.1]
theorem IsInts.at {l : List Int} {x : SV} (h : IsInts l x) {i : Nat} (hi : i < l.length) : elemPtr 1 x (.d (.int .i64 (i : Int))) = some (.dptr (dI l[i]) 0) := by
  unfold elemPtr
  rw [h.elems.1]
  simp only [List.length_map]
  rw [index_nat hi]
  simp [hi]
theorem load_int (n : Int) : loadV false 1 (.dptr (dI n) 0) = some (.d (dI n)) := rfl
theorem e62 : Enters Tryz.prog 62 := enters_some (fn := Tryz.f62) (by kernel_rfl) (by kernel_rfl) (by kernel_rfl)
theorem ofR_holds (l : List Int) {x : SV} (hx : IsInts l x) (hl : l.length < 2 ^ 62) : Holds Tryz.prog gl 62 [x] (.d (dSet (ofW l fun _ => 0))) := by
  refine holds_of_body hm1 e62 (h := h62) ?_
  rw [body62]
  intro hwf
  have hd := hx.elems.2.2
  simp only [demote_d, parts_nil, build_set, bindO_some', zero_set, cells_set, len_cSet, true_and, Nat.le_refl, set_all, Box.vals]
  refine loopP_count (fun i => [x, .d (.int .i64 ((i : Nat) : Int))]) (fun i => [cSet fun _ => 0, cSet (ofW (l.take i) fun _ => 0)]) l.length (fun i hi I hI => ?_) (fun I => ?_)
  · simp only [vget, bget, List.getD_cons_zero, List.getD_cons_succ, hd, hx.len, demote_d, lss_lit, bindO_some', ifP_dec]
    refine ⟨fun _ => ?_, fun h => absurd h (by simpa using hi)⟩
    simp only [part_set, bindO_some', demote_d]
    rw [hx.at hi]
    simp only [bindO_some', demote, load_int]
    refine callP_of (withR_holds _ _) ?_
    simp only [demote_d, cells_set, bindO_some', len_cSet, true_and, set_all, Nat.le_refl]
    rw [add_one (by omega)]
    have e : ofW (l.take (i + 1)) (fun _ => 0) = withW (ofW (l.take i) fun _ => 0) l[i] := by
      rw [List.take_add_one, ofW_append]
      simp [hi, ofW]
    rw [e] at hI
    exact hI
  · simp only [vget, bget, List.getD_cons_zero, List.getD_cons_succ, hd, hx.len, demote_d, lss_lit, bindO_some', ifP_dec, List.take_length]
    refine ⟨fun h => absurd h (by simp), fun _ => ?_⟩
    simp only [part_set, bindO_some', demote_d, cells_set, len_cSet, true_and, set_all, noRef_d, Nat.le_refl]
theorem e116 : Enters Tryz.prog 116 := enters_some (fn := Tryz.f116) (by kernel_rfl) (by kernel_rfl) (by kernel_rfl)
theorem of_holds (l : List Int) {x : SV} (hx : IsInts l x) (hl : l.length < 2 ^ 62) : Holds Tryz.prog gl 116 [x] (.d (dSet (ofW l fun _ => 0))) := by
  refine holds_of_body hm1 e116 (h := h116) ?_
  rw [body116]
  intro hwf
  have hd := hx.elems.2.2
  simp only [hd, hx.len, demote_d, bindO_some', zero_set]
  refine loopP_count (fun i => [x, .d (.int .i64 (l.length : Int)), .d (.int .i64 ((i : Nat) : Int))]) (fun i => [cSet fun _ => 0, cSet (ofW (l.take i) fun _ => 0)]) l.length (fun i hi I hI => ?_) (fun I => ?_)
  · simp only [vget, bget, List.getD_cons_zero, List.getD_cons_succ, hd, hx.len, demote_d, lss_lit, bindO_some', ifP_dec]
    refine ⟨fun _ => ?_, fun h => absurd h (by simpa using hi)⟩
    simp only [part_set, bindO_some', demote_d]
    rw [hx.at hi]
    simp only [bindO_some', demote, load_int]
    refine callP_of (with_holds _ _) ?_
    simp only [demote_d, cells_set, bindO_some', len_cSet, true_and, set_all, Nat.le_refl]
    rw [add_one (by omega)]
    have e : ofW (l.take (i + 1)) (fun _ => 0) = withW (ofW (l.take i) fun _ => 0) l[i] := by
      rw [List.take_add_one, ofW_append]
      simp [hi, ofW]
    rw [e] at hI
    exact hI
  · simp only [vget, bget, List.getD_cons_zero, List.getD_cons_succ, hd, hx.len, demote_d, lss_lit, bindO_some', ifP_dec, List.take_length]
    refine ⟨fun h => absurd h (by simp), fun _ => ?_⟩
    simp only [part_set, bindO_some', demote_d, cells_set, len_cSet, true_and, set_all, noRef_d, Nat.le_refl]
/-- numbers that a call has made -/
def nown (l : List Int) : SV := match l with
  | [] => .d (.sl .nil 0 [])
  | l => .own 1 (l.map dI)
theorem app_nown (l : List Int) (n : Int) (k : SV → Prop) (hb : (l.length + 1) * 8 ≤ 140737488355328) (hk : k (nown (l ++ [n]))) : appP 1 8 (nown l) (.full 1 [dI n]) k := by
  unfold appP
  have : appV 1 (nown l) (.full 1 [dI n]) = some (nown (l ++ [n]), l.length + 1) := by
    cases l with
    | nil => rfl
    | cons a l => simp [nown, appV, elems]
  rw [this]
  exact ⟨hb, hk⟩
theorem noRef_nown (l : List Int) : (nown l).noRef = true := by cases l <;> rfl
/-- the numbers below i that are in the set -/
def listW (w : Nat → BitVec 64) : Nat → List Int
  | 0 => []
  | i + 1 => listW w i ++ (if hasW w i then [(i : Int)] else [])
theorem listW_len (w : Nat → BitVec 64) : ∀ i, (listW w i).length ≤ i
  | 0 => Nat.le_refl _
  | i + 1 => by
    have := listW_len w i
    simp only [listW, List.length_append]
    split <;> simp <;> omega
theorem hasI_nat (w : Nat → BitVec 64) {i : Nat} (h : i < 256) : hasI w (i : Int) = hasW w i := by
  simp [hasI, show (i : Int) < 256 by omega]
theorem e88 : Enters Tryz.prog 88 := enters_some (fn := Tryz.f88) (by kernel_rfl) (by kernel_rfl) (by kernel_rfl)
theorem listR_holds (w : Nat → BitVec 64) : Holds Tryz.prog gl 88 [.d (dSet w)] (nown (listW w 256)) := by
  refine holds_of_body hm1 e88 (h := h88) ?_
  rw [body88]
  intro hwf
  simp only [demote_d, cells_set, bindO_some', len_cSet, true_and, Box.vals]
  refine loopP_count (fun i => [nown (listW w i), .d (.int .i64 ((i : Nat) : Int))]) (fun i => [cSet w]) 256 (fun i hi I hI => ?_) (fun I => ?_)
  · simp only [vget, bget, List.getD_cons_zero, List.getD_cons_succ, demote_d, lss_lit, bindO_some', ifP_dec]
    refine ⟨fun _ => ?_, fun h => absurd h (by simp; omega)⟩
    simp only [part_set, bindO_some', demote_d]
    refine callP_of (hasR_holds w i) ?_
    rw [hasI_nat w hi, add_one (by omega)]
    simp only [ifP_dec, bindO_some', demote_d]
    have hlen := listW_len w i
    refine ⟨fun h => ?_, fun h => ?_⟩
    · have e : listW w (i + 1) = listW w i ++ [(i : Int)] := by simp [listW, h]
      rw [e] at hI
      exact ⟨rfl, app_nown _ _ _ (by omega) hI⟩
    · have e : listW w (i + 1) = listW w i := by simp [listW, h]
      rw [e] at hI
      exact hI
  · simp only [vget, bget, List.getD_cons_zero, List.getD_cons_succ, demote_d, lss_lit, bindO_some', ifP_dec]
    refine ⟨fun h => absurd h (by simp), fun _ => ⟨noRef_nown _, ?_⟩⟩
    trivial
theorem e129 : Enters Tryz.prog 129 := enters_some (fn := Tryz.f129) (by kernel_rfl) (by kernel_rfl) (by kernel_rfl)
theorem list_holds (w : Nat → BitVec 64) : Holds Tryz.prog gl 129 [.d (dSet w)] (nown (listW w 256)) := by
  refine holds_of_body hm1 e129 (h := h129) ?_
  rw [body129]
  intro hwf
  simp only [demote_d, cells_set, bindO_some', len_cSet, true_and, Box.vals]
  refine loopP_count (fun i => [nown (listW w i), .d (.int .i64 ((i : Nat) : Int))]) (fun i => [cSet w]) 256 (fun i hi I hI => ?_) (fun I => ?_)
  · simp only [vget, bget, List.getD_cons_zero, List.getD_cons_succ, demote_d, lss_lit, bindO_some', ifP_dec]
    refine ⟨fun _ => ?_, fun h => absurd h (by simp; omega)⟩
    simp only [part_set, bindO_some', demote_d]
    refine callP_of (has_holds w i) ?_
    rw [hasI_nat w hi, add_one (by omega)]
    simp only [ifP_dec, bindO_some', demote_d]
    have hlen := listW_len w i
    refine ⟨fun h => ?_, fun h => ?_⟩
    · have e : listW w (i + 1) = listW w i ++ [(i : Int)] := by simp [listW, h]
      rw [e] at hI
      exact ⟨rfl, app_nown _ _ _ (by omega) hI⟩
    · have e : listW w (i + 1) = listW w i := by simp [listW, h]
      rw [e] at hI
      exact hI
  · simp only [vget, bget, List.getD_cons_zero, List.getD_cons_succ, demote_d, lss_lit, bindO_some', ifP_dec]
    refine ⟨fun h => absurd h (by simp), fun _ => ⟨noRef_nown _, ?_⟩⟩
    trivial
theorem e65 : Enters Tryz.prog 65 := enters_some (fn := Tryz.f65) (by kernel_rfl) (by kernel_rfl) (by kernel_rfl)
theorem within_holds (w v : Nat → BitVec 64) : Holds Tryz.prog gl 65 [.d (dSet w), .d (dSet v)] (.d (.bool (eqW (fun k => w k &&& v k) w))) := by
  refine holds_of_body hm1 e65 (h := h65) ?_
  rw [body65]
  intro hwf
  simp only [demote_d, cells_set, bindO_some', len_cSet, true_and, part_set]
  refine callP_of (meet_holds w v) ?_
  simp only [demote_d, eql_set, bindO_some', noRef_d, true_and]
theorem e69 : Enters Tryz.prog 69 := enters_some (fn := Tryz.f69) (by kernel_rfl) (by kernel_rfl) (by kernel_rfl)
theorem withinR_holds (w v : Nat → BitVec 64) : Holds Tryz.prog gl 69 [.d (dSet w), .d (dSet v)] (.d (.bool (eqW (fun k => w k &&& ~~~ v k) fun _ => 0))) := by
  refine holds_of_body hm1 e69 (h := h69) ?_
  rw [body69]
  intro hwf
  simp only [demote_d, cells_set, bindO_some', len_cSet, true_and, part_set]
  refine callP_of (minusR_holds w v) ?_
  simp only [demote_d, parts_nil, build_set, eql_set, bindO_some', noRef_d, true_and]

end Go.Proofs.YtcnnhnjcnekhcaaGreat.Ab
/-
  CONSTRAINTS: the forms of nodes.
-/
namespace Go.Proofs.YtcnnhnjcnekhcaaGreat.Ab
open Go
theorem rem_lit (a : Int) : binV none .rem (.d (.int .i64 a)) (.d (.int .i64 5)) = some (.d (.int .i64 (a.tmod 5))) := rfl
theorem build_zset : buildD Tryz.prog 25 [] = some (dSet zW) := by kernel_rfl
theorem fold_min (a : Int) : foldIntV minD (.d (.int .i64 a)) [.d (.int .i64 3)] = some (.d (.int .i64 (minD a 3))) := rfl
theorem fold_max (a b : Int) : foldIntV maxD (.d (.int .i64 a)) [.d (.int .i64 b)] = some (.d (.int .i64 (maxD a b))) := rfl
theorem sort_holds (a : Int) : Holds Tryz.prog gl 76 [.d (.int .i64 a)] (.d (.int .i64 (sortI a))) := by
  refine holds_of_body hm1 (enters_some (fn := Tryz.f76) (by kernel_rfl) (by kernel_rfl) (by kernel_rfl)) (h := h76) ?_; rw [body76]; intro hwf
  simp only [sS, true_and, List.map_cons, List.map_nil, vget, bget, List.getD_cons_zero, List.getD_cons_succ, Box.vals, dI, Nat.le_refl, rem_lit, fold_min]
  rfl
theorem isLevel_holds (a : Int) : Holds Tryz.prog gl 75 [.d (.int .i64 a)] (.d (.bool (sortI a == 3))) := by
  refine holds_of_body hm1 (enters_some (fn := Tryz.f75) (by kernel_rfl) (by kernel_rfl) (by kernel_rfl)) (h := h75) ?_; rw [body75]; intro hwf
  refine callP_of (sort_holds a) ?_
  simp only [sS, true_and, List.map_cons, List.map_nil, vget, bget, List.getD_cons_zero, List.getD_cons_succ, Box.vals, dI, Nat.le_refl]
theorem inside1_holds (a lim : Int) : Holds Tryz.prog gl 74 [.d (.int .i64 a), .ref [.d (.int .i64 lim)] 0] (.d (.bool (insideF a lim))) := by
  refine holds_of_body hm1 (enters_some (fn := Tryz.f74) (by kernel_rfl) (by kernel_rfl) (by kernel_rfl)) (h := h74) ?_; rw [body74]; intro hwf
  have hl : loadV false 1 (.ref [.d (.int .i64 lim)] 0) = some (.d (.int .i64 lim)) := rfl
  have hd : demote (.ref [.d (.int .i64 lim)] 0) = .ref [.d (.int .i64 lim)] 0 := rfl
  simp only [sS, true_and, List.map_cons, List.map_nil, vget, bget, List.getD_cons_zero, List.getD_cons_succ, Box.vals, dI, Nat.le_refl, hd, hl]
  refine And.intro (fun h => ?_) (fun h => ?_) <;> simp [insideF, h] <;> simp_all
theorem bare_holds {e : Xp} {x : D} (hx : IsE e x) (n : Int) : Holds Tryz.prog gl 73 [.d x, .d (.int .i64 n)] (.d (.bool (bareF e n))) := by
  refine holds_of_body hm1 (enters_some (fn := Tryz.f73) (by kernel_rfl) (by kernel_rfl) (by kernel_rfl)) (h := h73) ?_; rw [body73]; intro hwf
  obtain ⟨nm, kd, L, rfl, hn, hl, hd, hk⟩ := hx.inv
  simp only [sS, true_and, List.map_cons, List.map_nil, vget, bget, List.getD_cons_zero, List.getD_cons_succ, Box.vals, dI, Nat.le_refl, hn.len, hd.len, len_strs, hl, build_zset]
  simp only [bareF, lenN, lenK]
  repeat' first | with_reducible refine And.intro (fun h => ?_) (fun h => ?_)
  all_goals simp_all
theorem form_holds {e : Xp} {x : D} (hx : IsE e x) (named : Bool) : Holds Tryz.prog gl 38 [.d x, .d (.bool named)] (.d (.int .i64 (formE e named))) := by
  refine holds_of_body hm1 (enters_some (fn := Tryz.f38) (by kernel_rfl) (by kernel_rfl) (by kernel_rfl)) (h := h38) ?_; rw [body38]; intro hwf
  have hb := fun n => bare_holds hx n
  obtain ⟨nm, kd, L, rfl, hn, hl, hd, hk⟩ := hx.inv
  simp only [sS, true_and, List.map_cons, List.map_nil, vget, bget, List.getD_cons_zero, List.getD_cons_succ, Box.vals, dI, Nat.le_refl, hn.len, hd.len, len_strs, hl, build_zset]
  repeat' first | with_reducible refine And.intro (fun h => ?_) (fun h => ?_) | (with_reducible refine callP_of (hb _) ?_; simp only [sS, true_and, List.map_cons, List.map_nil, vget, bget, List.getD_cons_zero, List.getD_cons_succ, Box.vals, dI, Nat.le_refl])
  all_goals (simp only [formE, formF, lenN, lenK]; simp_all)
end Go.Proofs.YtcnnhnjcnekhcaaGreat.Ab
/-
  CONSTRAINTS: the meaning of nodes, and the reference's nodes.
-/
namespace Go.Proofs.YtcnnhnjcnekhcaaGreat.Ab
open Go
theorem cells_int (k : IntKind) (n : Int) : cellsV (.d (.int k n)) = some [.d (.int k n)] := rfl
theorem meaning_holds {e : Xp} {x : D} (hx : IsE e x) (lim : Int) : Holds Tryz.prog gl 39 [.d x, .d (.int .i64 lim)] (.d (.int .i64 (meaningF e lim))) := by
  refine holds_of_body hm1 (enters_some (fn := Tryz.f39) (by kernel_rfl) (by kernel_rfl) (by kernel_rfl)) (h := h39) ?_; rw [body39]; intro hwf
  obtain ⟨nm, kd, L, rfl, hn, hl, hd, hk⟩ := hx.inv
  simp only [sS, true_and, List.map_cons, List.map_nil, vget, bget, List.getD_cons_zero, List.getD_cons_succ, Box.vals, dI, Nat.le_refl, cells_int, List.length_singleton]
  repeat' first | with_reducible refine And.intro (fun h => ?_) (fun h => ?_) | (with_reducible refine callP_of (inside1_holds _ _) ?_; simp only [sS, true_and, List.map_cons, List.map_nil, vget, bget, List.getD_cons_zero, List.getD_cons_succ, Box.vals, dI, Nat.le_refl]) | (with_reducible refine callP_of (isLevel_holds _) ?_; simp only [sS, true_and, List.map_cons, List.map_nil, vget, bget, List.getD_cons_zero, List.getD_cons_succ, Box.vals, dI, Nat.le_refl]) | (with_reducible refine callP_of (sort_holds _) ?_; simp only [sS, true_and, List.map_cons, List.map_nil, vget, bget, List.getD_cons_zero, List.getD_cons_succ, Box.vals, dI, Nat.le_refl])
  all_goals (simp only [meaningF]; first | (simp_all; done) | (simp_all; grind))
theorem sortR_holds (a : Int) : Holds Tryz.prog gl 89 [.d (.int .i64 a)] (.d (.int .i64 (sortI a))) := by
  refine holds_of_body hm1 (enters_some (fn := Tryz.f89) (by kernel_rfl) (by kernel_rfl) (by kernel_rfl)) (h := h89) ?_; rw [body89]; intro hwf
  simp only [sS, true_and, List.map_cons, List.map_nil, vget, bget, List.getD_cons_zero, List.getD_cons_succ, Box.vals, dI, Nat.le_refl, rem_lit, fold_min]
  rfl
theorem kids_holds (op : Int) : Holds Tryz.prog gl 111 [.d (.int .i64 op)] (.d (.int .i64 (kidsN op))) := by
  refine holds_of_body hm1 (enters_some (fn := Tryz.f111) (by kernel_rfl) (by kernel_rfl) (by kernel_rfl)) (h := h111) ?_; rw [body111]; intro hwf
  simp only [sS, true_and, List.map_cons, List.map_nil, vget, bget, List.getD_cons_zero, List.getD_cons_succ, Box.vals, dI, Nat.le_refl]
  repeat' first | with_reducible refine And.intro (fun h => ?_) (fun h => ?_)
  all_goals (simp only [kidsN]; simp_all)
theorem withinI_holds (a lim : Int) : Holds Tryz.prog gl 112 [.d (.int .i64 a), .d (.int .i64 lim)] (.d (.bool (insideF a lim))) := by
  refine holds_of_body hm1 (enters_some (fn := Tryz.f112) (by kernel_rfl) (by kernel_rfl) (by kernel_rfl)) (h := h112) ?_; rw [body112]; intro hwf
  simp only [sS, true_and, List.map_cons, List.map_nil, vget, bget, List.getD_cons_zero, List.getD_cons_succ, Box.vals, dI, Nat.le_refl]
  repeat' first | with_reducible refine And.intro (fun h => ?_) (fun h => ?_)
  all_goals (simp only [insideF]; first | (simp_all; done) | (simp_all; omega))
theorem zset_eq : [SV.d (.int .u64 0), .d (.int .u64 0), .d (.int .u64 0), .d (.int .u64 0)] = cSet zW := rfl
theorem fields_holds {e : Xp} {x : D} (hx : IsE e x) (s : Bool) : Holds Tryz.prog gl 110 [.d x, .d (.bool s)] (.d (.bool (fieldsF e s))) := by
  refine holds_of_body hm1 (enters_some (fn := Tryz.f110) (by kernel_rfl) (by kernel_rfl) (by kernel_rfl)) (h := h110) ?_; rw [body110]; intro hwf
  obtain ⟨nm, kd, L, rfl, hn, hl, hd, hk⟩ := hx.inv
  simp only [sS, true_and, List.map_cons, List.map_nil, vget, bget, List.getD_cons_zero, List.getD_cons_succ, Box.vals, dI, Nat.le_refl, hn.len, hd.len, len_strs, hl, zset_eq, part_set]
  repeat' first | with_reducible refine And.intro (fun h => ?_) (fun h => ?_) | (with_reducible refine callP_of (kids_holds _) ?_; simp only [sS, true_and, List.map_cons, List.map_nil, vget, bget, List.getD_cons_zero, List.getD_cons_succ, Box.vals, dI, Nat.le_refl])
  all_goals (simp only [fieldsF, lenN, lenK]; simp_all)
def nodeRF (e : Xp) (s v : Bool) : Int := nodeF e s (if v then 15 else 10)
theorem nodeR_holds {e : Xp} {x : D} (hx : IsE e x) (s v : Bool) : Holds Tryz.prog gl 68 [.d x, .d (.bool s), .d (.bool v)] (.d (.int .i64 (nodeRF e s v))) := by
  refine holds_of_body hm1 (enters_some (fn := Tryz.f68) (by kernel_rfl) (by kernel_rfl) (by kernel_rfl)) (h := h68) ?_; rw [body68]; intro hwf
  have hb := fun s => fields_holds hx s
  obtain ⟨nm, kd, L, rfl, hn, hl, hd, hk⟩ := hx.inv
  simp only [sS, true_and, List.map_cons, List.map_nil, vget, bget, List.getD_cons_zero, List.getD_cons_succ, Box.vals, dI, Nat.le_refl]
  have hk8 : (e.op == 8 || e.op == 9) = true → (kidsN e.op > 0) = False := by
    intro h; simp only [Bool.or_eq_true, beq_iff_eq] at h; rcases h with h | h <;> simp [kidsN, h]
  have hk0 : formF e s = true → (e.op == 8 || e.op == 9) = false → (kidsN e.op > 0) = True := by
    intro h h'
    simp only [Bool.or_eq_false_iff, beq_eq_false_iff_ne] at h'
    unfold formF at h
    simp only [kidsN]
    by_cases h2 : e.op = 2
    · simp [h2]
    by_cases h3 : e.op = 3
    · simp [h3]
    by_cases h4 : e.op = 4
    · simp [h4]
    · simp [h2, h3, h4, h'] at h
  have hr : (!insideF e.rel 5) = (decide (e.rel < 0) || decide (e.rel > 4)) := by
    unfold insideF
    rw [Bool.eq_iff_iff]; simp; omega
  repeat' first | with_reducible refine And.intro (fun h => ?_) (fun h => ?_) | (with_reducible refine callP_of (hb _) ?_; rw [fields_form]; simp only [sS, true_and, List.map_cons, List.map_nil, vget, bget, List.getD_cons_zero, List.getD_cons_succ, Box.vals, dI, Nat.le_refl]) | (with_reducible refine callP_of (kids_holds _) ?_; simp only [sS, true_and, List.map_cons, List.map_nil, vget, bget, List.getD_cons_zero, List.getD_cons_succ, Box.vals, dI, Nat.le_refl]) | (with_reducible refine callP_of (withinI_holds _ _) ?_; simp only [sS, true_and, List.map_cons, List.map_nil, vget, bget, List.getD_cons_zero, List.getD_cons_succ, Box.vals, dI, Nat.le_refl, hr]) | (with_reducible refine callP_of (sortR_holds _) ?_; simp only [sS, true_and, List.map_cons, List.map_nil, vget, bget, List.getD_cons_zero, List.getD_cons_succ, Box.vals, dI, Nat.le_refl])
  all_goals (simp only [nodeRF, nodeF, meaningF]; clear hb hwf hx hn hd hk; first | (simp_all; done) | (simp_all; grind) | grind)
end Go.Proofs.YtcnnhnjcnekhcaaGreat.Ab
/-
  CONSTRAINTS: what goes through all nodes.
-/
namespace Go.Proofs.YtcnnhnjcnekhcaaGreat.Ab
open Go
theorem set_ex (a0 a1 a2 a3 a4 a5 a6 a7 a8 a9 : SV) (op a rel b : Int) (nm : D) (w : Nat → BitVec 64) (kd : D) : setAt [a0, a1, a2, a3, a4, a5, a6, a7, a8, a9] 0 (cEx op a rel b nm w kd) = cEx op a rel b nm w kd := rfl
theorem IsE.load {k : Xp} {y : D} (h : IsE k y) : loadV true 10 (.dptr y 0) = some (.d y) := by
  obtain ⟨nm, kd, L, rfl, _⟩ := h.inv
  exact load_agg _ 10 rfl
theorem IsE.cells {k : Xp} {y : D} (h : IsE k y) : ∃ cs, cellsV (.d y) = some cs ∧ cs.length = 10 ∧ partV true 10 0 cs = some (.d y) ∧ ∀ a0 a1 a2 a3 a4 a5 a6 a7 a8 a9 : SV, setAt [a0, a1, a2, a3, a4, a5, a6, a7, a8, a9] 0 cs = cs := by
  obtain ⟨nm, kd, L, rfl, _⟩ := h.inv
  exact ⟨_, cells_ex _ _ _ _ _ _ _, rfl, rfl, fun a0 a1 a2 a3 a4 a5 a6 a7 a8 a9 => set_ex a0 a1 a2 a3 a4 a5 a6 a7 a8 a9 _ _ _ _ _ _ _⟩
theorem sub_int1 {n : Int} (h1 : -1000000 < n) (h2 : n < 1000000) : binV none .sub (.d (.int .i64 n)) (.d (.int .i64 1)) = some (.d (.int .i64 (n - 1))) := by
  have h3 : IntKind.i64.wrap (n - 1) = n - 1 := wrap_i64 (by omega) (by omega)
  simp only [binV, binD, intBop, h3, ↓reduceIte]
theorem lvs_take : ∀ {l : List Xp} {i : Nat} {k : Xp}, l[i]? = some k → Xp.lv.lvs (l.take (i + 1)) = max (Xp.lv.lvs (l.take i)) k.lv
  | [], i, k, h => by simp at h
  | x :: l, 0, k, h => by simp at h; subst h; simp [Xp.lv.lvs]
  | x :: l, i + 1, k, h => by
    rw [List.take_succ_cons, Xp.lv.lvs, lvs_take (l := l) (by simpa using h), List.take_succ_cons, Xp.lv.lvs]
    omega
theorem maxD_nat (a b : Nat) : maxD (a : Int) (b : Int) = ((max a b : Nat) : Int) := by
  unfold maxD
  split <;> omega
theorem levels_holds : ∀ (n : Nat) (e : Xp) (x : D), e.lv ≤ n → n ≤ 1000 → IsE e x → Holds Tryz.prog gl 30 [.d x] (.d (.int .i64 (e.lv : Int)))
  | 0, e, x, hn, _, _ => absurd hn (by have := lv_pos e; omega)
  | n + 1, e, x, hn, hm, hx => by
    refine holds_of_body hm1 (enters_some (fn := Tryz.f30) (by kernel_rfl) (by kernel_rfl) (by kernel_rfl)) (h := h30) ?_; rw [body30]; intro hwf
    have hlv := e.lv_eq
    obtain ⟨nm, kd, L, rfl, hnm, hl, hd, hk⟩ := hx.inv
    simp only [sS, true_and, List.map_cons, List.map_nil, vget, bget, List.getD_cons_zero, List.getD_cons_succ, Box.vals, dI, Nat.le_refl, hd.len]
    refine loopP_count (fun i => [.d (.int .i64 ((Xp.lv.lvs (e.kids.take i) : Nat) : Int)), .d kd, .d (.int .i64 (L.length : Int)), .d (.int .i64 ((i : Nat) : Int))]) (fun i => [cEx e.op e.a e.rel e.b nm e.w kd]) L.length (fun i hi I hI => ?_) (fun I => ?_)
    · simp only [sS, true_and, List.map_cons, List.map_nil, vget, bget, List.getD_cons_zero, List.getD_cons_succ, Box.vals, dI, Nat.le_refl]
      refine And.intro (fun _ => ?_) (fun h => absurd h (by simp; omega))
      obtain ⟨y, hy⟩ := get_some hi
      obtain ⟨k, hky⟩ := get_some (show i < e.kids.length by omega)
      have hek := hk i k y hky hy
      have hlt := Xp.kid_lt hky
      obtain ⟨cs, c1, c2, c3, c4⟩ := hek.cells
      have hcap : L.length ≤ maxLen := by
        have := (SV.WfL_iff _).1 hwf (.d (.agg (fEx e.op e.a e.rel e.b nm e.w kd))) (by simp)
        simp only [SV.Wf, D.Wf, fEx, D.WfL] at this
        have h9 := this.2.2.2.2.2.2.2.2.2.1
        cases hd with
        | nil s h => subst h; simp
        | ro => exact h9.1
      rw [hd.at hy]
      simp only [sS, true_and, List.map_cons, List.map_nil, vget, bget, List.getD_cons_zero, List.getD_cons_succ, Box.vals, dI, Nat.le_refl, hek.load, c1, c2, c3, c4]
      refine callP_of (levels_holds n k y (by omega) (by omega) hek) ?_
      simp only [sS, true_and, List.map_cons, List.map_nil, vget, bget, List.getD_cons_zero, List.getD_cons_succ, Box.vals, dI, Nat.le_refl, fold_max, maxD_nat]
      refine bindO_to (add_up hi hcap) ?_
      rw [lvs_take hky] at hI
      exact hI
    · simp only [sS, true_and, List.map_cons, List.map_nil, vget, bget, List.getD_cons_zero, List.getD_cons_succ, Box.vals, dI, Nat.le_refl]
      refine And.intro (fun h => absurd h (by simp)) (fun _ => ?_)
      rw [hl, List.take_length]
      refine bindO_to (add_one (by omega)) ?_
      simp only [sS, true_and, List.map_cons, List.map_nil, vget, bget, List.getD_cons_zero, List.getD_cons_succ, Box.vals, dI, Nat.le_refl, hlv]
end Go.Proofs.YtcnnhnjcnekhcaaGreat.Ab
/-
  CONSTRAINTS: the first error; well-formed, small.
-/
namespace Go.Proofs.YtcnnhnjcnekhcaaGreat.Ab
open Go
theorem ex_cap {op a rel b : Int} {nm kd : D} {w : Nat → BitVec 64} {rest : List SV} {L : List D} (hwf : SV.WfL (.d (.agg (fEx op a rel b nm w kd)) :: rest)) (hd : IsD 10 L kd) : L.length ≤ maxLen := by
  have := (SV.WfL_iff _).1 hwf (.d (.agg (fEx op a rel b nm w kd))) (by simp)
  simp only [SV.Wf, D.Wf, fEx, D.WfL] at this
  have h9 := this.2.2.2.2.2.2.2.2.2.1
  cases hd with
  | nil s h => subst h; simp
  | ro => exact h9.1
theorem withFn_fn (f : FuncId) (args : List SV) (k : FuncId → List SV → Prop) : withFn (.d (.fn (.func f))) args k = k f args := rfl
theorem withFn_clo (f : FuncId) (cap args : List SV) (k : FuncId → List SV → Prop) : withFn (.clo (.func f) [] cap) args k = k f (args ++ cap) := rfl
/-- what is called examines a node -/
def Exam (g : SV) (F : Xp → Int) (m : Nat) : Prop := demote g = g ∧ ∀ (k : Xp) (y : D), k.lv ≤ m → IsE k y → ∀ K : SV → Prop, K (.d (.int .i64 (F k))) → withFn g [.d y] fun f l => callP (Holds Tryz.prog gl) f l K
theorem first_holds {g : SV} {F : Xp → Int} : ∀ (n : Nat) (e : Xp) (x : D), e.lv ≤ n → IsE e x → Exam g F n → Holds Tryz.prog gl 31 [.d x, g] (.d (.int .i64 (firstF F e)))
  | 0, e, x, hn, _, _ => absurd hn (by have := lv_pos e; omega)
  | n + 1, e, x, hn, hx, hg => by
    refine holds_of_body hm1 (enters_some (fn := Tryz.f31) (by kernel_rfl) (by kernel_rfl) (by kernel_rfl)) (h := h31) ?_; rw [body31]; intro hwf
    have hex := hg.2 e x hn hx
    have hg1 := hg.1
    obtain ⟨nm, kd, L, rfl, hnm, hl, hd, hk⟩ := hx.inv
    have hcap := ex_cap hwf hd
    simp only [sS, true_and, List.map_cons, List.map_nil, vget, bget, List.getD_cons_zero, List.getD_cons_succ, Box.vals, dI, Nat.le_refl, hg1]
    refine hex _ ?_
    simp only [sS, true_and, List.map_cons, List.map_nil, vget, bget, List.getD_cons_zero, List.getD_cons_succ, Box.vals, dI, Nat.le_refl]
    refine And.intro (fun h => ?_) (fun h => ?_)
    · rw [firstF_eq, if_pos (by simpa using h)]
    · have h0 : firstF F e = firstF.go F e.kids := by rw [firstF_eq, if_neg (by simpa using h)]
      rw [h0]
      simp only [hd.len, sS, true_and, List.map_cons, List.map_nil, vget, bget, List.getD_cons_zero, List.getD_cons_succ, Box.vals, dI, Nat.le_refl]
      refine loopP_inv (fun i => firstF.go F (e.kids.take i) = 0) (fun i => [g, .d kd, .d (.int .i64 (L.length : Int)), .d (.int .i64 ((i : Nat) : Int))]) (fun i => [cEx e.op e.a e.rel e.b nm e.w kd]) L.length rfl (fun i hi hJ I hI => ?_) (fun hJ I => ?_)
      · simp only [sS, true_and, List.map_cons, List.map_nil, vget, bget, List.getD_cons_zero, List.getD_cons_succ, Box.vals, dI, Nat.le_refl, hg1]
        refine And.intro (fun _ => ?_) (fun h => absurd h (by simp; omega))
        obtain ⟨y, hy⟩ := get_some hi
        obtain ⟨k, hky⟩ := get_some (show i < e.kids.length by omega)
        have hek := hk i k y hky hy
        have hlt := Xp.kid_lt hky
        obtain ⟨cs, c1, c2, c3, c4⟩ := hek.cells
        rw [hd.at hy]
        simp only [sS, true_and, List.map_cons, List.map_nil, vget, bget, List.getD_cons_zero, List.getD_cons_succ, Box.vals, dI, Nat.le_refl, hek.load, c1, c2, c3, c4]
        refine callP_of (first_holds n k y (by omega) hek ⟨hg1, fun k y hk => hg.2 k y (by omega)⟩) ?_
        simp only [sS, true_and, List.map_cons, List.map_nil, vget, bget, List.getD_cons_zero, List.getD_cons_succ, Box.vals, dI, Nat.le_refl]
        have ht := firsts_take hky hJ
        refine And.intro (fun h' => ?_) (fun h' => ?_)
        · have h1 : firstF F k ≠ 0 := by simpa using h'
          rw [firsts_ne (i := i + 1) (by rw [ht]; exact h1), ht]
        · have h1 : firstF F k = 0 := by simpa using h'
          refine bindO_to (add_up hi hcap) ?_
          exact hI (by rw [ht, h1])
      · simp only [sS, true_and, List.map_cons, List.map_nil, vget, bget, List.getD_cons_zero, List.getD_cons_succ, Box.vals, dI, Nat.le_refl]
        refine And.intro (fun h => absurd h (by simp)) (fun _ => ?_)
        rw [hl, List.take_length] at hJ
        rw [hJ]
theorem wellFormed_holds : ∀ (n : Nat) (e : Xp) (x : D) (lev : Int), e.lv ≤ n → IsE e x → lev ≤ 1000 → Holds Tryz.prog gl 85 [.d x, .d (.int .i64 lev)] (.d (.bool (allX (fun e => nodeRF e false true == 0) e lev)))
  | 0, e, x, _, hn, _, _ => absurd hn (by have := lv_pos e; omega)
  | n + 1, e, x, lev, hn, hx, hlev => by
    refine holds_of_body hm1 (enters_some (fn := Tryz.f85) (by kernel_rfl) (by kernel_rfl) (by kernel_rfl)) (h := h85) ?_; rw [body85]; intro hwf
    have hnode := nodeR_holds hx false true
    rw [allX_eq]
    obtain ⟨nm, kd, L, rfl, hnm, hl, hd, hk⟩ := hx.inv
    have hcap := ex_cap hwf hd
    simp only [sS, true_and, List.map_cons, List.map_nil, vget, bget, List.getD_cons_zero, List.getD_cons_succ, Box.vals, dI, Nat.le_refl]
    refine And.intro (fun h => ?_) (fun h0 => ?_)
    · rw [h]; rfl
    rw [h0, Bool.not_false, Bool.true_and]
    refine callP_of hnode ?_
    simp only [sS, true_and, List.map_cons, List.map_nil, vget, bget, List.getD_cons_zero, List.getD_cons_succ, Box.vals, dI, Nat.le_refl]
    refine And.intro (fun h => ?_) (fun h => ?_)
    · rw [bne, Bool.not_eq_true'] at h; rw [h]; rfl
    rw [bne, Bool.not_eq_false'] at h
    rw [h, Bool.true_and]
    have hlev0 : ¬ lev ≤ 0 := of_decide_eq_false h0
    refine loopP_inv (fun i => ∀ (j : Nat) k, j < i → e.kids[j]? = some k → allX (fun e => nodeRF e false true == 0) k (lev - 1) = true) (fun i => [.d (.int .i64 lev), .d (.int .i64 ((i : Nat) : Int))]) (fun i => [cEx e.op e.a e.rel e.b nm e.w kd]) L.length (fun j k hj _ => by omega) (fun i hi hJ I hI => ?_) (fun hJ I => ?_)
    · simp only [sS, true_and, List.map_cons, List.map_nil, vget, bget, List.getD_cons_zero, List.getD_cons_succ, Box.vals, dI, Nat.le_refl, hd.len]
      refine And.intro (fun _ => ?_) (fun h => absurd h (by simp; omega))
      obtain ⟨y, hy⟩ := get_some hi
      obtain ⟨k, hky⟩ := get_some (show i < e.kids.length by omega)
      have hek := hk i k y hky hy
      have hlt := Xp.kid_lt hky
      rw [hd.at hy]
      simp only [sS, true_and, List.map_cons, List.map_nil, vget, bget, List.getD_cons_zero, List.getD_cons_succ, Box.vals, dI, Nat.le_refl, hek.load]
      rw [sub_int1 (by omega) (by omega)]
      simp only [sS, true_and, List.map_cons, List.map_nil, vget, bget, List.getD_cons_zero, List.getD_cons_succ, Box.vals, dI, Nat.le_refl]
      refine callP_of (wellFormed_holds n k y (lev - 1) (by omega) hek (by omega)) ?_
      simp only [sS, true_and, List.map_cons, List.map_nil, vget, bget, List.getD_cons_zero, List.getD_cons_succ, Box.vals, dI, Nat.le_refl]
      refine And.intro (fun h' => ?_) (fun h' => ?_)
      · have h1 : allX (fun e => nodeRF e false true == 0) k (lev - 1) = false := by simpa using h'
        rw [alls_not hky h1]
      · have h1 : allX (fun e => nodeRF e false true == 0) k (lev - 1) = true := by simpa using h'
        refine bindO_to (add_up hi hcap) ?_
        refine hI fun j k' hj hk' => ?_
        rcases Nat.lt_or_ge j i with h2 | h2
        · exact hJ j k' h2 hk'
        · have : j = i := by omega
          subst this
          rw [hky] at hk'
          cases hk'
          exact h1
    · simp only [sS, true_and, List.map_cons, List.map_nil, vget, bget, List.getD_cons_zero, List.getD_cons_succ, Box.vals, dI, Nat.le_refl, hd.len]
      refine And.intro (fun h => absurd h (by simp)) (fun _ => ?_)
      rw [alls_all (fun i k hk' => hJ i k (by have := (List.getElem?_eq_some_iff.1 hk').1; omega) hk')]
def smallN (e : Xp) : Bool := !decide (lenK e > 3) && !decide (lenN e > 20)
theorem small_holds : ∀ (n : Nat) (e : Xp) (x : D) (lev : Int), e.lv ≤ n → IsE e x → lev ≤ 1000 → Holds Tryz.prog gl 23 [.d x, .d (.int .i64 lev)] (.d (.bool (allX smallN e lev)))
  | 0, e, x, _, hn, _, _ => absurd hn (by have := lv_pos e; omega)
  | n + 1, e, x, lev, hn, hx, hlev => by
    refine holds_of_body hm1 (enters_some (fn := Tryz.f23) (by kernel_rfl) (by kernel_rfl) (by kernel_rfl)) (h := h23) ?_; rw [body23]; intro hwf
    rw [allX_eq]
    obtain ⟨nm, kd, L, rfl, hnm, hl, hd, hk⟩ := hx.inv
    have hcap := ex_cap hwf hd
    simp only [sS, true_and, List.map_cons, List.map_nil, vget, bget, List.getD_cons_zero, List.getD_cons_succ, Box.vals, dI, Nat.le_refl, hd.len, hnm.len, len_strs]
    refine And.intro (fun h => ?_) (fun h0 => ?_)
    · rw [h]; rfl
    rw [h0, Bool.not_false, Bool.true_and]
    have e1 : lenK e = (L.length : Int) := by rw [hl]; rfl
    refine And.intro (fun h => ?_) (fun h1 => ?_)
    · rw [smallN, e1, h]; rfl
    refine And.intro (fun h => ?_) (fun h2 => ?_)
    · rw [smallN, e1, h1, lenN, h]; rfl
    rw [smallN, e1, h1, lenN, h2, Bool.not_false, Bool.true_and, Bool.true_and]
    have hlev0 : ¬ lev ≤ 0 := of_decide_eq_false h0
    refine loopP_inv (fun i => ∀ (j : Nat) k, j < i → e.kids[j]? = some k → allX smallN k (lev - 1) = true) (fun i => [.d (.int .i64 lev), .d (.int .i64 ((i : Nat) : Int))]) (fun i => [cEx e.op e.a e.rel e.b nm e.w kd]) L.length (fun j k hj _ => by omega) (fun i hi hJ I hI => ?_) (fun hJ I => ?_)
    · simp only [sS, true_and, List.map_cons, List.map_nil, vget, bget, List.getD_cons_zero, List.getD_cons_succ, Box.vals, dI, Nat.le_refl, hd.len]
      refine And.intro (fun _ => ?_) (fun h => absurd h (by simp; omega))
      obtain ⟨y, hy⟩ := get_some hi
      obtain ⟨k, hky⟩ := get_some (show i < e.kids.length by omega)
      have hek := hk i k y hky hy
      have hlt := Xp.kid_lt hky
      rw [hd.at hy]
      simp only [sS, true_and, List.map_cons, List.map_nil, vget, bget, List.getD_cons_zero, List.getD_cons_succ, Box.vals, dI, Nat.le_refl, hek.load]
      rw [sub_int1 (by omega) (by omega)]
      simp only [sS, true_and, List.map_cons, List.map_nil, vget, bget, List.getD_cons_zero, List.getD_cons_succ, Box.vals, dI, Nat.le_refl]
      refine callP_of (small_holds n k y (lev - 1) (by omega) hek (by omega)) ?_
      simp only [sS, true_and, List.map_cons, List.map_nil, vget, bget, List.getD_cons_zero, List.getD_cons_succ, Box.vals, dI, Nat.le_refl]
      refine And.intro (fun h' => ?_) (fun h' => ?_)
      · have h1 : allX smallN k (lev - 1) = false := by simpa using h'
        rw [alls_not hky h1]
      · have h1 : allX smallN k (lev - 1) = true := by simpa using h'
        refine bindO_to (add_up hi hcap) ?_
        refine hI fun j k' hj hk' => ?_
        rcases Nat.lt_or_ge j i with h2 | h2
        · exact hJ j k' h2 hk'
        · have : j = i := by omega
          subst this
          rw [hky] at hk'
          cases hk'
          exact h1
    · simp only [sS, true_and, List.map_cons, List.map_nil, vget, bget, List.getD_cons_zero, List.getD_cons_succ, Box.vals, dI, Nat.le_refl, hd.len]
      refine And.intro (fun h => absurd h (by simp)) (fun _ => ?_)
      rw [alls_all (fun i k hk' => hJ i k (by have := (List.getElem?_eq_some_iff.1 hk').1; omega) hk')]
theorem eval1_holds {e : Xp} {x : D} (hx : IsE e x) : Holds Tryz.prog gl 44 [.d x] (.d (.int .i64 (nodeF e false 15))) := by
  refine holds_of_body hm1 (enters_some (fn := Tryz.f44) (by kernel_rfl) (by kernel_rfl) (by kernel_rfl)) (h := h44) ?_; rw [body44]; intro hwf
  have hf := form_holds hx false
  have hm := meaning_holds hx 15
  obtain ⟨nm, kd, L, rfl, hnm, hl, hd, hk⟩ := hx.inv
  simp only [sS, true_and, List.map_cons, List.map_nil, vget, bget, List.getD_cons_zero, List.getD_cons_succ, Box.vals, dI, Nat.le_refl]
  refine callP_of hf ?_
  simp only [sS, true_and, List.map_cons, List.map_nil, vget, bget, List.getD_cons_zero, List.getD_cons_succ, Box.vals, dI, Nat.le_refl, formE, nodeF]
  refine And.intro (fun h => ?_) (fun h => ?_)
  · by_cases hh : formF e false = true
    · rw [if_pos hh] at h; cases h
    · rw [if_neg hh, if_neg hh]
  · by_cases hh : formF e false = true
    · refine callP_of hm ?_
      simp only [sS, true_and, List.map_cons, List.map_nil, vget, bget, List.getD_cons_zero, List.getD_cons_succ, Box.vals, dI, Nat.le_refl]
      rw [if_pos hh]
    · rw [if_neg hh] at h; cases h
end Go.Proofs.YtcnnhnjcnekhcaaGreat.Ab
