/-
  Steps towards the claim of this seat (C1).
-/
import Derived.Test.YtofghbnaofcpdaaDoorB1
import Derived.Test.YtofghbnaofcpdaaDoorTy2
set_option linter.unusedVariables false
set_option linter.unusedSimpArgs false
namespace Go.Proofs.YtofghbnaofcpdaaDoor.Ab
open Go

theorem hm1 : (Tryd.prog).follows .mixedOrders = true := by kernel_rfl
theorem e36 : Enters Tryd.prog 36 := enters_some (fn := Tryd.f36) (by kernel_rfl) (by kernel_rfl) (by kernel_rfl)
theorem inside_holds (n : Int) : Holds Tryd.prog gl 36 [.d (dI n)] (.d (.bool (decide (0 ≤ n) && decide (n < 256)))) := by
  refine holds_of_body hm1 e36 (h := h36) ?_
  rw [body36]
  intro hwf
  simp only [demote_d, dI, binV, binD, intBop, bindO_some', ifP_dec, noRef_d, true_and, ↓reduceIte]
  refine ⟨fun h => ?_, fun h => ?_⟩
  · simp only [ge_iff_le] at h; rw [h]; rfl
  · simp only [ge_iff_le] at h; rw [h]; rfl
theorem e17 : Enters Tryd.prog 17 := enters_some (fn := Tryd.f17) (by kernel_rfl) (by kernel_rfl) (by kernel_rfl)
def hasI (w : Nat → BitVec 64) (n : Int) : Bool := decide (0 ≤ n) && decide (n < 256) && hasW w n.toNat
theorem has_holds (w : Nat → BitVec 64) (n : Int) : Holds Tryd.prog gl 17 [.d (dSet w), .d (dI n)] (.d (.bool (hasI w n))) := by
  refine holds_of_body hm1 e17 (h := h17) ?_
  rw [body17]
  intro hwf
  simp only [demote_d, cells_set, bindO_some', len_cSet, true_and]
  refine callP_of (inside_holds n) ?_
  simp only [demote_d, ifP_dec, noRef_d, true_and]
  refine ⟨fun h => ?_, fun h => ?_⟩
  · simp only [Bool.and_eq_true, decide_eq_true_eq] at h
    obtain ⟨m, rfl⟩ := Int.eq_ofNat_of_zero_le h.1
    have hm : m < 256 := by omega
    rw [dI, quo64 (by omega), rem64]
    simp only [bindO_some', demote_d]
    rw [index_nat (show m / 64 < 4 by omega)]
    simp only [bindO_some', Nat.zero_add, Nat.mul_one]
    rw [part_word w (show m / 64 < 4 by omega)]
    simp only [bindO_some', demote_d, bin_shr, one_word, bin_and, bin_eqlW, noRef_d, true_and]
    have e : hasI w (m : Int) = ((w (m / 64) >>> (m % 64)) &&& 1#64 == 1#64) := by
      rw [bit_eq]
      simp only [hasI, hasW, Int.toNat_natCast, decide_eq_true h.1, decide_eq_true h.2, Bool.true_and]
    rw [e]
    rfl
  · rw [hasI, h]; rfl
theorem e22 : Enters Tryd.prog 22 := enters_some (fn := Tryd.f22) (by kernel_rfl) (by kernel_rfl) (by kernel_rfl)
/-- with a number -/
def withW (w : Nat → BitVec 64) (n : Int) : Nat → BitVec 64 := if 0 ≤ n ∧ n < 256 then upW w (n.toNat / 64) (w (n.toNat / 64) ||| 1#64 <<< (n.toNat % 64)) else w
theorem with_holds (w : Nat → BitVec 64) (n : Int) : Holds Tryd.prog gl 22 [.d (dSet w), .d (dI n)] (.d (dSet (withW w n))) := by
  refine holds_of_body hm1 e22 (h := h22) ?_
  rw [body22]
  intro hwf
  simp only [demote_d, cells_set, bindO_some', len_cSet, true_and, zero_set, set_all, part_set, noRef_d, Nat.le_refl]
  refine callP_of (inside_holds n) ?_
  simp only [ifP_dec]
  refine ⟨fun h => ?_, fun h => ?_⟩
  · simp only [Bool.and_eq_true, decide_eq_true_eq] at h
    obtain ⟨m, rfl⟩ := Int.eq_ofNat_of_zero_le h.1
    have hm : m < 256 := by omega
    rw [dI, quo64 (by omega), rem64]
    simp only [bindO_some', demote_d]
    rw [index_nat (show m / 64 < 4 by omega)]
    simp only [bindO_some', Nat.zero_add, Nat.mul_one]
    rw [part_word w (show m / 64 < 4 by omega)]
    simp only [bindO_some', demote_d, one_word, bin_shl, bin_or, cells_word, List.length_singleton, true_and]
    refine ⟨by omega, ?_⟩
    rw [set_word w (show m / 64 < 4 by omega)]
    simp only [part_set, bindO_some', demote_d, cells_set, len_cSet, true_and, set_all, noRef_d, Nat.le_refl]
    rw [withW, if_pos h]
    rfl
  · have : ¬ (0 ≤ n ∧ n < 256) := by simpa using h
    rw [withW, if_neg this]
theorem e26 : Enters Tryd.prog 26 := enters_some (fn := Tryd.f26) (by kernel_rfl) (by kernel_rfl) (by kernel_rfl)
theorem union_holds (w v : Nat → BitVec 64) : Holds Tryd.prog gl 26 [.d (dSet w), .d (dSet v)] (.d (dSet fun k => w k ||| v k)) := by
  refine holds_of_body hm1 e26 (h := h26) ?_
  rw [body26]
  intro hwf
  simp only [demote_d, cells_set, bindO_some', len_cSet, true_and, zero_set, Box.vals]
  refine loopP_count (fun i => [.d (.int .i64 ((i : Nat) : Int))]) (fun i => [cSet (fun k => if k < i then w k ||| v k else w k), cSet v, cSet fun _ => 0]) 4 (fun i hi I hI => ?_) (fun I => ?_)
  · simp only [vget, bget, List.getD_cons_zero, List.getD_cons_succ, demote_d, lss_lit, bindO_some', ifP_dec]
    refine ⟨fun _ => ?_, fun h => absurd h (by simp; omega)⟩
    rw [index_nat hi]
    simp only [bindO_some', Nat.zero_add, Nat.mul_one]
    rw [part_word _ hi, part_word _ hi]
    simp only [bindO_some', demote_d, bin_or, cells_word, List.length_singleton, true_and, len_cSet]
    refine ⟨by omega, ?_⟩
    rw [add_one (by omega), set_word _ hi]
    simp only [bindO_some', demote_d, Nat.lt_irrefl, ↓reduceIte]
    rw [set_or w v i (fun a b => a ||| b)]
    exact hI
  · simp only [vget, bget, List.getD_cons_zero, List.getD_cons_succ, demote_d, lss_lit, bindO_some', ifP_dec]
    refine ⟨fun h => absurd h (by simp), fun _ => ?_⟩
    simp only [part_set, bindO_some', demote_d, cells_set, len_cSet, true_and, set_all, noRef_d, Nat.le_refl]
    rfl
theorem e27 : Enters Tryd.prog 27 := enters_some (fn := Tryd.f27) (by kernel_rfl) (by kernel_rfl) (by kernel_rfl)
theorem unionR_holds (w v : Nat → BitVec 64) : Holds Tryd.prog gl 27 [.d (dSet w), .d (dSet v)] (.d (dSet fun k => w k ||| v k)) := by
  refine holds_of_body hm1 e27 (h := h27) ?_
  rw [body27]
  intro hwf
  simp only [demote_d, cells_set, bindO_some', len_cSet, true_and, zero_set, Box.vals]
  refine loopP_count (fun i => [.d (.int .i64 ((i : Nat) : Int))]) (fun i => [cSet (fun k => if k < i then w k ||| v k else w k), cSet v, cSet fun _ => 0]) 4 (fun i hi I hI => ?_) (fun I => ?_)
  · simp only [vget, bget, List.getD_cons_zero, List.getD_cons_succ, demote_d, lss_lit, bindO_some', ifP_dec]
    refine ⟨fun _ => ?_, fun h => absurd h (by simp; omega)⟩
    rw [index_nat hi]
    simp only [bindO_some', Nat.zero_add, Nat.mul_one]
    rw [part_word _ hi, part_word _ hi]
    simp only [bindO_some', demote_d, bin_or, cells_word, List.length_singleton, true_and, len_cSet]
    refine ⟨by omega, ?_⟩
    rw [add_one (by omega), set_word _ hi]
    simp only [bindO_some', demote_d, Nat.lt_irrefl, ↓reduceIte]
    rw [set_or w v i (fun a b => a ||| b)]
    exact hI
  · simp only [vget, bget, List.getD_cons_zero, List.getD_cons_succ, demote_d, lss_lit, bindO_some', ifP_dec]
    refine ⟨fun h => absurd h (by simp), fun _ => ?_⟩
    simp only [part_set, bindO_some', demote_d, cells_set, len_cSet, true_and, set_all, noRef_d, Nat.le_refl]
    rfl
theorem e28 : Enters Tryd.prog 28 := enters_some (fn := Tryd.f28) (by kernel_rfl) (by kernel_rfl) (by kernel_rfl)
theorem meet_holds (w v : Nat → BitVec 64) : Holds Tryd.prog gl 28 [.d (dSet w), .d (dSet v)] (.d (dSet fun k => w k &&& v k)) := by
  refine holds_of_body hm1 e28 (h := h28) ?_
  rw [body28]
  intro hwf
  simp only [demote_d, cells_set, bindO_some', len_cSet, true_and, zero_set, Box.vals]
  refine loopP_count (fun i => [.d (.int .i64 ((i : Nat) : Int))]) (fun i => [cSet (fun k => if k < i then w k &&& v k else w k), cSet v, cSet fun _ => 0]) 4 (fun i hi I hI => ?_) (fun I => ?_)
  · simp only [vget, bget, List.getD_cons_zero, List.getD_cons_succ, demote_d, lss_lit, bindO_some', ifP_dec]
    refine ⟨fun _ => ?_, fun h => absurd h (by simp; omega)⟩
    rw [index_nat hi]
    simp only [bindO_some', Nat.zero_add, Nat.mul_one]
    rw [part_word _ hi, part_word _ hi]
    simp only [bindO_some', demote_d, bin_and, cells_word, List.length_singleton, true_and, len_cSet]
    refine ⟨by omega, ?_⟩
    rw [add_one (by omega), set_word _ hi]
    simp only [bindO_some', demote_d, Nat.lt_irrefl, ↓reduceIte]
    rw [set_or w v i (fun a b => a &&& b)]
    exact hI
  · simp only [vget, bget, List.getD_cons_zero, List.getD_cons_succ, demote_d, lss_lit, bindO_some', ifP_dec]
    refine ⟨fun h => absurd h (by simp), fun _ => ?_⟩
    simp only [part_set, bindO_some', demote_d, cells_set, len_cSet, true_and, set_all, noRef_d, Nat.le_refl]
    rfl
theorem e29 : Enters Tryd.prog 29 := enters_some (fn := Tryd.f29) (by kernel_rfl) (by kernel_rfl) (by kernel_rfl)
theorem meetR_holds (w v : Nat → BitVec 64) : Holds Tryd.prog gl 29 [.d (dSet w), .d (dSet v)] (.d (dSet fun k => w k &&& v k)) := by
  refine holds_of_body hm1 e29 (h := h29) ?_
  rw [body29]
  intro hwf
  simp only [demote_d, cells_set, bindO_some', len_cSet, true_and, zero_set, Box.vals]
  refine loopP_count (fun i => [.d (.int .i64 ((i : Nat) : Int))]) (fun i => [cSet (fun k => if k < i then w k &&& v k else w k), cSet v, cSet fun _ => 0]) 4 (fun i hi I hI => ?_) (fun I => ?_)
  · simp only [vget, bget, List.getD_cons_zero, List.getD_cons_succ, demote_d, lss_lit, bindO_some', ifP_dec]
    refine ⟨fun _ => ?_, fun h => absurd h (by simp; omega)⟩
    rw [index_nat hi]
    simp only [bindO_some', Nat.zero_add, Nat.mul_one]
    rw [part_word _ hi, part_word _ hi]
    simp only [bindO_some', demote_d, bin_and, cells_word, List.length_singleton, true_and, len_cSet]
    refine ⟨by omega, ?_⟩
    rw [add_one (by omega), set_word _ hi]
    simp only [bindO_some', demote_d, Nat.lt_irrefl, ↓reduceIte]
    rw [set_or w v i (fun a b => a &&& b)]
    exact hI
  · simp only [vget, bget, List.getD_cons_zero, List.getD_cons_succ, demote_d, lss_lit, bindO_some', ifP_dec]
    refine ⟨fun h => absurd h (by simp), fun _ => ?_⟩
    simp only [part_set, bindO_some', demote_d, cells_set, len_cSet, true_and, set_all, noRef_d, Nat.le_refl]
    rfl
theorem e30 : Enters Tryd.prog 30 := enters_some (fn := Tryd.f30) (by kernel_rfl) (by kernel_rfl) (by kernel_rfl)
theorem minus_holds (w v : Nat → BitVec 64) : Holds Tryd.prog gl 30 [.d (dSet w), .d (dSet v)] (.d (dSet fun k => w k &&& ~~~ v k)) := by
  refine holds_of_body hm1 e30 (h := h30) ?_
  rw [body30]
  intro hwf
  simp only [demote_d, cells_set, bindO_some', len_cSet, true_and, zero_set, Box.vals]
  refine loopP_count (fun i => [.d (.int .i64 ((i : Nat) : Int))]) (fun i => [cSet (fun k => if k < i then w k &&& ~~~ v k else w k), cSet v, cSet fun _ => 0]) 4 (fun i hi I hI => ?_) (fun I => ?_)
  · simp only [vget, bget, List.getD_cons_zero, List.getD_cons_succ, demote_d, lss_lit, bindO_some', ifP_dec]
    refine ⟨fun _ => ?_, fun h => absurd h (by simp; omega)⟩
    rw [index_nat hi]
    simp only [bindO_some', Nat.zero_add, Nat.mul_one]
    rw [part_word _ hi, part_word _ hi]
    simp only [bindO_some', demote_d, bin_andNot, cells_word, List.length_singleton, true_and, len_cSet]
    refine ⟨by omega, ?_⟩
    rw [add_one (by omega), set_word _ hi]
    simp only [bindO_some', demote_d, Nat.lt_irrefl, ↓reduceIte]
    rw [set_or w v i (fun a b => a &&& ~~~ b)]
    exact hI
  · simp only [vget, bget, List.getD_cons_zero, List.getD_cons_succ, demote_d, lss_lit, bindO_some', ifP_dec]
    refine ⟨fun h => absurd h (by simp), fun _ => ?_⟩
    simp only [part_set, bindO_some', demote_d, cells_set, len_cSet, true_and, set_all, noRef_d, Nat.le_refl]
    rfl
theorem e31 : Enters Tryd.prog 31 := enters_some (fn := Tryd.f31) (by kernel_rfl) (by kernel_rfl) (by kernel_rfl)
theorem minusR_holds (w v : Nat → BitVec 64) : Holds Tryd.prog gl 31 [.d (dSet w), .d (dSet v)] (.d (dSet fun k => w k &&& ~~~ v k)) := by
  refine holds_of_body hm1 e31 (h := h31) ?_
  rw [body31]
  intro hwf
  simp only [demote_d, cells_set, bindO_some', len_cSet, true_and, zero_set, Box.vals]
  refine loopP_count (fun i => [.d (.int .i64 ((i : Nat) : Int))]) (fun i => [cSet (fun k => if k < i then w k &&& ~~~ v k else w k), cSet v, cSet fun _ => 0]) 4 (fun i hi I hI => ?_) (fun I => ?_)
  · simp only [vget, bget, List.getD_cons_zero, List.getD_cons_succ, demote_d, lss_lit, bindO_some', ifP_dec]
    refine ⟨fun _ => ?_, fun h => absurd h (by simp; omega)⟩
    rw [index_nat hi]
    simp only [bindO_some', Nat.zero_add, Nat.mul_one]
    rw [part_word _ hi, part_word _ hi]
    simp only [bindO_some', demote_d, bin_andNot, cells_word, List.length_singleton, true_and, len_cSet]
    refine ⟨by omega, ?_⟩
    rw [add_one (by omega), set_word _ hi]
    simp only [bindO_some', demote_d, Nat.lt_irrefl, ↓reduceIte]
    rw [set_or w v i (fun a b => a &&& ~~~ b)]
    exact hI
  · simp only [vget, bget, List.getD_cons_zero, List.getD_cons_succ, demote_d, lss_lit, bindO_some', ifP_dec]
    refine ⟨fun h => absurd h (by simp), fun _ => ?_⟩
    simp only [part_set, bindO_some', demote_d, cells_set, len_cSet, true_and, set_all, noRef_d, Nat.le_refl]
    rfl
theorem e24 : Enters Tryd.prog 24 := enters_some (fn := Tryd.f24) (by kernel_rfl) (by kernel_rfl) (by kernel_rfl)
/-- without a number -/
def withoutW (w : Nat → BitVec 64) (n : Int) : Nat → BitVec 64 := if 0 ≤ n ∧ n < 256 then upW w (n.toNat / 64) (w (n.toNat / 64) &&& ~~~(1#64 <<< (n.toNat % 64))) else w
theorem without_holds (w : Nat → BitVec 64) (n : Int) : Holds Tryd.prog gl 24 [.d (dSet w), .d (dI n)] (.d (dSet (withoutW w n))) := by
  refine holds_of_body hm1 e24 (h := h24) ?_
  rw [body24]
  intro hwf
  simp only [demote_d, cells_set, bindO_some', len_cSet, true_and, zero_set, set_all, part_set, noRef_d, Nat.le_refl]
  refine callP_of (inside_holds n) ?_
  simp only [ifP_dec]
  refine ⟨fun h => ?_, fun h => ?_⟩
  · simp only [Bool.and_eq_true, decide_eq_true_eq] at h
    obtain ⟨m, rfl⟩ := Int.eq_ofNat_of_zero_le h.1
    have hm : m < 256 := by omega
    rw [dI, quo64 (by omega), rem64]
    simp only [bindO_some', demote_d]
    rw [index_nat (show m / 64 < 4 by omega)]
    simp only [bindO_some', Nat.zero_add, Nat.mul_one]
    rw [part_word w (show m / 64 < 4 by omega)]
    simp only [bindO_some', demote_d, one_word, bin_shl, bin_andNot, cells_word, List.length_singleton, true_and]
    refine ⟨by omega, ?_⟩
    rw [set_word w (show m / 64 < 4 by omega)]
    simp only [part_set, bindO_some', demote_d, cells_set, len_cSet, true_and, set_all, noRef_d, Nat.le_refl]
    rw [withoutW, if_pos h]
    rfl
  · have : ¬ (0 ≤ n ∧ n < 256) := by simpa using h
    rw [withoutW, if_neg this]
theorem e37 : Enters Tryd.prog 37 := enters_some (fn := Tryd.f37) (by kernel_rfl) (by kernel_rfl) (by kernel_rfl)
theorem bit_holds (m : Nat) : Holds Tryd.prog gl 37 [.d (.int .i64 (m : Int))] (.d (dW (1#64 <<< (m % 64)))) := by
  refine holds_of_body hm1 e37 (h := h37) ?_
  rw [body37]
  intro hwf
  simp only [demote_d, rem64, bindO_some', one_word, bin_shl, noRef_d, true_and]
  rfl
theorem e23 : Enters Tryd.prog 23 := enters_some (fn := Tryd.f23) (by kernel_rfl) (by kernel_rfl) (by kernel_rfl)
theorem withR_holds (w : Nat → BitVec 64) (n : Int) : Holds Tryd.prog gl 23 [.d (dSet w), .d (dI n)] (.d (dSet (withW w n))) := by
  refine holds_of_body hm1 e23 (h := h23) ?_
  rw [body23]
  intro hwf
  simp only [demote_d, cells_set, bindO_some', len_cSet, true_and, zero_set, set_all, part_set, noRef_d, Nat.le_refl, dI, geq_lit, lss_lit, ifP_dec]
  have hno : ¬ (0 ≤ n ∧ n < 256) → SV.d (dSet w) = .d (dSet (withW w n)) := fun h => by rw [withW, if_neg h]
  refine ⟨fun h0 => ⟨fun h1 => ?_, fun h1 => hno (by simp at h1; omega)⟩, fun h0 => hno (by simp at h0; omega)⟩
  have h : 0 ≤ n ∧ n < 256 := ⟨by simpa using h0, by simpa using h1⟩
  obtain ⟨m, rfl⟩ := Int.eq_ofNat_of_zero_le h.1
  have hm : m < 256 := by omega
  rw [quo64 (by omega)]
  simp only [bindO_some', demote_d]
  rw [index_nat (show m / 64 < 4 by omega)]
  simp only [bindO_some', Nat.zero_add, Nat.mul_one]
  rw [part_word w (show m / 64 < 4 by omega)]
  simp only [bindO_some', demote_d]
  refine callP_of (bit_holds m) ?_
  simp only [demote_d, bin_or, bindO_some', cells_word, List.length_singleton, true_and]
  refine ⟨by omega, ?_⟩
  rw [set_word w (show m / 64 < 4 by omega)]
  simp only [part_set, bindO_some', demote_d, cells_set, len_cSet, true_and, set_all, noRef_d, Nat.le_refl]
  rw [withW, if_pos h]
  rfl
theorem e25 : Enters Tryd.prog 25 := enters_some (fn := Tryd.f25) (by kernel_rfl) (by kernel_rfl) (by kernel_rfl)
theorem withoutR_holds (w : Nat → BitVec 64) (n : Int) : Holds Tryd.prog gl 25 [.d (dSet w), .d (dI n)] (.d (dSet (withoutW w n))) := by
  refine holds_of_body hm1 e25 (h := h25) ?_
  rw [body25]
  intro hwf
  simp only [demote_d, cells_set, bindO_some', len_cSet, true_and, zero_set, set_all, part_set, noRef_d, Nat.le_refl, dI, geq_lit, lss_lit, ifP_dec]
  have hno : ¬ (0 ≤ n ∧ n < 256) → SV.d (dSet w) = .d (dSet (withoutW w n)) := fun h => by rw [withoutW, if_neg h]
  refine ⟨fun h0 => ⟨fun h1 => ?_, fun h1 => hno (by simp at h1; omega)⟩, fun h0 => hno (by simp at h0; omega)⟩
  have h : 0 ≤ n ∧ n < 256 := ⟨by simpa using h0, by simpa using h1⟩
  obtain ⟨m, rfl⟩ := Int.eq_ofNat_of_zero_le h.1
  have hm : m < 256 := by omega
  rw [quo64 (by omega)]
  simp only [bindO_some', demote_d]
  rw [index_nat (show m / 64 < 4 by omega)]
  simp only [bindO_some', Nat.zero_add, Nat.mul_one]
  rw [part_word w (show m / 64 < 4 by omega)]
  simp only [bindO_some', demote_d]
  refine callP_of (bit_holds m) ?_
  simp only [demote_d, bin_andNot, bindO_some', cells_word, List.length_singleton, true_and]
  refine ⟨by omega, ?_⟩
  rw [set_word w (show m / 64 < 4 by omega)]
  simp only [part_set, bindO_some', demote_d, cells_set, len_cSet, true_and, set_all, noRef_d, Nat.le_refl]
  rw [withoutW, if_pos h]
  rfl
theorem and_bit (x : BitVec 64) (n : Nat) (h : n < 64) : ((x &&& 1#64 <<< n) != 0) = x.getLsbD n := by
  rw [Bool.eq_iff_iff, bne_iff_ne]
  constructor
  · intro hne
    cases hb : x.getLsbD n with
    | true => rfl
    | false =>
      exfalso
      apply hne
      apply BitVec.eq_of_getLsbD_eq
      intro i hi
      by_cases hin : i = n
      · subst hin; simp [hb]
      · have : (1#64 <<< n).getLsbD i = false := by
          simp only [BitVec.getLsbD_shiftLeft, BitVec.getLsbD_one]
          rcases Nat.lt_or_ge i n with h1 | h1
          · simp [h1]
          · have : i - n ≠ 0 := by omega
            simp [this]
        simp [this]
  · intro hb h0
    have := congrArg (fun z => z.getLsbD n) h0
    rw [BitVec.getLsbD_eq_getElem h] at hb
    simp [h] at this
    rw [hb] at this
    cases this
theorem e21 : Enters Tryd.prog 21 := enters_some (fn := Tryd.f21) (by kernel_rfl) (by kernel_rfl) (by kernel_rfl)
theorem hasR_holds (w : Nat → BitVec 64) (n : Int) : Holds Tryd.prog gl 21 [.d (dSet w), .d (dI n)] (.d (.bool (hasI w n))) := by
  refine holds_of_body hm1 e21 (h := h21) ?_
  rw [body21]
  intro hwf
  simp only [demote_d, cells_set, bindO_some', len_cSet, true_and, noRef_d, dI, geq_lit, lss_lit, ifP_dec]
  have hno : ¬ (0 ≤ n ∧ n < 256) → SV.d (.bool false) = .d (.bool (hasI w n)) := fun h => by
    have : hasI w n = false := by
      unfold hasI
      rcases Int.lt_or_le n 0 with h1 | h1
      · simp [show ¬ 0 ≤ n by omega]
      · simp [show ¬ n < 256 by omega]
    rw [this]
  refine ⟨fun h0 => ⟨fun h1 => ?_, fun h1 => hno (by simp at h1; omega)⟩, fun h0 => hno (by simp at h0; omega)⟩
  have h : 0 ≤ n ∧ n < 256 := ⟨by simpa using h0, by simpa using h1⟩
  obtain ⟨m, rfl⟩ := Int.eq_ofNat_of_zero_le h.1
  have hm : m < 256 := by omega
  rw [quo64 (by omega)]
  simp only [bindO_some', demote_d]
  rw [index_nat (show m / 64 < 4 by omega)]
  simp only [bindO_some', Nat.zero_add, Nat.mul_one]
  rw [part_word w (show m / 64 < 4 by omega)]
  simp only [bindO_some', demote_d]
  refine callP_of (bit_holds m) ?_
  simp only [demote_d, bin_and, bindO_some', zero_word, neq_word, noRef_d, true_and]
  have e : hasI w (m : Int) = ((w (m / 64) &&& 1#64 <<< (m % 64)) != 0) := by
    rw [and_bit _ _ (by omega)]
    simp only [hasI, hasW, Int.toNat_natCast, decide_eq_true h.1, decide_eq_true h.2, Bool.true_and]
  rw [e]
end Go.Proofs.YtofghbnaofcpdaaDoor.Ab
