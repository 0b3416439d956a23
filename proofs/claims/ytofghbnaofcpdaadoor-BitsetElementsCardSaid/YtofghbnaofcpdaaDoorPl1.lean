/-
  PLAIN LAWS OF SETS OF 256.
-/
import Derived.Test.YtofghbnaofcpdaaDoorC9
set_option linter.unusedVariables false
set_option linter.unusedSimpArgs false
namespace Go.Proofs.YtofghbnaofcpdaaDoor.Ab
open Go

theorem eqW_refl (w : Nat → BitVec 64) : eqW w w = true := by simp [eqW]
theorem eqW_of {w v : Nat → BitVec 64} (h : ∀ k, k < 4 → w k = v k) : eqW w v = true := by
  simp [eqW, h 0 (by decide), h 1 (by decide), h 2 (by decide), h 3 (by decide)]
theorem eqW_to {w v : Nat → BitVec 64} (h : eqW w v = true) : ∀ k, k < 4 → w k = v k := by
  simp only [eqW, Bool.and_true, Bool.and_eq_true, beq_iff_eq] at h
  intro k hk
  match k, hk with
  | 0, _ => exact h.1
  | 1, _ => exact h.2.1
  | 2, _ => exact h.2.2.1
  | 3, _ => exact h.2.2.2
theorem word_of_has {w v : Nat → BitVec 64} {k : Nat} (hk : k < 4) (h : ∀ m, m < 256 → hasW w m = hasW v m) : w k = v k := by
  apply BitVec.eq_of_getLsbD_eq
  intro i hi
  have := h (64 * k + i) (by omega)
  rwa [has_word w k i hi, has_word v k i hi] at this
theorem eqW_has {w v : Nat → BitVec 64} : eqW w v = true ↔ ∀ m, m < 256 → hasW w m = hasW v m := by
  constructor
  · intro h m hm
    unfold hasW
    rw [eqW_to h (m / 64) (by omega)]
  · intro h
    exact eqW_of fun k hk => word_of_has hk h
theorem has_with (w : Nat → BitVec 64) (n : Int) (m : Nat) (hm : m < 256) : hasW (withW w n) m = (hasW w m || decide ((m : Int) = n)) := by
  unfold withW
  by_cases h : 0 ≤ n ∧ n < 256
  · rw [if_pos h]
    obtain ⟨j, rfl⟩ := Int.eq_ofNat_of_zero_le h.1
    have hj : j < 256 := by omega
    simp only [Int.toNat_natCast]
    unfold hasW upW
    by_cases hq : m / 64 = j / 64
    · rw [if_pos hq, BitVec.getLsbD_or, hq]
      congr 1
      rw [BitVec.getLsbD_shiftLeft, BitVec.getLsbD_one]
      by_cases he : m = j
      · subst he
        have : m % 64 < 64 := Nat.mod_lt _ (by decide)
        simp [this]
      · have h1 : m % 64 ≠ j % 64 := by omega
        have h2 : ¬ ((m : Int) = (j : Int)) := by omega
        rcases Nat.lt_or_ge (m % 64) (j % 64) with h3 | h3
        · simp [h2, h3]
        · have : ¬ (m % 64 - j % 64 = 0) := by omega
          simp [h2, this]
    · rw [if_neg hq]
      have h2 : ¬ ((m : Int) = (j : Int)) := by omega
      simp [h2]
  · rw [if_neg h]
    have h2 : ¬ ((m : Int) = n) := by omega
    simp [h2]
theorem has_of : ∀ (l : List Int) (w : Nat → BitVec 64) (m : Nat), m < 256 → hasW (ofW l w) m = (hasW w m || l.contains (m : Int))
  | [], w, m, _ => by simp [ofW]
  | n :: l, w, m, hm => by
    simp only [ofW]
    rw [has_of l _ m hm, has_with w n m hm, List.contains_cons, Bool.or_assoc]
    congr 1
theorem mem_list (w : Nat → BitVec 64) (m : Nat) : ∀ i, (listW w i).contains (m : Int) = (decide (m < i) && hasW w m)
  | 0 => by simp [listW]
  | i + 1 => by
    rw [listW]
    have ih := mem_list w m i
    rw [List.contains_eq_mem] at ih ⊢
    have e : decide ((m : Int) ∈ listW w i ++ if hasW w i = true then [(i : Int)] else []) = (decide ((m : Int) ∈ listW w i) || decide ((m : Int) ∈ if hasW w i = true then [(i : Int)] else [])) := by
      rw [← Bool.decide_or]
      congr 1
      exact propext List.mem_append
    rw [e, ih]
    by_cases hi : m = i
    · subst hi
      cases hasW w m <;> simp
    · have h1 : decide (m < i + 1) = decide (m < i) := by congr 1; exact propext (by omega)
      rw [h1]
      have h2 : ¬ ((m : Int) = (i : Int)) := by omega
      cases hasW w i <;> simp [h2]
theorem has_zero (m : Nat) : hasW (fun _ => 0) m = false := by
  unfold hasW
  exact BitVec.getLsbD_zero
theorem of_list (w : Nat → BitVec 64) : eqW (ofW (listW w 256) fun _ => 0) w = true := by
  rw [eqW_has]
  intro m hm
  rw [has_of _ _ m hm, has_zero, mem_list w m 256]
  simp [hm]
theorem within_eq (a b : Nat → BitVec 64) : eqW (fun k => a k &&& b k) a = eqW (fun k => a k &&& ~~~ b k) fun _ => 0 := by
  rw [Bool.eq_iff_iff]
  constructor
  · intro h
    refine eqW_of fun k hk => ?_
    have := eqW_to h k hk
    apply BitVec.eq_of_getLsbD_eq
    intro i hi
    have h1 := congrArg (fun z => z.getLsbD i) this
    simp only [BitVec.getLsbD_and] at h1
    simp only [BitVec.getLsbD_and, BitVec.getLsbD_not, hi, decide_true, Bool.true_and]
    rw [show ((0 : BitVec 64)).getLsbD i = false from BitVec.getLsbD_zero]
    cases h2 : (a k).getLsbD i <;> cases h3 : (b k).getLsbD i <;> simp_all
  · intro h
    refine eqW_of fun k hk => ?_
    have := eqW_to h k hk
    apply BitVec.eq_of_getLsbD_eq
    intro i hi
    have h1 := congrArg (fun z => z.getLsbD i) this
    simp only [BitVec.getLsbD_and, BitVec.getLsbD_not, hi, decide_true, Bool.true_and] at h1
    rw [show ((0 : BitVec 64)).getLsbD i = false from BitVec.getLsbD_zero] at h1
    simp only [BitVec.getLsbD_and]
    cases h2 : (a k).getLsbD i <;> cases h3 : (b k).getLsbD i <;> simp_all
theorem popc_or_and : ∀ (k x y : Nat), popc k (x ||| y) + popc k (x &&& y) = popc k x + popc k y
  | 0, _, _ => rfl
  | k + 1, x, y => by
    have ih := popc_or_and k x y
    rw [popc_top, popc_top, popc_top, popc_top, Nat.testBit_or, Nat.testBit_and]
    cases x.testBit k <;> cases y.testBit k <;> simp <;> omega
theorem cnt_or_and (a b : Nat → BitVec 64) : ∀ i, cntW (fun k => a k ||| b k) i + cntW (fun k => a k &&& b k) i = cntW a i + cntW b i
  | 0 => rfl
  | i + 1 => by
    have ih := cnt_or_and a b i
    have h := popc_or_and 64 (a i).toNat (b i).toNat
    simp only [cntW, BitVec.toNat_or, BitVec.toNat_and]
    omega
/-- equal as far as the loop has looked -/
def smW (a b : Nat → BitVec 64) : Nat → Bool
  | 0 => true
  | i + 1 => smW a b i && (hasI a ((i : Int) - 1) == hasI b ((i : Int) - 1))
theorem smW_true (a b : Nat → BitVec 64) : ∀ i, smW a b i = true ↔ ∀ j, j < i → hasI a ((j : Int) - 1) = hasI b ((j : Int) - 1)
  | 0 => by simp [smW]
  | i + 1 => by
    simp only [smW, Bool.and_eq_true, beq_iff_eq, smW_true a b i]
    constructor
    · rintro ⟨h1, h2⟩ j hj
      rcases Nat.lt_or_ge j i with h | h
      · exact h1 j h
      · have : j = i := by omega
        subst this
        exact h2
    · intro h
      exact ⟨fun j hj => h j (by omega), h i (by omega)⟩
theorem smW_end (a b : Nat → BitVec 64) : smW a b 258 = eqW a b := by
  rw [Bool.eq_iff_iff, smW_true, eqW_has]
  constructor
  · intro h m hm
    have := h (m + 1) (by omega)
    rw [show ((m + 1 : Nat) : Int) - 1 = (m : Int) by omega, hasI_nat a hm, hasI_nat b hm] at this
    exact this
  · intro h j hj
    rcases Nat.eq_zero_or_pos j with h0 | h0
    · subst h0; rfl
    · obtain ⟨m, rfl⟩ : ∃ m, j = m + 1 := ⟨j - 1, by omega⟩
      rw [show ((m + 1 : Nat) : Int) - 1 = (m : Int) by omega]
      rcases Nat.lt_or_ge m 256 with hm | hm
      · rw [hasI_nat a hm, hasI_nat b hm]; exact h m hm
      · have : ¬ (m : Int) < 256 := by omega
        simp [hasI, this]
end Go.Proofs.YtofghbnaofcpdaaDoor.Ab
