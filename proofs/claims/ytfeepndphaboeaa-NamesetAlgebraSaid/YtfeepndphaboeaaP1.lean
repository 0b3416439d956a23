/-
  PLAIN LAWS OF SETS OF 256.
-/
import Derived.Test.YtfeepndphaboeaaE10
set_option linter.unusedVariables false
set_option linter.unusedSimpArgs false
namespace Go.Proofs.Ytfeepndphaboeaa.Ab
open Go

theorem has_word (w : Nat → BitVec 64) (i j : Nat) (h : j < 64) : hasW w (64 * i + j) = (w i).getLsbD j := by
  unfold hasW
  rw [show (64 * i + j) / 64 = i by omega, show (64 * i + j) % 64 = j by omega]
theorem eqW_of {w v : Nat → BitVec 64} (h : ∀ k, k < 4 → w k = v k) : eqW w v = true := by
  simp [eqW, h 0 (by decide), h 1 (by decide), h 2 (by decide), h 3 (by decide)]
theorem eqW_to {w v : Nat → BitVec 64} (h : eqW w v = true) : ∀ k, k < 4 → w k = v k := by
  simp only [eqW, Bool.and_true, Bool.and_eq_true, beq_iff_eq] at h
  intro k hk
  match k, hk with
  | 0, _ => exact h.1
  | 1, _ => exact h.2.1
  | 2, _ => exact h.2.2.1
  | 3, _ => exact h.2.2.2
theorem word_of_has {w v : Nat → BitVec 64} {k : Nat} (hk : k < 4) (h : ∀ m, m < 256 → hasW w m = hasW v m) : w k = v k := by
  apply BitVec.eq_of_getLsbD_eq
  intro i hi
  have := h (64 * k + i) (by omega)
  rwa [has_word w k i hi, has_word v k i hi] at this
theorem eqW_has {w v : Nat → BitVec 64} : eqW w v = true ↔ ∀ m, m < 256 → hasW w m = hasW v m := by
  constructor
  · intro h m hm
    unfold hasW
    rw [eqW_to h (m / 64) (by omega)]
  · intro h
    exact eqW_of fun k hk => word_of_has hk h
theorem has_with (w : Nat → BitVec 64) (n : Int) (m : Nat) (hm : m < 256) : hasW (withW w n) m = (hasW w m || decide ((m : Int) = n)) := by
  unfold withW
  by_cases h : 0 ≤ n ∧ n < 256
  · rw [if_pos h]
    obtain ⟨j, rfl⟩ := Int.eq_ofNat_of_zero_le h.1
    have hj : j < 256 := by omega
    simp only [Int.toNat_natCast]
    unfold hasW upW
    by_cases hq : m / 64 = j / 64
    · rw [if_pos hq, BitVec.getLsbD_or, hq]
      congr 1
      rw [BitVec.getLsbD_shiftLeft, BitVec.getLsbD_one]
      by_cases he : m = j
      · subst he
        have : m % 64 < 64 := Nat.mod_lt _ (by decide)
        simp [this]
      · have h1 : m % 64 ≠ j % 64 := by omega
        have h2 : ¬ ((m : Int) = (j : Int)) := by omega
        rcases Nat.lt_or_ge (m % 64) (j % 64) with h3 | h3
        · simp [h2, h3]
        · have : ¬ (m % 64 - j % 64 = 0) := by omega
          simp [h2, this]
    · rw [if_neg hq]
      have h2 : ¬ ((m : Int) = (j : Int)) := by omega
      simp [h2]
  · rw [if_neg h]
    have h2 : ¬ ((m : Int) = n) := by omega
    simp [h2]
theorem has_of : ∀ (l : List Int) (w : Nat → BitVec 64) (m : Nat), m < 256 → hasW (ofW l w) m = (hasW w m || l.contains (m : Int))
  | [], w, m, _ => by simp [ofW]
  | n :: l, w, m, hm => by
    simp only [ofW]
    rw [has_of l _ m hm, has_with w n m hm, List.contains_cons, Bool.or_assoc]
    congr 1
theorem has_zero (m : Nat) : hasW (fun _ => 0) m = false := by
  unfold hasW
  exact BitVec.getLsbD_zero
end Go.Proofs.Ytfeepndphaboeaa.Ab
