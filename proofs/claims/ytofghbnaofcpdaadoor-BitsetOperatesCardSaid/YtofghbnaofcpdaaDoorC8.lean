/-
  COUNT AND LEAST.
-/
import Derived.Test.YtofghbnaofcpdaaDoorC7
set_option linter.unusedVariables false
set_option linter.unusedSimpArgs false
namespace Go.Proofs.YtofghbnaofcpdaaDoor.Ab
open Go

/-- how many numbers the first words hold -/
def cntW (w : Nat → BitVec 64) : Nat → Nat
  | 0 => 0
  | i + 1 => cntW w i + popc 64 (w i).toNat
theorem cntW_le (w : Nat → BitVec 64) : ∀ i, cntW w i ≤ 64 * i
  | 0 => Nat.le_refl _
  | i + 1 => by
    have := cntW_le w i
    have := popc_le 64 (w i).toNat
    simp only [cntW]
    omega
theorem list_part (w : Nat → BitVec 64) (j : Nat) : ∀ k, k ≤ 64 → (listW w (64 * j + k)).length = (listW w (64 * j)).length + popc k (w j).toNat
  | 0, _ => by simp [popc]
  | k + 1, hk => by
    have ih := list_part w j k (by omega)
    have h1 : (64 * j + k) / 64 = j := by omega
    have h2 : (64 * j + k) % 64 = k := by omega
    have hb : hasW w (64 * j + k) = (w j).toNat.testBit k := by
      unfold hasW
      rw [h1, h2]
      rfl
    rw [show 64 * j + (k + 1) = (64 * j + k) + 1 by omega, listW, List.length_append, ih, popc_top, hb]
    cases (w j).toNat.testBit k <;> simp <;> omega
theorem list_cnt (w : Nat → BitVec 64) : ∀ j, (listW w (64 * j)).length = cntW w j
  | 0 => rfl
  | j + 1 => by
    have h := list_part w j 64 (Nat.le_refl _)
    rw [show 64 * (j + 1) = 64 * j + 64 by omega, h, list_cnt w j]
    rfl
theorem index_word (w : Nat → BitVec 64) {i : Nat} (h : i < 4) : indexV false 1 4 (.d (dSet w)) (.d (.int .i64 (i : Int))) = some (.d (dW (w i))) := by
  unfold indexV dSet
  rw [index_nat h]
  match i, h with
  | 0, _ => rfl
  | 1, _ => rfl
  | 2, _ => rfl
  | 3, _ => rfl
theorem add_nat {m n : Nat} (h : m + n < 2 ^ 62) : binV none .add (.d (.int .i64 (m : Int))) (.d (.int .i64 (n : Int))) = some (.d (.int .i64 ((m + n : Nat) : Int))) := by
  have h2 : IntKind.i64.wrap ((m : Int) + (n : Int)) = ((m + n : Nat) : Int) := by rw [wrap_i64 (by omega) (by omega)]; omega
  simp only [binV, binD, intBop, h2, ↓reduceIte]
theorem mul_64 {m : Nat} (h : m < 2 ^ 40) : binV none .mul (.d (.int .i64 (m : Int))) (.d (.int .i64 64)) = some (.d (.int .i64 ((m * 64 : Nat) : Int))) := by
  have h2 : IntKind.i64.wrap ((m : Int) * 64) = ((m * 64 : Nat) : Int) := by rw [wrap_i64 (by omega) (by omega)]; omega
  simp only [binV, binD, intBop, h2, ↓reduceIte]

theorem e9 : Enters Tryd.prog 9 := enters_some (fn := Tryd.f9) (by kernel_rfl) (by kernel_rfl) (by kernel_rfl)
theorem count_holds (w : Nat → BitVec 64) : Holds Tryd.prog gl 9 [.d (dSet w)] (.d (dI (cntW w 4 : Nat))) := by
  refine holds_of_body hm1 e9 (h := h9) ?_
  rw [body9]
  intro hwf
  simp only [demote_d, cells_set, bindO_some', len_cSet, true_and, part_set, Box.vals]
  refine loopP_count (fun i => [.d (.int .i64 ((cntW w i : Nat) : Int)), .d (dSet w), .d (.int .i64 ((i : Nat) : Int))]) (fun i => [cSet w]) 4 (fun i hi I hI => ?_) (fun I => ?_)
  · simp only [vget, bget, List.getD_cons_zero, List.getD_cons_succ, demote_d, lss_lit, bindO_some', ifP_dec]
    refine ⟨fun _ => ?_, fun h => absurd h (by simp; omega)⟩
    rw [index_word w hi]
    simp only [bindO_some', demote_d]
    refine callP_of (ones_holds _) ?_
    have h1 := cntW_le w i
    have h2 := popc_le 64 (w i).toNat
    simp only [demote_d, dI]
    rw [add_nat (by omega), add_one (by omega)]
    exact hI
  · simp only [vget, bget, List.getD_cons_zero, List.getD_cons_succ, demote_d, lss_lit, bindO_some', ifP_dec]
    refine ⟨fun h => absurd h (by simp), fun _ => ⟨rfl, rfl⟩⟩
theorem e10 : Enters Tryd.prog 10 := enters_some (fn := Tryd.f10) (by kernel_rfl) (by kernel_rfl) (by kernel_rfl)
theorem callP_to {C : Con} {f : FuncId} {args : List SV} {r : SV} {k : SV → Prop} (h : C f args r) (hr : isTup r = false) (hk : k r) : callP C f args k := ⟨r, h, hr, hk⟩
theorem isTup_nown (l : List Int) : isTup (nown l) = false := by cases l <;> rfl
theorem len_nown (l : List Int) : lenL (demote (nown l)) = some (.d (.int .i64 (l.length : Int))) := by
  cases l with
  | nil => rfl
  | cons a l => simp [nown, demote, lenL, elemsAny]
theorem countR_holds (w : Nat → BitVec 64) : Holds Tryd.prog gl 10 [.d (dSet w)] (.d (dI (cntW w 4 : Nat))) := by
  refine holds_of_body hm1 e10 (h := h10) ?_
  rw [body10]
  intro hwf
  simp only [demote_d, cells_set, bindO_some', len_cSet, true_and, part_set]
  refine callP_to (listR_holds w) (isTup_nown _) ?_
  rw [len_nown, bindO_some', demote_d, list_cnt w 4]
  exact ⟨rfl, rfl⟩

/-- the first element from n on, of k numbers -/
def leastF (w : Nat → BitVec 64) : Nat → Nat → Int
  | 0, _ => -1
  | k + 1, n => if hasW w n then (n : Int) else leastF w k (n + 1)
theorem least_skip (w : Nat → BitVec 64) : ∀ m k n, (∀ j, j < m → hasW w (n + j) = false) → leastF w (k + m) n = leastF w k (n + m)
  | 0, k, n, _ => rfl
  | m + 1, k, n, h => by
    have h0 := h 0 (by omega)
    rw [Nat.add_zero] at h0
    rw [show k + (m + 1) = (k + m) + 1 by omega, leastF, h0]
    simp only [Bool.false_eq_true, ↓reduceIte]
    rw [least_skip w m k (n + 1) (fun j hj => by have := h (j + 1) (by omega); rwa [show n + (j + 1) = n + 1 + j by omega] at this)]
    congr 1
    omega
theorem least_hit (w : Nat → BitVec 64) (k n m : Nat) (hm : m < k) (h : ∀ j, j < m → hasW w (n + j) = false) (hh : hasW w (n + m) = true) : leastF w k n = ((n + m : Nat) : Int) := by
  have := least_skip w m (k - m) n h
  rw [show k - m + m = k by omega] at this
  rw [this, show k - m = (k - m - 1) + 1 by omega, leastF, if_pos hh]
theorem has_word (w : Nat → BitVec 64) (i j : Nat) (h : j < 64) : hasW w (64 * i + j) = (w i).getLsbD j := by
  unfold hasW
  rw [show (64 * i + j) / 64 = i by omega, show (64 * i + j) % 64 = j by omega]
theorem e12 : Enters Tryd.prog 12 := enters_some (fn := Tryd.f12) (by kernel_rfl) (by kernel_rfl) (by kernel_rfl)
theorem leastR_holds (w : Nat → BitVec 64) : Holds Tryd.prog gl 12 [.d (dSet w)] (.d (dI (leastF w 256 0))) := by
  refine holds_of_body hm1 e12 (h := h12) ?_
  rw [body12]
  intro hwf
  simp only [demote_d, cells_set, bindO_some', len_cSet, true_and, Box.vals]
  refine loopP_inv (fun i => leastF w 256 0 = leastF w (256 - i) i) (fun i => [.d (.int .i64 ((i : Nat) : Int))]) (fun i => [cSet w]) 256 rfl (fun i hi hJ I hI => ?_) (fun hJ I => ?_)
  · simp only [vget, bget, List.getD_cons_zero, List.getD_cons_succ, demote_d, lss_lit, bindO_some', ifP_dec]
    refine ⟨fun _ => ?_, fun h => absurd h (by simp; omega)⟩
    simp only [part_set, bindO_some', demote_d]
    refine callP_of (hasR_holds w i) ?_
    rw [hasI_nat w hi, add_one (by omega)]
    simp only [ifP_dec, bindO_some', demote_d]
    have hs : leastF w ((256 - (i + 1)) + 1) i = if hasW w i then (i : Int) else leastF w (256 - (i + 1)) (i + 1) := rfl
    rw [show 256 - i = (256 - (i + 1)) + 1 by omega, hs] at hJ
    refine ⟨fun h => ⟨rfl, ?_⟩, fun h => ?_⟩
    · rw [hJ, if_pos h]
      rfl
    · rw [h] at hJ
      exact hI (by simpa using hJ)
  · simp only [vget, bget, List.getD_cons_zero, List.getD_cons_succ, demote_d, lss_lit, bindO_some', ifP_dec]
    refine ⟨fun h => absurd h (by simp), fun _ => ⟨rfl, ?_⟩⟩
    rw [hJ]
    rfl
theorem e11 : Enters Tryd.prog 11 := enters_some (fn := Tryd.f11) (by kernel_rfl) (by kernel_rfl) (by kernel_rfl)
theorem least_holds (w : Nat → BitVec 64) : Holds Tryd.prog gl 11 [.d (dSet w)] (.d (dI (leastF w 256 0))) := by
  refine holds_of_body hm1 e11 (h := h11) ?_
  rw [body11]
  intro hwf
  simp only [demote_d, cells_set, bindO_some', len_cSet, true_and, part_set, Box.vals]
  refine loopP_inv (fun i => leastF w 256 0 = leastF w (64 * (4 - i)) (64 * i)) (fun i => [.d (dSet w), .d (.int .i64 ((i : Nat) : Int))]) (fun i => [cSet w]) 4 rfl (fun i hi hJ I hI => ?_) (fun hJ I => ?_)
  · simp only [vget, bget, List.getD_cons_zero, List.getD_cons_succ, demote_d, lss_lit, bindO_some', ifP_dec]
    refine ⟨fun _ => ?_, fun h => absurd h (by simp; omega)⟩
    rw [index_word w hi]
    simp only [bindO_some', demote_d]
    rw [zero_word, neq_word, bindO_some']
    by_cases hz : w i = 0
    · have e : (w i != 0) = false := by rw [hz]; rfl
      rw [e, ifP_false, add_one (by omega), bindO_some', demote_d]
      refine hI ?_
      rw [hJ]
      have := least_skip w 64 (64 * (4 - (i + 1))) (64 * i) (fun j hj => by rw [has_word w i j hj, hz]; exact BitVec.getLsbD_zero)
      rw [show 64 * (4 - (i + 1)) + 64 = 64 * (4 - i) by omega] at this
      rw [this]
      congr 1
    · have e : (w i != 0) = true := by rw [bne_iff_ne]; exact hz
      obtain ⟨n, hn⟩ := lowest_ex (w i) hz
      rw [e, ifP_true, mul_64 (by omega), bindO_some']
      refine callP_of (tz_holds (w i) n hn) ?_
      have hnl := hn.1
      rw [demote_d, demote_d, dI, add_nat (by omega), bindO_some', demote_d]
      refine ⟨rfl, ?_⟩
      rw [hJ, least_hit w _ (64 * i) n (by omega) (fun j hj => by rw [has_word w i j (by omega)]; exact hn.2.2 j hj) (by rw [has_word w i n hnl]; exact hn.2.1), Nat.mul_comm]
      rfl
  · simp only [vget, bget, List.getD_cons_zero, List.getD_cons_succ, demote_d, lss_lit, bindO_some', ifP_dec]
    refine ⟨fun h => absurd h (by simp), fun _ => ⟨rfl, ?_⟩⟩
    rw [hJ]
    rfl
end Go.Proofs.YtofghbnaofcpdaaDoor.Ab
