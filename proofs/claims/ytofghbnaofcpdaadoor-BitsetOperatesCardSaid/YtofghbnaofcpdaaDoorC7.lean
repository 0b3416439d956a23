/-
  COUNTING, THE LOWEST BIT.
-/
import Derived.Test.YtofghbnaofcpdaaDoorC6
import Derived.Test.YtofghbnaofcpdaaDoorPop
set_option linter.unusedVariables false
set_option linter.unusedSimpArgs false
namespace Go.Proofs.YtofghbnaofcpdaaDoor.Ab
open Go

/-- a loop that counts, with what is known at its head -/
theorem loopP_inv {F : List SV → List (List SV) → (List SV → List (List SV) → Prop) → Prop} (J : Nat → Prop) (st : Nat → List SV) (sb : Nat → List (List SV)) (n : Nat) (h0 : J 0)
    (hstep : ∀ i, i < n → J i → ∀ I : List SV → List (List SV) → Prop, (J (i + 1) → I (st (i + 1)) (sb (i + 1))) → F (st i) (sb i) I) (hend : J n → ∀ I, F (st n) (sb n) I) : loopP F (st 0) (sb 0) := by
  intro I hI
  have key : ∀ k, k ≤ n → J (n - k) → I (st (n - k)) (sb (n - k)) := by
    intro k
    induction k with
    | zero => intro _ hj; exact hI _ _ (hend hj I)
    | succ k ih =>
      intro hk hj
      have := hstep (n - (k + 1)) (by omega) hj I (fun hj' => by rw [show n - (k + 1) + 1 = n - k by omega] at hj' ⊢; exact ih (by omega) hj')
      exact hI _ _ this
  have := key n (Nat.le_refl _)
  simp only [Nat.sub_self] at this
  exact this h0

theorem bin_add (x y : BitVec 64) : binV none .add (.d (dW x)) (.d (dW y)) = some (.d (dW (x + y))) := by
  simp only [binV, binD, dW, intBop, wrap64, ↓reduceIte]
  have h : ((x.toNat : Int) + (y.toNat : Int)) % 2 ^ 64 = ((x + y).toNat : Int) := by
    rw [BitVec.toNat_add]
    omega
  exact congrArg (fun z => some (SV.d (.int .u64 z))) h
theorem bin_mul (x y : BitVec 64) : binV none .mul (.d (dW x)) (.d (dW y)) = some (.d (dW (x * y))) := by
  simp only [binV, binD, dW, intBop, wrap64, ↓reduceIte]
  have h : ((x.toNat : Int) * (y.toNat : Int)) % 2 ^ 64 = ((x * y).toNat : Int) := by
    rw [BitVec.toNat_mul, ← Int.natCast_mul]
    omega
  exact congrArg (fun z => some (SV.d (.int .u64 z))) h
theorem un_neg (x : BitVec 64) : unV .neg (.d (dW x)) = some (.d (dW (-x))) := by
  simp only [unV, dW, wrap64]
  have h : ((0 : Int) - (x.toNat : Int)) % 2 ^ 64 = ((-x).toNat : Int) := by
    rw [BitVec.toNat_neg]
    have := x.isLt
    omega
  exact congrArg (fun z => some (SV.d (.int .u64 z))) h
theorem shr_1 (x : BitVec 64) : binV none .shr (.d (dW x)) (.d (.int .u64 1)) = some (.d (dW (x >>> 1))) := bin_shr x .u64 1
theorem shr_2 (x : BitVec 64) : binV none .shr (.d (dW x)) (.d (.int .u64 2)) = some (.d (dW (x >>> 2))) := bin_shr x .u64 2
theorem shr_4 (x : BitVec 64) : binV none .shr (.d (dW x)) (.d (.int .u64 4)) = some (.d (dW (x >>> 4))) := bin_shr x .u64 4
theorem shr_8 (x : BitVec 64) : binV none .shr (.d (dW x)) (.d (.int .u64 8)) = some (.d (dW (x >>> 8))) := bin_shr x .u64 8
theorem shr_16 (x : BitVec 64) : binV none .shr (.d (dW x)) (.d (.int .u64 16)) = some (.d (dW (x >>> 16))) := bin_shr x .u64 16
theorem shr_32 (x : BitVec 64) : binV none .shr (.d (dW x)) (.d (.int .u64 32)) = some (.d (dW (x >>> 32))) := bin_shr x .u64 32
theorem shr_58 (x : BitVec 64) : binV none .shr (.d (dW x)) (.d (.int .u64 58)) = some (.d (dW (x >>> 58))) := bin_shr x .u64 58
theorem lit_m1 : D.int .u64 6148914691236517205 = dW 6148914691236517205#64 := congrArg (D.int .u64) (by decide : (6148914691236517205 : Int) = ((6148914691236517205#64).toNat : Int))
theorem lit_m2 : D.int .u64 3689348814741910323 = dW 3689348814741910323#64 := congrArg (D.int .u64) (by decide : (3689348814741910323 : Int) = ((3689348814741910323#64).toNat : Int))
theorem lit_m4 : D.int .u64 1085102592571150095 = dW 1085102592571150095#64 := congrArg (D.int .u64) (by decide : (1085102592571150095 : Int) = ((1085102592571150095#64).toNat : Int))
theorem lit_db : D.int .u64 285870213051353865 = dW 285870213051353865#64 := congrArg (D.int .u64) (by decide : (285870213051353865 : Int) = ((285870213051353865#64).toNat : Int))
theorem conv_w (x : BitVec 64) (h : x.toNat < 2 ^ 63) : convI .i64 (.d (dW x)) = some (.d (.int .i64 (x.toNat : Int))) := by
  simp only [convI, dW]
  rw [wrap_i64 (by omega) (by omega)]
theorem and_127 (n : Nat) (h : n < 2 ^ 63) : binV none .and (.d (.int .i64 (n : Int))) (.d (.int .i64 127)) = some (.d (.int .i64 ((n % 128 : Nat) : Int))) := by
  have e : (BitVec.ofInt IntKind.i64.bits (n : Int) &&& BitVec.ofInt IntKind.i64.bits 127).toNat = n % 128 := by
    show (BitVec.ofInt 64 (n : Int) &&& BitVec.ofInt 64 127).toNat = n % 128
    rw [BitVec.toNat_and]
    have h1 : (BitVec.ofInt 64 (n : Int)).toNat = n := by
      rw [BitVec.toNat_ofInt]
      omega
    have h2 : (BitVec.ofInt 64 127).toNat = 2 ^ 7 - 1 := by decide
    rw [h1, h2, Nat.and_two_pow_sub_one_eq_mod]
  simp only [binV, binD, intBop, ↓reduceIte, e]
  rw [wrap_i64 (by omega) (by omega)]

theorem step_12 (x m : BitVec 64) (p k : Nat) (hp : p = 2 ^ k) (h : ((x.toNat / p) &&& m.toNat) + (x.toNat &&& m.toNat) < 2 ^ 64) : ((x >>> k &&& m) + (x &&& m)).toNat = ((x.toNat / p) &&& m.toNat) + (x.toNat &&& m.toNat) := by
  subst hp
  rw [BitVec.toNat_add, BitVec.toNat_and, BitVec.toNat_and, BitVec.toNat_ushiftRight, Nat.shiftRight_eq_div_pow]
  exact Nat.mod_eq_of_lt h
theorem step_3 (z m : BitVec 64) (h : z.toNat / 16 + z.toNat < 2 ^ 64) : ((z >>> 4 + z) &&& m).toNat = (z.toNat / 16 + z.toNat) &&& m.toNat := by
  rw [BitVec.toNat_and, BitVec.toNat_add, BitVec.toNat_ushiftRight, Nat.shiftRight_eq_div_pow]
  rw [show (2 : Nat) ^ 4 = 16 by decide, Nat.mod_eq_of_lt h]
theorem step_4 (t : BitVec 64) (k p : Nat) (hp : p = 2 ^ k) (h : t.toNat + t.toNat / p < 2 ^ 64) : (t + t >>> k).toNat = t.toNat + t.toNat / p := by
  subst hp
  rw [BitVec.toNat_add, BitVec.toNat_ushiftRight, Nat.shiftRight_eq_div_pow]
  exact Nat.mod_eq_of_lt h
theorem e34 : Enters Tryd.prog 34 := enters_some (fn := Tryd.f34) (by kernel_rfl) (by kernel_rfl) (by kernel_rfl)
theorem ones_holds (x : BitVec 64) : Holds Tryd.prog gl 34 [.d (dW x)] (.d (dI (popc 64 x.toNat : Nat))) := by
  refine holds_of_body hm1 e34 (h := h34) ?_
  rw [body34]
  intro hwf
  have hs := count_steps x.isLt
  simp only at hs
  obtain ⟨s1, s2, s3, s4, s5, s6, s7, s8⟩ := hs
  simp only [lit_m1, lit_m2, lit_m4]
  rw [demote_d, demote_d, shr_1, bindO_some', demote_d, bin_and, bindO_some', bin_and, bindO_some', demote_d, demote_d, bin_add, bindO_some', demote_d, demote_d, demote_d]
  have a1 : ((x >>> 1 &&& 6148914691236517205#64) + (x &&& 6148914691236517205#64)).toNat = ((x.toNat / 2) &&& 6148914691236517205) + (x.toNat &&& 6148914691236517205) := step_12 x 6148914691236517205#64 2 1 rfl s1
  rw [← a1] at s2 s3 s4 s5 s6 s7 s8
  generalize (x >>> 1 &&& 6148914691236517205#64) + (x &&& 6148914691236517205#64) = y at *
  rw [shr_2, bindO_some', demote_d, bin_and, bindO_some', bin_and, bindO_some', demote_d, demote_d, bin_add, bindO_some', demote_d, demote_d, demote_d]
  have a2 : ((y >>> 2 &&& 3689348814741910323#64) + (y &&& 3689348814741910323#64)).toNat = ((y.toNat / 4) &&& 3689348814741910323) + (y.toNat &&& 3689348814741910323) := step_12 y 3689348814741910323#64 4 2 rfl s2
  rw [← a2] at s3 s4 s5 s6 s7 s8
  generalize (y >>> 2 &&& 3689348814741910323#64) + (y &&& 3689348814741910323#64) = z at *
  rw [shr_4, bindO_some', demote_d, bin_add, bindO_some', demote_d, bin_and, bindO_some', demote_d, demote_d, demote_d]
  have a4 : ((z >>> 4 + z) &&& 1085102592571150095#64).toNat = (z.toNat / 16 + z.toNat) &&& 1085102592571150095 := step_3 z 1085102592571150095#64 s3
  rw [← a4] at s4 s5 s6 s7 s8
  generalize ((z >>> 4 + z) &&& 1085102592571150095#64) = t at *
  rw [shr_8, bindO_some', demote_d, bin_add, bindO_some', demote_d, demote_d, demote_d]
  have a5 : (t + t >>> 8).toNat = t.toNat + t.toNat / 256 := step_4 t 8 256 rfl s5
  rw [← a5] at s5 s6 s7 s8
  generalize t + t >>> 8 = u at *
  rw [shr_16, bindO_some', demote_d, bin_add, bindO_some', demote_d, demote_d, demote_d]
  have a6 : (u + u >>> 16).toNat = u.toNat + u.toNat / 65536 := step_4 u 16 65536 rfl s6
  rw [← a6] at s6 s7 s8
  generalize u + u >>> 16 = v at *
  rw [shr_32, bindO_some', demote_d, bin_add, bindO_some', demote_d, demote_d, demote_d]
  have a7 : (v + v >>> 32).toNat = v.toNat + v.toNat / 4294967296 := step_4 v 32 4294967296 rfl (Nat.lt_trans s7 (by decide))
  rw [← a7] at s7 s8
  generalize v + v >>> 32 = q at *
  rw [conv_w _ s7, bindO_some', demote_d, and_127 _ s7, bindO_some', demote_d, noRef_d, s8]
  exact ⟨rfl, rfl⟩

/-- n is the lowest number in a word -/
def Lowest (x : BitVec 64) (n : Nat) : Prop := n < 64 ∧ x.getLsbD n = true ∧ ∀ m, m < n → x.getLsbD m = false
theorem lowest_ex (x : BitVec 64) (h : x ≠ 0) : ∃ n, Lowest x n := by
  have key : ∀ k, (∃ n, n < k ∧ x.getLsbD n = true ∧ ∀ m, m < n → x.getLsbD m = false) ∨ ∀ m, m < k → x.getLsbD m = false := by
    intro k
    induction k with
    | zero => exact .inr fun m hm => by omega
    | succ k ih =>
      rcases ih with ⟨n, h1, h2⟩ | h1
      · exact .inl ⟨n, by omega, h2⟩
      · cases hk : x.getLsbD k with
        | true => exact .inl ⟨k, by omega, hk, h1⟩
        | false =>
          refine .inr fun m hm => ?_
          rcases Nat.lt_or_ge m k with h' | h'
          · exact h1 m h'
          · have : m = k := by omega
            subst this
            exact hk
  rcases key 64 with ⟨n, h1, h2⟩ | h1
  · exact ⟨n, h1, h2⟩
  · refine absurd (BitVec.eq_of_getLsbD_eq fun i hi => ?_) h
    rw [h1 i hi]
    simp
theorem and_neg {x : BitVec 64} {n : Nat} (h : Lowest x n) : x &&& -x = 1#64 <<< n := by
  obtain ⟨h1, h2, h3⟩ := h
  apply BitVec.eq_of_getLsbD_eq
  intro i hi
  rw [BitVec.getLsbD_and, BitVec.getLsbD_neg]
  rcases Nat.lt_trichotomy i n with h | h | h
  · simp [h3 i h, h]
  · subst h
    have : ¬ ∃ j, j < i ∧ x.getLsbD j = true := by
      rintro ⟨j, hj, hx⟩
      rw [h3 j hj] at hx
      cases hx
    simp [h2, hi, this]
  · have : ∃ j, j < i ∧ x.getLsbD j = true := ⟨n, h, h2⟩
    have h0 : i - n ≠ 0 := by omega
    simp [hi, this, show ¬ i < n by omega, h0]
theorem tz_index : ∀ n : Nat, n < 64 → (((1#64 <<< n) * 285870213051353865#64) >>> 58).toNat < 64 ∧ tz64[(((1#64 <<< n) * 285870213051353865#64) >>> 58).toNat]? = some (n : Int) := by decide
theorem eqW_zero (x : BitVec 64) : binV (some (false, [.int])) .eql (.d (dW x)) (.d (dW 0)) = some (.d (.bool (x == 0))) := bin_eqlW x 0
theorem index_any {k : IntKind} {m n : Nat} (h : m < n) : indexOk (.d (.int k (m : Int))) n = some m := by
  simp only [indexOk]
  rw [if_pos ⟨by omega, by omega⟩]
  simp
theorem tab_at (m : Nat) (n : Int) (h : tz64[m]? = some n) {K : SV → Prop} : (bindO (addOffV (.dptr tab64 0) (m * 1)) fun r6 => bindO (loadV false 1 (demote r6)) K) = bindO (some (.d (.int .u8 n))) K := by
  have e : addOffV (.dptr tab64 0) (m * 1) = some (.dptr tab64 m) := by rw [addOffV, Nat.zero_add, Nat.mul_one]
  have hp : partD false 1 m tab64.cells = some (.int .u8 n) := by
    show (tz64.map (D.int .u8))[m]? = _
    rw [List.getElem?_map, h]
    rfl
  have hl : loadV false 1 (.dptr tab64 m) = some (.d (.int .u8 n)) := by rw [loadV, hp]
  rw [e, bindO_some']
  show bindO (loadV false 1 (.dptr tab64 m)) K = _
  rw [hl]
theorem e35 : Enters Tryd.prog 35 := enters_some (fn := Tryd.f35) (by kernel_rfl) (by kernel_rfl) (by kernel_rfl)
theorem tz_holds (x : BitVec 64) (n : Nat) (h : Lowest x n) : Holds Tryd.prog gl 35 [.d (dW x)] (.d (dI (n : Int))) := by
  refine holds_of_body hm1 e35 (h := h35) ?_
  rw [body35]
  intro hwf
  have hx : (x == 0) = false := by
    rw [beq_eq_false_iff_ne]
    rintro rfl
    have := h.2.1
    simp at this
  simp only [demote_d]
  rw [zero_word, bin_eqlW, bindO_some', hx, ifP_false, un_neg, bindO_some', demote_d, bin_and, bindO_some', and_neg h, demote_d, lit_db, bin_mul, bindO_some', demote_d, shr_58, bindO_some', demote_d]
  obtain ⟨t1, t2⟩ := tz_index n h.1
  generalize (((1#64 <<< n) * 285870213051353865#64) >>> 58) = y at *
  have hi : indexOk (.d (dW y)) 64 = some y.toNat := by
    exact index_any t1
  rw [hi, bindO_some', tab_at _ _ t2, bindO_some']
  have hc : convI .i64 (.d (.int .u8 (n : Int))) = some (.d (.int .i64 (n : Int))) := by
    have := h.1
    simp only [convI]
    rw [wrap_i64 (by omega) (by omega)]
  rw [demote_d, hc, bindO_some', demote_d, noRef_d]
  exact ⟨rfl, rfl⟩
end Go.Proofs.YtofghbnaofcpdaaDoor.Ab
