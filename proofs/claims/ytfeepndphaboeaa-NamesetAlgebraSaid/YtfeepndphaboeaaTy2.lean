/-
  SETS OF 256: four words.
-/
import Derived.Test.YtfeepndphaboeaaTy1
set_option linter.unusedVariables false
set_option linter.unusedSimpArgs false
namespace Go.Proofs.Ytfeepndphaboeaa.Ab
open Go

def dSet (w : Nat → BitVec 64) : D := .agg [dW (w 0), dW (w 1), dW (w 2), dW (w 3)]
def cSet (w : Nat → BitVec 64) : List SV := [.d (dW (w 0)), .d (dW (w 1)), .d (dW (w 2)), .d (dW (w 3))]
def upW (w : Nat → BitVec 64) (k : Nat) (x : BitVec 64) : Nat → BitVec 64 := fun i => if i = k then x else w i

theorem cells_set (w : Nat → BitVec 64) : cellsV (.d (dSet w)) = some (cSet w) := rfl
theorem len_cSet (w : Nat → BitVec 64) : (cSet w).length = 4 := rfl
theorem part_set (w : Nat → BitVec 64) : partV true 4 0 (cSet w) = some (.d (dSet w)) := rfl
theorem part_word (w : Nat → BitVec 64) {k : Nat} (h : k < 4) : partV false 1 k (cSet w) = some (.d (dW (w k))) := by
  match k, h with
  | 0, _ => rfl
  | 1, _ => rfl
  | 2, _ => rfl
  | 3, _ => rfl
theorem set_word (w : Nat → BitVec 64) {k : Nat} (h : k < 4) (x : BitVec 64) : setAt (cSet w) k [.d (dW x)] = cSet (upW w k x) := by
  match k, h with
  | 0, _ => rfl
  | 1, _ => rfl
  | 2, _ => rfl
  | 3, _ => rfl
theorem set_all (w v : Nat → BitVec 64) : setAt (cSet w) 0 (cSet v) = cSet v := rfl
theorem zero_set : [SV.d (.int .u64 0), .d (.int .u64 0), .d (.int .u64 0), .d (.int .u64 0)] = cSet (fun _ => 0) := rfl
theorem cells_word (x : BitVec 64) : cellsV (.d (dW x)) = some [.d (dW x)] := rfl
theorem one_word : D.int .u64 1 = dW 1 := rfl

theorem index_nat {k n : Nat} (h : k < n) : indexOk (.d (.int .i64 (k : Int))) n = some k := by
  simp only [indexOk]
  rw [if_pos ⟨by omega, by omega⟩]
  simp
theorem wrap_i64 {n : Int} (h1 : -9223372036854775808 ≤ n) (h2 : n < 9223372036854775808) : IntKind.i64.wrap n = n := by
  show (if (true && decide (n % 2 ^ 64 ≥ 2 ^ (64 - 1))) = true then n % 2 ^ 64 - 2 ^ 64 else n % 2 ^ 64) = n
  by_cases h : n % 2 ^ 64 ≥ 2 ^ (64 - 1)
  · rw [if_pos (by simpa using h)]
    omega
  · rw [if_neg (by simpa using h)]
    omega
theorem quo64 {m : Nat} (h : m < 2 ^ 62) : binV none .quo (.d (.int .i64 (m : Int))) (.d (.int .i64 64)) = some (.d (.int .i64 ((m / 64 : Nat) : Int))) := by
  have h1 : ((m : Int).tdiv 64) = ((m / 64 : Nat) : Int) := by rw [Int.tdiv_eq_ediv_of_nonneg (by omega)]; omega
  have h2 : IntKind.i64.wrap ((m / 64 : Nat) : Int) = ((m / 64 : Nat) : Int) := wrap_i64 (by omega) (by omega)
  simp only [binV, binD, intBop, h1, h2, ↓reduceIte]
  rfl
theorem rem64 {m : Nat} : binV none .rem (.d (.int .i64 (m : Int))) (.d (.int .i64 64)) = some (.d (.int .i64 ((m % 64 : Nat) : Int))) := by
  have h1 : ((m : Int).tmod 64) = ((m % 64 : Nat) : Int) := by rw [Int.tmod_eq_emod_of_nonneg (by omega)]; omega
  simp [binV, binD, intBop, h1]
theorem add_one {m : Nat} (h : m < 2 ^ 62) : binV none .add (.d (.int .i64 (m : Int))) (.d (.int .i64 1)) = some (.d (.int .i64 ((m + 1 : Nat) : Int))) := by
  have h2 : IntKind.i64.wrap ((m : Int) + 1) = ((m + 1 : Nat) : Int) := by rw [wrap_i64 (by omega) (by omega)]; omega
  simp only [binV, binD, intBop, h2, ↓reduceIte]
theorem lss_lit (m n : Int) : binV none .lss (.d (.int .i64 m)) (.d (.int .i64 n)) = some (.d (.bool (decide (m < n)))) := by
  simp only [binV, binD, intBop, ↓reduceIte]
theorem geq_lit (m n : Int) : binV none .geq (.d (.int .i64 m)) (.d (.int .i64 n)) = some (.d (.bool (decide (m ≥ n)))) := by
  simp only [binV, binD, intBop, ↓reduceIte]
theorem neq_word (x y : BitVec 64) : binV (some (false, [.int])) .neq (.d (dW x)) (.d (dW y)) = some (.d (.bool (x != y))) := by
  simp only [binV, binD, dW, intBop, ↓reduceIte, bne, dW_inj]
theorem zero_word : D.int .u64 0 = dW 0 := rfl
theorem set_or (w v : Nat → BitVec 64) (i : Nat) (f : BitVec 64 → BitVec 64 → BitVec 64) : upW (fun k => if k < i then f (w k) (v k) else w k) i (f (w i) (v i)) = fun k => if k < i + 1 then f (w k) (v k) else w k := by
  funext k
  unfold upW
  by_cases h1 : k = i
  · subst h1; simp
  · by_cases h2 : k < i
    · simp [h1, h2, show k < i + 1 by omega]
    · simp [h1, h2, show ¬ k < i + 1 by omega]
def eqW (w v : Nat → BitVec 64) : Bool := w 0 == v 0 && (w 1 == v 1 && (w 2 == v 2 && (w 3 == v 3 && true)))
theorem eql_set (w v : Nat → BitVec 64) : binV (some (true, [.int, .int, .int, .int])) .eql (.d (dSet w)) (.d (dSet v)) = some (.d (.bool (eqW w v))) := bin_eqlS _ _ _ _ _ _ _ _
theorem neq_set (w v : Nat → BitVec 64) : binV (some (true, [.int, .int, .int, .int])) .neq (.d (dSet w)) (.d (dSet v)) = some (.d (.bool (!eqW w v))) := bin_neqS _ _ _ _ _ _ _ _

/-- is a number in the set -/
def hasW (w : Nat → BitVec 64) (m : Nat) : Bool := (w (m / 64)).getLsbD (m % 64)
theorem bit_eq (x : BitVec 64) (n : Nat) : ((x >>> n) &&& 1#64 == 1#64) = x.getLsbD n := by
  rw [Bool.eq_iff_iff, beq_iff_eq]
  constructor
  · intro h
    have := congrArg (fun z => z.getLsbD 0) h
    simpa using this
  · intro h
    apply BitVec.eq_of_getLsbD_eq
    intro i hi
    by_cases h0 : i = 0
    · subst h0; simpa using h
    · simp [h0]
end Go.Proofs.Ytfeepndphaboeaa.Ab
