/-
  TYPED VALUES: words, numbers, bools; what the leaves do with them.
-/
import Derived.Test.YtfeepndphaboeaaAb23
set_option linter.unusedVariables false
set_option linter.unusedSimpArgs false
namespace Go.Proofs.Ytfeepndphaboeaa.Ab
open Go

def dW (x : BitVec 64) : D := .int .u64 (x.toNat : Int)
def dI (n : Int) : D := .int .i64 n
def dB (b : Bool) : D := .bool b

theorem callP_of {C : Con} {f : FuncId} {args : List SV} {r : D} {k : SV → Prop} (h : C f args (.d r)) (hk : k (.d r)) : callP C f args k := ⟨.d r, h, rfl, hk⟩

theorem enters_some {P : Program} {f : FuncId} {fn : Func} (hf : P.funcs[f]? = some fn) (hname : (fn.name == "runtime.NumGoroutine") = false) (hb : fn.body.isSome = true) : Enters P f := by
  obtain ⟨c, hc⟩ := Option.isSome_iff_exists.1 hb
  exact enters_of hf hname hc

theorem bindO_some' {α : Type} (x : α) (k : α → Prop) : bindO (some x) k = k x := rfl
theorem ifP_true (A B : Prop) : ifP (.d (.bool true)) A B = A := rfl
theorem ifP_false (A B : Prop) : ifP (.d (.bool false)) A B = B := rfl
theorem ifP_dec (b : Bool) (A B : Prop) : ifP (.d (.bool b)) A B ↔ (b = true → A) ∧ (b = false → B) := by cases b <;> simp [ifP]
theorem demote_d (x : D) : demote (.d x) = .d x := rfl
theorem noRef_d (x : D) : SV.noRef (.d x) = true := rfl

/-- a loop that counts -/
theorem loopP_count {F : List SV → List (List SV) → (List SV → List (List SV) → Prop) → Prop} (st : Nat → List SV) (sb : Nat → List (List SV)) (n : Nat)
    (hstep : ∀ i, i < n → ∀ I : List SV → List (List SV) → Prop, I (st (i + 1)) (sb (i + 1)) → F (st i) (sb i) I) (hend : ∀ I, F (st n) (sb n) I) : loopP F (st 0) (sb 0) := by
  intro I hI
  have key : ∀ k, k ≤ n → I (st (n - k)) (sb (n - k)) := by
    intro k
    induction k with
    | zero => intro _; exact hI _ _ (hend I)
    | succ k ih =>
      intro hk
      have := hstep (n - (k + 1)) (by omega) I (by rw [show n - (k + 1) + 1 = n - k by omega]; exact ih (by omega))
      exact hI _ _ this
  have := key n (Nat.le_refl _)
  simpa using this

theorem wrap64 (n : Int) : IntKind.u64.wrap n = n % 2 ^ 64 := by simp [IntKind.wrap, IntKind.signed, IntKind.bits]
theorem ofInt_toNat (x : BitVec 64) : BitVec.ofInt 64 (x.toNat : Int) = x := by
  apply BitVec.eq_of_toNat_eq
  simp

theorem bin_and (x y : BitVec 64) : binV none .and (.d (dW x)) (.d (dW y)) = some (.d (dW (x &&& y))) := by
  simp only [binV, binD, dW, intBop, wrap64, ↓reduceIte]
  have h := Int.emod_eq_of_lt (Int.natCast_nonneg (x &&& y).toNat) (b := 2 ^ 64) (by have := (x &&& y).isLt; omega)
  have h1 : BitVec.ofInt IntKind.u64.bits (x.toNat : Int) = x := ofInt_toNat x
  have h2 : BitVec.ofInt IntKind.u64.bits (y.toNat : Int) = y := ofInt_toNat y
  rw [h1, h2]
  exact congrArg (fun z => some (SV.d (.int .u64 z))) h
theorem bin_or (x y : BitVec 64) : binV none .or (.d (dW x)) (.d (dW y)) = some (.d (dW (x ||| y))) := by
  simp only [binV, binD, dW, intBop, wrap64, ↓reduceIte]
  have h := Int.emod_eq_of_lt (Int.natCast_nonneg (x ||| y).toNat) (b := 2 ^ 64) (by have := (x ||| y).isLt; omega)
  have h1 : BitVec.ofInt IntKind.u64.bits (x.toNat : Int) = x := ofInt_toNat x
  have h2 : BitVec.ofInt IntKind.u64.bits (y.toNat : Int) = y := ofInt_toNat y
  rw [h1, h2]
  exact congrArg (fun z => some (SV.d (.int .u64 z))) h
theorem bin_andNot (x y : BitVec 64) : binV none .andNot (.d (dW x)) (.d (dW y)) = some (.d (dW (x &&& ~~~y))) := by
  simp only [binV, binD, dW, intBop, wrap64, ↓reduceIte]
  have h := Int.emod_eq_of_lt (Int.natCast_nonneg (x &&& ~~~y).toNat) (b := 2 ^ 64) (by have := (x &&& ~~~y).isLt; omega)
  have h1 : BitVec.ofInt IntKind.u64.bits (x.toNat : Int) = x := ofInt_toNat x
  have h2 : BitVec.ofInt IntKind.u64.bits (y.toNat : Int) = y := ofInt_toNat y
  rw [h1, h2]
  exact congrArg (fun z => some (SV.d (.int .u64 z))) h
theorem bin_shr (x : BitVec 64) (k : IntKind) (n : Nat) : binV none .shr (.d (dW x)) (.d (.int k (n : Int))) = some (.d (dW (x >>> n))) := by
  simp only [binV, binD, dW, shiftOp, IntKind.bits]
  rw [if_neg (by omega)]
  simp only [Int.toNat_natCast]
  have : ((x.toNat : Int)).fdiv (2 ^ min n 64) = ((x >>> n).toNat : Int) := by
    rw [Int.fdiv_eq_ediv_of_nonneg _ (Int.le_of_lt (Int.pow_pos (by decide))), BitVec.toNat_ushiftRight, Nat.shiftRight_eq_div_pow]
    have e : ((2 : Int) ^ min n 64) = ((2 ^ min n 64 : Nat) : Int) := by simp
    rw [e, ← Int.natCast_ediv]
    congr 1
    rcases Nat.le_total n 64 with h | h
    · rw [Nat.min_eq_left h]
    · rw [Nat.min_eq_right h, Nat.div_eq_of_lt x.isLt, Nat.div_eq_of_lt]
      exact Nat.lt_of_lt_of_le x.isLt (Nat.pow_le_pow_right (by decide) h)
  exact congrArg (fun z => some (SV.d (.int .u64 z))) this
theorem bin_shl (x : BitVec 64) (k : IntKind) (n : Nat) : binV none .shl (.d (dW x)) (.d (.int k (n : Int))) = some (.d (dW (x <<< n))) := by
  simp only [binV, binD, dW, shiftOp, wrap64, IntKind.bits]
  rw [if_neg (by omega)]
  simp only [Int.toNat_natCast]
  have : ((x.toNat : Int) * 2 ^ min n 64) % 2 ^ 64 = ((x <<< n).toNat : Int) := by
    rw [BitVec.toNat_shiftLeft, Nat.shiftLeft_eq]
    have e : ((2 : Int) ^ min n 64) = ((2 ^ min n 64 : Nat) : Int) := by simp
    have e2 : ((2 : Int) ^ 64) = ((2 ^ 64 : Nat) : Int) := by decide
    rw [e, e2, ← Int.natCast_mul, ← Int.natCast_emod]
    congr 1
    rcases Nat.le_total n 64 with h | h
    · rw [Nat.min_eq_left h]
    · rw [Nat.min_eq_right h, Nat.mul_mod_left]
      obtain ⟨m, rfl⟩ := Nat.exists_eq_add_of_le h
      rw [Nat.pow_add, ← Nat.mul_assoc, Nat.mul_right_comm, Nat.mul_mod_left]
  exact congrArg (fun z => some (SV.d (.int .u64 z))) this
theorem dW_inj {x y : BitVec 64} : ((x.toNat : Int) == (y.toNat : Int)) = (x == y) := by
  rw [Bool.eq_iff_iff, beq_iff_eq, beq_iff_eq, Int.ofNat_inj, BitVec.toNat_inj]
theorem bin_eqlW (x y : BitVec 64) : binV (some (false, [.int])) .eql (.d (dW x)) (.d (dW y)) = some (.d (.bool (x == y))) := by
  simp only [binV, binD, dW, intBop, ↓reduceIte]
  rw [dW_inj]

/-- a set of 256 -/
def dS (a b c d : BitVec 64) : D := .agg [dW a, dW b, dW c, dW d]
theorem bin_eqlS (a b c d a' b' c' d' : BitVec 64) : binV (some (true, [.int, .int, .int, .int])) .eql (.d (dS a b c d)) (.d (dS a' b' c' d')) = some (.d (.bool (a == a' && (b == b' && (c == c' && (d == d' && true)))))) := by
  simp only [binV, binD, dS, ckOk, dW, Bool.and_self, cond_true, eqCells, eqScal, ↓reduceIte, dW_inj]
theorem bin_neqS (a b c d a' b' c' d' : BitVec 64) : binV (some (true, [.int, .int, .int, .int])) .neq (.d (dS a b c d)) (.d (dS a' b' c' d')) = some (.d (.bool (!(a == a' && (b == b' && (c == c' && (d == d' && true))))))) := by
  simp only [binV, binD, dS, ckOk, dW, Bool.and_self, cond_true, eqCells, eqScal, ↓reduceIte, dW_inj]
end Go.Proofs.Ytfeepndphaboeaa.Ab
