/-
  TYPED VALUES: words, numbers, bools; what the leaves do with them.
-/
import Derived.Test.YtcnnhnjcnekhcaaGreatWc
set_option linter.unusedVariables false
set_option linter.unusedSimpArgs false
namespace Go.Proofs.YtcnnhnjcnekhcaaGreat.Ab
open Go

def dW (x : BitVec 64) : D := .int .u64 (x.toNat : Int)
def dI (n : Int) : D := .int .i64 n
def dB (b : Bool) : D := .bool b

theorem callP_of {C : Con} {f : FuncId} {args : List SV} {r : D} {k : SV → Prop} (h : C f args (.d r)) (hk : k (.d r)) : callP C f args k := ⟨.d r, h, rfl, hk⟩

theorem enters_some {P : Program} {f : FuncId} {fn : Func} (hf : P.funcs[f]? = some fn) (hname : (fn.name == "runtime.NumGoroutine") = false) (hb : fn.body.isSome = true) : Enters P f := by
  obtain ⟨c, hc⟩ := Option.isSome_iff_exists.1 hb
  exact enters_of hf hname hc

theorem bindO_some' {α : Type} (x : α) (k : α → Prop) : bindO (some x) k = k x := rfl
theorem ifP_true (A B : Prop) : ifP (.d (.bool true)) A B = A := rfl
theorem ifP_false (A B : Prop) : ifP (.d (.bool false)) A B = B := rfl
theorem ifP_dec (b : Bool) (A B : Prop) : ifP (.d (.bool b)) A B ↔ (b = true → A) ∧ (b = false → B) := by cases b <;> simp [ifP]
theorem demote_d (x : D) : demote (.d x) = .d x := rfl
theorem noRef_d (x : D) : SV.noRef (.d x) = true := rfl

/-- a loop that counts -/
theorem loopP_count {F : List SV → List (List SV) → (List SV → List (List SV) → Prop) → Prop} (st : Nat → List SV) (sb : Nat → List (List SV)) (n : Nat)
    (hstep : ∀ i, i < n → ∀ I : List SV → List (List SV) → Prop, I (st (i + 1)) (sb (i + 1)) → F (st i) (sb i) I) (hend : ∀ I, F (st n) (sb n) I) : loopP F (st 0) (sb 0) := by
  intro I hI
  have key : ∀ k, k ≤ n → I (st (n - k)) (sb (n - k)) := by
    intro k
    induction k with
    | zero => intro _; exact hI _ _ (hend I)
    | succ k ih =>
      intro hk
      have := hstep (n - (k + 1)) (by omega) I (by rw [show n - (k + 1) + 1 = n - k by omega]; exact ih (by omega))
      exact hI _ _ this
  have := key n (Nat.le_refl _)
  simpa using this

theorem wrap64 (n : Int) : IntKind.u64.wrap n = n % 2 ^ 64 := by simp [IntKind.wrap, IntKind.signed, IntKind.bits]
theorem ofInt_toNat (x : BitVec 64) : BitVec.ofInt 64 (x.toNat : Int) = x := by
  apply BitVec.eq_of_toNat_eq
  simp

theorem bin_and (x y : BitVec 64) : binV none .and (.d (dW x)) (.d (dW y)) = some (.d (dW (x &&& y))) := by
  simp only [binV, binD, dW, intBop, wrap64, ↓reduceIte]
  have h := Int.emod_eq_of_lt (Int.natCast_nonneg (x &&& y).toNat) (b := 2 ^ 64) (by have := (x &&& y).isLt; omega)
  have h1 : BitVec.ofInt IntKind.u64.bits (x.toNat : Int) = x := ofInt_toNat x
  have h2 : BitVec.ofInt IntKind.u64.bits (y.toNat : Int) = y := ofInt_toNat y
  rw [h1, h2]
  exact congrArg (fun z => some (SV.d (.int .u64 z))) h
theorem bin_or (x y : BitVec 64) : binV none .or (.d (dW x)) (.d (dW y)) = some (.d (dW (x ||| y))) := by
  simp only [binV, binD, dW, intBop, wrap64, ↓reduceIte]
  have h := Int.emod_eq_of_lt (Int.natCast_nonneg (x ||| y).toNat) (b := 2 ^ 64) (by have := (x ||| y).isLt; omega)
  have h1 : BitVec.ofInt IntKind.u64.bits (x.toNat : Int) = x := ofInt_toNat x
  have h2 : BitVec.ofInt IntKind.u64.bits (y.toNat : Int) = y := ofInt_toNat y
  rw [h1, h2]
  exact congrArg (fun z => some (SV.d (.int .u64 z))) h
theorem bin_andNot (x y : BitVec 64) : binV none .andNot (.d (dW x)) (.d (dW y)) = some (.d (dW (x &&& ~~~y))) := by
  simp only [binV, binD, dW, intBop, wrap64, ↓reduceIte]
  have h := Int.emod_eq_of_lt (Int.natCast_nonneg (x &&& ~~~y).toNat) (b := 2 ^ 64) (by have := (x &&& ~~~y).isLt; omega)
  have h1 : BitVec.ofInt IntKind.u64.bits (x.toNat : Int) = x := ofInt_toNat x
  have h2 : BitVec.ofInt IntKind.u64.bits (y.toNat : Int) = y := ofInt_toNat y
  rw [h1, h2]
  exact congrArg (fun z => some (SV.d (.int .u64 z))) h
theorem bin_shr (x : BitVec 64) (k : IntKind) (n : Nat) : binV none .shr (.d (dW x)) (.d (.int k (n : Int))) = some (.d (dW (x >>> n))) := by
  simp only [binV, binD, dW, shiftOp, IntKind.bits]
  rw [if_neg (by omega)]
  simp only [Int.toNat_natCast]
  have : ((x.toNat : Int)).fdiv (2 ^ min n 64) = ((x >>> n).toNat : Int) := by
    rw [Int.fdiv_eq_ediv_of_nonneg _ (Int.le_of_lt (Int.pow_pos (by decide))), BitVec.toNat_ushiftRight, Nat.shiftRight_eq_div_pow]
    have e : ((2 : Int) ^ min n 64) = ((2 ^ min n 64 : Nat) : Int) := by simp
    rw [e, ← Int.natCast_ediv]
    congr 1
    rcases Nat.le_total n 64 with h | h
    · rw [Nat.min_eq_left h]
    · rw [Nat.min_eq_right h, Nat.div_eq_of_lt x.isLt, Nat.div_eq_of_lt]
      exact Nat.lt_of_lt_of_le x.isLt (Nat.pow_le_pow_right (by decide) h)
  exact congrArg (fun z => some (SV.d (.int .u64 z))) this
theorem bin_shl (x : BitVec 64) (k : IntKind) (n : Nat) : binV none .shl (.d (dW x)) (.d (.int k (n : Int))) = some (.d (dW (x <<< n))) := by
  simp only [binV, binD, dW, shiftOp, wrap64, IntKind.bits]
  rw [if_neg (by omega)]
  simp only [Int.toNat_natCast]
  have : ((x.toNat : Int) * 2 ^ min n 64) % 2 ^ 64 = ((x <<< n).toNat : Int) := by
    rw [BitVec.toNat_shiftLeft, Nat.shiftLeft_eq]
    have e : ((2 : Int) ^ min n 64) = ((2 ^ min n 64 : Nat) : Int) := by simp
    have e2 : ((2 : Int) ^ 64) = ((2 ^ 64 : Nat) : Int) := by decide
    rw [e, e2, ← Int.natCast_mul, ← Int.natCast_emod]
    congr 1
    rcases Nat.le_total n 64 with h | h
    · rw [Nat.min_eq_left h]
    · rw [Nat.min_eq_right h, Nat.mul_mod_left]
      obtain ⟨m, rfl⟩ := Nat.exists_eq_add_of_le h
      rw [Nat.pow_add, ← Nat.mul_assoc, Nat.mul_right_comm, Nat.mul_mod_left]
  exact congrArg (fun z => some (SV.d (.int .u64 z))) this
theorem dW_inj {x y : BitVec 64} : ((x.toNat : Int) == (y.toNat : Int)) = (x == y) := by
  rw [Bool.eq_iff_iff, beq_iff_eq, beq_iff_eq, Int.ofNat_inj, BitVec.toNat_inj]
theorem bin_eqlW (x y : BitVec 64) : binV (some (false, [.int])) .eql (.d (dW x)) (.d (dW y)) = some (.d (.bool (x == y))) := by
  simp only [binV, binD, dW, intBop, ↓reduceIte]
  rw [dW_inj]

/-- a set of 256 -/
def dS (a b c d : BitVec 64) : D := .agg [dW a, dW b, dW c, dW d]
theorem bin_eqlS (a b c d a' b' c' d' : BitVec 64) : binV (some (true, [.int, .int, .int, .int])) .eql (.d (dS a b c d)) (.d (dS a' b' c' d')) = some (.d (.bool (a == a' && (b == b' && (c == c' && (d == d' && true)))))) := by
  simp only [binV, binD, dS, ckOk, dW, Bool.and_self, cond_true, eqCells, eqScal, ↓reduceIte, dW_inj]
theorem bin_neqS (a b c d a' b' c' d' : BitVec 64) : binV (some (true, [.int, .int, .int, .int])) .neq (.d (dS a b c d)) (.d (dS a' b' c' d')) = some (.d (.bool (!(a == a' && (b == b' && (c == c' && (d == d' && true))))))) := by
  simp only [binV, binD, dS, ckOk, dW, Bool.and_self, cond_true, eqCells, eqScal, ↓reduceIte, dW_inj]
end Go.Proofs.YtcnnhnjcnekhcaaGreat.Ab
/-
  SETS OF 256: four words.
-/
namespace Go.Proofs.YtcnnhnjcnekhcaaGreat.Ab
open Go

def dSet (w : Nat → BitVec 64) : D := .agg [dW (w 0), dW (w 1), dW (w 2), dW (w 3)]
def cSet (w : Nat → BitVec 64) : List SV := [.d (dW (w 0)), .d (dW (w 1)), .d (dW (w 2)), .d (dW (w 3))]
def upW (w : Nat → BitVec 64) (k : Nat) (x : BitVec 64) : Nat → BitVec 64 := fun i => if i = k then x else w i

theorem cells_set (w : Nat → BitVec 64) : cellsV (.d (dSet w)) = some (cSet w) := rfl
theorem len_cSet (w : Nat → BitVec 64) : (cSet w).length = 4 := rfl
theorem part_set (w : Nat → BitVec 64) : partV true 4 0 (cSet w) = some (.d (dSet w)) := rfl
theorem part_word (w : Nat → BitVec 64) {k : Nat} (h : k < 4) : partV false 1 k (cSet w) = some (.d (dW (w k))) := by
  match k, h with
  | 0, _ => rfl
  | 1, _ => rfl
  | 2, _ => rfl
  | 3, _ => rfl
theorem set_word (w : Nat → BitVec 64) {k : Nat} (h : k < 4) (x : BitVec 64) : setAt (cSet w) k [.d (dW x)] = cSet (upW w k x) := by
  match k, h with
  | 0, _ => rfl
  | 1, _ => rfl
  | 2, _ => rfl
  | 3, _ => rfl
theorem set_all (w v : Nat → BitVec 64) : setAt (cSet w) 0 (cSet v) = cSet v := rfl
theorem zero_set : [SV.d (.int .u64 0), .d (.int .u64 0), .d (.int .u64 0), .d (.int .u64 0)] = cSet (fun _ => 0) := rfl
theorem cells_word (x : BitVec 64) : cellsV (.d (dW x)) = some [.d (dW x)] := rfl
theorem one_word : D.int .u64 1 = dW 1 := rfl

theorem index_nat {k n : Nat} (h : k < n) : indexOk (.d (.int .i64 (k : Int))) n = some k := by
  simp only [indexOk]
  rw [if_pos ⟨by omega, by omega⟩]
  simp
theorem wrap_i64 {n : Int} (h1 : -9223372036854775808 ≤ n) (h2 : n < 9223372036854775808) : IntKind.i64.wrap n = n := by
  show (if (true && decide (n % 2 ^ 64 ≥ 2 ^ (64 - 1))) = true then n % 2 ^ 64 - 2 ^ 64 else n % 2 ^ 64) = n
  by_cases h : n % 2 ^ 64 ≥ 2 ^ (64 - 1)
  · rw [if_pos (by simpa using h)]
    omega
  · rw [if_neg (by simpa using h)]
    omega
theorem quo64 {m : Nat} (h : m < 2 ^ 62) : binV none .quo (.d (.int .i64 (m : Int))) (.d (.int .i64 64)) = some (.d (.int .i64 ((m / 64 : Nat) : Int))) := by
  have h1 : ((m : Int).tdiv 64) = ((m / 64 : Nat) : Int) := by rw [Int.tdiv_eq_ediv_of_nonneg (by omega)]; omega
  have h2 : IntKind.i64.wrap ((m / 64 : Nat) : Int) = ((m / 64 : Nat) : Int) := wrap_i64 (by omega) (by omega)
  simp only [binV, binD, intBop, h1, h2, ↓reduceIte]
  rfl
theorem rem64 {m : Nat} : binV none .rem (.d (.int .i64 (m : Int))) (.d (.int .i64 64)) = some (.d (.int .i64 ((m % 64 : Nat) : Int))) := by
  have h1 : ((m : Int).tmod 64) = ((m % 64 : Nat) : Int) := by rw [Int.tmod_eq_emod_of_nonneg (by omega)]; omega
  simp [binV, binD, intBop, h1]
theorem add_one {m : Nat} (h : m < 2 ^ 62) : binV none .add (.d (.int .i64 (m : Int))) (.d (.int .i64 1)) = some (.d (.int .i64 ((m + 1 : Nat) : Int))) := by
  have h2 : IntKind.i64.wrap ((m : Int) + 1) = ((m + 1 : Nat) : Int) := by rw [wrap_i64 (by omega) (by omega)]; omega
  simp only [binV, binD, intBop, h2, ↓reduceIte]
theorem lss_lit (m n : Int) : binV none .lss (.d (.int .i64 m)) (.d (.int .i64 n)) = some (.d (.bool (decide (m < n)))) := by
  simp only [binV, binD, intBop, ↓reduceIte]
theorem geq_lit (m n : Int) : binV none .geq (.d (.int .i64 m)) (.d (.int .i64 n)) = some (.d (.bool (decide (m ≥ n)))) := by
  simp only [binV, binD, intBop, ↓reduceIte]
theorem neq_word (x y : BitVec 64) : binV (some (false, [.int])) .neq (.d (dW x)) (.d (dW y)) = some (.d (.bool (x != y))) := by
  simp only [binV, binD, dW, intBop, ↓reduceIte, bne, dW_inj]
theorem zero_word : D.int .u64 0 = dW 0 := rfl
theorem set_or (w v : Nat → BitVec 64) (i : Nat) (f : BitVec 64 → BitVec 64 → BitVec 64) : upW (fun k => if k < i then f (w k) (v k) else w k) i (f (w i) (v i)) = fun k => if k < i + 1 then f (w k) (v k) else w k := by
  funext k
  unfold upW
  by_cases h1 : k = i
  · subst h1; simp
  · by_cases h2 : k < i
    · simp [h1, h2, show k < i + 1 by omega]
    · simp [h1, h2, show ¬ k < i + 1 by omega]
def eqW (w v : Nat → BitVec 64) : Bool := w 0 == v 0 && (w 1 == v 1 && (w 2 == v 2 && (w 3 == v 3 && true)))
theorem eql_set (w v : Nat → BitVec 64) : binV (some (true, [.int, .int, .int, .int])) .eql (.d (dSet w)) (.d (dSet v)) = some (.d (.bool (eqW w v))) := bin_eqlS _ _ _ _ _ _ _ _
theorem neq_set (w v : Nat → BitVec 64) : binV (some (true, [.int, .int, .int, .int])) .neq (.d (dSet w)) (.d (dSet v)) = some (.d (.bool (!eqW w v))) := bin_neqS _ _ _ _ _ _ _ _

/-- is a number in the set -/
def hasW (w : Nat → BitVec 64) (m : Nat) : Bool := (w (m / 64)).getLsbD (m % 64)
theorem bit_eq (x : BitVec 64) (n : Nat) : ((x >>> n) &&& 1#64 == 1#64) = x.getLsbD n := by
  rw [Bool.eq_iff_iff, beq_iff_eq]
  constructor
  · intro h
    have := congrArg (fun z => z.getLsbD 0) h
    simpa using this
  · intro h
    apply BitVec.eq_of_getLsbD_eq
    intro i hi
    by_cases h0 : i = 0
    · subst h0; simpa using h
    · simp [h0]
end Go.Proofs.YtcnnhnjcnekhcaaGreat.Ab
/-
  STEPS, SLICES, STRINGS: what every package uses.
-/
namespace Go.Proofs.YtcnnhnjcnekhcaaGreat.Ab
open Go

theorem bindO_to {α : Type} {o : Option α} {k : α → Prop} {x : α} (h : o = some x) (hk : k x) : bindO o k := by subst h; exact hk
theorem ifP_to {x : SV} {A B : Prop} {b : Bool} (hx : x = .d (.bool b)) (hb : b = true) (hA : A) : ifP x A B := by subst hx hb; exact hA
theorem ifP_no {x : SV} {A B : Prop} {b : Bool} (hx : x = .d (.bool b)) (hb : b = false) (hB : B) : ifP x A B := by subst hx hb; exact hB
theorem ifP_by {x : SV} {A B : Prop} {b : Bool} (hx : x = .d (.bool b)) (hA : b = true → A) (hB : b = false → B) : ifP x A B := by subst hx; cases b <;> first | exact hA rfl | exact hB rfl
theorem callP_to {C : Con} {f : FuncId} {args : List SV} {r : SV} {k : SV → Prop} (h : C f args r) (hr : isTup r = false) (hk : k r) : callP C f args k := ⟨r, h, hr, hk⟩
theorem call2 {C : Con} {f : FuncId} {args : List SV} {a b : SV} {k : SV → SV → Prop} (h : C f args (.tup [a, b])) (hk : k a b) : ∃ x, ∃ y, C f args (.tup [x, y]) ∧ k x y := ⟨a, b, h, hk⟩
theorem demote_two (x : SV) : demote (demote x) = demote x := by cases x <;> rfl
theorem eql_bool (a b : Bool) : binV (some (false, [.bool])) .eql (.d (.bool a)) (.d (.bool b)) = some (.d (.bool (a == b))) := by
  simp only [binV, binD]
theorem neq_bool (a b : Bool) : binV (some (false, [.bool])) .neq (.d (.bool a)) (.d (.bool b)) = some (.d (.bool (a != b))) := by
  simp only [binV, binD, bne]
theorem leq_int (k : IntKind) (m n : Int) : binV none .leq (.d (.int k m)) (.d (.int k n)) = some (.d (.bool (decide (m ≤ n)))) := by
  simp only [binV, binD, intBop, ↓reduceIte]
theorem gtr_int (k : IntKind) (m n : Int) : binV none .gtr (.d (.int k m)) (.d (.int k n)) = some (.d (.bool (decide (m > n)))) := by
  simp only [binV, binD, intBop, ↓reduceIte]
theorem lss_int (k : IntKind) (m n : Int) : binV none .lss (.d (.int k m)) (.d (.int k n)) = some (.d (.bool (decide (m < n)))) := by
  simp only [binV, binD, intBop, ↓reduceIte]
theorem geq_int (k : IntKind) (m n : Int) : binV none .geq (.d (.int k m)) (.d (.int k n)) = some (.d (.bool (decide (m ≥ n)))) := by
  simp only [binV, binD, intBop, ↓reduceIte]
theorem eql_int (k : IntKind) (m n : Int) : binV (some (false, [.int])) .eql (.d (.int k m)) (.d (.int k n)) = some (.d (.bool (m == n))) := by
  simp only [binV, binD, intBop, ↓reduceIte]
theorem neq_int (k : IntKind) (m n : Int) : binV (some (false, [.int])) .neq (.d (.int k m)) (.d (.int k n)) = some (.d (.bool (m != n))) := by
  simp only [binV, binD, intBop, ↓reduceIte]
theorem eql_str (a b : List UInt8) : binV (some (false, [.str])) .eql (.d (.str a)) (.d (.str b)) = some (.d (.bool (a == b))) := by
  simp only [binV, binD, strBop]
theorem neq_str (a b : List UInt8) : binV (some (false, [.str])) .neq (.d (.str a)) (.d (.str b)) = some (.d (.bool (!(a == b)))) := by
  simp only [binV, binD, strBop]
theorem un_not (b : Bool) : unV .not (.d (.bool b)) = some (.d (.bool (!b))) := rfl
theorem add_nat {m n : Nat} (h : m + n < 2 ^ 62) : binV none .add (.d (.int .i64 (m : Int))) (.d (.int .i64 (n : Int))) = some (.d (.int .i64 ((m + n : Nat) : Int))) := by
  have h2 : IntKind.i64.wrap ((m : Int) + (n : Int)) = ((m + n : Nat) : Int) := by rw [wrap_i64 (by omega) (by omega)]; omega
  simp only [binV, binD, intBop, h2, ↓reduceIte]

theorem add_up {m n : Nat} (h : m < n) (hn : n ≤ maxLen) : binV none .add (.d (.int .i64 (m : Int))) (.d (.int .i64 1)) = some (.d (.int .i64 ((m + 1 : Nat) : Int))) := by
  simp only [maxLen] at hn
  have h2 : IntKind.i64.wrap ((m : Int) + 1) = ((m + 1 : Nat) : Int) := by rw [wrap_i64 (by omega) (by omega)]; omega
  simp only [binV, binD, intBop, h2, ↓reduceIte]
/-- a loop that counts, with what is known at its head -/
theorem loopP_inv {F : List SV → List (List SV) → (List SV → List (List SV) → Prop) → Prop} (J : Nat → Prop) (st : Nat → List SV) (sb : Nat → List (List SV)) (n : Nat) (h0 : J 0)
    (hstep : ∀ i, i < n → J i → ∀ I : List SV → List (List SV) → Prop, (J (i + 1) → I (st (i + 1)) (sb (i + 1))) → F (st i) (sb i) I) (hend : J n → ∀ I, F (st n) (sb n) I) : loopP F (st 0) (sb 0) := by
  intro I hI
  have key : ∀ k, k ≤ n → J (n - k) → I (st (n - k)) (sb (n - k)) := by
    intro k
    induction k with
    | zero => intro _ hj; exact hI _ _ (hend hj I)
    | succ k ih =>
      intro hk hj
      have := hstep (n - (k + 1)) (by omega) hj I (fun hj' => by rw [show n - (k + 1) + 1 = n - k by omega] at hj' ⊢; exact ih (by omega) hj')
      exact hI _ _ this
  have := key n (Nat.le_refl _)
  simp only [Nat.sub_self] at this
  exact this h0

/-- a slice with the elements L, in one of its forms -/
inductive IsSl (sz : Nat) (L : List D) : SV → Prop
  | nil (s : Nat) (h : L = []) : IsSl sz L (.d (.sl .nil s []))
  | ro : IsSl sz L (.d (.sl .ro sz L))
  | full : IsSl sz L (.full sz L)
/-- the same, as data -/
inductive IsD (sz : Nat) (L : List D) : D → Prop
  | nil (s : Nat) (h : L = []) : IsD sz L (.sl .nil s [])
  | ro : IsD sz L (.sl .ro sz L)
theorem IsD.sv {sz : Nat} {L : List D} {x : D} (h : IsD sz L x) : IsSl sz L (.d x) := by
  cases h with
  | nil s h => exact .nil s h
  | ro => exact .ro
theorem IsSl.elems {sz : Nat} {L : List D} {x : SV} (h : IsSl sz L x) : elems sz x = some L ∧ elemsAny x = some L ∧ demote x = x := by
  cases h with
  | nil s h => subst h; exact ⟨rfl, rfl, rfl⟩
  | ro => exact ⟨by simp [Ab.elems], rfl, rfl⟩
  | full => exact ⟨by simp [Ab.elems], rfl, rfl⟩
theorem IsSl.dem {sz : Nat} {L : List D} {x : SV} (h : IsSl sz L x) : demote x = x := h.elems.2.2
theorem IsSl.len {sz : Nat} {L : List D} {x : SV} (h : IsSl sz L x) : lenL x = some (.d (.int .i64 (L.length : Int))) := by
  simp [lenL, h.elems.2.1]
theorem IsSl.at {sz : Nat} {L : List D} {x : SV} (h : IsSl sz L x) {i : Nat} {y : D} (hy : L[i]? = some y) : elemPtr sz x (.d (.int .i64 (i : Int))) = some (.dptr y 0) := by
  have hi : i < L.length := (List.getElem?_eq_some_iff.1 hy).1
  unfold elemPtr
  rw [h.elems.1]
  simp only []
  rw [index_nat hi]
  simp only [hy]
theorem IsSl.cells {sz : Nat} {L : List D} {x : SV} (h : IsSl sz L x) : cellsV x = some [x] := by
  cases h <;> rfl
theorem IsD.len {sz : Nat} {L : List D} {x : D} (h : IsD sz L x) : lenL (.d x) = some (.d (.int .i64 (L.length : Int))) := h.sv.len
theorem IsD.at {sz : Nat} {L : List D} {x : D} (h : IsD sz L x) {i : Nat} {y : D} (hy : L[i]? = some y) : elemPtr sz (.d x) (.d (.int .i64 (i : Int))) = some (.dptr y 0) := h.sv.at hy
theorem load_str (s : List UInt8) : loadV false 1 (.dptr (.str s) 0) = some (.d (.str s)) := rfl
theorem load_intk (k : IntKind) (n : Int) : loadV false 1 (.dptr (.int k n) 0) = some (.d (.int k n)) := rfl
theorem load_agg (cs : List D) (n : Nat) (h : cs.length = n) : loadV true n (.dptr (.agg cs) 0) = some (.d (.agg cs)) := by
  subst h
  have : partD true cs.length 0 cs = some (.agg cs) := by
    simp only [partD, cond_true, Nat.zero_add, Nat.le_refl, ↓reduceIte, List.drop_zero, List.take_length]
  simp only [loadV, D.cells, this]
theorem load_cell (cs : List D) (n : Nat) (y : D) (h : cs[n]? = some y) : loadV false 1 (.dptr (.agg cs) n) = some (.d y) := by
  have : partD false 1 n cs = some y := by simp only [partD, cond_false, h]
  simp only [loadV, D.cells, this]
theorem off_ptr (x : D) (o n : Nat) : addOffV (.dptr x o) n = some (.dptr x (o + n)) := rfl
theorem dem_ptr (x : D) (o : Nat) : demote (.dptr x o) = .dptr x o := rfl

/-- strings, as elements -/
def dStrs (l : List (List UInt8)) : List D := l.map .str
theorem len_strs (l : List (List UInt8)) : (dStrs l).length = l.length := List.length_map ..
theorem at_strs {l : List (List UInt8)} {i : Nat} {s : List UInt8} (h : l[i]? = some s) : (dStrs l)[i]? = some (.str s) := by simp [dStrs, h]
theorem get_some {α : Type} {l : List α} {i : Nat} (h : i < l.length) : ∃ y, l[i]? = some y := ⟨l[i], List.getElem?_eq_getElem h⟩
/-- the first that is so -/
def first {α : Type} (p : α → Bool) : List α → Option Nat
  | [] => none
  | x :: l => if p x then some 0 else (first p l).map (· + 1)
theorem first_at {α : Type} {p : α → Bool} : ∀ {l : List α} {k : Nat} {x : α}, l[k]? = some x → p x = true → (∀ j y, j < k → l[j]? = some y → p y = false) → first p l = some k
  | [], k, x, h, _, _ => by simp at h
  | y :: l, 0, x, h, hp, _ => by simp at h; subst h; simp [first, hp]
  | y :: l, k + 1, x, h, hp, hn => by
    have h0 := hn 0 y (by omega) (by simp)
    rw [first, h0]
    rw [first_at (l := l) (k := k) (by simpa using h) hp (fun j z hj hz => hn (j + 1) z (by omega) (by simpa using hz))]
    rfl
theorem first_none {α : Type} {p : α → Bool} : ∀ {l : List α}, (∀ (j : Nat) y, l[j]? = some y → p y = false) → first p l = none
  | [], _ => rfl
  | y :: l, hn => by
    have h0 := hn 0 y (by simp)
    rw [first, h0, first_none (l := l) (fun j z hz => hn (j + 1) z (by simpa using hz))]
    rfl
theorem first_some {α : Type} {p : α → Bool} : ∀ {l : List α} {k : Nat}, first p l = some k → ∃ x, l[k]? = some x ∧ p x = true ∧ ∀ j y, j < k → l[j]? = some y → p y = false
  | [], k, h => by simp [first] at h
  | y :: l, k, h => by
    rw [first] at h
    by_cases hp : p y = true
    · rw [if_pos hp] at h
      cases h
      exact ⟨y, by simp, hp, fun j _ hj => by omega⟩
    · rw [if_neg hp] at h
      obtain ⟨k', hk', rfl⟩ := Option.map_eq_some_iff.1 h
      obtain ⟨x, h1, h2, h3⟩ := first_some hk'
      refine ⟨x, by simpa using h1, h2, fun j z hj hz => ?_⟩
      cases j with
      | zero => simp at hz; subst hz; simpa using hp
      | succ j => exact h3 j z (by omega) (by simpa using hz)
theorem first_lt {α : Type} {p : α → Bool} {l : List α} {k : Nat} (h : first p l = some k) : k < l.length := by
  obtain ⟨x, h1, _⟩ := first_some h
  exact (List.getElem?_eq_some_iff.1 h1).1
/-- a number, or -1 -/
def orM (o : Option Nat) : Int := match o with | some k => (k : Int) | none => -1
theorem orM_geq (o : Option Nat) : decide (orM o ≥ 0) = o.isSome := by
  cases o with
  | none => decide
  | some k => simp [orM]
theorem orM_neg (o : Option Nat) : decide (orM o < 0) = o.isNone := by
  cases o with
  | none => decide
  | some k => exact decide_eq_false (show ¬ ((k : Int) < 0) by omega)
end Go.Proofs.YtcnnhnjcnekhcaaGreat.Ab
/-
  LISTS OF ARGUMENTS: from cells to typed data.
-/
namespace Go.Proofs.YtcnnhnjcnekhcaaGreat.Ab
open Go
theorem list_of {P : Program} {e : TypeId} {b : Bool} {α : Type} {f : α → D} (h1 : ∀ x, Is P e x → ∃ t, pack b x = f t) : ∀ (L : List (List D)), (∀ x ∈ L, Is P e x) → ∃ l : List α, L.map (pack b) = l.map f ∧ l.length = L.length
  | [], _ => ⟨[], rfl, rfl⟩
  | x :: L, h => by
    obtain ⟨t, ht⟩ := h1 x (h x List.mem_cons_self)
    obtain ⟨l, hl, hn⟩ := list_of h1 L (fun y hy => h y (List.mem_cons_of_mem _ hy))
    exact ⟨t :: l, by rw [List.map_cons, List.map_cons, hl, ht], by simp [hn]⟩
end Go.Proofs.YtcnnhnjcnekhcaaGreat.Ab
/-
  EXPRESSIONS: trees, and the data that stands for them.
-/
namespace Go.Proofs.YtcnnhnjcnekhcaaGreat.Ab
open Go

/-- an expression -/
inductive Xp where
  | mk (op a rel b : Int) (names : List (List UInt8)) (w : Nat → BitVec 64) (kids : List Xp)
def Xp.op : Xp → Int | .mk op _ _ _ _ _ _ => op
def Xp.a : Xp → Int | .mk _ a _ _ _ _ _ => a
def Xp.rel : Xp → Int | .mk _ _ r _ _ _ _ => r
def Xp.b : Xp → Int | .mk _ _ _ b _ _ _ => b
def Xp.names : Xp → List (List UInt8) | .mk _ _ _ _ n _ _ => n
def Xp.w : Xp → Nat → BitVec 64 | .mk _ _ _ _ _ w _ => w
def Xp.kids : Xp → List Xp | .mk _ _ _ _ _ _ k => k
def fEx (op a rel b : Int) (nm : D) (w : Nat → BitVec 64) (kd : D) : List D :=
  [.int .i64 op, .int .i64 a, .int .i64 rel, .int .i64 b, nm, dW (w 0), dW (w 1), dW (w 2), dW (w 3), kd]
def cEx (op a rel b : Int) (nm : D) (w : Nat → BitVec 64) (kd : D) : List SV :=
  [.d (.int .i64 op), .d (.int .i64 a), .d (.int .i64 rel), .d (.int .i64 b), .d nm, .d (dW (w 0)), .d (dW (w 1)), .d (dW (w 2)), .d (dW (w 3)), .d kd]
/-- data that stands for an expression -/
inductive IsE : Xp → D → Prop
  | mk (op a rel b : Int) (names : List (List UInt8)) (w : Nat → BitVec 64) (kids : List Xp) (nm kd : D) (L : List D) (hn : IsD 1 (dStrs names) nm) (hl : L.length = kids.length)
      (hk : ∀ (i : Nat) k y, kids[i]? = some k → L[i]? = some y → IsE k y) (hd : IsD 10 L kd) : IsE (.mk op a rel b names w kids) (.agg (fEx op a rel b nm w kd))

section
variable (op a rel b : Int) (nm : D) (w : Nat → BitVec 64) (kd : D)
theorem cells_ex : cellsV (.d (.agg (fEx op a rel b nm w kd))) = some (cEx op a rel b nm w kd) := rfl
theorem len_cEx : (cEx op a rel b nm w kd).length = 10 := rfl
theorem part_exAll : partV true 10 0 (cEx op a rel b nm w kd) = some (.d (.agg (fEx op a rel b nm w kd))) := rfl
theorem part_ex0 : partV false 1 0 (cEx op a rel b nm w kd) = some (.d (.int .i64 op)) := rfl
theorem part_ex1 : partV false 1 1 (cEx op a rel b nm w kd) = some (.d (.int .i64 a)) := rfl
theorem part_ex2 : partV false 1 2 (cEx op a rel b nm w kd) = some (.d (.int .i64 rel)) := rfl
theorem part_ex3 : partV false 1 3 (cEx op a rel b nm w kd) = some (.d (.int .i64 b)) := rfl
theorem part_ex4 : partV false 1 4 (cEx op a rel b nm w kd) = some (.d nm) := rfl
theorem part_ex5 : partV true 4 5 (cEx op a rel b nm w kd) = some (.d (dSet w)) := rfl
theorem part_ex9 : partV false 1 9 (cEx op a rel b nm w kd) = some (.d kd) := rfl
end
theorem IsE.inv {e : Xp} {x : D} (h : IsE e x) : ∃ nm kd L, x = .agg (fEx e.op e.a e.rel e.b nm e.w kd) ∧ IsD 1 (dStrs e.names) nm ∧ L.length = e.kids.length ∧ IsD 10 L kd ∧
    ∀ (i : Nat) k y, e.kids[i]? = some k → L[i]? = some y → IsE k y := by
  cases h with
  | mk op a rel b names w kids nm kd L hn hl hk hd => exact ⟨nm, kd, L, rfl, hn, hl, hd, hk⟩
theorem parts_nil : partsS [] = some [] := rfl
def zW : Nat → BitVec 64 := fun _ => 0
/-- how deep an expression is -/
def Xp.lv : Xp → Nat
  | .mk _ _ _ _ _ _ kids => lvs kids + 1
where lvs : List Xp → Nat
  | [] => 0
  | k :: l => max k.lv (lvs l)
theorem Xp.lv_eq (e : Xp) : e.lv = Xp.lv.lvs e.kids + 1 := by cases e; rfl
theorem Xp.lvs_get : ∀ {l : List Xp} {i : Nat} {k : Xp}, l[i]? = some k → k.lv ≤ Xp.lv.lvs l
  | [], i, k, h => by simp at h
  | x :: l, 0, k, h => by simp at h; subst h; rw [Xp.lv.lvs]; exact Nat.le_max_left _ _
  | x :: l, i + 1, k, h => by
    rw [Xp.lv.lvs]
    exact Nat.le_trans (Xp.lvs_get (by simpa using h)) (Nat.le_max_right _ _)
theorem Xp.kid_lt {e k : Xp} {i : Nat} (h : e.kids[i]? = some k) : k.lv < e.lv := by
  rw [e.lv_eq]
  have := Xp.lvs_get h
  omega
end Go.Proofs.YtcnnhnjcnekhcaaGreat.Ab
/-
  EXPRESSIONS OF CONSTRAINTS: what the functions compute, in plain terms.
-/
namespace Go.Proofs.YtcnnhnjcnekhcaaGreat.Ab
open Go

def sortI (a : Int) : Int := minD (a.tmod 5) 3
def kidsN (op : Int) : Int := if op == 2 then 1 else if op == 3 then 2 else if op == 4 then 2 else if op == 8 then 0 else if op == 9 then 0 else -1
def lenK (e : Xp) : Int := (e.kids.length : Int)
def lenN (e : Xp) : Int := (e.names.length : Int)
def bareF (e : Xp) (n : Int) : Bool := e.a == 0 && (e.b == 0 && (e.rel == 0 && (eqW e.w zW && (lenN e == 0 && lenK e == n))))
def formF (e : Xp) (named : Bool) : Bool :=
  if e.op == 2 then bareF e 1 else if e.op == 3 then bareF e 2 else if e.op == 4 then bareF e 2
  else if e.op == 8 then eqW e.w zW && (lenN e == 0 && lenK e == 0)
  else if e.op == 9 then e.b == 0 && (e.rel == 0 && (lenK e == 0 && ((named && (eqW e.w zW && decide (lenN e > 0))) || (!named && lenN e == 0))))
  else false
def formE (e : Xp) (named : Bool) : Int := if formF e named then 0 else 2
def fieldsF (e : Xp) (source : Bool) : Bool :=
  if kidsN e.op != lenK e || (e.op != 8 && (e.rel != 0 || e.b != 0)) || (decide (kidsN e.op > 0) && e.a != 0) then false
  else if e.op == 9 && source then eqW e.w zW && decide (lenN e > 0)
  else lenN e == 0 && (e.op == 9 || eqW e.w zW)
def insideF (a lim : Int) : Bool := decide (a ≥ 0) && decide (a < lim)
def meaningF (e : Xp) (lim : Int) : Int :=
  if e.op != 8 && e.op != 9 then 0
  else if !insideF e.a lim || (!insideF e.b lim || (decide (e.rel < 0) || decide (e.rel > 4))) then 3
  else if e.op == 9 && sortI e.a == 3 then 13
  else if e.op == 8 && (sortI e.a != sortI e.b || (decide (e.rel > 1) && !(sortI e.a == 3))) then 13
  else 0
def nodeF (e : Xp) (named : Bool) (lim : Int) : Int := if formF e named then meaningF e lim else 2

theorem fields_form (e : Xp) (s : Bool) : fieldsF e s = formF e s := by
  unfold fieldsF formF bareF kidsN
  by_cases h2 : e.op = 2
  · simp [h2]; grind
  by_cases h3 : e.op = 3
  · simp [h3]; grind
  by_cases h4 : e.op = 4
  · simp [h4]; grind
  by_cases h8 : e.op = 8
  · simp [h8]; grind
  by_cases h9 : e.op = 9
  · simp [h9]; cases s <;> simp <;> grind
  · have : (-1 == lenK e) = false := by
      have : lenK e ≥ 0 := by unfold lenK; omega
      simp; omega
    simp [h2, h3, h4, h8, h9]
    intro h
    exfalso
    unfold lenK at h
    omega
end Go.Proofs.YtcnnhnjcnekhcaaGreat.Ab
/-
  EXPRESSIONS: what goes through all nodes.
-/
namespace Go.Proofs.YtcnnhnjcnekhcaaGreat.Ab
open Go

/-- the first error of the nodes, the nodes of a kid behind the kid -/
def firstF (F : Xp → Int) : Xp → Int
  | .mk op a rel b names w kids => if F (.mk op a rel b names w kids) != 0 then F (.mk op a rel b names w kids) else go kids
where go : List Xp → Int
  | [] => 0
  | k :: l => if firstF F k != 0 then firstF F k else go l
theorem firstF_eq (F : Xp → Int) (e : Xp) : firstF F e = if F e != 0 then F e else firstF.go F e.kids := by cases e; rfl
theorem firsts_take {F : Xp → Int} : ∀ {l : List Xp} {i : Nat} {k : Xp}, l[i]? = some k → firstF.go F (l.take i) = 0 → firstF.go F (l.take (i + 1)) = firstF F k
  | [], i, k, h, _ => by simp at h
  | x :: l, 0, k, h, _ => by simp at h; subst h; simp [firstF.go]; intro h; rw [h]
  | x :: l, i + 1, k, h, h0 => by
    rw [List.take_succ_cons, firstF.go] at h0 ⊢
    by_cases hx : firstF F x = 0
    · rw [if_neg (by simp [hx])] at h0 ⊢
      exact firsts_take (by simpa using h) h0
    · rw [if_pos (by simpa using hx)] at h0
      exact absurd h0 hx
theorem firsts_ne {F : Xp → Int} : ∀ {l : List Xp} {i : Nat}, firstF.go F (l.take i) ≠ 0 → firstF.go F l = firstF.go F (l.take i)
  | [], i, h => by simp
  | x :: l, 0, h => absurd rfl h
  | x :: l, i + 1, h => by
    rw [List.take_succ_cons, firstF.go] at h ⊢
    rw [firstF.go]
    by_cases hx : firstF F x = 0
    · rw [if_neg (by simp [hx])] at h ⊢
      rw [if_neg (by simp [hx])]
      exact firsts_ne h
    · rw [if_pos (by simpa using hx), if_pos (by simpa using hx)]

/-- all nodes are so, and there are at most so many levels -/
def allX (p : Xp → Bool) : Xp → Int → Bool
  | .mk op a rel b names w kids, n => !decide (n ≤ 0) && (p (.mk op a rel b names w kids) && go kids (n - 1))
where go : List Xp → Int → Bool
  | [], _ => true
  | k :: l, n => allX p k n && go l n
theorem allX_eq (p : Xp → Bool) (e : Xp) (n : Int) : allX p e n = (!decide (n ≤ 0) && (p e && allX.go p e.kids (n - 1))) := by cases e; rfl
theorem alls_get {p : Xp → Bool} : ∀ {l : List Xp} {n : Int} {i : Nat} {k : Xp}, allX.go p l n = true → l[i]? = some k → allX p k n = true
  | [], n, i, k, _, h => by simp at h
  | x :: l, n, 0, k, h, hk => by simp at hk; subst hk; rw [allX.go, Bool.and_eq_true] at h; exact h.1
  | x :: l, n, i + 1, k, h, hk => by rw [allX.go, Bool.and_eq_true] at h; exact alls_get h.2 (by simpa using hk)
theorem alls_not {p : Xp → Bool} : ∀ {l : List Xp} {n : Int} {i : Nat} {k : Xp}, l[i]? = some k → allX p k n = false → allX.go p l n = false
  | [], n, i, k, h, _ => by simp at h
  | x :: l, n, 0, k, hk, h => by simp at hk; subst hk; rw [allX.go, h]; rfl
  | x :: l, n, i + 1, k, hk, h => by rw [allX.go, alls_not (l := l) (by simpa using hk) h, Bool.and_false]
theorem alls_all {p : Xp → Bool} : ∀ {l : List Xp} {n : Int}, (∀ (i : Nat) k, l[i]? = some k → allX p k n = true) → allX.go p l n = true
  | [], n, _ => rfl
  | x :: l, n, h => by rw [allX.go, h 0 x (by simp), alls_all (l := l) (fun i k hk => h (i + 1) k (by simpa using hk))]; rfl
theorem lvs_le : ∀ {l : List Xp} {m : Nat}, (∀ (i : Nat) k, l[i]? = some k → k.lv ≤ m) → Xp.lv.lvs l ≤ m
  | [], m, _ => by simp [Xp.lv.lvs]
  | x :: l, m, h => by
    rw [Xp.lv.lvs]
    have h1 := h 0 x (by simp)
    have h2 := lvs_le (l := l) (fun i k hk => h (i + 1) k (by simpa using hk))
    omega
theorem lv_pos (e : Xp) : 1 ≤ e.lv := by rw [e.lv_eq]; omega
theorem allX_lv {p : Xp → Bool} : ∀ (m : Nat) (e : Xp) (n : Int), e.lv ≤ m → allX p e n = true → (e.lv : Int) ≤ n
  | 0, e, n, hm, _ => absurd hm (by have := lv_pos e; omega)
  | m + 1, e, n, hm, h => by
    rw [allX_eq, Bool.and_eq_true, Bool.and_eq_true] at h
    have h0 : ¬ n ≤ 0 := by simpa using h.1
    have : Xp.lv.lvs e.kids ≤ (n - 1).toNat := lvs_le fun i k hk => by
      have h1 := Xp.kid_lt hk
      have := allX_lv m k (n - 1) (by omega) (alls_get h.2.2 hk)
      omega
    rw [e.lv_eq]
    omega
theorem allX_node {p : Xp → Bool} {e : Xp} {n : Int} (h : allX p e n = true) : p e = true := by
  rw [allX_eq, Bool.and_eq_true, Bool.and_eq_true] at h; exact h.2.1
theorem allX_kid {p : Xp → Bool} {e k : Xp} {n : Int} {i : Nat} (h : allX p e n = true) (hk : e.kids[i]? = some k) : allX p k (n - 1) = true := by
  rw [allX_eq, Bool.and_eq_true, Bool.and_eq_true] at h; exact alls_get h.2.2 hk
/-- the first error and the levels, or all nodes -/
theorem allX_first {F : Xp → Int} : ∀ (m : Nat) (e : Xp) (n : Int), e.lv ≤ m → allX (fun e => F e == 0) e n = (decide ((e.lv : Int) ≤ n) && firstF F e == 0)
  | 0, e, n, hm => absurd hm (by have := lv_pos e; omega)
  | m + 1, e, n, hm => by
    have hs : ∀ (l : List Xp), (∀ (i : Nat) k, l[i]? = some k → k.lv ≤ m) → ∀ n : Int, 0 ≤ n → allX.go (fun e => F e == 0) l n = (decide ((Xp.lv.lvs l : Int) ≤ n) && firstF.go F l == 0) := by
      intro l
      induction l with
      | nil => intro _ n hn; simp [allX.go, Xp.lv.lvs, firstF.go, hn]
      | cons k l ih =>
        intro hl n hn
        rw [allX.go, Xp.lv.lvs, firstF.go, allX_first m k n (hl 0 k (by simp)), ih (fun i k hk => hl (i + 1) k (by simpa using hk)) n hn]
        have e1 : decide (((max k.lv (Xp.lv.lvs l) : Nat) : Int) ≤ n) = (decide ((k.lv : Int) ≤ n) && decide ((Xp.lv.lvs l : Int) ≤ n)) := by
          rw [Bool.eq_iff_iff]; simp; omega
        rw [e1]
        by_cases hk : firstF F k = 0
        · simp [hk]
          cases decide ((k.lv : Int) ≤ n) <;> simp
        · have h' : (firstF F k == 0) = false := beq_eq_false_iff_ne.2 hk
          simp [hk, h']
    rw [allX_eq, firstF_eq, e.lv_eq]
    by_cases hn : n ≤ 0
    · have : ¬ ((((Xp.lv.lvs e.kids + 1 : Nat)) : Int) ≤ n) := by omega
      simp [hn]
      omega
    · have e2 : decide ((((Xp.lv.lvs e.kids + 1 : Nat)) : Int) ≤ n) = decide ((Xp.lv.lvs e.kids : Int) ≤ n - 1) := by
        rw [Bool.eq_iff_iff]; simp; omega
      rw [hs e.kids (fun i k hk => by have := Xp.kid_lt hk; omega) (n - 1) (by omega), e2]
      by_cases hF : F e = 0
      · simp [hF, hn]
      · have h' : (F e == 0) = false := beq_eq_false_iff_ne.2 hF
        simp [hF, h', hn]
end Go.Proofs.YtcnnhnjcnekhcaaGreat.Ab
/-
  CASES: three contexts, and the value of an expression.
-/
namespace Go.Proofs.YtcnnhnjcnekhcaaGreat.Ab
open Go

structure CtxD where
  u : Int
  r : Int
  t : Int
  ls : Int
  lc : BitVec 64
  hs : Int
  hc : BitVec 64
structure CaseD where
  f : CtxD
  s : CtxD
  t : CtxD
def dCtx (c : CtxD) : D := .agg [.int .i64 c.u, .int .i64 c.r, .int .i64 c.t, .int .i64 c.ls, dW c.lc, .int .i64 c.hs, dW c.hc]
def cCtx (c : CtxD) : List SV := [.d (.int .i64 c.u), .d (.int .i64 c.r), .d (.int .i64 c.t), .d (.int .i64 c.ls), .d (dW c.lc), .d (.int .i64 c.hs), .d (dW c.hc)]
def dCase (x : CaseD) : D := .agg [.int .i64 x.f.u, .int .i64 x.f.r, .int .i64 x.f.t, .int .i64 x.f.ls, dW x.f.lc, .int .i64 x.f.hs, dW x.f.hc,
  .int .i64 x.s.u, .int .i64 x.s.r, .int .i64 x.s.t, .int .i64 x.s.ls, dW x.s.lc, .int .i64 x.s.hs, dW x.s.hc, .int .i64 x.t.u, .int .i64 x.t.r, .int .i64 x.t.t, .int .i64 x.t.ls, dW x.t.lc, .int .i64 x.t.hs, dW x.t.hc]
def cCase (x : CaseD) : List SV := [.d (.int .i64 x.f.u), .d (.int .i64 x.f.r), .d (.int .i64 x.f.t), .d (.int .i64 x.f.ls), .d (dW x.f.lc), .d (.int .i64 x.f.hs), .d (dW x.f.hc),
  .d (.int .i64 x.s.u), .d (.int .i64 x.s.r), .d (.int .i64 x.s.t), .d (.int .i64 x.s.ls), .d (dW x.s.lc), .d (.int .i64 x.s.hs), .d (dW x.s.hc), .d (.int .i64 x.t.u), .d (.int .i64 x.t.r), .d (.int .i64 x.t.t), .d (.int .i64 x.t.ls), .d (dW x.t.lc), .d (.int .i64 x.t.hs), .d (dW x.t.hc)]
def dLev (l : Int × BitVec 64) : D := .agg [.int .i64 l.1, dW l.2]
def cLev (l : Int × BitVec 64) : List SV := [.d (.int .i64 l.1), .d (dW l.2)]
theorem cells_case (x : CaseD) : cellsV (.d (dCase x)) = some (cCase x) := rfl
theorem len_case (x : CaseD) : (cCase x).length = 21 := rfl
theorem part_case (x : CaseD) : partV true 21 0 (cCase x) = some (.d (dCase x)) := rfl
theorem part_case0 (x : CaseD) : partV true 7 0 (cCase x) = some (.d (dCtx x.f)) := rfl
theorem part_case7 (x : CaseD) : partV true 7 7 (cCase x) = some (.d (dCtx x.s)) := rfl
theorem part_case14 (x : CaseD) : partV true 7 14 (cCase x) = some (.d (dCtx x.t)) := rfl
theorem cells_ctx (x : CtxD) : cellsV (.d (dCtx x)) = some (cCtx x) := rfl
theorem len_ctx (x : CtxD) : (cCtx x).length = 7 := rfl
theorem part_ctx (x : CtxD) : partV true 7 0 (cCtx x) = some (.d (dCtx x)) := rfl
theorem part_ctx0 (x : CtxD) : partV false 1 0 (cCtx x) = some (.d (.int .i64 x.u)) := rfl
theorem part_ctx1 (x : CtxD) : partV false 1 1 (cCtx x) = some (.d (.int .i64 x.r)) := rfl
theorem part_ctx2 (x : CtxD) : partV false 1 2 (cCtx x) = some (.d (.int .i64 x.t)) := rfl
theorem part_ctx3 (x : CtxD) : partV true 2 3 (cCtx x) = some (.d (dLev (x.ls, x.lc))) := rfl
theorem part_ctx5 (x : CtxD) : partV true 2 5 (cCtx x) = some (.d (dLev (x.hs, x.hc))) := rfl
theorem set_ctx (a0 a1 a2 a3 a4 a5 a6 : SV) (x : CtxD) : setAt [a0, a1, a2, a3, a4, a5, a6] 0 (cCtx x) = cCtx x := rfl
theorem cells_lev (l : Int × BitVec 64) : cellsV (.d (dLev l)) = some (cLev l) := rfl
theorem len_lev (l : Int × BitVec 64) : (cLev l).length = 2 := rfl
theorem part_lev (l : Int × BitVec 64) : partV true 2 0 (cLev l) = some (.d (dLev l)) := rfl
theorem part_lev0 (l : Int × BitVec 64) : partV false 1 0 (cLev l) = some (.d (.int .i64 l.1)) := rfl
theorem part_lev1 (l : Int × BitVec 64) : partV false 1 1 (cLev l) = some (.d (dW l.2)) := rfl
theorem set_lev (a0 a1 : SV) (l : Int × BitVec 64) : setAt [a0, a1] 0 (cLev l) = cLev l := rfl
def dRng (x : CtxD) : D := .agg [.int .i64 x.ls, dW x.lc, .int .i64 x.hs, dW x.hc]
theorem field_rng (x : CtxD) : fieldV true 4 3 (.d (dCtx x)) = some (.d (dRng x)) := rfl
theorem field_lo (x : CtxD) : fieldV true 2 0 (.d (dRng x)) = some (.d (dLev (x.ls, x.lc))) := rfl
theorem field_hi (x : CtxD) : fieldV true 2 2 (.d (dRng x)) = some (.d (dLev (x.hs, x.hc))) := rfl
def eqL (a b : Int × BitVec 64) : Bool := a.1 == b.1 && (a.2 == b.2 && true)
theorem eql_lev (a b : Int × BitVec 64) : binV (some (true, [.int, .int])) .eql (.d (dLev a)) (.d (dLev b)) = some (.d (.bool (eqL a b))) := by
  simp only [binV, binD, dLev, ckOk, dW, Bool.and_self, cond_true, eqCells, eqScal, ↓reduceIte, dW_inj, eqL]
theorem neq_lev (a b : Int × BitVec 64) : binV (some (true, [.int, .int])) .neq (.d (dLev a)) (.d (dLev b)) = some (.d (.bool (!eqL a b))) := by
  simp only [binV, binD, dLev, ckOk, dW, Bool.and_self, cond_true, eqCells, eqScal, ↓reduceIte, dW_inj, eqL]

def partF (c : CaseD) (a : Int) : CtxD := if a.tdiv 5 == 0 then c.f else if a.tdiv 5 == 1 then c.s else c.t
def nameF (c : CaseD) (a : Int) : Int := if sortI a == 0 then (partF c a).u else if sortI a == 1 then (partF c a).r else (partF c a).t
def levF (c : CaseD) (a : Int) : Int × BitVec 64 := if a.tmod 5 == 4 then ((partF c a).hs, (partF c a).hc) else ((partF c a).ls, (partF c a).lc)
def domF (a b : Int × BitVec 64) : Bool := decide (a.1 ≥ b.1) && (a.2 &&& b.2 == b.2)
def relF (a b : Int × BitVec 64) : Int := if eqL a b then 0 else if domF a b then 2 else if domF b a then 3 else 4
def cmpF (e : Xp) (c : CaseD) : Bool :=
  if sortI e.a != 3 then ((nameF c e.a == nameF c e.b) == (e.rel == 0))
  else if e.rel == 1 then relF (levF c e.a) (levF c e.b) != 0
  else if e.rel == 2 || e.rel == 3 then (relF (levF c e.a) (levF c e.b) == 0 || relF (levF c e.a) (levF c e.b) == e.rel)
  else relF (levF c e.a) (levF c e.b) == e.rel
def hasN (w : Nat → BitVec 64) (n : Int) : Bool := decide (0 ≤ n) && decide (n < 256) && hasW w n.toNat
/-- the value of a well-formed expression -/
def valF (c : CaseD) : Xp → Bool
  | .mk op a rel b names w kids =>
    if op == 2 then !((go kids).getD 0 false)
    else if op == 3 then (go kids).getD 0 false && (go kids).getD 1 false
    else if op == 4 then (go kids).getD 0 false || (go kids).getD 1 false
    else if op == 9 then hasN w (nameF c a)
    else cmpF (.mk op a rel b names w kids) c
where go : List Xp → List Bool
  | [] => []
  | k :: l => valF c k :: go l
theorem valF_eq (c : CaseD) (e : Xp) : valF c e = if e.op == 2 then !((valF.go c e.kids).getD 0 false)
    else if e.op == 3 then (valF.go c e.kids).getD 0 false && (valF.go c e.kids).getD 1 false
    else if e.op == 4 then (valF.go c e.kids).getD 0 false || (valF.go c e.kids).getD 1 false
    else if e.op == 9 then hasN e.w (nameF c e.a)
    else cmpF e c := by cases e; rfl
theorem vals_get {c : CaseD} : ∀ {l : List Xp} {i : Nat} {k : Xp}, l[i]? = some k → (valF.go c l).getD i false = valF c k
  | [], i, k, h => by simp at h
  | x :: l, 0, k, h => by simp at h; subst h; rfl
  | x :: l, i + 1, k, h => by
    rw [valF.go, List.getD_cons_succ]
    exact vals_get (by simpa using h)
theorem dom_bits (x y : BitVec 64) : (x &&& y == y) = true ↔ ∀ n, n < 64 → y.getLsbD n = true → x.getLsbD n = true := by
  rw [beq_iff_eq]
  constructor
  · intro h n hn hy
    have := congrArg (fun z => z.getLsbD n) h
    simp only [BitVec.getLsbD_and] at this
    rw [hy, Bool.and_true] at this
    exact this
  · intro h
    apply BitVec.eq_of_getLsbD_eq
    intro i hi
    rw [BitVec.getLsbD_and]
    cases hy : y.getLsbD i with
    | false => simp
    | true => rw [h i hi hy]; rfl

/-- what a node that is well-formed is -/
theorem node_ok {e : Xp} (h : nodeF e false 15 = 0) : (e.op = 2 ∧ e.kids.length = 1) ∨ (e.op = 3 ∧ e.kids.length = 2) ∨ (e.op = 4 ∧ e.kids.length = 2) ∨
    (e.op = 9 ∧ 0 ≤ e.a ∧ e.a < 15 ∧ sortI e.a ≠ 3) ∨ (e.op = 8 ∧ 0 ≤ e.a ∧ e.a < 15 ∧ 0 ≤ e.b ∧ e.b < 15 ∧ 0 ≤ e.rel ∧ e.rel ≤ 4 ∧ sortI e.a = sortI e.b ∧ (e.rel ≤ 1 ∨ sortI e.a = 3)) := by
  unfold nodeF at h
  by_cases hf : formF e false = true
  · rw [if_pos hf] at h
    unfold formF bareF lenK at hf
    unfold meaningF insideF at h
    by_cases h2 : e.op = 2
    · simp [h2] at hf; left; exact ⟨h2, by omega⟩
    by_cases h3 : e.op = 3
    · simp [h3] at hf; right; left; exact ⟨h3, by omega⟩
    by_cases h4 : e.op = 4
    · simp [h4] at hf; right; right; left; exact ⟨h4, by omega⟩
    by_cases h8 : e.op = 8
    · right; right; right; right
      clear hf
      simp [h8] at h
      grind
    by_cases h9 : e.op = 9
    · right; right; right; left
      clear hf
      simp [h9] at h
      grind
    · simp [h2, h3, h4, h8, h9] at hf
  · rw [if_neg hf] at h; cases h
end Go.Proofs.YtcnnhnjcnekhcaaGreat.Ab
/-
  EXPRESSIONS: what mentions an attribute; values do not depend on what is not mentioned.
-/
namespace Go.Proofs.YtcnnhnjcnekhcaaGreat.Ab
open Go
/-- does an expression mention an attribute -/
def menF (t : Int) : Xp → Bool
  | .mk op a rel b names w kids => ((op == 8 && (a == t || b == t)) || (op == 9 && a == t)) || go kids
where go : List Xp → Bool
  | [] => false
  | k :: l => menF t k || go l
def men1 (t : Int) (e : Xp) : Bool := (e.op == 8 && (e.a == t || e.b == t)) || (e.op == 9 && e.a == t)
theorem menF_eq (t : Int) (e : Xp) : menF t e = (men1 t e || menF.go t e.kids) := by cases e; rfl
theorem mens_get {t : Int} : ∀ {l : List Xp} {i : Nat} {k : Xp}, l[i]? = some k → menF t k = true → menF.go t l = true
  | [], i, k, h, _ => by simp at h
  | x :: l, 0, k, h, hk => by simp at h; subst h; rw [menF.go, hk, Bool.true_or]
  | x :: l, i + 1, k, h, hk => by rw [menF.go, mens_get (l := l) (by simpa using h) hk, Bool.or_true]
theorem mens_none {t : Int} : ∀ {l : List Xp}, (∀ (i : Nat) k, l[i]? = some k → menF t k = false) → menF.go t l = false
  | [], _ => rfl
  | x :: l, h => by rw [menF.go, h 0 x (by simp), mens_none (l := l) (fun i k hk => h (i + 1) k (by simpa using hk))]; rfl
theorem mens_first {t : Int} {l : List Xp} : (first (menF t) l).isSome = menF.go t l := by
  cases h : first (menF t) l with
  | none =>
    rw [mens_none]
    · rfl
    · intro i k hk
      have hall : ∀ (l : List Xp), first (menF t) l = none → ∀ (i : Nat) k, l[i]? = some k → menF t k = false := by
        intro l
        induction l with
        | nil => intro _ i k hk; simp at hk
        | cons x l ih =>
          intro h i k hk
          rw [first] at h
          by_cases hx : menF t x = true
          · rw [if_pos hx] at h; cases h
          · rw [if_neg hx] at h
            cases i with
            | zero => simp at hk; subst hk; simpa using hx
            | succ i => exact ih (by simpa using h) i k (by simpa using hk)
      exact hall l h i k hk
  | some j =>
    obtain ⟨x, h1, h2, _⟩ := first_some h
    rw [mens_get h1 h2]
    rfl
theorem men_kid {t : Int} {e k : Xp} {i : Nat} (h : menF t e = false) (hk : e.kids[i]? = some k) : menF t k = false := by
  rw [menF_eq, Bool.or_eq_false_iff] at h
  cases hm : menF t k with
  | false => rfl
  | true => rw [mens_get hk hm] at h; cases h.2
theorem cmpF_same {e : Xp} {c c' : CaseD} (ha : sortI e.a ≠ 3 → nameF c e.a = nameF c' e.a) (hb : sortI e.b ≠ 3 → nameF c e.b = nameF c' e.b) (hla : sortI e.a = 3 → levF c e.a = levF c' e.a)
    (hlb : sortI e.b = 3 → levF c e.b = levF c' e.b) (hs : sortI e.a = sortI e.b) : cmpF e c = cmpF e c' := by
  by_cases h : sortI e.a = 3
  · unfold cmpF
    have hn : ¬ (sortI e.a != 3) = true := by simp [h]
    rw [hla h, hlb (by rw [← hs]; exact h), if_neg hn, if_neg hn]
  · unfold cmpF
    rw [ha h, hb (by rw [← hs]; exact h), if_pos (by simpa using h), if_pos (by simpa using h)]
/-- two cases that agree but for an attribute -/
theorem valF_same {t : Int} {c c' : CaseD} (hag : ∀ a, 0 ≤ a → a < 15 → a ≠ t → (sortI a ≠ 3 → nameF c a = nameF c' a) ∧ (sortI a = 3 → levF c a = levF c' a)) :
    ∀ (n : Nat) (e : Xp) (m : Int), e.lv ≤ n → allX (fun e => nodeF e false 15 == 0) e m = true → menF t e = false → valF c e = valF c' e
  | 0, e, _, hn, _, _ => absurd hn (by have := lv_pos e; omega)
  | n + 1, e, m, hn, hok, hmen => by
    have hnode : nodeF e false 15 = 0 := by have := allX_node hok; simpa using this
    have ih := fun (i : Nat) k (hky : e.kids[i]? = some k) => valF_same hag n k (m - 1) (by have := Xp.kid_lt hky; omega) (allX_kid hok hky) (men_kid hmen hky)
    have h1 : men1 t e = false := by rw [menF_eq, Bool.or_eq_false_iff] at hmen; exact hmen.1
    rw [valF_eq, valF_eq]
    rcases node_ok hnode with ⟨hop, h⟩ | ⟨hop, h⟩ | ⟨hop, h⟩ | ⟨hop, h⟩ | ⟨hop, h⟩ <;> rw [hop]
    · obtain ⟨k0, hk0⟩ := get_some (show 0 < e.kids.length by omega)
      rw [if_pos (by decide), if_pos (by decide), vals_get hk0, vals_get hk0, ih 0 k0 hk0]
    · obtain ⟨k0, hk0⟩ := get_some (show 0 < e.kids.length by omega)
      obtain ⟨k1, hk1⟩ := get_some (show 1 < e.kids.length by omega)
      rw [vals_get hk0, vals_get hk0, ih 0 k0 hk0, vals_get hk1, vals_get hk1, ih 1 k1 hk1]
      rfl
    · obtain ⟨k0, hk0⟩ := get_some (show 0 < e.kids.length by omega)
      obtain ⟨k1, hk1⟩ := get_some (show 1 < e.kids.length by omega)
      rw [vals_get hk0, vals_get hk0, ih 0 k0 hk0, vals_get hk1, vals_get hk1, ih 1 k1 hk1]
      rfl
    · rw [men1, hop] at h1
      have ha : e.a ≠ t := by simpa using h1
      rw [(hag e.a h.1 h.2.1 ha).1 h.2.2]
      rfl
    · rw [men1, hop] at h1
      have hab : e.a ≠ t ∧ e.b ≠ t := by simpa using h1
      have ga := hag e.a h.1 h.2.1 hab.1
      have gb := hag e.b h.2.2.1 h.2.2.2.1 hab.2
      rw [cmpF_same ga.1 gb.1 ga.2 gb.2 h.2.2.2.2.2.2.1]
      rfl
/-- a context in which one attribute has another value -/
def chgF (x : CtxD) (j : Int) (o : CtxD) : CtxD :=
  if j == 0 then { x with u := o.u } else if j == 1 then { x with r := o.r } else if j == 2 then { x with t := o.t } else if j == 3 then { x with ls := o.ls, lc := o.lc } else { x with hs := o.hs, hc := o.hc }
def chgC (c o : CaseD) (t : Int) : CaseD :=
  if t.tdiv 5 == 0 then { c with f := chgF c.f (t.tmod 5) o.f } else if t.tdiv 5 == 1 then { c with s := chgF c.s (t.tmod 5) o.s } else { c with t := chgF c.t (t.tmod 5) o.t }
theorem chg_name {x o : CtxD} {a j : Int} (hj : 0 ≤ j) (ha : 0 ≤ a) (h : a.tmod 5 ≠ j) (hs : sortI a ≠ 3) : (if sortI a == 0 then (chgF x j o).u else if sortI a == 1 then (chgF x j o).r else (chgF x j o).t) = (if sortI a == 0 then x.u else if sortI a == 1 then x.r else x.t) := by
  have h3 : (a.tmod 5 = 0 ∧ sortI a = 0) ∨ (a.tmod 5 = 1 ∧ sortI a = 1) ∨ (a.tmod 5 = 2 ∧ sortI a = 2) := by
    have h2 : 0 ≤ a.tmod 5 := Int.tmod_nonneg _ ha
    have h3 : a.tmod 5 < 5 := Int.tmod_lt_of_pos _ (by decide)
    unfold sortI minD at *
    split at hs
    · exact absurd rfl hs
    · rw [if_neg (by assumption)]
      omega
  unfold chgF
  rcases h3 with ⟨h1, h2⟩ | ⟨h1, h2⟩ | ⟨h1, h2⟩ <;> rw [h1] at h <;> rw [h2] <;> (repeat' split) <;> simp_all
theorem chg_lev {x o : CtxD} {a j : Int} (hj : 0 ≤ j) (hj5 : j < 5) (ha : 0 ≤ a) (h : a.tmod 5 ≠ j) (hs : sortI a = 3) : (if a.tmod 5 == 4 then ((chgF x j o).hs, (chgF x j o).hc) else ((chgF x j o).ls, (chgF x j o).lc)) = (if a.tmod 5 == 4 then (x.hs, x.hc) else (x.ls, x.lc)) := by
  have h3 : a.tmod 5 = 3 ∨ a.tmod 5 = 4 := by
    have h2 : 0 ≤ a.tmod 5 := Int.tmod_nonneg _ ha
    have h3 : a.tmod 5 < 5 := Int.tmod_lt_of_pos _ (by decide)
    unfold sortI minD at hs
    split at hs <;> omega
  unfold chgF
  rcases h3 with h1 | h1 <;> rw [h1] at h <;> rw [h1] <;> (repeat' split) <;> simp_all <;> omega
theorem chg_agree (c o : CaseD) {t : Int} (ht0 : 0 ≤ t) (ht1 : t < 15) : ∀ a, 0 ≤ a → a < 15 → a ≠ t → (sortI a ≠ 3 → nameF (chgC c o t) a = nameF c a) ∧ (sortI a = 3 → levF (chgC c o t) a = levF c a) := by
  intro a h0 h1 hne
  have e1 : a = 5 * a.tdiv 5 + a.tmod 5 := (Int.mul_tdiv_add_tmod a 5).symm
  have e2 : t = 5 * t.tdiv 5 + t.tmod 5 := (Int.mul_tdiv_add_tmod t 5).symm
  have g1 : 0 ≤ t.tmod 5 := Int.tmod_nonneg _ ht0
  have g2 : t.tmod 5 < 5 := Int.tmod_lt_of_pos _ (by decide)
  have g3 : 0 ≤ a.tmod 5 := Int.tmod_nonneg _ h0
  have g4 : a.tmod 5 < 5 := Int.tmod_lt_of_pos _ (by decide)
  have g5 : 0 ≤ t.tdiv 5 := Int.tdiv_nonneg ht0 (by decide)
  have g6 : 0 ≤ a.tdiv 5 := Int.tdiv_nonneg h0 (by decide)
  have key : partF (chgC c o t) a = partF c a ∨ (a.tmod 5 ≠ t.tmod 5 ∧ ∃ x, partF (chgC c o t) a = chgF (partF c a) (t.tmod 5) x) := by
    by_cases hq : a.tdiv 5 = t.tdiv 5
    · right
      refine ⟨by omega, ?_⟩
      unfold partF chgC
      rw [hq]
      by_cases q0 : t.tdiv 5 = 0
      · rw [if_pos (by simp [q0]), if_pos (by simp [q0]), if_pos (by simp [q0])]; exact ⟨_, rfl⟩
      · by_cases q1 : t.tdiv 5 = 1
        · rw [if_neg (by simp [q0]), if_pos (by simp [q1]), if_neg (by simp [q0]), if_pos (by simp [q1]), if_neg (by simp [q0]), if_pos (by simp [q1])]; exact ⟨_, rfl⟩
        · rw [if_neg (by simp [q0]), if_neg (by simp [q1]), if_neg (by simp [q0]), if_neg (by simp [q1]), if_neg (by simp [q0]), if_neg (by simp [q1])]; exact ⟨_, rfl⟩
    · left
      have b1 : a.tdiv 5 < 3 := by omega
      have b2 : t.tdiv 5 < 3 := by omega
      have hc : a.tdiv 5 = 0 ∨ a.tdiv 5 = 1 ∨ a.tdiv 5 = 2 := by omega
      have hd : t.tdiv 5 = 0 ∨ t.tdiv 5 = 1 ∨ t.tdiv 5 = 2 := by omega
      unfold partF chgC
      rcases hc with q | q | q <;> rcases hd with r | r | r <;> rw [q, r] <;> first | rfl | (exfalso; omega)
  rcases key with k | ⟨hm, x, k⟩
  · exact ⟨fun _ => by rw [nameF, nameF, k], fun _ => by rw [levF, levF, k]⟩
  · exact ⟨fun hs => by rw [nameF, nameF, k]; exact chg_name g1 h0 hm hs, fun hs => by rw [levF, levF, k]; exact chg_lev g1 g2 h0 hm hs⟩
end Go.Proofs.YtcnnhnjcnekhcaaGreat.Ab
/-
  EXPRESSIONS: operators, and the relations of levels.
-/
namespace Go.Proofs.YtcnnhnjcnekhcaaGreat.Ab
open Go
def okX (e : Xp) : Bool := nodeF e false 15 == 0
def evF (e : Xp) (c : CaseD) : Bool := allX okX e 12 && valF c e
theorem okX_first (e : Xp) (n : Int) : allX okX e n = (decide ((e.lv : Int) ≤ n) && firstF (fun e => nodeF e false 15) e == 0) := allX_first e.lv e n (Nat.le_refl _)
theorem okX_up {e : Xp} (h : allX okX e 11 = true) : allX okX e 12 = true := by
  rw [okX_first, Bool.and_eq_true] at *
  refine ⟨decide_eq_true ?_, h.2⟩
  have := of_decide_eq_true h.1
  omega
def xNot (a : Xp) : Xp := .mk 2 0 0 0 [] zW [a]
def xAnd (a b : Xp) : Xp := .mk 3 0 0 0 [] zW [a, b]
def xOr (a b : Xp) : Xp := .mk 4 0 0 0 [] zW [a, b]
def xLev (i : Int) : Xp := .mk 8 3 i 9 [] zW []
theorem eqW_zW : eqW zW zW = true := by decide
theorem ev_not {a : Xp} (c : CaseD) (h : allX okX a 11 = true) : evF (xNot a) c = !evF a c := by
  have h1 : okX (xNot a) = true := by simp [okX, xNot, nodeF, formF, bareF, Xp.op, Xp.a, Xp.b, Xp.rel, Xp.w, lenN, lenK, Xp.names, Xp.kids, eqW_zW, meaningF]
  have h2 : allX okX (xNot a) 12 = true := by
    rw [allX_eq, h1]
    show (!decide ((12 : Int) ≤ 0) && (true && (allX okX a (12 - 1) && true))) = true
    rw [show (12 : Int) - 1 = 11 from rfl, h]
    rfl
  rw [evF, evF, h2, okX_up h, Bool.true_and, Bool.true_and]
  rfl
theorem ev_two {a b : Xp} (c : CaseD) (op : Int) (hop : op = 3 ∨ op = 4) (ha : allX okX a 11 = true) (hb : allX okX b 11 = true) : allX okX (.mk op 0 0 0 [] zW [a, b]) 12 = true := by
  have h1 : okX (.mk op 0 0 0 [] zW [a, b]) = true := by
    rcases hop with rfl | rfl <;> simp [okX, nodeF, formF, bareF, Xp.op, Xp.a, Xp.b, Xp.rel, Xp.w, lenN, lenK, Xp.names, Xp.kids, eqW_zW, meaningF]
  rw [allX_eq, h1]
  show (!decide ((12 : Int) ≤ 0) && (true && (allX okX a (12 - 1) && (allX okX b (12 - 1) && true)))) = true
  rw [show (12 : Int) - 1 = 11 from rfl, ha, hb]
  rfl
theorem ev_and {a b : Xp} (c : CaseD) (ha : allX okX a 11 = true) (hb : allX okX b 11 = true) : evF (xAnd a b) c = (evF a c && evF b c) := by
  rw [evF, evF, evF, xAnd, ev_two c 3 (.inl rfl) ha hb, okX_up ha, okX_up hb, Bool.true_and, Bool.true_and, Bool.true_and]
  rfl
theorem ev_or {a b : Xp} (c : CaseD) (ha : allX okX a 11 = true) (hb : allX okX b 11 = true) : evF (xOr a b) c = (evF a c || evF b c) := by
  rw [evF, evF, evF, xOr, ev_two c 4 (.inr rfl) ha hb, okX_up ha, okX_up hb, Bool.true_and, Bool.true_and, Bool.true_and]
  rfl
theorem ev_lev (i : Nat) (hi : i < 5) (c : CaseD) : evF (xLev (i : Int)) c = cmpF (xLev (i : Int)) c := by
  have h1 : okX (xLev (i : Int)) = true := by
    match i, hi with
    | 0, _ => decide
    | 1, _ => decide
    | 2, _ => decide
    | 3, _ => decide
    | 4, _ => decide
  have h2 : allX okX (xLev (i : Int)) 12 = true := by
    rw [allX_eq, h1]
    rfl
  rw [evF, h2, Bool.true_and, valF_eq]
  rfl
theorem rel_cases (p q : Int × BitVec 64) : relF p q = 0 ∨ relF p q = 2 ∨ relF p q = 3 ∨ relF p q = 4 := by
  unfold relF
  repeat' split
  all_goals simp
theorem cmp_lev (i : Int) (c : CaseD) : cmpF (xLev i) c = (if i == 1 then relF (levF c 3) (levF c 9) != 0 else if i == 2 || i == 3 then (relF (levF c 3) (levF c 9) == 0 || relF (levF c 3) (levF c 9) == i) else relF (levF c 3) (levF c 9) == i) := rfl
def vLev (c : CaseD) (i : Nat) : Bool := evF (xLev (i : Int)) c
/-- relations of levels exclude and imply each other -/
theorem lev_laws (c : CaseD) : (vLev c 0 = (vLev c 2 && vLev c 3)) ∧ (vLev c 1 = !vLev c 0) ∧ (vLev c 4 = (!vLev c 2 && !vLev c 3)) := by
  unfold vLev
  rw [ev_lev 0 (by decide), ev_lev 1 (by decide), ev_lev 2 (by decide), ev_lev 3 (by decide), ev_lev 4 (by decide)]
  simp only [cmp_lev]
  have hR := rel_cases (levF c 3) (levF c 9)
  generalize relF (levF c 3) (levF c 9) = R at *
  rcases hR with h | h | h | h <;> rw [h] <;> decide
end Go.Proofs.YtcnnhnjcnekhcaaGreat.Ab
/-
  STEPS TOGETHER: lemmas that are used as one.
-/
namespace Go.Proofs.YtcnnhnjcnekhcaaGreat.Ab
open Go
theorem sS : ((((((∀ (x : D), demote (SV.d x) = SV.d x) ∧ ((∀ (x : D) (o : Nat), demote (SV.dptr x o) = SV.dptr x o) ∧ (∀ {α : Type} (x : α) (k : α → Prop), bindO (some x) k = k x))) ∧ ((∀ (x : D), SV.noRef (SV.d x) = true) ∧ ((∀ (b : Bool) (A B : Prop), ifP (SV.d (D.bool b)) A B ↔ (b = true → A) ∧ (b = false → B)) ∧ (∀ (A B : Prop), ifP (SV.d (D.bool true)) A B = A)))) ∧ (((∀ (A B : Prop), ifP (SV.d (D.bool false)) A B = B) ∧ ((∀ (k : IntKind) (m n : Int), binV (some (false, [CK.int])) BinOp.eql (SV.d (D.int k m)) (SV.d (D.int k n)) = some (SV.d (D.bool (m == n)))) ∧ (∀ (k : IntKind) (m n : Int), binV (some (false, [CK.int])) BinOp.neq (SV.d (D.int k m)) (SV.d (D.int k n)) = some (SV.d (D.bool (m != n)))))) ∧ (((∀ (k : IntKind) (m n : Int), binV none BinOp.lss (SV.d (D.int k m)) (SV.d (D.int k n)) = some (SV.d (D.bool (decide (m < n))))) ∧ (∀ (k : IntKind) (m n : Int), binV none BinOp.leq (SV.d (D.int k m)) (SV.d (D.int k n)) = some (SV.d (D.bool (decide (m ≤ n)))))) ∧ ((∀ (k : IntKind) (m n : Int), binV none BinOp.gtr (SV.d (D.int k m)) (SV.d (D.int k n)) = some (SV.d (D.bool (decide (m > n))))) ∧ (∀ (k : IntKind) (m n : Int), binV none BinOp.geq (SV.d (D.int k m)) (SV.d (D.int k n)) = some (SV.d (D.bool (decide (m ≥ n))))))))) ∧ ((((∀ (b : Bool), unV UnOp.not (SV.d (D.bool b)) = some (SV.d (D.bool !b))) ∧ ((∀ (a b : Bool), binV (some (false, [CK.bool])) BinOp.eql (SV.d (D.bool a)) (SV.d (D.bool b)) = some (SV.d (D.bool (a == b)))) ∧ (∀ (a b : Bool), binV (some (false, [CK.bool])) BinOp.neq (SV.d (D.bool a)) (SV.d (D.bool b)) = some (SV.d (D.bool (a != b)))))) ∧ (((∀ (w v : Nat → BitVec 64), binV (some (true, [CK.int, CK.int, CK.int, CK.int])) BinOp.eql (SV.d (dSet w)) (SV.d (dSet v)) = some (SV.d (D.bool (eqW w v)))) ∧ (∀ (w v : Nat → BitVec 64), binV (some (true, [CK.int, CK.int, CK.int, CK.int])) BinOp.neq (SV.d (dSet w)) (SV.d (dSet v)) = some (SV.d (D.bool !eqW w v)))) ∧ ((∀ (op a rel b : Int) (nm : D) (w : Nat → BitVec 64) (kd : D), cellsV (SV.d (D.agg (fEx op a rel b nm w kd))) = some (cEx op a rel b nm w kd)) ∧ (∀ (op a rel b : Int) (nm : D) (w : Nat → BitVec 64) (kd : D), List.length (cEx op a rel b nm w kd) = 10)))) ∧ (((∀ (op a rel b : Int) (nm : D) (w : Nat → BitVec 64) (kd : D), partV true 10 0 (cEx op a rel b nm w kd) = some (SV.d (D.agg (fEx op a rel b nm w kd)))) ∧ ((∀ (op a rel b : Int) (nm : D) (w : Nat → BitVec 64) (kd : D), partV false 1 0 (cEx op a rel b nm w kd) = some (SV.d (D.int IntKind.i64 op))) ∧ (∀ (op a rel b : Int) (nm : D) (w : Nat → BitVec 64) (kd : D), partV false 1 1 (cEx op a rel b nm w kd) = some (SV.d (D.int IntKind.i64 a))))) ∧ (((∀ (op a rel b : Int) (nm : D) (w : Nat → BitVec 64) (kd : D), partV false 1 2 (cEx op a rel b nm w kd) = some (SV.d (D.int IntKind.i64 rel))) ∧ (∀ (op a rel b : Int) (nm : D) (w : Nat → BitVec 64) (kd : D), partV false 1 3 (cEx op a rel b nm w kd) = some (SV.d (D.int IntKind.i64 b)))) ∧ ((∀ (op a rel b : Int) (nm : D) (w : Nat → BitVec 64) (kd : D), partV false 1 4 (cEx op a rel b nm w kd) = some (SV.d nm)) ∧ (∀ (op a rel b : Int) (nm : D) (w : Nat → BitVec 64) (kd : D), partV true 4 5 (cEx op a rel b nm w kd) = some (SV.d (dSet w)))))))) ∧ (((((∀ (op a rel b : Int) (nm : D) (w : Nat → BitVec 64) (kd : D), partV false 1 9 (cEx op a rel b nm w kd) = some (SV.d kd)) ∧ ((partsS [] = some []) ∧ (∀ (x : CaseD), cellsV (SV.d (dCase x)) = some (cCase x)))) ∧ (((∀ (x : CaseD), List.length (cCase x) = 21) ∧ (∀ (x : CaseD), partV true 21 0 (cCase x) = some (SV.d (dCase x)))) ∧ ((∀ (x : CaseD), partV true 7 0 (cCase x) = some (SV.d (dCtx (CaseD.f x)))) ∧ (∀ (x : CaseD), partV true 7 7 (cCase x) = some (SV.d (dCtx (CaseD.s x))))))) ∧ (((∀ (x : CaseD), partV true 7 14 (cCase x) = some (SV.d (dCtx (CaseD.t x)))) ∧ ((∀ (x : CtxD), cellsV (SV.d (dCtx x)) = some (cCtx x)) ∧ (∀ (x : CtxD), List.length (cCtx x) = 7))) ∧ (((∀ (x : CtxD), partV true 7 0 (cCtx x) = some (SV.d (dCtx x))) ∧ (∀ (x : CtxD), partV false 1 0 (cCtx x) = some (SV.d (D.int IntKind.i64 (CtxD.u x))))) ∧ ((∀ (x : CtxD), partV false 1 1 (cCtx x) = some (SV.d (D.int IntKind.i64 (CtxD.r x)))) ∧ (∀ (x : CtxD), partV false 1 2 (cCtx x) = some (SV.d (D.int IntKind.i64 (CtxD.t x)))))))) ∧ ((((∀ (x : CtxD), partV true 2 3 (cCtx x) = some (SV.d (dLev (CtxD.ls x, CtxD.lc x)))) ∧ ((∀ (x : CtxD), partV true 2 5 (cCtx x) = some (SV.d (dLev (CtxD.hs x, CtxD.hc x)))) ∧ (∀ (a0 a1 a2 a3 a4 a5 a6 : SV) (x : CtxD), setAt [a0, a1, a2, a3, a4, a5, a6] 0 (cCtx x) = cCtx x))) ∧ (((∀ (l : Int × BitVec 64), cellsV (SV.d (dLev l)) = some (cLev l)) ∧ (∀ (l : Int × BitVec 64), List.length (cLev l) = 2)) ∧ ((∀ (l : Int × BitVec 64), partV true 2 0 (cLev l) = some (SV.d (dLev l))) ∧ (∀ (l : Int × BitVec 64), partV false 1 0 (cLev l) = some (SV.d (D.int IntKind.i64 (Prod.fst l))))))) ∧ (((∀ (l : Int × BitVec 64), partV false 1 1 (cLev l) = some (SV.d (dW (Prod.snd l)))) ∧ ((∀ (a0 a1 : SV) (l : Int × BitVec 64), setAt [a0, a1] 0 (cLev l) = cLev l) ∧ (∀ (x : CtxD), fieldV true 4 3 (SV.d (dCtx x)) = some (SV.d (dRng x))))) ∧ (((∀ (x : CtxD), fieldV true 2 0 (SV.d (dRng x)) = some (SV.d (dLev (CtxD.ls x, CtxD.lc x)))) ∧ (∀ (x : CtxD), fieldV true 2 2 (SV.d (dRng x)) = some (SV.d (dLev (CtxD.hs x, CtxD.hc x))))) ∧ ((∀ (a b : Int × BitVec 64), binV (some (true, [CK.int, CK.int])) BinOp.eql (SV.d (dLev a)) (SV.d (dLev b)) = some (SV.d (D.bool (eqL a b)))) ∧ (∀ (a b : Int × BitVec 64), binV (some (true, [CK.int, CK.int])) BinOp.neq (SV.d (dLev a)) (SV.d (dLev b)) = some (SV.d (D.bool !eqL a b))))))))) := ⟨⟨⟨⟨⟨@demote_d, ⟨@dem_ptr, @bindO_some'⟩⟩, ⟨@noRef_d, ⟨@ifP_dec, @ifP_true⟩⟩⟩, ⟨⟨@ifP_false, ⟨@eql_int, @neq_int⟩⟩, ⟨⟨@lss_int, @leq_int⟩, ⟨@gtr_int, @geq_int⟩⟩⟩⟩, ⟨⟨⟨@un_not, ⟨@eql_bool, @neq_bool⟩⟩, ⟨⟨@eql_set, @neq_set⟩, ⟨@cells_ex, @len_cEx⟩⟩⟩, ⟨⟨@part_exAll, ⟨@part_ex0, @part_ex1⟩⟩, ⟨⟨@part_ex2, @part_ex3⟩, ⟨@part_ex4, @part_ex5⟩⟩⟩⟩⟩, ⟨⟨⟨⟨@part_ex9, ⟨@parts_nil, @cells_case⟩⟩, ⟨⟨@len_case, @part_case⟩, ⟨@part_case0, @part_case7⟩⟩⟩, ⟨⟨@part_case14, ⟨@cells_ctx, @len_ctx⟩⟩, ⟨⟨@part_ctx, @part_ctx0⟩, ⟨@part_ctx1, @part_ctx2⟩⟩⟩⟩, ⟨⟨⟨@part_ctx3, ⟨@part_ctx5, @set_ctx⟩⟩, ⟨⟨@cells_lev, @len_lev⟩, ⟨@part_lev, @part_lev0⟩⟩⟩, ⟨⟨@part_lev1, ⟨@set_lev, @field_rng⟩⟩, ⟨⟨@field_lo, @field_hi⟩, ⟨@eql_lev, @neq_lev⟩⟩⟩⟩⟩⟩
end Go.Proofs.YtcnnhnjcnekhcaaGreat.Ab
