/-
  STEPS, SLICES, STRINGS: what every package uses.
-/
import Derived.Test.YtfeepndphaboeaaTy2
set_option linter.unusedVariables false
set_option linter.unusedSimpArgs false
namespace Go.Proofs.Ytfeepndphaboeaa.Ab
open Go

theorem bindO_to {α : Type} {o : Option α} {k : α → Prop} {x : α} (h : o = some x) (hk : k x) : bindO o k := by subst h; exact hk
theorem ifP_to {x : SV} {A B : Prop} {b : Bool} (hx : x = .d (.bool b)) (hb : b = true) (hA : A) : ifP x A B := by subst hx hb; exact hA
theorem ifP_no {x : SV} {A B : Prop} {b : Bool} (hx : x = .d (.bool b)) (hb : b = false) (hB : B) : ifP x A B := by subst hx hb; exact hB
theorem ifP_by {x : SV} {A B : Prop} {b : Bool} (hx : x = .d (.bool b)) (hA : b = true → A) (hB : b = false → B) : ifP x A B := by subst hx; cases b <;> first | exact hA rfl | exact hB rfl
theorem callP_to {C : Con} {f : FuncId} {args : List SV} {r : SV} {k : SV → Prop} (h : C f args r) (hr : isTup r = false) (hk : k r) : callP C f args k := ⟨r, h, hr, hk⟩
theorem call2 {C : Con} {f : FuncId} {args : List SV} {a b : SV} {k : SV → SV → Prop} (h : C f args (.tup [a, b])) (hk : k a b) : ∃ x, ∃ y, C f args (.tup [x, y]) ∧ k x y := ⟨a, b, h, hk⟩
theorem demote_two (x : SV) : demote (demote x) = demote x := by cases x <;> rfl
theorem eql_bool (a b : Bool) : binV (some (false, [.bool])) .eql (.d (.bool a)) (.d (.bool b)) = some (.d (.bool (a == b))) := by
  simp only [binV, binD]
theorem neq_bool (a b : Bool) : binV (some (false, [.bool])) .neq (.d (.bool a)) (.d (.bool b)) = some (.d (.bool (a != b))) := by
  simp only [binV, binD, bne]
theorem leq_int (k : IntKind) (m n : Int) : binV none .leq (.d (.int k m)) (.d (.int k n)) = some (.d (.bool (decide (m ≤ n)))) := by
  simp only [binV, binD, intBop, ↓reduceIte]
theorem gtr_int (k : IntKind) (m n : Int) : binV none .gtr (.d (.int k m)) (.d (.int k n)) = some (.d (.bool (decide (m > n)))) := by
  simp only [binV, binD, intBop, ↓reduceIte]
theorem lss_int (k : IntKind) (m n : Int) : binV none .lss (.d (.int k m)) (.d (.int k n)) = some (.d (.bool (decide (m < n)))) := by
  simp only [binV, binD, intBop, ↓reduceIte]
theorem geq_int (k : IntKind) (m n : Int) : binV none .geq (.d (.int k m)) (.d (.int k n)) = some (.d (.bool (decide (m ≥ n)))) := by
  simp only [binV, binD, intBop, ↓reduceIte]
theorem eql_int (k : IntKind) (m n : Int) : binV (some (false, [.int])) .eql (.d (.int k m)) (.d (.int k n)) = some (.d (.bool (m == n))) := by
  simp only [binV, binD, intBop, ↓reduceIte]
theorem neq_int (k : IntKind) (m n : Int) : binV (some (false, [.int])) .neq (.d (.int k m)) (.d (.int k n)) = some (.d (.bool (m != n))) := by
  simp only [binV, binD, intBop, ↓reduceIte]
theorem eql_str (a b : List UInt8) : binV (some (false, [.str])) .eql (.d (.str a)) (.d (.str b)) = some (.d (.bool (a == b))) := by
  simp only [binV, binD, strBop]
theorem neq_str (a b : List UInt8) : binV (some (false, [.str])) .neq (.d (.str a)) (.d (.str b)) = some (.d (.bool (!(a == b)))) := by
  simp only [binV, binD, strBop]
theorem un_not (b : Bool) : unV .not (.d (.bool b)) = some (.d (.bool (!b))) := rfl
theorem add_nat {m n : Nat} (h : m + n < 2 ^ 62) : binV none .add (.d (.int .i64 (m : Int))) (.d (.int .i64 (n : Int))) = some (.d (.int .i64 ((m + n : Nat) : Int))) := by
  have h2 : IntKind.i64.wrap ((m : Int) + (n : Int)) = ((m + n : Nat) : Int) := by rw [wrap_i64 (by omega) (by omega)]; omega
  simp only [binV, binD, intBop, h2, ↓reduceIte]

theorem add_up {m n : Nat} (h : m < n) (hn : n ≤ maxLen) : binV none .add (.d (.int .i64 (m : Int))) (.d (.int .i64 1)) = some (.d (.int .i64 ((m + 1 : Nat) : Int))) := by
  simp only [maxLen] at hn
  have h2 : IntKind.i64.wrap ((m : Int) + 1) = ((m + 1 : Nat) : Int) := by rw [wrap_i64 (by omega) (by omega)]; omega
  simp only [binV, binD, intBop, h2, ↓reduceIte]
/-- a loop that counts, with what is known at its head -/
theorem loopP_inv {F : List SV → List (List SV) → (List SV → List (List SV) → Prop) → Prop} (J : Nat → Prop) (st : Nat → List SV) (sb : Nat → List (List SV)) (n : Nat) (h0 : J 0)
    (hstep : ∀ i, i < n → J i → ∀ I : List SV → List (List SV) → Prop, (J (i + 1) → I (st (i + 1)) (sb (i + 1))) → F (st i) (sb i) I) (hend : J n → ∀ I, F (st n) (sb n) I) : loopP F (st 0) (sb 0) := by
  intro I hI
  have key : ∀ k, k ≤ n → J (n - k) → I (st (n - k)) (sb (n - k)) := by
    intro k
    induction k with
    | zero => intro _ hj; exact hI _ _ (hend hj I)
    | succ k ih =>
      intro hk hj
      have := hstep (n - (k + 1)) (by omega) hj I (fun hj' => by rw [show n - (k + 1) + 1 = n - k by omega] at hj' ⊢; exact ih (by omega) hj')
      exact hI _ _ this
  have := key n (Nat.le_refl _)
  simp only [Nat.sub_self] at this
  exact this h0

/-- a slice with the elements L, in one of its forms -/
inductive IsSl (sz : Nat) (L : List D) : SV → Prop
  | nil (s : Nat) (h : L = []) : IsSl sz L (.d (.sl .nil s []))
  | ro : IsSl sz L (.d (.sl .ro sz L))
  | full : IsSl sz L (.full sz L)
/-- the same, as data -/
inductive IsD (sz : Nat) (L : List D) : D → Prop
  | nil (s : Nat) (h : L = []) : IsD sz L (.sl .nil s [])
  | ro : IsD sz L (.sl .ro sz L)
theorem IsD.sv {sz : Nat} {L : List D} {x : D} (h : IsD sz L x) : IsSl sz L (.d x) := by
  cases h with
  | nil s h => exact .nil s h
  | ro => exact .ro
theorem IsSl.elems {sz : Nat} {L : List D} {x : SV} (h : IsSl sz L x) : elems sz x = some L ∧ elemsAny x = some L ∧ demote x = x := by
  cases h with
  | nil s h => subst h; exact ⟨rfl, rfl, rfl⟩
  | ro => exact ⟨by simp [Ab.elems], rfl, rfl⟩
  | full => exact ⟨by simp [Ab.elems], rfl, rfl⟩
theorem IsSl.dem {sz : Nat} {L : List D} {x : SV} (h : IsSl sz L x) : demote x = x := h.elems.2.2
theorem IsSl.len {sz : Nat} {L : List D} {x : SV} (h : IsSl sz L x) : lenL x = some (.d (.int .i64 (L.length : Int))) := by
  simp [lenL, h.elems.2.1]
theorem IsSl.at {sz : Nat} {L : List D} {x : SV} (h : IsSl sz L x) {i : Nat} {y : D} (hy : L[i]? = some y) : elemPtr sz x (.d (.int .i64 (i : Int))) = some (.dptr y 0) := by
  have hi : i < L.length := (List.getElem?_eq_some_iff.1 hy).1
  unfold elemPtr
  rw [h.elems.1]
  simp only []
  rw [index_nat hi]
  simp only [hy]
theorem IsSl.cells {sz : Nat} {L : List D} {x : SV} (h : IsSl sz L x) : cellsV x = some [x] := by
  cases h <;> rfl
theorem IsD.len {sz : Nat} {L : List D} {x : D} (h : IsD sz L x) : lenL (.d x) = some (.d (.int .i64 (L.length : Int))) := h.sv.len
theorem IsD.at {sz : Nat} {L : List D} {x : D} (h : IsD sz L x) {i : Nat} {y : D} (hy : L[i]? = some y) : elemPtr sz (.d x) (.d (.int .i64 (i : Int))) = some (.dptr y 0) := h.sv.at hy
theorem load_str (s : List UInt8) : loadV false 1 (.dptr (.str s) 0) = some (.d (.str s)) := rfl
theorem load_intk (k : IntKind) (n : Int) : loadV false 1 (.dptr (.int k n) 0) = some (.d (.int k n)) := rfl
theorem load_agg (cs : List D) (n : Nat) (h : cs.length = n) : loadV true n (.dptr (.agg cs) 0) = some (.d (.agg cs)) := by
  subst h
  have : partD true cs.length 0 cs = some (.agg cs) := by
    simp only [partD, cond_true, Nat.zero_add, Nat.le_refl, ↓reduceIte, List.drop_zero, List.take_length]
  simp only [loadV, D.cells, this]
theorem load_cell (cs : List D) (n : Nat) (y : D) (h : cs[n]? = some y) : loadV false 1 (.dptr (.agg cs) n) = some (.d y) := by
  have : partD false 1 n cs = some y := by simp only [partD, cond_false, h]
  simp only [loadV, D.cells, this]
theorem off_ptr (x : D) (o n : Nat) : addOffV (.dptr x o) n = some (.dptr x (o + n)) := rfl
theorem dem_ptr (x : D) (o : Nat) : demote (.dptr x o) = .dptr x o := rfl

/-- strings, as elements -/
def dStrs (l : List (List UInt8)) : List D := l.map .str
theorem len_strs (l : List (List UInt8)) : (dStrs l).length = l.length := List.length_map ..
theorem at_strs {l : List (List UInt8)} {i : Nat} {s : List UInt8} (h : l[i]? = some s) : (dStrs l)[i]? = some (.str s) := by simp [dStrs, h]
theorem get_some {α : Type} {l : List α} {i : Nat} (h : i < l.length) : ∃ y, l[i]? = some y := ⟨l[i], List.getElem?_eq_getElem h⟩
/-- the first that is so -/
def first {α : Type} (p : α → Bool) : List α → Option Nat
  | [] => none
  | x :: l => if p x then some 0 else (first p l).map (· + 1)
theorem first_at {α : Type} {p : α → Bool} : ∀ {l : List α} {k : Nat} {x : α}, l[k]? = some x → p x = true → (∀ j y, j < k → l[j]? = some y → p y = false) → first p l = some k
  | [], k, x, h, _, _ => by simp at h
  | y :: l, 0, x, h, hp, _ => by simp at h; subst h; simp [first, hp]
  | y :: l, k + 1, x, h, hp, hn => by
    have h0 := hn 0 y (by omega) (by simp)
    rw [first, h0]
    rw [first_at (l := l) (k := k) (by simpa using h) hp (fun j z hj hz => hn (j + 1) z (by omega) (by simpa using hz))]
    rfl
theorem first_none {α : Type} {p : α → Bool} : ∀ {l : List α}, (∀ (j : Nat) y, l[j]? = some y → p y = false) → first p l = none
  | [], _ => rfl
  | y :: l, hn => by
    have h0 := hn 0 y (by simp)
    rw [first, h0, first_none (l := l) (fun j z hz => hn (j + 1) z (by simpa using hz))]
    rfl
theorem first_some {α : Type} {p : α → Bool} : ∀ {l : List α} {k : Nat}, first p l = some k → ∃ x, l[k]? = some x ∧ p x = true ∧ ∀ j y, j < k → l[j]? = some y → p y = false
  | [], k, h => by simp [first] at h
  | y :: l, k, h => by
    rw [first] at h
    by_cases hp : p y = true
    · rw [if_pos hp] at h
      cases h
      exact ⟨y, by simp, hp, fun j _ hj => by omega⟩
    · rw [if_neg hp] at h
      obtain ⟨k', hk', rfl⟩ := Option.map_eq_some_iff.1 h
      obtain ⟨x, h1, h2, h3⟩ := first_some hk'
      refine ⟨x, by simpa using h1, h2, fun j z hj hz => ?_⟩
      cases j with
      | zero => simp at hz; subst hz; simpa using hp
      | succ j => exact h3 j z (by omega) (by simpa using hz)
theorem first_lt {α : Type} {p : α → Bool} {l : List α} {k : Nat} (h : first p l = some k) : k < l.length := by
  obtain ⟨x, h1, _⟩ := first_some h
  exact (List.getElem?_eq_some_iff.1 h1).1
/-- a number, or -1 -/
def orM (o : Option Nat) : Int := match o with | some k => (k : Int) | none => -1
theorem orM_geq (o : Option Nat) : decide (orM o ≥ 0) = o.isSome := by
  cases o with
  | none => decide
  | some k => simp [orM]
theorem orM_neg (o : Option Nat) : decide (orM o < 0) = o.isNone := by
  cases o with
  | none => decide
  | some k => exact decide_eq_false (show ¬ ((k : Int) < 0) by omega)
end Go.Proofs.Ytfeepndphaboeaa.Ab
