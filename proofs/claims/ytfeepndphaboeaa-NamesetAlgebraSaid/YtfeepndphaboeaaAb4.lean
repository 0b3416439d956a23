/-
  THE ABSTRACT WALK: each operation does what the abstract step says (the operations that only compute).
-/
import Derived.Test.YtfeepndphaboeaaAb3
import Derived.WalkKit
set_option linter.unusedVariables false
set_option linter.unusedSimpArgs false
namespace Go.Proofs.Ytfeepndphaboeaa.Ab
open Go Go.RowKit

/-- what is said of a call -/
def ResO (lo : Nat) (w : World) (St : Nat → Nat → Prop) (ow : Nat → Option Nat) (j : Nat) (b a c : Nat) : Prop :=
  ow b = some j ∧ lo ≤ b ∧ (∃ cur e, w.heap[b]? = some (.cells cur e (0, 0)) ∧ cur.size = c) ∧ ∀ o, a ≤ o → ¬ St b o
def RepRes (lo : Nat) (w : World) (St : Nat → Nat → Prop) (ow : Nat → Option Nat) (r : SV) (v : Value) : Prop := match r with
  | .tup rs => ∃ vs, v = .tuple vs ∧ rs.length = vs.size ∧ ∀ (j : Nat) x y, rs[j]? = some x → vs[j]? = some y → RepV w St 0 (ResO lo w St ow j) x y
  | r => RepV w St 0 (ResO lo w St ow 0) r v
def Enters (P : Program) (f : FuncId) : Prop := ∀ (args : Array Value) (w : World), (callFunc f args).run P w = .ok (.enter f args) w
/-- THE CONTRACT: called with values that stand for 'args', in memory that stays as it is, the function returns what stands for 'r'; of what was there nothing has turned -/
def Holds (P : Program) (gl : Nat → Option D) : Con := fun f args r => Enters P f ∧
  ∀ (w : World) (St : Nat → Nat → Prop) (vs : Array Value), (∀ b o, St b o → b < w.heap.size) → GlobOK gl w St → args.length = vs.size →
    (∀ (i : Nat) x v, args[i]? = some x → vs[i]? = some v → RepV w St w.heap.size (fun _ _ _ => False) x v) →
    Calls P f vs w fun e w' => ∃ v, e = .returned v ∧ Below w.heap.size w w' ∧ ∃ St' ow, (∀ b o, St b o → St' b o) ∧ (∀ b o, St' b o → St b o ∨ (w.heap.size ≤ b ∧ b < w'.heap.size)) ∧
      RepRes w.heap.size w' St' ow r v

section
variable {P : Program} {gl : Nat → Option D} {w0 : World} {St0 : Nat → Nat → Prop} {e : Env} {a : Act} {w : World} {g : Gh}

theorem bindO_some {α : Type} {o : Option α} {k : α → Prop} (h : bindO o k) : ∃ x, o = some x ∧ k x := by
  cases o with
  | none => exact h.elim
  | some x => exact ⟨x, rfl, h⟩

theorem ifP_bool {x : SV} {A B : Prop} (h : ifP x A B) : ∃ b, x = .d (.bool b) ∧ (b = true → A) ∧ (b = false → B) := by
  unfold ifP at h
  split at h
  · rename_i c
    refine ⟨c, rfl, ?_, ?_⟩ <;> rintro rfl <;> exact h
  · exact h.elim

/-- an operand's value -/
theorem Inv.opV (hI : Inv gl w0 St0 e a w g) {x : Operand} {s : SV} (h : (Ab.opnd gl e x).demote = .v s) : RepV w g.St w0.heap.size (fun _ _ _ => False) s (a.eval x) := by
  have := hI.opnd x
  rw [h] at this
  cases this with
  | v _ _ _ h => exact h
theorem Inv.opToSV (hI : Inv gl w0 St0 e a w g) (x : Operand) : RepV w g.St w0.heap.size (fun _ _ _ => False) ((Ab.opnd gl e x).demote).toSV (a.eval x) := by
  have := hI.opnd x
  cases h : (Ab.opnd gl e x).demote with
  | v s => exact hI.opV h
  | _ => exact .undef _ _

theorem RepV.data {St : Nat → Nat → Prop} {base : Nat} {O : Nat → Nat → Nat → Prop} {x : D} {v : Value} (h : RepV w St base O (.d x) v) : RepD w St x v := by
  cases h with
  | d _ _ _ h => exact h

/-- the conclusion of an operation -/
abbrev Goes (P : Program) (gl : Nat → Option D) (w0 : World) (St0 : Nat → Nat → Prop) (slots : List Slot) (o : Oper) (a : Act) (w : World) (k : Slot → List Box → Prop) : Prop :=
  ∀ (next : Act → World → Prop) (Q : Exit → Act → World → Prop),
    (∀ s v bxs w' g', Inv gl w0 St0 ⟨putSlot slots o.dst s, bxs⟩ (a.put o.dst v) w' g' → k s bxs → next (a.put o.dst v) w') → o.wp P a w next Q

theorem Goes.value (hI : Inv gl w0 St0 e a w g) {o : Oper} {v : Value} {s : Slot} {k : Slot → List Box → Prop} (hrun : (execOp a.eval o).run P w = .ok (.value v) w)
    (hr : RepS w0.heap.size w g (fun _ _ _ _ => False) s v) (hk : k s e.boxes) : Goes P gl w0 St0 e.slots o a w k := by
  intro next Q hn
  unfold Oper.wp
  rw [hrun]
  exact hn s v _ _ _ (hI.value hr) hk

theorem Goes.valueV (hI : Inv gl w0 St0 e a w g) {o : Oper} {v : Value} {s : SV} {k : Slot → List Box → Prop} (hrun : (execOp a.eval o).run P w = .ok (.value v) w)
    (hr : RepV w g.St w0.heap.size (fun _ _ _ => False) s v) (hk : k (.v s) e.boxes) : Goes P gl w0 St0 e.slots o a w k :=
  Goes.value hI hrun (.v _ _ _ hr) hk

/-! ### numbers, bools, strings -/
theorem wfI_wrap (k : IntKind) (n : Int) : wfI k (k.wrap n) = true := by
  have hp : (0 : Int) < 2 ^ k.bits := Int.pow_pos (by decide)
  have h1 := Int.emod_nonneg n (Int.ne_of_gt hp)
  have h2 := Int.emod_lt_of_pos n hp
  simp only [wfI, Bool.and_eq_true, decide_eq_true_eq, IntKind.min, IntKind.max, IntKind.wrap]
  cases k <;> simp only [IntKind.bits, IntKind.signed] at * <;> (try split) <;> simp_all <;> omega


theorem wfI_min_max {k : IntKind} {n : Int} : wfI k n = true ↔ k.min ≤ n ∧ n ≤ k.max := by simp [wfI]

theorem bv_toNat_wrap (k : IntKind) (b : BitVec k.bits) : wfI k (k.wrap b.toNat) = true := wfI_wrap k _

theorem tmod_wf {k : IntKind} {x y : Int} (hx : wfI k x = true) (hy : wfI k y = true) : wfI k (x.tmod y) = true := by
  rw [wfI_min_max] at *
  have h1 : (x.tmod y).natAbs ≤ x.natAbs := by
    rw [Int.natAbs_tmod]
    exact Nat.mod_le _ _
  have h2 : 0 ≤ x → 0 ≤ x.tmod y := fun h => Int.tmod_nonneg y h
  have h3 : x ≤ 0 → x.tmod y ≤ 0 := fun h => by
    have := Int.tmod_nonneg (a := -x) y (by omega)
    rw [Int.neg_tmod] at this
    omega
  have hm : k.min ≤ 0 ∧ 0 ≤ k.max := by cases k <;> simp [IntKind.min, IntKind.max, IntKind.signed, IntKind.bits]
  constructor
  · rcases Int.le_total 0 x with h | h
    · have := h2 h; omega
    · have := h3 h; omega
  · rcases Int.le_total 0 x with h | h
    · have := h2 h; omega
    · have := h3 h; omega

theorem fdiv_wf {k : IntKind} {x : Int} (hx : wfI k x = true) (n : Nat) : wfI k (x.fdiv (2 ^ n)) = true := by
  rw [wfI_min_max] at *
  have hp : (0 : Int) < 2 ^ n := Int.pow_pos (by decide)
  rw [Int.fdiv_eq_ediv_of_nonneg _ (Int.le_of_lt hp)]
  have hm : k.min ≤ 0 ∧ 0 ≤ k.max := by cases k <;> simp [IntKind.min, IntKind.max, IntKind.signed, IntKind.bits]
  constructor
  · rcases Int.le_total 0 x with h | h
    · have := Int.ediv_nonneg h (Int.le_of_lt hp); omega
    · have : x ≤ x / 2 ^ n := by
        have h1 := Int.mul_ediv_add_emod x (2 ^ n)
        have h2 := Int.emod_nonneg x (Int.ne_of_gt hp)
        have h4 : x / 2 ^ n ≤ 0 := by
          rcases Int.lt_or_le 0 (x / 2 ^ n) with hh | hh
          · have h5 : 2 ^ n * 1 ≤ 2 ^ n * (x / 2 ^ n) := Int.mul_le_mul_of_nonneg_left (by omega) (Int.le_of_lt hp)
            omega
          · exact hh
        have h3 : (2 ^ n - 1) * (x / 2 ^ n) ≤ 0 := Int.mul_nonpos_of_nonneg_of_nonpos (by omega) h4
        have h6 : x = x / 2 ^ n + ((2 ^ n - 1) * (x / 2 ^ n) + x % 2 ^ n) := by
          rw [Int.sub_mul, Int.one_mul]; omega
        have h7 := Int.emod_lt_of_pos x hp
        rcases Int.lt_or_le (x / 2 ^ n) x with hlt | hle
        · exfalso
          have h8 : 2 ^ n * (x / 2 ^ n) ≤ 2 ^ n * (x - 1) := Int.mul_le_mul_of_nonneg_left (by omega) (Int.le_of_lt hp)
          have h9 : (2 ^ n) * (x - 1) ≤ 1 * (x - 1) := by
            have : 0 ≤ (2 ^ n - 1) * (1 - x) := Int.mul_nonneg (by omega) (by omega)
            rw [Int.sub_mul, Int.mul_sub, Int.mul_sub] at this
            rw [Int.mul_sub]
            omega
          have h10 : 2 ^ n * (x / 2 ^ n) + 2 ^ n ≤ 2 ^ n * x := by
            have : 2 ^ n * (x - 1) = 2 ^ n * x - 2 ^ n := by rw [Int.mul_sub, Int.mul_one]
            omega
          have h11 : 2 ^ n * x ≤ x := by
            have : 0 ≤ (2 ^ n - 1) * (-x) := Int.mul_nonneg (by omega) (by omega)
            rw [Int.sub_mul, Int.mul_neg, Int.mul_neg] at this
            omega
          omega
        · exact hle
      omega
  · rcases Int.le_total 0 x with h | h
    · have : x / 2 ^ n ≤ x := Int.ediv_le_self _ h
      omega
    · have : x / 2 ^ n ≤ 0 := by
        rcases Int.lt_or_le 0 (x / 2 ^ n) with hh | hh
        · have h1 := Int.mul_ediv_add_emod x (2 ^ n)
          have h2 := Int.emod_nonneg x (Int.ne_of_gt hp)
          have h5 : 2 ^ n * 1 ≤ 2 ^ n * (x / 2 ^ n) := Int.mul_le_mul_of_nonneg_left (by omega) (Int.le_of_lt hp)
          omega
        · exact hh
      omega

theorem intBop_run {op : BinOp} {k : IntKind} {x y : Int} {r : D} (t : TypeId) (hop : op ≠ .shl ∧ op ≠ .shr) (hx : wfI k x = true) (hy : wfI k y = true) (h : intBop op k x y = some r) :
    ∃ v, (binOp op t (.int k x) (.int k y)).run P w = .ok v w ∧ RepD w g.St r v := by
  cases op <;> simp only [intBop, Option.some.injEq, reduceCtorEq] at h <;> (try (exact absurd rfl hop.1)) <;> (try (exact absurd rfl hop.2))
  case quo =>
    split at h
    · cases h
    · rename_i hy0
      cases h
      exact ⟨_, by simp [binOp, Op.intDiv, hy0], .int _ _ (wfI_wrap _ _)⟩
  case rem =>
    split at h
    · cases h
    · rename_i hy0
      cases h
      exact ⟨_, by simp [binOp, Op.intDiv, hy0], .int _ _ (tmod_wf hx hy)⟩
  all_goals (subst h)
  case add | sub | mul => exact ⟨_, by simp [binOp, Op.intArith], .int _ _ (wfI_wrap _ _)⟩
  case and | or | xor | andNot => exact ⟨_, by simp [binOp, Op.intBits], .int _ _ (wfI_wrap _ _)⟩
  all_goals exact ⟨_, by simp [binOp, Op.intCmp], .bool _⟩

theorem shiftOp_run {op : BinOp} {k k' : IntKind} {x y : Int} {r : D} (t : TypeId) (hop : op = .shl ∨ op = .shr) (hx : wfI k x = true) (h : shiftOp op k x y = some r) :
    ∃ v, (binOp op t (.int k x) (.int k' y)).run P w = .ok v w ∧ RepD w g.St r v := by
  unfold shiftOp at h
  split at h
  · cases h
  · rename_i hy
    rcases hop with rfl | rfl
    · simp only [Option.some.injEq] at h; subst h
      exact ⟨_, by simp [binOp, Op.shift, hy], .int _ _ (wfI_wrap _ _)⟩
    · simp only [Option.some.injEq] at h; subst h
      exact ⟨_, by simp [binOp, Op.shift, hy], .int _ _ (fdiv_wf hx _)⟩

theorem bytesLess_eq : ∀ (x y : List UInt8), Op.bytesLess x y = strLess x y
  | _, [] => by cases ‹List UInt8› <;> rfl
  | [], _ :: _ => rfl
  | a :: x, b :: y => by simp only [Op.bytesLess, strLess, bytesLess_eq x y]

theorem strBop_run {op : BinOp} {x y : ByteArray} {r : D} (t : TypeId) (h : strBop op x.data.toList y.data.toList = some r) :
    ∃ v, (binOp op t (.string x) (.string y)).run P w = .ok v w ∧ RepD w g.St r v := by
  have hx := ByteArray.toList_eq x
  have hy := ByteArray.toList_eq y
  cases op <;> simp only [strBop, Option.some.injEq, reduceCtorEq] at h
  case add =>
    split at h
    · rename_i hl
      cases h
      have e : (x ++ y).data.toList = x.data.toList ++ y.data.toList := by simp
      have hl' : x.size + y.size ≤ maxLen := by rw [Array.length_toList, Array.length_toList] at hl; exact hl
      refine ⟨.string (x ++ y), ?_, ?_⟩
      · have hM : ((maxLen : Nat) : Int) = IntKind.i64.max := by decide
        have : ¬ (((x.size + y.size : Nat) : Int) > IntKind.i64.max) := by
          rw [← hM]
          omega
        simp only [binOp, Op.stringOp]
        rw [if_neg this]
        rfl
      · rw [← e]
        refine .str _ ?_
        rw [ByteArray.size_append]
        exact hl'
    · cases h
  all_goals (subst h; exact ⟨_, by simp [binOp, Op.stringOp, hx, hy, bytesLess_eq], .bool _⟩)

end
end Go.Proofs.Ytfeepndphaboeaa.Ab
