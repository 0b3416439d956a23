/-
  THE ABSTRACT WALK: the operations that only compute.
-/
import Derived.Test.YtfeepndphaboeaaAb6
set_option linter.unusedVariables false
set_option linter.unusedSimpArgs false
namespace Go.Proofs.Ytfeepndphaboeaa.Ab
open Go Go.RowKit

section
variable {P : Program} {gl : Nat → Option D} {w0 : World} {St0 : Nat → Nat → Prop} {e : Env} {a : Act} {w : World} {g : Gh}

theorem RepD.int_inv {St : Nat → Nat → Prop} {k : IntKind} {n : Int} {v : Value} (h : RepD w St (.int k n) v) : v = .int k n ∧ wfI k n = true := by
  cases h with
  | int _ _ h => exact ⟨rfl, h⟩
theorem RepD.str_inv {St : Nat → Nat → Prop} {l : List UInt8} {v : Value} (h : RepD w St (.str l) v) : ∃ s, v = .string s ∧ l = s.data.toList ∧ s.size ≤ maxLen := by
  cases h with
  | str s h => exact ⟨s, rfl, rfl, h⟩
theorem RepD.bool_inv {St : Nat → Nat → Prop} {b : Bool} {v : Value} (h : RepD w St (.bool b) v) : v = .bool b := by
  cases h with
  | bool _ => rfl
theorem RepD.agg_inv {St : Nat → Nat → Prop} {ds : List D} {v : Value} (h : RepD w St (.agg ds) v) : ∃ vs, v = .agg vs ∧ RepCs w St ds vs ∧ ∀ d ∈ ds, d.one = true := by
  cases h with
  | agg _ vs hf hl hc => exact ⟨vs, rfl, ⟨hl, hc⟩, hf⟩

theorem eqGuard_plain (op : BinOp) (t : TypeId) (x y : Operand) (u v : Value) (h : (match u, v with | .nilIface, .nilIface => False | .agg _, .agg _ => False | _, _ => True)) :
    (eqGuard op t x y u v).run P w = .ok () w := by
  cases op <;> (try rfl) <;> (unfold eqGuard; simp only [Bool.not_true, Bool.false_eq_true, if_false]; cases u <;> cases v <;> first | rfl | exact h.elim)

theorem goes_bin (hI : Inv gl w0 St0 e a w g) {o : Oper} {op : BinOp} {t u : TypeId} {x y : Operand} (ho : o.op = .binOp op t x y u) {k : Slot → List Box → Prop}
    (h : bindO (binV (eqShape P op t) op ((Ab.opnd gl e x).demote).toSV ((Ab.opnd gl e y).demote).toSV) fun r => k (.v r) e.boxes) : Goes P gl w0 St0 e.slots o a w k := by
  obtain ⟨r, hr, hk⟩ := bindO_some h
  have hx := hI.opToSV x
  have hy := hI.opToSV y
  generalize ((Ab.opnd gl e x).demote).toSV = sx at hr hx
  generalize ((Ab.opnd gl e y).demote).toSV = sy at hr hy
  have key : ∃ v rd, r = .d rd ∧ (eqGuard op t x y (a.eval x) (a.eval y)).run P w = .ok () w ∧ (binOp op t (a.eval x) (a.eval y)).run P w = .ok v w ∧ RepD w g.St rd v := by
    cases sx <;> simp only [binV, reduceCtorEq] at hr
    rename_i dx
    cases sy <;> simp only [reduceCtorEq] at hr
    rename_i dy
    replace hx := hx.data
    replace hy := hy.data
    split at hr
    · rename_i rd hrd
      cases hr
      cases dx <;> cases dy <;> simp only [binD, reduceCtorEq] at hrd
      · -- bool
        rename_i b1 b2
        split at hrd
        · rename_i hsh
          rw [hx.bool_inv, hy.bool_inv]
          have hg := eqGuard_plain (P := P) (w := w) op t x y (.bool b1) (.bool b2) trivial
          have : ∃ f, shapeOf P f t = some [.bool] ∧ f ≤ 10000 ∧ aggOf? P t = some false := by
            unfold eqShape at hsh
            split at hsh
            · cases hq : P.eqGuardType P.depth t <;> rw [hq] at hsh <;> simp only [cond_true, cond_false, reduceCtorEq] at hsh
              split at hsh
              · split at hsh
                · simp only [Option.some.injEq, Prod.mk.injEq] at hsh
                  obtain ⟨rfl, rfl⟩ := hsh
                  exact ⟨20, by assumption, by decide, by assumption⟩
                · cases hsh
              · cases hsh
            · cases hq : P.eqGuardType P.depth t <;> rw [hq] at hsh <;> simp only [cond_true, cond_false, reduceCtorEq] at hsh
              split at hsh
              · split at hsh
                · simp only [Option.some.injEq, Prod.mk.injEq] at hsh
                  obtain ⟨rfl, rfl⟩ := hsh
                  exact ⟨20, by assumption, by decide, by assumption⟩
                · cases hsh
              · cases hsh
            · cases hsh
          obtain ⟨f, h1, h2, h3⟩ := this
          have hq := equalIn_shape (w := w) (g := g) f 10000 t _ false [.bool b1] [.bool b2] (.bool b1) (.bool b2) (b1 == b2) h1 h2 h3 rfl rfl
            (by simp only [ValOf, Bool.false_eq_true, if_false]; exact ⟨_, rfl, .bool _⟩) (by simp only [ValOf, Bool.false_eq_true, if_false]; exact ⟨_, rfl, .bool _⟩) (by simp [eqCells, eqScal])
          split at hrd
          · cases hrd; exact ⟨_, _, rfl, hg, by simp [binOp, Op.equal, Op.maxDepth, hq], .bool _⟩
          · cases hrd; exact ⟨_, _, rfl, hg, by simp [binOp, Op.equal, Op.maxDepth, hq], .bool _⟩
          · cases hrd
        · cases hrd
      · -- int
        rename_i k1 n1 k2 n2
        obtain ⟨ex, wx⟩ := hx.int_inv
        obtain ⟨ey, wy⟩ := hy.int_inv
        rw [ex, ey]
        have hg := eqGuard_plain (P := P) (w := w) op t x y (.int k1 n1) (.int k2 n2) trivial
        split at hrd
        · obtain ⟨v, hv, hv'⟩ := shiftOp_run (P := P) (w := w) (g := g) (k' := k2) t (.inl rfl) wx hrd
          exact ⟨v, rd, rfl, hg, hv, hv'⟩
        · obtain ⟨v, hv, hv'⟩ := shiftOp_run (P := P) (w := w) (g := g) (k' := k2) t (.inr rfl) wx hrd
          exact ⟨v, rd, rfl, hg, hv, hv'⟩
        · rename_i h1 h2
          split at hrd
          · rename_i hkk
            subst hkk
            obtain ⟨v, hv, hv'⟩ := intBop_run (P := P) (w := w) (g := g) t ⟨h1, h2⟩ wx wy hrd
            exact ⟨v, rd, rfl, hg, hv, hv'⟩
          · cases hrd
      · -- string
        obtain ⟨s1, e1, f1, _⟩ := hx.str_inv
        obtain ⟨s2, e2, f2, _⟩ := hy.str_inv
        rw [e1, e2]
        rw [f1, f2] at hrd
        obtain ⟨v, hv, hv'⟩ := strBop_run (P := P) (w := w) (g := g) t hrd
        exact ⟨v, rd, rfl, eqGuard_plain op t x y _ _ trivial, hv, hv'⟩
      · -- aggregates
        rename_i l1 l2
        split at hrd
        · rename_i ks hsh
          obtain ⟨v1, e1, r1, _⟩ := hx.agg_inv
          obtain ⟨v2, e2, r2, _⟩ := hy.agg_inv
          rw [e1, e2]
          cases hck : (ckOk ks l1 && ckOk ks l2) with
          | false => rw [hck] at hrd; cases hrd
          | true =>
            rw [hck] at hrd
            simp only [Bool.and_eq_true] at hck
            simp only [cond_true] at hrd
            have : shapeOf P 20 t = some ks ∧ aggOf? P t = some true ∧ P.eqGuardType P.depth t = false := by
              unfold eqShape at hsh
              split at hsh
              · cases hq : P.eqGuardType P.depth t <;> rw [hq] at hsh <;> simp only [cond_true, cond_false, reduceCtorEq] at hsh
                split at hsh
                · split at hsh
                  · simp only [Option.some.injEq, Prod.mk.injEq] at hsh
                    obtain ⟨rfl, rfl⟩ := hsh
                    exact ⟨by assumption, by assumption, rfl⟩
                  · cases hsh
                · cases hsh
              · cases hq : P.eqGuardType P.depth t <;> rw [hq] at hsh <;> simp only [cond_true, cond_false, reduceCtorEq] at hsh
                split at hsh
                · split at hsh
                  · simp only [Option.some.injEq, Prod.mk.injEq] at hsh
                    obtain ⟨rfl, rfl⟩ := hsh
                    exact ⟨by assumption, by assumption, rfl⟩
                  · cases hsh
                · cases hsh
              · cases hsh
            obtain ⟨h1, h3, h4⟩ := this
            have hg := run_eqGuard_agg (P := P) w op t x y v1 v2 h4
            have hq : ∀ c, eqCells l1 l2 = some c → (Op.equalIn 10000 t (.agg v1) (.agg v2)).run P w = .ok c w := fun c hc =>
              equalIn_shape (w := w) (g := g) 20 10000 t _ true l1 l2 (.agg v1) (.agg v2) c h1 (by decide) h3 hck.1 hck.2
                (by simp only [ValOf, if_true]; exact ⟨_, rfl, r1⟩) (by simp only [ValOf, if_true]; exact ⟨_, rfl, r2⟩) hc
            split at hrd
            · split at hrd
              · rename_i c hc; cases hrd; exact ⟨_, _, rfl, hg, by simp [run_eql_struct, hq c hc], .bool _⟩
              · cases hrd
            · split at hrd
              · rename_i c hc; cases hrd; exact ⟨_, _, rfl, hg, by simp [run_neq_struct, hq c hc], .bool _⟩
              · cases hrd
            · cases hrd
        · cases hrd
    · cases hr
  obtain ⟨v, rd, rfl, hg, hv, hv'⟩ := key
  refine Goes.valueV hI (s := .d rd) (v := v) ?_ (.d _ _ _ hv') hk
  simp [execOp, ho, hg, hv]

theorem goes_un (hI : Inv gl w0 St0 e a w g) {o : Oper} {op : UnOp} {t : TypeId} {x : Operand} (ho : o.op = .unOp op t x) {k : Slot → List Box → Prop}
    (h : bindO (unV op ((Ab.opnd gl e x).demote).toSV) fun r => k (.v r) e.boxes) : Goes P gl w0 St0 e.slots o a w k := by
  obtain ⟨r, hr, hk⟩ := bindO_some h
  have hx := hI.opToSV x
  generalize ((Ab.opnd gl e x).demote).toSV = sx at hr hx
  unfold unV at hr
  split at hr
  · rename_i b
    have hx := hx.data.bool_inv
    split at hr
    · cases hr; exact Goes.valueV hI (v := .bool (!b)) (by simp [execOp, ho, hx, Op.unary]) (.d _ _ _ (.bool _)) hk
    · cases hr
  · rename_i kk n
    obtain ⟨hx, wx⟩ := hx.data.int_inv
    split at hr
    · cases hr; exact Goes.valueV hI (by simp only [execOp, ho, hx, Op.unary, Op.intArith]; simp) (.d _ _ _ (.int _ _ (wfI_wrap _ _))) hk
    · cases hr; exact Goes.valueV hI (by simp only [execOp, ho, hx, Op.unary, Op.intBits]; simp) (.d _ _ _ (.int _ _ (wfI_wrap _ _))) hk
    · cases hr
  · cases hr

theorem goes_conv (hI : Inv gl w0 St0 e a w g) {o : Oper} {src dst : TypeId} {x : Operand} (ho : o.op = .convert src dst x) (hs : (P.underlying src).isSome = true) {k : Slot → List Box → Prop}
    (h : bindO (convV P dst ((Ab.opnd gl e x).demote).toSV) fun r => k (.v r) e.boxes) : Goes P gl w0 St0 e.slots o a w k := by
  obtain ⟨r, hr, hk⟩ := bindO_some h
  have hx := hI.opToSV x
  generalize ((Ab.opnd gl e x).demote).toSV = sx at hr hx
  obtain ⟨us, hus⟩ := Option.isSome_iff_exists.1 hs
  unfold convV at hr
  split at hr
  · rename_i kk n
    obtain ⟨hx, wx⟩ := hx.data.int_inv
    split at hr
    · rename_i kd hd
      cases hr
      refine Goes.valueV hI (v := .int kd (kd.wrap n)) ?_ (.d _ _ _ (.int _ _ (wfI_wrap _ _))) hk
      cases us <;> simp [execOp, ho, hx, convert, run_underlying hus, run_underlying hd, Conv.intToInt]
    · cases hr
  · rename_i l
    obtain ⟨s1, e1, f1, h1⟩ := hx.data.str_inv
    split at hr
    · rename_i hd
      cases hr
      refine Goes.valueV hI (v := .string s1) ?_ (.d _ _ _ (by rw [f1]; exact .str _ h1)) hk
      cases us <;> simp [execOp, ho, e1, convert, run_underlying hus, run_underlying hd]
    · cases hr
  · cases hr

end
end Go.Proofs.Ytfeepndphaboeaa.Ab
