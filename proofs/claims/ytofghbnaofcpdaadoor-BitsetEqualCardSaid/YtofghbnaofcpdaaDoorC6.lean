/-
  Steps towards the claim of this seat (C6).
-/
import Derived.Test.YtofghbnaofcpdaaDoorC5
set_option linter.unusedVariables false
set_option linter.unusedSimpArgs false
namespace Go.Proofs.YtofghbnaofcpdaaDoor.Ab
open Go

theorem neq_int (m n : Int) : binV (some (false, [.int])) .neq (.d (.int .i64 m)) (.d (.int .i64 n)) = some (.d (.bool (m != n))) := by
  simp only [binV, binD, intBop, ↓reduceIte]
theorem eql_int (m n : Int) : binV (some (false, [.int])) .eql (.d (.int .i64 m)) (.d (.int .i64 n)) = some (.d (.bool (m == n))) := by
  simp only [binV, binD, intBop, ↓reduceIte]
theorem e13 : Enters Tryd.prog 13 := enters_some (fn := Tryd.f13) (by kernel_rfl) (by kernel_rfl) (by kernel_rfl)
theorem ints_holds (l m : List Int) {x y : SV} (hx : IsInts l x) (hy : IsInts m y) (hl : l.length < 2 ^ 62) (hlm : l = m) : Holds Tryd.prog gl 13 [x, y] (.d (.bool true)) := by
  subst hlm
  refine holds_of_body hm1 e13 (h := h13) ?_
  rw [body13]
  intro hwf
  have hd := hx.elems.2.2
  have hd' := hy.elems.2.2
  simp only [hd, hd', hx.len, hy.len, demote_d, bindO_some', neq_int, bne_self_eq_false, ifP_false]
  refine loopP_count (fun i => [x, y, .d (.int .i64 ((i : Nat) : Int))]) (fun i => []) l.length (fun i hi I hI => ?_) (fun I => ?_)
  · simp only [vget, List.getD_cons_zero, List.getD_cons_succ, hd, hd', hx.len, demote_d, lss_lit, bindO_some', ifP_dec]
    refine ⟨fun _ => ?_, fun h => absurd h (by simpa using hi)⟩
    rw [hx.at hi, hy.at hi]
    have e1 : demote (.dptr (dI l[i]) 0) = .dptr (dI l[i]) 0 := rfl
    have e2 : binV (some (false, [.int])) .neq (.d (dI l[i])) (.d (dI l[i])) = some (.d (.bool false)) := by rw [dI, neq_int, bne_self_eq_false]
    simp only [bindO_some', e1, load_int, demote_d, e2, ifP_false]
    rw [add_one (by omega)]
    exact hI
  · simp only [vget, List.getD_cons_zero, List.getD_cons_succ, hd, hx.len, demote_d, lss_lit, bindO_some', ifP_dec]
    refine ⟨fun h => absurd h (by simp), fun _ => ⟨rfl, trivial⟩⟩
end Go.Proofs.YtofghbnaofcpdaaDoor.Ab
