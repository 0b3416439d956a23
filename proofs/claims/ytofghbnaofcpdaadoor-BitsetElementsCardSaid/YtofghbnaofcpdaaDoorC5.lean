/-
  Steps towards the claim of this seat (C5).
-/
import Derived.Test.YtofghbnaofcpdaaDoorC4
set_option linter.unusedVariables false
set_option linter.unusedSimpArgs false
namespace Go.Proofs.YtofghbnaofcpdaaDoor.Ab
open Go

theorem e32 : Enters Tryd.prog 32 := enters_some (fn := Tryd.f32) (by kernel_rfl) (by kernel_rfl) (by kernel_rfl)
theorem within_holds (w v : Nat → BitVec 64) : Holds Tryd.prog gl 32 [.d (dSet w), .d (dSet v)] (.d (.bool (eqW (fun k => w k &&& v k) w))) := by
  refine holds_of_body hm1 e32 (h := h32) ?_
  rw [body32]
  intro hwf
  simp only [demote_d, cells_set, bindO_some', len_cSet, true_and, part_set]
  refine callP_of (meet_holds w v) ?_
  simp only [demote_d, eql_set, bindO_some', noRef_d, true_and]
theorem e33 : Enters Tryd.prog 33 := enters_some (fn := Tryd.f33) (by kernel_rfl) (by kernel_rfl) (by kernel_rfl)
theorem withinR_holds (w v : Nat → BitVec 64) : Holds Tryd.prog gl 33 [.d (dSet w), .d (dSet v)] (.d (.bool (eqW (fun k => w k &&& ~~~ v k) fun _ => 0))) := by
  refine holds_of_body hm1 e33 (h := h33) ?_
  rw [body33]
  intro hwf
  simp only [demote_d, cells_set, bindO_some', len_cSet, true_and, part_set]
  refine callP_of (minusR_holds w v) ?_
  simp only [demote_d, parts_nil, build_set, eql_set, bindO_some', noRef_d, true_and]
end Go.Proofs.YtofghbnaofcpdaaDoor.Ab
