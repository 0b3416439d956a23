/-
  Steps towards the claim of this seat (C2).
-/
import Derived.Test.YtofghbnaofcpdaaDoorC1
set_option linter.unusedVariables false
set_option linter.unusedSimpArgs false
namespace Go.Proofs.YtofghbnaofcpdaaDoor.Ab
open Go

theorem build_set : buildD Tryd.prog 24 [] = some (dSet fun _ => 0) := by kernel_rfl
theorem parts_nil : partsS [] = some [] := rfl
/-- the numbers below i -/
def allW : Nat → Nat → BitVec 64
  | 0 => fun _ => 0
  | i + 1 => withW (allW i) i
def clip (n : Int) : Nat := (min (max n 0) 256).toNat
theorem clip_le (n : Int) : clip n ≤ 256 := by unfold clip; omega
theorem max_lit (m n : Int) : foldIntV maxD (.d (.int .i64 m)) [.d (.int .i64 n)] = some (.d (.int .i64 (maxD m n))) := rfl
theorem min_lit (m n : Int) : foldIntV minD (.d (.int .i64 m)) [.d (.int .i64 n)] = some (.d (.int .i64 (minD m n))) := rfl
theorem clip_eq (n : Int) : minD (maxD n 0) 256 = (clip n : Int) := by
  unfold minD maxD clip
  split <;> split <;> omega
theorem e19 : Enters Tryd.prog 19 := enters_some (fn := Tryd.f19) (by kernel_rfl) (by kernel_rfl) (by kernel_rfl)
theorem all_holds (n : Int) : Holds Tryd.prog gl 19 [.d (dI n)] (.d (dSet (allW (clip n)))) := by
  refine holds_of_body hm1 e19 (h := h19) ?_
  rw [body19]
  intro hwf
  simp only [demote_d, dI, max_lit, min_lit, bindO_some', zero_set, clip_eq]
  have hc := clip_le n
  refine loopP_count (fun i => [.d (.int .i64 (clip n : Int)), .d (.int .i64 ((i : Nat) : Int))]) (fun i => [cSet fun _ => 0, cSet (allW i)]) (clip n) (fun i hi I hI => ?_) (fun I => ?_)
  · simp only [vget, bget, List.getD_cons_zero, List.getD_cons_succ, demote_d, lss_lit, bindO_some', ifP_dec]
    refine ⟨fun _ => ?_, fun h => absurd h (by simp; omega)⟩
    simp only [part_set, bindO_some', demote_d]
    refine callP_of (with_holds (allW i) i) ?_
    simp only [demote_d, cells_set, bindO_some', len_cSet, true_and, set_all, Nat.le_refl]
    rw [add_one (by omega)]
    exact hI
  · simp only [vget, bget, List.getD_cons_zero, List.getD_cons_succ, demote_d, lss_lit, bindO_some', ifP_dec]
    refine ⟨fun h => absurd h (by simp), fun _ => ?_⟩
    simp only [part_set, bindO_some', demote_d, cells_set, len_cSet, true_and, set_all, noRef_d, Nat.le_refl]
theorem e20 : Enters Tryd.prog 20 := enters_some (fn := Tryd.f20) (by kernel_rfl) (by kernel_rfl) (by kernel_rfl)
theorem allR_holds (n : Int) : Holds Tryd.prog gl 20 [.d (dI n)] (.d (dSet (allW (clip n)))) := by
  refine holds_of_body hm1 e20 (h := h20) ?_
  rw [body20]
  intro hwf
  simp only [demote_d, dI, parts_nil, build_set, bindO_some', zero_set, cells_set, len_cSet, true_and, Nat.le_refl, set_all, Box.vals]
  have hc := clip_le n
  refine loopP_count (fun i => [.d (.int .i64 n), .d (.int .i64 ((i : Nat) : Int))]) (fun i => [cSet fun _ => 0, cSet (allW i)]) (clip n) (fun i hi I hI => ?_) (fun I => ?_)
  · simp only [vget, bget, List.getD_cons_zero, List.getD_cons_succ, demote_d, lss_lit, bindO_some', ifP_dec]
    have h1 : (i : Int) < n := by unfold clip at hi; omega
    have h2 : (i : Int) < 256 := by omega
    refine ⟨fun _ => ⟨fun _ => ?_, fun h => absurd h (by simpa using h2)⟩, fun h => absurd h (by simpa using h1)⟩
    simp only [part_set, bindO_some', demote_d]
    refine callP_of (withR_holds (allW i) i) ?_
    simp only [demote_d, cells_set, bindO_some', len_cSet, true_and, set_all, Nat.le_refl]
    rw [add_one (by omega)]
    exact hI
  · simp only [vget, bget, List.getD_cons_zero, List.getD_cons_succ, demote_d, lss_lit, bindO_some', ifP_dec, part_set, cells_set, len_cSet, true_and, set_all, noRef_d, Nat.le_refl]
    refine ⟨fun h => ⟨fun h' => ?_, fun _ => ?_⟩, fun _ => ?_⟩
    · exfalso
      have h3 : ((clip n : Nat) : Int) < n := by simpa using h
      have h4 : ((clip n : Nat) : Int) < 256 := by simpa using h'
      unfold clip at h3 h4; omega
    · trivial
    · trivial
end Go.Proofs.YtofghbnaofcpdaaDoor.Ab
