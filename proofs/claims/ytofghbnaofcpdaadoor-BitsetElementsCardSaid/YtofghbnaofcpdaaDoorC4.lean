/-
  Steps towards the claim of this seat (C4).
-/
import Derived.Test.YtofghbnaofcpdaaDoorC3
set_option linter.unusedVariables false
set_option linter.unusedSimpArgs false
namespace Go.Proofs.YtofghbnaofcpdaaDoor.Ab
open Go

/-- numbers that a call has made -/
def nown (l : List Int) : SV := match l with
  | [] => .d (.sl .nil 0 [])
  | l => .own 1 (l.map dI)
theorem app_nown (l : List Int) (n : Int) (k : SV → Prop) (hb : (l.length + 1) * 8 ≤ 140737488355328) (hk : k (nown (l ++ [n]))) : appP 1 8 (nown l) (.full 1 [dI n]) k := by
  unfold appP
  have : appV 1 (nown l) (.full 1 [dI n]) = some (nown (l ++ [n]), l.length + 1) := by
    cases l with
    | nil => rfl
    | cons a l => simp [nown, appV, elems]
  rw [this]
  exact ⟨hb, hk⟩
theorem noRef_nown (l : List Int) : (nown l).noRef = true := by cases l <;> rfl
/-- the numbers below i that are in the set -/
def listW (w : Nat → BitVec 64) : Nat → List Int
  | 0 => []
  | i + 1 => listW w i ++ (if hasW w i then [(i : Int)] else [])
theorem listW_len (w : Nat → BitVec 64) : ∀ i, (listW w i).length ≤ i
  | 0 => Nat.le_refl _
  | i + 1 => by
    have := listW_len w i
    simp only [listW, List.length_append]
    split <;> simp <;> omega
theorem hasI_nat (w : Nat → BitVec 64) {i : Nat} (h : i < 256) : hasI w (i : Int) = hasW w i := by
  simp [hasI, show (i : Int) < 256 by omega]
theorem e14 : Enters Tryd.prog 14 := enters_some (fn := Tryd.f14) (by kernel_rfl) (by kernel_rfl) (by kernel_rfl)
theorem listR_holds (w : Nat → BitVec 64) : Holds Tryd.prog gl 14 [.d (dSet w)] (nown (listW w 256)) := by
  refine holds_of_body hm1 e14 (h := h14) ?_
  rw [body14]
  intro hwf
  simp only [demote_d, cells_set, bindO_some', len_cSet, true_and, Box.vals]
  refine loopP_count (fun i => [nown (listW w i), .d (.int .i64 ((i : Nat) : Int))]) (fun i => [cSet w]) 256 (fun i hi I hI => ?_) (fun I => ?_)
  · simp only [vget, bget, List.getD_cons_zero, List.getD_cons_succ, demote_d, lss_lit, bindO_some', ifP_dec]
    refine ⟨fun _ => ?_, fun h => absurd h (by simp; omega)⟩
    simp only [part_set, bindO_some', demote_d]
    refine callP_of (hasR_holds w i) ?_
    rw [hasI_nat w hi, add_one (by omega)]
    simp only [ifP_dec, bindO_some', demote_d]
    have hlen := listW_len w i
    refine ⟨fun h => ?_, fun h => ?_⟩
    · have e : listW w (i + 1) = listW w i ++ [(i : Int)] := by simp [listW, h]
      rw [e] at hI
      exact ⟨rfl, app_nown _ _ _ (by omega) hI⟩
    · have e : listW w (i + 1) = listW w i := by simp [listW, h]
      rw [e] at hI
      exact hI
  · simp only [vget, bget, List.getD_cons_zero, List.getD_cons_succ, demote_d, lss_lit, bindO_some', ifP_dec]
    refine ⟨fun h => absurd h (by simp), fun _ => ⟨noRef_nown _, ?_⟩⟩
    trivial
theorem e8 : Enters Tryd.prog 8 := enters_some (fn := Tryd.f8) (by kernel_rfl) (by kernel_rfl) (by kernel_rfl)
theorem list_holds (w : Nat → BitVec 64) : Holds Tryd.prog gl 8 [.d (dSet w)] (nown (listW w 256)) := by
  refine holds_of_body hm1 e8 (h := h8) ?_
  rw [body8]
  intro hwf
  simp only [demote_d, cells_set, bindO_some', len_cSet, true_and, Box.vals]
  refine loopP_count (fun i => [nown (listW w i), .d (.int .i64 ((i : Nat) : Int))]) (fun i => [cSet w]) 256 (fun i hi I hI => ?_) (fun I => ?_)
  · simp only [vget, bget, List.getD_cons_zero, List.getD_cons_succ, demote_d, lss_lit, bindO_some', ifP_dec]
    refine ⟨fun _ => ?_, fun h => absurd h (by simp; omega)⟩
    simp only [part_set, bindO_some', demote_d]
    refine callP_of (has_holds w i) ?_
    rw [hasI_nat w hi, add_one (by omega)]
    simp only [ifP_dec, bindO_some', demote_d]
    have hlen := listW_len w i
    refine ⟨fun h => ?_, fun h => ?_⟩
    · have e : listW w (i + 1) = listW w i ++ [(i : Int)] := by simp [listW, h]
      rw [e] at hI
      exact ⟨rfl, app_nown _ _ _ (by omega) hI⟩
    · have e : listW w (i + 1) = listW w i := by simp [listW, h]
      rw [e] at hI
      exact hI
  · simp only [vget, bget, List.getD_cons_zero, List.getD_cons_succ, demote_d, lss_lit, bindO_some', ifP_dec]
    refine ⟨fun h => absurd h (by simp), fun _ => ⟨noRef_nown _, ?_⟩⟩
    trivial
end Go.Proofs.YtofghbnaofcpdaaDoor.Ab
