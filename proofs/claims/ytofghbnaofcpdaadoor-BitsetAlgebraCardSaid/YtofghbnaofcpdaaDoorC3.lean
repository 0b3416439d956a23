/-
  Steps towards the claim of this seat (C3).
-/
import Derived.Test.YtofghbnaofcpdaaDoorC2
set_option linter.unusedVariables false
set_option linter.unusedSimpArgs false
namespace Go.Proofs.YtofghbnaofcpdaaDoor.Ab
open Go

/-- a list of numbers, as a slice that is read -/
def dIs (l : List Int) : D := .sl .ro 1 (l.map dI)
def ofW : List Int → (Nat → BitVec 64) → (Nat → BitVec 64)
  | [], w => w
  | n :: l, w => ofW l (withW w n)
theorem ofW_append : ∀ (l m : List Int) (w : Nat → BitVec 64), ofW (l ++ m) w = ofW m (ofW l w)
  | [], _, _ => rfl
  | n :: l, m, w => ofW_append l m _
/-- a slice of numbers in one of its forms -/
inductive IsInts (l : List Int) : SV → Prop
  | nil (sz : Nat) (h : l = []) : IsInts l (.d (.sl .nil sz []))
  | ro : IsInts l (.d (dIs l))
  | full : IsInts l (.full 1 (l.map dI))
theorem IsInts.elems {l : List Int} {x : SV} (h : IsInts l x) : elems 1 x = some (l.map dI) ∧ elemsAny x = some (l.map dI) ∧ demote x = x := by
  cases h with
  | nil sz h => subst h; exact ⟨rfl, rfl, rfl⟩
  | ro => exact ⟨rfl, rfl, rfl⟩
  | full => exact ⟨rfl, rfl, rfl⟩
theorem IsInts.len {l : List Int} {x : SV} (h : IsInts l x) : lenL x = some (.d (.int .i64 (l.length : Int))) := by
  simp [lenL, h.elems.2.1]
theorem IsInts.at {l : List Int} {x : SV} (h : IsInts l x) {i : Nat} (hi : i < l.length) : elemPtr 1 x (.d (.int .i64 (i : Int))) = some (.dptr (dI l[i]) 0) := by
  unfold elemPtr
  rw [h.elems.1]
  simp only [List.length_map]
  rw [index_nat hi]
  simp [hi]
theorem load_int (n : Int) : loadV false 1 (.dptr (dI n) 0) = some (.d (dI n)) := rfl
theorem e18 : Enters Tryd.prog 18 := enters_some (fn := Tryd.f18) (by kernel_rfl) (by kernel_rfl) (by kernel_rfl)
theorem ofR_holds (l : List Int) {x : SV} (hx : IsInts l x) (hl : l.length < 2 ^ 62) : Holds Tryd.prog gl 18 [x] (.d (dSet (ofW l fun _ => 0))) := by
  refine holds_of_body hm1 e18 (h := h18) ?_
  rw [body18]
  intro hwf
  have hd := hx.elems.2.2
  simp only [demote_d, parts_nil, build_set, bindO_some', zero_set, cells_set, len_cSet, true_and, Nat.le_refl, set_all, Box.vals]
  refine loopP_count (fun i => [x, .d (.int .i64 ((i : Nat) : Int))]) (fun i => [cSet fun _ => 0, cSet (ofW (l.take i) fun _ => 0)]) l.length (fun i hi I hI => ?_) (fun I => ?_)
  · simp only [vget, bget, List.getD_cons_zero, List.getD_cons_succ, hd, hx.len, demote_d, lss_lit, bindO_some', ifP_dec]
    refine ⟨fun _ => ?_, fun h => absurd h (by simpa using hi)⟩
    simp only [part_set, bindO_some', demote_d]
    rw [hx.at hi]
    simp only [bindO_some', demote, load_int]
    refine callP_of (withR_holds _ _) ?_
    simp only [demote_d, cells_set, bindO_some', len_cSet, true_and, set_all, Nat.le_refl]
    rw [add_one (by omega)]
    have e : ofW (l.take (i + 1)) (fun _ => 0) = withW (ofW (l.take i) fun _ => 0) l[i] := by
      rw [List.take_add_one, ofW_append]
      simp [hi, ofW]
    rw [e] at hI
    exact hI
  · simp only [vget, bget, List.getD_cons_zero, List.getD_cons_succ, hd, hx.len, demote_d, lss_lit, bindO_some', ifP_dec, List.take_length]
    refine ⟨fun h => absurd h (by simp), fun _ => ?_⟩
    simp only [part_set, bindO_some', demote_d, cells_set, len_cSet, true_and, set_all, noRef_d, Nat.le_refl]
theorem e15 : Enters Tryd.prog 15 := enters_some (fn := Tryd.f15) (by kernel_rfl) (by kernel_rfl) (by kernel_rfl)
theorem of_holds (l : List Int) {x : SV} (hx : IsInts l x) (hl : l.length < 2 ^ 62) : Holds Tryd.prog gl 15 [x] (.d (dSet (ofW l fun _ => 0))) := by
  refine holds_of_body hm1 e15 (h := h15) ?_
  rw [body15]
  intro hwf
  have hd := hx.elems.2.2
  simp only [hd, hx.len, demote_d, bindO_some', zero_set]
  refine loopP_count (fun i => [x, .d (.int .i64 (l.length : Int)), .d (.int .i64 ((i : Nat) : Int))]) (fun i => [cSet fun _ => 0, cSet (ofW (l.take i) fun _ => 0)]) l.length (fun i hi I hI => ?_) (fun I => ?_)
  · simp only [vget, bget, List.getD_cons_zero, List.getD_cons_succ, hd, hx.len, demote_d, lss_lit, bindO_some', ifP_dec]
    refine ⟨fun _ => ?_, fun h => absurd h (by simpa using hi)⟩
    simp only [part_set, bindO_some', demote_d]
    rw [hx.at hi]
    simp only [bindO_some', demote, load_int]
    refine callP_of (with_holds _ _) ?_
    simp only [demote_d, cells_set, bindO_some', len_cSet, true_and, set_all, Nat.le_refl]
    rw [add_one (by omega)]
    have e : ofW (l.take (i + 1)) (fun _ => 0) = withW (ofW (l.take i) fun _ => 0) l[i] := by
      rw [List.take_add_one, ofW_append]
      simp [hi, ofW]
    rw [e] at hI
    exact hI
  · simp only [vget, bget, List.getD_cons_zero, List.getD_cons_succ, hd, hx.len, demote_d, lss_lit, bindO_some', ifP_dec, List.take_length]
    refine ⟨fun h => absurd h (by simp), fun _ => ?_⟩
    simp only [part_set, bindO_some', demote_d, cells_set, len_cSet, true_and, set_all, noRef_d, Nat.le_refl]
end Go.Proofs.YtofghbnaofcpdaaDoor.Ab
