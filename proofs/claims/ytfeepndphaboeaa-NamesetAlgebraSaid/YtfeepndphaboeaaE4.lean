/-
  SETS OF NAMES: the reference's way, and lists of names.
-/
import Derived.Test.YtfeepndphaboeaaE3
set_option linter.unusedVariables false
set_option linter.unusedSimpArgs false
namespace Go.Proofs.Ytfeepndphaboeaa.Ab
open Go

/-- the parts together -/
def combW (n : NsD) (i o all : Nat → BitVec 64) : Nat → BitVec 64 :=
  if n.not then subW all (subW (orW (if n.all then all else fun _ => 0) i) o) else subW (orW (if n.all then all else fun _ => 0) i) o
theorem e41 : Enters Try.prog 41 := enters_some (fn := Try.f41) (by kernel_rfl) (by kernel_rfl) (by kernel_rfl)
theorem combine_holds (n : NsD) (i o : Nat → BitVec 64) (size : Int) : Holds Try.prog gl 41 [.d n.enc, .d (dSet i), .d (dSet o), .d (dI size)] (.d (dSet (combW n i o (allW (clip size))))) := by
  refine holds_of_body hm1 e41 (h := h41) ?_
  rw [body41]
  intro hwf
  rw [demote_d, demote_d, demote_d]
  refine bindO_to (cells_ns n) ⟨rfl, ?_⟩
  refine bindO_to (cells_set i) ⟨len_cSet _, ?_⟩
  refine bindO_to (cells_set o) ⟨len_cSet _, ?_⟩
  refine callP_of (allR_holds size) ?_
  generalize allW (clip size) = all
  refine bindO_to (cells_set all) ⟨len_cSet _, Nat.le_refl 4, ?_⟩
  refine bindO_to (ns_all n) ?_
  rw [demote_d, ifP_dec, zero_set, set_all]
  refine ⟨fun h => ?_, fun h => ?_⟩
  · refine bindO_to (part_set all) ?_
    refine bindO_to (cells_set all) ⟨len_cSet _, Nat.le_refl 4, ?_⟩
    rw [set_all]
    refine bindO_to (part_set all) ?_
    refine bindO_to (part_set i) ?_
    refine callP_of (unionR_holds all i) ?_
    refine bindO_to (part_set o) ?_
    refine callP_of (minusR_holds _ o) ?_
    refine bindO_to (cells_set _) ⟨len_cSet _, le_cSet _, ?_⟩
    refine bindO_to (ns_not n) ?_
    rw [demote_d, ifP_dec, set_all]
    refine ⟨fun h' => ?_, fun h' => ?_⟩
    · refine bindO_to (part_set all) ?_
      refine bindO_to (part_set _) ?_
      refine callP_of (minusR_holds _ _) ?_
      refine bindO_to (cells_set _) ⟨len_cSet _, le_cSet _, ?_⟩
      rw [set_all]
      refine bindO_to (part_set _) ?_
      refine bindO_to (cells_set _) ⟨len_cSet _, Nat.le_refl 4, ?_⟩
      rw [set_all]
      refine bindO_to (part_set _) ⟨rfl, ?_⟩
      rw [combW, h, h']
      rfl
    · refine bindO_to (part_set _) ?_
      refine bindO_to (cells_set _) ⟨len_cSet _, Nat.le_refl 4, ?_⟩
      rw [set_all]
      refine bindO_to (part_set _) ⟨rfl, ?_⟩
      rw [combW, h, h']
      rfl
  · refine bindO_to (part_set _) ?_
    refine bindO_to (part_set i) ?_
    refine callP_of (unionR_holds _ i) ?_
    refine bindO_to (part_set o) ?_
    refine callP_of (minusR_holds _ o) ?_
    refine bindO_to (cells_set _) ⟨len_cSet _, Nat.le_refl 4, ?_⟩
    refine bindO_to (ns_not n) ?_
    rw [demote_d, ifP_dec, set_all]
    refine ⟨fun h' => ?_, fun h' => ?_⟩
    · refine bindO_to (part_set all) ?_
      refine bindO_to (part_set _) ?_
      refine callP_of (minusR_holds _ _) ?_
      refine bindO_to (cells_set _) ⟨len_cSet _, le_cSet _, ?_⟩
      rw [set_all]
      refine bindO_to (part_set _) ?_
      refine bindO_to (cells_set _) ⟨len_cSet _, Nat.le_refl 4, ?_⟩
      rw [set_all]
      refine bindO_to (part_set _) ⟨rfl, ?_⟩
      rw [combW, h, h']
      rfl
    · refine bindO_to (part_set _) ?_
      refine bindO_to (cells_set _) ⟨len_cSet _, Nat.le_refl 4, ?_⟩
      rw [set_all]
      refine bindO_to (part_set _) ⟨rfl, ?_⟩
      rw [combW, h, h']
      rfl

/-- what names mean together -/
def togF (F : List UInt8 → Option (Nat → BitVec 64)) (l : List (List UInt8)) : Option (Nat → BitVec 64) := if allF F l then some (accF orW F l fun _ => 0) else none
theorem e40 : Enters Try.prog 40 := enters_some (fn := Try.f40) (by kernel_rfl) (by kernel_rfl) (by kernel_rfl)
theorem typesR_holds (l : List (List UInt8)) {x : D} (hx : IsD 1 (dStrs l) x) (hl : l.length ≤ maxLen) (e : EnvD) : Holds Try.prog gl 40 [.d x, .d e.enc] (tupS (togF (oneF e) l)) := by
  refine holds_of_body hm1 e40 (h := h40) ?_
  rw [body40]
  intro hwf
  rw [demote_d]
  refine bindO_to (cells_env e) ⟨rfl, ?_⟩
  rw [zero_set]
  refine loopP_inv (fun i => allF (oneF e) (l.take i) = true) (fun i => [.d x, .d (.int .i64 ((i : Nat) : Int))]) (fun i => [cEnv e, cSet (fun _ => 0), cSet (accF orW (oneF e) (l.take i) fun _ => 0)]) l.length rfl (fun i hi hJ I hI => ?_) (fun hJ I => ?_)
  · simp only [vget, bget, List.getD_cons_zero, List.getD_cons_succ, demote_d]
    refine bindO_to hx.len ?_
    rw [len_strs]
    refine bindO_to (lss_int _ _ _) ?_
    refine ifP_to rfl (decide_eq_true (by omega)) ?_
    obtain ⟨y, hy⟩ := get_some hi
    refine bindO_to (hx.at (at_strs hy)) ?_
    refine bindO_to (load_str y) ?_
    refine bindO_to (part_env e) ?_
    refine call2 (oneR_holds e y) ?_
    refine bindO_to (cells_set _) ⟨len_cSet _, Nat.le_refl 4, ?_⟩
    rw [demote_d, demote_d, demote_d, demote_d, demote_d, un_not, bindO_some', ifP_dec]
    refine ⟨fun h => ?_, fun h => ?_⟩
    · have h' : (oneF e y).isSome = false := by simpa using h
      refine bindO_to parts_nil ?_
      refine bindO_to build_set ?_
      refine bindO_to (cells_set _) ⟨len_cSet _, le_cSet _, ?_⟩
      rw [set_all]
      refine bindO_to (part_set _) ⟨rfl, rfl, ?_⟩
      rw [togF, allF_not hy h', if_neg (by decide), tupS_none]
      rfl
    · have h' : (oneF e y).isSome = true := by simpa using h
      refine bindO_to (part_set _) ?_
      rw [set_all]
      refine bindO_to (part_set _) ?_
      refine callP_of (unionR_holds _ _) ?_
      refine bindO_to (cells_set _) ⟨len_cSet _, le_cSet _, ?_⟩
      rw [set_all]
      refine bindO_to (add_up hi hl) ?_
      rw [accF_take hy] at hI
      exact hI (by rw [allF_take hy, hJ, h']; rfl)
  · rw [List.take_length] at hJ ⊢
    have e1 : togF (oneF e) l = some (accF orW (oneF e) l fun _ => 0) := by rw [togF, hJ, if_pos rfl]
    rw [e1]
    generalize accF orW (oneF e) l (fun _ => 0) = s1
    simp only [vget, bget, List.getD_cons_zero, List.getD_cons_succ, demote_d]
    refine bindO_to hx.len ?_
    rw [len_strs]
    refine bindO_to (lss_int _ _ _) ?_
    refine ifP_no rfl (decide_eq_false (by omega)) ?_
    refine bindO_to (part_set _) ?_
    refine bindO_to (cells_set _) ⟨len_cSet _, le_cSet _, ?_⟩
    rw [set_all]
    refine bindO_to (part_set _) ⟨rfl, rfl, ?_⟩
    rw [tupS_some]
    rfl

/-- a name's number, as a set -/
def numW (names : List (List UInt8)) (most : Nat) (s : List UInt8) : Option (Nat → BitVec 64) := match idx names s with
  | some k => if k < most then some (ofW [(k : Int)] fun _ => 0) else none
  | none => none
theorem withW_or (w : Nat → BitVec 64) (n : Int) : withW w n = orW w (ofW [n] fun _ => 0) := by
  funext j
  simp only [ofW, orW, withW]
  by_cases h : 0 ≤ n ∧ n < 256
  · rw [if_pos h, if_pos h]
    simp only [upW]
    by_cases hj : j = n.toNat / 64
    · subst hj; simp
    · simp [hj]
  · rw [if_neg h, if_neg h]
    simp
theorem e54 : Enters Try.prog 54 := enters_some (fn := Try.f54) (by kernel_rfl) (by kernel_rfl) (by kernel_rfl)
theorem numbersR_holds (l : List (List UInt8)) {x : D} (hx : IsD 1 (dStrs l) x) (hl : l.length ≤ maxLen) (names : List (List UInt8)) {y : SV} (hy : IsSl 1 (dStrs names) y) (hn : names.length ≤ maxLen) (most : Nat) :
    Holds Try.prog gl 54 [.d x, y, .d (.int .i64 (most : Int))] (tupS (togF (numW names most) l)) := by
  refine holds_of_body hm1 e54 (h := h54) ?_
  rw [body54]
  intro hwf
  rw [zero_set]
  refine loopP_inv (fun i => allF (numW names most) (l.take i) = true) (fun i => [.d x, y, .d (.int .i64 (most : Int)), .d (.int .i64 ((i : Nat) : Int))]) (fun i => [cSet (fun _ => 0), cSet (accF orW (numW names most) (l.take i) fun _ => 0)]) l.length rfl (fun i hi hJ I hI => ?_) (fun hJ I => ?_)
  · simp only [vget, bget, List.getD_cons_zero, List.getD_cons_succ, demote_d, hy.dem]
    refine bindO_to hx.len ?_
    rw [len_strs]
    refine bindO_to (lss_int _ _ _) ?_
    refine ifP_to rfl (decide_eq_true (by omega)) ?_
    obtain ⟨s, hs⟩ := get_some hi
    refine bindO_to (hx.at (at_strs hs)) ?_
    refine bindO_to (load_str s) ?_
    refine callP_of (indexR_holds names hy hn s) ?_
    simp only [demote_d, dI]
    rw [lss_int, bindO_some', demote_d, ifP_dec, orM_neg]
    refine ⟨fun h => ?_, fun h => ?_⟩
    · have h' : numW names most s = none := by rw [numW]; cases hk : idx names s with | none => rfl | some k => rw [hk] at h; cases h
      refine bindO_to parts_nil ?_
      refine bindO_to build_set ?_
      refine bindO_to (cells_set _) ⟨len_cSet _, le_cSet _, ?_⟩
      rw [set_all]
      refine bindO_to (part_set _) ⟨rfl, rfl, ?_⟩
      rw [togF, allF_not hs (by rw [h']; rfl), if_neg (by decide), tupS_none]
      rfl
    · obtain ⟨k, hk⟩ : ∃ k, idx names s = some k := by cases hk : idx names s with | none => rw [hk] at h; cases h | some k => exact ⟨k, rfl⟩
      rw [hk]
      simp only [orM]
      rw [geq_int, bindO_some', demote_d, ifP_dec]
      refine ⟨fun h1 => ?_, fun h1 => ?_⟩
      · have h2 : ¬ k < most := by have := of_decide_eq_true h1; omega
        have h' : numW names most s = none := by rw [numW, hk]; exact if_neg h2
        refine bindO_to parts_nil ?_
        refine bindO_to build_set ?_
        refine bindO_to (cells_set _) ⟨len_cSet _, le_cSet _, ?_⟩
        rw [set_all]
        refine bindO_to (part_set _) ⟨rfl, rfl, ?_⟩
        rw [togF, allF_not hs (by rw [h']; rfl), if_neg (by decide), tupS_none]
        rfl
      · have h2 : k < most := by have := of_decide_eq_false h1; omega
        have h' : numW names most s = some (ofW [(k : Int)] fun _ => 0) := by rw [numW, hk]; exact if_pos h2
        refine bindO_to (part_set _) ?_
        refine callP_of (withR_holds _ (k : Int)) ?_
        refine bindO_to (cells_set _) ⟨len_cSet _, le_cSet _, ?_⟩
        rw [set_all]
        refine bindO_to (add_up hi hl) ?_
        rw [accF_take hs, h', Option.getD_some, ← withW_or] at hI
        exact hI (by rw [allF_take hs, hJ, h']; rfl)
  · rw [List.take_length] at hJ ⊢
    have e1 : togF (numW names most) l = some (accF orW (numW names most) l fun _ => 0) := by rw [togF, hJ, if_pos rfl]
    rw [e1]
    generalize accF orW (numW names most) l (fun _ => 0) = s1
    simp only [vget, bget, List.getD_cons_zero, List.getD_cons_succ, demote_d, hy.dem]
    refine bindO_to hx.len ?_
    rw [len_strs]
    refine bindO_to (lss_int _ _ _) ?_
    refine ifP_no rfl (decide_eq_false (by omega)) ?_
    refine bindO_to (part_set _) ?_
    refine bindO_to (cells_set _) ⟨len_cSet _, le_cSet _, ?_⟩
    rw [set_all]
    refine bindO_to (part_set _) ⟨rfl, rfl, ?_⟩
    rw [tupS_some]
    rfl

/-- a name's number in a list, as a set -/
def idxW (l : List (List UInt8)) (s : List UInt8) : Option (Nat → BitVec 64) := (idx l s).map fun (k : Nat) => ofW [(k : Int)] fun _ => 0
theorem orM_some (k : Nat) : orM (some k) = (k : Int) := rfl
theorem orM_none : orM none = -1 := rfl
theorem ofW_neg : ofW [-1] (fun _ => (0 : BitVec 64)) = fun _ => 0 := by
  simp only [ofW, withW]
  rw [if_neg (by decide)]
theorem idxW_eq (l : List (List UInt8)) (s : List UInt8) : tupS (idxW l s) = .tup [.d (dSet (ofW [orM (idx l s)] fun _ => 0)), .d (.bool (idx l s).isSome)] := by
  unfold idxW
  cases idx l s with
  | some k => rw [Option.map_some, tupS_some, orM_some, Option.isSome_some]
  | none => rw [Option.map_none, tupS_none, orM_none, Option.isSome_none, ofW_neg]
theorem e53 : Enters Try.prog 53 := enters_some (fn := Try.f53) (by kernel_rfl) (by kernel_rfl) (by kernel_rfl)
theorem num_holds (l : List (List UInt8)) {x : D} (hx : IsD 1 (dStrs l) x) (hl : l.length ≤ maxLen) (s : List UInt8) : Holds Try.prog gl 53 [.d (.str s), .ref [.d x] 0] (tupS (idxW l s)) := by
  refine holds_of_body hm1 e53 (h := h53) ?_
  rw [body53]
  intro hwf
  rw [demote_d, demote_d, demote_d]
  refine bindO_to (show loadV false 1 (.ref [.d x] 0) = some (.d x) from rfl) ?_
  refine callP_of (index_holds l hx.sv hl s) ?_
  rw [idxW_eq]
  generalize idx l s = o
  simp only [demote_d, dI]
  refine bindO_to (parts_one _) ⟨fit_one _, ?_⟩
  refine callP_of (of_holds [orM o] (is_one _) (by show 1 < 2 ^ 62; decide)) ?_
  rw [geq_int, bindO_some', orM_geq]
  refine bindO_to (cells_set _) ⟨len_cSet _, Nat.le_refl 4, ?_⟩
  rw [zero_set, set_all]
  refine bindO_to (part_set _) ⟨rfl, rfl, ?_⟩
  rfl
end Go.Proofs.Ytfeepndphaboeaa.Ab
