/-
  WHAT A NAME MEANS.
-/
import Derived.Test.YtfeepndphaboeaaE1
set_option linter.unusedVariables false
set_option linter.unusedSimpArgs false
namespace Go.Proofs.Ytfeepndphaboeaa.Ab
open Go

/-- the types of an attribute -/
def atF (e : EnvD) (s : List UInt8) : Option (Nat → BitVec 64) := match first (fun a : AtD => a.name == s) e.ats with
  | some k => (match e.ats[k]? with | some a => some fun j => a.w j &&& allW (clip (e.tys.length : Int)) j | none => none)
  | none => none
def tupS (o : Option (Nat → BitVec 64)) : SV := .tup [.d (dSet (o.getD fun _ => 0)), .d (.bool o.isSome)]
theorem tupS_some (w : Nat → BitVec 64) : tupS (some w) = .tup [.d (dSet w), .d (.bool true)] := rfl
theorem tupS_none : tupS none = .tup [.d (dSet fun _ => 0), .d (.bool false)] := rfl
theorem le_cSet (w : Nat → BitVec 64) : 4 ≤ (cSet w).length := Nat.le_refl 4
theorem e12 : Enters Try.prog 12 := enters_some (fn := Try.f12) (by kernel_rfl) (by kernel_rfl) (by kernel_rfl)
theorem attr_holds (e : EnvD) (s : List UInt8) : Holds Try.prog gl 12 [.d (.str s), .d e.enc] (tupS (atF e s)) := by
  refine holds_of_body hm1 e12 (h := h12) ?_
  rw [body12]
  intro hwf
  rw [demote_d]
  refine bindO_to (cells_env e) ⟨rfl, ?_⟩
  refine bindO_to (env_ats e) ?_
  refine bindO_to e.ha.len ?_
  rw [List.length_map, zero_set]
  refine loopP_inv (fun i => ∀ j y, j < i → e.ats[j]? = some y → (y.name == s) = false) (fun i => [.d (.str s), .d e.ad, .d (.int .i64 (e.ats.length : Int)), .d (.int .i64 ((i : Nat) : Int))]) (fun _ => [cEnv e, cSet fun _ => 0]) e.ats.length (fun j y hj => absurd hj (by omega)) (fun i hi hJ I hI => ?_) (fun hJ I => ?_)
  · simp only [vget, bget, List.getD_cons_zero, List.getD_cons_succ, demote_d]
    refine bindO_to (lss_int _ _ _) ?_
    refine ifP_to rfl (decide_eq_true (by omega)) ?_
    obtain ⟨t, ht⟩ := get_some hi
    refine bindO_to (e.ha.at (at_map ht)) ?_
    refine bindO_to (load_agg _ 5 rfl) ?_
    refine bindO_to (x := [.d (.str t.name), .d (dW (t.w 0)), .d (dW (t.w 1)), .d (dW (t.w 2)), .d (dW (t.w 3))]) rfl ⟨rfl, Nat.le_refl 5, ?_⟩
    refine bindO_to (x := .d (.str t.name)) rfl ?_
    refine bindO_to (eql_str _ _) ?_
    refine ifP_by rfl (fun h => ?_) (fun h => ?_)
    · refine bindO_to (x := .d (dSet t.w)) rfl ?_
      refine bindO_to (env_tys e) ?_
      refine bindO_to e.ht.len ?_
      rw [List.length_map]
      refine callP_of (all_holds (e.tys.length : Int)) ?_
      refine callP_of (meet_holds t.w _) ?_
      refine bindO_to (cells_set _) ⟨len_cSet _, le_cSet _, ?_⟩
      rw [set_all]
      refine bindO_to (part_set _) ⟨rfl, rfl, ?_⟩
      have hf := first_at (p := fun a : AtD => a.name == s) ht h hJ
      rw [atF, hf]
      simp only [ht]
      rfl
    · refine bindO_to (add_up hi e.la) ?_
      refine hI fun j z hj hz => ?_
      rcases Nat.lt_or_ge j i with hh | hh
      · exact hJ j z hh hz
      · have : j = i := by omega
        subst this
        rw [ht] at hz
        cases hz
        exact h
  · simp only [vget, bget, List.getD_cons_zero, List.getD_cons_succ, demote_d]
    refine bindO_to (lss_int _ _ _) ?_
    refine ifP_no rfl (decide_eq_false (by omega)) ?_
    refine bindO_to parts_nil ?_
    refine bindO_to build_set ?_
    refine bindO_to (cells_set _) ⟨len_cSet _, le_cSet _, ?_⟩
    rw [set_all]
    refine bindO_to (part_set _) ⟨rfl, rfl, ?_⟩
    rw [atF, first_none (fun j y hy => hJ j y (List.getElem?_eq_some_iff.1 hy).1 hy)]
    rfl
theorem e13 : Enters Try.prog 13 := enters_some (fn := Try.f13) (by kernel_rfl) (by kernel_rfl) (by kernel_rfl)
theorem attrR_holds (e : EnvD) (s : List UInt8) : Holds Try.prog gl 13 [.d (.str s), .d e.enc] (tupS (atF e s)) := by
  refine holds_of_body hm1 e13 (h := h13) ?_
  rw [body13]
  intro hwf
  rw [demote_d]
  refine bindO_to (cells_env e) ⟨rfl, ?_⟩
  rw [zero_set]
  refine loopP_inv (fun i => ∀ j y, j < i → e.ats[j]? = some y → (y.name == s) = false) (fun i => [.d (.str s), .d (.int .i64 ((i : Nat) : Int))]) (fun _ => [cEnv e, cSet fun _ => 0]) e.ats.length (fun j y hj => absurd hj (by omega)) (fun i hi hJ I hI => ?_) (fun hJ I => ?_)
  · simp only [vget, bget, List.getD_cons_zero, List.getD_cons_succ, demote_d]
    refine bindO_to (env_ats e) ?_
    refine bindO_to e.ha.len ?_
    rw [List.length_map]
    refine bindO_to (lss_int _ _ _) ?_
    refine ifP_to rfl (decide_eq_true (by omega)) ?_
    obtain ⟨t, ht⟩ := get_some hi
    refine bindO_to (env_ats e) ?_
    refine bindO_to (e.ha.at (at_map ht)) ?_
    refine bindO_to (off_ptr _ _ _) ?_
    refine bindO_to (load_cell _ _ (.str t.name) rfl) ?_
    refine bindO_to (eql_str _ _) ?_
    refine ifP_by rfl (fun h => ?_) (fun h => ?_)
    · refine bindO_to (env_ats e) ?_
      refine bindO_to (e.ha.at (at_map ht)) ?_
      refine bindO_to (off_ptr _ _ _) ?_
      refine bindO_to (show loadV true 4 (.dptr t.enc 1) = some (.d (dSet t.w)) from rfl) ?_
      refine bindO_to (env_tys e) ?_
      refine bindO_to e.ht.len ?_
      rw [List.length_map]
      refine callP_of (allR_holds (e.tys.length : Int)) ?_
      refine callP_of (meetR_holds t.w _) ?_
      refine bindO_to (cells_set _) ⟨len_cSet _, le_cSet _, ?_⟩
      rw [set_all]
      refine bindO_to (part_set _) ⟨rfl, rfl, ?_⟩
      have hf := first_at (p := fun a : AtD => a.name == s) ht h hJ
      rw [atF, hf]
      simp only [ht]
      rfl
    · refine bindO_to (add_up hi e.la) ?_
      refine hI fun j z hj hz => ?_
      rcases Nat.lt_or_ge j i with hh | hh
      · exact hJ j z hh hz
      · have : j = i := by omega
        subst this
        rw [ht] at hz
        cases hz
        exact h
  · simp only [vget, bget, List.getD_cons_zero, List.getD_cons_succ, demote_d]
    refine bindO_to (env_ats e) ?_
    refine bindO_to e.ha.len ?_
    rw [List.length_map]
    refine bindO_to (lss_int _ _ _) ?_
    refine ifP_no rfl (decide_eq_false (by omega)) ?_
    refine bindO_to parts_nil ?_
    refine bindO_to build_set ?_
    refine bindO_to (cells_set _) ⟨len_cSet _, le_cSet _, ?_⟩
    rw [set_all]
    refine bindO_to (part_set _) ⟨rfl, rfl, ?_⟩
    rw [atF, first_none (fun j y hy => hJ j y (List.getElem?_eq_some_iff.1 hy).1 hy)]
    rfl

/-- what one name means -/
def oneF (e : EnvD) (s : List UInt8) : Option (Nat → BitVec 64) := match tyF e s with
  | some k => if k < 256 then some (ofW [(k : Int)] fun _ => 0) else atF e s
  | none => atF e s
theorem parts_one (n : Int) : partsS [(0, .v (.d (.int .i64 n)))] = some [(0, .int .i64 n)] := rfl
theorem fit_one (n : Int) : partsFit 1 1 [(0, .int .i64 n)] = true := rfl
theorem build_one (n : Int) : buildElems (mkElem false [.int .i64 0]) [(0, .int .i64 n)] 1 0 = [n].map dI := rfl
theorem is_one (n : Int) : IsInts [n] (.full 1 (buildElems (mkElem false [.int .i64 0]) [(0, .int .i64 n)] 1 0)) := .full
theorem e51 : Enters Try.prog 51 := enters_some (fn := Try.f51) (by kernel_rfl) (by kernel_rfl) (by kernel_rfl)
theorem oneR_holds (e : EnvD) (s : List UInt8) : Holds Try.prog gl 51 [.d (.str s), .d e.enc] (tupS (oneF e s)) := by
  refine holds_of_body hm1 e51 (h := h51) ?_
  rw [body51]
  intro hwf
  rw [demote_d, demote_d]
  refine bindO_to (cells_env e) ⟨rfl, ?_⟩
  refine bindO_to (part_env e) ?_
  have hT := typeR_holds e s
  cases ht : tyF e s with
  | some k =>
    rw [ht] at hT
    refine call2 (show Holds Try.prog gl _ _ (.tup [.d (dI (k : Int)), .d (.bool true)]) from hT) ?_
    have hk := first_lt ht
    have hl := e.lt
    simp only [maxLen] at hl
    simp only [demote_d, dI]
    rw [ifP_true]
    rw [lss_int, bindO_some', demote_d, ifP_dec]
    refine ⟨fun h => ?_, fun h => ?_⟩
    · have hk' : k < 256 := by have := of_decide_eq_true h; omega
      refine bindO_to (parts_one _) ⟨fit_one _, ?_⟩
      refine callP_of (ofR_holds [(k : Int)] (is_one _) (by show 1 < 2 ^ 62; decide)) ?_
      refine bindO_to (cells_set _) ⟨len_cSet _, Nat.le_refl 4, ?_⟩
      rw [zero_set, set_all]
      refine bindO_to (part_set _) ⟨rfl, rfl, ?_⟩
      have e1 : oneF e s = some (ofW [(k : Int)] fun _ => 0) := by rw [oneF, ht]; exact if_pos hk'
      rw [e1, demote_d, tupS_some]
    · have hk' : ¬ k < 256 := by have := of_decide_eq_false h; omega
      refine bindO_to (part_env e) ?_
      refine call2 (attrR_holds e s) ?_
      refine bindO_to (cells_set _) ⟨len_cSet _, Nat.le_refl 4, ?_⟩
      rw [zero_set, set_all]
      refine bindO_to (part_set _) ⟨rfl, rfl, ?_⟩
      have e1 : oneF e s = atF e s := by rw [oneF, ht]; exact if_neg hk'
      rw [e1]
      rfl
  | none =>
    rw [ht] at hT
    refine call2 (show Holds Try.prog gl _ _ (.tup [.d (dI (0 : Nat)), .d (.bool false)]) from hT) ?_
    refine ifP_no rfl rfl ?_
    refine bindO_to (part_env e) ?_
    refine call2 (attrR_holds e s) ?_
    refine bindO_to (cells_set _) ⟨len_cSet _, Nat.le_refl 4, ?_⟩
    rw [zero_set, set_all]
    refine bindO_to (part_set _) ⟨rfl, rfl, ?_⟩
    have e1 : oneF e s = atF e s := by rw [oneF, ht]
    rw [e1]
    rfl
theorem load_env (e : EnvD) : loadV true 2 (.ref (cEnv e) 0) = some (.d e.enc) := rfl
theorem e38 : Enters Try.prog 38 := enters_some (fn := Try.f38) (by kernel_rfl) (by kernel_rfl) (by kernel_rfl)
theorem one_holds (e : EnvD) (s : List UInt8) : Holds Try.prog gl 38 [.d (.str s), .ref (cEnv e) 0] (tupS (oneF e s)) := by
  refine holds_of_body hm1 e38 (h := h38) ?_
  rw [body38]
  intro hwf
  rw [demote_d, demote_d, demote_d]
  refine bindO_to (load_env e) ?_
  have hT := type_holds e s
  cases ht : tyF e s with
  | some k =>
    rw [ht] at hT
    refine call2 (show Holds Try.prog gl _ _ (.tup [.d (dI (k : Int)), .d (.bool true)]) from hT) ?_
    have hk := first_lt ht
    have hl := e.lt
    simp only [maxLen] at hl
    simp only [demote_d, dI]
    rw [ifP_true]
    rw [lss_int, bindO_some', demote_d, ifP_dec]
    refine ⟨fun h => ?_, fun h => ?_⟩
    · have hk' : k < 256 := by have := of_decide_eq_true h; omega
      refine bindO_to (parts_one _) ⟨fit_one _, ?_⟩
      refine callP_of (of_holds [(k : Int)] (is_one _) (by show 1 < 2 ^ 62; decide)) ?_
      refine bindO_to (cells_set _) ⟨len_cSet _, Nat.le_refl 4, ?_⟩
      rw [zero_set, set_all]
      refine bindO_to (part_set _) ⟨rfl, rfl, ?_⟩
      have e1 : oneF e s = some (ofW [(k : Int)] fun _ => 0) := by rw [oneF, ht]; exact if_pos hk'
      rw [e1, demote_d, tupS_some]
    · have hk' : ¬ k < 256 := by have := of_decide_eq_false h; omega
      refine bindO_to (load_env e) ?_
      refine call2 (attr_holds e s) ?_
      refine bindO_to (cells_set _) ⟨len_cSet _, Nat.le_refl 4, ?_⟩
      rw [zero_set, set_all]
      refine bindO_to (part_set _) ⟨rfl, rfl, ?_⟩
      have e1 : oneF e s = atF e s := by rw [oneF, ht]; exact if_neg hk'
      rw [e1]
      rfl
  | none =>
    rw [ht] at hT
    refine call2 (show Holds Try.prog gl _ _ (.tup [.d (dI (0 : Nat)), .d (.bool false)]) from hT) ?_
    refine ifP_no rfl rfl ?_
    refine bindO_to (load_env e) ?_
    refine call2 (attr_holds e s) ?_
    refine bindO_to (cells_set _) ⟨len_cSet _, Nat.le_refl 4, ?_⟩
    rw [zero_set, set_all]
    refine bindO_to (part_set _) ⟨rfl, rfl, ?_⟩
    have e1 : oneF e s = atF e s := by rw [oneF, ht]
    rw [e1]
    rfl
end Go.Proofs.Ytfeepndphaboeaa.Ab
