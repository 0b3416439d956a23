/-
  FINDING NAMES.
-/
import Derived.Test.YtfeepndphaboeaaD1
import Derived.Test.YtfeepndphaboeaaTy3
set_option linter.unusedVariables false
set_option linter.unusedSimpArgs false
namespace Go.Proofs.Ytfeepndphaboeaa.Ab
open Go

/-- where a name stands -/
def idx (l : List (List UInt8)) (s : List UInt8) : Option Nat := first (fun x => x == s) l
theorem e47 : Enters Try.prog 47 := enters_some (fn := Try.f47) (by kernel_rfl) (by kernel_rfl) (by kernel_rfl)
theorem index_holds (l : List (List UInt8)) {x : SV} (hx : IsSl 1 (dStrs l) x) (hl : l.length ≤ maxLen) (s : List UInt8) : Holds Try.prog gl 47 [x, .d (.str s)] (.d (dI (orM (idx l s)))) := by
  refine holds_of_body hm1 e47 (h := h47) ?_
  rw [body47]
  intro hwf
  rw [hx.dem, hx.dem]
  refine bindO_to hx.len ?_
  rw [len_strs]
  refine loopP_inv (fun i => ∀ j y, j < i → l[j]? = some y → (y == s) = false) (fun i => [x, .d (.str s), .d (.int .i64 (l.length : Int)), .d (.int .i64 ((i : Nat) : Int))]) (fun _ => []) l.length (fun j y hj => absurd hj (by omega)) (fun i hi hJ I hI => ?_) (fun hJ I => ?_)
  · simp only [vget, List.getD_cons_zero, List.getD_cons_succ, demote_d, hx.dem]
    refine bindO_to (lss_int _ _ _) ?_
    refine ifP_to rfl (decide_eq_true (by omega)) ?_
    obtain ⟨y, hy⟩ := get_some hi
    refine bindO_to (hx.at (at_strs hy)) ?_
    refine bindO_to (load_str y) ?_
    refine bindO_to (eql_str s y) ?_
    refine ifP_by rfl (fun h => ?_) (fun h => ?_)
    · refine ⟨rfl, ?_⟩
      rw [idx, first_at hy (by rw [beq_iff_eq] at h ⊢; exact h.symm) hJ]
      rfl
    · refine bindO_to (add_up hi hl) ?_
      refine hI fun j z hj hz => ?_
      rcases Nat.lt_or_ge j i with h' | h'
      · exact hJ j z h' hz
      · have : j = i := by omega
        subst this
        rw [hy] at hz
        cases hz
        rw [beq_eq_false_iff_ne] at h ⊢
        exact fun e => h e.symm
  · simp only [vget, List.getD_cons_zero, List.getD_cons_succ, demote_d, hx.dem]
    refine bindO_to (lss_int _ _ _) ?_
    refine ifP_no rfl (decide_eq_false (by omega)) ?_
    refine ⟨rfl, ?_⟩
    rw [idx, first_none (fun j y hy => hJ j y (List.getElem?_eq_some_iff.1 hy).1 hy)]
    rfl
theorem e34 : Enters Try.prog 34 := enters_some (fn := Try.f34) (by kernel_rfl) (by kernel_rfl) (by kernel_rfl)
theorem indexR_holds (l : List (List UInt8)) {x : SV} (hx : IsSl 1 (dStrs l) x) (hl : l.length ≤ maxLen) (s : List UInt8) : Holds Try.prog gl 34 [x, .d (.str s)] (.d (dI (orM (idx l s)))) := by
  refine holds_of_body hm1 e34 (h := h34) ?_
  rw [body34]
  intro hwf
  refine loopP_inv (fun i => ∀ j y, j < i → l[j]? = some y → (y == s) = false) (fun i => [x, .d (.str s), .d (.int .i64 ((i : Nat) : Int))]) (fun _ => []) l.length (fun j y hj => absurd hj (by omega)) (fun i hi hJ I hI => ?_) (fun hJ I => ?_)
  · simp only [vget, List.getD_cons_zero, List.getD_cons_succ, demote_d, hx.dem]
    refine bindO_to hx.len ?_
    rw [len_strs]
    refine bindO_to (lss_int _ _ _) ?_
    refine ifP_to rfl (decide_eq_true (by omega)) ?_
    obtain ⟨y, hy⟩ := get_some hi
    refine bindO_to (hx.at (at_strs hy)) ?_
    refine bindO_to (load_str y) ?_
    refine bindO_to (eql_str y s) ?_
    refine ifP_by rfl (fun h => ?_) (fun h => ?_)
    · refine ⟨rfl, ?_⟩
      rw [idx, first_at hy h hJ]
      rfl
    · refine bindO_to (add_up hi hl) ?_
      refine hI fun j z hj hz => ?_
      rcases Nat.lt_or_ge j i with h' | h'
      · exact hJ j z h' hz
      · have : j = i := by omega
        subst this
        rw [hy] at hz
        cases hz
        exact h
  · simp only [vget, List.getD_cons_zero, List.getD_cons_succ, demote_d, hx.dem]
    refine bindO_to hx.len ?_
    rw [len_strs]
    refine bindO_to (lss_int _ _ _) ?_
    refine ifP_no rfl (decide_eq_false (by omega)) ?_
    refine ⟨rfl, ?_⟩
    rw [idx, first_none (fun j y hy => hJ j y (List.getElem?_eq_some_iff.1 hy).1 hy)]
    rfl
theorem e33 : Enters Try.prog 33 := enters_some (fn := Try.f33) (by kernel_rfl) (by kernel_rfl) (by kernel_rfl)
theorem contains_holds (l : List (List UInt8)) {x : SV} (hx : IsSl 1 (dStrs l) x) (hl : l.length ≤ maxLen) (s : List UInt8) : Holds Try.prog gl 33 [x, .d (.str s)] (.d (.bool (idx l s).isSome)) := by
  refine holds_of_body hm1 e33 (h := h33) ?_
  rw [body33]
  intro hwf
  rw [hx.dem, hx.dem, hx.dem]
  refine callP_of (index_holds l hx hl s) ?_
  refine bindO_to (geq_int _ _ _) ?_
  rw [orM_geq]
  exact ⟨rfl, rfl⟩

/-- a type, as data -/
structure TyD where
  name : List UInt8
  al : List (List UInt8)
  ad : D
  perm : Bool
  ha : IsD 1 (dStrs al) ad
  hl : al.length ≤ maxLen
def TyD.enc (t : TyD) : D := .agg [.str t.name, t.ad, .bool t.perm]
/-- an attribute, as data -/
structure AtD where
  name : List UInt8
  w : Nat → BitVec 64
def AtD.enc (t : AtD) : D := .agg [.str t.name, dW (t.w 0), dW (t.w 1), dW (t.w 2), dW (t.w 3)]
/-- an environment -/
structure EnvD where
  tys : List TyD
  td : D
  ats : List AtD
  ad : D
  ht : IsD 3 (tys.map TyD.enc) td
  ha : IsD 5 (ats.map AtD.enc) ad
  lt : tys.length ≤ maxLen
  la : ats.length ≤ maxLen
def EnvD.enc (e : EnvD) : D := .agg [e.td, e.ad]
def cEnv (e : EnvD) : List SV := [.d e.td, .d e.ad]
theorem cells_env (e : EnvD) : cellsV (.d e.enc) = some (cEnv e) := rfl
theorem part_env (e : EnvD) : partV true 2 0 (cEnv e) = some (.d e.enc) := rfl
theorem env_tys (e : EnvD) : partV false 1 0 (cEnv e) = some (.d e.td) := rfl
theorem env_ats (e : EnvD) : partV false 1 1 (cEnv e) = some (.d e.ad) := rfl
theorem at_map {α : Type} {f : α → D} {l : List α} {i : Nat} {t : α} (h : l[i]? = some t) : (l.map f)[i]? = some (f t) := by simp [h]
/-- does a type bear a name -/
def isTy (s : List UInt8) (t : TyD) : Bool := t.name == s || (idx t.al s).isSome
def tyF (e : EnvD) (s : List UInt8) : Option Nat := first (isTy s) e.tys
def tup2 (o : Option Nat) : SV := .tup [.d (dI ((o.getD 0 : Nat) : Int)), .d (.bool o.isSome)]
theorem e10 : Enters Try.prog 10 := enters_some (fn := Try.f10) (by kernel_rfl) (by kernel_rfl) (by kernel_rfl)
theorem type_holds (e : EnvD) (s : List UInt8) : Holds Try.prog gl 10 [.d (.str s), .d e.enc] (tup2 (tyF e s)) := by
  refine holds_of_body hm1 e10 (h := h10) ?_
  rw [body10]
  intro hwf
  rw [demote_d]
  refine bindO_to (cells_env e) ⟨rfl, ?_⟩
  refine bindO_to (env_tys e) ?_
  refine bindO_to e.ht.len ?_
  rw [List.length_map]
  refine loopP_inv (fun i => ∀ j y, j < i → e.tys[j]? = some y → isTy s y = false) (fun i => [.d (.str s), .d e.td, .d (.int .i64 (e.tys.length : Int)), .d (.int .i64 ((i : Nat) : Int))]) (fun _ => [cEnv e]) e.tys.length (fun j y hj => absurd hj (by omega)) (fun i hi hJ I hI => ?_) (fun hJ I => ?_)
  · simp only [vget, bget, List.getD_cons_zero, List.getD_cons_succ, demote_d]
    refine bindO_to (lss_int _ _ _) ?_
    refine ifP_to rfl (decide_eq_true (by omega)) ?_
    obtain ⟨t, ht⟩ := get_some hi
    refine bindO_to (e.ht.at (at_map ht)) ?_
    refine bindO_to (load_agg _ 3 rfl) ?_
    refine bindO_to (x := [.d (.str t.name), .d t.ad, .d (.bool t.perm)]) rfl ⟨rfl, Nat.le_refl 3, ?_⟩
    refine bindO_to (x := .d (.str t.name)) rfl ?_
    refine bindO_to (eql_str _ _) ?_
    refine ifP_by rfl (fun h => ?_) (fun h => ?_)
    · refine ⟨rfl, rfl, ?_⟩
      rw [tyF, first_at ht (by rw [isTy, h]; rfl) hJ]
      rfl
    · refine bindO_to (x := .d t.ad) rfl ?_
      refine callP_of (contains_holds t.al t.ha.sv t.hl s) ?_
      refine ifP_by rfl (fun h' => ?_) (fun h' => ?_)
      · refine ⟨rfl, rfl, ?_⟩
        rw [tyF, first_at ht (by rw [isTy, h', Bool.or_true]) hJ]
        rfl
      · refine bindO_to (add_up hi e.lt) ?_
        refine hI fun j z hj hz => ?_
        rcases Nat.lt_or_ge j i with hh | hh
        · exact hJ j z hh hz
        · have : j = i := by omega
          subst this
          rw [ht] at hz
          cases hz
          rw [isTy, h, h']
          rfl
  · simp only [vget, bget, List.getD_cons_zero, List.getD_cons_succ, demote_d]
    refine bindO_to (lss_int _ _ _) ?_
    refine ifP_no rfl (decide_eq_false (by omega)) ?_
    refine ⟨rfl, rfl, ?_⟩
    rw [tyF, first_none (fun j y hy => hJ j y (List.getElem?_eq_some_iff.1 hy).1 hy)]
    rfl
theorem e11 : Enters Try.prog 11 := enters_some (fn := Try.f11) (by kernel_rfl) (by kernel_rfl) (by kernel_rfl)
theorem typeR_holds (e : EnvD) (s : List UInt8) : Holds Try.prog gl 11 [.d (.str s), .d e.enc] (tup2 (tyF e s)) := by
  refine holds_of_body hm1 e11 (h := h11) ?_
  rw [body11]
  intro hwf
  rw [demote_d]
  refine bindO_to (cells_env e) ⟨rfl, ?_⟩
  refine loopP_inv (fun i => ∀ j y, j < i → e.tys[j]? = some y → isTy s y = false) (fun i => [.d (.str s), .d (.int .i64 ((i : Nat) : Int))]) (fun _ => [cEnv e]) e.tys.length (fun j y hj => absurd hj (by omega)) (fun i hi hJ I hI => ?_) (fun hJ I => ?_)
  · simp only [vget, bget, List.getD_cons_zero, List.getD_cons_succ, demote_d]
    refine bindO_to (env_tys e) ?_
    refine bindO_to e.ht.len ?_
    rw [List.length_map]
    refine bindO_to (lss_int _ _ _) ?_
    refine ifP_to rfl (decide_eq_true (by omega)) ?_
    obtain ⟨t, ht⟩ := get_some hi
    refine bindO_to (env_tys e) ?_
    refine bindO_to (e.ht.at (at_map ht)) ?_
    refine bindO_to (off_ptr _ _ _) ?_
    refine bindO_to (load_cell _ _ (.str t.name) rfl) ?_
    refine bindO_to (eql_str _ _) ?_
    refine ifP_by rfl (fun h => ?_) (fun h => ?_)
    · refine ⟨rfl, rfl, ?_⟩
      rw [tyF, first_at ht (by rw [isTy, h]; rfl) hJ]
      rfl
    · refine bindO_to (env_tys e) ?_
      refine bindO_to (e.ht.at (at_map ht)) ?_
      refine bindO_to (off_ptr _ _ _) ?_
      refine bindO_to (load_cell _ _ t.ad rfl) ?_
      refine callP_of (indexR_holds t.al t.ha.sv t.hl s) ?_
      refine bindO_to (geq_int _ _ _) ?_
      rw [orM_geq]
      refine ifP_by rfl (fun h' => ?_) (fun h' => ?_)
      · refine ⟨rfl, rfl, ?_⟩
        rw [tyF, first_at ht (by rw [isTy, h', Bool.or_true]) hJ]
        rfl
      · refine bindO_to (add_up hi e.lt) ?_
        refine hI fun j z hj hz => ?_
        rcases Nat.lt_or_ge j i with hh | hh
        · exact hJ j z hh hz
        · have : j = i := by omega
          subst this
          rw [ht] at hz
          cases hz
          rw [isTy, h, h']
          rfl
  · simp only [vget, bget, List.getD_cons_zero, List.getD_cons_succ, demote_d]
    refine bindO_to (env_tys e) ?_
    refine bindO_to e.ht.len ?_
    rw [List.length_map]
    refine bindO_to (lss_int _ _ _) ?_
    refine ifP_no rfl (decide_eq_false (by omega)) ?_
    refine ⟨rfl, rfl, ?_⟩
    rw [tyF, first_none (fun j y hy => hJ j y (List.getElem?_eq_some_iff.1 hy).1 hy)]
    rfl
end Go.Proofs.Ytfeepndphaboeaa.Ab
