/-
  TYPES, LISTED, CLASSES, PERMS: with their errors.
-/
import Derived.Test.YtfeepndphaboeaaE5
set_option linter.unusedVariables false
set_option linter.unusedSimpArgs false
namespace Go.Proofs.Ytfeepndphaboeaa.Ab
open Go

def tupE (r : Option (Nat → BitVec 64)) (err : Int) : SV := .tup [.d (dSet (r.getD fun _ => 0)), .d (.int .i64 (if r.isSome then 0 else err))]
theorem tupE_some (w : Nat → BitVec 64) (err : Int) : tupE (some w) err = .tup [.d (dSet w), .d (.int .i64 0)] := rfl
theorem tupE_none (err : Int) : tupE none err = .tup [.d (dSet fun _ => 0), .d (.int .i64 err)] := rfl
/-- the types that a set of names means -/
def typF (n : NsD) (e : EnvD) : Option (Nat → BitVec 64) := meanF (oneF e) n (allW (clip (e.tys.length : Int)))
/-- a set's first word, as 32 bits -/
def lowW (w : Nat → BitVec 64) : Int := IntKind.u32.wrap ((w 0).toNat : Int)
def tupP (r : Option (Nat → BitVec 64)) : SV := match r with
  | some w => .tup [.d (.int .u32 (lowW w)), .d (.int .i64 0)]
  | none => .tup [.d (.int .u32 0), .d (.int .i64 21)]
theorem low_word (w : Nat → BitVec 64) {K : SV → Prop} (hK : K (.d (.int .u32 (lowW w)))) : bindO (indexOk (.d (.int .i64 0)) 4) fun r8 => bindO (partV false 1 (0 + (r8 * 1)) (cSet w)) fun r9 => bindO (convI .u32 (demote (demote r9))) K := by
  have h : indexOk (.d (.int .i64 0)) 4 = some 0 := rfl
  rw [h, bindO_some']
  refine bindO_to (part_word w (k := 0) (by decide)) ?_
  rw [demote_d, demote_d]
  exact bindO_to (show convI .u32 (.d (dW (w 0))) = some (.d (.int .u32 (lowW w))) from rfl) hK

theorem e14 : Enters Try.prog 14 := enters_some (fn := Try.f14) (by kernel_rfl) (by kernel_rfl) (by kernel_rfl)
theorem types_holds (n : NsD) (e : EnvD) : Holds Try.prog gl 14 [.d n.enc, .d e.enc] (tupE (typF n e) 11) := by
  refine holds_of_body hm1 e14 (h := h14) ?_
  rw [body14]
  intro hwf
  rw [demote_d, demote_d]
  refine bindO_to (cells_ns n) ⟨rfl, ?_⟩
  refine bindO_to (cells_env e) ⟨rfl, ?_⟩
  refine bindO_to (part_ns n) ?_
  refine bindO_to (env_tys e) ?_
  refine bindO_to e.ht.len ?_
  rw [List.length_map]
  refine callP_of (all_holds (e.tys.length : Int)) ?_
  have hT := meaning_holds 38 (.ref (cEnv e) 0) (oneF e) (one_holds e) n (allW (clip (e.tys.length : Int)))
  change Holds Try.prog gl 37 _ (tupS (typF n e)) at hT
  cases hr : typF n e with
  | none =>
    rw [hr, tupS_none] at hT
    refine call2 hT ?_
    refine bindO_to (cells_set _) ⟨len_cSet _, Nat.le_refl 4, ?_⟩
    simp only [demote_d]
    rw [un_not, bindO_some', Bool.not_false, ifP_true]
    refine bindO_to parts_nil ?_
    refine bindO_to build_set ?_
    refine bindO_to (cells_set _) ⟨len_cSet _, Nat.le_refl 4, ?_⟩
    rw [zero_set, set_all]
    refine bindO_to (part_set _) ⟨rfl, rfl, ?_⟩
    rw [tupE_none]
    rfl
  | some w =>
    rw [hr, tupS_some] at hT
    refine call2 hT ?_
    refine bindO_to (cells_set _) ⟨len_cSet _, Nat.le_refl 4, ?_⟩
    simp only [demote_d]
    rw [un_not, bindO_some', Bool.not_true, ifP_false, zero_set, set_all]
    refine bindO_to (part_set _) ?_
    refine bindO_to (cells_set _) ⟨len_cSet _, Nat.le_refl 4, ?_⟩
    rw [set_all]
    refine bindO_to (part_set _) ⟨rfl, rfl, ?_⟩
    rw [tupE_some]
    rfl

theorem e15 : Enters Try.prog 15 := enters_some (fn := Try.f15) (by kernel_rfl) (by kernel_rfl) (by kernel_rfl)
theorem typF_eq (n : NsD) (e : EnvD) : typF n e = match togF (oneF e) n.names, togF (oneF e) n.ex with | some i, some o => some (combW n i o (allW (clip (e.tys.length : Int)))) | _, _ => none := meanF_eq _ _ _
theorem typesS_holds (n : NsD) (e : EnvD) : Holds Try.prog gl 15 [.d n.enc, .d e.enc] (tupE (typF n e) 11) := by
  refine holds_of_body hm1 e15 (h := h15) ?_
  rw [body15]
  intro hwf
  rw [demote_d, demote_d]
  refine bindO_to (cells_ns n) ⟨rfl, ?_⟩
  refine bindO_to (cells_env e) ⟨rfl, ?_⟩
  refine bindO_to (ns_names n) ?_
  refine bindO_to (part_env e) ?_
  have h1 := typesR_holds n.names n.hn n.ln e
  have h2 := typesR_holds n.ex n.he n.le e
  rw [typF_eq, zero_set]
  refine call2 (show Holds Try.prog gl 40 _ (.tup [.d (dSet ((togF (oneF e) n.names).getD fun _ => 0)), .d (.bool (togF (oneF e) n.names).isSome)]) from h1) ?_
  refine bindO_to (cells_set _) ⟨len_cSet _, Nat.le_refl 4, ?_⟩
  refine bindO_to (ns_ex n) ?_
  refine bindO_to (part_env e) ?_
  refine call2 (show Holds Try.prog gl 40 _ (.tup [.d (dSet ((togF (oneF e) n.ex).getD fun _ => 0)), .d (.bool (togF (oneF e) n.ex).isSome)]) from h2) ?_
  refine bindO_to (cells_set _) ⟨len_cSet _, Nat.le_refl 4, ?_⟩
  generalize togF (oneF e) n.names = o1
  generalize togF (oneF e) n.ex = o2
  simp only [demote_d]
  rw [un_not, bindO_some', demote_d, ifP_dec]
  refine ⟨fun h => ?_, fun h => ?_⟩
  · refine bindO_to parts_nil ?_
    refine bindO_to build_set ?_
    refine bindO_to (cells_set _) ⟨len_cSet _, Nat.le_refl 4, ?_⟩
    rw [set_all]
    refine bindO_to (part_set _) ⟨rfl, rfl, ?_⟩
    cases o1 with
    | none => rfl
    | some _ => cases h
  · rw [un_not, bindO_some', demote_d, ifP_dec]
    refine ⟨fun h' => ?_, fun h' => ?_⟩
    · refine bindO_to parts_nil ?_
      refine bindO_to build_set ?_
      refine bindO_to (cells_set _) ⟨len_cSet _, Nat.le_refl 4, ?_⟩
      rw [set_all]
      refine bindO_to (part_set _) ⟨rfl, rfl, ?_⟩
      cases o2 with
      | none => cases o1 <;> rfl
      | some _ => cases h'
    · refine bindO_to (part_ns n) ?_
      rw [set_all, set_all]
      refine bindO_to (part_set _) ?_
      refine bindO_to (part_set _) ?_
      refine bindO_to (env_tys e) ?_
      refine bindO_to e.ht.len ?_
      rw [List.length_map]
      refine callP_of (combine_holds n _ _ (e.tys.length : Int)) ?_
      refine bindO_to (cells_set _) ⟨len_cSet _, Nat.le_refl 4, ?_⟩
      rw [set_all]
      refine bindO_to (part_set _) ⟨rfl, rfl, ?_⟩
      cases o1 with
      | none => cases h
      | some i =>
        cases o2 with
        | none => cases h'
        | some o => rw [tupE_some]; rfl

theorem e16 : Enters Try.prog 16 := enters_some (fn := Try.f16) (by kernel_rfl) (by kernel_rfl) (by kernel_rfl)
theorem listedE_holds (n : NsD) (l : List (List UInt8)) {x : SV} (hx : IsSl 1 (dStrs l) x) (hl : l.length ≤ maxLen) : Holds Try.prog gl 16 [.d n.enc, x] (tupE (lstF l 256 n) 11) := by
  refine holds_of_body hm1 e16 (h := h16) ?_
  rw [body16]
  intro hwf
  simp only [demote_d, hx.dem]
  refine bindO_to (cells_ns n) ⟨rfl, ?_⟩
  refine bindO_to (part_ns n) ?_
  have hT := listed_holds n l hx hl 256
  cases hr : lstF l 256 n with
  | none =>
    rw [hr, tupS_none] at hT
    refine call2 hT ?_
    refine bindO_to (cells_set _) ⟨len_cSet _, Nat.le_refl 4, ?_⟩
    simp only [demote_d]
    rw [un_not, bindO_some', Bool.not_false, ifP_true]
    refine bindO_to parts_nil ?_
    refine bindO_to build_set ?_
    refine bindO_to (cells_set _) ⟨len_cSet _, Nat.le_refl 4, ?_⟩
    rw [zero_set, set_all]
    refine bindO_to (part_set _) ⟨rfl, rfl, ?_⟩
    rw [tupE_none]
    rfl
  | some w =>
    rw [hr, tupS_some] at hT
    refine call2 hT ?_
    refine bindO_to (cells_set _) ⟨len_cSet _, Nat.le_refl 4, ?_⟩
    simp only [demote_d]
    rw [un_not, bindO_some', Bool.not_true, ifP_false, zero_set, set_all]
    refine bindO_to (part_set _) ?_
    refine bindO_to (cells_set _) ⟨len_cSet _, Nat.le_refl 4, ?_⟩
    rw [set_all]
    refine bindO_to (part_set _) ⟨rfl, rfl, ?_⟩
    rw [tupE_some]
    rfl

theorem e17 : Enters Try.prog 17 := enters_some (fn := Try.f17) (by kernel_rfl) (by kernel_rfl) (by kernel_rfl)
theorem listedER_holds (n : NsD) (l : List (List UInt8)) {x : SV} (hx : IsSl 1 (dStrs l) x) (hl : l.length ≤ maxLen) : Holds Try.prog gl 17 [.d n.enc, x] (tupE (lstF l 256 n) 11) := by
  refine holds_of_body hm1 e17 (h := h17) ?_
  rw [body17]
  intro hwf
  simp only [demote_d, hx.dem]
  refine bindO_to (cells_ns n) ⟨rfl, ?_⟩
  refine bindO_to (part_ns n) ?_
  have hT := listedR_holds n l hx hl 256
  cases hr : lstF l 256 n with
  | none =>
    rw [hr, tupS_none] at hT
    refine call2 hT ?_
    refine bindO_to (cells_set _) ⟨len_cSet _, Nat.le_refl 4, ?_⟩
    simp only [demote_d]
    rw [un_not, bindO_some', Bool.not_false, ifP_true]
    refine bindO_to parts_nil ?_
    refine bindO_to build_set ?_
    refine bindO_to (cells_set _) ⟨len_cSet _, Nat.le_refl 4, ?_⟩
    rw [zero_set, set_all]
    refine bindO_to (part_set _) ⟨rfl, rfl, ?_⟩
    rw [tupE_none]
    rfl
  | some w =>
    rw [hr, tupS_some] at hT
    refine call2 hT ?_
    refine bindO_to (cells_set _) ⟨len_cSet _, Nat.le_refl 4, ?_⟩
    simp only [demote_d]
    rw [un_not, bindO_some', Bool.not_true, ifP_false, zero_set, set_all]
    refine bindO_to (part_set _) ?_
    refine bindO_to (cells_set _) ⟨len_cSet _, Nat.le_refl 4, ?_⟩
    rw [set_all]
    refine bindO_to (part_set _) ⟨rfl, rfl, ?_⟩
    rw [tupE_some]
    rfl

theorem e20 : Enters Try.prog 20 := enters_some (fn := Try.f20) (by kernel_rfl) (by kernel_rfl) (by kernel_rfl)
theorem perms_holds (n : NsD) (s : List UInt8) (l : List (List UInt8)) {x : D} (hx : IsD 1 (dStrs l) x) (hl : l.length ≤ maxLen) : Holds Try.prog gl 20 [.d n.enc, .d (.agg [.str s, x])] (tupP (lstF l 32 n)) := by
  refine holds_of_body hm1 e20 (h := h20) ?_
  rw [body20]
  intro hwf
  rw [demote_d, demote_d]
  refine bindO_to (cells_ns n) ⟨rfl, ?_⟩
  refine bindO_to (show cellsV (.d (.agg [.str s, x])) = some [.d (.str s), .d x] from rfl) ⟨rfl, ?_⟩
  refine bindO_to (part_ns n) ?_
  refine bindO_to (show partV false 1 1 [.d (.str s), .d x] = some (.d x) from rfl) ?_
  have hT := listed_holds n l hx.sv hl 32
  cases hr : lstF l 32 n with
  | none =>
    rw [hr, tupS_none] at hT
    refine call2 hT ?_
    refine bindO_to (cells_set _) ⟨len_cSet _, Nat.le_refl 4, ?_⟩
    simp only [demote_d]
    rw [un_not, bindO_some', Bool.not_false, ifP_true]
    exact ⟨rfl, rfl, rfl⟩
  | some w =>
    rw [hr, tupS_some] at hT
    refine call2 hT ?_
    refine bindO_to (cells_set _) ⟨len_cSet _, Nat.le_refl 4, ?_⟩
    simp only [demote_d]
    rw [un_not, bindO_some', Bool.not_true, ifP_false, zero_set, set_all]
    refine low_word w ?_
    exact ⟨rfl, rfl, rfl⟩

theorem e21 : Enters Try.prog 21 := enters_some (fn := Try.f21) (by kernel_rfl) (by kernel_rfl) (by kernel_rfl)
theorem permsR_holds (n : NsD) (s : List UInt8) (l : List (List UInt8)) {x : D} (hx : IsD 1 (dStrs l) x) (hl : l.length ≤ maxLen) : Holds Try.prog gl 21 [.d n.enc, .d (.agg [.str s, x])] (tupP (lstF l 32 n)) := by
  refine holds_of_body hm1 e21 (h := h21) ?_
  rw [body21]
  intro hwf
  rw [demote_d, demote_d]
  refine bindO_to (cells_ns n) ⟨rfl, ?_⟩
  refine bindO_to (show cellsV (.d (.agg [.str s, x])) = some [.d (.str s), .d x] from rfl) ⟨rfl, ?_⟩
  refine bindO_to (part_ns n) ?_
  refine bindO_to (show partV false 1 1 [.d (.str s), .d x] = some (.d x) from rfl) ?_
  have hT := listedR_holds n l hx.sv hl 32
  cases hr : lstF l 32 n with
  | none =>
    rw [hr, tupS_none] at hT
    refine call2 hT ?_
    refine bindO_to (cells_set _) ⟨len_cSet _, Nat.le_refl 4, ?_⟩
    simp only [demote_d]
    rw [un_not, bindO_some', Bool.not_false, ifP_true]
    exact ⟨rfl, rfl, rfl⟩
  | some w =>
    rw [hr, tupS_some] at hT
    refine call2 hT ?_
    refine bindO_to (cells_set _) ⟨len_cSet _, Nat.le_refl 4, ?_⟩
    simp only [demote_d]
    rw [un_not, bindO_some', Bool.not_true, ifP_false, zero_set, set_all]
    refine low_word w ?_
    exact ⟨rfl, rfl, rfl⟩

/-- a class, as data -/
structure ClD where
  name : List UInt8
  perms : D
def ClD.enc (c : ClD) : D := .agg [.str c.name, c.perms]
/-- names that a call has made -/
def sown (l : List (List UInt8)) : SV := match l with
  | [] => .d (.sl .nil 0 [])
  | l => .own 1 (dStrs l)
theorem isTup_sown (l : List (List UInt8)) : isTup (sown l) = false := by cases l <;> rfl
theorem noRef_sown (l : List (List UInt8)) : (sown l).noRef = true := by cases l <;> rfl
theorem is_sown (l : List (List UInt8)) : IsSl 1 (dStrs l) (demote (sown l)) := by
  cases l with
  | nil => exact .nil 0 rfl
  | cons a l => exact .ro
theorem app_sown (l : List (List UInt8)) (s : List UInt8) (k : SV → Prop) (hb : (l.length + 1) * 16 ≤ 140737488355328) (hk : k (sown (l ++ [s]))) : appP 1 16 (sown l) (.full 1 [.str s]) k := by
  unfold appP
  have : appV 1 (sown l) (.full 1 [.str s]) = some (sown (l ++ [s]), l.length + 1) := by
    cases l with
    | nil => rfl
    | cons a l => simp [sown, appV, elems, dStrs]
  rw [this]
  exact ⟨hb, hk⟩
theorem str_one (s : List UInt8) : partsS [(0, .v (.d (.str s)))] = some [(0, .str s)] := rfl
theorem str_fit (s : List UInt8) : partsFit 1 1 [(0, .str s)] = true := rfl
theorem str_elem (s : List UInt8) : buildElems (mkElem false [.str []]) [(0, .str s)] 1 0 = [.str s] := rfl

theorem e18 : Enters Try.prog 18 := enters_some (fn := Try.f18) (by kernel_rfl) (by kernel_rfl) (by kernel_rfl)
theorem classes_holds (n : NsD) (l : List ClD) {x : SV} (hx : IsSl 2 (l.map ClD.enc) x) (hl : l.length ≤ 1000000) : Holds Try.prog gl 18 [.d n.enc, x] (tupE (lstF (l.map ClD.name) 256 n) 20) := by
  refine holds_of_body hm1 e18 (h := h18) ?_
  rw [body18]
  intro hwf
  simp only [demote_d, hx.dem]
  refine bindO_to (cells_ns n) ⟨rfl, ?_⟩
  refine bindO_to hx.len ?_
  rw [List.length_map]
  rw [zero_set]
  refine loopP_count (fun i => [sown ((l.take i).map ClD.name), x, .d (.int .i64 (l.length : Int)), .d (.int .i64 ((i : Nat) : Int))]) (fun _ => [cNs n, cSet fun _ => 0]) l.length (fun i hi I hI => ?_) (fun I => ?_)
  · simp only [vget, bget, List.getD_cons_zero, List.getD_cons_succ, demote_d, hx.dem]
    refine bindO_to (lss_int _ _ _) ?_
    refine ifP_to rfl (decide_eq_true (by omega)) ?_
    obtain ⟨c, hc⟩ := get_some hi
    refine bindO_to (hx.at (at_map hc)) ?_
    refine bindO_to (load_agg _ 2 rfl) ?_
    refine bindO_to (show cellsV (.d (.agg [.str c.name, c.perms])) = some [.d (.str c.name), .d c.perms] from rfl) ⟨rfl, Nat.le_refl 2, ?_⟩
    refine bindO_to (x := .d (.str c.name)) rfl ?_
    refine bindO_to (str_one c.name) ⟨str_fit c.name, ?_⟩
    rw [str_elem]
    refine app_sown _ c.name _ (by rw [List.length_map, List.length_take]; omega) ?_
    refine bindO_to (add_up hi (by simp only [maxLen]; omega)) ?_
    have e1 : (l.take (i + 1)).map ClD.name = (l.take i).map ClD.name ++ [c.name] := by rw [List.take_add_one, hc]; simp
    rw [e1] at hI
    exact hI
  · rw [List.take_length]
    have hs := is_sown (l.map ClD.name)
    have hT := listed_holds n (l.map ClD.name) hs (by rw [List.length_map]; simp only [maxLen]; omega) 256
    simp only [vget, bget, List.getD_cons_zero, List.getD_cons_succ, demote_two, demote_d, hx.dem]
    refine bindO_to (lss_int _ _ _) ?_
    refine ifP_no rfl (decide_eq_false (by omega)) ?_
    refine bindO_to (part_ns n) ?_
    generalize demote (sown (l.map ClD.name)) = y at hT ⊢
    cases hr : lstF (l.map ClD.name) 256 n with
    | none =>
      rw [hr, tupS_none] at hT
      refine call2 hT ?_
      refine bindO_to (cells_set _) ⟨len_cSet _, Nat.le_refl 4, ?_⟩
      simp only [demote_d]
      rw [un_not, bindO_some', Bool.not_false, ifP_true]
      refine bindO_to parts_nil ?_
      refine bindO_to build_set ?_
      refine bindO_to (cells_set _) ⟨len_cSet _, le_cSet _, ?_⟩
      rw [set_all]
      refine bindO_to (part_set _) ⟨rfl, rfl, ?_⟩
      rw [tupE_none]
      rfl
    | some w =>
      rw [hr, tupS_some] at hT
      refine call2 hT ?_
      refine bindO_to (cells_set _) ⟨len_cSet _, Nat.le_refl 4, ?_⟩
      simp only [demote_d]
      rw [un_not, bindO_some', Bool.not_true, ifP_false, set_all]
      refine bindO_to (part_set _) ?_
      refine bindO_to (cells_set _) ⟨len_cSet _, le_cSet _, ?_⟩
      rw [set_all]
      refine bindO_to (part_set _) ⟨rfl, rfl, ?_⟩
      rw [tupE_some]
      rfl

theorem e19 : Enters Try.prog 19 := enters_some (fn := Try.f19) (by kernel_rfl) (by kernel_rfl) (by kernel_rfl)
theorem classesR_holds (n : NsD) (l : List ClD) {x : SV} (hx : IsSl 2 (l.map ClD.enc) x) (hl : l.length ≤ 1000000) : Holds Try.prog gl 19 [.d n.enc, x] (tupE (lstF (l.map ClD.name) 256 n) 20) := by
  refine holds_of_body hm1 e19 (h := h19) ?_
  rw [body19]
  intro hwf
  simp only [demote_d, hx.dem]
  refine bindO_to (cells_ns n) ⟨rfl, ?_⟩
  rw [zero_set]
  refine loopP_count (fun i => [x, sown ((l.take i).map ClD.name), .d (.int .i64 ((i : Nat) : Int))]) (fun _ => [cNs n, cSet fun _ => 0]) l.length (fun i hi I hI => ?_) (fun I => ?_)
  · simp only [vget, bget, List.getD_cons_zero, List.getD_cons_succ, demote_d, hx.dem]
    refine bindO_to hx.len ?_
    rw [List.length_map]
    refine bindO_to (lss_int _ _ _) ?_
    refine ifP_to rfl (decide_eq_true (by omega)) ?_
    obtain ⟨c, hc⟩ := get_some hi
    refine bindO_to (hx.at (at_map hc)) ?_
    refine bindO_to (off_ptr _ _ _) ?_
    refine bindO_to (load_cell _ _ (.str c.name) rfl) ?_
    refine bindO_to (str_one c.name) ⟨str_fit c.name, ?_⟩
    rw [str_elem]
    refine app_sown _ c.name _ (by rw [List.length_map, List.length_take]; omega) ?_
    refine bindO_to (add_up hi (by simp only [maxLen]; omega)) ?_
    have e1 : (l.take (i + 1)).map ClD.name = (l.take i).map ClD.name ++ [c.name] := by rw [List.take_add_one, hc]; simp
    rw [e1] at hI
    exact hI
  · rw [List.take_length]
    have hs := is_sown (l.map ClD.name)
    have hT := listedR_holds n (l.map ClD.name) hs (by rw [List.length_map]; simp only [maxLen]; omega) 256
    simp only [vget, bget, List.getD_cons_zero, List.getD_cons_succ, demote_two, demote_d, hx.dem]
    refine bindO_to hx.len ?_
    rw [List.length_map]
    refine bindO_to (lss_int _ _ _) ?_
    refine ifP_no rfl (decide_eq_false (by omega)) ?_
    refine bindO_to (part_ns n) ?_
    generalize demote (sown (l.map ClD.name)) = y at hT ⊢
    cases hr : lstF (l.map ClD.name) 256 n with
    | none =>
      rw [hr, tupS_none] at hT
      refine call2 hT ?_
      refine bindO_to (cells_set _) ⟨len_cSet _, Nat.le_refl 4, ?_⟩
      simp only [demote_d]
      rw [un_not, bindO_some', Bool.not_false, ifP_true]
      refine bindO_to parts_nil ?_
      refine bindO_to build_set ?_
      refine bindO_to (cells_set _) ⟨len_cSet _, le_cSet _, ?_⟩
      rw [set_all]
      refine bindO_to (part_set _) ⟨rfl, rfl, ?_⟩
      rw [tupE_none]
      rfl
    | some w =>
      rw [hr, tupS_some] at hT
      refine call2 hT ?_
      refine bindO_to (cells_set _) ⟨len_cSet _, Nat.le_refl 4, ?_⟩
      simp only [demote_d]
      rw [un_not, bindO_some', Bool.not_true, ifP_false, set_all]
      refine bindO_to (part_set _) ?_
      refine bindO_to (cells_set _) ⟨len_cSet _, le_cSet _, ?_⟩
      rw [set_all]
      refine bindO_to (part_set _) ⟨rfl, rfl, ?_⟩
      rw [tupE_some]
      rfl

end Go.Proofs.Ytfeepndphaboeaa.Ab
