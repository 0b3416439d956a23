/-
  THE LAWS OF PACKAGE 09: symbols, types, lists.
-/
import Derived.Test.YtfeepndphaboeaaE9
set_option linter.unusedVariables false
set_option linter.unusedSimpArgs false
namespace Go.Proofs.Ytfeepndphaboeaa.Ab
open Go

theorem eqW_refl (w : Nat → BitVec 64) : eqW w w = true := by simp [eqW]
def n0 : NsD := mkNs false false [] [] (by decide) (by decide)
def env0 : EnvD := { tys := [], td := .sl .nil 0 [], ats := [], ad := .sl .nil 0 [], ht := .nil 0 rfl, ha := .nil 0 rfl, lt := by decide, la := by decide }
theorem build_n0 : buildD Try.prog 29 [] = some n0.enc := by kernel_rfl
theorem build_env0 : buildD Try.prog 25 [] = some env0.enc := by kernel_rfl
theorem e3 : Enters Try.prog 3 := enters_some (fn := Try.f3) (by kernel_rfl) (by kernel_rfl) (by kernel_rfl)
theorem law3_holds (s : List UInt8) (e : EnvD) : Holds Try.prog gl 3 [.d (.str s), .d e.enc] (.d (.bool true)) := by
  refine holds_of_body hm1 e3 (h := h3) ?_
  rw [body3]
  intro hwf
  obtain ⟨k, b, h1, h2⟩ : ∃ k b, Holds Try.prog gl 10 [.d (.str s), .d e.enc] (.tup [.d (.int .i64 k), .d (.bool b)]) ∧ Holds Try.prog gl 11 [.d (.str s), .d e.enc] (.tup [.d (.int .i64 k), .d (.bool b)]) :=
    ⟨_, _, type_holds e s, typeR_holds e s⟩
  obtain ⟨w, c, h3, h4⟩ : ∃ w c, Holds Try.prog gl 12 [.d (.str s), .d e.enc] (.tup [.d (dSet w), .d (.bool c)]) ∧ Holds Try.prog gl 13 [.d (.str s), .d e.enc] (.tup [.d (dSet w), .d (.bool c)]) :=
    ⟨_, _, attr_holds e s, attrR_holds e s⟩
  simp only [demote_d]
  refine bindO_to (cells_env e) ⟨rfl, ?_⟩
  refine bindO_to (x := []) rfl ?_
  refine bindO_to build_n0 ?_
  refine bindO_to (part_env e) ?_
  refine callP_of (few_holds n0 e) ?_
  refine bindO_to (un_not _) ?_
  rw [ifP_dec]
  refine ⟨fun _ => ?_, fun _ => ?_⟩
  · refine callP_of awake_holds ?_
    exact ⟨rfl, rfl⟩
  · refine bindO_to (part_env e) ?_
    refine call2 h1 ?_
    refine bindO_to (part_env e) ?_
    refine call2 h2 ?_
    refine bindO_to (part_env e) ?_
    refine call2 h3 ?_
    refine bindO_to (cells_set w) ⟨len_cSet _, Nat.le_refl 4, ?_⟩
    refine bindO_to (part_env e) ?_
    refine call2 h4 ?_
    refine bindO_to (cells_set w) ⟨len_cSet _, Nat.le_refl 4, ?_⟩
    simp only [demote_d]
    refine bindO_to (eql_int _ _ _) ?_
    refine ifP_to rfl (beq_self_eq_true _) ?_
    refine bindO_to (eql_bool _ _) ?_
    refine ifP_to rfl (beq_self_eq_true _) ?_
    rw [zero_set, set_all]
    refine bindO_to (part_set w) ?_
    refine bindO_to (part_set w) ?_
    refine bindO_to (eql_set w w) ?_
    refine ifP_to rfl (eqW_refl w) ?_
    refine bindO_to (eql_bool _ _) ?_
    refine ifP_to rfl (beq_self_eq_true _) ?_
    refine callP_of awake_holds ?_
    exact ⟨rfl, rfl⟩
theorem e4 : Enters Try.prog 4 := enters_some (fn := Try.f4) (by kernel_rfl) (by kernel_rfl) (by kernel_rfl)
theorem law4_holds (n : NsD) (e : EnvD) : Holds Try.prog gl 4 [.d n.enc, .d e.enc] (.d (.bool true)) := by
  refine holds_of_body hm1 e4 (h := h4) ?_
  rw [body4]
  intro hwf
  obtain ⟨w, c, h3, h4⟩ : ∃ w c, Holds Try.prog gl 14 [.d n.enc, .d e.enc] (.tup [.d (dSet w), .d (.int .i64 c)]) ∧ Holds Try.prog gl 15 [.d n.enc, .d e.enc] (.tup [.d (dSet w), .d (.int .i64 c)]) :=
    ⟨_, _, types_holds n e, typesS_holds n e⟩
  simp only [demote_d]
  refine bindO_to (cells_ns n) ⟨rfl, ?_⟩
  refine bindO_to (cells_env e) ⟨rfl, ?_⟩
  refine bindO_to (part_ns n) ?_
  refine bindO_to (part_env e) ?_
  refine callP_of (few_holds n e) ?_
  refine bindO_to (un_not _) ?_
  rw [ifP_dec]
  refine ⟨fun _ => ?_, fun _ => ?_⟩
  · refine callP_of awake_holds ?_
    exact ⟨rfl, rfl⟩
  · refine bindO_to (part_ns n) ?_
    refine bindO_to (part_env e) ?_
    refine call2 h3 ?_
    refine bindO_to (cells_set w) ⟨len_cSet _, Nat.le_refl 4, ?_⟩
    refine bindO_to (part_ns n) ?_
    refine bindO_to (part_env e) ?_
    refine call2 h4 ?_
    refine bindO_to (cells_set w) ⟨len_cSet _, Nat.le_refl 4, ?_⟩
    simp only [demote_d]
    rw [zero_set, set_all]
    refine bindO_to (part_set w) ?_
    refine bindO_to (part_set w) ?_
    refine bindO_to (eql_set w w) ?_
    refine ifP_to rfl (eqW_refl w) ?_
    refine bindO_to (eql_int _ _ _) ?_
    refine ifP_to rfl (beq_self_eq_true _) ?_
    refine callP_of awake_holds ?_
    exact ⟨rfl, rfl⟩
/-- classes that a call has made -/
def mkCl (s : List UInt8) : ClD := ⟨s, .sl .nil 0 []⟩
def cown (l : List (List UInt8)) : SV := match l with
  | [] => .d (.sl .nil 0 [])
  | l => .own 2 (l.map fun s => (mkCl s).enc)
theorem is_cown (l : List (List UInt8)) : IsSl 2 ((l.map mkCl).map ClD.enc) (demote (cown l)) := by
  rw [List.map_map]
  cases l with
  | nil => exact .nil 0 rfl
  | cons a l => exact .ro
theorem app_cown (l : List (List UInt8)) (s : List UInt8) (k : SV → Prop) (hb : (l.length + 1) * 40 ≤ 140737488355328) (hk : k (cown (l ++ [s]))) : appP 2 40 (cown l) (.full 2 [(mkCl s).enc]) k := by
  unfold appP
  have : appV 2 (cown l) (.full 2 [(mkCl s).enc]) = some (cown (l ++ [s]), l.length + 1) := by
    cases l with
    | nil => rfl
    | cons a l => simp [cown, appV, elems]
  rw [this]
  exact ⟨hb, hk⟩
theorem build_cl (s : List UInt8) : buildD Try.prog 44 [(0, .str s)] = some (mkCl s).enc := by kernel_rfl
theorem build_pm {L : List D} {x : D} (hx : IsD 1 L x) : buildD Try.prog 44 [(1, x)] = some (.agg [.str [], x]) := by
  cases hx with
  | nil s h => kernel_rfl
  | ro => kernel_rfl
theorem cl_one (s : List UInt8) : partsS [(0, .v (.d (mkCl s).enc))] = some [(0, (mkCl s).enc)] := rfl
theorem cl_fit (s : List UInt8) : partsFit 2 1 [(0, (mkCl s).enc)] = true := rfl
theorem cl_elem (s : List UInt8) : buildElems (mkElem true [.str [], .sl .nil 0 []]) [(0, (mkCl s).enc)] 1 0 = [(mkCl s).enc] := rfl
theorem map_name (l : List (List UInt8)) : (l.map mkCl).map ClD.name = l := by
  rw [List.map_map]
  exact (List.map_congr_left fun _ _ => rfl).trans (List.map_id _)
theorem pairE (r : Option (Nat → BitVec 64)) (err : Int) : ∃ w c, tupE r err = .tup [.d (dSet w), .d (.int .i64 c)] := ⟨_, _, rfl⟩
theorem pairP (r : Option (Nat → BitVec 64)) : ∃ v c, tupP r = .tup [.d (.int .u32 v), .d (.int .i64 c)] := by
  cases r with
  | none => exact ⟨_, _, rfl⟩
  | some w => exact ⟨_, _, rfl⟩
theorem e5 : Enters Try.prog 5 := enters_some (fn := Try.f5) (by kernel_rfl) (by kernel_rfl) (by kernel_rfl)
theorem law5_holds (n : NsD) (l : List (List UInt8)) {x : D} (hx : IsD 1 (dStrs l) x) : Holds Try.prog gl 5 [.d n.enc, .d x] (.d (.bool true)) := by
  refine holds_of_body hm1 e5 (h := h5) ?_
  rw [body5]
  intro hwf
  rw [demote_d, demote_d]
  refine bindO_to (cells_ns n) ⟨rfl, ?_⟩
  refine bindO_to (part_ns n) ?_
  refine bindO_to (x := []) rfl ?_
  refine bindO_to build_env0 ?_
  refine callP_of (few_holds n env0) ?_
  refine bindO_to (un_not _) ?_
  rw [demote_d, ifP_dec]
  refine ⟨fun _ => ?_, fun _ => ?_⟩
  · refine callP_of awake_holds ?_
    exact ⟨rfl, rfl⟩
  · simp only [demote_d]
    refine bindO_to hx.len ?_
    rw [len_strs, demote_d, gtr_int, bindO_some', demote_d, ifP_dec]
    refine ⟨fun _ => ?_, fun hle => ?_⟩
    · refine callP_of awake_holds ?_
      exact ⟨rfl, rfl⟩
    · have hl : l.length ≤ 300 := by have := of_decide_eq_false hle; omega
      have hm : l.length ≤ maxLen := by simp only [maxLen]; omega
      obtain ⟨w1, c1, hw1⟩ := pairE (lstF l 256 n) 11
      obtain ⟨w2, c2, hw2⟩ := pairE (lstF l 256 n) 20
      obtain ⟨v3, c3, hw3⟩ := pairP (lstF l 32 n)
      have a1 := listedE_holds n l hx.sv hm
      have a2 := listedER_holds n l hx.sv hm
      have a3 := classes_holds n (l.map mkCl) (is_cown l) (by rw [List.length_map]; omega)
      have a4 := classesR_holds n (l.map mkCl) (is_cown l) (by rw [List.length_map]; omega)
      have a5 := perms_holds n [] l hx hm
      have a6 := permsR_holds n [] l hx hm
      rw [map_name] at a3 a4
      rw [hw1] at a1 a2
      rw [hw2] at a3 a4
      rw [hw3] at a5 a6
      refine bindO_to hx.len ?_
      rw [len_strs]
      refine loopP_count (fun i => [.d x, cown (l.take i), .d (.int .i64 (l.length : Int)), .d (.int .i64 ((i : Nat) : Int))]) (fun _ => [cNs n]) l.length (fun i hi I hI => ?_) (fun I => ?_)
      · simp only [vget, bget, List.getD_cons_zero, List.getD_cons_succ, demote_d]
        refine bindO_to (lss_int _ _ _) ?_
        refine ifP_to rfl (decide_eq_true (by omega)) ?_
        obtain ⟨s, hs⟩ := get_some hi
        refine bindO_to (hx.at (at_strs hs)) ?_
        refine bindO_to (load_str s) ?_
        refine bindO_to (str_one s) ?_
        refine bindO_to (build_cl s) ?_
        refine bindO_to (cl_one s) ⟨cl_fit s, ?_⟩
        rw [cl_elem]
        refine app_cown _ s _ (by rw [List.length_take]; omega) ?_
        refine bindO_to (add_up hi hm) ?_
        have e1 : l.take (i + 1) = l.take i ++ [s] := by rw [List.take_add_one, hs]; rfl
        rw [e1] at hI
        exact hI
      · rw [List.take_length]
        simp only [vget, bget, List.getD_cons_zero, List.getD_cons_succ, demote_d, demote_two]
        generalize demote (cown l) = y at a3 a4 ⊢
        refine bindO_to (lss_int _ _ _) ?_
        refine ifP_no rfl (decide_eq_false (by omega)) ?_
        refine bindO_to (part_ns n) ?_
        refine call2 a1 ?_
        refine bindO_to (cells_set w1) ⟨len_cSet _, Nat.le_refl 4, ?_⟩
        refine bindO_to (part_ns n) ?_
        refine call2 a2 ?_
        refine bindO_to (cells_set w1) ⟨len_cSet _, Nat.le_refl 4, ?_⟩
        refine bindO_to (part_ns n) ?_
        refine call2 a3 ?_
        refine bindO_to (cells_set w2) ⟨len_cSet _, Nat.le_refl 4, ?_⟩
        refine bindO_to (part_ns n) ?_
        refine call2 a4 ?_
        refine bindO_to (cells_set w2) ⟨len_cSet _, Nat.le_refl 4, ?_⟩
        refine bindO_to (part_ns n) ?_
        refine bindO_to (show partsS [(1, .v (.d x))] = some [(1, x)] from rfl) ?_
        refine bindO_to (build_pm hx) ?_
        refine call2 a5 ?_
        refine bindO_to (part_ns n) ?_
        refine bindO_to (show partsS [(1, .v (.d x))] = some [(1, x)] from rfl) ?_
        refine bindO_to (build_pm hx) ?_
        refine call2 a6 ?_
        simp only [demote_d]
        rw [zero_set, set_all, set_all]
        refine bindO_to (part_set w1) ?_
        refine bindO_to (part_set w1) ?_
        refine bindO_to (eql_set w1 w1) ?_
        refine ifP_to rfl (eqW_refl w1) ?_
        refine bindO_to (eql_int _ _ _) ?_
        refine ifP_to rfl (beq_self_eq_true _) ?_
        refine bindO_to (part_set w2) ?_
        refine bindO_to (part_set w2) ?_
        refine bindO_to (eql_set w2 w2) ?_
        refine ifP_to rfl (eqW_refl w2) ?_
        refine bindO_to (eql_int _ _ _) ?_
        refine ifP_to rfl (beq_self_eq_true _) ?_
        refine bindO_to (eql_int _ _ _) ?_
        refine ifP_to rfl (beq_self_eq_true _) ?_
        refine bindO_to (eql_int _ _ _) ?_
        refine ifP_to rfl (beq_self_eq_true _) ?_
        refine callP_of awake_holds ?_
        exact ⟨rfl, rfl⟩
end Go.Proofs.Ytfeepndphaboeaa.Ab
