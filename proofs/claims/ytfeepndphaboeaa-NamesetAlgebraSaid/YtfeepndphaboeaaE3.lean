/-
  SETS OF NAMES: what their parts mean together.
-/
import Derived.Test.YtfeepndphaboeaaE2
set_option linter.unusedVariables false
set_option linter.unusedSimpArgs false
namespace Go.Proofs.Ytfeepndphaboeaa.Ab
open Go

def allF (F : List UInt8 → Option (Nat → BitVec 64)) (l : List (List UInt8)) : Bool := l.all fun s => (F s).isSome
def accF (op : (Nat → BitVec 64) → (Nat → BitVec 64) → (Nat → BitVec 64)) (F : List UInt8 → Option (Nat → BitVec 64)) (l : List (List UInt8)) (s0 : Nat → BitVec 64) : Nat → BitVec 64 :=
  l.foldl (fun s n => op s ((F n).getD fun _ => 0)) s0
def orW (w v : Nat → BitVec 64) : Nat → BitVec 64 := fun k => w k ||| v k
def subW (w v : Nat → BitVec 64) : Nat → BitVec 64 := fun k => w k &&& ~~~ v k
theorem allF_take {F : List UInt8 → Option (Nat → BitVec 64)} {l : List (List UInt8)} {i : Nat} {y : List UInt8} (hy : l[i]? = some y) : allF F (l.take (i + 1)) = (allF F (l.take i) && (F y).isSome) := by
  unfold allF
  rw [List.take_add_one, hy]
  simp
theorem accF_take {op : (Nat → BitVec 64) → (Nat → BitVec 64) → (Nat → BitVec 64)} {F : List UInt8 → Option (Nat → BitVec 64)} {l : List (List UInt8)} {s0 : Nat → BitVec 64} {i : Nat} {y : List UInt8} (hy : l[i]? = some y) :
    accF op F (l.take (i + 1)) s0 = op (accF op F (l.take i) s0) ((F y).getD fun _ => 0) := by
  unfold accF
  rw [List.take_add_one, hy]
  simp
theorem allF_not {F : List UInt8 → Option (Nat → BitVec 64)} {l : List (List UInt8)} {i : Nat} {y : List UInt8} (hy : l[i]? = some y) (h : (F y).isSome = false) : allF F l = false := by
  unfold allF
  rw [List.all_eq_false]
  exact ⟨y, List.mem_of_getElem? hy, by simp [h]⟩

/-- a set of names, as data -/
structure NsD where
  all : Bool
  not : Bool
  self : Bool
  names : List (List UInt8)
  ex : List (List UInt8)
  nd : D
  ed : D
  hn : IsD 1 (dStrs names) nd
  he : IsD 1 (dStrs ex) ed
  ln : names.length ≤ maxLen
  le : ex.length ≤ maxLen
def NsD.enc (n : NsD) : D := .agg [.bool n.all, .bool n.not, .bool n.self, n.nd, n.ed]
def cNs (n : NsD) : List SV := [.d (.bool n.all), .d (.bool n.not), .d (.bool n.self), .d n.nd, .d n.ed]
theorem cells_ns (n : NsD) : cellsV (.d n.enc) = some (cNs n) := rfl
theorem part_ns (n : NsD) : partV true 5 0 (cNs n) = some (.d n.enc) := rfl
theorem ns_all (n : NsD) : partV false 1 0 (cNs n) = some (.d (.bool n.all)) := rfl
theorem ns_not (n : NsD) : partV false 1 1 (cNs n) = some (.d (.bool n.not)) := rfl
theorem ns_names (n : NsD) : partV false 1 3 (cNs n) = some (.d n.nd) := rfl
theorem ns_ex (n : NsD) : partV false 1 4 (cNs n) = some (.d n.ed) := rfl

/-- behind the names -/
def exF (F : List UInt8 → Option (Nat → BitVec 64)) (n : NsD) (all s1 : Nat → BitVec 64) : Option (Nat → BitVec 64) :=
  if allF F n.ex then some (if n.not then subW all (accF subW F n.ex s1) else accF subW F n.ex s1) else none
def meanF (F : List UInt8 → Option (Nat → BitVec 64)) (n : NsD) (all : Nat → BitVec 64) : Option (Nat → BitVec 64) :=
  if allF F n.names then exF F n all (accF orW F n.names (if n.all then all else fun _ => 0)) else none

theorem dem_clo (f : Fn) (a b : List SV) : demote (.clo f a b) = .clo f a b := rfl
theorem with_clo (f : FuncId) (c : SV) (args : List SV) (k : FuncId → List SV → Prop) : withFn (.clo (.func f) [] [c]) args k = k f ([] ++ args ++ [c]) := rfl
theorem mean_loop2 (f : FuncId) (c : SV) (F : List UInt8 → Option (Nat → BitVec 64)) (hF : ∀ s, Holds Try.prog gl f [.d (.str s), c] (tupS (F s))) (n : NsD) (all s1 : Nat → BitVec 64) (K : SV → Prop) (hK : K (tupS (exF F n all s1))) :
    loopP (fun vs87 bs88 I89 =>
  bindO (binV none .lss (demote (vget vs87 3)) (demote (vget vs87 2))) fun r90 =>
  ifP r90
    (bindO (elemPtr 1 (demote (vget vs87 1)) (demote (vget vs87 3))) fun r91 =>
    bindO (loadV false 1 (demote r91)) fun r92 =>
    withFn (demote (demote (vget vs87 0))) [(demote (demote (demote (demote r92))))] fun f93 l94 =>
    ∃ r95,
    ∃ r96,
    (Holds Try.prog gl f93 l94 (.tup [r95, r96])) ∧
    bindO (cellsV (demote (demote (demote r95)))) fun r97 =>
    (List.length r97) = 4 ∧
    4 ≤ 4 ∧
    bindO (unV .not (demote (demote (demote (demote (demote r96)))))) fun r98 =>
    ifP r98
      (bindO (partsS []) fun r99 =>
      bindO (buildD Proofs.Try.prog 35 r99) fun r100 =>
      bindO (cellsV (.d r100)) fun r101 =>
      (List.length r101) = 4 ∧
      4 ≤ (List.length (bget bs88 2)) ∧
      bindO (partV true 4 0 (setAt (bget bs88 2) 0 r101)) fun r102 =>
      (SV.noRef (demote r102)) = true ∧
      (SV.noRef (.d (.bool false))) = true ∧
      (K (.tup [(demote r102), (.d (.bool false))])))
      (bindO (partV true 4 0 (bget bs88 3)) fun r103 =>
      bindO (partV true 4 0 (setAt (cSet fun _ => 0) 0 r97)) fun r104 =>
      callP (Holds Try.prog gl) 50 [(demote (demote (demote r103))), (demote (demote (demote r104)))] fun r105 =>
      bindO (cellsV (demote r105)) fun r106 =>
      (List.length r106) = 4 ∧
      4 ≤ (List.length (bget bs88 3)) ∧
      bindO (binV none .add (demote (vget vs87 3)) (.d (.int .i64 1))) fun r107 =>
      (I89 [(vget vs87 0), (vget vs87 1), (vget vs87 2), (demote r107)] [(Box.vals (Box.cells (bget bs88 0))), (Box.vals (Box.cells (bget bs88 1))), (Box.vals (Box.cells (bget bs88 2))), (Box.vals (Box.cells (setAt (bget bs88 3) 0 r106)))])))
    (bindO (partV false 1 1 (bget bs88 0)) fun r108 =>
    ifP (demote r108)
      (bindO (partV true 4 0 (bget bs88 1)) fun r109 =>
      bindO (partV true 4 0 (bget bs88 3)) fun r110 =>
      callP (Holds Try.prog gl) 50 [(demote (demote (demote r109))), (demote (demote (demote r110)))] fun r111 =>
      bindO (cellsV (demote r111)) fun r112 =>
      (List.length r112) = 4 ∧
      4 ≤ (List.length (bget bs88 3)) ∧
      bindO (partV true 4 0 (setAt (bget bs88 3) 0 r112)) fun r113 =>
      bindO (cellsV (demote (demote r113))) fun r114 =>
      (List.length r114) = 4 ∧
      4 ≤ (List.length (bget bs88 2)) ∧
      bindO (partV true 4 0 (setAt (bget bs88 2) 0 r114)) fun r115 =>
      (SV.noRef (demote r115)) = true ∧
      (SV.noRef (.d (.bool true))) = true ∧
      (K (.tup [(demote r115), (.d (.bool true))])))
      (bindO (partV true 4 0 (bget bs88 3)) fun r116 =>
      bindO (cellsV (demote (demote r116))) fun r117 =>
      (List.length r117) = 4 ∧
      4 ≤ (List.length (bget bs88 2)) ∧
      bindO (partV true 4 0 (setAt (bget bs88 2) 0 r117)) fun r118 =>
      (SV.noRef (demote r118)) = true ∧
      (SV.noRef (.d (.bool true))) = true ∧
      (K (.tup [(demote r118), (.d (.bool true))]))))) [.clo (.func f) [] [c], .d n.ed, .d (.int .i64 (n.ex.length : Int)), .d (.int .i64 0)] [cNs n, cSet all, cSet (fun _ => 0), cSet s1] := by
  refine loopP_inv (fun i => allF F (n.ex.take i) = true) (fun i => [.clo (.func f) [] [c], .d n.ed, .d (.int .i64 (n.ex.length : Int)), .d (.int .i64 ((i : Nat) : Int))]) (fun i => [cNs n, cSet all, cSet (fun _ => 0), cSet (accF subW F (n.ex.take i) s1)]) n.ex.length rfl (fun i hi hJ I hI => ?_) (fun hJ I => ?_)
  · simp only [vget, bget, List.getD_cons_zero, List.getD_cons_succ, demote_d, dem_clo]
    refine bindO_to (lss_int _ _ _) ?_
    refine ifP_to rfl (decide_eq_true (by omega)) ?_
    obtain ⟨y, hy⟩ := get_some hi
    refine bindO_to (n.he.at (at_strs hy)) ?_
    refine bindO_to (load_str y) ?_
    rw [with_clo]
    refine call2 (hF y) ?_
    refine bindO_to (cells_set _) ⟨len_cSet _, Nat.le_refl 4, ?_⟩
    rw [demote_d, demote_d, demote_d, demote_d, demote_d, un_not, bindO_some', ifP_dec]
    refine ⟨fun h => ?_, fun h => ?_⟩
    · have h' : (F y).isSome = false := by simpa using h
      refine bindO_to parts_nil ?_
      refine bindO_to build_set ?_
      refine bindO_to (cells_set _) ⟨len_cSet _, le_cSet _, ?_⟩
      rw [set_all]
      refine bindO_to (part_set _) ⟨rfl, rfl, ?_⟩
      have e1 : exF F n all s1 = none := by rw [exF, allF_not hy h']; rfl
      rw [e1, tupS_none] at hK
      exact hK
    · have h' : (F y).isSome = true := by simpa using h
      refine bindO_to (part_set _) ?_
      rw [set_all]
      refine bindO_to (part_set _) ?_
      refine callP_of (minus_holds _ _) ?_
      refine bindO_to (cells_set _) ⟨len_cSet _, le_cSet _, ?_⟩
      rw [set_all]
      refine bindO_to (add_up hi n.le) ?_
      rw [accF_take hy] at hI
      exact hI (by rw [allF_take hy, hJ, h']; rfl)
  · rw [List.take_length] at hJ ⊢
    have e1 : exF F n all s1 = some (if n.not then subW all (accF subW F n.ex s1) else accF subW F n.ex s1) := by rw [exF, hJ]; rfl
    rw [e1] at hK
    generalize accF subW F n.ex s1 = s2 at hK ⊢
    simp only [vget, bget, List.getD_cons_zero, List.getD_cons_succ, demote_d, dem_clo]
    refine bindO_to (lss_int _ _ _) ?_
    refine ifP_no rfl (decide_eq_false (by omega)) ?_
    refine bindO_to (ns_not n) ?_
    rw [demote_d, ifP_dec]
    refine ⟨fun h => ?_, fun h => ?_⟩
    · rw [h] at hK
      refine bindO_to (part_set _) ?_
      refine bindO_to (part_set _) ?_
      refine callP_of (minus_holds _ _) ?_
      refine bindO_to (cells_set _) ⟨len_cSet _, le_cSet _, ?_⟩
      rw [set_all]
      refine bindO_to (part_set _) ?_
      refine bindO_to (cells_set _) ⟨len_cSet _, le_cSet _, ?_⟩
      rw [set_all]
      refine bindO_to (part_set _) ⟨rfl, rfl, ?_⟩
      exact hK
    · rw [h] at hK
      refine bindO_to (part_set _) ?_
      refine bindO_to (cells_set _) ⟨len_cSet _, le_cSet _, ?_⟩
      rw [set_all]
      refine bindO_to (part_set _) ⟨rfl, rfl, ?_⟩
      exact hK
theorem mean_loop1 (f : FuncId) (c : SV) (F : List UInt8 → Option (Nat → BitVec 64)) (hF : ∀ s, Holds Try.prog gl f [.d (.str s), c] (tupS (F s))) (n : NsD) (all s0 : Nat → BitVec 64) (K : SV → Prop) (hK : K (tupS (if allF F n.names then exF F n all (accF orW F n.names s0) else none))) :
    loopP (fun vs64 bs65 I66 =>
  bindO (binV none .lss (demote (vget vs64 3)) (demote (vget vs64 2))) fun r67 =>
  ifP r67
    (bindO (elemPtr 1 (demote (vget vs64 1)) (demote (vget vs64 3))) fun r68 =>
    bindO (loadV false 1 (demote r68)) fun r69 =>
    withFn (demote (demote (vget vs64 0))) [(demote (demote (demote (demote r69))))] fun f70 l71 =>
    ∃ r72,
    ∃ r73,
    (Holds Try.prog gl f70 l71 (.tup [r72, r73])) ∧
    bindO (cellsV (demote (demote (demote r72)))) fun r74 =>
    (List.length r74) = 4 ∧
    4 ≤ 4 ∧
    bindO (unV .not (demote (demote (demote (demote (demote r73)))))) fun r75 =>
    ifP r75
      (bindO (partsS []) fun r76 =>
      bindO (buildD Proofs.Try.prog 35 r76) fun r77 =>
      bindO (cellsV (.d r77)) fun r78 =>
      (List.length r78) = 4 ∧
      4 ≤ (List.length (bget bs65 2)) ∧
      bindO (partV true 4 0 (setAt (bget bs65 2) 0 r78)) fun r79 =>
      (SV.noRef (demote r79)) = true ∧
      (SV.noRef (.d (.bool false))) = true ∧
      (K (.tup [(demote r79), (.d (.bool false))])))
      (bindO (partV true 4 0 (bget bs65 3)) fun r80 =>
      bindO (partV true 4 0 (setAt (cSet fun _ => 0) 0 r74)) fun r81 =>
      callP (Holds Try.prog gl) 49 [(demote (demote (demote r80))), (demote (demote (demote r81)))] fun r82 =>
      bindO (cellsV (demote r82)) fun r83 =>
      (List.length r83) = 4 ∧
      4 ≤ (List.length (bget bs65 3)) ∧
      bindO (binV none .add (demote (vget vs64 3)) (.d (.int .i64 1))) fun r84 =>
      (I66 [(vget vs64 0), (vget vs64 1), (vget vs64 2), (demote r84)] [(Box.vals (Box.cells (bget bs65 0))), (Box.vals (Box.cells (bget bs65 1))), (Box.vals (Box.cells (bget bs65 2))), (Box.vals (Box.cells (setAt (bget bs65 3) 0 r83)))])))
    (bindO (partV false 1 4 (bget bs65 0)) fun r85 =>
    bindO (lenL (demote (demote r85))) fun r86 =>
    loopP (fun vs87 bs88 I89 =>
      bindO (binV none .lss (demote (vget vs87 3)) (demote (vget vs87 2))) fun r90 =>
      ifP r90
        (bindO (elemPtr 1 (demote (vget vs87 1)) (demote (vget vs87 3))) fun r91 =>
        bindO (loadV false 1 (demote r91)) fun r92 =>
        withFn (demote (demote (vget vs87 0))) [(demote (demote (demote (demote r92))))] fun f93 l94 =>
        ∃ r95,
        ∃ r96,
        (Holds Try.prog gl f93 l94 (.tup [r95, r96])) ∧
        bindO (cellsV (demote (demote (demote r95)))) fun r97 =>
        (List.length r97) = 4 ∧
        4 ≤ 4 ∧
        bindO (unV .not (demote (demote (demote (demote (demote r96)))))) fun r98 =>
        ifP r98
          (bindO (partsS []) fun r99 =>
          bindO (buildD Proofs.Try.prog 35 r99) fun r100 =>
          bindO (cellsV (.d r100)) fun r101 =>
          (List.length r101) = 4 ∧
          4 ≤ (List.length (bget bs88 2)) ∧
          bindO (partV true 4 0 (setAt (bget bs88 2) 0 r101)) fun r102 =>
          (SV.noRef (demote r102)) = true ∧
          (SV.noRef (.d (.bool false))) = true ∧
          (K (.tup [(demote r102), (.d (.bool false))])))
          (bindO (partV true 4 0 (bget bs88 3)) fun r103 =>
          bindO (partV true 4 0 (setAt (cSet fun _ => 0) 0 r97)) fun r104 =>
          callP (Holds Try.prog gl) 50 [(demote (demote (demote r103))), (demote (demote (demote r104)))] fun r105 =>
          bindO (cellsV (demote r105)) fun r106 =>
          (List.length r106) = 4 ∧
          4 ≤ (List.length (bget bs88 3)) ∧
          bindO (binV none .add (demote (vget vs87 3)) (.d (.int .i64 1))) fun r107 =>
          (I89 [(vget vs87 0), (vget vs87 1), (vget vs87 2), (demote r107)] [(Box.vals (Box.cells (bget bs88 0))), (Box.vals (Box.cells (bget bs88 1))), (Box.vals (Box.cells (bget bs88 2))), (Box.vals (Box.cells (setAt (bget bs88 3) 0 r106)))])))
        (bindO (partV false 1 1 (bget bs88 0)) fun r108 =>
        ifP (demote r108)
          (bindO (partV true 4 0 (bget bs88 1)) fun r109 =>
          bindO (partV true 4 0 (bget bs88 3)) fun r110 =>
          callP (Holds Try.prog gl) 50 [(demote (demote (demote r109))), (demote (demote (demote r110)))] fun r111 =>
          bindO (cellsV (demote r111)) fun r112 =>
          (List.length r112) = 4 ∧
          4 ≤ (List.length (bget bs88 3)) ∧
          bindO (partV true 4 0 (setAt (bget bs88 3) 0 r112)) fun r113 =>
          bindO (cellsV (demote (demote r113))) fun r114 =>
          (List.length r114) = 4 ∧
          4 ≤ (List.length (bget bs88 2)) ∧
          bindO (partV true 4 0 (setAt (bget bs88 2) 0 r114)) fun r115 =>
          (SV.noRef (demote r115)) = true ∧
          (SV.noRef (.d (.bool true))) = true ∧
          (K (.tup [(demote r115), (.d (.bool true))])))
          (bindO (partV true 4 0 (bget bs88 3)) fun r116 =>
          bindO (cellsV (demote (demote r116))) fun r117 =>
          (List.length r117) = 4 ∧
          4 ≤ (List.length (bget bs88 2)) ∧
          bindO (partV true 4 0 (setAt (bget bs88 2) 0 r117)) fun r118 =>
          (SV.noRef (demote r118)) = true ∧
          (SV.noRef (.d (.bool true))) = true ∧
          (K (.tup [(demote r118), (.d (.bool true))])))))
    [(vget vs64 0), (demote r85), r86, (.d (.int .i64 0))] [(Box.vals (Box.cells (bget bs65 0))), (Box.vals (Box.cells (bget bs65 1))), (Box.vals (Box.cells (bget bs65 2))), (Box.vals (Box.cells (bget bs65 3)))])) [.clo (.func f) [] [c], .d n.nd, .d (.int .i64 (n.names.length : Int)), .d (.int .i64 0)] [cNs n, cSet all, cSet (fun _ => 0), cSet s0] := by
  refine loopP_inv (fun i => allF F (n.names.take i) = true) (fun i => [.clo (.func f) [] [c], .d n.nd, .d (.int .i64 (n.names.length : Int)), .d (.int .i64 ((i : Nat) : Int))]) (fun i => [cNs n, cSet all, cSet (fun _ => 0), cSet (accF orW F (n.names.take i) s0)]) n.names.length rfl (fun i hi hJ I hI => ?_) (fun hJ I => ?_)
  · simp only [vget, bget, List.getD_cons_zero, List.getD_cons_succ, demote_d, dem_clo]
    refine bindO_to (lss_int _ _ _) ?_
    refine ifP_to rfl (decide_eq_true (by omega)) ?_
    obtain ⟨y, hy⟩ := get_some hi
    refine bindO_to (n.hn.at (at_strs hy)) ?_
    refine bindO_to (load_str y) ?_
    rw [with_clo]
    refine call2 (hF y) ?_
    refine bindO_to (cells_set _) ⟨len_cSet _, Nat.le_refl 4, ?_⟩
    rw [demote_d, demote_d, demote_d, demote_d, demote_d, un_not, bindO_some', ifP_dec]
    refine ⟨fun h => ?_, fun h => ?_⟩
    · have h' : (F y).isSome = false := by simpa using h
      refine bindO_to parts_nil ?_
      refine bindO_to build_set ?_
      refine bindO_to (cells_set _) ⟨len_cSet _, le_cSet _, ?_⟩
      rw [set_all]
      refine bindO_to (part_set _) ⟨rfl, rfl, ?_⟩
      rw [allF_not hy h', if_neg (by decide), tupS_none] at hK
      exact hK
    · have h' : (F y).isSome = true := by simpa using h
      refine bindO_to (part_set _) ?_
      rw [set_all]
      refine bindO_to (part_set _) ?_
      refine callP_of (union_holds _ _) ?_
      refine bindO_to (cells_set _) ⟨len_cSet _, le_cSet _, ?_⟩
      rw [set_all]
      refine bindO_to (add_up hi n.ln) ?_
      rw [accF_take hy] at hI
      exact hI (by rw [allF_take hy, hJ, h']; rfl)
  · rw [List.take_length] at hJ ⊢
    rw [hJ, if_pos rfl] at hK
    generalize accF orW F n.names s0 = s1 at hK ⊢
    simp only [vget, bget, List.getD_cons_zero, List.getD_cons_succ, demote_d, dem_clo]
    refine bindO_to (lss_int _ _ _) ?_
    refine ifP_no rfl (decide_eq_false (by omega)) ?_
    refine bindO_to (ns_ex n) ?_
    refine bindO_to n.he.len ?_
    rw [len_strs]
    exact mean_loop2 f c F hF n all s1 K hK
theorem e37 : Enters Try.prog 37 := enters_some (fn := Try.f37) (by kernel_rfl) (by kernel_rfl) (by kernel_rfl)
theorem meaning_holds (f : FuncId) (c : SV) (F : List UInt8 → Option (Nat → BitVec 64)) (hF : ∀ s, Holds Try.prog gl f [.d (.str s), c] (tupS (F s))) (n : NsD) (all : Nat → BitVec 64) :
    Holds Try.prog gl 37 [.d n.enc, .d (dSet all), .clo (.func f) [] [c]] (tupS (meanF F n all)) := by
  refine holds_of_body hm1 e37 (h := h37) ?_
  rw [body37]
  intro hwf
  rw [demote_d, demote_d]
  refine bindO_to (cells_ns n) ⟨rfl, ?_⟩
  refine bindO_to (cells_set all) ⟨len_cSet _, ?_⟩
  refine bindO_to (ns_all n) ?_
  rw [demote_d, ifP_dec, zero_set]
  refine ⟨fun h => ?_, fun h => ?_⟩
  · refine bindO_to (part_set _) ?_
    refine bindO_to (cells_set _) ⟨len_cSet _, Nat.le_refl 4, ?_⟩
    refine bindO_to (ns_names n) ?_
    refine bindO_to n.hn.len ?_
    rw [len_strs, set_all]
    show loopP _ [.clo (.func f) [] [c], .d n.nd, .d (.int .i64 (n.names.length : Int)), .d (.int .i64 0)] [cNs n, cSet all, cSet (fun _ => 0), cSet all]
    refine mean_loop1 f c F hF n all all (fun x => x = tupS (meanF F n all)) ?_
    rw [meanF, h]
    rfl
  · refine bindO_to (ns_names n) ?_
    refine bindO_to n.hn.len ?_
    rw [len_strs]
    refine mean_loop1 f c F hF n all (fun _ => 0) (fun x => x = tupS (meanF F n all)) ?_
    rw [meanF, h]
    rfl
end Go.Proofs.Ytfeepndphaboeaa.Ab
