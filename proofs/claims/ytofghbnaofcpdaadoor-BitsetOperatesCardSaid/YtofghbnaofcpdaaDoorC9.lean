/-
  THE EXAMPLE OF THE CHAPTER.
-/
import Derived.Test.YtofghbnaofcpdaaDoorC8
set_option linter.unusedVariables false
set_option linter.unusedSimpArgs false
namespace Go.Proofs.YtofghbnaofcpdaaDoor.Ab
open Go

theorem bindO_to {α : Type} {o : Option α} {k : α → Prop} {x : α} (h : o = some x) (hk : k x) : bindO o k := by subst h; exact hk
theorem ifP_to {x : SV} {A B : Prop} {b : Bool} (hx : x = .d (.bool b)) (hb : b = true) (hA : A) : ifP x A B := by subst hx hb; exact hA
theorem ifP_no {x : SV} {A B : Prop} {b : Bool} (hx : x = .d (.bool b)) (hb : b = false) (hB : B) : ifP x A B := by subst hx hb; exact hB

def exL : List Int := [3, 64, -1, 256, 3]
def exW : Nat → BitVec 64 := ofW exL fun _ => 0
def exS : Nat → BitVec 64 := fun i => if i = 0 then 8 else if i = 1 then 1 else 0
def exT : Nat → BitVec 64 := fun i => if i = 0 then 18446744073709551615 else if i = 1 then 1 else 0
theorem ex_words : exW 0 = 8 ∧ exW 1 = 1 ∧ exW 2 = 0 ∧ exW 3 = 0 := by decide +kernel
theorem ex_eq : eqW exW exS = true := by decide +kernel
theorem ex_cnt : cntW exW 4 = 2 := by decide +kernel
theorem ex_least : leastF exW 256 0 = 3 := by decide +kernel
theorem ex_all : eqW (allW (clip 65)) exT = true := by decide +kernel
theorem ex_list : listW exW 256 = [3, 64] := by decide +kernel
theorem build_s1 : buildD Tryd.prog 24 [(0, .int .u64 8), (1, .int .u64 1)] = some (dSet exS) := by kernel_rfl
theorem build_s2 : buildD Tryd.prog 24 [(0, .int .u64 18446744073709551615), (1, .int .u64 1)] = some (dSet exT) := by kernel_rfl
theorem is_list (w : Nat → BitVec 64) (l : List Int) (h : listW w 256 = l) : IsInts l (demote (nown (listW w 256))) := by
  rw [h]
  cases l with
  | nil => exact .nil 0 rfl
  | cons a l => exact .ro
theorem demote_two (x : SV) : demote (demote x) = demote x := by cases x <;> rfl
theorem count_is (w : Nat → BitVec 64) (n : Nat) (h : cntW w 4 = n) : Holds Tryd.prog gl 9 [.d (dSet w)] (.d (dI (n : Int))) := by
  subst h
  exact count_holds w
theorem least_is (w : Nat → BitVec 64) (n : Int) (h : leastF w 256 0 = n) : Holds Tryd.prog gl 11 [.d (dSet w)] (.d (dI n)) := by
  subst h
  exact least_holds w
theorem all_is (n : Int) (w : Nat → BitVec 64) (h : allW (clip n) = w) : Holds Tryd.prog gl 19 [.d (dI n)] (.d (dSet w)) := by
  subst h
  exact all_holds n
theorem e16 : Enters Tryd.prog 16 := enters_some (fn := Tryd.f16) (by kernel_rfl) (by kernel_rfl) (by kernel_rfl)
theorem alive_holds : Holds Tryd.prog gl 16 [] (.d (.bool true)) := by
  refine holds_of_body hm1 e16 (h := h16) ?_
  rw [body16]
  intro hwf
  refine bindO_to (x := [(0, .int .i64 3), (1, .int .i64 64), (2, .int .i64 (-1)), (3, .int .i64 256), (4, .int .i64 3)]) rfl ⟨rfl, ?_⟩
  refine callP_of (of_holds exL .full (by decide)) ?_
  rw [demote_d]
  refine bindO_to (cells_set exW) ⟨len_cSet exW, Nat.le_refl 4, ?_⟩
  rw [zero_set, set_all]
  generalize hw : exW = w
  refine bindO_to (part_set w) ?_
  refine bindO_to (x := [(0, .int .u64 8), (1, .int .u64 1)]) rfl ?_
  refine bindO_to build_s1 ?_
  refine bindO_to (eql_set w exS) ?_
  refine ifP_to rfl (by rw [← hw]; exact ex_eq) ?_
  refine bindO_to (part_set w) ?_
  rw [demote_d, demote_d, demote_d]
  refine callP_of (count_is w 2 (by rw [← hw]; exact ex_cnt)) ?_
  refine bindO_to (eql_int _ _) ?_
  refine ifP_to rfl rfl ?_
  refine bindO_to (part_set w) ?_
  rw [demote_d, demote_d, demote_d]
  refine callP_of (least_is w 3 (by rw [← hw]; exact ex_least)) ?_
  refine bindO_to (eql_int _ _) ?_
  refine ifP_to rfl rfl ?_
  obtain ⟨wa, ha⟩ : ∃ wa, allW (clip 65) = wa := ⟨_, rfl⟩
  refine callP_of (all_is 65 wa ha) ?_
  refine bindO_to (x := [(0, .int .u64 18446744073709551615), (1, .int .u64 1)]) rfl ?_
  refine bindO_to build_s2 ?_
  refine bindO_to (eql_set _ exT) ?_
  refine ifP_to rfl (by rw [← ha]; exact ex_all) ?_
  refine bindO_to (part_set w) ?_
  rw [demote_d, demote_d, demote_d]
  have hx := is_list w _ (show listW w 256 = [3, 64] by rw [← hw]; exact ex_list)
  refine callP_to (list_holds w) (isTup_nown _) ?_
  rw [demote_two]
  generalize demote (nown (listW w 256)) = y at hx ⊢
  refine bindO_to (x := [(0, .int .i64 3), (1, .int .i64 64)]) rfl ⟨rfl, ?_⟩
  refine callP_of (ints_holds [3, 64] [3, 64] hx .full (by decide) rfl) ?_
  exact ⟨rfl, rfl⟩
end Go.Proofs.YtofghbnaofcpdaaDoor.Ab
