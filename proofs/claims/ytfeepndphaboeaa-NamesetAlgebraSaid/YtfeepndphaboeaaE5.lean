/-
  THE PARTS TOGETHER; TYPES, LISTED, CLASSES, PERMS.
-/
import Derived.Test.YtfeepndphaboeaaE4
set_option linter.unusedVariables false
set_option linter.unusedSimpArgs false
namespace Go.Proofs.Ytfeepndphaboeaa.Ab
open Go

theorem z_or (x : BitVec 64) : (0 : BitVec 64) ||| x = x := by simp
theorem and_n0 (x : BitVec 64) : x &&& ~~~ (0 : BitVec 64) = x := by
  apply BitVec.eq_of_getLsbD_eq
  intro i hi
  rw [BitVec.getLsbD_and, BitVec.getLsbD_not, show ((0 : BitVec 64)).getLsbD i = false from BitVec.getLsbD_zero]
  simp [hi]
theorem accF_or (F : List UInt8 → Option (Nat → BitVec 64)) : ∀ (l : List (List UInt8)) (s0 : Nat → BitVec 64), accF orW F l s0 = orW s0 (accF orW F l fun _ => 0)
  | [], s0 => by funext k; simp [accF, orW]
  | n :: l, s0 => by
    have h1 := accF_or F l (orW s0 ((F n).getD fun _ => 0))
    have h2 := accF_or F l (orW (fun _ => 0) ((F n).getD fun _ => 0))
    show accF orW F l (orW s0 ((F n).getD fun _ => 0)) = orW s0 (accF orW F l (orW (fun _ => 0) ((F n).getD fun _ => 0)))
    rw [h1, h2]
    funext k
    simp only [orW]
    rw [z_or, BitVec.or_assoc]
theorem accF_sub (F : List UInt8 → Option (Nat → BitVec 64)) : ∀ (l : List (List UInt8)) (s0 : Nat → BitVec 64), accF subW F l s0 = subW s0 (accF orW F l fun _ => 0)
  | [], s0 => by funext k; exact (and_n0 (s0 k)).symm
  | n :: l, s0 => by
    have h1 := accF_sub F l (subW s0 ((F n).getD fun _ => 0))
    have h2 := accF_or F l (orW (fun _ => 0) ((F n).getD fun _ => 0))
    show accF subW F l (subW s0 ((F n).getD fun _ => 0)) = subW s0 (accF orW F l (orW (fun _ => 0) ((F n).getD fun _ => 0)))
    rw [h1, h2]
    funext k
    simp only [orW, subW]
    rw [z_or, BitVec.not_or, BitVec.and_assoc]
theorem meanF_eq (F : List UInt8 → Option (Nat → BitVec 64)) (n : NsD) (all : Nat → BitVec 64) :
    meanF F n all = match togF F n.names, togF F n.ex with | some i, some o => some (combW n i o all) | _, _ => none := by
  unfold meanF exF togF combW
  rw [accF_or F n.names]
  cases allF F n.names <;> cases allF F n.ex <;> simp [accF_sub]
theorem first_take {α : Type} (p : α → Bool) : ∀ (l : List α) (m : Nat), first p (l.take m) = match first p l with | some k => if k < m then some k else none | none => none
  | [], m => by simp [first]
  | x :: l, 0 => by
    simp only [List.take_zero]
    cases first p (x :: l) <;> simp [first]
  | x :: l, m + 1 => by
    simp only [List.take_succ_cons, first]
    by_cases h : p x = true
    · simp [h]
    · simp only [h, Bool.false_eq_true, ↓reduceIte]
      rw [first_take p l m]
      cases first p l with
      | none => rfl
      | some k =>
        simp only [Option.map_some]
        by_cases hk : k < m
        · simp [hk]
        · simp [hk]
theorem num_idx (l : List (List UInt8)) (most : Nat) : numW l most = idxW (l.take (min l.length most)) := by
  funext s
  unfold numW idxW idx
  rw [first_take]
  cases h : first (fun x => x == s) l with
  | none => rfl
  | some k =>
    have := first_lt h
    by_cases hk : k < most
    · have h2 : k < min l.length most := by omega
      simp [hk, h2]
    · have h2 : ¬ k < min l.length most := by omega
      simp [hk, h2]
/-- what a set of names means over a list -/
def lstF (l : List (List UInt8)) (most : Nat) (n : NsD) : Option (Nat → BitVec 64) := meanF (numW l most) n (allW (clip ((min l.length most : Nat) : Int)))
theorem min_nat (a b : Nat) : minD (a : Int) (b : Int) = ((min a b : Nat) : Int) := by
  unfold minD
  split <;> omega
theorem slice_to {l : List (List UInt8)} {x : SV} (hx : IsSl 1 (dStrs l) x) {m : Nat} (hm : m ≤ l.length) : ∃ y, sliceL 1 x none (some (.d (.int .i64 (m : Int)))) none = some (.d y) ∧ IsD 1 (dStrs (l.take m)) y := by
  have hs : ∀ L : List D, L = dStrs l → subOf L none (some (.d (.int .i64 (m : Int)))) = some (dStrs (l.take m)) := by
    rintro L rfl
    have h1 : hiOf (dStrs l).length (some (.d (.int .i64 (m : Int)))) = some m := by
      simp only [hiOf]
      exact index_nat (by rw [len_strs]; omega)
    unfold subOf
    rw [h1]
    simp [loOf, dStrs, List.map_take]
  cases hx with
  | nil s h =>
    refine ⟨.sl .nil 1 [], ?_, .nil 1 ?_⟩
    · have := hs [] h.symm
      simp only [sliceL, toD]
      rw [this]
    · have : l = [] := by simpa [dStrs] using h
      subst this
      simp [dStrs]
  | ro =>
    refine ⟨.sl .ro 1 (dStrs (l.take m)), ?_, .ro⟩
    simp only [sliceL, toD]
    rw [hs _ rfl]
    simp
  | full =>
    refine ⟨.sl .ro 1 (dStrs (l.take m)), ?_, .ro⟩
    simp only [sliceL, toD]
    rw [hs _ rfl]
    simp
theorem e42 : Enters Try.prog 42 := enters_some (fn := Try.f42) (by kernel_rfl) (by kernel_rfl) (by kernel_rfl)
theorem listed_holds (n : NsD) (l : List (List UInt8)) {x : SV} (hx : IsSl 1 (dStrs l) x) (hl : l.length ≤ maxLen) (most : Nat) : Holds Try.prog gl 42 [.d n.enc, x, .d (.int .i64 (most : Int))] (tupS (lstF l most n)) := by
  refine holds_of_body hm1 e42 (h := h42) ?_
  rw [body42]
  intro hwf
  rw [demote_d, hx.dem]
  refine bindO_to (cells_ns n) ⟨rfl, ?_⟩
  refine bindO_to hx.cells ⟨rfl, ?_⟩
  refine bindO_to (show partV false 1 0 [x] = some x from rfl) ?_
  refine bindO_to (show partV false 1 0 [x] = some x from rfl) ?_
  rw [hx.dem, hx.dem]
  refine bindO_to hx.len ?_
  rw [len_strs, demote_d, demote_d]
  obtain ⟨y, hy, hyd⟩ := slice_to hx (m := min l.length most) (Nat.min_le_left _ _)
  have hf : foldIntV minD (.d (.int .i64 (l.length : Int))) [.d (.int .i64 (most : Int))] = some (.d (.int .i64 ((min l.length most : Nat) : Int))) := by
    rw [← min_nat]; rfl
  rw [demote_d, hf, bindO_some', demote_d, hx.dem, hy, bindO_some']
  refine bindO_to (show cellsV (demote (.d y)) = some [.d y] from by cases hyd <;> rfl) ⟨rfl, Nat.le_refl 1, ?_⟩
  refine bindO_to (part_ns n) ?_
  have hset : setAt [x] 0 [SV.d y] = [.d y] := rfl
  rw [hset]
  refine bindO_to (show partV false 1 0 [SV.d y] = some (.d y) from rfl) ?_
  have hlen : (l.take (min l.length most)).length = min l.length most := by rw [List.length_take]; omega
  rw [demote_d, demote_d]
  refine bindO_to hyd.len ?_
  rw [len_strs, hlen]
  refine callP_of (all_holds ((min l.length most : Nat) : Int)) ?_
  have hM := meaning_holds 53 (.ref [.d y] 0) (idxW (l.take (min l.length most))) (num_holds _ hyd (by omega)) n (allW (clip ((min l.length most : Nat) : Int)))
  rw [← num_idx] at hM
  refine call2 hM ?_
  rw [demote_d, demote_d]
  refine bindO_to (cells_set _) ⟨len_cSet _, Nat.le_refl 4, ?_⟩
  rw [zero_set, set_all]
  refine bindO_to (part_set _) ⟨rfl, rfl, ?_⟩
  rfl
theorem e43 : Enters Try.prog 43 := enters_some (fn := Try.f43) (by kernel_rfl) (by kernel_rfl) (by kernel_rfl)
theorem listedR_holds (n : NsD) (l : List (List UInt8)) {x : SV} (hx : IsSl 1 (dStrs l) x) (hl : l.length ≤ maxLen) (most : Nat) : Holds Try.prog gl 43 [.d n.enc, x, .d (.int .i64 (most : Int))] (tupS (lstF l most n)) := by
  refine holds_of_body hm1 e43 (h := h43) ?_
  rw [body43]
  intro hwf
  simp only [demote_d, hx.dem]
  refine bindO_to (cells_ns n) ⟨rfl, ?_⟩
  refine bindO_to (ns_names n) ?_
  have h1 := numbersR_holds n.names n.hn n.ln l hx hl most
  have h2 := numbersR_holds n.ex n.he n.le l hx hl most
  rw [lstF, meanF_eq]
  have hend : ∀ {K : SV → Prop}, True := fun {_} => trivial
  rw [zero_set]
  refine call2 (show Holds Try.prog gl 54 _ (.tup [.d (dSet ((togF (numW l most) n.names).getD fun _ => 0)), .d (.bool (togF (numW l most) n.names).isSome)]) from h1) ?_
  refine bindO_to (cells_set _) ⟨len_cSet _, Nat.le_refl 4, ?_⟩
  refine bindO_to (ns_ex n) ?_
  refine call2 (show Holds Try.prog gl 54 _ (.tup [.d (dSet ((togF (numW l most) n.ex).getD fun _ => 0)), .d (.bool (togF (numW l most) n.ex).isSome)]) from h2) ?_
  refine bindO_to (cells_set _) ⟨len_cSet _, Nat.le_refl 4, ?_⟩
  generalize togF (numW l most) n.names = o1
  generalize togF (numW l most) n.ex = o2
  simp only [demote_d]
  rw [un_not, bindO_some', demote_d, ifP_dec]
  refine ⟨fun h => ?_, fun h => ?_⟩
  · refine bindO_to parts_nil ?_
    refine bindO_to build_set ?_
    refine bindO_to (cells_set _) ⟨len_cSet _, Nat.le_refl 4, ?_⟩
    rw [set_all]
    refine bindO_to (part_set _) ⟨rfl, rfl, ?_⟩
    cases o1 with
    | none => rfl
    | some _ => cases h
  · rw [un_not, bindO_some', demote_d, ifP_dec]
    refine ⟨fun h' => ?_, fun h' => ?_⟩
    · refine bindO_to parts_nil ?_
      refine bindO_to build_set ?_
      refine bindO_to (cells_set _) ⟨len_cSet _, Nat.le_refl 4, ?_⟩
      rw [set_all]
      refine bindO_to (part_set _) ⟨rfl, rfl, ?_⟩
      cases o2 with
      | none => cases o1 <;> rfl
      | some _ => cases h'
    · refine bindO_to (part_ns n) ?_
      rw [set_all, set_all]
      refine bindO_to (part_set _) ?_
      refine bindO_to (part_set _) ?_
      refine bindO_to hx.len ?_
      have hf : foldIntV minD (.d (.int .i64 (l.length : Int))) [.d (.int .i64 (most : Int))] = some (.d (.int .i64 ((min l.length most : Nat) : Int))) := by
        rw [← min_nat]; rfl
      rw [len_strs, demote_d, hf, bindO_some']
      refine callP_of (combine_holds n _ _ ((min l.length most : Nat) : Int)) ?_
      refine bindO_to (cells_set _) ⟨len_cSet _, Nat.le_refl 4, ?_⟩
      rw [set_all]
      refine bindO_to (part_set _) ⟨rfl, rfl, ?_⟩
      cases o1 with
      | none => cases h
      | some i =>
        cases o2 with
        | none => cases h'
        | some o => rw [tupS_some]; rfl
end Go.Proofs.Ytfeepndphaboeaa.Ab
