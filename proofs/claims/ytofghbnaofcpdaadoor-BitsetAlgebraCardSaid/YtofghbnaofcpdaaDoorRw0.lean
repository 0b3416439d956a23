/-
  THE ARGUMENTS OF PACKAGE 01: sets, numbers, lists of numbers.
-/
import Derived.Test.YtofghbnaofcpdaaDoorC10
import Derived.Test.YtofghbnaofcpdaaDoorAb25
import Derived.Test.YtofghbnaofcpdaaDoorChecked
set_option linter.unusedVariables false
set_option linter.unusedSimpArgs false
namespace Go.Proofs.YtofghbnaofcpdaaDoor.Ab
open Go

theorem closed01 : closedB Tryd.prog [24, 22, 25, 3] = true := by kernel_rfl
theorem agg24 : aggOf? Tryd.prog 24 = some true := by kernel_rfl
theorem agg25 : aggOf? Tryd.prog 25 = some false := by kernel_rfl
theorem agg3 : aggOf? Tryd.prog 3 = some false := by kernel_rfl
theorem cells3 : Tryd.prog.cellsOf 3 = 1 := by kernel_rfl

theorem is_word {xs : List D} (h : Is Tryd.prog 22 xs) : ∃ x : BitVec 64, xs = [dW x] := by
  obtain ⟨n, rfl, hn⟩ := h.int_inv Tryd.underlying22
  rw [wfI_min_max] at hn
  have h0 : 0 ≤ n := hn.1
  have h1 : n ≤ 18446744073709551615 := hn.2
  obtain ⟨m, rfl⟩ := Int.eq_ofNat_of_zero_le h0
  refine ⟨BitVec.ofNat 64 m, ?_⟩
  have : (BitVec.ofNat 64 m).toNat = m := by
    rw [BitVec.toNat_ofNat]
    exact Nat.mod_eq_of_lt (by omega)
  rw [dW, this]
theorem is_set {xs : List D} (h : Is Tryd.prog 24 xs) : ∃ w, pack true xs = dSet w := by
  obtain ⟨parts, rfl, hl, hp⟩ := h.array_inv Tryd.underlying24
  match parts, hl, hp with
  | [a, b, c, d], _, hp =>
    obtain ⟨x, rfl⟩ := is_word (hp a (by simp))
    obtain ⟨y, rfl⟩ := is_word (hp b (by simp))
    obtain ⟨z, rfl⟩ := is_word (hp c (by simp))
    obtain ⟨u, rfl⟩ := is_word (hp d (by simp))
    exact ⟨fun i => if i = 0 then x else if i = 1 then y else if i = 2 then z else u, rfl⟩
theorem is_num {xs : List D} (h : Is Tryd.prog 3 xs) : ∃ n, xs = [dI n] := by
  obtain ⟨n, rfl, _⟩ := h.int_inv Tryd.underlying3
  exact ⟨n, rfl⟩
theorem is_nums : ∀ (L : List (List D)), (∀ x ∈ L, Is Tryd.prog 3 x) → ∃ l : List Int, L.map (pack false) = l.map dI ∧ l.length = L.length
  | [], _ => ⟨[], rfl, rfl⟩
  | x :: L, h => by
    obtain ⟨n, rfl⟩ := is_num (h x List.mem_cons_self)
    obtain ⟨l, hl, hn⟩ := is_nums L (fun y hy => h y (List.mem_cons_of_mem _ hy))
    exact ⟨n :: l, by rw [List.map_cons, List.map_cons, hl]; rfl, by simp [hn]⟩
theorem is_ints {xs : List D} (h : Is Tryd.prog 25 xs) : ∃ l : List Int, IsInts l (.d (pack false xs)) ∧ l.length ≤ maxLen := by
  rcases h.sl_inv Tryd.underlying25 agg3 with rfl | ⟨L, rfl, hm, hL⟩
  · exact ⟨[], .nil 0 rfl, by simp⟩
  · obtain ⟨l, hl, hn⟩ := is_nums L hL
    refine ⟨l, ?_, by omega⟩
    rw [hl, cells3]
    exact .ro
end Go.Proofs.YtofghbnaofcpdaaDoor.Ab
