/-
  THE ARGUMENTS OF PACKAGE 09: names, lists of names, sets of names, environments.
-/
import Derived.Test.YtfeepndphaboeaaE13
import Derived.Test.YtfeepndphaboeaaRg
import Derived.Test.YtfeepndphaboeaaChecked
set_option linter.unusedVariables false
set_option linter.unusedSimpArgs false
namespace Go.Proofs.Ytfeepndphaboeaa.Ab
open Go

def tyL : List Nat := [9, 25, 29, 27, 22, 23, 53, 65, 35, 33, 4, 47]
theorem closed09 : closedB Try.prog [9, 25, 29, 27, 22, 23, 53, 65, 35, 33, 4, 47] = true := by kernel_rfl
theorem agg9 : aggOf? Try.prog 9 = some false := by kernel_rfl
theorem agg25 : aggOf? Try.prog 25 = some true := by kernel_rfl
theorem agg29 : aggOf? Try.prog 29 = some true := by kernel_rfl
theorem agg27 : aggOf? Try.prog 27 = some false := by kernel_rfl
theorem agg35 : aggOf? Try.prog 35 = some true := by kernel_rfl
theorem agg47 : aggOf? Try.prog 47 = some false := by kernel_rfl
theorem agg53 : aggOf? Try.prog 53 = some true := by kernel_rfl
theorem agg65 : aggOf? Try.prog 65 = some true := by kernel_rfl
theorem cells9 : Try.prog.cellsOf 9 = 1 := by kernel_rfl
theorem cells53 : Try.prog.cellsOf 53 = 3 := by kernel_rfl
theorem cells65 : Try.prog.cellsOf 65 = 5 := by kernel_rfl

theorem is_str {xs : List D} (h : Is Try.prog 9 xs) : ∃ s, xs = [.str s] := by
  obtain ⟨s, rfl, _⟩ := h.str_inv Try.underlying9
  exact ⟨s, rfl⟩
theorem is_bool {xs : List D} (h : Is Try.prog 4 xs) : ∃ b, xs = [.bool b] := h.bool_inv Try.underlying4
theorem is_strs {xs : List D} (h : Is Try.prog 27 xs) : ∃ (l : List (List UInt8)) (x : D), xs = [x] ∧ IsD 1 (dStrs l) x ∧ l.length ≤ maxLen := by
  rcases h.sl_inv Try.underlying27 agg9 with rfl | ⟨L, rfl, hm, hL⟩
  · exact ⟨[], _, rfl, .nil 0 rfl, by simp⟩
  · obtain ⟨l, hl, hn⟩ := list_of (b := false) (f := D.str) (fun x hx => by obtain ⟨s, rfl⟩ := is_str hx; exact ⟨s, rfl⟩) L hL
    refine ⟨l, _, rfl, ?_, by omega⟩
    rw [hl, cells9]
    exact .ro
theorem is_word {xs : List D} (h : Is Try.prog 33 xs) : ∃ x : BitVec 64, xs = [dW x] := by
  obtain ⟨n, rfl, hn⟩ := h.int_inv Try.underlying33
  rw [wfI_min_max] at hn
  have h0 : 0 ≤ n := hn.1
  have h1 : n ≤ 18446744073709551615 := hn.2
  obtain ⟨m, rfl⟩ := Int.eq_ofNat_of_zero_le h0
  refine ⟨BitVec.ofNat 64 m, ?_⟩
  have : (BitVec.ofNat 64 m).toNat = m := by
    rw [BitVec.toNat_ofNat]
    exact Nat.mod_eq_of_lt (by omega)
  rw [dW, this]
theorem is_set {xs : List D} (h : Is Try.prog 35 xs) : ∃ w : Nat → BitVec 64, xs = [dW (w 0), dW (w 1), dW (w 2), dW (w 3)] := by
  obtain ⟨parts, rfl, hl, hp⟩ := h.array_inv Try.underlying35
  match parts, hl, hp with
  | [a, b, c, d], _, hp =>
    obtain ⟨x, rfl⟩ := is_word (hp a (by simp))
    obtain ⟨y, rfl⟩ := is_word (hp b (by simp))
    obtain ⟨z, rfl⟩ := is_word (hp c (by simp))
    obtain ⟨u, rfl⟩ := is_word (hp d (by simp))
    exact ⟨fun i => if i = 0 then x else if i = 1 then y else if i = 2 then z else u, rfl⟩
theorem is_u32 {xs : List D} (h : Is Try.prog 47 xs) : ∃ m : Nat, m < 2 ^ 32 ∧ xs = [.int .u32 (m : Int)] := by
  obtain ⟨n, rfl, hn⟩ := h.int_inv Try.underlying47
  rw [wfI_min_max] at hn
  have h0 : 0 ≤ n := hn.1
  have h1 : n ≤ 4294967295 := hn.2
  obtain ⟨m, rfl⟩ := Int.eq_ofNat_of_zero_le h0
  exact ⟨m, by omega, rfl⟩
theorem is_ty {xs : List D} (h : Is Try.prog 53 xs) : ∃ t : TyD, pack true xs = t.enc := by
  obtain ⟨parts, rfl, hl, hp⟩ := h.struct_inv Try.underlying53
  match parts, hl, hp with
  | [a, b, c], _, hp =>
    obtain ⟨s, rfl⟩ := is_str (hp 0 _ _ rfl rfl)
    obtain ⟨l, x, rfl, hx, hn⟩ := is_strs (hp 1 _ _ rfl rfl)
    obtain ⟨p, rfl⟩ := is_bool (hp 2 _ _ rfl rfl)
    exact ⟨⟨s, l, x, p, hx, hn⟩, rfl⟩
theorem is_at {xs : List D} (h : Is Try.prog 65 xs) : ∃ t : AtD, pack true xs = t.enc := by
  obtain ⟨parts, rfl, hl, hp⟩ := h.struct_inv Try.underlying65
  match parts, hl, hp with
  | [a, b], _, hp =>
    obtain ⟨s, rfl⟩ := is_str (hp 0 _ _ rfl rfl)
    obtain ⟨w, rfl⟩ := is_set (hp 1 _ _ rfl rfl)
    exact ⟨⟨s, w⟩, rfl⟩
theorem is_tys {xs : List D} (h : Is Try.prog 22 xs) : ∃ (l : List TyD) (x : D), xs = [x] ∧ IsD 3 (l.map TyD.enc) x ∧ l.length ≤ maxLen := by
  rcases h.sl_inv Try.underlying22 agg53 with rfl | ⟨L, rfl, hm, hL⟩
  · exact ⟨[], _, rfl, .nil 0 rfl, by simp⟩
  · obtain ⟨l, hl, hn⟩ := list_of (fun x hx => is_ty hx) L hL
    refine ⟨l, _, rfl, ?_, by omega⟩
    rw [hl, cells53]
    exact .ro
theorem is_ats {xs : List D} (h : Is Try.prog 23 xs) : ∃ (l : List AtD) (x : D), xs = [x] ∧ IsD 5 (l.map AtD.enc) x ∧ l.length ≤ maxLen := by
  rcases h.sl_inv Try.underlying23 agg65 with rfl | ⟨L, rfl, hm, hL⟩
  · exact ⟨[], _, rfl, .nil 0 rfl, by simp⟩
  · obtain ⟨l, hl, hn⟩ := list_of (fun x hx => is_at hx) L hL
    refine ⟨l, _, rfl, ?_, by omega⟩
    rw [hl, cells65]
    exact .ro
theorem is_env {xs : List D} (h : Is Try.prog 25 xs) : ∃ e : EnvD, pack true xs = e.enc := by
  obtain ⟨parts, rfl, hl, hp⟩ := h.struct_inv Try.underlying25
  match parts, hl, hp with
  | [a, b], _, hp =>
    obtain ⟨l, x, rfl, hx, hn⟩ := is_tys (hp 0 _ _ rfl rfl)
    obtain ⟨m, y, rfl, hy, hn'⟩ := is_ats (hp 1 _ _ rfl rfl)
    exact ⟨⟨l, x, m, y, hx, hy, hn, hn'⟩, rfl⟩
theorem is_ns {xs : List D} (h : Is Try.prog 29 xs) : ∃ n : NsD, pack true xs = n.enc := by
  obtain ⟨parts, rfl, hl, hp⟩ := h.struct_inv Try.underlying29
  match parts, hl, hp with
  | [a, b, c, d, e], _, hp =>
    obtain ⟨p, rfl⟩ := is_bool (hp 0 _ _ rfl rfl)
    obtain ⟨q, rfl⟩ := is_bool (hp 1 _ _ rfl rfl)
    obtain ⟨r, rfl⟩ := is_bool (hp 2 _ _ rfl rfl)
    obtain ⟨l, x, rfl, hx, hn⟩ := is_strs (hp 3 _ _ rfl rfl)
    obtain ⟨m, y, rfl, hy, hn'⟩ := is_strs (hp 4 _ _ rfl rfl)
    exact ⟨⟨p, q, r, l, m, x, y, hx, hy, hn, hn'⟩, rfl⟩
end Go.Proofs.Ytfeepndphaboeaa.Ab
