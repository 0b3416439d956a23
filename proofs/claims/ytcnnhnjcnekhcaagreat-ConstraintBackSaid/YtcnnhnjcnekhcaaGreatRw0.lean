/-
  THE ARGUMENTS: expressions, contexts, cases.
-/
import Derived.Test.YtcnnhnjcnekhcaaGreatUb
import Derived.Test.YtcnnhnjcnekhcaaGreatTy
import Derived.Test.YtcnnhnjcnekhcaaGreatChecked
set_option linter.unusedVariables false
set_option linter.unusedSimpArgs false
namespace Go.Proofs.YtcnnhnjcnekhcaaGreat.Ab
open Go
theorem agg_s : aggOf? Tryz.prog 9 = some false := by kernel_rfl
theorem agg_i : aggOf? Tryz.prog 3 = some false := by kernel_rfl
theorem agg_b : aggOf? Tryz.prog 4 = some false := by kernel_rfl
theorem agg_ex : aggOf? Tryz.prog 28 = some true := by kernel_rfl
theorem agg_case : aggOf? Tryz.prog 60 = some true := by kernel_rfl
theorem cells_s : Tryz.prog.cellsOf 9 = 1 := by kernel_rfl
theorem cells_e : Tryz.prog.cellsOf 28 = 10 := by kernel_rfl
theorem is_str {xs : List D} (h : Is Tryz.prog 9 xs) : ∃ s, xs = [.str s] := by
  obtain ⟨s, rfl, _⟩ := h.str_inv Tryz.underlying9
  exact ⟨s, rfl⟩
theorem is_bool {xs : List D} (h : Is Tryz.prog 4 xs) : ∃ b, xs = [.bool b] := h.bool_inv Tryz.underlying4
theorem is_int {xs : List D} (h : Is Tryz.prog 3 xs) : ∃ n, xs = [.int .i64 n] := by
  obtain ⟨n, rfl, _⟩ := h.int_inv Tryz.underlying3
  exact ⟨n, rfl⟩
theorem is_strs {xs : List D} (h : Is Tryz.prog 22 xs) : ∃ (l : List (List UInt8)) (x : D), xs = [x] ∧ IsD 1 (dStrs l) x := by
  rcases h.sl_inv Tryz.underlying22 agg_s with rfl | ⟨L, rfl, hm, hL⟩
  · exact ⟨[], _, rfl, .nil 0 rfl⟩
  · obtain ⟨l, hl, hn⟩ := list_of (b := false) (f := D.str) (fun x hx => by obtain ⟨s, rfl⟩ := is_str hx; exact ⟨s, rfl⟩) L hL
    refine ⟨l, _, rfl, ?_⟩
    rw [hl, cells_s]
    exact .ro
theorem is_word {xs : List D} (h : Is Tryz.prog 23 xs) : ∃ x : BitVec 64, xs = [dW x] := by
  obtain ⟨n, rfl, hn⟩ := h.int_inv Tryz.underlying23
  rw [wfI_min_max] at hn
  have h0 : 0 ≤ n := hn.1
  have h1 : n ≤ 18446744073709551615 := hn.2
  obtain ⟨m, rfl⟩ := Int.eq_ofNat_of_zero_le h0
  refine ⟨BitVec.ofNat 64 m, ?_⟩
  have : (BitVec.ofNat 64 m).toNat = m := by
    rw [BitVec.toNat_ofNat]
    exact Nat.mod_eq_of_lt (by omega)
  rw [dW, this]
theorem is_set {xs : List D} (h : Is Tryz.prog 25 xs) : ∃ w : Nat → BitVec 64, xs = [dW (w 0), dW (w 1), dW (w 2), dW (w 3)] := by
  obtain ⟨parts, rfl, hl, hp⟩ := h.array_inv Tryz.underlying25
  match parts, hl, hp with
  | [a, b, c, d], _, hp =>
    obtain ⟨x, rfl⟩ := is_word (hp a (by simp))
    obtain ⟨y, rfl⟩ := is_word (hp b (by simp))
    obtain ⟨z, rfl⟩ := is_word (hp c (by simp))
    obtain ⟨u, rfl⟩ := is_word (hp d (by simp))
    exact ⟨fun i => if i = 0 then x else if i = 1 then y else if i = 2 then z else u, rfl⟩
theorem is_lev {xs : List D} (h : Is Tryz.prog 54 xs) : ∃ (s : Int) (c : BitVec 64), xs = [.int .i64 s, dW c] := by
  obtain ⟨parts, rfl, hl, hp⟩ := h.struct_inv Tryz.underlying54
  match parts, hl, hp with
  | [a, b], _, hp =>
    obtain ⟨s, rfl⟩ := is_int (hp 0 _ _ rfl rfl)
    obtain ⟨c, rfl⟩ := is_word (hp 1 _ _ rfl rfl)
    exact ⟨s, c, rfl⟩
theorem is_rng {xs : List D} (h : Is Tryz.prog 56 xs) : ∃ (s : Int) (c : BitVec 64) (s' : Int) (c' : BitVec 64), xs = [.int .i64 s, dW c, .int .i64 s', dW c'] := by
  obtain ⟨parts, rfl, hl, hp⟩ := h.struct_inv Tryz.underlying56
  match parts, hl, hp with
  | [a, b], _, hp =>
    obtain ⟨s, c, rfl⟩ := is_lev (hp 0 _ _ rfl rfl)
    obtain ⟨s', c', rfl⟩ := is_lev (hp 1 _ _ rfl rfl)
    exact ⟨s, c, s', c', rfl⟩
theorem is_ctx {xs : List D} (h : Is Tryz.prog 58 xs) : ∃ c : CtxD, xs = [.int .i64 c.u, .int .i64 c.r, .int .i64 c.t, .int .i64 c.ls, dW c.lc, .int .i64 c.hs, dW c.hc] := by
  obtain ⟨parts, rfl, hl, hp⟩ := h.struct_inv Tryz.underlying58
  match parts, hl, hp with
  | [a, b, c, d], _, hp =>
    obtain ⟨u, rfl⟩ := is_int (hp 0 _ _ rfl rfl)
    obtain ⟨r, rfl⟩ := is_int (hp 1 _ _ rfl rfl)
    obtain ⟨t, rfl⟩ := is_int (hp 2 _ _ rfl rfl)
    obtain ⟨s, x, s', x', rfl⟩ := is_rng (hp 3 _ _ rfl rfl)
    exact ⟨⟨u, r, t, s, x, s', x'⟩, rfl⟩
theorem is_case {xs : List D} (h : Is Tryz.prog 60 xs) : ∃ c : CaseD, pack true xs = dCase c := by
  obtain ⟨parts, rfl, hl, hp⟩ := h.struct_inv Tryz.underlying60
  match parts, hl, hp with
  | [a, b, c], _, hp =>
    obtain ⟨x, rfl⟩ := is_ctx (hp 0 _ _ rfl rfl)
    obtain ⟨y, rfl⟩ := is_ctx (hp 1 _ _ rfl rfl)
    obtain ⟨z, rfl⟩ := is_ctx (hp 2 _ _ rfl rfl)
    exact ⟨⟨x, y, z⟩, rfl⟩
theorem closedP : closedB Tryz.prog [9, 3, 4, 22, 23, 63, 25, 26, 28, 54, 56, 58, 60, 65, 29, 97, 30, 101, 31, 103, 32, 105, 33, 107, 34, 109, 35, 95, 36, 147, 37, 149, 38, 67, 39, 111, 40, 153, 41, 160, 42, 44, 62] = true := by kernel_rfl
/-- expressions, and lists of them -/
theorem is_ex_all {t : TypeId} {xs : List D} (h : Is Tryz.prog t xs) : (t = 28 → ∃ e : Xp, IsE e (.agg xs)) ∧
    (t = 26 → ∃ (l : List Xp) (L : List D) (x : D), xs = [x] ∧ IsD 10 L x ∧ L.length = l.length ∧ ∀ (i : Nat) k y, l[i]? = some k → L[i]? = some y → IsE k y) := by
  have hx : 28 ≠ 26 := by decide
  induction h with
  | struct h parts hl hp ih =>
    refine ⟨fun ht => ?_, fun ht => ?_⟩
    · subst ht
      rw [Tryz.underlying28] at h
      cases h
      match parts, hl, hp, ih with
      | [a, b, c, d, n, s, k], _, hp, ih =>
        obtain ⟨op, rfl⟩ := is_int (hp 0 _ _ rfl rfl)
        obtain ⟨a', rfl⟩ := is_int (hp 1 _ _ rfl rfl)
        obtain ⟨rel, rfl⟩ := is_int (hp 2 _ _ rfl rfl)
        obtain ⟨b', rfl⟩ := is_int (hp 3 _ _ rfl rfl)
        obtain ⟨names, nm, rfl, hn⟩ := is_strs (hp 4 _ _ rfl rfl)
        obtain ⟨w, rfl⟩ := is_set (hp 5 _ _ rfl rfl)
        obtain ⟨l, L, x, rfl, hd, hl', hk⟩ := (ih 6 _ _ rfl rfl).2 rfl
        exact ⟨_, .mk op a' rel b' names w l nm x L hn hl' hk hd⟩
    · subst ht
      rw [Tryz.underlying26] at h
      cases h
  | nilsl h => exact ⟨fun ht => (by subst ht; rw [Tryz.underlying28] at h; cases h), fun ht => ⟨[], [], _, rfl, .nil 0 rfl, rfl, fun i k y h1 => by simp at h1⟩⟩
  | sl h b hb L hm hL ih =>
    refine ⟨fun ht => (by subst ht; rw [Tryz.underlying28] at h; cases h), fun ht => ?_⟩
    subst ht
    rw [Tryz.underlying26] at h
    cases h
    rw [agg_ex] at hb
    cases hb
    have key : ∀ (L : List (List D)), (∀ x ∈ L, ∃ e : Xp, IsE e (.agg x)) → ∃ l : List Xp, (L.map (pack true)).length = l.length ∧ ∀ (i : Nat) k y, l[i]? = some k → (L.map (pack true))[i]? = some y → IsE k y := by
      intro L
      induction L with
      | nil => intro _; exact ⟨[], rfl, fun i k y h1 => by simp at h1⟩
      | cons x L ihL =>
        intro h
        obtain ⟨e, he⟩ := h x (by simp)
        obtain ⟨l, h1, h2⟩ := ihL fun y hy => h y (by simp [hy])
        refine ⟨e :: l, by simp at h1 ⊢; exact h1, fun i k y a b => ?_⟩
        cases i with
        | zero => simp at a b; subst a b; exact he
        | succ i => exact h2 i k y (by simpa using a) (by simpa using b)
    obtain ⟨l, h1, h2⟩ := key L fun x hx => (ih x hx).1 rfl
    refine ⟨l, _, _, rfl, ?_, h1, h2⟩
    rw [cells_e]
    exact .ro
  | bool h => exact ⟨fun ht => (by subst ht; rw [Tryz.underlying28] at h; cases h), fun ht => (by subst ht; rw [Tryz.underlying26] at h; cases h)⟩
  | int h => exact ⟨fun ht => (by subst ht; rw [Tryz.underlying28] at h; cases h), fun ht => (by subst ht; rw [Tryz.underlying26] at h; cases h)⟩
  | str h => exact ⟨fun ht => (by subst ht; rw [Tryz.underlying28] at h; cases h), fun ht => (by subst ht; rw [Tryz.underlying26] at h; cases h)⟩
  | array h => exact ⟨fun ht => (by subst ht; rw [Tryz.underlying28] at h; cases h), fun ht => (by subst ht; rw [Tryz.underlying26] at h; cases h)⟩
theorem is_ex {xs : List D} (h : Is Tryz.prog 28 xs) : ∃ e : Xp, IsE e (pack true xs) := (is_ex_all h).1 rfl
end Go.Proofs.YtcnnhnjcnekhcaaGreat.Ab
