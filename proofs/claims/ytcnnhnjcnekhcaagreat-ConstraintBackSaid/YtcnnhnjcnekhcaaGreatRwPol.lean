/-
  THE ARGUMENTS: policies.
-/
import Derived.Test.YtcnnhnjcnekhcaaGreatTp
import Derived.Test.YtcnnhnjcnekhcaaGreatRw0
set_option linter.unusedVariables false
set_option linter.unusedSimpArgs false
namespace Go.Proofs.YtcnnhnjcnekhcaaGreat.Ab
open Go
theorem is_u32v {xs : List D} (h : Is Tryz.prog 63 xs) : ∃ x : BitVec 32, xs = [dU x] := by
  obtain ⟨n, rfl, hn⟩ := h.int_inv Tryz.underlying63
  rw [wfI_min_max] at hn
  have h0 : 0 ≤ n := hn.1
  have h1 : n ≤ 4294967295 := hn.2
  obtain ⟨m, rfl⟩ := Int.eq_ofNat_of_zero_le h0
  refine ⟨BitVec.ofNat 32 m, ?_⟩
  have : (BitVec.ofNat 32 m).toNat = m := by
    rw [BitVec.toNat_ofNat]
    exact Nat.mod_eq_of_lt (by omega)
  rw [dU, this]
theorem is_strsM {xs : List D} (h : Is Tryz.prog 22 xs) : ∃ (l : List (List UInt8)) (x : D), xs = [x] ∧ IsD 1 (dStrs l) x ∧ l.length ≤ maxLen := by
  rcases h.sl_inv Tryz.underlying22 agg_s with rfl | ⟨L, rfl, hm, hL⟩
  · exact ⟨[], _, rfl, .nil 0 rfl, by simp⟩
  · obtain ⟨l, hl, hn⟩ := list_of (b := false) (f := D.str) (fun x hx => by obtain ⟨s, rfl⟩ := is_str hx; exact ⟨s, rfl⟩) L hL
    refine ⟨l, _, rfl, ?_, by omega⟩
    rw [hl, cells_s]
    exact .ro
theorem is_xpd {xs : List D} (h : Is Tryz.prog 28 xs) : ∃ t : XpD, xs = (fEx t.e.op t.e.a t.e.rel t.e.b t.nm t.e.w t.kd) := by
  obtain ⟨e, he⟩ := is_ex h
  have he' : IsE e (.agg xs) := he
  obtain ⟨nm, kd, L, hx, _⟩ := he'.inv
  cases hx
  exact ⟨⟨e, nm, kd, he'⟩, rfl⟩
theorem is_ClD {xs : List D} (h : Is Tryz.prog 65 xs) : ∃ t : ClD, pack true xs = t.enc := by
  obtain ⟨parts, rfl, hl, hp⟩ := h.struct_inv Tryz.underlying65
  match parts, hl, hp with
  | [q0, q1], _, hp =>
    obtain ⟨s0, rfl⟩ := is_str (hp 0 _ _ rfl rfl)
    obtain ⟨l1, x1, rfl, h1, m1⟩ := is_strsM (hp 1 _ _ rfl rfl)
    exact ⟨⟨s0, l1, x1, h1, m1⟩, rfl⟩
theorem agg_ClD : aggOf? Tryz.prog 65 = some true := by kernel_rfl
theorem csz_ClD : Tryz.prog.cellsOf 65 = 2 := by kernel_rfl
theorem is_ClDs {xs : List D} (h : Is Tryz.prog 29 xs) : ∃ (l : List ClD) (x : D), xs = [x] ∧ IsD 2 (l.map ClD.enc) x ∧ l.length ≤ maxLen := by
  rcases h.sl_inv Tryz.underlying29 agg_ClD with rfl | ⟨L, rfl, hm, hL⟩
  · exact ⟨[], _, rfl, .nil 0 rfl, by simp⟩
  · obtain ⟨l, hl, hn⟩ := list_of (fun x hx => is_ClD hx) L hL
    refine ⟨l, _, rfl, ?_, by omega⟩
    rw [hl, csz_ClD]
    exact .ro
theorem is_TyD {xs : List D} (h : Is Tryz.prog 97 xs) : ∃ t : TyD, pack true xs = t.enc := by
  obtain ⟨parts, rfl, hl, hp⟩ := h.struct_inv Tryz.underlying97
  match parts, hl, hp with
  | [q0, q1, q2], _, hp =>
    obtain ⟨s0, rfl⟩ := is_str (hp 0 _ _ rfl rfl)
    obtain ⟨l1, x1, rfl, h1, m1⟩ := is_strsM (hp 1 _ _ rfl rfl)
    obtain ⟨b2, rfl⟩ := is_bool (hp 2 _ _ rfl rfl)
    exact ⟨⟨s0, l1, x1, h1, m1, b2⟩, rfl⟩
theorem agg_TyD : aggOf? Tryz.prog 97 = some true := by kernel_rfl
theorem csz_TyD : Tryz.prog.cellsOf 97 = 3 := by kernel_rfl
theorem is_TyDs {xs : List D} (h : Is Tryz.prog 30 xs) : ∃ (l : List TyD) (x : D), xs = [x] ∧ IsD 3 (l.map TyD.enc) x ∧ l.length ≤ maxLen := by
  rcases h.sl_inv Tryz.underlying30 agg_TyD with rfl | ⟨L, rfl, hm, hL⟩
  · exact ⟨[], _, rfl, .nil 0 rfl, by simp⟩
  · obtain ⟨l, hl, hn⟩ := list_of (fun x hx => is_TyD hx) L hL
    refine ⟨l, _, rfl, ?_, by omega⟩
    rw [hl, csz_TyD]
    exact .ro
theorem is_AtD {xs : List D} (h : Is Tryz.prog 101 xs) : ∃ t : AtD, pack true xs = t.enc := by
  obtain ⟨parts, rfl, hl, hp⟩ := h.struct_inv Tryz.underlying101
  match parts, hl, hp with
  | [q0, q1], _, hp =>
    obtain ⟨s0, rfl⟩ := is_str (hp 0 _ _ rfl rfl)
    obtain ⟨w1, rfl⟩ := is_set (hp 1 _ _ rfl rfl)
    exact ⟨⟨s0, w1⟩, rfl⟩
theorem agg_AtD : aggOf? Tryz.prog 101 = some true := by kernel_rfl
theorem csz_AtD : Tryz.prog.cellsOf 101 = 5 := by kernel_rfl
theorem is_AtDs {xs : List D} (h : Is Tryz.prog 31 xs) : ∃ (l : List AtD) (x : D), xs = [x] ∧ IsD 5 (l.map AtD.enc) x ∧ l.length ≤ maxLen := by
  rcases h.sl_inv Tryz.underlying31 agg_AtD with rfl | ⟨L, rfl, hm, hL⟩
  · exact ⟨[], _, rfl, .nil 0 rfl, by simp⟩
  · obtain ⟨l, hl, hn⟩ := list_of (fun x hx => is_AtD hx) L hL
    refine ⟨l, _, rfl, ?_, by omega⟩
    rw [hl, csz_AtD]
    exact .ro
theorem is_RoD {xs : List D} (h : Is Tryz.prog 103 xs) : ∃ t : RoD, pack true xs = t.enc := by
  obtain ⟨parts, rfl, hl, hp⟩ := h.struct_inv Tryz.underlying103
  match parts, hl, hp with
  | [q0, q1, q2], _, hp =>
    obtain ⟨s0, rfl⟩ := is_str (hp 0 _ _ rfl rfl)
    obtain ⟨w1, rfl⟩ := is_set (hp 1 _ _ rfl rfl)
    obtain ⟨w2, rfl⟩ := is_set (hp 2 _ _ rfl rfl)
    exact ⟨⟨s0, w1, w2⟩, rfl⟩
theorem agg_RoD : aggOf? Tryz.prog 103 = some true := by kernel_rfl
theorem csz_RoD : Tryz.prog.cellsOf 103 = 9 := by kernel_rfl
theorem is_RoDs {xs : List D} (h : Is Tryz.prog 32 xs) : ∃ (l : List RoD) (x : D), xs = [x] ∧ IsD 9 (l.map RoD.enc) x ∧ l.length ≤ maxLen := by
  rcases h.sl_inv Tryz.underlying32 agg_RoD with rfl | ⟨L, rfl, hm, hL⟩
  · exact ⟨[], _, rfl, .nil 0 rfl, by simp⟩
  · obtain ⟨l, hl, hn⟩ := list_of (fun x hx => is_RoD hx) L hL
    refine ⟨l, _, rfl, ?_, by omega⟩
    rw [hl, csz_RoD]
    exact .ro
theorem is_UsD {xs : List D} (h : Is Tryz.prog 105 xs) : ∃ t : UsD, pack true xs = t.enc := by
  obtain ⟨parts, rfl, hl, hp⟩ := h.struct_inv Tryz.underlying105
  match parts, hl, hp with
  | [q0, q1, q2, q3], _, hp =>
    obtain ⟨s0, rfl⟩ := is_str (hp 0 _ _ rfl rfl)
    obtain ⟨w1, rfl⟩ := is_set (hp 1 _ _ rfl rfl)
    obtain ⟨s2, c2, rfl⟩ := is_lev (hp 2 _ _ rfl rfl)
    obtain ⟨s3, c3, z3, d3, rfl⟩ := is_rng (hp 3 _ _ rfl rfl)
    exact ⟨⟨s0, w1, (s2, c2), ((s3, c3), (z3, d3))⟩, rfl⟩
theorem agg_UsD : aggOf? Tryz.prog 105 = some true := by kernel_rfl
theorem csz_UsD : Tryz.prog.cellsOf 105 = 11 := by kernel_rfl
theorem is_UsDs {xs : List D} (h : Is Tryz.prog 33 xs) : ∃ (l : List UsD) (x : D), xs = [x] ∧ IsD 11 (l.map UsD.enc) x ∧ l.length ≤ maxLen := by
  rcases h.sl_inv Tryz.underlying33 agg_UsD with rfl | ⟨L, rfl, hm, hL⟩
  · exact ⟨[], _, rfl, .nil 0 rfl, by simp⟩
  · obtain ⟨l, hl, hn⟩ := list_of (fun x hx => is_UsD hx) L hL
    refine ⟨l, _, rfl, ?_, by omega⟩
    rw [hl, csz_UsD]
    exact .ro
theorem is_BoD {xs : List D} (h : Is Tryz.prog 107 xs) : ∃ t : BoD, pack true xs = t.enc := by
  obtain ⟨parts, rfl, hl, hp⟩ := h.struct_inv Tryz.underlying107
  match parts, hl, hp with
  | [q0, q1], _, hp =>
    obtain ⟨s0, rfl⟩ := is_str (hp 0 _ _ rfl rfl)
    obtain ⟨b1, rfl⟩ := is_bool (hp 1 _ _ rfl rfl)
    exact ⟨⟨s0, b1⟩, rfl⟩
theorem agg_BoD : aggOf? Tryz.prog 107 = some true := by kernel_rfl
theorem csz_BoD : Tryz.prog.cellsOf 107 = 2 := by kernel_rfl
theorem is_BoDs {xs : List D} (h : Is Tryz.prog 34 xs) : ∃ (l : List BoD) (x : D), xs = [x] ∧ IsD 2 (l.map BoD.enc) x ∧ l.length ≤ maxLen := by
  rcases h.sl_inv Tryz.underlying34 agg_BoD with rfl | ⟨L, rfl, hm, hL⟩
  · exact ⟨[], _, rfl, .nil 0 rfl, by simp⟩
  · obtain ⟨l, hl, hn⟩ := list_of (fun x hx => is_BoD hx) L hL
    refine ⟨l, _, rfl, ?_, by omega⟩
    rw [hl, csz_BoD]
    exact .ro
theorem is_RuD {xs : List D} (h : Is Tryz.prog 109 xs) : ∃ t : RuD, pack true xs = t.enc := by
  obtain ⟨parts, rfl, hl, hp⟩ := h.struct_inv Tryz.underlying109
  match parts, hl, hp with
  | [q0, q1, q2, q3, q4, q5, q6], _, hp =>
    obtain ⟨n0, rfl⟩ := is_int (hp 0 _ _ rfl rfl)
    obtain ⟨w1, rfl⟩ := is_set (hp 1 _ _ rfl rfl)
    obtain ⟨w2, rfl⟩ := is_set (hp 2 _ _ rfl rfl)
    obtain ⟨b3, rfl⟩ := is_bool (hp 3 _ _ rfl rfl)
    obtain ⟨n4, rfl⟩ := is_int (hp 4 _ _ rfl rfl)
    obtain ⟨u5, rfl⟩ := is_u32v (hp 5 _ _ rfl rfl)
    obtain ⟨n6, rfl⟩ := is_int (hp 6 _ _ rfl rfl)
    exact ⟨⟨n0, w1, w2, b3, n4, u5, n6⟩, rfl⟩
theorem agg_RuD : aggOf? Tryz.prog 109 = some true := by kernel_rfl
theorem csz_RuD : Tryz.prog.cellsOf 109 = 13 := by kernel_rfl
theorem is_RuDs {xs : List D} (h : Is Tryz.prog 35 xs) : ∃ (l : List RuD) (x : D), xs = [x] ∧ IsD 13 (l.map RuD.enc) x ∧ l.length ≤ maxLen := by
  rcases h.sl_inv Tryz.underlying35 agg_RuD with rfl | ⟨L, rfl, hm, hL⟩
  · exact ⟨[], _, rfl, .nil 0 rfl, by simp⟩
  · obtain ⟨l, hl, hn⟩ := list_of (fun x hx => is_RuD hx) L hL
    refine ⟨l, _, rfl, ?_, by omega⟩
    rw [hl, csz_RuD]
    exact .ro
theorem is_TrD {xs : List D} (h : Is Tryz.prog 95 xs) : ∃ t : TrD, pack true xs = t.enc := by
  obtain ⟨parts, rfl, hl, hp⟩ := h.struct_inv Tryz.underlying95
  match parts, hl, hp with
  | [q0, q1, q2, q3, q4, q5, q6], _, hp =>
    obtain ⟨n0, rfl⟩ := is_int (hp 0 _ _ rfl rfl)
    obtain ⟨w1, rfl⟩ := is_set (hp 1 _ _ rfl rfl)
    obtain ⟨w2, rfl⟩ := is_set (hp 2 _ _ rfl rfl)
    obtain ⟨n3, rfl⟩ := is_int (hp 3 _ _ rfl rfl)
    obtain ⟨s4, rfl⟩ := is_str (hp 4 _ _ rfl rfl)
    obtain ⟨n5, rfl⟩ := is_int (hp 5 _ _ rfl rfl)
    obtain ⟨n6, rfl⟩ := is_int (hp 6 _ _ rfl rfl)
    exact ⟨⟨n0, w1, w2, n3, s4, n5, n6⟩, rfl⟩
theorem agg_TrD : aggOf? Tryz.prog 95 = some true := by kernel_rfl
theorem csz_TrD : Tryz.prog.cellsOf 95 = 13 := by kernel_rfl
theorem is_TrDs {xs : List D} (h : Is Tryz.prog 36 xs) : ∃ (l : List TrD) (x : D), xs = [x] ∧ IsD 13 (l.map TrD.enc) x ∧ l.length ≤ maxLen := by
  rcases h.sl_inv Tryz.underlying36 agg_TrD with rfl | ⟨L, rfl, hm, hL⟩
  · exact ⟨[], _, rfl, .nil 0 rfl, by simp⟩
  · obtain ⟨l, hl, hn⟩ := list_of (fun x hx => is_TrD hx) L hL
    refine ⟨l, _, rfl, ?_, by omega⟩
    rw [hl, csz_TrD]
    exact .ro
theorem is_RtD {xs : List D} (h : Is Tryz.prog 147 xs) : ∃ t : RtD, pack true xs = t.enc := by
  obtain ⟨parts, rfl, hl, hp⟩ := h.struct_inv Tryz.underlying147
  match parts, hl, hp with
  | [q0, q1, q2, q3], _, hp =>
    obtain ⟨w0, rfl⟩ := is_set (hp 0 _ _ rfl rfl)
    obtain ⟨w1, rfl⟩ := is_set (hp 1 _ _ rfl rfl)
    obtain ⟨n2, rfl⟩ := is_int (hp 2 _ _ rfl rfl)
    obtain ⟨n3, rfl⟩ := is_int (hp 3 _ _ rfl rfl)
    exact ⟨⟨w0, w1, n2, n3⟩, rfl⟩
theorem agg_RtD : aggOf? Tryz.prog 147 = some true := by kernel_rfl
theorem csz_RtD : Tryz.prog.cellsOf 147 = 10 := by kernel_rfl
theorem is_RtDs {xs : List D} (h : Is Tryz.prog 37 xs) : ∃ (l : List RtD) (x : D), xs = [x] ∧ IsD 10 (l.map RtD.enc) x ∧ l.length ≤ maxLen := by
  rcases h.sl_inv Tryz.underlying37 agg_RtD with rfl | ⟨L, rfl, hm, hL⟩
  · exact ⟨[], _, rfl, .nil 0 rfl, by simp⟩
  · obtain ⟨l, hl, hn⟩ := list_of (fun x hx => is_RtD hx) L hL
    refine ⟨l, _, rfl, ?_, by omega⟩
    rw [hl, csz_RtD]
    exact .ro
theorem is_RaD {xs : List D} (h : Is Tryz.prog 149 xs) : ∃ t : RaD, pack true xs = t.enc := by
  obtain ⟨parts, rfl, hl, hp⟩ := h.struct_inv Tryz.underlying149
  match parts, hl, hp with
  | [q0, q1, q2, q3], _, hp =>
    obtain ⟨w0, rfl⟩ := is_set (hp 0 _ _ rfl rfl)
    obtain ⟨w1, rfl⟩ := is_set (hp 1 _ _ rfl rfl)
    obtain ⟨n2, rfl⟩ := is_int (hp 2 _ _ rfl rfl)
    obtain ⟨s3, c3, z3, d3, rfl⟩ := is_rng (hp 3 _ _ rfl rfl)
    exact ⟨⟨w0, w1, n2, ((s3, c3), (z3, d3))⟩, rfl⟩
theorem agg_RaD : aggOf? Tryz.prog 149 = some true := by kernel_rfl
theorem csz_RaD : Tryz.prog.cellsOf 149 = 13 := by kernel_rfl
theorem is_RaDs {xs : List D} (h : Is Tryz.prog 38 xs) : ∃ (l : List RaD) (x : D), xs = [x] ∧ IsD 13 (l.map RaD.enc) x ∧ l.length ≤ maxLen := by
  rcases h.sl_inv Tryz.underlying38 agg_RaD with rfl | ⟨L, rfl, hm, hL⟩
  · exact ⟨[], _, rfl, .nil 0 rfl, by simp⟩
  · obtain ⟨l, hl, hn⟩ := list_of (fun x hx => is_RaD hx) L hL
    refine ⟨l, _, rfl, ?_, by omega⟩
    rw [hl, csz_RaD]
    exact .ro
theorem is_CsD {xs : List D} (h : Is Tryz.prog 67 xs) : ∃ t : CsD, pack true xs = t.enc := by
  obtain ⟨parts, rfl, hl, hp⟩ := h.struct_inv Tryz.underlying67
  match parts, hl, hp with
  | [q0, q1, q2, q3], _, hp =>
    obtain ⟨n0, rfl⟩ := is_int (hp 0 _ _ rfl rfl)
    obtain ⟨u1, rfl⟩ := is_u32v (hp 1 _ _ rfl rfl)
    obtain ⟨b2, rfl⟩ := is_bool (hp 2 _ _ rfl rfl)
    obtain ⟨t3, rfl⟩ := is_xpd (hp 3 _ _ rfl rfl)
    exact ⟨⟨n0, u1, b2, t3.e, t3.nm, t3.kd, t3.h⟩, rfl⟩
theorem agg_CsD : aggOf? Tryz.prog 67 = some true := by kernel_rfl
theorem csz_CsD : Tryz.prog.cellsOf 67 = 13 := by kernel_rfl
theorem is_CsDs {xs : List D} (h : Is Tryz.prog 39 xs) : ∃ (l : List CsD) (x : D), xs = [x] ∧ IsD 13 (l.map CsD.enc) x ∧ l.length ≤ maxLen := by
  rcases h.sl_inv Tryz.underlying39 agg_CsD with rfl | ⟨L, rfl, hm, hL⟩
  · exact ⟨[], _, rfl, .nil 0 rfl, by simp⟩
  · obtain ⟨l, hl, hn⟩ := list_of (fun x hx => is_CsD hx) L hL
    refine ⟨l, _, rfl, ?_, by omega⟩
    rw [hl, csz_CsD]
    exact .ro
theorem is_SiD {xs : List D} (h : Is Tryz.prog 111 xs) : ∃ t : SiD, pack true xs = t.enc := by
  obtain ⟨parts, rfl, hl, hp⟩ := h.struct_inv Tryz.underlying111
  match parts, hl, hp with
  | [q0, q1], _, hp =>
    obtain ⟨s0, rfl⟩ := is_str (hp 0 _ _ rfl rfl)
    obtain ⟨c1, rfl⟩ := is_ctx (hp 1 _ _ rfl rfl)
    exact ⟨⟨s0, c1⟩, rfl⟩
theorem agg_SiD : aggOf? Tryz.prog 111 = some true := by kernel_rfl
theorem csz_SiD : Tryz.prog.cellsOf 111 = 8 := by kernel_rfl
theorem is_SiDs {xs : List D} (h : Is Tryz.prog 40 xs) : ∃ (l : List SiD) (x : D), xs = [x] ∧ IsD 8 (l.map SiD.enc) x ∧ l.length ≤ maxLen := by
  rcases h.sl_inv Tryz.underlying40 agg_SiD with rfl | ⟨L, rfl, hm, hL⟩
  · exact ⟨[], _, rfl, .nil 0 rfl, by simp⟩
  · obtain ⟨l, hl, hn⟩ := list_of (fun x hx => is_SiD hx) L hL
    refine ⟨l, _, rfl, ?_, by omega⟩
    rw [hl, csz_SiD]
    exact .ro
theorem is_FiD {xs : List D} (h : Is Tryz.prog 153 xs) : ∃ t : FiD, pack true xs = t.enc := by
  obtain ⟨parts, rfl, hl, hp⟩ := h.struct_inv Tryz.underlying153
  match parts, hl, hp with
  | [q0, q1, q2], _, hp =>
    obtain ⟨s0, rfl⟩ := is_str (hp 0 _ _ rfl rfl)
    obtain ⟨n1, rfl⟩ := is_int (hp 1 _ _ rfl rfl)
    obtain ⟨c2, rfl⟩ := is_ctx (hp 2 _ _ rfl rfl)
    exact ⟨⟨s0, n1, c2⟩, rfl⟩
theorem agg_FiD : aggOf? Tryz.prog 153 = some true := by kernel_rfl
theorem csz_FiD : Tryz.prog.cellsOf 153 = 9 := by kernel_rfl
theorem is_FiDs {xs : List D} (h : Is Tryz.prog 41 xs) : ∃ (l : List FiD) (x : D), xs = [x] ∧ IsD 9 (l.map FiD.enc) x ∧ l.length ≤ maxLen := by
  rcases h.sl_inv Tryz.underlying41 agg_FiD with rfl | ⟨L, rfl, hm, hL⟩
  · exact ⟨[], _, rfl, .nil 0 rfl, by simp⟩
  · obtain ⟨l, hl, hn⟩ := list_of (fun x hx => is_FiD hx) L hL
    refine ⟨l, _, rfl, ?_, by omega⟩
    rw [hl, csz_FiD]
    exact .ro
theorem is_AsD {xs : List D} (h : Is Tryz.prog 160 xs) : ∃ t : AsD, pack true xs = t.enc := by
  obtain ⟨parts, rfl, hl, hp⟩ := h.struct_inv Tryz.underlying160
  match parts, hl, hp with
  | [q0, q1, q2, q3], _, hp =>
    obtain ⟨s0, rfl⟩ := is_str (hp 0 _ _ rfl rfl)
    obtain ⟨n1, rfl⟩ := is_int (hp 1 _ _ rfl rfl)
    obtain ⟨w2, rfl⟩ := is_set (hp 2 _ _ rfl rfl)
    obtain ⟨w3, rfl⟩ := is_set (hp 3 _ _ rfl rfl)
    exact ⟨⟨s0, n1, w2, w3⟩, rfl⟩
theorem agg_AsD : aggOf? Tryz.prog 160 = some true := by kernel_rfl
theorem csz_AsD : Tryz.prog.cellsOf 160 = 10 := by kernel_rfl
theorem is_AsDs {xs : List D} (h : Is Tryz.prog 42 xs) : ∃ (l : List AsD) (x : D), xs = [x] ∧ IsD 10 (l.map AsD.enc) x ∧ l.length ≤ maxLen := by
  rcases h.sl_inv Tryz.underlying42 agg_AsD with rfl | ⟨L, rfl, hm, hL⟩
  · exact ⟨[], _, rfl, .nil 0 rfl, by simp⟩
  · obtain ⟨l, hl, hn⟩ := list_of (fun x hx => is_AsD hx) L hL
    refine ⟨l, _, rfl, ?_, by omega⟩
    rw [hl, csz_AsD]
    exact .ro
theorem is_xpds {xs : List D} (h : Is Tryz.prog 26 xs) : ∃ (l : List XpD) (x : D), xs = [x] ∧ IsD 10 (l.map XpD.enc) x ∧ l.length ≤ maxLen := by
  rcases h.sl_inv Tryz.underlying26 agg_ex with rfl | ⟨L, rfl, hm, hL⟩
  · exact ⟨[], _, rfl, .nil 0 rfl, by simp⟩
  · obtain ⟨l, hl, hn⟩ := list_of (b := true) (f := XpD.enc) (fun x hx => by obtain ⟨t, rfl⟩ := is_xpd hx; exact ⟨t, rfl⟩) L hL
    refine ⟨l, _, rfl, ?_, by omega⟩
    rw [hl, cells_e]
    exact .ro
theorem agg_pol : aggOf? Tryz.prog 44 = some true := by kernel_rfl
set_option maxRecDepth 4000 in
theorem is_pol {xs : List D} (h : Is Tryz.prog 44 xs) : ∃ p : PolD, pack true xs = dPol p := by
  obtain ⟨parts, rfl, hl, hp⟩ := h.struct_inv Tryz.underlying44
  match parts, hl, hp with
  | [q0, q1, q2, q3, q4, q5, q6, q7, q8, q9, q10, q11, q12, q13, q14, q15, q16], _, hp =>
    obtain ⟨l0, x0, rfl, h0, m0⟩ := is_ClDs (hp 0 _ _ rfl rfl)
    obtain ⟨l1, x1, rfl, h1, m1⟩ := is_TyDs (hp 1 _ _ rfl rfl)
    obtain ⟨l2, x2, rfl, h2, m2⟩ := is_AtDs (hp 2 _ _ rfl rfl)
    obtain ⟨l3, x3, rfl, h3, m3⟩ := is_RoDs (hp 3 _ _ rfl rfl)
    obtain ⟨l4, x4, rfl, h4, m4⟩ := is_UsDs (hp 4 _ _ rfl rfl)
    obtain ⟨l5, x5, rfl, h5, m5⟩ := is_BoDs (hp 5 _ _ rfl rfl)
    obtain ⟨l6, x6, rfl, h6, m6⟩ := is_strsM (hp 6 _ _ rfl rfl)
    obtain ⟨l7, x7, rfl, h7, m7⟩ := is_strsM (hp 7 _ _ rfl rfl)
    obtain ⟨l8, x8, rfl, h8, m8⟩ := is_xpds (hp 8 _ _ rfl rfl)
    obtain ⟨l9, x9, rfl, h9, m9⟩ := is_RuDs (hp 9 _ _ rfl rfl)
    obtain ⟨l10, x10, rfl, h10, m10⟩ := is_TrDs (hp 10 _ _ rfl rfl)
    obtain ⟨l11, x11, rfl, h11, m11⟩ := is_RtDs (hp 11 _ _ rfl rfl)
    obtain ⟨l12, x12, rfl, h12, m12⟩ := is_RaDs (hp 12 _ _ rfl rfl)
    obtain ⟨l13, x13, rfl, h13, m13⟩ := is_CsDs (hp 13 _ _ rfl rfl)
    obtain ⟨l14, x14, rfl, h14, m14⟩ := is_SiDs (hp 14 _ _ rfl rfl)
    obtain ⟨l15, x15, rfl, h15, m15⟩ := is_FiDs (hp 15 _ _ rfl rfl)
    obtain ⟨l16, x16, rfl, h16, m16⟩ := is_AsDs (hp 16 _ _ rfl rfl)
    exact ⟨⟨l0, x0, h0, m0, l1, x1, h1, m1, l2, x2, h2, m2, l3, x3, h3, m3, l4, x4, h4, m4, l5, x5, h5, m5, l6, x6, h6, m6, l7, x7, h7, m7, l8, x8, h8, m8, l9, x9, h9, m9, l10, x10, h10, m10, l11, x11, h11, m11, l12, x12, h12, m12, l13, x13, h13, m13, l14, x14, h14, m14, l15, x15, h15, m15, l16, x16, h16, m16⟩, rfl⟩
end Go.Proofs.YtcnnhnjcnekhcaaGreat.Ab
