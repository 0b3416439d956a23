/-
  THE LAW ConstraintDenies, walked.
-/
import Derived.Test.YtcnnhnjcnekhcaaGreatQa
import Derived.Test.YtcnnhnjcnekhcaaGreatAw
set_option linter.unusedVariables false
set_option linter.unusedSimpArgs false
namespace Go.Proofs.YtcnnhnjcnekhcaaGreat.Ab
open Go
theorem build_ex0 : buildD Tryz.prog 28 [] = some (.agg (fEx 0 0 0 0 (.sl .nil 0 []) zW (.sl .nil 0 []))) := by kernel_rfl
theorem isE_zero : IsE (.mk 0 0 0 0 [] zW []) (.agg (fEx 0 0 0 0 (.sl .nil 0 []) zW (.sl .nil 0 []))) :=
  .mk 0 0 0 0 [] zW [] _ _ [] (.nil 0 rfl) rfl (fun i k y h1 h2 => by simp at h1) (.nil 0 rfl)
theorem law6_holds (q : ChgD) : Holds Tryz.prog gl 6 [.d (dChg q)] (.d (.bool true)) := by
  refine holds_of_body hm1 (enters_some (fn := Tryz.f6) (by kernel_rfl) (by kernel_rfl) (by kernel_rfl)) (h := h6) ?_; rw [body6]; intro hwf
  simp only [sS, true_and, List.map_cons, List.map_nil, vget, bget, List.getD_cons_zero, List.getD_cons_succ, Box.vals, dI, Nat.le_refl, cells_chg, len_chg, part_chg0, build_ex0]
  refine ex_bool (fits_holds isE_zero q.p) fun b hb => ?_
  simp only [sS, true_and, List.map_cons, List.map_nil, vget, bget, List.getD_cons_zero, List.getD_cons_succ, Box.vals, dI, Nat.le_refl, sP]
  refine And.intro (fun _ => ?_) (fun hf => ?_)
  · refine callP_of awake_holds ?_
    simp only [sS, true_and, List.map_cons, List.map_nil, vget, bget, List.getD_cons_zero, List.getD_cons_succ, Box.vals, dI, Nat.le_refl]
  obtain ⟨_, hsm, hok⟩ := hb (by simpa using hf)
  have hlv : ∀ (i : Nat) c, q.p.cs[i]? = some c → c.e.lv ≤ 1000 := fun i c hc => by have := hsm.cons i c hc; omega
  simp only [part_chg17, part_chg18, part_chg25, part_chg32, part_chg0, sS, true_and, List.map_cons, List.map_nil, vget, bget, List.getD_cons_zero, List.getD_cons_succ, Box.vals, dI, Nat.le_refl]
  refine call2 (deniedC_holds q.p hlv _ _ _) ?_
  refine call2 (deniedR_holds q.p _ _ _) ?_
  refine call2 (validC_holds q.p hlv _ _ _ _) ?_
  refine call2 (validR_holds q.p _ _ _ _) ?_
  have hz : (orP (blkF q.cls q.c.f q.c.s) q.p.cs == 0) = (first (blkF q.cls q.c.f q.c.s) q.p.cs).isNone := orP_none fun c hc hbk => by
    obtain ⟨i, hi⟩ := List.mem_iff_getElem?.1 hc
    have h1 := hok.cs i c hi
    have h2 : c.val = false := by
      unfold blkF at hbk
      simp at hbk
      exact hbk.1
    rw [h2] at h1
    exact fun h => by rw [h] at h1; cases h1
  simp only [sS, true_and, List.map_cons, List.map_nil, vget, bget, List.getD_cons_zero, List.getD_cons_succ, Box.vals, dI, Nat.le_refl, sW, Nat.zero_add, hz, orM_neg, beq_self_eq_true, part_chg17, part_chg18, part_chg25, part_chg32, part_chg0]
  repeat' first | with_reducible refine And.intro (fun h => ?_) (fun h => ?_) | (refine callP_of awake_holds ?_; simp only [sS, true_and, List.map_cons, List.map_nil, vget, bget, List.getD_cons_zero, List.getD_cons_succ, Box.vals, dI, Nat.le_refl])
  all_goals (exfalso; simp_all)
end Go.Proofs.YtcnnhnjcnekhcaaGreat.Ab
