/-
  THE LAW ConstraintSources, walked.
-/
import Derived.Test.YtcnnhnjcnekhcaaGreatQc
import Derived.Test.YtcnnhnjcnekhcaaGreatAw
set_option linter.unusedVariables false
set_option linter.unusedSimpArgs false
namespace Go.Proofs.YtcnnhnjcnekhcaaGreat.Ab
open Go
set_option maxRecDepth 4000 in
theorem law7_holds {e : Xp} {x : D} (hx : IsE e x) (p : PolD) : Holds Tryz.prog gl 7 [.d x, .d (dPol p)] (.d (.bool true)) := by
  refine holds_of_body hm1 (enters_some (fn := Tryz.f7) (by kernel_rfl) (by kernel_rfl) (by kernel_rfl)) (h := h7) ?_; rw [body7]; intro hwf
  have h0 := fits_holds hx p
  have hx0 := hx
  obtain ⟨cs, c1, c2, c3, c4⟩ := hx.cells
  simp only [sS, true_and, List.map_cons, List.map_nil, vget, bget, List.getD_cons_zero, List.getD_cons_succ, Box.vals, dI, Nat.le_refl, sP, c1, c2, c3]
  refine ex_bool h0 fun b hb => ?_
  simp only [sS, true_and, List.map_cons, List.map_nil, vget, bget, List.getD_cons_zero, List.getD_cons_succ, Box.vals, dI, Nat.le_refl, sP]
  refine And.intro (fun _ => ?_) (fun hf => ?_)
  · refine callP_of awake_holds ?_
    simp only [sS, true_and, List.map_cons, List.map_nil, vget, bget, List.getD_cons_zero, List.getD_cons_succ, Box.vals, dI, Nat.le_refl]
  obtain ⟨hsx, hsm, hok⟩ := hb (by simpa using hf)
  have hlv := allX_lv e.lv e 15 (Nat.le_refl _) hsx
  obtain ⟨y, hy, hyh⟩ := sourceC_holds hx0 (by omega) p hsm
  obtain ⟨z, hz, hzh⟩ := sourceR_holds hx0 p hsm
  have hsame := same_holds _ _ _ y z (Nat.le_refl _) (SameX.refl _ (srcT p e) (Nat.le_refl _)) hy hz
  refine callP_of hyh ?_
  simp only [sS, true_and, List.map_cons, List.map_nil, vget, bget, List.getD_cons_zero, List.getD_cons_succ, Box.vals, dI, Nat.le_refl]
  refine callP_of hzh ?_
  simp only [sS, true_and, List.map_cons, List.map_nil, vget, bget, List.getD_cons_zero, List.getD_cons_succ, Box.vals, dI, Nat.le_refl]
  refine callP_of hsame ?_
  simp only [sS, true_and, List.map_cons, List.map_nil, vget, bget, List.getD_cons_zero, List.getD_cons_succ, Box.vals, dI, Nat.le_refl]
  refine And.intro (fun _ => ?_) (fun h => by cases h)
  refine callP_of awake_holds ?_
  simp only [sS, true_and, List.map_cons, List.map_nil, vget, bget, List.getD_cons_zero, List.getD_cons_succ, Box.vals, dI, Nat.le_refl]
end Go.Proofs.YtcnnhnjcnekhcaaGreat.Ab
