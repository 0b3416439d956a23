/-
  THE LAW ConstraintChecks, walked.
-/
import Derived.Test.YtcnnhnjcnekhcaaGreatQa
import Derived.Test.YtcnnhnjcnekhcaaGreatAw
set_option linter.unusedVariables false
set_option linter.unusedSimpArgs false
namespace Go.Proofs.YtcnnhnjcnekhcaaGreat.Ab
open Go
theorem law3_holds {e : Xp} {x : D} (hx : IsE e x) (p : PolD) (v : Bool) : Holds Tryz.prog gl 3 [.d x, .d (dPol p), .d (.bool v)] (.d (.bool true)) := by
  refine holds_of_body hm1 (enters_some (fn := Tryz.f3) (by kernel_rfl) (by kernel_rfl) (by kernel_rfl)) (h := h3) ?_; rw [body3]; intro hwf
  have h0 := fits_holds hx p
  have h1 := fun h => checkC_holds hx h p v
  have h2 := checkR_holds hx p v
  obtain ⟨cs, c1, c2, c3, c4⟩ := hx.cells
  simp only [sS, true_and, List.map_cons, List.map_nil, vget, bget, List.getD_cons_zero, List.getD_cons_succ, Box.vals, dI, Nat.le_refl, sP, c1, c2, c3]
  refine ex_bool h0 fun b hb => ?_
  simp only [sS, true_and, List.map_cons, List.map_nil, vget, bget, List.getD_cons_zero, List.getD_cons_succ, Box.vals, dI, Nat.le_refl, sP]
  refine And.intro (fun _ => ?_) (fun hf => ?_)
  · refine callP_of awake_holds ?_
    simp only [sS, true_and, List.map_cons, List.map_nil, vget, bget, List.getD_cons_zero, List.getD_cons_succ, Box.vals, dI, Nat.le_refl]
  have hlv := allX_lv e.lv e 15 (Nat.le_refl _) (hb (by simpa using hf)).1
  refine callP_of (h1 (by omega)) ?_
  simp only [sS, true_and, List.map_cons, List.map_nil, vget, bget, List.getD_cons_zero, List.getD_cons_succ, Box.vals, dI, Nat.le_refl, sP]
  refine callP_of h2 ?_
  simp only [sS, true_and, List.map_cons, List.map_nil, vget, bget, List.getD_cons_zero, List.getD_cons_succ, Box.vals, dI, Nat.le_refl, beq_self_eq_true]
  refine And.intro (fun _ => ?_) (fun h => by cases h)
  refine callP_of awake_holds ?_
  simp only [sS, true_and, List.map_cons, List.map_nil, vget, bget, List.getD_cons_zero, List.getD_cons_succ, Box.vals, dI, Nat.le_refl]
end Go.Proofs.YtcnnhnjcnekhcaaGreat.Ab
