/-
  THE ARGUMENTS: a policy, a class and three contexts.
-/
import Derived.Test.YtcnnhnjcnekhcaaGreatRwPol
import Derived.Test.YtcnnhnjcnekhcaaGreatTp
set_option linter.unusedVariables false
set_option linter.unusedSimpArgs false
namespace Go.Proofs.YtcnnhnjcnekhcaaGreat.Ab
open Go
theorem agg_u : aggOf? Tryz.prog 63 = some false := by kernel_rfl
theorem agg_chg : aggOf? Tryz.prog 62 = some true := by kernel_rfl
theorem is_chg {xs : List D} (h : Is Tryz.prog 62 xs) : ∃ q : ChgD, pack true xs = dChg q := by
  obtain ⟨parts, rfl, hl, hp⟩ := h.struct_inv Tryz.underlying62
  match parts, hl, hp with
  | [a, b, c], _, hp =>
    obtain ⟨p, h0⟩ := is_pol (hp 0 _ _ rfl rfl)
    obtain ⟨n, rfl⟩ := is_int (hp 1 _ _ rfl rfl)
    obtain ⟨c', h2⟩ := is_case (hp 2 _ _ rfl rfl)
    have e0 : D.agg a = dPol p := h0
    have e2 : D.agg c = dCase c' := h2
    cases e0
    cases e2
    exact ⟨⟨p, n, c'⟩, rfl⟩
end Go.Proofs.YtcnnhnjcnekhcaaGreat.Ab
