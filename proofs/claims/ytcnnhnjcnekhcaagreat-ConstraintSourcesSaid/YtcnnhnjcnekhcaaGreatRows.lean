/-
  NARROWER THAN 'FOR EVERY INPUT', by the rows' own cells (each row's printed sentence says how): ConstraintChecks: loops · ConstraintCompiles: loops · ConstraintGrows: loops · ConstraintDenies: loops · ConstraintSources: loops · ConstraintBack: loops.
  DERIVED. THE GIVEN ROWS OF THIS SEAT. 6 by the template 'for every input the law returns true; each argument reads behind the call as it read before'; 0 by the template 'total and deterministic' (their statements: YtcnnhnjcnekhcaaGreatTotals.lean).
  GIVEN WITH THE SEED: the statements are not yours to turn. If you find one false, say at which input.
  Laid BY PROGRAM, IN A SANDBOX (cutbox-rows.mjs): the forced cells as the released guide's own fill.sh prints them over the translation d4ab6475b11d27f3… (all of the seat's roots in one cut). By AI agents, Wed Nov 11 2026. No macro, syntax, notation, axiom, sorry.
-/
import Derived.Test.YtcnnhnjcnekhcaaGreatChecked
import GoSem.Claim
import GoSem.ClaimJoined
import GoSem.ClaimMapViews
import Derived.JoinedTies
import Derived.KernelRfl
namespace Go.Proofs.YtcnnhnjcnekhcaaGreat
/- THE CELL 'sum', in the pinned program and in every row, IS THE sha256 OF THE DUMP (.gsa) THAT YtcnnhnjcnekhcaaGreatProg.lean LOADS. Nothing in Lean hashes anything: it is a label: what it is worth is what the hold of that sum in a sandbox is worth. -/
noncomputable def Tryz.pinned : Pinned := { name := "ytcnnhnjcnekhcaagreat", sum := "d4ab6475b11d27f38ce2d2ffbd79084297f2e2ae2d403119335a80291eeef78f", checked := Tryz.checked }
namespace Rows
def none {H : Type} : Left H := { results := [], args := [] }

/-- 'accesscontrollaw17.ConstraintChecks': WHATEVER THE INPUT: true; the input reads as it did. -/
def constraintChecksSpec : ChangeSpec := { name := "constraintChecks", fn := fun _ => fun
  | [d1, d2, d3] => { results := [.lit (.bool true)], args := [d1, d2, d3] }
  | _ => none }
def constraintChecksRow : OpenClaim := { program := "ytcnnhnjcnekhcaagreat", sum := "d4ab6475b11d27f38ce2d2ffbd79084297f2e2ae2d403119335a80291eeef78f", func := "accesscontrol/accesscontrollaw17.ConstraintChecks", spec := "constraintChecks", unfollowed := true, recurses := true, loops := true, apart := false }
def ConstraintChecksSaid : Prop := constraintChecksRow.holds Tryz.pinned (OpenSpec.ofChange constraintChecksSpec)

/-- ITS FALSE NEIGHBOUR: 'it returns false'. Refute it at one input. -/
def constraintChecksWrong : ChangeSpec := { name := "constraintChecks", fn := fun _ => fun
  | [d1, d2, d3] => { results := [.lit (.bool false)], args := [d1, d2, d3] }
  | _ => none }
def ConstraintChecksWrongFalsely : Prop := constraintChecksRow.holds Tryz.pinned (OpenSpec.ofChange constraintChecksWrong)

/-- 'accesscontrollaw17.ConstraintCompiles': WHATEVER THE INPUT: true; the input reads as it did. -/
def constraintCompilesSpec : ChangeSpec := { name := "constraintCompiles", fn := fun _ => fun
  | [d1, d2, d3] => { results := [.lit (.bool true)], args := [d1, d2, d3] }
  | _ => none }
def constraintCompilesRow : OpenClaim := { program := "ytcnnhnjcnekhcaagreat", sum := "d4ab6475b11d27f38ce2d2ffbd79084297f2e2ae2d403119335a80291eeef78f", func := "accesscontrol/accesscontrollaw17.ConstraintCompiles", spec := "constraintCompiles", unfollowed := true, recurses := true, loops := true, apart := false }
def ConstraintCompilesSaid : Prop := constraintCompilesRow.holds Tryz.pinned (OpenSpec.ofChange constraintCompilesSpec)

/-- ITS FALSE NEIGHBOUR: 'it returns false'. Refute it at one input. -/
def constraintCompilesWrong : ChangeSpec := { name := "constraintCompiles", fn := fun _ => fun
  | [d1, d2, d3] => { results := [.lit (.bool false)], args := [d1, d2, d3] }
  | _ => none }
def ConstraintCompilesWrongFalsely : Prop := constraintCompilesRow.holds Tryz.pinned (OpenSpec.ofChange constraintCompilesWrong)

/-- 'accesscontrollaw17.ConstraintGrows': WHATEVER THE INPUT: true; the input reads as it did. -/
def constraintGrowsSpec : ChangeSpec := { name := "constraintGrows", fn := fun _ => fun
  | [d1, d2, d3] => { results := [.lit (.bool true)], args := [d1, d2, d3] }
  | _ => none }
def constraintGrowsRow : OpenClaim := { program := "ytcnnhnjcnekhcaagreat", sum := "d4ab6475b11d27f38ce2d2ffbd79084297f2e2ae2d403119335a80291eeef78f", func := "accesscontrol/accesscontrollaw17.ConstraintGrows", spec := "constraintGrows", unfollowed := true, recurses := true, loops := true, apart := false }
def ConstraintGrowsSaid : Prop := constraintGrowsRow.holds Tryz.pinned (OpenSpec.ofChange constraintGrowsSpec)

/-- ITS FALSE NEIGHBOUR: 'it returns false'. Refute it at one input. -/
def constraintGrowsWrong : ChangeSpec := { name := "constraintGrows", fn := fun _ => fun
  | [d1, d2, d3] => { results := [.lit (.bool false)], args := [d1, d2, d3] }
  | _ => none }
def ConstraintGrowsWrongFalsely : Prop := constraintGrowsRow.holds Tryz.pinned (OpenSpec.ofChange constraintGrowsWrong)

/-- 'accesscontrollaw17.ConstraintDenies': WHATEVER THE INPUT: true; the input reads as it did. -/
def constraintDeniesSpec : ChangeSpec := { name := "constraintDenies", fn := fun _ => fun
  | [d] => { results := [.lit (.bool true)], args := [d] }
  | _ => none }
def constraintDeniesRow : OpenClaim := { program := "ytcnnhnjcnekhcaagreat", sum := "d4ab6475b11d27f38ce2d2ffbd79084297f2e2ae2d403119335a80291eeef78f", func := "accesscontrol/accesscontrollaw17.ConstraintDenies", spec := "constraintDenies", unfollowed := true, recurses := true, loops := true, apart := false }
def ConstraintDeniesSaid : Prop := constraintDeniesRow.holds Tryz.pinned (OpenSpec.ofChange constraintDeniesSpec)

/-- ITS FALSE NEIGHBOUR: 'it returns false'. Refute it at one input. -/
def constraintDeniesWrong : ChangeSpec := { name := "constraintDenies", fn := fun _ => fun
  | [d] => { results := [.lit (.bool false)], args := [d] }
  | _ => none }
def ConstraintDeniesWrongFalsely : Prop := constraintDeniesRow.holds Tryz.pinned (OpenSpec.ofChange constraintDeniesWrong)

/-- 'accesscontrollaw17.ConstraintSources': WHATEVER THE INPUT: true; the input reads as it did. -/
def constraintSourcesSpec : ChangeSpec := { name := "constraintSources", fn := fun _ => fun
  | [d1, d2] => { results := [.lit (.bool true)], args := [d1, d2] }
  | _ => none }
def constraintSourcesRow : OpenClaim := { program := "ytcnnhnjcnekhcaagreat", sum := "d4ab6475b11d27f38ce2d2ffbd79084297f2e2ae2d403119335a80291eeef78f", func := "accesscontrol/accesscontrollaw17.ConstraintSources", spec := "constraintSources", unfollowed := true, recurses := true, loops := true, apart := false }
def ConstraintSourcesSaid : Prop := constraintSourcesRow.holds Tryz.pinned (OpenSpec.ofChange constraintSourcesSpec)

/-- ITS FALSE NEIGHBOUR: 'it returns false'. Refute it at one input. -/
def constraintSourcesWrong : ChangeSpec := { name := "constraintSources", fn := fun _ => fun
  | [d1, d2] => { results := [.lit (.bool false)], args := [d1, d2] }
  | _ => none }
def ConstraintSourcesWrongFalsely : Prop := constraintSourcesRow.holds Tryz.pinned (OpenSpec.ofChange constraintSourcesWrong)

/-- 'accesscontrollaw17.ConstraintBack': WHATEVER THE INPUT: true; the input reads as it did. -/
def constraintBackSpec : ChangeSpec := { name := "constraintBack", fn := fun _ => fun
  | [d1, d2, d3] => { results := [.lit (.bool true)], args := [d1, d2, d3] }
  | _ => none }
def constraintBackRow : OpenClaim := { program := "ytcnnhnjcnekhcaagreat", sum := "d4ab6475b11d27f38ce2d2ffbd79084297f2e2ae2d403119335a80291eeef78f", func := "accesscontrol/accesscontrollaw17.ConstraintBack", spec := "constraintBack", unfollowed := true, recurses := true, loops := true, apart := false }
def ConstraintBackSaid : Prop := constraintBackRow.holds Tryz.pinned (OpenSpec.ofChange constraintBackSpec)

/-- ITS FALSE NEIGHBOUR: 'it returns false'. Refute it at one input. -/
def constraintBackWrong : ChangeSpec := { name := "constraintBack", fn := fun _ => fun
  | [d1, d2, d3] => { results := [.lit (.bool false)], args := [d1, d2, d3] }
  | _ => none }
def ConstraintBackWrongFalsely : Prop := constraintBackRow.holds Tryz.pinned (OpenSpec.ofChange constraintBackWrong)

/- THE SECOND FORM. 'bulk': how many values and letters a reading holds, each counted each time it is reached (what is shared counts as often as it is met; a slice's spare places count too). A statement '..UptoSaid' is the law's where the arguments, and the package variables that the reading takes, are together of bulk at most 1048576: NARROWER than '..Said'. Prove '..Said' where nothing that the law and all that it calls make is longer than what came in: it says more and counts as full. Else prove '..UptoSaid'. A law counts once. -/
mutual
def uptoBulk {H : Type} : DataW H → Nat
  | .lit (.string bytes) => bytes.length + 1
  | .lit _ => 1
  | .nil => 1
  | .ptr d => uptoBulk d + 1
  | .slice elems spare => uptoBulkAll elems + uptoBulkAll spare + 1
  | .agg parts => uptoBulkAll parts + 1
  | .iface _ d => uptoBulk d + 1
  | .map entries => uptoBulkEntries entries + 1
  | .held _ => 1
def uptoBulkAll {H : Type} : List (DataW H) → Nat
  | [] => 0
  | d :: r => uptoBulk d + uptoBulkAll r
def uptoBulkEntries {H : Type} : List (Lit × DataW H) → Nat
  | [] => 0
  | x :: r => uptoBulkEntry x + uptoBulkEntries r
def uptoBulkEntry {H : Type} : Lit × DataW H → Nat
  | (.string bytes, d) => bytes.length + uptoBulk d + 1
  | (_, d) => uptoBulk d + 1
 end
def uptoSmall : (H : Type) → List (DataW H) → Bool := fun _ ds => decide (uptoBulkAll ds ≤ 1048576)
def OpenSpec.upto (s : _root_.Go.ChangeSpec) : _root_.Go.OpenSpec := { _root_.Go.OpenSpec.ofChange s with cond := some uptoSmall }

/-- 'accesscontrollaw17.ConstraintChecks', WHERE WHAT IT READS IS OF BULK AT MOST 1048576: true; the input reads as it did. -/
def constraintChecksUptoRow : OpenClaim := { program := "ytcnnhnjcnekhcaagreat", sum := "d4ab6475b11d27f38ce2d2ffbd79084297f2e2ae2d403119335a80291eeef78f", func := "accesscontrol/accesscontrollaw17.ConstraintChecks", spec := "constraintChecks", unfollowed := true, recurses := true, loops := true, apart := false, narrowed := true }
def ConstraintChecksUptoSaid : Prop := constraintChecksUptoRow.holds Tryz.pinned (OpenSpec.upto constraintChecksSpec)

/-- 'accesscontrollaw17.ConstraintCompiles', WHERE WHAT IT READS IS OF BULK AT MOST 1048576: true; the input reads as it did. -/
def constraintCompilesUptoRow : OpenClaim := { program := "ytcnnhnjcnekhcaagreat", sum := "d4ab6475b11d27f38ce2d2ffbd79084297f2e2ae2d403119335a80291eeef78f", func := "accesscontrol/accesscontrollaw17.ConstraintCompiles", spec := "constraintCompiles", unfollowed := true, recurses := true, loops := true, apart := false, narrowed := true }
def ConstraintCompilesUptoSaid : Prop := constraintCompilesUptoRow.holds Tryz.pinned (OpenSpec.upto constraintCompilesSpec)

/-- 'accesscontrollaw17.ConstraintGrows', WHERE WHAT IT READS IS OF BULK AT MOST 1048576: true; the input reads as it did. -/
def constraintGrowsUptoRow : OpenClaim := { program := "ytcnnhnjcnekhcaagreat", sum := "d4ab6475b11d27f38ce2d2ffbd79084297f2e2ae2d403119335a80291eeef78f", func := "accesscontrol/accesscontrollaw17.ConstraintGrows", spec := "constraintGrows", unfollowed := true, recurses := true, loops := true, apart := false, narrowed := true }
def ConstraintGrowsUptoSaid : Prop := constraintGrowsUptoRow.holds Tryz.pinned (OpenSpec.upto constraintGrowsSpec)

/-- 'accesscontrollaw17.ConstraintDenies', WHERE WHAT IT READS IS OF BULK AT MOST 1048576: true; the input reads as it did. -/
def constraintDeniesUptoRow : OpenClaim := { program := "ytcnnhnjcnekhcaagreat", sum := "d4ab6475b11d27f38ce2d2ffbd79084297f2e2ae2d403119335a80291eeef78f", func := "accesscontrol/accesscontrollaw17.ConstraintDenies", spec := "constraintDenies", unfollowed := true, recurses := true, loops := true, apart := false, narrowed := true }
def ConstraintDeniesUptoSaid : Prop := constraintDeniesUptoRow.holds Tryz.pinned (OpenSpec.upto constraintDeniesSpec)

/-- 'accesscontrollaw17.ConstraintSources', WHERE WHAT IT READS IS OF BULK AT MOST 1048576: true; the input reads as it did. -/
def constraintSourcesUptoRow : OpenClaim := { program := "ytcnnhnjcnekhcaagreat", sum := "d4ab6475b11d27f38ce2d2ffbd79084297f2e2ae2d403119335a80291eeef78f", func := "accesscontrol/accesscontrollaw17.ConstraintSources", spec := "constraintSources", unfollowed := true, recurses := true, loops := true, apart := false, narrowed := true }
def ConstraintSourcesUptoSaid : Prop := constraintSourcesUptoRow.holds Tryz.pinned (OpenSpec.upto constraintSourcesSpec)

/-- 'accesscontrollaw17.ConstraintBack', WHERE WHAT IT READS IS OF BULK AT MOST 1048576: true; the input reads as it did. -/
def constraintBackUptoRow : OpenClaim := { program := "ytcnnhnjcnekhcaagreat", sum := "d4ab6475b11d27f38ce2d2ffbd79084297f2e2ae2d403119335a80291eeef78f", func := "accesscontrol/accesscontrollaw17.ConstraintBack", spec := "constraintBack", unfollowed := true, recurses := true, loops := true, apart := false, narrowed := true }
def ConstraintBackUptoSaid : Prop := constraintBackUptoRow.holds Tryz.pinned (OpenSpec.upto constraintBackSpec)

end Rows
end Go.Proofs.YtcnnhnjcnekhcaaGreat
