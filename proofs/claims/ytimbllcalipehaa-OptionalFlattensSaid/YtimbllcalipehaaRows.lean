/-
  NARROWER THAN 'FOR EVERY INPUT', by the rows' own cells (each row's printed sentence says how): OptionalEnabled: loops · OptionalOrders: loops · OptionalFixpoint: loops · OptionalNeeds: loops · OptionalFlattens: loops · OptionalPlain: loops.
  DERIVED. THE GIVEN ROWS OF THIS SEAT. 6 by the template 'for every input the law returns true; each argument reads behind the call as it read before'; 0 by the template 'total and deterministic' (their statements: YtimbllcalipehaaTotals.lean).
  GIVEN WITH THE SEED: the statements are not yours to turn. If you find one false, say at which input.
  Laid BY PROGRAM, IN A SANDBOX (cutbox-rows.mjs): the forced cells as the released guide's own fill.sh prints them over the translation 10279747ef32a6e4… (all of the seat's roots in one cut). By AI agents, Wed Nov 11 2026. No macro, syntax, notation, axiom, sorry.
-/
import Derived.Test.YtimbllcalipehaaChecked
import GoSem.Claim
import GoSem.ClaimJoined
import GoSem.ClaimMapViews
import Derived.JoinedTies
import Derived.KernelRfl
namespace Go.Proofs.Ytimbllcalipehaa
/- THE CELL 'sum', in the pinned program and in every row, IS THE sha256 OF THE DUMP (.gsa) THAT YtimbllcalipehaaProg.lean LOADS. Nothing in Lean hashes anything: it is a label: what it is worth is what the hold of that sum in a sandbox is worth. -/
noncomputable def Try.pinned : Pinned := { name := "ytimbllcalipehaa", sum := "10279747ef32a6e49f7b66a6370f51bd3ac9b628c3f94bce72411683ccfd67cd", checked := Try.checked }
namespace Rows
def none {H : Type} : Left H := { results := [], args := [] }

/-- 'accesscontrollaw12.OptionalEnabled': WHATEVER THE INPUT: true; the input reads as it did. -/
def optionalEnabledSpec : ChangeSpec := { name := "optionalEnabled", fn := fun _ => fun
  | [d] => { results := [.lit (.bool true)], args := [d] }
  | _ => none }
def optionalEnabledRow : OpenClaim := { program := "ytimbllcalipehaa", sum := "10279747ef32a6e49f7b66a6370f51bd3ac9b628c3f94bce72411683ccfd67cd", func := "accesscontrol/accesscontrollaw12.OptionalEnabled", spec := "optionalEnabled", unfollowed := true, recurses := true, loops := true, plainKeys := false, apart := false }
def OptionalEnabledSaid : Prop := optionalEnabledRow.holds Try.pinned (OpenSpec.ofChange optionalEnabledSpec)

/-- ITS FALSE NEIGHBOUR: 'it returns false'. Refute it at one input. -/
def optionalEnabledWrong : ChangeSpec := { name := "optionalEnabled", fn := fun _ => fun
  | [d] => { results := [.lit (.bool false)], args := [d] }
  | _ => none }
def OptionalEnabledWrongFalsely : Prop := optionalEnabledRow.holds Try.pinned (OpenSpec.ofChange optionalEnabledWrong)

/-- 'accesscontrollaw12.OptionalOrders': WHATEVER THE INPUT: true; the input reads as it did. -/
def optionalOrdersSpec : ChangeSpec := { name := "optionalOrders", fn := fun _ => fun
  | [d1, d2] => { results := [.lit (.bool true)], args := [d1, d2] }
  | _ => none }
def optionalOrdersRow : OpenClaim := { program := "ytimbllcalipehaa", sum := "10279747ef32a6e49f7b66a6370f51bd3ac9b628c3f94bce72411683ccfd67cd", func := "accesscontrol/accesscontrollaw12.OptionalOrders", spec := "optionalOrders", unfollowed := true, recurses := true, loops := true, plainKeys := false, apart := false }
def OptionalOrdersSaid : Prop := optionalOrdersRow.holds Try.pinned (OpenSpec.ofChange optionalOrdersSpec)

/-- ITS FALSE NEIGHBOUR: 'it returns false'. Refute it at one input. -/
def optionalOrdersWrong : ChangeSpec := { name := "optionalOrders", fn := fun _ => fun
  | [d1, d2] => { results := [.lit (.bool false)], args := [d1, d2] }
  | _ => none }
def OptionalOrdersWrongFalsely : Prop := optionalOrdersRow.holds Try.pinned (OpenSpec.ofChange optionalOrdersWrong)

/-- 'accesscontrollaw12.OptionalFixpoint': WHATEVER THE INPUT: true; the input reads as it did. -/
def optionalFixpointSpec : ChangeSpec := { name := "optionalFixpoint", fn := fun _ => fun
  | [d] => { results := [.lit (.bool true)], args := [d] }
  | _ => none }
def optionalFixpointRow : OpenClaim := { program := "ytimbllcalipehaa", sum := "10279747ef32a6e49f7b66a6370f51bd3ac9b628c3f94bce72411683ccfd67cd", func := "accesscontrol/accesscontrollaw12.OptionalFixpoint", spec := "optionalFixpoint", unfollowed := true, recurses := true, loops := true, plainKeys := false, apart := false }
def OptionalFixpointSaid : Prop := optionalFixpointRow.holds Try.pinned (OpenSpec.ofChange optionalFixpointSpec)

/-- ITS FALSE NEIGHBOUR: 'it returns false'. Refute it at one input. -/
def optionalFixpointWrong : ChangeSpec := { name := "optionalFixpoint", fn := fun _ => fun
  | [d] => { results := [.lit (.bool false)], args := [d] }
  | _ => none }
def OptionalFixpointWrongFalsely : Prop := optionalFixpointRow.holds Try.pinned (OpenSpec.ofChange optionalFixpointWrong)

/-- 'accesscontrollaw12.OptionalNeeds': WHATEVER THE INPUT: true; the input reads as it did. -/
def optionalNeedsSpec : ChangeSpec := { name := "optionalNeeds", fn := fun _ => fun
  | [d] => { results := [.lit (.bool true)], args := [d] }
  | _ => none }
def optionalNeedsRow : OpenClaim := { program := "ytimbllcalipehaa", sum := "10279747ef32a6e49f7b66a6370f51bd3ac9b628c3f94bce72411683ccfd67cd", func := "accesscontrol/accesscontrollaw12.OptionalNeeds", spec := "optionalNeeds", unfollowed := true, recurses := true, loops := true, plainKeys := false, apart := false }
def OptionalNeedsSaid : Prop := optionalNeedsRow.holds Try.pinned (OpenSpec.ofChange optionalNeedsSpec)

/-- ITS FALSE NEIGHBOUR: 'it returns false'. Refute it at one input. -/
def optionalNeedsWrong : ChangeSpec := { name := "optionalNeeds", fn := fun _ => fun
  | [d] => { results := [.lit (.bool false)], args := [d] }
  | _ => none }
def OptionalNeedsWrongFalsely : Prop := optionalNeedsRow.holds Try.pinned (OpenSpec.ofChange optionalNeedsWrong)

/-- 'accesscontrollaw12.OptionalFlattens': WHATEVER THE INPUT: true; the input reads as it did. -/
def optionalFlattensSpec : ChangeSpec := { name := "optionalFlattens", fn := fun _ => fun
  | [d] => { results := [.lit (.bool true)], args := [d] }
  | _ => none }
def optionalFlattensRow : OpenClaim := { program := "ytimbllcalipehaa", sum := "10279747ef32a6e49f7b66a6370f51bd3ac9b628c3f94bce72411683ccfd67cd", func := "accesscontrol/accesscontrollaw12.OptionalFlattens", spec := "optionalFlattens", unfollowed := true, recurses := true, loops := true, plainKeys := false, apart := false }
def OptionalFlattensSaid : Prop := optionalFlattensRow.holds Try.pinned (OpenSpec.ofChange optionalFlattensSpec)

/-- ITS FALSE NEIGHBOUR: 'it returns false'. Refute it at one input. -/
def optionalFlattensWrong : ChangeSpec := { name := "optionalFlattens", fn := fun _ => fun
  | [d] => { results := [.lit (.bool false)], args := [d] }
  | _ => none }
def OptionalFlattensWrongFalsely : Prop := optionalFlattensRow.holds Try.pinned (OpenSpec.ofChange optionalFlattensWrong)

/-- 'accesscontrollaw12.OptionalPlain': WHATEVER THE INPUT: true; the input reads as it did. -/
def optionalPlainSpec : ChangeSpec := { name := "optionalPlain", fn := fun _ => fun
  | [d] => { results := [.lit (.bool true)], args := [d] }
  | _ => none }
def optionalPlainRow : OpenClaim := { program := "ytimbllcalipehaa", sum := "10279747ef32a6e49f7b66a6370f51bd3ac9b628c3f94bce72411683ccfd67cd", func := "accesscontrol/accesscontrollaw12.OptionalPlain", spec := "optionalPlain", unfollowed := true, recurses := true, loops := true, plainKeys := false, apart := false }
def OptionalPlainSaid : Prop := optionalPlainRow.holds Try.pinned (OpenSpec.ofChange optionalPlainSpec)

/-- ITS FALSE NEIGHBOUR: 'it returns false'. Refute it at one input. -/
def optionalPlainWrong : ChangeSpec := { name := "optionalPlain", fn := fun _ => fun
  | [d] => { results := [.lit (.bool false)], args := [d] }
  | _ => none }
def OptionalPlainWrongFalsely : Prop := optionalPlainRow.holds Try.pinned (OpenSpec.ofChange optionalPlainWrong)

/- THE SECOND FORM. 'bulk': how many values and letters a reading holds, each counted each time it is reached (what is shared counts as often as it is met; a slice's spare places count too). A statement '..UptoSaid' is the law's where the arguments, and the package variables that the reading takes, are together of bulk at most 1048576: NARROWER than '..Said'. Prove '..Said' where nothing that the law and all that it calls make is longer than what came in: it says more and counts as full. Else prove '..UptoSaid'. A law counts once. -/
mutual
def uptoBulk {H : Type} : DataW H → Nat
  | .lit (.string bytes) => bytes.length + 1
  | .lit _ => 1
  | .nil => 1
  | .ptr d => uptoBulk d + 1
  | .slice elems spare => uptoBulkAll elems + uptoBulkAll spare + 1
  | .agg parts => uptoBulkAll parts + 1
  | .iface _ d => uptoBulk d + 1
  | .map entries => uptoBulkEntries entries + 1
  | .held _ => 1
def uptoBulkAll {H : Type} : List (DataW H) → Nat
  | [] => 0
  | d :: r => uptoBulk d + uptoBulkAll r
def uptoBulkEntries {H : Type} : List (Lit × DataW H) → Nat
  | [] => 0
  | x :: r => uptoBulkEntry x + uptoBulkEntries r
def uptoBulkEntry {H : Type} : Lit × DataW H → Nat
  | (.string bytes, d) => bytes.length + uptoBulk d + 1
  | (_, d) => uptoBulk d + 1
 end
def uptoSmall : (H : Type) → List (DataW H) → Bool := fun _ ds => decide (uptoBulkAll ds ≤ 1048576)
def OpenSpec.upto (s : _root_.Go.ChangeSpec) : _root_.Go.OpenSpec := { _root_.Go.OpenSpec.ofChange s with cond := some uptoSmall }

/-- 'accesscontrollaw12.OptionalEnabled', WHERE WHAT IT READS IS OF BULK AT MOST 1048576: true; the input reads as it did. -/
def optionalEnabledUptoRow : OpenClaim := { program := "ytimbllcalipehaa", sum := "10279747ef32a6e49f7b66a6370f51bd3ac9b628c3f94bce72411683ccfd67cd", func := "accesscontrol/accesscontrollaw12.OptionalEnabled", spec := "optionalEnabled", unfollowed := true, recurses := true, loops := true, plainKeys := false, apart := false, narrowed := true }
def OptionalEnabledUptoSaid : Prop := optionalEnabledUptoRow.holds Try.pinned (OpenSpec.upto optionalEnabledSpec)

/-- 'accesscontrollaw12.OptionalOrders', WHERE WHAT IT READS IS OF BULK AT MOST 1048576: true; the input reads as it did. -/
def optionalOrdersUptoRow : OpenClaim := { program := "ytimbllcalipehaa", sum := "10279747ef32a6e49f7b66a6370f51bd3ac9b628c3f94bce72411683ccfd67cd", func := "accesscontrol/accesscontrollaw12.OptionalOrders", spec := "optionalOrders", unfollowed := true, recurses := true, loops := true, plainKeys := false, apart := false, narrowed := true }
def OptionalOrdersUptoSaid : Prop := optionalOrdersUptoRow.holds Try.pinned (OpenSpec.upto optionalOrdersSpec)

/-- 'accesscontrollaw12.OptionalFixpoint', WHERE WHAT IT READS IS OF BULK AT MOST 1048576: true; the input reads as it did. -/
def optionalFixpointUptoRow : OpenClaim := { program := "ytimbllcalipehaa", sum := "10279747ef32a6e49f7b66a6370f51bd3ac9b628c3f94bce72411683ccfd67cd", func := "accesscontrol/accesscontrollaw12.OptionalFixpoint", spec := "optionalFixpoint", unfollowed := true, recurses := true, loops := true, plainKeys := false, apart := false, narrowed := true }
def OptionalFixpointUptoSaid : Prop := optionalFixpointUptoRow.holds Try.pinned (OpenSpec.upto optionalFixpointSpec)

/-- 'accesscontrollaw12.OptionalNeeds', WHERE WHAT IT READS IS OF BULK AT MOST 1048576: true; the input reads as it did. -/
def optionalNeedsUptoRow : OpenClaim := { program := "ytimbllcalipehaa", sum := "10279747ef32a6e49f7b66a6370f51bd3ac9b628c3f94bce72411683ccfd67cd", func := "accesscontrol/accesscontrollaw12.OptionalNeeds", spec := "optionalNeeds", unfollowed := true, recurses := true, loops := true, plainKeys := false, apart := false, narrowed := true }
def OptionalNeedsUptoSaid : Prop := optionalNeedsUptoRow.holds Try.pinned (OpenSpec.upto optionalNeedsSpec)

/-- 'accesscontrollaw12.OptionalFlattens', WHERE WHAT IT READS IS OF BULK AT MOST 1048576: true; the input reads as it did. -/
def optionalFlattensUptoRow : OpenClaim := { program := "ytimbllcalipehaa", sum := "10279747ef32a6e49f7b66a6370f51bd3ac9b628c3f94bce72411683ccfd67cd", func := "accesscontrol/accesscontrollaw12.OptionalFlattens", spec := "optionalFlattens", unfollowed := true, recurses := true, loops := true, plainKeys := false, apart := false, narrowed := true }
def OptionalFlattensUptoSaid : Prop := optionalFlattensUptoRow.holds Try.pinned (OpenSpec.upto optionalFlattensSpec)

/-- 'accesscontrollaw12.OptionalPlain', WHERE WHAT IT READS IS OF BULK AT MOST 1048576: true; the input reads as it did. -/
def optionalPlainUptoRow : OpenClaim := { program := "ytimbllcalipehaa", sum := "10279747ef32a6e49f7b66a6370f51bd3ac9b628c3f94bce72411683ccfd67cd", func := "accesscontrol/accesscontrollaw12.OptionalPlain", spec := "optionalPlain", unfollowed := true, recurses := true, loops := true, plainKeys := false, apart := false, narrowed := true }
def OptionalPlainUptoSaid : Prop := optionalPlainUptoRow.holds Try.pinned (OpenSpec.upto optionalPlainSpec)

end Rows
end Go.Proofs.Ytimbllcalipehaa
