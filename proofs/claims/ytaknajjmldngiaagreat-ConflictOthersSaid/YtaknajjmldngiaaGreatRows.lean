/-
  NARROWER THAN 'FOR EVERY INPUT', by the rows' own cells (each row's printed sentence says how): ConflictTransitions: loops · ConflictOthers: loops · ConflictExact: loops · ConflictSolved: loops · ConflictRules: loops.
  DERIVED. THE GIVEN ROWS OF THIS SEAT. 5 by the template 'for every input the law returns true; each argument reads behind the call as it read before'; 0 by the template 'total and deterministic' (their statements: YtaknajjmldngiaaGreatTotals.lean).
  GIVEN WITH THE SEED: the statements are not yours to turn. If you find one false, say at which input.
  Laid BY PROGRAM, IN A SANDBOX (cutbox-rows.mjs): the forced cells as the released guide's own fill.sh prints them over the translation 514a845c3c8e6360… (all of the seat's roots in one cut). By AI agents, Wed Nov 11 2026. No macro, syntax, notation, axiom, sorry.
-/
import Derived.Test.YtaknajjmldngiaaGreatChecked
import GoSem.Claim
import GoSem.ClaimJoined
import GoSem.ClaimMapViews
import Derived.JoinedTies
import Derived.KernelRfl
namespace Go.Proofs.YtaknajjmldngiaaGreat
/- THE CELL 'sum', in the pinned program and in every row, IS THE sha256 OF THE DUMP (.gsa) THAT YtaknajjmldngiaaGreatProg.lean LOADS. Nothing in Lean hashes anything: it is a label: what it is worth is what the hold of that sum in a sandbox is worth. -/
noncomputable def Tryz.pinned : Pinned := { name := "ytaknajjmldngiaagreat", sum := "514a845c3c8e6360edc15a29fbe8996d6b1f620ee3e45d303c871773dc572110", checked := Tryz.checked }
namespace Rows
def none {H : Type} : Left H := { results := [], args := [] }

/-- 'accesscontrollaw14.ConflictTransitions': WHATEVER THE INPUT: true; the input reads as it did. -/
def conflictTransitionsSpec : ChangeSpec := { name := "conflictTransitions", fn := fun _ => fun
  | [d] => { results := [.lit (.bool true)], args := [d] }
  | _ => none }
def conflictTransitionsRow : OpenClaim := { program := "ytaknajjmldngiaagreat", sum := "514a845c3c8e6360edc15a29fbe8996d6b1f620ee3e45d303c871773dc572110", func := "accesscontrol/accesscontrollaw14.ConflictTransitions", spec := "conflictTransitions", unfollowed := true, recurses := true, loops := true, plainKeys := false, apart := false }
def ConflictTransitionsSaid : Prop := conflictTransitionsRow.holds Tryz.pinned (OpenSpec.ofChange conflictTransitionsSpec)

/-- ITS FALSE NEIGHBOUR: 'it returns false'. Refute it at one input. -/
def conflictTransitionsWrong : ChangeSpec := { name := "conflictTransitions", fn := fun _ => fun
  | [d] => { results := [.lit (.bool false)], args := [d] }
  | _ => none }
def ConflictTransitionsWrongFalsely : Prop := conflictTransitionsRow.holds Tryz.pinned (OpenSpec.ofChange conflictTransitionsWrong)

/-- 'accesscontrollaw14.ConflictOthers': WHATEVER THE INPUT: true; the input reads as it did. -/
def conflictOthersSpec : ChangeSpec := { name := "conflictOthers", fn := fun _ => fun
  | [d] => { results := [.lit (.bool true)], args := [d] }
  | _ => none }
def conflictOthersRow : OpenClaim := { program := "ytaknajjmldngiaagreat", sum := "514a845c3c8e6360edc15a29fbe8996d6b1f620ee3e45d303c871773dc572110", func := "accesscontrol/accesscontrollaw14.ConflictOthers", spec := "conflictOthers", unfollowed := true, recurses := true, loops := true, plainKeys := false, apart := false }
def ConflictOthersSaid : Prop := conflictOthersRow.holds Tryz.pinned (OpenSpec.ofChange conflictOthersSpec)

/-- ITS FALSE NEIGHBOUR: 'it returns false'. Refute it at one input. -/
def conflictOthersWrong : ChangeSpec := { name := "conflictOthers", fn := fun _ => fun
  | [d] => { results := [.lit (.bool false)], args := [d] }
  | _ => none }
def ConflictOthersWrongFalsely : Prop := conflictOthersRow.holds Tryz.pinned (OpenSpec.ofChange conflictOthersWrong)

/-- 'accesscontrollaw14.ConflictExact': WHATEVER THE INPUT: true; the input reads as it did. -/
def conflictExactSpec : ChangeSpec := { name := "conflictExact", fn := fun _ => fun
  | [d] => { results := [.lit (.bool true)], args := [d] }
  | _ => none }
def conflictExactRow : OpenClaim := { program := "ytaknajjmldngiaagreat", sum := "514a845c3c8e6360edc15a29fbe8996d6b1f620ee3e45d303c871773dc572110", func := "accesscontrol/accesscontrollaw14.ConflictExact", spec := "conflictExact", unfollowed := true, recurses := true, loops := true, plainKeys := false, apart := false }
def ConflictExactSaid : Prop := conflictExactRow.holds Tryz.pinned (OpenSpec.ofChange conflictExactSpec)

/-- ITS FALSE NEIGHBOUR: 'it returns false'. Refute it at one input. -/
def conflictExactWrong : ChangeSpec := { name := "conflictExact", fn := fun _ => fun
  | [d] => { results := [.lit (.bool false)], args := [d] }
  | _ => none }
def ConflictExactWrongFalsely : Prop := conflictExactRow.holds Tryz.pinned (OpenSpec.ofChange conflictExactWrong)

/-- 'accesscontrollaw14.ConflictSolved': WHATEVER THE INPUT: true; the input reads as it did. -/
def conflictSolvedSpec : ChangeSpec := { name := "conflictSolved", fn := fun _ => fun
  | [d] => { results := [.lit (.bool true)], args := [d] }
  | _ => none }
def conflictSolvedRow : OpenClaim := { program := "ytaknajjmldngiaagreat", sum := "514a845c3c8e6360edc15a29fbe8996d6b1f620ee3e45d303c871773dc572110", func := "accesscontrol/accesscontrollaw14.ConflictSolved", spec := "conflictSolved", unfollowed := true, recurses := true, loops := true, plainKeys := false, apart := false }
def ConflictSolvedSaid : Prop := conflictSolvedRow.holds Tryz.pinned (OpenSpec.ofChange conflictSolvedSpec)

/-- ITS FALSE NEIGHBOUR: 'it returns false'. Refute it at one input. -/
def conflictSolvedWrong : ChangeSpec := { name := "conflictSolved", fn := fun _ => fun
  | [d] => { results := [.lit (.bool false)], args := [d] }
  | _ => none }
def ConflictSolvedWrongFalsely : Prop := conflictSolvedRow.holds Tryz.pinned (OpenSpec.ofChange conflictSolvedWrong)

/-- 'accesscontrollaw14.ConflictRules': WHATEVER THE INPUT: true; the input reads as it did. -/
def conflictRulesSpec : ChangeSpec := { name := "conflictRules", fn := fun _ => fun
  | [d] => { results := [.lit (.bool true)], args := [d] }
  | _ => none }
def conflictRulesRow : OpenClaim := { program := "ytaknajjmldngiaagreat", sum := "514a845c3c8e6360edc15a29fbe8996d6b1f620ee3e45d303c871773dc572110", func := "accesscontrol/accesscontrollaw14.ConflictRules", spec := "conflictRules", unfollowed := true, recurses := true, loops := true, plainKeys := false, apart := false }
def ConflictRulesSaid : Prop := conflictRulesRow.holds Tryz.pinned (OpenSpec.ofChange conflictRulesSpec)

/-- ITS FALSE NEIGHBOUR: 'it returns false'. Refute it at one input. -/
def conflictRulesWrong : ChangeSpec := { name := "conflictRules", fn := fun _ => fun
  | [d] => { results := [.lit (.bool false)], args := [d] }
  | _ => none }
def ConflictRulesWrongFalsely : Prop := conflictRulesRow.holds Tryz.pinned (OpenSpec.ofChange conflictRulesWrong)

/- THE SECOND FORM. 'bulk': how many values and letters a reading holds, each counted each time it is reached (what is shared counts as often as it is met; a slice's spare places count too). A statement '..UptoSaid' is the law's where the arguments, and the package variables that the reading takes, are together of bulk at most 1048576: NARROWER than '..Said'. Prove '..Said' where nothing that the law and all that it calls make is longer than what came in: it says more and counts as full. Else prove '..UptoSaid'. A law counts once. -/
mutual
def uptoBulk {H : Type} : DataW H → Nat
  | .lit (.string bytes) => bytes.length + 1
  | .lit _ => 1
  | .nil => 1
  | .ptr d => uptoBulk d + 1
  | .slice elems spare => uptoBulkAll elems + uptoBulkAll spare + 1
  | .agg parts => uptoBulkAll parts + 1
  | .iface _ d => uptoBulk d + 1
  | .map entries => uptoBulkEntries entries + 1
  | .held _ => 1
def uptoBulkAll {H : Type} : List (DataW H) → Nat
  | [] => 0
  | d :: r => uptoBulk d + uptoBulkAll r
def uptoBulkEntries {H : Type} : List (Lit × DataW H) → Nat
  | [] => 0
  | x :: r => uptoBulkEntry x + uptoBulkEntries r
def uptoBulkEntry {H : Type} : Lit × DataW H → Nat
  | (.string bytes, d) => bytes.length + uptoBulk d + 1
  | (_, d) => uptoBulk d + 1
 end
def uptoSmall : (H : Type) → List (DataW H) → Bool := fun _ ds => decide (uptoBulkAll ds ≤ 1048576)
def OpenSpec.upto (s : _root_.Go.ChangeSpec) : _root_.Go.OpenSpec := { _root_.Go.OpenSpec.ofChange s with cond := some uptoSmall }

/-- 'accesscontrollaw14.ConflictTransitions', WHERE WHAT IT READS IS OF BULK AT MOST 1048576: true; the input reads as it did. -/
def conflictTransitionsUptoRow : OpenClaim := { program := "ytaknajjmldngiaagreat", sum := "514a845c3c8e6360edc15a29fbe8996d6b1f620ee3e45d303c871773dc572110", func := "accesscontrol/accesscontrollaw14.ConflictTransitions", spec := "conflictTransitions", unfollowed := true, recurses := true, loops := true, plainKeys := false, apart := false, narrowed := true }
def ConflictTransitionsUptoSaid : Prop := conflictTransitionsUptoRow.holds Tryz.pinned (OpenSpec.upto conflictTransitionsSpec)

/-- 'accesscontrollaw14.ConflictOthers', WHERE WHAT IT READS IS OF BULK AT MOST 1048576: true; the input reads as it did. -/
def conflictOthersUptoRow : OpenClaim := { program := "ytaknajjmldngiaagreat", sum := "514a845c3c8e6360edc15a29fbe8996d6b1f620ee3e45d303c871773dc572110", func := "accesscontrol/accesscontrollaw14.ConflictOthers", spec := "conflictOthers", unfollowed := true, recurses := true, loops := true, plainKeys := false, apart := false, narrowed := true }
def ConflictOthersUptoSaid : Prop := conflictOthersUptoRow.holds Tryz.pinned (OpenSpec.upto conflictOthersSpec)

/-- 'accesscontrollaw14.ConflictExact', WHERE WHAT IT READS IS OF BULK AT MOST 1048576: true; the input reads as it did. -/
def conflictExactUptoRow : OpenClaim := { program := "ytaknajjmldngiaagreat", sum := "514a845c3c8e6360edc15a29fbe8996d6b1f620ee3e45d303c871773dc572110", func := "accesscontrol/accesscontrollaw14.ConflictExact", spec := "conflictExact", unfollowed := true, recurses := true, loops := true, plainKeys := false, apart := false, narrowed := true }
def ConflictExactUptoSaid : Prop := conflictExactUptoRow.holds Tryz.pinned (OpenSpec.upto conflictExactSpec)

/-- 'accesscontrollaw14.ConflictSolved', WHERE WHAT IT READS IS OF BULK AT MOST 1048576: true; the input reads as it did. -/
def conflictSolvedUptoRow : OpenClaim := { program := "ytaknajjmldngiaagreat", sum := "514a845c3c8e6360edc15a29fbe8996d6b1f620ee3e45d303c871773dc572110", func := "accesscontrol/accesscontrollaw14.ConflictSolved", spec := "conflictSolved", unfollowed := true, recurses := true, loops := true, plainKeys := false, apart := false, narrowed := true }
def ConflictSolvedUptoSaid : Prop := conflictSolvedUptoRow.holds Tryz.pinned (OpenSpec.upto conflictSolvedSpec)

/-- 'accesscontrollaw14.ConflictRules', WHERE WHAT IT READS IS OF BULK AT MOST 1048576: true; the input reads as it did. -/
def conflictRulesUptoRow : OpenClaim := { program := "ytaknajjmldngiaagreat", sum := "514a845c3c8e6360edc15a29fbe8996d6b1f620ee3e45d303c871773dc572110", func := "accesscontrol/accesscontrollaw14.ConflictRules", spec := "conflictRules", unfollowed := true, recurses := true, loops := true, plainKeys := false, apart := false, narrowed := true }
def ConflictRulesUptoSaid : Prop := conflictRulesUptoRow.holds Tryz.pinned (OpenSpec.upto conflictRulesSpec)

end Rows
end Go.Proofs.YtaknajjmldngiaaGreat
