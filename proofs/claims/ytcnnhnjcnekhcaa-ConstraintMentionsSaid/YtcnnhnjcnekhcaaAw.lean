/-
  THE EXAMPLES OF THE CHAPTER, by running the walk.
-/
import Derived.Test.YtcnnhnjcnekhcaaUb
import Derived.Test.YtcnnhnjcnekhcaaH17
set_option linter.unusedVariables false
set_option linter.unusedSimpArgs false
namespace Go.Proofs.Ytcnnhnjcnekhcaa.Ab
open Go
theorem awake_holds : Holds Try.prog gl 7 [] (.d (.bool true)) := holds_of_runX hm1 hs17 300 30 7 [] _ (by kernel_rfl)
end Go.Proofs.Ytcnnhnjcnekhcaa.Ab
