/-
  THE EXAMPLES OF THE CHAPTER, by running the walk.
-/
import Derived.Test.YtcnnhnjcnekhcaaGreatVa
import Derived.Test.YtcnnhnjcnekhcaaGreatH17
set_option linter.unusedVariables false
set_option linter.unusedSimpArgs false
namespace Go.Proofs.YtcnnhnjcnekhcaaGreat.Ab
open Go
theorem awake_holds : Holds Tryz.prog gl 10 [] (.d (.bool true)) := holds_of_runX hm1 hs17 300 30 10 [] _ (by kernel_rfl)
end Go.Proofs.YtcnnhnjcnekhcaaGreat.Ab
