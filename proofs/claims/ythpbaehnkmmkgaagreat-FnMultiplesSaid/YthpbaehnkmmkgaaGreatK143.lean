/- Each table of the law of Weierstrass. -/
import Derived.Test.YthpbaehnkmmkgaaGreatK133
import Derived.Test.YthpbaehnkmmkgaaGreatK31
namespace Go.Proofs
open Go Go.Vm Go.Fg Go.Fg.PS
set_option linter.unusedVariables false
theorem wei : Wei := fun _ hm n hn _ hd o a => ⟨wF n a, c_l08Weierstrass hm o n hn hd a⟩
end Go.Proofs

