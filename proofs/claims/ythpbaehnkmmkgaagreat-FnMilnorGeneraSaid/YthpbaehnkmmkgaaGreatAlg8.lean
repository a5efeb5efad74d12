/- Lazard's comparison for the degrees up to 10: numbers that fulfil the equations of symmetric cocycles are multiples of Lazard's. -/
import Derived.Test.YthpbaehnkmmkgaaGreatAlg7

set_option linter.unusedVariables false
set_option linter.unusedSimpArgs false
namespace Go.Fg
end Go.Fg
