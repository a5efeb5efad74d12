import Derived.Test.YtghcpginhamelaaGreatAlg7
set_option linter.unusedVariables false
set_option linter.unusedSimpArgs false
namespace Go.Fg
end Go.Fg
