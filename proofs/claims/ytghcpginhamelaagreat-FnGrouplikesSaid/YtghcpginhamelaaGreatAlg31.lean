import Derived.Test.YtghcpginhamelaaGreatAlg24
namespace Go.Fg
set_option linter.unusedVariables false
set_option linter.unusedSimpArgs false
set_option linter.unusedSectionVars false
namespace AG
variable {A : Type} (G : AG A)
end AG
structure Kil (P : Nat → Prop) : Prop where
 mul : ∀ n k, P n → P (n * k)
 gcd : ∀ n k, P n → P k → P (Nat.gcd n k)
namespace PS
section
variable {m : Int}
end
end PS
end Go.Fg
namespace Go.Fg
set_option linter.unusedVariables false
set_option linter.unusedSimpArgs false
set_option linter.unusedSectionVars false
namespace PS
section
variable {R : Type} [CR R]
end
section
variable {m : Int}
end
end PS
end Go.Fg
