import Derived.Test.YtndhpcigpghejaaGreatK22
import Derived.Test.YtndhpcigpghejaaGreatKP
namespace Go.Proofs
open Go Go.Vm Go.Fg Go.Fg.PS
set_option maxRecDepth 100000
set_option maxHeartbeats 4000000
set_option linter.unusedSimpArgs false
set_option linter.unusedVariables false
variable {m : Int}
theorem mk_l03Make : MakesAgg Tryz.prog 164 := fun m b n c => by
 refine pure_of_vc Tryz.tabOk mixOrd Tryz.func164 rfl rfl ?_
 conv => whnf
 repeat' first | ((first | refine z0 ?_ | (refine And.intro (fun h => ?_) (fun h => ?_) <;> (try simp only [cnt1, ints_length] at h)) | refine zS ?_ | refine zV ?_ | (apply zI; refine zP vObt ?_) | (apply zI; refine zP vObx ?_) | refine zA ?_ | refine Alt.fst ?_ | refine Or.inl ?_) <;> conv => whnf) | fail
end Go.Proofs
