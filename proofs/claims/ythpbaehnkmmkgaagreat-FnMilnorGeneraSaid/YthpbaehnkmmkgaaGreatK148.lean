/- A loop's head that forgets the slots from a number on (long walks). -/
import Derived.Test.YthpbaehnkmmkgaaGreatVm32
import Derived.Test.YthpbaehnkmmkgaaGreatK139
import Derived.Test.YthpbaehnkmmkgaaGreatK27
import Derived.Test.YthpbaehnkmmkgaaGreatK13
import Derived.Test.YthpbaehnkmmkgaaGreatK133
import Derived.Test.YthpbaehnkmmkgaaGreatK128

-- tables
-- rec
namespace Go.Vm
open Go
def trimE (k : Nat) (st : St) : St := ⟨st.env.take k ++ List.replicate (st.env.length - k) .undef, st.rt⟩
structure Hold (p : Prop) : Prop where
  out : p
section
variable {P : Program} {T : Tab} {kp : Nat}
theorem loop_cutR (hT : TabOk P T) (hm : P.follows .mixedOrders = true) (k : Nat) {body : Code} {Q : Exit → St → Prop} {st : St} {α : Type} (cs : α → List (Nat × D)) (rs : α → List (Nat × Option Root)) (J : α → Prop) (μ : α → Nat) (x0 : α) (h0 : J x0)
    (hw : forceNs (dstsC body) fun ds => WeakS kp st (gcSt kp (mkSt (trimE k st) ds (cs x0) (rs x0))))
    (round : ∀ x, J x → forceNs (dstsC body) fun ds => forceGc kp (mkSt (trimE k st) ds (cs x) (rs x)) (vcR P T kp body (fun e st' => match e with
      | .normal => ∃ y, J y ∧ μ y < μ x ∧ Weak kp st' (gcSt kp (mkSt (trimE k st) ds (cs y) (rs y)))
      | e => Q e st'))) : LoopK P kp body Q st :=
  loop_rule hT hm (fun x => gcSt kp (mkSt (trimE k st) (dstsC body) (cs x) (rs x))) J μ x0 h0 (by rw [forceNs_eq] at hw; exact hw.to) (fun x hx => by
    have h := round x hx
    rw [forceNs_eq, forceGc_eq, vcR_eq] at h
    exact h)
end
end Go.Vm



-- tables
-- rec
namespace Go.Proofs
open Go Go.Vm Go.Fg Go.Fg.PS
set_option maxRecDepth 100000
set_option maxHeartbeats 4000000
set_option linter.unusedSimpArgs false
set_option linter.unusedVariables false
variable {m : Int}
end Go.Proofs



-- tables
-- rec
namespace Go.Proofs
open Go Go.Vm Go.Fg Go.Fg.PS
set_option maxRecDepth 100000
set_option maxHeartbeats 4000000
set_option linter.unusedSimpArgs false
set_option linter.unusedVariables false
variable {m : Int}
theorem serB_LX (hm : Md m) {n : Nat} (hn : 2 ≤ n ∧ n ≤ 11) (a : PS (Zm m)) : serB m (L n a) = true := by
  simp only [serB, Bool.and_eq_true]
  refine ⟨⟨?_, ?_⟩, ?_⟩
  · simpa [inB, Md] using hm
  · simp [inB]; omega
  · refine numsB_of (fun j hj => ?_)
    rw [L_getD _ (by simpa using hj)]
    have := Zm.val_range hm.pos (a.c j)
    simp [inB]; omega
end Go.Proofs



-- tables
-- rec
namespace Go.Proofs
open Go Go.Vm Go.Fg Go.Fg.PS
set_option maxRecDepth 100000
set_option maxHeartbeats 4000000
set_option linter.unusedSimpArgs false
set_option linter.unusedVariables false
variable {m : Int}
end Go.Proofs



-- tables
-- rec
namespace Go.Proofs
open Go Go.Vm Go.Fg Go.Fg.PS
set_option maxRecDepth 100000
set_option maxHeartbeats 4000000
set_option linter.unusedSimpArgs false
set_option linter.unusedVariables false
variable {m : Int}
end Go.Proofs



namespace Go.Proofs
open Go Go.Vm Go.Fg Go.Fg.PS
set_option maxRecDepth 100000
set_option linter.unusedSimpArgs false
set_option linter.unusedVariables false
variable {m : Int}
end Go.Proofs



-- tables
-- rec
namespace Go.Proofs
open Go Go.Vm Go.Fg Go.Fg.PS
set_option maxRecDepth 100000
set_option maxHeartbeats 4000000
set_option linter.unusedSimpArgs false
set_option linter.unusedVariables false
variable {m : Int}
end Go.Proofs



-- tables
-- rec
namespace Go.Proofs
open Go Go.Vm Go.Fg Go.Fg.PS
set_option maxRecDepth 100000
set_option maxHeartbeats 4000000
set_option linter.unusedSimpArgs false
set_option linter.unusedVariables false
open Classical in
noncomputable def exC (m : Int) (t : List (List Int)) (m' : Int) (t' : List (List Int)) : Int := if twC m t m' t' = 0 then (if t.length = 2 then 2 else if agr (rd2 m t) (rd2 m t') t.length < t.length - 1 then 5 else 0) else twC m t m' t'
end Go.Proofs


