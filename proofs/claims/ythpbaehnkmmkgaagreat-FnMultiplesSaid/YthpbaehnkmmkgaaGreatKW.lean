/- A loop's head that forgets the slots from a number on (long walks). -/
-- tables
-- rec
import Derived.Test.YthpbaehnkmmkgaaGreatVm32
namespace Go.Vm
open Go
def trimE (k : Nat) (st : St) : St := ⟨st.env.take k ++ List.replicate (st.env.length - k) .undef, st.rt⟩
structure Hold (p : Prop) : Prop where
  out : p
section
variable {P : Program} {T : Tab} {kp : Nat}
theorem loop_cutR (hT : TabOk P T) (hm : P.follows .mixedOrders = true) (k : Nat) {body : Code} {Q : Exit → St → Prop} {st : St} {α : Type} (cs : α → List (Nat × D)) (rs : α → List (Nat × Option Root)) (J : α → Prop) (μ : α → Nat) (x0 : α) (h0 : J x0)
    (hw : forceNs (dstsC body) fun ds => WeakS kp st (gcSt kp (mkSt (trimE k st) ds (cs x0) (rs x0))))
    (round : ∀ x, J x → forceNs (dstsC body) fun ds => forceGc kp (mkSt (trimE k st) ds (cs x) (rs x)) (vcR P T kp body (fun e st' => match e with
      | .normal => ∃ y, J y ∧ μ y < μ x ∧ Weak kp st' (gcSt kp (mkSt (trimE k st) ds (cs y) (rs y)))
      | e => Q e st'))) : LoopK P kp body Q st :=
  loop_rule hT hm (fun x => gcSt kp (mkSt (trimE k st) (dstsC body) (cs x) (rs x))) J μ x0 h0 (by rw [forceNs_eq] at hw; exact hw.to) (fun x hx => by
    have h := round x hx
    rw [forceNs_eq, forceGc_eq, vcR_eq] at h
    exact h)
end
end Go.Vm

